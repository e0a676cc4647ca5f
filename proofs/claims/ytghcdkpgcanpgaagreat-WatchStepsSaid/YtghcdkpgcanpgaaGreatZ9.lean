/- Part 9 of the texts of this claim, merged: U3, U4, U5, E14, S2, U6, D8, D9, FT. No condition: plain theorems, contracts of functions. -/
import Derived.Test.YtghcdkpgcanpgaaGreatZ8
import Derived.ChangeSlices
import Derived.OpenShut
import Derived.SizedLaws
import Derived.Test.YtghcdkpgcanpgaaGreatProg
import Derived.KernelRfl

set_option linter.unusedSimpArgs false
set_option linter.unusedVariables false
/- Watching: a row among others: which rules it breaks. The map of the rules that were broken holds a list of pairs. -/
namespace Go.Anv
open Go
/-- The rule's first place. -/
def putN (r p : Int) (L : List (Int × Int)) : List (Int × Int) := match assoc r L with
  | none => L ++ [(r, p)]
  | some _ => L
/-- What api.Trace is: rows, cpu, off, code, output. -/
def tsegs (x : SV) (c : CpuV) (off code : Int) (y : SV) : List Seg := .one x :: (c.segs ++ [.one (.int .i64 off), .one (.int .i64 code), .one y])
/-- Which rule a row breaks: 1, 2, 4. -/
def bad1 (r : RowV) (i : Nat) : Bool := r.step != (i : Int) + 1
def bad2 (r q : RowV) (i : Nat) : Bool := bif decide ((i : Int) > 0) then bif (r.pc.toNat : Int) != (q.next.toNat : Int) then true else r.mode != q.nextMode else false
def bad4 (r : RowV) (off : Bool) : Bool := bif off then bif bif r.kind != 5 then true else (r.next.toNat : Int) != (r.pc.toNat : Int) then true else r.nextMode != r.mode else false
def put1 (b : Bool) (k : Int) (i : Nat) (L : List (Int × Int)) : List (Int × Int) := bif b then putN k i L else L
/-- What is written of a row. -/
def rowN0 (r q : RowV) (i : Nat) (off : Bool) (L : List (Int × Int)) : List (Int × Int) :=
  put1 (!r.moves) 5 i (put1 (bad4 r off) 4 i (put1 (!r.good) 3 i (put1 (bad2 r q i) 2 i (put1 (bad1 r i) 1 i L))))
def rowsB (m : Bool) (n : Nat) (f : Nat → RowV) (sp : Nat) : Blk := .recs m n 16 (fun i => (f i).svs) sp
/-- A trace as it was handed in. -/
structure TrV where
  n : Nat
  f : Nat → RowV
  c : CpuV
  off : Int
  code : Int
  no : Nat
  out : Nat → B8
def TrV.rowN (t : TrV) (i : Nat) (off : Bool) (L : List (Int × Int)) : List (Int × Int) := rowN0 (t.f i) (t.f (i - 1)) i off L
def TrV.walk (t : TrV) (cn co : Nat) (mr : Bool) (sr : Nat) (mo : Bool) (so : Nat) (L : List (Int × Int)) : List Blk :=
  [rowsB mr t.n t.f sr, bblk mo t.no t.out so, .cells true (tsegs (.gs 0 0 t.n cn) t.c t.off t.code (.gs 1 0 t.no co) ++ [.one (.map 3)]) 0, .map (ents L)]
end Go.Anv
namespace Go.Proofs.YtghcdkpgcanpgaaGreat
open Go Go.Anv
set_option maxRecDepth 100000 in
theorem broken_spec (t : TrV) (cn co sr so : Nat) (mr mo : Bool) (L : List (Int × Int)) (r p : Int) :
    Does TB 44 [.s (.ptr 2 0), .s (.int .i64 r), .s (.int .i64 p)] (t.walk cn co mr sr mo so L) (fun v h' => v = .tuple [] ∧ h' = t.walk cn co mr sr mo so (putN r p L)) := by
  refine fnX_does TB Tryz.func44 rfl (by decide) (fun O on hO => ?_)
  refine lookK_ints r L ?_
  cases e : assoc r L with
  | none =>
    have he : putN r p L = L ++ [(r, p)] := by unfold putN; rw [e]
    rw [he]
    refine putM_ints r p L e ?_
    exact Ends.same (h := t.walk cn co mr sr mo so (L ++ [(r, p)])) ⟨rfl, rfl⟩ (Nat.le_refl 4)
  | some q =>
    have he : putN r p L = L := by unfold putN; rw [e]
    rw [he]
    exact Ends.same (h := t.walk cn co mr sr mo so L) ⟨rfl, rfl⟩ (Nat.le_refl 4)
theorem ren_ents (ρ : Nat → Nat) : ∀ L : List (Int × Int), renM ρ (ents L) = ents L
  | [] => rfl
  | p :: L => by
    show (_, _) :: renM ρ (ents L) = _
    rw [ren_ents ρ L]; rfl
theorem broken_k (t : TrV) (cn co sr so : Nat) (mr mo : Bool) (L : List (Int × Int)) (r p : Int) (J : List Blk) {K : EV → List Blk → Prop} (hk : K (.tuple []) (t.walk cn co mr sr mo so (putN r p L) ++ J)) :
    Does TB 44 [.s (.ptr 2 0), .s (.int .i64 r), .s (.int .i64 p)] (t.walk cn co mr sr mo so L ++ J) K := by
  refine Does.at (broken_spec t cn co sr so mr mo L r p) [0, 1, 2, 3] rfl ⟨rfl, rfl, rfl, ?_, trivial⟩ (by decide) ?_ ?_
  · show some (Blk.map (ents L)) = some (Blk.map (renM _ (ents L)))
    rw [ren_ents]
  · rintro v h' ⟨_, rfl⟩
    exact ⟨.inr (.inr rfl), .inr (.inr rfl), .inl rfl, .inl rfl, trivial⟩
  · rintro v h' ⟨rfl, rfl⟩
    rw [forceH_eq, forceE_eq]
    show K (.tuple []) (_ :: _ :: _ :: Blk.map (renM _ (ents (putN r p L))) :: (J ++ []))
    rw [ren_ents, List.append_nil]
    exact hk
theorem row_end (t : TrV) (cn co sr so : Nat) (mr mo : Bool) (M L : List (Int × Int)) (J : List Blk) (e : M = L) :
    Anv.Ends 4 (fun v h' => v = .tuple [] ∧ h' = t.walk cn co mr sr mo so M) (.tuple []) (t.walk cn co mr sr mo so L ++ J) := by
  subst e
  refine Ends.ro (H := t.walk cn co mr sr mo so M) (J := J) rfl (eqvE_refl (.tuple [])) ?_
  show _ :: _ :: _ :: Blk.map (renM _ (ents M)) :: [] = _
  rw [ren_ents]; rfl
set_option maxHeartbeats 4000000 in
set_option maxRecDepth 100000 in
theorem row_spec (t : TrV) (cn co sr so : Nat) (mr mo : Bool) (L : List (Int × Int)) (i : Nat) (off : Bool) (hi : i < t.n) (hn : t.n ≤ 2 ^ 47) (ok : (t.f i).Ok) :
    Does TB 43 [.s (.ptr 2 0), .s (.int .i64 i), .s (.bool off)] (t.walk cn co mr sr mo so L) (fun v h' => v = .tuple [] ∧ h' = t.walk cn co mr sr mo so (t.rowN i off L)) := by
  have w1 : 0 < i → IntKind.i64.wrap ((i : Int) - 1) = (i : Int) - 1 := fun h => i64_in (by omega) (by omega)
  have w2 : IntKind.i64.wrap ((i : Int) + 1) = (i : Int) + 1 := i64_in (by omega) (by omega)
  have n1 : decide ((i : Int) > 0) = true → 0 ≤ IntKind.i64.wrap ((i : Int) - 1) ∧ IntKind.i64.wrap ((i : Int) - 1) < (t.n : Int) := fun h => by
    have h := of_decide_eq_true h
    rw [w1 (by omega)]; omega
  have n2 : decide ((i : Int) > 0) = true → (IntKind.i64.wrap ((i : Int) - 1)).toNat < t.n := fun h => by
    have h := of_decide_eq_true h
    rw [w1 (by omega)]; omega
  have an1 : ∀ {a b : Bool}, (a && b) = true → a = true := fun {a b} h => by cases a <;> simp at h <;> rfl
  have ix : decide ((i : Int) > 0) = true → (IntKind.i64.wrap ((i : Int) - 1)).toNat = i - 1 := fun h => by
    have h := of_decide_eq_true h
    rw [w1 (by omega)]; omega
  have k1 : ((t.f i).step != IntKind.i64.wrap ((i : Int) + 1)) = bad1 (t.f i) i := by rw [w2]; rfl
  have k2 : (bif decide ((i : Int) > 0) then bif ((t.f i).pc.toNat : Int) != ((t.f (IntKind.i64.wrap ((i : Int) - 1)).toNat).next.toNat : Int) then true else (t.f i).mode != (t.f (IntKind.i64.wrap ((i : Int) - 1)).toNat).nextMode else false) = bad2 (t.f i) (t.f (i - 1)) i := by
    unfold bad2
    cases hd : decide ((i : Int) > 0)
    · rfl
    · rw [ix hd]
  refine fnX_does TB Tryz.func43 rfl (by decide) (fun O on hO => ?_)
  repeat (refine need_intro (by first | omega | (exact ⟨by omega, by omega⟩) | exact fun h => h | exact nt | exact an2 | exact an3 | rfl | (simp; done) | fail) ?_)
  refine ifB_intro (fun h1 => ?_) (fun h1 => ?_)
  refine broken_k t cn co sr so mr mo _ _ _ [_] ?_
  all_goals
    refine draw_held on rfl (fun _ _ h => h) ?_
    repeat' (first
      | refine need_intro (by first | exact fun h => h | exact nt | exact an2 | exact an3 | rfl | (simp; done) | fail) ?_
      | refine need_intro (by first | exact n1 | exact n2 | exact fun h => n1 (an1 h) | exact fun h => n2 (an1 h) | fail) ?_
      | refine And.intro ?_ ?_
      | exact n1
      | exact n2
      | exact fun h => n1 (an1 h)
      | exact fun h => n2 (an1 h))
    refine ifB_intro (fun h2 => ?_) (fun h2 => ?_)
    refine broken_k t cn co sr so mr mo _ _ _ [_] ?_
    all_goals
      refine Does.atc (shaped_spec (t.f i) ok) [] rfl trivial (by decide) ?_
      refine ifB_intro (fun h3 => ?_) (fun h3 => ?_)
      refine broken_k t cn co sr so mr mo _ _ _ [_] ?_
      all_goals
        repeat (refine need_intro (by first | exact an2 | exact an3 | exact fun h => h | exact nt | exact an2 | exact an3 | rfl | (simp; done) | fail) ?_)
        refine ifB_intro (fun h4 => ?_) (fun h4 => ?_)
        refine broken_k t cn co sr so mr mo _ _ _ [_] ?_
        all_goals
          refine Does.atc (modes_spec (t.f i)) [] rfl trivial (by decide) ?_
          refine ifB_intro (fun h5 => ?_) (fun h5 => ?_)
          refine broken_k t cn co sr so mr mo _ _ _ [_] ?_
          all_goals
            refine row_end t cn co sr so mr mo _ _ [_] ?_
            simp only [TrV.rowN, rowN0, put1, k1.symm.trans h1, k2.symm.trans h2, h3, (show bad4 (t.f i) off = _ from h4), h5, cond_true, cond_false]
end Go.Proofs.YtghcdkpgcanpgaaGreat

/- Watching: the program's Trace. -/
namespace Go.Anv
open Go
def offN (t : TrV) : Nat → Bool
  | 0 => false
  | k + 1 => offN t k || ((t.f k).kind == 5)
def listN (t : TrV) : Nat → List (Int × Int)
  | 0 => []
  | k + 1 => t.rowN k (offN t k) (listN t k)
def bad6 (t : TrV) : Bool := bif ((t.f (t.n - 1)).next.toNat : Int) != (t.c.proper.pc.toNat : Int) then true else (t.f (t.n - 1)).nextMode != t.c.proper.mode
def TrV.seen (t : TrV) : List (Int × Int) := put1 (bif decide ((t.n : Int) > 0) then bad6 t else false) 6 t.n (listN t t.n)
/-- The lowest of the rules r, r + 1 .. that is there. -/
def lowF (L : List (Int × Int)) : Nat → Int → Int × Int
  | 0, _ => (0, 0)
  | n + 1, r => match assoc r L with
    | some p => (r, p)
    | none => lowF L n (r + 1)
def TrV.heap (t : TrV) (cn co : Nat) (mr : Bool) (sr : Nat) (mo : Bool) (so : Nat) (L : List (Int × Int)) : List Blk :=
  [rowsB mr t.n t.f sr, bblk mo t.no t.out so, .cells true (tsegs (.gs 0 0 t.n cn) t.c t.off t.code (.gs 1 0 t.no co)) 0, .map (ents L), .cells true (tsegs (.gs 0 0 t.n cn) t.c t.off t.code (.gs 1 0 t.no co) ++ [.one (.map 3)]) 0]
end Go.Anv
namespace Go.Proofs.YtghcdkpgcanpgaaGreat
open Go Go.Anv
theorem row_k (t : TrV) (cn co sr so : Nat) (mr mo : Bool) (L : List (Int × Int)) (i : Nat) (off : Bool) (hi : i < t.n) (hn : t.n ≤ 2 ^ 47) (ok : (t.f i).Ok) (J : List Blk) {K : EV → List Blk → Prop} (hk : K (.tuple []) (t.heap cn co mr sr mo so (t.rowN i off L) ++ J)) :
    Does TB 43 [.s (.ptr 4 0), .s (.int .i64 i), .s (.bool off)] (t.heap cn co mr sr mo so L ++ J) K := by
  refine Does.at (row_spec t cn co sr so mr mo L i off hi hn ok) [0, 1, 4, 3] rfl ⟨rfl, rfl, rfl, ?_, trivial⟩ (by decide) ?_ ?_
  · show some (Blk.map (ents L)) = some (Blk.map (renM _ (ents L)))
    rw [ren_ents]
  · rintro v h' ⟨_, rfl⟩
    exact ⟨.inr (.inr rfl), .inr (.inr rfl), .inl rfl, .inl rfl, trivial⟩
  · rintro v h' ⟨rfl, rfl⟩
    rw [forceH_eq, forceE_eq]
    show K (.tuple []) (_ :: _ :: _ :: Blk.map (renM _ (ents (t.rowN i off L))) :: _ :: (J ++ []))
    rw [ren_ents, List.append_nil]
    exact hk
theorem broke_k (t : TrV) (cn co sr so : Nat) (mr mo : Bool) (L : List (Int × Int)) (r p : Int) (J : List Blk) {K : EV → List Blk → Prop} (hk : K (.tuple []) (t.heap cn co mr sr mo so (putN r p L) ++ J)) :
    Does TB 44 [.s (.ptr 4 0), .s (.int .i64 r), .s (.int .i64 p)] (t.heap cn co mr sr mo so L ++ J) K := by
  refine Does.at (broken_spec t cn co sr so mr mo L r p) [0, 1, 4, 3] rfl ⟨rfl, rfl, rfl, ?_, trivial⟩ (by decide) ?_ ?_
  · show some (Blk.map (ents L)) = some (Blk.map (renM _ (ents L)))
    rw [ren_ents]
  · rintro v h' ⟨_, rfl⟩
    exact ⟨.inr (.inr rfl), .inr (.inr rfl), .inl rfl, .inl rfl, trivial⟩
  · rintro v h' ⟨rfl, rfl⟩
    rw [forceH_eq, forceE_eq]
    show K (.tuple []) (_ :: _ :: _ :: Blk.map (renM _ (ents (putN r p L))) :: _ :: (J ++ []))
    rw [ren_ents, List.append_nil]
    exact hk
set_option maxHeartbeats 4000000 in
set_option maxRecDepth 100000 in
theorem trace_spec (t : TrV) (cn co sr so : Nat) (mr mo : Bool) (hn : t.n ≤ 2 ^ 47) (ok : ∀ i, i < t.n → (t.f i).Ok) :
    Does TB 17 [.agg (tsegs (.gs 0 0 t.n cn) t.c t.off t.code (.gs 1 0 t.no co))] [rowsB mr t.n t.f sr, bblk mo t.no t.out so]
      (fun v h' => v = .tuple [.s (.int .i64 (lowF t.seen 6 1).1), .s (.int .i64 (lowF t.seen 6 1).2)] ∧ h' = [rowsB mr t.n t.f sr, bblk mo t.no t.out so]) := by
  refine fnXB_does TB Tryz.func17 rfl (by decide) (fun O on hO => ?_)
  intro O' on' hO' hle
  refine loop_in (A := Nat) on' (fun k => [(25, .s (.int .i64 (k : Int))), (5, .s (.bool (offN t k)))]) (fun k => t.heap cn co mr sr mo so (listN t k)) (fun k => k ≤ t.n) (fun k => t.n - k) 0 (Nat.zero_le _) [0, 1, 2, 3, 4] ?_ ?_
  · rw [hO']
    refine ⟨by decide, ⟨rfl, rfl, rfl, rfl, rfl, trivial⟩, ?_, ?_⟩
    · repeat' (first | exact eqvT_nil | refine eqvT_junk ?_ | refine eqvT_same ?_ | refine eqvT_int ?_ ?_ | refine eqvT_gs ⟨rfl, rfl, rfl, rfl⟩ ?_)
    · exact ⟨⟨_, rfl, eqvB_refl _⟩, ⟨_, rfl, eqvB_refl _⟩, ⟨_, rfl, eqvB_refl _⟩, ⟨_, rfl, eqvB_refl _⟩, ⟨_, rfl, eqvB_refl _⟩, trivial⟩
  intro k hk
  refine ifB_intro (fun h1 => ?_) (fun h1 => ?_)
  · have hk1 : k < t.n := by have := of_decide_eq_true h1; omega
    repeat (refine need_intro (by first | omega | (exact ⟨by omega, by omega⟩) | exact fun h => h | exact nt | exact an2 | exact an3 | rfl | (simp; done) | fail) ?_)
    refine row_k t cn co sr so mr mo _ k _ hk1 hn (ok k hk1) [_] ?_
    repeat (refine need_intro (by first | exact an2 | exact an3 | exact fun h => h | exact nt | exact an2 | exact an3 | rfl | (simp; done) | fail) ?_)
    refine ⟨k + 1, hk1, by show t.n - (k + 1) < t.n - k; omega, [0, 1, 2, 3, 4], ?_⟩
    rw [hO']
    refine ⟨by decide, ⟨rfl, rfl, rfl, rfl, rfl, trivial⟩, ?_, ?_⟩
    · repeat' (first | exact eqvT_nil | refine eqvT_junk ?_ | refine eqvT_same ?_ | refine eqvT_int ?_ ?_ | refine eqvT_gs ⟨rfl, rfl, rfl, rfl⟩ ?_)
      · rw [i64_in (by omega) (by omega)]; rfl
    · refine ⟨⟨_, rfl, eqvB_refl _⟩, ⟨_, rfl, eqvB_refl _⟩, ⟨_, rfl, eqvB_refl _⟩, ⟨_, rfl, ?_⟩, ⟨_, rfl, eqvB_refl _⟩, trivial⟩
      show eqvB (Blk.map (ents (t.rowN k (offN t k) (listN t k)))) (Blk.map (renM _ (ents (listN t (k + 1)))))
      rw [ren_ents]; exact eqvB_refl _
  have hk1 : k = t.n := by have := of_decide_eq_false h1; omega
  subst hk1
  have fin : ∀ {a b : Int} {J : List Blk}, lowF t.seen 6 1 = (a, b) → Anv.Ends 2 (fun v h' => v = .tuple [.s (.int .i64 (lowF t.seen 6 1).1), .s (.int .i64 (lowF t.seen 6 1).2)] ∧ h' = [rowsB mr t.n t.f sr, bblk mo t.no t.out so]) (.tuple [.s (.int .i64 a), .s (.int .i64 b)]) ([rowsB mr t.n t.f sr, bblk mo t.no t.out so] ++ J) := by
    intro a b J e
    rw [e]
    exact Ends.ro (H := [rowsB mr t.n t.f sr, bblk mo t.no t.out so]) (J := J) rfl (eqvE_refl _) rfl
  have hz : IntKind.i64.wrap ((t.n : Int) - 1) = (t.n : Int) - 1 := i64_in (by omega) (by omega)
  have k3 : (bif ((t.f (IntKind.i64.wrap ((t.n : Int) - 1)).toNat).next.toNat : Int) != (t.c.proper.pc.toNat : Int) then true else (t.f (IntKind.i64.wrap ((t.n : Int) - 1)).toNat).nextMode != t.c.proper.mode) = bad6 t := by
    rw [hz, show ((t.n : Int) - 1).toNat = t.n - 1 by omega]; rfl
  refine ifB_intro (fun h2 => ?_) (fun h2 => ?_)
  · have h2' := of_decide_eq_true h2
    refine (proper_spec t.c _).mono ?_
    rintro v h' ⟨rfl, rfl⟩
    repeat (refine need_intro (by first | (rw [hz]; omega) | omega | exact an2 | exact an3 | exact fun h => h | exact nt | exact an2 | exact an3 | rfl | (simp; done) | fail) ?_)
    refine ifB_intro (fun h3 => ?_) (fun h3 => ?_)
    · have hs : t.seen = putN 6 t.n (listN t t.n) := by
        unfold TrV.seen; rw [h2, k3.symm.trans h3]; rfl
      refine broke_k t cn co sr so mr mo _ _ _ [_, _] ?_

      refine loop_in (A := Nat) on' (fun k => [(11, .s (.int .i64 ((k : Int) + 1))), (9, .junk), (10, .junk), (55, .junk), (57, .junk), (61, .junk), (63, .junk)]) (fun _ => t.heap cn co mr sr mo so t.seen) (fun k => k ≤ 6 ∧ lowF t.seen 6 1 = lowF t.seen (6 - k) ((k : Int) + 1)) (fun k => 6 - k) 0 ⟨Nat.zero_le _, rfl⟩ [0, 1, 2, 3, 4] ?_ ?_
      · rw [hO']
        refine ⟨by decide, ⟨rfl, rfl, rfl, rfl, rfl, trivial⟩, ?_, ?_⟩
        · repeat' (first | exact eqvT_nil | refine eqvT_junk ?_ | refine eqvT_same ?_ | refine eqvT_int ?_ ?_ | refine eqvT_gs ⟨rfl, rfl, rfl, rfl⟩ ?_)

        · refine ⟨⟨_, rfl, eqvB_refl _⟩, ⟨_, rfl, eqvB_refl _⟩, ⟨_, rfl, eqvB_refl _⟩, ⟨_, rfl, ?_⟩, ⟨_, rfl, eqvB_refl _⟩, trivial⟩
          refine Eq.mp (congrArg (fun x => eqvB x (Blk.map (renM _ (ents t.seen)))) (congrArg (fun L => Blk.map (ents L)) hs)) ?_
          rw [ren_ents]; exact eqvB_refl _
      intro k ⟨hk, hl⟩
      refine ifB_intro (fun h1 => ?_) (fun h1 => ?_)
      · have h1' := of_decide_eq_true h1
        refine lookK_ints ((k : Int) + 1) t.seen ?_
        obtain ⟨m, hm⟩ : ∃ m, 6 - k = m + 1 := ⟨5 - k, by omega⟩
        cases e : assoc ((k : Int) + 1) t.seen with
        | none =>
          refine ⟨k + 1, ⟨by omega, ?_⟩, by show 6 - (k + 1) < 6 - k; omega, [0, 1, 2, 3, 4], ?_⟩
          · rw [hl, hm]
            simp only [lowF, e]
            rw [show 6 - (k + 1) = m by omega]; rfl
          rw [hO']
          refine ⟨by decide, ⟨rfl, rfl, rfl, rfl, rfl, trivial⟩, ?_, ?_⟩
          · repeat' (first | exact eqvT_nil | refine eqvT_junk ?_ | refine eqvT_same ?_ | refine eqvT_int ?_ ?_ | refine eqvT_gs ⟨rfl, rfl, rfl, rfl⟩ ?_)
            rw [i64_in (by omega) (by omega)]; rfl
          · refine ⟨⟨_, rfl, eqvB_refl _⟩, ⟨_, rfl, eqvB_refl _⟩, ⟨_, rfl, eqvB_refl _⟩, ⟨_, rfl, ?_⟩, ⟨_, rfl, eqvB_refl _⟩, trivial⟩
            show eqvB (Blk.map (ents t.seen)) (Blk.map (renM _ (ents t.seen)))
            rw [ren_ents]; exact eqvB_refl _
        | some q =>
          refine fin (J := [_, _, _]) ?_
          rw [hl, hm]
          simp only [lowF, e]
      · have h1' := of_decide_eq_false h1
        refine fin (J := [_, _, _]) ?_
        rw [hl, show 6 - k = 0 by omega]; rfl
    · have hs : t.seen = listN t t.n := by
        unfold TrV.seen; rw [h2, k3.symm.trans h3]; rfl

      refine loop_in (A := Nat) on' (fun k => [(11, .s (.int .i64 ((k : Int) + 1))), (9, .junk), (10, .junk), (55, .junk), (57, .junk), (61, .junk), (63, .junk)]) (fun _ => t.heap cn co mr sr mo so t.seen) (fun k => k ≤ 6 ∧ lowF t.seen 6 1 = lowF t.seen (6 - k) ((k : Int) + 1)) (fun k => 6 - k) 0 ⟨Nat.zero_le _, rfl⟩ [0, 1, 2, 3, 4] ?_ ?_
      · rw [hO']
        refine ⟨by decide, ⟨rfl, rfl, rfl, rfl, rfl, trivial⟩, ?_, ?_⟩
        · repeat' (first | exact eqvT_nil | refine eqvT_junk ?_ | refine eqvT_same ?_ | refine eqvT_int ?_ ?_ | refine eqvT_gs ⟨rfl, rfl, rfl, rfl⟩ ?_)

        · refine ⟨⟨_, rfl, eqvB_refl _⟩, ⟨_, rfl, eqvB_refl _⟩, ⟨_, rfl, eqvB_refl _⟩, ⟨_, rfl, ?_⟩, ⟨_, rfl, eqvB_refl _⟩, trivial⟩
          refine Eq.mp (congrArg (fun x => eqvB x (Blk.map (renM _ (ents t.seen)))) (congrArg (fun L => Blk.map (ents L)) hs)) ?_
          rw [ren_ents]; exact eqvB_refl _
      intro k ⟨hk, hl⟩
      refine ifB_intro (fun h1 => ?_) (fun h1 => ?_)
      · have h1' := of_decide_eq_true h1
        refine lookK_ints ((k : Int) + 1) t.seen ?_
        obtain ⟨m, hm⟩ : ∃ m, 6 - k = m + 1 := ⟨5 - k, by omega⟩
        cases e : assoc ((k : Int) + 1) t.seen with
        | none =>
          refine ⟨k + 1, ⟨by omega, ?_⟩, by show 6 - (k + 1) < 6 - k; omega, [0, 1, 2, 3, 4], ?_⟩
          · rw [hl, hm]
            simp only [lowF, e]
            rw [show 6 - (k + 1) = m by omega]; rfl
          rw [hO']
          refine ⟨by decide, ⟨rfl, rfl, rfl, rfl, rfl, trivial⟩, ?_, ?_⟩
          · repeat' (first | exact eqvT_nil | refine eqvT_junk ?_ | refine eqvT_same ?_ | refine eqvT_int ?_ ?_ | refine eqvT_gs ⟨rfl, rfl, rfl, rfl⟩ ?_)
            rw [i64_in (by omega) (by omega)]; rfl
          · refine ⟨⟨_, rfl, eqvB_refl _⟩, ⟨_, rfl, eqvB_refl _⟩, ⟨_, rfl, eqvB_refl _⟩, ⟨_, rfl, ?_⟩, ⟨_, rfl, eqvB_refl _⟩, trivial⟩
            show eqvB (Blk.map (ents t.seen)) (Blk.map (renM _ (ents t.seen)))
            rw [ren_ents]; exact eqvB_refl _
        | some q =>
          refine fin (J := [_, _, _]) ?_
          rw [hl, hm]
          simp only [lowF, e]
      · have h1' := of_decide_eq_false h1
        refine fin (J := [_, _, _]) ?_
        rw [hl, show 6 - k = 0 by omega]; rfl
  · have hs : t.seen = listN t t.n := by
      unfold TrV.seen; rw [h2]; rfl

    refine loop_in (A := Nat) on' (fun k => [(11, .s (.int .i64 ((k : Int) + 1))), (9, .junk), (10, .junk), (55, .junk), (57, .junk), (61, .junk), (63, .junk)]) (fun _ => t.heap cn co mr sr mo so t.seen) (fun k => k ≤ 6 ∧ lowF t.seen 6 1 = lowF t.seen (6 - k) ((k : Int) + 1)) (fun k => 6 - k) 0 ⟨Nat.zero_le _, rfl⟩ [0, 1, 2, 3, 4] ?_ ?_
    · rw [hO']
      refine ⟨by decide, ⟨rfl, rfl, rfl, rfl, rfl, trivial⟩, ?_, ?_⟩
      · repeat' (first | exact eqvT_nil | refine eqvT_junk ?_ | refine eqvT_same ?_ | refine eqvT_int ?_ ?_ | refine eqvT_gs ⟨rfl, rfl, rfl, rfl⟩ ?_)

      · refine ⟨⟨_, rfl, eqvB_refl _⟩, ⟨_, rfl, eqvB_refl _⟩, ⟨_, rfl, eqvB_refl _⟩, ⟨_, rfl, ?_⟩, ⟨_, rfl, eqvB_refl _⟩, trivial⟩
        refine Eq.mp (congrArg (fun x => eqvB x (Blk.map (renM _ (ents t.seen)))) (congrArg (fun L => Blk.map (ents L)) hs)) ?_
        rw [ren_ents]; exact eqvB_refl _
    intro k ⟨hk, hl⟩
    refine ifB_intro (fun h1 => ?_) (fun h1 => ?_)
    · have h1' := of_decide_eq_true h1
      refine lookK_ints ((k : Int) + 1) t.seen ?_
      obtain ⟨m, hm⟩ : ∃ m, 6 - k = m + 1 := ⟨5 - k, by omega⟩
      cases e : assoc ((k : Int) + 1) t.seen with
      | none =>
        refine ⟨k + 1, ⟨by omega, ?_⟩, by show 6 - (k + 1) < 6 - k; omega, [0, 1, 2, 3, 4], ?_⟩
        · rw [hl, hm]
          simp only [lowF, e]
          rw [show 6 - (k + 1) = m by omega]; rfl
        rw [hO']
        refine ⟨by decide, ⟨rfl, rfl, rfl, rfl, rfl, trivial⟩, ?_, ?_⟩
        · repeat' (first | exact eqvT_nil | refine eqvT_junk ?_ | refine eqvT_same ?_ | refine eqvT_int ?_ ?_ | refine eqvT_gs ⟨rfl, rfl, rfl, rfl⟩ ?_)
          rw [i64_in (by omega) (by omega)]; rfl
        · refine ⟨⟨_, rfl, eqvB_refl _⟩, ⟨_, rfl, eqvB_refl _⟩, ⟨_, rfl, eqvB_refl _⟩, ⟨_, rfl, ?_⟩, ⟨_, rfl, eqvB_refl _⟩, trivial⟩
          show eqvB (Blk.map (ents t.seen)) (Blk.map (renM _ (ents t.seen)))
          rw [ren_ents]; exact eqvB_refl _
      | some q =>
        refine fin (J := [_, _, _]) ?_
        rw [hl, hm]
        simp only [lowF, e]
    · have h1' := of_decide_eq_false h1
      refine fin (J := [_, _, _]) ?_
      rw [hl, show 6 - k = 0 by omega]; rfl
end Go.Proofs.YtghcdkpgcanpgaaGreat

/- Watching: what the laws try first, whatever is handed in. -/
namespace Go.Anv
open Go
def stillC : CpuV := ⟨2147483648#64, fun _ => 0#64, 0, false, 8589934592#64, 0#64, 0#64, 0#64, 0#64, 0#64, 0#64, 0#64, 0#64, 0#64, 0#64, 0#64, fun _ => 0#8, fun _ => 0#64, false, 0#64, 0⟩
def stillB : BusV := ⟨8, 0#32, 9#64, 0#64, false, false, 0#8, 0#8, 0#8, 0#8, false, 0, 0, 0, 0⟩
def stillL : Lists := ⟨true, 0, fun _ => 0#8, true, 0, fun _ => 0#8, true, 0, fun _ => 0#8⟩
def bC : CpuV := { stillC with cfg := fun j => if j = 0 then 31#8 else 0#8, addr := fun j => if j = 0 then 18014398509481983#64 else 0#64 }
def aC : CpuV := { bC with pc := 2147483652#64, mcycle := 1#64, minstret := 1#64, x := fun j => if j = 5 then 7#64 else 0#64 }
def aD : CpuV := { aC with x := fun j => if j = 6 then 1#64 else if j = 5 then 7#64 else 0#64 }
def oneR : RowV := ⟨1, 1, 0, 2147483648#64, 19#32, 4, 0#64, 0#64, 5, 7#64, 0, 0#64, 0, 0#64, 2147483652#64, 0⟩
def stillF : Lists := ⟨false, 0, fun _ => 0#8, false, 0, fun _ => 0#8, false, 0, fun _ => 0#8⟩
def sixL : Lists := { stillL with ram := fun j => if j = 3 then 1#8 else 0#8 }
def zeroC : CpuV := { stillC with pc := 0#64, mstatus := 0#64 }
def twoR : RowV := ⟨2, 0, 0, 0#64, 0#32, 0, 0#64, 0#64, 0, 0#64, 0, 0#64, 0, 0#64, 0#64, 0⟩
def oneT : TrV := ⟨1, fun _ => twoR, zeroC, 0, 0, 0, fun _ => 0#8⟩
theorem twoR_ok : twoR.Ok := by
  constructor <;> (show (-9223372036854775808 : Int) ≤ 0 ∧ (0 : Int) ≤ 9223372036854775807) <;> decide
theorem one_low : lowF oneT.seen 6 1 = (1, 0) := by decide +kernel
def firstZ (d : CpuV) (k : Lists) : Sc := ⟨bC, d, d, stillB, stillB, stillL, k, false, false, false, 0, true, 0, fun _ => 0#8, oneR, 8, 0, 0, 8, 0, 0, 0⟩
end Go.Anv
namespace Go.Proofs.YtghcdkpgcanpgaaGreat
open Go Go.Anv
set_option maxRecDepth 100000 in
theorem still_spec : Does TB 15 [] [] (fun v h' => v = .agg (wsegs stillC stillB (.gs 0 0 8 8) .nilslice .nilslice) ∧ h' = [bblk true 8 (fun _ => 0#8) 0]) := by
  refine fnX_does TB Tryz.func15 rfl (by decide) (fun O on hO => ?_)
  repeat (refine need_intro (by first | exact an2 | exact an3 | exact fun h => h | exact nt | exact an2 | exact an3 | rfl | (simp; done) | fail) ?_)
  refine draw_but [0] on rfl (fun _ _ h => h) ?_
  repeat (refine need_intro (by first | exact an2 | exact an3 | (exact ⟨by decide, by decide, by decide, by decide⟩) | exact fun h => h | exact nt | exact an2 | exact an3 | rfl | (simp; done) | fail) ?_)
  refine ⟨_, _, [2], ⟨rfl, rfl⟩, by decide, trivial, ?_, ⟨⟨_, rfl, ⟨rfl, rfl, ⟨⟨rfl, rfl, fun j _ => rfl⟩, trivial⟩⟩⟩, trivial⟩⟩
  show eqvS _ _
  repeat' (first | exact eqvS_nil | refine eqvS_same ?_ | refine eqvS_gs ⟨rfl, rfl, rfl, rfl⟩ ?_ | refine eqvS_ints (fun j _ => rfl) ?_)
theorem still_g : Does TB 15 [] [] (fun v h' => v = .agg (wsegs stillC stillB (.gs 0 0 8 8) (.gs 1 0 0 0) (.gs 2 0 0 0)) ∧ h' = stillL.blks stillB) :=
  Does.ghR .u8 (bfun fun _ => 0#8) (Does.ghR .u8 (bfun fun _ => 0#8) still_spec)
theorem first_0 : (firstZ aC stillL).made.step = 0 := by decide +kernel
theorem first_4 : (firstZ aD stillL).made.step = 4 := by decide +kernel
theorem first_6 : (firstZ aC sixL).made.step = 6 := by decide +kernel
theorem firstZ_ok (d : CpuV) (k : Lists) : (firstZ d k).Ok := by
  refine ⟨?_, ?_, ?_, ?_, ?_, ?_, ?_, ?_, ?_, ?_, ?_, ?_, ?_⟩ <;> first | exact Nat.le_refl _ | exact Nat.zero_le _ | (show 8 ≤ 140737488355328; decide) | (show (-9223372036854775808 : Int) ≤ 0 ∧ (0 : Int) ≤ 9223372036854775807; decide)
theorem agr_aa : agreeS aC aC stillB stillB stillF stillF = true := by decide +kernel
theorem agr_ab : agreeS aC bC stillB stillB stillL stillL = false := by decide +kernel
theorem agr_aa_spec : Does TB 16 [.agg (wsegs aC stillB (.gs 0 0 8 8) (.gs 1 0 0 0) (.gs 2 0 0 0)), .agg (wsegs aC stillB (.gs 3 0 8 8) (.gs 4 0 0 0) (.gs 5 0 0 0))] (stillF.blks stillB ++ stillF.blks stillB) (fun v h' => v = .s (.bool true) ∧ h' = stillF.blks stillB ++ stillF.blks stillB) := by
  have e := agree_spec aC aC stillB stillB stillF stillF 8 0 0 8 0 0 (by decide)
  rw [agr_aa] at e
  exact e
theorem agr_ab_spec : Does TB 16 [.agg (wsegs aC stillB (.gs 0 0 8 8) (.gs 1 0 0 0) (.gs 2 0 0 0)), .agg (wsegs bC stillB (.gs 3 0 8 8) (.gs 4 0 0 0) (.gs 5 0 0 0))] (stillL.blks stillB ++ stillL.blks stillB) (fun v h' => v = .s (.bool false) ∧ h' = stillL.blks stillB ++ stillL.blks stillB) := by
  have e := agree_spec aC bC stillB stillB stillL stillL 8 0 0 8 0 0 (by decide)
  rw [agr_ab] at e
  exact e
/-- A Step of the first ones, as it is called. -/
theorem step_k0 (d : CpuV) (k : Lists) (n : Int) (hn : (firstZ d k).made.step = n) {a1 a2 a4 : EV} {B C R : Blk} {K : EV → List Blk → Prop}
    (h1 : eqvE a1 (.agg (wsegs bC stillB (.gs 0 0 8 8) (.gs 1 0 0 0) (.gs 2 0 0 0)))) (h2 : eqvE a2 (.agg (wsegs d stillB (.gs 4 0 8 8) (.gs 5 0 0 0) (.gs 6 0 0 0)))) (h4 : eqvE a4 (.agg oneR.segs))
    (hk : K (.s (.int .i64 n)) (stillL.blks stillB ++ [B] ++ k.blks stillB ++ [C, R, .cells true [.ints .u8 0 (bfun fun _ => 0#8)] 0])) :
    Does TB 5 [a1, a2, .agg [.one (.bool false), .one (.bool false), .one (.bool false), .one .nilslice], a4] (stillL.blks stillB ++ [B] ++ k.blks stillB ++ [C, R]) K := by
  have e := step_spec (firstZ d k) (firstZ_ok d k)
  rw [hn] at e
  refine Does.args (b := [.agg (wsegs bC stillB (.gs 0 0 8 8) (.gs 1 0 0 0) (.gs 2 0 0 0)), .agg (wsegs d stillB (.gs 4 0 8 8) (.gs 5 0 0 0) (.gs 6 0 0 0)), .agg [.one (.bool false), .one (.bool false), .one (.bool false), .one .nilslice], .agg oneR.segs]) ⟨h1, h2, eqvE_refl _, h4, trivial⟩ ?_
  refine Does.ghA .u8 (bfun fun _ => 0#8) 2 ?_
  refine Does.atc e [0, 1, 2, 4, 5, 6, 9] rfl ⟨rfl, rfl, rfl, rfl, rfl, rfl, rfl, trivial⟩ (by decide) ?_
  exact hk
/-- A Step of the first ones, as it is called. -/
theorem step_k1 (d : CpuV) (k : Lists) (n : Int) (hn : (firstZ d k).made.step = n) {a1 a2 a4 : EV} {B C R : Blk} {G0 : Blk} {K : EV → List Blk → Prop}
    (h1 : eqvE a1 (.agg (wsegs bC stillB (.gs 0 0 8 8) (.gs 1 0 0 0) (.gs 2 0 0 0)))) (h2 : eqvE a2 (.agg (wsegs d stillB (.gs 4 0 8 8) (.gs 5 0 0 0) (.gs 6 0 0 0)))) (h4 : eqvE a4 (.agg oneR.segs))
    (hk : K (.s (.int .i64 n)) (stillL.blks stillB ++ [B] ++ k.blks stillB ++ [C, R, G0, .cells true [.ints .u8 0 (bfun fun _ => 0#8)] 0])) :
    Does TB 5 [a1, a2, .agg [.one (.bool false), .one (.bool false), .one (.bool false), .one .nilslice], a4] (stillL.blks stillB ++ [B] ++ k.blks stillB ++ [C, R, G0]) K := by
  have e := step_spec (firstZ d k) (firstZ_ok d k)
  rw [hn] at e
  refine Does.args (b := [.agg (wsegs bC stillB (.gs 0 0 8 8) (.gs 1 0 0 0) (.gs 2 0 0 0)), .agg (wsegs d stillB (.gs 4 0 8 8) (.gs 5 0 0 0) (.gs 6 0 0 0)), .agg [.one (.bool false), .one (.bool false), .one (.bool false), .one .nilslice], .agg oneR.segs]) ⟨h1, h2, eqvE_refl _, h4, trivial⟩ ?_
  refine Does.ghA .u8 (bfun fun _ => 0#8) 2 ?_
  refine Does.atc e [0, 1, 2, 4, 5, 6, 10] rfl ⟨rfl, rfl, rfl, rfl, rfl, rfl, rfl, trivial⟩ (by decide) ?_
  exact hk
/-- A Step of the first ones, as it is called. -/
theorem step_k2 (d : CpuV) (k : Lists) (n : Int) (hn : (firstZ d k).made.step = n) {a1 a2 a4 : EV} {B C R : Blk} {G0 G1 : Blk} {K : EV → List Blk → Prop}
    (h1 : eqvE a1 (.agg (wsegs bC stillB (.gs 0 0 8 8) (.gs 1 0 0 0) (.gs 2 0 0 0)))) (h2 : eqvE a2 (.agg (wsegs d stillB (.gs 4 0 8 8) (.gs 5 0 0 0) (.gs 6 0 0 0)))) (h4 : eqvE a4 (.agg oneR.segs))
    (hk : K (.s (.int .i64 n)) (stillL.blks stillB ++ [B] ++ k.blks stillB ++ [C, R, G0, G1, .cells true [.ints .u8 0 (bfun fun _ => 0#8)] 0])) :
    Does TB 5 [a1, a2, .agg [.one (.bool false), .one (.bool false), .one (.bool false), .one .nilslice], a4] (stillL.blks stillB ++ [B] ++ k.blks stillB ++ [C, R, G0, G1]) K := by
  have e := step_spec (firstZ d k) (firstZ_ok d k)
  rw [hn] at e
  refine Does.args (b := [.agg (wsegs bC stillB (.gs 0 0 8 8) (.gs 1 0 0 0) (.gs 2 0 0 0)), .agg (wsegs d stillB (.gs 4 0 8 8) (.gs 5 0 0 0) (.gs 6 0 0 0)), .agg [.one (.bool false), .one (.bool false), .one (.bool false), .one .nilslice], .agg oneR.segs]) ⟨h1, h2, eqvE_refl _, h4, trivial⟩ ?_
  refine Does.ghA .u8 (bfun fun _ => 0#8) 2 ?_
  refine Does.atc e [0, 1, 2, 4, 5, 6, 11] rfl ⟨rfl, rfl, rfl, rfl, rfl, rfl, rfl, trivial⟩ (by decide) ?_
  exact hk
theorem i3 (j : Nat) : (if j = 3 then (1 : Int) else 0) = bfun sixL.ram j := by
  show _ = ((if j = 3 then 1#8 else 0#8 : B8).toNat : Int)
  split <;> rfl
theorem six_eq (r : List Blk) : eqvH (.cells true [.ints .u8 8 (fun j => if j = 3 then 1 else 0)] 0 :: r) (bblk true 8 sixL.ram 0 :: r) :=
  ⟨⟨rfl, rfl, ⟨⟨rfl, rfl, fun j _ => i3 j⟩, trivial⟩⟩, eqvH_refl _⟩
theorem two_eq (r : List Blk) : eqvH (.cells true (twoR.svs.map .one) 0 :: r) (rowsB true 1 (fun _ => twoR) 0 :: r) := by
  exact ⟨⟨rfl, rfl, fun i _ => rfl, eqvS_refl _⟩, eqvH_refl _⟩
theorem trace1_spec : Does TB 17 [.agg (tsegs (.gs 0 0 1 1) zeroC 0 0 (.gs 1 0 0 0))] [rowsB true 1 (fun _ => twoR) 0, bblk true 0 (fun _ => 0#8) 0] (fun v h' => v = .tuple [.s (.int .i64 1), .s (.int .i64 0)] ∧ h' = [rowsB true 1 (fun _ => twoR) 0, bblk true 0 (fun _ => 0#8) 0]) := by
  have e := trace_spec oneT 1 0 0 0 true true (by decide) (fun i _ => twoR_ok)
  rw [one_low] at e
  exact e
theorem i5 (j : Nat) : (if j = 5 then (7 : Int) else 0) = wfun aC.x j := by
  show _ = ((if j = 5 then 7#64 else 0#64 : B64).toNat : Int)
  split <;> rfl
theorem iC (j : Nat) : (if j = 0 then (31 : Int) else 0) = bfun bC.cfg j := by
  show _ = ((if j = 0 then 31#8 else 0#8 : B8).toNat : Int)
  split <;> rfl
theorem iA (j : Nat) : (if j = 0 then (18014398509481983 : Int) else 0) = wfun bC.addr j := by
  show _ = ((if j = 0 then 18014398509481983#64 else 0#64 : B64).toNat : Int)
  split <;> rfl
theorem i6 (j : Nat) : (if j = 6 then (1 : Int) else if j = 5 then 7 else 0) = wfun aD.x j := by
  show _ = ((if j = 6 then 1#64 else if j = 5 then 7#64 else 0#64 : B64).toNat : Int)
  split
  · rfl
  · split <;> rfl
theorem i0 (j : Nat) : (if j = 6 then (0 : Int) else if j = 6 then (1 : Int) else if j = 5 then 7 else 0) = wfun aC.x j := by
  show _ = ((if j = 5 then 7#64 else 0#64 : B64).toNat : Int)
  by_cases h : j = 6
  · subst h; rfl
  · rw [if_neg h, if_neg h]
    split <;> rfl
set_option maxRecDepth 100000 in
theorem firstW_spec : Does TB 8 [] [] (fun v h' => v = .s (.bool true) ∧ h' = []) := by
  refine fnX_does TB Tryz.func8 rfl (by decide) (fun O on hO => ?_)
  refine Does.at still_g [] rfl trivial (by decide) ?_ ?_
  · rintro v h' ⟨_, rfl⟩
    exact ⟨.inl rfl, .inl rfl, .inl rfl, trivial⟩
  rintro v h' ⟨rfl, rfl⟩
  repeat (refine need_intro (by first | exact an2 | exact an3 | exact fun h => h | exact nt | exact an2 | exact an3 | rfl | (simp; done) | fail) ?_)
  refine Does.at still_g [] rfl trivial (by decide) ?_ ?_
  · rintro v h' ⟨_, rfl⟩
    exact ⟨.inl rfl, .inl rfl, .inl rfl, trivial⟩
  rintro v h' ⟨rfl, rfl⟩
  repeat (refine need_intro (by first | exact an2 | exact an3 | exact fun h => h | exact nt | exact an2 | exact an3 | rfl | (simp; done) | fail) ?_)
  refine step_k0 aC stillL 0 first_0 ?_ ?_ ?_ ?_
  · show eqvS _ _
    repeat' (first | exact eqvS_nil | refine eqvS_same ?_ | refine eqvS_gs ⟨rfl, rfl, rfl, rfl⟩ ?_ | refine eqvS_ints (fun j _ => by first | rfl | exact i5 j | exact iC j | exact iA j | exact i6 j | exact i0 j) ?_)
  · show eqvS _ _
    repeat' (first | exact eqvS_nil | refine eqvS_same ?_ | refine eqvS_gs ⟨rfl, rfl, rfl, rfl⟩ ?_ | refine eqvS_ints (fun j _ => by first | rfl | exact i5 j | exact iC j | exact iA j | exact i6 j | exact i0 j) ?_)
  · show eqvS _ _
    repeat' (first | exact eqvS_nil | refine eqvS_same ?_ | refine eqvS_gs ⟨rfl, rfl, rfl, rfl⟩ ?_ | refine eqvS_ints (fun j _ => by first | rfl | exact i5 j | exact iC j | exact iA j | exact i6 j | exact i0 j) ?_)
  refine Does.ungd (b := [.agg _, .agg _]) ⟨⟨rfl, rfl⟩, ⟨rfl, rfl⟩, trivial⟩ ?_
  refine Does.args (b := [.agg (wsegs aC stillB (.gs 4 0 8 8) (.gs 5 0 0 0) (.gs 6 0 0 0)), .agg (wsegs aC stillB (.gs 4 0 8 8) (.gs 5 0 0 0) (.gs 6 0 0 0))]) ⟨?_, ?_, trivial⟩ ?_
  · show eqvS _ _
    repeat' (first | exact eqvS_nil | refine eqvS_same ?_ | refine eqvS_gs ⟨rfl, rfl, rfl, rfl⟩ ?_ | refine eqvS_ints (fun j _ => by first | rfl | exact i5 j | exact iC j | exact iA j | exact i6 j | exact i0 j) ?_)
  · show eqvS _ _
    repeat' (first | exact eqvS_nil | refine eqvS_same ?_ | refine eqvS_gs ⟨rfl, rfl, rfl, rfl⟩ ?_ | refine eqvS_ints (fun j _ => by first | rfl | exact i5 j | exact iC j | exact iA j | exact i6 j | exact i0 j) ?_)
  refine Does.dup agr_aa_spec [4, 5, 6, 4, 5, 6] rfl rfl ⟨⟨_, _, _, rfl, rfl⟩, ⟨_, _, _, rfl, rfl⟩, ⟨_, _, _, rfl, rfl⟩, ⟨_, _, _, rfl, rfl⟩, ⟨_, _, _, rfl, rfl⟩, ⟨_, _, _, rfl, rfl⟩, trivial⟩ ?_
  repeat (refine need_intro (by first | exact an2 | exact an3 | exact fun h => h | exact nt | exact an2 | exact an3 | rfl | (simp; done) | fail) ?_)
  refine Does.ungd (b := [.agg _, .agg _]) ⟨⟨rfl, rfl⟩, ⟨rfl, rfl⟩, trivial⟩ ?_
  refine Does.args (b := [.agg (wsegs aC stillB (.gs 4 0 8 8) (.gs 5 0 0 0) (.gs 6 0 0 0)), .agg (wsegs bC stillB (.gs 0 0 8 8) (.gs 1 0 0 0) (.gs 2 0 0 0))]) ⟨?_, ?_, trivial⟩ ?_
  · show eqvS _ _
    repeat' (first | exact eqvS_nil | refine eqvS_same ?_ | refine eqvS_gs ⟨rfl, rfl, rfl, rfl⟩ ?_ | refine eqvS_ints (fun j _ => by first | rfl | exact i5 j | exact iC j | exact iA j | exact i6 j | exact i0 j) ?_)
  · show eqvS _ _
    repeat' (first | exact eqvS_nil | refine eqvS_same ?_ | refine eqvS_gs ⟨rfl, rfl, rfl, rfl⟩ ?_ | refine eqvS_ints (fun j _ => by first | rfl | exact i5 j | exact iC j | exact iA j | exact i6 j | exact i0 j) ?_)
  refine Does.atc (agr_ab_spec) [4, 5, 6, 0, 1, 2] rfl ⟨rfl, rfl, rfl, rfl, rfl, rfl, trivial⟩ (by decide) ?_
  repeat (refine need_intro (by first | exact an2 | exact an3 | exact fun h => h | exact nt | exact an2 | exact an3 | rfl | (simp; done) | fail) ?_)
  refine step_k1 aD stillL 4 first_4 ?_ ?_ ?_ ?_
  · show eqvS _ _
    repeat' (first | exact eqvS_nil | refine eqvS_same ?_ | refine eqvS_gs ⟨rfl, rfl, rfl, rfl⟩ ?_ | refine eqvS_ints (fun j _ => by first | rfl | exact i5 j | exact iC j | exact iA j | exact i6 j | exact i0 j) ?_)
  · show eqvS _ _
    repeat' (first | exact eqvS_nil | refine eqvS_same ?_ | refine eqvS_gs ⟨rfl, rfl, rfl, rfl⟩ ?_ | refine eqvS_ints (fun j _ => by first | rfl | exact i5 j | exact iC j | exact iA j | exact i6 j | exact i0 j) ?_)
  · show eqvS _ _
    repeat' (first | exact eqvS_nil | refine eqvS_same ?_ | refine eqvS_gs ⟨rfl, rfl, rfl, rfl⟩ ?_ | refine eqvS_ints (fun j _ => by first | rfl | exact i5 j | exact iC j | exact iA j | exact i6 j | exact i0 j) ?_)
  repeat (refine need_intro (by first | exact an2 | exact an3 | (show (3 : Nat) < 8; decide) | exact fun h => h | exact nt | exact an2 | exact an3 | rfl | (simp; done) | fail) ?_)
  refine Does.heq (eqvH_same (eqvH_same (eqvH_same (eqvH_same (six_eq _))))) ?_
  refine step_k2 aC sixL 6 first_6 ?_ ?_ ?_ ?_
  · show eqvS _ _
    repeat' (first | exact eqvS_nil | refine eqvS_same ?_ | refine eqvS_gs ⟨rfl, rfl, rfl, rfl⟩ ?_ | refine eqvS_ints (fun j _ => by first | rfl | exact i5 j | exact iC j | exact iA j | exact i6 j | exact i0 j) ?_)
  · show eqvS _ _
    repeat' (first | exact eqvS_nil | refine eqvS_same ?_ | refine eqvS_gs ⟨rfl, rfl, rfl, rfl⟩ ?_ | refine eqvS_ints (fun j _ => by first | rfl | exact i5 j | exact iC j | exact iA j | exact i6 j | exact i0 j) ?_)
  · show eqvS _ _
    repeat' (first | exact eqvS_nil | refine eqvS_same ?_ | refine eqvS_gs ⟨rfl, rfl, rfl, rfl⟩ ?_ | refine eqvS_ints (fun j _ => by first | rfl | exact i5 j | exact iC j | exact iA j | exact i6 j | exact i0 j) ?_)
  repeat (refine need_intro (by first | exact an2 | exact an3 | exact fun h => h | exact nt | exact an2 | exact an3 | rfl | (simp; done) | fail) ?_)
  refine Does.args (b := [.agg (tsegs (.gs 12 0 1 1) zeroC 0 0 .nilslice)]) ⟨?_, trivial⟩ ?_
  · show eqvS _ _
    repeat' (first | exact eqvS_nil | refine eqvS_same ?_ | refine eqvS_gs ⟨rfl, rfl, rfl, rfl⟩ ?_ | refine eqvS_ints (fun j _ => by first | rfl | exact i5 j | exact iC j | exact iA j | exact i6 j | exact i0 j) ?_)
  refine Does.heq (eqvH_same (eqvH_same (eqvH_same (eqvH_same (eqvH_same (eqvH_same (eqvH_same (eqvH_same (eqvH_same (eqvH_same (eqvH_same (eqvH_same (two_eq _))))))))))))) ?_
  refine Does.ghA .u8 (bfun fun _ => 0#8) 0 ?_
  refine Does.atc trace1_spec [12, 13] rfl ⟨rfl, rfl, trivial⟩ (by decide) ?_
  repeat (refine need_intro (by first | exact an2 | exact an3 | exact fun h => h | exact nt | exact an2 | exact an3 | rfl | (simp; done) | fail) ?_)
  exact Ends.ro (H := []) rfl rfl rfl
end Go.Proofs.YtghcdkpgcanpgaaGreat

/- The engine, part 14: the arguments of a statement: from what they read as to a small world. Plain theorems; their condition: what the program's table says of the types. -/
namespace Go.Anv
open Go

/-- What a cell of an argument, or a run of cells, is. -/
inductive FK where
  | int (k : IntKind)
  | bool
  | arr (k : IntKind) (n : Nat)
  | sl (k : IntKind)
  | rows (ks : List IntKind) (b : Nat)

def sizeF : List FK → Nat
  | [] => 0
  | .int _ :: r => sizeF r + 1
  | .bool :: r => sizeF r + 1
  | .arr _ n :: r => n + sizeF r
  | .sl _ :: r => sizeF r + 1
  | .rows _ _ :: r => sizeF r + 1

theorem sizeF_append : ∀ a b : List FK, sizeF (a ++ b) = sizeF a + sizeF b
  | [], b => by simp [sizeF]
  | .int _ :: r, b => by simp only [List.cons_append, sizeF, sizeF_append r b]; omega
  | .bool :: r, b => by simp only [List.cons_append, sizeF, sizeF_append r b]; omega
  | .arr _ _ :: r, b => by simp only [List.cons_append, sizeF, sizeF_append r b]; omega
  | .sl _ :: r, b => by simp only [List.cons_append, sizeF, sizeF_append r b]; omega
  | .rows _ _ :: r, b => by simp only [List.cons_append, sizeF, sizeF_append r b]; omega

/-- A slice of whole numbers as it came in. -/
def slIn (W : World) (k : IntKind) (a : Option Addr) (len cap : Nat) (f : Nat → Int) : Prop :=
  len ≤ 140737488351232 ∧ ((a = none ∧ len = 0 ∧ cap = 0) ∨ ∃ b o, a = some ⟨b, o, none⟩ ∧ b < W.heap.size ∧ len ≤ cap ∧ ∀ j, j < len → W.cell? ⟨b, o + j, none⟩ = some (.int k (f j)) ∧ (Lit.int k (f j)).wf = true)

/-- A slice of structs of whole numbers as it came in. -/
def rowsIn (W : World) (ks : List IntKind) (b : Nat) (a : Option Addr) (len cap : Nat) (f : Nat → Nat → Int) : Prop :=
  len * b ≤ 140737488351232 ∧ ((a = none ∧ len = 0 ∧ cap = 0) ∨ ∃ b o, a = some ⟨b, o, none⟩ ∧ b < W.heap.size ∧ len ≤ cap ∧ ∀ j, j < len → ∀ q k, ks[q]? = some k → W.cell? ⟨b, o + (j * ks.length + q), none⟩ = some (.int k (f j q)) ∧ (Lit.int k (f j q)).wf = true)

def fitF (W : World) : List FK → List Value → Prop
  | [], l => l = []
  | .int k :: r, l => ∃ a l', l = .int k a :: l' ∧ (Lit.int k a).wf = true ∧ fitF W r l'
  | .bool :: r, l => ∃ b l', l = .bool b :: l' ∧ fitF W r l'
  | .arr k n :: r, l => ∃ f l', l = intsOf k n f ++ l' ∧ (∀ j, j < n → (Lit.int k (f j)).wf = true) ∧ fitF W r l'
  | .sl k :: r, l => ∃ a len cap f l', l = .slice a len cap :: l' ∧ slIn W k a len cap f ∧ fitF W r l'
  | .rows ks b :: r, l => ∃ a len cap f l', l = .slice a len cap :: l' ∧ rowsIn W ks b a len cap f ∧ fitF W r l'

theorem fitF_length {W : World} : ∀ {ks : List FK} {l : List Value}, fitF W ks l → l.length = sizeF ks
  | [], _, h => by simp only [fitF] at h; subst h; rfl
  | .int _ :: r, _, h => by simp only [fitF] at h; obtain ⟨a, l', rfl, _, h⟩ := h; simp [sizeF, fitF_length h]
  | .bool :: r, _, h => by simp only [fitF] at h; obtain ⟨a, l', rfl, h⟩ := h; simp [sizeF, fitF_length h]
  | .arr _ _ :: r, _, h => by simp only [fitF] at h; obtain ⟨a, l', rfl, _, h⟩ := h; simp [sizeF, fitF_length h, length_intsOf]
  | .sl _ :: r, _, h => by simp only [fitF] at h; obtain ⟨a, len, cap, f, l', rfl, _, h⟩ := h; simp [sizeF, fitF_length h]
  | .rows _ _ :: r, _, h => by simp only [fitF] at h; obtain ⟨a, len, cap, f, l', rfl, _, h⟩ := h; simp [sizeF, fitF_length h]

theorem fitF_append {W : World} : ∀ {a b : List FK} {x y : List Value}, fitF W a x → fitF W b y → fitF W (a ++ b) (x ++ y)
  | [], b, x, y, h, h' => by simp only [fitF] at h; subst h; exact h'
  | .int k :: r, b, x, y, h, h' => by simp only [fitF] at h; obtain ⟨a, l', rfl, h1, h⟩ := h; exact ⟨a, l' ++ y, rfl, h1, fitF_append h h'⟩
  | .bool :: r, b, x, y, h, h' => by simp only [fitF] at h; obtain ⟨a, l', rfl, h⟩ := h; exact ⟨a, l' ++ y, rfl, fitF_append h h'⟩
  | .arr k n :: r, b, x, y, h, h' => by simp only [fitF] at h; obtain ⟨a, l', rfl, h1, h⟩ := h; exact ⟨a, l' ++ y, by simp, h1, fitF_append h h'⟩
  | .sl k :: r, b, x, y, h, h' => by simp only [fitF] at h; obtain ⟨a, len, cap, f, l', rfl, h1, h⟩ := h; exact ⟨a, len, cap, f, l' ++ y, rfl, h1, fitF_append h h'⟩
  | .rows k _ :: r, b, x, y, h, h' => by simp only [fitF] at h; obtain ⟨a, len, cap, f, l', rfl, h1, h⟩ := h; exact ⟨a, len, cap, f, l' ++ y, rfl, h1, fitF_append h h'⟩

/-- The fields of a struct, one behind the other. -/
def FFn (P : Program) (R : TypeId → List FK → Prop) : Nat → List Field → List FK → Prop
  | _, [], ks => ks = []
  | o, f :: fs, ks => ∃ k1 k2, ks = k1 ++ k2 ∧ f.offset = o ∧ P.cellsOf f.type = sizeF k1 ∧ R f.type k1 ∧ FFn P R (o + sizeF k1) fs k2

/-- The fields of a struct of whole numbers. -/
def RFn (P : Program) : Nat → List Field → List IntKind → Prop
  | _, [], ks => ks = []
  | o, f :: fs, ks => ∃ k ks', ks = k :: ks' ∧ f.offset = o ∧ P.underlying f.type = some (.int k) ∧ P.cellsOf f.type = 1 ∧ RFn P (o + 1) fs ks'
theorem RFn.get {P : Program} : ∀ {fs : List Field} {o : Nat} {ks : List IntKind}, RFn P o fs ks → ∀ q k, ks[q]? = some k → ∃ f, fs[q]? = some f ∧ f.offset = o + q ∧ P.underlying f.type = some (.int k) ∧ P.cellsOf f.type = 1
  | [], o, ks, h, q, k, hk => by simp only [RFn] at h; subst h; simp at hk
  | f :: fs, o, ks, h, q, k, hk => by
    simp only [RFn] at h
    obtain ⟨k0, ks', rfl, h1, h2, h3, h4⟩ := h
    cases q with
    | zero =>
      simp only [List.getElem?_cons_zero, Option.some.injEq] at hk
      subst hk
      exact ⟨f, rfl, by rw [h1]; rfl, h2, h3⟩
    | succ q =>
      obtain ⟨f', k1, k2, k3, k4⟩ := RFn.get h4 q k (by simpa using hk)
      exact ⟨f', by simpa using k1, by rw [k2]; omega, k3, k4⟩
theorem addr_add {a : Addr} (h : a.spot = none) (x : Nat) : a.add x = ⟨a.block, a.off + x, none⟩ := by
  unfold Addr.add
  cases a
  simp only at h
  subst h
  split
  · rename_i h0; subst h0; rfl
  · rfl

/-- A type of whole numbers, truth values, arrays and slices of whole numbers. -/
def FTn (P : Program) : Nat → TypeId → List FK → Prop
  | 0, _, _ => False
  | n + 1, t, ks => (∃ k, P.underlying t = some (.int k) ∧ ks = [.int k]) ∨ (P.underlying t = some .bool ∧ ks = [.bool]) ∨
      (∃ m e k, P.underlying t = some (.array m e) ∧ P.underlying e = some (.int k) ∧ P.cellsOf e = 1 ∧ P.cellsOf t = m ∧ ks = [.arr k m]) ∨
      (∃ e k, P.underlying t = some (.slice e) ∧ P.underlying e = some (.int k) ∧ P.cellsOf e = 1 ∧ 1 ≤ P.bytesOf e ∧ ks = [.sl k]) ∨
      (∃ fs, P.underlying t = some (.struct fs) ∧ P.cellsOf t = sizeF ks ∧ FFn P (FTn P n) 0 fs.toList ks) ∨
      (∃ e fs ks' b, P.underlying t = some (.slice e) ∧ P.underlying e = some (.struct fs) ∧ P.cellsOf e = ks'.length ∧ P.bytesOf e = b ∧ RFn P 0 fs.toList ks' ∧ ks = [.rows ks' b])

/-- A slice's place is in the heap. -/
def placed (W : World) (v : Value) : Prop := ∀ a l c, v = .slice (some a) l c → a.spot = none ∧ a.block < W.heap.size

theorem placed_of_okWide {P : Program} {W : World} {r : Reach} {base : Nat} {u : TypeId} {v : Value} (h : Cell.okWide P W r base u v) : placed W v := by
  rintro a l c rfl
  have h' : Cell.ok P W r base u (.slice (some a) l c) := by
    unfold Cell.okWide at h
    split at h <;> first
      | exact h
      | (rename_i h1 h2; cases h2)
  unfold Cell.ok at h'
  obtain ⟨e, _, _, hhas⟩ : ∃ e, l ≤ c ∧ (c : Int) ≤ IntKind.i64.max ∧ W.has P r base a e c := by
    cases hu : P.underlying u with
    | none => rw [hu] at h'; exact h'.elim
    | some d =>
      rw [hu] at h'
      cases d <;> first
        | exact h'.elim
        | exact ⟨_, h'⟩
  obtain ⟨_, hs, row, cells, hsh, _⟩ := hhas
  refine ⟨hs, ?_⟩
  rcases Nat.lt_or_ge a.block W.heap.size with hlt | hge
  · exact hlt
  · simp [World.shape?, Array.getElem?_eq_none hge] at hsh

theorem FTn.opens {H : Type} {enc : TypeId × Value → H} {P : Program} {W : World} {base : Nat} {held : Bool} : ∀ (n : Nat) {t : TypeId} {ks : List FK}, FTn P n t ks → ∀ {fuel : Nat} {cs : List Value} {x : DataW H × List MemPlace},
    DataW.trod enc P W base (fun _ => true) held fuel t cs = some x → (∀ v ∈ cs, placed W v) → (∀ m ∈ x.1.weights P t, m ≤ reachBytes) → fitF W ks cs
  | 0, _, _, h, _, _, _, _, _, _ => h.elim
  | n + 1, t, ks, h, fuel, cs, x, hx, hp, hw => by
    rcases h with ⟨k, h, rfl⟩ | ⟨h, rfl⟩ | ⟨m, e, k, h, h1, h2, h3, rfl⟩ | ⟨e, k, h, h1, h2, h3, rfl⟩ | ⟨fs, h, h1, h2⟩ | ⟨e, fs, kl, bb, h, he, hc, rfl, hr, rfl⟩
    · obtain ⟨a, rfl, _, hwf⟩ := DataW.trod_int h hx
      exact ⟨a, [], rfl, hwf, rfl⟩
    · obtain ⟨a, rfl, _⟩ := DataW.trod_bool h hx
      exact ⟨a, [], rfl, rfl⟩
    · obtain ⟨xs, m', _, _, hl, hxl, hel⟩ := DataW.trod_array h hx
      have each : ∀ i, i < m → ∃ a, cs[i]? = some (.int k a) ∧ (Lit.int k a).wf = true := fun i hi => by
        have h4 := hel i hi
        rw [h2, Nat.mul_one] at h4
        have h5 : xs[i]? = some xs[i] := List.getElem?_eq_getElem (by omega)
        rw [h5] at h4
        obtain ⟨a, h6, _, hwf⟩ := DataW.trod_int h1 h4
        refine ⟨a, ?_, hwf⟩
        have h7 := congrArg (·[0]?) h6
        simpa using h7
      refine ⟨fun i => match cs[i]? with | some (.int _ a) => a | _ => 0, [], ?_, fun j hj => ?_, rfl⟩
      · rw [List.append_nil]
        apply List.ext_getElem?
        intro i
        rcases Nat.lt_or_ge i m with hi | hi
        · obtain ⟨a, h4, _⟩ := each i hi
          rw [intsOf_get hi, h4]
        · rw [List.getElem?_eq_none (by omega), List.getElem?_eq_none (by rw [length_intsOf]; exact hi)]
      · obtain ⟨a, h4, hwf⟩ := each j hj
        simp only [h4]
        exact hwf
    · rcases ChangeShapes.open_ints h h1 h2 hx with ⟨rfl, _⟩ | ⟨a, l, c, zs, rfl, _, hl, hm, hz, rfl, hcell, hwz⟩
      · exact ⟨none, 0, 0, fun _ => 0, [], rfl, ⟨by omega, .inl ⟨rfl, rfl, rfl⟩⟩, rfl⟩
      · have hz : zs.length = c := by simpa using hz
        obtain ⟨hs, hb⟩ := hp _ List.mem_cons_self a l c rfl
        have hwt := hw ((l + (c - l)) * P.bytesOf e) (by simp [DataW.weights, h, ChangeShapes.lits, hz, hl])
        have hr : reachBytes = 140737488351232 := by decide
        have hle : l + (c - l) ≤ (l + (c - l)) * P.bytesOf e := Nat.le_mul_of_pos_right _ h3
        refine ⟨some a, l, c, fun j => zs.getD j 0, [], rfl, ⟨by omega, .inr ⟨a.block, a.off, ?_, hb, hl, fun j hj => ⟨?_, ?_⟩⟩⟩, rfl⟩
        · cases a; simp only at hs; subst hs; rfl
        · have := hcell j (by omega)
          unfold Addr.add at this
          split at this
          · rename_i h0
            subst h0
            cases a
            simp only at hs
            subst hs
            exact this
          · exact this
        · refine hwz _ ?_
          show zs.getD j 0 ∈ zs
          rw [List.getD_eq_getElem?_getD, List.getElem?_eq_getElem (by omega)]
          exact List.getElem_mem _
    · obtain ⟨xs, m', _, rfl, hl, hxl, hel⟩ := DataW.trod_struct h hx
      have key : ∀ (fl : List Field) (j o : Nat) (ks : List FK), FFn P (FTn P n) o fl ks → (∀ i f, fl[i]? = some f → fs.toList[j + i]? = some f) → o + sizeF ks ≤ cs.length → fitF W ks ((cs.drop o).take (sizeF ks)) := by
        intro fl
        induction fl with
        | nil =>
          intro j o ks hf _ _
          simp only [FFn] at hf
          subst hf
          simp [fitF, sizeF]
        | cons f fl ih =>
          intro j o ks hf hget hlen
          simp only [FFn] at hf
          obtain ⟨k1, k2, rfl, ho, hc, ht, hf⟩ := hf
          have hsz := sizeF_append k1 k2
          rw [hsz] at hlen ⊢
          have hj : fs[j]? = some f := by
            have := hget 0 f rfl
            rwa [Nat.add_zero, Array.getElem?_toList] at this
          have hjl : j < xs.length := by
            rw [hxl]
            rcases Nat.lt_or_ge j fs.size with h' | h'
            · exact h'
            · rw [Array.getElem?_eq_none h'] at hj; cases hj
          have h4 := hel j f hj
          rw [ho, hc, List.getElem?_eq_getElem hjl] at h4
          have h5 := FTn.opens n ht h4 (fun v hv => hp v (List.mem_of_mem_drop (List.mem_of_mem_take hv))) (fun m hm => hw m (by
            simp only [DataW.weights, h]
            refine DataW.weights_mem_each (j := j) (t := f.type) (d := (xs[j]).1) ?_ ?_ m hm
            · simp [hj]
            · simp [hjl]))
          have h6 := ih (j + 1) (o + sizeF k1) k2 hf (fun i f' hi => by
            have := hget (i + 1) f' (by simpa using hi)
            rwa [show j + (i + 1) = j + 1 + i by omega] at this) (by omega)
          have h7 := fitF_append h5 h6
          have h8 : (cs.drop o).take (sizeF k1) ++ (cs.drop (o + sizeF k1)).take (sizeF k2) = (cs.drop o).take (sizeF k1 + sizeF k2) := by
            rw [List.take_add, List.drop_drop]
          rwa [h8] at h7
      have h4 := key fs.toList 0 0 ks h2 (fun i f hi => by simpa using hi) (by rw [hl, h1]; omega)
      rw [List.drop_zero, List.take_of_length_le (by rw [hl, h1]; omega)] at h4
      exact h4
    · rcases DataW.trod_slice h hx with ⟨rfl, _⟩ | ⟨a, l, c, elems, rest, n', _, rfl, rfl, _, hl, _, hlen, hel, _⟩
      · exact ⟨none, 0, 0, fun _ _ => 0, [], rfl, ⟨by omega, .inl ⟨rfl, rfl, rfl⟩⟩, rfl⟩
      · obtain ⟨hs, hb⟩ := hp _ List.mem_cons_self a l c rfl
        have hwt := hw ((elems.length + rest.length) * P.bytesOf e) (by simp [DataW.weights, h])
        have hrb : reachBytes = 140737488351232 := by decide
        have hle : l * P.bytesOf e ≤ (elems.length + rest.length) * P.bytesOf e := Nat.mul_le_mul_right _ (by omega)
        have each : ∀ j, j < l → ∀ q k, kl[q]? = some k → ∃ x, W.cell? ⟨a.block, a.off + (j * kl.length + q), none⟩ = some (.int k x) ∧ (Lit.int k x).wf = true := fun j hj q k hk => by
          have h4 := hel j hj
          rw [List.getElem?_eq_getElem (by omega), Option.bind_eq_some_iff] at h4
          obtain ⟨cs', h5, h6⟩ := h4
          obtain ⟨xs, m', _, _, h7, h8, h9⟩ := DataW.trod_struct he h6
          obtain ⟨f, k1, k2, k3, k4⟩ := RFn.get hr q k hk
          have k1' : fs[q]? = some f := by rwa [Array.getElem?_toList] at k1
          have hq : q < xs.length := by
            rw [h8]
            rcases Nat.lt_or_ge q fs.size with h' | h'
            · exact h'
            · rw [Array.getElem?_eq_none h'] at k1'; cases k1'
          have h10 := h9 q f k1'
          rw [k2, k4, Nat.zero_add, List.getElem?_eq_getElem hq] at h10
          obtain ⟨x, h11, _, hwf⟩ := DataW.trod_int k3 h10
          have h12 : cs'[q]? = some (.int k x) := by
            have := congrArg (·[0]?) h11
            simpa using this
          have hqz : q < P.cellsOf e := by
            rw [hc]
            rcases Nat.lt_or_ge q kl.length with h' | h'
            · exact h'
            · rw [List.getElem?_eq_none h'] at hk; cases hk
          unfold World.cells? at h5
          split at h5
          · have h13 := mapM_some_get h5 q q (by simp [hqz])
            rw [h12, addr_add hs, addr_add rfl, hc] at h13
            refine ⟨x, ?_, hwf⟩
            rw [← Nat.add_assoc]
            exact h13
          · cases h5
        have ch : ∀ j q, ∃ x, j < l → ∀ k, kl[q]? = some k → W.cell? ⟨a.block, a.off + (j * kl.length + q), none⟩ = some (.int k x) ∧ (Lit.int k x).wf = true := fun j q => by
          by_cases hj : j < l
          · cases hk : kl[q]? with
            | none => exact ⟨0, fun _ k hk' => by cases hk'⟩
            | some k =>
              obtain ⟨x, h1⟩ := each j hj q k hk
              exact ⟨x, fun _ k' hk' => by cases hk'; exact h1⟩
          · exact ⟨0, fun h => absurd h hj⟩
        refine ⟨some a, l, c, fun j q => Classical.choose (ch j q), [], rfl, ⟨by omega, .inr ⟨a.block, a.off, ?_, hb, hl, fun j hj q k hk => Classical.choose_spec (ch j q) hj k hk⟩⟩, rfl⟩
        cases a; simp only at hs; subst hs; rfl

theorem struct_placed {P : Program} {W : World} {r : Reach} {base : Nat} {t : TypeId} {fs : Array Field} {v : Value} (ht : P.underlying t = some (.struct fs)) (h : Value.okWide P W r base t v) : ∃ cs, v = .agg cs ∧ ∀ x ∈ cs.toList, placed W x := by
  unfold Value.okWide at h
  rw [ht] at h
  obtain ⟨cs, rfl, _, ts, _, _, hrow⟩ := h
  refine ⟨cs, rfl, fun x hx => ?_⟩
  obtain ⟨i, hi⟩ := List.getElem?_of_mem hx
  obtain ⟨u, _, hu⟩ := hrow i x (by simpa using hi)
  exact placed_of_okWide hu

end Go.Anv

/- A whole as an argument: its plain values, its lists in three blocks. No condition. -/
namespace Go.Anv
open Go
theorem wf8 {n : Int} (h : (Lit.int .u8 n).wf = true) : n = ((BitVec.ofInt 8 n).toNat : Int) := by
  have h0 : 0 ≤ n ∧ n ≤ 255 := by
    simp only [Lit.wf, Bool.and_eq_true, decide_eq_true_eq] at h
    exact h
  rw [BitVec.toNat_ofInt]
  omega
theorem wf32 {n : Int} (h : (Lit.int .u32 n).wf = true) : n = ((BitVec.ofInt 32 n).toNat : Int) := by
  have h0 : 0 ≤ n ∧ n ≤ 4294967295 := by
    simp only [Lit.wf, Bool.and_eq_true, decide_eq_true_eq] at h
    exact h
  rw [BitVec.toNat_ofInt]
  omega
theorem wf64 {n : Int} (h : (Lit.int .u64 n).wf = true) : n = ((BitVec.ofInt 64 n).toNat : Int) := by
  have h0 : 0 ≤ n ∧ n ≤ 18446744073709551615 := by
    simp only [Lit.wf, Bool.and_eq_true, decide_eq_true_eq] at h
    exact h
  rw [BitVec.toNat_ofInt]
  omega
theorem wfi64 {n : Int} (h : (Lit.int .i64 n).wf = true) : -9223372036854775808 ≤ n ∧ n ≤ 9223372036854775807 := by
  simp only [Lit.wf, Bool.and_eq_true, decide_eq_true_eq] at h
  exact h

/-- Where a list of bytes lies that came in. -/
structure SlAt (W : World) (p : Loc) (n cap : Nat) (q : Nat → B8) : Prop where
  le : n ≤ 140737488351232
  cp : n ≤ cap
  lt : p.b < W.heap.size ∨ p.nl = true ∧ n = 0
  nl : p.nl = true → n = 0 ∧ cap = 0
  at_ : ∀ j, j < n → W.cell? ⟨p.b, p.o + j, none⟩ = some (.int .u8 (bfun q j))

def trim (n : Nat) (q : Nat → B8) (j : Nat) : B8 := if j < n then q j else 0#8
theorem ends_trim (n : Nat) (q : Nat → B8) : ∀ j, n ≤ j → trim n q j = 0#8 := fun j h => if_neg (by omega)
/-- Nothing behind the end. -/
theorem SlAt.trim {W : World} {p : Loc} {n cap : Nat} {q : Nat → B8} (h : SlAt W p n cap q) : SlAt W p n cap (trim n q) :=
  ⟨h.le, h.cp, h.lt, h.nl, fun j hj => by rw [h.at_ j hj, bfun, bfun, Anv.trim, if_pos hj]⟩

theorem slIn_at {W : World} {a : Option Addr} {len cap : Nat} {f : Nat → Int} (h : slIn W .u8 a len cap f) : ∃ p : Loc, SlAt W p len cap (fun j => BitVec.ofInt 8 (f j)) ∧ ∀ E : Emb, ∀ b, E.f b = p → b < E.n → denV E (.gs b 0 len cap) (.slice a len cap) := by
  obtain ⟨hle, ⟨rfl, rfl, rfl⟩ | ⟨b, o, rfl, hb, hlc, hc⟩⟩ := h
  · refine ⟨⟨0, 0, true⟩, ⟨hle, Nat.le_refl _, .inr ⟨rfl, rfl⟩, fun _ => ⟨rfl, rfl⟩, fun j hj => by omega⟩, fun E b hE hb => ?_⟩
    simp only [denV, hE]
    exact ⟨hb, fun _ => ⟨trivial, trivial⟩, rfl⟩
  · refine ⟨⟨b, o, false⟩, ⟨hle, hlc, .inl hb, (fun h => by cases h), fun j hj => ?_⟩, fun E b' hE hb' => ?_⟩
    · obtain ⟨h1, h2⟩ := hc j hj
      rw [h1]
      congr 2
      exact wf8 h2
    · simp only [denV, hE]
      refine ⟨hb', (fun h => by cases h), ?_⟩
      simp [Emb.at, hE]

/-- Three lists of bytes that came in, as a small world. -/
theorem sim3 {W : World} {p0 p1 p2 : Loc} {n0 n1 n2 c0 c1 c2 : Nat} {q0 q1 q2 : Nat → B8} (h0 : SlAt W p0 n0 c0 q0) (h1 : SlAt W p1 n1 c1 q1) (h2 : SlAt W p2 n2 c2 q2) :
    Sim ⟨3, fun i => match i with | 0 => p0 | 1 => p1 | _ => p2⟩ [bblk false n0 q0 0, bblk false n1 q1 0, bblk false n2 q2 0] W := by
  have one : ∀ {E : Emb} {p : Loc} {n c : Nat} {q : Nat → B8}, SlAt W p n c q → okBlk E W p (bblk false n q 0) := fun {E p n c q} h => by
    refine ⟨?_, ⟨intsOf .u8 n (bfun q) ++ [], ⟨[], rfl, rfl⟩, fun j v hj => ?_⟩, fun h => by cases h⟩
    · rcases h.lt with h | ⟨h, h'⟩
      · exact .inl h
      · exact .inr ⟨h, by simp [sizeS, h']⟩
    · rw [List.append_nil] at hj
      have hj' : j < n := by
        rcases Nat.lt_or_ge j n with h | h
        · exact h
        · rw [List.getElem?_eq_none (by rw [length_intsOf]; exact h)] at hj; cases hj
      rw [intsOf_get hj'] at hj
      cases hj
      exact h.at_ j hj'
  refine ⟨rfl, fun i B hi => ?_, fun i j A B _ hi _ hA => ?_⟩
  · match i, hi with
    | 0, hi => simp only [List.getElem?_cons_zero, Option.some.injEq] at hi; subst hi; exact one h0
    | 1, hi => simp only [List.getElem?_cons_succ, List.getElem?_cons_zero, Option.some.injEq] at hi; subst hi; exact one h1
    | 2, hi => simp only [List.getElem?_cons_succ, List.getElem?_cons_zero, Option.some.injEq] at hi; subst hi; exact one h2
    | i + 3, hi => simp at hi
  · exfalso
    match i, hi with
    | 0, hi => simp only [List.getElem?_cons_zero, Option.some.injEq] at hi; subst hi; cases hA
    | 1, hi => simp only [List.getElem?_cons_succ, List.getElem?_cons_zero, Option.some.injEq] at hi; subst hi; cases hA
    | 2, hi => simp only [List.getElem?_cons_succ, List.getElem?_cons_zero, Option.some.injEq] at hi; subst hi; cases hA
    | i + 3, hi => simp at hi

/-- The whole that is nothing. -/
def wz : Array Value := (List.replicate 33 (Value.int .u64 0) ++ (([.int .i64 0, .bool false] : List Value) ++ (List.replicate 12 (Value.int .u64 0) ++ (List.replicate 16 (Value.int .u8 0) ++ (List.replicate 16 (Value.int .u64 0) ++ (([.bool false, .int .u64 0, .int .i64 0] : List Value) ++
  ([.slice none 0 0, .int .u32 0, .int .u64 0, .int .u64 0, .bool false, .bool false, .int .u8 0, .int .u8 0, .int .u8 0, .int .u8 0, .bool false, .slice none 0 0, .slice none 0 0, .int .i64 0, .int .i64 0] : List Value))))))).toArray
def cpuF : List FK := [.int .u64, .arr .u64 32, .int .i64, .bool, .int .u64, .int .u64, .int .u64, .int .u64, .int .u64, .int .u64, .int .u64, .int .u64, .int .u64, .int .u64, .int .u64, .int .u64, .arr .u8 16, .arr .u64 16, .bool, .int .u64, .int .i64]
def busF : List FK := [.sl .u8, .int .u32, .int .u64, .int .u64, .bool, .bool, .int .u8, .int .u8, .int .u8, .int .u8, .bool, .sl .u8, .sl .u8, .int .i64, .int .i64]

theorem intsOf_bits8 {n : Nat} {f : Nat → Int} (h : ∀ j, j < n → (Lit.int .u8 (f j)).wf = true) : intsOf .u8 n f = intsOf .u8 n (bfun fun j => BitVec.ofInt 8 (f j)) := intsOf_congr fun j hj => wf8 (h j hj)
theorem intsOf_bits64 {n : Nat} {f : Nat → Int} (h : ∀ j, j < n → (Lit.int .u64 (f j)).wf = true) : intsOf .u64 n f = intsOf .u64 n (wfun fun j => BitVec.ofInt 64 (f j)) := intsOf_congr fun j hj => wf64 (h j hj)

/-- A Cpu that came in, at the head of some cells. -/
theorem cpu_in {W : World} {r : List FK} {l : List Value} (h : fitF W (cpuF ++ r) l) : ∃ (c : CpuV) (x y : List Value), l = x ++ y ∧ (∀ E, denS E c.segs x) ∧ fitF W r y ∧ (-9223372036854775808 ≤ c.mode ∧ c.mode ≤ 9223372036854775807) ∧ (-9223372036854775808 ≤ c.rsize ∧ c.rsize ≤ 9223372036854775807) := by
  simp only [cpuF, List.cons_append, List.nil_append, fitF] at h
  obtain ⟨pc, _, rfl, wpc, x, _, rfl, wx, mode, _, rfl, wmode, wt, _, rfl, h⟩ := h
  obtain ⟨a0, _, rfl, w0, a1, _, rfl, w1, a2, _, rfl, w2, a3, _, rfl, w3, a4, _, rfl, w4, a5, _, rfl, w5, a6, _, rfl, w6, a7, _, rfl, w7, a8, _, rfl, w8, a9, _, rfl, w9, a10, _, rfl, w10, a11, _, rfl, w11, h⟩ := h
  obtain ⟨cfg, _, rfl, wc, ad, _, rfl, wa, rv, _, rfl, ra, _, rfl, wra, rs, y, rfl, wrs, h⟩ := h
  refine ⟨⟨BitVec.ofInt 64 pc, fun j => BitVec.ofInt 64 (x j), mode, wt, BitVec.ofInt 64 a0, BitVec.ofInt 64 a1, BitVec.ofInt 64 a2, BitVec.ofInt 64 a3, BitVec.ofInt 64 a4, BitVec.ofInt 64 a5, BitVec.ofInt 64 a6, BitVec.ofInt 64 a7, BitVec.ofInt 64 a8,
    BitVec.ofInt 64 a9, BitVec.ofInt 64 a10, BitVec.ofInt 64 a11, fun j => BitVec.ofInt 8 (cfg j), fun j => BitVec.ofInt 64 (ad j), rv, BitVec.ofInt 64 ra, rs⟩,
    .int .u64 pc :: (intsOf .u64 32 x ++ .int .i64 mode :: .bool wt :: .int .u64 a0 :: .int .u64 a1 :: .int .u64 a2 :: .int .u64 a3 :: .int .u64 a4 :: .int .u64 a5 :: .int .u64 a6 :: .int .u64 a7 :: .int .u64 a8 :: .int .u64 a9 :: .int .u64 a10 :: .int .u64 a11 ::
      (intsOf .u8 16 cfg ++ (intsOf .u64 16 ad ++ [.bool rv, .int .u64 ra, .int .i64 rs]))), y, by simp, fun E => ?_, h, wfi64 wmode, wfi64 wrs⟩
  rw [intsOf_bits64 wx, intsOf_bits8 wc, intsOf_bits64 wa]
  simp only [CpuV.segs, denS, denV]
  rw [← wf64 wpc, ← wf64 w0, ← wf64 w1, ← wf64 w2, ← wf64 w3, ← wf64 w4, ← wf64 w5, ← wf64 w6, ← wf64 w7, ← wf64 w8, ← wf64 w9, ← wf64 w10, ← wf64 w11, ← wf64 wra]
  exact ⟨_, _, rfl, rfl, _, rfl, _, _, rfl, rfl, _, _, rfl, rfl, _, _, rfl, rfl, _, _, rfl, rfl, _, _, rfl, rfl, _, _, rfl, rfl, _, _, rfl, rfl, _, _, rfl, rfl, _, _, rfl, rfl, _, _, rfl, rfl, _, _, rfl, rfl, _, _, rfl, rfl, _, _, rfl, rfl, _, _, rfl, rfl, _, rfl, _, rfl, _, _, rfl, rfl, _, _, rfl, rfl, _, _, rfl, rfl, rfl⟩

/-- A bus's state that came in, at the head of some cells. -/
theorem bus_in {W : World} {r : List FK} {l : List Value} (h : fitF W (busF ++ r) l) : ∃ (s : BusV) (x y : List Value) (p0 p1 p2 : Loc) (c0 c1 c2 : Nat) (q0 q1 q2 : Nat → B8), l = x ++ y ∧ SlAt W p0 s.nr c0 q0 ∧ SlAt W p1 s.ni c1 q1 ∧ SlAt W p2 s.no c2 q2 ∧
    (∀ (E : Emb) b0 b1 b2, E.f b0 = p0 → b0 < E.n → E.f b1 = p1 → b1 < E.n → E.f b2 = p2 → b2 < E.n → denS E (s.segs (.gs b0 0 s.nr c0) (.gs b1 0 s.ni c1) (.gs b2 0 s.no c2)) x) ∧ fitF W r y := by
  simp only [busF, List.cons_append, List.nil_append, fitF] at h
  obtain ⟨a0, n0, c0, f0, _, rfl, s0, ms, _, rfl, wms, cm, _, rfl, wcm, nw, _, rfl, wnw, ex, _, rfl, so, _, rfl, h⟩ := h
  obtain ⟨ie, _, rfl, wie, lc, _, rfl, wlc, mc, _, rfl, wmc, sc, _, rfl, wsc, ov, _, rfl, h⟩ := h
  obtain ⟨a1, n1, c1, f1, _, rfl, s1, a2, n2, c2, f2, _, rfl, s2, off, _, rfl, woff, code, y, rfl, wcode, h⟩ := h
  obtain ⟨p0, k0, d0⟩ := slIn_at s0
  obtain ⟨p1, k1, d1⟩ := slIn_at s1
  obtain ⟨p2, k2, d2⟩ := slIn_at s2
  refine ⟨⟨n0, BitVec.ofInt 32 ms, BitVec.ofInt 64 cm, BitVec.ofInt 64 nw, ex, so, BitVec.ofInt 8 ie, BitVec.ofInt 8 lc, BitVec.ofInt 8 mc, BitVec.ofInt 8 sc, ov, n1, n2, off, code⟩,
    [.slice a0 n0 c0, .int .u32 ms, .int .u64 cm, .int .u64 nw, .bool ex, .bool so, .int .u8 ie, .int .u8 lc, .int .u8 mc, .int .u8 sc, .bool ov, .slice a1 n1 c1, .slice a2 n2 c2, .int .i64 off, .int .i64 code], y, p0, p1, p2, c0, c1, c2, _, _, _, rfl, k0, k1, k2, fun E b0 b1 b2 e0 l0 e1 l1 e2 l2 => ?_, h⟩
  simp only [BusV.segs, denS]
  have i0 := d0 E b0 e0 l0
  have i1 := d1 E b1 e1 l1
  have i2 := d2 E b2 e2 l2
  refine ⟨_, _, rfl, i0, _, _, rfl, ?_, _, _, rfl, ?_, _, _, rfl, ?_, _, _, rfl, rfl, _, _, rfl, rfl, _, _, rfl, ?_, _, _, rfl, ?_, _, _, rfl, ?_, _, _, rfl, ?_, _, _, rfl, rfl, _, _, rfl, i1, _, _, rfl, i2, _, _, rfl, rfl, _, _, rfl, rfl, rfl⟩ <;> simp only [denV]
  · rw [← wf32 wms]
  · rw [← wf64 wcm]
  · rw [← wf64 wnw]
  · rw [← wf8 wie]
  · rw [← wf8 wlc]
  · rw [← wf8 wmc]
  · rw [← wf8 wsc]
end Go.Anv

/- WatchAgrees. -/
namespace Go.Anv
open Go
theorem eqB_self (n : Nat) (p : Nat → B8) : eqB n p p = true := by
  unfold eqB
  rw [List.all_eq_true]
  intro j _
  exact beq_self_eq_true _
theorem cpuS_self (c : CpuV) : cpuS c c = true := by
  simp [cpuS, CpuV.segs, eqSeg, sameK]
theorem wholeS_twin (c : CpuV) (s : BusV) (l k : Lists) (h0 : l.ram = k.ram) (h1 : l.inp = k.inp) (h2 : l.out = k.out) : wholeS c c s s l k = true := by
  simp [wholeS, cpuS_self, busS, devS, h0, h1, h2, eqB_self]
end Go.Anv
namespace Go.Proofs.YtghcdkpgcanpgaaGreat
open Go Go.Anv
end Go.Proofs.YtghcdkpgcanpgaaGreat

/- WatchSteps. -/
namespace Go.Anv
open Go
def Sc.sight (z : Sc) : List Seg := z.b ++ z.a ++ z.world ++ z.r.segs
theorem bytes_self (b : ByteArray) : (b == b) = true := by
  rw [beq_toListBytes]
  exact beq_self_eq_true _
theorem input_eq (n cx z : Nat) (a b c : Bool) (w : Nat → B8) (hz : z = 1) :
    eqvH [.cells true [.one (.bool a), .one (.bool b), .one (.bool c), .one (.gs 18 0 (0 + n) cx)] 0, .dead, .cells true [.ints .u8 (0 + n) (catF 0 (litF []) (shf 0 (bfun w)))] ((cx - (0 + n)) * z)]
      [.cells true [.one (.bool a), .one (.bool b), .one (.bool c), .one (.gs 18 0 n cx)] 0, .dead, bblk true n w (cx - n)] := by
  subst hz
  refine ⟨⟨rfl, rfl, ?_⟩, eqvB_refl _, ⟨rfl, ?_, ⟨⟨rfl, Nat.zero_add _, fun j _ => ?_⟩, trivial⟩⟩, trivial⟩
  · show eqvS _ _
    repeat' (first | exact eqvS_nil | refine eqvS_same ?_ | refine eqvS_gs ⟨rfl, rfl, Nat.zero_add _, rfl⟩ ?_)
  · rw [Nat.zero_add, Nat.mul_one]
  · show (if j < 0 then _ else shf 0 (bfun w) (j - 0)) = _
    rw [if_neg (Nat.not_lt_zero j)]
    show bfun w (0 + (j - 0)) = _
    rw [Nat.sub_zero, Nat.zero_add]
end Go.Anv
namespace Go.Proofs.YtghcdkpgcanpgaaGreat
open Go Go.Anv
set_option maxHeartbeats 4000000 in
set_option maxRecDepth 100000 in
theorem watchSteps_law (z : Sc) (ok : z.Ok) (hw : z.nw ≤ 140737488355328) :
    Does TB 3 [.agg z.sight] z.lists (fun v h' => v = .s (.bool true) ∧ h' = z.lists) := by
  refine fnX_does TB Tryz.func3 rfl (by decide) (fun O on hO => ?_)
  repeat (refine need_intro (by first | exact fun h => h | exact nt | exact an2 | exact an3 | rfl | (simp; done) | fail) ?_)
  refine Does.atn (twin18_spec z.c z.s z.l z.c0 z.c1 z.c2 ok.nr ok.ni ok.no) [0, 1, 2] rfl ⟨rfl, rfl, rfl, trivial⟩ (by decide) ?_ ?_
  · rintro v h' ⟨_, _, _, _, _, _, _, rfl⟩
    exact ⟨.inr (.inr rfl), .inr (.inr rfl), .inr (.inr rfl), .inl rfl, .inl rfl, .inl rfl, trivial⟩
  rintro v h' ⟨c6, c7, c8, g6, g7, g8, rfl, rfl⟩
  repeat (refine need_intro (by first | exact an2 | exact an3 | exact fun h => h | exact nt | exact an2 | exact an3 | rfl | (simp; done) | fail) ?_)
  refine Does.atn (twin18_spec z.d z.t z.k z.c3 z.c4 z.c5 ok.mr ok.mi ok.mo) [3, 4, 5] rfl ⟨rfl, rfl, rfl, trivial⟩ (by decide) ?_ ?_
  · rintro v h' ⟨_, _, _, _, _, _, _, rfl⟩
    exact ⟨.inr (.inr rfl), .inr (.inr rfl), .inr (.inr rfl), .inl rfl, .inl rfl, .inl rfl, trivial⟩
  rintro v h' ⟨c9, ca, cb, g9, ga, gb, rfl, rfl⟩
  repeat (refine need_intro (by first | exact an2 | exact an3 | exact fun h => h | exact nt | exact an2 | exact an3 | rfl | (simp; done) | fail) ?_)
  refine need_intro ⟨by show 0 + z.nw ≤ z.nw; omega, rfl, rfl, room5 _ (by show 0 + z.nw ≤ _; omega)⟩ ?_
  intro cx hx
  repeat (refine need_intro (by first | exact an2 | exact an3 | exact fun h => h | exact nt | exact an2 | exact an3 | rfl | (simp; done) | fail) ?_)
  refine Does.heq ((eqvH_same (eqvH_same (eqvH_same (eqvH_same (eqvH_same (eqvH_same (eqvH_same (eqvH_same (eqvH_same (eqvH_same (eqvH_same (eqvH_same (eqvH_same (eqvH_same (eqvH_same (eqvH_same (input_eq z.nw cx _ z.tick z.ext z.soft z.w rfl)))))))))))))))))) ?_
  let l' : Lists := { z.l with mr := true, sr := c6 - z.s.nr, mi := true, si := c7 - z.s.ni, mo := true, so := c8 - z.s.no }
  let k' : Lists := { z.k with mr := true, sr := c9 - z.t.nr, mi := true, si := ca - z.t.ni, mo := true, so := cb - z.t.no }
  let z' : Sc := { z with l := l', k := k', mw := true, sw := cx - z.nw, c0 := c6, c1 := c7, c2 := c8, c3 := c9, c4 := ca, c5 := cb, cw := cx }
  have ok' : z'.Ok := ⟨ok.nr, ok.ni, ok.no, ok.mr, ok.mi, ok.mo, g6, g7, g8, g9, ga, gb, ok.size⟩
  refine Does.args (b := [.agg (wsegs z.c z.s (.gs 8 0 z.s.nr c6) (.gs 9 0 z.s.ni c7) (.gs 10 0 z.s.no c8)), .agg (wsegs z.d z.t (.gs 12 0 z.t.nr c9) (.gs 13 0 z.t.ni ca) (.gs 14 0 z.t.no cb)), .agg [.one (.bool z.tick), .one (.bool z.ext), .one (.bool z.soft), .one (.gs 18 0 z.nw cx)], .agg z.r.segs]) ⟨eqvE_refl _, eqvE_refl _, ?_, eqvE_refl _, trivial⟩ ?_
  · show eqvS _ _
    repeat' (first | exact eqvS_nil | refine eqvS_same ?_ | refine eqvS_gs ⟨rfl, rfl, Nat.zero_add _, rfl⟩ ?_)
  refine Does.atc (step_spec z' ok') [8, 9, 10, 12, 13, 14, 18] rfl ⟨rfl, rfl, rfl, rfl, rfl, rfl, rfl, trivial⟩ (by decide) ?_
  repeat (refine need_intro (by first | exact an2 | exact an3 | exact fun h => h | exact nt | exact an2 | exact an3 | rfl | (simp; done) | fail) ?_)
  refine Does.atc (dstep_spec z ok) [0, 1, 2, 3, 4, 5, 6] rfl ⟨rfl, rfl, rfl, rfl, rfl, rfl, rfl, trivial⟩ (by decide) ?_
  repeat (refine need_intro (by first | exact an2 | exact an3 | exact fun h => h | exact nt | exact an2 | exact an3 | rfl | (simp; done) | fail) ?_)
  have a5 := same18_spec z.c z.c z.s z.s l' z.l c6 c7 c8 z.c0 z.c1 z.c2
  have a6 := same18_spec z.d z.d z.t z.t k' z.k c9 ca cb z.c3 z.c4 z.c5
  rw [wholeS_twin z.c z.s l' z.l rfl rfl rfl] at a5
  rw [wholeS_twin z.d z.t k' z.k rfl rfl rfl] at a6
  have q0 : (z'.made.step == z.made.step) = true := by
    rw [show z'.made.step = z.made.step from rfl]
    exact beq_self_eq_true _
  generalize (z'.made.step == z.made.step) = q at q0
  subst q0
  repeat (refine need_intro (by first | exact an2 | exact an3 | exact fun h => h | exact nt | exact an2 | exact an3 | rfl | (simp; done) | fail) ?_)
  refine Does.ungd (b := [.agg _, .agg _]) ⟨⟨rfl, rfl⟩, ⟨rfl, rfl⟩, trivial⟩ ?_
  refine Does.atc (a5) [8, 9, 10, 0, 1, 2] rfl ⟨rfl, rfl, rfl, rfl, rfl, rfl, trivial⟩ (by decide) ?_
  repeat (refine need_intro (by first | exact an2 | exact an3 | exact fun h => h | exact nt | exact an2 | exact an3 | rfl | (simp; done) | fail) ?_)
  refine Does.ungd (b := [.agg _, .agg _]) ⟨⟨rfl, rfl⟩, ⟨rfl, rfl⟩, trivial⟩ ?_
  refine Does.atc (a6) [12, 13, 14, 3, 4, 5] rfl ⟨rfl, rfl, rfl, rfl, rfl, rfl, trivial⟩ (by decide) ?_
  repeat (refine need_intro (by first | exact an2 | exact an3 | exact fun h => h | exact nt | exact an2 | exact an3 | rfl | (simp; done) | fail) ?_)
  have qs : (bytesOf z.nw (shf 0 (bfun z.w)) == bytesOf z.nw (shf 0 (bfun z.w))) = true := bytes_self _
  have e1 : (bif bif bif true then true else false then true else false then bytesOf z.nw (shf 0 (bfun z.w)) == bytesOf z.nw (shf 0 (bfun z.w)) else false) = true := by rw [qs]; rfl
  refine ifB_intro (fun _ => ?_) (fun g => absurd (g.symm.trans e1) (by decide))
  refine Does.atc firstW_spec [] rfl trivial (by decide) ?_
  repeat (refine need_intro (by first | exact e1 | exact an2 | exact an3 | exact fun h => h | exact nt | exact an2 | exact an3 | rfl | (simp; done) | fail) ?_)
  rw [e1]
  exact Ends.ro (H := z.lists) rfl rfl rfl
end Go.Proofs.YtghcdkpgcanpgaaGreat

/- What a step showed, as it came in: seven lists of bytes, its plain values. -/
namespace Go.Anv
open Go
theorem sim7 {W : World} {p0 p1 p2 p3 p4 p5 p6 : Loc} {n0 n1 n2 n3 n4 n5 n6 c0 c1 c2 c3 c4 c5 c6 : Nat} {q0 q1 q2 q3 q4 q5 q6 : Nat → B8} (h0 : SlAt W p0 n0 c0 q0) (h1 : SlAt W p1 n1 c1 q1) (h2 : SlAt W p2 n2 c2 q2) (h3 : SlAt W p3 n3 c3 q3) (h4 : SlAt W p4 n4 c4 q4) (h5 : SlAt W p5 n5 c5 q5) (h6 : SlAt W p6 n6 c6 q6) :
    Sim ⟨7, fun i => match i with | 0 => p0 | 1 => p1 | 2 => p2 | 3 => p3 | 4 => p4 | 5 => p5 | _ => p6⟩ [bblk false n0 q0 0, bblk false n1 q1 0, bblk false n2 q2 0, bblk false n3 q3 0, bblk false n4 q4 0, bblk false n5 q5 0, bblk false n6 q6 0] W := by
  have one : ∀ {E : Emb} {p : Loc} {n c : Nat} {q : Nat → B8}, SlAt W p n c q → okBlk E W p (bblk false n q 0) := fun {E p n c q} h => by
    refine ⟨?_, ⟨intsOf .u8 n (bfun q) ++ [], ⟨[], rfl, rfl⟩, fun j v hj => ?_⟩, fun h => by cases h⟩
    · rcases h.lt with h | ⟨h, h'⟩
      · exact .inl h
      · exact .inr ⟨h, by simp [sizeS, h']⟩
    · rw [List.append_nil] at hj
      have hj' : j < n := by
        rcases Nat.lt_or_ge j n with h | h
        · exact h
        · rw [List.getElem?_eq_none (by rw [length_intsOf]; exact h)] at hj; cases hj
      rw [intsOf_get hj'] at hj
      cases hj
      exact h.at_ j hj'
  refine ⟨rfl, fun i B hi => ?_, fun i j A B _ hi _ hA => ?_⟩
  · match i, hi with
    | 0, hi => simp only [List.getElem?_cons_zero, Option.some.injEq] at hi; subst hi; exact one h0
    | 1, hi => simp only [List.getElem?_cons_succ, List.getElem?_cons_zero, Option.some.injEq] at hi; subst hi; exact one h1
    | 2, hi => simp only [List.getElem?_cons_succ, List.getElem?_cons_zero, Option.some.injEq] at hi; subst hi; exact one h2
    | 3, hi => simp only [List.getElem?_cons_succ, List.getElem?_cons_zero, Option.some.injEq] at hi; subst hi; exact one h3
    | 4, hi => simp only [List.getElem?_cons_succ, List.getElem?_cons_zero, Option.some.injEq] at hi; subst hi; exact one h4
    | 5, hi => simp only [List.getElem?_cons_succ, List.getElem?_cons_zero, Option.some.injEq] at hi; subst hi; exact one h5
    | 6, hi => simp only [List.getElem?_cons_succ, List.getElem?_cons_zero, Option.some.injEq] at hi; subst hi; exact one h6
    | i + 7, hi => simp at hi
  · exfalso
    match i, hi with
    | 0, hi => simp only [List.getElem?_cons_zero, Option.some.injEq] at hi; subst hi; cases hA
    | 1, hi => simp only [List.getElem?_cons_succ, List.getElem?_cons_zero, Option.some.injEq] at hi; subst hi; cases hA
    | 2, hi => simp only [List.getElem?_cons_succ, List.getElem?_cons_zero, Option.some.injEq] at hi; subst hi; cases hA
    | 3, hi => simp only [List.getElem?_cons_succ, List.getElem?_cons_zero, Option.some.injEq] at hi; subst hi; cases hA
    | 4, hi => simp only [List.getElem?_cons_succ, List.getElem?_cons_zero, Option.some.injEq] at hi; subst hi; cases hA
    | 5, hi => simp only [List.getElem?_cons_succ, List.getElem?_cons_zero, Option.some.injEq] at hi; subst hi; cases hA
    | 6, hi => simp only [List.getElem?_cons_succ, List.getElem?_cons_zero, Option.some.injEq] at hi; subst hi; cases hA
    | i + 7, hi => simp at hi
def rowF : List FK := [.int .i64, .int .i64, .int .i64, .int .u64, .int .u32, .int .i64, .int .u64, .int .u64, .int .i64, .int .u64, .int .i64, .int .u64, .int .i64, .int .u64, .int .u64, .int .i64]
def worldF : List FK := [.bool, .bool, .bool, .sl .u8]
def sightF : List FK := cpuF ++ (busF ++ (cpuF ++ (busF ++ (worldF ++ rowF))))
/-- A row that came in. -/
theorem row_in {W : World} {l : List Value} (h : fitF W rowF l) : ∃ r : RowV, (∀ E, denS E r.segs l) ∧ (-9223372036854775808 ≤ r.size ∧ r.size ≤ 9223372036854775807) := by
  simp only [rowF, fitF] at h
  obtain ⟨a0, _, rfl, w0, a1, _, rfl, w1, a2, _, rfl, w2, a3, _, rfl, w3, a4, _, rfl, w4, a5, _, rfl, w5, a6, _, rfl, w6, a7, _, rfl, w7, h⟩ := h
  obtain ⟨a8, _, rfl, w8, a9, _, rfl, w9, a10, _, rfl, w10, a11, _, rfl, w11, a12, _, rfl, w12, a13, _, rfl, w13, a14, _, rfl, w14, a15, _, rfl, w15, rfl⟩ := h
  refine ⟨⟨a0, a1, a2, BitVec.ofInt 64 a3, BitVec.ofInt 32 a4, a5, BitVec.ofInt 64 a6, BitVec.ofInt 64 a7, a8, BitVec.ofInt 64 a9, a10, BitVec.ofInt 64 a11, a12, BitVec.ofInt 64 a13, BitVec.ofInt 64 a14, a15⟩, fun E => ?_, wfi64 w12⟩
  simp only [RowV.segs, RowV.svs, List.map, denS, denV]
  rw [← wf64 w3, ← wf32 w4, ← wf64 w6, ← wf64 w7, ← wf64 w9, ← wf64 w11, ← wf64 w13, ← wf64 w14]
  exact ⟨_, _, rfl, rfl, _, _, rfl, rfl, _, _, rfl, rfl, _, _, rfl, rfl, _, _, rfl, rfl, _, _, rfl, rfl, _, _, rfl, rfl, _, _, rfl, rfl, _, _, rfl, rfl, _, _, rfl, rfl, _, _, rfl, rfl, _, _, rfl, rfl, _, _, rfl, rfl, _, _, rfl, rfl, _, _, rfl, rfl, _, _, rfl, rfl, rfl⟩
/-- What a step showed, as it came in. -/
theorem sight_in {W : World} {l : List Value} (h : fitF W sightF l) : ∃ (z : Sc) (p0 p1 p2 p3 p4 p5 p6 : Loc), z.lists = [bblk false z.s.nr z.l.ram 0, bblk false z.s.ni z.l.inp 0, bblk false z.s.no z.l.out 0, bblk false z.t.nr z.k.ram 0, bblk false z.t.ni z.k.inp 0, bblk false z.t.no z.k.out 0, bblk false z.nw z.w 0] ∧
    SlAt W p0 z.s.nr z.c0 z.l.ram ∧ SlAt W p1 z.s.ni z.c1 z.l.inp ∧ SlAt W p2 z.s.no z.c2 z.l.out ∧ SlAt W p3 z.t.nr z.c3 z.k.ram ∧ SlAt W p4 z.t.ni z.c4 z.k.inp ∧ SlAt W p5 z.t.no z.c5 z.k.out ∧ SlAt W p6 z.nw z.cw z.w ∧ z.Ok ∧
    ∀ E : Emb, E.f 0 = p0 → E.f 1 = p1 → E.f 2 = p2 → E.f 3 = p3 → E.f 4 = p4 → E.f 5 = p5 → E.f 6 = p6 → 7 ≤ E.n → denS E z.sight l := by
  obtain ⟨c, x1, y1, rfl, hc, h, _, _⟩ := cpu_in h
  obtain ⟨s, x2, y2, p0, p1, p2, c0, c1, c2, q0, q1, q2, rfl, k0, k1, k2, hs, h⟩ := bus_in h
  obtain ⟨d, x3, y3, rfl, hd, h, _, _⟩ := cpu_in h
  obtain ⟨t, x4, y4, p3, p4, p5, c3, c4, c5, q3, q4, q5, rfl, k3, k4, k5, ht, h⟩ := bus_in h
  obtain ⟨tick, _, rfl, ext, _, rfl, soft, _, rfl, a6, n6, c6, f6, y5, rfl, s6, h⟩ := h
  obtain ⟨p6, k6, d6⟩ := slIn_at s6
  obtain ⟨r, hr, wr⟩ := row_in h
  have lim : ∀ {n : Nat}, n ≤ 140737488351232 → n ≤ 140737488355328 := fun h => Nat.le_trans h (by decide)
  refine ⟨⟨c, d, c, s, t, ⟨false, 0, q0, false, 0, q1, false, 0, q2⟩, ⟨false, 0, q3, false, 0, q4, false, 0, q5⟩, tick, ext, soft, n6, false, 0, _, r, c0, c1, c2, c3, c4, c5, c6⟩, p0, p1, p2, p3, p4, p5, p6, rfl, k0, k1, k2, k3, k4, k5, k6,
    ⟨lim k0.le, lim k1.le, lim k2.le, lim k3.le, lim k4.le, lim k5.le, k0.cp, k1.cp, k2.cp, k3.cp, k4.cp, k5.cp, wr⟩, fun E e0 e1 e2 e3 e4 e5 e6 hn => ?_⟩
  have hw : denS E [.one (.bool tick), .one (.bool ext), .one (.bool soft), .one (.gs 6 0 n6 c6)] [.bool tick, .bool ext, .bool soft, .slice a6 n6 c6] :=
    ⟨_, _, rfl, rfl, _, _, rfl, rfl, _, _, rfl, rfl, _, _, rfl, d6 E 6 e6 (by omega), rfl⟩
  have key := denS_append (denS_append (denS_append (denS_append (hc E) (hs E 0 1 2 e0 (by omega) e1 (by omega) e2 (by omega))) (denS_append (hd E) (ht E 3 4 5 e3 (by omega) e4 (by omega) e5 (by omega)))) hw) (hr E)
  have e : x1 ++ (x2 ++ (x3 ++ (x4 ++ (Value.bool tick :: Value.bool ext :: Value.bool soft :: Value.slice a6 n6 c6 :: y5)))) = x1 ++ x2 ++ (x3 ++ x4) ++ [.bool tick, .bool ext, .bool soft, .slice a6 n6 c6] ++ y5 := by simp
  rw [e]
  exact key
end Go.Anv

/- What the arguments of the statements of this seat are made of. Printed by gen_ft.py; no condition. -/
namespace Go.Proofs.YtghcdkpgcanpgaaGreat
open Go Go.Anv
set_option maxRecDepth 100000
theorem ft41 (n : Nat) : FTn Tryz.prog (n + 2) 41 [.int .i64, .int .i64, .int .i64, .int .u64, .int .u32, .int .i64, .int .u64, .int .u64, .int .i64, .int .u64, .int .i64, .int .u64, .int .i64, .int .u64, .int .u64, .int .i64] := .inr (.inr (.inr (.inr (.inl ⟨_, Tryz.underlying41, by kernel_rfl, ⟨[.int .i64], _, rfl, rfl, by kernel_rfl, .inl ⟨_, Tryz.underlying3, rfl⟩, ⟨[.int .i64], _, rfl, rfl, by kernel_rfl, .inl ⟨_, Tryz.underlying3, rfl⟩, ⟨[.int .i64], _, rfl, rfl, by kernel_rfl, .inl ⟨_, Tryz.underlying3, rfl⟩, ⟨[.int .u64], _, rfl, rfl, by kernel_rfl, .inl ⟨_, Tryz.underlying22, rfl⟩, ⟨[.int .u32], _, rfl, rfl, by kernel_rfl, .inl ⟨_, Tryz.underlying33, rfl⟩, ⟨[.int .i64], _, rfl, rfl, by kernel_rfl, .inl ⟨_, Tryz.underlying3, rfl⟩, ⟨[.int .u64], _, rfl, rfl, by kernel_rfl, .inl ⟨_, Tryz.underlying22, rfl⟩, ⟨[.int .u64], _, rfl, rfl, by kernel_rfl, .inl ⟨_, Tryz.underlying22, rfl⟩, ⟨[.int .i64], _, rfl, rfl, by kernel_rfl, .inl ⟨_, Tryz.underlying3, rfl⟩, ⟨[.int .u64], _, rfl, rfl, by kernel_rfl, .inl ⟨_, Tryz.underlying22, rfl⟩, ⟨[.int .i64], _, rfl, rfl, by kernel_rfl, .inl ⟨_, Tryz.underlying3, rfl⟩, ⟨[.int .u64], _, rfl, rfl, by kernel_rfl, .inl ⟨_, Tryz.underlying22, rfl⟩, ⟨[.int .i64], _, rfl, rfl, by kernel_rfl, .inl ⟨_, Tryz.underlying3, rfl⟩, ⟨[.int .u64], _, rfl, rfl, by kernel_rfl, .inl ⟨_, Tryz.underlying22, rfl⟩, ⟨[.int .u64], _, rfl, rfl, by kernel_rfl, .inl ⟨_, Tryz.underlying22, rfl⟩, ⟨[.int .i64], _, rfl, rfl, by kernel_rfl, .inl ⟨_, Tryz.underlying3, rfl⟩, rfl⟩⟩⟩⟩⟩⟩⟩⟩⟩⟩⟩⟩⟩⟩⟩⟩⟩))))
theorem ft39 (n : Nat) : FTn Tryz.prog (n + 2) 39 [.bool, .bool, .bool, .sl .u8] := .inr (.inr (.inr (.inr (.inl ⟨_, Tryz.underlying39, by kernel_rfl, ⟨[.bool], _, rfl, rfl, by kernel_rfl, .inr (.inl ⟨Tryz.underlying4, rfl⟩), ⟨[.bool], _, rfl, rfl, by kernel_rfl, .inr (.inl ⟨Tryz.underlying4, rfl⟩), ⟨[.bool], _, rfl, rfl, by kernel_rfl, .inr (.inl ⟨Tryz.underlying4, rfl⟩), ⟨[.sl .u8], _, rfl, rfl, by kernel_rfl, .inr (.inr (.inr (.inl ⟨_, _, Tryz.underlying32, Tryz.underlying5, by kernel_rfl, of_decide_eq_true (by kernel_rfl), rfl⟩))), rfl⟩⟩⟩⟩⟩))))
theorem ft35 (n : Nat) : FTn Tryz.prog (n + 2) 35 [.sl .u8, .int .u32, .int .u64, .int .u64, .bool, .bool, .int .u8, .int .u8, .int .u8, .int .u8, .bool, .sl .u8, .sl .u8, .int .i64, .int .i64] := .inr (.inr (.inr (.inr (.inl ⟨_, Tryz.underlying35, by kernel_rfl, ⟨[.sl .u8], _, rfl, rfl, by kernel_rfl, .inr (.inr (.inr (.inl ⟨_, _, Tryz.underlying32, Tryz.underlying5, by kernel_rfl, of_decide_eq_true (by kernel_rfl), rfl⟩))), ⟨[.int .u32], _, rfl, rfl, by kernel_rfl, .inl ⟨_, Tryz.underlying33, rfl⟩, ⟨[.int .u64], _, rfl, rfl, by kernel_rfl, .inl ⟨_, Tryz.underlying22, rfl⟩, ⟨[.int .u64], _, rfl, rfl, by kernel_rfl, .inl ⟨_, Tryz.underlying22, rfl⟩, ⟨[.bool], _, rfl, rfl, by kernel_rfl, .inr (.inl ⟨Tryz.underlying4, rfl⟩), ⟨[.bool], _, rfl, rfl, by kernel_rfl, .inr (.inl ⟨Tryz.underlying4, rfl⟩), ⟨[.int .u8], _, rfl, rfl, by kernel_rfl, .inl ⟨_, Tryz.underlying5, rfl⟩, ⟨[.int .u8], _, rfl, rfl, by kernel_rfl, .inl ⟨_, Tryz.underlying5, rfl⟩, ⟨[.int .u8], _, rfl, rfl, by kernel_rfl, .inl ⟨_, Tryz.underlying5, rfl⟩, ⟨[.int .u8], _, rfl, rfl, by kernel_rfl, .inl ⟨_, Tryz.underlying5, rfl⟩, ⟨[.bool], _, rfl, rfl, by kernel_rfl, .inr (.inl ⟨Tryz.underlying4, rfl⟩), ⟨[.sl .u8], _, rfl, rfl, by kernel_rfl, .inr (.inr (.inr (.inl ⟨_, _, Tryz.underlying32, Tryz.underlying5, by kernel_rfl, of_decide_eq_true (by kernel_rfl), rfl⟩))), ⟨[.sl .u8], _, rfl, rfl, by kernel_rfl, .inr (.inr (.inr (.inl ⟨_, _, Tryz.underlying32, Tryz.underlying5, by kernel_rfl, of_decide_eq_true (by kernel_rfl), rfl⟩))), ⟨[.int .i64], _, rfl, rfl, by kernel_rfl, .inl ⟨_, Tryz.underlying3, rfl⟩, ⟨[.int .i64], _, rfl, rfl, by kernel_rfl, .inl ⟨_, Tryz.underlying3, rfl⟩, rfl⟩⟩⟩⟩⟩⟩⟩⟩⟩⟩⟩⟩⟩⟩⟩⟩))))
theorem ft29 (n : Nat) : FTn Tryz.prog (n + 2) 29 [.bool, .int .u64, .int .i64] := .inr (.inr (.inr (.inr (.inl ⟨_, Tryz.underlying29, by kernel_rfl, ⟨[.bool], _, rfl, rfl, by kernel_rfl, .inr (.inl ⟨Tryz.underlying4, rfl⟩), ⟨[.int .u64], _, rfl, rfl, by kernel_rfl, .inl ⟨_, Tryz.underlying22, rfl⟩, ⟨[.int .i64], _, rfl, rfl, by kernel_rfl, .inl ⟨_, Tryz.underlying3, rfl⟩, rfl⟩⟩⟩⟩))))
theorem ft27 (n : Nat) : FTn Tryz.prog (n + 2) 27 [.arr .u8 16, .arr .u64 16] := .inr (.inr (.inr (.inr (.inl ⟨_, Tryz.underlying27, by kernel_rfl, ⟨[.arr .u8 16], _, rfl, rfl, by kernel_rfl, .inr (.inr (.inl ⟨_, _, _, Tryz.underlying24, Tryz.underlying5, by kernel_rfl, by kernel_rfl, rfl⟩)), ⟨[.arr .u64 16], _, rfl, rfl, by kernel_rfl, .inr (.inr (.inl ⟨_, _, _, Tryz.underlying25, Tryz.underlying22, by kernel_rfl, by kernel_rfl, rfl⟩)), rfl⟩⟩⟩))))
theorem ft31 (n : Nat) : FTn Tryz.prog (n + 3) 31 [.int .u64, .arr .u64 32, .int .i64, .bool, .int .u64, .int .u64, .int .u64, .int .u64, .int .u64, .int .u64, .int .u64, .int .u64, .int .u64, .int .u64, .int .u64, .int .u64, .arr .u8 16, .arr .u64 16, .bool, .int .u64, .int .i64] := .inr (.inr (.inr (.inr (.inl ⟨_, Tryz.underlying31, by kernel_rfl, ⟨[.int .u64], _, rfl, rfl, by kernel_rfl, .inl ⟨_, Tryz.underlying22, rfl⟩, ⟨[.arr .u64 32], _, rfl, rfl, by kernel_rfl, .inr (.inr (.inl ⟨_, _, _, Tryz.underlying23, Tryz.underlying22, by kernel_rfl, by kernel_rfl, rfl⟩)), ⟨[.int .i64], _, rfl, rfl, by kernel_rfl, .inl ⟨_, Tryz.underlying3, rfl⟩, ⟨[.bool], _, rfl, rfl, by kernel_rfl, .inr (.inl ⟨Tryz.underlying4, rfl⟩), ⟨[.int .u64], _, rfl, rfl, by kernel_rfl, .inl ⟨_, Tryz.underlying22, rfl⟩, ⟨[.int .u64], _, rfl, rfl, by kernel_rfl, .inl ⟨_, Tryz.underlying22, rfl⟩, ⟨[.int .u64], _, rfl, rfl, by kernel_rfl, .inl ⟨_, Tryz.underlying22, rfl⟩, ⟨[.int .u64], _, rfl, rfl, by kernel_rfl, .inl ⟨_, Tryz.underlying22, rfl⟩, ⟨[.int .u64], _, rfl, rfl, by kernel_rfl, .inl ⟨_, Tryz.underlying22, rfl⟩, ⟨[.int .u64], _, rfl, rfl, by kernel_rfl, .inl ⟨_, Tryz.underlying22, rfl⟩, ⟨[.int .u64], _, rfl, rfl, by kernel_rfl, .inl ⟨_, Tryz.underlying22, rfl⟩, ⟨[.int .u64], _, rfl, rfl, by kernel_rfl, .inl ⟨_, Tryz.underlying22, rfl⟩, ⟨[.int .u64], _, rfl, rfl, by kernel_rfl, .inl ⟨_, Tryz.underlying22, rfl⟩, ⟨[.int .u64], _, rfl, rfl, by kernel_rfl, .inl ⟨_, Tryz.underlying22, rfl⟩, ⟨[.int .u64], _, rfl, rfl, by kernel_rfl, .inl ⟨_, Tryz.underlying22, rfl⟩, ⟨[.int .u64], _, rfl, rfl, by kernel_rfl, .inl ⟨_, Tryz.underlying22, rfl⟩, ⟨[.arr .u8 16, .arr .u64 16], _, rfl, rfl, by kernel_rfl, ft27 (n + 0), ⟨[.bool, .int .u64, .int .i64], _, rfl, rfl, by kernel_rfl, ft29 (n + 0), rfl⟩⟩⟩⟩⟩⟩⟩⟩⟩⟩⟩⟩⟩⟩⟩⟩⟩⟩⟩))))
theorem ft37 (n : Nat) : FTn Tryz.prog (n + 4) 37 [.int .u64, .arr .u64 32, .int .i64, .bool, .int .u64, .int .u64, .int .u64, .int .u64, .int .u64, .int .u64, .int .u64, .int .u64, .int .u64, .int .u64, .int .u64, .int .u64, .arr .u8 16, .arr .u64 16, .bool, .int .u64, .int .i64, .sl .u8, .int .u32, .int .u64, .int .u64, .bool, .bool, .int .u8, .int .u8, .int .u8, .int .u8, .bool, .sl .u8, .sl .u8, .int .i64, .int .i64] := .inr (.inr (.inr (.inr (.inl ⟨_, Tryz.underlying37, by kernel_rfl, ⟨[.int .u64, .arr .u64 32, .int .i64, .bool, .int .u64, .int .u64, .int .u64, .int .u64, .int .u64, .int .u64, .int .u64, .int .u64, .int .u64, .int .u64, .int .u64, .int .u64, .arr .u8 16, .arr .u64 16, .bool, .int .u64, .int .i64], _, rfl, rfl, by kernel_rfl, ft31 (n + 0), ⟨[.sl .u8, .int .u32, .int .u64, .int .u64, .bool, .bool, .int .u8, .int .u8, .int .u8, .int .u8, .bool, .sl .u8, .sl .u8, .int .i64, .int .i64], _, rfl, rfl, by kernel_rfl, ft35 (n + 1), rfl⟩⟩⟩))))
theorem ft43 (n : Nat) : FTn Tryz.prog (n + 5) 43 [.int .u64, .arr .u64 32, .int .i64, .bool, .int .u64, .int .u64, .int .u64, .int .u64, .int .u64, .int .u64, .int .u64, .int .u64, .int .u64, .int .u64, .int .u64, .int .u64, .arr .u8 16, .arr .u64 16, .bool, .int .u64, .int .i64, .sl .u8, .int .u32, .int .u64, .int .u64, .bool, .bool, .int .u8, .int .u8, .int .u8, .int .u8, .bool, .sl .u8, .sl .u8, .int .i64, .int .i64, .int .u64, .arr .u64 32, .int .i64, .bool, .int .u64, .int .u64, .int .u64, .int .u64, .int .u64, .int .u64, .int .u64, .int .u64, .int .u64, .int .u64, .int .u64, .int .u64, .arr .u8 16, .arr .u64 16, .bool, .int .u64, .int .i64, .sl .u8, .int .u32, .int .u64, .int .u64, .bool, .bool, .int .u8, .int .u8, .int .u8, .int .u8, .bool, .sl .u8, .sl .u8, .int .i64, .int .i64, .bool, .bool, .bool, .sl .u8, .int .i64, .int .i64, .int .i64, .int .u64, .int .u32, .int .i64, .int .u64, .int .u64, .int .i64, .int .u64, .int .i64, .int .u64, .int .i64, .int .u64, .int .u64, .int .i64] := .inr (.inr (.inr (.inr (.inl ⟨_, Tryz.underlying43, by kernel_rfl, ⟨[.int .u64, .arr .u64 32, .int .i64, .bool, .int .u64, .int .u64, .int .u64, .int .u64, .int .u64, .int .u64, .int .u64, .int .u64, .int .u64, .int .u64, .int .u64, .int .u64, .arr .u8 16, .arr .u64 16, .bool, .int .u64, .int .i64, .sl .u8, .int .u32, .int .u64, .int .u64, .bool, .bool, .int .u8, .int .u8, .int .u8, .int .u8, .bool, .sl .u8, .sl .u8, .int .i64, .int .i64], _, rfl, rfl, by kernel_rfl, ft37 (n + 0), ⟨[.int .u64, .arr .u64 32, .int .i64, .bool, .int .u64, .int .u64, .int .u64, .int .u64, .int .u64, .int .u64, .int .u64, .int .u64, .int .u64, .int .u64, .int .u64, .int .u64, .arr .u8 16, .arr .u64 16, .bool, .int .u64, .int .i64, .sl .u8, .int .u32, .int .u64, .int .u64, .bool, .bool, .int .u8, .int .u8, .int .u8, .int .u8, .bool, .sl .u8, .sl .u8, .int .i64, .int .i64], _, rfl, rfl, by kernel_rfl, ft37 (n + 0), ⟨[.bool, .bool, .bool, .sl .u8], _, rfl, rfl, by kernel_rfl, ft39 (n + 2), ⟨[.int .i64, .int .i64, .int .i64, .int .u64, .int .u32, .int .i64, .int .u64, .int .u64, .int .i64, .int .u64, .int .i64, .int .u64, .int .i64, .int .u64, .int .u64, .int .i64], _, rfl, rfl, by kernel_rfl, ft41 (n + 2), rfl⟩⟩⟩⟩⟩))))
end Go.Proofs.YtghcdkpgcanpgaaGreat
