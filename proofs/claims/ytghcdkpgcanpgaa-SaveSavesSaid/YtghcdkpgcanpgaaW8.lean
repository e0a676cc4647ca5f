/- The law's own: loose, same, kept, buses, alike. Contracts of functions. No condition. -/
import Derived.Test.YtghcdkpgcanpgaaW7
namespace Go.Anv
open Go
theorem bytesOf_congr {n : Nat} {f g : Nat → Int} (h : ∀ j, j < n → f j = g j) : bytesOf n f = bytesOf n g := by
  unfold bytesOf
  congr 1
  exact List.map_congr_left fun j hj => h j (List.mem_range.1 hj)
theorem beq_bytes (s : ByteArray) : (s == s) = true := by
  have h := beq_toListBytes s s
  simpa using h.symm
def mrk (i : Nat) : B8 := BitVec.ofNat 8 (128 + i)
/-- Bytes with marks behind them. -/
@[irreducible] def marked (L : List B8) (n : Nat) : List B8 := manyN (fun i => [mrk i]) L n
theorem marked_zero (L : List B8) : marked L 0 = L := by unfold marked; rfl
theorem marked_succ (L : List B8) (i : Nat) : marked L (i + 1) = marked L i ++ [mrk i] := by unfold marked; rfl
theorem marked_len (L : List B8) (n : Nat) : (marked L n).length = L.length + n := by
  have := manyN_len (g := fun i => [mrk i]) (L := L) (w := 1) (fun _ => rfl) n
  unfold marked; omega
end Go.Anv
namespace Go.Proofs.Ytghcdkpgcanpgaa
open Go Go.Anv
set_option maxRecDepth 100000 in
theorem same_spec (m1 m2 : Bool) (o1 o2 n c1 c2 k1 k2 s1 s2 : Nat) (f1 f2 : Nat → Int) (h1 : o1 + n ≤ k1) (h2 : o2 + n ≤ k2) (he : ∀ j, j < n → f1 (o1 + j) = f2 (o2 + j)) :
    Does TB 19 [.s (.gs 0 o1 n c1), .s (.gs 1 o2 n c2)] [.cells m1 [.ints .u8 k1 f1] s1, .cells m2 [.ints .u8 k2 f2] s2] (fun v h' => v = .s (.bool true) ∧ h' = [.cells m1 [.ints .u8 k1 f1] s1, .cells m2 [.ints .u8 k2 f2] s2]) := by
  refine fnX_does TB Try.func19 rfl (by decide) (fun O on hO => ?_)
  refine need_intro h1 ?_
  refine need_intro h2 ?_
  refine ⟨_, _, [0, 1], ⟨rfl, rfl⟩, by decide, ⟨rfl, rfl, trivial⟩, ?_, ⟨⟨_, rfl, eqvB_refl _⟩, ⟨_, rfl, eqvB_refl _⟩, trivial⟩⟩
  show (bytesOf n (shf o1 f1) == bytesOf n (shf o2 f2)) = true
  rw [bytesOf_congr (f := shf o1 f1) (g := shf o2 f2) he]
  exact beq_bytes _
theorem same_k {h : List Blk} {K : EV → List Blk → Prop} (b1 b2 : Nat) {m1 m2 : Bool} {o1 o2 n n' c1 c2 k1 k2 s1 s2 : Nat} {f1 f2 : Nat → Int} (hn : n' = n) (hb1 : nthB h b1 = some (.cells m1 [.ints .u8 k1 f1] s1)) (hb2 : nthB h b2 = some (.cells m2 [.ints .u8 k2 f2] s2)) (hne : b1 ≠ b2)
    (h1 : o1 + n ≤ k1) (h2 : o2 + n ≤ k2) (he : ∀ j, j < n → f1 (o1 + j) = f2 (o2 + j))
    (hK : updBK h b1 (.cells m1 [.ints .u8 k1 f1] s1) fun h1 => updBK h1 b2 (.cells m2 [.ints .u8 k2 f2] s2) fun h2 => K (.s (.bool true)) h2) :
    Does TB 19 [.s (.gs b1 o1 n c1), .s (.gs b2 o2 n' c2)] h K := by
  subst hn
  refine Does.at (same_spec m1 m2 o1 o2 n' c1 c2 k1 k2 s1 s2 f1 f2 h1 h2 he) [b1, b2] rfl ⟨hb1, hb2, trivial⟩ (by simp [hne]) ?_ ?_
  · rintro v h' ⟨_, rfl⟩
    exact ⟨.inr (.inr rfl), .inr (.inr rfl), trivial⟩
  · rintro v h' ⟨rfl, rfl⟩
    rw [updBK_eq, updBK_eq] at hK
    rw [forceH_eq, forceE_eq]
    have e : mergeB h [b1, b2] (renH (lk [b1, b2] h.length) [.cells m1 [.ints .u8 k1 f1] s1, .cells m2 [.ints .u8 k2 f2] s2]) = updB (updB h b1 (.cells m1 [.ints .u8 k1 f1] s1)) b2 (.cells m2 [.ints .u8 k2 f2] s2) := by
      show updB (updB h b1 _) b2 _ ++ [] = _
      rw [List.append_nil]; rfl
    rw [e]
    exact hK
theorem same_nil (h : List Blk) : Does TB 19 [.s .nilslice, .s .nilslice] h (fun v h' => v = .s (.bool true) ∧ h' = h) := by
  refine fnX_pure TB Try.func19 rfl (by decide) rfl _ rfl (fun O on => ?_) h
  refine need_intro ⟨trivial, rfl⟩ ?_
  refine need_intro ⟨trivial, rfl⟩ ?_
  exact eqvE_refl _
set_option maxRecDepth 100000 in
theorem loose_spec (m : Bool) (n c sp : Nat) (q : Nat → B8) (hn : n ≤ 140737488355200) :
    Does TB 16 [.s (.gs 0 0 n c)] [bblk m n q sp] (fun v h' => ∃ c', (marked (lst q n) 64).length ≤ c' ∧ v = .s (.gs 1 0 (n + 64) c') ∧ h' = [bblk m n q sp, lb (marked (lst q n) 64) c']) := by
  refine fnX_does TB Try.func16 rfl (by decide) (fun O on hO => ?_)
  refine need_intro ⟨by show 0 + n ≤ n; omega, rfl, rfl, room5 _ (by show 0 + n ≤ _; omega)⟩ ?_
  intro c1 k1
  replace k1 : 0 + n ≤ c1 := k1
  refine loop_in (A := Nat × Nat) on (fun i => [(3, .s (.gs 1 0 (n + i.1) i.2)), (4, .s (.int .i64 (i.1 : Int))), (5, .junk), (7, .junk)]) (fun i => [bblk m n q sp, lb (marked (lst q n) i.1) i.2])
    (fun i => i.1 ≤ 64 ∧ n + i.1 ≤ i.2) (fun i => 64 - i.1) (0, c1) ⟨Nat.zero_le _, by omega⟩ [0, 2] ?_ ?_
  · rw [hO]
    refine ⟨by decide, ⟨rfl, trivial⟩, ?_, ⟨_, rfl, eqvB_refl _⟩, ⟨_, rfl, ?_⟩, trivial⟩
    · repeat' (first | exact eqvT_nil | refine eqvT_junk ?_ | refine eqvT_same ?_ | refine eqvT_int ?_ ?_ | refine eqvT_gs ⟨rfl, rfl, ?_, rfl⟩ ?_)
      exact Nat.zero_add n
    · have h0 : (marked (lst q n) 0).length = n := by rw [marked_zero]; exact lst_len q n
      refine ⟨rfl, ?_, ⟨rfl, (Nat.zero_add n).trans h0.symm, ?_⟩, trivial⟩
      · show (c1 - (0 + n)) * 1 = c1 - (marked (lst q n) 0).length
        rw [h0]; omega
      · intro j hj
        replace hj : j < 0 + n := hj
        show catF 0 (litF []) (shf 0 (bfun q)) j = bf (marked (lst q n) 0) j
        rw [marked_zero]
        unfold catF shf
        rw [if_neg (Nat.not_lt_zero j), Nat.sub_zero, Nat.zero_add]
        exact bf_lst q n j (by omega)
  · rintro ⟨i, cap⟩ ⟨hi, hcap⟩
    replace hi : i ≤ 64 := hi
    replace hcap : n + i ≤ cap := hcap
    have hl : (marked (lst q n) i).length = n + i := by rw [marked_len, lst_len]
    refine ifB_intro (fun h1 => ?_) (fun h1 => ?_)
    · have hlt : i < 64 := by have h2 := of_decide_eq_true h1; omega
      refine need_intro ⟨by show 0 + 1 ≤ 1; omega, by show (marked (lst q n) i).length + 0 = (n + i) * 1; omega, by show cap * 1 = (n + i) * 1 + (cap - (marked (lst q n) i).length); omega, room5 _ (by show n + i + 1 ≤ _; omega)⟩ ?_
      intro c2 k2
      replace k2 : n + i + 1 ≤ c2 := k2
      have hs : marked (lst q n) (i + 1) = marked (lst q n) i ++ [mrk i] := marked_succ _ _
      refine ⟨(i + 1, c2), ⟨?_, ?_⟩, ?_, [0, 3], ?_⟩
      · show i + 1 ≤ 64; omega
      · show n + (i + 1) ≤ c2; omega
      · show 64 - (i + 1) < 64 - i; omega
      · rw [hO]
        refine ⟨by decide, ⟨rfl, trivial⟩, ?_, ⟨_, rfl, eqvB_refl _⟩, ⟨_, rfl, ?_⟩, trivial⟩
        · repeat' (first | exact eqvT_nil | refine eqvT_junk ?_ | refine eqvT_same ?_ | refine eqvT_int ?_ ?_ | refine eqvT_gs ⟨rfl, rfl, ?_, rfl⟩ ?_)
          rw [i64_in (by omega) (by omega)]; rfl
        · show eqvB (.cells true [.ints .u8 ((marked (lst q n) i).length + 1) (catF (marked (lst q n) i).length _ _)] _) (lb (marked (lst q n) (i + 1)) c2)
          rw [hs]
          refine lb_eqv (marked (lst q n) i) [mrk i] c2 (n := (marked (lst q n) i).length) (m := 1) rfl rfl ?_ (fun _ _ => rfl) ?_
          · show (c2 - (n + i + 1)) * 1 = c2 - ((marked (lst q n) i).length + 1); omega
          · refine bf_one ?_
            show IntKind.u8.wrap (IntKind.i64.wrap (128 + (i : Int))) = ((mrk i).toNat : Int)
            rw [i64_in (by omega) (by omega), wrap_u8, mrk, BitVec.toNat_ofInt, BitVec.toNat_ofNat]
            omega
    · have hlt : i = 64 := by have h2 := of_decide_eq_false h1; omega
      subst hlt
      exact ⟨.s (.gs 1 0 (n + 64) cap), _, [0, 1], ⟨cap, by rw [hl]; exact hcap, rfl, rfl⟩, by decide, ⟨rfl, trivial⟩, ⟨rfl, rfl, rfl, rfl⟩, ⟨⟨_, rfl, eqvB_refl _⟩, ⟨_, rfl, eqvB_refl _⟩, trivial⟩⟩
theorem bf_left {L Y : List B8} {j : Nat} (h : j < L.length) : bf (L ++ Y) j = bf L j := by
  simp [bf, List.getD_eq_getElem?_getD, List.getElem?_append_left h]
theorem marked_left (L : List B8) {j : Nat} (h : j < L.length) : ∀ i, bf (marked L i) j = bf L j
  | 0 => by rw [marked_zero]
  | i + 1 => by
    rw [marked_succ]
    rw [bf_left (by rw [marked_len]; omega), marked_left L h i]
theorem marked_at (L : List B8) {k : Nat} : ∀ i, k < i → bf (marked L i) (L.length + k) = (mrk k).toNat
  | i + 1, h => by
    rw [marked_succ]
    by_cases hk : k < i
    · rw [bf_left (by rw [marked_len]; omega), marked_at L i hk]
    · have : k = i := by omega
      subst this
      have hl := marked_len L k
      simp only [bf, List.getD_eq_getElem?_getD]
      rw [List.getElem?_append_right (by omega), hl, Nat.sub_self]
      rfl
set_option maxRecDepth 100000 in
theorem kept_spec (m : Bool) (n c cl cp sp : Nat) (q : Nat → B8) (hn : n ≤ 140737488355200) (hcl : n + 64 ≤ cl) :
    Does TB 20 [.s (.gs 0 0 (n + 64) cl), .s (.gs 1 0 n cp)] [lb (marked (lst q n) 64) c, bblk m n q sp] (fun v h' => v = .s (.bool true) ∧ h' = [lb (marked (lst q n) 64) c, bblk m n q sp]) := by
  refine fnX_does TB Try.func20 rfl (by decide) (fun O on hO => ?_)
  have hl : (marked (lst q n) 64).length = n + 64 := by rw [marked_len, lst_len]
  refine need_intro ⟨by omega, by show (0 : Int) ≤ (n : Int); omega, by show (n : Int) ≤ (cl : Int); omega⟩ ?_
  have hsk : skip cl 0 0 1 = 0 := by unfold skip; split <;> rfl
  refine Does.args (b := [.s (.gs 0 0 n cl), .s (.gs 1 0 n cp)]) ⟨⟨rfl, hsk, by show (n : Int).toNat - 0 = n; omega, rfl⟩, eqvE_refl _, trivial⟩ ?_
  refine same_k 0 1 rfl rfl rfl (by decide) (by omega) (by omega) ?_ ?_
  · intro j hj
    rw [Nat.zero_add, marked_left (lst q n) (by rw [lst_len]; exact hj)]
    exact (bf_lst q n j hj).symm
  refine loop_by (A := Nat) on (fun i => [(5, .s (.int .i64 (i : Int)))]) (fun _ => [lb (marked (lst q n) 64) c, bblk m n q sp]) (fun i => i ≤ 64) (fun i => 64 - i) 0 (by omega) ?_ ?_
  · refine ⟨?_, ?_⟩
    · repeat' (first | exact eqvT_nil | refine eqvT_junk ?_ | refine eqvT_same ?_ | refine eqvT_int ?_ ?_)
    · exact eqvH_same (eqvH_same eqvH_nil)
  · intro i hi
    refine ifB_intro (fun h1 => ?_) (fun h1 => ?_)
    · have hlt : i < 64 := by have h2 := of_decide_eq_true h1; omega
      have hx : IntKind.i64.wrap ((n : Int) + (i : Int)) = ((n + i : Nat) : Int) := by rw [i64_in (by omega) (by omega)]; rfl
      refine need_intro ⟨by rw [hx]; omega, by rw [hx]; show ((n + i : Nat) : Int) < ((n + 64 : Nat) : Int); omega⟩ ?_
      refine need_intro (by rw [hx, hl]; omega) ?_
      have hv : bf (marked (lst q n) 64) (0 + (IntKind.i64.wrap ((n : Int) + (i : Int))).toNat) = IntKind.u8.wrap (IntKind.i64.wrap (128 + (i : Int))) := by
        rw [hx, i64_in (by omega) (by omega), Nat.zero_add]
        have := marked_at (lst q n) 64 hlt
        rw [lst_len] at this
        show bf _ (n + i) = _
        rw [this, wrap_u8, mrk, BitVec.toNat_ofInt, BitVec.toNat_ofNat]
        omega
      refine ifB_intro (fun h2 => ?_) (fun h2 => ?_)
      · have h2 : (!(bf (marked (lst q n) 64) (0 + (IntKind.i64.wrap ((n : Int) + (i : Int))).toNat) == IntKind.u8.wrap (IntKind.i64.wrap (128 + (i : Int))))) = true := h2
        rw [hv] at h2
        simp at h2
      · refine ⟨i + 1, ?_, ?_, ?_, ?_⟩
        · show i + 1 ≤ 64; omega
        · show 64 - (i + 1) < 64 - i; omega
        · repeat' (first | exact eqvT_nil | refine eqvT_junk ?_ | refine eqvT_same ?_ | refine eqvT_int ?_ ?_)
          rw [i64_in (by omega) (by omega)]; rfl
        · exact eqvH_same (eqvH_same eqvH_nil)
    · exact ⟨.s (.bool true), [lb (marked (lst q n) 64) c, bblk m n q sp], [0, 1], ⟨rfl, rfl⟩, by decide, ⟨rfl, rfl, trivial⟩, rfl, ⟨⟨_, rfl, eqvB_refl _⟩, ⟨_, rfl, eqvB_refl _⟩, trivial⟩⟩
end Go.Proofs.Ytghcdkpgcanpgaa
