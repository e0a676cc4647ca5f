/- The writer of a snapshot: whole numbers byte by byte. Contracts of functions. -/
import Derived.Test.YtghcdkpgcanpgaaT
import Derived.Test.YtghcdkpgcanpgaaM1
import Derived.Test.YtghcdkpgcanpgaaE13
import Derived.Test.YtghcdkpgcanpgaaS1
namespace Go.Anv
open Go
def bf (l : List B8) (j : Nat) : Int := ((l.getD j 0#8).toNat : Int)
theorem args_eq {T : Tbl} {f : FuncId} {a b : List EV} {h : List Blk} {Q : EV → List Blk → Prop} (e : a = b) (d : Does T f b h Q) : Does T f a h Q := e ▸ d
theorem bf_append (l r : List B8) {n m : Nat} (hn : n = l.length) (hm : m = r.length) {f g : Nat → Int} (hf : ∀ j, j < n → f j = bf l j) (hg : ∀ j, j < m → g j = bf r j) : ∀ j, j < n + m → catF n f g j = bf (l ++ r) j := by
  subst hn; subst hm
  intro j hj
  unfold catF
  split
  · rename_i h
    rw [hf j h]
    simp [bf, List.getD_eq_getElem?_getD, List.getElem?_append_left h]
  · rename_i h
    rw [hg (j - l.length) (by omega)]
    simp [bf, List.getD_eq_getElem?_getD, List.getElem?_append_right (Nat.le_of_not_lt h)]
theorem bf_one {b : B8} {v : Int} (h : v = b.toNat) : ∀ j, j < 1 → shf 0 (litF [v]) j = bf [b] j := by
  intro j hj
  match j, hj with
  | 0, _ => exact h
/-- The first bytes of a number, the lowest first. -/
def le (v : BitVec 64) : Nat → List B8
  | 0 => []
  | n + 1 => le v n ++ [(v >>> (8 * n)).setWidth 8]
theorem le_len (v : BitVec 64) : ∀ n, (le v n).length = n
  | 0 => rfl
  | n + 1 => by simp [le, le_len v n]
/-- A writer that holds these bytes. -/
def wr (L : List B8) (c : Nat) : List Blk := [.cells true [.one (.gs 1 0 L.length c)] 0, .cells true [.ints .u8 L.length (bf L)] (c - L.length)]
/-- The same, its bytes in a new place. -/
def wr2 (L : List B8) (c : Nat) : List Blk := [.cells true [.one (.gs 2 0 L.length c)] 0, .dead, .cells true [.ints .u8 L.length (bf L)] (c - L.length)]
def wrN (L : List B8) (c : Nat) : Nat → List Blk
  | 0 => wr L c
  | _ + 1 => wr2 L c
theorem low8 (v : BitVec 64) : IntKind.u8.wrap (v.toNat : Int) = ((v.setWidth 8).toNat : Int) := by
  rw [wrap_u8, BitVec.toNat_setWidth, BitVec.toNat_ofInt]
  omega
theorem shr8 (v : BitVec 64) (n : Nat) : ((v >>> (8 * n)).toNat : Int).fdiv (2 ^ 8) = ((v >>> (8 * (n + 1))).toNat : Int) := by
  rw [fdiv_pow, ← BitVec.shiftRight_add]
  rfl
end Go.Anv
namespace Go.Proofs.Ytghcdkpgcanpgaa
open Go Go.Anv
set_option maxRecDepth 100000 in
theorem number_spec (L : List B8) (c : Nat) (v : BitVec 64) (n : Nat) (hL : L.length ≤ 70368744177664) (hn : n ≤ 8) (hc : L.length ≤ c) :
    Does TB 42 [.s (.ptr 0 0), .s (.int .u64 v.toNat), .s (.int .i64 n)] (wr L c) (fun r h' => ∃ c', L.length + n ≤ c' ∧ r = .tuple [] ∧ h' = wrN (L ++ le v n) c' n) := by
  refine fnX_does TB Try.func42 rfl (by decide) (fun O on hO => ?_)
  refine loop_in (A := Nat × Nat) on (fun i => [(1, .s (.int .u64 (v >>> (8 * i.1)).toNat)), (7, .s (.int .i64 (i.1 : Int)))])
      (fun i => wrN (L ++ le v i.1) i.2 i.1)
      (fun i => i.1 ≤ n ∧ L.length + i.1 ≤ i.2) (fun i => n - i.1) (0, c) ⟨Nat.zero_le _, hc⟩ [0, 1] ?_ ?_
  · rw [hO]
    refine ⟨by decide, ⟨rfl, rfl, trivial⟩, ?_, ?_⟩
    · repeat' (first | exact eqvT_nil | refine eqvT_junk ?_ | refine eqvT_same ?_ | refine eqvT_int ?_ ?_)
    · refine ⟨⟨_, rfl, ⟨rfl, rfl, eqvS_gs ⟨rfl, rfl, ?_, rfl⟩ eqvS_nil⟩⟩, ⟨_, rfl, ⟨rfl, ?_, ⟨⟨rfl, ?_, ?_⟩, eqvS_nil⟩⟩⟩, trivial⟩ <;> simp [le]
  · rintro ⟨i, cap⟩ ⟨hi, hcap⟩
    replace hi : i ≤ n := hi
    replace hcap : L.length + i ≤ cap := hcap
    have hlen : (L ++ le v i).length = L.length + i := by rw [List.length_append, le_len]
    have hlen1 : (L ++ le v (i + 1)).length = L.length + i + 1 := by rw [List.length_append, le_len]; rfl
    have hnext : L ++ le v (i + 1) = (L ++ le v i) ++ [(v >>> (8 * i)).setWidth 8] := by simp [le]
    match i, hi, hcap, hlen, hlen1, hnext with
    | 0, hi, hcap, hlen, hlen1, hnext => 
      refine ifB_intro (fun h1 => ?_) (fun h1 => ?_)
      · have h1 : 0 < n := by
          have := of_decide_eq_true h1
          simpa using this
        have hM : (L ++ le v 0).length ≤ 70368744177672 := by omega
        refine need_intro ⟨Nat.le_refl _, by show (L ++ le v 0).length + 0 = (L ++ le v 0).length * 1; omega, by show cap * 1 = (L ++ le v 0).length * 1 + (cap - (L ++ le v 0).length); omega, room5 _ (by show (L ++ le v 0).length + 1 ≤ _; omega)⟩ ?_
        intro c1 hc1
        have hc1 : (L ++ le v 0).length + 1 ≤ c1 := hc1
        refine need_intro (by decide) ?_
        refine ⟨(0 + 1, c1), ⟨?_, ?_⟩, ?_, [0, 1, 3], ?_⟩
        · show 0 + 1 ≤ n; omega
        · show L.length + (0 + 1) ≤ c1; omega
        · show n - (0 + 1) < n - (0); omega
        · rw [hO]
          refine ⟨by decide, ⟨rfl, rfl, trivial⟩, ?_, ?_⟩
          · repeat' (first | exact eqvT_nil | refine eqvT_junk ?_ | refine eqvT_same ?_ | refine eqvT_int ?_ ?_)
            · exact shr8 v _
            all_goals (rw [i64_in (by omega) (by omega)]; try rfl)
          · refine ⟨⟨_, rfl, ⟨rfl, rfl, eqvS_gs ⟨rfl, rfl, ?_, rfl⟩ eqvS_nil⟩⟩, ⟨_, rfl, eqvB_refl _⟩, ⟨_, rfl, ⟨rfl, ?_, ⟨⟨rfl, ?_, ?_⟩, eqvS_nil⟩⟩⟩, trivial⟩
            · show (L ++ le v 0).length + 1 = (L ++ le v (0 + 1)).length
              omega
            · show (c1 - ((L ++ le v 0).length + 1)) * 1 = c1 - (L ++ le v (0 + 1)).length
              omega
            · show (L ++ le v 0).length + 1 = (L ++ le v (0 + 1)).length
              omega
            · rw [hnext]
              exact bf_append (L ++ le v 0) [(v >>> (8 * 0)).setWidth 8] (n := (L ++ le v 0).length) (m := 1) rfl rfl (fun _ _ => rfl) (bf_one (low8 (v >>> (8 * 0))))
      · have h1 : 0 = n := by
          have := of_decide_eq_false h1
          simp at this
          omega
        subst h1
        refine ⟨_, _, [0, 1], ⟨cap, hcap, rfl, rfl⟩, by decide, ⟨rfl, rfl, trivial⟩, trivial, ⟨_, rfl, eqvB_refl _⟩, ⟨_, rfl, eqvB_refl _⟩, trivial⟩
    | i + 1, hi, hcap, hlen, hlen1, hnext => 
      refine ifB_intro (fun h1 => ?_) (fun h1 => ?_)
      · have h1 : i + 1 < n := by
          have := of_decide_eq_true h1
          simp at this
          omega
        have hM : (L ++ le v (i + 1)).length ≤ 70368744177672 := by omega
        refine need_intro ⟨Nat.le_refl _, by show (L ++ le v (i + 1)).length + 0 = (L ++ le v (i + 1)).length * 1; omega, by show cap * 1 = (L ++ le v (i + 1)).length * 1 + (cap - (L ++ le v (i + 1)).length); omega, room5 _ (by show (L ++ le v (i + 1)).length + 1 ≤ _; omega)⟩ ?_
        intro c1 hc1
        have hc1 : (L ++ le v (i + 1)).length + 1 ≤ c1 := hc1
        refine need_intro (by decide) ?_
        refine ⟨(i + 1 + 1, c1), ⟨?_, ?_⟩, ?_, [0, 1, 4], ?_⟩
        · show i + 1 + 1 ≤ n; omega
        · show L.length + (i + 1 + 1) ≤ c1; omega
        · show n - (i + 1 + 1) < n - ((i + 1)); omega
        · rw [hO]
          refine ⟨by decide, ⟨rfl, rfl, trivial⟩, ?_, ?_⟩
          · repeat' (first | exact eqvT_nil | refine eqvT_junk ?_ | refine eqvT_same ?_ | refine eqvT_int ?_ ?_)
            · exact shr8 v _
            all_goals (rw [i64_in (by omega) (by omega)]; try rfl)
          · refine ⟨⟨_, rfl, ⟨rfl, rfl, eqvS_gs ⟨rfl, rfl, ?_, rfl⟩ eqvS_nil⟩⟩, ⟨_, rfl, eqvB_refl _⟩, ⟨_, rfl, ⟨rfl, ?_, ⟨⟨rfl, ?_, ?_⟩, eqvS_nil⟩⟩⟩, trivial⟩
            · show (L ++ le v (i + 1)).length + 1 = (L ++ le v (i + 1 + 1)).length
              omega
            · show (c1 - ((L ++ le v (i + 1)).length + 1)) * 1 = c1 - (L ++ le v (i + 1 + 1)).length
              omega
            · show (L ++ le v (i + 1)).length + 1 = (L ++ le v (i + 1 + 1)).length
              omega
            · rw [hnext]
              exact bf_append (L ++ le v (i + 1)) [(v >>> (8 * (i + 1))).setWidth 8] (n := (L ++ le v (i + 1)).length) (m := 1) rfl rfl (fun _ _ => rfl) (bf_one (low8 (v >>> (8 * (i + 1)))))
      · have h1 : i + 1 = n := by
          have := of_decide_eq_false h1
          simp at this
          omega
        subst h1
        refine ⟨_, _, [0, 1, 2], ⟨cap, hcap, rfl, rfl⟩, by decide, ⟨rfl, rfl, trivial⟩, trivial, ⟨_, rfl, eqvB_refl _⟩, ⟨_, rfl, eqvB_refl _⟩, ⟨_, rfl, eqvB_refl _⟩, trivial⟩
end Go.Proofs.Ytghcdkpgcanpgaa
