/- The reference's number, flag and list of bytes: contracts that go on. No condition. -/
import Derived.Test.YtghcdkpgcanpgaaW3
namespace Go.Anv
open Go
theorem le_one (b : B8) : le (b.setWidth 64) 1 = [b] := by
  simp only [le, List.nil_append, Nat.mul_zero]
  congr 1
  apply BitVec.eq_of_toNat_eq
  have := b.isLt
  simp
end Go.Anv
namespace Go.Proofs.Ytghcdkpgcanpgaa
open Go Go.Anv
theorem num_k {h : List Blk} {K : EV → List Blk → Prop} (pb : Nat) {L : List B8} {c : Nat} {x : Int} (v : BitVec 64) (n : Nat) (hx : x = v.toNat) (hn : 0 < n ∧ n ≤ 8) (hL : L.length ≤ 70368744177664) (hc : L.length ≤ c)
    {nl : Nat} (hnl : nl = L.length) (hb : nthB h pb = some (lb L c))
    (hK : ∀ L' c', L' = L ++ le v n → L'.length = L.length + n → L'.length ≤ c' → lenK h 0 fun N => updBK h pb .dead fun h2 => appBK h2 [lb L' c'] fun h3 => K (.s (.gs N 0 L'.length c')) h3) :
    Does TB 50 [.s (.gs pb 0 nl c), .s (.int .u64 x), .s (.int .i64 n)] h K := by
  subst hnl
  obtain ⟨n, rfl⟩ : ∃ m, n = m + 1 := ⟨n - 1, by omega⟩
  subst hx
  refine Does.at (num_spec L c v (n + 1) hL hn.2 hc) [pb] rfl ⟨hb, trivial⟩ (by simp) ?_ ?_
  · rintro v h' ⟨c', _, _, rfl⟩
    exact ⟨.inr (.inl rfl), .inl rfl, trivial⟩
  · rintro v' h' ⟨c', h1, rfl, rfl⟩
    have hl : (L ++ le v (n + 1)).length = L.length + (n + 1) := by rw [List.length_append, le_len]
    have := hK _ c' rfl hl (by rw [hl]; exact h1)
    rw [lenK_eq, updBK_eq, appBK_eq, Nat.zero_add] at this
    rw [forceH_eq, forceE_eq]
    exact this
theorem flag_k {h : List Blk} {K : EV → List Blk → Prop} (pb : Nat) {L : List B8} {c : Nat} (b : Bool) (hL : L.length ≤ 70368744177664) (hc : L.length ≤ c)
    {nl : Nat} (hnl : nl = L.length) (hb : nthB h pb = some (lb L c))
    (hK : ∀ L' c', L' = L ++ bb b → L'.length = L.length + 1 → L'.length ≤ c' → lenK h 0 fun N => updBK h pb .dead fun h2 => appBK h2 [lb L' c'] fun h3 => K (.s (.gs N 0 L'.length c')) h3) :
    Does TB 82 [.s (.gs pb 0 nl c), .s (.bool b)] h K := by
  subst hnl
  refine Does.at (flag_spec L c b hL hc) [pb] rfl ⟨hb, trivial⟩ (by simp) ?_ ?_
  · rintro v h' ⟨c', _, _, rfl⟩
    exact ⟨.inr (.inl rfl), .inl rfl, trivial⟩
  · rintro v' h' ⟨c', h1, rfl, rfl⟩
    have hl : (L ++ bb b).length = L.length + 1 := by rw [List.length_append]; rfl
    have := hK _ c' rfl hl h1
    rw [lenK_eq, updBK_eq, appBK_eq, Nat.zero_add] at this
    rw [forceH_eq, forceE_eq]
    exact this
/-- What is handed back after an append, as bytes. -/
theorem lb_eqv (L Y : List B8) (c : Nat) {n m z : Nat} {f g : Nat → Int} (hn : n = L.length) (hm : m = Y.length) (hz : z = c - (L.length + Y.length)) (hf : ∀ j, j < n → f j = bf L j) (hg : ∀ j, j < m → g j = bf Y j) :
    eqvB (.cells true [.ints .u8 (n + m) (catF n f g)] z) (lb (L ++ Y) c) := by
  subst hn; subst hm; subst hz
  refine ⟨rfl, by rw [List.length_append], ⟨rfl, by rw [List.length_append], ?_⟩, trivial⟩
  exact bf_append L Y rfl rfl hf hg
theorem lb_mk (L Y : List B8) (c : Nat) {n m z : Nat} {f g : Nat → Int} (hn : n = L.length) (hm : m = Y.length) (hz : z = c - (L.length + Y.length)) (hf : f = bf L) (hg : g = bf Y) :
    Blk.cells true [.ints .u8 (n + m) (catF n f g)] z = lb (L ++ Y) c := by
  subst hn; subst hm; subst hz; subst hf; subst hg
  have e : catF L.length (bf L) (bf Y) = bf (L ++ Y) := by
    funext j
    unfold catF
    split
    · rename_i h
      simp [bf, List.getD_eq_getElem?_getD, List.getElem?_append_left h]
    · rename_i h
      simp [bf, List.getD_eq_getElem?_getD, List.getElem?_append_right (Nat.le_of_not_lt h)]
  rw [e, lb, List.length_append]
theorem bf_lit (Y : List B8) : shf 0 (litF (Y.map fun b => (b.toNat : Int))) = bf Y := by
  have key : ∀ (Y : List B8) (j : Nat), litF (Y.map fun b => (b.toNat : Int)) j = bf Y j := fun Y => by
    induction Y with
    | nil => intro j; rfl
    | cons y Y ih =>
      intro j
      cases j with
      | zero => rfl
      | succ j => exact ih j
  funext j
  show litF _ (0 + j) = _
  rw [Nat.zero_add, key]
/-- Nothing stands behind the end. -/
def ends (q : Nat → B8) (n : Nat) : Prop := ∀ j, n ≤ j → q j = 0#8
theorem bf_ends {q : Nat → B8} {n : Nat} (h : ends q n) : bfun q = bf (lst q n) := by
  funext j
  rcases Nat.lt_or_ge j n with h1 | h1
  · exact bf_lst q n j h1
  · simp only [bfun, bf, lst]
    rw [h j h1, List.getD_eq_getElem?_getD, List.getElem?_eq_none (by simpa using h1)]
    rfl
end Go.Proofs.Ytghcdkpgcanpgaa
