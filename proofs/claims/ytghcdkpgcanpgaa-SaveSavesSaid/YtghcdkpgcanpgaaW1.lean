/- The writer's methods: contracts that go on. No condition. -/
import Derived.Test.YtghcdkpgcanpgaaV11
import Derived.Test.YtghcdkpgcanpgaaE17
namespace Go.Anv
open Go
/-- The writer's bytes; the writer. -/
def lb (L : List B8) (c : Nat) : Blk := .cells true [.ints .u8 L.length (bf L)] (c - L.length)
def wb (b : Nat) (L : List B8) (c : Nat) : Blk := .cells true [.one (.gs b 0 L.length c)] 0

def bb (b : Bool) : List B8 := [if b then 1#8 else 0#8]
def ints (ex : List Int) : List EV := ex.map fun n => .s (.int .i64 n)
theorem ren_ints (ρ : Nat → Nat) : ∀ ex : List Int, renT ρ (ints ex) = ints ex
  | [] => rfl
  | x :: r => by
    show EV.s (.int .i64 x) :: renT ρ (ints r) = _
    rw [ren_ints ρ r]; rfl
theorem part_ints (i N k : Nat) : ∀ ex : List Int, partT i N k (ints ex) (ints ex)
  | [] => trivial
  | x :: r => ⟨rfl, part_ints i N k r⟩
/-- A pointer to the k-th cell of a block. -/
def ptrTo (p k : Nat) : EV → Prop
  | .s (.ptr b o) => b = p ∧ o = k
  | .s (.pix b o j) => b = p ∧ o + j = k
  | _ => False
theorem ptrTo_part {p k N : Nat} {e : EV} (h : ptrTo p k e) : partE p N k e (.s (.ptr N 0)) := by
  unfold ptrTo at h
  split at h
  · obtain ⟨rfl, rfl⟩ := h; exact .inr ⟨rfl, rfl, rfl⟩
  · obtain ⟨rfl, rfl⟩ := h; exact ⟨rfl, rfl, rfl⟩
  · exact h.elim
end Go.Anv
namespace Go.Proofs.Ytghcdkpgcanpgaa
open Go Go.Anv
theorem number_k {h : List Blk} {K : EV → List Blk → Prop} (pw pb : Nat) {L : List B8} {c : Nat} {x : Int} (v : BitVec 64) (n : Nat) (hx : x = v.toNat) (hn : 0 < n ∧ n ≤ 8) (hL : L.length ≤ 70368744177664) (hc : L.length ≤ c)
    (hw : nthB h pw = some (wb pb L c)) (hb : nthB h pb = some (lb L c)) (hne : pw ≠ pb)
    (hK : ∀ L' c', L' = L ++ le v n → L'.length = L.length + n → L'.length ≤ c' → lenK h 0 fun N => updBK h pw (wb N L' c') fun h1 => updBK h1 pb .dead fun h2 => appBK h2 [lb L' c'] fun h3 => K (.tuple []) h3) :
    Does TB 42 [.s (.ptr pw 0), .s (.int .u64 x), .s (.int .i64 n)] h K := by
  obtain ⟨n, rfl⟩ : ∃ m, n = m + 1 := ⟨n - 1, by omega⟩
  subst hx
  refine Does.at (number_spec L c v (n + 1) hL hn.2 hc) [pw, pb] rfl ⟨hw, hb, trivial⟩ (by simp [hne]) ?_ ?_
  · rintro v h' ⟨c', _, _, rfl⟩
    exact ⟨.inl rfl, .inr (.inl rfl), .inl rfl, trivial⟩
  · rintro v h' ⟨c', h1, rfl, rfl⟩
    have hl : (L ++ le v (n + 1)).length = L.length + (n + 1) := by rw [List.length_append, le_len]
    have := hK _ c' rfl hl (by rw [hl]; exact h1)
    rw [lenK_eq, updBK_eq, updBK_eq, appBK_eq, Nat.zero_add] at this
    rw [forceH_eq, forceE_eq]
    exact this

/-- A method that writes what one cell says. -/
theorem one_k {f : FuncId} {m : Bool} {x : SV} (Y : List B8) (ex : List Int) {h : List Blk} {K : EV → List Blk → Prop} (pw pb pv k : Nat) {sp : Nat} {cs : List Seg} {pe : EV} {L : List B8} {c : Nat}
    (spec : ∀ L c, L.length ≤ 70368744177664 → L.length ≤ c → Does TB f (.s (.ptr 0 0) :: .s (.ptr 2 0) :: ints ex) (wr L c ++ [.cells m [.one x] 0])
      (fun r h' => ∃ c', (L ++ Y).length ≤ c' ∧ r = .tuple [] ∧ h' = wr3 (L ++ Y) c' (.cells m [.one x] 0)))
    (hx : ∀ ρ, renV ρ x = x) (hL : L.length ≤ 70368744177664) (hc : L.length ≤ c)
    (hw : nthB h pw = some (wb pb L c)) (hb : nthB h pb = some (lb L c)) (hne : pw ≠ pb ∧ pw ≠ pv ∧ pb ≠ pv) (hv : nthB h pv = some (.cells m cs sp)) (hpe : ptrTo pv k pe) (hcell : CellAt cs k x cs x)
    (hK : ∀ L' c', L' = L ++ Y → L'.length = L.length + Y.length → L'.length ≤ c' → lenK h 0 fun N =>
      forceH (updB (updB (updB (updB (updB (updB h pv .dead ++ [.cells m [.one x] 0]) pw (wb (N + 1) L' c')) pb .dead) N (.cells m [.one x] 0) ++ [lb L' c']) N .dead) pv (.cells m cs sp)) fun h3 => K (.tuple []) h3) :
    Does TB f (.s (.ptr pw 0) :: pe :: ints ex) h K := by
  obtain ⟨a, b, h1, h2, h3⟩ := hcell
  obtain ⟨n1, n2, n3⟩ := hne
  have lw := nthB_lt hw
  have lbb := nthB_lt hb
  have hl1 : (updB h pv .dead ++ [Blk.cells m [.one x] 0]).length = h.length + 1 := by rw [List.length_append, len_updB]; rfl
  have lN : nthB (updB h pv .dead ++ [Blk.cells m [.one x] 0]) h.length = some (.cells m [.one x] 0) := by
    have := nthB_len (updB h pv .dead) (Blk.cells m [.one x] 0) []
    rwa [len_updB] at this
  have d := Does.frame (spec L c hL hc) [pw, pb, h.length] (h := updB h pv .dead ++ [Blk.cells m [.one x] 0]) (by simp [n1]; omega) (by
    rintro v h' ⟨c', _, _, rfl⟩
    exact ⟨.inl rfl, .inr (.inl rfl), .inr (.inr rfl), .inl rfl, trivial⟩) ⟨nthB_app (nthB_upd_ne hw n2), nthB_app (nthB_upd_ne hb n3), by simp only [renB, renS, hx]; exact lN, trivial⟩
  have ea : renT (lk [pw, pb, h.length] (updB h pv .dead ++ [Blk.cells m [.one x] 0]).length) (.s (.ptr 0 0) :: .s (.ptr 2 0) :: ints ex) = .s (.ptr pw 0) :: .s (.ptr h.length 0) :: ints ex := by
    show EV.s (.ptr pw 0) :: .s (.ptr h.length 0) :: renT _ (ints ex) = _
    rw [ren_ints]
  rw [ea] at d
  refine Does.part (args' := .s (.ptr pw 0) :: .s (.ptr h.length 0) :: ints ex) pv a [.one x] b hv h2 ⟨.inl ⟨rfl, rfl⟩, by rw [h1]; exact ptrTo_part hpe, part_ints _ _ _ _⟩ d ?_
  rintro v h'' ⟨v', h', ⟨c', k1, rfl, rfl⟩, rfl, rfl⟩
  have e3 : lk [pw, pb, h.length] (updB h pv .dead ++ [Blk.cells m [.one x] 0]).length 3 = h.length + 1 := hl1
  have em : renH (lk [pw, pb, h.length] (updB h pv .dead ++ [Blk.cells m [.one x] 0]).length) (wr3 (L ++ Y) c' (.cells m [.one x] 0)) = [wb (h.length + 1) (L ++ Y) c', .dead, .cells m [.one x] 0, lb (L ++ Y) c'] := by
    simp only [wr3, renH, renB, renS, renV, e3, hx, wb, lb]
  rw [em]
  refine ⟨roOk_mk fun j B hj => ?_, [.one x], cs, ?_, rfl, h3, ?_⟩
  · rcases mergeB_get _ [pw, pb, h.length] _ (by simp [n1]; omega) (by rw [hl1]; simp; omega) (by simp) j B hj with ⟨_, _, h4⟩ | ⟨i, h4, h5⟩
    · exact .inr (.inr h4)
    · match i, h4, h5 with
      | 0, h4, h5 => simp only [List.getElem?_cons_zero, Option.some.injEq] at h5; subst h5; exact .inl rfl
      | 1, h4, h5 => simp only [List.getElem?_cons_succ, List.getElem?_cons_zero, Option.some.injEq] at h5; subst h5; exact .inr (.inl rfl)
      | 2, h4, h5 =>
        simp only [List.getElem?_cons_succ, List.getElem?_cons_zero, Option.some.injEq] at h5
        have h4 : h.length = j := h4
        subst h5; subst h4
        exact .inr (.inr (nthB_get lN))
      | 3, h4, h5 => simp only [List.getElem?_cons_succ, List.getElem?_cons_zero, Option.some.injEq] at h5; subst h5; exact .inl rfl
      | i + 4, h4, h5 => simp at h5
  · refine nthB_app (nthB_upd_eq (A := .cells m [.one x] 0) ?_)
    exact nthB_upd_ne (nthB_upd_ne lN (by omega)) (by omega)
  · have hl : (L ++ Y).length = L.length + Y.length := List.length_append
    have := hK _ c' rfl hl k1
    rw [lenK_eq, Nat.zero_add, forceH_eq] at this
    exact this

set_option maxRecDepth 100000 in
theorem double_spec (m : Bool) (v : BitVec 64) (L : List B8) (c : Nat) (hL : L.length ≤ 70368744177664) (hc : L.length ≤ c) : Does TB 185 (.s (.ptr 0 0) :: .s (.ptr 2 0) :: ints []) (wr L c ++ [.cells m [.one (.int .u64 v.toNat)] 0])
    (fun r h' => ∃ c', (L ++ le v 8).length ≤ c' ∧ r = .tuple [] ∧ h' = wr3 (L ++ le v 8) c' (.cells m [.one (.int .u64 v.toNat)] 0)) := by
  refine fnX_does TB Try.func185 rfl (by decide) (fun O on hO => ?_)
  refine number_k 0 1 v 8 rfl (by decide) hL hc rfl rfl (by decide) ?_
  intro L' c' e l k
  subst e
  exact ⟨_, _, [0, 1, 2, 3], ⟨c', k, rfl, rfl⟩, by decide, ⟨rfl, rfl, rfl, trivial⟩, trivial, ⟨⟨_, rfl, eqvB_refl _⟩, ⟨_, rfl, eqvB_refl _⟩, ⟨_, rfl, eqvB_refl _⟩, ⟨_, rfl, eqvB_refl _⟩, trivial⟩⟩
theorem wide32 (v : BitVec 32) : IntKind.u64.wrap (v.toNat : Int) = ((v.setWidth 64).toNat : Int) := by
  have := v.isLt
  rw [wrap_u64, BitVec.toNat_setWidth, BitVec.toNat_ofInt]; omega
theorem wide8 (v : BitVec 8) : IntKind.u64.wrap (v.toNat : Int) = ((v.setWidth 64).toNat : Int) := by
  have := v.isLt
  rw [wrap_u64, BitVec.toNat_setWidth, BitVec.toNat_ofInt]; omega
set_option maxRecDepth 100000 in
theorem word_spec (m : Bool) (v : BitVec 32) (L : List B8) (c : Nat) (hL : L.length ≤ 70368744177664) (hc : L.length ≤ c) : Does TB 190 (.s (.ptr 0 0) :: .s (.ptr 2 0) :: ints []) (wr L c ++ [.cells m [.one (.int .u32 v.toNat)] 0])
    (fun r h' => ∃ c', (L ++ le (v.setWidth 64) 4).length ≤ c' ∧ r = .tuple [] ∧ h' = wr3 (L ++ le (v.setWidth 64) 4) c' (.cells m [.one (.int .u32 v.toNat)] 0)) := by
  refine fnX_does TB Try.func190 rfl (by decide) (fun O on hO => ?_)
  refine number_k 0 1 (v.setWidth 64) 4 (wide32 v) (by decide) hL hc rfl rfl (by decide) ?_
  intro L' c' e l k
  subst e
  exact ⟨_, _, [0, 1, 2, 3], ⟨c', k, rfl, rfl⟩, by decide, ⟨rfl, rfl, rfl, trivial⟩, trivial, ⟨⟨_, rfl, eqvB_refl _⟩, ⟨_, rfl, eqvB_refl _⟩, ⟨_, rfl, eqvB_refl _⟩, ⟨_, rfl, eqvB_refl _⟩, trivial⟩⟩
set_option maxRecDepth 100000 in
theorem octet_spec (m : Bool) (v : BitVec 8) (L : List B8) (c : Nat) (hL : L.length ≤ 70368744177664) (hc : L.length ≤ c) : Does TB 188 (.s (.ptr 0 0) :: .s (.ptr 2 0) :: ints []) (wr L c ++ [.cells m [.one (.int .u8 v.toNat)] 0])
    (fun r h' => ∃ c', (L ++ le (v.setWidth 64) 1).length ≤ c' ∧ r = .tuple [] ∧ h' = wr3 (L ++ le (v.setWidth 64) 1) c' (.cells m [.one (.int .u8 v.toNat)] 0)) := by
  refine fnX_does TB Try.func188 rfl (by decide) (fun O on hO => ?_)
  refine number_k 0 1 (v.setWidth 64) 1 (wide8 v) (by decide) hL hc rfl rfl (by decide) ?_
  intro L' c' e l k
  subst e
  exact ⟨_, _, [0, 1, 2, 3], ⟨c', k, rfl, rfl⟩, by decide, ⟨rfl, rfl, rfl, trivial⟩, trivial, ⟨⟨_, rfl, eqvB_refl _⟩, ⟨_, rfl, eqvB_refl _⟩, ⟨_, rfl, eqvB_refl _⟩, ⟨_, rfl, eqvB_refl _⟩, trivial⟩⟩
set_option maxRecDepth 100000 in
theorem place_spec (m : Bool) (v : Int) (n : Nat) (hn : 0 < n ∧ n ≤ 8) (L : List B8) (c : Nat) (hL : L.length ≤ 70368744177664) (hc : L.length ≤ c) : Does TB 189 (.s (.ptr 0 0) :: .s (.ptr 2 0) :: ints [(n : Int)]) (wr L c ++ [.cells m [.one (.int .i64 v)] 0])
    (fun r h' => ∃ c', (L ++ le (BitVec.ofInt 64 v) n).length ≤ c' ∧ r = .tuple [] ∧ h' = wr3 (L ++ le (BitVec.ofInt 64 v) n) c' (.cells m [.one (.int .i64 v)] 0)) := by
  refine fnX_does TB Try.func189 rfl (by decide) (fun O on hO => ?_)
  refine number_k 0 1 (BitVec.ofInt 64 v) n (wrap_u64 v) hn hL hc rfl rfl (by decide) ?_
  intro L' c' e l k
  subst e
  exact ⟨_, _, [0, 1, 2, 3], ⟨c', k, rfl, rfl⟩, by decide, ⟨rfl, rfl, rfl, trivial⟩, trivial, ⟨⟨_, rfl, eqvB_refl _⟩, ⟨_, rfl, eqvB_refl _⟩, ⟨_, rfl, eqvB_refl _⟩, ⟨_, rfl, eqvB_refl _⟩, trivial⟩⟩
set_option maxRecDepth 100000 in
theorem wflag_spec (m : Bool) (b : Bool) (L : List B8) (c : Nat) (hL : L.length ≤ 70368744177664) (hc : L.length ≤ c) : Does TB 186 (.s (.ptr 0 0) :: .s (.ptr 2 0) :: ints []) (wr L c ++ [.cells m [.one (.bool b)] 0])
    (fun r h' => ∃ c', (L ++ bb b).length ≤ c' ∧ r = .tuple [] ∧ h' = wr3 (L ++ bb b) c' (.cells m [.one (.bool b)] 0)) := by
  refine fnX_does TB Try.func186 rfl (by decide) (fun O on hO => ?_)
  refine ifB_intro (fun h1 => ?_) (fun h1 => ?_)
  · subst h1
    refine number_k 0 1 1#64 1 rfl (by decide) hL hc rfl rfl (by decide) ?_
    intro L' c' e l k
    have e : L' = L ++ bb true := e
    subst e
    exact ⟨_, _, [0, 1, 2, 3], ⟨c', k, rfl, rfl⟩, by decide, ⟨rfl, rfl, rfl, trivial⟩, trivial, ⟨⟨_, rfl, eqvB_refl _⟩, ⟨_, rfl, eqvB_refl _⟩, ⟨_, rfl, eqvB_refl _⟩, ⟨_, rfl, eqvB_refl _⟩, trivial⟩⟩
  · subst h1
    refine number_k 0 1 0#64 1 rfl (by decide) hL hc rfl rfl (by decide) ?_
    intro L' c' e l k
    have e : L' = L ++ bb false := e
    subst e
    exact ⟨_, _, [0, 1, 2, 3], ⟨c', k, rfl, rfl⟩, by decide, ⟨rfl, rfl, rfl, trivial⟩, trivial, ⟨⟨_, rfl, eqvB_refl _⟩, ⟨_, rfl, eqvB_refl _⟩, ⟨_, rfl, eqvB_refl _⟩, ⟨_, rfl, eqvB_refl _⟩, trivial⟩⟩
end Go.Proofs.Ytghcdkpgcanpgaa
