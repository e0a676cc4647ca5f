/- The writer's list and many bytes: contracts that go on. No condition. -/
import Derived.Test.YtghcdkpgcanpgaaW1
namespace Go.Anv
open Go
/-- The first bytes of what a block holds. -/
def lst (q : Nat → B8) (n : Nat) : List B8 := (List.range n).map q
theorem lst_len (q : Nat → B8) (n : Nat) : (lst q n).length = n := by simp [lst]
theorem bf_lst (q : Nat → B8) (n : Nat) : ∀ j, j < n → bfun q j = bf (lst q n) j := by
  intro j hj
  simp [bfun, bf, lst, List.getD_eq_getElem?_getD, List.getElem?_range hj]
theorem nat64 {n : Nat} (h : n ≤ 140737488355328) : IntKind.u64.wrap (n : Int) = ((BitVec.ofNat 64 n).toNat : Int) := by
  rw [wrap_u64, BitVec.toNat_ofInt, BitVec.toNat_ofNat]
  omega
end Go.Anv
namespace Go.Proofs.Ytghcdkpgcanpgaa
open Go Go.Anv
theorem bytes_k {h : List Blk} {K : EV → List Blk → Prop} (pw pb pp : Nat) {L : List B8} {c : Nat} (m : Bool) (P : List B8) (k o cp sp : Nat) (f : Nat → Int) (hf : ∀ j, j < P.length → f (o + j) = bf P j) (hk : o + P.length ≤ k)
    (hL : L.length ≤ 70368744177664) (hP : P.length ≤ 70368744177664) (hc : L.length ≤ c)
    (hw : nthB h pw = some (wb pb L c)) (hb : nthB h pb = some (lb L c)) (hp : nthB h pp = some (.cells m [.ints .u8 k f] sp)) (hne : pw ≠ pb ∧ pw ≠ pp ∧ pb ≠ pp) {n : Nat} (hn : n = P.length)
    (hK : ∀ L' c', L' = L ++ P → L'.length = L.length + n → L'.length ≤ c' → lenK h 0 fun N => updBK h pw (wb N L' c') fun h1 => updBK h1 pb .dead fun h2 => updBK h2 pp (.cells m [.ints .u8 k f] sp) fun h3 => appBK h3 [lb L' c'] fun h4 => K (.tuple []) h4) :
    Does TB 39 [.s (.ptr pw 0), .s (.gs pp o n cp)] h K := by
  subst hn
  refine Does.at (bytes_spec L c m P k o cp sp f hf hk hL hP hc) [pw, pb, pp] rfl ⟨hw, hb, hp, trivial⟩ (by simp [hne]) ?_ ?_
  · rintro v h' ⟨c', _, _, rfl⟩
    exact ⟨.inl rfl, .inr (.inl rfl), .inr (.inr rfl), .inl rfl, trivial⟩
  · rintro v h' ⟨c', h1, rfl, rfl⟩
    have hl : (L ++ P).length = L.length + P.length := List.length_append
    have := hK _ c' rfl hl (by rw [hl]; exact h1)
    rw [lenK_eq, updBK_eq, updBK_eq, updBK_eq, appBK_eq, Nat.zero_add] at this
    rw [forceH_eq, forceE_eq]
    exact this

set_option maxRecDepth 100000 in
theorem list_spec (m mb : Bool) (q : Nat → B8) (n cp sp size : Nat) (most : Int) (hs : 0 < size ∧ size ≤ 8) (hn : n ≤ 1048576) (L : List B8) (c : Nat) (hL : L.length ≤ 1099511627776) (hc : L.length ≤ c) :
    Does TB 187 [.s (.ptr 0 0), .s (.ptr 2 0), .s (.int .i64 size), .s (.int .i64 most)] [wb 1 L c, lb L c, .cells m [.one (.gs 3 0 n cp)] 0, bblk mb n q sp]
    (fun r h' => ∃ L' c', L' = L ++ le (BitVec.ofNat 64 n) size ++ lst q n ∧ L'.length = L.length + size + n ∧ L'.length ≤ c' ∧ r = .tuple [] ∧ h' = [wb 4 L' c', .dead, .cells m [.one (.gs 3 0 n cp)] 0, bblk mb n q sp, lb L' c']) := by
  refine fnX_does TB Try.func187 rfl (by decide) (fun O on hO => ?_)
  refine number_k 0 1 (BitVec.ofNat 64 n) size (nat64 (by omega)) hs (by omega) hc rfl rfl (by decide) ?_
  intro L1 c1 e1 l1 k1
  refine bytes_k 0 4 3 mb (lst q n) n 0 cp sp (bfun q) ?_ (by rw [lst_len]; omega) (by omega) (by rw [lst_len]; omega) k1 rfl rfl rfl (by decide) (lst_len q n).symm ?_
  · intro j hj
    rw [Nat.zero_add]
    rw [lst_len] at hj
    exact bf_lst q n j hj
  intro L2 c2 e2 l2 k2
  subst e1
  exact ⟨_, _, [0, 1, 2, 3, 5], ⟨L2, c2, e2, by omega, k2, rfl, rfl⟩, by decide, ⟨rfl, rfl, rfl, rfl, trivial⟩, trivial, ⟨⟨_, rfl, eqvB_refl _⟩, ⟨_, rfl, eqvB_refl _⟩, ⟨_, rfl, eqvB_refl _⟩, ⟨_, rfl, eqvB_refl _⟩, ⟨_, rfl, eqvB_refl _⟩, trivial⟩⟩

/-- In a larger heap. -/
theorem list_k {h : List Blk} {K : EV → List Blk → Prop} (pw pb pv pp k : Nat) {m mb : Bool} {q : Nat → B8} {n cp sp spv size : Nat} {most : Int} {cs : List Seg} {L : List B8} {c : Nat} {pe : EV} (N : Nat) (hN : h.length = N) (hs : 0 < size ∧ size ≤ 8) (hn : n ≤ 1048576) (hL : L.length ≤ 1099511627776) (hc : L.length ≤ c)
    (hw : nthB h pw = some (wb pb L c)) (hb : nthB h pb = some (lb L c)) (hv : nthB h pv = some (.cells m cs spv)) (hp : nthB h pp = some (bblk mb n q sp)) (hne : [pw, pb, pv, pp].Nodup) (hpe : ptrTo pv k pe)
    (hcell : CellAt cs k (.gs pp 0 n cp) cs (.gs pp 0 n cp))
    (hK : ∀ L' c', L' = L ++ le (BitVec.ofNat 64 n) size ++ lst q n → L'.length = L.length + size + n → L'.length ≤ c' →
      forceH (updB (updB (mergeB (updB h pv .dead ++ [.cells m [.one (.gs pp 0 n cp)] 0]) [pw, pb, N, pp] [wb (N + 1) L' c', .dead, .cells m [.one (.gs pp 0 n cp)] 0, bblk mb n q sp, lb L' c']) N .dead) pv (.cells m cs spv)) fun h2 => K (.tuple []) h2) :
    Does TB 187 [.s (.ptr pw 0), pe, .s (.int .i64 size), .s (.int .i64 most)] h K := by
  subst hN
  simp only [List.nodup_cons, List.mem_cons, List.not_mem_nil, or_false, not_or, List.nodup_nil, and_true, not_false_eq_true] at hne
  obtain ⟨⟨n1, n2, n3⟩, ⟨n4, n5⟩, n6⟩ := hne
  have lw := nthB_lt hw
  have lbb := nthB_lt hb
  have lp := nthB_lt hp
  have lN : nthB (updB h pv .dead ++ [Blk.cells m [.one (.gs pp 0 n cp)] 0]) h.length = some (.cells m [.one (.gs pp 0 n cp)] 0) := by
    have := nthB_len (updB h pv .dead) (Blk.cells m [.one (.gs pp 0 n cp)] 0) []
    rwa [len_updB] at this
  refine Does.cell (list_spec m mb q n cp sp size most hs hn L c hL hc) [pw, pb, h.length, pp] pv k h.length rfl hv (Cell.keep hcell) ⟨nthB_app (nthB_upd_ne hw n2), nthB_app (nthB_upd_ne hb n4), lN, nthB_app (nthB_upd_ne hp (Ne.symm n6)), trivial⟩ ⟨.inl ⟨rfl, rfl⟩, ptrTo_part hpe, rfl, rfl, trivial⟩ ?_ ?_ ?_ ?_
  · simp only [List.nodup_cons, List.mem_cons, List.not_mem_nil, or_false, not_or, List.nodup_nil, and_true, not_false_eq_true]
    exact ⟨⟨n1, by omega, n3⟩, ⟨by omega, n5⟩, by omega⟩
  · rintro v h' ⟨L', c', _, _, _, _, rfl⟩
    exact ⟨.inl rfl, .inr (.inl rfl), .inr (.inr rfl), .inr (.inr rfl), .inl rfl, trivial⟩
  · rintro v h' ⟨L', c', _, _, _, _, rfl⟩
    exact Nat.le_succ _
  · rintro v h' ⟨L', c', e1, e2, e3, rfl, rfl⟩
    refine ⟨_, _, ?_, ⟨rfl, rfl⟩, ?_⟩
    · show nthB (updB (updB (updB (updB _ pw _) pb _) h.length _) pp _ ++ _) _ = _
      exact nthB_app (nthB_upd_ne (nthB_upd_eq (nthB_upd_ne (nthB_upd_ne lN (by omega)) (by omega))) (by omega))
    · rw [forceH_eq, forceE_eq]
      have := hK L' c' e1 e2 e3
      rw [forceH_eq] at this
      exact this
end Go.Proofs.Ytghcdkpgcanpgaa
