import Derived.Test.YtghcdkpgcanpgaaT
import Derived.Test.YtghcdkpgcanpgaaM1
import Derived.Test.YtghcdkpgcanpgaaE12
namespace Go.Anv
open Go
abbrev B8 := BitVec 8
def bf (l : List B8) (j : Nat) : Int := ((l.getD j 0#8).toNat : Int)
def special (c : B8) : Bool := c == 35#8 || c == 36#8 || c == 125#8 || c == 42#8
def digs : ByteArray := ⟨#[48, 49, 50, 51, 52, 53, 54, 55, 56, 57, 97, 98, 99, 100, 101, 102]⟩
def hexB (v : Nat) : ByteArray := if v < 16 then digs.extract v (v + 1) else hexB (v / 16) ++ digs.extract (v % 16) (v % 16 + 1)
theorem hexB_size (v : Nat) : (hexB v).size ≤ v + 1 := by
  rw [hexB]
  split
  · simp only [ByteArray.size_extract]; omega
  · have := hexB_size (v / 16)
    rw [ByteArray.size_append]
    simp only [ByteArray.size_extract]
    omega
termination_by v
decreasing_by omega
theorem args_eq {T : Tbl} {f : FuncId} {a b : List EV} {h : List Blk} {Q : EV → List Blk → Prop} (e : a = b) (d : Does T f b h Q) : Does T f a h Q := e ▸ d
end Go.Anv
namespace Go.Proofs.Ytghcdkpgcanpgaa
open Go Go.Anv
theorem u64_in {x : Int} (h1 : 0 ≤ x) (h2 : x < 18446744073709551616) : IntKind.u64.wrap x = x := by
  show x % 2 ^ 64 = x
  omega
theorem special_spec (c : B8) (h : List Blk) : Does TB 70 [.s (.int .u8 c.toNat)] h (fun v h' => v = .s (.bool (special c)) ∧ h' = h) := by
  refine fnX_pure TB Try.func70 rfl (by decide) rfl _ rfl (fun O on => ?_) h
  repeat (refine need_intro (by simp) ?_)
  have e : ∀ k : Nat, k < 256 → (((c.toNat : Int) == (k : Int)) = (c == BitVec.ofNat 8 k)) := fun k hk => by
    rw [Bool.eq_iff_iff]
    simp only [beq_iff_eq]
    constructor
    · intro h
      apply BitVec.eq_of_toNat_eq
      rw [BitVec.toNat_ofNat, Nat.mod_eq_of_lt hk]
      omega
    · intro h
      rw [h, BitVec.toNat_ofNat, Nat.mod_eq_of_lt hk]
  have e1 := e 35 (by decide)
  have e2 := e 36 (by decide)
  have e3 := e 125 (by decide)
  have e4 := e 42 (by decide)
  refine Eq.trans (b := ((((c.toNat : Int) == (35 : Nat)) || ((c.toNat : Int) == (36 : Nat))) || ((c.toNat : Int) == (125 : Nat))) || ((c.toNat : Int) == (42 : Nat))) rfl ?_
  rw [e1, e2, e3, e4]
  rfl
theorem hex_spec (v : Nat) (hv : v < 2 ^ 64) (h : List Blk) : Does TB 100 [.s (.int .u64 v)] h (fun r h' => r = .s (.str (hexB v)) ∧ h' = h) := by
  refine fnX_pure TB Try.func100 rfl (by decide) rfl _ rfl (fun O on => ?_) h
  refine ifB_intro (fun h1 => ?_) (fun h1 => ?_)
  · have h1 : v < 16 := by
      have := of_decide_eq_true h1
      omega
    have hw : IntKind.u64.wrap ((v : Int) + 1) = ((v + 1 : Nat) : Int) := by
      rw [u64_in (by omega) (by omega)]
      rfl
    refine need_intro ⟨by omega, by omega, ?_⟩ ?_
    · rw [hw]
      show ((v + 1 : Nat) : Int) ≤ 16
      omega
    · show (_ : ByteArray) = _
      rw [hw, hexB, if_pos h1]
      rfl
  · have h1 : ¬ v < 16 := by
      have := of_decide_eq_false h1
      omega
    refine draw_held on rfl (fun _ _ h => h) ?_
    have ed : (v : Int).tdiv 16 = ((v / 16 : Nat) : Int) := rfl
    have em : (v : Int).tmod 16 = ((v % 16 : Nat) : Int) := rfl
    have hw : IntKind.u64.wrap ((v : Int).tdiv 16) = ((v / 16 : Nat) : Int) := by
      rw [ed, u64_in (by omega) (by omega)]
    have hw2 : IntKind.u64.wrap ((v : Int).tmod 16 + 1) = ((v % 16 + 1 : Nat) : Int) := by
      rw [em, u64_in (by omega) (by omega)]
      rfl
    refine need_intro (by decide) ?_
    refine need_intro (by decide) ?_
    refine need_intro (by decide) ?_
    refine need_intro ⟨by omega, by rw [hw2, em]; omega, by rw [hw2]; show ((v % 16 + 1 : Nat) : Int) ≤ 16; omega⟩ ?_
    refine Does.mono (args_eq (by rw [hw]) (hex_spec (v / 16) (by omega) _)) ?_
    rintro r h' ⟨rfl, rfl⟩
    have hs := hexB_size (v / 16)
    have hx : (digs.extract ((v : Int).tmod 16).toNat (IntKind.u64.wrap ((v : Int).tmod 16 + 1)).toNat).size ≤ 1 := by
      rw [hw2, em]
      simp only [ByteArray.size_extract, Int.toNat_natCast]
      omega
    refine need_intro (Nat.le_trans (Nat.add_le_add hs hx) (by omega)) ?_
    show (_ : ByteArray) = _
    rw [hw2, em, hexB.eq_1 v, if_neg h1]
    rfl
termination_by v
decreasing_by omega
end Go.Proofs.Ytghcdkpgcanpgaa
