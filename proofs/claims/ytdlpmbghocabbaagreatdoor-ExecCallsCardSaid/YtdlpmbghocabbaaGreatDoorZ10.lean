/- Part 10 of the texts of this claim, merged: A29, F6, F8, A30, I2, E19, I3, F4, I9, E28, I10, I11, EC1. No condition: plain theorems, contracts of functions. -/
import Derived.Test.YtdlpmbghocabbaaGreatDoorZ9
import Derived.Recover
import Derived.WalkKit

set_option linter.unusedSimpArgs false
set_option linter.unusedVariables false
/- The operations of two registers. Contracts of functions. -/
namespace Go.Anv
open Go
def mulHU (a b : B64) : B64 :=
  let w0 := (a &&& 4294967295#64) * (b &&& 4294967295#64)
  let t := (a >>> 32) * (b &&& 4294967295#64) + w0 >>> 32
  (a >>> 32) * (b >>> 32) + t >>> 32 + ((t &&& 4294967295#64) + (a &&& 4294967295#64) * (b >>> 32)) >>> 32
def mulHSU (a b : B64) : B64 := if a >>> 63 = 1#64 then mulHU a b - b else mulHU a b
def mulHS (a b : B64) : B64 := if b >>> 63 = 1#64 then mulHSU a b - a else mulHSU a b
def divS (a b : B64) : B64 := if b.toInt = 0 then 18446744073709551615#64 else if b.toInt = -1 then -a else BitVec.ofInt 64 (a.toInt.tdiv b.toInt)
def remS (a b : B64) : B64 := if b.toInt = 0 then a else if b.toInt = -1 then 0#64 else BitVec.ofInt 64 (a.toInt.tmod b.toInt)
def divU (a b : B64) : B64 := if b = 0#64 then 18446744073709551615#64 else a / b
def remU (a b : B64) : B64 := if b = 0#64 then a else a % b
def truthV (t : Bool) : B64 := if t = true then 1#64 else 0#64
theorem sh63 (b : B64) : bitX .and .u64 (b.toNat : Int) 63 = ((b &&& 63#64).toNat : Int) := by rw [and_u64, ofInt_toNat]; rfl
theorem le63 (b : B64) : (b &&& 63#64).toNat ≤ 63 := by rw [BitVec.toNat_and]; exact Nat.and_le_right
theorem sh31 (b : B32) : bitX .and .u32 (b.toNat : Int) 31 = ((b &&& 31#32).toNat : Int) := by rw [and_u32, ofInt_toNat]; rfl
theorem le31 (b : B32) : (b &&& 31#32).toNat ≤ 31 := by rw [BitVec.toNat_and]; exact Nat.and_le_right
theorem ge63 (b : B64) : 0 ≤ bitX .and .u64 (b.toNat : Int) 63 := by rw [sh63]; exact Int.natCast_nonneg _
theorem ge31 (b : B32) : 0 ≤ bitX .and .u32 (b.toNat : Int) 31 := by rw [sh31]; exact Int.natCast_nonneg _
theorem amt63 (b : B64) (k : IntKind) (hk : k.bits = 64) : min (bitX .and .u64 (b.toNat : Int) 63).toNat k.bits = (b &&& 63#64).toNat := by
  rw [sh63, Int.toNat_natCast, hk]; have := le63 b; omega
theorem amt31 (b : B32) (k : IntKind) (hk : k.bits = 32) : min (bitX .and .u32 (b.toNat : Int) 31).toNat k.bits = (b &&& 31#32).toNat := by
  rw [sh31, Int.toNat_natCast, hk]; have := le31 b; omega
theorem shlW (a b : B64) : IntKind.u64.wrap ((a.toNat : Int) * 2 ^ min (bitX .and .u64 (b.toNat : Int) 63).toNat IntKind.u64.bits) = ((a <<< (b &&& 63#64).toNat).toNat : Int) := by
  rw [amt63 b _ rfl, wrap_u64, mul_pow]
theorem shrW (a b : B64) : (a.toNat : Int).fdiv (2 ^ min (bitX .and .u64 (b.toNat : Int) 63).toNat IntKind.u64.bits) = ((a >>> (b &&& 63#64).toNat).toNat : Int) := by
  rw [amt63 b _ rfl, fdiv_pow]
theorem fdiv_sar {w : Nat} (a : BitVec w) (n : Nat) : a.toInt.fdiv (2 ^ n) = (a.sshiftRight n).toInt := by
  rw [BitVec.toInt_sshiftRight, Int.shiftRight_eq_div_pow, Int.fdiv_eq_ediv_of_nonneg _ (Int.le_of_lt (Int.pow_pos (by decide)))]
  simp
theorem sarW (a b : B64) : IntKind.u64.wrap ((IntKind.i64.wrap (a.toNat : Int)).fdiv (2 ^ min (bitX .and .u64 (b.toNat : Int) 63).toNat IntKind.i64.bits)) = ((a.sshiftRight (b &&& 63#64).toNat).toNat : Int) := by
  rw [amt63 b _ rfl, i64_nat, fdiv_sar, u64_int]
theorem shlH (a b : B32) : IntKind.u32.wrap ((a.toNat : Int) * 2 ^ min (bitX .and .u32 (b.toNat : Int) 31).toNat IntKind.u32.bits) = ((a <<< (b &&& 31#32).toNat).toNat : Int) := by
  rw [amt31 b _ rfl, wrap_u32, mul_pow]
theorem shrH (a b : B32) : (a.toNat : Int).fdiv (2 ^ min (bitX .and .u32 (b.toNat : Int) 31).toNat IntKind.u32.bits) = ((a >>> (b &&& 31#32).toNat).toNat : Int) := by
  rw [amt31 b _ rfl, fdiv_pow]
theorem i32_nat (a : B32) : IntKind.i32.wrap (a.toNat : Int) = a.toInt := by rw [wrap_i32, ofInt_toNat]
theorem u32_int (a : B32) : IntKind.u32.wrap a.toInt = (a.toNat : Int) := by rw [wrap_u32, BitVec.ofInt_toInt]
theorem sarH (a b : B32) : IntKind.u32.wrap ((IntKind.i32.wrap (a.toNat : Int)).fdiv (2 ^ min (bitX .and .u32 (b.toNat : Int) 31).toNat IntKind.i32.bits)) = ((a.sshiftRight (b &&& 31#32).toNat).toNat : Int) := by
  rw [amt31 b _ rfl, i32_nat, fdiv_sar, u32_int]
theorem add32 (a b : B32) : IntKind.u32.wrap ((a.toNat : Int) + (b.toNat : Int)) = ((a + b).toNat : Int) := by
  rw [wrap_u32, BitVec.ofInt_add, ofInt_toNat, ofInt_toNat]
theorem sub32 (a b : B32) : IntKind.u32.wrap ((a.toNat : Int) - (b.toNat : Int)) = ((a - b).toNat : Int) := by
  have ha := a.isLt; have hb := b.isLt
  rw [wrap_u32, BitVec.toNat_ofInt, BitVec.toNat_sub]
  omega
theorem mul32 (a b : B32) : IntKind.u32.wrap ((a.toNat : Int) * (b.toNat : Int)) = ((a * b).toNat : Int) := by
  rw [wrap_u32, BitVec.ofInt_mul, ofInt_toNat, ofInt_toNat]
end Go.Anv
namespace Go.Proofs.YtdlpmbghocabbaaGreatDoor
open Go Go.Anv
theorem mul64A (a b : B64) (h : List Blk) : Does TB 212 [.s (.int .u64 a.toNat), .s (.int .u64 b.toNat)] h (fun r h' => r = .tuple [.s (.int .u64 (mulHU a b).toNat), .s (.int .u64 (a * b).toNat)] ∧ h' = h) := by
  refine fnX_pure TB Tryz.func212 rfl (by decide) rfl _ rfl (fun O on => ?_) h
  repeat (refine need_intro (by first | (exact Int.le_of_ble_eq_true rfl) | exact fun h => h | exact nt | exact an2 | exact an3 | rfl | (simp; done) | fail) ?_)
  have m : ∀ x : B64, bitX .and .u64 (x.toNat : Int) 4294967295 = ((x &&& 4294967295#64).toNat : Int) := fun x => by rw [and_u64, ofInt_toNat]; rfl
  have s : ∀ x : B64, (x.toNat : Int).fdiv (2 ^ min (Int.toNat 32) IntKind.u64.bits) = ((x >>> 32).toNat : Int) := fun x => by rw [show min (Int.toNat 32) IntKind.u64.bits = 32 from by decide, fdiv_pow]
  refine ⟨⟨rfl, ?_⟩, ⟨rfl, mul64 a b⟩, trivial⟩
  simp only [m, s, mul64, add64]
  rfl
theorem truthA (t : Bool) (h : List Blk) : Does TB 149 [.s (.bool t)] h (fun r h' => r = .s (.int .u64 (truthV t).toNat) ∧ h' = h) := by
  refine fnX_pure TB Tryz.func149 rfl (by decide) rfl _ rfl (fun O on => ?_) h
  cases t <;> exact eqvE_refl _
theorem upperA (a b : B64) (h : List Blk) : Does TB 161 [.s (.int .u64 a.toNat), .s (.int .u64 b.toNat)] h (fun r h' => r = .s (.int .u64 a.toNat) ∧ h' = h) := by
  refine fnX_pure TB Tryz.func161 rfl (by decide) rfl _ rfl (fun O on => ?_) h
  exact eqvE_refl _
theorem wideA (a b : B64) (h : List Blk) : Does TB 166 [.s (.int .u64 a.toNat), .s (.int .u64 b.toNat)] h (fun r h' => r = .tuple [.s (.int .u64 (mulHU a b).toNat), .s (.int .u64 (a * b).toNat)] ∧ h' = h) := by
  refine fnX_pure TB Tryz.func166 rfl (by decide) rfl _ rfl (fun O on => ?_) h
  repeat (refine need_intro (by first | exact fun h => h | exact nt | exact an2 | exact an3 | rfl | (simp; done) | fail) ?_)
  refine (mul64A a b _).mono ?_
  rintro _ _ ⟨rfl, rfl⟩
  repeat (refine need_intro (by first | exact fun h => h | exact nt | exact an2 | exact an3 | rfl | (simp; done) | fail) ?_)
  exact eqvE_refl _
theorem wideMA (a b : B64) (h : List Blk) : Does TB 164 [.s (.int .u64 a.toNat), .s (.int .u64 b.toNat)] h (fun r h' => r = .tuple [.s (.int .u64 (mulHSU a b).toNat), .s (.int .u64 (a * b).toNat)] ∧ h' = h) := by
  refine fnX_pure TB Tryz.func164 rfl (by decide) rfl _ rfl (fun O on => ?_) h
  repeat (refine need_intro (by first | exact fun h => h | exact nt | exact an2 | exact an3 | rfl | (simp; done) | fail) ?_)
  refine (mul64A a b _).mono ?_
  rintro _ _ ⟨rfl, rfl⟩
  repeat (refine need_intro (by first | exact fun h => h | exact nt | exact an2 | exact an3 | rfl | (simp; done) | fail) ?_)
  have e : (((a : B64).toNat : Int).fdiv (2 ^ min (Int.toNat 63) IntKind.u64.bits) == 1) = decide (a >>> 63 = 1#64) := by
    rw [show min (Int.toNat 63) IntKind.u64.bits = 63 from by decide, fdiv_pow, Bool.eq_iff_iff, decide_eq_true_iff]
    exact (Bool.eq_iff_iff.1 (beq_nat (a >>> 63) 1#64)).trans beq_iff_eq
  unfold mulHSU
  refine ifB_intro (fun g => ?_) (fun g => ?_)
  · rw [if_pos (of_decide_eq_true (e.symm.trans g))]
    repeat (refine need_intro (by first | exact fun h => h | exact nt | exact an2 | exact an3 | rfl | (simp; done) | fail) ?_)
    exact ⟨⟨rfl, sub64 _ _⟩, eqvE_refl _, trivial⟩
  · rw [if_neg (of_decide_eq_false (e.symm.trans g))]
    repeat (refine need_intro (by first | exact fun h => h | exact nt | exact an2 | exact an3 | rfl | (simp; done) | fail) ?_)
    exact ⟨eqvE_refl _, eqvE_refl _, trivial⟩
theorem wideSA (a b : B64) (h : List Blk) : Does TB 162 [.s (.int .u64 a.toNat), .s (.int .u64 b.toNat)] h (fun r h' => r = .tuple [.s (.int .u64 (mulHS a b).toNat), .s (.int .u64 (a * b).toNat)] ∧ h' = h) := by
  refine fnX_pure TB Tryz.func162 rfl (by decide) rfl _ rfl (fun O on => ?_) h
  repeat (refine need_intro (by first | exact fun h => h | exact nt | exact an2 | exact an3 | rfl | (simp; done) | fail) ?_)
  refine (wideMA a b _).mono ?_
  rintro _ _ ⟨rfl, rfl⟩
  repeat (refine need_intro (by first | exact fun h => h | exact nt | exact an2 | exact an3 | rfl | (simp; done) | fail) ?_)
  have e : (((b : B64).toNat : Int).fdiv (2 ^ min (Int.toNat 63) IntKind.u64.bits) == 1) = decide (b >>> 63 = 1#64) := by
    rw [show min (Int.toNat 63) IntKind.u64.bits = 63 from by decide, fdiv_pow, Bool.eq_iff_iff, decide_eq_true_iff]
    exact (Bool.eq_iff_iff.1 (beq_nat (b >>> 63) 1#64)).trans beq_iff_eq
  unfold mulHS
  refine ifB_intro (fun g => ?_) (fun g => ?_)
  · rw [if_pos (of_decide_eq_true (e.symm.trans g))]
    repeat (refine need_intro (by first | exact fun h => h | exact nt | exact an2 | exact an3 | rfl | (simp; done) | fail) ?_)
    exact ⟨⟨rfl, sub64 _ _⟩, eqvE_refl _, trivial⟩
  · rw [if_neg (of_decide_eq_false (e.symm.trans g))]
    repeat (refine need_intro (by first | exact fun h => h | exact nt | exact an2 | exact an3 | rfl | (simp; done) | fail) ?_)
    exact ⟨eqvE_refl _, eqvE_refl _, trivial⟩
theorem toInt_ne_zero {b : B64} (h : b ≠ 0#64) : b.toInt ≠ 0 := fun e => h (by rw [← BitVec.ofInt_toInt (x := b), e]; rfl)
theorem divideA (a b : B64) (h : List Blk) : Does TB 167 [.s (.int .u64 a.toNat), .s (.int .u64 b.toNat)] h (fun r h' => r = .s (.int .u64 (divS a b).toNat) ∧ h' = h) := by
  refine fnX_pure TB Tryz.func167 rfl (by decide) rfl _ rfl (fun O on => ?_) h
  unfold divS
  repeat (refine need_intro (by first | exact fun h => h | exact nt | exact an2 | exact an3 | rfl | (simp; done) | fail) ?_)
  refine ifB_intro (fun g => ?_) (fun g => ?_)
  · have g : (IntKind.i64.wrap (b.toNat : Int) == 0) = true := g
    rw [i64_nat, beq_iff_eq] at g
    rw [if_pos g]
    exact eqvE_refl _
  · have g0 : (IntKind.i64.wrap (b.toNat : Int) == 0) = false := g
    have g : ¬ b.toInt = 0 := by rw [i64_nat, beq_eq_false_iff_ne] at g0; exact g0
    rw [if_neg g]
    repeat (refine need_intro (by first | exact fun h => h | exact nt | exact an2 | exact an3 | rfl | (simp; done) | fail) ?_)
    refine ifB_intro (fun g2 => ?_) (fun g2 => ?_)
    · have g2 : (IntKind.i64.wrap (b.toNat : Int) == -1) = true := g2
      rw [i64_nat, beq_iff_eq] at g2
      rw [if_pos g2]
      repeat (refine need_intro (by first | exact fun h => h | exact nt | exact an2 | exact an3 | rfl | (simp; done) | fail) ?_)
      exact ⟨rfl, by show IntKind.u64.wrap (0 - (a.toNat : Int)) = _; rw [Int.zero_sub, wrap_u64, BitVec.ofInt_neg, ofInt_toNat]⟩
    · have g2 : (IntKind.i64.wrap (b.toNat : Int) == -1) = false := g2
      rw [i64_nat, beq_eq_false_iff_ne] at g2
      rw [if_neg g2]
      repeat (refine need_intro (by first | exact fun h => h | exact fun _ => rfl | rfl | (rw [i64_nat]; exact g) | fail) ?_)
      exact ⟨rfl, by show IntKind.u64.wrap (IntKind.i64.wrap ((IntKind.i64.wrap (a.toNat : Int)).tdiv (IntKind.i64.wrap (b.toNat : Int)))) = _; rw [i64_nat, i64_nat, wrap_i64, wrap_u64, BitVec.ofInt_toInt]⟩
theorem remainA (a b : B64) (h : List Blk) : Does TB 169 [.s (.int .u64 a.toNat), .s (.int .u64 b.toNat)] h (fun r h' => r = .s (.int .u64 (remS a b).toNat) ∧ h' = h) := by
  refine fnX_pure TB Tryz.func169 rfl (by decide) rfl _ rfl (fun O on => ?_) h
  unfold remS
  repeat (refine need_intro (by first | exact fun h => h | exact nt | exact an2 | exact an3 | rfl | (simp; done) | fail) ?_)
  refine ifB_intro (fun g => ?_) (fun g => ?_)
  · have g : (IntKind.i64.wrap (b.toNat : Int) == 0) = true := g
    rw [i64_nat, beq_iff_eq] at g
    rw [if_pos g]
    exact eqvE_refl _
  · have g0 : (IntKind.i64.wrap (b.toNat : Int) == 0) = false := g
    have g : ¬ b.toInt = 0 := by rw [i64_nat, beq_eq_false_iff_ne] at g0; exact g0
    rw [if_neg g]
    repeat (refine need_intro (by first | exact fun h => h | exact nt | exact an2 | exact an3 | rfl | (simp; done) | fail) ?_)
    refine ifB_intro (fun g2 => ?_) (fun g2 => ?_)
    · have g2 : (IntKind.i64.wrap (b.toNat : Int) == -1) = true := g2
      rw [i64_nat, beq_iff_eq] at g2
      rw [if_pos g2]
      repeat (refine need_intro (by first | exact fun h => h | exact nt | exact an2 | exact an3 | rfl | (simp; done) | fail) ?_)
      exact eqvE_refl _
    · have g2 : (IntKind.i64.wrap (b.toNat : Int) == -1) = false := g2
      rw [i64_nat, beq_eq_false_iff_ne] at g2
      rw [if_neg g2]
      repeat (refine need_intro (by first | exact fun h => h | exact fun _ => rfl | rfl | (rw [i64_nat]; exact g) | fail) ?_)
      exact ⟨rfl, by show IntKind.u64.wrap ((IntKind.i64.wrap (a.toNat : Int)).tmod (IntKind.i64.wrap (b.toNat : Int))) = _; rw [i64_nat, i64_nat, wrap_u64]⟩
theorem nat_ne {b : B64} (h : b ≠ 0#64) : (b.toNat : Int) ≠ 0 := fun e => h (BitVec.eq_of_toNat_eq (by simpa using e))
theorem divideUA (a b : B64) (h : List Blk) : Does TB 168 [.s (.int .u64 a.toNat), .s (.int .u64 b.toNat)] h (fun r h' => r = .s (.int .u64 (divU a b).toNat) ∧ h' = h) := by
  refine fnX_pure TB Tryz.func168 rfl (by decide) rfl _ rfl (fun O on => ?_) h
  unfold divU
  repeat (refine need_intro (by first | exact fun h => h | exact nt | exact an2 | exact an3 | rfl | (simp; done) | fail) ?_)
  refine ifB_intro (fun g => ?_) (fun g => ?_)
  · rw [if_pos (beq_iff_eq.1 ((beq_nat b 0#64).symm.trans g))]
    exact eqvE_refl _
  · have g : ¬ b = 0#64 := by have := (beq_nat b 0#64).symm.trans g; rwa [beq_eq_false_iff_ne] at this
    rw [if_neg g]
    repeat (refine need_intro (by first | exact fun h => h | exact fun _ => rfl | rfl | exact nat_ne g | fail) ?_)
    refine ⟨rfl, ?_⟩
    show IntKind.u64.wrap ((a.toNat : Int).tdiv (b.toNat : Int)) = _
    rw [Int.tdiv_eq_ediv_of_nonneg (by omega), ← Int.natCast_ediv, wnat (Nat.lt_of_le_of_lt (Nat.div_le_self _ _) a.isLt), BitVec.toNat_udiv]
theorem remainUA (a b : B64) (h : List Blk) : Does TB 170 [.s (.int .u64 a.toNat), .s (.int .u64 b.toNat)] h (fun r h' => r = .s (.int .u64 (remU a b).toNat) ∧ h' = h) := by
  refine fnX_pure TB Tryz.func170 rfl (by decide) rfl _ rfl (fun O on => ?_) h
  unfold remU
  repeat (refine need_intro (by first | exact fun h => h | exact nt | exact an2 | exact an3 | rfl | (simp; done) | fail) ?_)
  refine ifB_intro (fun g => ?_) (fun g => ?_)
  · rw [if_pos (beq_iff_eq.1 ((beq_nat b 0#64).symm.trans g))]
    exact eqvE_refl _
  · have g : ¬ b = 0#64 := by have := (beq_nat b 0#64).symm.trans g; rwa [beq_eq_false_iff_ne] at this
    rw [if_neg g]
    repeat (refine need_intro (by first | exact fun h => h | exact fun _ => rfl | rfl | exact nat_ne g | fail) ?_)
    refine ⟨rfl, ?_⟩
    show (a.toNat : Int).tmod (b.toNat : Int) = _
    rw [Int.tmod_eq_emod_of_nonneg (by omega), ← Int.natCast_emod, BitVec.toNat_umod]
theorem opAdd (a b : B64) (h : List Blk) : Does TB 143 [.s (.int .u64 a.toNat), .s (.int .u64 b.toNat)] h (fun r h' => r = .s (.int .u64 (a + b : B64).toNat) ∧ h' = h) := by
  refine fnX_pure TB Tryz.func143 rfl (by decide) rfl _ rfl (fun O on => ?_) h
  repeat (refine need_intro (by first | exact ge63 _ | exact fun h => h | exact fun _ => rfl | rfl | fail) ?_)
  exact ⟨rfl, add64 a b⟩
theorem opSub (a b : B64) (h : List Blk) : Does TB 144 [.s (.int .u64 a.toNat), .s (.int .u64 b.toNat)] h (fun r h' => r = .s (.int .u64 (a - b : B64).toNat) ∧ h' = h) := by
  refine fnX_pure TB Tryz.func144 rfl (by decide) rfl _ rfl (fun O on => ?_) h
  repeat (refine need_intro (by first | exact ge63 _ | exact fun h => h | exact fun _ => rfl | rfl | fail) ?_)
  exact ⟨rfl, sub64 a b⟩
theorem opSll (a b : B64) (h : List Blk) : Does TB 145 [.s (.int .u64 a.toNat), .s (.int .u64 b.toNat)] h (fun r h' => r = .s (.int .u64 (a <<< (b &&& 63#64).toNat : B64).toNat) ∧ h' = h) := by
  refine fnX_pure TB Tryz.func145 rfl (by decide) rfl _ rfl (fun O on => ?_) h
  repeat (refine need_intro (by first | exact ge63 _ | exact fun h => h | exact fun _ => rfl | rfl | fail) ?_)
  exact ⟨rfl, shlW a b⟩
theorem opSrl (a b : B64) (h : List Blk) : Does TB 146 [.s (.int .u64 a.toNat), .s (.int .u64 b.toNat)] h (fun r h' => r = .s (.int .u64 (a >>> (b &&& 63#64).toNat : B64).toNat) ∧ h' = h) := by
  refine fnX_pure TB Tryz.func146 rfl (by decide) rfl _ rfl (fun O on => ?_) h
  repeat (refine need_intro (by first | exact ge63 _ | exact fun h => h | exact fun _ => rfl | rfl | fail) ?_)
  exact ⟨rfl, shrW a b⟩
theorem opSra (a b : B64) (h : List Blk) : Does TB 147 [.s (.int .u64 a.toNat), .s (.int .u64 b.toNat)] h (fun r h' => r = .s (.int .u64 (a.sshiftRight (b &&& 63#64).toNat : B64).toNat) ∧ h' = h) := by
  refine fnX_pure TB Tryz.func147 rfl (by decide) rfl _ rfl (fun O on => ?_) h
  repeat (refine need_intro (by first | exact ge63 _ | exact fun h => h | exact fun _ => rfl | rfl | fail) ?_)
  exact ⟨rfl, sarW a b⟩
theorem opSlt (a b : B64) (h : List Blk) : Does TB 148 [.s (.int .u64 a.toNat), .s (.int .u64 b.toNat)] h (fun r h' => r = .s (.int .u64 (truthV (decide (a.toInt < b.toInt)) : B64).toNat) ∧ h' = h) := by
  refine fnX_pure TB Tryz.func148 rfl (by decide) rfl _ rfl (fun O on => ?_) h
  repeat (refine need_intro (by first | exact fun h => h | exact nt | exact an2 | exact an3 | rfl | (simp; done) | fail) ?_)
  refine Does.args (b := [.s (.bool (decide (a.toInt < b.toInt)))]) ⟨(by show decide (IntKind.i64.wrap _ < IntKind.i64.wrap _) = _; rw [i64_nat, i64_nat]), trivial⟩ ?_
  refine (truthA _ _).mono ?_
  rintro _ _ ⟨rfl, rfl⟩
  repeat (refine need_intro (by first | exact fun h => h | exact nt | exact an2 | exact an3 | rfl | (simp; done) | fail) ?_)
  exact eqvE_refl _
theorem opSltu (a b : B64) (h : List Blk) : Does TB 150 [.s (.int .u64 a.toNat), .s (.int .u64 b.toNat)] h (fun r h' => r = .s (.int .u64 (truthV (decide (a < b)) : B64).toNat) ∧ h' = h) := by
  refine fnX_pure TB Tryz.func150 rfl (by decide) rfl _ rfl (fun O on => ?_) h
  repeat (refine need_intro (by first | exact fun h => h | exact nt | exact an2 | exact an3 | rfl | (simp; done) | fail) ?_)
  refine Does.args (b := [.s (.bool (decide (a < b)))]) ⟨lt_nat a b, trivial⟩ ?_
  refine (truthA _ _).mono ?_
  rintro _ _ ⟨rfl, rfl⟩
  repeat (refine need_intro (by first | exact fun h => h | exact nt | exact an2 | exact an3 | rfl | (simp; done) | fail) ?_)
  exact eqvE_refl _
theorem opXor (a b : B64) (h : List Blk) : Does TB 151 [.s (.int .u64 a.toNat), .s (.int .u64 b.toNat)] h (fun r h' => r = .s (.int .u64 (a ^^^ b : B64).toNat) ∧ h' = h) := by
  refine fnX_pure TB Tryz.func151 rfl (by decide) rfl _ rfl (fun O on => ?_) h
  repeat (refine need_intro (by first | exact ge63 _ | exact fun h => h | exact fun _ => rfl | rfl | fail) ?_)
  exact ⟨rfl, amo2 a b⟩
theorem opOr (a b : B64) (h : List Blk) : Does TB 152 [.s (.int .u64 a.toNat), .s (.int .u64 b.toNat)] h (fun r h' => r = .s (.int .u64 (a ||| b : B64).toNat) ∧ h' = h) := by
  refine fnX_pure TB Tryz.func152 rfl (by decide) rfl _ rfl (fun O on => ?_) h
  repeat (refine need_intro (by first | exact ge63 _ | exact fun h => h | exact fun _ => rfl | rfl | fail) ?_)
  exact ⟨rfl, amo4 a b⟩
theorem opAnd (a b : B64) (h : List Blk) : Does TB 153 [.s (.int .u64 a.toNat), .s (.int .u64 b.toNat)] h (fun r h' => r = .s (.int .u64 (a &&& b : B64).toNat) ∧ h' = h) := by
  refine fnX_pure TB Tryz.func153 rfl (by decide) rfl _ rfl (fun O on => ?_) h
  repeat (refine need_intro (by first | exact ge63 _ | exact fun h => h | exact fun _ => rfl | rfl | fail) ?_)
  exact ⟨rfl, amo3 a b⟩
theorem opAddw (a b : B32) (h : List Blk) : Does TB 154 [.s (.int .u32 a.toNat), .s (.int .u32 b.toNat)] h (fun r h' => r = .s (.int .u32 (a + b : B32).toNat) ∧ h' = h) := by
  refine fnX_pure TB Tryz.func154 rfl (by decide) rfl _ rfl (fun O on => ?_) h
  repeat (refine need_intro (by first | exact ge31 _ | exact fun h => h | exact fun _ => rfl | rfl | fail) ?_)
  exact ⟨rfl, add32 a b⟩
theorem opSubw (a b : B32) (h : List Blk) : Does TB 155 [.s (.int .u32 a.toNat), .s (.int .u32 b.toNat)] h (fun r h' => r = .s (.int .u32 (a - b : B32).toNat) ∧ h' = h) := by
  refine fnX_pure TB Tryz.func155 rfl (by decide) rfl _ rfl (fun O on => ?_) h
  repeat (refine need_intro (by first | exact ge31 _ | exact fun h => h | exact fun _ => rfl | rfl | fail) ?_)
  exact ⟨rfl, sub32 a b⟩
theorem opSllw (a b : B32) (h : List Blk) : Does TB 156 [.s (.int .u32 a.toNat), .s (.int .u32 b.toNat)] h (fun r h' => r = .s (.int .u32 (a <<< (b &&& 31#32).toNat : B32).toNat) ∧ h' = h) := by
  refine fnX_pure TB Tryz.func156 rfl (by decide) rfl _ rfl (fun O on => ?_) h
  repeat (refine need_intro (by first | exact ge31 _ | exact fun h => h | exact fun _ => rfl | rfl | fail) ?_)
  exact ⟨rfl, shlH a b⟩
theorem opSrlw (a b : B32) (h : List Blk) : Does TB 157 [.s (.int .u32 a.toNat), .s (.int .u32 b.toNat)] h (fun r h' => r = .s (.int .u32 (a >>> (b &&& 31#32).toNat : B32).toNat) ∧ h' = h) := by
  refine fnX_pure TB Tryz.func157 rfl (by decide) rfl _ rfl (fun O on => ?_) h
  repeat (refine need_intro (by first | exact ge31 _ | exact fun h => h | exact fun _ => rfl | rfl | fail) ?_)
  exact ⟨rfl, shrH a b⟩
theorem opSraw (a b : B32) (h : List Blk) : Does TB 158 [.s (.int .u32 a.toNat), .s (.int .u32 b.toNat)] h (fun r h' => r = .s (.int .u32 (a.sshiftRight (b &&& 31#32).toNat : B32).toNat) ∧ h' = h) := by
  refine fnX_pure TB Tryz.func158 rfl (by decide) rfl _ rfl (fun O on => ?_) h
  repeat (refine need_intro (by first | exact ge31 _ | exact fun h => h | exact fun _ => rfl | rfl | fail) ?_)
  exact ⟨rfl, sarH a b⟩
theorem opMul (a b : B64) (h : List Blk) : Does TB 159 [.s (.int .u64 a.toNat), .s (.int .u64 b.toNat)] h (fun r h' => r = .s (.int .u64 (a * b : B64).toNat) ∧ h' = h) := by
  refine fnX_pure TB Tryz.func159 rfl (by decide) rfl _ rfl (fun O on => ?_) h
  repeat (refine need_intro (by first | exact ge63 _ | exact fun h => h | exact fun _ => rfl | rfl | fail) ?_)
  exact ⟨rfl, mul64 a b⟩
theorem opMulh (a b : B64) (h : List Blk) : Does TB 160 [.s (.int .u64 a.toNat), .s (.int .u64 b.toNat)] h (fun r h' => r = .s (.int .u64 (mulHS a b : B64).toNat) ∧ h' = h) := by
  refine fnX_pure TB Tryz.func160 rfl (by decide) rfl _ rfl (fun O on => ?_) h
  repeat (refine need_intro (by first | exact fun h => h | exact nt | exact an2 | exact an3 | rfl | (simp; done) | fail) ?_)
  refine (wideSA a b _).mono ?_
  rintro _ _ ⟨rfl, rfl⟩
  repeat (refine need_intro (by first | exact fun h => h | exact nt | exact an2 | exact an3 | rfl | (simp; done) | fail) ?_)
  refine (upperA _ _ _).mono ?_
  rintro _ _ ⟨rfl, rfl⟩
  repeat (refine need_intro (by first | exact fun h => h | exact nt | exact an2 | exact an3 | rfl | (simp; done) | fail) ?_)
  exact eqvE_refl _
theorem opMulhsu (a b : B64) (h : List Blk) : Does TB 163 [.s (.int .u64 a.toNat), .s (.int .u64 b.toNat)] h (fun r h' => r = .s (.int .u64 (mulHSU a b : B64).toNat) ∧ h' = h) := by
  refine fnX_pure TB Tryz.func163 rfl (by decide) rfl _ rfl (fun O on => ?_) h
  repeat (refine need_intro (by first | exact fun h => h | exact nt | exact an2 | exact an3 | rfl | (simp; done) | fail) ?_)
  refine (wideMA a b _).mono ?_
  rintro _ _ ⟨rfl, rfl⟩
  repeat (refine need_intro (by first | exact fun h => h | exact nt | exact an2 | exact an3 | rfl | (simp; done) | fail) ?_)
  refine (upperA _ _ _).mono ?_
  rintro _ _ ⟨rfl, rfl⟩
  repeat (refine need_intro (by first | exact fun h => h | exact nt | exact an2 | exact an3 | rfl | (simp; done) | fail) ?_)
  exact eqvE_refl _
theorem opMulhu (a b : B64) (h : List Blk) : Does TB 165 [.s (.int .u64 a.toNat), .s (.int .u64 b.toNat)] h (fun r h' => r = .s (.int .u64 (mulHU a b : B64).toNat) ∧ h' = h) := by
  refine fnX_pure TB Tryz.func165 rfl (by decide) rfl _ rfl (fun O on => ?_) h
  repeat (refine need_intro (by first | exact fun h => h | exact nt | exact an2 | exact an3 | rfl | (simp; done) | fail) ?_)
  refine (wideA a b _).mono ?_
  rintro _ _ ⟨rfl, rfl⟩
  repeat (refine need_intro (by first | exact fun h => h | exact nt | exact an2 | exact an3 | rfl | (simp; done) | fail) ?_)
  refine (upperA _ _ _).mono ?_
  rintro _ _ ⟨rfl, rfl⟩
  repeat (refine need_intro (by first | exact fun h => h | exact nt | exact an2 | exact an3 | rfl | (simp; done) | fail) ?_)
  exact eqvE_refl _
theorem opMulw (a b : B32) (h : List Blk) : Does TB 171 [.s (.int .u32 a.toNat), .s (.int .u32 b.toNat)] h (fun r h' => r = .s (.int .u32 (a * b : B32).toNat) ∧ h' = h) := by
  refine fnX_pure TB Tryz.func171 rfl (by decide) rfl _ rfl (fun O on => ?_) h
  repeat (refine need_intro (by first | exact ge31 _ | exact fun h => h | exact fun _ => rfl | rfl | fail) ?_)
  exact ⟨rfl, mul32 a b⟩
theorem opDivw (a b : B32) (h : List Blk) : Does TB 172 [.s (.int .u32 a.toNat), .s (.int .u32 b.toNat)] h (fun r h' => r = .s (.int .u32 ((divS (a.signExtend 64) (b.signExtend 64)).setWidth 32 : B32).toNat) ∧ h' = h) := by
  refine fnX_pure TB Tryz.func172 rfl (by decide) rfl _ rfl (fun O on => ?_) h
  repeat (refine need_intro (by first | exact fun h => h | exact nt | exact an2 | exact an3 | rfl | (simp; done) | fail) ?_)
  refine (signedA a _).mono ?_
  rintro _ _ ⟨rfl, rfl⟩
  repeat (refine need_intro (by first | exact fun h => h | exact nt | exact an2 | exact an3 | rfl | (simp; done) | fail) ?_)
  refine (signedA b _).mono ?_
  rintro _ _ ⟨rfl, rfl⟩
  repeat (refine need_intro (by first | exact fun h => h | exact nt | exact an2 | exact an3 | rfl | (simp; done) | fail) ?_)
  refine (divideA _ _ _).mono ?_
  rintro _ _ ⟨rfl, rfl⟩
  repeat (refine need_intro (by first | exact fun h => h | exact nt | exact an2 | exact an3 | rfl | (simp; done) | fail) ?_)
  exact ⟨rfl, u32_of _⟩
theorem opRemw (a b : B32) (h : List Blk) : Does TB 173 [.s (.int .u32 a.toNat), .s (.int .u32 b.toNat)] h (fun r h' => r = .s (.int .u32 ((remS (a.signExtend 64) (b.signExtend 64)).setWidth 32 : B32).toNat) ∧ h' = h) := by
  refine fnX_pure TB Tryz.func173 rfl (by decide) rfl _ rfl (fun O on => ?_) h
  repeat (refine need_intro (by first | exact fun h => h | exact nt | exact an2 | exact an3 | rfl | (simp; done) | fail) ?_)
  refine (signedA a _).mono ?_
  rintro _ _ ⟨rfl, rfl⟩
  repeat (refine need_intro (by first | exact fun h => h | exact nt | exact an2 | exact an3 | rfl | (simp; done) | fail) ?_)
  refine (signedA b _).mono ?_
  rintro _ _ ⟨rfl, rfl⟩
  repeat (refine need_intro (by first | exact fun h => h | exact nt | exact an2 | exact an3 | rfl | (simp; done) | fail) ?_)
  refine (remainA _ _ _).mono ?_
  rintro _ _ ⟨rfl, rfl⟩
  repeat (refine need_intro (by first | exact fun h => h | exact nt | exact an2 | exact an3 | rfl | (simp; done) | fail) ?_)
  exact ⟨rfl, u32_of _⟩
theorem opDivuw (a b : B32) (h : List Blk) : Does TB 174 [.s (.int .u32 a.toNat), .s (.int .u32 b.toNat)] h (fun r h' => r = .s (.int .u32 ((divU (a.setWidth 64) (b.setWidth 64)).setWidth 32 : B32).toNat) ∧ h' = h) := by
  refine fnX_pure TB Tryz.func174 rfl (by decide) rfl _ rfl (fun O on => ?_) h
  repeat (refine need_intro (by first | exact fun h => h | exact nt | exact an2 | exact an3 | rfl | (simp; done) | fail) ?_)
  refine Does.args (b := [.s (.int .u64 ((a.setWidth 64).toNat : Int)), .s (.int .u64 ((b.setWidth 64).toNat : Int))]) ⟨⟨rfl, u64_of32 a⟩, ⟨rfl, u64_of32 b⟩, trivial⟩ ?_
  refine (divideUA _ _ _).mono ?_
  rintro _ _ ⟨rfl, rfl⟩
  repeat (refine need_intro (by first | exact fun h => h | exact nt | exact an2 | exact an3 | rfl | (simp; done) | fail) ?_)
  exact ⟨rfl, u32_of _⟩
theorem opRemuw (a b : B32) (h : List Blk) : Does TB 175 [.s (.int .u32 a.toNat), .s (.int .u32 b.toNat)] h (fun r h' => r = .s (.int .u32 ((remU (a.setWidth 64) (b.setWidth 64)).setWidth 32 : B32).toNat) ∧ h' = h) := by
  refine fnX_pure TB Tryz.func175 rfl (by decide) rfl _ rfl (fun O on => ?_) h
  repeat (refine need_intro (by first | exact fun h => h | exact nt | exact an2 | exact an3 | rfl | (simp; done) | fail) ?_)
  refine Does.args (b := [.s (.int .u64 ((a.setWidth 64).toNat : Int)), .s (.int .u64 ((b.setWidth 64).toNat : Int))]) ⟨⟨rfl, u64_of32 a⟩, ⟨rfl, u64_of32 b⟩, trivial⟩ ?_
  refine (remainUA _ _ _).mono ?_
  rintro _ _ ⟨rfl, rfl⟩
  repeat (refine need_intro (by first | exact fun h => h | exact nt | exact an2 | exact an3 | rfl | (simp; done) | fail) ?_)
  exact ⟨rfl, u32_of _⟩
end Go.Proofs.YtdlpmbghocabbaaGreatDoor

/- One instruction is fetched out of a small bus. Contracts of functions. -/
namespace Go.Anv
open Go
/-- How the hart of the example stands. -/
def cpu0 : CpuV := { pc := 0x80000000#64, x := fun _ => 0#64, mode := 3, waiting := false, mstatus := 0x200000000#64, mtvec := 0#64, mie := 0#64, mcounteren := 0#64, mcountinhibit := 0#64, menvcfg := 0#64, mscratch := 0#64, mepc := 0#64, mcause := 0#64, mtval := 0#64, mcycle := 0#64, minstret := 0#64, cfg := fun _ => 0#8, addr := fun _ => 0#64, rvalid := false, raddr := 0#64, rsize := 0 }
theorem cpu0_proper : cpu0.proper = cpu0 := by
  have h1 : (fun j => if j = 0 then 0#64 else cpu0.x j) = cpu0.x := by funext j; show (if j = 0 then 0#64 else 0#64) = 0#64; split <;> rfl
  have h2 : (fun j => cfgOf (cpu0.cfg j)) = cpu0.cfg := by funext j; show cfgOf 0#8 = 0#8; decide
  have h3 : (fun j => cpu0.addr j &&& addrBits) = cpu0.addr := by funext j; show 0#64 &&& addrBits = 0#64; decide
  unfold CpuV.proper
  rw [h1, h2, h3]
  rfl
end Go.Anv
namespace Go.Proofs.YtdlpmbghocabbaaGreatDoor
open Go Go.Anv
theorem properC0 (h : List Blk) : Does TB 11 [.agg cpu0.segs] h (fun v h' => v = .agg cpu0.segs ∧ h' = h) := by
  have := proper_spec cpu0 h
  rwa [cpu0_proper] at this
set_option maxRecDepth 100000 in
theorem parcel0 (x : Small) (a : Int) (v : Int) (ha : a = 2147483648 ∧ v = 147 ∨ a = 2147483650 ∧ v = 16) : Does TB 126 [.agg cpu0.segs, .s (.ptr 0 0), .s (.int .u64 a)] x.h (fun r h' => r = .tuple [.s (.int .u32 v), .s (.bool true)] ∧ h' = x.h) := by
  refine fnX_does TB Tryz.func126 rfl (by decide) (fun O on hO => ?_)
  repeat (refine need_intro (by first | exact fun h => h | exact nt | exact an2 | exact an3 | rfl | (simp; done) | fail) ?_)
  refine (check0 a 2 4 (by decide) (by decide) (by decide) (by decide) _).mono ?_
  rintro _ _ ⟨rfl, rfl⟩
  repeat (refine need_intro (by first | exact fun h => h | exact nt | exact an2 | exact an3 | rfl | (simp; done) | fail) ?_)
  refine Does.ungd (b := [.s (.ptr 0 0), .s (.int .u64 a), .s (.int .i64 2)]) ⟨⟨rfl, rfl⟩, ⟨rfl, rfl⟩, rfl, trivial⟩ ?_
  refine Does.atc (isRam0 x a (by omega)) [0, 1, 2, 3] rfl ⟨rfl, rfl, rfl, rfl, trivial⟩ (by decide) ?_
  repeat (refine need_intro (by first | exact fun h => h | exact nt | exact an2 | exact an3 | rfl | (simp; done) | fail) ?_)
  refine Does.atc (busLoad0 x a v ha) [0, 1, 2, 3] rfl ⟨rfl, rfl, rfl, rfl, trivial⟩ (by decide) ?_
  repeat (refine need_intro (by first | exact fun h => h | exact nt | exact an2 | exact an3 | rfl | (simp; done) | fail) ?_)
  rcases ha with ⟨rfl, rfl⟩ | ⟨rfl, rfl⟩
  all_goals exact Ends.ro (H := x.h) rfl (eqvE_refl _) rfl
set_option maxRecDepth 100000 in
theorem fetch0 (x : Small) : Does TB 106 [.agg cpu0.segs, .s (.ptr 0 0)] x.h (fun r h' => r = .tuple [.s (.int .u32 1048723), .s (.int .i64 4), .agg [.one (.bool false), .one (.int .u64 0), .one (.int .u64 0)]] ∧ h' = x.h) := by
  refine fnX_does TB Tryz.func106 rfl (by decide) (fun O on hO => ?_)
  repeat (refine need_intro (by first | exact fun h => h | exact nt | exact an2 | exact an3 | rfl | (simp; done) | fail) ?_)
  refine (properC0 _).mono ?_
  rintro _ _ ⟨rfl, rfl⟩
  repeat (refine need_intro (by first | exact fun h => h | exact nt | exact an2 | exact an3 | rfl | (simp; done) | fail) ?_)
  refine Does.atc (parcel0 x 2147483648 147 (.inl ⟨rfl, rfl⟩)) [0, 1, 2, 3] rfl ⟨rfl, rfl, rfl, rfl, trivial⟩ (by decide) ?_
  repeat (refine need_intro (by first | exact fun h => h | exact nt | exact an2 | exact an3 | rfl | (simp; done) | fail) ?_)
  refine Does.atc (parcel0 x 2147483650 16 (.inr ⟨rfl, rfl⟩)) [0, 1, 2, 3] rfl ⟨rfl, rfl, rfl, rfl, trivial⟩ (by decide) ?_
  repeat (refine need_intro (by first | exact fun h => h | exact nt | exact an2 | exact an3 | rfl | (simp; done) | fail) ?_)
  exact Ends.ro (H := x.h) rfl (eqvE_refl _) rfl
end Go.Proofs.YtdlpmbghocabbaaGreatDoor

/- The tables of operations: what they compute; what they do. Contracts of functions; printed by mk_f8.py. -/
namespace Go.Proofs.YtdlpmbghocabbaaGreatDoor
open Go Go.Anv
/-- Of each operation: on whole words, on halves. -/
def rowsS : List Seg := [.one .nilfunc, .one .nilfunc, .one .nilfunc, .one .nilfunc, .one .nilfunc, .one .nilfunc, .one .nilfunc, .one .nilfunc, .one .nilfunc, .one .nilfunc, .one .nilfunc, .one .nilfunc, .one .nilfunc, .one .nilfunc, .one .nilfunc, .one .nilfunc, .one .nilfunc, .one .nilfunc, .one .nilfunc, .one .nilfunc, .one .nilfunc, .one .nilfunc, .one .nilfunc, .one .nilfunc, .one .nilfunc, .one .nilfunc, .one .nilfunc, .one .nilfunc, .one .nilfunc, .one .nilfunc, .one .nilfunc, .one .nilfunc, .one .nilfunc, .one .nilfunc, .one .nilfunc, .one .nilfunc, .one .nilfunc, .one .nilfunc, .one .nilfunc, .one .nilfunc, .one .nilfunc, .one .nilfunc, .one .nilfunc, .one .nilfunc, .one .nilfunc, .one .nilfunc, .one .nilfunc, .one .nilfunc, .one .nilfunc, .one .nilfunc, .one .nilfunc, .one .nilfunc, .one .nilfunc, .one .nilfunc, .one .nilfunc, .one .nilfunc, .one .nilfunc, .one .nilfunc, .one .nilfunc, .one .nilfunc, .one .nilfunc, .one .nilfunc, .one .nilfunc, .one .nilfunc, .one .nilfunc, .one .nilfunc, .one .nilfunc, .one .nilfunc, .one .nilfunc, .one .nilfunc, .one (.func (.func 143) [] []), .one .nilfunc, .one (.func (.func 144) [] []), .one .nilfunc, .one (.func (.func 145) [] []), .one .nilfunc, .one (.func (.func 148) [] []), .one .nilfunc, .one (.func (.func 150) [] []), .one .nilfunc, .one (.func (.func 151) [] []), .one .nilfunc, .one (.func (.func 146) [] []), .one .nilfunc, .one (.func (.func 147) [] []), .one .nilfunc, .one (.func (.func 152) [] []), .one .nilfunc, .one (.func (.func 153) [] []), .one .nilfunc, .one .nilfunc, .one (.func (.func 154) [] []), .one .nilfunc, .one (.func (.func 155) [] []), .one .nilfunc, .one (.func (.func 156) [] []), .one .nilfunc, .one (.func (.func 157) [] []), .one .nilfunc, .one (.func (.func 158) [] []), .one .nilfunc, .one .nilfunc, .one .nilfunc, .one .nilfunc, .one .nilfunc, .one .nilfunc, .one .nilfunc, .one .nilfunc, .one .nilfunc, .one .nilfunc, .one .nilfunc, .one .nilfunc, .one .nilfunc, .one .nilfunc, .one .nilfunc, .one .nilfunc, .one .nilfunc, .one .nilfunc, .one .nilfunc, .one .nilfunc, .one .nilfunc, .one .nilfunc, .one .nilfunc, .one .nilfunc, .one (.func (.func 159) [] []), .one .nilfunc, .one (.func (.func 160) [] []), .one .nilfunc, .one (.func (.func 163) [] []), .one .nilfunc, .one (.func (.func 165) [] []), .one .nilfunc, .one (.func (.func 167) [] []), .one .nilfunc, .one (.func (.func 168) [] []), .one .nilfunc, .one (.func (.func 169) [] []), .one .nilfunc, .one (.func (.func 170) [] []), .one .nilfunc, .one .nilfunc, .one (.func (.func 171) [] []), .one .nilfunc, .one (.func (.func 172) [] []), .one .nilfunc, .one (.func (.func 174) [] []), .one .nilfunc, .one (.func (.func 173) [] []), .one .nilfunc, .one (.func (.func 175) [] []), .one .nilfunc, .one .nilfunc, .one .nilfunc, .one .nilfunc, .one .nilfunc, .one .nilfunc, .one .nilfunc, .one .nilfunc, .one .nilfunc, .one .nilfunc, .one .nilfunc, .one .nilfunc, .one .nilfunc, .one .nilfunc, .one .nilfunc, .one .nilfunc, .one .nilfunc, .one .nilfunc, .one .nilfunc, .one .nilfunc, .one .nilfunc, .one .nilfunc, .one .nilfunc, .one .nilfunc, .one .nilfunc, .one .nilfunc, .one .nilfunc, .one .nilfunc, .one .nilfunc, .one .nilfunc, .one .nilfunc, .one .nilfunc, .one .nilfunc, .one .nilfunc, .one .nilfunc, .one .nilfunc, .one .nilfunc, .one .nilfunc, .one .nilfunc, .one .nilfunc, .one .nilfunc, .one .nilfunc, .one .nilfunc, .one .nilfunc]
/-- Of each operation: what it does. -/
def bodiesS : List Seg := [.one .nilfunc, .one (.func (.func 51) [] []), .one (.func (.func 52) [] []), .one (.func (.func 53) [] []), .one (.func (.func 54) [] []), .one (.func (.func 55) [] []), .one (.func (.func 55) [] []), .one (.func (.func 55) [] []), .one (.func (.func 55) [] []), .one (.func (.func 55) [] []), .one (.func (.func 55) [] []), .one (.func (.func 56) [] []), .one (.func (.func 56) [] []), .one (.func (.func 56) [] []), .one (.func (.func 56) [] []), .one (.func (.func 56) [] []), .one (.func (.func 56) [] []), .one (.func (.func 56) [] []), .one (.func (.func 57) [] []), .one (.func (.func 57) [] []), .one (.func (.func 57) [] []), .one (.func (.func 57) [] []), .one (.func (.func 58) [] []), .one (.func (.func 58) [] []), .one (.func (.func 58) [] []), .one (.func (.func 58) [] []), .one (.func (.func 58) [] []), .one (.func (.func 58) [] []), .one (.func (.func 58) [] []), .one (.func (.func 58) [] []), .one (.func (.func 58) [] []), .one (.func (.func 58) [] []), .one (.func (.func 58) [] []), .one (.func (.func 58) [] []), .one (.func (.func 58) [] []), .one (.func (.func 59) [] []), .one (.func (.func 59) [] []), .one (.func (.func 59) [] []), .one (.func (.func 59) [] []), .one (.func (.func 59) [] []), .one (.func (.func 59) [] []), .one (.func (.func 59) [] []), .one (.func (.func 59) [] []), .one (.func (.func 59) [] []), .one (.func (.func 59) [] []), .one (.func (.func 59) [] []), .one (.func (.func 59) [] []), .one (.func (.func 59) [] []), .one (.func (.func 59) [] []), .one (.func (.func 59) [] []), .one (.func (.func 60) [] []), .one (.func (.func 60) [] []), .one (.func (.func 61) [] []), .one (.func (.func 62) [] []), .one (.func (.func 63) [] []), .one (.func (.func 64) [] []), .one (.func (.func 65) [] []), .one (.func (.func 65) [] []), .one (.func (.func 65) [] []), .one (.func (.func 65) [] []), .one (.func (.func 65) [] []), .one (.func (.func 65) [] []), .one (.func (.func 59) [] []), .one (.func (.func 59) [] []), .one (.func (.func 59) [] []), .one (.func (.func 59) [] []), .one (.func (.func 59) [] []), .one (.func (.func 59) [] []), .one (.func (.func 59) [] []), .one (.func (.func 59) [] []), .one (.func (.func 59) [] []), .one (.func (.func 59) [] []), .one (.func (.func 59) [] []), .one (.func (.func 59) [] []), .one (.func (.func 59) [] []), .one (.func (.func 66) [] []), .one (.func (.func 67) [] []), .one (.func (.func 68) [] []), .one (.func (.func 68) [] []), .one (.func (.func 68) [] []), .one (.func (.func 68) [] []), .one (.func (.func 68) [] []), .one (.func (.func 68) [] []), .one (.func (.func 68) [] []), .one (.func (.func 68) [] []), .one (.func (.func 68) [] []), .one (.func (.func 66) [] []), .one (.func (.func 67) [] []), .one (.func (.func 68) [] []), .one (.func (.func 68) [] []), .one (.func (.func 68) [] []), .one (.func (.func 68) [] []), .one (.func (.func 68) [] []), .one (.func (.func 68) [] []), .one (.func (.func 68) [] []), .one (.func (.func 68) [] []), .one (.func (.func 68) [] [])]
set_option maxRecDepth 100000 in
set_option maxHeartbeats 4000000 in
theorem rows_spec (h : List Blk) : Does TB 117 [] h (fun v h' => v = .agg rowsS ∧ h' = h) := by
  refine fnX_pur TB Tryz.func117 rfl (by decide) rfl (.agg rowsS) rfl (fun O on hO => ?_) h
  repeat (refine need_intro (by first | exact fun h => h | exact nt | exact an2 | exact an3 | rfl | (simp; done) | fail) ?_)
  exact eqvE_refl _
set_option maxRecDepth 100000 in
set_option maxHeartbeats 4000000 in
theorem bodies_spec (h : List Blk) : Does TB 33 [] h (fun v h' => v = .agg bodiesS ∧ h' = h) := by
  refine fnX_pur TB Tryz.func33 rfl (by decide) rfl (.agg bodiesS) rfl (fun O on hO => ?_) h
  repeat (refine need_intro (by first | exact fun h => h | exact nt | exact an2 | exact an3 | rfl | (simp; done) | fail) ?_)
  exact eqvE_refl _
end Go.Proofs.YtdlpmbghocabbaaGreatDoor

/- What an operation makes of two registers. Contract of a function. -/
namespace Go.Anv
open Go
/-- The lower halves' operations. -/
def halfV (op : Nat) (a b : B32) : B32 :=
  match op with
  | 45 => a + b
  | 46 => a - b
  | 47 => a <<< (b &&& 31#32).toNat
  | 48 => a >>> (b &&& 31#32).toNat
  | 49 => a.sshiftRight (b &&& 31#32).toNat
  | 70 => a * b
  | 71 => (divS (a.signExtend 64) (b.signExtend 64)).setWidth 32
  | 72 => (divU (a.setWidth 64) (b.setWidth 64)).setWidth 32
  | 73 => (remS (a.signExtend 64) (b.signExtend 64)).setWidth 32
  | _ => (remU (a.setWidth 64) (b.setWidth 64)).setWidth 32
def compV (op : Nat) (a b : B64) : B64 :=
  match op with
  | 35 => a + b
  | 36 => a - b
  | 37 => a <<< (b &&& 63#64).toNat
  | 38 => truthV (decide (a.toInt < b.toInt))
  | 39 => truthV (decide (a < b))
  | 40 => a ^^^ b
  | 41 => a >>> (b &&& 63#64).toNat
  | 42 => a.sshiftRight (b &&& 63#64).toNat
  | 43 => a ||| b
  | 44 => a &&& b
  | 62 => a * b
  | 63 => mulHS a b
  | 64 => mulHSU a b
  | 65 => mulHU a b
  | 66 => divS a b
  | 67 => divU a b
  | 68 => remS a b
  | 69 => remU a b
  | n => (halfV n (a.setWidth 32) (b.setWidth 32)).signExtend 64
def plainN (op : Nat) : Nat :=
  match op with
  | 22 => 35
  | 23 => 38
  | 24 => 39
  | 25 => 40
  | 26 => 43
  | 27 => 44
  | 28 => 37
  | 29 => 41
  | 30 => 42
  | 31 => 45
  | 32 => 47
  | 33 => 48
  | 34 => 49
  | n => n
end Go.Anv
namespace Go.Proofs.YtdlpmbghocabbaaGreatDoor
open Go Go.Anv
set_option maxRecDepth 100000 in
set_option maxHeartbeats 4000000 in
theorem compute_22 (a b : B64) (h : List Blk) : Does TB 92 [.s (.int .i64 22), .s (.int .u64 a.toNat), .s (.int .u64 b.toNat)] h (fun r h' => r = .tuple [.s (.int .u64 (compV 35 a b).toNat), .s (.bool true)] ∧ h' = h) := by
  refine fnX_pur TB Tryz.func92 rfl (by decide) rfl _ rfl (fun O on hO => ?_) h
  repeat (refine need_intro (by first | (decide) | exact fun h => h | exact nt | exact an2 | exact an3 | rfl | (simp; done) | fail) ?_)
  refine (rows_spec _).mono ?_
  rintro _ _ ⟨rfl, rfl⟩
  repeat (refine need_intro (by first | (decide) | exact fun h => h | exact nt | exact an2 | exact an3 | rfl | (simp; done) | fail) ?_)
  refine (opAdd a b _).mono ?_
  rintro _ _ ⟨rfl, rfl⟩
  repeat (refine need_intro (by first | (decide) | exact fun h => h | exact nt | exact an2 | exact an3 | rfl | (simp; done) | fail) ?_)
  exact eqvE_refl _
set_option maxRecDepth 100000 in
set_option maxHeartbeats 4000000 in
theorem compute_23 (a b : B64) (h : List Blk) : Does TB 92 [.s (.int .i64 23), .s (.int .u64 a.toNat), .s (.int .u64 b.toNat)] h (fun r h' => r = .tuple [.s (.int .u64 (compV 38 a b).toNat), .s (.bool true)] ∧ h' = h) := by
  refine fnX_pur TB Tryz.func92 rfl (by decide) rfl _ rfl (fun O on hO => ?_) h
  repeat (refine need_intro (by first | (decide) | exact fun h => h | exact nt | exact an2 | exact an3 | rfl | (simp; done) | fail) ?_)
  refine (rows_spec _).mono ?_
  rintro _ _ ⟨rfl, rfl⟩
  repeat (refine need_intro (by first | (decide) | exact fun h => h | exact nt | exact an2 | exact an3 | rfl | (simp; done) | fail) ?_)
  refine (opSlt a b _).mono ?_
  rintro _ _ ⟨rfl, rfl⟩
  repeat (refine need_intro (by first | (decide) | exact fun h => h | exact nt | exact an2 | exact an3 | rfl | (simp; done) | fail) ?_)
  exact eqvE_refl _
set_option maxRecDepth 100000 in
set_option maxHeartbeats 4000000 in
theorem compute_24 (a b : B64) (h : List Blk) : Does TB 92 [.s (.int .i64 24), .s (.int .u64 a.toNat), .s (.int .u64 b.toNat)] h (fun r h' => r = .tuple [.s (.int .u64 (compV 39 a b).toNat), .s (.bool true)] ∧ h' = h) := by
  refine fnX_pur TB Tryz.func92 rfl (by decide) rfl _ rfl (fun O on hO => ?_) h
  repeat (refine need_intro (by first | (decide) | exact fun h => h | exact nt | exact an2 | exact an3 | rfl | (simp; done) | fail) ?_)
  refine (rows_spec _).mono ?_
  rintro _ _ ⟨rfl, rfl⟩
  repeat (refine need_intro (by first | (decide) | exact fun h => h | exact nt | exact an2 | exact an3 | rfl | (simp; done) | fail) ?_)
  refine (opSltu a b _).mono ?_
  rintro _ _ ⟨rfl, rfl⟩
  repeat (refine need_intro (by first | (decide) | exact fun h => h | exact nt | exact an2 | exact an3 | rfl | (simp; done) | fail) ?_)
  exact eqvE_refl _
set_option maxRecDepth 100000 in
set_option maxHeartbeats 4000000 in
theorem compute_25 (a b : B64) (h : List Blk) : Does TB 92 [.s (.int .i64 25), .s (.int .u64 a.toNat), .s (.int .u64 b.toNat)] h (fun r h' => r = .tuple [.s (.int .u64 (compV 40 a b).toNat), .s (.bool true)] ∧ h' = h) := by
  refine fnX_pur TB Tryz.func92 rfl (by decide) rfl _ rfl (fun O on hO => ?_) h
  repeat (refine need_intro (by first | (decide) | exact fun h => h | exact nt | exact an2 | exact an3 | rfl | (simp; done) | fail) ?_)
  refine (rows_spec _).mono ?_
  rintro _ _ ⟨rfl, rfl⟩
  repeat (refine need_intro (by first | (decide) | exact fun h => h | exact nt | exact an2 | exact an3 | rfl | (simp; done) | fail) ?_)
  refine (opXor a b _).mono ?_
  rintro _ _ ⟨rfl, rfl⟩
  repeat (refine need_intro (by first | (decide) | exact fun h => h | exact nt | exact an2 | exact an3 | rfl | (simp; done) | fail) ?_)
  exact eqvE_refl _
set_option maxRecDepth 100000 in
set_option maxHeartbeats 4000000 in
theorem compute_26 (a b : B64) (h : List Blk) : Does TB 92 [.s (.int .i64 26), .s (.int .u64 a.toNat), .s (.int .u64 b.toNat)] h (fun r h' => r = .tuple [.s (.int .u64 (compV 43 a b).toNat), .s (.bool true)] ∧ h' = h) := by
  refine fnX_pur TB Tryz.func92 rfl (by decide) rfl _ rfl (fun O on hO => ?_) h
  repeat (refine need_intro (by first | (decide) | exact fun h => h | exact nt | exact an2 | exact an3 | rfl | (simp; done) | fail) ?_)
  refine (rows_spec _).mono ?_
  rintro _ _ ⟨rfl, rfl⟩
  repeat (refine need_intro (by first | (decide) | exact fun h => h | exact nt | exact an2 | exact an3 | rfl | (simp; done) | fail) ?_)
  refine (opOr a b _).mono ?_
  rintro _ _ ⟨rfl, rfl⟩
  repeat (refine need_intro (by first | (decide) | exact fun h => h | exact nt | exact an2 | exact an3 | rfl | (simp; done) | fail) ?_)
  exact eqvE_refl _
set_option maxRecDepth 100000 in
set_option maxHeartbeats 4000000 in
theorem compute_27 (a b : B64) (h : List Blk) : Does TB 92 [.s (.int .i64 27), .s (.int .u64 a.toNat), .s (.int .u64 b.toNat)] h (fun r h' => r = .tuple [.s (.int .u64 (compV 44 a b).toNat), .s (.bool true)] ∧ h' = h) := by
  refine fnX_pur TB Tryz.func92 rfl (by decide) rfl _ rfl (fun O on hO => ?_) h
  repeat (refine need_intro (by first | (decide) | exact fun h => h | exact nt | exact an2 | exact an3 | rfl | (simp; done) | fail) ?_)
  refine (rows_spec _).mono ?_
  rintro _ _ ⟨rfl, rfl⟩
  repeat (refine need_intro (by first | (decide) | exact fun h => h | exact nt | exact an2 | exact an3 | rfl | (simp; done) | fail) ?_)
  refine (opAnd a b _).mono ?_
  rintro _ _ ⟨rfl, rfl⟩
  repeat (refine need_intro (by first | (decide) | exact fun h => h | exact nt | exact an2 | exact an3 | rfl | (simp; done) | fail) ?_)
  exact eqvE_refl _
set_option maxRecDepth 100000 in
set_option maxHeartbeats 4000000 in
theorem compute_28 (a b : B64) (h : List Blk) : Does TB 92 [.s (.int .i64 28), .s (.int .u64 a.toNat), .s (.int .u64 b.toNat)] h (fun r h' => r = .tuple [.s (.int .u64 (compV 37 a b).toNat), .s (.bool true)] ∧ h' = h) := by
  refine fnX_pur TB Tryz.func92 rfl (by decide) rfl _ rfl (fun O on hO => ?_) h
  repeat (refine need_intro (by first | (decide) | exact fun h => h | exact nt | exact an2 | exact an3 | rfl | (simp; done) | fail) ?_)
  refine (rows_spec _).mono ?_
  rintro _ _ ⟨rfl, rfl⟩
  repeat (refine need_intro (by first | (decide) | exact fun h => h | exact nt | exact an2 | exact an3 | rfl | (simp; done) | fail) ?_)
  refine (opSll a b _).mono ?_
  rintro _ _ ⟨rfl, rfl⟩
  repeat (refine need_intro (by first | (decide) | exact fun h => h | exact nt | exact an2 | exact an3 | rfl | (simp; done) | fail) ?_)
  exact eqvE_refl _
set_option maxRecDepth 100000 in
set_option maxHeartbeats 4000000 in
theorem compute_29 (a b : B64) (h : List Blk) : Does TB 92 [.s (.int .i64 29), .s (.int .u64 a.toNat), .s (.int .u64 b.toNat)] h (fun r h' => r = .tuple [.s (.int .u64 (compV 41 a b).toNat), .s (.bool true)] ∧ h' = h) := by
  refine fnX_pur TB Tryz.func92 rfl (by decide) rfl _ rfl (fun O on hO => ?_) h
  repeat (refine need_intro (by first | (decide) | exact fun h => h | exact nt | exact an2 | exact an3 | rfl | (simp; done) | fail) ?_)
  refine (rows_spec _).mono ?_
  rintro _ _ ⟨rfl, rfl⟩
  repeat (refine need_intro (by first | (decide) | exact fun h => h | exact nt | exact an2 | exact an3 | rfl | (simp; done) | fail) ?_)
  refine (opSrl a b _).mono ?_
  rintro _ _ ⟨rfl, rfl⟩
  repeat (refine need_intro (by first | (decide) | exact fun h => h | exact nt | exact an2 | exact an3 | rfl | (simp; done) | fail) ?_)
  exact eqvE_refl _
set_option maxRecDepth 100000 in
set_option maxHeartbeats 4000000 in
theorem compute_30 (a b : B64) (h : List Blk) : Does TB 92 [.s (.int .i64 30), .s (.int .u64 a.toNat), .s (.int .u64 b.toNat)] h (fun r h' => r = .tuple [.s (.int .u64 (compV 42 a b).toNat), .s (.bool true)] ∧ h' = h) := by
  refine fnX_pur TB Tryz.func92 rfl (by decide) rfl _ rfl (fun O on hO => ?_) h
  repeat (refine need_intro (by first | (decide) | exact fun h => h | exact nt | exact an2 | exact an3 | rfl | (simp; done) | fail) ?_)
  refine (rows_spec _).mono ?_
  rintro _ _ ⟨rfl, rfl⟩
  repeat (refine need_intro (by first | (decide) | exact fun h => h | exact nt | exact an2 | exact an3 | rfl | (simp; done) | fail) ?_)
  refine (opSra a b _).mono ?_
  rintro _ _ ⟨rfl, rfl⟩
  repeat (refine need_intro (by first | (decide) | exact fun h => h | exact nt | exact an2 | exact an3 | rfl | (simp; done) | fail) ?_)
  exact eqvE_refl _
set_option maxRecDepth 100000 in
set_option maxHeartbeats 4000000 in
theorem compute_31 (a b : B64) (h : List Blk) : Does TB 92 [.s (.int .i64 31), .s (.int .u64 a.toNat), .s (.int .u64 b.toNat)] h (fun r h' => r = .tuple [.s (.int .u64 (compV 45 a b).toNat), .s (.bool true)] ∧ h' = h) := by
  refine fnX_pur TB Tryz.func92 rfl (by decide) rfl _ rfl (fun O on hO => ?_) h
  repeat (refine need_intro (by first | (decide) | exact fun h => h | exact nt | exact an2 | exact an3 | rfl | (simp; done) | fail) ?_)
  refine (rows_spec _).mono ?_
  rintro _ _ ⟨rfl, rfl⟩
  repeat (refine need_intro (by first | (decide) | exact fun h => h | exact nt | exact an2 | exact an3 | rfl | (simp; done) | fail) ?_)
  refine Does.args (b := [.s (.int .u32 ((a.setWidth 32).toNat : Int)), .s (.int .u32 ((b.setWidth 32).toNat : Int))]) ⟨⟨rfl, u32_of a⟩, ⟨rfl, u32_of b⟩, trivial⟩ ?_
  refine (opAddw _ _ _).mono ?_
  rintro _ _ ⟨rfl, rfl⟩
  repeat (refine need_intro (by first | (decide) | exact fun h => h | exact nt | exact an2 | exact an3 | rfl | (simp; done) | fail) ?_)
  refine (signedA _ _).mono ?_
  rintro _ _ ⟨rfl, rfl⟩
  repeat (refine need_intro (by first | (decide) | exact fun h => h | exact nt | exact an2 | exact an3 | rfl | (simp; done) | fail) ?_)
  exact eqvE_refl _
set_option maxRecDepth 100000 in
set_option maxHeartbeats 4000000 in
theorem compute_32 (a b : B64) (h : List Blk) : Does TB 92 [.s (.int .i64 32), .s (.int .u64 a.toNat), .s (.int .u64 b.toNat)] h (fun r h' => r = .tuple [.s (.int .u64 (compV 47 a b).toNat), .s (.bool true)] ∧ h' = h) := by
  refine fnX_pur TB Tryz.func92 rfl (by decide) rfl _ rfl (fun O on hO => ?_) h
  repeat (refine need_intro (by first | (decide) | exact fun h => h | exact nt | exact an2 | exact an3 | rfl | (simp; done) | fail) ?_)
  refine (rows_spec _).mono ?_
  rintro _ _ ⟨rfl, rfl⟩
  repeat (refine need_intro (by first | (decide) | exact fun h => h | exact nt | exact an2 | exact an3 | rfl | (simp; done) | fail) ?_)
  refine Does.args (b := [.s (.int .u32 ((a.setWidth 32).toNat : Int)), .s (.int .u32 ((b.setWidth 32).toNat : Int))]) ⟨⟨rfl, u32_of a⟩, ⟨rfl, u32_of b⟩, trivial⟩ ?_
  refine (opSllw _ _ _).mono ?_
  rintro _ _ ⟨rfl, rfl⟩
  repeat (refine need_intro (by first | (decide) | exact fun h => h | exact nt | exact an2 | exact an3 | rfl | (simp; done) | fail) ?_)
  refine (signedA _ _).mono ?_
  rintro _ _ ⟨rfl, rfl⟩
  repeat (refine need_intro (by first | (decide) | exact fun h => h | exact nt | exact an2 | exact an3 | rfl | (simp; done) | fail) ?_)
  exact eqvE_refl _
set_option maxRecDepth 100000 in
set_option maxHeartbeats 4000000 in
theorem compute_33 (a b : B64) (h : List Blk) : Does TB 92 [.s (.int .i64 33), .s (.int .u64 a.toNat), .s (.int .u64 b.toNat)] h (fun r h' => r = .tuple [.s (.int .u64 (compV 48 a b).toNat), .s (.bool true)] ∧ h' = h) := by
  refine fnX_pur TB Tryz.func92 rfl (by decide) rfl _ rfl (fun O on hO => ?_) h
  repeat (refine need_intro (by first | (decide) | exact fun h => h | exact nt | exact an2 | exact an3 | rfl | (simp; done) | fail) ?_)
  refine (rows_spec _).mono ?_
  rintro _ _ ⟨rfl, rfl⟩
  repeat (refine need_intro (by first | (decide) | exact fun h => h | exact nt | exact an2 | exact an3 | rfl | (simp; done) | fail) ?_)
  refine Does.args (b := [.s (.int .u32 ((a.setWidth 32).toNat : Int)), .s (.int .u32 ((b.setWidth 32).toNat : Int))]) ⟨⟨rfl, u32_of a⟩, ⟨rfl, u32_of b⟩, trivial⟩ ?_
  refine (opSrlw _ _ _).mono ?_
  rintro _ _ ⟨rfl, rfl⟩
  repeat (refine need_intro (by first | (decide) | exact fun h => h | exact nt | exact an2 | exact an3 | rfl | (simp; done) | fail) ?_)
  refine (signedA _ _).mono ?_
  rintro _ _ ⟨rfl, rfl⟩
  repeat (refine need_intro (by first | (decide) | exact fun h => h | exact nt | exact an2 | exact an3 | rfl | (simp; done) | fail) ?_)
  exact eqvE_refl _
set_option maxRecDepth 100000 in
set_option maxHeartbeats 4000000 in
theorem compute_34 (a b : B64) (h : List Blk) : Does TB 92 [.s (.int .i64 34), .s (.int .u64 a.toNat), .s (.int .u64 b.toNat)] h (fun r h' => r = .tuple [.s (.int .u64 (compV 49 a b).toNat), .s (.bool true)] ∧ h' = h) := by
  refine fnX_pur TB Tryz.func92 rfl (by decide) rfl _ rfl (fun O on hO => ?_) h
  repeat (refine need_intro (by first | (decide) | exact fun h => h | exact nt | exact an2 | exact an3 | rfl | (simp; done) | fail) ?_)
  refine (rows_spec _).mono ?_
  rintro _ _ ⟨rfl, rfl⟩
  repeat (refine need_intro (by first | (decide) | exact fun h => h | exact nt | exact an2 | exact an3 | rfl | (simp; done) | fail) ?_)
  refine Does.args (b := [.s (.int .u32 ((a.setWidth 32).toNat : Int)), .s (.int .u32 ((b.setWidth 32).toNat : Int))]) ⟨⟨rfl, u32_of a⟩, ⟨rfl, u32_of b⟩, trivial⟩ ?_
  refine (opSraw _ _ _).mono ?_
  rintro _ _ ⟨rfl, rfl⟩
  repeat (refine need_intro (by first | (decide) | exact fun h => h | exact nt | exact an2 | exact an3 | rfl | (simp; done) | fail) ?_)
  refine (signedA _ _).mono ?_
  rintro _ _ ⟨rfl, rfl⟩
  repeat (refine need_intro (by first | (decide) | exact fun h => h | exact nt | exact an2 | exact an3 | rfl | (simp; done) | fail) ?_)
  exact eqvE_refl _
set_option maxRecDepth 100000 in
set_option maxHeartbeats 4000000 in
theorem compute_35 (a b : B64) (h : List Blk) : Does TB 92 [.s (.int .i64 35), .s (.int .u64 a.toNat), .s (.int .u64 b.toNat)] h (fun r h' => r = .tuple [.s (.int .u64 (compV 35 a b).toNat), .s (.bool true)] ∧ h' = h) := by
  refine fnX_pur TB Tryz.func92 rfl (by decide) rfl _ rfl (fun O on hO => ?_) h
  repeat (refine need_intro (by first | (decide) | exact fun h => h | exact nt | exact an2 | exact an3 | rfl | (simp; done) | fail) ?_)
  refine (rows_spec _).mono ?_
  rintro _ _ ⟨rfl, rfl⟩
  repeat (refine need_intro (by first | (decide) | exact fun h => h | exact nt | exact an2 | exact an3 | rfl | (simp; done) | fail) ?_)
  refine (opAdd a b _).mono ?_
  rintro _ _ ⟨rfl, rfl⟩
  repeat (refine need_intro (by first | (decide) | exact fun h => h | exact nt | exact an2 | exact an3 | rfl | (simp; done) | fail) ?_)
  exact eqvE_refl _
set_option maxRecDepth 100000 in
set_option maxHeartbeats 4000000 in
theorem compute_36 (a b : B64) (h : List Blk) : Does TB 92 [.s (.int .i64 36), .s (.int .u64 a.toNat), .s (.int .u64 b.toNat)] h (fun r h' => r = .tuple [.s (.int .u64 (compV 36 a b).toNat), .s (.bool true)] ∧ h' = h) := by
  refine fnX_pur TB Tryz.func92 rfl (by decide) rfl _ rfl (fun O on hO => ?_) h
  repeat (refine need_intro (by first | (decide) | exact fun h => h | exact nt | exact an2 | exact an3 | rfl | (simp; done) | fail) ?_)
  refine (rows_spec _).mono ?_
  rintro _ _ ⟨rfl, rfl⟩
  repeat (refine need_intro (by first | (decide) | exact fun h => h | exact nt | exact an2 | exact an3 | rfl | (simp; done) | fail) ?_)
  refine (opSub a b _).mono ?_
  rintro _ _ ⟨rfl, rfl⟩
  repeat (refine need_intro (by first | (decide) | exact fun h => h | exact nt | exact an2 | exact an3 | rfl | (simp; done) | fail) ?_)
  exact eqvE_refl _
set_option maxRecDepth 100000 in
set_option maxHeartbeats 4000000 in
theorem compute_37 (a b : B64) (h : List Blk) : Does TB 92 [.s (.int .i64 37), .s (.int .u64 a.toNat), .s (.int .u64 b.toNat)] h (fun r h' => r = .tuple [.s (.int .u64 (compV 37 a b).toNat), .s (.bool true)] ∧ h' = h) := by
  refine fnX_pur TB Tryz.func92 rfl (by decide) rfl _ rfl (fun O on hO => ?_) h
  repeat (refine need_intro (by first | (decide) | exact fun h => h | exact nt | exact an2 | exact an3 | rfl | (simp; done) | fail) ?_)
  refine (rows_spec _).mono ?_
  rintro _ _ ⟨rfl, rfl⟩
  repeat (refine need_intro (by first | (decide) | exact fun h => h | exact nt | exact an2 | exact an3 | rfl | (simp; done) | fail) ?_)
  refine (opSll a b _).mono ?_
  rintro _ _ ⟨rfl, rfl⟩
  repeat (refine need_intro (by first | (decide) | exact fun h => h | exact nt | exact an2 | exact an3 | rfl | (simp; done) | fail) ?_)
  exact eqvE_refl _
set_option maxRecDepth 100000 in
set_option maxHeartbeats 4000000 in
theorem compute_38 (a b : B64) (h : List Blk) : Does TB 92 [.s (.int .i64 38), .s (.int .u64 a.toNat), .s (.int .u64 b.toNat)] h (fun r h' => r = .tuple [.s (.int .u64 (compV 38 a b).toNat), .s (.bool true)] ∧ h' = h) := by
  refine fnX_pur TB Tryz.func92 rfl (by decide) rfl _ rfl (fun O on hO => ?_) h
  repeat (refine need_intro (by first | (decide) | exact fun h => h | exact nt | exact an2 | exact an3 | rfl | (simp; done) | fail) ?_)
  refine (rows_spec _).mono ?_
  rintro _ _ ⟨rfl, rfl⟩
  repeat (refine need_intro (by first | (decide) | exact fun h => h | exact nt | exact an2 | exact an3 | rfl | (simp; done) | fail) ?_)
  refine (opSlt a b _).mono ?_
  rintro _ _ ⟨rfl, rfl⟩
  repeat (refine need_intro (by first | (decide) | exact fun h => h | exact nt | exact an2 | exact an3 | rfl | (simp; done) | fail) ?_)
  exact eqvE_refl _
set_option maxRecDepth 100000 in
set_option maxHeartbeats 4000000 in
theorem compute_39 (a b : B64) (h : List Blk) : Does TB 92 [.s (.int .i64 39), .s (.int .u64 a.toNat), .s (.int .u64 b.toNat)] h (fun r h' => r = .tuple [.s (.int .u64 (compV 39 a b).toNat), .s (.bool true)] ∧ h' = h) := by
  refine fnX_pur TB Tryz.func92 rfl (by decide) rfl _ rfl (fun O on hO => ?_) h
  repeat (refine need_intro (by first | (decide) | exact fun h => h | exact nt | exact an2 | exact an3 | rfl | (simp; done) | fail) ?_)
  refine (rows_spec _).mono ?_
  rintro _ _ ⟨rfl, rfl⟩
  repeat (refine need_intro (by first | (decide) | exact fun h => h | exact nt | exact an2 | exact an3 | rfl | (simp; done) | fail) ?_)
  refine (opSltu a b _).mono ?_
  rintro _ _ ⟨rfl, rfl⟩
  repeat (refine need_intro (by first | (decide) | exact fun h => h | exact nt | exact an2 | exact an3 | rfl | (simp; done) | fail) ?_)
  exact eqvE_refl _
set_option maxRecDepth 100000 in
set_option maxHeartbeats 4000000 in
theorem compute_40 (a b : B64) (h : List Blk) : Does TB 92 [.s (.int .i64 40), .s (.int .u64 a.toNat), .s (.int .u64 b.toNat)] h (fun r h' => r = .tuple [.s (.int .u64 (compV 40 a b).toNat), .s (.bool true)] ∧ h' = h) := by
  refine fnX_pur TB Tryz.func92 rfl (by decide) rfl _ rfl (fun O on hO => ?_) h
  repeat (refine need_intro (by first | (decide) | exact fun h => h | exact nt | exact an2 | exact an3 | rfl | (simp; done) | fail) ?_)
  refine (rows_spec _).mono ?_
  rintro _ _ ⟨rfl, rfl⟩
  repeat (refine need_intro (by first | (decide) | exact fun h => h | exact nt | exact an2 | exact an3 | rfl | (simp; done) | fail) ?_)
  refine (opXor a b _).mono ?_
  rintro _ _ ⟨rfl, rfl⟩
  repeat (refine need_intro (by first | (decide) | exact fun h => h | exact nt | exact an2 | exact an3 | rfl | (simp; done) | fail) ?_)
  exact eqvE_refl _
set_option maxRecDepth 100000 in
set_option maxHeartbeats 4000000 in
theorem compute_41 (a b : B64) (h : List Blk) : Does TB 92 [.s (.int .i64 41), .s (.int .u64 a.toNat), .s (.int .u64 b.toNat)] h (fun r h' => r = .tuple [.s (.int .u64 (compV 41 a b).toNat), .s (.bool true)] ∧ h' = h) := by
  refine fnX_pur TB Tryz.func92 rfl (by decide) rfl _ rfl (fun O on hO => ?_) h
  repeat (refine need_intro (by first | (decide) | exact fun h => h | exact nt | exact an2 | exact an3 | rfl | (simp; done) | fail) ?_)
  refine (rows_spec _).mono ?_
  rintro _ _ ⟨rfl, rfl⟩
  repeat (refine need_intro (by first | (decide) | exact fun h => h | exact nt | exact an2 | exact an3 | rfl | (simp; done) | fail) ?_)
  refine (opSrl a b _).mono ?_
  rintro _ _ ⟨rfl, rfl⟩
  repeat (refine need_intro (by first | (decide) | exact fun h => h | exact nt | exact an2 | exact an3 | rfl | (simp; done) | fail) ?_)
  exact eqvE_refl _
set_option maxRecDepth 100000 in
set_option maxHeartbeats 4000000 in
theorem compute_42 (a b : B64) (h : List Blk) : Does TB 92 [.s (.int .i64 42), .s (.int .u64 a.toNat), .s (.int .u64 b.toNat)] h (fun r h' => r = .tuple [.s (.int .u64 (compV 42 a b).toNat), .s (.bool true)] ∧ h' = h) := by
  refine fnX_pur TB Tryz.func92 rfl (by decide) rfl _ rfl (fun O on hO => ?_) h
  repeat (refine need_intro (by first | (decide) | exact fun h => h | exact nt | exact an2 | exact an3 | rfl | (simp; done) | fail) ?_)
  refine (rows_spec _).mono ?_
  rintro _ _ ⟨rfl, rfl⟩
  repeat (refine need_intro (by first | (decide) | exact fun h => h | exact nt | exact an2 | exact an3 | rfl | (simp; done) | fail) ?_)
  refine (opSra a b _).mono ?_
  rintro _ _ ⟨rfl, rfl⟩
  repeat (refine need_intro (by first | (decide) | exact fun h => h | exact nt | exact an2 | exact an3 | rfl | (simp; done) | fail) ?_)
  exact eqvE_refl _
set_option maxRecDepth 100000 in
set_option maxHeartbeats 4000000 in
theorem compute_43 (a b : B64) (h : List Blk) : Does TB 92 [.s (.int .i64 43), .s (.int .u64 a.toNat), .s (.int .u64 b.toNat)] h (fun r h' => r = .tuple [.s (.int .u64 (compV 43 a b).toNat), .s (.bool true)] ∧ h' = h) := by
  refine fnX_pur TB Tryz.func92 rfl (by decide) rfl _ rfl (fun O on hO => ?_) h
  repeat (refine need_intro (by first | (decide) | exact fun h => h | exact nt | exact an2 | exact an3 | rfl | (simp; done) | fail) ?_)
  refine (rows_spec _).mono ?_
  rintro _ _ ⟨rfl, rfl⟩
  repeat (refine need_intro (by first | (decide) | exact fun h => h | exact nt | exact an2 | exact an3 | rfl | (simp; done) | fail) ?_)
  refine (opOr a b _).mono ?_
  rintro _ _ ⟨rfl, rfl⟩
  repeat (refine need_intro (by first | (decide) | exact fun h => h | exact nt | exact an2 | exact an3 | rfl | (simp; done) | fail) ?_)
  exact eqvE_refl _
set_option maxRecDepth 100000 in
set_option maxHeartbeats 4000000 in
theorem compute_44 (a b : B64) (h : List Blk) : Does TB 92 [.s (.int .i64 44), .s (.int .u64 a.toNat), .s (.int .u64 b.toNat)] h (fun r h' => r = .tuple [.s (.int .u64 (compV 44 a b).toNat), .s (.bool true)] ∧ h' = h) := by
  refine fnX_pur TB Tryz.func92 rfl (by decide) rfl _ rfl (fun O on hO => ?_) h
  repeat (refine need_intro (by first | (decide) | exact fun h => h | exact nt | exact an2 | exact an3 | rfl | (simp; done) | fail) ?_)
  refine (rows_spec _).mono ?_
  rintro _ _ ⟨rfl, rfl⟩
  repeat (refine need_intro (by first | (decide) | exact fun h => h | exact nt | exact an2 | exact an3 | rfl | (simp; done) | fail) ?_)
  refine (opAnd a b _).mono ?_
  rintro _ _ ⟨rfl, rfl⟩
  repeat (refine need_intro (by first | (decide) | exact fun h => h | exact nt | exact an2 | exact an3 | rfl | (simp; done) | fail) ?_)
  exact eqvE_refl _
set_option maxRecDepth 100000 in
set_option maxHeartbeats 4000000 in
theorem compute_45 (a b : B64) (h : List Blk) : Does TB 92 [.s (.int .i64 45), .s (.int .u64 a.toNat), .s (.int .u64 b.toNat)] h (fun r h' => r = .tuple [.s (.int .u64 (compV 45 a b).toNat), .s (.bool true)] ∧ h' = h) := by
  refine fnX_pur TB Tryz.func92 rfl (by decide) rfl _ rfl (fun O on hO => ?_) h
  repeat (refine need_intro (by first | (decide) | exact fun h => h | exact nt | exact an2 | exact an3 | rfl | (simp; done) | fail) ?_)
  refine (rows_spec _).mono ?_
  rintro _ _ ⟨rfl, rfl⟩
  repeat (refine need_intro (by first | (decide) | exact fun h => h | exact nt | exact an2 | exact an3 | rfl | (simp; done) | fail) ?_)
  refine Does.args (b := [.s (.int .u32 ((a.setWidth 32).toNat : Int)), .s (.int .u32 ((b.setWidth 32).toNat : Int))]) ⟨⟨rfl, u32_of a⟩, ⟨rfl, u32_of b⟩, trivial⟩ ?_
  refine (opAddw _ _ _).mono ?_
  rintro _ _ ⟨rfl, rfl⟩
  repeat (refine need_intro (by first | (decide) | exact fun h => h | exact nt | exact an2 | exact an3 | rfl | (simp; done) | fail) ?_)
  refine (signedA _ _).mono ?_
  rintro _ _ ⟨rfl, rfl⟩
  repeat (refine need_intro (by first | (decide) | exact fun h => h | exact nt | exact an2 | exact an3 | rfl | (simp; done) | fail) ?_)
  exact eqvE_refl _
set_option maxRecDepth 100000 in
set_option maxHeartbeats 4000000 in
theorem compute_46 (a b : B64) (h : List Blk) : Does TB 92 [.s (.int .i64 46), .s (.int .u64 a.toNat), .s (.int .u64 b.toNat)] h (fun r h' => r = .tuple [.s (.int .u64 (compV 46 a b).toNat), .s (.bool true)] ∧ h' = h) := by
  refine fnX_pur TB Tryz.func92 rfl (by decide) rfl _ rfl (fun O on hO => ?_) h
  repeat (refine need_intro (by first | (decide) | exact fun h => h | exact nt | exact an2 | exact an3 | rfl | (simp; done) | fail) ?_)
  refine (rows_spec _).mono ?_
  rintro _ _ ⟨rfl, rfl⟩
  repeat (refine need_intro (by first | (decide) | exact fun h => h | exact nt | exact an2 | exact an3 | rfl | (simp; done) | fail) ?_)
  refine Does.args (b := [.s (.int .u32 ((a.setWidth 32).toNat : Int)), .s (.int .u32 ((b.setWidth 32).toNat : Int))]) ⟨⟨rfl, u32_of a⟩, ⟨rfl, u32_of b⟩, trivial⟩ ?_
  refine (opSubw _ _ _).mono ?_
  rintro _ _ ⟨rfl, rfl⟩
  repeat (refine need_intro (by first | (decide) | exact fun h => h | exact nt | exact an2 | exact an3 | rfl | (simp; done) | fail) ?_)
  refine (signedA _ _).mono ?_
  rintro _ _ ⟨rfl, rfl⟩
  repeat (refine need_intro (by first | (decide) | exact fun h => h | exact nt | exact an2 | exact an3 | rfl | (simp; done) | fail) ?_)
  exact eqvE_refl _
set_option maxRecDepth 100000 in
set_option maxHeartbeats 4000000 in
theorem compute_47 (a b : B64) (h : List Blk) : Does TB 92 [.s (.int .i64 47), .s (.int .u64 a.toNat), .s (.int .u64 b.toNat)] h (fun r h' => r = .tuple [.s (.int .u64 (compV 47 a b).toNat), .s (.bool true)] ∧ h' = h) := by
  refine fnX_pur TB Tryz.func92 rfl (by decide) rfl _ rfl (fun O on hO => ?_) h
  repeat (refine need_intro (by first | (decide) | exact fun h => h | exact nt | exact an2 | exact an3 | rfl | (simp; done) | fail) ?_)
  refine (rows_spec _).mono ?_
  rintro _ _ ⟨rfl, rfl⟩
  repeat (refine need_intro (by first | (decide) | exact fun h => h | exact nt | exact an2 | exact an3 | rfl | (simp; done) | fail) ?_)
  refine Does.args (b := [.s (.int .u32 ((a.setWidth 32).toNat : Int)), .s (.int .u32 ((b.setWidth 32).toNat : Int))]) ⟨⟨rfl, u32_of a⟩, ⟨rfl, u32_of b⟩, trivial⟩ ?_
  refine (opSllw _ _ _).mono ?_
  rintro _ _ ⟨rfl, rfl⟩
  repeat (refine need_intro (by first | (decide) | exact fun h => h | exact nt | exact an2 | exact an3 | rfl | (simp; done) | fail) ?_)
  refine (signedA _ _).mono ?_
  rintro _ _ ⟨rfl, rfl⟩
  repeat (refine need_intro (by first | (decide) | exact fun h => h | exact nt | exact an2 | exact an3 | rfl | (simp; done) | fail) ?_)
  exact eqvE_refl _
set_option maxRecDepth 100000 in
set_option maxHeartbeats 4000000 in
theorem compute_48 (a b : B64) (h : List Blk) : Does TB 92 [.s (.int .i64 48), .s (.int .u64 a.toNat), .s (.int .u64 b.toNat)] h (fun r h' => r = .tuple [.s (.int .u64 (compV 48 a b).toNat), .s (.bool true)] ∧ h' = h) := by
  refine fnX_pur TB Tryz.func92 rfl (by decide) rfl _ rfl (fun O on hO => ?_) h
  repeat (refine need_intro (by first | (decide) | exact fun h => h | exact nt | exact an2 | exact an3 | rfl | (simp; done) | fail) ?_)
  refine (rows_spec _).mono ?_
  rintro _ _ ⟨rfl, rfl⟩
  repeat (refine need_intro (by first | (decide) | exact fun h => h | exact nt | exact an2 | exact an3 | rfl | (simp; done) | fail) ?_)
  refine Does.args (b := [.s (.int .u32 ((a.setWidth 32).toNat : Int)), .s (.int .u32 ((b.setWidth 32).toNat : Int))]) ⟨⟨rfl, u32_of a⟩, ⟨rfl, u32_of b⟩, trivial⟩ ?_
  refine (opSrlw _ _ _).mono ?_
  rintro _ _ ⟨rfl, rfl⟩
  repeat (refine need_intro (by first | (decide) | exact fun h => h | exact nt | exact an2 | exact an3 | rfl | (simp; done) | fail) ?_)
  refine (signedA _ _).mono ?_
  rintro _ _ ⟨rfl, rfl⟩
  repeat (refine need_intro (by first | (decide) | exact fun h => h | exact nt | exact an2 | exact an3 | rfl | (simp; done) | fail) ?_)
  exact eqvE_refl _
set_option maxRecDepth 100000 in
set_option maxHeartbeats 4000000 in
theorem compute_49 (a b : B64) (h : List Blk) : Does TB 92 [.s (.int .i64 49), .s (.int .u64 a.toNat), .s (.int .u64 b.toNat)] h (fun r h' => r = .tuple [.s (.int .u64 (compV 49 a b).toNat), .s (.bool true)] ∧ h' = h) := by
  refine fnX_pur TB Tryz.func92 rfl (by decide) rfl _ rfl (fun O on hO => ?_) h
  repeat (refine need_intro (by first | (decide) | exact fun h => h | exact nt | exact an2 | exact an3 | rfl | (simp; done) | fail) ?_)
  refine (rows_spec _).mono ?_
  rintro _ _ ⟨rfl, rfl⟩
  repeat (refine need_intro (by first | (decide) | exact fun h => h | exact nt | exact an2 | exact an3 | rfl | (simp; done) | fail) ?_)
  refine Does.args (b := [.s (.int .u32 ((a.setWidth 32).toNat : Int)), .s (.int .u32 ((b.setWidth 32).toNat : Int))]) ⟨⟨rfl, u32_of a⟩, ⟨rfl, u32_of b⟩, trivial⟩ ?_
  refine (opSraw _ _ _).mono ?_
  rintro _ _ ⟨rfl, rfl⟩
  repeat (refine need_intro (by first | (decide) | exact fun h => h | exact nt | exact an2 | exact an3 | rfl | (simp; done) | fail) ?_)
  refine (signedA _ _).mono ?_
  rintro _ _ ⟨rfl, rfl⟩
  repeat (refine need_intro (by first | (decide) | exact fun h => h | exact nt | exact an2 | exact an3 | rfl | (simp; done) | fail) ?_)
  exact eqvE_refl _
set_option maxRecDepth 100000 in
set_option maxHeartbeats 4000000 in
theorem compute_62 (a b : B64) (h : List Blk) : Does TB 92 [.s (.int .i64 62), .s (.int .u64 a.toNat), .s (.int .u64 b.toNat)] h (fun r h' => r = .tuple [.s (.int .u64 (compV 62 a b).toNat), .s (.bool true)] ∧ h' = h) := by
  refine fnX_pur TB Tryz.func92 rfl (by decide) rfl _ rfl (fun O on hO => ?_) h
  repeat (refine need_intro (by first | (decide) | exact fun h => h | exact nt | exact an2 | exact an3 | rfl | (simp; done) | fail) ?_)
  refine (rows_spec _).mono ?_
  rintro _ _ ⟨rfl, rfl⟩
  repeat (refine need_intro (by first | (decide) | exact fun h => h | exact nt | exact an2 | exact an3 | rfl | (simp; done) | fail) ?_)
  refine (opMul a b _).mono ?_
  rintro _ _ ⟨rfl, rfl⟩
  repeat (refine need_intro (by first | (decide) | exact fun h => h | exact nt | exact an2 | exact an3 | rfl | (simp; done) | fail) ?_)
  exact eqvE_refl _
set_option maxRecDepth 100000 in
set_option maxHeartbeats 4000000 in
theorem compute_63 (a b : B64) (h : List Blk) : Does TB 92 [.s (.int .i64 63), .s (.int .u64 a.toNat), .s (.int .u64 b.toNat)] h (fun r h' => r = .tuple [.s (.int .u64 (compV 63 a b).toNat), .s (.bool true)] ∧ h' = h) := by
  refine fnX_pur TB Tryz.func92 rfl (by decide) rfl _ rfl (fun O on hO => ?_) h
  repeat (refine need_intro (by first | (decide) | exact fun h => h | exact nt | exact an2 | exact an3 | rfl | (simp; done) | fail) ?_)
  refine (rows_spec _).mono ?_
  rintro _ _ ⟨rfl, rfl⟩
  repeat (refine need_intro (by first | (decide) | exact fun h => h | exact nt | exact an2 | exact an3 | rfl | (simp; done) | fail) ?_)
  refine (opMulh a b _).mono ?_
  rintro _ _ ⟨rfl, rfl⟩
  repeat (refine need_intro (by first | (decide) | exact fun h => h | exact nt | exact an2 | exact an3 | rfl | (simp; done) | fail) ?_)
  exact eqvE_refl _
set_option maxRecDepth 100000 in
set_option maxHeartbeats 4000000 in
theorem compute_64 (a b : B64) (h : List Blk) : Does TB 92 [.s (.int .i64 64), .s (.int .u64 a.toNat), .s (.int .u64 b.toNat)] h (fun r h' => r = .tuple [.s (.int .u64 (compV 64 a b).toNat), .s (.bool true)] ∧ h' = h) := by
  refine fnX_pur TB Tryz.func92 rfl (by decide) rfl _ rfl (fun O on hO => ?_) h
  repeat (refine need_intro (by first | (decide) | exact fun h => h | exact nt | exact an2 | exact an3 | rfl | (simp; done) | fail) ?_)
  refine (rows_spec _).mono ?_
  rintro _ _ ⟨rfl, rfl⟩
  repeat (refine need_intro (by first | (decide) | exact fun h => h | exact nt | exact an2 | exact an3 | rfl | (simp; done) | fail) ?_)
  refine (opMulhsu a b _).mono ?_
  rintro _ _ ⟨rfl, rfl⟩
  repeat (refine need_intro (by first | (decide) | exact fun h => h | exact nt | exact an2 | exact an3 | rfl | (simp; done) | fail) ?_)
  exact eqvE_refl _
set_option maxRecDepth 100000 in
set_option maxHeartbeats 4000000 in
theorem compute_65 (a b : B64) (h : List Blk) : Does TB 92 [.s (.int .i64 65), .s (.int .u64 a.toNat), .s (.int .u64 b.toNat)] h (fun r h' => r = .tuple [.s (.int .u64 (compV 65 a b).toNat), .s (.bool true)] ∧ h' = h) := by
  refine fnX_pur TB Tryz.func92 rfl (by decide) rfl _ rfl (fun O on hO => ?_) h
  repeat (refine need_intro (by first | (decide) | exact fun h => h | exact nt | exact an2 | exact an3 | rfl | (simp; done) | fail) ?_)
  refine (rows_spec _).mono ?_
  rintro _ _ ⟨rfl, rfl⟩
  repeat (refine need_intro (by first | (decide) | exact fun h => h | exact nt | exact an2 | exact an3 | rfl | (simp; done) | fail) ?_)
  refine (opMulhu a b _).mono ?_
  rintro _ _ ⟨rfl, rfl⟩
  repeat (refine need_intro (by first | (decide) | exact fun h => h | exact nt | exact an2 | exact an3 | rfl | (simp; done) | fail) ?_)
  exact eqvE_refl _
set_option maxRecDepth 100000 in
set_option maxHeartbeats 4000000 in
theorem compute_66 (a b : B64) (h : List Blk) : Does TB 92 [.s (.int .i64 66), .s (.int .u64 a.toNat), .s (.int .u64 b.toNat)] h (fun r h' => r = .tuple [.s (.int .u64 (compV 66 a b).toNat), .s (.bool true)] ∧ h' = h) := by
  refine fnX_pur TB Tryz.func92 rfl (by decide) rfl _ rfl (fun O on hO => ?_) h
  repeat (refine need_intro (by first | (decide) | exact fun h => h | exact nt | exact an2 | exact an3 | rfl | (simp; done) | fail) ?_)
  refine (rows_spec _).mono ?_
  rintro _ _ ⟨rfl, rfl⟩
  repeat (refine need_intro (by first | (decide) | exact fun h => h | exact nt | exact an2 | exact an3 | rfl | (simp; done) | fail) ?_)
  refine (divideA a b _).mono ?_
  rintro _ _ ⟨rfl, rfl⟩
  repeat (refine need_intro (by first | (decide) | exact fun h => h | exact nt | exact an2 | exact an3 | rfl | (simp; done) | fail) ?_)
  exact eqvE_refl _
set_option maxRecDepth 100000 in
set_option maxHeartbeats 4000000 in
theorem compute_67 (a b : B64) (h : List Blk) : Does TB 92 [.s (.int .i64 67), .s (.int .u64 a.toNat), .s (.int .u64 b.toNat)] h (fun r h' => r = .tuple [.s (.int .u64 (compV 67 a b).toNat), .s (.bool true)] ∧ h' = h) := by
  refine fnX_pur TB Tryz.func92 rfl (by decide) rfl _ rfl (fun O on hO => ?_) h
  repeat (refine need_intro (by first | (decide) | exact fun h => h | exact nt | exact an2 | exact an3 | rfl | (simp; done) | fail) ?_)
  refine (rows_spec _).mono ?_
  rintro _ _ ⟨rfl, rfl⟩
  repeat (refine need_intro (by first | (decide) | exact fun h => h | exact nt | exact an2 | exact an3 | rfl | (simp; done) | fail) ?_)
  refine (divideUA a b _).mono ?_
  rintro _ _ ⟨rfl, rfl⟩
  repeat (refine need_intro (by first | (decide) | exact fun h => h | exact nt | exact an2 | exact an3 | rfl | (simp; done) | fail) ?_)
  exact eqvE_refl _
set_option maxRecDepth 100000 in
set_option maxHeartbeats 4000000 in
theorem compute_68 (a b : B64) (h : List Blk) : Does TB 92 [.s (.int .i64 68), .s (.int .u64 a.toNat), .s (.int .u64 b.toNat)] h (fun r h' => r = .tuple [.s (.int .u64 (compV 68 a b).toNat), .s (.bool true)] ∧ h' = h) := by
  refine fnX_pur TB Tryz.func92 rfl (by decide) rfl _ rfl (fun O on hO => ?_) h
  repeat (refine need_intro (by first | (decide) | exact fun h => h | exact nt | exact an2 | exact an3 | rfl | (simp; done) | fail) ?_)
  refine (rows_spec _).mono ?_
  rintro _ _ ⟨rfl, rfl⟩
  repeat (refine need_intro (by first | (decide) | exact fun h => h | exact nt | exact an2 | exact an3 | rfl | (simp; done) | fail) ?_)
  refine (remainA a b _).mono ?_
  rintro _ _ ⟨rfl, rfl⟩
  repeat (refine need_intro (by first | (decide) | exact fun h => h | exact nt | exact an2 | exact an3 | rfl | (simp; done) | fail) ?_)
  exact eqvE_refl _
set_option maxRecDepth 100000 in
set_option maxHeartbeats 4000000 in
theorem compute_69 (a b : B64) (h : List Blk) : Does TB 92 [.s (.int .i64 69), .s (.int .u64 a.toNat), .s (.int .u64 b.toNat)] h (fun r h' => r = .tuple [.s (.int .u64 (compV 69 a b).toNat), .s (.bool true)] ∧ h' = h) := by
  refine fnX_pur TB Tryz.func92 rfl (by decide) rfl _ rfl (fun O on hO => ?_) h
  repeat (refine need_intro (by first | (decide) | exact fun h => h | exact nt | exact an2 | exact an3 | rfl | (simp; done) | fail) ?_)
  refine (rows_spec _).mono ?_
  rintro _ _ ⟨rfl, rfl⟩
  repeat (refine need_intro (by first | (decide) | exact fun h => h | exact nt | exact an2 | exact an3 | rfl | (simp; done) | fail) ?_)
  refine (remainUA a b _).mono ?_
  rintro _ _ ⟨rfl, rfl⟩
  repeat (refine need_intro (by first | (decide) | exact fun h => h | exact nt | exact an2 | exact an3 | rfl | (simp; done) | fail) ?_)
  exact eqvE_refl _
set_option maxRecDepth 100000 in
set_option maxHeartbeats 4000000 in
theorem compute_70 (a b : B64) (h : List Blk) : Does TB 92 [.s (.int .i64 70), .s (.int .u64 a.toNat), .s (.int .u64 b.toNat)] h (fun r h' => r = .tuple [.s (.int .u64 (compV 70 a b).toNat), .s (.bool true)] ∧ h' = h) := by
  refine fnX_pur TB Tryz.func92 rfl (by decide) rfl _ rfl (fun O on hO => ?_) h
  repeat (refine need_intro (by first | (decide) | exact fun h => h | exact nt | exact an2 | exact an3 | rfl | (simp; done) | fail) ?_)
  refine (rows_spec _).mono ?_
  rintro _ _ ⟨rfl, rfl⟩
  repeat (refine need_intro (by first | (decide) | exact fun h => h | exact nt | exact an2 | exact an3 | rfl | (simp; done) | fail) ?_)
  refine Does.args (b := [.s (.int .u32 ((a.setWidth 32).toNat : Int)), .s (.int .u32 ((b.setWidth 32).toNat : Int))]) ⟨⟨rfl, u32_of a⟩, ⟨rfl, u32_of b⟩, trivial⟩ ?_
  refine (opMulw _ _ _).mono ?_
  rintro _ _ ⟨rfl, rfl⟩
  repeat (refine need_intro (by first | (decide) | exact fun h => h | exact nt | exact an2 | exact an3 | rfl | (simp; done) | fail) ?_)
  refine (signedA _ _).mono ?_
  rintro _ _ ⟨rfl, rfl⟩
  repeat (refine need_intro (by first | (decide) | exact fun h => h | exact nt | exact an2 | exact an3 | rfl | (simp; done) | fail) ?_)
  exact eqvE_refl _
set_option maxRecDepth 100000 in
set_option maxHeartbeats 4000000 in
theorem compute_71 (a b : B64) (h : List Blk) : Does TB 92 [.s (.int .i64 71), .s (.int .u64 a.toNat), .s (.int .u64 b.toNat)] h (fun r h' => r = .tuple [.s (.int .u64 (compV 71 a b).toNat), .s (.bool true)] ∧ h' = h) := by
  refine fnX_pur TB Tryz.func92 rfl (by decide) rfl _ rfl (fun O on hO => ?_) h
  repeat (refine need_intro (by first | (decide) | exact fun h => h | exact nt | exact an2 | exact an3 | rfl | (simp; done) | fail) ?_)
  refine (rows_spec _).mono ?_
  rintro _ _ ⟨rfl, rfl⟩
  repeat (refine need_intro (by first | (decide) | exact fun h => h | exact nt | exact an2 | exact an3 | rfl | (simp; done) | fail) ?_)
  refine Does.args (b := [.s (.int .u32 ((a.setWidth 32).toNat : Int)), .s (.int .u32 ((b.setWidth 32).toNat : Int))]) ⟨⟨rfl, u32_of a⟩, ⟨rfl, u32_of b⟩, trivial⟩ ?_
  refine (opDivw _ _ _).mono ?_
  rintro _ _ ⟨rfl, rfl⟩
  repeat (refine need_intro (by first | (decide) | exact fun h => h | exact nt | exact an2 | exact an3 | rfl | (simp; done) | fail) ?_)
  refine (signedA _ _).mono ?_
  rintro _ _ ⟨rfl, rfl⟩
  repeat (refine need_intro (by first | (decide) | exact fun h => h | exact nt | exact an2 | exact an3 | rfl | (simp; done) | fail) ?_)
  exact eqvE_refl _
set_option maxRecDepth 100000 in
set_option maxHeartbeats 4000000 in
theorem compute_72 (a b : B64) (h : List Blk) : Does TB 92 [.s (.int .i64 72), .s (.int .u64 a.toNat), .s (.int .u64 b.toNat)] h (fun r h' => r = .tuple [.s (.int .u64 (compV 72 a b).toNat), .s (.bool true)] ∧ h' = h) := by
  refine fnX_pur TB Tryz.func92 rfl (by decide) rfl _ rfl (fun O on hO => ?_) h
  repeat (refine need_intro (by first | (decide) | exact fun h => h | exact nt | exact an2 | exact an3 | rfl | (simp; done) | fail) ?_)
  refine (rows_spec _).mono ?_
  rintro _ _ ⟨rfl, rfl⟩
  repeat (refine need_intro (by first | (decide) | exact fun h => h | exact nt | exact an2 | exact an3 | rfl | (simp; done) | fail) ?_)
  refine Does.args (b := [.s (.int .u32 ((a.setWidth 32).toNat : Int)), .s (.int .u32 ((b.setWidth 32).toNat : Int))]) ⟨⟨rfl, u32_of a⟩, ⟨rfl, u32_of b⟩, trivial⟩ ?_
  refine (opDivuw _ _ _).mono ?_
  rintro _ _ ⟨rfl, rfl⟩
  repeat (refine need_intro (by first | (decide) | exact fun h => h | exact nt | exact an2 | exact an3 | rfl | (simp; done) | fail) ?_)
  refine (signedA _ _).mono ?_
  rintro _ _ ⟨rfl, rfl⟩
  repeat (refine need_intro (by first | (decide) | exact fun h => h | exact nt | exact an2 | exact an3 | rfl | (simp; done) | fail) ?_)
  exact eqvE_refl _
set_option maxRecDepth 100000 in
set_option maxHeartbeats 4000000 in
theorem compute_73 (a b : B64) (h : List Blk) : Does TB 92 [.s (.int .i64 73), .s (.int .u64 a.toNat), .s (.int .u64 b.toNat)] h (fun r h' => r = .tuple [.s (.int .u64 (compV 73 a b).toNat), .s (.bool true)] ∧ h' = h) := by
  refine fnX_pur TB Tryz.func92 rfl (by decide) rfl _ rfl (fun O on hO => ?_) h
  repeat (refine need_intro (by first | (decide) | exact fun h => h | exact nt | exact an2 | exact an3 | rfl | (simp; done) | fail) ?_)
  refine (rows_spec _).mono ?_
  rintro _ _ ⟨rfl, rfl⟩
  repeat (refine need_intro (by first | (decide) | exact fun h => h | exact nt | exact an2 | exact an3 | rfl | (simp; done) | fail) ?_)
  refine Does.args (b := [.s (.int .u32 ((a.setWidth 32).toNat : Int)), .s (.int .u32 ((b.setWidth 32).toNat : Int))]) ⟨⟨rfl, u32_of a⟩, ⟨rfl, u32_of b⟩, trivial⟩ ?_
  refine (opRemw _ _ _).mono ?_
  rintro _ _ ⟨rfl, rfl⟩
  repeat (refine need_intro (by first | (decide) | exact fun h => h | exact nt | exact an2 | exact an3 | rfl | (simp; done) | fail) ?_)
  refine (signedA _ _).mono ?_
  rintro _ _ ⟨rfl, rfl⟩
  repeat (refine need_intro (by first | (decide) | exact fun h => h | exact nt | exact an2 | exact an3 | rfl | (simp; done) | fail) ?_)
  exact eqvE_refl _
set_option maxRecDepth 100000 in
set_option maxHeartbeats 4000000 in
theorem compute_74 (a b : B64) (h : List Blk) : Does TB 92 [.s (.int .i64 74), .s (.int .u64 a.toNat), .s (.int .u64 b.toNat)] h (fun r h' => r = .tuple [.s (.int .u64 (compV 74 a b).toNat), .s (.bool true)] ∧ h' = h) := by
  refine fnX_pur TB Tryz.func92 rfl (by decide) rfl _ rfl (fun O on hO => ?_) h
  repeat (refine need_intro (by first | (decide) | exact fun h => h | exact nt | exact an2 | exact an3 | rfl | (simp; done) | fail) ?_)
  refine (rows_spec _).mono ?_
  rintro _ _ ⟨rfl, rfl⟩
  repeat (refine need_intro (by first | (decide) | exact fun h => h | exact nt | exact an2 | exact an3 | rfl | (simp; done) | fail) ?_)
  refine Does.args (b := [.s (.int .u32 ((a.setWidth 32).toNat : Int)), .s (.int .u32 ((b.setWidth 32).toNat : Int))]) ⟨⟨rfl, u32_of a⟩, ⟨rfl, u32_of b⟩, trivial⟩ ?_
  refine (opRemuw _ _ _).mono ?_
  rintro _ _ ⟨rfl, rfl⟩
  repeat (refine need_intro (by first | (decide) | exact fun h => h | exact nt | exact an2 | exact an3 | rfl | (simp; done) | fail) ?_)
  refine (signedA _ _).mono ?_
  rintro _ _ ⟨rfl, rfl⟩
  repeat (refine need_intro (by first | (decide) | exact fun h => h | exact nt | exact an2 | exact an3 | rfl | (simp; done) | fail) ?_)
  exact eqvE_refl _
theorem computeA (op : Int) (hop : 22 ≤ op ∧ op ≤ 49 ∨ 62 ≤ op ∧ op ≤ 74) (a b : B64) (h : List Blk) : Does TB 92 [.s (.int .i64 op), .s (.int .u64 a.toNat), .s (.int .u64 b.toNat)] h (fun r h' => r = .tuple [.s (.int .u64 (compV (plainN op.toNat) a b).toNat), .s (.bool true)] ∧ h' = h) := by
  have h0 : op = 22 ∨ op = 23 ∨ op = 24 ∨ op = 25 ∨ op = 26 ∨ op = 27 ∨ op = 28 ∨ op = 29 ∨ op = 30 ∨ op = 31 ∨ op = 32 ∨ op = 33 ∨ op = 34 ∨ op = 35 ∨ op = 36 ∨ op = 37 ∨ op = 38 ∨ op = 39 ∨ op = 40 ∨ op = 41 ∨ op = 42 ∨ op = 43 ∨ op = 44 ∨ op = 45 ∨ op = 46 ∨ op = 47 ∨ op = 48 ∨ op = 49 ∨ op = 62 ∨ op = 63 ∨ op = 64 ∨ op = 65 ∨ op = 66 ∨ op = 67 ∨ op = 68 ∨ op = 69 ∨ op = 70 ∨ op = 71 ∨ op = 72 ∨ op = 73 ∨ op = 74 := by omega
  rcases h0 with rfl | rfl | rfl | rfl | rfl | rfl | rfl | rfl | rfl | rfl | rfl | rfl | rfl | rfl | rfl | rfl | rfl | rfl | rfl | rfl | rfl | rfl | rfl | rfl | rfl | rfl | rfl | rfl | rfl | rfl | rfl | rfl | rfl | rfl | rfl | rfl | rfl | rfl | rfl | rfl | rfl
  · exact compute_22 a b h
  · exact compute_23 a b h
  · exact compute_24 a b h
  · exact compute_25 a b h
  · exact compute_26 a b h
  · exact compute_27 a b h
  · exact compute_28 a b h
  · exact compute_29 a b h
  · exact compute_30 a b h
  · exact compute_31 a b h
  · exact compute_32 a b h
  · exact compute_33 a b h
  · exact compute_34 a b h
  · exact compute_35 a b h
  · exact compute_36 a b h
  · exact compute_37 a b h
  · exact compute_38 a b h
  · exact compute_39 a b h
  · exact compute_40 a b h
  · exact compute_41 a b h
  · exact compute_42 a b h
  · exact compute_43 a b h
  · exact compute_44 a b h
  · exact compute_45 a b h
  · exact compute_46 a b h
  · exact compute_47 a b h
  · exact compute_48 a b h
  · exact compute_49 a b h
  · exact compute_62 a b h
  · exact compute_63 a b h
  · exact compute_64 a b h
  · exact compute_65 a b h
  · exact compute_66 a b h
  · exact compute_67 a b h
  · exact compute_68 a b h
  · exact compute_69 a b h
  · exact compute_70 a b h
  · exact compute_71 a b h
  · exact compute_72 a b h
  · exact compute_73 a b h
  · exact compute_74 a b h
end Go.Proofs.YtdlpmbghocabbaaGreatDoor

/- Instructions of registers, jumps, branches. Contracts of functions. -/
namespace Go.Anv
open Go
def Xs.imm (x : Xs) : B64 := BitVec.ofInt 64 x.i.imm
def Xs.r1 (x : Xs) : B64 := x.c.x x.i.rs1.toNat
def Xs.r2 (x : Xs) : B64 := x.c.x x.i.rs2.toNat
structure InV.Fit (i : InV) : Prop where
  d0 : 0 ≤ i.rd
  d1 : i.rd < 32
  s0 : 0 ≤ i.rs1
  s1 : i.rs1 < 32
  t0 : 0 ≤ i.rs2
  t1 : i.rs2 < 32
def Xs.jal (x : Xs) : Xs := ({ x with next := x.c.pc + x.imm } : Xs).put x.next
def Xs.jalr (x : Xs) : Xs := ({ x with next := x.r1 + x.imm } : Xs).put x.next
def Xs.branch (x : Xs) : Xs := if takenB x.i.op x.r1 x.r2 = true then { x with next := x.c.pc + x.imm } else x
end Go.Anv
namespace Go.Proofs.YtdlpmbghocabbaaGreatDoor
open Go Go.Anv
set_option maxRecDepth 100000 in
theorem i_nothing (x : Xs) : Does TB 60 [.s (.ptr 0 0)] x.h (fun v h' => v = .tuple [] ∧ h' = x.h) := by
  refine fnX_does TB Tryz.func60 rfl (by decide) (fun O on hO => ?_)
  exact Ends.same ⟨rfl, rfl⟩ (Nat.le_of_ble_eq_true rfl)
set_option maxRecDepth 100000 in
theorem i_lui (x : Xs) (f : x.i.Fit) : Does TB 51 [.s (.ptr 0 0)] x.h (fun v h' => v = .tuple [] ∧ h' = (x.put x.imm).h) := by
  refine fnX_does TB Tryz.func51 rfl (by decide) (fun O on hO => ?_)
  repeat (refine need_intro (by first | exact fun h => h | exact nt | exact an2 | exact an3 | rfl | (simp; done) | fail) ?_)
  refine (imm_spec x).mono ?_
  rintro _ _ ⟨rfl, rfl⟩
  repeat (refine need_intro (by first | exact fun h => h | exact nt | exact an2 | exact an3 | rfl | (simp; done) | fail) ?_)
  refine (put_spec x x.imm f.d0 f.d1).mono ?_
  rintro _ _ ⟨rfl, rfl⟩
  repeat (refine need_intro (by first | exact fun h => h | exact nt | exact an2 | exact an3 | rfl | (simp; done) | fail) ?_)
  exact Ends.same ⟨rfl, rfl⟩ (Nat.le_of_ble_eq_true rfl)
set_option maxRecDepth 100000 in
theorem i_auipc (x : Xs) (f : x.i.Fit) : Does TB 52 [.s (.ptr 0 0)] x.h (fun v h' => v = .tuple [] ∧ h' = (x.put (x.c.pc + x.imm)).h) := by
  refine fnX_does TB Tryz.func52 rfl (by decide) (fun O on hO => ?_)
  refine draw_to on ?tt1 ?_ ?_
  rotate_left 1
  · refine draw_but [0] on rfl (fun _ _ h => h) ?_
    repeat' (first | refine need_intro (by first | exact fun h => h | exact nt | exact an2 | exact an3 | rfl | (simp; done) | fail) ?_ | refine And.intro ?_ ?_ | (refine (imm_spec x).mono ?_; rintro _ _ ⟨rfl, rfl⟩) | (refine Does.args (b := [.s (.ptr 0 0), .s (.int .u64 ((x.c.pc + x.imm).toNat : Int))]) ⟨eqvE_refl _, ⟨rfl, add64 _ _⟩, trivial⟩ ?_; refine (put_spec x (x.c.pc + x.imm) f.d0 f.d1).mono ?_; rintro _ _ ⟨rfl, rfl⟩))
    all_goals (refine toK_id ?_; rw [hO]; exact Nat.le_of_ble_eq_true rfl)
  repeat (refine need_intro (by first | exact fun h => h | exact nt | exact an2 | exact an3 | rfl | (simp; done) | fail) ?_)
  exact Ends.same ⟨rfl, rfl⟩ (Nat.le_of_ble_eq_true rfl)
set_option maxRecDepth 100000 in
theorem i_jal (x : Xs) (f : x.i.Fit) : Does TB 53 [.s (.ptr 0 0)] x.h (fun v h' => v = .tuple [] ∧ h' = x.jal.h) := by
  refine fnX_does TB Tryz.func53 rfl (by decide) (fun O on hO => ?_)
  repeat (refine need_intro (by first | exact fun h => h | exact nt | exact an2 | exact an3 | rfl | (simp; done) | fail) ?_)
  refine draw_to on ?tt2 ?_ ?_
  rotate_left 1
  · refine draw_but [0] on rfl (fun _ _ h => h) ?_
    repeat' (first | refine need_intro (by first | exact fun h => h | exact nt | exact an2 | exact an3 | rfl | (simp; done) | fail) ?_ | refine And.intro ?_ ?_ | (refine (imm_spec x).mono ?_; rintro _ _ ⟨rfl, rfl⟩))
    all_goals (refine toK_id ?_; rw [hO]; exact Nat.le_of_ble_eq_true rfl)
  repeat (refine need_intro (by first | exact fun h => h | exact nt | exact an2 | exact an3 | rfl | (simp; done) | fail) ?_)
  refine Does.heq (b := ({ x with next := x.c.pc + x.imm } : Xs).h) ⟨⟨rfl, rfl, ?_⟩, eqvH_same (eqvH_same (eqvH_same (eqvH_same eqvH_nil)))⟩ ?_
  · show eqvS _ _
    repeat' (first | exact eqvS_nil | refine eqvS_same ?_ | refine eqvS_int (add64 _ _) ?_)
  refine (put_spec ({ x with next := x.c.pc + x.imm } : Xs) x.next f.d0 f.d1).mono ?_
  rintro _ _ ⟨rfl, rfl⟩
  repeat (refine need_intro (by first | exact fun h => h | exact nt | exact an2 | exact an3 | rfl | (simp; done) | fail) ?_)
  exact Ends.same ⟨rfl, rfl⟩ (Nat.le_of_ble_eq_true rfl)
set_option maxRecDepth 100000 in
theorem i_jalr (x : Xs) (f : x.i.Fit) : Does TB 54 [.s (.ptr 0 0)] x.h (fun v h' => v = .tuple [] ∧ h' = x.jalr.h) := by
  refine fnX_does TB Tryz.func54 rfl (by decide) (fun O on hO => ?_)
  repeat (refine need_intro (by first | exact fun h => h | exact nt | exact an2 | exact an3 | rfl | (simp; done) | fail) ?_)
  refine (x1_spec x f.s0 f.s1).mono ?_
  rintro _ _ ⟨rfl, rfl⟩
  repeat (refine need_intro (by first | exact fun h => h | exact nt | exact an2 | exact an3 | rfl | (simp; done) | fail) ?_)
  refine (imm_spec x).mono ?_
  rintro _ _ ⟨rfl, rfl⟩
  repeat (refine need_intro (by first | exact fun h => h | exact nt | exact an2 | exact an3 | rfl | (simp; done) | fail) ?_)
  refine Does.heq (b := ({ x with next := x.r1 + x.imm } : Xs).h) ⟨⟨rfl, rfl, ?_⟩, eqvH_same (eqvH_same (eqvH_same (eqvH_same eqvH_nil)))⟩ ?_
  · show eqvS _ _
    repeat' (first | exact eqvS_nil | refine eqvS_same ?_ | refine eqvS_int (add64 _ _) ?_)
  refine (put_spec ({ x with next := x.r1 + x.imm } : Xs) x.next f.d0 f.d1).mono ?_
  rintro _ _ ⟨rfl, rfl⟩
  repeat (refine need_intro (by first | exact fun h => h | exact nt | exact an2 | exact an3 | rfl | (simp; done) | fail) ?_)
  exact Ends.same ⟨rfl, rfl⟩ (Nat.le_of_ble_eq_true rfl)
set_option maxRecDepth 100000 in
theorem i_branch (x : Xs) (f : x.i.Fit) (hop : 5 ≤ x.i.op ∧ x.i.op ≤ 10) : Does TB 55 [.s (.ptr 0 0)] x.h (fun v h' => v = .tuple [] ∧ h' = x.branch.h) := by
  refine fnX_does TB Tryz.func55 rfl (by decide) (fun O on hO => ?_)
  refine draw_to on ?tt3 ?_ ?_
  rotate_left 1
  · refine draw_held on rfl (fun _ _ h => h) ?_
    repeat' (first | refine need_intro (by first | exact fun h => h | exact nt | exact an2 | exact an3 | rfl | (simp; done) | fail) ?_ | refine And.intro ?_ ?_ | (refine (x1_spec x f.s0 f.s1).mono ?_; rintro _ _ ⟨rfl, rfl⟩) | (refine (x2_spec x f.t0 f.t1).mono ?_; rintro _ _ ⟨rfl, rfl⟩) | (refine (takenA x.i.op x.r1 x.r2 hop _).mono ?_; rintro _ _ ⟨rfl, rfl⟩))
    all_goals (refine toK_id ?_; rw [hO]; exact Nat.le_of_ble_eq_true rfl)
  unfold Xs.branch
  refine ifB_intro (fun g => ?_) (fun g => ?_)
  · rw [if_pos g]
    refine draw_to on ?tt4 ?_ ?_
    rotate_left 1
    · refine draw_but [0] on rfl (fun _ _ h => h) ?_
      repeat' (first | refine need_intro (by first | exact fun h => h | exact nt | exact an2 | exact an3 | rfl | (simp; done) | fail) ?_ | refine And.intro ?_ ?_ | (refine (imm_spec x).mono ?_; rintro _ _ ⟨rfl, rfl⟩))
      all_goals (refine toK_id ?_; rw [hO]; exact Nat.le_of_ble_eq_true rfl)
    refine ⟨_, ({ x with next := x.c.pc + x.imm } : Xs).h, [0, 1, 2, 3, 4], ⟨rfl, rfl⟩, by decide, ⟨rfl, rfl, rfl, rfl, rfl, trivial⟩, eqvE_refl _, ⟨⟨_, rfl, ⟨rfl, rfl, ?_⟩⟩, ⟨_, rfl, eqvB_refl _⟩, ⟨_, rfl, eqvB_refl _⟩, ⟨_, rfl, eqvB_refl _⟩, ⟨_, rfl, eqvB_refl _⟩, trivial⟩⟩
    show eqvS _ _
    repeat' (first | exact eqvS_nil | refine eqvS_same ?_ | refine eqvS_int (add64 _ _) ?_)
  · rw [if_neg (by rw [g]; exact Bool.false_ne_true)]
    exact Ends.same ⟨rfl, rfl⟩ (Nat.le_of_ble_eq_true rfl)
set_option maxRecDepth 100000 in
theorem i_immediate (x : Xs) (f : x.i.Fit) (hop : 22 ≤ x.i.op ∧ x.i.op ≤ 49 ∨ 62 ≤ x.i.op ∧ x.i.op ≤ 74) : Does TB 58 [.s (.ptr 0 0)] x.h (fun v h' => v = .tuple [] ∧ h' = (x.put (compV (plainN x.i.op.toNat) x.r1 x.imm)).h) := by
  refine fnX_does TB Tryz.func58 rfl (by decide) (fun O on hO => ?_)
  refine draw_to on ?tt5 ?_ ?_
  rotate_left 1
  · refine draw_held on rfl (fun _ _ h => h) ?_
    repeat' (first | refine need_intro (by first | exact fun h => h | exact nt | exact an2 | exact an3 | rfl | (simp; done) | fail) ?_ | refine And.intro ?_ ?_ | (refine (x1_spec x f.s0 f.s1).mono ?_; rintro _ _ ⟨rfl, rfl⟩) | (refine (imm_spec x).mono ?_; rintro _ _ ⟨rfl, rfl⟩) | (refine (computeA x.i.op hop x.r1 x.imm _).mono ?_; rintro _ _ ⟨rfl, rfl⟩))
    all_goals (refine toK_id ?_; rw [hO]; exact Nat.le_of_ble_eq_true rfl)
  repeat (refine need_intro (by first | exact fun h => h | exact nt | exact an2 | exact an3 | rfl | (simp; done) | fail) ?_)
  refine (put_spec x (compV (plainN x.i.op.toNat) x.r1 x.imm) f.d0 f.d1).mono ?_
  rintro _ _ ⟨rfl, rfl⟩
  repeat (refine need_intro (by first | exact fun h => h | exact nt | exact an2 | exact an3 | rfl | (simp; done) | fail) ?_)
  exact Ends.same ⟨rfl, rfl⟩ (Nat.le_of_ble_eq_true rfl)
set_option maxRecDepth 100000 in
theorem i_registers (x : Xs) (f : x.i.Fit) (hop : 22 ≤ x.i.op ∧ x.i.op ≤ 49 ∨ 62 ≤ x.i.op ∧ x.i.op ≤ 74) : Does TB 59 [.s (.ptr 0 0)] x.h (fun v h' => v = .tuple [] ∧ h' = (x.put (compV (plainN x.i.op.toNat) x.r1 x.r2)).h) := by
  refine fnX_does TB Tryz.func59 rfl (by decide) (fun O on hO => ?_)
  refine draw_to on ?tt6 ?_ ?_
  rotate_left 1
  · refine draw_held on rfl (fun _ _ h => h) ?_
    repeat' (first | refine need_intro (by first | exact fun h => h | exact nt | exact an2 | exact an3 | rfl | (simp; done) | fail) ?_ | refine And.intro ?_ ?_ | (refine (x1_spec x f.s0 f.s1).mono ?_; rintro _ _ ⟨rfl, rfl⟩) | (refine (x2_spec x f.t0 f.t1).mono ?_; rintro _ _ ⟨rfl, rfl⟩) | (refine (computeA x.i.op hop x.r1 x.r2 _).mono ?_; rintro _ _ ⟨rfl, rfl⟩))
    all_goals (refine toK_id ?_; rw [hO]; exact Nat.le_of_ble_eq_true rfl)
  repeat (refine need_intro (by first | exact fun h => h | exact nt | exact an2 | exact an3 | rfl | (simp; done) | fail) ?_)
  refine (put_spec x (compV (plainN x.i.op.toNat) x.r1 x.r2) f.d0 f.d1).mono ?_
  rintro _ _ ⟨rfl, rfl⟩
  repeat (refine need_intro (by first | exact fun h => h | exact nt | exact an2 | exact an3 | rfl | (simp; done) | fail) ?_)
  exact Ends.same ⟨rfl, rfl⟩ (Nat.le_of_ble_eq_true rfl)
end Go.Proofs.YtdlpmbghocabbaaGreatDoor

/- The engine, part 19: contracts over blocks that are only read, used where blocks are the same or overlap; maps of whole numbers whose entries are not told. Plain theorems, no condition. -/
namespace Go.Anv
open Go

/-- Blocks of a larger heap, only read. -/
def viewH (h : List Blk) : List Nat → List Blk → Prop
  | [], [] => True
  | k :: κ, B :: r => (∃ m cs sp, nthB h k = some (.cells m cs sp) ∧ B = .cells false cs sp) ∧ viewH h κ r
  | _, _ => False

theorem viewH_get {h : List Blk} : ∀ {κ : List Nat} {r : List Blk}, viewH h κ r → κ.length = r.length ∧ ∀ (i : Nat) (B : Blk), r[i]? = some B → ∃ k m cs sp, κ[i]? = some k ∧ h[k]? = some (.cells m cs sp) ∧ B = .cells false cs sp
  | [], [], _ => ⟨rfl, fun i B hi => by simp at hi⟩
  | k :: κ, B :: r, hk => by
    obtain ⟨h1, h2⟩ := viewH_get hk.2
    refine ⟨by simp [h1], fun i C hi => ?_⟩
    cases i with
    | zero =>
      simp only [List.getElem?_cons_zero, Option.some.injEq] at hi
      subst hi
      obtain ⟨m, cs, sp, h3, h4⟩ := hk.1
      exact ⟨k, m, cs, sp, by simp, nthB_get h3, h4⟩
    | succ i => simpa using h2 i C (by simpa using hi)
  | [], _ :: _, hk => hk.elim
  | _ :: _, [], hk => hk.elim

/-- **A contract over blocks that may not be written, where they may be the same.** -/
theorem Does.dup {T : Tbl} {f : FuncId} {args : List EV} {hc : List Blk} {X : EV} (c : Does T f args hc (fun v h' => v = X ∧ h' = hc)) (κ : List Nat) {args' : List EV} {h : List Blk} {K : EV → List Blk → Prop}
    (hX : noPtr X = true) (ha : args' = renT (lk κ h.length) args) (hh : viewH h κ (renH (lk κ h.length) hc)) (hK : K X h) : Does T f args' h K := by
  subst ha
  obtain ⟨hl, hget⟩ := viewH_get hh
  rw [length_renH] at hl
  have core : ∀ {E : Emb} {w : World} {vs : List Value}, Sim E h w → denT E (renT (lk κ h.length) args) vs → ∃ Ec, Sim Ec hc w ∧ (TabOk E h w → TabOk Ec hc w) ∧ denT Ec args vs ∧ ∀ e w', Post Ec hc w (fun v h' => v = X ∧ h' = hc) e w' → Post E h w K e w' := by
    intro E w vs S ha
    let ρ := lk κ h.length
    let Ec : Emb := ⟨hc.length, fun i => E.f (ρ i)⟩
    have hblk : ∀ (i : Nat) (B : Blk), hc[i]? = some B → ∃ m cs sp, ρ i < h.length ∧ h[ρ i]? = some (.cells m cs sp) ∧ renB ρ B = .cells false cs sp := fun i B hi => by
      obtain ⟨k, m, cs, sp, h1, h2, h3⟩ := hget i (renB ρ B) (by rw [renH_get, hi]; rfl)
      have hi' : i < κ.length := by have := lt_of_get hi; omega
      have h4 : ρ i = k := by
        show lk κ h.length i = k
        rw [look_lt κ _ i hi']
        rw [List.getElem?_eq_getElem hi'] at h1
        exact Option.some.inj h1
      exact ⟨m, cs, sp, by rw [h4]; exact lt_of_get h2, by rw [h4]; exact h2, h3⟩
    have hfwd : ∀ b, ρ b < E.n → b < Ec.n := fun b hb => by
      rcases Nat.lt_or_ge b κ.length with h1 | h1
      · show b < hc.length; omega
      · have h3 : ρ b = h.length + (b - κ.length) := look_ge κ _ b h1
        have := S.n
        omega
    have hbwd : ∀ b, b < Ec.n → ρ b < E.n ∧ Ec.f b = E.f (ρ b) := fun b hb => by
      obtain ⟨_, _, _, h1, _⟩ := hblk b _ (List.getElem?_eq_getElem hb)
      exact ⟨by rw [S.n]; exact h1, rfl⟩
    have hnm : ∀ (i : Nat) (B : Blk), hc[i]? = some B → B.mut = false := fun i B hi => by
      obtain ⟨m, cs, sp, _, _, h3⟩ := hblk i B hi
      rw [← mut_ren (ρ := ρ) B, h3]
      rfl
    have hno : ∀ b o, ¬ mutAt Ec hc b o := fun b o ⟨i, B, h1, h2, _⟩ => by rw [hnm i B h1] at h2; cases h2
    have Sc : Sim Ec hc w := by
      refine ⟨rfl, fun i B hi => ?_, fun i j A B _ hi _ hA => ?_⟩
      · obtain ⟨m, cs, sp, _, h2, h3⟩ := hblk i B hi
        have hk := S.ok _ _ h2
        refine (okBlk_ren hfwd hbwd B).1 ?_
        rw [h3]
        obtain ⟨k1, k2, _⟩ := hk
        exact ⟨k1, k2, fun h => by cases h⟩
      · rw [hnm i A hi] at hA; cases hA
    refine ⟨Ec, Sc, fun Z => Z.sub fun b o hm => absurd hm (hno b o), (denT_ren hfwd hbwd args _).1 ha, ?_⟩
    rintro e w' ⟨v, x, h', E', rfl, hd, S', N', rfl, rfl⟩
    have hk : ∀ b, b < w.heap.size → w'.heap[b]? = w.heap[b]? := fun b hb => N'.frame b hb (fun o => hno b o)
    have S1 : Sim E h w' := S.keep N'.size hk
    refine ⟨v, x, h, E, rfl, noPtr_den x v hX hd, S1, ?_, hK⟩
    exact ⟨Nat.le_refl _, fun _ _ => rfl, N'.size, fun b hb _ => hk b hb, fun b o hb _ => N'.cells b o hb (hno b o), fun b o hm _ => hm, N'.os, N'.tape, N'.output, N'.rows⟩
  refine ⟨?_⟩
  rcases c.go with ⟨h1, h2⟩ | h1
  · refine .inl ⟨h1, fun E w vs S Z ha => ?_⟩
    obtain ⟨Ec, k1, kz, k2, k3⟩ := core S ha
    exact (h2 Ec w vs k1 (kz Z) k2).mono k3
  · refine .inr fun E w vs S ha => ?_
    obtain ⟨Ec, k1, _, k2, k3⟩ := core S ha
    obtain ⟨u, w', h2, h3⟩ := h1 Ec w vs k1 k2
    exact ⟨u, w', h2, k3 _ _ h3⟩

/-! ### maps of whole numbers -/

def ents (L : List (Int × Int)) : List (SV × EV) := L.map fun p => (.int .i64 p.1, .s (.int .i64 p.2))

def assoc (r : Int) : List (Int × Int) → Option Int
  | [] => none
  | p :: L => if r == p.1 then some p.2 else assoc r L

theorem lookK_ints (r : Int) : ∀ (L : List (Int × Int)) {k : Option EV → Prop}, k ((assoc r L).map fun p => .s (.int .i64 p)) → lookK (.int .i64 r) (ents L) k
  | [], _, h => h
  | p :: L, k, h => by
    show ifB (r == p.1) (k (some (.s (.int .i64 p.2)))) (lookK (.int .i64 r) (ents L) k)
    refine ifB_intro (fun e => ?_) (fun e => ?_)
    · unfold assoc at h
      rw [if_pos e] at h
      exact h
    · unfold assoc at h
      rw [e, if_neg (by decide)] at h
      exact lookK_ints r L h

theorem putM_ints (r p : Int) : ∀ (L : List (Int × Int)) {k : List (SV × EV) → Prop}, assoc r L = none → k (ents (L ++ [(r, p)])) → putM (.int .i64 r) (.s (.int .i64 p)) (ents L) k
  | [], _, _, h => h
  | q :: L, k, hn, h => by
    show ifB (r == q.1) (k ((.int .i64 r, .s (.int .i64 p)) :: ents L)) (putM (.int .i64 r) (.s (.int .i64 p)) (ents L) fun r' => k ((.int .i64 q.1, .s (.int .i64 q.2)) :: r'))
    unfold assoc at hn
    refine ifB_intro (fun e => ?_) (fun e => ?_)
    · rw [if_pos e] at hn; cases hn
    · rw [e, if_neg (by decide)] at hn
      exact putM_ints r p L hn h
end Go.Anv

/- Instructions that throw: traps by hand; sizes of loads and stores. Contracts of functions. -/
namespace Go.Anv
open Go
/-- How many bytes a load or a store meets. -/
def widL : List (Int × Int) := [(11, 1), (12, 2), (13, 4), (14, 8), (15, 1), (16, 2), (17, 4), (18, 1), (19, 2), (20, 4), (21, 8)]
def widN (op : Int) : Nat := if op = 11 ∨ op = 15 ∨ op = 18 then 1 else if op = 12 ∨ op = 16 ∨ op = 19 then 2 else if op = 13 ∨ op = 17 ∨ op = 20 then 4 else 8
theorem wid_assoc {op : Int} (h : 11 ≤ op ∧ op ≤ 21) : assoc op widL = some (widN op : Int) := by
  have : op = 11 ∨ op = 12 ∨ op = 13 ∨ op = 14 ∨ op = 15 ∨ op = 16 ∨ op = 17 ∨ op = 18 ∨ op = 19 ∨ op = 20 ∨ op = 21 := by omega
  rcases this with rfl | rfl | rfl | rfl | rfl | rfl | rfl | rfl | rfl | rfl | rfl <;> rfl
theorem wid_8 (op : Int) : widN op = 1 ∨ widN op = 2 ∨ widN op = 4 ∨ widN op = 8 := by
  unfold widN; split
  · exact .inl rfl
  · split
    · exact .inr (.inl rfl)
    · split
      · exact .inr (.inr (.inl rfl))
      · exact .inr (.inr (.inr rfl))
/-- An instruction in its midst, over a bus whose queues have moved. -/
def Xs.h2 (x : Xs) : List Blk := [x.blk, .cells true (x.b.s.dev 0 (.gs 2 0 x.b.s.nr x.b.cr) (.gs 5 0 x.b.s.ni x.b.ci) (.gs 6 0 x.b.s.no x.b.co)) 0, x.b.rb, .dead, .dead, x.b.ib, x.b.ob]
def Xs.sz (x : Xs) : Nat := if x.i.op ≥ 86 then 8 else 4
def extV (v : B64) (n : Nat) : B64 := if n = 8 then v else extB v (8 * n)
end Go.Anv
namespace Go.Proofs.YtdlpmbghocabbaaGreatDoor
open Go Go.Anv
set_option maxRecDepth 100000 in
theorem widthsA : Does TB 85 [] [] (fun v h' => v = .s (.map 0) ∧ h' = [.map (ents widL)]) := by
  refine fnX_does TB Tryz.func85 rfl (by decide) (fun O on hO => ?_)
  repeat (refine need_intro (by first | exact fun h => h | exact nt | exact an2 | exact an3 | rfl | (simp; done) | fail) ?_)
  exact Ends.same ⟨rfl, rfl⟩ (Nat.le_of_ble_eq_true rfl)
theorem renM_ents (ρ : Nat → Nat) (L : List (Int × Int)) : renM ρ (ents L) = ents L := by
  unfold ents
  induction L with
  | nil => rfl
  | cons p L ih => simp only [List.map_cons, renM, ih, renV, renE]
/-- The sizes, in whatever state; the list is behind a name. -/
theorem widthsB (h : List Blk) : Does TB 85 [] h (fun v h' => ∃ L : List (Int × Int), (∀ op, 11 ≤ op → op ≤ 21 → assoc op L = some (widN op : Int)) ∧ v = .s (.map h.length) ∧ h' = h ++ [.map (ents L)]) := by
  refine ((Does.frame widthsA [] (h := h) List.nodup_nil (by rintro v h' ⟨_, rfl⟩; exact ⟨.inl rfl, trivial⟩) trivial).mono ?_)
  rintro v h'' ⟨_, _, ⟨rfl, rfl⟩, rfl, rfl⟩
  refine ⟨widL, fun op h1 h2 => wid_assoc ⟨h1, h2⟩, rfl, ?_⟩
  show h ++ [.map (renM _ (ents widL))] = _
  rw [renM_ents]
theorem extA (v : B64) (n : Nat) (hn : n = 1 ∨ n = 2 ∨ n = 4 ∨ n = 8) (h : List Blk) : Does TB 88 [.s (.int .u64 v.toNat), .s (.int .i64 ((8 * n : Nat) : Int))] h (fun r h' => r = .s (.int .u64 (extV v n).toNat) ∧ h' = h) := by
  unfold extV
  rcases hn with rfl | rfl | rfl | rfl
  · exact extendA v 8 (by decide) (by decide) h
  · exact extendA v 16 (by decide) (by decide) h
  · exact extendA v 32 (by decide) (by decide) h
  · exact extendA64 v h
theorem lowA (v : B64) (n : Nat) (hn : n = 1 ∨ n = 2 ∨ n = 4 ∨ n = 8) (h : List Blk) : Does TB 91 [.s (.int .u64 v.toNat), .s (.int .i64 n)] h (fun r h' => r = .s (.int .u64 (lowN v (8 * n)).toNat) ∧ h' = h) := by
  refine fnX_pure TB Tryz.func91 rfl (by decide) rfl _ rfl (fun O on => ?_) h
  have e : IntKind.i64.wrap (IntKind.i64.wrap (8 * (n : Int)) - 1) = ((0 + 8 * n - 1 : Nat) : Int) := by
    rw [i64_in (x := 8 * (n : Int)) (by omega) (by omega), i64_in (by omega) (by omega)]; omega
  have hb := bitsA v 0 (8 * n) (by omega) (by omega)
  rw [show bitsV v 0 (8 * n) = lowN v (8 * n) from by unfold bitsV; rw [BitVec.ushiftRight_zero]] at hb
  repeat (refine need_intro (by first | exact fun h => h | exact nt | exact an2 | exact an3 | rfl | (simp; done) | fail) ?_)
  refine Does.args (b := [.s (.int .u64 v.toNat), .s (.int .i64 ((0 + 8 * n - 1 : Nat) : Int)), .s (.int .i64 ((0 : Nat) : Int))]) ⟨eqvE_refl _, ⟨rfl, e⟩, eqvE_refl _, trivial⟩ ?_
  refine (hb _).mono ?_
  rintro _ _ ⟨rfl, rfl⟩
  repeat (refine need_intro (by first | exact fun h => h | exact nt | exact an2 | exact an3 | rfl | (simp; done) | fail) ?_)
  exact eqvE_refl _
set_option maxRecDepth 100000 in
theorem sizeA (x : Xs) : Does TB 99 [.s (.ptr 0 0)] x.h (fun v h' => v = .s (.int .i64 x.sz) ∧ h' = x.h) := by
  refine fnX_does TB Tryz.func99 rfl (by decide) (fun O on hO => ?_)
  unfold Xs.sz
  repeat (refine need_intro (by first | exact fun h => h | exact nt | exact an2 | exact an3 | rfl | (simp; done) | fail) ?_)
  refine ifB_intro (fun g => ?_) (fun g => ?_)
  · rw [if_pos (of_decide_eq_true g)]
    exact Ends.same ⟨rfl, rfl⟩ (Nat.le_of_ble_eq_true rfl)
  · rw [if_neg (of_decide_eq_false g)]
    exact Ends.same ⟨rfl, rfl⟩ (Nat.le_of_ble_eq_true rfl)
set_option maxRecDepth 100000 in
theorem i_ecall (x : Xs) (hm : x.c.mode = 0 ∨ x.c.mode = 3) : DoesP TB 61 [.s (.ptr 0 0)] x.h (both (fun _ _ => False) (fun v h' => v = faultE ⟨true, if x.c.mode = 0 then 8#64 else 11#64, 0#64⟩ ∧ h' = x.h)) := by
  refine fnXP_does TB Tryz.func61 rfl (by decide) (fun O on hO => ?_)
  repeat (refine need_intro (by first | exact fun h => h | exact nt | exact an2 | exact an3 | rfl | (simp; done) | fail) ?_)
  refine ifB_intro (fun g => ?_) (fun g => ?_)
  · have g : x.c.mode = 0 := beq_iff_eq.1 g
    rw [if_pos g]
    refine DoesP.atn (stop_spec 8#64 0#64) [] rfl trivial (by decide) ?_ ?_
    · rintro v h' hq
      unfold both at hq
      split at hq
      · exact hq.elim
      · obtain ⟨rfl, rfl⟩ := hq; trivial
      · exact hq.elim
    rintro v h' hq
    unfold both at hq
    split at hq
    · exact hq.elim
    · obtain ⟨rfl, rfl⟩ := hq
      exact Ends.thr (Ends.ro (H := x.h) rfl (eqvE_refl _) rfl)
    · exact hq.elim
  · have g : ¬ x.c.mode = 0 := by rwa [beq_eq_false_iff_ne] at g
    rw [if_neg g]
    refine DoesP.atn (stop_spec 11#64 0#64) [] rfl trivial (by decide) ?_ ?_
    · rintro v h' hq
      unfold both at hq
      split at hq
      · exact hq.elim
      · obtain ⟨rfl, rfl⟩ := hq; trivial
      · exact hq.elim
    rintro v h' hq
    unfold both at hq
    split at hq
    · exact hq.elim
    · obtain ⟨rfl, rfl⟩ := hq
      exact Ends.thr (Ends.ro (H := x.h) rfl (eqvE_refl _) rfl)
    · exact hq.elim
set_option maxRecDepth 100000 in
theorem i_ebreak (x : Xs) : DoesP TB 62 [.s (.ptr 0 0)] x.h (both (fun _ _ => False) (fun v h' => v = faultE ⟨true, 3#64, x.c.pc⟩ ∧ h' = x.h)) := by
  refine fnXP_does TB Tryz.func62 rfl (by decide) (fun O on hO => ?_)
  repeat (refine need_intro (by first | exact fun h => h | exact nt | exact an2 | exact an3 | rfl | (simp; done) | fail) ?_)
  refine DoesP.atn (stop_spec 3#64 x.c.pc) [] rfl trivial (by decide) ?_ ?_
  · rintro v h' hq
    unfold both at hq
    split at hq
    · exact hq.elim
    · obtain ⟨rfl, rfl⟩ := hq; trivial
    · exact hq.elim
  rintro v h' hq
  unfold both at hq
  split at hq
  · exact hq.elim
  · obtain ⟨rfl, rfl⟩ := hq
    exact Ends.thr (Ends.ro (H := x.h) rfl (eqvE_refl _) rfl)
  · exact hq.elim
end Go.Proofs.YtdlpmbghocabbaaGreatDoor

/- The deferred closure of exec.Do, where nothing was raised. Contract of a function. -/
namespace Go.Proofs.YtdlpmbghocabbaaGreatDoor
open Go Go.Anv Go.RowKit
theorem catch_idle (v0 v1 v2 : Value) (w : World) :
    CallsD Tryz.prog 30 #[v0, v1, v2] .returning w fun e u' w' => e = .returned (.tuple #[]) ∧ u' = .returning ∧ w' = w := by
  refine callsD_of_wpS Tryz.func30 rfl fun c₀ cs hu => ?_
  apply wpS_seq
  apply wpS_region
  simp [wpOpsS, go_sem, recoverD, hu, Tryz.ntmps30, Exit.thenS]
  apply wpS_seq
  apply wpS_seq
  apply wpS_region
  simp [wpOpsS, go_sem, Exit.thenS]
  refine wpS_cond (t := true) (by simp [Act.eval, Array.replicate]) ?_
  simp only [if_true]
  refine wpS_of_wp (wp_ret ?_)
  cases c₀
  simp_all [bodyPostS, results, Tryz.results30, Exit.thenS]
theorem catch_spec (a b c : EV) (h : List Blk) : DoesD TB 30 [a, b, c] h (fun v h' => v = .tuple [] ∧ h' = h) := by
  refine ⟨⟨_, Tryz.func30, by kernel_rfl, by kernel_rfl⟩, fun E w vs S Z ha => ?_⟩
  obtain ⟨l⟩ := vs
  simp only [denT] at ha
  obtain ⟨v0, _, rfl, _, v1, _, rfl, _, v2, _, rfl, _, rfl⟩ := ha
  refine (catch_idle v0 v1 v2 w).mono ?_
  rintro e u' w' ⟨rfl, rfl, rfl⟩
  refine ⟨rfl, _, .tuple [], h, E, rfl, ?_, S, Since.refl _ _ _, rfl, rfl⟩
  exact ⟨_, rfl, rfl⟩
end Go.Proofs.YtdlpmbghocabbaaGreatDoor

/- The deferred closure of exec.Do, where something was thrown. Contract of a function. -/
namespace Go.Anv
open Go
def cpuZ : CpuV := ⟨0#64, fun _ => 0#64, 0, false, 0#64, 0#64, 0#64, 0#64, 0#64, 0#64, 0#64, 0#64, 0#64, 0#64, 0#64, 0#64, fun _ => 0#8, fun _ => 0#64, false, 0#64, 0⟩
def trapped (t : TrapV) : DoneV := { done0 with trap := t }
end Go.Anv
namespace Go.Proofs.YtdlpmbghocabbaaGreatDoor
open Go Go.Anv
set_option maxRecDepth 100000 in
set_option maxHeartbeats 1000000 in
theorem catchR (b0 b1 b2 b3 b5 b8 : Blk) (c : CpuV) (t : TrapV) : DoesR TB 30 [.s (.ptr 4 0), .s (.ptr 6 0), .s (.ptr 7 0)] [b0, b1, b2, b3, .cells true c.segs 0, b5, .cells true cpuZ.segs 0, .cells true done0.segs 0, b8] (faultE t)
    (fun v h' => v = .tuple [] ∧ ∃ B, h' = [b0, b1, b2, b3, .cells true c.segs 0, b5, .cells true c.segs 0, .cells true (trapped t).segs 0, b8, B]) := by
  refine fnXR_does TB Tryz.func30 rfl (by decide) (fun O on hO => ?_)
  repeat (refine need_intro (by first | exact fun h => h | exact nt | exact an2 | exact an3 | rfl | (simp; done) | fail) ?_)
  refine draw_to on ?tt1 ?_ ?_
  rotate_left 1
  · refine draw_but [0, 1, 2, 3, 5, 6, 7, 8] on rfl (fun _ _ h => h) ?_
    repeat' (first | refine need_intro (by first | exact fun h => h | exact nt | exact an2 | exact an3 | rfl | (simp; done) | fail) ?_ | refine And.intro ?_ ?_)
    all_goals (refine toK_id ?_; rw [hO]; exact Nat.le_of_ble_eq_true rfl)
  exact Ends.same ⟨rfl, _, rfl⟩ (Nat.le_of_ble_eq_true rfl)
end Go.Proofs.YtdlpmbghocabbaaGreatDoor

/- The engine: a heap that says more, for calls that may throw. Plain theorem. -/
namespace Go.Anv
open Go
theorem DoesP.heq {T : Tbl} {f : FuncId} {args : List EV} {h b : List Blk} {Q : EV → List Blk → Prop} (e : eqvH h b) (d : DoesP T f args b Q) : DoesP T f args h Q := by
  have back : ∀ {E : Emb} {w w' : World} {x : Ending}, Sim E h w → Post E b w Q x w' → Post E h w Q x w' := fun {E w w' x} S p => by
    obtain ⟨v, y, h', E'', h1, h2, h3, h4, h5⟩ := p
    exact ⟨v, y, h', E'', h1, h2, h3, ((Since.refl E h w).eqv e).trans S.n (S.eqv e).n h4, h5⟩
  refine ⟨?_⟩
  rcases d.go with ⟨h1, h2⟩ | d
  · exact .inl ⟨h1, fun E w vs S Z ha => (h2 E w vs (S.eqv e) (Z.since ((Since.refl E h w).eqv e)) ha).mono fun _ _ p => back S p⟩
  · exact .inr (d.heq e)
end Go.Anv

/- exec.Do, of an instruction that moves no queue. Contract of a function. -/
namespace Go.Anv
open Go
/-- An instruction that is begun. -/
def begunX (c : CpuV) (d : Dev) (i : InV) : Xs := ⟨c, i, c.pc + BitVec.ofInt 64 i.len, done0, d⟩
def CpuV.goto (c : CpuV) (a : B64) : CpuV := { c with pc := a }
def doE (c : CpuV) (d : DoneV) : EV := .tuple [.agg c.segs, .agg d.segs]
end Go.Anv
namespace Go.Proofs.YtdlpmbghocabbaaGreatDoor
open Go Go.Anv
/-- What stands in the table of bodies. -/
def bodyF (op : Nat) : SV := match bodiesS[op]? with
  | some (.one v) => v
  | _ => .nilfunc
theorem getS_ones : ∀ (l : List Seg) (n : Nat), l.all (fun x => match x with | .one _ => true | _ => false) = true → getS l n = (l[n]?).bind fun x => match x with | .one v => some v | _ => none
  | [], n, _ => by simp [getS]
  | .one v :: r, 0, _ => rfl
  | .one v :: r, n + 1, h => by
    simp only [List.all_cons, Bool.true_and] at h
    simp only [getS, List.getElem?_cons_succ]
    exact getS_ones r n h
  | .ints k m f :: r, n, h => by simp at h
theorem body_part {op : Nat} {g : FuncId} (hb : bodyF op = .func (.func g) [] []) : partX TB 82 bodiesS (op * 1) = .ok (.s (.func (.func g) [] [])) := by
  have h1 : getS bodiesS op = some (.func (.func g) [] []) := by
    rw [getS_ones bodiesS op (by decide)]
    unfold bodyF at hb
    split at hb
    · rename_i v hv
      rw [hv, hb]; rfl
    · cases hb
  rw [Nat.mul_one]
  show (match getS bodiesS op with | some v => PR.ok (.s v) | none => .fail) = _
  rw [h1]
/-- What an instruction's body leaves: behind it (J), or thrown (L). -/
def bodyQ (d : Dev) (J : Xs → Bool → Prop) (L : TrapV → Prop) : EV → List Blk → Prop :=
  both (fun v h' => ∃ x m, J x m ∧ v = .tuple [] ∧ (m = false ∧ h' = x.h ∨ m = true ∧ h' = x.h2)) (fun v h' => ∃ (t : TrapV) (y : Xs), L t ∧ v = faultE t ∧ h' = ({ y with b := d } : Xs).h)
theorem bodyQ_ro {d : Dev} {J : Xs → Bool → Prop} {L : TrapV → Prop} {x : Xs} : ∀ v h', bodyQ d J L v h' → roOk x.h h' := by
  intro v h' hq
  unfold bodyQ both at hq
  split at hq
  · obtain ⟨y, m, _, _, ⟨_, rfl⟩ | ⟨_, rfl⟩⟩ := hq
    · exact ⟨.inl rfl, .inl rfl, .inl rfl, .inl rfl, .inl rfl, trivial⟩
    · exact ⟨.inl rfl, .inl rfl, .inl rfl, .inr (.inl rfl), .inr (.inl rfl), .inl rfl, .inl rfl, trivial⟩
  · obtain ⟨t, y, _, _, rfl⟩ := hq
    exact ⟨.inl rfl, .inl rfl, .inl rfl, .inl rfl, .inl rfl, trivial⟩
  · exact hq.elim
set_option maxRecDepth 100000 in
set_option maxHeartbeats 8000000 in
theorem do_gen (c : CpuV) (d : Dev) (i : InV) (hi : i.ok = true) (g : FuncId) (hb : bodyF i.op.toNat = .func (.func g) [] []) (J : Xs → Bool → Prop) (L : TrapV → Prop)
    (hg : DoesP TB g [.s (.ptr 0 0)] (begunX c.proper d i).h (bodyQ d J L)) :
    Does TB 12 [.agg c.segs, .s (.ptr 0 0), .agg i.segs] d.h (fun v h' => (∃ (x : Xs) (m : Bool), J x m ∧ v = doE (x.c.goto (x.next &&& ~~~1#64)) x.d ∧ (m = false ∧ h' = x.b.h ∨ m = true ∧ h' = x.b.h2)) ∨ (∃ t, L t ∧ v = doE c.proper (trapped t) ∧ h' = d.h)) := by
  refine fnXQ_does TB Tryz.func12 rfl (by decide) (fun O on hO => ?_)
  repeat (refine need_intro (by first | exact fun h => h | exact nt | exact an2 | exact an3 | rfl | (simp; done) | fail) ?_)
  refine (proper_spec c _).mono ?_
  rintro _ _ ⟨rfl, rfl⟩
  generalize c.proper = c at hg ⊢
  repeat (refine need_intro (by first | exact fun h => h | exact nt | exact an2 | exact an3 | rfl | (simp; done) | fail) ?_)
  refine ⟨⟨_, _, _, rfl⟩, fun O' on' hO' hle => ?_⟩
  repeat (refine need_intro (by first | exact fun h => h | exact nt | exact an2 | exact an3 | rfl | (simp; done) | fail) ?_)
  refine Does.p ?_
  refine (valid_spec i _).mono ?_
  rintro _ _ ⟨rfl, rfl⟩
  rw [hi]
  have hpart : partX TB 82 bodiesS (i.op.toNat * 1) = .ok (.s (.func (.func g) [] [])) := body_part hb
  have hop : 0 ≤ i.op ∧ i.op < (97 : Nat) := by unfold InV.ok at hi; simp at hi; omega
  have hl : IntKind.u64.wrap ((c.pc.toNat : Int) + IntKind.u64.wrap i.len) = ((c.pc + BitVec.ofInt 64 i.len).toNat : Int) := by rw [wrap_u64 i.len, add64]
  have and1 : ∀ v : B64, bitX .andNot .u64 (v.toNat : Int) 1 = ((v &&& ~~~1#64).toNat : Int) := fun v => by rw [andNot_u64, ofInt_toNat]; rfl
  refine (fun (key : ?kp) => draw_all on' ?hx) ?hk
  case hx =>
    repeat' (first | refine need_intro (by first | exact fun h => h | exact nt | exact an2 | exact an3 | rfl | (simp; done) | fail) ?_ | refine And.intro ?_ ?_ | (refine Does.p ?_; refine (bodies_spec _).mono ?_; rintro _ _ ⟨rfl, rfl⟩) | (refine ⟨0 ≤ i.op ∧ i.op < (97 : Nat), .s (.func (.func g) [] []), ?_, hop, ?_⟩; (· show (match partX TB 82 bodiesS (i.op.toNat * 1) with | .ok v => PR.need (0 ≤ i.op ∧ i.op < (97 : Nat)) v | _ => .fail) = _; rw [hpart])) | exact key)
  case hk =>
    refine DoesP.heq (b := [d.blk 1, d.rb, d.ib, d.ob, .cells true c.segs 0, .cells true i.segs 0, .cells true cpuZ.segs 0, .cells true done0.segs 0, .cells true (turnS c (.ptr 0 0) i (c.pc + BitVec.ofInt 64 i.len) done0) 0]) ⟨eqvB_refl _, eqvB_refl _, eqvB_refl _, eqvB_refl _, eqvB_refl _, eqvB_refl _, eqvB_refl _, eqvB_refl _, ⟨rfl, rfl, ?_⟩, trivial⟩ ?_
    · show eqvS _ _
      repeat' (first | exact eqvS_nil | refine eqvS_same ?_ | refine eqvS_int hl ?_)
    refine DoesP.atn hg [8, 0, 1, 2, 3] rfl ⟨rfl, rfl, rfl, rfl, rfl, trivial⟩ (by decide) bodyQ_ro ?_
    intro v' h' hq
    unfold bodyQ both at hq
    split at hq
    · obtain ⟨x, m, hJ, rfl, ⟨rfl, rfl⟩ | ⟨rfl, rfl⟩⟩ := hq
      · repeat (refine need_intro (by first | exact fun h => h | exact nt | exact an2 | exact an3 | rfl | (simp; done) | fail) ?_)
        refine draw_calm ?_
        refine draw_to on' ?tu1 ?_ ?_
        rotate_left 1
        · refine draw_but [6, 7] on' rfl (fun _ _ h => h) ?_
          repeat' (first | refine need_intro (by first | exact fun h => h | exact nt | exact an2 | exact an3 | rfl | (simp; done) | fail) ?_ | refine And.intro ?_ ?_)
          all_goals (refine toK_id ?_; rw [hO']; exact Nat.le_of_ble_eq_true rfl)
        refine (catch_spec _ _ _ _).mono ?_
        rintro _ _ ⟨rfl, rfl⟩
        repeat (refine need_intro (by first | exact fun h => h | exact nt | exact an2 | exact an3 | rfl | (simp; done) | fail) ?_)
        refine ⟨doE (x.c.goto (x.next &&& ~~~1#64)) x.d, x.b.h, [0, 1, 2, 3], .inl ⟨x, _, hJ, rfl, .inl ⟨rfl, rfl⟩⟩, by decide, ⟨rfl, rfl, rfl, rfl, trivial⟩, ⟨?_, eqvE_refl _, trivial⟩, ⟨⟨_, rfl, eqvB_refl _⟩, ⟨_, rfl, eqvB_refl _⟩, ⟨_, rfl, eqvB_refl _⟩, ⟨_, rfl, eqvB_refl _⟩, trivial⟩⟩
        show eqvS _ _
        repeat' (first | exact eqvS_nil | refine eqvS_same ?_ | refine eqvS_int (and1 _) ?_)
      · repeat (refine need_intro (by first | exact fun h => h | exact nt | exact an2 | exact an3 | rfl | (simp; done) | fail) ?_)
        refine draw_calm ?_
        refine draw_to on' ?tu2 ?_ ?_
        rotate_left 1
        · refine draw_but [6, 7] on' rfl (fun _ _ h => h) ?_
          repeat' (first | refine need_intro (by first | exact fun h => h | exact nt | exact an2 | exact an3 | rfl | (simp; done) | fail) ?_ | refine And.intro ?_ ?_)
          all_goals (refine toK_id ?_; rw [hO']; exact Nat.le_of_ble_eq_true rfl)
        refine (catch_spec _ _ _ _).mono ?_
        rintro _ _ ⟨rfl, rfl⟩
        repeat (refine need_intro (by first | exact fun h => h | exact nt | exact an2 | exact an3 | rfl | (simp; done) | fail) ?_)
        refine ⟨doE (x.c.goto (x.next &&& ~~~1#64)) x.d, x.b.h2, [0, 1, 2, 3, 9, 10], .inl ⟨x, _, hJ, rfl, .inr ⟨rfl, rfl⟩⟩, by decide, ⟨rfl, rfl, rfl, rfl, trivial⟩, ⟨?_, eqvE_refl _, trivial⟩, ⟨⟨_, rfl, eqvB_refl _⟩, ⟨_, rfl, eqvB_refl _⟩, ⟨_, rfl, eqvB_refl _⟩, ⟨_, rfl, eqvB_refl _⟩, ⟨_, rfl, eqvB_refl _⟩, ⟨_, rfl, eqvB_refl _⟩, trivial⟩⟩
        show eqvS _ _
        repeat' (first | exact eqvS_nil | refine eqvS_same ?_ | refine eqvS_int (and1 _) ?_)
    · obtain ⟨t, y, hL, rfl, rfl⟩ := hq
      refine (catchR _ _ _ _ _ _ c t).mono ?_
      rintro _ _ ⟨rfl, B, rfl⟩
      repeat (refine need_intro (by first | exact fun h => h | exact nt | exact an2 | exact an3 | rfl | (simp; done) | fail) ?_)
      exact ⟨doE c (trapped t), d.h, [0, 1, 2, 3], .inr ⟨t, hL, rfl, rfl⟩, by decide, ⟨rfl, rfl, rfl, rfl, trivial⟩, eqvE_refl _, ⟨⟨_, rfl, eqvB_refl _⟩, ⟨_, rfl, eqvB_refl _⟩, ⟨_, rfl, eqvB_refl _⟩, ⟨_, rfl, eqvB_refl _⟩, trivial⟩⟩
    · exact hq.elim
/-- An instruction that surely goes through, and moves no queue. -/
theorem do_plain (c : CpuV) (d : Dev) (i : InV) (hi : i.ok = true) (g : FuncId) (hb : bodyF i.op.toNat = .func (.func g) [] []) (x' : Xs)
    (hg : Does TB g [.s (.ptr 0 0)] (begunX c.proper d i).h (fun v h' => v = .tuple [] ∧ h' = x'.h)) :
    Does TB 12 [.agg c.segs, .s (.ptr 0 0), .agg i.segs] d.h (fun v h' => v = doE (x'.c.goto (x'.next &&& ~~~1#64)) x'.d ∧ h' = x'.b.h) := by
  refine (do_gen c d i hi g hb (fun x m => x = x' ∧ m = false) (fun _ => False) (Does.p (hg.mono ?_))).mono ?_
  · rintro v h' ⟨rfl, rfl⟩
    exact ⟨x', false, ⟨rfl, rfl⟩, rfl, .inl ⟨rfl, rfl⟩⟩
  · rintro v h' (⟨x, m, ⟨rfl, rfl⟩, rfl, ⟨_, rfl⟩ | ⟨h, _⟩⟩ | ⟨_, h, _⟩)
    · exact ⟨rfl, rfl⟩
    · cases h
    · exact h.elim
end Go.Proofs.YtdlpmbghocabbaaGreatDoor

/- exec.Do of jumps, branches, register instructions. Contracts of functions. -/
namespace Go.Anv
open Go
theorem InV.fit {i : InV} (h : i.ok = true) : i.Fit := by
  unfold InV.ok at h
  simp at h
  obtain ⟨_, _, h1, h2, h3, h4, h5, h6, _⟩ := h
  exact ⟨h1, h2, h3, h4, h5, h6⟩
def Xs.after (x : Xs) : CpuV := x.c.goto (x.next &&& ~~~1#64)
end Go.Anv
namespace Go.Proofs.YtdlpmbghocabbaaGreatDoor
open Go Go.Anv
theorem do_jalr (c : CpuV) (d : Dev) (i : InV) (hi : i.ok = true) (ho : i.op = 4) : Does TB 12 [.agg c.segs, .s (.ptr 0 0), .agg i.segs] d.h (fun v h' => v = doE (begunX c.proper d i).jalr.after (begunX c.proper d i).jalr.d ∧ h' = d.h) := by
  refine (do_plain c d i hi 54 (by rw [ho]; rfl) (begunX c.proper d i).jalr (i_jalr _ (InV.fit hi))).mono ?_
  rintro v h' ⟨rfl, rfl⟩
  exact ⟨rfl, rfl⟩
theorem do_branch (c : CpuV) (d : Dev) (i : InV) (hi : i.ok = true) (ho : 5 ≤ i.op ∧ i.op ≤ 10) : Does TB 12 [.agg c.segs, .s (.ptr 0 0), .agg i.segs] d.h (fun v h' => v = doE (begunX c.proper d i).branch.after (begunX c.proper d i).branch.d ∧ h' = d.h) := by
  have hb : bodyF i.op.toNat = .func (.func 55) [] [] := by
    have : i.op = 5 ∨ i.op = 6 ∨ i.op = 7 ∨ i.op = 8 ∨ i.op = 9 ∨ i.op = 10 := by omega
    rcases this with h | h | h | h | h | h <;> rw [h] <;> rfl
  refine (do_plain c d i hi _ hb (begunX c.proper d i).branch (i_branch _ (InV.fit hi) ho)).mono ?_
  rintro v h' ⟨rfl, rfl⟩
  refine ⟨rfl, ?_⟩
  unfold Xs.branch
  split <;> rfl
def immOp (op : Int) : Prop := 22 ≤ op ∧ op ≤ 34
theorem do_imm (c : CpuV) (d : Dev) (i : InV) (hi : i.ok = true) (ho : 22 ≤ i.op ∧ i.op ≤ 34) : Does TB 12 [.agg c.segs, .s (.ptr 0 0), .agg i.segs] d.h (fun v h' => ∃ x : Xs, x = (begunX c.proper d i).put (compV (plainN i.op.toNat) (begunX c.proper d i).r1 (begunX c.proper d i).imm) ∧ v = doE x.after x.d ∧ h' = d.h) := by
  have hb : bodyF i.op.toNat = .func (.func 58) [] [] := by
    have : i.op = 22 ∨ i.op = 23 ∨ i.op = 24 ∨ i.op = 25 ∨ i.op = 26 ∨ i.op = 27 ∨ i.op = 28 ∨ i.op = 29 ∨ i.op = 30 ∨ i.op = 31 ∨ i.op = 32 ∨ i.op = 33 ∨ i.op = 34 := by omega
    rcases this with h | h | h | h | h | h | h | h | h | h | h | h | h <;> rw [h] <;> rfl
  refine (do_plain c d i hi _ hb _ (i_immediate _ (InV.fit hi) (.inl ⟨ho.1, by show i.op ≤ 49; omega⟩))).mono ?_
  rintro v h' ⟨rfl, rfl⟩
  exact ⟨_, rfl, rfl, rfl⟩
end Go.Proofs.YtdlpmbghocabbaaGreatDoor

/- A bus of a state, as the laws of layer 12 make it; a new bus. Contracts of functions. -/
namespace Go.Anv
open Go
/-- The bus that is made of a state. -/
def devOf (s : BusV) (l : Lists) (cr ci co : Nat) : Dev := ⟨s, l.ram, l.inp, l.out, cr, ci, co⟩
def s64 : BusV := { nr := 64, msip := 0#32, cmp := 18446744073709551615#64, now := 0#64, ext := false, soft := false, ier := 0#8, lcr := 0#8, mcr := 0#8, scratch := 0#8, overrun := false, ni := 0, no := 0, off := 0, code := 0 }
def dev64 : Dev := ⟨s64, fun _ => 0#8, fun _ => 0#8, fun _ => 0#8, 64, 0, 0⟩
end Go.Anv
namespace Go.Proofs.YtdlpmbghocabbaaGreatDoor
open Go Go.Anv
theorem num12_spec (e : Int) (h : List Blk) : Does TB 26 [.s (.int .i64 e)] h (fun v h' => v = .s (.int .i64 e) ∧ h' = h) := by
  refine fnX_pure TB Tryz.func26 rfl (by decide) rfl _ rfl (fun O on => ?_) h
  exact eqvE_refl _
set_option maxRecDepth 100000 in
theorem state12_spec (s : BusV) (l : Lists) (cr ci co : Nat) (hnr : s.nr ≤ 140737488355328) (hni : s.ni ≤ 140737488355328) (hno : s.no ≤ 140737488355328) :
    Does TB 25 [.agg (s.segs (.gs 0 0 s.nr cr) (.gs 1 0 s.ni ci) (.gs 2 0 s.no co))] (l.blks s) (fun v h' => ∃ c3 c4 c5, s.nr ≤ c3 ∧ s.ni ≤ c4 ∧ s.no ≤ c5 ∧ v = .agg (s.segs (.gs 3 0 s.nr c3) (.gs 4 0 s.ni c4) (.gs 5 0 s.no c5)) ∧
      h' = l.blks s ++ [bblk true s.nr l.ram (c3 - s.nr), bblk true s.ni l.inp (c4 - s.ni), bblk true s.no l.out (c5 - s.no)]) := by
  refine fnX_does TB Tryz.func25 rfl (by decide) (fun O on hO => ?_)
  refine need_intro ⟨by show 0 + s.nr ≤ s.nr; omega, rfl, rfl, room5 _ (by show 0 + s.nr ≤ _; omega)⟩ ?_
  intro c3 hc3
  have hc3 : 0 + s.nr ≤ c3 := hc3
  refine need_intro ⟨by show 0 + s.ni ≤ s.ni; omega, rfl, rfl, room5 _ (by show 0 + s.ni ≤ _; omega)⟩ ?_
  intro c4 hc4
  have hc4 : 0 + s.ni ≤ c4 := hc4
  refine need_intro ⟨by show 0 + s.no ≤ s.no; omega, rfl, rfl, room5 _ (by show 0 + s.no ≤ _; omega)⟩ ?_
  intro c5 hc5
  have hc5 : 0 + s.no ≤ c5 := hc5
  refine need_intro rfl ?_
  have z : ∀ n : Nat, 0 + n = n := Nat.zero_add
  rw [z] at hc3 hc4 hc5
  refine ⟨_, _, [0, 1, 2, 6, 8, 10], ⟨c3, c4, c5, hc3, hc4, hc5, rfl, rfl⟩, by decide, ⟨rfl, rfl, rfl, trivial⟩, ?_, ⟨⟨_, rfl, eqvB_refl _⟩, ⟨_, rfl, eqvB_refl _⟩, ⟨_, rfl, eqvB_refl _⟩, ⟨_, rfl, ⟨rfl, ?_, ⟨⟨rfl, z _, ?_⟩, trivial⟩⟩⟩, ⟨_, rfl, ⟨rfl, ?_, ⟨⟨rfl, z _, ?_⟩, trivial⟩⟩⟩, ⟨_, rfl, ⟨rfl, ?_, ⟨⟨rfl, z _, ?_⟩, trivial⟩⟩⟩, trivial⟩⟩
  · show eqvS _ _
    repeat' (first | exact eqvS_nil | refine eqvS_same ?_ | refine eqvS_gs ⟨rfl, rfl, z _, rfl⟩ ?_)
  · show (c3 - (0 + s.nr)) * 1 = c3 - s.nr
    rw [z, Nat.mul_one]
  · exact cat_zero l.ram
  · show (c4 - (0 + s.ni)) * 1 = c4 - s.ni
    rw [z, Nat.mul_one]
  · exact cat_zero l.inp
  · show (c5 - (0 + s.no)) * 1 = c5 - s.no
    rw [z, Nat.mul_one]
  · exact cat_zero l.out
theorem made12_no (s : BusV) (l : Lists) (cr ci co : Nat) (hni : s.ni < 2 ^ 62) (hno : s.no < 2 ^ 62) (hnr : s.nr < 2 ^ 62) (hc : s.can = false) :
    Does TB 9 [.agg (s.segs (.gs 0 0 s.nr cr) (.gs 1 0 s.ni ci) (.gs 2 0 s.no co))] (l.blks s) (fun v h' => v = .tuple [.s .nilptr, .s (.bool false)] ∧ h' = l.blks s) := by
  refine fnX_does TB Tryz.func9 rfl (by decide) (fun O on hO => ?_)
  have hcan := canBe_spec s l cr ci co hni hno hnr
  rw [hc] at hcan
  repeat (refine need_intro (by first | exact fun h => h | exact nt | exact an2 | exact an3 | rfl | (simp; done) | fail) ?_)
  refine Does.atc (hcan) [0, 1, 2] rfl ⟨rfl, rfl, rfl, trivial⟩ (by decide) ?_
  repeat (refine need_intro (by first | exact fun h => h | exact nt | exact an2 | exact an3 | rfl | (simp; done) | fail) ?_)
  exact Ends.ro (H := l.blks s) rfl (eqvE_refl _) rfl
theorem made12_yes (s : BusV) (l : Lists) (cr ci co : Nat) (hc : s.can = true) :
    Does TB 9 [.agg (s.segs (.gs 0 0 s.nr cr) (.gs 1 0 s.ni ci) (.gs 2 0 s.no co))] (l.blks s) (fun v h' => ∃ c3 c4 c5, s.nr ≤ c3 ∧ s.ni ≤ c4 ∧ s.no ≤ c5 ∧ v = .tuple [.s (.ptr 3 0), .s (.bool true)] ∧
      h' = l.blks s ++ [(devOf s l c3 c4 c5).blk 4, (devOf s l c3 c4 c5).rb, (devOf s l c3 c4 c5).ib, (devOf s l c3 c4 c5).ob]) := by
  refine fnX_does TB Tryz.func9 rfl (by decide) (fun O on hO => ?_)
  have hb : s.nr ≤ 65536 ∧ s.ni ≤ 64 ∧ s.no ≤ 4096 := by unfold BusV.can at hc; simp at hc; omega
  have hcan := canBe_spec s l cr ci co (by omega) (by omega) (by omega)
  rw [hc] at hcan
  repeat (refine need_intro (by first | exact fun h => h | exact nt | exact an2 | exact an3 | rfl | (simp; done) | fail) ?_)
  refine Does.atc (hcan) [0, 1, 2] rfl ⟨rfl, rfl, rfl, trivial⟩ (by decide) ?_
  repeat (refine need_intro (by first | exact fun h => h | exact nt | exact an2 | exact an3 | rfl | (simp; done) | fail) ?_)
  refine Does.atn (state12_spec s l cr ci co (by omega) (by omega) (by omega)) [0, 1, 2] rfl ⟨rfl, rfl, rfl, trivial⟩ (by decide) ?_ ?_
  · rintro v h' ⟨c3, c4, c5, _, _, _, _, rfl⟩
    exact ⟨.inr (.inr rfl), .inr (.inr rfl), .inr (.inr rfl), .inl rfl, .inl rfl, .inl rfl, trivial⟩
  rintro v h' ⟨c3, c4, c5, h3, h4, h5, rfl, rfl⟩
  repeat (refine need_intro (by first | exact fun h => h | exact nt | exact an2 | exact an3 | rfl | (simp; done) | fail) ?_)
  refine Does.atn (from_yes s { l with mr := true, sr := c3 - s.nr, mi := true, si := c4 - s.ni, mo := true, so := c5 - s.no } c3 c4 c5 hc) [4, 5, 6] rfl ⟨rfl, rfl, rfl, trivial⟩ (by decide) ?_ ?_
  · rintro v h' ⟨d3, d4, d5, _, _, _, _, rfl⟩
    exact ⟨.inr (.inr rfl), .inr (.inr rfl), .inr (.inr rfl), .inl rfl, .inl rfl, .inl rfl, .inl rfl, trivial⟩
  rintro v h' ⟨d3, d4, d5, g3, g4, g5, rfl, rfl⟩
  repeat (refine need_intro (by first | exact fun h => h | exact nt | exact an2 | exact an3 | rfl | (simp; done) | fail) ?_)
  refine (num12_spec _ _).mono ?_
  rintro _ _ ⟨rfl, rfl⟩
  repeat (refine need_intro (by first | exact fun h => h | exact nt | exact an2 | exact an3 | rfl | (simp; done) | fail) ?_)
  exact ⟨_, l.blks s ++ [(devOf s l d3 d4 d5).blk 4, (devOf s l d3 d4 d5).rb, (devOf s l d3 d4 d5).ib, (devOf s l d3 d4 d5).ob], [0, 1, 2, 7, 8, 9, 10], ⟨d3, d4, d5, g3, g4, g5, rfl, rfl⟩, by decide, ⟨rfl, rfl, rfl, trivial⟩, eqvE_refl _, ⟨⟨_, rfl, eqvB_refl _⟩, ⟨_, rfl, eqvB_refl _⟩, ⟨_, rfl, eqvB_refl _⟩, ⟨_, rfl, eqvB_refl _⟩, ⟨_, rfl, eqvB_refl _⟩, ⟨_, rfl, eqvB_refl _⟩, ⟨_, rfl, eqvB_refl _⟩, trivial⟩⟩
theorem new64 : Does TB 27 [.s (.int .i64 64)] [] (fun v h' => v = .tuple [.s (.ptr 0 0), .s (.int .i64 0)] ∧ h' = dev64.h) := by
  have h0 : Does TB 27 [.s (.int .i64 64)] [] (fun v h' => v = .tuple [.s (.ptr 0 0), .s (.int .i64 0)] ∧ h' = [.cells true (s64.dev 0 (.gs 1 0 64 64) .nilslice .nilslice) 0, bblk true 64 (fun _ => 0#8) 0]) := by
    refine fnX_does TB Tryz.func27 rfl (by decide) (fun O on hO => ?_)
    repeat (refine need_intro (by first | exact fun h => h | exact nt | exact an2 | exact an3 | rfl | (simp; done) | fail) ?_)
    refine (fits_spec 64 _).mono ?_
    rintro _ _ ⟨rfl, rfl⟩
    repeat (refine need_intro (by first | (decide) | exact fun h => h | exact nt | exact an2 | exact an3 | rfl | (simp; done) | fail) ?_)
    exact ⟨_, _, [0, 1], ⟨rfl, rfl⟩, by decide, trivial, eqvE_refl _, ⟨⟨_, rfl, ⟨rfl, rfl, ⟨⟨rfl, rfl, rfl, rfl⟩, eqvS_refl _⟩⟩⟩, ⟨_, rfl, eqvB_refl _⟩, trivial⟩⟩
  refine (Does.ghH .u8 (bfun fun _ => 0#8) 0 rfl (Does.ghH .u8 (bfun fun _ => 0#8) 0 rfl h0)).mono ?_
  rintro v h' ⟨rfl, rfl⟩
  exact ⟨rfl, rfl⟩
end Go.Proofs.YtdlpmbghocabbaaGreatDoor
