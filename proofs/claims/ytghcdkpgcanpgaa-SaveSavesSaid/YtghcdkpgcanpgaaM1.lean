/- Machine numbers as bit vectors: what the walker's arithmetic comes to. Plain lemmas, no condition. -/
import Derived.Test.YtghcdkpgcanpgaaE7
namespace Go.Anv
open Go

theorem wrap_u8 (x : Int) : IntKind.u8.wrap x = ((BitVec.ofInt 8 x).toNat : Int) := by
  simp [IntKind.wrap, IntKind.bits, IntKind.signed, BitVec.toNat_ofInt]; omega
theorem wrap_u16 (x : Int) : IntKind.u16.wrap x = ((BitVec.ofInt 16 x).toNat : Int) := by
  simp [IntKind.wrap, IntKind.bits, IntKind.signed, BitVec.toNat_ofInt]; omega
theorem wrap_u32 (x : Int) : IntKind.u32.wrap x = ((BitVec.ofInt 32 x).toNat : Int) := by
  simp [IntKind.wrap, IntKind.bits, IntKind.signed, BitVec.toNat_ofInt]; omega
theorem wrap_u64 (x : Int) : IntKind.u64.wrap x = ((BitVec.ofInt 64 x).toNat : Int) := by
  simp [IntKind.wrap, IntKind.bits, IntKind.signed, BitVec.toNat_ofInt]; omega
theorem wrap_i64 (x : Int) : IntKind.i64.wrap x = (BitVec.ofInt 64 x).toInt := by
  simp [IntKind.wrap, IntKind.bits, IntKind.signed, BitVec.toInt_ofInt, Int.bmod]
  split <;> split <;> omega
theorem wrap_i32 (x : Int) : IntKind.i32.wrap x = (BitVec.ofInt 32 x).toInt := by
  simp [IntKind.wrap, IntKind.bits, IntKind.signed, BitVec.toInt_ofInt, Int.bmod]
  split <;> split <;> omega

/-- In range nothing is lost. -/
theorem i64_in {x : Int} (h1 : -9223372036854775808 ≤ x) (h2 : x ≤ 9223372036854775807) : IntKind.i64.wrap x = x := by
  simp [IntKind.wrap, IntKind.bits, IntKind.signed]
  omega

@[simp] theorem ofInt_toNat {w : Nat} (a : BitVec w) : BitVec.ofInt w (a.toNat : Int) = a := by simp

section
variable (x y : Int)
theorem and_u8 : bitX .and .u8 x y = ((BitVec.ofInt 8 x &&& BitVec.ofInt 8 y).toNat : Int) := by show IntKind.u8.wrap _ = _; rw [wrap_u8]; exact congrArg (fun z : BitVec 8 => (z.toNat : Int)) (ofInt_toNat _)
theorem or_u8 : bitX .or .u8 x y = ((BitVec.ofInt 8 x ||| BitVec.ofInt 8 y).toNat : Int) := by show IntKind.u8.wrap _ = _; rw [wrap_u8]; exact congrArg (fun z : BitVec 8 => (z.toNat : Int)) (ofInt_toNat _)
theorem xor_u8 : bitX .xor .u8 x y = ((BitVec.ofInt 8 x ^^^ BitVec.ofInt 8 y).toNat : Int) := by show IntKind.u8.wrap _ = _; rw [wrap_u8]; exact congrArg (fun z : BitVec 8 => (z.toNat : Int)) (ofInt_toNat _)
theorem andNot_u8 : bitX .andNot .u8 x y = ((BitVec.ofInt 8 x &&& ~~~BitVec.ofInt 8 y).toNat : Int) := by show IntKind.u8.wrap _ = _; rw [wrap_u8]; exact congrArg (fun z : BitVec 8 => (z.toNat : Int)) (ofInt_toNat _)
theorem and_u32 : bitX .and .u32 x y = ((BitVec.ofInt 32 x &&& BitVec.ofInt 32 y).toNat : Int) := by show IntKind.u32.wrap _ = _; rw [wrap_u32]; exact congrArg (fun z : BitVec 32 => (z.toNat : Int)) (ofInt_toNat _)
theorem or_u32 : bitX .or .u32 x y = ((BitVec.ofInt 32 x ||| BitVec.ofInt 32 y).toNat : Int) := by show IntKind.u32.wrap _ = _; rw [wrap_u32]; exact congrArg (fun z : BitVec 32 => (z.toNat : Int)) (ofInt_toNat _)
theorem xor_u32 : bitX .xor .u32 x y = ((BitVec.ofInt 32 x ^^^ BitVec.ofInt 32 y).toNat : Int) := by show IntKind.u32.wrap _ = _; rw [wrap_u32]; exact congrArg (fun z : BitVec 32 => (z.toNat : Int)) (ofInt_toNat _)
theorem andNot_u32 : bitX .andNot .u32 x y = ((BitVec.ofInt 32 x &&& ~~~BitVec.ofInt 32 y).toNat : Int) := by show IntKind.u32.wrap _ = _; rw [wrap_u32]; exact congrArg (fun z : BitVec 32 => (z.toNat : Int)) (ofInt_toNat _)
theorem and_u64 : bitX .and .u64 x y = ((BitVec.ofInt 64 x &&& BitVec.ofInt 64 y).toNat : Int) := by show IntKind.u64.wrap _ = _; rw [wrap_u64]; exact congrArg (fun z : BitVec 64 => (z.toNat : Int)) (ofInt_toNat _)
theorem or_u64 : bitX .or .u64 x y = ((BitVec.ofInt 64 x ||| BitVec.ofInt 64 y).toNat : Int) := by show IntKind.u64.wrap _ = _; rw [wrap_u64]; exact congrArg (fun z : BitVec 64 => (z.toNat : Int)) (ofInt_toNat _)
theorem xor_u64 : bitX .xor .u64 x y = ((BitVec.ofInt 64 x ^^^ BitVec.ofInt 64 y).toNat : Int) := by show IntKind.u64.wrap _ = _; rw [wrap_u64]; exact congrArg (fun z : BitVec 64 => (z.toNat : Int)) (ofInt_toNat _)
theorem andNot_u64 : bitX .andNot .u64 x y = ((BitVec.ofInt 64 x &&& ~~~BitVec.ofInt 64 y).toNat : Int) := by show IntKind.u64.wrap _ = _; rw [wrap_u64]; exact congrArg (fun z : BitVec 64 => (z.toNat : Int)) (ofInt_toNat _)
theorem ofInt64_nat (a : BitVec 64) : (BitVec.ofInt 64 (a.toNat : Int)).toInt = a.toInt := by rw [ofInt_toNat]
theorem and_i64 : bitX .and .i64 x y = (BitVec.ofInt 64 x &&& BitVec.ofInt 64 y).toInt := by show IntKind.i64.wrap _ = _; rw [wrap_i64]; exact ofInt64_nat _
theorem or_i64 : bitX .or .i64 x y = (BitVec.ofInt 64 x ||| BitVec.ofInt 64 y).toInt := by show IntKind.i64.wrap _ = _; rw [wrap_i64]; exact ofInt64_nat _
theorem xor_i64 : bitX .xor .i64 x y = (BitVec.ofInt 64 x ^^^ BitVec.ofInt 64 y).toInt := by show IntKind.i64.wrap _ = _; rw [wrap_i64]; exact ofInt64_nat _
theorem andNot_i64 : bitX .andNot .i64 x y = (BitVec.ofInt 64 x &&& ~~~BitVec.ofInt 64 y).toInt := by show IntKind.i64.wrap _ = _; rw [wrap_i64]; exact ofInt64_nat _
end

theorem fdiv_pow {w : Nat} (a : BitVec w) (n : Nat) : ((a.toNat : Int)).fdiv (2 ^ n) = ((a >>> n).toNat : Int) := by
  rw [BitVec.toNat_ushiftRight, Nat.shiftRight_eq_div_pow, Int.fdiv_eq_ediv_of_nonneg _ (by exact Int.le_of_lt (Int.pow_pos (by decide)))]
  simp

theorem mul_pow {w : Nat} (a : BitVec w) (n : Nat) : BitVec.ofInt w ((a.toNat : Int) * 2 ^ n) = a <<< n := by
  apply BitVec.eq_of_toNat_eq
  rw [BitVec.toNat_shiftLeft, Nat.shiftLeft_eq, BitVec.toNat_ofInt]
  have : ((a.toNat : Int) * 2 ^ n) = ((a.toNat * 2 ^ n : Nat) : Int) := by simp
  rw [this]
  have h2 : ((2 ^ w : Nat) : Int) = (2 ^ w : Int) := by simp
  rw [← Int.natCast_emod, Int.toNat_natCast]

theorem beq_nat {w : Nat} (a b : BitVec w) : ((a.toNat : Int) == (b.toNat : Int)) = (a == b) := by
  rw [Bool.eq_iff_iff, beq_iff_eq, beq_iff_eq, ← BitVec.toNat_inj]
  omega

theorem beq_lit {w : Nat} (a : BitVec w) (n : Int) (h0 : 0 ≤ n) (h1 : n < 2 ^ w) : ((a.toNat : Int) == n) = (a == BitVec.ofInt w n) := by
  rw [← beq_nat]
  have : ((BitVec.ofInt w n).toNat : Int) = n := by
    rw [BitVec.toNat_ofInt]
    have h2 : ((2 ^ w : Nat) : Int) = (2 ^ w : Int) := by simp
    rw [h2, Int.emod_eq_of_lt h0 h1, Int.toNat_of_nonneg h0]
  rw [this]

theorem bne_nat {w : Nat} (a b : BitVec w) : ((a.toNat : Int) != (b.toNat : Int)) = (a != b) := by rw [bne, bne, beq_nat]
theorem bne_lit {w : Nat} (a : BitVec w) (n : Int) (h0 : 0 ≤ n) (h1 : n < 2 ^ w) : ((a.toNat : Int) != n) = (a != BitVec.ofInt w n) := by rw [bne, bne, beq_lit a n h0 h1]

theorem lt_nat {w : Nat} (a b : BitVec w) : decide ((a.toNat : Int) < (b.toNat : Int)) = decide (a < b) := decide_eq_decide.2 (by rw [BitVec.lt_def]; omega)
theorem le_nat {w : Nat} (a b : BitVec w) : decide ((a.toNat : Int) ≤ (b.toNat : Int)) = decide (a ≤ b) := decide_eq_decide.2 (by rw [BitVec.le_def]; omega)
theorem gt_nat {w : Nat} (a b : BitVec w) : decide ((a.toNat : Int) > (b.toNat : Int)) = decide (b < a) := decide_eq_decide.2 (by rw [BitVec.lt_def]; omega)
theorem ge_nat {w : Nat} (a b : BitVec w) : decide ((a.toNat : Int) ≥ (b.toNat : Int)) = decide (b ≤ a) := decide_eq_decide.2 (by rw [BitVec.le_def]; omega)

end Go.Anv
