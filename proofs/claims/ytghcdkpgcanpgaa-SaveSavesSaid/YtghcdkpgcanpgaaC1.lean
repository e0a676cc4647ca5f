/- Proper Cpus: the program's and the document's. No condition: contracts of functions. -/
import Derived.Test.YtghcdkpgcanpgaaS1
set_option linter.unusedSimpArgs false
namespace Go.Anv
open Go
def cfgOf (c : B8) : B8 := if c &&& 0x9f#8 &&& 1#8 = 0#8 then c &&& 0x9f#8 &&& ~~~2#8 else c &&& 0x9f#8
def addrBits : B64 := 0x3fffffffffffff#64
def pmpSeg (cfg : Nat → B8) (addr : Nat → B64) : List Seg := [.ints .u8 16 (bfun cfg), .ints .u64 16 (wfun addr)]
def resSeg (v : Bool) (a : B64) (s : Int) : List Seg := [.one (.bool v), .one (.int .u64 a.toNat), .one (.int .i64 s)]
/-- May it be a reservation? -/
def resOk (v : Bool) (a : B64) (s : Int) : Bool := v && (decide (s = 4) && decide (a.toNat % 4 = 0) || decide (s = 8) && decide (a.toNat % 8 = 0))
def statusOf (m : B64) : B64 := (m &&& 2228360#64) ||| (if m &&& 6144#64 = 6144#64 then 6144#64 else 0#64) ||| 8589934592#64
def CpuV.proper (c : CpuV) : CpuV :=
  { c with
    pc := c.pc &&& ~~~1#64
    mepc := c.mepc &&& ~~~1#64
    x := fun j => if j = 0 then 0#64 else c.x j
    mode := if c.mode = 3 then 3 else 0
    mstatus := statusOf c.mstatus
    mtvec := c.mtvec &&& ~~~2#64
    mie := c.mie &&& 2184#64
    mcounteren := c.mcounteren &&& 7#64
    mcountinhibit := c.mcountinhibit &&& 5#64
    menvcfg := c.menvcfg &&& 1#64
    cfg := fun j => cfgOf (c.cfg j)
    addr := fun j => c.addr j &&& addrBits
    rvalid := resOk c.rvalid c.raddr c.rsize
    raddr := if resOk c.rvalid c.raddr c.rsize then c.raddr else 0#64
    rsize := if resOk c.rvalid c.raddr c.rsize then c.rsize else 0 }
theorem mask_k : ∀ i, i < 64 → (6144#64).getLsbD i = (i == 11 || i == 12) := by decide
theorem mask_c : ∀ i, i < 64 → (2234504#64).getLsbD i = ((2228360#64).getLsbD i || (i == 11 || i == 12)) := by decide
theorem mask_d : (2228360#64).getLsbD 11 = false ∧ (2228360#64).getLsbD 12 = false := by decide
theorem mpp_bits (m : B64) : ((m &&& 2234504#64) >>> 11 &&& 3#64 = 1#64 ∨ (m &&& 2234504#64) >>> 11 &&& 3#64 = 2#64) ↔ m.getLsbD 11 ≠ m.getLsbD 12 := by
  have h0 : (m &&& 2234504#64) >>> 11 &&& 3#64 = m >>> 11 &&& 3#64 := by
    apply BitVec.eq_of_getLsbD_eq
    intro i hi
    have h3 : ∀ i, i < 64 → (3#64).getLsbD i = true → i = 0 ∨ i = 1 := by decide
    simp only [BitVec.getLsbD_and, BitVec.getLsbD_ushiftRight]
    cases h : (3#64).getLsbD i with
    | false => simp
    | true =>
      rcases h3 i hi h with rfl | rfl
      · have : (2234504#64).getLsbD (11 + 0) = true := by decide
        simp [this]
      · have : (2234504#64).getLsbD (11 + 1) = true := by decide
        simp [this]
  rw [h0]
  have hx : (m >>> 11 &&& 3#64).toNat = m.toNat / 2048 % 4 := by
    rw [BitVec.toNat_and, BitVec.toNat_ushiftRight, Nat.shiftRight_eq_div_pow]
    exact Nat.and_two_pow_sub_one_eq_mod _ 2
  have h11 : m.getLsbD 11 = decide (m.toNat / 2048 % 2 = 1) := by
    show m.toNat.testBit 11 = _
    rw [Nat.testBit_eq_decide_div_mod_eq]
  have h12 : m.getLsbD 12 = decide (m.toNat / 4096 % 2 = 1) := by
    show m.toNat.testBit 12 = _
    rw [Nat.testBit_eq_decide_div_mod_eq]
  rw [h11, h12, ← BitVec.toNat_inj, ← BitVec.toNat_inj, hx]
  have e1 : (1#64).toNat = 1 := rfl
  have e2 : (2#64).toNat = 2 := rfl
  rw [e1, e2, ne_eq, decide_eq_decide]
  omega
theorem mpp_full (m : B64) : m &&& 6144#64 = 6144#64 ↔ (m.getLsbD 11 = true ∧ m.getLsbD 12 = true) := by
  constructor
  · intro h
    have h1 := congrArg (fun x : B64 => x.getLsbD 11) h
    have h2 := congrArg (fun x : B64 => x.getLsbD 12) h
    simp only [BitVec.getLsbD_and, mask_k 11 (by decide), mask_k 12 (by decide)] at h1 h2
    have k1 : (11 == 11 || 11 == 12) = true := by decide
    have k2 : (12 == 11 || 12 == 12) = true := by decide
    rw [k1, Bool.and_true] at h1
    rw [k2, Bool.and_true] at h2
    exact ⟨h1, h2⟩
  · rintro ⟨h1, h2⟩
    apply BitVec.eq_of_getLsbD_eq
    intro i hi
    rw [BitVec.getLsbD_and, mask_k i hi]
    by_cases h : i = 11
    · subst h; simp [h1]
    · by_cases h' : i = 12
      · subst h'; simp [h2]
      · rw [beq_eq_false_iff_ne.2 h, beq_eq_false_iff_ne.2 h']
        simp only [Bool.or_false, Bool.and_false]
theorem status_yes (m : B64) (h : (m &&& 2234504#64) >>> 11 &&& 3#64 = 1#64 ∨ (m &&& 2234504#64) >>> 11 &&& 3#64 = 2#64) : m &&& 2234504#64 &&& ~~~6144#64 ||| 8589934592#64 = statusOf m := by
  have h := (mpp_bits m).1 h
  have hf : ¬ m &&& 6144#64 = 6144#64 := fun e => by
    obtain ⟨a, b⟩ := (mpp_full m).1 e
    exact h (a.trans b.symm)
  unfold statusOf
  rw [if_neg hf, BitVec.or_zero]
  congr 1
  apply BitVec.eq_of_getLsbD_eq
  intro i hi
  simp only [BitVec.getLsbD_and, BitVec.getLsbD_not, hi, decide_true, Bool.true_and, mask_k i hi, mask_c i hi]
  by_cases h1 : i = 11
  · subst h1; simp [mask_d.1]
  · by_cases h2 : i = 12
    · subst h2; simp [mask_d.2]
    · rw [beq_eq_false_iff_ne.2 h1, beq_eq_false_iff_ne.2 h2]
      simp only [Bool.or_false, Bool.not_false, Bool.and_true]
theorem status_no (m : B64) (h : ¬ ((m &&& 2234504#64) >>> 11 &&& 3#64 = 1#64 ∨ (m &&& 2234504#64) >>> 11 &&& 3#64 = 2#64)) : m &&& 2234504#64 ||| 8589934592#64 = statusOf m := by
  have h := fun e => h ((mpp_bits m).2 e)
  have heq : m.getLsbD 11 = m.getLsbD 12 := Classical.byContradiction h
  unfold statusOf
  congr 1
  apply BitVec.eq_of_getLsbD_eq
  intro i hi
  rw [BitVec.getLsbD_and, BitVec.getLsbD_or, BitVec.getLsbD_and, mask_c i hi]
  by_cases hf : m &&& 6144#64 = 6144#64
  · obtain ⟨a, b⟩ := (mpp_full m).1 hf
    rw [if_pos hf, mask_k i hi]
    by_cases h1 : i = 11
    · subst h1; rw [a, mask_d.1]; rfl
    · by_cases h2 : i = 12
      · subst h2; rw [b, mask_d.2]; rfl
      · rw [beq_eq_false_iff_ne.2 h1, beq_eq_false_iff_ne.2 h2]
        simp only [Bool.or_false]
  · rw [if_neg hf, BitVec.getLsbD_zero, Bool.or_false]
    have ha : m.getLsbD 11 = false := by
      cases hq : m.getLsbD 11 with
      | false => rfl
      | true => exact absurd ((mpp_full m).2 ⟨hq, by rw [← heq]; exact hq⟩) hf
    by_cases h1 : i = 11
    · subst h1; rw [ha]; rfl
    · by_cases h2 : i = 12
      · subst h2; rw [← heq, ha]; rfl
      · rw [beq_eq_false_iff_ne.2 h1, beq_eq_false_iff_ne.2 h2]
        simp only [Bool.or_false]
theorem toNat_ofInt_int {w : Nat} (a : BitVec w) (n : Int) (h0 : 0 ≤ n) (h1 : n < 2 ^ w) : ((a.toNat : Int) = n) ↔ a = BitVec.ofInt w n := by
  have := beq_lit a n h0 h1
  rw [Bool.eq_iff_iff, beq_iff_eq, beq_iff_eq] at this
  exact this
theorem and_low (a : B64) (k : Nat) (hk : k < 64) : a &&& BitVec.ofNat 64 (2 ^ k - 1) = 0#64 ↔ a.toNat % 2 ^ k = 0 := by
  rw [← BitVec.toNat_inj, BitVec.toNat_and, BitVec.toNat_ofNat, Nat.mod_eq_of_lt, Nat.and_two_pow_sub_one_eq_mod]
  · simp
  · have : 2 ^ k ≤ 2 ^ 63 := Nat.pow_le_pow_right (by decide) (by omega)
    have : 0 < 2 ^ k := Nat.two_pow_pos k
    omega
theorem rres_cond (v : Bool) (a : B64) (s : Int) : (bif bif !v then true else bif s != 4 then s != 8 else false then true else bif (a.toNat : Int).tmod 8 != 0 then bif s == 8 then true else (a.toNat : Int).tmod 4 != 0 else false) = !resOk v a s := by
  have e8 : (a.toNat : Int).tmod 8 = ((a.toNat % 8 : Nat) : Int) := rfl
  have e4 : (a.toNat : Int).tmod 4 = ((a.toNat % 4 : Nat) : Int) := rfl
  rw [e8, e4]
  unfold resOk
  cases v
  · rfl
  · by_cases h4 : s = 4
    · subst h4
      by_cases h : a.toNat % 4 = 0
      · simp [h]
      · have h8 : ¬ a.toNat % 8 = 0 := by omega
        have h8' : ¬ (a.toNat : Int) % 8 = 0 := by omega
        have h4' : ¬ (a.toNat : Int) % 4 = 0 := by omega
        simp [h, h8, h8', h4']
    · by_cases h8 : s = 8
      · subst h8
        by_cases h : a.toNat % 8 = 0
        · have h' : (a.toNat : Int) % 8 = 0 := by omega
          simp [h, h']
        · have h' : ¬ (a.toNat : Int) % 8 = 0 := by omega
          simp [h, h']
      · simp [h4, h8]
theorem resOk_valid {v : Bool} {a : B64} {s : Int} (h : resOk v a s = true) : v = true := by
  unfold resOk at h
  simp only [Bool.and_eq_true] at h
  exact h.1
theorem and_3 (a : B64) : a &&& 3#64 = 0#64 ↔ a.toNat % 4 = 0 := and_low a 2 (by decide)
theorem and_7 (a : B64) : a &&& 7#64 = 0#64 ↔ a.toNat % 8 = 0 := and_low a 3 (by decide)
theorem res_cond (v : Bool) (a : B64) (s : Int) : (bif bif !v then true else bif s != 4 then s != 8 else false then true else bitX .and .u64 (a.toNat : Int) (IntKind.u64.wrap (IntKind.i64.wrap (s - 1))) != 0) = !resOk v a s := by
  unfold resOk
  cases v
  · rfl
  · by_cases h4 : s = 4
    · subst h4
      have hw : IntKind.u64.wrap (IntKind.i64.wrap (4 - 1)) = 3 := by decide
      rw [hw, and_u64, ofInt_toNat]
      simp only [BitVec.reduceOfInt, bne_lit, Int.reduceLE, Int.reducePow, Int.reduceLT]
      have := and_3 a
      by_cases h : a.toNat % 4 = 0
      · simp [h, this.2 h]
      · have h' : ¬ a &&& 3#64 = 0#64 := fun e => h (this.1 e)
        simp [h, h']
    · by_cases h8 : s = 8
      · subst h8
        have hw : IntKind.u64.wrap (IntKind.i64.wrap (8 - 1)) = 7 := by decide
        rw [hw, and_u64, ofInt_toNat]
        simp only [BitVec.reduceOfInt, bne_lit, Int.reduceLE, Int.reducePow, Int.reduceLT]
        have := and_7 a
        by_cases h : a.toNat % 8 = 0
        · simp [h, this.2 h]
        · have h' : ¬ a &&& 7#64 = 0#64 := fun e => h (this.1 e)
          simp [h, h']
      · simp [h4, h8]
end Go.Anv
namespace Go.Proofs.Ytghcdkpgcanpgaa
open Go Go.Anv
theorem byteOf_spec (c : B8) (h : List Blk) : Does TB 104 [.s (.int .u8 c.toNat)] h (fun v h' => v = .s (.int .u8 (cfgOf c).toNat) ∧ h' = h) := by
  refine fnX_pure TB Try.func104 rfl (by decide) rfl _ rfl (fun O on => ?_) h
  refine ifB_intro (fun h1 => ?_) (fun h1 => ?_)
  · refine ⟨rfl, ?_⟩
    simp only [and_u8, andNot_u8, ofInt_toNat, BitVec.reduceOfInt, beq_lit, Int.reduceLE, Int.reducePow, Int.reduceLT, beq_iff_eq] at h1 ⊢
    simp only [cfgOf, if_pos h1]
  · refine ⟨rfl, ?_⟩
    simp only [and_u8, andNot_u8, ofInt_toNat, BitVec.reduceOfInt, beq_lit, Int.reduceLE, Int.reducePow, Int.reduceLT, beq_eq_false_iff_ne, ne_eq] at h1 ⊢
    simp only [cfgOf, if_neg h1]
theorem cleaned_spec (c : B8) (h : List Blk) : Does TB 105 [.s (.int .u8 c.toNat)] h (fun v h' => v = .s (.int .u8 (cfgOf c).toNat) ∧ h' = h) := by
  refine fnX_pure TB Try.func105 rfl (by decide) rfl _ rfl (fun O on => ?_) h
  refine ifB_intro (fun h1 => ?_) (fun h1 => ?_)
  · refine ⟨rfl, ?_⟩
    simp only [and_u8, andNot_u8, ofInt_toNat, BitVec.reduceOfInt, beq_lit, Int.reduceLE, Int.reducePow, Int.reduceLT, beq_iff_eq] at h1 ⊢
    simp only [cfgOf, if_pos h1]
  · refine ⟨rfl, ?_⟩
    simp only [and_u8, andNot_u8, ofInt_toNat, BitVec.reduceOfInt, beq_lit, Int.reduceLE, Int.reducePow, Int.reduceLT, beq_eq_false_iff_ne, ne_eq] at h1 ⊢
    simp only [cfgOf, if_neg h1]
/-- The first i entries made proper. -/
def cfgTo (i : Nat) (cfg : Nat → B8) (j : Nat) : B8 := if j < i then cfgOf (cfg j) else cfg j
def addrTo (i : Nat) (addr : Nat → B64) (j : Nat) : B64 := if j < i then addr j &&& addrBits else addr j
theorem cfgTo_step (i : Nat) (cfg : Nat → B8) (j : Nat) : (if j = i then ((cfgOf (cfgTo i cfg i)).toNat : Int) else bfun (cfgTo i cfg) j) = bfun (cfgTo (i + 1) cfg) j := by
  simp only [bfun, cfgTo]
  rcases Nat.lt_trichotomy j i with hj | hj | hj
  · rw [if_neg (by omega), if_pos hj, if_pos (by omega)]
  · subst hj; rw [if_pos rfl, if_neg (by omega), if_pos (by omega)]
  · rw [if_neg (by omega), if_neg (by omega), if_neg (by omega)]
theorem addrTo_step (i : Nat) (addr : Nat → B64) (j : Nat) : (if j = i then ((addrTo i addr i &&& addrBits).toNat : Int) else wfun (addrTo i addr) j) = wfun (addrTo (i + 1) addr) j := by
  simp only [wfun, addrTo]
  rcases Nat.lt_trichotomy j i with hj | hj | hj
  · rw [if_neg (by omega), if_pos hj, if_pos (by omega)]
  · subst hj; rw [if_pos rfl, if_neg (by omega), if_pos (by omega)]
  · rw [if_neg (by omega), if_neg (by omega), if_neg (by omega)]
theorem properP_spec (cfg : Nat → B8) (addr : Nat → B64) (h : List Blk) : Does TB 76 [.agg (pmpSeg cfg addr)] h (fun v h' => v = .agg (pmpSeg (fun j => cfgOf (cfg j)) (fun j => addr j &&& addrBits)) ∧ h' = h) := by
  refine fnX_pure TB Try.func76 rfl (by decide) rfl _ rfl (fun O on => ?_) h
  refine loop_by (A := Nat) on (fun i => [(4, .s (.int .i64 (i : Int)))]) (fun i => [.cells true (pmpSeg (cfgTo i cfg) (addrTo i addr)) 0, .cells true [.ints .u8 16 (fun _ => 0), .ints .u64 16 (fun _ => 0)] 0]) (fun i => i ≤ 16) (fun i => 16 - i) 0 (by omega) ?_ ?_
  · refine ⟨?_, ?_⟩
    · repeat' (first | exact eqvT_nil | refine eqvT_junk ?_ | refine eqvT_same ?_ | refine eqvT_int ?_ ?_)
    · refine ⟨⟨rfl, rfl, ⟨rfl, rfl, fun j _ => ?_⟩, ⟨rfl, rfl, fun j _ => ?_⟩, trivial⟩, eqvB_refl _, trivial⟩ <;> simp [cfgTo, addrTo, bfun, wfun]
  · intro i hi
    refine ifB_intro (fun h1 => ?_) (fun h1 => ?_)
    · have h1 : i < 16 := by have := of_decide_eq_true h1; omega
      refine need_intro (by omega) ?_
      refine need_intro (by omega) ?_
      refine (byteOf_spec _ _).mono ?_
      rintro v h' ⟨rfl, rfl⟩
      refine need_intro (by omega) ?_
      refine need_intro (by omega) ?_
      refine need_intro (by omega) ?_
      refine need_intro (by omega) ?_
      refine need_intro (by omega) ?_
      refine need_intro (by omega) ?_
      refine ⟨i + 1, by omega, by simp only; omega, ?_⟩
      refine ⟨?_, ?_⟩
      · repeat' (first | exact eqvT_nil | refine eqvT_junk ?_ | refine eqvT_same ?_ | refine eqvT_int ?_ ?_)
        rw [i64_in (by omega) (by omega)]; omega
      · refine ⟨⟨rfl, rfl, ⟨rfl, rfl, fun j _ => ?_⟩, ⟨rfl, rfl, fun j _ => ?_⟩, trivial⟩, eqvB_refl _, trivial⟩
        · simp only [Int.toNat_natCast]
          exact cfgTo_step i cfg j
        · simp only [Int.toNat_natCast]
          rw [show wfun (addrTo i addr) i = ((addrTo i addr i).toNat : Int) from rfl, and_u64, ofInt_toNat]
          exact addrTo_step i addr j
    · have h1 : i = 16 := by have := of_decide_eq_false h1; omega
      subst h1
      refine need_intro rfl ?_
      refine ⟨⟨rfl, rfl, fun j hj => ?_⟩, ⟨rfl, rfl, fun j hj => ?_⟩, trivial⟩ <;> simp [cfgTo, addrTo, bfun, wfun, hj]
theorem rproperP_spec (cfg : Nat → B8) (addr : Nat → B64) (h : List Blk) : Does TB 81 [.agg (pmpSeg cfg addr)] h (fun v h' => v = .agg (pmpSeg (fun j => cfgOf (cfg j)) (fun j => addr j &&& addrBits)) ∧ h' = h) := by
  refine fnX_pure TB Try.func81 rfl (by decide) rfl _ rfl (fun O on => ?_) h
  refine loop_by (A := Nat) on (fun i => [(3, .s (.int .i64 (i : Int)))]) (fun i => [.cells true (pmpSeg (cfgTo i cfg) (addrTo i addr)) 0, .cells true [.ints .u8 16 (fun _ => 0), .ints .u64 16 (fun _ => 0)] 0]) (fun i => i ≤ 16) (fun i => 16 - i) 0 (by omega) ?_ ?_
  · refine ⟨?_, ?_⟩
    · repeat' (first | exact eqvT_nil | refine eqvT_junk ?_ | refine eqvT_same ?_ | refine eqvT_int ?_ ?_)
    · refine ⟨⟨rfl, rfl, ⟨rfl, rfl, fun j _ => ?_⟩, ⟨rfl, rfl, fun j _ => ?_⟩, trivial⟩, eqvB_refl _, trivial⟩ <;> simp [cfgTo, addrTo, bfun, wfun]
  · intro i hi
    refine ifB_intro (fun h1 => ?_) (fun h1 => ?_)
    · have h1 : i < 16 := by have := of_decide_eq_true h1; omega
      refine need_intro (by omega) ?_
      refine need_intro (by omega) ?_
      refine (cleaned_spec _ _).mono ?_
      rintro v h' ⟨rfl, rfl⟩
      refine need_intro (by omega) ?_
      refine need_intro (by omega) ?_
      refine need_intro (by omega) ?_
      refine need_intro (by omega) ?_
      refine need_intro (by omega) ?_
      refine need_intro (by omega) ?_
      refine ⟨i + 1, by omega, by simp only; omega, ?_⟩
      refine ⟨?_, ?_⟩
      · repeat' (first | exact eqvT_nil | refine eqvT_junk ?_ | refine eqvT_same ?_ | refine eqvT_int ?_ ?_)
        rw [i64_in (by omega) (by omega)]; omega
      · refine ⟨⟨rfl, rfl, ⟨rfl, rfl, fun j _ => ?_⟩, ⟨rfl, rfl, fun j _ => ?_⟩, trivial⟩, eqvB_refl _, trivial⟩
        · simp only [Int.toNat_natCast]
          exact cfgTo_step i cfg j
        · simp only [Int.toNat_natCast]
          rw [show wfun (addrTo i addr) i = ((addrTo i addr i).toNat : Int) from rfl, and_u64, ofInt_toNat]
          exact addrTo_step i addr j
    · have h1 : i = 16 := by have := of_decide_eq_false h1; omega
      subst h1
      refine need_intro rfl ?_
      refine ⟨⟨rfl, rfl, fun j hj => ?_⟩, ⟨rfl, rfl, fun j hj => ?_⟩, trivial⟩ <;> simp [cfgTo, addrTo, bfun, wfun, hj]
theorem reservation_spec (v : Bool) (a : B64) (s : Int) (h : List Blk) :
    Does TB 77 [.agg (resSeg v a s)] h (fun r h' => r = .agg (resSeg (resOk v a s) (if resOk v a s then a else 0#64) (if resOk v a s then s else 0)) ∧ h' = h) := by
  refine fnX_pure TB Try.func77 rfl (by decide) rfl _ rfl (fun O on => ?_) h
  repeat (refine need_intro (by first | exact fun h => h | (simp; done) | grind) ?_)
  refine ifB_intro (fun h1 => ?_) (fun h1 => ?_)
  · rw [res_cond, Bool.not_eq_true'] at h1
    refine need_intro rfl ?_
    rw [h1]
    exact eqvE_refl _
  · rw [res_cond, Bool.not_eq_false'] at h1
    refine need_intro rfl ?_
    rw [h1]
    have hv : v = true := by
      unfold resOk at h1
      simp only [Bool.and_eq_true] at h1
      exact h1.1
    rw [hv]
    exact eqvE_refl _
theorem status_spec (m : B64) (h : List Blk) : Does TB 80 [.s (.int .u64 m.toNat)] h (fun v h' => v = .s (.int .u64 (statusOf m).toNat) ∧ h' = h) := by
  refine fnX_pure TB Try.func80 rfl (by decide) rfl _ rfl (fun O on => ?_) h
  refine need_intro (by decide) ?_
  repeat (refine need_intro (by first | exact fun h => h | (simp; done) | grind) ?_)
  have e1 : bitX .and .u64 (m.toNat : Int) 2234504 = ((m &&& 2234504#64).toNat : Int) := by rw [and_u64, ofInt_toNat]; rfl
  have e2 : bitX .and .u64 ((bitX .and .u64 (m.toNat : Int) 2234504).fdiv (2 ^ min (Int.toNat 11) IntKind.u64.bits)) 3 = (((m &&& 2234504#64) >>> 11 &&& 3#64).toNat : Int) := by
    rw [e1]
    have : (((m &&& 2234504#64).toNat : Int)).fdiv (2 ^ min (Int.toNat 11) IntKind.u64.bits) = (((m &&& 2234504#64) >>> 11).toNat : Int) := fdiv_pow _ 11
    rw [this, and_u64, ofInt_toNat]
    rfl
  refine ifB_intro (fun h1 => ?_) (fun h1 => ?_)
  · rw [e2] at h1
    simp only [Bool.cond_true_left, Bool.or_eq_true, beq_iff_eq, beq_lit, Int.reduceLE, Int.reducePow, Int.reduceLT, BitVec.reduceOfInt] at h1
    refine ⟨rfl, ?_⟩
    rw [e1, andNot_u64, ofInt_toNat, or_u64, ofInt_toNat]
    simp only [BitVec.reduceOfInt]
    rw [status_yes m h1]
  · rw [e2] at h1
    simp only [Bool.cond_true_left, Bool.or_eq_false_iff, beq_eq_false_iff_ne, beq_lit, Int.reduceLE, Int.reducePow, Int.reduceLT, BitVec.reduceOfInt] at h1
    refine ⟨rfl, ?_⟩
    rw [e1, or_u64, ofInt_toNat]
    simp only [BitVec.reduceOfInt]
    rw [status_no m (by simp only [not_or]; exact h1)]
theorem zero_first (x : Nat → B64) (j : Nat) : (if j = 0 then (0 : Int) else wfun x j) = wfun (fun j => if j = 0 then 0#64 else x j) j := by
  simp only [wfun]
  split <;> rfl
theorem mpp_nat (m : B64) : ((if m &&& 6144#64 = 6144#64 then (6144 : Int) else 0)) = ((if m &&& 6144#64 = 6144#64 then 6144#64 else 0#64 : B64).toNat : Int) := by split <;> rfl
set_option maxRecDepth 100000 in
theorem proper_spec (c : CpuV) (h : List Blk) : Does TB 38 [.agg c.segs] h (fun v h' => v = .agg c.proper.segs ∧ h' = h) := by
  refine fnX_pure TB Try.func38 rfl (by decide) rfl _ rfl (fun O on => ?_) h
  refine need_intro (by decide) ?_
  refine need_intro (by decide) ?_
  have hst : ∀ x : Int, x = (if c.mstatus &&& 6144#64 = 6144#64 then 6144 else 0) → bitX .or .u64 (bitX .or .u64 (bitX .and .u64 (c.mstatus.toNat : Int) 2228360) x) 8589934592 = ((statusOf c.mstatus).toNat : Int) := by
    rintro x rfl
    rw [mpp_nat, and_u64, or_u64]
    simp only [ofInt_toNat, or_u64, BitVec.reduceOfInt]
    rfl
  refine ifB_intro (fun h1 => ?_) (fun h1 => ?_) <;> refine ifB_intro (fun h2 => ?_) (fun h2 => ?_)
  all_goals
    refine (properP_spec c.cfg c.addr _).mono ?_
    rintro _ _ ⟨rfl, rfl⟩
    refine need_intro rfl ?_
    refine (reservation_spec c.rvalid c.raddr c.rsize _).mono ?_
    rintro _ _ ⟨rfl, rfl⟩
    refine need_intro rfl ?_
    refine need_intro rfl ?_
    rw [and_u64, ofInt_toNat] at h2
    simp only [BitVec.reduceOfInt, bne_lit, Int.reduceLE, Int.reducePow, Int.reduceLT, bne_iff_ne, bne_eq_false_iff_eq, ne_eq] at h1 h2
    show eqvS _ _
    repeat' (first | exact eqvS_nil | refine eqvS_same ?_ | refine eqvS_int ?_ ?_ | refine eqvS_ints ?_ ?_)
  all_goals first
    | (simp only [andNot_u64, and_u64, ofInt_toNat, BitVec.reduceOfInt]; rfl)
    | (intro j _; exact zero_first c.x j)
    | (refine hst _ ?_; simp [h2]; done)
    | (refine hst _ ?_; rw [and_u64, ofInt_toNat]; simp [h2]; done)
    | simp [CpuV.proper, h1]
set_option maxRecDepth 100000 in
theorem rproper_spec (c : CpuV) (h : List Blk) : Does TB 45 [.agg c.segs] h (fun v h' => v = .agg c.proper.segs ∧ h' = h) := by
  refine fnX_pure TB Try.func45 rfl (by decide) rfl _ rfl (fun O on => ?_) h
  refine need_intro (by decide) ?_
  refine need_intro (by decide) ?_
  refine ifB_intro (fun h1 => ?_) (fun h1 => ?_)
  all_goals
    refine (status_spec c.mstatus _).mono ?_
    rintro _ _ ⟨rfl, rfl⟩
    refine (rproperP_spec c.cfg c.addr _).mono ?_
    rintro _ _ ⟨rfl, rfl⟩
    refine need_intro rfl ?_
    refine need_intro rfl ?_
    repeat (refine need_intro (by first | exact fun h => h | (simp; done) | grind) ?_)
    refine ifB_intro (fun h2 => ?_) (fun h2 => ?_)
  all_goals
    rw [rres_cond] at h2
    simp only [Bool.not_eq_true', Bool.not_eq_false', bne_iff_ne, bne_eq_false_iff_eq, ne_eq] at h1 h2
    repeat (refine need_intro rfl ?_)
    show eqvS _ _
    repeat' (first | exact eqvS_nil | refine eqvS_same ?_ | refine eqvS_bool ?_ ?_ | refine eqvS_int ?_ ?_ | refine eqvS_ints ?_ ?_)
  all_goals first
    | (simp only [andNot_u64, and_u64, ofInt_toNat, BitVec.reduceOfInt]; rfl)
    | (intro j _; exact zero_first c.x j)
    | (simp [CpuV.proper, h1]; done)
    | (simp [CpuV.proper, h2]; done)
    | (simp only [CpuV.proper, h2]; exact resOk_valid h2)
end Go.Proofs.Ytghcdkpgcanpgaa
