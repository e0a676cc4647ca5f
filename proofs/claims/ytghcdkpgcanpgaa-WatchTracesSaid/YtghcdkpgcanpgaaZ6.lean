/- Part 6 of the texts of this claim, merged: S1, C1, E15, E16, E17, P2, P3, P4, Q1, Q2, Q3. No condition: plain theorems, contracts of functions. -/
import Derived.Test.YtghcdkpgcanpgaaZ5

set_option linter.unusedSimpArgs false
set_option linter.unusedVariables false
/- Check of a whole: the program's and the document's. No condition: contracts of functions. -/
namespace Go.Anv
open Go
/-- A Cpu's plain values. -/
structure CpuV where
  pc : B64
  x : Nat → B64
  mode : Int
  waiting : Bool
  mstatus : B64
  mtvec : B64
  mie : B64
  mcounteren : B64
  mcountinhibit : B64
  menvcfg : B64
  mscratch : B64
  mepc : B64
  mcause : B64
  mtval : B64
  mcycle : B64
  minstret : B64
  cfg : Nat → B8
  addr : Nat → B64
  rvalid : Bool
  raddr : B64
  rsize : Int
def CpuV.segs (c : CpuV) : List Seg :=
  [.one (.int .u64 c.pc.toNat), .ints .u64 32 (wfun c.x), .one (.int .i64 c.mode), .one (.bool c.waiting), .one (.int .u64 c.mstatus.toNat), .one (.int .u64 c.mtvec.toNat), .one (.int .u64 c.mie.toNat), .one (.int .u64 c.mcounteren.toNat),
    .one (.int .u64 c.mcountinhibit.toNat), .one (.int .u64 c.menvcfg.toNat), .one (.int .u64 c.mscratch.toNat), .one (.int .u64 c.mepc.toNat), .one (.int .u64 c.mcause.toNat), .one (.int .u64 c.mtval.toNat), .one (.int .u64 c.mcycle.toNat), .one (.int .u64 c.minstret.toNat),
    .ints .u8 16 (bfun c.cfg), .ints .u64 16 (wfun c.addr), .one (.bool c.rvalid), .one (.int .u64 c.raddr.toNat), .one (.int .i64 c.rsize)]
theorem eqvS_gs {b o n c b' o' n' c' : Nat} {r r' : List Seg} (h1 : b = b' ∧ o = o' ∧ n = n' ∧ c = c') (h : eqvS r r') : eqvS (.one (.gs b o n c) :: r) (.one (.gs b' o' n' c') :: r') := ⟨h1, h⟩
/-- The cells of api.Whole. -/
def wsegs (c : CpuV) (s : BusV) (r i o : SV) : List Seg := c.segs ++ s.segs r i o
end Go.Anv
namespace Go.Proofs.Ytghcdkpgcanpgaa
open Go Go.Anv
theorem check_spec (c : CpuV) (s : BusV) (l : Lists) (cr ci co : Nat) (hni : s.ni < 2 ^ 62) (hno : s.no < 2 ^ 62) (hnr : s.nr < 2 ^ 62) :
    Does TB 13 [.agg (wsegs c s (.gs 0 0 s.nr cr) (.gs 1 0 s.ni ci) (.gs 2 0 s.no co))] (l.blks s) (fun v h' => v = .s (.int .i64 (if s.can then 0 else 162)) ∧ h' = l.blks s) := by
  refine fnX_does TB Try.func13 rfl (by decide) (fun O on hO => ?_)
  cases hc : s.can with
  | false =>
    refine Does.at (from_no s l cr ci co hni hno hnr hc) [0, 1, 2] rfl ⟨rfl, rfl, rfl, trivial⟩ (by decide) ?_ ?_
    · rintro v h' ⟨_, rfl⟩
      exact ⟨.inr (.inr rfl), .inr (.inr rfl), .inr (.inr rfl), trivial⟩
    · rintro v h' ⟨rfl, rfl⟩
      exact ⟨_, _, [0, 1, 2], ⟨rfl, rfl⟩, by decide, ⟨rfl, rfl, rfl, trivial⟩, eqvE_refl _, ⟨⟨_, rfl, eqvB_refl _⟩, ⟨_, rfl, eqvB_refl _⟩, ⟨_, rfl, eqvB_refl _⟩, trivial⟩⟩
  | true =>
    refine Does.at (from_yes s l cr ci co hc) [0, 1, 2] rfl ⟨rfl, rfl, rfl, trivial⟩ (by decide) ?_ ?_
    · rintro v h' ⟨c3, c4, c5, _, _, _, _, rfl⟩
      exact ⟨.inr (.inr rfl), .inr (.inr rfl), .inr (.inr rfl), .inl rfl, .inl rfl, .inl rfl, .inl rfl, trivial⟩
    · rintro v h' ⟨c3, c4, c5, _, _, _, rfl, rfl⟩
      exact ⟨_, _, [0, 1, 2], ⟨rfl, rfl⟩, by decide, ⟨rfl, rfl, rfl, trivial⟩, eqvE_refl _, ⟨⟨_, rfl, eqvB_refl _⟩, ⟨_, rfl, eqvB_refl _⟩, ⟨_, rfl, eqvB_refl _⟩, trivial⟩⟩
theorem rcheck_spec (c : CpuV) (s : BusV) (l : Lists) (cr ci co : Nat) (hni : s.ni < 2 ^ 62) (hno : s.no < 2 ^ 62) (hnr : s.nr < 2 ^ 62) :
    Does TB 15 [.agg (wsegs c s (.gs 0 0 s.nr cr) (.gs 1 0 s.ni ci) (.gs 2 0 s.no co))] (l.blks s) (fun v h' => v = .s (.int .i64 (if s.can then 0 else 162)) ∧ h' = l.blks s) := by
  refine fnX_does TB Try.func15 rfl (by decide) (fun O on hO => ?_)
  refine Does.at (canBe_spec s l cr ci co hni hno hnr) [0, 1, 2] rfl ⟨rfl, rfl, rfl, trivial⟩ (by decide) ?_ ?_
  · rintro v h' ⟨_, rfl⟩
    exact ⟨.inr (.inr rfl), .inr (.inr rfl), .inr (.inr rfl), trivial⟩
  · rintro v h' ⟨rfl, rfl⟩
    cases hc : s.can <;>
      exact ⟨_, _, [0, 1, 2], ⟨rfl, rfl⟩, by decide, ⟨rfl, rfl, rfl, trivial⟩, eqvE_refl _, ⟨⟨_, rfl, eqvB_refl _⟩, ⟨_, rfl, eqvB_refl _⟩, ⟨_, rfl, eqvB_refl _⟩, trivial⟩⟩
theorem num16_spec (e : Int) (h : List Blk) : Does TB 12 [.s (.int .i64 e)] h (fun v h' => v = .s (.int .i64 e) ∧ h' = h) := by
  refine fnX_pure TB Try.func12 rfl (by decide) rfl _ rfl (fun O on => ?_) h
  exact eqvE_refl _
theorem cat_zero {n : Nat} (q : Nat → B8) {f : Nat → Int} : ∀ j, j < 0 + n → catF 0 f (shf 0 (bfun q)) j = bfun q j := by
  intro j _
  unfold catF shf
  rw [if_neg (Nat.not_lt_zero j), Nat.sub_zero, Nat.zero_add]
theorem twin_spec (c : CpuV) (s : BusV) (l : Lists) (cr ci co : Nat) (hnr : s.nr ≤ 140737488355328) (hni : s.ni ≤ 140737488355328) (hno : s.no ≤ 140737488355328) :
    Does TB 14 [.agg (wsegs c s (.gs 0 0 s.nr cr) (.gs 1 0 s.ni ci) (.gs 2 0 s.no co))] (l.blks s) (fun v h' => ∃ c3 c4 c5, s.nr ≤ c3 ∧ s.ni ≤ c4 ∧ s.no ≤ c5 ∧ v = .agg (wsegs c s (.gs 3 0 s.nr c3) (.gs 4 0 s.ni c4) (.gs 5 0 s.no c5)) ∧
      h' = l.blks s ++ [bblk true s.nr l.ram (c3 - s.nr), bblk true s.ni l.inp (c4 - s.ni), bblk true s.no l.out (c5 - s.no)]) := by
  refine fnX_does TB Try.func14 rfl (by decide) (fun O on hO => ?_)
  refine need_intro ⟨by show 0 + s.nr ≤ s.nr; omega, rfl, rfl, room5 _ (by show 0 + s.nr ≤ _; omega)⟩ ?_
  intro c3 hc3
  have hc3 : 0 + s.nr ≤ c3 := hc3
  refine need_intro ⟨by show 0 + s.ni ≤ s.ni; omega, rfl, rfl, room5 _ (by show 0 + s.ni ≤ _; omega)⟩ ?_
  intro c4 hc4
  have hc4 : 0 + s.ni ≤ c4 := hc4
  refine need_intro ⟨by show 0 + s.no ≤ s.no; omega, rfl, rfl, room5 _ (by show 0 + s.no ≤ _; omega)⟩ ?_
  intro c5 hc5
  have hc5 : 0 + s.no ≤ c5 := hc5
  refine need_intro rfl ?_
  have z : ∀ n : Nat, 0 + n = n := Nat.zero_add
  rw [z] at hc3 hc4 hc5
  refine ⟨_, _, [0, 1, 2, 6, 8, 10], ⟨c3, c4, c5, hc3, hc4, hc5, rfl, rfl⟩, by decide, ⟨rfl, rfl, rfl, trivial⟩, ?_, ⟨⟨_, rfl, eqvB_refl _⟩, ⟨_, rfl, eqvB_refl _⟩, ⟨_, rfl, eqvB_refl _⟩, ⟨_, rfl, ⟨rfl, ?_, ⟨⟨rfl, z _, ?_⟩, trivial⟩⟩⟩, ⟨_, rfl, ⟨rfl, ?_, ⟨⟨rfl, z _, ?_⟩, trivial⟩⟩⟩, ⟨_, rfl, ⟨rfl, ?_, ⟨⟨rfl, z _, ?_⟩, trivial⟩⟩⟩, trivial⟩⟩
  · show eqvS _ _
    repeat' (first | exact eqvS_nil | refine eqvS_same ?_ | refine eqvS_gs ⟨rfl, rfl, z _, rfl⟩ ?_)
  · show (c3 - (0 + s.nr)) * 1 = c3 - s.nr
    rw [z, Nat.mul_one]
  · exact cat_zero l.ram
  · show (c4 - (0 + s.ni)) * 1 = c4 - s.ni
    rw [z, Nat.mul_one]
  · exact cat_zero l.inp
  · show (c5 - (0 + s.no)) * 1 = c5 - s.no
    rw [z, Nat.mul_one]
  · exact cat_zero l.out
theorem saveChecks_law (c : CpuV) (s : BusV) (l : Lists) (cr ci co : Nat) (hnr : s.nr ≤ 140737488355328) (hni : s.ni ≤ 140737488355328) (hno : s.no ≤ 140737488355328) :
    Does TB 5 [.agg (wsegs c s (.gs 0 0 s.nr cr) (.gs 1 0 s.ni ci) (.gs 2 0 s.no co))] (l.blks s) (fun v h' => v = .s (.bool true) ∧ h' = l.blks s) := by
  refine fnX_does TB Try.func5 rfl (by decide) (fun O on hO => ?_)
  refine draw_held on rfl (fun _ _ h => h) ?_
  refine Does.at (twin_spec c s l cr ci co hnr hni hno) [0, 1, 2] rfl ⟨rfl, rfl, rfl, trivial⟩ (by decide) ?_ ?_
  · rintro v h' ⟨c3, c4, c5, _, _, _, _, rfl⟩
    exact ⟨.inr (.inr rfl), .inr (.inr rfl), .inr (.inr rfl), .inl rfl, .inl rfl, .inl rfl, trivial⟩
  · rintro v h' ⟨c3, c4, c5, _, _, _, rfl, rfl⟩
    repeat (refine need_intro rfl ?_)
    refine Does.at (check_spec c s { l with mr := true, sr := c3 - s.nr, mi := true, si := c4 - s.ni, mo := true, so := c5 - s.no } c3 c4 c5 (by omega) (by omega) (by omega)) [4, 5, 6] rfl ⟨rfl, rfl, rfl, trivial⟩ (by decide) ?_ ?_
    · rintro v h' ⟨_, rfl⟩
      exact ⟨.inr (.inr rfl), .inr (.inr rfl), .inr (.inr rfl), trivial⟩
    · rintro v h' ⟨rfl, rfl⟩
      repeat (refine need_intro rfl ?_)
      refine (num16_spec _ _).mono ?_
      rintro v h' ⟨rfl, rfl⟩
      repeat (refine need_intro rfl ?_)
      refine Does.at (rcheck_spec c s l cr ci co (by omega) (by omega) (by omega)) [0, 1, 2] rfl ⟨rfl, rfl, rfl, trivial⟩ (by decide) ?_ ?_
      · rintro v h' ⟨_, rfl⟩
        exact ⟨.inr (.inr rfl), .inr (.inr rfl), .inr (.inr rfl), trivial⟩
      · rintro v h' ⟨rfl, rfl⟩
        repeat (refine need_intro rfl ?_)
        exact ⟨_, _, [0, 1, 2], ⟨rfl, rfl⟩, by decide, ⟨rfl, rfl, rfl, trivial⟩, (by show ((_ : Int) == _) = true; simp), ⟨⟨_, rfl, eqvB_refl _⟩, ⟨_, rfl, eqvB_refl _⟩, ⟨_, rfl, eqvB_refl _⟩, trivial⟩⟩
end Go.Proofs.Ytghcdkpgcanpgaa

/- Proper Cpus: the program's and the document's. No condition: contracts of functions. -/
set_option linter.unusedSimpArgs false
namespace Go.Anv
open Go
def cfgOf (c : B8) : B8 := if c &&& 0x9f#8 &&& 1#8 = 0#8 then c &&& 0x9f#8 &&& ~~~2#8 else c &&& 0x9f#8
def addrBits : B64 := 0x3fffffffffffff#64
def pmpSeg (cfg : Nat → B8) (addr : Nat → B64) : List Seg := [.ints .u8 16 (bfun cfg), .ints .u64 16 (wfun addr)]
def resSeg (v : Bool) (a : B64) (s : Int) : List Seg := [.one (.bool v), .one (.int .u64 a.toNat), .one (.int .i64 s)]
/-- May it be a reservation? -/
def resOk (v : Bool) (a : B64) (s : Int) : Bool := v && (decide (s = 4) && decide (a.toNat % 4 = 0) || decide (s = 8) && decide (a.toNat % 8 = 0))
def statusOf (m : B64) : B64 := (m &&& 2228360#64) ||| (if m &&& 6144#64 = 6144#64 then 6144#64 else 0#64) ||| 8589934592#64
def CpuV.proper (c : CpuV) : CpuV :=
  { c with
    pc := c.pc &&& ~~~1#64
    mepc := c.mepc &&& ~~~1#64
    x := fun j => if j = 0 then 0#64 else c.x j
    mode := if c.mode = 3 then 3 else 0
    mstatus := statusOf c.mstatus
    mtvec := c.mtvec &&& ~~~2#64
    mie := c.mie &&& 2184#64
    mcounteren := c.mcounteren &&& 7#64
    mcountinhibit := c.mcountinhibit &&& 5#64
    menvcfg := c.menvcfg &&& 1#64
    cfg := fun j => cfgOf (c.cfg j)
    addr := fun j => c.addr j &&& addrBits
    rvalid := resOk c.rvalid c.raddr c.rsize
    raddr := if resOk c.rvalid c.raddr c.rsize then c.raddr else 0#64
    rsize := if resOk c.rvalid c.raddr c.rsize then c.rsize else 0 }
theorem mask_k : ∀ i, i < 64 → (6144#64).getLsbD i = (i == 11 || i == 12) := by decide
theorem mask_c : ∀ i, i < 64 → (2234504#64).getLsbD i = ((2228360#64).getLsbD i || (i == 11 || i == 12)) := by decide
theorem mask_d : (2228360#64).getLsbD 11 = false ∧ (2228360#64).getLsbD 12 = false := by decide
theorem mpp_bits (m : B64) : ((m &&& 2234504#64) >>> 11 &&& 3#64 = 1#64 ∨ (m &&& 2234504#64) >>> 11 &&& 3#64 = 2#64) ↔ m.getLsbD 11 ≠ m.getLsbD 12 := by
  have h0 : (m &&& 2234504#64) >>> 11 &&& 3#64 = m >>> 11 &&& 3#64 := by
    apply BitVec.eq_of_getLsbD_eq
    intro i hi
    have h3 : ∀ i, i < 64 → (3#64).getLsbD i = true → i = 0 ∨ i = 1 := by decide
    simp only [BitVec.getLsbD_and, BitVec.getLsbD_ushiftRight]
    cases h : (3#64).getLsbD i with
    | false => simp
    | true =>
      rcases h3 i hi h with rfl | rfl
      · have : (2234504#64).getLsbD (11 + 0) = true := by decide
        simp [this]
      · have : (2234504#64).getLsbD (11 + 1) = true := by decide
        simp [this]
  rw [h0]
  have hx : (m >>> 11 &&& 3#64).toNat = m.toNat / 2048 % 4 := by
    rw [BitVec.toNat_and, BitVec.toNat_ushiftRight, Nat.shiftRight_eq_div_pow]
    exact Nat.and_two_pow_sub_one_eq_mod _ 2
  have h11 : m.getLsbD 11 = decide (m.toNat / 2048 % 2 = 1) := by
    show m.toNat.testBit 11 = _
    rw [Nat.testBit_eq_decide_div_mod_eq]
  have h12 : m.getLsbD 12 = decide (m.toNat / 4096 % 2 = 1) := by
    show m.toNat.testBit 12 = _
    rw [Nat.testBit_eq_decide_div_mod_eq]
  rw [h11, h12, ← BitVec.toNat_inj, ← BitVec.toNat_inj, hx]
  have e1 : (1#64).toNat = 1 := rfl
  have e2 : (2#64).toNat = 2 := rfl
  rw [e1, e2, ne_eq, decide_eq_decide]
  omega
theorem mpp_full (m : B64) : m &&& 6144#64 = 6144#64 ↔ (m.getLsbD 11 = true ∧ m.getLsbD 12 = true) := by
  constructor
  · intro h
    have h1 := congrArg (fun x : B64 => x.getLsbD 11) h
    have h2 := congrArg (fun x : B64 => x.getLsbD 12) h
    simp only [BitVec.getLsbD_and, mask_k 11 (by decide), mask_k 12 (by decide)] at h1 h2
    have k1 : (11 == 11 || 11 == 12) = true := by decide
    have k2 : (12 == 11 || 12 == 12) = true := by decide
    rw [k1, Bool.and_true] at h1
    rw [k2, Bool.and_true] at h2
    exact ⟨h1, h2⟩
  · rintro ⟨h1, h2⟩
    apply BitVec.eq_of_getLsbD_eq
    intro i hi
    rw [BitVec.getLsbD_and, mask_k i hi]
    by_cases h : i = 11
    · subst h; simp [h1]
    · by_cases h' : i = 12
      · subst h'; simp [h2]
      · rw [beq_eq_false_iff_ne.2 h, beq_eq_false_iff_ne.2 h']
        simp only [Bool.or_false, Bool.and_false]
theorem status_yes (m : B64) (h : (m &&& 2234504#64) >>> 11 &&& 3#64 = 1#64 ∨ (m &&& 2234504#64) >>> 11 &&& 3#64 = 2#64) : m &&& 2234504#64 &&& ~~~6144#64 ||| 8589934592#64 = statusOf m := by
  have h := (mpp_bits m).1 h
  have hf : ¬ m &&& 6144#64 = 6144#64 := fun e => by
    obtain ⟨a, b⟩ := (mpp_full m).1 e
    exact h (a.trans b.symm)
  unfold statusOf
  rw [if_neg hf, BitVec.or_zero]
  congr 1
  apply BitVec.eq_of_getLsbD_eq
  intro i hi
  simp only [BitVec.getLsbD_and, BitVec.getLsbD_not, hi, decide_true, Bool.true_and, mask_k i hi, mask_c i hi]
  by_cases h1 : i = 11
  · subst h1; simp [mask_d.1]
  · by_cases h2 : i = 12
    · subst h2; simp [mask_d.2]
    · rw [beq_eq_false_iff_ne.2 h1, beq_eq_false_iff_ne.2 h2]
      simp only [Bool.or_false, Bool.not_false, Bool.and_true]
theorem status_no (m : B64) (h : ¬ ((m &&& 2234504#64) >>> 11 &&& 3#64 = 1#64 ∨ (m &&& 2234504#64) >>> 11 &&& 3#64 = 2#64)) : m &&& 2234504#64 ||| 8589934592#64 = statusOf m := by
  have h := fun e => h ((mpp_bits m).2 e)
  have heq : m.getLsbD 11 = m.getLsbD 12 := Classical.byContradiction h
  unfold statusOf
  congr 1
  apply BitVec.eq_of_getLsbD_eq
  intro i hi
  rw [BitVec.getLsbD_and, BitVec.getLsbD_or, BitVec.getLsbD_and, mask_c i hi]
  by_cases hf : m &&& 6144#64 = 6144#64
  · obtain ⟨a, b⟩ := (mpp_full m).1 hf
    rw [if_pos hf, mask_k i hi]
    by_cases h1 : i = 11
    · subst h1; rw [a, mask_d.1]; rfl
    · by_cases h2 : i = 12
      · subst h2; rw [b, mask_d.2]; rfl
      · rw [beq_eq_false_iff_ne.2 h1, beq_eq_false_iff_ne.2 h2]
        simp only [Bool.or_false]
  · rw [if_neg hf, BitVec.getLsbD_zero, Bool.or_false]
    have ha : m.getLsbD 11 = false := by
      cases hq : m.getLsbD 11 with
      | false => rfl
      | true => exact absurd ((mpp_full m).2 ⟨hq, by rw [← heq]; exact hq⟩) hf
    by_cases h1 : i = 11
    · subst h1; rw [ha]; rfl
    · by_cases h2 : i = 12
      · subst h2; rw [← heq, ha]; rfl
      · rw [beq_eq_false_iff_ne.2 h1, beq_eq_false_iff_ne.2 h2]
        simp only [Bool.or_false]
theorem toNat_ofInt_int {w : Nat} (a : BitVec w) (n : Int) (h0 : 0 ≤ n) (h1 : n < 2 ^ w) : ((a.toNat : Int) = n) ↔ a = BitVec.ofInt w n := by
  have := beq_lit a n h0 h1
  rw [Bool.eq_iff_iff, beq_iff_eq, beq_iff_eq] at this
  exact this
theorem and_low (a : B64) (k : Nat) (hk : k < 64) : a &&& BitVec.ofNat 64 (2 ^ k - 1) = 0#64 ↔ a.toNat % 2 ^ k = 0 := by
  rw [← BitVec.toNat_inj, BitVec.toNat_and, BitVec.toNat_ofNat, Nat.mod_eq_of_lt, Nat.and_two_pow_sub_one_eq_mod]
  · simp
  · have : 2 ^ k ≤ 2 ^ 63 := Nat.pow_le_pow_right (by decide) (by omega)
    have : 0 < 2 ^ k := Nat.two_pow_pos k
    omega
theorem rres_cond (v : Bool) (a : B64) (s : Int) : (bif bif !v then true else bif s != 4 then s != 8 else false then true else bif (a.toNat : Int).tmod 8 != 0 then bif s == 8 then true else (a.toNat : Int).tmod 4 != 0 else false) = !resOk v a s := by
  have e8 : (a.toNat : Int).tmod 8 = ((a.toNat % 8 : Nat) : Int) := rfl
  have e4 : (a.toNat : Int).tmod 4 = ((a.toNat % 4 : Nat) : Int) := rfl
  rw [e8, e4]
  unfold resOk
  cases v
  · rfl
  · by_cases h4 : s = 4
    · subst h4
      by_cases h : a.toNat % 4 = 0
      · simp [h]
      · have h8 : ¬ a.toNat % 8 = 0 := by omega
        have h8' : ¬ (a.toNat : Int) % 8 = 0 := by omega
        have h4' : ¬ (a.toNat : Int) % 4 = 0 := by omega
        simp [h, h8, h8', h4']
    · by_cases h8 : s = 8
      · subst h8
        by_cases h : a.toNat % 8 = 0
        · have h' : (a.toNat : Int) % 8 = 0 := by omega
          simp [h, h']
        · have h' : ¬ (a.toNat : Int) % 8 = 0 := by omega
          simp [h, h']
      · simp [h4, h8]
theorem resOk_valid {v : Bool} {a : B64} {s : Int} (h : resOk v a s = true) : v = true := by
  unfold resOk at h
  simp only [Bool.and_eq_true] at h
  exact h.1
theorem and_3 (a : B64) : a &&& 3#64 = 0#64 ↔ a.toNat % 4 = 0 := and_low a 2 (by decide)
theorem and_7 (a : B64) : a &&& 7#64 = 0#64 ↔ a.toNat % 8 = 0 := and_low a 3 (by decide)
theorem res_cond (v : Bool) (a : B64) (s : Int) : (bif bif !v then true else bif s != 4 then s != 8 else false then true else bitX .and .u64 (a.toNat : Int) (IntKind.u64.wrap (IntKind.i64.wrap (s - 1))) != 0) = !resOk v a s := by
  unfold resOk
  cases v
  · rfl
  · by_cases h4 : s = 4
    · subst h4
      have hw : IntKind.u64.wrap (IntKind.i64.wrap (4 - 1)) = 3 := by decide
      rw [hw, and_u64, ofInt_toNat]
      simp only [BitVec.reduceOfInt, bne_lit, Int.reduceLE, Int.reducePow, Int.reduceLT]
      have := and_3 a
      by_cases h : a.toNat % 4 = 0
      · simp [h, this.2 h]
      · have h' : ¬ a &&& 3#64 = 0#64 := fun e => h (this.1 e)
        simp [h, h']
    · by_cases h8 : s = 8
      · subst h8
        have hw : IntKind.u64.wrap (IntKind.i64.wrap (8 - 1)) = 7 := by decide
        rw [hw, and_u64, ofInt_toNat]
        simp only [BitVec.reduceOfInt, bne_lit, Int.reduceLE, Int.reducePow, Int.reduceLT]
        have := and_7 a
        by_cases h : a.toNat % 8 = 0
        · simp [h, this.2 h]
        · have h' : ¬ a &&& 7#64 = 0#64 := fun e => h (this.1 e)
          simp [h, h']
      · simp [h4, h8]
end Go.Anv
namespace Go.Proofs.Ytghcdkpgcanpgaa
open Go Go.Anv
theorem byteOf_spec (c : B8) (h : List Blk) : Does TB 104 [.s (.int .u8 c.toNat)] h (fun v h' => v = .s (.int .u8 (cfgOf c).toNat) ∧ h' = h) := by
  refine fnX_pure TB Try.func104 rfl (by decide) rfl _ rfl (fun O on => ?_) h
  refine ifB_intro (fun h1 => ?_) (fun h1 => ?_)
  · refine ⟨rfl, ?_⟩
    simp only [and_u8, andNot_u8, ofInt_toNat, BitVec.reduceOfInt, beq_lit, Int.reduceLE, Int.reducePow, Int.reduceLT, beq_iff_eq] at h1 ⊢
    simp only [cfgOf, if_pos h1]
  · refine ⟨rfl, ?_⟩
    simp only [and_u8, andNot_u8, ofInt_toNat, BitVec.reduceOfInt, beq_lit, Int.reduceLE, Int.reducePow, Int.reduceLT, beq_eq_false_iff_ne, ne_eq] at h1 ⊢
    simp only [cfgOf, if_neg h1]
theorem cleaned_spec (c : B8) (h : List Blk) : Does TB 105 [.s (.int .u8 c.toNat)] h (fun v h' => v = .s (.int .u8 (cfgOf c).toNat) ∧ h' = h) := by
  refine fnX_pure TB Try.func105 rfl (by decide) rfl _ rfl (fun O on => ?_) h
  refine ifB_intro (fun h1 => ?_) (fun h1 => ?_)
  · refine ⟨rfl, ?_⟩
    simp only [and_u8, andNot_u8, ofInt_toNat, BitVec.reduceOfInt, beq_lit, Int.reduceLE, Int.reducePow, Int.reduceLT, beq_iff_eq] at h1 ⊢
    simp only [cfgOf, if_pos h1]
  · refine ⟨rfl, ?_⟩
    simp only [and_u8, andNot_u8, ofInt_toNat, BitVec.reduceOfInt, beq_lit, Int.reduceLE, Int.reducePow, Int.reduceLT, beq_eq_false_iff_ne, ne_eq] at h1 ⊢
    simp only [cfgOf, if_neg h1]
/-- The first i entries made proper. -/
def cfgTo (i : Nat) (cfg : Nat → B8) (j : Nat) : B8 := if j < i then cfgOf (cfg j) else cfg j
def addrTo (i : Nat) (addr : Nat → B64) (j : Nat) : B64 := if j < i then addr j &&& addrBits else addr j
theorem cfgTo_step (i : Nat) (cfg : Nat → B8) (j : Nat) : (if j = i then ((cfgOf (cfgTo i cfg i)).toNat : Int) else bfun (cfgTo i cfg) j) = bfun (cfgTo (i + 1) cfg) j := by
  simp only [bfun, cfgTo]
  rcases Nat.lt_trichotomy j i with hj | hj | hj
  · rw [if_neg (by omega), if_pos hj, if_pos (by omega)]
  · subst hj; rw [if_pos rfl, if_neg (by omega), if_pos (by omega)]
  · rw [if_neg (by omega), if_neg (by omega), if_neg (by omega)]
theorem addrTo_step (i : Nat) (addr : Nat → B64) (j : Nat) : (if j = i then ((addrTo i addr i &&& addrBits).toNat : Int) else wfun (addrTo i addr) j) = wfun (addrTo (i + 1) addr) j := by
  simp only [wfun, addrTo]
  rcases Nat.lt_trichotomy j i with hj | hj | hj
  · rw [if_neg (by omega), if_pos hj, if_pos (by omega)]
  · subst hj; rw [if_pos rfl, if_neg (by omega), if_pos (by omega)]
  · rw [if_neg (by omega), if_neg (by omega), if_neg (by omega)]
theorem properP_spec (cfg : Nat → B8) (addr : Nat → B64) (h : List Blk) : Does TB 76 [.agg (pmpSeg cfg addr)] h (fun v h' => v = .agg (pmpSeg (fun j => cfgOf (cfg j)) (fun j => addr j &&& addrBits)) ∧ h' = h) := by
  refine fnX_pure TB Try.func76 rfl (by decide) rfl _ rfl (fun O on => ?_) h
  refine loop_by (A := Nat) on (fun i => [(4, .s (.int .i64 (i : Int)))]) (fun i => [.cells true (pmpSeg (cfgTo i cfg) (addrTo i addr)) 0, .cells true [.ints .u8 16 (fun _ => 0), .ints .u64 16 (fun _ => 0)] 0]) (fun i => i ≤ 16) (fun i => 16 - i) 0 (by omega) ?_ ?_
  · refine ⟨?_, ?_⟩
    · repeat' (first | exact eqvT_nil | refine eqvT_junk ?_ | refine eqvT_same ?_ | refine eqvT_int ?_ ?_)
    · refine ⟨⟨rfl, rfl, ⟨rfl, rfl, fun j _ => ?_⟩, ⟨rfl, rfl, fun j _ => ?_⟩, trivial⟩, eqvB_refl _, trivial⟩ <;> simp [cfgTo, addrTo, bfun, wfun]
  · intro i hi
    refine ifB_intro (fun h1 => ?_) (fun h1 => ?_)
    · have h1 : i < 16 := by have := of_decide_eq_true h1; omega
      refine need_intro (by omega) ?_
      refine need_intro (by omega) ?_
      refine (byteOf_spec _ _).mono ?_
      rintro v h' ⟨rfl, rfl⟩
      refine need_intro (by omega) ?_
      refine need_intro (by omega) ?_
      refine need_intro (by omega) ?_
      refine need_intro (by omega) ?_
      refine need_intro (by omega) ?_
      refine need_intro (by omega) ?_
      refine ⟨i + 1, by omega, by simp only; omega, ?_⟩
      refine ⟨?_, ?_⟩
      · repeat' (first | exact eqvT_nil | refine eqvT_junk ?_ | refine eqvT_same ?_ | refine eqvT_int ?_ ?_)
        rw [i64_in (by omega) (by omega)]; omega
      · refine ⟨⟨rfl, rfl, ⟨rfl, rfl, fun j _ => ?_⟩, ⟨rfl, rfl, fun j _ => ?_⟩, trivial⟩, eqvB_refl _, trivial⟩
        · simp only [Int.toNat_natCast]
          exact cfgTo_step i cfg j
        · simp only [Int.toNat_natCast]
          rw [show wfun (addrTo i addr) i = ((addrTo i addr i).toNat : Int) from rfl, and_u64, ofInt_toNat]
          exact addrTo_step i addr j
    · have h1 : i = 16 := by have := of_decide_eq_false h1; omega
      subst h1
      refine need_intro rfl ?_
      refine ⟨⟨rfl, rfl, fun j hj => ?_⟩, ⟨rfl, rfl, fun j hj => ?_⟩, trivial⟩ <;> simp [cfgTo, addrTo, bfun, wfun, hj]
theorem rproperP_spec (cfg : Nat → B8) (addr : Nat → B64) (h : List Blk) : Does TB 81 [.agg (pmpSeg cfg addr)] h (fun v h' => v = .agg (pmpSeg (fun j => cfgOf (cfg j)) (fun j => addr j &&& addrBits)) ∧ h' = h) := by
  refine fnX_pure TB Try.func81 rfl (by decide) rfl _ rfl (fun O on => ?_) h
  refine loop_by (A := Nat) on (fun i => [(3, .s (.int .i64 (i : Int)))]) (fun i => [.cells true (pmpSeg (cfgTo i cfg) (addrTo i addr)) 0, .cells true [.ints .u8 16 (fun _ => 0), .ints .u64 16 (fun _ => 0)] 0]) (fun i => i ≤ 16) (fun i => 16 - i) 0 (by omega) ?_ ?_
  · refine ⟨?_, ?_⟩
    · repeat' (first | exact eqvT_nil | refine eqvT_junk ?_ | refine eqvT_same ?_ | refine eqvT_int ?_ ?_)
    · refine ⟨⟨rfl, rfl, ⟨rfl, rfl, fun j _ => ?_⟩, ⟨rfl, rfl, fun j _ => ?_⟩, trivial⟩, eqvB_refl _, trivial⟩ <;> simp [cfgTo, addrTo, bfun, wfun]
  · intro i hi
    refine ifB_intro (fun h1 => ?_) (fun h1 => ?_)
    · have h1 : i < 16 := by have := of_decide_eq_true h1; omega
      refine need_intro (by omega) ?_
      refine need_intro (by omega) ?_
      refine (cleaned_spec _ _).mono ?_
      rintro v h' ⟨rfl, rfl⟩
      refine need_intro (by omega) ?_
      refine need_intro (by omega) ?_
      refine need_intro (by omega) ?_
      refine need_intro (by omega) ?_
      refine need_intro (by omega) ?_
      refine need_intro (by omega) ?_
      refine ⟨i + 1, by omega, by simp only; omega, ?_⟩
      refine ⟨?_, ?_⟩
      · repeat' (first | exact eqvT_nil | refine eqvT_junk ?_ | refine eqvT_same ?_ | refine eqvT_int ?_ ?_)
        rw [i64_in (by omega) (by omega)]; omega
      · refine ⟨⟨rfl, rfl, ⟨rfl, rfl, fun j _ => ?_⟩, ⟨rfl, rfl, fun j _ => ?_⟩, trivial⟩, eqvB_refl _, trivial⟩
        · simp only [Int.toNat_natCast]
          exact cfgTo_step i cfg j
        · simp only [Int.toNat_natCast]
          rw [show wfun (addrTo i addr) i = ((addrTo i addr i).toNat : Int) from rfl, and_u64, ofInt_toNat]
          exact addrTo_step i addr j
    · have h1 : i = 16 := by have := of_decide_eq_false h1; omega
      subst h1
      refine need_intro rfl ?_
      refine ⟨⟨rfl, rfl, fun j hj => ?_⟩, ⟨rfl, rfl, fun j hj => ?_⟩, trivial⟩ <;> simp [cfgTo, addrTo, bfun, wfun, hj]
theorem reservation_spec (v : Bool) (a : B64) (s : Int) (h : List Blk) :
    Does TB 77 [.agg (resSeg v a s)] h (fun r h' => r = .agg (resSeg (resOk v a s) (if resOk v a s then a else 0#64) (if resOk v a s then s else 0)) ∧ h' = h) := by
  refine fnX_pure TB Try.func77 rfl (by decide) rfl _ rfl (fun O on => ?_) h
  repeat (refine need_intro (by first | exact fun h => h | (simp; done) | grind) ?_)
  refine ifB_intro (fun h1 => ?_) (fun h1 => ?_)
  · rw [res_cond, Bool.not_eq_true'] at h1
    refine need_intro rfl ?_
    rw [h1]
    exact eqvE_refl _
  · rw [res_cond, Bool.not_eq_false'] at h1
    refine need_intro rfl ?_
    rw [h1]
    have hv : v = true := by
      unfold resOk at h1
      simp only [Bool.and_eq_true] at h1
      exact h1.1
    rw [hv]
    exact eqvE_refl _
theorem status_spec (m : B64) (h : List Blk) : Does TB 80 [.s (.int .u64 m.toNat)] h (fun v h' => v = .s (.int .u64 (statusOf m).toNat) ∧ h' = h) := by
  refine fnX_pure TB Try.func80 rfl (by decide) rfl _ rfl (fun O on => ?_) h
  refine need_intro (by decide) ?_
  repeat (refine need_intro (by first | exact fun h => h | (simp; done) | grind) ?_)
  have e1 : bitX .and .u64 (m.toNat : Int) 2234504 = ((m &&& 2234504#64).toNat : Int) := by rw [and_u64, ofInt_toNat]; rfl
  have e2 : bitX .and .u64 ((bitX .and .u64 (m.toNat : Int) 2234504).fdiv (2 ^ min (Int.toNat 11) IntKind.u64.bits)) 3 = (((m &&& 2234504#64) >>> 11 &&& 3#64).toNat : Int) := by
    rw [e1]
    have : (((m &&& 2234504#64).toNat : Int)).fdiv (2 ^ min (Int.toNat 11) IntKind.u64.bits) = (((m &&& 2234504#64) >>> 11).toNat : Int) := fdiv_pow _ 11
    rw [this, and_u64, ofInt_toNat]
    rfl
  refine ifB_intro (fun h1 => ?_) (fun h1 => ?_)
  · rw [e2] at h1
    simp only [Bool.cond_true_left, Bool.or_eq_true, beq_iff_eq, beq_lit, Int.reduceLE, Int.reducePow, Int.reduceLT, BitVec.reduceOfInt] at h1
    refine ⟨rfl, ?_⟩
    rw [e1, andNot_u64, ofInt_toNat, or_u64, ofInt_toNat]
    simp only [BitVec.reduceOfInt]
    rw [status_yes m h1]
  · rw [e2] at h1
    simp only [Bool.cond_true_left, Bool.or_eq_false_iff, beq_eq_false_iff_ne, beq_lit, Int.reduceLE, Int.reducePow, Int.reduceLT, BitVec.reduceOfInt] at h1
    refine ⟨rfl, ?_⟩
    rw [e1, or_u64, ofInt_toNat]
    simp only [BitVec.reduceOfInt]
    rw [status_no m (by simp only [not_or]; exact h1)]
theorem zero_first (x : Nat → B64) (j : Nat) : (if j = 0 then (0 : Int) else wfun x j) = wfun (fun j => if j = 0 then 0#64 else x j) j := by
  simp only [wfun]
  split <;> rfl
theorem mpp_nat (m : B64) : ((if m &&& 6144#64 = 6144#64 then (6144 : Int) else 0)) = ((if m &&& 6144#64 = 6144#64 then 6144#64 else 0#64 : B64).toNat : Int) := by split <;> rfl
set_option maxRecDepth 100000 in
theorem proper_spec (c : CpuV) (h : List Blk) : Does TB 38 [.agg c.segs] h (fun v h' => v = .agg c.proper.segs ∧ h' = h) := by
  refine fnX_pure TB Try.func38 rfl (by decide) rfl _ rfl (fun O on => ?_) h
  refine need_intro (by decide) ?_
  refine need_intro (by decide) ?_
  have hst : ∀ x : Int, x = (if c.mstatus &&& 6144#64 = 6144#64 then 6144 else 0) → bitX .or .u64 (bitX .or .u64 (bitX .and .u64 (c.mstatus.toNat : Int) 2228360) x) 8589934592 = ((statusOf c.mstatus).toNat : Int) := by
    rintro x rfl
    rw [mpp_nat, and_u64, or_u64]
    simp only [ofInt_toNat, or_u64, BitVec.reduceOfInt]
    rfl
  refine ifB_intro (fun h1 => ?_) (fun h1 => ?_) <;> refine ifB_intro (fun h2 => ?_) (fun h2 => ?_)
  all_goals
    refine (properP_spec c.cfg c.addr _).mono ?_
    rintro _ _ ⟨rfl, rfl⟩
    refine need_intro rfl ?_
    refine (reservation_spec c.rvalid c.raddr c.rsize _).mono ?_
    rintro _ _ ⟨rfl, rfl⟩
    refine need_intro rfl ?_
    refine need_intro rfl ?_
    rw [and_u64, ofInt_toNat] at h2
    simp only [BitVec.reduceOfInt, bne_lit, Int.reduceLE, Int.reducePow, Int.reduceLT, bne_iff_ne, bne_eq_false_iff_eq, ne_eq] at h1 h2
    show eqvS _ _
    repeat' (first | exact eqvS_nil | refine eqvS_same ?_ | refine eqvS_int ?_ ?_ | refine eqvS_ints ?_ ?_)
  all_goals first
    | (simp only [andNot_u64, and_u64, ofInt_toNat, BitVec.reduceOfInt]; rfl)
    | (intro j _; exact zero_first c.x j)
    | (refine hst _ ?_; simp [h2]; done)
    | (refine hst _ ?_; rw [and_u64, ofInt_toNat]; simp [h2]; done)
    | simp [CpuV.proper, h1]
set_option maxRecDepth 100000 in
theorem rproper_spec (c : CpuV) (h : List Blk) : Does TB 45 [.agg c.segs] h (fun v h' => v = .agg c.proper.segs ∧ h' = h) := by
  refine fnX_pure TB Try.func45 rfl (by decide) rfl _ rfl (fun O on => ?_) h
  refine need_intro (by decide) ?_
  refine need_intro (by decide) ?_
  refine ifB_intro (fun h1 => ?_) (fun h1 => ?_)
  all_goals
    refine (status_spec c.mstatus _).mono ?_
    rintro _ _ ⟨rfl, rfl⟩
    refine (rproperP_spec c.cfg c.addr _).mono ?_
    rintro _ _ ⟨rfl, rfl⟩
    refine need_intro rfl ?_
    refine need_intro rfl ?_
    repeat (refine need_intro (by first | exact fun h => h | (simp; done) | grind) ?_)
    refine ifB_intro (fun h2 => ?_) (fun h2 => ?_)
  all_goals
    rw [rres_cond] at h2
    simp only [Bool.not_eq_true', Bool.not_eq_false', bne_iff_ne, bne_eq_false_iff_eq, ne_eq] at h1 h2
    repeat (refine need_intro rfl ?_)
    show eqvS _ _
    repeat' (first | exact eqvS_nil | refine eqvS_same ?_ | refine eqvS_bool ?_ ?_ | refine eqvS_int ?_ ?_ | refine eqvS_ints ?_ ?_)
  all_goals first
    | (simp only [andNot_u64, and_u64, ofInt_toNat, BitVec.reduceOfInt]; rfl)
    | (intro j _; exact zero_first c.x j)
    | (simp [CpuV.proper, h1]; done)
    | (simp [CpuV.proper, h2]; done)
    | (simp only [CpuV.proper, h2]; exact resOk_valid h2)
end Go.Proofs.Ytghcdkpgcanpgaa

/- The engine, part 15: a call that is handed a part of a block: the part is a block of its own meanwhile. Plain theorems; their condition: what the call leaves of the part. -/
namespace Go.Anv
open Go

/-- A value that points into a part, seen from outside and from inside: the part is k cells behind the begin of block i, and block N. -/
def partV (i N k : Nat) : SV → SV → Prop
  | .ptr b o, .ptr b' o' => (b = b' ∧ o = o') ∨ (b = i ∧ b' = N ∧ o = k + o')
  | .pix b o j, .ptr b' o' => b = i ∧ b' = N ∧ o + j = k + o'
  | .gs b o n c, .gs b' o' n' c' => ((b = b' ∧ o = o') ∨ (b = i ∧ b' = N ∧ o = k + o')) ∧ n = n' ∧ c = c'
  | x, y => x = y

def partS (i N k : Nat) : List Seg → List Seg → Prop
  | [], [] => True
  | .one x :: r, .one y :: r' => partV i N k x y ∧ partS i N k r r'
  | .ints q n f :: r, .ints q' n' f' :: r' => (q = q' ∧ n = n' ∧ f = f') ∧ partS i N k r r'
  | _, _ => False

def partE (i N k : Nat) : EV → EV → Prop
  | .s x, .s y => partV i N k x y
  | .agg x, .agg y => partS i N k x y
  | x, y => x = y

def partT (i N k : Nat) : List EV → List EV → Prop
  | [], [] => True
  | x :: r, y :: r' => partE i N k x y ∧ partT i N k r r'
  | _, _ => False

def partP (E : Emb) (i k : Nat) : Loc := ⟨(E.f i).b, (E.f i).o + k, (E.f i).nl⟩

theorem partV_den {E : Emb} {i k : Nat} {x y : SV} {v : Value} (h : partV i E.n k x y) (hd : denV E x v) : denV (E.push (partP E i k)) y v := by
  have same : x = y → denV (E.push (partP E i k)) y v := fun e => e ▸ denV_mono (Emb.le_push _ _) _ _ hd
  unfold partV at h
  split at h
  · rename_i b o b' o'
    rcases h with ⟨rfl, rfl⟩ | ⟨rfl, rfl, rfl⟩
    · exact same rfl
    · simp only [denV] at hd ⊢
      refine ⟨by simp [Emb.push], ?_⟩
      rw [hd.2]
      simp [Emb.at, Emb.push_new, partP, Nat.add_assoc]
  · rename_i b o j b' o'
    obtain ⟨rfl, rfl, h⟩ := h
    simp only [denV] at hd ⊢
    refine ⟨by simp [Emb.push], ?_⟩
    rw [hd.2]
    simp [Emb.at, Emb.push_new, partP, h, Nat.add_assoc]
  · rename_i b o n c b' o' n' c'
    obtain ⟨h, rfl, rfl⟩ := h
    rcases h with ⟨rfl, rfl⟩ | ⟨rfl, rfl, rfl⟩
    · exact same rfl
    · simp only [denV] at hd ⊢
      refine ⟨by simp [Emb.push], by rw [Emb.push_new]; exact hd.2.1, ?_⟩
      rw [hd.2.2]
      simp [Emb.at, Emb.push_new, partP, Nat.add_assoc]
  · exact same h

theorem partS_den {E : Emb} {i k : Nat} : ∀ {x y : List Seg} {l : List Value}, partS i E.n k x y → denS E x l → denS (E.push (partP E i k)) y l
  | [], [], _, _, hd => hd
  | .one x :: r, .one y :: r', l, h, hd => by
    simp only [denS] at hd ⊢
    obtain ⟨v, l', rfl, h1, h2⟩ := hd
    exact ⟨v, l', rfl, partV_den h.1 h1, partS_den h.2 h2⟩
  | .ints q n f :: r, .ints q' n' f' :: r', l, h, hd => by
    simp only [denS] at hd ⊢
    obtain ⟨l', rfl, h2⟩ := hd
    obtain ⟨⟨rfl, rfl, rfl⟩, h⟩ := h
    exact ⟨l', rfl, partS_den h h2⟩
  | [], _ :: _, _, h, _ => h.elim
  | _ :: _, [], _, h, _ => by simp [partS] at h
  | .one _ :: _, .ints .. :: _, _, h, _ => h.elim
  | .ints .. :: _, .one _ :: _, _, h, _ => h.elim

theorem partE_den {E : Emb} {i k : Nat} {x y : EV} {v : Value} (h : partE i E.n k x y) (hd : denE E x v) : denE (E.push (partP E i k)) y v := by
  have same : x = y → denE (E.push (partP E i k)) y v := fun e => e ▸ denE_mono (Emb.le_push _ _) _ _ hd
  unfold partE at h
  split at h
  · simp only [denE] at hd ⊢
    exact partV_den h hd
  · simp only [denE] at hd ⊢
    obtain ⟨l, rfl, h1⟩ := hd
    exact ⟨l, rfl, partS_den h h1⟩
  · exact same h

theorem partT_den {E : Emb} {i k : Nat} : ∀ {x y : List EV} {v : List Value}, partT i E.n k x y → denT E x v → denT (E.push (partP E i k)) y v
  | [], [], v, _, hd => hd
  | x :: r, y :: r', v, h, hd => by
    simp only [denT] at hd ⊢
    obtain ⟨u, l, rfl, h1, h2⟩ := hd
    exact ⟨u, l, rfl, partE_den h.1 h1, partT_den h.2 h2⟩
  | [], _ :: _, _, h, _ => h.elim
  | _ :: _, [], _, h, _ => h.elim

/-- What a part's call must leave. -/
def PartOk (h1 : List Blk) (i N : Nat) (m : Bool) (a b c : List Seg) (sp : Nat) (K : EV → List Blk → Prop) (v : EV) (h' : List Blk) : Prop :=
  roOk h1 h' ∧ ∃ b' cs', nthB h' N = some (.cells m b' 0) ∧ sizeS b' = sizeS b ∧ (∀ E l, denS E (a ++ (b' ++ c)) l → denS E cs' l) ∧ K v (updB (updB h' N .dead) i (.cells m cs' sp))

theorem denS_split {E : Emb} : ∀ {a b : List Seg} {l : List Value}, denS E (a ++ b) l → ∃ x y, l = x ++ y ∧ denS E a x ∧ denS E b y
  | [], b, l, h => ⟨[], l, rfl, rfl, h⟩
  | .one e :: r, b, l, h => by
    simp only [List.cons_append, denS] at h
    obtain ⟨v, l', rfl, h1, h2⟩ := h
    obtain ⟨x, y, rfl, h3, h4⟩ := denS_split h2
    exact ⟨v :: x, y, rfl, ⟨v, x, rfl, h1, h3⟩, h4⟩
  | .ints k n f :: r, b, l, h => by
    simp only [List.cons_append, denS] at h
    obtain ⟨l', rfl, h2⟩ := h
    obtain ⟨x, y, rfl, h3, h4⟩ := denS_split h2
    exact ⟨intsOf k n f ++ x, y, by simp, ⟨x, rfl, h3⟩, h4⟩

theorem part_sim {E : Emb} {h : List Blk} {w : World} {i : Nat} {m : Bool} {cs a b c : List Seg} {sp : Nat} (S : Sim E h w) (hi : nthB h i = some (.cells m cs sp))
    (hs : ∀ E l, denS E cs l → denS E (a ++ (b ++ c)) l) : Sim (E.push (partP E i (sizeS a))) (updB h i .dead ++ [.cells m b 0]) w := by
  have hi' := nthB_get hi
  have hlt := lt_of_get hi'
  obtain ⟨hp, ⟨l, hl, hc⟩, hm⟩ := S.ok i _ hi'
  obtain ⟨la, lr, rfl, hla, hlr⟩ := denS_split (hs E l hl)
  obtain ⟨lb, lc, rfl, hlb, hlc⟩ := denS_split hlr
  have za := denS_length hla
  have zb := denS_length hlb
  have zc := denS_length hlc
  have zl := denS_length hl
  simp only [List.length_append] at zl
  have hn := S.n
  -- the blocks ahead of the call
  have hU : ∀ {j : Nat} {B : Blk}, (updB h i .dead)[j]? = some B → B = .dead ∨ (h[j]? = some B ∧ j ≠ i) := fun {j B} hj => by
    rw [updB_eq] at hj
    by_cases hij : i = j
    · subst hij
      rw [List.getElem?_set_self hlt] at hj
      simp only [Option.some.injEq] at hj
      exact .inl hj.symm
    · rw [List.getElem?_set_ne hij] at hj; exact .inr ⟨hj, fun e => hij e.symm⟩
  have hUl : (updB h i .dead).length = h.length := by rw [updB_eq, List.length_set]
  have hH : ∀ {j : Nat} {B : Blk}, (updB h i .dead ++ [.cells m b 0])[j]? = some B → B = .dead ∨ (h[j]? = some B ∧ (E.push (partP E i (sizeS a))).f j = E.f j ∧ j ≠ i ∧ j < h.length) ∨ (j = h.length ∧ B = .cells m b 0 ∧ (E.push (partP E i (sizeS a))).f j = partP E i (sizeS a)) := fun {j B} hj => by
    rcases getElem?_push_cases hj with ⟨h1, h2⟩ | ⟨h1, h2⟩
    · rw [hUl] at h2
      rcases hU h1 with h3 | ⟨h3, h4⟩
      · exact .inl h3
      · exact .inr (.inl ⟨h3, Emb.push_old _ _ (by omega), h4, h2⟩)
    · rw [hUl] at h1
      subst h1
      exact .inr (.inr ⟨rfl, h2, by rw [← hn, Emb.push_new]⟩)
  have covP : ∀ {x y : Nat}, cov (partP E i (sizeS a)) (.cells m b 0) x y → cov (E.f i) (.cells m cs sp) x y := fun {x y} hcv => by
    simp only [cov, partP] at hcv ⊢
    omega
  refine ⟨by simp [Emb.push, hUl, hn], fun j B hj => ?_, fun j k A B hjk hj hk hA x y hcj => ?_⟩
  · rcases hH hj with rfl | ⟨h1, h2, _⟩ | ⟨_, rfl, h2⟩
    · trivial
    · rw [h2]; exact okBlk_le (Emb.le_push _ _) (S.ok j B h1)
    · rw [h2]
      refine ⟨?_, ⟨lb, denS_mono (Emb.le_push _ _) _ _ hlb, fun j v hj => ?_⟩, fun hmm j hj => ?_⟩
      · rcases hp with hp | ⟨hp, hp2⟩
        · exact .inl hp
        · exact .inr ⟨hp, by omega⟩
      · have hj2 : j < lb.length := by
          rcases Nat.lt_or_ge j lb.length with h' | h'
          · exact h'
          · rw [List.getElem?_eq_none h'] at hj; cases hj
        have := hc (la.length + j) v (by rw [List.getElem?_append_right (by omega), Nat.add_sub_cancel_left, List.getElem?_append_left hj2]; exact hj)
        rw [za, ← Nat.add_assoc] at this
        exact this
      · have := hm hmm (sizeS a + j) (by omega)
        rw [← Nat.add_assoc] at this
        exact this
  · rcases hH hj with rfl | ⟨h1, h2, h3, _⟩ | ⟨h1, rfl, h2⟩
    · simp [Blk.mut] at hA
    · rw [h2] at hcj
      rcases hH hk with rfl | ⟨k1, k2, _⟩ | ⟨_, rfl, k2⟩
      · intro h'; exact h'
      · rw [k2]; exact S.dis j k A B hjk h1 k1 hA x y hcj
      · rw [k2]; intro hcv; exact S.dis j i A _ h3 h1 hi' hA x y hcj (covP hcv)
    · rw [h2] at hcj
      rcases hH hk with rfl | ⟨k1, k2, k3, _⟩ | ⟨k1, rfl, k2⟩
      · intro h'; exact h'
      · rw [k2]; exact S.dis i k _ B (Ne.symm k3) hi' k1 hA x y (covP hcj)
      · exact absurd (h1.trans k1.symm) hjk

theorem part_post {E : Emb} {h : List Blk} {w w' : World} {i : Nat} {m : Bool} {cs a b c : List Seg} {sp : Nat} {Q K : EV → List Blk → Prop} {e : Ending} (S : Sim E h w) (hi : nthB h i = some (.cells m cs sp))
    (hs : ∀ E l, denS E cs l → denS E (a ++ (b ++ c)) l) (hK : ∀ v h', Q v h' → PartOk (updB h i .dead ++ [.cells m b 0]) i h.length m a b c sp K v h')
    (P : Post (E.push (partP E i (sizeS a))) (updB h i .dead ++ [.cells m b 0]) w Q e w') : Post E h w K e w' := by
  have hi' := nthB_get hi
  have hlt := lt_of_get hi'
  obtain ⟨hp, ⟨l, hl, hc⟩, hm⟩ := S.ok i _ hi'
  obtain ⟨la, lr, rfl, hla, hlr⟩ := denS_split (hs E l hl)
  obtain ⟨lb, lc, rfl, hlb, hlc⟩ := denS_split hlr
  have za := denS_length hla
  have zb := denS_length hlb
  have zc := denS_length hlc
  have zl := denS_length hl
  simp only [List.length_append] at zl
  have hn := S.n
  -- the blocks ahead of the call
  have hU : ∀ {j : Nat} {B : Blk}, (updB h i .dead)[j]? = some B → B = .dead ∨ (h[j]? = some B ∧ j ≠ i) := fun {j B} hj => by
    rw [updB_eq] at hj
    by_cases hij : i = j
    · subst hij
      rw [List.getElem?_set_self hlt] at hj
      simp only [Option.some.injEq] at hj
      exact .inl hj.symm
    · rw [List.getElem?_set_ne hij] at hj; exact .inr ⟨hj, fun e => hij e.symm⟩
  have hUl : (updB h i .dead).length = h.length := by rw [updB_eq, List.length_set]
  have hH : ∀ {j : Nat} {B : Blk}, (updB h i .dead ++ [.cells m b 0])[j]? = some B → B = .dead ∨ (h[j]? = some B ∧ (E.push (partP E i (sizeS a))).f j = E.f j ∧ j ≠ i ∧ j < h.length) ∨ (j = h.length ∧ B = .cells m b 0 ∧ (E.push (partP E i (sizeS a))).f j = partP E i (sizeS a)) := fun {j B} hj => by
    rcases getElem?_push_cases hj with ⟨h1, h2⟩ | ⟨h1, h2⟩
    · rw [hUl] at h2
      rcases hU h1 with h3 | ⟨h3, h4⟩
      · exact .inl h3
      · exact .inr (.inl ⟨h3, Emb.push_old _ _ (by omega), h4, h2⟩)
    · rw [hUl] at h1
      subst h1
      exact .inr (.inr ⟨rfl, h2, by rw [← hn, Emb.push_new]⟩)
  have covP : ∀ {x y : Nat}, cov (partP E i (sizeS a)) (.cells m b 0) x y → cov (E.f i) (.cells m cs sp) x y := fun {x y} hcv => by
    simp only [cov, partP] at hcv ⊢
    omega
  have mut1 : ∀ {x y : Nat}, mutAt (E.push (partP E i (sizeS a))) (updB h i .dead ++ [.cells m b 0]) x y → mutAt E h x y := fun {x y} hm1 => by
    obtain ⟨j, B, hj, hB, hcv⟩ := hm1
    rcases hH hj with rfl | ⟨h1, h2, _⟩ | ⟨_, rfl, h2⟩
    · simp [Blk.mut] at hB
    · rw [h2] at hcv; exact ⟨j, B, h1, hB, hcv⟩
    · rw [h2] at hcv; exact ⟨i, _, hi', hB, covP hcv⟩
  -- cells of the block outside the part are written by nobody
  have out1 : ∀ {y : Nat}, (E.f i).o ≤ y → y < (E.f i).o + (sizeS cs + sp) → ¬ (((E.f i).o + sizeS a) ≤ y ∧ y < (E.f i).o + sizeS a + sizeS b) → ¬ mutAt (E.push (partP E i (sizeS a))) (updB h i .dead ++ [.cells m b 0]) (E.f i).b y := fun {y} h1 h2 h3 hm1 => by
    obtain ⟨j, B, hj, hB, hcv⟩ := hm1
    rcases hH hj with rfl | ⟨k1, k2, k3, _⟩ | ⟨_, rfl, k2⟩
    · simp [Blk.mut] at hB
    · rw [k2] at hcv
      exact S.dis j i B _ k3 k1 hi' hB _ _ hcv ⟨rfl, h1, h2⟩
    · rw [k2] at hcv
      simp only [cov, partP] at hcv
      omega
  obtain ⟨v, x, h', E', rfl, hd, S', N', hq⟩ := P
  obtain ⟨hro, b', cs', hN, hsz, hj', hk⟩ := hK x h' hq
  have hN' := nthB_get hN
  have hNlt := lt_of_get hN'
  have fi : E'.f i = E.f i := by rw [N'.same i (by simp [Emb.push]; omega), Emb.push_old _ _ (by omega)]
  have fN : E'.f h.length = partP E i (sizeS a) := by rw [N'.same h.length (by simp [Emb.push]; omega), ← hn, Emb.push_new]
  obtain ⟨p1, ⟨lb', hlb', hcb'⟩, hmb'⟩ := S'.ok _ _ hN'
  have zb' := denS_length hlb'
  have le' : E.le E' := ⟨by have := N'.len; have h1 := S'.n; simp only [List.length_append, hUl, List.length_singleton] at this; omega, fun j hj => by rw [N'.same j (by simp [Emb.push]; omega), Emb.push_old _ _ hj]⟩
  have hF : ∀ {j : Nat} {B : Blk}, (updB (updB h' h.length .dead) i (.cells m cs' sp))[j]? = some B → B = .dead ∨ (h'[j]? = some B ∧ j ≠ i ∧ j ≠ h.length) ∨ (j = i ∧ B = .cells m cs' sp) := fun {j B} hj => by
    rw [updB_eq, updB_eq] at hj
    by_cases hij : i = j
    · subst hij
      rw [List.getElem?_set_self (by rw [List.length_set]; omega)] at hj
      simp only [Option.some.injEq] at hj
      exact .inr (.inr ⟨rfl, hj.symm⟩)
    · rw [List.getElem?_set_ne hij] at hj
      by_cases hNj : h.length = j
      · subst hNj
        rw [List.getElem?_set_self hNlt] at hj
        simp only [Option.some.injEq] at hj
        exact .inl hj.symm
      · rw [List.getElem?_set_ne hNj] at hj
        exact .inr (.inl ⟨hj, fun e => hij e.symm, fun e => hNj e.symm⟩)
  have dl : denS E' cs' (la ++ (lb' ++ lc)) := hj' E' _ (denS_append (denS_mono le' _ _ hla) (denS_append hlb' (denS_mono le' _ _ hlc)))
  have zcs : sizeS cs' = sizeS cs := by
    have := denS_length dl
    simp only [List.length_append] at this
    omega
  have pnt : ∀ j, j < sizeS cs + sp → (E.f i).b < w.heap.size := fun j hj => by
    rcases hp with h1 | ⟨_, h1⟩
    · exact h1
    · omega
  have keep : ∀ j, j < sizeS cs + sp → ¬ (sizeS a ≤ j ∧ j < sizeS a + sizeS b) → w'.cell? ⟨(E.f i).b, (E.f i).o + j, none⟩ = w.cell? ⟨(E.f i).b, (E.f i).o + j, none⟩ := fun j hj hno =>
    (N'.cells _ _ (pnt j hj) (out1 (by omega) (by omega) (by omega))).1
  refine ⟨v, x, _, E', rfl, hd, ⟨?_, fun j B hj => ?_, fun j k A B hjk hj hk hA y z hcj => ?_⟩, ⟨?_, fun j hj => le'.2 j hj, N'.size, fun y hy hno => N'.frame y hy (fun o hm1 => hno o (mut1 hm1)), fun y z hy hno => N'.cells y z hy (fun hm1 => hno (mut1 hm1)), fun y z hm1 hy => ?_, N'.os, N'.tape, N'.output, N'.rows⟩, hk⟩
  · rw [S'.n]; simp [updB_eq]
  · rcases hF hj with rfl | ⟨h1, _, _⟩ | ⟨rfl, rfl⟩
    · trivial
    · exact S'.ok j B h1
    · rw [fi]
      refine ⟨?_, ⟨_, dl, fun k v hk => ?_⟩, fun hmm k hk => ?_⟩
      · rcases hp with h1 | ⟨h1, h2⟩
        · exact .inl (by have := N'.size; omega)
        · exact .inr ⟨h1, by omega⟩
      · have hkl : k < sizeS cs := by
          rcases Nat.lt_or_ge k (la ++ (lb' ++ lc)).length with h1 | h1
          · simp only [List.length_append] at h1; omega
          · rw [List.getElem?_eq_none h1] at hk; cases hk
        by_cases hin : sizeS a ≤ k ∧ k < sizeS a + sizeS b
        · have h1 := hcb' (k - sizeS a) v (by
            rw [List.getElem?_append_right (by omega), List.getElem?_append_left (by omega), za] at hk
            exact hk)
          rw [fN] at h1
          simp only [partP, Nat.add_assoc] at h1
          rwa [show sizeS a + (k - sizeS a) = k by omega] at h1
        · rw [keep k (by omega) hin]
          refine hc k v ?_
          by_cases h1 : k < sizeS a
          · rw [List.getElem?_append_left (by omega)] at hk ⊢; exact hk
          · rw [List.getElem?_append_right (by omega), List.getElem?_append_right (by omega)] at hk ⊢
            rw [show k - la.length - lb.length = k - la.length - lb'.length by omega]
            exact hk
      · rw [zcs] at hk
        by_cases hin : sizeS a ≤ k ∧ k < sizeS a + sizeS b
        · have h1 := hmb' hmm (k - sizeS a) (by omega)
          rw [fN] at h1
          simp only [partP, Nat.add_assoc] at h1
          rwa [show sizeS a + (k - sizeS a) = k by omega] at h1
        · rw [keep k hk hin]
          obtain ⟨h1, h2⟩ := hm hmm k hk
          exact ⟨h1, N'.rows _ (pnt k hk) h2⟩
  · -- apart
    have one : ∀ {k : Nat} {B : Blk}, h'[k]? = some B → k ≠ i → k ≠ h.length → (m = true ∨ B.mut = true) → ∀ {y z : Nat}, cov (E.f i) (.cells m cs' sp) y z → ¬ cov (E'.f k) B y z := fun {k B} hB hki hkN hmB {y z} hcv hcv' => by
      simp only [cov, zcs] at hcv
      obtain ⟨rfl, hz1, hz2⟩ := hcv
      by_cases hin : (E.f i).o + sizeS a ≤ z ∧ z < (E.f i).o + sizeS a + sizeS b
      · have hcN : cov (E'.f h.length) (.cells m b' 0) (E.f i).b z := by
          rw [fN]; exact ⟨rfl, hin.1, by simp only [partP]; omega⟩
        rcases hmB with hmm | hmm
        · exact S'.dis h.length k _ B (Ne.symm hkN) hN' hB hmm _ _ hcN hcv'
        · exact S'.dis k h.length B _ hkN hB hN' hmm _ _ hcv' hcN
      · have hno := out1 hz1 hz2 hin
        have hbl := pnt 0 (by omega)
        rcases roOk_get hro k B hB with h1 | rfl | h1
        · exact hno (N'.new _ _ ⟨k, B, hB, h1, hcv'⟩ hbl)
        · exact hcv'
        · rcases hH h1 with rfl | ⟨k1, k2, k3, k4⟩ | ⟨k1, _, _⟩
          · exact hcv'
          · rw [N'.same k (by simp [Emb.push]; omega), k2] at hcv'
            rcases hmB with hmm | hmm
            · exact S.dis i k _ B (Ne.symm k3) hi' k1 hmm _ _ ⟨rfl, hz1, hz2⟩ hcv'
            · exact S.dis k i B _ k3 k1 hi' hmm _ _ hcv' ⟨rfl, hz1, hz2⟩
          · exact hkN k1
    rcases hF hj with rfl | ⟨h1, h2, h3⟩ | ⟨rfl, rfl⟩
    · simp [Blk.mut] at hA
    · rcases hF hk with rfl | ⟨k1, k2, k3⟩ | ⟨rfl, rfl⟩
      · intro h'; exact h'
      · exact S'.dis j k A B hjk h1 k1 hA y z hcj
      · rw [fi]; intro hcv; exact one h1 h2 h3 (.inr hA) hcv hcj
    · rcases hF hk with rfl | ⟨k1, k2, k3⟩ | ⟨rfl, rfl⟩
      · intro h'; exact h'
      · rw [fi] at hcj; exact one k1 k2 k3 (.inl hA) hcj
      · exact absurd rfl hjk
  · simp only [updB_eq, List.length_set]
    have := N'.len
    simp only [List.length_append, hUl, List.length_singleton] at this
    omega
  · obtain ⟨k, B, hB, hBm, hcv⟩ := hm1
    rcases hF hB with rfl | ⟨h1, _, _⟩ | ⟨rfl, rfl⟩
    · simp [Blk.mut] at hBm
    · exact mut1 (N'.new y z ⟨k, B, h1, hBm, hcv⟩ hy)
    · rw [fi] at hcv
      refine ⟨_, _, hi', hBm, ?_⟩
      simpa only [cov, zcs] using hcv

/-- **A call that is handed a part of a block.** -/
theorem Does.part {T : Tbl} {f : FuncId} {args args' : List EV} {h : List Blk} {Q K : EV → List Blk → Prop} (i : Nat) {m : Bool} {cs : List Seg} {sp : Nat} (a b c : List Seg) (hi : nthB h i = some (.cells m cs sp))
    (hs : ∀ E l, denS E cs l → denS E (a ++ (b ++ c)) l) (ha : partT i h.length (sizeS a) args args') (d : Does T f args' (updB h i .dead ++ [.cells m b 0]) Q)
    (hK : ∀ v h', Q v h' → PartOk (updB h i .dead ++ [.cells m b 0]) i h.length m a b c sp K v h') : Does T f args h K := by
  refine ⟨?_⟩
  rcases d.go with ⟨h1, h2⟩ | h1
  · refine .inl ⟨h1, fun E w vs S hv => ?_⟩
    have hn := S.n
    exact (h2 _ w vs (part_sim S hi hs) (partT_den (by rw [hn]; exact ha) hv)).mono fun e w' p => part_post S hi hs hK p
  · refine .inr fun E w vs S hv => ?_
    have hn := S.n
    obtain ⟨u, w', h2, h3⟩ := h1 _ w vs (part_sim S hi hs) (partT_den (by rw [hn]; exact ha) hv)
    exact ⟨u, w', h2, part_post S hi hs hK h3⟩

end Go.Anv

/- The engine, part 16: contracts that go on: over whatever heap, the answer handed to what follows. Plain theorems, no condition. -/
namespace Go.Anv
open Go

/-- How many blocks there are. -/
def lenK (l : List Blk) : Nat → (Nat → Prop) → Prop :=
  List.rec (motive := fun _ => Nat → (Nat → Prop) → Prop) (fun n k => k n) (fun _ _ ih n k => ih (n + 1) k) l

theorem lenK_eq : ∀ (l : List Blk) (n : Nat) (k : Nat → Prop), lenK l n k = k (n + l.length)
  | [], _, _ => rfl
  | _ :: r, n, k => by
    show lenK r (n + 1) k = _
    rw [lenK_eq r]
    simp only [List.length_cons]
    rw [show n + 1 + r.length = n + (r.length + 1) by omega]

/-- Blocks behind the others. -/
def appBK (l r : List Blk) : (List Blk → Prop) → Prop :=
  List.rec (motive := fun _ => (List Blk → Prop) → Prop) (fun k => k r) (fun x _ ih k => ih fun h => k (x :: h)) l

theorem appBK_eq : ∀ (l r : List Blk) (k : List Blk → Prop), appBK l r k = k (l ++ r)
  | [], _, _ => rfl
  | x :: l, r, k => by
    show (appBK l r fun h => k (x :: h)) = _
    rw [appBK_eq l]
    rfl

/-- A cell of some cells, and what they are with another in its place. -/
def CellAt (cs : List Seg) (o : Nat) (e : SV) (cs' : List Seg) (e' : SV) : Prop :=
  ∃ a c, sizeS a = o ∧ (∀ E l, denS E cs l → denS E (a ++ ([.one e] ++ c)) l) ∧ ∀ E l, denS E (a ++ ([.one e'] ++ c)) l → denS E cs' l

theorem CellAt.cons_one {cs cs' : List Seg} {o : Nat} {e e' v : SV} (h : CellAt cs o e cs' e') : CellAt (.one v :: cs) (o + 1) e (.one v :: cs') e' := by
  obtain ⟨a, c, h1, h2, h3⟩ := h
  refine ⟨.one v :: a, c, by simp [sizeS, h1], fun E l hd => ?_, fun E l hd => ?_⟩
  · simp only [denS, List.cons_append] at hd ⊢
    obtain ⟨u, l', rfl, k1, k2⟩ := hd
    exact ⟨u, l', rfl, k1, h2 E l' k2⟩
  · simp only [denS, List.cons_append] at hd ⊢
    obtain ⟨u, l', rfl, k1, k2⟩ := hd
    exact ⟨u, l', rfl, k1, h3 E l' k2⟩

theorem CellAt.cons_ints {cs cs' : List Seg} {o : Nat} {e e' : SV} {k : IntKind} {n : Nat} {f : Nat → Int} (h : CellAt cs o e cs' e') : CellAt (.ints k n f :: cs) (n + o) e (.ints k n f :: cs') e' := by
  obtain ⟨a, c, h1, h2, h3⟩ := h
  refine ⟨.ints k n f :: a, c, by simp [sizeS, h1], fun E l hd => ?_, fun E l hd => ?_⟩
  · simp only [denS, List.cons_append] at hd ⊢
    obtain ⟨l', rfl, k2⟩ := hd
    exact ⟨l', rfl, h2 E l' k2⟩
  · simp only [denS, List.cons_append] at hd ⊢
    obtain ⟨l', rfl, k2⟩ := hd
    exact ⟨l', rfl, h3 E l' k2⟩

theorem cell_one : ∀ {cs cs' : List Seg} {o : Nat} {e e' : SV}, getS cs o = some e → setS cs o e' = some cs' → CellAt cs o e cs' e'
  | [], _, _, _, _, h, _ => by simp [getS] at h
  | .one v :: r, cs', 0, e, e', h, h' => by
    simp only [getS, Option.some.injEq] at h
    simp only [setS, Option.some.injEq] at h'
    subst h; subst h'
    exact ⟨[], r, rfl, fun _ _ h => h, fun _ _ h => h⟩
  | .one v :: r, cs', o + 1, e, e', h, h' => by
    simp only [getS] at h
    simp only [setS, Option.map_eq_some_iff] at h'
    obtain ⟨c, hc, rfl⟩ := h'
    exact (cell_one h hc).cons_one
  | .ints k n f :: r, cs', o, e, e', h, h' => by
    unfold getS at h
    unfold setS at h'
    split at h
    · rw [if_neg (by omega)] at h'
      cases h'
    · rename_i ho
      rw [if_pos (by omega)] at h'
      simp only [Option.map_eq_some_iff] at h'
      obtain ⟨c, hc, rfl⟩ := h'
      have := (cell_one h hc).cons_ints (k := k) (n := n) (f := f)
      rwa [show n + (o - n) = o by omega] at this

theorem intsOf_split (k : IntKind) {n j : Nat} (f : Nat → Int) (h : j < n) : intsOf k n f = intsOf k j f ++ (.int k (f j) :: intsOf k (n - j - 1) (fun i => f (j + 1 + i))) := by
  obtain ⟨m, rfl⟩ : ∃ m, n = j + (m + 1) := ⟨n - j - 1, by omega⟩
  have e : j + (m + 1) - j - 1 = m := by omega
  rw [e]
  simp only [intsOf]
  rw [List.range_add, List.map_append, List.map_map, List.range_succ_eq_map]
  congr 1
  simp only [List.map_cons, List.map_map, Function.comp_def, Nat.add_zero]
  congr 1
  refine List.map_congr_left fun i _ => ?_
  simp only [Nat.succ_eq_add_one]
  rw [show j + (i + 1) = j + 1 + i by omega]

theorem cell_ints_head (k : IntKind) {n j : Nat} (f g : Nat → Int) (r : List Seg) (hj : j < n) (hg : ∀ i, i < n → i ≠ j → f i = g i) : CellAt (.ints k n f :: r) j (.int k (f j)) (.ints k n g :: r) (.int k (g j)) := by
  refine ⟨[.ints k j f], .ints k (n - j - 1) (fun i => f (j + 1 + i)) :: r, by simp [sizeS], fun E l hd => ?_, fun E l hd => ?_⟩
  · simp only [denS, List.cons_append, List.nil_append, denV] at hd ⊢
    obtain ⟨l', rfl, k2⟩ := hd
    rw [intsOf_split k f hj]
    exact ⟨_, by rw [List.append_assoc, List.cons_append], _, _, rfl, rfl, l', rfl, k2⟩
  · simp only [denS, List.cons_append, List.nil_append, denV] at hd ⊢
    obtain ⟨l1, rfl, v, l2, rfl, rfl, l3, rfl, k2⟩ := hd
    refine ⟨l3, ?_, k2⟩
    rw [intsOf_split k g hj, List.append_assoc, intsOf_congr (f := f) (g := g) (fun i hi => hg i (by omega) (by omega)), intsOf_congr (f := fun i => f (j + 1 + i)) (g := fun i => g (j + 1 + i)) (fun i hi => hg _ (by omega) (by omega))]
    rfl

theorem cell_ints : ∀ {cs : List Seg} {o j : Nat} {k : IntKind} {n : Nat} {f : Nat → Int}, getI cs o = some (k, n, f) → j < n → CellAt cs (o + j) (.int k (f j)) cs (.int k (f j))
  | [], _, _, _, _, _, h, _ => by simp [getI] at h
  | .one v :: r, 0, j, k, n, f, h, hj => by simp [getI] at h
  | .one v :: r, o + 1, j, k, n, f, h, hj => by
    simp only [getI] at h
    have := (cell_ints (j := j) h hj).cons_one (v := v)
    rwa [show o + j + 1 = o + 1 + j by omega] at this
  | .ints q m g :: r, o, j, k, n, f, h, hj => by
    cases o with
    | zero =>
      simp only [getI, Option.some.injEq, Prod.mk.injEq] at h
      obtain ⟨rfl, rfl, rfl⟩ := h
      rw [Nat.zero_add]
      exact cell_ints_head _ _ _ r hj (fun _ _ _ => rfl)
    | succ o =>
      unfold getI at h
      split at h
      · rename_i ho
        have := (cell_ints (j := j) h hj).cons_ints (k := q) (n := m) (f := g)
        rwa [show m + (o + 1 - m + j) = o + 1 + j by omega] at this
      · cases h

theorem cell_setI : ∀ {cs cs' : List Seg} {o j : Nat} {k : IntKind} {n : Nat} {f : Nat → Int} {x : Int}, getI cs o = some (k, n, f) → j < n → setI cs o j k x = some cs' → CellAt cs (o + j) (.int k (f j)) cs' (.int k x)
  | [], _, _, _, _, _, _, _, h, _, _ => by simp [getI] at h
  | .one v :: r, _, 0, j, k, n, f, x, h, hj, _ => by simp [getI] at h
  | .one v :: r, cs', o + 1, j, k, n, f, x, h, hj, h' => by
    simp only [getI] at h
    simp only [setI, Option.map_eq_some_iff] at h'
    obtain ⟨c, hc, rfl⟩ := h'
    have := (cell_setI (j := j) h hj hc).cons_one (v := v)
    rwa [show o + j + 1 = o + 1 + j by omega] at this
  | .ints q m g :: r, cs', o, j, k, n, f, x, h, hj, h' => by
    cases o with
    | zero =>
      simp only [getI, Option.some.injEq, Prod.mk.injEq] at h
      obtain ⟨rfl, rfl, rfl⟩ := h
      simp only [setI, if_true, Option.some.injEq] at h'
      subst h'
      rw [Nat.zero_add]
      have := cell_ints_head q g (fun i => if i = j then x else g i) r hj (fun i _ hi => by simp [hi])
      simpa using this
    | succ o =>
      unfold getI at h
      split at h
      · rename_i ho
        unfold setI at h'
        rw [if_pos ho] at h'
        simp only [Option.map_eq_some_iff] at h'
        obtain ⟨c, hc, rfl⟩ := h'
        have := (cell_setI (j := j) h hj hc).cons_ints (k := q) (n := m) (f := g)
        rwa [show m + (o + 1 - m + j) = o + 1 + j by omega] at this
      · cases h

theorem nthB_app_lt {h r : List Blk} {i : Nat} {B : Blk} (hi : nthB h i = some B) : nthB (h ++ r) i = some B := nthB_app hi
theorem nthB_len : ∀ (h : List Blk) (B : Blk) (r : List Blk), nthB (h ++ B :: r) h.length = some B
  | [], _, _ => rfl
  | _ :: h, B, r => by simp only [List.cons_append, List.length_cons, nthB]; exact nthB_len h B r
theorem nthB_upd_ne : ∀ {h : List Blk} {i j : Nat} {A B : Blk}, nthB h i = some A → i ≠ j → nthB (updB h j B) i = some A
  | [], _, _, _, _, h, _ => by simp [nthB] at h
  | _ :: _, 0, 0, _, _, _, hn => absurd rfl hn
  | _ :: _, 0, j + 1, _, _, h, _ => h
  | _ :: _, i + 1, 0, _, _, h, _ => h
  | _ :: r, i + 1, j + 1, _, _, h, hn => by simp only [nthB, updB] at h ⊢; exact nthB_upd_ne h (fun e => hn (by rw [e]))
theorem nthB_upd_eq : ∀ {h : List Blk} {i : Nat} {A B : Blk}, nthB h i = some A → nthB (updB h i B) i = some B
  | [], _, _, _, h => by simp [nthB] at h
  | _ :: _, 0, _, _, _ => rfl
  | _ :: r, i + 1, _, _, h => by simp only [nthB, updB] at h ⊢; exact nthB_upd_eq h
theorem len_updB : ∀ (h : List Blk) (b : Nat) (B : Blk), (updB h b B).length = h.length
  | [], _, _ => rfl
  | _ :: _, 0, _ => rfl
  | _ :: r, b + 1, B => by simp [updB, len_updB r b B]
theorem nthB_lt {h : List Blk} {i : Nat} {B : Blk} (hi : nthB h i = some B) : i < h.length := lt_of_get (nthB_get hi)

end Go.Anv

/- The engine, part 17: a call that is handed a pointer to one cell of a block, by a contract that is shown of a small heap with that cell alone. Plain theorems; their condition: what the call leaves of the cell. -/
namespace Go.Anv
open Go

theorem roOk_mk : ∀ {h h' : List Blk}, (∀ (i : Nat) (B : Blk), h'[i]? = some B → B.mut = true ∨ B = .dead ∨ h[i]? = some B) → roOk h h'
  | [], [], _ => trivial
  | _ :: _, [], _ => trivial
  | [], B :: r, hk => ⟨by rcases hk 0 B (by simp) with h | h | h
                          · exact .inl h
                          · exact .inr h
                          · simp at h, roOk_mk fun i C hi => by
    rcases hk (i + 1) C (by simpa using hi) with h | h | h
    · exact .inl h
    · exact .inr (.inl h)
    · simp at h⟩
  | A :: s, B :: r, hk => ⟨by rcases hk 0 B (by simp) with h | h | h
                              · exact .inl h
                              · exact .inr (.inl h)
                              · exact .inr (.inr (by simpa using h.symm)), roOk_mk fun i C hi => by
    rcases hk (i + 1) C (by simpa using hi) with h | h | h
    · exact .inl h
    · exact .inr (.inl h)
    · exact .inr (.inr (by simpa using h))⟩

theorem roOk_merge {h hc h' : List Blk} {κ : List Nat} (hnd : κ.Nodup) (hh : subH h κ (renH (lk κ h.length) hc)) (ho : roOk hc h') (hl : κ.length ≤ h'.length) : roOk h (mergeB h κ (renH (lk κ h.length) h')) := by
  obtain ⟨h1, h2⟩ := subH_get hh
  rw [length_renH] at h1
  have hlt : ∀ k ∈ κ, k < h.length := fun k hk => by
    obtain ⟨i, hi⟩ := List.getElem?_of_mem hk
    have hi' : i < hc.length := by
      have : i < κ.length := by
        rcases Nat.lt_or_ge i κ.length with h' | h'
        · exact h'
        · rw [List.getElem?_eq_none h'] at hi; cases hi
      omega
    obtain ⟨k', h3, h4⟩ := h2 i (renB (lk κ h.length) hc[i]) (by rw [renH_get, List.getElem?_eq_getElem hi']; rfl)
    rw [hi] at h3
    cases h3
    exact lt_of_get h4
  refine roOk_mk fun j B hj => ?_
  rcases mergeB_get h κ _ hnd hlt (by rw [length_renH]; exact hl) j B hj with ⟨_, _, h3⟩ | ⟨i, h3, h4⟩
  · exact .inr (.inr h3)
  · rw [renH_get] at h4
    simp only [Option.map_eq_some_iff] at h4
    obtain ⟨B', h5, rfl⟩ := h4
    rcases roOk_get ho i B' h5 with h6 | rfl | h6
    · exact .inl (by rw [mut_ren]; exact h6)
    · exact .inr (.inl rfl)
    · obtain ⟨k, h7, h8⟩ := h2 i (renB (lk κ h.length) B') (by rw [renH_get, h6]; rfl)
      have hi : i < κ.length := by
        rcases Nat.lt_or_ge i κ.length with h' | h'
        · exact h'
        · rw [List.getElem?_eq_none h'] at h7; cases h7
      rw [look_lt κ _ i hi] at h3
      rw [List.getElem?_eq_getElem hi] at h7
      cases h7
      subst h3
      exact .inr (.inr h8)

/-- A cell of some cells; P: what they become with another in its place. -/
def Cell (cs : List Seg) (o : Nat) (e : SV) (P : SV → List Seg → Prop) : Prop :=
  ∃ a c, sizeS a = o ∧ (∀ E l, denS E cs l → denS E (a ++ ([.one e] ++ c)) l) ∧ ∀ e' cs', P e' cs' → ∀ E l, denS E (a ++ ([.one e'] ++ c)) l → denS E cs' l

theorem Cell.cons_one {cs : List Seg} {o : Nat} {e v : SV} {P : SV → List Seg → Prop} (h : Cell cs o e P) : Cell (.one v :: cs) (o + 1) e (fun e' cs' => ∃ c, P e' c ∧ cs' = .one v :: c) := by
  obtain ⟨a, c, h1, h2, h3⟩ := h
  refine ⟨.one v :: a, c, by simp [sizeS, h1], fun E l hd => ?_, fun e' cs' hp E l hd => ?_⟩
  · simp only [denS, List.cons_append] at hd ⊢
    obtain ⟨u, l', rfl, k1, k2⟩ := hd
    exact ⟨u, l', rfl, k1, h2 E l' k2⟩
  · obtain ⟨c', hp, rfl⟩ := hp
    simp only [denS, List.cons_append] at hd ⊢
    obtain ⟨u, l', rfl, k1, k2⟩ := hd
    exact ⟨u, l', rfl, k1, h3 e' c' hp E l' k2⟩

theorem Cell.cons_ints {cs : List Seg} {o : Nat} {e : SV} {P : SV → List Seg → Prop} {k : IntKind} {n : Nat} {f : Nat → Int} (h : Cell cs o e P) : Cell (.ints k n f :: cs) (n + o) e (fun e' cs' => ∃ c, P e' c ∧ cs' = .ints k n f :: c) := by
  obtain ⟨a, c, h1, h2, h3⟩ := h
  refine ⟨.ints k n f :: a, c, by simp [sizeS, h1], fun E l hd => ?_, fun e' cs' hp E l hd => ?_⟩
  · simp only [denS, List.cons_append] at hd ⊢
    obtain ⟨l', rfl, k2⟩ := hd
    exact ⟨l', rfl, h2 E l' k2⟩
  · obtain ⟨c', hp, rfl⟩ := hp
    simp only [denS, List.cons_append] at hd ⊢
    obtain ⟨l', rfl, k2⟩ := hd
    exact ⟨l', rfl, h3 e' c' hp E l' k2⟩

theorem Cell.mono {cs : List Seg} {o : Nat} {e : SV} {P P' : SV → List Seg → Prop} (h : Cell cs o e P) (hp : ∀ e' cs', P' e' cs' → P e' cs') : Cell cs o e P' := by
  obtain ⟨a, c, h1, h2, h3⟩ := h
  exact ⟨a, c, h1, h2, fun e' cs' h => h3 e' cs' (hp e' cs' h)⟩

/-- A cell of its own. -/
theorem Cell.one : ∀ {cs : List Seg} {o : Nat} {e : SV}, getS cs o = some e → (∃ e' cs', setS cs o e' = some cs') → Cell cs o e (fun e' cs' => setS cs o e' = some cs')
  | [], _, _, h, _ => by simp [getS] at h
  | .one v :: r, 0, e, h, _ => by
    simp only [getS, Option.some.injEq] at h
    subst h
    refine ⟨[], r, rfl, fun _ _ h => h, fun e' cs' h' _ _ h => ?_⟩
    simp only [setS, Option.some.injEq] at h'
    subst h'
    exact h
  | .one v :: r, o + 1, e, h, hw => by
    simp only [getS] at h
    obtain ⟨e', cs', hw⟩ := hw
    simp only [setS, Option.map_eq_some_iff] at hw
    obtain ⟨c, hc, _⟩ := hw
    refine (Cell.one h ⟨e', c, hc⟩).cons_one.mono fun e' cs' h' => ?_
    simp only [setS, Option.map_eq_some_iff] at h'
    obtain ⟨c, hc, rfl⟩ := h'
    exact ⟨c, hc, rfl⟩
  | .ints k n f :: r, o, e, h, hw => by
    obtain ⟨e', cs', hw⟩ := hw
    unfold setS at hw
    split at hw
    · rename_i ho
      simp only [Option.map_eq_some_iff] at hw
      obtain ⟨c, hc, _⟩ := hw
      unfold getS at h
      rw [if_neg (by omega)] at h
      have := (Cell.one h ⟨e', c, hc⟩).cons_ints (k := k) (n := n) (f := f)
      rw [show n + (o - n) = o by omega] at this
      refine this.mono fun e' cs' h' => ?_
      unfold setS at h'
      rw [if_pos ho] at h'
      simp only [Option.map_eq_some_iff] at h'
      obtain ⟨c, hc, rfl⟩ := h'
      exact ⟨c, hc, rfl⟩
    · cases hw

/-- A cell among whole numbers of one kind. -/
theorem Cell.ints : ∀ {cs : List Seg} {o j : Nat} {k : IntKind} {n : Nat} {f : Nat → Int}, getI cs o = some (k, n, f) → j < n → Cell cs (o + j) (.int k (f j)) (fun e' cs' => ∃ x, e' = .int k x ∧ setI cs o j k x = some cs')
  | [], _, _, _, _, _, h, _ => by simp [getI] at h
  | .one v :: r, 0, j, k, n, f, h, hj => by simp [getI] at h
  | .one v :: r, o + 1, j, k, n, f, h, hj => by
    simp only [getI] at h
    have := (Cell.ints (j := j) h hj).cons_one (v := v)
    rw [show o + j + 1 = o + 1 + j by omega] at this
    refine this.mono fun e' cs' h' => ?_
    obtain ⟨x, rfl, h'⟩ := h'
    simp only [setI, Option.map_eq_some_iff] at h'
    obtain ⟨c, hc, rfl⟩ := h'
    exact ⟨c, ⟨x, rfl, hc⟩, rfl⟩
  | .ints q m g :: r, o, j, k, n, f, h, hj => by
    cases o with
    | zero =>
      simp only [getI, Option.some.injEq, Prod.mk.injEq] at h
      obtain ⟨rfl, rfl, rfl⟩ := h
      rw [Nat.zero_add]
      refine ⟨[.ints q j g], .ints q (m - j - 1) (fun i => g (j + 1 + i)) :: r, by simp [sizeS], fun E l hd => ?_, fun e' cs' h' E l hd => ?_⟩
      · simp only [denS, List.cons_append, List.nil_append, denV] at hd ⊢
        obtain ⟨l', rfl, k2⟩ := hd
        rw [intsOf_split q g hj]
        exact ⟨_, by rw [List.append_assoc, List.cons_append], _, _, rfl, rfl, l', rfl, k2⟩
      · obtain ⟨x, rfl, h'⟩ := h'
        simp only [setI, if_true, Option.some.injEq] at h'
        subst h'
        simp only [denS, List.cons_append, List.nil_append, denV] at hd ⊢
        obtain ⟨l1, rfl, v, l2, rfl, rfl, l3, rfl, k2⟩ := hd
        refine ⟨l3, ?_, k2⟩
        rw [intsOf_split q (fun i => if i = j then x else g i) hj, List.append_assoc, intsOf_congr (f := g) (g := fun i => if i = j then x else g i) (fun i hi => (if_neg (by omega)).symm), intsOf_congr (f := fun i => g (j + 1 + i)) (g := fun i => if j + 1 + i = j then x else g (j + 1 + i)) (fun i hi => (if_neg (by omega)).symm)]
        simp
    | succ o =>
      unfold getI at h
      split at h
      · rename_i ho
        have := (Cell.ints (j := j) h hj).cons_ints (k := q) (n := m) (f := g)
        rw [show m + (o + 1 - m + j) = o + 1 + j by omega] at this
        refine this.mono fun e' cs' h' => ?_
        obtain ⟨x, rfl, h'⟩ := h'
        unfold setI at h'
        rw [if_pos ho] at h'
        simp only [Option.map_eq_some_iff] at h'
        obtain ⟨c, hc, rfl⟩ := h'
        exact ⟨c, ⟨x, rfl, hc⟩, rfl⟩
      · cases h

/-- A cell that stays as it is. -/
theorem Cell.keep {cs : List Seg} {o : Nat} {e : SV} (h : CellAt cs o e cs e) : Cell cs o e (fun e' cs' => e' = e ∧ cs' = cs) := by
  obtain ⟨a, c, h1, h2, h3⟩ := h
  exact ⟨a, c, h1, h2, fun e' cs' h => by obtain ⟨rfl, rfl⟩ := h; exact h3⟩

/-- **A call that is handed a pointer to a cell, by a contract shown of a small heap with that cell alone.** -/
theorem Does.cell {T : Tbl} {f : FuncId} {args args' : List EV} {hc h : List Blk} {Q K : EV → List Blk → Prop} (d : Does T f args hc Q) (κ : List Nat) (pv k N : Nat) {m : Bool} {sp : Nat} {cs : List Seg} {x : SV} {P : SV → List Seg → Prop} (hN : h.length = N)
    (hv : nthB h pv = some (.cells m cs sp)) (hcell : Cell cs k x P) (hh : subH (updB h pv .dead ++ [.cells m [.one x] 0]) κ (renH (lk κ (N + 1)) hc)) (ha : partT pv N k args' (renT (lk κ (N + 1)) args))
    (hnd : κ.Nodup) (hro : ∀ v h', Q v h' → roOk hc h') (hlen : ∀ v h', Q v h' → κ.length ≤ h'.length)
    (hK : ∀ v h', Q v h' → ∃ x' cs', nthB (mergeB (updB h pv .dead ++ [.cells m [.one x] 0]) κ (renH (lk κ (N + 1)) h')) N = some (.cells m [.one x'] 0) ∧ P x' cs' ∧
      forceH (updB (updB (mergeB (updB h pv .dead ++ [.cells m [.one x] 0]) κ (renH (lk κ (N + 1)) h')) N .dead) pv (.cells m cs' sp)) fun h2 => forceE (renE (lk κ (N + 1)) v) fun v => K v h2) : Does T f args' h K := by
  subst hN
  obtain ⟨a, b, h1, h2, h3⟩ := hcell
  have hl1 : (updB h pv .dead ++ [Blk.cells m [.one x] 0]).length = h.length + 1 := by rw [List.length_append, len_updB]; rfl
  have d' := Does.frame d κ (h := updB h pv .dead ++ [Blk.cells m [.one x] 0]) hnd hro (by rw [hl1]; exact hh)
  refine Does.part pv a [.one x] b hv h2 (by rw [h1]; exact ha) (hl1 ▸ d') ?_
  rintro v h'' ⟨v', h', hq, rfl, rfl⟩
  obtain ⟨x', cs', k1, k2, k3⟩ := hK v' h' hq
  rw [forceH_eq, forceE_eq] at k3
  refine ⟨?_, [.one x'], cs', ?_, rfl, h3 x' cs' k2, ?_⟩
  · have := roOk_merge hnd (by rw [hl1]; exact hh) (hro v' h' hq) (hlen v' h' hq)
    rwa [hl1] at this
  · exact k1
  · exact k3

end Go.Anv

namespace Go.Anv
open Go
structure Box (p : Prop) : Prop where
  go : p

/-- n rounds at most, by the recursor itself. -/
def loopR (T : Tbl) (O : Org) (c : Code) (K : Exit → St → Prop) (n : Nat) : St → Prop :=
  Nat.rec (motive := fun _ => St → Prop) (fun _ => False) (fun _ ih s => Box (wpx T O c s (seqK ih K))) n

theorem loopR_eq (T : Tbl) (O : Org) (c : Code) (K : Exit → St → Prop) : ∀ (n : Nat) (s : St), loopR T O c K n s = loopN T O c n s K
  | 0, _ => rfl
  | n + 1, s => by
    have e : (Box (wpx T O c s (seqK (loopR T O c K n) K)) : Prop) = wpx T O c s (seqK (loopR T O c K n) K) := propext ⟨fun h => h.go, fun h => ⟨h⟩⟩
    show Box (wpx T O c s (seqK (loopR T O c K n) K)) = wpx T O c s (seqK (fun s' => loopN T O c n s' K) K)
    rw [e, show loopR T O c K n = fun s' => loopN T O c n s' K from funext (loopR_eq T O c K n)]

/-- A loop of at most n rounds, each walked by itself. -/
theorem loop_times {T : Tbl} {O : Org} (on : O.E.n = O.h.length) {c : Code} {K : Exit → St → Prop} (n : Nat) {s : St} (h : loopR T O c K n s) : LoopG T O c s K := loop_unroll on n (loopR_eq T O c K n s ▸ h)
end Go.Anv

namespace Go.Anv
open Go
/-- Arguments that say more. -/
theorem Does.args {T : Tbl} {f : FuncId} {a b : List EV} {h : List Blk} {Q : EV → List Blk → Prop} (e : eqvT a b) (d : Does T f b h Q) : Does T f a h Q := by
  refine ⟨?_⟩
  rcases d.go with ⟨h1, h2⟩ | h1
  · exact .inl ⟨h1, fun E w vs S ha => h2 E w vs S (eqvT_den _ _ _ e ha)⟩
  · exact .inr fun E w vs S ha => h1 E w vs S (eqvT_den _ _ _ e ha)
end Go.Anv

namespace Go.Anv
open Go
/-- Arguments that are wanted. -/
def unG : List EV → List EV → Prop
  | [], [] => True
  | .gd g v :: r, w :: r' => (g = true ∧ v = w) ∧ unG r r'
  | v :: r, w :: r' => v = w ∧ unG r r'
  | _, _ => False
theorem unG_den {E : Emb} : ∀ (a b : List EV) (l : List Value), unG a b → denT E a l → denT E b l
  | [], [], _, _, h => h
  | x :: r, y :: r', l, he, h => by
    have key : (denE E x = denE E y ∨ ∃ g v, x = .gd g v ∧ g = true ∧ v = y) ∧ unG r r' := by
      cases x with
      | gd g v => exact ⟨.inr ⟨g, v, rfl, he.1⟩, he.2⟩
      | s v => exact ⟨.inl (by rw [he.1]), he.2⟩
      | agg v => exact ⟨.inl (by rw [he.1]), he.2⟩
      | tuple v => exact ⟨.inl (by rw [he.1]), he.2⟩
      | junk => exact ⟨.inl (by rw [he.1]), he.2⟩
    simp only [denT] at h ⊢
    obtain ⟨v, l', rfl, h1, h2⟩ := h
    refine ⟨v, l', rfl, ?_, unG_den r r' l' key.2 h2⟩
    rcases key.1 with e | ⟨g, u, rfl, rfl, rfl⟩
    · rw [← e]; exact h1
    · simp only [denE] at h1
      exact h1.1 trivial
  | [], _ :: _, _, he, _ => he.elim
  | x :: _, [], _, he, _ => by cases x <;> exact he.elim
theorem Does.ungd {T : Tbl} {f : FuncId} {a b : List EV} {h : List Blk} {Q : EV → List Blk → Prop} (e : unG a b) (d : Does T f b h Q) : Does T f a h Q := by
  refine ⟨?_⟩
  rcases d.go with ⟨h1, h2⟩ | h1
  · exact .inl ⟨h1, fun E w vs S ha => h2 E w vs S (unG_den _ _ _ e ha)⟩
  · exact .inr fun E w vs S ha => h1 E w vs S (unG_den _ _ _ e ha)
end Go.Anv

namespace Go.Anv
open Go
/-- **A call that is handed a part of a block, by a contract shown of a small heap with that part as a block.** -/
theorem Does.partAt {T : Tbl} {f : FuncId} {args args' : List EV} {hc h : List Blk} {Q K : EV → List Blk → Prop} (d : Does T f args hc Q) (κ : List Nat) (i N : Nat) {m : Bool} {sp : Nat} {cs : List Seg} (a b c : List Seg) (hN : h.length = N)
    (hi : nthB h i = some (.cells m cs sp)) (hs : ∀ E l, denS E cs l → denS E (a ++ (b ++ c)) l) (hh : subH (updB h i .dead ++ [.cells m b 0]) κ (renH (lk κ (N + 1)) hc)) (ha : partT i N (sizeS a) args' (renT (lk κ (N + 1)) args))
    (hnd : κ.Nodup) (hro : ∀ v h', Q v h' → roOk hc h') (hlen : ∀ v h', Q v h' → κ.length ≤ h'.length)
    (hK : ∀ v h', Q v h' → ∃ b' cs', nthB (mergeB (updB h i .dead ++ [.cells m b 0]) κ (renH (lk κ (N + 1)) h')) N = some (.cells m b' 0) ∧ sizeS b' = sizeS b ∧ (∀ E l, denS E (a ++ (b' ++ c)) l → denS E cs' l) ∧
      forceH (updB (updB (mergeB (updB h i .dead ++ [.cells m b 0]) κ (renH (lk κ (N + 1)) h')) N .dead) i (.cells m cs' sp)) fun h2 => forceE (renE (lk κ (N + 1)) v) fun v => K v h2) : Does T f args' h K := by
  subst hN
  have hl1 : (updB h i .dead ++ [Blk.cells m b 0]).length = h.length + 1 := by rw [List.length_append, len_updB]; rfl
  have d' := Does.frame d κ (h := updB h i .dead ++ [Blk.cells m b 0]) hnd hro (by rw [hl1]; exact hh)
  refine Does.part i a b c hi hs ha (hl1 ▸ d') ?_
  rintro v h'' ⟨v', h', hq, rfl, rfl⟩
  obtain ⟨b', cs', k1, k2, k3, k4⟩ := hK v' h' hq
  rw [forceH_eq, forceE_eq] at k4
  refine ⟨?_, b', cs', ?_, k2, k3, ?_⟩
  · have := roOk_merge hnd (by rw [hl1]; exact hh) (hro v' h' hq) (hlen v' h' hq)
    rwa [hl1] at this
  · exact k1
  · exact k4
end Go.Anv

/- Memory protection: the range of an entry: plain specification, lemmas on bits. Plain definitions and lemmas. -/
namespace Go.Anv
open Go
def kindOf (c : B8) : Nat := (c >>> 3 &&& 3#8).toNat
/-- The range of an entry whose sixteen are proper. -/
def spanP (cfg : Nat → B8) (addr : Nat → B64) (i : Nat) : Option (B64 × B64) :=
  if kindOf (cfg i) = 1 then
    (if (if 0 < i then addr (i - 1) <<< 2 else 0#64) < addr i <<< 2 then some (if 0 < i then addr (i - 1) <<< 2 else 0#64, addr i <<< 2 - 1#64) else none)
  else if kindOf (cfg i) = 2 then some (addr i <<< 2, addr i <<< 2 + 3#64)
  else if kindOf (cfg i) = 3 then
    (if addr i = addrBits then some (0#64, 18446744073709551615#64)
     else some ((addr i &&& ~~~((addr i &&& ~~~(addr i + 1#64)) <<< 1 ||| 1#64)) <<< 2, (addr i &&& ~~~((addr i &&& ~~~(addr i + 1#64)) <<< 1 ||| 1#64)) <<< 2 + (((addr i &&& ~~~(addr i + 1#64)) <<< 1 ||| 1#64) <<< 2 ||| 3#64)))
  else none
def spanI (cfg : Nat → B8) (addr : Nat → B64) (i : Int) : Option (B64 × B64) := if i < 0 ∨ 15 < i then none else spanP (fun j => cfgOf (cfg j)) (fun j => addr j &&& addrBits) i.toNat
def spanE : Option (B64 × B64) → EV
  | none => .tuple [.s (.int .u64 0), .s (.int .u64 0), .s (.bool false)]
  | some (a, b) => .tuple [.s (.int .u64 a.toNat), .s (.int .u64 b.toNat), .s (.bool true)]
theorem spanE_noPtr (o : Option (B64 × B64)) : noPtr (spanE o) = true := by cases o <;> rfl
theorem addrBits_lt (a : B64) : (a &&& addrBits).toNat < 2 ^ 54 := by
  rw [BitVec.toNat_and]
  exact Nat.lt_of_le_of_lt Nat.and_le_right (by decide)
/-- The trailing ones. -/
theorem ones_bits {a : B64} {t : Nat} (ht : t < 54) (h : a.toNat % 2 ^ (t + 1) = 2 ^ t - 1) (ha : a.toNat < 2 ^ 54) : a &&& ~~~(a + 1#64) = BitVec.ofNat 64 (2 ^ t - 1) := by
  have hp : 2 ^ t < 2 ^ (t + 1) := Nat.pow_lt_pow_right (by decide) (by omega)
  have hp0 : 0 < 2 ^ t := Nat.pow_pos (by decide)
  have e : a.toNat = 2 ^ (t + 1) * (a.toNat / 2 ^ (t + 1)) + (2 ^ t - 1) := by rw [← h]; exact (Nat.div_add_mod _ _).symm
  have e1 : (a + 1#64).toNat = 2 ^ (t + 1) * (a.toNat / 2 ^ (t + 1)) + 2 ^ t := by
    rw [BitVec.toNat_add, show (1#64).toNat = 1 from rfl, Nat.mod_eq_of_lt (by omega)]
    omega
  apply BitVec.eq_of_getLsbD_eq
  intro j hj
  rw [BitVec.getLsbD_and, BitVec.getLsbD_not, BitVec.getLsbD_ofNat]
  have b1 : a.getLsbD j = (if j < t + 1 then (2 ^ t - 1).testBit j else (a.toNat / 2 ^ (t + 1)).testBit (j - (t + 1))) := by
    show a.toNat.testBit j = _
    conv => lhs; rw [e]
    exact Nat.testBit_two_pow_mul_add _ (by omega) j
  have b2 : (a + 1#64).getLsbD j = (if j < t + 1 then (2 ^ t).testBit j else (a.toNat / 2 ^ (t + 1)).testBit (j - (t + 1))) := by
    show (a + 1#64).toNat.testBit j = _
    rw [e1]
    exact Nat.testBit_two_pow_mul_add _ hp j
  rw [b1, b2, Nat.testBit_two_pow_sub_one, Nat.testBit_two_pow]
  rcases Nat.lt_trichotomy j t with h1 | h1 | h1
  · rw [if_pos (by omega), if_pos (by omega)]
    simp [h1, hj, show ¬ t = j by omega]
  · rw [if_pos (by omega), if_pos (by omega), decide_eq_false (p := j < t) (by omega)]
    simp
  · rw [if_neg (by omega), if_neg (by omega), decide_eq_false (p := j < t) (by omega)]
    cases (a.toNat / 2 ^ (t + 1)).testBit (j - (t + 1)) <;> simp
theorem low_bits {t : Nat} (ht : t < 54) : BitVec.ofNat 64 (2 ^ t - 1) <<< 1 ||| 1#64 = BitVec.ofNat 64 (2 ^ (t + 1) - 1) := by
  apply BitVec.eq_of_getLsbD_eq
  intro j hj
  rw [BitVec.getLsbD_or, BitVec.getLsbD_shiftLeft, BitVec.getLsbD_ofNat, BitVec.getLsbD_ofNat, BitVec.getLsbD_ofNat, Nat.testBit_two_pow_sub_one, Nat.testBit_two_pow_sub_one]
  cases j with
  | zero => simp
  | succ j =>
    have : Nat.testBit 1 (j + 1) = false := by rw [Nat.testBit_succ]; simp
    rw [this, decide_eq_true hj, decide_eq_true (show j + 1 - 1 < 64 by omega), decide_eq_false (show ¬ j + 1 < 1 by omega)]
    simp only [Nat.add_sub_cancel, Bool.not_false, Bool.true_and, Bool.and_false, Bool.or_false]
    exact decide_eq_decide.2 (by omega)
theorem clear_bits (a : B64) (k : Nat) (hk : k ≤ 63) : (a &&& ~~~(BitVec.ofNat 64 (2 ^ k - 1))).toNat = a.toNat / 2 ^ k * 2 ^ k := by
  have e : a &&& ~~~(BitVec.ofNat 64 (2 ^ k - 1)) = (a >>> k) <<< k := by
    apply BitVec.eq_of_getLsbD_eq
    intro j hj
    rw [BitVec.getLsbD_and, BitVec.getLsbD_not, BitVec.getLsbD_ofNat, Nat.testBit_two_pow_sub_one, BitVec.getLsbD_shiftLeft, BitVec.getLsbD_ushiftRight, decide_eq_true hj]
    by_cases h : j < k
    · rw [decide_eq_true h]; simp
    · rw [decide_eq_false h, show k + (j - k) = j by omega]; simp
  rw [e, BitVec.toNat_shiftLeft, BitVec.toNat_ushiftRight, Nat.shiftLeft_eq, Nat.shiftRight_eq_div_pow]
  have h1 : a.toNat / 2 ^ k * 2 ^ k ≤ a.toNat := Nat.div_mul_le_self _ _
  exact Nat.mod_eq_of_lt (by have := a.isLt; omega)
/-- The range of a power of two, as the document counts it. -/
theorem napot_nat {a : B64} {t : Nat} (ht : t < 54) (h : a.toNat % 2 ^ (t + 1) = 2 ^ t - 1) (ha : a.toNat < 2 ^ 54) :
    ((a &&& ~~~((a &&& ~~~(a + 1#64)) <<< 1 ||| 1#64)) <<< 2).toNat = 4 * a.toNat / (8 * 2 ^ t) * (8 * 2 ^ t) ∧
    ((a &&& ~~~((a &&& ~~~(a + 1#64)) <<< 1 ||| 1#64)) <<< 2 + (((a &&& ~~~(a + 1#64)) <<< 1 ||| 1#64) <<< 2 ||| 3#64)).toNat = 4 * a.toNat / (8 * 2 ^ t) * (8 * 2 ^ t) + (8 * 2 ^ t - 1) := by
  rw [ones_bits ht h ha, low_bits ht]
  have hp : 2 ^ (t + 1) = 2 * 2 ^ t := by rw [Nat.pow_succ]; omega
  have hp0 : 0 < 2 ^ t := Nat.pow_pos (by decide)
  have hpt : 2 ^ t ≤ 2 ^ 53 := Nat.pow_le_pow_right (by decide) (by omega)
  have hc := clear_bits a (t + 1) (by omega)
  have hq : 4 * a.toNat / (8 * 2 ^ t) = a.toNat / 2 ^ (t + 1) := by
    rw [hp, show 8 * 2 ^ t = 4 * (2 * 2 ^ t) by omega, Nat.mul_div_mul_left _ _ (by decide)]
  have hle : a.toNat / 2 ^ (t + 1) * 2 ^ (t + 1) ≤ a.toNat := Nat.div_mul_le_self _ _
  have h1 : ((a &&& ~~~(BitVec.ofNat 64 (2 ^ (t + 1) - 1))) <<< 2).toNat = 4 * a.toNat / (8 * 2 ^ t) * (8 * 2 ^ t) := by
    rw [BitVec.toNat_shiftLeft, hc, hq, Nat.shiftLeft_eq, Nat.mod_eq_of_lt (by omega), show 8 * 2 ^ t = 2 ^ (t + 1) * 4 by omega, ← Nat.mul_assoc]
  have hlow : (BitVec.ofNat 64 (2 ^ (t + 1) - 1)).toNat = 2 ^ (t + 1) - 1 := by
    rw [BitVec.toNat_ofNat, Nat.mod_eq_of_lt (by omega)]
  have h2 : (BitVec.ofNat 64 (2 ^ (t + 1) - 1) <<< 2 ||| 3#64).toNat = 8 * 2 ^ t - 1 := by
    rw [BitVec.toNat_or, BitVec.toNat_shiftLeft, hlow, show (3#64).toNat = 3 from rfl, Nat.mod_eq_of_lt (by rw [Nat.shiftLeft_eq]; omega), ← Nat.shiftLeft_add_eq_or_of_lt (by decide), Nat.shiftLeft_eq]
    omega
  refine ⟨h1, ?_⟩
  rw [BitVec.toNat_add, h1, h2, Nat.mod_eq_of_lt]
  rw [hq, show 8 * 2 ^ t = 2 ^ (t + 1) * 4 by omega, ← Nat.mul_assoc]
  have : a.toNat / 2 ^ (t + 1) * 2 ^ (t + 1) + 2 ^ (t + 1) ≤ 2 ^ 54 := by
    have h3 : a.toNat / 2 ^ (t + 1) < 2 ^ 54 / 2 ^ (t + 1) := by
      rw [Nat.div_lt_iff_lt_mul (by omega), Nat.div_mul_cancel (Nat.pow_dvd_pow 2 (by omega))]
      exact ha
    have h4 : (a.toNat / 2 ^ (t + 1) + 1) * 2 ^ (t + 1) ≤ 2 ^ 54 / 2 ^ (t + 1) * 2 ^ (t + 1) := Nat.mul_le_mul_right _ h3
    rw [Nat.div_mul_cancel (Nat.pow_dvd_pow 2 (by omega)), Nat.add_mul] at h4
    omega
  omega
end Go.Anv

/- Memory protection: contracts of the functions that tell an entry's range, the program's and the document's. No condition. -/
namespace Go.Anv
open Go
theorem kindOf_lt (c : B8) : kindOf c < 4 := by
  unfold kindOf
  rw [BitVec.toNat_and]
  exact Nat.lt_of_le_of_lt Nat.and_le_right (by decide)
theorem kind8 (c : B8) : IntKind.i64.wrap (bitX .and .u8 ((c.toNat : Int).fdiv (2 ^ min (Int.toNat 3) IntKind.u8.bits)) 3) = (kindOf c : Int) := by
  have h : (c.toNat : Int).fdiv (2 ^ min (Int.toNat 3) IntKind.u8.bits) = ((c >>> 3).toNat : Int) := fdiv_pow _ 3
  have hk := kindOf_lt c
  rw [h, and_u8, ofInt_toNat]
  exact i64_in (by omega) (by show ((kindOf c : Nat) : Int) ≤ _; omega)
theorem kind64 (c : B8) : bitX .and .i64 (IntKind.i64.wrap ((c.toNat : Int).fdiv (2 ^ min (Int.toNat 3) IntKind.u8.bits))) 3 = (kindOf c : Int) := by
  have h : (c.toNat : Int).fdiv (2 ^ min (Int.toNat 3) IntKind.u8.bits) = ((c >>> 3).toNat : Int) := fdiv_pow _ 3
  have hc := (c >>> 3).isLt
  have hk := kindOf_lt c
  rw [h, i64_in (by omega) (by omega), and_i64, BitVec.toInt_eq_toNat_of_lt]
  · rw [BitVec.toNat_and, BitVec.toNat_ofInt, kindOf, BitVec.toNat_and]
    have e1 : (((c >>> 3).toNat : Int) % ((2 ^ 64 : Nat) : Int)).toNat = (c >>> 3).toNat := by omega
    rw [e1]
    rfl
  · have : (BitVec.ofInt 64 ((c >>> 3).toNat : Int) &&& BitVec.ofInt 64 3).toNat ≤ 3 := by
      rw [BitVec.toNat_and]
      exact Nat.and_le_right
    omega
theorem add64 (a b : B64) : IntKind.u64.wrap ((a.toNat : Int) + (b.toNat : Int)) = ((a + b).toNat : Int) := by
  rw [wrap_u64, BitVec.ofInt_add, ofInt_toNat, ofInt_toNat]
theorem sub64 (a b : B64) : IntKind.u64.wrap ((a.toNat : Int) - (b.toNat : Int)) = ((a - b).toNat : Int) := by
  have ha := a.isLt
  have hb := b.isLt
  rw [wrap_u64, BitVec.toNat_ofInt, BitVec.toNat_sub]
  omega
theorem mul64 (a b : B64) : IntKind.u64.wrap ((a.toNat : Int) * (b.toNat : Int)) = ((a * b).toNat : Int) := by
  rw [wrap_u64, BitVec.ofInt_mul, ofInt_toNat, ofInt_toNat]
theorem mul4 (a : B64) : IntKind.u64.wrap (4 * (a.toNat : Int)) = ((a <<< 2).toNat : Int) := by
  refine (mul64 4#64 a).trans ?_
  rw [BitVec.toNat_mul, BitVec.toNat_shiftLeft, Nat.shiftLeft_eq, Nat.mul_comm]
  rfl
theorem shl2_lt {a b : B64} (ha : a.toNat < 2 ^ 54) (hb : b.toNat < 2 ^ 54) : a <<< 2 < b <<< 2 ↔ a.toNat < b.toNat := by
  rw [BitVec.lt_def, BitVec.toNat_shiftLeft, BitVec.toNat_shiftLeft, Nat.shiftLeft_eq, Nat.shiftLeft_eq, Nat.mod_eq_of_lt (by omega), Nat.mod_eq_of_lt (by omega)]
  omega
theorem wnat {x : Nat} (h : x < 2 ^ 64) : IntKind.u64.wrap (x : Int) = (x : Int) := by
  rw [wrap_u64, BitVec.toNat_ofInt]; omega
theorem shl64 (a : B64) (k : Nat) : IntKind.u64.wrap ((a.toNat : Int) * 2 ^ k) = ((a <<< k).toNat : Int) := by rw [wrap_u64, mul_pow]
end Go.Anv
namespace Go.Proofs.Ytghcdkpgcanpgaa
open Go Go.Anv
theorem kind_spec (c : B8) (h : List Blk) : Does TB 113 [.s (.int .u8 c.toNat)] h (fun v h' => v = .s (.int .i64 (kindOf c : Int)) ∧ h' = h) := by
  refine fnX_pure TB Try.func113 rfl (by decide) rfl _ rfl (fun O on => ?_) h
  refine need_intro (by decide) ?_
  exact ⟨rfl, kind8 c⟩
theorem rkind_spec (cfg : Nat → B8) (addr : Nat → B64) (i : Nat) (hi : i < 16) (h : List Blk) : Does TB 152 [.agg (pmpSeg cfg addr), .s (.int .i64 (i : Int))] h (fun v h' => v = .s (.int .i64 (kindOf (cfg i) : Int)) ∧ h' = h) := by
  refine fnX_pure TB Try.func152 rfl (by decide) rfl _ rfl (fun O on => ?_) h
  repeat (refine need_intro (by first | omega | decide | fail) ?_)
  refine ⟨rfl, ?_⟩
  exact kind64 (cfg i)
theorem span_spec (cfg : Nat → B8) (addr : Nat → B64) (i : Int) (h : List Blk) : Does TB 106 [.agg (pmpSeg cfg addr), .s (.int .i64 i)] h (fun v h' => v = spanE (spanI cfg addr i) ∧ h' = h) := by
  refine fnX_pure TB Try.func106 rfl (by decide) rfl _ (spanE_noPtr _) (fun O on => ?_) h
  repeat (refine need_intro (by first | exact fun h => h | (simp; done) | fail) ?_)
  refine ifB_intro (fun h1 => ?_) (fun h1 => ?_)
  · have : i < 0 ∨ 15 < i := by
      by_cases hi : i < 0
      · exact .inl hi
      · rw [decide_eq_false hi] at h1
        exact .inr (of_decide_eq_true h1)
    rw [spanI, if_pos this]
    exact eqvE_refl _
  have hi : 0 ≤ i ∧ i ≤ 15 := by
    by_cases hi : i < 0
    · rw [decide_eq_true hi] at h1; cases h1
    · rw [decide_eq_false hi] at h1
      have := of_decide_eq_false h1
      omega
  obtain ⟨n, rfl⟩ : ∃ n : Nat, i = (n : Int) := ⟨i.toNat, by omega⟩
  have hn : n < 16 := by omega
  rw [spanI, if_neg (by omega), Int.toNat_natCast]
  refine (properP_spec cfg addr _).mono ?_
  rintro _ _ ⟨rfl, rfl⟩
  generalize (fun j => cfgOf (cfg j)) = C
  generalize (fun j => addr j &&& addrBits) = A
  generalize ho : spanP C A n = o
  unfold spanP at ho
  repeat (refine need_intro (by first | rfl | (constructor <;> omega) | omega | fail) ?_)
  refine (kind_spec (C n) _).mono ?_
  rintro _ _ ⟨rfl, rfl⟩
  have hlt := kindOf_lt (C n)
  generalize hk : kindOf (C n) = k at hlt ho ⊢
  match k, hlt with
  | 0, _ =>
    subst ho
    exact eqvE_refl _
  | 1, _ =>
    rw [if_pos rfl] at ho
    refine ifB_intro (fun h2 => ?_) (fun h2 => ?_)
    · obtain ⟨m, rfl⟩ : ∃ m, n = m + 1 := ⟨n - 1, by have := of_decide_eq_true h2; omega⟩
      have hw : IntKind.i64.wrap (((m + 1 : Nat) : Int) - 1) = (m : Int) := by rw [i64_in (by omega) (by omega)]; omega
      refine need_intro (by rw [hw]; omega) ?_
      refine need_intro (by rw [hw, Int.toNat_natCast]; omega) ?_
      refine need_intro (by decide) ?_
      refine need_intro (by decide) ?_
      rw [hw]
      rw [if_pos (Nat.succ_pos m), Nat.add_sub_cancel] at ho
      have e1 : IntKind.u64.wrap (wfun A ((m + 1 : Nat) : Int).toNat * 2 ^ min (Int.toNat 2) IntKind.u64.bits) = ((A (m + 1) <<< 2).toNat : Int) := shl64 _ 2
      have e2 : IntKind.u64.wrap (wfun A ((m : Nat) : Int).toNat * 2 ^ min (Int.toNat 2) IntKind.u64.bits) = ((A m <<< 2).toNat : Int) := shl64 _ 2
      rw [e1, e2]
      refine ifB_intro (fun h3 => ?_) (fun h3 => ?_)
      · rw [gt_nat] at h3
        rw [if_pos (of_decide_eq_true h3)] at ho
        subst ho
        refine ⟨⟨rfl, rfl⟩, ⟨rfl, ?_⟩, ⟨rfl, trivial⟩⟩
        exact sub64 _ 1#64
      · rw [gt_nat] at h3
        rw [if_neg (of_decide_eq_false h3)] at ho
        subst ho
        exact eqvE_refl _
    · have h0 : n = 0 := by have := of_decide_eq_false h2; omega
      subst h0
      refine need_intro (by decide) ?_
      rw [if_neg (Nat.lt_irrefl 0)] at ho
      have e1 : IntKind.u64.wrap (wfun A ((0 : Nat) : Int).toNat * 2 ^ min (Int.toNat 2) IntKind.u64.bits) = ((A 0 <<< 2).toNat : Int) := shl64 _ 2
      rw [e1]
      refine ifB_intro (fun h3 => ?_) (fun h3 => ?_)
      · have h3 : 0#64 < A 0 <<< 2 := by have := of_decide_eq_true h3; rw [BitVec.lt_def]; simp only [BitVec.toNat_ofNat]; omega
        rw [if_pos h3] at ho
        subst ho
        refine ⟨⟨rfl, rfl⟩, ⟨rfl, ?_⟩, ⟨rfl, trivial⟩⟩
        exact sub64 _ 1#64
      · have h3 : ¬ 0#64 < A 0 <<< 2 := by have := of_decide_eq_false h3; rw [BitVec.lt_def]; simp only [BitVec.toNat_ofNat]; omega
        rw [if_neg h3] at ho
        subst ho
        exact eqvE_refl _
  | 2, _ =>
    refine need_intro (by decide) ?_
    refine need_intro (by decide) ?_
    have e1 : IntKind.u64.wrap (wfun A ((n : Nat) : Int).toNat * 2 ^ min (Int.toNat 2) IntKind.u64.bits) = ((A n <<< 2).toNat : Int) := shl64 _ 2
    rw [if_neg (by decide), if_pos rfl] at ho
    subst ho
    refine ⟨⟨rfl, e1⟩, ⟨rfl, ?_⟩, ⟨rfl, trivial⟩⟩
    rw [e1]; exact add64 _ 3#64
  | 3, _ =>
    rw [if_neg (by decide), if_neg (by decide), if_pos rfl] at ho
    refine ifB_intro (fun h2 => ?_) (fun h2 => ?_)
    · have h2 : A n = addrBits := by
        have h2 : (((A n).toNat : Int) == 18014398509481983) = true := h2
        rw [beq_lit _ _ (by decide) (by decide)] at h2
        exact eq_of_beq h2
      rw [if_pos h2] at ho
      subst ho
      exact eqvE_refl _
    · have h2 : ¬ A n = addrBits := by
        have h2 : (((A n).toNat : Int) == 18014398509481983) = false := h2
        rw [beq_lit _ _ (by decide) (by decide)] at h2
        exact ne_of_beq_false h2
      rw [if_neg h2] at ho
      subst ho
      repeat (refine need_intro (by decide) ?_)
      have a1 : IntKind.u64.wrap (((A n).toNat : Int) + 1) = ((A n + 1#64).toNat : Int) := add64 _ 1#64
      have hwf : wfun A ((n : Nat) : Int).toNat = ((A n).toNat : Int) := rfl
      have hm1 : min (Int.toNat 1) IntKind.u64.bits = 1 := by decide
      have hm2 : min (Int.toNat 2) IntKind.u64.bits = 2 := by decide
      refine ⟨⟨rfl, ?_⟩, ⟨rfl, ?_⟩, ⟨rfl, trivial⟩⟩ <;> simp only [hwf, a1, hm1, hm2, andNot_u64, or_u64, shl64, add64, ofInt_toNat, BitVec.reduceOfInt]
theorem rspan_spec (cfg : Nat → B8) (addr : Nat → B64) (i : Int) (h : List Blk) : Does TB 114 [.agg (pmpSeg cfg addr), .s (.int .i64 i)] h (fun v h' => v = spanE (spanI cfg addr i) ∧ h' = h) := by
  refine fnX_pure TB Try.func114 rfl (by decide) rfl _ (spanE_noPtr _) (fun O on => ?_) h
  refine (rproperP_spec cfg addr _).mono ?_
  rintro _ _ ⟨rfl, rfl⟩
  refine need_intro rfl ?_
  repeat (refine need_intro (by first | exact fun h => h | (simp; done) | fail) ?_)
  refine ifB_intro (fun h1 => ?_) (fun h1 => ?_)
  · have : i < 0 ∨ 15 < i := by
      by_cases hi : i < 0
      · exact .inl hi
      · rw [decide_eq_false hi] at h1
        exact .inr (of_decide_eq_true h1)
    rw [spanI, if_pos this]
    exact eqvE_refl _
  have hi : 0 ≤ i ∧ i ≤ 15 := by
    by_cases hi : i < 0
    · rw [decide_eq_true hi] at h1; cases h1
    · rw [decide_eq_false hi] at h1
      have := of_decide_eq_false h1
      omega
  obtain ⟨n, rfl⟩ : ∃ n : Nat, i = (n : Int) := ⟨i.toNat, by omega⟩
  have hn : n < 16 := by omega
  have hA : ∀ j, (addr j &&& addrBits).toNat < 2 ^ 54 := fun j => addrBits_lt _
  rw [spanI, if_neg (by omega), Int.toNat_natCast]
  generalize (fun j => cfgOf (cfg j)) = C
  change ∀ j, ((fun j => addr j &&& addrBits) j).toNat < 2 ^ 54 at hA
  generalize (fun j => addr j &&& addrBits) = A at hA ⊢
  generalize ho : spanP C A n = o
  unfold spanP at ho
  repeat (refine need_intro (by first | rfl | (constructor <;> omega) | omega | fail) ?_)
  refine (rkind_spec C A n hn _).mono ?_
  rintro _ _ ⟨rfl, rfl⟩
  have hlt := kindOf_lt (C n)
  generalize hk : kindOf (C n) = k at hlt ho ⊢
  match k, hlt with
  | 0, _ =>
    subst ho
    exact eqvE_refl _
  | 1, _ =>
    rw [if_pos rfl] at ho
    refine ifB_intro (fun h2 => ?_) (fun h2 => ?_)
    · obtain ⟨m, rfl⟩ : ∃ m, n = m + 1 := ⟨n - 1, by have := of_decide_eq_true h2; omega⟩
      have hw : IntKind.i64.wrap (((m + 1 : Nat) : Int) - 1) = (m : Int) := by rw [i64_in (by omega) (by omega)]; omega
      refine need_intro (by rw [hw]; omega) ?_
      refine need_intro (by rw [hw, Int.toNat_natCast]; omega) ?_
      rw [hw]
      rw [if_pos (Nat.succ_pos m), Nat.add_sub_cancel] at ho
      have h4 := shl2_lt (hA m) (hA (m + 1))
      refine ifB_intro (fun h3 => ?_) (fun h3 => ?_)
      · have h3 : decide ((A m).toNat ≥ (A (m + 1)).toNat) = true := by rw [← h3]; exact decide_eq_decide.2 (by show _ ↔ (((A m).toNat : Nat) : Int) ≥ (((A (m + 1)).toNat : Nat) : Int); omega)
        rw [if_neg (fun h5 => absurd (h4.1 h5) (by have := of_decide_eq_true h3; omega))] at ho
        subst ho
        exact eqvE_refl _
      · have h3 : decide ((A m).toNat ≥ (A (m + 1)).toNat) = false := by rw [← h3]; exact decide_eq_decide.2 (by show _ ↔ (((A m).toNat : Nat) : Int) ≥ (((A (m + 1)).toNat : Nat) : Int); omega)
        rw [if_pos (h4.2 (by have := of_decide_eq_false h3; omega))] at ho
        subst ho
        refine ⟨⟨rfl, mul4 _⟩, ⟨rfl, ?_⟩, ⟨rfl, trivial⟩⟩
        exact (congrArg (fun z => IntKind.u64.wrap (z - 1)) (mul4 (A (m + 1)))).trans (sub64 _ 1#64)
    · have h0 : n = 0 := by have := of_decide_eq_false h2; omega
      subst h0
      rw [if_neg (Nat.lt_irrefl 0)] at ho
      have h4 : 0#64 < A 0 <<< 2 ↔ (0#64).toNat < (A 0).toNat := shl2_lt (a := 0#64) (by decide) (hA 0)
      refine ifB_intro (fun h3 => ?_) (fun h3 => ?_)
      · have h3 := of_decide_eq_true h3
        have h3 : (0 : Int) ≥ (((A 0).toNat : Nat) : Int) := h3
        rw [if_neg (fun h5 => absurd (h4.1 h5) (by simp only [BitVec.toNat_ofNat]; omega))] at ho
        subst ho
        exact eqvE_refl _
      · have h3 := of_decide_eq_false h3
        have h3 : ¬ (0 : Int) ≥ (((A 0).toNat : Nat) : Int) := h3
        rw [if_pos (h4.2 (by simp only [BitVec.toNat_ofNat]; omega))] at ho
        subst ho
        refine ⟨⟨rfl, by decide⟩, ⟨rfl, ?_⟩, ⟨rfl, trivial⟩⟩
        exact (congrArg (fun z => IntKind.u64.wrap (z - 1)) (mul4 (A 0))).trans (sub64 _ 1#64)
  | 2, _ =>
    rw [if_neg (by decide), if_pos rfl] at ho
    subst ho
    refine ⟨⟨rfl, mul4 _⟩, ⟨rfl, ?_⟩, ⟨rfl, trivial⟩⟩
    exact (congrArg (fun z => IntKind.u64.wrap (z + 3)) (mul4 (A n))).trans (add64 _ 3#64)
  | 3, _ =>
    rw [if_neg (by decide), if_neg (by decide), if_pos rfl] at ho
    have hAn := hA n
    refine loop_by (A := Nat) on (fun t => [(9, .s (.int .i64 (t : Int)))]) (fun _ => [.cells true (pmpSeg C A) 0]) (fun t => t ≤ 54 ∧ (A n).toNat % 2 ^ t = 2 ^ t - 1) (fun t => 54 - t) 0 ⟨by omega, Nat.mod_one _⟩ ?_ ?_
    · refine ⟨?_, eqvB_refl _, trivial⟩
      repeat' (first | exact eqvT_nil | refine eqvT_junk ?_ | refine eqvT_same ?_ | refine eqvT_int ?_ ?_)
    intro t ⟨ht, hb⟩
    have hwt : IntKind.u64.wrap (t : Int) = (t : Int) := by rw [wrap_u64, BitVec.toNat_ofInt]; omega
    repeat (refine need_intro (by first | exact fun h => h | (rw [hwt]; omega) | (simp; done) | fail) ?_)
    have hbit : (bitX .and .u64 ((wfun A (n : Int).toNat).fdiv (2 ^ min (IntKind.u64.wrap (t : Int)).toNat IntKind.u64.bits)) 1 == 1) = decide ((A n).toNat / 2 ^ t % 2 = 1) := by
      rw [hwt, Int.toNat_natCast t, show min t IntKind.u64.bits = t from Nat.min_eq_left (by show t ≤ 64; omega)]
      show (bitX .and .u64 (((A n).toNat : Int).fdiv (2 ^ t)) 1 == 1) = _
      rw [fdiv_pow, and_u64, ofInt_toNat, beq_lit _ _ (by decide) (by decide), Bool.eq_iff_iff, beq_iff_eq, decide_eq_true_iff, ← BitVec.toNat_inj, BitVec.toNat_and, BitVec.toNat_ushiftRight, Nat.shiftRight_eq_div_pow, show (BitVec.ofInt 64 1).toNat = 1 from rfl, Nat.and_one_is_mod]
    rw [hbit]
    have hmp := Nat.mod_pow_succ (x := (A n).toNat) (b := 2) (k := t)
    refine ifB_intro (fun h2 => ?_) (fun h2 => ?_)
    · have ht4 : t < 54 := by
        rcases Nat.lt_or_ge t 54 with h | h
        · exact h
        · rw [decide_eq_false (by omega)] at h2; cases h2
      have hb1 : (A n).toNat / 2 ^ t % 2 = 1 := by
        rw [decide_eq_true (by omega)] at h2
        exact of_decide_eq_true h2
      have h0 : 0 < 2 ^ t := Nat.pow_pos (by decide)
      refine ⟨t + 1, ⟨by omega, ?_⟩, by simp only; omega, ?_⟩
      · rw [hmp, hb, hb1, Nat.pow_succ]; omega
      refine ⟨?_, eqvB_refl _, trivial⟩
      repeat' (first | exact eqvT_nil | refine eqvT_junk ?_ | refine eqvT_same ?_ | refine eqvT_int ?_ ?_)
      rw [i64_in (by omega) (by omega)]; omega
    · refine ifB_intro (fun h3 => ?_) (fun h3 => ?_)
      · have h3 : t = 54 := by have := eq_of_beq h3; omega
        subst h3
        rw [Nat.mod_eq_of_lt hAn] at hb
        have hAe : A n = addrBits := BitVec.eq_of_toNat_eq hb
        rw [if_pos hAe] at ho
        subst ho
        exact eqvE_refl _
      · have h3 : t < 54 := by
          have := ne_of_beq_false h3
          omega
        have hb0 : (A n).toNat / 2 ^ t % 2 = 0 := by
          rw [decide_eq_true (by omega)] at h2
          have := of_decide_eq_false h2
          omega
        rw [hb0, Nat.mul_zero, Nat.add_zero, hb] at hmp
        have hne : ¬ A n = addrBits := by
          intro e
          rw [e] at hb0
          have : ∀ t, t < 54 → ¬ addrBits.toNat / 2 ^ t % 2 = 0 := by decide
          exact this t h3 hb0
        rw [if_neg hne] at ho
        obtain ⟨e1, e2⟩ := napot_nat h3 hmp hAn
        refine loop_by (A := Nat) on (fun k => [(10, .s (.int .u64 ((8 * 2 ^ k : Nat) : Int))), (11, .s (.int .i64 (k : Int)))]) (fun _ => [.cells true (pmpSeg C A) 0]) (fun k => k ≤ t) (fun k => t - k) 0 (Nat.zero_le _) ?_ ?_
        · refine ⟨?_, eqvB_refl _, trivial⟩
          repeat' (first | exact eqvT_nil | refine eqvT_junk ?_ | refine eqvT_same ?_ | refine eqvT_int ?_ ?_)
        intro k hk
        refine ifB_intro (fun h4 => ?_) (fun h4 => ?_)
        · have hkt : k < t := by have := of_decide_eq_true h4; omega
          refine ⟨k + 1, hkt, by simp only; omega, ?_⟩
          have hp : 2 ^ k ≤ 2 ^ 53 := Nat.pow_le_pow_right (by decide) (by omega)
          refine ⟨?_, eqvB_refl _, trivial⟩
          repeat' (first | exact eqvT_nil | refine eqvT_junk ?_ | refine eqvT_same ?_ | refine eqvT_int ?_ ?_)
          · rw [wrap_u64, BitVec.toNat_ofInt, Nat.pow_succ]; omega
          · rw [i64_in (by omega) (by omega)]; omega
        · have hkt : k = t := by have := of_decide_eq_false h4; omega
          subst hkt
          have hp : 2 ^ k ≤ 2 ^ 53 := Nat.pow_le_pow_right (by decide) (by omega)
          have hp0 : 0 < 2 ^ k := Nat.pow_pos (by decide)
          refine need_intro (by omega) ?_
          subst ho
          have f0 : IntKind.u64.wrap (4 * wfun A (n : Int).toNat) = ((4 * (A n).toNat : Nat) : Int) := by
            show IntKind.u64.wrap (4 * (((A n).toNat : Nat) : Int)) = _
            rw [wrap_u64, BitVec.toNat_ofInt]; omega
          rw [f0]
          generalize hq : 4 * (A n).toNat / (8 * 2 ^ k) = q at e1 e2
          have hd : ((4 * (A n).toNat : Nat) : Int).tdiv ((8 * 2 ^ k : Nat) : Int) = (q : Int) := by rw [← hq]; rfl
          have hq1 : q * (8 * 2 ^ k) ≤ 4 * (A n).toNat := by rw [← hq]; exact Nat.div_mul_le_self _ _
          have hq2 : q ≤ 4 * (A n).toNat := by rw [← hq]; exact Nat.div_le_self _ _
          have g1 : IntKind.u64.wrap (IntKind.u64.wrap (((4 * (A n).toNat : Nat) : Int).tdiv ((8 * 2 ^ k : Nat) : Int)) * ((8 * 2 ^ k : Nat) : Int)) = ((q * (8 * 2 ^ k) : Nat) : Int) := by
            rw [hd, wnat (by omega), ← Int.natCast_mul, wnat (by omega)]
          have g2 : IntKind.u64.wrap (((8 * 2 ^ k : Nat) : Int) - 1) = ((8 * 2 ^ k - 1 : Nat) : Int) := by
            rw [show ((8 * 2 ^ k : Nat) : Int) - 1 = ((8 * 2 ^ k - 1 : Nat) : Int) by omega, wnat (by omega)]
          have hlt2 := ((A n &&& ~~~((A n &&& ~~~(A n + 1#64)) <<< 1 ||| 1#64)) <<< 2 + (((A n &&& ~~~(A n + 1#64)) <<< 1 ||| 1#64) <<< 2 ||| 3#64)).isLt
          rw [e2] at hlt2
          refine ⟨⟨rfl, ?_⟩, ⟨rfl, ?_⟩, ⟨rfl, trivial⟩⟩
          · rw [g1, e1]
          · rw [g1, g2, e2, ← Int.natCast_add, wnat hlt2]
end Go.Proofs.Ytghcdkpgcanpgaa

/- Memory protection: which entry counts for an access; is a byte granted; the program's and the document's. No condition. -/
namespace Go.Anv
open Go
def inS : Option (B64 × B64) → B64 → Bool
  | none, _ => false
  | some (lo, hi), a => decide (lo ≤ a) && decide (a ≤ hi)
def cntS (S : Option (B64 × B64)) (a : B64) : Nat → Nat
  | 0 => 0
  | k + 1 => cntS S a k + (if inS S (a + BitVec.ofNat 64 k) = true then 1 else 0)
theorem cntS_le (S : Option (B64 × B64)) (a : B64) : ∀ k, cntS S a k ≤ k
  | 0 => Nat.le_refl _
  | k + 1 => by
    have := cntS_le S a k
    simp only [cntS]
    split <;> omega
theorem cntS_none (a : B64) : ∀ k, cntS none a k = 0
  | 0 => rfl
  | k + 1 => by simp only [cntS, cntS_none a k, inS]; rfl
/-- The first place from i on, k places long, at which f tells something. -/
def firstFrom {β : Type} (f : Nat → Option β) : Nat → Nat → Option β
  | 0, _ => none
  | k + 1, i => match f i with
    | some r => some r
    | none => firstFrom f k (i + 1)
def mtF (cfg : Nat → B8) (addr : Nat → B64) (a : B64) (n i : Nat) : Option (Nat × Bool) := if 0 < cntS (spanI cfg addr (i : Int)) a n then some (i, cntS (spanI cfg addr (i : Int)) a n == n) else none
def matchI (cfg : Nat → B8) (addr : Nat → B64) (a : B64) (size : Int) : Option (Nat × Bool) := if size < 1 ∨ 8 < size then none else firstFrom (mtF cfg addr a size.toNat) 16 0
def matchE : Option (Nat × Bool) → EV
  | none => .tuple [.s (.int .i64 (-1)), .s (.bool false)]
  | some (i, b) => .tuple [.s (.int .i64 (i : Int)), .s (.bool b)]
theorem matchE_noPtr (o : Option (Nat × Bool)) : noPtr (matchE o) = true := by rcases o with _ | ⟨i, b⟩ <;> rfl
theorem first_at {β : Type} {f : Nat → Option β} {k i : Nat} : firstFrom f (k + 1) i = (match f i with | some r => some r | none => firstFrom f k (i + 1)) := rfl
theorem firstFrom_lt {β : Type} {f : Nat → Option β} {P : β → Prop} (hf : ∀ i r, f i = some r → P r) : ∀ {k i : Nat} {r : β}, firstFrom f k i = some r → P r
  | 0, _, _, h => by cases h
  | k + 1, i, r, h => by
    rw [first_at] at h
    cases hi : f i with
    | some q => rw [hi] at h; simp only [Option.some.injEq] at h; subst h; exact hf i q hi
    | none => rw [hi] at h; exact firstFrom_lt hf h
theorem addk {a : B64} {k : Nat} (h : k < 2 ^ 64) : IntKind.u64.wrap ((a.toNat : Int) + IntKind.u64.wrap (k : Int)) = ((a + BitVec.ofNat 64 k).toNat : Int) := by
  rw [wnat h]
  have e : (k : Int) = ((BitVec.ofNat 64 k).toNat : Int) := by rw [BitVec.toNat_ofNat, Nat.mod_eq_of_lt h]
  rw [e, add64]
theorem int_beq (a b : Nat) : ((a : Int) == (b : Int)) = (a == b) := by
  rw [Bool.eq_iff_iff, beq_iff_eq, beq_iff_eq]; omega
theorem cond_and (a b : Bool) : (bif a then b else false) = (a && b) := by cases a <;> rfl
theorem mtF_lt {cfg : Nat → B8} {addr : Nat → B64} {a : B64} {n i : Nat} {r : Nat × Bool} (h : mtF cfg addr a n i = some r) : r.1 = i := by
  unfold mtF at h
  split at h
  · simp only [Option.some.injEq] at h; subst h; rfl
  · cases h
theorem first_lt {cfg : Nat → B8} {addr : Nat → B64} {a : B64} {n : Nat} : ∀ {k i : Nat} {r : Nat × Bool}, firstFrom (mtF cfg addr a n) k i = some r → r.1 < i + k
  | 0, _, _, h => by cases h
  | k + 1, i, r, h => by
    rw [first_at] at h
    cases hi : mtF cfg addr a n i with
    | some q => rw [hi] at h; simp only [Option.some.injEq] at h; subst h; have := mtF_lt hi; omega
    | none => rw [hi] at h; have := first_lt h; omega
theorem match_lt {cfg : Nat → B8} {addr : Nat → B64} {a : B64} {size : Int} {i : Nat} {b : Bool} (h : matchI cfg addr a size = some (i, b)) : i < 16 := by
  unfold matchI at h
  split at h
  · cases h
  · have := first_lt h; simpa using this
/-- Has a byte's entry one of these bits? -/
def grantI (cfg : Nat → B8) (addr : Nat → B64) (a : B64) (bits : Int) : Bool := match matchI (fun j => cfgOf (cfg j)) (fun j => addr j &&& addrBits) a 1 with
  | none => false
  | some (i, _) => bitX .and .i64 (bitX .and .i64 (IntKind.i64.wrap (bfun (fun j => cfgOf (cfg j)) i)) bits) 7 != 0
/-- Arguments that no access has. -/
def badI (mode size bits : Int) : Bool :=
  bif bif bif bif bif mode != 0 then mode != 3 else false then true else decide (size < 1) then true else decide (size > 8) then true else decide (bits < 1) then true else decide (bits > 7)
/-- Does an access pass? -/
def checkI (cfg : Nat → B8) (addr : Nat → B64) (mode : Int) (a : B64) (size bits : Int) : Bool :=
  if badI mode size bits = true then false else
  match matchI (fun j => cfgOf (cfg j)) (fun j => addr j &&& addrBits) a size with
  | none => mode == 3
  | some (i, all) => if all = false then false else if (mode == 3 && (cfgOf (cfg i)).getLsbD 7 == false) = true then true else bitX .and .i64 (IntKind.i64.wrap (bfun (fun j => cfgOf (cfg j)) i)) bits == bits
def lockA (cfg : Nat → B8) (i : Nat) : Bool := (cfg i).getLsbD 7
def lockT (cfg : Nat → B8) (i : Nat) : Bool := i < 15 && (cfg (i + 1)).getLsbD 7 && kindOf (cfg (i + 1)) == 1
theorem nt {b : Bool} (h : b = false) : (!b) = true := by rw [h]; rfl
theorem lock_bit (c : B8) : (bitX .and .u8 (c.toNat : Int) 128 == 0) = !c.getLsbD 7 := by
  rw [and_u8, ofInt_toNat, beq_lit _ _ (by decide) (by decide)]
  revert c; decide
theorem lock_bne (c : B8) : (bitX .and .u8 (c.toNat : Int) 128 != 0) = c.getLsbD 7 := by rw [bne, lock_bit, Bool.not_not]
end Go.Anv
namespace Go.Proofs.Ytghcdkpgcanpgaa
open Go Go.Anv
set_option maxRecDepth 100000 in
theorem match_spec (cfg : Nat → B8) (addr : Nat → B64) (a : B64) (size : Int) (h : List Blk) : Does TB 92 [.agg (pmpSeg cfg addr), .s (.int .u64 a.toNat), .s (.int .i64 size)] h (fun v h' => v = matchE (matchI cfg addr a size) ∧ h' = h) := by
  refine fnX_pure TB Try.func92 rfl (by decide) rfl _ (matchE_noPtr _) (fun O on => ?_) h
  repeat (refine need_intro (by first | exact fun h => h | (simp; done) | fail) ?_)
  refine ifB_intro (fun h1 => ?_) (fun h1 => ?_)
  · have : size < 1 ∨ 8 < size := by
      by_cases hi : size < 1
      · exact .inl hi
      · rw [decide_eq_false hi] at h1
        exact .inr (of_decide_eq_true h1)
    rw [matchI, if_pos this]
    exact eqvE_refl _
  have hi : 1 ≤ size ∧ size ≤ 8 := by
    by_cases hi : size < 1
    · rw [decide_eq_true hi] at h1; cases h1
    · rw [decide_eq_false hi] at h1
      have := of_decide_eq_false h1
      omega
  obtain ⟨n, rfl⟩ : ∃ n : Nat, size = (n : Int) := ⟨size.toNat, by omega⟩
  rw [matchI, if_neg (by omega), Int.toNat_natCast]
  generalize ho : firstFrom (mtF cfg addr a n) 16 0 = o
  refine loop_by (A := Nat) on (fun i => [(21, .s (.int .i64 (i : Int)))]) (fun _ => [.cells true (pmpSeg cfg addr) 0]) (fun i => i ≤ 16 ∧ firstFrom (mtF cfg addr a n) (16 - i) i = o) (fun i => 16 - i) 0 ⟨by omega, ho⟩ ?_ ?_
  · refine ⟨?_, eqvB_refl _, trivial⟩
    repeat' (first | exact eqvT_nil | refine eqvT_junk ?_ | refine eqvT_same ?_ | refine eqvT_int ?_ ?_)
  intro i ⟨hi16, hf⟩
  refine ifB_intro (fun h2 => ?_) (fun h2 => ?_)
  · have hlt : i < 16 := by have := of_decide_eq_true h2; omega
    rw [show 16 - i = (16 - (i + 1)) + 1 by omega, first_at] at hf
    refine (span_spec cfg addr (i : Int) _).mono ?_
    rintro _ _ ⟨rfl, rfl⟩
    have next : ∀ {P : Prop}, mtF cfg addr a n i = none → (firstFrom (mtF cfg addr a n) (16 - (i + 1)) (i + 1) = o → P) → P := fun h1 h2 => h2 (by rw [h1] at hf; exact hf)
    cases hs : spanI cfg addr (i : Int) with
    | none =>
      refine next (by unfold mtF; rw [hs, cntS_none]; rfl) (fun hf => ?_)
      refine ⟨i + 1, ⟨hlt, hf⟩, by simp only; omega, ?_⟩
      refine ⟨?_, eqvB_refl _, trivial⟩
      repeat' (first | exact eqvT_nil | refine eqvT_junk ?_ | refine eqvT_same ?_ | refine eqvT_int ?_ ?_)
      rw [i64_in (by omega) (by omega)]; omega
    | some p =>
      obtain ⟨lo, up⟩ := p
      refine loop_by (A := Nat) on (fun k => [(12, .s (.int .i64 ((cntS (some (lo, up)) a k : Nat) : Int))), (34, .s (.int .i64 (k : Int)))]) (fun _ => [.cells true (pmpSeg cfg addr) 0]) (fun k => k ≤ n) (fun k => n - k) 0 (Nat.zero_le _) ?_ ?_
      · refine ⟨?_, eqvB_refl _, trivial⟩
        repeat' (first | exact eqvT_nil | refine eqvT_junk ?_ | refine eqvT_same ?_ | refine eqvT_int ?_ ?_)
      intro k hk
      have hc := cntS_le (some (lo, up)) a k
      refine ifB_intro (fun h3 => ?_) (fun h3 => ?_)
      · have hkn : k < n := by have := of_decide_eq_true h3; omega
        repeat (refine need_intro (by first | exact fun h => h | (simp; done) | fail) ?_)
        have hcond : (bif decide (IntKind.u64.wrap ((a.toNat : Int) + IntKind.u64.wrap (k : Int)) ≥ (lo.toNat : Int)) then decide (IntKind.u64.wrap ((a.toNat : Int) + IntKind.u64.wrap (k : Int)) ≤ (up.toNat : Int)) else false) = inS (some (lo, up)) (a + BitVec.ofNat 64 k) := by
          rw [addk (by omega), ge_nat, le_nat]
          exact cond_and _ _
        rw [hcond]
        refine ifB_intro (fun h4 => ?_) (fun h4 => ?_)
        · refine ⟨k + 1, hkn, by simp only; omega, ?_⟩
          refine ⟨?_, eqvB_refl _, trivial⟩
          repeat' (first | exact eqvT_nil | refine eqvT_junk ?_ | refine eqvT_same ?_ | refine eqvT_int ?_ ?_)
          · rw [i64_in (by omega) (by omega), cntS, if_pos h4]; omega
          · rw [i64_in (by omega) (by omega)]; omega
        · refine ⟨k + 1, hkn, by simp only; omega, ?_⟩
          refine ⟨?_, eqvB_refl _, trivial⟩
          repeat' (first | exact eqvT_nil | refine eqvT_junk ?_ | refine eqvT_same ?_ | refine eqvT_int ?_ ?_)
          · rw [cntS, if_neg (by rw [h4]; decide)]; omega
          · rw [i64_in (by omega) (by omega)]; omega
      · have hkn : k = n := by have := of_decide_eq_false h3; omega
        subst hkn
        refine ifB_intro (fun h4 => ?_) (fun h4 => ?_)
        · have h4 : 0 < cntS (some (lo, up)) a k := by have := of_decide_eq_true h4; omega
          have e : mtF cfg addr a k i = some (i, cntS (some (lo, up)) a k == k) := by unfold mtF; rw [hs, if_pos h4]
          rw [e] at hf
          have hf : some (i, cntS (some (lo, up)) a k == k) = o := hf
          subst hf
          refine ⟨⟨rfl, rfl⟩, ⟨?_, trivial⟩⟩
          exact int_beq _ _
        · have h4 : ¬ 0 < cntS (some (lo, up)) a k := by have := of_decide_eq_false h4; omega
          refine next (by unfold mtF; rw [hs, if_neg h4]) (fun hf => ?_)
          refine ⟨i + 1, ⟨hlt, hf⟩, by simp only; omega, ?_⟩
          refine ⟨?_, eqvB_refl _, trivial⟩
          repeat' (first | exact eqvT_nil | refine eqvT_junk ?_ | refine eqvT_same ?_ | refine eqvT_int ?_ ?_)
          rw [i64_in (by omega) (by omega)]; omega
  · have h2 : i = 16 := by have := of_decide_eq_false h2; omega
    subst h2
    have hf : none = o := hf
    subst hf
    exact eqvE_refl _
theorem holds_spec (cfg : Nat → B8) (addr : Nat → B64) (i : Int) (a : B64) (h : List Blk) : Does TB 107 [.agg (pmpSeg cfg addr), .s (.int .i64 i), .s (.int .u64 a.toNat)] h (fun v h' => v = .s (.bool (inS (spanI cfg addr i) a)) ∧ h' = h) := by
  refine fnX_pure TB Try.func107 rfl (by decide) rfl _ rfl (fun O on => ?_) h
  refine (rspan_spec cfg addr i _).mono ?_
  rintro _ _ ⟨rfl, rfl⟩
  cases hs : spanI cfg addr i with
  | none =>
    repeat (refine need_intro (by first | exact fun h => h | (simp; done) | fail) ?_)
    exact rfl
  | some p =>
    obtain ⟨lo, up⟩ := p
    repeat (refine need_intro (by first | exact fun h => h | (simp; done) | fail) ?_)
    show (bif (bif true then decide (((lo.toNat : Nat) : Int) ≤ ((a.toNat : Nat) : Int)) else false) then decide (((a.toNat : Nat) : Int) ≤ ((up.toNat : Nat) : Int)) else false) = (decide (lo ≤ a) && decide (a ≤ up))
    rw [le_nat, le_nat]
    exact cond_and _ _
set_option maxRecDepth 100000 in
theorem rmatch_spec (cfg : Nat → B8) (addr : Nat → B64) (a : B64) (size : Int) (h : List Blk) : Does TB 94 [.agg (pmpSeg cfg addr), .s (.int .u64 a.toNat), .s (.int .i64 size)] h (fun v h' => v = matchE (matchI cfg addr a size) ∧ h' = h) := by
  refine fnX_pure TB Try.func94 rfl (by decide) rfl _ (matchE_noPtr _) (fun O on => ?_) h
  repeat (refine need_intro (by first | exact fun h => h | (simp; done) | fail) ?_)
  refine ifB_intro (fun h1 => ?_) (fun h1 => ?_)
  · have : size < 1 ∨ 8 < size := by
      by_cases hi : size < 1
      · exact .inl hi
      · rw [decide_eq_false hi] at h1
        exact .inr (of_decide_eq_true h1)
    rw [matchI, if_pos this]
    exact eqvE_refl _
  have hi : 1 ≤ size ∧ size ≤ 8 := by
    by_cases hi : size < 1
    · rw [decide_eq_true hi] at h1; cases h1
    · rw [decide_eq_false hi] at h1
      have := of_decide_eq_false h1
      omega
  obtain ⟨n, rfl⟩ : ∃ n : Nat, size = (n : Int) := ⟨size.toNat, by omega⟩
  rw [matchI, if_neg (by omega), Int.toNat_natCast]
  generalize ho : firstFrom (mtF cfg addr a n) 16 0 = o
  refine loop_by (A := Nat) on (fun i => [(8, .s (.int .i64 (i : Int)))]) (fun _ => [.cells true (pmpSeg cfg addr) 0]) (fun i => i ≤ 16 ∧ firstFrom (mtF cfg addr a n) (16 - i) i = o) (fun i => 16 - i) 0 ⟨by omega, ho⟩ ?_ ?_
  · refine ⟨?_, eqvB_refl _, trivial⟩
    repeat' (first | exact eqvT_nil | refine eqvT_junk ?_ | refine eqvT_same ?_ | refine eqvT_int ?_ ?_)
  intro i ⟨hi16, hf⟩
  refine ifB_intro (fun h2 => ?_) (fun h2 => ?_)
  · have hlt : i < 16 := by have := of_decide_eq_true h2; omega
    rw [show 16 - i = (16 - (i + 1)) + 1 by omega, first_at] at hf
    have next : ∀ {P : Prop}, mtF cfg addr a n i = none → (firstFrom (mtF cfg addr a n) (16 - (i + 1)) (i + 1) = o → P) → P := fun h1 h2 => h2 (by rw [h1] at hf; exact hf)
    refine loop_by (A := Nat) on (fun k => [(9, .s (.int .i64 ((cntS (spanI cfg addr (i : Int)) a k : Nat) : Int))), (10, .s (.int .i64 (k : Int)))]) (fun _ => [.cells true (pmpSeg cfg addr) 0]) (fun k => k ≤ n) (fun k => n - k) 0 (Nat.zero_le _) ?_ ?_
    · refine ⟨?_, eqvB_refl _, trivial⟩
      repeat' (first | exact eqvT_nil | refine eqvT_junk ?_ | refine eqvT_same ?_ | refine eqvT_int ?_ ?_)
    intro k hk
    have hc := cntS_le (spanI cfg addr (i : Int)) a k
    refine ifB_intro (fun h3 => ?_) (fun h3 => ?_)
    · have hkn : k < n := by have := of_decide_eq_true h3; omega
      refine Does.args (b := [_, _, .s (.int .u64 ((a + BitVec.ofNat 64 k).toNat : Int))]) ⟨eqvE_refl _, eqvE_refl _, ⟨rfl, addk (by omega)⟩, trivial⟩ ?_
      refine (holds_spec cfg addr (i : Int) (a + BitVec.ofNat 64 k) _).mono ?_
      rintro _ _ ⟨rfl, rfl⟩
      refine ifB_intro (fun h4 => ?_) (fun h4 => ?_)
      · refine ⟨k + 1, hkn, by simp only; omega, ?_⟩
        refine ⟨?_, eqvB_refl _, trivial⟩
        repeat' (first | exact eqvT_nil | refine eqvT_junk ?_ | refine eqvT_same ?_ | refine eqvT_int ?_ ?_)
        · rw [i64_in (by omega) (by omega), cntS, if_pos h4]; omega
        · rw [i64_in (by omega) (by omega)]; omega
      · refine ⟨k + 1, hkn, by simp only; omega, ?_⟩
        refine ⟨?_, eqvB_refl _, trivial⟩
        repeat' (first | exact eqvT_nil | refine eqvT_junk ?_ | refine eqvT_same ?_ | refine eqvT_int ?_ ?_)
        · rw [cntS, if_neg (by rw [h4]; decide)]; omega
        · rw [i64_in (by omega) (by omega)]; omega
    · have hkn : k = n := by have := of_decide_eq_false h3; omega
      subst hkn
      refine ifB_intro (fun h4 => ?_) (fun h4 => ?_)
      · have h4 : 0 < cntS (spanI cfg addr (i : Int)) a k := by have := of_decide_eq_true h4; omega
        have e : mtF cfg addr a k i = some (i, cntS (spanI cfg addr (i : Int)) a k == k) := by unfold mtF; rw [if_pos h4]
        rw [e] at hf
        have hf : some (i, cntS (spanI cfg addr (i : Int)) a k == k) = o := hf
        subst hf
        refine ⟨⟨rfl, rfl⟩, ⟨?_, trivial⟩⟩
        exact int_beq _ _
      · have h4 : ¬ 0 < cntS (spanI cfg addr (i : Int)) a k := by have := of_decide_eq_false h4; omega
        refine next (by unfold mtF; rw [if_neg h4]) (fun hf => ?_)
        refine ⟨i + 1, ⟨hlt, hf⟩, by simp only; omega, ?_⟩
        refine ⟨?_, eqvB_refl _, trivial⟩
        repeat' (first | exact eqvT_nil | refine eqvT_junk ?_ | refine eqvT_same ?_ | refine eqvT_int ?_ ?_)
        rw [i64_in (by omega) (by omega)]; omega
  · have h2 : i = 16 := by have := of_decide_eq_false h2; omega
    subst h2
    have hf : none = o := hf
    subst hf
    exact eqvE_refl _
theorem granted_spec (cfg : Nat → B8) (addr : Nat → B64) (a : B64) (bits : Int) (h : List Blk) : Does TB 60 [.agg (pmpSeg cfg addr), .s (.int .u64 a.toNat), .s (.int .i64 bits)] h (fun v h' => v = .s (.bool (grantI cfg addr a bits)) ∧ h' = h) := by
  refine fnX_pure TB Try.func60 rfl (by decide) rfl _ rfl (fun O on => ?_) h
  refine (properP_spec cfg addr _).mono ?_
  rintro _ _ ⟨rfl, rfl⟩
  refine need_intro rfl ?_
  refine (match_spec _ _ a 1 _).mono ?_
  rintro _ _ ⟨rfl, rfl⟩
  unfold grantI
  generalize hm : matchI (fun j => cfgOf (cfg j)) (fun j => addr j &&& addrBits) a 1 = m
  cases m with
  | none =>
    repeat (refine need_intro (by first | exact fun h => h | (simp; done) | fail) ?_)
    exact rfl
  | some p =>
    obtain ⟨i, b⟩ := p
    have hi := match_lt hm
    repeat (refine need_intro (by first | exact fun h => h | exact fun _ => (by omega) | exact fun _ => ⟨by omega, by omega⟩ | (simp; done) | fail) ?_)
    show (bif decide (((i : Nat) : Int) ≥ 0) then _ else false) = _
    rw [decide_eq_true (show ((i : Nat) : Int) ≥ 0 by omega)]
    rfl
theorem rgranted_spec (cfg : Nat → B8) (addr : Nat → B64) (a : B64) (bits : Int) (h : List Blk) : Does TB 62 [.agg (pmpSeg cfg addr), .s (.int .u64 a.toNat), .s (.int .i64 bits)] h (fun v h' => v = .s (.bool (grantI cfg addr a bits)) ∧ h' = h) := by
  refine fnX_pure TB Try.func62 rfl (by decide) rfl _ rfl (fun O on => ?_) h
  refine (rproperP_spec cfg addr _).mono ?_
  rintro _ _ ⟨rfl, rfl⟩
  refine need_intro rfl ?_
  refine (rmatch_spec _ _ a 1 _).mono ?_
  rintro _ _ ⟨rfl, rfl⟩
  unfold grantI
  generalize hm : matchI (fun j => cfgOf (cfg j)) (fun j => addr j &&& addrBits) a 1 = m
  cases m with
  | none =>
    repeat (refine need_intro (by first | exact fun h => h | (simp; done) | fail) ?_)
    exact rfl
  | some p =>
    obtain ⟨i, b⟩ := p
    have hi := match_lt hm
    repeat (refine need_intro (by first | exact fun h => h | exact fun _ => (by omega) | exact fun _ => ⟨by omega, by omega⟩ | (simp; done) | fail) ?_)
    show (bif decide (((i : Nat) : Int) ≥ 0) then _ else false) = _
    rw [decide_eq_true (show ((i : Nat) : Int) ≥ 0 by omega)]
    rfl
theorem pcheck_spec (cfg : Nat → B8) (addr : Nat → B64) (mode : Int) (a : B64) (size bits : Int) (h : List Blk) : Does TB 141 [.agg (pmpSeg cfg addr), .s (.int .i64 mode), .s (.int .u64 a.toNat), .s (.int .i64 size), .s (.int .i64 bits)] h (fun v h' => v = .s (.bool (checkI cfg addr mode a size bits)) ∧ h' = h) := by
  refine fnX_pure TB Try.func141 rfl (by decide) rfl _ rfl (fun O on => ?_) h
  repeat (refine need_intro (by first | exact fun h => h | exact nt | (simp; done) | fail) ?_)
  unfold checkI
  refine ifB_intro (fun h1 => ?_) (fun h1 => ?_)
  · have h1 : badI mode size bits = true := h1
    rw [if_pos h1]
    exact rfl
  have h1 : badI mode size bits = false := h1
  rw [if_neg (by rw [h1]; decide)]
  refine (properP_spec cfg addr _).mono ?_
  rintro _ _ ⟨rfl, rfl⟩
  refine need_intro rfl ?_
  refine (match_spec _ _ a size _).mono ?_
  rintro _ _ ⟨rfl, rfl⟩
  generalize hm : matchI (fun j => cfgOf (cfg j)) (fun j => addr j &&& addrBits) a size = m
  cases m with
  | none =>
    exact rfl
  | some p =>
    obtain ⟨i, b⟩ := p
    have hi := match_lt hm
    cases b with
    | false => exact rfl
    | true =>
      repeat (refine need_intro (by first | exact fun h => h | exact nt | exact fun _ => (by omega) | exact fun _ => ⟨by omega, by omega⟩ | (simp; done) | fail) ?_)
      have hc : (bif mode == 3 then bitX .and .u8 (bfun (fun j => cfgOf (cfg j)) (i : Int).toNat) 128 == 0 else false) = (mode == 3 && (cfgOf (cfg i)).getLsbD 7 == false) := by
        have e : (bitX .and .u8 (bfun (fun j => cfgOf (cfg j)) (i : Int).toNat) 128 == 0) = !(cfgOf (cfg i)).getLsbD 7 := lock_bit _
        rw [e, cond_and]
        cases (cfgOf (cfg i)).getLsbD 7 <;> rfl
      rw [hc]
      refine ifB_intro (fun h2 => ?_) (fun h2 => ?_)
      · show true = if true = false then false else if (mode == 3 && (cfgOf (cfg i)).getLsbD 7 == false) = true then true else _
        rw [if_pos h2]; rfl
      · repeat (refine need_intro (by first | omega | exact ⟨by omega, by omega⟩ | fail) ?_)
        show _ = if true = false then false else if (mode == 3 && (cfgOf (cfg i)).getLsbD 7 == false) = true then true else _
        rw [h2]; rfl
theorem plocked_spec (cfg : Nat → B8) (addr : Nat → B64) (i : Nat) (hi : i < 16) (h : List Blk) : Does TB 157 [.agg (pmpSeg cfg addr), .s (.int .i64 (i : Int))] h (fun v h' => v = .tuple [.s (.bool (lockA cfg i)), .s (.bool (lockA cfg i || lockT cfg i))] ∧ h' = h) := by
  refine fnX_pure TB Try.func157 rfl (by decide) rfl _ rfl (fun O on => ?_) h
  repeat (refine need_intro (by first | exact fun h => h | exact nt | (simp; done) | fail) ?_)
  refine ifB_intro (fun h1 => absurd h1 (by rw [decide_eq_false (show ¬ ((i : Nat) : Int) < 0 by omega), decide_eq_false (show ¬ ((i : Nat) : Int) > 15 by omega)]; decide)) (fun h1 => ?_)
  rcases Nat.lt_or_ge i 15 with h15 | h15
  · have hw : IntKind.i64.wrap ((i : Int) + 1) = ((i + 1 : Nat) : Int) := by rw [i64_in (by omega) (by omega)]; omega
    repeat (refine need_intro (by first | omega | exact ⟨by omega, by omega⟩ | exact fun h => h | exact nt | (intro _; rw [hw]; omega) | (intro _; rw [hw, Int.toNat_natCast]; omega) | (simp; done) | fail) ?_)
    have hc : (bif decide ((i : Int) < 15) then bitX .and .u8 (bfun cfg (IntKind.i64.wrap ((i : Int) + 1)).toNat) 128 != 0 else false) = (cfg (i + 1)).getLsbD 7 := by
      rw [hw, Int.toNat_natCast, decide_eq_true (by omega)]
      exact lock_bne _
    have hT : lockT cfg i = ((cfg (i + 1)).getLsbD 7 && kindOf (cfg (i + 1)) == 1) := by
      unfold lockT; rw [decide_eq_true h15]; rfl
    have hA : (bitX .and .u8 (bfun cfg (i : Int).toNat) 128 != 0) = lockA cfg i := lock_bne _
    refine ifB_intro (fun h2 => ?_) (fun h2 => ?_)
    · refine Does.ungd (b := [.s (.int .u8 ((cfg (i + 1)).toNat : Int))]) ⟨⟨h2, ?_⟩, trivial⟩ ?_
      · rw [hw, Int.toNat_natCast]; rfl
      refine (kind_spec (cfg (i + 1)) _).mono ?_
      rintro _ _ ⟨rfl, rfl⟩
      repeat (refine need_intro (by first | exact fun h => h | exact nt | (simp; done) | fail) ?_)
      refine ⟨hA, ?_, trivial⟩
      show (bif (bitX .and .u8 (bfun cfg (i : Int).toNat) 128 != 0) then true else bif (bif decide ((i : Int) < 15) then bitX .and .u8 (bfun cfg (IntKind.i64.wrap ((i : Int) + 1)).toNat) 128 != 0 else false) then ((kindOf (cfg (i + 1)) : Nat) : Int) == ((1 : Nat) : Int) else false) = (lockA cfg i || lockT cfg i)
      rw [hA, hc, hT, cond_and, int_beq]
      cases lockA cfg i <;> rfl
    · refine ifB_intro (fun h => absurd (h.symm.trans h2) (by decide)) (fun _ => ?_)
      repeat (refine need_intro (by first | exact fun h => h | exact nt | exact h2 | (simp; done) | fail) ?_)
      rw [hc] at h2
      refine ⟨hA, ?_, trivial⟩
      have hf : lockT cfg i = false := by rw [hT, h2]; rfl
      rw [hf]
      show (bif (bitX .and .u8 (bfun cfg (i : Int).toNat) 128 != 0) then true else false) = (lockA cfg i || false)
      rw [hA]
      cases lockA cfg i <;> rfl
  · have h15 : i = 15 := by omega
    subst h15
    repeat (refine need_intro (by first | omega | exact ⟨by omega, by omega⟩ | exact fun h => h | exact nt | (simp; done) | fail) ?_)
    have hA : (bitX .and .u8 (bfun cfg ((15 : Nat) : Int).toNat) 128 != 0) = lockA cfg 15 := lock_bne _
    refine ⟨hA, ?_, trivial⟩
    show (bif (bitX .and .u8 (bfun cfg ((15 : Nat) : Int).toNat) 128 != 0) then true else false) = (lockA cfg 15 || false)
    rw [hA]
    cases lockA cfg 15 <;> rfl
end Go.Proofs.Ytghcdkpgcanpgaa

/- Strings of bytes compared. Plain lemmas, contracts of functions. No condition. -/
namespace Go.Anv
open Go
def eqB (n : Nat) (p q : Nat → B8) : Bool := (List.range n).all fun j => p j == q j
theorem bytesOf_list (n : Nat) (f : Nat → Int) : (bytesOf n f).data.toList = (List.range n).map fun j => UInt8.ofNat (f j).toNat := by
  have key : ∀ (l : List Int) (r : ByteArray), (l.foldl (fun r x => r.push (UInt8.ofNat x.toNat)) r).data.toList = r.data.toList ++ l.map fun x => UInt8.ofNat x.toNat := by
    intro l
    induction l with
    | nil => intro r; simp
    | cons x l ih =>
      intro r
      rw [List.foldl_cons, ih]
      obtain ⟨d⟩ := r
      simp [ByteArray.push]
  unfold bytesOf
  rw [key, List.map_map]
  rfl
theorem map_beq {α β : Type} [BEq β] (F G : α → β) : ∀ l : List α, (l.map F == l.map G) = l.all fun x => F x == G x
  | [] => rfl
  | x :: l => by
    simp only [List.map_cons, List.all_cons]
    rw [← map_beq F G l]
    rfl
theorem u8_beq (a b : B8) : (UInt8.ofNat a.toNat == UInt8.ofNat b.toNat) = (a == b) := by
  rw [Bool.eq_iff_iff, beq_iff_eq, beq_iff_eq]
  constructor
  · intro h
    have h2 := congrArg UInt8.toNat h
    simp only [UInt8.toNat_ofNat'] at h2
    have ha := a.isLt
    have hb := b.isLt
    apply BitVec.eq_of_toNat_eq
    omega
  · rintro rfl; rfl
theorem bytes_beq {n : Nat} {f g : Nat → Int} {p q : Nat → B8} (hf : ∀ j, j < n → f j = (p j).toNat) (hg : ∀ j, j < n → g j = (q j).toNat) : (bytesOf n f == bytesOf n g) = eqB n p q := by
  rw [beq_toListBytes, ByteArray.toList_eq, ByteArray.toList_eq, bytesOf_list, bytesOf_list, map_beq]
  unfold eqB
  rw [Bool.eq_iff_iff, List.all_eq_true, List.all_eq_true]
  constructor
  · intro h j hj
    have h1 := h j hj
    rw [hf j (List.mem_range.1 hj), hg j (List.mem_range.1 hj)] at h1
    rw [← u8_beq]; exact h1
  · intro h j hj
    have h1 := h j hj
    rw [hf j (List.mem_range.1 hj), hg j (List.mem_range.1 hj)]
    rw [← u8_beq] at h1; exact h1
end Go.Anv
namespace Go.Proofs.Ytghcdkpgcanpgaa
open Go Go.Anv
set_option maxRecDepth 100000 in
theorem equal_spec (m1 m2 : Bool) (o1 o2 n c1 c2 k1 k2 s1 s2 : Nat) (f1 f2 : Nat → Int) (p q : Nat → B8) (h1 : o1 + n ≤ k1) (h2 : o2 + n ≤ k2) (hf : ∀ j, j < n → f1 (o1 + j) = (p j).toNat) (hg : ∀ j, j < n → f2 (o2 + j) = (q j).toNat) :
    Does TB 86 [.s (.gs 0 o1 n c1), .s (.gs 1 o2 n c2)] [.cells m1 [.ints .u8 k1 f1] s1, .cells m2 [.ints .u8 k2 f2] s2] (fun v h' => v = .s (.bool (eqB n p q)) ∧ h' = [.cells m1 [.ints .u8 k1 f1] s1, .cells m2 [.ints .u8 k2 f2] s2]) := by
  refine fnX_does TB Try.func86 rfl (by decide) (fun O on hO => ?_)
  refine need_intro h1 ?_
  refine need_intro h2 ?_
  refine ⟨_, _, [0, 1], ⟨rfl, rfl⟩, by decide, ⟨rfl, rfl, trivial⟩, ?_, ⟨⟨_, rfl, eqvB_refl _⟩, ⟨_, rfl, eqvB_refl _⟩, trivial⟩⟩
  exact bytes_beq hf hg
end Go.Proofs.Ytghcdkpgcanpgaa

/- Watching: two buses but for their RAM, the program's and the document's. No condition but the lists' lengths. -/
namespace Go.Anv
open Go
theorem eqB_pre {n : Nat} {p q : Nat → B8} (h : eqB n p q = true) : ∀ j, j < n → p j = q j := fun j hj => by
  unfold eqB at h
  exact eq_of_beq (List.all_eq_true.1 h j (List.mem_range.2 hj))
theorem eqB_of {n : Nat} {p q : Nat → B8} (h : ∀ j, j < n → p j = q j) : eqB n p q = true := by
  unfold eqB
  exact List.all_eq_true.2 fun j hj => beq_iff_eq.2 (h j (List.mem_range.1 hj))
theorem eqB_not {n : Nat} {p q : Nat → B8} {j : Nat} (hj : j < n) (h : p j ≠ q j) : eqB n p q = false := by
  rw [Bool.eq_false_iff]
  exact fun e => h (eqB_pre e j hj)
theorem bytesOf_len (n : Nat) (f : Nat → Int) : (bytesOf n f).data.toList.length = n := by rw [bytesOf_list]; simp
theorem bytes_beq2 {n1 n2 : Nat} (p q : Nat → B8) : (bytesOf n1 (shf 0 (bfun p)) == bytesOf n2 (shf 0 (bfun q))) = (n1 == n2 && eqB n1 p q) := by
  by_cases h : n1 = n2
  · subst h
    rw [bytes_beq (p := p) (q := q) (fun j _ => by show bfun p (0 + j) = _; rw [Nat.zero_add]; rfl) (fun j _ => by show bfun q (0 + j) = _; rw [Nat.zero_add]; rfl)]
    simp
  · rw [beq_eq_false_iff_ne.2 h, Bool.false_and, Bool.eq_false_iff]
    intro e
    have e := (MapKept.bytes_beq _ _).1 e
    have := congrArg (fun b : ByteArray => b.data.toList.length) e
    simp only [bytesOf_len] at this
    exact h this
end Go.Anv
namespace Go.Proofs.Ytghcdkpgcanpgaa
open Go Go.Anv
set_option maxRecDepth 100000 in
theorem bytesSame_spec (m1 m2 : Bool) (n1 n2 c1 c2 s1 s2 : Nat) (p q : Nat → B8) (h1 : n1 < 2 ^ 62) (h2 : n2 < 2 ^ 62) :
    Does TB 93 [.s (.gs 0 0 n1 c1), .s (.gs 1 0 n2 c2)] [bblk m1 n1 p s1, bblk m2 n2 q s2] (fun v h' => v = .s (.bool (n1 == n2 && eqB n1 p q)) ∧ h' = [bblk m1 n1 p s1, bblk m2 n2 q s2]) := by
  refine fnX_does TB Try.func93 rfl (by decide) (fun O on hO => ?_)
  have fin : ∀ {x : Bool}, x = (n1 == n2 && eqB n1 p q) → Anv.Ends 2 (fun v h' => v = .s (.bool (n1 == n2 && eqB n1 p q)) ∧ h' = [bblk m1 n1 p s1, bblk m2 n2 q s2]) (.s (.bool x)) [bblk m1 n1 p s1, bblk m2 n2 q s2] := by
    rintro x rfl
    exact ⟨_, _, [0, 1], ⟨rfl, rfl⟩, by decide, ⟨rfl, rfl, trivial⟩, eqvE_refl _, ⟨⟨_, rfl, eqvB_refl _⟩, ⟨_, rfl, eqvB_refl _⟩, trivial⟩⟩
  refine ifB_intro (fun h3 => ?_) (fun h3 => ?_)
  · have h3 : n1 ≠ n2 := by
      intro e; subst e; simp at h3
    exact fin (by rw [beq_eq_false_iff_ne.2 h3]; rfl)
  have h3 : n1 = n2 := by
    have := bne_eq_false_iff_eq.1 h3
    omega
  subst h3
  refine loop_by (A := Nat) on (fun k => [(5, .s (.int .i64 (k : Int)))]) (fun _ => [bblk m1 n1 p s1, bblk m2 n1 q s2]) (fun k => k ≤ n1 ∧ ∀ j, j < k → p j = q j) (fun k => n1 - k) 0 ⟨Nat.zero_le _, fun j hj => absurd hj (Nat.not_lt_zero j)⟩ ?_ ?_
  · refine ⟨?_, eqvB_refl _, eqvB_refl _, trivial⟩
    repeat' (first | exact eqvT_nil | refine eqvT_junk ?_ | refine eqvT_same ?_ | refine eqvT_int ?_ ?_)
  intro k ⟨hk, hp⟩
  refine ifB_intro (fun h4 => ?_) (fun h4 => ?_)
  · have hk1 : k < n1 := by have := of_decide_eq_true h4; omega
    refine draw_held on rfl (fun _ _ h => h) ?_
    repeat (refine need_intro (by first | omega | exact ⟨by omega, by omega⟩ | rfl | fail) ?_)
    have hne : (bfun p (0 + (k : Int).toNat) != bfun q (0 + (k : Int).toNat)) = (p k != q k) := by
      rw [Nat.zero_add, Int.toNat_natCast]
      exact bne_nat _ _
    refine ifB_intro (fun h5 => ?_) (fun h5 => ?_)
    · replace h5 := hne.symm.trans h5
      exact fin (by rw [eqB_not hk1 (bne_iff_ne.1 h5)]; simp)
    · replace h5 := hne.symm.trans h5
      have h5 : p k = q k := by simpa using h5
      refine ⟨k + 1, ⟨hk1, fun j hj => ?_⟩, by simp only; omega, ?_⟩
      · rcases Nat.lt_succ_iff_lt_or_eq.1 hj with h | h
        · exact hp j h
        · subst h; exact h5
      refine ⟨?_, eqvB_refl _, eqvB_refl _, trivial⟩
      repeat' (first | exact eqvT_nil | refine eqvT_junk ?_ | refine eqvT_same ?_ | refine eqvT_int ?_ ?_)
      rw [i64_in (by omega) (by omega)]; omega
  · have hk1 : k = n1 := by have := of_decide_eq_false h4; omega
    subst hk1
    exact fin (by rw [eqB_of hp]; simp)
set_option maxRecDepth 100000 in
theorem equal2_spec (m1 m2 : Bool) (n1 n2 c1 c2 s1 s2 : Nat) (p q : Nat → B8) :
    Does TB 86 [.s (.gs 0 0 n1 c1), .s (.gs 1 0 n2 c2)] [bblk m1 n1 p s1, bblk m2 n2 q s2] (fun v h' => v = .s (.bool (n1 == n2 && eqB n1 p q)) ∧ h' = [bblk m1 n1 p s1, bblk m2 n2 q s2]) := by
  refine fnX_does TB Try.func86 rfl (by decide) (fun O on hO => ?_)
  refine need_intro (by omega) ?_
  refine need_intro (by omega) ?_
  refine ⟨_, _, [0, 1], ⟨rfl, rfl⟩, by decide, ⟨rfl, rfl, trivial⟩, ?_, ⟨⟨_, rfl, eqvB_refl _⟩, ⟨_, rfl, eqvB_refl _⟩, trivial⟩⟩
  exact bytes_beq2 p q
end Go.Proofs.Ytghcdkpgcanpgaa

/- Watching: two buses but for their RAM; all of two buses. No condition but the lists' lengths. -/
namespace Go.Anv
open Go
/-- Two buses are the same but for their RAM. -/
def devS (s t : BusV) (l k : Lists) : Bool :=
  (s.ni == t.ni && eqB s.ni l.inp k.inp) && (s.no == t.no && eqB s.no l.out k.out) && s.msip == t.msip && s.cmp == t.cmp && s.now == t.now && s.ext == t.ext && s.soft == t.soft &&
    s.ier == t.ier && s.lcr == t.lcr && s.mcr == t.mcr && s.scratch == t.scratch && s.overrun == t.overrun && s.off == t.off && s.code == t.code
theorem cond_or (a b : Bool) : (bif a then true else b) = (a || b) := by cases a <;> rfl
end Go.Anv
namespace Go.Proofs.Ytghcdkpgcanpgaa
open Go Go.Anv
set_option maxRecDepth 100000 in
theorem sameBus_spec (s t : BusV) (l k : Lists) (c0 c1 c2 c3 c4 c5 : Nat) :
    Does TB 59 [.agg (s.segs (.gs 0 0 s.nr c0) (.gs 1 0 s.ni c1) (.gs 2 0 s.no c2)), .agg (t.segs (.gs 3 0 t.nr c3) (.gs 4 0 t.ni c4) (.gs 5 0 t.no c5))] (l.blks s ++ k.blks t) (fun v h' => v = .s (.bool (devS s t l k)) ∧ h' = l.blks s ++ k.blks t) := by
  refine fnX_does TB Try.func59 rfl (by decide) (fun O on hO => ?_)
  refine draw_held on rfl (fun _ _ h => h) ?_
  refine Does.at (equal2_spec l.mi k.mi s.ni t.ni c1 c4 l.si k.si l.inp k.inp) [1, 4] rfl ⟨rfl, rfl, trivial⟩ (by decide) ?_ ?_
  · rintro v h' ⟨_, rfl⟩
    exact ⟨.inr (.inr rfl), .inr (.inr rfl), trivial⟩
  rintro v h' ⟨rfl, rfl⟩
  repeat (refine need_intro (by first | exact fun h => h | exact nt | rfl | fail) ?_)
  refine Does.at (equal2_spec l.mo k.mo s.no t.no c2 c5 l.so k.so l.out k.out) [2, 5] rfl ⟨rfl, rfl, trivial⟩ (by decide) ?_ ?_
  · rintro v h' ⟨_, rfl⟩
    exact ⟨.inr (.inr rfl), .inr (.inr rfl), trivial⟩
  rintro v h' ⟨rfl, rfl⟩
  repeat (refine need_intro (by first | exact fun h => h | exact nt | rfl | (simp; done) | fail) ?_)
  refine ⟨_, _, [0, 1, 2, 3, 4, 5], ⟨rfl, rfl⟩, by decide, ⟨rfl, rfl, rfl, rfl, rfl, rfl, trivial⟩, ?_, ⟨⟨_, rfl, eqvB_refl _⟩, ⟨_, rfl, eqvB_refl _⟩, ⟨_, rfl, eqvB_refl _⟩, ⟨_, rfl, eqvB_refl _⟩, ⟨_, rfl, eqvB_refl _⟩, ⟨_, rfl, eqvB_refl _⟩, trivial⟩⟩
  show _ = devS s t l k
  unfold devS
  simp only [cond_and, beq_nat]
set_option maxRecDepth 100000 in
theorem devices_spec (s t : BusV) (l k : Lists) (c0 c1 c2 c3 c4 c5 : Nat) (h1 : s.ni < 2 ^ 62) (h2 : t.ni < 2 ^ 62) (h3 : s.no < 2 ^ 62) (h4 : t.no < 2 ^ 62) :
    Does TB 61 [.agg (s.segs (.gs 0 0 s.nr c0) (.gs 1 0 s.ni c1) (.gs 2 0 s.no c2)), .agg (t.segs (.gs 3 0 t.nr c3) (.gs 4 0 t.ni c4) (.gs 5 0 t.no c5))] (l.blks s ++ k.blks t) (fun v h' => v = .s (.bool (devS s t l k)) ∧ h' = l.blks s ++ k.blks t) := by
  refine fnX_does TB Try.func61 rfl (by decide) (fun O on hO => ?_)
  have fin : ∀ {x : Bool}, x = devS s t l k → ∀ {b c : Blk}, Anv.Ends 6 (fun v h' => v = .s (.bool (devS s t l k)) ∧ h' = l.blks s ++ k.blks t) (.s (.bool x)) (l.blks s ++ k.blks t ++ [b, c]) := by
    rintro x rfl b c
    exact ⟨_, _, [0, 1, 2, 3, 4, 5], ⟨rfl, rfl⟩, by decide, ⟨rfl, rfl, rfl, rfl, rfl, rfl, trivial⟩, eqvE_refl _, ⟨⟨_, rfl, eqvB_refl _⟩, ⟨_, rfl, eqvB_refl _⟩, ⟨_, rfl, eqvB_refl _⟩, ⟨_, rfl, eqvB_refl _⟩, ⟨_, rfl, eqvB_refl _⟩, ⟨_, rfl, eqvB_refl _⟩, trivial⟩⟩
  repeat (refine need_intro (by first | exact fun h => h | exact nt | rfl | (simp; done) | fail) ?_)
  refine ifB_intro (fun g1 => ?_) (fun g1 => ?_)
  · refine fin ?_
    simp only [cond_or, bne, beq_nat, Bool.or_eq_true, Bool.not_eq_true'] at g1
    rcases g1 with (((h | h) | h) | h) | h <;> simp [devS, h]
  repeat (refine need_intro (by first | exact fun h => h | exact nt | rfl | (simp; done) | fail) ?_)
  refine ifB_intro (fun g2 => ?_) (fun g2 => ?_)
  · refine fin ?_
    simp only [cond_or, bne, beq_nat, Bool.or_eq_true, Bool.not_eq_true'] at g2
    rcases g2 with (((h | h) | h) | h) | h <;> simp [devS, h]
  refine Does.at (bytesSame_spec l.mi k.mi s.ni t.ni c1 c4 l.si k.si l.inp k.inp h1 h2) [1, 4] rfl ⟨rfl, rfl, trivial⟩ (by decide) ?_ ?_
  · rintro v h' ⟨_, rfl⟩
    exact ⟨.inr (.inr rfl), .inr (.inr rfl), trivial⟩
  rintro v h' ⟨rfl, rfl⟩
  repeat (refine need_intro (by first | exact fun h => h | exact nt | rfl | (simp; done) | fail) ?_)
  simp only [cond_or, bne, beq_nat, Bool.or_eq_false_iff, Bool.not_eq_false'] at g1 g2
  obtain ⟨⟨⟨⟨a1, a2⟩, a3⟩, a4⟩, a5⟩ := g1
  obtain ⟨⟨⟨⟨a6, a7⟩, a8⟩, a9⟩, a10⟩ := g2
  refine ifB_intro (fun g3 => ?_) (fun g3 => ?_)
  · refine Does.ungd (b := [_, _]) ⟨⟨g3, rfl⟩, ⟨g3, rfl⟩, trivial⟩ ?_
    refine Does.at (bytesSame_spec l.mo k.mo s.no t.no c2 c5 l.so k.so l.out k.out h3 h4) [2, 5] rfl ⟨rfl, rfl, trivial⟩ (by decide) ?_ ?_
    · rintro v h' ⟨_, rfl⟩
      exact ⟨.inr (.inr rfl), .inr (.inr rfl), trivial⟩
    rintro v h' ⟨rfl, rfl⟩
    repeat (refine need_intro (by first | exact fun h => h | exact nt | rfl | (simp; done) | fail) ?_)
    refine fin ?_
    show _ = devS s t l k
    simp only [cond_and, devS, a1, a2, a3, a4, a5, a6, a7, a8, a9, a10, Bool.and_true]
  · repeat (refine need_intro (by first | exact g3 | exact fun h => h | exact nt | rfl | (simp; done) | fail) ?_)
    refine fin ?_
    show _ = devS s t l k
    simp only [cond_and, devS, a1, a2, a3, a4, a5, a6, a7, a8, a9, a10, Bool.and_true, g3, Bool.false_and]
end Go.Proofs.Ytghcdkpgcanpgaa
