/- Part 8 of the texts of this claim, merged: D5, D6, Q13, Q14, Q15, D7, E20, E21, U1, U2, E19. No condition: plain theorems, contracts of functions. -/
import Derived.Test.YtghcdkpgcanpgaaGreatZ7

set_option linter.unusedSimpArgs false
set_option linter.unusedVariables false
/- The document's side of a step: the rules 10, 17, 19, 20. No condition but the lists' lengths: contracts of functions. -/
namespace Go.Anv
open Go
theorem drop_top (v : B64) : v &&& ~~~9223372036854775808#64 = v <<< 1 >>> 1 := by
  apply BitVec.eq_of_getLsbD_eq
  intro i hi
  have hm : ∀ i, i < 64 → (~~~9223372036854775808#64).getLsbD i = decide (i < 63) := by decide
  rw [BitVec.getLsbD_and, hm i hi, BitVec.getLsbD_ushiftRight, BitVec.getLsbD_shiftLeft]
  by_cases h : i < 63
  · simp [h]; omega
  · have : i = 63 := by omega
    subst this
    simp
theorem handler_yes (v cause : B64) (h : ((cause >>> 63 == 1#64) && (v &&& 1#64 == 1#64)) = true) : IntKind.u64.wrap (bitX .andNot .u64 (v.toNat : Int) 3 + IntKind.u64.wrap (4 * bitX .andNot .u64 (cause.toNat : Int) 9223372036854775808)) = ((handlerOf v cause).toNat : Int) := by
  unfold handlerOf
  rw [if_pos h, andNot_u64, andNot_u64, ofInt_toNat, ofInt_toNat, show BitVec.ofInt 64 9223372036854775808 = 9223372036854775808#64 from rfl, drop_top]
  have := mul64 4#64 (cause <<< 1 >>> 1)
  rw [show ((4#64).toNat : Int) = 4 from rfl] at this
  rw [this, add64]
  rfl
theorem fits_doc (r : RowV) (h : r.mem ≠ 0) : (bif bif decide (r.mem < 0) then true else decide (r.mem > 3) then true else bif bif bif r.size != 1 then r.size != 2 else false then r.size != 4 else false then r.size != 8 else false) = !r.fits := by
  unfold RowV.fits
  simp only [cond_or, cond_and]
  rw [Bool.eq_iff_iff]
  simp only [Bool.or_eq_true, Bool.and_eq_true, decide_eq_true_eq, bne_iff_ne, Bool.not_eq_true', Bool.and_eq_false_iff, decide_eq_false_iff_not, Bool.or_eq_false_iff, beq_eq_false_iff_ne]
  omega
theorem handler_no (v cause : B64) (h : ((cause >>> 63 == 1#64) && (v &&& 1#64 == 1#64)) = false) : bitX .andNot .u64 (v.toNat : Int) 3 = ((handlerOf v cause).toNat : Int) := by
  unfold handlerOf
  rw [h, andNot_u64, ofInt_toNat]
  rfl
end Go.Anv
namespace Go.Proofs.YtghcdkpgcanpgaaGreat
open Go Go.Anv
set_option maxHeartbeats 4000000 in
set_option maxRecDepth 100000 in
theorem drule10_spec (z : Sc) : Does TB 31 [.agg z.doc] z.lists (fun v h' => v = .s (.bool z.rule10) ∧ h' = z.lists) := by
  refine fnX_does TB Tryz.func31 rfl (by decide) (fun O on hO => ?_)
  refine Does.atc (dtrapped_spec z) [0, 1, 2, 3, 4, 5, 6] rfl ⟨rfl, rfl, rfl, rfl, rfl, rfl, rfl, trivial⟩ (by decide) ?_
  repeat (refine need_intro (by first | exact fun h => h | exact nt | exact an2 | exact an3 | rfl | (simp; done) | fail) ?_)
  refine ifB_intro (fun h1 => ?_) (fun h1 => ?_)
  · refine dfin z ?_
    rw [Bool.not_eq_true'] at h1
    unfold Sc.rule10
    rw [h1]; rfl
  rw [Bool.not_eq_false'] at h1
  have e1 : (bif (((z.r.cause.toNat : Nat) : Int).fdiv (2 ^ min (Int.toNat 63) IntKind.u64.bits)) == 1 then bitX .and .u64 (z.c.mtvec.toNat : Int) 1 == 1 else false) = ((z.r.cause >>> 63 == 1#64) && (z.c.mtvec &&& 1#64 == 1#64)) := by
    rw [cond_and, show min (Int.toNat 63) IntKind.u64.bits = 63 from by decide, fdiv_pow, and_u64, ofInt_toNat]; congr 1
    · exact beq_nat _ 1#64
    · exact beq_nat _ 1#64
  have eG : (bif (bif ((z.d.mepc.toNat : Nat) : Int) == ((z.c.pc.toNat : Nat) : Int) then ((z.d.mcause.toNat : Nat) : Int) == ((z.r.cause.toNat : Nat) : Int) else false) then ((z.d.mtval.toNat : Nat) : Int) == ((z.r.tval.toNat : Nat) : Int) else false) = (z.d.mepc == z.c.pc && z.d.mcause == z.r.cause && z.d.mtval == z.r.tval) := by
    simp only [cond_and, beq_nat]
  have eR : (z.d.rvalid == false && ((((z.d.raddr.toNat : Nat) : Int) == 0) && ((z.d.rsize == 0) && true))) = noRes z.d := by
    unfold noRes
    rw [Bool.and_true, e0]
  repeat (refine need_intro (by first | exact fun h => h | exact nt | exact an2 | exact an3 | rfl | (simp; done) | fail) ?_)
  refine ifB_intro (fun h2 => ?_) (fun h2 => ?_)
  · have hv := handler_yes _ _ (e1.symm.trans h2)
    repeat (refine need_intro (by first | exact fun h => h | exact nt | exact an2 | exact an3 | rfl | (simp; done) | fail) ?_)
    refine draw_held on rfl (fun _ _ h => h) ?_
    repeat (refine need_intro (by first | exact fun h => h | exact nt | exact an2 | exact an3 | rfl | (simp; done) | fail) ?_)
    refine ifB_intro (fun g => ?_) (fun g => ?_)
    · refine Does.ungd (b := [.s (.int .u64 z.c.mstatus.toNat), .s (.int .i64 z.c.mode)]) ⟨⟨g, rfl⟩, ⟨g, rfl⟩, trivial⟩ ?_
      refine (dentry_spec z.c.mstatus z.c.mode _).mono ?_
      rintro _ _ ⟨rfl, rfl⟩
      repeat (refine need_intro (by first | exact g | exact fun h => h | exact nt | exact an2 | exact an3 | rfl | (simp; done) | fail) ?_)
      refine dfin z ?_
      unfold Sc.rule10
      rw [if_pos h1]
      simp only [hv, cond_and, beq_nat, eR]
    · repeat (first | refine need_intro (by first | exact g | exact nt g | exact nn3 g | exact fun h => h | exact nt | exact an2 | exact an3 | rfl | (simp; done) | fail) ?_ | refine ifB_intro (fun h => absurd (h.symm.trans g) (by decide)) (fun _ => ?_))
      refine dfin z ?_
      unfold Sc.rule10
      rw [if_pos h1, eG.symm.trans g]
      rfl
  · have hv := handler_no _ _ (e1.symm.trans h2)
    repeat (refine need_intro (by first | exact fun h => h | exact nt | exact an2 | exact an3 | rfl | (simp; done) | fail) ?_)
    refine draw_held on rfl (fun _ _ h => h) ?_
    repeat (refine need_intro (by first | exact fun h => h | exact nt | exact an2 | exact an3 | rfl | (simp; done) | fail) ?_)
    refine ifB_intro (fun g => ?_) (fun g => ?_)
    · refine Does.ungd (b := [.s (.int .u64 z.c.mstatus.toNat), .s (.int .i64 z.c.mode)]) ⟨⟨g, rfl⟩, ⟨g, rfl⟩, trivial⟩ ?_
      refine (dentry_spec z.c.mstatus z.c.mode _).mono ?_
      rintro _ _ ⟨rfl, rfl⟩
      repeat (refine need_intro (by first | exact g | exact fun h => h | exact nt | exact an2 | exact an3 | rfl | (simp; done) | fail) ?_)
      refine dfin z ?_
      unfold Sc.rule10
      rw [if_pos h1]
      simp only [hv, cond_and, beq_nat, eR]
    · repeat (first | refine need_intro (by first | exact g | exact nt g | exact nn3 g | exact fun h => h | exact nt | exact an2 | exact an3 | rfl | (simp; done) | fail) ?_ | refine ifB_intro (fun h => absurd (h.symm.trans g) (by decide)) (fun _ => ?_))
      refine dfin z ?_
      unfold Sc.rule10
      rw [if_pos h1, eG.symm.trans g]
      rfl
set_option maxRecDepth 100000 in
theorem drule20_spec (z : Sc) (h2 : z.rule2 = true) : Does TB 40 [.agg z.doc] z.lists (fun v h' => v = .s (.bool z.rule20) ∧ h' = z.lists) := by
  refine fnX_does TB Tryz.func40 rfl (by decide) (fun O on hO => ?_)
  repeat (refine need_intro (by first | exact fun h => h | exact nt | exact an2 | exact an3 | rfl | (simp; done) | fail) ?_)
  have hpc : z.r.pc = z.c.pc := by
    unfold Sc.rule2 at h2
    simp only [Bool.and_eq_true, beq_iff_eq] at h2
    exact h2.1.1.2
  refine ifB_intro (fun h1 => dfin z ?_) (fun h1 => ?_)
  · unfold Sc.rule20
    rw [if_pos h1]
  have h1' : ¬ (z.r.len == 0) = true := by
    have h1 : (z.r.len == 0) = false := h1
    rw [h1]; decide
  have hr : z.rule20 = ((z.r.len == 2 && checkI z.c.cfg z.c.addr z.c.mode z.c.pc 2 4) || (z.r.len == 4 && checkI z.c.cfg z.c.addr z.c.mode z.c.pc 2 4 && checkI z.c.cfg z.c.addr z.c.mode (z.c.pc + 2#64) 2 4)) := by
    unfold Sc.rule20
    rw [if_neg h1', hpc]
  have hl : (bif z.r.len != 2 then z.r.len != 4 else false) = (!(z.r.len == 2) && !(z.r.len == 4)) := by rw [cond_and]; rfl
  repeat (refine need_intro (by first | exact fun h => h | exact nt | exact an2 | exact an3 | rfl | (simp; done) | fail) ?_)
  refine ifB_intro (fun g => ?_) (fun g => ?_)
  · refine Does.ungd (b := [.agg (pmpSeg z.c.cfg z.c.addr), .s (.int .i64 z.c.mode), .s (.int .u64 z.c.pc.toNat), .s (.int .i64 2), .s (.int .i64 4)]) ⟨⟨g, rfl⟩, ⟨g, rfl⟩, ⟨g, rfl⟩, rfl, rfl, trivial⟩ ?_
    refine (rpcheck_spec _ _ _ _ _ _ _).mono ?_
    rintro _ _ ⟨rfl, rfl⟩
    repeat (refine need_intro (by first | exact g | exact fun h => h | exact nt | exact an2 | exact an3 | rfl | (simp; done) | fail) ?_)
    replace g : (!bif z.r.len != 2 then z.r.len != 4 else false) = true := g
    rw [hl] at g
    refine ifB_intro (fun h3 => dfin z ?_) (fun h3 => ?_)
    · replace h3 : (bif (bif z.r.len != 2 then z.r.len != 4 else false) then true else !checkI z.c.cfg z.c.addr z.c.mode z.c.pc 2 4) = true := h3
      rw [hl] at h3
      rw [hr]
      revert g h3
      cases (z.r.len == 2) <;> cases (z.r.len == 4) <;> cases checkI z.c.cfg z.c.addr z.c.mode z.c.pc 2 4 <;> intro g h3 <;> first | rfl | exact absurd g (by decide) | exact absurd h3 (by decide)
    · replace h3 : (bif (bif z.r.len != 2 then z.r.len != 4 else false) then true else !checkI z.c.cfg z.c.addr z.c.mode z.c.pc 2 4) = false := h3
      rw [hl] at h3
      have hc : checkI z.c.cfg z.c.addr z.c.mode z.c.pc 2 4 = true := by
        revert g h3
        cases (z.r.len == 2) <;> cases (z.r.len == 4) <;> cases checkI z.c.cfg z.c.addr z.c.mode z.c.pc 2 4 <;> intro g h3 <;> first | rfl | exact absurd g (by decide) | exact absurd h3 (by decide)
      rw [hc] at hr
      repeat (refine need_intro (by first | exact fun h => h | exact nt | exact an2 | exact an3 | rfl | (simp; done) | fail) ?_)
      refine ifB_intro (fun g2 => ?_) (fun g2 => ?_)
      · refine Does.ungd (b := [.agg (pmpSeg z.c.cfg z.c.addr), .s (.int .i64 z.c.mode), .s (.int .u64 (z.c.pc + 2#64).toNat), .s (.int .i64 2), .s (.int .i64 4)]) ⟨⟨g2, rfl⟩, ⟨g2, rfl⟩, ⟨g2, congrArg (fun z => EV.s (.int .u64 z)) (add64 z.c.pc 2#64)⟩, rfl, rfl, trivial⟩ ?_
        refine (rpcheck_spec _ _ _ _ _ _ _).mono ?_
        rintro _ _ ⟨rfl, rfl⟩
        repeat (refine need_intro (by first | exact g2 | exact fun h => h | exact nt | exact an2 | exact an3 | rfl | (simp; done) | fail) ?_)
        replace g2 : (!(z.r.len == 2)) = true := g2
        refine dfin z ?_
        rw [hr]
        show (bif z.r.len == 2 then true else checkI z.c.cfg z.c.addr z.c.mode (z.c.pc + 2#64) 2 4) = _
        revert g g2
        cases (z.r.len == 2) <;> cases (z.r.len == 4) <;> intro g g2 <;> first | rfl | exact absurd g (by decide) | exact absurd g2 (by decide)
      · replace g2 : (!(z.r.len == 2)) = false := g2
        have g3 : (z.r.len == 2) = true := by simpa using g2
        repeat (refine need_intro (by first | exact g2 | exact g3 | (exact fun _ => g3) | exact fun h => h | exact nt | exact an2 | exact an3 | rfl | (simp; done) | fail) ?_)
        refine dfin z ?_
        rw [hr, g3]
        rfl
  · replace g : (!bif z.r.len != 2 then z.r.len != 4 else false) = false := g
    have g' : (bif z.r.len != 2 then z.r.len != 4 else false) = true := by simpa using g
    repeat (refine need_intro (by first | exact g | exact g' | (exact fun _ => g') | exact fun h => h | exact nt | exact an2 | exact an3 | rfl | (simp; done) | fail) ?_)
    refine ifB_intro (fun h => absurd (h.symm.trans g) (by decide)) (fun _ => ?_)
    repeat (refine need_intro (by first | exact g | exact g' | (exact fun _ => g') | exact fun h => h | exact nt | exact an2 | exact an3 | rfl | (simp; done) | fail) ?_)
    refine dfin z ?_
    rw [hr]
    rw [hl] at g'
    revert g'
    cases (z.r.len == 2) <;> cases (z.r.len == 4) <;> intro g' <;> first | rfl | exact absurd g' (by decide)
set_option maxRecDepth 100000 in
theorem drule19_spec (z : Sc) : Does TB 39 [.agg z.doc] z.lists (fun v h' => v = .s (.bool z.rule19) ∧ h' = z.lists) := by
  refine fnX_does TB Tryz.func39 rfl (by decide) (fun O on hO => ?_)
  repeat (refine need_intro (by first | exact fun h => h | exact nt | exact an2 | exact an3 | rfl | (simp; done) | fail) ?_)
  refine ifB_intro (fun h1 => dfin z ?_) (fun h1 => ?_)
  · unfold Sc.rule19
    rw [if_pos ((cond_or _ _).symm.trans h1)]
  have h1' : ¬ (z.r.kind != 1 || z.r.mem == 0) = true := by rw [← cond_or]; exact Bool.eq_false_iff.1 h1
  have hm : z.r.mem ≠ 0 := by
    intro h; apply h1'; rw [h]; simp
  have hf := fits_doc z.r hm
  have hz : ∀ {b : Bool}, b = !z.r.fits → (!b) = true → (1 ≤ z.r.size ∧ z.r.size ≤ 8) := by
    rintro b rfl h
    rw [Bool.not_not] at h
    unfold RowV.fits at h
    simp only [Bool.and_eq_true, Bool.or_eq_true, beq_iff_eq, decide_eq_true_eq] at h
    omega
  have hz' : ∀ {b : Bool}, b = !z.r.fits → (!b) = true → IntKind.u64.wrap z.r.size ≠ 0 := by
    intro b e h
    have := hz e h
    rw [wsize (by omega)]
    omega
  repeat (refine need_intro (by first | (exact hz' hf) | exact fun h => h | exact nt | exact an2 | exact an3 | rfl | (simp; done) | fail) ?_)
  have hr : z.rule19 = (z.r.fits && decide (z.r.addr.toNat % z.r.size.toNat = 0) && checkI z.c.cfg z.c.addr z.c.eff z.r.addr z.r.size z.r.mem) := by
    unfold Sc.rule19
    rw [if_neg h1']
  refine ifB_intro (fun h2 => ?_) (fun h2 => ?_)
  · refine dfin z ?_
    rw [hr]
    rw [hf, cond_or, Bool.or_eq_true] at h2
    cases hff : z.r.fits with
    | false => rfl
    | true =>
      rw [hff] at h2
      have h3 : (((z.r.addr.toNat : Nat) : Int).tmod (IntKind.u64.wrap z.r.size) != 0) = true := by simpa using h2
      rw [bne, rem_eq _ _ (hz hf (by rw [hf, hff]; rfl)), Bool.not_eq_true'] at h3
      rw [h3]; rfl
  · rw [hf, cond_or, Bool.or_eq_false_iff, Bool.not_eq_false'] at h2
    obtain ⟨hff, h3⟩ := h2
    rw [bne, rem_eq _ _ (hz hf (by rw [hf, hff]; rfl)), Bool.not_eq_false'] at h3
    refine (reff_spec z.c _).mono ?_
    rintro _ _ ⟨rfl, rfl⟩
    repeat (refine need_intro (by first | exact fun h => h | exact nt | exact an2 | exact an3 | rfl | (simp; done) | fail) ?_)
    refine (rpcheck_spec _ _ _ _ _ _ _).mono ?_
    rintro _ _ ⟨rfl, rfl⟩
    repeat (refine need_intro (by first | exact fun h => h | exact nt | exact an2 | exact an3 | rfl | (simp; done) | fail) ?_)
    refine dfin z ?_
    rw [hr, hff, h3]
    rfl
set_option maxRecDepth 100000 in
theorem bytesSameL_spec (m1 m2 : Bool) (n N c1 c2 s1 s2 : Nat) (p q : Nat → B8) (h1 : n < 2 ^ 62) (hN : n ≤ N) :
    Does TB 86 [.s (.gs 0 0 n c1), .s (.gs 1 0 n c2)] [bblk m1 N p s1, bblk m2 n q s2] (fun v h' => v = .s (.bool (eqB n p q)) ∧ h' = [bblk m1 N p s1, bblk m2 n q s2]) := by
  refine fnX_does TB Tryz.func86 rfl (by decide) (fun O on hO => ?_)
  have fin : ∀ {x : Bool}, x = eqB n p q → Anv.Ends 2 (fun v h' => v = .s (.bool (eqB n p q)) ∧ h' = [bblk m1 N p s1, bblk m2 n q s2]) (.s (.bool x)) [bblk m1 N p s1, bblk m2 n q s2] := by
    rintro x rfl
    exact ⟨_, _, [0, 1], ⟨rfl, rfl⟩, by decide, ⟨rfl, rfl, trivial⟩, eqvE_refl _, ⟨⟨_, rfl, eqvB_refl _⟩, ⟨_, rfl, eqvB_refl _⟩, trivial⟩⟩
  refine ifB_intro (fun h3 => absurd h3 (by simp)) (fun h3 => ?_)
  refine loop_by (A := Nat) on (fun k => [(5, .s (.int .i64 (k : Int)))]) (fun _ => [bblk m1 N p s1, bblk m2 n q s2]) (fun k => k ≤ n ∧ ∀ j, j < k → p j = q j) (fun k => n - k) 0 ⟨Nat.zero_le _, fun j hj => absurd hj (Nat.not_lt_zero j)⟩ ?_ ?_
  · refine ⟨?_, eqvB_refl _, eqvB_refl _, trivial⟩
    repeat' (first | exact eqvT_nil | refine eqvT_junk ?_ | refine eqvT_same ?_ | refine eqvT_int ?_ ?_)
  intro k ⟨hk, hp⟩
  refine ifB_intro (fun h4 => ?_) (fun h4 => ?_)
  · have hk1 : k < n := by have := of_decide_eq_true h4; omega
    refine draw_held on rfl (fun _ _ h => h) ?_
    repeat (refine need_intro (by first | omega | (exact ⟨by omega, by omega⟩) | exact fun h => h | exact nt | exact an2 | exact an3 | rfl | (simp; done) | fail) ?_)
    have hne : (bfun p (0 + (k : Int).toNat) != bfun q (0 + (k : Int).toNat)) = (p k != q k) := by
      rw [Nat.zero_add, Int.toNat_natCast]
      exact bne_nat _ _
    refine ifB_intro (fun h5 => ?_) (fun h5 => ?_)
    · replace h5 := hne.symm.trans h5
      exact fin (eqB_not hk1 (bne_iff_ne.1 h5)).symm
    · replace h5 := hne.symm.trans h5
      have h5 : p k = q k := by simpa using h5
      refine ⟨k + 1, ⟨hk1, fun j hj => ?_⟩, by simp only; omega, ?_⟩
      · rcases Nat.lt_succ_iff_lt_or_eq.1 hj with h | h
        · exact hp j h
        · subst h; exact h5
      refine ⟨?_, eqvB_refl _, eqvB_refl _, trivial⟩
      repeat' (first | exact eqvT_nil | refine eqvT_junk ?_ | refine eqvT_same ?_ | refine eqvT_int ?_ ?_)
      rw [i64_in (by omega) (by omega)]; omega
  · have hk1 : k = n := by have := of_decide_eq_false h4; omega
    subst hk1
    exact fin (eqB_of hp).symm
set_option maxHeartbeats 1000000 in
set_option maxRecDepth 100000 in
theorem drule17_spec (z : Sc) (ok : z.Ok) : Does TB 37 [.agg z.doc] z.lists (fun v h' => v = .s (.bool z.rule17) ∧ h' = z.lists) := by
  refine fnX_does TB Tryz.func37 rfl (by decide) (fun O on hO => ?_)
  have hlt : ∀ {b : Bool}, b = decide ((z.t.no : Int) < (z.s.no : Int)) → (!b) = true → z.s.no ≤ z.t.no := by
    rintro b rfl h
    rw [Bool.not_eq_true'] at h
    have := of_decide_eq_false h
    omega
  have hd := ok.do_
  repeat (refine need_intro (by first | (intro h; exact ⟨by omega, by omega, by have := hlt rfl h; omega⟩) | exact fun h => h | exact nt | exact an2 | exact an3 | rfl | (simp; done) | fail) ?_)
  have hs := ok.no
  have ht := ok.mo
  have tail : ∀ (le : z.s.no ≤ z.t.no) (he : eqB z.s.no z.k.out z.l.out = true), z.rule17 = if z.t.no - z.s.no = 0 then true else if z.t.no - z.s.no = 1 then z.r.stores && z.r.addr == 0x10000000#64 && z.r.size == 1 && (z.k.out z.s.no).setWidth 64 == z.r.data else false := by
    intro le he
    unfold Sc.rule17
    rw [decide_eq_true le, he]
    rfl
  refine ifB_intro (fun g => ?_) (fun g => ?_)
  · have le := hlt rfl g
    have hk : skip z.c5 ((0 : Nat) : Int).toNat 0 ti5.size = 0 := by
      unfold skip
      split
      · rfl
      · show 0 + 0 * _ = 0
        rw [Nat.zero_mul]
    refine Does.ungd (b := [.s (.gs 5 0 z.s.no z.c5), .s (.gs 2 0 z.s.no z.c2)]) ⟨⟨g, ?_⟩, ⟨g, rfl⟩, trivial⟩ ?_
    · rw [hk, Int.toNat_natCast]
      rfl
    refine Does.atc (bytesSameL_spec z.k.mo z.l.mo z.s.no z.t.no z.c5 z.c2 z.k.so z.l.so z.k.out z.l.out (by omega) le) [5, 2] rfl ⟨rfl, rfl, trivial⟩ (by decide) ?_
    replace g : (!decide ((z.t.no : Int) < (z.s.no : Int))) = true := g
    repeat (refine need_intro (by first | exact g | exact fun h => h | exact nt | exact an2 | exact an3 | rfl | (simp; done) | fail) ?_)
    have g' : decide ((z.t.no : Int) < (z.s.no : Int)) = false := by simpa using g
    refine ifB_intro (fun h3 => ?_) (fun h3 => ?_)
    · replace h3 : (bif decide ((z.t.no : Int) < (z.s.no : Int)) then true else !eqB z.s.no z.k.out z.l.out) = true := h3
      rw [g'] at h3
      have h4 : eqB z.s.no z.k.out z.l.out = false := by simpa using h3
      refine dfin z ?_
      unfold Sc.rule17
      rw [h4, Bool.and_false]
      rfl
    · replace h3 : (bif decide ((z.t.no : Int) < (z.s.no : Int)) then true else !eqB z.s.no z.k.out z.l.out) = false := h3
      rw [g'] at h3
      have h4 : eqB z.s.no z.k.out z.l.out = true := by simpa using h3
      have hr := tail le h4
      repeat (refine need_intro (by first | exact fun h => h | exact nt | exact an2 | exact an3 | rfl | (simp; done) | fail) ?_)
      have es : (bif bif bitX .and .i64 z.r.mem 2 == 0 then true else ((z.r.addr.toNat : Nat) : Int) != 268435456 then true else z.r.size != 1) = !(z.r.stores && z.r.addr == 0x10000000#64 && z.r.size == 1) := by
        have ea : (((z.r.addr.toNat : Nat) : Int) != 268435456) = !(z.r.addr == 0x10000000#64) := congrArg (!·) (beq_nat z.r.addr 0x10000000#64)
        rw [ea, cond_or, cond_or]
        unfold RowV.stores
        rw [bne, bne]
        cases (bitX .and .i64 z.r.mem 2 == 0) <;> cases (z.r.addr == 0x10000000#64) <;> cases (z.r.size == 1) <;> rfl
      have hw : IntKind.i64.wrap ((z.s.no : Int) + 1) = ((z.s.no + 1 : Nat) : Int) := by rw [i64_in (by omega) (by omega)]; omega
      refine ifB_intro (fun h5 => ?_) (fun h5 => ?_)
      · replace h5 := es.symm.trans h5
        rw [Bool.not_eq_true'] at h5
        repeat (refine need_intro (by first | exact fun h => h | exact nt | exact an2 | exact an3 | rfl | (simp; done) | fail) ?_)
        refine dfin z ?_
        rw [hr, h5, Bool.false_and]
        by_cases h6 : z.t.no = z.s.no
        · rw [h6, Nat.sub_self, if_pos rfl]; simp
        · rw [if_neg (by omega)]
          have : ((z.t.no : Int) == (z.s.no : Int)) = false := beq_eq_false_iff_ne.2 (by omega)
          rw [this]
          split <;> rfl
      · replace h5 := es.symm.trans h5
        rw [Bool.not_eq_false'] at h5
        refine draw_held on rfl (fun _ _ h => h) ?_
        repeat (refine need_intro (by first | (intro h; rw [hw, Bool.and_eq_true] at h; have := eq_of_beq h.2; exact ⟨by omega, by omega⟩) | (intro h; rw [hw, Bool.and_eq_true] at h; have := eq_of_beq h.2; omega) | exact fun h => h | exact nt | exact an2 | exact an3 | rfl | (simp; done) | fail) ?_)
        refine dfin z ?_
        have eb : (IntKind.u64.wrap (bfun z.k.out (0 + (z.s.no : Int).toNat)) == ((z.r.data.toNat : Nat) : Int)) = ((z.k.out z.s.no).setWidth 64 == z.r.data) := by
          rw [Nat.zero_add, Int.toNat_natCast]
          unfold bfun
          rw [wide8]
          exact beq_nat _ _
        rw [hr, h5, Bool.true_and]
        show (bif (z.t.no : Int) == (z.s.no : Int) then true else bif (z.t.no : Int) == IntKind.i64.wrap ((z.s.no : Int) + 1) then IntKind.u64.wrap (bfun z.k.out (0 + (z.s.no : Int).toNat)) == ((z.r.data.toNat : Nat) : Int) else false) = _
        rw [eb, hw]
        by_cases h6 : z.t.no = z.s.no
        · rw [h6, Nat.sub_self, if_pos rfl]; simp
        · rw [if_neg (by omega), show ((z.t.no : Int) == (z.s.no : Int)) = false from beq_eq_false_iff_ne.2 (by omega)]
          by_cases h7 : z.t.no = z.s.no + 1
          · rw [if_pos (by omega), show ((z.t.no : Int) == ((z.s.no + 1 : Nat) : Int)) = true from beq_iff_eq.2 (by omega)]
            rfl
          · rw [if_neg (by omega), show ((z.t.no : Int) == ((z.s.no + 1 : Nat) : Int)) = false from beq_eq_false_iff_ne.2 (by omega)]
            rfl
  · replace g : (!decide ((z.t.no : Int) < (z.s.no : Int))) = false := g
    have g' : decide ((z.t.no : Int) < (z.s.no : Int)) = true := by simpa using g
    repeat (refine need_intro (by first | exact g | exact g' | (exact fun _ => g') | exact fun h => h | exact nt | exact an2 | exact an3 | rfl | (simp; done) | fail) ?_)
    refine ifB_intro (fun h => absurd (h.symm.trans g) (by decide)) (fun _ => ?_)
    repeat (refine need_intro (by first | exact g | exact g' | (exact fun _ => g') | exact fun h => h | exact nt | exact an2 | exact an3 | rfl | (simp; done) | fail) ?_)
    refine dfin z ?_
    have := of_decide_eq_true g'
    unfold Sc.rule17
    rw [decide_eq_false (show ¬ z.s.no ≤ z.t.no by omega)]
    rfl
end Go.Proofs.YtghcdkpgcanpgaaGreat

/- The document's side of a step: rule 6. No condition but the lists' lengths. -/
namespace Go.Anv
open Go
/-- Rule 6 as the document asks it: byte for byte. -/
def Sc.ins (z : Sc) : Bool := decide (0x80000000#64 ≤ z.r.addr) && (decide (z.r.addr.toNat ≤ 0x80000000 + z.t.nr) && decide (z.r.dsize ≤ ((0x80000000 + z.t.nr : Nat) : Int) - (z.r.addr.toNat : Int)))
def Sc.byteOk (z : Sc) (i : Nat) : Bool :=
  if z.r.stores && z.r.within (ramAt i) then (!z.ins || z.k.ram i == byteAt z.r.data (i - z.at_)) else z.k.ram i == z.l.ram i
theorem byteU (v : B64) (k : Nat) (hk : k < 8) : IntKind.u8.wrap ((v.toNat : Int).fdiv (2 ^ min (IntKind.u64.wrap (8 * (k : Int))).toNat IntKind.u64.bits)) = ((byteAt v k).toNat : Int) := by
  have h := byte_of v k hk
  rw [i64_in (by omega) (by omega)] at h
  rw [wsize (by omega)]
  exact h
theorem ramAt_nat {i : Nat} (h : i < 2 ^ 62) : (ramAt i).toNat = 0x80000000 + i := by
  unfold ramAt
  rw [BitVec.toNat_add, BitVec.toNat_ofNat]
  show (0x80000000 + i % 2 ^ 64) % 2 ^ 64 = _
  omega
theorem within_iff {z : Sc} {i : Nat} (hi : i < 2 ^ 62) (hp : z.r.placed = true) : z.r.within (ramAt i) = true ↔ z.r.addr.toNat ≤ 0x80000000 + i ∧ ((0x80000000 + i - z.r.addr.toNat : Nat) : Int) < z.r.size := by
  unfold RowV.within
  rw [hp, Bool.true_and, Bool.and_eq_true, decide_eq_true_eq, decide_eq_true_eq, BitVec.le_def, ramAt_nat hi, BitVec.toNat_sub, ramAt_nat hi]
  have := z.r.addr.isLt
  constructor
  · rintro ⟨h1, h2⟩
    refine ⟨h1, ?_⟩
    rwa [show (2 ^ 64 - z.r.addr.toNat + (0x80000000 + i)) % 2 ^ 64 = 0x80000000 + i - z.r.addr.toNat by omega] at h2
  · rintro ⟨h1, h2⟩
    refine ⟨h1, ?_⟩
    rwa [show (2 ^ 64 - z.r.addr.toNat + (0x80000000 + i)) % 2 ^ 64 = 0x80000000 + i - z.r.addr.toNat by omega]
theorem inRam_iff {z : Sc} : z.r.inRam z.t.nr = (z.r.placed && z.ins) := by
  unfold RowV.inRam Sc.ins
  cases hp : z.r.placed with
  | false => rfl
  | true =>
    have hs := (placed_size hp).1
    rw [show z.r.dsize = z.r.size from by unfold RowV.dsize; rw [hp]; rfl, Bool.true_and, Bool.true_and]
    by_cases h1 : 0x80000000#64 ≤ z.r.addr
    · rw [decide_eq_true h1, Bool.true_and, Bool.true_and]
      have h1' : 0x80000000 ≤ z.r.addr.toNat := h1
      have := z.r.addr.isLt
      have e : (z.r.addr - 0x80000000#64).toNat = z.r.addr.toNat - 0x80000000 := by
        rw [BitVec.toNat_sub]
        show (2 ^ 64 - 0x80000000 + z.r.addr.toNat) % 2 ^ 64 = _
        omega
      rw [e, Bool.eq_iff_iff, Bool.and_eq_true, Bool.and_eq_true]
      simp only [decide_eq_true_eq]
      omega
    · rw [decide_eq_false h1, Bool.false_and, Bool.false_and]
theorem rule6_doc (z : Sc) (hn : z.t.nr = z.s.nr) (hb : z.s.nr < 2 ^ 62) : z.rule6 = allN z.s.nr z.byteOk := by
  rw [Bool.eq_iff_iff]
  unfold Sc.rule6
  rw [inRam_iff]
  unfold allN
  rw [Bool.and_eq_true, List.all_eq_true, List.all_eq_true]
  simp only [List.mem_range]
  cases hst : z.r.stores with
  | false =>
    simp only [Bool.false_and, Bool.or_false, Bool.not_false, Bool.true_or, and_true, Sc.byteOk, hst, Bool.false_eq_true, if_false]
  | true =>
    cases hp : z.r.placed with
    | false =>
      have hw : ∀ i, z.r.within (ramAt i) = false := fun i => by unfold RowV.within; rw [hp]; rfl
      simp only [hw, Bool.or_false, Bool.not_true, Bool.false_or, Bool.false_and, Bool.not_false, Bool.true_or, and_true, Sc.byteOk, hst, Bool.and_false, Bool.false_eq_true, if_false]
    | true =>
      have hs := (placed_size hp).1
      cases hin : z.ins with
      | false =>
        simp only [Bool.true_and, Bool.not_true, Bool.false_or, Bool.not_false, Bool.true_or, and_true, Sc.byteOk, hst, hin, Bool.and_false]
        refine forall_congr' fun i => imp_congr_right fun hi => ?_
        cases z.r.within (ramAt i) <;> simp
      | true =>
        have hin' := hin
        unfold Sc.ins at hin'
        rw [Bool.and_eq_true, Bool.and_eq_true] at hin'
        simp only [decide_eq_true_eq] at hin'
        obtain ⟨i1, i2, i3⟩ := hin'
        have i1' : 0x80000000 ≤ z.r.addr.toNat := i1
        rw [show z.r.dsize = z.r.size from by unfold RowV.dsize; rw [hp]; rfl] at i3
        have ha := z.r.addr.isLt
        have eat : z.at_ = z.r.addr.toNat - 0x80000000 := by
          unfold Sc.at_
          rw [BitVec.toNat_sub]
          show (2 ^ 64 - 0x80000000 + z.r.addr.toNat) % 2 ^ 64 = _
          omega
        simp only [Bool.true_and, Bool.not_true, Bool.false_or, Sc.byteOk, hst, hin, List.all_eq_true, List.mem_range]
        constructor
        · rintro ⟨h1, h2⟩ i hi
          split
          · rename_i hw
            have hw' := (within_iff (by omega) hp).1 hw
            have := h2 (i - z.at_) (by omega)
            rwa [show z.at_ + (i - z.at_) = i by omega] at this
          · rename_i hw
            have := h1 i hi
            rw [Bool.eq_false_iff.2 hw, Bool.or_false] at this
            exact this
        · intro h
          refine ⟨fun i hi => ?_, fun k hk => ?_⟩
          · have := h i hi
            split at this
            · rename_i hw; rw [hw, Bool.or_true]
            · rw [this]; rfl
          · have hk' : (k : Int) < z.r.size := by omega
            have := h (z.at_ + k) (by omega)
            rw [if_pos ((within_iff (by omega) hp).2 ⟨by omega, by omega⟩)] at this
            rwa [show z.at_ + k - z.at_ = k by omega] at this
end Go.Anv
namespace Go.Proofs.YtghcdkpgcanpgaaGreat
open Go Go.Anv
set_option maxHeartbeats 4000000 in
set_option maxRecDepth 100000 in
theorem drule6_spec (z : Sc) (ok : z.Ok) (hnr : z.t.nr = z.s.nr) : Does TB 28 [.agg z.doc] z.lists (fun v h' => v = .s (.bool z.rule6) ∧ h' = z.lists) := by
  refine fnX_does TB Tryz.func28 rfl (by decide) (fun O on hO => ?_)
  have hs := ok.nr
  have hr := rule6_doc z hnr (by omega)
  have hdw := dsize_wrap z.r
  have hta := z.r.addr.isLt
  have ew : IntKind.u64.wrap (z.s.nr : Int) = (z.s.nr : Int) := wnat (by omega)
  have ee : IntKind.u64.wrap (2147483648 + IntKind.u64.wrap (z.s.nr : Int)) = ((2147483648 + z.s.nr : Nat) : Int) := by
    rw [ew, show (2147483648 : Int) + (z.s.nr : Int) = ((2147483648 + z.s.nr : Nat) : Int) by omega, wnat (by omega)]
  have eI : (bif bif decide (((z.r.addr.toNat : Nat) : Int) ≥ 2147483648) then decide (((z.r.addr.toNat : Nat) : Int) ≤ IntKind.u64.wrap (2147483648 + IntKind.u64.wrap (z.s.nr : Int))) else false then decide (IntKind.u64.wrap z.r.dsize ≤ IntKind.u64.wrap (IntKind.u64.wrap (2147483648 + IntKind.u64.wrap (z.s.nr : Int)) - ((z.r.addr.toNat : Nat) : Int))) else false) = z.ins := by
    rw [ee, hdw.1, cond_and, cond_and]
    unfold Sc.ins
    rw [hnr, Bool.eq_iff_iff]
    simp only [Bool.and_eq_true, decide_eq_true_eq, BitVec.le_def]
    show ((z.r.addr.toNat : Int) ≥ 2147483648 ∧ (z.r.addr.toNat : Int) ≤ ((2147483648 + z.s.nr : Nat) : Int)) ∧ _ ↔ 2147483648 ≤ z.r.addr.toNat ∧ _ ∧ _
    by_cases h : z.r.addr.toNat ≤ 2147483648 + z.s.nr
    · rw [show ((2147483648 + z.s.nr : Nat) : Int) - (z.r.addr.toNat : Int) = ((2147483648 + z.s.nr - z.r.addr.toNat : Nat) : Int) by omega, wnat (by omega)]
      omega
    · omega
  repeat (refine need_intro (by first | exact fun h => h | exact nt | exact an2 | exact an3 | rfl | (simp; done) | fail) ?_)
  refine Does.atc (dsize_spec z) [0, 1, 2, 3, 4, 5, 6] rfl ⟨rfl, rfl, rfl, rfl, rfl, rfl, rfl, trivial⟩ (by decide) ?_
  repeat (refine need_intro (by first | exact fun h => h | exact nt | exact an2 | exact an3 | rfl | (simp; done) | fail) ?_)
  refine loop_by (A := Nat) on (fun k => [(8, .s (.int .i64 (k : Int)))]) (fun _ => z.lists ++ [.cells true z.doc 0]) (fun k => k ≤ z.s.nr ∧ ∀ i, i < k → z.byteOk i = true) (fun k => z.s.nr - k) 0 ⟨Nat.zero_le _, fun i hi => absurd hi (Nat.not_lt_zero i)⟩ ?_ ?_
  · refine ⟨?_, eqvH_refl _⟩
    repeat' (first | exact eqvT_nil | refine eqvT_junk ?_ | refine eqvT_same ?_ | refine eqvT_int ?_ ?_)
  intro i ⟨hi, hp⟩
  repeat (refine need_intro (by first | exact fun h => h | exact nt | exact an2 | exact an3 | rfl | (simp; done) | fail) ?_)
  refine ifB_intro (fun h2 => ?_) (fun h2 => ?_)
  · have hi1 : i < z.s.nr := by have := of_decide_eq_true h2; omega
    have next : z.byteOk i = true → i + 1 ≤ z.s.nr ∧ ∀ j, j < i + 1 → z.byteOk j = true := by
      intro h
      refine ⟨hi1, fun j hj => ?_⟩
      rcases Nat.lt_succ_iff_lt_or_eq.1 hj with h' | h'
      · exact hp j h'
      · subst h'; exact h
    have hne : (bfun z.k.ram (0 + (i : Int).toNat) != bfun z.l.ram (0 + (i : Int).toNat)) = (z.k.ram i != z.l.ram i) := by
      rw [Nat.zero_add, Int.toNat_natCast]
      exact bne_nat _ _
    have ea : IntKind.u64.wrap (2147483648 + IntKind.u64.wrap (i : Int)) = (((ramAt i).toNat : Nat) : Int) := addk (a := 0x80000000#64) (k := i) (by omega)
    repeat (refine need_intro (by first | exact fun h => h | exact nt | exact an2 | exact an3 | rfl | (simp; done) | fail) ?_)
    refine ifB_intro (fun g => ?_) (fun g => ?_)
    · refine Does.ungd (b := [.agg z.doc, .s (.int .u64 ((ramAt i).toNat : Int))]) ⟨⟨g, rfl⟩, ⟨g, by rw [ea]⟩, trivial⟩ ?_
      refine Does.atc (din_spec z (ramAt i)) [0, 1, 2, 3, 4, 5, 6] rfl ⟨rfl, rfl, rfl, rfl, rfl, rfl, rfl, trivial⟩ (by decide) ?_
      replace g : (!(!z.r.stores)) = true := g
      have g' : z.r.stores = true := by simpa using g
      repeat (refine need_intro (by first | exact g | exact fun h => h | exact nt | exact an2 | exact an3 | rfl | (simp; done) | fail) ?_)
      refine ifB_intro (fun h3 => ?_) (fun h3 => ?_)
      · replace h3 : (bif !z.r.stores then true else !z.r.within (ramAt i)) = true := h3
        rw [g'] at h3
        have hw : z.r.within (ramAt i) = false := by simpa using h3
        have eB : z.byteOk i = (z.k.ram i == z.l.ram i) := by unfold Sc.byteOk; rw [hw, Bool.and_false]; rfl
        refine draw_held on rfl (fun _ _ h => h) ?_
        repeat (refine need_intro (by first | omega | (exact ⟨by omega, by omega⟩) | exact fun h => h | exact nt | exact an2 | exact an3 | rfl | (simp; done) | fail) ?_)
        refine ifB_intro (fun h4 => ?_) (fun h4 => ?_)
        · refine dfin z ?_
          have h5 := hne.symm.trans h4
          rw [bne, Bool.not_eq_true'] at h5
          rw [hr]
          exact (allN_not hi1 (eB.trans h5)).symm
        · have h5 := hne.symm.trans h4
          rw [bne, Bool.not_eq_false'] at h5
          refine ⟨i + 1, next (by rw [eB, h5]), by show z.s.nr - (i + 1) < z.s.nr - i; omega, ?_⟩
          refine ⟨?_, eqvH_refl _⟩
          repeat' (first | exact eqvT_nil | refine eqvT_junk ?_ | refine eqvT_same ?_ | refine eqvT_int ?_ ?_)
          rw [i64_in (by omega) (by omega)]; omega
      · replace h3 : (bif !z.r.stores then true else !z.r.within (ramAt i)) = false := h3
        rw [g'] at h3
        have hw : z.r.within (ramAt i) = true := by simpa using h3
        have eB : z.byteOk i = (!z.ins || z.k.ram i == byteAt z.r.data (i - z.at_)) := by unfold Sc.byteOk; rw [hw, g']; rfl
        have hw' : z.r.addr.toNat ≤ 2147483648 + i := by
          unfold RowV.within at hw
          rw [Bool.and_eq_true, Bool.and_eq_true] at hw
          have := of_decide_eq_true hw.1.2
          rw [BitVec.le_def, ramAt_nat (by omega)] at this
          exact this
        have hpl : z.r.placed = true := by
          unfold RowV.within at hw
          rw [Bool.and_eq_true, Bool.and_eq_true] at hw
          exact hw.1.1
        have hw2 := ((Anv.within_iff (by omega) hpl).1 hw).2
        have hz8 := (placed_size hpl).1
        have ed : IntKind.u64.wrap (IntKind.u64.wrap (2147483648 + IntKind.u64.wrap (i : Int)) - ((z.r.addr.toNat : Nat) : Int)) = ((2147483648 + i - z.r.addr.toNat : Nat) : Int) := by
          rw [ea, ramAt_nat (by omega), show ((2147483648 + i : Nat) : Int) - (z.r.addr.toNat : Int) = ((2147483648 + i - z.r.addr.toNat : Nat) : Int) by omega, wnat (by omega)]
        have eb : z.ins = true → (bfun z.k.ram (0 + (i : Int).toNat) != IntKind.u8.wrap (((z.r.data.toNat : Nat) : Int).fdiv (2 ^ min (IntKind.u64.wrap (8 * IntKind.u64.wrap (IntKind.u64.wrap (2147483648 + IntKind.u64.wrap (i : Int)) - ((z.r.addr.toNat : Nat) : Int)))).toNat IntKind.u64.bits))) = !(z.k.ram i == byteAt z.r.data (i - z.at_)) := by
          intro hin
          unfold Sc.ins at hin
          rw [Bool.and_eq_true] at hin
          have i1' : 0x80000000 ≤ z.r.addr.toNat := of_decide_eq_true hin.1
          have eat : z.at_ = z.r.addr.toNat - 0x80000000 := by
            unfold Sc.at_
            rw [BitVec.toNat_sub]
            show (2 ^ 64 - 0x80000000 + z.r.addr.toNat) % 2 ^ 64 = _
            omega
          rw [ed, byteU _ _ (by omega), Nat.zero_add, Int.toNat_natCast, show 2147483648 + i - z.r.addr.toNat = i - z.at_ by omega]
          exact bne_nat _ _
        refine draw_held on rfl (fun _ _ h => h) ?_
        repeat (refine need_intro (by first | (exact fun _ => ⟨by omega, by omega⟩) | (exact fun _ => (by omega)) | (exact fun _ => by rw [ed, wsize (by omega)]; omega) | exact fun h => h | exact nt | exact an2 | exact an3 | rfl | (simp; done) | fail) ?_)
        refine ifB_intro (fun h4 => ?_) (fun h4 => ?_)
        · have h5 := (cond_and _ _).symm.trans h4
          rw [Bool.and_eq_true] at h5
          have hin := eI.symm.trans h5.1
          have h6 := (eb hin).symm.trans h5.2
          rw [Bool.not_eq_true'] at h6
          refine dfin z ?_
          rw [hr]
          exact (allN_not hi1 (eB.trans (by rw [hin, h6]; rfl))).symm
        · have h5 := (cond_and _ _).symm.trans h4
          have hok : z.byteOk i = true := by
            rw [eB]
            cases hin : z.ins with
            | false => rfl
            | true =>
              rw [Bool.and_eq_false_iff] at h5
              rcases h5 with h5 | h5
              · exact absurd (eI.symm.trans h5) (by rw [hin]; decide)
              · have h6 := (eb hin).symm.trans h5
                rw [Bool.not_eq_false'] at h6
                rw [h6]; rfl
          refine ⟨i + 1, next hok, by show z.s.nr - (i + 1) < z.s.nr - i; omega, ?_⟩
          refine ⟨?_, eqvH_refl _⟩
          repeat' (first | exact eqvT_nil | refine eqvT_junk ?_ | refine eqvT_same ?_ | refine eqvT_int ?_ ?_)
          rw [i64_in (by omega) (by omega)]; omega
    · replace g : (!(!z.r.stores)) = false := g
      have g' : z.r.stores = false := by simpa using g
      have eB : z.byteOk i = (z.k.ram i == z.l.ram i) := by unfold Sc.byteOk; rw [g']; rfl
      have g2 : (!z.r.stores) = true := by rw [g']; rfl
      repeat (refine need_intro (by first | exact g | exact g2 | (exact fun _ => g2) | exact fun h => h | exact nt | exact an2 | exact an3 | rfl | (simp; done) | fail) ?_)
      refine ifB_intro (fun h => absurd (h.symm.trans g) (by decide)) (fun _ => ?_)
      repeat (refine need_intro (by first | exact g | exact g2 | (exact fun _ => g2) | exact fun h => h | exact nt | exact an2 | exact an3 | rfl | (simp; done) | fail) ?_)
      refine draw_held on rfl (fun _ _ h => h) ?_
      repeat (refine need_intro (by first | omega | (exact ⟨by omega, by omega⟩) | exact fun h => h | exact nt | exact an2 | exact an3 | rfl | (simp; done) | fail) ?_)
      refine ifB_intro (fun h4 => ?_) (fun h4 => ?_)
      · refine dfin z ?_
        have h5 := hne.symm.trans h4
        rw [bne, Bool.not_eq_true'] at h5
        rw [hr]
        exact (allN_not hi1 (eB.trans h5)).symm
      · have h5 := hne.symm.trans h4
        rw [bne, Bool.not_eq_false'] at h5
        refine ⟨i + 1, next (by rw [eB, h5]), by show z.s.nr - (i + 1) < z.s.nr - i; omega, ?_⟩
        refine ⟨?_, eqvH_refl _⟩
        repeat' (first | exact eqvT_nil | refine eqvT_junk ?_ | refine eqvT_same ?_ | refine eqvT_int ?_ ?_)
        rw [i64_in (by omega) (by omega)]; omega
  · have hi1 : i = z.s.nr := by have := of_decide_eq_false h2; omega
    subst hi1
    refine dfin z ?_
    rw [hr]
    exact (allN_of hp).symm
end Go.Proofs.YtghcdkpgcanpgaaGreat

/- Watching: the rules in one list; Step, the program's. No condition but the lists' lengths. Printed by mk_q13.py. -/
namespace Go.Anv
open Go
/-- The lowest rule that is broken; 0: none. -/
def firstNot : Nat → List Bool → Int
  | _, [] => 0
  | n, b :: r => if b then firstNot (n + 1) r else (n : Int)
def Sc.step (z : Sc) : Int :=
  if z.rule1 then firstNot 2 [z.rule2, z.rule3, z.rule4, z.rule5, z.rule6, z.rule7, z.rule8, z.rule9, z.rule10, z.rule11, z.rule12, z.rule13, z.rule14, z.rule15, z.rule16, z.rule17, z.rule18, z.rule19, z.rule20] else 1
end Go.Anv
namespace Go.Proofs.YtghcdkpgcanpgaaGreat
open Go Go.Anv
/-- The first ten rules' functions; k: where the boxes begin. -/
def fnsA (k : Nat) : List Seg :=
  [.one (.func (.func 46) [] [.ptr (k + 5) 0, .ptr (k + 4) 0, .ptr (k + 0) 0, .ptr (k + 2) 0]),
    .one (.func (.func 47) [] [.ptr (k + 3) 0, .ptr (k + 1) 0, .ptr (k + 2) 0]),
    .one (.func (.func 48) [] [.ptr (k + 3) 0, .ptr (k + 4) 0, .ptr (k + 0) 0]),
    .one (.func (.func 50) [.ptr 7 0] []),
    .one (.func (.func 51) [] [.ptr (k + 1) 0, .ptr (k + 0) 0]),
    .one (.func (.func 54) [.ptr 7 0] []),
    .one (.func (.func 55) [] [.ptr (k + 1) 0, .ptr (k + 2) 0]),
    .one (.func (.func 56) [.ptr 7 0] []),
    .one (.func (.func 57) [.ptr 7 0] []),
    .one (.func (.func 58) [.ptr 7 0] [])]
/-- The other ten. -/
def fnsB (k : Nat) : List Seg :=
  [.one (.func (.func 59) [] [.ptr (k + 3) 0, .ptr (k + 2) 0, .ptr (k + 1) 0, .ptr (k + 5) 0]),
    .one (.func (.func 61) [] [.ptr (k + 0) 0, .ptr (k + 3) 0, .ptr (k + 2) 0, .ptr (k + 1) 0]),
    .one (.func (.func 63) [] [.ptr (k + 0) 0, .ptr (k + 3) 0, .ptr (k + 1) 0, .ptr (k + 2) 0]),
    .one (.func (.func 64) [] [.ptr (k + 0) 0, .ptr (k + 3) 0, .ptr (k + 5) 0, .ptr (k + 4) 0]),
    .one (.func (.func 66) [] [.ptr (k + 0) 0, .ptr (k + 5) 0, .ptr (k + 4) 0]),
    .one (.func (.func 67) [] [.ptr (k + 3) 0, .ptr (k + 5) 0, .ptr (k + 0) 0]),
    .one (.func (.func 68) [.ptr 7 0] []),
    .one (.func (.func 69) [] [.ptr (k + 2) 0, .ptr (k + 1) 0, .ptr (k + 0) 0, .ptr (k + 3) 0]),
    .one (.func (.func 71) [] [.ptr (k + 3) 0, .ptr (k + 1) 0]),
    .one (.func (.func 74) [] [.ptr (k + 3) 0, .ptr (k + 1) 0])]
set_option maxHeartbeats 4000000 in
set_option maxRecDepth 100000 in
theorem first_spec (z : Sc) : Does TB 20 [.s (.ptr 7 0)] z.h (fun v h' => v = .s (.slice 14 0 10 10) ∧ h' = z.hb ++ [.cells true (fnsA 8) 0]) := by
  refine fnX_does TB Tryz.func20 rfl (by decide) (fun O on hO => ?_)
  refine draw_to on ?t9 ?_ ?_
  rotate_left 1
  · refine draw_held on rfl (fun _ _ h => h) ?_
    repeat' (first | refine need_intro (by first | exact fun h => h | exact nt | exact an2 | exact an3 | rfl | (simp; done) | fail) ?_ | refine And.intro ?_ ?_)
    · refine toK_id ?_
      rw [hO]; exact Nat.le_of_ble_eq_true rfl
    all_goals first
      | (refine toK_of [0, 1, 2, 3, 4, 5, 6, 7, 8, 9, 10, 11] (by decide) (by rw [hO]; exact ⟨rfl, rfl, rfl, rfl, rfl, rfl, rfl, rfl, trivial⟩) ?_ ?_; (repeat' (first | exact eqvT_nil | refine eqvT_same ?_)); exact ⟨⟨_, rfl, eqvB_refl _⟩, ⟨_, rfl, eqvB_refl _⟩, ⟨_, rfl, eqvB_refl _⟩, ⟨_, rfl, eqvB_refl _⟩, ⟨_, rfl, eqvB_refl _⟩, ⟨_, rfl, eqvB_refl _⟩, ⟨_, rfl, eqvB_refl _⟩, ⟨_, rfl, eqvB_refl _⟩, ⟨_, rfl, eqvB_refl _⟩, ⟨_, rfl, eqvB_refl _⟩, ⟨_, rfl, eqvB_refl _⟩, ⟨_, rfl, eqvB_refl _⟩, trivial⟩)
      | (refine toK_of [0, 1, 2, 3, 4, 5, 6, 7, 8, 9, 11, 10] (by decide) (by rw [hO]; exact ⟨rfl, rfl, rfl, rfl, rfl, rfl, rfl, rfl, trivial⟩) ?_ ?_; (repeat' (first | exact eqvT_nil | refine eqvT_same ?_)); exact ⟨⟨_, rfl, eqvB_refl _⟩, ⟨_, rfl, eqvB_refl _⟩, ⟨_, rfl, eqvB_refl _⟩, ⟨_, rfl, eqvB_refl _⟩, ⟨_, rfl, eqvB_refl _⟩, ⟨_, rfl, eqvB_refl _⟩, ⟨_, rfl, eqvB_refl _⟩, ⟨_, rfl, eqvB_refl _⟩, ⟨_, rfl, eqvB_refl _⟩, ⟨_, rfl, eqvB_refl _⟩, ⟨_, rfl, eqvB_refl _⟩, ⟨_, rfl, eqvB_refl _⟩, trivial⟩)
      | (refine toK_of [0, 1, 2, 3, 4, 5, 6, 7, 8, 10, 9, 11] (by decide) (by rw [hO]; exact ⟨rfl, rfl, rfl, rfl, rfl, rfl, rfl, rfl, trivial⟩) ?_ ?_; (repeat' (first | exact eqvT_nil | refine eqvT_same ?_)); exact ⟨⟨_, rfl, eqvB_refl _⟩, ⟨_, rfl, eqvB_refl _⟩, ⟨_, rfl, eqvB_refl _⟩, ⟨_, rfl, eqvB_refl _⟩, ⟨_, rfl, eqvB_refl _⟩, ⟨_, rfl, eqvB_refl _⟩, ⟨_, rfl, eqvB_refl _⟩, ⟨_, rfl, eqvB_refl _⟩, ⟨_, rfl, eqvB_refl _⟩, ⟨_, rfl, eqvB_refl _⟩, ⟨_, rfl, eqvB_refl _⟩, ⟨_, rfl, eqvB_refl _⟩, trivial⟩)
      | (refine toK_of [0, 1, 2, 3, 4, 5, 6, 7, 8, 10, 11, 9] (by decide) (by rw [hO]; exact ⟨rfl, rfl, rfl, rfl, rfl, rfl, rfl, rfl, trivial⟩) ?_ ?_; (repeat' (first | exact eqvT_nil | refine eqvT_same ?_)); exact ⟨⟨_, rfl, eqvB_refl _⟩, ⟨_, rfl, eqvB_refl _⟩, ⟨_, rfl, eqvB_refl _⟩, ⟨_, rfl, eqvB_refl _⟩, ⟨_, rfl, eqvB_refl _⟩, ⟨_, rfl, eqvB_refl _⟩, ⟨_, rfl, eqvB_refl _⟩, ⟨_, rfl, eqvB_refl _⟩, ⟨_, rfl, eqvB_refl _⟩, ⟨_, rfl, eqvB_refl _⟩, ⟨_, rfl, eqvB_refl _⟩, ⟨_, rfl, eqvB_refl _⟩, trivial⟩)
      | (refine toK_of [0, 1, 2, 3, 4, 5, 6, 7, 8, 11, 9, 10] (by decide) (by rw [hO]; exact ⟨rfl, rfl, rfl, rfl, rfl, rfl, rfl, rfl, trivial⟩) ?_ ?_; (repeat' (first | exact eqvT_nil | refine eqvT_same ?_)); exact ⟨⟨_, rfl, eqvB_refl _⟩, ⟨_, rfl, eqvB_refl _⟩, ⟨_, rfl, eqvB_refl _⟩, ⟨_, rfl, eqvB_refl _⟩, ⟨_, rfl, eqvB_refl _⟩, ⟨_, rfl, eqvB_refl _⟩, ⟨_, rfl, eqvB_refl _⟩, ⟨_, rfl, eqvB_refl _⟩, ⟨_, rfl, eqvB_refl _⟩, ⟨_, rfl, eqvB_refl _⟩, ⟨_, rfl, eqvB_refl _⟩, ⟨_, rfl, eqvB_refl _⟩, trivial⟩)
      | (refine toK_of [0, 1, 2, 3, 4, 5, 6, 7, 8, 11, 10, 9] (by decide) (by rw [hO]; exact ⟨rfl, rfl, rfl, rfl, rfl, rfl, rfl, rfl, trivial⟩) ?_ ?_; (repeat' (first | exact eqvT_nil | refine eqvT_same ?_)); exact ⟨⟨_, rfl, eqvB_refl _⟩, ⟨_, rfl, eqvB_refl _⟩, ⟨_, rfl, eqvB_refl _⟩, ⟨_, rfl, eqvB_refl _⟩, ⟨_, rfl, eqvB_refl _⟩, ⟨_, rfl, eqvB_refl _⟩, ⟨_, rfl, eqvB_refl _⟩, ⟨_, rfl, eqvB_refl _⟩, ⟨_, rfl, eqvB_refl _⟩, ⟨_, rfl, eqvB_refl _⟩, ⟨_, rfl, eqvB_refl _⟩, ⟨_, rfl, eqvB_refl _⟩, trivial⟩)
      | fail
  refine draw_to on ?t12 ?_ ?_
  rotate_left 1
  · refine draw_held on rfl (fun _ _ h => h) ?_
    repeat' (first | refine need_intro (by first | exact fun h => h | exact nt | exact an2 | exact an3 | rfl | (simp; done) | fail) ?_ | refine And.intro ?_ ?_)
    · refine toK_id ?_
      rw [hO]; exact Nat.le_of_ble_eq_true rfl
    all_goals first
      | (refine toK_of [0, 1, 2, 3, 4, 5, 6, 7, 8, 9, 10, 11, 12, 13] (by decide) (by rw [hO]; exact ⟨rfl, rfl, rfl, rfl, rfl, rfl, rfl, rfl, trivial⟩) ?_ ?_; (repeat' (first | exact eqvT_nil | refine eqvT_same ?_)); exact ⟨⟨_, rfl, eqvB_refl _⟩, ⟨_, rfl, eqvB_refl _⟩, ⟨_, rfl, eqvB_refl _⟩, ⟨_, rfl, eqvB_refl _⟩, ⟨_, rfl, eqvB_refl _⟩, ⟨_, rfl, eqvB_refl _⟩, ⟨_, rfl, eqvB_refl _⟩, ⟨_, rfl, eqvB_refl _⟩, ⟨_, rfl, eqvB_refl _⟩, ⟨_, rfl, eqvB_refl _⟩, ⟨_, rfl, eqvB_refl _⟩, ⟨_, rfl, eqvB_refl _⟩, ⟨_, rfl, eqvB_refl _⟩, ⟨_, rfl, eqvB_refl _⟩, trivial⟩)
      | (refine toK_of [0, 1, 2, 3, 4, 5, 6, 7, 8, 9, 10, 11, 13, 12] (by decide) (by rw [hO]; exact ⟨rfl, rfl, rfl, rfl, rfl, rfl, rfl, rfl, trivial⟩) ?_ ?_; (repeat' (first | exact eqvT_nil | refine eqvT_same ?_)); exact ⟨⟨_, rfl, eqvB_refl _⟩, ⟨_, rfl, eqvB_refl _⟩, ⟨_, rfl, eqvB_refl _⟩, ⟨_, rfl, eqvB_refl _⟩, ⟨_, rfl, eqvB_refl _⟩, ⟨_, rfl, eqvB_refl _⟩, ⟨_, rfl, eqvB_refl _⟩, ⟨_, rfl, eqvB_refl _⟩, ⟨_, rfl, eqvB_refl _⟩, ⟨_, rfl, eqvB_refl _⟩, ⟨_, rfl, eqvB_refl _⟩, ⟨_, rfl, eqvB_refl _⟩, ⟨_, rfl, eqvB_refl _⟩, ⟨_, rfl, eqvB_refl _⟩, trivial⟩)
      | fail
  exact Ends.same ⟨rfl, rfl⟩ (Nat.le_of_ble_eq_true rfl)
set_option maxHeartbeats 4000000 in
set_option maxRecDepth 100000 in
theorem second_spec (z : Sc) : Does TB 21 [.s (.ptr 7 0)] z.h (fun v h' => v = .s (.slice 14 0 10 10) ∧ h' = z.hb ++ [.cells true (fnsB 8) 0]) := by
  refine fnX_does TB Tryz.func21 rfl (by decide) (fun O on hO => ?_)
  refine draw_to on ?t9 ?_ ?_
  rotate_left 1
  · refine draw_held on rfl (fun _ _ h => h) ?_
    repeat' (first | refine need_intro (by first | exact fun h => h | exact nt | exact an2 | exact an3 | rfl | (simp; done) | fail) ?_ | refine And.intro ?_ ?_)
    · refine toK_id ?_
      rw [hO]; exact Nat.le_of_ble_eq_true rfl
    all_goals first
      | (refine toK_of [0, 1, 2, 3, 4, 5, 6, 7, 8, 9, 10, 11] (by decide) (by rw [hO]; exact ⟨rfl, rfl, rfl, rfl, rfl, rfl, rfl, rfl, trivial⟩) ?_ ?_; (repeat' (first | exact eqvT_nil | refine eqvT_same ?_)); exact ⟨⟨_, rfl, eqvB_refl _⟩, ⟨_, rfl, eqvB_refl _⟩, ⟨_, rfl, eqvB_refl _⟩, ⟨_, rfl, eqvB_refl _⟩, ⟨_, rfl, eqvB_refl _⟩, ⟨_, rfl, eqvB_refl _⟩, ⟨_, rfl, eqvB_refl _⟩, ⟨_, rfl, eqvB_refl _⟩, ⟨_, rfl, eqvB_refl _⟩, ⟨_, rfl, eqvB_refl _⟩, ⟨_, rfl, eqvB_refl _⟩, ⟨_, rfl, eqvB_refl _⟩, trivial⟩)
      | (refine toK_of [0, 1, 2, 3, 4, 5, 6, 7, 8, 9, 11, 10] (by decide) (by rw [hO]; exact ⟨rfl, rfl, rfl, rfl, rfl, rfl, rfl, rfl, trivial⟩) ?_ ?_; (repeat' (first | exact eqvT_nil | refine eqvT_same ?_)); exact ⟨⟨_, rfl, eqvB_refl _⟩, ⟨_, rfl, eqvB_refl _⟩, ⟨_, rfl, eqvB_refl _⟩, ⟨_, rfl, eqvB_refl _⟩, ⟨_, rfl, eqvB_refl _⟩, ⟨_, rfl, eqvB_refl _⟩, ⟨_, rfl, eqvB_refl _⟩, ⟨_, rfl, eqvB_refl _⟩, ⟨_, rfl, eqvB_refl _⟩, ⟨_, rfl, eqvB_refl _⟩, ⟨_, rfl, eqvB_refl _⟩, ⟨_, rfl, eqvB_refl _⟩, trivial⟩)
      | (refine toK_of [0, 1, 2, 3, 4, 5, 6, 7, 8, 10, 9, 11] (by decide) (by rw [hO]; exact ⟨rfl, rfl, rfl, rfl, rfl, rfl, rfl, rfl, trivial⟩) ?_ ?_; (repeat' (first | exact eqvT_nil | refine eqvT_same ?_)); exact ⟨⟨_, rfl, eqvB_refl _⟩, ⟨_, rfl, eqvB_refl _⟩, ⟨_, rfl, eqvB_refl _⟩, ⟨_, rfl, eqvB_refl _⟩, ⟨_, rfl, eqvB_refl _⟩, ⟨_, rfl, eqvB_refl _⟩, ⟨_, rfl, eqvB_refl _⟩, ⟨_, rfl, eqvB_refl _⟩, ⟨_, rfl, eqvB_refl _⟩, ⟨_, rfl, eqvB_refl _⟩, ⟨_, rfl, eqvB_refl _⟩, ⟨_, rfl, eqvB_refl _⟩, trivial⟩)
      | (refine toK_of [0, 1, 2, 3, 4, 5, 6, 7, 8, 10, 11, 9] (by decide) (by rw [hO]; exact ⟨rfl, rfl, rfl, rfl, rfl, rfl, rfl, rfl, trivial⟩) ?_ ?_; (repeat' (first | exact eqvT_nil | refine eqvT_same ?_)); exact ⟨⟨_, rfl, eqvB_refl _⟩, ⟨_, rfl, eqvB_refl _⟩, ⟨_, rfl, eqvB_refl _⟩, ⟨_, rfl, eqvB_refl _⟩, ⟨_, rfl, eqvB_refl _⟩, ⟨_, rfl, eqvB_refl _⟩, ⟨_, rfl, eqvB_refl _⟩, ⟨_, rfl, eqvB_refl _⟩, ⟨_, rfl, eqvB_refl _⟩, ⟨_, rfl, eqvB_refl _⟩, ⟨_, rfl, eqvB_refl _⟩, ⟨_, rfl, eqvB_refl _⟩, trivial⟩)
      | (refine toK_of [0, 1, 2, 3, 4, 5, 6, 7, 8, 11, 9, 10] (by decide) (by rw [hO]; exact ⟨rfl, rfl, rfl, rfl, rfl, rfl, rfl, rfl, trivial⟩) ?_ ?_; (repeat' (first | exact eqvT_nil | refine eqvT_same ?_)); exact ⟨⟨_, rfl, eqvB_refl _⟩, ⟨_, rfl, eqvB_refl _⟩, ⟨_, rfl, eqvB_refl _⟩, ⟨_, rfl, eqvB_refl _⟩, ⟨_, rfl, eqvB_refl _⟩, ⟨_, rfl, eqvB_refl _⟩, ⟨_, rfl, eqvB_refl _⟩, ⟨_, rfl, eqvB_refl _⟩, ⟨_, rfl, eqvB_refl _⟩, ⟨_, rfl, eqvB_refl _⟩, ⟨_, rfl, eqvB_refl _⟩, ⟨_, rfl, eqvB_refl _⟩, trivial⟩)
      | (refine toK_of [0, 1, 2, 3, 4, 5, 6, 7, 8, 11, 10, 9] (by decide) (by rw [hO]; exact ⟨rfl, rfl, rfl, rfl, rfl, rfl, rfl, rfl, trivial⟩) ?_ ?_; (repeat' (first | exact eqvT_nil | refine eqvT_same ?_)); exact ⟨⟨_, rfl, eqvB_refl _⟩, ⟨_, rfl, eqvB_refl _⟩, ⟨_, rfl, eqvB_refl _⟩, ⟨_, rfl, eqvB_refl _⟩, ⟨_, rfl, eqvB_refl _⟩, ⟨_, rfl, eqvB_refl _⟩, ⟨_, rfl, eqvB_refl _⟩, ⟨_, rfl, eqvB_refl _⟩, ⟨_, rfl, eqvB_refl _⟩, ⟨_, rfl, eqvB_refl _⟩, ⟨_, rfl, eqvB_refl _⟩, ⟨_, rfl, eqvB_refl _⟩, trivial⟩)
      | fail
  refine draw_to on ?t12 ?_ ?_
  rotate_left 1
  · refine draw_held on rfl (fun _ _ h => h) ?_
    repeat' (first | refine need_intro (by first | exact fun h => h | exact nt | exact an2 | exact an3 | rfl | (simp; done) | fail) ?_ | refine And.intro ?_ ?_)
    · refine toK_id ?_
      rw [hO]; exact Nat.le_of_ble_eq_true rfl
    all_goals first
      | (refine toK_of [0, 1, 2, 3, 4, 5, 6, 7, 8, 9, 10, 11, 12, 13] (by decide) (by rw [hO]; exact ⟨rfl, rfl, rfl, rfl, rfl, rfl, rfl, rfl, trivial⟩) ?_ ?_; (repeat' (first | exact eqvT_nil | refine eqvT_same ?_)); exact ⟨⟨_, rfl, eqvB_refl _⟩, ⟨_, rfl, eqvB_refl _⟩, ⟨_, rfl, eqvB_refl _⟩, ⟨_, rfl, eqvB_refl _⟩, ⟨_, rfl, eqvB_refl _⟩, ⟨_, rfl, eqvB_refl _⟩, ⟨_, rfl, eqvB_refl _⟩, ⟨_, rfl, eqvB_refl _⟩, ⟨_, rfl, eqvB_refl _⟩, ⟨_, rfl, eqvB_refl _⟩, ⟨_, rfl, eqvB_refl _⟩, ⟨_, rfl, eqvB_refl _⟩, ⟨_, rfl, eqvB_refl _⟩, ⟨_, rfl, eqvB_refl _⟩, trivial⟩)
      | (refine toK_of [0, 1, 2, 3, 4, 5, 6, 7, 8, 9, 10, 11, 13, 12] (by decide) (by rw [hO]; exact ⟨rfl, rfl, rfl, rfl, rfl, rfl, rfl, rfl, trivial⟩) ?_ ?_; (repeat' (first | exact eqvT_nil | refine eqvT_same ?_)); exact ⟨⟨_, rfl, eqvB_refl _⟩, ⟨_, rfl, eqvB_refl _⟩, ⟨_, rfl, eqvB_refl _⟩, ⟨_, rfl, eqvB_refl _⟩, ⟨_, rfl, eqvB_refl _⟩, ⟨_, rfl, eqvB_refl _⟩, ⟨_, rfl, eqvB_refl _⟩, ⟨_, rfl, eqvB_refl _⟩, ⟨_, rfl, eqvB_refl _⟩, ⟨_, rfl, eqvB_refl _⟩, ⟨_, rfl, eqvB_refl _⟩, ⟨_, rfl, eqvB_refl _⟩, ⟨_, rfl, eqvB_refl _⟩, ⟨_, rfl, eqvB_refl _⟩, trivial⟩)
      | fail
  exact Ends.same ⟨rfl, rfl⟩ (Nat.le_of_ble_eq_true rfl)
end Go.Proofs.YtghcdkpgcanpgaaGreat

/- Watching: the rules in one list: all twenty; Step, the program's. No condition but the lists' lengths. Printed by mk_q13.py. -/
namespace Go.Proofs.YtghcdkpgcanpgaaGreat
open Go Go.Anv
theorem eqvB_of_eq {a b : Blk} (h : a = b) : eqvB a b := h ▸ eqvB_refl a
theorem eqvS_of_eq {a b : List Seg} (h : a = b) : eqvS a b := h ▸ eqvS_refl a
set_option maxHeartbeats 4000000 in
set_option maxRecDepth 100000 in
theorem rules_spec (z : Sc) : Does TB 11 [.s (.ptr 7 0)] z.h (fun v h' => ∃ c, 20 ≤ c ∧ v = .s (.gs 20 0 20 c) ∧ h' = z.h ++ boxes ++ boxes ++ [.cells true (fnsA 8 ++ fnsB 14) (c - 20)]) := by
  refine fnX_does TB Tryz.func11 rfl (by decide) (fun O on hO => ?_)
  refine Does.atn (first_spec z) [0, 1, 2, 3, 4, 5, 6, 7] rfl ⟨rfl, rfl, rfl, rfl, rfl, rfl, rfl, rfl, trivial⟩ (by decide) ?_ ?_
  · rintro v h' ⟨_, rfl⟩
    exact ⟨.inr (.inr rfl), .inr (.inr rfl), .inr (.inr rfl), .inr (.inr rfl), .inr (.inr rfl), .inr (.inr rfl), .inr (.inr rfl), .inr (.inr rfl), .inl rfl, .inl rfl, .inl rfl, .inl rfl, .inl rfl, .inl rfl, .inl rfl, trivial⟩
  rintro v h' ⟨rfl, rfl⟩
  refine Does.atn (second_spec z) [0, 1, 2, 3, 4, 5, 6, 7] rfl ⟨rfl, rfl, rfl, rfl, rfl, rfl, rfl, rfl, trivial⟩ (by decide) ?_ ?_
  · rintro v h' ⟨_, rfl⟩
    exact ⟨.inr (.inr rfl), .inr (.inr rfl), .inr (.inr rfl), .inr (.inr rfl), .inr (.inr rfl), .inr (.inr rfl), .inr (.inr rfl), .inr (.inr rfl), .inl rfl, .inl rfl, .inl rfl, .inl rfl, .inl rfl, .inl rfl, .inl rfl, trivial⟩
  rintro v h' ⟨rfl, rfl⟩
  refine need_intro ⟨rfl, rfl, rfl, ⟨⟨rfl, Nat.le_of_ble_eq_true rfl⟩, Nat.le_of_ble_eq_true rfl, Nat.le_of_ble_eq_true rfl⟩⟩ ?_
  intro c hc
  have hc : 20 ≤ c := hc
  refine ⟨_, _, [0, 1, 2, 3, 4, 5, 6, 7, 8, 9, 10, 11, 12, 13, 15, 16, 17, 18, 19, 20, 22], ⟨c, hc, rfl, rfl⟩, by decide, ⟨rfl, rfl, rfl, rfl, rfl, rfl, rfl, rfl, trivial⟩, ⟨rfl, rfl, rfl, rfl⟩, ?_⟩
  exact ⟨⟨_, rfl, eqvB_refl _⟩, ⟨_, rfl, eqvB_refl _⟩, ⟨_, rfl, eqvB_refl _⟩, ⟨_, rfl, eqvB_refl _⟩, ⟨_, rfl, eqvB_refl _⟩, ⟨_, rfl, eqvB_refl _⟩, ⟨_, rfl, eqvB_refl _⟩, ⟨_, rfl, eqvB_refl _⟩, ⟨_, rfl, eqvB_refl _⟩, ⟨_, rfl, eqvB_refl _⟩, ⟨_, rfl, eqvB_refl _⟩, ⟨_, rfl, eqvB_refl _⟩, ⟨_, rfl, eqvB_refl _⟩, ⟨_, rfl, eqvB_refl _⟩, ⟨_, rfl, eqvB_of_eq (by kernel_rfl)⟩, ⟨_, rfl, eqvB_of_eq (by kernel_rfl)⟩, ⟨_, rfl, eqvB_of_eq (by kernel_rfl)⟩, ⟨_, rfl, eqvB_of_eq (by kernel_rfl)⟩, ⟨_, rfl, eqvB_of_eq (by kernel_rfl)⟩, ⟨_, rfl, eqvB_of_eq (by kernel_rfl)⟩, ⟨_, rfl, ⟨rfl, Nat.mul_one _, eqvS_of_eq (by kernel_rfl)⟩⟩, trivial⟩
end Go.Proofs.YtghcdkpgcanpgaaGreat

/- Watching: Step, the program's. No condition but the lists' lengths. Printed by mk_q13.py. -/
namespace Go.Anv
open Go
/-- A step of two wholes that were handed in. -/
def Sc.made (z : Sc) : Sc := { z with c := z.c.proper, d := z.d.proper, e := z.d }
end Go.Anv
namespace Go.Proofs.YtghcdkpgcanpgaaGreat
open Go Go.Anv
set_option maxHeartbeats 8000000 in
set_option maxRecDepth 100000 in
theorem step_spec (z : Sc) (ok : z.Ok) : Does TB 5 [.agg z.b, .agg z.a, .agg z.world, .agg z.r.segs] z.lists (fun v h' => v = .s (.int .i64 z.made.step) ∧ h' = z.lists) := by
  refine fnX_does TB Tryz.func5 rfl (by decide) (fun O on hO => ?_)
  have ok' : z.made.Ok := ⟨ok.nr, ok.ni, ok.no, ok.mr, ok.mi, ok.mo, ok.cr, ok.ci, ok.co, ok.dr, ok.di, ok.do_, ok.size⟩
  repeat (refine need_intro (by first | exact fun h => h | exact nt | exact an2 | exact an3 | rfl | (simp; done) | fail) ?_)
  refine draw_but [11] on rfl (fun _ _ h => h) ?_
  refine (proper_spec z.c _).mono ?_
  rintro _ _ ⟨rfl, rfl⟩
  repeat (refine need_intro (by first | exact fun h => h | exact nt | exact an2 | exact an3 | rfl | (simp; done) | fail) ?_)
  refine (proper_spec z.d _).mono ?_
  rintro _ _ ⟨rfl, rfl⟩
  repeat (refine need_intro (by first | exact fun h => h | exact nt | exact an2 | exact an3 | rfl | (simp; done) | fail) ?_)
  refine Does.atn (rules_spec z.made) [0, 1, 2, 3, 4, 5, 6, 11] rfl ⟨rfl, rfl, rfl, rfl, rfl, rfl, rfl, rfl, trivial⟩ (by decide) ?_ ?_
  · rintro v h' ⟨c, _, _, rfl⟩
    exact ⟨.inr (.inr rfl), .inr (.inr rfl), .inr (.inr rfl), .inr (.inr rfl), .inr (.inr rfl), .inr (.inr rfl), .inr (.inr rfl), .inr (.inr rfl), .inl rfl, .inl rfl, .inl rfl, .inl rfl, .inl rfl, .inl rfl, .inl rfl, .inl rfl, .inl rfl, .inl rfl, .inl rfl, .inl rfl, .inl rfl, trivial⟩
  rintro v h' ⟨c, hc, rfl, rfl⟩
  have fin : ∀ {x : Int} {J : List Blk}, z.made.step = x → Anv.Ends 7 (fun v h' => v = .s (.int .i64 z.made.step) ∧ h' = z.lists) (.s (.int .i64 x)) (z.lists ++ J) := by
    rintro x J rfl
    exact Ends.ro rfl ⟨rfl, rfl⟩ rfl
  refine loop_times on 21 ?_
  refine ⟨?_⟩
  repeat (refine need_intro (by first | exact ⟨by decide, by decide⟩ | exact fun h => h | exact nt | exact an2 | exact an3 | rfl | (simp; done) | fail) ?_)
  refine Does.atc (rule1_spec z.made) [0, 1, 2, 3, 4, 5, 6, 11, 12, 13, 14, 15, 16, 17] rfl ⟨rfl, rfl, rfl, rfl, rfl, rfl, rfl, rfl, rfl, rfl, rfl, rfl, rfl, rfl, trivial⟩ (by decide) ?_
  refine ifB_intro (fun h => fin ?_) (fun r1 => ?_)
  · rw [Bool.not_eq_true'] at h
    unfold Sc.step
    rw [if_neg (by rw [h]; decide)]
    decide
  rw [Bool.not_eq_false'] at r1
  have hnr : z.made.t.nr = z.made.s.nr := by
    unfold Sc.rule1 at r1
    rw [Bool.and_eq_true] at r1
    exact eq_of_beq r1.1
  refine ⟨?_⟩
  repeat (refine need_intro (by first | exact ⟨by decide, by decide⟩ | exact fun h => h | exact nt | exact an2 | exact an3 | rfl | (simp; done) | fail) ?_)
  refine Does.atc (rule2_spec z.made) [0, 1, 2, 3, 4, 5, 6, 11, 12, 13, 14, 15, 16, 17] rfl ⟨rfl, rfl, rfl, rfl, rfl, rfl, rfl, rfl, rfl, rfl, rfl, rfl, rfl, rfl, trivial⟩ (by decide) ?_
  refine ifB_intro (fun h => fin ?_) (fun r2 => ?_)
  · rw [Bool.not_eq_true'] at h
    unfold Sc.step
    rw [if_pos r1]
    simp only [firstNot, h, Bool.false_eq_true, if_false]
    decide
  rw [Bool.not_eq_false'] at r2
  refine ⟨?_⟩
  repeat (refine need_intro (by first | exact ⟨by decide, by decide⟩ | exact fun h => h | exact nt | exact an2 | exact an3 | rfl | (simp; done) | fail) ?_)
  refine Does.atc (rule3_spec z.made) [0, 1, 2, 3, 4, 5, 6, 11, 12, 13, 14, 15, 16, 17] rfl ⟨rfl, rfl, rfl, rfl, rfl, rfl, rfl, rfl, rfl, rfl, rfl, rfl, rfl, rfl, trivial⟩ (by decide) ?_
  refine ifB_intro (fun h => fin ?_) (fun r3 => ?_)
  · rw [Bool.not_eq_true'] at h
    unfold Sc.step
    rw [if_pos r1]
    simp only [firstNot, h, r2, if_true, Bool.false_eq_true, if_false]
    decide
  rw [Bool.not_eq_false'] at r3
  refine ⟨?_⟩
  repeat (refine need_intro (by first | exact ⟨by decide, by decide⟩ | exact fun h => h | exact nt | exact an2 | exact an3 | rfl | (simp; done) | fail) ?_)
  refine Does.atc (rule4_spec z.made) [0, 1, 2, 3, 4, 5, 6, 11] rfl ⟨rfl, rfl, rfl, rfl, rfl, rfl, rfl, rfl, trivial⟩ (by decide) ?_
  refine ifB_intro (fun h => fin ?_) (fun r4 => ?_)
  · rw [Bool.not_eq_true'] at h
    unfold Sc.step
    rw [if_pos r1]
    simp only [firstNot, h, r2, r3, if_true, Bool.false_eq_true, if_false]
    decide
  rw [Bool.not_eq_false'] at r4
  refine ⟨?_⟩
  repeat (refine need_intro (by first | exact ⟨by decide, by decide⟩ | exact fun h => h | exact nt | exact an2 | exact an3 | rfl | (simp; done) | fail) ?_)
  refine Does.atc (rule5_spec z.made ok' hnr) [0, 1, 2, 3, 4, 5, 6, 11, 12, 13, 14, 15, 16, 17] rfl ⟨rfl, rfl, rfl, rfl, rfl, rfl, rfl, rfl, rfl, rfl, rfl, rfl, rfl, rfl, trivial⟩ (by decide) ?_
  refine ifB_intro (fun h => fin ?_) (fun r5 => ?_)
  · rw [Bool.not_eq_true'] at h
    unfold Sc.step
    rw [if_pos r1]
    simp only [firstNot, h, r2, r3, r4, if_true, Bool.false_eq_true, if_false]
    decide
  rw [Bool.not_eq_false'] at r5
  refine ⟨?_⟩
  repeat (refine need_intro (by first | exact ⟨by decide, by decide⟩ | exact fun h => h | exact nt | exact an2 | exact an3 | rfl | (simp; done) | fail) ?_)
  refine Does.atc (rule6_spec z.made ok' hnr) [0, 1, 2, 3, 4, 5, 6, 11] rfl ⟨rfl, rfl, rfl, rfl, rfl, rfl, rfl, rfl, trivial⟩ (by decide) ?_
  refine ifB_intro (fun h => fin ?_) (fun r6 => ?_)
  · rw [Bool.not_eq_true'] at h
    unfold Sc.step
    rw [if_pos r1]
    simp only [firstNot, h, r2, r3, r4, r5, if_true, Bool.false_eq_true, if_false]
    decide
  rw [Bool.not_eq_false'] at r6
  refine ⟨?_⟩
  repeat (refine need_intro (by first | exact ⟨by decide, by decide⟩ | exact fun h => h | exact nt | exact an2 | exact an3 | rfl | (simp; done) | fail) ?_)
  refine Does.atc (rule7_spec z.made) [0, 1, 2, 3, 4, 5, 6, 11, 12, 13, 14, 15, 16, 17] rfl ⟨rfl, rfl, rfl, rfl, rfl, rfl, rfl, rfl, rfl, rfl, rfl, rfl, rfl, rfl, trivial⟩ (by decide) ?_
  refine ifB_intro (fun h => fin ?_) (fun r7 => ?_)
  · rw [Bool.not_eq_true'] at h
    unfold Sc.step
    rw [if_pos r1]
    simp only [firstNot, h, r2, r3, r4, r5, r6, if_true, Bool.false_eq_true, if_false]
    decide
  rw [Bool.not_eq_false'] at r7
  refine ⟨?_⟩
  repeat (refine need_intro (by first | exact ⟨by decide, by decide⟩ | exact fun h => h | exact nt | exact an2 | exact an3 | rfl | (simp; done) | fail) ?_)
  refine Does.atc (rule8_spec z.made) [0, 1, 2, 3, 4, 5, 6, 11] rfl ⟨rfl, rfl, rfl, rfl, rfl, rfl, rfl, rfl, trivial⟩ (by decide) ?_
  refine ifB_intro (fun h => fin ?_) (fun r8 => ?_)
  · rw [Bool.not_eq_true'] at h
    unfold Sc.step
    rw [if_pos r1]
    simp only [firstNot, h, r2, r3, r4, r5, r6, r7, if_true, Bool.false_eq_true, if_false]
    decide
  rw [Bool.not_eq_false'] at r8
  refine ⟨?_⟩
  repeat (refine need_intro (by first | exact ⟨by decide, by decide⟩ | exact fun h => h | exact nt | exact an2 | exact an3 | rfl | (simp; done) | fail) ?_)
  refine Does.atc (rule9_spec z.made) [0, 1, 2, 3, 4, 5, 6, 11] rfl ⟨rfl, rfl, rfl, rfl, rfl, rfl, rfl, rfl, trivial⟩ (by decide) ?_
  refine ifB_intro (fun h => fin ?_) (fun r9 => ?_)
  · rw [Bool.not_eq_true'] at h
    unfold Sc.step
    rw [if_pos r1]
    simp only [firstNot, h, r2, r3, r4, r5, r6, r7, r8, if_true, Bool.false_eq_true, if_false]
    decide
  rw [Bool.not_eq_false'] at r9
  refine ⟨?_⟩
  repeat (refine need_intro (by first | exact ⟨by decide, by decide⟩ | exact fun h => h | exact nt | exact an2 | exact an3 | rfl | (simp; done) | fail) ?_)
  refine Does.atc (rule10_spec z.made) [0, 1, 2, 3, 4, 5, 6, 11] rfl ⟨rfl, rfl, rfl, rfl, rfl, rfl, rfl, rfl, trivial⟩ (by decide) ?_
  refine ifB_intro (fun h => fin ?_) (fun r10 => ?_)
  · rw [Bool.not_eq_true'] at h
    unfold Sc.step
    rw [if_pos r1]
    simp only [firstNot, h, r2, r3, r4, r5, r6, r7, r8, r9, if_true, Bool.false_eq_true, if_false]
    decide
  rw [Bool.not_eq_false'] at r10
  refine ⟨?_⟩
  repeat (refine need_intro (by first | exact ⟨by decide, by decide⟩ | exact fun h => h | exact nt | exact an2 | exact an3 | rfl | (simp; done) | fail) ?_)
  refine Does.atc (rule11_spec z.made) [0, 1, 2, 3, 4, 5, 6, 11, 18, 19, 20, 21, 22, 23] rfl ⟨rfl, rfl, rfl, rfl, rfl, rfl, rfl, rfl, rfl, rfl, rfl, rfl, rfl, rfl, trivial⟩ (by decide) ?_
  refine ifB_intro (fun h => fin ?_) (fun r11 => ?_)
  · rw [Bool.not_eq_true'] at h
    unfold Sc.step
    rw [if_pos r1]
    simp only [firstNot, h, r2, r3, r4, r5, r6, r7, r8, r9, r10, if_true, Bool.false_eq_true, if_false]
    decide
  rw [Bool.not_eq_false'] at r11
  refine ⟨?_⟩
  repeat (refine need_intro (by first | exact ⟨by decide, by decide⟩ | exact fun h => h | exact nt | exact an2 | exact an3 | rfl | (simp; done) | fail) ?_)
  refine Does.atc (rule12_spec z.made) [0, 1, 2, 3, 4, 5, 6, 11, 18, 19, 20, 21, 22, 23] rfl ⟨rfl, rfl, rfl, rfl, rfl, rfl, rfl, rfl, rfl, rfl, rfl, rfl, rfl, rfl, trivial⟩ (by decide) ?_
  refine ifB_intro (fun h => fin ?_) (fun r12 => ?_)
  · rw [Bool.not_eq_true'] at h
    unfold Sc.step
    rw [if_pos r1]
    simp only [firstNot, h, r2, r3, r4, r5, r6, r7, r8, r9, r10, r11, if_true, Bool.false_eq_true, if_false]
    decide
  rw [Bool.not_eq_false'] at r12
  refine ⟨?_⟩
  repeat (refine need_intro (by first | exact ⟨by decide, by decide⟩ | exact fun h => h | exact nt | exact an2 | exact an3 | rfl | (simp; done) | fail) ?_)
  refine Does.atc (rule13_spec z.made) [0, 1, 2, 3, 4, 5, 6, 11, 18, 19, 20, 21, 22, 23] rfl ⟨rfl, rfl, rfl, rfl, rfl, rfl, rfl, rfl, rfl, rfl, rfl, rfl, rfl, rfl, trivial⟩ (by decide) ?_
  refine ifB_intro (fun h => fin ?_) (fun r13 => ?_)
  · rw [Bool.not_eq_true'] at h
    unfold Sc.step
    rw [if_pos r1]
    simp only [firstNot, h, r2, r3, r4, r5, r6, r7, r8, r9, r10, r11, r12, if_true, Bool.false_eq_true, if_false]
    decide
  rw [Bool.not_eq_false'] at r13
  refine ⟨?_⟩
  repeat (refine need_intro (by first | exact ⟨by decide, by decide⟩ | exact fun h => h | exact nt | exact an2 | exact an3 | rfl | (simp; done) | fail) ?_)
  refine Does.atc (rule14_spec z.made) [0, 1, 2, 3, 4, 5, 6, 11, 18, 19, 20, 21, 22, 23] rfl ⟨rfl, rfl, rfl, rfl, rfl, rfl, rfl, rfl, rfl, rfl, rfl, rfl, rfl, rfl, trivial⟩ (by decide) ?_
  refine ifB_intro (fun h => fin ?_) (fun r14 => ?_)
  · rw [Bool.not_eq_true'] at h
    unfold Sc.step
    rw [if_pos r1]
    simp only [firstNot, h, r2, r3, r4, r5, r6, r7, r8, r9, r10, r11, r12, r13, if_true, Bool.false_eq_true, if_false]
    decide
  rw [Bool.not_eq_false'] at r14
  refine ⟨?_⟩
  repeat (refine need_intro (by first | exact ⟨by decide, by decide⟩ | exact fun h => h | exact nt | exact an2 | exact an3 | rfl | (simp; done) | fail) ?_)
  refine Does.atc (rule15_spec z.made) [0, 1, 2, 3, 4, 5, 6, 11, 18, 19, 20, 21, 22, 23] rfl ⟨rfl, rfl, rfl, rfl, rfl, rfl, rfl, rfl, rfl, rfl, rfl, rfl, rfl, rfl, trivial⟩ (by decide) ?_
  refine ifB_intro (fun h => fin ?_) (fun r15 => ?_)
  · rw [Bool.not_eq_true'] at h
    unfold Sc.step
    rw [if_pos r1]
    simp only [firstNot, h, r2, r3, r4, r5, r6, r7, r8, r9, r10, r11, r12, r13, r14, if_true, Bool.false_eq_true, if_false]
    decide
  rw [Bool.not_eq_false'] at r15
  refine ⟨?_⟩
  repeat (refine need_intro (by first | exact ⟨by decide, by decide⟩ | exact fun h => h | exact nt | exact an2 | exact an3 | rfl | (simp; done) | fail) ?_)
  refine Does.atc (rule16_spec z.made) [0, 1, 2, 3, 4, 5, 6, 11, 18, 19, 20, 21, 22, 23] rfl ⟨rfl, rfl, rfl, rfl, rfl, rfl, rfl, rfl, rfl, rfl, rfl, rfl, rfl, rfl, trivial⟩ (by decide) ?_
  refine ifB_intro (fun h => fin ?_) (fun r16 => ?_)
  · rw [Bool.not_eq_true'] at h
    unfold Sc.step
    rw [if_pos r1]
    simp only [firstNot, h, r2, r3, r4, r5, r6, r7, r8, r9, r10, r11, r12, r13, r14, r15, if_true, Bool.false_eq_true, if_false]
    decide
  rw [Bool.not_eq_false'] at r16
  refine ⟨?_⟩
  repeat (refine need_intro (by first | exact ⟨by decide, by decide⟩ | exact fun h => h | exact nt | exact an2 | exact an3 | rfl | (simp; done) | fail) ?_)
  refine Does.atc (rule17_spec z.made ok') [0, 1, 2, 3, 4, 5, 6, 11] rfl ⟨rfl, rfl, rfl, rfl, rfl, rfl, rfl, rfl, trivial⟩ (by decide) ?_
  refine ifB_intro (fun h => fin ?_) (fun r17 => ?_)
  · rw [Bool.not_eq_true'] at h
    unfold Sc.step
    rw [if_pos r1]
    simp only [firstNot, h, r2, r3, r4, r5, r6, r7, r8, r9, r10, r11, r12, r13, r14, r15, r16, if_true, Bool.false_eq_true, if_false]
    decide
  rw [Bool.not_eq_false'] at r17
  refine ⟨?_⟩
  repeat (refine need_intro (by first | exact ⟨by decide, by decide⟩ | exact fun h => h | exact nt | exact an2 | exact an3 | rfl | (simp; done) | fail) ?_)
  refine Does.atc (rule18_spec z.made) [0, 1, 2, 3, 4, 5, 6, 11, 18, 19, 20, 21, 22, 23] rfl ⟨rfl, rfl, rfl, rfl, rfl, rfl, rfl, rfl, rfl, rfl, rfl, rfl, rfl, rfl, trivial⟩ (by decide) ?_
  refine ifB_intro (fun h => fin ?_) (fun r18 => ?_)
  · rw [Bool.not_eq_true'] at h
    unfold Sc.step
    rw [if_pos r1]
    simp only [firstNot, h, r2, r3, r4, r5, r6, r7, r8, r9, r10, r11, r12, r13, r14, r15, r16, r17, if_true, Bool.false_eq_true, if_false]
    decide
  rw [Bool.not_eq_false'] at r18
  refine ⟨?_⟩
  repeat (refine need_intro (by first | exact ⟨by decide, by decide⟩ | exact fun h => h | exact nt | exact an2 | exact an3 | rfl | (simp; done) | fail) ?_)
  refine Does.atc (rule19_spec z.made ok') [0, 1, 2, 3, 4, 5, 6, 11, 18, 19, 20, 21, 22, 23] rfl ⟨rfl, rfl, rfl, rfl, rfl, rfl, rfl, rfl, rfl, rfl, rfl, rfl, rfl, rfl, trivial⟩ (by decide) ?_
  refine ifB_intro (fun h => fin ?_) (fun r19 => ?_)
  · rw [Bool.not_eq_true'] at h
    unfold Sc.step
    rw [if_pos r1]
    simp only [firstNot, h, r2, r3, r4, r5, r6, r7, r8, r9, r10, r11, r12, r13, r14, r15, r16, r17, r18, if_true, Bool.false_eq_true, if_false]
    decide
  rw [Bool.not_eq_false'] at r19
  refine ⟨?_⟩
  repeat (refine need_intro (by first | exact ⟨by decide, by decide⟩ | exact fun h => h | exact nt | exact an2 | exact an3 | rfl | (simp; done) | fail) ?_)
  refine Does.atc (rule20_spec z.made) [0, 1, 2, 3, 4, 5, 6, 11, 18, 19, 20, 21, 22, 23] rfl ⟨rfl, rfl, rfl, rfl, rfl, rfl, rfl, rfl, rfl, rfl, rfl, rfl, rfl, rfl, trivial⟩ (by decide) ?_
  refine ifB_intro (fun h => fin ?_) (fun r20 => ?_)
  · rw [Bool.not_eq_true'] at h
    unfold Sc.step
    rw [if_pos r1]
    simp only [firstNot, h, r2, r3, r4, r5, r6, r7, r8, r9, r10, r11, r12, r13, r14, r15, r16, r17, r18, r19, if_true, Bool.false_eq_true, if_false]
    decide
  rw [Bool.not_eq_false'] at r20
  refine ⟨?_⟩
  refine fin ?_
  unfold Sc.step
  rw [if_pos r1]
  simp only [firstNot, r2, r3, r4, r5, r6, r7, r8, r9, r10, r11, r12, r13, r14, r15, r16, r17, r18, r19, r20, if_true]
end Go.Proofs.YtghcdkpgcanpgaaGreat

/- The document's side of a step: its rules by their numbers, Step. No condition but the lists' lengths. Printed by mk_d7.py. -/
namespace Go.Proofs.YtghcdkpgcanpgaaGreat
open Go Go.Anv
set_option maxRecDepth 100000 in
theorem dkept2 (z : Sc) : Does TB 13 [.agg z.doc, .s (.int .i64 2)] z.lists (fun v h' => v = .s (.bool z.rule2) ∧ h' = z.lists) := by
  refine fnX_does TB Tryz.func13 rfl (by decide) (fun O on hO => ?_)
  repeat (refine need_intro (by first | exact fun h => h | exact nt | exact an2 | exact an3 | rfl | (simp; done) | fail) ?_)
  refine Does.atc (drule2_spec z) [0, 1, 2, 3, 4, 5, 6] rfl ⟨rfl, rfl, rfl, rfl, rfl, rfl, rfl, trivial⟩ (by decide) ?_
  repeat (refine need_intro (by first | exact fun h => h | exact nt | exact an2 | exact an3 | rfl | (simp; done) | fail) ?_)
  exact dfin z rfl
set_option maxRecDepth 100000 in
theorem dkept3 (z : Sc) (ok : z.Ok) : Does TB 13 [.agg z.doc, .s (.int .i64 3)] z.lists (fun v h' => v = .s (.bool z.rule3) ∧ h' = z.lists) := by
  refine fnX_does TB Tryz.func13 rfl (by decide) (fun O on hO => ?_)
  repeat (refine need_intro (by first | exact fun h => h | exact nt | exact an2 | exact an3 | rfl | (simp; done) | fail) ?_)
  refine Does.atc (drule3_spec z ok) [0, 1, 2, 3, 4, 5, 6] rfl ⟨rfl, rfl, rfl, rfl, rfl, rfl, rfl, trivial⟩ (by decide) ?_
  repeat (refine need_intro (by first | exact fun h => h | exact nt | exact an2 | exact an3 | rfl | (simp; done) | fail) ?_)
  exact dfin z rfl
set_option maxRecDepth 100000 in
theorem dkept4 (z : Sc) : Does TB 13 [.agg z.doc, .s (.int .i64 4)] z.lists (fun v h' => v = .s (.bool z.rule4) ∧ h' = z.lists) := by
  refine fnX_does TB Tryz.func13 rfl (by decide) (fun O on hO => ?_)
  repeat (refine need_intro (by first | exact fun h => h | exact nt | exact an2 | exact an3 | rfl | (simp; done) | fail) ?_)
  refine Does.atc (drule4_spec z) [0, 1, 2, 3, 4, 5, 6] rfl ⟨rfl, rfl, rfl, rfl, rfl, rfl, rfl, trivial⟩ (by decide) ?_
  repeat (refine need_intro (by first | exact fun h => h | exact nt | exact an2 | exact an3 | rfl | (simp; done) | fail) ?_)
  exact dfin z rfl
set_option maxRecDepth 100000 in
theorem dkept5 (z : Sc) (ok : z.Ok) (hnr : z.t.nr = z.s.nr) : Does TB 13 [.agg z.doc, .s (.int .i64 5)] z.lists (fun v h' => v = .s (.bool z.rule5) ∧ h' = z.lists) := by
  refine fnX_does TB Tryz.func13 rfl (by decide) (fun O on hO => ?_)
  repeat (refine need_intro (by first | exact fun h => h | exact nt | exact an2 | exact an3 | rfl | (simp; done) | fail) ?_)
  refine Does.atc (drule5_spec z ok hnr) [0, 1, 2, 3, 4, 5, 6] rfl ⟨rfl, rfl, rfl, rfl, rfl, rfl, rfl, trivial⟩ (by decide) ?_
  repeat (refine need_intro (by first | exact fun h => h | exact nt | exact an2 | exact an3 | rfl | (simp; done) | fail) ?_)
  exact dfin z rfl
set_option maxRecDepth 100000 in
theorem dkept6 (z : Sc) (ok : z.Ok) (hnr : z.t.nr = z.s.nr) : Does TB 13 [.agg z.doc, .s (.int .i64 6)] z.lists (fun v h' => v = .s (.bool z.rule6) ∧ h' = z.lists) := by
  refine fnX_does TB Tryz.func13 rfl (by decide) (fun O on hO => ?_)
  repeat (refine need_intro (by first | exact fun h => h | exact nt | exact an2 | exact an3 | rfl | (simp; done) | fail) ?_)
  refine Does.atc (drule6_spec z ok hnr) [0, 1, 2, 3, 4, 5, 6] rfl ⟨rfl, rfl, rfl, rfl, rfl, rfl, rfl, trivial⟩ (by decide) ?_
  repeat (refine need_intro (by first | exact fun h => h | exact nt | exact an2 | exact an3 | rfl | (simp; done) | fail) ?_)
  exact dfin z rfl
set_option maxRecDepth 100000 in
theorem dkept7 (z : Sc) : Does TB 13 [.agg z.doc, .s (.int .i64 7)] z.lists (fun v h' => v = .s (.bool z.rule7) ∧ h' = z.lists) := by
  refine fnX_does TB Tryz.func13 rfl (by decide) (fun O on hO => ?_)
  repeat (refine need_intro (by first | exact fun h => h | exact nt | exact an2 | exact an3 | rfl | (simp; done) | fail) ?_)
  refine dfin z ?_
  refine (cond_or _ _).trans ?_
  unfold Sc.rule7 pmpS
  congr 1
  show (((List.range 16).all fun j => bfun z.d.cfg j == bfun z.c.cfg j) && (((List.range 16).all fun j => wfun z.d.addr j == wfun z.c.addr j) && true)) = _
  rw [all_b, all_w, Bool.and_true]
set_option maxRecDepth 100000 in
theorem dkept8 (z : Sc) (hc : z.c.Pr) : Does TB 13 [.agg z.doc, .s (.int .i64 8)] z.lists (fun v h' => v = .s (.bool z.rule8) ∧ h' = z.lists) := by
  refine fnX_does TB Tryz.func13 rfl (by decide) (fun O on hO => ?_)
  repeat (refine need_intro (by first | exact fun h => h | exact nt | exact an2 | exact an3 | rfl | (simp; done) | fail) ?_)
  refine Does.atc (drule8_spec z hc) [0, 1, 2, 3, 4, 5, 6] rfl ⟨rfl, rfl, rfl, rfl, rfl, rfl, rfl, trivial⟩ (by decide) ?_
  repeat (refine need_intro (by first | exact fun h => h | exact nt | exact an2 | exact an3 | rfl | (simp; done) | fail) ?_)
  exact dfin z rfl
set_option maxRecDepth 100000 in
theorem dkept9 (z : Sc) : Does TB 13 [.agg z.doc, .s (.int .i64 9)] z.lists (fun v h' => v = .s (.bool z.rule9) ∧ h' = z.lists) := by
  refine fnX_does TB Tryz.func13 rfl (by decide) (fun O on hO => ?_)
  repeat (refine need_intro (by first | exact fun h => h | exact nt | exact an2 | exact an3 | rfl | (simp; done) | fail) ?_)
  refine Does.atc (drule9_spec z) [0, 1, 2, 3, 4, 5, 6] rfl ⟨rfl, rfl, rfl, rfl, rfl, rfl, rfl, trivial⟩ (by decide) ?_
  repeat (refine need_intro (by first | exact fun h => h | exact nt | exact an2 | exact an3 | rfl | (simp; done) | fail) ?_)
  exact dfin z rfl
set_option maxRecDepth 100000 in
theorem dkept10 (z : Sc) : Does TB 13 [.agg z.doc, .s (.int .i64 10)] z.lists (fun v h' => v = .s (.bool z.rule10) ∧ h' = z.lists) := by
  refine fnX_does TB Tryz.func13 rfl (by decide) (fun O on hO => ?_)
  repeat (refine need_intro (by first | exact fun h => h | exact nt | exact an2 | exact an3 | rfl | (simp; done) | fail) ?_)
  refine Does.atc (drule10_spec z) [0, 1, 2, 3, 4, 5, 6] rfl ⟨rfl, rfl, rfl, rfl, rfl, rfl, rfl, trivial⟩ (by decide) ?_
  repeat (refine need_intro (by first | exact fun h => h | exact nt | exact an2 | exact an3 | rfl | (simp; done) | fail) ?_)
  exact dfin z rfl
set_option maxRecDepth 100000 in
theorem dkept11 (z : Sc) : Does TB 13 [.agg z.doc, .s (.int .i64 11)] z.lists (fun v h' => v = .s (.bool z.rule11) ∧ h' = z.lists) := by
  refine fnX_does TB Tryz.func13 rfl (by decide) (fun O on hO => ?_)
  repeat (refine need_intro (by first | exact fun h => h | exact nt | exact an2 | exact an3 | rfl | (simp; done) | fail) ?_)
  refine Does.atc (drule11_spec z) [0, 1, 2, 3, 4, 5, 6] rfl ⟨rfl, rfl, rfl, rfl, rfl, rfl, rfl, trivial⟩ (by decide) ?_
  repeat (refine need_intro (by first | exact fun h => h | exact nt | exact an2 | exact an3 | rfl | (simp; done) | fail) ?_)
  exact dfin z rfl
set_option maxRecDepth 100000 in
theorem dkept12 (z : Sc) : Does TB 13 [.agg z.doc, .s (.int .i64 12)] z.lists (fun v h' => v = .s (.bool z.rule12) ∧ h' = z.lists) := by
  refine fnX_does TB Tryz.func13 rfl (by decide) (fun O on hO => ?_)
  repeat (refine need_intro (by first | exact fun h => h | exact nt | exact an2 | exact an3 | rfl | (simp; done) | fail) ?_)
  refine Does.atc (drule12_spec z) [0, 1, 2, 3, 4, 5, 6] rfl ⟨rfl, rfl, rfl, rfl, rfl, rfl, rfl, trivial⟩ (by decide) ?_
  repeat (refine need_intro (by first | exact fun h => h | exact nt | exact an2 | exact an3 | rfl | (simp; done) | fail) ?_)
  exact dfin z rfl
set_option maxRecDepth 100000 in
theorem dkept13 (z : Sc) : Does TB 13 [.agg z.doc, .s (.int .i64 13)] z.lists (fun v h' => v = .s (.bool z.rule13) ∧ h' = z.lists) := by
  refine fnX_does TB Tryz.func13 rfl (by decide) (fun O on hO => ?_)
  repeat (refine need_intro (by first | exact fun h => h | exact nt | exact an2 | exact an3 | rfl | (simp; done) | fail) ?_)
  refine Does.atc (drule13_spec z) [0, 1, 2, 3, 4, 5, 6] rfl ⟨rfl, rfl, rfl, rfl, rfl, rfl, rfl, trivial⟩ (by decide) ?_
  repeat (refine need_intro (by first | exact fun h => h | exact nt | exact an2 | exact an3 | rfl | (simp; done) | fail) ?_)
  exact dfin z rfl
set_option maxRecDepth 100000 in
theorem dkept14 (z : Sc) : Does TB 13 [.agg z.doc, .s (.int .i64 14)] z.lists (fun v h' => v = .s (.bool z.rule14) ∧ h' = z.lists) := by
  refine fnX_does TB Tryz.func13 rfl (by decide) (fun O on hO => ?_)
  repeat (refine need_intro (by first | exact fun h => h | exact nt | exact an2 | exact an3 | rfl | (simp; done) | fail) ?_)
  refine Does.atc (drule14_spec z) [0, 1, 2, 3, 4, 5, 6] rfl ⟨rfl, rfl, rfl, rfl, rfl, rfl, rfl, trivial⟩ (by decide) ?_
  repeat (refine need_intro (by first | exact fun h => h | exact nt | exact an2 | exact an3 | rfl | (simp; done) | fail) ?_)
  exact dfin z rfl
set_option maxRecDepth 100000 in
theorem dkept15 (z : Sc) : Does TB 13 [.agg z.doc, .s (.int .i64 15)] z.lists (fun v h' => v = .s (.bool z.rule15) ∧ h' = z.lists) := by
  refine fnX_does TB Tryz.func13 rfl (by decide) (fun O on hO => ?_)
  repeat (refine need_intro (by first | exact fun h => h | exact nt | exact an2 | exact an3 | rfl | (simp; done) | fail) ?_)
  refine Does.atc (drule15_spec z) [0, 1, 2, 3, 4, 5, 6] rfl ⟨rfl, rfl, rfl, rfl, rfl, rfl, rfl, trivial⟩ (by decide) ?_
  repeat (refine need_intro (by first | exact fun h => h | exact nt | exact an2 | exact an3 | rfl | (simp; done) | fail) ?_)
  exact dfin z rfl
set_option maxRecDepth 100000 in
theorem dkept16 (z : Sc) : Does TB 13 [.agg z.doc, .s (.int .i64 16)] z.lists (fun v h' => v = .s (.bool z.rule16) ∧ h' = z.lists) := by
  refine fnX_does TB Tryz.func13 rfl (by decide) (fun O on hO => ?_)
  repeat (refine need_intro (by first | exact fun h => h | exact nt | exact an2 | exact an3 | rfl | (simp; done) | fail) ?_)
  refine dfin z ?_
  unfold Sc.rule16
  rw [← cond_and, ← cond_or]
set_option maxRecDepth 100000 in
theorem dkept17 (z : Sc) (ok : z.Ok) : Does TB 13 [.agg z.doc, .s (.int .i64 17)] z.lists (fun v h' => v = .s (.bool z.rule17) ∧ h' = z.lists) := by
  refine fnX_does TB Tryz.func13 rfl (by decide) (fun O on hO => ?_)
  repeat (refine need_intro (by first | exact fun h => h | exact nt | exact an2 | exact an3 | rfl | (simp; done) | fail) ?_)
  refine Does.atc (drule17_spec z ok) [0, 1, 2, 3, 4, 5, 6] rfl ⟨rfl, rfl, rfl, rfl, rfl, rfl, rfl, trivial⟩ (by decide) ?_
  repeat (refine need_intro (by first | exact fun h => h | exact nt | exact an2 | exact an3 | rfl | (simp; done) | fail) ?_)
  exact dfin z rfl
set_option maxRecDepth 100000 in
theorem dkept18 (z : Sc) (hc : z.c.Pr) : Does TB 13 [.agg z.doc, .s (.int .i64 18)] z.lists (fun v h' => v = .s (.bool z.rule18) ∧ h' = z.lists) := by
  refine fnX_does TB Tryz.func13 rfl (by decide) (fun O on hO => ?_)
  repeat (refine need_intro (by first | exact fun h => h | exact nt | exact an2 | exact an3 | rfl | (simp; done) | fail) ?_)
  refine Does.atc (drule18_spec z hc) [0, 1, 2, 3, 4, 5, 6] rfl ⟨rfl, rfl, rfl, rfl, rfl, rfl, rfl, trivial⟩ (by decide) ?_
  repeat (refine need_intro (by first | exact fun h => h | exact nt | exact an2 | exact an3 | rfl | (simp; done) | fail) ?_)
  exact dfin z rfl
set_option maxRecDepth 100000 in
theorem dkept19 (z : Sc) : Does TB 13 [.agg z.doc, .s (.int .i64 19)] z.lists (fun v h' => v = .s (.bool z.rule19) ∧ h' = z.lists) := by
  refine fnX_does TB Tryz.func13 rfl (by decide) (fun O on hO => ?_)
  repeat (refine need_intro (by first | exact fun h => h | exact nt | exact an2 | exact an3 | rfl | (simp; done) | fail) ?_)
  refine Does.atc (drule19_spec z) [0, 1, 2, 3, 4, 5, 6] rfl ⟨rfl, rfl, rfl, rfl, rfl, rfl, rfl, trivial⟩ (by decide) ?_
  repeat (refine need_intro (by first | exact fun h => h | exact nt | exact an2 | exact an3 | rfl | (simp; done) | fail) ?_)
  exact dfin z rfl
set_option maxRecDepth 100000 in
theorem dkept20 (z : Sc) (h2 : z.rule2 = true) : Does TB 13 [.agg z.doc, .s (.int .i64 20)] z.lists (fun v h' => v = .s (.bool z.rule20) ∧ h' = z.lists) := by
  refine fnX_does TB Tryz.func13 rfl (by decide) (fun O on hO => ?_)
  repeat (refine need_intro (by first | exact fun h => h | exact nt | exact an2 | exact an3 | rfl | (simp; done) | fail) ?_)
  refine Does.atc (drule20_spec z h2) [0, 1, 2, 3, 4, 5, 6] rfl ⟨rfl, rfl, rfl, rfl, rfl, rfl, rfl, trivial⟩ (by decide) ?_
  repeat (refine need_intro (by first | exact fun h => h | exact nt | exact an2 | exact an3 | rfl | (simp; done) | fail) ?_)
  exact dfin z rfl
set_option maxHeartbeats 8000000 in
set_option maxRecDepth 100000 in
theorem dstep_spec (z : Sc) (ok : z.Ok) : Does TB 6 [.agg z.b, .agg z.a, .agg z.world, .agg z.r.segs] z.lists (fun v h' => v = .s (.int .i64 z.made.step) ∧ h' = z.lists) := by
  refine fnX_does TB Tryz.func6 rfl (by decide) (fun O on hO => ?_)
  have ok' : z.made.Ok := ⟨ok.nr, ok.ni, ok.no, ok.mr, ok.mi, ok.mo, ok.cr, ok.ci, ok.co, ok.dr, ok.di, ok.do_, ok.size⟩
  have hc : z.made.c.Pr := CpuV.proper_pr z.c
  repeat (refine need_intro (by first | exact fun h => h | exact nt | exact an2 | exact an3 | rfl | (simp; done) | fail) ?_)
  refine (rproper_spec z.c _).mono ?_
  rintro _ _ ⟨rfl, rfl⟩
  repeat (refine need_intro (by first | exact fun h => h | exact nt | exact an2 | exact an3 | rfl | (simp; done) | fail) ?_)
  refine (rproper_spec z.d _).mono ?_
  rintro _ _ ⟨rfl, rfl⟩
  repeat (refine need_intro (by first | exact fun h => h | exact nt | exact an2 | exact an3 | rfl | (simp; done) | fail) ?_)
  have fin : ∀ {x : Int} {J : List Blk}, z.made.step = x → Anv.Ends 7 (fun v h' => v = .s (.int .i64 z.made.step) ∧ h' = z.lists) (.s (.int .i64 x)) (z.lists ++ J) := by
    rintro x J rfl
    exact Ends.ro rfl ⟨rfl, rfl⟩ rfl
  have e1 : (bif !cpuS z.d z.d.proper then true else (z.t.nr : Int) != (z.s.nr : Int)) = !z.made.rule1 := by
    show _ = !(z.t.nr == z.s.nr && cpuS z.d z.d.proper)
    rw [cond_or, Bool.not_and, Bool.or_comm, bne]
    congr 2
    exact int_beq _ _
  refine ifB_intro (fun h => fin ?_) (fun r1 => ?_)
  · have h := e1.symm.trans h
    rw [Bool.not_eq_true'] at h
    unfold Sc.step
    rw [if_neg (by rw [h]; decide)]
  replace r1 := e1.symm.trans r1
  rw [Bool.not_eq_false'] at r1
  have hnr : z.made.t.nr = z.made.s.nr := by
    unfold Sc.rule1 at r1
    rw [Bool.and_eq_true] at r1
    exact eq_of_beq r1.1
  refine loop_times on 20 ?_
  refine ⟨?_⟩
  repeat (refine need_intro (by first | exact fun h => h | exact nt | exact an2 | exact an3 | rfl | (simp; done) | fail) ?_)
  refine Does.atc (dkept2 z.made) [0, 1, 2, 3, 4, 5, 6] rfl ⟨rfl, rfl, rfl, rfl, rfl, rfl, rfl, trivial⟩ (by decide) ?_
  refine ifB_intro (fun h => fin ?_) (fun r2 => ?_)
  · rw [Bool.not_eq_true'] at h
    unfold Sc.step
    rw [if_pos r1]
    simp only [firstNot, h, Bool.false_eq_true, if_false]
    decide
  rw [Bool.not_eq_false'] at r2
  refine ⟨?_⟩
  repeat (refine need_intro (by first | exact fun h => h | exact nt | exact an2 | exact an3 | rfl | (simp; done) | fail) ?_)
  refine Does.atc (dkept3 z.made ok') [0, 1, 2, 3, 4, 5, 6] rfl ⟨rfl, rfl, rfl, rfl, rfl, rfl, rfl, trivial⟩ (by decide) ?_
  refine ifB_intro (fun h => fin ?_) (fun r3 => ?_)
  · rw [Bool.not_eq_true'] at h
    unfold Sc.step
    rw [if_pos r1]
    simp only [firstNot, h, r2, if_true, Bool.false_eq_true, if_false]
    decide
  rw [Bool.not_eq_false'] at r3
  refine ⟨?_⟩
  repeat (refine need_intro (by first | exact fun h => h | exact nt | exact an2 | exact an3 | rfl | (simp; done) | fail) ?_)
  refine Does.atc (dkept4 z.made) [0, 1, 2, 3, 4, 5, 6] rfl ⟨rfl, rfl, rfl, rfl, rfl, rfl, rfl, trivial⟩ (by decide) ?_
  refine ifB_intro (fun h => fin ?_) (fun r4 => ?_)
  · rw [Bool.not_eq_true'] at h
    unfold Sc.step
    rw [if_pos r1]
    simp only [firstNot, h, r2, r3, if_true, Bool.false_eq_true, if_false]
    decide
  rw [Bool.not_eq_false'] at r4
  refine ⟨?_⟩
  repeat (refine need_intro (by first | exact fun h => h | exact nt | exact an2 | exact an3 | rfl | (simp; done) | fail) ?_)
  refine Does.atc (dkept5 z.made ok' hnr) [0, 1, 2, 3, 4, 5, 6] rfl ⟨rfl, rfl, rfl, rfl, rfl, rfl, rfl, trivial⟩ (by decide) ?_
  refine ifB_intro (fun h => fin ?_) (fun r5 => ?_)
  · rw [Bool.not_eq_true'] at h
    unfold Sc.step
    rw [if_pos r1]
    simp only [firstNot, h, r2, r3, r4, if_true, Bool.false_eq_true, if_false]
    decide
  rw [Bool.not_eq_false'] at r5
  refine ⟨?_⟩
  repeat (refine need_intro (by first | exact fun h => h | exact nt | exact an2 | exact an3 | rfl | (simp; done) | fail) ?_)
  refine Does.atc (dkept6 z.made ok' hnr) [0, 1, 2, 3, 4, 5, 6] rfl ⟨rfl, rfl, rfl, rfl, rfl, rfl, rfl, trivial⟩ (by decide) ?_
  refine ifB_intro (fun h => fin ?_) (fun r6 => ?_)
  · rw [Bool.not_eq_true'] at h
    unfold Sc.step
    rw [if_pos r1]
    simp only [firstNot, h, r2, r3, r4, r5, if_true, Bool.false_eq_true, if_false]
    decide
  rw [Bool.not_eq_false'] at r6
  refine ⟨?_⟩
  repeat (refine need_intro (by first | exact fun h => h | exact nt | exact an2 | exact an3 | rfl | (simp; done) | fail) ?_)
  refine Does.atc (dkept7 z.made) [0, 1, 2, 3, 4, 5, 6] rfl ⟨rfl, rfl, rfl, rfl, rfl, rfl, rfl, trivial⟩ (by decide) ?_
  refine ifB_intro (fun h => fin ?_) (fun r7 => ?_)
  · rw [Bool.not_eq_true'] at h
    unfold Sc.step
    rw [if_pos r1]
    simp only [firstNot, h, r2, r3, r4, r5, r6, if_true, Bool.false_eq_true, if_false]
    decide
  rw [Bool.not_eq_false'] at r7
  refine ⟨?_⟩
  repeat (refine need_intro (by first | exact fun h => h | exact nt | exact an2 | exact an3 | rfl | (simp; done) | fail) ?_)
  refine Does.atc (dkept8 z.made hc) [0, 1, 2, 3, 4, 5, 6] rfl ⟨rfl, rfl, rfl, rfl, rfl, rfl, rfl, trivial⟩ (by decide) ?_
  refine ifB_intro (fun h => fin ?_) (fun r8 => ?_)
  · rw [Bool.not_eq_true'] at h
    unfold Sc.step
    rw [if_pos r1]
    simp only [firstNot, h, r2, r3, r4, r5, r6, r7, if_true, Bool.false_eq_true, if_false]
    decide
  rw [Bool.not_eq_false'] at r8
  refine ⟨?_⟩
  repeat (refine need_intro (by first | exact fun h => h | exact nt | exact an2 | exact an3 | rfl | (simp; done) | fail) ?_)
  refine Does.atc (dkept9 z.made) [0, 1, 2, 3, 4, 5, 6] rfl ⟨rfl, rfl, rfl, rfl, rfl, rfl, rfl, trivial⟩ (by decide) ?_
  refine ifB_intro (fun h => fin ?_) (fun r9 => ?_)
  · rw [Bool.not_eq_true'] at h
    unfold Sc.step
    rw [if_pos r1]
    simp only [firstNot, h, r2, r3, r4, r5, r6, r7, r8, if_true, Bool.false_eq_true, if_false]
    decide
  rw [Bool.not_eq_false'] at r9
  refine ⟨?_⟩
  repeat (refine need_intro (by first | exact fun h => h | exact nt | exact an2 | exact an3 | rfl | (simp; done) | fail) ?_)
  refine Does.atc (dkept10 z.made) [0, 1, 2, 3, 4, 5, 6] rfl ⟨rfl, rfl, rfl, rfl, rfl, rfl, rfl, trivial⟩ (by decide) ?_
  refine ifB_intro (fun h => fin ?_) (fun r10 => ?_)
  · rw [Bool.not_eq_true'] at h
    unfold Sc.step
    rw [if_pos r1]
    simp only [firstNot, h, r2, r3, r4, r5, r6, r7, r8, r9, if_true, Bool.false_eq_true, if_false]
    decide
  rw [Bool.not_eq_false'] at r10
  refine ⟨?_⟩
  repeat (refine need_intro (by first | exact fun h => h | exact nt | exact an2 | exact an3 | rfl | (simp; done) | fail) ?_)
  refine Does.atc (dkept11 z.made) [0, 1, 2, 3, 4, 5, 6] rfl ⟨rfl, rfl, rfl, rfl, rfl, rfl, rfl, trivial⟩ (by decide) ?_
  refine ifB_intro (fun h => fin ?_) (fun r11 => ?_)
  · rw [Bool.not_eq_true'] at h
    unfold Sc.step
    rw [if_pos r1]
    simp only [firstNot, h, r2, r3, r4, r5, r6, r7, r8, r9, r10, if_true, Bool.false_eq_true, if_false]
    decide
  rw [Bool.not_eq_false'] at r11
  refine ⟨?_⟩
  repeat (refine need_intro (by first | exact fun h => h | exact nt | exact an2 | exact an3 | rfl | (simp; done) | fail) ?_)
  refine Does.atc (dkept12 z.made) [0, 1, 2, 3, 4, 5, 6] rfl ⟨rfl, rfl, rfl, rfl, rfl, rfl, rfl, trivial⟩ (by decide) ?_
  refine ifB_intro (fun h => fin ?_) (fun r12 => ?_)
  · rw [Bool.not_eq_true'] at h
    unfold Sc.step
    rw [if_pos r1]
    simp only [firstNot, h, r2, r3, r4, r5, r6, r7, r8, r9, r10, r11, if_true, Bool.false_eq_true, if_false]
    decide
  rw [Bool.not_eq_false'] at r12
  refine ⟨?_⟩
  repeat (refine need_intro (by first | exact fun h => h | exact nt | exact an2 | exact an3 | rfl | (simp; done) | fail) ?_)
  refine Does.atc (dkept13 z.made) [0, 1, 2, 3, 4, 5, 6] rfl ⟨rfl, rfl, rfl, rfl, rfl, rfl, rfl, trivial⟩ (by decide) ?_
  refine ifB_intro (fun h => fin ?_) (fun r13 => ?_)
  · rw [Bool.not_eq_true'] at h
    unfold Sc.step
    rw [if_pos r1]
    simp only [firstNot, h, r2, r3, r4, r5, r6, r7, r8, r9, r10, r11, r12, if_true, Bool.false_eq_true, if_false]
    decide
  rw [Bool.not_eq_false'] at r13
  refine ⟨?_⟩
  repeat (refine need_intro (by first | exact fun h => h | exact nt | exact an2 | exact an3 | rfl | (simp; done) | fail) ?_)
  refine Does.atc (dkept14 z.made) [0, 1, 2, 3, 4, 5, 6] rfl ⟨rfl, rfl, rfl, rfl, rfl, rfl, rfl, trivial⟩ (by decide) ?_
  refine ifB_intro (fun h => fin ?_) (fun r14 => ?_)
  · rw [Bool.not_eq_true'] at h
    unfold Sc.step
    rw [if_pos r1]
    simp only [firstNot, h, r2, r3, r4, r5, r6, r7, r8, r9, r10, r11, r12, r13, if_true, Bool.false_eq_true, if_false]
    decide
  rw [Bool.not_eq_false'] at r14
  refine ⟨?_⟩
  repeat (refine need_intro (by first | exact fun h => h | exact nt | exact an2 | exact an3 | rfl | (simp; done) | fail) ?_)
  refine Does.atc (dkept15 z.made) [0, 1, 2, 3, 4, 5, 6] rfl ⟨rfl, rfl, rfl, rfl, rfl, rfl, rfl, trivial⟩ (by decide) ?_
  refine ifB_intro (fun h => fin ?_) (fun r15 => ?_)
  · rw [Bool.not_eq_true'] at h
    unfold Sc.step
    rw [if_pos r1]
    simp only [firstNot, h, r2, r3, r4, r5, r6, r7, r8, r9, r10, r11, r12, r13, r14, if_true, Bool.false_eq_true, if_false]
    decide
  rw [Bool.not_eq_false'] at r15
  refine ⟨?_⟩
  repeat (refine need_intro (by first | exact fun h => h | exact nt | exact an2 | exact an3 | rfl | (simp; done) | fail) ?_)
  refine Does.atc (dkept16 z.made) [0, 1, 2, 3, 4, 5, 6] rfl ⟨rfl, rfl, rfl, rfl, rfl, rfl, rfl, trivial⟩ (by decide) ?_
  refine ifB_intro (fun h => fin ?_) (fun r16 => ?_)
  · rw [Bool.not_eq_true'] at h
    unfold Sc.step
    rw [if_pos r1]
    simp only [firstNot, h, r2, r3, r4, r5, r6, r7, r8, r9, r10, r11, r12, r13, r14, r15, if_true, Bool.false_eq_true, if_false]
    decide
  rw [Bool.not_eq_false'] at r16
  refine ⟨?_⟩
  repeat (refine need_intro (by first | exact fun h => h | exact nt | exact an2 | exact an3 | rfl | (simp; done) | fail) ?_)
  refine Does.atc (dkept17 z.made ok') [0, 1, 2, 3, 4, 5, 6] rfl ⟨rfl, rfl, rfl, rfl, rfl, rfl, rfl, trivial⟩ (by decide) ?_
  refine ifB_intro (fun h => fin ?_) (fun r17 => ?_)
  · rw [Bool.not_eq_true'] at h
    unfold Sc.step
    rw [if_pos r1]
    simp only [firstNot, h, r2, r3, r4, r5, r6, r7, r8, r9, r10, r11, r12, r13, r14, r15, r16, if_true, Bool.false_eq_true, if_false]
    decide
  rw [Bool.not_eq_false'] at r17
  refine ⟨?_⟩
  repeat (refine need_intro (by first | exact fun h => h | exact nt | exact an2 | exact an3 | rfl | (simp; done) | fail) ?_)
  refine Does.atc (dkept18 z.made hc) [0, 1, 2, 3, 4, 5, 6] rfl ⟨rfl, rfl, rfl, rfl, rfl, rfl, rfl, trivial⟩ (by decide) ?_
  refine ifB_intro (fun h => fin ?_) (fun r18 => ?_)
  · rw [Bool.not_eq_true'] at h
    unfold Sc.step
    rw [if_pos r1]
    simp only [firstNot, h, r2, r3, r4, r5, r6, r7, r8, r9, r10, r11, r12, r13, r14, r15, r16, r17, if_true, Bool.false_eq_true, if_false]
    decide
  rw [Bool.not_eq_false'] at r18
  refine ⟨?_⟩
  repeat (refine need_intro (by first | exact fun h => h | exact nt | exact an2 | exact an3 | rfl | (simp; done) | fail) ?_)
  refine Does.atc (dkept19 z.made) [0, 1, 2, 3, 4, 5, 6] rfl ⟨rfl, rfl, rfl, rfl, rfl, rfl, rfl, trivial⟩ (by decide) ?_
  refine ifB_intro (fun h => fin ?_) (fun r19 => ?_)
  · rw [Bool.not_eq_true'] at h
    unfold Sc.step
    rw [if_pos r1]
    simp only [firstNot, h, r2, r3, r4, r5, r6, r7, r8, r9, r10, r11, r12, r13, r14, r15, r16, r17, r18, if_true, Bool.false_eq_true, if_false]
    decide
  rw [Bool.not_eq_false'] at r19
  refine ⟨?_⟩
  repeat (refine need_intro (by first | exact fun h => h | exact nt | exact an2 | exact an3 | rfl | (simp; done) | fail) ?_)
  refine Does.atc (dkept20 z.made r2) [0, 1, 2, 3, 4, 5, 6] rfl ⟨rfl, rfl, rfl, rfl, rfl, rfl, rfl, trivial⟩ (by decide) ?_
  refine ifB_intro (fun h => fin ?_) (fun r20 => ?_)
  · rw [Bool.not_eq_true'] at h
    unfold Sc.step
    rw [if_pos r1]
    simp only [firstNot, h, r2, r3, r4, r5, r6, r7, r8, r9, r10, r11, r12, r13, r14, r15, r16, r17, r18, r19, if_true, Bool.false_eq_true, if_false]
    decide
  rw [Bool.not_eq_false'] at r20
  refine ⟨?_⟩
  refine fin ?_
  unfold Sc.step
  rw [if_pos r1]
  simp only [firstNot, r2, r3, r4, r5, r6, r7, r8, r9, r10, r11, r12, r13, r14, r15, r16, r17, r18, r19, r20, if_true]
end Go.Proofs.YtghcdkpgcanpgaaGreat

/- The engine, part 20: functions that defer one clearing of a map. Plain theorems; no condition. -/
namespace Go.Anv
open Go

section
variable {P : Program}

theorem step_defer_builtin {fr : Frame} {cs : List Frame} {w w2 : World} {d : Deferred} {ds : List Deferred} {b : Builtin} {tys : Array TypeId} {ty : TypeId} {consts : Array Bool} {v : Value}
    (hm : fr.mode = .returning) (hd : fr.defers = d :: ds) (ht : d.target = .builtin b tys ty consts) (hi : (invoke d.target d.args).run P w = .ok (.value v) w2) :
    step P (lone fr cs w) = .next (lone { fr with defers := ds } cs w2) := by
  obtain ⟨t, a⟩ := d
  simp only at ht hi
  subst ht
  refine step_lone_go ?_
  simp [stepG, unwind, callDeferred, hm, hd, hi]

def postB (P : Program) (fn : Func) (R : Ending → World → Prop) : Exit → Act → World → Prop
  | .normal, a, w | .ret, a, w => ∃ d b tys ty consts v w2 r, a.defers = [d] ∧ d.target = .builtin b tys ty consts ∧ (invoke d.target d.args).run P w = .ok (.value v) w2 ∧ (results fn a.tmps).run P w2 = .ok r w2 ∧ R (.returned r) w2
  | _, _, _ => False

theorem calls_of_wp_builtin {f : FuncId} {fn : Func} {c : Code} {args : Array Value} {w : World} {R : Ending → World → Prop}
    (hf : P.funcs[f]? = some fn) (hb : fn.body = some c)
    (h : c.wp P (postB P fn R) { tmps := args ++ Array.replicate (fn.ntmps - args.size) undef, defers := [] } w) : Calls P f args w R := by
  intro cs
  let b : Frame := { (default : Frame) with fn := f, kind := .normal }
  have henter : Frame.enter P f args .normal =
      b.at { tmps := args ++ Array.replicate (fn.ntmps - args.size) undef, defers := [] } [.code c] := by
    simp [Frame.enter, Frame.at, hf, hb, b]
  obtain ⟨e, a', w', hq, harr⟩ := h b [] cs
  rw [← henter] at harr
  have fin : ∀ (todo : List Item) (w' : World), postB P fn R .normal a' w' → Steps P (lone (Frame.enter P f args .normal) cs w) (lone { b.at a' todo with mode := .returning } cs w') →
      ∃ e w'' fr', R e w'' ∧ Comes P (lone (Frame.enter P f args .normal) cs w) (lone fr' cs w'') e ∧ fr'.fn = f ∧ fr'.leaving P w'' e := by
    intro todo w' hq hs
    obtain ⟨d, bb, tys, ty, consts, v, w2, r, h1, h2, h3, h4, h5⟩ := hq
    have hst := step_defer_builtin (fr := { b.at a' todo with mode := .returning }) (cs := cs) rfl h1 h2 h3
    exact ⟨.returned r, w2, _, h5, Steps.trans hs (.one hst), rfl, rfl, rfl, rfl, fn, hf, h4⟩
  cases e with
  | normal => exact fin [] w' hq (Steps.trans harr (.one step_end))
  | ret =>
    obtain ⟨todo, hs₀⟩ := harr
    exact fin todo w' hq hs₀
  | panic chain => exact hq.elim
  | exit id => exact hq.elim
  | goto l => exact hq.elim
  | outgrown => exact hq.elim
end

/-- The operations ahead of a deferred clearing that stands last; the map; its type. -/
def lastB : List Oper → Option (List Oper × Operand × TypeId)
  | [] => none
  | [o] => match o.guard, o.dst, o.op with
    | none, none, .defer { callee := .builtin .clear, args, argTypes } => match args.toList, argTypes.toList with
      | [x], [t] => some ([], x, t)
      | _, _ => none
    | _, _, _ => none
  | o :: r => match lastB r with
    | some (p, x, t) => some (o :: p, x, t)
    | none => none

theorem lastB_spec : ∀ {l pre : List Oper} {x : Operand} {t : TypeId}, lastB l = some (pre, x, t) → ∃ o, l = pre ++ [o] ∧ o.guard = none ∧ o.dst = none ∧ o.op = .defer { callee := .builtin .clear, args := #[x], argTypes := #[t] }
  | [], _, _, _, h => by simp [lastB] at h
  | [o], pre, x, t, h => by
    simp only [lastB] at h
    split at h
    · rename_i args tys hg hd hop
      split at h
      · rename_i x' t' hx ht
        simp only [Option.some.injEq, Prod.mk.injEq] at h
        obtain ⟨rfl, rfl, rfl⟩ := h
        have ex : args = #[x'] := by rw [← Array.toList_inj]; exact hx
        have et : tys = #[t'] := by rw [← Array.toList_inj]; exact ht
        exact ⟨o, rfl, hg, hd, by rw [hop, ex, et]⟩
      · cases h
    · cases h
  | o :: o' :: r, pre, x, t, h => by
    simp only [lastB] at h
    split at h
    · rename_i p x' t' hr
      simp only [Option.some.injEq, Prod.mk.injEq] at h
      obtain ⟨rfl, rfl, rfl⟩ := h
      obtain ⟨y, h1, h2⟩ := lastB_spec (l := o' :: r) hr
      exact ⟨y, by rw [h1]; rfl, h2⟩
    · cases h

/-- The walk as far as the defer; the code behind it. -/
def wpb (T : Tbl) (O : Org) (c : Code) : St → (St → EV → TypeId → Code → Prop) → Prop :=
  Code.rec (motive := fun _ => St → (St → EV → TypeId → Code → Prop) → Prop)
    (fun _ _ => False)
    (fun _ _ _ _ _ => False)
    (fun a b _ wb s k => match a with
      | .region id ops false => match lastB ops.toList with
        | some (pre, x, t) => opsX T ops pre s fun s' => k s' (evT s'.tmps x) t b
        | none => wpx T O (.region id ops false) s (normK fun s' => wb s' k)
      | a => wpx T O a s (normK fun s' => wb s' k))
    (fun _ _ _ _ _ _ _ => False)
    (fun _ _ _ _ _ => False)
    (fun _ _ _ _ => False)
    (fun _ _ _ _ _ _ _ _ => False)
    (fun _ _ _ => False)
    (fun _ _ _ _ => False)
    (fun _ _ _ => False)
    (fun _ _ _ => False)
    (fun _ _ => False)
    (fun _ _ _ => False)
    c

theorem wpb_seq (T : Tbl) (O : Org) (a b : Code) (s : St) (k : St → EV → TypeId → Code → Prop) : wpb T O (.seq a b) s k = (match a with
    | .region id ops false => match lastB ops.toList with
      | some (pre, x, t) => opsX T ops pre s fun s' => k s' (evT s'.tmps x) t b
      | none => wpx T O (.region id ops false) s (normK fun s' => wpb T O b s' k)
    | a => wpx T O a s (normK fun s' => wpb T O b s' k)) := rfl

theorem wpb_snd {T : Tbl} {O : Org} (on : O.E.n = O.h.length) {Q : Exit → Act → World → Prop} {k : St → EV → TypeId → Code → Prop}
    (hk : ∀ E s a w x xv t ty b consts, k s x t b → denE E x xv → Rel O E s a w → Code.wp T.P b Q { a with defers := { target := .builtin .clear #[t] ty consts, args := #[xv] } :: a.defers } w) :
    ∀ (c : Code) {E : Emb} {s : St} {a : Act} {w : World}, wpb T O c s k → Rel O E s a w → c.wp T.P Q a w := by
  have step : ∀ (x y : Code) {E : Emb} {s : St} {a : Act} {w : World} {n : St → Prop}, wpx T O x s (normK n) → Rel O E s a w → (∀ {E s a w}, n s → Rel O E s a w → y.wp T.P Q a w) → (Code.seq x y).wp T.P Q a w := by
    intro x y E s a w n hx R hy
    refine wp_seq (Code.wp_mono ?_ (wpx_snd on x hx R))
    rintro e a' w' ⟨E', s', h1, h2⟩
    cases e <;> first
      | exact hy h1 h2
      | exact h1.elim
  intro c
  induction c with
  | seq x y _ ihy =>
    intro E s a w h R
    rw [wpb_seq] at h
    split at h
    · rename_i id ops _ _
      split at h
      · rename_i pre x t hl
        obtain ⟨o, h1, hg, hd, hop⟩ := lastB_spec hl
        refine wp_seq (wp_region_list ?_)
        rw [h1]
        refine opsX_append on pre [o] R h fun E' s' a' w' hk' R' => ?_
        have hxd := ev_denE R'.fr x
        unfold wpList
        rw [if_pos (by simp [Region.wanted, hg])]
        refine .inl ?_
        unfold Oper.wp
        have hex : ∃ cs, (execOp a'.eval o).run T.P w' = .ok (.defer { target := .builtin .clear #[t] o.type cs, args := #[a'.eval x] }) w' := by
          refine ⟨(#[x] : Array Operand).map (fun y => match y with | .const _ => true | _ => false), ?_⟩
          have em : (#[x] : Array Operand).map a'.eval = #[a'.eval x] := by simp
          unfold execOp
          simp only [hop, resolve, em]
          rfl
        obtain ⟨cs, hex⟩ := hex
        rw [hex, Oper.upon_defer, hd]
        exact hk E' s' a' w' _ _ _ o.type _ cs hk' hxd R'
      · exact step _ _ h R fun h1 h2 => ihy h1 h2
    · exact step _ _ h R fun h1 h2 => ihy h1 h2
  | _ => intro E s a w h R; exact h.elim

/-- What comes behind the code: the map is cleared; what is handed back. -/
def bodyB (T : Tbl) (F : Func) (x : EV) (t : TypeId) (Q : EV → List Blk → Prop) : Exit → St → Prop
  | .normal, s => match T.ty t, x with
    | some { d := .map _ _, .. }, .s (.map b) => match nthB s.heap b with
      | some (.map _) => updBK s.heap b (.map []) fun h => resX T ⟨s.tmps, h⟩ F.results.toList Q
      | _ => False
    | _, _ => False
  | .ret, s => match T.ty t, x with
    | some { d := .map _ _, .. }, .s (.map b) => match nthB s.heap b with
      | some (.map _) => updBK s.heap b (.map []) fun h => resX T ⟨s.tmps, h⟩ F.results.toList Q
      | _ => False
    | _, _ => False
  | _, _ => False

/-- A function's body that defers a clearing, walked. -/
def fnXB (T : Tbl) (O : Org) (F : Func) (args : List EV) (h : List Blk) (Q : EV → List Blk → Prop) : Prop :=
  match F.body with
  | some c => frameK args F.ntmps fun ts => wpb T O c ⟨ts, h⟩ fun s x t rest => ∀ O' : Org, O'.E.n = O'.h.length → O'.E.n = s.heap.length → O.E.n ≤ O'.E.n → wpx T O' rest s (bodyB T F x t Q)
  | none => False

theorem fnXB_call (T : Tbl) {f : FuncId} {F : Func} (hF : T.P.funcs[f]? = some F) {args : List EV} {h : List Blk} {Q : EV → List Blk → Prop}
    (hX : ∀ E w, Sim E h w → fnXB T ⟨E, h, w, []⟩ F args h Q) : CallG T f args h Q := by
  intro E w vs S hargs
  have hx := hX E w S
  unfold fnXB at hx
  split at hx
  · rename_i c hc
    rw [frameK_eq] at hx
    refine calls_of_wp_builtin hF hc ?_
    have hlen : vs.size = args.length := by rw [← Array.length_toList]; exact denT_length hargs
    have R : Rel ⟨E, h, w, []⟩ E { tmps := args ++ junks (F.ntmps - args.length), heap := h } { tmps := vs ++ Array.replicate (F.ntmps - vs.size) undef, defers := [] } w := by
      refine ⟨⟨by simp [length_junks, hlen], fun i v hi => ?_⟩, rfl, S, Since.refl _ _ _⟩
      rw [nth_append_junks]
      split
      · rename_i hlt
        rw [Array.getElem?_append_left (by omega)] at hi
        exact denT_nth hargs (by simpa using hi)
      · simp only [denE]
    refine wpb_snd (O := ⟨E, h, w, []⟩) S.n ?_ c hx R
    intro E1 s1 a1 w1 x0 xv t ty rest consts hk hxd R1
    have hdf : a1.defers = [] := R1.df
    generalize hdd : ({ target := .builtin .clear #[t] ty consts, args := #[xv] } : Deferred) = d
    have hO := hk ⟨E1, s1.heap, w1, [d]⟩ R1.sim.n R1.sim.n (by have h1 := R1.sin.len; have h2 := S.n; have h3 := R1.sim.n; simp only at *; omega)
    have R1' : Rel ⟨E1, s1.heap, w1, [d]⟩ E1 s1 { a1 with defers := d :: a1.defers } w1 := ⟨R1.fr, by simp [hdf], R1.sim, Since.refl _ _ _⟩
    refine Code.wp_mono ?_ (wpx_snd (T := T) (O := ⟨E1, s1.heap, w1, [d]⟩) R1.sim.n rest hO R1')
    have key : ∀ E2 s2 a2 w2, bodyB T F x0 t Q .normal s2 → Rel ⟨E1, s1.heap, w1, [d]⟩ E2 s2 a2 w2 → postB T.P F (Post E h w Q) .normal a2 w2 := by
      intro E2 s2 a2 w2 hb R2
      have hdf2 : a2.defers = [d] := R2.df
      unfold bodyB at hb
      simp only at hb
      split at hb
      · rename_i kt et _ _ _ b ht
        split at hb
        · rename_i es hbk
          rw [updBK_eq, updB_eq] at hb
          have hle2 : E1.le E2 := R2.sin.le R1.sim.n R2.sim.n
          simp only [denE, denV] at hxd
          obtain ⟨hb1, rfl⟩ := hxd
          have hbk' := nthB_get hbk
          obtain ⟨l, clock, hl, _⟩ := R2.sim.ok b _ hbk'
          have hloc : E1.f b = E2.f b := (hle2.2 b hb1).symm
          have S3 := R2.sim.mset (es' := []) hbk' (l' := #[]) (c' := clock) hl (by simp [denM])
          have N3 := Since.mset (E := E2) (h := s2.heap) (es' := []) hbk' (l' := #[]) (c' := clock) hl
          have hfr : frameOk E2 s2.tmps a2.tmps := R2.fr
          obtain ⟨u, v', k1, k2, k3⟩ := resX_snd T (s := ⟨s2.tmps, s2.heap.set b (.map [])⟩) hfr S3 hb
          have hd : T.P.underlying t = some (.map kt et) := (T.tyOk _ _ ht).desc
          refine ⟨d, .clear, #[t], ty, consts, .tuple #[], _, u, hdf2, by rw [← hdd], ?_, k1, u, v', _, E2, rfl, k2, S3, ?_, k3⟩
          · rw [← hdd]
            simp [invoke, builtin, Builtin.clear_, run_underlying hd, hloc, MapKept.run_getObj_map hl, MapKept.run_setObj_map _ hl, Result.andThen]
          · exact ((R1.sin).trans S.n R1.sim.n R2.sin).trans S.n R2.sim.n N3
        · exact hb.elim
      · exact hb.elim
    rintro e a2 w2 ⟨E2, s2, hb, R2⟩
    cases e <;> first
      | exact key E2 s2 a2 w2 hb R2
      | exact hb.elim
  · exact hx.elim

/-- **A function that defers a clearing, walked over a small heap.** -/
theorem fnXB_does (T : Tbl) {f : FuncId} {F : Func} (hF : T.P.funcs[f]? = some F) (hb : F.body.isNone = false) (hname : (F.name == "runtime.NumGoroutine") = false) {args : List EV} {h : List Blk} {Q : EV → List Blk → Prop}
    (hX : ∀ O : Org, O.E.n = O.h.length → O.E.n = h.length → fnXB T O F args h (Ends h.length Q)) : Does T f args h Q := by
  refine ⟨.inl ⟨⟨F, hF, hb, hname⟩, fun E w vs S ha => ?_⟩⟩
  have c := fnXB_call T hF (args := args) (h := h) (Q := Ends h.length Q) (fun E w S => hX _ S.n S.n) E w vs S ha
  refine c.mono ?_
  rintro e w' ⟨v, x, h', E', rfl, hd, S', N', V, H, κ, hq, hnd, hid, hv, hh⟩
  obtain ⟨S'', h1, h2, h3⟩ := S'.renum hnd hh
  refine ⟨v, V, H, _, rfl, ?_, S'', N'.renum S.n S' hnd (by rw [S.n]; exact hid) hh, hq⟩
  exact (denE_ren (E := ⟨H.length, fun i => E'.f (lk κ h'.length i)⟩) h1 (fun b hb => ⟨h2 b hb, rfl⟩) _ _).1 (eqvE_den _ _ _ hv hd)

end Go.Anv

/- A nil slice stands for one that has room for nothing: in what is handed in (Does.ghA), in what comes back (Does.ghR). -/
namespace Go.Anv
open Go
/-- The first nil slice becomes one of block b. -/
def gh1 (b : Nat) : List Seg → List Seg
  | [] => []
  | .one .nilslice :: r => .one (.gs b 0 0 0) :: r
  | x :: r => x :: gh1 b r
def ghE (b : Nat) : EV → EV
  | .agg cs => .agg (gh1 b cs)
  | x => x
def ghT (b : Nat) : Nat → List EV → List EV
  | _, [] => []
  | 0, x :: r => ghE b x :: r
  | i + 1, x :: r => x :: ghT b i r
theorem gh_nil {E : Emb} {v : Value} (h : denV E .nilslice v) : denV (E.push ⟨0, 0, true⟩) (.gs E.n 0 0 0) v := by
  simp only [denV] at h ⊢
  rw [Emb.push_new]
  exact ⟨by simp [Emb.push], fun _ => ⟨trivial, trivial⟩, by simpa using h⟩
theorem gh1_den {E : Emb} (hm : E.le (E.push ⟨0, 0, true⟩)) : ∀ (cs : List Seg) (l : List Value), denS E cs l → denS (E.push ⟨0, 0, true⟩) (gh1 E.n cs) l
  | [], l, h => h
  | .one v :: r, l, h => by
    obtain ⟨x, l', rfl, h1, h2⟩ := h
    by_cases e : v = .nilslice
    · subst e
      exact ⟨x, l', rfl, gh_nil h1, denS_mono hm _ _ h2⟩
    · have : gh1 E.n (.one v :: r) = .one v :: gh1 E.n r := by
        cases v <;> first | rfl | exact absurd rfl e
      rw [this]
      exact ⟨x, l', rfl, denV_mono hm _ _ h1, gh1_den hm r l' h2⟩
  | .ints k n f :: r, l, h => by
    obtain ⟨l', rfl, h2⟩ := h
    exact ⟨l', rfl, gh1_den hm r l' h2⟩
theorem ghE_den {E : Emb} (hm : E.le (E.push ⟨0, 0, true⟩)) (e : EV) (x : Value) (h : denE E e x) : denE (E.push ⟨0, 0, true⟩) (ghE E.n e) x := by
  cases e with
  | agg cs =>
    simp only [ghE, denE] at h ⊢
    obtain ⟨l, rfl, h1⟩ := h
    exact ⟨l, rfl, gh1_den hm _ _ h1⟩
  | _ => exact denE_mono hm _ _ h
theorem ghT_den {E : Emb} (hm : E.le (E.push ⟨0, 0, true⟩)) : ∀ (i : Nat) (es : List EV) (l : List Value), denT E es l → denT (E.push ⟨0, 0, true⟩) (ghT E.n i es) l
  | _, [], l, h => by
    simp only [ghT, denT] at h ⊢
    exact h
  | 0, e :: r, l, h => by
    simp only [ghT, denT] at h ⊢
    obtain ⟨v, l', rfl, h1, h2⟩ := h
    exact ⟨v, l', rfl, ghE_den hm _ _ h1, denT_mono hm _ _ h2⟩
  | i + 1, e :: r, l, h => by
    simp only [ghT, denT] at h ⊢
    obtain ⟨v, l', rfl, h1, h2⟩ := h
    exact ⟨v, l', rfl, denE_mono hm _ _ h1, ghT_den hm i _ _ h2⟩
/-- An argument's first nil slice: one that has room for nothing. -/
theorem Does.ghA {T : Tbl} {f : FuncId} {args : List EV} {h : List Blk} {Q : EV → List Blk → Prop} (k : IntKind) (g : Nat → Int) (i : Nat) (d : Does T f (ghT h.length i args) (h ++ [.cells true [.ints k 0 g] 0]) Q) : Does T f args h Q := by
  have key : ∀ {E : Emb} {w : World} {vs : List Value}, Sim E h w → denT E args vs → ∃ E', Sim E' (h ++ [.cells true [.ints k 0 g] 0]) w ∧ Since E h w E' (h ++ [.cells true [.ints k 0 g] 0]) w ∧ denT E' (ghT h.length i args) vs := fun {E w vs} S ha => by
    obtain ⟨S', N'⟩ := push_nil S (cs := [.ints k 0 g]) ⟨[], rfl, rfl⟩
    refine ⟨_, S', N', ?_⟩
    rw [← S.n]
    exact ghT_den (N'.le S.n S'.n) _ _ _ ha
  have back : ∀ {E E' : Emb} {w w' : World} {e : Ending}, E.n = h.length → E'.n = (h ++ [Blk.cells true [.ints k 0 g] 0]).length → Since E h w E' (h ++ [.cells true [.ints k 0 g] 0]) w → Post E' (h ++ [.cells true [.ints k 0 g] 0]) w Q e w' → Post E h w Q e w' := fun {E E' w w' e} n n' N p => by
    obtain ⟨v, x, h', E'', h1, h2, h3, h4, h5⟩ := p
    exact ⟨v, x, h', E'', h1, h2, h3, N.trans n n' h4, h5⟩
  refine ⟨?_⟩
  rcases d.go with ⟨h1, h2⟩ | h1
  · refine .inl ⟨h1, fun E w vs S ha => ?_⟩
    obtain ⟨E', S', N', ha'⟩ := key S ha
    exact (h2 E' w vs S' ha').mono fun e w' p => back S.n S'.n N' p
  · refine .inr fun E w vs S ha => ?_
    obtain ⟨E', S', N', ha'⟩ := key S ha
    obtain ⟨u, w', h2, h3⟩ := h1 E' w vs S' ha'
    exact ⟨u, w', h2, back S.n S'.n N' h3⟩
/-- A result's first nil slice: one that has room for nothing. -/
theorem Does.ghR {T : Tbl} {f : FuncId} {args : List EV} {h : List Blk} {X : EV} {H : List Blk} (k : IntKind) (g : Nat → Int) (d : Does T f args h (fun v h' => v = X ∧ h' = H)) :
    Does T f args h (fun v h' => v = ghE H.length X ∧ h' = H ++ [.cells true [.ints k 0 g] 0]) := by
  have back : ∀ {E : Emb} {w w' : World} {e : Ending}, Sim E h w → Post E h w (fun v h' => v = X ∧ h' = H) e w' → Post E h w (fun v h' => v = ghE H.length X ∧ h' = H ++ [.cells true [.ints k 0 g] 0]) e w' := fun {E w w' e} S p => by
    obtain ⟨v, x, h', E'', h1, h2, h3, h4, rfl, rfl⟩ := p
    obtain ⟨S', N'⟩ := push_nil h3 (cs := [.ints k 0 g]) ⟨[], rfl, rfl⟩
    refine ⟨v, _, _, _, h1, ?_, S', h4.trans S.n h3.n N', rfl, rfl⟩
    rw [← h3.n]
    exact ghE_den (N'.le h3.n S'.n) _ _ h2
  refine ⟨?_⟩
  rcases d.go with ⟨h1, h2⟩ | h1
  · exact .inl ⟨h1, fun E w vs S ha => (h2 E w vs S ha).mono fun e w' p => back S p⟩
  · refine .inr fun E w vs S ha => ?_
    obtain ⟨u, w', h2, h3⟩ := h1 E w vs S ha
    exact ⟨u, w', h2, back S h3⟩
/-- A heap that says more. -/
theorem Does.heq {T : Tbl} {f : FuncId} {args : List EV} {h b : List Blk} {Q : EV → List Blk → Prop} (e : eqvH h b) (d : Does T f args b Q) : Does T f args h Q := by
  have back : ∀ {E : Emb} {w w' : World} {x : Ending}, Sim E h w → Post E b w Q x w' → Post E h w Q x w' := fun {E w w' x} S p => by
    obtain ⟨v, y, h', E'', h1, h2, h3, h4, h5⟩ := p
    exact ⟨v, y, h', E'', h1, h2, h3, ((Since.refl E h w).eqv e).trans S.n (S.eqv e).n h4, h5⟩
  refine ⟨?_⟩
  rcases d.go with ⟨h1, h2⟩ | h1
  · exact .inl ⟨h1, fun E w vs S ha => (h2 E w vs (S.eqv e) ha).mono fun x w' p => back S p⟩
  · refine .inr fun E w vs S ha => ?_
    obtain ⟨u, w', h2, h3⟩ := h1 E w vs (S.eqv e) ha
    exact ⟨u, w', h2, back S h3⟩
end Go.Anv

/- Watching: one row by itself: its fields, its modes: the program's and the document's. No condition but that the numbers fit. -/
namespace Go.Anv
open Go
/-- Numbers that are a machine's. -/
structure RowV.Ok (r : RowV) : Prop where
  len : -9223372036854775808 ≤ r.len ∧ r.len ≤ 9223372036854775807
  rd : -9223372036854775808 ≤ r.rd ∧ r.rd ≤ 9223372036854775807
  mem : -9223372036854775808 ≤ r.mem ∧ r.mem ≤ 9223372036854775807
  size : -9223372036854775808 ≤ r.size ∧ r.size ≤ 9223372036854775807
/-- Rule 3 of a trace, of plain numbers. -/
def goodP (kind mode nm len rd mem size pc nx top cause tval raw val addr data : Int) : Prop :=
  (1 ≤ kind ∧ kind ≤ 5) ∧ (mode = 0 ∨ mode = 3) ∧ (nm = 0 ∨ nm = 3) ∧ pc = 0 ∧ nx = 0 ∧ (kind = 2 ∨ kind = 3 ∨ cause = 0 ∧ tval = 0) ∧ (top = 1 ↔ kind = 3) ∧ (kind = 3 → tval = 0) ∧ (kind ≥ 3 → raw = 0 ∧ len = 0) ∧ (len = 0 ∨ len = 2 ∨ len = 4) ∧ (kind = 1 → len ≠ 0) ∧
    (kind ≠ 1 → rd = 0 ∧ val = 0 ∧ mem = 0 ∧ addr = 0 ∧ size = 0 ∧ data = 0) ∧ (rd = 0 → val = 0) ∧ (mem = 0 → addr = 0 ∧ size = 0 ∧ data = 0) ∧ (mem = 1 → data = 0)
instance (kind mode nm len rd mem size pc nx top cause tval raw val addr data : Int) : Decidable (goodP kind mode nm len rd mem size pc nx top cause tval raw val addr data) := by unfold goodP; infer_instance
def RowV.top (r : RowV) : Int := (r.cause.toNat : Int).fdiv (2 ^ min (Int.toNat 63) IntKind.u64.bits)
def RowV.good (r : RowV) : Bool := decide (goodP r.kind r.mode r.nextMode r.len r.rd r.mem r.size ((r.pc.toNat : Int).tmod 2) ((r.next.toNat : Int).tmod 2) r.top r.cause.toNat r.tval.toNat r.raw.toNat r.val.toNat r.addr.toNat r.data.toNat)
/-- Rule 5 of a trace. -/
def RowV.moves (r : RowV) : Bool :=
  if r.kind == 4 then r.next == r.pc && r.nextMode == r.mode
  else if r.kind == 2 || r.kind == 3 then r.nextMode == 3
  else if r.kind == 1 then r.nextMode == r.mode || (r.mode == 3 && r.nextMode == 0 && r.raw == 807403635#32)
  else true
theorem wzero {x : Int} (h : -9223372036854775808 ≤ x ∧ x ≤ 9223372036854775807) : (IntKind.u64.wrap x == 0) = (x == 0) := by
  rw [wrap_u64, Bool.eq_iff_iff, beq_iff_eq, beq_iff_eq, BitVec.toNat_ofInt]
  omega
theorem wraw (a : B32) : (IntKind.u64.wrap (a.toNat : Int) == 0) = ((a.toNat : Int) == 0) := by
  have := a.isLt
  rw [wnat (by omega)]
theorem pT {a b : Bool} : ((bif a then true else b) = true) = (a = true ∨ b = true) := by cases a <;> simp
theorem pF {a b : Bool} : ((bif a then b else false) = true) = (a = true ∧ b = true) := by cases a <;> simp
theorem pN {a : Bool} : ((!a) = true) = ¬ (a = true) := by cases a <;> simp
theorem pB {a b : Bool} : ((a == b) = true) = (a = true ↔ b = true) := by cases a <;> cases b <;> simp
theorem pE {a : Bool} : (a = false) = ¬ (a = true) := by cases a <;> simp
theorem pO {a b : Bool} : ((a || b) = true) = (a = true ∨ b = true) := by cases a <;> simp
theorem pA {a b : Bool} : ((a && b) = true) = (a = true ∧ b = true) := by cases a <;> simp
theorem pI {x y : Int} : ((x == y) = true) = (x = y) := by simp
theorem pJ {x y : Int} : ((x != y) = true) = ¬ (x = y) := by simp
end Go.Anv
namespace Go.Proofs.YtghcdkpgcanpgaaGreat
open Go Go.Anv
set_option maxRecDepth 100000 in
theorem empty_spec (l : List Int) (hl : l.length < 2 ^ 62) : Does TB 108 [.s (.slice 0 0 l.length l.length)] [.cells true [.ints .u64 l.length (litF l)] 0] (fun v h' => v = .s (.bool (l.all fun x => x == 0)) ∧ h' = [.cells true [.ints .u64 l.length (litF l)] 0]) := by
  refine fnX_does TB Tryz.func108 rfl (by decide) (fun O on hO => ?_)
  have fin : ∀ {x : Bool}, x = (l.all fun x => x == 0) → Anv.Ends 1 (fun v h' => v = .s (.bool (l.all fun x => x == 0)) ∧ h' = [.cells true [.ints .u64 l.length (litF l)] 0]) (.s (.bool x)) [.cells true [.ints .u64 l.length (litF l)] 0] := by
    rintro x rfl
    exact Ends.ro (H := [.cells true [.ints .u64 l.length (litF l)] 0]) (J := []) rfl rfl rfl
  have get : ∀ (l : List Int) (i : Nat), i < l.length → litF l i = l.getD i 0 := by
    intro l
    induction l with
    | nil => intro i hi; simp at hi
    | cons a l ih =>
      intro i hi
      cases i with
      | zero => rfl
      | succ i => simp only [litF]; rw [ih i (by simpa using hi)]; simp
  refine loop_by (A := Nat) on (fun k => [(7, .s (.int .i64 (k : Int)))]) (fun _ => [.cells true [.ints .u64 l.length (litF l)] 0]) (fun k => k ≤ l.length ∧ ∀ i, i < k → litF l i = 0) (fun k => l.length - k) 0 ⟨Nat.zero_le _, fun i hi => absurd hi (Nat.not_lt_zero i)⟩ ?_ ?_
  · refine ⟨?_, eqvH_refl _⟩
    repeat' (first | exact eqvT_nil | refine eqvT_junk ?_ | refine eqvT_same ?_ | refine eqvT_int ?_ ?_)
  intro k ⟨hk, hp⟩
  refine ifB_intro (fun h2 => ?_) (fun h2 => ?_)
  · have hk1 : k < l.length := by have := of_decide_eq_true h2; omega
    repeat (refine need_intro (by first | omega | exact ⟨by omega, by omega⟩ | exact fun h => h | exact nt | exact an2 | exact an3 | rfl | (simp; done) | fail) ?_)
    have hz : (0 + (k : Int).toNat) = k := by omega
    refine ifB_intro (fun h3 => fin ?_) (fun h3 => ?_)
    · rw [hz] at h3
      symm
      rw [List.all_eq_false]
      refine ⟨l.getD k 0, ?_, ?_⟩
      · rw [List.getD_eq_getElem?_getD, List.getElem?_eq_getElem hk1]
        exact List.getElem_mem hk1
      · rw [← get l k hk1]
        simpa using h3
    · rw [hz] at h3
      refine ⟨k + 1, ⟨hk1, fun j hj => ?_⟩, by simp only; omega, ?_⟩
      · rcases Nat.lt_succ_iff_lt_or_eq.1 hj with h | h
        · exact hp j h
        · subst h; simpa using h3
      refine ⟨?_, eqvH_refl _⟩
      repeat' (first | exact eqvT_nil | refine eqvT_junk ?_ | refine eqvT_same ?_ | refine eqvT_int ?_ ?_)
      rw [i64_in (by omega) (by omega)]; omega
  · have hk1 : k = l.length := by have := of_decide_eq_false h2; omega
    refine fin ?_
    symm
    rw [List.all_eq_true]
    intro x hx
    obtain ⟨i, hi, rfl⟩ := List.getElem_of_mem hx
    have := hp i (by omega)
    rw [get l i hi, List.getD_eq_getElem?_getD, List.getElem?_eq_getElem hi] at this
    simpa using this
end Go.Proofs.YtghcdkpgcanpgaaGreat

/- Watching: one row by itself, the program's side. -/
namespace Go.Proofs.YtghcdkpgcanpgaaGreat
open Go Go.Anv
theorem mv_eq {w : Nat} {a b : BitVec w} : ((a.toNat : Int) == (b.toNat : Int)) = (a == b) := by
  rw [Bool.eq_iff_iff, beq_iff_eq, beq_iff_eq, Int.ofNat_inj, BitVec.toNat_inj]
theorem raw_eq {a : B32} : ((a.toNat : Int) == 807403635) = (a == 807403635#32) := mv_eq (b := 807403635#32)
set_option maxRecDepth 100000 in
theorem modes_spec (r : RowV) : Does TB 92 [.agg r.segs] [] (fun v h' => v = .s (.bool r.moves) ∧ h' = []) := by
  refine fnX_does TB Tryz.func92 rfl (by decide) (fun O on hO => ?_)
  have fin : ∀ {x : Bool} {b : Blk}, x = r.moves → Anv.Ends 0 (fun v h' => v = .s (.bool r.moves) ∧ h' = []) (.s (.bool x)) [b] := by
    rintro x b rfl
    exact Ends.ro (H := []) rfl rfl rfl
  refine ifB_intro (fun h1 => ?_) (fun h1 => ?_)
  · repeat (refine need_intro (by first | exact exact an2 | exact exact an3 | exact fail | exact fun h => h | exact nt | exact an2 | exact an3 | rfl | (simp; done) | fail) ?_)
    refine fin ?_
    rw [mv_eq]; simp [RowV.moves, h1]
  repeat (refine need_intro (by first | exact exact an2 | exact exact an3 | exact fail | exact fun h => h | exact nt | exact an2 | exact an3 | rfl | (simp; done) | fail) ?_)
  refine ifB_intro (fun h2 => ?_) (fun h2 => ?_)
  · refine ifB_intro (fun h3 => ?_) (fun h3 => absurd (h2.symm.trans h3) (by decide))
    repeat (refine need_intro (by first | exact exact an2 | exact exact an3 | exact fail | exact fun h => h | exact nt | exact an2 | exact an3 | rfl | (simp; done) | fail) ?_)
    refine fin ?_
    simp [RowV.moves, h1, h2]
  refine ifB_intro (fun h3 => ?_) (fun h3 => ?_)
  · repeat (refine need_intro (by first | exact exact an2 | exact exact an3 | exact fail | exact fun h => h | exact nt | exact an2 | exact an3 | rfl | (simp; done) | fail) ?_)
    refine fin ?_
    simp [RowV.moves, h1, h3]
  repeat (refine need_intro (by first | exact exact an2 | exact exact an3 | exact fail | exact fun h => h | exact nt | exact an2 | exact an3 | rfl | (simp; done) | fail) ?_)
  refine ifB_intro (fun h4 => ?_) (fun h4 => ?_)
  · repeat (refine need_intro (by first | exact exact an2 | exact exact an3 | exact fail | exact fun h => h | exact nt | exact an2 | exact an3 | rfl | (simp; done) | fail) ?_)
    refine fin ?_
    rw [raw_eq]; simp [RowV.moves, h1, h2, h3, h4]
  repeat (refine need_intro (by first | exact exact an2 | exact exact an3 | exact fail | exact fun h => h | exact nt | exact an2 | exact an3 | rfl | (simp; done) | fail) ?_)
  refine fin ?_
  simp [RowV.moves, h1, h2, h3, h4]
theorem good_eq (r : RowV) : (r.good = true) = goodP r.kind r.mode r.nextMode r.len r.rd r.mem r.size ((r.pc.toNat : Int).tmod 2) ((r.next.toNat : Int).tmod 2) r.top r.cause.toNat r.tval.toNat r.raw.toNat r.val.toNat r.addr.toNat r.data.toNat := decide_eq_true_eq
theorem wzI {x : Int} (h : -9223372036854775808 ≤ x ∧ x ≤ 9223372036854775807) : (IntKind.u64.wrap x = 0) = (x = 0) := by rw [← pI, wzero h, pI]
theorem wrI (a : B32) : (IntKind.u64.wrap (a.toNat : Int) = 0) = ((a.toNat : Int) = 0) := by rw [← pI, wraw, pI]
set_option maxHeartbeats 4000000 in
set_option maxRecDepth 100000 in
theorem shaped_spec (r : RowV) (ok : r.Ok) : Does TB 91 [.agg r.segs] [] (fun v h' => v = .s (.bool r.good) ∧ h' = []) := by
  refine fnX_does TB Tryz.func91 rfl (by decide) (fun O on hO => ?_)
  have fin : ∀ {x : Bool} {b : Blk} {J : List Blk}, x = r.good → Anv.Ends 0 (fun v h' => v = .s (.bool r.good) ∧ h' = []) (.s (.bool x)) (b :: J) := by
    rintro x b J rfl
    exact Ends.ro (H := []) rfl rfl rfl
  repeat (refine need_intro (by first | exact fun _ => (by decide) | exact exact an2 | exact exact an3 | exact fail | exact fun h => h | exact nt | exact an2 | exact an3 | rfl | (simp; done) | fail) ?_)
  refine ifB_intro (fun h1 => ?_) (fun h1 => ?_)
  · refine fin ?_
    refine Bool.eq_iff_iff.2 ?_
    rw [show (r.good = true) = goodP r.kind r.mode r.nextMode r.len r.rd r.mem r.size ((r.pc.toNat : Int).tmod 2) ((r.next.toNat : Int).tmod 2) r.top r.cause.toNat r.tval.toNat r.raw.toNat r.val.toNat r.addr.toNat r.data.toNat from decide_eq_true_eq]
    clear fin
    clear on hO
    simp only [RowV.top, goodP, pE, pT, pF, pN, pB, pO, pA, pI, pJ, decide_eq_true_eq, Bool.false_eq_true, iff_false, false_iff, iff_true, true_iff, Bool.true_eq_false] at *
    omega
  have hk : r.kind = 1 ∨ r.kind = 2 ∨ r.kind = 3 ∨ r.kind = 4 ∨ r.kind = 5 := by
    clear fin
    simp only [pE, pT, decide_eq_true_eq] at h1
    omega
  obtain ⟨ol, od, om, oz⟩ := ok
  obtain ⟨st, kd, md, pc, raw, len, cause, tval, rd, val, mem, addr, size, data, nx, nm⟩ := r
  simp only at hk ol od om oz
  rcases hk with rfl | rfl | rfl | rfl | rfl
  all_goals repeat' (first
    | refine need_intro (by first | exact fun h => h | rfl | assumption | exact an2 | exact an3 | (simp; done) | fail) ?_
    | refine ifB_intro (fun _ => ?_) (fun h => absurd ((by assumption : _ = true).symm.trans h) (by decide))
    | refine ifB_intro (fun h => absurd (h.symm.trans (by assumption : _ = false)) (by decide)) (fun _ => ?_)
    | refine ifB_intro (fun h => ?_) (fun h => ?_)
    | refine fin ?_
    | refine Does.atc (empty_spec [cause.toNat, tval.toNat] (by show 2 < 2 ^ 62; decide)) [1] rfl ⟨rfl, trivial⟩ (by decide) ?_
    | refine Does.atc (empty_spec [cause.toNat, tval.toNat] (by show 2 < 2 ^ 62; decide)) [2] rfl ⟨rfl, trivial⟩ (by decide) ?_
    | refine Does.atc (empty_spec [cause.toNat, tval.toNat] (by show 2 < 2 ^ 62; decide)) [3] rfl ⟨rfl, trivial⟩ (by decide) ?_
    | refine Does.atc (empty_spec [cause.toNat, tval.toNat] (by show 2 < 2 ^ 62; decide)) [4] rfl ⟨rfl, trivial⟩ (by decide) ?_
    | refine Does.atc (empty_spec [IntKind.u64.wrap raw.toNat, IntKind.u64.wrap len] (by show 2 < 2 ^ 62; decide)) [1] rfl ⟨rfl, trivial⟩ (by decide) ?_
    | refine Does.atc (empty_spec [IntKind.u64.wrap raw.toNat, IntKind.u64.wrap len] (by show 2 < 2 ^ 62; decide)) [2] rfl ⟨rfl, trivial⟩ (by decide) ?_
    | refine Does.atc (empty_spec [IntKind.u64.wrap raw.toNat, IntKind.u64.wrap len] (by show 2 < 2 ^ 62; decide)) [3] rfl ⟨rfl, trivial⟩ (by decide) ?_
    | refine Does.atc (empty_spec [IntKind.u64.wrap raw.toNat, IntKind.u64.wrap len] (by show 2 < 2 ^ 62; decide)) [4] rfl ⟨rfl, trivial⟩ (by decide) ?_
    | refine Does.atc (empty_spec [IntKind.u64.wrap rd, val.toNat, IntKind.u64.wrap mem, addr.toNat, IntKind.u64.wrap size, data.toNat] (by show 6 < 2 ^ 62; decide)) [1] rfl ⟨rfl, trivial⟩ (by decide) ?_
    | refine Does.atc (empty_spec [IntKind.u64.wrap rd, val.toNat, IntKind.u64.wrap mem, addr.toNat, IntKind.u64.wrap size, data.toNat] (by show 6 < 2 ^ 62; decide)) [2] rfl ⟨rfl, trivial⟩ (by decide) ?_
    | refine Does.atc (empty_spec [IntKind.u64.wrap rd, val.toNat, IntKind.u64.wrap mem, addr.toNat, IntKind.u64.wrap size, data.toNat] (by show 6 < 2 ^ 62; decide)) [3] rfl ⟨rfl, trivial⟩ (by decide) ?_
    | refine Does.atc (empty_spec [IntKind.u64.wrap rd, val.toNat, IntKind.u64.wrap mem, addr.toNat, IntKind.u64.wrap size, data.toNat] (by show 6 < 2 ^ 62; decide)) [4] rfl ⟨rfl, trivial⟩ (by decide) ?_
    | refine Does.atc (empty_spec [addr.toNat, IntKind.u64.wrap size, data.toNat] (by show 3 < 2 ^ 62; decide)) [1] rfl ⟨rfl, trivial⟩ (by decide) ?_
    | refine Does.atc (empty_spec [addr.toNat, IntKind.u64.wrap size, data.toNat] (by show 3 < 2 ^ 62; decide)) [2] rfl ⟨rfl, trivial⟩ (by decide) ?_
    | refine Does.atc (empty_spec [addr.toNat, IntKind.u64.wrap size, data.toNat] (by show 3 < 2 ^ 62; decide)) [3] rfl ⟨rfl, trivial⟩ (by decide) ?_
    | refine Does.atc (empty_spec [addr.toNat, IntKind.u64.wrap size, data.toNat] (by show 3 < 2 ^ 62; decide)) [4] rfl ⟨rfl, trivial⟩ (by decide) ?_)
  all_goals
    refine Bool.eq_iff_iff.2 ?_
    rw [good_eq]
    clear fin
    clear on hO
    simp only [RowV.top, goodP, pE, pT, pF, pN, pB, pO, pA, pI, pJ, decide_eq_true_eq, Bool.false_eq_true, iff_false, false_iff, iff_true, true_iff, Bool.true_eq_false, List.all_cons, List.all_nil, wzI ol, wzI od, wzI om, wzI oz, wrI] at *
    first | omega | (simp at *; done) | (simp at *; omega) | omega
end Go.Proofs.YtghcdkpgcanpgaaGreat

/- The engine, part 19: contracts over blocks that are only read, used where blocks are the same or overlap; maps of whole numbers whose entries are not told. Plain theorems, no condition. -/
namespace Go.Anv
open Go

/-- Blocks of a larger heap, only read. -/
def viewH (h : List Blk) : List Nat → List Blk → Prop
  | [], [] => True
  | k :: κ, B :: r => (∃ m cs sp, nthB h k = some (.cells m cs sp) ∧ B = .cells false cs sp) ∧ viewH h κ r
  | _, _ => False

theorem viewH_get {h : List Blk} : ∀ {κ : List Nat} {r : List Blk}, viewH h κ r → κ.length = r.length ∧ ∀ (i : Nat) (B : Blk), r[i]? = some B → ∃ k m cs sp, κ[i]? = some k ∧ h[k]? = some (.cells m cs sp) ∧ B = .cells false cs sp
  | [], [], _ => ⟨rfl, fun i B hi => by simp at hi⟩
  | k :: κ, B :: r, hk => by
    obtain ⟨h1, h2⟩ := viewH_get hk.2
    refine ⟨by simp [h1], fun i C hi => ?_⟩
    cases i with
    | zero =>
      simp only [List.getElem?_cons_zero, Option.some.injEq] at hi
      subst hi
      obtain ⟨m, cs, sp, h3, h4⟩ := hk.1
      exact ⟨k, m, cs, sp, by simp, nthB_get h3, h4⟩
    | succ i => simpa using h2 i C (by simpa using hi)
  | [], _ :: _, hk => hk.elim
  | _ :: _, [], hk => hk.elim

/-- **A contract over blocks that may not be written, where they may be the same.** -/
theorem Does.dup {T : Tbl} {f : FuncId} {args : List EV} {hc : List Blk} {X : EV} (c : Does T f args hc (fun v h' => v = X ∧ h' = hc)) (κ : List Nat) {args' : List EV} {h : List Blk} {K : EV → List Blk → Prop}
    (hX : noPtr X = true) (ha : args' = renT (lk κ h.length) args) (hh : viewH h κ (renH (lk κ h.length) hc)) (hK : K X h) : Does T f args' h K := by
  subst ha
  obtain ⟨hl, hget⟩ := viewH_get hh
  rw [length_renH] at hl
  have core : ∀ {E : Emb} {w : World} {vs : List Value}, Sim E h w → denT E (renT (lk κ h.length) args) vs → ∃ Ec, Sim Ec hc w ∧ denT Ec args vs ∧ ∀ e w', Post Ec hc w (fun v h' => v = X ∧ h' = hc) e w' → Post E h w K e w' := by
    intro E w vs S ha
    let ρ := lk κ h.length
    let Ec : Emb := ⟨hc.length, fun i => E.f (ρ i)⟩
    have hblk : ∀ (i : Nat) (B : Blk), hc[i]? = some B → ∃ m cs sp, ρ i < h.length ∧ h[ρ i]? = some (.cells m cs sp) ∧ renB ρ B = .cells false cs sp := fun i B hi => by
      obtain ⟨k, m, cs, sp, h1, h2, h3⟩ := hget i (renB ρ B) (by rw [renH_get, hi]; rfl)
      have hi' : i < κ.length := by have := lt_of_get hi; omega
      have h4 : ρ i = k := by
        show lk κ h.length i = k
        rw [look_lt κ _ i hi']
        rw [List.getElem?_eq_getElem hi'] at h1
        exact Option.some.inj h1
      exact ⟨m, cs, sp, by rw [h4]; exact lt_of_get h2, by rw [h4]; exact h2, h3⟩
    have hfwd : ∀ b, ρ b < E.n → b < Ec.n := fun b hb => by
      rcases Nat.lt_or_ge b κ.length with h1 | h1
      · show b < hc.length; omega
      · have h3 : ρ b = h.length + (b - κ.length) := look_ge κ _ b h1
        have := S.n
        omega
    have hbwd : ∀ b, b < Ec.n → ρ b < E.n ∧ Ec.f b = E.f (ρ b) := fun b hb => by
      obtain ⟨_, _, _, h1, _⟩ := hblk b _ (List.getElem?_eq_getElem hb)
      exact ⟨by rw [S.n]; exact h1, rfl⟩
    have hnm : ∀ (i : Nat) (B : Blk), hc[i]? = some B → B.mut = false := fun i B hi => by
      obtain ⟨m, cs, sp, _, _, h3⟩ := hblk i B hi
      rw [← mut_ren (ρ := ρ) B, h3]
      rfl
    have hno : ∀ b o, ¬ mutAt Ec hc b o := fun b o ⟨i, B, h1, h2, _⟩ => by rw [hnm i B h1] at h2; cases h2
    have Sc : Sim Ec hc w := by
      refine ⟨rfl, fun i B hi => ?_, fun i j A B _ hi _ hA => ?_⟩
      · obtain ⟨m, cs, sp, _, h2, h3⟩ := hblk i B hi
        have hk := S.ok _ _ h2
        refine (okBlk_ren hfwd hbwd B).1 ?_
        rw [h3]
        obtain ⟨k1, k2, _⟩ := hk
        exact ⟨k1, k2, fun h => by cases h⟩
      · rw [hnm i A hi] at hA; cases hA
    refine ⟨Ec, Sc, (denT_ren hfwd hbwd args _).1 ha, ?_⟩
    rintro e w' ⟨v, x, h', E', rfl, hd, S', N', rfl, rfl⟩
    have hk : ∀ b, b < w.heap.size → w'.heap[b]? = w.heap[b]? := fun b hb => N'.frame b hb (fun o => hno b o)
    have S1 : Sim E h w' := S.keep N'.size hk
    refine ⟨v, x, h, E, rfl, noPtr_den x v hX hd, S1, ?_, hK⟩
    exact ⟨Nat.le_refl _, fun _ _ => rfl, N'.size, fun b hb _ => hk b hb, fun b o hb _ => N'.cells b o hb (hno b o), fun b o hm _ => hm, N'.os, N'.tape, N'.output, N'.rows⟩
  refine ⟨?_⟩
  rcases c.go with ⟨h1, h2⟩ | h1
  · refine .inl ⟨h1, fun E w vs S ha => ?_⟩
    obtain ⟨Ec, k1, k2, k3⟩ := core S ha
    exact (h2 Ec w vs k1 k2).mono k3
  · refine .inr fun E w vs S ha => ?_
    obtain ⟨Ec, k1, k2, k3⟩ := core S ha
    obtain ⟨u, w', h2, h3⟩ := h1 Ec w vs k1 k2
    exact ⟨u, w', h2, k3 _ _ h3⟩

/-! ### maps of whole numbers -/

def ents (L : List (Int × Int)) : List (SV × EV) := L.map fun p => (.int .i64 p.1, .s (.int .i64 p.2))

def assoc (r : Int) : List (Int × Int) → Option Int
  | [] => none
  | p :: L => if r == p.1 then some p.2 else assoc r L

theorem lookK_ints (r : Int) : ∀ (L : List (Int × Int)) {k : Option EV → Prop}, k ((assoc r L).map fun p => .s (.int .i64 p)) → lookK (.int .i64 r) (ents L) k
  | [], _, h => h
  | p :: L, k, h => by
    show ifB (r == p.1) (k (some (.s (.int .i64 p.2)))) (lookK (.int .i64 r) (ents L) k)
    refine ifB_intro (fun e => ?_) (fun e => ?_)
    · unfold assoc at h
      rw [if_pos e] at h
      exact h
    · unfold assoc at h
      rw [e, if_neg (by decide)] at h
      exact lookK_ints r L h

theorem putM_ints (r p : Int) : ∀ (L : List (Int × Int)) {k : List (SV × EV) → Prop}, assoc r L = none → k (ents (L ++ [(r, p)])) → putM (.int .i64 r) (.s (.int .i64 p)) (ents L) k
  | [], _, _, h => h
  | q :: L, k, hn, h => by
    show ifB (r == q.1) (k ((.int .i64 r, .s (.int .i64 p)) :: ents L)) (putM (.int .i64 r) (.s (.int .i64 p)) (ents L) fun r' => k ((.int .i64 q.1, .s (.int .i64 q.2)) :: r'))
    unfold assoc at hn
    refine ifB_intro (fun e => ?_) (fun e => ?_)
    · rw [if_pos e] at hn; cases hn
    · rw [e, if_neg (by decide)] at hn
      exact putM_ints r p L hn h
end Go.Anv
