/- Part 7 of the texts of this claim, merged: Q9, Q10, Q11, Q12, D1, D2, D3, D4. No condition: plain theorems, contracts of functions. -/
import Derived.Test.YtghcdkpgcanpgaaGreatZ6

set_option linter.unusedSimpArgs false
set_option linter.unusedVariables false
/- Watching: the rules 1 to 5 and 7, as the program asks them. No condition but the lists' lengths. -/
namespace Go.Anv
open Go
/-- The boxes of what the rules' closures hold. -/
def boxes : List Blk := [.cells true [.one (.ptr 7 0)] 0, .cells true [.one (.ptr 7 0)] 0, .cells true [.one (.ptr 7 97)] 0, .cells true [.one (.ptr 7 198)] 0, .cells true [.one (.ptr 7 82)] 0, .cells true [.one (.ptr 7 179)] 0]
def Sc.hb (z : Sc) : List Blk := z.h ++ boxes
def allN (n : Nat) (f : Nat → Bool) : Bool := (List.range n).all f
theorem allN_of {n : Nat} {f : Nat → Bool} (h : ∀ i, i < n → f i = true) : allN n f = true := List.all_eq_true.2 fun i hi => h i (List.mem_range.1 hi)
theorem allN_not {n i : Nat} {f : Nat → Bool} (hi : i < n) (h : f i = false) : allN n f = false := by
  rw [Bool.eq_false_iff]
  intro e
  have := List.all_eq_true.1 e i (List.mem_range.2 hi)
  rw [h] at this
  cases this
def ramAt (i : Nat) : B64 := 0x80000000#64 + BitVec.ofNat 64 i
def Sc.rule1 (z : Sc) : Bool := z.t.nr == z.s.nr && cpuS z.e z.d
def Sc.rule2 (z : Sc) : Bool := decide (z.r.kind ≥ 1) && decide (z.r.kind ≤ 5) && z.r.mode == z.c.mode && z.r.pc == z.c.pc && z.r.nextMode == z.d.mode && z.r.next == z.d.pc
def Sc.sameS (z : Sc) : Bool := cpuS z.d z.c && devS z.t z.s z.k z.l && (z.t.nr == z.s.nr && eqB z.t.nr z.k.ram z.l.ram)
def Sc.rule3 (z : Sc) : Bool := (z.r.kind == 5) == (z.s.off != 0) && (!(z.r.kind == 5) || z.sameS)
def xS (x y : Nat → B64) : Bool := allN 32 fun j => x j == y j
def Sc.rule4 (z : Sc) : Bool :=
  if z.r.kind != 1 then xS z.d.x z.c.x && z.r.rd == 0 && z.r.val == 0#64 && z.r.mem == 0 && z.r.addr == 0#64 && z.r.size == 0 && z.r.data == 0#64
  else if z.r.rd < 0 ∨ 31 < z.r.rd then false else xS z.d.x (fun j => if z.r.rd ≠ 0 ∧ j = z.r.rd.toNat then z.r.val else z.c.x j)
def Sc.rule5 (z : Sc) : Bool := z.c.mode != 0 || allN z.s.nr fun i => z.k.ram i == z.l.ram i || grantI z.c.cfg z.c.addr (ramAt i) 2
def pmpS (c d : CpuV) : Bool := (allN 16 fun j => c.cfg j == d.cfg j) && allN 16 fun j => c.addr j == d.addr j
def Sc.rule7 (z : Sc) : Bool := z.c.mode != 0 || pmpS z.d z.c
theorem nn2 {a b : Bool} (g : (a && !!b) = false) (h : a = true) : (!b) = true := by cases b <;> simp_all
theorem eqx (x y : Nat → B64) : (((List.range 32).all fun j => wfun x j == wfun y j) && true) = xS x y := by
  rw [Bool.and_true]
  unfold xS allN; congr 1; funext j; exact beq_nat _ _
theorem reg_yes (x y : Nat → B64) (r : Int) (v : B64) (h : (r != 0) = true) : (((List.range 32).all fun j => wfun x j == (fun j => if j = r.toNat then (v.toNat : Int) else wfun y j) j) && true) = xS x (fun j => if r ≠ 0 ∧ j = r.toNat then v else y j) := by
  rw [Bool.and_true]
  unfold xS allN; congr 1; funext j
  have hr : r ≠ 0 := by simpa using h
  by_cases hj : j = r.toNat
  · simp only [hj, if_true, hr, ne_eq, not_false_eq_true, and_self]
    exact beq_nat _ _
  · simp only [hj, if_false, and_false]
    exact beq_nat _ _
theorem reg_no (x y : Nat → B64) (r : Int) (v : B64) (h : (r != 0) = false) : (((List.range 32).all fun j => wfun x j == wfun y j) && true) = xS x (fun j => if r ≠ 0 ∧ j = r.toNat then v else y j) := by
  rw [eqx]
  have hr : r = 0 := by simpa using h
  simp [hr]
theorem e0 (a : B64) : ((a.toNat : Int) == 0) = (a == 0#64) := beq_nat a 0#64
theorem all_b (n : Nat) (p q : Nat → B8) : ((List.range n).all fun j => bfun p j == bfun q j) = allN n fun j => p j == q j := by
  unfold allN; congr 1; funext j; exact beq_nat _ _
theorem all_w (n : Nat) (p q : Nat → B64) : ((List.range n).all fun j => wfun p j == wfun q j) = allN n fun j => p j == q j := by
  unfold allN; congr 1; funext j; exact beq_nat _ _
end Go.Anv
namespace Go.Proofs.YtghcdkpgcanpgaaGreat
open Go Go.Anv
set_option maxRecDepth 100000 in
theorem rule1_spec (z : Sc) : Does TB 46 [.s (.ptr 13 0), .s (.ptr 12 0), .s (.ptr 8 0), .s (.ptr 10 0)] z.hb (fun v h' => v = .s (.bool z.rule1) ∧ h' = z.hb) := by
  refine fnX_does TB Tryz.func46 rfl (by decide) (fun O on hO => ?_)
  refine draw_held on rfl (fun _ _ h => h) ?_
  repeat (refine need_intro (by first | exact fun h => h | exact nt | exact an2 | rfl | (simp; done) | fail) ?_)
  refine Ends.ro (H := z.hb) rfl ?_ rfl
  refine (cond_and _ _).trans ?_
  unfold Sc.rule1
  congr 1
  exact int_beq _ _
set_option maxRecDepth 100000 in
theorem rule2_spec (z : Sc) : Does TB 47 [.s (.ptr 11 0), .s (.ptr 9 0), .s (.ptr 10 0)] z.hb (fun v h' => v = .s (.bool z.rule2) ∧ h' = z.hb) := by
  refine fnX_does TB Tryz.func47 rfl (by decide) (fun O on hO => ?_)
  refine draw_held on rfl (fun _ _ h => h) ?_
  repeat (refine need_intro (by first | exact fun h => h | exact nt | exact an2 | rfl | (simp; done) | fail) ?_)
  refine Ends.ro (H := z.hb) rfl ?_ rfl
  show _ = z.rule2
  unfold Sc.rule2
  simp only [cond_and, beq_nat]
  done
set_option maxRecDepth 100000 in
theorem wsame_spec (c d : CpuV) (s t : BusV) (l k : Lists) (c0 c1 c2 c3 c4 c5 : Nat) :
    Does TB 49 [.agg (wsegs c s (.gs 0 0 s.nr c0) (.gs 1 0 s.ni c1) (.gs 2 0 s.no c2)), .agg (wsegs d t (.gs 3 0 t.nr c3) (.gs 4 0 t.ni c4) (.gs 5 0 t.no c5))] (l.blks s ++ k.blks t) (fun v h' => v = .s (.bool (cpuS c d && devS s t l k && (s.nr == t.nr && eqB s.nr l.ram k.ram))) ∧ h' = l.blks s ++ k.blks t) := by
  refine fnX_does TB Tryz.func49 rfl (by decide) (fun O on hO => ?_)
  repeat (refine need_intro (by first | exact fun h => h | exact nt | exact an2 | rfl | (simp; done) | fail) ?_)
  have fin : ∀ {x : Bool} {b e : Blk}, x = (cpuS c d && devS s t l k && (s.nr == t.nr && eqB s.nr l.ram k.ram)) → Anv.Ends 6 (fun v h' => v = .s (.bool (cpuS c d && devS s t l k && (s.nr == t.nr && eqB s.nr l.ram k.ram))) ∧ h' = l.blks s ++ k.blks t) (.s (.bool x)) (l.blks s ++ k.blks t ++ [b, e]) := by
    rintro x b e rfl
    exact Ends.ro rfl rfl rfl
  refine ifB_intro (fun g => ?_) (fun g => ?_)
  · refine Does.ungd (b := [_, _]) ⟨⟨g, rfl⟩, ⟨g, rfl⟩, trivial⟩ ?_
    replace g : cpuS c d = true := g
    refine Does.atc (sameBus_spec s t l k c0 c1 c2 c3 c4 c5) [0, 1, 2, 3, 4, 5] rfl ⟨rfl, rfl, rfl, rfl, rfl, rfl, trivial⟩ (by decide) ?_
    repeat (refine need_intro (by first | exact fun h => h | exact nt | exact an2 | rfl | (simp; done) | fail) ?_)
    refine ifB_intro (fun g2 => ?_) (fun g2 => ?_)
    · refine Does.ungd (b := [_, _]) ⟨⟨g2, rfl⟩, ⟨g2, rfl⟩, trivial⟩ ?_
      replace g2 : (bif cpuS c d then devS s t l k else false) = true := g2
      refine Does.atc (equal2_spec l.mr k.mr s.nr t.nr c0 c3 l.sr k.sr l.ram k.ram) [0, 3] rfl ⟨rfl, rfl, trivial⟩ (by decide) ?_
      repeat (refine need_intro (by first | exact fun h => h | exact nt | exact an2 | rfl | (simp; done) | fail) ?_)
      refine fin ?_
      show (bif (bif cpuS c d then devS s t l k else false) then _ else false) = _
      rw [cond_and, cond_and]
    · replace g2 : (bif cpuS c d then devS s t l k else false) = false := g2
      repeat (refine need_intro (by first | exact g2 | exact fun h => h | exact nt | exact an2 | rfl | (simp; done) | fail) ?_)
      refine fin ?_
      rw [cond_and] at g2
      rw [g2]; rfl
  · replace g : cpuS c d = false := g
    repeat (refine need_intro (by first | exact g | exact fun h => h | exact nt | exact an2 | rfl | (simp; done) | fail) ?_)
    refine fin ?_
    rw [g]; rfl
set_option maxRecDepth 100000 in
theorem rule3_spec (z : Sc) : Does TB 48 [.s (.ptr 11 0), .s (.ptr 12 0), .s (.ptr 8 0)] z.hb (fun v h' => v = .s (.bool z.rule3) ∧ h' = z.hb) := by
  refine fnX_does TB Tryz.func48 rfl (by decide) (fun O on hO => ?_)
  refine draw_held on rfl (fun _ _ h => h) ?_
  repeat (refine need_intro (by first | exact fun h => h | exact nt | exact an2 | rfl | (simp; done) | fail) ?_)
  refine ifB_intro (fun g => ?_) (fun g => ?_)
  · refine Does.ungd (b := [_, _]) ⟨⟨g, rfl⟩, ⟨g, rfl⟩, trivial⟩ ?_
    replace g : ((z.r.kind == 5) == (z.s.off != 0) && !!(z.r.kind == 5)) = true := g
    refine Does.atc (wsame_spec z.d z.c z.t z.s z.k z.l z.c3 z.c4 z.c5 z.c0 z.c1 z.c2) [3, 4, 5, 0, 1, 2] rfl ⟨rfl, rfl, rfl, rfl, rfl, rfl, trivial⟩ (by decide) ?_
    repeat (refine need_intro (by first | exact fun h => h | exact nt | exact an2 | rfl | (simp; done) | fail) ?_)
    refine Ends.ro (H := z.hb) rfl ?_ rfl
    show (bif (z.r.kind == 5) == (z.s.off != 0) then (bif !(z.r.kind == 5) then true else z.sameS) else false) = z.rule3
    rw [cond_or, cond_and]
    rfl
  · replace g : ((z.r.kind == 5) == (z.s.off != 0) && !!(z.r.kind == 5)) = false := g
    repeat (refine need_intro (by first | exact g | exact nn2 g | exact fun h => h | exact nt | exact an2 | rfl | (simp; done) | fail) ?_)
    refine Ends.ro (H := z.hb) rfl ?_ rfl
    show (bif (z.r.kind == 5) == (z.s.off != 0) then true else false) = z.rule3
    unfold Sc.rule3
    revert g
    cases ((z.r.kind == 5) == (z.s.off != 0)) <;> cases (z.r.kind == 5) <;> intro g <;> first | rfl | cases g
set_option maxRecDepth 100000 in
theorem rule7_spec (z : Sc) : Does TB 55 [.s (.ptr 9 0), .s (.ptr 10 0)] z.hb (fun v h' => v = .s (.bool z.rule7) ∧ h' = z.hb) := by
  refine fnX_does TB Tryz.func55 rfl (by decide) (fun O on hO => ?_)
  refine draw_held on rfl (fun _ _ h => h) ?_
  repeat (refine need_intro (by first | exact fun h => h | exact nt | exact an2 | rfl | (simp; done) | fail) ?_)
  refine Ends.ro (H := z.hb) rfl ?_ rfl
  refine (cond_or _ _).trans ?_
  unfold Sc.rule7 pmpS
  congr 1
  show (((List.range 16).all fun j => bfun z.d.cfg j == bfun z.c.cfg j) && (((List.range 16).all fun j => wfun z.d.addr j == wfun z.c.addr j) && true)) = _
  rw [all_b, all_w, Bool.and_true]
set_option maxRecDepth 100000 in
theorem rule4_spec (z : Sc) : Does TB 50 [.s (.ptr 7 0)] z.h (fun v h' => v = .s (.bool z.rule4) ∧ h' = z.h) := by
  refine fnX_does TB Tryz.func50 rfl (by decide) (fun O on hO => ?_)
  have fin : ∀ {x : Bool} {b e : Blk}, x = z.rule4 → Anv.Ends 8 (fun v h' => v = .s (.bool z.rule4) ∧ h' = z.h) (.s (.bool x)) (z.h ++ [b, e]) := by
    rintro x b e rfl
    exact Ends.ro rfl rfl rfl
  refine draw_held on rfl (fun _ _ h => h) ?_
  refine ⟨?_, ?_⟩
  all_goals repeat (refine need_intro (by first | exact fun h => h | exact nt | exact an2 | rfl | (simp; done) | fail) ?_)
  all_goals (
    refine ifB_intro (fun h1 => ?_) (fun h1 => ?_)
    · refine draw_held on rfl (fun _ _ h => h) ?_
      repeat (refine need_intro (by first | exact fun h => h | exact nt | exact an2 | rfl | (simp; done) | fail) ?_)
      refine fin ?_
      unfold Sc.rule4
      rw [if_pos h1]
      simp only [cond_and, eqx, e0]
    · have h1' : ¬ (z.r.kind != 1) = true := by rw [h1]; decide
      repeat (refine need_intro (by first | exact fun h => h | exact nt | exact an2 | rfl | (simp; done) | fail) ?_)
      refine ifB_intro (fun h2 => ?_) (fun h2 => ?_)
      · refine fin ?_
        unfold Sc.rule4
        rw [if_neg h1', if_pos]
        rw [cond_or, Bool.or_eq_true, decide_eq_true_eq, decide_eq_true_eq] at h2
        exact h2
      · rw [cond_or, Bool.or_eq_false_iff, decide_eq_false_iff_not, decide_eq_false_iff_not] at h2
        have h2' : ¬ (z.r.rd < 0 ∨ 31 < z.r.rd) := by omega
        refine ifB_intro (fun h3 => ?_) (fun h3 => ?_)
        · repeat (refine need_intro (by first | omega | exact ⟨by omega, by omega⟩ | exact fun h => h | exact nt | exact an2 | rfl | (simp; done) | fail) ?_)
          refine draw_held on rfl (fun _ _ h => h) ?_
          repeat (refine need_intro (by first | exact fun h => h | exact nt | exact an2 | rfl | (simp; done) | fail) ?_)
          refine fin ?_
          unfold Sc.rule4
          rw [if_neg h1', if_neg h2']
          exact reg_yes _ _ _ _ h3
        · refine draw_held on rfl (fun _ _ h => h) ?_
          repeat (refine need_intro (by first | exact fun h => h | exact nt | exact an2 | rfl | (simp; done) | fail) ?_)
          refine fin ?_
          unfold Sc.rule4
          rw [if_neg h1', if_neg h2']
          exact reg_no _ _ _ _ h3)
set_option maxRecDepth 100000 in
theorem bytes_spec (z : Sc) (ok : z.Ok) (hnr : z.t.nr = z.s.nr) (J : List Blk) (g : FuncId) (b : Nat) (may : B64 → Bool) (hm : ∀ a : B64, Does TB g [.s (.int .u64 a.toNat), .s (.ptr b 0)] (z.h ++ J) (fun v h' => v = .s (.bool (may a)) ∧ h' = z.h ++ J)) :
    Does TB 52 [.s (.ptr 7 0), .s (.func (.func g) [] [.ptr b 0])] (z.h ++ J) (fun v h' => v = .s (.bool (allN z.s.nr fun i => z.k.ram i == z.l.ram i || may (ramAt i))) ∧ h' = z.h ++ J) := by
  refine fnX_does TB Tryz.func52 rfl (by decide) (fun O on hO => ?_)
  have hs := ok.nr
  refine loop_by (A := Nat) on (fun k => [(14, .s (.int .i64 (k : Int)))]) (fun _ => z.h ++ J) (fun k => k ≤ z.s.nr ∧ ∀ i, i < k → (z.k.ram i == z.l.ram i || may (ramAt i)) = true) (fun k => z.s.nr - k) 0 ⟨Nat.zero_le _, fun i hi => absurd hi (Nat.not_lt_zero i)⟩ ?_ ?_
  · refine ⟨?_, eqvH_refl _⟩
    repeat' (first | exact eqvT_nil | refine eqvT_junk ?_ | refine eqvT_same ?_ | refine eqvT_int ?_ ?_)
  intro i ⟨hi, hp⟩
  refine ifB_intro (fun h2 => ?_) (fun h2 => ?_)
  · have hi1 : i < z.s.nr := by have := of_decide_eq_true h2; omega
    repeat (refine need_intro (by first | omega | exact ⟨by omega, by omega⟩ | exact fun h => h | exact nt | exact an2 | rfl | (simp; done) | fail) ?_)
    have hne : (bfun z.k.ram (0 + (i : Int).toNat) != bfun z.l.ram (0 + (i : Int).toNat)) = (z.k.ram i != z.l.ram i) := by
      rw [Nat.zero_add, Int.toNat_natCast]
      exact bne_nat _ _
    have next : (z.k.ram i == z.l.ram i || may (ramAt i)) = true → i + 1 ≤ z.s.nr ∧ ∀ j, j < i + 1 → (z.k.ram j == z.l.ram j || may (ramAt j)) = true := by
      intro h
      refine ⟨hi1, fun j hj => ?_⟩
      rcases Nat.lt_succ_iff_lt_or_eq.1 hj with h' | h'
      · exact hp j h'
      · subst h'; exact h
    refine ifB_intro (fun h3 => ?_) (fun h3 => ?_)
    · refine need_intro h3 ?_
      refine Does.ungd (b := [.s (.int .u64 (ramAt i).toNat), .s (.ptr b 0)]) ⟨⟨h3, congrArg (fun z => EV.s (.int .u64 z)) (addk (a := 0x80000000#64) (k := i) (by omega))⟩, rfl, trivial⟩ ?_
      refine (hm (ramAt i)).mono ?_
      rintro _ _ ⟨rfl, rfl⟩
      repeat (refine need_intro (by first | exact fun h => h | exact nt | exact an2 | rfl | (simp; done) | fail) ?_)
      refine ifB_intro (fun h4 => ?_) (fun h4 => ?_)
      · replace h4 := (cond_and _ _).symm.trans h4
        rw [Bool.and_eq_true, Bool.not_eq_true'] at h4
        refine Ends.same ⟨?_, rfl⟩ (Nat.le_refl _)
        show EV.s (.bool false) = _
        rw [hne, bne_iff_ne] at h3
        rw [allN_not hi1]
        rw [h4.2, beq_eq_false_iff_ne.2 h3]; rfl
      · replace h4 := (cond_and _ _).symm.trans h4
        rw [h3, Bool.true_and, Bool.not_eq_false'] at h4
        refine ⟨i + 1, next (by rw [h4, Bool.or_true]), by simp only; omega, ?_⟩
        refine ⟨?_, eqvH_refl _⟩
        repeat' (first | exact eqvT_nil | refine eqvT_junk ?_ | refine eqvT_same ?_ | refine eqvT_int ?_ ?_)
        rw [i64_in (by omega) (by omega)]; omega
    · repeat (refine need_intro (by first | exact h3 | exact fun h => h | exact nt | exact an2 | rfl | (simp; done) | fail) ?_)
      refine ifB_intro (fun h => absurd (h.symm.trans h3) (by decide)) (fun _ => ?_)
      repeat (refine need_intro (by first | exact h3 | exact fun h => h | exact nt | exact an2 | rfl | (simp; done) | fail) ?_)
      rw [hne, bne_eq_false_iff_eq] at h3
      refine ⟨i + 1, next (by rw [beq_iff_eq.2 h3, Bool.true_or]), by simp only; omega, ?_⟩
      refine ⟨?_, eqvH_refl _⟩
      repeat' (first | exact eqvT_nil | refine eqvT_junk ?_ | refine eqvT_same ?_ | refine eqvT_int ?_ ?_)
      rw [i64_in (by omega) (by omega)]; omega
  · have hi1 : i = z.s.nr := by have := of_decide_eq_false h2; omega
    subst hi1
    refine Ends.same ⟨?_, rfl⟩ (Nat.le_refl _)
    show EV.s (.bool true) = _
    rw [allN_of hp]
set_option maxRecDepth 100000 in
theorem rule5_may (z : Sc) (a : B64) : Does TB 53 [.s (.int .u64 a.toNat), .s (.ptr 9 0)] z.hb (fun v h' => v = .s (.bool (grantI z.c.cfg z.c.addr a 2)) ∧ h' = z.hb) := by
  refine fnX_does TB Tryz.func53 rfl (by decide) (fun O on hO => ?_)
  refine (granted_spec z.c.cfg z.c.addr a 2 _).mono ?_
  rintro _ _ ⟨rfl, rfl⟩
  exact Ends.ro (H := z.hb) (J := []) rfl rfl rfl
set_option maxRecDepth 100000 in
theorem rule5_spec (z : Sc) (ok : z.Ok) (hnr : z.t.nr = z.s.nr) : Does TB 51 [.s (.ptr 9 0), .s (.ptr 8 0)] z.hb (fun v h' => v = .s (.bool z.rule5) ∧ h' = z.hb) := by
  refine fnX_does TB Tryz.func51 rfl (by decide) (fun O on hO => ?_)
  repeat (refine need_intro (by first | exact fun h => h | exact nt | exact an2 | rfl | (simp; done) | fail) ?_)
  have fin : ∀ {x : Bool}, x = z.rule5 → Anv.Ends 14 (fun v h' => v = .s (.bool z.rule5) ∧ h' = z.hb) (.s (.bool x)) z.hb := by
    rintro x rfl
    exact Ends.ro (H := z.hb) (J := []) rfl rfl rfl
  refine ifB_intro (fun g => ?_) (fun g => ?_)
  · refine Does.ungd (b := [.s (.ptr 7 0), .s (.func (.func 53) [] [.ptr 9 0])]) ⟨⟨g, rfl⟩, ⟨g, rfl⟩, trivial⟩ ?_
    replace g : (!(z.c.mode != 0)) = true := g
    refine (bytes_spec z ok hnr boxes _ 9 (fun a => grantI z.c.cfg z.c.addr a 2) (rule5_may z)).mono ?_
    rintro _ _ ⟨rfl, rfl⟩
    repeat (refine need_intro (by first | exact g | exact fun h => h | exact nt | exact an2 | rfl | (simp; done) | fail) ?_)
    refine fin ?_
    show (bif z.c.mode != 0 then true else _) = z.rule5
    rw [cond_or]
    rfl
  · replace g : (!(z.c.mode != 0)) = false := g
    have g' : (z.c.mode != 0) = true := by simpa using g
    repeat (refine need_intro (by first | exact g | exact g' | exact fun h => h | exact nt | exact an2 | rfl | (simp; done) | fail) ?_)
    refine fin ?_
    unfold Sc.rule5
    rw [g']
    rfl
end Go.Proofs.YtghcdkpgcanpgaaGreat

/- Watching: the rules 6, 8, 9, 10, as the program asks them. No condition but the lists' lengths. -/
namespace Go.Anv
open Go
def Sc.at_ (z : Sc) : Nat := (z.r.addr - 0x80000000#64).toNat
def byteAt (v : B64) (k : Nat) : B8 := (v >>> (8 * k)).setWidth 8
def Sc.rule6 (z : Sc) : Bool :=
  (allN z.s.nr fun i => z.k.ram i == z.l.ram i || (z.r.stores && z.r.within (ramAt i))) && (!z.r.stores || (!z.r.inRam z.t.nr || allN z.r.size.toNat fun k => z.k.ram (z.at_ + k) == byteAt z.r.data k))
def badLock (z : Sc) (i : Nat) : Bool := (lockA z.c.cfg i && z.d.cfg i != z.c.cfg i) || ((lockA z.c.cfg i || lockT z.c.cfg i) && z.d.addr i != z.c.addr i)
def Sc.rule8 (z : Sc) : Bool := allN 16 fun i => !badLock z i
def Sc.rule9 (z : Sc) : Bool :=
  if z.c.mode != 0 then true else
  if z.d.mtvec != z.c.mtvec || z.d.mie != z.c.mie || z.d.mcounteren != z.c.mcounteren || z.d.mcountinhibit != z.c.mcountinhibit || z.d.menvcfg != z.c.menvcfg || z.d.mscratch != z.c.mscratch then false else
  z.r.trapped || (z.d.mstatus == z.c.mstatus && z.d.mepc == z.c.mepc && z.d.mcause == z.c.mcause && z.d.mtval == z.c.mtval)
def noRes (c : CpuV) : Bool := c.rvalid == false && (c.raddr == 0#64 && c.rsize == 0)
def Sc.rule10 (z : Sc) : Bool :=
  if z.r.trapped then
    (z.d.mepc == z.c.pc && z.d.mcause == z.r.cause && z.d.mtval == z.r.tval && z.d.mstatus == entryOf z.c.mstatus z.c.mode) && z.d.mode == 3 && !z.d.waiting && noRes z.d && z.d.pc == handlerOf z.c.mtvec z.r.cause
  else true
theorem byte_of (v : B64) (k : Nat) (hk : k < 8) : IntKind.u8.wrap ((v.toNat : Int).fdiv (2 ^ min (IntKind.i64.wrap (8 * (k : Int))).toNat IntKind.u64.bits)) = ((byteAt v k).toNat : Int) := by
  rw [i64_in (by omega) (by omega), show min (8 * (k : Int)).toNat IntKind.u64.bits = 8 * k from (by
    have : (8 * (k : Int)).toNat = 8 * k := by omega
    rw [this]
    exact Nat.min_eq_left (by show 8 * k ≤ 64; omega)), fdiv_pow, wrap_u8]
  unfold byteAt
  rw [BitVec.toNat_setWidth, BitVec.toNat_ofInt]
  omega
end Go.Anv
namespace Go.Proofs.YtghcdkpgcanpgaaGreat
open Go Go.Anv
def box8 : List Blk := [.cells true [.one (.ptr 7 0)] 0]
set_option maxRecDepth 100000 in
theorem rule6_may (z : Sc) (a : B64) : Does TB 93 [.s (.int .u64 a.toNat), .s (.ptr 8 0)] (z.h ++ box8) (fun v h' => v = .s (.bool (z.r.stores && z.r.within a)) ∧ h' = z.h ++ box8) := by
  refine fnX_does TB Tryz.func93 rfl (by decide) (fun O on hO => ?_)
  refine Does.atc (stores_spec z) [0, 1, 2, 3, 4, 5, 6, 7] rfl ⟨rfl, rfl, rfl, rfl, rfl, rfl, rfl, rfl, trivial⟩ (by decide) ?_
  repeat (refine need_intro (by first | exact fun h => h | exact nt | exact an2 | rfl | (simp; done) | fail) ?_)
  refine ifB_intro (fun g => ?_) (fun g => ?_)
  · refine Does.ungd (b := [.s (.ptr 7 0), .s (.int .u64 a.toNat)]) ⟨⟨g, rfl⟩, ⟨g, rfl⟩, trivial⟩ ?_
    refine Does.atc (within_spec z a) [0, 1, 2, 3, 4, 5, 6, 7] rfl ⟨rfl, rfl, rfl, rfl, rfl, rfl, rfl, rfl, trivial⟩ (by decide) ?_
    repeat (refine need_intro (by first | exact fun h => h | exact nt | exact an2 | rfl | (simp; done) | fail) ?_)
    exact Ends.ro (H := z.h ++ box8) (J := []) rfl (cond_and _ _) rfl
  · repeat (refine need_intro (by first | exact g | exact fun h => h | exact nt | exact an2 | rfl | (simp; done) | fail) ?_)
    refine Ends.ro (H := z.h ++ box8) (J := []) rfl ?_ rfl
    replace g : z.r.stores = false := g
    show false = (z.r.stores && _)
    rw [g]
    rfl
set_option maxRecDepth 100000 in
theorem rule6_spec (z : Sc) (ok : z.Ok) (hnr : z.t.nr = z.s.nr) : Does TB 54 [.s (.ptr 7 0)] z.h (fun v h' => v = .s (.bool z.rule6) ∧ h' = z.h) := by
  refine fnX_does TB Tryz.func54 rfl (by decide) (fun O on hO => ?_)
  have fin : ∀ {x : Bool}, x = z.rule6 → Anv.Ends 8 (fun v h' => v = .s (.bool z.rule6) ∧ h' = z.h) (.s (.bool x)) (z.h ++ box8) := by
    rintro x rfl
    exact Ends.ro rfl rfl rfl
  refine (bytes_spec z ok hnr box8 93 8 (fun a => z.r.stores && z.r.within a) (rule6_may z)).mono ?_
  rintro _ _ ⟨rfl, rfl⟩
  refine ifB_intro (fun h1 => ?_) (fun h1 => ?_)
  · refine fin ?_
    rw [Bool.not_eq_true'] at h1
    unfold Sc.rule6
    rw [h1]; rfl
  rw [Bool.not_eq_false'] at h1
  refine Does.atc (stores_spec z) [0, 1, 2, 3, 4, 5, 6, 7] rfl ⟨rfl, rfl, rfl, rfl, rfl, rfl, rfl, rfl, trivial⟩ (by decide) ?_
  repeat (refine need_intro (by first | exact fun h => h | exact nt | exact an2 | rfl | (simp; done) | fail) ?_)
  refine ifB_intro (fun h2 => ?_) (fun h2 => ?_)
  · refine Does.ungd (b := [.s (.ptr 7 0)]) ⟨⟨h2, rfl⟩, trivial⟩ ?_
    replace h2 : z.r.stores = true := by simpa using (show (!(!z.r.stores)) = true from h2)
    refine Does.atc (inRam_spec z ok) [0, 1, 2, 3, 4, 5, 6, 7] rfl ⟨rfl, rfl, rfl, rfl, rfl, rfl, rfl, rfl, trivial⟩ (by decide) ?_
    repeat (refine need_intro (by first | exact fun h => h | exact nt | exact an2 | rfl | (simp; done) | fail) ?_)
    refine ifB_intro (fun h3 => ?_) (fun h3 => ?_)
    · replace h3 : (bif !z.r.stores then true else !z.r.inRam z.t.nr) = true := h3
      refine fin ?_
      unfold Sc.rule6
      rw [h1, h2]
      rw [h2] at h3
      replace h3 : (!z.r.inRam z.t.nr) = true := h3
      rw [h3]; rfl
    · replace h3 : (bif !z.r.stores then true else !z.r.inRam z.t.nr) = false := h3
      rw [h2] at h3
      replace h3 : (!z.r.inRam z.t.nr) = false := h3
      rw [Bool.not_eq_false'] at h3
      have hsz := ok.size
      have hpl : z.r.placed = true := by
        unfold RowV.inRam at h3
        rw [Bool.and_eq_true, Bool.and_eq_true] at h3
        exact h3.1.1
      have hs8 := (placed_size hpl).1
      have hat : z.at_ ≤ z.t.nr ∧ z.r.size ≤ ((z.t.nr - z.at_ : Nat) : Int) := by
        unfold RowV.inRam at h3
        rw [Bool.and_eq_true] at h3
        have h5 := Bool.and_eq_true_iff.1 h3.2
        exact ⟨of_decide_eq_true h5.1, of_decide_eq_true h5.2⟩
      have ea : IntKind.u64.wrap (((z.r.addr.toNat : Nat) : Int) - 2147483648) = (z.at_ : Int) := sub64 z.r.addr 0x80000000#64
      have hmr := ok.mr
      refine loop_by (A := Nat) on (fun k => [(28, .s (.int .i64 (k : Int)))]) (fun _ => z.h ++ box8) (fun k => (k : Int) ≤ z.r.size ∧ ∀ i, i < k → (z.k.ram (z.at_ + i) == byteAt z.r.data i) = true) (fun k => 8 - k) 0 ⟨by omega, fun i hi => absurd hi (Nat.not_lt_zero i)⟩ ?_ ?_
      · refine ⟨?_, eqvH_refl _⟩
        repeat' (first | exact eqvT_nil | refine eqvT_junk ?_ | refine eqvT_same ?_ | refine eqvT_int ?_ ?_)
      intro k ⟨hk, hp⟩
      refine ifB_intro (fun h4 => ?_) (fun h4 => ?_)
      · have hk1 : (k : Int) < z.r.size := of_decide_eq_true h4
        have ek : IntKind.u64.wrap (IntKind.u64.wrap (((z.r.addr.toNat : Nat) : Int) - 2147483648) + IntKind.u64.wrap (k : Int)) = ((z.at_ + k : Nat) : Int) := by
          rw [ea, wnat (by omega), show (z.at_ : Int) + (k : Int) = ((z.at_ + k : Nat) : Int) by omega, wnat (by omega)]
        have hkn : z.at_ + k < z.t.nr := by omega
        have h8 : IntKind.i64.wrap (8 * (k : Int)) = ((8 * k : Nat) : Int) := by rw [i64_in (by omega) (by omega)]; omega
        refine draw_held on rfl (fun _ _ h => h) ?_
        repeat (refine need_intro (by first | (rw [ek]; omega) | (rw [ek]; exact ⟨by omega, by omega⟩) | (rw [h8]; omega) | exact fun h => h | exact nt | exact an2 | exact an3 | rfl | (simp; done) | fail) ?_)
        have e1 : (bfun z.k.ram (0 + (IntKind.u64.wrap (IntKind.u64.wrap (((z.r.addr.toNat : Nat) : Int) - 2147483648) + IntKind.u64.wrap (k : Int))).toNat) != IntKind.u8.wrap ((((z.r.data.toNat : Nat) : Int)).fdiv (2 ^ min (IntKind.i64.wrap (8 * (k : Int))).toNat IntKind.u64.bits))) = !(z.k.ram (z.at_ + k) == byteAt z.r.data k) := by
          rw [ek, Nat.zero_add, Int.toNat_natCast, byte_of _ _ (by omega)]
          exact bne_nat _ _
        refine ifB_intro (fun h5 => ?_) (fun h5 => ?_)
        · refine fin ?_
          have h5 := e1.symm.trans h5
          rw [Bool.not_eq_true'] at h5
          unfold Sc.rule6
          rw [h1, h2, h3, allN_not (i := k) (by omega) h5]
          rfl
        · have h5 := e1.symm.trans h5
          rw [Bool.not_eq_false'] at h5
          refine ⟨k + 1, ⟨by omega, fun j hj => ?_⟩, by simp only; omega, ?_⟩
          · rcases Nat.lt_succ_iff_lt_or_eq.1 hj with h | h
            · exact hp j h
            · subst h; exact h5
          refine ⟨?_, eqvH_refl _⟩
          repeat' (first | exact eqvT_nil | refine eqvT_junk ?_ | refine eqvT_same ?_ | refine eqvT_int ?_ ?_)
          rw [i64_in (by omega) (by omega)]; omega
      · have hk1 : (k : Int) = z.r.size := by have := of_decide_eq_false h4; omega
        refine fin ?_
        unfold Sc.rule6
        rw [h1, h2, h3, show z.r.size.toNat = k by omega, allN_of hp]
        rfl
  · replace h2 : (!(!z.r.stores)) = false := h2
    have h2' : z.r.stores = false := by simpa using h2
    repeat (refine need_intro (by first | exact h2 | exact nt h2' | exact fun h => h | exact nt | exact an2 | exact an3 | rfl | (simp; done) | fail) ?_)
    refine ifB_intro (fun h => absurd (h.symm.trans h2) (by decide)) (fun _ => ?_)
    repeat (refine need_intro (by first | exact h2 | exact nt h2' | exact fun h => h | exact nt | exact an2 | exact an3 | rfl | (simp; done) | fail) ?_)
    refine fin ?_
    unfold Sc.rule6
    rw [h1, h2']
    rfl
set_option maxRecDepth 100000 in
theorem rule8_spec (z : Sc) : Does TB 56 [.s (.ptr 7 0)] z.h (fun v h' => v = .s (.bool z.rule8) ∧ h' = z.h) := by
  refine fnX_does TB Tryz.func56 rfl (by decide) (fun O on hO => ?_)
  have fin : ∀ {x : Bool} {b e : Blk}, x = z.rule8 → Anv.Ends 8 (fun v h' => v = .s (.bool z.rule8) ∧ h' = z.h) (.s (.bool x)) (z.h ++ [b, e]) := by
    rintro x b e rfl
    exact Ends.ro rfl rfl rfl
  refine draw_to on ?t8 ?_ ?_
  rotate_left 1
  · refine draw_held on rfl (fun _ _ h => h) ?_
    repeat' (first | refine need_intro (by first | exact fun h => h | exact nt | exact an2 | exact an3 | rfl | (simp; done) | fail) ?_ | refine And.intro ?_ ?_)
    · refine toK_id ?_
      rw [hO]; exact Nat.le_of_ble_eq_true rfl
    all_goals first
      | (refine toK_of [0, 1, 2, 3, 4, 5, 6, 7, 8, 9] (by decide) (by rw [hO]; exact ⟨rfl, rfl, rfl, rfl, rfl, rfl, rfl, rfl, trivial⟩) ?_ ?_; (repeat' (first | exact eqvT_nil | refine eqvT_same ?_)); exact ⟨⟨_, rfl, eqvB_refl _⟩, ⟨_, rfl, eqvB_refl _⟩, ⟨_, rfl, eqvB_refl _⟩, ⟨_, rfl, eqvB_refl _⟩, ⟨_, rfl, eqvB_refl _⟩, ⟨_, rfl, eqvB_refl _⟩, ⟨_, rfl, eqvB_refl _⟩, ⟨_, rfl, eqvB_refl _⟩, ⟨_, rfl, eqvB_refl _⟩, ⟨_, rfl, eqvB_refl _⟩, trivial⟩)
      | (refine toK_of [0, 1, 2, 3, 4, 5, 6, 7, 9, 8] (by decide) (by rw [hO]; exact ⟨rfl, rfl, rfl, rfl, rfl, rfl, rfl, rfl, trivial⟩) ?_ ?_; (repeat' (first | exact eqvT_nil | refine eqvT_same ?_)); exact ⟨⟨_, rfl, eqvB_refl _⟩, ⟨_, rfl, eqvB_refl _⟩, ⟨_, rfl, eqvB_refl _⟩, ⟨_, rfl, eqvB_refl _⟩, ⟨_, rfl, eqvB_refl _⟩, ⟨_, rfl, eqvB_refl _⟩, ⟨_, rfl, eqvB_refl _⟩, ⟨_, rfl, eqvB_refl _⟩, ⟨_, rfl, eqvB_refl _⟩, ⟨_, rfl, eqvB_refl _⟩, trivial⟩)
      | fail
  refine loop_by (A := Nat) on (fun k => [(20, .s (.int .i64 (k : Int)))]) (fun _ => z.h ++ [.cells true (pmpSeg z.c.cfg z.c.addr) 0, .cells true (pmpSeg z.d.cfg z.d.addr) 0]) (fun k => k ≤ 16 ∧ ∀ i, i < k → badLock z i = false) (fun k => 16 - k) 0 ⟨Nat.zero_le _, fun i hi => absurd hi (Nat.not_lt_zero i)⟩ ?_ ?_
  · refine ⟨?_, eqvH_refl _⟩
    repeat' (first | exact eqvT_nil | refine eqvT_junk ?_ | refine eqvT_same ?_ | refine eqvT_int ?_ ?_)
  intro i ⟨hi, hp⟩
  refine ifB_intro (fun h2 => ?_) (fun h2 => ?_)
  · have hi1 : i < 16 := by have := of_decide_eq_true h2; omega
    refine (plocked_spec z.c.cfg z.c.addr i hi1 _).mono ?_
    rintro _ _ ⟨rfl, rfl⟩
    refine draw_held on rfl (fun _ _ h => h) ?_
    repeat (refine need_intro (by first | omega | exact fun _ => (by omega) | exact fun _ => ⟨by omega, by omega⟩ | exact fun h => h | exact nt | exact an2 | exact an3 | rfl | (simp; done) | fail) ?_)
    have e1 : (bif (bif lockA z.c.cfg i then bfun z.d.cfg ((i : Nat) : Int).toNat != bfun z.c.cfg ((i : Nat) : Int).toNat else false) then true else bif (lockA z.c.cfg i || lockT z.c.cfg i) then wfun z.d.addr ((i : Nat) : Int).toNat != wfun z.c.addr ((i : Nat) : Int).toNat else false) = badLock z i := by
      rw [cond_or, cond_and, cond_and, Int.toNat_natCast]
      unfold badLock
      congr 2
      · exact bne_nat _ _
      · exact bne_nat _ _
    refine ifB_intro (fun h3 => ?_) (fun h3 => ?_)
    · refine fin ?_
      unfold Sc.rule8
      rw [allN_not hi1 (by rw [e1.symm.trans h3]; rfl)]
    · refine ⟨i + 1, ⟨hi1, fun j hj => ?_⟩, by simp only; omega, ?_⟩
      · rcases Nat.lt_succ_iff_lt_or_eq.1 hj with h | h
        · exact hp j h
        · subst h; exact e1.symm.trans h3
      refine ⟨?_, eqvH_refl _⟩
      repeat' (first | exact eqvT_nil | refine eqvT_junk ?_ | refine eqvT_same ?_ | refine eqvT_int ?_ ?_)
      rw [i64_in (by omega) (by omega)]; omega
  · have hi1 : i = 16 := by have := of_decide_eq_false h2; omega
    subst hi1
    refine fin ?_
    unfold Sc.rule8
    exact (allN_of fun i hi => by rw [hp i hi]; rfl).symm
set_option maxRecDepth 100000 in
theorem rule9_spec (z : Sc) : Does TB 57 [.s (.ptr 7 0)] z.h (fun v h' => v = .s (.bool z.rule9) ∧ h' = z.h) := by
  refine fnX_does TB Tryz.func57 rfl (by decide) (fun O on hO => ?_)
  have fin : ∀ {x : Bool} {b e : Blk}, x = z.rule9 → Anv.Ends 8 (fun v h' => v = .s (.bool z.rule9) ∧ h' = z.h) (.s (.bool x)) (z.h ++ [b, e]) := by
    rintro x b e rfl
    exact Ends.ro rfl rfl rfl
  refine draw_held on rfl (fun _ _ h => h) ?_
  refine ⟨?_, ?_⟩
  all_goals repeat (refine need_intro (by first | exact fun h => h | exact nt | exact an2 | rfl | (simp; done) | fail) ?_)
  all_goals (
    refine ifB_intro (fun h1 => ?_) (fun h1 => ?_)
    · refine fin ?_
      unfold Sc.rule9
      rw [if_pos h1]
    · have h1' : ¬ (z.c.mode != 0) = true := by rw [h1]; decide
      repeat (refine need_intro (by first | exact fun h => h | exact nt | exact an2 | rfl | (simp; done) | fail) ?_)
      refine ifB_intro (fun h2 => ?_) (fun h2 => ?_)
      · refine fin ?_
        simp only [cond_or, bne_nat] at h2
        unfold Sc.rule9
        rw [if_neg h1', if_pos h2]
      · simp only [cond_or, bne_nat] at h2
        refine Does.atc (trapped_spec z) [0, 1, 2, 3, 4, 5, 6, 7] rfl ⟨rfl, rfl, rfl, rfl, rfl, rfl, rfl, rfl, trivial⟩ (by decide) ?_
        repeat (refine need_intro (by first | exact fun h => h | exact nt | exact an2 | rfl | (simp; done) | fail) ?_)
        refine fin ?_
        unfold Sc.rule9
        rw [if_neg h1', if_neg (by rw [h2]; decide)]
        simp only [cond_or, cond_and, beq_nat])
set_option maxHeartbeats 4000000 in
set_option maxRecDepth 100000 in
theorem rule10_spec (z : Sc) : Does TB 58 [.s (.ptr 7 0)] z.h (fun v h' => v = .s (.bool z.rule10) ∧ h' = z.h) := by
  refine fnX_does TB Tryz.func58 rfl (by decide) (fun O on hO => ?_)
  refine Does.atc (trapped_spec z) [0, 1, 2, 3, 4, 5, 6, 7] rfl ⟨rfl, rfl, rfl, rfl, rfl, rfl, rfl, rfl, trivial⟩ (by decide) ?_
  refine ifB_intro (fun h1 => ?_) (fun h1 => ?_)
  · refine Ends.ro (H := z.h) (J := []) rfl ?_ rfl
    rw [Bool.not_eq_true'] at h1
    show true = z.rule10
    unfold Sc.rule10
    rw [h1]; rfl
  rw [Bool.not_eq_false'] at h1
  refine draw_to on ?t8 ?_ ?_
  rotate_left 1
  · refine draw_held on rfl (fun _ _ h => h) ?_
    repeat' (first | refine need_intro (by first | exact fun h => h | exact nt | exact an2 | exact an3 | rfl | (simp; done) | fail) ?_ | refine And.intro ?_ ?_)
    · refine toK_id ?_
      rw [hO]; exact Nat.le_of_ble_eq_true rfl
    all_goals first
      | (refine toK_of [0, 1, 2, 3, 4, 5, 6, 7, 8, 9, 10] (by decide) (by rw [hO]; exact ⟨rfl, rfl, rfl, rfl, rfl, rfl, rfl, rfl, trivial⟩) ?_ ?_; (repeat' (first | exact eqvT_nil | refine eqvT_same ?_)); exact ⟨⟨_, rfl, eqvB_refl _⟩, ⟨_, rfl, eqvB_refl _⟩, ⟨_, rfl, eqvB_refl _⟩, ⟨_, rfl, eqvB_refl _⟩, ⟨_, rfl, eqvB_refl _⟩, ⟨_, rfl, eqvB_refl _⟩, ⟨_, rfl, eqvB_refl _⟩, ⟨_, rfl, eqvB_refl _⟩, ⟨_, rfl, eqvB_refl _⟩, ⟨_, rfl, eqvB_refl _⟩, ⟨_, rfl, eqvB_refl _⟩, trivial⟩)
      | (refine toK_of [0, 1, 2, 3, 4, 5, 6, 7, 8, 10, 9] (by decide) (by rw [hO]; exact ⟨rfl, rfl, rfl, rfl, rfl, rfl, rfl, rfl, trivial⟩) ?_ ?_; (repeat' (first | exact eqvT_nil | refine eqvT_same ?_)); exact ⟨⟨_, rfl, eqvB_refl _⟩, ⟨_, rfl, eqvB_refl _⟩, ⟨_, rfl, eqvB_refl _⟩, ⟨_, rfl, eqvB_refl _⟩, ⟨_, rfl, eqvB_refl _⟩, ⟨_, rfl, eqvB_refl _⟩, ⟨_, rfl, eqvB_refl _⟩, ⟨_, rfl, eqvB_refl _⟩, ⟨_, rfl, eqvB_refl _⟩, ⟨_, rfl, eqvB_refl _⟩, ⟨_, rfl, eqvB_refl _⟩, trivial⟩)
      | (refine toK_of [0, 1, 2, 3, 4, 5, 6, 7, 9, 8, 10] (by decide) (by rw [hO]; exact ⟨rfl, rfl, rfl, rfl, rfl, rfl, rfl, rfl, trivial⟩) ?_ ?_; (repeat' (first | exact eqvT_nil | refine eqvT_same ?_)); exact ⟨⟨_, rfl, eqvB_refl _⟩, ⟨_, rfl, eqvB_refl _⟩, ⟨_, rfl, eqvB_refl _⟩, ⟨_, rfl, eqvB_refl _⟩, ⟨_, rfl, eqvB_refl _⟩, ⟨_, rfl, eqvB_refl _⟩, ⟨_, rfl, eqvB_refl _⟩, ⟨_, rfl, eqvB_refl _⟩, ⟨_, rfl, eqvB_refl _⟩, ⟨_, rfl, eqvB_refl _⟩, ⟨_, rfl, eqvB_refl _⟩, trivial⟩)
      | (refine toK_of [0, 1, 2, 3, 4, 5, 6, 7, 9, 10, 8] (by decide) (by rw [hO]; exact ⟨rfl, rfl, rfl, rfl, rfl, rfl, rfl, rfl, trivial⟩) ?_ ?_; (repeat' (first | exact eqvT_nil | refine eqvT_same ?_)); exact ⟨⟨_, rfl, eqvB_refl _⟩, ⟨_, rfl, eqvB_refl _⟩, ⟨_, rfl, eqvB_refl _⟩, ⟨_, rfl, eqvB_refl _⟩, ⟨_, rfl, eqvB_refl _⟩, ⟨_, rfl, eqvB_refl _⟩, ⟨_, rfl, eqvB_refl _⟩, ⟨_, rfl, eqvB_refl _⟩, ⟨_, rfl, eqvB_refl _⟩, ⟨_, rfl, eqvB_refl _⟩, ⟨_, rfl, eqvB_refl _⟩, trivial⟩)
      | (refine toK_of [0, 1, 2, 3, 4, 5, 6, 7, 10, 8, 9] (by decide) (by rw [hO]; exact ⟨rfl, rfl, rfl, rfl, rfl, rfl, rfl, rfl, trivial⟩) ?_ ?_; (repeat' (first | exact eqvT_nil | refine eqvT_same ?_)); exact ⟨⟨_, rfl, eqvB_refl _⟩, ⟨_, rfl, eqvB_refl _⟩, ⟨_, rfl, eqvB_refl _⟩, ⟨_, rfl, eqvB_refl _⟩, ⟨_, rfl, eqvB_refl _⟩, ⟨_, rfl, eqvB_refl _⟩, ⟨_, rfl, eqvB_refl _⟩, ⟨_, rfl, eqvB_refl _⟩, ⟨_, rfl, eqvB_refl _⟩, ⟨_, rfl, eqvB_refl _⟩, ⟨_, rfl, eqvB_refl _⟩, trivial⟩)
      | (refine toK_of [0, 1, 2, 3, 4, 5, 6, 7, 10, 9, 8] (by decide) (by rw [hO]; exact ⟨rfl, rfl, rfl, rfl, rfl, rfl, rfl, rfl, trivial⟩) ?_ ?_; (repeat' (first | exact eqvT_nil | refine eqvT_same ?_)); exact ⟨⟨_, rfl, eqvB_refl _⟩, ⟨_, rfl, eqvB_refl _⟩, ⟨_, rfl, eqvB_refl _⟩, ⟨_, rfl, eqvB_refl _⟩, ⟨_, rfl, eqvB_refl _⟩, ⟨_, rfl, eqvB_refl _⟩, ⟨_, rfl, eqvB_refl _⟩, ⟨_, rfl, eqvB_refl _⟩, ⟨_, rfl, eqvB_refl _⟩, ⟨_, rfl, eqvB_refl _⟩, ⟨_, rfl, eqvB_refl _⟩, trivial⟩)
      | fail
  have fin : ∀ {x : Bool} {b e f : Blk}, x = z.rule10 → Anv.Ends 8 (fun v h' => v = .s (.bool z.rule10) ∧ h' = z.h) (.s (.bool x)) (z.h ++ [b, e, f]) := by
    rintro x b e f rfl
    exact Ends.ro rfl rfl rfl
  refine draw_held on rfl (fun _ _ h => h) ?_
  repeat (refine need_intro (by first | exact fun h => h | exact nt | exact an2 | exact an3 | rfl | (simp; done) | fail) ?_)
  have eG : (bif (bif ((z.d.mepc.toNat : Nat) : Int) == ((z.c.pc.toNat : Nat) : Int) then ((z.d.mcause.toNat : Nat) : Int) == ((z.r.cause.toNat : Nat) : Int) else false) then ((z.d.mtval.toNat : Nat) : Int) == ((z.r.tval.toNat : Nat) : Int) else false) = (z.d.mepc == z.c.pc && z.d.mcause == z.r.cause && z.d.mtval == z.r.tval) := by
    simp only [cond_and, beq_nat]
  refine ifB_intro (fun g1 => ?_) (fun g1 => ?_)
  · refine Does.ungd (b := [.s (.int .u64 z.c.mstatus.toNat), .s (.int .i64 z.c.mode)]) ⟨⟨g1, rfl⟩, ⟨g1, rfl⟩, trivial⟩ ?_
    refine (entry_spec z.c.mstatus z.c.mode _).mono ?_
    rintro _ _ ⟨rfl, rfl⟩
    repeat (refine need_intro (by first | exact fun h => h | exact nt | exact an2 | exact an3 | rfl | (simp; done) | fail) ?_)
    replace g1 := eG.symm.trans g1
    refine draw_held on rfl (fun _ _ h => h) ?_
    repeat (refine need_intro (by first | exact fun h => h | exact nt | exact an2 | exact an3 | rfl | (simp; done) | fail) ?_)
    refine ifB_intro (fun g2 => ?_) (fun g2 => ?_)
    · repeat (refine need_intro (by first | exact g2 | exact fun h => h | exact nt | exact an2 | exact an3 | rfl | (simp; done) | fail) ?_)
      have eR : (z.d.rvalid == false && ((((z.d.raddr.toNat : Nat) : Int) == 0) && ((z.d.rsize == 0) && true))) = noRes z.d := by
        unfold noRes
        rw [Bool.and_true, e0]
      refine ifB_intro (fun g3 => ?_) (fun g3 => ?_)
      · refine Does.ungd (b := [.s (.int .u64 z.c.mtvec.toNat), .s (.int .u64 z.r.cause.toNat)]) ⟨⟨g3, rfl⟩, ⟨g3, rfl⟩, trivial⟩ ?_
        refine (handler_spec z.c.mtvec z.r.cause _).mono ?_
        rintro _ _ ⟨rfl, rfl⟩
        repeat (refine need_intro (by first | exact g3 | exact fun h => h | exact nt | exact an2 | exact an3 | rfl | (simp; done) | fail) ?_)
        refine fin ?_
        unfold Sc.rule10
        rw [if_pos h1]
        simp only [cond_and, beq_nat, eR]
      · repeat (refine need_intro (by first | exact g3 | exact fun h => h | exact nt | exact an2 | exact an3 | rfl | (simp; done) | fail) ?_)
        refine ifB_intro (fun h => absurd (h.symm.trans g3) (by decide)) (fun _ => ?_)
        repeat (refine need_intro (by first | exact g3 | exact fun h => h | exact nt | exact an2 | exact an3 | rfl | (simp; done) | fail) ?_)
        refine fin ?_
        have g3' := g3
        simp only [cond_and, beq_nat, eR] at g3'
        unfold Sc.rule10
        rw [if_pos h1, g3']
        rfl
    · repeat (refine need_intro (by first | exact g2 | exact fun h => h | exact nt | exact an2 | exact an3 | rfl | (simp; done) | fail) ?_)
      refine ifB_intro (fun h => absurd (h.symm.trans g2) (by decide)) (fun _ => ?_)
      repeat (refine need_intro (by first | exact g2 | exact fun h => h | exact nt | exact an2 | exact an3 | rfl | (simp; done) | fail) ?_)
      have g2' := g2
      simp only [cond_and, beq_nat] at g2'
      refine fin ?_
      unfold Sc.rule10
      rw [if_pos h1, g2']
      rfl
  · repeat (refine need_intro (by first | exact g1 | exact fun h => h | exact nt | exact an2 | exact an3 | rfl | (simp; done) | fail) ?_)
    refine ifB_intro (fun h => absurd (h.symm.trans g1) (by decide)) (fun _ => ?_)
    repeat (refine need_intro (by first | exact g1 | exact fun h => h | exact nt | exact an2 | exact an3 | rfl | (simp; done) | fail) ?_)
    refine draw_held on rfl (fun _ _ h => h) ?_
    repeat (refine need_intro (by first | exact g1 | exact fun h => h | exact nt | exact an2 | exact an3 | rfl | (simp; done) | fail) ?_)
    refine fin ?_
    unfold Sc.rule10
    rw [if_pos h1, eG.symm.trans g1]
    rfl
end Go.Proofs.YtghcdkpgcanpgaaGreat

/- Watching: the rules 11 to 16 and 18, as the program asks them. No condition but the lists' lengths. -/
namespace Go.Anv
open Go
def Sc.rule11 (z : Sc) : Bool := if z.r.kind != 4 then true else z.c.waiting && (mipOf z.t &&& z.c.mie == 0#64) && cpuS { z.d with mcycle := z.c.mcycle } z.c
def Sc.rule12 (z : Sc) : Bool := if z.r.counts || z.r.kind == 5 then true else z.d.mcycle == z.c.mcycle + (1#64 - (z.c.mcountinhibit &&& 1#64))
def Sc.rule13 (z : Sc) : Bool := if z.r.counts then true else if z.r.kind == 1 && z.c.mcountinhibit &&& 4#64 == 0#64 then z.d.minstret == z.c.minstret + 1#64 else z.d.minstret == z.c.minstret
def Sc.rule14 (z : Sc) : Bool := if z.r.storedAt 0x200bff8#64 8 || z.r.kind == 5 then true else if z.tick then z.t.now == z.s.now + 1#64 else z.t.now == z.s.now
def Sc.rule15 (z : Sc) : Bool := (z.r.storedAt 0x2004000#64 8 || z.t.cmp == z.s.cmp) && (z.r.storedAt 0x2000000#64 4 || z.t.msip == z.s.msip)
def Sc.rule16 (z : Sc) : Bool := z.r.kind == 5 || (z.t.ext == z.ext && z.t.soft == z.soft)
def isMret (r : RowV) : Bool := r.kind == 1 && r.raw == 807403635#32
def Sc.rule18 (z : Sc) : Bool := if z.d.mode == z.c.mode then true else if z.c.mode == 0 then z.r.trapped else isMret z.r
end Go.Anv
namespace Go.Proofs.YtghcdkpgcanpgaaGreat
open Go Go.Anv
theorem hbfin (z : Sc) {y : Bool} : ∀ {x : Bool}, x = y → Anv.Ends 14 (fun v h' => v = .s (.bool y) ∧ h' = z.hb) (.s (.bool x)) z.hb := by
  rintro x rfl
  exact Ends.ro (H := z.hb) (J := []) rfl rfl rfl
set_option maxRecDepth 100000 in
theorem rule11_spec (z : Sc) : Does TB 59 [.s (.ptr 11 0), .s (.ptr 10 0), .s (.ptr 9 0), .s (.ptr 13 0)] z.hb (fun v h' => v = .s (.bool z.rule11) ∧ h' = z.hb) := by
  refine fnX_does TB Tryz.func59 rfl (by decide) (fun O on hO => ?_)
  refine ifB_intro (fun h1 => ?_) (fun h1 => ?_)
  · refine hbfin z ?_
    unfold Sc.rule11
    rw [if_pos h1]
  have h1' : ¬ (z.r.kind != 4) = true := by rw [h1]; decide
  have fin : ∀ {x : Bool} {b : Blk}, x = z.rule11 → Anv.Ends 14 (fun v h' => v = .s (.bool z.rule11) ∧ h' = z.hb) (.s (.bool x)) (z.hb ++ [b]) := by
    rintro x b rfl
    exact Ends.ro rfl rfl rfl
  repeat (refine need_intro (by first | exact fun h => h | exact nt | exact an2 | exact an3 | rfl | (simp; done) | fail) ?_)
  refine draw_held on rfl (fun _ _ h => h) ?_
  repeat (refine need_intro (by first | exact fun h => h | exact nt | exact an2 | exact an3 | rfl | (simp; done) | fail) ?_)
  refine ifB_intro (fun h2 => ?_) (fun h2 => ?_)
  · refine Does.ungd (b := [_]) ⟨⟨h2, rfl⟩, trivial⟩ ?_
    refine Does.atc (wmip_spec z.t z.k z.c3 z.c4 z.c5) [3, 4, 5] rfl ⟨rfl, rfl, rfl, trivial⟩ (by decide) ?_
    repeat (refine need_intro (by first | exact h2 | exact fun h => h | exact nt | exact an2 | exact an3 | rfl | (simp; done) | fail) ?_)
    refine fin ?_
    unfold Sc.rule11
    rw [if_neg h1']
    show (bif (bif z.c.waiting then bitX .and .u64 (((mipOf z.t).toNat : Nat) : Int) ((z.c.mie.toNat : Nat) : Int) == 0 else false) then cpuS { z.d with mcycle := z.c.mcycle } z.c else false) = _
    rw [cond_and, cond_and, and_u64, ofInt_toNat, ofInt_toNat, e0]
  · repeat (first | refine need_intro (by first | exact h2 | exact nt h2 | exact nn3 h2 | exact fun h => h | exact nt | exact an2 | exact an3 | rfl | (simp; done) | fail) ?_ | refine ifB_intro (fun h => absurd (h.symm.trans h2) (by decide)) (fun _ => ?_))
    refine fin ?_
    unfold Sc.rule11
    rw [if_neg h1', h2]
    rfl
set_option maxRecDepth 100000 in
theorem rule12_spec (z : Sc) : Does TB 61 [.s (.ptr 8 0), .s (.ptr 11 0), .s (.ptr 10 0), .s (.ptr 9 0)] z.hb (fun v h' => v = .s (.bool z.rule12) ∧ h' = z.hb) := by
  refine fnX_does TB Tryz.func61 rfl (by decide) (fun O on hO => ?_)
  refine Does.atc (counts_spec z) [0, 1, 2, 3, 4, 5, 6, 7] rfl ⟨rfl, rfl, rfl, rfl, rfl, rfl, rfl, rfl, trivial⟩ (by decide) ?_
  repeat (refine need_intro (by first | exact fun h => h | exact nt | exact an2 | exact an3 | rfl | (simp; done) | fail) ?_)
  refine ifB_intro (fun h1 => ?_) (fun h1 => ?_)
  · refine hbfin z ?_
    unfold Sc.rule12
    rw [if_pos ((cond_or _ _).symm.trans h1)]
  have h1' : ¬ (z.r.counts || z.r.kind == 5) = true := by rw [← cond_or]; exact Bool.eq_false_iff.1 h1
  refine draw_held on rfl (fun _ _ h => h) ?_
  repeat (refine need_intro (by first | exact fun h => h | exact nt | exact an2 | exact an3 | rfl | (simp; done) | fail) ?_)
  refine hbfin z ?_
  unfold Sc.rule12
  rw [if_neg h1']
  have e1 : IntKind.u64.wrap (1 - bitX .and .u64 (z.c.mcountinhibit.toNat : Int) 1) = ((1#64 - (z.c.mcountinhibit &&& 1#64)).toNat : Int) := by
    rw [and_u64, ofInt_toNat]
    exact sub64 1#64 _
  rw [e1, add64]
  exact beq_nat _ _
set_option maxRecDepth 100000 in
theorem rule13_spec (z : Sc) : Does TB 63 [.s (.ptr 8 0), .s (.ptr 11 0), .s (.ptr 9 0), .s (.ptr 10 0)] z.hb (fun v h' => v = .s (.bool z.rule13) ∧ h' = z.hb) := by
  refine fnX_does TB Tryz.func63 rfl (by decide) (fun O on hO => ?_)
  refine Does.atc (counts_spec z) [0, 1, 2, 3, 4, 5, 6, 7] rfl ⟨rfl, rfl, rfl, rfl, rfl, rfl, rfl, rfl, trivial⟩ (by decide) ?_
  refine ifB_intro (fun h1 => ?_) (fun h1 => ?_)
  · refine hbfin z ?_
    unfold Sc.rule13
    rw [if_pos h1]
  have h1' : ¬ z.r.counts = true := Bool.eq_false_iff.1 h1
  repeat (refine need_intro (by first | exact fun h => h | exact nt | exact an2 | exact an3 | rfl | (simp; done) | fail) ?_)
  have e2 : (bif z.r.kind == 1 then bitX .and .u64 (z.c.mcountinhibit.toNat : Int) 4 == 0 else false) = (z.r.kind == 1 && z.c.mcountinhibit &&& 4#64 == 0#64) := by
    rw [cond_and, and_u64, ofInt_toNat]
    congr 1
    exact beq_nat _ 0#64
  refine ifB_intro (fun h2 => ?_) (fun h2 => ?_)
  · replace h2 := e2.symm.trans h2
    refine draw_held on rfl (fun _ _ h => h) ?_
    repeat (refine need_intro (by first | exact fun h => h | exact nt | exact an2 | exact an3 | rfl | (simp; done) | fail) ?_)
    refine hbfin z ?_
    unfold Sc.rule13
    rw [if_neg h1', if_pos h2]
    refine Eq.trans ?_ (beq_nat z.d.minstret (z.c.minstret + 1#64))
    rw [← add64]
    rfl
  · replace h2 := e2.symm.trans h2
    refine draw_held on rfl (fun _ _ h => h) ?_
    repeat (refine need_intro (by first | exact fun h => h | exact nt | exact an2 | exact an3 | rfl | (simp; done) | fail) ?_)
    refine hbfin z ?_
    unfold Sc.rule13
    rw [if_neg h1', if_neg (by rw [h2]; decide)]
    exact beq_nat _ _
set_option maxRecDepth 100000 in
theorem rule14_spec (z : Sc) : Does TB 64 [.s (.ptr 8 0), .s (.ptr 11 0), .s (.ptr 13 0), .s (.ptr 12 0)] z.hb (fun v h' => v = .s (.bool z.rule14) ∧ h' = z.hb) := by
  refine fnX_does TB Tryz.func64 rfl (by decide) (fun O on hO => ?_)
  refine Does.atc (storedAt_spec z 0x200bff8#64 8 (by decide)) [0, 1, 2, 3, 4, 5, 6, 7] rfl ⟨rfl, rfl, rfl, rfl, rfl, rfl, rfl, rfl, trivial⟩ (by decide) ?_
  repeat (refine need_intro (by first | exact fun h => h | exact nt | exact an2 | exact an3 | rfl | (simp; done) | fail) ?_)
  refine ifB_intro (fun h1 => ?_) (fun h1 => ?_)
  · refine hbfin z ?_
    unfold Sc.rule14
    rw [if_pos ((cond_or _ _).symm.trans h1)]
  have h1' : ¬ (z.r.storedAt 0x200bff8#64 8 || z.r.kind == 5) = true := by rw [← cond_or]; exact Bool.eq_false_iff.1 h1
  refine ifB_intro (fun h2 => ?_) (fun h2 => ?_)
  · refine draw_held on rfl (fun _ _ h => h) ?_
    repeat (refine need_intro (by first | exact fun h => h | exact nt | exact an2 | exact an3 | rfl | (simp; done) | fail) ?_)
    refine hbfin z ?_
    unfold Sc.rule14
    rw [if_neg h1', if_pos h2]
    refine Eq.trans ?_ (beq_nat z.t.now (z.s.now + 1#64))
    rw [← add64]
    rfl
  · refine draw_held on rfl (fun _ _ h => h) ?_
    repeat (refine need_intro (by first | exact fun h => h | exact nt | exact an2 | exact an3 | rfl | (simp; done) | fail) ?_)
    refine hbfin z ?_
    unfold Sc.rule14
    rw [if_neg h1', if_neg (by rw [h2]; decide)]
    exact beq_nat _ _
set_option maxRecDepth 100000 in
theorem rule15_spec (z : Sc) : Does TB 66 [.s (.ptr 8 0), .s (.ptr 13 0), .s (.ptr 12 0)] z.hb (fun v h' => v = .s (.bool z.rule15) ∧ h' = z.hb) := by
  refine fnX_does TB Tryz.func66 rfl (by decide) (fun O on hO => ?_)
  refine draw_held on rfl (fun _ _ h => h) ?_
  refine Does.atc (storedAt_spec z 0x2004000#64 8 (by decide)) [0, 1, 2, 3, 4, 5, 6, 7] rfl ⟨rfl, rfl, rfl, rfl, rfl, rfl, rfl, rfl, trivial⟩ (by decide) ?_
  repeat (refine need_intro (by first | exact fun h => h | exact nt | exact an2 | exact an3 | rfl | (simp; done) | fail) ?_)
  refine draw_held on rfl (fun _ _ h => h) ?_
  repeat (refine need_intro (by first | exact fun h => h | exact nt | exact an2 | exact an3 | rfl | (simp; done) | fail) ?_)
  have e1 : (bif z.r.storedAt 0x2004000#64 8 then true else ((z.t.cmp.toNat : Nat) : Int) == ((z.s.cmp.toNat : Nat) : Int)) = (z.r.storedAt 0x2004000#64 8 || z.t.cmp == z.s.cmp) := by rw [cond_or, beq_nat]
  refine ifB_intro (fun g => ?_) (fun g => ?_)
  · refine Does.ungd (b := [.s (.ptr 7 0), .s (.int .u64 0x2000000), .s (.int .i64 4)]) ⟨⟨g, rfl⟩, rfl, rfl, trivial⟩ ?_
    refine Does.atc (storedAt_spec z 0x2000000#64 4 (by decide)) [0, 1, 2, 3, 4, 5, 6, 7] rfl ⟨rfl, rfl, rfl, rfl, rfl, rfl, rfl, rfl, trivial⟩ (by decide) ?_
    repeat (refine need_intro (by first | exact g | exact fun h => h | exact nt | exact an2 | exact an3 | rfl | (simp; done) | fail) ?_)
    refine hbfin z ?_
    unfold Sc.rule15
    rw [← e1, cond_and, cond_or, cond_or, beq_nat z.t.msip]
  · repeat (first | refine need_intro (by first | exact g | exact nt g | exact nn3 g | exact fun h => h | exact nt | exact an2 | exact an3 | rfl | (simp; done) | fail) ?_ | refine ifB_intro (fun h => absurd (h.symm.trans g) (by decide)) (fun _ => ?_))
    refine hbfin z ?_
    unfold Sc.rule15
    rw [← e1, g]
    rfl
set_option maxRecDepth 100000 in
theorem rule16_spec (z : Sc) : Does TB 67 [.s (.ptr 11 0), .s (.ptr 13 0), .s (.ptr 8 0)] z.hb (fun v h' => v = .s (.bool z.rule16) ∧ h' = z.hb) := by
  refine fnX_does TB Tryz.func67 rfl (by decide) (fun O on hO => ?_)
  refine draw_held on rfl (fun _ _ h => h) ?_
  repeat (refine need_intro (by first | exact fun h => h | exact nt | exact an2 | exact an3 | rfl | (simp; done) | fail) ?_)
  refine hbfin z ?_
  unfold Sc.rule16
  rw [← cond_and, ← cond_or]
set_option maxRecDepth 100000 in
theorem rule18_spec (z : Sc) : Does TB 69 [.s (.ptr 10 0), .s (.ptr 9 0), .s (.ptr 8 0), .s (.ptr 11 0)] z.hb (fun v h' => v = .s (.bool z.rule18) ∧ h' = z.hb) := by
  refine fnX_does TB Tryz.func69 rfl (by decide) (fun O on hO => ?_)
  refine draw_held on rfl (fun _ _ h => h) ?_
  repeat (refine need_intro (by first | exact fun h => h | exact nt | exact an2 | exact an3 | rfl | (simp; done) | fail) ?_)
  refine ifB_intro (fun h1 => ?_) (fun h1 => ?_)
  · refine hbfin z ?_
    unfold Sc.rule18
    rw [if_pos h1]
  have h1' : ¬ (z.d.mode == z.c.mode) = true := Bool.eq_false_iff.1 h1
  refine ifB_intro (fun h2 => ?_) (fun h2 => ?_)
  · refine Does.atc (trapped_spec z) [0, 1, 2, 3, 4, 5, 6, 7] rfl ⟨rfl, rfl, rfl, rfl, rfl, rfl, rfl, rfl, trivial⟩ (by decide) ?_
    refine hbfin z ?_
    unfold Sc.rule18
    rw [if_neg h1', if_pos h2]
  · repeat (refine need_intro (by first | exact fun h => h | exact nt | exact an2 | exact an3 | rfl | (simp; done) | fail) ?_)
    refine hbfin z ?_
    unfold Sc.rule18
    rw [if_neg h1', if_neg (Bool.eq_false_iff.1 h2), cond_and]
    unfold isMret
    congr 1
    exact beq_nat _ 807403635#32
end Go.Proofs.YtghcdkpgcanpgaaGreat

/- Watching: the rules 17, 19 and 20, as the program asks them. No condition but the lists' lengths. -/
namespace Go.Anv
open Go
def Sc.rule17 (z : Sc) : Bool :=
  if !(decide (z.s.no ≤ z.t.no) && eqB z.s.no z.k.out z.l.out) then false
  else if z.t.no - z.s.no = 0 then true
  else if z.t.no - z.s.no = 1 then z.r.stores && z.r.addr == 0x10000000#64 && z.r.size == 1 && (z.k.out z.s.no).setWidth 64 == z.r.data
  else false
def RowV.fits (r : RowV) : Bool := decide (r.mem ≥ 1) && decide (r.mem ≤ 3) && (r.size == 1 || r.size == 2 || r.size == 4 || r.size == 8)
def Sc.rule19 (z : Sc) : Bool :=
  if z.r.kind != 1 || z.r.mem == 0 then true
  else z.r.fits && decide (z.r.addr.toNat % z.r.size.toNat = 0) && checkI z.c.cfg z.c.addr z.c.eff z.r.addr z.r.size z.r.mem
def Sc.rule20 (z : Sc) : Bool :=
  if z.r.len == 0 then true
  else (z.r.len == 2 && checkI z.c.cfg z.c.addr z.c.mode z.r.pc 2 4) || (z.r.len == 4 && checkI z.c.cfg z.c.addr z.c.mode z.r.pc 2 4 && checkI z.c.cfg z.c.addr z.c.mode (z.r.pc + 2#64) 2 4)
theorem nn3 {a b : Bool} (g : (a && b) = false) (h : a = true) : b = false := by cases b <;> simp_all
theorem wide8 (q : B8) : IntKind.u64.wrap ((q.toNat : Nat) : Int) = ((q.setWidth 64).toNat : Int) := by
  have := q.isLt
  rw [wnat (by omega), BitVec.toNat_setWidth, Nat.mod_eq_of_lt (by omega)]
theorem rem_eq (a : B64) (n : Int) (h : 1 ≤ n ∧ n ≤ 8) : ((a.toNat : Int).tmod (IntKind.u64.wrap n) == 0) = decide (a.toNat % n.toNat = 0) := by
  rw [wsize (by omega)]
  obtain ⟨m, rfl⟩ : ∃ m : Nat, n = (m : Int) := ⟨n.toNat, by omega⟩
  rw [Int.toNat_natCast, Bool.eq_iff_iff, beq_iff_eq, decide_eq_true_iff, ← Int.ofNat_tmod]
  omega
theorem fits_size {r : RowV} (h : r.fits = true) : 1 ≤ r.size ∧ r.size ≤ 8 := by
  unfold RowV.fits at h
  simp only [Bool.and_eq_true, Bool.or_eq_true, beq_iff_eq] at h
  omega
end Go.Anv
namespace Go.Proofs.YtghcdkpgcanpgaaGreat
open Go Go.Anv
set_option maxRecDepth 100000 in
theorem prefix2_spec (m1 m2 : Bool) (n1 n2 c1 c2 s1 s2 : Nat) (p q : Nat → B8) (hc : n1 ≤ c1) :
    Does TB 100 [.s (.gs 0 0 n1 c1), .s (.gs 1 0 n2 c2)] [bblk m1 n1 p s1, bblk m2 n2 q s2] (fun v h' => v = .s (.bool (decide (n2 ≤ n1) && eqB n2 p q)) ∧ h' = [bblk m1 n1 p s1, bblk m2 n2 q s2]) := by
  refine fnX_does TB Tryz.func100 rfl (by decide) (fun O on hO => ?_)
  have hg : decide ((n1 : Int) ≥ (n2 : Int)) = decide (n2 ≤ n1) := decide_eq_decide.2 (by omega)
  repeat (refine need_intro (by first | exact fun h => h | exact nt | exact an2 | exact an3 | rfl | (simp; done) | fail) ?_)
  refine need_intro (fun h => ?_) ?_
  · have := of_decide_eq_true h
    exact ⟨by omega, by omega, by omega⟩
  repeat (refine need_intro (by first | exact fun h => h | exact nt | exact an2 | exact an3 | rfl | (simp; done) | fail) ?_)
  refine ifB_intro (fun h => ?_) (fun h => ?_)
  · have hle : n2 ≤ n1 := by have := of_decide_eq_true h; omega
    have hsk : skip c1 0 0 1 = 0 := by unfold skip; split <;> rfl
    refine Does.ungd (b := [_, _]) ⟨⟨h, rfl⟩, ⟨h, rfl⟩, trivial⟩ ?_
    refine Does.args (b := [.s (.gs 0 0 n2 c1), .s (.gs 1 0 n2 c2)]) ⟨⟨rfl, hsk, by omega, by omega⟩, eqvE_refl _, trivial⟩ ?_
    refine Does.atc (equal_spec m1 m2 0 0 n2 c1 c2 n1 n2 s1 s2 (bfun p) (bfun q) p q (by omega) (by omega) (fun j _ => by rw [Nat.zero_add]; rfl) (fun j _ => by rw [Nat.zero_add]; rfl)) [0, 1] rfl ⟨rfl, rfl, trivial⟩ (by decide) ?_
    repeat (refine need_intro (by first | exact fun h => h | exact nt | exact an2 | exact an3 | rfl | (simp; done) | fail) ?_)
    refine Ends.ro (H := [bblk m1 n1 p s1, bblk m2 n2 q s2]) (J := []) rfl ?_ rfl
    show (bif decide ((n1 : Int) ≥ (n2 : Int)) then eqB n2 p q else false) = _
    rw [cond_and, hg]
  · repeat (refine need_intro (by first | exact h | exact fun h => h | exact nt | exact an2 | exact an3 | rfl | (simp; done) | fail) ?_)
    refine Ends.ro (H := [bblk m1 n1 p s1, bblk m2 n2 q s2]) (J := []) rfl ?_ rfl
    show false = _
    rw [← hg, h]
    rfl
set_option maxRecDepth 100000 in
theorem rule17_spec (z : Sc) (ok : z.Ok) : Does TB 68 [.s (.ptr 7 0)] z.h (fun v h' => v = .s (.bool z.rule17) ∧ h' = z.h) := by
  refine fnX_does TB Tryz.func68 rfl (by decide) (fun O on hO => ?_)
  have fin : ∀ {x : Bool}, x = z.rule17 → Anv.Ends 8 (fun v h' => v = .s (.bool z.rule17) ∧ h' = z.h) (.s (.bool x)) z.h := by
    rintro x rfl
    exact Ends.ro (H := z.h) (J := []) rfl rfl rfl
  have hno := ok.no
  have hmo := ok.mo
  refine draw_held on rfl (fun _ _ h => h) ?_
  repeat (refine need_intro (by first | exact fun h => h | exact nt | exact an2 | exact an3 | rfl | (simp; done) | fail) ?_)
  refine Does.atc (prefix2_spec z.k.mo z.l.mo z.t.no z.s.no z.c5 z.c2 z.k.so z.l.so z.k.out z.l.out ok.do_) [5, 2] rfl ⟨rfl, rfl, trivial⟩ (by decide) ?_
  refine ifB_intro (fun h1 => ?_) (fun h1 => ?_)
  · refine fin ?_
    unfold Sc.rule17
    rw [if_pos h1]
  have h1' : (decide (z.s.no ≤ z.t.no) && eqB z.s.no z.k.out z.l.out) = true := by simpa using h1
  have hle : z.s.no ≤ z.t.no := by
    rw [Bool.and_eq_true] at h1'
    exact of_decide_eq_true h1'.1
  have es : IntKind.i64.wrap ((z.t.no : Int) - (z.s.no : Int)) = ((z.t.no - z.s.no : Nat) : Int) := by rw [i64_in (by omega) (by omega)]; omega
  refine ifB_intro (fun h2 => ?_) (fun h2 => ?_)
  · rw [es] at h2
    have h2 : z.t.no - z.s.no = 0 := by have := eq_of_beq h2; omega
    refine fin ?_
    unfold Sc.rule17
    rw [h1, if_neg (by decide), if_pos h2]
  rw [es] at h2
  have h2 : ¬ z.t.no - z.s.no = 0 := by have := ne_of_beq_false h2; omega
  refine ifB_intro (fun h3 => ?_) (fun h3 => ?_)
  · rw [es] at h3
    have h3 : z.t.no - z.s.no = 1 := by have := eq_of_beq h3; omega
    refine draw_held on rfl (fun _ _ h => h) ?_
    refine Does.atc (stores_spec z) [0, 1, 2, 3, 4, 5, 6, 7] rfl ⟨rfl, rfl, rfl, rfl, rfl, rfl, rfl, rfl, trivial⟩ (by decide) ?_
    repeat (refine need_intro (by first | exact fun _ => (by omega) | exact fun _ => ⟨by omega, by omega⟩ | exact fun h => h | exact nt | exact an2 | exact an3 | rfl | (simp; done) | fail) ?_)
    refine fin ?_
    unfold Sc.rule17
    rw [h1, if_neg (by decide), if_neg h2, if_pos h3]
    simp only [cond_and]
    congr 1
    · congr 1
      congr 1
      exact beq_nat _ 0x10000000#64
    · rw [Nat.zero_add, Int.toNat_natCast]
      show (IntKind.u64.wrap (((z.k.out z.s.no).toNat : Nat) : Int) == _) = _
      rw [wide8, beq_nat]
  · rw [es] at h3
    have h3 : ¬ z.t.no - z.s.no = 1 := by have := ne_of_beq_false h3; omega
    refine fin ?_
    unfold Sc.rule17
    rw [h1, if_neg (by decide), if_neg h2, if_neg h3]
set_option maxRecDepth 100000 in
theorem rule19_spec (z : Sc) (ok : z.Ok) : Does TB 71 [.s (.ptr 11 0), .s (.ptr 9 0)] z.hb (fun v h' => v = .s (.bool z.rule19) ∧ h' = z.hb) := by
  refine fnX_does TB Tryz.func71 rfl (by decide) (fun O on hO => ?_)
  repeat (refine need_intro (by first | exact fun h => h | exact nt | exact an2 | exact an3 | rfl | (simp; done) | fail) ?_)
  refine ifB_intro (fun h1 => ?_) (fun h1 => ?_)
  · refine hbfin z ?_
    unfold Sc.rule19
    rw [if_pos ((cond_or _ _).symm.trans h1)]
  have h1' : ¬ (z.r.kind != 1 || z.r.mem == 0) = true := by rw [← cond_or]; exact Bool.eq_false_iff.1 h1
  repeat (refine need_intro (by first | exact fun h => h | exact nt | exact an2 | exact an3 | rfl | (simp; done) | fail) ?_)
  have e1 : (bif (bif decide (z.r.mem ≥ 1) then decide (z.r.mem ≤ 3) else false) then (bif (bif (bif z.r.size == 1 then true else z.r.size == 2) then true else z.r.size == 4) then true else z.r.size == 8) else false) = z.r.fits := by
    simp only [cond_and, cond_or]
    rfl
  refine draw_held on rfl (fun _ _ h => h) ?_
  repeat (refine need_intro (by first | exact fun h => by have := fits_size (e1.symm.trans h); rw [wsize (by omega)]; omega | exact fun h => h | exact nt | exact an2 | exact an3 | rfl | (simp; done) | fail) ?_)
  have e2 : (bif (bif (bif decide (z.r.mem ≥ 1) then decide (z.r.mem ≤ 3) else false) then (bif (bif (bif z.r.size == 1 then true else z.r.size == 2) then true else z.r.size == 4) then true else z.r.size == 8) else false) then ((z.r.addr.toNat : Int).tmod (IntKind.u64.wrap z.r.size) == 0) else false) = (z.r.fits && decide (z.r.addr.toNat % z.r.size.toNat = 0)) := by
    rw [e1, cond_and]
    cases hf : z.r.fits with
    | false => rfl
    | true => rw [rem_eq _ _ (fits_size hf)]
  refine ifB_intro (fun g => ?_) (fun g => ?_)
  · refine Does.ungd (b := [.agg z.c.segs]) ⟨⟨g, rfl⟩, trivial⟩ ?_
    refine (eff_spec z.c _).mono ?_
    rintro _ _ ⟨rfl, rfl⟩
    repeat (refine need_intro (by first | exact g | exact fun h => h | exact nt | exact an2 | exact an3 | rfl | (simp; done) | fail) ?_)
    refine ifB_intro (fun _ => ?_) (fun h => absurd (g.symm.trans h) (by decide))
    refine Does.ungd (b := [.agg (pmpSeg z.c.cfg z.c.addr), .s (.int .i64 z.c.eff), .s (.int .u64 z.r.addr.toNat), .s (.int .i64 z.r.size), .s (.int .i64 z.r.mem)]) ⟨⟨g, rfl⟩, rfl, ⟨g, rfl⟩, ⟨g, rfl⟩, ⟨g, rfl⟩, trivial⟩ ?_
    refine (pcheck_spec z.c.cfg z.c.addr z.c.eff z.r.addr z.r.size z.r.mem _).mono ?_
    rintro _ _ ⟨rfl, rfl⟩
    repeat (refine need_intro (by first | exact g | exact fun h => h | exact nt | exact an2 | exact an3 | rfl | (simp; done) | fail) ?_)
    refine hbfin z ?_
    unfold Sc.rule19
    rw [if_neg h1', ← e2]
    exact cond_and _ _
  · repeat (first | refine need_intro (by first | exact g | exact nt g | exact nn3 g | exact fun h => h | exact nt | exact an2 | exact an3 | rfl | (simp; done) | fail) ?_ | refine ifB_intro (fun h => absurd (h.symm.trans g) (by decide)) (fun _ => ?_))
    refine hbfin z ?_
    unfold Sc.rule19
    rw [if_neg h1', ← e2, g]
    rfl
set_option maxRecDepth 100000 in
theorem rule20_spec (z : Sc) : Does TB 74 [.s (.ptr 11 0), .s (.ptr 9 0)] z.hb (fun v h' => v = .s (.bool z.rule20) ∧ h' = z.hb) := by
  refine fnX_does TB Tryz.func74 rfl (by decide) (fun O on hO => ?_)
  refine ifB_intro (fun h1 => ?_) (fun h1 => ?_)
  · refine hbfin z ?_
    unfold Sc.rule20
    rw [if_pos h1]
  have h1' : ¬ (z.r.len == 0) = true := Bool.eq_false_iff.1 h1
  refine draw_held on rfl (fun _ _ h => h) ?_
  refine (pcheck_spec z.c.cfg z.c.addr z.c.mode z.r.pc 2 4 _).mono ?_
  rintro _ _ ⟨rfl, rfl⟩
  repeat (refine need_intro (by first | exact fun h => h | exact nt | exact an2 | exact an3 | rfl | (simp; done) | fail) ?_)
  refine draw_held on rfl (fun _ _ h => h) ?_
  repeat (refine need_intro (by first | exact fun h => h | exact nt | exact an2 | exact an3 | rfl | (simp; done) | fail) ?_)
  have e1 : ((!(bif z.r.len == 2 then checkI z.c.cfg z.c.addr z.c.mode z.r.pc 2 4 else false)) && (bif z.r.len == 4 then checkI z.c.cfg z.c.addr z.c.mode z.r.pc 2 4 else false)) = ((!(z.r.len == 2 && checkI z.c.cfg z.c.addr z.c.mode z.r.pc 2 4)) && (z.r.len == 4 && checkI z.c.cfg z.c.addr z.c.mode z.r.pc 2 4)) := by
    rw [cond_and, cond_and]
  refine ifB_intro (fun g => ?_) (fun g => ?_)
  · refine Does.ungd (b := [.agg (pmpSeg z.c.cfg z.c.addr), .s (.int .i64 z.c.mode), .s (.int .u64 (z.r.pc + 2#64).toNat), .s (.int .i64 2), .s (.int .i64 4)]) ⟨⟨g, rfl⟩, ⟨g, rfl⟩, ⟨g, congrArg (fun z => EV.s (.int .u64 z)) (add64 z.r.pc 2#64)⟩, rfl, rfl, trivial⟩ ?_
    refine (pcheck_spec z.c.cfg z.c.addr z.c.mode (z.r.pc + 2#64) 2 4 _).mono ?_
    rintro _ _ ⟨rfl, rfl⟩
    repeat (refine need_intro (by first | exact g | exact fun h => h | exact nt | exact an2 | exact an3 | rfl | (simp; done) | fail) ?_)
    refine hbfin z ?_
    unfold Sc.rule20
    rw [if_neg h1']
    simp only [cond_and, cond_or]
  · repeat (first | refine need_intro (by first | exact g | exact nt g | exact nn3 g | exact fun h => h | exact nt | exact an2 | exact an3 | rfl | (simp; done) | fail) ?_ | refine ifB_intro (fun h => absurd (h.symm.trans g) (by decide)) (fun _ => ?_))
    refine hbfin z ?_
    unfold Sc.rule20
    rw [if_neg h1']
    have g' := e1.symm.trans g
    revert g'
    simp only [cond_and]
    cases (z.r.len == 2 && checkI z.c.cfg z.c.addr z.c.mode z.r.pc 2 4) <;> cases (z.r.len == 4 && checkI z.c.cfg z.c.addr z.c.mode z.r.pc 2 4) <;> intro g' <;> first | rfl | cases g'
end Go.Proofs.YtghcdkpgcanpgaaGreat

/- The document's memory protection: Locked, Check; its mode of loads and stores. No condition: contracts of functions. -/
namespace Go.Anv
open Go
theorem cfgOf_idem (c : B8) : cfgOf (cfgOf c) = cfgOf c := by
  revert c; decide +kernel
theorem lock_shr (c : B8) : ((c.toNat : Int).fdiv (2 ^ min (Int.toNat 7) IntKind.u8.bits) == 1) = c.getLsbD 7 := by
  have h : (c.toNat : Int).fdiv (2 ^ min (Int.toNat 7) IntKind.u8.bits) = ((c >>> 7).toNat : Int) := fdiv_pow _ 7
  rw [h, beq_lit _ _ (by decide) (by decide)]
  revert c; decide +kernel
def propF (cfg : Nat → B8) : Nat → B8 := fun j => cfgOf (cfg j)
/-- Bits above n: v divided n times by two. -/
theorem half_step (v : B64) (k : Nat) : ((v >>> k).toNat : Int).tdiv 2 = ((v >>> (k + 1)).toNat : Int) := by
  rw [BitVec.toNat_ushiftRight, BitVec.toNat_ushiftRight, Nat.shiftRight_succ]
  exact (Int.ofNat_tdiv _ 2).symm
theorem low_bit (v : B64) (k : Nat) : (((v >>> k).toNat : Int).tmod 2 == 1) = v.getLsbD k := by
  have h : (v >>> k).getLsbD 0 = v.getLsbD k := by rw [BitVec.getLsbD_ushiftRight, Nat.add_zero]
  rw [← h, BitVec.getLsbD, Nat.testBit_zero, Bool.eq_iff_iff, beq_iff_eq, decide_eq_true_iff]
  have e : ((v >>> k).toNat : Int).tmod 2 = (((v >>> k).toNat % 2 : Nat) : Int) := (Int.ofNat_tmod _ 2).symm
  rw [e]
  omega
theorem bit17 (m : B64) : (m &&& 131072#64 ≠ 0#64) ↔ m.getLsbD 17 = true := by
  have hm : ∀ i, i < 64 → (131072#64).getLsbD i = (i == 17) := by decide
  constructor
  · intro h
    cases hb : m.getLsbD 17 with
    | true => rfl
    | false =>
      exfalso; apply h
      apply BitVec.eq_of_getLsbD_eq
      intro i hi
      rw [BitVec.getLsbD_and, hm i hi]
      by_cases h7 : i = 17
      · subst h7; rw [hb]; simp
      · simp [h7]
  · intro h e
    have := congrArg (fun x : B64 => x.getLsbD 17) e
    simp only [BitVec.getLsbD_and, h, hm 17 (by decide)] at this
    simp at this
theorem mpp_proper (m : B64) : ((statusOf m &&& 6144#64) >>> 11).toNat = if (statusOf m).getLsbD 11 then 3 else 0 := by
  have h1 : statusOf m &&& 6144#64 = if m &&& 6144#64 = 6144#64 then 6144#64 else 0#64 := by
    unfold statusOf
    apply BitVec.eq_of_getLsbD_eq
    intro i hi
    have ha : ∀ i, i < 64 → ((6144#64).getLsbD i && (2228360#64).getLsbD i) = false := by decide
    have hb : ∀ i, i < 64 → ((6144#64).getLsbD i && (8589934592#64).getLsbD i) = false := by decide
    have ha' := ha i hi
    have hb' := hb i hi
    split
    · simp only [BitVec.getLsbD_and, BitVec.getLsbD_or]
      revert ha' hb'
      cases (6144#64).getLsbD i <;> cases (2228360#64).getLsbD i <;> cases (8589934592#64).getLsbD i <;> simp
    · simp only [BitVec.getLsbD_and, BitVec.getLsbD_or, BitVec.getLsbD_zero]
      revert ha' hb'
      cases (6144#64).getLsbD i <;> cases (2228360#64).getLsbD i <;> cases (8589934592#64).getLsbD i <;> simp
  have h2 : (statusOf m).getLsbD 11 = (statusOf m &&& 6144#64).getLsbD 11 := by
    rw [BitVec.getLsbD_and, show (6144#64).getLsbD 11 = true from by decide, Bool.and_true]
  rw [h2, h1]
  split <;> decide
theorem eff_proper (c : CpuV) : c.eff = if c.proper.mode = 3 ∧ c.proper.mstatus.getLsbD 17 = true then (if c.proper.mstatus.getLsbD 11 then 3 else 0) else c.proper.mode := by
  unfold CpuV.eff
  have e : ((c.proper.mode = 3 ∧ c.proper.mstatus &&& 131072#64 ≠ 0#64)) = (c.proper.mode = 3 ∧ c.proper.mstatus.getLsbD 17 = true) := propext (and_congr Iff.rfl (bit17 _))
  simp only [e]
  split
  · have := mpp_proper c.mstatus
    rw [show c.proper.mstatus = statusOf c.mstatus from rfl, this]
    split <;> rfl
  · rfl
end Go.Anv
namespace Go.Proofs.YtghcdkpgcanpgaaGreat
open Go Go.Anv
theorem rlocked_spec (cfg : Nat → B8) (addr : Nat → B64) (i : Nat) (hi : i < 16) (h : List Blk) : Does TB 103 [.agg (pmpSeg cfg addr), .s (.int .i64 (i : Int))] h (fun v h' => v = .s (.bool (lockA cfg i)) ∧ h' = h) := by
  refine fnX_pure TB Tryz.func103 rfl (by decide) rfl _ rfl (fun O on => ?_) h
  repeat (refine need_intro (by first | omega | decide | fail) ?_)
  exact lock_shr (cfg i)
set_option maxRecDepth 100000 in
theorem rLocked_spec (cfg : Nat → B8) (addr : Nat → B64) (i : Nat) (hi : i < 16) (h : List Blk) : Does TB 80 [.agg (pmpSeg cfg addr), .s (.int .i64 (i : Int))] h (fun v h' => v = .tuple [.s (.bool (lockA (propF cfg) i)), .s (.bool (lockA (propF cfg) i || lockT (propF cfg) i))] ∧ h' = h) := by
  refine fnX_pure TB Tryz.func80 rfl (by decide) rfl _ rfl (fun O on => ?_) h
  refine (rproperP_spec cfg addr _).mono ?_
  rintro _ _ ⟨rfl, rfl⟩
  repeat (refine need_intro (by first | exact fun h => h | exact nt | rfl | (simp; done) | fail) ?_)
  refine ifB_intro (fun h1 => absurd h1 (by rw [decide_eq_false (show ¬ ((i : Nat) : Int) < 0 by omega), decide_eq_false (show ¬ ((i : Nat) : Int) > 15 by omega)]; decide)) (fun h1 => ?_)
  refine (rlocked_spec (propF cfg) (fun j => addr j &&& addrBits) i hi _).mono ?_
  rintro _ _ ⟨rfl, rfl⟩
  repeat (refine need_intro (by first | exact fun h => h | exact nt | exact an2 | exact an3 | rfl | (simp; done) | fail) ?_)
  rcases Nat.lt_or_ge i 15 with h15 | h15
  · have hw : IntKind.i64.wrap ((i : Int) + 1) = ((i + 1 : Nat) : Int) := by rw [i64_in (by omega) (by omega)]; omega
    have hd : decide ((i : Int) < 15) = true := decide_eq_true (by omega)
    have hT : lockT (propF cfg) i = (lockA (propF cfg) (i + 1) && kindOf (propF cfg (i + 1)) == 1) := by
      unfold lockT lockA; rw [decide_eq_true h15]; rfl
    refine ifB_intro (fun _ => ?_) (fun h => absurd (h.symm.trans hd) (by decide))
    refine Does.ungd (b := [.agg (pmpSeg (propF cfg) fun j => addr j &&& addrBits), .s (.int .i64 ((i + 1 : Nat) : Int))]) ⟨⟨hd, rfl⟩, ⟨hd, by rw [hw]⟩, trivial⟩ ?_
    refine (rlocked_spec (propF cfg) (fun j => addr j &&& addrBits) (i + 1) (by omega) _).mono ?_
    rintro _ _ ⟨rfl, rfl⟩
    have hc : (bif decide ((i : Int) < 15) then lockA (propF cfg) (i + 1) else false) = lockA (propF cfg) (i + 1) := by rw [hd]; rfl
    repeat (refine need_intro (by first | exact hd | exact fun h => h | exact nt | exact an2 | exact an3 | rfl | (simp; done) | fail) ?_)
    refine ifB_intro (fun h2 => ?_) (fun h2 => ?_)
    · refine Does.ungd (b := [.agg (pmpSeg (propF cfg) fun j => addr j &&& addrBits), .s (.int .i64 ((i + 1 : Nat) : Int))]) ⟨⟨h2, rfl⟩, ⟨h2, by rw [hw]⟩, trivial⟩ ?_
      refine (rkind_spec (propF cfg) (fun j => addr j &&& addrBits) (i + 1) (by omega) _).mono ?_
      rintro _ _ ⟨rfl, rfl⟩
      replace h2 := hc.symm.trans h2
      have h2' : (bif decide ((i : Int) < 15) then lockA (propF cfg) (i + 1) else false) = true := hc.trans h2
      repeat (refine need_intro (by first | exact h2' | exact fun h => h | exact nt | exact an2 | exact an3 | rfl | (simp; done) | fail) ?_)
      have hk : (bif (bif decide ((i : Int) < 15) then lockA (propF cfg) (i + 1) else false) then ((kindOf (propF cfg (i + 1)) : Nat) : Int) == 1 else false) = lockT (propF cfg) i := by
        rw [hc, hT, cond_and]
        congr 1
        exact int_beq _ 1
      refine ifB_intro (fun h3 => ?_) (fun h3 => ?_)
      · refine ⟨rfl, ?_, trivial⟩
        show true = (lockA (propF cfg) i || lockT (propF cfg) i)
        rw [hk.symm.trans h3, Bool.or_true]
      · refine ⟨rfl, ?_, trivial⟩
        show lockA (propF cfg) i = (lockA (propF cfg) i || lockT (propF cfg) i)
        rw [hk.symm.trans h3, Bool.or_false]
    · repeat (refine need_intro (by first | exact h2 | exact fun h => h | exact nt | exact an2 | exact an3 | rfl | (simp; done) | fail) ?_)
      refine ifB_intro (fun h => absurd (h.symm.trans h2) (by decide)) (fun _ => ?_)
      repeat (refine need_intro (by first | exact h2 | exact fun h => h | exact nt | exact an2 | exact an3 | rfl | (simp; done) | fail) ?_)
      refine ⟨rfl, ?_, trivial⟩
      show lockA (propF cfg) i = (lockA (propF cfg) i || lockT (propF cfg) i)
      rw [hT, hc.symm.trans h2, Bool.false_and, Bool.or_false]
  · have h15 : i = 15 := by omega
    subst h15
    repeat (refine need_intro (by first | exact fun h => h | exact nt | exact an2 | exact an3 | rfl | (simp; done) | fail) ?_)
    refine ⟨rfl, ?_, trivial⟩
    show lockA (propF cfg) 15 = (lockA (propF cfg) 15 || lockT (propF cfg) 15)
    rw [show lockT (propF cfg) 15 = false from rfl, Bool.or_false]
set_option maxRecDepth 100000 in
theorem rpcheck_spec (cfg : Nat → B8) (addr : Nat → B64) (mode : Int) (a : B64) (size bits : Int) (h : List Blk) : Does TB 88 [.agg (pmpSeg cfg addr), .s (.int .i64 mode), .s (.int .u64 a.toNat), .s (.int .i64 size), .s (.int .i64 bits)] h (fun v h' => v = .s (.bool (checkI cfg addr mode a size bits)) ∧ h' = h) := by
  refine fnX_pure TB Tryz.func88 rfl (by decide) rfl _ rfl (fun O on => ?_) h
  refine (rproperP_spec cfg addr _).mono ?_
  rintro _ _ ⟨rfl, rfl⟩
  repeat (refine need_intro (by first | exact fun h => h | exact nt | rfl | (simp; done) | fail) ?_)
  unfold checkI
  refine ifB_intro (fun h1 => ?_) (fun h1 => ?_)
  · have h1 : badI mode size bits = true := h1
    rw [if_pos h1]
    exact rfl
  have h1 : badI mode size bits = false := h1
  rw [if_neg (by rw [h1]; decide)]
  refine (rmatch_spec _ _ a size _).mono ?_
  rintro _ _ ⟨rfl, rfl⟩
  generalize hm : matchI (fun j => cfgOf (cfg j)) (fun j => addr j &&& addrBits) a size = m
  cases m with
  | none =>
    exact rfl
  | some p =>
    obtain ⟨i, b⟩ := p
    have hi := match_lt hm
    cases b with
    | false => exact rfl
    | true =>
      have hA : lockA (propF cfg) i = (cfgOf (cfg i)).getLsbD 7 := rfl
      refine ifB_intro (fun g => ?_) (fun g => ?_)
      · refine Does.ungd (b := [.agg (pmpSeg (propF cfg) fun j => addr j &&& addrBits), .s (.int .i64 (i : Int))]) ⟨⟨g, rfl⟩, ⟨g, rfl⟩, trivial⟩ ?_
        refine (rlocked_spec (propF cfg) (fun j => addr j &&& addrBits) i hi _).mono ?_
        rintro _ _ ⟨rfl, rfl⟩
        repeat (refine need_intro (by first | exact g | exact fun h => h | exact nt | exact an2 | exact an3 | rfl | (simp; done) | fail) ?_)
        have hc : (bif mode == 3 then !lockA (propF cfg) i else false) = (mode == 3 && (cfgOf (cfg i)).getLsbD 7 == false) := by
          rw [cond_and, hA]
          cases (cfgOf (cfg i)).getLsbD 7 <;> rfl
        refine ifB_intro (fun h2 => ?_) (fun h2 => ?_)
        · show true = if true = false then false else if (mode == 3 && (cfgOf (cfg i)).getLsbD 7 == false) = true then true else _
          rw [if_pos (hc.symm.trans h2)]; rfl
        · repeat (refine need_intro (by first | omega | exact ⟨by omega, by omega⟩ | fail) ?_)
          show _ = if true = false then false else if (mode == 3 && (cfgOf (cfg i)).getLsbD 7 == false) = true then true else _
          rw [hc.symm.trans h2]; rfl
      · repeat (refine need_intro (by first | exact g | exact fun h => h | exact nt | exact an2 | exact an3 | rfl | (simp; done) | fail) ?_)
        refine ifB_intro (fun h => absurd (h.symm.trans g) (by decide)) (fun _ => ?_)
        repeat (refine need_intro (by first | omega | exact ⟨by omega, by omega⟩ | fail) ?_)
        show _ = if true = false then false else if (mode == 3 && (cfgOf (cfg i)).getLsbD 7 == false) = true then true else _
        rw [g]; rfl
theorem rbit_spec (v : B64) (n : Nat) (hn : n < 64) (h : List Blk) : Does TB 105 [.s (.int .u64 v.toNat), .s (.int .i64 (n : Int))] h (fun x h' => x = .s (.bool (v.getLsbD n)) ∧ h' = h) := by
  refine fnX_pure TB Tryz.func105 rfl (by decide) rfl _ rfl (fun O on => ?_) h
  refine loop_by (A := Nat) on (fun k => [(0, .s (.int .u64 ((v >>> k).toNat : Int))), (5, .s (.int .i64 (k : Int)))]) (fun _ => []) (fun k => k ≤ n) (fun k => n - k) 0 (Nat.zero_le _) ?_ ?_
  · refine ⟨?_, trivial⟩
    repeat' (first | exact eqvT_nil | refine eqvT_junk ?_ | refine eqvT_same ?_ | refine eqvT_int ?_ ?_)
  intro k hk
  refine ifB_intro (fun h2 => ?_) (fun h2 => ?_)
  · have hk1 : k < n := by have := of_decide_eq_true h2; omega
    repeat (refine need_intro (by first | exact fun h => h | exact nt | exact an2 | exact an3 | rfl | (simp; done) | fail) ?_)
    refine ⟨k + 1, hk1, by show n - (k + 1) < n - k; omega, ⟨?_, trivial⟩⟩
    repeat' (first | exact eqvT_nil | refine eqvT_junk ?_ | refine eqvT_same ?_ | refine eqvT_int ?_ ?_)
    · rw [half_step, wnat (by omega)]
    · rw [i64_in (by omega) (by omega)]; omega
  · have hk1 : k = n := by have := of_decide_eq_false h2; omega
    subst hk1
    repeat (refine need_intro (by first | exact fun h => h | exact nt | exact an2 | exact an3 | rfl | (simp; done) | fail) ?_)
    exact low_bit v k
theorem rbefore_spec (v : B64) (h : List Blk) : Does TB 106 [.s (.int .u64 v.toNat)] h (fun x h' => x = .s (.int .i64 (if v.getLsbD 11 then 3 else 0)) ∧ h' = h) := by
  refine fnX_pure TB Tryz.func106 rfl (by decide) rfl _ rfl (fun O on => ?_) h
  refine (rbit_spec v 11 (by decide) _).mono ?_
  rintro _ _ ⟨rfl, rfl⟩
  refine ifB_intro (fun h2 => ?_) (fun h2 => ?_)
  · rw [if_pos h2]; exact eqvE_refl _
  · rw [if_neg (by rw [h2]; decide)]; exact eqvE_refl _
set_option maxRecDepth 100000 in
theorem reff_spec (c : CpuV) (h : List Blk) : Does TB 87 [.agg c.segs] h (fun v h' => v = .s (.int .i64 c.eff) ∧ h' = h) := by
  refine fnX_pure TB Tryz.func87 rfl (by decide) rfl _ rfl (fun O on => ?_) h
  refine (rproper_spec c _).mono ?_
  rintro _ _ ⟨rfl, rfl⟩
  repeat (refine need_intro (by first | exact fun h => h | exact nt | exact an2 | exact an3 | rfl | (simp; done) | fail) ?_)
  refine (rbit_spec c.proper.mstatus 17 (by decide) _).mono ?_
  rintro _ _ ⟨rfl, rfl⟩
  repeat (refine need_intro (by first | exact fun h => h | exact nt | exact an2 | exact an3 | rfl | (simp; done) | fail) ?_)
  have e1 : (bif c.proper.mode == 3 then c.proper.mstatus.getLsbD 17 else false) = decide (c.proper.mode = 3 ∧ c.proper.mstatus.getLsbD 17 = true) := by
    rw [cond_and, Bool.eq_iff_iff, Bool.and_eq_true, decide_eq_true_iff, beq_iff_eq]
  rw [eff_proper]
  refine ifB_intro (fun h2 => ?_) (fun h2 => ?_)
  · rw [if_pos (of_decide_eq_true (e1.symm.trans h2))]
    refine (rbefore_spec c.proper.mstatus _).mono ?_
    rintro _ _ ⟨rfl, rfl⟩
    exact eqvE_refl _
  · rw [if_neg (of_decide_eq_false (e1.symm.trans h2))]
    exact eqvE_refl _
end Go.Proofs.YtghcdkpgcanpgaaGreat

/- The document's side of a step: the small questions. No condition but the lists' lengths: contracts of functions. -/
namespace Go.Anv
open Go
/-- A Sight, as the document takes it. -/
def Sc.doc (z : Sc) : List Seg := z.b ++ z.a ++ z.e.segs ++ z.world ++ z.r.segs
def RowV.dsize (r : RowV) : Int := if r.placed then r.size else 0
theorem placed_doc (r : RowV) : (bif (bif r.mem == 0 then true else decide (r.size < 1)) then true else decide (r.size > 8)) = !r.placed := by
  unfold RowV.placed
  rw [cond_or, cond_or, Bool.eq_iff_iff]
  by_cases h : r.mem = 0 <;> simp [h] <;> omega
theorem dsize_wrap (r : RowV) : IntKind.u64.wrap r.dsize = r.dsize ∧ 0 ≤ r.dsize ∧ r.dsize ≤ 8 := by
  unfold RowV.dsize
  split
  · rename_i h
    have := placed_size h
    exact ⟨this.2, by omega, by omega⟩
  · exact ⟨rfl, by omega, by omega⟩
theorem within_doc (r : RowV) (a : B64) : (bif decide (((a.toNat : Nat) : Int) ≥ ((r.addr.toNat : Nat) : Int)) then decide (IntKind.u64.wrap (((a.toNat : Nat) : Int) - ((r.addr.toNat : Nat) : Int)) < IntKind.u64.wrap r.dsize) else false) = r.within a := by
  rw [cond_and, sub64, ge_nat, (dsize_wrap r).1]
  unfold RowV.within RowV.dsize
  cases hp : r.placed with
  | false =>
    rw [if_neg (by decide), decide_eq_false (show ¬ (((a - r.addr).toNat : Int) < 0) by omega), Bool.and_false]; rfl
  | true => rw [if_pos rfl, Bool.true_and]
end Go.Anv
namespace Go.Proofs.YtghcdkpgcanpgaaGreat
open Go Go.Anv
set_option maxRecDepth 100000 in
theorem dtrapped_spec (z : Sc) : Does TB 81 [.agg z.doc] z.lists (fun v h' => v = .s (.bool z.r.trapped) ∧ h' = z.lists) := by
  refine fnX_does TB Tryz.func81 rfl (by decide) (fun O on hO => ?_)
  repeat (refine need_intro (by first | exact fun h => h | exact nt | exact an2 | exact an3 | rfl | (simp; done) | fail) ?_)
  exact Ends.ro (H := z.lists) rfl (cond_or _ _) rfl
set_option maxRecDepth 100000 in
theorem dsystem_spec (z : Sc) : Does TB 84 [.agg z.doc] z.lists (fun v h' => v = .s (.bool z.r.counts) ∧ h' = z.lists) := by
  refine fnX_does TB Tryz.func84 rfl (by decide) (fun O on hO => ?_)
  repeat (refine need_intro (by first | exact fun h => h | exact nt | exact an2 | exact an3 | rfl | (simp; done) | fail) ?_)
  exact Ends.ro (H := z.lists) rfl (cond_and _ _) rfl
set_option maxRecDepth 100000 in
theorem dsize_spec (z : Sc) : Does TB 78 [.agg z.doc] z.lists (fun v h' => v = .s (.int .i64 z.r.dsize) ∧ h' = z.lists) := by
  refine fnX_does TB Tryz.func78 rfl (by decide) (fun O on hO => ?_)
  repeat (refine need_intro (by first | exact fun h => h | exact nt | exact an2 | exact an3 | rfl | (simp; done) | fail) ?_)
  have fin : ∀ {x : Int} {B : Blk}, x = z.r.dsize → Anv.Ends 7 (fun v h' => v = .s (.int .i64 z.r.dsize) ∧ h' = z.lists) (.s (.int .i64 x)) (z.lists ++ [B]) := by
    rintro x B rfl
    exact Ends.ro rfl (eqvE_refl _) rfl
  have e := placed_doc z.r
  refine ifB_intro (fun h => fin ?_) (fun h => fin ?_)
  · have := e.symm.trans h
    rw [Bool.not_eq_true'] at this
    unfold RowV.dsize; rw [this]; rfl
  · have := e.symm.trans h
    rw [Bool.not_eq_false'] at this
    unfold RowV.dsize; rw [this]; rfl
set_option maxRecDepth 100000 in
theorem din_spec (z : Sc) (a : B64) : Does TB 79 [.agg z.doc, .s (.int .u64 a.toNat)] z.lists (fun v h' => v = .s (.bool (z.r.within a)) ∧ h' = z.lists) := by
  refine fnX_does TB Tryz.func79 rfl (by decide) (fun O on hO => ?_)
  refine draw_held on rfl (fun _ _ h => h) ?_
  repeat (refine need_intro (by first | exact fun h => h | exact nt | exact an2 | exact an3 | rfl | (simp; done) | fail) ?_)
  refine ifB_intro (fun g => ?_) (fun g => ?_)
  · refine Does.ungd (b := [_]) ⟨⟨g, rfl⟩, trivial⟩ ?_
    refine Does.atc (dsize_spec z) [0, 1, 2, 3, 4, 5, 6] rfl ⟨rfl, rfl, rfl, rfl, rfl, rfl, rfl, trivial⟩ (by decide) ?_
    repeat (refine need_intro (by first | exact g | exact fun h => h | exact nt | exact an2 | exact an3 | rfl | (simp; done) | fail) ?_)
    exact Ends.ro (H := z.lists) rfl (within_doc z.r a) rfl
  · repeat (first | refine need_intro (by first | exact g | exact nt g | exact nn3 g | exact fun h => h | exact nt | exact an2 | exact an3 | rfl | (simp; done) | fail) ?_ | refine ifB_intro (fun h => absurd (h.symm.trans g) (by decide)) (fun _ => ?_))
    refine Ends.ro (H := z.lists) rfl ?_ rfl
    refine Eq.trans ?_ (within_doc z.r a)
    rw [g]; rfl
set_option maxRecDepth 100000 in
theorem dstores_spec (z : Sc) (a : B64) (n : Nat) (hn : n < 2 ^ 62) : Does TB 85 [.agg z.doc, .s (.int .u64 a.toNat), .s (.int .i64 (n : Int))] z.lists (fun v h' => v = .s (.bool (z.r.storedAt a n)) ∧ h' = z.lists) := by
  refine fnX_does TB Tryz.func85 rfl (by decide) (fun O on hO => ?_)
  repeat (refine need_intro (by first | exact fun h => h | exact nt | exact an2 | exact an3 | rfl | (simp; done) | fail) ?_)
  have fin : ∀ {x : Bool} {B : Blk}, x = z.r.storedAt a n → Anv.Ends 7 (fun v h' => v = .s (.bool (z.r.storedAt a n)) ∧ h' = z.lists) (.s (.bool x)) (z.lists ++ [B]) := by
    rintro x B rfl
    exact Ends.ro rfl rfl rfl
  refine ifB_intro (fun h1 => fin ?_) (fun h1 => ?_)
  · unfold RowV.storedAt RowV.stores
    rw [bne, h1]; rfl
  have h1 : z.r.stores = true := by unfold RowV.stores; rw [bne, h1]; rfl
  refine loop_by (A := Nat) on (fun k => [(7, .s (.int .i64 (k : Int)))]) (fun _ => z.lists ++ [.cells true z.doc 0]) (fun k => k ≤ n ∧ ∀ i, i < k → z.r.within (a + BitVec.ofNat 64 i) = false) (fun k => n - k) 0 ⟨Nat.zero_le _, fun i hi => absurd hi (Nat.not_lt_zero i)⟩ ?_ ?_
  · refine ⟨?_, eqvH_refl _⟩
    repeat' (first | exact eqvT_nil | refine eqvT_junk ?_ | refine eqvT_same ?_ | refine eqvT_int ?_ ?_)
  intro k ⟨hk, hp⟩
  refine ifB_intro (fun h2 => ?_) (fun h2 => ?_)
  · have hk1 : k < n := by have := of_decide_eq_true h2; omega
    repeat (refine need_intro (by first | exact fun h => h | exact nt | exact an2 | exact an3 | rfl | (simp; done) | fail) ?_)
    refine Does.args (b := [.agg z.doc, .s (.int .u64 ((a + BitVec.ofNat 64 k).toNat : Int))]) ⟨eqvE_refl _, ⟨rfl, addk (by omega)⟩, trivial⟩ ?_
    refine Does.atc (din_spec z _) [0, 1, 2, 3, 4, 5, 6] rfl ⟨rfl, rfl, rfl, rfl, rfl, rfl, rfl, trivial⟩ (by decide) ?_
    refine ifB_intro (fun h3 => fin (by unfold RowV.storedAt; rw [h1, anyN_true (f := fun k => z.r.within (a + BitVec.ofNat 64 k)) hk1 h3]; rfl)) (fun h3 => ?_)
    refine ⟨k + 1, ⟨hk1, fun i hi => ?_⟩, by simp only; omega, ?_⟩
    · rcases Nat.lt_succ_iff_lt_or_eq.1 hi with h | h
      · exact hp i h
      · subst h; exact h3
    refine ⟨?_, eqvH_refl _⟩
    repeat' (first | exact eqvT_nil | refine eqvT_junk ?_ | refine eqvT_same ?_ | refine eqvT_int ?_ ?_)
    rw [i64_in (by omega) (by omega)]; omega
  · have hk1 : k = n := by have := of_decide_eq_false h2; omega
    subst hk1
    exact fin (by unfold RowV.storedAt; rw [anyN_false hp, Bool.and_false])
set_option maxRecDepth 100000 in
theorem dmip_spec (t : BusV) (k : Lists) (c0 c1 c2 : Nat) : Does TB 83 [.agg (t.segs (.gs 0 0 t.nr c0) (.gs 1 0 t.ni c1) (.gs 2 0 t.no c2))] (k.blks t) (fun v h' => v = .s (.int .u64 (mipOf t).toNat) ∧ h' = k.blks t) := by
  refine fnX_does TB Tryz.func83 rfl (by decide) (fun O on hO => ?_)
  repeat (refine need_intro (by first | exact fun h => h | exact nt | exact an2 | exact an3 | rfl | (simp; done) | fail) ?_)
  have fin : ∀ {x : Int} {B : Blk}, x = ((mipOf t).toNat : Int) → Anv.Ends 3 (fun v h' => v = .s (.int .u64 (mipOf t).toNat) ∧ h' = k.blks t) (.s (.int .u64 x)) (k.blks t ++ [B]) := by
    rintro x B rfl
    exact Ends.ro rfl (eqvE_refl _) rfl
  have e1 : (bif bitX .and .u32 (t.msip.toNat : Int) 1 == 1 then true else t.soft) = ((t.msip &&& 1#32 == 1#32) || t.soft) := by
    rw [cond_or, and_u32, ofInt_toNat]; congr 1; exact beq_nat _ 1#32
  have e2 : decide (((t.now.toNat : Nat) : Int) ≥ ((t.cmp.toNat : Nat) : Int)) = decide (t.cmp ≤ t.now) := ge_nat _ _
  have e3 : (bif t.ext then true else bif bitX .and .u8 (t.ier.toNat : Int) 1 == 1 then decide ((t.ni : Int) > 0) else false) = (t.ext || ((t.ier &&& 1#8 == 1#8) && decide (0 < t.ni))) := by
    rw [cond_or, cond_and, and_u8, ofInt_toNat]; congr 2
    · exact beq_nat _ 1#8
    · exact decide_eq_decide.2 (by omega)
  have step : ∀ {a b c : Bool}, ((t.msip &&& 1#32 == 1#32) || t.soft) = a → decide (t.cmp ≤ t.now) = b → (t.ext || ((t.ier &&& 1#8 == 1#8) && decide (0 < t.ni))) = c → mipOf t = (if a then 8#64 else 0#64) ||| (if b then 128#64 else 0#64) ||| (if c then 2048#64 else 0#64) := by
    rintro a b c rfl rfl rfl; rfl
  refine ifB_intro (fun h1 => ?_) (fun h1 => ?_) <;> refine ifB_intro (fun h2 => ?_) (fun h2 => ?_) <;> repeat (refine need_intro (by first | exact fun h => h | exact nt | exact an2 | rfl | (simp; done) | fail) ?_)
  all_goals refine ifB_intro (fun h3 => ?_) (fun h3 => ?_)
  all_goals (refine fin ?_; rw [step (e1.symm.trans h1) (e2.symm.trans h2) (e3.symm.trans h3)]; decide)
theorem entry_doc (m : B64) : ((m >>> 3 &&& 1#64) <<< 7 : B64) = (m &&& 8#64) <<< 4 := by
  apply BitVec.eq_of_getLsbD_eq
  intro i hi
  have h1 : ∀ i, i < 64 → (1#64).getLsbD i = (i == 0) := by decide
  have h8 : ∀ i, i < 64 → (8#64).getLsbD i = (i == 3) := by decide
  simp only [BitVec.getLsbD_shiftLeft, BitVec.getLsbD_and, BitVec.getLsbD_ushiftRight, hi, decide_true, Bool.true_and]
  by_cases a : i < 7
  · rw [decide_eq_true a]
    by_cases b : i < 4
    · rw [decide_eq_true b]; rfl
    · rw [h8 (i - 4) (by omega), show (i - 4 == 3) = false from by simp; omega]; simp
  · rw [decide_eq_false a, decide_eq_false (by omega : ¬ i < 4), h1 (i - 7) (by omega), h8 (i - 4) (by omega)]
    by_cases b : i = 7
    · subst b; rfl
    · rw [show (i - 7 == 0) = false from by simp; omega, show (i - 4 == 3) = false from by simp; omega]; simp
set_option maxRecDepth 100000 in
theorem dentry_spec (m : B64) (mode : Int) (h : List Blk) : Does TB 82 [.s (.int .u64 m.toNat), .s (.int .i64 mode)] h (fun v h' => v = .s (.int .u64 (entryOf m mode).toNat) ∧ h' = h) := by
  refine fnX_pure TB Tryz.func82 rfl (by decide) rfl _ rfl (fun O on => ?_) h
  repeat (refine need_intro (by first | decide | exact fun h => h | exact nt | exact an2 | rfl | (simp; done) | fail) ?_)
  refine ⟨rfl, ?_⟩
  have h11 : min (Int.toNat 11) IntKind.u64.bits = 11 := by decide
  have h7 : min (Int.toNat 7) IntKind.u64.bits = 7 := by decide
  have h3 : min (Int.toNat 3) IntKind.u64.bits = 3 := by decide
  show bitX .or .u64 (bitX .or .u64 (bitX .andNot .u64 (m.toNat : Int) 6280) (IntKind.u64.wrap (bitX .and .u64 ((m.toNat : Int).fdiv (2 ^ min (Int.toNat 3) IntKind.u64.bits)) 1 * 2 ^ min (Int.toNat 7) IntKind.u64.bits))) (IntKind.u64.wrap (IntKind.u64.wrap mode * 2 ^ min (Int.toNat 11) IntKind.u64.bits)) = _
  simp only [h11, h7, h3, wrap_u64 mode, fdiv_pow, and_u64, andNot_u64, shl64, or_u64, ofInt_toNat]
  rw [show BitVec.ofInt 64 1 = 1#64 from rfl, entry_doc]
  rfl
end Go.Proofs.YtghcdkpgcanpgaaGreat

/- The document's side of a step: the rules 2 to 5, 8, 9. No condition but the lists' lengths: contracts of functions. -/
namespace Go.Anv
open Go
/-- A Cpu as Proper leaves it, as far as it matters here. -/
structure CpuV.Pr (c : CpuV) : Prop where
  cfg : propF c.cfg = c.cfg
  mode : c.mode = 0 ∨ c.mode = 3
theorem CpuV.proper_pr (c : CpuV) : c.proper.Pr := by
  refine ⟨funext fun j => cfgOf_idem _, ?_⟩
  show (if c.mode = 3 then (3 : Int) else 0) = 0 ∨ (if c.mode = 3 then (3 : Int) else 0) = 3
  split
  · exact .inr rfl
  · exact .inl rfl
theorem dfin (z : Sc) {y x : Bool} {J : List Blk} (h : x = y) : Anv.Ends 7 (fun v h' => v = .s (.bool y) ∧ h' = z.lists) (.s (.bool x)) (z.lists ++ J) := by
  subst h
  exact Ends.ro (H := z.lists) rfl rfl rfl
end Go.Anv
namespace Go.Proofs.YtghcdkpgcanpgaaGreat
open Go Go.Anv
set_option maxRecDepth 100000 in
theorem drule2_spec (z : Sc) : Does TB 24 [.agg z.doc] z.lists (fun v h' => v = .s (.bool z.rule2) ∧ h' = z.lists) := by
  refine fnX_does TB Tryz.func24 rfl (by decide) (fun O on hO => ?_)
  repeat (refine need_intro (by first | exact fun h => h | exact nt | exact an2 | exact an3 | rfl | (simp; done) | fail) ?_)
  refine dfin z ?_
  unfold Sc.rule2
  simp only [cond_and, beq_nat]
  rw [Bool.and_right_comm]
set_option maxRecDepth 100000 in
theorem dsame_spec (s t : BusV) (l k : Lists) (c0 c1 c2 c3 c4 c5 : Nat) (h0 : s.nr < 2 ^ 62) (h0' : t.nr < 2 ^ 62) (h1 : s.ni < 2 ^ 62) (h2 : t.ni < 2 ^ 62) (h3 : s.no < 2 ^ 62) (h4 : t.no < 2 ^ 62) :
    Does TB 76 [.agg (s.segs (.gs 0 0 s.nr c0) (.gs 1 0 s.ni c1) (.gs 2 0 s.no c2)), .agg (t.segs (.gs 3 0 t.nr c3) (.gs 4 0 t.ni c4) (.gs 5 0 t.no c5))] (l.blks s ++ k.blks t) (fun v h' => v = .s (.bool (devS s t l k && (s.nr == t.nr && eqB s.nr l.ram k.ram))) ∧ h' = l.blks s ++ k.blks t) := by
  refine fnX_does TB Tryz.func76 rfl (by decide) (fun O on hO => ?_)
  repeat (refine need_intro (by first | exact fun h => h | exact nt | exact an2 | exact an3 | rfl | (simp; done) | fail) ?_)
  have fin : ∀ {x : Bool} {J : List Blk}, x = (devS s t l k && (s.nr == t.nr && eqB s.nr l.ram k.ram)) → Anv.Ends 6 (fun v h' => v = .s (.bool (devS s t l k && (s.nr == t.nr && eqB s.nr l.ram k.ram))) ∧ h' = l.blks s ++ k.blks t) (.s (.bool x)) (l.blks s ++ k.blks t ++ J) := by
    rintro x J rfl
    exact Ends.ro rfl rfl rfl
  refine Does.atc (devices_spec s t l k c0 c1 c2 c3 c4 c5 h1 h2 h3 h4) [0, 1, 2, 3, 4, 5] rfl ⟨rfl, rfl, rfl, rfl, rfl, rfl, trivial⟩ (by decide) ?_
  repeat (refine need_intro (by first | exact fun h => h | exact nt | exact an2 | exact an3 | rfl | (simp; done) | fail) ?_)
  refine ifB_intro (fun g => ?_) (fun g => ?_)
  · refine Does.ungd (b := [_, _]) ⟨⟨g, rfl⟩, ⟨g, rfl⟩, trivial⟩ ?_
    refine Does.atc (bytesSame_spec l.mr k.mr s.nr t.nr c0 c3 l.sr k.sr l.ram k.ram h0 h0') [0, 3] rfl ⟨rfl, rfl, trivial⟩ (by decide) ?_
    repeat (refine need_intro (by first | exact g | exact fun h => h | exact nt | exact an2 | exact an3 | rfl | (simp; done) | fail) ?_)
    refine fin ?_
    exact cond_and _ _
  · repeat (refine need_intro (by first | exact g | exact fun h => h | exact nt | exact an2 | exact an3 | rfl | (simp; done) | fail) ?_)
    refine fin ?_
    replace g : devS s t l k = false := g
    rw [g]; rfl
set_option maxRecDepth 100000 in
theorem drule3_spec (z : Sc) (ok : z.Ok) : Does TB 25 [.agg z.doc] z.lists (fun v h' => v = .s (.bool z.rule3) ∧ h' = z.lists) := by
  refine fnX_does TB Tryz.func25 rfl (by decide) (fun O on hO => ?_)
  repeat (refine need_intro (by first | exact fun h => h | exact nt | exact an2 | exact an3 | rfl | (simp; done) | fail) ?_)
  refine ifB_intro (fun h1 => dfin z ?_) (fun h1 => ?_)
  · replace h1 : ((z.r.kind == 5) != (z.s.off != 0)) = true := h1
    unfold Sc.rule3
    revert h1
    cases (z.r.kind == 5) <;> cases (z.s.off != 0) <;> intro h1 <;> first | rfl | cases h1
  replace h1 : ((z.r.kind == 5) != (z.s.off != 0)) = false := h1
  have h1' : (z.s.off != 0) = (z.r.kind == 5) := (bne_eq_false_iff_eq.1 h1).symm
  have e3 : z.rule3 = (!(z.s.off != 0) || z.sameS) := by
    unfold Sc.rule3
    rw [h1']
    cases (z.r.kind == 5) <;> rfl
  repeat (refine need_intro (by first | exact fun h => h | exact nt | exact an2 | exact an3 | rfl | (simp; done) | fail) ?_)
  refine ifB_intro (fun g => ?_) (fun g => ?_)
  · refine Does.ungd (b := [_, _]) ⟨⟨g, rfl⟩, ⟨g, rfl⟩, trivial⟩ ?_
    refine Does.atc (dsame_spec z.t z.s z.k z.l z.c3 z.c4 z.c5 z.c0 z.c1 z.c2 (Nat.lt_of_le_of_lt ok.mr (by decide)) (Nat.lt_of_le_of_lt ok.nr (by decide)) (Nat.lt_of_le_of_lt ok.mi (by decide)) (Nat.lt_of_le_of_lt ok.ni (by decide)) (Nat.lt_of_le_of_lt ok.mo (by decide)) (Nat.lt_of_le_of_lt ok.no (by decide))) [3, 4, 5, 0, 1, 2] rfl ⟨rfl, rfl, rfl, rfl, rfl, rfl, trivial⟩ (by decide) ?_
    replace g : (!!(z.s.off != 0) && cpuS z.d z.c) = true := g
    repeat (refine need_intro (by first | exact g | exact fun h => h | exact nt | exact an2 | exact an3 | rfl | (simp; done) | fail) ?_)
    refine dfin z ?_
    rw [e3]
    show (bif !(z.s.off != 0) then true else bif cpuS z.d z.c then (devS z.t z.s z.k z.l && (z.t.nr == z.s.nr && eqB z.t.nr z.k.ram z.l.ram)) else false) = _
    rw [cond_or, cond_and]
    unfold Sc.sameS
    rw [Bool.and_assoc]
  · replace g : (!!(z.s.off != 0) && cpuS z.d z.c) = false := g
    repeat (refine need_intro (by first | exact g | exact nn3 g | exact nn2 g | exact fun h => h | exact nt | exact an2 | exact an3 | rfl | (simp; done) | fail) ?_)
    refine dfin z ?_
    rw [e3]
    show (bif !(z.s.off != 0) then true else false) = _
    unfold Sc.sameS
    revert g
    cases (z.s.off != 0) <;> cases (cpuS z.d z.c) <;> intro g <;> first | rfl | cases g
set_option maxRecDepth 100000 in
theorem drule4_spec (z : Sc) : Does TB 26 [.agg z.doc] z.lists (fun v h' => v = .s (.bool z.rule4) ∧ h' = z.lists) := by
  refine fnX_does TB Tryz.func26 rfl (by decide) (fun O on hO => ?_)
  repeat (refine need_intro (by first | exact fun h => h | exact nt | exact an2 | exact an3 | rfl | (simp; done) | fail) ?_)
  refine ifB_intro (fun h1 => ?_) (fun h1 => ?_)
  · repeat (refine need_intro (by first | exact fun h => h | exact nt | exact an2 | exact an3 | rfl | (simp; done) | fail) ?_)
    refine dfin z ?_
    unfold Sc.rule4
    rw [if_pos h1]
    simp only [cond_and, eqx, e0]
  · have h1' : ¬ (z.r.kind != 1) = true := by rw [h1]; decide
    repeat (refine need_intro (by first | exact fun h => h | exact nt | exact an2 | exact an3 | rfl | (simp; done) | fail) ?_)
    refine ifB_intro (fun h2 => ?_) (fun h2 => ?_)
    · refine dfin z ?_
      unfold Sc.rule4
      rw [if_neg h1', if_pos]
      rw [cond_or, Bool.or_eq_true, decide_eq_true_eq, decide_eq_true_eq] at h2
      exact h2
    · rw [cond_or, Bool.or_eq_false_iff, decide_eq_false_iff_not, decide_eq_false_iff_not] at h2
      have h2' : ¬ (z.r.rd < 0 ∨ 31 < z.r.rd) := by omega
      repeat (refine need_intro (by first | exact fun h => h | exact nt | exact an2 | exact an3 | rfl | (simp; done) | fail) ?_)
      refine ifB_intro (fun h3 => ?_) (fun h3 => ?_)
      · repeat (refine need_intro (by first | omega | (exact ⟨by omega, by omega⟩) | exact fun h => h | exact nt | exact an2 | exact an3 | rfl | (simp; done) | fail) ?_)
        refine dfin z ?_
        unfold Sc.rule4
        rw [if_neg h1', if_neg h2']
        exact reg_yes _ _ _ _ h3
      · repeat (refine need_intro (by first | exact fun h => h | exact nt | exact an2 | exact an3 | rfl | (simp; done) | fail) ?_)
        refine dfin z ?_
        unfold Sc.rule4
        rw [if_neg h1', if_neg h2']
        exact reg_no _ _ _ _ h3
set_option maxRecDepth 100000 in
theorem drule5_spec (z : Sc) (ok : z.Ok) (hnr : z.t.nr = z.s.nr) : Does TB 27 [.agg z.doc] z.lists (fun v h' => v = .s (.bool z.rule5) ∧ h' = z.lists) := by
  refine fnX_does TB Tryz.func27 rfl (by decide) (fun O on hO => ?_)
  repeat (refine need_intro (by first | exact fun h => h | exact nt | exact an2 | exact an3 | rfl | (simp; done) | fail) ?_)
  refine ifB_intro (fun h1 => dfin z ?_) (fun h1 => ?_)
  · unfold Sc.rule5; rw [h1]; rfl
  have hs := ok.nr
  have hm : z.rule5 = allN z.s.nr fun i => z.k.ram i == z.l.ram i || grantI z.c.cfg z.c.addr (ramAt i) 2 := by
    unfold Sc.rule5; rw [h1]; rfl
  refine loop_by (A := Nat) on (fun k => [(3, .s (.int .i64 (k : Int)))]) (fun _ => z.lists ++ [.cells true z.doc 0]) (fun k => k ≤ z.s.nr ∧ ∀ i, i < k → (z.k.ram i == z.l.ram i || grantI z.c.cfg z.c.addr (ramAt i) 2) = true) (fun k => z.s.nr - k) 0 ⟨Nat.zero_le _, fun i hi => absurd hi (Nat.not_lt_zero i)⟩ ?_ ?_
  · refine ⟨?_, eqvH_refl _⟩
    repeat' (first | exact eqvT_nil | refine eqvT_junk ?_ | refine eqvT_same ?_ | refine eqvT_int ?_ ?_)
  intro i ⟨hi, hp⟩
  repeat (refine need_intro (by first | exact fun h => h | exact nt | exact an2 | exact an3 | rfl | (simp; done) | fail) ?_)
  refine ifB_intro (fun h2 => ?_) (fun h2 => ?_)
  · have hi1 : i < z.s.nr := by have := of_decide_eq_true h2; omega
    have hne : (bfun z.k.ram (0 + (i : Int).toNat) != bfun z.l.ram (0 + (i : Int).toNat)) = (z.k.ram i != z.l.ram i) := by
      rw [Nat.zero_add, Int.toNat_natCast]
      exact bne_nat _ _
    refine draw_held on rfl (fun _ _ h => h) ?_
    repeat (refine need_intro (by first | omega | (exact ⟨by omega, by omega⟩) | exact fun h => h | exact nt | exact an2 | exact an3 | rfl | (simp; done) | fail) ?_)
    refine ifB_intro (fun h3 => ?_) (fun h3 => ?_)
    · refine Does.ungd (b := [.agg (pmpSeg z.c.cfg z.c.addr), .s (.int .u64 ((ramAt i).toNat : Int)), .s (.int .i64 2)]) ⟨⟨h3, rfl⟩, ⟨h3, congrArg (fun z => EV.s (.int .u64 z)) (addk (a := 0x80000000#64) (k := i) (by omega))⟩, rfl, trivial⟩ ?_
      refine (rgranted_spec _ _ _ _ _).mono ?_
      rintro _ _ ⟨rfl, rfl⟩
      repeat (refine need_intro (by first | exact h3 | exact fun h => h | exact nt | exact an2 | exact an3 | rfl | (simp; done) | fail) ?_)
      replace h3 := hne.symm.trans h3
      have e : (bif bfun z.k.ram (0 + (i : Int).toNat) != bfun z.l.ram (0 + (i : Int).toNat) then !grantI z.c.cfg z.c.addr (ramAt i) 2 else false) = !(z.k.ram i == z.l.ram i || grantI z.c.cfg z.c.addr (ramAt i) 2) := by
        rw [cond_and, hne, bne]
        cases (z.k.ram i == z.l.ram i) <;> rfl
      refine ifB_intro (fun h4 => dfin z ?_) (fun h4 => ?_)
      · rw [hm]
        have := e.symm.trans h4
        rw [Bool.not_eq_true'] at this
        exact (allN_not hi1 this).symm
      · have := e.symm.trans h4
        rw [Bool.not_eq_false'] at this
        refine ⟨i + 1, ⟨hi1, fun j hj => ?_⟩, by show z.s.nr - (i + 1) < z.s.nr - i; omega, ?_⟩
        · rcases Nat.lt_succ_iff_lt_or_eq.1 hj with h | h
          · exact hp j h
          · subst h; exact this
        refine ⟨?_, eqvH_refl _⟩
        repeat' (first | exact eqvT_nil | refine eqvT_junk ?_ | refine eqvT_same ?_ | refine eqvT_int ?_ ?_)
        rw [i64_in (by omega) (by omega)]; omega
    · repeat (first | refine need_intro (by first | exact h3 | exact nt h3 | exact nn3 h3 | exact fun h => h | exact nt | exact an2 | exact an3 | rfl | (simp; done) | fail) ?_ | refine ifB_intro (fun h => absurd (h.symm.trans h3) (by decide)) (fun _ => ?_))
      have h4 := hne.symm.trans h3
      rw [bne, Bool.not_eq_false'] at h4
      refine ⟨i + 1, ⟨hi1, fun j hj => ?_⟩, by show z.s.nr - (i + 1) < z.s.nr - i; omega, ?_⟩
      · rcases Nat.lt_succ_iff_lt_or_eq.1 hj with h | h
        · exact hp j h
        · subst h; rw [h4]; rfl
      refine ⟨?_, eqvH_refl _⟩
      repeat' (first | exact eqvT_nil | refine eqvT_junk ?_ | refine eqvT_same ?_ | refine eqvT_int ?_ ?_)
      rw [i64_in (by omega) (by omega)]; omega
  · have hi1 : i = z.s.nr := by have := of_decide_eq_false h2; omega
    subst hi1
    refine dfin z ?_
    rw [hm]
    exact (allN_of hp).symm
set_option maxRecDepth 100000 in
theorem drule8_spec (z : Sc) (hc : z.c.Pr) : Does TB 29 [.agg z.doc] z.lists (fun v h' => v = .s (.bool z.rule8) ∧ h' = z.lists) := by
  refine fnX_does TB Tryz.func29 rfl (by decide) (fun O on hO => ?_)
  repeat (refine need_intro (by first | exact fun h => h | exact nt | exact an2 | exact an3 | rfl | (simp; done) | fail) ?_)
  refine loop_by (A := Nat) on (fun k => [(3, .s (.int .i64 (k : Int)))]) (fun _ => z.lists ++ [.cells true z.doc 0]) (fun k => k ≤ 16 ∧ ∀ i, i < k → badLock z i = false) (fun k => 16 - k) 0 ⟨Nat.zero_le _, fun i hi => absurd hi (Nat.not_lt_zero i)⟩ ?_ ?_
  · refine ⟨?_, eqvH_refl _⟩
    repeat' (first | exact eqvT_nil | refine eqvT_junk ?_ | refine eqvT_same ?_ | refine eqvT_int ?_ ?_)
  intro i ⟨hi, hp⟩
  refine ifB_intro (fun h2 => ?_) (fun h2 => ?_)
  · have hi1 : i < 16 := by have := of_decide_eq_true h2; omega
    have sp := rLocked_spec z.c.cfg z.c.addr i hi1 (z.lists ++ [.cells true z.doc 0])
    rw [hc.cfg] at sp
    refine sp.mono ?_
    rintro _ _ ⟨rfl, rfl⟩
    refine draw_held on rfl (fun _ _ h => h) ?_
    repeat (refine need_intro (by first | omega | exact fun _ => (by omega) | exact fun _ => ⟨by omega, by omega⟩ | exact fun h => h | exact nt | exact an2 | exact an3 | rfl | (simp; done) | fail) ?_)
    have e1 : (bif (bif lockA z.c.cfg i then bfun z.d.cfg ((i : Nat) : Int).toNat != bfun z.c.cfg ((i : Nat) : Int).toNat else false) then true else bif (lockA z.c.cfg i || lockT z.c.cfg i) then wfun z.d.addr ((i : Nat) : Int).toNat != wfun z.c.addr ((i : Nat) : Int).toNat else false) = badLock z i := by
      rw [cond_or, cond_and, cond_and, Int.toNat_natCast]
      unfold badLock
      congr 2
      · exact bne_nat _ _
      · exact bne_nat _ _
    refine ifB_intro (fun h3 => ?_) (fun h3 => ?_)
    · refine dfin z ?_
      unfold Sc.rule8
      rw [allN_not hi1 (by rw [e1.symm.trans h3]; rfl)]
    · refine ⟨i + 1, ⟨hi1, fun j hj => ?_⟩, by simp only; omega, ?_⟩
      · rcases Nat.lt_succ_iff_lt_or_eq.1 hj with h | h
        · exact hp j h
        · subst h; exact e1.symm.trans h3
      refine ⟨?_, eqvH_refl _⟩
      repeat' (first | exact eqvT_nil | refine eqvT_junk ?_ | refine eqvT_same ?_ | refine eqvT_int ?_ ?_)
      rw [i64_in (by omega) (by omega)]; omega
  · have hi1 : i = 16 := by have := of_decide_eq_false h2; omega
    subst hi1
    refine dfin z ?_
    unfold Sc.rule8
    exact (allN_of fun i hi => by rw [hp i hi]; rfl).symm
set_option maxRecDepth 100000 in
theorem drule9_spec (z : Sc) : Does TB 30 [.agg z.doc] z.lists (fun v h' => v = .s (.bool z.rule9) ∧ h' = z.lists) := by
  refine fnX_does TB Tryz.func30 rfl (by decide) (fun O on hO => ?_)
  repeat (refine need_intro (by first | exact fun h => h | exact nt | exact an2 | exact an3 | rfl | (simp; done) | fail) ?_)
  refine ifB_intro (fun h1 => ?_) (fun h1 => ?_)
  · refine dfin z ?_
    unfold Sc.rule9
    rw [if_pos h1]
  have h1' : ¬ (z.c.mode != 0) = true := by rw [h1]; decide
  repeat (refine need_intro (by first | exact fun h => h | exact nt | exact an2 | exact an3 | rfl | (simp; done) | fail) ?_)
  refine ifB_intro (fun h2 => ?_) (fun h2 => ?_)
  · refine dfin z ?_
    simp only [cond_or, bne_nat] at h2
    unfold Sc.rule9
    rw [if_neg h1', if_pos h2]
  simp only [cond_or, bne_nat] at h2
  refine Does.atc (dtrapped_spec z) [0, 1, 2, 3, 4, 5, 6] rfl ⟨rfl, rfl, rfl, rfl, rfl, rfl, rfl, trivial⟩ (by decide) ?_
  repeat (refine need_intro (by first | exact fun h => h | exact nt | exact an2 | exact an3 | rfl | (simp; done) | fail) ?_)
  refine ifB_intro (fun h3 => ?_) (fun h3 => ?_)
  · refine dfin z ?_
    unfold Sc.rule9
    rw [if_neg h1', if_neg (by rw [h2]; decide), h3]
    rfl
  repeat (refine need_intro (by first | exact fun h => h | exact nt | exact an2 | exact an3 | rfl | (simp; done) | fail) ?_)
  refine dfin z ?_
  unfold Sc.rule9
  rw [if_neg h1', if_neg (by rw [h2]; decide), h3]
  simp only [cond_and, beq_nat]
  rfl
end Go.Proofs.YtghcdkpgcanpgaaGreat

/- The document's side of a step: the rules 11 to 16 and 18. No condition but the lists' lengths: contracts of functions. -/
namespace Go.Anv
open Go
theorem cpuS_mc (c d : CpuV) : cpuS d { c with mcycle := d.mcycle } = cpuS { d with mcycle := c.mcycle } c := by
  simp [cpuS, CpuV.segs, eqSeg, sameK]
theorem inc_bit (m : B64) : (if m &&& 1#64 = 0#64 then 1#64 else 0#64 : B64) = 1#64 - (m &&& 1#64) := by
  rcases (show m &&& 1#64 = 0#64 ∨ m &&& 1#64 = 1#64 from by
    have h : (m &&& 1#64).toNat ≤ 1 := by rw [BitVec.toNat_and]; exact Nat.and_le_right
    rcases Nat.le_one_iff_eq_zero_or_eq_one.1 h with h | h
    · exact .inl (BitVec.eq_of_toNat_eq h)
    · exact .inr (BitVec.eq_of_toNat_eq h)) with h | h <;> rw [h] <;> decide
end Go.Anv
namespace Go.Proofs.YtghcdkpgcanpgaaGreat
open Go Go.Anv
set_option maxRecDepth 100000 in
theorem drule11_spec (z : Sc) : Does TB 32 [.agg z.doc] z.lists (fun v h' => v = .s (.bool z.rule11) ∧ h' = z.lists) := by
  refine fnX_does TB Tryz.func32 rfl (by decide) (fun O on hO => ?_)
  repeat (refine need_intro (by first | exact fun h => h | exact nt | exact an2 | exact an3 | rfl | (simp; done) | fail) ?_)
  refine ifB_intro (fun h1 => ?_) (fun h1 => ?_)
  · refine dfin z ?_
    unfold Sc.rule11
    rw [if_pos h1]
  have h1' : ¬ (z.r.kind != 4) = true := by rw [h1]; decide
  repeat (refine need_intro (by first | exact fun h => h | exact nt | exact an2 | exact an3 | rfl | (simp; done) | fail) ?_)
  refine draw_but [8] on rfl (fun _ _ h => h) ?_
  repeat (refine need_intro (by first | exact fun h => h | exact nt | exact an2 | exact an3 | rfl | (simp; done) | fail) ?_)
  refine ifB_intro (fun h2 => ?_) (fun h2 => ?_)
  · refine Does.ungd (b := [_]) ⟨⟨h2, rfl⟩, trivial⟩ ?_
    refine Does.atc (dmip_spec z.t z.k z.c3 z.c4 z.c5) [3, 4, 5] rfl ⟨rfl, rfl, rfl, trivial⟩ (by decide) ?_
    repeat (refine need_intro (by first | exact h2 | exact fun h => h | exact nt | exact an2 | exact an3 | rfl | (simp; done) | fail) ?_)
    refine dfin z ?_
    unfold Sc.rule11
    rw [if_neg h1']
    show (bif (bif z.c.waiting then bitX .and .u64 (((mipOf z.t).toNat : Nat) : Int) ((z.c.mie.toNat : Nat) : Int) == 0 else false) then cpuS z.d { z.c with mcycle := z.d.mcycle } else false) = _
    rw [cond_and, cond_and, and_u64, ofInt_toNat, ofInt_toNat, e0, cpuS_mc]
  · repeat (first | refine need_intro (by first | exact h2 | exact nt h2 | exact nn3 h2 | exact fun h => h | exact nt | exact an2 | exact an3 | rfl | (simp; done) | fail) ?_ | refine ifB_intro (fun h => absurd (h.symm.trans h2) (by decide)) (fun _ => ?_))
    refine dfin z ?_
    unfold Sc.rule11
    rw [if_neg h1', h2]
    rfl
set_option maxRecDepth 100000 in
theorem drule12_spec (z : Sc) : Does TB 33 [.agg z.doc] z.lists (fun v h' => v = .s (.bool z.rule12) ∧ h' = z.lists) := by
  refine fnX_does TB Tryz.func33 rfl (by decide) (fun O on hO => ?_)
  refine Does.atc (dsystem_spec z) [0, 1, 2, 3, 4, 5, 6] rfl ⟨rfl, rfl, rfl, rfl, rfl, rfl, rfl, trivial⟩ (by decide) ?_
  repeat (refine need_intro (by first | exact fun h => h | exact nt | exact an2 | exact an3 | rfl | (simp; done) | fail) ?_)
  refine ifB_intro (fun h1 => ?_) (fun h1 => ?_)
  · refine dfin z ?_
    unfold Sc.rule12
    rw [if_pos ((cond_or _ _).symm.trans h1)]
  have h1' : ¬ (z.r.counts || z.r.kind == 5) = true := by rw [← cond_or]; exact Bool.eq_false_iff.1 h1
  repeat (refine need_intro (by first | exact fun h => h | exact nt | exact an2 | exact an3 | rfl | (simp; done) | fail) ?_)
  have e : (bitX .and .u64 (z.c.mcountinhibit.toNat : Int) 1 == 0) = (z.c.mcountinhibit &&& 1#64 == 0#64) := by
    rw [and_u64, ofInt_toNat]; exact beq_nat _ 0#64
  refine ifB_intro (fun h2 => ?_) (fun h2 => ?_)
  · repeat (refine need_intro (by first | exact fun h => h | exact nt | exact an2 | exact an3 | rfl | (simp; done) | fail) ?_)
    refine dfin z ?_
    unfold Sc.rule12
    rw [if_neg h1', ← inc_bit, if_pos (eq_of_beq (e.symm.trans h2))]
    refine Eq.trans ?_ (beq_nat z.d.mcycle (z.c.mcycle + 1#64))
    rw [← add64]
    rfl
  · repeat (refine need_intro (by first | exact fun h => h | exact nt | exact an2 | exact an3 | rfl | (simp; done) | fail) ?_)
    refine dfin z ?_
    unfold Sc.rule12
    rw [if_neg h1', ← inc_bit, if_neg (fun h => by rw [e, h] at h2; cases h2), BitVec.add_zero]
    exact beq_nat _ _
set_option maxRecDepth 100000 in
theorem drule13_spec (z : Sc) : Does TB 34 [.agg z.doc] z.lists (fun v h' => v = .s (.bool z.rule13) ∧ h' = z.lists) := by
  refine fnX_does TB Tryz.func34 rfl (by decide) (fun O on hO => ?_)
  refine Does.atc (dsystem_spec z) [0, 1, 2, 3, 4, 5, 6] rfl ⟨rfl, rfl, rfl, rfl, rfl, rfl, rfl, trivial⟩ (by decide) ?_
  repeat (refine need_intro (by first | exact fun h => h | exact nt | exact an2 | exact an3 | rfl | (simp; done) | fail) ?_)
  refine ifB_intro (fun h1 => ?_) (fun h1 => ?_)
  · refine dfin z ?_
    unfold Sc.rule13
    rw [if_pos h1]
  have h1' : ¬ z.r.counts = true := Bool.eq_false_iff.1 h1
  repeat (refine need_intro (by first | exact fun h => h | exact nt | exact an2 | exact an3 | rfl | (simp; done) | fail) ?_)
  have e2 : (bif z.r.kind == 1 then bitX .and .u64 (z.c.mcountinhibit.toNat : Int) 4 == 0 else false) = (z.r.kind == 1 && z.c.mcountinhibit &&& 4#64 == 0#64) := by
    rw [cond_and, and_u64, ofInt_toNat]
    congr 1
    exact beq_nat _ 0#64
  refine ifB_intro (fun h2 => ?_) (fun h2 => ?_)
  · replace h2 := e2.symm.trans h2
    repeat (refine need_intro (by first | exact fun h => h | exact nt | exact an2 | exact an3 | rfl | (simp; done) | fail) ?_)
    refine dfin z ?_
    unfold Sc.rule13
    rw [if_neg h1', if_pos h2]
    refine Eq.trans ?_ (beq_nat z.d.minstret (z.c.minstret + 1#64))
    rw [← add64]
    rfl
  · replace h2 := e2.symm.trans h2
    repeat (refine need_intro (by first | exact fun h => h | exact nt | exact an2 | exact an3 | rfl | (simp; done) | fail) ?_)
    refine dfin z ?_
    unfold Sc.rule13
    rw [if_neg h1', if_neg (by rw [h2]; decide)]
    exact beq_nat _ _
set_option maxRecDepth 100000 in
theorem drule14_spec (z : Sc) : Does TB 35 [.agg z.doc] z.lists (fun v h' => v = .s (.bool z.rule14) ∧ h' = z.lists) := by
  refine fnX_does TB Tryz.func35 rfl (by decide) (fun O on hO => ?_)
  have tail : ∀ {x : Bool}, (x = if z.tick then z.t.now == z.s.now + 1#64 else z.t.now == z.s.now) → ¬ (z.r.storedAt 0x200bff8#64 8 || z.r.kind == 5) = true → x = z.rule14 := by
    rintro x rfl h
    unfold Sc.rule14
    rw [if_neg h]
  refine ifB_intro (fun g => ?_) (fun g => ?_)
  · refine Does.ungd (b := [_, .s (.int .u64 0x200bff8), .s (.int .i64 8)]) ⟨⟨g, rfl⟩, rfl, rfl, trivial⟩ ?_
    refine Does.atc (dstores_spec z 0x200bff8#64 8 (by decide)) [0, 1, 2, 3, 4, 5, 6] rfl ⟨rfl, rfl, rfl, rfl, rfl, rfl, rfl, trivial⟩ (by decide) ?_
    repeat (refine need_intro (by first | exact g | exact fun h => h | exact nt | exact an2 | exact an3 | rfl | (simp; done) | fail) ?_)
    have ec : (bif z.r.kind == 5 then true else z.r.storedAt 0x200bff8#64 8) = (z.r.storedAt 0x200bff8#64 8 || z.r.kind == 5) := by rw [cond_or, Bool.or_comm]
    refine ifB_intro (fun h1 => ?_) (fun h1 => ?_)
    · refine dfin z ?_
      unfold Sc.rule14
      rw [if_pos (ec.symm.trans h1)]
    have h1' : ¬ (z.r.storedAt 0x200bff8#64 8 || z.r.kind == 5) = true := by rw [← ec]; exact Bool.eq_false_iff.1 h1
    repeat (refine need_intro (by first | exact fun h => h | exact nt | exact an2 | exact an3 | rfl | (simp; done) | fail) ?_)
    refine ifB_intro (fun h2 => ?_) (fun h2 => ?_)
    · repeat (refine need_intro (by first | exact fun h => h | exact nt | exact an2 | exact an3 | rfl | (simp; done) | fail) ?_)
      refine dfin z (tail ?_ h1')
      rw [if_pos h2]
      refine Eq.trans ?_ (beq_nat z.t.now (z.s.now + 1#64))
      rw [← add64]
      rfl
    · repeat (refine need_intro (by first | exact fun h => h | exact nt | exact an2 | exact an3 | rfl | (simp; done) | fail) ?_)
      refine dfin z (tail ?_ h1')
      rw [if_neg (by rw [h2]; decide)]
      exact beq_nat _ _
  · have g' : (z.r.kind == 5) = true := by simpa using (show (!(z.r.kind == 5)) = false from g)
    repeat (refine need_intro (by first | exact g | exact g' | (exact fun _ => g') | exact fun h => h | exact nt | exact an2 | exact an3 | rfl | (simp; done) | fail) ?_)
    refine dfin z ?_
    unfold Sc.rule14
    rw [if_pos (by rw [g', Bool.or_true])]
set_option maxRecDepth 100000 in
theorem drule15_spec (z : Sc) : Does TB 36 [.agg z.doc] z.lists (fun v h' => v = .s (.bool z.rule15) ∧ h' = z.lists) := by
  refine fnX_does TB Tryz.func36 rfl (by decide) (fun O on hO => ?_)
  repeat (refine need_intro (by first | exact fun h => h | exact nt | exact an2 | exact an3 | rfl | (simp; done) | fail) ?_)
  refine Does.atc (dstores_spec z 0x2004000#64 8 (by decide)) [0, 1, 2, 3, 4, 5, 6] rfl ⟨rfl, rfl, rfl, rfl, rfl, rfl, rfl, trivial⟩ (by decide) ?_
  repeat (refine need_intro (by first | exact fun h => h | exact nt | exact an2 | exact an3 | rfl | (simp; done) | fail) ?_)
  have e1 : (bif !z.r.storedAt 0x2004000#64 8 then ((z.t.cmp.toNat : Nat) : Int) != ((z.s.cmp.toNat : Nat) : Int) else false) = !(z.r.storedAt 0x2004000#64 8 || z.t.cmp == z.s.cmp) := by
    rw [cond_and, bne_nat, bne, Bool.not_or]
  refine ifB_intro (fun h1 => ?_) (fun h1 => ?_)
  · replace h1 := e1.symm.trans h1
    rw [Bool.not_eq_true'] at h1
    refine dfin z ?_
    unfold Sc.rule15
    rw [h1]; rfl
  replace h1 := e1.symm.trans h1
  rw [Bool.not_eq_false'] at h1
  repeat (refine need_intro (by first | exact fun h => h | exact nt | exact an2 | exact an3 | rfl | (simp; done) | fail) ?_)
  refine Does.atc (dstores_spec z 0x2000000#64 4 (by decide)) [0, 1, 2, 3, 4, 5, 6] rfl ⟨rfl, rfl, rfl, rfl, rfl, rfl, rfl, trivial⟩ (by decide) ?_
  repeat (refine need_intro (by first | exact fun h => h | exact nt | exact an2 | exact an3 | rfl | (simp; done) | fail) ?_)
  refine dfin z ?_
  unfold Sc.rule15
  rw [h1, cond_or, beq_nat z.t.msip]
  rfl
set_option maxRecDepth 100000 in
theorem drule18_spec (z : Sc) (hc : z.c.Pr) : Does TB 38 [.agg z.doc] z.lists (fun v h' => v = .s (.bool z.rule18) ∧ h' = z.lists) := by
  refine fnX_does TB Tryz.func38 rfl (by decide) (fun O on hO => ?_)
  repeat (refine need_intro (by first | exact fun h => h | exact nt | exact an2 | exact an3 | rfl | (simp; done) | fail) ?_)
  have last : ¬ (z.d.mode == z.c.mode) = true → ¬ (z.c.mode == 0 && z.r.trapped) = true → ∀ {x : Bool}, x = (z.c.mode == 3 && isMret z.r) → x = z.rule18 := by
    rintro h1 h2 x rfl
    unfold Sc.rule18
    rw [if_neg h1]
    rcases hc.mode with h | h
    · rw [h] at h2 ⊢
      rw [if_pos (by decide)]
      have : z.r.trapped = false := by simpa using h2
      rw [this]; rfl
    · rw [h, if_neg (by decide)]; rfl
  refine ifB_intro (fun g => ?_) (fun g => ?_)
  · refine Does.ungd (b := [_]) ⟨⟨g, rfl⟩, trivial⟩ ?_
    refine Does.atc (dtrapped_spec z) [0, 1, 2, 3, 4, 5, 6] rfl ⟨rfl, rfl, rfl, rfl, rfl, rfl, rfl, trivial⟩ (by decide) ?_
    replace g : (!(z.d.mode == z.c.mode) && z.c.mode == 0) = true := g
    repeat (refine need_intro (by first | exact g | exact nn3 g | exact fun h => h | exact nt | exact an2 | exact an3 | rfl | (simp; done) | fail) ?_)
    rw [Bool.and_eq_true, Bool.not_eq_true'] at g
    have h1' : ¬ (z.d.mode == z.c.mode) = true := by rw [g.1]; decide
    refine ifB_intro (fun h => dfin z ?_) (fun h => ?_)
    · replace h : (bif z.d.mode == z.c.mode then true else bif z.c.mode == 0 then z.r.trapped else false) = true := h
      rw [g.1, g.2] at h
      unfold Sc.rule18
      rw [if_neg h1', if_pos g.2]
      exact h.symm
    · replace h : (bif z.d.mode == z.c.mode then true else bif z.c.mode == 0 then z.r.trapped else false) = false := h
      rw [g.1, g.2] at h
      repeat (refine need_intro (by first | exact fun h => h | exact nt | exact an2 | exact an3 | rfl | (simp; done) | fail) ?_)
      refine dfin z (last h1' (by rw [g.2, Bool.true_and]; exact Bool.eq_false_iff.1 h) ?_)
      have er : (((z.r.raw.toNat : Nat) : Int) == 807403635) = (z.r.raw == 807403635#32) := beq_nat _ 807403635#32
      show (bif bif z.c.mode == 3 then z.r.kind == 1 else false then ((z.r.raw.toNat : Nat) : Int) == 807403635 else false) = _
      rw [cond_and, cond_and, er, Bool.and_assoc]
      rfl
  · repeat (first | refine need_intro (by first | exact g | exact nt g | exact nn3 g | exact fun h => h | exact nt | exact an2 | exact an3 | rfl | (simp; done) | fail) ?_ | refine ifB_intro (fun h => absurd (h.symm.trans g) (by decide)) (fun _ => ?_))
    replace g : (!(z.d.mode == z.c.mode) && z.c.mode == 0) = false := g
    refine ifB_intro (fun h => dfin z ?_) (fun h => ?_)
    · replace h : (bif z.d.mode == z.c.mode then true else false) = true := h
      unfold Sc.rule18
      rw [if_pos (by revert h; cases (z.d.mode == z.c.mode) <;> intro h <;> first | rfl | cases h)]
    · replace h : (bif z.d.mode == z.c.mode then true else false) = false := h
      have h' : (z.d.mode == z.c.mode) = false := by revert h; cases (z.d.mode == z.c.mode) <;> intro h <;> first | rfl | cases h
      rw [h'] at g
      repeat (refine need_intro (by first | exact fun h => h | exact nt | exact an2 | exact an3 | rfl | (simp; done) | fail) ?_)
      refine dfin z (last (by rw [h']; decide) (by rw [show (z.c.mode == 0) = false from g, Bool.false_and]; decide) ?_)
      have er : (((z.r.raw.toNat : Nat) : Int) == 807403635) = (z.r.raw == 807403635#32) := beq_nat _ 807403635#32
      show (bif bif z.c.mode == 3 then z.r.kind == 1 else false then ((z.r.raw.toNat : Nat) : Int) == 807403635 else false) = _
      rw [cond_and, cond_and, er, Bool.and_assoc]
      rfl
end Go.Proofs.YtghcdkpgcanpgaaGreat
