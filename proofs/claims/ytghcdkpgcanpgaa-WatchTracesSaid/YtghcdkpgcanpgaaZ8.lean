/- Part 8 of the texts of this claim, merged: Q9, Q10, Q11, Q12, Q13, Q14, Q15, E21, U5, U9, U10, U11. No condition: plain theorems, contracts of functions. -/
import Derived.Test.YtghcdkpgcanpgaaZ7

set_option linter.unusedSimpArgs false
set_option linter.unusedVariables false
/- Watching: the rules 1 to 5 and 7, as the program asks them. No condition but the lists' lengths. -/
namespace Go.Anv
open Go
/-- The boxes of what the rules' closures hold. -/
def boxes : List Blk := [.cells true [.one (.ptr 7 0)] 0, .cells true [.one (.ptr 7 0)] 0, .cells true [.one (.ptr 7 97)] 0, .cells true [.one (.ptr 7 198)] 0, .cells true [.one (.ptr 7 82)] 0, .cells true [.one (.ptr 7 179)] 0]
def Sc.hb (z : Sc) : List Blk := z.h ++ boxes
def allN (n : Nat) (f : Nat → Bool) : Bool := (List.range n).all f
theorem allN_of {n : Nat} {f : Nat → Bool} (h : ∀ i, i < n → f i = true) : allN n f = true := List.all_eq_true.2 fun i hi => h i (List.mem_range.1 hi)
theorem allN_not {n i : Nat} {f : Nat → Bool} (hi : i < n) (h : f i = false) : allN n f = false := by
  rw [Bool.eq_false_iff]
  intro e
  have := List.all_eq_true.1 e i (List.mem_range.2 hi)
  rw [h] at this
  cases this
def ramAt (i : Nat) : B64 := 0x80000000#64 + BitVec.ofNat 64 i
def Sc.rule1 (z : Sc) : Bool := z.t.nr == z.s.nr && cpuS z.e z.d
def Sc.rule2 (z : Sc) : Bool := decide (z.r.kind ≥ 1) && decide (z.r.kind ≤ 5) && z.r.mode == z.c.mode && z.r.pc == z.c.pc && z.r.nextMode == z.d.mode && z.r.next == z.d.pc
def Sc.sameS (z : Sc) : Bool := cpuS z.d z.c && devS z.t z.s z.k z.l && (z.t.nr == z.s.nr && eqB z.t.nr z.k.ram z.l.ram)
def Sc.rule3 (z : Sc) : Bool := (z.r.kind == 5) == (z.s.off != 0) && (!(z.r.kind == 5) || z.sameS)
def xS (x y : Nat → B64) : Bool := allN 32 fun j => x j == y j
def Sc.rule4 (z : Sc) : Bool :=
  if z.r.kind != 1 then xS z.d.x z.c.x && z.r.rd == 0 && z.r.val == 0#64 && z.r.mem == 0 && z.r.addr == 0#64 && z.r.size == 0 && z.r.data == 0#64
  else if z.r.rd < 0 ∨ 31 < z.r.rd then false else xS z.d.x (fun j => if z.r.rd ≠ 0 ∧ j = z.r.rd.toNat then z.r.val else z.c.x j)
def Sc.rule5 (z : Sc) : Bool := z.c.mode != 0 || allN z.s.nr fun i => z.k.ram i == z.l.ram i || grantI z.c.cfg z.c.addr (ramAt i) 2
def pmpS (c d : CpuV) : Bool := (allN 16 fun j => c.cfg j == d.cfg j) && allN 16 fun j => c.addr j == d.addr j
def Sc.rule7 (z : Sc) : Bool := z.c.mode != 0 || pmpS z.d z.c
theorem nn2 {a b : Bool} (g : (a && !!b) = false) (h : a = true) : (!b) = true := by cases b <;> simp_all
theorem eqx (x y : Nat → B64) : (((List.range 32).all fun j => wfun x j == wfun y j) && true) = xS x y := by
  rw [Bool.and_true]
  unfold xS allN; congr 1; funext j; exact beq_nat _ _
theorem reg_yes (x y : Nat → B64) (r : Int) (v : B64) (h : (r != 0) = true) : (((List.range 32).all fun j => wfun x j == (fun j => if j = r.toNat then (v.toNat : Int) else wfun y j) j) && true) = xS x (fun j => if r ≠ 0 ∧ j = r.toNat then v else y j) := by
  rw [Bool.and_true]
  unfold xS allN; congr 1; funext j
  have hr : r ≠ 0 := by simpa using h
  by_cases hj : j = r.toNat
  · simp only [hj, if_true, hr, ne_eq, not_false_eq_true, and_self]
    exact beq_nat _ _
  · simp only [hj, if_false, and_false]
    exact beq_nat _ _
theorem reg_no (x y : Nat → B64) (r : Int) (v : B64) (h : (r != 0) = false) : (((List.range 32).all fun j => wfun x j == wfun y j) && true) = xS x (fun j => if r ≠ 0 ∧ j = r.toNat then v else y j) := by
  rw [eqx]
  have hr : r = 0 := by simpa using h
  simp [hr]
theorem e0 (a : B64) : ((a.toNat : Int) == 0) = (a == 0#64) := beq_nat a 0#64
theorem all_b (n : Nat) (p q : Nat → B8) : ((List.range n).all fun j => bfun p j == bfun q j) = allN n fun j => p j == q j := by
  unfold allN; congr 1; funext j; exact beq_nat _ _
theorem all_w (n : Nat) (p q : Nat → B64) : ((List.range n).all fun j => wfun p j == wfun q j) = allN n fun j => p j == q j := by
  unfold allN; congr 1; funext j; exact beq_nat _ _
end Go.Anv
namespace Go.Proofs.Ytghcdkpgcanpgaa
open Go Go.Anv
set_option maxRecDepth 100000 in
theorem rule1_spec (z : Sc) : Does TB 115 [.s (.ptr 13 0), .s (.ptr 12 0), .s (.ptr 8 0), .s (.ptr 10 0)] z.hb (fun v h' => v = .s (.bool z.rule1) ∧ h' = z.hb) := by
  refine fnX_does TB Try.func115 rfl (by decide) (fun O on hO => ?_)
  refine draw_held on rfl (fun _ _ h => h) ?_
  repeat (refine need_intro (by first | exact fun h => h | exact nt | exact an2 | rfl | (simp; done) | fail) ?_)
  refine Ends.ro (H := z.hb) rfl ?_ rfl
  refine (cond_and _ _).trans ?_
  unfold Sc.rule1
  congr 1
  exact int_beq _ _
set_option maxRecDepth 100000 in
theorem rule2_spec (z : Sc) : Does TB 116 [.s (.ptr 11 0), .s (.ptr 9 0), .s (.ptr 10 0)] z.hb (fun v h' => v = .s (.bool z.rule2) ∧ h' = z.hb) := by
  refine fnX_does TB Try.func116 rfl (by decide) (fun O on hO => ?_)
  refine draw_held on rfl (fun _ _ h => h) ?_
  repeat (refine need_intro (by first | exact fun h => h | exact nt | exact an2 | rfl | (simp; done) | fail) ?_)
  refine Ends.ro (H := z.hb) rfl ?_ rfl
  show _ = z.rule2
  unfold Sc.rule2
  simp only [cond_and, beq_nat]
  done
set_option maxRecDepth 100000 in
theorem wsame_spec (c d : CpuV) (s t : BusV) (l k : Lists) (c0 c1 c2 c3 c4 c5 : Nat) :
    Does TB 118 [.agg (wsegs c s (.gs 0 0 s.nr c0) (.gs 1 0 s.ni c1) (.gs 2 0 s.no c2)), .agg (wsegs d t (.gs 3 0 t.nr c3) (.gs 4 0 t.ni c4) (.gs 5 0 t.no c5))] (l.blks s ++ k.blks t) (fun v h' => v = .s (.bool (cpuS c d && devS s t l k && (s.nr == t.nr && eqB s.nr l.ram k.ram))) ∧ h' = l.blks s ++ k.blks t) := by
  refine fnX_does TB Try.func118 rfl (by decide) (fun O on hO => ?_)
  repeat (refine need_intro (by first | exact fun h => h | exact nt | exact an2 | rfl | (simp; done) | fail) ?_)
  have fin : ∀ {x : Bool} {b e : Blk}, x = (cpuS c d && devS s t l k && (s.nr == t.nr && eqB s.nr l.ram k.ram)) → Anv.Ends 6 (fun v h' => v = .s (.bool (cpuS c d && devS s t l k && (s.nr == t.nr && eqB s.nr l.ram k.ram))) ∧ h' = l.blks s ++ k.blks t) (.s (.bool x)) (l.blks s ++ k.blks t ++ [b, e]) := by
    rintro x b e rfl
    exact Ends.ro rfl rfl rfl
  refine ifB_intro (fun g => ?_) (fun g => ?_)
  · refine Does.ungd (b := [_, _]) ⟨⟨g, rfl⟩, ⟨g, rfl⟩, trivial⟩ ?_
    replace g : cpuS c d = true := g
    refine Does.atc (sameBus_spec s t l k c0 c1 c2 c3 c4 c5) [0, 1, 2, 3, 4, 5] rfl ⟨rfl, rfl, rfl, rfl, rfl, rfl, trivial⟩ (by decide) ?_
    repeat (refine need_intro (by first | exact fun h => h | exact nt | exact an2 | rfl | (simp; done) | fail) ?_)
    refine ifB_intro (fun g2 => ?_) (fun g2 => ?_)
    · refine Does.ungd (b := [_, _]) ⟨⟨g2, rfl⟩, ⟨g2, rfl⟩, trivial⟩ ?_
      replace g2 : (bif cpuS c d then devS s t l k else false) = true := g2
      refine Does.atc (equal2_spec l.mr k.mr s.nr t.nr c0 c3 l.sr k.sr l.ram k.ram) [0, 3] rfl ⟨rfl, rfl, trivial⟩ (by decide) ?_
      repeat (refine need_intro (by first | exact fun h => h | exact nt | exact an2 | rfl | (simp; done) | fail) ?_)
      refine fin ?_
      show (bif (bif cpuS c d then devS s t l k else false) then _ else false) = _
      rw [cond_and, cond_and]
    · replace g2 : (bif cpuS c d then devS s t l k else false) = false := g2
      repeat (refine need_intro (by first | exact g2 | exact fun h => h | exact nt | exact an2 | rfl | (simp; done) | fail) ?_)
      refine fin ?_
      rw [cond_and] at g2
      rw [g2]; rfl
  · replace g : cpuS c d = false := g
    repeat (refine need_intro (by first | exact g | exact fun h => h | exact nt | exact an2 | rfl | (simp; done) | fail) ?_)
    refine fin ?_
    rw [g]; rfl
set_option maxRecDepth 100000 in
theorem rule3_spec (z : Sc) : Does TB 117 [.s (.ptr 11 0), .s (.ptr 12 0), .s (.ptr 8 0)] z.hb (fun v h' => v = .s (.bool z.rule3) ∧ h' = z.hb) := by
  refine fnX_does TB Try.func117 rfl (by decide) (fun O on hO => ?_)
  refine draw_held on rfl (fun _ _ h => h) ?_
  repeat (refine need_intro (by first | exact fun h => h | exact nt | exact an2 | rfl | (simp; done) | fail) ?_)
  refine ifB_intro (fun g => ?_) (fun g => ?_)
  · refine Does.ungd (b := [_, _]) ⟨⟨g, rfl⟩, ⟨g, rfl⟩, trivial⟩ ?_
    replace g : ((z.r.kind == 5) == (z.s.off != 0) && !!(z.r.kind == 5)) = true := g
    refine Does.atc (wsame_spec z.d z.c z.t z.s z.k z.l z.c3 z.c4 z.c5 z.c0 z.c1 z.c2) [3, 4, 5, 0, 1, 2] rfl ⟨rfl, rfl, rfl, rfl, rfl, rfl, trivial⟩ (by decide) ?_
    repeat (refine need_intro (by first | exact fun h => h | exact nt | exact an2 | rfl | (simp; done) | fail) ?_)
    refine Ends.ro (H := z.hb) rfl ?_ rfl
    show (bif (z.r.kind == 5) == (z.s.off != 0) then (bif !(z.r.kind == 5) then true else z.sameS) else false) = z.rule3
    rw [cond_or, cond_and]
    rfl
  · replace g : ((z.r.kind == 5) == (z.s.off != 0) && !!(z.r.kind == 5)) = false := g
    repeat (refine need_intro (by first | exact g | exact nn2 g | exact fun h => h | exact nt | exact an2 | rfl | (simp; done) | fail) ?_)
    refine Ends.ro (H := z.hb) rfl ?_ rfl
    show (bif (z.r.kind == 5) == (z.s.off != 0) then true else false) = z.rule3
    unfold Sc.rule3
    revert g
    cases ((z.r.kind == 5) == (z.s.off != 0)) <;> cases (z.r.kind == 5) <;> intro g <;> first | rfl | cases g
set_option maxRecDepth 100000 in
theorem rule7_spec (z : Sc) : Does TB 124 [.s (.ptr 9 0), .s (.ptr 10 0)] z.hb (fun v h' => v = .s (.bool z.rule7) ∧ h' = z.hb) := by
  refine fnX_does TB Try.func124 rfl (by decide) (fun O on hO => ?_)
  refine draw_held on rfl (fun _ _ h => h) ?_
  repeat (refine need_intro (by first | exact fun h => h | exact nt | exact an2 | rfl | (simp; done) | fail) ?_)
  refine Ends.ro (H := z.hb) rfl ?_ rfl
  refine (cond_or _ _).trans ?_
  unfold Sc.rule7 pmpS
  congr 1
  show (((List.range 16).all fun j => bfun z.d.cfg j == bfun z.c.cfg j) && (((List.range 16).all fun j => wfun z.d.addr j == wfun z.c.addr j) && true)) = _
  rw [all_b, all_w, Bool.and_true]
set_option maxRecDepth 100000 in
theorem rule4_spec (z : Sc) : Does TB 119 [.s (.ptr 7 0)] z.h (fun v h' => v = .s (.bool z.rule4) ∧ h' = z.h) := by
  refine fnX_does TB Try.func119 rfl (by decide) (fun O on hO => ?_)
  have fin : ∀ {x : Bool} {b e : Blk}, x = z.rule4 → Anv.Ends 8 (fun v h' => v = .s (.bool z.rule4) ∧ h' = z.h) (.s (.bool x)) (z.h ++ [b, e]) := by
    rintro x b e rfl
    exact Ends.ro rfl rfl rfl
  refine draw_held on rfl (fun _ _ h => h) ?_
  refine ⟨?_, ?_⟩
  all_goals repeat (refine need_intro (by first | exact fun h => h | exact nt | exact an2 | rfl | (simp; done) | fail) ?_)
  all_goals (
    refine ifB_intro (fun h1 => ?_) (fun h1 => ?_)
    · refine draw_held on rfl (fun _ _ h => h) ?_
      repeat (refine need_intro (by first | exact fun h => h | exact nt | exact an2 | rfl | (simp; done) | fail) ?_)
      refine fin ?_
      unfold Sc.rule4
      rw [if_pos h1]
      simp only [cond_and, eqx, e0]
    · have h1' : ¬ (z.r.kind != 1) = true := by rw [h1]; decide
      repeat (refine need_intro (by first | exact fun h => h | exact nt | exact an2 | rfl | (simp; done) | fail) ?_)
      refine ifB_intro (fun h2 => ?_) (fun h2 => ?_)
      · refine fin ?_
        unfold Sc.rule4
        rw [if_neg h1', if_pos]
        rw [cond_or, Bool.or_eq_true, decide_eq_true_eq, decide_eq_true_eq] at h2
        exact h2
      · rw [cond_or, Bool.or_eq_false_iff, decide_eq_false_iff_not, decide_eq_false_iff_not] at h2
        have h2' : ¬ (z.r.rd < 0 ∨ 31 < z.r.rd) := by omega
        refine ifB_intro (fun h3 => ?_) (fun h3 => ?_)
        · repeat (refine need_intro (by first | omega | exact ⟨by omega, by omega⟩ | exact fun h => h | exact nt | exact an2 | rfl | (simp; done) | fail) ?_)
          refine draw_held on rfl (fun _ _ h => h) ?_
          repeat (refine need_intro (by first | exact fun h => h | exact nt | exact an2 | rfl | (simp; done) | fail) ?_)
          refine fin ?_
          unfold Sc.rule4
          rw [if_neg h1', if_neg h2']
          exact reg_yes _ _ _ _ h3
        · refine draw_held on rfl (fun _ _ h => h) ?_
          repeat (refine need_intro (by first | exact fun h => h | exact nt | exact an2 | rfl | (simp; done) | fail) ?_)
          refine fin ?_
          unfold Sc.rule4
          rw [if_neg h1', if_neg h2']
          exact reg_no _ _ _ _ h3)
set_option maxRecDepth 100000 in
theorem bytes_spec (z : Sc) (ok : z.Ok) (hnr : z.t.nr = z.s.nr) (J : List Blk) (g : FuncId) (b : Nat) (may : B64 → Bool) (hm : ∀ a : B64, Does TB g [.s (.int .u64 a.toNat), .s (.ptr b 0)] (z.h ++ J) (fun v h' => v = .s (.bool (may a)) ∧ h' = z.h ++ J)) :
    Does TB 121 [.s (.ptr 7 0), .s (.func (.func g) [] [.ptr b 0])] (z.h ++ J) (fun v h' => v = .s (.bool (allN z.s.nr fun i => z.k.ram i == z.l.ram i || may (ramAt i))) ∧ h' = z.h ++ J) := by
  refine fnX_does TB Try.func121 rfl (by decide) (fun O on hO => ?_)
  have hs := ok.nr
  refine loop_by (A := Nat) on (fun k => [(14, .s (.int .i64 (k : Int)))]) (fun _ => z.h ++ J) (fun k => k ≤ z.s.nr ∧ ∀ i, i < k → (z.k.ram i == z.l.ram i || may (ramAt i)) = true) (fun k => z.s.nr - k) 0 ⟨Nat.zero_le _, fun i hi => absurd hi (Nat.not_lt_zero i)⟩ ?_ ?_
  · refine ⟨?_, eqvH_refl _⟩
    repeat' (first | exact eqvT_nil | refine eqvT_junk ?_ | refine eqvT_same ?_ | refine eqvT_int ?_ ?_)
  intro i ⟨hi, hp⟩
  refine ifB_intro (fun h2 => ?_) (fun h2 => ?_)
  · have hi1 : i < z.s.nr := by have := of_decide_eq_true h2; omega
    repeat (refine need_intro (by first | omega | exact ⟨by omega, by omega⟩ | exact fun h => h | exact nt | exact an2 | rfl | (simp; done) | fail) ?_)
    have hne : (bfun z.k.ram (0 + (i : Int).toNat) != bfun z.l.ram (0 + (i : Int).toNat)) = (z.k.ram i != z.l.ram i) := by
      rw [Nat.zero_add, Int.toNat_natCast]
      exact bne_nat _ _
    have next : (z.k.ram i == z.l.ram i || may (ramAt i)) = true → i + 1 ≤ z.s.nr ∧ ∀ j, j < i + 1 → (z.k.ram j == z.l.ram j || may (ramAt j)) = true := by
      intro h
      refine ⟨hi1, fun j hj => ?_⟩
      rcases Nat.lt_succ_iff_lt_or_eq.1 hj with h' | h'
      · exact hp j h'
      · subst h'; exact h
    refine ifB_intro (fun h3 => ?_) (fun h3 => ?_)
    · refine need_intro h3 ?_
      refine Does.ungd (b := [.s (.int .u64 (ramAt i).toNat), .s (.ptr b 0)]) ⟨⟨h3, congrArg (fun z => EV.s (.int .u64 z)) (addk (a := 0x80000000#64) (k := i) (by omega))⟩, rfl, trivial⟩ ?_
      refine (hm (ramAt i)).mono ?_
      rintro _ _ ⟨rfl, rfl⟩
      repeat (refine need_intro (by first | exact fun h => h | exact nt | exact an2 | rfl | (simp; done) | fail) ?_)
      refine ifB_intro (fun h4 => ?_) (fun h4 => ?_)
      · replace h4 := (cond_and _ _).symm.trans h4
        rw [Bool.and_eq_true, Bool.not_eq_true'] at h4
        refine Ends.same ⟨?_, rfl⟩ (Nat.le_refl _)
        show EV.s (.bool false) = _
        rw [hne, bne_iff_ne] at h3
        rw [allN_not hi1]
        rw [h4.2, beq_eq_false_iff_ne.2 h3]; rfl
      · replace h4 := (cond_and _ _).symm.trans h4
        rw [h3, Bool.true_and, Bool.not_eq_false'] at h4
        refine ⟨i + 1, next (by rw [h4, Bool.or_true]), by simp only; omega, ?_⟩
        refine ⟨?_, eqvH_refl _⟩
        repeat' (first | exact eqvT_nil | refine eqvT_junk ?_ | refine eqvT_same ?_ | refine eqvT_int ?_ ?_)
        rw [i64_in (by omega) (by omega)]; omega
    · repeat (refine need_intro (by first | exact h3 | exact fun h => h | exact nt | exact an2 | rfl | (simp; done) | fail) ?_)
      refine ifB_intro (fun h => absurd (h.symm.trans h3) (by decide)) (fun _ => ?_)
      repeat (refine need_intro (by first | exact h3 | exact fun h => h | exact nt | exact an2 | rfl | (simp; done) | fail) ?_)
      rw [hne, bne_eq_false_iff_eq] at h3
      refine ⟨i + 1, next (by rw [beq_iff_eq.2 h3, Bool.true_or]), by simp only; omega, ?_⟩
      refine ⟨?_, eqvH_refl _⟩
      repeat' (first | exact eqvT_nil | refine eqvT_junk ?_ | refine eqvT_same ?_ | refine eqvT_int ?_ ?_)
      rw [i64_in (by omega) (by omega)]; omega
  · have hi1 : i = z.s.nr := by have := of_decide_eq_false h2; omega
    subst hi1
    refine Ends.same ⟨?_, rfl⟩ (Nat.le_refl _)
    show EV.s (.bool true) = _
    rw [allN_of hp]
set_option maxRecDepth 100000 in
theorem rule5_may (z : Sc) (a : B64) : Does TB 122 [.s (.int .u64 a.toNat), .s (.ptr 9 0)] z.hb (fun v h' => v = .s (.bool (grantI z.c.cfg z.c.addr a 2)) ∧ h' = z.hb) := by
  refine fnX_does TB Try.func122 rfl (by decide) (fun O on hO => ?_)
  refine (granted_spec z.c.cfg z.c.addr a 2 _).mono ?_
  rintro _ _ ⟨rfl, rfl⟩
  exact Ends.ro (H := z.hb) (J := []) rfl rfl rfl
set_option maxRecDepth 100000 in
theorem rule5_spec (z : Sc) (ok : z.Ok) (hnr : z.t.nr = z.s.nr) : Does TB 120 [.s (.ptr 9 0), .s (.ptr 8 0)] z.hb (fun v h' => v = .s (.bool z.rule5) ∧ h' = z.hb) := by
  refine fnX_does TB Try.func120 rfl (by decide) (fun O on hO => ?_)
  repeat (refine need_intro (by first | exact fun h => h | exact nt | exact an2 | rfl | (simp; done) | fail) ?_)
  have fin : ∀ {x : Bool}, x = z.rule5 → Anv.Ends 14 (fun v h' => v = .s (.bool z.rule5) ∧ h' = z.hb) (.s (.bool x)) z.hb := by
    rintro x rfl
    exact Ends.ro (H := z.hb) (J := []) rfl rfl rfl
  refine ifB_intro (fun g => ?_) (fun g => ?_)
  · refine Does.ungd (b := [.s (.ptr 7 0), .s (.func (.func 122) [] [.ptr 9 0])]) ⟨⟨g, rfl⟩, ⟨g, rfl⟩, trivial⟩ ?_
    replace g : (!(z.c.mode != 0)) = true := g
    refine (bytes_spec z ok hnr boxes _ 9 (fun a => grantI z.c.cfg z.c.addr a 2) (rule5_may z)).mono ?_
    rintro _ _ ⟨rfl, rfl⟩
    repeat (refine need_intro (by first | exact g | exact fun h => h | exact nt | exact an2 | rfl | (simp; done) | fail) ?_)
    refine fin ?_
    show (bif z.c.mode != 0 then true else _) = z.rule5
    rw [cond_or]
    rfl
  · replace g : (!(z.c.mode != 0)) = false := g
    have g' : (z.c.mode != 0) = true := by simpa using g
    repeat (refine need_intro (by first | exact g | exact g' | exact fun h => h | exact nt | exact an2 | rfl | (simp; done) | fail) ?_)
    refine fin ?_
    unfold Sc.rule5
    rw [g']
    rfl
end Go.Proofs.Ytghcdkpgcanpgaa

/- Watching: the rules 6, 8, 9, 10, as the program asks them. No condition but the lists' lengths. -/
namespace Go.Anv
open Go
def Sc.at_ (z : Sc) : Nat := (z.r.addr - 0x80000000#64).toNat
def byteAt (v : B64) (k : Nat) : B8 := (v >>> (8 * k)).setWidth 8
def Sc.rule6 (z : Sc) : Bool :=
  (allN z.s.nr fun i => z.k.ram i == z.l.ram i || (z.r.stores && z.r.within (ramAt i))) && (!z.r.stores || (!z.r.inRam z.t.nr || allN z.r.size.toNat fun k => z.k.ram (z.at_ + k) == byteAt z.r.data k))
def badLock (z : Sc) (i : Nat) : Bool := (lockA z.c.cfg i && z.d.cfg i != z.c.cfg i) || ((lockA z.c.cfg i || lockT z.c.cfg i) && z.d.addr i != z.c.addr i)
def Sc.rule8 (z : Sc) : Bool := allN 16 fun i => !badLock z i
def Sc.rule9 (z : Sc) : Bool :=
  if z.c.mode != 0 then true else
  if z.d.mtvec != z.c.mtvec || z.d.mie != z.c.mie || z.d.mcounteren != z.c.mcounteren || z.d.mcountinhibit != z.c.mcountinhibit || z.d.menvcfg != z.c.menvcfg || z.d.mscratch != z.c.mscratch then false else
  z.r.trapped || (z.d.mstatus == z.c.mstatus && z.d.mepc == z.c.mepc && z.d.mcause == z.c.mcause && z.d.mtval == z.c.mtval)
def noRes (c : CpuV) : Bool := c.rvalid == false && (c.raddr == 0#64 && c.rsize == 0)
def Sc.rule10 (z : Sc) : Bool :=
  if z.r.trapped then
    (z.d.mepc == z.c.pc && z.d.mcause == z.r.cause && z.d.mtval == z.r.tval && z.d.mstatus == entryOf z.c.mstatus z.c.mode) && z.d.mode == 3 && !z.d.waiting && noRes z.d && z.d.pc == handlerOf z.c.mtvec z.r.cause
  else true
theorem byte_of (v : B64) (k : Nat) (hk : k < 8) : IntKind.u8.wrap ((v.toNat : Int).fdiv (2 ^ min (IntKind.i64.wrap (8 * (k : Int))).toNat IntKind.u64.bits)) = ((byteAt v k).toNat : Int) := by
  rw [i64_in (by omega) (by omega), show min (8 * (k : Int)).toNat IntKind.u64.bits = 8 * k from (by
    have : (8 * (k : Int)).toNat = 8 * k := by omega
    rw [this]
    exact Nat.min_eq_left (by show 8 * k ≤ 64; omega)), fdiv_pow, wrap_u8]
  unfold byteAt
  rw [BitVec.toNat_setWidth, BitVec.toNat_ofInt]
  omega
end Go.Anv
namespace Go.Proofs.Ytghcdkpgcanpgaa
open Go Go.Anv
def box8 : List Blk := [.cells true [.one (.ptr 7 0)] 0]
set_option maxRecDepth 100000 in
theorem rule6_may (z : Sc) (a : B64) : Does TB 153 [.s (.int .u64 a.toNat), .s (.ptr 8 0)] (z.h ++ box8) (fun v h' => v = .s (.bool (z.r.stores && z.r.within a)) ∧ h' = z.h ++ box8) := by
  refine fnX_does TB Try.func153 rfl (by decide) (fun O on hO => ?_)
  refine Does.atc (stores_spec z) [0, 1, 2, 3, 4, 5, 6, 7] rfl ⟨rfl, rfl, rfl, rfl, rfl, rfl, rfl, rfl, trivial⟩ (by decide) ?_
  repeat (refine need_intro (by first | exact fun h => h | exact nt | exact an2 | rfl | (simp; done) | fail) ?_)
  refine ifB_intro (fun g => ?_) (fun g => ?_)
  · refine Does.ungd (b := [.s (.ptr 7 0), .s (.int .u64 a.toNat)]) ⟨⟨g, rfl⟩, ⟨g, rfl⟩, trivial⟩ ?_
    refine Does.atc (within_spec z a) [0, 1, 2, 3, 4, 5, 6, 7] rfl ⟨rfl, rfl, rfl, rfl, rfl, rfl, rfl, rfl, trivial⟩ (by decide) ?_
    repeat (refine need_intro (by first | exact fun h => h | exact nt | exact an2 | rfl | (simp; done) | fail) ?_)
    exact Ends.ro (H := z.h ++ box8) (J := []) rfl (cond_and _ _) rfl
  · repeat (refine need_intro (by first | exact g | exact fun h => h | exact nt | exact an2 | rfl | (simp; done) | fail) ?_)
    refine Ends.ro (H := z.h ++ box8) (J := []) rfl ?_ rfl
    replace g : z.r.stores = false := g
    show false = (z.r.stores && _)
    rw [g]
    rfl
set_option maxRecDepth 100000 in
theorem rule6_spec (z : Sc) (ok : z.Ok) (hnr : z.t.nr = z.s.nr) : Does TB 123 [.s (.ptr 7 0)] z.h (fun v h' => v = .s (.bool z.rule6) ∧ h' = z.h) := by
  refine fnX_does TB Try.func123 rfl (by decide) (fun O on hO => ?_)
  have fin : ∀ {x : Bool}, x = z.rule6 → Anv.Ends 8 (fun v h' => v = .s (.bool z.rule6) ∧ h' = z.h) (.s (.bool x)) (z.h ++ box8) := by
    rintro x rfl
    exact Ends.ro rfl rfl rfl
  refine (bytes_spec z ok hnr box8 153 8 (fun a => z.r.stores && z.r.within a) (rule6_may z)).mono ?_
  rintro _ _ ⟨rfl, rfl⟩
  refine ifB_intro (fun h1 => ?_) (fun h1 => ?_)
  · refine fin ?_
    rw [Bool.not_eq_true'] at h1
    unfold Sc.rule6
    rw [h1]; rfl
  rw [Bool.not_eq_false'] at h1
  refine Does.atc (stores_spec z) [0, 1, 2, 3, 4, 5, 6, 7] rfl ⟨rfl, rfl, rfl, rfl, rfl, rfl, rfl, rfl, trivial⟩ (by decide) ?_
  repeat (refine need_intro (by first | exact fun h => h | exact nt | exact an2 | rfl | (simp; done) | fail) ?_)
  refine ifB_intro (fun h2 => ?_) (fun h2 => ?_)
  · refine Does.ungd (b := [.s (.ptr 7 0)]) ⟨⟨h2, rfl⟩, trivial⟩ ?_
    replace h2 : z.r.stores = true := by simpa using (show (!(!z.r.stores)) = true from h2)
    refine Does.atc (inRam_spec z ok) [0, 1, 2, 3, 4, 5, 6, 7] rfl ⟨rfl, rfl, rfl, rfl, rfl, rfl, rfl, rfl, trivial⟩ (by decide) ?_
    repeat (refine need_intro (by first | exact fun h => h | exact nt | exact an2 | rfl | (simp; done) | fail) ?_)
    refine ifB_intro (fun h3 => ?_) (fun h3 => ?_)
    · replace h3 : (bif !z.r.stores then true else !z.r.inRam z.t.nr) = true := h3
      refine fin ?_
      unfold Sc.rule6
      rw [h1, h2]
      rw [h2] at h3
      replace h3 : (!z.r.inRam z.t.nr) = true := h3
      rw [h3]; rfl
    · replace h3 : (bif !z.r.stores then true else !z.r.inRam z.t.nr) = false := h3
      rw [h2] at h3
      replace h3 : (!z.r.inRam z.t.nr) = false := h3
      rw [Bool.not_eq_false'] at h3
      have hsz := ok.size
      have hpl : z.r.placed = true := by
        unfold RowV.inRam at h3
        rw [Bool.and_eq_true, Bool.and_eq_true] at h3
        exact h3.1.1
      have hs8 := (placed_size hpl).1
      have hat : z.at_ ≤ z.t.nr ∧ z.r.size ≤ ((z.t.nr - z.at_ : Nat) : Int) := by
        unfold RowV.inRam at h3
        rw [Bool.and_eq_true] at h3
        have h5 := Bool.and_eq_true_iff.1 h3.2
        exact ⟨of_decide_eq_true h5.1, of_decide_eq_true h5.2⟩
      have ea : IntKind.u64.wrap (((z.r.addr.toNat : Nat) : Int) - 2147483648) = (z.at_ : Int) := sub64 z.r.addr 0x80000000#64
      have hmr := ok.mr
      refine loop_by (A := Nat) on (fun k => [(28, .s (.int .i64 (k : Int)))]) (fun _ => z.h ++ box8) (fun k => (k : Int) ≤ z.r.size ∧ ∀ i, i < k → (z.k.ram (z.at_ + i) == byteAt z.r.data i) = true) (fun k => 8 - k) 0 ⟨by omega, fun i hi => absurd hi (Nat.not_lt_zero i)⟩ ?_ ?_
      · refine ⟨?_, eqvH_refl _⟩
        repeat' (first | exact eqvT_nil | refine eqvT_junk ?_ | refine eqvT_same ?_ | refine eqvT_int ?_ ?_)
      intro k ⟨hk, hp⟩
      refine ifB_intro (fun h4 => ?_) (fun h4 => ?_)
      · have hk1 : (k : Int) < z.r.size := of_decide_eq_true h4
        have ek : IntKind.u64.wrap (IntKind.u64.wrap (((z.r.addr.toNat : Nat) : Int) - 2147483648) + IntKind.u64.wrap (k : Int)) = ((z.at_ + k : Nat) : Int) := by
          rw [ea, wnat (by omega), show (z.at_ : Int) + (k : Int) = ((z.at_ + k : Nat) : Int) by omega, wnat (by omega)]
        have hkn : z.at_ + k < z.t.nr := by omega
        have h8 : IntKind.i64.wrap (8 * (k : Int)) = ((8 * k : Nat) : Int) := by rw [i64_in (by omega) (by omega)]; omega
        refine draw_held on rfl (fun _ _ h => h) ?_
        repeat (refine need_intro (by first | (rw [ek]; omega) | (rw [ek]; exact ⟨by omega, by omega⟩) | (rw [h8]; omega) | exact fun h => h | exact nt | exact an2 | exact an3 | rfl | (simp; done) | fail) ?_)
        have e1 : (bfun z.k.ram (0 + (IntKind.u64.wrap (IntKind.u64.wrap (((z.r.addr.toNat : Nat) : Int) - 2147483648) + IntKind.u64.wrap (k : Int))).toNat) != IntKind.u8.wrap ((((z.r.data.toNat : Nat) : Int)).fdiv (2 ^ min (IntKind.i64.wrap (8 * (k : Int))).toNat IntKind.u64.bits))) = !(z.k.ram (z.at_ + k) == byteAt z.r.data k) := by
          rw [ek, Nat.zero_add, Int.toNat_natCast, byte_of _ _ (by omega)]
          exact bne_nat _ _
        refine ifB_intro (fun h5 => ?_) (fun h5 => ?_)
        · refine fin ?_
          have h5 := e1.symm.trans h5
          rw [Bool.not_eq_true'] at h5
          unfold Sc.rule6
          rw [h1, h2, h3, allN_not (i := k) (by omega) h5]
          rfl
        · have h5 := e1.symm.trans h5
          rw [Bool.not_eq_false'] at h5
          refine ⟨k + 1, ⟨by omega, fun j hj => ?_⟩, by simp only; omega, ?_⟩
          · rcases Nat.lt_succ_iff_lt_or_eq.1 hj with h | h
            · exact hp j h
            · subst h; exact h5
          refine ⟨?_, eqvH_refl _⟩
          repeat' (first | exact eqvT_nil | refine eqvT_junk ?_ | refine eqvT_same ?_ | refine eqvT_int ?_ ?_)
          rw [i64_in (by omega) (by omega)]; omega
      · have hk1 : (k : Int) = z.r.size := by have := of_decide_eq_false h4; omega
        refine fin ?_
        unfold Sc.rule6
        rw [h1, h2, h3, show z.r.size.toNat = k by omega, allN_of hp]
        rfl
  · replace h2 : (!(!z.r.stores)) = false := h2
    have h2' : z.r.stores = false := by simpa using h2
    repeat (refine need_intro (by first | exact h2 | exact nt h2' | exact fun h => h | exact nt | exact an2 | exact an3 | rfl | (simp; done) | fail) ?_)
    refine ifB_intro (fun h => absurd (h.symm.trans h2) (by decide)) (fun _ => ?_)
    repeat (refine need_intro (by first | exact h2 | exact nt h2' | exact fun h => h | exact nt | exact an2 | exact an3 | rfl | (simp; done) | fail) ?_)
    refine fin ?_
    unfold Sc.rule6
    rw [h1, h2']
    rfl
set_option maxRecDepth 100000 in
theorem rule8_spec (z : Sc) : Does TB 125 [.s (.ptr 7 0)] z.h (fun v h' => v = .s (.bool z.rule8) ∧ h' = z.h) := by
  refine fnX_does TB Try.func125 rfl (by decide) (fun O on hO => ?_)
  have fin : ∀ {x : Bool} {b e : Blk}, x = z.rule8 → Anv.Ends 8 (fun v h' => v = .s (.bool z.rule8) ∧ h' = z.h) (.s (.bool x)) (z.h ++ [b, e]) := by
    rintro x b e rfl
    exact Ends.ro rfl rfl rfl
  refine draw_to on ?t8 ?_ ?_
  rotate_left 1
  · refine draw_held on rfl (fun _ _ h => h) ?_
    repeat' (first | refine need_intro (by first | exact fun h => h | exact nt | exact an2 | exact an3 | rfl | (simp; done) | fail) ?_ | refine And.intro ?_ ?_)
    · refine toK_id ?_
      rw [hO]; exact Nat.le_of_ble_eq_true rfl
    all_goals first
      | (refine toK_of [0, 1, 2, 3, 4, 5, 6, 7, 8, 9] (by decide) (by rw [hO]; exact ⟨rfl, rfl, rfl, rfl, rfl, rfl, rfl, rfl, trivial⟩) ?_ ?_; (repeat' (first | exact eqvT_nil | refine eqvT_same ?_)); exact ⟨⟨_, rfl, eqvB_refl _⟩, ⟨_, rfl, eqvB_refl _⟩, ⟨_, rfl, eqvB_refl _⟩, ⟨_, rfl, eqvB_refl _⟩, ⟨_, rfl, eqvB_refl _⟩, ⟨_, rfl, eqvB_refl _⟩, ⟨_, rfl, eqvB_refl _⟩, ⟨_, rfl, eqvB_refl _⟩, ⟨_, rfl, eqvB_refl _⟩, ⟨_, rfl, eqvB_refl _⟩, trivial⟩)
      | (refine toK_of [0, 1, 2, 3, 4, 5, 6, 7, 9, 8] (by decide) (by rw [hO]; exact ⟨rfl, rfl, rfl, rfl, rfl, rfl, rfl, rfl, trivial⟩) ?_ ?_; (repeat' (first | exact eqvT_nil | refine eqvT_same ?_)); exact ⟨⟨_, rfl, eqvB_refl _⟩, ⟨_, rfl, eqvB_refl _⟩, ⟨_, rfl, eqvB_refl _⟩, ⟨_, rfl, eqvB_refl _⟩, ⟨_, rfl, eqvB_refl _⟩, ⟨_, rfl, eqvB_refl _⟩, ⟨_, rfl, eqvB_refl _⟩, ⟨_, rfl, eqvB_refl _⟩, ⟨_, rfl, eqvB_refl _⟩, ⟨_, rfl, eqvB_refl _⟩, trivial⟩)
      | fail
  refine loop_by (A := Nat) on (fun k => [(20, .s (.int .i64 (k : Int)))]) (fun _ => z.h ++ [.cells true (pmpSeg z.c.cfg z.c.addr) 0, .cells true (pmpSeg z.d.cfg z.d.addr) 0]) (fun k => k ≤ 16 ∧ ∀ i, i < k → badLock z i = false) (fun k => 16 - k) 0 ⟨Nat.zero_le _, fun i hi => absurd hi (Nat.not_lt_zero i)⟩ ?_ ?_
  · refine ⟨?_, eqvH_refl _⟩
    repeat' (first | exact eqvT_nil | refine eqvT_junk ?_ | refine eqvT_same ?_ | refine eqvT_int ?_ ?_)
  intro i ⟨hi, hp⟩
  refine ifB_intro (fun h2 => ?_) (fun h2 => ?_)
  · have hi1 : i < 16 := by have := of_decide_eq_true h2; omega
    refine (plocked_spec z.c.cfg z.c.addr i hi1 _).mono ?_
    rintro _ _ ⟨rfl, rfl⟩
    refine draw_held on rfl (fun _ _ h => h) ?_
    repeat (refine need_intro (by first | omega | exact fun _ => (by omega) | exact fun _ => ⟨by omega, by omega⟩ | exact fun h => h | exact nt | exact an2 | exact an3 | rfl | (simp; done) | fail) ?_)
    have e1 : (bif (bif lockA z.c.cfg i then bfun z.d.cfg ((i : Nat) : Int).toNat != bfun z.c.cfg ((i : Nat) : Int).toNat else false) then true else bif (lockA z.c.cfg i || lockT z.c.cfg i) then wfun z.d.addr ((i : Nat) : Int).toNat != wfun z.c.addr ((i : Nat) : Int).toNat else false) = badLock z i := by
      rw [cond_or, cond_and, cond_and, Int.toNat_natCast]
      unfold badLock
      congr 2
      · exact bne_nat _ _
      · exact bne_nat _ _
    refine ifB_intro (fun h3 => ?_) (fun h3 => ?_)
    · refine fin ?_
      unfold Sc.rule8
      rw [allN_not hi1 (by rw [e1.symm.trans h3]; rfl)]
    · refine ⟨i + 1, ⟨hi1, fun j hj => ?_⟩, by simp only; omega, ?_⟩
      · rcases Nat.lt_succ_iff_lt_or_eq.1 hj with h | h
        · exact hp j h
        · subst h; exact e1.symm.trans h3
      refine ⟨?_, eqvH_refl _⟩
      repeat' (first | exact eqvT_nil | refine eqvT_junk ?_ | refine eqvT_same ?_ | refine eqvT_int ?_ ?_)
      rw [i64_in (by omega) (by omega)]; omega
  · have hi1 : i = 16 := by have := of_decide_eq_false h2; omega
    subst hi1
    refine fin ?_
    unfold Sc.rule8
    exact (allN_of fun i hi => by rw [hp i hi]; rfl).symm
set_option maxRecDepth 100000 in
theorem rule9_spec (z : Sc) : Does TB 126 [.s (.ptr 7 0)] z.h (fun v h' => v = .s (.bool z.rule9) ∧ h' = z.h) := by
  refine fnX_does TB Try.func126 rfl (by decide) (fun O on hO => ?_)
  have fin : ∀ {x : Bool} {b e : Blk}, x = z.rule9 → Anv.Ends 8 (fun v h' => v = .s (.bool z.rule9) ∧ h' = z.h) (.s (.bool x)) (z.h ++ [b, e]) := by
    rintro x b e rfl
    exact Ends.ro rfl rfl rfl
  refine draw_held on rfl (fun _ _ h => h) ?_
  refine ⟨?_, ?_⟩
  all_goals repeat (refine need_intro (by first | exact fun h => h | exact nt | exact an2 | rfl | (simp; done) | fail) ?_)
  all_goals (
    refine ifB_intro (fun h1 => ?_) (fun h1 => ?_)
    · refine fin ?_
      unfold Sc.rule9
      rw [if_pos h1]
    · have h1' : ¬ (z.c.mode != 0) = true := by rw [h1]; decide
      repeat (refine need_intro (by first | exact fun h => h | exact nt | exact an2 | rfl | (simp; done) | fail) ?_)
      refine ifB_intro (fun h2 => ?_) (fun h2 => ?_)
      · refine fin ?_
        simp only [cond_or, bne_nat] at h2
        unfold Sc.rule9
        rw [if_neg h1', if_pos h2]
      · simp only [cond_or, bne_nat] at h2
        refine Does.atc (trapped_spec z) [0, 1, 2, 3, 4, 5, 6, 7] rfl ⟨rfl, rfl, rfl, rfl, rfl, rfl, rfl, rfl, trivial⟩ (by decide) ?_
        repeat (refine need_intro (by first | exact fun h => h | exact nt | exact an2 | rfl | (simp; done) | fail) ?_)
        refine fin ?_
        unfold Sc.rule9
        rw [if_neg h1', if_neg (by rw [h2]; decide)]
        simp only [cond_or, cond_and, beq_nat])
set_option maxHeartbeats 4000000 in
set_option maxRecDepth 100000 in
theorem rule10_spec (z : Sc) : Does TB 127 [.s (.ptr 7 0)] z.h (fun v h' => v = .s (.bool z.rule10) ∧ h' = z.h) := by
  refine fnX_does TB Try.func127 rfl (by decide) (fun O on hO => ?_)
  refine Does.atc (trapped_spec z) [0, 1, 2, 3, 4, 5, 6, 7] rfl ⟨rfl, rfl, rfl, rfl, rfl, rfl, rfl, rfl, trivial⟩ (by decide) ?_
  refine ifB_intro (fun h1 => ?_) (fun h1 => ?_)
  · refine Ends.ro (H := z.h) (J := []) rfl ?_ rfl
    rw [Bool.not_eq_true'] at h1
    show true = z.rule10
    unfold Sc.rule10
    rw [h1]; rfl
  rw [Bool.not_eq_false'] at h1
  refine draw_to on ?t8 ?_ ?_
  rotate_left 1
  · refine draw_held on rfl (fun _ _ h => h) ?_
    repeat' (first | refine need_intro (by first | exact fun h => h | exact nt | exact an2 | exact an3 | rfl | (simp; done) | fail) ?_ | refine And.intro ?_ ?_)
    · refine toK_id ?_
      rw [hO]; exact Nat.le_of_ble_eq_true rfl
    all_goals first
      | (refine toK_of [0, 1, 2, 3, 4, 5, 6, 7, 8, 9, 10] (by decide) (by rw [hO]; exact ⟨rfl, rfl, rfl, rfl, rfl, rfl, rfl, rfl, trivial⟩) ?_ ?_; (repeat' (first | exact eqvT_nil | refine eqvT_same ?_)); exact ⟨⟨_, rfl, eqvB_refl _⟩, ⟨_, rfl, eqvB_refl _⟩, ⟨_, rfl, eqvB_refl _⟩, ⟨_, rfl, eqvB_refl _⟩, ⟨_, rfl, eqvB_refl _⟩, ⟨_, rfl, eqvB_refl _⟩, ⟨_, rfl, eqvB_refl _⟩, ⟨_, rfl, eqvB_refl _⟩, ⟨_, rfl, eqvB_refl _⟩, ⟨_, rfl, eqvB_refl _⟩, ⟨_, rfl, eqvB_refl _⟩, trivial⟩)
      | (refine toK_of [0, 1, 2, 3, 4, 5, 6, 7, 8, 10, 9] (by decide) (by rw [hO]; exact ⟨rfl, rfl, rfl, rfl, rfl, rfl, rfl, rfl, trivial⟩) ?_ ?_; (repeat' (first | exact eqvT_nil | refine eqvT_same ?_)); exact ⟨⟨_, rfl, eqvB_refl _⟩, ⟨_, rfl, eqvB_refl _⟩, ⟨_, rfl, eqvB_refl _⟩, ⟨_, rfl, eqvB_refl _⟩, ⟨_, rfl, eqvB_refl _⟩, ⟨_, rfl, eqvB_refl _⟩, ⟨_, rfl, eqvB_refl _⟩, ⟨_, rfl, eqvB_refl _⟩, ⟨_, rfl, eqvB_refl _⟩, ⟨_, rfl, eqvB_refl _⟩, ⟨_, rfl, eqvB_refl _⟩, trivial⟩)
      | (refine toK_of [0, 1, 2, 3, 4, 5, 6, 7, 9, 8, 10] (by decide) (by rw [hO]; exact ⟨rfl, rfl, rfl, rfl, rfl, rfl, rfl, rfl, trivial⟩) ?_ ?_; (repeat' (first | exact eqvT_nil | refine eqvT_same ?_)); exact ⟨⟨_, rfl, eqvB_refl _⟩, ⟨_, rfl, eqvB_refl _⟩, ⟨_, rfl, eqvB_refl _⟩, ⟨_, rfl, eqvB_refl _⟩, ⟨_, rfl, eqvB_refl _⟩, ⟨_, rfl, eqvB_refl _⟩, ⟨_, rfl, eqvB_refl _⟩, ⟨_, rfl, eqvB_refl _⟩, ⟨_, rfl, eqvB_refl _⟩, ⟨_, rfl, eqvB_refl _⟩, ⟨_, rfl, eqvB_refl _⟩, trivial⟩)
      | (refine toK_of [0, 1, 2, 3, 4, 5, 6, 7, 9, 10, 8] (by decide) (by rw [hO]; exact ⟨rfl, rfl, rfl, rfl, rfl, rfl, rfl, rfl, trivial⟩) ?_ ?_; (repeat' (first | exact eqvT_nil | refine eqvT_same ?_)); exact ⟨⟨_, rfl, eqvB_refl _⟩, ⟨_, rfl, eqvB_refl _⟩, ⟨_, rfl, eqvB_refl _⟩, ⟨_, rfl, eqvB_refl _⟩, ⟨_, rfl, eqvB_refl _⟩, ⟨_, rfl, eqvB_refl _⟩, ⟨_, rfl, eqvB_refl _⟩, ⟨_, rfl, eqvB_refl _⟩, ⟨_, rfl, eqvB_refl _⟩, ⟨_, rfl, eqvB_refl _⟩, ⟨_, rfl, eqvB_refl _⟩, trivial⟩)
      | (refine toK_of [0, 1, 2, 3, 4, 5, 6, 7, 10, 8, 9] (by decide) (by rw [hO]; exact ⟨rfl, rfl, rfl, rfl, rfl, rfl, rfl, rfl, trivial⟩) ?_ ?_; (repeat' (first | exact eqvT_nil | refine eqvT_same ?_)); exact ⟨⟨_, rfl, eqvB_refl _⟩, ⟨_, rfl, eqvB_refl _⟩, ⟨_, rfl, eqvB_refl _⟩, ⟨_, rfl, eqvB_refl _⟩, ⟨_, rfl, eqvB_refl _⟩, ⟨_, rfl, eqvB_refl _⟩, ⟨_, rfl, eqvB_refl _⟩, ⟨_, rfl, eqvB_refl _⟩, ⟨_, rfl, eqvB_refl _⟩, ⟨_, rfl, eqvB_refl _⟩, ⟨_, rfl, eqvB_refl _⟩, trivial⟩)
      | (refine toK_of [0, 1, 2, 3, 4, 5, 6, 7, 10, 9, 8] (by decide) (by rw [hO]; exact ⟨rfl, rfl, rfl, rfl, rfl, rfl, rfl, rfl, trivial⟩) ?_ ?_; (repeat' (first | exact eqvT_nil | refine eqvT_same ?_)); exact ⟨⟨_, rfl, eqvB_refl _⟩, ⟨_, rfl, eqvB_refl _⟩, ⟨_, rfl, eqvB_refl _⟩, ⟨_, rfl, eqvB_refl _⟩, ⟨_, rfl, eqvB_refl _⟩, ⟨_, rfl, eqvB_refl _⟩, ⟨_, rfl, eqvB_refl _⟩, ⟨_, rfl, eqvB_refl _⟩, ⟨_, rfl, eqvB_refl _⟩, ⟨_, rfl, eqvB_refl _⟩, ⟨_, rfl, eqvB_refl _⟩, trivial⟩)
      | fail
  have fin : ∀ {x : Bool} {b e f : Blk}, x = z.rule10 → Anv.Ends 8 (fun v h' => v = .s (.bool z.rule10) ∧ h' = z.h) (.s (.bool x)) (z.h ++ [b, e, f]) := by
    rintro x b e f rfl
    exact Ends.ro rfl rfl rfl
  refine draw_held on rfl (fun _ _ h => h) ?_
  repeat (refine need_intro (by first | exact fun h => h | exact nt | exact an2 | exact an3 | rfl | (simp; done) | fail) ?_)
  have eG : (bif (bif ((z.d.mepc.toNat : Nat) : Int) == ((z.c.pc.toNat : Nat) : Int) then ((z.d.mcause.toNat : Nat) : Int) == ((z.r.cause.toNat : Nat) : Int) else false) then ((z.d.mtval.toNat : Nat) : Int) == ((z.r.tval.toNat : Nat) : Int) else false) = (z.d.mepc == z.c.pc && z.d.mcause == z.r.cause && z.d.mtval == z.r.tval) := by
    simp only [cond_and, beq_nat]
  refine ifB_intro (fun g1 => ?_) (fun g1 => ?_)
  · refine Does.ungd (b := [.s (.int .u64 z.c.mstatus.toNat), .s (.int .i64 z.c.mode)]) ⟨⟨g1, rfl⟩, ⟨g1, rfl⟩, trivial⟩ ?_
    refine (entry_spec z.c.mstatus z.c.mode _).mono ?_
    rintro _ _ ⟨rfl, rfl⟩
    repeat (refine need_intro (by first | exact fun h => h | exact nt | exact an2 | exact an3 | rfl | (simp; done) | fail) ?_)
    replace g1 := eG.symm.trans g1
    refine draw_held on rfl (fun _ _ h => h) ?_
    repeat (refine need_intro (by first | exact fun h => h | exact nt | exact an2 | exact an3 | rfl | (simp; done) | fail) ?_)
    refine ifB_intro (fun g2 => ?_) (fun g2 => ?_)
    · repeat (refine need_intro (by first | exact g2 | exact fun h => h | exact nt | exact an2 | exact an3 | rfl | (simp; done) | fail) ?_)
      have eR : (z.d.rvalid == false && ((((z.d.raddr.toNat : Nat) : Int) == 0) && ((z.d.rsize == 0) && true))) = noRes z.d := by
        unfold noRes
        rw [Bool.and_true, e0]
      refine ifB_intro (fun g3 => ?_) (fun g3 => ?_)
      · refine Does.ungd (b := [.s (.int .u64 z.c.mtvec.toNat), .s (.int .u64 z.r.cause.toNat)]) ⟨⟨g3, rfl⟩, ⟨g3, rfl⟩, trivial⟩ ?_
        refine (handler_spec z.c.mtvec z.r.cause _).mono ?_
        rintro _ _ ⟨rfl, rfl⟩
        repeat (refine need_intro (by first | exact g3 | exact fun h => h | exact nt | exact an2 | exact an3 | rfl | (simp; done) | fail) ?_)
        refine fin ?_
        unfold Sc.rule10
        rw [if_pos h1]
        simp only [cond_and, beq_nat, eR]
      · repeat (refine need_intro (by first | exact g3 | exact fun h => h | exact nt | exact an2 | exact an3 | rfl | (simp; done) | fail) ?_)
        refine ifB_intro (fun h => absurd (h.symm.trans g3) (by decide)) (fun _ => ?_)
        repeat (refine need_intro (by first | exact g3 | exact fun h => h | exact nt | exact an2 | exact an3 | rfl | (simp; done) | fail) ?_)
        refine fin ?_
        have g3' := g3
        simp only [cond_and, beq_nat, eR] at g3'
        unfold Sc.rule10
        rw [if_pos h1, g3']
        rfl
    · repeat (refine need_intro (by first | exact g2 | exact fun h => h | exact nt | exact an2 | exact an3 | rfl | (simp; done) | fail) ?_)
      refine ifB_intro (fun h => absurd (h.symm.trans g2) (by decide)) (fun _ => ?_)
      repeat (refine need_intro (by first | exact g2 | exact fun h => h | exact nt | exact an2 | exact an3 | rfl | (simp; done) | fail) ?_)
      have g2' := g2
      simp only [cond_and, beq_nat] at g2'
      refine fin ?_
      unfold Sc.rule10
      rw [if_pos h1, g2']
      rfl
  · repeat (refine need_intro (by first | exact g1 | exact fun h => h | exact nt | exact an2 | exact an3 | rfl | (simp; done) | fail) ?_)
    refine ifB_intro (fun h => absurd (h.symm.trans g1) (by decide)) (fun _ => ?_)
    repeat (refine need_intro (by first | exact g1 | exact fun h => h | exact nt | exact an2 | exact an3 | rfl | (simp; done) | fail) ?_)
    refine draw_held on rfl (fun _ _ h => h) ?_
    repeat (refine need_intro (by first | exact g1 | exact fun h => h | exact nt | exact an2 | exact an3 | rfl | (simp; done) | fail) ?_)
    refine fin ?_
    unfold Sc.rule10
    rw [if_pos h1, eG.symm.trans g1]
    rfl
end Go.Proofs.Ytghcdkpgcanpgaa

/- Watching: the rules 11 to 16 and 18, as the program asks them. No condition but the lists' lengths. -/
namespace Go.Anv
open Go
def Sc.rule11 (z : Sc) : Bool := if z.r.kind != 4 then true else z.c.waiting && (mipOf z.t &&& z.c.mie == 0#64) && cpuS { z.d with mcycle := z.c.mcycle } z.c
def Sc.rule12 (z : Sc) : Bool := if z.r.counts || z.r.kind == 5 then true else z.d.mcycle == z.c.mcycle + (1#64 - (z.c.mcountinhibit &&& 1#64))
def Sc.rule13 (z : Sc) : Bool := if z.r.counts then true else if z.r.kind == 1 && z.c.mcountinhibit &&& 4#64 == 0#64 then z.d.minstret == z.c.minstret + 1#64 else z.d.minstret == z.c.minstret
def Sc.rule14 (z : Sc) : Bool := if z.r.storedAt 0x200bff8#64 8 || z.r.kind == 5 then true else if z.tick then z.t.now == z.s.now + 1#64 else z.t.now == z.s.now
def Sc.rule15 (z : Sc) : Bool := (z.r.storedAt 0x2004000#64 8 || z.t.cmp == z.s.cmp) && (z.r.storedAt 0x2000000#64 4 || z.t.msip == z.s.msip)
def Sc.rule16 (z : Sc) : Bool := z.r.kind == 5 || (z.t.ext == z.ext && z.t.soft == z.soft)
def isMret (r : RowV) : Bool := r.kind == 1 && r.raw == 807403635#32
def Sc.rule18 (z : Sc) : Bool := if z.d.mode == z.c.mode then true else if z.c.mode == 0 then z.r.trapped else isMret z.r
end Go.Anv
namespace Go.Proofs.Ytghcdkpgcanpgaa
open Go Go.Anv
theorem hbfin (z : Sc) {y : Bool} : ∀ {x : Bool}, x = y → Anv.Ends 14 (fun v h' => v = .s (.bool y) ∧ h' = z.hb) (.s (.bool x)) z.hb := by
  rintro x rfl
  exact Ends.ro (H := z.hb) (J := []) rfl rfl rfl
set_option maxRecDepth 100000 in
theorem rule11_spec (z : Sc) : Does TB 128 [.s (.ptr 11 0), .s (.ptr 10 0), .s (.ptr 9 0), .s (.ptr 13 0)] z.hb (fun v h' => v = .s (.bool z.rule11) ∧ h' = z.hb) := by
  refine fnX_does TB Try.func128 rfl (by decide) (fun O on hO => ?_)
  refine ifB_intro (fun h1 => ?_) (fun h1 => ?_)
  · refine hbfin z ?_
    unfold Sc.rule11
    rw [if_pos h1]
  have h1' : ¬ (z.r.kind != 4) = true := by rw [h1]; decide
  have fin : ∀ {x : Bool} {b : Blk}, x = z.rule11 → Anv.Ends 14 (fun v h' => v = .s (.bool z.rule11) ∧ h' = z.hb) (.s (.bool x)) (z.hb ++ [b]) := by
    rintro x b rfl
    exact Ends.ro rfl rfl rfl
  repeat (refine need_intro (by first | exact fun h => h | exact nt | exact an2 | exact an3 | rfl | (simp; done) | fail) ?_)
  refine draw_held on rfl (fun _ _ h => h) ?_
  repeat (refine need_intro (by first | exact fun h => h | exact nt | exact an2 | exact an3 | rfl | (simp; done) | fail) ?_)
  refine ifB_intro (fun h2 => ?_) (fun h2 => ?_)
  · refine Does.ungd (b := [_]) ⟨⟨h2, rfl⟩, trivial⟩ ?_
    refine Does.atc (wmip_spec z.t z.k z.c3 z.c4 z.c5) [3, 4, 5] rfl ⟨rfl, rfl, rfl, trivial⟩ (by decide) ?_
    repeat (refine need_intro (by first | exact h2 | exact fun h => h | exact nt | exact an2 | exact an3 | rfl | (simp; done) | fail) ?_)
    refine fin ?_
    unfold Sc.rule11
    rw [if_neg h1']
    show (bif (bif z.c.waiting then bitX .and .u64 (((mipOf z.t).toNat : Nat) : Int) ((z.c.mie.toNat : Nat) : Int) == 0 else false) then cpuS { z.d with mcycle := z.c.mcycle } z.c else false) = _
    rw [cond_and, cond_and, and_u64, ofInt_toNat, ofInt_toNat, e0]
  · repeat (first | refine need_intro (by first | exact h2 | exact nt h2 | exact nn3 h2 | exact fun h => h | exact nt | exact an2 | exact an3 | rfl | (simp; done) | fail) ?_ | refine ifB_intro (fun h => absurd (h.symm.trans h2) (by decide)) (fun _ => ?_))
    refine fin ?_
    unfold Sc.rule11
    rw [if_neg h1', h2]
    rfl
set_option maxRecDepth 100000 in
theorem rule12_spec (z : Sc) : Does TB 130 [.s (.ptr 8 0), .s (.ptr 11 0), .s (.ptr 10 0), .s (.ptr 9 0)] z.hb (fun v h' => v = .s (.bool z.rule12) ∧ h' = z.hb) := by
  refine fnX_does TB Try.func130 rfl (by decide) (fun O on hO => ?_)
  refine Does.atc (counts_spec z) [0, 1, 2, 3, 4, 5, 6, 7] rfl ⟨rfl, rfl, rfl, rfl, rfl, rfl, rfl, rfl, trivial⟩ (by decide) ?_
  repeat (refine need_intro (by first | exact fun h => h | exact nt | exact an2 | exact an3 | rfl | (simp; done) | fail) ?_)
  refine ifB_intro (fun h1 => ?_) (fun h1 => ?_)
  · refine hbfin z ?_
    unfold Sc.rule12
    rw [if_pos ((cond_or _ _).symm.trans h1)]
  have h1' : ¬ (z.r.counts || z.r.kind == 5) = true := by rw [← cond_or]; exact Bool.eq_false_iff.1 h1
  refine draw_held on rfl (fun _ _ h => h) ?_
  repeat (refine need_intro (by first | exact fun h => h | exact nt | exact an2 | exact an3 | rfl | (simp; done) | fail) ?_)
  refine hbfin z ?_
  unfold Sc.rule12
  rw [if_neg h1']
  have e1 : IntKind.u64.wrap (1 - bitX .and .u64 (z.c.mcountinhibit.toNat : Int) 1) = ((1#64 - (z.c.mcountinhibit &&& 1#64)).toNat : Int) := by
    rw [and_u64, ofInt_toNat]
    exact sub64 1#64 _
  rw [e1, add64]
  exact beq_nat _ _
set_option maxRecDepth 100000 in
theorem rule13_spec (z : Sc) : Does TB 132 [.s (.ptr 8 0), .s (.ptr 11 0), .s (.ptr 9 0), .s (.ptr 10 0)] z.hb (fun v h' => v = .s (.bool z.rule13) ∧ h' = z.hb) := by
  refine fnX_does TB Try.func132 rfl (by decide) (fun O on hO => ?_)
  refine Does.atc (counts_spec z) [0, 1, 2, 3, 4, 5, 6, 7] rfl ⟨rfl, rfl, rfl, rfl, rfl, rfl, rfl, rfl, trivial⟩ (by decide) ?_
  refine ifB_intro (fun h1 => ?_) (fun h1 => ?_)
  · refine hbfin z ?_
    unfold Sc.rule13
    rw [if_pos h1]
  have h1' : ¬ z.r.counts = true := Bool.eq_false_iff.1 h1
  repeat (refine need_intro (by first | exact fun h => h | exact nt | exact an2 | exact an3 | rfl | (simp; done) | fail) ?_)
  have e2 : (bif z.r.kind == 1 then bitX .and .u64 (z.c.mcountinhibit.toNat : Int) 4 == 0 else false) = (z.r.kind == 1 && z.c.mcountinhibit &&& 4#64 == 0#64) := by
    rw [cond_and, and_u64, ofInt_toNat]
    congr 1
    exact beq_nat _ 0#64
  refine ifB_intro (fun h2 => ?_) (fun h2 => ?_)
  · replace h2 := e2.symm.trans h2
    refine draw_held on rfl (fun _ _ h => h) ?_
    repeat (refine need_intro (by first | exact fun h => h | exact nt | exact an2 | exact an3 | rfl | (simp; done) | fail) ?_)
    refine hbfin z ?_
    unfold Sc.rule13
    rw [if_neg h1', if_pos h2]
    refine Eq.trans ?_ (beq_nat z.d.minstret (z.c.minstret + 1#64))
    rw [← add64]
    rfl
  · replace h2 := e2.symm.trans h2
    refine draw_held on rfl (fun _ _ h => h) ?_
    repeat (refine need_intro (by first | exact fun h => h | exact nt | exact an2 | exact an3 | rfl | (simp; done) | fail) ?_)
    refine hbfin z ?_
    unfold Sc.rule13
    rw [if_neg h1', if_neg (by rw [h2]; decide)]
    exact beq_nat _ _
set_option maxRecDepth 100000 in
theorem rule14_spec (z : Sc) : Does TB 133 [.s (.ptr 8 0), .s (.ptr 11 0), .s (.ptr 13 0), .s (.ptr 12 0)] z.hb (fun v h' => v = .s (.bool z.rule14) ∧ h' = z.hb) := by
  refine fnX_does TB Try.func133 rfl (by decide) (fun O on hO => ?_)
  refine Does.atc (storedAt_spec z 0x200bff8#64 8 (by decide)) [0, 1, 2, 3, 4, 5, 6, 7] rfl ⟨rfl, rfl, rfl, rfl, rfl, rfl, rfl, rfl, trivial⟩ (by decide) ?_
  repeat (refine need_intro (by first | exact fun h => h | exact nt | exact an2 | exact an3 | rfl | (simp; done) | fail) ?_)
  refine ifB_intro (fun h1 => ?_) (fun h1 => ?_)
  · refine hbfin z ?_
    unfold Sc.rule14
    rw [if_pos ((cond_or _ _).symm.trans h1)]
  have h1' : ¬ (z.r.storedAt 0x200bff8#64 8 || z.r.kind == 5) = true := by rw [← cond_or]; exact Bool.eq_false_iff.1 h1
  refine ifB_intro (fun h2 => ?_) (fun h2 => ?_)
  · refine draw_held on rfl (fun _ _ h => h) ?_
    repeat (refine need_intro (by first | exact fun h => h | exact nt | exact an2 | exact an3 | rfl | (simp; done) | fail) ?_)
    refine hbfin z ?_
    unfold Sc.rule14
    rw [if_neg h1', if_pos h2]
    refine Eq.trans ?_ (beq_nat z.t.now (z.s.now + 1#64))
    rw [← add64]
    rfl
  · refine draw_held on rfl (fun _ _ h => h) ?_
    repeat (refine need_intro (by first | exact fun h => h | exact nt | exact an2 | exact an3 | rfl | (simp; done) | fail) ?_)
    refine hbfin z ?_
    unfold Sc.rule14
    rw [if_neg h1', if_neg (by rw [h2]; decide)]
    exact beq_nat _ _
set_option maxRecDepth 100000 in
theorem rule15_spec (z : Sc) : Does TB 135 [.s (.ptr 8 0), .s (.ptr 13 0), .s (.ptr 12 0)] z.hb (fun v h' => v = .s (.bool z.rule15) ∧ h' = z.hb) := by
  refine fnX_does TB Try.func135 rfl (by decide) (fun O on hO => ?_)
  refine draw_held on rfl (fun _ _ h => h) ?_
  refine Does.atc (storedAt_spec z 0x2004000#64 8 (by decide)) [0, 1, 2, 3, 4, 5, 6, 7] rfl ⟨rfl, rfl, rfl, rfl, rfl, rfl, rfl, rfl, trivial⟩ (by decide) ?_
  repeat (refine need_intro (by first | exact fun h => h | exact nt | exact an2 | exact an3 | rfl | (simp; done) | fail) ?_)
  refine draw_held on rfl (fun _ _ h => h) ?_
  repeat (refine need_intro (by first | exact fun h => h | exact nt | exact an2 | exact an3 | rfl | (simp; done) | fail) ?_)
  have e1 : (bif z.r.storedAt 0x2004000#64 8 then true else ((z.t.cmp.toNat : Nat) : Int) == ((z.s.cmp.toNat : Nat) : Int)) = (z.r.storedAt 0x2004000#64 8 || z.t.cmp == z.s.cmp) := by rw [cond_or, beq_nat]
  refine ifB_intro (fun g => ?_) (fun g => ?_)
  · refine Does.ungd (b := [.s (.ptr 7 0), .s (.int .u64 0x2000000), .s (.int .i64 4)]) ⟨⟨g, rfl⟩, rfl, rfl, trivial⟩ ?_
    refine Does.atc (storedAt_spec z 0x2000000#64 4 (by decide)) [0, 1, 2, 3, 4, 5, 6, 7] rfl ⟨rfl, rfl, rfl, rfl, rfl, rfl, rfl, rfl, trivial⟩ (by decide) ?_
    repeat (refine need_intro (by first | exact g | exact fun h => h | exact nt | exact an2 | exact an3 | rfl | (simp; done) | fail) ?_)
    refine hbfin z ?_
    unfold Sc.rule15
    rw [← e1, cond_and, cond_or, cond_or, beq_nat z.t.msip]
  · repeat (first | refine need_intro (by first | exact g | exact nt g | exact nn3 g | exact fun h => h | exact nt | exact an2 | exact an3 | rfl | (simp; done) | fail) ?_ | refine ifB_intro (fun h => absurd (h.symm.trans g) (by decide)) (fun _ => ?_))
    refine hbfin z ?_
    unfold Sc.rule15
    rw [← e1, g]
    rfl
set_option maxRecDepth 100000 in
theorem rule16_spec (z : Sc) : Does TB 136 [.s (.ptr 11 0), .s (.ptr 13 0), .s (.ptr 8 0)] z.hb (fun v h' => v = .s (.bool z.rule16) ∧ h' = z.hb) := by
  refine fnX_does TB Try.func136 rfl (by decide) (fun O on hO => ?_)
  refine draw_held on rfl (fun _ _ h => h) ?_
  repeat (refine need_intro (by first | exact fun h => h | exact nt | exact an2 | exact an3 | rfl | (simp; done) | fail) ?_)
  refine hbfin z ?_
  unfold Sc.rule16
  rw [← cond_and, ← cond_or]
set_option maxRecDepth 100000 in
theorem rule18_spec (z : Sc) : Does TB 138 [.s (.ptr 10 0), .s (.ptr 9 0), .s (.ptr 8 0), .s (.ptr 11 0)] z.hb (fun v h' => v = .s (.bool z.rule18) ∧ h' = z.hb) := by
  refine fnX_does TB Try.func138 rfl (by decide) (fun O on hO => ?_)
  refine draw_held on rfl (fun _ _ h => h) ?_
  repeat (refine need_intro (by first | exact fun h => h | exact nt | exact an2 | exact an3 | rfl | (simp; done) | fail) ?_)
  refine ifB_intro (fun h1 => ?_) (fun h1 => ?_)
  · refine hbfin z ?_
    unfold Sc.rule18
    rw [if_pos h1]
  have h1' : ¬ (z.d.mode == z.c.mode) = true := Bool.eq_false_iff.1 h1
  refine ifB_intro (fun h2 => ?_) (fun h2 => ?_)
  · refine Does.atc (trapped_spec z) [0, 1, 2, 3, 4, 5, 6, 7] rfl ⟨rfl, rfl, rfl, rfl, rfl, rfl, rfl, rfl, trivial⟩ (by decide) ?_
    refine hbfin z ?_
    unfold Sc.rule18
    rw [if_neg h1', if_pos h2]
  · repeat (refine need_intro (by first | exact fun h => h | exact nt | exact an2 | exact an3 | rfl | (simp; done) | fail) ?_)
    refine hbfin z ?_
    unfold Sc.rule18
    rw [if_neg h1', if_neg (Bool.eq_false_iff.1 h2), cond_and]
    unfold isMret
    congr 1
    exact beq_nat _ 807403635#32
end Go.Proofs.Ytghcdkpgcanpgaa

/- Watching: the rules 17, 19 and 20, as the program asks them. No condition but the lists' lengths. -/
namespace Go.Anv
open Go
def Sc.rule17 (z : Sc) : Bool :=
  if !(decide (z.s.no ≤ z.t.no) && eqB z.s.no z.k.out z.l.out) then false
  else if z.t.no - z.s.no = 0 then true
  else if z.t.no - z.s.no = 1 then z.r.stores && z.r.addr == 0x10000000#64 && z.r.size == 1 && (z.k.out z.s.no).setWidth 64 == z.r.data
  else false
def RowV.fits (r : RowV) : Bool := decide (r.mem ≥ 1) && decide (r.mem ≤ 3) && (r.size == 1 || r.size == 2 || r.size == 4 || r.size == 8)
def Sc.rule19 (z : Sc) : Bool :=
  if z.r.kind != 1 || z.r.mem == 0 then true
  else z.r.fits && decide (z.r.addr.toNat % z.r.size.toNat = 0) && checkI z.c.cfg z.c.addr z.c.eff z.r.addr z.r.size z.r.mem
def Sc.rule20 (z : Sc) : Bool :=
  if z.r.len == 0 then true
  else (z.r.len == 2 && checkI z.c.cfg z.c.addr z.c.mode z.r.pc 2 4) || (z.r.len == 4 && checkI z.c.cfg z.c.addr z.c.mode z.r.pc 2 4 && checkI z.c.cfg z.c.addr z.c.mode (z.r.pc + 2#64) 2 4)
theorem nn3 {a b : Bool} (g : (a && b) = false) (h : a = true) : b = false := by cases b <;> simp_all
theorem wide8 (q : B8) : IntKind.u64.wrap ((q.toNat : Nat) : Int) = ((q.setWidth 64).toNat : Int) := by
  have := q.isLt
  rw [wnat (by omega), BitVec.toNat_setWidth, Nat.mod_eq_of_lt (by omega)]
theorem rem_eq (a : B64) (n : Int) (h : 1 ≤ n ∧ n ≤ 8) : ((a.toNat : Int).tmod (IntKind.u64.wrap n) == 0) = decide (a.toNat % n.toNat = 0) := by
  rw [wsize (by omega)]
  obtain ⟨m, rfl⟩ : ∃ m : Nat, n = (m : Int) := ⟨n.toNat, by omega⟩
  rw [Int.toNat_natCast, Bool.eq_iff_iff, beq_iff_eq, decide_eq_true_iff, ← Int.ofNat_tmod]
  omega
theorem fits_size {r : RowV} (h : r.fits = true) : 1 ≤ r.size ∧ r.size ≤ 8 := by
  unfold RowV.fits at h
  simp only [Bool.and_eq_true, Bool.or_eq_true, beq_iff_eq] at h
  omega
end Go.Anv
namespace Go.Proofs.Ytghcdkpgcanpgaa
open Go Go.Anv
set_option maxRecDepth 100000 in
theorem prefix2_spec (m1 m2 : Bool) (n1 n2 c1 c2 s1 s2 : Nat) (p q : Nat → B8) (hc : n1 ≤ c1) :
    Does TB 52 [.s (.gs 0 0 n1 c1), .s (.gs 1 0 n2 c2)] [bblk m1 n1 p s1, bblk m2 n2 q s2] (fun v h' => v = .s (.bool (decide (n2 ≤ n1) && eqB n2 p q)) ∧ h' = [bblk m1 n1 p s1, bblk m2 n2 q s2]) := by
  refine fnX_does TB Try.func52 rfl (by decide) (fun O on hO => ?_)
  have hg : decide ((n1 : Int) ≥ (n2 : Int)) = decide (n2 ≤ n1) := decide_eq_decide.2 (by omega)
  repeat (refine need_intro (by first | exact fun h => h | exact nt | exact an2 | exact an3 | rfl | (simp; done) | fail) ?_)
  refine need_intro (fun h => ?_) ?_
  · have := of_decide_eq_true h
    exact ⟨by omega, by omega, by omega⟩
  repeat (refine need_intro (by first | exact fun h => h | exact nt | exact an2 | exact an3 | rfl | (simp; done) | fail) ?_)
  refine ifB_intro (fun h => ?_) (fun h => ?_)
  · have hle : n2 ≤ n1 := by have := of_decide_eq_true h; omega
    have hsk : skip c1 0 0 1 = 0 := by unfold skip; split <;> rfl
    refine Does.ungd (b := [_, _]) ⟨⟨h, rfl⟩, ⟨h, rfl⟩, trivial⟩ ?_
    refine Does.args (b := [.s (.gs 0 0 n2 c1), .s (.gs 1 0 n2 c2)]) ⟨⟨rfl, hsk, by omega, by omega⟩, eqvE_refl _, trivial⟩ ?_
    refine Does.atc (equal_spec m1 m2 0 0 n2 c1 c2 n1 n2 s1 s2 (bfun p) (bfun q) p q (by omega) (by omega) (fun j _ => by rw [Nat.zero_add]; rfl) (fun j _ => by rw [Nat.zero_add]; rfl)) [0, 1] rfl ⟨rfl, rfl, trivial⟩ (by decide) ?_
    repeat (refine need_intro (by first | exact fun h => h | exact nt | exact an2 | exact an3 | rfl | (simp; done) | fail) ?_)
    refine Ends.ro (H := [bblk m1 n1 p s1, bblk m2 n2 q s2]) (J := []) rfl ?_ rfl
    show (bif decide ((n1 : Int) ≥ (n2 : Int)) then eqB n2 p q else false) = _
    rw [cond_and, hg]
  · repeat (refine need_intro (by first | exact h | exact fun h => h | exact nt | exact an2 | exact an3 | rfl | (simp; done) | fail) ?_)
    refine Ends.ro (H := [bblk m1 n1 p s1, bblk m2 n2 q s2]) (J := []) rfl ?_ rfl
    show false = _
    rw [← hg, h]
    rfl
set_option maxRecDepth 100000 in
theorem rule17_spec (z : Sc) (ok : z.Ok) : Does TB 137 [.s (.ptr 7 0)] z.h (fun v h' => v = .s (.bool z.rule17) ∧ h' = z.h) := by
  refine fnX_does TB Try.func137 rfl (by decide) (fun O on hO => ?_)
  have fin : ∀ {x : Bool}, x = z.rule17 → Anv.Ends 8 (fun v h' => v = .s (.bool z.rule17) ∧ h' = z.h) (.s (.bool x)) z.h := by
    rintro x rfl
    exact Ends.ro (H := z.h) (J := []) rfl rfl rfl
  have hno := ok.no
  have hmo := ok.mo
  refine draw_held on rfl (fun _ _ h => h) ?_
  repeat (refine need_intro (by first | exact fun h => h | exact nt | exact an2 | exact an3 | rfl | (simp; done) | fail) ?_)
  refine Does.atc (prefix2_spec z.k.mo z.l.mo z.t.no z.s.no z.c5 z.c2 z.k.so z.l.so z.k.out z.l.out ok.do_) [5, 2] rfl ⟨rfl, rfl, trivial⟩ (by decide) ?_
  refine ifB_intro (fun h1 => ?_) (fun h1 => ?_)
  · refine fin ?_
    unfold Sc.rule17
    rw [if_pos h1]
  have h1' : (decide (z.s.no ≤ z.t.no) && eqB z.s.no z.k.out z.l.out) = true := by simpa using h1
  have hle : z.s.no ≤ z.t.no := by
    rw [Bool.and_eq_true] at h1'
    exact of_decide_eq_true h1'.1
  have es : IntKind.i64.wrap ((z.t.no : Int) - (z.s.no : Int)) = ((z.t.no - z.s.no : Nat) : Int) := by rw [i64_in (by omega) (by omega)]; omega
  refine ifB_intro (fun h2 => ?_) (fun h2 => ?_)
  · rw [es] at h2
    have h2 : z.t.no - z.s.no = 0 := by have := eq_of_beq h2; omega
    refine fin ?_
    unfold Sc.rule17
    rw [h1, if_neg (by decide), if_pos h2]
  rw [es] at h2
  have h2 : ¬ z.t.no - z.s.no = 0 := by have := ne_of_beq_false h2; omega
  refine ifB_intro (fun h3 => ?_) (fun h3 => ?_)
  · rw [es] at h3
    have h3 : z.t.no - z.s.no = 1 := by have := eq_of_beq h3; omega
    refine draw_held on rfl (fun _ _ h => h) ?_
    refine Does.atc (stores_spec z) [0, 1, 2, 3, 4, 5, 6, 7] rfl ⟨rfl, rfl, rfl, rfl, rfl, rfl, rfl, rfl, trivial⟩ (by decide) ?_
    repeat (refine need_intro (by first | exact fun _ => (by omega) | exact fun _ => ⟨by omega, by omega⟩ | exact fun h => h | exact nt | exact an2 | exact an3 | rfl | (simp; done) | fail) ?_)
    refine fin ?_
    unfold Sc.rule17
    rw [h1, if_neg (by decide), if_neg h2, if_pos h3]
    simp only [cond_and]
    congr 1
    · congr 1
      congr 1
      exact beq_nat _ 0x10000000#64
    · rw [Nat.zero_add, Int.toNat_natCast]
      show (IntKind.u64.wrap (((z.k.out z.s.no).toNat : Nat) : Int) == _) = _
      rw [wide8, beq_nat]
  · rw [es] at h3
    have h3 : ¬ z.t.no - z.s.no = 1 := by have := ne_of_beq_false h3; omega
    refine fin ?_
    unfold Sc.rule17
    rw [h1, if_neg (by decide), if_neg h2, if_neg h3]
set_option maxRecDepth 100000 in
theorem rule19_spec (z : Sc) (ok : z.Ok) : Does TB 140 [.s (.ptr 11 0), .s (.ptr 9 0)] z.hb (fun v h' => v = .s (.bool z.rule19) ∧ h' = z.hb) := by
  refine fnX_does TB Try.func140 rfl (by decide) (fun O on hO => ?_)
  repeat (refine need_intro (by first | exact fun h => h | exact nt | exact an2 | exact an3 | rfl | (simp; done) | fail) ?_)
  refine ifB_intro (fun h1 => ?_) (fun h1 => ?_)
  · refine hbfin z ?_
    unfold Sc.rule19
    rw [if_pos ((cond_or _ _).symm.trans h1)]
  have h1' : ¬ (z.r.kind != 1 || z.r.mem == 0) = true := by rw [← cond_or]; exact Bool.eq_false_iff.1 h1
  repeat (refine need_intro (by first | exact fun h => h | exact nt | exact an2 | exact an3 | rfl | (simp; done) | fail) ?_)
  have e1 : (bif (bif decide (z.r.mem ≥ 1) then decide (z.r.mem ≤ 3) else false) then (bif (bif (bif z.r.size == 1 then true else z.r.size == 2) then true else z.r.size == 4) then true else z.r.size == 8) else false) = z.r.fits := by
    simp only [cond_and, cond_or]
    rfl
  refine draw_held on rfl (fun _ _ h => h) ?_
  repeat (refine need_intro (by first | exact fun h => by have := fits_size (e1.symm.trans h); rw [wsize (by omega)]; omega | exact fun h => h | exact nt | exact an2 | exact an3 | rfl | (simp; done) | fail) ?_)
  have e2 : (bif (bif (bif decide (z.r.mem ≥ 1) then decide (z.r.mem ≤ 3) else false) then (bif (bif (bif z.r.size == 1 then true else z.r.size == 2) then true else z.r.size == 4) then true else z.r.size == 8) else false) then ((z.r.addr.toNat : Int).tmod (IntKind.u64.wrap z.r.size) == 0) else false) = (z.r.fits && decide (z.r.addr.toNat % z.r.size.toNat = 0)) := by
    rw [e1, cond_and]
    cases hf : z.r.fits with
    | false => rfl
    | true => rw [rem_eq _ _ (fits_size hf)]
  refine ifB_intro (fun g => ?_) (fun g => ?_)
  · refine Does.ungd (b := [.agg z.c.segs]) ⟨⟨g, rfl⟩, trivial⟩ ?_
    refine (eff_spec z.c _).mono ?_
    rintro _ _ ⟨rfl, rfl⟩
    repeat (refine need_intro (by first | exact g | exact fun h => h | exact nt | exact an2 | exact an3 | rfl | (simp; done) | fail) ?_)
    refine ifB_intro (fun _ => ?_) (fun h => absurd (g.symm.trans h) (by decide))
    refine Does.ungd (b := [.agg (pmpSeg z.c.cfg z.c.addr), .s (.int .i64 z.c.eff), .s (.int .u64 z.r.addr.toNat), .s (.int .i64 z.r.size), .s (.int .i64 z.r.mem)]) ⟨⟨g, rfl⟩, rfl, ⟨g, rfl⟩, ⟨g, rfl⟩, ⟨g, rfl⟩, trivial⟩ ?_
    refine (pcheck_spec z.c.cfg z.c.addr z.c.eff z.r.addr z.r.size z.r.mem _).mono ?_
    rintro _ _ ⟨rfl, rfl⟩
    repeat (refine need_intro (by first | exact g | exact fun h => h | exact nt | exact an2 | exact an3 | rfl | (simp; done) | fail) ?_)
    refine hbfin z ?_
    unfold Sc.rule19
    rw [if_neg h1', ← e2]
    exact cond_and _ _
  · repeat (first | refine need_intro (by first | exact g | exact nt g | exact nn3 g | exact fun h => h | exact nt | exact an2 | exact an3 | rfl | (simp; done) | fail) ?_ | refine ifB_intro (fun h => absurd (h.symm.trans g) (by decide)) (fun _ => ?_))
    refine hbfin z ?_
    unfold Sc.rule19
    rw [if_neg h1', ← e2, g]
    rfl
set_option maxRecDepth 100000 in
theorem rule20_spec (z : Sc) : Does TB 143 [.s (.ptr 11 0), .s (.ptr 9 0)] z.hb (fun v h' => v = .s (.bool z.rule20) ∧ h' = z.hb) := by
  refine fnX_does TB Try.func143 rfl (by decide) (fun O on hO => ?_)
  refine ifB_intro (fun h1 => ?_) (fun h1 => ?_)
  · refine hbfin z ?_
    unfold Sc.rule20
    rw [if_pos h1]
  have h1' : ¬ (z.r.len == 0) = true := Bool.eq_false_iff.1 h1
  refine draw_held on rfl (fun _ _ h => h) ?_
  refine (pcheck_spec z.c.cfg z.c.addr z.c.mode z.r.pc 2 4 _).mono ?_
  rintro _ _ ⟨rfl, rfl⟩
  repeat (refine need_intro (by first | exact fun h => h | exact nt | exact an2 | exact an3 | rfl | (simp; done) | fail) ?_)
  refine draw_held on rfl (fun _ _ h => h) ?_
  repeat (refine need_intro (by first | exact fun h => h | exact nt | exact an2 | exact an3 | rfl | (simp; done) | fail) ?_)
  have e1 : ((!(bif z.r.len == 2 then checkI z.c.cfg z.c.addr z.c.mode z.r.pc 2 4 else false)) && (bif z.r.len == 4 then checkI z.c.cfg z.c.addr z.c.mode z.r.pc 2 4 else false)) = ((!(z.r.len == 2 && checkI z.c.cfg z.c.addr z.c.mode z.r.pc 2 4)) && (z.r.len == 4 && checkI z.c.cfg z.c.addr z.c.mode z.r.pc 2 4)) := by
    rw [cond_and, cond_and]
  refine ifB_intro (fun g => ?_) (fun g => ?_)
  · refine Does.ungd (b := [.agg (pmpSeg z.c.cfg z.c.addr), .s (.int .i64 z.c.mode), .s (.int .u64 (z.r.pc + 2#64).toNat), .s (.int .i64 2), .s (.int .i64 4)]) ⟨⟨g, rfl⟩, ⟨g, rfl⟩, ⟨g, congrArg (fun z => EV.s (.int .u64 z)) (add64 z.r.pc 2#64)⟩, rfl, rfl, trivial⟩ ?_
    refine (pcheck_spec z.c.cfg z.c.addr z.c.mode (z.r.pc + 2#64) 2 4 _).mono ?_
    rintro _ _ ⟨rfl, rfl⟩
    repeat (refine need_intro (by first | exact g | exact fun h => h | exact nt | exact an2 | exact an3 | rfl | (simp; done) | fail) ?_)
    refine hbfin z ?_
    unfold Sc.rule20
    rw [if_neg h1']
    simp only [cond_and, cond_or]
  · repeat (first | refine need_intro (by first | exact g | exact nt g | exact nn3 g | exact fun h => h | exact nt | exact an2 | exact an3 | rfl | (simp; done) | fail) ?_ | refine ifB_intro (fun h => absurd (h.symm.trans g) (by decide)) (fun _ => ?_))
    refine hbfin z ?_
    unfold Sc.rule20
    rw [if_neg h1']
    have g' := e1.symm.trans g
    revert g'
    simp only [cond_and]
    cases (z.r.len == 2 && checkI z.c.cfg z.c.addr z.c.mode z.r.pc 2 4) <;> cases (z.r.len == 4 && checkI z.c.cfg z.c.addr z.c.mode z.r.pc 2 4) <;> intro g' <;> first | rfl | cases g'
end Go.Proofs.Ytghcdkpgcanpgaa

/- Watching: the rules in one list; Step, the program's. No condition but the lists' lengths. Printed by mk_q13.py. -/
namespace Go.Anv
open Go
/-- The lowest rule that is broken; 0: none. -/
def firstNot : Nat → List Bool → Int
  | _, [] => 0
  | n, b :: r => if b then firstNot (n + 1) r else (n : Int)
def Sc.step (z : Sc) : Int :=
  if z.rule1 then firstNot 2 [z.rule2, z.rule3, z.rule4, z.rule5, z.rule6, z.rule7, z.rule8, z.rule9, z.rule10, z.rule11, z.rule12, z.rule13, z.rule14, z.rule15, z.rule16, z.rule17, z.rule18, z.rule19, z.rule20] else 1
end Go.Anv
namespace Go.Proofs.Ytghcdkpgcanpgaa
open Go Go.Anv
/-- The first ten rules' functions; k: where the boxes begin. -/
def fnsA (k : Nat) : List Seg :=
  [.one (.func (.func 115) [] [.ptr (k + 5) 0, .ptr (k + 4) 0, .ptr (k + 0) 0, .ptr (k + 2) 0]),
    .one (.func (.func 116) [] [.ptr (k + 3) 0, .ptr (k + 1) 0, .ptr (k + 2) 0]),
    .one (.func (.func 117) [] [.ptr (k + 3) 0, .ptr (k + 4) 0, .ptr (k + 0) 0]),
    .one (.func (.func 119) [.ptr 7 0] []),
    .one (.func (.func 120) [] [.ptr (k + 1) 0, .ptr (k + 0) 0]),
    .one (.func (.func 123) [.ptr 7 0] []),
    .one (.func (.func 124) [] [.ptr (k + 1) 0, .ptr (k + 2) 0]),
    .one (.func (.func 125) [.ptr 7 0] []),
    .one (.func (.func 126) [.ptr 7 0] []),
    .one (.func (.func 127) [.ptr 7 0] [])]
/-- The other ten. -/
def fnsB (k : Nat) : List Seg :=
  [.one (.func (.func 128) [] [.ptr (k + 3) 0, .ptr (k + 2) 0, .ptr (k + 1) 0, .ptr (k + 5) 0]),
    .one (.func (.func 130) [] [.ptr (k + 0) 0, .ptr (k + 3) 0, .ptr (k + 2) 0, .ptr (k + 1) 0]),
    .one (.func (.func 132) [] [.ptr (k + 0) 0, .ptr (k + 3) 0, .ptr (k + 1) 0, .ptr (k + 2) 0]),
    .one (.func (.func 133) [] [.ptr (k + 0) 0, .ptr (k + 3) 0, .ptr (k + 5) 0, .ptr (k + 4) 0]),
    .one (.func (.func 135) [] [.ptr (k + 0) 0, .ptr (k + 5) 0, .ptr (k + 4) 0]),
    .one (.func (.func 136) [] [.ptr (k + 3) 0, .ptr (k + 5) 0, .ptr (k + 0) 0]),
    .one (.func (.func 137) [.ptr 7 0] []),
    .one (.func (.func 138) [] [.ptr (k + 2) 0, .ptr (k + 1) 0, .ptr (k + 0) 0, .ptr (k + 3) 0]),
    .one (.func (.func 140) [] [.ptr (k + 3) 0, .ptr (k + 1) 0]),
    .one (.func (.func 143) [] [.ptr (k + 3) 0, .ptr (k + 1) 0])]
set_option maxHeartbeats 4000000 in
set_option maxRecDepth 100000 in
theorem first_spec (z : Sc) : Does TB 108 [.s (.ptr 7 0)] z.h (fun v h' => v = .s (.slice 14 0 10 10) ∧ h' = z.hb ++ [.cells true (fnsA 8) 0]) := by
  refine fnX_does TB Try.func108 rfl (by decide) (fun O on hO => ?_)
  refine draw_to on ?t9 ?_ ?_
  rotate_left 1
  · refine draw_held on rfl (fun _ _ h => h) ?_
    repeat' (first | refine need_intro (by first | exact fun h => h | exact nt | exact an2 | exact an3 | rfl | (simp; done) | fail) ?_ | refine And.intro ?_ ?_)
    · refine toK_id ?_
      rw [hO]; exact Nat.le_of_ble_eq_true rfl
    all_goals first
      | (refine toK_of [0, 1, 2, 3, 4, 5, 6, 7, 8, 9, 10, 11] (by decide) (by rw [hO]; exact ⟨rfl, rfl, rfl, rfl, rfl, rfl, rfl, rfl, trivial⟩) ?_ ?_; (repeat' (first | exact eqvT_nil | refine eqvT_same ?_)); exact ⟨⟨_, rfl, eqvB_refl _⟩, ⟨_, rfl, eqvB_refl _⟩, ⟨_, rfl, eqvB_refl _⟩, ⟨_, rfl, eqvB_refl _⟩, ⟨_, rfl, eqvB_refl _⟩, ⟨_, rfl, eqvB_refl _⟩, ⟨_, rfl, eqvB_refl _⟩, ⟨_, rfl, eqvB_refl _⟩, ⟨_, rfl, eqvB_refl _⟩, ⟨_, rfl, eqvB_refl _⟩, ⟨_, rfl, eqvB_refl _⟩, ⟨_, rfl, eqvB_refl _⟩, trivial⟩)
      | (refine toK_of [0, 1, 2, 3, 4, 5, 6, 7, 8, 9, 11, 10] (by decide) (by rw [hO]; exact ⟨rfl, rfl, rfl, rfl, rfl, rfl, rfl, rfl, trivial⟩) ?_ ?_; (repeat' (first | exact eqvT_nil | refine eqvT_same ?_)); exact ⟨⟨_, rfl, eqvB_refl _⟩, ⟨_, rfl, eqvB_refl _⟩, ⟨_, rfl, eqvB_refl _⟩, ⟨_, rfl, eqvB_refl _⟩, ⟨_, rfl, eqvB_refl _⟩, ⟨_, rfl, eqvB_refl _⟩, ⟨_, rfl, eqvB_refl _⟩, ⟨_, rfl, eqvB_refl _⟩, ⟨_, rfl, eqvB_refl _⟩, ⟨_, rfl, eqvB_refl _⟩, ⟨_, rfl, eqvB_refl _⟩, ⟨_, rfl, eqvB_refl _⟩, trivial⟩)
      | (refine toK_of [0, 1, 2, 3, 4, 5, 6, 7, 8, 10, 9, 11] (by decide) (by rw [hO]; exact ⟨rfl, rfl, rfl, rfl, rfl, rfl, rfl, rfl, trivial⟩) ?_ ?_; (repeat' (first | exact eqvT_nil | refine eqvT_same ?_)); exact ⟨⟨_, rfl, eqvB_refl _⟩, ⟨_, rfl, eqvB_refl _⟩, ⟨_, rfl, eqvB_refl _⟩, ⟨_, rfl, eqvB_refl _⟩, ⟨_, rfl, eqvB_refl _⟩, ⟨_, rfl, eqvB_refl _⟩, ⟨_, rfl, eqvB_refl _⟩, ⟨_, rfl, eqvB_refl _⟩, ⟨_, rfl, eqvB_refl _⟩, ⟨_, rfl, eqvB_refl _⟩, ⟨_, rfl, eqvB_refl _⟩, ⟨_, rfl, eqvB_refl _⟩, trivial⟩)
      | (refine toK_of [0, 1, 2, 3, 4, 5, 6, 7, 8, 10, 11, 9] (by decide) (by rw [hO]; exact ⟨rfl, rfl, rfl, rfl, rfl, rfl, rfl, rfl, trivial⟩) ?_ ?_; (repeat' (first | exact eqvT_nil | refine eqvT_same ?_)); exact ⟨⟨_, rfl, eqvB_refl _⟩, ⟨_, rfl, eqvB_refl _⟩, ⟨_, rfl, eqvB_refl _⟩, ⟨_, rfl, eqvB_refl _⟩, ⟨_, rfl, eqvB_refl _⟩, ⟨_, rfl, eqvB_refl _⟩, ⟨_, rfl, eqvB_refl _⟩, ⟨_, rfl, eqvB_refl _⟩, ⟨_, rfl, eqvB_refl _⟩, ⟨_, rfl, eqvB_refl _⟩, ⟨_, rfl, eqvB_refl _⟩, ⟨_, rfl, eqvB_refl _⟩, trivial⟩)
      | (refine toK_of [0, 1, 2, 3, 4, 5, 6, 7, 8, 11, 9, 10] (by decide) (by rw [hO]; exact ⟨rfl, rfl, rfl, rfl, rfl, rfl, rfl, rfl, trivial⟩) ?_ ?_; (repeat' (first | exact eqvT_nil | refine eqvT_same ?_)); exact ⟨⟨_, rfl, eqvB_refl _⟩, ⟨_, rfl, eqvB_refl _⟩, ⟨_, rfl, eqvB_refl _⟩, ⟨_, rfl, eqvB_refl _⟩, ⟨_, rfl, eqvB_refl _⟩, ⟨_, rfl, eqvB_refl _⟩, ⟨_, rfl, eqvB_refl _⟩, ⟨_, rfl, eqvB_refl _⟩, ⟨_, rfl, eqvB_refl _⟩, ⟨_, rfl, eqvB_refl _⟩, ⟨_, rfl, eqvB_refl _⟩, ⟨_, rfl, eqvB_refl _⟩, trivial⟩)
      | (refine toK_of [0, 1, 2, 3, 4, 5, 6, 7, 8, 11, 10, 9] (by decide) (by rw [hO]; exact ⟨rfl, rfl, rfl, rfl, rfl, rfl, rfl, rfl, trivial⟩) ?_ ?_; (repeat' (first | exact eqvT_nil | refine eqvT_same ?_)); exact ⟨⟨_, rfl, eqvB_refl _⟩, ⟨_, rfl, eqvB_refl _⟩, ⟨_, rfl, eqvB_refl _⟩, ⟨_, rfl, eqvB_refl _⟩, ⟨_, rfl, eqvB_refl _⟩, ⟨_, rfl, eqvB_refl _⟩, ⟨_, rfl, eqvB_refl _⟩, ⟨_, rfl, eqvB_refl _⟩, ⟨_, rfl, eqvB_refl _⟩, ⟨_, rfl, eqvB_refl _⟩, ⟨_, rfl, eqvB_refl _⟩, ⟨_, rfl, eqvB_refl _⟩, trivial⟩)
      | fail
  refine draw_to on ?t12 ?_ ?_
  rotate_left 1
  · refine draw_held on rfl (fun _ _ h => h) ?_
    repeat' (first | refine need_intro (by first | exact fun h => h | exact nt | exact an2 | exact an3 | rfl | (simp; done) | fail) ?_ | refine And.intro ?_ ?_)
    · refine toK_id ?_
      rw [hO]; exact Nat.le_of_ble_eq_true rfl
    all_goals first
      | (refine toK_of [0, 1, 2, 3, 4, 5, 6, 7, 8, 9, 10, 11, 12, 13] (by decide) (by rw [hO]; exact ⟨rfl, rfl, rfl, rfl, rfl, rfl, rfl, rfl, trivial⟩) ?_ ?_; (repeat' (first | exact eqvT_nil | refine eqvT_same ?_)); exact ⟨⟨_, rfl, eqvB_refl _⟩, ⟨_, rfl, eqvB_refl _⟩, ⟨_, rfl, eqvB_refl _⟩, ⟨_, rfl, eqvB_refl _⟩, ⟨_, rfl, eqvB_refl _⟩, ⟨_, rfl, eqvB_refl _⟩, ⟨_, rfl, eqvB_refl _⟩, ⟨_, rfl, eqvB_refl _⟩, ⟨_, rfl, eqvB_refl _⟩, ⟨_, rfl, eqvB_refl _⟩, ⟨_, rfl, eqvB_refl _⟩, ⟨_, rfl, eqvB_refl _⟩, ⟨_, rfl, eqvB_refl _⟩, ⟨_, rfl, eqvB_refl _⟩, trivial⟩)
      | (refine toK_of [0, 1, 2, 3, 4, 5, 6, 7, 8, 9, 10, 11, 13, 12] (by decide) (by rw [hO]; exact ⟨rfl, rfl, rfl, rfl, rfl, rfl, rfl, rfl, trivial⟩) ?_ ?_; (repeat' (first | exact eqvT_nil | refine eqvT_same ?_)); exact ⟨⟨_, rfl, eqvB_refl _⟩, ⟨_, rfl, eqvB_refl _⟩, ⟨_, rfl, eqvB_refl _⟩, ⟨_, rfl, eqvB_refl _⟩, ⟨_, rfl, eqvB_refl _⟩, ⟨_, rfl, eqvB_refl _⟩, ⟨_, rfl, eqvB_refl _⟩, ⟨_, rfl, eqvB_refl _⟩, ⟨_, rfl, eqvB_refl _⟩, ⟨_, rfl, eqvB_refl _⟩, ⟨_, rfl, eqvB_refl _⟩, ⟨_, rfl, eqvB_refl _⟩, ⟨_, rfl, eqvB_refl _⟩, ⟨_, rfl, eqvB_refl _⟩, trivial⟩)
      | fail
  exact Ends.same ⟨rfl, rfl⟩ (Nat.le_of_ble_eq_true rfl)
set_option maxHeartbeats 4000000 in
set_option maxRecDepth 100000 in
theorem second_spec (z : Sc) : Does TB 109 [.s (.ptr 7 0)] z.h (fun v h' => v = .s (.slice 14 0 10 10) ∧ h' = z.hb ++ [.cells true (fnsB 8) 0]) := by
  refine fnX_does TB Try.func109 rfl (by decide) (fun O on hO => ?_)
  refine draw_to on ?t9 ?_ ?_
  rotate_left 1
  · refine draw_held on rfl (fun _ _ h => h) ?_
    repeat' (first | refine need_intro (by first | exact fun h => h | exact nt | exact an2 | exact an3 | rfl | (simp; done) | fail) ?_ | refine And.intro ?_ ?_)
    · refine toK_id ?_
      rw [hO]; exact Nat.le_of_ble_eq_true rfl
    all_goals first
      | (refine toK_of [0, 1, 2, 3, 4, 5, 6, 7, 8, 9, 10, 11] (by decide) (by rw [hO]; exact ⟨rfl, rfl, rfl, rfl, rfl, rfl, rfl, rfl, trivial⟩) ?_ ?_; (repeat' (first | exact eqvT_nil | refine eqvT_same ?_)); exact ⟨⟨_, rfl, eqvB_refl _⟩, ⟨_, rfl, eqvB_refl _⟩, ⟨_, rfl, eqvB_refl _⟩, ⟨_, rfl, eqvB_refl _⟩, ⟨_, rfl, eqvB_refl _⟩, ⟨_, rfl, eqvB_refl _⟩, ⟨_, rfl, eqvB_refl _⟩, ⟨_, rfl, eqvB_refl _⟩, ⟨_, rfl, eqvB_refl _⟩, ⟨_, rfl, eqvB_refl _⟩, ⟨_, rfl, eqvB_refl _⟩, ⟨_, rfl, eqvB_refl _⟩, trivial⟩)
      | (refine toK_of [0, 1, 2, 3, 4, 5, 6, 7, 8, 9, 11, 10] (by decide) (by rw [hO]; exact ⟨rfl, rfl, rfl, rfl, rfl, rfl, rfl, rfl, trivial⟩) ?_ ?_; (repeat' (first | exact eqvT_nil | refine eqvT_same ?_)); exact ⟨⟨_, rfl, eqvB_refl _⟩, ⟨_, rfl, eqvB_refl _⟩, ⟨_, rfl, eqvB_refl _⟩, ⟨_, rfl, eqvB_refl _⟩, ⟨_, rfl, eqvB_refl _⟩, ⟨_, rfl, eqvB_refl _⟩, ⟨_, rfl, eqvB_refl _⟩, ⟨_, rfl, eqvB_refl _⟩, ⟨_, rfl, eqvB_refl _⟩, ⟨_, rfl, eqvB_refl _⟩, ⟨_, rfl, eqvB_refl _⟩, ⟨_, rfl, eqvB_refl _⟩, trivial⟩)
      | (refine toK_of [0, 1, 2, 3, 4, 5, 6, 7, 8, 10, 9, 11] (by decide) (by rw [hO]; exact ⟨rfl, rfl, rfl, rfl, rfl, rfl, rfl, rfl, trivial⟩) ?_ ?_; (repeat' (first | exact eqvT_nil | refine eqvT_same ?_)); exact ⟨⟨_, rfl, eqvB_refl _⟩, ⟨_, rfl, eqvB_refl _⟩, ⟨_, rfl, eqvB_refl _⟩, ⟨_, rfl, eqvB_refl _⟩, ⟨_, rfl, eqvB_refl _⟩, ⟨_, rfl, eqvB_refl _⟩, ⟨_, rfl, eqvB_refl _⟩, ⟨_, rfl, eqvB_refl _⟩, ⟨_, rfl, eqvB_refl _⟩, ⟨_, rfl, eqvB_refl _⟩, ⟨_, rfl, eqvB_refl _⟩, ⟨_, rfl, eqvB_refl _⟩, trivial⟩)
      | (refine toK_of [0, 1, 2, 3, 4, 5, 6, 7, 8, 10, 11, 9] (by decide) (by rw [hO]; exact ⟨rfl, rfl, rfl, rfl, rfl, rfl, rfl, rfl, trivial⟩) ?_ ?_; (repeat' (first | exact eqvT_nil | refine eqvT_same ?_)); exact ⟨⟨_, rfl, eqvB_refl _⟩, ⟨_, rfl, eqvB_refl _⟩, ⟨_, rfl, eqvB_refl _⟩, ⟨_, rfl, eqvB_refl _⟩, ⟨_, rfl, eqvB_refl _⟩, ⟨_, rfl, eqvB_refl _⟩, ⟨_, rfl, eqvB_refl _⟩, ⟨_, rfl, eqvB_refl _⟩, ⟨_, rfl, eqvB_refl _⟩, ⟨_, rfl, eqvB_refl _⟩, ⟨_, rfl, eqvB_refl _⟩, ⟨_, rfl, eqvB_refl _⟩, trivial⟩)
      | (refine toK_of [0, 1, 2, 3, 4, 5, 6, 7, 8, 11, 9, 10] (by decide) (by rw [hO]; exact ⟨rfl, rfl, rfl, rfl, rfl, rfl, rfl, rfl, trivial⟩) ?_ ?_; (repeat' (first | exact eqvT_nil | refine eqvT_same ?_)); exact ⟨⟨_, rfl, eqvB_refl _⟩, ⟨_, rfl, eqvB_refl _⟩, ⟨_, rfl, eqvB_refl _⟩, ⟨_, rfl, eqvB_refl _⟩, ⟨_, rfl, eqvB_refl _⟩, ⟨_, rfl, eqvB_refl _⟩, ⟨_, rfl, eqvB_refl _⟩, ⟨_, rfl, eqvB_refl _⟩, ⟨_, rfl, eqvB_refl _⟩, ⟨_, rfl, eqvB_refl _⟩, ⟨_, rfl, eqvB_refl _⟩, ⟨_, rfl, eqvB_refl _⟩, trivial⟩)
      | (refine toK_of [0, 1, 2, 3, 4, 5, 6, 7, 8, 11, 10, 9] (by decide) (by rw [hO]; exact ⟨rfl, rfl, rfl, rfl, rfl, rfl, rfl, rfl, trivial⟩) ?_ ?_; (repeat' (first | exact eqvT_nil | refine eqvT_same ?_)); exact ⟨⟨_, rfl, eqvB_refl _⟩, ⟨_, rfl, eqvB_refl _⟩, ⟨_, rfl, eqvB_refl _⟩, ⟨_, rfl, eqvB_refl _⟩, ⟨_, rfl, eqvB_refl _⟩, ⟨_, rfl, eqvB_refl _⟩, ⟨_, rfl, eqvB_refl _⟩, ⟨_, rfl, eqvB_refl _⟩, ⟨_, rfl, eqvB_refl _⟩, ⟨_, rfl, eqvB_refl _⟩, ⟨_, rfl, eqvB_refl _⟩, ⟨_, rfl, eqvB_refl _⟩, trivial⟩)
      | fail
  refine draw_to on ?t12 ?_ ?_
  rotate_left 1
  · refine draw_held on rfl (fun _ _ h => h) ?_
    repeat' (first | refine need_intro (by first | exact fun h => h | exact nt | exact an2 | exact an3 | rfl | (simp; done) | fail) ?_ | refine And.intro ?_ ?_)
    · refine toK_id ?_
      rw [hO]; exact Nat.le_of_ble_eq_true rfl
    all_goals first
      | (refine toK_of [0, 1, 2, 3, 4, 5, 6, 7, 8, 9, 10, 11, 12, 13] (by decide) (by rw [hO]; exact ⟨rfl, rfl, rfl, rfl, rfl, rfl, rfl, rfl, trivial⟩) ?_ ?_; (repeat' (first | exact eqvT_nil | refine eqvT_same ?_)); exact ⟨⟨_, rfl, eqvB_refl _⟩, ⟨_, rfl, eqvB_refl _⟩, ⟨_, rfl, eqvB_refl _⟩, ⟨_, rfl, eqvB_refl _⟩, ⟨_, rfl, eqvB_refl _⟩, ⟨_, rfl, eqvB_refl _⟩, ⟨_, rfl, eqvB_refl _⟩, ⟨_, rfl, eqvB_refl _⟩, ⟨_, rfl, eqvB_refl _⟩, ⟨_, rfl, eqvB_refl _⟩, ⟨_, rfl, eqvB_refl _⟩, ⟨_, rfl, eqvB_refl _⟩, ⟨_, rfl, eqvB_refl _⟩, ⟨_, rfl, eqvB_refl _⟩, trivial⟩)
      | (refine toK_of [0, 1, 2, 3, 4, 5, 6, 7, 8, 9, 10, 11, 13, 12] (by decide) (by rw [hO]; exact ⟨rfl, rfl, rfl, rfl, rfl, rfl, rfl, rfl, trivial⟩) ?_ ?_; (repeat' (first | exact eqvT_nil | refine eqvT_same ?_)); exact ⟨⟨_, rfl, eqvB_refl _⟩, ⟨_, rfl, eqvB_refl _⟩, ⟨_, rfl, eqvB_refl _⟩, ⟨_, rfl, eqvB_refl _⟩, ⟨_, rfl, eqvB_refl _⟩, ⟨_, rfl, eqvB_refl _⟩, ⟨_, rfl, eqvB_refl _⟩, ⟨_, rfl, eqvB_refl _⟩, ⟨_, rfl, eqvB_refl _⟩, ⟨_, rfl, eqvB_refl _⟩, ⟨_, rfl, eqvB_refl _⟩, ⟨_, rfl, eqvB_refl _⟩, ⟨_, rfl, eqvB_refl _⟩, ⟨_, rfl, eqvB_refl _⟩, trivial⟩)
      | fail
  exact Ends.same ⟨rfl, rfl⟩ (Nat.le_of_ble_eq_true rfl)
end Go.Proofs.Ytghcdkpgcanpgaa

/- Watching: the rules in one list: all twenty; Step, the program's. No condition but the lists' lengths. Printed by mk_q13.py. -/
namespace Go.Proofs.Ytghcdkpgcanpgaa
open Go Go.Anv
theorem eqvB_of_eq {a b : Blk} (h : a = b) : eqvB a b := h ▸ eqvB_refl a
theorem eqvS_of_eq {a b : List Seg} (h : a = b) : eqvS a b := h ▸ eqvS_refl a
set_option maxHeartbeats 4000000 in
set_option maxRecDepth 100000 in
theorem rules_spec (z : Sc) : Does TB 95 [.s (.ptr 7 0)] z.h (fun v h' => ∃ c, 20 ≤ c ∧ v = .s (.gs 20 0 20 c) ∧ h' = z.h ++ boxes ++ boxes ++ [.cells true (fnsA 8 ++ fnsB 14) (c - 20)]) := by
  refine fnX_does TB Try.func95 rfl (by decide) (fun O on hO => ?_)
  refine Does.atn (first_spec z) [0, 1, 2, 3, 4, 5, 6, 7] rfl ⟨rfl, rfl, rfl, rfl, rfl, rfl, rfl, rfl, trivial⟩ (by decide) ?_ ?_
  · rintro v h' ⟨_, rfl⟩
    exact ⟨.inr (.inr rfl), .inr (.inr rfl), .inr (.inr rfl), .inr (.inr rfl), .inr (.inr rfl), .inr (.inr rfl), .inr (.inr rfl), .inr (.inr rfl), .inl rfl, .inl rfl, .inl rfl, .inl rfl, .inl rfl, .inl rfl, .inl rfl, trivial⟩
  rintro v h' ⟨rfl, rfl⟩
  refine Does.atn (second_spec z) [0, 1, 2, 3, 4, 5, 6, 7] rfl ⟨rfl, rfl, rfl, rfl, rfl, rfl, rfl, rfl, trivial⟩ (by decide) ?_ ?_
  · rintro v h' ⟨_, rfl⟩
    exact ⟨.inr (.inr rfl), .inr (.inr rfl), .inr (.inr rfl), .inr (.inr rfl), .inr (.inr rfl), .inr (.inr rfl), .inr (.inr rfl), .inr (.inr rfl), .inl rfl, .inl rfl, .inl rfl, .inl rfl, .inl rfl, .inl rfl, .inl rfl, trivial⟩
  rintro v h' ⟨rfl, rfl⟩
  refine need_intro ⟨rfl, rfl, rfl, ⟨⟨rfl, Nat.le_of_ble_eq_true rfl⟩, Nat.le_of_ble_eq_true rfl, Nat.le_of_ble_eq_true rfl⟩⟩ ?_
  intro c hc
  have hc : 20 ≤ c := hc
  refine ⟨_, _, [0, 1, 2, 3, 4, 5, 6, 7, 8, 9, 10, 11, 12, 13, 15, 16, 17, 18, 19, 20, 22], ⟨c, hc, rfl, rfl⟩, by decide, ⟨rfl, rfl, rfl, rfl, rfl, rfl, rfl, rfl, trivial⟩, ⟨rfl, rfl, rfl, rfl⟩, ?_⟩
  exact ⟨⟨_, rfl, eqvB_refl _⟩, ⟨_, rfl, eqvB_refl _⟩, ⟨_, rfl, eqvB_refl _⟩, ⟨_, rfl, eqvB_refl _⟩, ⟨_, rfl, eqvB_refl _⟩, ⟨_, rfl, eqvB_refl _⟩, ⟨_, rfl, eqvB_refl _⟩, ⟨_, rfl, eqvB_refl _⟩, ⟨_, rfl, eqvB_refl _⟩, ⟨_, rfl, eqvB_refl _⟩, ⟨_, rfl, eqvB_refl _⟩, ⟨_, rfl, eqvB_refl _⟩, ⟨_, rfl, eqvB_refl _⟩, ⟨_, rfl, eqvB_refl _⟩, ⟨_, rfl, eqvB_of_eq (by kernel_rfl)⟩, ⟨_, rfl, eqvB_of_eq (by kernel_rfl)⟩, ⟨_, rfl, eqvB_of_eq (by kernel_rfl)⟩, ⟨_, rfl, eqvB_of_eq (by kernel_rfl)⟩, ⟨_, rfl, eqvB_of_eq (by kernel_rfl)⟩, ⟨_, rfl, eqvB_of_eq (by kernel_rfl)⟩, ⟨_, rfl, ⟨rfl, Nat.mul_one _, eqvS_of_eq (by kernel_rfl)⟩⟩, trivial⟩
end Go.Proofs.Ytghcdkpgcanpgaa

/- Watching: Step, the program's. No condition but the lists' lengths. Printed by mk_q13.py. -/
namespace Go.Anv
open Go
/-- A step of two wholes that were handed in. -/
def Sc.made (z : Sc) : Sc := { z with c := z.c.proper, d := z.d.proper, e := z.d }
end Go.Anv
namespace Go.Proofs.Ytghcdkpgcanpgaa
open Go Go.Anv
set_option maxHeartbeats 8000000 in
set_option maxRecDepth 100000 in
theorem step_spec (z : Sc) (ok : z.Ok) : Does TB 65 [.agg z.b, .agg z.a, .agg z.world, .agg z.r.segs] z.lists (fun v h' => v = .s (.int .i64 z.made.step) ∧ h' = z.lists) := by
  refine fnX_does TB Try.func65 rfl (by decide) (fun O on hO => ?_)
  have ok' : z.made.Ok := ⟨ok.nr, ok.ni, ok.no, ok.mr, ok.mi, ok.mo, ok.cr, ok.ci, ok.co, ok.dr, ok.di, ok.do_, ok.size⟩
  repeat (refine need_intro (by first | exact fun h => h | exact nt | exact an2 | exact an3 | rfl | (simp; done) | fail) ?_)
  refine draw_but [11] on rfl (fun _ _ h => h) ?_
  refine (proper_spec z.c _).mono ?_
  rintro _ _ ⟨rfl, rfl⟩
  repeat (refine need_intro (by first | exact fun h => h | exact nt | exact an2 | exact an3 | rfl | (simp; done) | fail) ?_)
  refine (proper_spec z.d _).mono ?_
  rintro _ _ ⟨rfl, rfl⟩
  repeat (refine need_intro (by first | exact fun h => h | exact nt | exact an2 | exact an3 | rfl | (simp; done) | fail) ?_)
  refine Does.atn (rules_spec z.made) [0, 1, 2, 3, 4, 5, 6, 11] rfl ⟨rfl, rfl, rfl, rfl, rfl, rfl, rfl, rfl, trivial⟩ (by decide) ?_ ?_
  · rintro v h' ⟨c, _, _, rfl⟩
    exact ⟨.inr (.inr rfl), .inr (.inr rfl), .inr (.inr rfl), .inr (.inr rfl), .inr (.inr rfl), .inr (.inr rfl), .inr (.inr rfl), .inr (.inr rfl), .inl rfl, .inl rfl, .inl rfl, .inl rfl, .inl rfl, .inl rfl, .inl rfl, .inl rfl, .inl rfl, .inl rfl, .inl rfl, .inl rfl, .inl rfl, trivial⟩
  rintro v h' ⟨c, hc, rfl, rfl⟩
  have fin : ∀ {x : Int} {J : List Blk}, z.made.step = x → Anv.Ends 7 (fun v h' => v = .s (.int .i64 z.made.step) ∧ h' = z.lists) (.s (.int .i64 x)) (z.lists ++ J) := by
    rintro x J rfl
    exact Ends.ro rfl ⟨rfl, rfl⟩ rfl
  refine loop_times on 21 ?_
  refine ⟨?_⟩
  repeat (refine need_intro (by first | exact ⟨by decide, by decide⟩ | exact fun h => h | exact nt | exact an2 | exact an3 | rfl | (simp; done) | fail) ?_)
  refine Does.atc (rule1_spec z.made) [0, 1, 2, 3, 4, 5, 6, 11, 12, 13, 14, 15, 16, 17] rfl ⟨rfl, rfl, rfl, rfl, rfl, rfl, rfl, rfl, rfl, rfl, rfl, rfl, rfl, rfl, trivial⟩ (by decide) ?_
  refine ifB_intro (fun h => fin ?_) (fun r1 => ?_)
  · rw [Bool.not_eq_true'] at h
    unfold Sc.step
    rw [if_neg (by rw [h]; decide)]
    decide
  rw [Bool.not_eq_false'] at r1
  have hnr : z.made.t.nr = z.made.s.nr := by
    unfold Sc.rule1 at r1
    rw [Bool.and_eq_true] at r1
    exact eq_of_beq r1.1
  refine ⟨?_⟩
  repeat (refine need_intro (by first | exact ⟨by decide, by decide⟩ | exact fun h => h | exact nt | exact an2 | exact an3 | rfl | (simp; done) | fail) ?_)
  refine Does.atc (rule2_spec z.made) [0, 1, 2, 3, 4, 5, 6, 11, 12, 13, 14, 15, 16, 17] rfl ⟨rfl, rfl, rfl, rfl, rfl, rfl, rfl, rfl, rfl, rfl, rfl, rfl, rfl, rfl, trivial⟩ (by decide) ?_
  refine ifB_intro (fun h => fin ?_) (fun r2 => ?_)
  · rw [Bool.not_eq_true'] at h
    unfold Sc.step
    rw [if_pos r1]
    simp only [firstNot, h, Bool.false_eq_true, if_false]
    decide
  rw [Bool.not_eq_false'] at r2
  refine ⟨?_⟩
  repeat (refine need_intro (by first | exact ⟨by decide, by decide⟩ | exact fun h => h | exact nt | exact an2 | exact an3 | rfl | (simp; done) | fail) ?_)
  refine Does.atc (rule3_spec z.made) [0, 1, 2, 3, 4, 5, 6, 11, 12, 13, 14, 15, 16, 17] rfl ⟨rfl, rfl, rfl, rfl, rfl, rfl, rfl, rfl, rfl, rfl, rfl, rfl, rfl, rfl, trivial⟩ (by decide) ?_
  refine ifB_intro (fun h => fin ?_) (fun r3 => ?_)
  · rw [Bool.not_eq_true'] at h
    unfold Sc.step
    rw [if_pos r1]
    simp only [firstNot, h, r2, if_true, Bool.false_eq_true, if_false]
    decide
  rw [Bool.not_eq_false'] at r3
  refine ⟨?_⟩
  repeat (refine need_intro (by first | exact ⟨by decide, by decide⟩ | exact fun h => h | exact nt | exact an2 | exact an3 | rfl | (simp; done) | fail) ?_)
  refine Does.atc (rule4_spec z.made) [0, 1, 2, 3, 4, 5, 6, 11] rfl ⟨rfl, rfl, rfl, rfl, rfl, rfl, rfl, rfl, trivial⟩ (by decide) ?_
  refine ifB_intro (fun h => fin ?_) (fun r4 => ?_)
  · rw [Bool.not_eq_true'] at h
    unfold Sc.step
    rw [if_pos r1]
    simp only [firstNot, h, r2, r3, if_true, Bool.false_eq_true, if_false]
    decide
  rw [Bool.not_eq_false'] at r4
  refine ⟨?_⟩
  repeat (refine need_intro (by first | exact ⟨by decide, by decide⟩ | exact fun h => h | exact nt | exact an2 | exact an3 | rfl | (simp; done) | fail) ?_)
  refine Does.atc (rule5_spec z.made ok' hnr) [0, 1, 2, 3, 4, 5, 6, 11, 12, 13, 14, 15, 16, 17] rfl ⟨rfl, rfl, rfl, rfl, rfl, rfl, rfl, rfl, rfl, rfl, rfl, rfl, rfl, rfl, trivial⟩ (by decide) ?_
  refine ifB_intro (fun h => fin ?_) (fun r5 => ?_)
  · rw [Bool.not_eq_true'] at h
    unfold Sc.step
    rw [if_pos r1]
    simp only [firstNot, h, r2, r3, r4, if_true, Bool.false_eq_true, if_false]
    decide
  rw [Bool.not_eq_false'] at r5
  refine ⟨?_⟩
  repeat (refine need_intro (by first | exact ⟨by decide, by decide⟩ | exact fun h => h | exact nt | exact an2 | exact an3 | rfl | (simp; done) | fail) ?_)
  refine Does.atc (rule6_spec z.made ok' hnr) [0, 1, 2, 3, 4, 5, 6, 11] rfl ⟨rfl, rfl, rfl, rfl, rfl, rfl, rfl, rfl, trivial⟩ (by decide) ?_
  refine ifB_intro (fun h => fin ?_) (fun r6 => ?_)
  · rw [Bool.not_eq_true'] at h
    unfold Sc.step
    rw [if_pos r1]
    simp only [firstNot, h, r2, r3, r4, r5, if_true, Bool.false_eq_true, if_false]
    decide
  rw [Bool.not_eq_false'] at r6
  refine ⟨?_⟩
  repeat (refine need_intro (by first | exact ⟨by decide, by decide⟩ | exact fun h => h | exact nt | exact an2 | exact an3 | rfl | (simp; done) | fail) ?_)
  refine Does.atc (rule7_spec z.made) [0, 1, 2, 3, 4, 5, 6, 11, 12, 13, 14, 15, 16, 17] rfl ⟨rfl, rfl, rfl, rfl, rfl, rfl, rfl, rfl, rfl, rfl, rfl, rfl, rfl, rfl, trivial⟩ (by decide) ?_
  refine ifB_intro (fun h => fin ?_) (fun r7 => ?_)
  · rw [Bool.not_eq_true'] at h
    unfold Sc.step
    rw [if_pos r1]
    simp only [firstNot, h, r2, r3, r4, r5, r6, if_true, Bool.false_eq_true, if_false]
    decide
  rw [Bool.not_eq_false'] at r7
  refine ⟨?_⟩
  repeat (refine need_intro (by first | exact ⟨by decide, by decide⟩ | exact fun h => h | exact nt | exact an2 | exact an3 | rfl | (simp; done) | fail) ?_)
  refine Does.atc (rule8_spec z.made) [0, 1, 2, 3, 4, 5, 6, 11] rfl ⟨rfl, rfl, rfl, rfl, rfl, rfl, rfl, rfl, trivial⟩ (by decide) ?_
  refine ifB_intro (fun h => fin ?_) (fun r8 => ?_)
  · rw [Bool.not_eq_true'] at h
    unfold Sc.step
    rw [if_pos r1]
    simp only [firstNot, h, r2, r3, r4, r5, r6, r7, if_true, Bool.false_eq_true, if_false]
    decide
  rw [Bool.not_eq_false'] at r8
  refine ⟨?_⟩
  repeat (refine need_intro (by first | exact ⟨by decide, by decide⟩ | exact fun h => h | exact nt | exact an2 | exact an3 | rfl | (simp; done) | fail) ?_)
  refine Does.atc (rule9_spec z.made) [0, 1, 2, 3, 4, 5, 6, 11] rfl ⟨rfl, rfl, rfl, rfl, rfl, rfl, rfl, rfl, trivial⟩ (by decide) ?_
  refine ifB_intro (fun h => fin ?_) (fun r9 => ?_)
  · rw [Bool.not_eq_true'] at h
    unfold Sc.step
    rw [if_pos r1]
    simp only [firstNot, h, r2, r3, r4, r5, r6, r7, r8, if_true, Bool.false_eq_true, if_false]
    decide
  rw [Bool.not_eq_false'] at r9
  refine ⟨?_⟩
  repeat (refine need_intro (by first | exact ⟨by decide, by decide⟩ | exact fun h => h | exact nt | exact an2 | exact an3 | rfl | (simp; done) | fail) ?_)
  refine Does.atc (rule10_spec z.made) [0, 1, 2, 3, 4, 5, 6, 11] rfl ⟨rfl, rfl, rfl, rfl, rfl, rfl, rfl, rfl, trivial⟩ (by decide) ?_
  refine ifB_intro (fun h => fin ?_) (fun r10 => ?_)
  · rw [Bool.not_eq_true'] at h
    unfold Sc.step
    rw [if_pos r1]
    simp only [firstNot, h, r2, r3, r4, r5, r6, r7, r8, r9, if_true, Bool.false_eq_true, if_false]
    decide
  rw [Bool.not_eq_false'] at r10
  refine ⟨?_⟩
  repeat (refine need_intro (by first | exact ⟨by decide, by decide⟩ | exact fun h => h | exact nt | exact an2 | exact an3 | rfl | (simp; done) | fail) ?_)
  refine Does.atc (rule11_spec z.made) [0, 1, 2, 3, 4, 5, 6, 11, 18, 19, 20, 21, 22, 23] rfl ⟨rfl, rfl, rfl, rfl, rfl, rfl, rfl, rfl, rfl, rfl, rfl, rfl, rfl, rfl, trivial⟩ (by decide) ?_
  refine ifB_intro (fun h => fin ?_) (fun r11 => ?_)
  · rw [Bool.not_eq_true'] at h
    unfold Sc.step
    rw [if_pos r1]
    simp only [firstNot, h, r2, r3, r4, r5, r6, r7, r8, r9, r10, if_true, Bool.false_eq_true, if_false]
    decide
  rw [Bool.not_eq_false'] at r11
  refine ⟨?_⟩
  repeat (refine need_intro (by first | exact ⟨by decide, by decide⟩ | exact fun h => h | exact nt | exact an2 | exact an3 | rfl | (simp; done) | fail) ?_)
  refine Does.atc (rule12_spec z.made) [0, 1, 2, 3, 4, 5, 6, 11, 18, 19, 20, 21, 22, 23] rfl ⟨rfl, rfl, rfl, rfl, rfl, rfl, rfl, rfl, rfl, rfl, rfl, rfl, rfl, rfl, trivial⟩ (by decide) ?_
  refine ifB_intro (fun h => fin ?_) (fun r12 => ?_)
  · rw [Bool.not_eq_true'] at h
    unfold Sc.step
    rw [if_pos r1]
    simp only [firstNot, h, r2, r3, r4, r5, r6, r7, r8, r9, r10, r11, if_true, Bool.false_eq_true, if_false]
    decide
  rw [Bool.not_eq_false'] at r12
  refine ⟨?_⟩
  repeat (refine need_intro (by first | exact ⟨by decide, by decide⟩ | exact fun h => h | exact nt | exact an2 | exact an3 | rfl | (simp; done) | fail) ?_)
  refine Does.atc (rule13_spec z.made) [0, 1, 2, 3, 4, 5, 6, 11, 18, 19, 20, 21, 22, 23] rfl ⟨rfl, rfl, rfl, rfl, rfl, rfl, rfl, rfl, rfl, rfl, rfl, rfl, rfl, rfl, trivial⟩ (by decide) ?_
  refine ifB_intro (fun h => fin ?_) (fun r13 => ?_)
  · rw [Bool.not_eq_true'] at h
    unfold Sc.step
    rw [if_pos r1]
    simp only [firstNot, h, r2, r3, r4, r5, r6, r7, r8, r9, r10, r11, r12, if_true, Bool.false_eq_true, if_false]
    decide
  rw [Bool.not_eq_false'] at r13
  refine ⟨?_⟩
  repeat (refine need_intro (by first | exact ⟨by decide, by decide⟩ | exact fun h => h | exact nt | exact an2 | exact an3 | rfl | (simp; done) | fail) ?_)
  refine Does.atc (rule14_spec z.made) [0, 1, 2, 3, 4, 5, 6, 11, 18, 19, 20, 21, 22, 23] rfl ⟨rfl, rfl, rfl, rfl, rfl, rfl, rfl, rfl, rfl, rfl, rfl, rfl, rfl, rfl, trivial⟩ (by decide) ?_
  refine ifB_intro (fun h => fin ?_) (fun r14 => ?_)
  · rw [Bool.not_eq_true'] at h
    unfold Sc.step
    rw [if_pos r1]
    simp only [firstNot, h, r2, r3, r4, r5, r6, r7, r8, r9, r10, r11, r12, r13, if_true, Bool.false_eq_true, if_false]
    decide
  rw [Bool.not_eq_false'] at r14
  refine ⟨?_⟩
  repeat (refine need_intro (by first | exact ⟨by decide, by decide⟩ | exact fun h => h | exact nt | exact an2 | exact an3 | rfl | (simp; done) | fail) ?_)
  refine Does.atc (rule15_spec z.made) [0, 1, 2, 3, 4, 5, 6, 11, 18, 19, 20, 21, 22, 23] rfl ⟨rfl, rfl, rfl, rfl, rfl, rfl, rfl, rfl, rfl, rfl, rfl, rfl, rfl, rfl, trivial⟩ (by decide) ?_
  refine ifB_intro (fun h => fin ?_) (fun r15 => ?_)
  · rw [Bool.not_eq_true'] at h
    unfold Sc.step
    rw [if_pos r1]
    simp only [firstNot, h, r2, r3, r4, r5, r6, r7, r8, r9, r10, r11, r12, r13, r14, if_true, Bool.false_eq_true, if_false]
    decide
  rw [Bool.not_eq_false'] at r15
  refine ⟨?_⟩
  repeat (refine need_intro (by first | exact ⟨by decide, by decide⟩ | exact fun h => h | exact nt | exact an2 | exact an3 | rfl | (simp; done) | fail) ?_)
  refine Does.atc (rule16_spec z.made) [0, 1, 2, 3, 4, 5, 6, 11, 18, 19, 20, 21, 22, 23] rfl ⟨rfl, rfl, rfl, rfl, rfl, rfl, rfl, rfl, rfl, rfl, rfl, rfl, rfl, rfl, trivial⟩ (by decide) ?_
  refine ifB_intro (fun h => fin ?_) (fun r16 => ?_)
  · rw [Bool.not_eq_true'] at h
    unfold Sc.step
    rw [if_pos r1]
    simp only [firstNot, h, r2, r3, r4, r5, r6, r7, r8, r9, r10, r11, r12, r13, r14, r15, if_true, Bool.false_eq_true, if_false]
    decide
  rw [Bool.not_eq_false'] at r16
  refine ⟨?_⟩
  repeat (refine need_intro (by first | exact ⟨by decide, by decide⟩ | exact fun h => h | exact nt | exact an2 | exact an3 | rfl | (simp; done) | fail) ?_)
  refine Does.atc (rule17_spec z.made ok') [0, 1, 2, 3, 4, 5, 6, 11] rfl ⟨rfl, rfl, rfl, rfl, rfl, rfl, rfl, rfl, trivial⟩ (by decide) ?_
  refine ifB_intro (fun h => fin ?_) (fun r17 => ?_)
  · rw [Bool.not_eq_true'] at h
    unfold Sc.step
    rw [if_pos r1]
    simp only [firstNot, h, r2, r3, r4, r5, r6, r7, r8, r9, r10, r11, r12, r13, r14, r15, r16, if_true, Bool.false_eq_true, if_false]
    decide
  rw [Bool.not_eq_false'] at r17
  refine ⟨?_⟩
  repeat (refine need_intro (by first | exact ⟨by decide, by decide⟩ | exact fun h => h | exact nt | exact an2 | exact an3 | rfl | (simp; done) | fail) ?_)
  refine Does.atc (rule18_spec z.made) [0, 1, 2, 3, 4, 5, 6, 11, 18, 19, 20, 21, 22, 23] rfl ⟨rfl, rfl, rfl, rfl, rfl, rfl, rfl, rfl, rfl, rfl, rfl, rfl, rfl, rfl, trivial⟩ (by decide) ?_
  refine ifB_intro (fun h => fin ?_) (fun r18 => ?_)
  · rw [Bool.not_eq_true'] at h
    unfold Sc.step
    rw [if_pos r1]
    simp only [firstNot, h, r2, r3, r4, r5, r6, r7, r8, r9, r10, r11, r12, r13, r14, r15, r16, r17, if_true, Bool.false_eq_true, if_false]
    decide
  rw [Bool.not_eq_false'] at r18
  refine ⟨?_⟩
  repeat (refine need_intro (by first | exact ⟨by decide, by decide⟩ | exact fun h => h | exact nt | exact an2 | exact an3 | rfl | (simp; done) | fail) ?_)
  refine Does.atc (rule19_spec z.made ok') [0, 1, 2, 3, 4, 5, 6, 11, 18, 19, 20, 21, 22, 23] rfl ⟨rfl, rfl, rfl, rfl, rfl, rfl, rfl, rfl, rfl, rfl, rfl, rfl, rfl, rfl, trivial⟩ (by decide) ?_
  refine ifB_intro (fun h => fin ?_) (fun r19 => ?_)
  · rw [Bool.not_eq_true'] at h
    unfold Sc.step
    rw [if_pos r1]
    simp only [firstNot, h, r2, r3, r4, r5, r6, r7, r8, r9, r10, r11, r12, r13, r14, r15, r16, r17, r18, if_true, Bool.false_eq_true, if_false]
    decide
  rw [Bool.not_eq_false'] at r19
  refine ⟨?_⟩
  repeat (refine need_intro (by first | exact ⟨by decide, by decide⟩ | exact fun h => h | exact nt | exact an2 | exact an3 | rfl | (simp; done) | fail) ?_)
  refine Does.atc (rule20_spec z.made) [0, 1, 2, 3, 4, 5, 6, 11, 18, 19, 20, 21, 22, 23] rfl ⟨rfl, rfl, rfl, rfl, rfl, rfl, rfl, rfl, rfl, rfl, rfl, rfl, rfl, rfl, trivial⟩ (by decide) ?_
  refine ifB_intro (fun h => fin ?_) (fun r20 => ?_)
  · rw [Bool.not_eq_true'] at h
    unfold Sc.step
    rw [if_pos r1]
    simp only [firstNot, h, r2, r3, r4, r5, r6, r7, r8, r9, r10, r11, r12, r13, r14, r15, r16, r17, r18, r19, if_true, Bool.false_eq_true, if_false]
    decide
  rw [Bool.not_eq_false'] at r20
  refine ⟨?_⟩
  refine fin ?_
  unfold Sc.step
  rw [if_pos r1]
  simp only [firstNot, r2, r3, r4, r5, r6, r7, r8, r9, r10, r11, r12, r13, r14, r15, r16, r17, r18, r19, r20, if_true]
end Go.Proofs.Ytghcdkpgcanpgaa

/- A nil slice stands for one that has room for nothing: in what is handed in (Does.ghA), in what comes back (Does.ghR). -/
namespace Go.Anv
open Go
/-- The first nil slice becomes one of block b. -/
def gh1 (b : Nat) : List Seg → List Seg
  | [] => []
  | .one .nilslice :: r => .one (.gs b 0 0 0) :: r
  | x :: r => x :: gh1 b r
def ghE (b : Nat) : EV → EV
  | .agg cs => .agg (gh1 b cs)
  | x => x
def ghT (b : Nat) : Nat → List EV → List EV
  | _, [] => []
  | 0, x :: r => ghE b x :: r
  | i + 1, x :: r => x :: ghT b i r
theorem gh_nil {E : Emb} {v : Value} (h : denV E .nilslice v) : denV (E.push ⟨0, 0, true⟩) (.gs E.n 0 0 0) v := by
  simp only [denV] at h ⊢
  rw [Emb.push_new]
  exact ⟨by simp [Emb.push], fun _ => ⟨trivial, trivial⟩, by simpa using h⟩
theorem gh1_den {E : Emb} (hm : E.le (E.push ⟨0, 0, true⟩)) : ∀ (cs : List Seg) (l : List Value), denS E cs l → denS (E.push ⟨0, 0, true⟩) (gh1 E.n cs) l
  | [], l, h => h
  | .one v :: r, l, h => by
    obtain ⟨x, l', rfl, h1, h2⟩ := h
    by_cases e : v = .nilslice
    · subst e
      exact ⟨x, l', rfl, gh_nil h1, denS_mono hm _ _ h2⟩
    · have : gh1 E.n (.one v :: r) = .one v :: gh1 E.n r := by
        cases v <;> first | rfl | exact absurd rfl e
      rw [this]
      exact ⟨x, l', rfl, denV_mono hm _ _ h1, gh1_den hm r l' h2⟩
  | .ints k n f :: r, l, h => by
    obtain ⟨l', rfl, h2⟩ := h
    exact ⟨l', rfl, gh1_den hm r l' h2⟩
theorem ghE_den {E : Emb} (hm : E.le (E.push ⟨0, 0, true⟩)) (e : EV) (x : Value) (h : denE E e x) : denE (E.push ⟨0, 0, true⟩) (ghE E.n e) x := by
  cases e with
  | agg cs =>
    simp only [ghE, denE] at h ⊢
    obtain ⟨l, rfl, h1⟩ := h
    exact ⟨l, rfl, gh1_den hm _ _ h1⟩
  | _ => exact denE_mono hm _ _ h
theorem ghT_den {E : Emb} (hm : E.le (E.push ⟨0, 0, true⟩)) : ∀ (i : Nat) (es : List EV) (l : List Value), denT E es l → denT (E.push ⟨0, 0, true⟩) (ghT E.n i es) l
  | _, [], l, h => by
    simp only [ghT, denT] at h ⊢
    exact h
  | 0, e :: r, l, h => by
    simp only [ghT, denT] at h ⊢
    obtain ⟨v, l', rfl, h1, h2⟩ := h
    exact ⟨v, l', rfl, ghE_den hm _ _ h1, denT_mono hm _ _ h2⟩
  | i + 1, e :: r, l, h => by
    simp only [ghT, denT] at h ⊢
    obtain ⟨v, l', rfl, h1, h2⟩ := h
    exact ⟨v, l', rfl, denE_mono hm _ _ h1, ghT_den hm i _ _ h2⟩
/-- An argument's first nil slice: one that has room for nothing. -/
theorem Does.ghA {T : Tbl} {f : FuncId} {args : List EV} {h : List Blk} {Q : EV → List Blk → Prop} (k : IntKind) (g : Nat → Int) (i : Nat) (d : Does T f (ghT h.length i args) (h ++ [.cells true [.ints k 0 g] 0]) Q) : Does T f args h Q := by
  have key : ∀ {E : Emb} {w : World} {vs : List Value}, Sim E h w → denT E args vs → ∃ E', Sim E' (h ++ [.cells true [.ints k 0 g] 0]) w ∧ Since E h w E' (h ++ [.cells true [.ints k 0 g] 0]) w ∧ denT E' (ghT h.length i args) vs := fun {E w vs} S ha => by
    obtain ⟨S', N'⟩ := push_nil S (cs := [.ints k 0 g]) ⟨[], rfl, rfl⟩
    refine ⟨_, S', N', ?_⟩
    rw [← S.n]
    exact ghT_den (N'.le S.n S'.n) _ _ _ ha
  have back : ∀ {E E' : Emb} {w w' : World} {e : Ending}, E.n = h.length → E'.n = (h ++ [Blk.cells true [.ints k 0 g] 0]).length → Since E h w E' (h ++ [.cells true [.ints k 0 g] 0]) w → Post E' (h ++ [.cells true [.ints k 0 g] 0]) w Q e w' → Post E h w Q e w' := fun {E E' w w' e} n n' N p => by
    obtain ⟨v, x, h', E'', h1, h2, h3, h4, h5⟩ := p
    exact ⟨v, x, h', E'', h1, h2, h3, N.trans n n' h4, h5⟩
  refine ⟨?_⟩
  rcases d.go with ⟨h1, h2⟩ | h1
  · refine .inl ⟨h1, fun E w vs S ha => ?_⟩
    obtain ⟨E', S', N', ha'⟩ := key S ha
    exact (h2 E' w vs S' ha').mono fun e w' p => back S.n S'.n N' p
  · refine .inr fun E w vs S ha => ?_
    obtain ⟨E', S', N', ha'⟩ := key S ha
    obtain ⟨u, w', h2, h3⟩ := h1 E' w vs S' ha'
    exact ⟨u, w', h2, back S.n S'.n N' h3⟩
/-- A result's first nil slice: one that has room for nothing. -/
theorem Does.ghR {T : Tbl} {f : FuncId} {args : List EV} {h : List Blk} {X : EV} {H : List Blk} (k : IntKind) (g : Nat → Int) (d : Does T f args h (fun v h' => v = X ∧ h' = H)) :
    Does T f args h (fun v h' => v = ghE H.length X ∧ h' = H ++ [.cells true [.ints k 0 g] 0]) := by
  have back : ∀ {E : Emb} {w w' : World} {e : Ending}, Sim E h w → Post E h w (fun v h' => v = X ∧ h' = H) e w' → Post E h w (fun v h' => v = ghE H.length X ∧ h' = H ++ [.cells true [.ints k 0 g] 0]) e w' := fun {E w w' e} S p => by
    obtain ⟨v, x, h', E'', h1, h2, h3, h4, rfl, rfl⟩ := p
    obtain ⟨S', N'⟩ := push_nil h3 (cs := [.ints k 0 g]) ⟨[], rfl, rfl⟩
    refine ⟨v, _, _, _, h1, ?_, S', h4.trans S.n h3.n N', rfl, rfl⟩
    rw [← h3.n]
    exact ghE_den (N'.le h3.n S'.n) _ _ h2
  refine ⟨?_⟩
  rcases d.go with ⟨h1, h2⟩ | h1
  · exact .inl ⟨h1, fun E w vs S ha => (h2 E w vs S ha).mono fun e w' p => back S p⟩
  · refine .inr fun E w vs S ha => ?_
    obtain ⟨u, w', h2, h3⟩ := h1 E w vs S ha
    exact ⟨u, w', h2, back S h3⟩
/-- A heap that says more. -/
theorem Does.heq {T : Tbl} {f : FuncId} {args : List EV} {h b : List Blk} {Q : EV → List Blk → Prop} (e : eqvH h b) (d : Does T f args b Q) : Does T f args h Q := by
  have back : ∀ {E : Emb} {w w' : World} {x : Ending}, Sim E h w → Post E b w Q x w' → Post E h w Q x w' := fun {E w w' x} S p => by
    obtain ⟨v, y, h', E'', h1, h2, h3, h4, h5⟩ := p
    exact ⟨v, y, h', E'', h1, h2, h3, ((Since.refl E h w).eqv e).trans S.n (S.eqv e).n h4, h5⟩
  refine ⟨?_⟩
  rcases d.go with ⟨h1, h2⟩ | h1
  · exact .inl ⟨h1, fun E w vs S ha => (h2 E w vs (S.eqv e) ha).mono fun x w' p => back S p⟩
  · refine .inr fun E w vs S ha => ?_
    obtain ⟨u, w', h2, h3⟩ := h1 E w vs (S.eqv e) ha
    exact ⟨u, w', h2, back S h3⟩
end Go.Anv

/- Watching: what the laws try first, whatever is handed in. -/
namespace Go.Anv
open Go
def stillC : CpuV := ⟨2147483648#64, fun _ => 0#64, 0, false, 8589934592#64, 0#64, 0#64, 0#64, 0#64, 0#64, 0#64, 0#64, 0#64, 0#64, 0#64, 0#64, fun _ => 0#8, fun _ => 0#64, false, 0#64, 0⟩
def stillB : BusV := ⟨8, 0#32, 9#64, 0#64, false, false, 0#8, 0#8, 0#8, 0#8, false, 0, 0, 0, 0⟩
def stillL : Lists := ⟨true, 0, fun _ => 0#8, true, 0, fun _ => 0#8, true, 0, fun _ => 0#8⟩
def bC : CpuV := { stillC with cfg := fun j => if j = 0 then 31#8 else 0#8, addr := fun j => if j = 0 then 18014398509481983#64 else 0#64 }
def aC : CpuV := { bC with pc := 2147483652#64, mcycle := 1#64, minstret := 1#64, x := fun j => if j = 5 then 7#64 else 0#64 }
def aD : CpuV := { aC with x := fun j => if j = 6 then 1#64 else if j = 5 then 7#64 else 0#64 }
def oneR : RowV := ⟨1, 1, 0, 2147483648#64, 19#32, 4, 0#64, 0#64, 5, 7#64, 0, 0#64, 0, 0#64, 2147483652#64, 0⟩
def stillF : Lists := ⟨false, 0, fun _ => 0#8, false, 0, fun _ => 0#8, false, 0, fun _ => 0#8⟩
def sixL : Lists := { stillL with ram := fun j => if j = 3 then 1#8 else 0#8 }
def zeroC : CpuV := { stillC with pc := 0#64, mstatus := 0#64 }
def twoR : RowV := ⟨2, 0, 0, 0#64, 0#32, 0, 0#64, 0#64, 0, 0#64, 0, 0#64, 0, 0#64, 0#64, 0⟩
def oneT : TrV := ⟨1, fun _ => twoR, zeroC, 0, 0, 0, fun _ => 0#8⟩
theorem twoR_ok : twoR.Ok := by
  constructor <;> (show (-9223372036854775808 : Int) ≤ 0 ∧ (0 : Int) ≤ 9223372036854775807) <;> decide
theorem one_low : lowF oneT.seen 6 1 = (1, 0) := by decide +kernel
def firstZ (d : CpuV) (k : Lists) : Sc := ⟨bC, d, d, stillB, stillB, stillL, k, false, false, false, 0, true, 0, fun _ => 0#8, oneR, 8, 0, 0, 8, 0, 0, 0⟩
end Go.Anv
namespace Go.Proofs.Ytghcdkpgcanpgaa
open Go Go.Anv
set_option maxRecDepth 100000 in
theorem still_spec : Does TB 64 [] [] (fun v h' => v = .agg (wsegs stillC stillB (.gs 0 0 8 8) .nilslice .nilslice) ∧ h' = [bblk true 8 (fun _ => 0#8) 0]) := by
  refine fnX_does TB Try.func64 rfl (by decide) (fun O on hO => ?_)
  repeat (refine need_intro (by first | exact an2 | exact an3 | exact fun h => h | exact nt | exact an2 | exact an3 | rfl | (simp; done) | fail) ?_)
  refine draw_but [0] on rfl (fun _ _ h => h) ?_
  repeat (refine need_intro (by first | exact an2 | exact an3 | (exact ⟨by decide, by decide, by decide, by decide⟩) | exact fun h => h | exact nt | exact an2 | exact an3 | rfl | (simp; done) | fail) ?_)
  refine ⟨_, _, [2], ⟨rfl, rfl⟩, by decide, trivial, ?_, ⟨⟨_, rfl, ⟨rfl, rfl, ⟨⟨rfl, rfl, fun j _ => rfl⟩, trivial⟩⟩⟩, trivial⟩⟩
  show eqvS _ _
  repeat' (first | exact eqvS_nil | refine eqvS_same ?_ | refine eqvS_gs ⟨rfl, rfl, rfl, rfl⟩ ?_ | refine eqvS_ints (fun j _ => rfl) ?_)
theorem still_g : Does TB 64 [] [] (fun v h' => v = .agg (wsegs stillC stillB (.gs 0 0 8 8) (.gs 1 0 0 0) (.gs 2 0 0 0)) ∧ h' = stillL.blks stillB) :=
  Does.ghR .u8 (bfun fun _ => 0#8) (Does.ghR .u8 (bfun fun _ => 0#8) still_spec)
theorem first_0 : (firstZ aC stillL).made.step = 0 := by decide +kernel
theorem first_4 : (firstZ aD stillL).made.step = 4 := by decide +kernel
theorem first_6 : (firstZ aC sixL).made.step = 6 := by decide +kernel
theorem firstZ_ok (d : CpuV) (k : Lists) : (firstZ d k).Ok := by
  refine ⟨?_, ?_, ?_, ?_, ?_, ?_, ?_, ?_, ?_, ?_, ?_, ?_, ?_⟩ <;> first | exact Nat.le_refl _ | exact Nat.zero_le _ | (show 8 ≤ 140737488355328; decide) | (show (-9223372036854775808 : Int) ≤ 0 ∧ (0 : Int) ≤ 9223372036854775807; decide)
theorem agr_aa : agreeS aC aC stillB stillB stillF stillF = true := by decide +kernel
theorem agr_ab : agreeS aC bC stillB stillB stillL stillL = false := by decide +kernel
theorem agr_aa_spec : Does TB 25 [.agg (wsegs aC stillB (.gs 0 0 8 8) (.gs 1 0 0 0) (.gs 2 0 0 0)), .agg (wsegs aC stillB (.gs 3 0 8 8) (.gs 4 0 0 0) (.gs 5 0 0 0))] (stillF.blks stillB ++ stillF.blks stillB) (fun v h' => v = .s (.bool true) ∧ h' = stillF.blks stillB ++ stillF.blks stillB) := by
  have e := agree_spec aC aC stillB stillB stillF stillF 8 0 0 8 0 0 (by decide)
  rw [agr_aa] at e
  exact e
theorem agr_ab_spec : Does TB 25 [.agg (wsegs aC stillB (.gs 0 0 8 8) (.gs 1 0 0 0) (.gs 2 0 0 0)), .agg (wsegs bC stillB (.gs 3 0 8 8) (.gs 4 0 0 0) (.gs 5 0 0 0))] (stillL.blks stillB ++ stillL.blks stillB) (fun v h' => v = .s (.bool false) ∧ h' = stillL.blks stillB ++ stillL.blks stillB) := by
  have e := agree_spec aC bC stillB stillB stillL stillL 8 0 0 8 0 0 (by decide)
  rw [agr_ab] at e
  exact e
/-- A Step of the first ones, as it is called. -/
theorem step_k0 (d : CpuV) (k : Lists) (n : Int) (hn : (firstZ d k).made.step = n) {a1 a2 a4 : EV} {B C R : Blk} {K : EV → List Blk → Prop}
    (h1 : eqvE a1 (.agg (wsegs bC stillB (.gs 0 0 8 8) (.gs 1 0 0 0) (.gs 2 0 0 0)))) (h2 : eqvE a2 (.agg (wsegs d stillB (.gs 4 0 8 8) (.gs 5 0 0 0) (.gs 6 0 0 0)))) (h4 : eqvE a4 (.agg oneR.segs))
    (hk : K (.s (.int .i64 n)) (stillL.blks stillB ++ [B] ++ k.blks stillB ++ [C, R, .cells true [.ints .u8 0 (bfun fun _ => 0#8)] 0])) :
    Does TB 65 [a1, a2, .agg [.one (.bool false), .one (.bool false), .one (.bool false), .one .nilslice], a4] (stillL.blks stillB ++ [B] ++ k.blks stillB ++ [C, R]) K := by
  have e := step_spec (firstZ d k) (firstZ_ok d k)
  rw [hn] at e
  refine Does.args (b := [.agg (wsegs bC stillB (.gs 0 0 8 8) (.gs 1 0 0 0) (.gs 2 0 0 0)), .agg (wsegs d stillB (.gs 4 0 8 8) (.gs 5 0 0 0) (.gs 6 0 0 0)), .agg [.one (.bool false), .one (.bool false), .one (.bool false), .one .nilslice], .agg oneR.segs]) ⟨h1, h2, eqvE_refl _, h4, trivial⟩ ?_
  refine Does.ghA .u8 (bfun fun _ => 0#8) 2 ?_
  refine Does.atc e [0, 1, 2, 4, 5, 6, 9] rfl ⟨rfl, rfl, rfl, rfl, rfl, rfl, rfl, trivial⟩ (by decide) ?_
  exact hk
/-- A Step of the first ones, as it is called. -/
theorem step_k1 (d : CpuV) (k : Lists) (n : Int) (hn : (firstZ d k).made.step = n) {a1 a2 a4 : EV} {B C R : Blk} {G0 : Blk} {K : EV → List Blk → Prop}
    (h1 : eqvE a1 (.agg (wsegs bC stillB (.gs 0 0 8 8) (.gs 1 0 0 0) (.gs 2 0 0 0)))) (h2 : eqvE a2 (.agg (wsegs d stillB (.gs 4 0 8 8) (.gs 5 0 0 0) (.gs 6 0 0 0)))) (h4 : eqvE a4 (.agg oneR.segs))
    (hk : K (.s (.int .i64 n)) (stillL.blks stillB ++ [B] ++ k.blks stillB ++ [C, R, G0, .cells true [.ints .u8 0 (bfun fun _ => 0#8)] 0])) :
    Does TB 65 [a1, a2, .agg [.one (.bool false), .one (.bool false), .one (.bool false), .one .nilslice], a4] (stillL.blks stillB ++ [B] ++ k.blks stillB ++ [C, R, G0]) K := by
  have e := step_spec (firstZ d k) (firstZ_ok d k)
  rw [hn] at e
  refine Does.args (b := [.agg (wsegs bC stillB (.gs 0 0 8 8) (.gs 1 0 0 0) (.gs 2 0 0 0)), .agg (wsegs d stillB (.gs 4 0 8 8) (.gs 5 0 0 0) (.gs 6 0 0 0)), .agg [.one (.bool false), .one (.bool false), .one (.bool false), .one .nilslice], .agg oneR.segs]) ⟨h1, h2, eqvE_refl _, h4, trivial⟩ ?_
  refine Does.ghA .u8 (bfun fun _ => 0#8) 2 ?_
  refine Does.atc e [0, 1, 2, 4, 5, 6, 10] rfl ⟨rfl, rfl, rfl, rfl, rfl, rfl, rfl, trivial⟩ (by decide) ?_
  exact hk
/-- A Step of the first ones, as it is called. -/
theorem step_k2 (d : CpuV) (k : Lists) (n : Int) (hn : (firstZ d k).made.step = n) {a1 a2 a4 : EV} {B C R : Blk} {G0 G1 : Blk} {K : EV → List Blk → Prop}
    (h1 : eqvE a1 (.agg (wsegs bC stillB (.gs 0 0 8 8) (.gs 1 0 0 0) (.gs 2 0 0 0)))) (h2 : eqvE a2 (.agg (wsegs d stillB (.gs 4 0 8 8) (.gs 5 0 0 0) (.gs 6 0 0 0)))) (h4 : eqvE a4 (.agg oneR.segs))
    (hk : K (.s (.int .i64 n)) (stillL.blks stillB ++ [B] ++ k.blks stillB ++ [C, R, G0, G1, .cells true [.ints .u8 0 (bfun fun _ => 0#8)] 0])) :
    Does TB 65 [a1, a2, .agg [.one (.bool false), .one (.bool false), .one (.bool false), .one .nilslice], a4] (stillL.blks stillB ++ [B] ++ k.blks stillB ++ [C, R, G0, G1]) K := by
  have e := step_spec (firstZ d k) (firstZ_ok d k)
  rw [hn] at e
  refine Does.args (b := [.agg (wsegs bC stillB (.gs 0 0 8 8) (.gs 1 0 0 0) (.gs 2 0 0 0)), .agg (wsegs d stillB (.gs 4 0 8 8) (.gs 5 0 0 0) (.gs 6 0 0 0)), .agg [.one (.bool false), .one (.bool false), .one (.bool false), .one .nilslice], .agg oneR.segs]) ⟨h1, h2, eqvE_refl _, h4, trivial⟩ ?_
  refine Does.ghA .u8 (bfun fun _ => 0#8) 2 ?_
  refine Does.atc e [0, 1, 2, 4, 5, 6, 11] rfl ⟨rfl, rfl, rfl, rfl, rfl, rfl, rfl, trivial⟩ (by decide) ?_
  exact hk
theorem i3 (j : Nat) : (if j = 3 then (1 : Int) else 0) = bfun sixL.ram j := by
  show _ = ((if j = 3 then 1#8 else 0#8 : B8).toNat : Int)
  split <;> rfl
theorem six_eq (r : List Blk) : eqvH (.cells true [.ints .u8 8 (fun j => if j = 3 then 1 else 0)] 0 :: r) (bblk true 8 sixL.ram 0 :: r) :=
  ⟨⟨rfl, rfl, ⟨⟨rfl, rfl, fun j _ => i3 j⟩, trivial⟩⟩, eqvH_refl _⟩
theorem two_eq (r : List Blk) : eqvH (.cells true (twoR.svs.map .one) 0 :: r) (rowsB true 1 (fun _ => twoR) 0 :: r) := by
  exact ⟨⟨rfl, rfl, fun i _ => rfl, eqvS_refl _⟩, eqvH_refl _⟩
theorem trace1_spec : Does TB 30 [.agg (tsegs (.gs 0 0 1 1) zeroC 0 0 (.gs 1 0 0 0))] [rowsB true 1 (fun _ => twoR) 0, bblk true 0 (fun _ => 0#8) 0] (fun v h' => v = .tuple [.s (.int .i64 1), .s (.int .i64 0)] ∧ h' = [rowsB true 1 (fun _ => twoR) 0, bblk true 0 (fun _ => 0#8) 0]) := by
  have e := trace_spec oneT 1 0 0 0 true true (by decide) (fun i _ => twoR_ok)
  rw [one_low] at e
  exact e
theorem i5 (j : Nat) : (if j = 5 then (7 : Int) else 0) = wfun aC.x j := by
  show _ = ((if j = 5 then 7#64 else 0#64 : B64).toNat : Int)
  split <;> rfl
theorem iC (j : Nat) : (if j = 0 then (31 : Int) else 0) = bfun bC.cfg j := by
  show _ = ((if j = 0 then 31#8 else 0#8 : B8).toNat : Int)
  split <;> rfl
theorem iA (j : Nat) : (if j = 0 then (18014398509481983 : Int) else 0) = wfun bC.addr j := by
  show _ = ((if j = 0 then 18014398509481983#64 else 0#64 : B64).toNat : Int)
  split <;> rfl
theorem i6 (j : Nat) : (if j = 6 then (1 : Int) else if j = 5 then 7 else 0) = wfun aD.x j := by
  show _ = ((if j = 6 then 1#64 else if j = 5 then 7#64 else 0#64 : B64).toNat : Int)
  split
  · rfl
  · split <;> rfl
theorem i0 (j : Nat) : (if j = 6 then (0 : Int) else if j = 6 then (1 : Int) else if j = 5 then 7 else 0) = wfun aC.x j := by
  show _ = ((if j = 5 then 7#64 else 0#64 : B64).toNat : Int)
  by_cases h : j = 6
  · subst h; rfl
  · rw [if_neg h, if_neg h]
    split <;> rfl
set_option maxRecDepth 100000 in
theorem firstW_spec : Does TB 28 [] [] (fun v h' => v = .s (.bool true) ∧ h' = []) := by
  refine fnX_does TB Try.func28 rfl (by decide) (fun O on hO => ?_)
  refine Does.at still_g [] rfl trivial (by decide) ?_ ?_
  · rintro v h' ⟨_, rfl⟩
    exact ⟨.inl rfl, .inl rfl, .inl rfl, trivial⟩
  rintro v h' ⟨rfl, rfl⟩
  repeat (refine need_intro (by first | exact an2 | exact an3 | exact fun h => h | exact nt | exact an2 | exact an3 | rfl | (simp; done) | fail) ?_)
  refine Does.at still_g [] rfl trivial (by decide) ?_ ?_
  · rintro v h' ⟨_, rfl⟩
    exact ⟨.inl rfl, .inl rfl, .inl rfl, trivial⟩
  rintro v h' ⟨rfl, rfl⟩
  repeat (refine need_intro (by first | exact an2 | exact an3 | exact fun h => h | exact nt | exact an2 | exact an3 | rfl | (simp; done) | fail) ?_)
  refine step_k0 aC stillL 0 first_0 ?_ ?_ ?_ ?_
  · show eqvS _ _
    repeat' (first | exact eqvS_nil | refine eqvS_same ?_ | refine eqvS_gs ⟨rfl, rfl, rfl, rfl⟩ ?_ | refine eqvS_ints (fun j _ => by first | rfl | exact i5 j | exact iC j | exact iA j | exact i6 j | exact i0 j) ?_)
  · show eqvS _ _
    repeat' (first | exact eqvS_nil | refine eqvS_same ?_ | refine eqvS_gs ⟨rfl, rfl, rfl, rfl⟩ ?_ | refine eqvS_ints (fun j _ => by first | rfl | exact i5 j | exact iC j | exact iA j | exact i6 j | exact i0 j) ?_)
  · show eqvS _ _
    repeat' (first | exact eqvS_nil | refine eqvS_same ?_ | refine eqvS_gs ⟨rfl, rfl, rfl, rfl⟩ ?_ | refine eqvS_ints (fun j _ => by first | rfl | exact i5 j | exact iC j | exact iA j | exact i6 j | exact i0 j) ?_)
  refine Does.ungd (b := [.agg _, .agg _]) ⟨⟨rfl, rfl⟩, ⟨rfl, rfl⟩, trivial⟩ ?_
  refine Does.args (b := [.agg (wsegs aC stillB (.gs 4 0 8 8) (.gs 5 0 0 0) (.gs 6 0 0 0)), .agg (wsegs aC stillB (.gs 4 0 8 8) (.gs 5 0 0 0) (.gs 6 0 0 0))]) ⟨?_, ?_, trivial⟩ ?_
  · show eqvS _ _
    repeat' (first | exact eqvS_nil | refine eqvS_same ?_ | refine eqvS_gs ⟨rfl, rfl, rfl, rfl⟩ ?_ | refine eqvS_ints (fun j _ => by first | rfl | exact i5 j | exact iC j | exact iA j | exact i6 j | exact i0 j) ?_)
  · show eqvS _ _
    repeat' (first | exact eqvS_nil | refine eqvS_same ?_ | refine eqvS_gs ⟨rfl, rfl, rfl, rfl⟩ ?_ | refine eqvS_ints (fun j _ => by first | rfl | exact i5 j | exact iC j | exact iA j | exact i6 j | exact i0 j) ?_)
  refine Does.dup agr_aa_spec [4, 5, 6, 4, 5, 6] rfl rfl ⟨⟨_, _, _, rfl, rfl⟩, ⟨_, _, _, rfl, rfl⟩, ⟨_, _, _, rfl, rfl⟩, ⟨_, _, _, rfl, rfl⟩, ⟨_, _, _, rfl, rfl⟩, ⟨_, _, _, rfl, rfl⟩, trivial⟩ ?_
  repeat (refine need_intro (by first | exact an2 | exact an3 | exact fun h => h | exact nt | exact an2 | exact an3 | rfl | (simp; done) | fail) ?_)
  refine Does.ungd (b := [.agg _, .agg _]) ⟨⟨rfl, rfl⟩, ⟨rfl, rfl⟩, trivial⟩ ?_
  refine Does.args (b := [.agg (wsegs aC stillB (.gs 4 0 8 8) (.gs 5 0 0 0) (.gs 6 0 0 0)), .agg (wsegs bC stillB (.gs 0 0 8 8) (.gs 1 0 0 0) (.gs 2 0 0 0))]) ⟨?_, ?_, trivial⟩ ?_
  · show eqvS _ _
    repeat' (first | exact eqvS_nil | refine eqvS_same ?_ | refine eqvS_gs ⟨rfl, rfl, rfl, rfl⟩ ?_ | refine eqvS_ints (fun j _ => by first | rfl | exact i5 j | exact iC j | exact iA j | exact i6 j | exact i0 j) ?_)
  · show eqvS _ _
    repeat' (first | exact eqvS_nil | refine eqvS_same ?_ | refine eqvS_gs ⟨rfl, rfl, rfl, rfl⟩ ?_ | refine eqvS_ints (fun j _ => by first | rfl | exact i5 j | exact iC j | exact iA j | exact i6 j | exact i0 j) ?_)
  refine Does.atc (agr_ab_spec) [4, 5, 6, 0, 1, 2] rfl ⟨rfl, rfl, rfl, rfl, rfl, rfl, trivial⟩ (by decide) ?_
  repeat (refine need_intro (by first | exact an2 | exact an3 | exact fun h => h | exact nt | exact an2 | exact an3 | rfl | (simp; done) | fail) ?_)
  refine step_k1 aD stillL 4 first_4 ?_ ?_ ?_ ?_
  · show eqvS _ _
    repeat' (first | exact eqvS_nil | refine eqvS_same ?_ | refine eqvS_gs ⟨rfl, rfl, rfl, rfl⟩ ?_ | refine eqvS_ints (fun j _ => by first | rfl | exact i5 j | exact iC j | exact iA j | exact i6 j | exact i0 j) ?_)
  · show eqvS _ _
    repeat' (first | exact eqvS_nil | refine eqvS_same ?_ | refine eqvS_gs ⟨rfl, rfl, rfl, rfl⟩ ?_ | refine eqvS_ints (fun j _ => by first | rfl | exact i5 j | exact iC j | exact iA j | exact i6 j | exact i0 j) ?_)
  · show eqvS _ _
    repeat' (first | exact eqvS_nil | refine eqvS_same ?_ | refine eqvS_gs ⟨rfl, rfl, rfl, rfl⟩ ?_ | refine eqvS_ints (fun j _ => by first | rfl | exact i5 j | exact iC j | exact iA j | exact i6 j | exact i0 j) ?_)
  repeat (refine need_intro (by first | exact an2 | exact an3 | (show (3 : Nat) < 8; decide) | exact fun h => h | exact nt | exact an2 | exact an3 | rfl | (simp; done) | fail) ?_)
  refine Does.heq (eqvH_same (eqvH_same (eqvH_same (eqvH_same (six_eq _))))) ?_
  refine step_k2 aC sixL 6 first_6 ?_ ?_ ?_ ?_
  · show eqvS _ _
    repeat' (first | exact eqvS_nil | refine eqvS_same ?_ | refine eqvS_gs ⟨rfl, rfl, rfl, rfl⟩ ?_ | refine eqvS_ints (fun j _ => by first | rfl | exact i5 j | exact iC j | exact iA j | exact i6 j | exact i0 j) ?_)
  · show eqvS _ _
    repeat' (first | exact eqvS_nil | refine eqvS_same ?_ | refine eqvS_gs ⟨rfl, rfl, rfl, rfl⟩ ?_ | refine eqvS_ints (fun j _ => by first | rfl | exact i5 j | exact iC j | exact iA j | exact i6 j | exact i0 j) ?_)
  · show eqvS _ _
    repeat' (first | exact eqvS_nil | refine eqvS_same ?_ | refine eqvS_gs ⟨rfl, rfl, rfl, rfl⟩ ?_ | refine eqvS_ints (fun j _ => by first | rfl | exact i5 j | exact iC j | exact iA j | exact i6 j | exact i0 j) ?_)
  repeat (refine need_intro (by first | exact an2 | exact an3 | exact fun h => h | exact nt | exact an2 | exact an3 | rfl | (simp; done) | fail) ?_)
  refine Does.args (b := [.agg (tsegs (.gs 12 0 1 1) zeroC 0 0 .nilslice)]) ⟨?_, trivial⟩ ?_
  · show eqvS _ _
    repeat' (first | exact eqvS_nil | refine eqvS_same ?_ | refine eqvS_gs ⟨rfl, rfl, rfl, rfl⟩ ?_ | refine eqvS_ints (fun j _ => by first | rfl | exact i5 j | exact iC j | exact iA j | exact i6 j | exact i0 j) ?_)
  refine Does.heq (eqvH_same (eqvH_same (eqvH_same (eqvH_same (eqvH_same (eqvH_same (eqvH_same (eqvH_same (eqvH_same (eqvH_same (eqvH_same (eqvH_same (two_eq _))))))))))))) ?_
  refine Does.ghA .u8 (bfun fun _ => 0#8) 0 ?_
  refine Does.atc trace1_spec [12, 13] rfl ⟨rfl, rfl, trivial⟩ (by decide) ?_
  repeat (refine need_intro (by first | exact an2 | exact an3 | exact fun h => h | exact nt | exact an2 | exact an3 | rfl | (simp; done) | fail) ?_)
  exact Ends.ro (H := []) rfl rfl rfl
end Go.Proofs.Ytghcdkpgcanpgaa

/- Watching: the document's Trace. -/
namespace Go.Proofs.Ytghcdkpgcanpgaa
open Go Go.Anv
set_option maxHeartbeats 4000000 in
set_option maxRecDepth 100000 in
theorem keeps_spec (t : TrV) (cn co sr so : Nat) (mr mo : Bool) (k : Int) (i : Nat) (hi : i < t.n) (hn : t.n ≤ 2 ^ 47) :
    Does TB 68 [.agg (tsegs (.gs 0 0 t.n cn) t.c t.off t.code (.gs 1 0 t.no co)), .s (.int .i64 k), .s (.int .i64 i)] [rowsB mr t.n t.f sr, bblk mo t.no t.out so]
      (fun v h' => v = .s (.bool (keepB t k i)) ∧ h' = [rowsB mr t.n t.f sr, bblk mo t.no t.out so]) := by
  have w1 : 0 < i → IntKind.i64.wrap ((i : Int) - 1) = (i : Int) - 1 := fun h => i64_in (by omega) (by omega)
  have w2 : IntKind.i64.wrap ((i : Int) + 1) = (i : Int) + 1 := i64_in (by omega) (by omega)
  have n1 : (!((i : Int) == 0)) = true → 0 ≤ IntKind.i64.wrap ((i : Int) - 1) ∧ IntKind.i64.wrap ((i : Int) - 1) < (t.n : Int) := fun h => by
    have h : i ≠ 0 := by rintro rfl; simp at h
    rw [w1 (by omega)]; omega
  have n2 : (!((i : Int) == 0)) = true → (IntKind.i64.wrap ((i : Int) - 1)).toNat < t.n := fun h => by
    have h : i ≠ 0 := by rintro rfl; simp at h
    rw [w1 (by omega)]; omega
  have an1 : ∀ {a b : Bool}, (a && b) = true → a = true := fun {a b} h => by cases a <;> simp at h <;> rfl
  have ix : ((i : Int) == 0) = false → (IntKind.i64.wrap ((i : Int) - 1)).toNat = i - 1 := fun h => by
    have h : i ≠ 0 := by rintro rfl; simp at h
    rw [w1 (by omega)]; omega
  have fin : ∀ {x : Bool} {J : List Blk}, x = keepB t k i → Anv.Ends 2 (fun v h' => v = .s (.bool (keepB t k i)) ∧ h' = [rowsB mr t.n t.f sr, bblk mo t.no t.out so]) (.s (.bool x)) ([rowsB mr t.n t.f sr, bblk mo t.no t.out so] ++ J) := by
    rintro x J rfl
    exact Ends.ro (H := [rowsB mr t.n t.f sr, bblk mo t.no t.out so]) (J := J) rfl (eqvE_refl _) rfl
  refine fnX_does TB Try.func68 rfl (by decide) (fun O on hO => ?_)
  repeat (refine need_intro (by first | omega | (exact ⟨by omega, by omega⟩) | exact fun h => h | exact nt | exact an2 | exact an3 | rfl | (simp; done) | fail) ?_)
  refine ifB_intro (fun h1 => ?_) (fun h1 => ?_)
  · refine fin (J := [_, _]) ?_
    unfold keepB; rw [if_pos h1, w2]; rfl
  refine ifB_intro (fun h2 => ?_) (fun h2 => ?_)
  · refine draw_held on rfl (fun _ _ h => h) ?_
    repeat' (first
      | refine need_intro (by first | exact fun h => h | exact nt | exact an2 | exact an3 | rfl | (simp; done) | fail) ?_
      | refine need_intro (by first | exact n1 | exact n2 | exact fun h => n1 (an1 h) | exact fun h => n2 (an1 h) | fail) ?_
      | refine And.intro ?_ ?_
      | exact n1
      | exact n2
      | exact fun h => n1 (an1 h)
      | exact fun h => n2 (an1 h))
    refine fin (J := [_, _]) ?_
    unfold keepB; rw [if_neg (by rw [h1]; decide), if_pos h2]
    cases hd : ((i : Int) == 0) with
    | true => rfl
    | false => rw [ix hd]; rfl
  refine ifB_intro (fun h3 => ?_) (fun h3 => ?_)
  · refine Does.atc (fields_spec (t.f i)) [] rfl trivial (by decide) ?_
    refine fin (J := [_, _]) ?_
    unfold keepB; rw [if_neg (by rw [h1]; decide), if_neg (by rw [h2]; decide), if_pos h3]
  refine ifB_intro (fun h4 => ?_) (fun h4 => ?_)
  · repeat' (first
      | refine need_intro (by first | exact fun h => h | exact nt | exact an2 | exact an3 | rfl | (simp; done) | fail) ?_
      | refine need_intro (by first | exact n1 | exact n2 | exact fun h => n1 (an1 h) | exact fun h => n2 (an1 h) | fail) ?_)
    refine fin (J := [_, _]) ?_
    unfold keepB; rw [if_neg (by rw [h1]; decide), if_neg (by rw [h2]; decide), if_neg (by rw [h3]; decide), if_pos h4]
    cases hd : ((i : Int) == 0) with
    | true => rfl
    | false => rw [ix hd]; rfl
  refine Does.atc (moves_spec (t.f i)) [] rfl trivial (by decide) ?_
  refine fin (J := [_, _]) ?_
  unfold keepB; rw [if_neg (by rw [h1]; decide), if_neg (by rw [h2]; decide), if_neg (by rw [h3]; decide), if_neg (by rw [h4]; decide)]
set_option maxHeartbeats 4000000 in
set_option maxRecDepth 100000 in
theorem rtrace_spec (t : TrV) (cn co sr so : Nat) (mr mo : Bool) (hn : t.n ≤ 2 ^ 47) :
    Does TB 31 [.agg (tsegs (.gs 0 0 t.n cn) t.c t.off t.code (.gs 1 0 t.no co))] [rowsB mr t.n t.f sr, bblk mo t.no t.out so]
      (fun v h' => v = .tuple [.s (.int .i64 (refF t 5 1).1), .s (.int .i64 (refF t 5 1).2)] ∧ h' = [rowsB mr t.n t.f sr, bblk mo t.no t.out so]) := by
  have fin : ∀ {a b : Int} {J : List Blk}, refF t 5 1 = (a, b) → Anv.Ends 2 (fun v h' => v = .tuple [.s (.int .i64 (refF t 5 1).1), .s (.int .i64 (refF t 5 1).2)] ∧ h' = [rowsB mr t.n t.f sr, bblk mo t.no t.out so]) (.tuple [.s (.int .i64 a), .s (.int .i64 b)]) ([rowsB mr t.n t.f sr, bblk mo t.no t.out so] ++ J) := by
    intro a b J e
    rw [e]
    exact Ends.ro (H := [rowsB mr t.n t.f sr, bblk mo t.no t.out so]) (J := J) rfl (eqvE_refl _) rfl
  refine fnX_does TB Try.func31 rfl (by decide) (fun O on hO => ?_)
  refine loop_in (A := Nat) on (fun k => [(4, .s (.int .i64 ((k : Int) + 1)))]) (fun _ => [rowsB mr t.n t.f sr, bblk mo t.no t.out so, .cells true (tsegs (.gs 0 0 t.n cn) t.c t.off t.code (.gs 1 0 t.no co)) 0]) (fun k => k ≤ 5 ∧ refF t 5 1 = refF t (5 - k) ((k : Int) + 1)) (fun k => 5 - k) 0 ⟨Nat.zero_le _, rfl⟩ [0, 1, 2] ?_ ?_
  · rw [hO]
    refine ⟨by decide, ⟨rfl, rfl, trivial⟩, ?_, ?_⟩
    · repeat' (first | exact eqvT_nil | refine eqvT_junk ?_ | refine eqvT_same ?_ | refine eqvT_int ?_ ?_ | refine eqvT_gs ⟨rfl, rfl, rfl, rfl⟩ ?_)
    · exact ⟨⟨_, rfl, eqvB_refl _⟩, ⟨_, rfl, eqvB_refl _⟩, ⟨_, rfl, eqvB_refl _⟩, trivial⟩
  intro k ⟨hk, hl⟩
  refine ifB_intro (fun h1 => ?_) (fun h1 => ?_)
  · have h1' := of_decide_eq_true h1
    obtain ⟨m, hm⟩ : ∃ m, 5 - k = m + 1 := ⟨4 - k, by omega⟩
    refine loop_in (A := Nat) on (fun i => [(5, .s (.int .i64 (i : Int)))]) (fun _ => [rowsB mr t.n t.f sr, bblk mo t.no t.out so, .cells true (tsegs (.gs 0 0 t.n cn) t.c t.off t.code (.gs 1 0 t.no co)) 0]) (fun i => i ≤ t.n ∧ firstB (fun j => !keepB t ((k : Int) + 1) j) i = none) (fun i => t.n - i) 0 ⟨Nat.zero_le _, rfl⟩ [0, 1, 2] ?_ ?_
    · rw [hO]
      refine ⟨by decide, ⟨rfl, rfl, trivial⟩, ?_, ?_⟩
      · repeat' (first | exact eqvT_nil | refine eqvT_junk ?_ | refine eqvT_same ?_ | refine eqvT_int ?_ ?_ | refine eqvT_gs ⟨rfl, rfl, rfl, rfl⟩ ?_)
      · exact ⟨⟨_, rfl, eqvB_refl _⟩, ⟨_, rfl, eqvB_refl _⟩, ⟨_, rfl, eqvB_refl _⟩, trivial⟩
    intro i ⟨hi, hf⟩
    refine ifB_intro (fun h2 => ?_) (fun h2 => ?_)
    · have hi' : i < t.n := by have := of_decide_eq_true h2; omega
      refine Does.atc (keeps_spec t cn co sr so mr mo ((k : Int) + 1) i hi' hn) [0, 1] rfl ⟨rfl, rfl, trivial⟩ (by decide) ?_
      refine ifB_intro (fun h3 => ?_) (fun h3 => ?_)
      · refine fin (J := [_]) ?_
        rw [hl, hm]
        simp only [refF, firstR, firstB_hit hf h3 t.n hi']
      · refine ⟨i + 1, ⟨hi', ?_⟩, by show t.n - (i + 1) < t.n - i; omega, [0, 1, 2], ?_⟩
        · simp only [firstB, hf, h3, Bool.false_eq_true, if_false]
        rw [hO]
        refine ⟨by decide, ⟨rfl, rfl, trivial⟩, ?_, ?_⟩
        · repeat' (first | exact eqvT_nil | refine eqvT_junk ?_ | refine eqvT_same ?_ | refine eqvT_int ?_ ?_ | refine eqvT_gs ⟨rfl, rfl, rfl, rfl⟩ ?_)
          rw [i64_in (by omega) (by omega)]; rfl
        · exact ⟨⟨_, rfl, eqvB_refl _⟩, ⟨_, rfl, eqvB_refl _⟩, ⟨_, rfl, eqvB_refl _⟩, trivial⟩
    · have hi' : i = t.n := by have := of_decide_eq_false h2; omega
      subst hi'
      refine ⟨k + 1, ⟨by omega, ?_⟩, by show 5 - (k + 1) < 5 - k; omega, [0, 1, 2], ?_⟩
      · rw [hl, hm]
        simp only [refF, firstR, hf]
        rw [show 5 - (k + 1) = m by omega]; rfl
      rw [hO]
      refine ⟨by decide, ⟨rfl, rfl, trivial⟩, ?_, ?_⟩
      · repeat' (first | exact eqvT_nil | refine eqvT_junk ?_ | refine eqvT_same ?_ | refine eqvT_int ?_ ?_ | refine eqvT_gs ⟨rfl, rfl, rfl, rfl⟩ ?_)
        rw [i64_in (by omega) (by omega)]; rfl
      · exact ⟨⟨_, rfl, eqvB_refl _⟩, ⟨_, rfl, eqvB_refl _⟩, ⟨_, rfl, eqvB_refl _⟩, trivial⟩
  · have h1' := of_decide_eq_false h1
    have hk5 : 5 - k = 0 := by omega
    rw [hk5] at hl
    have hz : 0 < t.n → IntKind.i64.wrap ((t.n : Int) - 1) = (t.n : Int) - 1 := fun h => i64_in (by omega) (by omega)
    have n1 : decide ((t.n : Int) > 0) = true → 0 ≤ IntKind.i64.wrap ((t.n : Int) - 1) ∧ IntKind.i64.wrap ((t.n : Int) - 1) < (t.n : Int) := fun h => by
      have h := of_decide_eq_true h
      rw [hz (by omega)]; omega
    have n2 : decide ((t.n : Int) > 0) = true → (IntKind.i64.wrap ((t.n : Int) - 1)).toNat < t.n := fun h => by
      have h := of_decide_eq_true h
      rw [hz (by omega)]; omega
    have an1 : ∀ {a b : Bool}, (a && b) = true → a = true := fun {a b} h => by cases a <;> simp at h <;> rfl
    refine (rproper_spec t.c _).mono ?_
    rintro v h' ⟨rfl, rfl⟩
    repeat (refine need_intro (by first | exact an2 | exact an3 | exact fun h => h | exact nt | exact an2 | exact an3 | rfl | (simp; done) | fail) ?_)
    refine draw_held on rfl (fun _ _ h => h) ?_
    repeat' (first
      | refine need_intro (by first | exact fun h => h | exact nt | exact an2 | exact an3 | rfl | (simp; done) | fail) ?_
      | refine need_intro (by first | exact n1 | exact n2 | exact fun h => n1 (an1 h) | exact fun h => n2 (an1 h) | fail) ?_
      | refine And.intro ?_ ?_
      | exact n1
      | exact n2
      | exact fun h => n1 (an1 h)
      | exact fun h => n2 (an1 h))
    have k3 : (bif decide ((t.n : Int) > 0) then bif ((t.f (IntKind.i64.wrap ((t.n : Int) - 1)).toNat).next.toNat : Int) != (t.c.proper.pc.toNat : Int) then true else (t.f (IntKind.i64.wrap ((t.n : Int) - 1)).toNat).nextMode != t.c.proper.mode else false) = (bif decide ((t.n : Int) > 0) then bad6 t else false) := by
      cases hd : decide ((t.n : Int) > 0)
      · rfl
      · have h := of_decide_eq_true hd
        rw [hz (by omega), show ((t.n : Int) - 1).toNat = t.n - 1 by omega]; rfl
    refine ifB_intro (fun h4 => ?_) (fun h4 => ?_)
    · refine fin (J := [_, _]) ?_
      rw [hl]
      simp only [refF, k3.symm.trans h4, if_true]
    · refine fin (J := [_, _]) ?_
      rw [hl]
      simp only [refF, k3.symm.trans h4, Bool.false_eq_true, if_false]
end Go.Proofs.Ytghcdkpgcanpgaa

/- Watching: traces copied and compared. -/
namespace Go.Proofs.Ytghcdkpgcanpgaa
open Go Go.Anv
theorem bytes_refl (b : ByteArray) : (b == b) = true := by
  rw [beq_toListBytes]
  exact beq_self_eq_true _
theorem roomR (k : Nat) (h : k * 128 ≤ 140737488351232) : room ti102 k := ⟨⟨rfl, by decide⟩, by omega, by show k * 128 ≤ _; omega⟩
set_option maxRecDepth 100000 in
theorem copiedT_spec (t : TrV) (cn co sr so : Nat) (mr mo : Bool) (hn : t.n * 128 ≤ 140737488351232) (ho : t.no ≤ 140737488355328) :
    Does TB 29 [.agg (tsegs (.gs 0 0 t.n cn) t.c t.off t.code (.gs 1 0 t.no co))] [rowsB mr t.n t.f sr, bblk mo t.no t.out so]
      (fun v h' => ∃ c2 c3, t.n ≤ c2 ∧ t.no ≤ c3 ∧ v = .agg (tsegs (.gs 2 0 t.n c2) t.c t.off t.code (.gs 3 0 t.no c3)) ∧ h' = [rowsB mr t.n t.f sr, bblk mo t.no t.out so, rowsB true t.n t.f ((c2 - t.n) * 16), bblk true t.no t.out (c3 - t.no)]) := by
  refine fnX_does TB Try.func29 rfl (by decide) (fun O on hO => ?_)
  repeat (refine need_intro (by first | exact an2 | exact an3 | exact fun h => h | exact nt | exact an2 | exact an3 | rfl | (simp; done) | fail) ?_)
  refine need_intro ⟨rfl, roomR _ hn⟩ ?_
  intro c2 hc2
  repeat (refine need_intro (by first | exact an2 | exact an3 | exact fun h => h | exact nt | exact an2 | exact an3 | rfl | (simp; done) | fail) ?_)
  refine need_intro ⟨by show 0 + t.no ≤ t.no; omega, room5 _ ho⟩ ?_
  intro c3 hc3
  repeat (refine need_intro (by first | exact an2 | exact an3 | exact fun h => h | exact nt | exact an2 | exact an3 | rfl | (simp; done) | fail) ?_)
  refine ⟨_, _, [0, 1, 5, 6], ⟨c2, c3, hc2, (show t.no ≤ c3 from hc3), rfl, rfl⟩, by decide, ⟨rfl, rfl, trivial⟩, ?_, ⟨⟨_, rfl, eqvB_refl _⟩, ⟨_, rfl, eqvB_refl _⟩, ⟨_, rfl, eqvB_refl _⟩, ⟨_, rfl, ⟨rfl, ?_, ⟨⟨rfl, ?_, fun j _ => ?_⟩, trivial⟩⟩⟩, trivial⟩⟩
  · show eqvS _ _
    repeat' (first | exact eqvS_nil | refine eqvS_same ?_ | refine eqvS_gs ⟨rfl, rfl, rfl, rfl⟩ ?_)
  · show (c3 - t.no) * 1 = c3 - t.no
    rw [Nat.mul_one]
  · rfl
  · show bfun t.out (0 + j) = _
    rw [Nat.zero_add]
set_option maxHeartbeats 4000000 in
set_option maxRecDepth 100000 in
theorem sameT_spec (t : TrV) (cn co sr so c2 c3 s2 s3 : Nat) (mr mo m2 m3 : Bool) (hn : t.n * 128 ≤ 140737488351232) (ho : t.no ≤ 140737488355328) :
    Does TB 32 [.agg (tsegs (.gs 2 0 t.n c2) t.c t.off t.code (.gs 3 0 t.no c3)), .agg (tsegs (.gs 0 0 t.n cn) t.c t.off t.code (.gs 1 0 t.no co))] [rowsB mr t.n t.f sr, bblk mo t.no t.out so, rowsB m2 t.n t.f s2, bblk m3 t.no t.out s3]
      (fun v h' => v = .s (.bool true) ∧ h' = [rowsB mr t.n t.f sr, bblk mo t.no t.out so, rowsB m2 t.n t.f s2, bblk m3 t.no t.out s3]) := by
  refine fnX_does TB Try.func32 rfl (by decide) (fun O on hO => ?_)
  repeat (refine need_intro (by first | exact an2 | exact an3 | exact fun h => h | exact nt | exact an2 | exact an3 | rfl | (simp; done) | fail) ?_)
  refine ifB_intro (fun h1 => absurd h1 (by simp [bne, bytes_refl])) (fun h1 => ?_)
  have fin : ∀ {J : List Blk}, Anv.Ends 4 (fun v h' => v = .s (.bool true) ∧ h' = [rowsB mr t.n t.f sr, bblk mo t.no t.out so, rowsB m2 t.n t.f s2, bblk m3 t.no t.out s3]) (.s (.bool true)) ([rowsB mr t.n t.f sr, bblk mo t.no t.out so, rowsB m2 t.n t.f s2, bblk m3 t.no t.out s3] ++ J) := fun {J} =>
    Ends.ro (H := [rowsB mr t.n t.f sr, bblk mo t.no t.out so, rowsB m2 t.n t.f s2, bblk m3 t.no t.out s3]) (J := J) rfl (eqvE_refl _) rfl
  refine loop_in (A := Nat) on (fun i => [(5, .s (.int .i64 (i : Int)))]) (fun _ => [rowsB mr t.n t.f sr, bblk mo t.no t.out so, rowsB m2 t.n t.f s2, bblk m3 t.no t.out s3, .cells true (tsegs (.gs 2 0 t.n c2) t.c t.off t.code (.gs 3 0 t.no c3)) 0, .cells true (tsegs (.gs 0 0 t.n cn) t.c t.off t.code (.gs 1 0 t.no co)) 0]) (fun i => i ≤ t.n) (fun i => t.n - i) 0 (Nat.zero_le _) [0, 1, 2, 3, 4, 5] ?_ ?_
  · rw [hO]
    refine ⟨by decide, ⟨rfl, rfl, rfl, rfl, trivial⟩, ?_, ?_⟩
    · repeat' (first | exact eqvT_nil | refine eqvT_junk ?_ | refine eqvT_same ?_ | refine eqvT_int ?_ ?_ | refine eqvT_gs ⟨rfl, rfl, rfl, rfl⟩ ?_)
    · exact ⟨⟨_, rfl, eqvB_refl _⟩, ⟨_, rfl, eqvB_refl _⟩, ⟨_, rfl, eqvB_refl _⟩, ⟨_, rfl, eqvB_refl _⟩, ⟨_, rfl, eqvB_refl _⟩, ⟨_, rfl, eqvB_refl _⟩, trivial⟩
  intro i hi
  refine ifB_intro (fun h2 => ?_) (fun h2 => ?_)
  · have hi' : i < t.n := by have := of_decide_eq_true h2; omega
    refine draw_held on rfl (fun _ _ h => h) ?_
    repeat (refine need_intro (by first | omega | (exact ⟨by omega, by omega⟩) | exact fun h => h | exact nt | exact an2 | exact an3 | rfl | (simp; done) | fail) ?_)
    refine ifB_intro (fun h3 => absurd h3 (by simp)) (fun h3 => ?_)
    refine ⟨i + 1, hi', by show t.n - (i + 1) < t.n - i; omega, [0, 1, 2, 3, 4, 5], ?_⟩
    rw [hO]
    refine ⟨by decide, ⟨rfl, rfl, rfl, rfl, trivial⟩, ?_, ?_⟩
    · repeat' (first | exact eqvT_nil | refine eqvT_junk ?_ | refine eqvT_same ?_ | refine eqvT_int ?_ ?_ | refine eqvT_gs ⟨rfl, rfl, rfl, rfl⟩ ?_)
      rw [i64_in (by omega) (by omega)]; rfl
    · exact ⟨⟨_, rfl, eqvB_refl _⟩, ⟨_, rfl, eqvB_refl _⟩, ⟨_, rfl, eqvB_refl _⟩, ⟨_, rfl, eqvB_refl _⟩, ⟨_, rfl, eqvB_refl _⟩, ⟨_, rfl, eqvB_refl _⟩, trivial⟩
  · exact fin (J := [_, _])
end Go.Proofs.Ytghcdkpgcanpgaa

/- WatchTraces. -/
namespace Go.Proofs.Ytghcdkpgcanpgaa
open Go Go.Anv
theorem copiedT_k (t : TrV) (cn co sr so : Nat) (mr mo : Bool) (hn : t.n * 128 ≤ 140737488351232) (ho : t.no ≤ 140737488355328) (B : Blk) {K : EV → List Blk → Prop}
    (hk : ∀ c2 c3, t.n ≤ c2 → t.no ≤ c3 → K (.agg (tsegs (.gs 3 0 t.n c2) t.c t.off t.code (.gs 4 0 t.no c3))) [rowsB mr t.n t.f sr, bblk mo t.no t.out so, B, rowsB true t.n t.f ((c2 - t.n) * 16), bblk true t.no t.out (c3 - t.no)]) :
    Does TB 29 [.agg (tsegs (.gs 0 0 t.n cn) t.c t.off t.code (.gs 1 0 t.no co))] [rowsB mr t.n t.f sr, bblk mo t.no t.out so, B] K := by
  refine Does.at (copiedT_spec t cn co sr so mr mo hn ho) [0, 1] rfl ⟨rfl, rfl, trivial⟩ (by decide) ?_ ?_
  · rintro v h' ⟨_, _, _, _, _, rfl⟩
    exact ⟨.inr (.inr rfl), .inr (.inr rfl), .inl rfl, .inl rfl, trivial⟩
  rintro v h' ⟨c2, c3, g2, g3, rfl, rfl⟩
  rw [forceH_eq, forceE_eq]
  exact hk c2 c3 g2 g3
set_option maxHeartbeats 4000000 in
set_option maxRecDepth 100000 in
theorem watchTraces_law (t : TrV) (cn co sr so : Nat) (mr mo : Bool) (hn : t.n * 128 ≤ 140737488351232) (ho : t.no ≤ 140737488355328) (ok : ∀ i, i < t.n → (t.f i).Ok) :
    Does TB 9 [.agg (tsegs (.gs 0 0 t.n cn) t.c t.off t.code (.gs 1 0 t.no co))] [rowsB mr t.n t.f sr, bblk mo t.no t.out so] (fun v h' => v = .s (.bool true) ∧ h' = [rowsB mr t.n t.f sr, bblk mo t.no t.out so]) := by
  refine fnX_does TB Try.func9 rfl (by decide) (fun O on hO => ?_)
  refine copiedT_k t cn co sr so mr mo hn ho _ ?_
  intro c2 c3 g2 g3
  repeat (refine need_intro (by first | exact an2 | exact an3 | exact fun h => h | exact nt | exact an2 | exact an3 | rfl | (simp; done) | fail) ?_)
  have a1 := trace_spec t c2 c3 ((c2 - t.n) * 16) (c3 - t.no) true true (by omega) ok
  have a2 := rtrace_spec t cn co sr so mr mo (by omega)
  rw [trace_law] at a1
  have a3 := sameT_spec t cn co sr so c2 c3 ((c2 - t.n) * 16) (c3 - t.no) mr mo true true hn ho
  generalize (refF t 5 1).1 = p at a1 a2
  generalize (refF t 5 1).2 = q at a1 a2
  refine Does.atc (a1) [3, 4] rfl ⟨rfl, rfl, trivial⟩ (by decide) ?_
  repeat (refine need_intro (by first | exact an2 | exact an3 | exact fun h => h | exact nt | exact an2 | exact an3 | rfl | (simp; done) | fail) ?_)
  refine Does.atc (a2) [0, 1] rfl ⟨rfl, rfl, trivial⟩ (by decide) ?_
  repeat (refine need_intro (by first | exact an2 | exact an3 | exact fun h => h | exact nt | exact an2 | exact an3 | rfl | (simp; done) | fail) ?_)
  have fin : ∀ {J : List Blk}, Anv.Ends 2 (fun v h' => v = .s (.bool true) ∧ h' = [rowsB mr t.n t.f sr, bblk mo t.no t.out so]) (.s (.bool true)) ([rowsB mr t.n t.f sr, bblk mo t.no t.out so] ++ J) := fun {J} => Ends.ro (H := [rowsB mr t.n t.f sr, bblk mo t.no t.out so]) (J := J) rfl rfl rfl
  have e0 : (bif p == p then q == q else false) = true := by simp
  refine ifB_intro (fun g => ?_) (fun g => absurd (g.symm.trans e0) (by decide))
  refine Does.ungd (b := [.agg _, .agg _]) ⟨⟨e0, rfl⟩, ⟨e0, rfl⟩, trivial⟩ ?_
  refine Does.atc (a3) [0, 1, 3, 4] rfl ⟨rfl, rfl, rfl, rfl, trivial⟩ (by decide) ?_
  repeat (refine need_intro (by first | exact e0 | exact fun h => h | exact nt | exact an2 | exact an3 | rfl | (simp; done) | fail) ?_)
  have e1 : (bif bif p == p then q == q else false then true else false) = true := by rw [e0]; rfl
  refine ifB_intro (fun _ => ?_) (fun g => absurd (g.symm.trans e1) (by decide))
  refine Does.atc firstW_spec [] rfl trivial (by decide) ?_
  repeat (refine need_intro (by first | exact e1 | exact an2 | exact an3 | exact fun h => h | exact nt | exact an2 | exact an3 | rfl | (simp; done) | fail) ?_)
  rw [e1]
  exact fin
end Go.Proofs.Ytghcdkpgcanpgaa
