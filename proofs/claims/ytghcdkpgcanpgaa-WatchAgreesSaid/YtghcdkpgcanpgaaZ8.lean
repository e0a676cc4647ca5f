/- Part 8 of the texts of this claim, merged: Q15, E20, E21, U1, U2, E19, U3, U4, U5, E14, S2, U6, U7, FT. No condition: plain theorems, contracts of functions. -/
import Derived.Test.YtghcdkpgcanpgaaZ7
import Derived.ChangeSlices
import Derived.OpenShut
import Derived.SizedLaws
import Derived.Test.YtghcdkpgcanpgaaProg
import Derived.KernelRfl

set_option linter.unusedSimpArgs false
set_option linter.unusedVariables false
/- Watching: Step, the program's. No condition but the lists' lengths. Printed by mk_q13.py. -/
namespace Go.Anv
open Go
/-- A step of two wholes that were handed in. -/
def Sc.made (z : Sc) : Sc := { z with c := z.c.proper, d := z.d.proper, e := z.d }
end Go.Anv
namespace Go.Proofs.Ytghcdkpgcanpgaa
open Go Go.Anv
set_option maxHeartbeats 8000000 in
set_option maxRecDepth 100000 in
theorem step_spec (z : Sc) (ok : z.Ok) : Does TB 65 [.agg z.b, .agg z.a, .agg z.world, .agg z.r.segs] z.lists (fun v h' => v = .s (.int .i64 z.made.step) ∧ h' = z.lists) := by
  refine fnX_does TB Try.func65 rfl (by decide) (fun O on hO => ?_)
  have ok' : z.made.Ok := ⟨ok.nr, ok.ni, ok.no, ok.mr, ok.mi, ok.mo, ok.cr, ok.ci, ok.co, ok.dr, ok.di, ok.do_, ok.size⟩
  repeat (refine need_intro (by first | exact fun h => h | exact nt | exact an2 | exact an3 | rfl | (simp; done) | fail) ?_)
  refine draw_but [11] on rfl (fun _ _ h => h) ?_
  refine (proper_spec z.c _).mono ?_
  rintro _ _ ⟨rfl, rfl⟩
  repeat (refine need_intro (by first | exact fun h => h | exact nt | exact an2 | exact an3 | rfl | (simp; done) | fail) ?_)
  refine (proper_spec z.d _).mono ?_
  rintro _ _ ⟨rfl, rfl⟩
  repeat (refine need_intro (by first | exact fun h => h | exact nt | exact an2 | exact an3 | rfl | (simp; done) | fail) ?_)
  refine Does.atn (rules_spec z.made) [0, 1, 2, 3, 4, 5, 6, 11] rfl ⟨rfl, rfl, rfl, rfl, rfl, rfl, rfl, rfl, trivial⟩ (by decide) ?_ ?_
  · rintro v h' ⟨c, _, _, rfl⟩
    exact ⟨.inr (.inr rfl), .inr (.inr rfl), .inr (.inr rfl), .inr (.inr rfl), .inr (.inr rfl), .inr (.inr rfl), .inr (.inr rfl), .inr (.inr rfl), .inl rfl, .inl rfl, .inl rfl, .inl rfl, .inl rfl, .inl rfl, .inl rfl, .inl rfl, .inl rfl, .inl rfl, .inl rfl, .inl rfl, .inl rfl, trivial⟩
  rintro v h' ⟨c, hc, rfl, rfl⟩
  have fin : ∀ {x : Int} {J : List Blk}, z.made.step = x → Anv.Ends 7 (fun v h' => v = .s (.int .i64 z.made.step) ∧ h' = z.lists) (.s (.int .i64 x)) (z.lists ++ J) := by
    rintro x J rfl
    exact Ends.ro rfl ⟨rfl, rfl⟩ rfl
  refine loop_times on 21 ?_
  refine ⟨?_⟩
  repeat (refine need_intro (by first | exact ⟨by decide, by decide⟩ | exact fun h => h | exact nt | exact an2 | exact an3 | rfl | (simp; done) | fail) ?_)
  refine Does.atc (rule1_spec z.made) [0, 1, 2, 3, 4, 5, 6, 11, 12, 13, 14, 15, 16, 17] rfl ⟨rfl, rfl, rfl, rfl, rfl, rfl, rfl, rfl, rfl, rfl, rfl, rfl, rfl, rfl, trivial⟩ (by decide) ?_
  refine ifB_intro (fun h => fin ?_) (fun r1 => ?_)
  · rw [Bool.not_eq_true'] at h
    unfold Sc.step
    rw [if_neg (by rw [h]; decide)]
    decide
  rw [Bool.not_eq_false'] at r1
  have hnr : z.made.t.nr = z.made.s.nr := by
    unfold Sc.rule1 at r1
    rw [Bool.and_eq_true] at r1
    exact eq_of_beq r1.1
  refine ⟨?_⟩
  repeat (refine need_intro (by first | exact ⟨by decide, by decide⟩ | exact fun h => h | exact nt | exact an2 | exact an3 | rfl | (simp; done) | fail) ?_)
  refine Does.atc (rule2_spec z.made) [0, 1, 2, 3, 4, 5, 6, 11, 12, 13, 14, 15, 16, 17] rfl ⟨rfl, rfl, rfl, rfl, rfl, rfl, rfl, rfl, rfl, rfl, rfl, rfl, rfl, rfl, trivial⟩ (by decide) ?_
  refine ifB_intro (fun h => fin ?_) (fun r2 => ?_)
  · rw [Bool.not_eq_true'] at h
    unfold Sc.step
    rw [if_pos r1]
    simp only [firstNot, h, Bool.false_eq_true, if_false]
    decide
  rw [Bool.not_eq_false'] at r2
  refine ⟨?_⟩
  repeat (refine need_intro (by first | exact ⟨by decide, by decide⟩ | exact fun h => h | exact nt | exact an2 | exact an3 | rfl | (simp; done) | fail) ?_)
  refine Does.atc (rule3_spec z.made) [0, 1, 2, 3, 4, 5, 6, 11, 12, 13, 14, 15, 16, 17] rfl ⟨rfl, rfl, rfl, rfl, rfl, rfl, rfl, rfl, rfl, rfl, rfl, rfl, rfl, rfl, trivial⟩ (by decide) ?_
  refine ifB_intro (fun h => fin ?_) (fun r3 => ?_)
  · rw [Bool.not_eq_true'] at h
    unfold Sc.step
    rw [if_pos r1]
    simp only [firstNot, h, r2, if_true, Bool.false_eq_true, if_false]
    decide
  rw [Bool.not_eq_false'] at r3
  refine ⟨?_⟩
  repeat (refine need_intro (by first | exact ⟨by decide, by decide⟩ | exact fun h => h | exact nt | exact an2 | exact an3 | rfl | (simp; done) | fail) ?_)
  refine Does.atc (rule4_spec z.made) [0, 1, 2, 3, 4, 5, 6, 11] rfl ⟨rfl, rfl, rfl, rfl, rfl, rfl, rfl, rfl, trivial⟩ (by decide) ?_
  refine ifB_intro (fun h => fin ?_) (fun r4 => ?_)
  · rw [Bool.not_eq_true'] at h
    unfold Sc.step
    rw [if_pos r1]
    simp only [firstNot, h, r2, r3, if_true, Bool.false_eq_true, if_false]
    decide
  rw [Bool.not_eq_false'] at r4
  refine ⟨?_⟩
  repeat (refine need_intro (by first | exact ⟨by decide, by decide⟩ | exact fun h => h | exact nt | exact an2 | exact an3 | rfl | (simp; done) | fail) ?_)
  refine Does.atc (rule5_spec z.made ok' hnr) [0, 1, 2, 3, 4, 5, 6, 11, 12, 13, 14, 15, 16, 17] rfl ⟨rfl, rfl, rfl, rfl, rfl, rfl, rfl, rfl, rfl, rfl, rfl, rfl, rfl, rfl, trivial⟩ (by decide) ?_
  refine ifB_intro (fun h => fin ?_) (fun r5 => ?_)
  · rw [Bool.not_eq_true'] at h
    unfold Sc.step
    rw [if_pos r1]
    simp only [firstNot, h, r2, r3, r4, if_true, Bool.false_eq_true, if_false]
    decide
  rw [Bool.not_eq_false'] at r5
  refine ⟨?_⟩
  repeat (refine need_intro (by first | exact ⟨by decide, by decide⟩ | exact fun h => h | exact nt | exact an2 | exact an3 | rfl | (simp; done) | fail) ?_)
  refine Does.atc (rule6_spec z.made ok' hnr) [0, 1, 2, 3, 4, 5, 6, 11] rfl ⟨rfl, rfl, rfl, rfl, rfl, rfl, rfl, rfl, trivial⟩ (by decide) ?_
  refine ifB_intro (fun h => fin ?_) (fun r6 => ?_)
  · rw [Bool.not_eq_true'] at h
    unfold Sc.step
    rw [if_pos r1]
    simp only [firstNot, h, r2, r3, r4, r5, if_true, Bool.false_eq_true, if_false]
    decide
  rw [Bool.not_eq_false'] at r6
  refine ⟨?_⟩
  repeat (refine need_intro (by first | exact ⟨by decide, by decide⟩ | exact fun h => h | exact nt | exact an2 | exact an3 | rfl | (simp; done) | fail) ?_)
  refine Does.atc (rule7_spec z.made) [0, 1, 2, 3, 4, 5, 6, 11, 12, 13, 14, 15, 16, 17] rfl ⟨rfl, rfl, rfl, rfl, rfl, rfl, rfl, rfl, rfl, rfl, rfl, rfl, rfl, rfl, trivial⟩ (by decide) ?_
  refine ifB_intro (fun h => fin ?_) (fun r7 => ?_)
  · rw [Bool.not_eq_true'] at h
    unfold Sc.step
    rw [if_pos r1]
    simp only [firstNot, h, r2, r3, r4, r5, r6, if_true, Bool.false_eq_true, if_false]
    decide
  rw [Bool.not_eq_false'] at r7
  refine ⟨?_⟩
  repeat (refine need_intro (by first | exact ⟨by decide, by decide⟩ | exact fun h => h | exact nt | exact an2 | exact an3 | rfl | (simp; done) | fail) ?_)
  refine Does.atc (rule8_spec z.made) [0, 1, 2, 3, 4, 5, 6, 11] rfl ⟨rfl, rfl, rfl, rfl, rfl, rfl, rfl, rfl, trivial⟩ (by decide) ?_
  refine ifB_intro (fun h => fin ?_) (fun r8 => ?_)
  · rw [Bool.not_eq_true'] at h
    unfold Sc.step
    rw [if_pos r1]
    simp only [firstNot, h, r2, r3, r4, r5, r6, r7, if_true, Bool.false_eq_true, if_false]
    decide
  rw [Bool.not_eq_false'] at r8
  refine ⟨?_⟩
  repeat (refine need_intro (by first | exact ⟨by decide, by decide⟩ | exact fun h => h | exact nt | exact an2 | exact an3 | rfl | (simp; done) | fail) ?_)
  refine Does.atc (rule9_spec z.made) [0, 1, 2, 3, 4, 5, 6, 11] rfl ⟨rfl, rfl, rfl, rfl, rfl, rfl, rfl, rfl, trivial⟩ (by decide) ?_
  refine ifB_intro (fun h => fin ?_) (fun r9 => ?_)
  · rw [Bool.not_eq_true'] at h
    unfold Sc.step
    rw [if_pos r1]
    simp only [firstNot, h, r2, r3, r4, r5, r6, r7, r8, if_true, Bool.false_eq_true, if_false]
    decide
  rw [Bool.not_eq_false'] at r9
  refine ⟨?_⟩
  repeat (refine need_intro (by first | exact ⟨by decide, by decide⟩ | exact fun h => h | exact nt | exact an2 | exact an3 | rfl | (simp; done) | fail) ?_)
  refine Does.atc (rule10_spec z.made) [0, 1, 2, 3, 4, 5, 6, 11] rfl ⟨rfl, rfl, rfl, rfl, rfl, rfl, rfl, rfl, trivial⟩ (by decide) ?_
  refine ifB_intro (fun h => fin ?_) (fun r10 => ?_)
  · rw [Bool.not_eq_true'] at h
    unfold Sc.step
    rw [if_pos r1]
    simp only [firstNot, h, r2, r3, r4, r5, r6, r7, r8, r9, if_true, Bool.false_eq_true, if_false]
    decide
  rw [Bool.not_eq_false'] at r10
  refine ⟨?_⟩
  repeat (refine need_intro (by first | exact ⟨by decide, by decide⟩ | exact fun h => h | exact nt | exact an2 | exact an3 | rfl | (simp; done) | fail) ?_)
  refine Does.atc (rule11_spec z.made) [0, 1, 2, 3, 4, 5, 6, 11, 18, 19, 20, 21, 22, 23] rfl ⟨rfl, rfl, rfl, rfl, rfl, rfl, rfl, rfl, rfl, rfl, rfl, rfl, rfl, rfl, trivial⟩ (by decide) ?_
  refine ifB_intro (fun h => fin ?_) (fun r11 => ?_)
  · rw [Bool.not_eq_true'] at h
    unfold Sc.step
    rw [if_pos r1]
    simp only [firstNot, h, r2, r3, r4, r5, r6, r7, r8, r9, r10, if_true, Bool.false_eq_true, if_false]
    decide
  rw [Bool.not_eq_false'] at r11
  refine ⟨?_⟩
  repeat (refine need_intro (by first | exact ⟨by decide, by decide⟩ | exact fun h => h | exact nt | exact an2 | exact an3 | rfl | (simp; done) | fail) ?_)
  refine Does.atc (rule12_spec z.made) [0, 1, 2, 3, 4, 5, 6, 11, 18, 19, 20, 21, 22, 23] rfl ⟨rfl, rfl, rfl, rfl, rfl, rfl, rfl, rfl, rfl, rfl, rfl, rfl, rfl, rfl, trivial⟩ (by decide) ?_
  refine ifB_intro (fun h => fin ?_) (fun r12 => ?_)
  · rw [Bool.not_eq_true'] at h
    unfold Sc.step
    rw [if_pos r1]
    simp only [firstNot, h, r2, r3, r4, r5, r6, r7, r8, r9, r10, r11, if_true, Bool.false_eq_true, if_false]
    decide
  rw [Bool.not_eq_false'] at r12
  refine ⟨?_⟩
  repeat (refine need_intro (by first | exact ⟨by decide, by decide⟩ | exact fun h => h | exact nt | exact an2 | exact an3 | rfl | (simp; done) | fail) ?_)
  refine Does.atc (rule13_spec z.made) [0, 1, 2, 3, 4, 5, 6, 11, 18, 19, 20, 21, 22, 23] rfl ⟨rfl, rfl, rfl, rfl, rfl, rfl, rfl, rfl, rfl, rfl, rfl, rfl, rfl, rfl, trivial⟩ (by decide) ?_
  refine ifB_intro (fun h => fin ?_) (fun r13 => ?_)
  · rw [Bool.not_eq_true'] at h
    unfold Sc.step
    rw [if_pos r1]
    simp only [firstNot, h, r2, r3, r4, r5, r6, r7, r8, r9, r10, r11, r12, if_true, Bool.false_eq_true, if_false]
    decide
  rw [Bool.not_eq_false'] at r13
  refine ⟨?_⟩
  repeat (refine need_intro (by first | exact ⟨by decide, by decide⟩ | exact fun h => h | exact nt | exact an2 | exact an3 | rfl | (simp; done) | fail) ?_)
  refine Does.atc (rule14_spec z.made) [0, 1, 2, 3, 4, 5, 6, 11, 18, 19, 20, 21, 22, 23] rfl ⟨rfl, rfl, rfl, rfl, rfl, rfl, rfl, rfl, rfl, rfl, rfl, rfl, rfl, rfl, trivial⟩ (by decide) ?_
  refine ifB_intro (fun h => fin ?_) (fun r14 => ?_)
  · rw [Bool.not_eq_true'] at h
    unfold Sc.step
    rw [if_pos r1]
    simp only [firstNot, h, r2, r3, r4, r5, r6, r7, r8, r9, r10, r11, r12, r13, if_true, Bool.false_eq_true, if_false]
    decide
  rw [Bool.not_eq_false'] at r14
  refine ⟨?_⟩
  repeat (refine need_intro (by first | exact ⟨by decide, by decide⟩ | exact fun h => h | exact nt | exact an2 | exact an3 | rfl | (simp; done) | fail) ?_)
  refine Does.atc (rule15_spec z.made) [0, 1, 2, 3, 4, 5, 6, 11, 18, 19, 20, 21, 22, 23] rfl ⟨rfl, rfl, rfl, rfl, rfl, rfl, rfl, rfl, rfl, rfl, rfl, rfl, rfl, rfl, trivial⟩ (by decide) ?_
  refine ifB_intro (fun h => fin ?_) (fun r15 => ?_)
  · rw [Bool.not_eq_true'] at h
    unfold Sc.step
    rw [if_pos r1]
    simp only [firstNot, h, r2, r3, r4, r5, r6, r7, r8, r9, r10, r11, r12, r13, r14, if_true, Bool.false_eq_true, if_false]
    decide
  rw [Bool.not_eq_false'] at r15
  refine ⟨?_⟩
  repeat (refine need_intro (by first | exact ⟨by decide, by decide⟩ | exact fun h => h | exact nt | exact an2 | exact an3 | rfl | (simp; done) | fail) ?_)
  refine Does.atc (rule16_spec z.made) [0, 1, 2, 3, 4, 5, 6, 11, 18, 19, 20, 21, 22, 23] rfl ⟨rfl, rfl, rfl, rfl, rfl, rfl, rfl, rfl, rfl, rfl, rfl, rfl, rfl, rfl, trivial⟩ (by decide) ?_
  refine ifB_intro (fun h => fin ?_) (fun r16 => ?_)
  · rw [Bool.not_eq_true'] at h
    unfold Sc.step
    rw [if_pos r1]
    simp only [firstNot, h, r2, r3, r4, r5, r6, r7, r8, r9, r10, r11, r12, r13, r14, r15, if_true, Bool.false_eq_true, if_false]
    decide
  rw [Bool.not_eq_false'] at r16
  refine ⟨?_⟩
  repeat (refine need_intro (by first | exact ⟨by decide, by decide⟩ | exact fun h => h | exact nt | exact an2 | exact an3 | rfl | (simp; done) | fail) ?_)
  refine Does.atc (rule17_spec z.made ok') [0, 1, 2, 3, 4, 5, 6, 11] rfl ⟨rfl, rfl, rfl, rfl, rfl, rfl, rfl, rfl, trivial⟩ (by decide) ?_
  refine ifB_intro (fun h => fin ?_) (fun r17 => ?_)
  · rw [Bool.not_eq_true'] at h
    unfold Sc.step
    rw [if_pos r1]
    simp only [firstNot, h, r2, r3, r4, r5, r6, r7, r8, r9, r10, r11, r12, r13, r14, r15, r16, if_true, Bool.false_eq_true, if_false]
    decide
  rw [Bool.not_eq_false'] at r17
  refine ⟨?_⟩
  repeat (refine need_intro (by first | exact ⟨by decide, by decide⟩ | exact fun h => h | exact nt | exact an2 | exact an3 | rfl | (simp; done) | fail) ?_)
  refine Does.atc (rule18_spec z.made) [0, 1, 2, 3, 4, 5, 6, 11, 18, 19, 20, 21, 22, 23] rfl ⟨rfl, rfl, rfl, rfl, rfl, rfl, rfl, rfl, rfl, rfl, rfl, rfl, rfl, rfl, trivial⟩ (by decide) ?_
  refine ifB_intro (fun h => fin ?_) (fun r18 => ?_)
  · rw [Bool.not_eq_true'] at h
    unfold Sc.step
    rw [if_pos r1]
    simp only [firstNot, h, r2, r3, r4, r5, r6, r7, r8, r9, r10, r11, r12, r13, r14, r15, r16, r17, if_true, Bool.false_eq_true, if_false]
    decide
  rw [Bool.not_eq_false'] at r18
  refine ⟨?_⟩
  repeat (refine need_intro (by first | exact ⟨by decide, by decide⟩ | exact fun h => h | exact nt | exact an2 | exact an3 | rfl | (simp; done) | fail) ?_)
  refine Does.atc (rule19_spec z.made ok') [0, 1, 2, 3, 4, 5, 6, 11, 18, 19, 20, 21, 22, 23] rfl ⟨rfl, rfl, rfl, rfl, rfl, rfl, rfl, rfl, rfl, rfl, rfl, rfl, rfl, rfl, trivial⟩ (by decide) ?_
  refine ifB_intro (fun h => fin ?_) (fun r19 => ?_)
  · rw [Bool.not_eq_true'] at h
    unfold Sc.step
    rw [if_pos r1]
    simp only [firstNot, h, r2, r3, r4, r5, r6, r7, r8, r9, r10, r11, r12, r13, r14, r15, r16, r17, r18, if_true, Bool.false_eq_true, if_false]
    decide
  rw [Bool.not_eq_false'] at r19
  refine ⟨?_⟩
  repeat (refine need_intro (by first | exact ⟨by decide, by decide⟩ | exact fun h => h | exact nt | exact an2 | exact an3 | rfl | (simp; done) | fail) ?_)
  refine Does.atc (rule20_spec z.made) [0, 1, 2, 3, 4, 5, 6, 11, 18, 19, 20, 21, 22, 23] rfl ⟨rfl, rfl, rfl, rfl, rfl, rfl, rfl, rfl, rfl, rfl, rfl, rfl, rfl, rfl, trivial⟩ (by decide) ?_
  refine ifB_intro (fun h => fin ?_) (fun r20 => ?_)
  · rw [Bool.not_eq_true'] at h
    unfold Sc.step
    rw [if_pos r1]
    simp only [firstNot, h, r2, r3, r4, r5, r6, r7, r8, r9, r10, r11, r12, r13, r14, r15, r16, r17, r18, r19, if_true, Bool.false_eq_true, if_false]
    decide
  rw [Bool.not_eq_false'] at r20
  refine ⟨?_⟩
  refine fin ?_
  unfold Sc.step
  rw [if_pos r1]
  simp only [firstNot, r2, r3, r4, r5, r6, r7, r8, r9, r10, r11, r12, r13, r14, r15, r16, r17, r18, r19, r20, if_true]
end Go.Proofs.Ytghcdkpgcanpgaa

/- The engine, part 20: functions that defer one clearing of a map. Plain theorems; no condition. -/
namespace Go.Anv
open Go

section
variable {P : Program}

theorem step_defer_builtin {fr : Frame} {cs : List Frame} {w w2 : World} {d : Deferred} {ds : List Deferred} {b : Builtin} {tys : Array TypeId} {ty : TypeId} {consts : Array Bool} {v : Value}
    (hm : fr.mode = .returning) (hd : fr.defers = d :: ds) (ht : d.target = .builtin b tys ty consts) (hi : (invoke d.target d.args).run P w = .ok (.value v) w2) :
    step P (lone fr cs w) = .next (lone { fr with defers := ds } cs w2) := by
  obtain ⟨t, a⟩ := d
  simp only at ht hi
  subst ht
  refine step_lone_go ?_
  simp [stepG, unwind, callDeferred, hm, hd, hi]

def postB (P : Program) (fn : Func) (R : Ending → World → Prop) : Exit → Act → World → Prop
  | .normal, a, w | .ret, a, w => ∃ d b tys ty consts v w2 r, a.defers = [d] ∧ d.target = .builtin b tys ty consts ∧ (invoke d.target d.args).run P w = .ok (.value v) w2 ∧ (results fn a.tmps).run P w2 = .ok r w2 ∧ R (.returned r) w2
  | _, _, _ => False

theorem calls_of_wp_builtin {f : FuncId} {fn : Func} {c : Code} {args : Array Value} {w : World} {R : Ending → World → Prop}
    (hf : P.funcs[f]? = some fn) (hb : fn.body = some c)
    (h : c.wp P (postB P fn R) { tmps := args ++ Array.replicate (fn.ntmps - args.size) undef, defers := [] } w) : Calls P f args w R := by
  intro cs
  let b : Frame := { (default : Frame) with fn := f, kind := .normal }
  have henter : Frame.enter P f args .normal =
      b.at { tmps := args ++ Array.replicate (fn.ntmps - args.size) undef, defers := [] } [.code c] := by
    simp [Frame.enter, Frame.at, hf, hb, b]
  obtain ⟨e, a', w', hq, harr⟩ := h b [] cs
  rw [← henter] at harr
  have fin : ∀ (todo : List Item) (w' : World), postB P fn R .normal a' w' → Steps P (lone (Frame.enter P f args .normal) cs w) (lone { b.at a' todo with mode := .returning } cs w') →
      ∃ e w'' fr', R e w'' ∧ Comes P (lone (Frame.enter P f args .normal) cs w) (lone fr' cs w'') e ∧ fr'.fn = f ∧ fr'.leaving P w'' e := by
    intro todo w' hq hs
    obtain ⟨d, bb, tys, ty, consts, v, w2, r, h1, h2, h3, h4, h5⟩ := hq
    have hst := step_defer_builtin (fr := { b.at a' todo with mode := .returning }) (cs := cs) rfl h1 h2 h3
    exact ⟨.returned r, w2, _, h5, Steps.trans hs (.one hst), rfl, rfl, rfl, rfl, fn, hf, h4⟩
  cases e with
  | normal => exact fin [] w' hq (Steps.trans harr (.one step_end))
  | ret =>
    obtain ⟨todo, hs₀⟩ := harr
    exact fin todo w' hq hs₀
  | panic chain => exact hq.elim
  | exit id => exact hq.elim
  | goto l => exact hq.elim
  | outgrown => exact hq.elim
end

/-- The operations ahead of a deferred clearing that stands last; the map; its type. -/
def lastB : List Oper → Option (List Oper × Operand × TypeId)
  | [] => none
  | [o] => match o.guard, o.dst, o.op with
    | none, none, .defer { callee := .builtin .clear, args, argTypes } => match args.toList, argTypes.toList with
      | [x], [t] => some ([], x, t)
      | _, _ => none
    | _, _, _ => none
  | o :: r => match lastB r with
    | some (p, x, t) => some (o :: p, x, t)
    | none => none

theorem lastB_spec : ∀ {l pre : List Oper} {x : Operand} {t : TypeId}, lastB l = some (pre, x, t) → ∃ o, l = pre ++ [o] ∧ o.guard = none ∧ o.dst = none ∧ o.op = .defer { callee := .builtin .clear, args := #[x], argTypes := #[t] }
  | [], _, _, _, h => by simp [lastB] at h
  | [o], pre, x, t, h => by
    simp only [lastB] at h
    split at h
    · rename_i args tys hg hd hop
      split at h
      · rename_i x' t' hx ht
        simp only [Option.some.injEq, Prod.mk.injEq] at h
        obtain ⟨rfl, rfl, rfl⟩ := h
        have ex : args = #[x'] := by rw [← Array.toList_inj]; exact hx
        have et : tys = #[t'] := by rw [← Array.toList_inj]; exact ht
        exact ⟨o, rfl, hg, hd, by rw [hop, ex, et]⟩
      · cases h
    · cases h
  | o :: o' :: r, pre, x, t, h => by
    simp only [lastB] at h
    split at h
    · rename_i p x' t' hr
      simp only [Option.some.injEq, Prod.mk.injEq] at h
      obtain ⟨rfl, rfl, rfl⟩ := h
      obtain ⟨y, h1, h2⟩ := lastB_spec (l := o' :: r) hr
      exact ⟨y, by rw [h1]; rfl, h2⟩
    · cases h

/-- The walk as far as the defer; the code behind it. -/
def wpb (T : Tbl) (O : Org) (c : Code) : St → (St → EV → TypeId → Code → Prop) → Prop :=
  Code.rec (motive := fun _ => St → (St → EV → TypeId → Code → Prop) → Prop)
    (fun _ _ => False)
    (fun _ _ _ _ _ => False)
    (fun a b _ wb s k => match a with
      | .region id ops false => match lastB ops.toList with
        | some (pre, x, t) => opsX T ops pre s fun s' => k s' (evT s'.tmps x) t b
        | none => wpx T O (.region id ops false) s (normK fun s' => wb s' k)
      | a => wpx T O a s (normK fun s' => wb s' k))
    (fun _ _ _ _ _ _ _ => False)
    (fun _ _ _ _ _ => False)
    (fun _ _ _ _ => False)
    (fun _ _ _ _ _ _ _ _ => False)
    (fun _ _ _ => False)
    (fun _ _ _ _ => False)
    (fun _ _ _ => False)
    (fun _ _ _ => False)
    (fun _ _ => False)
    (fun _ _ _ => False)
    c

theorem wpb_seq (T : Tbl) (O : Org) (a b : Code) (s : St) (k : St → EV → TypeId → Code → Prop) : wpb T O (.seq a b) s k = (match a with
    | .region id ops false => match lastB ops.toList with
      | some (pre, x, t) => opsX T ops pre s fun s' => k s' (evT s'.tmps x) t b
      | none => wpx T O (.region id ops false) s (normK fun s' => wpb T O b s' k)
    | a => wpx T O a s (normK fun s' => wpb T O b s' k)) := rfl

theorem wpb_snd {T : Tbl} {O : Org} (on : O.E.n = O.h.length) {Q : Exit → Act → World → Prop} {k : St → EV → TypeId → Code → Prop}
    (hk : ∀ E s a w x xv t ty b consts, k s x t b → denE E x xv → Rel O E s a w → Code.wp T.P b Q { a with defers := { target := .builtin .clear #[t] ty consts, args := #[xv] } :: a.defers } w) :
    ∀ (c : Code) {E : Emb} {s : St} {a : Act} {w : World}, wpb T O c s k → Rel O E s a w → c.wp T.P Q a w := by
  have step : ∀ (x y : Code) {E : Emb} {s : St} {a : Act} {w : World} {n : St → Prop}, wpx T O x s (normK n) → Rel O E s a w → (∀ {E s a w}, n s → Rel O E s a w → y.wp T.P Q a w) → (Code.seq x y).wp T.P Q a w := by
    intro x y E s a w n hx R hy
    refine wp_seq (Code.wp_mono ?_ (wpx_snd on x hx R))
    rintro e a' w' ⟨E', s', h1, h2⟩
    cases e <;> first
      | exact hy h1 h2
      | exact h1.elim
  intro c
  induction c with
  | seq x y _ ihy =>
    intro E s a w h R
    rw [wpb_seq] at h
    split at h
    · rename_i id ops _ _
      split at h
      · rename_i pre x t hl
        obtain ⟨o, h1, hg, hd, hop⟩ := lastB_spec hl
        refine wp_seq (wp_region_list ?_)
        rw [h1]
        refine opsX_append on pre [o] R h fun E' s' a' w' hk' R' => ?_
        have hxd := ev_denE R'.fr x
        unfold wpList
        rw [if_pos (by simp [Region.wanted, hg])]
        refine .inl ?_
        unfold Oper.wp
        have hex : ∃ cs, (execOp a'.eval o).run T.P w' = .ok (.defer { target := .builtin .clear #[t] o.type cs, args := #[a'.eval x] }) w' := by
          refine ⟨(#[x] : Array Operand).map (fun y => match y with | .const _ => true | _ => false), ?_⟩
          have em : (#[x] : Array Operand).map a'.eval = #[a'.eval x] := by simp
          unfold execOp
          simp only [hop, resolve, em]
          rfl
        obtain ⟨cs, hex⟩ := hex
        rw [hex, Oper.upon_defer, hd]
        exact hk E' s' a' w' _ _ _ o.type _ cs hk' hxd R'
      · exact step _ _ h R fun h1 h2 => ihy h1 h2
    · exact step _ _ h R fun h1 h2 => ihy h1 h2
  | _ => intro E s a w h R; exact h.elim

/-- What comes behind the code: the map is cleared; what is handed back. -/
def bodyB (T : Tbl) (F : Func) (x : EV) (t : TypeId) (Q : EV → List Blk → Prop) : Exit → St → Prop
  | .normal, s => match T.ty t, x with
    | some { d := .map _ _, .. }, .s (.map b) => match nthB s.heap b with
      | some (.map _) => updBK s.heap b (.map []) fun h => resX T ⟨s.tmps, h⟩ F.results.toList Q
      | _ => False
    | _, _ => False
  | .ret, s => match T.ty t, x with
    | some { d := .map _ _, .. }, .s (.map b) => match nthB s.heap b with
      | some (.map _) => updBK s.heap b (.map []) fun h => resX T ⟨s.tmps, h⟩ F.results.toList Q
      | _ => False
    | _, _ => False
  | _, _ => False

/-- A function's body that defers a clearing, walked. -/
def fnXB (T : Tbl) (O : Org) (F : Func) (args : List EV) (h : List Blk) (Q : EV → List Blk → Prop) : Prop :=
  match F.body with
  | some c => frameK args F.ntmps fun ts => wpb T O c ⟨ts, h⟩ fun s x t rest => ∀ O' : Org, O'.E.n = O'.h.length → O'.E.n = s.heap.length → O.E.n ≤ O'.E.n → wpx T O' rest s (bodyB T F x t Q)
  | none => False

theorem fnXB_call (T : Tbl) {f : FuncId} {F : Func} (hF : T.P.funcs[f]? = some F) {args : List EV} {h : List Blk} {Q : EV → List Blk → Prop}
    (hX : ∀ E w, Sim E h w → fnXB T ⟨E, h, w, []⟩ F args h Q) : CallG T f args h Q := by
  intro E w vs S hargs
  have hx := hX E w S
  unfold fnXB at hx
  split at hx
  · rename_i c hc
    rw [frameK_eq] at hx
    refine calls_of_wp_builtin hF hc ?_
    have hlen : vs.size = args.length := by rw [← Array.length_toList]; exact denT_length hargs
    have R : Rel ⟨E, h, w, []⟩ E { tmps := args ++ junks (F.ntmps - args.length), heap := h } { tmps := vs ++ Array.replicate (F.ntmps - vs.size) undef, defers := [] } w := by
      refine ⟨⟨by simp [length_junks, hlen], fun i v hi => ?_⟩, rfl, S, Since.refl _ _ _⟩
      rw [nth_append_junks]
      split
      · rename_i hlt
        rw [Array.getElem?_append_left (by omega)] at hi
        exact denT_nth hargs (by simpa using hi)
      · simp only [denE]
    refine wpb_snd (O := ⟨E, h, w, []⟩) S.n ?_ c hx R
    intro E1 s1 a1 w1 x0 xv t ty rest consts hk hxd R1
    have hdf : a1.defers = [] := R1.df
    generalize hdd : ({ target := .builtin .clear #[t] ty consts, args := #[xv] } : Deferred) = d
    have hO := hk ⟨E1, s1.heap, w1, [d]⟩ R1.sim.n R1.sim.n (by have h1 := R1.sin.len; have h2 := S.n; have h3 := R1.sim.n; simp only at *; omega)
    have R1' : Rel ⟨E1, s1.heap, w1, [d]⟩ E1 s1 { a1 with defers := d :: a1.defers } w1 := ⟨R1.fr, by simp [hdf], R1.sim, Since.refl _ _ _⟩
    refine Code.wp_mono ?_ (wpx_snd (T := T) (O := ⟨E1, s1.heap, w1, [d]⟩) R1.sim.n rest hO R1')
    have key : ∀ E2 s2 a2 w2, bodyB T F x0 t Q .normal s2 → Rel ⟨E1, s1.heap, w1, [d]⟩ E2 s2 a2 w2 → postB T.P F (Post E h w Q) .normal a2 w2 := by
      intro E2 s2 a2 w2 hb R2
      have hdf2 : a2.defers = [d] := R2.df
      unfold bodyB at hb
      simp only at hb
      split at hb
      · rename_i kt et _ _ _ b ht
        split at hb
        · rename_i es hbk
          rw [updBK_eq, updB_eq] at hb
          have hle2 : E1.le E2 := R2.sin.le R1.sim.n R2.sim.n
          simp only [denE, denV] at hxd
          obtain ⟨hb1, rfl⟩ := hxd
          have hbk' := nthB_get hbk
          obtain ⟨l, clock, hl, _⟩ := R2.sim.ok b _ hbk'
          have hloc : E1.f b = E2.f b := (hle2.2 b hb1).symm
          have S3 := R2.sim.mset (es' := []) hbk' (l' := #[]) (c' := clock) hl (by simp [denM])
          have N3 := Since.mset (E := E2) (h := s2.heap) (es' := []) hbk' (l' := #[]) (c' := clock) hl
          have hfr : frameOk E2 s2.tmps a2.tmps := R2.fr
          obtain ⟨u, v', k1, k2, k3⟩ := resX_snd T (s := ⟨s2.tmps, s2.heap.set b (.map [])⟩) hfr S3 hb
          have hd : T.P.underlying t = some (.map kt et) := (T.tyOk _ _ ht).desc
          refine ⟨d, .clear, #[t], ty, consts, .tuple #[], _, u, hdf2, by rw [← hdd], ?_, k1, u, v', _, E2, rfl, k2, S3, ?_, k3⟩
          · rw [← hdd]
            simp [invoke, builtin, Builtin.clear_, run_underlying hd, hloc, MapKept.run_getObj_map hl, MapKept.run_setObj_map _ hl, Result.andThen]
          · exact ((R1.sin).trans S.n R1.sim.n R2.sin).trans S.n R2.sim.n N3
        · exact hb.elim
      · exact hb.elim
    rintro e a2 w2 ⟨E2, s2, hb, R2⟩
    cases e <;> first
      | exact key E2 s2 a2 w2 hb R2
      | exact hb.elim
  · exact hx.elim

/-- **A function that defers a clearing, walked over a small heap.** -/
theorem fnXB_does (T : Tbl) {f : FuncId} {F : Func} (hF : T.P.funcs[f]? = some F) (hb : F.body.isNone = false) (hname : (F.name == "runtime.NumGoroutine") = false) {args : List EV} {h : List Blk} {Q : EV → List Blk → Prop}
    (hX : ∀ O : Org, O.E.n = O.h.length → O.E.n = h.length → fnXB T O F args h (Ends h.length Q)) : Does T f args h Q := by
  refine ⟨.inl ⟨⟨F, hF, hb, hname⟩, fun E w vs S ha => ?_⟩⟩
  have c := fnXB_call T hF (args := args) (h := h) (Q := Ends h.length Q) (fun E w S => hX _ S.n S.n) E w vs S ha
  refine c.mono ?_
  rintro e w' ⟨v, x, h', E', rfl, hd, S', N', V, H, κ, hq, hnd, hid, hv, hh⟩
  obtain ⟨S'', h1, h2, h3⟩ := S'.renum hnd hh
  refine ⟨v, V, H, _, rfl, ?_, S'', N'.renum S.n S' hnd (by rw [S.n]; exact hid) hh, hq⟩
  exact (denE_ren (E := ⟨H.length, fun i => E'.f (lk κ h'.length i)⟩) h1 (fun b hb => ⟨h2 b hb, rfl⟩) _ _).1 (eqvE_den _ _ _ hv hd)

end Go.Anv

/- A nil slice stands for one that has room for nothing: in what is handed in (Does.ghA), in what comes back (Does.ghR). -/
namespace Go.Anv
open Go
/-- The first nil slice becomes one of block b. -/
def gh1 (b : Nat) : List Seg → List Seg
  | [] => []
  | .one .nilslice :: r => .one (.gs b 0 0 0) :: r
  | x :: r => x :: gh1 b r
def ghE (b : Nat) : EV → EV
  | .agg cs => .agg (gh1 b cs)
  | x => x
def ghT (b : Nat) : Nat → List EV → List EV
  | _, [] => []
  | 0, x :: r => ghE b x :: r
  | i + 1, x :: r => x :: ghT b i r
theorem gh_nil {E : Emb} {v : Value} (h : denV E .nilslice v) : denV (E.push ⟨0, 0, true⟩) (.gs E.n 0 0 0) v := by
  simp only [denV] at h ⊢
  rw [Emb.push_new]
  exact ⟨by simp [Emb.push], fun _ => ⟨trivial, trivial⟩, by simpa using h⟩
theorem gh1_den {E : Emb} (hm : E.le (E.push ⟨0, 0, true⟩)) : ∀ (cs : List Seg) (l : List Value), denS E cs l → denS (E.push ⟨0, 0, true⟩) (gh1 E.n cs) l
  | [], l, h => h
  | .one v :: r, l, h => by
    obtain ⟨x, l', rfl, h1, h2⟩ := h
    by_cases e : v = .nilslice
    · subst e
      exact ⟨x, l', rfl, gh_nil h1, denS_mono hm _ _ h2⟩
    · have : gh1 E.n (.one v :: r) = .one v :: gh1 E.n r := by
        cases v <;> first | rfl | exact absurd rfl e
      rw [this]
      exact ⟨x, l', rfl, denV_mono hm _ _ h1, gh1_den hm r l' h2⟩
  | .ints k n f :: r, l, h => by
    obtain ⟨l', rfl, h2⟩ := h
    exact ⟨l', rfl, gh1_den hm r l' h2⟩
theorem ghE_den {E : Emb} (hm : E.le (E.push ⟨0, 0, true⟩)) (e : EV) (x : Value) (h : denE E e x) : denE (E.push ⟨0, 0, true⟩) (ghE E.n e) x := by
  cases e with
  | agg cs =>
    simp only [ghE, denE] at h ⊢
    obtain ⟨l, rfl, h1⟩ := h
    exact ⟨l, rfl, gh1_den hm _ _ h1⟩
  | _ => exact denE_mono hm _ _ h
theorem ghT_den {E : Emb} (hm : E.le (E.push ⟨0, 0, true⟩)) : ∀ (i : Nat) (es : List EV) (l : List Value), denT E es l → denT (E.push ⟨0, 0, true⟩) (ghT E.n i es) l
  | _, [], l, h => by
    simp only [ghT, denT] at h ⊢
    exact h
  | 0, e :: r, l, h => by
    simp only [ghT, denT] at h ⊢
    obtain ⟨v, l', rfl, h1, h2⟩ := h
    exact ⟨v, l', rfl, ghE_den hm _ _ h1, denT_mono hm _ _ h2⟩
  | i + 1, e :: r, l, h => by
    simp only [ghT, denT] at h ⊢
    obtain ⟨v, l', rfl, h1, h2⟩ := h
    exact ⟨v, l', rfl, denE_mono hm _ _ h1, ghT_den hm i _ _ h2⟩
/-- An argument's first nil slice: one that has room for nothing. -/
theorem Does.ghA {T : Tbl} {f : FuncId} {args : List EV} {h : List Blk} {Q : EV → List Blk → Prop} (k : IntKind) (g : Nat → Int) (i : Nat) (d : Does T f (ghT h.length i args) (h ++ [.cells true [.ints k 0 g] 0]) Q) : Does T f args h Q := by
  have key : ∀ {E : Emb} {w : World} {vs : List Value}, Sim E h w → denT E args vs → ∃ E', Sim E' (h ++ [.cells true [.ints k 0 g] 0]) w ∧ Since E h w E' (h ++ [.cells true [.ints k 0 g] 0]) w ∧ denT E' (ghT h.length i args) vs := fun {E w vs} S ha => by
    obtain ⟨S', N'⟩ := push_nil S (cs := [.ints k 0 g]) ⟨[], rfl, rfl⟩
    refine ⟨_, S', N', ?_⟩
    rw [← S.n]
    exact ghT_den (N'.le S.n S'.n) _ _ _ ha
  have back : ∀ {E E' : Emb} {w w' : World} {e : Ending}, E.n = h.length → E'.n = (h ++ [Blk.cells true [.ints k 0 g] 0]).length → Since E h w E' (h ++ [.cells true [.ints k 0 g] 0]) w → Post E' (h ++ [.cells true [.ints k 0 g] 0]) w Q e w' → Post E h w Q e w' := fun {E E' w w' e} n n' N p => by
    obtain ⟨v, x, h', E'', h1, h2, h3, h4, h5⟩ := p
    exact ⟨v, x, h', E'', h1, h2, h3, N.trans n n' h4, h5⟩
  refine ⟨?_⟩
  rcases d.go with ⟨h1, h2⟩ | h1
  · refine .inl ⟨h1, fun E w vs S ha => ?_⟩
    obtain ⟨E', S', N', ha'⟩ := key S ha
    exact (h2 E' w vs S' ha').mono fun e w' p => back S.n S'.n N' p
  · refine .inr fun E w vs S ha => ?_
    obtain ⟨E', S', N', ha'⟩ := key S ha
    obtain ⟨u, w', h2, h3⟩ := h1 E' w vs S' ha'
    exact ⟨u, w', h2, back S.n S'.n N' h3⟩
/-- A result's first nil slice: one that has room for nothing. -/
theorem Does.ghR {T : Tbl} {f : FuncId} {args : List EV} {h : List Blk} {X : EV} {H : List Blk} (k : IntKind) (g : Nat → Int) (d : Does T f args h (fun v h' => v = X ∧ h' = H)) :
    Does T f args h (fun v h' => v = ghE H.length X ∧ h' = H ++ [.cells true [.ints k 0 g] 0]) := by
  have back : ∀ {E : Emb} {w w' : World} {e : Ending}, Sim E h w → Post E h w (fun v h' => v = X ∧ h' = H) e w' → Post E h w (fun v h' => v = ghE H.length X ∧ h' = H ++ [.cells true [.ints k 0 g] 0]) e w' := fun {E w w' e} S p => by
    obtain ⟨v, x, h', E'', h1, h2, h3, h4, rfl, rfl⟩ := p
    obtain ⟨S', N'⟩ := push_nil h3 (cs := [.ints k 0 g]) ⟨[], rfl, rfl⟩
    refine ⟨v, _, _, _, h1, ?_, S', h4.trans S.n h3.n N', rfl, rfl⟩
    rw [← h3.n]
    exact ghE_den (N'.le h3.n S'.n) _ _ h2
  refine ⟨?_⟩
  rcases d.go with ⟨h1, h2⟩ | h1
  · exact .inl ⟨h1, fun E w vs S ha => (h2 E w vs S ha).mono fun e w' p => back S p⟩
  · refine .inr fun E w vs S ha => ?_
    obtain ⟨u, w', h2, h3⟩ := h1 E w vs S ha
    exact ⟨u, w', h2, back S h3⟩
/-- A heap that says more. -/
theorem Does.heq {T : Tbl} {f : FuncId} {args : List EV} {h b : List Blk} {Q : EV → List Blk → Prop} (e : eqvH h b) (d : Does T f args b Q) : Does T f args h Q := by
  have back : ∀ {E : Emb} {w w' : World} {x : Ending}, Sim E h w → Post E b w Q x w' → Post E h w Q x w' := fun {E w w' x} S p => by
    obtain ⟨v, y, h', E'', h1, h2, h3, h4, h5⟩ := p
    exact ⟨v, y, h', E'', h1, h2, h3, ((Since.refl E h w).eqv e).trans S.n (S.eqv e).n h4, h5⟩
  refine ⟨?_⟩
  rcases d.go with ⟨h1, h2⟩ | h1
  · exact .inl ⟨h1, fun E w vs S ha => (h2 E w vs (S.eqv e) ha).mono fun x w' p => back S p⟩
  · refine .inr fun E w vs S ha => ?_
    obtain ⟨u, w', h2, h3⟩ := h1 E w vs (S.eqv e) ha
    exact ⟨u, w', h2, back S h3⟩
end Go.Anv

/- Watching: one row by itself: its fields, its modes: the program's and the document's. No condition but that the numbers fit. -/
namespace Go.Anv
open Go
/-- Numbers that are a machine's. -/
structure RowV.Ok (r : RowV) : Prop where
  len : -9223372036854775808 ≤ r.len ∧ r.len ≤ 9223372036854775807
  rd : -9223372036854775808 ≤ r.rd ∧ r.rd ≤ 9223372036854775807
  mem : -9223372036854775808 ≤ r.mem ∧ r.mem ≤ 9223372036854775807
  size : -9223372036854775808 ≤ r.size ∧ r.size ≤ 9223372036854775807
/-- Rule 3 of a trace, of plain numbers. -/
def goodP (kind mode nm len rd mem size pc nx top cause tval raw val addr data : Int) : Prop :=
  (1 ≤ kind ∧ kind ≤ 5) ∧ (mode = 0 ∨ mode = 3) ∧ (nm = 0 ∨ nm = 3) ∧ pc = 0 ∧ nx = 0 ∧ (kind = 2 ∨ kind = 3 ∨ cause = 0 ∧ tval = 0) ∧ (top = 1 ↔ kind = 3) ∧ (kind = 3 → tval = 0) ∧ (kind ≥ 3 → raw = 0 ∧ len = 0) ∧ (len = 0 ∨ len = 2 ∨ len = 4) ∧ (kind = 1 → len ≠ 0) ∧
    (kind ≠ 1 → rd = 0 ∧ val = 0 ∧ mem = 0 ∧ addr = 0 ∧ size = 0 ∧ data = 0) ∧ (rd = 0 → val = 0) ∧ (mem = 0 → addr = 0 ∧ size = 0 ∧ data = 0) ∧ (mem = 1 → data = 0)
instance (kind mode nm len rd mem size pc nx top cause tval raw val addr data : Int) : Decidable (goodP kind mode nm len rd mem size pc nx top cause tval raw val addr data) := by unfold goodP; infer_instance
def RowV.top (r : RowV) : Int := (r.cause.toNat : Int).fdiv (2 ^ min (Int.toNat 63) IntKind.u64.bits)
def RowV.good (r : RowV) : Bool := decide (goodP r.kind r.mode r.nextMode r.len r.rd r.mem r.size ((r.pc.toNat : Int).tmod 2) ((r.next.toNat : Int).tmod 2) r.top r.cause.toNat r.tval.toNat r.raw.toNat r.val.toNat r.addr.toNat r.data.toNat)
/-- Rule 5 of a trace. -/
def RowV.moves (r : RowV) : Bool :=
  if r.kind == 4 then r.next == r.pc && r.nextMode == r.mode
  else if r.kind == 2 || r.kind == 3 then r.nextMode == 3
  else if r.kind == 1 then r.nextMode == r.mode || (r.mode == 3 && r.nextMode == 0 && r.raw == 807403635#32)
  else true
theorem wzero {x : Int} (h : -9223372036854775808 ≤ x ∧ x ≤ 9223372036854775807) : (IntKind.u64.wrap x == 0) = (x == 0) := by
  rw [wrap_u64, Bool.eq_iff_iff, beq_iff_eq, beq_iff_eq, BitVec.toNat_ofInt]
  omega
theorem wraw (a : B32) : (IntKind.u64.wrap (a.toNat : Int) == 0) = ((a.toNat : Int) == 0) := by
  have := a.isLt
  rw [wnat (by omega)]
theorem pT {a b : Bool} : ((bif a then true else b) = true) = (a = true ∨ b = true) := by cases a <;> simp
theorem pF {a b : Bool} : ((bif a then b else false) = true) = (a = true ∧ b = true) := by cases a <;> simp
theorem pN {a : Bool} : ((!a) = true) = ¬ (a = true) := by cases a <;> simp
theorem pB {a b : Bool} : ((a == b) = true) = (a = true ↔ b = true) := by cases a <;> cases b <;> simp
theorem pE {a : Bool} : (a = false) = ¬ (a = true) := by cases a <;> simp
theorem pO {a b : Bool} : ((a || b) = true) = (a = true ∨ b = true) := by cases a <;> simp
theorem pA {a b : Bool} : ((a && b) = true) = (a = true ∧ b = true) := by cases a <;> simp
theorem pI {x y : Int} : ((x == y) = true) = (x = y) := by simp
theorem pJ {x y : Int} : ((x != y) = true) = ¬ (x = y) := by simp
end Go.Anv
namespace Go.Proofs.Ytghcdkpgcanpgaa
open Go Go.Anv
set_option maxRecDepth 100000 in
theorem empty_spec (l : List Int) (hl : l.length < 2 ^ 62) : Does TB 110 [.s (.slice 0 0 l.length l.length)] [.cells true [.ints .u64 l.length (litF l)] 0] (fun v h' => v = .s (.bool (l.all fun x => x == 0)) ∧ h' = [.cells true [.ints .u64 l.length (litF l)] 0]) := by
  refine fnX_does TB Try.func110 rfl (by decide) (fun O on hO => ?_)
  have fin : ∀ {x : Bool}, x = (l.all fun x => x == 0) → Anv.Ends 1 (fun v h' => v = .s (.bool (l.all fun x => x == 0)) ∧ h' = [.cells true [.ints .u64 l.length (litF l)] 0]) (.s (.bool x)) [.cells true [.ints .u64 l.length (litF l)] 0] := by
    rintro x rfl
    exact Ends.ro (H := [.cells true [.ints .u64 l.length (litF l)] 0]) (J := []) rfl rfl rfl
  have get : ∀ (l : List Int) (i : Nat), i < l.length → litF l i = l.getD i 0 := by
    intro l
    induction l with
    | nil => intro i hi; simp at hi
    | cons a l ih =>
      intro i hi
      cases i with
      | zero => rfl
      | succ i => simp only [litF]; rw [ih i (by simpa using hi)]; simp
  refine loop_by (A := Nat) on (fun k => [(7, .s (.int .i64 (k : Int)))]) (fun _ => [.cells true [.ints .u64 l.length (litF l)] 0]) (fun k => k ≤ l.length ∧ ∀ i, i < k → litF l i = 0) (fun k => l.length - k) 0 ⟨Nat.zero_le _, fun i hi => absurd hi (Nat.not_lt_zero i)⟩ ?_ ?_
  · refine ⟨?_, eqvH_refl _⟩
    repeat' (first | exact eqvT_nil | refine eqvT_junk ?_ | refine eqvT_same ?_ | refine eqvT_int ?_ ?_)
  intro k ⟨hk, hp⟩
  refine ifB_intro (fun h2 => ?_) (fun h2 => ?_)
  · have hk1 : k < l.length := by have := of_decide_eq_true h2; omega
    repeat (refine need_intro (by first | omega | exact ⟨by omega, by omega⟩ | exact fun h => h | exact nt | exact an2 | exact an3 | rfl | (simp; done) | fail) ?_)
    have hz : (0 + (k : Int).toNat) = k := by omega
    refine ifB_intro (fun h3 => fin ?_) (fun h3 => ?_)
    · rw [hz] at h3
      symm
      rw [List.all_eq_false]
      refine ⟨l.getD k 0, ?_, ?_⟩
      · rw [List.getD_eq_getElem?_getD, List.getElem?_eq_getElem hk1]
        exact List.getElem_mem hk1
      · rw [← get l k hk1]
        simpa using h3
    · rw [hz] at h3
      refine ⟨k + 1, ⟨hk1, fun j hj => ?_⟩, by simp only; omega, ?_⟩
      · rcases Nat.lt_succ_iff_lt_or_eq.1 hj with h | h
        · exact hp j h
        · subst h; simpa using h3
      refine ⟨?_, eqvH_refl _⟩
      repeat' (first | exact eqvT_nil | refine eqvT_junk ?_ | refine eqvT_same ?_ | refine eqvT_int ?_ ?_)
      rw [i64_in (by omega) (by omega)]; omega
  · have hk1 : k = l.length := by have := of_decide_eq_false h2; omega
    refine fin ?_
    symm
    rw [List.all_eq_true]
    intro x hx
    obtain ⟨i, hi, rfl⟩ := List.getElem_of_mem hx
    have := hp i (by omega)
    rw [get l i hi, List.getD_eq_getElem?_getD, List.getElem?_eq_getElem hi] at this
    simpa using this
set_option maxHeartbeats 4000000 in
set_option maxRecDepth 100000 in
theorem fields_spec (r : RowV) : Does TB 98 [.agg r.segs] [] (fun v h' => v = .s (.bool r.good) ∧ h' = []) := by
  refine fnX_does TB Try.func98 rfl (by decide) (fun O on hO => ?_)
  have fin : ∀ {x : Bool} {b : Blk}, x = r.good → Anv.Ends 0 (fun v h' => v = .s (.bool r.good) ∧ h' = []) (.s (.bool x)) [b] := by
    rintro x b rfl
    exact Ends.ro (H := []) rfl rfl rfl
  repeat (refine need_intro (by first | exact fun _ => (by decide) | exact exact an2 | exact exact an3 | exact fun h => h | exact nt | exact an2 | exact an3 | rfl | (simp; done) | fail) ?_)
  refine ifB_intro (fun h1 => ?_) (fun h1 => ?_)
  · refine fin ?_
    refine Bool.eq_iff_iff.2 ?_
    rw [show (r.good = true) = goodP r.kind r.mode r.nextMode r.len r.rd r.mem r.size ((r.pc.toNat : Int).tmod 2) ((r.next.toNat : Int).tmod 2) r.top r.cause.toNat r.tval.toNat r.raw.toNat r.val.toNat r.addr.toNat r.data.toNat from decide_eq_true_eq]
    clear fin
    clear on hO
    simp only [RowV.top, goodP, pE, pT, pF, pN, pB, pO, pA, pI, pJ, decide_eq_true_eq, Bool.false_eq_true, iff_false, false_iff, iff_true, true_iff, Bool.true_eq_false] at *
    omega
  have hk : r.kind = 1 ∨ r.kind = 2 ∨ r.kind = 3 ∨ r.kind = 4 ∨ r.kind = 5 := by
    clear fin
    simp only [pE, pT, decide_eq_true_eq] at h1
    omega
  repeat (refine need_intro (by first | exact exact an2 | exact exact an3 | exact fail | exact fun h => h | exact nt | exact an2 | exact an3 | rfl | (simp; done) | fail) ?_)
  refine ifB_intro (fun h2 => ?_) (fun h2 => ?_)
  · refine fin ?_
    refine Bool.eq_iff_iff.2 ?_
    rw [show (r.good = true) = goodP r.kind r.mode r.nextMode r.len r.rd r.mem r.size ((r.pc.toNat : Int).tmod 2) ((r.next.toNat : Int).tmod 2) r.top r.cause.toNat r.tval.toNat r.raw.toNat r.val.toNat r.addr.toNat r.data.toNat from decide_eq_true_eq]
    clear fin
    clear on hO
    simp only [RowV.top, goodP, pE, pT, pF, pN, pB, pO, pA, pI, pJ, decide_eq_true_eq, Bool.false_eq_true, iff_false, false_iff, iff_true, true_iff, Bool.true_eq_false] at *
    rcases hk with k | k | k | k | k <;> simp [k] at * <;> omega
  repeat (refine need_intro (by first | exact exact an2 | exact exact an3 | exact fail | exact fun h => h | exact nt | exact an2 | exact an3 | rfl | (simp; done) | fail) ?_)
  refine ifB_intro (fun h3 => ?_) (fun h3 => ?_)
  · refine fin ?_
    refine Bool.eq_iff_iff.2 ?_
    rw [show (r.good = true) = goodP r.kind r.mode r.nextMode r.len r.rd r.mem r.size ((r.pc.toNat : Int).tmod 2) ((r.next.toNat : Int).tmod 2) r.top r.cause.toNat r.tval.toNat r.raw.toNat r.val.toNat r.addr.toNat r.data.toNat from decide_eq_true_eq]
    clear fin
    clear on hO
    simp only [RowV.top, goodP, pE, pT, pF, pN, pB, pO, pA, pI, pJ, decide_eq_true_eq, Bool.false_eq_true, iff_false, false_iff, iff_true, true_iff, Bool.true_eq_false] at *
    rcases hk with k | k | k | k | k <;> simp [k] at * <;> omega
  repeat (refine need_intro (by first | exact exact an2 | exact exact an3 | exact fail | exact fun h => h | exact nt | exact an2 | exact an3 | rfl | (simp; done) | fail) ?_)
  refine ifB_intro (fun h4 => ?_) (fun h4 => ?_)
  · refine fin ?_
    refine Bool.eq_iff_iff.2 ?_
    rw [show (r.good = true) = goodP r.kind r.mode r.nextMode r.len r.rd r.mem r.size ((r.pc.toNat : Int).tmod 2) ((r.next.toNat : Int).tmod 2) r.top r.cause.toNat r.tval.toNat r.raw.toNat r.val.toNat r.addr.toNat r.data.toNat from decide_eq_true_eq]
    clear fin
    clear on hO
    simp only [RowV.top, goodP, pE, pT, pF, pN, pB, pO, pA, pI, pJ, decide_eq_true_eq, Bool.false_eq_true, iff_false, false_iff, iff_true, true_iff, Bool.true_eq_false] at *
    rcases hk with k | k | k | k | k <;> simp [k] at * <;> omega
  repeat (refine need_intro (by first | exact exact an2 | exact exact an3 | exact fail | exact fun h => h | exact nt | exact an2 | exact an3 | rfl | (simp; done) | fail) ?_)
  refine fin ?_
  refine Bool.eq_iff_iff.2 ?_
  rw [show (r.good = true) = goodP r.kind r.mode r.nextMode r.len r.rd r.mem r.size ((r.pc.toNat : Int).tmod 2) ((r.next.toNat : Int).tmod 2) r.top r.cause.toNat r.tval.toNat r.raw.toNat r.val.toNat r.addr.toNat r.data.toNat from decide_eq_true_eq]
  clear fin
  clear on hO
  simp only [RowV.top, goodP, pE, pT, pF, pN, pB, pO, pA, pI, pJ, decide_eq_true_eq, Bool.false_eq_true, iff_false, false_iff, iff_true, true_iff, Bool.true_eq_false] at *
  rcases hk with k | k | k | k | k <;> simp [k] at * <;> omega
end Go.Proofs.Ytghcdkpgcanpgaa

/- Watching: one row by itself, the program's side. -/
namespace Go.Proofs.Ytghcdkpgcanpgaa
open Go Go.Anv
theorem mv_eq {w : Nat} {a b : BitVec w} : ((a.toNat : Int) == (b.toNat : Int)) = (a == b) := by
  rw [Bool.eq_iff_iff, beq_iff_eq, beq_iff_eq, Int.ofNat_inj, BitVec.toNat_inj]
theorem raw_eq {a : B32} : ((a.toNat : Int) == 807403635) = (a == 807403635#32) := mv_eq (b := 807403635#32)
set_option maxRecDepth 100000 in
theorem moves_spec (r : RowV) : Does TB 99 [.agg r.segs] [] (fun v h' => v = .s (.bool r.moves) ∧ h' = []) := by
  refine fnX_does TB Try.func99 rfl (by decide) (fun O on hO => ?_)
  have fin : ∀ {x : Bool} {b : Blk}, x = r.moves → Anv.Ends 0 (fun v h' => v = .s (.bool r.moves) ∧ h' = []) (.s (.bool x)) [b] := by
    rintro x b rfl
    exact Ends.ro (H := []) rfl rfl rfl
  refine ifB_intro (fun h1 => ?_) (fun h1 => ?_)
  · repeat (refine need_intro (by first | exact exact an2 | exact exact an3 | exact fail | exact fun h => h | exact nt | exact an2 | exact an3 | rfl | (simp; done) | fail) ?_)
    refine fin ?_
    rw [mv_eq]; simp [RowV.moves, h1]
  repeat (refine need_intro (by first | exact exact an2 | exact exact an3 | exact fail | exact fun h => h | exact nt | exact an2 | exact an3 | rfl | (simp; done) | fail) ?_)
  refine ifB_intro (fun h2 => ?_) (fun h2 => ?_)
  · refine ifB_intro (fun h3 => ?_) (fun h3 => absurd (h2.symm.trans h3) (by decide))
    repeat (refine need_intro (by first | exact exact an2 | exact exact an3 | exact fail | exact fun h => h | exact nt | exact an2 | exact an3 | rfl | (simp; done) | fail) ?_)
    refine fin ?_
    simp [RowV.moves, h1, h2]
  refine ifB_intro (fun h3 => ?_) (fun h3 => ?_)
  · repeat (refine need_intro (by first | exact exact an2 | exact exact an3 | exact fail | exact fun h => h | exact nt | exact an2 | exact an3 | rfl | (simp; done) | fail) ?_)
    refine fin ?_
    simp [RowV.moves, h1, h3]
  repeat (refine need_intro (by first | exact exact an2 | exact exact an3 | exact fail | exact fun h => h | exact nt | exact an2 | exact an3 | rfl | (simp; done) | fail) ?_)
  refine ifB_intro (fun h4 => ?_) (fun h4 => ?_)
  · repeat (refine need_intro (by first | exact exact an2 | exact exact an3 | exact fail | exact fun h => h | exact nt | exact an2 | exact an3 | rfl | (simp; done) | fail) ?_)
    refine fin ?_
    rw [raw_eq]; simp [RowV.moves, h1, h2, h3, h4]
  repeat (refine need_intro (by first | exact exact an2 | exact exact an3 | exact fail | exact fun h => h | exact nt | exact an2 | exact an3 | rfl | (simp; done) | fail) ?_)
  refine fin ?_
  simp [RowV.moves, h1, h2, h3, h4]
set_option maxRecDepth 100000 in
theorem modes_spec (r : RowV) : Does TB 97 [.agg r.segs] [] (fun v h' => v = .s (.bool r.moves) ∧ h' = []) := by
  refine fnX_does TB Try.func97 rfl (by decide) (fun O on hO => ?_)
  have fin : ∀ {x : Bool} {b : Blk}, x = r.moves → Anv.Ends 0 (fun v h' => v = .s (.bool r.moves) ∧ h' = []) (.s (.bool x)) [b] := by
    rintro x b rfl
    exact Ends.ro (H := []) rfl rfl rfl
  refine ifB_intro (fun h1 => ?_) (fun h1 => ?_)
  · repeat (refine need_intro (by first | exact exact an2 | exact exact an3 | exact fail | exact fun h => h | exact nt | exact an2 | exact an3 | rfl | (simp; done) | fail) ?_)
    refine fin ?_
    rw [mv_eq]; simp [RowV.moves, h1]
  repeat (refine need_intro (by first | exact exact an2 | exact exact an3 | exact fail | exact fun h => h | exact nt | exact an2 | exact an3 | rfl | (simp; done) | fail) ?_)
  refine ifB_intro (fun h2 => ?_) (fun h2 => ?_)
  · refine ifB_intro (fun h3 => ?_) (fun h3 => absurd (h2.symm.trans h3) (by decide))
    repeat (refine need_intro (by first | exact exact an2 | exact exact an3 | exact fail | exact fun h => h | exact nt | exact an2 | exact an3 | rfl | (simp; done) | fail) ?_)
    refine fin ?_
    simp [RowV.moves, h1, h2]
  refine ifB_intro (fun h3 => ?_) (fun h3 => ?_)
  · repeat (refine need_intro (by first | exact exact an2 | exact exact an3 | exact fail | exact fun h => h | exact nt | exact an2 | exact an3 | rfl | (simp; done) | fail) ?_)
    refine fin ?_
    simp [RowV.moves, h1, h3]
  repeat (refine need_intro (by first | exact exact an2 | exact exact an3 | exact fail | exact fun h => h | exact nt | exact an2 | exact an3 | rfl | (simp; done) | fail) ?_)
  refine ifB_intro (fun h4 => ?_) (fun h4 => ?_)
  · repeat (refine need_intro (by first | exact exact an2 | exact exact an3 | exact fail | exact fun h => h | exact nt | exact an2 | exact an3 | rfl | (simp; done) | fail) ?_)
    refine fin ?_
    rw [raw_eq]; simp [RowV.moves, h1, h2, h3, h4]
  repeat (refine need_intro (by first | exact exact an2 | exact exact an3 | exact fail | exact fun h => h | exact nt | exact an2 | exact an3 | rfl | (simp; done) | fail) ?_)
  refine fin ?_
  simp [RowV.moves, h1, h2, h3, h4]
theorem good_eq (r : RowV) : (r.good = true) = goodP r.kind r.mode r.nextMode r.len r.rd r.mem r.size ((r.pc.toNat : Int).tmod 2) ((r.next.toNat : Int).tmod 2) r.top r.cause.toNat r.tval.toNat r.raw.toNat r.val.toNat r.addr.toNat r.data.toNat := decide_eq_true_eq
theorem wzI {x : Int} (h : -9223372036854775808 ≤ x ∧ x ≤ 9223372036854775807) : (IntKind.u64.wrap x = 0) = (x = 0) := by rw [← pI, wzero h, pI]
theorem wrI (a : B32) : (IntKind.u64.wrap (a.toNat : Int) = 0) = ((a.toNat : Int) = 0) := by rw [← pI, wraw, pI]
set_option maxHeartbeats 4000000 in
set_option maxRecDepth 100000 in
theorem shaped_spec (r : RowV) (ok : r.Ok) : Does TB 96 [.agg r.segs] [] (fun v h' => v = .s (.bool r.good) ∧ h' = []) := by
  refine fnX_does TB Try.func96 rfl (by decide) (fun O on hO => ?_)
  have fin : ∀ {x : Bool} {b : Blk} {J : List Blk}, x = r.good → Anv.Ends 0 (fun v h' => v = .s (.bool r.good) ∧ h' = []) (.s (.bool x)) (b :: J) := by
    rintro x b J rfl
    exact Ends.ro (H := []) rfl rfl rfl
  repeat (refine need_intro (by first | exact fun _ => (by decide) | exact exact an2 | exact exact an3 | exact fail | exact fun h => h | exact nt | exact an2 | exact an3 | rfl | (simp; done) | fail) ?_)
  refine ifB_intro (fun h1 => ?_) (fun h1 => ?_)
  · refine fin ?_
    refine Bool.eq_iff_iff.2 ?_
    rw [show (r.good = true) = goodP r.kind r.mode r.nextMode r.len r.rd r.mem r.size ((r.pc.toNat : Int).tmod 2) ((r.next.toNat : Int).tmod 2) r.top r.cause.toNat r.tval.toNat r.raw.toNat r.val.toNat r.addr.toNat r.data.toNat from decide_eq_true_eq]
    clear fin
    clear on hO
    simp only [RowV.top, goodP, pE, pT, pF, pN, pB, pO, pA, pI, pJ, decide_eq_true_eq, Bool.false_eq_true, iff_false, false_iff, iff_true, true_iff, Bool.true_eq_false] at *
    omega
  have hk : r.kind = 1 ∨ r.kind = 2 ∨ r.kind = 3 ∨ r.kind = 4 ∨ r.kind = 5 := by
    clear fin
    simp only [pE, pT, decide_eq_true_eq] at h1
    omega
  obtain ⟨ol, od, om, oz⟩ := ok
  obtain ⟨st, kd, md, pc, raw, len, cause, tval, rd, val, mem, addr, size, data, nx, nm⟩ := r
  simp only at hk ol od om oz
  rcases hk with rfl | rfl | rfl | rfl | rfl
  all_goals repeat' (first
    | refine need_intro (by first | exact fun h => h | rfl | assumption | exact an2 | exact an3 | (simp; done) | fail) ?_
    | refine ifB_intro (fun _ => ?_) (fun h => absurd ((by assumption : _ = true).symm.trans h) (by decide))
    | refine ifB_intro (fun h => absurd (h.symm.trans (by assumption : _ = false)) (by decide)) (fun _ => ?_)
    | refine ifB_intro (fun h => ?_) (fun h => ?_)
    | refine fin ?_
    | refine Does.atc (empty_spec [cause.toNat, tval.toNat] (by show 2 < 2 ^ 62; decide)) [1] rfl ⟨rfl, trivial⟩ (by decide) ?_
    | refine Does.atc (empty_spec [cause.toNat, tval.toNat] (by show 2 < 2 ^ 62; decide)) [2] rfl ⟨rfl, trivial⟩ (by decide) ?_
    | refine Does.atc (empty_spec [cause.toNat, tval.toNat] (by show 2 < 2 ^ 62; decide)) [3] rfl ⟨rfl, trivial⟩ (by decide) ?_
    | refine Does.atc (empty_spec [cause.toNat, tval.toNat] (by show 2 < 2 ^ 62; decide)) [4] rfl ⟨rfl, trivial⟩ (by decide) ?_
    | refine Does.atc (empty_spec [IntKind.u64.wrap raw.toNat, IntKind.u64.wrap len] (by show 2 < 2 ^ 62; decide)) [1] rfl ⟨rfl, trivial⟩ (by decide) ?_
    | refine Does.atc (empty_spec [IntKind.u64.wrap raw.toNat, IntKind.u64.wrap len] (by show 2 < 2 ^ 62; decide)) [2] rfl ⟨rfl, trivial⟩ (by decide) ?_
    | refine Does.atc (empty_spec [IntKind.u64.wrap raw.toNat, IntKind.u64.wrap len] (by show 2 < 2 ^ 62; decide)) [3] rfl ⟨rfl, trivial⟩ (by decide) ?_
    | refine Does.atc (empty_spec [IntKind.u64.wrap raw.toNat, IntKind.u64.wrap len] (by show 2 < 2 ^ 62; decide)) [4] rfl ⟨rfl, trivial⟩ (by decide) ?_
    | refine Does.atc (empty_spec [IntKind.u64.wrap rd, val.toNat, IntKind.u64.wrap mem, addr.toNat, IntKind.u64.wrap size, data.toNat] (by show 6 < 2 ^ 62; decide)) [1] rfl ⟨rfl, trivial⟩ (by decide) ?_
    | refine Does.atc (empty_spec [IntKind.u64.wrap rd, val.toNat, IntKind.u64.wrap mem, addr.toNat, IntKind.u64.wrap size, data.toNat] (by show 6 < 2 ^ 62; decide)) [2] rfl ⟨rfl, trivial⟩ (by decide) ?_
    | refine Does.atc (empty_spec [IntKind.u64.wrap rd, val.toNat, IntKind.u64.wrap mem, addr.toNat, IntKind.u64.wrap size, data.toNat] (by show 6 < 2 ^ 62; decide)) [3] rfl ⟨rfl, trivial⟩ (by decide) ?_
    | refine Does.atc (empty_spec [IntKind.u64.wrap rd, val.toNat, IntKind.u64.wrap mem, addr.toNat, IntKind.u64.wrap size, data.toNat] (by show 6 < 2 ^ 62; decide)) [4] rfl ⟨rfl, trivial⟩ (by decide) ?_
    | refine Does.atc (empty_spec [addr.toNat, IntKind.u64.wrap size, data.toNat] (by show 3 < 2 ^ 62; decide)) [1] rfl ⟨rfl, trivial⟩ (by decide) ?_
    | refine Does.atc (empty_spec [addr.toNat, IntKind.u64.wrap size, data.toNat] (by show 3 < 2 ^ 62; decide)) [2] rfl ⟨rfl, trivial⟩ (by decide) ?_
    | refine Does.atc (empty_spec [addr.toNat, IntKind.u64.wrap size, data.toNat] (by show 3 < 2 ^ 62; decide)) [3] rfl ⟨rfl, trivial⟩ (by decide) ?_
    | refine Does.atc (empty_spec [addr.toNat, IntKind.u64.wrap size, data.toNat] (by show 3 < 2 ^ 62; decide)) [4] rfl ⟨rfl, trivial⟩ (by decide) ?_)
  all_goals
    refine Bool.eq_iff_iff.2 ?_
    rw [good_eq]
    clear fin
    clear on hO
    simp only [RowV.top, goodP, pE, pT, pF, pN, pB, pO, pA, pI, pJ, decide_eq_true_eq, Bool.false_eq_true, iff_false, false_iff, iff_true, true_iff, Bool.true_eq_false, List.all_cons, List.all_nil, wzI ol, wzI od, wzI om, wzI oz, wrI] at *
    first | omega | (simp at *; done) | (simp at *; omega) | omega
end Go.Proofs.Ytghcdkpgcanpgaa

/- The engine, part 19: contracts over blocks that are only read, used where blocks are the same or overlap; maps of whole numbers whose entries are not told. Plain theorems, no condition. -/
namespace Go.Anv
open Go

/-- Blocks of a larger heap, only read. -/
def viewH (h : List Blk) : List Nat → List Blk → Prop
  | [], [] => True
  | k :: κ, B :: r => (∃ m cs sp, nthB h k = some (.cells m cs sp) ∧ B = .cells false cs sp) ∧ viewH h κ r
  | _, _ => False

theorem viewH_get {h : List Blk} : ∀ {κ : List Nat} {r : List Blk}, viewH h κ r → κ.length = r.length ∧ ∀ (i : Nat) (B : Blk), r[i]? = some B → ∃ k m cs sp, κ[i]? = some k ∧ h[k]? = some (.cells m cs sp) ∧ B = .cells false cs sp
  | [], [], _ => ⟨rfl, fun i B hi => by simp at hi⟩
  | k :: κ, B :: r, hk => by
    obtain ⟨h1, h2⟩ := viewH_get hk.2
    refine ⟨by simp [h1], fun i C hi => ?_⟩
    cases i with
    | zero =>
      simp only [List.getElem?_cons_zero, Option.some.injEq] at hi
      subst hi
      obtain ⟨m, cs, sp, h3, h4⟩ := hk.1
      exact ⟨k, m, cs, sp, by simp, nthB_get h3, h4⟩
    | succ i => simpa using h2 i C (by simpa using hi)
  | [], _ :: _, hk => hk.elim
  | _ :: _, [], hk => hk.elim

/-- **A contract over blocks that may not be written, where they may be the same.** -/
theorem Does.dup {T : Tbl} {f : FuncId} {args : List EV} {hc : List Blk} {X : EV} (c : Does T f args hc (fun v h' => v = X ∧ h' = hc)) (κ : List Nat) {args' : List EV} {h : List Blk} {K : EV → List Blk → Prop}
    (hX : noPtr X = true) (ha : args' = renT (lk κ h.length) args) (hh : viewH h κ (renH (lk κ h.length) hc)) (hK : K X h) : Does T f args' h K := by
  subst ha
  obtain ⟨hl, hget⟩ := viewH_get hh
  rw [length_renH] at hl
  have core : ∀ {E : Emb} {w : World} {vs : List Value}, Sim E h w → denT E (renT (lk κ h.length) args) vs → ∃ Ec, Sim Ec hc w ∧ denT Ec args vs ∧ ∀ e w', Post Ec hc w (fun v h' => v = X ∧ h' = hc) e w' → Post E h w K e w' := by
    intro E w vs S ha
    let ρ := lk κ h.length
    let Ec : Emb := ⟨hc.length, fun i => E.f (ρ i)⟩
    have hblk : ∀ (i : Nat) (B : Blk), hc[i]? = some B → ∃ m cs sp, ρ i < h.length ∧ h[ρ i]? = some (.cells m cs sp) ∧ renB ρ B = .cells false cs sp := fun i B hi => by
      obtain ⟨k, m, cs, sp, h1, h2, h3⟩ := hget i (renB ρ B) (by rw [renH_get, hi]; rfl)
      have hi' : i < κ.length := by have := lt_of_get hi; omega
      have h4 : ρ i = k := by
        show lk κ h.length i = k
        rw [look_lt κ _ i hi']
        rw [List.getElem?_eq_getElem hi'] at h1
        exact Option.some.inj h1
      exact ⟨m, cs, sp, by rw [h4]; exact lt_of_get h2, by rw [h4]; exact h2, h3⟩
    have hfwd : ∀ b, ρ b < E.n → b < Ec.n := fun b hb => by
      rcases Nat.lt_or_ge b κ.length with h1 | h1
      · show b < hc.length; omega
      · have h3 : ρ b = h.length + (b - κ.length) := look_ge κ _ b h1
        have := S.n
        omega
    have hbwd : ∀ b, b < Ec.n → ρ b < E.n ∧ Ec.f b = E.f (ρ b) := fun b hb => by
      obtain ⟨_, _, _, h1, _⟩ := hblk b _ (List.getElem?_eq_getElem hb)
      exact ⟨by rw [S.n]; exact h1, rfl⟩
    have hnm : ∀ (i : Nat) (B : Blk), hc[i]? = some B → B.mut = false := fun i B hi => by
      obtain ⟨m, cs, sp, _, _, h3⟩ := hblk i B hi
      rw [← mut_ren (ρ := ρ) B, h3]
      rfl
    have hno : ∀ b o, ¬ mutAt Ec hc b o := fun b o ⟨i, B, h1, h2, _⟩ => by rw [hnm i B h1] at h2; cases h2
    have Sc : Sim Ec hc w := by
      refine ⟨rfl, fun i B hi => ?_, fun i j A B _ hi _ hA => ?_⟩
      · obtain ⟨m, cs, sp, _, h2, h3⟩ := hblk i B hi
        have hk := S.ok _ _ h2
        refine (okBlk_ren hfwd hbwd B).1 ?_
        rw [h3]
        obtain ⟨k1, k2, _⟩ := hk
        exact ⟨k1, k2, fun h => by cases h⟩
      · rw [hnm i A hi] at hA; cases hA
    refine ⟨Ec, Sc, (denT_ren hfwd hbwd args _).1 ha, ?_⟩
    rintro e w' ⟨v, x, h', E', rfl, hd, S', N', rfl, rfl⟩
    have hk : ∀ b, b < w.heap.size → w'.heap[b]? = w.heap[b]? := fun b hb => N'.frame b hb (fun o => hno b o)
    have S1 : Sim E h w' := S.keep N'.size hk
    refine ⟨v, x, h, E, rfl, noPtr_den x v hX hd, S1, ?_, hK⟩
    exact ⟨Nat.le_refl _, fun _ _ => rfl, N'.size, fun b hb _ => hk b hb, fun b o hb _ => N'.cells b o hb (hno b o), fun b o hm _ => hm, N'.os, N'.tape, N'.output, N'.rows⟩
  refine ⟨?_⟩
  rcases c.go with ⟨h1, h2⟩ | h1
  · refine .inl ⟨h1, fun E w vs S ha => ?_⟩
    obtain ⟨Ec, k1, k2, k3⟩ := core S ha
    exact (h2 Ec w vs k1 k2).mono k3
  · refine .inr fun E w vs S ha => ?_
    obtain ⟨Ec, k1, k2, k3⟩ := core S ha
    obtain ⟨u, w', h2, h3⟩ := h1 Ec w vs k1 k2
    exact ⟨u, w', h2, k3 _ _ h3⟩

/-! ### maps of whole numbers -/

def ents (L : List (Int × Int)) : List (SV × EV) := L.map fun p => (.int .i64 p.1, .s (.int .i64 p.2))

def assoc (r : Int) : List (Int × Int) → Option Int
  | [] => none
  | p :: L => if r == p.1 then some p.2 else assoc r L

theorem lookK_ints (r : Int) : ∀ (L : List (Int × Int)) {k : Option EV → Prop}, k ((assoc r L).map fun p => .s (.int .i64 p)) → lookK (.int .i64 r) (ents L) k
  | [], _, h => h
  | p :: L, k, h => by
    show ifB (r == p.1) (k (some (.s (.int .i64 p.2)))) (lookK (.int .i64 r) (ents L) k)
    refine ifB_intro (fun e => ?_) (fun e => ?_)
    · unfold assoc at h
      rw [if_pos e] at h
      exact h
    · unfold assoc at h
      rw [e, if_neg (by decide)] at h
      exact lookK_ints r L h

theorem putM_ints (r p : Int) : ∀ (L : List (Int × Int)) {k : List (SV × EV) → Prop}, assoc r L = none → k (ents (L ++ [(r, p)])) → putM (.int .i64 r) (.s (.int .i64 p)) (ents L) k
  | [], _, _, h => h
  | q :: L, k, hn, h => by
    show ifB (r == q.1) (k ((.int .i64 r, .s (.int .i64 p)) :: ents L)) (putM (.int .i64 r) (.s (.int .i64 p)) (ents L) fun r' => k ((.int .i64 q.1, .s (.int .i64 q.2)) :: r'))
    unfold assoc at hn
    refine ifB_intro (fun e => ?_) (fun e => ?_)
    · rw [if_pos e] at hn; cases hn
    · rw [e, if_neg (by decide)] at hn
      exact putM_ints r p L hn h
end Go.Anv

/- Watching: a row among others: which rules it breaks. The map of the rules that were broken holds a list of pairs. -/
namespace Go.Anv
open Go
/-- The rule's first place. -/
def putN (r p : Int) (L : List (Int × Int)) : List (Int × Int) := match assoc r L with
  | none => L ++ [(r, p)]
  | some _ => L
/-- What api.Trace is: rows, cpu, off, code, output. -/
def tsegs (x : SV) (c : CpuV) (off code : Int) (y : SV) : List Seg := .one x :: (c.segs ++ [.one (.int .i64 off), .one (.int .i64 code), .one y])
/-- Which rule a row breaks: 1, 2, 4. -/
def bad1 (r : RowV) (i : Nat) : Bool := r.step != (i : Int) + 1
def bad2 (r q : RowV) (i : Nat) : Bool := bif decide ((i : Int) > 0) then bif (r.pc.toNat : Int) != (q.next.toNat : Int) then true else r.mode != q.nextMode else false
def bad4 (r : RowV) (off : Bool) : Bool := bif off then bif bif r.kind != 5 then true else (r.next.toNat : Int) != (r.pc.toNat : Int) then true else r.nextMode != r.mode else false
def put1 (b : Bool) (k : Int) (i : Nat) (L : List (Int × Int)) : List (Int × Int) := bif b then putN k i L else L
/-- What is written of a row. -/
def rowN0 (r q : RowV) (i : Nat) (off : Bool) (L : List (Int × Int)) : List (Int × Int) :=
  put1 (!r.moves) 5 i (put1 (bad4 r off) 4 i (put1 (!r.good) 3 i (put1 (bad2 r q i) 2 i (put1 (bad1 r i) 1 i L))))
def rowsB (m : Bool) (n : Nat) (f : Nat → RowV) (sp : Nat) : Blk := .recs m n 16 (fun i => (f i).svs) sp
/-- A trace as it was handed in. -/
structure TrV where
  n : Nat
  f : Nat → RowV
  c : CpuV
  off : Int
  code : Int
  no : Nat
  out : Nat → B8
def TrV.rowN (t : TrV) (i : Nat) (off : Bool) (L : List (Int × Int)) : List (Int × Int) := rowN0 (t.f i) (t.f (i - 1)) i off L
def TrV.walk (t : TrV) (cn co : Nat) (mr : Bool) (sr : Nat) (mo : Bool) (so : Nat) (L : List (Int × Int)) : List Blk :=
  [rowsB mr t.n t.f sr, bblk mo t.no t.out so, .cells true (tsegs (.gs 0 0 t.n cn) t.c t.off t.code (.gs 1 0 t.no co) ++ [.one (.map 3)]) 0, .map (ents L)]
end Go.Anv
namespace Go.Proofs.Ytghcdkpgcanpgaa
open Go Go.Anv
set_option maxRecDepth 100000 in
theorem broken_spec (t : TrV) (cn co sr so : Nat) (mr mo : Bool) (L : List (Int × Int)) (r p : Int) :
    Does TB 67 [.s (.ptr 2 0), .s (.int .i64 r), .s (.int .i64 p)] (t.walk cn co mr sr mo so L) (fun v h' => v = .tuple [] ∧ h' = t.walk cn co mr sr mo so (putN r p L)) := by
  refine fnX_does TB Try.func67 rfl (by decide) (fun O on hO => ?_)
  refine lookK_ints r L ?_
  cases e : assoc r L with
  | none =>
    have he : putN r p L = L ++ [(r, p)] := by unfold putN; rw [e]
    rw [he]
    refine putM_ints r p L e ?_
    exact Ends.same (h := t.walk cn co mr sr mo so (L ++ [(r, p)])) ⟨rfl, rfl⟩ (Nat.le_refl 4)
  | some q =>
    have he : putN r p L = L := by unfold putN; rw [e]
    rw [he]
    exact Ends.same (h := t.walk cn co mr sr mo so L) ⟨rfl, rfl⟩ (Nat.le_refl 4)
theorem ren_ents (ρ : Nat → Nat) : ∀ L : List (Int × Int), renM ρ (ents L) = ents L
  | [] => rfl
  | p :: L => by
    show (_, _) :: renM ρ (ents L) = _
    rw [ren_ents ρ L]; rfl
theorem broken_k (t : TrV) (cn co sr so : Nat) (mr mo : Bool) (L : List (Int × Int)) (r p : Int) (J : List Blk) {K : EV → List Blk → Prop} (hk : K (.tuple []) (t.walk cn co mr sr mo so (putN r p L) ++ J)) :
    Does TB 67 [.s (.ptr 2 0), .s (.int .i64 r), .s (.int .i64 p)] (t.walk cn co mr sr mo so L ++ J) K := by
  refine Does.at (broken_spec t cn co sr so mr mo L r p) [0, 1, 2, 3] rfl ⟨rfl, rfl, rfl, ?_, trivial⟩ (by decide) ?_ ?_
  · show some (Blk.map (ents L)) = some (Blk.map (renM _ (ents L)))
    rw [ren_ents]
  · rintro v h' ⟨_, rfl⟩
    exact ⟨.inr (.inr rfl), .inr (.inr rfl), .inl rfl, .inl rfl, trivial⟩
  · rintro v h' ⟨rfl, rfl⟩
    rw [forceH_eq, forceE_eq]
    show K (.tuple []) (_ :: _ :: _ :: Blk.map (renM _ (ents (putN r p L))) :: (J ++ []))
    rw [ren_ents, List.append_nil]
    exact hk
theorem row_end (t : TrV) (cn co sr so : Nat) (mr mo : Bool) (M L : List (Int × Int)) (J : List Blk) (e : M = L) :
    Anv.Ends 4 (fun v h' => v = .tuple [] ∧ h' = t.walk cn co mr sr mo so M) (.tuple []) (t.walk cn co mr sr mo so L ++ J) := by
  subst e
  refine Ends.ro (H := t.walk cn co mr sr mo so M) (J := J) rfl (eqvE_refl (.tuple [])) ?_
  show _ :: _ :: _ :: Blk.map (renM _ (ents M)) :: [] = _
  rw [ren_ents]; rfl
set_option maxHeartbeats 4000000 in
set_option maxRecDepth 100000 in
theorem row_spec (t : TrV) (cn co sr so : Nat) (mr mo : Bool) (L : List (Int × Int)) (i : Nat) (off : Bool) (hi : i < t.n) (hn : t.n ≤ 2 ^ 47) (ok : (t.f i).Ok) :
    Does TB 66 [.s (.ptr 2 0), .s (.int .i64 i), .s (.bool off)] (t.walk cn co mr sr mo so L) (fun v h' => v = .tuple [] ∧ h' = t.walk cn co mr sr mo so (t.rowN i off L)) := by
  have w1 : 0 < i → IntKind.i64.wrap ((i : Int) - 1) = (i : Int) - 1 := fun h => i64_in (by omega) (by omega)
  have w2 : IntKind.i64.wrap ((i : Int) + 1) = (i : Int) + 1 := i64_in (by omega) (by omega)
  have n1 : decide ((i : Int) > 0) = true → 0 ≤ IntKind.i64.wrap ((i : Int) - 1) ∧ IntKind.i64.wrap ((i : Int) - 1) < (t.n : Int) := fun h => by
    have h := of_decide_eq_true h
    rw [w1 (by omega)]; omega
  have n2 : decide ((i : Int) > 0) = true → (IntKind.i64.wrap ((i : Int) - 1)).toNat < t.n := fun h => by
    have h := of_decide_eq_true h
    rw [w1 (by omega)]; omega
  have an1 : ∀ {a b : Bool}, (a && b) = true → a = true := fun {a b} h => by cases a <;> simp at h <;> rfl
  have ix : decide ((i : Int) > 0) = true → (IntKind.i64.wrap ((i : Int) - 1)).toNat = i - 1 := fun h => by
    have h := of_decide_eq_true h
    rw [w1 (by omega)]; omega
  have k1 : ((t.f i).step != IntKind.i64.wrap ((i : Int) + 1)) = bad1 (t.f i) i := by rw [w2]; rfl
  have k2 : (bif decide ((i : Int) > 0) then bif ((t.f i).pc.toNat : Int) != ((t.f (IntKind.i64.wrap ((i : Int) - 1)).toNat).next.toNat : Int) then true else (t.f i).mode != (t.f (IntKind.i64.wrap ((i : Int) - 1)).toNat).nextMode else false) = bad2 (t.f i) (t.f (i - 1)) i := by
    unfold bad2
    cases hd : decide ((i : Int) > 0)
    · rfl
    · rw [ix hd]
  refine fnX_does TB Try.func66 rfl (by decide) (fun O on hO => ?_)
  repeat (refine need_intro (by first | omega | (exact ⟨by omega, by omega⟩) | exact fun h => h | exact nt | exact an2 | exact an3 | rfl | (simp; done) | fail) ?_)
  refine ifB_intro (fun h1 => ?_) (fun h1 => ?_)
  refine broken_k t cn co sr so mr mo _ _ _ [_] ?_
  all_goals
    refine draw_held on rfl (fun _ _ h => h) ?_
    repeat' (first
      | refine need_intro (by first | exact fun h => h | exact nt | exact an2 | exact an3 | rfl | (simp; done) | fail) ?_
      | refine need_intro (by first | exact n1 | exact n2 | exact fun h => n1 (an1 h) | exact fun h => n2 (an1 h) | fail) ?_
      | refine And.intro ?_ ?_
      | exact n1
      | exact n2
      | exact fun h => n1 (an1 h)
      | exact fun h => n2 (an1 h))
    refine ifB_intro (fun h2 => ?_) (fun h2 => ?_)
    refine broken_k t cn co sr so mr mo _ _ _ [_] ?_
    all_goals
      refine Does.atc (shaped_spec (t.f i) ok) [] rfl trivial (by decide) ?_
      refine ifB_intro (fun h3 => ?_) (fun h3 => ?_)
      refine broken_k t cn co sr so mr mo _ _ _ [_] ?_
      all_goals
        repeat (refine need_intro (by first | exact an2 | exact an3 | exact fun h => h | exact nt | exact an2 | exact an3 | rfl | (simp; done) | fail) ?_)
        refine ifB_intro (fun h4 => ?_) (fun h4 => ?_)
        refine broken_k t cn co sr so mr mo _ _ _ [_] ?_
        all_goals
          refine Does.atc (modes_spec (t.f i)) [] rfl trivial (by decide) ?_
          refine ifB_intro (fun h5 => ?_) (fun h5 => ?_)
          refine broken_k t cn co sr so mr mo _ _ _ [_] ?_
          all_goals
            refine row_end t cn co sr so mr mo _ _ [_] ?_
            simp only [TrV.rowN, rowN0, put1, k1.symm.trans h1, k2.symm.trans h2, h3, (show bad4 (t.f i) off = _ from h4), h5, cond_true, cond_false]
end Go.Proofs.Ytghcdkpgcanpgaa

/- Watching: the program's Trace. -/
namespace Go.Anv
open Go
def offN (t : TrV) : Nat → Bool
  | 0 => false
  | k + 1 => offN t k || ((t.f k).kind == 5)
def listN (t : TrV) : Nat → List (Int × Int)
  | 0 => []
  | k + 1 => t.rowN k (offN t k) (listN t k)
def bad6 (t : TrV) : Bool := bif ((t.f (t.n - 1)).next.toNat : Int) != (t.c.proper.pc.toNat : Int) then true else (t.f (t.n - 1)).nextMode != t.c.proper.mode
def TrV.seen (t : TrV) : List (Int × Int) := put1 (bif decide ((t.n : Int) > 0) then bad6 t else false) 6 t.n (listN t t.n)
/-- The lowest of the rules r, r + 1 .. that is there. -/
def lowF (L : List (Int × Int)) : Nat → Int → Int × Int
  | 0, _ => (0, 0)
  | n + 1, r => match assoc r L with
    | some p => (r, p)
    | none => lowF L n (r + 1)
def TrV.heap (t : TrV) (cn co : Nat) (mr : Bool) (sr : Nat) (mo : Bool) (so : Nat) (L : List (Int × Int)) : List Blk :=
  [rowsB mr t.n t.f sr, bblk mo t.no t.out so, .cells true (tsegs (.gs 0 0 t.n cn) t.c t.off t.code (.gs 1 0 t.no co)) 0, .map (ents L), .cells true (tsegs (.gs 0 0 t.n cn) t.c t.off t.code (.gs 1 0 t.no co) ++ [.one (.map 3)]) 0]
end Go.Anv
namespace Go.Proofs.Ytghcdkpgcanpgaa
open Go Go.Anv
theorem row_k (t : TrV) (cn co sr so : Nat) (mr mo : Bool) (L : List (Int × Int)) (i : Nat) (off : Bool) (hi : i < t.n) (hn : t.n ≤ 2 ^ 47) (ok : (t.f i).Ok) (J : List Blk) {K : EV → List Blk → Prop} (hk : K (.tuple []) (t.heap cn co mr sr mo so (t.rowN i off L) ++ J)) :
    Does TB 66 [.s (.ptr 4 0), .s (.int .i64 i), .s (.bool off)] (t.heap cn co mr sr mo so L ++ J) K := by
  refine Does.at (row_spec t cn co sr so mr mo L i off hi hn ok) [0, 1, 4, 3] rfl ⟨rfl, rfl, rfl, ?_, trivial⟩ (by decide) ?_ ?_
  · show some (Blk.map (ents L)) = some (Blk.map (renM _ (ents L)))
    rw [ren_ents]
  · rintro v h' ⟨_, rfl⟩
    exact ⟨.inr (.inr rfl), .inr (.inr rfl), .inl rfl, .inl rfl, trivial⟩
  · rintro v h' ⟨rfl, rfl⟩
    rw [forceH_eq, forceE_eq]
    show K (.tuple []) (_ :: _ :: _ :: Blk.map (renM _ (ents (t.rowN i off L))) :: _ :: (J ++ []))
    rw [ren_ents, List.append_nil]
    exact hk
theorem broke_k (t : TrV) (cn co sr so : Nat) (mr mo : Bool) (L : List (Int × Int)) (r p : Int) (J : List Blk) {K : EV → List Blk → Prop} (hk : K (.tuple []) (t.heap cn co mr sr mo so (putN r p L) ++ J)) :
    Does TB 67 [.s (.ptr 4 0), .s (.int .i64 r), .s (.int .i64 p)] (t.heap cn co mr sr mo so L ++ J) K := by
  refine Does.at (broken_spec t cn co sr so mr mo L r p) [0, 1, 4, 3] rfl ⟨rfl, rfl, rfl, ?_, trivial⟩ (by decide) ?_ ?_
  · show some (Blk.map (ents L)) = some (Blk.map (renM _ (ents L)))
    rw [ren_ents]
  · rintro v h' ⟨_, rfl⟩
    exact ⟨.inr (.inr rfl), .inr (.inr rfl), .inl rfl, .inl rfl, trivial⟩
  · rintro v h' ⟨rfl, rfl⟩
    rw [forceH_eq, forceE_eq]
    show K (.tuple []) (_ :: _ :: _ :: Blk.map (renM _ (ents (putN r p L))) :: _ :: (J ++ []))
    rw [ren_ents, List.append_nil]
    exact hk
set_option maxHeartbeats 4000000 in
set_option maxRecDepth 100000 in
theorem trace_spec (t : TrV) (cn co sr so : Nat) (mr mo : Bool) (hn : t.n ≤ 2 ^ 47) (ok : ∀ i, i < t.n → (t.f i).Ok) :
    Does TB 30 [.agg (tsegs (.gs 0 0 t.n cn) t.c t.off t.code (.gs 1 0 t.no co))] [rowsB mr t.n t.f sr, bblk mo t.no t.out so]
      (fun v h' => v = .tuple [.s (.int .i64 (lowF t.seen 6 1).1), .s (.int .i64 (lowF t.seen 6 1).2)] ∧ h' = [rowsB mr t.n t.f sr, bblk mo t.no t.out so]) := by
  refine fnXB_does TB Try.func30 rfl (by decide) (fun O on hO => ?_)
  intro O' on' hO' hle
  refine loop_in (A := Nat) on' (fun k => [(25, .s (.int .i64 (k : Int))), (5, .s (.bool (offN t k)))]) (fun k => t.heap cn co mr sr mo so (listN t k)) (fun k => k ≤ t.n) (fun k => t.n - k) 0 (Nat.zero_le _) [0, 1, 2, 3, 4] ?_ ?_
  · rw [hO']
    refine ⟨by decide, ⟨rfl, rfl, rfl, rfl, rfl, trivial⟩, ?_, ?_⟩
    · repeat' (first | exact eqvT_nil | refine eqvT_junk ?_ | refine eqvT_same ?_ | refine eqvT_int ?_ ?_ | refine eqvT_gs ⟨rfl, rfl, rfl, rfl⟩ ?_)
    · exact ⟨⟨_, rfl, eqvB_refl _⟩, ⟨_, rfl, eqvB_refl _⟩, ⟨_, rfl, eqvB_refl _⟩, ⟨_, rfl, eqvB_refl _⟩, ⟨_, rfl, eqvB_refl _⟩, trivial⟩
  intro k hk
  refine ifB_intro (fun h1 => ?_) (fun h1 => ?_)
  · have hk1 : k < t.n := by have := of_decide_eq_true h1; omega
    repeat (refine need_intro (by first | omega | (exact ⟨by omega, by omega⟩) | exact fun h => h | exact nt | exact an2 | exact an3 | rfl | (simp; done) | fail) ?_)
    refine row_k t cn co sr so mr mo _ k _ hk1 hn (ok k hk1) [_] ?_
    repeat (refine need_intro (by first | exact an2 | exact an3 | exact fun h => h | exact nt | exact an2 | exact an3 | rfl | (simp; done) | fail) ?_)
    refine ⟨k + 1, hk1, by show t.n - (k + 1) < t.n - k; omega, [0, 1, 2, 3, 4], ?_⟩
    rw [hO']
    refine ⟨by decide, ⟨rfl, rfl, rfl, rfl, rfl, trivial⟩, ?_, ?_⟩
    · repeat' (first | exact eqvT_nil | refine eqvT_junk ?_ | refine eqvT_same ?_ | refine eqvT_int ?_ ?_ | refine eqvT_gs ⟨rfl, rfl, rfl, rfl⟩ ?_)
      · rw [i64_in (by omega) (by omega)]; rfl
    · refine ⟨⟨_, rfl, eqvB_refl _⟩, ⟨_, rfl, eqvB_refl _⟩, ⟨_, rfl, eqvB_refl _⟩, ⟨_, rfl, ?_⟩, ⟨_, rfl, eqvB_refl _⟩, trivial⟩
      show eqvB (Blk.map (ents (t.rowN k (offN t k) (listN t k)))) (Blk.map (renM _ (ents (listN t (k + 1)))))
      rw [ren_ents]; exact eqvB_refl _
  have hk1 : k = t.n := by have := of_decide_eq_false h1; omega
  subst hk1
  have fin : ∀ {a b : Int} {J : List Blk}, lowF t.seen 6 1 = (a, b) → Anv.Ends 2 (fun v h' => v = .tuple [.s (.int .i64 (lowF t.seen 6 1).1), .s (.int .i64 (lowF t.seen 6 1).2)] ∧ h' = [rowsB mr t.n t.f sr, bblk mo t.no t.out so]) (.tuple [.s (.int .i64 a), .s (.int .i64 b)]) ([rowsB mr t.n t.f sr, bblk mo t.no t.out so] ++ J) := by
    intro a b J e
    rw [e]
    exact Ends.ro (H := [rowsB mr t.n t.f sr, bblk mo t.no t.out so]) (J := J) rfl (eqvE_refl _) rfl
  have hz : IntKind.i64.wrap ((t.n : Int) - 1) = (t.n : Int) - 1 := i64_in (by omega) (by omega)
  have k3 : (bif ((t.f (IntKind.i64.wrap ((t.n : Int) - 1)).toNat).next.toNat : Int) != (t.c.proper.pc.toNat : Int) then true else (t.f (IntKind.i64.wrap ((t.n : Int) - 1)).toNat).nextMode != t.c.proper.mode) = bad6 t := by
    rw [hz, show ((t.n : Int) - 1).toNat = t.n - 1 by omega]; rfl
  refine ifB_intro (fun h2 => ?_) (fun h2 => ?_)
  · have h2' := of_decide_eq_true h2
    refine (proper_spec t.c _).mono ?_
    rintro v h' ⟨rfl, rfl⟩
    repeat (refine need_intro (by first | (rw [hz]; omega) | omega | exact an2 | exact an3 | exact fun h => h | exact nt | exact an2 | exact an3 | rfl | (simp; done) | fail) ?_)
    refine ifB_intro (fun h3 => ?_) (fun h3 => ?_)
    · have hs : t.seen = putN 6 t.n (listN t t.n) := by
        unfold TrV.seen; rw [h2, k3.symm.trans h3]; rfl
      refine broke_k t cn co sr so mr mo _ _ _ [_, _] ?_

      refine loop_in (A := Nat) on' (fun k => [(11, .s (.int .i64 ((k : Int) + 1))), (9, .junk), (10, .junk), (55, .junk), (57, .junk), (61, .junk), (63, .junk)]) (fun _ => t.heap cn co mr sr mo so t.seen) (fun k => k ≤ 6 ∧ lowF t.seen 6 1 = lowF t.seen (6 - k) ((k : Int) + 1)) (fun k => 6 - k) 0 ⟨Nat.zero_le _, rfl⟩ [0, 1, 2, 3, 4] ?_ ?_
      · rw [hO']
        refine ⟨by decide, ⟨rfl, rfl, rfl, rfl, rfl, trivial⟩, ?_, ?_⟩
        · repeat' (first | exact eqvT_nil | refine eqvT_junk ?_ | refine eqvT_same ?_ | refine eqvT_int ?_ ?_ | refine eqvT_gs ⟨rfl, rfl, rfl, rfl⟩ ?_)

        · refine ⟨⟨_, rfl, eqvB_refl _⟩, ⟨_, rfl, eqvB_refl _⟩, ⟨_, rfl, eqvB_refl _⟩, ⟨_, rfl, ?_⟩, ⟨_, rfl, eqvB_refl _⟩, trivial⟩
          refine Eq.mp (congrArg (fun x => eqvB x (Blk.map (renM _ (ents t.seen)))) (congrArg (fun L => Blk.map (ents L)) hs)) ?_
          rw [ren_ents]; exact eqvB_refl _
      intro k ⟨hk, hl⟩
      refine ifB_intro (fun h1 => ?_) (fun h1 => ?_)
      · have h1' := of_decide_eq_true h1
        refine lookK_ints ((k : Int) + 1) t.seen ?_
        obtain ⟨m, hm⟩ : ∃ m, 6 - k = m + 1 := ⟨5 - k, by omega⟩
        cases e : assoc ((k : Int) + 1) t.seen with
        | none =>
          refine ⟨k + 1, ⟨by omega, ?_⟩, by show 6 - (k + 1) < 6 - k; omega, [0, 1, 2, 3, 4], ?_⟩
          · rw [hl, hm]
            simp only [lowF, e]
            rw [show 6 - (k + 1) = m by omega]; rfl
          rw [hO']
          refine ⟨by decide, ⟨rfl, rfl, rfl, rfl, rfl, trivial⟩, ?_, ?_⟩
          · repeat' (first | exact eqvT_nil | refine eqvT_junk ?_ | refine eqvT_same ?_ | refine eqvT_int ?_ ?_ | refine eqvT_gs ⟨rfl, rfl, rfl, rfl⟩ ?_)
            rw [i64_in (by omega) (by omega)]; rfl
          · refine ⟨⟨_, rfl, eqvB_refl _⟩, ⟨_, rfl, eqvB_refl _⟩, ⟨_, rfl, eqvB_refl _⟩, ⟨_, rfl, ?_⟩, ⟨_, rfl, eqvB_refl _⟩, trivial⟩
            show eqvB (Blk.map (ents t.seen)) (Blk.map (renM _ (ents t.seen)))
            rw [ren_ents]; exact eqvB_refl _
        | some q =>
          refine fin (J := [_, _, _]) ?_
          rw [hl, hm]
          simp only [lowF, e]
      · have h1' := of_decide_eq_false h1
        refine fin (J := [_, _, _]) ?_
        rw [hl, show 6 - k = 0 by omega]; rfl
    · have hs : t.seen = listN t t.n := by
        unfold TrV.seen; rw [h2, k3.symm.trans h3]; rfl

      refine loop_in (A := Nat) on' (fun k => [(11, .s (.int .i64 ((k : Int) + 1))), (9, .junk), (10, .junk), (55, .junk), (57, .junk), (61, .junk), (63, .junk)]) (fun _ => t.heap cn co mr sr mo so t.seen) (fun k => k ≤ 6 ∧ lowF t.seen 6 1 = lowF t.seen (6 - k) ((k : Int) + 1)) (fun k => 6 - k) 0 ⟨Nat.zero_le _, rfl⟩ [0, 1, 2, 3, 4] ?_ ?_
      · rw [hO']
        refine ⟨by decide, ⟨rfl, rfl, rfl, rfl, rfl, trivial⟩, ?_, ?_⟩
        · repeat' (first | exact eqvT_nil | refine eqvT_junk ?_ | refine eqvT_same ?_ | refine eqvT_int ?_ ?_ | refine eqvT_gs ⟨rfl, rfl, rfl, rfl⟩ ?_)

        · refine ⟨⟨_, rfl, eqvB_refl _⟩, ⟨_, rfl, eqvB_refl _⟩, ⟨_, rfl, eqvB_refl _⟩, ⟨_, rfl, ?_⟩, ⟨_, rfl, eqvB_refl _⟩, trivial⟩
          refine Eq.mp (congrArg (fun x => eqvB x (Blk.map (renM _ (ents t.seen)))) (congrArg (fun L => Blk.map (ents L)) hs)) ?_
          rw [ren_ents]; exact eqvB_refl _
      intro k ⟨hk, hl⟩
      refine ifB_intro (fun h1 => ?_) (fun h1 => ?_)
      · have h1' := of_decide_eq_true h1
        refine lookK_ints ((k : Int) + 1) t.seen ?_
        obtain ⟨m, hm⟩ : ∃ m, 6 - k = m + 1 := ⟨5 - k, by omega⟩
        cases e : assoc ((k : Int) + 1) t.seen with
        | none =>
          refine ⟨k + 1, ⟨by omega, ?_⟩, by show 6 - (k + 1) < 6 - k; omega, [0, 1, 2, 3, 4], ?_⟩
          · rw [hl, hm]
            simp only [lowF, e]
            rw [show 6 - (k + 1) = m by omega]; rfl
          rw [hO']
          refine ⟨by decide, ⟨rfl, rfl, rfl, rfl, rfl, trivial⟩, ?_, ?_⟩
          · repeat' (first | exact eqvT_nil | refine eqvT_junk ?_ | refine eqvT_same ?_ | refine eqvT_int ?_ ?_ | refine eqvT_gs ⟨rfl, rfl, rfl, rfl⟩ ?_)
            rw [i64_in (by omega) (by omega)]; rfl
          · refine ⟨⟨_, rfl, eqvB_refl _⟩, ⟨_, rfl, eqvB_refl _⟩, ⟨_, rfl, eqvB_refl _⟩, ⟨_, rfl, ?_⟩, ⟨_, rfl, eqvB_refl _⟩, trivial⟩
            show eqvB (Blk.map (ents t.seen)) (Blk.map (renM _ (ents t.seen)))
            rw [ren_ents]; exact eqvB_refl _
        | some q =>
          refine fin (J := [_, _, _]) ?_
          rw [hl, hm]
          simp only [lowF, e]
      · have h1' := of_decide_eq_false h1
        refine fin (J := [_, _, _]) ?_
        rw [hl, show 6 - k = 0 by omega]; rfl
  · have hs : t.seen = listN t t.n := by
      unfold TrV.seen; rw [h2]; rfl

    refine loop_in (A := Nat) on' (fun k => [(11, .s (.int .i64 ((k : Int) + 1))), (9, .junk), (10, .junk), (55, .junk), (57, .junk), (61, .junk), (63, .junk)]) (fun _ => t.heap cn co mr sr mo so t.seen) (fun k => k ≤ 6 ∧ lowF t.seen 6 1 = lowF t.seen (6 - k) ((k : Int) + 1)) (fun k => 6 - k) 0 ⟨Nat.zero_le _, rfl⟩ [0, 1, 2, 3, 4] ?_ ?_
    · rw [hO']
      refine ⟨by decide, ⟨rfl, rfl, rfl, rfl, rfl, trivial⟩, ?_, ?_⟩
      · repeat' (first | exact eqvT_nil | refine eqvT_junk ?_ | refine eqvT_same ?_ | refine eqvT_int ?_ ?_ | refine eqvT_gs ⟨rfl, rfl, rfl, rfl⟩ ?_)

      · refine ⟨⟨_, rfl, eqvB_refl _⟩, ⟨_, rfl, eqvB_refl _⟩, ⟨_, rfl, eqvB_refl _⟩, ⟨_, rfl, ?_⟩, ⟨_, rfl, eqvB_refl _⟩, trivial⟩
        refine Eq.mp (congrArg (fun x => eqvB x (Blk.map (renM _ (ents t.seen)))) (congrArg (fun L => Blk.map (ents L)) hs)) ?_
        rw [ren_ents]; exact eqvB_refl _
    intro k ⟨hk, hl⟩
    refine ifB_intro (fun h1 => ?_) (fun h1 => ?_)
    · have h1' := of_decide_eq_true h1
      refine lookK_ints ((k : Int) + 1) t.seen ?_
      obtain ⟨m, hm⟩ : ∃ m, 6 - k = m + 1 := ⟨5 - k, by omega⟩
      cases e : assoc ((k : Int) + 1) t.seen with
      | none =>
        refine ⟨k + 1, ⟨by omega, ?_⟩, by show 6 - (k + 1) < 6 - k; omega, [0, 1, 2, 3, 4], ?_⟩
        · rw [hl, hm]
          simp only [lowF, e]
          rw [show 6 - (k + 1) = m by omega]; rfl
        rw [hO']
        refine ⟨by decide, ⟨rfl, rfl, rfl, rfl, rfl, trivial⟩, ?_, ?_⟩
        · repeat' (first | exact eqvT_nil | refine eqvT_junk ?_ | refine eqvT_same ?_ | refine eqvT_int ?_ ?_ | refine eqvT_gs ⟨rfl, rfl, rfl, rfl⟩ ?_)
          rw [i64_in (by omega) (by omega)]; rfl
        · refine ⟨⟨_, rfl, eqvB_refl _⟩, ⟨_, rfl, eqvB_refl _⟩, ⟨_, rfl, eqvB_refl _⟩, ⟨_, rfl, ?_⟩, ⟨_, rfl, eqvB_refl _⟩, trivial⟩
          show eqvB (Blk.map (ents t.seen)) (Blk.map (renM _ (ents t.seen)))
          rw [ren_ents]; exact eqvB_refl _
      | some q =>
        refine fin (J := [_, _, _]) ?_
        rw [hl, hm]
        simp only [lowF, e]
    · have h1' := of_decide_eq_false h1
      refine fin (J := [_, _, _]) ?_
      rw [hl, show 6 - k = 0 by omega]; rfl
end Go.Proofs.Ytghcdkpgcanpgaa

/- Watching: what the laws try first, whatever is handed in. -/
namespace Go.Anv
open Go
def stillC : CpuV := ⟨2147483648#64, fun _ => 0#64, 0, false, 8589934592#64, 0#64, 0#64, 0#64, 0#64, 0#64, 0#64, 0#64, 0#64, 0#64, 0#64, 0#64, fun _ => 0#8, fun _ => 0#64, false, 0#64, 0⟩
def stillB : BusV := ⟨8, 0#32, 9#64, 0#64, false, false, 0#8, 0#8, 0#8, 0#8, false, 0, 0, 0, 0⟩
def stillL : Lists := ⟨true, 0, fun _ => 0#8, true, 0, fun _ => 0#8, true, 0, fun _ => 0#8⟩
def bC : CpuV := { stillC with cfg := fun j => if j = 0 then 31#8 else 0#8, addr := fun j => if j = 0 then 18014398509481983#64 else 0#64 }
def aC : CpuV := { bC with pc := 2147483652#64, mcycle := 1#64, minstret := 1#64, x := fun j => if j = 5 then 7#64 else 0#64 }
def aD : CpuV := { aC with x := fun j => if j = 6 then 1#64 else if j = 5 then 7#64 else 0#64 }
def oneR : RowV := ⟨1, 1, 0, 2147483648#64, 19#32, 4, 0#64, 0#64, 5, 7#64, 0, 0#64, 0, 0#64, 2147483652#64, 0⟩
def stillF : Lists := ⟨false, 0, fun _ => 0#8, false, 0, fun _ => 0#8, false, 0, fun _ => 0#8⟩
def sixL : Lists := { stillL with ram := fun j => if j = 3 then 1#8 else 0#8 }
def zeroC : CpuV := { stillC with pc := 0#64, mstatus := 0#64 }
def twoR : RowV := ⟨2, 0, 0, 0#64, 0#32, 0, 0#64, 0#64, 0, 0#64, 0, 0#64, 0, 0#64, 0#64, 0⟩
def oneT : TrV := ⟨1, fun _ => twoR, zeroC, 0, 0, 0, fun _ => 0#8⟩
theorem twoR_ok : twoR.Ok := by
  constructor <;> (show (-9223372036854775808 : Int) ≤ 0 ∧ (0 : Int) ≤ 9223372036854775807) <;> decide
theorem one_low : lowF oneT.seen 6 1 = (1, 0) := by decide +kernel
def firstZ (d : CpuV) (k : Lists) : Sc := ⟨bC, d, d, stillB, stillB, stillL, k, false, false, false, 0, true, 0, fun _ => 0#8, oneR, 8, 0, 0, 8, 0, 0, 0⟩
end Go.Anv
namespace Go.Proofs.Ytghcdkpgcanpgaa
open Go Go.Anv
set_option maxRecDepth 100000 in
theorem still_spec : Does TB 64 [] [] (fun v h' => v = .agg (wsegs stillC stillB (.gs 0 0 8 8) .nilslice .nilslice) ∧ h' = [bblk true 8 (fun _ => 0#8) 0]) := by
  refine fnX_does TB Try.func64 rfl (by decide) (fun O on hO => ?_)
  repeat (refine need_intro (by first | exact an2 | exact an3 | exact fun h => h | exact nt | exact an2 | exact an3 | rfl | (simp; done) | fail) ?_)
  refine draw_but [0] on rfl (fun _ _ h => h) ?_
  repeat (refine need_intro (by first | exact an2 | exact an3 | (exact ⟨by decide, by decide, by decide, by decide⟩) | exact fun h => h | exact nt | exact an2 | exact an3 | rfl | (simp; done) | fail) ?_)
  refine ⟨_, _, [2], ⟨rfl, rfl⟩, by decide, trivial, ?_, ⟨⟨_, rfl, ⟨rfl, rfl, ⟨⟨rfl, rfl, fun j _ => rfl⟩, trivial⟩⟩⟩, trivial⟩⟩
  show eqvS _ _
  repeat' (first | exact eqvS_nil | refine eqvS_same ?_ | refine eqvS_gs ⟨rfl, rfl, rfl, rfl⟩ ?_ | refine eqvS_ints (fun j _ => rfl) ?_)
theorem still_g : Does TB 64 [] [] (fun v h' => v = .agg (wsegs stillC stillB (.gs 0 0 8 8) (.gs 1 0 0 0) (.gs 2 0 0 0)) ∧ h' = stillL.blks stillB) :=
  Does.ghR .u8 (bfun fun _ => 0#8) (Does.ghR .u8 (bfun fun _ => 0#8) still_spec)
theorem first_0 : (firstZ aC stillL).made.step = 0 := by decide +kernel
theorem first_4 : (firstZ aD stillL).made.step = 4 := by decide +kernel
theorem first_6 : (firstZ aC sixL).made.step = 6 := by decide +kernel
theorem firstZ_ok (d : CpuV) (k : Lists) : (firstZ d k).Ok := by
  refine ⟨?_, ?_, ?_, ?_, ?_, ?_, ?_, ?_, ?_, ?_, ?_, ?_, ?_⟩ <;> first | exact Nat.le_refl _ | exact Nat.zero_le _ | (show 8 ≤ 140737488355328; decide) | (show (-9223372036854775808 : Int) ≤ 0 ∧ (0 : Int) ≤ 9223372036854775807; decide)
theorem agr_aa : agreeS aC aC stillB stillB stillF stillF = true := by decide +kernel
theorem agr_ab : agreeS aC bC stillB stillB stillL stillL = false := by decide +kernel
theorem agr_aa_spec : Does TB 25 [.agg (wsegs aC stillB (.gs 0 0 8 8) (.gs 1 0 0 0) (.gs 2 0 0 0)), .agg (wsegs aC stillB (.gs 3 0 8 8) (.gs 4 0 0 0) (.gs 5 0 0 0))] (stillF.blks stillB ++ stillF.blks stillB) (fun v h' => v = .s (.bool true) ∧ h' = stillF.blks stillB ++ stillF.blks stillB) := by
  have e := agree_spec aC aC stillB stillB stillF stillF 8 0 0 8 0 0 (by decide)
  rw [agr_aa] at e
  exact e
theorem agr_ab_spec : Does TB 25 [.agg (wsegs aC stillB (.gs 0 0 8 8) (.gs 1 0 0 0) (.gs 2 0 0 0)), .agg (wsegs bC stillB (.gs 3 0 8 8) (.gs 4 0 0 0) (.gs 5 0 0 0))] (stillL.blks stillB ++ stillL.blks stillB) (fun v h' => v = .s (.bool false) ∧ h' = stillL.blks stillB ++ stillL.blks stillB) := by
  have e := agree_spec aC bC stillB stillB stillL stillL 8 0 0 8 0 0 (by decide)
  rw [agr_ab] at e
  exact e
/-- A Step of the first ones, as it is called. -/
theorem step_k0 (d : CpuV) (k : Lists) (n : Int) (hn : (firstZ d k).made.step = n) {a1 a2 a4 : EV} {B C R : Blk} {K : EV → List Blk → Prop}
    (h1 : eqvE a1 (.agg (wsegs bC stillB (.gs 0 0 8 8) (.gs 1 0 0 0) (.gs 2 0 0 0)))) (h2 : eqvE a2 (.agg (wsegs d stillB (.gs 4 0 8 8) (.gs 5 0 0 0) (.gs 6 0 0 0)))) (h4 : eqvE a4 (.agg oneR.segs))
    (hk : K (.s (.int .i64 n)) (stillL.blks stillB ++ [B] ++ k.blks stillB ++ [C, R, .cells true [.ints .u8 0 (bfun fun _ => 0#8)] 0])) :
    Does TB 65 [a1, a2, .agg [.one (.bool false), .one (.bool false), .one (.bool false), .one .nilslice], a4] (stillL.blks stillB ++ [B] ++ k.blks stillB ++ [C, R]) K := by
  have e := step_spec (firstZ d k) (firstZ_ok d k)
  rw [hn] at e
  refine Does.args (b := [.agg (wsegs bC stillB (.gs 0 0 8 8) (.gs 1 0 0 0) (.gs 2 0 0 0)), .agg (wsegs d stillB (.gs 4 0 8 8) (.gs 5 0 0 0) (.gs 6 0 0 0)), .agg [.one (.bool false), .one (.bool false), .one (.bool false), .one .nilslice], .agg oneR.segs]) ⟨h1, h2, eqvE_refl _, h4, trivial⟩ ?_
  refine Does.ghA .u8 (bfun fun _ => 0#8) 2 ?_
  refine Does.atc e [0, 1, 2, 4, 5, 6, 9] rfl ⟨rfl, rfl, rfl, rfl, rfl, rfl, rfl, trivial⟩ (by decide) ?_
  exact hk
/-- A Step of the first ones, as it is called. -/
theorem step_k1 (d : CpuV) (k : Lists) (n : Int) (hn : (firstZ d k).made.step = n) {a1 a2 a4 : EV} {B C R : Blk} {G0 : Blk} {K : EV → List Blk → Prop}
    (h1 : eqvE a1 (.agg (wsegs bC stillB (.gs 0 0 8 8) (.gs 1 0 0 0) (.gs 2 0 0 0)))) (h2 : eqvE a2 (.agg (wsegs d stillB (.gs 4 0 8 8) (.gs 5 0 0 0) (.gs 6 0 0 0)))) (h4 : eqvE a4 (.agg oneR.segs))
    (hk : K (.s (.int .i64 n)) (stillL.blks stillB ++ [B] ++ k.blks stillB ++ [C, R, G0, .cells true [.ints .u8 0 (bfun fun _ => 0#8)] 0])) :
    Does TB 65 [a1, a2, .agg [.one (.bool false), .one (.bool false), .one (.bool false), .one .nilslice], a4] (stillL.blks stillB ++ [B] ++ k.blks stillB ++ [C, R, G0]) K := by
  have e := step_spec (firstZ d k) (firstZ_ok d k)
  rw [hn] at e
  refine Does.args (b := [.agg (wsegs bC stillB (.gs 0 0 8 8) (.gs 1 0 0 0) (.gs 2 0 0 0)), .agg (wsegs d stillB (.gs 4 0 8 8) (.gs 5 0 0 0) (.gs 6 0 0 0)), .agg [.one (.bool false), .one (.bool false), .one (.bool false), .one .nilslice], .agg oneR.segs]) ⟨h1, h2, eqvE_refl _, h4, trivial⟩ ?_
  refine Does.ghA .u8 (bfun fun _ => 0#8) 2 ?_
  refine Does.atc e [0, 1, 2, 4, 5, 6, 10] rfl ⟨rfl, rfl, rfl, rfl, rfl, rfl, rfl, trivial⟩ (by decide) ?_
  exact hk
/-- A Step of the first ones, as it is called. -/
theorem step_k2 (d : CpuV) (k : Lists) (n : Int) (hn : (firstZ d k).made.step = n) {a1 a2 a4 : EV} {B C R : Blk} {G0 G1 : Blk} {K : EV → List Blk → Prop}
    (h1 : eqvE a1 (.agg (wsegs bC stillB (.gs 0 0 8 8) (.gs 1 0 0 0) (.gs 2 0 0 0)))) (h2 : eqvE a2 (.agg (wsegs d stillB (.gs 4 0 8 8) (.gs 5 0 0 0) (.gs 6 0 0 0)))) (h4 : eqvE a4 (.agg oneR.segs))
    (hk : K (.s (.int .i64 n)) (stillL.blks stillB ++ [B] ++ k.blks stillB ++ [C, R, G0, G1, .cells true [.ints .u8 0 (bfun fun _ => 0#8)] 0])) :
    Does TB 65 [a1, a2, .agg [.one (.bool false), .one (.bool false), .one (.bool false), .one .nilslice], a4] (stillL.blks stillB ++ [B] ++ k.blks stillB ++ [C, R, G0, G1]) K := by
  have e := step_spec (firstZ d k) (firstZ_ok d k)
  rw [hn] at e
  refine Does.args (b := [.agg (wsegs bC stillB (.gs 0 0 8 8) (.gs 1 0 0 0) (.gs 2 0 0 0)), .agg (wsegs d stillB (.gs 4 0 8 8) (.gs 5 0 0 0) (.gs 6 0 0 0)), .agg [.one (.bool false), .one (.bool false), .one (.bool false), .one .nilslice], .agg oneR.segs]) ⟨h1, h2, eqvE_refl _, h4, trivial⟩ ?_
  refine Does.ghA .u8 (bfun fun _ => 0#8) 2 ?_
  refine Does.atc e [0, 1, 2, 4, 5, 6, 11] rfl ⟨rfl, rfl, rfl, rfl, rfl, rfl, rfl, trivial⟩ (by decide) ?_
  exact hk
theorem i3 (j : Nat) : (if j = 3 then (1 : Int) else 0) = bfun sixL.ram j := by
  show _ = ((if j = 3 then 1#8 else 0#8 : B8).toNat : Int)
  split <;> rfl
theorem six_eq (r : List Blk) : eqvH (.cells true [.ints .u8 8 (fun j => if j = 3 then 1 else 0)] 0 :: r) (bblk true 8 sixL.ram 0 :: r) :=
  ⟨⟨rfl, rfl, ⟨⟨rfl, rfl, fun j _ => i3 j⟩, trivial⟩⟩, eqvH_refl _⟩
theorem two_eq (r : List Blk) : eqvH (.cells true (twoR.svs.map .one) 0 :: r) (rowsB true 1 (fun _ => twoR) 0 :: r) := by
  exact ⟨⟨rfl, rfl, fun i _ => rfl, eqvS_refl _⟩, eqvH_refl _⟩
theorem trace1_spec : Does TB 30 [.agg (tsegs (.gs 0 0 1 1) zeroC 0 0 (.gs 1 0 0 0))] [rowsB true 1 (fun _ => twoR) 0, bblk true 0 (fun _ => 0#8) 0] (fun v h' => v = .tuple [.s (.int .i64 1), .s (.int .i64 0)] ∧ h' = [rowsB true 1 (fun _ => twoR) 0, bblk true 0 (fun _ => 0#8) 0]) := by
  have e := trace_spec oneT 1 0 0 0 true true (by decide) (fun i _ => twoR_ok)
  rw [one_low] at e
  exact e
theorem i5 (j : Nat) : (if j = 5 then (7 : Int) else 0) = wfun aC.x j := by
  show _ = ((if j = 5 then 7#64 else 0#64 : B64).toNat : Int)
  split <;> rfl
theorem iC (j : Nat) : (if j = 0 then (31 : Int) else 0) = bfun bC.cfg j := by
  show _ = ((if j = 0 then 31#8 else 0#8 : B8).toNat : Int)
  split <;> rfl
theorem iA (j : Nat) : (if j = 0 then (18014398509481983 : Int) else 0) = wfun bC.addr j := by
  show _ = ((if j = 0 then 18014398509481983#64 else 0#64 : B64).toNat : Int)
  split <;> rfl
theorem i6 (j : Nat) : (if j = 6 then (1 : Int) else if j = 5 then 7 else 0) = wfun aD.x j := by
  show _ = ((if j = 6 then 1#64 else if j = 5 then 7#64 else 0#64 : B64).toNat : Int)
  split
  · rfl
  · split <;> rfl
theorem i0 (j : Nat) : (if j = 6 then (0 : Int) else if j = 6 then (1 : Int) else if j = 5 then 7 else 0) = wfun aC.x j := by
  show _ = ((if j = 5 then 7#64 else 0#64 : B64).toNat : Int)
  by_cases h : j = 6
  · subst h; rfl
  · rw [if_neg h, if_neg h]
    split <;> rfl
set_option maxRecDepth 100000 in
theorem firstW_spec : Does TB 28 [] [] (fun v h' => v = .s (.bool true) ∧ h' = []) := by
  refine fnX_does TB Try.func28 rfl (by decide) (fun O on hO => ?_)
  refine Does.at still_g [] rfl trivial (by decide) ?_ ?_
  · rintro v h' ⟨_, rfl⟩
    exact ⟨.inl rfl, .inl rfl, .inl rfl, trivial⟩
  rintro v h' ⟨rfl, rfl⟩
  repeat (refine need_intro (by first | exact an2 | exact an3 | exact fun h => h | exact nt | exact an2 | exact an3 | rfl | (simp; done) | fail) ?_)
  refine Does.at still_g [] rfl trivial (by decide) ?_ ?_
  · rintro v h' ⟨_, rfl⟩
    exact ⟨.inl rfl, .inl rfl, .inl rfl, trivial⟩
  rintro v h' ⟨rfl, rfl⟩
  repeat (refine need_intro (by first | exact an2 | exact an3 | exact fun h => h | exact nt | exact an2 | exact an3 | rfl | (simp; done) | fail) ?_)
  refine step_k0 aC stillL 0 first_0 ?_ ?_ ?_ ?_
  · show eqvS _ _
    repeat' (first | exact eqvS_nil | refine eqvS_same ?_ | refine eqvS_gs ⟨rfl, rfl, rfl, rfl⟩ ?_ | refine eqvS_ints (fun j _ => by first | rfl | exact i5 j | exact iC j | exact iA j | exact i6 j | exact i0 j) ?_)
  · show eqvS _ _
    repeat' (first | exact eqvS_nil | refine eqvS_same ?_ | refine eqvS_gs ⟨rfl, rfl, rfl, rfl⟩ ?_ | refine eqvS_ints (fun j _ => by first | rfl | exact i5 j | exact iC j | exact iA j | exact i6 j | exact i0 j) ?_)
  · show eqvS _ _
    repeat' (first | exact eqvS_nil | refine eqvS_same ?_ | refine eqvS_gs ⟨rfl, rfl, rfl, rfl⟩ ?_ | refine eqvS_ints (fun j _ => by first | rfl | exact i5 j | exact iC j | exact iA j | exact i6 j | exact i0 j) ?_)
  refine Does.ungd (b := [.agg _, .agg _]) ⟨⟨rfl, rfl⟩, ⟨rfl, rfl⟩, trivial⟩ ?_
  refine Does.args (b := [.agg (wsegs aC stillB (.gs 4 0 8 8) (.gs 5 0 0 0) (.gs 6 0 0 0)), .agg (wsegs aC stillB (.gs 4 0 8 8) (.gs 5 0 0 0) (.gs 6 0 0 0))]) ⟨?_, ?_, trivial⟩ ?_
  · show eqvS _ _
    repeat' (first | exact eqvS_nil | refine eqvS_same ?_ | refine eqvS_gs ⟨rfl, rfl, rfl, rfl⟩ ?_ | refine eqvS_ints (fun j _ => by first | rfl | exact i5 j | exact iC j | exact iA j | exact i6 j | exact i0 j) ?_)
  · show eqvS _ _
    repeat' (first | exact eqvS_nil | refine eqvS_same ?_ | refine eqvS_gs ⟨rfl, rfl, rfl, rfl⟩ ?_ | refine eqvS_ints (fun j _ => by first | rfl | exact i5 j | exact iC j | exact iA j | exact i6 j | exact i0 j) ?_)
  refine Does.dup agr_aa_spec [4, 5, 6, 4, 5, 6] rfl rfl ⟨⟨_, _, _, rfl, rfl⟩, ⟨_, _, _, rfl, rfl⟩, ⟨_, _, _, rfl, rfl⟩, ⟨_, _, _, rfl, rfl⟩, ⟨_, _, _, rfl, rfl⟩, ⟨_, _, _, rfl, rfl⟩, trivial⟩ ?_
  repeat (refine need_intro (by first | exact an2 | exact an3 | exact fun h => h | exact nt | exact an2 | exact an3 | rfl | (simp; done) | fail) ?_)
  refine Does.ungd (b := [.agg _, .agg _]) ⟨⟨rfl, rfl⟩, ⟨rfl, rfl⟩, trivial⟩ ?_
  refine Does.args (b := [.agg (wsegs aC stillB (.gs 4 0 8 8) (.gs 5 0 0 0) (.gs 6 0 0 0)), .agg (wsegs bC stillB (.gs 0 0 8 8) (.gs 1 0 0 0) (.gs 2 0 0 0))]) ⟨?_, ?_, trivial⟩ ?_
  · show eqvS _ _
    repeat' (first | exact eqvS_nil | refine eqvS_same ?_ | refine eqvS_gs ⟨rfl, rfl, rfl, rfl⟩ ?_ | refine eqvS_ints (fun j _ => by first | rfl | exact i5 j | exact iC j | exact iA j | exact i6 j | exact i0 j) ?_)
  · show eqvS _ _
    repeat' (first | exact eqvS_nil | refine eqvS_same ?_ | refine eqvS_gs ⟨rfl, rfl, rfl, rfl⟩ ?_ | refine eqvS_ints (fun j _ => by first | rfl | exact i5 j | exact iC j | exact iA j | exact i6 j | exact i0 j) ?_)
  refine Does.atc (agr_ab_spec) [4, 5, 6, 0, 1, 2] rfl ⟨rfl, rfl, rfl, rfl, rfl, rfl, trivial⟩ (by decide) ?_
  repeat (refine need_intro (by first | exact an2 | exact an3 | exact fun h => h | exact nt | exact an2 | exact an3 | rfl | (simp; done) | fail) ?_)
  refine step_k1 aD stillL 4 first_4 ?_ ?_ ?_ ?_
  · show eqvS _ _
    repeat' (first | exact eqvS_nil | refine eqvS_same ?_ | refine eqvS_gs ⟨rfl, rfl, rfl, rfl⟩ ?_ | refine eqvS_ints (fun j _ => by first | rfl | exact i5 j | exact iC j | exact iA j | exact i6 j | exact i0 j) ?_)
  · show eqvS _ _
    repeat' (first | exact eqvS_nil | refine eqvS_same ?_ | refine eqvS_gs ⟨rfl, rfl, rfl, rfl⟩ ?_ | refine eqvS_ints (fun j _ => by first | rfl | exact i5 j | exact iC j | exact iA j | exact i6 j | exact i0 j) ?_)
  · show eqvS _ _
    repeat' (first | exact eqvS_nil | refine eqvS_same ?_ | refine eqvS_gs ⟨rfl, rfl, rfl, rfl⟩ ?_ | refine eqvS_ints (fun j _ => by first | rfl | exact i5 j | exact iC j | exact iA j | exact i6 j | exact i0 j) ?_)
  repeat (refine need_intro (by first | exact an2 | exact an3 | (show (3 : Nat) < 8; decide) | exact fun h => h | exact nt | exact an2 | exact an3 | rfl | (simp; done) | fail) ?_)
  refine Does.heq (eqvH_same (eqvH_same (eqvH_same (eqvH_same (six_eq _))))) ?_
  refine step_k2 aC sixL 6 first_6 ?_ ?_ ?_ ?_
  · show eqvS _ _
    repeat' (first | exact eqvS_nil | refine eqvS_same ?_ | refine eqvS_gs ⟨rfl, rfl, rfl, rfl⟩ ?_ | refine eqvS_ints (fun j _ => by first | rfl | exact i5 j | exact iC j | exact iA j | exact i6 j | exact i0 j) ?_)
  · show eqvS _ _
    repeat' (first | exact eqvS_nil | refine eqvS_same ?_ | refine eqvS_gs ⟨rfl, rfl, rfl, rfl⟩ ?_ | refine eqvS_ints (fun j _ => by first | rfl | exact i5 j | exact iC j | exact iA j | exact i6 j | exact i0 j) ?_)
  · show eqvS _ _
    repeat' (first | exact eqvS_nil | refine eqvS_same ?_ | refine eqvS_gs ⟨rfl, rfl, rfl, rfl⟩ ?_ | refine eqvS_ints (fun j _ => by first | rfl | exact i5 j | exact iC j | exact iA j | exact i6 j | exact i0 j) ?_)
  repeat (refine need_intro (by first | exact an2 | exact an3 | exact fun h => h | exact nt | exact an2 | exact an3 | rfl | (simp; done) | fail) ?_)
  refine Does.args (b := [.agg (tsegs (.gs 12 0 1 1) zeroC 0 0 .nilslice)]) ⟨?_, trivial⟩ ?_
  · show eqvS _ _
    repeat' (first | exact eqvS_nil | refine eqvS_same ?_ | refine eqvS_gs ⟨rfl, rfl, rfl, rfl⟩ ?_ | refine eqvS_ints (fun j _ => by first | rfl | exact i5 j | exact iC j | exact iA j | exact i6 j | exact i0 j) ?_)
  refine Does.heq (eqvH_same (eqvH_same (eqvH_same (eqvH_same (eqvH_same (eqvH_same (eqvH_same (eqvH_same (eqvH_same (eqvH_same (eqvH_same (eqvH_same (two_eq _))))))))))))) ?_
  refine Does.ghA .u8 (bfun fun _ => 0#8) 0 ?_
  refine Does.atc trace1_spec [12, 13] rfl ⟨rfl, rfl, trivial⟩ (by decide) ?_
  repeat (refine need_intro (by first | exact an2 | exact an3 | exact fun h => h | exact nt | exact an2 | exact an3 | rfl | (simp; done) | fail) ?_)
  exact Ends.ro (H := []) rfl rfl rfl
end Go.Proofs.Ytghcdkpgcanpgaa

/- The engine, part 14: the arguments of a statement: from what they read as to a small world. Plain theorems; their condition: what the program's table says of the types. -/
namespace Go.Anv
open Go

/-- What a cell of an argument, or a run of cells, is. -/
inductive FK where
  | int (k : IntKind)
  | bool
  | arr (k : IntKind) (n : Nat)
  | sl (k : IntKind)

def sizeF : List FK → Nat
  | [] => 0
  | .int _ :: r => sizeF r + 1
  | .bool :: r => sizeF r + 1
  | .arr _ n :: r => n + sizeF r
  | .sl _ :: r => sizeF r + 1

theorem sizeF_append : ∀ a b : List FK, sizeF (a ++ b) = sizeF a + sizeF b
  | [], b => by simp [sizeF]
  | .int _ :: r, b => by simp only [List.cons_append, sizeF, sizeF_append r b]; omega
  | .bool :: r, b => by simp only [List.cons_append, sizeF, sizeF_append r b]; omega
  | .arr _ _ :: r, b => by simp only [List.cons_append, sizeF, sizeF_append r b]; omega
  | .sl _ :: r, b => by simp only [List.cons_append, sizeF, sizeF_append r b]; omega

/-- A slice of whole numbers as it came in. -/
def slIn (W : World) (k : IntKind) (a : Option Addr) (len cap : Nat) (f : Nat → Int) : Prop :=
  len ≤ 140737488351232 ∧ ((a = none ∧ len = 0 ∧ cap = 0) ∨ ∃ b o, a = some ⟨b, o, none⟩ ∧ b < W.heap.size ∧ len ≤ cap ∧ ∀ j, j < len → W.cell? ⟨b, o + j, none⟩ = some (.int k (f j)) ∧ (Lit.int k (f j)).wf = true)

def fitF (W : World) : List FK → List Value → Prop
  | [], l => l = []
  | .int k :: r, l => ∃ a l', l = .int k a :: l' ∧ (Lit.int k a).wf = true ∧ fitF W r l'
  | .bool :: r, l => ∃ b l', l = .bool b :: l' ∧ fitF W r l'
  | .arr k n :: r, l => ∃ f l', l = intsOf k n f ++ l' ∧ (∀ j, j < n → (Lit.int k (f j)).wf = true) ∧ fitF W r l'
  | .sl k :: r, l => ∃ a len cap f l', l = .slice a len cap :: l' ∧ slIn W k a len cap f ∧ fitF W r l'

theorem fitF_length {W : World} : ∀ {ks : List FK} {l : List Value}, fitF W ks l → l.length = sizeF ks
  | [], _, h => by simp only [fitF] at h; subst h; rfl
  | .int _ :: r, _, h => by simp only [fitF] at h; obtain ⟨a, l', rfl, _, h⟩ := h; simp [sizeF, fitF_length h]
  | .bool :: r, _, h => by simp only [fitF] at h; obtain ⟨a, l', rfl, h⟩ := h; simp [sizeF, fitF_length h]
  | .arr _ _ :: r, _, h => by simp only [fitF] at h; obtain ⟨a, l', rfl, _, h⟩ := h; simp [sizeF, fitF_length h, length_intsOf]
  | .sl _ :: r, _, h => by simp only [fitF] at h; obtain ⟨a, len, cap, f, l', rfl, _, h⟩ := h; simp [sizeF, fitF_length h]

theorem fitF_append {W : World} : ∀ {a b : List FK} {x y : List Value}, fitF W a x → fitF W b y → fitF W (a ++ b) (x ++ y)
  | [], b, x, y, h, h' => by simp only [fitF] at h; subst h; exact h'
  | .int k :: r, b, x, y, h, h' => by simp only [fitF] at h; obtain ⟨a, l', rfl, h1, h⟩ := h; exact ⟨a, l' ++ y, rfl, h1, fitF_append h h'⟩
  | .bool :: r, b, x, y, h, h' => by simp only [fitF] at h; obtain ⟨a, l', rfl, h⟩ := h; exact ⟨a, l' ++ y, rfl, fitF_append h h'⟩
  | .arr k n :: r, b, x, y, h, h' => by simp only [fitF] at h; obtain ⟨a, l', rfl, h1, h⟩ := h; exact ⟨a, l' ++ y, by simp, h1, fitF_append h h'⟩
  | .sl k :: r, b, x, y, h, h' => by simp only [fitF] at h; obtain ⟨a, len, cap, f, l', rfl, h1, h⟩ := h; exact ⟨a, len, cap, f, l' ++ y, rfl, h1, fitF_append h h'⟩

/-- The fields of a struct, one behind the other. -/
def FFn (P : Program) (R : TypeId → List FK → Prop) : Nat → List Field → List FK → Prop
  | _, [], ks => ks = []
  | o, f :: fs, ks => ∃ k1 k2, ks = k1 ++ k2 ∧ f.offset = o ∧ P.cellsOf f.type = sizeF k1 ∧ R f.type k1 ∧ FFn P R (o + sizeF k1) fs k2

/-- A type of whole numbers, truth values, arrays and slices of whole numbers. -/
def FTn (P : Program) : Nat → TypeId → List FK → Prop
  | 0, _, _ => False
  | n + 1, t, ks => (∃ k, P.underlying t = some (.int k) ∧ ks = [.int k]) ∨ (P.underlying t = some .bool ∧ ks = [.bool]) ∨
      (∃ m e k, P.underlying t = some (.array m e) ∧ P.underlying e = some (.int k) ∧ P.cellsOf e = 1 ∧ P.cellsOf t = m ∧ ks = [.arr k m]) ∨
      (∃ e k, P.underlying t = some (.slice e) ∧ P.underlying e = some (.int k) ∧ P.cellsOf e = 1 ∧ 1 ≤ P.bytesOf e ∧ ks = [.sl k]) ∨
      (∃ fs, P.underlying t = some (.struct fs) ∧ P.cellsOf t = sizeF ks ∧ FFn P (FTn P n) 0 fs.toList ks)

/-- A slice's place is in the heap. -/
def placed (W : World) (v : Value) : Prop := ∀ a l c, v = .slice (some a) l c → a.spot = none ∧ a.block < W.heap.size

theorem placed_of_okWide {P : Program} {W : World} {r : Reach} {base : Nat} {u : TypeId} {v : Value} (h : Cell.okWide P W r base u v) : placed W v := by
  rintro a l c rfl
  have h' : Cell.ok P W r base u (.slice (some a) l c) := by
    unfold Cell.okWide at h
    split at h <;> first
      | exact h
      | (rename_i h1 h2; cases h2)
  unfold Cell.ok at h'
  obtain ⟨e, _, _, hhas⟩ : ∃ e, l ≤ c ∧ (c : Int) ≤ IntKind.i64.max ∧ W.has P r base a e c := by
    cases hu : P.underlying u with
    | none => rw [hu] at h'; exact h'.elim
    | some d =>
      rw [hu] at h'
      cases d <;> first
        | exact h'.elim
        | exact ⟨_, h'⟩
  obtain ⟨_, hs, row, cells, hsh, _⟩ := hhas
  refine ⟨hs, ?_⟩
  rcases Nat.lt_or_ge a.block W.heap.size with hlt | hge
  · exact hlt
  · simp [World.shape?, Array.getElem?_eq_none hge] at hsh

theorem FTn.opens {H : Type} {enc : TypeId × Value → H} {P : Program} {W : World} {base : Nat} {held : Bool} : ∀ (n : Nat) {t : TypeId} {ks : List FK}, FTn P n t ks → ∀ {fuel : Nat} {cs : List Value} {x : DataW H × List MemPlace},
    DataW.trod enc P W base (fun _ => true) held fuel t cs = some x → (∀ v ∈ cs, placed W v) → (∀ m ∈ x.1.weights P t, m ≤ reachBytes) → fitF W ks cs
  | 0, _, _, h, _, _, _, _, _, _ => h.elim
  | n + 1, t, ks, h, fuel, cs, x, hx, hp, hw => by
    rcases h with ⟨k, h, rfl⟩ | ⟨h, rfl⟩ | ⟨m, e, k, h, h1, h2, h3, rfl⟩ | ⟨e, k, h, h1, h2, h3, rfl⟩ | ⟨fs, h, h1, h2⟩
    · obtain ⟨a, rfl, _, hwf⟩ := DataW.trod_int h hx
      exact ⟨a, [], rfl, hwf, rfl⟩
    · obtain ⟨a, rfl, _⟩ := DataW.trod_bool h hx
      exact ⟨a, [], rfl, rfl⟩
    · obtain ⟨xs, m', _, _, hl, hxl, hel⟩ := DataW.trod_array h hx
      have each : ∀ i, i < m → ∃ a, cs[i]? = some (.int k a) ∧ (Lit.int k a).wf = true := fun i hi => by
        have h4 := hel i hi
        rw [h2, Nat.mul_one] at h4
        have h5 : xs[i]? = some xs[i] := List.getElem?_eq_getElem (by omega)
        rw [h5] at h4
        obtain ⟨a, h6, _, hwf⟩ := DataW.trod_int h1 h4
        refine ⟨a, ?_, hwf⟩
        have h7 := congrArg (·[0]?) h6
        simpa using h7
      refine ⟨fun i => match cs[i]? with | some (.int _ a) => a | _ => 0, [], ?_, fun j hj => ?_, rfl⟩
      · rw [List.append_nil]
        apply List.ext_getElem?
        intro i
        rcases Nat.lt_or_ge i m with hi | hi
        · obtain ⟨a, h4, _⟩ := each i hi
          rw [intsOf_get hi, h4]
        · rw [List.getElem?_eq_none (by omega), List.getElem?_eq_none (by rw [length_intsOf]; exact hi)]
      · obtain ⟨a, h4, hwf⟩ := each j hj
        simp only [h4]
        exact hwf
    · rcases ChangeShapes.open_ints h h1 h2 hx with ⟨rfl, _⟩ | ⟨a, l, c, zs, rfl, _, hl, hm, hz, rfl, hcell, hwz⟩
      · exact ⟨none, 0, 0, fun _ => 0, [], rfl, ⟨by omega, .inl ⟨rfl, rfl, rfl⟩⟩, rfl⟩
      · have hz : zs.length = c := by simpa using hz
        obtain ⟨hs, hb⟩ := hp _ List.mem_cons_self a l c rfl
        have hwt := hw ((l + (c - l)) * P.bytesOf e) (by simp [DataW.weights, h, ChangeShapes.lits, hz, hl])
        have hr : reachBytes = 140737488351232 := by decide
        have hle : l + (c - l) ≤ (l + (c - l)) * P.bytesOf e := Nat.le_mul_of_pos_right _ h3
        refine ⟨some a, l, c, fun j => zs.getD j 0, [], rfl, ⟨by omega, .inr ⟨a.block, a.off, ?_, hb, hl, fun j hj => ⟨?_, ?_⟩⟩⟩, rfl⟩
        · cases a; simp only at hs; subst hs; rfl
        · have := hcell j (by omega)
          unfold Addr.add at this
          split at this
          · rename_i h0
            subst h0
            cases a
            simp only at hs
            subst hs
            exact this
          · exact this
        · refine hwz _ ?_
          show zs.getD j 0 ∈ zs
          rw [List.getD_eq_getElem?_getD, List.getElem?_eq_getElem (by omega)]
          exact List.getElem_mem _
    · obtain ⟨xs, m', _, rfl, hl, hxl, hel⟩ := DataW.trod_struct h hx
      have key : ∀ (fl : List Field) (j o : Nat) (ks : List FK), FFn P (FTn P n) o fl ks → (∀ i f, fl[i]? = some f → fs.toList[j + i]? = some f) → o + sizeF ks ≤ cs.length → fitF W ks ((cs.drop o).take (sizeF ks)) := by
        intro fl
        induction fl with
        | nil =>
          intro j o ks hf _ _
          simp only [FFn] at hf
          subst hf
          simp [fitF, sizeF]
        | cons f fl ih =>
          intro j o ks hf hget hlen
          simp only [FFn] at hf
          obtain ⟨k1, k2, rfl, ho, hc, ht, hf⟩ := hf
          have hsz := sizeF_append k1 k2
          rw [hsz] at hlen ⊢
          have hj : fs[j]? = some f := by
            have := hget 0 f rfl
            rwa [Nat.add_zero, Array.getElem?_toList] at this
          have hjl : j < xs.length := by
            rw [hxl]
            rcases Nat.lt_or_ge j fs.size with h' | h'
            · exact h'
            · rw [Array.getElem?_eq_none h'] at hj; cases hj
          have h4 := hel j f hj
          rw [ho, hc, List.getElem?_eq_getElem hjl] at h4
          have h5 := FTn.opens n ht h4 (fun v hv => hp v (List.mem_of_mem_drop (List.mem_of_mem_take hv))) (fun m hm => hw m (by
            simp only [DataW.weights, h]
            refine DataW.weights_mem_each (j := j) (t := f.type) (d := (xs[j]).1) ?_ ?_ m hm
            · simp [hj]
            · simp [hjl]))
          have h6 := ih (j + 1) (o + sizeF k1) k2 hf (fun i f' hi => by
            have := hget (i + 1) f' (by simpa using hi)
            rwa [show j + (i + 1) = j + 1 + i by omega] at this) (by omega)
          have h7 := fitF_append h5 h6
          have h8 : (cs.drop o).take (sizeF k1) ++ (cs.drop (o + sizeF k1)).take (sizeF k2) = (cs.drop o).take (sizeF k1 + sizeF k2) := by
            rw [List.take_add, List.drop_drop]
          rwa [h8] at h7
      have h4 := key fs.toList 0 0 ks h2 (fun i f hi => by simpa using hi) (by rw [hl, h1]; omega)
      rw [List.drop_zero, List.take_of_length_le (by rw [hl, h1]; omega)] at h4
      exact h4

theorem struct_placed {P : Program} {W : World} {r : Reach} {base : Nat} {t : TypeId} {fs : Array Field} {v : Value} (ht : P.underlying t = some (.struct fs)) (h : Value.okWide P W r base t v) : ∃ cs, v = .agg cs ∧ ∀ x ∈ cs.toList, placed W x := by
  unfold Value.okWide at h
  rw [ht] at h
  obtain ⟨cs, rfl, _, ts, _, _, hrow⟩ := h
  refine ⟨cs, rfl, fun x hx => ?_⟩
  obtain ⟨i, hi⟩ := List.getElem?_of_mem hx
  obtain ⟨u, _, hu⟩ := hrow i x (by simpa using hi)
  exact placed_of_okWide hu

end Go.Anv

/- A whole as an argument: its plain values, its lists in three blocks. No condition. -/
namespace Go.Anv
open Go
theorem wf8 {n : Int} (h : (Lit.int .u8 n).wf = true) : n = ((BitVec.ofInt 8 n).toNat : Int) := by
  have h0 : 0 ≤ n ∧ n ≤ 255 := by
    simp only [Lit.wf, Bool.and_eq_true, decide_eq_true_eq] at h
    exact h
  rw [BitVec.toNat_ofInt]
  omega
theorem wf32 {n : Int} (h : (Lit.int .u32 n).wf = true) : n = ((BitVec.ofInt 32 n).toNat : Int) := by
  have h0 : 0 ≤ n ∧ n ≤ 4294967295 := by
    simp only [Lit.wf, Bool.and_eq_true, decide_eq_true_eq] at h
    exact h
  rw [BitVec.toNat_ofInt]
  omega
theorem wf64 {n : Int} (h : (Lit.int .u64 n).wf = true) : n = ((BitVec.ofInt 64 n).toNat : Int) := by
  have h0 : 0 ≤ n ∧ n ≤ 18446744073709551615 := by
    simp only [Lit.wf, Bool.and_eq_true, decide_eq_true_eq] at h
    exact h
  rw [BitVec.toNat_ofInt]
  omega
theorem wfi64 {n : Int} (h : (Lit.int .i64 n).wf = true) : -9223372036854775808 ≤ n ∧ n ≤ 9223372036854775807 := by
  simp only [Lit.wf, Bool.and_eq_true, decide_eq_true_eq] at h
  exact h

/-- Where a list of bytes lies that came in. -/
structure SlAt (W : World) (p : Loc) (n cap : Nat) (q : Nat → B8) : Prop where
  le : n ≤ 140737488351232
  cp : n ≤ cap
  lt : p.b < W.heap.size ∨ p.nl = true ∧ n = 0
  nl : p.nl = true → n = 0 ∧ cap = 0
  at_ : ∀ j, j < n → W.cell? ⟨p.b, p.o + j, none⟩ = some (.int .u8 (bfun q j))

def trim (n : Nat) (q : Nat → B8) (j : Nat) : B8 := if j < n then q j else 0#8
theorem ends_trim (n : Nat) (q : Nat → B8) : ∀ j, n ≤ j → trim n q j = 0#8 := fun j h => if_neg (by omega)
/-- Nothing behind the end. -/
theorem SlAt.trim {W : World} {p : Loc} {n cap : Nat} {q : Nat → B8} (h : SlAt W p n cap q) : SlAt W p n cap (trim n q) :=
  ⟨h.le, h.cp, h.lt, h.nl, fun j hj => by rw [h.at_ j hj, bfun, bfun, Anv.trim, if_pos hj]⟩

theorem slIn_at {W : World} {a : Option Addr} {len cap : Nat} {f : Nat → Int} (h : slIn W .u8 a len cap f) : ∃ p : Loc, SlAt W p len cap (fun j => BitVec.ofInt 8 (f j)) ∧ ∀ E : Emb, ∀ b, E.f b = p → b < E.n → denV E (.gs b 0 len cap) (.slice a len cap) := by
  obtain ⟨hle, ⟨rfl, rfl, rfl⟩ | ⟨b, o, rfl, hb, hlc, hc⟩⟩ := h
  · refine ⟨⟨0, 0, true⟩, ⟨hle, Nat.le_refl _, .inr ⟨rfl, rfl⟩, fun _ => ⟨rfl, rfl⟩, fun j hj => by omega⟩, fun E b hE hb => ?_⟩
    simp only [denV, hE]
    exact ⟨hb, fun _ => ⟨trivial, trivial⟩, rfl⟩
  · refine ⟨⟨b, o, false⟩, ⟨hle, hlc, .inl hb, (fun h => by cases h), fun j hj => ?_⟩, fun E b' hE hb' => ?_⟩
    · obtain ⟨h1, h2⟩ := hc j hj
      rw [h1]
      congr 2
      exact wf8 h2
    · simp only [denV, hE]
      refine ⟨hb', (fun h => by cases h), ?_⟩
      simp [Emb.at, hE]

/-- Three lists of bytes that came in, as a small world. -/
theorem sim3 {W : World} {p0 p1 p2 : Loc} {n0 n1 n2 c0 c1 c2 : Nat} {q0 q1 q2 : Nat → B8} (h0 : SlAt W p0 n0 c0 q0) (h1 : SlAt W p1 n1 c1 q1) (h2 : SlAt W p2 n2 c2 q2) :
    Sim ⟨3, fun i => match i with | 0 => p0 | 1 => p1 | _ => p2⟩ [bblk false n0 q0 0, bblk false n1 q1 0, bblk false n2 q2 0] W := by
  have one : ∀ {E : Emb} {p : Loc} {n c : Nat} {q : Nat → B8}, SlAt W p n c q → okBlk E W p (bblk false n q 0) := fun {E p n c q} h => by
    refine ⟨?_, ⟨intsOf .u8 n (bfun q) ++ [], ⟨[], rfl, rfl⟩, fun j v hj => ?_⟩, fun h => by cases h⟩
    · rcases h.lt with h | ⟨h, h'⟩
      · exact .inl h
      · exact .inr ⟨h, by simp [sizeS, h']⟩
    · rw [List.append_nil] at hj
      have hj' : j < n := by
        rcases Nat.lt_or_ge j n with h | h
        · exact h
        · rw [List.getElem?_eq_none (by rw [length_intsOf]; exact h)] at hj; cases hj
      rw [intsOf_get hj'] at hj
      cases hj
      exact h.at_ j hj'
  refine ⟨rfl, fun i B hi => ?_, fun i j A B _ hi _ hA => ?_⟩
  · match i, hi with
    | 0, hi => simp only [List.getElem?_cons_zero, Option.some.injEq] at hi; subst hi; exact one h0
    | 1, hi => simp only [List.getElem?_cons_succ, List.getElem?_cons_zero, Option.some.injEq] at hi; subst hi; exact one h1
    | 2, hi => simp only [List.getElem?_cons_succ, List.getElem?_cons_zero, Option.some.injEq] at hi; subst hi; exact one h2
    | i + 3, hi => simp at hi
  · exfalso
    match i, hi with
    | 0, hi => simp only [List.getElem?_cons_zero, Option.some.injEq] at hi; subst hi; cases hA
    | 1, hi => simp only [List.getElem?_cons_succ, List.getElem?_cons_zero, Option.some.injEq] at hi; subst hi; cases hA
    | 2, hi => simp only [List.getElem?_cons_succ, List.getElem?_cons_zero, Option.some.injEq] at hi; subst hi; cases hA
    | i + 3, hi => simp at hi

/-- The whole that is nothing. -/
def wz : Array Value := (List.replicate 33 (Value.int .u64 0) ++ (([.int .i64 0, .bool false] : List Value) ++ (List.replicate 12 (Value.int .u64 0) ++ (List.replicate 16 (Value.int .u8 0) ++ (List.replicate 16 (Value.int .u64 0) ++ (([.bool false, .int .u64 0, .int .i64 0] : List Value) ++
  ([.slice none 0 0, .int .u32 0, .int .u64 0, .int .u64 0, .bool false, .bool false, .int .u8 0, .int .u8 0, .int .u8 0, .int .u8 0, .bool false, .slice none 0 0, .slice none 0 0, .int .i64 0, .int .i64 0] : List Value))))))).toArray
def cpuF : List FK := [.int .u64, .arr .u64 32, .int .i64, .bool, .int .u64, .int .u64, .int .u64, .int .u64, .int .u64, .int .u64, .int .u64, .int .u64, .int .u64, .int .u64, .int .u64, .int .u64, .arr .u8 16, .arr .u64 16, .bool, .int .u64, .int .i64]
def busF : List FK := [.sl .u8, .int .u32, .int .u64, .int .u64, .bool, .bool, .int .u8, .int .u8, .int .u8, .int .u8, .bool, .sl .u8, .sl .u8, .int .i64, .int .i64]

theorem intsOf_bits8 {n : Nat} {f : Nat → Int} (h : ∀ j, j < n → (Lit.int .u8 (f j)).wf = true) : intsOf .u8 n f = intsOf .u8 n (bfun fun j => BitVec.ofInt 8 (f j)) := intsOf_congr fun j hj => wf8 (h j hj)
theorem intsOf_bits64 {n : Nat} {f : Nat → Int} (h : ∀ j, j < n → (Lit.int .u64 (f j)).wf = true) : intsOf .u64 n f = intsOf .u64 n (wfun fun j => BitVec.ofInt 64 (f j)) := intsOf_congr fun j hj => wf64 (h j hj)

/-- A Cpu that came in, at the head of some cells. -/
theorem cpu_in {W : World} {r : List FK} {l : List Value} (h : fitF W (cpuF ++ r) l) : ∃ (c : CpuV) (x y : List Value), l = x ++ y ∧ (∀ E, denS E c.segs x) ∧ fitF W r y ∧ (-9223372036854775808 ≤ c.mode ∧ c.mode ≤ 9223372036854775807) ∧ (-9223372036854775808 ≤ c.rsize ∧ c.rsize ≤ 9223372036854775807) := by
  simp only [cpuF, List.cons_append, List.nil_append, fitF] at h
  obtain ⟨pc, _, rfl, wpc, x, _, rfl, wx, mode, _, rfl, wmode, wt, _, rfl, h⟩ := h
  obtain ⟨a0, _, rfl, w0, a1, _, rfl, w1, a2, _, rfl, w2, a3, _, rfl, w3, a4, _, rfl, w4, a5, _, rfl, w5, a6, _, rfl, w6, a7, _, rfl, w7, a8, _, rfl, w8, a9, _, rfl, w9, a10, _, rfl, w10, a11, _, rfl, w11, h⟩ := h
  obtain ⟨cfg, _, rfl, wc, ad, _, rfl, wa, rv, _, rfl, ra, _, rfl, wra, rs, y, rfl, wrs, h⟩ := h
  refine ⟨⟨BitVec.ofInt 64 pc, fun j => BitVec.ofInt 64 (x j), mode, wt, BitVec.ofInt 64 a0, BitVec.ofInt 64 a1, BitVec.ofInt 64 a2, BitVec.ofInt 64 a3, BitVec.ofInt 64 a4, BitVec.ofInt 64 a5, BitVec.ofInt 64 a6, BitVec.ofInt 64 a7, BitVec.ofInt 64 a8,
    BitVec.ofInt 64 a9, BitVec.ofInt 64 a10, BitVec.ofInt 64 a11, fun j => BitVec.ofInt 8 (cfg j), fun j => BitVec.ofInt 64 (ad j), rv, BitVec.ofInt 64 ra, rs⟩,
    .int .u64 pc :: (intsOf .u64 32 x ++ .int .i64 mode :: .bool wt :: .int .u64 a0 :: .int .u64 a1 :: .int .u64 a2 :: .int .u64 a3 :: .int .u64 a4 :: .int .u64 a5 :: .int .u64 a6 :: .int .u64 a7 :: .int .u64 a8 :: .int .u64 a9 :: .int .u64 a10 :: .int .u64 a11 ::
      (intsOf .u8 16 cfg ++ (intsOf .u64 16 ad ++ [.bool rv, .int .u64 ra, .int .i64 rs]))), y, by simp, fun E => ?_, h, wfi64 wmode, wfi64 wrs⟩
  rw [intsOf_bits64 wx, intsOf_bits8 wc, intsOf_bits64 wa]
  simp only [CpuV.segs, denS, denV]
  rw [← wf64 wpc, ← wf64 w0, ← wf64 w1, ← wf64 w2, ← wf64 w3, ← wf64 w4, ← wf64 w5, ← wf64 w6, ← wf64 w7, ← wf64 w8, ← wf64 w9, ← wf64 w10, ← wf64 w11, ← wf64 wra]
  exact ⟨_, _, rfl, rfl, _, rfl, _, _, rfl, rfl, _, _, rfl, rfl, _, _, rfl, rfl, _, _, rfl, rfl, _, _, rfl, rfl, _, _, rfl, rfl, _, _, rfl, rfl, _, _, rfl, rfl, _, _, rfl, rfl, _, _, rfl, rfl, _, _, rfl, rfl, _, _, rfl, rfl, _, _, rfl, rfl, _, _, rfl, rfl, _, rfl, _, rfl, _, _, rfl, rfl, _, _, rfl, rfl, _, _, rfl, rfl, rfl⟩

/-- A bus's state that came in, at the head of some cells. -/
theorem bus_in {W : World} {r : List FK} {l : List Value} (h : fitF W (busF ++ r) l) : ∃ (s : BusV) (x y : List Value) (p0 p1 p2 : Loc) (c0 c1 c2 : Nat) (q0 q1 q2 : Nat → B8), l = x ++ y ∧ SlAt W p0 s.nr c0 q0 ∧ SlAt W p1 s.ni c1 q1 ∧ SlAt W p2 s.no c2 q2 ∧
    (∀ (E : Emb) b0 b1 b2, E.f b0 = p0 → b0 < E.n → E.f b1 = p1 → b1 < E.n → E.f b2 = p2 → b2 < E.n → denS E (s.segs (.gs b0 0 s.nr c0) (.gs b1 0 s.ni c1) (.gs b2 0 s.no c2)) x) ∧ fitF W r y := by
  simp only [busF, List.cons_append, List.nil_append, fitF] at h
  obtain ⟨a0, n0, c0, f0, _, rfl, s0, ms, _, rfl, wms, cm, _, rfl, wcm, nw, _, rfl, wnw, ex, _, rfl, so, _, rfl, h⟩ := h
  obtain ⟨ie, _, rfl, wie, lc, _, rfl, wlc, mc, _, rfl, wmc, sc, _, rfl, wsc, ov, _, rfl, h⟩ := h
  obtain ⟨a1, n1, c1, f1, _, rfl, s1, a2, n2, c2, f2, _, rfl, s2, off, _, rfl, woff, code, y, rfl, wcode, h⟩ := h
  obtain ⟨p0, k0, d0⟩ := slIn_at s0
  obtain ⟨p1, k1, d1⟩ := slIn_at s1
  obtain ⟨p2, k2, d2⟩ := slIn_at s2
  refine ⟨⟨n0, BitVec.ofInt 32 ms, BitVec.ofInt 64 cm, BitVec.ofInt 64 nw, ex, so, BitVec.ofInt 8 ie, BitVec.ofInt 8 lc, BitVec.ofInt 8 mc, BitVec.ofInt 8 sc, ov, n1, n2, off, code⟩,
    [.slice a0 n0 c0, .int .u32 ms, .int .u64 cm, .int .u64 nw, .bool ex, .bool so, .int .u8 ie, .int .u8 lc, .int .u8 mc, .int .u8 sc, .bool ov, .slice a1 n1 c1, .slice a2 n2 c2, .int .i64 off, .int .i64 code], y, p0, p1, p2, c0, c1, c2, _, _, _, rfl, k0, k1, k2, fun E b0 b1 b2 e0 l0 e1 l1 e2 l2 => ?_, h⟩
  simp only [BusV.segs, denS]
  have i0 := d0 E b0 e0 l0
  have i1 := d1 E b1 e1 l1
  have i2 := d2 E b2 e2 l2
  refine ⟨_, _, rfl, i0, _, _, rfl, ?_, _, _, rfl, ?_, _, _, rfl, ?_, _, _, rfl, rfl, _, _, rfl, rfl, _, _, rfl, ?_, _, _, rfl, ?_, _, _, rfl, ?_, _, _, rfl, ?_, _, _, rfl, rfl, _, _, rfl, i1, _, _, rfl, i2, _, _, rfl, rfl, _, _, rfl, rfl, rfl⟩ <;> simp only [denV]
  · rw [← wf32 wms]
  · rw [← wf64 wcm]
  · rw [← wf64 wnw]
  · rw [← wf8 wie]
  · rw [← wf8 wlc]
  · rw [← wf8 wmc]
  · rw [← wf8 wsc]
end Go.Anv

/- WatchAgrees. -/
namespace Go.Anv
open Go
theorem eqB_self (n : Nat) (p : Nat → B8) : eqB n p p = true := by
  unfold eqB
  rw [List.all_eq_true]
  intro j _
  exact beq_self_eq_true _
theorem cpuS_self (c : CpuV) : cpuS c c = true := by
  simp [cpuS, CpuV.segs, eqSeg, sameK]
theorem wholeS_twin (c : CpuV) (s : BusV) (l k : Lists) (h0 : l.ram = k.ram) (h1 : l.inp = k.inp) (h2 : l.out = k.out) : wholeS c c s s l k = true := by
  simp [wholeS, cpuS_self, busS, devS, h0, h1, h2, eqB_self]
end Go.Anv
namespace Go.Proofs.Ytghcdkpgcanpgaa
open Go Go.Anv
set_option maxHeartbeats 4000000 in
set_option maxRecDepth 100000 in
theorem watchAgrees_law (c d : CpuV) (s t : BusV) (l k : Lists) (c0 c1 c2 c3 c4 c5 : Nat) (h0 : s.nr ≤ 140737488355328) (h1 : s.ni ≤ 140737488355328) (h2 : s.no ≤ 140737488355328) (h3 : t.nr ≤ 140737488355328) (h4 : t.ni ≤ 140737488355328) (h5 : t.no ≤ 140737488355328) :
    Does TB 8 [.agg (wsegs c s (.gs 0 0 s.nr c0) (.gs 1 0 s.ni c1) (.gs 2 0 s.no c2)), .agg (wsegs d t (.gs 3 0 t.nr c3) (.gs 4 0 t.ni c4) (.gs 5 0 t.no c5))] (l.blks s ++ k.blks t) (fun v h' => v = .s (.bool true) ∧ h' = l.blks s ++ k.blks t) := by
  refine fnX_does TB Try.func8 rfl (by decide) (fun O on hO => ?_)
  refine Does.atn (twin18_spec c s l c0 c1 c2 h0 h1 h2) [0, 1, 2] rfl ⟨rfl, rfl, rfl, trivial⟩ (by decide) ?_ ?_
  · rintro v h' ⟨_, _, _, _, _, _, _, rfl⟩
    exact ⟨.inr (.inr rfl), .inr (.inr rfl), .inr (.inr rfl), .inl rfl, .inl rfl, .inl rfl, trivial⟩
  rintro v h' ⟨c6, c7, c8, g6, g7, g8, rfl, rfl⟩
  repeat (refine need_intro (by first | exact an2 | exact an3 | exact fun h => h | exact nt | exact an2 | exact an3 | rfl | (simp; done) | fail) ?_)
  refine Does.atn (twin18_spec d t k c3 c4 c5 h3 h4 h5) [3, 4, 5] rfl ⟨rfl, rfl, rfl, trivial⟩ (by decide) ?_ ?_
  · rintro v h' ⟨_, _, _, _, _, _, _, rfl⟩
    exact ⟨.inr (.inr rfl), .inr (.inr rfl), .inr (.inr rfl), .inl rfl, .inl rfl, .inl rfl, trivial⟩
  rintro v h' ⟨c9, ca, cb, g9, ga, gb, rfl, rfl⟩
  repeat (refine need_intro (by first | exact an2 | exact an3 | exact fun h => h | exact nt | exact an2 | exact an3 | rfl | (simp; done) | fail) ?_)
  let l' : Lists := { l with mr := true, sr := c6 - s.nr, mi := true, si := c7 - s.ni, mo := true, so := c8 - s.no }
  let k' : Lists := { k with mr := true, sr := c9 - t.nr, mi := true, si := ca - t.ni, mo := true, so := cb - t.no }
  have a1 := agree_spec c d s t l' k' c6 c7 c8 c9 ca cb (by omega)
  have a2 := ragree_spec c d s t l k c0 c1 c2 c3 c4 c5 (by omega) (by omega) (by omega) (by omega) (by omega)
  have a3 := agree_spec d c t s k' l' c9 ca cb c6 c7 c8 (by omega)
  have a4 := ragree_spec d c t s k l c3 c4 c5 c0 c1 c2 (by omega) (by omega) (by omega) (by omega) (by omega)
  have a5 := same18_spec c c s s l' l c6 c7 c8 c0 c1 c2
  have a6 := same18_spec d d t t k' k c9 ca cb c3 c4 c5
  rw [wholeS_twin c s l' l rfl rfl rfl] at a5
  rw [wholeS_twin d t k' k rfl rfl rfl] at a6
  rw [show agreeS c d s t l' k' = agreeS c d s t l k from rfl] at a1
  rw [show agreeS d c t s k' l' = agreeS d c t s k l from rfl] at a3
  have fin : ∀ {J : List Blk}, Anv.Ends 6 (fun v h' => v = .s (.bool true) ∧ h' = l.blks s ++ k.blks t) (.s (.bool true)) (l.blks s ++ k.blks t ++ J) := fun {J} => Ends.ro (H := l.blks s ++ k.blks t) (J := J) rfl rfl rfl
  refine draw_held on rfl (fun _ _ h => h) ?_
  generalize agreeS c d s t l k = A at a1 a2
  generalize agreeS d c t s k l = B at a3 a4
  cases A <;> cases B
  all_goals
    refine Does.atc (a1) [8, 9, 10, 12, 13, 14] rfl ⟨rfl, rfl, rfl, rfl, rfl, rfl, trivial⟩ (by decide) ?_
    repeat (refine need_intro (by first | exact an2 | exact an3 | exact fun h => h | exact nt | exact an2 | exact an3 | rfl | (simp; done) | fail) ?_)
    refine Does.atc (a2) [0, 1, 2, 3, 4, 5] rfl ⟨rfl, rfl, rfl, rfl, rfl, rfl, trivial⟩ (by decide) ?_
    repeat (refine need_intro (by first | exact an2 | exact an3 | exact fun h => h | exact nt | exact an2 | exact an3 | rfl | (simp; done) | fail) ?_)
    refine Does.ungd (b := [.agg _, .agg _]) ⟨⟨rfl, rfl⟩, ⟨rfl, rfl⟩, trivial⟩ ?_
    refine Does.atc (a3) [12, 13, 14, 8, 9, 10] rfl ⟨rfl, rfl, rfl, rfl, rfl, rfl, trivial⟩ (by decide) ?_
    repeat (refine need_intro (by first | exact an2 | exact an3 | exact fun h => h | exact nt | exact an2 | exact an3 | rfl | (simp; done) | fail) ?_)
    refine Does.ungd (b := [.agg _, .agg _]) ⟨⟨rfl, rfl⟩, ⟨rfl, rfl⟩, trivial⟩ ?_
    refine Does.atc (a4) [3, 4, 5, 0, 1, 2] rfl ⟨rfl, rfl, rfl, rfl, rfl, rfl, trivial⟩ (by decide) ?_
    repeat (refine need_intro (by first | exact an2 | exact an3 | exact fun h => h | exact nt | exact an2 | exact an3 | rfl | (simp; done) | fail) ?_)
    refine Does.ungd (b := [.agg _, .agg _]) ⟨⟨rfl, rfl⟩, ⟨rfl, rfl⟩, trivial⟩ ?_
    refine Does.atc (a5) [8, 9, 10, 0, 1, 2] rfl ⟨rfl, rfl, rfl, rfl, rfl, rfl, trivial⟩ (by decide) ?_
    repeat (refine need_intro (by first | exact an2 | exact an3 | exact fun h => h | exact nt | exact an2 | exact an3 | rfl | (simp; done) | fail) ?_)
    refine Does.ungd (b := [.agg _, .agg _]) ⟨⟨rfl, rfl⟩, ⟨rfl, rfl⟩, trivial⟩ ?_
    refine Does.atc (a6) [12, 13, 14, 3, 4, 5] rfl ⟨rfl, rfl, rfl, rfl, rfl, rfl, trivial⟩ (by decide) ?_
    repeat (refine need_intro (by first | exact an2 | exact an3 | exact fun h => h | exact nt | exact an2 | exact an3 | rfl | (simp; done) | fail) ?_)
    refine Does.atc firstW_spec [] rfl trivial (by decide) ?_
    repeat (refine need_intro (by first | exact an2 | exact an3 | exact fun h => h | exact nt | exact an2 | exact an3 | rfl | (simp; done) | fail) ?_)
    exact fin
end Go.Proofs.Ytghcdkpgcanpgaa

/- Two wholes that came in: six lists. -/
namespace Go.Anv
open Go
/-- Six lists of bytes that came in, as a small world. -/
theorem sim6 {W : World} {p0 p1 p2 p3 p4 p5 : Loc} {n0 n1 n2 n3 n4 n5 c0 c1 c2 c3 c4 c5 : Nat} {q0 q1 q2 q3 q4 q5 : Nat → B8} (h0 : SlAt W p0 n0 c0 q0) (h1 : SlAt W p1 n1 c1 q1) (h2 : SlAt W p2 n2 c2 q2) (h3 : SlAt W p3 n3 c3 q3) (h4 : SlAt W p4 n4 c4 q4) (h5 : SlAt W p5 n5 c5 q5) :
    Sim ⟨6, fun i => match i with | 0 => p0 | 1 => p1 | 2 => p2 | 3 => p3 | 4 => p4 | _ => p5⟩ [bblk false n0 q0 0, bblk false n1 q1 0, bblk false n2 q2 0, bblk false n3 q3 0, bblk false n4 q4 0, bblk false n5 q5 0] W := by
  have one : ∀ {E : Emb} {p : Loc} {n c : Nat} {q : Nat → B8}, SlAt W p n c q → okBlk E W p (bblk false n q 0) := fun {E p n c q} h => by
    refine ⟨?_, ⟨intsOf .u8 n (bfun q) ++ [], ⟨[], rfl, rfl⟩, fun j v hj => ?_⟩, fun h => by cases h⟩
    · rcases h.lt with h | ⟨h, h'⟩
      · exact .inl h
      · exact .inr ⟨h, by simp [sizeS, h']⟩
    · rw [List.append_nil] at hj
      have hj' : j < n := by
        rcases Nat.lt_or_ge j n with h | h
        · exact h
        · rw [List.getElem?_eq_none (by rw [length_intsOf]; exact h)] at hj; cases hj
      rw [intsOf_get hj'] at hj
      cases hj
      exact h.at_ j hj'
  refine ⟨rfl, fun i B hi => ?_, fun i j A B _ hi _ hA => ?_⟩
  · match i, hi with
    | 0, hi => simp only [List.getElem?_cons_succ, List.getElem?_cons_zero, Option.some.injEq] at hi; subst hi; exact one h0
    | 1, hi => simp only [List.getElem?_cons_succ, List.getElem?_cons_zero, Option.some.injEq] at hi; subst hi; exact one h1
    | 2, hi => simp only [List.getElem?_cons_succ, List.getElem?_cons_zero, Option.some.injEq] at hi; subst hi; exact one h2
    | 3, hi => simp only [List.getElem?_cons_succ, List.getElem?_cons_zero, Option.some.injEq] at hi; subst hi; exact one h3
    | 4, hi => simp only [List.getElem?_cons_succ, List.getElem?_cons_zero, Option.some.injEq] at hi; subst hi; exact one h4
    | 5, hi => simp only [List.getElem?_cons_succ, List.getElem?_cons_zero, Option.some.injEq] at hi; subst hi; exact one h5
    | i + 6, hi => simp at hi
  · exfalso
    match i, hi with
    | 0, hi => simp only [List.getElem?_cons_succ, List.getElem?_cons_zero, Option.some.injEq] at hi; subst hi; cases hA
    | 1, hi => simp only [List.getElem?_cons_succ, List.getElem?_cons_zero, Option.some.injEq] at hi; subst hi; cases hA
    | 2, hi => simp only [List.getElem?_cons_succ, List.getElem?_cons_zero, Option.some.injEq] at hi; subst hi; cases hA
    | 3, hi => simp only [List.getElem?_cons_succ, List.getElem?_cons_zero, Option.some.injEq] at hi; subst hi; cases hA
    | 4, hi => simp only [List.getElem?_cons_succ, List.getElem?_cons_zero, Option.some.injEq] at hi; subst hi; cases hA
    | 5, hi => simp only [List.getElem?_cons_succ, List.getElem?_cons_zero, Option.some.injEq] at hi; subst hi; cases hA
    | i + 6, hi => simp at hi
end Go.Anv

/- What the arguments of the statements of this seat are made of. Printed by gen_ft.py; no condition. -/
namespace Go.Proofs.Ytghcdkpgcanpgaa
open Go Go.Anv
set_option maxRecDepth 100000
theorem ft42 (n : Nat) : FTn Try.prog (n + 2) 42 [.sl .u8, .int .u32, .int .u64, .int .u64, .bool, .bool, .int .u8, .int .u8, .int .u8, .int .u8, .bool, .sl .u8, .sl .u8, .int .i64, .int .i64] := .inr (.inr (.inr (.inr ⟨_, Try.underlying42, by kernel_rfl, ⟨[.sl .u8], _, rfl, rfl, by kernel_rfl, .inr (.inr (.inr (.inl ⟨_, _, Try.underlying23, Try.underlying5, by kernel_rfl, of_decide_eq_true (by kernel_rfl), rfl⟩))), ⟨[.int .u32], _, rfl, rfl, by kernel_rfl, .inl ⟨_, Try.underlying40, rfl⟩, ⟨[.int .u64], _, rfl, rfl, by kernel_rfl, .inl ⟨_, Try.underlying30, rfl⟩, ⟨[.int .u64], _, rfl, rfl, by kernel_rfl, .inl ⟨_, Try.underlying30, rfl⟩, ⟨[.bool], _, rfl, rfl, by kernel_rfl, .inr (.inl ⟨Try.underlying4, rfl⟩), ⟨[.bool], _, rfl, rfl, by kernel_rfl, .inr (.inl ⟨Try.underlying4, rfl⟩), ⟨[.int .u8], _, rfl, rfl, by kernel_rfl, .inl ⟨_, Try.underlying5, rfl⟩, ⟨[.int .u8], _, rfl, rfl, by kernel_rfl, .inl ⟨_, Try.underlying5, rfl⟩, ⟨[.int .u8], _, rfl, rfl, by kernel_rfl, .inl ⟨_, Try.underlying5, rfl⟩, ⟨[.int .u8], _, rfl, rfl, by kernel_rfl, .inl ⟨_, Try.underlying5, rfl⟩, ⟨[.bool], _, rfl, rfl, by kernel_rfl, .inr (.inl ⟨Try.underlying4, rfl⟩), ⟨[.sl .u8], _, rfl, rfl, by kernel_rfl, .inr (.inr (.inr (.inl ⟨_, _, Try.underlying23, Try.underlying5, by kernel_rfl, of_decide_eq_true (by kernel_rfl), rfl⟩))), ⟨[.sl .u8], _, rfl, rfl, by kernel_rfl, .inr (.inr (.inr (.inl ⟨_, _, Try.underlying23, Try.underlying5, by kernel_rfl, of_decide_eq_true (by kernel_rfl), rfl⟩))), ⟨[.int .i64], _, rfl, rfl, by kernel_rfl, .inl ⟨_, Try.underlying3, rfl⟩, ⟨[.int .i64], _, rfl, rfl, by kernel_rfl, .inl ⟨_, Try.underlying3, rfl⟩, rfl⟩⟩⟩⟩⟩⟩⟩⟩⟩⟩⟩⟩⟩⟩⟩⟩)))
theorem ft37 (n : Nat) : FTn Try.prog (n + 2) 37 [.bool, .int .u64, .int .i64] := .inr (.inr (.inr (.inr ⟨_, Try.underlying37, by kernel_rfl, ⟨[.bool], _, rfl, rfl, by kernel_rfl, .inr (.inl ⟨Try.underlying4, rfl⟩), ⟨[.int .u64], _, rfl, rfl, by kernel_rfl, .inl ⟨_, Try.underlying30, rfl⟩, ⟨[.int .i64], _, rfl, rfl, by kernel_rfl, .inl ⟨_, Try.underlying3, rfl⟩, rfl⟩⟩⟩⟩)))
theorem ft35 (n : Nat) : FTn Try.prog (n + 2) 35 [.arr .u8 16, .arr .u64 16] := .inr (.inr (.inr (.inr ⟨_, Try.underlying35, by kernel_rfl, ⟨[.arr .u8 16], _, rfl, rfl, by kernel_rfl, .inr (.inr (.inl ⟨_, _, _, Try.underlying32, Try.underlying5, by kernel_rfl, by kernel_rfl, rfl⟩)), ⟨[.arr .u64 16], _, rfl, rfl, by kernel_rfl, .inr (.inr (.inl ⟨_, _, _, Try.underlying33, Try.underlying30, by kernel_rfl, by kernel_rfl, rfl⟩)), rfl⟩⟩⟩)))
theorem ft39 (n : Nat) : FTn Try.prog (n + 3) 39 [.int .u64, .arr .u64 32, .int .i64, .bool, .int .u64, .int .u64, .int .u64, .int .u64, .int .u64, .int .u64, .int .u64, .int .u64, .int .u64, .int .u64, .int .u64, .int .u64, .arr .u8 16, .arr .u64 16, .bool, .int .u64, .int .i64] := .inr (.inr (.inr (.inr ⟨_, Try.underlying39, by kernel_rfl, ⟨[.int .u64], _, rfl, rfl, by kernel_rfl, .inl ⟨_, Try.underlying30, rfl⟩, ⟨[.arr .u64 32], _, rfl, rfl, by kernel_rfl, .inr (.inr (.inl ⟨_, _, _, Try.underlying31, Try.underlying30, by kernel_rfl, by kernel_rfl, rfl⟩)), ⟨[.int .i64], _, rfl, rfl, by kernel_rfl, .inl ⟨_, Try.underlying3, rfl⟩, ⟨[.bool], _, rfl, rfl, by kernel_rfl, .inr (.inl ⟨Try.underlying4, rfl⟩), ⟨[.int .u64], _, rfl, rfl, by kernel_rfl, .inl ⟨_, Try.underlying30, rfl⟩, ⟨[.int .u64], _, rfl, rfl, by kernel_rfl, .inl ⟨_, Try.underlying30, rfl⟩, ⟨[.int .u64], _, rfl, rfl, by kernel_rfl, .inl ⟨_, Try.underlying30, rfl⟩, ⟨[.int .u64], _, rfl, rfl, by kernel_rfl, .inl ⟨_, Try.underlying30, rfl⟩, ⟨[.int .u64], _, rfl, rfl, by kernel_rfl, .inl ⟨_, Try.underlying30, rfl⟩, ⟨[.int .u64], _, rfl, rfl, by kernel_rfl, .inl ⟨_, Try.underlying30, rfl⟩, ⟨[.int .u64], _, rfl, rfl, by kernel_rfl, .inl ⟨_, Try.underlying30, rfl⟩, ⟨[.int .u64], _, rfl, rfl, by kernel_rfl, .inl ⟨_, Try.underlying30, rfl⟩, ⟨[.int .u64], _, rfl, rfl, by kernel_rfl, .inl ⟨_, Try.underlying30, rfl⟩, ⟨[.int .u64], _, rfl, rfl, by kernel_rfl, .inl ⟨_, Try.underlying30, rfl⟩, ⟨[.int .u64], _, rfl, rfl, by kernel_rfl, .inl ⟨_, Try.underlying30, rfl⟩, ⟨[.int .u64], _, rfl, rfl, by kernel_rfl, .inl ⟨_, Try.underlying30, rfl⟩, ⟨[.arr .u8 16, .arr .u64 16], _, rfl, rfl, by kernel_rfl, ft35 (n + 0), ⟨[.bool, .int .u64, .int .i64], _, rfl, rfl, by kernel_rfl, ft37 (n + 0), rfl⟩⟩⟩⟩⟩⟩⟩⟩⟩⟩⟩⟩⟩⟩⟩⟩⟩⟩⟩)))
theorem ft44 (n : Nat) : FTn Try.prog (n + 4) 44 [.int .u64, .arr .u64 32, .int .i64, .bool, .int .u64, .int .u64, .int .u64, .int .u64, .int .u64, .int .u64, .int .u64, .int .u64, .int .u64, .int .u64, .int .u64, .int .u64, .arr .u8 16, .arr .u64 16, .bool, .int .u64, .int .i64, .sl .u8, .int .u32, .int .u64, .int .u64, .bool, .bool, .int .u8, .int .u8, .int .u8, .int .u8, .bool, .sl .u8, .sl .u8, .int .i64, .int .i64] := .inr (.inr (.inr (.inr ⟨_, Try.underlying44, by kernel_rfl, ⟨[.int .u64, .arr .u64 32, .int .i64, .bool, .int .u64, .int .u64, .int .u64, .int .u64, .int .u64, .int .u64, .int .u64, .int .u64, .int .u64, .int .u64, .int .u64, .int .u64, .arr .u8 16, .arr .u64 16, .bool, .int .u64, .int .i64], _, rfl, rfl, by kernel_rfl, ft39 (n + 0), ⟨[.sl .u8, .int .u32, .int .u64, .int .u64, .bool, .bool, .int .u8, .int .u8, .int .u8, .int .u8, .bool, .sl .u8, .sl .u8, .int .i64, .int .i64], _, rfl, rfl, by kernel_rfl, ft42 (n + 1), rfl⟩⟩⟩)))
end Go.Proofs.Ytghcdkpgcanpgaa
