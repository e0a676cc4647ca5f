/- Part 11 of the texts of this claim, merged: K8. No condition: plain theorems, contracts of functions. -/
import Derived.Test.YtdlpmbghocabbaaGreatDoorZ10

set_option linter.unusedSimpArgs false
set_option linter.unusedVariables false
/- The law SaveBack. Contract of a function. -/
namespace Go.Proofs.YtdlpmbghocabbaaGreatDoor
open Go Go.Anv
set_option maxRecDepth 100000 in
set_option maxHeartbeats 2000000 in
theorem saveBack_law (cp : CpuV) (s : BusV) (l : Lists) (cr ci co : Nat) (hnr : s.nr ≤ 140737488351232) (hni : s.ni ≤ 140737488351232) (hno : s.no ≤ 140737488351232) :
    Does TB 4 [.agg (wsegs cp s (.gs 0 0 s.nr cr) (.gs 1 0 s.ni ci) (.gs 2 0 s.no co))] (l.blks s) (fun v h' => v = .s (.bool true) ∧ h' = l.blks s) := by
  refine fnX_does TB Tryz.func4 rfl (by decide) (fun O on hO => ?_)
  refine Does.atc first0 [] rfl trivial (by decide) ?_
  repeat (refine need_intro (by first | exact fun h => h | exact nt | exact an2 | exact an3 | rfl | (simp; done) | fail) ?_)
  refine Does.atn (twin_spec cp s l cr ci co (by omega) (by omega) (by omega)) [0, 1, 2] rfl ⟨rfl, rfl, rfl, trivial⟩ (by decide) ?_ ?_
  · rintro v h' ⟨c3, c4, c5, _, _, _, _, rfl⟩
    exact ⟨.inr (.inr rfl), .inr (.inr rfl), .inr (.inr rfl), .inl rfl, .inl rfl, .inl rfl, trivial⟩
  rintro v h' ⟨c3, c4, c5, k3, k4, k5, rfl, rfl⟩
  cases hs : s.can with
  | false =>
    refine Does.atc (save_no cp s (twinL s l c3 c4 c5) c3 c4 c5 (by omega) (by omega) (by omega) k3 hs) [4, 5, 6] rfl ⟨rfl, rfl, rfl, trivial⟩ (by decide) ?_
    repeat (refine need_intro (by first | exact fun h => h | exact nt | exact an2 | exact an3 | rfl | (simp; done) | fail) ?_)
    have hcan := can16_spec cp s l cr ci co (by omega) (by omega) (by omega)
    rw [hs] at hcan
    refine Does.atc (hcan) [0, 1, 2] rfl ⟨rfl, rfl, rfl, trivial⟩ (by decide) ?_
    repeat (refine need_intro (by first | exact fun h => h | exact nt | exact an2 | exact an3 | rfl | (simp; done) | fail) ?_)
    refine (num16_spec 162 _).mono ?_
    rintro _ _ ⟨rfl, rfl⟩
    repeat (refine need_intro (by first | exact fun h => h | exact nt | exact an2 | exact an3 | rfl | (simp; done) | fail) ?_)
    refine Does.ungd (b := [.agg (wsegs cp s (.gs 0 0 s.nr cr) (.gs 1 0 s.ni ci) (.gs 2 0 s.no co))]) ⟨⟨by decide, rfl⟩, trivial⟩ ?_
    refine Does.atn (twin_spec cp s l cr ci co (by omega) (by omega) (by omega)) [0, 1, 2] rfl ⟨rfl, rfl, rfl, trivial⟩ (by decide) ?_ ?_
    · rintro v h' ⟨_, _, _, _, _, _, _, rfl⟩
      exact ⟨.inr (.inr rfl), .inr (.inr rfl), .inr (.inr rfl), .inl rfl, .inl rfl, .inl rfl, trivial⟩
    rintro v h' ⟨c6, c7, c8, _, _, _, rfl, rfl⟩
    repeat (refine need_intro (by first | exact fun h => h | exact nt | exact an2 | exact an3 | rfl | (simp; done) | fail) ?_)
    refine Does.atc (check_no cp s (twinL s l c6 c7 c8) c6 c7 c8 (by omega) (by omega) (by omega) hs) [7, 8, 9] rfl ⟨rfl, rfl, rfl, trivial⟩ (by decide) ?_
    repeat (refine need_intro (by first | exact fun h => h | exact nt | exact an2 | exact an3 | rfl | (simp; done) | fail) ?_)
    refine (num16_spec 162 _).mono ?_
    rintro _ _ ⟨rfl, rfl⟩
    repeat (refine need_intro (by first | exact fun h => h | exact nt | exact an2 | exact an3 | rfl | (simp; done) | fail) ?_)
    exact Ends.ro (H := l.blks s) rfl rfl rfl
  | true =>
    have sv := save_yes cp s l.ram l.inp l.out (c3 - s.nr) (c4 - s.ni) (c5 - s.no) c3 c4 c5 k3 hs
    have hL := snap_bounds cp s l.ram l.inp l.out hs
    have ld := loadS cp s l.ram l.inp l.out hs
    generalize snap cp s l.ram l.inp l.out = S at sv hL ld
    refine Does.atn sv [4, 5, 6] rfl ⟨rfl, rfl, rfl, trivial⟩ (by decide) ?_ ?_
    · rintro v h' ⟨_, _, _, rfl⟩
      exact ⟨.inl rfl, .inl rfl, .inl rfl, .inl rfl, trivial⟩
    rintro v h' ⟨c', hc, rfl, rfl⟩
    repeat (refine need_intro (by first | exact fun h => h | exact nt | exact an2 | exact an3 | rfl | (simp; done) | fail) ?_)
    have hcan := can16_spec cp s l cr ci co (by omega) (by omega) (by omega)
    rw [hs] at hcan
    refine Does.atc (hcan) [0, 1, 2] rfl ⟨rfl, rfl, rfl, trivial⟩ (by decide) ?_
    repeat (refine need_intro (by first | exact fun h => h | exact nt | exact an2 | exact an3 | rfl | (simp; done) | fail) ?_)
    refine Does.atn (ld c' hc) [7] rfl ⟨rfl, trivial⟩ (by decide) ?_ ?_
    · rintro v h' ⟨_, _, _, _, _, rfl⟩
      exact ⟨.inl rfl, .inl rfl, .inl rfl, .inl rfl, trivial⟩
    rintro v h' ⟨cr', ci', co', hb, rfl, rfl⟩
    repeat (refine need_intro (by first | exact fun h => h | exact nt | exact an2 | exact an3 | rfl | (simp; done) | fail) ?_)
    refine (proper_spec cp _).mono ?_
    rintro _ _ ⟨rfl, rfl⟩
    repeat (refine need_intro (by first | exact fun h => h | exact nt | exact an2 | exact an3 | rfl | (simp; done) | fail) ?_)
    refine (num16_spec 0 _).mono ?_
    rintro _ _ ⟨rfl, rfl⟩
    repeat (refine need_intro (by first | exact fun h => h | exact nt | exact an2 | exact an3 | rfl | (simp; done) | fail) ?_)
    refine Does.ungd (b := [.s (.int .i64 0)]) ⟨⟨by decide, rfl⟩, trivial⟩ ?_
    refine (num16_spec 0 _).mono ?_
    rintro _ _ ⟨rfl, rfl⟩
    repeat (refine need_intro (by first | exact fun h => h | exact fun _ => rfl | rfl | fail) ?_)
    have e : (bif bif bif (0 : Int) == 0 then (0 : Int) == 0 else false then decide ((S.length : Int) ≤ 72000) else false then cpuEq cp.proper cp.proper else false) = true := by
      rw [cpuEq_refl, decide_eq_true (p := (S.length : Int) ≤ 72000) (by omega)]
      rfl
    refine ifB_intro (fun _ => ?_) (fun h => absurd (e.symm.trans h) (by decide))
    refine Does.ungd (b := [.agg (s.segs (.gs 8 0 s.nr cr') (.gs 9 0 s.ni ci') (.gs 10 0 s.no co')), .agg (s.segs (.gs 0 0 s.nr cr) (.gs 1 0 s.ni ci) (.gs 2 0 s.no co))]) ⟨⟨e, rfl⟩, ⟨e, rfl⟩, trivial⟩ ?_
    refine Does.atc (busesT s l.ram l.inp l.out true true true l.mr l.mi l.mo (cr' - s.nr) (ci' - s.ni) (co' - s.no) l.sr l.si l.so cr' ci' co' cr ci co) [8, 9, 10, 0, 1, 2] rfl ⟨rfl, rfl, rfl, rfl, rfl, rfl, trivial⟩ (by decide) ?_
    refine Ends.ro (H := l.blks s) rfl ?_ rfl
    show (bif (bif bif bif (0 : Int) == 0 then (0 : Int) == 0 else false then decide ((S.length : Int) ≤ 72000) else false then cpuEq cp.proper cp.proper else false) then true else false) = true
    rw [e]; rfl
end Go.Proofs.YtdlpmbghocabbaaGreatDoor
