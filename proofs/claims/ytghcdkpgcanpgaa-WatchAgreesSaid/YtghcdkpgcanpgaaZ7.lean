/- Part 7 of the texts of this claim, merged: Q4, Q5, Q6, E18, Q7, Q8, Q9, Q10, Q11, Q12, Q13, Q14. No condition: plain theorems, contracts of functions. -/
import Derived.Test.YtghcdkpgcanpgaaZ6

set_option linter.unusedSimpArgs false
set_option linter.unusedVariables false
/- Watching: all of two buses is the same (the document's); a copy of a bus. No condition but the lists' lengths. -/
namespace Go.Anv
open Go
def busS (s t : BusV) (l k : Lists) : Bool := (s.nr == t.nr && eqB s.nr l.ram k.ram) && devS s t l k
end Go.Anv
namespace Go.Proofs.Ytghcdkpgcanpgaa
open Go Go.Anv
set_option maxRecDepth 100000 in
theorem rsame_spec (s t : BusV) (l k : Lists) (c0 c1 c2 c3 c4 c5 : Nat) :
    Does TB 63 [.agg (s.segs (.gs 0 0 s.nr c0) (.gs 1 0 s.ni c1) (.gs 2 0 s.no c2)), .agg (t.segs (.gs 3 0 t.nr c3) (.gs 4 0 t.ni c4) (.gs 5 0 t.no c5))] (l.blks s ++ k.blks t) (fun v h' => v = .s (.bool (busS s t l k)) ∧ h' = l.blks s ++ k.blks t) := by
  refine fnX_does TB Try.func63 rfl (by decide) (fun O on hO => ?_)
  have fin : ∀ {x : Bool}, x = busS s t l k → ∀ {b c : Blk}, Anv.Ends 6 (fun v h' => v = .s (.bool (busS s t l k)) ∧ h' = l.blks s ++ k.blks t) (.s (.bool x)) (l.blks s ++ k.blks t ++ [b, c]) := by
    rintro x rfl b c
    exact ⟨_, _, [0, 1, 2, 3, 4, 5], ⟨rfl, rfl⟩, by decide, ⟨rfl, rfl, rfl, rfl, rfl, rfl, trivial⟩, eqvE_refl _, ⟨⟨_, rfl, eqvB_refl _⟩, ⟨_, rfl, eqvB_refl _⟩, ⟨_, rfl, eqvB_refl _⟩, ⟨_, rfl, eqvB_refl _⟩, ⟨_, rfl, eqvB_refl _⟩, ⟨_, rfl, eqvB_refl _⟩, trivial⟩⟩
  repeat (refine need_intro (by first | exact fun h => h | exact nt | rfl | (simp; done) | fail) ?_)
  refine ifB_intro (fun g1 => ?_) (fun g1 => ?_)
  · refine fin ?_
    simp only [cond_or, bne, beq_nat, Bool.or_eq_true, Bool.not_eq_true'] at g1
    rcases g1 with (((((h | h) | h) | h) | h) | h) | h <;> simp [busS, devS, h]
  repeat (refine need_intro (by first | exact fun h => h | exact nt | rfl | (simp; done) | fail) ?_)
  refine ifB_intro (fun g2 => ?_) (fun g2 => ?_)
  · refine fin ?_
    simp only [cond_or, bne, beq_nat, Bool.or_eq_true, Bool.not_eq_true'] at g2
    rcases g2 with (((h | h) | h) | h) | h <;> simp [busS, devS, h]
  repeat (refine need_intro (by first | exact fun h => h | exact nt | rfl | omega | exact fun _ => by omega | (simp; done) | fail) ?_)
  simp only [cond_or, bne, beq_nat, Bool.or_eq_false_iff, Bool.not_eq_false'] at g1 g2
  obtain ⟨⟨⟨⟨⟨⟨a1, a2⟩, a3⟩, a4⟩, a5⟩, b1⟩, b2⟩ := g1
  obtain ⟨⟨⟨⟨a6, a7⟩, a8⟩, a9⟩, a10⟩ := g2
  refine fin ?_
  have e1 : (bytesOf s.nr (shf 0 (bfun l.ram)) == bytesOf t.nr (shf 0 (bfun k.ram))) = _ := bytes_beq2 l.ram k.ram
  have e2 : (bytesOf s.ni (shf 0 (bfun l.inp)) == bytesOf t.ni (shf 0 (bfun k.inp))) = _ := bytes_beq2 l.inp k.inp
  have e3 : (bytesOf s.no (shf 0 (bfun l.out)) == bytesOf t.no (shf 0 (bfun k.out))) = _ := bytes_beq2 l.out k.out
  show _ = busS s t l k
  rw [e1, e2, e3]
  simp only [cond_and, busS, devS, a1, a2, a3, a4, a5, a6, a7, a8, a9, a10, b1, b2, Bool.and_true, Bool.and_assoc]
set_option maxRecDepth 100000 in
theorem copied_spec (s : BusV) (l : Lists) (cr ci co : Nat) (hnr : s.nr ≤ 140737488355328) (hni : s.ni ≤ 140737488355328) (hno : s.no ≤ 140737488355328) :
    Does TB 58 [.agg (s.segs (.gs 0 0 s.nr cr) (.gs 1 0 s.ni ci) (.gs 2 0 s.no co))] (l.blks s) (fun v h' => ∃ c3 c4 c5, s.nr ≤ c3 ∧ s.ni ≤ c4 ∧ s.no ≤ c5 ∧ v = .agg (s.segs (.gs 3 0 s.nr c3) (.gs 4 0 s.ni c4) (.gs 5 0 s.no c5)) ∧
      h' = l.blks s ++ [bblk true s.nr l.ram (c3 - s.nr), bblk true s.ni l.inp (c4 - s.ni), bblk true s.no l.out (c5 - s.no)]) := by
  refine fnX_does TB Try.func58 rfl (by decide) (fun O on hO => ?_)
  refine need_intro rfl ?_
  refine need_intro ⟨by show 0 + s.nr ≤ s.nr; omega, room5 s.nr hnr⟩ ?_
  intro c3 hc3
  have hc3 : s.nr ≤ c3 := hc3
  refine need_intro ⟨by show 0 + s.ni ≤ s.ni; omega, room5 s.ni hni⟩ ?_
  intro c4 hc4
  have hc4 : s.ni ≤ c4 := hc4
  refine need_intro ⟨by show 0 + s.no ≤ s.no; omega, room5 s.no hno⟩ ?_
  intro c5 hc5
  have hc5 : s.no ≤ c5 := hc5
  refine need_intro rfl ?_
  have sh : ∀ (n : Nat) (q : Nat → B8) (j : Nat), j < n → shf 0 (bfun q) j = bfun q j := fun n q j _ => by unfold shf; rw [Nat.zero_add]
  refine ⟨_, _, [0, 1, 2, 6, 7, 8], ⟨c3, c4, c5, hc3, hc4, hc5, rfl, rfl⟩, by decide, ⟨rfl, rfl, rfl, trivial⟩, ?_, ⟨⟨_, rfl, eqvB_refl _⟩, ⟨_, rfl, eqvB_refl _⟩, ⟨_, rfl, eqvB_refl _⟩, ⟨_, rfl, ⟨rfl, Nat.mul_one _, ⟨⟨rfl, rfl, sh _ _⟩, trivial⟩⟩⟩, ⟨_, rfl, ⟨rfl, Nat.mul_one _, ⟨⟨rfl, rfl, sh _ _⟩, trivial⟩⟩⟩, ⟨_, rfl, ⟨rfl, Nat.mul_one _, ⟨⟨rfl, rfl, sh _ _⟩, trivial⟩⟩⟩, trivial⟩⟩
  exact eqvE_refl _
end Go.Proofs.Ytghcdkpgcanpgaa

/- Watching: a copy of a whole; two wholes the same; the law's helpers. No condition but the lists' lengths. -/
namespace Go.Anv
open Go
/-- Are two Cpus the same? -/
def cpuS (c d : CpuV) : Bool := match eqSeg c.segs d.segs with
  | some b => b
  | none => false
def wholeS (c d : CpuV) (s t : BusV) (l k : Lists) : Bool := cpuS c d && busS s t l k
end Go.Anv
namespace Go.Proofs.Ytghcdkpgcanpgaa
open Go Go.Anv
set_option maxRecDepth 100000 in
theorem twin18_spec (c : CpuV) (s : BusV) (l : Lists) (cr ci co : Nat) (hnr : s.nr ≤ 140737488355328) (hni : s.ni ≤ 140737488355328) (hno : s.no ≤ 140737488355328) :
    Does TB 24 [.agg (wsegs c s (.gs 0 0 s.nr cr) (.gs 1 0 s.ni ci) (.gs 2 0 s.no co))] (l.blks s) (fun v h' => ∃ c3 c4 c5, s.nr ≤ c3 ∧ s.ni ≤ c4 ∧ s.no ≤ c5 ∧ v = .agg (wsegs c s (.gs 3 0 s.nr c3) (.gs 4 0 s.ni c4) (.gs 5 0 s.no c5)) ∧
      h' = l.blks s ++ [bblk true s.nr l.ram (c3 - s.nr), bblk true s.ni l.inp (c4 - s.ni), bblk true s.no l.out (c5 - s.no)]) := by
  refine fnX_does TB Try.func24 rfl (by decide) (fun O on hO => ?_)
  refine draw_but [4] on rfl (fun _ _ h => h) ?_
  refine Does.at (copied_spec s l cr ci co hnr hni hno) [0, 1, 2] rfl ⟨rfl, rfl, rfl, trivial⟩ (by decide) ?_ ?_
  · rintro v h' ⟨c3, c4, c5, _, _, _, _, rfl⟩
    exact ⟨.inr (.inr rfl), .inr (.inr rfl), .inr (.inr rfl), .inl rfl, .inl rfl, .inl rfl, trivial⟩
  rintro v h' ⟨c3, c4, c5, k3, k4, k5, rfl, rfl⟩
  repeat (refine need_intro (by first | exact fun h => h | exact nt | rfl | fail) ?_)
  refine ⟨_, _, [0, 1, 2, 5, 6, 7], ⟨c3, c4, c5, k3, k4, k5, rfl, rfl⟩, by decide, ⟨rfl, rfl, rfl, trivial⟩, ?_, ⟨⟨_, rfl, eqvB_refl _⟩, ⟨_, rfl, eqvB_refl _⟩, ⟨_, rfl, eqvB_refl _⟩, ⟨_, rfl, eqvB_refl _⟩, ⟨_, rfl, eqvB_refl _⟩, ⟨_, rfl, eqvB_refl _⟩, trivial⟩⟩
  exact eqvE_refl _
set_option maxRecDepth 100000 in
theorem same18_spec (c d : CpuV) (s t : BusV) (l k : Lists) (c0 c1 c2 c3 c4 c5 : Nat) :
    Does TB 27 [.agg (wsegs c s (.gs 0 0 s.nr c0) (.gs 1 0 s.ni c1) (.gs 2 0 s.no c2)), .agg (wsegs d t (.gs 3 0 t.nr c3) (.gs 4 0 t.ni c4) (.gs 5 0 t.no c5))] (l.blks s ++ k.blks t) (fun v h' => v = .s (.bool (wholeS c d s t l k)) ∧ h' = l.blks s ++ k.blks t) := by
  refine fnX_does TB Try.func27 rfl (by decide) (fun O on hO => ?_)
  repeat (refine need_intro (by first | exact fun h => h | exact nt | rfl | (simp; done) | fail) ?_)
  have fin : ∀ {x : Bool}, x = wholeS c d s t l k → ∀ {b e : Blk}, Anv.Ends 6 (fun v h' => v = .s (.bool (wholeS c d s t l k)) ∧ h' = l.blks s ++ k.blks t) (.s (.bool x)) (l.blks s ++ k.blks t ++ [b, e]) := by
    rintro x rfl b e
    exact ⟨_, _, [0, 1, 2, 3, 4, 5], ⟨rfl, rfl⟩, by decide, ⟨rfl, rfl, rfl, rfl, rfl, rfl, trivial⟩, eqvE_refl _, ⟨⟨_, rfl, eqvB_refl _⟩, ⟨_, rfl, eqvB_refl _⟩, ⟨_, rfl, eqvB_refl _⟩, ⟨_, rfl, eqvB_refl _⟩, ⟨_, rfl, eqvB_refl _⟩, ⟨_, rfl, eqvB_refl _⟩, trivial⟩⟩
  refine ifB_intro (fun g => ?_) (fun g => ?_)
  · refine Does.ungd (b := [_, _]) ⟨⟨g, rfl⟩, ⟨g, rfl⟩, trivial⟩ ?_
    replace g : cpuS c d = true := g
    refine Does.at (rsame_spec s t l k c0 c1 c2 c3 c4 c5) [0, 1, 2, 3, 4, 5] rfl ⟨rfl, rfl, rfl, rfl, rfl, rfl, trivial⟩ (by decide) ?_ ?_
    · rintro v h' ⟨_, rfl⟩
      exact ⟨.inr (.inr rfl), .inr (.inr rfl), .inr (.inr rfl), .inr (.inr rfl), .inr (.inr rfl), .inr (.inr rfl), trivial⟩
    rintro v h' ⟨rfl, rfl⟩
    repeat (refine need_intro (by first | exact fun h => h | exact nt | rfl | (simp; done) | fail) ?_)
    refine fin ?_
    show (bif cpuS c d then busS s t l k else false) = _
    exact cond_and _ _
  · refine need_intro g ?_
    refine fin ?_
    replace g : cpuS c d = false := g
    unfold wholeS
    rw [g]
    rfl
end Go.Proofs.Ytghcdkpgcanpgaa

/- Watching: do two wholes look the same from U: the program's and the document's. No condition but the lists' lengths. -/
namespace Go.Anv
open Go
/-- RAM differs where neither R nor X is granted alone. -/
def seeN (c : CpuV) (l k : Lists) (j : Nat) : Bool := k.ram j != l.ram j && grantI c.proper.cfg c.proper.addr (0x80000000#64 + BitVec.ofNat 64 j) 5
def agreeS (c d : CpuV) (s t : BusV) (l k : Lists) : Bool := cpuS c.proper d.proper && devS s t l k && s.nr == t.nr && (List.range s.nr).all fun j => !seeN c l k j
theorem agree_no {c d : CpuV} {s t : BusV} {l k : Lists} {j : Nat} (hj : j < s.nr) (h : seeN c l k j = true) : agreeS c d s t l k = false := by
  unfold agreeS
  rw [Bool.and_eq_false_iff]
  right
  rw [Bool.eq_false_iff]
  intro e
  have := List.all_eq_true.1 e j (List.mem_range.2 hj)
  rw [h] at this
  cases this
theorem agree_yes {c d : CpuV} {s t : BusV} {l k : Lists} (h1 : cpuS c.proper d.proper = true) (h2 : devS s t l k = true) (h3 : s.nr = t.nr) (h : ∀ j, j < s.nr → seeN c l k j = false) : agreeS c d s t l k = true := by
  unfold agreeS
  rw [h1, h2, h3, beq_self_eq_true, Bool.true_and, Bool.true_and, Bool.true_and]
  exact List.all_eq_true.2 fun j hj => by rw [h j (by rw [h3]; exact List.mem_range.1 hj)]; rfl
end Go.Anv
namespace Go.Proofs.Ytghcdkpgcanpgaa
open Go Go.Anv
set_option maxRecDepth 100000 in
theorem agree_spec (c d : CpuV) (s t : BusV) (l k : Lists) (c0 c1 c2 c3 c4 c5 : Nat) (hs : s.nr < 2 ^ 62) :
    Does TB 25 [.agg (wsegs c s (.gs 0 0 s.nr c0) (.gs 1 0 s.ni c1) (.gs 2 0 s.no c2)), .agg (wsegs d t (.gs 3 0 t.nr c3) (.gs 4 0 t.ni c4) (.gs 5 0 t.no c5))] (l.blks s ++ k.blks t) (fun v h' => v = .s (.bool (agreeS c d s t l k)) ∧ h' = l.blks s ++ k.blks t) := by
  refine fnX_does TB Try.func25 rfl (by decide) (fun O on hO => ?_)
  have fin : ∀ {x : Bool}, x = agreeS c d s t l k → ∀ (b e f : Blk), Anv.Ends 6 (fun v h' => v = .s (.bool (agreeS c d s t l k)) ∧ h' = l.blks s ++ k.blks t) (.s (.bool x)) (l.blks s ++ k.blks t ++ [b, e, f]) := by
    rintro x rfl b e f
    exact ⟨_, _, [0, 1, 2, 3, 4, 5], ⟨rfl, rfl⟩, by decide, ⟨rfl, rfl, rfl, rfl, rfl, rfl, trivial⟩, eqvE_refl _, ⟨⟨_, rfl, eqvB_refl _⟩, ⟨_, rfl, eqvB_refl _⟩, ⟨_, rfl, eqvB_refl _⟩, ⟨_, rfl, eqvB_refl _⟩, ⟨_, rfl, eqvB_refl _⟩, ⟨_, rfl, eqvB_refl _⟩, trivial⟩⟩
  refine (proper_spec c _).mono ?_
  rintro _ _ ⟨rfl, rfl⟩
  refine need_intro rfl ?_
  refine draw_held on rfl (fun _ _ h => h) ?_
  refine (proper_spec d _).mono ?_
  rintro _ _ ⟨rfl, rfl⟩
  repeat (refine need_intro (by first | exact fun h => h | exact nt | rfl | (simp; done) | fail) ?_)
  refine ifB_intro (fun g => ?_) (fun g => ?_)
  · refine Does.ungd (b := [_, _]) ⟨⟨g, rfl⟩, ⟨g, rfl⟩, trivial⟩ ?_
    replace g : (!(!cpuS c.proper d.proper)) = true := g
    refine Does.at (sameBus_spec s t l k c0 c1 c2 c3 c4 c5) [0, 1, 2, 3, 4, 5] rfl ⟨rfl, rfl, rfl, rfl, rfl, rfl, trivial⟩ (by decide) ?_ ?_
    · rintro v h' ⟨_, rfl⟩
      exact ⟨.inr (.inr rfl), .inr (.inr rfl), .inr (.inr rfl), .inr (.inr rfl), .inr (.inr rfl), .inr (.inr rfl), trivial⟩
    rintro v h' ⟨rfl, rfl⟩
    repeat (refine need_intro (by first | exact fun h => h | exact nt | rfl | (simp; done) | fail) ?_)
    have hc : cpuS c.proper d.proper = true := by simpa using g
    refine ifB_intro (fun g2 => ?_) (fun g2 => ?_)
    · replace g2 : (bif (bif !cpuS c.proper d.proper then true else !devS s t l k) then true else (s.nr : Int) != (t.nr : Int)) = true := g2
      refine fin ?_ _ _ _
      rw [hc] at g2
      unfold agreeS
      cases hd : devS s t l k with
      | false => simp
      | true =>
        rw [hd] at g2
        have : s.nr ≠ t.nr := by
          intro e; rw [e] at g2; simp at g2
        simp [this]
    · replace g2 : (bif (bif !cpuS c.proper d.proper then true else !devS s t l k) then true else (s.nr : Int) != (t.nr : Int)) = false := g2
      rw [hc] at g2
      have hd : devS s t l k = true := by
        cases hd : devS s t l k with
        | false => rw [hd] at g2; cases g2
        | true => rfl
      rw [hd] at g2
      have hr : s.nr = t.nr := by
        have := bne_eq_false_iff_eq.1 (show ((s.nr : Int) != (t.nr : Int)) = false from g2)
        omega
      refine loop_by (A := Nat) on (fun j => [(39, .s (.int .i64 (j : Int)))]) (fun _ => l.blks s ++ k.blks t ++ [.cells true (wsegs c s (.gs 0 0 s.nr c0) (.gs 1 0 s.ni c1) (.gs 2 0 s.no c2)) 0, .cells true (wsegs d t (.gs 3 0 t.nr c3) (.gs 4 0 t.ni c4) (.gs 5 0 t.no c5)) 0, .cells true c.proper.segs 0]) (fun j => j ≤ s.nr ∧ ∀ i, i < j → seeN c l k i = false) (fun j => s.nr - j) 0 ⟨Nat.zero_le _, fun i hi => absurd hi (Nat.not_lt_zero i)⟩ ?_ ?_
      · refine ⟨?_, eqvB_refl _, eqvB_refl _, eqvB_refl _, eqvB_refl _, eqvB_refl _, eqvB_refl _, eqvB_refl _, eqvB_refl _, eqvB_refl _, trivial⟩
        repeat' (first | exact eqvT_nil | refine eqvT_junk ?_ | refine eqvT_same ?_ | refine eqvT_int ?_ ?_)
      intro j ⟨hj, hp⟩
      refine ifB_intro (fun h4 => ?_) (fun h4 => ?_)
      · have hj1 : j < s.nr := by have := of_decide_eq_true h4; omega
        repeat (refine need_intro (by first | omega | exact ⟨by omega, by omega⟩ | exact fun h => h | exact nt | rfl | (simp; done) | fail) ?_)
        have hne : (bfun k.ram (0 + (j : Int).toNat) != bfun l.ram (0 + (j : Int).toNat)) = (k.ram j != l.ram j) := by
          rw [Nat.zero_add, Int.toNat_natCast]
          exact bne_nat _ _
        refine ifB_intro (fun h5 => ?_) (fun h5 => ?_)
        · refine Does.ungd (b := [.agg (pmpSeg c.proper.cfg c.proper.addr), .s (.int .u64 ((0x80000000#64 + BitVec.ofNat 64 j).toNat : Int)), .s (.int .i64 5)]) ⟨⟨h5, rfl⟩, ⟨h5, congrArg (fun z => EV.s (.int .u64 z)) (addk (a := 0x80000000#64) (k := j) (by omega))⟩, rfl, trivial⟩ ?_
          refine (granted_spec _ _ _ _ _).mono ?_
          rintro _ _ ⟨rfl, rfl⟩
          replace h5 := hne.symm.trans h5
          have hse : seeN c l k j = grantI c.proper.cfg c.proper.addr (0x80000000#64 + BitVec.ofNat 64 j) 5 := by unfold seeN; rw [h5, Bool.true_and]
          refine ifB_intro (fun h6 => ?_) (fun h6 => ?_)
          · replace h6 := (cond_and _ _).symm.trans h6
            rw [Bool.and_eq_true] at h6
            exact fin (agree_no hj1 (hse.trans h6.2)).symm _ _ _
          · replace h6 := (cond_and _ _).symm.trans h6
            rw [hne.trans h5, Bool.true_and] at h6
            refine ⟨j + 1, ⟨hj1, fun i hi => ?_⟩, by simp only; omega, ?_⟩
            · rcases Nat.lt_succ_iff_lt_or_eq.1 hi with h | h
              · exact hp i h
              · subst h; exact hse.trans h6
            refine ⟨?_, eqvB_refl _, eqvB_refl _, eqvB_refl _, eqvB_refl _, eqvB_refl _, eqvB_refl _, eqvB_refl _, eqvB_refl _, eqvB_refl _, trivial⟩
            repeat' (first | exact eqvT_nil | refine eqvT_junk ?_ | refine eqvT_same ?_ | refine eqvT_int ?_ ?_)
            rw [i64_in (by omega) (by omega)]; omega
        · refine need_intro h5 ?_
          have h6 := hne.symm.trans h5
          refine ⟨j + 1, ⟨hj1, fun i hi => ?_⟩, by simp only; omega, ?_⟩
          · rcases Nat.lt_succ_iff_lt_or_eq.1 hi with h | h
            · exact hp i h
            · subst h; unfold seeN; rw [h6]; rfl
          refine ⟨?_, eqvB_refl _, eqvB_refl _, eqvB_refl _, eqvB_refl _, eqvB_refl _, eqvB_refl _, eqvB_refl _, eqvB_refl _, eqvB_refl _, trivial⟩
          repeat' (first | exact eqvT_nil | refine eqvT_junk ?_ | refine eqvT_same ?_ | refine eqvT_int ?_ ?_)
          rw [i64_in (by omega) (by omega)]; omega
      · have hj1 : j = s.nr := by have := of_decide_eq_false h4; omega
        subst hj1
        exact fin (agree_yes hc hd hr hp).symm _ _ _
  · replace g : (!(!cpuS c.proper d.proper)) = false := g
    have hc : cpuS c.proper d.proper = false := by simpa using g
    repeat (refine need_intro (by first | exact g | exact fun h => h | exact nt | rfl | (simp; done) | fail) ?_)
    refine ifB_intro (fun h => absurd (h.symm.trans g) (by decide)) (fun _ => ?_)
    repeat (refine need_intro (by first | exact g | exact nt hc | exact fun h => h | exact nt | rfl | (simp; done) | fail) ?_)
    exact fin (by unfold agreeS; rw [hc]; rfl) _ _ _
set_option maxRecDepth 100000 in
theorem ragree_spec (c d : CpuV) (s t : BusV) (l k : Lists) (c0 c1 c2 c3 c4 c5 : Nat) (hs : s.nr < 2 ^ 62) (h1 : s.ni < 2 ^ 62) (h2 : t.ni < 2 ^ 62) (h3 : s.no < 2 ^ 62) (h4 : t.no < 2 ^ 62) :
    Does TB 26 [.agg (wsegs c s (.gs 0 0 s.nr c0) (.gs 1 0 s.ni c1) (.gs 2 0 s.no c2)), .agg (wsegs d t (.gs 3 0 t.nr c3) (.gs 4 0 t.ni c4) (.gs 5 0 t.no c5))] (l.blks s ++ k.blks t) (fun v h' => v = .s (.bool (agreeS c d s t l k)) ∧ h' = l.blks s ++ k.blks t) := by
  refine fnX_does TB Try.func26 rfl (by decide) (fun O on hO => ?_)
  have fin : ∀ {x : Bool}, x = agreeS c d s t l k → ∀ (b e f : Blk), Anv.Ends 6 (fun v h' => v = .s (.bool (agreeS c d s t l k)) ∧ h' = l.blks s ++ k.blks t) (.s (.bool x)) (l.blks s ++ k.blks t ++ [b, e, f]) := by
    rintro x rfl b e f
    exact ⟨_, _, [0, 1, 2, 3, 4, 5], ⟨rfl, rfl⟩, by decide, ⟨rfl, rfl, rfl, rfl, rfl, rfl, trivial⟩, eqvE_refl _, ⟨⟨_, rfl, eqvB_refl _⟩, ⟨_, rfl, eqvB_refl _⟩, ⟨_, rfl, eqvB_refl _⟩, ⟨_, rfl, eqvB_refl _⟩, ⟨_, rfl, eqvB_refl _⟩, ⟨_, rfl, eqvB_refl _⟩, trivial⟩⟩
  refine (rproper_spec c _).mono ?_
  rintro _ _ ⟨rfl, rfl⟩
  refine need_intro rfl ?_
  refine draw_held on rfl (fun _ _ h => h) ?_
  refine (rproper_spec d _).mono ?_
  rintro _ _ ⟨rfl, rfl⟩
  repeat (refine need_intro (by first | exact fun h => h | exact nt | rfl | (simp; done) | fail) ?_)
  refine ifB_intro (fun g => ?_) (fun g => ?_)
  · refine Does.ungd (b := [_, _]) ⟨⟨g, rfl⟩, ⟨g, rfl⟩, trivial⟩ ?_
    replace g : (!(!cpuS c.proper d.proper)) = true := g
    refine Does.at (devices_spec s t l k c0 c1 c2 c3 c4 c5 h1 h2 h3 h4) [0, 1, 2, 3, 4, 5] rfl ⟨rfl, rfl, rfl, rfl, rfl, rfl, trivial⟩ (by decide) ?_ ?_
    · rintro v h' ⟨_, rfl⟩
      exact ⟨.inr (.inr rfl), .inr (.inr rfl), .inr (.inr rfl), .inr (.inr rfl), .inr (.inr rfl), .inr (.inr rfl), trivial⟩
    rintro v h' ⟨rfl, rfl⟩
    repeat (refine need_intro (by first | exact fun h => h | exact nt | rfl | (simp; done) | fail) ?_)
    have hc : cpuS c.proper d.proper = true := by simpa using g
    refine ifB_intro (fun g2 => ?_) (fun g2 => ?_)
    · replace g2 : (bif (bif !cpuS c.proper d.proper then true else !devS s t l k) then true else (s.nr : Int) != (t.nr : Int)) = true := g2
      refine fin ?_ _ _ _
      rw [hc] at g2
      unfold agreeS
      cases hd : devS s t l k with
      | false => simp
      | true =>
        rw [hd] at g2
        have : s.nr ≠ t.nr := by
          intro e; rw [e] at g2; simp at g2
        simp [this]
    · replace g2 : (bif (bif !cpuS c.proper d.proper then true else !devS s t l k) then true else (s.nr : Int) != (t.nr : Int)) = false := g2
      rw [hc] at g2
      have hd : devS s t l k = true := by
        cases hd : devS s t l k with
        | false => rw [hd] at g2; cases g2
        | true => rfl
      rw [hd] at g2
      have hr : s.nr = t.nr := by
        have := bne_eq_false_iff_eq.1 (show ((s.nr : Int) != (t.nr : Int)) = false from g2)
        omega
      refine loop_by (A := Nat) on (fun j => [(6, .s (.int .i64 (j : Int)))]) (fun _ => l.blks s ++ k.blks t ++ [.cells true (wsegs c s (.gs 0 0 s.nr c0) (.gs 1 0 s.ni c1) (.gs 2 0 s.no c2)) 0, .cells true (wsegs d t (.gs 3 0 t.nr c3) (.gs 4 0 t.ni c4) (.gs 5 0 t.no c5)) 0, .cells true c.proper.segs 0]) (fun j => j ≤ s.nr ∧ ∀ i, i < j → seeN c l k i = false) (fun j => s.nr - j) 0 ⟨Nat.zero_le _, fun i hi => absurd hi (Nat.not_lt_zero i)⟩ ?_ ?_
      · refine ⟨?_, eqvB_refl _, eqvB_refl _, eqvB_refl _, eqvB_refl _, eqvB_refl _, eqvB_refl _, eqvB_refl _, eqvB_refl _, eqvB_refl _, trivial⟩
        repeat' (first | exact eqvT_nil | refine eqvT_junk ?_ | refine eqvT_same ?_ | refine eqvT_int ?_ ?_)
      intro j ⟨hj, hp⟩
      refine ifB_intro (fun h4 => ?_) (fun h4 => ?_)
      · have hj1 : j < s.nr := by have := of_decide_eq_true h4; omega
        refine draw_held on rfl (fun _ _ h => h) ?_
        repeat (refine need_intro (by first | omega | exact ⟨by omega, by omega⟩ | exact fun h => h | exact nt | rfl | (simp; done) | fail) ?_)
        have hne : (bfun l.ram (0 + (j : Int).toNat) != bfun k.ram (0 + (j : Int).toNat)) = (k.ram j != l.ram j) := by
          rw [Nat.zero_add, Int.toNat_natCast]
          refine (bne_nat _ _).trans ?_
          rw [Bool.eq_iff_iff, bne_iff_ne, bne_iff_ne]
          exact ⟨fun h e => h e.symm, fun h e => h e.symm⟩
        refine ifB_intro (fun h5 => ?_) (fun h5 => ?_)
        · refine Does.ungd (b := [.agg (pmpSeg c.proper.cfg c.proper.addr), .s (.int .u64 ((0x80000000#64 + BitVec.ofNat 64 j).toNat : Int)), .s (.int .i64 5)]) ⟨⟨h5, rfl⟩, ⟨h5, congrArg (fun z => EV.s (.int .u64 z)) (addk (a := 0x80000000#64) (k := j) (by omega))⟩, rfl, trivial⟩ ?_
          refine (rgranted_spec _ _ _ _ _).mono ?_
          rintro _ _ ⟨rfl, rfl⟩
          repeat (refine need_intro (by first | exact fun h => h | exact nt | rfl | (simp; done) | fail) ?_)
          replace h5 := hne.symm.trans h5
          have hse : seeN c l k j = grantI c.proper.cfg c.proper.addr (0x80000000#64 + BitVec.ofNat 64 j) 5 := by unfold seeN; rw [h5, Bool.true_and]
          refine ifB_intro (fun h6 => ?_) (fun h6 => ?_)
          · replace h6 := (cond_and _ _).symm.trans h6
            rw [Bool.and_eq_true] at h6
            exact fin (agree_no hj1 (hse.trans h6.2)).symm _ _ _
          · replace h6 := (cond_and _ _).symm.trans h6
            rw [hne.trans h5, Bool.true_and] at h6
            refine ⟨j + 1, ⟨hj1, fun i hi => ?_⟩, by simp only; omega, ?_⟩
            · rcases Nat.lt_succ_iff_lt_or_eq.1 hi with h | h
              · exact hp i h
              · subst h; exact hse.trans h6
            refine ⟨?_, eqvB_refl _, eqvB_refl _, eqvB_refl _, eqvB_refl _, eqvB_refl _, eqvB_refl _, eqvB_refl _, eqvB_refl _, eqvB_refl _, trivial⟩
            repeat' (first | exact eqvT_nil | refine eqvT_junk ?_ | refine eqvT_same ?_ | refine eqvT_int ?_ ?_)
            rw [i64_in (by omega) (by omega)]; omega
        · repeat (refine need_intro (by first | exact h5 | rfl | fail) ?_)
          have h6 := hne.symm.trans h5
          refine ⟨j + 1, ⟨hj1, fun i hi => ?_⟩, by simp only; omega, ?_⟩
          · rcases Nat.lt_succ_iff_lt_or_eq.1 hi with h | h
            · exact hp i h
            · subst h; unfold seeN; rw [h6]; rfl
          refine ⟨?_, eqvB_refl _, eqvB_refl _, eqvB_refl _, eqvB_refl _, eqvB_refl _, eqvB_refl _, eqvB_refl _, eqvB_refl _, eqvB_refl _, trivial⟩
          repeat' (first | exact eqvT_nil | refine eqvT_junk ?_ | refine eqvT_same ?_ | refine eqvT_int ?_ ?_)
          rw [i64_in (by omega) (by omega)]; omega
      · have hj1 : j = s.nr := by have := of_decide_eq_false h4; omega
        subst hj1
        exact fin (agree_yes hc hd hr hp).symm _ _ _
  · replace g : (!(!cpuS c.proper d.proper)) = false := g
    have hc : cpuS c.proper d.proper = false := by simpa using g
    repeat (refine need_intro (by first | exact g | exact fun h => h | exact nt | rfl | (simp; done) | fail) ?_)
    refine ifB_intro (fun h => absurd (h.symm.trans g) (by decide)) (fun _ => ?_)
    repeat (refine need_intro (by first | exact g | exact nt hc | exact fun h => h | exact nt | rfl | (simp; done) | fail) ?_)
    exact fin (by unfold agreeS; rw [hc]; rfl) _ _ _
end Go.Proofs.Ytghcdkpgcanpgaa

/- The engine, part 18: contracts that leave all as it was: used in a larger heap; shown at a function's end. Plain theorems, no condition. -/
namespace Go.Anv
open Go

theorem updB_self : ∀ {h : List Blk} {k : Nat} {B : Blk}, nthB h k = some B → updB h k B = h
  | [], _, _, h => by simp [nthB] at h
  | x :: r, 0, B, h => by simp only [nthB, Option.some.injEq] at h; subst h; rfl
  | x :: r, k + 1, B, h => by simp only [nthB] at h; simp only [updB, updB_self h]

theorem mergeB_self {h : List Blk} : ∀ {κ : List Nat} {r : List Blk}, subH h κ r → mergeB h κ r = h
  | [], [], _ => by simp [mergeB]
  | k :: κ, B :: r, hk => by
    rw [mergeB, updB_self hk.1]
    exact mergeB_self hk.2
  | [], _ :: _, hk => hk.elim
  | _ :: _, [], hk => hk.elim

theorem roOk_self : ∀ h : List Blk, roOk h h
  | [] => trivial
  | _ :: r => ⟨.inr (.inr rfl), roOk_self r⟩

/-- A contract that leaves its heap as it was, in a larger heap. -/
theorem Does.atc {T : Tbl} {f : FuncId} {args : List EV} {hc : List Blk} {X : EV} (c : Does T f args hc (fun v h' => v = X ∧ h' = hc)) (κ : List Nat) {args' : List EV} {h : List Blk} {K : EV → List Blk → Prop}
    (ha : args' = renT (lk κ h.length) args) (hh : subH h κ (renH (lk κ h.length) hc)) (hnd : κ.Nodup) (hK : forceE (renE (lk κ h.length) X) fun v => K v h) : Does T f args' h K := by
  refine Does.at c κ ha hh hnd ?_ ?_
  · rintro v h' ⟨_, rfl⟩
    exact roOk_self _
  · rintro v h' ⟨rfl, rfl⟩
    rw [mergeB_self hh, forceH_eq]
    exact hK

theorem subQ_pre (J : List Blk) : ∀ (H P : List Blk), subQ (P ++ (H ++ J)) (List.range' P.length H.length) H
  | [], _ => trivial
  | B :: r, P => by
    refine ⟨⟨B, ?_, eqvB_refl B⟩, ?_⟩
    · apply get_nthB
      rw [List.getElem?_append_right (Nat.le_refl _), Nat.sub_self]
      rfl
    · have := subQ_pre J r (P ++ [B])
      simpa [List.append_assoc] using this

/-- The end of a function that leaves its heap as it was; new blocks are let go. -/
theorem Ends.ro {n : Nat} {H J : List Blk} {X x : EV} (hn : H.length = n) (hx : eqvE x (renE (lk (List.range n) (H ++ J).length) X)) (hH : renH (lk (List.range n) (H ++ J).length) H = H) : Ends n (fun v h' => v = X ∧ h' = H) x (H ++ J) := by
  subst hn
  refine ⟨X, H, List.range H.length, ⟨rfl, rfl⟩, List.nodup_range, ?_, hx, ?_⟩
  · rw [List.range_eq_range']; exact idK_range _ _ 0 (Nat.le_refl _)
  · rw [hH, List.range_eq_range']
    exact subQ_pre J H []

/-! ### a drawn region's orders, one state for all -/

theorem eqvH_subQ (h : List Blk) : subQ h (List.range' 0 h.length) h := subQ_range h h 0 rfl

theorem renT_same' {ρ : Nat → Nat} (hρ : ∀ i, ρ i = i) : ∀ l : List EV, renT ρ l = l := renT_same hρ

theorem leR_refl {n : Nat} {s : St} (hn : n ≤ s.heap.length) : leR n (List.range s.heap.length) s s := by
  have hlk : ∀ i, lk (List.range s.heap.length) s.heap.length i = i := lk_range s.heap.length
  refine ⟨List.nodup_range, ?_, ?_, ?_⟩
  · rw [List.range_eq_range']; exact idK_range n _ 0 hn
  · rw [renT_same' hlk]; exact eqvT_refl _
  · rw [renH_same hlk, List.range_eq_range']
    exact eqvH_subQ _

def toK (n : Nat) (t : St) : Exit → St → Prop
  | .normal, s => ∃ κ, leR n κ s t
  | _, _ => False

/-- **A drawn region: all its orders end in one state (with other numbers), from which the walk goes on.** -/
theorem draw_to {T : Tbl} {O : Org} (on : O.E.n = O.h.length) {id : Nat} {ops : Array Oper} {s : St} {K : Exit → St → Prop} (t : St) (hd : DrawG T O id ops s (toK O.E.n t)) (hk : K .normal t) : DrawG T O id ops s K := by
  intro E a w R
  refine Code.wp_mono ?_ (hd E a w R)
  rintro e a' w' ⟨E', s', h1, R'⟩
  cases e with
  | normal =>
    obtain ⟨κ, hκ⟩ := h1
    obtain ⟨E'', R''⟩ := R'.renum on hκ
    exact ⟨E'', t, hk, R''⟩
  | _ => exact h1.elim

theorem toK_id {n : Nat} {s : St} (hn : n ≤ s.heap.length) : toK n s .normal s := ⟨_, leR_refl hn⟩

theorem toK_of {n : Nat} {s t : St} (κ : List Nat) (h1 : κ.Nodup) (h2 : idK 0 n κ) (h3 : eqvT s.tmps (renT (lk κ s.heap.length) t.tmps)) (h4 : subQ s.heap κ (renH (lk κ s.heap.length) t.heap)) : toK n t .normal s := ⟨κ, h1, h2, h3, h4⟩

/-! ### numbers of blocks, written out -/

def litK (b : Nat) (k : Nat → Prop) : Prop :=
  match b with
  | 0 => k 0
  | 1 => k 1
  | 2 => k 2
  | 3 => k 3
  | 4 => k 4
  | 5 => k 5
  | 6 => k 6
  | 7 => k 7
  | 8 => k 8
  | 9 => k 9
  | 10 => k 10
  | 11 => k 11
  | 12 => k 12
  | 13 => k 13
  | 14 => k 14
  | 15 => k 15
  | 16 => k 16
  | 17 => k 17
  | 18 => k 18
  | 19 => k 19
  | 20 => k 20
  | 21 => k 21
  | 22 => k 22
  | 23 => k 23
  | 24 => k 24
  | 25 => k 25
  | 26 => k 26
  | 27 => k 27
  | 28 => k 28
  | 29 => k 29
  | 30 => k 30
  | 31 => k 31
  | 32 => k 32
  | 33 => k 33
  | 34 => k 34
  | 35 => k 35
  | 36 => k 36
  | 37 => k 37
  | 38 => k 38
  | 39 => k 39
  | n => k n

theorem litK_eq (b : Nat) (k : Nat → Prop) : litK b k = k b := by
  unfold litK
  split <;> rfl

mutual
def nV : SV → (SV → Prop) → Prop
  | .junk, k => k .junk
  | .int q n, k => k (.int q n)
  | .bool b, k => k (.bool b)
  | .str s, k => k (.str s)
  | .ptr b o, k => litK b fun b => k (.ptr b o)
  | .pix b o i, k => litK b fun b => k (.pix b o i)
  | .rp b o i z, k => litK b fun b => k (.rp b o i z)
  | .nilptr, k => k .nilptr
  | .slice b o l c, k => litK b fun b => k (.slice b o l c)
  | .nilslice, k => k .nilslice
  | .gs b o l c, k => litK b fun b => k (.gs b o l c)
  | .map b, k => litK b fun b => k (.map b)
  | .nilmap, k => k .nilmap
  | .func f a c, k => nL a fun a => nL c fun c => k (.func f a c)
  | .nilfunc, k => k .nilfunc
  | .iface t a c, k => nL c fun c => k (.iface t a c)
  | .niliface, k => k .niliface
def nL : List SV → (List SV → Prop) → Prop
  | [], k => k []
  | x :: r, k => nV x fun x => nL r fun r => k (x :: r)
end

mutual
theorem nV_eq : ∀ (v : SV) (k : SV → Prop), nV v k = k v
  | .junk, _ => rfl
  | .int .., _ => rfl
  | .bool _, _ => rfl
  | .str _, _ => rfl
  | .ptr .., _ => by simp only [nV, litK_eq]
  | .pix .., _ => by simp only [nV, litK_eq]
  | .rp .., _ => by simp only [nV, litK_eq]
  | .nilptr, _ => rfl
  | .slice .., _ => by simp only [nV, litK_eq]
  | .nilslice, _ => rfl
  | .gs .., _ => by simp only [nV, litK_eq]
  | .map _, _ => by simp only [nV, litK_eq]
  | .nilmap, _ => rfl
  | .func f a c, k => by simp only [nV]; rw [nL_eq a]; rw [nL_eq c]
  | .nilfunc, _ => rfl
  | .iface t a c, k => by simp only [nV]; rw [nL_eq c]
  | .niliface, _ => rfl
theorem nL_eq : ∀ (l : List SV) (k : List SV → Prop), nL l k = k l
  | [], _ => rfl
  | x :: r, k => by simp only [nL]; rw [nV_eq x]; rw [nL_eq r]
end

def nS (l : List Seg) : (List Seg → Prop) → Prop :=
  List.rec (motive := fun _ => (List Seg → Prop) → Prop) (fun k => k []) (fun x _ ih k => match x with
    | .one v => nV v fun v => ih fun r => k (.one v :: r)
    | .ints q n f => ih fun r => k (.ints q n f :: r)) l

theorem nS_eq : ∀ (cs : List Seg) (k : List Seg → Prop), nS cs k = k cs
  | [], _ => rfl
  | .one v :: r, k => by
    show (nV v fun v => nS r fun r => k (.one v :: r)) = _
    rw [nV_eq, nS_eq r]
  | .ints q n f :: r, k => by
    show (nS r fun r => k (.ints q n f :: r)) = _
    rw [nS_eq r]

def nB (B : Blk) (k : Blk → Prop) : Prop :=
  match B with
  | .cells m cs sp => nS cs fun cs => k (.cells m cs sp)
  | .recs m n z f sp => k (.recs m n z f sp)
  | .map es => k (.map es)
  | .dead => k .dead

def nH (l : List Blk) : (List Blk → Prop) → Prop :=
  List.rec (motive := fun _ => (List Blk → Prop) → Prop) (fun k => k []) (fun B _ ih k => nB B fun B => ih fun r => k (B :: r)) l

theorem nB_eq (B : Blk) (k : Blk → Prop) : nB B k = k B := by cases B <;> simp only [nB, nS_eq]
theorem nH_eq : ∀ (h : List Blk) (k : List Blk → Prop), nH h k = k h
  | [], _ => rfl
  | B :: r, k => by
    show (nB B fun B => nH r fun r => k (B :: r)) = _
    rw [nB_eq, nH_eq r]

def nE (v : EV) (k : EV → Prop) : Prop :=
  match v with
  | .s v => nV v fun v => k (.s v)
  | .agg cs => nS cs fun cs => k (.agg cs)
  | v => forceE v k

theorem nE_eq (v : EV) (k : EV → Prop) : nE v k = k v := by
  cases v <;> simp only [nE, nV_eq, nS_eq, forceE_eq]

/-- A contract in a larger heap; the numbers behind it are written out. -/
theorem Does.atn {T : Tbl} {f : FuncId} {args : List EV} {hc : List Blk} {Q : EV → List Blk → Prop} (c : Does T f args hc Q) (κ : List Nat) {args' : List EV} {h : List Blk} {K : EV → List Blk → Prop}
    (ha : args' = renT (lk κ h.length) args) (hh : subH h κ (renH (lk κ h.length) hc)) (hnd : κ.Nodup) (hro : ∀ v h', Q v h' → roOk hc h')
    (hK : ∀ v' h', Q v' h' → nH (mergeB h κ (renH (lk κ h.length) h')) fun h2 => nE (renE (lk κ h.length) v') fun v => K v h2) : Does T f args' h K :=
  Does.at c κ ha hh hnd hro fun v' h' hq => by
    have := hK v' h' hq
    rw [nH_eq, nE_eq] at this
    rw [forceH_eq, forceE_eq]
    exact this
end Go.Anv

/- Watching: one step as it was seen: its values, its block, the small questions asked of it. No condition: contracts of functions. -/
namespace Go.Anv
open Go
structure RowV where
  step : Int
  kind : Int
  mode : Int
  pc : B64
  raw : B32
  len : Int
  cause : B64
  tval : B64
  rd : Int
  val : B64
  mem : Int
  addr : B64
  size : Int
  data : B64
  next : B64
  nextMode : Int
/-- The cells of api.Row. -/
def RowV.svs (r : RowV) : List SV :=
  [.int .i64 r.step, .int .i64 r.kind, .int .i64 r.mode, .int .u64 r.pc.toNat, .int .u32 r.raw.toNat, .int .i64 r.len, .int .u64 r.cause.toNat, .int .u64 r.tval.toNat, .int .i64 r.rd, .int .u64 r.val.toNat, .int .i64 r.mem, .int .u64 r.addr.toNat, .int .i64 r.size, .int .u64 r.data.toNat, .int .u64 r.next.toNat, .int .i64 r.nextMode]
def RowV.segs (r : RowV) : List Seg := r.svs.map .one
/-- What a step showed: the wholes (c, s; d, t), the Cpu behind as it was handed in (e), the world, the row; the lists' rooms. -/
structure Sc where
  c : CpuV
  d : CpuV
  e : CpuV
  s : BusV
  t : BusV
  l : Lists
  k : Lists
  tick : Bool
  ext : Bool
  soft : Bool
  nw : Nat
  mw : Bool
  sw : Nat
  w : Nat → B8
  r : RowV
  c0 : Nat
  c1 : Nat
  c2 : Nat
  c3 : Nat
  c4 : Nat
  c5 : Nat
  cw : Nat
def Sc.lists (z : Sc) : List Blk := [bblk z.l.mr z.s.nr z.l.ram z.l.sr, bblk z.l.mi z.s.ni z.l.inp z.l.si, bblk z.l.mo z.s.no z.l.out z.l.so, bblk z.k.mr z.t.nr z.k.ram z.k.sr, bblk z.k.mi z.t.ni z.k.inp z.k.si, bblk z.k.mo z.t.no z.k.out z.k.so, bblk z.mw z.nw z.w z.sw]
def Sc.world (z : Sc) : List Seg := [.one (.bool z.tick), .one (.bool z.ext), .one (.bool z.soft), .one (.gs 6 0 z.nw z.cw)]
def Sc.b (z : Sc) : List Seg := wsegs z.c z.s (.gs 0 0 z.s.nr z.c0) (.gs 1 0 z.s.ni z.c1) (.gs 2 0 z.s.no z.c2)
def Sc.a (z : Sc) : List Seg := wsegs z.d z.t (.gs 3 0 z.t.nr z.c3) (.gs 4 0 z.t.ni z.c4) (.gs 5 0 z.t.no z.c5)
def Sc.segs (z : Sc) : List Seg := z.b ++ z.a ++ z.world ++ z.r.segs ++ z.e.segs
def Sc.h (z : Sc) : List Blk := z.lists ++ [.cells true z.segs 0]
/-- Lengths that can be. -/
structure Sc.Ok (z : Sc) : Prop where
  nr : z.s.nr ≤ 140737488355328
  ni : z.s.ni ≤ 140737488355328
  no : z.s.no ≤ 140737488355328
  mr : z.t.nr ≤ 140737488355328
  mi : z.t.ni ≤ 140737488355328
  mo : z.t.no ≤ 140737488355328
  cr : z.s.nr ≤ z.c0
  ci : z.s.ni ≤ z.c1
  co : z.s.no ≤ z.c2
  dr : z.t.nr ≤ z.c3
  di : z.t.ni ≤ z.c4
  do_ : z.t.no ≤ z.c5
  size : -9223372036854775808 ≤ z.r.size ∧ z.r.size ≤ 9223372036854775807
/-- Has Mem W? -/
def RowV.stores (r : RowV) : Bool := bitX .and .i64 r.mem 2 != 0
def RowV.trapped (r : RowV) : Bool := r.kind == 2 || r.kind == 3
def RowV.counts (r : RowV) : Bool := r.kind == 1 && bitX .and .u32 (r.raw.toNat : Int) 127 == 115
def RowV.placed (r : RowV) : Bool := r.mem != 0 && decide (0 < r.size) && decide (r.size ≤ 8)
def RowV.within (r : RowV) (a : B64) : Bool := r.placed && decide (r.addr ≤ a) && decide (((a - r.addr).toNat : Int) < r.size)
def anyN (f : Nat → Bool) : Nat → Bool
  | 0 => false
  | n + 1 => anyN f n || f n
def RowV.storedAt (r : RowV) (a : B64) (n : Nat) : Bool := r.stores && anyN (fun k => r.within (a + BitVec.ofNat 64 k)) n
theorem cond_all (a b : Bool) : (bif a then b else false) = (a && b) := by cases a <;> rfl
theorem wsize {x : Int} (h : 0 ≤ x ∧ x ≤ 9223372036854775807) : IntKind.u64.wrap x = x := by
  rw [wrap_u64, BitVec.toNat_ofInt]; omega
theorem placed_size {r : RowV} (h : r.placed = true) : (0 < r.size ∧ r.size ≤ 8) ∧ IntKind.u64.wrap r.size = r.size := by
  unfold RowV.placed at h
  rw [Bool.and_eq_true, Bool.and_eq_true] at h
  have h1 := of_decide_eq_true h.1.2
  have h2 := of_decide_eq_true h.2
  exact ⟨⟨h1, h2⟩, wsize (by omega)⟩
theorem eqvH_refl : ∀ h : List Blk, eqvH h h
  | [] => trivial
  | _ :: r => ⟨eqvB_refl _, eqvH_refl r⟩
theorem anyN_true {f : Nat → Bool} {n k : Nat} (hk : k < n) (h : f k = true) : anyN f n = true := by
  induction n with
  | zero => omega
  | succ n ih =>
    rw [anyN]
    rcases Nat.lt_succ_iff_lt_or_eq.1 hk with h' | h'
    · rw [ih h']; rfl
    · subst h'; rw [h, Bool.or_true]
theorem anyN_false {f : Nat → Bool} {n : Nat} (h : ∀ k, k < n → f k = false) : anyN f n = false := by
  induction n with
  | zero => rfl
  | succ n ih => rw [anyN, ih (fun k hk => h k (by omega)), h n (by omega)]; rfl
end Go.Anv
namespace Go.Proofs.Ytghcdkpgcanpgaa
open Go Go.Anv
set_option maxRecDepth 100000 in
theorem stores_spec (z : Sc) : Does TB 154 [.s (.ptr 7 0)] z.h (fun v h' => v = .s (.bool z.r.stores) ∧ h' = z.h) := by
  refine fnX_does TB Try.func154 rfl (by decide) (fun O on hO => ?_)
  exact Ends.ro (J := []) rfl rfl rfl
set_option maxRecDepth 100000 in
theorem trapped_spec (z : Sc) : Does TB 139 [.s (.ptr 7 0)] z.h (fun v h' => v = .s (.bool z.r.trapped) ∧ h' = z.h) := by
  refine fnX_does TB Try.func139 rfl (by decide) (fun O on hO => ?_)
  repeat (refine need_intro (by first | exact fun h => h | exact nt | rfl | (simp; done) | fail) ?_)
  exact Ends.ro (J := []) rfl (cond_or _ _) rfl
set_option maxRecDepth 100000 in
theorem counts_spec (z : Sc) : Does TB 131 [.s (.ptr 7 0)] z.h (fun v h' => v = .s (.bool z.r.counts) ∧ h' = z.h) := by
  refine fnX_does TB Try.func131 rfl (by decide) (fun O on hO => ?_)
  repeat (refine need_intro (by first | exact fun h => h | exact nt | rfl | (simp; done) | fail) ?_)
  exact Ends.ro (J := []) rfl (cond_and _ _) rfl
set_option maxRecDepth 100000 in
theorem placed_spec (z : Sc) : Does TB 167 [.s (.ptr 7 0)] z.h (fun v h' => v = .s (.bool z.r.placed) ∧ h' = z.h) := by
  refine fnX_does TB Try.func167 rfl (by decide) (fun O on hO => ?_)
  repeat (refine need_intro (by first | exact fun h => h | exact nt | rfl | (simp; done) | fail) ?_)
  refine Ends.ro (H := z.h) rfl ?_ rfl
  show (bif (bif z.r.mem != 0 then _ else false) then _ else false) = _
  rw [cond_and, cond_and]
  rfl
set_option maxRecDepth 100000 in
theorem within_spec (z : Sc) (a : B64) : Does TB 155 [.s (.ptr 7 0), .s (.int .u64 a.toNat)] z.h (fun v h' => v = .s (.bool (z.r.within a)) ∧ h' = z.h) := by
  refine fnX_does TB Try.func155 rfl (by decide) (fun O on hO => ?_)
  refine draw_held on rfl (fun _ _ h => h) ?_
  refine Does.atc (placed_spec z) [0, 1, 2, 3, 4, 5, 6, 7] rfl ⟨rfl, rfl, rfl, rfl, rfl, rfl, rfl, rfl, trivial⟩ (by decide) ?_
  repeat (refine need_intro (by first | exact fun h => h | exact nt | rfl | (simp; done) | fail) ?_)
  refine Ends.ro (H := z.h) rfl ?_ rfl
  show (bif (bif z.r.placed then decide (((a.toNat : Nat) : Int) ≥ ((z.r.addr.toNat : Nat) : Int)) else false) then decide (IntKind.u64.wrap (((a.toNat : Nat) : Int) - ((z.r.addr.toNat : Nat) : Int)) < IntKind.u64.wrap z.r.size) else false) = z.r.within a
  rw [cond_and, cond_and, sub64, ge_nat]
  unfold RowV.within
  cases hp : z.r.placed with
  | false => rfl
  | true => rw [(placed_size hp).2]
set_option maxRecDepth 100000 in
theorem storedAt_spec (z : Sc) (a : B64) (n : Nat) (hn : n < 2 ^ 62) : Does TB 134 [.s (.ptr 7 0), .s (.int .u64 a.toNat), .s (.int .i64 (n : Int))] z.h (fun v h' => v = .s (.bool (z.r.storedAt a n)) ∧ h' = z.h) := by
  refine fnX_does TB Try.func134 rfl (by decide) (fun O on hO => ?_)
  refine Does.atc (stores_spec z) [0, 1, 2, 3, 4, 5, 6, 7] rfl ⟨rfl, rfl, rfl, rfl, rfl, rfl, rfl, rfl, trivial⟩ (by decide) ?_
  have fin : ∀ {x : Bool}, x = z.r.storedAt a n → Anv.Ends 8 (fun v h' => v = .s (.bool (z.r.storedAt a n)) ∧ h' = z.h) (.s (.bool x)) z.h := by
    rintro x rfl
    exact Ends.ro (J := []) rfl rfl rfl
  refine ifB_intro (fun h1 => fin (by unfold RowV.storedAt; simp at h1; rw [h1]; rfl)) (fun h1 => ?_)
  have h1 : z.r.stores = true := by simpa using h1
  refine loop_by (A := Nat) on (fun k => [(12, .s (.int .i64 (k : Int)))]) (fun _ => z.h) (fun k => k ≤ n ∧ ∀ i, i < k → z.r.within (a + BitVec.ofNat 64 i) = false) (fun k => n - k) 0 ⟨Nat.zero_le _, fun i hi => absurd hi (Nat.not_lt_zero i)⟩ ?_ ?_
  · refine ⟨?_, eqvH_refl _⟩
    repeat' (first | exact eqvT_nil | refine eqvT_junk ?_ | refine eqvT_same ?_ | refine eqvT_int ?_ ?_)
  intro k ⟨hk, hp⟩
  refine ifB_intro (fun h2 => ?_) (fun h2 => ?_)
  · have hk1 : k < n := by have := of_decide_eq_true h2; omega
    refine Does.args (b := [.s (.ptr 7 0), .s (.int .u64 ((a + BitVec.ofNat 64 k).toNat : Int))]) ⟨eqvE_refl _, ⟨rfl, addk (by omega)⟩, trivial⟩ ?_
    refine Does.atc (within_spec z _) [0, 1, 2, 3, 4, 5, 6, 7] rfl ⟨rfl, rfl, rfl, rfl, rfl, rfl, rfl, rfl, trivial⟩ (by decide) ?_
    refine ifB_intro (fun h3 => fin (by unfold RowV.storedAt; rw [h1, anyN_true (f := fun k => z.r.within (a + BitVec.ofNat 64 k)) hk1 h3]; rfl)) (fun h3 => ?_)
    refine ⟨k + 1, ⟨hk1, fun i hi => ?_⟩, by simp only; omega, ?_⟩
    · rcases Nat.lt_succ_iff_lt_or_eq.1 hi with h | h
      · exact hp i h
      · subst h; exact h3
    refine ⟨?_, eqvH_refl _⟩
    repeat' (first | exact eqvT_nil | refine eqvT_junk ?_ | refine eqvT_same ?_ | refine eqvT_int ?_ ?_)
    rw [i64_in (by omega) (by omega)]; omega
  · have hk1 : k = n := by have := of_decide_eq_false h2; omega
    subst hk1
    exact fin (by unfold RowV.storedAt; rw [anyN_false hp, Bool.and_false])
end Go.Proofs.Ytghcdkpgcanpgaa

/- Watching: more small questions asked of a step: does the place lie in RAM; what is pending; what a trap leaves; the mode of loads and stores. No condition: contracts of functions. -/
namespace Go.Anv
open Go
/-- Does the place lie in RAM whole (n bytes of it)? -/
def RowV.inRam (r : RowV) (n : Nat) : Bool := (r.placed && decide (0x80000000#64 ≤ r.addr)) && (decide ((r.addr - 0x80000000#64).toNat ≤ n) && decide (r.size ≤ ((n - (r.addr - 0x80000000#64).toNat : Nat) : Int)))
def mipOf (s : BusV) : B64 :=
  (if (s.msip &&& 1#32 == 1#32) || s.soft then 8#64 else 0#64) ||| (if decide (s.cmp ≤ s.now) then 128#64 else 0#64) ||| (if s.ext || ((s.ier &&& 1#8 == 1#8) && decide (0 < s.ni)) then 2048#64 else 0#64)
def entryOf (m : B64) (mode : Int) : B64 := (m &&& ~~~6280#64) ||| ((m &&& 8#64) <<< 4) ||| (BitVec.ofInt 64 mode <<< 11)
def handlerOf (v cause : B64) : B64 := if (cause >>> 63 == 1#64) && (v &&& 1#64 == 1#64) then (v &&& ~~~3#64) + 4#64 * (cause <<< 1 >>> 1) else v &&& ~~~3#64
/-- The mode of loads and stores. -/
def CpuV.eff (c : CpuV) : Int := if c.proper.mode = 3 ∧ c.proper.mstatus &&& 131072#64 ≠ 0#64 then (((c.proper.mstatus &&& 6144#64) >>> 11).toNat : Int) else c.proper.mode
theorem an2 {a b : Bool} (h1 : a = true) (h2 : b = true) : (a && b) = true := by rw [h1, h2]; rfl
theorem an3 {a b : Bool} (h1 : a = true) (h2 : b = false) : (a && !b) = true := by rw [h1, h2]; rfl
theorem subn {a b : Nat} (h : b ≤ a) (ha : a ≤ 9223372036854775807) : IntKind.u64.wrap ((a : Int) - (b : Int)) = ((a - b : Nat) : Int) := by
  rw [show (a : Int) - (b : Int) = ((a - b : Nat) : Int) by omega, wnat (by omega)]
end Go.Anv
namespace Go.Proofs.Ytghcdkpgcanpgaa
open Go Go.Anv
set_option maxRecDepth 100000 in
theorem inRam_spec (z : Sc) (ok : z.Ok) : Does TB 156 [.s (.ptr 7 0)] z.h (fun v h' => v = .s (.bool (z.r.inRam z.t.nr)) ∧ h' = z.h) := by
  refine fnX_does TB Try.func156 rfl (by decide) (fun O on hO => ?_)
  refine Does.atc (placed_spec z) [0, 1, 2, 3, 4, 5, 6, 7] rfl ⟨rfl, rfl, rfl, rfl, rfl, rfl, rfl, rfl, trivial⟩ (by decide) ?_
  repeat (refine need_intro (by first | exact fun h => h | exact nt | exact an2 | rfl | (simp; done) | fail) ?_)
  have fin : ∀ {x : Bool}, x = z.r.inRam z.t.nr → Anv.Ends 8 (fun v h' => v = .s (.bool (z.r.inRam z.t.nr)) ∧ h' = z.h) (.s (.bool x)) z.h := by
    rintro x rfl
    exact Ends.ro (J := []) rfl rfl rfl
  have hmr := ok.mr
  refine ifB_intro (fun h1 => fin ?_) (fun h1 => ?_)
  · rw [cond_or, Bool.or_eq_true, Bool.not_eq_true', decide_eq_true_eq] at h1
    unfold RowV.inRam
    rcases h1 with h | h
    · rw [h]; rfl
    · rw [decide_eq_false (p := 0x80000000#64 ≤ z.r.addr) (by rw [BitVec.le_def]; show ¬ 2147483648 ≤ _; omega), Bool.and_false]; rfl
  · refine draw_held on rfl (fun _ _ h => h) ?_
    repeat (refine need_intro (by first | exact fun h => h | exact nt | exact an2 | rfl | (simp; done) | fail) ?_)
    refine fin ?_
    rw [cond_or, Bool.or_eq_false_iff, Bool.not_eq_false', decide_eq_false_iff_not] at h1
    obtain ⟨hp, ha⟩ := h1
    have e1 : IntKind.u64.wrap (((z.r.addr.toNat : Nat) : Int) - 2147483648) = (((z.r.addr - 0x80000000#64).toNat : Nat) : Int) := sub64 z.r.addr 0x80000000#64
    unfold RowV.inRam
    rw [e1, wnat (by omega), cond_and, hp, (placed_size hp).2, decide_eq_true (p := 0x80000000#64 ≤ z.r.addr) (by rw [BitVec.le_def]; show 2147483648 ≤ _; omega)]
    generalize (z.r.addr - 0x80000000#64).toNat = at_
    by_cases h2 : at_ ≤ z.t.nr
    · rw [subn h2 (by omega), decide_eq_true (p := at_ ≤ z.t.nr) h2, decide_eq_true (p := (at_ : Int) ≤ (z.t.nr : Int)) (by omega)]
      rfl
    · rw [decide_eq_false (p := at_ ≤ z.t.nr) h2, decide_eq_false (p := (at_ : Int) ≤ (z.t.nr : Int)) (by omega)]
      rfl
set_option maxRecDepth 100000 in
theorem wmip_spec (t : BusV) (k : Lists) (c0 c1 c2 : Nat) : Does TB 129 [.agg (t.segs (.gs 0 0 t.nr c0) (.gs 1 0 t.ni c1) (.gs 2 0 t.no c2))] (k.blks t) (fun v h' => v = .s (.int .u64 (mipOf t).toNat) ∧ h' = k.blks t) := by
  refine fnX_does TB Try.func129 rfl (by decide) (fun O on hO => ?_)
  repeat (refine need_intro (by first | exact fun h => h | exact nt | exact an2 | rfl | (simp; done) | fail) ?_)
  have fin : ∀ {x : Int} {B : Blk}, x = ((mipOf t).toNat : Int) → Anv.Ends 3 (fun v h' => v = .s (.int .u64 (mipOf t).toNat) ∧ h' = k.blks t) (.s (.int .u64 x)) (k.blks t ++ [B]) := by
    rintro x B rfl
    exact Ends.ro rfl (eqvE_refl _) rfl
  have e1 : (bif bitX .and .u32 (t.msip.toNat : Int) 1 == 1 then true else t.soft) = ((t.msip &&& 1#32 == 1#32) || t.soft) := by
    rw [cond_or, and_u32, ofInt_toNat]; congr 1; exact beq_nat _ 1#32
  have e2 : decide (((t.now.toNat : Nat) : Int) ≥ ((t.cmp.toNat : Nat) : Int)) = decide (t.cmp ≤ t.now) := ge_nat _ _
  have e3 : (bif t.ext then true else bif bitX .and .u8 (t.ier.toNat : Int) 1 == 1 then decide ((t.ni : Int) > 0) else false) = (t.ext || ((t.ier &&& 1#8 == 1#8) && decide (0 < t.ni))) := by
    rw [cond_or, cond_and, and_u8, ofInt_toNat]; congr 2
    · exact beq_nat _ 1#8
    · exact decide_eq_decide.2 (by omega)
  have step : ∀ {a b c : Bool}, ((t.msip &&& 1#32 == 1#32) || t.soft) = a → decide (t.cmp ≤ t.now) = b → (t.ext || ((t.ier &&& 1#8 == 1#8) && decide (0 < t.ni))) = c → mipOf t = (if a then 8#64 else 0#64) ||| (if b then 128#64 else 0#64) ||| (if c then 2048#64 else 0#64) := by
    rintro a b c rfl rfl rfl; rfl
  refine ifB_intro (fun h1 => ?_) (fun h1 => ?_) <;> refine ifB_intro (fun h2 => ?_) (fun h2 => ?_) <;> repeat (refine need_intro (by first | exact fun h => h | exact nt | exact an2 | rfl | (simp; done) | fail) ?_)
  all_goals refine ifB_intro (fun h3 => ?_) (fun h3 => ?_)
  all_goals (refine fin ?_; rw [step (e1.symm.trans h1) (e2.symm.trans h2) (e3.symm.trans h3)]; decide)
set_option maxRecDepth 100000 in
theorem entry_spec (m : B64) (mode : Int) (h : List Blk) : Does TB 158 [.s (.int .u64 m.toNat), .s (.int .i64 mode)] h (fun v h' => v = .s (.int .u64 (entryOf m mode).toNat) ∧ h' = h) := by
  refine fnX_pure TB Try.func158 rfl (by decide) rfl _ rfl (fun O on => ?_) h
  repeat (refine need_intro (by first | decide | exact fun h => h | exact nt | exact an2 | rfl | (simp; done) | fail) ?_)
  refine ⟨rfl, ?_⟩
  have h11 : min (Int.toNat 11) IntKind.u64.bits = 11 := by decide
  have h4 : min (Int.toNat 4) IntKind.u64.bits = 4 := by decide
  show bitX .or .u64 (bitX .or .u64 (bitX .andNot .u64 (m.toNat : Int) 6280) (IntKind.u64.wrap (bitX .and .u64 (m.toNat : Int) 8 * 2 ^ min (Int.toNat 4) IntKind.u64.bits))) (IntKind.u64.wrap (IntKind.u64.wrap mode * 2 ^ min (Int.toNat 11) IntKind.u64.bits)) = _
  simp only [h11, h4, wrap_u64 mode, and_u64, andNot_u64, shl64, or_u64, ofInt_toNat]
  rfl
set_option maxRecDepth 100000 in
theorem handler_spec (v cause : B64) (h : List Blk) : Does TB 159 [.s (.int .u64 v.toNat), .s (.int .u64 cause.toNat)] h (fun x h' => x = .s (.int .u64 (handlerOf v cause).toNat) ∧ h' = h) := by
  refine fnX_pure TB Try.func159 rfl (by decide) rfl _ rfl (fun O on => ?_) h
  repeat (refine need_intro (by first | decide | exact fun h => h | exact nt | exact an2 | rfl | (simp; done) | fail) ?_)
  have h63 : min (Int.toNat 63) IntKind.u64.bits = 63 := by decide
  have h1' : min (Int.toNat 1) IntKind.u64.bits = 1 := by decide
  have e1 : (bif ((cause.toNat : Int).fdiv (2 ^ min (Int.toNat 63) IntKind.u64.bits)) == 1 then bitX .and .u64 (v.toNat : Int) 1 == 1 else false) = ((cause >>> 63 == 1#64) && (v &&& 1#64 == 1#64)) := by
    rw [cond_and, h63, fdiv_pow, and_u64, ofInt_toNat]; congr 1
    · exact beq_nat _ 1#64
    · exact beq_nat _ 1#64
  refine ifB_intro (fun h => ?_) (fun h => ?_)
  · repeat (refine need_intro (by first | decide | exact fun h => h | exact nt | exact an2 | rfl | (simp; done) | fail) ?_)
    refine ⟨rfl, ?_⟩
    unfold handlerOf
    rw [if_pos (e1.symm.trans h)]
    show IntKind.u64.wrap (bitX .andNot .u64 (v.toNat : Int) 3 + IntKind.u64.wrap (4 * (IntKind.u64.wrap ((cause.toNat : Int) * 2 ^ min (Int.toNat 1) IntKind.u64.bits)).fdiv (2 ^ min (Int.toNat 1) IntKind.u64.bits))) = _
    rw [h1', shl64, fdiv_pow, andNot_u64, ofInt_toNat]
    have := mul64 4#64 (cause <<< 1 >>> 1)
    rw [show ((4#64).toNat : Int) = 4 from rfl] at this
    rw [this, add64]
    rfl
  · refine ⟨rfl, ?_⟩
    unfold handlerOf
    rw [e1] at h
    rw [h]
    show bitX .andNot .u64 (v.toNat : Int) 3 = _
    rw [andNot_u64, ofInt_toNat]
    rfl
set_option maxRecDepth 100000 in
theorem eff_spec (c : CpuV) (h : List Blk) : Does TB 142 [.agg c.segs] h (fun v h' => v = .s (.int .i64 c.eff) ∧ h' = h) := by
  refine fnX_pure TB Try.func142 rfl (by decide) rfl _ rfl (fun O on => ?_) h
  refine (proper_spec c _).mono ?_
  rintro _ _ ⟨rfl, rfl⟩
  repeat (refine need_intro (by first | decide | exact fun h => h | exact nt | exact an2 | rfl | (simp; done) | fail) ?_)
  have e1 : (bif c.proper.mode == 3 then bitX .and .u64 (c.proper.mstatus.toNat : Int) 131072 != 0 else false) = decide (c.proper.mode = 3 ∧ c.proper.mstatus &&& 131072#64 ≠ 0#64) := by
    rw [cond_and, and_u64, ofInt_toNat, Bool.eq_iff_iff, Bool.and_eq_true, decide_eq_true_iff, beq_iff_eq]
    refine and_congr Iff.rfl ?_
    have := bne_nat (c.proper.mstatus &&& 131072#64) 0#64
    exact (Bool.eq_iff_iff.1 this).trans bne_iff_ne
  unfold CpuV.eff
  refine ifB_intro (fun h => ?_) (fun h => ?_)
  · rw [e1] at h
    rw [if_pos (of_decide_eq_true h)]
    repeat (refine need_intro (by first | decide | exact fun h => h | exact nt | exact an2 | rfl | (simp; done) | fail) ?_)
    refine ⟨rfl, ?_⟩
    have h11 : min (Int.toNat 11) IntKind.u64.bits = 11 := by decide
    show IntKind.i64.wrap ((bitX .and .u64 (c.proper.mstatus.toNat : Int) 6144).fdiv (2 ^ min (Int.toNat 11) IntKind.u64.bits)) = _
    rw [h11, and_u64, ofInt_toNat, fdiv_pow]
    have : ((c.proper.mstatus &&& 6144#64) >>> 11).toNat ≤ 6144 := by
      rw [BitVec.toNat_ushiftRight, Nat.shiftRight_eq_div_pow, BitVec.toNat_and]
      exact Nat.le_trans (Nat.div_le_self _ _) Nat.and_le_right
    exact i64_in (by omega) (by show (((c.proper.mstatus &&& 6144#64) >>> 11).toNat : Int) ≤ _; omega)
  · rw [e1] at h
    rw [if_neg (of_decide_eq_false h)]
    exact eqvE_refl _
end Go.Proofs.Ytghcdkpgcanpgaa

/- Watching: the rules 1 to 5 and 7, as the program asks them. No condition but the lists' lengths. -/
namespace Go.Anv
open Go
/-- The boxes of what the rules' closures hold. -/
def boxes : List Blk := [.cells true [.one (.ptr 7 0)] 0, .cells true [.one (.ptr 7 0)] 0, .cells true [.one (.ptr 7 97)] 0, .cells true [.one (.ptr 7 198)] 0, .cells true [.one (.ptr 7 82)] 0, .cells true [.one (.ptr 7 179)] 0]
def Sc.hb (z : Sc) : List Blk := z.h ++ boxes
def allN (n : Nat) (f : Nat → Bool) : Bool := (List.range n).all f
theorem allN_of {n : Nat} {f : Nat → Bool} (h : ∀ i, i < n → f i = true) : allN n f = true := List.all_eq_true.2 fun i hi => h i (List.mem_range.1 hi)
theorem allN_not {n i : Nat} {f : Nat → Bool} (hi : i < n) (h : f i = false) : allN n f = false := by
  rw [Bool.eq_false_iff]
  intro e
  have := List.all_eq_true.1 e i (List.mem_range.2 hi)
  rw [h] at this
  cases this
def ramAt (i : Nat) : B64 := 0x80000000#64 + BitVec.ofNat 64 i
def Sc.rule1 (z : Sc) : Bool := z.t.nr == z.s.nr && cpuS z.e z.d
def Sc.rule2 (z : Sc) : Bool := decide (z.r.kind ≥ 1) && decide (z.r.kind ≤ 5) && z.r.mode == z.c.mode && z.r.pc == z.c.pc && z.r.nextMode == z.d.mode && z.r.next == z.d.pc
def Sc.sameS (z : Sc) : Bool := cpuS z.d z.c && devS z.t z.s z.k z.l && (z.t.nr == z.s.nr && eqB z.t.nr z.k.ram z.l.ram)
def Sc.rule3 (z : Sc) : Bool := (z.r.kind == 5) == (z.s.off != 0) && (!(z.r.kind == 5) || z.sameS)
def xS (x y : Nat → B64) : Bool := allN 32 fun j => x j == y j
def Sc.rule4 (z : Sc) : Bool :=
  if z.r.kind != 1 then xS z.d.x z.c.x && z.r.rd == 0 && z.r.val == 0#64 && z.r.mem == 0 && z.r.addr == 0#64 && z.r.size == 0 && z.r.data == 0#64
  else if z.r.rd < 0 ∨ 31 < z.r.rd then false else xS z.d.x (fun j => if z.r.rd ≠ 0 ∧ j = z.r.rd.toNat then z.r.val else z.c.x j)
def Sc.rule5 (z : Sc) : Bool := z.c.mode != 0 || allN z.s.nr fun i => z.k.ram i == z.l.ram i || grantI z.c.cfg z.c.addr (ramAt i) 2
def pmpS (c d : CpuV) : Bool := (allN 16 fun j => c.cfg j == d.cfg j) && allN 16 fun j => c.addr j == d.addr j
def Sc.rule7 (z : Sc) : Bool := z.c.mode != 0 || pmpS z.d z.c
theorem nn2 {a b : Bool} (g : (a && !!b) = false) (h : a = true) : (!b) = true := by cases b <;> simp_all
theorem eqx (x y : Nat → B64) : (((List.range 32).all fun j => wfun x j == wfun y j) && true) = xS x y := by
  rw [Bool.and_true]
  unfold xS allN; congr 1; funext j; exact beq_nat _ _
theorem reg_yes (x y : Nat → B64) (r : Int) (v : B64) (h : (r != 0) = true) : (((List.range 32).all fun j => wfun x j == (fun j => if j = r.toNat then (v.toNat : Int) else wfun y j) j) && true) = xS x (fun j => if r ≠ 0 ∧ j = r.toNat then v else y j) := by
  rw [Bool.and_true]
  unfold xS allN; congr 1; funext j
  have hr : r ≠ 0 := by simpa using h
  by_cases hj : j = r.toNat
  · simp only [hj, if_true, hr, ne_eq, not_false_eq_true, and_self]
    exact beq_nat _ _
  · simp only [hj, if_false, and_false]
    exact beq_nat _ _
theorem reg_no (x y : Nat → B64) (r : Int) (v : B64) (h : (r != 0) = false) : (((List.range 32).all fun j => wfun x j == wfun y j) && true) = xS x (fun j => if r ≠ 0 ∧ j = r.toNat then v else y j) := by
  rw [eqx]
  have hr : r = 0 := by simpa using h
  simp [hr]
theorem e0 (a : B64) : ((a.toNat : Int) == 0) = (a == 0#64) := beq_nat a 0#64
theorem all_b (n : Nat) (p q : Nat → B8) : ((List.range n).all fun j => bfun p j == bfun q j) = allN n fun j => p j == q j := by
  unfold allN; congr 1; funext j; exact beq_nat _ _
theorem all_w (n : Nat) (p q : Nat → B64) : ((List.range n).all fun j => wfun p j == wfun q j) = allN n fun j => p j == q j := by
  unfold allN; congr 1; funext j; exact beq_nat _ _
end Go.Anv
namespace Go.Proofs.Ytghcdkpgcanpgaa
open Go Go.Anv
set_option maxRecDepth 100000 in
theorem rule1_spec (z : Sc) : Does TB 115 [.s (.ptr 13 0), .s (.ptr 12 0), .s (.ptr 8 0), .s (.ptr 10 0)] z.hb (fun v h' => v = .s (.bool z.rule1) ∧ h' = z.hb) := by
  refine fnX_does TB Try.func115 rfl (by decide) (fun O on hO => ?_)
  refine draw_held on rfl (fun _ _ h => h) ?_
  repeat (refine need_intro (by first | exact fun h => h | exact nt | exact an2 | rfl | (simp; done) | fail) ?_)
  refine Ends.ro (H := z.hb) rfl ?_ rfl
  refine (cond_and _ _).trans ?_
  unfold Sc.rule1
  congr 1
  exact int_beq _ _
set_option maxRecDepth 100000 in
theorem rule2_spec (z : Sc) : Does TB 116 [.s (.ptr 11 0), .s (.ptr 9 0), .s (.ptr 10 0)] z.hb (fun v h' => v = .s (.bool z.rule2) ∧ h' = z.hb) := by
  refine fnX_does TB Try.func116 rfl (by decide) (fun O on hO => ?_)
  refine draw_held on rfl (fun _ _ h => h) ?_
  repeat (refine need_intro (by first | exact fun h => h | exact nt | exact an2 | rfl | (simp; done) | fail) ?_)
  refine Ends.ro (H := z.hb) rfl ?_ rfl
  show _ = z.rule2
  unfold Sc.rule2
  simp only [cond_and, beq_nat]
  done
set_option maxRecDepth 100000 in
theorem wsame_spec (c d : CpuV) (s t : BusV) (l k : Lists) (c0 c1 c2 c3 c4 c5 : Nat) :
    Does TB 118 [.agg (wsegs c s (.gs 0 0 s.nr c0) (.gs 1 0 s.ni c1) (.gs 2 0 s.no c2)), .agg (wsegs d t (.gs 3 0 t.nr c3) (.gs 4 0 t.ni c4) (.gs 5 0 t.no c5))] (l.blks s ++ k.blks t) (fun v h' => v = .s (.bool (cpuS c d && devS s t l k && (s.nr == t.nr && eqB s.nr l.ram k.ram))) ∧ h' = l.blks s ++ k.blks t) := by
  refine fnX_does TB Try.func118 rfl (by decide) (fun O on hO => ?_)
  repeat (refine need_intro (by first | exact fun h => h | exact nt | exact an2 | rfl | (simp; done) | fail) ?_)
  have fin : ∀ {x : Bool} {b e : Blk}, x = (cpuS c d && devS s t l k && (s.nr == t.nr && eqB s.nr l.ram k.ram)) → Anv.Ends 6 (fun v h' => v = .s (.bool (cpuS c d && devS s t l k && (s.nr == t.nr && eqB s.nr l.ram k.ram))) ∧ h' = l.blks s ++ k.blks t) (.s (.bool x)) (l.blks s ++ k.blks t ++ [b, e]) := by
    rintro x b e rfl
    exact Ends.ro rfl rfl rfl
  refine ifB_intro (fun g => ?_) (fun g => ?_)
  · refine Does.ungd (b := [_, _]) ⟨⟨g, rfl⟩, ⟨g, rfl⟩, trivial⟩ ?_
    replace g : cpuS c d = true := g
    refine Does.atc (sameBus_spec s t l k c0 c1 c2 c3 c4 c5) [0, 1, 2, 3, 4, 5] rfl ⟨rfl, rfl, rfl, rfl, rfl, rfl, trivial⟩ (by decide) ?_
    repeat (refine need_intro (by first | exact fun h => h | exact nt | exact an2 | rfl | (simp; done) | fail) ?_)
    refine ifB_intro (fun g2 => ?_) (fun g2 => ?_)
    · refine Does.ungd (b := [_, _]) ⟨⟨g2, rfl⟩, ⟨g2, rfl⟩, trivial⟩ ?_
      replace g2 : (bif cpuS c d then devS s t l k else false) = true := g2
      refine Does.atc (equal2_spec l.mr k.mr s.nr t.nr c0 c3 l.sr k.sr l.ram k.ram) [0, 3] rfl ⟨rfl, rfl, trivial⟩ (by decide) ?_
      repeat (refine need_intro (by first | exact fun h => h | exact nt | exact an2 | rfl | (simp; done) | fail) ?_)
      refine fin ?_
      show (bif (bif cpuS c d then devS s t l k else false) then _ else false) = _
      rw [cond_and, cond_and]
    · replace g2 : (bif cpuS c d then devS s t l k else false) = false := g2
      repeat (refine need_intro (by first | exact g2 | exact fun h => h | exact nt | exact an2 | rfl | (simp; done) | fail) ?_)
      refine fin ?_
      rw [cond_and] at g2
      rw [g2]; rfl
  · replace g : cpuS c d = false := g
    repeat (refine need_intro (by first | exact g | exact fun h => h | exact nt | exact an2 | rfl | (simp; done) | fail) ?_)
    refine fin ?_
    rw [g]; rfl
set_option maxRecDepth 100000 in
theorem rule3_spec (z : Sc) : Does TB 117 [.s (.ptr 11 0), .s (.ptr 12 0), .s (.ptr 8 0)] z.hb (fun v h' => v = .s (.bool z.rule3) ∧ h' = z.hb) := by
  refine fnX_does TB Try.func117 rfl (by decide) (fun O on hO => ?_)
  refine draw_held on rfl (fun _ _ h => h) ?_
  repeat (refine need_intro (by first | exact fun h => h | exact nt | exact an2 | rfl | (simp; done) | fail) ?_)
  refine ifB_intro (fun g => ?_) (fun g => ?_)
  · refine Does.ungd (b := [_, _]) ⟨⟨g, rfl⟩, ⟨g, rfl⟩, trivial⟩ ?_
    replace g : ((z.r.kind == 5) == (z.s.off != 0) && !!(z.r.kind == 5)) = true := g
    refine Does.atc (wsame_spec z.d z.c z.t z.s z.k z.l z.c3 z.c4 z.c5 z.c0 z.c1 z.c2) [3, 4, 5, 0, 1, 2] rfl ⟨rfl, rfl, rfl, rfl, rfl, rfl, trivial⟩ (by decide) ?_
    repeat (refine need_intro (by first | exact fun h => h | exact nt | exact an2 | rfl | (simp; done) | fail) ?_)
    refine Ends.ro (H := z.hb) rfl ?_ rfl
    show (bif (z.r.kind == 5) == (z.s.off != 0) then (bif !(z.r.kind == 5) then true else z.sameS) else false) = z.rule3
    rw [cond_or, cond_and]
    rfl
  · replace g : ((z.r.kind == 5) == (z.s.off != 0) && !!(z.r.kind == 5)) = false := g
    repeat (refine need_intro (by first | exact g | exact nn2 g | exact fun h => h | exact nt | exact an2 | rfl | (simp; done) | fail) ?_)
    refine Ends.ro (H := z.hb) rfl ?_ rfl
    show (bif (z.r.kind == 5) == (z.s.off != 0) then true else false) = z.rule3
    unfold Sc.rule3
    revert g
    cases ((z.r.kind == 5) == (z.s.off != 0)) <;> cases (z.r.kind == 5) <;> intro g <;> first | rfl | cases g
set_option maxRecDepth 100000 in
theorem rule7_spec (z : Sc) : Does TB 124 [.s (.ptr 9 0), .s (.ptr 10 0)] z.hb (fun v h' => v = .s (.bool z.rule7) ∧ h' = z.hb) := by
  refine fnX_does TB Try.func124 rfl (by decide) (fun O on hO => ?_)
  refine draw_held on rfl (fun _ _ h => h) ?_
  repeat (refine need_intro (by first | exact fun h => h | exact nt | exact an2 | rfl | (simp; done) | fail) ?_)
  refine Ends.ro (H := z.hb) rfl ?_ rfl
  refine (cond_or _ _).trans ?_
  unfold Sc.rule7 pmpS
  congr 1
  show (((List.range 16).all fun j => bfun z.d.cfg j == bfun z.c.cfg j) && (((List.range 16).all fun j => wfun z.d.addr j == wfun z.c.addr j) && true)) = _
  rw [all_b, all_w, Bool.and_true]
set_option maxRecDepth 100000 in
theorem rule4_spec (z : Sc) : Does TB 119 [.s (.ptr 7 0)] z.h (fun v h' => v = .s (.bool z.rule4) ∧ h' = z.h) := by
  refine fnX_does TB Try.func119 rfl (by decide) (fun O on hO => ?_)
  have fin : ∀ {x : Bool} {b e : Blk}, x = z.rule4 → Anv.Ends 8 (fun v h' => v = .s (.bool z.rule4) ∧ h' = z.h) (.s (.bool x)) (z.h ++ [b, e]) := by
    rintro x b e rfl
    exact Ends.ro rfl rfl rfl
  refine draw_held on rfl (fun _ _ h => h) ?_
  refine ⟨?_, ?_⟩
  all_goals repeat (refine need_intro (by first | exact fun h => h | exact nt | exact an2 | rfl | (simp; done) | fail) ?_)
  all_goals (
    refine ifB_intro (fun h1 => ?_) (fun h1 => ?_)
    · refine draw_held on rfl (fun _ _ h => h) ?_
      repeat (refine need_intro (by first | exact fun h => h | exact nt | exact an2 | rfl | (simp; done) | fail) ?_)
      refine fin ?_
      unfold Sc.rule4
      rw [if_pos h1]
      simp only [cond_and, eqx, e0]
    · have h1' : ¬ (z.r.kind != 1) = true := by rw [h1]; decide
      repeat (refine need_intro (by first | exact fun h => h | exact nt | exact an2 | rfl | (simp; done) | fail) ?_)
      refine ifB_intro (fun h2 => ?_) (fun h2 => ?_)
      · refine fin ?_
        unfold Sc.rule4
        rw [if_neg h1', if_pos]
        rw [cond_or, Bool.or_eq_true, decide_eq_true_eq, decide_eq_true_eq] at h2
        exact h2
      · rw [cond_or, Bool.or_eq_false_iff, decide_eq_false_iff_not, decide_eq_false_iff_not] at h2
        have h2' : ¬ (z.r.rd < 0 ∨ 31 < z.r.rd) := by omega
        refine ifB_intro (fun h3 => ?_) (fun h3 => ?_)
        · repeat (refine need_intro (by first | omega | exact ⟨by omega, by omega⟩ | exact fun h => h | exact nt | exact an2 | rfl | (simp; done) | fail) ?_)
          refine draw_held on rfl (fun _ _ h => h) ?_
          repeat (refine need_intro (by first | exact fun h => h | exact nt | exact an2 | rfl | (simp; done) | fail) ?_)
          refine fin ?_
          unfold Sc.rule4
          rw [if_neg h1', if_neg h2']
          exact reg_yes _ _ _ _ h3
        · refine draw_held on rfl (fun _ _ h => h) ?_
          repeat (refine need_intro (by first | exact fun h => h | exact nt | exact an2 | rfl | (simp; done) | fail) ?_)
          refine fin ?_
          unfold Sc.rule4
          rw [if_neg h1', if_neg h2']
          exact reg_no _ _ _ _ h3)
set_option maxRecDepth 100000 in
theorem bytes_spec (z : Sc) (ok : z.Ok) (hnr : z.t.nr = z.s.nr) (J : List Blk) (g : FuncId) (b : Nat) (may : B64 → Bool) (hm : ∀ a : B64, Does TB g [.s (.int .u64 a.toNat), .s (.ptr b 0)] (z.h ++ J) (fun v h' => v = .s (.bool (may a)) ∧ h' = z.h ++ J)) :
    Does TB 121 [.s (.ptr 7 0), .s (.func (.func g) [] [.ptr b 0])] (z.h ++ J) (fun v h' => v = .s (.bool (allN z.s.nr fun i => z.k.ram i == z.l.ram i || may (ramAt i))) ∧ h' = z.h ++ J) := by
  refine fnX_does TB Try.func121 rfl (by decide) (fun O on hO => ?_)
  have hs := ok.nr
  refine loop_by (A := Nat) on (fun k => [(14, .s (.int .i64 (k : Int)))]) (fun _ => z.h ++ J) (fun k => k ≤ z.s.nr ∧ ∀ i, i < k → (z.k.ram i == z.l.ram i || may (ramAt i)) = true) (fun k => z.s.nr - k) 0 ⟨Nat.zero_le _, fun i hi => absurd hi (Nat.not_lt_zero i)⟩ ?_ ?_
  · refine ⟨?_, eqvH_refl _⟩
    repeat' (first | exact eqvT_nil | refine eqvT_junk ?_ | refine eqvT_same ?_ | refine eqvT_int ?_ ?_)
  intro i ⟨hi, hp⟩
  refine ifB_intro (fun h2 => ?_) (fun h2 => ?_)
  · have hi1 : i < z.s.nr := by have := of_decide_eq_true h2; omega
    repeat (refine need_intro (by first | omega | exact ⟨by omega, by omega⟩ | exact fun h => h | exact nt | exact an2 | rfl | (simp; done) | fail) ?_)
    have hne : (bfun z.k.ram (0 + (i : Int).toNat) != bfun z.l.ram (0 + (i : Int).toNat)) = (z.k.ram i != z.l.ram i) := by
      rw [Nat.zero_add, Int.toNat_natCast]
      exact bne_nat _ _
    have next : (z.k.ram i == z.l.ram i || may (ramAt i)) = true → i + 1 ≤ z.s.nr ∧ ∀ j, j < i + 1 → (z.k.ram j == z.l.ram j || may (ramAt j)) = true := by
      intro h
      refine ⟨hi1, fun j hj => ?_⟩
      rcases Nat.lt_succ_iff_lt_or_eq.1 hj with h' | h'
      · exact hp j h'
      · subst h'; exact h
    refine ifB_intro (fun h3 => ?_) (fun h3 => ?_)
    · refine need_intro h3 ?_
      refine Does.ungd (b := [.s (.int .u64 (ramAt i).toNat), .s (.ptr b 0)]) ⟨⟨h3, congrArg (fun z => EV.s (.int .u64 z)) (addk (a := 0x80000000#64) (k := i) (by omega))⟩, rfl, trivial⟩ ?_
      refine (hm (ramAt i)).mono ?_
      rintro _ _ ⟨rfl, rfl⟩
      repeat (refine need_intro (by first | exact fun h => h | exact nt | exact an2 | rfl | (simp; done) | fail) ?_)
      refine ifB_intro (fun h4 => ?_) (fun h4 => ?_)
      · replace h4 := (cond_and _ _).symm.trans h4
        rw [Bool.and_eq_true, Bool.not_eq_true'] at h4
        refine Ends.same ⟨?_, rfl⟩ (Nat.le_refl _)
        show EV.s (.bool false) = _
        rw [hne, bne_iff_ne] at h3
        rw [allN_not hi1]
        rw [h4.2, beq_eq_false_iff_ne.2 h3]; rfl
      · replace h4 := (cond_and _ _).symm.trans h4
        rw [h3, Bool.true_and, Bool.not_eq_false'] at h4
        refine ⟨i + 1, next (by rw [h4, Bool.or_true]), by simp only; omega, ?_⟩
        refine ⟨?_, eqvH_refl _⟩
        repeat' (first | exact eqvT_nil | refine eqvT_junk ?_ | refine eqvT_same ?_ | refine eqvT_int ?_ ?_)
        rw [i64_in (by omega) (by omega)]; omega
    · repeat (refine need_intro (by first | exact h3 | exact fun h => h | exact nt | exact an2 | rfl | (simp; done) | fail) ?_)
      refine ifB_intro (fun h => absurd (h.symm.trans h3) (by decide)) (fun _ => ?_)
      repeat (refine need_intro (by first | exact h3 | exact fun h => h | exact nt | exact an2 | rfl | (simp; done) | fail) ?_)
      rw [hne, bne_eq_false_iff_eq] at h3
      refine ⟨i + 1, next (by rw [beq_iff_eq.2 h3, Bool.true_or]), by simp only; omega, ?_⟩
      refine ⟨?_, eqvH_refl _⟩
      repeat' (first | exact eqvT_nil | refine eqvT_junk ?_ | refine eqvT_same ?_ | refine eqvT_int ?_ ?_)
      rw [i64_in (by omega) (by omega)]; omega
  · have hi1 : i = z.s.nr := by have := of_decide_eq_false h2; omega
    subst hi1
    refine Ends.same ⟨?_, rfl⟩ (Nat.le_refl _)
    show EV.s (.bool true) = _
    rw [allN_of hp]
set_option maxRecDepth 100000 in
theorem rule5_may (z : Sc) (a : B64) : Does TB 122 [.s (.int .u64 a.toNat), .s (.ptr 9 0)] z.hb (fun v h' => v = .s (.bool (grantI z.c.cfg z.c.addr a 2)) ∧ h' = z.hb) := by
  refine fnX_does TB Try.func122 rfl (by decide) (fun O on hO => ?_)
  refine (granted_spec z.c.cfg z.c.addr a 2 _).mono ?_
  rintro _ _ ⟨rfl, rfl⟩
  exact Ends.ro (H := z.hb) (J := []) rfl rfl rfl
set_option maxRecDepth 100000 in
theorem rule5_spec (z : Sc) (ok : z.Ok) (hnr : z.t.nr = z.s.nr) : Does TB 120 [.s (.ptr 9 0), .s (.ptr 8 0)] z.hb (fun v h' => v = .s (.bool z.rule5) ∧ h' = z.hb) := by
  refine fnX_does TB Try.func120 rfl (by decide) (fun O on hO => ?_)
  repeat (refine need_intro (by first | exact fun h => h | exact nt | exact an2 | rfl | (simp; done) | fail) ?_)
  have fin : ∀ {x : Bool}, x = z.rule5 → Anv.Ends 14 (fun v h' => v = .s (.bool z.rule5) ∧ h' = z.hb) (.s (.bool x)) z.hb := by
    rintro x rfl
    exact Ends.ro (H := z.hb) (J := []) rfl rfl rfl
  refine ifB_intro (fun g => ?_) (fun g => ?_)
  · refine Does.ungd (b := [.s (.ptr 7 0), .s (.func (.func 122) [] [.ptr 9 0])]) ⟨⟨g, rfl⟩, ⟨g, rfl⟩, trivial⟩ ?_
    replace g : (!(z.c.mode != 0)) = true := g
    refine (bytes_spec z ok hnr boxes _ 9 (fun a => grantI z.c.cfg z.c.addr a 2) (rule5_may z)).mono ?_
    rintro _ _ ⟨rfl, rfl⟩
    repeat (refine need_intro (by first | exact g | exact fun h => h | exact nt | exact an2 | rfl | (simp; done) | fail) ?_)
    refine fin ?_
    show (bif z.c.mode != 0 then true else _) = z.rule5
    rw [cond_or]
    rfl
  · replace g : (!(z.c.mode != 0)) = false := g
    have g' : (z.c.mode != 0) = true := by simpa using g
    repeat (refine need_intro (by first | exact g | exact g' | exact fun h => h | exact nt | exact an2 | rfl | (simp; done) | fail) ?_)
    refine fin ?_
    unfold Sc.rule5
    rw [g']
    rfl
end Go.Proofs.Ytghcdkpgcanpgaa

/- Watching: the rules 6, 8, 9, 10, as the program asks them. No condition but the lists' lengths. -/
namespace Go.Anv
open Go
def Sc.at_ (z : Sc) : Nat := (z.r.addr - 0x80000000#64).toNat
def byteAt (v : B64) (k : Nat) : B8 := (v >>> (8 * k)).setWidth 8
def Sc.rule6 (z : Sc) : Bool :=
  (allN z.s.nr fun i => z.k.ram i == z.l.ram i || (z.r.stores && z.r.within (ramAt i))) && (!z.r.stores || (!z.r.inRam z.t.nr || allN z.r.size.toNat fun k => z.k.ram (z.at_ + k) == byteAt z.r.data k))
def badLock (z : Sc) (i : Nat) : Bool := (lockA z.c.cfg i && z.d.cfg i != z.c.cfg i) || ((lockA z.c.cfg i || lockT z.c.cfg i) && z.d.addr i != z.c.addr i)
def Sc.rule8 (z : Sc) : Bool := allN 16 fun i => !badLock z i
def Sc.rule9 (z : Sc) : Bool :=
  if z.c.mode != 0 then true else
  if z.d.mtvec != z.c.mtvec || z.d.mie != z.c.mie || z.d.mcounteren != z.c.mcounteren || z.d.mcountinhibit != z.c.mcountinhibit || z.d.menvcfg != z.c.menvcfg || z.d.mscratch != z.c.mscratch then false else
  z.r.trapped || (z.d.mstatus == z.c.mstatus && z.d.mepc == z.c.mepc && z.d.mcause == z.c.mcause && z.d.mtval == z.c.mtval)
def noRes (c : CpuV) : Bool := c.rvalid == false && (c.raddr == 0#64 && c.rsize == 0)
def Sc.rule10 (z : Sc) : Bool :=
  if z.r.trapped then
    (z.d.mepc == z.c.pc && z.d.mcause == z.r.cause && z.d.mtval == z.r.tval && z.d.mstatus == entryOf z.c.mstatus z.c.mode) && z.d.mode == 3 && !z.d.waiting && noRes z.d && z.d.pc == handlerOf z.c.mtvec z.r.cause
  else true
theorem byte_of (v : B64) (k : Nat) (hk : k < 8) : IntKind.u8.wrap ((v.toNat : Int).fdiv (2 ^ min (IntKind.i64.wrap (8 * (k : Int))).toNat IntKind.u64.bits)) = ((byteAt v k).toNat : Int) := by
  rw [i64_in (by omega) (by omega), show min (8 * (k : Int)).toNat IntKind.u64.bits = 8 * k from (by
    have : (8 * (k : Int)).toNat = 8 * k := by omega
    rw [this]
    exact Nat.min_eq_left (by show 8 * k ≤ 64; omega)), fdiv_pow, wrap_u8]
  unfold byteAt
  rw [BitVec.toNat_setWidth, BitVec.toNat_ofInt]
  omega
end Go.Anv
namespace Go.Proofs.Ytghcdkpgcanpgaa
open Go Go.Anv
def box8 : List Blk := [.cells true [.one (.ptr 7 0)] 0]
set_option maxRecDepth 100000 in
theorem rule6_may (z : Sc) (a : B64) : Does TB 153 [.s (.int .u64 a.toNat), .s (.ptr 8 0)] (z.h ++ box8) (fun v h' => v = .s (.bool (z.r.stores && z.r.within a)) ∧ h' = z.h ++ box8) := by
  refine fnX_does TB Try.func153 rfl (by decide) (fun O on hO => ?_)
  refine Does.atc (stores_spec z) [0, 1, 2, 3, 4, 5, 6, 7] rfl ⟨rfl, rfl, rfl, rfl, rfl, rfl, rfl, rfl, trivial⟩ (by decide) ?_
  repeat (refine need_intro (by first | exact fun h => h | exact nt | exact an2 | rfl | (simp; done) | fail) ?_)
  refine ifB_intro (fun g => ?_) (fun g => ?_)
  · refine Does.ungd (b := [.s (.ptr 7 0), .s (.int .u64 a.toNat)]) ⟨⟨g, rfl⟩, ⟨g, rfl⟩, trivial⟩ ?_
    refine Does.atc (within_spec z a) [0, 1, 2, 3, 4, 5, 6, 7] rfl ⟨rfl, rfl, rfl, rfl, rfl, rfl, rfl, rfl, trivial⟩ (by decide) ?_
    repeat (refine need_intro (by first | exact fun h => h | exact nt | exact an2 | rfl | (simp; done) | fail) ?_)
    exact Ends.ro (H := z.h ++ box8) (J := []) rfl (cond_and _ _) rfl
  · repeat (refine need_intro (by first | exact g | exact fun h => h | exact nt | exact an2 | rfl | (simp; done) | fail) ?_)
    refine Ends.ro (H := z.h ++ box8) (J := []) rfl ?_ rfl
    replace g : z.r.stores = false := g
    show false = (z.r.stores && _)
    rw [g]
    rfl
set_option maxRecDepth 100000 in
theorem rule6_spec (z : Sc) (ok : z.Ok) (hnr : z.t.nr = z.s.nr) : Does TB 123 [.s (.ptr 7 0)] z.h (fun v h' => v = .s (.bool z.rule6) ∧ h' = z.h) := by
  refine fnX_does TB Try.func123 rfl (by decide) (fun O on hO => ?_)
  have fin : ∀ {x : Bool}, x = z.rule6 → Anv.Ends 8 (fun v h' => v = .s (.bool z.rule6) ∧ h' = z.h) (.s (.bool x)) (z.h ++ box8) := by
    rintro x rfl
    exact Ends.ro rfl rfl rfl
  refine (bytes_spec z ok hnr box8 153 8 (fun a => z.r.stores && z.r.within a) (rule6_may z)).mono ?_
  rintro _ _ ⟨rfl, rfl⟩
  refine ifB_intro (fun h1 => ?_) (fun h1 => ?_)
  · refine fin ?_
    rw [Bool.not_eq_true'] at h1
    unfold Sc.rule6
    rw [h1]; rfl
  rw [Bool.not_eq_false'] at h1
  refine Does.atc (stores_spec z) [0, 1, 2, 3, 4, 5, 6, 7] rfl ⟨rfl, rfl, rfl, rfl, rfl, rfl, rfl, rfl, trivial⟩ (by decide) ?_
  repeat (refine need_intro (by first | exact fun h => h | exact nt | exact an2 | rfl | (simp; done) | fail) ?_)
  refine ifB_intro (fun h2 => ?_) (fun h2 => ?_)
  · refine Does.ungd (b := [.s (.ptr 7 0)]) ⟨⟨h2, rfl⟩, trivial⟩ ?_
    replace h2 : z.r.stores = true := by simpa using (show (!(!z.r.stores)) = true from h2)
    refine Does.atc (inRam_spec z ok) [0, 1, 2, 3, 4, 5, 6, 7] rfl ⟨rfl, rfl, rfl, rfl, rfl, rfl, rfl, rfl, trivial⟩ (by decide) ?_
    repeat (refine need_intro (by first | exact fun h => h | exact nt | exact an2 | rfl | (simp; done) | fail) ?_)
    refine ifB_intro (fun h3 => ?_) (fun h3 => ?_)
    · replace h3 : (bif !z.r.stores then true else !z.r.inRam z.t.nr) = true := h3
      refine fin ?_
      unfold Sc.rule6
      rw [h1, h2]
      rw [h2] at h3
      replace h3 : (!z.r.inRam z.t.nr) = true := h3
      rw [h3]; rfl
    · replace h3 : (bif !z.r.stores then true else !z.r.inRam z.t.nr) = false := h3
      rw [h2] at h3
      replace h3 : (!z.r.inRam z.t.nr) = false := h3
      rw [Bool.not_eq_false'] at h3
      have hsz := ok.size
      have hpl : z.r.placed = true := by
        unfold RowV.inRam at h3
        rw [Bool.and_eq_true, Bool.and_eq_true] at h3
        exact h3.1.1
      have hs8 := (placed_size hpl).1
      have hat : z.at_ ≤ z.t.nr ∧ z.r.size ≤ ((z.t.nr - z.at_ : Nat) : Int) := by
        unfold RowV.inRam at h3
        rw [Bool.and_eq_true] at h3
        have h5 := Bool.and_eq_true_iff.1 h3.2
        exact ⟨of_decide_eq_true h5.1, of_decide_eq_true h5.2⟩
      have ea : IntKind.u64.wrap (((z.r.addr.toNat : Nat) : Int) - 2147483648) = (z.at_ : Int) := sub64 z.r.addr 0x80000000#64
      have hmr := ok.mr
      refine loop_by (A := Nat) on (fun k => [(28, .s (.int .i64 (k : Int)))]) (fun _ => z.h ++ box8) (fun k => (k : Int) ≤ z.r.size ∧ ∀ i, i < k → (z.k.ram (z.at_ + i) == byteAt z.r.data i) = true) (fun k => 8 - k) 0 ⟨by omega, fun i hi => absurd hi (Nat.not_lt_zero i)⟩ ?_ ?_
      · refine ⟨?_, eqvH_refl _⟩
        repeat' (first | exact eqvT_nil | refine eqvT_junk ?_ | refine eqvT_same ?_ | refine eqvT_int ?_ ?_)
      intro k ⟨hk, hp⟩
      refine ifB_intro (fun h4 => ?_) (fun h4 => ?_)
      · have hk1 : (k : Int) < z.r.size := of_decide_eq_true h4
        have ek : IntKind.u64.wrap (IntKind.u64.wrap (((z.r.addr.toNat : Nat) : Int) - 2147483648) + IntKind.u64.wrap (k : Int)) = ((z.at_ + k : Nat) : Int) := by
          rw [ea, wnat (by omega), show (z.at_ : Int) + (k : Int) = ((z.at_ + k : Nat) : Int) by omega, wnat (by omega)]
        have hkn : z.at_ + k < z.t.nr := by omega
        have h8 : IntKind.i64.wrap (8 * (k : Int)) = ((8 * k : Nat) : Int) := by rw [i64_in (by omega) (by omega)]; omega
        refine draw_held on rfl (fun _ _ h => h) ?_
        repeat (refine need_intro (by first | (rw [ek]; omega) | (rw [ek]; exact ⟨by omega, by omega⟩) | (rw [h8]; omega) | exact fun h => h | exact nt | exact an2 | exact an3 | rfl | (simp; done) | fail) ?_)
        have e1 : (bfun z.k.ram (0 + (IntKind.u64.wrap (IntKind.u64.wrap (((z.r.addr.toNat : Nat) : Int) - 2147483648) + IntKind.u64.wrap (k : Int))).toNat) != IntKind.u8.wrap ((((z.r.data.toNat : Nat) : Int)).fdiv (2 ^ min (IntKind.i64.wrap (8 * (k : Int))).toNat IntKind.u64.bits))) = !(z.k.ram (z.at_ + k) == byteAt z.r.data k) := by
          rw [ek, Nat.zero_add, Int.toNat_natCast, byte_of _ _ (by omega)]
          exact bne_nat _ _
        refine ifB_intro (fun h5 => ?_) (fun h5 => ?_)
        · refine fin ?_
          have h5 := e1.symm.trans h5
          rw [Bool.not_eq_true'] at h5
          unfold Sc.rule6
          rw [h1, h2, h3, allN_not (i := k) (by omega) h5]
          rfl
        · have h5 := e1.symm.trans h5
          rw [Bool.not_eq_false'] at h5
          refine ⟨k + 1, ⟨by omega, fun j hj => ?_⟩, by simp only; omega, ?_⟩
          · rcases Nat.lt_succ_iff_lt_or_eq.1 hj with h | h
            · exact hp j h
            · subst h; exact h5
          refine ⟨?_, eqvH_refl _⟩
          repeat' (first | exact eqvT_nil | refine eqvT_junk ?_ | refine eqvT_same ?_ | refine eqvT_int ?_ ?_)
          rw [i64_in (by omega) (by omega)]; omega
      · have hk1 : (k : Int) = z.r.size := by have := of_decide_eq_false h4; omega
        refine fin ?_
        unfold Sc.rule6
        rw [h1, h2, h3, show z.r.size.toNat = k by omega, allN_of hp]
        rfl
  · replace h2 : (!(!z.r.stores)) = false := h2
    have h2' : z.r.stores = false := by simpa using h2
    repeat (refine need_intro (by first | exact h2 | exact nt h2' | exact fun h => h | exact nt | exact an2 | exact an3 | rfl | (simp; done) | fail) ?_)
    refine ifB_intro (fun h => absurd (h.symm.trans h2) (by decide)) (fun _ => ?_)
    repeat (refine need_intro (by first | exact h2 | exact nt h2' | exact fun h => h | exact nt | exact an2 | exact an3 | rfl | (simp; done) | fail) ?_)
    refine fin ?_
    unfold Sc.rule6
    rw [h1, h2']
    rfl
set_option maxRecDepth 100000 in
theorem rule8_spec (z : Sc) : Does TB 125 [.s (.ptr 7 0)] z.h (fun v h' => v = .s (.bool z.rule8) ∧ h' = z.h) := by
  refine fnX_does TB Try.func125 rfl (by decide) (fun O on hO => ?_)
  have fin : ∀ {x : Bool} {b e : Blk}, x = z.rule8 → Anv.Ends 8 (fun v h' => v = .s (.bool z.rule8) ∧ h' = z.h) (.s (.bool x)) (z.h ++ [b, e]) := by
    rintro x b e rfl
    exact Ends.ro rfl rfl rfl
  refine draw_to on ?t8 ?_ ?_
  rotate_left 1
  · refine draw_held on rfl (fun _ _ h => h) ?_
    repeat' (first | refine need_intro (by first | exact fun h => h | exact nt | exact an2 | exact an3 | rfl | (simp; done) | fail) ?_ | refine And.intro ?_ ?_)
    · refine toK_id ?_
      rw [hO]; exact Nat.le_of_ble_eq_true rfl
    all_goals first
      | (refine toK_of [0, 1, 2, 3, 4, 5, 6, 7, 8, 9] (by decide) (by rw [hO]; exact ⟨rfl, rfl, rfl, rfl, rfl, rfl, rfl, rfl, trivial⟩) ?_ ?_; (repeat' (first | exact eqvT_nil | refine eqvT_same ?_)); exact ⟨⟨_, rfl, eqvB_refl _⟩, ⟨_, rfl, eqvB_refl _⟩, ⟨_, rfl, eqvB_refl _⟩, ⟨_, rfl, eqvB_refl _⟩, ⟨_, rfl, eqvB_refl _⟩, ⟨_, rfl, eqvB_refl _⟩, ⟨_, rfl, eqvB_refl _⟩, ⟨_, rfl, eqvB_refl _⟩, ⟨_, rfl, eqvB_refl _⟩, ⟨_, rfl, eqvB_refl _⟩, trivial⟩)
      | (refine toK_of [0, 1, 2, 3, 4, 5, 6, 7, 9, 8] (by decide) (by rw [hO]; exact ⟨rfl, rfl, rfl, rfl, rfl, rfl, rfl, rfl, trivial⟩) ?_ ?_; (repeat' (first | exact eqvT_nil | refine eqvT_same ?_)); exact ⟨⟨_, rfl, eqvB_refl _⟩, ⟨_, rfl, eqvB_refl _⟩, ⟨_, rfl, eqvB_refl _⟩, ⟨_, rfl, eqvB_refl _⟩, ⟨_, rfl, eqvB_refl _⟩, ⟨_, rfl, eqvB_refl _⟩, ⟨_, rfl, eqvB_refl _⟩, ⟨_, rfl, eqvB_refl _⟩, ⟨_, rfl, eqvB_refl _⟩, ⟨_, rfl, eqvB_refl _⟩, trivial⟩)
      | fail
  refine loop_by (A := Nat) on (fun k => [(20, .s (.int .i64 (k : Int)))]) (fun _ => z.h ++ [.cells true (pmpSeg z.c.cfg z.c.addr) 0, .cells true (pmpSeg z.d.cfg z.d.addr) 0]) (fun k => k ≤ 16 ∧ ∀ i, i < k → badLock z i = false) (fun k => 16 - k) 0 ⟨Nat.zero_le _, fun i hi => absurd hi (Nat.not_lt_zero i)⟩ ?_ ?_
  · refine ⟨?_, eqvH_refl _⟩
    repeat' (first | exact eqvT_nil | refine eqvT_junk ?_ | refine eqvT_same ?_ | refine eqvT_int ?_ ?_)
  intro i ⟨hi, hp⟩
  refine ifB_intro (fun h2 => ?_) (fun h2 => ?_)
  · have hi1 : i < 16 := by have := of_decide_eq_true h2; omega
    refine (plocked_spec z.c.cfg z.c.addr i hi1 _).mono ?_
    rintro _ _ ⟨rfl, rfl⟩
    refine draw_held on rfl (fun _ _ h => h) ?_
    repeat (refine need_intro (by first | omega | exact fun _ => (by omega) | exact fun _ => ⟨by omega, by omega⟩ | exact fun h => h | exact nt | exact an2 | exact an3 | rfl | (simp; done) | fail) ?_)
    have e1 : (bif (bif lockA z.c.cfg i then bfun z.d.cfg ((i : Nat) : Int).toNat != bfun z.c.cfg ((i : Nat) : Int).toNat else false) then true else bif (lockA z.c.cfg i || lockT z.c.cfg i) then wfun z.d.addr ((i : Nat) : Int).toNat != wfun z.c.addr ((i : Nat) : Int).toNat else false) = badLock z i := by
      rw [cond_or, cond_and, cond_and, Int.toNat_natCast]
      unfold badLock
      congr 2
      · exact bne_nat _ _
      · exact bne_nat _ _
    refine ifB_intro (fun h3 => ?_) (fun h3 => ?_)
    · refine fin ?_
      unfold Sc.rule8
      rw [allN_not hi1 (by rw [e1.symm.trans h3]; rfl)]
    · refine ⟨i + 1, ⟨hi1, fun j hj => ?_⟩, by simp only; omega, ?_⟩
      · rcases Nat.lt_succ_iff_lt_or_eq.1 hj with h | h
        · exact hp j h
        · subst h; exact e1.symm.trans h3
      refine ⟨?_, eqvH_refl _⟩
      repeat' (first | exact eqvT_nil | refine eqvT_junk ?_ | refine eqvT_same ?_ | refine eqvT_int ?_ ?_)
      rw [i64_in (by omega) (by omega)]; omega
  · have hi1 : i = 16 := by have := of_decide_eq_false h2; omega
    subst hi1
    refine fin ?_
    unfold Sc.rule8
    exact (allN_of fun i hi => by rw [hp i hi]; rfl).symm
set_option maxRecDepth 100000 in
theorem rule9_spec (z : Sc) : Does TB 126 [.s (.ptr 7 0)] z.h (fun v h' => v = .s (.bool z.rule9) ∧ h' = z.h) := by
  refine fnX_does TB Try.func126 rfl (by decide) (fun O on hO => ?_)
  have fin : ∀ {x : Bool} {b e : Blk}, x = z.rule9 → Anv.Ends 8 (fun v h' => v = .s (.bool z.rule9) ∧ h' = z.h) (.s (.bool x)) (z.h ++ [b, e]) := by
    rintro x b e rfl
    exact Ends.ro rfl rfl rfl
  refine draw_held on rfl (fun _ _ h => h) ?_
  refine ⟨?_, ?_⟩
  all_goals repeat (refine need_intro (by first | exact fun h => h | exact nt | exact an2 | rfl | (simp; done) | fail) ?_)
  all_goals (
    refine ifB_intro (fun h1 => ?_) (fun h1 => ?_)
    · refine fin ?_
      unfold Sc.rule9
      rw [if_pos h1]
    · have h1' : ¬ (z.c.mode != 0) = true := by rw [h1]; decide
      repeat (refine need_intro (by first | exact fun h => h | exact nt | exact an2 | rfl | (simp; done) | fail) ?_)
      refine ifB_intro (fun h2 => ?_) (fun h2 => ?_)
      · refine fin ?_
        simp only [cond_or, bne_nat] at h2
        unfold Sc.rule9
        rw [if_neg h1', if_pos h2]
      · simp only [cond_or, bne_nat] at h2
        refine Does.atc (trapped_spec z) [0, 1, 2, 3, 4, 5, 6, 7] rfl ⟨rfl, rfl, rfl, rfl, rfl, rfl, rfl, rfl, trivial⟩ (by decide) ?_
        repeat (refine need_intro (by first | exact fun h => h | exact nt | exact an2 | rfl | (simp; done) | fail) ?_)
        refine fin ?_
        unfold Sc.rule9
        rw [if_neg h1', if_neg (by rw [h2]; decide)]
        simp only [cond_or, cond_and, beq_nat])
set_option maxHeartbeats 4000000 in
set_option maxRecDepth 100000 in
theorem rule10_spec (z : Sc) : Does TB 127 [.s (.ptr 7 0)] z.h (fun v h' => v = .s (.bool z.rule10) ∧ h' = z.h) := by
  refine fnX_does TB Try.func127 rfl (by decide) (fun O on hO => ?_)
  refine Does.atc (trapped_spec z) [0, 1, 2, 3, 4, 5, 6, 7] rfl ⟨rfl, rfl, rfl, rfl, rfl, rfl, rfl, rfl, trivial⟩ (by decide) ?_
  refine ifB_intro (fun h1 => ?_) (fun h1 => ?_)
  · refine Ends.ro (H := z.h) (J := []) rfl ?_ rfl
    rw [Bool.not_eq_true'] at h1
    show true = z.rule10
    unfold Sc.rule10
    rw [h1]; rfl
  rw [Bool.not_eq_false'] at h1
  refine draw_to on ?t8 ?_ ?_
  rotate_left 1
  · refine draw_held on rfl (fun _ _ h => h) ?_
    repeat' (first | refine need_intro (by first | exact fun h => h | exact nt | exact an2 | exact an3 | rfl | (simp; done) | fail) ?_ | refine And.intro ?_ ?_)
    · refine toK_id ?_
      rw [hO]; exact Nat.le_of_ble_eq_true rfl
    all_goals first
      | (refine toK_of [0, 1, 2, 3, 4, 5, 6, 7, 8, 9, 10] (by decide) (by rw [hO]; exact ⟨rfl, rfl, rfl, rfl, rfl, rfl, rfl, rfl, trivial⟩) ?_ ?_; (repeat' (first | exact eqvT_nil | refine eqvT_same ?_)); exact ⟨⟨_, rfl, eqvB_refl _⟩, ⟨_, rfl, eqvB_refl _⟩, ⟨_, rfl, eqvB_refl _⟩, ⟨_, rfl, eqvB_refl _⟩, ⟨_, rfl, eqvB_refl _⟩, ⟨_, rfl, eqvB_refl _⟩, ⟨_, rfl, eqvB_refl _⟩, ⟨_, rfl, eqvB_refl _⟩, ⟨_, rfl, eqvB_refl _⟩, ⟨_, rfl, eqvB_refl _⟩, ⟨_, rfl, eqvB_refl _⟩, trivial⟩)
      | (refine toK_of [0, 1, 2, 3, 4, 5, 6, 7, 8, 10, 9] (by decide) (by rw [hO]; exact ⟨rfl, rfl, rfl, rfl, rfl, rfl, rfl, rfl, trivial⟩) ?_ ?_; (repeat' (first | exact eqvT_nil | refine eqvT_same ?_)); exact ⟨⟨_, rfl, eqvB_refl _⟩, ⟨_, rfl, eqvB_refl _⟩, ⟨_, rfl, eqvB_refl _⟩, ⟨_, rfl, eqvB_refl _⟩, ⟨_, rfl, eqvB_refl _⟩, ⟨_, rfl, eqvB_refl _⟩, ⟨_, rfl, eqvB_refl _⟩, ⟨_, rfl, eqvB_refl _⟩, ⟨_, rfl, eqvB_refl _⟩, ⟨_, rfl, eqvB_refl _⟩, ⟨_, rfl, eqvB_refl _⟩, trivial⟩)
      | (refine toK_of [0, 1, 2, 3, 4, 5, 6, 7, 9, 8, 10] (by decide) (by rw [hO]; exact ⟨rfl, rfl, rfl, rfl, rfl, rfl, rfl, rfl, trivial⟩) ?_ ?_; (repeat' (first | exact eqvT_nil | refine eqvT_same ?_)); exact ⟨⟨_, rfl, eqvB_refl _⟩, ⟨_, rfl, eqvB_refl _⟩, ⟨_, rfl, eqvB_refl _⟩, ⟨_, rfl, eqvB_refl _⟩, ⟨_, rfl, eqvB_refl _⟩, ⟨_, rfl, eqvB_refl _⟩, ⟨_, rfl, eqvB_refl _⟩, ⟨_, rfl, eqvB_refl _⟩, ⟨_, rfl, eqvB_refl _⟩, ⟨_, rfl, eqvB_refl _⟩, ⟨_, rfl, eqvB_refl _⟩, trivial⟩)
      | (refine toK_of [0, 1, 2, 3, 4, 5, 6, 7, 9, 10, 8] (by decide) (by rw [hO]; exact ⟨rfl, rfl, rfl, rfl, rfl, rfl, rfl, rfl, trivial⟩) ?_ ?_; (repeat' (first | exact eqvT_nil | refine eqvT_same ?_)); exact ⟨⟨_, rfl, eqvB_refl _⟩, ⟨_, rfl, eqvB_refl _⟩, ⟨_, rfl, eqvB_refl _⟩, ⟨_, rfl, eqvB_refl _⟩, ⟨_, rfl, eqvB_refl _⟩, ⟨_, rfl, eqvB_refl _⟩, ⟨_, rfl, eqvB_refl _⟩, ⟨_, rfl, eqvB_refl _⟩, ⟨_, rfl, eqvB_refl _⟩, ⟨_, rfl, eqvB_refl _⟩, ⟨_, rfl, eqvB_refl _⟩, trivial⟩)
      | (refine toK_of [0, 1, 2, 3, 4, 5, 6, 7, 10, 8, 9] (by decide) (by rw [hO]; exact ⟨rfl, rfl, rfl, rfl, rfl, rfl, rfl, rfl, trivial⟩) ?_ ?_; (repeat' (first | exact eqvT_nil | refine eqvT_same ?_)); exact ⟨⟨_, rfl, eqvB_refl _⟩, ⟨_, rfl, eqvB_refl _⟩, ⟨_, rfl, eqvB_refl _⟩, ⟨_, rfl, eqvB_refl _⟩, ⟨_, rfl, eqvB_refl _⟩, ⟨_, rfl, eqvB_refl _⟩, ⟨_, rfl, eqvB_refl _⟩, ⟨_, rfl, eqvB_refl _⟩, ⟨_, rfl, eqvB_refl _⟩, ⟨_, rfl, eqvB_refl _⟩, ⟨_, rfl, eqvB_refl _⟩, trivial⟩)
      | (refine toK_of [0, 1, 2, 3, 4, 5, 6, 7, 10, 9, 8] (by decide) (by rw [hO]; exact ⟨rfl, rfl, rfl, rfl, rfl, rfl, rfl, rfl, trivial⟩) ?_ ?_; (repeat' (first | exact eqvT_nil | refine eqvT_same ?_)); exact ⟨⟨_, rfl, eqvB_refl _⟩, ⟨_, rfl, eqvB_refl _⟩, ⟨_, rfl, eqvB_refl _⟩, ⟨_, rfl, eqvB_refl _⟩, ⟨_, rfl, eqvB_refl _⟩, ⟨_, rfl, eqvB_refl _⟩, ⟨_, rfl, eqvB_refl _⟩, ⟨_, rfl, eqvB_refl _⟩, ⟨_, rfl, eqvB_refl _⟩, ⟨_, rfl, eqvB_refl _⟩, ⟨_, rfl, eqvB_refl _⟩, trivial⟩)
      | fail
  have fin : ∀ {x : Bool} {b e f : Blk}, x = z.rule10 → Anv.Ends 8 (fun v h' => v = .s (.bool z.rule10) ∧ h' = z.h) (.s (.bool x)) (z.h ++ [b, e, f]) := by
    rintro x b e f rfl
    exact Ends.ro rfl rfl rfl
  refine draw_held on rfl (fun _ _ h => h) ?_
  repeat (refine need_intro (by first | exact fun h => h | exact nt | exact an2 | exact an3 | rfl | (simp; done) | fail) ?_)
  have eG : (bif (bif ((z.d.mepc.toNat : Nat) : Int) == ((z.c.pc.toNat : Nat) : Int) then ((z.d.mcause.toNat : Nat) : Int) == ((z.r.cause.toNat : Nat) : Int) else false) then ((z.d.mtval.toNat : Nat) : Int) == ((z.r.tval.toNat : Nat) : Int) else false) = (z.d.mepc == z.c.pc && z.d.mcause == z.r.cause && z.d.mtval == z.r.tval) := by
    simp only [cond_and, beq_nat]
  refine ifB_intro (fun g1 => ?_) (fun g1 => ?_)
  · refine Does.ungd (b := [.s (.int .u64 z.c.mstatus.toNat), .s (.int .i64 z.c.mode)]) ⟨⟨g1, rfl⟩, ⟨g1, rfl⟩, trivial⟩ ?_
    refine (entry_spec z.c.mstatus z.c.mode _).mono ?_
    rintro _ _ ⟨rfl, rfl⟩
    repeat (refine need_intro (by first | exact fun h => h | exact nt | exact an2 | exact an3 | rfl | (simp; done) | fail) ?_)
    replace g1 := eG.symm.trans g1
    refine draw_held on rfl (fun _ _ h => h) ?_
    repeat (refine need_intro (by first | exact fun h => h | exact nt | exact an2 | exact an3 | rfl | (simp; done) | fail) ?_)
    refine ifB_intro (fun g2 => ?_) (fun g2 => ?_)
    · repeat (refine need_intro (by first | exact g2 | exact fun h => h | exact nt | exact an2 | exact an3 | rfl | (simp; done) | fail) ?_)
      have eR : (z.d.rvalid == false && ((((z.d.raddr.toNat : Nat) : Int) == 0) && ((z.d.rsize == 0) && true))) = noRes z.d := by
        unfold noRes
        rw [Bool.and_true, e0]
      refine ifB_intro (fun g3 => ?_) (fun g3 => ?_)
      · refine Does.ungd (b := [.s (.int .u64 z.c.mtvec.toNat), .s (.int .u64 z.r.cause.toNat)]) ⟨⟨g3, rfl⟩, ⟨g3, rfl⟩, trivial⟩ ?_
        refine (handler_spec z.c.mtvec z.r.cause _).mono ?_
        rintro _ _ ⟨rfl, rfl⟩
        repeat (refine need_intro (by first | exact g3 | exact fun h => h | exact nt | exact an2 | exact an3 | rfl | (simp; done) | fail) ?_)
        refine fin ?_
        unfold Sc.rule10
        rw [if_pos h1]
        simp only [cond_and, beq_nat, eR]
      · repeat (refine need_intro (by first | exact g3 | exact fun h => h | exact nt | exact an2 | exact an3 | rfl | (simp; done) | fail) ?_)
        refine ifB_intro (fun h => absurd (h.symm.trans g3) (by decide)) (fun _ => ?_)
        repeat (refine need_intro (by first | exact g3 | exact fun h => h | exact nt | exact an2 | exact an3 | rfl | (simp; done) | fail) ?_)
        refine fin ?_
        have g3' := g3
        simp only [cond_and, beq_nat, eR] at g3'
        unfold Sc.rule10
        rw [if_pos h1, g3']
        rfl
    · repeat (refine need_intro (by first | exact g2 | exact fun h => h | exact nt | exact an2 | exact an3 | rfl | (simp; done) | fail) ?_)
      refine ifB_intro (fun h => absurd (h.symm.trans g2) (by decide)) (fun _ => ?_)
      repeat (refine need_intro (by first | exact g2 | exact fun h => h | exact nt | exact an2 | exact an3 | rfl | (simp; done) | fail) ?_)
      have g2' := g2
      simp only [cond_and, beq_nat] at g2'
      refine fin ?_
      unfold Sc.rule10
      rw [if_pos h1, g2']
      rfl
  · repeat (refine need_intro (by first | exact g1 | exact fun h => h | exact nt | exact an2 | exact an3 | rfl | (simp; done) | fail) ?_)
    refine ifB_intro (fun h => absurd (h.symm.trans g1) (by decide)) (fun _ => ?_)
    repeat (refine need_intro (by first | exact g1 | exact fun h => h | exact nt | exact an2 | exact an3 | rfl | (simp; done) | fail) ?_)
    refine draw_held on rfl (fun _ _ h => h) ?_
    repeat (refine need_intro (by first | exact g1 | exact fun h => h | exact nt | exact an2 | exact an3 | rfl | (simp; done) | fail) ?_)
    refine fin ?_
    unfold Sc.rule10
    rw [if_pos h1, eG.symm.trans g1]
    rfl
end Go.Proofs.Ytghcdkpgcanpgaa

/- Watching: the rules 11 to 16 and 18, as the program asks them. No condition but the lists' lengths. -/
namespace Go.Anv
open Go
def Sc.rule11 (z : Sc) : Bool := if z.r.kind != 4 then true else z.c.waiting && (mipOf z.t &&& z.c.mie == 0#64) && cpuS { z.d with mcycle := z.c.mcycle } z.c
def Sc.rule12 (z : Sc) : Bool := if z.r.counts || z.r.kind == 5 then true else z.d.mcycle == z.c.mcycle + (1#64 - (z.c.mcountinhibit &&& 1#64))
def Sc.rule13 (z : Sc) : Bool := if z.r.counts then true else if z.r.kind == 1 && z.c.mcountinhibit &&& 4#64 == 0#64 then z.d.minstret == z.c.minstret + 1#64 else z.d.minstret == z.c.minstret
def Sc.rule14 (z : Sc) : Bool := if z.r.storedAt 0x200bff8#64 8 || z.r.kind == 5 then true else if z.tick then z.t.now == z.s.now + 1#64 else z.t.now == z.s.now
def Sc.rule15 (z : Sc) : Bool := (z.r.storedAt 0x2004000#64 8 || z.t.cmp == z.s.cmp) && (z.r.storedAt 0x2000000#64 4 || z.t.msip == z.s.msip)
def Sc.rule16 (z : Sc) : Bool := z.r.kind == 5 || (z.t.ext == z.ext && z.t.soft == z.soft)
def isMret (r : RowV) : Bool := r.kind == 1 && r.raw == 807403635#32
def Sc.rule18 (z : Sc) : Bool := if z.d.mode == z.c.mode then true else if z.c.mode == 0 then z.r.trapped else isMret z.r
end Go.Anv
namespace Go.Proofs.Ytghcdkpgcanpgaa
open Go Go.Anv
theorem hbfin (z : Sc) {y : Bool} : ∀ {x : Bool}, x = y → Anv.Ends 14 (fun v h' => v = .s (.bool y) ∧ h' = z.hb) (.s (.bool x)) z.hb := by
  rintro x rfl
  exact Ends.ro (H := z.hb) (J := []) rfl rfl rfl
set_option maxRecDepth 100000 in
theorem rule11_spec (z : Sc) : Does TB 128 [.s (.ptr 11 0), .s (.ptr 10 0), .s (.ptr 9 0), .s (.ptr 13 0)] z.hb (fun v h' => v = .s (.bool z.rule11) ∧ h' = z.hb) := by
  refine fnX_does TB Try.func128 rfl (by decide) (fun O on hO => ?_)
  refine ifB_intro (fun h1 => ?_) (fun h1 => ?_)
  · refine hbfin z ?_
    unfold Sc.rule11
    rw [if_pos h1]
  have h1' : ¬ (z.r.kind != 4) = true := by rw [h1]; decide
  have fin : ∀ {x : Bool} {b : Blk}, x = z.rule11 → Anv.Ends 14 (fun v h' => v = .s (.bool z.rule11) ∧ h' = z.hb) (.s (.bool x)) (z.hb ++ [b]) := by
    rintro x b rfl
    exact Ends.ro rfl rfl rfl
  repeat (refine need_intro (by first | exact fun h => h | exact nt | exact an2 | exact an3 | rfl | (simp; done) | fail) ?_)
  refine draw_held on rfl (fun _ _ h => h) ?_
  repeat (refine need_intro (by first | exact fun h => h | exact nt | exact an2 | exact an3 | rfl | (simp; done) | fail) ?_)
  refine ifB_intro (fun h2 => ?_) (fun h2 => ?_)
  · refine Does.ungd (b := [_]) ⟨⟨h2, rfl⟩, trivial⟩ ?_
    refine Does.atc (wmip_spec z.t z.k z.c3 z.c4 z.c5) [3, 4, 5] rfl ⟨rfl, rfl, rfl, trivial⟩ (by decide) ?_
    repeat (refine need_intro (by first | exact h2 | exact fun h => h | exact nt | exact an2 | exact an3 | rfl | (simp; done) | fail) ?_)
    refine fin ?_
    unfold Sc.rule11
    rw [if_neg h1']
    show (bif (bif z.c.waiting then bitX .and .u64 (((mipOf z.t).toNat : Nat) : Int) ((z.c.mie.toNat : Nat) : Int) == 0 else false) then cpuS { z.d with mcycle := z.c.mcycle } z.c else false) = _
    rw [cond_and, cond_and, and_u64, ofInt_toNat, ofInt_toNat, e0]
  · repeat (first | refine need_intro (by first | exact h2 | exact nt h2 | exact nn3 h2 | exact fun h => h | exact nt | exact an2 | exact an3 | rfl | (simp; done) | fail) ?_ | refine ifB_intro (fun h => absurd (h.symm.trans h2) (by decide)) (fun _ => ?_))
    refine fin ?_
    unfold Sc.rule11
    rw [if_neg h1', h2]
    rfl
set_option maxRecDepth 100000 in
theorem rule12_spec (z : Sc) : Does TB 130 [.s (.ptr 8 0), .s (.ptr 11 0), .s (.ptr 10 0), .s (.ptr 9 0)] z.hb (fun v h' => v = .s (.bool z.rule12) ∧ h' = z.hb) := by
  refine fnX_does TB Try.func130 rfl (by decide) (fun O on hO => ?_)
  refine Does.atc (counts_spec z) [0, 1, 2, 3, 4, 5, 6, 7] rfl ⟨rfl, rfl, rfl, rfl, rfl, rfl, rfl, rfl, trivial⟩ (by decide) ?_
  repeat (refine need_intro (by first | exact fun h => h | exact nt | exact an2 | exact an3 | rfl | (simp; done) | fail) ?_)
  refine ifB_intro (fun h1 => ?_) (fun h1 => ?_)
  · refine hbfin z ?_
    unfold Sc.rule12
    rw [if_pos ((cond_or _ _).symm.trans h1)]
  have h1' : ¬ (z.r.counts || z.r.kind == 5) = true := by rw [← cond_or]; exact Bool.eq_false_iff.1 h1
  refine draw_held on rfl (fun _ _ h => h) ?_
  repeat (refine need_intro (by first | exact fun h => h | exact nt | exact an2 | exact an3 | rfl | (simp; done) | fail) ?_)
  refine hbfin z ?_
  unfold Sc.rule12
  rw [if_neg h1']
  have e1 : IntKind.u64.wrap (1 - bitX .and .u64 (z.c.mcountinhibit.toNat : Int) 1) = ((1#64 - (z.c.mcountinhibit &&& 1#64)).toNat : Int) := by
    rw [and_u64, ofInt_toNat]
    exact sub64 1#64 _
  rw [e1, add64]
  exact beq_nat _ _
set_option maxRecDepth 100000 in
theorem rule13_spec (z : Sc) : Does TB 132 [.s (.ptr 8 0), .s (.ptr 11 0), .s (.ptr 9 0), .s (.ptr 10 0)] z.hb (fun v h' => v = .s (.bool z.rule13) ∧ h' = z.hb) := by
  refine fnX_does TB Try.func132 rfl (by decide) (fun O on hO => ?_)
  refine Does.atc (counts_spec z) [0, 1, 2, 3, 4, 5, 6, 7] rfl ⟨rfl, rfl, rfl, rfl, rfl, rfl, rfl, rfl, trivial⟩ (by decide) ?_
  refine ifB_intro (fun h1 => ?_) (fun h1 => ?_)
  · refine hbfin z ?_
    unfold Sc.rule13
    rw [if_pos h1]
  have h1' : ¬ z.r.counts = true := Bool.eq_false_iff.1 h1
  repeat (refine need_intro (by first | exact fun h => h | exact nt | exact an2 | exact an3 | rfl | (simp; done) | fail) ?_)
  have e2 : (bif z.r.kind == 1 then bitX .and .u64 (z.c.mcountinhibit.toNat : Int) 4 == 0 else false) = (z.r.kind == 1 && z.c.mcountinhibit &&& 4#64 == 0#64) := by
    rw [cond_and, and_u64, ofInt_toNat]
    congr 1
    exact beq_nat _ 0#64
  refine ifB_intro (fun h2 => ?_) (fun h2 => ?_)
  · replace h2 := e2.symm.trans h2
    refine draw_held on rfl (fun _ _ h => h) ?_
    repeat (refine need_intro (by first | exact fun h => h | exact nt | exact an2 | exact an3 | rfl | (simp; done) | fail) ?_)
    refine hbfin z ?_
    unfold Sc.rule13
    rw [if_neg h1', if_pos h2]
    refine Eq.trans ?_ (beq_nat z.d.minstret (z.c.minstret + 1#64))
    rw [← add64]
    rfl
  · replace h2 := e2.symm.trans h2
    refine draw_held on rfl (fun _ _ h => h) ?_
    repeat (refine need_intro (by first | exact fun h => h | exact nt | exact an2 | exact an3 | rfl | (simp; done) | fail) ?_)
    refine hbfin z ?_
    unfold Sc.rule13
    rw [if_neg h1', if_neg (by rw [h2]; decide)]
    exact beq_nat _ _
set_option maxRecDepth 100000 in
theorem rule14_spec (z : Sc) : Does TB 133 [.s (.ptr 8 0), .s (.ptr 11 0), .s (.ptr 13 0), .s (.ptr 12 0)] z.hb (fun v h' => v = .s (.bool z.rule14) ∧ h' = z.hb) := by
  refine fnX_does TB Try.func133 rfl (by decide) (fun O on hO => ?_)
  refine Does.atc (storedAt_spec z 0x200bff8#64 8 (by decide)) [0, 1, 2, 3, 4, 5, 6, 7] rfl ⟨rfl, rfl, rfl, rfl, rfl, rfl, rfl, rfl, trivial⟩ (by decide) ?_
  repeat (refine need_intro (by first | exact fun h => h | exact nt | exact an2 | exact an3 | rfl | (simp; done) | fail) ?_)
  refine ifB_intro (fun h1 => ?_) (fun h1 => ?_)
  · refine hbfin z ?_
    unfold Sc.rule14
    rw [if_pos ((cond_or _ _).symm.trans h1)]
  have h1' : ¬ (z.r.storedAt 0x200bff8#64 8 || z.r.kind == 5) = true := by rw [← cond_or]; exact Bool.eq_false_iff.1 h1
  refine ifB_intro (fun h2 => ?_) (fun h2 => ?_)
  · refine draw_held on rfl (fun _ _ h => h) ?_
    repeat (refine need_intro (by first | exact fun h => h | exact nt | exact an2 | exact an3 | rfl | (simp; done) | fail) ?_)
    refine hbfin z ?_
    unfold Sc.rule14
    rw [if_neg h1', if_pos h2]
    refine Eq.trans ?_ (beq_nat z.t.now (z.s.now + 1#64))
    rw [← add64]
    rfl
  · refine draw_held on rfl (fun _ _ h => h) ?_
    repeat (refine need_intro (by first | exact fun h => h | exact nt | exact an2 | exact an3 | rfl | (simp; done) | fail) ?_)
    refine hbfin z ?_
    unfold Sc.rule14
    rw [if_neg h1', if_neg (by rw [h2]; decide)]
    exact beq_nat _ _
set_option maxRecDepth 100000 in
theorem rule15_spec (z : Sc) : Does TB 135 [.s (.ptr 8 0), .s (.ptr 13 0), .s (.ptr 12 0)] z.hb (fun v h' => v = .s (.bool z.rule15) ∧ h' = z.hb) := by
  refine fnX_does TB Try.func135 rfl (by decide) (fun O on hO => ?_)
  refine draw_held on rfl (fun _ _ h => h) ?_
  refine Does.atc (storedAt_spec z 0x2004000#64 8 (by decide)) [0, 1, 2, 3, 4, 5, 6, 7] rfl ⟨rfl, rfl, rfl, rfl, rfl, rfl, rfl, rfl, trivial⟩ (by decide) ?_
  repeat (refine need_intro (by first | exact fun h => h | exact nt | exact an2 | exact an3 | rfl | (simp; done) | fail) ?_)
  refine draw_held on rfl (fun _ _ h => h) ?_
  repeat (refine need_intro (by first | exact fun h => h | exact nt | exact an2 | exact an3 | rfl | (simp; done) | fail) ?_)
  have e1 : (bif z.r.storedAt 0x2004000#64 8 then true else ((z.t.cmp.toNat : Nat) : Int) == ((z.s.cmp.toNat : Nat) : Int)) = (z.r.storedAt 0x2004000#64 8 || z.t.cmp == z.s.cmp) := by rw [cond_or, beq_nat]
  refine ifB_intro (fun g => ?_) (fun g => ?_)
  · refine Does.ungd (b := [.s (.ptr 7 0), .s (.int .u64 0x2000000), .s (.int .i64 4)]) ⟨⟨g, rfl⟩, rfl, rfl, trivial⟩ ?_
    refine Does.atc (storedAt_spec z 0x2000000#64 4 (by decide)) [0, 1, 2, 3, 4, 5, 6, 7] rfl ⟨rfl, rfl, rfl, rfl, rfl, rfl, rfl, rfl, trivial⟩ (by decide) ?_
    repeat (refine need_intro (by first | exact g | exact fun h => h | exact nt | exact an2 | exact an3 | rfl | (simp; done) | fail) ?_)
    refine hbfin z ?_
    unfold Sc.rule15
    rw [← e1, cond_and, cond_or, cond_or, beq_nat z.t.msip]
  · repeat (first | refine need_intro (by first | exact g | exact nt g | exact nn3 g | exact fun h => h | exact nt | exact an2 | exact an3 | rfl | (simp; done) | fail) ?_ | refine ifB_intro (fun h => absurd (h.symm.trans g) (by decide)) (fun _ => ?_))
    refine hbfin z ?_
    unfold Sc.rule15
    rw [← e1, g]
    rfl
set_option maxRecDepth 100000 in
theorem rule16_spec (z : Sc) : Does TB 136 [.s (.ptr 11 0), .s (.ptr 13 0), .s (.ptr 8 0)] z.hb (fun v h' => v = .s (.bool z.rule16) ∧ h' = z.hb) := by
  refine fnX_does TB Try.func136 rfl (by decide) (fun O on hO => ?_)
  refine draw_held on rfl (fun _ _ h => h) ?_
  repeat (refine need_intro (by first | exact fun h => h | exact nt | exact an2 | exact an3 | rfl | (simp; done) | fail) ?_)
  refine hbfin z ?_
  unfold Sc.rule16
  rw [← cond_and, ← cond_or]
set_option maxRecDepth 100000 in
theorem rule18_spec (z : Sc) : Does TB 138 [.s (.ptr 10 0), .s (.ptr 9 0), .s (.ptr 8 0), .s (.ptr 11 0)] z.hb (fun v h' => v = .s (.bool z.rule18) ∧ h' = z.hb) := by
  refine fnX_does TB Try.func138 rfl (by decide) (fun O on hO => ?_)
  refine draw_held on rfl (fun _ _ h => h) ?_
  repeat (refine need_intro (by first | exact fun h => h | exact nt | exact an2 | exact an3 | rfl | (simp; done) | fail) ?_)
  refine ifB_intro (fun h1 => ?_) (fun h1 => ?_)
  · refine hbfin z ?_
    unfold Sc.rule18
    rw [if_pos h1]
  have h1' : ¬ (z.d.mode == z.c.mode) = true := Bool.eq_false_iff.1 h1
  refine ifB_intro (fun h2 => ?_) (fun h2 => ?_)
  · refine Does.atc (trapped_spec z) [0, 1, 2, 3, 4, 5, 6, 7] rfl ⟨rfl, rfl, rfl, rfl, rfl, rfl, rfl, rfl, trivial⟩ (by decide) ?_
    refine hbfin z ?_
    unfold Sc.rule18
    rw [if_neg h1', if_pos h2]
  · repeat (refine need_intro (by first | exact fun h => h | exact nt | exact an2 | exact an3 | rfl | (simp; done) | fail) ?_)
    refine hbfin z ?_
    unfold Sc.rule18
    rw [if_neg h1', if_neg (Bool.eq_false_iff.1 h2), cond_and]
    unfold isMret
    congr 1
    exact beq_nat _ 807403635#32
end Go.Proofs.Ytghcdkpgcanpgaa

/- Watching: the rules 17, 19 and 20, as the program asks them. No condition but the lists' lengths. -/
namespace Go.Anv
open Go
def Sc.rule17 (z : Sc) : Bool :=
  if !(decide (z.s.no ≤ z.t.no) && eqB z.s.no z.k.out z.l.out) then false
  else if z.t.no - z.s.no = 0 then true
  else if z.t.no - z.s.no = 1 then z.r.stores && z.r.addr == 0x10000000#64 && z.r.size == 1 && (z.k.out z.s.no).setWidth 64 == z.r.data
  else false
def RowV.fits (r : RowV) : Bool := decide (r.mem ≥ 1) && decide (r.mem ≤ 3) && (r.size == 1 || r.size == 2 || r.size == 4 || r.size == 8)
def Sc.rule19 (z : Sc) : Bool :=
  if z.r.kind != 1 || z.r.mem == 0 then true
  else z.r.fits && decide (z.r.addr.toNat % z.r.size.toNat = 0) && checkI z.c.cfg z.c.addr z.c.eff z.r.addr z.r.size z.r.mem
def Sc.rule20 (z : Sc) : Bool :=
  if z.r.len == 0 then true
  else (z.r.len == 2 && checkI z.c.cfg z.c.addr z.c.mode z.r.pc 2 4) || (z.r.len == 4 && checkI z.c.cfg z.c.addr z.c.mode z.r.pc 2 4 && checkI z.c.cfg z.c.addr z.c.mode (z.r.pc + 2#64) 2 4)
theorem nn3 {a b : Bool} (g : (a && b) = false) (h : a = true) : b = false := by cases b <;> simp_all
theorem wide8 (q : B8) : IntKind.u64.wrap ((q.toNat : Nat) : Int) = ((q.setWidth 64).toNat : Int) := by
  have := q.isLt
  rw [wnat (by omega), BitVec.toNat_setWidth, Nat.mod_eq_of_lt (by omega)]
theorem rem_eq (a : B64) (n : Int) (h : 1 ≤ n ∧ n ≤ 8) : ((a.toNat : Int).tmod (IntKind.u64.wrap n) == 0) = decide (a.toNat % n.toNat = 0) := by
  rw [wsize (by omega)]
  obtain ⟨m, rfl⟩ : ∃ m : Nat, n = (m : Int) := ⟨n.toNat, by omega⟩
  rw [Int.toNat_natCast, Bool.eq_iff_iff, beq_iff_eq, decide_eq_true_iff, ← Int.ofNat_tmod]
  omega
theorem fits_size {r : RowV} (h : r.fits = true) : 1 ≤ r.size ∧ r.size ≤ 8 := by
  unfold RowV.fits at h
  simp only [Bool.and_eq_true, Bool.or_eq_true, beq_iff_eq] at h
  omega
end Go.Anv
namespace Go.Proofs.Ytghcdkpgcanpgaa
open Go Go.Anv
set_option maxRecDepth 100000 in
theorem prefix2_spec (m1 m2 : Bool) (n1 n2 c1 c2 s1 s2 : Nat) (p q : Nat → B8) (hc : n1 ≤ c1) :
    Does TB 52 [.s (.gs 0 0 n1 c1), .s (.gs 1 0 n2 c2)] [bblk m1 n1 p s1, bblk m2 n2 q s2] (fun v h' => v = .s (.bool (decide (n2 ≤ n1) && eqB n2 p q)) ∧ h' = [bblk m1 n1 p s1, bblk m2 n2 q s2]) := by
  refine fnX_does TB Try.func52 rfl (by decide) (fun O on hO => ?_)
  have hg : decide ((n1 : Int) ≥ (n2 : Int)) = decide (n2 ≤ n1) := decide_eq_decide.2 (by omega)
  repeat (refine need_intro (by first | exact fun h => h | exact nt | exact an2 | exact an3 | rfl | (simp; done) | fail) ?_)
  refine need_intro (fun h => ?_) ?_
  · have := of_decide_eq_true h
    exact ⟨by omega, by omega, by omega⟩
  repeat (refine need_intro (by first | exact fun h => h | exact nt | exact an2 | exact an3 | rfl | (simp; done) | fail) ?_)
  refine ifB_intro (fun h => ?_) (fun h => ?_)
  · have hle : n2 ≤ n1 := by have := of_decide_eq_true h; omega
    have hsk : skip c1 0 0 1 = 0 := by unfold skip; split <;> rfl
    refine Does.ungd (b := [_, _]) ⟨⟨h, rfl⟩, ⟨h, rfl⟩, trivial⟩ ?_
    refine Does.args (b := [.s (.gs 0 0 n2 c1), .s (.gs 1 0 n2 c2)]) ⟨⟨rfl, hsk, by omega, by omega⟩, eqvE_refl _, trivial⟩ ?_
    refine Does.atc (equal_spec m1 m2 0 0 n2 c1 c2 n1 n2 s1 s2 (bfun p) (bfun q) p q (by omega) (by omega) (fun j _ => by rw [Nat.zero_add]; rfl) (fun j _ => by rw [Nat.zero_add]; rfl)) [0, 1] rfl ⟨rfl, rfl, trivial⟩ (by decide) ?_
    repeat (refine need_intro (by first | exact fun h => h | exact nt | exact an2 | exact an3 | rfl | (simp; done) | fail) ?_)
    refine Ends.ro (H := [bblk m1 n1 p s1, bblk m2 n2 q s2]) (J := []) rfl ?_ rfl
    show (bif decide ((n1 : Int) ≥ (n2 : Int)) then eqB n2 p q else false) = _
    rw [cond_and, hg]
  · repeat (refine need_intro (by first | exact h | exact fun h => h | exact nt | exact an2 | exact an3 | rfl | (simp; done) | fail) ?_)
    refine Ends.ro (H := [bblk m1 n1 p s1, bblk m2 n2 q s2]) (J := []) rfl ?_ rfl
    show false = _
    rw [← hg, h]
    rfl
set_option maxRecDepth 100000 in
theorem rule17_spec (z : Sc) (ok : z.Ok) : Does TB 137 [.s (.ptr 7 0)] z.h (fun v h' => v = .s (.bool z.rule17) ∧ h' = z.h) := by
  refine fnX_does TB Try.func137 rfl (by decide) (fun O on hO => ?_)
  have fin : ∀ {x : Bool}, x = z.rule17 → Anv.Ends 8 (fun v h' => v = .s (.bool z.rule17) ∧ h' = z.h) (.s (.bool x)) z.h := by
    rintro x rfl
    exact Ends.ro (H := z.h) (J := []) rfl rfl rfl
  have hno := ok.no
  have hmo := ok.mo
  refine draw_held on rfl (fun _ _ h => h) ?_
  repeat (refine need_intro (by first | exact fun h => h | exact nt | exact an2 | exact an3 | rfl | (simp; done) | fail) ?_)
  refine Does.atc (prefix2_spec z.k.mo z.l.mo z.t.no z.s.no z.c5 z.c2 z.k.so z.l.so z.k.out z.l.out ok.do_) [5, 2] rfl ⟨rfl, rfl, trivial⟩ (by decide) ?_
  refine ifB_intro (fun h1 => ?_) (fun h1 => ?_)
  · refine fin ?_
    unfold Sc.rule17
    rw [if_pos h1]
  have h1' : (decide (z.s.no ≤ z.t.no) && eqB z.s.no z.k.out z.l.out) = true := by simpa using h1
  have hle : z.s.no ≤ z.t.no := by
    rw [Bool.and_eq_true] at h1'
    exact of_decide_eq_true h1'.1
  have es : IntKind.i64.wrap ((z.t.no : Int) - (z.s.no : Int)) = ((z.t.no - z.s.no : Nat) : Int) := by rw [i64_in (by omega) (by omega)]; omega
  refine ifB_intro (fun h2 => ?_) (fun h2 => ?_)
  · rw [es] at h2
    have h2 : z.t.no - z.s.no = 0 := by have := eq_of_beq h2; omega
    refine fin ?_
    unfold Sc.rule17
    rw [h1, if_neg (by decide), if_pos h2]
  rw [es] at h2
  have h2 : ¬ z.t.no - z.s.no = 0 := by have := ne_of_beq_false h2; omega
  refine ifB_intro (fun h3 => ?_) (fun h3 => ?_)
  · rw [es] at h3
    have h3 : z.t.no - z.s.no = 1 := by have := eq_of_beq h3; omega
    refine draw_held on rfl (fun _ _ h => h) ?_
    refine Does.atc (stores_spec z) [0, 1, 2, 3, 4, 5, 6, 7] rfl ⟨rfl, rfl, rfl, rfl, rfl, rfl, rfl, rfl, trivial⟩ (by decide) ?_
    repeat (refine need_intro (by first | exact fun _ => (by omega) | exact fun _ => ⟨by omega, by omega⟩ | exact fun h => h | exact nt | exact an2 | exact an3 | rfl | (simp; done) | fail) ?_)
    refine fin ?_
    unfold Sc.rule17
    rw [h1, if_neg (by decide), if_neg h2, if_pos h3]
    simp only [cond_and]
    congr 1
    · congr 1
      congr 1
      exact beq_nat _ 0x10000000#64
    · rw [Nat.zero_add, Int.toNat_natCast]
      show (IntKind.u64.wrap (((z.k.out z.s.no).toNat : Nat) : Int) == _) = _
      rw [wide8, beq_nat]
  · rw [es] at h3
    have h3 : ¬ z.t.no - z.s.no = 1 := by have := ne_of_beq_false h3; omega
    refine fin ?_
    unfold Sc.rule17
    rw [h1, if_neg (by decide), if_neg h2, if_neg h3]
set_option maxRecDepth 100000 in
theorem rule19_spec (z : Sc) (ok : z.Ok) : Does TB 140 [.s (.ptr 11 0), .s (.ptr 9 0)] z.hb (fun v h' => v = .s (.bool z.rule19) ∧ h' = z.hb) := by
  refine fnX_does TB Try.func140 rfl (by decide) (fun O on hO => ?_)
  repeat (refine need_intro (by first | exact fun h => h | exact nt | exact an2 | exact an3 | rfl | (simp; done) | fail) ?_)
  refine ifB_intro (fun h1 => ?_) (fun h1 => ?_)
  · refine hbfin z ?_
    unfold Sc.rule19
    rw [if_pos ((cond_or _ _).symm.trans h1)]
  have h1' : ¬ (z.r.kind != 1 || z.r.mem == 0) = true := by rw [← cond_or]; exact Bool.eq_false_iff.1 h1
  repeat (refine need_intro (by first | exact fun h => h | exact nt | exact an2 | exact an3 | rfl | (simp; done) | fail) ?_)
  have e1 : (bif (bif decide (z.r.mem ≥ 1) then decide (z.r.mem ≤ 3) else false) then (bif (bif (bif z.r.size == 1 then true else z.r.size == 2) then true else z.r.size == 4) then true else z.r.size == 8) else false) = z.r.fits := by
    simp only [cond_and, cond_or]
    rfl
  refine draw_held on rfl (fun _ _ h => h) ?_
  repeat (refine need_intro (by first | exact fun h => by have := fits_size (e1.symm.trans h); rw [wsize (by omega)]; omega | exact fun h => h | exact nt | exact an2 | exact an3 | rfl | (simp; done) | fail) ?_)
  have e2 : (bif (bif (bif decide (z.r.mem ≥ 1) then decide (z.r.mem ≤ 3) else false) then (bif (bif (bif z.r.size == 1 then true else z.r.size == 2) then true else z.r.size == 4) then true else z.r.size == 8) else false) then ((z.r.addr.toNat : Int).tmod (IntKind.u64.wrap z.r.size) == 0) else false) = (z.r.fits && decide (z.r.addr.toNat % z.r.size.toNat = 0)) := by
    rw [e1, cond_and]
    cases hf : z.r.fits with
    | false => rfl
    | true => rw [rem_eq _ _ (fits_size hf)]
  refine ifB_intro (fun g => ?_) (fun g => ?_)
  · refine Does.ungd (b := [.agg z.c.segs]) ⟨⟨g, rfl⟩, trivial⟩ ?_
    refine (eff_spec z.c _).mono ?_
    rintro _ _ ⟨rfl, rfl⟩
    repeat (refine need_intro (by first | exact g | exact fun h => h | exact nt | exact an2 | exact an3 | rfl | (simp; done) | fail) ?_)
    refine ifB_intro (fun _ => ?_) (fun h => absurd (g.symm.trans h) (by decide))
    refine Does.ungd (b := [.agg (pmpSeg z.c.cfg z.c.addr), .s (.int .i64 z.c.eff), .s (.int .u64 z.r.addr.toNat), .s (.int .i64 z.r.size), .s (.int .i64 z.r.mem)]) ⟨⟨g, rfl⟩, rfl, ⟨g, rfl⟩, ⟨g, rfl⟩, ⟨g, rfl⟩, trivial⟩ ?_
    refine (pcheck_spec z.c.cfg z.c.addr z.c.eff z.r.addr z.r.size z.r.mem _).mono ?_
    rintro _ _ ⟨rfl, rfl⟩
    repeat (refine need_intro (by first | exact g | exact fun h => h | exact nt | exact an2 | exact an3 | rfl | (simp; done) | fail) ?_)
    refine hbfin z ?_
    unfold Sc.rule19
    rw [if_neg h1', ← e2]
    exact cond_and _ _
  · repeat (first | refine need_intro (by first | exact g | exact nt g | exact nn3 g | exact fun h => h | exact nt | exact an2 | exact an3 | rfl | (simp; done) | fail) ?_ | refine ifB_intro (fun h => absurd (h.symm.trans g) (by decide)) (fun _ => ?_))
    refine hbfin z ?_
    unfold Sc.rule19
    rw [if_neg h1', ← e2, g]
    rfl
set_option maxRecDepth 100000 in
theorem rule20_spec (z : Sc) : Does TB 143 [.s (.ptr 11 0), .s (.ptr 9 0)] z.hb (fun v h' => v = .s (.bool z.rule20) ∧ h' = z.hb) := by
  refine fnX_does TB Try.func143 rfl (by decide) (fun O on hO => ?_)
  refine ifB_intro (fun h1 => ?_) (fun h1 => ?_)
  · refine hbfin z ?_
    unfold Sc.rule20
    rw [if_pos h1]
  have h1' : ¬ (z.r.len == 0) = true := Bool.eq_false_iff.1 h1
  refine draw_held on rfl (fun _ _ h => h) ?_
  refine (pcheck_spec z.c.cfg z.c.addr z.c.mode z.r.pc 2 4 _).mono ?_
  rintro _ _ ⟨rfl, rfl⟩
  repeat (refine need_intro (by first | exact fun h => h | exact nt | exact an2 | exact an3 | rfl | (simp; done) | fail) ?_)
  refine draw_held on rfl (fun _ _ h => h) ?_
  repeat (refine need_intro (by first | exact fun h => h | exact nt | exact an2 | exact an3 | rfl | (simp; done) | fail) ?_)
  have e1 : ((!(bif z.r.len == 2 then checkI z.c.cfg z.c.addr z.c.mode z.r.pc 2 4 else false)) && (bif z.r.len == 4 then checkI z.c.cfg z.c.addr z.c.mode z.r.pc 2 4 else false)) = ((!(z.r.len == 2 && checkI z.c.cfg z.c.addr z.c.mode z.r.pc 2 4)) && (z.r.len == 4 && checkI z.c.cfg z.c.addr z.c.mode z.r.pc 2 4)) := by
    rw [cond_and, cond_and]
  refine ifB_intro (fun g => ?_) (fun g => ?_)
  · refine Does.ungd (b := [.agg (pmpSeg z.c.cfg z.c.addr), .s (.int .i64 z.c.mode), .s (.int .u64 (z.r.pc + 2#64).toNat), .s (.int .i64 2), .s (.int .i64 4)]) ⟨⟨g, rfl⟩, ⟨g, rfl⟩, ⟨g, congrArg (fun z => EV.s (.int .u64 z)) (add64 z.r.pc 2#64)⟩, rfl, rfl, trivial⟩ ?_
    refine (pcheck_spec z.c.cfg z.c.addr z.c.mode (z.r.pc + 2#64) 2 4 _).mono ?_
    rintro _ _ ⟨rfl, rfl⟩
    repeat (refine need_intro (by first | exact g | exact fun h => h | exact nt | exact an2 | exact an3 | rfl | (simp; done) | fail) ?_)
    refine hbfin z ?_
    unfold Sc.rule20
    rw [if_neg h1']
    simp only [cond_and, cond_or]
  · repeat (first | refine need_intro (by first | exact g | exact nt g | exact nn3 g | exact fun h => h | exact nt | exact an2 | exact an3 | rfl | (simp; done) | fail) ?_ | refine ifB_intro (fun h => absurd (h.symm.trans g) (by decide)) (fun _ => ?_))
    refine hbfin z ?_
    unfold Sc.rule20
    rw [if_neg h1']
    have g' := e1.symm.trans g
    revert g'
    simp only [cond_and]
    cases (z.r.len == 2 && checkI z.c.cfg z.c.addr z.c.mode z.r.pc 2 4) <;> cases (z.r.len == 4 && checkI z.c.cfg z.c.addr z.c.mode z.r.pc 2 4) <;> intro g' <;> first | rfl | cases g'
end Go.Proofs.Ytghcdkpgcanpgaa

/- Watching: the rules in one list; Step, the program's. No condition but the lists' lengths. Printed by mk_q13.py. -/
namespace Go.Anv
open Go
/-- The lowest rule that is broken; 0: none. -/
def firstNot : Nat → List Bool → Int
  | _, [] => 0
  | n, b :: r => if b then firstNot (n + 1) r else (n : Int)
def Sc.step (z : Sc) : Int :=
  if z.rule1 then firstNot 2 [z.rule2, z.rule3, z.rule4, z.rule5, z.rule6, z.rule7, z.rule8, z.rule9, z.rule10, z.rule11, z.rule12, z.rule13, z.rule14, z.rule15, z.rule16, z.rule17, z.rule18, z.rule19, z.rule20] else 1
end Go.Anv
namespace Go.Proofs.Ytghcdkpgcanpgaa
open Go Go.Anv
/-- The first ten rules' functions; k: where the boxes begin. -/
def fnsA (k : Nat) : List Seg :=
  [.one (.func (.func 115) [] [.ptr (k + 5) 0, .ptr (k + 4) 0, .ptr (k + 0) 0, .ptr (k + 2) 0]),
    .one (.func (.func 116) [] [.ptr (k + 3) 0, .ptr (k + 1) 0, .ptr (k + 2) 0]),
    .one (.func (.func 117) [] [.ptr (k + 3) 0, .ptr (k + 4) 0, .ptr (k + 0) 0]),
    .one (.func (.func 119) [.ptr 7 0] []),
    .one (.func (.func 120) [] [.ptr (k + 1) 0, .ptr (k + 0) 0]),
    .one (.func (.func 123) [.ptr 7 0] []),
    .one (.func (.func 124) [] [.ptr (k + 1) 0, .ptr (k + 2) 0]),
    .one (.func (.func 125) [.ptr 7 0] []),
    .one (.func (.func 126) [.ptr 7 0] []),
    .one (.func (.func 127) [.ptr 7 0] [])]
/-- The other ten. -/
def fnsB (k : Nat) : List Seg :=
  [.one (.func (.func 128) [] [.ptr (k + 3) 0, .ptr (k + 2) 0, .ptr (k + 1) 0, .ptr (k + 5) 0]),
    .one (.func (.func 130) [] [.ptr (k + 0) 0, .ptr (k + 3) 0, .ptr (k + 2) 0, .ptr (k + 1) 0]),
    .one (.func (.func 132) [] [.ptr (k + 0) 0, .ptr (k + 3) 0, .ptr (k + 1) 0, .ptr (k + 2) 0]),
    .one (.func (.func 133) [] [.ptr (k + 0) 0, .ptr (k + 3) 0, .ptr (k + 5) 0, .ptr (k + 4) 0]),
    .one (.func (.func 135) [] [.ptr (k + 0) 0, .ptr (k + 5) 0, .ptr (k + 4) 0]),
    .one (.func (.func 136) [] [.ptr (k + 3) 0, .ptr (k + 5) 0, .ptr (k + 0) 0]),
    .one (.func (.func 137) [.ptr 7 0] []),
    .one (.func (.func 138) [] [.ptr (k + 2) 0, .ptr (k + 1) 0, .ptr (k + 0) 0, .ptr (k + 3) 0]),
    .one (.func (.func 140) [] [.ptr (k + 3) 0, .ptr (k + 1) 0]),
    .one (.func (.func 143) [] [.ptr (k + 3) 0, .ptr (k + 1) 0])]
set_option maxHeartbeats 4000000 in
set_option maxRecDepth 100000 in
theorem first_spec (z : Sc) : Does TB 108 [.s (.ptr 7 0)] z.h (fun v h' => v = .s (.slice 14 0 10 10) ∧ h' = z.hb ++ [.cells true (fnsA 8) 0]) := by
  refine fnX_does TB Try.func108 rfl (by decide) (fun O on hO => ?_)
  refine draw_to on ?t9 ?_ ?_
  rotate_left 1
  · refine draw_held on rfl (fun _ _ h => h) ?_
    repeat' (first | refine need_intro (by first | exact fun h => h | exact nt | exact an2 | exact an3 | rfl | (simp; done) | fail) ?_ | refine And.intro ?_ ?_)
    · refine toK_id ?_
      rw [hO]; exact Nat.le_of_ble_eq_true rfl
    all_goals first
      | (refine toK_of [0, 1, 2, 3, 4, 5, 6, 7, 8, 9, 10, 11] (by decide) (by rw [hO]; exact ⟨rfl, rfl, rfl, rfl, rfl, rfl, rfl, rfl, trivial⟩) ?_ ?_; (repeat' (first | exact eqvT_nil | refine eqvT_same ?_)); exact ⟨⟨_, rfl, eqvB_refl _⟩, ⟨_, rfl, eqvB_refl _⟩, ⟨_, rfl, eqvB_refl _⟩, ⟨_, rfl, eqvB_refl _⟩, ⟨_, rfl, eqvB_refl _⟩, ⟨_, rfl, eqvB_refl _⟩, ⟨_, rfl, eqvB_refl _⟩, ⟨_, rfl, eqvB_refl _⟩, ⟨_, rfl, eqvB_refl _⟩, ⟨_, rfl, eqvB_refl _⟩, ⟨_, rfl, eqvB_refl _⟩, ⟨_, rfl, eqvB_refl _⟩, trivial⟩)
      | (refine toK_of [0, 1, 2, 3, 4, 5, 6, 7, 8, 9, 11, 10] (by decide) (by rw [hO]; exact ⟨rfl, rfl, rfl, rfl, rfl, rfl, rfl, rfl, trivial⟩) ?_ ?_; (repeat' (first | exact eqvT_nil | refine eqvT_same ?_)); exact ⟨⟨_, rfl, eqvB_refl _⟩, ⟨_, rfl, eqvB_refl _⟩, ⟨_, rfl, eqvB_refl _⟩, ⟨_, rfl, eqvB_refl _⟩, ⟨_, rfl, eqvB_refl _⟩, ⟨_, rfl, eqvB_refl _⟩, ⟨_, rfl, eqvB_refl _⟩, ⟨_, rfl, eqvB_refl _⟩, ⟨_, rfl, eqvB_refl _⟩, ⟨_, rfl, eqvB_refl _⟩, ⟨_, rfl, eqvB_refl _⟩, ⟨_, rfl, eqvB_refl _⟩, trivial⟩)
      | (refine toK_of [0, 1, 2, 3, 4, 5, 6, 7, 8, 10, 9, 11] (by decide) (by rw [hO]; exact ⟨rfl, rfl, rfl, rfl, rfl, rfl, rfl, rfl, trivial⟩) ?_ ?_; (repeat' (first | exact eqvT_nil | refine eqvT_same ?_)); exact ⟨⟨_, rfl, eqvB_refl _⟩, ⟨_, rfl, eqvB_refl _⟩, ⟨_, rfl, eqvB_refl _⟩, ⟨_, rfl, eqvB_refl _⟩, ⟨_, rfl, eqvB_refl _⟩, ⟨_, rfl, eqvB_refl _⟩, ⟨_, rfl, eqvB_refl _⟩, ⟨_, rfl, eqvB_refl _⟩, ⟨_, rfl, eqvB_refl _⟩, ⟨_, rfl, eqvB_refl _⟩, ⟨_, rfl, eqvB_refl _⟩, ⟨_, rfl, eqvB_refl _⟩, trivial⟩)
      | (refine toK_of [0, 1, 2, 3, 4, 5, 6, 7, 8, 10, 11, 9] (by decide) (by rw [hO]; exact ⟨rfl, rfl, rfl, rfl, rfl, rfl, rfl, rfl, trivial⟩) ?_ ?_; (repeat' (first | exact eqvT_nil | refine eqvT_same ?_)); exact ⟨⟨_, rfl, eqvB_refl _⟩, ⟨_, rfl, eqvB_refl _⟩, ⟨_, rfl, eqvB_refl _⟩, ⟨_, rfl, eqvB_refl _⟩, ⟨_, rfl, eqvB_refl _⟩, ⟨_, rfl, eqvB_refl _⟩, ⟨_, rfl, eqvB_refl _⟩, ⟨_, rfl, eqvB_refl _⟩, ⟨_, rfl, eqvB_refl _⟩, ⟨_, rfl, eqvB_refl _⟩, ⟨_, rfl, eqvB_refl _⟩, ⟨_, rfl, eqvB_refl _⟩, trivial⟩)
      | (refine toK_of [0, 1, 2, 3, 4, 5, 6, 7, 8, 11, 9, 10] (by decide) (by rw [hO]; exact ⟨rfl, rfl, rfl, rfl, rfl, rfl, rfl, rfl, trivial⟩) ?_ ?_; (repeat' (first | exact eqvT_nil | refine eqvT_same ?_)); exact ⟨⟨_, rfl, eqvB_refl _⟩, ⟨_, rfl, eqvB_refl _⟩, ⟨_, rfl, eqvB_refl _⟩, ⟨_, rfl, eqvB_refl _⟩, ⟨_, rfl, eqvB_refl _⟩, ⟨_, rfl, eqvB_refl _⟩, ⟨_, rfl, eqvB_refl _⟩, ⟨_, rfl, eqvB_refl _⟩, ⟨_, rfl, eqvB_refl _⟩, ⟨_, rfl, eqvB_refl _⟩, ⟨_, rfl, eqvB_refl _⟩, ⟨_, rfl, eqvB_refl _⟩, trivial⟩)
      | (refine toK_of [0, 1, 2, 3, 4, 5, 6, 7, 8, 11, 10, 9] (by decide) (by rw [hO]; exact ⟨rfl, rfl, rfl, rfl, rfl, rfl, rfl, rfl, trivial⟩) ?_ ?_; (repeat' (first | exact eqvT_nil | refine eqvT_same ?_)); exact ⟨⟨_, rfl, eqvB_refl _⟩, ⟨_, rfl, eqvB_refl _⟩, ⟨_, rfl, eqvB_refl _⟩, ⟨_, rfl, eqvB_refl _⟩, ⟨_, rfl, eqvB_refl _⟩, ⟨_, rfl, eqvB_refl _⟩, ⟨_, rfl, eqvB_refl _⟩, ⟨_, rfl, eqvB_refl _⟩, ⟨_, rfl, eqvB_refl _⟩, ⟨_, rfl, eqvB_refl _⟩, ⟨_, rfl, eqvB_refl _⟩, ⟨_, rfl, eqvB_refl _⟩, trivial⟩)
      | fail
  refine draw_to on ?t12 ?_ ?_
  rotate_left 1
  · refine draw_held on rfl (fun _ _ h => h) ?_
    repeat' (first | refine need_intro (by first | exact fun h => h | exact nt | exact an2 | exact an3 | rfl | (simp; done) | fail) ?_ | refine And.intro ?_ ?_)
    · refine toK_id ?_
      rw [hO]; exact Nat.le_of_ble_eq_true rfl
    all_goals first
      | (refine toK_of [0, 1, 2, 3, 4, 5, 6, 7, 8, 9, 10, 11, 12, 13] (by decide) (by rw [hO]; exact ⟨rfl, rfl, rfl, rfl, rfl, rfl, rfl, rfl, trivial⟩) ?_ ?_; (repeat' (first | exact eqvT_nil | refine eqvT_same ?_)); exact ⟨⟨_, rfl, eqvB_refl _⟩, ⟨_, rfl, eqvB_refl _⟩, ⟨_, rfl, eqvB_refl _⟩, ⟨_, rfl, eqvB_refl _⟩, ⟨_, rfl, eqvB_refl _⟩, ⟨_, rfl, eqvB_refl _⟩, ⟨_, rfl, eqvB_refl _⟩, ⟨_, rfl, eqvB_refl _⟩, ⟨_, rfl, eqvB_refl _⟩, ⟨_, rfl, eqvB_refl _⟩, ⟨_, rfl, eqvB_refl _⟩, ⟨_, rfl, eqvB_refl _⟩, ⟨_, rfl, eqvB_refl _⟩, ⟨_, rfl, eqvB_refl _⟩, trivial⟩)
      | (refine toK_of [0, 1, 2, 3, 4, 5, 6, 7, 8, 9, 10, 11, 13, 12] (by decide) (by rw [hO]; exact ⟨rfl, rfl, rfl, rfl, rfl, rfl, rfl, rfl, trivial⟩) ?_ ?_; (repeat' (first | exact eqvT_nil | refine eqvT_same ?_)); exact ⟨⟨_, rfl, eqvB_refl _⟩, ⟨_, rfl, eqvB_refl _⟩, ⟨_, rfl, eqvB_refl _⟩, ⟨_, rfl, eqvB_refl _⟩, ⟨_, rfl, eqvB_refl _⟩, ⟨_, rfl, eqvB_refl _⟩, ⟨_, rfl, eqvB_refl _⟩, ⟨_, rfl, eqvB_refl _⟩, ⟨_, rfl, eqvB_refl _⟩, ⟨_, rfl, eqvB_refl _⟩, ⟨_, rfl, eqvB_refl _⟩, ⟨_, rfl, eqvB_refl _⟩, ⟨_, rfl, eqvB_refl _⟩, ⟨_, rfl, eqvB_refl _⟩, trivial⟩)
      | fail
  exact Ends.same ⟨rfl, rfl⟩ (Nat.le_of_ble_eq_true rfl)
set_option maxHeartbeats 4000000 in
set_option maxRecDepth 100000 in
theorem second_spec (z : Sc) : Does TB 109 [.s (.ptr 7 0)] z.h (fun v h' => v = .s (.slice 14 0 10 10) ∧ h' = z.hb ++ [.cells true (fnsB 8) 0]) := by
  refine fnX_does TB Try.func109 rfl (by decide) (fun O on hO => ?_)
  refine draw_to on ?t9 ?_ ?_
  rotate_left 1
  · refine draw_held on rfl (fun _ _ h => h) ?_
    repeat' (first | refine need_intro (by first | exact fun h => h | exact nt | exact an2 | exact an3 | rfl | (simp; done) | fail) ?_ | refine And.intro ?_ ?_)
    · refine toK_id ?_
      rw [hO]; exact Nat.le_of_ble_eq_true rfl
    all_goals first
      | (refine toK_of [0, 1, 2, 3, 4, 5, 6, 7, 8, 9, 10, 11] (by decide) (by rw [hO]; exact ⟨rfl, rfl, rfl, rfl, rfl, rfl, rfl, rfl, trivial⟩) ?_ ?_; (repeat' (first | exact eqvT_nil | refine eqvT_same ?_)); exact ⟨⟨_, rfl, eqvB_refl _⟩, ⟨_, rfl, eqvB_refl _⟩, ⟨_, rfl, eqvB_refl _⟩, ⟨_, rfl, eqvB_refl _⟩, ⟨_, rfl, eqvB_refl _⟩, ⟨_, rfl, eqvB_refl _⟩, ⟨_, rfl, eqvB_refl _⟩, ⟨_, rfl, eqvB_refl _⟩, ⟨_, rfl, eqvB_refl _⟩, ⟨_, rfl, eqvB_refl _⟩, ⟨_, rfl, eqvB_refl _⟩, ⟨_, rfl, eqvB_refl _⟩, trivial⟩)
      | (refine toK_of [0, 1, 2, 3, 4, 5, 6, 7, 8, 9, 11, 10] (by decide) (by rw [hO]; exact ⟨rfl, rfl, rfl, rfl, rfl, rfl, rfl, rfl, trivial⟩) ?_ ?_; (repeat' (first | exact eqvT_nil | refine eqvT_same ?_)); exact ⟨⟨_, rfl, eqvB_refl _⟩, ⟨_, rfl, eqvB_refl _⟩, ⟨_, rfl, eqvB_refl _⟩, ⟨_, rfl, eqvB_refl _⟩, ⟨_, rfl, eqvB_refl _⟩, ⟨_, rfl, eqvB_refl _⟩, ⟨_, rfl, eqvB_refl _⟩, ⟨_, rfl, eqvB_refl _⟩, ⟨_, rfl, eqvB_refl _⟩, ⟨_, rfl, eqvB_refl _⟩, ⟨_, rfl, eqvB_refl _⟩, ⟨_, rfl, eqvB_refl _⟩, trivial⟩)
      | (refine toK_of [0, 1, 2, 3, 4, 5, 6, 7, 8, 10, 9, 11] (by decide) (by rw [hO]; exact ⟨rfl, rfl, rfl, rfl, rfl, rfl, rfl, rfl, trivial⟩) ?_ ?_; (repeat' (first | exact eqvT_nil | refine eqvT_same ?_)); exact ⟨⟨_, rfl, eqvB_refl _⟩, ⟨_, rfl, eqvB_refl _⟩, ⟨_, rfl, eqvB_refl _⟩, ⟨_, rfl, eqvB_refl _⟩, ⟨_, rfl, eqvB_refl _⟩, ⟨_, rfl, eqvB_refl _⟩, ⟨_, rfl, eqvB_refl _⟩, ⟨_, rfl, eqvB_refl _⟩, ⟨_, rfl, eqvB_refl _⟩, ⟨_, rfl, eqvB_refl _⟩, ⟨_, rfl, eqvB_refl _⟩, ⟨_, rfl, eqvB_refl _⟩, trivial⟩)
      | (refine toK_of [0, 1, 2, 3, 4, 5, 6, 7, 8, 10, 11, 9] (by decide) (by rw [hO]; exact ⟨rfl, rfl, rfl, rfl, rfl, rfl, rfl, rfl, trivial⟩) ?_ ?_; (repeat' (first | exact eqvT_nil | refine eqvT_same ?_)); exact ⟨⟨_, rfl, eqvB_refl _⟩, ⟨_, rfl, eqvB_refl _⟩, ⟨_, rfl, eqvB_refl _⟩, ⟨_, rfl, eqvB_refl _⟩, ⟨_, rfl, eqvB_refl _⟩, ⟨_, rfl, eqvB_refl _⟩, ⟨_, rfl, eqvB_refl _⟩, ⟨_, rfl, eqvB_refl _⟩, ⟨_, rfl, eqvB_refl _⟩, ⟨_, rfl, eqvB_refl _⟩, ⟨_, rfl, eqvB_refl _⟩, ⟨_, rfl, eqvB_refl _⟩, trivial⟩)
      | (refine toK_of [0, 1, 2, 3, 4, 5, 6, 7, 8, 11, 9, 10] (by decide) (by rw [hO]; exact ⟨rfl, rfl, rfl, rfl, rfl, rfl, rfl, rfl, trivial⟩) ?_ ?_; (repeat' (first | exact eqvT_nil | refine eqvT_same ?_)); exact ⟨⟨_, rfl, eqvB_refl _⟩, ⟨_, rfl, eqvB_refl _⟩, ⟨_, rfl, eqvB_refl _⟩, ⟨_, rfl, eqvB_refl _⟩, ⟨_, rfl, eqvB_refl _⟩, ⟨_, rfl, eqvB_refl _⟩, ⟨_, rfl, eqvB_refl _⟩, ⟨_, rfl, eqvB_refl _⟩, ⟨_, rfl, eqvB_refl _⟩, ⟨_, rfl, eqvB_refl _⟩, ⟨_, rfl, eqvB_refl _⟩, ⟨_, rfl, eqvB_refl _⟩, trivial⟩)
      | (refine toK_of [0, 1, 2, 3, 4, 5, 6, 7, 8, 11, 10, 9] (by decide) (by rw [hO]; exact ⟨rfl, rfl, rfl, rfl, rfl, rfl, rfl, rfl, trivial⟩) ?_ ?_; (repeat' (first | exact eqvT_nil | refine eqvT_same ?_)); exact ⟨⟨_, rfl, eqvB_refl _⟩, ⟨_, rfl, eqvB_refl _⟩, ⟨_, rfl, eqvB_refl _⟩, ⟨_, rfl, eqvB_refl _⟩, ⟨_, rfl, eqvB_refl _⟩, ⟨_, rfl, eqvB_refl _⟩, ⟨_, rfl, eqvB_refl _⟩, ⟨_, rfl, eqvB_refl _⟩, ⟨_, rfl, eqvB_refl _⟩, ⟨_, rfl, eqvB_refl _⟩, ⟨_, rfl, eqvB_refl _⟩, ⟨_, rfl, eqvB_refl _⟩, trivial⟩)
      | fail
  refine draw_to on ?t12 ?_ ?_
  rotate_left 1
  · refine draw_held on rfl (fun _ _ h => h) ?_
    repeat' (first | refine need_intro (by first | exact fun h => h | exact nt | exact an2 | exact an3 | rfl | (simp; done) | fail) ?_ | refine And.intro ?_ ?_)
    · refine toK_id ?_
      rw [hO]; exact Nat.le_of_ble_eq_true rfl
    all_goals first
      | (refine toK_of [0, 1, 2, 3, 4, 5, 6, 7, 8, 9, 10, 11, 12, 13] (by decide) (by rw [hO]; exact ⟨rfl, rfl, rfl, rfl, rfl, rfl, rfl, rfl, trivial⟩) ?_ ?_; (repeat' (first | exact eqvT_nil | refine eqvT_same ?_)); exact ⟨⟨_, rfl, eqvB_refl _⟩, ⟨_, rfl, eqvB_refl _⟩, ⟨_, rfl, eqvB_refl _⟩, ⟨_, rfl, eqvB_refl _⟩, ⟨_, rfl, eqvB_refl _⟩, ⟨_, rfl, eqvB_refl _⟩, ⟨_, rfl, eqvB_refl _⟩, ⟨_, rfl, eqvB_refl _⟩, ⟨_, rfl, eqvB_refl _⟩, ⟨_, rfl, eqvB_refl _⟩, ⟨_, rfl, eqvB_refl _⟩, ⟨_, rfl, eqvB_refl _⟩, ⟨_, rfl, eqvB_refl _⟩, ⟨_, rfl, eqvB_refl _⟩, trivial⟩)
      | (refine toK_of [0, 1, 2, 3, 4, 5, 6, 7, 8, 9, 10, 11, 13, 12] (by decide) (by rw [hO]; exact ⟨rfl, rfl, rfl, rfl, rfl, rfl, rfl, rfl, trivial⟩) ?_ ?_; (repeat' (first | exact eqvT_nil | refine eqvT_same ?_)); exact ⟨⟨_, rfl, eqvB_refl _⟩, ⟨_, rfl, eqvB_refl _⟩, ⟨_, rfl, eqvB_refl _⟩, ⟨_, rfl, eqvB_refl _⟩, ⟨_, rfl, eqvB_refl _⟩, ⟨_, rfl, eqvB_refl _⟩, ⟨_, rfl, eqvB_refl _⟩, ⟨_, rfl, eqvB_refl _⟩, ⟨_, rfl, eqvB_refl _⟩, ⟨_, rfl, eqvB_refl _⟩, ⟨_, rfl, eqvB_refl _⟩, ⟨_, rfl, eqvB_refl _⟩, ⟨_, rfl, eqvB_refl _⟩, ⟨_, rfl, eqvB_refl _⟩, trivial⟩)
      | fail
  exact Ends.same ⟨rfl, rfl⟩ (Nat.le_of_ble_eq_true rfl)
end Go.Proofs.Ytghcdkpgcanpgaa

/- Watching: the rules in one list: all twenty; Step, the program's. No condition but the lists' lengths. Printed by mk_q13.py. -/
namespace Go.Proofs.Ytghcdkpgcanpgaa
open Go Go.Anv
theorem eqvB_of_eq {a b : Blk} (h : a = b) : eqvB a b := h ▸ eqvB_refl a
theorem eqvS_of_eq {a b : List Seg} (h : a = b) : eqvS a b := h ▸ eqvS_refl a
set_option maxHeartbeats 4000000 in
set_option maxRecDepth 100000 in
theorem rules_spec (z : Sc) : Does TB 95 [.s (.ptr 7 0)] z.h (fun v h' => ∃ c, 20 ≤ c ∧ v = .s (.gs 20 0 20 c) ∧ h' = z.h ++ boxes ++ boxes ++ [.cells true (fnsA 8 ++ fnsB 14) (c - 20)]) := by
  refine fnX_does TB Try.func95 rfl (by decide) (fun O on hO => ?_)
  refine Does.atn (first_spec z) [0, 1, 2, 3, 4, 5, 6, 7] rfl ⟨rfl, rfl, rfl, rfl, rfl, rfl, rfl, rfl, trivial⟩ (by decide) ?_ ?_
  · rintro v h' ⟨_, rfl⟩
    exact ⟨.inr (.inr rfl), .inr (.inr rfl), .inr (.inr rfl), .inr (.inr rfl), .inr (.inr rfl), .inr (.inr rfl), .inr (.inr rfl), .inr (.inr rfl), .inl rfl, .inl rfl, .inl rfl, .inl rfl, .inl rfl, .inl rfl, .inl rfl, trivial⟩
  rintro v h' ⟨rfl, rfl⟩
  refine Does.atn (second_spec z) [0, 1, 2, 3, 4, 5, 6, 7] rfl ⟨rfl, rfl, rfl, rfl, rfl, rfl, rfl, rfl, trivial⟩ (by decide) ?_ ?_
  · rintro v h' ⟨_, rfl⟩
    exact ⟨.inr (.inr rfl), .inr (.inr rfl), .inr (.inr rfl), .inr (.inr rfl), .inr (.inr rfl), .inr (.inr rfl), .inr (.inr rfl), .inr (.inr rfl), .inl rfl, .inl rfl, .inl rfl, .inl rfl, .inl rfl, .inl rfl, .inl rfl, trivial⟩
  rintro v h' ⟨rfl, rfl⟩
  refine need_intro ⟨rfl, rfl, rfl, ⟨⟨rfl, Nat.le_of_ble_eq_true rfl⟩, Nat.le_of_ble_eq_true rfl, Nat.le_of_ble_eq_true rfl⟩⟩ ?_
  intro c hc
  have hc : 20 ≤ c := hc
  refine ⟨_, _, [0, 1, 2, 3, 4, 5, 6, 7, 8, 9, 10, 11, 12, 13, 15, 16, 17, 18, 19, 20, 22], ⟨c, hc, rfl, rfl⟩, by decide, ⟨rfl, rfl, rfl, rfl, rfl, rfl, rfl, rfl, trivial⟩, ⟨rfl, rfl, rfl, rfl⟩, ?_⟩
  exact ⟨⟨_, rfl, eqvB_refl _⟩, ⟨_, rfl, eqvB_refl _⟩, ⟨_, rfl, eqvB_refl _⟩, ⟨_, rfl, eqvB_refl _⟩, ⟨_, rfl, eqvB_refl _⟩, ⟨_, rfl, eqvB_refl _⟩, ⟨_, rfl, eqvB_refl _⟩, ⟨_, rfl, eqvB_refl _⟩, ⟨_, rfl, eqvB_refl _⟩, ⟨_, rfl, eqvB_refl _⟩, ⟨_, rfl, eqvB_refl _⟩, ⟨_, rfl, eqvB_refl _⟩, ⟨_, rfl, eqvB_refl _⟩, ⟨_, rfl, eqvB_refl _⟩, ⟨_, rfl, eqvB_of_eq (by kernel_rfl)⟩, ⟨_, rfl, eqvB_of_eq (by kernel_rfl)⟩, ⟨_, rfl, eqvB_of_eq (by kernel_rfl)⟩, ⟨_, rfl, eqvB_of_eq (by kernel_rfl)⟩, ⟨_, rfl, eqvB_of_eq (by kernel_rfl)⟩, ⟨_, rfl, eqvB_of_eq (by kernel_rfl)⟩, ⟨_, rfl, ⟨rfl, Nat.mul_one _, eqvS_of_eq (by kernel_rfl)⟩⟩, trivial⟩
end Go.Proofs.Ytghcdkpgcanpgaa
