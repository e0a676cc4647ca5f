/- Part 7 of the texts of this claim, merged: Q4, Q5, Q6, E18, Q7, Q8, U1, U2, E19, E20, U3, U4, U8. No condition: plain theorems, contracts of functions. -/
import Derived.Test.YtghcdkpgcanpgaaZ6

set_option linter.unusedSimpArgs false
set_option linter.unusedVariables false
/- Watching: all of two buses is the same (the document's); a copy of a bus. No condition but the lists' lengths. -/
namespace Go.Anv
open Go
def busS (s t : BusV) (l k : Lists) : Bool := (s.nr == t.nr && eqB s.nr l.ram k.ram) && devS s t l k
end Go.Anv
namespace Go.Proofs.Ytghcdkpgcanpgaa
open Go Go.Anv
set_option maxRecDepth 100000 in
theorem rsame_spec (s t : BusV) (l k : Lists) (c0 c1 c2 c3 c4 c5 : Nat) :
    Does TB 63 [.agg (s.segs (.gs 0 0 s.nr c0) (.gs 1 0 s.ni c1) (.gs 2 0 s.no c2)), .agg (t.segs (.gs 3 0 t.nr c3) (.gs 4 0 t.ni c4) (.gs 5 0 t.no c5))] (l.blks s ++ k.blks t) (fun v h' => v = .s (.bool (busS s t l k)) ∧ h' = l.blks s ++ k.blks t) := by
  refine fnX_does TB Try.func63 rfl (by decide) (fun O on hO => ?_)
  have fin : ∀ {x : Bool}, x = busS s t l k → ∀ {b c : Blk}, Anv.Ends 6 (fun v h' => v = .s (.bool (busS s t l k)) ∧ h' = l.blks s ++ k.blks t) (.s (.bool x)) (l.blks s ++ k.blks t ++ [b, c]) := by
    rintro x rfl b c
    exact ⟨_, _, [0, 1, 2, 3, 4, 5], ⟨rfl, rfl⟩, by decide, ⟨rfl, rfl, rfl, rfl, rfl, rfl, trivial⟩, eqvE_refl _, ⟨⟨_, rfl, eqvB_refl _⟩, ⟨_, rfl, eqvB_refl _⟩, ⟨_, rfl, eqvB_refl _⟩, ⟨_, rfl, eqvB_refl _⟩, ⟨_, rfl, eqvB_refl _⟩, ⟨_, rfl, eqvB_refl _⟩, trivial⟩⟩
  repeat (refine need_intro (by first | exact fun h => h | exact nt | rfl | (simp; done) | fail) ?_)
  refine ifB_intro (fun g1 => ?_) (fun g1 => ?_)
  · refine fin ?_
    simp only [cond_or, bne, beq_nat, Bool.or_eq_true, Bool.not_eq_true'] at g1
    rcases g1 with (((((h | h) | h) | h) | h) | h) | h <;> simp [busS, devS, h]
  repeat (refine need_intro (by first | exact fun h => h | exact nt | rfl | (simp; done) | fail) ?_)
  refine ifB_intro (fun g2 => ?_) (fun g2 => ?_)
  · refine fin ?_
    simp only [cond_or, bne, beq_nat, Bool.or_eq_true, Bool.not_eq_true'] at g2
    rcases g2 with (((h | h) | h) | h) | h <;> simp [busS, devS, h]
  repeat (refine need_intro (by first | exact fun h => h | exact nt | rfl | omega | exact fun _ => by omega | (simp; done) | fail) ?_)
  simp only [cond_or, bne, beq_nat, Bool.or_eq_false_iff, Bool.not_eq_false'] at g1 g2
  obtain ⟨⟨⟨⟨⟨⟨a1, a2⟩, a3⟩, a4⟩, a5⟩, b1⟩, b2⟩ := g1
  obtain ⟨⟨⟨⟨a6, a7⟩, a8⟩, a9⟩, a10⟩ := g2
  refine fin ?_
  have e1 : (bytesOf s.nr (shf 0 (bfun l.ram)) == bytesOf t.nr (shf 0 (bfun k.ram))) = _ := bytes_beq2 l.ram k.ram
  have e2 : (bytesOf s.ni (shf 0 (bfun l.inp)) == bytesOf t.ni (shf 0 (bfun k.inp))) = _ := bytes_beq2 l.inp k.inp
  have e3 : (bytesOf s.no (shf 0 (bfun l.out)) == bytesOf t.no (shf 0 (bfun k.out))) = _ := bytes_beq2 l.out k.out
  show _ = busS s t l k
  rw [e1, e2, e3]
  simp only [cond_and, busS, devS, a1, a2, a3, a4, a5, a6, a7, a8, a9, a10, b1, b2, Bool.and_true, Bool.and_assoc]
set_option maxRecDepth 100000 in
theorem copied_spec (s : BusV) (l : Lists) (cr ci co : Nat) (hnr : s.nr ≤ 140737488355328) (hni : s.ni ≤ 140737488355328) (hno : s.no ≤ 140737488355328) :
    Does TB 58 [.agg (s.segs (.gs 0 0 s.nr cr) (.gs 1 0 s.ni ci) (.gs 2 0 s.no co))] (l.blks s) (fun v h' => ∃ c3 c4 c5, s.nr ≤ c3 ∧ s.ni ≤ c4 ∧ s.no ≤ c5 ∧ v = .agg (s.segs (.gs 3 0 s.nr c3) (.gs 4 0 s.ni c4) (.gs 5 0 s.no c5)) ∧
      h' = l.blks s ++ [bblk true s.nr l.ram (c3 - s.nr), bblk true s.ni l.inp (c4 - s.ni), bblk true s.no l.out (c5 - s.no)]) := by
  refine fnX_does TB Try.func58 rfl (by decide) (fun O on hO => ?_)
  refine need_intro rfl ?_
  refine need_intro ⟨by show 0 + s.nr ≤ s.nr; omega, room5 s.nr hnr⟩ ?_
  intro c3 hc3
  have hc3 : s.nr ≤ c3 := hc3
  refine need_intro ⟨by show 0 + s.ni ≤ s.ni; omega, room5 s.ni hni⟩ ?_
  intro c4 hc4
  have hc4 : s.ni ≤ c4 := hc4
  refine need_intro ⟨by show 0 + s.no ≤ s.no; omega, room5 s.no hno⟩ ?_
  intro c5 hc5
  have hc5 : s.no ≤ c5 := hc5
  refine need_intro rfl ?_
  have sh : ∀ (n : Nat) (q : Nat → B8) (j : Nat), j < n → shf 0 (bfun q) j = bfun q j := fun n q j _ => by unfold shf; rw [Nat.zero_add]
  refine ⟨_, _, [0, 1, 2, 6, 7, 8], ⟨c3, c4, c5, hc3, hc4, hc5, rfl, rfl⟩, by decide, ⟨rfl, rfl, rfl, trivial⟩, ?_, ⟨⟨_, rfl, eqvB_refl _⟩, ⟨_, rfl, eqvB_refl _⟩, ⟨_, rfl, eqvB_refl _⟩, ⟨_, rfl, ⟨rfl, Nat.mul_one _, ⟨⟨rfl, rfl, sh _ _⟩, trivial⟩⟩⟩, ⟨_, rfl, ⟨rfl, Nat.mul_one _, ⟨⟨rfl, rfl, sh _ _⟩, trivial⟩⟩⟩, ⟨_, rfl, ⟨rfl, Nat.mul_one _, ⟨⟨rfl, rfl, sh _ _⟩, trivial⟩⟩⟩, trivial⟩⟩
  exact eqvE_refl _
end Go.Proofs.Ytghcdkpgcanpgaa

/- Watching: a copy of a whole; two wholes the same; the law's helpers. No condition but the lists' lengths. -/
namespace Go.Anv
open Go
/-- Are two Cpus the same? -/
def cpuS (c d : CpuV) : Bool := match eqSeg c.segs d.segs with
  | some b => b
  | none => false
def wholeS (c d : CpuV) (s t : BusV) (l k : Lists) : Bool := cpuS c d && busS s t l k
end Go.Anv
namespace Go.Proofs.Ytghcdkpgcanpgaa
open Go Go.Anv
set_option maxRecDepth 100000 in
theorem twin18_spec (c : CpuV) (s : BusV) (l : Lists) (cr ci co : Nat) (hnr : s.nr ≤ 140737488355328) (hni : s.ni ≤ 140737488355328) (hno : s.no ≤ 140737488355328) :
    Does TB 24 [.agg (wsegs c s (.gs 0 0 s.nr cr) (.gs 1 0 s.ni ci) (.gs 2 0 s.no co))] (l.blks s) (fun v h' => ∃ c3 c4 c5, s.nr ≤ c3 ∧ s.ni ≤ c4 ∧ s.no ≤ c5 ∧ v = .agg (wsegs c s (.gs 3 0 s.nr c3) (.gs 4 0 s.ni c4) (.gs 5 0 s.no c5)) ∧
      h' = l.blks s ++ [bblk true s.nr l.ram (c3 - s.nr), bblk true s.ni l.inp (c4 - s.ni), bblk true s.no l.out (c5 - s.no)]) := by
  refine fnX_does TB Try.func24 rfl (by decide) (fun O on hO => ?_)
  refine draw_but [4] on rfl (fun _ _ h => h) ?_
  refine Does.at (copied_spec s l cr ci co hnr hni hno) [0, 1, 2] rfl ⟨rfl, rfl, rfl, trivial⟩ (by decide) ?_ ?_
  · rintro v h' ⟨c3, c4, c5, _, _, _, _, rfl⟩
    exact ⟨.inr (.inr rfl), .inr (.inr rfl), .inr (.inr rfl), .inl rfl, .inl rfl, .inl rfl, trivial⟩
  rintro v h' ⟨c3, c4, c5, k3, k4, k5, rfl, rfl⟩
  repeat (refine need_intro (by first | exact fun h => h | exact nt | rfl | fail) ?_)
  refine ⟨_, _, [0, 1, 2, 5, 6, 7], ⟨c3, c4, c5, k3, k4, k5, rfl, rfl⟩, by decide, ⟨rfl, rfl, rfl, trivial⟩, ?_, ⟨⟨_, rfl, eqvB_refl _⟩, ⟨_, rfl, eqvB_refl _⟩, ⟨_, rfl, eqvB_refl _⟩, ⟨_, rfl, eqvB_refl _⟩, ⟨_, rfl, eqvB_refl _⟩, ⟨_, rfl, eqvB_refl _⟩, trivial⟩⟩
  exact eqvE_refl _
set_option maxRecDepth 100000 in
theorem same18_spec (c d : CpuV) (s t : BusV) (l k : Lists) (c0 c1 c2 c3 c4 c5 : Nat) :
    Does TB 27 [.agg (wsegs c s (.gs 0 0 s.nr c0) (.gs 1 0 s.ni c1) (.gs 2 0 s.no c2)), .agg (wsegs d t (.gs 3 0 t.nr c3) (.gs 4 0 t.ni c4) (.gs 5 0 t.no c5))] (l.blks s ++ k.blks t) (fun v h' => v = .s (.bool (wholeS c d s t l k)) ∧ h' = l.blks s ++ k.blks t) := by
  refine fnX_does TB Try.func27 rfl (by decide) (fun O on hO => ?_)
  repeat (refine need_intro (by first | exact fun h => h | exact nt | rfl | (simp; done) | fail) ?_)
  have fin : ∀ {x : Bool}, x = wholeS c d s t l k → ∀ {b e : Blk}, Anv.Ends 6 (fun v h' => v = .s (.bool (wholeS c d s t l k)) ∧ h' = l.blks s ++ k.blks t) (.s (.bool x)) (l.blks s ++ k.blks t ++ [b, e]) := by
    rintro x rfl b e
    exact ⟨_, _, [0, 1, 2, 3, 4, 5], ⟨rfl, rfl⟩, by decide, ⟨rfl, rfl, rfl, rfl, rfl, rfl, trivial⟩, eqvE_refl _, ⟨⟨_, rfl, eqvB_refl _⟩, ⟨_, rfl, eqvB_refl _⟩, ⟨_, rfl, eqvB_refl _⟩, ⟨_, rfl, eqvB_refl _⟩, ⟨_, rfl, eqvB_refl _⟩, ⟨_, rfl, eqvB_refl _⟩, trivial⟩⟩
  refine ifB_intro (fun g => ?_) (fun g => ?_)
  · refine Does.ungd (b := [_, _]) ⟨⟨g, rfl⟩, ⟨g, rfl⟩, trivial⟩ ?_
    replace g : cpuS c d = true := g
    refine Does.at (rsame_spec s t l k c0 c1 c2 c3 c4 c5) [0, 1, 2, 3, 4, 5] rfl ⟨rfl, rfl, rfl, rfl, rfl, rfl, trivial⟩ (by decide) ?_ ?_
    · rintro v h' ⟨_, rfl⟩
      exact ⟨.inr (.inr rfl), .inr (.inr rfl), .inr (.inr rfl), .inr (.inr rfl), .inr (.inr rfl), .inr (.inr rfl), trivial⟩
    rintro v h' ⟨rfl, rfl⟩
    repeat (refine need_intro (by first | exact fun h => h | exact nt | rfl | (simp; done) | fail) ?_)
    refine fin ?_
    show (bif cpuS c d then busS s t l k else false) = _
    exact cond_and _ _
  · refine need_intro g ?_
    refine fin ?_
    replace g : cpuS c d = false := g
    unfold wholeS
    rw [g]
    rfl
end Go.Proofs.Ytghcdkpgcanpgaa

/- Watching: do two wholes look the same from U: the program's and the document's. No condition but the lists' lengths. -/
namespace Go.Anv
open Go
/-- RAM differs where neither R nor X is granted alone. -/
def seeN (c : CpuV) (l k : Lists) (j : Nat) : Bool := k.ram j != l.ram j && grantI c.proper.cfg c.proper.addr (0x80000000#64 + BitVec.ofNat 64 j) 5
def agreeS (c d : CpuV) (s t : BusV) (l k : Lists) : Bool := cpuS c.proper d.proper && devS s t l k && s.nr == t.nr && (List.range s.nr).all fun j => !seeN c l k j
theorem agree_no {c d : CpuV} {s t : BusV} {l k : Lists} {j : Nat} (hj : j < s.nr) (h : seeN c l k j = true) : agreeS c d s t l k = false := by
  unfold agreeS
  rw [Bool.and_eq_false_iff]
  right
  rw [Bool.eq_false_iff]
  intro e
  have := List.all_eq_true.1 e j (List.mem_range.2 hj)
  rw [h] at this
  cases this
theorem agree_yes {c d : CpuV} {s t : BusV} {l k : Lists} (h1 : cpuS c.proper d.proper = true) (h2 : devS s t l k = true) (h3 : s.nr = t.nr) (h : ∀ j, j < s.nr → seeN c l k j = false) : agreeS c d s t l k = true := by
  unfold agreeS
  rw [h1, h2, h3, beq_self_eq_true, Bool.true_and, Bool.true_and, Bool.true_and]
  exact List.all_eq_true.2 fun j hj => by rw [h j (by rw [h3]; exact List.mem_range.1 hj)]; rfl
end Go.Anv
namespace Go.Proofs.Ytghcdkpgcanpgaa
open Go Go.Anv
set_option maxRecDepth 100000 in
theorem agree_spec (c d : CpuV) (s t : BusV) (l k : Lists) (c0 c1 c2 c3 c4 c5 : Nat) (hs : s.nr < 2 ^ 62) :
    Does TB 25 [.agg (wsegs c s (.gs 0 0 s.nr c0) (.gs 1 0 s.ni c1) (.gs 2 0 s.no c2)), .agg (wsegs d t (.gs 3 0 t.nr c3) (.gs 4 0 t.ni c4) (.gs 5 0 t.no c5))] (l.blks s ++ k.blks t) (fun v h' => v = .s (.bool (agreeS c d s t l k)) ∧ h' = l.blks s ++ k.blks t) := by
  refine fnX_does TB Try.func25 rfl (by decide) (fun O on hO => ?_)
  have fin : ∀ {x : Bool}, x = agreeS c d s t l k → ∀ (b e f : Blk), Anv.Ends 6 (fun v h' => v = .s (.bool (agreeS c d s t l k)) ∧ h' = l.blks s ++ k.blks t) (.s (.bool x)) (l.blks s ++ k.blks t ++ [b, e, f]) := by
    rintro x rfl b e f
    exact ⟨_, _, [0, 1, 2, 3, 4, 5], ⟨rfl, rfl⟩, by decide, ⟨rfl, rfl, rfl, rfl, rfl, rfl, trivial⟩, eqvE_refl _, ⟨⟨_, rfl, eqvB_refl _⟩, ⟨_, rfl, eqvB_refl _⟩, ⟨_, rfl, eqvB_refl _⟩, ⟨_, rfl, eqvB_refl _⟩, ⟨_, rfl, eqvB_refl _⟩, ⟨_, rfl, eqvB_refl _⟩, trivial⟩⟩
  refine (proper_spec c _).mono ?_
  rintro _ _ ⟨rfl, rfl⟩
  refine need_intro rfl ?_
  refine draw_held on rfl (fun _ _ h => h) ?_
  refine (proper_spec d _).mono ?_
  rintro _ _ ⟨rfl, rfl⟩
  repeat (refine need_intro (by first | exact fun h => h | exact nt | rfl | (simp; done) | fail) ?_)
  refine ifB_intro (fun g => ?_) (fun g => ?_)
  · refine Does.ungd (b := [_, _]) ⟨⟨g, rfl⟩, ⟨g, rfl⟩, trivial⟩ ?_
    replace g : (!(!cpuS c.proper d.proper)) = true := g
    refine Does.at (sameBus_spec s t l k c0 c1 c2 c3 c4 c5) [0, 1, 2, 3, 4, 5] rfl ⟨rfl, rfl, rfl, rfl, rfl, rfl, trivial⟩ (by decide) ?_ ?_
    · rintro v h' ⟨_, rfl⟩
      exact ⟨.inr (.inr rfl), .inr (.inr rfl), .inr (.inr rfl), .inr (.inr rfl), .inr (.inr rfl), .inr (.inr rfl), trivial⟩
    rintro v h' ⟨rfl, rfl⟩
    repeat (refine need_intro (by first | exact fun h => h | exact nt | rfl | (simp; done) | fail) ?_)
    have hc : cpuS c.proper d.proper = true := by simpa using g
    refine ifB_intro (fun g2 => ?_) (fun g2 => ?_)
    · replace g2 : (bif (bif !cpuS c.proper d.proper then true else !devS s t l k) then true else (s.nr : Int) != (t.nr : Int)) = true := g2
      refine fin ?_ _ _ _
      rw [hc] at g2
      unfold agreeS
      cases hd : devS s t l k with
      | false => simp
      | true =>
        rw [hd] at g2
        have : s.nr ≠ t.nr := by
          intro e; rw [e] at g2; simp at g2
        simp [this]
    · replace g2 : (bif (bif !cpuS c.proper d.proper then true else !devS s t l k) then true else (s.nr : Int) != (t.nr : Int)) = false := g2
      rw [hc] at g2
      have hd : devS s t l k = true := by
        cases hd : devS s t l k with
        | false => rw [hd] at g2; cases g2
        | true => rfl
      rw [hd] at g2
      have hr : s.nr = t.nr := by
        have := bne_eq_false_iff_eq.1 (show ((s.nr : Int) != (t.nr : Int)) = false from g2)
        omega
      refine loop_by (A := Nat) on (fun j => [(39, .s (.int .i64 (j : Int)))]) (fun _ => l.blks s ++ k.blks t ++ [.cells true (wsegs c s (.gs 0 0 s.nr c0) (.gs 1 0 s.ni c1) (.gs 2 0 s.no c2)) 0, .cells true (wsegs d t (.gs 3 0 t.nr c3) (.gs 4 0 t.ni c4) (.gs 5 0 t.no c5)) 0, .cells true c.proper.segs 0]) (fun j => j ≤ s.nr ∧ ∀ i, i < j → seeN c l k i = false) (fun j => s.nr - j) 0 ⟨Nat.zero_le _, fun i hi => absurd hi (Nat.not_lt_zero i)⟩ ?_ ?_
      · refine ⟨?_, eqvB_refl _, eqvB_refl _, eqvB_refl _, eqvB_refl _, eqvB_refl _, eqvB_refl _, eqvB_refl _, eqvB_refl _, eqvB_refl _, trivial⟩
        repeat' (first | exact eqvT_nil | refine eqvT_junk ?_ | refine eqvT_same ?_ | refine eqvT_int ?_ ?_)
      intro j ⟨hj, hp⟩
      refine ifB_intro (fun h4 => ?_) (fun h4 => ?_)
      · have hj1 : j < s.nr := by have := of_decide_eq_true h4; omega
        repeat (refine need_intro (by first | omega | exact ⟨by omega, by omega⟩ | exact fun h => h | exact nt | rfl | (simp; done) | fail) ?_)
        have hne : (bfun k.ram (0 + (j : Int).toNat) != bfun l.ram (0 + (j : Int).toNat)) = (k.ram j != l.ram j) := by
          rw [Nat.zero_add, Int.toNat_natCast]
          exact bne_nat _ _
        refine ifB_intro (fun h5 => ?_) (fun h5 => ?_)
        · refine Does.ungd (b := [.agg (pmpSeg c.proper.cfg c.proper.addr), .s (.int .u64 ((0x80000000#64 + BitVec.ofNat 64 j).toNat : Int)), .s (.int .i64 5)]) ⟨⟨h5, rfl⟩, ⟨h5, congrArg (fun z => EV.s (.int .u64 z)) (addk (a := 0x80000000#64) (k := j) (by omega))⟩, rfl, trivial⟩ ?_
          refine (granted_spec _ _ _ _ _).mono ?_
          rintro _ _ ⟨rfl, rfl⟩
          replace h5 := hne.symm.trans h5
          have hse : seeN c l k j = grantI c.proper.cfg c.proper.addr (0x80000000#64 + BitVec.ofNat 64 j) 5 := by unfold seeN; rw [h5, Bool.true_and]
          refine ifB_intro (fun h6 => ?_) (fun h6 => ?_)
          · replace h6 := (cond_and _ _).symm.trans h6
            rw [Bool.and_eq_true] at h6
            exact fin (agree_no hj1 (hse.trans h6.2)).symm _ _ _
          · replace h6 := (cond_and _ _).symm.trans h6
            rw [hne.trans h5, Bool.true_and] at h6
            refine ⟨j + 1, ⟨hj1, fun i hi => ?_⟩, by simp only; omega, ?_⟩
            · rcases Nat.lt_succ_iff_lt_or_eq.1 hi with h | h
              · exact hp i h
              · subst h; exact hse.trans h6
            refine ⟨?_, eqvB_refl _, eqvB_refl _, eqvB_refl _, eqvB_refl _, eqvB_refl _, eqvB_refl _, eqvB_refl _, eqvB_refl _, eqvB_refl _, trivial⟩
            repeat' (first | exact eqvT_nil | refine eqvT_junk ?_ | refine eqvT_same ?_ | refine eqvT_int ?_ ?_)
            rw [i64_in (by omega) (by omega)]; omega
        · refine need_intro h5 ?_
          have h6 := hne.symm.trans h5
          refine ⟨j + 1, ⟨hj1, fun i hi => ?_⟩, by simp only; omega, ?_⟩
          · rcases Nat.lt_succ_iff_lt_or_eq.1 hi with h | h
            · exact hp i h
            · subst h; unfold seeN; rw [h6]; rfl
          refine ⟨?_, eqvB_refl _, eqvB_refl _, eqvB_refl _, eqvB_refl _, eqvB_refl _, eqvB_refl _, eqvB_refl _, eqvB_refl _, eqvB_refl _, trivial⟩
          repeat' (first | exact eqvT_nil | refine eqvT_junk ?_ | refine eqvT_same ?_ | refine eqvT_int ?_ ?_)
          rw [i64_in (by omega) (by omega)]; omega
      · have hj1 : j = s.nr := by have := of_decide_eq_false h4; omega
        subst hj1
        exact fin (agree_yes hc hd hr hp).symm _ _ _
  · replace g : (!(!cpuS c.proper d.proper)) = false := g
    have hc : cpuS c.proper d.proper = false := by simpa using g
    repeat (refine need_intro (by first | exact g | exact fun h => h | exact nt | rfl | (simp; done) | fail) ?_)
    refine ifB_intro (fun h => absurd (h.symm.trans g) (by decide)) (fun _ => ?_)
    repeat (refine need_intro (by first | exact g | exact nt hc | exact fun h => h | exact nt | rfl | (simp; done) | fail) ?_)
    exact fin (by unfold agreeS; rw [hc]; rfl) _ _ _
set_option maxRecDepth 100000 in
theorem ragree_spec (c d : CpuV) (s t : BusV) (l k : Lists) (c0 c1 c2 c3 c4 c5 : Nat) (hs : s.nr < 2 ^ 62) (h1 : s.ni < 2 ^ 62) (h2 : t.ni < 2 ^ 62) (h3 : s.no < 2 ^ 62) (h4 : t.no < 2 ^ 62) :
    Does TB 26 [.agg (wsegs c s (.gs 0 0 s.nr c0) (.gs 1 0 s.ni c1) (.gs 2 0 s.no c2)), .agg (wsegs d t (.gs 3 0 t.nr c3) (.gs 4 0 t.ni c4) (.gs 5 0 t.no c5))] (l.blks s ++ k.blks t) (fun v h' => v = .s (.bool (agreeS c d s t l k)) ∧ h' = l.blks s ++ k.blks t) := by
  refine fnX_does TB Try.func26 rfl (by decide) (fun O on hO => ?_)
  have fin : ∀ {x : Bool}, x = agreeS c d s t l k → ∀ (b e f : Blk), Anv.Ends 6 (fun v h' => v = .s (.bool (agreeS c d s t l k)) ∧ h' = l.blks s ++ k.blks t) (.s (.bool x)) (l.blks s ++ k.blks t ++ [b, e, f]) := by
    rintro x rfl b e f
    exact ⟨_, _, [0, 1, 2, 3, 4, 5], ⟨rfl, rfl⟩, by decide, ⟨rfl, rfl, rfl, rfl, rfl, rfl, trivial⟩, eqvE_refl _, ⟨⟨_, rfl, eqvB_refl _⟩, ⟨_, rfl, eqvB_refl _⟩, ⟨_, rfl, eqvB_refl _⟩, ⟨_, rfl, eqvB_refl _⟩, ⟨_, rfl, eqvB_refl _⟩, ⟨_, rfl, eqvB_refl _⟩, trivial⟩⟩
  refine (rproper_spec c _).mono ?_
  rintro _ _ ⟨rfl, rfl⟩
  refine need_intro rfl ?_
  refine draw_held on rfl (fun _ _ h => h) ?_
  refine (rproper_spec d _).mono ?_
  rintro _ _ ⟨rfl, rfl⟩
  repeat (refine need_intro (by first | exact fun h => h | exact nt | rfl | (simp; done) | fail) ?_)
  refine ifB_intro (fun g => ?_) (fun g => ?_)
  · refine Does.ungd (b := [_, _]) ⟨⟨g, rfl⟩, ⟨g, rfl⟩, trivial⟩ ?_
    replace g : (!(!cpuS c.proper d.proper)) = true := g
    refine Does.at (devices_spec s t l k c0 c1 c2 c3 c4 c5 h1 h2 h3 h4) [0, 1, 2, 3, 4, 5] rfl ⟨rfl, rfl, rfl, rfl, rfl, rfl, trivial⟩ (by decide) ?_ ?_
    · rintro v h' ⟨_, rfl⟩
      exact ⟨.inr (.inr rfl), .inr (.inr rfl), .inr (.inr rfl), .inr (.inr rfl), .inr (.inr rfl), .inr (.inr rfl), trivial⟩
    rintro v h' ⟨rfl, rfl⟩
    repeat (refine need_intro (by first | exact fun h => h | exact nt | rfl | (simp; done) | fail) ?_)
    have hc : cpuS c.proper d.proper = true := by simpa using g
    refine ifB_intro (fun g2 => ?_) (fun g2 => ?_)
    · replace g2 : (bif (bif !cpuS c.proper d.proper then true else !devS s t l k) then true else (s.nr : Int) != (t.nr : Int)) = true := g2
      refine fin ?_ _ _ _
      rw [hc] at g2
      unfold agreeS
      cases hd : devS s t l k with
      | false => simp
      | true =>
        rw [hd] at g2
        have : s.nr ≠ t.nr := by
          intro e; rw [e] at g2; simp at g2
        simp [this]
    · replace g2 : (bif (bif !cpuS c.proper d.proper then true else !devS s t l k) then true else (s.nr : Int) != (t.nr : Int)) = false := g2
      rw [hc] at g2
      have hd : devS s t l k = true := by
        cases hd : devS s t l k with
        | false => rw [hd] at g2; cases g2
        | true => rfl
      rw [hd] at g2
      have hr : s.nr = t.nr := by
        have := bne_eq_false_iff_eq.1 (show ((s.nr : Int) != (t.nr : Int)) = false from g2)
        omega
      refine loop_by (A := Nat) on (fun j => [(6, .s (.int .i64 (j : Int)))]) (fun _ => l.blks s ++ k.blks t ++ [.cells true (wsegs c s (.gs 0 0 s.nr c0) (.gs 1 0 s.ni c1) (.gs 2 0 s.no c2)) 0, .cells true (wsegs d t (.gs 3 0 t.nr c3) (.gs 4 0 t.ni c4) (.gs 5 0 t.no c5)) 0, .cells true c.proper.segs 0]) (fun j => j ≤ s.nr ∧ ∀ i, i < j → seeN c l k i = false) (fun j => s.nr - j) 0 ⟨Nat.zero_le _, fun i hi => absurd hi (Nat.not_lt_zero i)⟩ ?_ ?_
      · refine ⟨?_, eqvB_refl _, eqvB_refl _, eqvB_refl _, eqvB_refl _, eqvB_refl _, eqvB_refl _, eqvB_refl _, eqvB_refl _, eqvB_refl _, trivial⟩
        repeat' (first | exact eqvT_nil | refine eqvT_junk ?_ | refine eqvT_same ?_ | refine eqvT_int ?_ ?_)
      intro j ⟨hj, hp⟩
      refine ifB_intro (fun h4 => ?_) (fun h4 => ?_)
      · have hj1 : j < s.nr := by have := of_decide_eq_true h4; omega
        refine draw_held on rfl (fun _ _ h => h) ?_
        repeat (refine need_intro (by first | omega | exact ⟨by omega, by omega⟩ | exact fun h => h | exact nt | rfl | (simp; done) | fail) ?_)
        have hne : (bfun l.ram (0 + (j : Int).toNat) != bfun k.ram (0 + (j : Int).toNat)) = (k.ram j != l.ram j) := by
          rw [Nat.zero_add, Int.toNat_natCast]
          refine (bne_nat _ _).trans ?_
          rw [Bool.eq_iff_iff, bne_iff_ne, bne_iff_ne]
          exact ⟨fun h e => h e.symm, fun h e => h e.symm⟩
        refine ifB_intro (fun h5 => ?_) (fun h5 => ?_)
        · refine Does.ungd (b := [.agg (pmpSeg c.proper.cfg c.proper.addr), .s (.int .u64 ((0x80000000#64 + BitVec.ofNat 64 j).toNat : Int)), .s (.int .i64 5)]) ⟨⟨h5, rfl⟩, ⟨h5, congrArg (fun z => EV.s (.int .u64 z)) (addk (a := 0x80000000#64) (k := j) (by omega))⟩, rfl, trivial⟩ ?_
          refine (rgranted_spec _ _ _ _ _).mono ?_
          rintro _ _ ⟨rfl, rfl⟩
          repeat (refine need_intro (by first | exact fun h => h | exact nt | rfl | (simp; done) | fail) ?_)
          replace h5 := hne.symm.trans h5
          have hse : seeN c l k j = grantI c.proper.cfg c.proper.addr (0x80000000#64 + BitVec.ofNat 64 j) 5 := by unfold seeN; rw [h5, Bool.true_and]
          refine ifB_intro (fun h6 => ?_) (fun h6 => ?_)
          · replace h6 := (cond_and _ _).symm.trans h6
            rw [Bool.and_eq_true] at h6
            exact fin (agree_no hj1 (hse.trans h6.2)).symm _ _ _
          · replace h6 := (cond_and _ _).symm.trans h6
            rw [hne.trans h5, Bool.true_and] at h6
            refine ⟨j + 1, ⟨hj1, fun i hi => ?_⟩, by simp only; omega, ?_⟩
            · rcases Nat.lt_succ_iff_lt_or_eq.1 hi with h | h
              · exact hp i h
              · subst h; exact hse.trans h6
            refine ⟨?_, eqvB_refl _, eqvB_refl _, eqvB_refl _, eqvB_refl _, eqvB_refl _, eqvB_refl _, eqvB_refl _, eqvB_refl _, eqvB_refl _, trivial⟩
            repeat' (first | exact eqvT_nil | refine eqvT_junk ?_ | refine eqvT_same ?_ | refine eqvT_int ?_ ?_)
            rw [i64_in (by omega) (by omega)]; omega
        · repeat (refine need_intro (by first | exact h5 | rfl | fail) ?_)
          have h6 := hne.symm.trans h5
          refine ⟨j + 1, ⟨hj1, fun i hi => ?_⟩, by simp only; omega, ?_⟩
          · rcases Nat.lt_succ_iff_lt_or_eq.1 hi with h | h
            · exact hp i h
            · subst h; unfold seeN; rw [h6]; rfl
          refine ⟨?_, eqvB_refl _, eqvB_refl _, eqvB_refl _, eqvB_refl _, eqvB_refl _, eqvB_refl _, eqvB_refl _, eqvB_refl _, eqvB_refl _, trivial⟩
          repeat' (first | exact eqvT_nil | refine eqvT_junk ?_ | refine eqvT_same ?_ | refine eqvT_int ?_ ?_)
          rw [i64_in (by omega) (by omega)]; omega
      · have hj1 : j = s.nr := by have := of_decide_eq_false h4; omega
        subst hj1
        exact fin (agree_yes hc hd hr hp).symm _ _ _
  · replace g : (!(!cpuS c.proper d.proper)) = false := g
    have hc : cpuS c.proper d.proper = false := by simpa using g
    repeat (refine need_intro (by first | exact g | exact fun h => h | exact nt | rfl | (simp; done) | fail) ?_)
    refine ifB_intro (fun h => absurd (h.symm.trans g) (by decide)) (fun _ => ?_)
    repeat (refine need_intro (by first | exact g | exact nt hc | exact fun h => h | exact nt | rfl | (simp; done) | fail) ?_)
    exact fin (by unfold agreeS; rw [hc]; rfl) _ _ _
end Go.Proofs.Ytghcdkpgcanpgaa

/- The engine, part 18: contracts that leave all as it was: used in a larger heap; shown at a function's end. Plain theorems, no condition. -/
namespace Go.Anv
open Go

theorem updB_self : ∀ {h : List Blk} {k : Nat} {B : Blk}, nthB h k = some B → updB h k B = h
  | [], _, _, h => by simp [nthB] at h
  | x :: r, 0, B, h => by simp only [nthB, Option.some.injEq] at h; subst h; rfl
  | x :: r, k + 1, B, h => by simp only [nthB] at h; simp only [updB, updB_self h]

theorem mergeB_self {h : List Blk} : ∀ {κ : List Nat} {r : List Blk}, subH h κ r → mergeB h κ r = h
  | [], [], _ => by simp [mergeB]
  | k :: κ, B :: r, hk => by
    rw [mergeB, updB_self hk.1]
    exact mergeB_self hk.2
  | [], _ :: _, hk => hk.elim
  | _ :: _, [], hk => hk.elim

theorem roOk_self : ∀ h : List Blk, roOk h h
  | [] => trivial
  | _ :: r => ⟨.inr (.inr rfl), roOk_self r⟩

/-- A contract that leaves its heap as it was, in a larger heap. -/
theorem Does.atc {T : Tbl} {f : FuncId} {args : List EV} {hc : List Blk} {X : EV} (c : Does T f args hc (fun v h' => v = X ∧ h' = hc)) (κ : List Nat) {args' : List EV} {h : List Blk} {K : EV → List Blk → Prop}
    (ha : args' = renT (lk κ h.length) args) (hh : subH h κ (renH (lk κ h.length) hc)) (hnd : κ.Nodup) (hK : forceE (renE (lk κ h.length) X) fun v => K v h) : Does T f args' h K := by
  refine Does.at c κ ha hh hnd ?_ ?_
  · rintro v h' ⟨_, rfl⟩
    exact roOk_self _
  · rintro v h' ⟨rfl, rfl⟩
    rw [mergeB_self hh, forceH_eq]
    exact hK

theorem subQ_pre (J : List Blk) : ∀ (H P : List Blk), subQ (P ++ (H ++ J)) (List.range' P.length H.length) H
  | [], _ => trivial
  | B :: r, P => by
    refine ⟨⟨B, ?_, eqvB_refl B⟩, ?_⟩
    · apply get_nthB
      rw [List.getElem?_append_right (Nat.le_refl _), Nat.sub_self]
      rfl
    · have := subQ_pre J r (P ++ [B])
      simpa [List.append_assoc] using this

/-- The end of a function that leaves its heap as it was; new blocks are let go. -/
theorem Ends.ro {n : Nat} {H J : List Blk} {X x : EV} (hn : H.length = n) (hx : eqvE x (renE (lk (List.range n) (H ++ J).length) X)) (hH : renH (lk (List.range n) (H ++ J).length) H = H) : Ends n (fun v h' => v = X ∧ h' = H) x (H ++ J) := by
  subst hn
  refine ⟨X, H, List.range H.length, ⟨rfl, rfl⟩, List.nodup_range, ?_, hx, ?_⟩
  · rw [List.range_eq_range']; exact idK_range _ _ 0 (Nat.le_refl _)
  · rw [hH, List.range_eq_range']
    exact subQ_pre J H []

/-! ### a drawn region's orders, one state for all -/

theorem eqvH_subQ (h : List Blk) : subQ h (List.range' 0 h.length) h := subQ_range h h 0 rfl

theorem renT_same' {ρ : Nat → Nat} (hρ : ∀ i, ρ i = i) : ∀ l : List EV, renT ρ l = l := renT_same hρ

theorem leR_refl {n : Nat} {s : St} (hn : n ≤ s.heap.length) : leR n (List.range s.heap.length) s s := by
  have hlk : ∀ i, lk (List.range s.heap.length) s.heap.length i = i := lk_range s.heap.length
  refine ⟨List.nodup_range, ?_, ?_, ?_⟩
  · rw [List.range_eq_range']; exact idK_range n _ 0 hn
  · rw [renT_same' hlk]; exact eqvT_refl _
  · rw [renH_same hlk, List.range_eq_range']
    exact eqvH_subQ _

def toK (n : Nat) (t : St) : Exit → St → Prop
  | .normal, s => ∃ κ, leR n κ s t
  | _, _ => False

/-- **A drawn region: all its orders end in one state (with other numbers), from which the walk goes on.** -/
theorem draw_to {T : Tbl} {O : Org} (on : O.E.n = O.h.length) {id : Nat} {ops : Array Oper} {s : St} {K : Exit → St → Prop} (t : St) (hd : DrawG T O id ops s (toK O.E.n t)) (hk : K .normal t) : DrawG T O id ops s K := by
  intro E a w R
  refine Code.wp_mono ?_ (hd E a w R)
  rintro e a' w' ⟨E', s', h1, R'⟩
  cases e with
  | normal =>
    obtain ⟨κ, hκ⟩ := h1
    obtain ⟨E'', R''⟩ := R'.renum on hκ
    exact ⟨E'', t, hk, R''⟩
  | _ => exact h1.elim

theorem toK_id {n : Nat} {s : St} (hn : n ≤ s.heap.length) : toK n s .normal s := ⟨_, leR_refl hn⟩

theorem toK_of {n : Nat} {s t : St} (κ : List Nat) (h1 : κ.Nodup) (h2 : idK 0 n κ) (h3 : eqvT s.tmps (renT (lk κ s.heap.length) t.tmps)) (h4 : subQ s.heap κ (renH (lk κ s.heap.length) t.heap)) : toK n t .normal s := ⟨κ, h1, h2, h3, h4⟩

/-! ### numbers of blocks, written out -/

def litK (b : Nat) (k : Nat → Prop) : Prop :=
  match b with
  | 0 => k 0
  | 1 => k 1
  | 2 => k 2
  | 3 => k 3
  | 4 => k 4
  | 5 => k 5
  | 6 => k 6
  | 7 => k 7
  | 8 => k 8
  | 9 => k 9
  | 10 => k 10
  | 11 => k 11
  | 12 => k 12
  | 13 => k 13
  | 14 => k 14
  | 15 => k 15
  | 16 => k 16
  | 17 => k 17
  | 18 => k 18
  | 19 => k 19
  | 20 => k 20
  | 21 => k 21
  | 22 => k 22
  | 23 => k 23
  | 24 => k 24
  | 25 => k 25
  | 26 => k 26
  | 27 => k 27
  | 28 => k 28
  | 29 => k 29
  | 30 => k 30
  | 31 => k 31
  | 32 => k 32
  | 33 => k 33
  | 34 => k 34
  | 35 => k 35
  | 36 => k 36
  | 37 => k 37
  | 38 => k 38
  | 39 => k 39
  | n => k n

theorem litK_eq (b : Nat) (k : Nat → Prop) : litK b k = k b := by
  unfold litK
  split <;> rfl

mutual
def nV : SV → (SV → Prop) → Prop
  | .junk, k => k .junk
  | .int q n, k => k (.int q n)
  | .bool b, k => k (.bool b)
  | .str s, k => k (.str s)
  | .ptr b o, k => litK b fun b => k (.ptr b o)
  | .pix b o i, k => litK b fun b => k (.pix b o i)
  | .rp b o i z, k => litK b fun b => k (.rp b o i z)
  | .nilptr, k => k .nilptr
  | .slice b o l c, k => litK b fun b => k (.slice b o l c)
  | .nilslice, k => k .nilslice
  | .gs b o l c, k => litK b fun b => k (.gs b o l c)
  | .map b, k => litK b fun b => k (.map b)
  | .nilmap, k => k .nilmap
  | .func f a c, k => nL a fun a => nL c fun c => k (.func f a c)
  | .nilfunc, k => k .nilfunc
  | .iface t a c, k => nL c fun c => k (.iface t a c)
  | .niliface, k => k .niliface
def nL : List SV → (List SV → Prop) → Prop
  | [], k => k []
  | x :: r, k => nV x fun x => nL r fun r => k (x :: r)
end

mutual
theorem nV_eq : ∀ (v : SV) (k : SV → Prop), nV v k = k v
  | .junk, _ => rfl
  | .int .., _ => rfl
  | .bool _, _ => rfl
  | .str _, _ => rfl
  | .ptr .., _ => by simp only [nV, litK_eq]
  | .pix .., _ => by simp only [nV, litK_eq]
  | .rp .., _ => by simp only [nV, litK_eq]
  | .nilptr, _ => rfl
  | .slice .., _ => by simp only [nV, litK_eq]
  | .nilslice, _ => rfl
  | .gs .., _ => by simp only [nV, litK_eq]
  | .map _, _ => by simp only [nV, litK_eq]
  | .nilmap, _ => rfl
  | .func f a c, k => by simp only [nV]; rw [nL_eq a]; rw [nL_eq c]
  | .nilfunc, _ => rfl
  | .iface t a c, k => by simp only [nV]; rw [nL_eq c]
  | .niliface, _ => rfl
theorem nL_eq : ∀ (l : List SV) (k : List SV → Prop), nL l k = k l
  | [], _ => rfl
  | x :: r, k => by simp only [nL]; rw [nV_eq x]; rw [nL_eq r]
end

def nS (l : List Seg) : (List Seg → Prop) → Prop :=
  List.rec (motive := fun _ => (List Seg → Prop) → Prop) (fun k => k []) (fun x _ ih k => match x with
    | .one v => nV v fun v => ih fun r => k (.one v :: r)
    | .ints q n f => ih fun r => k (.ints q n f :: r)) l

theorem nS_eq : ∀ (cs : List Seg) (k : List Seg → Prop), nS cs k = k cs
  | [], _ => rfl
  | .one v :: r, k => by
    show (nV v fun v => nS r fun r => k (.one v :: r)) = _
    rw [nV_eq, nS_eq r]
  | .ints q n f :: r, k => by
    show (nS r fun r => k (.ints q n f :: r)) = _
    rw [nS_eq r]

def nB (B : Blk) (k : Blk → Prop) : Prop :=
  match B with
  | .cells m cs sp => nS cs fun cs => k (.cells m cs sp)
  | .recs m n z f sp => k (.recs m n z f sp)
  | .map es => k (.map es)
  | .dead => k .dead

def nH (l : List Blk) : (List Blk → Prop) → Prop :=
  List.rec (motive := fun _ => (List Blk → Prop) → Prop) (fun k => k []) (fun B _ ih k => nB B fun B => ih fun r => k (B :: r)) l

theorem nB_eq (B : Blk) (k : Blk → Prop) : nB B k = k B := by cases B <;> simp only [nB, nS_eq]
theorem nH_eq : ∀ (h : List Blk) (k : List Blk → Prop), nH h k = k h
  | [], _ => rfl
  | B :: r, k => by
    show (nB B fun B => nH r fun r => k (B :: r)) = _
    rw [nB_eq, nH_eq r]

def nE (v : EV) (k : EV → Prop) : Prop :=
  match v with
  | .s v => nV v fun v => k (.s v)
  | .agg cs => nS cs fun cs => k (.agg cs)
  | v => forceE v k

theorem nE_eq (v : EV) (k : EV → Prop) : nE v k = k v := by
  cases v <;> simp only [nE, nV_eq, nS_eq, forceE_eq]

/-- A contract in a larger heap; the numbers behind it are written out. -/
theorem Does.atn {T : Tbl} {f : FuncId} {args : List EV} {hc : List Blk} {Q : EV → List Blk → Prop} (c : Does T f args hc Q) (κ : List Nat) {args' : List EV} {h : List Blk} {K : EV → List Blk → Prop}
    (ha : args' = renT (lk κ h.length) args) (hh : subH h κ (renH (lk κ h.length) hc)) (hnd : κ.Nodup) (hro : ∀ v h', Q v h' → roOk hc h')
    (hK : ∀ v' h', Q v' h' → nH (mergeB h κ (renH (lk κ h.length) h')) fun h2 => nE (renE (lk κ h.length) v') fun v => K v h2) : Does T f args' h K :=
  Does.at c κ ha hh hnd hro fun v' h' hq => by
    have := hK v' h' hq
    rw [nH_eq, nE_eq] at this
    rw [forceH_eq, forceE_eq]
    exact this
end Go.Anv

/- Watching: one step as it was seen: its values, its block, the small questions asked of it. No condition: contracts of functions. -/
namespace Go.Anv
open Go
structure RowV where
  step : Int
  kind : Int
  mode : Int
  pc : B64
  raw : B32
  len : Int
  cause : B64
  tval : B64
  rd : Int
  val : B64
  mem : Int
  addr : B64
  size : Int
  data : B64
  next : B64
  nextMode : Int
/-- The cells of api.Row. -/
def RowV.svs (r : RowV) : List SV :=
  [.int .i64 r.step, .int .i64 r.kind, .int .i64 r.mode, .int .u64 r.pc.toNat, .int .u32 r.raw.toNat, .int .i64 r.len, .int .u64 r.cause.toNat, .int .u64 r.tval.toNat, .int .i64 r.rd, .int .u64 r.val.toNat, .int .i64 r.mem, .int .u64 r.addr.toNat, .int .i64 r.size, .int .u64 r.data.toNat, .int .u64 r.next.toNat, .int .i64 r.nextMode]
def RowV.segs (r : RowV) : List Seg := r.svs.map .one
/-- What a step showed: the wholes (c, s; d, t), the Cpu behind as it was handed in (e), the world, the row; the lists' rooms. -/
structure Sc where
  c : CpuV
  d : CpuV
  e : CpuV
  s : BusV
  t : BusV
  l : Lists
  k : Lists
  tick : Bool
  ext : Bool
  soft : Bool
  nw : Nat
  mw : Bool
  sw : Nat
  w : Nat → B8
  r : RowV
  c0 : Nat
  c1 : Nat
  c2 : Nat
  c3 : Nat
  c4 : Nat
  c5 : Nat
  cw : Nat
def Sc.lists (z : Sc) : List Blk := [bblk z.l.mr z.s.nr z.l.ram z.l.sr, bblk z.l.mi z.s.ni z.l.inp z.l.si, bblk z.l.mo z.s.no z.l.out z.l.so, bblk z.k.mr z.t.nr z.k.ram z.k.sr, bblk z.k.mi z.t.ni z.k.inp z.k.si, bblk z.k.mo z.t.no z.k.out z.k.so, bblk z.mw z.nw z.w z.sw]
def Sc.world (z : Sc) : List Seg := [.one (.bool z.tick), .one (.bool z.ext), .one (.bool z.soft), .one (.gs 6 0 z.nw z.cw)]
def Sc.b (z : Sc) : List Seg := wsegs z.c z.s (.gs 0 0 z.s.nr z.c0) (.gs 1 0 z.s.ni z.c1) (.gs 2 0 z.s.no z.c2)
def Sc.a (z : Sc) : List Seg := wsegs z.d z.t (.gs 3 0 z.t.nr z.c3) (.gs 4 0 z.t.ni z.c4) (.gs 5 0 z.t.no z.c5)
def Sc.segs (z : Sc) : List Seg := z.b ++ z.a ++ z.world ++ z.r.segs ++ z.e.segs
def Sc.h (z : Sc) : List Blk := z.lists ++ [.cells true z.segs 0]
/-- Lengths that can be. -/
structure Sc.Ok (z : Sc) : Prop where
  nr : z.s.nr ≤ 140737488355328
  ni : z.s.ni ≤ 140737488355328
  no : z.s.no ≤ 140737488355328
  mr : z.t.nr ≤ 140737488355328
  mi : z.t.ni ≤ 140737488355328
  mo : z.t.no ≤ 140737488355328
  cr : z.s.nr ≤ z.c0
  ci : z.s.ni ≤ z.c1
  co : z.s.no ≤ z.c2
  dr : z.t.nr ≤ z.c3
  di : z.t.ni ≤ z.c4
  do_ : z.t.no ≤ z.c5
  size : -9223372036854775808 ≤ z.r.size ∧ z.r.size ≤ 9223372036854775807
/-- Has Mem W? -/
def RowV.stores (r : RowV) : Bool := bitX .and .i64 r.mem 2 != 0
def RowV.trapped (r : RowV) : Bool := r.kind == 2 || r.kind == 3
def RowV.counts (r : RowV) : Bool := r.kind == 1 && bitX .and .u32 (r.raw.toNat : Int) 127 == 115
def RowV.placed (r : RowV) : Bool := r.mem != 0 && decide (0 < r.size) && decide (r.size ≤ 8)
def RowV.within (r : RowV) (a : B64) : Bool := r.placed && decide (r.addr ≤ a) && decide (((a - r.addr).toNat : Int) < r.size)
def anyN (f : Nat → Bool) : Nat → Bool
  | 0 => false
  | n + 1 => anyN f n || f n
def RowV.storedAt (r : RowV) (a : B64) (n : Nat) : Bool := r.stores && anyN (fun k => r.within (a + BitVec.ofNat 64 k)) n
theorem cond_all (a b : Bool) : (bif a then b else false) = (a && b) := by cases a <;> rfl
theorem wsize {x : Int} (h : 0 ≤ x ∧ x ≤ 9223372036854775807) : IntKind.u64.wrap x = x := by
  rw [wrap_u64, BitVec.toNat_ofInt]; omega
theorem placed_size {r : RowV} (h : r.placed = true) : (0 < r.size ∧ r.size ≤ 8) ∧ IntKind.u64.wrap r.size = r.size := by
  unfold RowV.placed at h
  rw [Bool.and_eq_true, Bool.and_eq_true] at h
  have h1 := of_decide_eq_true h.1.2
  have h2 := of_decide_eq_true h.2
  exact ⟨⟨h1, h2⟩, wsize (by omega)⟩
theorem eqvH_refl : ∀ h : List Blk, eqvH h h
  | [] => trivial
  | _ :: r => ⟨eqvB_refl _, eqvH_refl r⟩
theorem anyN_true {f : Nat → Bool} {n k : Nat} (hk : k < n) (h : f k = true) : anyN f n = true := by
  induction n with
  | zero => omega
  | succ n ih =>
    rw [anyN]
    rcases Nat.lt_succ_iff_lt_or_eq.1 hk with h' | h'
    · rw [ih h']; rfl
    · subst h'; rw [h, Bool.or_true]
theorem anyN_false {f : Nat → Bool} {n : Nat} (h : ∀ k, k < n → f k = false) : anyN f n = false := by
  induction n with
  | zero => rfl
  | succ n ih => rw [anyN, ih (fun k hk => h k (by omega)), h n (by omega)]; rfl
end Go.Anv
namespace Go.Proofs.Ytghcdkpgcanpgaa
open Go Go.Anv
set_option maxRecDepth 100000 in
theorem stores_spec (z : Sc) : Does TB 154 [.s (.ptr 7 0)] z.h (fun v h' => v = .s (.bool z.r.stores) ∧ h' = z.h) := by
  refine fnX_does TB Try.func154 rfl (by decide) (fun O on hO => ?_)
  exact Ends.ro (J := []) rfl rfl rfl
set_option maxRecDepth 100000 in
theorem trapped_spec (z : Sc) : Does TB 139 [.s (.ptr 7 0)] z.h (fun v h' => v = .s (.bool z.r.trapped) ∧ h' = z.h) := by
  refine fnX_does TB Try.func139 rfl (by decide) (fun O on hO => ?_)
  repeat (refine need_intro (by first | exact fun h => h | exact nt | rfl | (simp; done) | fail) ?_)
  exact Ends.ro (J := []) rfl (cond_or _ _) rfl
set_option maxRecDepth 100000 in
theorem counts_spec (z : Sc) : Does TB 131 [.s (.ptr 7 0)] z.h (fun v h' => v = .s (.bool z.r.counts) ∧ h' = z.h) := by
  refine fnX_does TB Try.func131 rfl (by decide) (fun O on hO => ?_)
  repeat (refine need_intro (by first | exact fun h => h | exact nt | rfl | (simp; done) | fail) ?_)
  exact Ends.ro (J := []) rfl (cond_and _ _) rfl
set_option maxRecDepth 100000 in
theorem placed_spec (z : Sc) : Does TB 167 [.s (.ptr 7 0)] z.h (fun v h' => v = .s (.bool z.r.placed) ∧ h' = z.h) := by
  refine fnX_does TB Try.func167 rfl (by decide) (fun O on hO => ?_)
  repeat (refine need_intro (by first | exact fun h => h | exact nt | rfl | (simp; done) | fail) ?_)
  refine Ends.ro (H := z.h) rfl ?_ rfl
  show (bif (bif z.r.mem != 0 then _ else false) then _ else false) = _
  rw [cond_and, cond_and]
  rfl
set_option maxRecDepth 100000 in
theorem within_spec (z : Sc) (a : B64) : Does TB 155 [.s (.ptr 7 0), .s (.int .u64 a.toNat)] z.h (fun v h' => v = .s (.bool (z.r.within a)) ∧ h' = z.h) := by
  refine fnX_does TB Try.func155 rfl (by decide) (fun O on hO => ?_)
  refine draw_held on rfl (fun _ _ h => h) ?_
  refine Does.atc (placed_spec z) [0, 1, 2, 3, 4, 5, 6, 7] rfl ⟨rfl, rfl, rfl, rfl, rfl, rfl, rfl, rfl, trivial⟩ (by decide) ?_
  repeat (refine need_intro (by first | exact fun h => h | exact nt | rfl | (simp; done) | fail) ?_)
  refine Ends.ro (H := z.h) rfl ?_ rfl
  show (bif (bif z.r.placed then decide (((a.toNat : Nat) : Int) ≥ ((z.r.addr.toNat : Nat) : Int)) else false) then decide (IntKind.u64.wrap (((a.toNat : Nat) : Int) - ((z.r.addr.toNat : Nat) : Int)) < IntKind.u64.wrap z.r.size) else false) = z.r.within a
  rw [cond_and, cond_and, sub64, ge_nat]
  unfold RowV.within
  cases hp : z.r.placed with
  | false => rfl
  | true => rw [(placed_size hp).2]
set_option maxRecDepth 100000 in
theorem storedAt_spec (z : Sc) (a : B64) (n : Nat) (hn : n < 2 ^ 62) : Does TB 134 [.s (.ptr 7 0), .s (.int .u64 a.toNat), .s (.int .i64 (n : Int))] z.h (fun v h' => v = .s (.bool (z.r.storedAt a n)) ∧ h' = z.h) := by
  refine fnX_does TB Try.func134 rfl (by decide) (fun O on hO => ?_)
  refine Does.atc (stores_spec z) [0, 1, 2, 3, 4, 5, 6, 7] rfl ⟨rfl, rfl, rfl, rfl, rfl, rfl, rfl, rfl, trivial⟩ (by decide) ?_
  have fin : ∀ {x : Bool}, x = z.r.storedAt a n → Anv.Ends 8 (fun v h' => v = .s (.bool (z.r.storedAt a n)) ∧ h' = z.h) (.s (.bool x)) z.h := by
    rintro x rfl
    exact Ends.ro (J := []) rfl rfl rfl
  refine ifB_intro (fun h1 => fin (by unfold RowV.storedAt; simp at h1; rw [h1]; rfl)) (fun h1 => ?_)
  have h1 : z.r.stores = true := by simpa using h1
  refine loop_by (A := Nat) on (fun k => [(12, .s (.int .i64 (k : Int)))]) (fun _ => z.h) (fun k => k ≤ n ∧ ∀ i, i < k → z.r.within (a + BitVec.ofNat 64 i) = false) (fun k => n - k) 0 ⟨Nat.zero_le _, fun i hi => absurd hi (Nat.not_lt_zero i)⟩ ?_ ?_
  · refine ⟨?_, eqvH_refl _⟩
    repeat' (first | exact eqvT_nil | refine eqvT_junk ?_ | refine eqvT_same ?_ | refine eqvT_int ?_ ?_)
  intro k ⟨hk, hp⟩
  refine ifB_intro (fun h2 => ?_) (fun h2 => ?_)
  · have hk1 : k < n := by have := of_decide_eq_true h2; omega
    refine Does.args (b := [.s (.ptr 7 0), .s (.int .u64 ((a + BitVec.ofNat 64 k).toNat : Int))]) ⟨eqvE_refl _, ⟨rfl, addk (by omega)⟩, trivial⟩ ?_
    refine Does.atc (within_spec z _) [0, 1, 2, 3, 4, 5, 6, 7] rfl ⟨rfl, rfl, rfl, rfl, rfl, rfl, rfl, rfl, trivial⟩ (by decide) ?_
    refine ifB_intro (fun h3 => fin (by unfold RowV.storedAt; rw [h1, anyN_true (f := fun k => z.r.within (a + BitVec.ofNat 64 k)) hk1 h3]; rfl)) (fun h3 => ?_)
    refine ⟨k + 1, ⟨hk1, fun i hi => ?_⟩, by simp only; omega, ?_⟩
    · rcases Nat.lt_succ_iff_lt_or_eq.1 hi with h | h
      · exact hp i h
      · subst h; exact h3
    refine ⟨?_, eqvH_refl _⟩
    repeat' (first | exact eqvT_nil | refine eqvT_junk ?_ | refine eqvT_same ?_ | refine eqvT_int ?_ ?_)
    rw [i64_in (by omega) (by omega)]; omega
  · have hk1 : k = n := by have := of_decide_eq_false h2; omega
    subst hk1
    exact fin (by unfold RowV.storedAt; rw [anyN_false hp, Bool.and_false])
end Go.Proofs.Ytghcdkpgcanpgaa

/- Watching: more small questions asked of a step: does the place lie in RAM; what is pending; what a trap leaves; the mode of loads and stores. No condition: contracts of functions. -/
namespace Go.Anv
open Go
/-- Does the place lie in RAM whole (n bytes of it)? -/
def RowV.inRam (r : RowV) (n : Nat) : Bool := (r.placed && decide (0x80000000#64 ≤ r.addr)) && (decide ((r.addr - 0x80000000#64).toNat ≤ n) && decide (r.size ≤ ((n - (r.addr - 0x80000000#64).toNat : Nat) : Int)))
def mipOf (s : BusV) : B64 :=
  (if (s.msip &&& 1#32 == 1#32) || s.soft then 8#64 else 0#64) ||| (if decide (s.cmp ≤ s.now) then 128#64 else 0#64) ||| (if s.ext || ((s.ier &&& 1#8 == 1#8) && decide (0 < s.ni)) then 2048#64 else 0#64)
def entryOf (m : B64) (mode : Int) : B64 := (m &&& ~~~6280#64) ||| ((m &&& 8#64) <<< 4) ||| (BitVec.ofInt 64 mode <<< 11)
def handlerOf (v cause : B64) : B64 := if (cause >>> 63 == 1#64) && (v &&& 1#64 == 1#64) then (v &&& ~~~3#64) + 4#64 * (cause <<< 1 >>> 1) else v &&& ~~~3#64
/-- The mode of loads and stores. -/
def CpuV.eff (c : CpuV) : Int := if c.proper.mode = 3 ∧ c.proper.mstatus &&& 131072#64 ≠ 0#64 then (((c.proper.mstatus &&& 6144#64) >>> 11).toNat : Int) else c.proper.mode
theorem an2 {a b : Bool} (h1 : a = true) (h2 : b = true) : (a && b) = true := by rw [h1, h2]; rfl
theorem an3 {a b : Bool} (h1 : a = true) (h2 : b = false) : (a && !b) = true := by rw [h1, h2]; rfl
theorem subn {a b : Nat} (h : b ≤ a) (ha : a ≤ 9223372036854775807) : IntKind.u64.wrap ((a : Int) - (b : Int)) = ((a - b : Nat) : Int) := by
  rw [show (a : Int) - (b : Int) = ((a - b : Nat) : Int) by omega, wnat (by omega)]
end Go.Anv
namespace Go.Proofs.Ytghcdkpgcanpgaa
open Go Go.Anv
set_option maxRecDepth 100000 in
theorem inRam_spec (z : Sc) (ok : z.Ok) : Does TB 156 [.s (.ptr 7 0)] z.h (fun v h' => v = .s (.bool (z.r.inRam z.t.nr)) ∧ h' = z.h) := by
  refine fnX_does TB Try.func156 rfl (by decide) (fun O on hO => ?_)
  refine Does.atc (placed_spec z) [0, 1, 2, 3, 4, 5, 6, 7] rfl ⟨rfl, rfl, rfl, rfl, rfl, rfl, rfl, rfl, trivial⟩ (by decide) ?_
  repeat (refine need_intro (by first | exact fun h => h | exact nt | exact an2 | rfl | (simp; done) | fail) ?_)
  have fin : ∀ {x : Bool}, x = z.r.inRam z.t.nr → Anv.Ends 8 (fun v h' => v = .s (.bool (z.r.inRam z.t.nr)) ∧ h' = z.h) (.s (.bool x)) z.h := by
    rintro x rfl
    exact Ends.ro (J := []) rfl rfl rfl
  have hmr := ok.mr
  refine ifB_intro (fun h1 => fin ?_) (fun h1 => ?_)
  · rw [cond_or, Bool.or_eq_true, Bool.not_eq_true', decide_eq_true_eq] at h1
    unfold RowV.inRam
    rcases h1 with h | h
    · rw [h]; rfl
    · rw [decide_eq_false (p := 0x80000000#64 ≤ z.r.addr) (by rw [BitVec.le_def]; show ¬ 2147483648 ≤ _; omega), Bool.and_false]; rfl
  · refine draw_held on rfl (fun _ _ h => h) ?_
    repeat (refine need_intro (by first | exact fun h => h | exact nt | exact an2 | rfl | (simp; done) | fail) ?_)
    refine fin ?_
    rw [cond_or, Bool.or_eq_false_iff, Bool.not_eq_false', decide_eq_false_iff_not] at h1
    obtain ⟨hp, ha⟩ := h1
    have e1 : IntKind.u64.wrap (((z.r.addr.toNat : Nat) : Int) - 2147483648) = (((z.r.addr - 0x80000000#64).toNat : Nat) : Int) := sub64 z.r.addr 0x80000000#64
    unfold RowV.inRam
    rw [e1, wnat (by omega), cond_and, hp, (placed_size hp).2, decide_eq_true (p := 0x80000000#64 ≤ z.r.addr) (by rw [BitVec.le_def]; show 2147483648 ≤ _; omega)]
    generalize (z.r.addr - 0x80000000#64).toNat = at_
    by_cases h2 : at_ ≤ z.t.nr
    · rw [subn h2 (by omega), decide_eq_true (p := at_ ≤ z.t.nr) h2, decide_eq_true (p := (at_ : Int) ≤ (z.t.nr : Int)) (by omega)]
      rfl
    · rw [decide_eq_false (p := at_ ≤ z.t.nr) h2, decide_eq_false (p := (at_ : Int) ≤ (z.t.nr : Int)) (by omega)]
      rfl
set_option maxRecDepth 100000 in
theorem wmip_spec (t : BusV) (k : Lists) (c0 c1 c2 : Nat) : Does TB 129 [.agg (t.segs (.gs 0 0 t.nr c0) (.gs 1 0 t.ni c1) (.gs 2 0 t.no c2))] (k.blks t) (fun v h' => v = .s (.int .u64 (mipOf t).toNat) ∧ h' = k.blks t) := by
  refine fnX_does TB Try.func129 rfl (by decide) (fun O on hO => ?_)
  repeat (refine need_intro (by first | exact fun h => h | exact nt | exact an2 | rfl | (simp; done) | fail) ?_)
  have fin : ∀ {x : Int} {B : Blk}, x = ((mipOf t).toNat : Int) → Anv.Ends 3 (fun v h' => v = .s (.int .u64 (mipOf t).toNat) ∧ h' = k.blks t) (.s (.int .u64 x)) (k.blks t ++ [B]) := by
    rintro x B rfl
    exact Ends.ro rfl (eqvE_refl _) rfl
  have e1 : (bif bitX .and .u32 (t.msip.toNat : Int) 1 == 1 then true else t.soft) = ((t.msip &&& 1#32 == 1#32) || t.soft) := by
    rw [cond_or, and_u32, ofInt_toNat]; congr 1; exact beq_nat _ 1#32
  have e2 : decide (((t.now.toNat : Nat) : Int) ≥ ((t.cmp.toNat : Nat) : Int)) = decide (t.cmp ≤ t.now) := ge_nat _ _
  have e3 : (bif t.ext then true else bif bitX .and .u8 (t.ier.toNat : Int) 1 == 1 then decide ((t.ni : Int) > 0) else false) = (t.ext || ((t.ier &&& 1#8 == 1#8) && decide (0 < t.ni))) := by
    rw [cond_or, cond_and, and_u8, ofInt_toNat]; congr 2
    · exact beq_nat _ 1#8
    · exact decide_eq_decide.2 (by omega)
  have step : ∀ {a b c : Bool}, ((t.msip &&& 1#32 == 1#32) || t.soft) = a → decide (t.cmp ≤ t.now) = b → (t.ext || ((t.ier &&& 1#8 == 1#8) && decide (0 < t.ni))) = c → mipOf t = (if a then 8#64 else 0#64) ||| (if b then 128#64 else 0#64) ||| (if c then 2048#64 else 0#64) := by
    rintro a b c rfl rfl rfl; rfl
  refine ifB_intro (fun h1 => ?_) (fun h1 => ?_) <;> refine ifB_intro (fun h2 => ?_) (fun h2 => ?_) <;> repeat (refine need_intro (by first | exact fun h => h | exact nt | exact an2 | rfl | (simp; done) | fail) ?_)
  all_goals refine ifB_intro (fun h3 => ?_) (fun h3 => ?_)
  all_goals (refine fin ?_; rw [step (e1.symm.trans h1) (e2.symm.trans h2) (e3.symm.trans h3)]; decide)
set_option maxRecDepth 100000 in
theorem entry_spec (m : B64) (mode : Int) (h : List Blk) : Does TB 158 [.s (.int .u64 m.toNat), .s (.int .i64 mode)] h (fun v h' => v = .s (.int .u64 (entryOf m mode).toNat) ∧ h' = h) := by
  refine fnX_pure TB Try.func158 rfl (by decide) rfl _ rfl (fun O on => ?_) h
  repeat (refine need_intro (by first | decide | exact fun h => h | exact nt | exact an2 | rfl | (simp; done) | fail) ?_)
  refine ⟨rfl, ?_⟩
  have h11 : min (Int.toNat 11) IntKind.u64.bits = 11 := by decide
  have h4 : min (Int.toNat 4) IntKind.u64.bits = 4 := by decide
  show bitX .or .u64 (bitX .or .u64 (bitX .andNot .u64 (m.toNat : Int) 6280) (IntKind.u64.wrap (bitX .and .u64 (m.toNat : Int) 8 * 2 ^ min (Int.toNat 4) IntKind.u64.bits))) (IntKind.u64.wrap (IntKind.u64.wrap mode * 2 ^ min (Int.toNat 11) IntKind.u64.bits)) = _
  simp only [h11, h4, wrap_u64 mode, and_u64, andNot_u64, shl64, or_u64, ofInt_toNat]
  rfl
set_option maxRecDepth 100000 in
theorem handler_spec (v cause : B64) (h : List Blk) : Does TB 159 [.s (.int .u64 v.toNat), .s (.int .u64 cause.toNat)] h (fun x h' => x = .s (.int .u64 (handlerOf v cause).toNat) ∧ h' = h) := by
  refine fnX_pure TB Try.func159 rfl (by decide) rfl _ rfl (fun O on => ?_) h
  repeat (refine need_intro (by first | decide | exact fun h => h | exact nt | exact an2 | rfl | (simp; done) | fail) ?_)
  have h63 : min (Int.toNat 63) IntKind.u64.bits = 63 := by decide
  have h1' : min (Int.toNat 1) IntKind.u64.bits = 1 := by decide
  have e1 : (bif ((cause.toNat : Int).fdiv (2 ^ min (Int.toNat 63) IntKind.u64.bits)) == 1 then bitX .and .u64 (v.toNat : Int) 1 == 1 else false) = ((cause >>> 63 == 1#64) && (v &&& 1#64 == 1#64)) := by
    rw [cond_and, h63, fdiv_pow, and_u64, ofInt_toNat]; congr 1
    · exact beq_nat _ 1#64
    · exact beq_nat _ 1#64
  refine ifB_intro (fun h => ?_) (fun h => ?_)
  · repeat (refine need_intro (by first | decide | exact fun h => h | exact nt | exact an2 | rfl | (simp; done) | fail) ?_)
    refine ⟨rfl, ?_⟩
    unfold handlerOf
    rw [if_pos (e1.symm.trans h)]
    show IntKind.u64.wrap (bitX .andNot .u64 (v.toNat : Int) 3 + IntKind.u64.wrap (4 * (IntKind.u64.wrap ((cause.toNat : Int) * 2 ^ min (Int.toNat 1) IntKind.u64.bits)).fdiv (2 ^ min (Int.toNat 1) IntKind.u64.bits))) = _
    rw [h1', shl64, fdiv_pow, andNot_u64, ofInt_toNat]
    have := mul64 4#64 (cause <<< 1 >>> 1)
    rw [show ((4#64).toNat : Int) = 4 from rfl] at this
    rw [this, add64]
    rfl
  · refine ⟨rfl, ?_⟩
    unfold handlerOf
    rw [e1] at h
    rw [h]
    show bitX .andNot .u64 (v.toNat : Int) 3 = _
    rw [andNot_u64, ofInt_toNat]
    rfl
set_option maxRecDepth 100000 in
theorem eff_spec (c : CpuV) (h : List Blk) : Does TB 142 [.agg c.segs] h (fun v h' => v = .s (.int .i64 c.eff) ∧ h' = h) := by
  refine fnX_pure TB Try.func142 rfl (by decide) rfl _ rfl (fun O on => ?_) h
  refine (proper_spec c _).mono ?_
  rintro _ _ ⟨rfl, rfl⟩
  repeat (refine need_intro (by first | decide | exact fun h => h | exact nt | exact an2 | rfl | (simp; done) | fail) ?_)
  have e1 : (bif c.proper.mode == 3 then bitX .and .u64 (c.proper.mstatus.toNat : Int) 131072 != 0 else false) = decide (c.proper.mode = 3 ∧ c.proper.mstatus &&& 131072#64 ≠ 0#64) := by
    rw [cond_and, and_u64, ofInt_toNat, Bool.eq_iff_iff, Bool.and_eq_true, decide_eq_true_iff, beq_iff_eq]
    refine and_congr Iff.rfl ?_
    have := bne_nat (c.proper.mstatus &&& 131072#64) 0#64
    exact (Bool.eq_iff_iff.1 this).trans bne_iff_ne
  unfold CpuV.eff
  refine ifB_intro (fun h => ?_) (fun h => ?_)
  · rw [e1] at h
    rw [if_pos (of_decide_eq_true h)]
    repeat (refine need_intro (by first | decide | exact fun h => h | exact nt | exact an2 | rfl | (simp; done) | fail) ?_)
    refine ⟨rfl, ?_⟩
    have h11 : min (Int.toNat 11) IntKind.u64.bits = 11 := by decide
    show IntKind.i64.wrap ((bitX .and .u64 (c.proper.mstatus.toNat : Int) 6144).fdiv (2 ^ min (Int.toNat 11) IntKind.u64.bits)) = _
    rw [h11, and_u64, ofInt_toNat, fdiv_pow]
    have : ((c.proper.mstatus &&& 6144#64) >>> 11).toNat ≤ 6144 := by
      rw [BitVec.toNat_ushiftRight, Nat.shiftRight_eq_div_pow, BitVec.toNat_and]
      exact Nat.le_trans (Nat.div_le_self _ _) Nat.and_le_right
    exact i64_in (by omega) (by show (((c.proper.mstatus &&& 6144#64) >>> 11).toNat : Int) ≤ _; omega)
  · rw [e1] at h
    rw [if_neg (of_decide_eq_false h)]
    exact eqvE_refl _
end Go.Proofs.Ytghcdkpgcanpgaa

/- Watching: one row by itself: its fields, its modes: the program's and the document's. No condition but that the numbers fit. -/
namespace Go.Anv
open Go
/-- Numbers that are a machine's. -/
structure RowV.Ok (r : RowV) : Prop where
  len : -9223372036854775808 ≤ r.len ∧ r.len ≤ 9223372036854775807
  rd : -9223372036854775808 ≤ r.rd ∧ r.rd ≤ 9223372036854775807
  mem : -9223372036854775808 ≤ r.mem ∧ r.mem ≤ 9223372036854775807
  size : -9223372036854775808 ≤ r.size ∧ r.size ≤ 9223372036854775807
/-- Rule 3 of a trace, of plain numbers. -/
def goodP (kind mode nm len rd mem size pc nx top cause tval raw val addr data : Int) : Prop :=
  (1 ≤ kind ∧ kind ≤ 5) ∧ (mode = 0 ∨ mode = 3) ∧ (nm = 0 ∨ nm = 3) ∧ pc = 0 ∧ nx = 0 ∧ (kind = 2 ∨ kind = 3 ∨ cause = 0 ∧ tval = 0) ∧ (top = 1 ↔ kind = 3) ∧ (kind = 3 → tval = 0) ∧ (kind ≥ 3 → raw = 0 ∧ len = 0) ∧ (len = 0 ∨ len = 2 ∨ len = 4) ∧ (kind = 1 → len ≠ 0) ∧
    (kind ≠ 1 → rd = 0 ∧ val = 0 ∧ mem = 0 ∧ addr = 0 ∧ size = 0 ∧ data = 0) ∧ (rd = 0 → val = 0) ∧ (mem = 0 → addr = 0 ∧ size = 0 ∧ data = 0) ∧ (mem = 1 → data = 0)
instance (kind mode nm len rd mem size pc nx top cause tval raw val addr data : Int) : Decidable (goodP kind mode nm len rd mem size pc nx top cause tval raw val addr data) := by unfold goodP; infer_instance
def RowV.top (r : RowV) : Int := (r.cause.toNat : Int).fdiv (2 ^ min (Int.toNat 63) IntKind.u64.bits)
def RowV.good (r : RowV) : Bool := decide (goodP r.kind r.mode r.nextMode r.len r.rd r.mem r.size ((r.pc.toNat : Int).tmod 2) ((r.next.toNat : Int).tmod 2) r.top r.cause.toNat r.tval.toNat r.raw.toNat r.val.toNat r.addr.toNat r.data.toNat)
/-- Rule 5 of a trace. -/
def RowV.moves (r : RowV) : Bool :=
  if r.kind == 4 then r.next == r.pc && r.nextMode == r.mode
  else if r.kind == 2 || r.kind == 3 then r.nextMode == 3
  else if r.kind == 1 then r.nextMode == r.mode || (r.mode == 3 && r.nextMode == 0 && r.raw == 807403635#32)
  else true
theorem wzero {x : Int} (h : -9223372036854775808 ≤ x ∧ x ≤ 9223372036854775807) : (IntKind.u64.wrap x == 0) = (x == 0) := by
  rw [wrap_u64, Bool.eq_iff_iff, beq_iff_eq, beq_iff_eq, BitVec.toNat_ofInt]
  omega
theorem wraw (a : B32) : (IntKind.u64.wrap (a.toNat : Int) == 0) = ((a.toNat : Int) == 0) := by
  have := a.isLt
  rw [wnat (by omega)]
theorem pT {a b : Bool} : ((bif a then true else b) = true) = (a = true ∨ b = true) := by cases a <;> simp
theorem pF {a b : Bool} : ((bif a then b else false) = true) = (a = true ∧ b = true) := by cases a <;> simp
theorem pN {a : Bool} : ((!a) = true) = ¬ (a = true) := by cases a <;> simp
theorem pB {a b : Bool} : ((a == b) = true) = (a = true ↔ b = true) := by cases a <;> cases b <;> simp
theorem pE {a : Bool} : (a = false) = ¬ (a = true) := by cases a <;> simp
theorem pO {a b : Bool} : ((a || b) = true) = (a = true ∨ b = true) := by cases a <;> simp
theorem pA {a b : Bool} : ((a && b) = true) = (a = true ∧ b = true) := by cases a <;> simp
theorem pI {x y : Int} : ((x == y) = true) = (x = y) := by simp
theorem pJ {x y : Int} : ((x != y) = true) = ¬ (x = y) := by simp
end Go.Anv
namespace Go.Proofs.Ytghcdkpgcanpgaa
open Go Go.Anv
set_option maxRecDepth 100000 in
theorem empty_spec (l : List Int) (hl : l.length < 2 ^ 62) : Does TB 110 [.s (.slice 0 0 l.length l.length)] [.cells true [.ints .u64 l.length (litF l)] 0] (fun v h' => v = .s (.bool (l.all fun x => x == 0)) ∧ h' = [.cells true [.ints .u64 l.length (litF l)] 0]) := by
  refine fnX_does TB Try.func110 rfl (by decide) (fun O on hO => ?_)
  have fin : ∀ {x : Bool}, x = (l.all fun x => x == 0) → Anv.Ends 1 (fun v h' => v = .s (.bool (l.all fun x => x == 0)) ∧ h' = [.cells true [.ints .u64 l.length (litF l)] 0]) (.s (.bool x)) [.cells true [.ints .u64 l.length (litF l)] 0] := by
    rintro x rfl
    exact Ends.ro (H := [.cells true [.ints .u64 l.length (litF l)] 0]) (J := []) rfl rfl rfl
  have get : ∀ (l : List Int) (i : Nat), i < l.length → litF l i = l.getD i 0 := by
    intro l
    induction l with
    | nil => intro i hi; simp at hi
    | cons a l ih =>
      intro i hi
      cases i with
      | zero => rfl
      | succ i => simp only [litF]; rw [ih i (by simpa using hi)]; simp
  refine loop_by (A := Nat) on (fun k => [(7, .s (.int .i64 (k : Int)))]) (fun _ => [.cells true [.ints .u64 l.length (litF l)] 0]) (fun k => k ≤ l.length ∧ ∀ i, i < k → litF l i = 0) (fun k => l.length - k) 0 ⟨Nat.zero_le _, fun i hi => absurd hi (Nat.not_lt_zero i)⟩ ?_ ?_
  · refine ⟨?_, eqvH_refl _⟩
    repeat' (first | exact eqvT_nil | refine eqvT_junk ?_ | refine eqvT_same ?_ | refine eqvT_int ?_ ?_)
  intro k ⟨hk, hp⟩
  refine ifB_intro (fun h2 => ?_) (fun h2 => ?_)
  · have hk1 : k < l.length := by have := of_decide_eq_true h2; omega
    repeat (refine need_intro (by first | omega | exact ⟨by omega, by omega⟩ | exact fun h => h | exact nt | exact an2 | exact an3 | rfl | (simp; done) | fail) ?_)
    have hz : (0 + (k : Int).toNat) = k := by omega
    refine ifB_intro (fun h3 => fin ?_) (fun h3 => ?_)
    · rw [hz] at h3
      symm
      rw [List.all_eq_false]
      refine ⟨l.getD k 0, ?_, ?_⟩
      · rw [List.getD_eq_getElem?_getD, List.getElem?_eq_getElem hk1]
        exact List.getElem_mem hk1
      · rw [← get l k hk1]
        simpa using h3
    · rw [hz] at h3
      refine ⟨k + 1, ⟨hk1, fun j hj => ?_⟩, by simp only; omega, ?_⟩
      · rcases Nat.lt_succ_iff_lt_or_eq.1 hj with h | h
        · exact hp j h
        · subst h; simpa using h3
      refine ⟨?_, eqvH_refl _⟩
      repeat' (first | exact eqvT_nil | refine eqvT_junk ?_ | refine eqvT_same ?_ | refine eqvT_int ?_ ?_)
      rw [i64_in (by omega) (by omega)]; omega
  · have hk1 : k = l.length := by have := of_decide_eq_false h2; omega
    refine fin ?_
    symm
    rw [List.all_eq_true]
    intro x hx
    obtain ⟨i, hi, rfl⟩ := List.getElem_of_mem hx
    have := hp i (by omega)
    rw [get l i hi, List.getD_eq_getElem?_getD, List.getElem?_eq_getElem hi] at this
    simpa using this
set_option maxHeartbeats 4000000 in
set_option maxRecDepth 100000 in
theorem fields_spec (r : RowV) : Does TB 98 [.agg r.segs] [] (fun v h' => v = .s (.bool r.good) ∧ h' = []) := by
  refine fnX_does TB Try.func98 rfl (by decide) (fun O on hO => ?_)
  have fin : ∀ {x : Bool} {b : Blk}, x = r.good → Anv.Ends 0 (fun v h' => v = .s (.bool r.good) ∧ h' = []) (.s (.bool x)) [b] := by
    rintro x b rfl
    exact Ends.ro (H := []) rfl rfl rfl
  repeat (refine need_intro (by first | exact fun _ => (by decide) | exact exact an2 | exact exact an3 | exact fun h => h | exact nt | exact an2 | exact an3 | rfl | (simp; done) | fail) ?_)
  refine ifB_intro (fun h1 => ?_) (fun h1 => ?_)
  · refine fin ?_
    refine Bool.eq_iff_iff.2 ?_
    rw [show (r.good = true) = goodP r.kind r.mode r.nextMode r.len r.rd r.mem r.size ((r.pc.toNat : Int).tmod 2) ((r.next.toNat : Int).tmod 2) r.top r.cause.toNat r.tval.toNat r.raw.toNat r.val.toNat r.addr.toNat r.data.toNat from decide_eq_true_eq]
    clear fin
    clear on hO
    simp only [RowV.top, goodP, pE, pT, pF, pN, pB, pO, pA, pI, pJ, decide_eq_true_eq, Bool.false_eq_true, iff_false, false_iff, iff_true, true_iff, Bool.true_eq_false] at *
    omega
  have hk : r.kind = 1 ∨ r.kind = 2 ∨ r.kind = 3 ∨ r.kind = 4 ∨ r.kind = 5 := by
    clear fin
    simp only [pE, pT, decide_eq_true_eq] at h1
    omega
  repeat (refine need_intro (by first | exact exact an2 | exact exact an3 | exact fail | exact fun h => h | exact nt | exact an2 | exact an3 | rfl | (simp; done) | fail) ?_)
  refine ifB_intro (fun h2 => ?_) (fun h2 => ?_)
  · refine fin ?_
    refine Bool.eq_iff_iff.2 ?_
    rw [show (r.good = true) = goodP r.kind r.mode r.nextMode r.len r.rd r.mem r.size ((r.pc.toNat : Int).tmod 2) ((r.next.toNat : Int).tmod 2) r.top r.cause.toNat r.tval.toNat r.raw.toNat r.val.toNat r.addr.toNat r.data.toNat from decide_eq_true_eq]
    clear fin
    clear on hO
    simp only [RowV.top, goodP, pE, pT, pF, pN, pB, pO, pA, pI, pJ, decide_eq_true_eq, Bool.false_eq_true, iff_false, false_iff, iff_true, true_iff, Bool.true_eq_false] at *
    rcases hk with k | k | k | k | k <;> simp [k] at * <;> omega
  repeat (refine need_intro (by first | exact exact an2 | exact exact an3 | exact fail | exact fun h => h | exact nt | exact an2 | exact an3 | rfl | (simp; done) | fail) ?_)
  refine ifB_intro (fun h3 => ?_) (fun h3 => ?_)
  · refine fin ?_
    refine Bool.eq_iff_iff.2 ?_
    rw [show (r.good = true) = goodP r.kind r.mode r.nextMode r.len r.rd r.mem r.size ((r.pc.toNat : Int).tmod 2) ((r.next.toNat : Int).tmod 2) r.top r.cause.toNat r.tval.toNat r.raw.toNat r.val.toNat r.addr.toNat r.data.toNat from decide_eq_true_eq]
    clear fin
    clear on hO
    simp only [RowV.top, goodP, pE, pT, pF, pN, pB, pO, pA, pI, pJ, decide_eq_true_eq, Bool.false_eq_true, iff_false, false_iff, iff_true, true_iff, Bool.true_eq_false] at *
    rcases hk with k | k | k | k | k <;> simp [k] at * <;> omega
  repeat (refine need_intro (by first | exact exact an2 | exact exact an3 | exact fail | exact fun h => h | exact nt | exact an2 | exact an3 | rfl | (simp; done) | fail) ?_)
  refine ifB_intro (fun h4 => ?_) (fun h4 => ?_)
  · refine fin ?_
    refine Bool.eq_iff_iff.2 ?_
    rw [show (r.good = true) = goodP r.kind r.mode r.nextMode r.len r.rd r.mem r.size ((r.pc.toNat : Int).tmod 2) ((r.next.toNat : Int).tmod 2) r.top r.cause.toNat r.tval.toNat r.raw.toNat r.val.toNat r.addr.toNat r.data.toNat from decide_eq_true_eq]
    clear fin
    clear on hO
    simp only [RowV.top, goodP, pE, pT, pF, pN, pB, pO, pA, pI, pJ, decide_eq_true_eq, Bool.false_eq_true, iff_false, false_iff, iff_true, true_iff, Bool.true_eq_false] at *
    rcases hk with k | k | k | k | k <;> simp [k] at * <;> omega
  repeat (refine need_intro (by first | exact exact an2 | exact exact an3 | exact fail | exact fun h => h | exact nt | exact an2 | exact an3 | rfl | (simp; done) | fail) ?_)
  refine fin ?_
  refine Bool.eq_iff_iff.2 ?_
  rw [show (r.good = true) = goodP r.kind r.mode r.nextMode r.len r.rd r.mem r.size ((r.pc.toNat : Int).tmod 2) ((r.next.toNat : Int).tmod 2) r.top r.cause.toNat r.tval.toNat r.raw.toNat r.val.toNat r.addr.toNat r.data.toNat from decide_eq_true_eq]
  clear fin
  clear on hO
  simp only [RowV.top, goodP, pE, pT, pF, pN, pB, pO, pA, pI, pJ, decide_eq_true_eq, Bool.false_eq_true, iff_false, false_iff, iff_true, true_iff, Bool.true_eq_false] at *
  rcases hk with k | k | k | k | k <;> simp [k] at * <;> omega
end Go.Proofs.Ytghcdkpgcanpgaa

/- Watching: one row by itself, the program's side. -/
namespace Go.Proofs.Ytghcdkpgcanpgaa
open Go Go.Anv
theorem mv_eq {w : Nat} {a b : BitVec w} : ((a.toNat : Int) == (b.toNat : Int)) = (a == b) := by
  rw [Bool.eq_iff_iff, beq_iff_eq, beq_iff_eq, Int.ofNat_inj, BitVec.toNat_inj]
theorem raw_eq {a : B32} : ((a.toNat : Int) == 807403635) = (a == 807403635#32) := mv_eq (b := 807403635#32)
set_option maxRecDepth 100000 in
theorem moves_spec (r : RowV) : Does TB 99 [.agg r.segs] [] (fun v h' => v = .s (.bool r.moves) ∧ h' = []) := by
  refine fnX_does TB Try.func99 rfl (by decide) (fun O on hO => ?_)
  have fin : ∀ {x : Bool} {b : Blk}, x = r.moves → Anv.Ends 0 (fun v h' => v = .s (.bool r.moves) ∧ h' = []) (.s (.bool x)) [b] := by
    rintro x b rfl
    exact Ends.ro (H := []) rfl rfl rfl
  refine ifB_intro (fun h1 => ?_) (fun h1 => ?_)
  · repeat (refine need_intro (by first | exact exact an2 | exact exact an3 | exact fail | exact fun h => h | exact nt | exact an2 | exact an3 | rfl | (simp; done) | fail) ?_)
    refine fin ?_
    rw [mv_eq]; simp [RowV.moves, h1]
  repeat (refine need_intro (by first | exact exact an2 | exact exact an3 | exact fail | exact fun h => h | exact nt | exact an2 | exact an3 | rfl | (simp; done) | fail) ?_)
  refine ifB_intro (fun h2 => ?_) (fun h2 => ?_)
  · refine ifB_intro (fun h3 => ?_) (fun h3 => absurd (h2.symm.trans h3) (by decide))
    repeat (refine need_intro (by first | exact exact an2 | exact exact an3 | exact fail | exact fun h => h | exact nt | exact an2 | exact an3 | rfl | (simp; done) | fail) ?_)
    refine fin ?_
    simp [RowV.moves, h1, h2]
  refine ifB_intro (fun h3 => ?_) (fun h3 => ?_)
  · repeat (refine need_intro (by first | exact exact an2 | exact exact an3 | exact fail | exact fun h => h | exact nt | exact an2 | exact an3 | rfl | (simp; done) | fail) ?_)
    refine fin ?_
    simp [RowV.moves, h1, h3]
  repeat (refine need_intro (by first | exact exact an2 | exact exact an3 | exact fail | exact fun h => h | exact nt | exact an2 | exact an3 | rfl | (simp; done) | fail) ?_)
  refine ifB_intro (fun h4 => ?_) (fun h4 => ?_)
  · repeat (refine need_intro (by first | exact exact an2 | exact exact an3 | exact fail | exact fun h => h | exact nt | exact an2 | exact an3 | rfl | (simp; done) | fail) ?_)
    refine fin ?_
    rw [raw_eq]; simp [RowV.moves, h1, h2, h3, h4]
  repeat (refine need_intro (by first | exact exact an2 | exact exact an3 | exact fail | exact fun h => h | exact nt | exact an2 | exact an3 | rfl | (simp; done) | fail) ?_)
  refine fin ?_
  simp [RowV.moves, h1, h2, h3, h4]
set_option maxRecDepth 100000 in
theorem modes_spec (r : RowV) : Does TB 97 [.agg r.segs] [] (fun v h' => v = .s (.bool r.moves) ∧ h' = []) := by
  refine fnX_does TB Try.func97 rfl (by decide) (fun O on hO => ?_)
  have fin : ∀ {x : Bool} {b : Blk}, x = r.moves → Anv.Ends 0 (fun v h' => v = .s (.bool r.moves) ∧ h' = []) (.s (.bool x)) [b] := by
    rintro x b rfl
    exact Ends.ro (H := []) rfl rfl rfl
  refine ifB_intro (fun h1 => ?_) (fun h1 => ?_)
  · repeat (refine need_intro (by first | exact exact an2 | exact exact an3 | exact fail | exact fun h => h | exact nt | exact an2 | exact an3 | rfl | (simp; done) | fail) ?_)
    refine fin ?_
    rw [mv_eq]; simp [RowV.moves, h1]
  repeat (refine need_intro (by first | exact exact an2 | exact exact an3 | exact fail | exact fun h => h | exact nt | exact an2 | exact an3 | rfl | (simp; done) | fail) ?_)
  refine ifB_intro (fun h2 => ?_) (fun h2 => ?_)
  · refine ifB_intro (fun h3 => ?_) (fun h3 => absurd (h2.symm.trans h3) (by decide))
    repeat (refine need_intro (by first | exact exact an2 | exact exact an3 | exact fail | exact fun h => h | exact nt | exact an2 | exact an3 | rfl | (simp; done) | fail) ?_)
    refine fin ?_
    simp [RowV.moves, h1, h2]
  refine ifB_intro (fun h3 => ?_) (fun h3 => ?_)
  · repeat (refine need_intro (by first | exact exact an2 | exact exact an3 | exact fail | exact fun h => h | exact nt | exact an2 | exact an3 | rfl | (simp; done) | fail) ?_)
    refine fin ?_
    simp [RowV.moves, h1, h3]
  repeat (refine need_intro (by first | exact exact an2 | exact exact an3 | exact fail | exact fun h => h | exact nt | exact an2 | exact an3 | rfl | (simp; done) | fail) ?_)
  refine ifB_intro (fun h4 => ?_) (fun h4 => ?_)
  · repeat (refine need_intro (by first | exact exact an2 | exact exact an3 | exact fail | exact fun h => h | exact nt | exact an2 | exact an3 | rfl | (simp; done) | fail) ?_)
    refine fin ?_
    rw [raw_eq]; simp [RowV.moves, h1, h2, h3, h4]
  repeat (refine need_intro (by first | exact exact an2 | exact exact an3 | exact fail | exact fun h => h | exact nt | exact an2 | exact an3 | rfl | (simp; done) | fail) ?_)
  refine fin ?_
  simp [RowV.moves, h1, h2, h3, h4]
theorem good_eq (r : RowV) : (r.good = true) = goodP r.kind r.mode r.nextMode r.len r.rd r.mem r.size ((r.pc.toNat : Int).tmod 2) ((r.next.toNat : Int).tmod 2) r.top r.cause.toNat r.tval.toNat r.raw.toNat r.val.toNat r.addr.toNat r.data.toNat := decide_eq_true_eq
theorem wzI {x : Int} (h : -9223372036854775808 ≤ x ∧ x ≤ 9223372036854775807) : (IntKind.u64.wrap x = 0) = (x = 0) := by rw [← pI, wzero h, pI]
theorem wrI (a : B32) : (IntKind.u64.wrap (a.toNat : Int) = 0) = ((a.toNat : Int) = 0) := by rw [← pI, wraw, pI]
set_option maxHeartbeats 4000000 in
set_option maxRecDepth 100000 in
theorem shaped_spec (r : RowV) (ok : r.Ok) : Does TB 96 [.agg r.segs] [] (fun v h' => v = .s (.bool r.good) ∧ h' = []) := by
  refine fnX_does TB Try.func96 rfl (by decide) (fun O on hO => ?_)
  have fin : ∀ {x : Bool} {b : Blk} {J : List Blk}, x = r.good → Anv.Ends 0 (fun v h' => v = .s (.bool r.good) ∧ h' = []) (.s (.bool x)) (b :: J) := by
    rintro x b J rfl
    exact Ends.ro (H := []) rfl rfl rfl
  repeat (refine need_intro (by first | exact fun _ => (by decide) | exact exact an2 | exact exact an3 | exact fail | exact fun h => h | exact nt | exact an2 | exact an3 | rfl | (simp; done) | fail) ?_)
  refine ifB_intro (fun h1 => ?_) (fun h1 => ?_)
  · refine fin ?_
    refine Bool.eq_iff_iff.2 ?_
    rw [show (r.good = true) = goodP r.kind r.mode r.nextMode r.len r.rd r.mem r.size ((r.pc.toNat : Int).tmod 2) ((r.next.toNat : Int).tmod 2) r.top r.cause.toNat r.tval.toNat r.raw.toNat r.val.toNat r.addr.toNat r.data.toNat from decide_eq_true_eq]
    clear fin
    clear on hO
    simp only [RowV.top, goodP, pE, pT, pF, pN, pB, pO, pA, pI, pJ, decide_eq_true_eq, Bool.false_eq_true, iff_false, false_iff, iff_true, true_iff, Bool.true_eq_false] at *
    omega
  have hk : r.kind = 1 ∨ r.kind = 2 ∨ r.kind = 3 ∨ r.kind = 4 ∨ r.kind = 5 := by
    clear fin
    simp only [pE, pT, decide_eq_true_eq] at h1
    omega
  obtain ⟨ol, od, om, oz⟩ := ok
  obtain ⟨st, kd, md, pc, raw, len, cause, tval, rd, val, mem, addr, size, data, nx, nm⟩ := r
  simp only at hk ol od om oz
  rcases hk with rfl | rfl | rfl | rfl | rfl
  all_goals repeat' (first
    | refine need_intro (by first | exact fun h => h | rfl | assumption | exact an2 | exact an3 | (simp; done) | fail) ?_
    | refine ifB_intro (fun _ => ?_) (fun h => absurd ((by assumption : _ = true).symm.trans h) (by decide))
    | refine ifB_intro (fun h => absurd (h.symm.trans (by assumption : _ = false)) (by decide)) (fun _ => ?_)
    | refine ifB_intro (fun h => ?_) (fun h => ?_)
    | refine fin ?_
    | refine Does.atc (empty_spec [cause.toNat, tval.toNat] (by show 2 < 2 ^ 62; decide)) [1] rfl ⟨rfl, trivial⟩ (by decide) ?_
    | refine Does.atc (empty_spec [cause.toNat, tval.toNat] (by show 2 < 2 ^ 62; decide)) [2] rfl ⟨rfl, trivial⟩ (by decide) ?_
    | refine Does.atc (empty_spec [cause.toNat, tval.toNat] (by show 2 < 2 ^ 62; decide)) [3] rfl ⟨rfl, trivial⟩ (by decide) ?_
    | refine Does.atc (empty_spec [cause.toNat, tval.toNat] (by show 2 < 2 ^ 62; decide)) [4] rfl ⟨rfl, trivial⟩ (by decide) ?_
    | refine Does.atc (empty_spec [IntKind.u64.wrap raw.toNat, IntKind.u64.wrap len] (by show 2 < 2 ^ 62; decide)) [1] rfl ⟨rfl, trivial⟩ (by decide) ?_
    | refine Does.atc (empty_spec [IntKind.u64.wrap raw.toNat, IntKind.u64.wrap len] (by show 2 < 2 ^ 62; decide)) [2] rfl ⟨rfl, trivial⟩ (by decide) ?_
    | refine Does.atc (empty_spec [IntKind.u64.wrap raw.toNat, IntKind.u64.wrap len] (by show 2 < 2 ^ 62; decide)) [3] rfl ⟨rfl, trivial⟩ (by decide) ?_
    | refine Does.atc (empty_spec [IntKind.u64.wrap raw.toNat, IntKind.u64.wrap len] (by show 2 < 2 ^ 62; decide)) [4] rfl ⟨rfl, trivial⟩ (by decide) ?_
    | refine Does.atc (empty_spec [IntKind.u64.wrap rd, val.toNat, IntKind.u64.wrap mem, addr.toNat, IntKind.u64.wrap size, data.toNat] (by show 6 < 2 ^ 62; decide)) [1] rfl ⟨rfl, trivial⟩ (by decide) ?_
    | refine Does.atc (empty_spec [IntKind.u64.wrap rd, val.toNat, IntKind.u64.wrap mem, addr.toNat, IntKind.u64.wrap size, data.toNat] (by show 6 < 2 ^ 62; decide)) [2] rfl ⟨rfl, trivial⟩ (by decide) ?_
    | refine Does.atc (empty_spec [IntKind.u64.wrap rd, val.toNat, IntKind.u64.wrap mem, addr.toNat, IntKind.u64.wrap size, data.toNat] (by show 6 < 2 ^ 62; decide)) [3] rfl ⟨rfl, trivial⟩ (by decide) ?_
    | refine Does.atc (empty_spec [IntKind.u64.wrap rd, val.toNat, IntKind.u64.wrap mem, addr.toNat, IntKind.u64.wrap size, data.toNat] (by show 6 < 2 ^ 62; decide)) [4] rfl ⟨rfl, trivial⟩ (by decide) ?_
    | refine Does.atc (empty_spec [addr.toNat, IntKind.u64.wrap size, data.toNat] (by show 3 < 2 ^ 62; decide)) [1] rfl ⟨rfl, trivial⟩ (by decide) ?_
    | refine Does.atc (empty_spec [addr.toNat, IntKind.u64.wrap size, data.toNat] (by show 3 < 2 ^ 62; decide)) [2] rfl ⟨rfl, trivial⟩ (by decide) ?_
    | refine Does.atc (empty_spec [addr.toNat, IntKind.u64.wrap size, data.toNat] (by show 3 < 2 ^ 62; decide)) [3] rfl ⟨rfl, trivial⟩ (by decide) ?_
    | refine Does.atc (empty_spec [addr.toNat, IntKind.u64.wrap size, data.toNat] (by show 3 < 2 ^ 62; decide)) [4] rfl ⟨rfl, trivial⟩ (by decide) ?_)
  all_goals
    refine Bool.eq_iff_iff.2 ?_
    rw [good_eq]
    clear fin
    clear on hO
    simp only [RowV.top, goodP, pE, pT, pF, pN, pB, pO, pA, pI, pJ, decide_eq_true_eq, Bool.false_eq_true, iff_false, false_iff, iff_true, true_iff, Bool.true_eq_false, List.all_cons, List.all_nil, wzI ol, wzI od, wzI om, wzI oz, wrI] at *
    first | omega | (simp at *; done) | (simp at *; omega) | omega
end Go.Proofs.Ytghcdkpgcanpgaa

/- The engine, part 19: contracts over blocks that are only read, used where blocks are the same or overlap; maps of whole numbers whose entries are not told. Plain theorems, no condition. -/
namespace Go.Anv
open Go

/-- Blocks of a larger heap, only read. -/
def viewH (h : List Blk) : List Nat → List Blk → Prop
  | [], [] => True
  | k :: κ, B :: r => (∃ m cs sp, nthB h k = some (.cells m cs sp) ∧ B = .cells false cs sp) ∧ viewH h κ r
  | _, _ => False

theorem viewH_get {h : List Blk} : ∀ {κ : List Nat} {r : List Blk}, viewH h κ r → κ.length = r.length ∧ ∀ (i : Nat) (B : Blk), r[i]? = some B → ∃ k m cs sp, κ[i]? = some k ∧ h[k]? = some (.cells m cs sp) ∧ B = .cells false cs sp
  | [], [], _ => ⟨rfl, fun i B hi => by simp at hi⟩
  | k :: κ, B :: r, hk => by
    obtain ⟨h1, h2⟩ := viewH_get hk.2
    refine ⟨by simp [h1], fun i C hi => ?_⟩
    cases i with
    | zero =>
      simp only [List.getElem?_cons_zero, Option.some.injEq] at hi
      subst hi
      obtain ⟨m, cs, sp, h3, h4⟩ := hk.1
      exact ⟨k, m, cs, sp, by simp, nthB_get h3, h4⟩
    | succ i => simpa using h2 i C (by simpa using hi)
  | [], _ :: _, hk => hk.elim
  | _ :: _, [], hk => hk.elim

/-- **A contract over blocks that may not be written, where they may be the same.** -/
theorem Does.dup {T : Tbl} {f : FuncId} {args : List EV} {hc : List Blk} {X : EV} (c : Does T f args hc (fun v h' => v = X ∧ h' = hc)) (κ : List Nat) {args' : List EV} {h : List Blk} {K : EV → List Blk → Prop}
    (hX : noPtr X = true) (ha : args' = renT (lk κ h.length) args) (hh : viewH h κ (renH (lk κ h.length) hc)) (hK : K X h) : Does T f args' h K := by
  subst ha
  obtain ⟨hl, hget⟩ := viewH_get hh
  rw [length_renH] at hl
  have core : ∀ {E : Emb} {w : World} {vs : List Value}, Sim E h w → denT E (renT (lk κ h.length) args) vs → ∃ Ec, Sim Ec hc w ∧ denT Ec args vs ∧ ∀ e w', Post Ec hc w (fun v h' => v = X ∧ h' = hc) e w' → Post E h w K e w' := by
    intro E w vs S ha
    let ρ := lk κ h.length
    let Ec : Emb := ⟨hc.length, fun i => E.f (ρ i)⟩
    have hblk : ∀ (i : Nat) (B : Blk), hc[i]? = some B → ∃ m cs sp, ρ i < h.length ∧ h[ρ i]? = some (.cells m cs sp) ∧ renB ρ B = .cells false cs sp := fun i B hi => by
      obtain ⟨k, m, cs, sp, h1, h2, h3⟩ := hget i (renB ρ B) (by rw [renH_get, hi]; rfl)
      have hi' : i < κ.length := by have := lt_of_get hi; omega
      have h4 : ρ i = k := by
        show lk κ h.length i = k
        rw [look_lt κ _ i hi']
        rw [List.getElem?_eq_getElem hi'] at h1
        exact Option.some.inj h1
      exact ⟨m, cs, sp, by rw [h4]; exact lt_of_get h2, by rw [h4]; exact h2, h3⟩
    have hfwd : ∀ b, ρ b < E.n → b < Ec.n := fun b hb => by
      rcases Nat.lt_or_ge b κ.length with h1 | h1
      · show b < hc.length; omega
      · have h3 : ρ b = h.length + (b - κ.length) := look_ge κ _ b h1
        have := S.n
        omega
    have hbwd : ∀ b, b < Ec.n → ρ b < E.n ∧ Ec.f b = E.f (ρ b) := fun b hb => by
      obtain ⟨_, _, _, h1, _⟩ := hblk b _ (List.getElem?_eq_getElem hb)
      exact ⟨by rw [S.n]; exact h1, rfl⟩
    have hnm : ∀ (i : Nat) (B : Blk), hc[i]? = some B → B.mut = false := fun i B hi => by
      obtain ⟨m, cs, sp, _, _, h3⟩ := hblk i B hi
      rw [← mut_ren (ρ := ρ) B, h3]
      rfl
    have hno : ∀ b o, ¬ mutAt Ec hc b o := fun b o ⟨i, B, h1, h2, _⟩ => by rw [hnm i B h1] at h2; cases h2
    have Sc : Sim Ec hc w := by
      refine ⟨rfl, fun i B hi => ?_, fun i j A B _ hi _ hA => ?_⟩
      · obtain ⟨m, cs, sp, _, h2, h3⟩ := hblk i B hi
        have hk := S.ok _ _ h2
        refine (okBlk_ren hfwd hbwd B).1 ?_
        rw [h3]
        obtain ⟨k1, k2, _⟩ := hk
        exact ⟨k1, k2, fun h => by cases h⟩
      · rw [hnm i A hi] at hA; cases hA
    refine ⟨Ec, Sc, (denT_ren hfwd hbwd args _).1 ha, ?_⟩
    rintro e w' ⟨v, x, h', E', rfl, hd, S', N', rfl, rfl⟩
    have hk : ∀ b, b < w.heap.size → w'.heap[b]? = w.heap[b]? := fun b hb => N'.frame b hb (fun o => hno b o)
    have S1 : Sim E h w' := S.keep N'.size hk
    refine ⟨v, x, h, E, rfl, noPtr_den x v hX hd, S1, ?_, hK⟩
    exact ⟨Nat.le_refl _, fun _ _ => rfl, N'.size, fun b hb _ => hk b hb, fun b o hb _ => N'.cells b o hb (hno b o), fun b o hm _ => hm, N'.os, N'.tape, N'.output, N'.rows⟩
  refine ⟨?_⟩
  rcases c.go with ⟨h1, h2⟩ | h1
  · refine .inl ⟨h1, fun E w vs S ha => ?_⟩
    obtain ⟨Ec, k1, k2, k3⟩ := core S ha
    exact (h2 Ec w vs k1 k2).mono k3
  · refine .inr fun E w vs S ha => ?_
    obtain ⟨Ec, k1, k2, k3⟩ := core S ha
    obtain ⟨u, w', h2, h3⟩ := h1 Ec w vs k1 k2
    exact ⟨u, w', h2, k3 _ _ h3⟩

/-! ### maps of whole numbers -/

def ents (L : List (Int × Int)) : List (SV × EV) := L.map fun p => (.int .i64 p.1, .s (.int .i64 p.2))

def assoc (r : Int) : List (Int × Int) → Option Int
  | [] => none
  | p :: L => if r == p.1 then some p.2 else assoc r L

theorem lookK_ints (r : Int) : ∀ (L : List (Int × Int)) {k : Option EV → Prop}, k ((assoc r L).map fun p => .s (.int .i64 p)) → lookK (.int .i64 r) (ents L) k
  | [], _, h => h
  | p :: L, k, h => by
    show ifB (r == p.1) (k (some (.s (.int .i64 p.2)))) (lookK (.int .i64 r) (ents L) k)
    refine ifB_intro (fun e => ?_) (fun e => ?_)
    · unfold assoc at h
      rw [if_pos e] at h
      exact h
    · unfold assoc at h
      rw [e, if_neg (by decide)] at h
      exact lookK_ints r L h

theorem putM_ints (r p : Int) : ∀ (L : List (Int × Int)) {k : List (SV × EV) → Prop}, assoc r L = none → k (ents (L ++ [(r, p)])) → putM (.int .i64 r) (.s (.int .i64 p)) (ents L) k
  | [], _, _, h => h
  | q :: L, k, hn, h => by
    show ifB (r == q.1) (k ((.int .i64 r, .s (.int .i64 p)) :: ents L)) (putM (.int .i64 r) (.s (.int .i64 p)) (ents L) fun r' => k ((.int .i64 q.1, .s (.int .i64 q.2)) :: r'))
    unfold assoc at hn
    refine ifB_intro (fun e => ?_) (fun e => ?_)
    · rw [if_pos e] at hn; cases hn
    · rw [e, if_neg (by decide)] at hn
      exact putM_ints r p L hn h
end Go.Anv

/- The engine, part 20: functions that defer one clearing of a map. Plain theorems; no condition. -/
namespace Go.Anv
open Go

section
variable {P : Program}

theorem step_defer_builtin {fr : Frame} {cs : List Frame} {w w2 : World} {d : Deferred} {ds : List Deferred} {b : Builtin} {tys : Array TypeId} {ty : TypeId} {consts : Array Bool} {v : Value}
    (hm : fr.mode = .returning) (hd : fr.defers = d :: ds) (ht : d.target = .builtin b tys ty consts) (hi : (invoke d.target d.args).run P w = .ok (.value v) w2) :
    step P (lone fr cs w) = .next (lone { fr with defers := ds } cs w2) := by
  obtain ⟨t, a⟩ := d
  simp only at ht hi
  subst ht
  refine step_lone_go ?_
  simp [stepG, unwind, callDeferred, hm, hd, hi]

def postB (P : Program) (fn : Func) (R : Ending → World → Prop) : Exit → Act → World → Prop
  | .normal, a, w | .ret, a, w => ∃ d b tys ty consts v w2 r, a.defers = [d] ∧ d.target = .builtin b tys ty consts ∧ (invoke d.target d.args).run P w = .ok (.value v) w2 ∧ (results fn a.tmps).run P w2 = .ok r w2 ∧ R (.returned r) w2
  | _, _, _ => False

theorem calls_of_wp_builtin {f : FuncId} {fn : Func} {c : Code} {args : Array Value} {w : World} {R : Ending → World → Prop}
    (hf : P.funcs[f]? = some fn) (hb : fn.body = some c)
    (h : c.wp P (postB P fn R) { tmps := args ++ Array.replicate (fn.ntmps - args.size) undef, defers := [] } w) : Calls P f args w R := by
  intro cs
  let b : Frame := { (default : Frame) with fn := f, kind := .normal }
  have henter : Frame.enter P f args .normal =
      b.at { tmps := args ++ Array.replicate (fn.ntmps - args.size) undef, defers := [] } [.code c] := by
    simp [Frame.enter, Frame.at, hf, hb, b]
  obtain ⟨e, a', w', hq, harr⟩ := h b [] cs
  rw [← henter] at harr
  have fin : ∀ (todo : List Item) (w' : World), postB P fn R .normal a' w' → Steps P (lone (Frame.enter P f args .normal) cs w) (lone { b.at a' todo with mode := .returning } cs w') →
      ∃ e w'' fr', R e w'' ∧ Comes P (lone (Frame.enter P f args .normal) cs w) (lone fr' cs w'') e ∧ fr'.fn = f ∧ fr'.leaving P w'' e := by
    intro todo w' hq hs
    obtain ⟨d, bb, tys, ty, consts, v, w2, r, h1, h2, h3, h4, h5⟩ := hq
    have hst := step_defer_builtin (fr := { b.at a' todo with mode := .returning }) (cs := cs) rfl h1 h2 h3
    exact ⟨.returned r, w2, _, h5, Steps.trans hs (.one hst), rfl, rfl, rfl, rfl, fn, hf, h4⟩
  cases e with
  | normal => exact fin [] w' hq (Steps.trans harr (.one step_end))
  | ret =>
    obtain ⟨todo, hs₀⟩ := harr
    exact fin todo w' hq hs₀
  | panic chain => exact hq.elim
  | exit id => exact hq.elim
  | goto l => exact hq.elim
  | outgrown => exact hq.elim
end

/-- The operations ahead of a deferred clearing that stands last; the map; its type. -/
def lastB : List Oper → Option (List Oper × Operand × TypeId)
  | [] => none
  | [o] => match o.guard, o.dst, o.op with
    | none, none, .defer { callee := .builtin .clear, args, argTypes } => match args.toList, argTypes.toList with
      | [x], [t] => some ([], x, t)
      | _, _ => none
    | _, _, _ => none
  | o :: r => match lastB r with
    | some (p, x, t) => some (o :: p, x, t)
    | none => none

theorem lastB_spec : ∀ {l pre : List Oper} {x : Operand} {t : TypeId}, lastB l = some (pre, x, t) → ∃ o, l = pre ++ [o] ∧ o.guard = none ∧ o.dst = none ∧ o.op = .defer { callee := .builtin .clear, args := #[x], argTypes := #[t] }
  | [], _, _, _, h => by simp [lastB] at h
  | [o], pre, x, t, h => by
    simp only [lastB] at h
    split at h
    · rename_i args tys hg hd hop
      split at h
      · rename_i x' t' hx ht
        simp only [Option.some.injEq, Prod.mk.injEq] at h
        obtain ⟨rfl, rfl, rfl⟩ := h
        have ex : args = #[x'] := by rw [← Array.toList_inj]; exact hx
        have et : tys = #[t'] := by rw [← Array.toList_inj]; exact ht
        exact ⟨o, rfl, hg, hd, by rw [hop, ex, et]⟩
      · cases h
    · cases h
  | o :: o' :: r, pre, x, t, h => by
    simp only [lastB] at h
    split at h
    · rename_i p x' t' hr
      simp only [Option.some.injEq, Prod.mk.injEq] at h
      obtain ⟨rfl, rfl, rfl⟩ := h
      obtain ⟨y, h1, h2⟩ := lastB_spec (l := o' :: r) hr
      exact ⟨y, by rw [h1]; rfl, h2⟩
    · cases h

/-- The walk as far as the defer; the code behind it. -/
def wpb (T : Tbl) (O : Org) (c : Code) : St → (St → EV → TypeId → Code → Prop) → Prop :=
  Code.rec (motive := fun _ => St → (St → EV → TypeId → Code → Prop) → Prop)
    (fun _ _ => False)
    (fun _ _ _ _ _ => False)
    (fun a b _ wb s k => match a with
      | .region id ops false => match lastB ops.toList with
        | some (pre, x, t) => opsX T ops pre s fun s' => k s' (evT s'.tmps x) t b
        | none => wpx T O (.region id ops false) s (normK fun s' => wb s' k)
      | a => wpx T O a s (normK fun s' => wb s' k))
    (fun _ _ _ _ _ _ _ => False)
    (fun _ _ _ _ _ => False)
    (fun _ _ _ _ => False)
    (fun _ _ _ _ _ _ _ _ => False)
    (fun _ _ _ => False)
    (fun _ _ _ _ => False)
    (fun _ _ _ => False)
    (fun _ _ _ => False)
    (fun _ _ => False)
    (fun _ _ _ => False)
    c

theorem wpb_seq (T : Tbl) (O : Org) (a b : Code) (s : St) (k : St → EV → TypeId → Code → Prop) : wpb T O (.seq a b) s k = (match a with
    | .region id ops false => match lastB ops.toList with
      | some (pre, x, t) => opsX T ops pre s fun s' => k s' (evT s'.tmps x) t b
      | none => wpx T O (.region id ops false) s (normK fun s' => wpb T O b s' k)
    | a => wpx T O a s (normK fun s' => wpb T O b s' k)) := rfl

theorem wpb_snd {T : Tbl} {O : Org} (on : O.E.n = O.h.length) {Q : Exit → Act → World → Prop} {k : St → EV → TypeId → Code → Prop}
    (hk : ∀ E s a w x xv t ty b consts, k s x t b → denE E x xv → Rel O E s a w → Code.wp T.P b Q { a with defers := { target := .builtin .clear #[t] ty consts, args := #[xv] } :: a.defers } w) :
    ∀ (c : Code) {E : Emb} {s : St} {a : Act} {w : World}, wpb T O c s k → Rel O E s a w → c.wp T.P Q a w := by
  have step : ∀ (x y : Code) {E : Emb} {s : St} {a : Act} {w : World} {n : St → Prop}, wpx T O x s (normK n) → Rel O E s a w → (∀ {E s a w}, n s → Rel O E s a w → y.wp T.P Q a w) → (Code.seq x y).wp T.P Q a w := by
    intro x y E s a w n hx R hy
    refine wp_seq (Code.wp_mono ?_ (wpx_snd on x hx R))
    rintro e a' w' ⟨E', s', h1, h2⟩
    cases e <;> first
      | exact hy h1 h2
      | exact h1.elim
  intro c
  induction c with
  | seq x y _ ihy =>
    intro E s a w h R
    rw [wpb_seq] at h
    split at h
    · rename_i id ops _ _
      split at h
      · rename_i pre x t hl
        obtain ⟨o, h1, hg, hd, hop⟩ := lastB_spec hl
        refine wp_seq (wp_region_list ?_)
        rw [h1]
        refine opsX_append on pre [o] R h fun E' s' a' w' hk' R' => ?_
        have hxd := ev_denE R'.fr x
        unfold wpList
        rw [if_pos (by simp [Region.wanted, hg])]
        refine .inl ?_
        unfold Oper.wp
        have hex : ∃ cs, (execOp a'.eval o).run T.P w' = .ok (.defer { target := .builtin .clear #[t] o.type cs, args := #[a'.eval x] }) w' := by
          refine ⟨(#[x] : Array Operand).map (fun y => match y with | .const _ => true | _ => false), ?_⟩
          have em : (#[x] : Array Operand).map a'.eval = #[a'.eval x] := by simp
          unfold execOp
          simp only [hop, resolve, em]
          rfl
        obtain ⟨cs, hex⟩ := hex
        rw [hex, Oper.upon_defer, hd]
        exact hk E' s' a' w' _ _ _ o.type _ cs hk' hxd R'
      · exact step _ _ h R fun h1 h2 => ihy h1 h2
    · exact step _ _ h R fun h1 h2 => ihy h1 h2
  | _ => intro E s a w h R; exact h.elim

/-- What comes behind the code: the map is cleared; what is handed back. -/
def bodyB (T : Tbl) (F : Func) (x : EV) (t : TypeId) (Q : EV → List Blk → Prop) : Exit → St → Prop
  | .normal, s => match T.ty t, x with
    | some { d := .map _ _, .. }, .s (.map b) => match nthB s.heap b with
      | some (.map _) => updBK s.heap b (.map []) fun h => resX T ⟨s.tmps, h⟩ F.results.toList Q
      | _ => False
    | _, _ => False
  | .ret, s => match T.ty t, x with
    | some { d := .map _ _, .. }, .s (.map b) => match nthB s.heap b with
      | some (.map _) => updBK s.heap b (.map []) fun h => resX T ⟨s.tmps, h⟩ F.results.toList Q
      | _ => False
    | _, _ => False
  | _, _ => False

/-- A function's body that defers a clearing, walked. -/
def fnXB (T : Tbl) (O : Org) (F : Func) (args : List EV) (h : List Blk) (Q : EV → List Blk → Prop) : Prop :=
  match F.body with
  | some c => frameK args F.ntmps fun ts => wpb T O c ⟨ts, h⟩ fun s x t rest => ∀ O' : Org, O'.E.n = O'.h.length → O'.E.n = s.heap.length → O.E.n ≤ O'.E.n → wpx T O' rest s (bodyB T F x t Q)
  | none => False

theorem fnXB_call (T : Tbl) {f : FuncId} {F : Func} (hF : T.P.funcs[f]? = some F) {args : List EV} {h : List Blk} {Q : EV → List Blk → Prop}
    (hX : ∀ E w, Sim E h w → fnXB T ⟨E, h, w, []⟩ F args h Q) : CallG T f args h Q := by
  intro E w vs S hargs
  have hx := hX E w S
  unfold fnXB at hx
  split at hx
  · rename_i c hc
    rw [frameK_eq] at hx
    refine calls_of_wp_builtin hF hc ?_
    have hlen : vs.size = args.length := by rw [← Array.length_toList]; exact denT_length hargs
    have R : Rel ⟨E, h, w, []⟩ E { tmps := args ++ junks (F.ntmps - args.length), heap := h } { tmps := vs ++ Array.replicate (F.ntmps - vs.size) undef, defers := [] } w := by
      refine ⟨⟨by simp [length_junks, hlen], fun i v hi => ?_⟩, rfl, S, Since.refl _ _ _⟩
      rw [nth_append_junks]
      split
      · rename_i hlt
        rw [Array.getElem?_append_left (by omega)] at hi
        exact denT_nth hargs (by simpa using hi)
      · simp only [denE]
    refine wpb_snd (O := ⟨E, h, w, []⟩) S.n ?_ c hx R
    intro E1 s1 a1 w1 x0 xv t ty rest consts hk hxd R1
    have hdf : a1.defers = [] := R1.df
    generalize hdd : ({ target := .builtin .clear #[t] ty consts, args := #[xv] } : Deferred) = d
    have hO := hk ⟨E1, s1.heap, w1, [d]⟩ R1.sim.n R1.sim.n (by have h1 := R1.sin.len; have h2 := S.n; have h3 := R1.sim.n; simp only at *; omega)
    have R1' : Rel ⟨E1, s1.heap, w1, [d]⟩ E1 s1 { a1 with defers := d :: a1.defers } w1 := ⟨R1.fr, by simp [hdf], R1.sim, Since.refl _ _ _⟩
    refine Code.wp_mono ?_ (wpx_snd (T := T) (O := ⟨E1, s1.heap, w1, [d]⟩) R1.sim.n rest hO R1')
    have key : ∀ E2 s2 a2 w2, bodyB T F x0 t Q .normal s2 → Rel ⟨E1, s1.heap, w1, [d]⟩ E2 s2 a2 w2 → postB T.P F (Post E h w Q) .normal a2 w2 := by
      intro E2 s2 a2 w2 hb R2
      have hdf2 : a2.defers = [d] := R2.df
      unfold bodyB at hb
      simp only at hb
      split at hb
      · rename_i kt et _ _ _ b ht
        split at hb
        · rename_i es hbk
          rw [updBK_eq, updB_eq] at hb
          have hle2 : E1.le E2 := R2.sin.le R1.sim.n R2.sim.n
          simp only [denE, denV] at hxd
          obtain ⟨hb1, rfl⟩ := hxd
          have hbk' := nthB_get hbk
          obtain ⟨l, clock, hl, _⟩ := R2.sim.ok b _ hbk'
          have hloc : E1.f b = E2.f b := (hle2.2 b hb1).symm
          have S3 := R2.sim.mset (es' := []) hbk' (l' := #[]) (c' := clock) hl (by simp [denM])
          have N3 := Since.mset (E := E2) (h := s2.heap) (es' := []) hbk' (l' := #[]) (c' := clock) hl
          have hfr : frameOk E2 s2.tmps a2.tmps := R2.fr
          obtain ⟨u, v', k1, k2, k3⟩ := resX_snd T (s := ⟨s2.tmps, s2.heap.set b (.map [])⟩) hfr S3 hb
          have hd : T.P.underlying t = some (.map kt et) := (T.tyOk _ _ ht).desc
          refine ⟨d, .clear, #[t], ty, consts, .tuple #[], _, u, hdf2, by rw [← hdd], ?_, k1, u, v', _, E2, rfl, k2, S3, ?_, k3⟩
          · rw [← hdd]
            simp [invoke, builtin, Builtin.clear_, run_underlying hd, hloc, MapKept.run_getObj_map hl, MapKept.run_setObj_map _ hl, Result.andThen]
          · exact ((R1.sin).trans S.n R1.sim.n R2.sin).trans S.n R2.sim.n N3
        · exact hb.elim
      · exact hb.elim
    rintro e a2 w2 ⟨E2, s2, hb, R2⟩
    cases e <;> first
      | exact key E2 s2 a2 w2 hb R2
      | exact hb.elim
  · exact hx.elim

/-- **A function that defers a clearing, walked over a small heap.** -/
theorem fnXB_does (T : Tbl) {f : FuncId} {F : Func} (hF : T.P.funcs[f]? = some F) (hb : F.body.isNone = false) (hname : (F.name == "runtime.NumGoroutine") = false) {args : List EV} {h : List Blk} {Q : EV → List Blk → Prop}
    (hX : ∀ O : Org, O.E.n = O.h.length → O.E.n = h.length → fnXB T O F args h (Ends h.length Q)) : Does T f args h Q := by
  refine ⟨.inl ⟨⟨F, hF, hb, hname⟩, fun E w vs S ha => ?_⟩⟩
  have c := fnXB_call T hF (args := args) (h := h) (Q := Ends h.length Q) (fun E w S => hX _ S.n S.n) E w vs S ha
  refine c.mono ?_
  rintro e w' ⟨v, x, h', E', rfl, hd, S', N', V, H, κ, hq, hnd, hid, hv, hh⟩
  obtain ⟨S'', h1, h2, h3⟩ := S'.renum hnd hh
  refine ⟨v, V, H, _, rfl, ?_, S'', N'.renum S.n S' hnd (by rw [S.n]; exact hid) hh, hq⟩
  exact (denE_ren (E := ⟨H.length, fun i => E'.f (lk κ h'.length i)⟩) h1 (fun b hb => ⟨h2 b hb, rfl⟩) _ _).1 (eqvE_den _ _ _ hv hd)

end Go.Anv

/- Watching: a row among others: which rules it breaks. The map of the rules that were broken holds a list of pairs. -/
namespace Go.Anv
open Go
/-- The rule's first place. -/
def putN (r p : Int) (L : List (Int × Int)) : List (Int × Int) := match assoc r L with
  | none => L ++ [(r, p)]
  | some _ => L
/-- What api.Trace is: rows, cpu, off, code, output. -/
def tsegs (x : SV) (c : CpuV) (off code : Int) (y : SV) : List Seg := .one x :: (c.segs ++ [.one (.int .i64 off), .one (.int .i64 code), .one y])
/-- Which rule a row breaks: 1, 2, 4. -/
def bad1 (r : RowV) (i : Nat) : Bool := r.step != (i : Int) + 1
def bad2 (r q : RowV) (i : Nat) : Bool := bif decide ((i : Int) > 0) then bif (r.pc.toNat : Int) != (q.next.toNat : Int) then true else r.mode != q.nextMode else false
def bad4 (r : RowV) (off : Bool) : Bool := bif off then bif bif r.kind != 5 then true else (r.next.toNat : Int) != (r.pc.toNat : Int) then true else r.nextMode != r.mode else false
def put1 (b : Bool) (k : Int) (i : Nat) (L : List (Int × Int)) : List (Int × Int) := bif b then putN k i L else L
/-- What is written of a row. -/
def rowN0 (r q : RowV) (i : Nat) (off : Bool) (L : List (Int × Int)) : List (Int × Int) :=
  put1 (!r.moves) 5 i (put1 (bad4 r off) 4 i (put1 (!r.good) 3 i (put1 (bad2 r q i) 2 i (put1 (bad1 r i) 1 i L))))
def rowsB (m : Bool) (n : Nat) (f : Nat → RowV) (sp : Nat) : Blk := .recs m n 16 (fun i => (f i).svs) sp
/-- A trace as it was handed in. -/
structure TrV where
  n : Nat
  f : Nat → RowV
  c : CpuV
  off : Int
  code : Int
  no : Nat
  out : Nat → B8
def TrV.rowN (t : TrV) (i : Nat) (off : Bool) (L : List (Int × Int)) : List (Int × Int) := rowN0 (t.f i) (t.f (i - 1)) i off L
def TrV.walk (t : TrV) (cn co : Nat) (mr : Bool) (sr : Nat) (mo : Bool) (so : Nat) (L : List (Int × Int)) : List Blk :=
  [rowsB mr t.n t.f sr, bblk mo t.no t.out so, .cells true (tsegs (.gs 0 0 t.n cn) t.c t.off t.code (.gs 1 0 t.no co) ++ [.one (.map 3)]) 0, .map (ents L)]
end Go.Anv
namespace Go.Proofs.Ytghcdkpgcanpgaa
open Go Go.Anv
set_option maxRecDepth 100000 in
theorem broken_spec (t : TrV) (cn co sr so : Nat) (mr mo : Bool) (L : List (Int × Int)) (r p : Int) :
    Does TB 67 [.s (.ptr 2 0), .s (.int .i64 r), .s (.int .i64 p)] (t.walk cn co mr sr mo so L) (fun v h' => v = .tuple [] ∧ h' = t.walk cn co mr sr mo so (putN r p L)) := by
  refine fnX_does TB Try.func67 rfl (by decide) (fun O on hO => ?_)
  refine lookK_ints r L ?_
  cases e : assoc r L with
  | none =>
    have he : putN r p L = L ++ [(r, p)] := by unfold putN; rw [e]
    rw [he]
    refine putM_ints r p L e ?_
    exact Ends.same (h := t.walk cn co mr sr mo so (L ++ [(r, p)])) ⟨rfl, rfl⟩ (Nat.le_refl 4)
  | some q =>
    have he : putN r p L = L := by unfold putN; rw [e]
    rw [he]
    exact Ends.same (h := t.walk cn co mr sr mo so L) ⟨rfl, rfl⟩ (Nat.le_refl 4)
theorem ren_ents (ρ : Nat → Nat) : ∀ L : List (Int × Int), renM ρ (ents L) = ents L
  | [] => rfl
  | p :: L => by
    show (_, _) :: renM ρ (ents L) = _
    rw [ren_ents ρ L]; rfl
theorem broken_k (t : TrV) (cn co sr so : Nat) (mr mo : Bool) (L : List (Int × Int)) (r p : Int) (J : List Blk) {K : EV → List Blk → Prop} (hk : K (.tuple []) (t.walk cn co mr sr mo so (putN r p L) ++ J)) :
    Does TB 67 [.s (.ptr 2 0), .s (.int .i64 r), .s (.int .i64 p)] (t.walk cn co mr sr mo so L ++ J) K := by
  refine Does.at (broken_spec t cn co sr so mr mo L r p) [0, 1, 2, 3] rfl ⟨rfl, rfl, rfl, ?_, trivial⟩ (by decide) ?_ ?_
  · show some (Blk.map (ents L)) = some (Blk.map (renM _ (ents L)))
    rw [ren_ents]
  · rintro v h' ⟨_, rfl⟩
    exact ⟨.inr (.inr rfl), .inr (.inr rfl), .inl rfl, .inl rfl, trivial⟩
  · rintro v h' ⟨rfl, rfl⟩
    rw [forceH_eq, forceE_eq]
    show K (.tuple []) (_ :: _ :: _ :: Blk.map (renM _ (ents (putN r p L))) :: (J ++ []))
    rw [ren_ents, List.append_nil]
    exact hk
theorem row_end (t : TrV) (cn co sr so : Nat) (mr mo : Bool) (M L : List (Int × Int)) (J : List Blk) (e : M = L) :
    Anv.Ends 4 (fun v h' => v = .tuple [] ∧ h' = t.walk cn co mr sr mo so M) (.tuple []) (t.walk cn co mr sr mo so L ++ J) := by
  subst e
  refine Ends.ro (H := t.walk cn co mr sr mo so M) (J := J) rfl (eqvE_refl (.tuple [])) ?_
  show _ :: _ :: _ :: Blk.map (renM _ (ents M)) :: [] = _
  rw [ren_ents]; rfl
set_option maxHeartbeats 4000000 in
set_option maxRecDepth 100000 in
theorem row_spec (t : TrV) (cn co sr so : Nat) (mr mo : Bool) (L : List (Int × Int)) (i : Nat) (off : Bool) (hi : i < t.n) (hn : t.n ≤ 2 ^ 47) (ok : (t.f i).Ok) :
    Does TB 66 [.s (.ptr 2 0), .s (.int .i64 i), .s (.bool off)] (t.walk cn co mr sr mo so L) (fun v h' => v = .tuple [] ∧ h' = t.walk cn co mr sr mo so (t.rowN i off L)) := by
  have w1 : 0 < i → IntKind.i64.wrap ((i : Int) - 1) = (i : Int) - 1 := fun h => i64_in (by omega) (by omega)
  have w2 : IntKind.i64.wrap ((i : Int) + 1) = (i : Int) + 1 := i64_in (by omega) (by omega)
  have n1 : decide ((i : Int) > 0) = true → 0 ≤ IntKind.i64.wrap ((i : Int) - 1) ∧ IntKind.i64.wrap ((i : Int) - 1) < (t.n : Int) := fun h => by
    have h := of_decide_eq_true h
    rw [w1 (by omega)]; omega
  have n2 : decide ((i : Int) > 0) = true → (IntKind.i64.wrap ((i : Int) - 1)).toNat < t.n := fun h => by
    have h := of_decide_eq_true h
    rw [w1 (by omega)]; omega
  have an1 : ∀ {a b : Bool}, (a && b) = true → a = true := fun {a b} h => by cases a <;> simp at h <;> rfl
  have ix : decide ((i : Int) > 0) = true → (IntKind.i64.wrap ((i : Int) - 1)).toNat = i - 1 := fun h => by
    have h := of_decide_eq_true h
    rw [w1 (by omega)]; omega
  have k1 : ((t.f i).step != IntKind.i64.wrap ((i : Int) + 1)) = bad1 (t.f i) i := by rw [w2]; rfl
  have k2 : (bif decide ((i : Int) > 0) then bif ((t.f i).pc.toNat : Int) != ((t.f (IntKind.i64.wrap ((i : Int) - 1)).toNat).next.toNat : Int) then true else (t.f i).mode != (t.f (IntKind.i64.wrap ((i : Int) - 1)).toNat).nextMode else false) = bad2 (t.f i) (t.f (i - 1)) i := by
    unfold bad2
    cases hd : decide ((i : Int) > 0)
    · rfl
    · rw [ix hd]
  refine fnX_does TB Try.func66 rfl (by decide) (fun O on hO => ?_)
  repeat (refine need_intro (by first | omega | (exact ⟨by omega, by omega⟩) | exact fun h => h | exact nt | exact an2 | exact an3 | rfl | (simp; done) | fail) ?_)
  refine ifB_intro (fun h1 => ?_) (fun h1 => ?_)
  refine broken_k t cn co sr so mr mo _ _ _ [_] ?_
  all_goals
    refine draw_held on rfl (fun _ _ h => h) ?_
    repeat' (first
      | refine need_intro (by first | exact fun h => h | exact nt | exact an2 | exact an3 | rfl | (simp; done) | fail) ?_
      | refine need_intro (by first | exact n1 | exact n2 | exact fun h => n1 (an1 h) | exact fun h => n2 (an1 h) | fail) ?_
      | refine And.intro ?_ ?_
      | exact n1
      | exact n2
      | exact fun h => n1 (an1 h)
      | exact fun h => n2 (an1 h))
    refine ifB_intro (fun h2 => ?_) (fun h2 => ?_)
    refine broken_k t cn co sr so mr mo _ _ _ [_] ?_
    all_goals
      refine Does.atc (shaped_spec (t.f i) ok) [] rfl trivial (by decide) ?_
      refine ifB_intro (fun h3 => ?_) (fun h3 => ?_)
      refine broken_k t cn co sr so mr mo _ _ _ [_] ?_
      all_goals
        repeat (refine need_intro (by first | exact an2 | exact an3 | exact fun h => h | exact nt | exact an2 | exact an3 | rfl | (simp; done) | fail) ?_)
        refine ifB_intro (fun h4 => ?_) (fun h4 => ?_)
        refine broken_k t cn co sr so mr mo _ _ _ [_] ?_
        all_goals
          refine Does.atc (modes_spec (t.f i)) [] rfl trivial (by decide) ?_
          refine ifB_intro (fun h5 => ?_) (fun h5 => ?_)
          refine broken_k t cn co sr so mr mo _ _ _ [_] ?_
          all_goals
            refine row_end t cn co sr so mr mo _ _ [_] ?_
            simp only [TrV.rowN, rowN0, put1, k1.symm.trans h1, k2.symm.trans h2, h3, (show bad4 (t.f i) off = _ from h4), h5, cond_true, cond_false]
end Go.Proofs.Ytghcdkpgcanpgaa

/- Watching: the program's Trace. -/
namespace Go.Anv
open Go
def offN (t : TrV) : Nat → Bool
  | 0 => false
  | k + 1 => offN t k || ((t.f k).kind == 5)
def listN (t : TrV) : Nat → List (Int × Int)
  | 0 => []
  | k + 1 => t.rowN k (offN t k) (listN t k)
def bad6 (t : TrV) : Bool := bif ((t.f (t.n - 1)).next.toNat : Int) != (t.c.proper.pc.toNat : Int) then true else (t.f (t.n - 1)).nextMode != t.c.proper.mode
def TrV.seen (t : TrV) : List (Int × Int) := put1 (bif decide ((t.n : Int) > 0) then bad6 t else false) 6 t.n (listN t t.n)
/-- The lowest of the rules r, r + 1 .. that is there. -/
def lowF (L : List (Int × Int)) : Nat → Int → Int × Int
  | 0, _ => (0, 0)
  | n + 1, r => match assoc r L with
    | some p => (r, p)
    | none => lowF L n (r + 1)
def TrV.heap (t : TrV) (cn co : Nat) (mr : Bool) (sr : Nat) (mo : Bool) (so : Nat) (L : List (Int × Int)) : List Blk :=
  [rowsB mr t.n t.f sr, bblk mo t.no t.out so, .cells true (tsegs (.gs 0 0 t.n cn) t.c t.off t.code (.gs 1 0 t.no co)) 0, .map (ents L), .cells true (tsegs (.gs 0 0 t.n cn) t.c t.off t.code (.gs 1 0 t.no co) ++ [.one (.map 3)]) 0]
end Go.Anv
namespace Go.Proofs.Ytghcdkpgcanpgaa
open Go Go.Anv
theorem row_k (t : TrV) (cn co sr so : Nat) (mr mo : Bool) (L : List (Int × Int)) (i : Nat) (off : Bool) (hi : i < t.n) (hn : t.n ≤ 2 ^ 47) (ok : (t.f i).Ok) (J : List Blk) {K : EV → List Blk → Prop} (hk : K (.tuple []) (t.heap cn co mr sr mo so (t.rowN i off L) ++ J)) :
    Does TB 66 [.s (.ptr 4 0), .s (.int .i64 i), .s (.bool off)] (t.heap cn co mr sr mo so L ++ J) K := by
  refine Does.at (row_spec t cn co sr so mr mo L i off hi hn ok) [0, 1, 4, 3] rfl ⟨rfl, rfl, rfl, ?_, trivial⟩ (by decide) ?_ ?_
  · show some (Blk.map (ents L)) = some (Blk.map (renM _ (ents L)))
    rw [ren_ents]
  · rintro v h' ⟨_, rfl⟩
    exact ⟨.inr (.inr rfl), .inr (.inr rfl), .inl rfl, .inl rfl, trivial⟩
  · rintro v h' ⟨rfl, rfl⟩
    rw [forceH_eq, forceE_eq]
    show K (.tuple []) (_ :: _ :: _ :: Blk.map (renM _ (ents (t.rowN i off L))) :: _ :: (J ++ []))
    rw [ren_ents, List.append_nil]
    exact hk
theorem broke_k (t : TrV) (cn co sr so : Nat) (mr mo : Bool) (L : List (Int × Int)) (r p : Int) (J : List Blk) {K : EV → List Blk → Prop} (hk : K (.tuple []) (t.heap cn co mr sr mo so (putN r p L) ++ J)) :
    Does TB 67 [.s (.ptr 4 0), .s (.int .i64 r), .s (.int .i64 p)] (t.heap cn co mr sr mo so L ++ J) K := by
  refine Does.at (broken_spec t cn co sr so mr mo L r p) [0, 1, 4, 3] rfl ⟨rfl, rfl, rfl, ?_, trivial⟩ (by decide) ?_ ?_
  · show some (Blk.map (ents L)) = some (Blk.map (renM _ (ents L)))
    rw [ren_ents]
  · rintro v h' ⟨_, rfl⟩
    exact ⟨.inr (.inr rfl), .inr (.inr rfl), .inl rfl, .inl rfl, trivial⟩
  · rintro v h' ⟨rfl, rfl⟩
    rw [forceH_eq, forceE_eq]
    show K (.tuple []) (_ :: _ :: _ :: Blk.map (renM _ (ents (putN r p L))) :: _ :: (J ++ []))
    rw [ren_ents, List.append_nil]
    exact hk
set_option maxHeartbeats 4000000 in
set_option maxRecDepth 100000 in
theorem trace_spec (t : TrV) (cn co sr so : Nat) (mr mo : Bool) (hn : t.n ≤ 2 ^ 47) (ok : ∀ i, i < t.n → (t.f i).Ok) :
    Does TB 30 [.agg (tsegs (.gs 0 0 t.n cn) t.c t.off t.code (.gs 1 0 t.no co))] [rowsB mr t.n t.f sr, bblk mo t.no t.out so]
      (fun v h' => v = .tuple [.s (.int .i64 (lowF t.seen 6 1).1), .s (.int .i64 (lowF t.seen 6 1).2)] ∧ h' = [rowsB mr t.n t.f sr, bblk mo t.no t.out so]) := by
  refine fnXB_does TB Try.func30 rfl (by decide) (fun O on hO => ?_)
  intro O' on' hO' hle
  refine loop_in (A := Nat) on' (fun k => [(25, .s (.int .i64 (k : Int))), (5, .s (.bool (offN t k)))]) (fun k => t.heap cn co mr sr mo so (listN t k)) (fun k => k ≤ t.n) (fun k => t.n - k) 0 (Nat.zero_le _) [0, 1, 2, 3, 4] ?_ ?_
  · rw [hO']
    refine ⟨by decide, ⟨rfl, rfl, rfl, rfl, rfl, trivial⟩, ?_, ?_⟩
    · repeat' (first | exact eqvT_nil | refine eqvT_junk ?_ | refine eqvT_same ?_ | refine eqvT_int ?_ ?_ | refine eqvT_gs ⟨rfl, rfl, rfl, rfl⟩ ?_)
    · exact ⟨⟨_, rfl, eqvB_refl _⟩, ⟨_, rfl, eqvB_refl _⟩, ⟨_, rfl, eqvB_refl _⟩, ⟨_, rfl, eqvB_refl _⟩, ⟨_, rfl, eqvB_refl _⟩, trivial⟩
  intro k hk
  refine ifB_intro (fun h1 => ?_) (fun h1 => ?_)
  · have hk1 : k < t.n := by have := of_decide_eq_true h1; omega
    repeat (refine need_intro (by first | omega | (exact ⟨by omega, by omega⟩) | exact fun h => h | exact nt | exact an2 | exact an3 | rfl | (simp; done) | fail) ?_)
    refine row_k t cn co sr so mr mo _ k _ hk1 hn (ok k hk1) [_] ?_
    repeat (refine need_intro (by first | exact an2 | exact an3 | exact fun h => h | exact nt | exact an2 | exact an3 | rfl | (simp; done) | fail) ?_)
    refine ⟨k + 1, hk1, by show t.n - (k + 1) < t.n - k; omega, [0, 1, 2, 3, 4], ?_⟩
    rw [hO']
    refine ⟨by decide, ⟨rfl, rfl, rfl, rfl, rfl, trivial⟩, ?_, ?_⟩
    · repeat' (first | exact eqvT_nil | refine eqvT_junk ?_ | refine eqvT_same ?_ | refine eqvT_int ?_ ?_ | refine eqvT_gs ⟨rfl, rfl, rfl, rfl⟩ ?_)
      · rw [i64_in (by omega) (by omega)]; rfl
    · refine ⟨⟨_, rfl, eqvB_refl _⟩, ⟨_, rfl, eqvB_refl _⟩, ⟨_, rfl, eqvB_refl _⟩, ⟨_, rfl, ?_⟩, ⟨_, rfl, eqvB_refl _⟩, trivial⟩
      show eqvB (Blk.map (ents (t.rowN k (offN t k) (listN t k)))) (Blk.map (renM _ (ents (listN t (k + 1)))))
      rw [ren_ents]; exact eqvB_refl _
  have hk1 : k = t.n := by have := of_decide_eq_false h1; omega
  subst hk1
  have fin : ∀ {a b : Int} {J : List Blk}, lowF t.seen 6 1 = (a, b) → Anv.Ends 2 (fun v h' => v = .tuple [.s (.int .i64 (lowF t.seen 6 1).1), .s (.int .i64 (lowF t.seen 6 1).2)] ∧ h' = [rowsB mr t.n t.f sr, bblk mo t.no t.out so]) (.tuple [.s (.int .i64 a), .s (.int .i64 b)]) ([rowsB mr t.n t.f sr, bblk mo t.no t.out so] ++ J) := by
    intro a b J e
    rw [e]
    exact Ends.ro (H := [rowsB mr t.n t.f sr, bblk mo t.no t.out so]) (J := J) rfl (eqvE_refl _) rfl
  have hz : IntKind.i64.wrap ((t.n : Int) - 1) = (t.n : Int) - 1 := i64_in (by omega) (by omega)
  have k3 : (bif ((t.f (IntKind.i64.wrap ((t.n : Int) - 1)).toNat).next.toNat : Int) != (t.c.proper.pc.toNat : Int) then true else (t.f (IntKind.i64.wrap ((t.n : Int) - 1)).toNat).nextMode != t.c.proper.mode) = bad6 t := by
    rw [hz, show ((t.n : Int) - 1).toNat = t.n - 1 by omega]; rfl
  refine ifB_intro (fun h2 => ?_) (fun h2 => ?_)
  · have h2' := of_decide_eq_true h2
    refine (proper_spec t.c _).mono ?_
    rintro v h' ⟨rfl, rfl⟩
    repeat (refine need_intro (by first | (rw [hz]; omega) | omega | exact an2 | exact an3 | exact fun h => h | exact nt | exact an2 | exact an3 | rfl | (simp; done) | fail) ?_)
    refine ifB_intro (fun h3 => ?_) (fun h3 => ?_)
    · have hs : t.seen = putN 6 t.n (listN t t.n) := by
        unfold TrV.seen; rw [h2, k3.symm.trans h3]; rfl
      refine broke_k t cn co sr so mr mo _ _ _ [_, _] ?_

      refine loop_in (A := Nat) on' (fun k => [(11, .s (.int .i64 ((k : Int) + 1))), (9, .junk), (10, .junk), (55, .junk), (57, .junk), (61, .junk), (63, .junk)]) (fun _ => t.heap cn co mr sr mo so t.seen) (fun k => k ≤ 6 ∧ lowF t.seen 6 1 = lowF t.seen (6 - k) ((k : Int) + 1)) (fun k => 6 - k) 0 ⟨Nat.zero_le _, rfl⟩ [0, 1, 2, 3, 4] ?_ ?_
      · rw [hO']
        refine ⟨by decide, ⟨rfl, rfl, rfl, rfl, rfl, trivial⟩, ?_, ?_⟩
        · repeat' (first | exact eqvT_nil | refine eqvT_junk ?_ | refine eqvT_same ?_ | refine eqvT_int ?_ ?_ | refine eqvT_gs ⟨rfl, rfl, rfl, rfl⟩ ?_)

        · refine ⟨⟨_, rfl, eqvB_refl _⟩, ⟨_, rfl, eqvB_refl _⟩, ⟨_, rfl, eqvB_refl _⟩, ⟨_, rfl, ?_⟩, ⟨_, rfl, eqvB_refl _⟩, trivial⟩
          refine Eq.mp (congrArg (fun x => eqvB x (Blk.map (renM _ (ents t.seen)))) (congrArg (fun L => Blk.map (ents L)) hs)) ?_
          rw [ren_ents]; exact eqvB_refl _
      intro k ⟨hk, hl⟩
      refine ifB_intro (fun h1 => ?_) (fun h1 => ?_)
      · have h1' := of_decide_eq_true h1
        refine lookK_ints ((k : Int) + 1) t.seen ?_
        obtain ⟨m, hm⟩ : ∃ m, 6 - k = m + 1 := ⟨5 - k, by omega⟩
        cases e : assoc ((k : Int) + 1) t.seen with
        | none =>
          refine ⟨k + 1, ⟨by omega, ?_⟩, by show 6 - (k + 1) < 6 - k; omega, [0, 1, 2, 3, 4], ?_⟩
          · rw [hl, hm]
            simp only [lowF, e]
            rw [show 6 - (k + 1) = m by omega]; rfl
          rw [hO']
          refine ⟨by decide, ⟨rfl, rfl, rfl, rfl, rfl, trivial⟩, ?_, ?_⟩
          · repeat' (first | exact eqvT_nil | refine eqvT_junk ?_ | refine eqvT_same ?_ | refine eqvT_int ?_ ?_ | refine eqvT_gs ⟨rfl, rfl, rfl, rfl⟩ ?_)
            rw [i64_in (by omega) (by omega)]; rfl
          · refine ⟨⟨_, rfl, eqvB_refl _⟩, ⟨_, rfl, eqvB_refl _⟩, ⟨_, rfl, eqvB_refl _⟩, ⟨_, rfl, ?_⟩, ⟨_, rfl, eqvB_refl _⟩, trivial⟩
            show eqvB (Blk.map (ents t.seen)) (Blk.map (renM _ (ents t.seen)))
            rw [ren_ents]; exact eqvB_refl _
        | some q =>
          refine fin (J := [_, _, _]) ?_
          rw [hl, hm]
          simp only [lowF, e]
      · have h1' := of_decide_eq_false h1
        refine fin (J := [_, _, _]) ?_
        rw [hl, show 6 - k = 0 by omega]; rfl
    · have hs : t.seen = listN t t.n := by
        unfold TrV.seen; rw [h2, k3.symm.trans h3]; rfl

      refine loop_in (A := Nat) on' (fun k => [(11, .s (.int .i64 ((k : Int) + 1))), (9, .junk), (10, .junk), (55, .junk), (57, .junk), (61, .junk), (63, .junk)]) (fun _ => t.heap cn co mr sr mo so t.seen) (fun k => k ≤ 6 ∧ lowF t.seen 6 1 = lowF t.seen (6 - k) ((k : Int) + 1)) (fun k => 6 - k) 0 ⟨Nat.zero_le _, rfl⟩ [0, 1, 2, 3, 4] ?_ ?_
      · rw [hO']
        refine ⟨by decide, ⟨rfl, rfl, rfl, rfl, rfl, trivial⟩, ?_, ?_⟩
        · repeat' (first | exact eqvT_nil | refine eqvT_junk ?_ | refine eqvT_same ?_ | refine eqvT_int ?_ ?_ | refine eqvT_gs ⟨rfl, rfl, rfl, rfl⟩ ?_)

        · refine ⟨⟨_, rfl, eqvB_refl _⟩, ⟨_, rfl, eqvB_refl _⟩, ⟨_, rfl, eqvB_refl _⟩, ⟨_, rfl, ?_⟩, ⟨_, rfl, eqvB_refl _⟩, trivial⟩
          refine Eq.mp (congrArg (fun x => eqvB x (Blk.map (renM _ (ents t.seen)))) (congrArg (fun L => Blk.map (ents L)) hs)) ?_
          rw [ren_ents]; exact eqvB_refl _
      intro k ⟨hk, hl⟩
      refine ifB_intro (fun h1 => ?_) (fun h1 => ?_)
      · have h1' := of_decide_eq_true h1
        refine lookK_ints ((k : Int) + 1) t.seen ?_
        obtain ⟨m, hm⟩ : ∃ m, 6 - k = m + 1 := ⟨5 - k, by omega⟩
        cases e : assoc ((k : Int) + 1) t.seen with
        | none =>
          refine ⟨k + 1, ⟨by omega, ?_⟩, by show 6 - (k + 1) < 6 - k; omega, [0, 1, 2, 3, 4], ?_⟩
          · rw [hl, hm]
            simp only [lowF, e]
            rw [show 6 - (k + 1) = m by omega]; rfl
          rw [hO']
          refine ⟨by decide, ⟨rfl, rfl, rfl, rfl, rfl, trivial⟩, ?_, ?_⟩
          · repeat' (first | exact eqvT_nil | refine eqvT_junk ?_ | refine eqvT_same ?_ | refine eqvT_int ?_ ?_ | refine eqvT_gs ⟨rfl, rfl, rfl, rfl⟩ ?_)
            rw [i64_in (by omega) (by omega)]; rfl
          · refine ⟨⟨_, rfl, eqvB_refl _⟩, ⟨_, rfl, eqvB_refl _⟩, ⟨_, rfl, eqvB_refl _⟩, ⟨_, rfl, ?_⟩, ⟨_, rfl, eqvB_refl _⟩, trivial⟩
            show eqvB (Blk.map (ents t.seen)) (Blk.map (renM _ (ents t.seen)))
            rw [ren_ents]; exact eqvB_refl _
        | some q =>
          refine fin (J := [_, _, _]) ?_
          rw [hl, hm]
          simp only [lowF, e]
      · have h1' := of_decide_eq_false h1
        refine fin (J := [_, _, _]) ?_
        rw [hl, show 6 - k = 0 by omega]; rfl
  · have hs : t.seen = listN t t.n := by
      unfold TrV.seen; rw [h2]; rfl

    refine loop_in (A := Nat) on' (fun k => [(11, .s (.int .i64 ((k : Int) + 1))), (9, .junk), (10, .junk), (55, .junk), (57, .junk), (61, .junk), (63, .junk)]) (fun _ => t.heap cn co mr sr mo so t.seen) (fun k => k ≤ 6 ∧ lowF t.seen 6 1 = lowF t.seen (6 - k) ((k : Int) + 1)) (fun k => 6 - k) 0 ⟨Nat.zero_le _, rfl⟩ [0, 1, 2, 3, 4] ?_ ?_
    · rw [hO']
      refine ⟨by decide, ⟨rfl, rfl, rfl, rfl, rfl, trivial⟩, ?_, ?_⟩
      · repeat' (first | exact eqvT_nil | refine eqvT_junk ?_ | refine eqvT_same ?_ | refine eqvT_int ?_ ?_ | refine eqvT_gs ⟨rfl, rfl, rfl, rfl⟩ ?_)

      · refine ⟨⟨_, rfl, eqvB_refl _⟩, ⟨_, rfl, eqvB_refl _⟩, ⟨_, rfl, eqvB_refl _⟩, ⟨_, rfl, ?_⟩, ⟨_, rfl, eqvB_refl _⟩, trivial⟩
        refine Eq.mp (congrArg (fun x => eqvB x (Blk.map (renM _ (ents t.seen)))) (congrArg (fun L => Blk.map (ents L)) hs)) ?_
        rw [ren_ents]; exact eqvB_refl _
    intro k ⟨hk, hl⟩
    refine ifB_intro (fun h1 => ?_) (fun h1 => ?_)
    · have h1' := of_decide_eq_true h1
      refine lookK_ints ((k : Int) + 1) t.seen ?_
      obtain ⟨m, hm⟩ : ∃ m, 6 - k = m + 1 := ⟨5 - k, by omega⟩
      cases e : assoc ((k : Int) + 1) t.seen with
      | none =>
        refine ⟨k + 1, ⟨by omega, ?_⟩, by show 6 - (k + 1) < 6 - k; omega, [0, 1, 2, 3, 4], ?_⟩
        · rw [hl, hm]
          simp only [lowF, e]
          rw [show 6 - (k + 1) = m by omega]; rfl
        rw [hO']
        refine ⟨by decide, ⟨rfl, rfl, rfl, rfl, rfl, trivial⟩, ?_, ?_⟩
        · repeat' (first | exact eqvT_nil | refine eqvT_junk ?_ | refine eqvT_same ?_ | refine eqvT_int ?_ ?_ | refine eqvT_gs ⟨rfl, rfl, rfl, rfl⟩ ?_)
          rw [i64_in (by omega) (by omega)]; rfl
        · refine ⟨⟨_, rfl, eqvB_refl _⟩, ⟨_, rfl, eqvB_refl _⟩, ⟨_, rfl, eqvB_refl _⟩, ⟨_, rfl, ?_⟩, ⟨_, rfl, eqvB_refl _⟩, trivial⟩
          show eqvB (Blk.map (ents t.seen)) (Blk.map (renM _ (ents t.seen)))
          rw [ren_ents]; exact eqvB_refl _
      | some q =>
        refine fin (J := [_, _, _]) ?_
        rw [hl, hm]
        simp only [lowF, e]
    · have h1' := of_decide_eq_false h1
      refine fin (J := [_, _, _]) ?_
      rw [hl, show 6 - k = 0 by omega]; rfl
end Go.Proofs.Ytghcdkpgcanpgaa

/- Watching: the lowest rule that a trace breaks and its first place: the program's way and the document's come to the same. Plain law, no program. -/
namespace Go.Anv
open Go
/-- The first place below m. -/
def firstB (b : Nat → Bool) : Nat → Option Int
  | 0 => none
  | m + 1 => match firstB b m with
    | some x => some x
    | none => if b m then some (m : Int) else none
theorem firstB_hit {b : Nat → Bool} {i : Nat} (hn : firstB b i = none) (hb : b i = true) : ∀ n, i < n → firstB b n = some (i : Int)
  | 0, h => by omega
  | m + 1, h => by
    rcases Nat.lt_succ_iff_lt_or_eq.1 h with h | h
    · simp only [firstB, firstB_hit hn hb m h]
    · subst h
      simp only [firstB, hn, hb, if_true]
theorem firstB_congr {b c : Nat → Bool} : ∀ m, (∀ i, i < m → b i = c i) → firstB b m = firstB c m
  | 0, _ => rfl
  | m + 1, h => by
    simp only [firstB, firstB_congr m fun i hi => h i (by omega), h m (by omega)]
theorem assoc_snoc (r q p : Int) : ∀ L : List (Int × Int), assoc r (L ++ [(q, p)]) = match assoc r L with
    | some x => some x
    | none => if r == q then some p else none
  | [] => by simp only [List.nil_append, assoc]
  | x :: L => by
    simp only [List.cons_append, assoc, assoc_snoc r q p L]
    split <;> rfl
theorem assoc_put1 (r q : Int) (i : Nat) (b : Bool) (L : List (Int × Int)) : assoc r (put1 b q i L) = match assoc r L with
    | some x => some x
    | none => if b && r == q then some (i : Int) else none := by
  cases b
  · simp only [put1, cond_false, Bool.false_and, Bool.false_eq_true, if_false]
    cases assoc r L <;> rfl
  · simp only [put1, cond_true, Bool.true_and, putN]
    cases e : assoc q L with
    | none =>
      simp only [assoc_snoc]
    | some x =>
      simp only
      cases e2 : assoc r L with
      | some y => rfl
      | none =>
        have : (r == q) = false := by
          cases h : r == q
          · rfl
          · rw [beq_iff_eq.1 h, e] at e2; cases e2
        simp only [this, Bool.false_eq_true, if_false]
theorem or_if (c d : Bool) (p : Int) : (match (if c then some p else none : Option Int) with
    | some x => some x
    | none => if d then some p else none) = if c || d then some p else none := by
  cases c <;> simp
/-- Rule r at place i, the program's way. -/
def badP (t : TrV) (r : Int) (i : Nat) (off : Bool) : Bool :=
  bad1 (t.f i) i && r == 1 || bad2 (t.f i) (t.f (i - 1)) i && r == 2 || !(t.f i).good && r == 3 || bad4 (t.f i) off && r == 4 || !(t.f i).moves && r == 5
theorem assoc_listN (t : TrV) (r : Int) : ∀ m, assoc r (listN t m) = firstB (fun i => badP t r i (offN t i)) m
  | 0 => rfl
  | m + 1 => by
    simp only [listN, TrV.rowN, rowN0, assoc_put1, assoc_listN t r m, firstB]
    cases firstB (fun i => badP t r i (offN t i)) m with
    | some x => rfl
    | none => simp only [or_if]; rfl
/-- Rule k at place i holds, the document's way. -/
def keepB (t : TrV) (k : Int) (i : Nat) : Bool :=
  if k == 1 then (t.f i).step == (i : Int) + 1
  else if k == 2 then bif (i : Int) == 0 then true else bif ((t.f i).pc.toNat : Int) == ((t.f (i - 1)).next.toNat : Int) then (t.f i).mode == (t.f (i - 1)).nextMode else false
  else if k == 3 then (t.f i).good
  else if k == 4 then bif bif (i : Int) == 0 then true else (t.f (i - 1)).kind != 5 then true else bif bif (t.f i).kind == 5 then ((t.f i).next.toNat : Int) == ((t.f i).pc.toNat : Int) else false then (t.f i).nextMode == (t.f i).mode else false
  else (t.f i).moves
def firstR (t : TrV) (k : Int) : Option Int := firstB (fun i => !keepB t k i) t.n
/-- The document's answer from rule k on. -/
def refF (t : TrV) : Nat → Int → Int × Int
  | 0, _ => if (bif decide ((t.n : Int) > 0) then bad6 t else false) then (6, t.n) else (0, 0)
  | n + 1, k => match firstR t k with
    | some p => (k, p)
    | none => refF t n (k + 1)
theorem first_1 (t : TrV) : firstB (fun i => badP t 1 i (offN t i)) t.n = firstR t 1 := by
  refine firstB_congr _ fun i _ => ?_
  simp [badP, keepB, bad1, bne]
theorem first_2 (t : TrV) : firstB (fun i => badP t 2 i (offN t i)) t.n = firstR t 2 := by
  refine firstB_congr _ fun i _ => ?_
  simp only [badP, keepB, bad2]
  rcases Nat.eq_zero_or_pos i with h | h
  · subst h; simp
  · have h1 : decide ((i : Int) > 0) = true := decide_eq_true (by omega)
    have h2 : ((i : Int) == 0) = false := by rw [beq_eq_false_iff_ne]; omega
    rw [h1]
    simp only [h2, bne]
    generalize (((t.f i).pc.toNat : Int) == ((t.f (i - 1)).next.toNat : Int)) = a
    generalize ((t.f i).mode == (t.f (i - 1)).nextMode) = b
    cases a <;> cases b <;> simp
theorem first_3 (t : TrV) : firstB (fun i => badP t 3 i (offN t i)) t.n = firstR t 3 := by
  refine firstB_congr _ fun i _ => ?_
  simp [badP, keepB]
theorem first_5 (t : TrV) : firstB (fun i => badP t 5 i (offN t i)) t.n = firstR t 5 := by
  refine firstB_congr _ fun i _ => ?_
  simp [badP, keepB]
theorem first_4' (t : TrV) : ∀ m, firstB (fun i => badP t 4 i (offN t i)) m = firstB (fun i => !keepB t 4 i) m ∧ (firstB (fun i => !keepB t 4 i) m = none → offN t m = (decide (0 < m) && (t.f (m - 1)).kind == 5))
  | 0 => ⟨rfl, fun _ => rfl⟩
  | m + 1 => by
    obtain ⟨h1, h2⟩ := first_4' t m
    simp only [firstB, h1]
    cases e : firstB (fun i => !keepB t 4 i) m with
    | some x => exact ⟨rfl, fun h => by cases h⟩
    | none =>
      have ho := h2 e
      have hb : badP t 4 m (offN t m) = !keepB t 4 m := by
        rw [ho]
        rcases Nat.eq_zero_or_pos m with h | h
        · subst h; simp [badP, keepB, bad4]
        · have h3 : ((m : Int) == 0) = false := by rw [beq_eq_false_iff_ne]; omega
          simp only [badP, keepB, bad4, decide_eq_true h, h3, Bool.true_and, bne]
          cases (t.f (m - 1)).kind == 5 <;> cases (t.f m).kind == 5 <;> cases ((t.f m).next.toNat : Int) == ((t.f m).pc.toNat : Int) <;> cases (t.f m).nextMode == (t.f m).mode <;> simp
      refine ⟨by simp only [hb], fun hn => ?_⟩
      have hk : keepB t 4 m = true := by
        cases hk : keepB t 4 m
        · simp [hk] at hn
        · rfl
      simp only [offN, ho, Nat.succ_pos, decide_true, Bool.true_and, Nat.add_sub_cancel]
      rcases Nat.eq_zero_or_pos m with h | h
      · subst h; simp
      · have h3 : ((m : Int) == 0) = false := by rw [beq_eq_false_iff_ne]; omega
        simp only [keepB, h3] at hk
        revert hk
        simp only [decide_eq_true h, Bool.true_and, bne]
        cases (t.f (m - 1)).kind == 5 <;> cases (t.f m).kind == 5 <;> simp
theorem first_4 (t : TrV) : firstB (fun i => badP t 4 i (offN t i)) t.n = firstR t 4 := (first_4' t t.n).1
theorem first_6 (t : TrV) : firstB (fun i => badP t 6 i (offN t i)) t.n = none := by
  have : ∀ m, firstB (fun i => badP t 6 i (offN t i)) m = none := by
    intro m
    induction m with
    | zero => rfl
    | succ m ih => simp only [firstB, ih]; simp [badP]
  exact this _
/-- **The lowest rule and its first place: one answer.** -/
theorem trace_law (t : TrV) : lowF t.seen 6 1 = refF t 5 1 := by
  have key : ∀ r : Int, r ≠ 6 → assoc r t.seen = firstB (fun i => badP t r i (offN t i)) t.n := fun r hr => by
    unfold TrV.seen
    rw [assoc_put1, assoc_listN]
    have : (r == 6) = false := by rw [beq_eq_false_iff_ne]; exact hr
    rw [this]
    cases firstB (fun i => badP t r i (offN t i)) t.n <;> simp
  have k6 : assoc 6 t.seen = if (bif decide ((t.n : Int) > 0) then bad6 t else false) then some (t.n : Int) else none := by
    unfold TrV.seen
    rw [assoc_put1, assoc_listN, first_6]
    simp
  simp only [lowF, refF, Int.reduceAdd, key 1 (by decide), key 2 (by decide), key 3 (by decide), key 4 (by decide), key 5 (by decide), k6, first_1, first_2, first_3, first_4, first_5]
  cases firstR t 1 <;> cases firstR t 2 <;> cases firstR t 3 <;> cases firstR t 4 <;> cases firstR t 5 <;> simp only
  generalize (bif decide ((t.n : Int) > 0) then bad6 t else false) = b
  cases b <;> rfl
end Go.Anv
