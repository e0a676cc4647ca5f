/- Part 11 of the texts of this claim, merged: K9, K11, K12, K13, K14. No condition: plain theorems, contracts of functions. -/
import Derived.Test.YtdlpmbghocabbaaGreatDoorZ10

set_option linter.unusedSimpArgs false
set_option linter.unusedVariables false
/- Empty wholes are alike; what Load refuses; Load of any bytes, Save of what Load takes, as calls. Contracts of functions. -/
namespace Go.Anv
open Go
theorem loadOut_code (p : Nat → B8) (n : Nat) : (loadOut p n).1 = 0 ∨ (loadOut p n).1 = 160 ∨ (loadOut p n).1 = 161 ∨ (loadOut p n).1 = 162 := by
  unfold loadOut
  split
  · simp
  split
  · simp
  split
  · simp
  split
  · simp
  split <;> simp
end Go.Anv
namespace Go.Proofs.YtdlpmbghocabbaaGreatDoor
open Go Go.Anv
set_option maxRecDepth 100000 in
theorem buses_zero (h : List Blk) : Does TB 20 [.agg zbus, .agg zbus] h (fun v h' => v = .s (.bool true) ∧ h' = h) := by
  refine fnX_pure TB Tryz.func20 rfl (by decide) rfl _ rfl (fun O on => ?_) h
  refine (same_nil _).mono ?_
  rintro v h' ⟨rfl, rfl⟩
  repeat (refine need_intro (by first | exact fun h => h | exact fun _ => rfl | rfl | (simp; done) | fail) ?_)
  refine Does.ungd (b := [_, _]) ⟨⟨rfl, rfl⟩, ⟨rfl, rfl⟩, trivial⟩ ?_
  refine (same_nil _).mono ?_
  rintro v h' ⟨rfl, rfl⟩
  repeat (refine need_intro (by first | exact fun h => h | exact fun _ => rfl | rfl | (simp; done) | fail) ?_)
  refine Does.ungd (b := [_, _]) ⟨⟨rfl, rfl⟩, ⟨rfl, rfl⟩, trivial⟩ ?_
  refine (same_nil _).mono ?_
  rintro v h' ⟨rfl, rfl⟩
  repeat (refine need_intro (by first | exact fun h => h | exact fun _ => rfl | rfl | (simp; done) | fail) ?_)
  exact eqvE_refl _
set_option maxRecDepth 100000 in
theorem alike_zero (h : List Blk) : Does TB 21 [.agg zwhole, .agg zwhole] h (fun v h' => v = .s (.bool true) ∧ h' = h) := by
  refine fnX_pure TB Tryz.func21 rfl (by decide) rfl _ rfl (fun O on => ?_) h
  repeat (refine need_intro (by first | exact fun h => h | exact fun _ => rfl | rfl | (simp; done) | fail) ?_)
  refine Does.ungd (b := [.agg zbus, .agg zbus]) ⟨⟨rfl, rfl⟩, ⟨rfl, rfl⟩, trivial⟩ ?_
  refine (buses_zero _).mono ?_
  rintro v h' ⟨rfl, rfl⟩
  repeat (refine need_intro (by first | exact fun h => h | exact fun _ => rfl | rfl | (simp; done) | fail) ?_)
  exact (rfl : (_ : Bool) = true)
/-- Bytes that are no snapshot. -/
theorem load_no (m : Bool) (n c sp : Nat) (q : Nat → B8) (hnc : n ≤ c) (hn : n ≤ 2 ^ 50) (hz : (loadOut q n).1 ≠ 0) :
    Does TB 19 [.s (.gs 0 0 n c)] [bblk m n q sp] (fun v h' => v = .tuple [.agg zwhole, .s (.int .i64 ((loadOut q n).1 : Nat))] ∧ h' = [bblk m n q sp]) := by
  refine (load_spec m n c n sp (bfun q) q hnc (Nat.le_refl _) hn (fun _ _ => rfl)).mono ?_
  rintro v h' (⟨_, rfl, rfl⟩ | ⟨h, _⟩)
  · exact ⟨rfl, rfl⟩
  · exact absurd h hz
/-- Bytes that are one. -/
theorem load_yes (m : Bool) (n c sp : Nat) (q : Nat → B8) (hnc : n ≤ c) (hn : n ≤ 2 ^ 50) (hz : (loadOut q n).1 = 0) :
    Does TB 19 [.s (.gs 0 0 n c)] [bblk m n q sp] (fun v h' => ∃ cr ci co, ((loadW q n).nr ≤ cr ∧ (loadW q n).ni ≤ ci ∧ (loadW q n).no ≤ co) ∧ v = .tuple [.agg (wsegs (cpuR q (n - 4) startR) (loadW q n) (.gs 1 0 (loadW q n).nr cr) (.gs 2 0 (loadW q n).ni ci) (.gs 3 0 (loadW q n).no co)), .s (.int .i64 0)] ∧
      h' = [bblk m n q sp, bblk true (loadW q n).nr (loadOut q n).2 (cr - (loadW q n).nr), bblk true (loadW q n).ni (inR q (n - 4) startR) (ci - (loadW q n).ni), bblk true (loadW q n).no (outR q (n - 4) startR) (co - (loadW q n).no)]) := by
  refine (load_spec m n c n sp (bfun q) q hnc (Nat.le_refl _) hn (fun _ _ => rfl)).mono ?_
  rintro v h' (⟨h, _⟩ | ⟨_, cr, ci, co, h1, h2, h3⟩)
  · exact absurd hz h
  · exact ⟨cr, ci, co, h1, h2, h3⟩
/-- Two lists of the same bytes. -/
theorem same_yes (m1 m2 : Bool) (n c1 c2 s1 s2 : Nat) (q1 q2 : Nat → B8) (h : ∀ j, j < n → q1 j = q2 j) :
    Does TB 22 [.s (.gs 0 0 n c1), .s (.gs 1 0 n c2)] [bblk m1 n q1 s1, bblk m2 n q2 s2] (fun v h' => v = .s (.bool true) ∧ h' = [bblk m1 n q1 s1, bblk m2 n q2 s2]) :=
  same_spec m1 m2 0 0 n c1 c2 n n s1 s2 (bfun q1) (bfun q2) (by omega) (by omega) (fun j hj => by simp only [Nat.zero_add, bfun]; rw [h j hj])
end Go.Proofs.YtdlpmbghocabbaaGreatDoor

/- Are two buses the same? as the laws about snapshots ask. Contracts of functions. -/
namespace Go.Proofs.YtdlpmbghocabbaaGreatDoor
open Go Go.Anv
set_option maxRecDepth 100000 in
theorem same16_spec (m1 m2 : Bool) (n1 n2 c1 c2 s1 s2 : Nat) (p q : Nat → B8) :
    Does TB 22 [.s (.gs 0 0 n1 c1), .s (.gs 1 0 n2 c2)] [bblk m1 n1 p s1, bblk m2 n2 q s2] (fun v h' => v = .s (.bool (n1 == n2 && eqB n1 p q)) ∧ h' = [bblk m1 n1 p s1, bblk m2 n2 q s2]) := by
  refine fnX_does TB Tryz.func22 rfl (by decide) (fun O on hO => ?_)
  repeat (refine need_intro (by first | exact Nat.le_of_eq (Nat.zero_add _) | rfl | fail) ?_)
  refine Ends.ro (H := [bblk m1 n1 p s1, bblk m2 n2 q s2]) rfl ?_ rfl
  exact bytes_beq2 p q
set_option maxRecDepth 100000 in
set_option maxHeartbeats 1000000 in
theorem buses16_spec (s t : BusV) (l k : Lists) (c0 c1 c2 c3 c4 c5 : Nat) :
    Does TB 20 [.agg (s.segs (.gs 0 0 s.nr c0) (.gs 1 0 s.ni c1) (.gs 2 0 s.no c2)), .agg (t.segs (.gs 3 0 t.nr c3) (.gs 4 0 t.ni c4) (.gs 5 0 t.no c5))] (l.blks s ++ k.blks t) (fun v h' => v = .s (.bool (busS s t l k)) ∧ h' = l.blks s ++ k.blks t) := by
  refine fnX_does TB Tryz.func20 rfl (by decide) (fun O on hO => ?_)
  have fin : ∀ {x : Bool}, x = busS s t l k → ∀ {b e : Blk}, Anv.Ends 6 (fun v h' => v = .s (.bool (busS s t l k)) ∧ h' = l.blks s ++ k.blks t) (.s (.bool x)) (l.blks s ++ k.blks t ++ [b, e]) := by
    rintro x rfl b e
    exact Ends.ro (H := l.blks s ++ k.blks t) rfl rfl rfl
  have e1 := same16_spec l.mr k.mr s.nr t.nr c0 c3 l.sr k.sr l.ram k.ram
  have e2 := same16_spec l.mi k.mi s.ni t.ni c1 c4 l.si k.si l.inp k.inp
  have e3 := same16_spec l.mo k.mo s.no t.no c2 c5 l.so k.so l.out k.out
  cases h1 : (s.nr == t.nr && eqB s.nr l.ram k.ram) with
  | false =>
    rw [h1] at e1
    refine Does.atc (e1) [0, 3] rfl ⟨rfl, rfl, trivial⟩ (by decide) ?_
    repeat (refine need_intro (by first | exact fun h => h | exact nt | exact an2 | exact an3 | rfl | (simp; done) | fail) ?_)
    refine fin ?_
    unfold busS; rw [h1]; rfl
  | true =>
    rw [h1] at e1
    refine Does.atc (e1) [0, 3] rfl ⟨rfl, rfl, trivial⟩ (by decide) ?_
    repeat (refine need_intro (by first | exact fun h => h | exact nt | exact an2 | exact an3 | rfl | (simp; done) | fail) ?_)
    refine Does.ungd (b := [.s (.gs 1 0 s.ni c1), .s (.gs 4 0 t.ni c4)]) ⟨⟨by decide, rfl⟩, ⟨by decide, rfl⟩, trivial⟩ ?_
    cases h2 : (s.ni == t.ni && eqB s.ni l.inp k.inp) with
    | false =>
      rw [h2] at e2
      refine Does.atc (e2) [1, 4] rfl ⟨rfl, rfl, trivial⟩ (by decide) ?_
      repeat (refine need_intro (by first | exact fun h => h | exact nt | exact an2 | exact an3 | rfl | (simp; done) | fail) ?_)
      refine fin ?_
      unfold busS devS; rw [h2, h1]; rfl
    | true =>
      rw [h2] at e2
      refine Does.atc (e2) [1, 4] rfl ⟨rfl, rfl, trivial⟩ (by decide) ?_
      repeat (refine need_intro (by first | exact fun h => h | exact nt | exact an2 | exact an3 | rfl | (simp; done) | fail) ?_)
      refine Does.ungd (b := [.s (.gs 2 0 s.no c2), .s (.gs 5 0 t.no c5)]) ⟨⟨by decide, rfl⟩, ⟨by decide, rfl⟩, trivial⟩ ?_
      cases h3 : (s.no == t.no && eqB s.no l.out k.out) with
      | false =>
        rw [h3] at e3
        refine Does.atc (e3) [2, 5] rfl ⟨rfl, rfl, trivial⟩ (by decide) ?_
        repeat (refine need_intro (by first | exact fun h => h | exact nt | exact an2 | exact an3 | rfl | (simp; done) | fail) ?_)
        refine fin ?_
        unfold busS devS; rw [h2, h1, h3]; rfl
      | true =>
        rw [h3] at e3
        refine Does.atc (e3) [2, 5] rfl ⟨rfl, rfl, trivial⟩ (by decide) ?_
        repeat (refine need_intro (by first | exact fun h => h | exact nt | exact an2 | exact an3 | rfl | (simp; done) | fail) ?_)
        refine ifB_intro (fun g1 => ?_) (fun g1 => ?_)
        · refine fin ?_
          simp only [cond_or, bne, beq_nat, Bool.or_eq_true, Bool.not_eq_true'] at g1
          unfold busS devS
          rw [h1, h2, h3]
          rcases g1 with ((((h | h) | h) | h) | h) | h <;> simp [h]
        · repeat (refine need_intro (by first | exact fun h => h | exact nt | exact an2 | exact an3 | rfl | (simp; done) | fail) ?_)
          refine fin ?_
          simp only [cond_or, bne, beq_nat, Bool.or_eq_false_iff, Bool.not_eq_false'] at g1
          obtain ⟨⟨⟨⟨⟨a1, a2⟩, a3⟩, a4⟩, a5⟩, a6⟩ := g1
          unfold busS devS
          rw [h1, h2, h3, a1, a2, a3, a4, a5, a6]
          simp only [cond_and, beq_nat, Bool.true_and, Bool.and_true]
end Go.Proofs.YtdlpmbghocabbaaGreatDoor

/- The law SaveApart. Plain theorems and the contract of a function. -/
namespace Go.Anv
open Go
theorem lst_congr {p q : Nat → B8} {n : Nat} (h : ∀ j, j < n → p j = q j) : lst p n = lst q n := by
  unfold lst
  exact List.map_congr_left fun j hj => h j (List.mem_range.1 hj)
theorem snap_congr {c d : CpuV} {s : BusV} {ram ram' inp inp' out out' : Nat → B8} (h : CpuSame c.proper d.proper) (hr : ∀ j, j < s.nr → ram j = ram' j) (hi : ∀ j, j < s.ni → inp j = inp' j) (ho : ∀ j, j < s.no → out j = out' j) :
    snap c s ram inp out = snap d s ram' inp' out' := by
  have hb : bodyL c s ram inp out = bodyL d s ram' inp' out' := by
    unfold bodyL devB
    rw [cpuB_congr h, lst_congr hi, lst_congr ho, pagesF_congr (q := ram') (fun j _ hj => hr j hj)]
  rw [snap_body, snap_body, hb]
/-- Snapshots are as different as what they are made of. -/
theorem snap_inj {c d : CpuV} {s t : BusV} {ram ram' inp inp' out out' : Nat → B8} (hs : s.can = true) (ht : t.can = true) (h : snap c s ram inp out = snap d t ram' inp' out') :
    CpuSame c.proper d.proper ∧ s = t ∧ (∀ j, j < s.nr → ram j = ram' j) ∧ (∀ j, j < s.ni → inp j = inp' j) ∧ ∀ j, j < s.no → out j = out' j := by
  have P : ∀ S : List B8, Has (fun j => S.getD j 0#8) 0 S := fun S j hj => by rw [Nat.zero_add]
  obtain ⟨_, _, ⟨m1, a3, a4⟩, a5, a6, a7, a8, _⟩ := snap_load c s ram inp out hs (fun j => (snap c s ram inp out).getD j 0#8) _ rfl (P _)
  obtain ⟨_, _, ⟨m2, b3, b4⟩, b5, b6, b7, b8, _⟩ := snap_load d t ram' inp' out' ht (fun j => (snap d t ram' inp' out').getD j 0#8) _ rfl (P _)
  rw [h] at a3 a5 a6 a7 a8
  have e : s = t := a6.symm.trans b6
  subst e
  have em : m1 = m2 := by have := a3.symm.trans b3; cases this; rfl
  subst em
  exact ⟨a5.symm.trans b5, rfl, fun j hj => (a4 j hj).symm.trans (b4 j hj), fun j hj => (a7 j hj).symm.trans (b7 j hj), fun j hj => (a8 j hj).symm.trans (b8 j hj)⟩
theorem eqB_iff {n : Nat} {p q : Nat → B8} : eqB n p q = true ↔ ∀ j, j < n → p j = q j := by
  unfold eqB
  simp [List.all_eq_true]
theorem lists_eq {A B : List B8} : (A.length == B.length && eqB A.length (fun j => A.getD j 0#8) (fun j => B.getD j 0#8)) = true ↔ A = B := by
  rw [Bool.and_eq_true, beq_iff_eq, eqB_iff]
  constructor
  · rintro ⟨h1, h2⟩
    apply List.ext_getElem h1
    intro j h3 h4
    have := h2 j h3
    simpa [List.getD_eq_getElem?_getD, h3, h4] using this
  · rintro rfl
    exact ⟨rfl, fun _ _ => rfl⟩
/-- The question of the law. -/
theorem apart_iff {c d : CpuV} {s t : BusV} {l k : Lists} (hs : s.can = true) (ht : t.can = true) :
    ((snap c s l.ram l.inp l.out).length == (snap d t k.ram k.inp k.out).length && eqB (snap c s l.ram l.inp l.out).length (fun j => (snap c s l.ram l.inp l.out).getD j 0#8) (fun j => (snap d t k.ram k.inp k.out).getD j 0#8)) = (cpuS c.proper d.proper && busS s t l k) := by
  rw [Bool.eq_iff_iff, lists_eq, Bool.and_eq_true]
  constructor
  · intro h
    obtain ⟨h1, rfl, h2, h3, h4⟩ := snap_inj hs ht h
    refine ⟨(cpu_eq _ _).2 h1, ?_⟩
    unfold busS devS
    rw [eqB_iff.2 h2, eqB_iff.2 h3, eqB_iff.2 h4]
    simp
  · rintro ⟨h1, h2⟩
    have h1 := (cpu_eq _ _).1 h1
    unfold busS devS at h2
    simp only [Bool.and_eq_true, beq_iff_eq, eqB_iff] at h2
    obtain ⟨⟨a1, a2⟩, ⟨⟨⟨⟨⟨⟨⟨⟨⟨⟨⟨⟨⟨⟨a3, a4⟩, a5, a6⟩, a7⟩, a8⟩, a9⟩, a10⟩, a11⟩, a12⟩, a13⟩, a14⟩, a15⟩, a16⟩, a17⟩, a18⟩⟩ := h2
    have e : s = t := by
      cases s; cases t
      simp only at *
      subst a1 a3 a5 a7 a8 a9 a10 a11 a12 a13 a14 a15 a16 a17 a18
      rfl
    subst e
    exact snap_congr h1 a2 a4 a6
end Go.Anv
namespace Go.Proofs.YtdlpmbghocabbaaGreatDoor
open Go Go.Anv
set_option maxRecDepth 100000 in
set_option maxHeartbeats 4000000 in
theorem saveApart_law (c d : CpuV) (s t : BusV) (l k : Lists) (r0 i0 o0 r1 i1 o1 : Nat) (a1 : s.nr ≤ 140737488351232) (a2 : s.ni ≤ 140737488351232) (a3 : s.no ≤ 140737488351232) (b1 : t.nr ≤ 140737488351232) (b2 : t.ni ≤ 140737488351232) (b3 : t.no ≤ 140737488351232) :
    Does TB 7 [.agg (wsegs c s (.gs 0 0 s.nr r0) (.gs 1 0 s.ni i0) (.gs 2 0 s.no o0)), .agg (wsegs d t (.gs 3 0 t.nr r1) (.gs 4 0 t.ni i1) (.gs 5 0 t.no o1))] (l.blks s ++ k.blks t) (fun v h' => v = .s (.bool true) ∧ h' = l.blks s ++ k.blks t) := by
  refine fnX_does TB Tryz.func7 rfl (by decide) (fun O on hO => ?_)
  refine Does.atc first0 [] rfl trivial (by decide) ?_
  repeat (refine need_intro (by first | exact fun h => h | exact nt | exact an2 | exact an3 | rfl | (simp; done) | fail) ?_)
  have ca := can16_spec c s l r0 i0 o0 (by omega) (by omega) (by omega)
  have cb := can16_spec d t k r1 i1 o1 (by omega) (by omega) (by omega)
  cases hs : s.can with
  | false =>
    rw [hs] at ca
    refine Does.atc (ca) [0, 1, 2] rfl ⟨rfl, rfl, rfl, trivial⟩ (by decide) ?_
    repeat (refine need_intro (by first | exact fun h => h | exact nt | exact an2 | exact an3 | rfl | (simp; done) | fail) ?_)
    exact Ends.ro (H := l.blks s ++ k.blks t) rfl rfl rfl
  | true =>
    rw [hs] at ca
    refine Does.atc (ca) [0, 1, 2] rfl ⟨rfl, rfl, rfl, trivial⟩ (by decide) ?_
    repeat (refine need_intro (by first | exact fun h => h | exact nt | exact an2 | exact an3 | rfl | (simp; done) | fail) ?_)
    refine Does.ungd (b := [.agg (wsegs d t (.gs 3 0 t.nr r1) (.gs 4 0 t.ni i1) (.gs 5 0 t.no o1))]) ⟨⟨by decide, rfl⟩, trivial⟩ ?_
    cases ht : t.can with
    | false =>
      rw [ht] at cb
      refine Does.atc (cb) [3, 4, 5] rfl ⟨rfl, rfl, rfl, trivial⟩ (by decide) ?_
      repeat (refine need_intro (by first | exact fun h => h | exact nt | exact an2 | exact an3 | rfl | (simp; done) | fail) ?_)
      exact Ends.ro (H := l.blks s ++ k.blks t) rfl rfl rfl
    | true =>
      rw [ht] at cb
      refine Does.atc (cb) [3, 4, 5] rfl ⟨rfl, rfl, rfl, trivial⟩ (by decide) ?_
      repeat (refine need_intro (by first | exact fun h => h | exact nt | exact an2 | exact an3 | rfl | (simp; done) | fail) ?_)
      have key := apart_iff (c := c) (d := d) (l := l) (k := k) hs ht
      have L1 := snap_bounds c s l.ram l.inp l.out hs
      have L2 := snap_bounds d t k.ram k.inp k.out ht
      have sv1 := fun a b e r i o => save_yes c s l.ram l.inp l.out a b e r i o
      have sv2 := fun a b e r i o => save_yes d t k.ram k.inp k.out a b e r i o
      generalize snap c s l.ram l.inp l.out = S1 at key sv1 L1
      generalize snap d t k.ram k.inp k.out = S2 at key sv2 L2
      refine Does.atn (twin_spec c s l r0 i0 o0 (by omega) (by omega) (by omega)) [0, 1, 2] rfl ⟨rfl, rfl, rfl, trivial⟩ (by decide) ?_ ?_
      · rintro v h' ⟨_, _, _, _, _, _, _, rfl⟩
        exact ⟨.inr (.inr rfl), .inr (.inr rfl), .inr (.inr rfl), .inl rfl, .inl rfl, .inl rfl, trivial⟩
      rintro v h' ⟨c3, c4, c5, k3, k4, k5, rfl, rfl⟩
      refine Does.atn (sv1 _ _ _ c3 c4 c5 k3 hs) [8, 9, 10] rfl ⟨rfl, rfl, rfl, trivial⟩ (by decide) ?_ ?_
      · rintro v h' ⟨_, _, _, rfl⟩
        exact ⟨.inl rfl, .inl rfl, .inl rfl, .inl rfl, trivial⟩
      rintro v h' ⟨c', hc', rfl, rfl⟩
      repeat (refine need_intro (by first | exact fun h => h | exact nt | exact an2 | exact an3 | rfl | (simp; done) | fail) ?_)
      refine Does.atn (twin_spec d t k r1 i1 o1 (by omega) (by omega) (by omega)) [3, 4, 5] rfl ⟨rfl, rfl, rfl, trivial⟩ (by decide) ?_ ?_
      · rintro v h' ⟨_, _, _, _, _, _, _, rfl⟩
        exact ⟨.inr (.inr rfl), .inr (.inr rfl), .inr (.inr rfl), .inl rfl, .inl rfl, .inl rfl, trivial⟩
      rintro v h' ⟨c6, c7, c8, k6, k7, k8, rfl, rfl⟩
      refine Does.atn (sv2 _ _ _ c6 c7 c8 k6 ht) [12, 13, 14] rfl ⟨rfl, rfl, rfl, trivial⟩ (by decide) ?_ ?_
      · rintro v h' ⟨_, _, _, rfl⟩
        exact ⟨.inl rfl, .inl rfl, .inl rfl, .inl rfl, trivial⟩
      rintro v h' ⟨c'', hc'', rfl, rfl⟩
      repeat (refine need_intro (by first | exact fun h => h | exact nt | exact an2 | exact an3 | rfl | (simp; done) | fail) ?_)
      have fin : ∀ {x y : Bool} {H : List Blk}, x = y → Anv.Ends (l.blks s ++ k.blks t).length (fun v h' => v = .s (.bool true) ∧ h' = l.blks s ++ k.blks t) (.s (.bool (x == y))) (l.blks s ++ k.blks t ++ H) := by
        rintro x _ H rfl
        exact Ends.ro (H := l.blks s ++ k.blks t) rfl (by show (x == x) = true; cases x <;> rfl) rfl
      refine draw_held on rfl (fun _ _ h => h) ?_
      refine (proper_spec c _).mono ?_
      rintro _ _ ⟨rfl, rfl⟩
      repeat (refine need_intro (by first | exact fun h => h | exact nt | exact an2 | exact an3 | rfl | (simp; done) | fail) ?_)
      refine (proper_spec d _).mono ?_
      rintro _ _ ⟨rfl, rfl⟩
      repeat (refine need_intro (by first | exact fun h => h | exact nt | exact an2 | exact an3 | rfl | (simp; done) | fail) ?_)
      refine ifB_intro (fun g => ?_) (fun g => ?_)
      · refine Does.ungd (b := [.agg (s.segs (.gs 0 0 s.nr r0) (.gs 1 0 s.ni i0) (.gs 2 0 s.no o0)), .agg (t.segs (.gs 3 0 t.nr r1) (.gs 4 0 t.ni i1) (.gs 5 0 t.no o1))]) ⟨⟨g, rfl⟩, ⟨g, rfl⟩, trivial⟩ ?_
        refine Does.atc (buses16_spec s t l k r0 i0 o0 r1 i1 o1) [0, 1, 2, 3, 4, 5] rfl ⟨rfl, rfl, rfl, rfl, rfl, rfl, trivial⟩ (by decide) ?_
        repeat (refine need_intro (by first | exact fun h => h | exact nt | exact an2 | exact an3 | rfl | (simp; done) | fail) ?_)
        refine (num16_spec 0 _).mono ?_
        rintro _ _ ⟨rfl, rfl⟩
        repeat (refine need_intro (by first | exact fun h => h | exact nt | exact an2 | exact an3 | rfl | (simp; done) | fail) ?_)
        refine Does.ungd (b := [.s (.int .i64 0)]) ⟨⟨by decide, rfl⟩, trivial⟩ ?_
        refine (num16_spec 0 _).mono ?_
        rintro _ _ ⟨rfl, rfl⟩
        repeat (refine need_intro (by first | exact fun h => h | exact nt | exact an2 | exact an3 | rfl | (simp; done) | fail) ?_)
        refine Does.ungd (b := [.s (.gs 11 0 S1.length c'), .s (.gs 15 0 S2.length c'')]) ⟨⟨by decide, rfl⟩, ⟨by decide, rfl⟩, trivial⟩ ?_
        refine Does.atc (same16_spec true true S1.length S2.length c' c'' (c' - S1.length) (c'' - S2.length) (fun j => S1.getD j 0#8) (fun j => S2.getD j 0#8)) [11, 15] rfl ⟨rfl, rfl, trivial⟩ (by decide) ?_
        repeat (refine need_intro (by first | exact fun h => h | exact nt | exact an2 | exact an3 | rfl | (simp; done) | fail) ?_)
        exact fin (key.trans (cond_and (cpuS c.proper d.proper) (busS s t l k)).symm)
      · repeat (refine need_intro (by first | exact g | exact fun h => h | exact nt | exact an2 | exact an3 | rfl | (simp; done) | fail) ?_)
        refine (num16_spec 0 _).mono ?_
        rintro _ _ ⟨rfl, rfl⟩
        repeat (refine need_intro (by first | exact fun h => h | exact nt | exact an2 | exact an3 | rfl | (simp; done) | fail) ?_)
        refine Does.ungd (b := [.s (.int .i64 0)]) ⟨⟨by decide, rfl⟩, trivial⟩ ?_
        refine (num16_spec 0 _).mono ?_
        rintro _ _ ⟨rfl, rfl⟩
        repeat (refine need_intro (by first | exact fun h => h | exact nt | exact an2 | exact an3 | rfl | (simp; done) | fail) ?_)
        refine Does.ungd (b := [.s (.gs 11 0 S1.length c'), .s (.gs 15 0 S2.length c'')]) ⟨⟨by decide, rfl⟩, ⟨by decide, rfl⟩, trivial⟩ ?_
        refine Does.atc (same16_spec true true S1.length S2.length c' c'' (c' - S1.length) (c'' - S2.length) (fun j => S1.getD j 0#8) (fun j => S2.getD j 0#8)) [11, 15] rfl ⟨rfl, rfl, trivial⟩ (by decide) ?_
        repeat (refine need_intro (by first | exact fun h => h | exact nt | exact an2 | exact an3 | rfl | (simp; done) | fail) ?_)
        refine fin (y := false) (key.trans ?_)
        rw [show cpuS c.proper d.proper = false from g]
        rfl
end Go.Proofs.YtdlpmbghocabbaaGreatDoor

/- Bits turned within 32 side by side: what is left of a snapshot is none. Plain theorems. -/
namespace Go.Anv
open Go
def flipB (p : Nat → B8) (i j : Nat) : B8 := if j = i / 8 then p j ^^^ (1#8 <<< (i % 8)) else p j
def onT (pat : B32) (a n k : Nat) : Bool := pat.getLsbD k && decide (a + k < 8 * n)
/-- Behind so many rounds: the bytes; how many were turned. -/
def turns (pat : B32) (a n : Nat) (p : Nat → B8) : Nat → (Nat → B8)
  | 0 => p
  | k + 1 => if onT pat a n k = true then flipB (turns pat a n p k) (a + k) else turns pat a n p k
def cntT (pat : B32) (a n : Nat) : Nat → Nat
  | 0 => 0
  | k + 1 => if onT pat a n k = true then cntT pat a n k + 1 else cntT pat a n k
theorem cntT_le (pat : B32) (a n : Nat) : ∀ k, cntT pat a n k ≤ k
  | 0 => Nat.le_refl _
  | k + 1 => by unfold cntT; have := cntT_le pat a n k; split <;> omega
theorem turns_none {pat : B32} {a n : Nat} (p : Nat → B8) : ∀ {k}, cntT pat a n k = 0 → turns pat a n p k = p
  | 0, _ => rfl
  | k + 1, h => by
    unfold cntT at h
    unfold turns
    split at h
    · omega
    · rename_i g; rw [if_neg g]; exact turns_none p h
theorem first_on {pat : B32} {a n : Nat} : ∀ {k}, cntT pat a n k ≠ 0 → ∃ i, i < k ∧ onT pat a n i = true ∧ ∀ j, j < i → onT pat a n j = false
  | 0, h => absurd rfl h
  | k + 1, h => by
    by_cases hk : cntT pat a n k = 0
    · unfold cntT at h
      split at h
      · rename_i g
        refine ⟨k, by omega, g, fun j hj => ?_⟩
        have none : ∀ m, cntT pat a n m = 0 → ∀ j, j < m → onT pat a n j = false := by
          intro m
          induction m with
          | zero => intro _ j hj; omega
          | succ m ih =>
            intro h j hj
            unfold cntT at h
            split at h
            · omega
            · rename_i g
              by_cases e : j = m
              · subst e; simpa using g
              · exact ih h j (by omega)
        exact none k hk j hj
      · exact absurd hk h
    · obtain ⟨i, h1, h2, h3⟩ := first_on hk
      exact ⟨i, by omega, h2, h3⟩
theorem one_bit (x y : Nat) (hx : x < 8) (hy : y < 8) : ((1#8 : B8) <<< x).getLsbD y = decide (y = x) := by
  have : ∀ x y : Fin 8, ((1#8 : B8) <<< x.val).getLsbD y.val = decide (y.val = x.val) := by decide
  exact this ⟨x, hx⟩ ⟨y, hy⟩
theorem diff_turn (p q : Nat → B8) (c i : Nat) : diff p (flipB q c) i = (diff p q i != decide (i = c)) := by
  unfold diff flipB
  by_cases h : i / 8 = c / 8
  · rw [if_pos h, BitVec.getLsbD_xor, BitVec.getLsbD_xor, BitVec.getLsbD_xor, one_bit _ _ (Nat.mod_lt _ (by decide)) (Nat.mod_lt _ (by decide))]
    have : decide (i % 8 = c % 8) = decide (i = c) := decide_eq_decide.2 (by omega)
    rw [this]
    cases (p (i / 8)).getLsbD (i % 8) <;> cases (q (i / 8)).getLsbD (i % 8) <;> cases decide (i = c) <;> rfl
  · rw [if_neg h, decide_eq_false (p := i = c) (by rintro rfl; exact h rfl)]
    simp
theorem turns_diff (pat : B32) (a n : Nat) (p : Nat → B8) : ∀ k i, diff p (turns pat a n p k) i = (decide (a ≤ i ∧ i < a + k) && onT pat a n (i - a))
  | 0, i => by
    rw [decide_eq_false (by omega)]
    simp [turns, diff]
  | k + 1, i => by
    unfold turns
    by_cases g : onT pat a n k = true
    · rw [if_pos g, diff_turn, turns_diff pat a n p k i]
      by_cases e : i = a + k
      · subst e
        rw [decide_eq_true (p := a + k = a + k) rfl, decide_eq_false (p := a ≤ a + k ∧ a + k < a + k) (by omega), decide_eq_true (p := a ≤ a + k ∧ a + k < a + (k + 1)) (by omega), Nat.add_sub_cancel_left, g]
        rfl
      · rw [decide_eq_false (p := i = a + k) e]
        have : decide (a ≤ i ∧ i < a + k) = decide (a ≤ i ∧ i < a + (k + 1)) := decide_eq_decide.2 (by omega)
        rw [this]
        simp
    · rw [if_neg g, turns_diff pat a n p k i]
      by_cases e : i = a + k
      · subst e
        rw [decide_eq_false (p := a ≤ a + k ∧ a + k < a + k) (by omega), Nat.add_sub_cancel_left]
        have g : onT pat a n k = false := by simpa using g
        rw [g]
        simp
      · have : decide (a ≤ i ∧ i < a + k) = decide (a ≤ i ∧ i < a + (k + 1)) := decide_eq_decide.2 (by omega)
        rw [this]
theorem load_sum {q : Nat → B8} {n : Nat} (h : (loadOut q n).1 = 0) : foot q (n - 4) = ~~~ crcN q (n - 4) := by
  unfold loadOut at h
  split at h
  · cases h
  split at h
  · cases h
  · rename_i h1; exact Classical.not_not.1 h1
/-- A snapshot with a bit turned is none. -/
theorem told {pat : B32} {a n : Nat} {p : Nat → B8} (hn : 4 ≤ n) (hp : foot p (n - 4) = ~~~ crcN p (n - 4)) (h : cntT pat a n 32 ≠ 0) : (loadOut (turns pat a n p 32) n).1 ≠ 0 := by
  intro hz
  obtain ⟨i, h1, h2, h3⟩ := first_on h
  have hon : a + i < 8 * n := by
    unfold onT at h2
    rw [Bool.and_eq_true, decide_eq_true_eq] at h2
    exact h2.2
  refine burst p (turns pat a n p 32) (n - 4) (a + i) hp (by omega) ?_ ?_ ?_ (load_sum hz)
  · rw [turns_diff, decide_eq_true (by omega), Nat.add_sub_cancel_left, h2]; rfl
  · intro j hj
    rw [turns_diff]
    by_cases e : a ≤ j
    · rw [h3 (j - a) (by omega), Bool.and_false]
    · rw [decide_eq_false (by omega)]; rfl
  · intro j hj _
    rw [turns_diff, decide_eq_false (by omega)]; rfl
theorem pat_bit (pat : B32) (m : Nat) : (bitX .and .u32 ((pat.toNat : Int).fdiv (2 ^ m)) 1 == 1) = pat.getLsbD m := by
  rw [fdiv_pow, and_u32, ofInt_toNat, Bool.eq_iff_iff]
  refine (Bool.eq_iff_iff.1 (beq_nat (pat >>> m &&& 1#32) 1#32)).trans ?_
  rw [beq_iff_eq]
  constructor
  · intro h
    have := congrArg (fun z : B32 => z.getLsbD 0) h
    simpa using this
  · intro h
    apply BitVec.eq_of_getLsbD_eq
    intro j hj
    rw [BitVec.getLsbD_and, BitVec.getLsbD_ushiftRight]
    have h1 : ∀ j, j < 32 → (1#32 : B32).getLsbD j = decide (j = 0) := by decide
    rw [h1 j hj]
    by_cases e : j = 0
    · subst e; simpa using h
    · simp [e]
end Go.Anv

/- The law SaveTold. Contract of a function. -/
namespace Go.Proofs.YtdlpmbghocabbaaGreatDoor
open Go Go.Anv
set_option maxRecDepth 100000 in
set_option maxHeartbeats 4000000 in
theorem saveTold_law (cp : CpuV) (s : BusV) (l : Lists) (cr ci co : Nat) (at_ : Int) (pat : B32) (ha : -9223372036854775808 ≤ at_ ∧ at_ ≤ 9223372036854775807) (hnr : s.nr ≤ 140737488351232) (hni : s.ni ≤ 140737488351232) (hno : s.no ≤ 140737488351232) :
    Does TB 6 [.agg (wsegs cp s (.gs 0 0 s.nr cr) (.gs 1 0 s.ni ci) (.gs 2 0 s.no co)), .s (.int .i64 at_), .s (.int .u32 pat.toNat)] (l.blks s) (fun v h' => v = .s (.bool true) ∧ h' = l.blks s) := by
  refine fnX_does TB Tryz.func6 rfl (by decide) (fun O on hO => ?_)
  refine Does.atc first0 [] rfl trivial (by decide) ?_
  repeat (refine need_intro (by first | exact fun h => h | exact nt | exact an2 | exact an3 | rfl | (simp; done) | fail) ?_)
  have hcan := can16_spec cp s l cr ci co (by omega) (by omega) (by omega)
  cases hs : s.can with
  | false =>
    rw [hs] at hcan
    refine Does.atc (hcan) [0, 1, 2] rfl ⟨rfl, rfl, rfl, trivial⟩ (by decide) ?_
    repeat (refine need_intro (by first | exact fun h => h | exact nt | exact an2 | exact an3 | rfl | (simp; done) | fail) ?_)
    exact Ends.ro (H := l.blks s) rfl rfl rfl
  | true =>
    rw [hs] at hcan
    refine Does.atc (hcan) [0, 1, 2] rfl ⟨rfl, rfl, rfl, trivial⟩ (by decide) ?_
    repeat (refine need_intro (by first | exact fun h => h | exact nt | exact an2 | exact an3 | rfl | (simp; done) | fail) ?_)
    have sv := fun a b e r i o => save_yes cp s l.ram l.inp l.out a b e r i o
    have hL := snap_bounds cp s l.ram l.inp l.out hs
    have ld := loadS cp s l.ram l.inp l.out hs
    have P : Has (fun j => (snap cp s l.ram l.inp l.out).getD j 0#8) 0 (snap cp s l.ram l.inp l.out) := fun j hj => by rw [Nat.zero_add]
    have hfoot := (snap_load cp s l.ram l.inp l.out hs (fun j => (snap cp s l.ram l.inp l.out).getD j 0#8) _ rfl P).2.2.2.2.2.2.2
    clear P
    generalize snap cp s l.ram l.inp l.out = S at sv hL ld hfoot
    refine Does.atn (twin_spec cp s l cr ci co (by omega) (by omega) (by omega)) [0, 1, 2] rfl ⟨rfl, rfl, rfl, trivial⟩ (by decide) ?_ ?_
    · rintro v h' ⟨c3, c4, c5, _, _, _, _, rfl⟩
      exact ⟨.inr (.inr rfl), .inr (.inr rfl), .inr (.inr rfl), .inl rfl, .inl rfl, .inl rfl, trivial⟩
    rintro v h' ⟨c3, c4, c5, k3, k4, k5, rfl, rfl⟩
    refine Does.atn (sv _ _ _ c3 c4 c5 k3 hs) [4, 5, 6] rfl ⟨rfl, rfl, rfl, trivial⟩ (by decide) ?_ ?_
    · rintro v h' ⟨_, _, _, rfl⟩
      exact ⟨.inl rfl, .inl rfl, .inl rfl, .inl rfl, trivial⟩
    rintro v h' ⟨c', hc, rfl, rfl⟩
    repeat (refine need_intro (by first | exact fun h => h | exact nt | exact an2 | exact an3 | rfl | (simp; done) | fail) ?_)
    refine (num16_spec 0 _).mono ?_
    rintro _ _ ⟨rfl, rfl⟩
    repeat (refine need_intro (by first | exact fun h => h | exact nt | exact an2 | exact an3 | rfl | (simp; done) | fail) ?_)
    have e1 : (bif (0 : Int) != 0 then true else decide ((S.length : Int) < 569)) = false := by
      rw [decide_eq_false (p := (S.length : Int) < 569) (by omega)]; rfl
    refine ifB_intro (fun h => absurd (h.symm.trans e1) (by decide)) (fun _ => ?_)
    have h8 : IntKind.i64.wrap (8 * (S.length : Int)) = ((8 * S.length : Nat) : Int) := by rw [i64_in (by omega) (by omega)]; omega
    have hmod : ∀ x : Int, 0 ≤ x → ∃ a : Nat, x.tmod (IntKind.i64.wrap (8 * (S.length : Int))) = (a : Int) ∧ a < 8 * S.length := by
      intro x hx
      rw [h8]
      have h1 := Int.tmod_nonneg ((8 * S.length : Nat) : Int) hx
      have h2 := Int.tmod_lt_of_pos x (show (0 : Int) < ((8 * S.length : Nat) : Int) by omega)
      exact ⟨(x.tmod ((8 * S.length : Nat) : Int)).toNat, by omega, by omega⟩
    have hn8 : IntKind.i64.wrap (8 * (S.length : Int)) ≠ 0 := by rw [h8]; omega
    refine ifB_intro (fun g => ?_) (fun g => ?_)
    rotate_left 1
    · obtain ⟨a, hX, hal⟩ := hmod at_ (by have := of_decide_eq_false g; omega)
      refine need_intro hn8 ?_
      refine loop_by (A := Nat) on (fun k => [(1, .s (.int .i64 (a : Int))), (9, .s (.int .i64 (cntT pat a S.length k : Nat))), (10, .s (.int .i64 (k : Int)))])
        (fun k => [bblk l.mr s.nr l.ram l.sr, bblk l.mi s.ni l.inp l.si, bblk l.mo s.no l.out l.so, .cells true (wsegs cp s (.gs 0 0 s.nr cr) (.gs 1 0 s.ni ci) (.gs 2 0 s.no co)) 0, bblk true s.nr l.ram (c3 - s.nr), bblk true s.ni l.inp (c4 - s.ni), bblk true s.no l.out (c5 - s.no), bblk true S.length (turns pat a S.length (fun j => S.getD j 0#8) k) (c' - S.length)]) (fun k => k ≤ 32) (fun k => 32 - k) 0 (by omega) ?_ ?_
      · refine ⟨?_, ?_⟩
        · repeat' (first | exact eqvT_nil | refine eqvT_junk ?_ | refine eqvT_same ?_ | refine eqvT_int hX ?_ | refine eqvT_int rfl ?_)
        · exact ⟨eqvB_refl _, eqvB_refl _, eqvB_refl _, eqvB_refl _, eqvB_refl _, eqvB_refl _, eqvB_refl _, eqvB_refl _, trivial⟩
      intro k hk
      have hu : IntKind.u64.wrap (k : Int) = (k : Int) := wnat (by omega)
      have hak : IntKind.i64.wrap ((a : Int) + (k : Int)) = ((a + k : Nat) : Int) := by rw [i64_in (by omega) (by omega)]; omega
      have hq : IntKind.i64.wrap ((IntKind.i64.wrap ((a : Int) + (k : Int))).tdiv 8) = (((a + k) / 8 : Nat) : Int) := by
        rw [hak, Int.tdiv_eq_ediv_of_nonneg (by omega), i64_in (by omega) (by omega)]; omega
      have hr : IntKind.u64.wrap ((IntKind.i64.wrap ((a : Int) + (k : Int))).tmod 8) = (((a + k) % 8 : Nat) : Int) := by
        rw [hak, Int.tmod_eq_emod_of_nonneg (by omega), show (((a + k : Nat) : Int) % 8) = (((a + k) % 8 : Nat) : Int) by omega, wnat (by omega)]
      refine ifB_intro (fun h1 => ?_) (fun h1 => ?_)
      · have h1 : k < 32 := by have := of_decide_eq_true h1; omega
        have e2 : (bif bitX .and .u32 ((pat.toNat : Int).fdiv (2 ^ min (IntKind.u64.wrap (k : Int)).toNat IntKind.u32.bits)) 1 == 1 then decide (IntKind.i64.wrap ((a : Int) + (k : Int)) < IntKind.i64.wrap (8 * (S.length : Int))) else false) = onT pat a S.length k := by
          rw [cond_and, pat_bit, hak, h8, hu]
          unfold onT
          have hmin : min (k : Int).toNat IntKind.u32.bits = k := by show min k 32 = k; omega
          rw [hmin]
          congr 1
          exact decide_eq_decide.2 (by omega)
        refine need_intro (by rw [hu]; omega) ?_
        repeat (refine need_intro (by first | exact fun h => h | exact nt | exact an2 | exact an3 | rfl | (simp; done) | fail) ?_)
        refine ifB_intro (fun g2 => ?_) (fun g2 => ?_)
        · have g2 := e2.symm.trans g2
          have hb : a + k < 8 * S.length := by
            unfold onT at g2
            rw [Bool.and_eq_true, decide_eq_true_eq] at g2
            exact g2.2
          refine need_intro (by decide) ?_
          refine need_intro (by rw [hq]; omega) ?_
          refine need_intro (by rw [hq]; omega) ?_
          refine need_intro (by decide) ?_
          refine need_intro (by rw [hr]; omega) ?_
          refine need_intro (by rw [hq]; omega) ?_
          refine need_intro (by rw [hq]; omega) ?_
          refine ⟨k + 1, (by show k + 1 ≤ 32; omega), (by show 32 - (k + 1) < 32 - k; omega), ?_⟩
          have hcnt := cntT_le pat a S.length k
          refine ⟨?_, ?_⟩
          · repeat' (first | exact eqvT_nil | refine eqvT_junk ?_ | refine eqvT_same ?_ | refine eqvT_int ?_ ?_)
            · rw [i64_in (by omega) (by omega), cntT, if_pos g2]; omega
            · rw [i64_in (by omega) (by omega)]; omega
          · refine ⟨eqvB_refl _, eqvB_refl _, eqvB_refl _, eqvB_refl _, eqvB_refl _, eqvB_refl _, eqvB_refl _, ⟨rfl, rfl, ⟨rfl, rfl, fun j _ => ?_⟩, trivial⟩, trivial⟩
            show (if j = 0 + (IntKind.i64.wrap ((IntKind.i64.wrap ((a : Int) + (k : Int))).tdiv 8)).toNat then bitX .xor .u8 (bfun (turns pat a S.length (fun j => S.getD j 0#8) k) (0 + (IntKind.i64.wrap ((IntKind.i64.wrap ((a : Int) + (k : Int))).tdiv 8)).toNat)) (IntKind.u8.wrap (1 * 2 ^ min (IntKind.u64.wrap ((IntKind.i64.wrap ((a : Int) + (k : Int))).tmod 8)).toNat IntKind.u8.bits)) else bfun (turns pat a S.length (fun j => S.getD j 0#8) k) j) = bfun (turns pat a S.length (fun j => S.getD j 0#8) (k + 1)) j
            rw [turns, if_pos g2, hq, hr]
            have hz : 0 + (((a + k) / 8 : Nat) : Int).toNat = (a + k) / 8 := by rw [Int.toNat_natCast, Nat.zero_add]
            have hm : min (((a + k) % 8 : Nat) : Int).toNat IntKind.u8.bits = (a + k) % 8 := by show min ((a + k) % 8) 8 = _; omega
            rw [hz, hm]
            simp only [bfun, flipB]
            by_cases ej : j = (a + k) / 8
            · rw [if_pos ej, if_pos ej, ej, xor_u8, ofInt_toNat]
              have hw : BitVec.ofInt 8 (IntKind.u8.wrap (1 * 2 ^ ((a + k) % 8))) = 1#8 <<< ((a + k) % 8) := by
                rw [wrap_u8, ofInt_toNat]
                exact mul_pow (1#8) ((a + k) % 8)
              rw [hw]
            · rw [if_neg ej, if_neg ej]
        · have g2 := e2.symm.trans g2
          refine ⟨k + 1, (by show k + 1 ≤ 32; omega), (by show 32 - (k + 1) < 32 - k; omega), ?_⟩
          refine ⟨?_, ?_⟩
          · repeat' (first | exact eqvT_nil | refine eqvT_junk ?_ | refine eqvT_same ?_ | refine eqvT_int ?_ ?_)
            · rw [cntT, if_neg (by rw [g2]; decide)]
            · rw [i64_in (by omega) (by omega)]; omega
          · refine ⟨eqvB_refl _, eqvB_refl _, eqvB_refl _, eqvB_refl _, eqvB_refl _, eqvB_refl _, eqvB_refl _, ?_, trivial⟩
            rw [turns, if_neg (by rw [g2]; decide)]
            exact eqvB_refl _
      · have hk32 : k = 32 := by have := of_decide_eq_false h1; omega
        subst hk32
        by_cases hz : cntT pat a S.length 32 = 0
        · rw [hz, turns_none _ hz]
          refine Does.atn (ld c' hc) [7] rfl ⟨rfl, trivial⟩ (by decide) ?_ ?_
          · rintro v h' ⟨_, _, _, _, _, rfl⟩
            exact ⟨.inl rfl, .inl rfl, .inl rfl, .inl rfl, trivial⟩
          rintro v h' ⟨cr', ci', co', hb, rfl, rfl⟩
          repeat (refine need_intro (by first | exact fun h => h | exact nt | exact an2 | exact an3 | rfl | (simp; done) | fail) ?_)
          refine draw_to on ?tt1 ?_ ?_
          rotate_left 1
          · refine draw_held on rfl (fun _ _ h => h) ?_
            repeat' (first | refine need_intro (by first | exact fun h => h | exact nt | exact an2 | exact an3 | rfl | (simp; done) | fail) ?_ | refine And.intro ?_ ?_ | (refine (num16_spec 0 _).mono ?_; rintro _ _ ⟨rfl, rfl⟩) | (refine Does.ungd (b := [.agg cp.segs]) ⟨⟨rfl, rfl⟩, trivial⟩ ?_; refine (proper_spec cp _).mono ?_; rintro _ _ ⟨rfl, rfl⟩))
            all_goals (refine toK_id ?_; rw [hO]; exact Nat.le_of_ble_eq_true rfl)
          repeat (refine need_intro (by first | exact fun h => h | exact nt | exact an2 | exact an3 | rfl | (simp; done) | fail) ?_)
          refine Ends.ro (H := l.blks s) rfl ?_ rfl
          show (bif (0 : Int) == 0 then cpuEq cp.proper cp.proper else false) = true
          rw [cpuEq_refl]; rfl
        · have hnz := told (pat := pat) (a := a) (p := fun j => S.getD j 0#8) (by omega) hfoot hz
          have ln := load_no true S.length c' (c' - S.length) (turns pat a S.length (fun j => S.getD j 0#8) 32) (by omega) (by omega) hnz
          have hz0 : ((cntT pat a S.length 32 : Nat) : Int) ≠ 0 := by omega
          generalize cntT pat a S.length 32 = X at hz hz0
          generalize turns pat a S.length (fun j => S.getD j 0#8) 32 = q at ln hnz
          have hx : ((X : Int) == 0) = false := beq_false_of_ne hz0
          rcases loadOut_code q S.length with h | h | h | h
          · exact absurd h hnz
          all_goals
            rw [h] at ln
            refine Does.atc ln [7] rfl ⟨rfl, trivial⟩ (by decide) ?_
            repeat (refine need_intro (by first | exact fun h => h | exact nt | exact an2 | exact an3 | rfl | (simp; done) | fail) ?_)
            refine ifB_intro (fun h => absurd (h.symm.trans hx) (by decide)) (fun _ => ?_)
            repeat (refine need_intro (by first | exact fun h => h | exact nt | exact an2 | exact an3 | rfl | (simp; done) | fail) ?_)
            refine (num16_spec _ _).mono ?_
            rintro _ _ ⟨rfl, rfl⟩
            repeat (refine need_intro (by first | exact fun h => h | exact nt | exact an2 | exact an3 | rfl | (simp; done) | fail) ?_)
            refine Does.ungd (b := [.agg zwhole, .agg zwhole]) ⟨⟨rfl, rfl⟩, rfl, trivial⟩ ?_
            refine (alike_zero _).mono ?_
            rintro _ _ ⟨rfl, rfl⟩
            repeat (refine need_intro (by first | exact fun h => h | exact nt | exact an2 | exact an3 | rfl | (simp; done) | fail) ?_)
            exact Ends.ro (H := l.blks s) rfl rfl rfl
    · have hlt := of_decide_eq_true g
      have hA : IntKind.i64.wrap (at_ + 1) = at_ + 1 := i64_in (by omega) (by omega)
      have hB : IntKind.i64.wrap (0 - IntKind.i64.wrap (at_ + 1)) = 0 - (at_ + 1) := by rw [hA, i64_in (by omega) (by omega)]
      obtain ⟨a, hX, hal⟩ := hmod (IntKind.i64.wrap (0 - IntKind.i64.wrap (at_ + 1))) (by rw [hB]; omega)
      refine need_intro hn8 ?_
      refine loop_by (A := Nat) on (fun k => [(1, .s (.int .i64 (a : Int))), (9, .s (.int .i64 (cntT pat a S.length k : Nat))), (10, .s (.int .i64 (k : Int)))])
        (fun k => [bblk l.mr s.nr l.ram l.sr, bblk l.mi s.ni l.inp l.si, bblk l.mo s.no l.out l.so, .cells true (wsegs cp s (.gs 0 0 s.nr cr) (.gs 1 0 s.ni ci) (.gs 2 0 s.no co)) 0, bblk true s.nr l.ram (c3 - s.nr), bblk true s.ni l.inp (c4 - s.ni), bblk true s.no l.out (c5 - s.no), bblk true S.length (turns pat a S.length (fun j => S.getD j 0#8) k) (c' - S.length)]) (fun k => k ≤ 32) (fun k => 32 - k) 0 (by omega) ?_ ?_
      · refine ⟨?_, ?_⟩
        · repeat' (first | exact eqvT_nil | refine eqvT_junk ?_ | refine eqvT_same ?_ | refine eqvT_int hX ?_ | refine eqvT_int rfl ?_)
        · exact ⟨eqvB_refl _, eqvB_refl _, eqvB_refl _, eqvB_refl _, eqvB_refl _, eqvB_refl _, eqvB_refl _, eqvB_refl _, trivial⟩
      intro k hk
      have hu : IntKind.u64.wrap (k : Int) = (k : Int) := wnat (by omega)
      have hak : IntKind.i64.wrap ((a : Int) + (k : Int)) = ((a + k : Nat) : Int) := by rw [i64_in (by omega) (by omega)]; omega
      have hq : IntKind.i64.wrap ((IntKind.i64.wrap ((a : Int) + (k : Int))).tdiv 8) = (((a + k) / 8 : Nat) : Int) := by
        rw [hak, Int.tdiv_eq_ediv_of_nonneg (by omega), i64_in (by omega) (by omega)]; omega
      have hr : IntKind.u64.wrap ((IntKind.i64.wrap ((a : Int) + (k : Int))).tmod 8) = (((a + k) % 8 : Nat) : Int) := by
        rw [hak, Int.tmod_eq_emod_of_nonneg (by omega), show (((a + k : Nat) : Int) % 8) = (((a + k) % 8 : Nat) : Int) by omega, wnat (by omega)]
      refine ifB_intro (fun h1 => ?_) (fun h1 => ?_)
      · have h1 : k < 32 := by have := of_decide_eq_true h1; omega
        have e2 : (bif bitX .and .u32 ((pat.toNat : Int).fdiv (2 ^ min (IntKind.u64.wrap (k : Int)).toNat IntKind.u32.bits)) 1 == 1 then decide (IntKind.i64.wrap ((a : Int) + (k : Int)) < IntKind.i64.wrap (8 * (S.length : Int))) else false) = onT pat a S.length k := by
          rw [cond_and, pat_bit, hak, h8, hu]
          unfold onT
          have hmin : min (k : Int).toNat IntKind.u32.bits = k := by show min k 32 = k; omega
          rw [hmin]
          congr 1
          exact decide_eq_decide.2 (by omega)
        refine need_intro (by rw [hu]; omega) ?_
        repeat (refine need_intro (by first | exact fun h => h | exact nt | exact an2 | exact an3 | rfl | (simp; done) | fail) ?_)
        refine ifB_intro (fun g2 => ?_) (fun g2 => ?_)
        · have g2 := e2.symm.trans g2
          have hb : a + k < 8 * S.length := by
            unfold onT at g2
            rw [Bool.and_eq_true, decide_eq_true_eq] at g2
            exact g2.2
          refine need_intro (by decide) ?_
          refine need_intro (by rw [hq]; omega) ?_
          refine need_intro (by rw [hq]; omega) ?_
          refine need_intro (by decide) ?_
          refine need_intro (by rw [hr]; omega) ?_
          refine need_intro (by rw [hq]; omega) ?_
          refine need_intro (by rw [hq]; omega) ?_
          refine ⟨k + 1, (by show k + 1 ≤ 32; omega), (by show 32 - (k + 1) < 32 - k; omega), ?_⟩
          have hcnt := cntT_le pat a S.length k
          refine ⟨?_, ?_⟩
          · repeat' (first | exact eqvT_nil | refine eqvT_junk ?_ | refine eqvT_same ?_ | refine eqvT_int ?_ ?_)
            · rw [i64_in (by omega) (by omega), cntT, if_pos g2]; omega
            · rw [i64_in (by omega) (by omega)]; omega
          · refine ⟨eqvB_refl _, eqvB_refl _, eqvB_refl _, eqvB_refl _, eqvB_refl _, eqvB_refl _, eqvB_refl _, ⟨rfl, rfl, ⟨rfl, rfl, fun j _ => ?_⟩, trivial⟩, trivial⟩
            show (if j = 0 + (IntKind.i64.wrap ((IntKind.i64.wrap ((a : Int) + (k : Int))).tdiv 8)).toNat then bitX .xor .u8 (bfun (turns pat a S.length (fun j => S.getD j 0#8) k) (0 + (IntKind.i64.wrap ((IntKind.i64.wrap ((a : Int) + (k : Int))).tdiv 8)).toNat)) (IntKind.u8.wrap (1 * 2 ^ min (IntKind.u64.wrap ((IntKind.i64.wrap ((a : Int) + (k : Int))).tmod 8)).toNat IntKind.u8.bits)) else bfun (turns pat a S.length (fun j => S.getD j 0#8) k) j) = bfun (turns pat a S.length (fun j => S.getD j 0#8) (k + 1)) j
            rw [turns, if_pos g2, hq, hr]
            have hz : 0 + (((a + k) / 8 : Nat) : Int).toNat = (a + k) / 8 := by rw [Int.toNat_natCast, Nat.zero_add]
            have hm : min (((a + k) % 8 : Nat) : Int).toNat IntKind.u8.bits = (a + k) % 8 := by show min ((a + k) % 8) 8 = _; omega
            rw [hz, hm]
            simp only [bfun, flipB]
            by_cases ej : j = (a + k) / 8
            · rw [if_pos ej, if_pos ej, ej, xor_u8, ofInt_toNat]
              have hw : BitVec.ofInt 8 (IntKind.u8.wrap (1 * 2 ^ ((a + k) % 8))) = 1#8 <<< ((a + k) % 8) := by
                rw [wrap_u8, ofInt_toNat]
                exact mul_pow (1#8) ((a + k) % 8)
              rw [hw]
            · rw [if_neg ej, if_neg ej]
        · have g2 := e2.symm.trans g2
          refine ⟨k + 1, (by show k + 1 ≤ 32; omega), (by show 32 - (k + 1) < 32 - k; omega), ?_⟩
          refine ⟨?_, ?_⟩
          · repeat' (first | exact eqvT_nil | refine eqvT_junk ?_ | refine eqvT_same ?_ | refine eqvT_int ?_ ?_)
            · rw [cntT, if_neg (by rw [g2]; decide)]
            · rw [i64_in (by omega) (by omega)]; omega
          · refine ⟨eqvB_refl _, eqvB_refl _, eqvB_refl _, eqvB_refl _, eqvB_refl _, eqvB_refl _, eqvB_refl _, ?_, trivial⟩
            rw [turns, if_neg (by rw [g2]; decide)]
            exact eqvB_refl _
      · have hk32 : k = 32 := by have := of_decide_eq_false h1; omega
        subst hk32
        by_cases hz : cntT pat a S.length 32 = 0
        · rw [hz, turns_none _ hz]
          refine Does.atn (ld c' hc) [7] rfl ⟨rfl, trivial⟩ (by decide) ?_ ?_
          · rintro v h' ⟨_, _, _, _, _, rfl⟩
            exact ⟨.inl rfl, .inl rfl, .inl rfl, .inl rfl, trivial⟩
          rintro v h' ⟨cr', ci', co', hb, rfl, rfl⟩
          repeat (refine need_intro (by first | exact fun h => h | exact nt | exact an2 | exact an3 | rfl | (simp; done) | fail) ?_)
          refine draw_to on ?tt2 ?_ ?_
          rotate_left 1
          · refine draw_held on rfl (fun _ _ h => h) ?_
            repeat' (first | refine need_intro (by first | exact fun h => h | exact nt | exact an2 | exact an3 | rfl | (simp; done) | fail) ?_ | refine And.intro ?_ ?_ | (refine (num16_spec 0 _).mono ?_; rintro _ _ ⟨rfl, rfl⟩) | (refine Does.ungd (b := [.agg cp.segs]) ⟨⟨rfl, rfl⟩, trivial⟩ ?_; refine (proper_spec cp _).mono ?_; rintro _ _ ⟨rfl, rfl⟩))
            all_goals (refine toK_id ?_; rw [hO]; exact Nat.le_of_ble_eq_true rfl)
          repeat (refine need_intro (by first | exact fun h => h | exact nt | exact an2 | exact an3 | rfl | (simp; done) | fail) ?_)
          refine Ends.ro (H := l.blks s) rfl ?_ rfl
          show (bif (0 : Int) == 0 then cpuEq cp.proper cp.proper else false) = true
          rw [cpuEq_refl]; rfl
        · have hnz := told (pat := pat) (a := a) (p := fun j => S.getD j 0#8) (by omega) hfoot hz
          have ln := load_no true S.length c' (c' - S.length) (turns pat a S.length (fun j => S.getD j 0#8) 32) (by omega) (by omega) hnz
          have hz0 : ((cntT pat a S.length 32 : Nat) : Int) ≠ 0 := by omega
          generalize cntT pat a S.length 32 = X at hz hz0
          generalize turns pat a S.length (fun j => S.getD j 0#8) 32 = q at ln hnz
          have hx : ((X : Int) == 0) = false := beq_false_of_ne hz0
          rcases loadOut_code q S.length with h | h | h | h
          · exact absurd h hnz
          all_goals
            rw [h] at ln
            refine Does.atc ln [7] rfl ⟨rfl, trivial⟩ (by decide) ?_
            repeat (refine need_intro (by first | exact fun h => h | exact nt | exact an2 | exact an3 | rfl | (simp; done) | fail) ?_)
            refine ifB_intro (fun h => absurd (h.symm.trans hx) (by decide)) (fun _ => ?_)
            repeat (refine need_intro (by first | exact fun h => h | exact nt | exact an2 | exact an3 | rfl | (simp; done) | fail) ?_)
            refine (num16_spec _ _).mono ?_
            rintro _ _ ⟨rfl, rfl⟩
            repeat (refine need_intro (by first | exact fun h => h | exact nt | exact an2 | exact an3 | rfl | (simp; done) | fail) ?_)
            refine Does.ungd (b := [.agg zwhole, .agg zwhole]) ⟨⟨rfl, rfl⟩, rfl, trivial⟩ ?_
            refine (alike_zero _).mono ?_
            rintro _ _ ⟨rfl, rfl⟩
            repeat (refine need_intro (by first | exact fun h => h | exact nt | exact an2 | exact an3 | rfl | (simp; done) | fail) ?_)
            exact Ends.ro (H := l.blks s) rfl rfl rfl
end Go.Proofs.YtdlpmbghocabbaaGreatDoor
