/- Part 11 of the texts of this claim, merged: K9, K11, K12, K16. No condition: plain theorems, contracts of functions. -/
import Derived.Test.YtdlpmbghocabbaaGreatDoorZ10

set_option linter.unusedSimpArgs false
set_option linter.unusedVariables false
/- Empty wholes are alike; what Load refuses; Load of any bytes, Save of what Load takes, as calls. Contracts of functions. -/
namespace Go.Anv
open Go
theorem loadOut_code (p : Nat → B8) (n : Nat) : (loadOut p n).1 = 0 ∨ (loadOut p n).1 = 160 ∨ (loadOut p n).1 = 161 ∨ (loadOut p n).1 = 162 := by
  unfold loadOut
  split
  · simp
  split
  · simp
  split
  · simp
  split
  · simp
  split <;> simp
end Go.Anv
namespace Go.Proofs.YtdlpmbghocabbaaGreatDoor
open Go Go.Anv
set_option maxRecDepth 100000 in
theorem buses_zero (h : List Blk) : Does TB 20 [.agg zbus, .agg zbus] h (fun v h' => v = .s (.bool true) ∧ h' = h) := by
  refine fnX_pure TB Tryz.func20 rfl (by decide) rfl _ rfl (fun O on => ?_) h
  refine (same_nil _).mono ?_
  rintro v h' ⟨rfl, rfl⟩
  repeat (refine need_intro (by first | exact fun h => h | exact fun _ => rfl | rfl | (simp; done) | fail) ?_)
  refine Does.ungd (b := [_, _]) ⟨⟨rfl, rfl⟩, ⟨rfl, rfl⟩, trivial⟩ ?_
  refine (same_nil _).mono ?_
  rintro v h' ⟨rfl, rfl⟩
  repeat (refine need_intro (by first | exact fun h => h | exact fun _ => rfl | rfl | (simp; done) | fail) ?_)
  refine Does.ungd (b := [_, _]) ⟨⟨rfl, rfl⟩, ⟨rfl, rfl⟩, trivial⟩ ?_
  refine (same_nil _).mono ?_
  rintro v h' ⟨rfl, rfl⟩
  repeat (refine need_intro (by first | exact fun h => h | exact fun _ => rfl | rfl | (simp; done) | fail) ?_)
  exact eqvE_refl _
set_option maxRecDepth 100000 in
theorem alike_zero (h : List Blk) : Does TB 21 [.agg zwhole, .agg zwhole] h (fun v h' => v = .s (.bool true) ∧ h' = h) := by
  refine fnX_pure TB Tryz.func21 rfl (by decide) rfl _ rfl (fun O on => ?_) h
  repeat (refine need_intro (by first | exact fun h => h | exact fun _ => rfl | rfl | (simp; done) | fail) ?_)
  refine Does.ungd (b := [.agg zbus, .agg zbus]) ⟨⟨rfl, rfl⟩, ⟨rfl, rfl⟩, trivial⟩ ?_
  refine (buses_zero _).mono ?_
  rintro v h' ⟨rfl, rfl⟩
  repeat (refine need_intro (by first | exact fun h => h | exact fun _ => rfl | rfl | (simp; done) | fail) ?_)
  exact (rfl : (_ : Bool) = true)
/-- Bytes that are no snapshot. -/
theorem load_no (m : Bool) (n c sp : Nat) (q : Nat → B8) (hnc : n ≤ c) (hn : n ≤ 2 ^ 50) (hz : (loadOut q n).1 ≠ 0) :
    Does TB 19 [.s (.gs 0 0 n c)] [bblk m n q sp] (fun v h' => v = .tuple [.agg zwhole, .s (.int .i64 ((loadOut q n).1 : Nat))] ∧ h' = [bblk m n q sp]) := by
  refine (load_spec m n c n sp (bfun q) q hnc (Nat.le_refl _) hn (fun _ _ => rfl)).mono ?_
  rintro v h' (⟨_, rfl, rfl⟩ | ⟨h, _⟩)
  · exact ⟨rfl, rfl⟩
  · exact absurd h hz
/-- Bytes that are one. -/
theorem load_yes (m : Bool) (n c sp : Nat) (q : Nat → B8) (hnc : n ≤ c) (hn : n ≤ 2 ^ 50) (hz : (loadOut q n).1 = 0) :
    Does TB 19 [.s (.gs 0 0 n c)] [bblk m n q sp] (fun v h' => ∃ cr ci co, ((loadW q n).nr ≤ cr ∧ (loadW q n).ni ≤ ci ∧ (loadW q n).no ≤ co) ∧ v = .tuple [.agg (wsegs (cpuR q (n - 4) startR) (loadW q n) (.gs 1 0 (loadW q n).nr cr) (.gs 2 0 (loadW q n).ni ci) (.gs 3 0 (loadW q n).no co)), .s (.int .i64 0)] ∧
      h' = [bblk m n q sp, bblk true (loadW q n).nr (loadOut q n).2 (cr - (loadW q n).nr), bblk true (loadW q n).ni (inR q (n - 4) startR) (ci - (loadW q n).ni), bblk true (loadW q n).no (outR q (n - 4) startR) (co - (loadW q n).no)]) := by
  refine (load_spec m n c n sp (bfun q) q hnc (Nat.le_refl _) hn (fun _ _ => rfl)).mono ?_
  rintro v h' (⟨h, _⟩ | ⟨_, cr, ci, co, h1, h2, h3⟩)
  · exact absurd hz h
  · exact ⟨cr, ci, co, h1, h2, h3⟩
/-- Two lists of the same bytes. -/
theorem same_yes (m1 m2 : Bool) (n c1 c2 s1 s2 : Nat) (q1 q2 : Nat → B8) (h : ∀ j, j < n → q1 j = q2 j) :
    Does TB 22 [.s (.gs 0 0 n c1), .s (.gs 1 0 n c2)] [bblk m1 n q1 s1, bblk m2 n q2 s2] (fun v h' => v = .s (.bool true) ∧ h' = [bblk m1 n q1 s1, bblk m2 n q2 s2]) :=
  same_spec m1 m2 0 0 n c1 c2 n n s1 s2 (bfun q1) (bfun q2) (by omega) (by omega) (fun j hj => by simp only [Nat.zero_add, bfun]; rw [h j hj])
end Go.Proofs.YtdlpmbghocabbaaGreatDoor

/- Are two buses the same? as the laws about snapshots ask. Contracts of functions. -/
namespace Go.Proofs.YtdlpmbghocabbaaGreatDoor
open Go Go.Anv
set_option maxRecDepth 100000 in
theorem same16_spec (m1 m2 : Bool) (n1 n2 c1 c2 s1 s2 : Nat) (p q : Nat → B8) :
    Does TB 22 [.s (.gs 0 0 n1 c1), .s (.gs 1 0 n2 c2)] [bblk m1 n1 p s1, bblk m2 n2 q s2] (fun v h' => v = .s (.bool (n1 == n2 && eqB n1 p q)) ∧ h' = [bblk m1 n1 p s1, bblk m2 n2 q s2]) := by
  refine fnX_does TB Tryz.func22 rfl (by decide) (fun O on hO => ?_)
  repeat (refine need_intro (by first | exact Nat.le_of_eq (Nat.zero_add _) | rfl | fail) ?_)
  refine Ends.ro (H := [bblk m1 n1 p s1, bblk m2 n2 q s2]) rfl ?_ rfl
  exact bytes_beq2 p q
set_option maxRecDepth 100000 in
set_option maxHeartbeats 1000000 in
theorem buses16_spec (s t : BusV) (l k : Lists) (c0 c1 c2 c3 c4 c5 : Nat) :
    Does TB 20 [.agg (s.segs (.gs 0 0 s.nr c0) (.gs 1 0 s.ni c1) (.gs 2 0 s.no c2)), .agg (t.segs (.gs 3 0 t.nr c3) (.gs 4 0 t.ni c4) (.gs 5 0 t.no c5))] (l.blks s ++ k.blks t) (fun v h' => v = .s (.bool (busS s t l k)) ∧ h' = l.blks s ++ k.blks t) := by
  refine fnX_does TB Tryz.func20 rfl (by decide) (fun O on hO => ?_)
  have fin : ∀ {x : Bool}, x = busS s t l k → ∀ {b e : Blk}, Anv.Ends 6 (fun v h' => v = .s (.bool (busS s t l k)) ∧ h' = l.blks s ++ k.blks t) (.s (.bool x)) (l.blks s ++ k.blks t ++ [b, e]) := by
    rintro x rfl b e
    exact Ends.ro (H := l.blks s ++ k.blks t) rfl rfl rfl
  have e1 := same16_spec l.mr k.mr s.nr t.nr c0 c3 l.sr k.sr l.ram k.ram
  have e2 := same16_spec l.mi k.mi s.ni t.ni c1 c4 l.si k.si l.inp k.inp
  have e3 := same16_spec l.mo k.mo s.no t.no c2 c5 l.so k.so l.out k.out
  cases h1 : (s.nr == t.nr && eqB s.nr l.ram k.ram) with
  | false =>
    rw [h1] at e1
    refine Does.atc (e1) [0, 3] rfl ⟨rfl, rfl, trivial⟩ (by decide) ?_
    repeat (refine need_intro (by first | exact fun h => h | exact nt | exact an2 | exact an3 | rfl | (simp; done) | fail) ?_)
    refine fin ?_
    unfold busS; rw [h1]; rfl
  | true =>
    rw [h1] at e1
    refine Does.atc (e1) [0, 3] rfl ⟨rfl, rfl, trivial⟩ (by decide) ?_
    repeat (refine need_intro (by first | exact fun h => h | exact nt | exact an2 | exact an3 | rfl | (simp; done) | fail) ?_)
    refine Does.ungd (b := [.s (.gs 1 0 s.ni c1), .s (.gs 4 0 t.ni c4)]) ⟨⟨by decide, rfl⟩, ⟨by decide, rfl⟩, trivial⟩ ?_
    cases h2 : (s.ni == t.ni && eqB s.ni l.inp k.inp) with
    | false =>
      rw [h2] at e2
      refine Does.atc (e2) [1, 4] rfl ⟨rfl, rfl, trivial⟩ (by decide) ?_
      repeat (refine need_intro (by first | exact fun h => h | exact nt | exact an2 | exact an3 | rfl | (simp; done) | fail) ?_)
      refine fin ?_
      unfold busS devS; rw [h2, h1]; rfl
    | true =>
      rw [h2] at e2
      refine Does.atc (e2) [1, 4] rfl ⟨rfl, rfl, trivial⟩ (by decide) ?_
      repeat (refine need_intro (by first | exact fun h => h | exact nt | exact an2 | exact an3 | rfl | (simp; done) | fail) ?_)
      refine Does.ungd (b := [.s (.gs 2 0 s.no c2), .s (.gs 5 0 t.no c5)]) ⟨⟨by decide, rfl⟩, ⟨by decide, rfl⟩, trivial⟩ ?_
      cases h3 : (s.no == t.no && eqB s.no l.out k.out) with
      | false =>
        rw [h3] at e3
        refine Does.atc (e3) [2, 5] rfl ⟨rfl, rfl, trivial⟩ (by decide) ?_
        repeat (refine need_intro (by first | exact fun h => h | exact nt | exact an2 | exact an3 | rfl | (simp; done) | fail) ?_)
        refine fin ?_
        unfold busS devS; rw [h2, h1, h3]; rfl
      | true =>
        rw [h3] at e3
        refine Does.atc (e3) [2, 5] rfl ⟨rfl, rfl, trivial⟩ (by decide) ?_
        repeat (refine need_intro (by first | exact fun h => h | exact nt | exact an2 | exact an3 | rfl | (simp; done) | fail) ?_)
        refine ifB_intro (fun g1 => ?_) (fun g1 => ?_)
        · refine fin ?_
          simp only [cond_or, bne, beq_nat, Bool.or_eq_true, Bool.not_eq_true'] at g1
          unfold busS devS
          rw [h1, h2, h3]
          rcases g1 with ((((h | h) | h) | h) | h) | h <;> simp [h]
        · repeat (refine need_intro (by first | exact fun h => h | exact nt | exact an2 | exact an3 | rfl | (simp; done) | fail) ?_)
          refine fin ?_
          simp only [cond_or, bne, beq_nat, Bool.or_eq_false_iff, Bool.not_eq_false'] at g1
          obtain ⟨⟨⟨⟨⟨a1, a2⟩, a3⟩, a4⟩, a5⟩, a6⟩ := g1
          unfold busS devS
          rw [h1, h2, h3, a1, a2, a3, a4, a5, a6]
          simp only [cond_and, beq_nat, Bool.true_and, Bool.and_true]
end Go.Proofs.YtdlpmbghocabbaaGreatDoor

/- The law SaveApart. Plain theorems and the contract of a function. -/
namespace Go.Anv
open Go
theorem lst_congr {p q : Nat → B8} {n : Nat} (h : ∀ j, j < n → p j = q j) : lst p n = lst q n := by
  unfold lst
  exact List.map_congr_left fun j hj => h j (List.mem_range.1 hj)
theorem snap_congr {c d : CpuV} {s : BusV} {ram ram' inp inp' out out' : Nat → B8} (h : CpuSame c.proper d.proper) (hr : ∀ j, j < s.nr → ram j = ram' j) (hi : ∀ j, j < s.ni → inp j = inp' j) (ho : ∀ j, j < s.no → out j = out' j) :
    snap c s ram inp out = snap d s ram' inp' out' := by
  have hb : bodyL c s ram inp out = bodyL d s ram' inp' out' := by
    unfold bodyL devB
    rw [cpuB_congr h, lst_congr hi, lst_congr ho, pagesF_congr (q := ram') (fun j _ hj => hr j hj)]
  rw [snap_body, snap_body, hb]
/-- Snapshots are as different as what they are made of. -/
theorem snap_inj {c d : CpuV} {s t : BusV} {ram ram' inp inp' out out' : Nat → B8} (hs : s.can = true) (ht : t.can = true) (h : snap c s ram inp out = snap d t ram' inp' out') :
    CpuSame c.proper d.proper ∧ s = t ∧ (∀ j, j < s.nr → ram j = ram' j) ∧ (∀ j, j < s.ni → inp j = inp' j) ∧ ∀ j, j < s.no → out j = out' j := by
  have P : ∀ S : List B8, Has (fun j => S.getD j 0#8) 0 S := fun S j hj => by rw [Nat.zero_add]
  obtain ⟨_, _, ⟨m1, a3, a4⟩, a5, a6, a7, a8, _⟩ := snap_load c s ram inp out hs (fun j => (snap c s ram inp out).getD j 0#8) _ rfl (P _)
  obtain ⟨_, _, ⟨m2, b3, b4⟩, b5, b6, b7, b8, _⟩ := snap_load d t ram' inp' out' ht (fun j => (snap d t ram' inp' out').getD j 0#8) _ rfl (P _)
  rw [h] at a3 a5 a6 a7 a8
  have e : s = t := a6.symm.trans b6
  subst e
  have em : m1 = m2 := by have := a3.symm.trans b3; cases this; rfl
  subst em
  exact ⟨a5.symm.trans b5, rfl, fun j hj => (a4 j hj).symm.trans (b4 j hj), fun j hj => (a7 j hj).symm.trans (b7 j hj), fun j hj => (a8 j hj).symm.trans (b8 j hj)⟩
theorem eqB_iff {n : Nat} {p q : Nat → B8} : eqB n p q = true ↔ ∀ j, j < n → p j = q j := by
  unfold eqB
  simp [List.all_eq_true]
theorem lists_eq {A B : List B8} : (A.length == B.length && eqB A.length (fun j => A.getD j 0#8) (fun j => B.getD j 0#8)) = true ↔ A = B := by
  rw [Bool.and_eq_true, beq_iff_eq, eqB_iff]
  constructor
  · rintro ⟨h1, h2⟩
    apply List.ext_getElem h1
    intro j h3 h4
    have := h2 j h3
    simpa [List.getD_eq_getElem?_getD, h3, h4] using this
  · rintro rfl
    exact ⟨rfl, fun _ _ => rfl⟩
/-- The question of the law. -/
theorem apart_iff {c d : CpuV} {s t : BusV} {l k : Lists} (hs : s.can = true) (ht : t.can = true) :
    ((snap c s l.ram l.inp l.out).length == (snap d t k.ram k.inp k.out).length && eqB (snap c s l.ram l.inp l.out).length (fun j => (snap c s l.ram l.inp l.out).getD j 0#8) (fun j => (snap d t k.ram k.inp k.out).getD j 0#8)) = (cpuS c.proper d.proper && busS s t l k) := by
  rw [Bool.eq_iff_iff, lists_eq, Bool.and_eq_true]
  constructor
  · intro h
    obtain ⟨h1, rfl, h2, h3, h4⟩ := snap_inj hs ht h
    refine ⟨(cpu_eq _ _).2 h1, ?_⟩
    unfold busS devS
    rw [eqB_iff.2 h2, eqB_iff.2 h3, eqB_iff.2 h4]
    simp
  · rintro ⟨h1, h2⟩
    have h1 := (cpu_eq _ _).1 h1
    unfold busS devS at h2
    simp only [Bool.and_eq_true, beq_iff_eq, eqB_iff] at h2
    obtain ⟨⟨a1, a2⟩, ⟨⟨⟨⟨⟨⟨⟨⟨⟨⟨⟨⟨⟨⟨a3, a4⟩, a5, a6⟩, a7⟩, a8⟩, a9⟩, a10⟩, a11⟩, a12⟩, a13⟩, a14⟩, a15⟩, a16⟩, a17⟩, a18⟩⟩ := h2
    have e : s = t := by
      cases s; cases t
      simp only at *
      subst a1 a3 a5 a7 a8 a9 a10 a11 a12 a13 a14 a15 a16 a17 a18
      rfl
    subst e
    exact snap_congr h1 a2 a4 a6
end Go.Anv
namespace Go.Proofs.YtdlpmbghocabbaaGreatDoor
open Go Go.Anv
set_option maxRecDepth 100000 in
set_option maxHeartbeats 4000000 in
theorem saveApart_law (c d : CpuV) (s t : BusV) (l k : Lists) (r0 i0 o0 r1 i1 o1 : Nat) (a1 : s.nr ≤ 140737488351232) (a2 : s.ni ≤ 140737488351232) (a3 : s.no ≤ 140737488351232) (b1 : t.nr ≤ 140737488351232) (b2 : t.ni ≤ 140737488351232) (b3 : t.no ≤ 140737488351232) :
    Does TB 7 [.agg (wsegs c s (.gs 0 0 s.nr r0) (.gs 1 0 s.ni i0) (.gs 2 0 s.no o0)), .agg (wsegs d t (.gs 3 0 t.nr r1) (.gs 4 0 t.ni i1) (.gs 5 0 t.no o1))] (l.blks s ++ k.blks t) (fun v h' => v = .s (.bool true) ∧ h' = l.blks s ++ k.blks t) := by
  refine fnX_does TB Tryz.func7 rfl (by decide) (fun O on hO => ?_)
  refine Does.atc first0 [] rfl trivial (by decide) ?_
  repeat (refine need_intro (by first | exact fun h => h | exact nt | exact an2 | exact an3 | rfl | (simp; done) | fail) ?_)
  have ca := can16_spec c s l r0 i0 o0 (by omega) (by omega) (by omega)
  have cb := can16_spec d t k r1 i1 o1 (by omega) (by omega) (by omega)
  cases hs : s.can with
  | false =>
    rw [hs] at ca
    refine Does.atc (ca) [0, 1, 2] rfl ⟨rfl, rfl, rfl, trivial⟩ (by decide) ?_
    repeat (refine need_intro (by first | exact fun h => h | exact nt | exact an2 | exact an3 | rfl | (simp; done) | fail) ?_)
    exact Ends.ro (H := l.blks s ++ k.blks t) rfl rfl rfl
  | true =>
    rw [hs] at ca
    refine Does.atc (ca) [0, 1, 2] rfl ⟨rfl, rfl, rfl, trivial⟩ (by decide) ?_
    repeat (refine need_intro (by first | exact fun h => h | exact nt | exact an2 | exact an3 | rfl | (simp; done) | fail) ?_)
    refine Does.ungd (b := [.agg (wsegs d t (.gs 3 0 t.nr r1) (.gs 4 0 t.ni i1) (.gs 5 0 t.no o1))]) ⟨⟨by decide, rfl⟩, trivial⟩ ?_
    cases ht : t.can with
    | false =>
      rw [ht] at cb
      refine Does.atc (cb) [3, 4, 5] rfl ⟨rfl, rfl, rfl, trivial⟩ (by decide) ?_
      repeat (refine need_intro (by first | exact fun h => h | exact nt | exact an2 | exact an3 | rfl | (simp; done) | fail) ?_)
      exact Ends.ro (H := l.blks s ++ k.blks t) rfl rfl rfl
    | true =>
      rw [ht] at cb
      refine Does.atc (cb) [3, 4, 5] rfl ⟨rfl, rfl, rfl, trivial⟩ (by decide) ?_
      repeat (refine need_intro (by first | exact fun h => h | exact nt | exact an2 | exact an3 | rfl | (simp; done) | fail) ?_)
      have key := apart_iff (c := c) (d := d) (l := l) (k := k) hs ht
      have L1 := snap_bounds c s l.ram l.inp l.out hs
      have L2 := snap_bounds d t k.ram k.inp k.out ht
      have sv1 := fun a b e r i o => save_yes c s l.ram l.inp l.out a b e r i o
      have sv2 := fun a b e r i o => save_yes d t k.ram k.inp k.out a b e r i o
      generalize snap c s l.ram l.inp l.out = S1 at key sv1 L1
      generalize snap d t k.ram k.inp k.out = S2 at key sv2 L2
      refine Does.atn (twin_spec c s l r0 i0 o0 (by omega) (by omega) (by omega)) [0, 1, 2] rfl ⟨rfl, rfl, rfl, trivial⟩ (by decide) ?_ ?_
      · rintro v h' ⟨_, _, _, _, _, _, _, rfl⟩
        exact ⟨.inr (.inr rfl), .inr (.inr rfl), .inr (.inr rfl), .inl rfl, .inl rfl, .inl rfl, trivial⟩
      rintro v h' ⟨c3, c4, c5, k3, k4, k5, rfl, rfl⟩
      refine Does.atn (sv1 _ _ _ c3 c4 c5 k3 hs) [8, 9, 10] rfl ⟨rfl, rfl, rfl, trivial⟩ (by decide) ?_ ?_
      · rintro v h' ⟨_, _, _, rfl⟩
        exact ⟨.inl rfl, .inl rfl, .inl rfl, .inl rfl, trivial⟩
      rintro v h' ⟨c', hc', rfl, rfl⟩
      repeat (refine need_intro (by first | exact fun h => h | exact nt | exact an2 | exact an3 | rfl | (simp; done) | fail) ?_)
      refine Does.atn (twin_spec d t k r1 i1 o1 (by omega) (by omega) (by omega)) [3, 4, 5] rfl ⟨rfl, rfl, rfl, trivial⟩ (by decide) ?_ ?_
      · rintro v h' ⟨_, _, _, _, _, _, _, rfl⟩
        exact ⟨.inr (.inr rfl), .inr (.inr rfl), .inr (.inr rfl), .inl rfl, .inl rfl, .inl rfl, trivial⟩
      rintro v h' ⟨c6, c7, c8, k6, k7, k8, rfl, rfl⟩
      refine Does.atn (sv2 _ _ _ c6 c7 c8 k6 ht) [12, 13, 14] rfl ⟨rfl, rfl, rfl, trivial⟩ (by decide) ?_ ?_
      · rintro v h' ⟨_, _, _, rfl⟩
        exact ⟨.inl rfl, .inl rfl, .inl rfl, .inl rfl, trivial⟩
      rintro v h' ⟨c'', hc'', rfl, rfl⟩
      repeat (refine need_intro (by first | exact fun h => h | exact nt | exact an2 | exact an3 | rfl | (simp; done) | fail) ?_)
      have fin : ∀ {x y : Bool} {H : List Blk}, x = y → Anv.Ends (l.blks s ++ k.blks t).length (fun v h' => v = .s (.bool true) ∧ h' = l.blks s ++ k.blks t) (.s (.bool (x == y))) (l.blks s ++ k.blks t ++ H) := by
        rintro x _ H rfl
        exact Ends.ro (H := l.blks s ++ k.blks t) rfl (by show (x == x) = true; cases x <;> rfl) rfl
      refine draw_held on rfl (fun _ _ h => h) ?_
      refine (proper_spec c _).mono ?_
      rintro _ _ ⟨rfl, rfl⟩
      repeat (refine need_intro (by first | exact fun h => h | exact nt | exact an2 | exact an3 | rfl | (simp; done) | fail) ?_)
      refine (proper_spec d _).mono ?_
      rintro _ _ ⟨rfl, rfl⟩
      repeat (refine need_intro (by first | exact fun h => h | exact nt | exact an2 | exact an3 | rfl | (simp; done) | fail) ?_)
      refine ifB_intro (fun g => ?_) (fun g => ?_)
      · refine Does.ungd (b := [.agg (s.segs (.gs 0 0 s.nr r0) (.gs 1 0 s.ni i0) (.gs 2 0 s.no o0)), .agg (t.segs (.gs 3 0 t.nr r1) (.gs 4 0 t.ni i1) (.gs 5 0 t.no o1))]) ⟨⟨g, rfl⟩, ⟨g, rfl⟩, trivial⟩ ?_
        refine Does.atc (buses16_spec s t l k r0 i0 o0 r1 i1 o1) [0, 1, 2, 3, 4, 5] rfl ⟨rfl, rfl, rfl, rfl, rfl, rfl, trivial⟩ (by decide) ?_
        repeat (refine need_intro (by first | exact fun h => h | exact nt | exact an2 | exact an3 | rfl | (simp; done) | fail) ?_)
        refine (num16_spec 0 _).mono ?_
        rintro _ _ ⟨rfl, rfl⟩
        repeat (refine need_intro (by first | exact fun h => h | exact nt | exact an2 | exact an3 | rfl | (simp; done) | fail) ?_)
        refine Does.ungd (b := [.s (.int .i64 0)]) ⟨⟨by decide, rfl⟩, trivial⟩ ?_
        refine (num16_spec 0 _).mono ?_
        rintro _ _ ⟨rfl, rfl⟩
        repeat (refine need_intro (by first | exact fun h => h | exact nt | exact an2 | exact an3 | rfl | (simp; done) | fail) ?_)
        refine Does.ungd (b := [.s (.gs 11 0 S1.length c'), .s (.gs 15 0 S2.length c'')]) ⟨⟨by decide, rfl⟩, ⟨by decide, rfl⟩, trivial⟩ ?_
        refine Does.atc (same16_spec true true S1.length S2.length c' c'' (c' - S1.length) (c'' - S2.length) (fun j => S1.getD j 0#8) (fun j => S2.getD j 0#8)) [11, 15] rfl ⟨rfl, rfl, trivial⟩ (by decide) ?_
        repeat (refine need_intro (by first | exact fun h => h | exact nt | exact an2 | exact an3 | rfl | (simp; done) | fail) ?_)
        exact fin (key.trans (cond_and (cpuS c.proper d.proper) (busS s t l k)).symm)
      · repeat (refine need_intro (by first | exact g | exact fun h => h | exact nt | exact an2 | exact an3 | rfl | (simp; done) | fail) ?_)
        refine (num16_spec 0 _).mono ?_
        rintro _ _ ⟨rfl, rfl⟩
        repeat (refine need_intro (by first | exact fun h => h | exact nt | exact an2 | exact an3 | rfl | (simp; done) | fail) ?_)
        refine Does.ungd (b := [.s (.int .i64 0)]) ⟨⟨by decide, rfl⟩, trivial⟩ ?_
        refine (num16_spec 0 _).mono ?_
        rintro _ _ ⟨rfl, rfl⟩
        repeat (refine need_intro (by first | exact fun h => h | exact nt | exact an2 | exact an3 | rfl | (simp; done) | fail) ?_)
        refine Does.ungd (b := [.s (.gs 11 0 S1.length c'), .s (.gs 15 0 S2.length c'')]) ⟨⟨by decide, rfl⟩, ⟨by decide, rfl⟩, trivial⟩ ?_
        refine Does.atc (same16_spec true true S1.length S2.length c' c'' (c' - S1.length) (c'' - S2.length) (fun j => S1.getD j 0#8) (fun j => S2.getD j 0#8)) [11, 15] rfl ⟨rfl, rfl, trivial⟩ (by decide) ?_
        repeat (refine need_intro (by first | exact fun h => h | exact nt | exact an2 | exact an3 | rfl | (simp; done) | fail) ?_)
        refine fin (y := false) (key.trans ?_)
        rw [show cpuS c.proper d.proper = false from g]
        rfl
end Go.Proofs.YtdlpmbghocabbaaGreatDoor

/- Six lists of bytes that came in, as a small world. -/
namespace Go.Anv
open Go
/-- Six lists of bytes that came in, as a small world. -/
theorem sim6 {W : World} {p0 p1 p2 p3 p4 p5 : Loc} {n0 n1 n2 n3 n4 n5 c0 c1 c2 c3 c4 c5 : Nat} {q0 q1 q2 q3 q4 q5 : Nat → B8} (h0 : SlAt W p0 n0 c0 q0) (h1 : SlAt W p1 n1 c1 q1) (h2 : SlAt W p2 n2 c2 q2) (h3 : SlAt W p3 n3 c3 q3) (h4 : SlAt W p4 n4 c4 q4) (h5 : SlAt W p5 n5 c5 q5) :
    Sim ⟨6, fun i => match i with | 0 => p0 | 1 => p1 | 2 => p2 | 3 => p3 | 4 => p4 | _ => p5⟩ [bblk false n0 q0 0, bblk false n1 q1 0, bblk false n2 q2 0, bblk false n3 q3 0, bblk false n4 q4 0, bblk false n5 q5 0] W := by
  have one : ∀ {E : Emb} {p : Loc} {n c : Nat} {q : Nat → B8}, SlAt W p n c q → okBlk E W p (bblk false n q 0) := fun {E p n c q} h => by
    refine ⟨?_, ⟨intsOf .u8 n (bfun q) ++ [], ⟨[], rfl, rfl⟩, fun j v hj => ?_⟩, fun h => by cases h⟩
    · rcases h.lt with h | ⟨h, h'⟩
      · exact .inl h
      · exact .inr ⟨h, by simp [sizeS, h']⟩
    · rw [List.append_nil] at hj
      have hj' : j < n := by
        rcases Nat.lt_or_ge j n with h | h
        · exact h
        · rw [List.getElem?_eq_none (by rw [length_intsOf]; exact h)] at hj; cases hj
      rw [intsOf_get hj'] at hj
      cases hj
      exact h.at_ j hj'
  refine ⟨rfl, fun i B hi => ?_, fun i j A B _ hi _ hA => ?_⟩
  · match i, hi with
    | 0, hi => simp only [List.getElem?_cons_succ, List.getElem?_cons_zero, Option.some.injEq] at hi; subst hi; exact one h0
    | 1, hi => simp only [List.getElem?_cons_succ, List.getElem?_cons_zero, Option.some.injEq] at hi; subst hi; exact one h1
    | 2, hi => simp only [List.getElem?_cons_succ, List.getElem?_cons_zero, Option.some.injEq] at hi; subst hi; exact one h2
    | 3, hi => simp only [List.getElem?_cons_succ, List.getElem?_cons_zero, Option.some.injEq] at hi; subst hi; exact one h3
    | 4, hi => simp only [List.getElem?_cons_succ, List.getElem?_cons_zero, Option.some.injEq] at hi; subst hi; exact one h4
    | 5, hi => simp only [List.getElem?_cons_succ, List.getElem?_cons_zero, Option.some.injEq] at hi; subst hi; exact one h5
    | i + 6, hi => simp at hi
  · exfalso
    match i, hi with
    | 0, hi => simp only [List.getElem?_cons_succ, List.getElem?_cons_zero, Option.some.injEq] at hi; subst hi; cases hA
    | 1, hi => simp only [List.getElem?_cons_succ, List.getElem?_cons_zero, Option.some.injEq] at hi; subst hi; cases hA
    | 2, hi => simp only [List.getElem?_cons_succ, List.getElem?_cons_zero, Option.some.injEq] at hi; subst hi; cases hA
    | 3, hi => simp only [List.getElem?_cons_succ, List.getElem?_cons_zero, Option.some.injEq] at hi; subst hi; cases hA
    | 4, hi => simp only [List.getElem?_cons_succ, List.getElem?_cons_zero, Option.some.injEq] at hi; subst hi; cases hA
    | 5, hi => simp only [List.getElem?_cons_succ, List.getElem?_cons_zero, Option.some.injEq] at hi; subst hi; cases hA
    | i + 6, hi => simp at hi
end Go.Anv
