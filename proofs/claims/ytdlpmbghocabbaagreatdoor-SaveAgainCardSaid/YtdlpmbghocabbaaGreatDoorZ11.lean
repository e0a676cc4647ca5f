/- Part 11 of the texts of this claim, merged: K9, K10, K15. No condition: plain theorems, contracts of functions. -/
import Derived.Test.YtdlpmbghocabbaaGreatDoorZ10

set_option linter.unusedSimpArgs false
set_option linter.unusedVariables false
/- Empty wholes are alike; what Load refuses; Load of any bytes, Save of what Load takes, as calls. Contracts of functions. -/
namespace Go.Anv
open Go
theorem loadOut_code (p : Nat → B8) (n : Nat) : (loadOut p n).1 = 0 ∨ (loadOut p n).1 = 160 ∨ (loadOut p n).1 = 161 ∨ (loadOut p n).1 = 162 := by
  unfold loadOut
  split
  · simp
  split
  · simp
  split
  · simp
  split
  · simp
  split <;> simp
end Go.Anv
namespace Go.Proofs.YtdlpmbghocabbaaGreatDoor
open Go Go.Anv
set_option maxRecDepth 100000 in
theorem buses_zero (h : List Blk) : Does TB 20 [.agg zbus, .agg zbus] h (fun v h' => v = .s (.bool true) ∧ h' = h) := by
  refine fnX_pure TB Tryz.func20 rfl (by decide) rfl _ rfl (fun O on => ?_) h
  refine (same_nil _).mono ?_
  rintro v h' ⟨rfl, rfl⟩
  repeat (refine need_intro (by first | exact fun h => h | exact fun _ => rfl | rfl | (simp; done) | fail) ?_)
  refine Does.ungd (b := [_, _]) ⟨⟨rfl, rfl⟩, ⟨rfl, rfl⟩, trivial⟩ ?_
  refine (same_nil _).mono ?_
  rintro v h' ⟨rfl, rfl⟩
  repeat (refine need_intro (by first | exact fun h => h | exact fun _ => rfl | rfl | (simp; done) | fail) ?_)
  refine Does.ungd (b := [_, _]) ⟨⟨rfl, rfl⟩, ⟨rfl, rfl⟩, trivial⟩ ?_
  refine (same_nil _).mono ?_
  rintro v h' ⟨rfl, rfl⟩
  repeat (refine need_intro (by first | exact fun h => h | exact fun _ => rfl | rfl | (simp; done) | fail) ?_)
  exact eqvE_refl _
set_option maxRecDepth 100000 in
theorem alike_zero (h : List Blk) : Does TB 21 [.agg zwhole, .agg zwhole] h (fun v h' => v = .s (.bool true) ∧ h' = h) := by
  refine fnX_pure TB Tryz.func21 rfl (by decide) rfl _ rfl (fun O on => ?_) h
  repeat (refine need_intro (by first | exact fun h => h | exact fun _ => rfl | rfl | (simp; done) | fail) ?_)
  refine Does.ungd (b := [.agg zbus, .agg zbus]) ⟨⟨rfl, rfl⟩, ⟨rfl, rfl⟩, trivial⟩ ?_
  refine (buses_zero _).mono ?_
  rintro v h' ⟨rfl, rfl⟩
  repeat (refine need_intro (by first | exact fun h => h | exact fun _ => rfl | rfl | (simp; done) | fail) ?_)
  exact (rfl : (_ : Bool) = true)
/-- Bytes that are no snapshot. -/
theorem load_no (m : Bool) (n c sp : Nat) (q : Nat → B8) (hnc : n ≤ c) (hn : n ≤ 2 ^ 50) (hz : (loadOut q n).1 ≠ 0) :
    Does TB 19 [.s (.gs 0 0 n c)] [bblk m n q sp] (fun v h' => v = .tuple [.agg zwhole, .s (.int .i64 ((loadOut q n).1 : Nat))] ∧ h' = [bblk m n q sp]) := by
  refine (load_spec m n c n sp (bfun q) q hnc (Nat.le_refl _) hn (fun _ _ => rfl)).mono ?_
  rintro v h' (⟨_, rfl, rfl⟩ | ⟨h, _⟩)
  · exact ⟨rfl, rfl⟩
  · exact absurd h hz
/-- Bytes that are one. -/
theorem load_yes (m : Bool) (n c sp : Nat) (q : Nat → B8) (hnc : n ≤ c) (hn : n ≤ 2 ^ 50) (hz : (loadOut q n).1 = 0) :
    Does TB 19 [.s (.gs 0 0 n c)] [bblk m n q sp] (fun v h' => ∃ cr ci co, ((loadW q n).nr ≤ cr ∧ (loadW q n).ni ≤ ci ∧ (loadW q n).no ≤ co) ∧ v = .tuple [.agg (wsegs (cpuR q (n - 4) startR) (loadW q n) (.gs 1 0 (loadW q n).nr cr) (.gs 2 0 (loadW q n).ni ci) (.gs 3 0 (loadW q n).no co)), .s (.int .i64 0)] ∧
      h' = [bblk m n q sp, bblk true (loadW q n).nr (loadOut q n).2 (cr - (loadW q n).nr), bblk true (loadW q n).ni (inR q (n - 4) startR) (ci - (loadW q n).ni), bblk true (loadW q n).no (outR q (n - 4) startR) (co - (loadW q n).no)]) := by
  refine (load_spec m n c n sp (bfun q) q hnc (Nat.le_refl _) hn (fun _ _ => rfl)).mono ?_
  rintro v h' (⟨h, _⟩ | ⟨_, cr, ci, co, h1, h2, h3⟩)
  · exact absurd hz h
  · exact ⟨cr, ci, co, h1, h2, h3⟩
/-- Two lists of the same bytes. -/
theorem same_yes (m1 m2 : Bool) (n c1 c2 s1 s2 : Nat) (q1 q2 : Nat → B8) (h : ∀ j, j < n → q1 j = q2 j) :
    Does TB 22 [.s (.gs 0 0 n c1), .s (.gs 1 0 n c2)] [bblk m1 n q1 s1, bblk m2 n q2 s2] (fun v h' => v = .s (.bool true) ∧ h' = [bblk m1 n q1 s1, bblk m2 n q2 s2]) :=
  same_spec m1 m2 0 0 n c1 c2 n n s1 s2 (bfun q1) (bfun q2) (by omega) (by omega) (fun j hj => by simp only [Nat.zero_add, bfun]; rw [h j hj])
end Go.Proofs.YtdlpmbghocabbaaGreatDoor

/- The law SaveAgain. Contract of a function. -/
namespace Go.Proofs.YtdlpmbghocabbaaGreatDoor
open Go Go.Anv
set_option maxRecDepth 100000 in
set_option maxHeartbeats 2000000 in
theorem saveAgain_law (m : Bool) (n cap sp : Nat) (q : Nat → B8) (hn : n ≤ 140737488351232) :
    Does TB 5 [.s (.gs 0 0 n cap)] [bblk m n q sp] (fun v h' => v = .s (.bool true) ∧ h' = [bblk m n q sp]) := by
  refine fnX_does TB Tryz.func5 rfl (by decide) (fun O on hO => ?_)
  refine Does.atc first0 [] rfl trivial (by decide) ?_
  repeat (refine need_intro (by first | exact fun h => h | exact nt | exact an2 | exact an3 | rfl | (simp; done) | fail) ?_)
  refine need_intro ⟨by omega, rfl, rfl, room5 (0 + n) (by omega)⟩ ?_
  intro c hc
  have hc : 0 + n ≤ c := hc
  refine Does.args (b := [.s (.gs 2 0 n c)]) ⟨⟨rfl, rfl, Nat.zero_add n, rfl⟩, trivial⟩ ?_
  refine Does.heq (b := [bblk m n q sp, .dead, bblk true n q (c - n)]) ⟨eqvB_refl _, eqvB_refl _, ⟨rfl, (by show (c - (0 + n)) * 1 = c - n; omega), ⟨rfl, Nat.zero_add n, cat_zero q⟩, trivial⟩, trivial⟩ ?_
  by_cases hz : (loadOut q n).1 = 0
  · obtain ⟨a1, a2, a3, a4, a5⟩ := load_snap hz
    refine Does.atn (load_yes true n c (c - n) q (by omega) (by omega) hz) [2] rfl ⟨rfl, trivial⟩ (by decide) ?_ ?_
    · rintro v h' ⟨_, _, _, _, _, rfl⟩
      exact ⟨.inl rfl, .inl rfl, .inl rfl, .inl rfl, trivial⟩
    rintro v h' ⟨cr, ci, co, hb, rfl, rfl⟩
    have sv := save_yes (cpuR q (n - 4) startR) (loadW q n) (loadOut q n).2 (inR q (n - 4) startR) (outR q (n - 4) startR) (cr - (loadW q n).nr) (ci - (loadW q n).ni) (co - (loadW q n).no) cr ci co hb.1 a4
    rw [a5] at sv
    generalize cpuR q (n - 4) startR = cp at *
    generalize loadW q n = s at *
    generalize (loadOut q n).2 = ram at *
    generalize inR q (n - 4) startR = inp at *
    generalize outR q (n - 4) startR = out at *
    repeat (refine need_intro (by first | exact fun h => h | exact nt | exact an2 | exact an3 | rfl | (simp; done) | fail) ?_)
    refine (num16_spec 0 _).mono ?_
    rintro _ _ ⟨rfl, rfl⟩
    repeat (refine need_intro (by first | exact fun h => h | exact nt | exact an2 | exact an3 | rfl | (simp; done) | fail) ?_)
    refine Does.atn sv [3, 4, 5] rfl ⟨rfl, rfl, rfl, trivial⟩ (by decide) ?_ ?_
    · rintro v h' ⟨_, _, _, rfl⟩
      exact ⟨.inl rfl, .inl rfl, .inl rfl, .inl rfl, trivial⟩
    rintro v h' ⟨c', hc', rfl, rfl⟩
    repeat (refine need_intro (by first | exact fun h => h | exact nt | exact an2 | exact an3 | rfl | (simp; done) | fail) ?_)
    refine (num16_spec 0 _).mono ?_
    rintro _ _ ⟨rfl, rfl⟩
    repeat (refine need_intro (by first | exact fun h => h | exact nt | exact an2 | exact an3 | rfl | (simp; done) | fail) ?_)
    refine Does.ungd (b := [.s (.gs 0 0 n cap), .s (.gs 7 0 (lst q n).length c')]) ⟨⟨by decide, rfl⟩, ⟨by decide, rfl⟩, trivial⟩ ?_
    refine Does.args (b := [.s (.gs 0 0 n cap), .s (.gs 7 0 n c')]) ⟨eqvE_refl _, ⟨rfl, rfl, lst_len q n, rfl⟩, trivial⟩ ?_
    refine Does.heq (b := [_, _, _, _, _, _, _, bblk true n q (c' - n)]) ⟨eqvB_refl _, eqvB_refl _, eqvB_refl _, eqvB_refl _, eqvB_refl _, eqvB_refl _, eqvB_refl _, ⟨rfl, (by rw [lst_len]), ⟨rfl, lst_len q n, fun j hj => (bf_lst q n j (by rw [lst_len] at hj; exact hj)).symm⟩, trivial⟩, trivial⟩ ?_
    refine Does.atc (same_yes m true n cap c' sp (c' - n) q q (fun _ _ => rfl)) [0, 7] rfl ⟨rfl, rfl, trivial⟩ (by decide) ?_
    repeat (refine need_intro (by first | exact fun h => h | exact nt | exact an2 | exact an3 | rfl | (simp; done) | fail) ?_)
    exact Ends.ro (H := [bblk m n q sp]) rfl rfl rfl
  · have ln := load_no true n c (c - n) q (by omega) (by omega) hz
    rcases loadOut_code q n with h | h | h | h
    · exact absurd h hz
    all_goals
      rw [h] at ln
      refine Does.atc ln [2] rfl ⟨rfl, trivial⟩ (by decide) ?_
      repeat (refine need_intro (by first | exact fun h => h | exact nt | exact an2 | exact an3 | rfl | (simp; done) | fail) ?_)
      refine (num16_spec _ _).mono ?_
      rintro _ _ ⟨rfl, rfl⟩
      repeat (refine need_intro (by first | exact fun h => h | exact nt | exact an2 | exact an3 | rfl | (simp; done) | fail) ?_)
      refine (alike_zero _).mono ?_
      rintro _ _ ⟨rfl, rfl⟩
      repeat (refine need_intro (by first | exact fun h => h | exact nt | exact an2 | exact an3 | rfl | (simp; done) | fail) ?_)
      repeat (first | refine need_intro (by first | exact fun h => h | exact fun _ => rfl | rfl | decide | fail) ?_ | (refine Does.ungd (b := [.s (.int .i64 _)]) ⟨⟨by decide, rfl⟩, trivial⟩ ?_; refine (num16_spec _ _).mono ?_; rintro _ _ ⟨rfl, rfl⟩))
      exact Ends.ro (H := [bblk m n q sp]) rfl rfl rfl
end Go.Proofs.YtdlpmbghocabbaaGreatDoor

/- A slice of bytes that came in, as a small world. -/
namespace Go.Proofs.YtdlpmbghocabbaaGreatDoor
open Go Go.Anv
/-- A slice of bytes that came in. -/
theorem bytes_in {W : World} {a : Option Addr} {n cap : Nat} {f : Nat → Int} (h : slIn W .u8 a n cap f) :
    ∃ E : Emb, Sim E [bblk false n (fun j => BitVec.ofInt 8 (f j)) 0] W ∧ denV E (.gs 0 0 n cap) (.slice a n cap) ∧ n ≤ 140737488351232 := by
  have wf : ∀ {x : Int}, (Lit.int .u8 x).wf = true → x = ((BitVec.ofInt 8 x).toNat : Int) := by
    intro x h
    have h0 : 0 ≤ x ∧ x ≤ 255 := by
      simp only [Lit.wf, Bool.and_eq_true, decide_eq_true_eq] at h
      exact h
    rw [BitVec.toNat_ofInt]
    omega
  have mk : ∀ p : Anv.Loc, (p.b < W.heap.size ∨ p.nl = true ∧ n = 0) → (∀ j, j < n → W.cell? ⟨p.b, p.o + j, none⟩ = some (.int .u8 (bfun (fun j => BitVec.ofInt 8 (f j)) j))) → Sim ⟨1, fun _ => p⟩ [bblk false n (fun j => BitVec.ofInt 8 (f j)) 0] W := by
    intro p h1 h2
    refine ⟨rfl, fun i B hi => ?_, fun i j A B hij hi hj hA => ?_⟩
    · have hi0 : i = 0 := by
        rcases Nat.eq_zero_or_pos i with h | h
        · exact h
        · rw [List.getElem?_eq_none (by simp; omega)] at hi; cases hi
      subst hi0
      simp only [List.getElem?_cons_zero, Option.some.injEq] at hi
      subst hi
      refine ⟨?_, ⟨intsOf .u8 n (bfun fun j => BitVec.ofInt 8 (f j)) ++ [], ⟨[], rfl, rfl⟩, fun j v hj => ?_⟩, fun h => by cases h⟩
      · rcases h1 with h | ⟨h, h'⟩
        · exact .inl h
        · exact .inr ⟨h, by simp [sizeS, h']⟩
      · rw [List.append_nil] at hj
        have hj' : j < n := by
          rcases Nat.lt_or_ge j n with h | h
          · exact h
          · rw [List.getElem?_eq_none (by rw [length_intsOf]; exact h)] at hj; cases hj
        rw [intsOf_get hj'] at hj
        cases hj
        exact h2 j hj'
    · exfalso
      rcases i with _ | i
      · simp only [List.getElem?_cons_zero, Option.some.injEq] at hi; subst hi; cases hA
      · simp at hi
  obtain ⟨hle, ⟨rfl, rfl, rfl⟩ | ⟨b, o, rfl, hb, hlc, hc⟩⟩ := h
  · refine ⟨⟨1, fun _ => ⟨0, 0, true⟩⟩, mk _ (.inr ⟨rfl, rfl⟩) (fun j hj => by omega), ?_, by omega⟩
    exact ⟨by decide, fun _ => ⟨rfl, rfl⟩, rfl⟩
  · refine ⟨⟨1, fun _ => ⟨b, o, false⟩⟩, mk _ (.inl hb) (fun j hj => ?_), ?_, by omega⟩
    · obtain ⟨h1, h2⟩ := hc j hj
      show W.cell? ⟨b, o + j, none⟩ = _
      rw [h1]
      exact congrArg (fun z => some (Value.int .u8 z)) (wf h2)
    · exact ⟨by show 0 < 1; decide, (fun h => by cases h), by simp [Emb.at]⟩
end Go.Proofs.YtdlpmbghocabbaaGreatDoor
