/- Part 9 of the texts of this claim, merged: A8, A9, A10, A11, A12, A13, A14, A15, A16, A17, A18, A19, A20, A21, A22, A23, A24, A25, A26, A27, A28. No condition: plain theorems, contracts of functions. -/
import Derived.Test.YtdlpmbghocabbaaGreatDoorZ8

set_option linter.unusedSimpArgs false
set_option linter.unusedVariables false
/- The bus: a load. Contracts of functions. -/
namespace Go.Anv
open Go
/-- A load: the value. -/
def Dev.load (d : Dev) (a : B64) (n : Nat) : Option B64 :=
  match d.s.who a n with
  | some .ram => some (d.word a n)
  | some .fin => some 0#64
  | some .clint => some (d.s.cld a n)
  | some .uart => some (d.uval (a.toNat - 268435456))
  | none => none
/-- The bus behind a load. -/
def Dev.loaded (d : Dev) (a : B64) (n c : Nat) : Dev :=
  match d.s.who a n with
  | some .uart => d.uld (a.toNat - 268435456) c
  | _ => d
def loadE : Option B64 → EV
  | some v => .tuple [.s (.int .u64 v.toNat), .s (.bool true)]
  | none => .tuple [.s (.int .u64 0), .s (.bool false)]
/-- A contract that leaves the queues where they are, in the uniform form. -/
theorem Does.stay {T : Tbl} {f : FuncId} {args : List EV} {d d' : Dev} {V : EV} (D : Does T f args d.h (fun v h' => v = V ∧ h' = d'.h)) (hv : renE (lk [0, 1, 2, 3, 2, 3] 4) V = V) :
    Does T f args d.h (fun v h' => v = V ∧ h' = d'.h2) := by
  refine D.tell ?_
  rintro v h' ⟨rfl, rfl⟩
  refine ⟨_, d'.h2, [0, 1, 2, 3, 2, 3], ⟨rfl, rfl⟩, rfl, ⟨rfl, rfl, rfl, rfl, trivial⟩, ?_, ⟨⟨_, rfl, eqvB_refl _⟩, ⟨_, rfl, eqvB_refl _⟩, rfl, rfl, ⟨_, rfl, eqvB_refl _⟩, ⟨_, rfl, eqvB_refl _⟩, trivial⟩⟩
  show eqvE _ (renE (lk [0, 1, 2, 3, 2, 3] 4) _)
  rw [hv]
  exact eqvE_refl _
end Go.Anv
namespace Go.Proofs.YtdlpmbghocabbaaGreatDoor
open Go Go.Anv
set_option maxRecDepth 100000 in
theorem uartLoad_5 (d : Dev) (n : Nat) : Does TB 280 [.s (.ptr 0 6), .s (.int .u64 268435461), .s (.int .i64 n)] d.h (fun v h' => v = .s (.int .u64 (d.uval 5).toNat) ∧ h' = (d.uld 5 0).h) := by
  refine fnXD_does TB Tryz.func280 rfl (by decide) (fun O on hO => ?_)
  refine (lock_spec (b := 0) (o := 6) rfl rfl rfl).mono ?_
  rintro _ h' ⟨rfl, hh⟩
  have hh : h' = d.hh := hh
  subst hh
  refine ⟨⟨_, _, _, rfl⟩, fun O' on' hO' hle => ?_⟩
  repeat (refine need_intro (by first | exact fun h => h | exact nt | exact an2 | exact an3 | rfl | (simp; done) | fail) ?_)
  refine Does.atn (uartStatus d) [0, 1, 2, 3] rfl ⟨rfl, rfl, rfl, rfl, trivial⟩ (by decide) ?_ ?_
  · rintro v h' ⟨_, rfl⟩
    exact ⟨.inl rfl, .inl rfl, .inl rfl, .inl rfl, trivial⟩
  rintro v h' ⟨rfl, rfl⟩
  repeat (refine need_intro (by first | exact fun h => h | exact nt | exact an2 | exact an3 | rfl | (simp; done) | fail) ?_)
  refine (unlock_spec (b := 0) (o := 6) rfl rfl rfl).mono ?_
  rintro _ h' ⟨_, hh⟩
  have hh : h' = { d with s := { d.s with overrun := false } }.h := hh
  subst hh
  refine Ends.ro (H := { d with s := { d.s with overrun := false } }.h) ?_ ?_ ?_
  · rfl
  · exact eqvE_refl _
  · rfl
/-- A load from the console, in the uniform form. -/
theorem uartLoad (d : Dev) (k n : Nat) (hk : k ≤ 7) (hi : d.s.ni ≤ 140737488351232) (hc : d.s.ni ≤ d.ci) : Does TB 280 [.s (.ptr 0 6), .s (.int .u64 ((268435456 + k : Nat) : Int)), .s (.int .i64 n)] d.h
    (fun v h' => ∃ c, (d.uld k c).s.ni ≤ (d.uld k c).ci ∧ v = .s (.int .u64 (d.uval k).toNat) ∧ h' = (d.uld k c).h2) := by
  have h8 : k = 0 ∨ k = 5 ∨ (k = 1 ∨ k = 2 ∨ k = 3 ∨ k = 4 ∨ k = 6 ∨ k = 7) := by omega
  rcases h8 with rfl | rfl | h8
  · exact uartLoad_0 d n hi hc
  · refine (Does.stay (uartLoad_5 d n) rfl).mono ?_
    rintro v h' ⟨rfl, rfl⟩
    exact ⟨0, hc, rfl, rfl⟩
  · have e : ∀ c, d.uld k c = d := fun c => by unfold Dev.uld; rw [if_neg (by omega), if_neg (by omega)]
    refine (Does.stay (uartLoad_plain d k n h8) rfl).mono ?_
    rintro v h' ⟨rfl, rfl⟩
    exact ⟨0, by rw [e]; exact hc, rfl, by rw [e]⟩
theorem loadE_ren (ρ : Nat → Nat) (o : Option B64) : renE ρ (loadE o) = loadE o := by cases o <;> rfl
set_option maxRecDepth 100000 in
/-- A load that moves no queue. -/
theorem busLoad_plain (d : Dev) (a : B64) (n : Nat) (hn : n ≤ 9223372036854775807) (hr : d.s.nr ≤ 65536) (hw : d.s.who a n ≠ some .uart) : Does TB 113 [.s (.ptr 0 0), .s (.int .u64 a.toNat), .s (.int .i64 n)] d.h (fun v h' => v = loadE (d.load a n) ∧ h' = d.h) := by
  refine fnX_does TB Tryz.func113 rfl (by decide) (fun O on hO => ?_)
  have ha := busAt d a n hn hr
  unfold Dev.load
  cases h : d.s.who a n with
  | none =>
    rw [h] at ha
    refine Does.atc (ha) [0, 1, 2, 3] rfl ⟨rfl, rfl, rfl, rfl, trivial⟩ (by decide) ?_
    repeat (refine need_intro (by first | exact fun h => h | exact nt | exact an2 | exact an3 | rfl | (simp; done) | fail) ?_)
    exact Ends.ro (H := d.h) rfl (eqvE_refl _) rfl
  | some w =>
    rw [h] at ha
    cases w with
    | ram =>
      have hi : d.s.inRam a n = true := by
        unfold BusV.who at h
        split at h
        · assumption
        · split at h
          · cases h
          · split at h
            · cases h
            · split at h <;> cases h
      have h1 : sizeOk n = true ∧ d.s.holds a n = true := by
        unfold BusV.inRam at hi
        simp only [Bool.and_eq_true] at hi
        exact ⟨hi.1.1, hi.2⟩
      have hn8 : n ≤ 8 := by
        have := h1.1
        unfold sizeOk at this
        simp only [Bool.or_eq_true, beq_iff_eq] at this
        omega
      refine Does.atc (ha) [0, 1, 2, 3] rfl ⟨rfl, rfl, rfl, rfl, trivial⟩ (by decide) ?_
      repeat (refine need_intro (by first | exact fun h => h | exact nt | exact an2 | exact an3 | rfl | (simp; done) | fail) ?_)
      refine Does.atc (ramLoad d a n hn8 h1.2 hr) [0, 1, 2, 3] rfl ⟨rfl, rfl, rfl, rfl, trivial⟩ (by decide) ?_
      repeat (refine need_intro (by first | exact fun h => h | exact nt | exact an2 | exact an3 | rfl | (simp; done) | fail) ?_)
      exact Ends.ro (H := d.h) rfl (eqvE_refl _) rfl
    | fin =>
      refine Does.atc (ha) [0, 1, 2, 3] rfl ⟨rfl, rfl, rfl, rfl, trivial⟩ (by decide) ?_
      repeat (refine need_intro (by first | exact fun h => h | exact nt | exact an2 | exact an3 | rfl | (simp; done) | fail) ?_)
      refine Does.atc (finLoad d a n) [0, 1, 2, 3] rfl ⟨rfl, rfl, rfl, rfl, trivial⟩ (by decide) ?_
      repeat (refine need_intro (by first | exact fun h => h | exact nt | exact an2 | exact an3 | rfl | (simp; done) | fail) ?_)
      exact Ends.ro (H := d.h) rfl (eqvE_refl _) rfl
    | clint =>
      refine Does.atc (ha) [0, 1, 2, 3] rfl ⟨rfl, rfl, rfl, rfl, trivial⟩ (by decide) ?_
      repeat (refine need_intro (by first | exact fun h => h | exact nt | exact an2 | exact an3 | rfl | (simp; done) | fail) ?_)
      refine Does.atc (clintLoad d a n) [0, 1, 2, 3] rfl ⟨rfl, rfl, rfl, rfl, trivial⟩ (by decide) ?_
      repeat (refine need_intro (by first | exact fun h => h | exact nt | exact an2 | exact an3 | rfl | (simp; done) | fail) ?_)
      exact Ends.ro (H := d.h) rfl (eqvE_refl _) rfl
    | uart => exact absurd h hw
set_option maxRecDepth 100000 in
/-- A load from the console. -/
theorem busLoad_uart (d : Dev) (a : B64) (n : Nat) (hn : n ≤ 9223372036854775807) (hr : d.s.nr ≤ 65536) (hw : d.s.who a n = some .uart) (hi : d.s.ni ≤ 140737488351232) (hc : d.s.ni ≤ d.ci) : Does TB 113 [.s (.ptr 0 0), .s (.int .u64 a.toNat), .s (.int .i64 n)] d.h
    (fun v h' => ∃ c, (d.loaded a n c).s.ni ≤ (d.loaded a n c).ci ∧ v = loadE (d.load a n) ∧ h' = (d.loaded a n c).h2) := by
  refine fnX_does TB Tryz.func113 rfl (by decide) (fun O on hO => ?_)
  have ha := busAt d a n hn hr
  unfold Dev.load Dev.loaded
  rw [hw] at ha ⊢
  have hu : 268435456 ≤ a.toNat ∧ a.toNat ≤ 268435463 := by
    unfold BusV.who at hw
    split at hw
    · cases hw
    · split at hw
      · cases hw
      · split at hw
        · cases hw
        · split at hw
          · rename_i g
            unfold uartAt at g
            simp only [Bool.and_eq_true, decide_eq_true_eq] at g
            exact g.1
          · cases hw
  have hl := uartLoad d (a.toNat - 268435456) n (by omega) hi hc
  rw [show 268435456 + (a.toNat - 268435456) = a.toNat by omega] at hl
  generalize a.toNat - 268435456 = k at *
  refine Does.atc (ha) [0, 1, 2, 3] rfl ⟨rfl, rfl, rfl, rfl, trivial⟩ (by decide) ?_
  repeat (refine need_intro (by first | exact fun h => h | exact nt | exact an2 | exact an3 | rfl | (simp; done) | fail) ?_)
  refine Does.atn hl [0, 1, 2, 3] rfl ⟨rfl, rfl, rfl, rfl, trivial⟩ (by decide) ?_ ?_
  · rintro v h' ⟨_, _, _, rfl⟩
    exact ⟨.inl rfl, .inl rfl, .inr (.inl rfl), .inr (.inl rfl), .inl rfl, .inl rfl, trivial⟩
  rintro v h' ⟨c, hcc, rfl, rfl⟩
  repeat (refine need_intro (by first | exact fun h => h | exact nt | exact an2 | exact an3 | rfl | (simp; done) | fail) ?_)
  exact ⟨_, _, [0, 1, 2, 3, 4, 5], ⟨c, hcc, rfl, rfl⟩, by decide, ⟨rfl, rfl, rfl, rfl, trivial⟩, eqvE_refl _, ⟨⟨_, rfl, eqvB_refl _⟩, ⟨_, rfl, eqvB_refl _⟩, ⟨_, rfl, eqvB_refl _⟩, ⟨_, rfl, eqvB_refl _⟩, ⟨_, rfl, eqvB_refl _⟩, ⟨_, rfl, eqvB_refl _⟩, trivial⟩⟩
/-- A load, in the uniform form. -/
theorem busLoad (d : Dev) (a : B64) (n : Nat) (hn : n ≤ 9223372036854775807) (hr : d.s.nr ≤ 65536) (hi : d.s.ni ≤ 140737488351232) (hc : d.s.ni ≤ d.ci) : Does TB 113 [.s (.ptr 0 0), .s (.int .u64 a.toNat), .s (.int .i64 n)] d.h
    (fun v h' => ∃ c, (d.loaded a n c).s.ni ≤ (d.loaded a n c).ci ∧ v = loadE (d.load a n) ∧ h' = (d.loaded a n c).h2) := by
  by_cases hw : d.s.who a n = some .uart
  · exact busLoad_uart d a n hn hr hw hi hc
  · have e : ∀ c, d.loaded a n c = d := fun c => by
      unfold Dev.loaded
      split
      · rename_i h; exact absurd h hw
      · rfl
    refine (Does.stay (busLoad_plain d a n hn hr hw) (loadE_ren _ _)).mono ?_
    rintro v h' ⟨rfl, rfl⟩
    exact ⟨0, by rw [e]; exact hc, rfl, by rw [e]⟩
end Go.Proofs.YtdlpmbghocabbaaGreatDoor

/- The bus: what may be asked of it. Contracts of functions. -/
namespace Go.Anv
open Go
/-- The interrupts that are pending. -/
def BusV.mip (s : BusV) : B64 :=
  (if s.msip = 1#32 ∨ s.soft = true then 8#64 else 0#64) ||| (if s.cmp ≤ s.now then 128#64 else 0#64) ||| (if s.ext = true ∨ s.raised = true then 2048#64 else 0#64)
end Go.Anv
namespace Go.Proofs.YtdlpmbghocabbaaGreatDoor
open Go Go.Anv
set_option maxRecDepth 100000 in
theorem busTime (d : Dev) : Does TB 97 [.s (.ptr 0 0)] d.h (fun v h' => v = .s (.int .u64 d.s.now.toNat) ∧ h' = d.h) := by
  refine fnX_does TB Tryz.func97 rfl (by decide) (fun O on hO => ?_)
  repeat (refine need_intro (by first | exact fun h => h | exact nt | exact an2 | exact an3 | rfl | (simp; done) | fail) ?_)
  exact Ends.ro (H := d.h) rfl (eqvE_refl _) rfl
set_option maxRecDepth 100000 in
theorem busOff (d : Dev) : Does TB 69 [.s (.ptr 0 0)] d.h (fun v h' => v = .tuple [.s (.int .i64 d.s.off), .s (.int .i64 d.s.code)] ∧ h' = d.h) := by
  refine fnX_does TB Tryz.func69 rfl (by decide) (fun O on hO => ?_)
  refine draw_held on rfl (fun _ _ h => h) ?_
  repeat (refine need_intro (by first | exact fun h => h | exact nt | exact an2 | exact an3 | rfl | (simp; done) | fail) ?_)
  exact Ends.ro (H := d.h) rfl (eqvE_refl _) rfl
set_option maxRecDepth 100000 in
theorem busIsRam (d : Dev) (a : B64) (n : Nat) (hn : n ≤ 9223372036854775807) (hr : d.s.nr ≤ 65536) : Does TB 121 [.s (.ptr 0 0), .s (.int .u64 a.toNat), .s (.int .i64 n)] d.h (fun v h' => v = .s (.bool (decide (1 ≤ n) && d.s.holds a n)) ∧ h' = d.h) := by
  refine fnX_does TB Tryz.func121 rfl (by decide) (fun O on hO => ?_)
  have q : decide ((n : Int) ≥ 1) = decide (1 ≤ n) := decide_eq_decide.2 (by omega)
  repeat (refine need_intro (by first | exact fun h => h | exact nt | exact an2 | exact an3 | rfl | (simp; done) | fail) ?_)
  refine ifB_intro (fun g => ?_) (fun g => ?_)
  · refine Does.ungd (b := [.s (.ptr 0 0), .s (.int .u64 a.toNat), .s (.int .i64 n)]) ⟨⟨g, rfl⟩, ⟨g, rfl⟩, ⟨g, rfl⟩, trivial⟩ ?_
    refine Does.atc (ramHolds d a n hn hr) [0, 1, 2, 3] rfl ⟨rfl, rfl, rfl, rfl, trivial⟩ (by decide) ?_
    repeat (refine need_intro (by first | exact g | exact fun h => h | exact nt | exact an2 | exact an3 | rfl | (simp; done) | fail) ?_)
    exact Ends.ro (H := d.h) rfl (show (bif decide ((n : Int) ≥ 1) then d.s.holds a n else false) = _ from by rw [q, cond_and]) rfl
  · repeat (refine need_intro (by first | exact g | exact fun h => h | exact nt | exact an2 | exact an3 | rfl | (simp; done) | fail) ?_)
    exact Ends.ro (H := d.h) rfl (show false = _ from by rw [← q, g]; rfl) rfl
set_option maxRecDepth 100000 in
theorem busCan (d : Dev) (a : B64) (n : Nat) (kind : Int) (hn : n ≤ 9223372036854775807) (hr : d.s.nr ≤ 65536) (hk : kind = 1 ∨ kind = 2 ∨ kind = 3) : Does TB 112 [.s (.ptr 0 0), .s (.int .u64 a.toNat), .s (.int .i64 n), .s (.int .i64 kind)] d.h (fun v h' => v = .s (.bool (d.s.who a n).isSome) ∧ h' = d.h) := by
  refine fnX_does TB Tryz.func112 rfl (by decide) (fun O on hO => ?_)
  have ha := busAt d a n hn hr
  rcases hk with rfl | rfl | rfl
  all_goals
    repeat (refine need_intro (by first | exact fun h => h | exact nt | exact an2 | exact an3 | rfl | (simp; done) | fail) ?_)
    refine Does.ungd (b := [.s (.ptr 0 0), .s (.int .u64 a.toNat), .s (.int .i64 n)]) ⟨⟨rfl, rfl⟩, ⟨rfl, rfl⟩, ⟨rfl, rfl⟩, trivial⟩ ?_
    cases h : d.s.who a n with
    | none =>
      rw [h] at ha
      refine Does.atc (ha) [0, 1, 2, 3] rfl ⟨rfl, rfl, rfl, rfl, trivial⟩ (by decide) ?_
      repeat (refine need_intro (by first | exact fun h => h | exact nt | exact an2 | exact an3 | rfl | (simp; done) | fail) ?_)
      exact Ends.ro (H := d.h) rfl (eqvE_refl _) rfl
    | some w =>
      rw [h] at ha
      cases w <;> clear h
      all_goals
        refine Does.atc (ha) [0, 1, 2, 3] rfl ⟨rfl, rfl, rfl, rfl, trivial⟩ (by decide) ?_
        repeat (refine need_intro (by first | exact fun h => h | exact nt | exact an2 | exact an3 | rfl | (simp; done) | fail) ?_)
        exact Ends.ro (H := d.h) rfl (eqvE_refl _) rfl
set_option maxRecDepth 100000 in
theorem uartUp (d : Dev) : Does TB 120 [.s (.ptr 0 6)] d.h (fun v h' => v = .s (.bool d.s.raised) ∧ h' = d.h) := by
  refine fnXD_does TB Tryz.func120 rfl (by decide) (fun O on hO => ?_)
  refine (lock_spec (b := 0) (o := 6) rfl rfl rfl).mono ?_
  rintro _ h' ⟨rfl, hh⟩
  have hh : h' = d.hh := hh
  subst hh
  refine ⟨⟨_, _, _, rfl⟩, fun O' on' hO' hle => ?_⟩
  refine Does.atc (uartRaised d) [0, 1, 2, 3] rfl ⟨rfl, rfl, rfl, rfl, trivial⟩ (by decide) ?_
  repeat (refine need_intro (by first | exact fun h => h | exact nt | exact an2 | exact an3 | rfl | (simp; done) | fail) ?_)
  refine (unlock_spec (b := 0) (o := 6) rfl rfl rfl).mono ?_
  rintro _ h' ⟨_, hh⟩
  have hh : h' = d.h := hh
  subst hh
  exact Ends.ro (H := d.h) rfl (eqvE_refl _) rfl
end Go.Proofs.YtdlpmbghocabbaaGreatDoor

/- The bus: the interrupts that are pending. Contracts of functions. -/
namespace Go.Proofs.YtdlpmbghocabbaaGreatDoor
open Go Go.Anv
set_option maxRecDepth 100000 in
set_option maxHeartbeats 2000000 in
theorem busMip (d : Dev) : Does TB 96 [.s (.ptr 0 0)] d.h (fun v h' => v = .s (.int .u64 d.s.mip.toNat) ∧ h' = d.h) := by
  refine fnX_does TB Tryz.func96 rfl (by decide) (fun O on hO => ?_)
  have q1 : (bif ((d.s.msip.toNat : Int) == 1) then true else d.s.soft) = true ↔ (d.s.msip = 1#32 ∨ d.s.soft = true) := by
    rw [show ((d.s.msip.toNat : Int) == 1) = (d.s.msip == 1#32) from beq_lit _ 1 (by decide) (by decide)]
    cases h : d.s.soft <;> simp
  have q2 : decide ((d.s.now.toNat : Int) ≥ (d.s.cmp.toNat : Int)) = decide (d.s.cmp ≤ d.s.now) := ge_nat _ _
  repeat (refine need_intro (by first | exact fun h => h | exact nt | exact an2 | exact an3 | rfl | (simp; done) | fail) ?_)
  refine ifB_intro (fun g1 => ?_) (fun g1 => ?_)
  · refine draw_held on rfl (fun _ _ h => h) ?_
    repeat (refine need_intro (by first | exact fun h => h | exact nt | exact an2 | exact an3 | rfl | (simp; done) | fail) ?_)
    refine ifB_intro (fun g2 => ?_) (fun g2 => ?_)
    · repeat (refine need_intro (by first | exact fun h => h | exact nt | exact an2 | exact an3 | rfl | (simp; done) | fail) ?_)
      refine ifB_intro (fun g3 => ?_) (fun g3 => ?_)
      · have e3 : d.s.ext = false := by cases h : d.s.ext; rfl; rw [h] at g3; cases g3
        refine Does.ungd (b := [.s (.ptr 0 6)]) ⟨⟨g3, rfl⟩, trivial⟩ ?_
        refine Does.atc (uartUp d) [0, 1, 2, 3] rfl ⟨rfl, rfl, rfl, rfl, trivial⟩ (by decide) ?_
        repeat (refine need_intro (by first | exact g3 | exact fun h => h | exact nt | exact an2 | exact an3 | rfl | (simp; done) | fail) ?_)
        refine ifB_intro (fun g4 => ?_) (fun g4 => ?_)
        · have h3 : d.s.ext = true ∨ d.s.raised = true := by
            rw [e3] at g4; exact .inr g4
          repeat (refine need_intro (by first | exact fun h => h | exact nt | exact an2 | exact an3 | rfl | (simp; done) | fail) ?_)
          refine Ends.ro (H := d.h) rfl ⟨rfl, ?_⟩ rfl
          unfold BusV.mip
          rw [if_pos (q1.1 g1), if_pos (of_decide_eq_true (q2.symm.trans g2)), if_pos h3]
          rfl
        · have h3 : ¬ (d.s.ext = true ∨ d.s.raised = true) := by
            rw [e3] at g4
            rintro (h | h)
            · rw [e3] at h; cases h
            · have g4 : d.s.raised = false := g4
              rw [h] at g4; cases g4
          repeat (refine need_intro (by first | exact fun h => h | exact nt | exact an2 | exact an3 | rfl | (simp; done) | fail) ?_)
          refine Ends.ro (H := d.h) rfl ⟨rfl, ?_⟩ rfl
          unfold BusV.mip
          rw [if_pos (q1.1 g1), if_pos (of_decide_eq_true (q2.symm.trans g2)), if_neg h3]
          rfl
      · have e3 : d.s.ext = true := by cases h : d.s.ext; rw [h] at g3; cases g3; rfl
        have h3 : d.s.ext = true ∨ d.s.raised = true := .inl e3
        repeat (first | refine ifB_intro (fun h => absurd (h.symm.trans g3) (by decide)) (fun _ => ?_) | refine ifB_intro (fun _ => ?_) (fun h => absurd (e3.symm.trans h) (by decide)) | refine need_intro (by first | exact fun h => absurd (h.symm.trans g3) (by decide) | exact e3 | exact fun h => h | exact nt | exact an2 | exact an3 | rfl | (simp; done) | fail) ?_)
        repeat (refine need_intro (by first | exact fun h => h | exact nt | exact an2 | exact an3 | rfl | (simp; done) | fail) ?_)
        refine Ends.ro (H := d.h) rfl ⟨rfl, ?_⟩ rfl
        unfold BusV.mip
        rw [if_pos (q1.1 g1), if_pos (of_decide_eq_true (q2.symm.trans g2)), if_pos h3]
        rfl
    · repeat (refine need_intro (by first | exact fun h => h | exact nt | exact an2 | exact an3 | rfl | (simp; done) | fail) ?_)
      refine ifB_intro (fun g3 => ?_) (fun g3 => ?_)
      · have e3 : d.s.ext = false := by cases h : d.s.ext; rfl; rw [h] at g3; cases g3
        refine Does.ungd (b := [.s (.ptr 0 6)]) ⟨⟨g3, rfl⟩, trivial⟩ ?_
        refine Does.atc (uartUp d) [0, 1, 2, 3] rfl ⟨rfl, rfl, rfl, rfl, trivial⟩ (by decide) ?_
        repeat (refine need_intro (by first | exact g3 | exact fun h => h | exact nt | exact an2 | exact an3 | rfl | (simp; done) | fail) ?_)
        refine ifB_intro (fun g4 => ?_) (fun g4 => ?_)
        · have h3 : d.s.ext = true ∨ d.s.raised = true := by
            rw [e3] at g4; exact .inr g4
          repeat (refine need_intro (by first | exact fun h => h | exact nt | exact an2 | exact an3 | rfl | (simp; done) | fail) ?_)
          refine Ends.ro (H := d.h) rfl ⟨rfl, ?_⟩ rfl
          unfold BusV.mip
          rw [if_pos (q1.1 g1), if_neg (of_decide_eq_false (q2.symm.trans g2)), if_pos h3]
          rfl
        · have h3 : ¬ (d.s.ext = true ∨ d.s.raised = true) := by
            rw [e3] at g4
            rintro (h | h)
            · rw [e3] at h; cases h
            · have g4 : d.s.raised = false := g4
              rw [h] at g4; cases g4
          repeat (refine need_intro (by first | exact fun h => h | exact nt | exact an2 | exact an3 | rfl | (simp; done) | fail) ?_)
          refine Ends.ro (H := d.h) rfl ⟨rfl, ?_⟩ rfl
          unfold BusV.mip
          rw [if_pos (q1.1 g1), if_neg (of_decide_eq_false (q2.symm.trans g2)), if_neg h3]
          rfl
      · have e3 : d.s.ext = true := by cases h : d.s.ext; rw [h] at g3; cases g3; rfl
        have h3 : d.s.ext = true ∨ d.s.raised = true := .inl e3
        repeat (first | refine ifB_intro (fun h => absurd (h.symm.trans g3) (by decide)) (fun _ => ?_) | refine ifB_intro (fun _ => ?_) (fun h => absurd (e3.symm.trans h) (by decide)) | refine need_intro (by first | exact fun h => absurd (h.symm.trans g3) (by decide) | exact e3 | exact fun h => h | exact nt | exact an2 | exact an3 | rfl | (simp; done) | fail) ?_)
        repeat (refine need_intro (by first | exact fun h => h | exact nt | exact an2 | exact an3 | rfl | (simp; done) | fail) ?_)
        refine Ends.ro (H := d.h) rfl ⟨rfl, ?_⟩ rfl
        unfold BusV.mip
        rw [if_pos (q1.1 g1), if_neg (of_decide_eq_false (q2.symm.trans g2)), if_pos h3]
        rfl
  · refine draw_held on rfl (fun _ _ h => h) ?_
    repeat (refine need_intro (by first | exact fun h => h | exact nt | exact an2 | exact an3 | rfl | (simp; done) | fail) ?_)
    refine ifB_intro (fun g2 => ?_) (fun g2 => ?_)
    · repeat (refine need_intro (by first | exact fun h => h | exact nt | exact an2 | exact an3 | rfl | (simp; done) | fail) ?_)
      refine ifB_intro (fun g3 => ?_) (fun g3 => ?_)
      · have e3 : d.s.ext = false := by cases h : d.s.ext; rfl; rw [h] at g3; cases g3
        refine Does.ungd (b := [.s (.ptr 0 6)]) ⟨⟨g3, rfl⟩, trivial⟩ ?_
        refine Does.atc (uartUp d) [0, 1, 2, 3] rfl ⟨rfl, rfl, rfl, rfl, trivial⟩ (by decide) ?_
        repeat (refine need_intro (by first | exact g3 | exact fun h => h | exact nt | exact an2 | exact an3 | rfl | (simp; done) | fail) ?_)
        refine ifB_intro (fun g4 => ?_) (fun g4 => ?_)
        · have h3 : d.s.ext = true ∨ d.s.raised = true := by
            rw [e3] at g4; exact .inr g4
          repeat (refine need_intro (by first | exact fun h => h | exact nt | exact an2 | exact an3 | rfl | (simp; done) | fail) ?_)
          refine Ends.ro (H := d.h) rfl ⟨rfl, ?_⟩ rfl
          unfold BusV.mip
          rw [if_neg (fun h => by rw [q1.2 h] at g1; cases g1), if_pos (of_decide_eq_true (q2.symm.trans g2)), if_pos h3]
          rfl
        · have h3 : ¬ (d.s.ext = true ∨ d.s.raised = true) := by
            rw [e3] at g4
            rintro (h | h)
            · rw [e3] at h; cases h
            · have g4 : d.s.raised = false := g4
              rw [h] at g4; cases g4
          repeat (refine need_intro (by first | exact fun h => h | exact nt | exact an2 | exact an3 | rfl | (simp; done) | fail) ?_)
          refine Ends.ro (H := d.h) rfl ⟨rfl, ?_⟩ rfl
          unfold BusV.mip
          rw [if_neg (fun h => by rw [q1.2 h] at g1; cases g1), if_pos (of_decide_eq_true (q2.symm.trans g2)), if_neg h3]
          rfl
      · have e3 : d.s.ext = true := by cases h : d.s.ext; rw [h] at g3; cases g3; rfl
        have h3 : d.s.ext = true ∨ d.s.raised = true := .inl e3
        repeat (first | refine ifB_intro (fun h => absurd (h.symm.trans g3) (by decide)) (fun _ => ?_) | refine ifB_intro (fun _ => ?_) (fun h => absurd (e3.symm.trans h) (by decide)) | refine need_intro (by first | exact fun h => absurd (h.symm.trans g3) (by decide) | exact e3 | exact fun h => h | exact nt | exact an2 | exact an3 | rfl | (simp; done) | fail) ?_)
        repeat (refine need_intro (by first | exact fun h => h | exact nt | exact an2 | exact an3 | rfl | (simp; done) | fail) ?_)
        refine Ends.ro (H := d.h) rfl ⟨rfl, ?_⟩ rfl
        unfold BusV.mip
        rw [if_neg (fun h => by rw [q1.2 h] at g1; cases g1), if_pos (of_decide_eq_true (q2.symm.trans g2)), if_pos h3]
        rfl
    · repeat (refine need_intro (by first | exact fun h => h | exact nt | exact an2 | exact an3 | rfl | (simp; done) | fail) ?_)
      refine ifB_intro (fun g3 => ?_) (fun g3 => ?_)
      · have e3 : d.s.ext = false := by cases h : d.s.ext; rfl; rw [h] at g3; cases g3
        refine Does.ungd (b := [.s (.ptr 0 6)]) ⟨⟨g3, rfl⟩, trivial⟩ ?_
        refine Does.atc (uartUp d) [0, 1, 2, 3] rfl ⟨rfl, rfl, rfl, rfl, trivial⟩ (by decide) ?_
        repeat (refine need_intro (by first | exact g3 | exact fun h => h | exact nt | exact an2 | exact an3 | rfl | (simp; done) | fail) ?_)
        refine ifB_intro (fun g4 => ?_) (fun g4 => ?_)
        · have h3 : d.s.ext = true ∨ d.s.raised = true := by
            rw [e3] at g4; exact .inr g4
          repeat (refine need_intro (by first | exact fun h => h | exact nt | exact an2 | exact an3 | rfl | (simp; done) | fail) ?_)
          refine Ends.ro (H := d.h) rfl ⟨rfl, ?_⟩ rfl
          unfold BusV.mip
          rw [if_neg (fun h => by rw [q1.2 h] at g1; cases g1), if_neg (of_decide_eq_false (q2.symm.trans g2)), if_pos h3]
          rfl
        · have h3 : ¬ (d.s.ext = true ∨ d.s.raised = true) := by
            rw [e3] at g4
            rintro (h | h)
            · rw [e3] at h; cases h
            · have g4 : d.s.raised = false := g4
              rw [h] at g4; cases g4
          repeat (refine need_intro (by first | exact fun h => h | exact nt | exact an2 | exact an3 | rfl | (simp; done) | fail) ?_)
          refine Ends.ro (H := d.h) rfl ⟨rfl, ?_⟩ rfl
          unfold BusV.mip
          rw [if_neg (fun h => by rw [q1.2 h] at g1; cases g1), if_neg (of_decide_eq_false (q2.symm.trans g2)), if_neg h3]
          rfl
      · have e3 : d.s.ext = true := by cases h : d.s.ext; rw [h] at g3; cases g3; rfl
        have h3 : d.s.ext = true ∨ d.s.raised = true := .inl e3
        repeat (first | refine ifB_intro (fun h => absurd (h.symm.trans g3) (by decide)) (fun _ => ?_) | refine ifB_intro (fun _ => ?_) (fun h => absurd (e3.symm.trans h) (by decide)) | refine need_intro (by first | exact fun h => absurd (h.symm.trans g3) (by decide) | exact e3 | exact fun h => h | exact nt | exact an2 | exact an3 | rfl | (simp; done) | fail) ?_)
        repeat (refine need_intro (by first | exact fun h => h | exact nt | exact an2 | exact an3 | rfl | (simp; done) | fail) ?_)
        refine Ends.ro (H := d.h) rfl ⟨rfl, ?_⟩ rfl
        unfold BusV.mip
        rw [if_neg (fun h => by rw [q1.2 h] at g1; cases g1), if_neg (of_decide_eq_false (q2.symm.trans g2)), if_pos h3]
        rfl
end Go.Proofs.YtdlpmbghocabbaaGreatDoor

/- The bus: a store into the console. Contracts of functions. -/
namespace Go.Proofs.YtdlpmbghocabbaaGreatDoor
open Go Go.Anv
set_option maxRecDepth 100000 in
theorem uartStore_1 (d : Dev) (n : Nat) (v : B64) : Does TB 281 [.s (.ptr 0 6), .s (.int .u64 268435457), .s (.int .i64 n), .s (.int .u64 v.toNat)] d.h (fun r h' => r = .tuple [] ∧ h' = { d with s := { d.s with ier := (v &&& 15#64).setWidth 8 } }.h) := by
  refine fnXD_does TB Tryz.func281 rfl (by decide) (fun O on hO => ?_)
  refine (lock_spec (b := 0) (o := 6) rfl rfl rfl).mono ?_
  rintro _ h' ⟨rfl, hh⟩
  have hh : h' = d.hh := hh
  subst hh
  refine ⟨⟨_, _, _, rfl⟩, fun O' on' hO' hle => ?_⟩
  have em : IntKind.u8.wrap (bitX .and .u64 (v.toNat : Int) 15) = (((v &&& 15#64).setWidth 8).toNat : Int) := by
    rw [and_u64, ofInt_toNat]; exact low8 _
  repeat (refine need_intro (by first | exact fun h => h | exact nt | exact an2 | exact an3 | rfl | (simp; done) | fail) ?_)
  refine (unlock_spec (b := 0) (o := 6) rfl rfl rfl).mono ?_
  rintro _ h' ⟨_, hh⟩
  subst hh
  refine endsDev (d := d) (d' := { d with s := { d.s with ier := (v &&& 15#64).setWidth 8 } }) ?_ rfl rfl rfl _
  repeat' (first | exact eqvS_nil | refine eqvS_same ?_ | refine ⟨⟨rfl, em⟩, ?_⟩)
set_option maxRecDepth 100000 in
theorem uartStore_3 (d : Dev) (n : Nat) (v : B64) : Does TB 281 [.s (.ptr 0 6), .s (.int .u64 268435459), .s (.int .i64 n), .s (.int .u64 v.toNat)] d.h (fun r h' => r = .tuple [] ∧ h' = { d with s := { d.s with lcr := v.setWidth 8 } }.h) := by
  refine fnXD_does TB Tryz.func281 rfl (by decide) (fun O on hO => ?_)
  refine (lock_spec (b := 0) (o := 6) rfl rfl rfl).mono ?_
  rintro _ h' ⟨rfl, hh⟩
  have hh : h' = d.hh := hh
  subst hh
  refine ⟨⟨_, _, _, rfl⟩, fun O' on' hO' hle => ?_⟩
  have em : IntKind.u8.wrap (v.toNat : Int) = ((v.setWidth 8).toNat : Int) := low8 v
  repeat (refine need_intro (by first | exact fun h => h | exact nt | exact an2 | exact an3 | rfl | (simp; done) | fail) ?_)
  refine (unlock_spec (b := 0) (o := 6) rfl rfl rfl).mono ?_
  rintro _ h' ⟨_, hh⟩
  subst hh
  refine endsDev (d := d) (d' := { d with s := { d.s with lcr := v.setWidth 8 } }) ?_ rfl rfl rfl _
  repeat' (first | exact eqvS_nil | refine eqvS_same ?_ | refine ⟨⟨rfl, em⟩, ?_⟩)
set_option maxRecDepth 100000 in
theorem uartStore_4 (d : Dev) (n : Nat) (v : B64) : Does TB 281 [.s (.ptr 0 6), .s (.int .u64 268435460), .s (.int .i64 n), .s (.int .u64 v.toNat)] d.h (fun r h' => r = .tuple [] ∧ h' = { d with s := { d.s with mcr := (v &&& 31#64).setWidth 8 } }.h) := by
  refine fnXD_does TB Tryz.func281 rfl (by decide) (fun O on hO => ?_)
  refine (lock_spec (b := 0) (o := 6) rfl rfl rfl).mono ?_
  rintro _ h' ⟨rfl, hh⟩
  have hh : h' = d.hh := hh
  subst hh
  refine ⟨⟨_, _, _, rfl⟩, fun O' on' hO' hle => ?_⟩
  have em : IntKind.u8.wrap (bitX .and .u64 (v.toNat : Int) 31) = (((v &&& 31#64).setWidth 8).toNat : Int) := by
    rw [and_u64, ofInt_toNat]; exact low8 _
  repeat (refine need_intro (by first | exact fun h => h | exact nt | exact an2 | exact an3 | rfl | (simp; done) | fail) ?_)
  refine (unlock_spec (b := 0) (o := 6) rfl rfl rfl).mono ?_
  rintro _ h' ⟨_, hh⟩
  subst hh
  refine endsDev (d := d) (d' := { d with s := { d.s with mcr := (v &&& 31#64).setWidth 8 } }) ?_ rfl rfl rfl _
  repeat' (first | exact eqvS_nil | refine eqvS_same ?_ | refine ⟨⟨rfl, em⟩, ?_⟩)
set_option maxRecDepth 100000 in
theorem uartStore_7 (d : Dev) (n : Nat) (v : B64) : Does TB 281 [.s (.ptr 0 6), .s (.int .u64 268435463), .s (.int .i64 n), .s (.int .u64 v.toNat)] d.h (fun r h' => r = .tuple [] ∧ h' = { d with s := { d.s with scratch := v.setWidth 8 } }.h) := by
  refine fnXD_does TB Tryz.func281 rfl (by decide) (fun O on hO => ?_)
  refine (lock_spec (b := 0) (o := 6) rfl rfl rfl).mono ?_
  rintro _ h' ⟨rfl, hh⟩
  have hh : h' = d.hh := hh
  subst hh
  refine ⟨⟨_, _, _, rfl⟩, fun O' on' hO' hle => ?_⟩
  have em : IntKind.u8.wrap (v.toNat : Int) = ((v.setWidth 8).toNat : Int) := low8 v
  repeat (refine need_intro (by first | exact fun h => h | exact nt | exact an2 | exact an3 | rfl | (simp; done) | fail) ?_)
  refine (unlock_spec (b := 0) (o := 6) rfl rfl rfl).mono ?_
  rintro _ h' ⟨_, hh⟩
  subst hh
  refine endsDev (d := d) (d' := { d with s := { d.s with scratch := v.setWidth 8 } }) ?_ rfl rfl rfl _
  repeat' (first | exact eqvS_nil | refine eqvS_same ?_ | refine ⟨⟨rfl, em⟩, ?_⟩)
set_option maxRecDepth 100000 in
theorem uartStore_5 (d : Dev) (n : Nat) (v : B64) : Does TB 281 [.s (.ptr 0 6), .s (.int .u64 268435461), .s (.int .i64 n), .s (.int .u64 v.toNat)] d.h (fun r h' => r = .tuple [] ∧ h' = d.h) := by
  refine fnXD_does TB Tryz.func281 rfl (by decide) (fun O on hO => ?_)
  refine (lock_spec (b := 0) (o := 6) rfl rfl rfl).mono ?_
  rintro _ h' ⟨rfl, hh⟩
  have hh : h' = d.hh := hh
  subst hh
  refine ⟨⟨_, _, _, rfl⟩, fun O' on' hO' hle => ?_⟩
  repeat (refine need_intro (by first | exact fun h => h | exact nt | exact an2 | exact an3 | rfl | (simp; done) | fail) ?_)
  refine (unlock_spec (b := 0) (o := 6) rfl rfl rfl).mono ?_
  rintro _ h' ⟨_, hh⟩
  subst hh
  exact Ends.ro (H := d.h) rfl (eqvE_refl _) rfl
set_option maxRecDepth 100000 in
theorem uartStore_6 (d : Dev) (n : Nat) (v : B64) : Does TB 281 [.s (.ptr 0 6), .s (.int .u64 268435462), .s (.int .i64 n), .s (.int .u64 v.toNat)] d.h (fun r h' => r = .tuple [] ∧ h' = d.h) := by
  refine fnXD_does TB Tryz.func281 rfl (by decide) (fun O on hO => ?_)
  refine (lock_spec (b := 0) (o := 6) rfl rfl rfl).mono ?_
  rintro _ h' ⟨rfl, hh⟩
  have hh : h' = d.hh := hh
  subst hh
  refine ⟨⟨_, _, _, rfl⟩, fun O' on' hO' hle => ?_⟩
  repeat (refine need_intro (by first | exact fun h => h | exact nt | exact an2 | exact an3 | rfl | (simp; done) | fail) ?_)
  refine (unlock_spec (b := 0) (o := 6) rfl rfl rfl).mono ?_
  rintro _ h' ⟨_, hh⟩
  subst hh
  exact Ends.ro (H := d.h) rfl (eqvE_refl _) rfl
end Go.Proofs.YtdlpmbghocabbaaGreatDoor

/- The bus: stores into the console that move a queue. Contracts of functions. -/
namespace Go.Anv
open Go
/-- The input is thrown away. -/
def Dev.clear (d : Dev) : Dev := { d with s := { d.s with ni := 0 }, ci := 0 }
/-- A byte goes out. -/
def Dev.send (d : Dev) (v : B8) (c : Nat) : Dev := { d with s := { d.s with no := d.s.no + 1 }, out := fun j => if j = d.s.no then v else d.out j, co := c }
end Go.Anv
namespace Go.Proofs.YtdlpmbghocabbaaGreatDoor
open Go Go.Anv
set_option maxRecDepth 100000 in
theorem uartStore_2no (d : Dev) (n : Nat) (v : B64) (hv : v &&& 2#64 = 0#64) : Does TB 281 [.s (.ptr 0 6), .s (.int .u64 268435458), .s (.int .i64 n), .s (.int .u64 v.toNat)] d.h (fun r h' => r = .tuple [] ∧ h' = d.h) := by
  refine fnXD_does TB Tryz.func281 rfl (by decide) (fun O on hO => ?_)
  refine (lock_spec (b := 0) (o := 6) rfl rfl rfl).mono ?_
  rintro _ h' ⟨rfl, hh⟩
  have hh : h' = d.hh := hh
  subst hh
  refine ⟨⟨_, _, _, rfl⟩, fun O' on' hO' hle => ?_⟩
  have e : (bitX .and .u64 (v.toNat : Int) 2 != 0) = false := by
    rw [and_u64, ofInt_toNat, show v &&& BitVec.ofInt 64 2 = v &&& 2#64 from rfl, hv]; rfl
  repeat (refine need_intro (by first | exact fun h => h | exact nt | exact an2 | exact an3 | rfl | (simp; done) | fail) ?_)
  refine ifB_intro (fun h => absurd (h.symm.trans e) (by decide)) (fun _ => ?_)
  refine (unlock_spec (b := 0) (o := 6) rfl rfl rfl).mono ?_
  rintro _ h' ⟨_, hh⟩
  subst hh
  exact Ends.ro (H := d.h) rfl (eqvE_refl _) rfl
set_option maxRecDepth 100000 in
theorem uartStore_2raw (d : Dev) (n : Nat) (v : B64) (hv : v &&& 2#64 ≠ 0#64) : Does TB 281 [.s (.ptr 0 6), .s (.int .u64 268435458), .s (.int .i64 n), .s (.int .u64 v.toNat)] d.h (fun r h' => r = .tuple [] ∧ h' = [.cells true (d.s.dev 0 (.gs 1 0 d.s.nr d.cr) .nilslice (.gs 3 0 d.s.no d.co)) 0, d.rb, d.ib, d.ob]) := by
  refine fnXD_does TB Tryz.func281 rfl (by decide) (fun O on hO => ?_)
  refine (lock_spec (b := 0) (o := 6) rfl rfl rfl).mono ?_
  rintro _ h' ⟨rfl, hh⟩
  have hh : h' = d.hh := hh
  subst hh
  refine ⟨⟨_, _, _, rfl⟩, fun O' on' hO' hle => ?_⟩
  have e : (bitX .and .u64 (v.toNat : Int) 2 != 0) = true := by
    rw [and_u64, ofInt_toNat, bne_lit _ 0 (by decide) (by decide), show v &&& BitVec.ofInt 64 2 = v &&& 2#64 from rfl]
    exact bne_iff_ne.2 hv
  repeat (refine need_intro (by first | exact fun h => h | exact nt | exact an2 | exact an3 | rfl | (simp; done) | fail) ?_)
  refine ifB_intro (fun _ => ?_) (fun h => absurd (e.symm.trans h) (by decide))
  repeat (refine need_intro (by first | exact fun h => h | exact nt | exact an2 | exact an3 | rfl | (simp; done) | fail) ?_)
  refine (unlock_spec (b := 0) (o := 6) rfl rfl rfl).mono ?_
  rintro _ h' ⟨_, hh⟩
  subst hh
  refine Ends.ro (H := [.cells true (d.s.dev 0 (.gs 1 0 d.s.nr d.cr) .nilslice (.gs 3 0 d.s.no d.co)) 0, d.rb, d.ib, d.ob]) ?_ ?_ ?_
  · rfl
  · exact eqvE_refl _
  · rfl
theorem uartStore_2 (d : Dev) (n : Nat) (v : B64) (hv : v &&& 2#64 ≠ 0#64) : Does TB 281 [.s (.ptr 0 6), .s (.int .u64 268435458), .s (.int .i64 n), .s (.int .u64 v.toNat)] d.h (fun r h' => r = .tuple [] ∧ h' = d.clear.h2) := by
  refine ((uartStore_2raw d n v hv).ghH .u8 (bfun d.inp) 0 rfl).tell ?_
  rintro _ _ ⟨rfl, rfl⟩
  exact ⟨_, d.clear.h2, [0, 1, 2, 3, 4, 3], ⟨rfl, rfl⟩, rfl, ⟨rfl, rfl, rfl, rfl, trivial⟩, eqvE_refl _, ⟨⟨_, rfl, eqvB_refl _⟩, ⟨_, rfl, eqvB_refl _⟩, rfl, rfl, ⟨_, rfl, eqvB_refl _⟩, ⟨_, rfl, eqvB_refl _⟩, trivial⟩⟩
end Go.Proofs.YtdlpmbghocabbaaGreatDoor

/- The bus: a byte goes out. Contracts of functions. -/
namespace Go.Proofs.YtdlpmbghocabbaaGreatDoor
open Go Go.Anv
set_option maxRecDepth 100000 in
set_option maxHeartbeats 2000000 in
theorem uartStore_0raw (d : Dev) (n : Nat) (v : B64) (hn : d.s.no < 4096) (hco : d.s.no ≤ d.co) : Does TB 281 [.s (.ptr 0 6), .s (.int .u64 268435456), .s (.int .i64 n), .s (.int .u64 v.toNat)] d.h
    (fun r h' => ∃ c, d.s.no + 1 ≤ c ∧ r = .tuple [] ∧ h' = [.cells true (d.s.dev 0 (.gs 1 0 d.s.nr d.cr) (.gs 2 0 d.s.ni d.ci) (.gs 4 0 (d.s.no + 1) c)) 0, d.rb, d.ib, .dead, (d.send (v.setWidth 8) c).ob]) := by
  refine fnXD_does TB Tryz.func281 rfl (by decide) (fun O on hO => ?_)
  refine (lock_spec (b := 0) (o := 6) rfl rfl rfl).mono ?_
  rintro _ h' ⟨rfl, hh⟩
  have hh : h' = d.hh := hh
  subst hh
  refine ⟨⟨_, _, _, rfl⟩, fun O' on' hO' hle => ?_⟩
  have e : decide ((d.s.no : Int) < 4096) = true := decide_eq_true (by omega)
  repeat (refine need_intro (by first | exact fun h => h | exact nt | exact an2 | exact an3 | rfl | (simp; done) | fail) ?_)
  refine ifB_intro (fun _ => ?_) (fun h => absurd (e.symm.trans h) (by decide))
  repeat (refine need_intro (by first | exact fun h => h | exact nt | exact an2 | exact an3 | rfl | (simp; done) | fail) ?_)
  refine need_intro ⟨Nat.le_refl _, (by show d.s.no + 0 = d.s.no * 1; omega), (by show d.co * 1 = d.s.no * 1 + (d.co - d.s.no); omega), room5 _ (by show d.s.no + 1 ≤ _; omega)⟩ ?_
  intro c hc
  have hc : d.s.no + 1 ≤ c := hc
  repeat (refine need_intro (by first | exact fun h => h | exact nt | exact an2 | exact an3 | rfl | (simp; done) | fail) ?_)
  refine (unlock_spec (b := 0) (o := 6) rfl rfl rfl).mono ?_
  rintro _ h' ⟨_, hh⟩
  subst hh
  refine ⟨_, _, [0, 1, 2, 3, 5], ⟨c, hc, rfl, rfl⟩, by decide, ⟨rfl, rfl, rfl, rfl, trivial⟩, eqvE_refl _, ⟨⟨_, rfl, eqvB_refl _⟩, ⟨_, rfl, eqvB_refl _⟩, ⟨_, rfl, eqvB_refl _⟩, ⟨_, rfl, eqvB_refl _⟩, ⟨_, rfl, ?_⟩, trivial⟩⟩
  refine ⟨rfl, (by show (c - (d.s.no + 1)) * 1 = c - (d.s.no + 1); omega), ⟨⟨rfl, rfl, fun j hj => ?_⟩, trivial⟩⟩
  have hj : j < d.s.no + 1 := hj
  show catF d.s.no (bfun d.out) (shf 0 (litF [IntKind.u8.wrap (v.toNat : Int)])) j = ((if j = d.s.no then v.setWidth 8 else d.out j).toNat : Int)
  unfold catF
  by_cases h : j < d.s.no
  · rw [if_pos h, if_neg (by omega)]; rfl
  · have : j = d.s.no := by omega
    subst this
    rw [if_neg h, if_pos rfl, Nat.sub_self]
    exact low8 v
theorem uartStore_0 (d : Dev) (n : Nat) (v : B64) (hn : d.s.no < 4096) (hco : d.s.no ≤ d.co) : Does TB 281 [.s (.ptr 0 6), .s (.int .u64 268435456), .s (.int .i64 n), .s (.int .u64 v.toNat)] d.h
    (fun r h' => ∃ c, d.s.no + 1 ≤ c ∧ r = .tuple [] ∧ h' = (d.send (v.setWidth 8) c).h2) := by
  refine (uartStore_0raw d n v hn hco).tell ?_
  rintro _ _ ⟨c, hc, rfl, rfl⟩
  exact ⟨_, (d.send (v.setWidth 8) c).h2, [0, 1, 2, 3, 2, 4], ⟨c, hc, rfl, rfl⟩, rfl, ⟨rfl, rfl, rfl, rfl, trivial⟩, eqvE_refl _, ⟨⟨_, rfl, eqvB_refl _⟩, ⟨_, rfl, eqvB_refl _⟩, rfl, rfl, ⟨_, rfl, eqvB_refl _⟩, ⟨_, rfl, eqvB_refl _⟩, trivial⟩⟩
end Go.Proofs.YtdlpmbghocabbaaGreatDoor

/- The bus: a store into the console, uniform. Contracts of functions. -/
namespace Go.Anv
open Go
/-- The bus behind a store into the console's register k; c: the room of a queue that moved. -/
def Dev.ust (d : Dev) (k : Nat) (v : B64) (c : Nat) : Dev :=
  if k = 0 then (if d.s.no < 4096 then d.send (v.setWidth 8) c else d) else if k = 1 then { d with s := { d.s with ier := (v &&& 15#64).setWidth 8 } } else if k = 2 then (if v &&& 2#64 = 0#64 then d else d.clear)
  else if k = 3 then { d with s := { d.s with lcr := v.setWidth 8 } } else if k = 4 then { d with s := { d.s with mcr := (v &&& 31#64).setWidth 8 } } else if k = 7 then { d with s := { d.s with scratch := v.setWidth 8 } } else d
/-- The rooms hold what is in them. -/
def Dev.fits (d : Dev) : Prop := d.s.nr ≤ d.cr ∧ d.s.ni ≤ d.ci ∧ d.s.no ≤ d.co
end Go.Anv
namespace Go.Proofs.YtdlpmbghocabbaaGreatDoor
open Go Go.Anv
set_option maxRecDepth 100000 in
set_option maxHeartbeats 2000000 in
theorem uartStore_0full (d : Dev) (n : Nat) (v : B64) (hn : ¬ d.s.no < 4096) : Does TB 281 [.s (.ptr 0 6), .s (.int .u64 268435456), .s (.int .i64 n), .s (.int .u64 v.toNat)] d.h (fun r h' => r = .tuple [] ∧ h' = d.h) := by
  refine fnXD_does TB Tryz.func281 rfl (by decide) (fun O on hO => ?_)
  refine (lock_spec (b := 0) (o := 6) rfl rfl rfl).mono ?_
  rintro _ h' ⟨rfl, hh⟩
  have hh : h' = d.hh := hh
  subst hh
  refine ⟨⟨_, _, _, rfl⟩, fun O' on' hO' hle => ?_⟩
  have e : decide ((d.s.no : Int) < 4096) = false := decide_eq_false (by omega)
  repeat (refine need_intro (by first | exact fun h => h | exact nt | exact an2 | exact an3 | rfl | (simp; done) | fail) ?_)
  refine ifB_intro (fun h => absurd (h.symm.trans e) (by decide)) (fun _ => ?_)
  repeat (refine need_intro (by first | exact fun h => h | exact nt | exact an2 | exact an3 | rfl | (simp; done) | fail) ?_)
  refine (unlock_spec (b := 0) (o := 6) rfl rfl rfl).mono ?_
  rintro _ h' ⟨_, hh⟩
  subst hh
  exact Ends.ro (H := d.h) rfl (eqvE_refl _) rfl
/-- A store into the console, in the uniform form. -/
theorem uartStore (d : Dev) (k n : Nat) (v : B64) (hk : k ≤ 7) (hf : d.fits) : Does TB 281 [.s (.ptr 0 6), .s (.int .u64 ((268435456 + k : Nat) : Int)), .s (.int .i64 n), .s (.int .u64 v.toNat)] d.h
    (fun r h' => ∃ c, (d.ust k v c).fits ∧ r = .tuple [] ∧ h' = (d.ust k v c).h2) := by
  have h8 : k = 0 ∨ k = 1 ∨ k = 2 ∨ k = 3 ∨ k = 4 ∨ k = 5 ∨ k = 6 ∨ k = 7 := by omega
  rcases h8 with rfl | rfl | rfl | rfl | rfl | rfl | rfl | rfl
  · by_cases h : d.s.no < 4096
    · refine (uartStore_0 d n v h hf.2.2).mono ?_
      rintro _ _ ⟨c, hc, rfl, rfl⟩
      have e : d.ust 0 v c = d.send (v.setWidth 8) c := by unfold Dev.ust; rw [if_pos rfl, if_pos h]
      exact ⟨c, by rw [e]; exact ⟨hf.1, hf.2.1, hc⟩, rfl, by rw [e]⟩
    · refine (Does.stay (uartStore_0full d n v h) rfl).mono ?_
      rintro _ _ ⟨rfl, rfl⟩
      have e : d.ust 0 v 0 = d := by unfold Dev.ust; rw [if_pos rfl, if_neg h]
      exact ⟨0, by rw [e]; exact hf, rfl, by rw [e]⟩
  · refine (Does.stay (uartStore_1 d n v) rfl).mono ?_
    rintro _ _ ⟨rfl, rfl⟩
    exact ⟨0, hf, rfl, rfl⟩
  · by_cases h : v &&& 2#64 = 0#64
    · refine (Does.stay (uartStore_2no d n v h) rfl).mono ?_
      rintro _ _ ⟨rfl, rfl⟩
      have e : d.ust 2 v 0 = d := by unfold Dev.ust; rw [if_neg (by decide), if_neg (by decide), if_pos rfl, if_pos h]
      exact ⟨0, by rw [e]; exact hf, rfl, by rw [e]⟩
    · refine (uartStore_2 d n v h).mono ?_
      rintro _ _ ⟨rfl, rfl⟩
      have e : d.ust 2 v 0 = d.clear := by unfold Dev.ust; rw [if_neg (by decide), if_neg (by decide), if_pos rfl, if_neg h]
      exact ⟨0, by rw [e]; exact ⟨hf.1, Nat.le_refl _, hf.2.2⟩, rfl, by rw [e]⟩
  · refine (Does.stay (uartStore_3 d n v) rfl).mono ?_
    rintro _ _ ⟨rfl, rfl⟩
    exact ⟨0, hf, rfl, rfl⟩
  · refine (Does.stay (uartStore_4 d n v) rfl).mono ?_
    rintro _ _ ⟨rfl, rfl⟩
    exact ⟨0, hf, rfl, rfl⟩
  · refine (Does.stay (uartStore_5 d n v) rfl).mono ?_
    rintro _ _ ⟨rfl, rfl⟩
    exact ⟨0, hf, rfl, rfl⟩
  · refine (Does.stay (uartStore_6 d n v) rfl).mono ?_
    rintro _ _ ⟨rfl, rfl⟩
    exact ⟨0, hf, rfl, rfl⟩
  · refine (Does.stay (uartStore_7 d n v) rfl).mono ?_
    rintro _ _ ⟨rfl, rfl⟩
    exact ⟨0, hf, rfl, rfl⟩
end Go.Proofs.YtdlpmbghocabbaaGreatDoor

/- The bus: a store. Contracts of functions. -/
namespace Go.Anv
open Go
/-- The bus behind a store; c: the room of a queue that moved. -/
def Dev.stored (d : Dev) (a : B64) (n : Nat) (v : B64) (c : Nat) : Dev :=
  match d.s.who a n with
  | some .ram => d.lay a n v
  | some .fin => { d with s := d.s.finish v }
  | some .clint => { d with s := d.s.cst a n v }
  | some .uart => d.ust (a.toNat - 268435456) v c
  | none => d
theorem who_ram {s : BusV} {a : B64} {n : Nat} (h : s.who a n = some .ram) : n ≤ 8 ∧ s.holds a n = true := by
  have hi : s.inRam a n = true := by
    unfold BusV.who at h
    split at h
    · assumption
    · split at h
      · cases h
      · split at h
        · cases h
        · split at h <;> cases h
  unfold BusV.inRam at hi
  simp only [Bool.and_eq_true] at hi
  refine ⟨?_, hi.2⟩
  have := hi.1.1
  unfold sizeOk at this
  simp only [Bool.or_eq_true, beq_iff_eq] at this
  omega
theorem who_uart {s : BusV} {a : B64} {n : Nat} (hw : s.who a n = some .uart) : 268435456 ≤ a.toNat ∧ a.toNat ≤ 268435463 := by
  unfold BusV.who at hw
  split at hw
  · cases hw
  · split at hw
    · cases hw
    · split at hw
      · cases hw
      · split at hw
        · rename_i g
          unfold uartAt at g
          simp only [Bool.and_eq_true, decide_eq_true_eq] at g
          exact g.1
        · cases hw
theorem finish_n (s : BusV) (v : B64) : (s.finish v).nr = s.nr ∧ (s.finish v).ni = s.ni ∧ (s.finish v).no = s.no := by
  unfold BusV.finish
  split
  · split
    · exact ⟨rfl, rfl, rfl⟩
    · split <;> exact ⟨rfl, rfl, rfl⟩
  · exact ⟨rfl, rfl, rfl⟩
theorem cst_n (s : BusV) (a : B64) (n : Nat) (v : B64) : (s.cst a n v).nr = s.nr ∧ (s.cst a n v).ni = s.ni ∧ (s.cst a n v).no = s.no := by
  unfold BusV.cst
  split
  · exact ⟨rfl, rfl, rfl⟩
  · dsimp only
    split <;> exact ⟨rfl, rfl, rfl⟩
end Go.Anv
namespace Go.Proofs.YtdlpmbghocabbaaGreatDoor
open Go Go.Anv
set_option maxRecDepth 100000 in
/-- A store that moves no queue. -/
theorem busStore_plain (d : Dev) (a : B64) (n : Nat) (v : B64) (hn : n ≤ 9223372036854775807) (hr : d.s.nr ≤ 65536) (hw : d.s.who a n ≠ some .uart) : Does TB 114 [.s (.ptr 0 0), .s (.int .u64 a.toNat), .s (.int .i64 n), .s (.int .u64 v.toNat)] d.h (fun r h' => r = .s (.bool (d.s.who a n).isSome) ∧ h' = (d.stored a n v 0).h) := by
  refine fnX_does TB Tryz.func114 rfl (by decide) (fun O on hO => ?_)
  have ha := busAt d a n hn hr
  unfold Dev.stored
  cases h : d.s.who a n with
  | none =>
    rw [h] at ha
    refine Does.atc (ha) [0, 1, 2, 3] rfl ⟨rfl, rfl, rfl, rfl, trivial⟩ (by decide) ?_
    repeat (refine need_intro (by first | exact fun h => h | exact nt | exact an2 | exact an3 | rfl | (simp; done) | fail) ?_)
    exact Ends.ro (H := d.h) rfl (eqvE_refl _) rfl
  | some w =>
    rw [h] at ha
    cases w with
    | ram =>
      have h1 := who_ram h
      have hs := ramStore d a n v h1.1 h1.2 hr
      generalize d.lay a n v = d' at hs ⊢
      refine Does.atc (ha) [0, 1, 2, 3] rfl ⟨rfl, rfl, rfl, rfl, trivial⟩ (by decide) ?_
      repeat (refine need_intro (by first | exact fun h => h | exact nt | exact an2 | exact an3 | rfl | (simp; done) | fail) ?_)
      refine Does.atn hs [0, 1, 2, 3] rfl ⟨rfl, rfl, rfl, rfl, trivial⟩ (by decide) ?_ ?_
      · rintro v h' ⟨_, rfl⟩
        exact ⟨.inl rfl, .inl rfl, .inl rfl, .inl rfl, trivial⟩
      rintro v h' ⟨rfl, rfl⟩
      repeat (refine need_intro (by first | exact fun h => h | exact nt | exact an2 | exact an3 | rfl | (simp; done) | fail) ?_)
      exact ⟨_, _, [0, 1, 2, 3], ⟨rfl, rfl⟩, by decide, ⟨rfl, rfl, rfl, rfl, trivial⟩, eqvE_refl _, ⟨⟨_, rfl, eqvB_refl _⟩, ⟨_, rfl, eqvB_refl _⟩, ⟨_, rfl, eqvB_refl _⟩, ⟨_, rfl, eqvB_refl _⟩, trivial⟩⟩
    | fin =>
      have hs := finStore d a n v
      generalize d.s.finish v = s' at hs ⊢
      refine Does.atc (ha) [0, 1, 2, 3] rfl ⟨rfl, rfl, rfl, rfl, trivial⟩ (by decide) ?_
      repeat (refine need_intro (by first | exact fun h => h | exact nt | exact an2 | exact an3 | rfl | (simp; done) | fail) ?_)
      refine Does.atn hs [0, 1, 2, 3] rfl ⟨rfl, rfl, rfl, rfl, trivial⟩ (by decide) ?_ ?_
      · rintro v h' ⟨_, rfl⟩
        exact ⟨.inl rfl, .inl rfl, .inl rfl, .inl rfl, trivial⟩
      rintro v h' ⟨rfl, rfl⟩
      repeat (refine need_intro (by first | exact fun h => h | exact nt | exact an2 | exact an3 | rfl | (simp; done) | fail) ?_)
      exact ⟨_, _, [0, 1, 2, 3], ⟨rfl, rfl⟩, by decide, ⟨rfl, rfl, rfl, rfl, trivial⟩, eqvE_refl _, ⟨⟨_, rfl, eqvB_refl _⟩, ⟨_, rfl, eqvB_refl _⟩, ⟨_, rfl, eqvB_refl _⟩, ⟨_, rfl, eqvB_refl _⟩, trivial⟩⟩
    | clint =>
      have hs := clintStore d a n v
      generalize d.s.cst a n v = s' at hs ⊢
      refine Does.atc (ha) [0, 1, 2, 3] rfl ⟨rfl, rfl, rfl, rfl, trivial⟩ (by decide) ?_
      repeat (refine need_intro (by first | exact fun h => h | exact nt | exact an2 | exact an3 | rfl | (simp; done) | fail) ?_)
      refine Does.atn hs [0, 1, 2, 3] rfl ⟨rfl, rfl, rfl, rfl, trivial⟩ (by decide) ?_ ?_
      · rintro v h' ⟨_, rfl⟩
        exact ⟨.inl rfl, .inl rfl, .inl rfl, .inl rfl, trivial⟩
      rintro v h' ⟨rfl, rfl⟩
      repeat (refine need_intro (by first | exact fun h => h | exact nt | exact an2 | exact an3 | rfl | (simp; done) | fail) ?_)
      exact ⟨_, _, [0, 1, 2, 3], ⟨rfl, rfl⟩, by decide, ⟨rfl, rfl, rfl, rfl, trivial⟩, eqvE_refl _, ⟨⟨_, rfl, eqvB_refl _⟩, ⟨_, rfl, eqvB_refl _⟩, ⟨_, rfl, eqvB_refl _⟩, ⟨_, rfl, eqvB_refl _⟩, trivial⟩⟩
    | uart => exact absurd h hw
set_option maxRecDepth 100000 in
/-- A store into the console. -/
theorem busStore_uart (d : Dev) (a : B64) (n : Nat) (v : B64) (hn : n ≤ 9223372036854775807) (hr : d.s.nr ≤ 65536) (hf : d.fits) (hw : d.s.who a n = some .uart) : Does TB 114 [.s (.ptr 0 0), .s (.int .u64 a.toNat), .s (.int .i64 n), .s (.int .u64 v.toNat)] d.h
    (fun r h' => ∃ c, (d.stored a n v c).fits ∧ r = .s (.bool (d.s.who a n).isSome) ∧ h' = (d.stored a n v c).h2) := by
  refine fnX_does TB Tryz.func114 rfl (by decide) (fun O on hO => ?_)
  have ha := busAt d a n hn hr
  unfold Dev.stored
  have hu := who_uart hw
  rw [hw] at ha ⊢
  have hl := uartStore d (a.toNat - 268435456) n v (by omega) hf
  rw [show 268435456 + (a.toNat - 268435456) = a.toNat by omega] at hl
  generalize a.toNat - 268435456 = k at *
  refine Does.atc (ha) [0, 1, 2, 3] rfl ⟨rfl, rfl, rfl, rfl, trivial⟩ (by decide) ?_
  repeat (refine need_intro (by first | exact fun h => h | exact nt | exact an2 | exact an3 | rfl | (simp; done) | fail) ?_)
  refine Does.atn hl [0, 1, 2, 3] rfl ⟨rfl, rfl, rfl, rfl, trivial⟩ (by decide) ?_ ?_
  · rintro v h' ⟨_, _, _, rfl⟩
    exact ⟨.inl rfl, .inl rfl, .inr (.inl rfl), .inr (.inl rfl), .inl rfl, .inl rfl, trivial⟩
  rintro v h' ⟨c, hcc, rfl, rfl⟩
  repeat (refine need_intro (by first | exact fun h => h | exact nt | exact an2 | exact an3 | rfl | (simp; done) | fail) ?_)
  exact ⟨_, _, [0, 1, 2, 3, 4, 5], ⟨c, hcc, rfl, rfl⟩, by decide, ⟨rfl, rfl, rfl, rfl, trivial⟩, eqvE_refl _, ⟨⟨_, rfl, eqvB_refl _⟩, ⟨_, rfl, eqvB_refl _⟩, ⟨_, rfl, eqvB_refl _⟩, ⟨_, rfl, eqvB_refl _⟩, ⟨_, rfl, eqvB_refl _⟩, ⟨_, rfl, eqvB_refl _⟩, trivial⟩⟩
/-- A store, in the uniform form. -/
theorem busStore (d : Dev) (a : B64) (n : Nat) (v : B64) (hn : n ≤ 9223372036854775807) (hr : d.s.nr ≤ 65536) (hf : d.fits) : Does TB 114 [.s (.ptr 0 0), .s (.int .u64 a.toNat), .s (.int .i64 n), .s (.int .u64 v.toNat)] d.h
    (fun r h' => ∃ c, (d.stored a n v c).fits ∧ r = .s (.bool (d.s.who a n).isSome) ∧ h' = (d.stored a n v c).h2) := by
  by_cases hw : d.s.who a n = some .uart
  · exact busStore_uart d a n v hn hr hf hw
  · refine (Does.stay (busStore_plain d a n v hn hr hw) rfl).mono ?_
    rintro _ _ ⟨rfl, rfl⟩
    refine ⟨0, ?_, rfl, rfl⟩
    unfold Dev.stored
    split
    · exact hf
    · obtain ⟨h1, h2, h3⟩ := finish_n d.s v
      exact ⟨by show (d.s.finish v).nr ≤ d.cr; rw [h1]; exact hf.1, by show (d.s.finish v).ni ≤ d.ci; rw [h2]; exact hf.2.1, by show (d.s.finish v).no ≤ d.co; rw [h3]; exact hf.2.2⟩
    · obtain ⟨h1, h2, h3⟩ := cst_n d.s a n v
      exact ⟨by show (d.s.cst a n v).nr ≤ d.cr; rw [h1]; exact hf.1, by show (d.s.cst a n v).ni ≤ d.ci; rw [h2]; exact hf.2.1, by show (d.s.cst a n v).no ≤ d.co; rw [h3]; exact hf.2.2⟩
    · rename_i h; exact absurd h hw
    · exact hf
end Go.Proofs.YtdlpmbghocabbaaGreatDoor

/- The bus: bytes come in. Contracts of functions. -/
namespace Go.Anv
open Go
/-- n bytes of q have come in. -/
def Dev.feed (d : Dev) (q : Nat → B8) (n c : Nat) (o : Bool) : Dev := { d with s := { d.s with ni := d.s.ni + n, overrun := d.s.overrun || o }, inp := fun j => if j < d.s.ni then d.inp j else q (j - d.s.ni), ci := c }
/-- The bus where its queues have moved, beside one more block. -/
def Dev.h3 (d : Dev) (B : Blk) : List Blk := [.cells true (d.s.dev 0 (.gs 1 0 d.s.nr d.cr) (.gs 5 0 d.s.ni d.ci) (.gs 6 0 d.s.no d.co)) 0, d.rb, .dead, .dead, B, d.ib, d.ob]
end Go.Anv
namespace Go.Proofs.YtdlpmbghocabbaaGreatDoor
open Go Go.Anv
set_option maxRecDepth 100000 in
theorem uartJoin_raw (d : Dev) (m : Bool) (k cap sp : Nat) (q1 : Nat → B8) (hni : d.s.ni ≤ 64) (hk : k ≤ 140737488351232) (hc : d.s.ni ≤ d.ci) (hkc : k ≤ cap) : Does TB 103 [.s (.ptr 0 6), .s (.gs 4 0 k cap)] (d.h ++ [bblk m k q1 sp])
    (fun r h' => ∃ c, d.s.ni + min k (64 - d.s.ni) ≤ c ∧ r = .tuple [] ∧ h' = [.cells true ((d.feed q1 (min k (64 - d.s.ni)) c (decide (64 - d.s.ni < k))).s.dev 0 (.gs 1 0 d.s.nr d.cr) (.gs 5 0 (d.s.ni + min k (64 - d.s.ni)) c) (.gs 3 0 d.s.no d.co)) 0, d.rb, .dead, d.ob, bblk m k q1 sp, (d.feed q1 (min k (64 - d.s.ni)) c (decide (64 - d.s.ni < k))).ib]) := by
  refine fnXD_does TB Tryz.func103 rfl (by decide) (fun O on hO => ?_)
  refine (lock_spec (b := 0) (o := 6) rfl rfl rfl).mono ?_
  rintro _ h' ⟨rfl, hh⟩
  have hh : h' = d.hh ++ [bblk m k q1 sp] := hh
  subst hh
  refine ⟨⟨_, _, _, rfl⟩, fun O' on' hO' hle => ?_⟩
  have e0 : IntKind.i64.wrap (64 - (d.s.ni : Int)) = ((64 - d.s.ni : Nat) : Int) := by rw [i64_in (by omega) (by omega)]; omega
  have e4 : (if IntKind.i64.wrap (64 - (d.s.ni : Int)) < (k : Int) then IntKind.i64.wrap (64 - (d.s.ni : Int)) else (k : Int)) = ((min k (64 - d.s.ni) : Nat) : Int) := by
    rw [e0]
    split <;> omega
  repeat (refine need_intro (by first | exact fun h => h | exact nt | exact an2 | exact an3 | rfl | (simp; done) | fail) ?_)
  refine draw_free on' rfl (fun _ _ h => h) ?_
  repeat (refine need_intro (by first | exact fun h => h | exact nt | exact an2 | exact an3 | rfl | (simp; done) | fail) ?_)
  refine need_intro ⟨by decide, by rw [e4]; omega, by rw [e4]; omega⟩ ?_
  have hs : skip cap 0 0 1 = 0 := by unfold skip; split <;> rfl
  have hL : (if IntKind.i64.wrap (64 - (d.s.ni : Int)) < (k : Int) then IntKind.i64.wrap (64 - (d.s.ni : Int)) else (k : Int)).toNat - Int.toNat 0 = min k (64 - d.s.ni) := by rw [e4, Int.toNat_natCast]; rfl
  refine need_intro ⟨(by show skip cap 0 0 1 + ((if IntKind.i64.wrap (64 - (d.s.ni : Int)) < (k : Int) then IntKind.i64.wrap (64 - (d.s.ni : Int)) else (k : Int)).toNat - Int.toNat 0) ≤ k; rw [hL, hs]; omega), (by show d.s.ni + 0 = d.s.ni * 1; omega), (by show d.ci * 1 = d.s.ni * 1 + (d.ci - d.s.ni); omega), room5 _ (by show d.s.ni + ((if IntKind.i64.wrap (64 - (d.s.ni : Int)) < (k : Int) then IntKind.i64.wrap (64 - (d.s.ni : Int)) else (k : Int)).toNat - Int.toNat 0) ≤ _; rw [hL]; omega)⟩ ?_
  intro c hc
  have hc : d.s.ni + ((if IntKind.i64.wrap (64 - (d.s.ni : Int)) < (k : Int) then IntKind.i64.wrap (64 - (d.s.ni : Int)) else (k : Int)).toNat - Int.toNat 0) ≤ c := hc
  rw [hL] at hc
  have q : decide ((if IntKind.i64.wrap (64 - (d.s.ni : Int)) < (k : Int) then IntKind.i64.wrap (64 - (d.s.ni : Int)) else (k : Int)) < (k : Int)) = decide (64 - d.s.ni < k) := by rw [e4]; exact decide_eq_decide.2 (by omega)
  repeat (refine need_intro (by first | exact fun h => h | exact nt | exact an2 | exact an3 | rfl | (simp; done) | fail) ?_)
  have fin : ∀ c, eqvB (.cells true [.ints .u8 (d.s.ni + ((if IntKind.i64.wrap (64 - (d.s.ni : Int)) < (k : Int) then IntKind.i64.wrap (64 - (d.s.ni : Int)) else (k : Int)).toNat - Int.toNat 0)) (catF d.s.ni (bfun d.inp) (shf (skip cap 0 0 1) (bfun q1)))] ((c - (d.s.ni + ((if IntKind.i64.wrap (64 - (d.s.ni : Int)) < (k : Int) then IntKind.i64.wrap (64 - (d.s.ni : Int)) else (k : Int)).toNat - Int.toNat 0))) * 1)) (d.feed q1 (min k (64 - d.s.ni)) c (decide (64 - d.s.ni < k))).ib := by
    intro c
    rw [hL, hs]
    refine ⟨rfl, Nat.mul_one _, ⟨⟨rfl, rfl, fun j hj => ?_⟩, trivial⟩⟩
    show catF d.s.ni (bfun d.inp) (shf 0 (bfun q1)) j = (((if j < d.s.ni then d.inp j else q1 (j - d.s.ni)) : B8).toNat : Int)
    unfold catF shf
    split
    · rfl
    · rw [Nat.zero_add]; rfl
  refine ifB_intro (fun g => ?_) (fun g => ?_)
  · repeat (refine need_intro (by first | exact fun h => h | exact nt | exact an2 | exact an3 | rfl | (simp; done) | fail) ?_)
    refine (unlock_spec (b := 0) (o := 6) rfl rfl rfl).mono ?_
    rintro _ h' ⟨_, hh⟩
    subst hh
    refine ⟨_, _, [0, 1, 2, 3, 4, 5], ⟨c, hc, rfl, rfl⟩, by decide, ⟨rfl, rfl, rfl, rfl, rfl, trivial⟩, eqvE_refl _, ⟨⟨_, rfl, ⟨rfl, rfl, ?_⟩⟩, ⟨_, rfl, eqvB_refl _⟩, ⟨_, rfl, eqvB_refl _⟩, ⟨_, rfl, eqvB_refl _⟩, ⟨_, rfl, eqvB_refl _⟩, ⟨_, rfl, ?_⟩, trivial⟩⟩
    · have ho : true = (d.s.overrun || decide (64 - d.s.ni < k)) := by rw [← q, g]; cases d.s.overrun <;> rfl
      repeat' (first | exact eqvS_nil | refine ⟨⟨rfl, rfl, congrArg (d.s.ni + ·) hL, rfl⟩, ?_⟩ | refine eqvS_same ?_ | refine ⟨ho, ?_⟩)
    · exact fin c
  · repeat (refine need_intro (by first | exact fun h => h | exact nt | exact an2 | exact an3 | rfl | (simp; done) | fail) ?_)
    refine (unlock_spec (b := 0) (o := 6) rfl rfl rfl).mono ?_
    rintro _ h' ⟨_, hh⟩
    subst hh
    refine ⟨_, _, [0, 1, 2, 3, 4, 5], ⟨c, hc, rfl, rfl⟩, by decide, ⟨rfl, rfl, rfl, rfl, rfl, trivial⟩, eqvE_refl _, ⟨⟨_, rfl, ⟨rfl, rfl, ?_⟩⟩, ⟨_, rfl, eqvB_refl _⟩, ⟨_, rfl, eqvB_refl _⟩, ⟨_, rfl, eqvB_refl _⟩, ⟨_, rfl, eqvB_refl _⟩, ⟨_, rfl, ?_⟩, trivial⟩⟩
    · have ho : d.s.overrun = (d.s.overrun || decide (64 - d.s.ni < k)) := by rw [← q, g]; cases d.s.overrun <;> rfl
      repeat' (first | exact eqvS_nil | refine ⟨⟨rfl, rfl, congrArg (d.s.ni + ·) hL, rfl⟩, ?_⟩ | refine eqvS_same ?_ | refine ⟨ho, ?_⟩)
    · exact fin c
/-- The uniform form. -/
theorem uartJoin (d : Dev) (m : Bool) (k cap sp : Nat) (q1 : Nat → B8) (hni : d.s.ni ≤ 64) (hk : k ≤ 140737488351232) (hf : d.fits) (hkc : k ≤ cap) : Does TB 103 [.s (.ptr 0 6), .s (.gs 4 0 k cap)] (d.h ++ [bblk m k q1 sp])
    (fun r h' => ∃ c, (d.feed q1 (min k (64 - d.s.ni)) c (decide (64 - d.s.ni < k))).fits ∧ r = .tuple [] ∧ h' = (d.feed q1 (min k (64 - d.s.ni)) c (decide (64 - d.s.ni < k))).h3 (bblk m k q1 sp)) := by
  refine (uartJoin_raw d m k cap sp q1 hni hk hf.2.1 hkc).tell ?_
  rintro _ _ ⟨c, hc, rfl, rfl⟩
  exact ⟨_, (d.feed q1 (min k (64 - d.s.ni)) c (decide (64 - d.s.ni < k))).h3 (bblk m k q1 sp), [0, 1, 2, 3, 4, 5, 3], ⟨c, ⟨hf.1, hc, hf.2.2⟩, rfl, rfl⟩, rfl, ⟨rfl, rfl, rfl, rfl, rfl, trivial⟩, eqvE_refl _, ⟨⟨_, rfl, eqvB_refl _⟩, ⟨_, rfl, eqvB_refl _⟩, rfl, rfl, ⟨_, rfl, eqvB_refl _⟩, ⟨_, rfl, eqvB_refl _⟩, ⟨_, rfl, eqvB_refl _⟩, trivial⟩⟩
end Go.Proofs.YtdlpmbghocabbaaGreatDoor

/- The bus: a step's world. Contracts of functions. -/
namespace Go.Anv
open Go
/-- What a step's world brings. -/
def Dev.take (d : Dev) (q : Nat → B8) (k : Nat) (tick ext soft : Bool) (c : Nat) : Dev :=
  if d.s.off = 0 then { d.feed q (min k (64 - d.s.ni)) c (decide (64 - d.s.ni < k)) with s := { (d.feed q (min k (64 - d.s.ni)) c (decide (64 - d.s.ni < k))).s with ext := ext, soft := soft, now := if tick = true then d.s.now + 1#64 else d.s.now } } else d
end Go.Anv
namespace Go.Proofs.YtdlpmbghocabbaaGreatDoor
open Go Go.Anv
set_option maxRecDepth 100000 in
theorem busBegin_off (d : Dev) (m : Bool) (k cap sp : Nat) (q1 : Nat → B8) (tick ext soft : Bool) (h0 : d.s.off ≠ 0) : Does TB 71 [.s (.ptr 0 0), .agg [.one (.bool tick), .one (.bool ext), .one (.bool soft), .one (.gs 4 0 k cap)]] (d.h ++ [bblk m k q1 sp])
    (fun r h' => r = .tuple [] ∧ h' = d.h ++ [bblk m k q1 sp]) := by
  refine fnX_does TB Tryz.func71 rfl (by decide) (fun O on hO => ?_)
  have g : (d.s.off != 0) = true := bne_iff_ne.2 h0
  repeat (refine need_intro (by first | exact fun h => h | exact nt | exact an2 | exact an3 | rfl | (simp; done) | fail) ?_)
  refine ifB_intro (fun _ => ?_) (fun h => absurd (g.symm.trans h) (by decide))
  refine Ends.ro (H := d.h ++ [bblk m k q1 sp]) ?_ ?_ ?_
  · rfl
  · exact eqvE_refl _
  · rfl
set_option maxRecDepth 100000 in
theorem busBegin_on (d : Dev) (m : Bool) (k cap sp : Nat) (q1 : Nat → B8) (tick ext soft : Bool) (h0 : d.s.off = 0) (hni : d.s.ni ≤ 64) (hk : k ≤ 140737488351232) (hf : d.fits) (hkc : k ≤ cap) : Does TB 71 [.s (.ptr 0 0), .agg [.one (.bool tick), .one (.bool ext), .one (.bool soft), .one (.gs 4 0 k cap)]] (d.h ++ [bblk m k q1 sp])
    (fun r h' => ∃ c, (d.take q1 k tick ext soft c).fits ∧ r = .tuple [] ∧ h' = (d.take q1 k tick ext soft c).h3 (bblk m k q1 sp)) := by
  refine fnX_does TB Tryz.func71 rfl (by decide) (fun O on hO => ?_)
  have g : (d.s.off != 0) = false := by rw [h0]; rfl
  unfold Dev.take
  simp only [if_pos h0]
  have hj := uartJoin d m k cap sp q1 hni hk hf hkc
  repeat (refine need_intro (by first | exact fun h => h | exact nt | exact an2 | exact an3 | rfl | (simp; done) | fail) ?_)
  refine ifB_intro (fun h => absurd (h.symm.trans g) (by decide)) (fun _ => ?_)
  refine draw_free on rfl (fun _ _ h => h) ?_
  repeat (refine need_intro (by first | exact fun h => h | exact nt | exact an2 | exact an3 | rfl | (simp; done) | fail) ?_)
  refine Does.atn hj [0, 1, 2, 3, 4] rfl ⟨rfl, rfl, rfl, rfl, rfl, trivial⟩ (by decide) ?_ ?_
  · rintro v h' ⟨_, _, _, rfl⟩
    exact ⟨.inl rfl, .inl rfl, .inr (.inl rfl), .inr (.inl rfl), .inr (.inr rfl), .inl rfl, .inl rfl, trivial⟩
  rintro v h' ⟨c, hcc, rfl, rfl⟩
  repeat (refine need_intro (by first | exact fun h => h | exact nt | exact an2 | exact an3 | rfl | (simp; done) | fail) ?_)
  refine draw_but [0] on rfl (fun _ _ h => h) ?_
  repeat (refine need_intro (by first | exact fun h => h | exact nt | exact an2 | exact an3 | rfl | (simp; done) | fail) ?_)
  cases tick
  · repeat (refine need_intro (by first | exact fun h => h | exact nt | exact an2 | exact an3 | rfl | (simp; done) | fail) ?_)
    exact ⟨_, _, [0, 1, 2, 3, 4, 6, 7], ⟨c, hcc, rfl, rfl⟩, by decide, ⟨rfl, rfl, rfl, rfl, rfl, trivial⟩, eqvE_refl _, ⟨⟨_, rfl, eqvB_refl _⟩, ⟨_, rfl, eqvB_refl _⟩, ⟨_, rfl, eqvB_refl _⟩, ⟨_, rfl, eqvB_refl _⟩, ⟨_, rfl, eqvB_refl _⟩, ⟨_, rfl, eqvB_refl _⟩, ⟨_, rfl, eqvB_refl _⟩, trivial⟩⟩
  · repeat (refine need_intro (by first | exact fun h => h | exact nt | exact an2 | exact an3 | rfl | (simp; done) | fail) ?_)
    have hnow : IntKind.u64.wrap ((d.s.now.toNat : Int) + 1) = ((d.s.now + 1#64).toNat : Int) := by
      rw [wrap_u64, BitVec.ofInt_add, ofInt_toNat]; rfl
    refine ⟨_, _, [0, 1, 2, 3, 4, 6, 7], ⟨c, hcc, rfl, rfl⟩, by decide, ⟨rfl, rfl, rfl, rfl, rfl, trivial⟩, eqvE_refl _, ⟨⟨_, rfl, ⟨rfl, rfl, ?_⟩⟩, ⟨_, rfl, eqvB_refl _⟩, ⟨_, rfl, eqvB_refl _⟩, ⟨_, rfl, eqvB_refl _⟩, ⟨_, rfl, eqvB_refl _⟩, ⟨_, rfl, eqvB_refl _⟩, ⟨_, rfl, eqvB_refl _⟩, trivial⟩⟩
    repeat' (first | exact eqvS_nil | refine ⟨⟨rfl, hnow⟩, ?_⟩ | refine eqvS_same ?_)
end Go.Proofs.YtdlpmbghocabbaaGreatDoor

/- Two bytes of an instruction, over any bus. Contracts of functions. -/
namespace Go.Anv
open Go
theorem holds_who {s : BusV} {a : B64} {n : Nat} (h : s.holds a n = true) : s.who a n ≠ some .uart := by
  intro hw
  have h1 := who_uart hw
  have h2 := BusV.holds_iff.1 h
  omega
/-- Two bytes of an instruction. -/
def Dev.parcel (d : Dev) (c : CpuV) (a : B64) : Option B32 :=
  if checkI c.cfg c.addr c.mode a 2 4 = true ∧ d.s.holds a 2 = true then (d.load a 2).map (·.setWidth 32) else none
def parcelE : Option B32 → EV
  | some v => .tuple [.s (.int .u32 v.toNat), .s (.bool true)]
  | none => .tuple [.s (.int .u32 0), .s (.bool false)]
end Go.Anv
namespace Go.Proofs.YtdlpmbghocabbaaGreatDoor
open Go Go.Anv
set_option maxRecDepth 100000 in
theorem parcelD (d : Dev) (c : CpuV) (a : B64) (hr : d.s.nr ≤ 65536) : Does TB 126 [.agg c.segs, .s (.ptr 0 0), .s (.int .u64 a.toNat)] d.h (fun v h' => v = parcelE (d.parcel c a) ∧ h' = d.h) := by
  refine fnX_does TB Tryz.func126 rfl (by decide) (fun O on hO => ?_)
  unfold Dev.parcel
  repeat (refine need_intro (by first | exact fun h => h | exact nt | exact an2 | exact an3 | rfl | (simp; done) | fail) ?_)
  refine (pcheck_spec c.cfg c.addr c.mode a 2 4 _).mono ?_
  rintro _ _ ⟨rfl, rfl⟩
  repeat (refine need_intro (by first | exact fun h => h | exact nt | exact an2 | exact an3 | rfl | (simp; done) | fail) ?_)
  cases hp : checkI c.cfg c.addr c.mode a 2 4 with
  | false =>
    rw [if_neg (by rintro ⟨h, _⟩; cases h)]
    repeat (refine need_intro (by first | exact fun h => h | exact nt | exact an2 | exact an3 | rfl | (simp; done) | fail) ?_)
    exact Ends.ro (H := d.h) rfl (eqvE_refl _) rfl
  | true =>
    repeat (refine need_intro (by first | exact fun h => h | exact nt | exact an2 | exact an3 | rfl | (simp; done) | fail) ?_)
    refine Does.ungd (b := [.s (.ptr 0 0), .s (.int .u64 a.toNat), .s (.int .i64 2)]) ⟨⟨rfl, rfl⟩, ⟨rfl, rfl⟩, rfl, trivial⟩ ?_
    have hi := busIsRam d a 2 (by decide) hr
    rw [show (decide (1 ≤ 2) && d.s.holds a 2) = d.s.holds a 2 from rfl] at hi
    cases hh : d.s.holds a 2 with
    | false =>
      rw [hh] at hi
      rw [if_neg (by rintro ⟨_, h⟩; cases h)]
      refine Does.atc (hi) [0, 1, 2, 3] rfl ⟨rfl, rfl, rfl, rfl, trivial⟩ (by decide) ?_
      repeat (refine need_intro (by first | exact fun h => h | exact nt | exact an2 | exact an3 | rfl | (simp; done) | fail) ?_)
      exact Ends.ro (H := d.h) rfl (eqvE_refl _) rfl
    | true =>
      rw [hh] at hi
      rw [if_pos ⟨rfl, rfl⟩]
      have hl := busLoad_plain d a 2 (by decide) hr (holds_who hh)
      refine Does.atc (hi) [0, 1, 2, 3] rfl ⟨rfl, rfl, rfl, rfl, trivial⟩ (by decide) ?_
      repeat (refine need_intro (by first | exact fun h => h | exact nt | exact an2 | exact an3 | rfl | (simp; done) | fail) ?_)
      cases ho : d.load a 2 with
      | none =>
        rw [ho] at hl
        refine Does.atc (hl) [0, 1, 2, 3] rfl ⟨rfl, rfl, rfl, rfl, trivial⟩ (by decide) ?_
        repeat (refine need_intro (by first | exact fun h => h | exact nt | exact an2 | exact an3 | rfl | (simp; done) | fail) ?_)
        exact Ends.ro (H := d.h) rfl (eqvE_refl _) rfl
      | some v =>
        rw [ho] at hl
        refine Does.atc (hl) [0, 1, 2, 3] rfl ⟨rfl, rfl, rfl, rfl, trivial⟩ (by decide) ?_
        repeat (refine need_intro (by first | exact fun h => h | exact nt | exact an2 | exact an3 | rfl | (simp; done) | fail) ?_)
        have hw : IntKind.u32.wrap (v.toNat : Int) = ((v.setWidth 32).toNat : Int) := by
          rw [wrap_u32, BitVec.toNat_setWidth, BitVec.toNat_ofInt]; omega
        exact Ends.ro (H := d.h) rfl ⟨⟨rfl, hw⟩, rfl, trivial⟩ rfl
end Go.Proofs.YtdlpmbghocabbaaGreatDoor

/- An instruction is fetched, over any bus. Contracts of functions. -/
namespace Go.Anv
open Go
structure FetchV where
  raw : B32
  len : Int
  trap : TrapV
def Dev.fetch (d : Dev) (c : CpuV) : FetchV :=
  match d.parcel c.proper c.proper.pc with
  | none => ⟨0#32, 0, ⟨true, 1#64, c.proper.pc⟩⟩
  | some low => if low &&& 3#32 = 3#32 then
      (match d.parcel c.proper (c.proper.pc + 2#64) with
      | none => ⟨0#32, 0, ⟨true, 1#64, c.proper.pc + 2#64⟩⟩
      | some high => ⟨(high <<< 16) ||| low, 4, noTrap⟩)
    else ⟨low, 2, noTrap⟩
def FetchV.ev (f : FetchV) : EV := .tuple [.s (.int .u32 f.raw.toNat), .s (.int .i64 f.len), .agg f.trap.segs]
end Go.Anv
namespace Go.Proofs.YtdlpmbghocabbaaGreatDoor
open Go Go.Anv
set_option maxRecDepth 100000 in
theorem exceptionD (a b : B64) (h : List Blk) : Does TB 123 [.s (.int .u64 a.toNat), .s (.int .u64 b.toNat)] h (fun v h' => v = .agg (TrapV.segs ⟨true, a, b⟩) ∧ h' = h) := by
  refine fnX_pure TB Tryz.func123 rfl (by decide) rfl _ rfl (fun O on => ?_) h
  repeat (refine need_intro (by first | exact fun h => h | exact fun _ => rfl | rfl | (simp; done) | fail) ?_)
  exact eqvE_refl _
set_option maxRecDepth 100000 in
theorem fetchD (d : Dev) (c : CpuV) (hr : d.s.nr ≤ 65536) : Does TB 106 [.agg c.segs, .s (.ptr 0 0)] d.h (fun v h' => v = (d.fetch c).ev ∧ h' = d.h) := by
  refine fnX_does TB Tryz.func106 rfl (by decide) (fun O on hO => ?_)
  unfold Dev.fetch
  repeat (refine need_intro (by first | exact fun h => h | exact nt | exact an2 | exact an3 | rfl | (simp; done) | fail) ?_)
  refine (proper_spec c _).mono ?_
  rintro _ _ ⟨rfl, rfl⟩
  generalize c.proper = c
  repeat (refine need_intro (by first | exact fun h => h | exact nt | exact an2 | exact an3 | rfl | (simp; done) | fail) ?_)
  have hp := parcelD d c c.pc hr
  cases h1 : d.parcel c c.pc with
  | none =>
    rw [h1] at hp
    refine Does.atc (hp) [0, 1, 2, 3] rfl ⟨rfl, rfl, rfl, rfl, trivial⟩ (by decide) ?_
    repeat (refine need_intro (by first | exact fun h => h | exact nt | exact an2 | exact an3 | rfl | (simp; done) | fail) ?_)
    refine (exceptionD 1#64 c.pc _).mono ?_
    rintro _ _ ⟨rfl, rfl⟩
    repeat (refine need_intro (by first | exact fun h => h | exact nt | exact an2 | exact an3 | rfl | (simp; done) | fail) ?_)
    exact Ends.ro (H := d.h) rfl (eqvE_refl _) rfl
  | some low =>
    rw [h1] at hp
    have q : (bitX .and .u32 (low.toNat : Int) 3 != 3) = (low &&& 3#32 != 3#32) := by
      rw [and_u32, ofInt_toNat]; exact bne_lit _ 3 (by decide) (by decide)
    refine Does.atc (hp) [0, 1, 2, 3] rfl ⟨rfl, rfl, rfl, rfl, trivial⟩ (by decide) ?_
    repeat (refine need_intro (by first | exact fun h => h | exact nt | exact an2 | exact an3 | rfl | (simp; done) | fail) ?_)
    refine ifB_intro (fun g => ?_) (fun g => ?_)
    · have g' : low &&& 3#32 ≠ 3#32 := bne_iff_ne.1 (q.symm.trans g)
      repeat (refine need_intro (by first | exact fun h => h | exact nt | exact an2 | exact an3 | rfl | (simp; done) | fail) ?_)
      refine Ends.ro (H := d.h) rfl ?_ rfl
      show eqvE _ (renE _ (FetchV.ev (if low &&& 3#32 = 3#32 then _ else _)))
      rw [if_neg g']
      exact eqvE_refl _
    · have g' : low &&& 3#32 = 3#32 := by
        have h2 := q.symm.trans g
        by_cases h : low &&& 3#32 = 3#32
        · exact h
        · rw [bne_iff_ne.2 h] at h2; cases h2
      have hq := parcelD d c (c.pc + 2#64) hr
      have e2 : IntKind.u64.wrap ((c.pc.toNat : Int) + 2) = ((c.pc + 2#64).toNat : Int) := by
        rw [wrap_u64, BitVec.ofInt_add, ofInt_toNat]; rfl
      simp only [if_pos g']
      repeat (refine need_intro (by first | exact fun h => h | exact nt | exact an2 | exact an3 | rfl | (simp; done) | fail) ?_)
      refine Does.args (b := [.agg c.segs, .s (.ptr 0 0), .s (.int .u64 ((c.pc + 2#64).toNat : Int))]) ⟨eqvE_refl _, eqvE_refl _, ⟨rfl, e2⟩, trivial⟩ ?_
      cases h3 : d.parcel c (c.pc + 2#64) with
      | none =>
        rw [h3] at hq
        refine Does.atc (hq) [0, 1, 2, 3] rfl ⟨rfl, rfl, rfl, rfl, trivial⟩ (by decide) ?_
        repeat (refine need_intro (by first | exact fun h => h | exact nt | exact an2 | exact an3 | rfl | (simp; done) | fail) ?_)
        refine Does.args (b := [.s (.int .u64 1), .s (.int .u64 ((c.pc + 2#64).toNat : Int))]) ⟨eqvE_refl _, ⟨rfl, e2⟩, trivial⟩ ?_
        refine (exceptionD 1#64 (c.pc + 2#64) _).mono ?_
        rintro _ _ ⟨rfl, rfl⟩
        repeat (refine need_intro (by first | exact fun h => h | exact nt | exact an2 | exact an3 | rfl | (simp; done) | fail) ?_)
        exact Ends.ro (H := d.h) rfl (eqvE_refl _) rfl
      | some high =>
        rw [h3] at hq
        refine Does.atc (hq) [0, 1, 2, 3] rfl ⟨rfl, rfl, rfl, rfl, trivial⟩ (by decide) ?_
        repeat (refine need_intro (by first | exact fun h => h | exact nt | exact an2 | exact an3 | rfl | (simp; done) | fail) ?_)
        have ev : bitX .or .u32 (IntKind.u32.wrap ((high.toNat : Int) * 2 ^ 16)) (low.toNat : Int) = (((high <<< 16) ||| low).toNat : Int) := by
          rw [wrap_u32, mul_pow, or_u32, ofInt_toNat, ofInt_toNat]
        exact Ends.ro (H := d.h) rfl ⟨⟨rfl, ev⟩, eqvE_refl _, eqvE_refl _, trivial⟩ rfl
end Go.Proofs.YtdlpmbghocabbaaGreatDoor

/- An address on its size's bound. Contracts of functions. -/
namespace Go.Anv
open Go
def alignB (a : B64) (n : Nat) : Bool := sizeOk n && decide (a.toNat % n = 0)
def sizesB : Blk := .cells true [.ints .i64 4 (litF [1, 2, 4, 8])] 0
end Go.Anv
namespace Go.Proofs.YtdlpmbghocabbaaGreatDoor
open Go Go.Anv
set_option maxRecDepth 100000 in
theorem alignedD (a : B64) (n : Nat) (hn : n ≤ 9223372036854775807) : Does TB 139 [.s (.int .u64 a.toNat), .s (.int .i64 n), .s (.slice 0 0 4 4)] [sizesB] (fun v h' => v = .s (.bool (alignB a n)) ∧ h' = [sizesB]) := by
  refine fnX_does TB Tryz.func139 rfl (by decide) (fun O on hO => ?_)
  have hz : n ≠ 0 → ((a.toNat : Int).tmod (IntKind.u64.wrap (n : Int)) == 0) = decide (a.toNat % n = 0) := fun h => by
    rw [wnat (by omega), Int.tmod_eq_emod_of_nonneg (by omega)]
    by_cases e : a.toNat % n = 0
    · rw [decide_eq_true e, beq_iff_eq, ← Int.natCast_emod, e]; rfl
    · rw [decide_eq_false e]; refine beq_false_of_ne ?_; rw [← Int.natCast_emod]; omega
  by_cases hs : sizeOk n = true
  · have hn4 : n = 1 ∨ n = 2 ∨ n = 4 ∨ n = 8 := by
      unfold sizeOk at hs
      simp only [Bool.or_eq_true, beq_iff_eq] at hs
      omega
    have hv : alignB a n = decide (a.toNat % n = 0) := by unfold alignB; rw [hs]; rfl
    rw [← hz (by omega)] at hv
    clear hs hz
    rcases hn4 with rfl | rfl | rfl | rfl
    all_goals
      repeat (refine need_intro (by first | exact fun h => h | exact nt | exact an2 | exact an3 | rfl | (simp; done) | fail) ?_)
      refine loop_times on 5 ?_
      repeat (first | refine Box.mk ?_ | refine need_intro (by first | decide | rfl | fail) ?_)
      exact Ends.ro (H := [sizesB]) rfl hv.symm rfl
  · have hs := (Bool.not_eq_true _).mp hs
    have hv : alignB a n = false := by unfold alignB; rw [hs]; rfl
    have hk : ∀ k : Nat, sizeOk k = true → ((k : Int) == (n : Int)) = false := fun k hk => beq_false_of_ne (by
      intro e
      have : n = k := by omega
      subst this
      rw [hs] at hk
      cases hk)
    repeat (refine need_intro (by first | exact fun h => h | exact nt | exact an2 | exact an3 | rfl | (simp; done) | fail) ?_)
    refine loop_times on 5 ?_
    repeat (first | refine Box.mk ?_ | refine need_intro (by first | decide | rfl | fail) ?_)
    refine ifB_intro (fun h => absurd (h.symm.trans (hk 1 rfl)) (by decide)) (fun _ => ?_)
    repeat (first | refine Box.mk ?_ | refine need_intro (by first | decide | rfl | fail) ?_)
    refine ifB_intro (fun h => absurd (h.symm.trans (hk 2 rfl)) (by decide)) (fun _ => ?_)
    repeat (first | refine Box.mk ?_ | refine need_intro (by first | decide | rfl | fail) ?_)
    refine ifB_intro (fun h => absurd (h.symm.trans (hk 4 rfl)) (by decide)) (fun _ => ?_)
    repeat (first | refine Box.mk ?_ | refine need_intro (by first | decide | rfl | fail) ?_)
    refine ifB_intro (fun h => absurd (h.symm.trans (hk 8 rfl)) (by decide)) (fun _ => ?_)
    repeat (first | refine Box.mk ?_ | refine need_intro (by first | decide | rfl | fail) ?_)
    exact Ends.ro (H := [sizesB]) rfl hv.symm rfl
end Go.Proofs.YtdlpmbghocabbaaGreatDoor

/- What is wrong with an access. Contracts of functions. -/
namespace Go.Anv
open Go
def CpuV.chk (c : CpuV) (e : Int) (a : B64) (n : Nat) (bits : Int) (there : Bool) (ca cs : B64) : TrapV :=
  if alignB a n = true then (if checkI c.cfg c.addr e a n bits = true ∧ there = true then noTrap else ⟨true, cs, a⟩) else ⟨true, ca, a⟩
end Go.Anv
namespace Go.Proofs.YtdlpmbghocabbaaGreatDoor
open Go Go.Anv
set_option maxRecDepth 100000 in
theorem checkD (c : CpuV) (a : B64) (n : Nat) (bits : Int) (there : Bool) (ca cs : B64) (hn : n ≤ 9223372036854775807) : Does TB 111 [.agg c.segs, .s (.int .u64 a.toNat), .s (.int .i64 n), .s (.int .i64 bits), .s (.bool there), .s (.int .u64 ca.toNat), .s (.int .u64 cs.toNat), .s (.slice 0 0 4 4)] [sizesB] (fun v h' => v = .agg (c.chk c.eff a n bits there ca cs).segs ∧ h' = [sizesB]) := by
  refine fnX_does TB Tryz.func111 rfl (by decide) (fun O on hO => ?_)
  unfold CpuV.chk
  repeat (refine need_intro (by first | exact fun h => h | exact nt | exact an2 | exact an3 | rfl | (simp; done) | fail) ?_)
  have hal := alignedD a n hn
  refine Does.atc (hal) [0] rfl ⟨rfl, trivial⟩ (by decide) ?_
  repeat (refine need_intro (by first | exact fun h => h | exact nt | exact an2 | exact an3 | rfl | (simp; done) | fail) ?_)
  cases h1 : alignB a n with
  | false =>
    repeat (refine need_intro (by first | exact fun h => h | exact nt | exact an2 | exact an3 | rfl | (simp; done) | fail) ?_)
    refine (exceptionD ca a _).mono ?_
    rintro _ _ ⟨rfl, rfl⟩
    repeat (refine need_intro (by first | exact fun h => h | exact nt | exact an2 | exact an3 | rfl | (simp; done) | fail) ?_)
    exact Ends.ro (H := [sizesB]) rfl (eqvE_refl _) rfl
  | true =>
    repeat (refine need_intro (by first | exact fun h => h | exact nt | exact an2 | exact an3 | rfl | (simp; done) | fail) ?_)
    refine draw_to on ?tt1 ?_ ?_
    rotate_left 1
    · refine draw_held on rfl (fun _ _ h => h) ?_
      repeat' (first | refine need_intro (by first | exact fun h => h | exact nt | exact an2 | exact an3 | rfl | (simp; done) | fail) ?_ | refine And.intro ?_ ?_ | (refine (eff_spec c _).mono ?_; rintro _ _ ⟨rfl, rfl⟩) | (refine (pcheck_spec c.cfg c.addr c.eff a n bits _).mono ?_; rintro _ _ ⟨rfl, rfl⟩))
      all_goals (refine toK_id ?_; rw [hO]; exact Nat.le_of_ble_eq_true rfl)
    repeat (refine need_intro (by first | exact fun h => h | exact nt | exact an2 | exact an3 | rfl | (simp; done) | fail) ?_)
    cases h2 : checkI c.cfg c.addr c.eff a n bits with
    | false =>
      repeat (refine need_intro (by first | exact fun h => h | exact nt | exact an2 | exact an3 | rfl | (simp; done) | fail) ?_)
      refine (exceptionD cs a _).mono ?_
      rintro _ _ ⟨rfl, rfl⟩
      repeat (refine need_intro (by first | exact fun h => h | exact nt | exact an2 | exact an3 | rfl | (simp; done) | fail) ?_)
      exact Ends.ro (H := [sizesB]) rfl (eqvE_refl _) rfl
    | true =>
      cases there with
      | false =>
        repeat (refine need_intro (by first | exact fun h => h | exact nt | exact an2 | exact an3 | rfl | (simp; done) | fail) ?_)
        refine (exceptionD cs a _).mono ?_
        rintro _ _ ⟨rfl, rfl⟩
        repeat (refine need_intro (by first | exact fun h => h | exact nt | exact an2 | exact an3 | rfl | (simp; done) | fail) ?_)
        exact Ends.ro (H := [sizesB]) rfl (eqvE_refl _) rfl
      | true =>
        repeat (refine need_intro (by first | exact fun h => h | exact nt | exact an2 | exact an3 | rfl | (simp; done) | fail) ?_)
        exact Ends.ro (H := [sizesB]) rfl (eqvE_refl _) rfl
end Go.Proofs.YtdlpmbghocabbaaGreatDoor

/- A load, over any bus. Contracts of functions. -/
namespace Go.Anv
open Go
/-- What is wrong with a load. -/
def Dev.ldTrap (d : Dev) (c : CpuV) (a : B64) (n : Nat) : TrapV := c.proper.chk c.proper.eff a n 1 (d.s.who a n).isSome 4#64 5#64
def ldE (v : B64) (t : TrapV) : EV := .tuple [.s (.int .u64 v.toNat), .agg t.segs]
end Go.Anv
namespace Go.Proofs.YtdlpmbghocabbaaGreatDoor
open Go Go.Anv
set_option maxRecDepth 100000 in
set_option maxHeartbeats 4000000 in
theorem loadD (d : Dev) (c : CpuV) (a : B64) (n : Nat) (hn : n ≤ 9223372036854775807) (hr : d.s.nr ≤ 65536) (hi : d.s.ni ≤ 140737488351232) (hc : d.s.ni ≤ d.ci) : Does TB 86 [.agg c.segs, .s (.ptr 0 0), .s (.int .u64 a.toNat), .s (.int .i64 n)] d.h
    (fun v h' => ((d.ldTrap c a n).is = true ∧ v = ldE 0#64 (d.ldTrap c a n) ∧ h' = d.h) ∨ ((d.ldTrap c a n).is = false ∧ ∃ k, (d.loaded a n k).s.ni ≤ (d.loaded a n k).ci ∧ v = ldE ((d.load a n).getD 0#64) noTrap ∧ h' = (d.loaded a n k).h2)) := by
  refine fnX_does TB Tryz.func86 rfl (by decide) (fun O on hO => ?_)
  unfold Dev.ldTrap
  repeat (refine need_intro (by first | exact fun h => h | exact nt | exact an2 | exact an3 | rfl | (simp; done) | fail) ?_)
  refine (proper_spec c _).mono ?_
  rintro _ _ ⟨rfl, rfl⟩
  generalize c.proper = c
  repeat (refine need_intro (by first | exact fun h => h | exact nt | exact an2 | exact an3 | rfl | (simp; done) | fail) ?_)
  have hcan := busCan d a n 1 hn hr (.inl rfl)
  have hchk := checkD c a n 1 (d.s.who a n).isSome 4#64 5#64 hn
  refine draw_to on ?t6 ?_ ?_
  rotate_left 1
  · refine draw_held on rfl (fun _ _ h => h) ?_
    repeat' (first | refine need_intro (by first | exact fun h => h | exact nt | exact an2 | exact an3 | rfl | (simp; done) | fail) ?_ | refine And.intro ?_ ?_ | (refine Does.atc hcan [0, 1, 2, 3] rfl ⟨rfl, rfl, rfl, rfl, trivial⟩ (by decide) ?_) | (refine Does.atc hchk [6] rfl ⟨rfl, trivial⟩ (by decide) ?_) | (refine Does.atc hchk [7] rfl ⟨rfl, trivial⟩ (by decide) ?_))
    · refine toK_id ?_
      rw [hO]; exact Nat.le_of_ble_eq_true rfl
    all_goals first
      | (refine toK_of [0, 1, 2, 3, 4, 5, 6, 7] (by decide) (by rw [hO]; exact ⟨rfl, rfl, rfl, rfl, trivial⟩) ?_ ?_; (repeat' (first | exact eqvT_nil | refine eqvT_same ?_)); exact ⟨⟨_, rfl, eqvB_refl _⟩, ⟨_, rfl, eqvB_refl _⟩, ⟨_, rfl, eqvB_refl _⟩, ⟨_, rfl, eqvB_refl _⟩, ⟨_, rfl, eqvB_refl _⟩, ⟨_, rfl, eqvB_refl _⟩, ⟨_, rfl, eqvB_refl _⟩, ⟨_, rfl, eqvB_refl _⟩, trivial⟩)
      | (refine toK_of [0, 1, 2, 3, 4, 5, 7, 6] (by decide) (by rw [hO]; exact ⟨rfl, rfl, rfl, rfl, trivial⟩) ?_ ?_; (repeat' (first | exact eqvT_nil | refine eqvT_same ?_)); exact ⟨⟨_, rfl, eqvB_refl _⟩, ⟨_, rfl, eqvB_refl _⟩, ⟨_, rfl, eqvB_refl _⟩, ⟨_, rfl, eqvB_refl _⟩, ⟨_, rfl, eqvB_refl _⟩, ⟨_, rfl, eqvB_refl _⟩, ⟨_, rfl, eqvB_refl _⟩, ⟨_, rfl, eqvB_refl _⟩, trivial⟩)
      | fail
  generalize htr : c.chk c.eff a n 1 (d.s.who a n).isSome 4#64 5#64 = t
  obtain ⟨is, cs, tv⟩ := t
  cases is with
  | true =>
    refine draw_to on ?tt1 ?_ ?_
    rotate_left 1
    · refine draw_but [5] on rfl (fun _ _ h => h) ?_
      repeat' (first | refine need_intro (by first | exact fun h => h | exact nt | exact an2 | exact an3 | rfl | (simp; done) | fail) ?_ | refine And.intro ?_ ?_)
      all_goals (refine toK_id ?_; rw [hO]; exact Nat.le_of_ble_eq_true rfl)
    repeat (refine need_intro (by first | exact fun h => h | exact nt | exact an2 | exact an3 | rfl | (simp; done) | fail) ?_)
    refine ⟨_, d.h, [0, 1, 2, 3], .inl ⟨rfl, rfl, rfl⟩, by decide, ⟨rfl, rfl, rfl, rfl, trivial⟩, eqvE_refl _, ⟨⟨_, rfl, eqvB_refl _⟩, ⟨_, rfl, eqvB_refl _⟩, ⟨_, rfl, eqvB_refl _⟩, ⟨_, rfl, eqvB_refl _⟩, trivial⟩⟩
  | false =>
    repeat (refine need_intro (by first | exact fun h => h | exact nt | exact an2 | exact an3 | rfl | (simp; done) | fail) ?_)
    refine Does.atn (busLoad d a n hn hr hi hc) [0, 1, 2, 3] rfl ⟨rfl, rfl, rfl, rfl, trivial⟩ (by decide) ?_ ?_
    · rintro v h' ⟨k, _, rfl, rfl⟩
      exact ⟨.inl rfl, .inl rfl, .inr (.inl rfl), .inr (.inl rfl), .inl rfl, .inl rfl, trivial⟩
    rintro v h' ⟨k, hk, rfl, rfl⟩
    have he : loadE (d.load a n) = .tuple [.s (.int .u64 ((d.load a n).getD 0#64).toNat), .s (.bool (d.load a n).isSome)] := by cases d.load a n <;> rfl
    rw [he]
    repeat (refine need_intro (by first | exact fun h => h | exact nt | exact an2 | exact an3 | rfl | (simp; done) | fail) ?_)
    exact ⟨_, (d.loaded a n k).h2, [0, 1, 2, 3, 8, 9], .inr ⟨rfl, k, hk, rfl, rfl⟩, by decide, ⟨rfl, rfl, rfl, rfl, trivial⟩, eqvE_refl _, ⟨⟨_, rfl, eqvB_refl _⟩, ⟨_, rfl, eqvB_refl _⟩, ⟨_, rfl, eqvB_refl _⟩, ⟨_, rfl, eqvB_refl _⟩, ⟨_, rfl, eqvB_refl _⟩, ⟨_, rfl, eqvB_refl _⟩, trivial⟩⟩
end Go.Proofs.YtdlpmbghocabbaaGreatDoor

/- A store, over any bus. Contracts of functions. -/
namespace Go.Anv
open Go
/-- The reservation is gone behind a store to these bytes. -/
def CpuV.freed (c : CpuV) (a : B64) (n : Nat) : CpuV :=
  if c.rvalid = true ∧ (a - c.raddr < BitVec.ofInt 64 c.rsize ∨ c.raddr - a < BitVec.ofNat 64 n) then { c with rvalid := false, raddr := 0#64, rsize := 0 } else c
/-- What is wrong with a store. -/
def Dev.stTrap (d : Dev) (c : CpuV) (a : B64) (n : Nat) : TrapV := c.proper.chk c.proper.eff a n 2 (d.s.who a n).isSome 6#64 7#64
def stE (c : CpuV) (t : TrapV) : EV := .tuple [.agg c.segs, .agg t.segs]
end Go.Anv
namespace Go.Proofs.YtdlpmbghocabbaaGreatDoor
open Go Go.Anv
set_option maxRecDepth 100000 in
theorem freedD (c : CpuV) (a : B64) (n : Nat) (h : List Blk) : Does TB 115 [.agg c.segs, .s (.int .u64 a.toNat), .s (.int .i64 n)] h (fun v h' => v = .agg (c.freed a n).segs ∧ h' = h) := by
  refine fnX_pur TB Tryz.func115 rfl (by decide) rfl _ rfl (fun O on hO => ?_) h
  have e1 : ∀ x y : B64, ∀ z : Int, decide (IntKind.u64.wrap ((x.toNat : Int) - (y.toNat : Int)) < IntKind.u64.wrap z) = decide (x - y < BitVec.ofInt 64 z) := fun x y z => by
    rw [sub64, wrap_u64, lt_nat]
  have e2 : (bif c.rvalid then (bif decide (IntKind.u64.wrap ((a.toNat : Int) - (c.raddr.toNat : Int)) < IntKind.u64.wrap c.rsize) then true else decide (IntKind.u64.wrap ((c.raddr.toNat : Int) - (a.toNat : Int)) < IntKind.u64.wrap (n : Int))) else false) =
      decide (c.rvalid = true ∧ (a - c.raddr < BitVec.ofInt 64 c.rsize ∨ c.raddr - a < BitVec.ofNat 64 n)) := by
    rw [e1, e1, show BitVec.ofInt 64 (n : Int) = BitVec.ofNat 64 n from BitVec.ofInt_natCast .., cond_and, cond_or, Bool.eq_iff_iff, Bool.and_eq_true, Bool.or_eq_true]
    simp
  repeat (refine need_intro (by first | exact fun h => h | exact nt | exact an2 | exact an3 | rfl | (simp; done) | fail) ?_)
  refine ifB_intro (fun g => ?_) (fun g => ?_)
  · repeat (refine need_intro (by first | exact fun h => h | exact nt | exact an2 | exact an3 | rfl | (simp; done) | fail) ?_)
    rw [e2] at g
    unfold CpuV.freed
    rw [if_pos (of_decide_eq_true g)]
    exact eqvE_refl _
  · repeat (refine need_intro (by first | exact fun h => h | exact nt | exact an2 | exact an3 | rfl | (simp; done) | fail) ?_)
    rw [e2] at g
    unfold CpuV.freed
    rw [if_neg (of_decide_eq_false g)]
    exact eqvE_refl _
set_option maxRecDepth 100000 in
set_option maxHeartbeats 4000000 in
theorem storeD (d : Dev) (c : CpuV) (a : B64) (n : Nat) (v : B64) (hn : n ≤ 9223372036854775807) (hr : d.s.nr ≤ 65536) (hf : d.fits) : Does TB 90 [.agg c.segs, .s (.ptr 0 0), .s (.int .u64 a.toNat), .s (.int .i64 n), .s (.int .u64 v.toNat)] d.h
    (fun r h' => ((d.stTrap c a n).is = true ∧ r = stE c.proper (d.stTrap c a n) ∧ h' = d.h) ∨ ((d.stTrap c a n).is = false ∧ ∃ k, (d.stored a n v k).fits ∧ r = stE (c.proper.freed a n) noTrap ∧ h' = (d.stored a n v k).h2)) := by
  refine fnX_does TB Tryz.func90 rfl (by decide) (fun O on hO => ?_)
  unfold Dev.stTrap
  repeat (refine need_intro (by first | exact fun h => h | exact nt | exact an2 | exact an3 | rfl | (simp; done) | fail) ?_)
  refine (proper_spec c _).mono ?_
  rintro _ _ ⟨rfl, rfl⟩
  generalize c.proper = c
  repeat (refine need_intro (by first | exact fun h => h | exact nt | exact an2 | exact an3 | rfl | (simp; done) | fail) ?_)
  have hcan := busCan d a n 2 hn hr (.inr (.inl rfl))
  have hchk := checkD c a n 2 (d.s.who a n).isSome 6#64 7#64 hn
  refine draw_to on ?t7 ?_ ?_
  rotate_left 1
  · refine draw_held on rfl (fun _ _ h => h) ?_
    repeat' (first | refine need_intro (by first | exact fun h => h | exact nt | exact an2 | exact an3 | rfl | (simp; done) | fail) ?_ | refine And.intro ?_ ?_ | (refine Does.atc hcan [0, 1, 2, 3] rfl ⟨rfl, rfl, rfl, rfl, trivial⟩ (by decide) ?_) | (refine Does.atc hchk [7] rfl ⟨rfl, trivial⟩ (by decide) ?_) | (refine Does.atc hchk [8] rfl ⟨rfl, trivial⟩ (by decide) ?_))
    · refine toK_id ?_
      rw [hO]; exact Nat.le_of_ble_eq_true rfl
    all_goals first
      | (refine toK_of [0, 1, 2, 3, 4, 5, 6, 7, 8] (by decide) (by rw [hO]; exact ⟨rfl, rfl, rfl, rfl, trivial⟩) ?_ ?_; (repeat' (first | exact eqvT_nil | refine eqvT_same ?_)); exact ⟨⟨_, rfl, eqvB_refl _⟩, ⟨_, rfl, eqvB_refl _⟩, ⟨_, rfl, eqvB_refl _⟩, ⟨_, rfl, eqvB_refl _⟩, ⟨_, rfl, eqvB_refl _⟩, ⟨_, rfl, eqvB_refl _⟩, ⟨_, rfl, eqvB_refl _⟩, ⟨_, rfl, eqvB_refl _⟩, ⟨_, rfl, eqvB_refl _⟩, trivial⟩)
      | (refine toK_of [0, 1, 2, 3, 4, 5, 6, 8, 7] (by decide) (by rw [hO]; exact ⟨rfl, rfl, rfl, rfl, trivial⟩) ?_ ?_; (repeat' (first | exact eqvT_nil | refine eqvT_same ?_)); exact ⟨⟨_, rfl, eqvB_refl _⟩, ⟨_, rfl, eqvB_refl _⟩, ⟨_, rfl, eqvB_refl _⟩, ⟨_, rfl, eqvB_refl _⟩, ⟨_, rfl, eqvB_refl _⟩, ⟨_, rfl, eqvB_refl _⟩, ⟨_, rfl, eqvB_refl _⟩, ⟨_, rfl, eqvB_refl _⟩, ⟨_, rfl, eqvB_refl _⟩, trivial⟩)
      | fail
  generalize htr : c.chk c.eff a n 2 (d.s.who a n).isSome 6#64 7#64 = t
  obtain ⟨is, cs, tv⟩ := t
  cases is with
  | true =>
    refine draw_to on ?tt1 ?_ ?_
    rotate_left 1
    · refine draw_but [5, 6] on rfl (fun _ _ h => h) ?_
      repeat' (first | refine need_intro (by first | exact fun h => h | exact nt | exact an2 | exact an3 | rfl | (simp; done) | fail) ?_ | refine And.intro ?_ ?_)
      all_goals (refine toK_id ?_; rw [hO]; exact Nat.le_of_ble_eq_true rfl)
    repeat (refine need_intro (by first | exact fun h => h | exact nt | exact an2 | exact an3 | rfl | (simp; done) | fail) ?_)
    refine ⟨_, d.h, [0, 1, 2, 3], .inl ⟨rfl, rfl, rfl⟩, by decide, ⟨rfl, rfl, rfl, rfl, trivial⟩, eqvE_refl _, ⟨⟨_, rfl, eqvB_refl _⟩, ⟨_, rfl, eqvB_refl _⟩, ⟨_, rfl, eqvB_refl _⟩, ⟨_, rfl, eqvB_refl _⟩, trivial⟩⟩
  | false =>
    repeat (refine need_intro (by first | exact fun h => h | exact nt | exact an2 | exact an3 | rfl | (simp; done) | fail) ?_)
    refine Does.atn (busStore d a n v hn hr hf) [0, 1, 2, 3] rfl ⟨rfl, rfl, rfl, rfl, trivial⟩ (by decide) ?_ ?_
    · rintro v h' ⟨k, _, rfl, rfl⟩
      exact ⟨.inl rfl, .inl rfl, .inr (.inl rfl), .inr (.inl rfl), .inl rfl, .inl rfl, trivial⟩
    rintro _ h' ⟨k, hk, rfl, rfl⟩
    repeat (refine need_intro (by first | exact fun h => h | exact nt | exact an2 | exact an3 | rfl | (simp; done) | fail) ?_)
    refine (freedD c a n _).mono ?_
    rintro _ _ ⟨rfl, rfl⟩
    repeat (refine need_intro (by first | exact fun h => h | exact nt | exact an2 | exact an3 | rfl | (simp; done) | fail) ?_)
    exact ⟨_, (d.stored a n v k).h2, [0, 1, 2, 3, 9, 10], .inr ⟨rfl, k, hk, rfl, rfl⟩, by decide, ⟨rfl, rfl, rfl, rfl, trivial⟩, eqvE_refl _, ⟨⟨_, rfl, eqvB_refl _⟩, ⟨_, rfl, eqvB_refl _⟩, ⟨_, rfl, eqvB_refl _⟩, ⟨_, rfl, eqvB_refl _⟩, ⟨_, rfl, eqvB_refl _⟩, ⟨_, rfl, eqvB_refl _⟩, trivial⟩⟩
end Go.Proofs.YtdlpmbghocabbaaGreatDoor

/- What is wrong with an atomic access; LR. Contracts of functions. -/
namespace Go.Anv
open Go
def alignE (a : B64) (n : Nat) : Bool := (n == 4 || n == 8) && decide (a.toNat % n = 0)
def sizesE : Blk := .cells true [.ints .i64 2 (litF [4, 8])] 0
def CpuV.chkE (c : CpuV) (e : Int) (a : B64) (n : Nat) (bits : Int) (there : Bool) (ca cs : B64) : TrapV :=
  if alignE a n = true then (if checkI c.cfg c.addr e a n bits = true ∧ there = true then noTrap else ⟨true, cs, a⟩) else ⟨true, ca, a⟩
/-- What is wrong with LR. -/
def Dev.lrTrap (d : Dev) (c : CpuV) (a : B64) (n : Nat) : TrapV := c.proper.chkE c.proper.eff a n 1 (decide (1 ≤ n) && d.s.holds a n) 4#64 5#64
def lrE (v : B64) (c : CpuV) (t : TrapV) : EV := .tuple [.s (.int .u64 v.toNat), .agg c.segs, .agg t.segs]
def CpuV.held (c : CpuV) (a : B64) (n : Nat) : CpuV := { c with rvalid := true, raddr := a, rsize := n }
end Go.Anv
namespace Go.Proofs.YtdlpmbghocabbaaGreatDoor
open Go Go.Anv
set_option maxRecDepth 100000 in
theorem alignedE (a : B64) (n : Nat) (hn : n ≤ 9223372036854775807) : Does TB 139 [.s (.int .u64 a.toNat), .s (.int .i64 n), .s (.slice 0 0 2 2)] [sizesE] (fun v h' => v = .s (.bool (alignE a n)) ∧ h' = [sizesE]) := by
  refine fnX_does TB Tryz.func139 rfl (by decide) (fun O on hO => ?_)
  have hz : n ≠ 0 → ((a.toNat : Int).tmod (IntKind.u64.wrap (n : Int)) == 0) = decide (a.toNat % n = 0) := fun h => by
    rw [wnat (by omega), Int.tmod_eq_emod_of_nonneg (by omega)]
    by_cases e : a.toNat % n = 0
    · rw [decide_eq_true e, beq_iff_eq, ← Int.natCast_emod, e]; rfl
    · rw [decide_eq_false e]; refine beq_false_of_ne ?_; rw [← Int.natCast_emod]; omega
  by_cases hs : n = 4 ∨ n = 8
  · have hv : alignE a n = decide (a.toNat % n = 0) := by unfold alignE; rcases hs with rfl | rfl <;> rfl
    rw [← hz (by omega)] at hv
    clear hz
    rcases hs with rfl | rfl
    all_goals
      repeat (refine need_intro (by first | exact fun h => h | exact nt | exact an2 | exact an3 | rfl | (simp; done) | fail) ?_)
      refine loop_times on 5 ?_
      repeat (first | refine Box.mk ?_ | refine need_intro (by first | decide | rfl | fail) ?_)
      exact Ends.ro (H := [sizesE]) rfl hv.symm rfl
  · have hv : alignE a n = false := by
      unfold alignE
      rw [show (n == 4 || n == 8) = false by simp; omega]; rfl
    repeat (refine need_intro (by first | exact fun h => h | exact nt | exact an2 | exact an3 | rfl | (simp; done) | fail) ?_)
    refine loop_times on 5 ?_
    repeat (first | refine Box.mk ?_ | refine need_intro (by first | decide | rfl | fail) ?_)
    refine ifB_intro (fun h => absurd (h.symm.trans (show ((4 : Int) == (n : Int)) = false from beq_false_of_ne (by omega))) (by decide)) (fun _ => ?_)
    repeat (first | refine Box.mk ?_ | refine need_intro (by first | decide | rfl | fail) ?_)
    refine ifB_intro (fun h => absurd (h.symm.trans (show ((8 : Int) == (n : Int)) = false from beq_false_of_ne (by omega))) (by decide)) (fun _ => ?_)
    repeat (first | refine Box.mk ?_ | refine need_intro (by first | decide | rfl | fail) ?_)
    exact Ends.ro (H := [sizesE]) rfl hv.symm rfl
set_option maxRecDepth 100000 in
theorem checkE (c : CpuV) (a : B64) (n : Nat) (bits : Int) (there : Bool) (ca cs : B64) (hn : n ≤ 9223372036854775807) : Does TB 111 [.agg c.segs, .s (.int .u64 a.toNat), .s (.int .i64 n), .s (.int .i64 bits), .s (.bool there), .s (.int .u64 ca.toNat), .s (.int .u64 cs.toNat), .s (.slice 0 0 2 2)] [sizesE] (fun v h' => v = .agg (c.chkE c.eff a n bits there ca cs).segs ∧ h' = [sizesE]) := by
  refine fnX_does TB Tryz.func111 rfl (by decide) (fun O on hO => ?_)
  unfold CpuV.chkE
  repeat (refine need_intro (by first | exact fun h => h | exact nt | exact an2 | exact an3 | rfl | (simp; done) | fail) ?_)
  have hal := alignedE a n hn
  refine Does.atc (hal) [0] rfl ⟨rfl, trivial⟩ (by decide) ?_
  repeat (refine need_intro (by first | exact fun h => h | exact nt | exact an2 | exact an3 | rfl | (simp; done) | fail) ?_)
  cases h1 : alignE a n with
  | false =>
    repeat (refine need_intro (by first | exact fun h => h | exact nt | exact an2 | exact an3 | rfl | (simp; done) | fail) ?_)
    refine (exceptionD ca a _).mono ?_
    rintro _ _ ⟨rfl, rfl⟩
    repeat (refine need_intro (by first | exact fun h => h | exact nt | exact an2 | exact an3 | rfl | (simp; done) | fail) ?_)
    exact Ends.ro (H := [sizesE]) rfl (eqvE_refl _) rfl
  | true =>
    repeat (refine need_intro (by first | exact fun h => h | exact nt | exact an2 | exact an3 | rfl | (simp; done) | fail) ?_)
    refine draw_to on ?tt1 ?_ ?_
    rotate_left 1
    · refine draw_held on rfl (fun _ _ h => h) ?_
      repeat' (first | refine need_intro (by first | exact fun h => h | exact nt | exact an2 | exact an3 | rfl | (simp; done) | fail) ?_ | refine And.intro ?_ ?_ | (refine (eff_spec c _).mono ?_; rintro _ _ ⟨rfl, rfl⟩) | (refine (pcheck_spec c.cfg c.addr c.eff a n bits _).mono ?_; rintro _ _ ⟨rfl, rfl⟩))
      all_goals (refine toK_id ?_; rw [hO]; exact Nat.le_of_ble_eq_true rfl)
    repeat (refine need_intro (by first | exact fun h => h | exact nt | exact an2 | exact an3 | rfl | (simp; done) | fail) ?_)
    cases h2 : checkI c.cfg c.addr c.eff a n bits with
    | false =>
      repeat (refine need_intro (by first | exact fun h => h | exact nt | exact an2 | exact an3 | rfl | (simp; done) | fail) ?_)
      refine (exceptionD cs a _).mono ?_
      rintro _ _ ⟨rfl, rfl⟩
      repeat (refine need_intro (by first | exact fun h => h | exact nt | exact an2 | exact an3 | rfl | (simp; done) | fail) ?_)
      exact Ends.ro (H := [sizesE]) rfl (eqvE_refl _) rfl
    | true =>
      cases there with
      | false =>
        repeat (refine need_intro (by first | exact fun h => h | exact nt | exact an2 | exact an3 | rfl | (simp; done) | fail) ?_)
        refine (exceptionD cs a _).mono ?_
        rintro _ _ ⟨rfl, rfl⟩
        repeat (refine need_intro (by first | exact fun h => h | exact nt | exact an2 | exact an3 | rfl | (simp; done) | fail) ?_)
        exact Ends.ro (H := [sizesE]) rfl (eqvE_refl _) rfl
      | true =>
        repeat (refine need_intro (by first | exact fun h => h | exact nt | exact an2 | exact an3 | rfl | (simp; done) | fail) ?_)
        exact Ends.ro (H := [sizesE]) rfl (eqvE_refl _) rfl
end Go.Proofs.YtdlpmbghocabbaaGreatDoor

/- LR, over any bus. Contract of a function. -/
namespace Go.Proofs.YtdlpmbghocabbaaGreatDoor
open Go Go.Anv
set_option maxRecDepth 100000 in
set_option maxHeartbeats 4000000 in
theorem reserveD (d : Dev) (c : CpuV) (a : B64) (n : Nat) (hn : n ≤ 9223372036854775807) (hr : d.s.nr ≤ 65536) : Does TB 100 [.agg c.segs, .s (.ptr 0 0), .s (.int .u64 a.toNat), .s (.int .i64 n)] d.h
    (fun r h' => r = (if (d.lrTrap c a n).is = true then lrE 0#64 c.proper (d.lrTrap c a n) else lrE ((d.load a n).getD 0#64) (c.proper.held a n) noTrap) ∧ h' = d.h) := by
  refine fnX_does TB Tryz.func100 rfl (by decide) (fun O on hO => ?_)
  unfold Dev.lrTrap
  repeat (refine need_intro (by first | exact fun h => h | exact nt | exact an2 | exact an3 | rfl | (simp; done) | fail) ?_)
  refine (proper_spec c _).mono ?_
  rintro _ _ ⟨rfl, rfl⟩
  generalize c.proper = c
  repeat (refine need_intro (by first | exact fun h => h | exact nt | exact an2 | exact an3 | rfl | (simp; done) | fail) ?_)
  have hcan := busIsRam d a n hn hr
  have hchk := checkE c a n 1 (decide (1 ≤ n) && d.s.holds a n) 4#64 5#64 hn
  refine draw_to on ?t7 ?_ ?_
  rotate_left 1
  · refine draw_held on rfl (fun _ _ h => h) ?_
    repeat' (first | refine need_intro (by first | exact fun h => h | exact nt | exact an2 | exact an3 | rfl | (simp; done) | fail) ?_ | refine And.intro ?_ ?_ | (refine Does.atc hcan [0, 1, 2, 3] rfl ⟨rfl, rfl, rfl, rfl, trivial⟩ (by decide) ?_) | (refine Does.atc hchk [7] rfl ⟨rfl, trivial⟩ (by decide) ?_) | (refine Does.atc hchk [8] rfl ⟨rfl, trivial⟩ (by decide) ?_))
    · refine toK_id ?_
      rw [hO]; exact Nat.le_of_ble_eq_true rfl
    all_goals first
      | (refine toK_of [0, 1, 2, 3, 4, 5, 6, 7, 8] (by decide) (by rw [hO]; exact ⟨rfl, rfl, rfl, rfl, trivial⟩) ?_ ?_; (repeat' (first | exact eqvT_nil | refine eqvT_same ?_)); exact ⟨⟨_, rfl, eqvB_refl _⟩, ⟨_, rfl, eqvB_refl _⟩, ⟨_, rfl, eqvB_refl _⟩, ⟨_, rfl, eqvB_refl _⟩, ⟨_, rfl, eqvB_refl _⟩, ⟨_, rfl, eqvB_refl _⟩, ⟨_, rfl, eqvB_refl _⟩, ⟨_, rfl, eqvB_refl _⟩, ⟨_, rfl, eqvB_refl _⟩, trivial⟩)
      | (refine toK_of [0, 1, 2, 3, 4, 5, 6, 8, 7] (by decide) (by rw [hO]; exact ⟨rfl, rfl, rfl, rfl, trivial⟩) ?_ ?_; (repeat' (first | exact eqvT_nil | refine eqvT_same ?_)); exact ⟨⟨_, rfl, eqvB_refl _⟩, ⟨_, rfl, eqvB_refl _⟩, ⟨_, rfl, eqvB_refl _⟩, ⟨_, rfl, eqvB_refl _⟩, ⟨_, rfl, eqvB_refl _⟩, ⟨_, rfl, eqvB_refl _⟩, ⟨_, rfl, eqvB_refl _⟩, ⟨_, rfl, eqvB_refl _⟩, ⟨_, rfl, eqvB_refl _⟩, trivial⟩)
      | fail
  generalize htr : c.chkE c.eff a n 1 (decide (1 ≤ n) && d.s.holds a n) 4#64 5#64 = t
  obtain ⟨is, cs, tv⟩ := t
  cases is with
  | true =>
    rw [if_pos rfl]
    refine draw_to on ?tt1 ?_ ?_
    rotate_left 1
    · refine draw_but [5, 6] on rfl (fun _ _ h => h) ?_
      repeat' (first | refine need_intro (by first | exact fun h => h | exact nt | exact an2 | exact an3 | rfl | (simp; done) | fail) ?_ | refine And.intro ?_ ?_)
      all_goals (refine toK_id ?_; rw [hO]; exact Nat.le_of_ble_eq_true rfl)
    repeat (refine need_intro (by first | exact fun h => h | exact nt | exact an2 | exact an3 | rfl | (simp; done) | fail) ?_)
    exact Ends.ro (H := d.h) rfl (eqvE_refl _) rfl
  | false =>
    rw [if_neg Bool.false_ne_true]
    have hh : d.s.holds a n = true := by
      unfold CpuV.chkE at htr
      split at htr
      · split at htr
        · rename_i h; simp at h; exact h.2.2
        · cases htr
      · cases htr
    have hl := busLoad_plain d a n hn hr (holds_who hh)
    have he : loadE (d.load a n) = .tuple [.s (.int .u64 ((d.load a n).getD 0#64).toNat), .s (.bool (d.load a n).isSome)] := by cases d.load a n <;> rfl
    rw [he] at hl
    repeat (refine need_intro (by first | exact fun h => h | exact nt | exact an2 | exact an3 | rfl | (simp; done) | fail) ?_)
    refine Does.atc (hl) [0, 1, 2, 3] rfl ⟨rfl, rfl, rfl, rfl, trivial⟩ (by decide) ?_
    repeat (refine need_intro (by first | exact fun h => h | exact nt | exact an2 | exact an3 | rfl | (simp; done) | fail) ?_)
    refine draw_to on ?tt2 ?_ ?_
    rotate_left 1
    · refine draw_but [5, 6] on rfl (fun _ _ h => h) ?_
      repeat' (first | refine need_intro (by first | exact fun h => h | exact nt | exact an2 | exact an3 | rfl | (simp; done) | fail) ?_ | refine And.intro ?_ ?_)
      all_goals (refine toK_id ?_; rw [hO]; exact Nat.le_of_ble_eq_true rfl)
    repeat (refine need_intro (by first | exact fun h => h | exact nt | exact an2 | exact an3 | rfl | (simp; done) | fail) ?_)
    exact Ends.ro (H := d.h) rfl (eqvE_refl _) rfl
end Go.Proofs.YtdlpmbghocabbaaGreatDoor

/- Signs, bits of a word, branches, sizes. Contracts of functions. -/
namespace Go.Anv
open Go
/-- The lower b bits, their highest repeated upwards. -/
def extB (v : B64) (b : Nat) : B64 := (v <<< (64 - b)).sshiftRight (64 - b)
def lowN (v : B64) (k : Nat) : B64 := v &&& BitVec.ofNat 64 (2 ^ k - 1)
/-- n bits of v from lo on. -/
def bitsV (v : B64) (lo n : Nat) : B64 := lowN (v >>> lo) n
def takenB (op : Int) (a b : B64) : Bool :=
  if op = 5 then a == b else if op = 6 then a != b else if op = 7 then decide (a.toInt < b.toInt) else if op = 8 then decide (a.toInt ≥ b.toInt) else if op = 9 then decide (a < b) else if op = 10 then decide (b ≤ a) else false
def widthI (op : Int) : Nat := if 77 ≤ op ∧ op ≤ 85 then 4 else if 88 ≤ op ∧ op ≤ 96 then 8 else 0
theorem i64_nat (a : B64) : IntKind.i64.wrap (a.toNat : Int) = a.toInt := by rw [wrap_i64, ofInt_toNat]
theorem u64_int (a : B64) : IntKind.u64.wrap a.toInt = (a.toNat : Int) := by rw [wrap_u64, BitVec.ofInt_toInt]
theorem low_step (v : B64) (lo k : Nat) : lowN (v >>> lo) k ||| (((v >>> (lo + k)) &&& 1#64) <<< k) = lowN (v >>> lo) (k + 1) := by
  have ht : ∀ n j : Nat, (BitVec.ofNat 64 (2 ^ n - 1)).getLsbD j = (decide (j < 64) && decide (j < n)) := fun n j => by
    rw [BitVec.getLsbD_ofNat, Nat.testBit_two_pow_sub_one]
  have h1 : ∀ i : Nat, (1#64 : B64).getLsbD i = decide (i = 0) := fun i => by
    rw [BitVec.getLsbD_one]; simp
  apply BitVec.eq_of_getLsbD_eq
  intro j hj
  unfold lowN
  simp only [BitVec.getLsbD_or, BitVec.getLsbD_and, ht, BitVec.getLsbD_shiftLeft, BitVec.getLsbD_ushiftRight, h1]
  by_cases h : j < k
  · simp [h, hj, show j < k + 1 by omega]
  · by_cases h2 : j = k
    · subst h2; simp [hj]
    · simp [h, hj, show ¬ j < k + 1 by omega, show ¬ (j - k = 0) by omega]
end Go.Anv
namespace Go.Proofs.YtdlpmbghocabbaaGreatDoor
open Go Go.Anv
theorem signedA (v : B32) (h : List Blk) : Does TB 118 [.s (.int .u32 v.toNat)] h (fun r h' => r = .s (.int .u64 (v.signExtend 64).toNat) ∧ h' = h) := by
  refine fnX_pure TB Tryz.func118 rfl (by decide) rfl _ rfl (fun O on => ?_) h
  repeat (refine need_intro (by first | exact fun h => h | exact nt | exact an2 | exact an3 | rfl | (simp; done) | fail) ?_)
  refine ⟨rfl, ?_⟩
  show IntKind.u64.wrap (IntKind.i64.wrap (IntKind.i32.wrap (v.toNat : Int))) = _
  rw [wrap_i32, ofInt_toNat, i64_in (by have := BitVec.le_toInt v; omega) (by have := @BitVec.toInt_lt 32 v; omega), wrap_u64]
  rfl
theorem extendA (v : B64) (b : Nat) (h0 : 0 < b) (h1 : b < 64) (h : List Blk) : Does TB 88 [.s (.int .u64 v.toNat), .s (.int .i64 b)] h (fun r h' => r = .s (.int .u64 (extB v b).toNat) ∧ h' = h) := by
  refine fnX_pure TB Tryz.func88 rfl (by decide) rfl _ rfl (fun O on => ?_) h
  have e0 : decide ((b : Int) ≤ 0) = false := decide_eq_false (by omega)
  have e1 : decide ((b : Int) ≥ 64) = false := decide_eq_false (by omega)
  have e2 : IntKind.i64.wrap (64 - (b : Int)) = ((64 - b : Nat) : Int) := by rw [i64_in (by omega) (by omega)]; omega
  repeat (refine need_intro (by first | exact fun h => h | exact nt | exact an2 | exact an3 | rfl | (simp; done) | fail) ?_)
  refine ifB_intro (fun g => absurd (g.symm.trans e0) (by decide)) (fun _ => ?_)
  repeat (refine need_intro (by first | exact fun h => h | exact nt | exact an2 | exact an3 | rfl | (simp; done) | fail) ?_)
  refine ifB_intro (fun g => absurd (g.symm.trans e1) (by decide)) (fun _ => ?_)
  repeat (refine need_intro (by first | exact fun h => h | exact fun _ => rfl | (rw [e2]; omega) | fail) ?_)
  refine ⟨rfl, ?_⟩
  show IntKind.u64.wrap ((IntKind.i64.wrap (IntKind.u64.wrap ((v.toNat : Int) * 2 ^ min (IntKind.i64.wrap (64 - (b : Int))).toNat IntKind.u64.bits))).fdiv (2 ^ min (IntKind.i64.wrap (64 - (b : Int))).toNat IntKind.i64.bits)) = _
  rw [e2, Int.toNat_natCast, show min (64 - b) IntKind.u64.bits = 64 - b from by show min (64 - b) 64 = _; omega, show min (64 - b) IntKind.i64.bits = 64 - b from by show min (64 - b) 64 = _; omega, wrap_u64 ((v.toNat : Int) * 2 ^ (64 - b)), mul_pow, i64_nat]
  unfold extB
  rw [← u64_int, BitVec.toInt_sshiftRight, Int.shiftRight_eq_div_pow, Int.fdiv_eq_ediv_of_nonneg _ (Int.le_of_lt (Int.pow_pos (by decide)))]
  simp
theorem extendA64 (v : B64) (h : List Blk) : Does TB 88 [.s (.int .u64 v.toNat), .s (.int .i64 64)] h (fun r h' => r = .s (.int .u64 v.toNat) ∧ h' = h) := by
  refine fnX_pure TB Tryz.func88 rfl (by decide) rfl _ rfl (fun O on => ?_) h
  repeat (refine need_intro (by first | exact fun h => h | exact nt | exact an2 | exact an3 | rfl | (simp; done) | fail) ?_)
  exact eqvE_refl _
/-- Some bits of a word. -/
theorem bitsA (v : B64) (lo n : Nat) (h0 : 1 ≤ n) (h1 : lo + n ≤ 64) (h : List Blk) : Does TB 116 [.s (.int .u64 v.toNat), .s (.int .i64 ((lo + n - 1 : Nat) : Int)), .s (.int .i64 lo)] h (fun r h' => r = .s (.int .u64 (bitsV v lo n).toNat) ∧ h' = h) := by
  refine fnX_pure TB Tryz.func116 rfl (by decide) rfl _ rfl (fun O on => ?_) h
  have e0 : decide ((lo : Int) < 0) = false := decide_eq_false (by omega)
  have e1 : decide (((lo + n - 1 : Nat) : Int) > 63) = false := decide_eq_false (by omega)
  have e2 : decide (((lo + n - 1 : Nat) : Int) < (lo : Int)) = false := decide_eq_false (by omega)
  have e3 : IntKind.i64.wrap (IntKind.i64.wrap (((lo + n - 1 : Nat) : Int) - (lo : Int)) + 1) = (n : Int) := by rw [i64_in (x := ((lo + n - 1 : Nat) : Int) - (lo : Int)) (by omega) (by omega), i64_in (by omega) (by omega)]; omega
  repeat (refine need_intro (by first | exact fun h => h | exact nt | exact an2 | exact an3 | rfl | (simp; done) | fail) ?_)
  refine ifB_intro (fun g => absurd (g.symm.trans (by rw [e0, e1, e2])) (by decide)) (fun _ => ?_)
  repeat (refine need_intro (by first | exact fun h => h | exact nt | exact an2 | exact an3 | rfl | (simp; done) | fail) ?_)
  refine loop_by (A := Nat) on (fun k => [(7, .s (.int .u64 (bitsV v lo k).toNat)), (24, .s (.int .i64 (k : Int)))]) (fun _ => []) (fun k => k ≤ n) (fun k => n - k) 0 (Nat.zero_le _) ?_ ?_
  · refine ⟨?_, eqvH_nil⟩
    have e4 : (0 : Int) = ((bitsV v lo 0).toNat : Int) := by unfold bitsV lowN; simp
    repeat' (first | exact eqvT_nil | refine eqvT_junk ?_ | refine eqvT_same ?_ | refine eqvT_int e4 ?_)
  · intro k hk
    have hk : k ≤ n := hk
    refine ifB_intro (fun g => ?_) (fun g => ?_)
    · have g : (k : Int) < (n : Int) := by have := of_decide_eq_true g; rw [e3] at this; exact this
      have e5 : IntKind.i64.wrap ((lo : Int) + (k : Int)) = ((lo + k : Nat) : Int) := by rw [i64_in (by omega) (by omega)]; omega
      repeat (refine need_intro (by first | exact fun h => h | exact fun _ => rfl | (rw [e5]; omega) | omega | fail) ?_)
      refine ⟨k + 1, (by show k + 1 ≤ n; omega), (by show n - (k + 1) < n - k; omega), ?_, eqvH_nil⟩
      have e6 : bitX .or .u64 ((bitsV v lo k).toNat : Int) (IntKind.u64.wrap ((bitX .and .u64 ((v.toNat : Int).fdiv (2 ^ min (IntKind.i64.wrap ((lo : Int) + (k : Int))).toNat IntKind.u64.bits)) 1) * 2 ^ min (k : Int).toNat IntKind.u64.bits)) = ((bitsV v lo (k + 1)).toNat : Int) := by
        rw [e5, Int.toNat_natCast, Int.toNat_natCast, show min (lo + k) IntKind.u64.bits = lo + k from by show min (lo + k) 64 = _; omega, show min k IntKind.u64.bits = k from by show min k 64 = _; omega, fdiv_pow, and_u64, ofInt_toNat, wrap_u64, mul_pow, or_u64, ofInt_toNat, ofInt_toNat]
        exact congrArg (fun z : B64 => (z.toNat : Int)) (low_step v lo k)
      have e7 : IntKind.i64.wrap ((k : Int) + 1) = ((k + 1 : Nat) : Int) := by rw [i64_in (by omega) (by omega)]; omega
      repeat' (first | exact eqvT_nil | refine eqvT_junk ?_ | refine eqvT_same ?_ | refine eqvT_int e6 ?_ | refine eqvT_int e7 ?_)
    · have g : ¬ (k : Int) < (n : Int) := by have := of_decide_eq_false g; rw [e3] at this; exact this
      obtain rfl : k = n := by omega
      repeat (refine need_intro (by first | exact fun h => h | exact nt | exact an2 | exact an3 | rfl | (simp; done) | fail) ?_)
      exact eqvE_refl _
theorem takenA (op : Int) (a b : B64) (hop : 5 ≤ op ∧ op ≤ 10) (h : List Blk) : Does TB 83 [.s (.int .i64 op), .s (.int .u64 a.toNat), .s (.int .u64 b.toNat)] h (fun r h' => r = .tuple [.s (.bool (takenB op a b)), .s (.bool true)] ∧ h' = h) := by
  have h6 : op = 5 ∨ op = 6 ∨ op = 7 ∨ op = 8 ∨ op = 9 ∨ op = 10 := by omega
  refine fnX_pure TB Tryz.func83 rfl (by decide) rfl _ rfl (fun O on => ?_) h
  rcases h6 with rfl | rfl | rfl | rfl | rfl | rfl
  · repeat (refine need_intro (by first | exact fun h => h | exact nt | exact an2 | exact an3 | rfl | (simp; done) | fail) ?_)
    exact ⟨beq_nat a b, rfl, trivial⟩
  · repeat (refine need_intro (by first | exact fun h => h | exact nt | exact an2 | exact an3 | rfl | (simp; done) | fail) ?_)
    exact ⟨bne_nat a b, rfl, trivial⟩
  · repeat (refine need_intro (by first | exact fun h => h | exact nt | exact an2 | exact an3 | rfl | (simp; done) | fail) ?_)
    exact ⟨by show decide (IntKind.i64.wrap _ < IntKind.i64.wrap _) = _; rw [i64_nat, i64_nat]; rfl, rfl, trivial⟩
  · repeat (refine need_intro (by first | exact fun h => h | exact nt | exact an2 | exact an3 | rfl | (simp; done) | fail) ?_)
    exact ⟨by show decide (IntKind.i64.wrap _ ≥ IntKind.i64.wrap _) = _; rw [i64_nat, i64_nat]; rfl, rfl, trivial⟩
  · repeat (refine need_intro (by first | exact fun h => h | exact nt | exact an2 | exact an3 | rfl | (simp; done) | fail) ?_)
    exact ⟨lt_nat a b, rfl, trivial⟩
  · repeat (refine need_intro (by first | exact fun h => h | exact nt | exact an2 | exact an3 | rfl | (simp; done) | fail) ?_)
    exact ⟨ge_nat a b, rfl, trivial⟩
theorem widthA (op : Int) (h : List Blk) : Does TB 122 [.s (.int .i64 op)] h (fun r h' => r = .s (.int .i64 (widthI op)) ∧ h' = h) := by
  refine fnX_pure TB Tryz.func122 rfl (by decide) rfl _ rfl (fun O on => ?_) h
  have e1 : (bif decide (op ≥ 77) then decide (op ≤ 85) else false) = decide (77 ≤ op ∧ op ≤ 85) := by rw [cond_and]; simp
  have e2 : (bif decide (op ≥ 88) then decide (op ≤ 96) else false) = decide (88 ≤ op ∧ op ≤ 96) := by rw [cond_and]; simp
  unfold widthI
  repeat (refine need_intro (by first | exact fun h => h | exact nt | exact an2 | exact an3 | rfl | (simp; done) | fail) ?_)
  refine ifB_intro (fun g => ?_) (fun g => ?_)
  · rw [if_pos (of_decide_eq_true (e1.symm.trans g))]
    exact eqvE_refl _
  · rw [if_neg (of_decide_eq_false (e1.symm.trans g))]
    repeat (refine need_intro (by first | exact fun h => h | exact nt | exact an2 | exact an3 | rfl | (simp; done) | fail) ?_)
    refine ifB_intro (fun g => ?_) (fun g => ?_)
    · rw [if_pos (of_decide_eq_true (e2.symm.trans g))]
      exact eqvE_refl _
    · rw [if_neg (of_decide_eq_false (e2.symm.trans g))]
      exact eqvE_refl _
end Go.Proofs.YtdlpmbghocabbaaGreatDoor

/- What an atomic operation writes back. Contract of a function. -/
namespace Go.Anv
open Go
def amoD (k : Nat) (old b : B64) : B64 :=
  match k with
  | 0 => b
  | 1 => old + b
  | 2 => old ^^^ b
  | 3 => old &&& b
  | 4 => old ||| b
  | 5 => if b.toInt < old.toInt then b else old
  | 6 => if b.toInt > old.toInt then b else old
  | 7 => if b < old then b else old
  | _ => if b > old then b else old
def sx32 (v : B64) : B64 := (v.setWidth 32).signExtend 64
def amoV (op : Int) (old b : B64) : B64 := if op ≤ 85 then sx32 (amoD (op - 77).toNat (sx32 old) (sx32 b)) else amoD (op - 88).toNat old b
theorem u32_of (v : B64) : IntKind.u32.wrap (v.toNat : Int) = ((v.setWidth 32).toNat : Int) := by
  rw [wrap_u32, BitVec.toNat_setWidth, BitVec.toNat_ofInt]; omega
theorem u64_of32 (x : B32) : IntKind.u64.wrap (x.toNat : Int) = ((x.setWidth 64).toNat : Int) := by
  rw [wrap_u64, BitVec.toNat_setWidth, BitVec.toNat_ofInt]; omega
theorem minI (a b : B64) : IntKind.u64.wrap (if IntKind.i64.wrap (b.toNat : Int) < IntKind.i64.wrap (a.toNat : Int) then IntKind.i64.wrap (b.toNat : Int) else IntKind.i64.wrap (a.toNat : Int)) = ((amoD 5 a b).toNat : Int) := by
  rw [i64_nat, i64_nat]; unfold amoD; split <;> exact u64_int _
theorem maxI (a b : B64) : IntKind.u64.wrap (if IntKind.i64.wrap (b.toNat : Int) > IntKind.i64.wrap (a.toNat : Int) then IntKind.i64.wrap (b.toNat : Int) else IntKind.i64.wrap (a.toNat : Int)) = ((amoD 6 a b).toNat : Int) := by
  rw [i64_nat, i64_nat]; unfold amoD; split <;> exact u64_int _
theorem minN (a b : B64) : (if (b.toNat : Int) < (a.toNat : Int) then (b.toNat : Int) else (a.toNat : Int)) = ((amoD 7 a b).toNat : Int) := by
  show _ = (((if b < a then b else a) : B64).toNat : Int)
  by_cases h : b < a
  · rw [if_pos h, if_pos (by rw [BitVec.lt_def] at h; omega)]
  · rw [if_neg h, if_neg (by rw [BitVec.lt_def] at h; omega)]
theorem maxN (a b : B64) : (if (b.toNat : Int) > (a.toNat : Int) then (b.toNat : Int) else (a.toNat : Int)) = ((amoD 8 a b).toNat : Int) := by
  show _ = (((if b > a then b else a) : B64).toNat : Int)
  by_cases h : b > a
  · rw [if_pos h, if_pos (by have h : a < b := h; rw [BitVec.lt_def] at h; omega)]
  · rw [if_neg h, if_neg (by have h : ¬ a < b := h; rw [BitVec.lt_def] at h; omega)]
theorem amo0 (a b : B64) : (b.toNat : Int) = ((amoD 0 a b).toNat : Int) := rfl
theorem amo1 (a b : B64) : IntKind.u64.wrap ((a.toNat : Int) + (b.toNat : Int)) = ((amoD 1 a b).toNat : Int) := add64 a b
theorem amo2 (a b : B64) : bitX .xor .u64 (a.toNat : Int) (b.toNat : Int) = ((amoD 2 a b).toNat : Int) := by rw [xor_u64, ofInt_toNat, ofInt_toNat]; rfl
theorem amo3 (a b : B64) : bitX .and .u64 (a.toNat : Int) (b.toNat : Int) = ((amoD 3 a b).toNat : Int) := by rw [and_u64, ofInt_toNat, ofInt_toNat]; rfl
theorem amo4 (a b : B64) : bitX .or .u64 (a.toNat : Int) (b.toNat : Int) = ((amoD 4 a b).toNat : Int) := by rw [or_u64, ofInt_toNat, ofInt_toNat]; rfl
end Go.Anv
namespace Go.Proofs.YtdlpmbghocabbaaGreatDoor
open Go Go.Anv
set_option maxRecDepth 100000 in
set_option maxHeartbeats 4000000 in
theorem amoD_spec (k : Nat) (hk : k < 9) (old b : B64) (h : List Blk) : Does TB 124 [.s (.int .i64 ((88 + k : Nat) : Int)), .s (.int .u64 old.toNat), .s (.int .u64 b.toNat)] h (fun r h' => r = .tuple [.s (.int .u64 (amoD k old b).toNat), .s (.bool true)] ∧ h' = h) := by
  refine fnX_pure TB Tryz.func124 rfl (by decide) rfl _ rfl (fun O on => ?_) h
  have h9 : k = 0 ∨ k = 1 ∨ k = 2 ∨ k = 3 ∨ k = 4 ∨ k = 5 ∨ k = 6 ∨ k = 7 ∨ k = 8 := by omega
  rcases h9 with rfl | rfl | rfl | rfl | rfl | rfl | rfl | rfl | rfl
  all_goals
    repeat (refine need_intro (by first | exact fun h => h | exact nt | exact an2 | exact an3 | rfl | (simp; done) | fail) ?_)
    exact ⟨⟨rfl, by first | exact amo0 old b | exact amo1 old b | exact amo2 old b | exact amo3 old b | exact amo4 old b | exact minI old b | exact maxI old b | exact minN old b | exact maxN old b⟩, rfl, trivial⟩
set_option maxRecDepth 100000 in
set_option maxHeartbeats 4000000 in
theorem amoW_spec (k : Nat) (hk : k < 9) (old b : B64) (h : List Blk) : Does TB 124 [.s (.int .i64 ((77 + k : Nat) : Int)), .s (.int .u64 old.toNat), .s (.int .u64 b.toNat)] h (fun r h' => r = .tuple [.s (.int .u64 (sx32 (amoD k (sx32 old) (sx32 b))).toNat), .s (.bool true)] ∧ h' = h) := by
  refine fnX_pure TB Tryz.func124 rfl (by decide) rfl _ rfl (fun O on => ?_) h
  have h9 : k = 0 ∨ k = 1 ∨ k = 2 ∨ k = 3 ∨ k = 4 ∨ k = 5 ∨ k = 6 ∨ k = 7 ∨ k = 8 := by omega
  rcases h9 with rfl | rfl | rfl | rfl | rfl | rfl | rfl | rfl | rfl
  all_goals
    repeat (refine need_intro (by first | exact fun h => h | exact nt | exact an2 | exact an3 | rfl | (simp; done) | fail) ?_)
    refine Does.args (b := [.s (.int .u32 ((old.setWidth 32).toNat : Int))]) ⟨⟨rfl, u32_of old⟩, trivial⟩ ?_
    refine (signedA (old.setWidth 32) _).mono ?_
    rintro _ _ ⟨rfl, rfl⟩
    repeat (refine need_intro (by first | exact fun h => h | exact nt | exact an2 | exact an3 | rfl | (simp; done) | fail) ?_)
    refine Does.args (b := [.s (.int .u32 ((b.setWidth 32).toNat : Int))]) ⟨⟨rfl, u32_of b⟩, trivial⟩ ?_
    refine (signedA (b.setWidth 32) _).mono ?_
    rintro _ _ ⟨rfl, rfl⟩
    repeat (refine need_intro (by first | exact fun h => h | exact nt | exact an2 | exact an3 | rfl | (simp; done) | fail) ?_)
    refine Does.args (b := [.s (.int .u32 (((amoD _ (sx32 old) (sx32 b)).setWidth 32).toNat : Int))]) ⟨⟨rfl, Eq.trans (congrArg IntKind.u32.wrap (by first | exact amo0 (sx32 old) (sx32 b) | exact amo1 (sx32 old) (sx32 b) | exact amo2 (sx32 old) (sx32 b) | exact amo3 (sx32 old) (sx32 b) | exact amo4 (sx32 old) (sx32 b) | exact minI (sx32 old) (sx32 b) | exact maxI (sx32 old) (sx32 b) | exact minN (sx32 old) (sx32 b) | exact maxN (sx32 old) (sx32 b))) (u32_of _)⟩, trivial⟩ ?_
    refine (signedA _ _).mono ?_
    rintro _ _ ⟨rfl, rfl⟩
    repeat (refine need_intro (by first | exact fun h => h | exact nt | exact an2 | exact an3 | rfl | (simp; done) | fail) ?_)
    exact eqvE_refl _
theorem amoA (op : Int) (hop : 77 ≤ op ∧ op ≤ 96 ∧ op ≠ 86 ∧ op ≠ 87) (old b : B64) (h : List Blk) : Does TB 124 [.s (.int .i64 op), .s (.int .u64 old.toNat), .s (.int .u64 b.toNat)] h (fun r h' => r = .tuple [.s (.int .u64 (amoV op old b).toNat), .s (.bool true)] ∧ h' = h) := by
  unfold amoV
  by_cases h1 : op ≤ 85
  · have := amoW_spec (op - 77).toNat (by omega) old b h
    rw [show ((77 + (op - 77).toNat : Nat) : Int) = op by omega] at this
    rw [if_pos h1]
    exact this
  · have := amoD_spec (op - 88).toNat (by omega) old b h
    rw [show ((88 + (op - 88).toNat : Nat) : Int) = op by omega] at this
    rw [if_neg h1]
    exact this
end Go.Proofs.YtdlpmbghocabbaaGreatDoor

/- SC and AMOs, over any bus. Contracts of functions. -/
namespace Go.Anv
open Go
/-- What is wrong with SC. -/
def Dev.scTrap (d : Dev) (c : CpuV) (a : B64) (n : Nat) : TrapV := c.proper.chkE c.proper.eff a n 2 (decide (1 ≤ n) && d.s.holds a n) 6#64 7#64
def CpuV.mine (c : CpuV) (a : B64) (n : Nat) : Bool := c.rvalid && (c.raddr == a && c.rsize == (n : Int))
def CpuV.free (c : CpuV) : CpuV := { c with rvalid := false, raddr := 0#64, rsize := 0 }
def scE (s : Bool) (c : CpuV) (t : TrapV) : EV := .tuple [.s (.bool s), .agg c.segs, .agg t.segs]
/-- What is wrong with an AMO. -/
def Dev.amTrap (d : Dev) (c : CpuV) (a : B64) (n : Nat) : TrapV := c.proper.chkE c.proper.eff a n 3 (decide (1 ≤ n) && d.s.holds a n) 6#64 7#64
def amE (v w : B64) (c : CpuV) (t : TrapV) : EV := .tuple [.s (.int .u64 v.toNat), .s (.int .u64 w.toNat), .agg c.segs, .agg t.segs]
/-- What an AMO stores. -/
def amMade (op : Int) (old v : B64) : B64 := if op ≤ 85 then ((amoV op old v).setWidth 32).setWidth 64 else amoV op old v
theorem chkE_ok {s : BusV} {c : CpuV} {e : Int} {a : B64} {n : Nat} {bits : Int} {ca cs x y : B64} (h : c.chkE e a n bits (decide (1 ≤ n) && s.holds a n) ca cs = ⟨false, x, y⟩) : (n = 4 ∨ n = 8) ∧ s.holds a n = true ∧ s.who a n = some .ram := by
  unfold CpuV.chkE at h
  split at h
  · rename_i h1
    split at h
    · rename_i h2
      simp only [Bool.and_eq_true] at h2
      unfold alignE at h1
      simp only [Bool.and_eq_true, Bool.or_eq_true, beq_iff_eq] at h1
      refine ⟨h1.1, h2.2.2, ?_⟩
      have : s.inRam a n = true := by
        unfold BusV.inRam sizeOk
        rw [h1.2, h2.2.2]
        rcases h1.1 with rfl | rfl <;> rfl
      unfold BusV.who
      rw [if_pos this]
    · cases h
  · cases h
end Go.Anv
namespace Go.Proofs.YtdlpmbghocabbaaGreatDoor
open Go Go.Anv
set_option maxRecDepth 100000 in
set_option maxHeartbeats 4000000 in
theorem conditionalD (d : Dev) (c : CpuV) (a : B64) (n : Nat) (v : B64) (hn : n ≤ 9223372036854775807) (hr : d.s.nr ≤ 65536) : Does TB 101 [.agg c.segs, .s (.ptr 0 0), .s (.int .u64 a.toNat), .s (.int .i64 n), .s (.int .u64 v.toNat)] d.h
    (fun r h' => ((d.scTrap c a n).is = true ∧ r = scE false c.proper (d.scTrap c a n) ∧ h' = d.h) ∨ ((d.scTrap c a n).is = false ∧ r = scE (c.proper.mine a n) c.proper.free noTrap ∧ h' = (if c.proper.mine a n = true then d.lay a n v else d).h)) := by
  refine fnX_does TB Tryz.func101 rfl (by decide) (fun O on hO => ?_)
  unfold Dev.scTrap
  repeat (refine need_intro (by first | exact fun h => h | exact nt | exact an2 | exact an3 | rfl | (simp; done) | fail) ?_)
  refine (proper_spec c _).mono ?_
  rintro _ _ ⟨rfl, rfl⟩
  generalize c.proper = c
  repeat (refine need_intro (by first | exact fun h => h | exact nt | exact an2 | exact an3 | rfl | (simp; done) | fail) ?_)
  have hcan := busIsRam d a n hn hr
  have hchk := checkE c a n 2 (decide (1 ≤ n) && d.s.holds a n) 6#64 7#64 hn
  refine draw_to on ?t7 ?_ ?_
  rotate_left 1
  · refine draw_held on rfl (fun _ _ h => h) ?_
    repeat' (first | refine need_intro (by first | exact fun h => h | exact nt | exact an2 | exact an3 | rfl | (simp; done) | fail) ?_ | refine And.intro ?_ ?_ | (refine Does.atc hcan [0, 1, 2, 3] rfl ⟨rfl, rfl, rfl, rfl, trivial⟩ (by decide) ?_) | (refine Does.atc hchk [7] rfl ⟨rfl, trivial⟩ (by decide) ?_) | (refine Does.atc hchk [8] rfl ⟨rfl, trivial⟩ (by decide) ?_))
    · refine toK_id ?_
      rw [hO]; exact Nat.le_of_ble_eq_true rfl
    all_goals first
      | (refine toK_of [0, 1, 2, 3, 4, 5, 6, 7, 8] (by decide) (by rw [hO]; exact ⟨rfl, rfl, rfl, rfl, trivial⟩) ?_ ?_; (repeat' (first | exact eqvT_nil | refine eqvT_same ?_)); exact ⟨⟨_, rfl, eqvB_refl _⟩, ⟨_, rfl, eqvB_refl _⟩, ⟨_, rfl, eqvB_refl _⟩, ⟨_, rfl, eqvB_refl _⟩, ⟨_, rfl, eqvB_refl _⟩, ⟨_, rfl, eqvB_refl _⟩, ⟨_, rfl, eqvB_refl _⟩, ⟨_, rfl, eqvB_refl _⟩, ⟨_, rfl, eqvB_refl _⟩, trivial⟩)
      | (refine toK_of [0, 1, 2, 3, 4, 5, 6, 8, 7] (by decide) (by rw [hO]; exact ⟨rfl, rfl, rfl, rfl, trivial⟩) ?_ ?_; (repeat' (first | exact eqvT_nil | refine eqvT_same ?_)); exact ⟨⟨_, rfl, eqvB_refl _⟩, ⟨_, rfl, eqvB_refl _⟩, ⟨_, rfl, eqvB_refl _⟩, ⟨_, rfl, eqvB_refl _⟩, ⟨_, rfl, eqvB_refl _⟩, ⟨_, rfl, eqvB_refl _⟩, ⟨_, rfl, eqvB_refl _⟩, ⟨_, rfl, eqvB_refl _⟩, ⟨_, rfl, eqvB_refl _⟩, trivial⟩)
      | fail
  generalize htr : c.chkE c.eff a n 2 (decide (1 ≤ n) && d.s.holds a n) 6#64 7#64 = t
  obtain ⟨is, cs, tv⟩ := t
  cases is with
  | true =>
    refine draw_to on ?tt1 ?_ ?_
    rotate_left 1
    · refine draw_but [5, 6] on rfl (fun _ _ h => h) ?_
      repeat' (first | refine need_intro (by first | exact fun h => h | exact nt | exact an2 | exact an3 | rfl | (simp; done) | fail) ?_ | refine And.intro ?_ ?_)
      all_goals (refine toK_id ?_; rw [hO]; exact Nat.le_of_ble_eq_true rfl)
    repeat (refine need_intro (by first | exact fun h => h | exact nt | exact an2 | exact an3 | rfl | (simp; done) | fail) ?_)
    refine ⟨_, d.h, [0, 1, 2, 3], .inl ⟨rfl, rfl, rfl⟩, by decide, ⟨rfl, rfl, rfl, rfl, trivial⟩, eqvE_refl _, ⟨⟨_, rfl, eqvB_refl _⟩, ⟨_, rfl, eqvB_refl _⟩, ⟨_, rfl, eqvB_refl _⟩, ⟨_, rfl, eqvB_refl _⟩, trivial⟩⟩
  | false =>
    obtain ⟨h48, hh, hw⟩ := chkE_ok htr
    have hm : ((c.rvalid == true) && ((c.raddr.toNat : Int) == (a.toNat : Int) && (c.rsize == (n : Int) && true))) = c.mine a n := by
      unfold CpuV.mine
      rw [beq_nat, Bool.and_true]
      cases c.rvalid <;> rfl
    repeat (refine need_intro (by first | exact fun h => h | exact nt | exact an2 | exact an3 | rfl | (simp; done) | fail) ?_)
    refine ifB_intro (fun g => ?_) (fun g => ?_)
    · have g := hm.symm.trans g
      have hs := busStore_plain d a n v hn hr (by rw [hw]; simp)
      rw [show d.stored a n v 0 = d.lay a n v from by unfold Dev.stored; rw [hw]] at hs
      rw [if_pos g]
      generalize d.lay a n v = d' at hs ⊢
      repeat (refine need_intro (by first | exact fun h => h | exact nt | exact an2 | exact an3 | rfl | (simp; done) | fail) ?_)
      refine Does.atn hs [0, 1, 2, 3] rfl ⟨rfl, rfl, rfl, rfl, trivial⟩ (by decide) ?_ ?_
      · rintro v h' ⟨_, rfl⟩
        exact ⟨.inl rfl, .inl rfl, .inl rfl, .inl rfl, trivial⟩
      rintro v h' ⟨rfl, rfl⟩
      repeat (refine need_intro (by first | exact fun h => h | exact nt | exact an2 | exact an3 | rfl | (simp; done) | fail) ?_)
      refine draw_to on ?tt2 ?_ ?_
      rotate_left 1
      · refine draw_but [5, 6] on rfl (fun _ _ h => h) ?_
        repeat' (first | refine need_intro (by first | exact fun h => h | exact nt | exact an2 | exact an3 | rfl | (simp; done) | fail) ?_ | refine And.intro ?_ ?_)
        all_goals (refine toK_id ?_; rw [hO]; exact Nat.le_of_ble_eq_true rfl)
      repeat (refine need_intro (by first | exact fun h => h | exact nt | exact an2 | exact an3 | rfl | (simp; done) | fail) ?_)
      exact ⟨scE (c.mine a n) c.free noTrap, d'.h, [0, 1, 2, 3], .inr ⟨rfl, rfl, rfl⟩, by decide, ⟨rfl, rfl, rfl, rfl, trivial⟩, ⟨hm, eqvE_refl _, eqvE_refl _, trivial⟩, ⟨⟨_, rfl, eqvB_refl _⟩, ⟨_, rfl, eqvB_refl _⟩, ⟨_, rfl, eqvB_refl _⟩, ⟨_, rfl, eqvB_refl _⟩, trivial⟩⟩
    · have g := hm.symm.trans g
      rw [if_neg (by rw [g]; exact Bool.false_ne_true)]
      repeat (refine need_intro (by first | exact fun h => h | exact nt | exact an2 | exact an3 | rfl | (simp; done) | fail) ?_)
      refine draw_to on ?tt3 ?_ ?_
      rotate_left 1
      · refine draw_but [5, 6] on rfl (fun _ _ h => h) ?_
        repeat' (first | refine need_intro (by first | exact fun h => h | exact nt | exact an2 | exact an3 | rfl | (simp; done) | fail) ?_ | refine And.intro ?_ ?_)
        all_goals (refine toK_id ?_; rw [hO]; exact Nat.le_of_ble_eq_true rfl)
      repeat (refine need_intro (by first | exact fun h => h | exact nt | exact an2 | exact an3 | rfl | (simp; done) | fail) ?_)
      exact ⟨scE (c.mine a n) c.free noTrap, d.h, [0, 1, 2, 3], .inr ⟨rfl, rfl, rfl⟩, by decide, ⟨rfl, rfl, rfl, rfl, trivial⟩, ⟨hm, eqvE_refl _, eqvE_refl _, trivial⟩, ⟨⟨_, rfl, eqvB_refl _⟩, ⟨_, rfl, eqvB_refl _⟩, ⟨_, rfl, eqvB_refl _⟩, ⟨_, rfl, eqvB_refl _⟩, trivial⟩⟩
set_option maxRecDepth 100000 in
set_option maxHeartbeats 4000000 in
theorem amoAccess (d : Dev) (c : CpuV) (op : Int) (hop : 77 ≤ op ∧ op ≤ 96 ∧ op ≠ 86 ∧ op ≠ 87) (a : B64) (v : B64) (hr : d.s.nr ≤ 65536) : Does TB 102 [.agg c.segs, .s (.ptr 0 0), .s (.int .i64 op), .s (.int .u64 a.toNat), .s (.int .u64 v.toNat)] d.h
    (fun r h' => ((d.amTrap c a (widthI op)).is = true ∧ r = amE 0#64 0#64 c.proper (d.amTrap c a (widthI op)) ∧ h' = d.h) ∨ ((d.amTrap c a (widthI op)).is = false ∧ r = amE ((d.load a (widthI op)).getD 0#64) (amMade op ((d.load a (widthI op)).getD 0#64) v) (c.proper.freed a (widthI op)) noTrap ∧ h' = (d.lay a (widthI op) (amMade op ((d.load a (widthI op)).getD 0#64) v)).h)) := by
  refine fnX_does TB Tryz.func102 rfl (by decide) (fun O on hO => ?_)
  unfold Dev.amTrap
  have hw8 : widthI op = 4 ∧ op ≤ 85 ∨ widthI op = 8 ∧ ¬ op ≤ 85 := by unfold widthI; split <;> (try split) <;> omega
  repeat (refine need_intro (by first | exact fun h => h | exact nt | exact an2 | exact an3 | rfl | (simp; done) | fail) ?_)
  refine (proper_spec c _).mono ?_
  rintro _ _ ⟨rfl, rfl⟩
  generalize c.proper = c
  repeat (refine need_intro (by first | exact fun h => h | exact nt | exact an2 | exact an3 | rfl | (simp; done) | fail) ?_)
  refine (widthA op _).mono ?_
  rintro _ _ ⟨rfl, rfl⟩
  repeat (refine need_intro (by first | exact fun h => h | exact nt | exact an2 | exact an3 | rfl | (simp; done) | fail) ?_)
  have hn : widthI op ≤ 9223372036854775807 := by omega
  have hne : (((widthI op : Nat) : Int) == 0) = false := beq_false_of_ne (by omega)
  have h4 : (((widthI op : Nat) : Int) == 4) = decide (op ≤ 85) := by
    rcases hw8 with ⟨h, h'⟩ | ⟨h, h'⟩ <;> rw [h]
    · exact (decide_eq_true h').symm
    · exact (decide_eq_false h').symm
  generalize hwn : widthI op = n at *
  refine ifB_intro (fun g => absurd (g.symm.trans hne) (by decide)) (fun _ => ?_)
  repeat (refine need_intro (by first | exact fun h => h | exact nt | exact an2 | exact an3 | rfl | (simp; done) | fail) ?_)
  have hcan := busIsRam d a n hn hr
  have hchk := checkE c a n 3 (decide (1 ≤ n) && d.s.holds a n) 6#64 7#64 hn
  refine draw_to on ?t7 ?_ ?_
  rotate_left 1
  · refine draw_held on rfl (fun _ _ h => h) ?_
    repeat' (first | refine need_intro (by first | exact fun h => h | exact nt | exact an2 | exact an3 | rfl | (simp; done) | fail) ?_ | refine And.intro ?_ ?_ | (refine Does.atc hcan [0, 1, 2, 3] rfl ⟨rfl, rfl, rfl, rfl, trivial⟩ (by decide) ?_) | (refine Does.atc hchk [7] rfl ⟨rfl, trivial⟩ (by decide) ?_) | (refine Does.atc hchk [8] rfl ⟨rfl, trivial⟩ (by decide) ?_))
    · refine toK_id ?_
      rw [hO]; exact Nat.le_of_ble_eq_true rfl
    all_goals first
      | (refine toK_of [0, 1, 2, 3, 4, 5, 6, 7, 8] (by decide) (by rw [hO]; exact ⟨rfl, rfl, rfl, rfl, trivial⟩) ?_ ?_; (repeat' (first | exact eqvT_nil | refine eqvT_same ?_)); exact ⟨⟨_, rfl, eqvB_refl _⟩, ⟨_, rfl, eqvB_refl _⟩, ⟨_, rfl, eqvB_refl _⟩, ⟨_, rfl, eqvB_refl _⟩, ⟨_, rfl, eqvB_refl _⟩, ⟨_, rfl, eqvB_refl _⟩, ⟨_, rfl, eqvB_refl _⟩, ⟨_, rfl, eqvB_refl _⟩, ⟨_, rfl, eqvB_refl _⟩, trivial⟩)
      | (refine toK_of [0, 1, 2, 3, 4, 5, 6, 8, 7] (by decide) (by rw [hO]; exact ⟨rfl, rfl, rfl, rfl, trivial⟩) ?_ ?_; (repeat' (first | exact eqvT_nil | refine eqvT_same ?_)); exact ⟨⟨_, rfl, eqvB_refl _⟩, ⟨_, rfl, eqvB_refl _⟩, ⟨_, rfl, eqvB_refl _⟩, ⟨_, rfl, eqvB_refl _⟩, ⟨_, rfl, eqvB_refl _⟩, ⟨_, rfl, eqvB_refl _⟩, ⟨_, rfl, eqvB_refl _⟩, ⟨_, rfl, eqvB_refl _⟩, ⟨_, rfl, eqvB_refl _⟩, trivial⟩)
      | fail
  generalize htr : c.chkE c.eff a n 3 (decide (1 ≤ n) && d.s.holds a n) 6#64 7#64 = t
  obtain ⟨is, cs, tv⟩ := t
  cases is with
  | true =>
    refine draw_to on ?tt4 ?_ ?_
    rotate_left 1
    · refine draw_but [5, 6] on rfl (fun _ _ h => h) ?_
      repeat' (first | refine need_intro (by first | exact fun h => h | exact nt | exact an2 | exact an3 | rfl | (simp; done) | fail) ?_ | refine And.intro ?_ ?_)
      all_goals (refine toK_id ?_; rw [hO]; exact Nat.le_of_ble_eq_true rfl)
    repeat (refine need_intro (by first | exact fun h => h | exact nt | exact an2 | exact an3 | rfl | (simp; done) | fail) ?_)
    refine ⟨_, d.h, [0, 1, 2, 3], .inl ⟨rfl, rfl, rfl⟩, by decide, ⟨rfl, rfl, rfl, rfl, trivial⟩, eqvE_refl _, ⟨⟨_, rfl, eqvB_refl _⟩, ⟨_, rfl, eqvB_refl _⟩, ⟨_, rfl, eqvB_refl _⟩, ⟨_, rfl, eqvB_refl _⟩, trivial⟩⟩
  | false =>
    obtain ⟨h48, hh, hw⟩ := chkE_ok htr
    have hl := busLoad_plain d a n hn hr (holds_who hh)
    have he : loadE (d.load a n) = .tuple [.s (.int .u64 ((d.load a n).getD 0#64).toNat), .s (.bool (d.load a n).isSome)] := by cases d.load a n <;> rfl
    rw [he] at hl
    generalize (d.load a n).getD 0#64 = old at hl ⊢
    repeat (refine need_intro (by first | exact fun h => h | exact nt | exact an2 | exact an3 | rfl | (simp; done) | fail) ?_)
    refine Does.atc (hl) [0, 1, 2, 3] rfl ⟨rfl, rfl, rfl, rfl, trivial⟩ (by decide) ?_
    repeat (refine need_intro (by first | exact fun h => h | exact nt | exact an2 | exact an3 | rfl | (simp; done) | fail) ?_)
    refine (amoA op hop old v _).mono ?_
    rintro _ _ ⟨rfl, rfl⟩
    repeat (refine need_intro (by first | exact fun h => h | exact nt | exact an2 | exact an3 | rfl | (simp; done) | fail) ?_)
    have hst := busStore_plain d a n (amMade op old v) hn hr (by rw [hw]; simp)
    rw [show d.stored a n (amMade op old v) 0 = d.lay a n (amMade op old v) from by unfold Dev.stored; rw [hw]] at hst
    generalize d.lay a n (amMade op old v) = d' at hst ⊢
    refine ifB_intro (fun g => ?_) (fun g => ?_)
    · have g := of_decide_eq_true (h4.symm.trans g)
      have e : IntKind.u64.wrap (IntKind.u32.wrap ((amoV op old v).toNat : Int)) = ((amMade op old v).toNat : Int) := by
        unfold amMade
        rw [if_pos g, u32_of]
        exact u64_of32 _
      repeat (refine need_intro (by first | exact fun h => h | exact nt | exact an2 | exact an3 | rfl | (simp; done) | fail) ?_)
      refine Does.args (b := [.s (.ptr 0 0), .s (.int .u64 a.toNat), .s (.int .i64 n), .s (.int .u64 ((amMade op old v).toNat : Int))]) ⟨eqvE_refl _, eqvE_refl _, eqvE_refl _, ⟨rfl, e⟩, trivial⟩ ?_
      refine Does.atn hst [0, 1, 2, 3] rfl ⟨rfl, rfl, rfl, rfl, trivial⟩ (by decide) ?_ ?_
      · rintro v h' ⟨_, rfl⟩
        exact ⟨.inl rfl, .inl rfl, .inl rfl, .inl rfl, trivial⟩
      rintro _ h' ⟨rfl, rfl⟩
      repeat (refine need_intro (by first | exact fun h => h | exact nt | exact an2 | exact an3 | rfl | (simp; done) | fail) ?_)
      refine (freedD c a n _).mono ?_
      rintro _ _ ⟨rfl, rfl⟩
      repeat (refine need_intro (by first | exact fun h => h | exact nt | exact an2 | exact an3 | rfl | (simp; done) | fail) ?_)
      exact ⟨amE old (amMade op old v) (c.freed a n) noTrap, d'.h, [0, 1, 2, 3], .inr ⟨rfl, rfl, rfl⟩, by decide, ⟨rfl, rfl, rfl, rfl, trivial⟩, ⟨eqvE_refl _, ⟨rfl, e⟩, eqvE_refl _, eqvE_refl _, trivial⟩, ⟨⟨_, rfl, eqvB_refl _⟩, ⟨_, rfl, eqvB_refl _⟩, ⟨_, rfl, eqvB_refl _⟩, ⟨_, rfl, eqvB_refl _⟩, trivial⟩⟩
    · have g := of_decide_eq_false (h4.symm.trans g)
      have e : ((amoV op old v).toNat : Int) = ((amMade op old v).toNat : Int) := by
        unfold amMade
        rw [if_neg g]
      repeat (refine need_intro (by first | exact fun h => h | exact nt | exact an2 | exact an3 | rfl | (simp; done) | fail) ?_)
      refine Does.args (b := [.s (.ptr 0 0), .s (.int .u64 a.toNat), .s (.int .i64 n), .s (.int .u64 ((amMade op old v).toNat : Int))]) ⟨eqvE_refl _, eqvE_refl _, eqvE_refl _, ⟨rfl, e⟩, trivial⟩ ?_
      refine Does.atn hst [0, 1, 2, 3] rfl ⟨rfl, rfl, rfl, rfl, trivial⟩ (by decide) ?_ ?_
      · rintro v h' ⟨_, rfl⟩
        exact ⟨.inl rfl, .inl rfl, .inl rfl, .inl rfl, trivial⟩
      rintro _ h' ⟨rfl, rfl⟩
      repeat (refine need_intro (by first | exact fun h => h | exact nt | exact an2 | exact an3 | rfl | (simp; done) | fail) ?_)
      refine (freedD c a n _).mono ?_
      rintro _ _ ⟨rfl, rfl⟩
      repeat (refine need_intro (by first | exact fun h => h | exact nt | exact an2 | exact an3 | rfl | (simp; done) | fail) ?_)
      exact ⟨amE old (amMade op old v) (c.freed a n) noTrap, d'.h, [0, 1, 2, 3], .inr ⟨rfl, rfl, rfl⟩, by decide, ⟨rfl, rfl, rfl, rfl, trivial⟩, ⟨eqvE_refl _, ⟨rfl, e⟩, eqvE_refl _, eqvE_refl _, trivial⟩, ⟨⟨_, rfl, eqvB_refl _⟩, ⟨_, rfl, eqvB_refl _⟩, ⟨_, rfl, eqvB_refl _⟩, ⟨_, rfl, eqvB_refl _⟩, trivial⟩⟩
end Go.Proofs.YtdlpmbghocabbaaGreatDoor
