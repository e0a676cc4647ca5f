/- SaveAgain: what Load takes, Save gives again, byte for byte, or Load takes it not; what is handed in stays as it is. No condition but the table that the row lists; the card ties it to the program's text. The frame of the proof follows proof-skeleton.mjs and the kit's worked example Pinup; the walk is by the engine of this claim. -/
import Derived.Test.YtdlpmbghocabbaaGreatDoorRows
import Derived.Test.YtdlpmbghocabbaaGreatDoorCards
import Derived.Test.YtdlpmbghocabbaaGreatDoorTie
import Derived.WalkKit
import Derived.ProofKit
import Derived.OpenShut
import Derived.ShutString
import Derived.ChangeOld
import Derived.Below
import Derived.SizedLaws
import Derived.LaidMore
import Derived.Lay
import Derived.SevenTiedAt
import Derived.Stop.Joined
import Derived.Test.YtdlpmbghocabbaaGreatDoorZ11
namespace Go.Proofs.YtdlpmbghocabbaaGreatDoor.saveAgain
open Go.ChangeShapes Go.WideShapes Go.ChangeAt Go.RowKit
set_option linter.unusedVariables false

theorem own : ownKnob Tryz.prog.godebug = none := by kernel_rfl
theorem laidOut : laidOutB Tryz.prog = true := by kernel_rfl

theorem walk (v : Value) (w : World) (hl : laidMetH Tryz.prog laidD w) (h : Anv.fitF w [.sl .u8] [v]) :
    Calls Tryz.prog 5 #[v] w fun e w' => e = .returned (.bool true) ∧ Below w.heap.size w w' := by
  have hf : Anv.isFn TB 5 := ⟨_, Tryz.func5, by kernel_rfl, by kernel_rfl⟩
  simp only [Anv.fitF] at h
  obtain ⟨a, n, cap, f, l', he, hs0, rfl⟩ := h
  obtain rfl : v = .slice a n cap := by simpa using he
  obtain ⟨E, S, hd, hn⟩ := bytes_in hs0
  refine (Anv.Does.below (saveAgain_law false n cap 0 (fun j => BitVec.ofInt 8 (f j)) hn) hf S (vs := #[.slice a n cap]) ?_ ⟨rfl, trivial⟩ (tab_ok ⟨rfl, trivial⟩ hl)).mono ?_
  · refine ⟨_, [], rfl, ?_, rfl⟩
    simp only [Anv.denE]
    exact hd
  · rintro e w' ⟨⟨v, x, h', E', rfl, hd, rfl, _⟩, hb⟩
    simp only [Anv.denE, Anv.denV] at hd
    subst hd
    exact ⟨rfl, hb⟩

set_option maxRecDepth 100000 in
theorem lifted (os : Os) (started : os.Started) (H : Type) (enc : TypeId × Value → H) :
    ReturnsInHanded {} Tryz.checked os 5 .any (fun w args => (Rows.saveAgainSpec.pre enc Tryz.prog Tryz.f5 Rows.saveAgainRow.domain false w args ∧ laidMetH Tryz.prog laidD w) ∧ sizedMet enc Tryz.prog Tryz.f5 (OpenSpec.ofChange Rows.saveAgainSpec) false w args)
      (Rows.saveAgainSpec.post enc Tryz.prog Tryz.f5 false true false false) := by
  refine returns_shaped (C := Tryz.checked) (X := fun w _ => laidMetH Tryz.prog laidD w) (fun _ _ _ hh h => h.of_heap hh) own started (by kernel_rfl) Tryz.func5
    (ChangeSpec.witness_shaped (enc := enc) (C := Tryz.checked) (os := os) (X := fun w _ => laidMetH Tryz.prog laidD w) false (World.laidAll Tryz.prog os laidD) #[.slice none 0 0] 8 (World.laidAll_os _ _ _)
      (World.shaped_of_ZipB (by kernel_rfl) (by kernel_rfl)) (by kernel_rfl) (by kernel_rfl) (by kernel_rfl)
      (by rw [MakeChecks.laidMetH_plain _ _ _ (by kernel_rfl)]; exact laidMet_laidAll _ (by kernel_rfl) (by kernel_rfl))) ?_
  intro W base args ds gs before hsh hval0 hW hbig hL
  have hval : ∀ (j : Nat) t v, Tryz.f5.params[j]? = some t → args[j]? = some v → Value.okWide Tryz.prog W .any base t v := hval0
  have hW' := hW
  obtain ⟨p, q, hA0, hV, rfl, hfz, hnd⟩ := hW
  have hA : DataW.TrodAll enc Tryz.prog W 0 (fun _ => true) true Tryz.f5.params.toList args.toList ds p := hA0
  rw [Tryz.params5] at hA hval
  obtain ⟨v0, vs0, d0, ds0, p0, q0, hargs, rfl, rfl, h0, r0⟩ := trodAll_cons hA
  obtain ⟨rfl, rfl, rfl⟩ := trodAll_nil r0
  obtain rfl : args = #[v0] := by cases args; simp_all
  obtain ⟨rfl, rfl⟩ := trodVars_none hV
  obtain ⟨a0, len0, cap0, rfl⟩ := okWide_slice Tryz.underlying32 (hval 0 _ v0 rfl rfl)
  have hpl : Anv.placed W (.slice a0 len0 cap0) := by
    have h := hval 0 32 _ rfl rfl
    refine Anv.placed_of_okWide (P := Tryz.prog) (r := .any) (base := base) (u := 32) ?_
    unfold Value.okWide at h
    rw [Tryz.underlying32] at h
    exact h
  have k0 := h0
  have lt0 : ∀ x ∈ p0, x.block < W.heap.size := by obtain ⟨m, hm⟩ := k0; exact DataW.trod_lt m _ _ _ hm
  have fit : Anv.fitF W [.sl .u8] [.slice a0 len0 cap0] := by
    obtain ⟨fuel, hf⟩ := h0
    refine Anv.FTn.opens _ (show Anv.FTn Tryz.prog 1 32 [.sl .u8] from .inr (.inr (.inr (.inl ⟨_, _, Tryz.underlying32, Tryz.underlying5, by kernel_rfl, of_decide_eq_true (by kernel_rfl), rfl⟩)))) hf (fun v hv => by simp only [List.mem_singleton] at hv; subst hv; exact hpl) (fun m hm => ?_)
    have := List.all_eq_true.1 hbig m (DataW.weights_mem_each (j := 0) rfl rfl m hm)
    simpa using this
  clear hA0 hval0
  refine (walk _ W hL fit).mono fun e W' ⟨he, bel⟩ => ?_
  subst he
  exact ⟨_, rfl, _, _, _, [], _, [], hW', trodAll_mk1 (shut_bool Tryz.underlying4 _), (trodAll_cons_mk (Below.trod laidOut (by kernel_rfl) (of_decide_eq_true (by kernel_rfl)) k0 bel lt0) trodAll_mk0), rfl, bel.frame _, fun h => by cases h⟩

theorem over : Rows.saveAgainRow.holds Tryz.pinned (OpenSpec.ofChange Rows.saveAgainSpec) :=
  OpenClaim.holds_of_wide 5 Tryz.f5 rfl rfl rfl rfl rfl rfl rfl ⟨rfl, rfl, rfl, rfl, rfl⟩ rfl rfl rfl rfl rfl (by kernel_rfl) Tryz.func5 (by kernel_rfl)
    (of_decide_eq_true (by kernel_rfl)) (by unfold Func.isWrapper; first | (rw [if_pos (by decide +kernel)]; kernel_rfl) | (rw [if_neg (by decide +kernel)]; exact ⟨rfl, rfl⟩))
    (fun os started H enc _ => lifted os started H enc)
end Go.Proofs.YtdlpmbghocabbaaGreatDoor.saveAgain
namespace Go.Proofs.YtdlpmbghocabbaaGreatDoor
/-- The row. -/
theorem saveAgain_holds : Rows.SaveAgainSaid := saveAgain.over
set_option maxRecDepth 100000 in
/-- The tied card. -/
theorem saveAgain_card_holds : Rows.SaveAgainCardSaid :=
  Claim7.holds_tied_plain_at .later [] [.data] true (true, "2f5aede458f1a643633ce60e0da4ccdd864c4971de08702014a9adbc9d419f90") true saveAgain_holds (fun _ h => by cases h) (by kernel_rfl) (fun _ h => by cases h) saveAgain_row_tie rfl ⟨rfl, rfl⟩ (by kernel_rfl) rfl
    (fun f fn hf hfn => by
      obtain rfl : f = 5 := Option.some.inj ((show Tryz.prog.funcNamed "anvil/anvillaw16.SaveAgain" = some 5 by kernel_rfl).symm.trans hf) |>.symm
      obtain rfl : fn = Tryz.f5 := (Option.some.inj (Tryz.func5.symm.trans hfn)).symm
      exact ⟨by kernel_rfl, fun j t ht => by
        rw [Tryz.params5] at ht
        have hm : t ∈ [32] := by simpa using Array.mem_of_getElem? ht
        have hall : ([32].all fun u => !Tryz.prog.wantsStandIn u) = true := by kernel_rfl
        exact (show Tryz.prog.wantsStandIn t = false by simpa using List.all_eq_true.1 hall t hm)⟩)
    (by kernel_rfl)
#print axioms saveAgain_card_holds
end Go.Proofs.YtdlpmbghocabbaaGreatDoor
