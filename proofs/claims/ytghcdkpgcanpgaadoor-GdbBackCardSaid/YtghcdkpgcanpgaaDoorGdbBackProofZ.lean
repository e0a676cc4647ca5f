/- GdbBack: Unpack of Pack of every slice of bytes is that slice, or Pack refuses what is too long; what is handed in stays as it is. No condition but the tables that the row lists; the card ties them to the program's text. The frame of the proof follows proof-skeleton.mjs and the kit's worked example Pinup; the walk is by the engine of this claim. -/
import Derived.Test.YtghcdkpgcanpgaaDoorRows
import Derived.Test.YtghcdkpgcanpgaaDoorCards
import Derived.Test.YtghcdkpgcanpgaaDoorTie
import Derived.WalkKit
import Derived.ProofKit
import Derived.OpenShut
import Derived.ShutString
import Derived.ChangeOld
import Derived.Below
import Derived.SizedLaws
import Derived.LaidMore
import Derived.Lay
import Derived.SevenTiedAt
import Derived.Stop.Joined
import Derived.Test.YtghcdkpgcanpgaaDoorZ7
namespace Go.Proofs.YtghcdkpgcanpgaaDoor.gdbBack
open Go.ChangeShapes Go.WideShapes Go.ChangeAt Go.RowKit
set_option linter.unusedVariables false

theorem own : ownKnob Tryd.prog.godebug = none := by kernel_rfl
theorem laidOut : laidOutB Tryd.prog = true := by kernel_rfl

theorem walk (v : Value) (w : World) (hl : laidMetH Tryd.prog laidD w) (hs : w.ShapedOpen Tryd.prog) (h : Anv.fitF w [.sl .u8] [v]) :
    Calls Tryd.prog 3 #[v] w fun e w' => e = .returned (.bool true) ∧ Below w.heap.size w w' := by
  have hf : Anv.isFn TB 3 := ⟨_, Tryd.func3, by kernel_rfl, by kernel_rfl⟩
  simp only [Anv.fitF] at h
  obtain ⟨a, n, cap, f, l', he, hs0, rfl⟩ := h
  obtain rfl : v = .slice a n cap := by simpa using he
  obtain ⟨E, S, hd, hn⟩ := bytes_in hs0
  refine (Anv.Does.below (gdbBack_law false n cap 0 (fun j => BitVec.ofInt 8 (f j)) hn) hf S (vs := #[.slice a n cap]) ?_ ⟨rfl, trivial⟩ (tab_ok ⟨rfl, trivial⟩ hl hs)).mono ?_
  · refine ⟨_, [], rfl, ?_, rfl⟩
    simp only [Anv.denE]
    exact hd
  · rintro e w' ⟨⟨v, x, h', E', rfl, hd, rfl, _⟩, hb⟩
    simp only [Anv.denE, Anv.denV] at hd
    subst hd
    exact ⟨rfl, hb⟩

set_option maxRecDepth 100000 in
theorem lifted (os : Os) (started : os.Started) (H : Type) (enc : TypeId × Value → H) :
    ReturnsInHanded {} Tryd.checked os 3 .any (fun w args => (Rows.gdbBackSpec.pre enc Tryd.prog Tryd.f3 Rows.gdbBackRow.domain false w args ∧ laidMetH Tryd.prog laidD w) ∧ sizedMet enc Tryd.prog Tryd.f3 (OpenSpec.ofChange Rows.gdbBackSpec) false w args)
      (Rows.gdbBackSpec.post enc Tryd.prog Tryd.f3 false true false false) := by
  refine returns_shaped (C := Tryd.checked) (X := fun w _ => laidMetH Tryd.prog laidD w) (fun _ _ _ hh h => h.of_heap hh) own started (by kernel_rfl) Tryd.func3
    (ChangeSpec.witness_shaped (enc := enc) (C := Tryd.checked) (os := os) (X := fun w _ => laidMetH Tryd.prog laidD w) false (World.laidAll Tryd.prog os laidD) #[.slice none 0 0] 8 (World.laidAll_os _ _ _)
      (World.shaped_of_ZipB (by kernel_rfl) (by kernel_rfl)) (by kernel_rfl) (by kernel_rfl) (by kernel_rfl)
      (by rw [MakeChecks.laidMetH_plain _ _ _ (by kernel_rfl)]; exact laidMet_laidAll _ (by kernel_rfl) (by kernel_rfl))) ?_
  intro W base args ds gs before hsh hval0 hW hbig hL
  have hval : ∀ (j : Nat) t v, Tryd.f3.params[j]? = some t → args[j]? = some v → Value.okWide Tryd.prog W .any base t v := hval0
  have hW' := hW
  obtain ⟨p, q, hA0, hV, rfl, hfz, hnd⟩ := hW
  have hA : DataW.TrodAll enc Tryd.prog W 0 (fun _ => true) true Tryd.f3.params.toList args.toList ds p := hA0
  rw [Tryd.params3] at hA hval
  obtain ⟨v0, vs0, d0, ds0, p0, q0, hargs, rfl, rfl, h0, r0⟩ := trodAll_cons hA
  obtain ⟨rfl, rfl, rfl⟩ := trodAll_nil r0
  obtain rfl : args = #[v0] := by cases args; simp_all
  obtain ⟨rfl, rfl⟩ := trodVars_none hV
  obtain ⟨a0, len0, cap0, rfl⟩ := okWide_slice Tryd.underlying22 (hval 0 _ v0 rfl rfl)
  have hpl : Anv.placed W (.slice a0 len0 cap0) := by
    have h := hval 0 22 _ rfl rfl
    refine Anv.placed_of_okWide (P := Tryd.prog) (r := .any) (base := base) (u := 22) ?_
    unfold Value.okWide at h
    rw [Tryd.underlying22] at h
    exact h
  have k0 := h0
  have lt0 : ∀ x ∈ p0, x.block < W.heap.size := by obtain ⟨m, hm⟩ := k0; exact DataW.trod_lt m _ _ _ hm
  have fit : Anv.fitF W [.sl .u8] [.slice a0 len0 cap0] := by
    obtain ⟨fuel, hf⟩ := h0
    refine Anv.FTn.opens _ (show Anv.FTn Tryd.prog 1 22 [.sl .u8] from .inr (.inr (.inr (.inl ⟨_, _, Tryd.underlying22, Tryd.underlying5, by kernel_rfl, of_decide_eq_true (by kernel_rfl), rfl⟩)))) hf (fun v hv => by simp only [List.mem_singleton] at hv; subst hv; exact hpl) (fun m hm => ?_)
    have := List.all_eq_true.1 hbig m (DataW.weights_mem_each (j := 0) rfl rfl m hm)
    simpa using this
  clear hA0 hval0
  refine (walk _ W hL hsh fit).mono fun e W' ⟨he, bel⟩ => ?_
  subst he
  exact ⟨_, rfl, _, _, _, [], _, [], hW', trodAll_mk1 (shut_bool Tryd.underlying4 _), (trodAll_cons_mk (Below.trod laidOut (by kernel_rfl) (of_decide_eq_true (by kernel_rfl)) k0 bel lt0) trodAll_mk0), rfl, bel.frame _, fun h => by cases h⟩

theorem over : Rows.gdbBackRow.holds Tryd.pinned (OpenSpec.ofChange Rows.gdbBackSpec) :=
  OpenClaim.holds_of_wide 3 Tryd.f3 rfl rfl rfl rfl rfl rfl rfl ⟨rfl, rfl, rfl, rfl, rfl⟩ rfl rfl rfl rfl rfl (by kernel_rfl) Tryd.func3 (by kernel_rfl)
    (of_decide_eq_true (by kernel_rfl)) (by unfold Func.isWrapper; first | (rw [if_pos (by decide +kernel)]; kernel_rfl) | (rw [if_neg (by decide +kernel)]; exact ⟨rfl, rfl⟩))
    (fun os started H enc _ => lifted os started H enc)
end Go.Proofs.YtghcdkpgcanpgaaDoor.gdbBack
namespace Go.Proofs.YtghcdkpgcanpgaaDoor
/-- The row. -/
theorem gdbBack_holds : Rows.GdbBackSaid := gdbBack.over
set_option maxRecDepth 100000 in
/-- The tied card. -/
theorem gdbBack_card_holds : Rows.GdbBackCardSaid :=
  Claim7.holds_tied_plain_at .later [] [.data, .pinned] true (true, "8ed22910a91a391dc6b1df76f5c93ebbb710197acb74ae6ba211312b8cd80921") false gdbBack_holds (fun _ h => by cases h) (by kernel_rfl) (fun _ h => by cases h) gdbBack_row_tie rfl ⟨rfl, rfl⟩ (by kernel_rfl) rfl
    (fun f fn hf hfn => by
      obtain rfl : f = 3 := Option.some.inj ((show Tryd.prog.funcNamed "anvil/anvillaw17.GdbBack" = some 3 by kernel_rfl).symm.trans hf) |>.symm
      obtain rfl : fn = Tryd.f3 := (Option.some.inj (Tryd.func3.symm.trans hfn)).symm
      exact ⟨by kernel_rfl, fun j t ht => by
        rw [Tryd.params3] at ht
        have hm : t ∈ [22] := by simpa using Array.mem_of_getElem? ht
        have hall : ([22].all fun u => !Tryd.prog.wantsStandIn u) = true := by kernel_rfl
        exact (show Tryd.prog.wantsStandIn t = false by simpa using List.all_eq_true.1 hall t hm)⟩)
    (by kernel_rfl)
#print axioms gdbBack_card_holds
end Go.Proofs.YtghcdkpgcanpgaaDoor
