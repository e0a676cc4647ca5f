/- GdbSum: one byte of a packet changed is refused; what is handed in stays as it is. No condition but the tables that the row lists; the card ties them to the program's text. The frame of the proof follows proof-skeleton.mjs and the kit's worked example Pinup; the walk is by the engine of this claim. -/
import Derived.Test.YtghcdkpgcanpgaaDoorRows
import Derived.Test.YtghcdkpgcanpgaaDoorCards
import Derived.Test.YtghcdkpgcanpgaaDoorTie
import Derived.WalkKit
import Derived.ProofKit
import Derived.OpenShut
import Derived.ShutString
import Derived.ChangeOld
import Derived.Below
import Derived.SizedLaws
import Derived.LaidMore
import Derived.Lay
import Derived.SevenTiedAt
import Derived.Stop.Joined
import Derived.Test.YtghcdkpgcanpgaaDoorZ7
namespace Go.Proofs.YtghcdkpgcanpgaaDoor.gdbSum
open Go.ChangeShapes Go.WideShapes Go.ChangeAt Go.RowKit
set_option linter.unusedVariables false

theorem own : ownKnob Tryd.prog.godebug = none := by kernel_rfl
theorem laidOut : laidOutB Tryd.prog = true := by kernel_rfl

theorem walk (v : Value) (w : World) (hl : laidMetH Tryd.prog laidD w) (hs : w.ShapedOpen Tryd.prog) (h : ∃ cs, v = .agg cs ∧ Anv.fitF w [.sl .u8, .int .i64, .int .u8] cs.toList) :
    Calls Tryd.prog 4 #[v] w fun e w' => e = .returned (.bool true) ∧ Below w.heap.size w w' := by
  have hf : Anv.isFn TB 4 := ⟨_, Tryd.func4, by kernel_rfl, by kernel_rfl⟩
  obtain ⟨cs, rfl, h⟩ := h
  simp only [Anv.fitF] at h
  obtain ⟨a, n, cap, f, l', he, hs0, K, l2, rfl, hK, C, l3, rfl, hC, rfl⟩ := h
  obtain ⟨E, S, hd, hn⟩ := bytes_in hs0
  have hC' : C = (((BitVec.ofInt 8 C).toNat : Nat) : Int) := by
    have h0 : 0 ≤ C ∧ C ≤ 255 := by
      simp only [Lit.wf, Bool.and_eq_true, decide_eq_true_eq] at hC
      exact hC
    rw [BitVec.toNat_ofInt]
    omega
  refine (Anv.Does.below (gdbSum_law false n cap 0 (fun j => BitVec.ofInt 8 (f j)) K (BitVec.ofInt 8 C) hn) hf S (vs := #[.agg cs]) ?_ ⟨rfl, trivial⟩ (tab_ok ⟨rfl, trivial⟩ hl hs)).mono ?_
  · refine ⟨_, [], rfl, ⟨cs, rfl, ?_⟩, rfl⟩
    rw [he]
    refine ⟨_, _, rfl, hd, _, _, rfl, rfl, _, _, rfl, ?_, rfl⟩
    rw [← hC']
    rfl
  · rintro e w' ⟨⟨v, x, h', E', rfl, hd, rfl, _⟩, hb⟩
    simp only [Anv.denE, Anv.denV] at hd
    subst hd
    exact ⟨rfl, hb⟩

set_option maxRecDepth 100000 in
theorem lifted (os : Os) (started : os.Started) (H : Type) (enc : TypeId × Value → H) :
    ReturnsInHanded {} Tryd.checked os 4 .any (fun w args => (Rows.gdbSumSpec.pre enc Tryd.prog Tryd.f4 Rows.gdbSumRow.domain false w args ∧ laidMetH Tryd.prog laidD w) ∧ sizedMet enc Tryd.prog Tryd.f4 (OpenSpec.ofChange Rows.gdbSumSpec) false w args)
      (Rows.gdbSumSpec.post enc Tryd.prog Tryd.f4 false true false false) := by
  refine returns_shaped (C := Tryd.checked) (X := fun w _ => laidMetH Tryd.prog laidD w) (fun _ _ _ hh h => h.of_heap hh) own started (by kernel_rfl) Tryd.func4
    (ChangeSpec.witness_shaped (enc := enc) (C := Tryd.checked) (os := os) (X := fun w _ => laidMetH Tryd.prog laidD w) false (World.laidAll Tryd.prog os laidD) #[.agg #[.slice none 0 0, .int .i64 0, .int .u8 0]] 8 (World.laidAll_os _ _ _)
      (World.shaped_of_ZipB (by kernel_rfl) (by kernel_rfl)) (by kernel_rfl) (by kernel_rfl) (by kernel_rfl)
      (by rw [MakeChecks.laidMetH_plain _ _ _ (by kernel_rfl)]; exact laidMet_laidAll _ (by kernel_rfl) (by kernel_rfl))) ?_
  intro W base args ds gs before hsh hval0 hW hbig hL
  have hval : ∀ (j : Nat) t v, Tryd.f4.params[j]? = some t → args[j]? = some v → Value.okWide Tryd.prog W .any base t v := hval0
  have hW' := hW
  obtain ⟨p, q, hA0, hV, rfl, hfz, hnd⟩ := hW
  have hA : DataW.TrodAll enc Tryd.prog W 0 (fun _ => true) true Tryd.f4.params.toList args.toList ds p := hA0
  rw [Tryd.params4] at hA hval
  obtain ⟨v0, vs0, d0, ds0, p0, q0, hargs, rfl, rfl, h0, r0⟩ := trodAll_cons hA
  obtain ⟨rfl, rfl, rfl⟩ := trodAll_nil r0
  obtain rfl : args = #[v0] := by cases args; simp_all
  obtain ⟨rfl, rfl⟩ := trodVars_none hV
  obtain ⟨cs, rfl, hpl⟩ := Anv.struct_placed Tryd.underlying28 (hval 0 _ v0 rfl rfl)
  have k0 := h0
  have lt0 : ∀ x ∈ p0, x.block < W.heap.size := by obtain ⟨m, hm⟩ := k0; exact DataW.trod_lt m _ _ _ hm
  have fit : Anv.fitF W [.sl .u8, .int .i64, .int .u8] cs.toList := by
    obtain ⟨fuel, hf⟩ := h0
    refine Anv.FTn.opens _ (ft28 0) hf hpl (fun m hm => ?_)
    have := List.all_eq_true.1 hbig m (DataW.weights_mem_each (j := 0) rfl rfl m hm)
    simpa using this
  clear hA0 hval0
  refine (walk _ W hL hsh ⟨_, rfl, fit⟩).mono fun e W' ⟨he, bel⟩ => ?_
  subst he
  exact ⟨_, rfl, _, _, _, [], _, [], hW', trodAll_mk1 (shut_bool Tryd.underlying4 _), (trodAll_cons_mk (Below.trod laidOut (by kernel_rfl) (of_decide_eq_true (by kernel_rfl)) k0 bel lt0) trodAll_mk0), rfl, bel.frame _, fun h => by cases h⟩

theorem over : Rows.gdbSumRow.holds Tryd.pinned (OpenSpec.ofChange Rows.gdbSumSpec) :=
  OpenClaim.holds_of_wide 4 Tryd.f4 rfl rfl rfl rfl rfl rfl rfl ⟨rfl, rfl, rfl, rfl, rfl⟩ rfl rfl rfl rfl rfl (by kernel_rfl) Tryd.func4 (by kernel_rfl)
    (of_decide_eq_true (by kernel_rfl)) (by unfold Func.isWrapper; first | (rw [if_pos (by decide +kernel)]; kernel_rfl) | (rw [if_neg (by decide +kernel)]; exact ⟨rfl, rfl⟩))
    (fun os started H enc _ => lifted os started H enc)
end Go.Proofs.YtghcdkpgcanpgaaDoor.gdbSum
namespace Go.Proofs.YtghcdkpgcanpgaaDoor
/-- The row. -/
theorem gdbSum_holds : Rows.GdbSumSaid := gdbSum.over
set_option maxRecDepth 100000 in
/-- The tied card. -/
theorem gdbSum_card_holds : Rows.GdbSumCardSaid :=
  Claim7.holds_tied_plain_at .later [] [.data, .pinned] true (true, "8ed22910a91a391dc6b1df76f5c93ebbb710197acb74ae6ba211312b8cd80921") false gdbSum_holds (fun _ h => by cases h) (by kernel_rfl) (fun _ h => by cases h) gdbSum_row_tie rfl ⟨rfl, rfl⟩ (by kernel_rfl) rfl
    (fun f fn hf hfn => by
      obtain rfl : f = 4 := Option.some.inj ((show Tryd.prog.funcNamed "anvil/anvillaw17.GdbSum" = some 4 by kernel_rfl).symm.trans hf) |>.symm
      obtain rfl : fn = Tryd.f4 := (Option.some.inj (Tryd.func4.symm.trans hfn)).symm
      exact ⟨by kernel_rfl, fun j t ht => by
        rw [Tryd.params4] at ht
        have hm : t ∈ [28] := by simpa using Array.mem_of_getElem? ht
        have hall : ([28].all fun u => !Tryd.prog.wantsStandIn u) = true := by kernel_rfl
        exact (show Tryd.prog.wantsStandIn t = false by simpa using List.all_eq_true.1 hall t hm)⟩)
    (by kernel_rfl)
#print axioms gdbSum_card_holds
end Go.Proofs.YtghcdkpgcanpgaaDoor
