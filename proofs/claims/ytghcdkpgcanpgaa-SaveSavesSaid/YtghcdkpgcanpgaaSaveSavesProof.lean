/- SaveSaves returns true for every whole: what the program's Save makes of it are the document's bytes, or the same refusal, in memory of their own; what is handed in stays as it is. No condition. The frame of the proof follows proof-skeleton.mjs; the walk is by the engine of this claim. -/
import Derived.Test.YtghcdkpgcanpgaaRows
import Derived.Test.YtghcdkpgcanpgaaS2
import Derived.Test.YtghcdkpgcanpgaaW10
import Derived.Test.YtghcdkpgcanpgaaFT
import Derived.WalkKit
import Derived.ProofKit
import Derived.OpenShut
import Derived.ShutString
import Derived.ChangeOld
import Derived.Below
import Derived.SizedLaws
namespace Go.Proofs.Ytghcdkpgcanpgaa.saveSaves
open Go.ChangeShapes Go.WideShapes Go.ChangeAt Go.RowKit
set_option linter.unusedVariables false

theorem own : ownKnob Try.prog.godebug = none := by kernel_rfl
theorem laidOut : laidOutB Try.prog = true := by kernel_rfl

theorem walk (cs : Array Value) (w : World) (h : Anv.fitF w (Anv.cpuF ++ Anv.busF) cs.toList) :
    Calls Try.prog 6 #[.agg cs] w fun e w' => e = .returned (.bool true) ∧ Below w.heap.size w w' := by
  have hf : Anv.isFn TB 6 := ⟨_, Try.func6, by kernel_rfl, by kernel_rfl⟩
  obtain ⟨c, x, y, hl, hc, hb, _, _⟩ := Anv.cpu_in h
  rw [← List.append_nil Anv.busF] at hb
  obtain ⟨s, x', y', p0, p1, p2, c0, c1, c2, q0, q1, q2, rfl, k0, k1, k2, hd, hy⟩ := Anv.bus_in hb
  simp only [Anv.fitF] at hy
  subst hy
  rw [List.append_nil] at hl
  let E : Anv.Emb := ⟨3, fun i => match i with | 0 => p0 | 1 => p1 | _ => p2⟩
  let l : Anv.Lists := ⟨false, 0, Anv.trim s.nr q0, false, 0, Anv.trim s.ni q1, false, 0, Anv.trim s.no q2⟩
  have S : Anv.Sim E (l.blks s) w := Anv.sim3 k0.trim k1.trim k2.trim
  refine (Anv.Does.below (saveSaves_law c s l c0 c1 c2 k0.le k1.le k2.le k0.cp (Anv.ends_trim _ _) (Anv.ends_trim _ _) ⟨rfl, rfl, rfl⟩) hf S (vs := #[.agg cs]) ?_ ⟨rfl, rfl, rfl, trivial⟩).mono ?_
  · refine ⟨_, [], rfl, ⟨cs, rfl, ?_⟩, rfl⟩
    rw [hl]
    exact Anv.denS_append (hc E) (hd E 0 1 2 rfl (show (0 : Nat) < 3 by decide) rfl (show (1 : Nat) < 3 by decide) rfl (show (2 : Nat) < 3 by decide))
  · rintro e w' ⟨⟨v, x, h', E', rfl, hd, rfl, _⟩, hb⟩
    simp only [Anv.denE, Anv.denV] at hd
    subst hd
    exact ⟨rfl, hb⟩

set_option maxRecDepth 100000 in
theorem lifted (os : Os) (started : os.Started) (H : Type) (enc : TypeId × Value → H) :
    ReturnsInHanded {} Try.checked os 6 .any (Rows.saveSavesSpec.pre6 enc Try.prog Try.f6 Rows.saveSavesRow.domain false) (Rows.saveSavesSpec.post enc Try.prog Try.f6 false true false false) := by
  refine returnsInHanded_of_change_sized (C := Try.checked) own started (by kernel_rfl) Try.func6
    (ChangeSpec.witness6 (enc := enc) (C := Try.checked) false ⟨#[], #[.agg Anv.wz], []⟩ 8 (by kernel_rfl) (by kernel_rfl) (by kernel_rfl) (by kernel_rfl)) ?_
  intro W base args ds gs before hval0 hW hcnd hbig _
  have hval : ∀ (j : Nat) t v, Try.f6.params[j]? = some t → args[j]? = some v → Value.okWide Try.prog W .any base t v := hval0
  have hW' := hW
  obtain ⟨p, q, hA0, hV, rfl, hfz, hnd⟩ := hW
  have hA : DataW.TrodAll enc Try.prog W 0 (fun _ => true) true Try.f6.params.toList args.toList ds p := hA0
  rw [Try.params6] at hA hval
  obtain ⟨v0, vs0, d0, ds0, p0, q0, hargs, rfl, rfl, h0, r0⟩ := trodAll_cons hA
  obtain ⟨rfl, rfl, rfl⟩ := trodAll_nil r0
  obtain rfl : args = #[v0] := by cases args; simp_all
  obtain ⟨rfl, rfl⟩ := trodVars_none hV
  obtain ⟨cs, rfl, hpl⟩ := Anv.struct_placed Try.underlying44 (hval 0 _ v0 rfl rfl)
  have k0 := h0
  have lt0 : ∀ x ∈ p0, x.block < W.heap.size := by obtain ⟨m, hm⟩ := k0; exact DataW.trod_lt m _ _ _ hm
  have fit : Anv.fitF W (Anv.cpuF ++ Anv.busF) cs.toList := by
    obtain ⟨fuel, hf⟩ := h0
    refine Anv.FTn.opens _ (ft44 0) hf hpl (fun m hm => ?_)
    have := List.all_eq_true.1 hbig m (DataW.weights_mem_each (j := 0) rfl rfl m hm)
    simpa using this
  clear hA0 hval0
  refine (walk cs W fit).mono fun e W' ⟨he, bel⟩ => ?_
  subst he
  exact ⟨_, rfl, _, _, _, [], _, [], hW', trodAll_mk1 (shut_bool Try.underlying4 _), (trodAll_cons_mk (Below.trod laidOut (by kernel_rfl) (of_decide_eq_true (by kernel_rfl)) k0 bel lt0) trodAll_mk0), rfl, bel.frame _, fun h => by cases h⟩

theorem over : Rows.saveSavesRow.holds Try.pinned (OpenSpec.ofChange Rows.saveSavesSpec) :=
  OpenClaim.holds_of_wide 6 Try.f6 rfl rfl rfl rfl rfl rfl rfl ⟨rfl, rfl, rfl, rfl, rfl⟩ rfl rfl rfl rfl rfl (by kernel_rfl) Try.func6 (by kernel_rfl)
    (of_decide_eq_true (by kernel_rfl)) (by unfold Func.isWrapper; first | (rw [if_pos (by decide +kernel)]; kernel_rfl) | (rw [if_neg (by decide +kernel)]; exact ⟨rfl, rfl⟩))
    (fun os started H enc _ => lifted os started H enc)

/-- The statement. -/
theorem proved : Rows.SaveSavesSaid := over
#print axioms proved
end Go.Proofs.Ytghcdkpgcanpgaa.saveSaves
namespace Go.Proofs.Ytghcdkpgcanpgaa
/-- The row, under a short name, for the claim. -/
theorem saveSaves_holds : Rows.SaveSavesSaid := saveSaves.proved
end Go.Proofs.Ytghcdkpgcanpgaa
