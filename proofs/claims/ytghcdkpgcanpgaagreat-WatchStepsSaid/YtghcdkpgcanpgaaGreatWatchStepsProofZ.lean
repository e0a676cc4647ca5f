/- WatchSteps returns true for every step that is shown: the program's Step of it is the document's; what is handed in stays as it is. No condition. The frame of the proof follows proof-skeleton.mjs; the walk is by the engine of this claim. -/
import Derived.Test.YtghcdkpgcanpgaaGreatRows
import Derived.WalkKit
import Derived.ProofKit
import Derived.OpenShut
import Derived.ShutString
import Derived.ChangeOld
import Derived.Below
import Derived.SizedLaws
import Derived.Test.YtghcdkpgcanpgaaGreatZ9
namespace Go.Proofs.YtghcdkpgcanpgaaGreat.watchSteps
open Go.ChangeShapes Go.WideShapes Go.ChangeAt Go.RowKit
set_option linter.unusedVariables false

theorem own : ownKnob Tryz.prog.godebug = none := by kernel_rfl
theorem laidOut : laidOutB Tryz.prog = true := by kernel_rfl

theorem walk (cs : Array Value) (w : World) (h : Anv.fitF w Anv.sightF cs.toList) :
    Calls Tryz.prog 3 #[.agg cs] w fun e w' => e = .returned (.bool true) ∧ Below w.heap.size w w' := by
  have hf : Anv.isFn TB 3 := ⟨_, Tryz.func3, by kernel_rfl, by kernel_rfl⟩
  obtain ⟨z, p0, p1, p2, p3, p4, p5, p6, hl, k0, k1, k2, k3, k4, k5, k6, ok, hd⟩ := Anv.sight_in h
  let E : Anv.Emb := ⟨7, fun i => match i with | 0 => p0 | 1 => p1 | 2 => p2 | 3 => p3 | 4 => p4 | 5 => p5 | _ => p6⟩
  have S : Anv.Sim E z.lists w := by
    rw [hl]
    exact Anv.sim7 k0 k1 k2 k3 k4 k5 k6
  have law := watchSteps_law z ok (Nat.le_trans k6.le (by decide))
  rw [hl] at law S
  refine (Anv.Does.below law hf S (vs := #[.agg cs]) ?_ ⟨rfl, rfl, rfl, rfl, rfl, rfl, rfl, trivial⟩).mono ?_
  · exact ⟨_, [], rfl, ⟨cs, rfl, hd E rfl rfl rfl rfl rfl rfl rfl (Nat.le_refl _)⟩, rfl⟩
  · rintro e w' ⟨⟨v, x, h', E', rfl, hd, rfl, _⟩, hb⟩
    simp only [Anv.denE, Anv.denV] at hd
    subst hd
    exact ⟨rfl, hb⟩

def zw : List Value := List.replicate 33 (Value.int .u64 0) ++ (([.int .i64 0, .bool false] : List Value) ++ (List.replicate 12 (Value.int .u64 0) ++ (List.replicate 16 (Value.int .u8 0) ++ (List.replicate 16 (Value.int .u64 0) ++ (([.bool false, .int .u64 0, .int .i64 0] : List Value) ++
  ([.slice none 0 0, .int .u32 0, .int .u64 0, .int .u64 0, .bool false, .bool false, .int .u8 0, .int .u8 0, .int .u8 0, .int .u8 0, .bool false, .slice none 0 0, .slice none 0 0, .int .i64 0, .int .i64 0] : List Value))))))
def zt : Array Value := (zw ++ (zw ++ ([.bool false, .bool false, .bool false, .slice none 0 0, .int .i64 0, .int .i64 0, .int .i64 0, .int .u64 0, .int .u32 0, .int .i64 0, .int .u64 0, .int .u64 0, .int .i64 0, .int .u64 0, .int .i64 0, .int .u64 0, .int .i64 0, .int .u64 0, .int .u64 0, .int .i64 0] : List Value))).toArray

set_option maxRecDepth 100000 in
theorem lifted (os : Os) (started : os.Started) (H : Type) (enc : TypeId × Value → H) :
    ReturnsInHanded {} Tryz.checked os 3 .any (Rows.watchStepsSpec.pre6 enc Tryz.prog Tryz.f3 Rows.watchStepsRow.domain false) (Rows.watchStepsSpec.post enc Tryz.prog Tryz.f3 false true false false) := by
  refine returnsInHanded_of_change_sized (C := Tryz.checked) own started (by kernel_rfl) Tryz.func3
    (ChangeSpec.witness6 (enc := enc) (C := Tryz.checked) false ⟨#[], #[.agg zt], []⟩ 8 (by kernel_rfl) (by kernel_rfl) (by kernel_rfl) (by kernel_rfl)) ?_
  intro W base args ds gs before hval0 hW hcnd hbig _
  have hval : ∀ (j : Nat) t v, Tryz.f3.params[j]? = some t → args[j]? = some v → Value.okWide Tryz.prog W .any base t v := hval0
  have hW' := hW
  obtain ⟨p, q, hA0, hV, rfl, hfz, hnd⟩ := hW
  have hA : DataW.TrodAll enc Tryz.prog W 0 (fun _ => true) true Tryz.f3.params.toList args.toList ds p := hA0
  rw [Tryz.params3] at hA hval
  obtain ⟨v0, vs0, d0, ds0, p0, q0, hargs, rfl, rfl, h0, r0⟩ := trodAll_cons hA
  obtain ⟨rfl, rfl, rfl⟩ := trodAll_nil r0
  obtain rfl : args = #[v0] := by cases args; simp_all
  obtain ⟨rfl, rfl⟩ := trodVars_none hV
  obtain ⟨cs, rfl, hpl⟩ := Anv.struct_placed Tryz.underlying43 (hval 0 _ v0 rfl rfl)
  have k0 := h0
  have lt0 : ∀ x ∈ p0, x.block < W.heap.size := by obtain ⟨m, hm⟩ := k0; exact DataW.trod_lt m _ _ _ hm
  have fit : Anv.fitF W Anv.sightF cs.toList := by
    obtain ⟨fuel, hf⟩ := h0
    refine Anv.FTn.opens _ (ft43 0) hf hpl (fun m hm => ?_)
    have := List.all_eq_true.1 hbig m (DataW.weights_mem_each (j := 0) rfl rfl m hm)
    simpa using this
  clear hA0 hval0
  refine (walk cs W fit).mono fun e W' ⟨he, bel⟩ => ?_
  subst he
  exact ⟨_, rfl, _, _, _, [], _, [], hW', trodAll_mk1 (shut_bool Tryz.underlying4 _), (trodAll_cons_mk (Below.trod laidOut (by kernel_rfl) (of_decide_eq_true (by kernel_rfl)) k0 bel lt0) trodAll_mk0), rfl, bel.frame _, fun h => by cases h⟩

theorem over : Rows.watchStepsRow.holds Tryz.pinned (OpenSpec.ofChange Rows.watchStepsSpec) :=
  OpenClaim.holds_of_wide 3 Tryz.f3 rfl rfl rfl rfl rfl rfl rfl ⟨rfl, rfl, rfl, rfl, rfl⟩ rfl rfl rfl rfl rfl (by kernel_rfl) Tryz.func3 (by kernel_rfl)
    (of_decide_eq_true (by kernel_rfl)) (by unfold Func.isWrapper; first | (rw [if_pos (by decide +kernel)]; kernel_rfl) | (rw [if_neg (by decide +kernel)]; exact ⟨rfl, rfl⟩))
    (fun os started H enc _ => lifted os started H enc)

/-- The statement. -/
theorem proved : Rows.WatchStepsSaid := over
#print axioms proved
end Go.Proofs.YtghcdkpgcanpgaaGreat.watchSteps
namespace Go.Proofs.YtghcdkpgcanpgaaGreat
/-- The row, under a short name, for the claim. -/
theorem watchSteps_holds : Rows.WatchStepsSaid := watchSteps.proved
end Go.Proofs.YtghcdkpgcanpgaaGreat
