/- WatchTraces returns true for every trace: the program's Trace of it is the document's, rule and place; what is handed in stays as it is. No condition. The frame of the proof follows proof-skeleton.mjs; the walk is by the engine of this claim. -/
import Derived.Test.YtghcdkpgcanpgaaRows
import Derived.WalkKit
import Derived.ProofKit
import Derived.OpenShut
import Derived.ShutString
import Derived.ChangeOld
import Derived.Below
import Derived.SizedLaws
import Derived.Test.YtghcdkpgcanpgaaZ9
namespace Go.Proofs.Ytghcdkpgcanpgaa.watchTraces
open Go.ChangeShapes Go.WideShapes Go.ChangeAt Go.RowKit
set_option linter.unusedVariables false

theorem own : ownKnob Try.prog.godebug = none := by kernel_rfl
theorem laidOut : laidOutB Try.prog = true := by kernel_rfl

theorem walk (cs : Array Value) (w : World) (h : Anv.fitF w Anv.traceF cs.toList) :
    Calls Try.prog 9 #[.agg cs] w fun e w' => e = .returned (.bool true) ∧ Below w.heap.size w w' := by
  have hf : Anv.isFn TB 9 := ⟨_, Try.func9, by kernel_rfl, by kernel_rfl⟩
  obtain ⟨t, p0, p1, c0, c1, k0, k1, ok, hd⟩ := Anv.trace_in h
  let E : Anv.Emb := ⟨2, fun i => match i with | 0 => p0 | _ => p1⟩
  have S : Anv.Sim E [Anv.rowsB false t.n t.f 0, Anv.bblk false t.no t.out 0] w := Anv.simT k0 k1
  refine (Anv.Does.below (watchTraces_law t c0 c1 0 0 false false k0.le (Nat.le_trans k1.le (by decide)) ok) hf S (vs := #[.agg cs]) ?_ ⟨rfl, rfl, trivial⟩).mono ?_
  · exact ⟨_, [], rfl, ⟨cs, rfl, hd E rfl (show (0 : Nat) < 2 by decide) rfl (show (1 : Nat) < 2 by decide)⟩, rfl⟩
  · rintro e w' ⟨⟨v, x, h', E', rfl, hd, rfl, _⟩, hb⟩
    simp only [Anv.denE, Anv.denV] at hd
    subst hd
    exact ⟨rfl, hb⟩

def zt : Array Value := (Value.slice none 0 0 :: (List.replicate 33 (Value.int .u64 0) ++ (([.int .i64 0, .bool false] : List Value) ++ (List.replicate 12 (Value.int .u64 0) ++ (List.replicate 16 (Value.int .u8 0) ++ (List.replicate 16 (Value.int .u64 0) ++ (([.bool false, .int .u64 0, .int .i64 0, .int .i64 0, .int .i64 0, .slice none 0 0] : List Value)))))))).toArray

set_option maxRecDepth 100000 in
theorem lifted (os : Os) (started : os.Started) (H : Type) (enc : TypeId × Value → H) :
    ReturnsInHanded {} Try.checked os 9 .any (Rows.watchTracesSpec.pre6 enc Try.prog Try.f9 Rows.watchTracesRow.domain false) (Rows.watchTracesSpec.post enc Try.prog Try.f9 false true false false) := by
  refine returnsInHanded_of_change_sized (C := Try.checked) own started (by kernel_rfl) Try.func9
    (ChangeSpec.witness6 (enc := enc) (C := Try.checked) false ⟨#[], #[.agg zt], []⟩ 8 (by kernel_rfl) (by kernel_rfl) (by kernel_rfl) (by kernel_rfl)) ?_
  intro W base args ds gs before hval0 hW hcnd hbig _
  have hval : ∀ (j : Nat) t v, Try.f9.params[j]? = some t → args[j]? = some v → Value.okWide Try.prog W .any base t v := hval0
  have hW' := hW
  obtain ⟨p, q, hA0, hV, rfl, hfz, hnd⟩ := hW
  have hA : DataW.TrodAll enc Try.prog W 0 (fun _ => true) true Try.f9.params.toList args.toList ds p := hA0
  rw [Try.params9] at hA hval
  obtain ⟨v0, vs0, d0, ds0, p0, q0, hargs, rfl, rfl, h0, r0⟩ := trodAll_cons hA
  obtain ⟨rfl, rfl, rfl⟩ := trodAll_nil r0
  obtain rfl : args = #[v0] := by cases args; simp_all
  obtain ⟨rfl, rfl⟩ := trodVars_none hV
  obtain ⟨cs, rfl, hpl⟩ := Anv.struct_placed Try.underlying61 (hval 0 _ v0 rfl rfl)
  have k0 := h0
  have lt0 : ∀ x ∈ p0, x.block < W.heap.size := by obtain ⟨m, hm⟩ := k0; exact DataW.trod_lt m _ _ _ hm
  have fit : Anv.fitF W Anv.traceF cs.toList := by
    obtain ⟨fuel, hf⟩ := h0
    refine Anv.FTn.opens _ (ft61 0) hf hpl (fun m hm => ?_)
    have := List.all_eq_true.1 hbig m (DataW.weights_mem_each (j := 0) rfl rfl m hm)
    simpa using this
  clear hA0 hval0
  refine (walk cs W fit).mono fun e W' ⟨he, bel⟩ => ?_
  subst he
  exact ⟨_, rfl, _, _, _, [], _, [], hW', trodAll_mk1 (shut_bool Try.underlying4 _), (trodAll_cons_mk (Below.trod laidOut (by kernel_rfl) (of_decide_eq_true (by kernel_rfl)) k0 bel lt0) trodAll_mk0), rfl, bel.frame _, fun h => by cases h⟩

theorem over : Rows.watchTracesRow.holds Try.pinned (OpenSpec.ofChange Rows.watchTracesSpec) :=
  OpenClaim.holds_of_wide 9 Try.f9 rfl rfl rfl rfl rfl rfl rfl ⟨rfl, rfl, rfl, rfl, rfl⟩ rfl rfl rfl rfl rfl (by kernel_rfl) Try.func9 (by kernel_rfl)
    (of_decide_eq_true (by kernel_rfl)) (by unfold Func.isWrapper; first | (rw [if_pos (by decide +kernel)]; kernel_rfl) | (rw [if_neg (by decide +kernel)]; exact ⟨rfl, rfl⟩))
    (fun os started H enc _ => lifted os started H enc)

/-- The statement. -/
theorem proved : Rows.WatchTracesSaid := over
#print axioms proved
end Go.Proofs.Ytghcdkpgcanpgaa.watchTraces
namespace Go.Proofs.Ytghcdkpgcanpgaa
/-- The row, under a short name, for the claim. -/
theorem watchTraces_holds : Rows.WatchTracesSaid := watchTraces.proved
end Go.Proofs.Ytghcdkpgcanpgaa
