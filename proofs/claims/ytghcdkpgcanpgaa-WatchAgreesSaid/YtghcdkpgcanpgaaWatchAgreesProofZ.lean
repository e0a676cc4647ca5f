/- WatchAgrees returns true for every two wholes: the program's Agree of them is the document's, both ways round; what is handed in stays as it is. No condition. The frame of the proof follows proof-skeleton.mjs; the walk is by the engine of this claim. -/
import Derived.Test.YtghcdkpgcanpgaaRows
import Derived.WalkKit
import Derived.ProofKit
import Derived.OpenShut
import Derived.ShutString
import Derived.ChangeOld
import Derived.Below
import Derived.SizedLaws
import Derived.Test.YtghcdkpgcanpgaaZ8
namespace Go.Proofs.Ytghcdkpgcanpgaa.watchAgrees
open Go.ChangeShapes Go.WideShapes Go.ChangeAt Go.RowKit
set_option linter.unusedVariables false

theorem own : ownKnob Try.prog.godebug = none := by kernel_rfl
theorem laidOut : laidOutB Try.prog = true := by kernel_rfl

theorem walk (cs ds : Array Value) (w : World) (h : Anv.fitF w (Anv.cpuF ++ Anv.busF) cs.toList) (g : Anv.fitF w (Anv.cpuF ++ Anv.busF) ds.toList) :
    Calls Try.prog 8 #[.agg cs, .agg ds] w fun e w' => e = .returned (.bool true) ∧ Below w.heap.size w w' := by
  have hf : Anv.isFn TB 8 := ⟨_, Try.func8, by kernel_rfl, by kernel_rfl⟩
  obtain ⟨c, x, y, hl, hc, hb, _, _⟩ := Anv.cpu_in h
  rw [← List.append_nil Anv.busF] at hb
  obtain ⟨s, x', y', p0, p1, p2, c0, c1, c2, q0, q1, q2, rfl, k0, k1, k2, hd, hy⟩ := Anv.bus_in hb
  simp only [Anv.fitF] at hy
  subst hy
  rw [List.append_nil] at hl
  obtain ⟨c', u, v, hl', hc', hb', _, _⟩ := Anv.cpu_in g
  rw [← List.append_nil Anv.busF] at hb'
  obtain ⟨s', u', v', p3, p4, p5, c3, c4, c5, q3, q4, q5, rfl, k3, k4, k5, hd', hv⟩ := Anv.bus_in hb'
  simp only [Anv.fitF] at hv
  subst hv
  rw [List.append_nil] at hl'
  let E : Anv.Emb := ⟨6, fun i => match i with | 0 => p0 | 1 => p1 | 2 => p2 | 3 => p3 | 4 => p4 | _ => p5⟩
  let l : Anv.Lists := ⟨false, 0, q0, false, 0, q1, false, 0, q2⟩
  let l' : Anv.Lists := ⟨false, 0, q3, false, 0, q4, false, 0, q5⟩
  have S : Anv.Sim E (l.blks s ++ l'.blks s') w := Anv.sim6 k0 k1 k2 k3 k4 k5
  refine (Anv.Does.below (watchAgrees_law c c' s s' l l' c0 c1 c2 c3 c4 c5 (Nat.le_trans k0.le (by decide)) (Nat.le_trans k1.le (by decide)) (Nat.le_trans k2.le (by decide)) (Nat.le_trans k3.le (by decide)) (Nat.le_trans k4.le (by decide)) (Nat.le_trans k5.le (by decide))) hf S (vs := #[.agg cs, .agg ds]) ?_ ⟨rfl, rfl, rfl, rfl, rfl, rfl, trivial⟩).mono ?_
  · refine ⟨_, _, rfl, ⟨cs, rfl, ?_⟩, _, [], rfl, ⟨ds, rfl, ?_⟩, rfl⟩
    · rw [hl]
      exact Anv.denS_append (hc E) (hd E 0 1 2 rfl (show (0 : Nat) < 6 by decide) rfl (show (1 : Nat) < 6 by decide) rfl (show (2 : Nat) < 6 by decide))
    · rw [hl']
      exact Anv.denS_append (hc' E) (hd' E 3 4 5 rfl (show (3 : Nat) < 6 by decide) rfl (show (4 : Nat) < 6 by decide) rfl (show (5 : Nat) < 6 by decide))
  · rintro e w' ⟨⟨v, x, h', E', rfl, hd, rfl, _⟩, hb⟩
    simp only [Anv.denE, Anv.denV] at hd
    subst hd
    exact ⟨rfl, hb⟩

set_option maxRecDepth 100000 in
theorem lifted (os : Os) (started : os.Started) (H : Type) (enc : TypeId × Value → H) :
    ReturnsInHanded {} Try.checked os 8 .any (Rows.watchAgreesSpec.pre6 enc Try.prog Try.f8 Rows.watchAgreesRow.domain false) (Rows.watchAgreesSpec.post enc Try.prog Try.f8 false true false false) := by
  refine returnsInHanded_of_change_sized (C := Try.checked) own started (by kernel_rfl) Try.func8
    (ChangeSpec.witness6 (enc := enc) (C := Try.checked) false ⟨#[], #[.agg Anv.wz, .agg Anv.wz], []⟩ 8 (by kernel_rfl) (by kernel_rfl) (by kernel_rfl) (by kernel_rfl)) ?_
  intro W base args ds gs before hval0 hW hcnd hbig _
  have hval : ∀ (j : Nat) t v, Try.f8.params[j]? = some t → args[j]? = some v → Value.okWide Try.prog W .any base t v := hval0
  have hW' := hW
  obtain ⟨p, q, hA0, hV, rfl, hfz, hnd⟩ := hW
  have hA : DataW.TrodAll enc Try.prog W 0 (fun _ => true) true Try.f8.params.toList args.toList ds p := hA0
  rw [Try.params8] at hA hval
  obtain ⟨v0, vs0, d0, ds0, p0, q0, hargs, rfl, rfl, h0, r0⟩ := trodAll_cons hA
  obtain ⟨v1, vs1, d1, ds1, p1, q1, hargs1, rfl, rfl, h1, r1⟩ := trodAll_cons r0
  obtain ⟨rfl, rfl, rfl⟩ := trodAll_nil r1
  obtain rfl : args = #[v0, v1] := by cases args; simp_all
  obtain ⟨rfl, rfl⟩ := trodVars_none hV
  obtain ⟨cs, rfl, hpl⟩ := Anv.struct_placed Try.underlying44 (hval 0 _ v0 rfl rfl)
  obtain ⟨cs1, rfl, hpl1⟩ := Anv.struct_placed Try.underlying44 (hval 1 _ v1 rfl rfl)
  have k0 := h0
  have k1 := h1
  have lt0 : ∀ x ∈ p0, x.block < W.heap.size := by obtain ⟨m, hm⟩ := k0; exact DataW.trod_lt m _ _ _ hm
  have lt1 : ∀ x ∈ p1, x.block < W.heap.size := by obtain ⟨m, hm⟩ := k1; exact DataW.trod_lt m _ _ _ hm
  have fit : Anv.fitF W (Anv.cpuF ++ Anv.busF) cs.toList := by
    obtain ⟨fuel, hf⟩ := h0
    refine Anv.FTn.opens _ (ft44 0) hf hpl (fun m hm => ?_)
    have := List.all_eq_true.1 hbig m (DataW.weights_mem_each (j := 0) rfl rfl m hm)
    simpa using this
  have fit1 : Anv.fitF W (Anv.cpuF ++ Anv.busF) cs1.toList := by
    obtain ⟨fuel, hf⟩ := h1
    refine Anv.FTn.opens _ (ft44 0) hf hpl1 (fun m hm => ?_)
    have := List.all_eq_true.1 hbig m (DataW.weights_mem_each (j := 1) rfl rfl m hm)
    simpa using this
  clear hA0 hval0
  refine (walk cs cs1 W fit fit1).mono fun e W' ⟨he, bel⟩ => ?_
  subst he
  exact ⟨_, rfl, _, _, _, [], _, [], hW', trodAll_mk1 (shut_bool Try.underlying4 _), (trodAll_cons_mk (Below.trod laidOut (by kernel_rfl) (of_decide_eq_true (by kernel_rfl)) k0 bel lt0) (trodAll_cons_mk (Below.trod laidOut (by kernel_rfl) (of_decide_eq_true (by kernel_rfl)) k1 bel lt1) trodAll_mk0)), rfl, bel.frame _, fun h => by cases h⟩

theorem over : Rows.watchAgreesRow.holds Try.pinned (OpenSpec.ofChange Rows.watchAgreesSpec) :=
  OpenClaim.holds_of_wide 8 Try.f8 rfl rfl rfl rfl rfl rfl rfl ⟨rfl, rfl, rfl, rfl, rfl⟩ rfl rfl rfl rfl rfl (by kernel_rfl) Try.func8 (by kernel_rfl)
    (of_decide_eq_true (by kernel_rfl)) (by unfold Func.isWrapper; first | (rw [if_pos (by decide +kernel)]; kernel_rfl) | (rw [if_neg (by decide +kernel)]; exact ⟨rfl, rfl⟩))
    (fun os started H enc _ => lifted os started H enc)

/-- The statement. -/
theorem proved : Rows.WatchAgreesSaid := over
#print axioms proved
end Go.Proofs.Ytghcdkpgcanpgaa.watchAgrees
namespace Go.Proofs.Ytghcdkpgcanpgaa
/-- The row, under a short name, for the claim. -/
theorem watchAgrees_holds : Rows.WatchAgreesSaid := watchAgrees.proved
end Go.Proofs.Ytghcdkpgcanpgaa
