/- SaveLoads returns true for every slice of bytes: what the program's Load makes of it is the document's whole, or the same refusal, in memory of its own; what is handed in stays as it is. No condition. The frame of the proof follows proof-skeleton.mjs; the walk is by the engine of this claim. -/
import Derived.Test.YtghcdkpgcanpgaaRows
import Derived.WalkKit
import Derived.ProofKit
import Derived.OpenShut
import Derived.ShutString
import Derived.ChangeOld
import Derived.Below
import Derived.SizedLaws
import Derived.Test.YtghcdkpgcanpgaaZ5
namespace Go.Proofs.Ytghcdkpgcanpgaa.saveLoads
open Go.ChangeShapes Go.WideShapes Go.ChangeAt Go.RowKit
set_option linter.unusedVariables false

theorem own : ownKnob Try.prog.godebug = none := by kernel_rfl
theorem laidOut : laidOutB Try.prog = true := by kernel_rfl

theorem walk (v : Value) (w : World) (h : Anv.fitF w [.sl .u8] [v]) :
    Calls Try.prog 7 #[v] w fun e w' => e = .returned (.bool true) ∧ Below w.heap.size w w' := by
  have hf : Anv.isFn TB 7 := ⟨_, Try.func7, by kernel_rfl, by kernel_rfl⟩
  simp only [Anv.fitF] at h
  obtain ⟨a, n, cap, f, l', he, hs, rfl⟩ := h
  obtain rfl : v = .slice a n cap := by simpa using he
  obtain ⟨p, k0, hd⟩ := Anv.slIn_at hs
  let E : Anv.Emb := ⟨1, fun _ => p⟩
  have S : Anv.Sim E [Anv.bblk false n (fun j => BitVec.ofInt 8 (f j)) 0] w := by
    refine ⟨rfl, fun i B hi => ?_, fun i j A B hij hi hj hA => ?_⟩
    · have hi0 : i = 0 := by
        rcases Nat.eq_zero_or_pos i with h | h
        · exact h
        · rw [List.getElem?_eq_none (by simp; omega)] at hi; cases hi
      subst hi0
      simp only [List.getElem?_cons_zero, Option.some.injEq] at hi
      subst hi
      refine ⟨?_, ⟨Anv.intsOf .u8 n (Anv.bfun fun j => BitVec.ofInt 8 (f j)) ++ [], ⟨[], rfl, rfl⟩, fun j v hj => ?_⟩, fun h => by cases h⟩
      · rcases k0.lt with h | ⟨h, h'⟩
        · exact .inl h
        · exact .inr ⟨h, by simp [Anv.sizeS, h']⟩
      · rw [List.append_nil] at hj
        have hj' : j < n := by
          rcases Nat.lt_or_ge j n with h | h
          · exact h
          · rw [List.getElem?_eq_none (by rw [Anv.length_intsOf]; exact h)] at hj; cases hj
        rw [Anv.intsOf_get hj'] at hj
        cases hj
        exact k0.at_ j hj'
    · exfalso
      rcases i with _ | i
      · simp only [List.getElem?_cons_zero, Option.some.injEq] at hi; subst hi; cases hA
      · simp at hi
  refine (Anv.Does.below (saveLoads_law n cap (fun j => BitVec.ofInt 8 (f j)) k0.le k0.cp) hf S (vs := #[.slice a n cap]) ?_ ⟨rfl, trivial⟩).mono ?_
  · refine ⟨_, [], rfl, ?_, rfl⟩
    simp only [Anv.denE]
    exact hd E 0 rfl (show (0 : Nat) < 1 by decide)
  · rintro e w' ⟨⟨v, x, h', E', rfl, hd, rfl, _⟩, hb⟩
    simp only [Anv.denE, Anv.denV] at hd
    subst hd
    exact ⟨rfl, hb⟩

set_option maxRecDepth 100000 in
theorem lifted (os : Os) (started : os.Started) (H : Type) (enc : TypeId × Value → H) :
    ReturnsInHanded {} Try.checked os 7 .any (Rows.saveLoadsSpec.pre6 enc Try.prog Try.f7 Rows.saveLoadsRow.domain false) (Rows.saveLoadsSpec.post enc Try.prog Try.f7 false true false false) := by
  refine returnsInHanded_of_change_sized (C := Try.checked) own started (by kernel_rfl) Try.func7
    (ChangeSpec.witness6 (enc := enc) (C := Try.checked) false ⟨#[], #[.slice none 0 0], []⟩ 8 (by kernel_rfl) (by kernel_rfl) (by kernel_rfl) (by kernel_rfl)) ?_
  intro W base args ds gs before hval0 hW hcnd hbig _
  have hval : ∀ (j : Nat) t v, Try.f7.params[j]? = some t → args[j]? = some v → Value.okWide Try.prog W .any base t v := hval0
  have hW' := hW
  obtain ⟨p, q, hA0, hV, rfl, hfz, hnd⟩ := hW
  have hA : DataW.TrodAll enc Try.prog W 0 (fun _ => true) true Try.f7.params.toList args.toList ds p := hA0
  rw [Try.params7] at hA hval
  obtain ⟨v0, vs0, d0, ds0, p0, q0, hargs, rfl, rfl, h0, r0⟩ := trodAll_cons hA
  obtain ⟨rfl, rfl, rfl⟩ := trodAll_nil r0
  obtain rfl : args = #[v0] := by cases args; simp_all
  obtain ⟨rfl, rfl⟩ := trodVars_none hV
  have k0 := h0
  have lt0 : ∀ x ∈ p0, x.block < W.heap.size := by obtain ⟨m, hm⟩ := k0; exact DataW.trod_lt m _ _ _ hm
  obtain ⟨a0, len0, cap0, rfl⟩ := okWide_slice Try.underlying23 (hval 0 23 v0 rfl rfl)
  have hpl : Anv.placed W (.slice a0 len0 cap0) := by
    have h := hval 0 23 _ rfl rfl
    refine Anv.placed_of_okWide (P := Try.prog) (r := .any) (base := base) (u := 23) ?_
    unfold Value.okWide at h
    rw [Try.underlying23] at h
    exact h
  have fit : Anv.fitF W [.sl .u8] [.slice a0 len0 cap0] := by
    obtain ⟨fuel, hf⟩ := h0
    refine Anv.FTn.opens 1 (P := Try.prog) (t := 23) (.inr (.inr (.inr (.inl ⟨_, _, Try.underlying23, Try.underlying5, by kernel_rfl, of_decide_eq_true (by kernel_rfl), rfl⟩)))) hf (fun v hv => ?_) (fun m hm => ?_)
    · simp only [List.mem_singleton] at hv
      subst hv
      exact hpl
    · have := List.all_eq_true.1 hbig m (DataW.weights_mem_each (j := 0) rfl rfl m hm)
      simpa using this
  clear hA0 hval0
  refine (walk _ W fit).mono fun e W' ⟨he, bel⟩ => ?_
  subst he
  exact ⟨_, rfl, _, _, _, [], _, [], hW', trodAll_mk1 (shut_bool Try.underlying4 _), (trodAll_cons_mk (Below.trod laidOut (by kernel_rfl) (of_decide_eq_true (by kernel_rfl)) k0 bel lt0) trodAll_mk0), rfl, bel.frame _, fun h => by cases h⟩

theorem over : Rows.saveLoadsRow.holds Try.pinned (OpenSpec.ofChange Rows.saveLoadsSpec) :=
  OpenClaim.holds_of_wide 7 Try.f7 rfl rfl rfl rfl rfl rfl rfl ⟨rfl, rfl, rfl, rfl, rfl⟩ rfl rfl rfl rfl rfl (by kernel_rfl) Try.func7 (by kernel_rfl)
    (of_decide_eq_true (by kernel_rfl)) (by unfold Func.isWrapper; first | (rw [if_pos (by decide +kernel)]; kernel_rfl) | (rw [if_neg (by decide +kernel)]; exact ⟨rfl, rfl⟩))
    (fun os started H enc _ => lifted os started H enc)

/-- The statement. -/
theorem proved : Rows.SaveLoadsSaid := over
#print axioms proved
end Go.Proofs.Ytghcdkpgcanpgaa.saveLoads
namespace Go.Proofs.Ytghcdkpgcanpgaa
/-- The row, under a short name, for the claim. -/
theorem saveLoads_holds : Rows.SaveLoadsSaid := saveLoads.proved
end Go.Proofs.Ytghcdkpgcanpgaa
