/- The reference's page. Contract of a function. -/
import Derived.Test.YtghcdkpgcanpgaaV8
namespace Go.Proofs.Ytghcdkpgcanpgaa
open Go Go.Anv
set_option maxRecDepth 100000 in
theorem rpage_spec (m : Bool) (k n c sp i : Nat) (f : Nat → Int) (hc : n ≤ c) (hn : n ≤ 2 ^ 60) (ha : 256 * i ≤ n) :
    Does TB 84 [.s (.gs 0 0 n c), .s (.int .i64 i)] [.cells m [.ints .u8 k f] sp]
      (fun v h' => v = .s (.gs 0 (skip c (256 * i) 0 1) (min (256 * i + 256) n - 256 * i) (c - 256 * i)) ∧ h' = [.cells m [.ints .u8 k f] sp]) := by
  refine fnX_does TB Try.func84 rfl (by decide) (fun O on hO => ?_)
  have hw : IntKind.i64.wrap (256 * (i : Int)) = ((256 * i : Nat) : Int) := by
    rw [i64_in (by omega) (by omega)]; omega
  have hw2 : IntKind.i64.wrap (IntKind.i64.wrap (256 * (i : Int)) + 256) = ((256 * i + 256 : Nat) : Int) := by
    rw [hw, i64_in (by omega) (by omega)]; rfl
  have hf : (IntKind.i64.wrap (256 * (i : Int))).toNat = 256 * i := by rw [hw]; rfl
  have ht : (IntKind.i64.wrap (IntKind.i64.wrap (256 * (i : Int)) + 256)).toNat = 256 * i + 256 := by rw [hw2]; rfl
  refine ifB_intro (fun h1 => ?_) (fun h1 => ?_)
  · have h1 := of_decide_eq_true h1
    have h2 : (n : Int) < IntKind.i64.wrap (IntKind.i64.wrap (256 * (i : Int)) + 256) := h1
    rw [hw2] at h2
    refine need_intro ⟨by omega, by omega, by omega⟩ ?_
    refine ⟨.s (.gs 0 (skip c (256 * i) 0 1) (min (256 * i + 256) n - 256 * i) (c - 256 * i)), [.cells m [.ints .u8 k f] sp], [0], ⟨rfl, rfl⟩, by decide, ⟨rfl, trivial⟩, ?_, ⟨⟨_, rfl, eqvB_refl _⟩, trivial⟩⟩
    refine ⟨rfl, ?_, ?_, ?_⟩
    · exact congrArg (fun z => skip c z 0 1) hf
    · show (n : Int).toNat - (IntKind.i64.wrap (256 * (i : Int))).toNat = _
      rw [hf]; omega
    · exact congrArg (fun z => c - z) hf
  · have h1 := of_decide_eq_false h1
    have h2 : ¬ (n : Int) < IntKind.i64.wrap (IntKind.i64.wrap (256 * (i : Int)) + 256) := h1
    rw [hw2] at h2
    refine need_intro ⟨by omega, by rw [hw2]; omega, by rw [hw2]; omega⟩ ?_
    refine ⟨.s (.gs 0 (skip c (256 * i) 0 1) (min (256 * i + 256) n - 256 * i) (c - 256 * i)), [.cells m [.ints .u8 k f] sp], [0], ⟨rfl, rfl⟩, by decide, ⟨rfl, trivial⟩, ?_, ⟨⟨_, rfl, eqvB_refl _⟩, trivial⟩⟩
    refine ⟨rfl, ?_, ?_, ?_⟩
    · exact congrArg (fun z => skip c z 0 1) hf
    · show (IntKind.i64.wrap (IntKind.i64.wrap (256 * (i : Int)) + 256)).toNat - (IntKind.i64.wrap (256 * (i : Int))).toNat = _
      rw [hf, ht]; omega
    · exact congrArg (fun z => c - z) hf
end Go.Proofs.Ytghcdkpgcanpgaa
