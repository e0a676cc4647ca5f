/- A page of the ram. Contract of a function. -/
import Derived.Test.YtghcdkpgcanpgaaV3
namespace Go.Proofs.Ytghcdkpgcanpgaa
open Go Go.Anv
set_option maxRecDepth 100000 in
theorem cut_spec (m : Bool) (k n c sp a : Nat) (f : Nat → Int) (hc : n ≤ c) (hn : n ≤ 2 ^ 60) (ha : a ≤ n) :
    Does TB 78 [.s (.gs 0 0 n c), .s (.int .i64 a)] [.cells m [.ints .u8 k f] sp]
      (fun v h' => v = .s (.gs 0 (skip (min (a + 256) n) a 0 1) (min (a + 256) n - a) (min (a + 256) n - a)) ∧ h' = [.cells m [.ints .u8 k f] sp]) := by
  refine fnX_does TB Try.func78 rfl (by decide) (fun O on hO => ?_)
  have hw : IntKind.i64.wrap ((a : Int) + 256) = ((a + 256 : Nat) : Int) := by
    rw [i64_in (by omega) (by omega)]; rfl
  have hm : (if (n : Int) < IntKind.i64.wrap ((a : Int) + 256) then (n : Int) else IntKind.i64.wrap ((a : Int) + 256)) = ((min (a + 256) n : Nat) : Int) := by
    rw [hw]
    split <;> omega
  refine need_intro (by rw [hm]; omega) ?_
  refine ⟨.s (.gs 0 (skip (min (a + 256) n) a 0 1) (min (a + 256) n - a) (min (a + 256) n - a)), [.cells m [.ints .u8 k f] sp], [0], ⟨rfl, rfl⟩, by decide, ⟨rfl, trivial⟩, ?_, ⟨⟨_, rfl, eqvB_refl _⟩, trivial⟩⟩
  have hm' : (if (n : Int) < IntKind.i64.wrap ((a : Int) + 256) then (n : Int) else IntKind.i64.wrap ((a : Int) + 256)).toNat = min (a + 256) n := by rw [hm]; rfl
  refine ⟨rfl, ?_, ?_, ?_⟩
  · exact congrArg (fun z => skip z a 0 1) hm'
  · exact congrArg (fun z => z - a) hm'
  · exact congrArg (fun z => z - a) hm'
end Go.Proofs.Ytghcdkpgcanpgaa
