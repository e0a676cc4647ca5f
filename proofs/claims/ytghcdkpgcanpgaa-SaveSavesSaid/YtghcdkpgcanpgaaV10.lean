/- The reference's flag. Contract of a function. -/
import Derived.Test.YtghcdkpgcanpgaaV9
namespace Go.Proofs.Ytghcdkpgcanpgaa
open Go Go.Anv
set_option maxRecDepth 100000 in
theorem flag_spec (L : List B8) (c : Nat) (b : Bool) (hL : L.length ≤ 70368744177664) (hc : L.length ≤ c) :
    Does TB 82 [.s (.gs 0 0 L.length c), .s (.bool b)] (nbH L c 0) (fun r h' => ∃ c', (L ++ [if b then 1#8 else 0#8]).length ≤ c' ∧ r = .s (.gs 1 0 (L ++ [if b then 1#8 else 0#8]).length c') ∧ h' = nbH (L ++ [if b then 1#8 else 0#8]) c' 1) := by
  refine fnX_does TB Try.func82 rfl (by decide) (fun O on hO => ?_)
  refine ifB_intro (fun h1 => ?_) (fun h1 => ?_)
  all_goals
    subst h1
    refine need_intro ⟨Nat.le_refl _, by show L.length + 0 = L.length * 1; omega, by show c * 1 = L.length * 1 + (c - L.length); omega, room5 _ (by show L.length + 1 ≤ _; omega)⟩ ?_
    intro c1 hc1
    have hc1 : L.length + 1 ≤ c1 := hc1
  · refine ⟨.s (.gs 1 0 (L ++ [1#8]).length c1), nbH (L ++ [1#8]) c1 1, [0, 2], ⟨c1, by simpa using hc1, rfl, rfl⟩, by decide, ⟨rfl, trivial⟩, ⟨rfl, rfl, ?_, rfl⟩, ⟨_, rfl, eqvB_refl _⟩, ⟨_, rfl, ⟨rfl, ?_, ⟨⟨rfl, ?_, ?_⟩, eqvS_nil⟩⟩⟩, trivial⟩
    · show L.length + 1 = (L ++ [1#8]).length; simp
    · show (c1 - (L.length + 1)) * 1 = c1 - (L ++ [1#8]).length; simp
    · show L.length + 1 = (L ++ [1#8]).length; simp
    · exact bf_append L [1#8] (n := L.length) (m := 1) rfl rfl (fun _ _ => rfl) (bf_one rfl)
  · refine ⟨.s (.gs 1 0 (L ++ [0#8]).length c1), nbH (L ++ [0#8]) c1 1, [0, 2], ⟨c1, by simpa using hc1, rfl, rfl⟩, by decide, ⟨rfl, trivial⟩, ⟨rfl, rfl, ?_, rfl⟩, ⟨_, rfl, eqvB_refl _⟩, ⟨_, rfl, ⟨rfl, ?_, ⟨⟨rfl, ?_, ?_⟩, eqvS_nil⟩⟩⟩, trivial⟩
    · show L.length + 1 = (L ++ [0#8]).length; simp
    · show (c1 - (L.length + 1)) * 1 = c1 - (L ++ [0#8]).length; simp
    · show L.length + 1 = (L ++ [0#8]).length; simp
    · exact bf_append L [0#8] (n := L.length) (m := 1) rfl rfl (fun _ _ => rfl) (bf_one rfl)
end Go.Proofs.Ytghcdkpgcanpgaa
