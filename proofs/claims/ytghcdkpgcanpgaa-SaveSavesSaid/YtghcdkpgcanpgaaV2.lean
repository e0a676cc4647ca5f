/- The writer of a snapshot: many bytes at once. Contract of a function. -/
import Derived.Test.YtghcdkpgcanpgaaV1
namespace Go.Proofs.Ytghcdkpgcanpgaa
open Go Go.Anv
set_option maxRecDepth 100000 in
theorem bytes_spec (L : List B8) (c : Nat) (m : Bool) (P : List B8) (k o cp sp : Nat) (f : Nat → Int) (hf : ∀ j, j < P.length → f (o + j) = bf P j) (hk : o + P.length ≤ k)
    (hL : L.length ≤ 70368744177664) (hP : P.length ≤ 70368744177664) (hc : L.length ≤ c) :
    Does TB 39 [.s (.ptr 0 0), .s (.gs 2 o P.length cp)] (wr L c ++ [.cells m [.ints .u8 k f] sp])
      (fun r h' => ∃ c', L.length + P.length ≤ c' ∧ r = .tuple [] ∧ h' = [.cells true [.one (.gs 3 0 (L ++ P).length c')] 0, .dead, .cells m [.ints .u8 k f] sp, .cells true [.ints .u8 (L ++ P).length (bf (L ++ P))] (c' - (L ++ P).length)]) := by
  refine fnX_does TB Try.func39 rfl (by decide) (fun O on hO => ?_)
  refine need_intro ⟨by show (0 : Int) ≤ ((P.length : Nat) : Int); omega, by show L.length + 0 = L.length * 1; omega, by show c * 1 = L.length * 1 + (c - L.length); omega, room5 _ (by show L.length + P.length ≤ _; omega)⟩ ?_
  intro c1 hc1
  have hc1 : L.length + P.length ≤ c1 := hc1
  refine need_intro ⟨by omega, by show ((L.length : Nat) : Int) ≤ ((L.length + P.length : Nat) : Int); omega, by show ((L.length + P.length : Nat) : Int) ≤ (c1 : Int); omega⟩ ?_
  have hsk : skip c1 L.length 0 1 ≤ L.length ∧ (P.length ≠ 0 → skip c1 L.length 0 1 = L.length) := by
    unfold skip
    split <;> omega
  have hd : L.length + P.length - L.length = P.length := by omega
  refine need_intro ⟨hk, by show skip c1 L.length 0 1 + (L.length + P.length - L.length) ≤ L.length + P.length; omega⟩ ?_
  have hlen : (L ++ P).length = L.length + P.length := List.length_append
  refine ⟨_, _, [0, 1, 2, 3], ⟨c1, hc1, rfl, rfl⟩, by decide, ⟨rfl, rfl, rfl, trivial⟩, trivial, ?_⟩
  refine ⟨⟨_, rfl, ⟨rfl, rfl, eqvS_gs ⟨rfl, rfl, ?_, rfl⟩ eqvS_nil⟩⟩, ⟨_, rfl, eqvB_refl _⟩, ⟨_, rfl, eqvB_refl _⟩, ⟨_, rfl, ⟨rfl, ?_, ⟨⟨rfl, ?_, ?_⟩, eqvS_nil⟩⟩⟩, trivial⟩
  · show L.length + P.length = (L ++ P).length
    omega
  · show (c1 - (L.length + P.length)) * 1 = c1 - (L ++ P).length
    omega
  · show L.length + P.length = (L ++ P).length
    omega
  · intro j hj
    have hj : j < L.length + P.length := hj
    show putF (skip c1 L.length 0 1) (min P.length (L.length + P.length - L.length)) (shf o f) (catF L.length (bf L) fun _ => 0) j = bf (L ++ P) j
    rw [hd, Nat.min_self]
    unfold putF catF
    split
    · rename_i h1
      have hP0 : P.length ≠ 0 := by omega
      have hs := hsk.2 hP0
      rw [hs] at h1 ⊢
      show f (o + (j - L.length)) = _
      rw [hf _ (by omega)]
      simp [bf, List.getD_eq_getElem?_getD, List.getElem?_append_right h1.1]
    · rename_i h1
      have h2 : j < L.length := by
        by_cases hP0 : P.length = 0
        · omega
        · have hs := hsk.2 hP0
          rw [hs] at h1
          omega
      rw [if_pos h2]
      simp [bf, List.getD_eq_getElem?_getD, List.getElem?_append_left h2]
end Go.Proofs.Ytghcdkpgcanpgaa
