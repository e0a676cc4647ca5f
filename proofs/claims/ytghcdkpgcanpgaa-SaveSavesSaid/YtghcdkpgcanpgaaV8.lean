/- The reference's pages: blank, how many. Contracts of functions. -/
import Derived.Test.YtghcdkpgcanpgaaV7
namespace Go.Proofs.Ytghcdkpgcanpgaa
open Go Go.Anv
set_option maxRecDepth 100000 in
theorem rblank_spec (m : Bool) (k o n c sp : Nat) (f : Nat → Int) (p : Nat → B8) (hn : o + n ≤ k) (hk : n < 2 ^ 62) (hp : ∀ j, j < n → f (o + j) = (p j).toNat) :
    Does TB 85 [.s (.gs 0 o n c)] [.cells m [.ints .u8 k f] sp] (fun v h' => v = .s (.bool (blankN p n)) ∧ h' = [.cells m [.ints .u8 k f] sp]) := by
  refine fnX_does TB Try.func85 rfl (by decide) (fun O on hO => ?_)
  refine loop_by (A := Nat) on (fun i => [(2, .s (.bool false)), (3, .s (.int .i64 (i : Int)))]) (fun _ => [.cells m [.ints .u8 k f] sp]) (fun i => i ≤ n ∧ blankN p i = true) (fun i => n - i) 0 ⟨by omega, rfl⟩ ?_ ?_
  · refine ⟨?_, ?_⟩
    · repeat' (first | exact eqvT_nil | refine eqvT_junk ?_ | refine eqvT_same ?_ | refine eqvT_int ?_ ?_)
    · exact eqvH_same eqvH_nil
  · rintro i ⟨hi, hb⟩
    refine ifB_intro (fun h1 => ?_) (fun h1 => ?_)
    · have h1 := of_decide_eq_true h1
      refine need_intro (by omega) ?_
      refine need_intro (by omega) ?_
      have hf : f (o + (i : Int).toNat) = (p i).toNat := hp i (by omega)
      have hz : (((p i).toNat : Int) == 0) = (p i == 0#8) := beq_lit (p i) 0 (by decide) (by decide)
      refine ifB_intro (fun h2 => ?_) (fun h2 => ?_)
      · have h2 : (!(f (o + (i : Int).toNat) == 0)) = true := h2
        rw [hf, hz] at h2
        have h3 : p i ≠ 0#8 := by simpa using h2
        exact ⟨.s (.bool false), [.cells m [.ints .u8 k f] sp], [0], ⟨by rw [blankN_false h3 (by omega)], rfl⟩, by decide, ⟨rfl, trivial⟩, rfl, ⟨⟨_, rfl, eqvB_refl _⟩, trivial⟩⟩
      · have h2 : (!(f (o + (i : Int).toNat) == 0)) = false := h2
        rw [hf, hz] at h2
        refine ⟨i + 1, ?_, ?_, ?_, ?_⟩
        · refine ⟨by omega, ?_⟩
          simp only [blankN, hb, Bool.true_and]
          simpa using h2
        · show n - (i + 1) < n - i; omega
        · repeat' (first | exact eqvT_nil | refine eqvT_junk ?_ | refine eqvT_same ?_ | refine eqvT_int ?_ ?_)
          rw [i64_in (by omega) (by omega)]; rfl
        · exact eqvH_same eqvH_nil
    · have h1 := of_decide_eq_false h1
      have : i = n := by omega
      subst this
      exact ⟨.s (.bool true), [.cells m [.ints .u8 k f] sp], [0], ⟨by rw [hb], rfl⟩, by decide, ⟨rfl, trivial⟩, rfl, ⟨⟨_, rfl, eqvB_refl _⟩, trivial⟩⟩
theorem rpages_spec (n : Nat) (hn : n ≤ 2 ^ 60) (h : List Blk) : Does TB 83 [.s (.int .i64 n)] h (fun r h' => r = .s (.int .i64 (((n + 255) / 256 : Nat) : Int)) ∧ h' = h) := by
  refine fnX_pure TB Try.func83 rfl (by decide) rfl _ rfl (fun O on => ?_) h
  refine need_intro (by decide) ?_
  have e : IntKind.i64.wrap ((n : Int) + 255) = ((n + 255 : Nat) : Int) := by rw [i64_in (by omega) (by omega)]; rfl
  have e2 : IntKind.i64.wrap ((IntKind.i64.wrap ((n : Int) + 255)).tdiv 256) = (((n + 255) / 256 : Nat) : Int) := by
    rw [e, Int.tdiv_eq_ediv_of_nonneg (by omega), i64_in (by omega) (by omega)]
    omega
  first
  | (show (_ : Int) = _; exact e2)
  | (refine ⟨rfl, ?_⟩; exact e2)
  | (show EV.s _ = EV.s _; rw [e2])
end Go.Proofs.Ytghcdkpgcanpgaa
