/- The reference's snapshot: a whole number. Contract of a function. -/
import Derived.Test.YtghcdkpgcanpgaaV5
namespace Go.Proofs.Ytghcdkpgcanpgaa
open Go Go.Anv
theorem quo8 (v : BitVec 64) (n : Nat) : IntKind.u64.wrap (((v >>> (8 * n)).toNat : Int).tdiv 256) = ((v >>> (8 * (n + 1))).toNat : Int) := by
  rw [← shr8 v n, Int.tdiv_eq_ediv_of_nonneg (by omega), Int.fdiv_eq_ediv_of_nonneg _ (by decide)]
  have := (v >>> (8 * n)).isLt
  show (_ : Int) % 2 ^ 64 = _
  omega
theorem rem8 (v : BitVec 64) (n : Nat) : IntKind.u8.wrap (((v >>> (8 * n)).toNat : Int).tmod 256) = (((v >>> (8 * n)).setWidth 8).toNat : Int) := by
  rw [← low8, Int.tmod_eq_emod_of_nonneg (by omega)]
  show (_ : Int) % 2 ^ 8 = _ % 2 ^ 8
  omega
def nb : Nat → Nat
  | 0 => 0
  | _ + 1 => 1
def nbH (L : List B8) (c : Nat) : Nat → List Blk
  | 0 => [.cells true [.ints .u8 L.length (bf L)] (c - L.length)]
  | _ + 1 => [.dead, .cells true [.ints .u8 L.length (bf L)] (c - L.length)]
set_option maxRecDepth 100000 in
theorem num_spec (L : List B8) (c : Nat) (v : BitVec 64) (n : Nat) (hL : L.length ≤ 70368744177664) (hn : n ≤ 8) (hc : L.length ≤ c) :
    Does TB 50 [.s (.gs 0 0 L.length c), .s (.int .u64 v.toNat), .s (.int .i64 n)] (nbH L c 0) (fun r h' => ∃ c', L.length + n ≤ c' ∧ r = .s (.gs (nb n) 0 (L ++ le v n).length c') ∧ h' = nbH (L ++ le v n) c' n) := by
  refine fnX_does TB Try.func50 rfl (by decide) (fun O on hO => ?_)
  refine loop_in (A := Nat × Nat) on (fun i => [(0, .s (.gs (nb i.1) 0 (L ++ le v i.1).length i.2)), (1, .s (.int .u64 (v >>> (8 * i.1)).toNat)), (7, .s (.int .i64 (i.1 : Int)))])
      (fun i => nbH (L ++ le v i.1) i.2 i.1)
      (fun i => i.1 ≤ n ∧ L.length + i.1 ≤ i.2) (fun i => n - i.1) (0, c) ⟨Nat.zero_le _, hc⟩ [0] ?_ ?_
  · rw [hO]
    refine ⟨by decide, ⟨rfl, trivial⟩, ?_, ?_⟩
    · repeat' (first | exact eqvT_nil | refine eqvT_junk ?_ | refine eqvT_same ?_ | refine eqvT_int ?_ ?_ | refine eqvT_gs ⟨rfl, rfl, ?_, rfl⟩ ?_)
      all_goals simp [le]
    · refine ⟨⟨_, rfl, ⟨rfl, ?_, ⟨⟨rfl, ?_, ?_⟩, eqvS_nil⟩⟩⟩, trivial⟩ <;> simp [le]
  · rintro ⟨i, cap⟩ ⟨hi, hcap⟩
    replace hi : i ≤ n := hi
    replace hcap : L.length + i ≤ cap := hcap
    have hlen : (L ++ le v i).length = L.length + i := by rw [List.length_append, le_len]
    have hlen1 : (L ++ le v (i + 1)).length = L.length + i + 1 := by rw [List.length_append, le_len]; rfl
    have hnext : L ++ le v (i + 1) = (L ++ le v i) ++ [(v >>> (8 * i)).setWidth 8] := by simp [le]
    match i, hi, hcap, hlen, hlen1, hnext with
    | 0, hi, hcap, hlen, hlen1, hnext => 
      refine ifB_intro (fun h1 => ?_) (fun h1 => ?_)
      · have h1 : 0 < n := by
          have := of_decide_eq_true h1
          simpa using this
        have hM : (L ++ le v 0).length ≤ 70368744177672 := by omega
        refine need_intro (by decide) ?_
        refine need_intro ⟨Nat.le_refl _, by show (L ++ le v 0).length + 0 = (L ++ le v 0).length * 1; omega, by show cap * 1 = (L ++ le v 0).length * 1 + (cap - (L ++ le v 0).length); omega, room5 _ (by show (L ++ le v 0).length + 1 ≤ _; omega)⟩ ?_
        intro c1 hc1
        have hc1 : (L ++ le v 0).length + 1 ≤ c1 := hc1
        refine need_intro (by decide) ?_
        refine ⟨(0 + 1, c1), ⟨?_, ?_⟩, ?_, [0, 2], ?_⟩
        · show 0 + 1 ≤ n; omega
        · show L.length + (0 + 1) ≤ c1; omega
        · show n - (0 + 1) < n - (0); omega
        · rw [hO]
          refine ⟨by decide, ⟨rfl, trivial⟩, ?_, ?_⟩
          · repeat' (first | exact eqvT_nil | refine eqvT_junk ?_ | refine eqvT_same ?_ | refine eqvT_int ?_ ?_ | refine eqvT_gs ⟨rfl, rfl, ?_, rfl⟩ ?_)
            · show (L ++ le v 0).length + 1 = (L ++ le v (0 + 1)).length
              omega
            · exact quo8 v _
            all_goals (rw [i64_in (by omega) (by omega)]; try rfl)
          · refine ⟨⟨_, rfl, eqvB_refl _⟩, ⟨_, rfl, ⟨rfl, ?_, ⟨⟨rfl, ?_, ?_⟩, eqvS_nil⟩⟩⟩, trivial⟩
            · show (c1 - ((L ++ le v 0).length + 1)) * 1 = c1 - (L ++ le v (0 + 1)).length
              omega
            · show (L ++ le v 0).length + 1 = (L ++ le v (0 + 1)).length
              omega
            · rw [hnext]
              exact bf_append (L ++ le v 0) [(v >>> (8 * 0)).setWidth 8] (n := (L ++ le v 0).length) (m := 1) rfl rfl (fun _ _ => rfl) (bf_one (rem8 v _))
      · have h1 : 0 = n := by
          have := of_decide_eq_false h1
          simp at this
          omega
        subst h1
        exact ⟨.s (.gs 0 0 (L ++ le v 0).length cap), nbH (L ++ le v 0) cap 0, [0], ⟨cap, hcap, rfl, rfl⟩, by decide, ⟨rfl, trivial⟩, ⟨rfl, rfl, rfl, rfl⟩, ⟨_, rfl, eqvB_refl _⟩, trivial⟩
    | i + 1, hi, hcap, hlen, hlen1, hnext => 
      refine ifB_intro (fun h1 => ?_) (fun h1 => ?_)
      · have h1 : i + 1 < n := by
          have := of_decide_eq_true h1
          simp at this
          omega
        have hM : (L ++ le v (i + 1)).length ≤ 70368744177672 := by omega
        refine need_intro (by decide) ?_
        refine need_intro ⟨Nat.le_refl _, by show (L ++ le v (i + 1)).length + 0 = (L ++ le v (i + 1)).length * 1; omega, by show cap * 1 = (L ++ le v (i + 1)).length * 1 + (cap - (L ++ le v (i + 1)).length); omega, room5 _ (by show (L ++ le v (i + 1)).length + 1 ≤ _; omega)⟩ ?_
        intro c1 hc1
        have hc1 : (L ++ le v (i + 1)).length + 1 ≤ c1 := hc1
        refine need_intro (by decide) ?_
        refine ⟨(i + 1 + 1, c1), ⟨?_, ?_⟩, ?_, [0, 3], ?_⟩
        · show i + 1 + 1 ≤ n; omega
        · show L.length + (i + 1 + 1) ≤ c1; omega
        · show n - (i + 1 + 1) < n - ((i + 1)); omega
        · rw [hO]
          refine ⟨by decide, ⟨rfl, trivial⟩, ?_, ?_⟩
          · repeat' (first | exact eqvT_nil | refine eqvT_junk ?_ | refine eqvT_same ?_ | refine eqvT_int ?_ ?_ | refine eqvT_gs ⟨rfl, rfl, ?_, rfl⟩ ?_)
            · show (L ++ le v (i + 1)).length + 1 = (L ++ le v (i + 1 + 1)).length
              omega
            · exact quo8 v _
            all_goals (rw [i64_in (by omega) (by omega)]; try rfl)
          · refine ⟨⟨_, rfl, eqvB_refl _⟩, ⟨_, rfl, ⟨rfl, ?_, ⟨⟨rfl, ?_, ?_⟩, eqvS_nil⟩⟩⟩, trivial⟩
            · show (c1 - ((L ++ le v (i + 1)).length + 1)) * 1 = c1 - (L ++ le v (i + 1 + 1)).length
              omega
            · show (L ++ le v (i + 1)).length + 1 = (L ++ le v (i + 1 + 1)).length
              omega
            · rw [hnext]
              exact bf_append (L ++ le v (i + 1)) [(v >>> (8 * (i + 1))).setWidth 8] (n := (L ++ le v (i + 1)).length) (m := 1) rfl rfl (fun _ _ => rfl) (bf_one (rem8 v _))
      · have h1 : i + 1 = n := by
          have := of_decide_eq_false h1
          simp at this
          omega
        subst h1
        exact ⟨.s (.gs 1 0 (L ++ le v (i + 1)).length cap), nbH (L ++ le v (i + 1)) cap (i + 1), [0, 1], ⟨cap, hcap, rfl, rfl⟩, by decide, ⟨rfl, trivial⟩, ⟨rfl, rfl, rfl, rfl⟩, ⟨_, rfl, eqvB_refl _⟩, ⟨_, rfl, eqvB_refl _⟩, trivial⟩
end Go.Proofs.Ytghcdkpgcanpgaa
