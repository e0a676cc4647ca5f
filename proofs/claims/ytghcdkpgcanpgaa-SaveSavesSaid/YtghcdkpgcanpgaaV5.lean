/- The pages of the ram in a snapshot. Contract of a function. -/
import Derived.Test.YtghcdkpgcanpgaaV4
namespace Go.Proofs.Ytghcdkpgcanpgaa
open Go Go.Anv
/-- A page: the bytes from here, at most 256, none behind the ram's end. -/
def pageAt (p : Nat → B8) (n j : Nat) : List B8 := (List.range (min (256 * j + 256) n - 256 * j)).map fun t => p (256 * j + t)
def pagesN (p : Nat → B8) (n : Nat) : Nat → List B8
  | 0 => []
  | j + 1 => pagesN p n j ++ (if blankN (fun t => p (256 * j + t)) (min (256 * j + 256) n - 256 * j) then [] else le (BitVec.ofNat 64 j) 2 ++ pageAt p n j)
theorem pagesN_len (p : Nat → B8) (n : Nat) : ∀ j, (pagesN p n j).length ≤ 258 * j
  | 0 => by simp [pagesN]
  | j + 1 => by
    have := pagesN_len p n j
    simp only [pagesN, List.length_append]
    split
    · simp; omega
    · simp only [List.length_append, le_len, pageAt, List.length_map, List.length_range]; omega
/-- The writer's bytes in the third block, a slice of the caller's in the second. -/
def wr3 (L : List B8) (c : Nat) (B : Blk) : List Blk := [.cells true [.one (.gs 3 0 L.length c)] 0, .dead, B, .cells true [.ints .u8 L.length (bf L)] (c - L.length)]
set_option maxRecDepth 100000 in
theorem pages_spec (L : List B8) (c : Nat) (m : Bool) (n k cr sp : Nat) (f : Nat → Int) (p : Nat → B8) (hp : ∀ j, j < n → f j = (p j).toNat) (hk : n ≤ k) (hcr : n ≤ cr)
    (hL : L.length ≤ 2 ^ 40) (hn : n ≤ 2 ^ 40) (hc : L.length ≤ c) :
    Does TB 41 [.s (.ptr 0 0), .s (.gs 2 0 n cr)] (wr L c ++ [.cells m [.ints .u8 k f] sp])
      (fun r h' => ∃ c', (L ++ le (BitVec.ofNat 64 n) 4 ++ pagesN p n ((n + 255) / 256) ++ le 65535#64 2).length ≤ c' ∧ r = .tuple [] ∧
        h' = wr3 (L ++ le (BitVec.ofNat 64 n) 4 ++ pagesN p n ((n + 255) / 256) ++ le 65535#64 2) c' (.cells m [.ints .u8 k f] sp)) := by
  refine fnX_does TB Try.func41 rfl (by decide) (fun O on hO => ?_)
  have hn64 : IntKind.u64.wrap ((n : Nat) : Int) = ((BitVec.ofNat 64 n).toNat : Int) := by
    rw [wrap_u64, BitVec.toNat_ofInt, BitVec.toNat_ofNat]
    omega
  refine args_eq (b := [.s (.ptr 0 0), .s (.int .u64 (BitVec.ofNat 64 n).toNat), .s (.int .i64 4)]) (by rw [← hn64]) ?_
  refine Does.at (number_spec L c (BitVec.ofNat 64 n) 4 (by omega) (by decide) hc) [0, 1] rfl ⟨rfl, rfl, trivial⟩ (by decide) ?_ ?_
  · rintro v h' ⟨c', _, _, rfl⟩
    exact ⟨.inl rfl, .inr (.inl rfl), .inl rfl, trivial⟩
  · rintro v h' ⟨c1, hc1, rfl, rfl⟩
    have hc1 : L.length + 4 ≤ c1 := hc1
    generalize hL0 : L ++ le (BitVec.ofNat 64 n) 4 = L0
    have hl0 : L0.length = L.length + 4 := by rw [← hL0, List.length_append, le_len]
    refine loop_in (A := Nat × Nat) on (fun i => [(4, .s (.int .i64 ((256 * i.1 : Nat) : Int))), (5, .junk)])
      (fun i => wr3 (L0 ++ pagesN p n i.1) i.2 (.cells m [.ints .u8 k f] sp))
      (fun i => i.1 ≤ (n + 255) / 256 ∧ (L0 ++ pagesN p n i.1).length ≤ i.2) (fun i => (n + 255) / 256 - i.1) (0, c1) ⟨Nat.zero_le _, by simp [pagesN, hl0]; exact hc1⟩ [0, 1, 2, 3] ?_ ?_
    · rw [hO]
      refine ⟨by decide, ⟨rfl, rfl, rfl, trivial⟩, ?_, ?_⟩
      · repeat' (first | exact eqvT_nil | refine eqvT_junk ?_ | refine eqvT_same ?_ | refine eqvT_int ?_ ?_)
      · refine ⟨⟨_, rfl, ⟨rfl, rfl, eqvS_gs ⟨rfl, rfl, ?_, rfl⟩ eqvS_nil⟩⟩, ⟨_, rfl, eqvB_refl _⟩, ⟨_, rfl, eqvB_refl _⟩, ⟨_, rfl, ⟨rfl, ?_, ⟨⟨rfl, ?_, ?_⟩, eqvS_nil⟩⟩⟩, trivial⟩ <;> simp [pagesN]
    · rintro ⟨i, cap⟩ ⟨hi, hcap⟩
      replace hi : i ≤ (n + 255) / 256 := hi
      replace hcap : (L0 ++ pagesN p n i).length ≤ cap := hcap
      have hpl := pagesN_len p n i
      have hll : (L0 ++ pagesN p n i).length = L.length + 4 + (pagesN p n i).length := by rw [List.length_append, hl0]
      refine ifB_intro (fun h1 => ?_) (fun h1 => ?_)
      · have h1 : 256 * i < n := by
          have h2 : ((256 * i : Nat) : Int) < (n : Int) := of_decide_eq_true h1
          omega
        have hsk : skip (min (256 * i + 256) n) (256 * i) 0 1 = 256 * i := by
          unfold skip
          rw [if_neg (by omega)]
          omega
        generalize hM : L0 ++ pagesN p n i = M at hll hcap
        refine Does.at (cut_spec m k n cr sp (256 * i) f hcr (by omega) (by omega)) [2] rfl ⟨rfl, trivial⟩ (by decide) ?_ ?_
        · rintro v h' ⟨_, rfl⟩
          exact ⟨.inr (.inr rfl), trivial⟩
        · rintro v h' ⟨rfl, rfl⟩
          rw [hsk]
          refine Does.at (blank_spec m k (256 * i) (min (256 * i + 256) n - 256 * i) (min (256 * i + 256) n - 256 * i) sp f (fun t => p (256 * i + t)) (by omega) (by omega) (fun t ht => hp _ (by omega))) [2] rfl ⟨rfl, trivial⟩ (by decide) ?_ ?_
          · rintro v h' ⟨_, rfl⟩
            exact ⟨.inr (.inr rfl), trivial⟩
          · rintro v h' ⟨rfl, rfl⟩
            refine ifB_intro (fun h2 => ?_) (fun h2 => ?_)
            · have h2 : blankN (fun t => p (256 * i + t)) (min (256 * i + 256) n - 256 * i) = false := by simpa using h2
              have hpg : pagesN p n (i + 1) = pagesN p n i ++ (le (BitVec.ofNat 64 i) 2 ++ pageAt p n i) := by simp [pagesN, h2]
              have hpa : (pageAt p n i).length = min (256 * i + 256) n - 256 * i := by simp [pageAt]
              refine need_intro (by decide) ?_
              have hq : IntKind.u64.wrap (IntKind.i64.wrap (((256 * i : Nat) : Int).tdiv 256)) = ((BitVec.ofNat 64 i).toNat : Int) := by
                have e : ((256 * i : Nat) : Int).tdiv 256 = (i : Int) := by
                  rw [Int.tdiv_eq_ediv_of_nonneg (by omega)]
                  omega
                rw [e, i64_in (by omega) (by omega), wrap_u64, BitVec.toNat_ofInt, BitVec.toNat_ofNat]
                omega
              refine args_eq (b := [.s (.ptr 0 0), .s (.int .u64 (BitVec.ofNat 64 i).toNat), .s (.int .i64 2)]) (by rw [← hq]) ?_
              refine Does.at (number_spec M cap (BitVec.ofNat 64 i) 2 (by omega) (by decide) hcap) [0, 3] rfl ⟨rfl, rfl, trivial⟩ (by decide) ?_ ?_
              · rintro v h' ⟨c', _, _, rfl⟩
                exact ⟨.inl rfl, .inr (.inl rfl), .inl rfl, trivial⟩
              · rintro v h' ⟨c2, hc2, rfl, rfl⟩
                have hm2 : (M ++ le (BitVec.ofNat 64 i) 2).length = M.length + 2 := by rw [List.length_append, le_len]
                have hfp : ∀ j, j < (pageAt p n i).length → f (256 * i + j) = bf (pageAt p n i) j := by
                  intro j hj
                  rw [hpa] at hj
                  rw [hp _ (by omega)]
                  simp [bf, pageAt, List.getD_eq_getElem?_getD, List.getElem?_range hj]
                refine args_eq (b := [.s (.ptr 0 0), .s (.gs 2 (256 * i) (pageAt p n i).length (min (256 * i + 256) n - 256 * i))]) (by rw [hpa]; rfl) ?_
                refine Does.at (bytes_spec (M ++ le (BitVec.ofNat 64 i) 2) c2 m (pageAt p n i) k (256 * i) (min (256 * i + 256) n - 256 * i) sp f hfp (by omega) (by omega) (by omega) (by omega)) [0, 4, 2] rfl ⟨rfl, rfl, rfl, trivial⟩ (by decide) ?_ ?_
                · rintro v h' ⟨c', _, _, rfl⟩
                  exact ⟨.inl rfl, .inr (.inl rfl), .inr (.inr rfl), .inl rfl, trivial⟩
                · rintro v h' ⟨c3, hc3, rfl, rfl⟩
                  have e : M ++ le (BitVec.ofNat 64 i) 2 ++ pageAt p n i = L0 ++ pagesN p n (i + 1) := by rw [hpg, ← hM]; simp
                  refine ⟨(i + 1, c3), ⟨?_, ?_⟩, ?_, [0, 1, 2, 5], ?_⟩
                  · show i + 1 ≤ _; omega
                  · show (L0 ++ pagesN p n (i + 1)).length ≤ c3
                    rw [← e, List.length_append]; exact hc3
                  · show (n + 255) / 256 - (i + 1) < (n + 255) / 256 - i; omega
                  · rw [hO]
                    refine ⟨by decide, ⟨rfl, rfl, rfl, trivial⟩, ?_, ?_⟩
                    · repeat' (first | exact eqvT_nil | refine eqvT_junk ?_ | refine eqvT_same ?_ | refine eqvT_int ?_ ?_)
                      rw [i64_in (by omega) (by omega)]; show _ = ((256 * (i + 1) : Nat) : Int); omega
                    · refine ⟨⟨_, rfl, ⟨rfl, rfl, eqvS_gs ⟨rfl, rfl, ?_, rfl⟩ eqvS_nil⟩⟩, ⟨_, rfl, eqvB_refl _⟩, ⟨_, rfl, eqvB_refl _⟩, ⟨_, rfl, ⟨rfl, ?_, ⟨⟨rfl, ?_, ?_⟩, eqvS_nil⟩⟩⟩, trivial⟩
                      · exact congrArg List.length e
                      · exact congrArg (fun z : List B8 => c3 - z.length) e
                      · exact congrArg List.length e
                      · intro j _
                        exact congrArg (fun z : List B8 => bf z j) e
            · have h2 : blankN (fun t => p (256 * i + t)) (min (256 * i + 256) n - 256 * i) = true := by simpa using h2
              have hpg : pagesN p n (i + 1) = pagesN p n i := by simp [pagesN, h2]
              refine ⟨(i + 1, cap), ⟨?_, ?_⟩, ?_, [0, 1, 2, 3], ?_⟩
              · show i + 1 ≤ _; omega
              · show (L0 ++ pagesN p n (i + 1)).length ≤ cap
                rw [hpg, hM]; exact hcap
              · show (n + 255) / 256 - (i + 1) < (n + 255) / 256 - i; omega
              · rw [hO]
                refine ⟨by decide, ⟨rfl, rfl, rfl, trivial⟩, ?_, ?_⟩
                · repeat' (first | exact eqvT_nil | refine eqvT_junk ?_ | refine eqvT_same ?_ | refine eqvT_int ?_ ?_)
                  rw [i64_in (by omega) (by omega)]; show _ = ((256 * (i + 1) : Nat) : Int); omega
                · have e : M = L0 ++ pagesN p n (i + 1) := by rw [hpg, hM]
                  refine ⟨⟨_, rfl, ⟨rfl, rfl, eqvS_gs ⟨rfl, rfl, ?_, rfl⟩ eqvS_nil⟩⟩, ⟨_, rfl, eqvB_refl _⟩, ⟨_, rfl, eqvB_refl _⟩, ⟨_, rfl, ⟨rfl, ?_, ⟨⟨rfl, ?_, ?_⟩, eqvS_nil⟩⟩⟩, trivial⟩
                  · exact congrArg List.length e
                  · exact congrArg (fun z : List B8 => cap - z.length) e
                  · exact congrArg List.length e
                  · intro j _
                    exact congrArg (fun z : List B8 => bf z j) e
      · have h1 : ¬ 256 * i < n := by
          have h2 : ¬ ((256 * i : Nat) : Int) < (n : Int) := of_decide_eq_false h1
          omega
        have hin : i = (n + 255) / 256 := by omega
        generalize hM : L0 ++ pagesN p n i = M at hll hcap
        refine Does.at (number_spec M cap 65535#64 2 (by omega) (by decide) hcap) [0, 3] rfl ⟨rfl, rfl, trivial⟩ (by decide) ?_ ?_
        · rintro v h' ⟨c', _, _, rfl⟩
          exact ⟨.inl rfl, .inr (.inl rfl), .inl rfl, trivial⟩
        · rintro v h' ⟨c2, hc2, rfl, rfl⟩
          have hm2 : (M ++ le 65535#64 2).length = M.length + 2 := by rw [List.length_append, le_len]
          subst hin
          rw [hM]
          refine ⟨_, _, [0, 1, 2, 4], ⟨c2, by rw [hm2]; exact hc2, rfl, rfl⟩, by decide, ⟨rfl, rfl, rfl, trivial⟩, trivial, ⟨_, rfl, eqvB_refl _⟩, ⟨_, rfl, eqvB_refl _⟩, ⟨_, rfl, eqvB_refl _⟩, ⟨_, rfl, eqvB_refl _⟩, trivial⟩
end Go.Proofs.Ytghcdkpgcanpgaa
