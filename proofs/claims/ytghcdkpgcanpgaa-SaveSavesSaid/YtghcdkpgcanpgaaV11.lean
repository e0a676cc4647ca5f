/- The reference's ram in a snapshot. Contract of a function. -/
import Derived.Test.YtghcdkpgcanpgaaV10
namespace Go.Proofs.Ytghcdkpgcanpgaa
open Go Go.Anv
def rb (L : List B8) (c : Nat) (B : Blk) : List Blk := [.dead, B, .cells true [.ints .u8 L.length (bf L)] (c - L.length)]
set_option maxRecDepth 100000 in
theorem rram_spec (L : List B8) (c : Nat) (m : Bool) (n k cr sp : Nat) (f : Nat → Int) (p : Nat → B8) (hp : ∀ j, j < n → f j = (p j).toNat) (hk : n ≤ k) (hcr : n ≤ cr)
    (hL : L.length ≤ 2 ^ 40) (hn : n ≤ 2 ^ 40) (hc : L.length ≤ c) :
    Does TB 48 [.s (.gs 0 0 L.length c), .s (.gs 1 0 n cr)] (nbH L c 0 ++ [.cells m [.ints .u8 k f] sp])
      (fun r h' => ∃ c', (L ++ le (BitVec.ofNat 64 n) 4 ++ pagesN p n ((n + 255) / 256) ++ le 65535#64 2).length ≤ c' ∧
        r = .s (.gs 2 0 (L ++ le (BitVec.ofNat 64 n) 4 ++ pagesN p n ((n + 255) / 256) ++ le 65535#64 2).length c') ∧
        h' = rb (L ++ le (BitVec.ofNat 64 n) 4 ++ pagesN p n ((n + 255) / 256) ++ le 65535#64 2) c' (.cells m [.ints .u8 k f] sp)) := by
  refine fnX_does TB Try.func48 rfl (by decide) (fun O on hO => ?_)
  have hn64 : IntKind.u64.wrap ((n : Nat) : Int) = ((BitVec.ofNat 64 n).toNat : Int) := by
    rw [wrap_u64, BitVec.toNat_ofInt, BitVec.toNat_ofNat]
    omega
  refine args_eq (b := [.s (.gs 0 0 L.length c), .s (.int .u64 (BitVec.ofNat 64 n).toNat), .s (.int .i64 4)]) (by rw [← hn64]) ?_
  refine Does.at (num_spec L c (BitVec.ofNat 64 n) 4 (by omega) (by decide) hc) [0] rfl ⟨rfl, trivial⟩ (by decide) ?_ ?_
  · rintro v h' ⟨c', _, _, rfl⟩
    exact ⟨.inr (.inl rfl), .inl rfl, trivial⟩
  · rintro v h' ⟨c1, hc1, rfl, rfl⟩
    have hc1 : L.length + 4 ≤ c1 := hc1
    generalize hL0 : L ++ le (BitVec.ofNat 64 n) 4 = L0
    have hl0 : L0.length = L.length + 4 := by rw [← hL0, List.length_append, le_len]
    refine (rpages_spec n (by omega) _).mono ?_
    rintro v h' ⟨rfl, rfl⟩
    refine loop_in (A := Nat × Nat) on (fun i => [(0, .s (.gs 2 0 (L0 ++ pagesN p n i.1).length i.2)), (6, .s (.int .i64 (i.1 : Int))), (7, .junk), (8, .junk), (13, .junk)])
      (fun i => rb (L0 ++ pagesN p n i.1) i.2 (.cells m [.ints .u8 k f] sp))
      (fun i => i.1 ≤ (n + 255) / 256 ∧ (L0 ++ pagesN p n i.1).length ≤ i.2) (fun i => (n + 255) / 256 - i.1) (0, c1) ⟨Nat.zero_le _, by simp [pagesN, hl0]; exact hc1⟩ [0, 1, 2] ?_ ?_
    · rw [hO]
      refine ⟨by decide, ⟨rfl, rfl, trivial⟩, ?_, ?_⟩
      · repeat' (first | exact eqvT_nil | refine eqvT_junk ?_ | refine eqvT_same ?_ | refine eqvT_int ?_ ?_ | refine eqvT_gs ⟨rfl, rfl, ?_, rfl⟩ ?_)
        all_goals simp [pagesN]
      · refine ⟨⟨_, rfl, eqvB_refl _⟩, ⟨_, rfl, eqvB_refl _⟩, ⟨_, rfl, ⟨rfl, ?_, ⟨⟨rfl, ?_, ?_⟩, eqvS_nil⟩⟩⟩, trivial⟩ <;> simp [pagesN]
    · rintro ⟨i, cap⟩ ⟨hi, hcap⟩
      replace hi : i ≤ (n + 255) / 256 := hi
      replace hcap : (L0 ++ pagesN p n i).length ≤ cap := hcap
      have hpl := pagesN_len p n i
      have hll : (L0 ++ pagesN p n i).length = L.length + 4 + (pagesN p n i).length := by rw [List.length_append, hl0]
      refine ifB_intro (fun h1 => ?_) (fun h1 => ?_)
      · have h1 : i < (n + 255) / 256 := by
          have h2 : (i : Int) < (((n + 255) / 256 : Nat) : Int) := of_decide_eq_true h1
          omega
        generalize hM : L0 ++ pagesN p n i = M at hll hcap
        refine Does.at (rpage_spec m k n cr sp i f hcr (by omega) (by omega)) [1] rfl ⟨rfl, trivial⟩ (by decide) ?_ ?_
        · rintro v h' ⟨_, rfl⟩
          exact ⟨.inr (.inr rfl), trivial⟩
        · rintro v h' ⟨rfl, rfl⟩
          have hsk : skip cr (256 * i) 0 1 = 256 * i := by
            unfold skip
            rw [if_neg (by omega)]
            omega
          rw [hsk]
          refine Does.at (rblank_spec m k (256 * i) (min (256 * i + 256) n - 256 * i) (cr - 256 * i) sp f (fun t => p (256 * i + t)) (by omega) (by omega) (fun t ht => hp _ (by omega))) [1] rfl ⟨rfl, trivial⟩ (by decide) ?_ ?_
          · rintro v h' ⟨_, rfl⟩
            exact ⟨.inr (.inr rfl), trivial⟩
          · rintro v h' ⟨rfl, rfl⟩
            refine ifB_intro (fun h2 => ?_) (fun h2 => ?_)
            · have h2 : blankN (fun t => p (256 * i + t)) (min (256 * i + 256) n - 256 * i) = false := by simpa using h2
              have hpg : pagesN p n (i + 1) = pagesN p n i ++ (le (BitVec.ofNat 64 i) 2 ++ pageAt p n i) := by simp [pagesN, h2]
              have hpa : (pageAt p n i).length = min (256 * i + 256) n - 256 * i := by simp [pageAt]
              have hq : IntKind.u64.wrap ((i : Nat) : Int) = ((BitVec.ofNat 64 i).toNat : Int) := by
                rw [wrap_u64, BitVec.toNat_ofInt, BitVec.toNat_ofNat]
                omega
              refine args_eq (b := [.s (.gs 2 0 M.length cap), .s (.int .u64 (BitVec.ofNat 64 i).toNat), .s (.int .i64 2)]) (by rw [← hq]) ?_
              refine Does.at (num_spec M cap (BitVec.ofNat 64 i) 2 (by omega) (by decide) hcap) [2] rfl ⟨rfl, trivial⟩ (by decide) ?_ ?_
              · rintro v h' ⟨c', _, _, rfl⟩
                exact ⟨.inr (.inl rfl), .inl rfl, trivial⟩
              · rintro v h' ⟨c2, hc2, rfl, rfl⟩
                have hm2 : (M ++ le (BitVec.ofNat 64 i) 2).length = M.length + 2 := by rw [List.length_append, le_len]
                have hc2 : M.length + 2 ≤ c2 := hc2
                generalize hN : M ++ le (BitVec.ofNat 64 i) 2 = N at hm2
                have hfp : ∀ j, j < min (256 * i + 256) n - 256 * i → shf (256 * i) f j = bf (pageAt p n i) j := by
                  intro j hj
                  show f (256 * i + j) = _
                  rw [hp _ (by omega)]
                  simp [bf, pageAt, List.getD_eq_getElem?_getD, List.getElem?_range hj]
                refine need_intro ⟨by show 256 * i + (min (256 * i + 256) n - 256 * i) ≤ k; omega, by show N.length + 0 = N.length * 1; omega, by show c2 * 1 = N.length * 1 + (c2 - N.length); omega, room5 _ (by show N.length + (min (256 * i + 256) n - 256 * i) ≤ _; omega)⟩ ?_
                intro c3 hc3
                have hc3 : N.length + (min (256 * i + 256) n - 256 * i) ≤ c3 := hc3
                have e : N ++ pageAt p n i = L0 ++ pagesN p n (i + 1) := by rw [hpg, ← hN, ← hM]; simp
                have el : N.length + (min (256 * i + 256) n - 256 * i) = (L0 ++ pagesN p n (i + 1)).length := by rw [← e, List.length_append, hpa]
                refine ⟨(i + 1, c3), ⟨?_, ?_⟩, ?_, [0, 1, 4], ?_⟩
                · show i + 1 ≤ _; omega
                · show (L0 ++ pagesN p n (i + 1)).length ≤ c3
                  omega
                · show (n + 255) / 256 - (i + 1) < (n + 255) / 256 - i; omega
                · rw [hO]
                  refine ⟨by decide, ⟨rfl, rfl, trivial⟩, ?_, ?_⟩
                  · repeat' (first | exact eqvT_nil | refine eqvT_junk ?_ | refine eqvT_same ?_ | refine eqvT_int ?_ ?_ | refine eqvT_gs ⟨rfl, rfl, ?_, rfl⟩ ?_)
                    · exact el
                    · rw [i64_in (by omega) (by omega)]; rfl
                  · refine ⟨⟨_, rfl, eqvB_refl _⟩, ⟨_, rfl, eqvB_refl _⟩, ⟨_, rfl, ⟨rfl, ?_, ⟨⟨rfl, ?_, ?_⟩, eqvS_nil⟩⟩⟩, trivial⟩
                    · show (c3 - (N.length + (min (256 * i + 256) n - 256 * i))) * 1 = c3 - (L0 ++ pagesN p n (i + 1)).length
                      omega
                    · exact el
                    · show ∀ j, j < _ → _ = bf (L0 ++ pagesN p n (i + 1)) j
                      rw [← e]
                      exact bf_append N (pageAt p n i) (n := N.length) (m := min (256 * i + 256) n - 256 * i) rfl hpa.symm (fun _ _ => rfl) hfp
            · have h2 : blankN (fun t => p (256 * i + t)) (min (256 * i + 256) n - 256 * i) = true := by simpa using h2
              have hpg : pagesN p n (i + 1) = pagesN p n i := by simp [pagesN, h2]
              have e : M = L0 ++ pagesN p n (i + 1) := by rw [hpg, hM]
              refine ⟨(i + 1, cap), ⟨?_, ?_⟩, ?_, [0, 1, 2], ?_⟩
              · show i + 1 ≤ _; omega
              · show (L0 ++ pagesN p n (i + 1)).length ≤ cap
                rw [← e]; exact hcap
              · show (n + 255) / 256 - (i + 1) < (n + 255) / 256 - i; omega
              · rw [hO]
                refine ⟨by decide, ⟨rfl, rfl, trivial⟩, ?_, ?_⟩
                · repeat' (first | exact eqvT_nil | refine eqvT_junk ?_ | refine eqvT_same ?_ | refine eqvT_int ?_ ?_ | refine eqvT_gs ⟨rfl, rfl, ?_, rfl⟩ ?_)
                  · exact congrArg List.length e
                  · rw [i64_in (by omega) (by omega)]; rfl
                · refine ⟨⟨_, rfl, eqvB_refl _⟩, ⟨_, rfl, eqvB_refl _⟩, ⟨_, rfl, ⟨rfl, ?_, ⟨⟨rfl, ?_, ?_⟩, eqvS_nil⟩⟩⟩, trivial⟩
                  · exact congrArg (fun z : List B8 => cap - z.length) e
                  · exact congrArg List.length e
                  · intro j _
                    exact congrArg (fun z : List B8 => bf z j) e
      · have hin : i = (n + 255) / 256 := by
          have h2 : ¬ (i : Int) < (((n + 255) / 256 : Nat) : Int) := of_decide_eq_false h1
          omega
        generalize hM : L0 ++ pagesN p n i = M at hll hcap
        refine Does.at (num_spec M cap 65535#64 2 (by omega) (by decide) hcap) [2] rfl ⟨rfl, trivial⟩ (by decide) ?_ ?_
        · rintro v h' ⟨c', _, _, rfl⟩
          exact ⟨.inr (.inl rfl), .inl rfl, trivial⟩
        · rintro v h' ⟨c2, hc2, rfl, rfl⟩
          have hm2 : (M ++ le 65535#64 2).length = M.length + 2 := by rw [List.length_append, le_len]
          subst hin
          rw [hM]
          exact ⟨.s (.gs 2 0 (M ++ le 65535#64 2).length c2), rb (M ++ le 65535#64 2) c2 (.cells m [.ints .u8 k f] sp), [0, 1, 3], ⟨c2, by rw [hm2]; exact hc2, rfl, rfl⟩, by decide, ⟨rfl, rfl, trivial⟩, ⟨rfl, rfl, rfl, rfl⟩, ⟨_, rfl, eqvB_refl _⟩, ⟨_, rfl, eqvB_refl _⟩, ⟨_, rfl, eqvB_refl _⟩, trivial⟩
end Go.Proofs.Ytghcdkpgcanpgaa
