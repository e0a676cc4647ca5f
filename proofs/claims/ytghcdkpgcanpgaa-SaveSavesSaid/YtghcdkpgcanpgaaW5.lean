/- The reference's Cpu and devices in a snapshot. Contracts of functions. No condition. -/
import Derived.Test.YtghcdkpgcanpgaaW4
namespace Go.Anv
open Go
/-- The twelve registers. -/
def csrs (cp : CpuV) : List B64 := [cp.mstatus, cp.mtvec, cp.mie, cp.mcounteren, cp.mcountinhibit, cp.menvcfg, cp.mscratch, cp.mepc, cp.mcause, cp.mtval, cp.mcycle, cp.minstret]
theorem csrs_get (cp : CpuV) {i : Nat} (h : i < 12) : litF ((csrs cp).map fun v => (v.toNat : Int)) i = (((csrs cp).getD i 0#64).toNat : Int) := by
  match i, h with
  | 0, _ => rfl
  | 1, _ => rfl
  | 2, _ => rfl
  | 3, _ => rfl
  | 4, _ => rfl
  | 5, _ => rfl
  | 6, _ => rfl
  | 7, _ => rfl
  | 8, _ => rfl
  | 9, _ => rfl
  | 10, _ => rfl
  | 11, _ => rfl
end Go.Anv
namespace Go.Proofs.Ytghcdkpgcanpgaa
open Go Go.Anv
set_option maxRecDepth 100000 in
set_option maxHeartbeats 4000000 in
theorem rcpu_spec (cp : CpuV) (L0 : List B8) (c0 : Nat) (b0 : L0.length ≤ 1024) (k0 : L0.length ≤ c0) :
    Does TB 46 [.s (.gs 0 0 L0.length c0), .agg cp.segs] [lb L0 c0] (fun r h' => ∃ c', (cpuOn cp L0).length ≤ c' ∧ (cpuOn cp L0).length ≤ 2048 ∧ r = .s (.gs 1 0 (cpuOn cp L0).length c') ∧ h' = [.dead, lb (cpuOn cp L0) c']) := by
  refine fnX_does TB Try.func46 rfl (by decide) (fun O on hO => ?_)
  refine num_k 0 (L := L0) (cp.pc) 8 (rfl) (by decide) (by omega) k0 rfl rfl ?_
  intro L1 c1 e1 l1 k1
  have b1 : L1.length ≤ 1032 := by omega
  clear l1 b0 k0
  refine loop_in (A := Nat × Nat) on (fun i => [(0, .s (.gs 2 0 (manyN (fun i => le (cp.x i) 8) L1 i.1).length i.2)), (5, .s (.int .i64 (i.1 : Int))), (10, .junk), (11, .junk), (12, .junk), (13, .junk)]) (fun i => [.dead, .cells true cp.segs 0, lb (manyN (fun i => le (cp.x i) 8) L1 i.1) i.2]) (fun i => i.1 ≤ 32 ∧ (manyN (fun i => le (cp.x i) 8) L1 i.1).length ≤ i.2) (fun i => 32 - i.1) (0, c1) ⟨Nat.zero_le _, k1⟩ [0, 1, 2] ?_ ?_
  · rw [hO]
    refine ⟨by decide, ⟨rfl, trivial⟩, ?_, ?_⟩
    · repeat' (first | exact eqvT_nil | refine eqvT_junk ?_ | refine eqvT_same ?_ | refine eqvT_int ?_ ?_)
    · exact ⟨⟨_, rfl, eqvB_refl _⟩, ⟨_, rfl, eqvB_refl _⟩, ⟨_, rfl, eqvB_refl _⟩, trivial⟩
  rintro ⟨i, cap⟩ ⟨hi1, k2⟩
  replace hi1 : i ≤ 32 := hi1
  replace k2 : (manyN (fun i => le (cp.x i) 8) L1 i).length ≤ cap := k2
  have hm1 : (manyN (fun i => le (cp.x i) 8) L1 i).length = L1.length + 8 * i := manyN_len (fun i => le_len _ _) i
  refine ifB_intro (fun h1 => ?_) (fun h1 => ?_)
  · have hlt : i < 32 := by have h2 := of_decide_eq_true h1; omega
    have hx : (manyN (fun i => le (cp.x i) 8) L1 i ++ le (cp.x i) 8) = manyN (fun i => le (cp.x i) 8) L1 (i + 1) := rfl
    generalize manyN (fun i => le (cp.x i) 8) L1 i = L2 at *
    generalize cap = c2 at *
    have b2 : L2.length ≤ 1288 := by omega
    refine need_intro ⟨by omega, by omega⟩ ?_
    refine need_intro (by omega) ?_
    refine num_k 2 (L := L2) (cp.x i) 8 (rfl) (by decide) (by omega) k2 rfl rfl ?_
    intro L3 c3 e3 l3 k3
    have b3 : L3.length ≤ 1296 := by omega
    clear l3 b2 k2
    refine ⟨(i + 1, c3), ⟨?_, ?_⟩, ?_, [0, 1, 3], ?_⟩
    · show i + 1 ≤ 32; omega
    · show (manyN (fun i => le (cp.x i) 8) L1 (i + 1)).length ≤ c3; rw [← hx, ← e3]; exact k3
    · show 32 - (i + 1) < 32 - i; omega
    · rw [hx] at e3
      subst e3
      rw [hO]
      refine ⟨by decide, ⟨rfl, trivial⟩, ?_, ?_⟩
      · repeat' (first | exact eqvT_nil | refine eqvT_junk ?_ | refine eqvT_same ?_ | refine eqvT_int ?_ ?_)
        all_goals (rw [i64_in (by omega) (by omega)]; rfl)
      · exact ⟨⟨_, rfl, eqvB_refl _⟩, ⟨_, rfl, eqvB_refl _⟩, ⟨_, rfl, eqvB_refl _⟩, trivial⟩
  have h1 : i = 32 := by have h2 := of_decide_eq_false h1; omega
  subst h1
  generalize e2 : manyN (fun i => le (cp.x i) 8) L1 32 = L2 at *
  have b2 : L2.length ≤ 1288 := by omega
  generalize hcap2 : cap = c2 at *
  refine num_k 2 (L := L2) (BitVec.ofInt 64 cp.mode) 1 (wrap_u64 _) (by decide) (by omega) k2 rfl rfl ?_
  intro L3 c3 e3 l3 k3
  have b3 : L3.length ≤ 1289 := by omega
  clear l3 b2 k2
  refine flag_k 3 (L := L3) (cp.waiting) (by omega) k3 rfl rfl ?_
  intro L4 c4 e4 l4 k4
  have b4 : L4.length ≤ 1290 := by omega
  clear l4 b3 k3
  refine loop_in (A := Nat × Nat) on (fun i => [(0, .s (.gs 3 0 (manyN (fun i => le ((csrs cp).getD i 0#64) 8) L4 i.1).length i.2)), (6, .s (.slice 2 0 12 12)), (7, .s (.int .i64 (i.1 : Int))), (10, .junk), (11, .junk), (12, .junk), (13, .junk), (14, .junk), (15, .junk), (16, .junk), (17, .junk), (18, .junk), (19, .junk), (20, .junk), (21, .junk), (22, .junk), (23, .junk), (24, .junk), (25, .junk), (26, .junk), (27, .junk), (28, .junk), (29, .junk), (30, .junk), (31, .junk), (32, .junk), (33, .junk), (34, .junk), (35, .junk), (36, .junk), (37, .junk), (38, .junk), (39, .junk), (40, .junk), (41, .junk), (42, .junk), (43, .junk), (44, .junk), (45, .junk), (46, .junk), (47, .junk), (48, .junk), (49, .junk), (50, .junk), (51, .junk), (52, .junk), (53, .junk), (54, .junk), (55, .junk), (56, .junk), (57, .junk)]) (fun i => [.dead, .cells true cp.segs 0, .cells true [.ints .u64 12 (litF ((csrs cp).map fun v => (v.toNat : Int)))] 0, lb (manyN (fun i => le ((csrs cp).getD i 0#64) 8) L4 i.1) i.2]) (fun i => i.1 ≤ 12 ∧ (manyN (fun i => le ((csrs cp).getD i 0#64) 8) L4 i.1).length ≤ i.2) (fun i => 12 - i.1) (0, c4) ⟨Nat.zero_le _, k4⟩ [0, 1, 5, 4] ?_ ?_
  · rw [hO]
    refine ⟨by decide, ⟨rfl, trivial⟩, ?_, ?_⟩
    · repeat' (first | exact eqvT_nil | refine eqvT_junk ?_ | refine eqvT_same ?_ | refine eqvT_int ?_ ?_)
    · exact ⟨⟨_, rfl, eqvB_refl _⟩, ⟨_, rfl, eqvB_refl _⟩, ⟨_, rfl, eqvB_refl _⟩, ⟨_, rfl, eqvB_refl _⟩, trivial⟩
  rintro ⟨i, cap⟩ ⟨hi4, k5⟩
  replace hi4 : i ≤ 12 := hi4
  replace k5 : (manyN (fun i => le ((csrs cp).getD i 0#64) 8) L4 i).length ≤ cap := k5
  have hm4 : (manyN (fun i => le ((csrs cp).getD i 0#64) 8) L4 i).length = L4.length + 8 * i := manyN_len (fun i => le_len _ _) i
  refine ifB_intro (fun h1 => ?_) (fun h1 => ?_)
  · have hlt : i < 12 := by have h2 := of_decide_eq_true h1; omega
    have hx : (manyN (fun i => le ((csrs cp).getD i 0#64) 8) L4 i ++ le ((csrs cp).getD i 0#64) 8) = manyN (fun i => le ((csrs cp).getD i 0#64) 8) L4 (i + 1) := rfl
    generalize manyN (fun i => le ((csrs cp).getD i 0#64) 8) L4 i = L5 at *
    generalize cap = c5 at *
    have b5 : L5.length ≤ 1386 := by omega
    refine need_intro ⟨by omega, by show ((i : Nat) : Int) < 12; omega⟩ ?_
    refine need_intro (by show 0 + (i : Int).toNat < 12; omega) ?_
    refine num_k 3 (L := L5) ((csrs cp).getD i 0#64) 8 (by show litF ((csrs cp).map fun v => (v.toNat : Int)) (0 + (i : Int).toNat) = _; rw [Nat.zero_add]; exact csrs_get cp hlt) (by decide) (by omega) k5 rfl rfl ?_
    intro L6 c6 e6 l6 k6
    have b6 : L6.length ≤ 1394 := by omega
    clear l6 b5 k5
    refine ⟨(i + 1, c6), ⟨?_, ?_⟩, ?_, [0, 1, 2, 4], ?_⟩
    · show i + 1 ≤ 12; omega
    · show (manyN (fun i => le ((csrs cp).getD i 0#64) 8) L4 (i + 1)).length ≤ c6; rw [← hx, ← e6]; exact k6
    · show 12 - (i + 1) < 12 - i; omega
    · rw [hx] at e6
      subst e6
      rw [hO]
      refine ⟨by decide, ⟨rfl, trivial⟩, ?_, ?_⟩
      · repeat' (first | exact eqvT_nil | refine eqvT_junk ?_ | refine eqvT_same ?_ | refine eqvT_int ?_ ?_)
        all_goals (rw [i64_in (by omega) (by omega)]; rfl)
      · exact ⟨⟨_, rfl, eqvB_refl _⟩, ⟨_, rfl, eqvB_refl _⟩, ⟨_, rfl, eqvB_refl _⟩, ⟨_, rfl, eqvB_refl _⟩, trivial⟩
  have h1 : i = 12 := by have h2 := of_decide_eq_false h1; omega
  subst h1
  generalize e5 : manyN (fun i => le ((csrs cp).getD i 0#64) 8) L4 12 = L5 at *
  have b5 : L5.length ≤ 1386 := by omega
  generalize hcap5 : cap = c5 at *
  refine loop_in (A := Nat × Nat) on (fun i => [(0, .s (.gs 2 0 (manyN (fun i => le ((cp.cfg i).setWidth 64) 1) L5 i.1).length i.2)), (6, .junk), (8, .s (.int .i64 (i.1 : Int))), (10, .junk), (11, .junk), (12, .junk), (13, .junk), (14, .junk), (15, .junk), (16, .junk), (17, .junk), (18, .junk), (19, .junk), (20, .junk), (21, .junk), (22, .junk), (23, .junk), (24, .junk), (25, .junk), (26, .junk), (27, .junk), (28, .junk), (29, .junk), (30, .junk), (31, .junk), (32, .junk), (33, .junk), (34, .junk), (35, .junk), (36, .junk), (37, .junk), (38, .junk), (39, .junk), (40, .junk), (41, .junk), (42, .junk), (43, .junk), (44, .junk), (45, .junk), (46, .junk), (47, .junk), (48, .junk), (49, .junk), (50, .junk), (51, .junk), (52, .junk), (53, .junk), (54, .junk), (55, .junk), (56, .junk), (57, .junk), (58, .junk), (59, .junk), (60, .junk), (61, .junk), (62, .junk), (63, .junk), (64, .junk), (65, .junk), (66, .junk), (67, .junk), (68, .junk), (69, .junk)]) (fun i => [.dead, .cells true cp.segs 0, lb (manyN (fun i => le ((cp.cfg i).setWidth 64) 1) L5 i.1) i.2]) (fun i => i.1 ≤ 16 ∧ (manyN (fun i => le ((cp.cfg i).setWidth 64) 1) L5 i.1).length ≤ i.2) (fun i => 16 - i.1) (0, c5) ⟨Nat.zero_le _, k5⟩ [0, 1, 3] ?_ ?_
  · rw [hO]
    refine ⟨by decide, ⟨rfl, trivial⟩, ?_, ?_⟩
    · repeat' (first | exact eqvT_nil | refine eqvT_junk ?_ | refine eqvT_same ?_ | refine eqvT_int ?_ ?_)
    · exact ⟨⟨_, rfl, eqvB_refl _⟩, ⟨_, rfl, eqvB_refl _⟩, ⟨_, rfl, eqvB_refl _⟩, trivial⟩
  rintro ⟨i, cap⟩ ⟨hi5, k6⟩
  replace hi5 : i ≤ 16 := hi5
  replace k6 : (manyN (fun i => le ((cp.cfg i).setWidth 64) 1) L5 i).length ≤ cap := k6
  have hm5 : (manyN (fun i => le ((cp.cfg i).setWidth 64) 1) L5 i).length = L5.length + 1 * i := manyN_len (fun i => le_len _ _) i
  refine ifB_intro (fun h1 => ?_) (fun h1 => ?_)
  · have hlt : i < 16 := by have h2 := of_decide_eq_true h1; omega
    have hx : (manyN (fun i => le ((cp.cfg i).setWidth 64) 1) L5 i ++ le ((cp.cfg i).setWidth 64) 1) = manyN (fun i => le ((cp.cfg i).setWidth 64) 1) L5 (i + 1) := rfl
    generalize manyN (fun i => le ((cp.cfg i).setWidth 64) 1) L5 i = L6 at *
    generalize cap = c6 at *
    have b6 : L6.length ≤ 1402 := by omega
    refine need_intro ⟨by omega, by omega⟩ ?_
    refine need_intro (by omega) ?_
    refine need_intro ⟨by show 0 + 1 ≤ 1; omega, by show L6.length + 0 = L6.length * 1; omega, by show c6 * 1 = L6.length * 1 + (c6 - L6.length); omega, room5 _ (by show L6.length + 1 ≤ _; omega)⟩ ?_
    intro c7 kk
    replace kk : L6.length + 1 ≤ c7 := kk
    obtain ⟨L7, e7⟩ : ∃ L, L = L6 ++ le ((cp.cfg i).setWidth 64) 1 := ⟨_, rfl⟩
    have l7 : L7.length = L6.length + 1 := by rw [e7, List.length_append, le_len]
    have k7 : L7.length ≤ c7 := by omega
    refine ⟨(i + 1, c7), ⟨?_, ?_⟩, ?_, [0, 1, 4], ?_⟩
    · show i + 1 ≤ 16; omega
    · show (manyN (fun i => le ((cp.cfg i).setWidth 64) 1) L5 (i + 1)).length ≤ c7; rw [← hx, ← e7]; exact k7
    · show 16 - (i + 1) < 16 - i; omega
    · rw [hx] at e7
      rw [hO]
      refine ⟨by decide, ⟨rfl, trivial⟩, ?_, ?_⟩
      · repeat' (first | exact eqvT_nil | refine eqvT_junk ?_ | refine eqvT_same ?_ | refine eqvT_int ?_ ?_ | refine eqvT_gs ⟨rfl, rfl, ?_, rfl⟩ ?_)
        · show L6.length + 1 = (manyN _ L5 (i + 1)).length
          rw [← e7]; omega
        · rw [i64_in (by omega) (by omega)]; rfl
      · refine ⟨⟨_, rfl, eqvB_refl _⟩, ⟨_, rfl, eqvB_refl _⟩, ⟨_, rfl, ?_⟩, trivial⟩
        show eqvB _ (lb (manyN (fun i => le ((cp.cfg i).setWidth 64) 1) L5 (i + 1)) c7)
        rw [← hx]
        refine lb_eqv L6 _ c7 (n := L6.length) (m := 1) rfl (le_len _ _).symm ?_ (fun _ _ => rfl) ?_
        · show (c7 - (L6.length + 1)) * 1 = _; rw [le_len]; omega
        · rw [le_one]; exact bf_one rfl
  have h1 : i = 16 := by have h2 := of_decide_eq_false h1; omega
  subst h1
  generalize e6 : manyN (fun i => le ((cp.cfg i).setWidth 64) 1) L5 16 = L6 at *
  have b6 : L6.length ≤ 1402 := by omega
  generalize hcap6 : cap = c6 at *
  refine loop_in (A := Nat × Nat) on (fun i => [(0, .s (.gs 2 0 (manyN (fun i => le (cp.addr i) 8) L6 i.1).length i.2)), (9, .s (.int .i64 (i.1 : Int))), (10, .junk), (11, .junk), (12, .junk), (13, .junk), (14, .junk), (15, .junk), (16, .junk), (17, .junk), (18, .junk), (19, .junk), (20, .junk), (21, .junk), (22, .junk), (23, .junk), (24, .junk), (25, .junk), (26, .junk), (27, .junk), (28, .junk), (29, .junk), (30, .junk), (31, .junk), (32, .junk), (33, .junk), (34, .junk), (35, .junk), (36, .junk), (37, .junk), (38, .junk), (39, .junk), (40, .junk), (41, .junk), (42, .junk), (43, .junk), (44, .junk), (45, .junk), (46, .junk), (47, .junk), (48, .junk), (49, .junk), (50, .junk), (51, .junk), (52, .junk), (53, .junk), (54, .junk), (55, .junk), (56, .junk), (57, .junk), (58, .junk), (59, .junk), (60, .junk), (61, .junk), (62, .junk), (63, .junk), (64, .junk), (65, .junk), (66, .junk), (67, .junk), (68, .junk), (69, .junk), (70, .junk), (71, .junk), (72, .junk), (73, .junk), (74, .junk), (75, .junk), (76, .junk), (77, .junk), (78, .junk), (79, .junk), (80, .junk), (81, .junk)]) (fun i => [.dead, .cells true cp.segs 0, lb (manyN (fun i => le (cp.addr i) 8) L6 i.1) i.2]) (fun i => i.1 ≤ 16 ∧ (manyN (fun i => le (cp.addr i) 8) L6 i.1).length ≤ i.2) (fun i => 16 - i.1) (0, c6) ⟨Nat.zero_le _, k6⟩ [0, 1, 2] ?_ ?_
  · rw [hO]
    refine ⟨by decide, ⟨rfl, trivial⟩, ?_, ?_⟩
    · repeat' (first | exact eqvT_nil | refine eqvT_junk ?_ | refine eqvT_same ?_ | refine eqvT_int ?_ ?_)
    · exact ⟨⟨_, rfl, eqvB_refl _⟩, ⟨_, rfl, eqvB_refl _⟩, ⟨_, rfl, eqvB_refl _⟩, trivial⟩
  rintro ⟨i, cap⟩ ⟨hi6, k7⟩
  replace hi6 : i ≤ 16 := hi6
  replace k7 : (manyN (fun i => le (cp.addr i) 8) L6 i).length ≤ cap := k7
  have hm6 : (manyN (fun i => le (cp.addr i) 8) L6 i).length = L6.length + 8 * i := manyN_len (fun i => le_len _ _) i
  refine ifB_intro (fun h1 => ?_) (fun h1 => ?_)
  · have hlt : i < 16 := by have h2 := of_decide_eq_true h1; omega
    have hx : (manyN (fun i => le (cp.addr i) 8) L6 i ++ le (cp.addr i) 8) = manyN (fun i => le (cp.addr i) 8) L6 (i + 1) := rfl
    generalize manyN (fun i => le (cp.addr i) 8) L6 i = L7 at *
    generalize cap = c7 at *
    have b7 : L7.length ≤ 1530 := by omega
    refine need_intro ⟨by omega, by omega⟩ ?_
    refine need_intro (by omega) ?_
    refine num_k 2 (L := L7) (cp.addr i) 8 (rfl) (by decide) (by omega) k7 rfl rfl ?_
    intro L8 c8 e8 l8 k8
    have b8 : L8.length ≤ 1538 := by omega
    clear l8 b7 k7
    refine ⟨(i + 1, c8), ⟨?_, ?_⟩, ?_, [0, 1, 3], ?_⟩
    · show i + 1 ≤ 16; omega
    · show (manyN (fun i => le (cp.addr i) 8) L6 (i + 1)).length ≤ c8; rw [← hx, ← e8]; exact k8
    · show 16 - (i + 1) < 16 - i; omega
    · rw [hx] at e8
      subst e8
      rw [hO]
      refine ⟨by decide, ⟨rfl, trivial⟩, ?_, ?_⟩
      · repeat' (first | exact eqvT_nil | refine eqvT_junk ?_ | refine eqvT_same ?_ | refine eqvT_int ?_ ?_)
        all_goals (rw [i64_in (by omega) (by omega)]; rfl)
      · exact ⟨⟨_, rfl, eqvB_refl _⟩, ⟨_, rfl, eqvB_refl _⟩, ⟨_, rfl, eqvB_refl _⟩, trivial⟩
  have h1 : i = 16 := by have h2 := of_decide_eq_false h1; omega
  subst h1
  generalize e7 : manyN (fun i => le (cp.addr i) 8) L6 16 = L7 at *
  have b7 : L7.length ≤ 1530 := by omega
  generalize hcap7 : cap = c7 at *
  refine flag_k 2 (L := L7) (cp.rvalid) (by omega) k7 rfl rfl ?_
  intro L8 c8 e8 l8 k8
  have b8 : L8.length ≤ 1531 := by omega
  clear l8 b7 k7
  refine num_k 3 (L := L8) (cp.raddr) 8 (rfl) (by decide) (by omega) k8 rfl rfl ?_
  intro L9 c9 e9 l9 k9
  have b9 : L9.length ≤ 1539 := by omega
  clear l9 b8 k8
  refine num_k 4 (L := L9) (BitVec.ofInt 64 cp.rsize) 1 (wrap_u64 _) (by decide) (by omega) k9 rfl rfl ?_
  intro L10 c10 e10 l10 k10
  have b10 : L10.length ≤ 1540 := by omega
  clear l10 b9 k9
  have ef : L10 = cpuOn cp L0 := by
    subst e10 e9 e8 e7 e6 e5 e4 e3 e2 e1
    rfl
  rw [← ef]
  exact ⟨.s (.gs 1 0 L10.length c10), [.dead, lb L10 c10], [0, 5], ⟨c10, k10, by omega, rfl, rfl⟩, by decide, ⟨rfl, trivial⟩, ⟨rfl, rfl, rfl, rfl⟩, ⟨⟨_, rfl, eqvB_refl _⟩, ⟨_, rfl, eqvB_refl _⟩, trivial⟩⟩
set_option maxRecDepth 100000 in
set_option maxHeartbeats 4000000 in
theorem rdev_spec (s : BusV) (m1 m2 m3 : Bool) (ram inp out : Nat → B8) (cr ci co s1 s2 s3 : Nat) (L0 : List B8) (c0 : Nat) (b0 : L0.length ≤ 8192) (k0 : L0.length ≤ c0) (hi : s.ni ≤ 64) (ho : s.no ≤ 4096) (hei : ends inp s.ni) (heo : ends out s.no) :
    Does TB 47 [.s (.gs 0 0 L0.length c0), .agg (s.segs (.gs 3 0 s.nr cr) (.gs 1 0 s.ni ci) (.gs 2 0 s.no co))] [lb L0 c0, bblk m1 s.ni inp s1, bblk m2 s.no out s2, bblk m3 s.nr ram s3]
    (fun r h' => ∃ c', (devOn s inp out L0).length ≤ c' ∧ (devOn s inp out L0).length ≤ 16384 ∧ r = .s (.gs 4 0 (devOn s inp out L0).length c') ∧ h' = [.dead, bblk m1 s.ni inp s1, bblk m2 s.no out s2, bblk m3 s.nr ram s3, lb (devOn s inp out L0) c']) := by
  refine fnX_does TB Try.func47 rfl (by decide) (fun O on hO => ?_)
  refine num_k 0 (L := L0) (s.msip.setWidth 64) 4 (wide32 _) (by decide) (by omega) k0 rfl rfl ?_
  intro L1 c1 e1 l1 k1
  have b1 : L1.length ≤ 8196 := by omega
  clear l1 b0 k0
  refine num_k 5 (L := L1) (s.cmp) 8 (rfl) (by decide) (by omega) k1 rfl rfl ?_
  intro L2 c2 e2 l2 k2
  have b2 : L2.length ≤ 8204 := by omega
  clear l2 b1 k1
  refine num_k 6 (L := L2) (s.now) 8 (rfl) (by decide) (by omega) k2 rfl rfl ?_
  intro L3 c3 e3 l3 k3
  have b3 : L3.length ≤ 8212 := by omega
  clear l3 b2 k2
  refine flag_k 7 (L := L3) (s.ext) (by omega) k3 rfl rfl ?_
  intro L4 c4 e4 l4 k4
  have b4 : L4.length ≤ 8213 := by omega
  clear l4 b3 k3
  refine flag_k 8 (L := L4) (s.soft) (by omega) k4 rfl rfl ?_
  intro L5 c5 e5 l5 k5
  have b5 : L5.length ≤ 8214 := by omega
  clear l5 b4 k4
  refine need_intro ⟨by show 0 + 4 ≤ 4; omega, by show L5.length + 0 = L5.length * 1; omega, by show c5 * 1 = L5.length * 1 + (c5 - L5.length); omega, room5 _ (by show L5.length + 4 ≤ _; omega)⟩ ?_
  intro c6 kk
  replace kk : L5.length + 4 ≤ c6 := kk
  obtain ⟨L6, e6⟩ : ∃ L, L = L5 ++ [s.ier, s.lcr, s.mcr, s.scratch] := ⟨_, rfl⟩
  have l6 : L6.length = L5.length + 4 := by rw [e6, List.length_append]; exact congrArg (L5.length + ·) ((rfl : [s.ier, s.lcr, s.mcr, s.scratch].length = 4))
  have k6 : L6.length ≤ c6 := by omega
  have b6 : L6.length ≤ 8218 := by omega
  refine flag_k 11 (L := L6) (s.overrun) (by omega) k6 l6.symm (by rw [e6]; exact congrArg some (lb_mk L5 ([s.ier, s.lcr, s.mcr, s.scratch]) c6 (n := L5.length) (m := 4) rfl ((rfl : [s.ier, s.lcr, s.mcr, s.scratch].length = 4)).symm (by have y : ([s.ier, s.lcr, s.mcr, s.scratch]).length = 4 := (rfl : [s.ier, s.lcr, s.mcr, s.scratch].length = 4); show (c6 - (L5.length + 4)) * 1 = _; omega) rfl (bf_lit [s.ier, s.lcr, s.mcr, s.scratch]))) ?_
  intro L7 c7 e7 l7 k7
  have b7 : L7.length ≤ 8219 := by omega
  clear l7 b6 k6
  refine num_k 12 (L := L7) (BitVec.ofInt 64 s.off) 1 (wrap_u64 _) (by decide) (by omega) k7 rfl rfl ?_
  intro L8 c8 e8 l8 k8
  have b8 : L8.length ≤ 8220 := by omega
  clear l8 b7 k7
  refine num_k 13 (L := L8) (BitVec.ofInt 64 s.code) 4 (wrap_u64 _) (by decide) (by omega) k8 rfl rfl ?_
  intro L9 c9 e9 l9 k9
  have b9 : L9.length ≤ 8224 := by omega
  clear l9 b8 k8
  refine num_k 14 (L := L9) (BitVec.ofNat 64 s.ni) 1 (nat64 (by omega)) (by decide) (by omega) k9 rfl rfl ?_
  intro L10 c10 e10 l10 k10
  have b10 : L10.length ≤ 8225 := by omega
  clear l10 b9 k9
  refine need_intro ⟨by show 0 + s.ni ≤ s.ni; omega, by show L10.length + 0 = L10.length * 1; omega, by show c10 * 1 = L10.length * 1 + (c10 - L10.length); omega, room5 _ (by show L10.length + s.ni ≤ _; omega)⟩ ?_
  intro c11 kk
  replace kk : L10.length + s.ni ≤ c11 := kk
  obtain ⟨L11, e11⟩ : ∃ L, L = L10 ++ lst inp s.ni := ⟨_, rfl⟩
  have l11 : L11.length = L10.length + s.ni := by rw [e11, List.length_append]; exact congrArg (L10.length + ·) (lst_len inp s.ni)
  have k11 : L11.length ≤ c11 := by omega
  have b11 : L11.length ≤ 8289 := by omega
  refine num_k 16 (L := L11) (BitVec.ofNat 64 s.no) 2 (nat64 (by omega)) (by decide) (by omega) k11 l11.symm (by rw [e11]; exact congrArg some (lb_mk L10 (lst inp s.ni) c11 (n := L10.length) (m := s.ni) rfl (lst_len inp s.ni).symm (by have y : (lst inp s.ni).length = s.ni := lst_len inp s.ni; show (c11 - (L10.length + s.ni)) * 1 = _; omega) rfl ((funext fun j => by show bfun inp (0 + j) = _; rw [Nat.zero_add, bf_ends hei])))) ?_
  intro L12 c12 e12 l12 k12
  have b12 : L12.length ≤ 8291 := by omega
  clear l12 b11 k11
  refine need_intro ⟨by show 0 + s.no ≤ s.no; omega, by show L12.length + 0 = L12.length * 1; omega, by show c12 * 1 = L12.length * 1 + (c12 - L12.length); omega, room5 _ (by show L12.length + s.no ≤ _; omega)⟩ ?_
  intro c13 kk
  replace kk : L12.length + s.no ≤ c13 := kk
  obtain ⟨L13, e13⟩ : ∃ L, L = L12 ++ lst out s.no := ⟨_, rfl⟩
  have l13 : L13.length = L12.length + s.no := by rw [e13, List.length_append]; exact congrArg (L12.length + ·) (lst_len out s.no)
  have k13 : L13.length ≤ c13 := by omega
  have b13 : L13.length ≤ 12387 := by omega
  have ef : L13 = devOn s inp out L0 := by
    subst e13 e12 e11 e10 e9 e8 e7 e6 e5 e4 e3 e2 e1
    simp only [devOn, le_one, List.append_assoc, List.cons_append, List.nil_append]
  rw [← ef]
  refine ⟨.s (.gs 4 0 L13.length c13), [.dead, bblk m1 s.ni inp s1, bblk m2 s.no out s2, bblk m3 s.nr ram s3, lb L13 c13], [0, 1, 2, 3, 18], ⟨c13, k13, by omega, rfl, rfl⟩, by decide, ⟨rfl, rfl, rfl, rfl, trivial⟩, ⟨rfl, rfl, l13.symm, rfl⟩, ⟨_, rfl, eqvB_refl _⟩, ⟨_, rfl, eqvB_refl _⟩, ⟨_, rfl, eqvB_refl _⟩, ⟨_, rfl, eqvB_refl _⟩, ⟨_, rfl, ?_⟩, trivial⟩
  rw [e13]
  refine lb_eqv L12 (lst out s.no) c13 (n := L12.length) (m := s.no) rfl (lst_len _ _).symm ?_ (fun _ _ => rfl) ?_
  · show (c13 - (L12.length + s.no)) * 1 = _; rw [lst_len]; omega
  · intro j hj; show bfun out (0 + j) = _; rw [Nat.zero_add]; exact bf_lst out s.no j hj
end Go.Proofs.Ytghcdkpgcanpgaa
