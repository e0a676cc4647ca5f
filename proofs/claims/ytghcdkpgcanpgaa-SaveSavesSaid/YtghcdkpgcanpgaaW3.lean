/- The writer goes through all that stands ahead of the RAM. Contract of a function. No condition. -/
import Derived.Test.YtghcdkpgcanpgaaW2
namespace Go.Anv
open Go
def manyN (g : Nat → List B8) (L : List B8) : Nat → List B8
  | 0 => L
  | n + 1 => manyN g L n ++ g n
theorem manyN_len {g : Nat → List B8} {L : List B8} {w : Nat} (hg : ∀ i, (g i).length = w) : ∀ n, (manyN g L n).length = L.length + w * n
  | 0 => rfl
  | n + 1 => by
    simp only [manyN, List.length_append, hg, manyN_len hg n, Nat.mul_add, Nat.mul_one]; omega
/-- The bytes of a Cpu behind others. -/
def cpuOn (cp : CpuV) (L : List B8) : List B8 :=
  manyN (fun i => le (cp.addr i) 8) (manyN (fun i => le ((cp.cfg i).setWidth 64) 1) (manyN (fun i => le (cp.x i) 8) (L ++ le cp.pc 8) 32 ++ le (BitVec.ofInt 64 cp.mode) 1 ++ bb cp.waiting ++
    le cp.mstatus 8 ++ le cp.mtvec 8 ++ le cp.mie 8 ++ le cp.mcounteren 8 ++ le cp.mcountinhibit 8 ++ le cp.menvcfg 8 ++ le cp.mscratch 8 ++ le cp.mepc 8 ++ le cp.mcause 8 ++ le cp.mtval 8 ++ le cp.mcycle 8 ++ le cp.minstret 8) 16) 16 ++
    bb cp.rvalid ++ le cp.raddr 8 ++ le (BitVec.ofInt 64 cp.rsize) 1
/-- The bytes of a bus's devices behind others. -/
def devOn (s : BusV) (inp out : Nat → B8) (L : List B8) : List B8 :=
  L ++ le (s.msip.setWidth 64) 4 ++ le s.cmp 8 ++ le s.now 8 ++ bb s.ext ++ bb s.soft ++ le (s.ier.setWidth 64) 1 ++ le (s.lcr.setWidth 64) 1 ++ le (s.mcr.setWidth 64) 1 ++ le (s.scratch.setWidth 64) 1 ++
    bb s.overrun ++ le (BitVec.ofInt 64 s.off) 1 ++ le (BitVec.ofInt 64 s.code) 4 ++ le (BitVec.ofNat 64 s.ni) 1 ++ lst inp s.ni ++ le (BitVec.ofNat 64 s.no) 2 ++ lst out s.no
end Go.Anv
namespace Go.Proofs.Ytghcdkpgcanpgaa
open Go Go.Anv
/-- The whole's cells as 'both' has them; the heap at a loop's head. -/
def wseg (cp : CpuV) (s : BusV) (cr ci co : Nat) : List Seg := wsegs cp s (.gs 5 0 s.nr cr) (.gs 3 0 s.ni ci) (.gs 4 0 s.no co)
def hd (s : BusV) (cp : CpuV) (m0 m1 m2 m3 : Bool) (ram inp out : Nat → B8) (cr ci co s0 s1 s2 s3 : Nat) (L : List B8) (c : Nat) : List Blk :=
  [wb 6 L c, .cells m0 (wseg cp s cr ci co) s0, .dead, bblk m1 s.ni inp s1, bblk m2 s.no out s2, bblk m3 s.nr ram s3, lb L c]
set_option maxRecDepth 100000 in
set_option maxHeartbeats 4000000 in
theorem both_spec (s : BusV) (cp : CpuV) (m0 m1 m2 m3 : Bool) (ram inp out : Nat → B8) (cr ci co s0 s1 s2 s3 : Nat) (L0 : List B8) (c0 : Nat) (b0 : L0.length ≤ 1024) (k0 : L0.length ≤ c0) (hi : s.ni ≤ 64) (ho : s.no ≤ 4096) :
    Does TB 40 [.s (.iface 75 false [.ptr 0 0]), .s (.ptr 1 0)] [wb 2 L0 c0, .cells m0 (wseg cp s cr ci co) s0, lb L0 c0, bblk m1 s.ni inp s1, bblk m2 s.no out s2, bblk m3 s.nr ram s3]
    (fun r h' => ∃ c', (devOn s inp out (cpuOn cp L0)).length ≤ c' ∧ (devOn s inp out (cpuOn cp L0)).length ≤ 16384 ∧ r = .tuple [] ∧ h' = hd s cp m0 m1 m2 m3 ram inp out cr ci co s0 s1 s2 s3 (devOn s inp out (cpuOn cp L0)) c') := by
  refine fnX_does TB Try.func40 rfl (by decide) (fun O on hO => ?_)
  refine draw_but [0, 2] on rfl (fun _ _ h => h) ?_
  refine one_k (le (cp.pc) 8) [] 0 2 1 0 (double_spec m0 (cp.pc)) (fun _ => rfl) (by omega) k0 rfl rfl (by decide) rfl ⟨rfl, rfl⟩ (cell_one rfl rfl) ?_
  intro L1 c1 e1 l1 k1
  have b1 : L1.length ≤ 1032 := by rw [l1]; rw [le_len]; omega
  clear l1 b0 k0
  repeat (refine need_intro rfl ?_)
  refine loop_in (A := Nat × Nat) on (fun i => [(24, .s (.int .i64 (i.1 : Int))), (5, .junk)]) (fun i => hd s cp m0 m1 m2 m3 ram inp out cr ci co s0 s1 s2 s3 (manyN (fun i => le (cp.x i) 8) L1 i.1) i.2) (fun i => i.1 ≤ 32 ∧ (manyN (fun i => le (cp.x i) 8) L1 i.1).length ≤ i.2) (fun i => 32 - i.1) (0, c1) ⟨Nat.zero_le _, k1⟩ [0, 1, 2, 3, 4, 5, 7] ?_ ?_
  · rw [hO]
    refine ⟨by decide, ⟨rfl, rfl, rfl, rfl, rfl, rfl, trivial⟩, ?_, ?_⟩
    · repeat' (first | exact eqvT_nil | refine eqvT_junk ?_ | refine eqvT_same ?_ | refine eqvT_int ?_ ?_)
    · exact ⟨⟨_, rfl, eqvB_refl _⟩, ⟨_, rfl, eqvB_refl _⟩, ⟨_, rfl, eqvB_refl _⟩, ⟨_, rfl, eqvB_refl _⟩, ⟨_, rfl, eqvB_refl _⟩, ⟨_, rfl, eqvB_refl _⟩, ⟨_, rfl, eqvB_refl _⟩, trivial⟩
  rintro ⟨i, cap⟩ ⟨hi1, k2⟩
  replace hi1 : i ≤ 32 := hi1
  replace k2 : (manyN (fun i => le (cp.x i) 8) L1 i).length ≤ cap := k2
  have hm1 : (manyN (fun i => le (cp.x i) 8) L1 i).length = L1.length + 8 * i := manyN_len (fun i => le_len _ _) i
  refine ifB_intro (fun h1 => ?_) (fun h1 => ?_)
  · have h1 : i < 32 := by have h2 := of_decide_eq_true h1; omega
    have hx : (manyN (fun i => le (cp.x i) 8) L1 i ++ le (cp.x i) 8) = manyN (fun i => le (cp.x i) 8) L1 (i + 1) := rfl
    generalize manyN (fun i => le (cp.x i) 8) L1 i = L2 at *
    have b2 : L2.length ≤ 1288 := by omega
    refine draw_but [0, 6] on rfl (fun _ _ h => h) ?_
    refine need_intro ⟨by omega, by omega⟩ ?_
    refine one_k (le (cp.x i) 8) [] 0 6 1 (1 + i) (double_spec m0 (cp.x i)) (fun _ => rfl) (by omega) k2 rfl rfl (by decide) rfl ⟨rfl, rfl⟩ (cell_ints (cs := wseg cp s cr ci co) (o := 1) (j := i) (k := .u64) (n := 32) (f := wfun cp.x) rfl h1) ?_
    intro L3 c3 e3 l3 k3
    have b3 : L3.length ≤ 1296 := by rw [l3]; rw [le_len]; omega
    clear l3 b2 k2
    repeat (refine need_intro rfl ?_)
    refine ⟨(i + 1, c3), ⟨?_, ?_⟩, ?_, [0, 1, 2, 3, 4, 5, 8], ?_⟩
    · show i + 1 ≤ 32; omega
    · show (manyN (fun i => le (cp.x i) 8) L1 (i + 1)).length ≤ c3; rw [← hx, ← e3]; exact k3
    · show 32 - (i + 1) < 32 - i; omega
    · rw [hO]
      refine ⟨by decide, ⟨rfl, rfl, rfl, rfl, rfl, rfl, trivial⟩, ?_, ?_⟩
      · repeat' (first | exact eqvT_nil | refine eqvT_junk ?_ | refine eqvT_same ?_ | refine eqvT_int ?_ ?_)
        all_goals (rw [i64_in (by omega) (by omega)]; rfl)
      · rw [hx] at e3
        subst e3
        exact ⟨⟨_, rfl, eqvB_refl _⟩, ⟨_, rfl, eqvB_refl _⟩, ⟨_, rfl, eqvB_refl _⟩, ⟨_, rfl, eqvB_refl _⟩, ⟨_, rfl, eqvB_refl _⟩, ⟨_, rfl, eqvB_refl _⟩, ⟨_, rfl, eqvB_refl _⟩, trivial⟩
  have h1 : i = 32 := by have h2 := of_decide_eq_false h1; omega
  subst h1
  generalize e2 : manyN (fun i => le (cp.x i) 8) L1 32 = L2 at *
  have b2 : L2.length ≤ 1288 := by omega
  generalize hcap2 : cap = c2 at *
  refine draw_but [0, 6] on rfl (fun _ _ h => h) ?_
  refine one_k (le (BitVec.ofInt 64 cp.mode) 1) [(1 : Int)] 0 6 1 33 (place_spec m0 cp.mode 1 (by decide)) (fun _ => rfl) (by omega) k2 rfl rfl (by decide) rfl ⟨rfl, rfl⟩ (cell_one rfl rfl) ?_
  intro L3 c3 e3 l3 k3
  have b3 : L3.length ≤ 1289 := by rw [l3]; rw [le_len]; omega
  clear l3 b2 k2
  repeat (refine need_intro rfl ?_)
  refine draw_but [0, 8] on rfl (fun _ _ h => h) ?_
  refine one_k (bb cp.waiting) [] 0 8 1 34 (wflag_spec m0 cp.waiting) (fun _ => rfl) (by omega) k3 rfl rfl (by decide) rfl ⟨rfl, rfl⟩ (cell_one rfl rfl) ?_
  intro L4 c4 e4 l4 k4
  have b4 : L4.length ≤ 1290 := by rw [l4]; show _ + 1 ≤ _; omega
  clear l4 b3 k3
  repeat (refine need_intro rfl ?_)
  refine draw_held on rfl (fun _ _ h => h) ?_
  repeat (refine need_intro rfl ?_)
  refine loop_times on 13 ?_
  refine Box.mk ?_
  refine need_intro (by decide) ?_
  refine one_k (le (cp.mstatus) 8) [] 0 10 1 35 (double_spec m0 (cp.mstatus)) (fun _ => rfl) (by omega) k4 rfl rfl (by decide) rfl ⟨rfl, rfl⟩ (cell_one rfl rfl) ?_
  intro L5 c5 e5 l5 k5
  have b5 : L5.length ≤ 1298 := by rw [l5]; rw [le_len]; omega
  clear l5 b4 k4
  refine Box.mk ?_
  refine need_intro (by decide) ?_
  refine one_k (le (cp.mtvec) 8) [] 0 13 1 36 (double_spec m0 (cp.mtvec)) (fun _ => rfl) (by omega) k5 rfl rfl (by decide) rfl ⟨rfl, rfl⟩ (cell_one rfl rfl) ?_
  intro L6 c6 e6 l6 k6
  have b6 : L6.length ≤ 1306 := by rw [l6]; rw [le_len]; omega
  clear l6 b5 k5
  refine Box.mk ?_
  refine need_intro (by decide) ?_
  refine one_k (le (cp.mie) 8) [] 0 15 1 37 (double_spec m0 (cp.mie)) (fun _ => rfl) (by omega) k6 rfl rfl (by decide) rfl ⟨rfl, rfl⟩ (cell_one rfl rfl) ?_
  intro L7 c7 e7 l7 k7
  have b7 : L7.length ≤ 1314 := by rw [l7]; rw [le_len]; omega
  clear l7 b6 k6
  refine Box.mk ?_
  refine need_intro (by decide) ?_
  refine one_k (le (cp.mcounteren) 8) [] 0 17 1 38 (double_spec m0 (cp.mcounteren)) (fun _ => rfl) (by omega) k7 rfl rfl (by decide) rfl ⟨rfl, rfl⟩ (cell_one rfl rfl) ?_
  intro L8 c8 e8 l8 k8
  have b8 : L8.length ≤ 1322 := by rw [l8]; rw [le_len]; omega
  clear l8 b7 k7
  refine Box.mk ?_
  refine need_intro (by decide) ?_
  refine one_k (le (cp.mcountinhibit) 8) [] 0 19 1 39 (double_spec m0 (cp.mcountinhibit)) (fun _ => rfl) (by omega) k8 rfl rfl (by decide) rfl ⟨rfl, rfl⟩ (cell_one rfl rfl) ?_
  intro L9 c9 e9 l9 k9
  have b9 : L9.length ≤ 1330 := by rw [l9]; rw [le_len]; omega
  clear l9 b8 k8
  refine Box.mk ?_
  refine need_intro (by decide) ?_
  refine one_k (le (cp.menvcfg) 8) [] 0 21 1 40 (double_spec m0 (cp.menvcfg)) (fun _ => rfl) (by omega) k9 rfl rfl (by decide) rfl ⟨rfl, rfl⟩ (cell_one rfl rfl) ?_
  intro L10 c10 e10 l10 k10
  have b10 : L10.length ≤ 1338 := by rw [l10]; rw [le_len]; omega
  clear l10 b9 k9
  refine Box.mk ?_
  refine need_intro (by decide) ?_
  refine one_k (le (cp.mscratch) 8) [] 0 23 1 41 (double_spec m0 (cp.mscratch)) (fun _ => rfl) (by omega) k10 rfl rfl (by decide) rfl ⟨rfl, rfl⟩ (cell_one rfl rfl) ?_
  intro L11 c11 e11 l11 k11
  have b11 : L11.length ≤ 1346 := by rw [l11]; rw [le_len]; omega
  clear l11 b10 k10
  refine Box.mk ?_
  refine need_intro (by decide) ?_
  refine one_k (le (cp.mepc) 8) [] 0 25 1 42 (double_spec m0 (cp.mepc)) (fun _ => rfl) (by omega) k11 rfl rfl (by decide) rfl ⟨rfl, rfl⟩ (cell_one rfl rfl) ?_
  intro L12 c12 e12 l12 k12
  have b12 : L12.length ≤ 1354 := by rw [l12]; rw [le_len]; omega
  clear l12 b11 k11
  refine Box.mk ?_
  refine need_intro (by decide) ?_
  refine one_k (le (cp.mcause) 8) [] 0 27 1 43 (double_spec m0 (cp.mcause)) (fun _ => rfl) (by omega) k12 rfl rfl (by decide) rfl ⟨rfl, rfl⟩ (cell_one rfl rfl) ?_
  intro L13 c13 e13 l13 k13
  have b13 : L13.length ≤ 1362 := by rw [l13]; rw [le_len]; omega
  clear l13 b12 k12
  refine Box.mk ?_
  refine need_intro (by decide) ?_
  refine one_k (le (cp.mtval) 8) [] 0 29 1 44 (double_spec m0 (cp.mtval)) (fun _ => rfl) (by omega) k13 rfl rfl (by decide) rfl ⟨rfl, rfl⟩ (cell_one rfl rfl) ?_
  intro L14 c14 e14 l14 k14
  have b14 : L14.length ≤ 1370 := by rw [l14]; rw [le_len]; omega
  clear l14 b13 k13
  refine Box.mk ?_
  refine need_intro (by decide) ?_
  refine one_k (le (cp.mcycle) 8) [] 0 31 1 45 (double_spec m0 (cp.mcycle)) (fun _ => rfl) (by omega) k14 rfl rfl (by decide) rfl ⟨rfl, rfl⟩ (cell_one rfl rfl) ?_
  intro L15 c15 e15 l15 k15
  have b15 : L15.length ≤ 1378 := by rw [l15]; rw [le_len]; omega
  clear l15 b14 k14
  refine Box.mk ?_
  refine need_intro (by decide) ?_
  refine one_k (le (cp.minstret) 8) [] 0 33 1 46 (double_spec m0 (cp.minstret)) (fun _ => rfl) (by omega) k15 rfl rfl (by decide) rfl ⟨rfl, rfl⟩ (cell_one rfl rfl) ?_
  intro L16 c16 e16 l16 k16
  have b16 : L16.length ≤ 1386 := by rw [l16]; rw [le_len]; omega
  clear l16 b15 k15
  refine Box.mk ?_
  refine loop_in (A := Nat × Nat) on (fun i => [(100, .s (.int .i64 (i.1 : Int))), (8, .junk), (90, .junk), (94, .junk)]) (fun i => hd s cp m0 m1 m2 m3 ram inp out cr ci co s0 s1 s2 s3 (manyN (fun i => le ((cp.cfg i).setWidth 64) 1) L16 i.1) i.2) (fun i => i.1 ≤ 16 ∧ (manyN (fun i => le ((cp.cfg i).setWidth 64) 1) L16 i.1).length ≤ i.2) (fun i => 16 - i.1) (0, c16) ⟨Nat.zero_le _, k16⟩ [0, 1, 2, 3, 4, 5, 35] ?_ ?_
  · rw [hO]
    refine ⟨by decide, ⟨rfl, rfl, rfl, rfl, rfl, rfl, trivial⟩, ?_, ?_⟩
    · repeat' (first | exact eqvT_nil | refine eqvT_junk ?_ | refine eqvT_same ?_ | refine eqvT_int ?_ ?_)
    · exact ⟨⟨_, rfl, eqvB_refl _⟩, ⟨_, rfl, eqvB_refl _⟩, ⟨_, rfl, eqvB_refl _⟩, ⟨_, rfl, eqvB_refl _⟩, ⟨_, rfl, eqvB_refl _⟩, ⟨_, rfl, eqvB_refl _⟩, ⟨_, rfl, eqvB_refl _⟩, trivial⟩
  rintro ⟨i, cap⟩ ⟨hi16, k17⟩
  replace hi16 : i ≤ 16 := hi16
  replace k17 : (manyN (fun i => le ((cp.cfg i).setWidth 64) 1) L16 i).length ≤ cap := k17
  have hm16 : (manyN (fun i => le ((cp.cfg i).setWidth 64) 1) L16 i).length = L16.length + 1 * i := manyN_len (fun i => le_len _ _) i
  refine ifB_intro (fun h1 => ?_) (fun h1 => ?_)
  · have h1 : i < 16 := by have h2 := of_decide_eq_true h1; omega
    have hx : (manyN (fun i => le ((cp.cfg i).setWidth 64) 1) L16 i ++ le ((cp.cfg i).setWidth 64) 1) = manyN (fun i => le ((cp.cfg i).setWidth 64) 1) L16 (i + 1) := rfl
    generalize manyN (fun i => le ((cp.cfg i).setWidth 64) 1) L16 i = L17 at *
    have b17 : L17.length ≤ 1402 := by omega
    refine draw_but [0, 6] on rfl (fun _ _ h => h) ?_
    refine need_intro ⟨by omega, by omega⟩ ?_
    refine one_k (le ((cp.cfg i).setWidth 64) 1) [] 0 6 1 (47 + i) (octet_spec m0 (cp.cfg i)) (fun _ => rfl) (by omega) k17 rfl rfl (by decide) rfl ⟨rfl, rfl⟩ (cell_ints (cs := wseg cp s cr ci co) (o := 47) (j := i) (k := .u8) (n := 16) (f := bfun cp.cfg) rfl h1) ?_
    intro L18 c18 e18 l18 k18
    have b18 : L18.length ≤ 1403 := by rw [l18]; rw [le_len]; omega
    clear l18 b17 k17
    repeat (refine need_intro rfl ?_)
    refine ⟨(i + 1, c18), ⟨?_, ?_⟩, ?_, [0, 1, 2, 3, 4, 5, 8], ?_⟩
    · show i + 1 ≤ 16; omega
    · show (manyN (fun i => le ((cp.cfg i).setWidth 64) 1) L16 (i + 1)).length ≤ c18; rw [← hx, ← e18]; exact k18
    · show 16 - (i + 1) < 16 - i; omega
    · rw [hO]
      refine ⟨by decide, ⟨rfl, rfl, rfl, rfl, rfl, rfl, trivial⟩, ?_, ?_⟩
      · repeat' (first | exact eqvT_nil | refine eqvT_junk ?_ | refine eqvT_same ?_ | refine eqvT_int ?_ ?_)
        all_goals (rw [i64_in (by omega) (by omega)]; rfl)
      · rw [hx] at e18
        subst e18
        exact ⟨⟨_, rfl, eqvB_refl _⟩, ⟨_, rfl, eqvB_refl _⟩, ⟨_, rfl, eqvB_refl _⟩, ⟨_, rfl, eqvB_refl _⟩, ⟨_, rfl, eqvB_refl _⟩, ⟨_, rfl, eqvB_refl _⟩, ⟨_, rfl, eqvB_refl _⟩, trivial⟩
  have h1 : i = 16 := by have h2 := of_decide_eq_false h1; omega
  subst h1
  generalize e17 : manyN (fun i => le ((cp.cfg i).setWidth 64) 1) L16 16 = L17 at *
  have b17 : L17.length ≤ 1402 := by omega
  generalize hcap17 : cap = c17 at *
  refine loop_in (A := Nat × Nat) on (fun i => [(115, .s (.int .i64 (i.1 : Int))), (9, .junk)]) (fun i => hd s cp m0 m1 m2 m3 ram inp out cr ci co s0 s1 s2 s3 (manyN (fun i => le (cp.addr i) 8) L17 i.1) i.2) (fun i => i.1 ≤ 16 ∧ (manyN (fun i => le (cp.addr i) 8) L17 i.1).length ≤ i.2) (fun i => 16 - i.1) (0, c17) ⟨Nat.zero_le _, k17⟩ [0, 1, 2, 3, 4, 5, 6] ?_ ?_
  · rw [hO]
    refine ⟨by decide, ⟨rfl, rfl, rfl, rfl, rfl, rfl, trivial⟩, ?_, ?_⟩
    · repeat' (first | exact eqvT_nil | refine eqvT_junk ?_ | refine eqvT_same ?_ | refine eqvT_int ?_ ?_)
    · exact ⟨⟨_, rfl, eqvB_refl _⟩, ⟨_, rfl, eqvB_refl _⟩, ⟨_, rfl, eqvB_refl _⟩, ⟨_, rfl, eqvB_refl _⟩, ⟨_, rfl, eqvB_refl _⟩, ⟨_, rfl, eqvB_refl _⟩, ⟨_, rfl, eqvB_refl _⟩, trivial⟩
  rintro ⟨i, cap⟩ ⟨hi17, k18⟩
  replace hi17 : i ≤ 16 := hi17
  replace k18 : (manyN (fun i => le (cp.addr i) 8) L17 i).length ≤ cap := k18
  have hm17 : (manyN (fun i => le (cp.addr i) 8) L17 i).length = L17.length + 8 * i := manyN_len (fun i => le_len _ _) i
  refine ifB_intro (fun h1 => ?_) (fun h1 => ?_)
  · have h1 : i < 16 := by have h2 := of_decide_eq_true h1; omega
    have hx : (manyN (fun i => le (cp.addr i) 8) L17 i ++ le (cp.addr i) 8) = manyN (fun i => le (cp.addr i) 8) L17 (i + 1) := rfl
    generalize manyN (fun i => le (cp.addr i) 8) L17 i = L18 at *
    have b18 : L18.length ≤ 1530 := by omega
    refine draw_but [0, 6] on rfl (fun _ _ h => h) ?_
    refine need_intro ⟨by omega, by omega⟩ ?_
    refine one_k (le (cp.addr i) 8) [] 0 6 1 (63 + i) (double_spec m0 (cp.addr i)) (fun _ => rfl) (by omega) k18 rfl rfl (by decide) rfl ⟨rfl, rfl⟩ (cell_ints (cs := wseg cp s cr ci co) (o := 63) (j := i) (k := .u64) (n := 16) (f := wfun cp.addr) rfl h1) ?_
    intro L19 c19 e19 l19 k19
    have b19 : L19.length ≤ 1538 := by rw [l19]; rw [le_len]; omega
    clear l19 b18 k18
    repeat (refine need_intro rfl ?_)
    refine ⟨(i + 1, c19), ⟨?_, ?_⟩, ?_, [0, 1, 2, 3, 4, 5, 8], ?_⟩
    · show i + 1 ≤ 16; omega
    · show (manyN (fun i => le (cp.addr i) 8) L17 (i + 1)).length ≤ c19; rw [← hx, ← e19]; exact k19
    · show 16 - (i + 1) < 16 - i; omega
    · rw [hO]
      refine ⟨by decide, ⟨rfl, rfl, rfl, rfl, rfl, rfl, trivial⟩, ?_, ?_⟩
      · repeat' (first | exact eqvT_nil | refine eqvT_junk ?_ | refine eqvT_same ?_ | refine eqvT_int ?_ ?_)
        all_goals (rw [i64_in (by omega) (by omega)]; rfl)
      · rw [hx] at e19
        subst e19
        exact ⟨⟨_, rfl, eqvB_refl _⟩, ⟨_, rfl, eqvB_refl _⟩, ⟨_, rfl, eqvB_refl _⟩, ⟨_, rfl, eqvB_refl _⟩, ⟨_, rfl, eqvB_refl _⟩, ⟨_, rfl, eqvB_refl _⟩, ⟨_, rfl, eqvB_refl _⟩, trivial⟩
  have h1 : i = 16 := by have h2 := of_decide_eq_false h1; omega
  subst h1
  generalize e18 : manyN (fun i => le (cp.addr i) 8) L17 16 = L18 at *
  have b18 : L18.length ≤ 1530 := by omega
  generalize hcap18 : cap = c18 at *
  refine draw_but [0, 6] on rfl (fun _ _ h => h) ?_
  refine one_k (bb cp.rvalid) [] 0 6 1 79 (wflag_spec m0 cp.rvalid) (fun _ => rfl) (by omega) k18 rfl rfl (by decide) rfl ⟨rfl, rfl⟩ (cell_one rfl rfl) ?_
  intro L19 c19 e19 l19 k19
  have b19 : L19.length ≤ 1531 := by rw [l19]; show _ + 1 ≤ _; omega
  clear l19 b18 k18
  repeat (refine need_intro rfl ?_)
  refine draw_but [0, 8] on rfl (fun _ _ h => h) ?_
  refine one_k (le (cp.raddr) 8) [] 0 8 1 80 (double_spec m0 (cp.raddr)) (fun _ => rfl) (by omega) k19 rfl rfl (by decide) rfl ⟨rfl, rfl⟩ (cell_one rfl rfl) ?_
  intro L20 c20 e20 l20 k20
  have b20 : L20.length ≤ 1539 := by rw [l20]; rw [le_len]; omega
  clear l20 b19 k19
  repeat (refine need_intro rfl ?_)
  refine draw_but [0, 10] on rfl (fun _ _ h => h) ?_
  refine one_k (le (BitVec.ofInt 64 cp.rsize) 1) [(1 : Int)] 0 10 1 81 (place_spec m0 cp.rsize 1 (by decide)) (fun _ => rfl) (by omega) k20 rfl rfl (by decide) rfl ⟨rfl, rfl⟩ (cell_one rfl rfl) ?_
  intro L21 c21 e21 l21 k21
  have b21 : L21.length ≤ 1540 := by rw [l21]; rw [le_len]; omega
  clear l21 b20 k20
  repeat (refine need_intro rfl ?_)
  refine draw_but [0, 12] on rfl (fun _ _ h => h) ?_
  refine one_k (le (s.msip.setWidth 64) 4) [] 0 12 1 83 (word_spec m0 s.msip) (fun _ => rfl) (by omega) k21 rfl rfl (by decide) rfl ⟨rfl, rfl⟩ (cell_one rfl rfl) ?_
  intro L22 c22 e22 l22 k22
  have b22 : L22.length ≤ 1544 := by rw [l22]; rw [le_len]; omega
  clear l22 b21 k21
  repeat (refine need_intro rfl ?_)
  refine draw_but [0, 14] on rfl (fun _ _ h => h) ?_
  refine one_k (le (s.cmp) 8) [] 0 14 1 84 (double_spec m0 (s.cmp)) (fun _ => rfl) (by omega) k22 rfl rfl (by decide) rfl ⟨rfl, rfl⟩ (cell_one rfl rfl) ?_
  intro L23 c23 e23 l23 k23
  have b23 : L23.length ≤ 1552 := by rw [l23]; rw [le_len]; omega
  clear l23 b22 k22
  repeat (refine need_intro rfl ?_)
  refine draw_but [0, 16] on rfl (fun _ _ h => h) ?_
  refine one_k (le (s.now) 8) [] 0 16 1 85 (double_spec m0 (s.now)) (fun _ => rfl) (by omega) k23 rfl rfl (by decide) rfl ⟨rfl, rfl⟩ (cell_one rfl rfl) ?_
  intro L24 c24 e24 l24 k24
  have b24 : L24.length ≤ 1560 := by rw [l24]; rw [le_len]; omega
  clear l24 b23 k23
  repeat (refine need_intro rfl ?_)
  refine draw_but [0, 18] on rfl (fun _ _ h => h) ?_
  refine one_k (bb s.ext) [] 0 18 1 86 (wflag_spec m0 s.ext) (fun _ => rfl) (by omega) k24 rfl rfl (by decide) rfl ⟨rfl, rfl⟩ (cell_one rfl rfl) ?_
  intro L25 c25 e25 l25 k25
  have b25 : L25.length ≤ 1561 := by rw [l25]; show _ + 1 ≤ _; omega
  clear l25 b24 k24
  repeat (refine need_intro rfl ?_)
  refine draw_but [0, 20] on rfl (fun _ _ h => h) ?_
  refine one_k (bb s.soft) [] 0 20 1 87 (wflag_spec m0 s.soft) (fun _ => rfl) (by omega) k25 rfl rfl (by decide) rfl ⟨rfl, rfl⟩ (cell_one rfl rfl) ?_
  intro L26 c26 e26 l26 k26
  have b26 : L26.length ≤ 1562 := by rw [l26]; show _ + 1 ≤ _; omega
  clear l26 b25 k25
  repeat (refine need_intro rfl ?_)
  refine draw_held on rfl (fun _ _ h => h) ?_
  repeat (refine need_intro rfl ?_)
  refine loop_times on 5 ?_
  refine Box.mk ?_
  refine need_intro (by decide) ?_
  refine one_k (le ((s.ier).setWidth 64) 1) [] 0 22 1 88 (octet_spec m0 (s.ier)) (fun _ => rfl) (by omega) k26 rfl rfl (by decide) rfl ⟨rfl, rfl⟩ (cell_one rfl rfl) ?_
  intro L27 c27 e27 l27 k27
  have b27 : L27.length ≤ 1563 := by rw [l27]; rw [le_len]; omega
  clear l27 b26 k26
  refine Box.mk ?_
  refine need_intro (by decide) ?_
  refine one_k (le ((s.lcr).setWidth 64) 1) [] 0 25 1 89 (octet_spec m0 (s.lcr)) (fun _ => rfl) (by omega) k27 rfl rfl (by decide) rfl ⟨rfl, rfl⟩ (cell_one rfl rfl) ?_
  intro L28 c28 e28 l28 k28
  have b28 : L28.length ≤ 1564 := by rw [l28]; rw [le_len]; omega
  clear l28 b27 k27
  refine Box.mk ?_
  refine need_intro (by decide) ?_
  refine one_k (le ((s.mcr).setWidth 64) 1) [] 0 27 1 90 (octet_spec m0 (s.mcr)) (fun _ => rfl) (by omega) k28 rfl rfl (by decide) rfl ⟨rfl, rfl⟩ (cell_one rfl rfl) ?_
  intro L29 c29 e29 l29 k29
  have b29 : L29.length ≤ 1565 := by rw [l29]; rw [le_len]; omega
  clear l29 b28 k28
  refine Box.mk ?_
  refine need_intro (by decide) ?_
  refine one_k (le ((s.scratch).setWidth 64) 1) [] 0 29 1 91 (octet_spec m0 (s.scratch)) (fun _ => rfl) (by omega) k29 rfl rfl (by decide) rfl ⟨rfl, rfl⟩ (cell_one rfl rfl) ?_
  intro L30 c30 e30 l30 k30
  have b30 : L30.length ≤ 1566 := by rw [l30]; rw [le_len]; omega
  clear l30 b29 k29
  refine Box.mk ?_
  refine draw_but [0, 31] on rfl (fun _ _ h => h) ?_
  refine one_k (bb s.overrun) [] 0 31 1 92 (wflag_spec m0 s.overrun) (fun _ => rfl) (by omega) k30 rfl rfl (by decide) rfl ⟨rfl, rfl⟩ (cell_one rfl rfl) ?_
  intro L31 c31 e31 l31 k31
  have b31 : L31.length ≤ 1567 := by rw [l31]; show _ + 1 ≤ _; omega
  clear l31 b30 k30
  repeat (refine need_intro rfl ?_)
  refine draw_but [0, 33] on rfl (fun _ _ h => h) ?_
  refine one_k (le (BitVec.ofInt 64 s.off) 1) [(1 : Int)] 0 33 1 95 (place_spec m0 s.off 1 (by decide)) (fun _ => rfl) (by omega) k31 rfl rfl (by decide) rfl ⟨rfl, rfl⟩ (cell_one rfl rfl) ?_
  intro L32 c32 e32 l32 k32
  have b32 : L32.length ≤ 1568 := by rw [l32]; rw [le_len]; omega
  clear l32 b31 k31
  repeat (refine need_intro rfl ?_)
  refine draw_but [0, 35] on rfl (fun _ _ h => h) ?_
  refine one_k (le (BitVec.ofInt 64 s.code) 4) [(4 : Int)] 0 35 1 96 (place_spec m0 s.code 4 (by decide)) (fun _ => rfl) (by omega) k32 rfl rfl (by decide) rfl ⟨rfl, rfl⟩ (cell_one rfl rfl) ?_
  intro L33 c33 e33 l33 k33
  have b33 : L33.length ≤ 1572 := by rw [l33]; rw [le_len]; omega
  clear l33 b32 k32
  repeat (refine need_intro rfl ?_)
  refine draw_but [0, 37] on rfl (fun _ _ h => h) ?_
  refine list_k (size := 1) (mb := m1) (q := inp) (sp := s1) 0 37 1 3 93 38 rfl (by decide) (by omega) (by omega) k33 rfl rfl rfl rfl (by decide) ⟨rfl, rfl⟩ (cell_one rfl rfl) ?_
  intro L34 c34 e34 l34 k34
  have b34 : L34.length ≤ 1637 := by omega
  clear l34 b33 k33
  repeat (refine need_intro rfl ?_)
  refine draw_but [0, 39] on rfl (fun _ _ h => h) ?_
  refine list_k (size := 2) (mb := m2) (q := out) (sp := s2) 0 39 1 4 94 40 rfl (by decide) (by omega) (by omega) k34 rfl rfl rfl rfl (by decide) ⟨rfl, rfl⟩ (cell_one rfl rfl) ?_
  intro L35 c35 e35 l35 k35
  have b35 : L35.length ≤ 5735 := by omega
  clear l35 b34 k34
  repeat (refine need_intro rfl ?_)
  have ef : L35 = devOn s inp out (cpuOn cp L0) := by
    subst e35 e34 e33 e32 e31 e30 e29 e28 e27 e26 e25 e24 e23 e22 e21 e20 e19 e18 e17 e16 e15 e14 e13 e12 e11 e10 e9 e8 e7 e6 e5 e4 e3 e2 e1
    rfl
  rw [← ef]
  refine ⟨_, _, [0, 1, 2, 3, 4, 5, 41], ⟨c35, k35, by omega, rfl, rfl⟩, by decide, ⟨rfl, rfl, rfl, rfl, rfl, rfl, trivial⟩, trivial, ?_⟩
  exact ⟨⟨_, rfl, eqvB_refl _⟩, ⟨_, rfl, eqvB_refl _⟩, ⟨_, rfl, eqvB_refl _⟩, ⟨_, rfl, eqvB_refl _⟩, ⟨_, rfl, eqvB_refl _⟩, ⟨_, rfl, eqvB_refl _⟩, ⟨_, rfl, eqvB_refl _⟩, trivial⟩
end Go.Proofs.Ytghcdkpgcanpgaa
