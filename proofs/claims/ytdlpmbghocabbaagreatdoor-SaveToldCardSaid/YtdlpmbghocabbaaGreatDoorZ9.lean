/- Part 9 of the texts of this claim, merged: L4, R1, R2, R3, R4, L5, L6, K1, K2, K3. No condition: plain theorems, contracts of functions. -/
import Derived.Test.YtdlpmbghocabbaaGreatDoorZ8

set_option linter.unusedSimpArgs false
set_option linter.unusedVariables false
/- The reader goes through all that stands ahead of the RAM. Contract of a function. No condition. -/
namespace Go.Anv
open Go
def seqR (N k : Nat) (s : Rs) : Nat → Rs
  | 0 => s
  | n + 1 => takeR N k (seqR N k s n)
theorem loopf {n i : Nat} {g : Nat → Int} : ∀ j, j < n → (if j = i then g i else if j < i then g j else 0) = if j < i + 1 then g j else 0 := by
  intro j _
  by_cases h1 : j = i
  · subst h1; rw [if_pos rfl, if_pos (by omega)]
  · by_cases h2 : j < i
    · rw [if_neg h1, if_pos h2, if_pos (by omega)]
    · rw [if_neg h1, if_neg h2, if_neg (by omega)]
def r1 (p : Nat → B8) (N : Nat) (s : Rs) : Rs := takeR N 8 s
def r2 (p : Nat → B8) (N : Nat) (s : Rs) : Rs := seqR N 8 (r1 p N s) 32
def r3 (p : Nat → B8) (N : Nat) (s : Rs) : Rs := takeR N 1 (r2 p N s)
def r4 (p : Nat → B8) (N : Nat) (s : Rs) : Rs := flagR p N (r3 p N s)
def r5 (p : Nat → B8) (N : Nat) (s : Rs) : Rs := takeR N 8 (r4 p N s)
def r6 (p : Nat → B8) (N : Nat) (s : Rs) : Rs := takeR N 8 (r5 p N s)
def r7 (p : Nat → B8) (N : Nat) (s : Rs) : Rs := takeR N 8 (r6 p N s)
def r8 (p : Nat → B8) (N : Nat) (s : Rs) : Rs := takeR N 8 (r7 p N s)
def r9 (p : Nat → B8) (N : Nat) (s : Rs) : Rs := takeR N 8 (r8 p N s)
def r10 (p : Nat → B8) (N : Nat) (s : Rs) : Rs := takeR N 8 (r9 p N s)
def r11 (p : Nat → B8) (N : Nat) (s : Rs) : Rs := takeR N 8 (r10 p N s)
def r12 (p : Nat → B8) (N : Nat) (s : Rs) : Rs := takeR N 8 (r11 p N s)
def r13 (p : Nat → B8) (N : Nat) (s : Rs) : Rs := takeR N 8 (r12 p N s)
def r14 (p : Nat → B8) (N : Nat) (s : Rs) : Rs := takeR N 8 (r13 p N s)
def r15 (p : Nat → B8) (N : Nat) (s : Rs) : Rs := takeR N 8 (r14 p N s)
def r16 (p : Nat → B8) (N : Nat) (s : Rs) : Rs := takeR N 8 (r15 p N s)
def r17 (p : Nat → B8) (N : Nat) (s : Rs) : Rs := seqR N 1 (r16 p N s) 16
def r18 (p : Nat → B8) (N : Nat) (s : Rs) : Rs := seqR N 8 (r17 p N s) 16
def r19 (p : Nat → B8) (N : Nat) (s : Rs) : Rs := flagR p N (r18 p N s)
def r20 (p : Nat → B8) (N : Nat) (s : Rs) : Rs := takeR N 8 (r19 p N s)
def r21 (p : Nat → B8) (N : Nat) (s : Rs) : Rs := takeR N 1 (r20 p N s)
def r22 (p : Nat → B8) (N : Nat) (s : Rs) : Rs := takeR N 4 (r21 p N s)
def r23 (p : Nat → B8) (N : Nat) (s : Rs) : Rs := takeR N 8 (r22 p N s)
def r24 (p : Nat → B8) (N : Nat) (s : Rs) : Rs := takeR N 8 (r23 p N s)
def r25 (p : Nat → B8) (N : Nat) (s : Rs) : Rs := flagR p N (r24 p N s)
def r26 (p : Nat → B8) (N : Nat) (s : Rs) : Rs := flagR p N (r25 p N s)
def r27 (p : Nat → B8) (N : Nat) (s : Rs) : Rs := takeR N 1 (r26 p N s)
def r28 (p : Nat → B8) (N : Nat) (s : Rs) : Rs := takeR N 1 (r27 p N s)
def r29 (p : Nat → B8) (N : Nat) (s : Rs) : Rs := takeR N 1 (r28 p N s)
def r30 (p : Nat → B8) (N : Nat) (s : Rs) : Rs := takeR N 1 (r29 p N s)
def r31 (p : Nat → B8) (N : Nat) (s : Rs) : Rs := flagR p N (r30 p N s)
def r32 (p : Nat → B8) (N : Nat) (s : Rs) : Rs := takeR N 1 (r31 p N s)
def r33 (p : Nat → B8) (N : Nat) (s : Rs) : Rs := takeR N 4 (r32 p N s)
def r34 (p : Nat → B8) (N : Nat) (s : Rs) : Rs := listR p N 1 64 (r33 p N s)
def r35 (p : Nat → B8) (N : Nat) (s : Rs) : Rs := listR p N 2 4096 (r34 p N s)
/-- The Cpu that is read. -/
def cpuR (p : Nat → B8) (N : Nat) (s : Rs) : CpuV := { pc := numV p N 8 s, x := fun j => (numV p N 8 (seqR N 8 (r1 p N s) j)), mode := (numV p N 1 (r2 p N s)).toInt, waiting := flagV p N (r3 p N s), mstatus := numV p N 8 (r4 p N s), mtvec := numV p N 8 (r5 p N s), mie := numV p N 8 (r6 p N s), mcounteren := numV p N 8 (r7 p N s), mcountinhibit := numV p N 8 (r8 p N s), menvcfg := numV p N 8 (r9 p N s), mscratch := numV p N 8 (r10 p N s), mepc := numV p N 8 (r11 p N s), mcause := numV p N 8 (r12 p N s), mtval := numV p N 8 (r13 p N s), mcycle := numV p N 8 (r14 p N s), minstret := numV p N 8 (r15 p N s), cfg := fun j => ((numV p N 1 (seqR N 1 (r16 p N s) j))).setWidth 8, addr := fun j => (numV p N 8 (seqR N 8 (r17 p N s) j)), rvalid := flagV p N (r18 p N s), raddr := numV p N 8 (r19 p N s), rsize := (numV p N 1 (r20 p N s)).toInt }
/-- The devices that are read; n: the ram's length. -/
def busR (n : Nat) (p : Nat → B8) (N : Nat) (s : Rs) : BusV := { nr := n, ni := listN p N 1 64 (r33 p N s), no := listN p N 2 4096 (r34 p N s), msip := (numV p N 4 (r21 p N s)).setWidth 32, cmp := numV p N 8 (r22 p N s), now := numV p N 8 (r23 p N s), ext := flagV p N (r24 p N s), soft := flagV p N (r25 p N s), ier := (numV p N 1 (r26 p N s)).setWidth 8, lcr := (numV p N 1 (r27 p N s)).setWidth 8, mcr := (numV p N 1 (r28 p N s)).setWidth 8, scratch := (numV p N 1 (r29 p N s)).setWidth 8, overrun := flagV p N (r30 p N s), off := (numV p N 1 (r31 p N s)).toInt, code := (numV p N 4 (r32 p N s)).toInt }
def inR (p : Nat → B8) (N : Nat) (s : Rs) : Nat → B8 := listQ p N 1 64 (r33 p N s)
def outR (p : Nat → B8) (N : Nat) (s : Rs) : Nat → B8 := listQ p N 2 4096 (r34 p N s)
def bothR (p : Nat → B8) (N : Nat) (s : Rs) : Rs := r35 p N s
def zwhole : List Seg := [.one (.int .u64 0), .ints .u64 32 (fun _ => 0), .one (.int .i64 0), .one (.bool false), .one (.int .u64 0), .one (.int .u64 0), .one (.int .u64 0), .one (.int .u64 0), .one (.int .u64 0), .one (.int .u64 0), .one (.int .u64 0), .one (.int .u64 0), .one (.int .u64 0), .one (.int .u64 0), .one (.int .u64 0), .one (.int .u64 0), .ints .u8 16 (fun _ => 0), .ints .u64 16 (fun _ => 0), .one (.bool false), .one (.int .u64 0), .one (.int .i64 0), .one .nilslice, .one (.int .u32 0), .one (.int .u64 0), .one (.int .u64 0), .one (.bool false), .one (.bool false), .one (.int .u8 0), .one (.int .u8 0), .one (.int .u8 0), .one (.int .u8 0), .one (.bool false), .one .nilslice, .one .nilslice, .one (.int .i64 0), .one (.int .i64 0)]
end Go.Anv
namespace Go.Proofs.YtdlpmbghocabbaaGreatDoor
open Go Go.Anv
set_option maxRecDepth 100000 in
set_option maxHeartbeats 8000000 in
theorem rboth_spec (m : Bool) (base N K sp : Nat) (f : Nat → Int) (p : Nat → B8) (s : Rs) (hN : N ≤ 2 ^ 40) (hK : base + N ≤ K) (hp : ∀ j, j < N → f (base + j) = (p j).toNat) (o : Nat) (ho : RdAt base N s o) :
    Does TB 37 [.s (.iface 100 false [.ptr 0 0]), .s (.ptr 1 0)] [rdb 2 N s o, .cells true zwhole 0, .cells m [.ints .u8 K f] sp]
    (fun r h' => ∃ o', RdAt base N (bothR p N s) o' ∧ r = .tuple [] ∧ h' = [rdb 2 N (bothR p N s) o', .cells true (wsegs (cpuR p N s) (busR 0 p N s) .nilslice (.gs 3 0 (busR 0 p N s).ni (busR 0 p N s).ni) (.gs 4 0 (busR 0 p N s).no (busR 0 p N s).no)) 0, .cells m [.ints .u8 K f] sp,
      bblk true (busR 0 p N s).ni (inR p N s) 0, bblk true (busR 0 p N s).no (outR p N s) 0]) := by
  refine fnX_does TB Tryz.func37 rfl (by decide) (fun O on hO => ?_)
  refine draw_but [0, 1] on rfl (fun _ _ h => h) ?_
  refine rone_k (r1 p N s) [] 0 2 1 0 3 (rdouble_spec m base N K sp f p s hN hK hp _) (fun _ => ⟨rfl, rfl⟩) ho rfl rfl rfl rfl (by decide) ⟨rfl, rfl⟩ (Cell.one rfl ⟨.junk, _, rfl⟩) (rfl) ?_
  clear ho; intro o ho
  repeat (refine need_intro (by first | rfl | exact fun h => h | simp) ?_)
  refine loop_in (A := Nat × Nat) on (fun i => [(24, .s (.int .i64 (i.1 : Int))), (5, .junk)]) (fun i => [rdb 2 N (seqR N 8 (r1 p N s) i.1) i.2, .cells true (.one (.int .u64 (numV p N 8 s).toNat) :: .ints .u64 32 (fun j => if j < i.1 then (((numV p N 8 (seqR N 8 (r1 p N s) j))).toNat : Int) else 0) :: .one (.int .i64 0) :: .one (.bool false) :: .one (.int .u64 0) :: .one (.int .u64 0) :: .one (.int .u64 0) :: .one (.int .u64 0) :: .one (.int .u64 0) :: .one (.int .u64 0) :: .one (.int .u64 0) :: .one (.int .u64 0) :: .one (.int .u64 0) :: .one (.int .u64 0) :: .one (.int .u64 0) :: .one (.int .u64 0) :: .ints .u8 16 (fun _ => 0) :: .ints .u64 16 (fun _ => 0) :: .one (.bool false) :: .one (.int .u64 0) :: .one (.int .i64 0) :: .one .nilslice :: .one (.int .u32 0) :: .one (.int .u64 0) :: .one (.int .u64 0) :: .one (.bool false) :: .one (.bool false) :: .one (.int .u8 0) :: .one (.int .u8 0) :: .one (.int .u8 0) :: .one (.int .u8 0) :: .one (.bool false) :: .one .nilslice :: .one .nilslice :: .one (.int .i64 0) :: .one (.int .i64 0) :: []) 0, .cells m [.ints .u8 K f] sp]) (fun i => i.1 ≤ 32 ∧ RdAt base N (seqR N 8 (r1 p N s) i.1) i.2) (fun i => 32 - i.1) (0, o) ⟨Nat.zero_le _, ho⟩ [0, 1, 2] ?_ ?_
  · rw [hO]
    refine ⟨by decide, ⟨rfl, rfl, rfl, trivial⟩, ?_, ?_⟩
    · repeat' (first | exact eqvT_nil | refine eqvT_junk ?_ | refine eqvT_same ?_ | refine eqvT_int ?_ ?_)
    · exact ⟨⟨_, rfl, eqvB_refl _⟩, ⟨_, rfl, eqvB_refl _⟩, ⟨_, rfl, eqvB_refl _⟩, trivial⟩
  clear ho
  rintro ⟨i, o⟩ ⟨hi2, ho⟩
  replace hi2 : i ≤ 32 := hi2
  replace ho : RdAt base N (seqR N 8 (r1 p N s) i) o := ho
  refine ifB_intro (fun h1 => ?_) (fun h1 => ?_)
  · have hlt : i < 32 := by have h2 := of_decide_eq_true h1; omega
    refine draw_but [0, 1] on rfl (fun _ _ h => h) ?_
    refine need_intro ⟨by omega, by omega⟩ ?_
    refine need_intro rfl ?_
    refine rone_k (seqR N 8 (r1 p N s) (i + 1)) [] 0 2 1 (1 + i) 3 (rdouble_spec m base N K sp f p (seqR N 8 (r1 p N s) i) hN hK hp _) (fun _ => ⟨rfl, rfl⟩) ho rfl rfl rfl rfl (by decide) ⟨rfl, rfl⟩ (Cell.ints (cs := (.one (.int .u64 (numV p N 8 s).toNat) :: .ints .u64 32 (fun j => if j < i then (((numV p N 8 (seqR N 8 (r1 p N s) j))).toNat : Int) else 0) :: .one (.int .i64 0) :: .one (.bool false) :: .one (.int .u64 0) :: .one (.int .u64 0) :: .one (.int .u64 0) :: .one (.int .u64 0) :: .one (.int .u64 0) :: .one (.int .u64 0) :: .one (.int .u64 0) :: .one (.int .u64 0) :: .one (.int .u64 0) :: .one (.int .u64 0) :: .one (.int .u64 0) :: .one (.int .u64 0) :: .ints .u8 16 (fun _ => 0) :: .ints .u64 16 (fun _ => 0) :: .one (.bool false) :: .one (.int .u64 0) :: .one (.int .i64 0) :: .one .nilslice :: .one (.int .u32 0) :: .one (.int .u64 0) :: .one (.int .u64 0) :: .one (.bool false) :: .one (.bool false) :: .one (.int .u8 0) :: .one (.int .u8 0) :: .one (.int .u8 0) :: .one (.int .u8 0) :: .one (.bool false) :: .one .nilslice :: .one .nilslice :: .one (.int .i64 0) :: .one (.int .i64 0) :: [])) (o := 1) (j := i) (k := .u64) (n := 32) rfl hlt) (⟨_, rfl, rfl⟩) ?_
    clear ho; intro o ho
    repeat (refine need_intro (by first | rfl | exact fun h => h | simp) ?_)
    refine ⟨(i + 1, o), ⟨?_, ho⟩, ?_, [0, 1, 2], ?_⟩
    · show i + 1 ≤ 32; omega
    · show 32 - (i + 1) < 32 - i; omega
    · rw [hO]
      refine ⟨by decide, ⟨rfl, rfl, rfl, trivial⟩, ?_, ?_⟩
      · repeat' (first | exact eqvT_nil | refine eqvT_junk ?_ | refine eqvT_same ?_ | refine eqvT_int ?_ ?_)
        all_goals (rw [i64_in (by omega) (by omega)]; rfl)
      · refine ⟨⟨_, rfl, eqvB_refl _⟩, ⟨_, rfl, ⟨rfl, rfl, ?_⟩⟩, ⟨_, rfl, eqvB_refl _⟩, trivial⟩
        repeat' (first | exact eqvS_nil | refine eqvS_same ?_ | refine eqvS_ints ?_ ?_)
        exact loopf (g := fun j => (((numV p N 8 (seqR N 8 (r1 p N s) j))).toNat : Int))
  have hlt : i = 32 := by have h2 := of_decide_eq_false h1; omega
  subst hlt
  refine draw_but [0, 1] on rfl (fun _ _ h => h) ?_
  refine rone_k (r3 p N s) [(1 : Int)] 0 2 1 33 3 (rplace_spec m base N K sp f p (r2 p N s) hN hK hp 1 (by decide) _) (fun _ => ⟨rfl, rfl⟩) ho rfl rfl rfl rfl (by decide) ⟨rfl, rfl⟩ (Cell.one rfl ⟨.junk, _, rfl⟩) (rfl) ?_
  clear ho; intro o ho
  repeat (refine need_intro (by first | rfl | exact fun h => h | simp) ?_)
  refine draw_but [0, 1] on rfl (fun _ _ h => h) ?_
  refine rone_k (r4 p N s) [] 0 2 1 34 4 (rflag_spec m base N K sp f p (r3 p N s) hN hK hp _) (fun _ => ⟨rfl, rfl⟩) ho rfl rfl rfl rfl (by decide) ⟨rfl, rfl⟩ (Cell.one rfl ⟨.junk, _, rfl⟩) (rfl) ?_
  clear ho; intro o ho
  repeat (refine need_intro (by first | rfl | exact fun h => h | simp) ?_)
  refine draw_held on rfl (fun _ _ h => h) ?_
  repeat (refine need_intro rfl ?_)
  refine loop_times on 13 ?_
  refine Box.mk ?_
  refine need_intro (by decide) ?_
  refine rone_k (r5 p N s) [] 0 2 1 35 6 (rdouble_spec m base N K sp f p (r4 p N s) hN hK hp _) (fun _ => ⟨rfl, rfl⟩) ho rfl rfl rfl rfl (by decide) ⟨rfl, rfl⟩ (Cell.one rfl ⟨.junk, _, rfl⟩) (rfl) ?_
  clear ho; intro o ho
  refine Box.mk ?_
  refine need_intro (by decide) ?_
  refine rone_k (r6 p N s) [] 0 2 1 36 7 (rdouble_spec m base N K sp f p (r5 p N s) hN hK hp _) (fun _ => ⟨rfl, rfl⟩) ho rfl rfl rfl rfl (by decide) ⟨rfl, rfl⟩ (Cell.one rfl ⟨.junk, _, rfl⟩) (rfl) ?_
  clear ho; intro o ho
  refine Box.mk ?_
  refine need_intro (by decide) ?_
  refine rone_k (r7 p N s) [] 0 2 1 37 8 (rdouble_spec m base N K sp f p (r6 p N s) hN hK hp _) (fun _ => ⟨rfl, rfl⟩) ho rfl rfl rfl rfl (by decide) ⟨rfl, rfl⟩ (Cell.one rfl ⟨.junk, _, rfl⟩) (rfl) ?_
  clear ho; intro o ho
  refine Box.mk ?_
  refine need_intro (by decide) ?_
  refine rone_k (r8 p N s) [] 0 2 1 38 9 (rdouble_spec m base N K sp f p (r7 p N s) hN hK hp _) (fun _ => ⟨rfl, rfl⟩) ho rfl rfl rfl rfl (by decide) ⟨rfl, rfl⟩ (Cell.one rfl ⟨.junk, _, rfl⟩) (rfl) ?_
  clear ho; intro o ho
  refine Box.mk ?_
  refine need_intro (by decide) ?_
  refine rone_k (r9 p N s) [] 0 2 1 39 10 (rdouble_spec m base N K sp f p (r8 p N s) hN hK hp _) (fun _ => ⟨rfl, rfl⟩) ho rfl rfl rfl rfl (by decide) ⟨rfl, rfl⟩ (Cell.one rfl ⟨.junk, _, rfl⟩) (rfl) ?_
  clear ho; intro o ho
  refine Box.mk ?_
  refine need_intro (by decide) ?_
  refine rone_k (r10 p N s) [] 0 2 1 40 11 (rdouble_spec m base N K sp f p (r9 p N s) hN hK hp _) (fun _ => ⟨rfl, rfl⟩) ho rfl rfl rfl rfl (by decide) ⟨rfl, rfl⟩ (Cell.one rfl ⟨.junk, _, rfl⟩) (rfl) ?_
  clear ho; intro o ho
  refine Box.mk ?_
  refine need_intro (by decide) ?_
  refine rone_k (r11 p N s) [] 0 2 1 41 12 (rdouble_spec m base N K sp f p (r10 p N s) hN hK hp _) (fun _ => ⟨rfl, rfl⟩) ho rfl rfl rfl rfl (by decide) ⟨rfl, rfl⟩ (Cell.one rfl ⟨.junk, _, rfl⟩) (rfl) ?_
  clear ho; intro o ho
  refine Box.mk ?_
  refine need_intro (by decide) ?_
  refine rone_k (r12 p N s) [] 0 2 1 42 13 (rdouble_spec m base N K sp f p (r11 p N s) hN hK hp _) (fun _ => ⟨rfl, rfl⟩) ho rfl rfl rfl rfl (by decide) ⟨rfl, rfl⟩ (Cell.one rfl ⟨.junk, _, rfl⟩) (rfl) ?_
  clear ho; intro o ho
  refine Box.mk ?_
  refine need_intro (by decide) ?_
  refine rone_k (r13 p N s) [] 0 2 1 43 14 (rdouble_spec m base N K sp f p (r12 p N s) hN hK hp _) (fun _ => ⟨rfl, rfl⟩) ho rfl rfl rfl rfl (by decide) ⟨rfl, rfl⟩ (Cell.one rfl ⟨.junk, _, rfl⟩) (rfl) ?_
  clear ho; intro o ho
  refine Box.mk ?_
  refine need_intro (by decide) ?_
  refine rone_k (r14 p N s) [] 0 2 1 44 15 (rdouble_spec m base N K sp f p (r13 p N s) hN hK hp _) (fun _ => ⟨rfl, rfl⟩) ho rfl rfl rfl rfl (by decide) ⟨rfl, rfl⟩ (Cell.one rfl ⟨.junk, _, rfl⟩) (rfl) ?_
  clear ho; intro o ho
  refine Box.mk ?_
  refine need_intro (by decide) ?_
  refine rone_k (r15 p N s) [] 0 2 1 45 16 (rdouble_spec m base N K sp f p (r14 p N s) hN hK hp _) (fun _ => ⟨rfl, rfl⟩) ho rfl rfl rfl rfl (by decide) ⟨rfl, rfl⟩ (Cell.one rfl ⟨.junk, _, rfl⟩) (rfl) ?_
  clear ho; intro o ho
  refine Box.mk ?_
  refine need_intro (by decide) ?_
  refine rone_k (r16 p N s) [] 0 2 1 46 17 (rdouble_spec m base N K sp f p (r15 p N s) hN hK hp _) (fun _ => ⟨rfl, rfl⟩) ho rfl rfl rfl rfl (by decide) ⟨rfl, rfl⟩ (Cell.one rfl ⟨.junk, _, rfl⟩) (rfl) ?_
  clear ho; intro o ho
  refine Box.mk ?_
  refine loop_in (A := Nat × Nat) on (fun i => [(100, .s (.int .i64 (i.1 : Int))), (8, .junk), (90, .junk), (94, .junk)]) (fun i => [rdb 2 N (seqR N 1 (r16 p N s) i.1) i.2, .cells true (.one (.int .u64 (numV p N 8 s).toNat) :: .ints .u64 32 (fun j => if j < 32 then (((numV p N 8 (seqR N 8 (r1 p N s) j))).toNat : Int) else 0) :: .one (.int .i64 (numV p N 1 (r2 p N s)).toInt) :: .one (.bool (flagV p N (r3 p N s))) :: .one (.int .u64 (numV p N 8 (r4 p N s)).toNat) :: .one (.int .u64 (numV p N 8 (r5 p N s)).toNat) :: .one (.int .u64 (numV p N 8 (r6 p N s)).toNat) :: .one (.int .u64 (numV p N 8 (r7 p N s)).toNat) :: .one (.int .u64 (numV p N 8 (r8 p N s)).toNat) :: .one (.int .u64 (numV p N 8 (r9 p N s)).toNat) :: .one (.int .u64 (numV p N 8 (r10 p N s)).toNat) :: .one (.int .u64 (numV p N 8 (r11 p N s)).toNat) :: .one (.int .u64 (numV p N 8 (r12 p N s)).toNat) :: .one (.int .u64 (numV p N 8 (r13 p N s)).toNat) :: .one (.int .u64 (numV p N 8 (r14 p N s)).toNat) :: .one (.int .u64 (numV p N 8 (r15 p N s)).toNat) :: .ints .u8 16 (fun j => if j < i.1 then ((((numV p N 1 (seqR N 1 (r16 p N s) j))).setWidth 8).toNat : Int) else 0) :: .ints .u64 16 (fun _ => 0) :: .one (.bool false) :: .one (.int .u64 0) :: .one (.int .i64 0) :: .one .nilslice :: .one (.int .u32 0) :: .one (.int .u64 0) :: .one (.int .u64 0) :: .one (.bool false) :: .one (.bool false) :: .one (.int .u8 0) :: .one (.int .u8 0) :: .one (.int .u8 0) :: .one (.int .u8 0) :: .one (.bool false) :: .one .nilslice :: .one .nilslice :: .one (.int .i64 0) :: .one (.int .i64 0) :: []) 0, .cells m [.ints .u8 K f] sp]) (fun i => i.1 ≤ 16 ∧ RdAt base N (seqR N 1 (r16 p N s) i.1) i.2) (fun i => 16 - i.1) (0, o) ⟨Nat.zero_le _, ho⟩ [0, 1, 2] ?_ ?_
  · rw [hO]
    refine ⟨by decide, ⟨rfl, rfl, rfl, trivial⟩, ?_, ?_⟩
    · repeat' (first | exact eqvT_nil | refine eqvT_junk ?_ | refine eqvT_same ?_ | refine eqvT_int ?_ ?_)
    · exact ⟨⟨_, rfl, eqvB_refl _⟩, ⟨_, rfl, eqvB_refl _⟩, ⟨_, rfl, eqvB_refl _⟩, trivial⟩
  clear ho
  rintro ⟨i, o⟩ ⟨hi17, ho⟩
  replace hi17 : i ≤ 16 := hi17
  replace ho : RdAt base N (seqR N 1 (r16 p N s) i) o := ho
  refine ifB_intro (fun h1 => ?_) (fun h1 => ?_)
  · have hlt : i < 16 := by have h2 := of_decide_eq_true h1; omega
    refine draw_but [0, 1] on rfl (fun _ _ h => h) ?_
    refine need_intro ⟨by omega, by omega⟩ ?_
    refine need_intro rfl ?_
    refine rone_k (seqR N 1 (r16 p N s) (i + 1)) [] 0 2 1 (47 + i) 3 (roctet_spec m base N K sp f p (seqR N 1 (r16 p N s) i) hN hK hp _) (fun _ => ⟨rfl, rfl⟩) ho rfl rfl rfl rfl (by decide) ⟨rfl, rfl⟩ (Cell.ints (cs := (.one (.int .u64 (numV p N 8 s).toNat) :: .ints .u64 32 (fun j => if j < 32 then (((numV p N 8 (seqR N 8 (r1 p N s) j))).toNat : Int) else 0) :: .one (.int .i64 (numV p N 1 (r2 p N s)).toInt) :: .one (.bool (flagV p N (r3 p N s))) :: .one (.int .u64 (numV p N 8 (r4 p N s)).toNat) :: .one (.int .u64 (numV p N 8 (r5 p N s)).toNat) :: .one (.int .u64 (numV p N 8 (r6 p N s)).toNat) :: .one (.int .u64 (numV p N 8 (r7 p N s)).toNat) :: .one (.int .u64 (numV p N 8 (r8 p N s)).toNat) :: .one (.int .u64 (numV p N 8 (r9 p N s)).toNat) :: .one (.int .u64 (numV p N 8 (r10 p N s)).toNat) :: .one (.int .u64 (numV p N 8 (r11 p N s)).toNat) :: .one (.int .u64 (numV p N 8 (r12 p N s)).toNat) :: .one (.int .u64 (numV p N 8 (r13 p N s)).toNat) :: .one (.int .u64 (numV p N 8 (r14 p N s)).toNat) :: .one (.int .u64 (numV p N 8 (r15 p N s)).toNat) :: .ints .u8 16 (fun j => if j < i then ((((numV p N 1 (seqR N 1 (r16 p N s) j))).setWidth 8).toNat : Int) else 0) :: .ints .u64 16 (fun _ => 0) :: .one (.bool false) :: .one (.int .u64 0) :: .one (.int .i64 0) :: .one .nilslice :: .one (.int .u32 0) :: .one (.int .u64 0) :: .one (.int .u64 0) :: .one (.bool false) :: .one (.bool false) :: .one (.int .u8 0) :: .one (.int .u8 0) :: .one (.int .u8 0) :: .one (.int .u8 0) :: .one (.bool false) :: .one .nilslice :: .one .nilslice :: .one (.int .i64 0) :: .one (.int .i64 0) :: [])) (o := 47) (j := i) (k := .u8) (n := 16) rfl hlt) (⟨_, rfl, rfl⟩) ?_
    clear ho; intro o ho
    repeat (refine need_intro (by first | rfl | exact fun h => h | simp) ?_)
    refine ⟨(i + 1, o), ⟨?_, ho⟩, ?_, [0, 1, 2], ?_⟩
    · show i + 1 ≤ 16; omega
    · show 16 - (i + 1) < 16 - i; omega
    · rw [hO]
      refine ⟨by decide, ⟨rfl, rfl, rfl, trivial⟩, ?_, ?_⟩
      · repeat' (first | exact eqvT_nil | refine eqvT_junk ?_ | refine eqvT_same ?_ | refine eqvT_int ?_ ?_)
        all_goals (rw [i64_in (by omega) (by omega)]; rfl)
      · refine ⟨⟨_, rfl, eqvB_refl _⟩, ⟨_, rfl, ⟨rfl, rfl, ?_⟩⟩, ⟨_, rfl, eqvB_refl _⟩, trivial⟩
        repeat' (first | exact eqvS_nil | refine eqvS_same ?_ | refine eqvS_ints ?_ ?_)
        exact loopf (g := fun j => ((((numV p N 1 (seqR N 1 (r16 p N s) j))).setWidth 8).toNat : Int))
  have hlt : i = 16 := by have h2 := of_decide_eq_false h1; omega
  subst hlt
  refine loop_in (A := Nat × Nat) on (fun i => [(115, .s (.int .i64 (i.1 : Int))), (9, .junk)]) (fun i => [rdb 2 N (seqR N 8 (r17 p N s) i.1) i.2, .cells true (.one (.int .u64 (numV p N 8 s).toNat) :: .ints .u64 32 (fun j => if j < 32 then (((numV p N 8 (seqR N 8 (r1 p N s) j))).toNat : Int) else 0) :: .one (.int .i64 (numV p N 1 (r2 p N s)).toInt) :: .one (.bool (flagV p N (r3 p N s))) :: .one (.int .u64 (numV p N 8 (r4 p N s)).toNat) :: .one (.int .u64 (numV p N 8 (r5 p N s)).toNat) :: .one (.int .u64 (numV p N 8 (r6 p N s)).toNat) :: .one (.int .u64 (numV p N 8 (r7 p N s)).toNat) :: .one (.int .u64 (numV p N 8 (r8 p N s)).toNat) :: .one (.int .u64 (numV p N 8 (r9 p N s)).toNat) :: .one (.int .u64 (numV p N 8 (r10 p N s)).toNat) :: .one (.int .u64 (numV p N 8 (r11 p N s)).toNat) :: .one (.int .u64 (numV p N 8 (r12 p N s)).toNat) :: .one (.int .u64 (numV p N 8 (r13 p N s)).toNat) :: .one (.int .u64 (numV p N 8 (r14 p N s)).toNat) :: .one (.int .u64 (numV p N 8 (r15 p N s)).toNat) :: .ints .u8 16 (fun j => if j < 16 then ((((numV p N 1 (seqR N 1 (r16 p N s) j))).setWidth 8).toNat : Int) else 0) :: .ints .u64 16 (fun j => if j < i.1 then (((numV p N 8 (seqR N 8 (r17 p N s) j))).toNat : Int) else 0) :: .one (.bool false) :: .one (.int .u64 0) :: .one (.int .i64 0) :: .one .nilslice :: .one (.int .u32 0) :: .one (.int .u64 0) :: .one (.int .u64 0) :: .one (.bool false) :: .one (.bool false) :: .one (.int .u8 0) :: .one (.int .u8 0) :: .one (.int .u8 0) :: .one (.int .u8 0) :: .one (.bool false) :: .one .nilslice :: .one .nilslice :: .one (.int .i64 0) :: .one (.int .i64 0) :: []) 0, .cells m [.ints .u8 K f] sp]) (fun i => i.1 ≤ 16 ∧ RdAt base N (seqR N 8 (r17 p N s) i.1) i.2) (fun i => 16 - i.1) (0, o) ⟨Nat.zero_le _, ho⟩ [0, 1, 2] ?_ ?_
  · rw [hO]
    refine ⟨by decide, ⟨rfl, rfl, rfl, trivial⟩, ?_, ?_⟩
    · repeat' (first | exact eqvT_nil | refine eqvT_junk ?_ | refine eqvT_same ?_ | refine eqvT_int ?_ ?_)
    · exact ⟨⟨_, rfl, eqvB_refl _⟩, ⟨_, rfl, eqvB_refl _⟩, ⟨_, rfl, eqvB_refl _⟩, trivial⟩
  clear ho
  rintro ⟨i, o⟩ ⟨hi18, ho⟩
  replace hi18 : i ≤ 16 := hi18
  replace ho : RdAt base N (seqR N 8 (r17 p N s) i) o := ho
  refine ifB_intro (fun h1 => ?_) (fun h1 => ?_)
  · have hlt : i < 16 := by have h2 := of_decide_eq_true h1; omega
    refine draw_but [0, 1] on rfl (fun _ _ h => h) ?_
    refine need_intro ⟨by omega, by omega⟩ ?_
    refine need_intro rfl ?_
    refine rone_k (seqR N 8 (r17 p N s) (i + 1)) [] 0 2 1 (63 + i) 3 (rdouble_spec m base N K sp f p (seqR N 8 (r17 p N s) i) hN hK hp _) (fun _ => ⟨rfl, rfl⟩) ho rfl rfl rfl rfl (by decide) ⟨rfl, rfl⟩ (Cell.ints (cs := (.one (.int .u64 (numV p N 8 s).toNat) :: .ints .u64 32 (fun j => if j < 32 then (((numV p N 8 (seqR N 8 (r1 p N s) j))).toNat : Int) else 0) :: .one (.int .i64 (numV p N 1 (r2 p N s)).toInt) :: .one (.bool (flagV p N (r3 p N s))) :: .one (.int .u64 (numV p N 8 (r4 p N s)).toNat) :: .one (.int .u64 (numV p N 8 (r5 p N s)).toNat) :: .one (.int .u64 (numV p N 8 (r6 p N s)).toNat) :: .one (.int .u64 (numV p N 8 (r7 p N s)).toNat) :: .one (.int .u64 (numV p N 8 (r8 p N s)).toNat) :: .one (.int .u64 (numV p N 8 (r9 p N s)).toNat) :: .one (.int .u64 (numV p N 8 (r10 p N s)).toNat) :: .one (.int .u64 (numV p N 8 (r11 p N s)).toNat) :: .one (.int .u64 (numV p N 8 (r12 p N s)).toNat) :: .one (.int .u64 (numV p N 8 (r13 p N s)).toNat) :: .one (.int .u64 (numV p N 8 (r14 p N s)).toNat) :: .one (.int .u64 (numV p N 8 (r15 p N s)).toNat) :: .ints .u8 16 (fun j => if j < 16 then ((((numV p N 1 (seqR N 1 (r16 p N s) j))).setWidth 8).toNat : Int) else 0) :: .ints .u64 16 (fun j => if j < i then (((numV p N 8 (seqR N 8 (r17 p N s) j))).toNat : Int) else 0) :: .one (.bool false) :: .one (.int .u64 0) :: .one (.int .i64 0) :: .one .nilslice :: .one (.int .u32 0) :: .one (.int .u64 0) :: .one (.int .u64 0) :: .one (.bool false) :: .one (.bool false) :: .one (.int .u8 0) :: .one (.int .u8 0) :: .one (.int .u8 0) :: .one (.int .u8 0) :: .one (.bool false) :: .one .nilslice :: .one .nilslice :: .one (.int .i64 0) :: .one (.int .i64 0) :: [])) (o := 63) (j := i) (k := .u64) (n := 16) rfl hlt) (⟨_, rfl, rfl⟩) ?_
    clear ho; intro o ho
    repeat (refine need_intro (by first | rfl | exact fun h => h | simp) ?_)
    refine ⟨(i + 1, o), ⟨?_, ho⟩, ?_, [0, 1, 2], ?_⟩
    · show i + 1 ≤ 16; omega
    · show 16 - (i + 1) < 16 - i; omega
    · rw [hO]
      refine ⟨by decide, ⟨rfl, rfl, rfl, trivial⟩, ?_, ?_⟩
      · repeat' (first | exact eqvT_nil | refine eqvT_junk ?_ | refine eqvT_same ?_ | refine eqvT_int ?_ ?_)
        all_goals (rw [i64_in (by omega) (by omega)]; rfl)
      · refine ⟨⟨_, rfl, eqvB_refl _⟩, ⟨_, rfl, ⟨rfl, rfl, ?_⟩⟩, ⟨_, rfl, eqvB_refl _⟩, trivial⟩
        repeat' (first | exact eqvS_nil | refine eqvS_same ?_ | refine eqvS_ints ?_ ?_)
        exact loopf (g := fun j => (((numV p N 8 (seqR N 8 (r17 p N s) j))).toNat : Int))
  have hlt : i = 16 := by have h2 := of_decide_eq_false h1; omega
  subst hlt
  refine draw_but [0, 1] on rfl (fun _ _ h => h) ?_
  refine rone_k (r19 p N s) [] 0 2 1 79 3 (rflag_spec m base N K sp f p (r18 p N s) hN hK hp _) (fun _ => ⟨rfl, rfl⟩) ho rfl rfl rfl rfl (by decide) ⟨rfl, rfl⟩ (Cell.one rfl ⟨.junk, _, rfl⟩) (rfl) ?_
  clear ho; intro o ho
  repeat (refine need_intro (by first | rfl | exact fun h => h | simp) ?_)
  refine draw_but [0, 1] on rfl (fun _ _ h => h) ?_
  refine rone_k (r20 p N s) [] 0 2 1 80 4 (rdouble_spec m base N K sp f p (r19 p N s) hN hK hp _) (fun _ => ⟨rfl, rfl⟩) ho rfl rfl rfl rfl (by decide) ⟨rfl, rfl⟩ (Cell.one rfl ⟨.junk, _, rfl⟩) (rfl) ?_
  clear ho; intro o ho
  repeat (refine need_intro (by first | rfl | exact fun h => h | simp) ?_)
  refine draw_but [0, 1] on rfl (fun _ _ h => h) ?_
  refine rone_k (r21 p N s) [(1 : Int)] 0 2 1 81 5 (rplace_spec m base N K sp f p (r20 p N s) hN hK hp 1 (by decide) _) (fun _ => ⟨rfl, rfl⟩) ho rfl rfl rfl rfl (by decide) ⟨rfl, rfl⟩ (Cell.one rfl ⟨.junk, _, rfl⟩) (rfl) ?_
  clear ho; intro o ho
  repeat (refine need_intro (by first | rfl | exact fun h => h | simp) ?_)
  refine draw_but [0, 1] on rfl (fun _ _ h => h) ?_
  refine rone_k (r22 p N s) [] 0 2 1 83 6 (rword_spec m base N K sp f p (r21 p N s) hN hK hp _) (fun _ => ⟨rfl, rfl⟩) ho rfl rfl rfl rfl (by decide) ⟨rfl, rfl⟩ (Cell.one rfl ⟨.junk, _, rfl⟩) (rfl) ?_
  clear ho; intro o ho
  repeat (refine need_intro (by first | rfl | exact fun h => h | simp) ?_)
  refine draw_but [0, 1] on rfl (fun _ _ h => h) ?_
  refine rone_k (r23 p N s) [] 0 2 1 84 7 (rdouble_spec m base N K sp f p (r22 p N s) hN hK hp _) (fun _ => ⟨rfl, rfl⟩) ho rfl rfl rfl rfl (by decide) ⟨rfl, rfl⟩ (Cell.one rfl ⟨.junk, _, rfl⟩) (rfl) ?_
  clear ho; intro o ho
  repeat (refine need_intro (by first | rfl | exact fun h => h | simp) ?_)
  refine draw_but [0, 1] on rfl (fun _ _ h => h) ?_
  refine rone_k (r24 p N s) [] 0 2 1 85 8 (rdouble_spec m base N K sp f p (r23 p N s) hN hK hp _) (fun _ => ⟨rfl, rfl⟩) ho rfl rfl rfl rfl (by decide) ⟨rfl, rfl⟩ (Cell.one rfl ⟨.junk, _, rfl⟩) (rfl) ?_
  clear ho; intro o ho
  repeat (refine need_intro (by first | rfl | exact fun h => h | simp) ?_)
  refine draw_but [0, 1] on rfl (fun _ _ h => h) ?_
  refine rone_k (r25 p N s) [] 0 2 1 86 9 (rflag_spec m base N K sp f p (r24 p N s) hN hK hp _) (fun _ => ⟨rfl, rfl⟩) ho rfl rfl rfl rfl (by decide) ⟨rfl, rfl⟩ (Cell.one rfl ⟨.junk, _, rfl⟩) (rfl) ?_
  clear ho; intro o ho
  repeat (refine need_intro (by first | rfl | exact fun h => h | simp) ?_)
  refine draw_but [0, 1] on rfl (fun _ _ h => h) ?_
  refine rone_k (r26 p N s) [] 0 2 1 87 10 (rflag_spec m base N K sp f p (r25 p N s) hN hK hp _) (fun _ => ⟨rfl, rfl⟩) ho rfl rfl rfl rfl (by decide) ⟨rfl, rfl⟩ (Cell.one rfl ⟨.junk, _, rfl⟩) (rfl) ?_
  clear ho; intro o ho
  repeat (refine need_intro (by first | rfl | exact fun h => h | simp) ?_)
  refine draw_held on rfl (fun _ _ h => h) ?_
  repeat (refine need_intro rfl ?_)
  refine loop_times on 5 ?_
  refine Box.mk ?_
  refine need_intro (by decide) ?_
  refine rone_k (r27 p N s) [] 0 2 1 88 12 (roctet_spec m base N K sp f p (r26 p N s) hN hK hp _) (fun _ => ⟨rfl, rfl⟩) ho rfl rfl rfl rfl (by decide) ⟨rfl, rfl⟩ (Cell.one rfl ⟨.junk, _, rfl⟩) (rfl) ?_
  clear ho; intro o ho
  refine Box.mk ?_
  refine need_intro (by decide) ?_
  refine rone_k (r28 p N s) [] 0 2 1 89 13 (roctet_spec m base N K sp f p (r27 p N s) hN hK hp _) (fun _ => ⟨rfl, rfl⟩) ho rfl rfl rfl rfl (by decide) ⟨rfl, rfl⟩ (Cell.one rfl ⟨.junk, _, rfl⟩) (rfl) ?_
  clear ho; intro o ho
  refine Box.mk ?_
  refine need_intro (by decide) ?_
  refine rone_k (r29 p N s) [] 0 2 1 90 14 (roctet_spec m base N K sp f p (r28 p N s) hN hK hp _) (fun _ => ⟨rfl, rfl⟩) ho rfl rfl rfl rfl (by decide) ⟨rfl, rfl⟩ (Cell.one rfl ⟨.junk, _, rfl⟩) (rfl) ?_
  clear ho; intro o ho
  refine Box.mk ?_
  refine need_intro (by decide) ?_
  refine rone_k (r30 p N s) [] 0 2 1 91 15 (roctet_spec m base N K sp f p (r29 p N s) hN hK hp _) (fun _ => ⟨rfl, rfl⟩) ho rfl rfl rfl rfl (by decide) ⟨rfl, rfl⟩ (Cell.one rfl ⟨.junk, _, rfl⟩) (rfl) ?_
  clear ho; intro o ho
  refine Box.mk ?_
  refine draw_but [0, 1] on rfl (fun _ _ h => h) ?_
  refine rone_k (r31 p N s) [] 0 2 1 92 16 (rflag_spec m base N K sp f p (r30 p N s) hN hK hp _) (fun _ => ⟨rfl, rfl⟩) ho rfl rfl rfl rfl (by decide) ⟨rfl, rfl⟩ (Cell.one rfl ⟨.junk, _, rfl⟩) (rfl) ?_
  clear ho; intro o ho
  repeat (refine need_intro (by first | rfl | exact fun h => h | simp) ?_)
  refine draw_but [0, 1] on rfl (fun _ _ h => h) ?_
  refine rone_k (r32 p N s) [(1 : Int)] 0 2 1 95 17 (rplace_spec m base N K sp f p (r31 p N s) hN hK hp 1 (by decide) _) (fun _ => ⟨rfl, rfl⟩) ho rfl rfl rfl rfl (by decide) ⟨rfl, rfl⟩ (Cell.one rfl ⟨.junk, _, rfl⟩) (rfl) ?_
  clear ho; intro o ho
  repeat (refine need_intro (by first | rfl | exact fun h => h | simp) ?_)
  refine draw_but [0, 1] on rfl (fun _ _ h => h) ?_
  refine rone_k (r33 p N s) [(4 : Int)] 0 2 1 96 18 (rplace_spec m base N K sp f p (r32 p N s) hN hK hp 4 (by decide) _) (fun _ => ⟨rfl, rfl⟩) ho rfl rfl rfl rfl (by decide) ⟨rfl, rfl⟩ (Cell.one rfl ⟨.junk, _, rfl⟩) (rfl) ?_
  clear ho; intro o ho
  repeat (refine need_intro (by first | rfl | exact fun h => h | simp) ?_)
  refine draw_but [0, 1] on rfl (fun _ _ h => h) ?_
  refine Does.cell (rlist_spec m base N K sp f p (r33 p N s) hN hK hp 1 64 (by decide) o ho) [0, 19, 2] 1 93 19 rfl rfl (Cell.one rfl ⟨.junk, _, rfl⟩) ⟨rfl, rfl, rfl, trivial⟩ ⟨.inl ⟨rfl, rfl⟩, ptrTo_part ⟨rfl, rfl⟩, rfl, rfl, trivial⟩ (by decide) ?_ ?_ ?_
  · rintro v h' ⟨o', _, _, rfl⟩
    exact ⟨.inl rfl, .inl rfl, .inr (.inr rfl), .inl rfl, trivial⟩
  · rintro v h' ⟨o', _, _, rfl⟩
    exact Nat.le_succ _
  clear ho
  rintro v h' ⟨o, ho, rfl, rfl⟩
  refine ⟨_, _, rfl, rfl, ?_⟩
  repeat (refine need_intro (by first | rfl | exact fun h => h | simp) ?_)
  refine draw_but [0, 1] on rfl (fun _ _ h => h) ?_
  refine Does.cell (rlist_spec m base N K sp f p (r34 p N s) hN hK hp 2 4096 (by decide) o ho) [0, 21, 2] 1 94 21 rfl rfl (Cell.one rfl ⟨.junk, _, rfl⟩) ⟨rfl, rfl, rfl, trivial⟩ ⟨.inl ⟨rfl, rfl⟩, ptrTo_part ⟨rfl, rfl⟩, rfl, rfl, trivial⟩ (by decide) ?_ ?_ ?_
  · rintro v h' ⟨o', _, _, rfl⟩
    exact ⟨.inl rfl, .inl rfl, .inr (.inr rfl), .inl rfl, trivial⟩
  · rintro v h' ⟨o', _, _, rfl⟩
    exact Nat.le_succ _
  clear ho
  rintro v h' ⟨o, ho, rfl, rfl⟩
  refine ⟨_, _, rfl, rfl, ?_⟩
  repeat (refine need_intro (by first | rfl | exact fun h => h | simp) ?_)
  refine ⟨.tuple [], _, [0, 1, 2, 20, 22], ⟨o, ho, rfl, rfl⟩, by decide, ⟨rfl, rfl, rfl, trivial⟩, trivial, ⟨_, rfl, eqvB_refl _⟩, ⟨_, rfl, ⟨rfl, rfl, ?_⟩⟩, ⟨_, rfl, eqvB_refl _⟩, ⟨_, rfl, eqvB_refl _⟩, ⟨_, rfl, eqvB_refl _⟩, trivial⟩
  show eqvS _ _
  repeat' (first | exact eqvS_nil | refine eqvS_same ?_ | refine eqvS_ints ?_ ?_)
  all_goals (intro j hj; show (if j < _ then _ else _) = _; rw [if_pos hj]; rfl)
end Go.Proofs.YtdlpmbghocabbaaGreatDoor

/- The document's reader: bytes and numbers off the front. Contracts of functions. No condition. -/
namespace Go.Proofs.YtdlpmbghocabbaaGreatDoor
open Go Go.Anv
end Go.Proofs.YtdlpmbghocabbaaGreatDoor

/- The document's reader: list, Cpu, devices. Contracts of functions. No condition. -/
namespace Go.Anv
open Go
theorem takeR_bad {N k : Nat} {s : Rs} (h : s.bad = true) : takeR N k s = ⟨s.at_, true⟩ := if_pos (.inl h)
theorem listOk_pre {p : Nat → B8} {N size most : Nat} {s : Rs} (h : listOk p N size most s = true) : s.bad = false := by
  cases hb : s.bad
  · rfl
  · exfalso
    unfold listOk lenR at h
    rw [takeR_bad hb] at h
    simp at h
theorem listR_bad (p : Nat → B8) (N size most : Nat) (s : Rs) : (listR p N size most s).bad = !listOk p N size most s := by
  unfold listR takeR listOk
  cases hb : (lenR p N size most s).bad
  · by_cases h : N - (lenR p N size most s).at_ < (numV p N size s).toNat
    · rw [if_pos (.inr h), decide_eq_false (by omega)]; rfl
    · rw [if_neg (by rintro (h1 | h1); cases h1; exact h h1), decide_eq_true (by omega)]; rfl
  · rw [if_pos (.inl rfl)]; rfl
theorem loopg {n i : Nat} {g : Nat → Int} {x : Int} (hx : x = g i) : ∀ j, j < n → (if j = i then x else if j < i then g j else 0) = if j < i + 1 then g j else 0 := hx ▸ loopf
def zcpu : List Seg := [.one (.int .u64 0), .ints .u64 32 (fun _ => 0), .one (.int .i64 0), .one (.bool false), .one (.int .u64 0), .one (.int .u64 0), .one (.int .u64 0), .one (.int .u64 0), .one (.int .u64 0), .one (.int .u64 0), .one (.int .u64 0), .one (.int .u64 0), .one (.int .u64 0), .one (.int .u64 0), .one (.int .u64 0), .one (.int .u64 0), .ints .u8 16 (fun _ => 0), .ints .u64 16 (fun _ => 0), .one (.bool false), .one (.int .u64 0), .one (.int .i64 0)]
def zbus : List Seg := [.one .nilslice, .one (.int .u32 0), .one (.int .u64 0), .one (.int .u64 0), .one (.bool false), .one (.bool false), .one (.int .u8 0), .one (.int .u8 0), .one (.int .u8 0), .one (.int .u8 0), .one (.bool false), .one .nilslice, .one .nilslice, .one (.int .i64 0), .one (.int .i64 0)]
end Go.Anv
namespace Go.Proofs.YtdlpmbghocabbaaGreatDoor
open Go Go.Anv
section main
variable (m : Bool) (N K sp cp : Nat) (f : Nat → Int) (p : Nat → B8) (s : Rs) (hN : N ≤ 2 ^ 40) (hcp : N ≤ cp) (hK : N ≤ K) (hp : ∀ j, j < N → f j = (p j).toNat)
include hN hcp hK hp
end main
end Go.Proofs.YtdlpmbghocabbaaGreatDoor

/- The ram's pages read: plain specification; the program's pages. No condition. -/
namespace Go.Anv
open Go
def putMem (mem : Nat → B8) (o len : Nat) (p : Nat → B8) (a : Nat) (j : Nat) : B8 := if o ≤ j ∧ j < o + len then p (a + (j - o)) else mem j
/-- The pages, one behind the other: at most so many rounds. -/
def ramGo (p : Nat → B8) (N n : Nat) : Nat → Nat → Rs → (Nat → B8) → Option (Rs × (Nat → B8))
  | 0, _, _, _ => none
  | F + 1, least, s, mem =>
    if (takeR N 2 s).bad = true then none
    else if (numV p N 2 s).toNat = 65535 then some (takeR N 2 s, mem)
    else if (numV p N 2 s).toNat < least ∨ n ≤ 256 * (numV p N 2 s).toNat then none
    else if N - (takeR N 2 s).at_ < min (256 * (numV p N 2 s).toNat + 256) n - 256 * (numV p N 2 s).toNat then none
    else if Go.Proofs.YtdlpmbghocabbaaGreatDoor.blankN (fun t => p ((takeR N 2 s).at_ + t)) (min (256 * (numV p N 2 s).toNat + 256) n - 256 * (numV p N 2 s).toNat) = true then none
    else ramGo p N n F ((numV p N 2 s).toNat + 1) ⟨(takeR N 2 s).at_ + (min (256 * (numV p N 2 s).toNat + 256) n - 256 * (numV p N 2 s).toNat), false⟩
      (putMem mem (256 * (numV p N 2 s).toNat) (min (256 * (numV p N 2 s).toNat + 256) n - 256 * (numV p N 2 s).toNat) p (takeR N 2 s).at_)
def ramN (p : Nat → B8) (N : Nat) (s : Rs) : Nat := (numV p N 4 s).toNat
def ramOk (p : Nat → B8) (N : Nat) (s : Rs) : Bool := !(takeR N 4 s).bad && (decide (8 ≤ ramN p N s) && decide (ramN p N s ≤ 65536) && decide (ramN p N s % 8 = 0))
def ramR (p : Nat → B8) (N : Nat) (s : Rs) : Option (Rs × (Nat → B8)) := if ramOk p N s = true then ramGo p N (ramN p N s) 257 0 (takeR N 4 s) (fun _ => 0#8) else none
theorem num_small (p : Nat → B8) (N k : Nat) (s : Rs) (hk : k ≤ 4) : (numV p N k s).toNat < 2 ^ (8 * k) := by
  unfold numV
  split
  · show (0 : Nat) < _; exact Nat.pow_pos (by decide)
  · exact hi_lt p s.at_ k k (by omega)
theorem ramcond (n : Nat) : (bif (bif decide ((n : Int) < 8) then true else decide ((n : Int) > 65536)) then true else ((n : Int)).tmod 8 != 0) = !(decide (8 ≤ n) && decide (n ≤ 65536) && decide (n % 8 = 0)) := by
  have e : ((n : Int)).tmod 8 = ((n % 8 : Nat) : Int) := by rw [Int.tmod_eq_emod_of_nonneg (by omega)]; omega
  rw [e]
  by_cases a : 8 ≤ n
  · by_cases b : n ≤ 65536
    · rw [decide_eq_false (by omega), decide_eq_false (by omega), decide_eq_true a, decide_eq_true b]
      by_cases c : n % 8 = 0
      · rw [c]; rfl
      · rw [decide_eq_false c]
        have : (((n % 8 : Nat) : Int) != 0) = true := by rw [bne_iff_ne]; omega
        rw [this]; rfl
    · rw [decide_eq_false (p := (n : Int) < 8) (by omega), decide_eq_true (p := (n : Int) > 65536) (by omega), decide_eq_false b, decide_eq_true a]; rfl
  · rw [decide_eq_true (p := (n : Int) < 8) (by omega), decide_eq_false a]; rfl
theorem ramOk_eq (p : Nat → B8) (N : Nat) (s : Rs) : ramOk p N s = (!(takeR N 4 s).bad && (decide (8 ≤ ramN p N s) && decide (ramN p N s ≤ 65536) && decide (ramN p N s % 8 = 0))) := rfl
theorem ramGo_bad {p : Nat → B8} {N n F least : Nat} {s : Rs} {mem : Nat → B8} (h : (takeR N 2 s).bad = true) : ramGo p N n (F + 1) least s mem = none := by unfold ramGo; rw [if_pos h]
end Go.Anv
namespace Go.Proofs.YtdlpmbghocabbaaGreatDoor
open Go Go.Anv
set_option maxRecDepth 100000 in
set_option maxHeartbeats 2000000 in
theorem rpagesR_spec (m : Bool) (base N K sp : Nat) (f : Nat → Int) (p : Nat → B8) (s : Rs) (hN : N ≤ 2 ^ 40) (hK : base + N ≤ K) (hp : ∀ j, j < N → f (base + j) = (p j).toNat) (o : Nat) (ho : RdAt base N s o) :
    Does TB 43 [.s (.ptr 0 0)] [rdb 1 N s o, .cells m [.ints .u8 K f] sp]
      (fun v h' => (∃ s' mem o', ramR p N s = some (s', mem) ∧ s'.bad = false ∧ RdAt base N s' o' ∧ v = .s (.gs 2 0 (ramN p N s) (ramN p N s)) ∧ h' = [rdb 1 N s' o', .cells m [.ints .u8 K f] sp, bblk true (ramN p N s) mem 0]) ∨
        (ramR p N s = none ∧ ∃ s' o', s'.bad = true ∧ v = .s .nilslice ∧ h' = [rdb 1 N s' o', .cells m [.ints .u8 K f] sp])) := by
  refine fnX_does TB Tryz.func43 rfl (by decide) (fun O on hO => ?_)
  refine rnum_k 0 1 p 4 hN (by decide) ho hK hp rfl rfl (by decide) ?_
  intro o1 ho1
  have hv := num_small p N 4 s (by decide)
  have hi64 : IntKind.i64.wrap ((numV p N 4 s).toNat : Int) = ((ramN p N s : Nat) : Int) := i64_in (by omega) (by omega)
  repeat (refine need_intro (by first | exact fun h => h | exact fun _ => rfl | rfl | (simp; done) | fail) ?_)
  refine ifB_intro (fun h1 => ?_) (fun h1 => ?_)
  · replace h1 : (bif (bif decide (IntKind.i64.wrap ((numV p N 4 s).toNat : Int) < 8) then true else decide (IntKind.i64.wrap ((numV p N 4 s).toNat : Int) > 65536)) then true else (IntKind.i64.wrap ((numV p N 4 s).toNat : Int)).tmod 8 != 0) = true := h1
    rw [hi64, ramcond] at h1
    have hno : ramR p N s = none := by
      unfold ramR
      rw [if_neg]
      rw [ramOk_eq]
      intro h2
      rw [Bool.and_eq_true] at h2
      rw [h2.2] at h1
      cases h1
    exact ⟨.s .nilslice, _, [0, 1], .inr ⟨hno, ⟨(takeR N 4 s).at_, true⟩, o1, rfl, rfl, rfl⟩, by decide, ⟨rfl, rfl, trivial⟩, rfl, ⟨_, rfl, eqvB_refl _⟩, ⟨_, rfl, eqvB_refl _⟩, trivial⟩
  · replace h1 : (bif (bif decide (IntKind.i64.wrap ((numV p N 4 s).toNat : Int) < 8) then true else decide (IntKind.i64.wrap ((numV p N 4 s).toNat : Int) > 65536)) then true else (IntKind.i64.wrap ((numV p N 4 s).toNat : Int)).tmod 8 != 0) = false := h1
    rw [hi64, ramcond] at h1
    have h1' : (decide (8 ≤ ramN p N s) && decide (ramN p N s ≤ 65536) && decide (ramN p N s % 8 = 0)) = true := by
      cases h : (decide (8 ≤ ramN p N s) && decide (ramN p N s ≤ 65536) && decide (ramN p N s % 8 = 0))
      · rw [h] at h1; cases h1
      · rfl
    have hn : 8 ≤ ramN p N s ∧ ramN p N s ≤ 65536 := by
      simp only [Bool.and_eq_true, decide_eq_true_eq] at h1'
      exact h1'.1
    refine ifB_intro (fun hb => ?_) (fun hb => ?_)
    · have hno : ramR p N s = none := by
        unfold ramR
        rw [if_neg]
        rw [ramOk_eq]
        intro h2
        rw [Bool.and_eq_true] at h2
        replace hb : (takeR N 4 s).bad = true := hb
        rw [hb] at h2
        cases h2.1
      exact ⟨.s .nilslice, _, [0, 1], .inr ⟨hno, takeR N 4 s, o1, hb, rfl, rfl⟩, by decide, ⟨rfl, rfl, trivial⟩, rfl, ⟨_, rfl, eqvB_refl _⟩, ⟨_, rfl, eqvB_refl _⟩, trivial⟩
    · replace hb : (takeR N 4 s).bad = false := hb
      have hR : ramR p N s = ramGo p N (ramN p N s) 257 0 (takeR N 4 s) (fun _ => 0#8) := by
        unfold ramR
        rw [if_pos]
        rw [ramOk_eq, hb, h1']; rfl
      rw [hR]
      generalize hz : ramN p N s = n at *
      refine need_intro ⟨by rw [hi64]; omega, by omega, by rw [hi64]; omega, by rw [hi64]; show ((1 : Nat) : Int) * _ ≤ _; omega⟩ ?_
      have hs1 : takeR N 4 s = ⟨(takeR N 4 s).at_, false⟩ := by rw [← hb]
      generalize hR2 : ramGo p N n 257 0 (takeR N 4 s) (fun _ => 0#8) = R
      rw [hs1] at hR2 ho1
      refine loop_by (A := Nat × Nat × Nat × (Nat → B8)) on (fun x => [(3, .s (.int .i64 (n : Int))), (5, .s (.int .i64 (x.1 : Int))), (4, .s (.gs 2 0 n n)), (31, .junk)]) (fun x => [rdb 1 N ⟨x.2.1, false⟩ x.2.2.1, .cells m [.ints .u8 K f] sp, bblk true n x.2.2.2 0])
        (fun x => x.1 ≤ 256 ∧ RdAt base N ⟨x.2.1, false⟩ x.2.2.1 ∧ ∃ F, 257 - x.1 ≤ F ∧ ramGo p N n F x.1 ⟨x.2.1, false⟩ x.2.2.2 = R) (fun x => 257 - x.1) (0, (takeR N 4 s).at_, o1, fun _ => 0#8) ⟨Nat.zero_le _, ho1, 257, Nat.le_refl _, hR2⟩ ?_ ?_
      · refine ⟨?_, ?_, eqvB_refl _, ?_, trivial⟩
        · repeat' (first | exact eqvT_nil | refine eqvT_junk ?_ | refine eqvT_same ?_ | refine eqvT_int ?_ ?_ | refine eqvT_sgs ⟨rfl, rfl, ?_, ?_⟩ ?_)
          · exact hi64
          · rw [hi64]; rfl
          · rw [hi64]; rfl
        · show eqvB (rdb 1 N (takeR N 4 s) o1) (rdb 1 N ⟨(takeR N 4 s).at_, false⟩ o1)
          rw [← hs1]; exact eqvB_refl _
        · refine ⟨rfl, ?_, ⟨⟨rfl, ?_, fun _ _ => rfl⟩, trivial⟩⟩
          · rw [hi64]; show (n : Int).toNat - (n : Int).toNat = 0; omega
          · rw [hi64]; rfl
      · rintro ⟨least, a, o, mem⟩ ⟨hl, ho2, F0, hF0, hG⟩
        replace hl : least ≤ 256 := hl
        replace ho2 : RdAt base N ⟨a, false⟩ o := ho2
        replace hF0 : 257 - least ≤ F0 := hF0
        obtain ⟨F, rfl⟩ : ∃ F, F0 = F + 1 := ⟨F0 - 1, by omega⟩
        replace hG : ramGo p N n (F + 1) least ⟨a, false⟩ mem = R := hG
        refine rnum_k 0 1 (s := ⟨a, false⟩) p 2 hN (by decide) ho2 hK hp rfl rfl (by decide) ?_
        intro o3 ho3
        have hv2 := num_small p N 2 ⟨a, false⟩ (by decide)
        have hk64 : IntKind.i64.wrap ((numV p N 2 ⟨a, false⟩).toNat : Int) = (((numV p N 2 ⟨a, false⟩).toNat : Nat) : Int) := i64_in (by omega) (by omega)
        unfold ramGo at hG
        generalize hz2 : (numV p N 2 ⟨a, false⟩).toNat = z at *
        generalize hs2 : takeR N 2 ⟨a, false⟩ = s2 at *
        repeat (refine need_intro (by first | exact fun h => h | exact fun _ => rfl | rfl | (simp; done) | fail) ?_)
        have hw256 : IntKind.i64.wrap (IntKind.i64.wrap (z : Int) * 256) = ((256 * z : Nat) : Int) := by rw [hk64, i64_in (by omega) (by omega)]; omega
        refine ifB_intro (fun h2 => ?_) (fun h2 => ?_)
        · replace h2 : (bif IntKind.i64.wrap (z : Int) == 65535 then !s2.bad else false) = true := h2
          rw [hk64] at h2
          have hb2 : s2.bad = false := by cases h : s2.bad; rfl; rw [h] at h2; simp at h2
          have hz3 : z = 65535 := by
            by_cases h : z = 65535
            · exact h
            · have : (((z : Nat) : Int) == 65535) = false := by rw [beq_eq_false_iff_ne]; omega
              rw [this] at h2; cases h2
          rw [if_neg (by rw [hb2]; decide), if_pos hz3] at hG
          exact ⟨.s (.gs 2 0 n n), _, [0, 1, 2], .inl ⟨s2, mem, o3, hG.symm, hb2, ho3, rfl, rfl⟩, by decide, ⟨rfl, rfl, trivial⟩, ⟨rfl, rfl, rfl, rfl⟩, ⟨_, rfl, eqvB_refl _⟩, ⟨_, rfl, eqvB_refl _⟩, ⟨_, rfl, eqvB_refl _⟩, trivial⟩
        · replace h2 : (bif IntKind.i64.wrap (z : Int) == 65535 then !s2.bad else false) = false := h2
          rw [hk64] at h2
          repeat (refine need_intro (by first | exact fun h => h | exact fun _ => rfl | rfl | (simp; done) | fail) ?_)
          refine ifB_intro (fun h3 => ?_) (fun h3 => ?_)
          · replace h3 : (bif (bif s2.bad then true else decide (IntKind.i64.wrap (z : Int) < (least : Int))) then true else decide (IntKind.i64.wrap (IntKind.i64.wrap (z : Int) * 256) ≥ (n : Int))) = true := h3
            rw [hw256, hk64] at h3
            have hno : R = none := by
              rw [← hG]
              cases hb2 : s2.bad
              · rw [hb2] at h2 h3
                have hz3 : z ≠ 65535 := by rintro rfl; simp at h2
                rw [if_neg (by decide), if_neg hz3, if_pos]
                by_cases h4 : z < least
                · exact .inl h4
                · rw [decide_eq_false (p := ((z : Nat) : Int) < (least : Int)) (by omega)] at h3
                  have h5 := of_decide_eq_true h3
                  exact .inr (by omega)
              · exact if_pos rfl
            exact ⟨.s .nilslice, _, [0, 1], .inr ⟨hno, ⟨s2.at_, true⟩, o3, rfl, rfl, rfl⟩, by decide, ⟨rfl, rfl, trivial⟩, rfl, ⟨_, rfl, eqvB_refl _⟩, ⟨_, rfl, eqvB_refl _⟩, trivial⟩
          · replace h3 : (bif (bif s2.bad then true else decide (IntKind.i64.wrap (z : Int) < (least : Int))) then true else decide (IntKind.i64.wrap (IntKind.i64.wrap (z : Int) * 256) ≥ (n : Int))) = false := h3
            rw [hw256, hk64] at h3
            have hb2 : s2.bad = false := by cases h : s2.bad; rfl; rw [h] at h3; simp at h3
            rw [hb2] at h2 h3
            have hz3 : z ≠ 65535 := by rintro rfl; simp at h2
            have h4 : least ≤ z ∧ 256 * z < n := by
              by_cases h4 : z < least
              · rw [decide_eq_true (p := ((z : Nat) : Int) < (least : Int)) (by omega)] at h3; cases h3
              · rw [decide_eq_false (p := ((z : Nat) : Int) < (least : Int)) (by omega)] at h3
                have h5 := of_decide_eq_false h3
                omega
            rw [if_neg (by rw [hb2]; decide), if_neg hz3, if_neg (by omega)] at hG
            refine args_eq (b := [.s (.gs 2 0 n n), .s (.int .i64 ((256 * z : Nat) : Int))]) (by rw [← hw256]) ?_
            refine Does.at (cut_spec true n n n 0 (256 * z) (bfun mem) (by omega) (by omega) (by omega)) [2] rfl ⟨rfl, trivial⟩ (by decide) ?_ ?_
            · rintro v h' ⟨_, rfl⟩
              exact ⟨.inr (.inr rfl), trivial⟩
            rintro v h' ⟨rfl, rfl⟩
            have hsk : skip (min (256 * z + 256) n) (256 * z) 0 1 = 256 * z := by
              unfold skip
              rw [if_neg (by omega)]
              omega
            rw [hsk]
            generalize hlen : min (256 * z + 256) n - 256 * z = len at *
            have hs2' : s2 = ⟨s2.at_, false⟩ := by rw [← hb2]
            refine rtake_k 0 1 (s := s2) len rfl hN (by omega) ho3 rfl rfl (by decide) ?_ ?_
            · intro hf
              have hno : R = none := by
                rw [← hG]
                rcases hf with h | h
                · rw [hb2] at h; cases h
                · exact if_pos h
              repeat (refine need_intro (by first | exact fun h => h | exact fun _ => rfl | rfl | (simp; done) | fail) ?_)
              exact ⟨.s .nilslice, _, [0, 1], .inr ⟨hno, ⟨s2.at_, true⟩, o3, rfl, rfl, rfl⟩, by decide, ⟨rfl, rfl, trivial⟩, rfl, ⟨_, rfl, eqvB_refl _⟩, ⟨_, rfl, eqvB_refl _⟩, trivial⟩
            · intro hf o4 ho4
              have hfit : ¬ N - s2.at_ < len := fun h => hf (.inr h)
              rw [if_neg hfit] at hG
              repeat (refine need_intro (by first | exact fun h => h | exact fun _ => rfl | rfl | (simp; done) | fail) ?_)
              have ho5 : o3 = base + s2.at_ := ho3.2.1 (by omega)
              have hat : s2.at_ + len ≤ N := ho4.1
              refine Does.ungd (b := [_]) ⟨⟨rfl, rfl⟩, trivial⟩ ?_
              refine Does.at (blank_spec m K o3 len len sp f (fun t => p (s2.at_ + t)) (by omega) (by omega) (fun j hj => by rw [ho5, Nat.add_assoc, hp _ (by omega)])) [1] rfl ⟨rfl, trivial⟩ (by decide) ?_ ?_
              · rintro v h' ⟨_, rfl⟩
                exact ⟨.inr (.inr rfl), trivial⟩
              rintro v h' ⟨rfl, rfl⟩
              refine ifB_intro (fun h6 => ?_) (fun h6 => ?_)
              · replace h6 : blankN (fun t => p (s2.at_ + t)) len = true := h6
                rw [if_pos h6] at hG
                exact ⟨.s .nilslice, _, [0, 1], .inr ⟨hG.symm, ⟨s2.at_ + len, true⟩, o4, rfl, rfl, rfl⟩, by decide, ⟨rfl, rfl, trivial⟩, rfl, ⟨_, rfl, eqvB_refl _⟩, ⟨_, rfl, eqvB_refl _⟩, trivial⟩
              · replace h6 : blankN (fun t => p (s2.at_ + t)) len = false := h6
                rw [if_neg (by rw [h6]; decide)] at hG
                refine need_intro ⟨by show o3 + len ≤ K; omega, by show 256 * z + len ≤ n; omega⟩ ?_
                have hzw : IntKind.i64.wrap (IntKind.i64.wrap (z : Int) + 1) = ((z + 1 : Nat) : Int) := by rw [hk64, i64_in (by omega) (by omega)]; rfl
                refine ⟨(z + 1, s2.at_ + len, o4, putMem mem (256 * z) len p s2.at_), ⟨?_, ho4, F, ?_, hG⟩, ?_, ?_, ?_⟩
                · show z + 1 ≤ 256; omega
                · show 257 - (z + 1) ≤ F; omega
                · show 257 - (z + 1) < 257 - least; omega
                · repeat' (first | exact eqvT_nil | refine eqvT_junk ?_ | refine eqvT_same ?_ | refine eqvT_int ?_ ?_)
                  exact hzw
                · refine eqvH_same (eqvH_same (eqvH_cells ⟨⟨rfl, rfl, fun j hj => ?_⟩, trivial⟩ eqvH_nil))
                  show putF (256 * z) (min len len) (shf o3 f) (bfun mem) j = bfun (putMem mem (256 * z) len p s2.at_) j
                  rw [Nat.min_self]
                  unfold putF bfun putMem
                  split
                  · show f (o3 + (j - 256 * z)) = _
                    rw [ho5, Nat.add_assoc, hp _ (by omega)]
                  · rfl
end Go.Proofs.YtdlpmbghocabbaaGreatDoor

/- The document's ram, read. Contract of a function. No condition. -/
namespace Go.Anv
open Go
theorem numV_bad {p : Nat → B8} {N k : Nat} {s : Rs} (h : (takeR N k s).bad = true) : numV p N k s = 0#64 := by
  unfold takeR at h
  unfold numV
  split at h
  · rename_i h1; exact if_pos h1
  · cases h
theorem takeR_at {N k : Nat} {s : Rs} (h : s.at_ ≤ N) : (takeR N k s).at_ ≤ N := by
  unfold takeR
  split
  · exact h
  · rename_i h1
    simp only [not_or, Nat.not_lt] at h1
    show s.at_ + k ≤ N
    omega
end Go.Anv
namespace Go.Proofs.YtdlpmbghocabbaaGreatDoor
open Go Go.Anv
theorem blank_zero : ∀ n, blankN (fun _ => 0#8) n = true
  | 0 => rfl
  | n + 1 => by simp [blankN, blank_zero n]
theorem rramcond (b : Bool) (n : Nat) : (bif (bif (bif b then true else decide ((n : Int) < 8)) then true else decide ((n : Int) > 65536)) then true else ((n : Int)).tmod 8 != 0) = !(!b && (decide (8 ≤ n) && decide (n ≤ 65536) && decide (n % 8 = 0))) := by
  cases b
  · exact ramcond n
  · rfl
end Go.Proofs.YtdlpmbghocabbaaGreatDoor

/- Strings of bytes compared; a prefix. Plain lemmas, contracts of functions. No condition. -/
namespace Go.Anv
open Go
def magicF (j : Nat) : B8 := magic.getD j 0#8
end Go.Anv
namespace Go.Proofs.YtdlpmbghocabbaaGreatDoor
open Go Go.Anv
set_option maxRecDepth 100000 in
theorem prefix_spec (m1 m2 : Bool) (n c k1 s1 s2 : Nat) (f1 f2 : Nat → Int) (p q : Nat → B8) (hn : 8 ≤ n) (hk : n ≤ k1) (hc : n ≤ c) (hf : ∀ j, j < 8 → f1 j = (p j).toNat) (hg : ∀ j, j < 8 → f2 j = (q j).toNat) :
    Does TB 41 [.s (.gs 0 0 n c), .s (.gs 1 0 8 8)] [.cells m1 [.ints .u8 k1 f1] s1, .cells m2 [.ints .u8 8 f2] s2] (fun v h' => v = .s (.bool (eqB 8 p q)) ∧ h' = [.cells m1 [.ints .u8 k1 f1] s1, .cells m2 [.ints .u8 8 f2] s2]) := by
  refine fnX_does TB Tryz.func41 rfl (by decide) (fun O on hO => ?_)
  have hge : decide ((n : Int) ≥ 8) = true := decide_eq_true (by omega)
  repeat (refine need_intro (by first | exact fun h => h | exact fun _ => rfl | rfl | (simp; done) | fail) ?_)
  refine need_intro (fun _ => ⟨by omega, by omega, by omega⟩) ?_
  repeat (refine need_intro (by first | exact fun h => h | exact fun _ => rfl | rfl | (simp; done) | fail) ?_)
  refine ifB_intro (fun _ => ?_) (fun h => absurd (h.symm.trans hge) (by decide))
  have hsk : skip c 0 0 1 = 0 := by unfold skip; split <;> rfl
  refine Does.ungd (b := [_, _]) ⟨⟨hge, rfl⟩, ⟨hge, rfl⟩, trivial⟩ ?_
  refine Does.args (b := [.s (.gs 0 0 8 c), .s (.gs 1 0 8 8)]) ⟨⟨rfl, hsk, rfl, rfl⟩, eqvE_refl _, trivial⟩ ?_
  refine Does.at (equal_spec m1 m2 0 0 8 c 8 k1 8 s1 s2 f1 f2 p q (by omega) (by omega) (fun j hj => by rw [Nat.zero_add]; exact hf j hj) (fun j hj => by rw [Nat.zero_add]; exact hg j hj)) [0, 1] rfl ⟨rfl, rfl, trivial⟩ (by decide) ?_ ?_
  · rintro v h' ⟨_, rfl⟩
    exact ⟨.inr (.inr rfl), .inr (.inr rfl), trivial⟩
  rintro v h' ⟨rfl, rfl⟩
  repeat (refine need_intro (by first | exact fun h => h | exact fun _ => rfl | rfl | (simp; done) | fail) ?_)
  refine ⟨_, _, [0, 1], ⟨rfl, rfl⟩, by decide, ⟨rfl, rfl, trivial⟩, ?_, ⟨⟨_, rfl, eqvB_refl _⟩, ⟨_, rfl, eqvB_refl _⟩, trivial⟩⟩
  show (bif decide ((n : Int) ≥ 8) then eqB 8 p q else false) = eqB 8 p q
  rw [hge]; rfl
end Go.Proofs.YtdlpmbghocabbaaGreatDoor

/- The program's Load. Contracts of functions. No condition. -/
namespace Go.Anv
open Go
/-- Is a Cpu proper? -/
def cpEq (c : CpuV) : Bool := match eqSeg c.proper.segs c.segs with
  | some b => b
  | none => false
def foot (p : Nat → B8) (N : Nat) : BitVec 32 := (hi (fun j => p (N + j)) 0 4 4).setWidth 32
def startR : Rs := ⟨8, false⟩
/-- What Load comes to: the error's number, 0: none; the ram. -/
def loadOut (p : Nat → B8) (n : Nat) : Nat × (Nat → B8) :=
  if n < 12 ∨ 72000 < n ∨ eqB 8 p magicF = false then (161, fun _ => 0#8)
  else if foot p (n - 4) ≠ ~~~ crcN p (n - 4) then (160, fun _ => 0#8)
  else match ramR p (n - 4) (bothR p (n - 4) startR) with
    | none => (161, fun _ => 0#8)
    | some (s', mem) => if s'.at_ ≠ n - 4 then (161, fun _ => 0#8)
      else if cpEq (cpuR p (n - 4) startR) = true ∧ (busR (ramN p (n - 4) (bothR p (n - 4) startR)) p (n - 4) startR).can = true then (0, mem) else (162, fun _ => 0#8)
/-- The cells of the whole that is loaded. -/
def loadW (p : Nat → B8) (n : Nat) : BusV := busR (ramN p (n - 4) (bothR p (n - 4) startR)) p (n - 4) startR
/-- What a call of Load leaves of the bytes' block B. -/
def Loaded (p : Nat → B8) (n : Nat) (B : Blk) (v : EV) (h' : List Blk) : Prop :=
  ((loadOut p n).1 ≠ 0 ∧ v = .tuple [.agg zwhole, .s (.int .i64 ((loadOut p n).1 : Nat))] ∧ h' = [B]) ∨
  ((loadOut p n).1 = 0 ∧ ∃ cr ci co, ((loadW p n).nr ≤ cr ∧ (loadW p n).ni ≤ ci ∧ (loadW p n).no ≤ co) ∧ v = .tuple [.agg (wsegs (cpuR p (n - 4) startR) (loadW p n) (.gs 1 0 (loadW p n).nr cr) (.gs 2 0 (loadW p n).ni ci) (.gs 3 0 (loadW p n).no co)), .s (.int .i64 0)] ∧
    h' = [B, bblk true (loadW p n).nr (loadOut p n).2 (cr - (loadW p n).nr), bblk true (loadW p n).ni (inR p (n - 4) startR) (ci - (loadW p n).ni), bblk true (loadW p n).no (outR p (n - 4) startR) (co - (loadW p n).no)])
end Go.Anv
namespace Go.Proofs.YtdlpmbghocabbaaGreatDoor
open Go Go.Anv
theorem listN_lt (p : Nat → B8) (N size most : Nat) (s : Rs) (h : size ≤ 4) : listN p N size most s < 2 ^ 32 := by
  unfold listN
  split
  · exact Nat.lt_of_lt_of_le (num_small p N size s h) (Nat.pow_le_pow_right (by decide) (by omega))
  · decide
set_option maxRecDepth 100000 in
theorem take4_spec (m : Bool) (o c K sp : Nat) (f : Nat → Int) (hc : 4 ≤ c) :
    Does TB 77 [.s (.ptr 0 0), .s (.int .i64 4)] [.cells true [.one (.gs 1 o 4 c), .one (.bool false)] 0, .cells m [.ints .u8 K f] sp]
      (fun v h' => v = .s (.gs 1 o 4 4) ∧ h' = [.cells true [.one (.gs 1 (skip c 4 o 1) 0 (c - 4)), .one (.bool false)] 0, .cells m [.ints .u8 K f] sp]) := by
  refine fnX_does TB Tryz.func77 rfl (by decide) (fun O on hO => ?_)
  repeat (refine need_intro (by first | exact fun h => h | exact fun _ => rfl | rfl | (simp; done) | fail) ?_)
  refine need_intro ⟨by omega, by omega, by omega, by show (4 : Int) ≤ (c : Int); omega⟩ ?_
  refine need_intro ⟨by omega, by show (4 : Int) ≤ ((4 : Nat) : Int); omega, by show ((4 : Nat) : Int) ≤ (c : Int); omega⟩ ?_
  exact ⟨.s (.gs 1 o 4 4), _, [0, 1], ⟨rfl, rfl⟩, by decide, ⟨rfl, rfl, trivial⟩, ⟨rfl, by show skip 4 0 o 1 = o; unfold skip; rw [if_neg (by decide)]; omega, rfl, rfl⟩, ⟨_, rfl, eqvB_refl _⟩, ⟨_, rfl, eqvB_refl _⟩, trivial⟩
set_option maxRecDepth 100000 in
theorem number4_spec (m : Bool) (o c K sp : Nat) (f : Nat → Int) (p : Nat → B8) (hc : 4 ≤ c) (hK : o + 4 ≤ K) (hp : ∀ j, j < 4 → f (o + j) = (p j).toNat) :
    Does TB 42 [.s (.ptr 0 0), .s (.int .i64 4)] [.cells true [.one (.gs 1 o 4 c), .one (.bool false)] 0, .cells m [.ints .u8 K f] sp]
      (fun v h' => v = .s (.int .u64 (hi p 0 4 4).toNat) ∧ h' = [.cells true [.one (.gs 1 (skip c 4 o 1) 0 (c - 4)), .one (.bool false)] 0, .cells m [.ints .u8 K f] sp]) := by
  refine fnX_does TB Tryz.func42 rfl (by decide) (fun O on hO => ?_)
  refine Does.at (take4_spec m o c K sp f hc) [0, 1] rfl ⟨rfl, rfl, trivial⟩ (by decide) ?_ ?_
  · rintro v h' ⟨_, rfl⟩
    exact ⟨.inl rfl, .inr (.inr rfl), trivial⟩
  rintro v h' ⟨rfl, rfl⟩
  refine loop_by (A := Nat) on (fun n => [(5, .s (.int .u64 (hi p 0 4 n).toNat)), (7, .s (.int .i64 (3 - (n : Int))))]) (fun _ => [.cells true [.one (.gs 1 (skip c 4 o 1) 0 (c - 4)), .one (.bool false)] 0, .cells m [.ints .u8 K f] sp]) (fun n => n ≤ 4) (fun n => 4 - n) 0 (Nat.zero_le _) ?_ ?_
  · refine ⟨?_, ?_⟩
    · repeat' (first | exact eqvT_nil | refine eqvT_junk ?_ | refine eqvT_same ?_ | refine eqvT_int ?_ ?_)
    · exact eqvH_same (eqvH_same eqvH_nil)
  · intro n hn
    refine ifB_intro (fun h1 => ?_) (fun h1 => ?_)
    · have h2 : 3 - (n : Int) ≥ 0 := of_decide_eq_true h1
      have hi2 : (3 - (n : Int)).toNat = 4 - 1 - n := by omega
      refine need_intro (by decide) ?_
      refine need_intro ⟨by omega, by omega⟩ ?_
      refine need_intro (by omega) ?_
      refine ⟨n + 1, ?_, ?_, ?_, ?_⟩
      · show n + 1 ≤ 4; omega
      · show 4 - (n + 1) < 4 - n; omega
      · repeat' (first | exact eqvT_nil | refine eqvT_junk ?_ | refine eqvT_same ?_ | refine eqvT_int ?_ ?_)
        · show bitX .or .u64 (IntKind.u64.wrap (((hi p 0 4 n).toNat : Int) * 2 ^ 8)) (IntKind.u64.wrap (f (o + (3 - (n : Int)).toNat))) = ((hi p 0 4 (n + 1)).toNat : Int)
          rw [hi2, hp _ (by omega), wide8, or_u64, wrap_u64, mul_pow, ofInt_toNat, ofInt_toNat]
          simp only [hi, Nat.zero_add]
        · rw [i64_in (by omega) (by omega)]; omega
      · exact eqvH_same (eqvH_same eqvH_nil)
    · have h2 : ¬ (3 - (n : Int) ≥ 0) := of_decide_eq_false h1
      have hnk : n = 4 := by omega
      subst hnk
      exact ⟨_, _, [0, 1], ⟨rfl, rfl⟩, by decide, ⟨rfl, rfl, trivial⟩, eqvE_refl _, ⟨_, rfl, eqvB_refl _⟩, ⟨_, rfl, eqvB_refl _⟩, trivial⟩
set_option maxRecDepth 100000 in
set_option maxHeartbeats 4000000 in
theorem load_spec (m : Bool) (n c K sp : Nat) (f : Nat → Int) (p : Nat → B8) (hnc : n ≤ c) (hK : n ≤ K) (hn : n ≤ 2 ^ 50) (hp : ∀ j, j < n → f j = (p j).toNat) :
    Does TB 19 [.s (.gs 0 0 n c)] [.cells m [.ints .u8 K f] sp] (Loaded p n (.cells m [.ints .u8 K f] sp)) := by
  refine fnX_does TB Tryz.func19 rfl (by decide) (fun O on hO => ?_)
  repeat (refine need_intro (by first | exact fun h => h | exact fun _ => rfl | rfl | (simp; done) | fail) ?_)
  refine ifB_intro (fun g => ?_) (fun g => ?_)
  · have hb : 12 ≤ n ∧ n ≤ 72000 := by
      replace g : (!bif decide ((n : Int) < 12) then true else decide ((n : Int) > 72000)) = true := g
      by_cases h1 : n < 12
      · rw [decide_eq_true (p := (n : Int) < 12) (by omega)] at g; cases g
      · rw [decide_eq_false (p := (n : Int) < 12) (by omega)] at g
        by_cases h2 : n > 72000
        · rw [decide_eq_true (p := (n : Int) > 72000) (by omega)] at g; cases g
        · omega
    refine ifB_intro (fun _ => ?_) (fun h => absurd (h.symm.trans g) (by decide))
    refine need_intro (by decide) ?_
    repeat (refine need_intro (by first | exact fun h => h | exact fun _ => rfl | rfl | (simp; done) | fail) ?_)
    refine ifB_intro (fun _ => ?_) (fun h => absurd (h.symm.trans g) (by decide))
    refine Does.ungd (b := [_, _]) ⟨⟨g, rfl⟩, rfl, trivial⟩ ?_
    refine Does.args (b := [.s (.gs 0 0 n c), .s (.gs 2 0 8 8)]) ⟨eqvE_refl _, ⟨rfl, rfl, rfl, rfl⟩, trivial⟩ ?_
    refine Does.at (prefix_spec m true n c K sp 0 f (litF [65, 78, 86, 73, 76, 83, 1, 90]) p magicF (by omega) hK hnc (fun j hj => hp j (by omega)) ?_) [0, 2] rfl ⟨rfl, rfl, trivial⟩ (by decide) ?_ ?_
    · intro j hj
      match j, hj with
      | 0, _ => rfl
      | 1, _ => rfl
      | 2, _ => rfl
      | 3, _ => rfl
      | 4, _ => rfl
      | 5, _ => rfl
      | 6, _ => rfl
      | 7, _ => rfl
    · rintro v h' ⟨_, rfl⟩
      exact ⟨.inr (.inr rfl), .inr (.inr rfl), trivial⟩
    rintro v h' ⟨rfl, rfl⟩
    repeat (refine need_intro (by first | exact fun h => h | exact fun _ => rfl | rfl | (simp; done) | fail) ?_)
    have hg0 : (bif decide ((n : Int) < 12) then true else decide ((n : Int) > 72000)) = false := by
      replace g : (!bif decide ((n : Int) < 12) then true else decide ((n : Int) > 72000)) = true := g
      cases h : (bif decide ((n : Int) < 12) then true else decide ((n : Int) > 72000))
      · rfl
      · rw [h] at g; cases g
    refine ifB_intro (fun h1 => ?_) (fun h1 => ?_)
    · replace h1 : (bif bif decide ((n : Int) < 12) then true else decide ((n : Int) > 72000) then true else !eqB 8 p magicF) = true := h1
      rw [hg0] at h1
      have he : (loadOut p n).1 = 161 := by
        unfold loadOut
        rw [if_pos (.inr (.inr (by cases h : eqB 8 p magicF; rfl; rw [h] at h1; cases h1)))]
      repeat (refine need_intro (by first | exact fun h => h | exact fun _ => rfl | rfl | (simp; done) | fail) ?_)
      exact ⟨.tuple [.agg zwhole, .s (.int .i64 161)], [.cells m [.ints .u8 K f] sp], [0], .inl ⟨by rw [he]; decide, by rw [he]; rfl, rfl⟩, by decide, ⟨rfl, trivial⟩, eqvE_refl _, ⟨_, rfl, eqvB_refl _⟩, trivial⟩
    · replace h1 : (bif bif decide ((n : Int) < 12) then true else decide ((n : Int) > 72000) then true else !eqB 8 p magicF) = false := h1
      rw [hg0] at h1
      have hq : eqB 8 p magicF = true := by cases h : eqB 8 p magicF; rw [h] at h1; cases h1; rfl
      have hsh : ¬ (n < 12 ∨ 72000 < n ∨ eqB 8 p magicF = false) := by
        rintro (h | h | h)
        · omega
        · omega
        · rw [hq] at h; cases h
      have hw4 : IntKind.i64.wrap ((n : Int) - 4) = ((n - 4 : Nat) : Int) := by rw [i64_in (by omega) (by omega)]; omega
      refine need_intro ⟨by omega, by rw [hw4]; omega, by omega, by rw [hw4]; omega⟩ ?_
      refine need_intro ⟨by rw [hw4]; omega, by rw [hw4]; omega, by omega⟩ ?_
      have ht4 : (IntKind.i64.wrap ((n : Int) - 4)).toNat = n - 4 := by rw [hw4]; rfl
      have hrd : Blk.cells true [.one (.gs 0 (skip c (IntKind.i64.wrap ((n : Int) - 4)).toNat 0 1) ((n : Int).toNat - (IntKind.i64.wrap ((n : Int) - 4)).toNat) (c - (IntKind.i64.wrap ((n : Int) - 4)).toNat)), .one (.bool false)] 0 = Blk.cells true [.one (.gs 0 (n - 4) 4 (c - (n - 4))), .one (.bool false)] 0 := by
        rw [ht4, show skip c (n - 4) 0 1 = n - 4 by (unfold skip; rw [if_neg (by omega)]; omega), show (n : Int).toNat - (n - 4) = 4 by omega]
      refine Does.at (number4_spec m (n - 4) (c - (n - 4)) K sp f (fun j => p (n - 4 + j)) (by omega) (by omega) (fun j hj => hp _ (by omega))) [3, 0] rfl ⟨congrArg some hrd, rfl, trivial⟩ (by decide) ?_ ?_
      · rintro v h' ⟨_, rfl⟩
        exact ⟨.inl rfl, .inr (.inr rfl), trivial⟩
      rintro v h' ⟨rfl, rfl⟩
      have hb0 : skip (IntKind.i64.wrap ((n : Int) - 4)).toNat 0 0 1 = 0 := by unfold skip; split <;> rfl
      refine Does.args (b := [.s (.gs 0 0 (n - 4) (n - 4))]) ⟨⟨rfl, hb0, by show (IntKind.i64.wrap ((n : Int) - 4)).toNat - 0 = n - 4; omega, by show (IntKind.i64.wrap ((n : Int) - 4)).toNat - 0 = n - 4; omega⟩, trivial⟩ ?_
      refine Does.at (sum_spec m K 0 (n - 4) (n - 4) sp f p (by omega) (by omega) (fun j hj => by rw [Nat.zero_add]; exact hp j (by omega))) [0] rfl ⟨rfl, trivial⟩ (by decide) ?_ ?_
      · rintro v h' ⟨_, rfl⟩
        exact ⟨.inr (.inr rfl), trivial⟩
      rintro v h' ⟨rfl, rfl⟩
      have hft : IntKind.u32.wrap ((hi (fun j => p (n - 4 + j)) 0 4 4).toNat : Int) = ((foot p (n - 4)).toNat : Int) := by
        rw [wrap_u32]
        unfold foot
        rw [BitVec.toNat_setWidth, BitVec.toNat_ofInt]; omega
      refine ifB_intro (fun h2 => ?_) (fun h2 => ?_)
      · replace h2 : (IntKind.u32.wrap ((hi (fun j => p (n - 4 + j)) 0 4 4).toNat : Int) != ((~~~ crcN p (n - 4)).toNat : Int)) = true := h2
        rw [hft, bne_nat] at h2
        have he : (loadOut p n).1 = 160 := by
          unfold loadOut
          rw [if_neg hsh, if_pos (by simpa using h2)]
        repeat (refine need_intro (by first | exact fun h => h | exact fun _ => rfl | rfl | (simp; done) | fail) ?_)
        exact ⟨.tuple [.agg zwhole, .s (.int .i64 160)], [.cells m [.ints .u8 K f] sp], [0], .inl ⟨by rw [he]; decide, by rw [he]; rfl, rfl⟩, by decide, ⟨rfl, trivial⟩, eqvE_refl _, ⟨_, rfl, eqvB_refl _⟩, trivial⟩
      · replace h2 : (IntKind.u32.wrap ((hi (fun j => p (n - 4 + j)) 0 4 4).toNat : Int) != ((~~~ crcN p (n - 4)).toNat : Int)) = false := h2
        rw [hft, bne_nat] at h2
        have hfo : ¬ foot p (n - 4) ≠ ~~~ crcN p (n - 4) := by simpa using h2
        refine need_intro ⟨by omega, by show (8 : Int) ≤ (((IntKind.i64.wrap ((n : Int) - 4)).toNat - 0 : Nat) : Int); omega, by omega, by omega⟩ ?_
        have hr8 : RdAt 0 (n - 4) startR (skip (n - 4) 8 0 1) := by
          refine ⟨by show 8 ≤ n - 4; omega, fun h => ?_, ?_⟩
          · replace h : 8 < n - 4 := h
            show skip (n - 4) 8 0 1 = 0 + 8
            unfold skip
            rw [if_neg (by omega)]
          · unfold skip
            split <;> omega
        have hrd2 : Blk.cells true [.one (.gs 0 (skip (((IntKind.i64.wrap ((n : Int) - 4)).toNat - 0 : Nat) : Int).toNat 8 (skip (IntKind.i64.wrap ((n : Int) - 4)).toNat 0 0 1) 1) ((((IntKind.i64.wrap ((n : Int) - 4)).toNat - 0 : Nat) : Int).toNat - 8) ((((IntKind.i64.wrap ((n : Int) - 4)).toNat - 0 : Nat) : Int).toNat - 8)), .one (.bool false)] 0 = rdb 0 (n - 4) startR (skip (n - 4) 8 0 1) := by
          rw [ht4, show skip (n - 4) 0 0 1 = 0 by (unfold skip; split <;> rfl)]
          rfl
        refine Does.at (rboth_spec m 0 (n - 4) K sp f p startR (by omega) (by omega) (fun j hj => by rw [Nat.zero_add]; exact hp j (by omega)) _ hr8) [4, 5, 0] rfl ⟨congrArg some hrd2, rfl, rfl, trivial⟩ (by decide) ?_ ?_
        · rintro v h' ⟨o', _, _, rfl⟩
          exact ⟨.inl rfl, .inl rfl, .inr (.inr rfl), .inl rfl, .inl rfl, trivial⟩
        rintro v h' ⟨o2, ho2, rfl, rfl⟩
        refine Does.at (rpagesR_spec m 0 (n - 4) K sp f p (bothR p (n - 4) startR) (by omega) (by omega) (fun j hj => by rw [Nat.zero_add]; exact hp j (by omega)) o2 ho2) [4, 0] rfl ⟨rfl, rfl, trivial⟩ (by decide) ?_ ?_
        · rintro v h' (⟨s', mem, o', _, _, _, _, rfl⟩ | ⟨_, s', o', _, _, rfl⟩)
          · exact ⟨.inl rfl, .inr (.inr rfl), .inl rfl, trivial⟩
          · exact ⟨.inl rfl, .inr (.inr rfl), trivial⟩
        rintro v h' (⟨⟨a', b'⟩, mem, o', hR, hs'b, ho', rfl, rfl⟩ | ⟨hR, ⟨a', b'⟩, o', hs'b, rfl, rfl⟩)
        · replace hs'b : b' = false := hs'b
          subst hs'b
          have ha' : a' ≤ n - 4 := ho'.1
          repeat (refine need_intro (by first | exact fun h => h | exact fun _ => rfl | rfl | (simp; done) | fail) ?_)
          refine ifB_intro (fun h3 => ?_) (fun h3 => ?_)
          · replace h3 : decide (((n - 4 - a' : Nat) : Int) > 0) = true := h3
            have h4 := of_decide_eq_true h3
            have he : (loadOut p n).1 = 161 := by
              unfold loadOut
              rw [if_neg hsh, if_neg hfo, hR]
              exact congrArg Prod.fst (if_pos (show a' ≠ n - 4 by omega))
            repeat (refine need_intro (by first | exact fun h => h | exact fun _ => rfl | rfl | (simp; done) | fail) ?_)
            exact ⟨.tuple [.agg zwhole, .s (.int .i64 161)], [.cells m [.ints .u8 K f] sp], [0], .inl ⟨by rw [he]; decide, by rw [he]; rfl, rfl⟩, by decide, ⟨rfl, trivial⟩, eqvE_refl _, ⟨_, rfl, eqvB_refl _⟩, trivial⟩
          · replace h3 : decide (((n - 4 - a' : Nat) : Int) > 0) = false := h3
            have h4 := of_decide_eq_false h3
            have hlo : loadOut p n = if cpEq (cpuR p (n - 4) startR) = true ∧ (busR (ramN p (n - 4) (bothR p (n - 4) startR)) p (n - 4) startR).can = true then (0, mem) else (162, fun _ => 0#8) := by
              unfold loadOut
              rw [if_neg hsh, if_neg hfo, hR]
              exact if_neg (show ¬ a' ≠ n - 4 by omega)
            refine draw_held on rfl (fun _ _ h => h) ?_
            refine (proper_spec (cpuR p (n - 4) startR) _).mono ?_
            rintro v h' ⟨rfl, rfl⟩
            repeat (refine need_intro (by first | exact fun h => h | exact fun _ => rfl | rfl | (simp; done) | fail) ?_)
            have b1 : (loadW p n).ni < 2 ^ 62 := Nat.lt_of_lt_of_le (listN_lt p (n - 4) 1 64 _ (by decide)) (by decide)
            have b2 : (loadW p n).no < 2 ^ 62 := Nat.lt_of_lt_of_le (listN_lt p (n - 4) 2 4096 _ (by decide)) (by decide)
            have b3 : (loadW p n).nr < 2 ^ 62 := Nat.lt_of_lt_of_le (num_small p (n - 4) 4 _ (by decide)) (by decide)
            refine ifB_intro (fun h5 => ?_) (fun h5 => ?_)
            · have hcp : cpEq (cpuR p (n - 4) startR) = true := by
                replace h5 : (!!cpEq (cpuR p (n - 4) startR)) = true := h5
                rwa [Bool.not_not] at h5
              refine Does.ungd (b := [.agg (wsegs (cpuR p (n - 4) startR) (loadW p n) (.gs 8 0 (loadW p n).nr (loadW p n).nr) (.gs 6 0 (loadW p n).ni (loadW p n).ni) (.gs 7 0 (loadW p n).no (loadW p n).no))]) ⟨⟨h5, rfl⟩, trivial⟩ ?_
              have hck := check_spec (cpuR p (n - 4) startR) (loadW p n) ⟨true, 0, mem, true, 0, inR p (n - 4) startR, true, 0, outR p (n - 4) startR⟩ (loadW p n).nr (loadW p n).ni (loadW p n).no b1 b2 b3
              cases hc : (loadW p n).can with
              | false =>
                rw [hc] at hck
                refine Does.at hck [8, 6, 7] rfl ⟨rfl, rfl, rfl, trivial⟩ (by decide) ?_ ?_
                · rintro v h' ⟨_, rfl⟩
                  exact ⟨.inr (.inr rfl), .inr (.inr rfl), .inr (.inr rfl), trivial⟩
                rintro v h' ⟨rfl, rfl⟩
                repeat (refine need_intro (by first | exact fun h => h | exact fun _ => rfl | rfl | (simp; done) | fail) ?_)
                refine ifB_intro (fun h6 => ?_) (fun h6 => ?_)
                · have he : (loadOut p n).1 = 162 := by
                    rw [hlo]
                    exact congrArg Prod.fst (if_neg (fun h => by have := h.2; rw [show (busR (ramN p (n - 4) (bothR p (n - 4) startR)) p (n - 4) startR).can = false from hc] at this; cases this))
                  repeat (refine need_intro (by first | exact fun h => h | exact fun _ => rfl | rfl | (simp; done) | fail) ?_)
                  exact ⟨.tuple [.agg zwhole, .s (.int .i64 162)], [.cells m [.ints .u8 K f] sp], [0], .inl ⟨by rw [he]; decide, by rw [he]; rfl, rfl⟩, by decide, ⟨rfl, trivial⟩, eqvE_refl _, ⟨_, rfl, eqvB_refl _⟩, trivial⟩
                · replace h6 : (bif !cpEq (cpuR p (n - 4) startR) then true else ((162 : Int) != 0)) = false := h6
                  rw [hcp] at h6
                  exact absurd h6 (by decide)
              | true =>
                rw [hc] at hck
                refine Does.at hck [8, 6, 7] rfl ⟨rfl, rfl, rfl, trivial⟩ (by decide) ?_ ?_
                · rintro v h' ⟨_, rfl⟩
                  exact ⟨.inr (.inr rfl), .inr (.inr rfl), .inr (.inr rfl), trivial⟩
                rintro v h' ⟨rfl, rfl⟩
                repeat (refine need_intro (by first | exact fun h => h | exact fun _ => rfl | rfl | (simp; done) | fail) ?_)
                refine ifB_intro (fun h6 => ?_) (fun h6 => ?_)
                · replace h6 : (bif !cpEq (cpuR p (n - 4) startR) then true else ((0 : Int) != 0)) = true := h6
                  rw [hcp] at h6
                  exact absurd h6 (by decide)
                · have he : loadOut p n = (0, mem) := by
                    rw [hlo]
                    exact if_pos ⟨hcp, hc⟩
                  repeat (refine need_intro (by first | exact fun h => h | exact fun _ => rfl | rfl | (simp; done) | fail) ?_)
                  refine ⟨_, _, [0, 8, 6, 7], .inr ⟨by rw [he], (loadW p n).nr, (loadW p n).ni, (loadW p n).no, ⟨Nat.le_refl _, Nat.le_refl _, Nat.le_refl _⟩, rfl, rfl⟩, by decide, ⟨rfl, trivial⟩, ?_, ⟨_, rfl, eqvB_refl _⟩, ⟨_, rfl, ⟨rfl, (Nat.sub_self _).symm, ?_⟩⟩, ⟨_, rfl, ⟨rfl, (Nat.sub_self _).symm, eqvS_refl _⟩⟩, ⟨_, rfl, ⟨rfl, (Nat.sub_self _).symm, eqvS_refl _⟩⟩, trivial⟩
                  · exact eqvE_refl _
                  · rw [he]; exact eqvS_refl _
            · have hcp : cpEq (cpuR p (n - 4) startR) = false := by
                replace h5 : (!!cpEq (cpuR p (n - 4) startR)) = false := h5
                rwa [Bool.not_not] at h5
              have he : (loadOut p n).1 = 162 := by
                rw [hlo]
                exact congrArg Prod.fst (if_neg (fun h => by have := h.1; rw [hcp] at this; cases this))
              repeat (refine need_intro rfl ?_)
              refine ifB_intro (fun h => absurd (h.symm.trans h5) (by decide)) (fun _ => ?_)
              repeat (refine need_intro rfl ?_)
              refine need_intro (by show (!cpEq (cpuR p (n - 4) startR)) = true; rw [hcp]; rfl) ?_
              repeat (refine need_intro rfl ?_)
              exact ⟨.tuple [.agg zwhole, .s (.int .i64 162)], [.cells m [.ints .u8 K f] sp], [0], .inl ⟨by rw [he]; decide, by rw [he]; rfl, rfl⟩, by decide, ⟨rfl, trivial⟩, eqvE_refl _, ⟨_, rfl, eqvB_refl _⟩, trivial⟩
        · replace hs'b : b' = true := hs'b
          subst hs'b
          have he : (loadOut p n).1 = 161 := by
            unfold loadOut
            rw [if_neg hsh, if_neg hfo, hR]
          repeat (refine need_intro (by first | exact fun h => h | exact fun _ => rfl | rfl | (simp; done) | fail) ?_)
          exact ⟨.tuple [.agg zwhole, .s (.int .i64 161)], [.cells m [.ints .u8 K f] sp], [0], .inl ⟨by rw [he]; decide, by rw [he]; rfl, rfl⟩, by decide, ⟨rfl, trivial⟩, eqvE_refl _, ⟨_, rfl, eqvB_refl _⟩, trivial⟩
  · have he : (loadOut p n).1 = 161 := by
      unfold loadOut
      rw [if_pos]
      replace g : (!bif decide ((n : Int) < 12) then true else decide ((n : Int) > 72000)) = false := g
      by_cases h1 : n < 12
      · exact .inl h1
      · rw [decide_eq_false (p := (n : Int) < 12) (by omega)] at g
        by_cases h2 : n > 72000
        · exact .inr (.inl h2)
        · rw [decide_eq_false (p := (n : Int) > 72000) (by omega)] at g; cases g
    refine ifB_intro (fun h => absurd (h.symm.trans g) (by decide)) (fun _ => ?_)
    refine ifB_intro (fun h => absurd (h.symm.trans g) (by decide)) (fun _ => ?_)
    refine ifB_intro (fun h => absurd (h.symm.trans g) (by decide)) (fun _ => ?_)
    refine need_intro ?_ ?_
    · replace g : (!bif decide ((n : Int) < 12) then true else decide ((n : Int) > 72000)) = false := g
      cases h : (bif decide ((n : Int) < 12) then true else decide ((n : Int) > 72000))
      · rw [h] at g; cases g
      · rfl
    repeat (refine need_intro (by first | exact fun h => h | exact fun _ => rfl | rfl | (simp; done) | fail) ?_)
    exact ⟨.tuple [.agg zwhole, .s (.int .i64 161)], [.cells m [.ints .u8 K f] sp], [0], .inl ⟨by rw [he]; decide, by rw [he]; rfl, rfl⟩, by decide, ⟨rfl, trivial⟩, eqvE_refl _, ⟨_, rfl, eqvB_refl _⟩, trivial⟩
end Go.Proofs.YtdlpmbghocabbaaGreatDoor

/- Snapshots: what is written is what is read, number by number. Plain theorems. -/
namespace Go.Anv
open Go
/-- The bytes from here on are these. -/
def Has (p : Nat → B8) (a : Nat) (l : List B8) : Prop := ∀ j, j < l.length → p (a + j) = l.getD j 0#8
theorem Has.left {p : Nat → B8} {a : Nat} {l r : List B8} (h : Has p a (l ++ r)) : Has p a l := fun j hj => by
  rw [h j (by rw [List.length_append]; omega), List.getD_eq_getElem?_getD, List.getElem?_append_left hj, ← List.getD_eq_getElem?_getD]
theorem Has.right {p : Nat → B8} {a : Nat} {l r : List B8} (h : Has p a (l ++ r)) : Has p (a + l.length) r := fun j hj => by
  rw [Nat.add_assoc, h (l.length + j) (by rw [List.length_append]; omega), List.getD_eq_getElem?_getD, List.getElem?_append_right (by omega), ← List.getD_eq_getElem?_getD, Nat.add_sub_cancel_left]
theorem Has.append {p : Nat → B8} {a : Nat} {l r : List B8} (h : Has p a l) (h' : Has p (a + l.length) r) : Has p a (l ++ r) := fun j hj => by
  rw [List.length_append] at hj
  rcases Nat.lt_or_ge j l.length with h1 | h1
  · rw [h j h1, List.getD_eq_getElem?_getD, List.getD_eq_getElem?_getD, List.getElem?_append_left h1]
  · rw [List.getD_eq_getElem?_getD, List.getElem?_append_right h1, ← List.getD_eq_getElem?_getD, ← h' (j - l.length) (by omega)]
    congr 1; omega
theorem lst_get (p : Nat → B8) (n j : Nat) (h : j < n) : (lst p n).getD j 0#8 = p j := by
  unfold lst
  rw [List.getD_eq_getElem?_getD, List.getElem?_map, List.getElem?_range h]
  rfl
theorem has_lst {p : Nat → B8} {a : Nat} {l : List B8} (h : Has p a l) : lst p (a + l.length) = lst p a ++ l := by
  apply List.ext_getElem?
  intro j
  rcases Nat.lt_or_ge j a with h1 | h1
  · rw [List.getElem?_append_left (by rw [lst_len]; exact h1)]
    unfold lst
    rw [List.getElem?_map, List.getElem?_map, List.getElem?_range h1, List.getElem?_range (by omega)]
  · rw [List.getElem?_append_right (by rw [lst_len]; exact h1), lst_len]
    rcases Nat.lt_or_ge j (a + l.length) with h2 | h2
    · have := h (j - a) (by omega)
      rw [show a + (j - a) = j from by omega, List.getD_eq_getElem?_getD, List.getElem?_eq_getElem (by omega : j - a < l.length)] at this
      unfold lst
      rw [List.getElem?_map, List.getElem?_range h2, List.getElem?_eq_getElem (by omega : j - a < l.length)]
      simpa using this
    · rw [List.getElem?_eq_none (by rw [lst_len]; exact h2), List.getElem?_eq_none (by omega)]
theorem le_get (v : B64) : ∀ n j, j < n → (le v n).getD j 0#8 = (v >>> (8 * j)).setWidth 8
  | n + 1, j, h => by
    rw [le, List.getD_eq_getElem?_getD]
    rcases Nat.lt_or_ge j n with h1 | h1
    · rw [List.getElem?_append_left (by rw [le_len]; exact h1), ← List.getD_eq_getElem?_getD]
      exact le_get v n j h1
    · obtain rfl : j = n := by omega
      rw [List.getElem?_append_right (by rw [le_len]; exact h1), le_len, Nat.sub_self]
      rfl
theorem hi_bit (p : Nat → B8) (a k : Nat) : ∀ n, n ≤ k → n ≤ 8 → ∀ i, (hi p a k n).getLsbD i = (decide (i < 8 * n) && (p (a + (k - n + i / 8))).getLsbD (i % 8))
  | 0, _, _, i => by simp [hi]
  | n + 1, h, h8, i => by
    rw [hi, BitVec.getLsbD_or, BitVec.getLsbD_shiftLeft, BitVec.getLsbD_setWidth, hi_bit p a k n (by omega) (by omega)]
    by_cases h1 : i < 8
    · have e1 : i / 8 = 0 := by omega
      have e2 : i % 8 = i := by omega
      rw [e1, e2]
      simp [h1, show i < 8 * (n + 1) from by omega, show i < 64 from by omega]
      congr 2; omega
    · have e : (p (a + (k - 1 - n))).getLsbD i = false := BitVec.getLsbD_of_ge _ _ (by omega)
      rw [e]
      have e1 : k - n + (i - 8) / 8 = k - (n + 1) + i / 8 := by omega
      have e2 : (i - 8) % 8 = i % 8 := by omega
      rw [e1, e2]
      by_cases h2 : i < 8 * (n + 1)
      · simp [h1, h2, show i < 64 from by omega, show i - 8 < 8 * n from by omega]
      · simp [h2, show ¬ (i - 8 < 8 * n) from by omega]
/-- What is read is what stands there. -/
theorem le_hi (p : Nat → B8) (a k : Nat) (h : k ≤ 8) : Has p a (le (hi p a k k) k) := by
  intro j hj
  rw [le_len] at hj
  rw [le_get _ _ _ hj]
  apply BitVec.eq_of_getLsbD_eq
  intro i hi
  rw [BitVec.getLsbD_setWidth, BitVec.getLsbD_ushiftRight, hi_bit p a k k (Nat.le_refl _) h]
  have e1 : k - k + (8 * j + i) / 8 = j := by omega
  have e2 : (8 * j + i) % 8 = i := by omega
  rw [e1, e2]
  simp [hi, show 8 * j + i < 8 * k from by omega]
/-- A number's bytes make the number. -/
theorem hi_le (p : Nat → B8) (a k : Nat) (v : B64) (h : k ≤ 8) (hv : v.toNat < 2 ^ (8 * k)) (hp : Has p a (le v k)) : hi p a k k = v := by
  apply BitVec.eq_of_getLsbD_eq
  intro i hi
  rw [hi_bit p a k k (Nat.le_refl _) h]
  by_cases h1 : i < 8 * k
  · have hj := hp (i / 8) (by rw [le_len]; omega)
    rw [le_get _ _ _ (by omega)] at hj
    rw [show k - k + i / 8 = i / 8 from by omega, hj, BitVec.getLsbD_setWidth, BitVec.getLsbD_ushiftRight, show 8 * (i / 8) + i % 8 = i from by omega]
    simp [h1, show i % 8 < 8 from by omega]
  · have e : v.getLsbD i = false := by
      rw [BitVec.getLsbD, Nat.testBit_lt_two_pow]
      exact Nat.lt_of_lt_of_le hv (Nat.pow_le_pow_right (by decide) (by omega))
    rw [e]
    simp [h1]
/-- A step of the reader, where the bytes are there. -/
theorem take_fw {p : Nat → B8} {N k : Nat} {s : Rs} {v : B64} {r : List B8} (hb : s.bad = false) (hk : k ≤ 8) (hN : s.at_ + k ≤ N) (hv : v.toNat < 2 ^ (8 * k)) (h : Has p s.at_ (le v k ++ r)) :
    numV p N k s = v ∧ takeR N k s = ⟨s.at_ + k, false⟩ ∧ Has p (s.at_ + k) r := by
  have g : ¬ (s.bad = true ∨ N - s.at_ < k) := by rw [hb]; simp; omega
  refine ⟨?_, ?_, ?_⟩
  · unfold numV; rw [if_neg g]; exact hi_le p s.at_ k v hk hv h.left
  · unfold takeR; rw [if_neg g]
  · have := h.right; rw [le_len] at this; exact this
/-- A step of the reader that went well. -/
theorem take_bw {p : Nat → B8} {N k : Nat} {s : Rs} (hk : k ≤ 8) (h : (takeR N k s).bad = false) :
    s.bad = false ∧ s.at_ + k ≤ N + (s.at_ - N) ∧ takeR N k s = ⟨s.at_ + k, false⟩ ∧ lst p (s.at_ + k) = lst p s.at_ ++ le (numV p N k s) k := by
  unfold takeR at h
  split at h
  · cases h
  · rename_i g
    have g1 : s.bad = false := by cases hb : s.bad <;> simp_all
    have g2 : ¬ (N - s.at_ < k) := fun h => g (.inr h)
    refine ⟨g1, by omega, by unfold takeR; rw [if_neg g], ?_⟩
    have e : numV p N k s = hi p s.at_ k k := by unfold numV; rw [if_neg g]
    rw [e]
    have := has_lst (le_hi p s.at_ k hk)
    rw [le_len] at this
    exact this
end Go.Anv

/- Snapshots: flags, lists and rows of numbers, there and back. Plain theorems. -/
namespace Go.Anv
open Go
theorem le_congr {v w : B64} {k : Nat} (h : ∀ j, j < k → (v >>> (8 * j)).setWidth 8 = (w >>> (8 * j)).setWidth 8) : le v k = le w k := by
  induction k with
  | zero => rfl
  | succ k ih => rw [le, le, ih fun j hj => h j (by omega), h k (by omega)]
theorem le_cut32 (v : B64) : le ((v.setWidth 32).setWidth 64) 4 = le v 4 := le_congr fun j hj => by
  apply BitVec.eq_of_getLsbD_eq
  intro i hi
  simp only [BitVec.getLsbD_setWidth, BitVec.getLsbD_ushiftRight]
  simp [hi, show 8 * j + i < 32 from by omega, show 8 * j + i < 64 from by omega]
theorem le_cut8 (v : B64) : le ((v.setWidth 8).setWidth 64) 1 = le v 1 := le_congr fun j hj => by
  apply BitVec.eq_of_getLsbD_eq
  intro i hi
  simp only [BitVec.getLsbD_setWidth, BitVec.getLsbD_ushiftRight]
  simp [hi, show 8 * j + i < 8 from by omega, show 8 * j + i < 64 from by omega]
theorem le_int (v : B64) (k : Nat) : le (BitVec.ofInt 64 v.toInt) k = le v k := by rw [BitVec.ofInt_toInt]
theorem le_flag (b : Bool) : le (if b then 1#64 else 0#64) 1 = bb b := by cases b <;> rfl
theorem num_lt (p : Nat → B8) (N k : Nat) (s : Rs) (h : k ≤ 4) : (numV p N k s).toNat < 2 ^ (8 * k) := num_small p N k s h
theorem flag_fw {p : Nat → B8} {N : Nat} {s : Rs} {b : Bool} {r : List B8} (hb : s.bad = false) (hN : s.at_ + 1 ≤ N) (h : Has p s.at_ (bb b ++ r)) :
    flagV p N s = b ∧ flagR p N s = ⟨s.at_ + 1, false⟩ ∧ Has p (s.at_ + 1) r := by
  rw [← le_flag] at h
  obtain ⟨h1, h2, h3⟩ := take_fw (N := N) hb (by decide) hN (by cases b <;> decide) h
  refine ⟨?_, ?_, h3⟩
  · unfold flagV; rw [h1]; cases b <;> rfl
  · unfold flagR; rw [h1, h2]; cases b <;> rfl
theorem flag_bw {p : Nat → B8} {N : Nat} {s : Rs} (h : (flagR p N s).bad = false) : s.bad = false ∧ lst p (flagR p N s).at_ = lst p s.at_ ++ bb (flagV p N s) := by
  have h1 : (takeR N 1 s).bad = false := by
    have : ((takeR N 1 s).bad || decide (1 < (numV p N 1 s).toNat)) = false := h
    cases hb : (takeR N 1 s).bad
    · rfl
    · rw [hb] at this; cases this
  have h2 : ¬ 1 < (numV p N 1 s).toNat := by
    have : ((takeR N 1 s).bad || decide (1 < (numV p N 1 s).toNat)) = false := h
    rw [h1] at this
    exact of_decide_eq_false this
  obtain ⟨a, _, b, c⟩ := take_bw (p := p) (by decide) h1
  refine ⟨a, ?_⟩
  show lst p (takeR N 1 s).at_ = _
  rw [b]
  refine c.trans (congrArg _ ?_)
  rw [← le_flag]
  congr 1
  unfold flagV
  apply BitVec.eq_of_toNat_eq
  rcases Nat.eq_zero_or_pos (numV p N 1 s).toNat with e | e
  · have : numV p N 1 s = 0#64 := BitVec.eq_of_toNat_eq e
    rw [this]; rfl
  · have : numV p N 1 s = 1#64 := BitVec.eq_of_toNat_eq (by show _ = 1; omega)
    rw [this]; rfl
theorem manyN_app (g : Nat → List B8) (L : List B8) : ∀ n, manyN g L n = L ++ manyN g [] n
  | 0 => by simp [manyN]
  | n + 1 => by rw [manyN, manyN, manyN_app g L n, List.append_assoc]
theorem manyN_congr {g h : Nat → List B8} {L : List B8} : ∀ {n}, (∀ j, j < n → g j = h j) → manyN g L n = manyN h L n
  | 0, _ => rfl
  | n + 1, e => by rw [manyN, manyN, manyN_congr fun j hj => e j (by omega), e n (by omega)]
theorem has_many {p : Nat → B8} {a : Nat} {g : Nat → List B8} {k : Nat} (hg : ∀ i, (g i).length = k) : ∀ {n : Nat}, Has p a (manyN g [] n) → ∀ i, i < n → Has p (a + k * i) (g i)
  | n + 1, h, i, hi => by
    rw [manyN] at h
    by_cases e : i = n
    · subst e
      have := h.right
      rw [manyN_len hg, List.length_nil, Nat.zero_add] at this
      exact this
    · exact has_many hg h.left i (by omega)
theorem seq_fw {p : Nat → B8} {N k : Nat} {s : Rs} {v : Nat → B64} {n : Nat} {r : List B8} (hb : s.bad = false) (hk : k ≤ 8) (hN : s.at_ + k * n ≤ N) (hv : ∀ i, (v i).toNat < 2 ^ (8 * k)) (h : Has p s.at_ (manyN (fun i => le (v i) k) [] n ++ r)) :
    (∀ i, i < n → numV p N k (seqR N k s i) = v i) ∧ seqR N k s n = ⟨s.at_ + k * n, false⟩ ∧ Has p (s.at_ + k * n) r := by
  have hm := has_many (fun i => le_len _ _) h.left
  have hr := h.right
  rw [manyN_len (fun i => le_len _ _), List.length_nil, Nat.zero_add] at hr
  have st : ∀ i, i ≤ n → seqR N k s i = ⟨s.at_ + k * i, false⟩ ∧ (i < n → numV p N k (seqR N k s i) = v i) := by
    intro i
    induction i with
    | zero =>
      intro _
      have e : seqR N k s 0 = ⟨s.at_ + k * 0, false⟩ := by show s = _; rw [Nat.mul_zero, Nat.add_zero, ← hb]
      refine ⟨e, fun h0 => ?_⟩
      have hk0 : k * 1 ≤ k * n := Nat.mul_le_mul_left k (by omega)
      have := hm 0 h0
      rw [e]
      exact (take_fw (N := N) (s := ⟨s.at_ + k * 0, false⟩) (r := []) rfl hk (by show s.at_ + k * 0 + k ≤ N; omega) (hv 0) (by rw [List.append_nil]; exact this)).1
    | succ i ih =>
      intro hi
      obtain ⟨e, _⟩ := ih (by omega)
      have h1 := hm i (by omega)
      have hk0 : k * (i + 1) ≤ k * n := Nat.mul_le_mul_left k (by omega)
      rw [Nat.mul_add, Nat.mul_one] at hk0
      have h2 := take_fw (N := N) (s := ⟨s.at_ + k * i, false⟩) (r := []) rfl hk (by show s.at_ + k * i + k ≤ N; omega) (hv i) (by rw [List.append_nil]; exact h1)
      have e' : seqR N k s (i + 1) = ⟨s.at_ + k * (i + 1), false⟩ := by
        show takeR N k (seqR N k s i) = _
        rw [e, h2.2.1, Nat.mul_add, Nat.mul_one, Nat.add_assoc]
      refine ⟨e', fun h0 => ?_⟩
      have hk1 : k * (i + 2) ≤ k * n := Nat.mul_le_mul_left k (by omega)
      rw [Nat.mul_add] at hk1
      rw [e']
      exact (take_fw (N := N) (s := ⟨s.at_ + k * (i + 1), false⟩) (r := []) rfl hk (by show s.at_ + k * (i + 1) + k ≤ N; rw [Nat.mul_add]; omega) (hv (i + 1)) (by rw [List.append_nil]; exact hm (i + 1) h0)).1
  exact ⟨fun i hi => (st i (by omega)).2 hi, (st n (Nat.le_refl _)).1, hr⟩
theorem seq_bw {p : Nat → B8} {N k : Nat} {s : Rs} (hk : k ≤ 8) : ∀ {n : Nat}, (seqR N k s n).bad = false → s.bad = false ∧ lst p (seqR N k s n).at_ = lst p s.at_ ++ manyN (fun i => le (numV p N k (seqR N k s i)) k) [] n
  | 0, h => ⟨h, by simp [seqR, manyN]⟩
  | n + 1, h => by
    obtain ⟨a, _, b, c⟩ := take_bw (p := p) hk (show (takeR N k (seqR N k s n)).bad = false from h)
    obtain ⟨d, e⟩ := seq_bw (p := p) hk a
    refine ⟨d, ?_⟩
    show lst p (takeR N k (seqR N k s n)).at_ = _
    rw [b, manyN, ← List.append_assoc, ← e]
    exact c
theorem has_list {p : Nat → B8} {a n : Nat} {q : Nat → B8} (h : Has p a (lst q n)) : ∀ j, j < n → p (a + j) = q j := fun j hj => by
  rw [h j (by rw [lst_len]; exact hj), lst_get q n j hj]
theorem list_fw {p : Nat → B8} {N size most n : Nat} {s : Rs} {q : Nat → B8} {r : List B8} (hb : s.bad = false) (hs : size ≤ 4) (hN : s.at_ + size + n ≤ N) (hm : n ≤ most) (hn : n < 2 ^ (8 * size))
    (h : Has p s.at_ (le (BitVec.ofNat 64 n) size ++ (lst q n ++ r))) :
    listN p N size most s = n ∧ (∀ j, j < n → listQ p N size most s j = q j) ∧ listR p N size most s = ⟨s.at_ + size + n, false⟩ ∧ Has p (s.at_ + size + n) r := by
  have hlt : n < 2 ^ 64 := Nat.lt_of_lt_of_le hn (Nat.pow_le_pow_right (by decide) (by omega))
  have ev : (BitVec.ofNat 64 n).toNat = n := by rw [BitVec.toNat_ofNat, Nat.mod_eq_of_lt hlt]
  obtain ⟨h1, h2, h3⟩ := take_fw (N := N) hb (by omega) (by omega) (by rw [ev]; exact hn) h
  have hL : lenR p N size most s = ⟨s.at_ + size, false⟩ := by
    unfold lenR
    rw [h1, h2, ev, decide_eq_false (by omega)]
    rfl
  have hok : listOk p N size most s = true := by
    unfold listOk
    rw [hL, h1, ev]
    simp; omega
  refine ⟨?_, ?_, ?_, ?_⟩
  · unfold listN; rw [if_pos hok, h1, ev]
  · intro j hj
    unfold listQ; rw [hL]
    exact has_list h3.left j hj
  · unfold listR takeR
    rw [hL, h1, ev, if_neg (by simp; omega)]
  · have := h3.right
    rw [lst_len] at this
    exact this
theorem list_bw {p : Nat → B8} {N size most : Nat} {s : Rs} (hs : size ≤ 8) (h : (listR p N size most s).bad = false) :
    s.bad = false ∧ lst p (listR p N size most s).at_ = lst p s.at_ ++ le (BitVec.ofNat 64 (listN p N size most s)) size ++ lst (listQ p N size most s) (listN p N size most s) ∧ listN p N size most s ≤ most := by
  have hok : listOk p N size most s = true := by
    have : listOk p N size most s = !(listR p N size most s).bad := by rw [listR_bad]; simp
    rw [this, h]; rfl
  have h1 : (lenR p N size most s).bad = false := by
    unfold listOk at hok
    cases hb : (lenR p N size most s).bad
    · rfl
    · rw [hb] at hok; cases hok
  have h0 : ((takeR N size s).bad || decide (most < (numV p N size s).toNat)) = false := h1
  have h2 : (takeR N size s).bad = false := by
    cases hb : (takeR N size s).bad
    · rfl
    · rw [hb] at h0; cases h0
  have h3 : ¬ most < (numV p N size s).toNat := by rw [h2] at h0; exact of_decide_eq_false h0
  obtain ⟨a, _, b, c⟩ := take_bw (p := p) hs h2
  have hn : listN p N size most s = (numV p N size s).toNat := by unfold listN; rw [if_pos hok]
  have hat : (lenR p N size most s).at_ = s.at_ + size := by show (takeR N size s).at_ = _; rw [b]
  refine ⟨a, ?_, by rw [hn]; omega⟩
  have g : ¬ ((lenR p N size most s).bad = true ∨ N - (lenR p N size most s).at_ < (numV p N size s).toNat) := by
    unfold listOk at hok
    rw [h1] at hok
    have := of_decide_eq_true (show decide ((numV p N size s).toNat ≤ N - (lenR p N size most s).at_) = true from hok)
    rw [h1]; simp; omega
  have e : (listR p N size most s).at_ = s.at_ + size + listN p N size most s := by
    unfold listR takeR
    rw [if_neg g, hn, hat]
  rw [e, hn, BitVec.ofNat_toNat, BitVec.setWidth_eq, ← c]
  have hh : Has p (s.at_ + size) (lst (listQ p N size most s) (numV p N size s).toNat) := by
    intro j hj
    rw [lst_len] at hj
    rw [lst_get _ _ _ hj]
    unfold listQ
    rw [hat]
  have := has_lst hh
  rw [lst_len] at this
  exact this
end Go.Anv

/- Snapshots: all that stands ahead of the RAM, there and back. Plain theorems; printed by mk_k3.py. -/
namespace Go.Anv
open Go
/-- The bytes of a Cpu. -/
def cpuB (cp : CpuV) : List B8 := le cp.pc 8 ++ (manyN (fun i => le (cp.x i) 8) [] 32 ++ (le (BitVec.ofInt 64 cp.mode) 1 ++ (bb cp.waiting ++ (le cp.mstatus 8 ++ (le cp.mtvec 8 ++ (le cp.mie 8 ++ (le cp.mcounteren 8 ++ (le cp.mcountinhibit 8 ++ (le cp.menvcfg 8 ++ (le cp.mscratch 8 ++ (le cp.mepc 8 ++ (le cp.mcause 8 ++ (le cp.mtval 8 ++ (le cp.mcycle 8 ++ (le cp.minstret 8 ++ (manyN (fun i => le ((cp.cfg i).setWidth 64) 1) [] 16 ++ (manyN (fun i => le (cp.addr i) 8) [] 16 ++ (bb cp.rvalid ++ (le cp.raddr 8 ++ (le (BitVec.ofInt 64 cp.rsize) 1))))))))))))))))))))
/-- The bytes of a bus's devices. -/
def devB (b : BusV) (inp out : Nat → B8) : List B8 := le (b.msip.setWidth 64) 4 ++ (le b.cmp 8 ++ (le b.now 8 ++ (bb b.ext ++ (bb b.soft ++ (le (b.ier.setWidth 64) 1 ++ (le (b.lcr.setWidth 64) 1 ++ (le (b.mcr.setWidth 64) 1 ++ (le (b.scratch.setWidth 64) 1 ++ (bb b.overrun ++ (le (BitVec.ofInt 64 b.off) 1 ++ (le (BitVec.ofInt 64 b.code) 4 ++ (le (BitVec.ofNat 64 b.ni) 1 ++ (lst inp b.ni ++ (le (BitVec.ofNat 64 b.no) 2 ++ (lst out b.no)))))))))))))))
theorem cpuOn_eq (cp : CpuV) (L : List B8) : cpuOn cp L = L ++ cpuB cp := by
  unfold cpuOn cpuB
  rw [manyN_app (fun i => le (cp.addr i) 8), manyN_app (fun i => le ((cp.cfg i).setWidth 64) 1), manyN_app (fun i => le (cp.x i) 8)]
  simp only [List.append_assoc]
theorem devOn_eq (b : BusV) (inp out : Nat → B8) (L : List B8) : devOn b inp out L = L ++ devB b inp out := by
  unfold devOn devB
  simp only [List.append_assoc]
/-- Two Cpus that are one. -/
structure CpuSame (c d : CpuV) : Prop where
  pc : c.pc = d.pc
  x : ∀ j, j < 32 → c.x j = d.x j
  mode : c.mode = d.mode
  waiting : c.waiting = d.waiting
  mstatus : c.mstatus = d.mstatus
  mtvec : c.mtvec = d.mtvec
  mie : c.mie = d.mie
  mcounteren : c.mcounteren = d.mcounteren
  mcountinhibit : c.mcountinhibit = d.mcountinhibit
  menvcfg : c.menvcfg = d.menvcfg
  mscratch : c.mscratch = d.mscratch
  mepc : c.mepc = d.mepc
  mcause : c.mcause = d.mcause
  mtval : c.mtval = d.mtval
  mcycle : c.mcycle = d.mcycle
  minstret : c.minstret = d.minstret
  cfg : ∀ j, j < 16 → c.cfg j = d.cfg j
  addr : ∀ j, j < 16 → c.addr j = d.addr j
  rvalid : c.rvalid = d.rvalid
  raddr : c.raddr = d.raddr
  rsize : c.rsize = d.rsize
theorem ofInt_back {x : Int} {n : Nat} (hn : n ≤ 4) (h0 : 0 ≤ x) (h1 : x < 2 ^ (8 * n)) : (BitVec.ofInt 64 x).toInt = x ∧ (BitVec.ofInt 64 x).toNat < 2 ^ (8 * n) := by
  have h2 : (2 : Int) ^ (8 * n) ≤ 2 ^ 32 := by
    have : (2 : Nat) ^ (8 * n) ≤ 2 ^ 32 := Nat.pow_le_pow_right (by decide) (by omega)
    exact_mod_cast this
  have h3 : x < 4294967296 := Int.lt_of_lt_of_le h1 (by simpa using h2)
  have e : (BitVec.ofInt 64 x).toNat = x.toNat := by rw [BitVec.toNat_ofInt]; omega
  refine ⟨?_, ?_⟩
  · rw [BitVec.toInt_ofInt, Int.bmod_def]; omega
  · rw [e]
    have h4 : ((x.toNat : Nat) : Int) < ((2 ^ (8 * n) : Nat) : Int) := by rw [Int.toNat_of_nonneg h0]; simpa using h1
    exact Int.ofNat_lt.1 h4
theorem wide_lt8 (b : B8) : (b.setWidth 64).toNat < 2 ^ (8 * 1) := by rw [BitVec.toNat_setWidth]; omega
theorem wide_lt32 (b : B32) : (b.setWidth 64).toNat < 2 ^ (8 * 4) := by rw [BitVec.toNat_setWidth]; omega
theorem back8 (b : B8) : (b.setWidth 64).setWidth 8 = b := by
  apply BitVec.eq_of_toNat_eq; rw [BitVec.toNat_setWidth, BitVec.toNat_setWidth]; omega
theorem back32 (b : B32) : (b.setWidth 64).setWidth 32 = b := by
  apply BitVec.eq_of_toNat_eq; rw [BitVec.toNat_setWidth, BitVec.toNat_setWidth]; omega
set_option maxRecDepth 100000 in
set_option maxHeartbeats 4000000 in
theorem both_fw {p : Nat → B8} {N : Nat} {s : Rs} {cp : CpuV} {b : BusV} {inp out : Nat → B8} {r : List B8} (hb : s.bad = false) (hN : s.at_ + 551 + b.ni + b.no ≤ N)
    (hm : 0 ≤ cp.mode ∧ cp.mode < 256) (hz : 0 ≤ cp.rsize ∧ cp.rsize < 256) (ho : 0 ≤ b.off ∧ b.off < 256) (hc : 0 ≤ b.code ∧ b.code < 4294967296) (hi : b.ni ≤ 64) (hq : b.no ≤ 4096) (h : Has p s.at_ (cpuB cp ++ (devB b inp out ++ r))) :
    CpuSame (cpuR p N s) cp ∧ busR b.nr p N s = b ∧ (∀ j, j < b.ni → inR p N s j = inp j) ∧ (∀ j, j < b.no → outR p N s j = out j) ∧ bothR p N s = ⟨s.at_ + 551 + b.ni + b.no, false⟩ ∧ Has p (s.at_ + 551 + b.ni + b.no) r := by
  unfold cpuB devB at h
  simp only [List.append_assoc] at h
  obtain ⟨v1, t1, h⟩ := take_fw (N := N) (s := s) (v := cp.pc) hb (by decide) (by show s.at_ + 8 ≤ N; omega) (BitVec.isLt _) h
  have e1 : r1 p N s = ⟨s.at_ + 8, false⟩ := by exact t1
  obtain ⟨v2, t2, h⟩ := seq_fw (N := N) (s := ⟨s.at_ + 8, false⟩) (v := fun i => cp.x i) (n := 32) rfl (by decide) (by show s.at_ + 8 + 8 * 32 ≤ N; omega) (fun i => BitVec.isLt _) h
  have e2 : r2 p N s = ⟨s.at_ + 8 + 8 * 32, false⟩ := by unfold r2; rw [e1]; exact t2
  have i3 := ofInt_back (n := 1) (by decide) hm.1 (show cp.mode < 2 ^ (8 * 1) by have := hm.2; simpa using this)
  obtain ⟨v3, t3, h⟩ := take_fw (N := N) (s := ⟨s.at_ + 8 + 8 * 32, false⟩) (v := BitVec.ofInt 64 cp.mode) rfl (by decide) (by show s.at_ + 8 + 8 * 32 + 1 ≤ N; omega) i3.2 h
  have e3 : r3 p N s = ⟨s.at_ + 8 + 8 * 32 + 1, false⟩ := by unfold r3; rw [e2]; exact t3
  obtain ⟨v4, t4, h⟩ := flag_fw (N := N) (s := ⟨s.at_ + 8 + 8 * 32 + 1, false⟩) rfl (by show s.at_ + 8 + 8 * 32 + 1 + 1 ≤ N; omega) h
  have e4 : r4 p N s = ⟨s.at_ + 8 + 8 * 32 + 1 + 1, false⟩ := by unfold r4; rw [e3]; exact t4
  obtain ⟨v5, t5, h⟩ := take_fw (N := N) (s := ⟨s.at_ + 8 + 8 * 32 + 1 + 1, false⟩) (v := cp.mstatus) rfl (by decide) (by show s.at_ + 8 + 8 * 32 + 1 + 1 + 8 ≤ N; omega) (BitVec.isLt _) h
  have e5 : r5 p N s = ⟨s.at_ + 8 + 8 * 32 + 1 + 1 + 8, false⟩ := by unfold r5; rw [e4]; exact t5
  obtain ⟨v6, t6, h⟩ := take_fw (N := N) (s := ⟨s.at_ + 8 + 8 * 32 + 1 + 1 + 8, false⟩) (v := cp.mtvec) rfl (by decide) (by show s.at_ + 8 + 8 * 32 + 1 + 1 + 8 + 8 ≤ N; omega) (BitVec.isLt _) h
  have e6 : r6 p N s = ⟨s.at_ + 8 + 8 * 32 + 1 + 1 + 8 + 8, false⟩ := by unfold r6; rw [e5]; exact t6
  obtain ⟨v7, t7, h⟩ := take_fw (N := N) (s := ⟨s.at_ + 8 + 8 * 32 + 1 + 1 + 8 + 8, false⟩) (v := cp.mie) rfl (by decide) (by show s.at_ + 8 + 8 * 32 + 1 + 1 + 8 + 8 + 8 ≤ N; omega) (BitVec.isLt _) h
  have e7 : r7 p N s = ⟨s.at_ + 8 + 8 * 32 + 1 + 1 + 8 + 8 + 8, false⟩ := by unfold r7; rw [e6]; exact t7
  obtain ⟨v8, t8, h⟩ := take_fw (N := N) (s := ⟨s.at_ + 8 + 8 * 32 + 1 + 1 + 8 + 8 + 8, false⟩) (v := cp.mcounteren) rfl (by decide) (by show s.at_ + 8 + 8 * 32 + 1 + 1 + 8 + 8 + 8 + 8 ≤ N; omega) (BitVec.isLt _) h
  have e8 : r8 p N s = ⟨s.at_ + 8 + 8 * 32 + 1 + 1 + 8 + 8 + 8 + 8, false⟩ := by unfold r8; rw [e7]; exact t8
  obtain ⟨v9, t9, h⟩ := take_fw (N := N) (s := ⟨s.at_ + 8 + 8 * 32 + 1 + 1 + 8 + 8 + 8 + 8, false⟩) (v := cp.mcountinhibit) rfl (by decide) (by show s.at_ + 8 + 8 * 32 + 1 + 1 + 8 + 8 + 8 + 8 + 8 ≤ N; omega) (BitVec.isLt _) h
  have e9 : r9 p N s = ⟨s.at_ + 8 + 8 * 32 + 1 + 1 + 8 + 8 + 8 + 8 + 8, false⟩ := by unfold r9; rw [e8]; exact t9
  obtain ⟨v10, t10, h⟩ := take_fw (N := N) (s := ⟨s.at_ + 8 + 8 * 32 + 1 + 1 + 8 + 8 + 8 + 8 + 8, false⟩) (v := cp.menvcfg) rfl (by decide) (by show s.at_ + 8 + 8 * 32 + 1 + 1 + 8 + 8 + 8 + 8 + 8 + 8 ≤ N; omega) (BitVec.isLt _) h
  have e10 : r10 p N s = ⟨s.at_ + 8 + 8 * 32 + 1 + 1 + 8 + 8 + 8 + 8 + 8 + 8, false⟩ := by unfold r10; rw [e9]; exact t10
  obtain ⟨v11, t11, h⟩ := take_fw (N := N) (s := ⟨s.at_ + 8 + 8 * 32 + 1 + 1 + 8 + 8 + 8 + 8 + 8 + 8, false⟩) (v := cp.mscratch) rfl (by decide) (by show s.at_ + 8 + 8 * 32 + 1 + 1 + 8 + 8 + 8 + 8 + 8 + 8 + 8 ≤ N; omega) (BitVec.isLt _) h
  have e11 : r11 p N s = ⟨s.at_ + 8 + 8 * 32 + 1 + 1 + 8 + 8 + 8 + 8 + 8 + 8 + 8, false⟩ := by unfold r11; rw [e10]; exact t11
  obtain ⟨v12, t12, h⟩ := take_fw (N := N) (s := ⟨s.at_ + 8 + 8 * 32 + 1 + 1 + 8 + 8 + 8 + 8 + 8 + 8 + 8, false⟩) (v := cp.mepc) rfl (by decide) (by show s.at_ + 8 + 8 * 32 + 1 + 1 + 8 + 8 + 8 + 8 + 8 + 8 + 8 + 8 ≤ N; omega) (BitVec.isLt _) h
  have e12 : r12 p N s = ⟨s.at_ + 8 + 8 * 32 + 1 + 1 + 8 + 8 + 8 + 8 + 8 + 8 + 8 + 8, false⟩ := by unfold r12; rw [e11]; exact t12
  obtain ⟨v13, t13, h⟩ := take_fw (N := N) (s := ⟨s.at_ + 8 + 8 * 32 + 1 + 1 + 8 + 8 + 8 + 8 + 8 + 8 + 8 + 8, false⟩) (v := cp.mcause) rfl (by decide) (by show s.at_ + 8 + 8 * 32 + 1 + 1 + 8 + 8 + 8 + 8 + 8 + 8 + 8 + 8 + 8 ≤ N; omega) (BitVec.isLt _) h
  have e13 : r13 p N s = ⟨s.at_ + 8 + 8 * 32 + 1 + 1 + 8 + 8 + 8 + 8 + 8 + 8 + 8 + 8 + 8, false⟩ := by unfold r13; rw [e12]; exact t13
  obtain ⟨v14, t14, h⟩ := take_fw (N := N) (s := ⟨s.at_ + 8 + 8 * 32 + 1 + 1 + 8 + 8 + 8 + 8 + 8 + 8 + 8 + 8 + 8, false⟩) (v := cp.mtval) rfl (by decide) (by show s.at_ + 8 + 8 * 32 + 1 + 1 + 8 + 8 + 8 + 8 + 8 + 8 + 8 + 8 + 8 + 8 ≤ N; omega) (BitVec.isLt _) h
  have e14 : r14 p N s = ⟨s.at_ + 8 + 8 * 32 + 1 + 1 + 8 + 8 + 8 + 8 + 8 + 8 + 8 + 8 + 8 + 8, false⟩ := by unfold r14; rw [e13]; exact t14
  obtain ⟨v15, t15, h⟩ := take_fw (N := N) (s := ⟨s.at_ + 8 + 8 * 32 + 1 + 1 + 8 + 8 + 8 + 8 + 8 + 8 + 8 + 8 + 8 + 8, false⟩) (v := cp.mcycle) rfl (by decide) (by show s.at_ + 8 + 8 * 32 + 1 + 1 + 8 + 8 + 8 + 8 + 8 + 8 + 8 + 8 + 8 + 8 + 8 ≤ N; omega) (BitVec.isLt _) h
  have e15 : r15 p N s = ⟨s.at_ + 8 + 8 * 32 + 1 + 1 + 8 + 8 + 8 + 8 + 8 + 8 + 8 + 8 + 8 + 8 + 8, false⟩ := by unfold r15; rw [e14]; exact t15
  obtain ⟨v16, t16, h⟩ := take_fw (N := N) (s := ⟨s.at_ + 8 + 8 * 32 + 1 + 1 + 8 + 8 + 8 + 8 + 8 + 8 + 8 + 8 + 8 + 8 + 8, false⟩) (v := cp.minstret) rfl (by decide) (by show s.at_ + 8 + 8 * 32 + 1 + 1 + 8 + 8 + 8 + 8 + 8 + 8 + 8 + 8 + 8 + 8 + 8 + 8 ≤ N; omega) (BitVec.isLt _) h
  have e16 : r16 p N s = ⟨s.at_ + 8 + 8 * 32 + 1 + 1 + 8 + 8 + 8 + 8 + 8 + 8 + 8 + 8 + 8 + 8 + 8 + 8, false⟩ := by unfold r16; rw [e15]; exact t16
  obtain ⟨v17, t17, h⟩ := seq_fw (N := N) (s := ⟨s.at_ + 8 + 8 * 32 + 1 + 1 + 8 + 8 + 8 + 8 + 8 + 8 + 8 + 8 + 8 + 8 + 8 + 8, false⟩) (v := fun i => (cp.cfg i).setWidth 64) (n := 16) rfl (by decide) (by show s.at_ + 8 + 8 * 32 + 1 + 1 + 8 + 8 + 8 + 8 + 8 + 8 + 8 + 8 + 8 + 8 + 8 + 8 + 1 * 16 ≤ N; omega) (fun i => wide_lt8 _) h
  have e17 : r17 p N s = ⟨s.at_ + 8 + 8 * 32 + 1 + 1 + 8 + 8 + 8 + 8 + 8 + 8 + 8 + 8 + 8 + 8 + 8 + 8 + 1 * 16, false⟩ := by unfold r17; rw [e16]; exact t17
  obtain ⟨v18, t18, h⟩ := seq_fw (N := N) (s := ⟨s.at_ + 8 + 8 * 32 + 1 + 1 + 8 + 8 + 8 + 8 + 8 + 8 + 8 + 8 + 8 + 8 + 8 + 8 + 1 * 16, false⟩) (v := fun i => cp.addr i) (n := 16) rfl (by decide) (by show s.at_ + 8 + 8 * 32 + 1 + 1 + 8 + 8 + 8 + 8 + 8 + 8 + 8 + 8 + 8 + 8 + 8 + 8 + 1 * 16 + 8 * 16 ≤ N; omega) (fun i => BitVec.isLt _) h
  have e18 : r18 p N s = ⟨s.at_ + 8 + 8 * 32 + 1 + 1 + 8 + 8 + 8 + 8 + 8 + 8 + 8 + 8 + 8 + 8 + 8 + 8 + 1 * 16 + 8 * 16, false⟩ := by unfold r18; rw [e17]; exact t18
  obtain ⟨v19, t19, h⟩ := flag_fw (N := N) (s := ⟨s.at_ + 8 + 8 * 32 + 1 + 1 + 8 + 8 + 8 + 8 + 8 + 8 + 8 + 8 + 8 + 8 + 8 + 8 + 1 * 16 + 8 * 16, false⟩) rfl (by show s.at_ + 8 + 8 * 32 + 1 + 1 + 8 + 8 + 8 + 8 + 8 + 8 + 8 + 8 + 8 + 8 + 8 + 8 + 1 * 16 + 8 * 16 + 1 ≤ N; omega) h
  have e19 : r19 p N s = ⟨s.at_ + 8 + 8 * 32 + 1 + 1 + 8 + 8 + 8 + 8 + 8 + 8 + 8 + 8 + 8 + 8 + 8 + 8 + 1 * 16 + 8 * 16 + 1, false⟩ := by unfold r19; rw [e18]; exact t19
  obtain ⟨v20, t20, h⟩ := take_fw (N := N) (s := ⟨s.at_ + 8 + 8 * 32 + 1 + 1 + 8 + 8 + 8 + 8 + 8 + 8 + 8 + 8 + 8 + 8 + 8 + 8 + 1 * 16 + 8 * 16 + 1, false⟩) (v := cp.raddr) rfl (by decide) (by show s.at_ + 8 + 8 * 32 + 1 + 1 + 8 + 8 + 8 + 8 + 8 + 8 + 8 + 8 + 8 + 8 + 8 + 8 + 1 * 16 + 8 * 16 + 1 + 8 ≤ N; omega) (BitVec.isLt _) h
  have e20 : r20 p N s = ⟨s.at_ + 8 + 8 * 32 + 1 + 1 + 8 + 8 + 8 + 8 + 8 + 8 + 8 + 8 + 8 + 8 + 8 + 8 + 1 * 16 + 8 * 16 + 1 + 8, false⟩ := by unfold r20; rw [e19]; exact t20
  have i21 := ofInt_back (n := 1) (by decide) hz.1 (show cp.rsize < 2 ^ (8 * 1) by have := hz.2; simpa using this)
  obtain ⟨v21, t21, h⟩ := take_fw (N := N) (s := ⟨s.at_ + 8 + 8 * 32 + 1 + 1 + 8 + 8 + 8 + 8 + 8 + 8 + 8 + 8 + 8 + 8 + 8 + 8 + 1 * 16 + 8 * 16 + 1 + 8, false⟩) (v := BitVec.ofInt 64 cp.rsize) rfl (by decide) (by show s.at_ + 8 + 8 * 32 + 1 + 1 + 8 + 8 + 8 + 8 + 8 + 8 + 8 + 8 + 8 + 8 + 8 + 8 + 1 * 16 + 8 * 16 + 1 + 8 + 1 ≤ N; omega) i21.2 h
  have e21 : r21 p N s = ⟨s.at_ + 8 + 8 * 32 + 1 + 1 + 8 + 8 + 8 + 8 + 8 + 8 + 8 + 8 + 8 + 8 + 8 + 8 + 1 * 16 + 8 * 16 + 1 + 8 + 1, false⟩ := by unfold r21; rw [e20]; exact t21
  obtain ⟨v22, t22, h⟩ := take_fw (N := N) (s := ⟨s.at_ + 8 + 8 * 32 + 1 + 1 + 8 + 8 + 8 + 8 + 8 + 8 + 8 + 8 + 8 + 8 + 8 + 8 + 1 * 16 + 8 * 16 + 1 + 8 + 1, false⟩) (v := b.msip.setWidth 64) rfl (by decide) (by show s.at_ + 8 + 8 * 32 + 1 + 1 + 8 + 8 + 8 + 8 + 8 + 8 + 8 + 8 + 8 + 8 + 8 + 8 + 1 * 16 + 8 * 16 + 1 + 8 + 1 + 4 ≤ N; omega) (wide_lt32 _) h
  have e22 : r22 p N s = ⟨s.at_ + 8 + 8 * 32 + 1 + 1 + 8 + 8 + 8 + 8 + 8 + 8 + 8 + 8 + 8 + 8 + 8 + 8 + 1 * 16 + 8 * 16 + 1 + 8 + 1 + 4, false⟩ := by unfold r22; rw [e21]; exact t22
  obtain ⟨v23, t23, h⟩ := take_fw (N := N) (s := ⟨s.at_ + 8 + 8 * 32 + 1 + 1 + 8 + 8 + 8 + 8 + 8 + 8 + 8 + 8 + 8 + 8 + 8 + 8 + 1 * 16 + 8 * 16 + 1 + 8 + 1 + 4, false⟩) (v := b.cmp) rfl (by decide) (by show s.at_ + 8 + 8 * 32 + 1 + 1 + 8 + 8 + 8 + 8 + 8 + 8 + 8 + 8 + 8 + 8 + 8 + 8 + 1 * 16 + 8 * 16 + 1 + 8 + 1 + 4 + 8 ≤ N; omega) (BitVec.isLt _) h
  have e23 : r23 p N s = ⟨s.at_ + 8 + 8 * 32 + 1 + 1 + 8 + 8 + 8 + 8 + 8 + 8 + 8 + 8 + 8 + 8 + 8 + 8 + 1 * 16 + 8 * 16 + 1 + 8 + 1 + 4 + 8, false⟩ := by unfold r23; rw [e22]; exact t23
  obtain ⟨v24, t24, h⟩ := take_fw (N := N) (s := ⟨s.at_ + 8 + 8 * 32 + 1 + 1 + 8 + 8 + 8 + 8 + 8 + 8 + 8 + 8 + 8 + 8 + 8 + 8 + 1 * 16 + 8 * 16 + 1 + 8 + 1 + 4 + 8, false⟩) (v := b.now) rfl (by decide) (by show s.at_ + 8 + 8 * 32 + 1 + 1 + 8 + 8 + 8 + 8 + 8 + 8 + 8 + 8 + 8 + 8 + 8 + 8 + 1 * 16 + 8 * 16 + 1 + 8 + 1 + 4 + 8 + 8 ≤ N; omega) (BitVec.isLt _) h
  have e24 : r24 p N s = ⟨s.at_ + 8 + 8 * 32 + 1 + 1 + 8 + 8 + 8 + 8 + 8 + 8 + 8 + 8 + 8 + 8 + 8 + 8 + 1 * 16 + 8 * 16 + 1 + 8 + 1 + 4 + 8 + 8, false⟩ := by unfold r24; rw [e23]; exact t24
  obtain ⟨v25, t25, h⟩ := flag_fw (N := N) (s := ⟨s.at_ + 8 + 8 * 32 + 1 + 1 + 8 + 8 + 8 + 8 + 8 + 8 + 8 + 8 + 8 + 8 + 8 + 8 + 1 * 16 + 8 * 16 + 1 + 8 + 1 + 4 + 8 + 8, false⟩) rfl (by show s.at_ + 8 + 8 * 32 + 1 + 1 + 8 + 8 + 8 + 8 + 8 + 8 + 8 + 8 + 8 + 8 + 8 + 8 + 1 * 16 + 8 * 16 + 1 + 8 + 1 + 4 + 8 + 8 + 1 ≤ N; omega) h
  have e25 : r25 p N s = ⟨s.at_ + 8 + 8 * 32 + 1 + 1 + 8 + 8 + 8 + 8 + 8 + 8 + 8 + 8 + 8 + 8 + 8 + 8 + 1 * 16 + 8 * 16 + 1 + 8 + 1 + 4 + 8 + 8 + 1, false⟩ := by unfold r25; rw [e24]; exact t25
  obtain ⟨v26, t26, h⟩ := flag_fw (N := N) (s := ⟨s.at_ + 8 + 8 * 32 + 1 + 1 + 8 + 8 + 8 + 8 + 8 + 8 + 8 + 8 + 8 + 8 + 8 + 8 + 1 * 16 + 8 * 16 + 1 + 8 + 1 + 4 + 8 + 8 + 1, false⟩) rfl (by show s.at_ + 8 + 8 * 32 + 1 + 1 + 8 + 8 + 8 + 8 + 8 + 8 + 8 + 8 + 8 + 8 + 8 + 8 + 1 * 16 + 8 * 16 + 1 + 8 + 1 + 4 + 8 + 8 + 1 + 1 ≤ N; omega) h
  have e26 : r26 p N s = ⟨s.at_ + 8 + 8 * 32 + 1 + 1 + 8 + 8 + 8 + 8 + 8 + 8 + 8 + 8 + 8 + 8 + 8 + 8 + 1 * 16 + 8 * 16 + 1 + 8 + 1 + 4 + 8 + 8 + 1 + 1, false⟩ := by unfold r26; rw [e25]; exact t26
  obtain ⟨v27, t27, h⟩ := take_fw (N := N) (s := ⟨s.at_ + 8 + 8 * 32 + 1 + 1 + 8 + 8 + 8 + 8 + 8 + 8 + 8 + 8 + 8 + 8 + 8 + 8 + 1 * 16 + 8 * 16 + 1 + 8 + 1 + 4 + 8 + 8 + 1 + 1, false⟩) (v := b.ier.setWidth 64) rfl (by decide) (by show s.at_ + 8 + 8 * 32 + 1 + 1 + 8 + 8 + 8 + 8 + 8 + 8 + 8 + 8 + 8 + 8 + 8 + 8 + 1 * 16 + 8 * 16 + 1 + 8 + 1 + 4 + 8 + 8 + 1 + 1 + 1 ≤ N; omega) (wide_lt8 _) h
  have e27 : r27 p N s = ⟨s.at_ + 8 + 8 * 32 + 1 + 1 + 8 + 8 + 8 + 8 + 8 + 8 + 8 + 8 + 8 + 8 + 8 + 8 + 1 * 16 + 8 * 16 + 1 + 8 + 1 + 4 + 8 + 8 + 1 + 1 + 1, false⟩ := by unfold r27; rw [e26]; exact t27
  obtain ⟨v28, t28, h⟩ := take_fw (N := N) (s := ⟨s.at_ + 8 + 8 * 32 + 1 + 1 + 8 + 8 + 8 + 8 + 8 + 8 + 8 + 8 + 8 + 8 + 8 + 8 + 1 * 16 + 8 * 16 + 1 + 8 + 1 + 4 + 8 + 8 + 1 + 1 + 1, false⟩) (v := b.lcr.setWidth 64) rfl (by decide) (by show s.at_ + 8 + 8 * 32 + 1 + 1 + 8 + 8 + 8 + 8 + 8 + 8 + 8 + 8 + 8 + 8 + 8 + 8 + 1 * 16 + 8 * 16 + 1 + 8 + 1 + 4 + 8 + 8 + 1 + 1 + 1 + 1 ≤ N; omega) (wide_lt8 _) h
  have e28 : r28 p N s = ⟨s.at_ + 8 + 8 * 32 + 1 + 1 + 8 + 8 + 8 + 8 + 8 + 8 + 8 + 8 + 8 + 8 + 8 + 8 + 1 * 16 + 8 * 16 + 1 + 8 + 1 + 4 + 8 + 8 + 1 + 1 + 1 + 1, false⟩ := by unfold r28; rw [e27]; exact t28
  obtain ⟨v29, t29, h⟩ := take_fw (N := N) (s := ⟨s.at_ + 8 + 8 * 32 + 1 + 1 + 8 + 8 + 8 + 8 + 8 + 8 + 8 + 8 + 8 + 8 + 8 + 8 + 1 * 16 + 8 * 16 + 1 + 8 + 1 + 4 + 8 + 8 + 1 + 1 + 1 + 1, false⟩) (v := b.mcr.setWidth 64) rfl (by decide) (by show s.at_ + 8 + 8 * 32 + 1 + 1 + 8 + 8 + 8 + 8 + 8 + 8 + 8 + 8 + 8 + 8 + 8 + 8 + 1 * 16 + 8 * 16 + 1 + 8 + 1 + 4 + 8 + 8 + 1 + 1 + 1 + 1 + 1 ≤ N; omega) (wide_lt8 _) h
  have e29 : r29 p N s = ⟨s.at_ + 8 + 8 * 32 + 1 + 1 + 8 + 8 + 8 + 8 + 8 + 8 + 8 + 8 + 8 + 8 + 8 + 8 + 1 * 16 + 8 * 16 + 1 + 8 + 1 + 4 + 8 + 8 + 1 + 1 + 1 + 1 + 1, false⟩ := by unfold r29; rw [e28]; exact t29
  obtain ⟨v30, t30, h⟩ := take_fw (N := N) (s := ⟨s.at_ + 8 + 8 * 32 + 1 + 1 + 8 + 8 + 8 + 8 + 8 + 8 + 8 + 8 + 8 + 8 + 8 + 8 + 1 * 16 + 8 * 16 + 1 + 8 + 1 + 4 + 8 + 8 + 1 + 1 + 1 + 1 + 1, false⟩) (v := b.scratch.setWidth 64) rfl (by decide) (by show s.at_ + 8 + 8 * 32 + 1 + 1 + 8 + 8 + 8 + 8 + 8 + 8 + 8 + 8 + 8 + 8 + 8 + 8 + 1 * 16 + 8 * 16 + 1 + 8 + 1 + 4 + 8 + 8 + 1 + 1 + 1 + 1 + 1 + 1 ≤ N; omega) (wide_lt8 _) h
  have e30 : r30 p N s = ⟨s.at_ + 8 + 8 * 32 + 1 + 1 + 8 + 8 + 8 + 8 + 8 + 8 + 8 + 8 + 8 + 8 + 8 + 8 + 1 * 16 + 8 * 16 + 1 + 8 + 1 + 4 + 8 + 8 + 1 + 1 + 1 + 1 + 1 + 1, false⟩ := by unfold r30; rw [e29]; exact t30
  obtain ⟨v31, t31, h⟩ := flag_fw (N := N) (s := ⟨s.at_ + 8 + 8 * 32 + 1 + 1 + 8 + 8 + 8 + 8 + 8 + 8 + 8 + 8 + 8 + 8 + 8 + 8 + 1 * 16 + 8 * 16 + 1 + 8 + 1 + 4 + 8 + 8 + 1 + 1 + 1 + 1 + 1 + 1, false⟩) rfl (by show s.at_ + 8 + 8 * 32 + 1 + 1 + 8 + 8 + 8 + 8 + 8 + 8 + 8 + 8 + 8 + 8 + 8 + 8 + 1 * 16 + 8 * 16 + 1 + 8 + 1 + 4 + 8 + 8 + 1 + 1 + 1 + 1 + 1 + 1 + 1 ≤ N; omega) h
  have e31 : r31 p N s = ⟨s.at_ + 8 + 8 * 32 + 1 + 1 + 8 + 8 + 8 + 8 + 8 + 8 + 8 + 8 + 8 + 8 + 8 + 8 + 1 * 16 + 8 * 16 + 1 + 8 + 1 + 4 + 8 + 8 + 1 + 1 + 1 + 1 + 1 + 1 + 1, false⟩ := by unfold r31; rw [e30]; exact t31
  have i32 := ofInt_back (n := 1) (by decide) ho.1 (show b.off < 2 ^ (8 * 1) by have := ho.2; simpa using this)
  obtain ⟨v32, t32, h⟩ := take_fw (N := N) (s := ⟨s.at_ + 8 + 8 * 32 + 1 + 1 + 8 + 8 + 8 + 8 + 8 + 8 + 8 + 8 + 8 + 8 + 8 + 8 + 1 * 16 + 8 * 16 + 1 + 8 + 1 + 4 + 8 + 8 + 1 + 1 + 1 + 1 + 1 + 1 + 1, false⟩) (v := BitVec.ofInt 64 b.off) rfl (by decide) (by show s.at_ + 8 + 8 * 32 + 1 + 1 + 8 + 8 + 8 + 8 + 8 + 8 + 8 + 8 + 8 + 8 + 8 + 8 + 1 * 16 + 8 * 16 + 1 + 8 + 1 + 4 + 8 + 8 + 1 + 1 + 1 + 1 + 1 + 1 + 1 + 1 ≤ N; omega) i32.2 h
  have e32 : r32 p N s = ⟨s.at_ + 8 + 8 * 32 + 1 + 1 + 8 + 8 + 8 + 8 + 8 + 8 + 8 + 8 + 8 + 8 + 8 + 8 + 1 * 16 + 8 * 16 + 1 + 8 + 1 + 4 + 8 + 8 + 1 + 1 + 1 + 1 + 1 + 1 + 1 + 1, false⟩ := by unfold r32; rw [e31]; exact t32
  have i33 := ofInt_back (n := 4) (by decide) hc.1 (show b.code < 2 ^ (8 * 4) by have := hc.2; simpa using this)
  obtain ⟨v33, t33, h⟩ := take_fw (N := N) (s := ⟨s.at_ + 8 + 8 * 32 + 1 + 1 + 8 + 8 + 8 + 8 + 8 + 8 + 8 + 8 + 8 + 8 + 8 + 8 + 1 * 16 + 8 * 16 + 1 + 8 + 1 + 4 + 8 + 8 + 1 + 1 + 1 + 1 + 1 + 1 + 1 + 1, false⟩) (v := BitVec.ofInt 64 b.code) rfl (by decide) (by show s.at_ + 8 + 8 * 32 + 1 + 1 + 8 + 8 + 8 + 8 + 8 + 8 + 8 + 8 + 8 + 8 + 8 + 8 + 1 * 16 + 8 * 16 + 1 + 8 + 1 + 4 + 8 + 8 + 1 + 1 + 1 + 1 + 1 + 1 + 1 + 1 + 4 ≤ N; omega) i33.2 h
  have e33 : r33 p N s = ⟨s.at_ + 8 + 8 * 32 + 1 + 1 + 8 + 8 + 8 + 8 + 8 + 8 + 8 + 8 + 8 + 8 + 8 + 8 + 1 * 16 + 8 * 16 + 1 + 8 + 1 + 4 + 8 + 8 + 1 + 1 + 1 + 1 + 1 + 1 + 1 + 1 + 4, false⟩ := by unfold r33; rw [e32]; exact t33
  obtain ⟨v34, q34, t34, h⟩ := list_fw (N := N) (most := 64) (s := ⟨s.at_ + 8 + 8 * 32 + 1 + 1 + 8 + 8 + 8 + 8 + 8 + 8 + 8 + 8 + 8 + 8 + 8 + 8 + 1 * 16 + 8 * 16 + 1 + 8 + 1 + 4 + 8 + 8 + 1 + 1 + 1 + 1 + 1 + 1 + 1 + 1 + 4, false⟩) rfl (by decide) (by show s.at_ + 8 + 8 * 32 + 1 + 1 + 8 + 8 + 8 + 8 + 8 + 8 + 8 + 8 + 8 + 8 + 8 + 8 + 1 * 16 + 8 * 16 + 1 + 8 + 1 + 4 + 8 + 8 + 1 + 1 + 1 + 1 + 1 + 1 + 1 + 1 + 4 + 1 + b.ni ≤ N; omega) (by omega) (by omega) h
  have e34 : r34 p N s = ⟨s.at_ + 8 + 8 * 32 + 1 + 1 + 8 + 8 + 8 + 8 + 8 + 8 + 8 + 8 + 8 + 8 + 8 + 8 + 1 * 16 + 8 * 16 + 1 + 8 + 1 + 4 + 8 + 8 + 1 + 1 + 1 + 1 + 1 + 1 + 1 + 1 + 4 + 1 + b.ni, false⟩ := by unfold r34; rw [e33]; exact t34
  obtain ⟨v35, q35, t35, h⟩ := list_fw (N := N) (most := 4096) (s := ⟨s.at_ + 8 + 8 * 32 + 1 + 1 + 8 + 8 + 8 + 8 + 8 + 8 + 8 + 8 + 8 + 8 + 8 + 8 + 1 * 16 + 8 * 16 + 1 + 8 + 1 + 4 + 8 + 8 + 1 + 1 + 1 + 1 + 1 + 1 + 1 + 1 + 4 + 1 + b.ni, false⟩) rfl (by decide) (by show s.at_ + 8 + 8 * 32 + 1 + 1 + 8 + 8 + 8 + 8 + 8 + 8 + 8 + 8 + 8 + 8 + 8 + 8 + 1 * 16 + 8 * 16 + 1 + 8 + 1 + 4 + 8 + 8 + 1 + 1 + 1 + 1 + 1 + 1 + 1 + 1 + 4 + 1 + b.ni + 2 + b.no ≤ N; omega) (by omega) (by omega) h
  have e35 : r35 p N s = ⟨s.at_ + 8 + 8 * 32 + 1 + 1 + 8 + 8 + 8 + 8 + 8 + 8 + 8 + 8 + 8 + 8 + 8 + 8 + 1 * 16 + 8 * 16 + 1 + 8 + 1 + 4 + 8 + 8 + 1 + 1 + 1 + 1 + 1 + 1 + 1 + 1 + 4 + 1 + b.ni + 2 + b.no, false⟩ := by unfold r35; rw [e34]; exact t35
  have eE : bothR p N s = ⟨s.at_ + 551 + b.ni + b.no, false⟩ := by
    show r35 p N s = _
    rw [e35, Rs.mk.injEq]
    exact ⟨by omega, rfl⟩
  refine ⟨⟨?_, ?_, ?_, ?_, ?_, ?_, ?_, ?_, ?_, ?_, ?_, ?_, ?_, ?_, ?_, ?_, ?_, ?_, ?_, ?_, ?_⟩, ?_, ?_, ?_, eE, ?_⟩
  · exact (by show numV p N 8 (s) = _; exact v1)
  · exact (fun j hj => by show numV p N 8 (seqR N 8 (r1 p N s) j) = _; rw [e1]; exact v2 j hj)
  · exact (by show (numV p N 1 (r2 p N s)).toInt = _; rw [e2]; rw [v3]; exact i3.1)
  · exact (by show flagV p N (r3 p N s) = _; rw [e3]; exact v4)
  · exact (by show numV p N 8 (r4 p N s) = _; rw [e4]; exact v5)
  · exact (by show numV p N 8 (r5 p N s) = _; rw [e5]; exact v6)
  · exact (by show numV p N 8 (r6 p N s) = _; rw [e6]; exact v7)
  · exact (by show numV p N 8 (r7 p N s) = _; rw [e7]; exact v8)
  · exact (by show numV p N 8 (r8 p N s) = _; rw [e8]; exact v9)
  · exact (by show numV p N 8 (r9 p N s) = _; rw [e9]; exact v10)
  · exact (by show numV p N 8 (r10 p N s) = _; rw [e10]; exact v11)
  · exact (by show numV p N 8 (r11 p N s) = _; rw [e11]; exact v12)
  · exact (by show numV p N 8 (r12 p N s) = _; rw [e12]; exact v13)
  · exact (by show numV p N 8 (r13 p N s) = _; rw [e13]; exact v14)
  · exact (by show numV p N 8 (r14 p N s) = _; rw [e14]; exact v15)
  · exact (by show numV p N 8 (r15 p N s) = _; rw [e15]; exact v16)
  · exact (fun j hj => by show (numV p N 1 (seqR N 1 (r16 p N s) j)).setWidth 8 = _; rw [e16]; rw [v17 j hj]; exact back8 _)
  · exact (fun j hj => by show numV p N 8 (seqR N 8 (r17 p N s) j) = _; rw [e17]; exact v18 j hj)
  · exact (by show flagV p N (r18 p N s) = _; rw [e18]; exact v19)
  · exact (by show numV p N 8 (r19 p N s) = _; rw [e19]; exact v20)
  · exact (by show (numV p N 1 (r20 p N s)).toInt = _; rw [e20]; rw [v21]; exact i21.1)
  · unfold busR
    obtain ⟨nr, msip, cmp, now, ext, soft, ier, lcr, mcr, scratch, overrun, ni, no, off, code⟩ := b
    rw [BusV.mk.injEq]
    exact ⟨rfl, (by show (numV p N 4 (r21 p N s)).setWidth 32 = _; rw [e21]; rw [v22]; exact back32 _), (by show numV p N 8 (r22 p N s) = _; rw [e22]; exact v23), (by show numV p N 8 (r23 p N s) = _; rw [e23]; exact v24), (by show flagV p N (r24 p N s) = _; rw [e24]; exact v25), (by show flagV p N (r25 p N s) = _; rw [e25]; exact v26), (by show (numV p N 1 (r26 p N s)).setWidth 8 = _; rw [e26]; rw [v27]; exact back8 _), (by show (numV p N 1 (r27 p N s)).setWidth 8 = _; rw [e27]; rw [v28]; exact back8 _), (by show (numV p N 1 (r28 p N s)).setWidth 8 = _; rw [e28]; rw [v29]; exact back8 _), (by show (numV p N 1 (r29 p N s)).setWidth 8 = _; rw [e29]; rw [v30]; exact back8 _), (by show flagV p N (r30 p N s) = _; rw [e30]; exact v31), (by show listN p N 1 64 (r33 p N s) = _; rw [e33]; exact v34), (by show listN p N 2 4096 (r34 p N s) = _; rw [e34]; exact v35), (by show (numV p N 1 (r31 p N s)).toInt = _; rw [e31]; rw [v32]; exact i32.1), (by show (numV p N 4 (r32 p N s)).toInt = _; rw [e32]; rw [v33]; exact i33.1)⟩
  · intro j hj; show listQ p N 1 64 (r33 p N s) j = _; rw [e33]; exact q34 j hj
  · intro j hj; show listQ p N 2 4096 (r34 p N s) j = _; rw [e34]; exact q35 j hj
  · rw [show s.at_ + 551 + b.ni + b.no = s.at_ + 8 + 8 * 32 + 1 + 1 + 8 + 8 + 8 + 8 + 8 + 8 + 8 + 8 + 8 + 8 + 8 + 8 + 1 * 16 + 8 * 16 + 1 + 8 + 1 + 4 + 8 + 8 + 1 + 1 + 1 + 1 + 1 + 1 + 1 + 1 + 4 + 1 + b.ni + 2 + b.no from by omega]; exact h
set_option maxRecDepth 100000 in
set_option maxHeartbeats 4000000 in
theorem both_bw {p : Nat → B8} {N n : Nat} {s : Rs} (h : (bothR p N s).bad = false) :
    lst p (bothR p N s).at_ = devOn (busR n p N s) (inR p N s) (outR p N s) (cpuOn (cpuR p N s) (lst p s.at_)) ∧ (busR n p N s).ni ≤ 64 ∧ (busR n p N s).no ≤ 4096 := by
  obtain ⟨b34, c35, m35⟩ := list_bw (p := p) (N := N) (size := 2) (most := 4096) (s := r34 p N s) (by decide) h
  obtain ⟨b33, c34, m34⟩ := list_bw (p := p) (N := N) (size := 1) (most := 64) (s := r33 p N s) (by decide) b34
  obtain ⟨b32, _, f33, g33⟩ := take_bw (p := p) (N := N) (k := 4) (s := r32 p N s) (by decide) b33
  have c33 : lst p (r33 p N s).at_ = lst p (r32 p N s).at_ ++ le (numV p N 4 (r32 p N s)) 4 := by show lst p (takeR N 4 (r32 p N s)).at_ = _; rw [f33]; exact g33
  obtain ⟨b31, _, f32, g32⟩ := take_bw (p := p) (N := N) (k := 1) (s := r31 p N s) (by decide) b32
  have c32 : lst p (r32 p N s).at_ = lst p (r31 p N s).at_ ++ le (numV p N 1 (r31 p N s)) 1 := by show lst p (takeR N 1 (r31 p N s)).at_ = _; rw [f32]; exact g32
  obtain ⟨b30, c31⟩ := flag_bw (p := p) (N := N) (s := r30 p N s) b31
  obtain ⟨b29, _, f30, g30⟩ := take_bw (p := p) (N := N) (k := 1) (s := r29 p N s) (by decide) b30
  have c30 : lst p (r30 p N s).at_ = lst p (r29 p N s).at_ ++ le (numV p N 1 (r29 p N s)) 1 := by show lst p (takeR N 1 (r29 p N s)).at_ = _; rw [f30]; exact g30
  obtain ⟨b28, _, f29, g29⟩ := take_bw (p := p) (N := N) (k := 1) (s := r28 p N s) (by decide) b29
  have c29 : lst p (r29 p N s).at_ = lst p (r28 p N s).at_ ++ le (numV p N 1 (r28 p N s)) 1 := by show lst p (takeR N 1 (r28 p N s)).at_ = _; rw [f29]; exact g29
  obtain ⟨b27, _, f28, g28⟩ := take_bw (p := p) (N := N) (k := 1) (s := r27 p N s) (by decide) b28
  have c28 : lst p (r28 p N s).at_ = lst p (r27 p N s).at_ ++ le (numV p N 1 (r27 p N s)) 1 := by show lst p (takeR N 1 (r27 p N s)).at_ = _; rw [f28]; exact g28
  obtain ⟨b26, _, f27, g27⟩ := take_bw (p := p) (N := N) (k := 1) (s := r26 p N s) (by decide) b27
  have c27 : lst p (r27 p N s).at_ = lst p (r26 p N s).at_ ++ le (numV p N 1 (r26 p N s)) 1 := by show lst p (takeR N 1 (r26 p N s)).at_ = _; rw [f27]; exact g27
  obtain ⟨b25, c26⟩ := flag_bw (p := p) (N := N) (s := r25 p N s) b26
  obtain ⟨b24, c25⟩ := flag_bw (p := p) (N := N) (s := r24 p N s) b25
  obtain ⟨b23, _, f24, g24⟩ := take_bw (p := p) (N := N) (k := 8) (s := r23 p N s) (by decide) b24
  have c24 : lst p (r24 p N s).at_ = lst p (r23 p N s).at_ ++ le (numV p N 8 (r23 p N s)) 8 := by show lst p (takeR N 8 (r23 p N s)).at_ = _; rw [f24]; exact g24
  obtain ⟨b22, _, f23, g23⟩ := take_bw (p := p) (N := N) (k := 8) (s := r22 p N s) (by decide) b23
  have c23 : lst p (r23 p N s).at_ = lst p (r22 p N s).at_ ++ le (numV p N 8 (r22 p N s)) 8 := by show lst p (takeR N 8 (r22 p N s)).at_ = _; rw [f23]; exact g23
  obtain ⟨b21, _, f22, g22⟩ := take_bw (p := p) (N := N) (k := 4) (s := r21 p N s) (by decide) b22
  have c22 : lst p (r22 p N s).at_ = lst p (r21 p N s).at_ ++ le (numV p N 4 (r21 p N s)) 4 := by show lst p (takeR N 4 (r21 p N s)).at_ = _; rw [f22]; exact g22
  obtain ⟨b20, _, f21, g21⟩ := take_bw (p := p) (N := N) (k := 1) (s := r20 p N s) (by decide) b21
  have c21 : lst p (r21 p N s).at_ = lst p (r20 p N s).at_ ++ le (numV p N 1 (r20 p N s)) 1 := by show lst p (takeR N 1 (r20 p N s)).at_ = _; rw [f21]; exact g21
  obtain ⟨b19, _, f20, g20⟩ := take_bw (p := p) (N := N) (k := 8) (s := r19 p N s) (by decide) b20
  have c20 : lst p (r20 p N s).at_ = lst p (r19 p N s).at_ ++ le (numV p N 8 (r19 p N s)) 8 := by show lst p (takeR N 8 (r19 p N s)).at_ = _; rw [f20]; exact g20
  obtain ⟨b18, c19⟩ := flag_bw (p := p) (N := N) (s := r18 p N s) b19
  obtain ⟨b17, c18⟩ := seq_bw (p := p) (N := N) (k := 8) (s := r17 p N s) (by decide) (n := 16) b18
  obtain ⟨b16, c17⟩ := seq_bw (p := p) (N := N) (k := 1) (s := r16 p N s) (by decide) (n := 16) b17
  obtain ⟨b15, _, f16, g16⟩ := take_bw (p := p) (N := N) (k := 8) (s := r15 p N s) (by decide) b16
  have c16 : lst p (r16 p N s).at_ = lst p (r15 p N s).at_ ++ le (numV p N 8 (r15 p N s)) 8 := by show lst p (takeR N 8 (r15 p N s)).at_ = _; rw [f16]; exact g16
  obtain ⟨b14, _, f15, g15⟩ := take_bw (p := p) (N := N) (k := 8) (s := r14 p N s) (by decide) b15
  have c15 : lst p (r15 p N s).at_ = lst p (r14 p N s).at_ ++ le (numV p N 8 (r14 p N s)) 8 := by show lst p (takeR N 8 (r14 p N s)).at_ = _; rw [f15]; exact g15
  obtain ⟨b13, _, f14, g14⟩ := take_bw (p := p) (N := N) (k := 8) (s := r13 p N s) (by decide) b14
  have c14 : lst p (r14 p N s).at_ = lst p (r13 p N s).at_ ++ le (numV p N 8 (r13 p N s)) 8 := by show lst p (takeR N 8 (r13 p N s)).at_ = _; rw [f14]; exact g14
  obtain ⟨b12, _, f13, g13⟩ := take_bw (p := p) (N := N) (k := 8) (s := r12 p N s) (by decide) b13
  have c13 : lst p (r13 p N s).at_ = lst p (r12 p N s).at_ ++ le (numV p N 8 (r12 p N s)) 8 := by show lst p (takeR N 8 (r12 p N s)).at_ = _; rw [f13]; exact g13
  obtain ⟨b11, _, f12, g12⟩ := take_bw (p := p) (N := N) (k := 8) (s := r11 p N s) (by decide) b12
  have c12 : lst p (r12 p N s).at_ = lst p (r11 p N s).at_ ++ le (numV p N 8 (r11 p N s)) 8 := by show lst p (takeR N 8 (r11 p N s)).at_ = _; rw [f12]; exact g12
  obtain ⟨b10, _, f11, g11⟩ := take_bw (p := p) (N := N) (k := 8) (s := r10 p N s) (by decide) b11
  have c11 : lst p (r11 p N s).at_ = lst p (r10 p N s).at_ ++ le (numV p N 8 (r10 p N s)) 8 := by show lst p (takeR N 8 (r10 p N s)).at_ = _; rw [f11]; exact g11
  obtain ⟨b9, _, f10, g10⟩ := take_bw (p := p) (N := N) (k := 8) (s := r9 p N s) (by decide) b10
  have c10 : lst p (r10 p N s).at_ = lst p (r9 p N s).at_ ++ le (numV p N 8 (r9 p N s)) 8 := by show lst p (takeR N 8 (r9 p N s)).at_ = _; rw [f10]; exact g10
  obtain ⟨b8, _, f9, g9⟩ := take_bw (p := p) (N := N) (k := 8) (s := r8 p N s) (by decide) b9
  have c9 : lst p (r9 p N s).at_ = lst p (r8 p N s).at_ ++ le (numV p N 8 (r8 p N s)) 8 := by show lst p (takeR N 8 (r8 p N s)).at_ = _; rw [f9]; exact g9
  obtain ⟨b7, _, f8, g8⟩ := take_bw (p := p) (N := N) (k := 8) (s := r7 p N s) (by decide) b8
  have c8 : lst p (r8 p N s).at_ = lst p (r7 p N s).at_ ++ le (numV p N 8 (r7 p N s)) 8 := by show lst p (takeR N 8 (r7 p N s)).at_ = _; rw [f8]; exact g8
  obtain ⟨b6, _, f7, g7⟩ := take_bw (p := p) (N := N) (k := 8) (s := r6 p N s) (by decide) b7
  have c7 : lst p (r7 p N s).at_ = lst p (r6 p N s).at_ ++ le (numV p N 8 (r6 p N s)) 8 := by show lst p (takeR N 8 (r6 p N s)).at_ = _; rw [f7]; exact g7
  obtain ⟨b5, _, f6, g6⟩ := take_bw (p := p) (N := N) (k := 8) (s := r5 p N s) (by decide) b6
  have c6 : lst p (r6 p N s).at_ = lst p (r5 p N s).at_ ++ le (numV p N 8 (r5 p N s)) 8 := by show lst p (takeR N 8 (r5 p N s)).at_ = _; rw [f6]; exact g6
  obtain ⟨b4, _, f5, g5⟩ := take_bw (p := p) (N := N) (k := 8) (s := r4 p N s) (by decide) b5
  have c5 : lst p (r5 p N s).at_ = lst p (r4 p N s).at_ ++ le (numV p N 8 (r4 p N s)) 8 := by show lst p (takeR N 8 (r4 p N s)).at_ = _; rw [f5]; exact g5
  obtain ⟨b3, c4⟩ := flag_bw (p := p) (N := N) (s := r3 p N s) b4
  obtain ⟨b2, _, f3, g3⟩ := take_bw (p := p) (N := N) (k := 1) (s := r2 p N s) (by decide) b3
  have c3 : lst p (r3 p N s).at_ = lst p (r2 p N s).at_ ++ le (numV p N 1 (r2 p N s)) 1 := by show lst p (takeR N 1 (r2 p N s)).at_ = _; rw [f3]; exact g3
  obtain ⟨b1, c2⟩ := seq_bw (p := p) (N := N) (k := 8) (s := r1 p N s) (by decide) (n := 32) b2
  obtain ⟨b0, _, f1, g1⟩ := take_bw (p := p) (N := N) (k := 8) (s := s) (by decide) b1
  have c1 : lst p (r1 p N s).at_ = lst p (s).at_ ++ le (numV p N 8 (s)) 8 := by show lst p (takeR N 8 (s)).at_ = _; rw [f1]; exact g1
  replace c1 : lst p (r1 p N s).at_ = lst p (s).at_ ++ (le (cpuR p N s).pc 8) := by first | exact c1 | exact (c1).trans (List.append_assoc _ _ _)
  replace c2 : lst p (r2 p N s).at_ = lst p (r1 p N s).at_ ++ (manyN (fun i => le ((cpuR p N s).x i) 8) [] 32) := by first | exact c2 | exact (c2).trans (List.append_assoc _ _ _)
  replace c3 : lst p (r3 p N s).at_ = lst p (r2 p N s).at_ ++ (le (BitVec.ofInt 64 (cpuR p N s).mode) 1) := by first | exact c3.trans (congrArg _ (le_int _ _).symm) | exact (c3.trans (congrArg _ (le_int _ _).symm)).trans (List.append_assoc _ _ _)
  replace c4 : lst p (r4 p N s).at_ = lst p (r3 p N s).at_ ++ (bb (cpuR p N s).waiting) := by first | exact c4 | exact (c4).trans (List.append_assoc _ _ _)
  replace c5 : lst p (r5 p N s).at_ = lst p (r4 p N s).at_ ++ (le (cpuR p N s).mstatus 8) := by first | exact c5 | exact (c5).trans (List.append_assoc _ _ _)
  replace c6 : lst p (r6 p N s).at_ = lst p (r5 p N s).at_ ++ (le (cpuR p N s).mtvec 8) := by first | exact c6 | exact (c6).trans (List.append_assoc _ _ _)
  replace c7 : lst p (r7 p N s).at_ = lst p (r6 p N s).at_ ++ (le (cpuR p N s).mie 8) := by first | exact c7 | exact (c7).trans (List.append_assoc _ _ _)
  replace c8 : lst p (r8 p N s).at_ = lst p (r7 p N s).at_ ++ (le (cpuR p N s).mcounteren 8) := by first | exact c8 | exact (c8).trans (List.append_assoc _ _ _)
  replace c9 : lst p (r9 p N s).at_ = lst p (r8 p N s).at_ ++ (le (cpuR p N s).mcountinhibit 8) := by first | exact c9 | exact (c9).trans (List.append_assoc _ _ _)
  replace c10 : lst p (r10 p N s).at_ = lst p (r9 p N s).at_ ++ (le (cpuR p N s).menvcfg 8) := by first | exact c10 | exact (c10).trans (List.append_assoc _ _ _)
  replace c11 : lst p (r11 p N s).at_ = lst p (r10 p N s).at_ ++ (le (cpuR p N s).mscratch 8) := by first | exact c11 | exact (c11).trans (List.append_assoc _ _ _)
  replace c12 : lst p (r12 p N s).at_ = lst p (r11 p N s).at_ ++ (le (cpuR p N s).mepc 8) := by first | exact c12 | exact (c12).trans (List.append_assoc _ _ _)
  replace c13 : lst p (r13 p N s).at_ = lst p (r12 p N s).at_ ++ (le (cpuR p N s).mcause 8) := by first | exact c13 | exact (c13).trans (List.append_assoc _ _ _)
  replace c14 : lst p (r14 p N s).at_ = lst p (r13 p N s).at_ ++ (le (cpuR p N s).mtval 8) := by first | exact c14 | exact (c14).trans (List.append_assoc _ _ _)
  replace c15 : lst p (r15 p N s).at_ = lst p (r14 p N s).at_ ++ (le (cpuR p N s).mcycle 8) := by first | exact c15 | exact (c15).trans (List.append_assoc _ _ _)
  replace c16 : lst p (r16 p N s).at_ = lst p (r15 p N s).at_ ++ (le (cpuR p N s).minstret 8) := by first | exact c16 | exact (c16).trans (List.append_assoc _ _ _)
  replace c17 : lst p (r17 p N s).at_ = lst p (r16 p N s).at_ ++ (manyN (fun i => le (((cpuR p N s).cfg i).setWidth 64) 1) [] 16) := by first | exact c17.trans (congrArg _ (manyN_congr fun j _ => (le_cut8 _).symm)) | exact (c17.trans (congrArg _ (manyN_congr fun j _ => (le_cut8 _).symm))).trans (List.append_assoc _ _ _)
  replace c18 : lst p (r18 p N s).at_ = lst p (r17 p N s).at_ ++ (manyN (fun i => le ((cpuR p N s).addr i) 8) [] 16) := by first | exact c18 | exact (c18).trans (List.append_assoc _ _ _)
  replace c19 : lst p (r19 p N s).at_ = lst p (r18 p N s).at_ ++ (bb (cpuR p N s).rvalid) := by first | exact c19 | exact (c19).trans (List.append_assoc _ _ _)
  replace c20 : lst p (r20 p N s).at_ = lst p (r19 p N s).at_ ++ (le (cpuR p N s).raddr 8) := by first | exact c20 | exact (c20).trans (List.append_assoc _ _ _)
  replace c21 : lst p (r21 p N s).at_ = lst p (r20 p N s).at_ ++ (le (BitVec.ofInt 64 (cpuR p N s).rsize) 1) := by first | exact c21.trans (congrArg _ (le_int _ _).symm) | exact (c21.trans (congrArg _ (le_int _ _).symm)).trans (List.append_assoc _ _ _)
  replace c22 : lst p (r22 p N s).at_ = lst p (r21 p N s).at_ ++ (le ((busR n p N s).msip.setWidth 64) 4) := by first | exact c22.trans (congrArg _ (le_cut32 _).symm) | exact (c22.trans (congrArg _ (le_cut32 _).symm)).trans (List.append_assoc _ _ _)
  replace c23 : lst p (r23 p N s).at_ = lst p (r22 p N s).at_ ++ (le (busR n p N s).cmp 8) := by first | exact c23 | exact (c23).trans (List.append_assoc _ _ _)
  replace c24 : lst p (r24 p N s).at_ = lst p (r23 p N s).at_ ++ (le (busR n p N s).now 8) := by first | exact c24 | exact (c24).trans (List.append_assoc _ _ _)
  replace c25 : lst p (r25 p N s).at_ = lst p (r24 p N s).at_ ++ (bb (busR n p N s).ext) := by first | exact c25 | exact (c25).trans (List.append_assoc _ _ _)
  replace c26 : lst p (r26 p N s).at_ = lst p (r25 p N s).at_ ++ (bb (busR n p N s).soft) := by first | exact c26 | exact (c26).trans (List.append_assoc _ _ _)
  replace c27 : lst p (r27 p N s).at_ = lst p (r26 p N s).at_ ++ (le ((busR n p N s).ier.setWidth 64) 1) := by first | exact c27.trans (congrArg _ (le_cut8 _).symm) | exact (c27.trans (congrArg _ (le_cut8 _).symm)).trans (List.append_assoc _ _ _)
  replace c28 : lst p (r28 p N s).at_ = lst p (r27 p N s).at_ ++ (le ((busR n p N s).lcr.setWidth 64) 1) := by first | exact c28.trans (congrArg _ (le_cut8 _).symm) | exact (c28.trans (congrArg _ (le_cut8 _).symm)).trans (List.append_assoc _ _ _)
  replace c29 : lst p (r29 p N s).at_ = lst p (r28 p N s).at_ ++ (le ((busR n p N s).mcr.setWidth 64) 1) := by first | exact c29.trans (congrArg _ (le_cut8 _).symm) | exact (c29.trans (congrArg _ (le_cut8 _).symm)).trans (List.append_assoc _ _ _)
  replace c30 : lst p (r30 p N s).at_ = lst p (r29 p N s).at_ ++ (le ((busR n p N s).scratch.setWidth 64) 1) := by first | exact c30.trans (congrArg _ (le_cut8 _).symm) | exact (c30.trans (congrArg _ (le_cut8 _).symm)).trans (List.append_assoc _ _ _)
  replace c31 : lst p (r31 p N s).at_ = lst p (r30 p N s).at_ ++ (bb (busR n p N s).overrun) := by first | exact c31 | exact (c31).trans (List.append_assoc _ _ _)
  replace c32 : lst p (r32 p N s).at_ = lst p (r31 p N s).at_ ++ (le (BitVec.ofInt 64 (busR n p N s).off) 1) := by first | exact c32.trans (congrArg _ (le_int _ _).symm) | exact (c32.trans (congrArg _ (le_int _ _).symm)).trans (List.append_assoc _ _ _)
  replace c33 : lst p (r33 p N s).at_ = lst p (r32 p N s).at_ ++ (le (BitVec.ofInt 64 (busR n p N s).code) 4) := by first | exact c33.trans (congrArg _ (le_int _ _).symm) | exact (c33.trans (congrArg _ (le_int _ _).symm)).trans (List.append_assoc _ _ _)
  replace c34 : lst p (r34 p N s).at_ = lst p (r33 p N s).at_ ++ (le (BitVec.ofNat 64 (busR n p N s).ni) 1 ++ lst (inR p N s) (busR n p N s).ni) := by first | exact c34 | exact (c34).trans (List.append_assoc _ _ _)
  replace c35 : lst p (r35 p N s).at_ = lst p (r34 p N s).at_ ++ (le (BitVec.ofNat 64 (busR n p N s).no) 2 ++ lst (outR p N s) (busR n p N s).no) := by first | exact c35 | exact (c35).trans (List.append_assoc _ _ _)
  refine ⟨?_, m34, m35⟩
  rw [cpuOn_eq, devOn_eq]
  show lst p (r35 p N s).at_ = _
  rw [c35, c34, c33, c32, c31, c30, c29, c28, c27, c26, c25, c24, c23, c22, c21, c20, c19, c18, c17, c16, c15, c14, c13, c12, c11, c10, c9, c8, c7, c6, c5, c4, c3, c2, c1]
  unfold cpuB devB
  simp only [List.append_assoc]
end Go.Anv
