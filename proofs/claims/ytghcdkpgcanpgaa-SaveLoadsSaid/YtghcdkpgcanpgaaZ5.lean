/- Part 5 of the texts of this claim, merged: L3, L4, R1, R2, R3, R4, L5, L6, R5, W10, R6, FT. No condition: plain theorems, contracts of functions. -/
import Derived.Test.YtghcdkpgcanpgaaZ4
import Derived.Test.YtghcdkpgcanpgaaProg
import Derived.KernelRfl

/- The reader's list; methods that fill one cell of a block. Contracts that go on over any heap. No condition. -/
namespace Go.Proofs.Ytghcdkpgcanpgaa
open Go Go.Anv
theorem rtake_k {h : List Blk} {Q : EV → List Blk → Prop} (pr pb : Nat) {base N o : Nat} {s : Rs} {m : Bool} {K sp : Nat} {f : Nat → Int} (k : Nat) {x : Int} (hx : x = k) (hN : N ≤ 2 ^ 40) (hk : k ≤ 2 ^ 40) (hr : RdAt base N s o)
    (hw : nthB h pr = some (rdb pb N s o)) (hb : nthB h pb = some (.cells m [.ints .u8 K f] sp)) (hne : pr ≠ pb)
    (hQ1 : (s.bad = true ∨ N - s.at_ < k) → updBK h pr (rdb pb N ⟨s.at_, true⟩ o) fun h1 => updBK h1 pb (.cells m [.ints .u8 K f] sp) fun h2 => Q (.s .nilslice) h2)
    (hQ2 : ¬ (s.bad = true ∨ N - s.at_ < k) → ∀ o', RdAt base N ⟨s.at_ + k, false⟩ o' → updBK h pr (rdb pb N ⟨s.at_ + k, false⟩ o') fun h1 => updBK h1 pb (.cells m [.ints .u8 K f] sp) fun h2 => Q (.s (.gs pb o k k)) h2) :
    Does TB 87 [.s (.ptr pr 0), .s (.int .i64 x)] h Q := by
  subst hx
  refine Does.at (take_spec m base N K sp f s o k hN hk hr) [pr, pb] rfl ⟨hw, hb, trivial⟩ (by simp [hne]) ?_ ?_
  · rintro v h' (⟨_, _, rfl⟩ | ⟨_, _, _, _, rfl⟩) <;> exact ⟨.inl rfl, .inr (.inr rfl), trivial⟩
  have key : ∀ s' o' , mergeB h [pr, pb] (renH (lk [pr, pb] h.length) [rdb 1 N s' o', .cells m [.ints .u8 K f] sp]) = updB (updB h pr (rdb pb N s' o')) pb (.cells m [.ints .u8 K f] sp) := fun s' o' => by
    show updB (updB h pr _) pb _ ++ [] = _
    rw [List.append_nil]; rfl
  rintro v h' (⟨hb1, rfl, rfl⟩ | ⟨hb1, rfl, o', ho', rfl⟩)
  · have := hQ1 hb1
    rw [updBK_eq, updBK_eq] at this
    rw [forceH_eq, forceE_eq, key]
    exact this
  · have := hQ2 hb1 o' ho'
    rw [updBK_eq, updBK_eq] at this
    rw [forceH_eq, forceE_eq, key]
    exact this
theorem rone_k {f : FuncId} {x x' : SV} (s' : Rs) (ex : List Int) {h : List Blk} {Q : EV → List Blk → Prop} (pr pb pv k L : Nat) {sp K bsp : Nat} {m : Bool} {g : Nat → Int} {cs cs' : List Seg} {pe : EV} {base N o : Nat} {s : Rs} {P : SV → List Seg → Prop}
    (spec : ∀ o, RdAt base N s o → Does TB f (.s (.ptr 0 0) :: .s (.ptr 1 0) :: ints ex) [rdb 2 N s o, .cells true [.one x] 0, .cells m [.ints .u8 K g] bsp]
      (fun r h' => ∃ o', RdAt base N s' o' ∧ r = .tuple [] ∧ h' = [rdb 2 N s' o', .cells true [.one x'] 0, .cells m [.ints .u8 K g] bsp]))
    (hx : ∀ ρ, renV ρ x = x ∧ renV ρ x' = x') (hr : RdAt base N s o) (hL : h.length = L)
    (hw : nthB h pr = some (rdb pb N s o)) (hb : nthB h pb = some (.cells m [.ints .u8 K g] bsp)) (hv : nthB h pv = some (.cells true cs sp)) (hne : pr ≠ pb ∧ pr ≠ pv ∧ pb ≠ pv) (hpe : ptrTo pv k pe) (hcell : Cell cs k x P) (hP : P x' cs')
    (hQ : ∀ o', RdAt base N s' o' → forceH (updB (updB (updB (updB (updB (updB h pv .dead ++ [.cells true [.one x] 0]) pr (rdb pb N s' o')) L (.cells true [.one x'] 0)) pb (.cells m [.ints .u8 K g] bsp)) L .dead) pv (.cells true cs' sp)) fun h2 => Q (.tuple []) h2) :
    Does TB f (.s (.ptr pr 0) :: pe :: ints ex) h Q := by
  subst hL
  obtain ⟨n1, n2, n3⟩ := hne
  have lw := nthB_lt hw
  have lb := nthB_lt hb
  have lN : nthB (updB h pv .dead ++ [Blk.cells true [.one x] 0]) h.length = some (.cells true [.one x] 0) := by
    have := nthB_len (updB h pv .dead) (Blk.cells true [.one x] 0) []
    rwa [len_updB] at this
  refine Does.cell (spec o hr) [pr, h.length, pb] pv k h.length rfl hv hcell ⟨nthB_app (nthB_upd_ne hw n2), by simp only [renB, renS, hx]; exact lN, nthB_app (nthB_upd_ne hb n3), trivial⟩ ⟨.inl ⟨rfl, rfl⟩, ptrTo_part hpe, by
    show partT _ _ _ _ (renT _ (ints ex)); rw [ren_ints]; exact part_ints _ _ _ _⟩ (by simp; omega) ?_ ?_ ?_
  · rintro v h' ⟨o', _, _, rfl⟩
    exact ⟨.inl rfl, .inl rfl, .inr (.inr rfl), trivial⟩
  · rintro v h' ⟨o', _, _, rfl⟩
    exact Nat.le_refl _
  · rintro v h' ⟨o', ho', rfl, rfl⟩
    have key : mergeB (updB h pv .dead ++ [.cells true [.one x] 0]) [pr, h.length, pb] (renH (lk [pr, h.length, pb] (h.length + 1)) [rdb 2 N s' o', .cells true [.one x'] 0, .cells m [.ints .u8 K g] bsp]) =
        updB (updB (updB (updB h pv .dead ++ [.cells true [.one x] 0]) pr (rdb pb N s' o')) h.length (.cells true [.one x'] 0)) pb (.cells m [.ints .u8 K g] bsp) := by
      show updB (updB (updB _ pr _) h.length _) pb _ ++ [] = _
      rw [List.append_nil]
      simp only [renB, renS, hx]
      rfl
    refine ⟨x', cs', ?_, hP, ?_⟩
    · rw [key]
      exact nthB_upd_ne (nthB_upd_eq (nthB_upd_ne lN (by omega))) (by omega)
    · have := hQ o' ho'
      rw [forceH_eq] at this
      rw [key, forceH_eq, forceE_eq]
      exact this
set_option maxRecDepth 100000 in
theorem rlist_spec (m : Bool) (base N K sp : Nat) (f : Nat → Int) (p : Nat → B8) (s : Rs) (hN : N ≤ 2 ^ 40) (hK : base + N ≤ K) (hp : ∀ j, j < N → f (base + j) = (p j).toNat) (size most : Nat) (hs : 0 < size ∧ size ≤ 4) (o : Nat) (hr : RdAt base N s o) :
    Does TB 193 [.s (.ptr 0 0), .s (.ptr 1 0), .s (.int .i64 size), .s (.int .i64 most)] [rdb 2 N s o, .cells true [.one .nilslice] 0, .cells m [.ints .u8 K f] sp]
    (fun r h' => ∃ o', RdAt base N (listR p N size most s) o' ∧ r = .tuple [] ∧ h' = [rdb 2 N (listR p N size most s) o', .cells true [.one (.gs 3 0 (listN p N size most s) (listN p N size most s))] 0, .cells m [.ints .u8 K f] sp, bblk true (listN p N size most s) (listQ p N size most s) 0]) := by
  refine fnX_does TB Try.func193 rfl (by decide) (fun O on hO => ?_)
  refine rnum_k 0 2 p size hN (by omega) hr hK hp rfl rfl (by decide) ?_
  intro o1 ho1
  have hv : (numV p N size s).toNat < 2 ^ 32 := by
    unfold numV
    split
    · decide
    · exact Nat.lt_of_lt_of_le (hi_lt p s.at_ size size (by omega)) (Nat.pow_le_pow_right (by decide) (by omega))
  have hi64 : IntKind.i64.wrap ((numV p N size s).toNat : Int) = (((numV p N size s).toNat : Nat) : Int) := i64_in (by omega) (by omega)
  repeat (refine need_intro (by first | exact fun h => h | exact fun _ => rfl | rfl | simp) ?_)
  have hbad : (bif (takeR N size s).bad then true else decide (IntKind.i64.wrap ((numV p N size s).toNat : Int) > (most : Int))) = (lenR p N size most s).bad := by
    show _ = ((takeR N size s).bad || decide (most < (numV p N size s).toNat))
    rw [hi64, show decide ((((numV p N size s).toNat : Nat) : Int) > (most : Int)) = decide (most < (numV p N size s).toNat) from decide_eq_decide.2 (by omega)]
    cases (takeR N size s).bad <;> rfl
  refine rtake_k 0 2 (s := lenR p N size most s) (numV p N size s).toNat hi64 hN (by omega) (ho1.bad _) ?_ rfl (by decide) ?_ ?_
  · show some (Blk.cells true [.one _, .one (.bool (bif _ then _ else _))] 0) = _
    rw [hbad]
    rfl
  · intro hb1
    have e1 : listOk p N size most s = false := by
      unfold listOk
      rcases hb1 with h | h
      · rw [h]; rfl
      · rw [decide_eq_false (by omega), Bool.and_false]
    have e2 : listN p N size most s = 0 := by unfold listN; rw [e1]; rfl
    have e3 : listR p N size most s = ⟨(lenR p N size most s).at_, true⟩ := if_pos hb1
    rw [e2, e3]
    repeat (refine need_intro (by first | exact fun h => h | exact fun _ => rfl | rfl | simp) ?_)
    exact ⟨.tuple [], _, [0, 1, 2, 3], ⟨o1, ho1.bad _, rfl, rfl⟩, by decide, ⟨rfl, rfl, rfl, trivial⟩, trivial, ⟨_, rfl, eqvB_refl _⟩, ⟨_, rfl, ⟨rfl, rfl, ⟨⟨rfl, rfl, rfl, rfl⟩, trivial⟩⟩⟩, ⟨_, rfl, eqvB_refl _⟩, ⟨_, rfl, ⟨rfl, rfl, ⟨⟨rfl, rfl, fun j hj => absurd hj (Nat.not_lt_zero _)⟩, trivial⟩⟩⟩, trivial⟩
  · intro hb1 o2 ho2
    have hb2 := hb1
    simp only [not_or, Nat.not_lt] at hb2
    have e1 : listOk p N size most s = true := by
      unfold listOk
      rw [decide_eq_true hb2.2]
      cases h : (lenR p N size most s).bad
      · rfl
      · exact absurd h hb2.1
    have e2 : listN p N size most s = (numV p N size s).toNat := by unfold listN; rw [e1]; rfl
    have e3 : listR p N size most s = ⟨(lenR p N size most s).at_ + (numV p N size s).toNat, false⟩ := if_neg hb1
    rw [e2, e3]
    have hat : (lenR p N size most s).at_ + (numV p N size s).toNat ≤ N := ho2.1
    refine need_intro ⟨by omega, by omega, by omega, by show ((1 : Nat) : Int) * _ ≤ _; omega⟩ ?_
    have h1 := ho1.2.1
    have h2 := ho1.2.2
    have hat2 : (takeR N size s).at_ = (lenR p N size most s).at_ := rfl
    generalize hz : (numV p N size s).toNat = z at *
    rw [hat2] at h1
    refine need_intro ⟨?_, ?_⟩ ?_
    · show o1 + z ≤ K
      by_cases hz0 : z = 0
      · omega
      · have := h1 (by omega); omega
    · show 0 + ((z : Nat) : Int).toNat ≤ ((z : Nat) : Int).toNat
      omega
    refine ⟨.tuple [], _, [0, 1, 2, 3], ⟨o2, ho2, rfl, rfl⟩, by decide, ⟨rfl, rfl, rfl, trivial⟩, trivial, ⟨_, rfl, eqvB_refl _⟩, ⟨_, rfl, ⟨rfl, rfl, ⟨⟨rfl, rfl, rfl, rfl⟩, trivial⟩⟩⟩, ⟨_, rfl, eqvB_refl _⟩, ⟨_, rfl, ⟨rfl, ?_, ⟨⟨rfl, rfl, fun j hj => ?_⟩, trivial⟩⟩⟩, trivial⟩
    · show ((z : Nat) : Int).toNat - ((z : Nat) : Int).toNat = 0
      omega
    · replace hj : j < z := hj
      show putF 0 (min z ((z : Nat) : Int).toNat) (shf o1 f) (fun _ => 0) j = bfun (listQ p N size most s) j
      unfold putF
      rw [if_pos (by omega)]
      show f (o1 + (j - 0)) = _
      rw [h1 (by omega), Nat.sub_zero, Nat.add_assoc, hp _ (by omega)]
      rfl
end Go.Proofs.Ytghcdkpgcanpgaa

/- The reader goes through all that stands ahead of the RAM. Contract of a function. No condition. -/
namespace Go.Anv
open Go
def seqR (N k : Nat) (s : Rs) : Nat → Rs
  | 0 => s
  | n + 1 => takeR N k (seqR N k s n)
theorem loopf {n i : Nat} {g : Nat → Int} : ∀ j, j < n → (if j = i then g i else if j < i then g j else 0) = if j < i + 1 then g j else 0 := by
  intro j _
  by_cases h1 : j = i
  · subst h1; rw [if_pos rfl, if_pos (by omega)]
  · by_cases h2 : j < i
    · rw [if_neg h1, if_pos h2, if_pos (by omega)]
    · rw [if_neg h1, if_neg h2, if_neg (by omega)]
def r1 (p : Nat → B8) (N : Nat) (s : Rs) : Rs := takeR N 8 s
def r2 (p : Nat → B8) (N : Nat) (s : Rs) : Rs := seqR N 8 (r1 p N s) 32
def r3 (p : Nat → B8) (N : Nat) (s : Rs) : Rs := takeR N 1 (r2 p N s)
def r4 (p : Nat → B8) (N : Nat) (s : Rs) : Rs := flagR p N (r3 p N s)
def r5 (p : Nat → B8) (N : Nat) (s : Rs) : Rs := takeR N 8 (r4 p N s)
def r6 (p : Nat → B8) (N : Nat) (s : Rs) : Rs := takeR N 8 (r5 p N s)
def r7 (p : Nat → B8) (N : Nat) (s : Rs) : Rs := takeR N 8 (r6 p N s)
def r8 (p : Nat → B8) (N : Nat) (s : Rs) : Rs := takeR N 8 (r7 p N s)
def r9 (p : Nat → B8) (N : Nat) (s : Rs) : Rs := takeR N 8 (r8 p N s)
def r10 (p : Nat → B8) (N : Nat) (s : Rs) : Rs := takeR N 8 (r9 p N s)
def r11 (p : Nat → B8) (N : Nat) (s : Rs) : Rs := takeR N 8 (r10 p N s)
def r12 (p : Nat → B8) (N : Nat) (s : Rs) : Rs := takeR N 8 (r11 p N s)
def r13 (p : Nat → B8) (N : Nat) (s : Rs) : Rs := takeR N 8 (r12 p N s)
def r14 (p : Nat → B8) (N : Nat) (s : Rs) : Rs := takeR N 8 (r13 p N s)
def r15 (p : Nat → B8) (N : Nat) (s : Rs) : Rs := takeR N 8 (r14 p N s)
def r16 (p : Nat → B8) (N : Nat) (s : Rs) : Rs := takeR N 8 (r15 p N s)
def r17 (p : Nat → B8) (N : Nat) (s : Rs) : Rs := seqR N 1 (r16 p N s) 16
def r18 (p : Nat → B8) (N : Nat) (s : Rs) : Rs := seqR N 8 (r17 p N s) 16
def r19 (p : Nat → B8) (N : Nat) (s : Rs) : Rs := flagR p N (r18 p N s)
def r20 (p : Nat → B8) (N : Nat) (s : Rs) : Rs := takeR N 8 (r19 p N s)
def r21 (p : Nat → B8) (N : Nat) (s : Rs) : Rs := takeR N 1 (r20 p N s)
def r22 (p : Nat → B8) (N : Nat) (s : Rs) : Rs := takeR N 4 (r21 p N s)
def r23 (p : Nat → B8) (N : Nat) (s : Rs) : Rs := takeR N 8 (r22 p N s)
def r24 (p : Nat → B8) (N : Nat) (s : Rs) : Rs := takeR N 8 (r23 p N s)
def r25 (p : Nat → B8) (N : Nat) (s : Rs) : Rs := flagR p N (r24 p N s)
def r26 (p : Nat → B8) (N : Nat) (s : Rs) : Rs := flagR p N (r25 p N s)
def r27 (p : Nat → B8) (N : Nat) (s : Rs) : Rs := takeR N 1 (r26 p N s)
def r28 (p : Nat → B8) (N : Nat) (s : Rs) : Rs := takeR N 1 (r27 p N s)
def r29 (p : Nat → B8) (N : Nat) (s : Rs) : Rs := takeR N 1 (r28 p N s)
def r30 (p : Nat → B8) (N : Nat) (s : Rs) : Rs := takeR N 1 (r29 p N s)
def r31 (p : Nat → B8) (N : Nat) (s : Rs) : Rs := flagR p N (r30 p N s)
def r32 (p : Nat → B8) (N : Nat) (s : Rs) : Rs := takeR N 1 (r31 p N s)
def r33 (p : Nat → B8) (N : Nat) (s : Rs) : Rs := takeR N 4 (r32 p N s)
def r34 (p : Nat → B8) (N : Nat) (s : Rs) : Rs := listR p N 1 64 (r33 p N s)
def r35 (p : Nat → B8) (N : Nat) (s : Rs) : Rs := listR p N 2 4096 (r34 p N s)
/-- The Cpu that is read. -/
def cpuR (p : Nat → B8) (N : Nat) (s : Rs) : CpuV := { pc := numV p N 8 s, x := fun j => (numV p N 8 (seqR N 8 (r1 p N s) j)), mode := (numV p N 1 (r2 p N s)).toInt, waiting := flagV p N (r3 p N s), mstatus := numV p N 8 (r4 p N s), mtvec := numV p N 8 (r5 p N s), mie := numV p N 8 (r6 p N s), mcounteren := numV p N 8 (r7 p N s), mcountinhibit := numV p N 8 (r8 p N s), menvcfg := numV p N 8 (r9 p N s), mscratch := numV p N 8 (r10 p N s), mepc := numV p N 8 (r11 p N s), mcause := numV p N 8 (r12 p N s), mtval := numV p N 8 (r13 p N s), mcycle := numV p N 8 (r14 p N s), minstret := numV p N 8 (r15 p N s), cfg := fun j => ((numV p N 1 (seqR N 1 (r16 p N s) j))).setWidth 8, addr := fun j => (numV p N 8 (seqR N 8 (r17 p N s) j)), rvalid := flagV p N (r18 p N s), raddr := numV p N 8 (r19 p N s), rsize := (numV p N 1 (r20 p N s)).toInt }
/-- The devices that are read; n: the ram's length. -/
def busR (n : Nat) (p : Nat → B8) (N : Nat) (s : Rs) : BusV := { nr := n, ni := listN p N 1 64 (r33 p N s), no := listN p N 2 4096 (r34 p N s), msip := (numV p N 4 (r21 p N s)).setWidth 32, cmp := numV p N 8 (r22 p N s), now := numV p N 8 (r23 p N s), ext := flagV p N (r24 p N s), soft := flagV p N (r25 p N s), ier := (numV p N 1 (r26 p N s)).setWidth 8, lcr := (numV p N 1 (r27 p N s)).setWidth 8, mcr := (numV p N 1 (r28 p N s)).setWidth 8, scratch := (numV p N 1 (r29 p N s)).setWidth 8, overrun := flagV p N (r30 p N s), off := (numV p N 1 (r31 p N s)).toInt, code := (numV p N 4 (r32 p N s)).toInt }
def inR (p : Nat → B8) (N : Nat) (s : Rs) : Nat → B8 := listQ p N 1 64 (r33 p N s)
def outR (p : Nat → B8) (N : Nat) (s : Rs) : Nat → B8 := listQ p N 2 4096 (r34 p N s)
def bothR (p : Nat → B8) (N : Nat) (s : Rs) : Rs := r35 p N s
def zwhole : List Seg := [.one (.int .u64 0), .ints .u64 32 (fun _ => 0), .one (.int .i64 0), .one (.bool false), .one (.int .u64 0), .one (.int .u64 0), .one (.int .u64 0), .one (.int .u64 0), .one (.int .u64 0), .one (.int .u64 0), .one (.int .u64 0), .one (.int .u64 0), .one (.int .u64 0), .one (.int .u64 0), .one (.int .u64 0), .one (.int .u64 0), .ints .u8 16 (fun _ => 0), .ints .u64 16 (fun _ => 0), .one (.bool false), .one (.int .u64 0), .one (.int .i64 0), .one .nilslice, .one (.int .u32 0), .one (.int .u64 0), .one (.int .u64 0), .one (.bool false), .one (.bool false), .one (.int .u8 0), .one (.int .u8 0), .one (.int .u8 0), .one (.int .u8 0), .one (.bool false), .one .nilslice, .one .nilslice, .one (.int .i64 0), .one (.int .i64 0)]
end Go.Anv
namespace Go.Proofs.Ytghcdkpgcanpgaa
open Go Go.Anv
set_option maxRecDepth 100000 in
set_option maxHeartbeats 8000000 in
theorem rboth_spec (m : Bool) (base N K sp : Nat) (f : Nat → Int) (p : Nat → B8) (s : Rs) (hN : N ≤ 2 ^ 40) (hK : base + N ≤ K) (hp : ∀ j, j < N → f (base + j) = (p j).toNat) (o : Nat) (ho : RdAt base N s o) :
    Does TB 40 [.s (.iface 89 false [.ptr 0 0]), .s (.ptr 1 0)] [rdb 2 N s o, .cells true zwhole 0, .cells m [.ints .u8 K f] sp]
    (fun r h' => ∃ o', RdAt base N (bothR p N s) o' ∧ r = .tuple [] ∧ h' = [rdb 2 N (bothR p N s) o', .cells true (wsegs (cpuR p N s) (busR 0 p N s) .nilslice (.gs 3 0 (busR 0 p N s).ni (busR 0 p N s).ni) (.gs 4 0 (busR 0 p N s).no (busR 0 p N s).no)) 0, .cells m [.ints .u8 K f] sp,
      bblk true (busR 0 p N s).ni (inR p N s) 0, bblk true (busR 0 p N s).no (outR p N s) 0]) := by
  refine fnX_does TB Try.func40 rfl (by decide) (fun O on hO => ?_)
  refine draw_but [0, 1] on rfl (fun _ _ h => h) ?_
  refine rone_k (r1 p N s) [] 0 2 1 0 3 (rdouble_spec m base N K sp f p s hN hK hp _) (fun _ => ⟨rfl, rfl⟩) ho rfl rfl rfl rfl (by decide) ⟨rfl, rfl⟩ (Cell.one rfl ⟨.junk, _, rfl⟩) (rfl) ?_
  clear ho; intro o ho
  repeat (refine need_intro (by first | rfl | exact fun h => h | simp) ?_)
  refine loop_in (A := Nat × Nat) on (fun i => [(24, .s (.int .i64 (i.1 : Int))), (5, .junk)]) (fun i => [rdb 2 N (seqR N 8 (r1 p N s) i.1) i.2, .cells true (.one (.int .u64 (numV p N 8 s).toNat) :: .ints .u64 32 (fun j => if j < i.1 then (((numV p N 8 (seqR N 8 (r1 p N s) j))).toNat : Int) else 0) :: .one (.int .i64 0) :: .one (.bool false) :: .one (.int .u64 0) :: .one (.int .u64 0) :: .one (.int .u64 0) :: .one (.int .u64 0) :: .one (.int .u64 0) :: .one (.int .u64 0) :: .one (.int .u64 0) :: .one (.int .u64 0) :: .one (.int .u64 0) :: .one (.int .u64 0) :: .one (.int .u64 0) :: .one (.int .u64 0) :: .ints .u8 16 (fun _ => 0) :: .ints .u64 16 (fun _ => 0) :: .one (.bool false) :: .one (.int .u64 0) :: .one (.int .i64 0) :: .one .nilslice :: .one (.int .u32 0) :: .one (.int .u64 0) :: .one (.int .u64 0) :: .one (.bool false) :: .one (.bool false) :: .one (.int .u8 0) :: .one (.int .u8 0) :: .one (.int .u8 0) :: .one (.int .u8 0) :: .one (.bool false) :: .one .nilslice :: .one .nilslice :: .one (.int .i64 0) :: .one (.int .i64 0) :: []) 0, .cells m [.ints .u8 K f] sp]) (fun i => i.1 ≤ 32 ∧ RdAt base N (seqR N 8 (r1 p N s) i.1) i.2) (fun i => 32 - i.1) (0, o) ⟨Nat.zero_le _, ho⟩ [0, 1, 2] ?_ ?_
  · rw [hO]
    refine ⟨by decide, ⟨rfl, rfl, rfl, trivial⟩, ?_, ?_⟩
    · repeat' (first | exact eqvT_nil | refine eqvT_junk ?_ | refine eqvT_same ?_ | refine eqvT_int ?_ ?_)
    · exact ⟨⟨_, rfl, eqvB_refl _⟩, ⟨_, rfl, eqvB_refl _⟩, ⟨_, rfl, eqvB_refl _⟩, trivial⟩
  clear ho
  rintro ⟨i, o⟩ ⟨hi2, ho⟩
  replace hi2 : i ≤ 32 := hi2
  replace ho : RdAt base N (seqR N 8 (r1 p N s) i) o := ho
  refine ifB_intro (fun h1 => ?_) (fun h1 => ?_)
  · have hlt : i < 32 := by have h2 := of_decide_eq_true h1; omega
    refine draw_but [0, 1] on rfl (fun _ _ h => h) ?_
    refine need_intro ⟨by omega, by omega⟩ ?_
    refine need_intro rfl ?_
    refine rone_k (seqR N 8 (r1 p N s) (i + 1)) [] 0 2 1 (1 + i) 3 (rdouble_spec m base N K sp f p (seqR N 8 (r1 p N s) i) hN hK hp _) (fun _ => ⟨rfl, rfl⟩) ho rfl rfl rfl rfl (by decide) ⟨rfl, rfl⟩ (Cell.ints (cs := (.one (.int .u64 (numV p N 8 s).toNat) :: .ints .u64 32 (fun j => if j < i then (((numV p N 8 (seqR N 8 (r1 p N s) j))).toNat : Int) else 0) :: .one (.int .i64 0) :: .one (.bool false) :: .one (.int .u64 0) :: .one (.int .u64 0) :: .one (.int .u64 0) :: .one (.int .u64 0) :: .one (.int .u64 0) :: .one (.int .u64 0) :: .one (.int .u64 0) :: .one (.int .u64 0) :: .one (.int .u64 0) :: .one (.int .u64 0) :: .one (.int .u64 0) :: .one (.int .u64 0) :: .ints .u8 16 (fun _ => 0) :: .ints .u64 16 (fun _ => 0) :: .one (.bool false) :: .one (.int .u64 0) :: .one (.int .i64 0) :: .one .nilslice :: .one (.int .u32 0) :: .one (.int .u64 0) :: .one (.int .u64 0) :: .one (.bool false) :: .one (.bool false) :: .one (.int .u8 0) :: .one (.int .u8 0) :: .one (.int .u8 0) :: .one (.int .u8 0) :: .one (.bool false) :: .one .nilslice :: .one .nilslice :: .one (.int .i64 0) :: .one (.int .i64 0) :: [])) (o := 1) (j := i) (k := .u64) (n := 32) rfl hlt) (⟨_, rfl, rfl⟩) ?_
    clear ho; intro o ho
    repeat (refine need_intro (by first | rfl | exact fun h => h | simp) ?_)
    refine ⟨(i + 1, o), ⟨?_, ho⟩, ?_, [0, 1, 2], ?_⟩
    · show i + 1 ≤ 32; omega
    · show 32 - (i + 1) < 32 - i; omega
    · rw [hO]
      refine ⟨by decide, ⟨rfl, rfl, rfl, trivial⟩, ?_, ?_⟩
      · repeat' (first | exact eqvT_nil | refine eqvT_junk ?_ | refine eqvT_same ?_ | refine eqvT_int ?_ ?_)
        all_goals (rw [i64_in (by omega) (by omega)]; rfl)
      · refine ⟨⟨_, rfl, eqvB_refl _⟩, ⟨_, rfl, ⟨rfl, rfl, ?_⟩⟩, ⟨_, rfl, eqvB_refl _⟩, trivial⟩
        repeat' (first | exact eqvS_nil | refine eqvS_same ?_ | refine eqvS_ints ?_ ?_)
        exact loopf (g := fun j => (((numV p N 8 (seqR N 8 (r1 p N s) j))).toNat : Int))
  have hlt : i = 32 := by have h2 := of_decide_eq_false h1; omega
  subst hlt
  refine draw_but [0, 1] on rfl (fun _ _ h => h) ?_
  refine rone_k (r3 p N s) [(1 : Int)] 0 2 1 33 3 (rplace_spec m base N K sp f p (r2 p N s) hN hK hp 1 (by decide) _) (fun _ => ⟨rfl, rfl⟩) ho rfl rfl rfl rfl (by decide) ⟨rfl, rfl⟩ (Cell.one rfl ⟨.junk, _, rfl⟩) (rfl) ?_
  clear ho; intro o ho
  repeat (refine need_intro (by first | rfl | exact fun h => h | simp) ?_)
  refine draw_but [0, 1] on rfl (fun _ _ h => h) ?_
  refine rone_k (r4 p N s) [] 0 2 1 34 4 (rflag_spec m base N K sp f p (r3 p N s) hN hK hp _) (fun _ => ⟨rfl, rfl⟩) ho rfl rfl rfl rfl (by decide) ⟨rfl, rfl⟩ (Cell.one rfl ⟨.junk, _, rfl⟩) (rfl) ?_
  clear ho; intro o ho
  repeat (refine need_intro (by first | rfl | exact fun h => h | simp) ?_)
  refine draw_held on rfl (fun _ _ h => h) ?_
  repeat (refine need_intro rfl ?_)
  refine loop_times on 13 ?_
  refine Box.mk ?_
  refine need_intro (by decide) ?_
  refine rone_k (r5 p N s) [] 0 2 1 35 6 (rdouble_spec m base N K sp f p (r4 p N s) hN hK hp _) (fun _ => ⟨rfl, rfl⟩) ho rfl rfl rfl rfl (by decide) ⟨rfl, rfl⟩ (Cell.one rfl ⟨.junk, _, rfl⟩) (rfl) ?_
  clear ho; intro o ho
  refine Box.mk ?_
  refine need_intro (by decide) ?_
  refine rone_k (r6 p N s) [] 0 2 1 36 7 (rdouble_spec m base N K sp f p (r5 p N s) hN hK hp _) (fun _ => ⟨rfl, rfl⟩) ho rfl rfl rfl rfl (by decide) ⟨rfl, rfl⟩ (Cell.one rfl ⟨.junk, _, rfl⟩) (rfl) ?_
  clear ho; intro o ho
  refine Box.mk ?_
  refine need_intro (by decide) ?_
  refine rone_k (r7 p N s) [] 0 2 1 37 8 (rdouble_spec m base N K sp f p (r6 p N s) hN hK hp _) (fun _ => ⟨rfl, rfl⟩) ho rfl rfl rfl rfl (by decide) ⟨rfl, rfl⟩ (Cell.one rfl ⟨.junk, _, rfl⟩) (rfl) ?_
  clear ho; intro o ho
  refine Box.mk ?_
  refine need_intro (by decide) ?_
  refine rone_k (r8 p N s) [] 0 2 1 38 9 (rdouble_spec m base N K sp f p (r7 p N s) hN hK hp _) (fun _ => ⟨rfl, rfl⟩) ho rfl rfl rfl rfl (by decide) ⟨rfl, rfl⟩ (Cell.one rfl ⟨.junk, _, rfl⟩) (rfl) ?_
  clear ho; intro o ho
  refine Box.mk ?_
  refine need_intro (by decide) ?_
  refine rone_k (r9 p N s) [] 0 2 1 39 10 (rdouble_spec m base N K sp f p (r8 p N s) hN hK hp _) (fun _ => ⟨rfl, rfl⟩) ho rfl rfl rfl rfl (by decide) ⟨rfl, rfl⟩ (Cell.one rfl ⟨.junk, _, rfl⟩) (rfl) ?_
  clear ho; intro o ho
  refine Box.mk ?_
  refine need_intro (by decide) ?_
  refine rone_k (r10 p N s) [] 0 2 1 40 11 (rdouble_spec m base N K sp f p (r9 p N s) hN hK hp _) (fun _ => ⟨rfl, rfl⟩) ho rfl rfl rfl rfl (by decide) ⟨rfl, rfl⟩ (Cell.one rfl ⟨.junk, _, rfl⟩) (rfl) ?_
  clear ho; intro o ho
  refine Box.mk ?_
  refine need_intro (by decide) ?_
  refine rone_k (r11 p N s) [] 0 2 1 41 12 (rdouble_spec m base N K sp f p (r10 p N s) hN hK hp _) (fun _ => ⟨rfl, rfl⟩) ho rfl rfl rfl rfl (by decide) ⟨rfl, rfl⟩ (Cell.one rfl ⟨.junk, _, rfl⟩) (rfl) ?_
  clear ho; intro o ho
  refine Box.mk ?_
  refine need_intro (by decide) ?_
  refine rone_k (r12 p N s) [] 0 2 1 42 13 (rdouble_spec m base N K sp f p (r11 p N s) hN hK hp _) (fun _ => ⟨rfl, rfl⟩) ho rfl rfl rfl rfl (by decide) ⟨rfl, rfl⟩ (Cell.one rfl ⟨.junk, _, rfl⟩) (rfl) ?_
  clear ho; intro o ho
  refine Box.mk ?_
  refine need_intro (by decide) ?_
  refine rone_k (r13 p N s) [] 0 2 1 43 14 (rdouble_spec m base N K sp f p (r12 p N s) hN hK hp _) (fun _ => ⟨rfl, rfl⟩) ho rfl rfl rfl rfl (by decide) ⟨rfl, rfl⟩ (Cell.one rfl ⟨.junk, _, rfl⟩) (rfl) ?_
  clear ho; intro o ho
  refine Box.mk ?_
  refine need_intro (by decide) ?_
  refine rone_k (r14 p N s) [] 0 2 1 44 15 (rdouble_spec m base N K sp f p (r13 p N s) hN hK hp _) (fun _ => ⟨rfl, rfl⟩) ho rfl rfl rfl rfl (by decide) ⟨rfl, rfl⟩ (Cell.one rfl ⟨.junk, _, rfl⟩) (rfl) ?_
  clear ho; intro o ho
  refine Box.mk ?_
  refine need_intro (by decide) ?_
  refine rone_k (r15 p N s) [] 0 2 1 45 16 (rdouble_spec m base N K sp f p (r14 p N s) hN hK hp _) (fun _ => ⟨rfl, rfl⟩) ho rfl rfl rfl rfl (by decide) ⟨rfl, rfl⟩ (Cell.one rfl ⟨.junk, _, rfl⟩) (rfl) ?_
  clear ho; intro o ho
  refine Box.mk ?_
  refine need_intro (by decide) ?_
  refine rone_k (r16 p N s) [] 0 2 1 46 17 (rdouble_spec m base N K sp f p (r15 p N s) hN hK hp _) (fun _ => ⟨rfl, rfl⟩) ho rfl rfl rfl rfl (by decide) ⟨rfl, rfl⟩ (Cell.one rfl ⟨.junk, _, rfl⟩) (rfl) ?_
  clear ho; intro o ho
  refine Box.mk ?_
  refine loop_in (A := Nat × Nat) on (fun i => [(100, .s (.int .i64 (i.1 : Int))), (8, .junk), (90, .junk), (94, .junk)]) (fun i => [rdb 2 N (seqR N 1 (r16 p N s) i.1) i.2, .cells true (.one (.int .u64 (numV p N 8 s).toNat) :: .ints .u64 32 (fun j => if j < 32 then (((numV p N 8 (seqR N 8 (r1 p N s) j))).toNat : Int) else 0) :: .one (.int .i64 (numV p N 1 (r2 p N s)).toInt) :: .one (.bool (flagV p N (r3 p N s))) :: .one (.int .u64 (numV p N 8 (r4 p N s)).toNat) :: .one (.int .u64 (numV p N 8 (r5 p N s)).toNat) :: .one (.int .u64 (numV p N 8 (r6 p N s)).toNat) :: .one (.int .u64 (numV p N 8 (r7 p N s)).toNat) :: .one (.int .u64 (numV p N 8 (r8 p N s)).toNat) :: .one (.int .u64 (numV p N 8 (r9 p N s)).toNat) :: .one (.int .u64 (numV p N 8 (r10 p N s)).toNat) :: .one (.int .u64 (numV p N 8 (r11 p N s)).toNat) :: .one (.int .u64 (numV p N 8 (r12 p N s)).toNat) :: .one (.int .u64 (numV p N 8 (r13 p N s)).toNat) :: .one (.int .u64 (numV p N 8 (r14 p N s)).toNat) :: .one (.int .u64 (numV p N 8 (r15 p N s)).toNat) :: .ints .u8 16 (fun j => if j < i.1 then ((((numV p N 1 (seqR N 1 (r16 p N s) j))).setWidth 8).toNat : Int) else 0) :: .ints .u64 16 (fun _ => 0) :: .one (.bool false) :: .one (.int .u64 0) :: .one (.int .i64 0) :: .one .nilslice :: .one (.int .u32 0) :: .one (.int .u64 0) :: .one (.int .u64 0) :: .one (.bool false) :: .one (.bool false) :: .one (.int .u8 0) :: .one (.int .u8 0) :: .one (.int .u8 0) :: .one (.int .u8 0) :: .one (.bool false) :: .one .nilslice :: .one .nilslice :: .one (.int .i64 0) :: .one (.int .i64 0) :: []) 0, .cells m [.ints .u8 K f] sp]) (fun i => i.1 ≤ 16 ∧ RdAt base N (seqR N 1 (r16 p N s) i.1) i.2) (fun i => 16 - i.1) (0, o) ⟨Nat.zero_le _, ho⟩ [0, 1, 2] ?_ ?_
  · rw [hO]
    refine ⟨by decide, ⟨rfl, rfl, rfl, trivial⟩, ?_, ?_⟩
    · repeat' (first | exact eqvT_nil | refine eqvT_junk ?_ | refine eqvT_same ?_ | refine eqvT_int ?_ ?_)
    · exact ⟨⟨_, rfl, eqvB_refl _⟩, ⟨_, rfl, eqvB_refl _⟩, ⟨_, rfl, eqvB_refl _⟩, trivial⟩
  clear ho
  rintro ⟨i, o⟩ ⟨hi17, ho⟩
  replace hi17 : i ≤ 16 := hi17
  replace ho : RdAt base N (seqR N 1 (r16 p N s) i) o := ho
  refine ifB_intro (fun h1 => ?_) (fun h1 => ?_)
  · have hlt : i < 16 := by have h2 := of_decide_eq_true h1; omega
    refine draw_but [0, 1] on rfl (fun _ _ h => h) ?_
    refine need_intro ⟨by omega, by omega⟩ ?_
    refine need_intro rfl ?_
    refine rone_k (seqR N 1 (r16 p N s) (i + 1)) [] 0 2 1 (47 + i) 3 (roctet_spec m base N K sp f p (seqR N 1 (r16 p N s) i) hN hK hp _) (fun _ => ⟨rfl, rfl⟩) ho rfl rfl rfl rfl (by decide) ⟨rfl, rfl⟩ (Cell.ints (cs := (.one (.int .u64 (numV p N 8 s).toNat) :: .ints .u64 32 (fun j => if j < 32 then (((numV p N 8 (seqR N 8 (r1 p N s) j))).toNat : Int) else 0) :: .one (.int .i64 (numV p N 1 (r2 p N s)).toInt) :: .one (.bool (flagV p N (r3 p N s))) :: .one (.int .u64 (numV p N 8 (r4 p N s)).toNat) :: .one (.int .u64 (numV p N 8 (r5 p N s)).toNat) :: .one (.int .u64 (numV p N 8 (r6 p N s)).toNat) :: .one (.int .u64 (numV p N 8 (r7 p N s)).toNat) :: .one (.int .u64 (numV p N 8 (r8 p N s)).toNat) :: .one (.int .u64 (numV p N 8 (r9 p N s)).toNat) :: .one (.int .u64 (numV p N 8 (r10 p N s)).toNat) :: .one (.int .u64 (numV p N 8 (r11 p N s)).toNat) :: .one (.int .u64 (numV p N 8 (r12 p N s)).toNat) :: .one (.int .u64 (numV p N 8 (r13 p N s)).toNat) :: .one (.int .u64 (numV p N 8 (r14 p N s)).toNat) :: .one (.int .u64 (numV p N 8 (r15 p N s)).toNat) :: .ints .u8 16 (fun j => if j < i then ((((numV p N 1 (seqR N 1 (r16 p N s) j))).setWidth 8).toNat : Int) else 0) :: .ints .u64 16 (fun _ => 0) :: .one (.bool false) :: .one (.int .u64 0) :: .one (.int .i64 0) :: .one .nilslice :: .one (.int .u32 0) :: .one (.int .u64 0) :: .one (.int .u64 0) :: .one (.bool false) :: .one (.bool false) :: .one (.int .u8 0) :: .one (.int .u8 0) :: .one (.int .u8 0) :: .one (.int .u8 0) :: .one (.bool false) :: .one .nilslice :: .one .nilslice :: .one (.int .i64 0) :: .one (.int .i64 0) :: [])) (o := 47) (j := i) (k := .u8) (n := 16) rfl hlt) (⟨_, rfl, rfl⟩) ?_
    clear ho; intro o ho
    repeat (refine need_intro (by first | rfl | exact fun h => h | simp) ?_)
    refine ⟨(i + 1, o), ⟨?_, ho⟩, ?_, [0, 1, 2], ?_⟩
    · show i + 1 ≤ 16; omega
    · show 16 - (i + 1) < 16 - i; omega
    · rw [hO]
      refine ⟨by decide, ⟨rfl, rfl, rfl, trivial⟩, ?_, ?_⟩
      · repeat' (first | exact eqvT_nil | refine eqvT_junk ?_ | refine eqvT_same ?_ | refine eqvT_int ?_ ?_)
        all_goals (rw [i64_in (by omega) (by omega)]; rfl)
      · refine ⟨⟨_, rfl, eqvB_refl _⟩, ⟨_, rfl, ⟨rfl, rfl, ?_⟩⟩, ⟨_, rfl, eqvB_refl _⟩, trivial⟩
        repeat' (first | exact eqvS_nil | refine eqvS_same ?_ | refine eqvS_ints ?_ ?_)
        exact loopf (g := fun j => ((((numV p N 1 (seqR N 1 (r16 p N s) j))).setWidth 8).toNat : Int))
  have hlt : i = 16 := by have h2 := of_decide_eq_false h1; omega
  subst hlt
  refine loop_in (A := Nat × Nat) on (fun i => [(115, .s (.int .i64 (i.1 : Int))), (9, .junk)]) (fun i => [rdb 2 N (seqR N 8 (r17 p N s) i.1) i.2, .cells true (.one (.int .u64 (numV p N 8 s).toNat) :: .ints .u64 32 (fun j => if j < 32 then (((numV p N 8 (seqR N 8 (r1 p N s) j))).toNat : Int) else 0) :: .one (.int .i64 (numV p N 1 (r2 p N s)).toInt) :: .one (.bool (flagV p N (r3 p N s))) :: .one (.int .u64 (numV p N 8 (r4 p N s)).toNat) :: .one (.int .u64 (numV p N 8 (r5 p N s)).toNat) :: .one (.int .u64 (numV p N 8 (r6 p N s)).toNat) :: .one (.int .u64 (numV p N 8 (r7 p N s)).toNat) :: .one (.int .u64 (numV p N 8 (r8 p N s)).toNat) :: .one (.int .u64 (numV p N 8 (r9 p N s)).toNat) :: .one (.int .u64 (numV p N 8 (r10 p N s)).toNat) :: .one (.int .u64 (numV p N 8 (r11 p N s)).toNat) :: .one (.int .u64 (numV p N 8 (r12 p N s)).toNat) :: .one (.int .u64 (numV p N 8 (r13 p N s)).toNat) :: .one (.int .u64 (numV p N 8 (r14 p N s)).toNat) :: .one (.int .u64 (numV p N 8 (r15 p N s)).toNat) :: .ints .u8 16 (fun j => if j < 16 then ((((numV p N 1 (seqR N 1 (r16 p N s) j))).setWidth 8).toNat : Int) else 0) :: .ints .u64 16 (fun j => if j < i.1 then (((numV p N 8 (seqR N 8 (r17 p N s) j))).toNat : Int) else 0) :: .one (.bool false) :: .one (.int .u64 0) :: .one (.int .i64 0) :: .one .nilslice :: .one (.int .u32 0) :: .one (.int .u64 0) :: .one (.int .u64 0) :: .one (.bool false) :: .one (.bool false) :: .one (.int .u8 0) :: .one (.int .u8 0) :: .one (.int .u8 0) :: .one (.int .u8 0) :: .one (.bool false) :: .one .nilslice :: .one .nilslice :: .one (.int .i64 0) :: .one (.int .i64 0) :: []) 0, .cells m [.ints .u8 K f] sp]) (fun i => i.1 ≤ 16 ∧ RdAt base N (seqR N 8 (r17 p N s) i.1) i.2) (fun i => 16 - i.1) (0, o) ⟨Nat.zero_le _, ho⟩ [0, 1, 2] ?_ ?_
  · rw [hO]
    refine ⟨by decide, ⟨rfl, rfl, rfl, trivial⟩, ?_, ?_⟩
    · repeat' (first | exact eqvT_nil | refine eqvT_junk ?_ | refine eqvT_same ?_ | refine eqvT_int ?_ ?_)
    · exact ⟨⟨_, rfl, eqvB_refl _⟩, ⟨_, rfl, eqvB_refl _⟩, ⟨_, rfl, eqvB_refl _⟩, trivial⟩
  clear ho
  rintro ⟨i, o⟩ ⟨hi18, ho⟩
  replace hi18 : i ≤ 16 := hi18
  replace ho : RdAt base N (seqR N 8 (r17 p N s) i) o := ho
  refine ifB_intro (fun h1 => ?_) (fun h1 => ?_)
  · have hlt : i < 16 := by have h2 := of_decide_eq_true h1; omega
    refine draw_but [0, 1] on rfl (fun _ _ h => h) ?_
    refine need_intro ⟨by omega, by omega⟩ ?_
    refine need_intro rfl ?_
    refine rone_k (seqR N 8 (r17 p N s) (i + 1)) [] 0 2 1 (63 + i) 3 (rdouble_spec m base N K sp f p (seqR N 8 (r17 p N s) i) hN hK hp _) (fun _ => ⟨rfl, rfl⟩) ho rfl rfl rfl rfl (by decide) ⟨rfl, rfl⟩ (Cell.ints (cs := (.one (.int .u64 (numV p N 8 s).toNat) :: .ints .u64 32 (fun j => if j < 32 then (((numV p N 8 (seqR N 8 (r1 p N s) j))).toNat : Int) else 0) :: .one (.int .i64 (numV p N 1 (r2 p N s)).toInt) :: .one (.bool (flagV p N (r3 p N s))) :: .one (.int .u64 (numV p N 8 (r4 p N s)).toNat) :: .one (.int .u64 (numV p N 8 (r5 p N s)).toNat) :: .one (.int .u64 (numV p N 8 (r6 p N s)).toNat) :: .one (.int .u64 (numV p N 8 (r7 p N s)).toNat) :: .one (.int .u64 (numV p N 8 (r8 p N s)).toNat) :: .one (.int .u64 (numV p N 8 (r9 p N s)).toNat) :: .one (.int .u64 (numV p N 8 (r10 p N s)).toNat) :: .one (.int .u64 (numV p N 8 (r11 p N s)).toNat) :: .one (.int .u64 (numV p N 8 (r12 p N s)).toNat) :: .one (.int .u64 (numV p N 8 (r13 p N s)).toNat) :: .one (.int .u64 (numV p N 8 (r14 p N s)).toNat) :: .one (.int .u64 (numV p N 8 (r15 p N s)).toNat) :: .ints .u8 16 (fun j => if j < 16 then ((((numV p N 1 (seqR N 1 (r16 p N s) j))).setWidth 8).toNat : Int) else 0) :: .ints .u64 16 (fun j => if j < i then (((numV p N 8 (seqR N 8 (r17 p N s) j))).toNat : Int) else 0) :: .one (.bool false) :: .one (.int .u64 0) :: .one (.int .i64 0) :: .one .nilslice :: .one (.int .u32 0) :: .one (.int .u64 0) :: .one (.int .u64 0) :: .one (.bool false) :: .one (.bool false) :: .one (.int .u8 0) :: .one (.int .u8 0) :: .one (.int .u8 0) :: .one (.int .u8 0) :: .one (.bool false) :: .one .nilslice :: .one .nilslice :: .one (.int .i64 0) :: .one (.int .i64 0) :: [])) (o := 63) (j := i) (k := .u64) (n := 16) rfl hlt) (⟨_, rfl, rfl⟩) ?_
    clear ho; intro o ho
    repeat (refine need_intro (by first | rfl | exact fun h => h | simp) ?_)
    refine ⟨(i + 1, o), ⟨?_, ho⟩, ?_, [0, 1, 2], ?_⟩
    · show i + 1 ≤ 16; omega
    · show 16 - (i + 1) < 16 - i; omega
    · rw [hO]
      refine ⟨by decide, ⟨rfl, rfl, rfl, trivial⟩, ?_, ?_⟩
      · repeat' (first | exact eqvT_nil | refine eqvT_junk ?_ | refine eqvT_same ?_ | refine eqvT_int ?_ ?_)
        all_goals (rw [i64_in (by omega) (by omega)]; rfl)
      · refine ⟨⟨_, rfl, eqvB_refl _⟩, ⟨_, rfl, ⟨rfl, rfl, ?_⟩⟩, ⟨_, rfl, eqvB_refl _⟩, trivial⟩
        repeat' (first | exact eqvS_nil | refine eqvS_same ?_ | refine eqvS_ints ?_ ?_)
        exact loopf (g := fun j => (((numV p N 8 (seqR N 8 (r17 p N s) j))).toNat : Int))
  have hlt : i = 16 := by have h2 := of_decide_eq_false h1; omega
  subst hlt
  refine draw_but [0, 1] on rfl (fun _ _ h => h) ?_
  refine rone_k (r19 p N s) [] 0 2 1 79 3 (rflag_spec m base N K sp f p (r18 p N s) hN hK hp _) (fun _ => ⟨rfl, rfl⟩) ho rfl rfl rfl rfl (by decide) ⟨rfl, rfl⟩ (Cell.one rfl ⟨.junk, _, rfl⟩) (rfl) ?_
  clear ho; intro o ho
  repeat (refine need_intro (by first | rfl | exact fun h => h | simp) ?_)
  refine draw_but [0, 1] on rfl (fun _ _ h => h) ?_
  refine rone_k (r20 p N s) [] 0 2 1 80 4 (rdouble_spec m base N K sp f p (r19 p N s) hN hK hp _) (fun _ => ⟨rfl, rfl⟩) ho rfl rfl rfl rfl (by decide) ⟨rfl, rfl⟩ (Cell.one rfl ⟨.junk, _, rfl⟩) (rfl) ?_
  clear ho; intro o ho
  repeat (refine need_intro (by first | rfl | exact fun h => h | simp) ?_)
  refine draw_but [0, 1] on rfl (fun _ _ h => h) ?_
  refine rone_k (r21 p N s) [(1 : Int)] 0 2 1 81 5 (rplace_spec m base N K sp f p (r20 p N s) hN hK hp 1 (by decide) _) (fun _ => ⟨rfl, rfl⟩) ho rfl rfl rfl rfl (by decide) ⟨rfl, rfl⟩ (Cell.one rfl ⟨.junk, _, rfl⟩) (rfl) ?_
  clear ho; intro o ho
  repeat (refine need_intro (by first | rfl | exact fun h => h | simp) ?_)
  refine draw_but [0, 1] on rfl (fun _ _ h => h) ?_
  refine rone_k (r22 p N s) [] 0 2 1 83 6 (rword_spec m base N K sp f p (r21 p N s) hN hK hp _) (fun _ => ⟨rfl, rfl⟩) ho rfl rfl rfl rfl (by decide) ⟨rfl, rfl⟩ (Cell.one rfl ⟨.junk, _, rfl⟩) (rfl) ?_
  clear ho; intro o ho
  repeat (refine need_intro (by first | rfl | exact fun h => h | simp) ?_)
  refine draw_but [0, 1] on rfl (fun _ _ h => h) ?_
  refine rone_k (r23 p N s) [] 0 2 1 84 7 (rdouble_spec m base N K sp f p (r22 p N s) hN hK hp _) (fun _ => ⟨rfl, rfl⟩) ho rfl rfl rfl rfl (by decide) ⟨rfl, rfl⟩ (Cell.one rfl ⟨.junk, _, rfl⟩) (rfl) ?_
  clear ho; intro o ho
  repeat (refine need_intro (by first | rfl | exact fun h => h | simp) ?_)
  refine draw_but [0, 1] on rfl (fun _ _ h => h) ?_
  refine rone_k (r24 p N s) [] 0 2 1 85 8 (rdouble_spec m base N K sp f p (r23 p N s) hN hK hp _) (fun _ => ⟨rfl, rfl⟩) ho rfl rfl rfl rfl (by decide) ⟨rfl, rfl⟩ (Cell.one rfl ⟨.junk, _, rfl⟩) (rfl) ?_
  clear ho; intro o ho
  repeat (refine need_intro (by first | rfl | exact fun h => h | simp) ?_)
  refine draw_but [0, 1] on rfl (fun _ _ h => h) ?_
  refine rone_k (r25 p N s) [] 0 2 1 86 9 (rflag_spec m base N K sp f p (r24 p N s) hN hK hp _) (fun _ => ⟨rfl, rfl⟩) ho rfl rfl rfl rfl (by decide) ⟨rfl, rfl⟩ (Cell.one rfl ⟨.junk, _, rfl⟩) (rfl) ?_
  clear ho; intro o ho
  repeat (refine need_intro (by first | rfl | exact fun h => h | simp) ?_)
  refine draw_but [0, 1] on rfl (fun _ _ h => h) ?_
  refine rone_k (r26 p N s) [] 0 2 1 87 10 (rflag_spec m base N K sp f p (r25 p N s) hN hK hp _) (fun _ => ⟨rfl, rfl⟩) ho rfl rfl rfl rfl (by decide) ⟨rfl, rfl⟩ (Cell.one rfl ⟨.junk, _, rfl⟩) (rfl) ?_
  clear ho; intro o ho
  repeat (refine need_intro (by first | rfl | exact fun h => h | simp) ?_)
  refine draw_held on rfl (fun _ _ h => h) ?_
  repeat (refine need_intro rfl ?_)
  refine loop_times on 5 ?_
  refine Box.mk ?_
  refine need_intro (by decide) ?_
  refine rone_k (r27 p N s) [] 0 2 1 88 12 (roctet_spec m base N K sp f p (r26 p N s) hN hK hp _) (fun _ => ⟨rfl, rfl⟩) ho rfl rfl rfl rfl (by decide) ⟨rfl, rfl⟩ (Cell.one rfl ⟨.junk, _, rfl⟩) (rfl) ?_
  clear ho; intro o ho
  refine Box.mk ?_
  refine need_intro (by decide) ?_
  refine rone_k (r28 p N s) [] 0 2 1 89 13 (roctet_spec m base N K sp f p (r27 p N s) hN hK hp _) (fun _ => ⟨rfl, rfl⟩) ho rfl rfl rfl rfl (by decide) ⟨rfl, rfl⟩ (Cell.one rfl ⟨.junk, _, rfl⟩) (rfl) ?_
  clear ho; intro o ho
  refine Box.mk ?_
  refine need_intro (by decide) ?_
  refine rone_k (r29 p N s) [] 0 2 1 90 14 (roctet_spec m base N K sp f p (r28 p N s) hN hK hp _) (fun _ => ⟨rfl, rfl⟩) ho rfl rfl rfl rfl (by decide) ⟨rfl, rfl⟩ (Cell.one rfl ⟨.junk, _, rfl⟩) (rfl) ?_
  clear ho; intro o ho
  refine Box.mk ?_
  refine need_intro (by decide) ?_
  refine rone_k (r30 p N s) [] 0 2 1 91 15 (roctet_spec m base N K sp f p (r29 p N s) hN hK hp _) (fun _ => ⟨rfl, rfl⟩) ho rfl rfl rfl rfl (by decide) ⟨rfl, rfl⟩ (Cell.one rfl ⟨.junk, _, rfl⟩) (rfl) ?_
  clear ho; intro o ho
  refine Box.mk ?_
  refine draw_but [0, 1] on rfl (fun _ _ h => h) ?_
  refine rone_k (r31 p N s) [] 0 2 1 92 16 (rflag_spec m base N K sp f p (r30 p N s) hN hK hp _) (fun _ => ⟨rfl, rfl⟩) ho rfl rfl rfl rfl (by decide) ⟨rfl, rfl⟩ (Cell.one rfl ⟨.junk, _, rfl⟩) (rfl) ?_
  clear ho; intro o ho
  repeat (refine need_intro (by first | rfl | exact fun h => h | simp) ?_)
  refine draw_but [0, 1] on rfl (fun _ _ h => h) ?_
  refine rone_k (r32 p N s) [(1 : Int)] 0 2 1 95 17 (rplace_spec m base N K sp f p (r31 p N s) hN hK hp 1 (by decide) _) (fun _ => ⟨rfl, rfl⟩) ho rfl rfl rfl rfl (by decide) ⟨rfl, rfl⟩ (Cell.one rfl ⟨.junk, _, rfl⟩) (rfl) ?_
  clear ho; intro o ho
  repeat (refine need_intro (by first | rfl | exact fun h => h | simp) ?_)
  refine draw_but [0, 1] on rfl (fun _ _ h => h) ?_
  refine rone_k (r33 p N s) [(4 : Int)] 0 2 1 96 18 (rplace_spec m base N K sp f p (r32 p N s) hN hK hp 4 (by decide) _) (fun _ => ⟨rfl, rfl⟩) ho rfl rfl rfl rfl (by decide) ⟨rfl, rfl⟩ (Cell.one rfl ⟨.junk, _, rfl⟩) (rfl) ?_
  clear ho; intro o ho
  repeat (refine need_intro (by first | rfl | exact fun h => h | simp) ?_)
  refine draw_but [0, 1] on rfl (fun _ _ h => h) ?_
  refine Does.cell (rlist_spec m base N K sp f p (r33 p N s) hN hK hp 1 64 (by decide) o ho) [0, 19, 2] 1 93 19 rfl rfl (Cell.one rfl ⟨.junk, _, rfl⟩) ⟨rfl, rfl, rfl, trivial⟩ ⟨.inl ⟨rfl, rfl⟩, ptrTo_part ⟨rfl, rfl⟩, rfl, rfl, trivial⟩ (by decide) ?_ ?_ ?_
  · rintro v h' ⟨o', _, _, rfl⟩
    exact ⟨.inl rfl, .inl rfl, .inr (.inr rfl), .inl rfl, trivial⟩
  · rintro v h' ⟨o', _, _, rfl⟩
    exact Nat.le_succ _
  clear ho
  rintro v h' ⟨o, ho, rfl, rfl⟩
  refine ⟨_, _, rfl, rfl, ?_⟩
  repeat (refine need_intro (by first | rfl | exact fun h => h | simp) ?_)
  refine draw_but [0, 1] on rfl (fun _ _ h => h) ?_
  refine Does.cell (rlist_spec m base N K sp f p (r34 p N s) hN hK hp 2 4096 (by decide) o ho) [0, 21, 2] 1 94 21 rfl rfl (Cell.one rfl ⟨.junk, _, rfl⟩) ⟨rfl, rfl, rfl, trivial⟩ ⟨.inl ⟨rfl, rfl⟩, ptrTo_part ⟨rfl, rfl⟩, rfl, rfl, trivial⟩ (by decide) ?_ ?_ ?_
  · rintro v h' ⟨o', _, _, rfl⟩
    exact ⟨.inl rfl, .inl rfl, .inr (.inr rfl), .inl rfl, trivial⟩
  · rintro v h' ⟨o', _, _, rfl⟩
    exact Nat.le_succ _
  clear ho
  rintro v h' ⟨o, ho, rfl, rfl⟩
  refine ⟨_, _, rfl, rfl, ?_⟩
  repeat (refine need_intro (by first | rfl | exact fun h => h | simp) ?_)
  refine ⟨.tuple [], _, [0, 1, 2, 20, 22], ⟨o, ho, rfl, rfl⟩, by decide, ⟨rfl, rfl, rfl, trivial⟩, trivial, ⟨_, rfl, eqvB_refl _⟩, ⟨_, rfl, ⟨rfl, rfl, ?_⟩⟩, ⟨_, rfl, eqvB_refl _⟩, ⟨_, rfl, eqvB_refl _⟩, ⟨_, rfl, eqvB_refl _⟩, trivial⟩
  show eqvS _ _
  repeat' (first | exact eqvS_nil | refine eqvS_same ?_ | refine eqvS_ints ?_ ?_)
  all_goals (intro j hj; show (if j < _ then _ else _) = _; rw [if_pos hj]; rfl)
end Go.Proofs.Ytghcdkpgcanpgaa

/- The document's reader: bytes and numbers off the front. Contracts of functions. No condition. -/
namespace Go.Proofs.Ytghcdkpgcanpgaa
open Go Go.Anv
set_option maxRecDepth 100000 in
theorem rrtake_spec (m : Bool) (N K sp cp : Nat) (f : Nat → Int) (s : Rs) (k : Nat) (hN : N ≤ 2 ^ 40) (hk : k ≤ 2 ^ 40) (hcp : N ≤ cp) (ha : s.at_ ≤ N) :
    Does TB 91 [.s (.ptr 0 0), .s (.int .i64 k)] [rrb 1 N cp s, .cells m [.ints .u8 K f] sp]
      (fun v h' => ((s.bad = true ∨ N - s.at_ < k) ∧ v = .s (.gs 2 0 k k) ∧ h' = [rrb 1 N cp ⟨s.at_, true⟩, .cells m [.ints .u8 K f] sp, bblk true k (fun _ => 0#8) 0]) ∨
        (¬ (s.bad = true ∨ N - s.at_ < k) ∧ (∃ o c, (0 < k → o = s.at_) ∧ o ≤ N ∧ v = .s (.gs 1 o k c)) ∧ h' = [rrb 1 N cp ⟨s.at_ + k, false⟩, .cells m [.ints .u8 K f] sp])) := by
  refine fnX_does TB Try.func91 rfl (by decide) (fun O on hO => ?_)
  obtain ⟨a, b⟩ := s
  replace ha : a ≤ N := ha
  refine draw_held on rfl (fun _ _ h => h) ?_
  have hsub : IntKind.i64.wrap ((N : Int) - (a : Int)) = ((N - a : Nat) : Int) := by rw [i64_in (by omega) (by omega)]; omega
  have fin1 : Anv.Ends 2 (fun v h' => ((b = true ∨ N - a < k) ∧ v = .s (.gs 2 0 k k) ∧ h' = [rrb 1 N cp ⟨a, true⟩, .cells m [.ints .u8 K f] sp, bblk true k (fun _ => 0#8) 0]) ∨
        (¬ (b = true ∨ N - a < k) ∧ (∃ o c, (0 < k → o = a) ∧ o ≤ N ∧ v = .s (.gs 1 o k c)) ∧ h' = [rrb 1 N cp ⟨a + k, false⟩, .cells m [.ints .u8 K f] sp]))
      (.s (.slice 2 0 ((k : Nat) : Int).toNat ((k : Nat) : Int).toNat)) [.cells true [.one (.gs 1 0 N cp), .one (.int .i64 a), .one (.bool true)] 0, .cells m [.ints .u8 K f] sp, .cells true [.ints .u8 ((k : Nat) : Int).toNat (fun _ => 0)] (((k : Nat) : Int).toNat - ((k : Nat) : Int).toNat)] ∨ ¬ (b = true ∨ N - a < k) := by
    by_cases hb : b = true ∨ N - a < k
    · exact .inl ⟨.s (.gs 2 0 k k), _, [0, 1, 2], .inl ⟨hb, rfl, rfl⟩, by decide, ⟨rfl, rfl, trivial⟩, ⟨rfl, rfl, rfl, rfl⟩, ⟨_, rfl, eqvB_refl _⟩, ⟨_, rfl, eqvB_refl _⟩, ⟨_, rfl, ⟨rfl, by show ((k : Nat) : Int).toNat - ((k : Nat) : Int).toNat = 0; omega, ⟨⟨rfl, rfl, fun _ _ => rfl⟩, trivial⟩⟩⟩, trivial⟩
    · exact .inr hb
  cases b with
  | true =>
    repeat (refine need_intro (by first | exact fun h => h | exact fun _ => rfl | rfl | (simp; done) | fail) ?_)
    refine need_intro ⟨by omega, by omega, by omega, by show ((1 : Nat) : Int) * _ ≤ _; omega⟩ ?_
    rcases fin1 with h | h
    · exact h
    · exact absurd (.inl rfl) h
  | false =>
    repeat (refine need_intro (by first | exact fun h => h | exact fun _ => rfl | rfl | (simp; done) | fail) ?_)
    refine ifB_intro (fun h1 => ?_) (fun h1 => ?_)
    · have h2 : (k : Int) > IntKind.i64.wrap ((N : Int) - (a : Int)) := of_decide_eq_true h1
      rw [hsub] at h2
      refine need_intro ⟨by omega, by omega, by omega, by show ((1 : Nat) : Int) * _ ≤ _; omega⟩ ?_
      rcases fin1 with h | h
      · exact h
      · exact absurd (.inr (by omega)) h
    · have h2 : ¬ (k : Int) > IntKind.i64.wrap ((N : Int) - (a : Int)) := of_decide_eq_false h1
      rw [hsub] at h2
      have hw : IntKind.i64.wrap ((a : Int) + (k : Int)) = ((a + k : Nat) : Int) := by rw [i64_in (by omega) (by omega)]; rfl
      have hw2 : IntKind.i64.wrap (IntKind.i64.wrap ((a : Int) + (k : Int)) - (k : Int)) = (a : Int) := by rw [hw, i64_in (by omega) (by omega)]; omega
      refine draw_held on rfl (fun _ _ h => h) ?_
      refine need_intro ⟨by rw [hw2]; omega, by rw [hw2, hw]; omega, by rw [hw]; omega⟩ ?_
      repeat (refine need_intro (by first | rfl | (simp; done) | fail) ?_)
      refine ⟨.s (.gs 1 (skip cp a 0 1) k (cp - a)), _, [0, 1], .inr ⟨?_, ⟨_, _, ?_, ?_, rfl⟩, rfl⟩, by decide, ⟨rfl, rfl, trivial⟩, ⟨rfl, ?_, ?_, ?_⟩, ⟨_, rfl, ⟨rfl, rfl, eqvS_same (eqvS_int hw (eqvS_same eqvS_nil))⟩⟩, ⟨_, rfl, eqvB_refl _⟩, trivial⟩
      · rintro (h | h)
        · cases h
        · replace h : N - a < k := h
          omega
      · intro h
        unfold skip
        rw [if_neg (by omega)]
        show 0 + a * 1 = a
        omega
      · unfold skip
        split <;> omega
      · show skip cp (IntKind.i64.wrap (IntKind.i64.wrap ((a : Int) + (k : Int)) - (k : Int))).toNat 0 1 = skip cp a 0 1
        rw [hw2]; rfl
      · show (IntKind.i64.wrap ((a : Int) + (k : Int))).toNat - (IntKind.i64.wrap (IntKind.i64.wrap ((a : Int) + (k : Int)) - (k : Int))).toNat = k
        rw [hw2, hw]; omega
      · show cp - (IntKind.i64.wrap (IntKind.i64.wrap ((a : Int) + (k : Int)) - (k : Int))).toNat = cp - a
        rw [hw2]; rfl
set_option maxRecDepth 100000 in
theorem rrnum_spec (m : Bool) (N K sp cp : Nat) (f : Nat → Int) (p : Nat → B8) (s : Rs) (k : Nat) (hN : N ≤ 2 ^ 40) (hk : 0 < k ∧ k ≤ 8) (hcp : N ≤ cp) (ha : s.at_ ≤ N) (hK : N ≤ K) (hp : ∀ j, j < N → f j = (p j).toNat) :
    Does TB 88 [.s (.ptr 0 0), .s (.int .i64 k)] [rrb 1 N cp s, .cells m [.ints .u8 K f] sp]
      (fun v h' => v = .s (.int .u64 (numV p N k s).toNat) ∧ h' = [rrb 1 N cp (takeR N k s), .cells m [.ints .u8 K f] sp]) := by
  refine fnX_does TB Try.func88 rfl (by decide) (fun O on hO => ?_)
  refine Does.at (rrtake_spec m N K sp cp f s k hN (by omega) hcp ha) [0, 1] rfl ⟨rfl, rfl, trivial⟩ (by decide) ?_ ?_
  · rintro v h' (⟨_, _, rfl⟩ | ⟨_, _, rfl⟩)
    · exact ⟨.inl rfl, .inr (.inr rfl), .inl rfl, trivial⟩
    · exact ⟨.inl rfl, .inr (.inr rfl), trivial⟩
  have step : ∀ (n : Nat), n < k → IntKind.u64.wrap (IntKind.u64.wrap (((hi p s.at_ k n).toNat : Int) * 256) + IntKind.u64.wrap ((p (s.at_ + (k - 1 - n))).toNat : Int)) = ((hi p s.at_ k (n + 1)).toNat : Int) := fun n hn => by
    have h1 := hi_mul p s.at_ k n (by omega)
    have h2 := hi_bound p s.at_ k n (by omega)
    have h3 := (p (s.at_ + (k - 1 - n))).isLt
    have w : ∀ x : Int, 0 ≤ x → x < 2 ^ 64 → IntKind.u64.wrap x = x := fun x h0 h1 => by
      show x % 2 ^ 64 = x
      exact Int.emod_eq_of_lt h0 h1
    have e1 := w (((hi p s.at_ k n).toNat : Int) * 256) (by omega) (by omega)
    have e2 := w ((p (s.at_ + (k - 1 - n))).toNat : Int) (by omega) (by omega)
    rw [h1, e1, e2, w _ (by omega) (by omega)]
  rintro v h' (⟨hb, rfl, rfl⟩ | ⟨hb, ⟨o, c, ho, hoN, rfl⟩, rfl⟩)
  · have e1 : takeR N k s = ⟨s.at_, true⟩ := if_pos hb
    have e2 : numV p N k s = 0#64 := if_pos hb
    rw [e1, e2]
    refine loop_by (A := Nat) on (fun n => [(6, .s (.int .u64 0)), (7, .s (.int .i64 ((k : Int) - 1 - (n : Int))))]) (fun _ => [rrb 1 N cp ⟨s.at_, true⟩, .cells m [.ints .u8 K f] sp, bblk true k (fun _ => 0#8) 0]) (fun n => n ≤ k) (fun n => k - n) 0 (Nat.zero_le _) ?_ ?_
    · refine ⟨?_, ?_⟩
      · repeat' (first | exact eqvT_nil | refine eqvT_junk ?_ | refine eqvT_same ?_ | refine eqvT_int ?_ ?_)
        rw [i64_in (by omega) (by omega)]; omega
      · exact eqvH_same (eqvH_same (eqvH_same eqvH_nil))
    · intro n hn
      refine ifB_intro (fun h1 => ?_) (fun h1 => ?_)
      · have h2 : (k : Int) - 1 - (n : Int) ≥ 0 := of_decide_eq_true h1
        refine need_intro ⟨by omega, by omega⟩ ?_
        refine need_intro (by omega) ?_
        refine ⟨n + 1, ?_, ?_, ?_, ?_⟩
        · show n + 1 ≤ k; omega
        · show k - (n + 1) < k - n; omega
        · repeat' (first | exact eqvT_nil | refine eqvT_junk ?_ | refine eqvT_same ?_ | refine eqvT_int ?_ ?_)
          rw [i64_in (by omega) (by omega)]; omega
        · exact eqvH_same (eqvH_same (eqvH_same eqvH_nil))
      · exact ⟨_, _, [0, 1], ⟨rfl, rfl⟩, by decide, ⟨rfl, rfl, trivial⟩, eqvE_refl _, ⟨_, rfl, eqvB_refl _⟩, ⟨_, rfl, eqvB_refl _⟩, trivial⟩
  · have e1 : takeR N k s = ⟨s.at_ + k, false⟩ := if_neg hb
    have e2 : numV p N k s = hi p s.at_ k k := if_neg hb
    rw [e1, e2]
    have ho2 := ho hk.1
    subst ho2
    have hb2 : s.at_ + k ≤ N := by
      simp only [not_or, Nat.not_lt] at hb; omega
    refine loop_by (A := Nat) on (fun n => [(6, .s (.int .u64 (hi p s.at_ k n).toNat)), (7, .s (.int .i64 ((k : Int) - 1 - (n : Int))))]) (fun _ => [rrb 1 N cp ⟨s.at_ + k, false⟩, .cells m [.ints .u8 K f] sp]) (fun n => n ≤ k) (fun n => k - n) 0 (Nat.zero_le _) ?_ ?_
    · refine ⟨?_, ?_⟩
      · repeat' (first | exact eqvT_nil | refine eqvT_junk ?_ | refine eqvT_same ?_ | refine eqvT_int ?_ ?_)
        rw [i64_in (by omega) (by omega)]; omega
      · exact eqvH_same (eqvH_same eqvH_nil)
    · intro n hn
      refine ifB_intro (fun h1 => ?_) (fun h1 => ?_)
      · have h2 : (k : Int) - 1 - (n : Int) ≥ 0 := of_decide_eq_true h1
        have hi2 : ((k : Int) - 1 - (n : Int)).toNat = k - 1 - n := by omega
        refine need_intro ⟨by omega, by omega⟩ ?_
        refine need_intro (by omega) ?_
        refine ⟨n + 1, ?_, ?_, ?_, ?_⟩
        · show n + 1 ≤ k; omega
        · show k - (n + 1) < k - n; omega
        · repeat' (first | exact eqvT_nil | refine eqvT_junk ?_ | refine eqvT_same ?_ | refine eqvT_int ?_ ?_)
          · show IntKind.u64.wrap (IntKind.u64.wrap (((hi p s.at_ k n).toNat : Int) * 256) + IntKind.u64.wrap (f (s.at_ + ((k : Int) - 1 - (n : Int)).toNat))) = ((hi p s.at_ k (n + 1)).toNat : Int)
            rw [hi2, hp _ (by omega)]
            exact step n (by omega)
          · rw [i64_in (by omega) (by omega)]; omega
        · exact eqvH_same (eqvH_same eqvH_nil)
      · have h2 : ¬ ((k : Int) - 1 - (n : Int) ≥ 0) := of_decide_eq_false h1
        have hnk : n = k := by omega
        subst hnk
        exact ⟨_, _, [0, 1], ⟨rfl, rfl⟩, by decide, ⟨rfl, rfl, trivial⟩, eqvE_refl _, ⟨_, rfl, eqvB_refl _⟩, ⟨_, rfl, eqvB_refl _⟩, trivial⟩
/-- Over any heap. -/
theorem rrnum_k {h : List Blk} {Q : EV → List Blk → Prop} (pr pb : Nat) {N cp : Nat} {s : Rs} {m : Bool} {K sp : Nat} {f : Nat → Int} (p : Nat → B8) (k : Nat) (hN : N ≤ 2 ^ 40) (hk : 0 < k ∧ k ≤ 8) (hcp : N ≤ cp) (ha : s.at_ ≤ N) (hK : N ≤ K) (hp : ∀ j, j < N → f j = (p j).toNat)
    (hw : nthB h pr = some (rrb pb N cp s)) (hb : nthB h pb = some (.cells m [.ints .u8 K f] sp)) (hne : pr ≠ pb)
    (hQ : (takeR N k s).at_ ≤ N → updBK h pr (rrb pb N cp (takeR N k s)) fun h1 => updBK h1 pb (.cells m [.ints .u8 K f] sp) fun h2 => Q (.s (.int .u64 (numV p N k s).toNat)) h2) :
    Does TB 88 [.s (.ptr pr 0), .s (.int .i64 k)] h Q := by
  refine Does.at (rrnum_spec m N K sp cp f p s k hN hk hcp ha hK hp) [pr, pb] rfl ⟨hw, hb, trivial⟩ (by simp [hne]) ?_ ?_
  · rintro v h' ⟨_, rfl⟩
    exact ⟨.inl rfl, .inr (.inr rfl), trivial⟩
  · rintro v h' ⟨rfl, rfl⟩
    have := hQ (by unfold takeR; split <;> simp_all <;> omega)
    rw [updBK_eq, updBK_eq] at this
    rw [forceH_eq, forceE_eq]
    have e : mergeB h [pr, pb] (renH (lk [pr, pb] h.length) [rrb 1 N cp (takeR N k s), .cells m [.ints .u8 K f] sp]) = updB (updB h pr (rrb pb N cp (takeR N k s))) pb (.cells m [.ints .u8 K f] sp) := by
      show updB (updB h pr _) pb _ ++ [] = _
      rw [List.append_nil]; rfl
    rw [e]
    exact this
set_option maxRecDepth 100000 in
theorem rrflag_spec (m : Bool) (N K sp cp : Nat) (f : Nat → Int) (p : Nat → B8) (s : Rs) (hN : N ≤ 2 ^ 40) (hcp : N ≤ cp) (ha : s.at_ ≤ N) (hK : N ≤ K) (hp : ∀ j, j < N → f j = (p j).toNat) :
    Does TB 89 [.s (.ptr 0 0)] [rrb 1 N cp s, .cells m [.ints .u8 K f] sp]
      (fun v h' => v = .s (.bool (flagV p N s)) ∧ h' = [rrb 1 N cp (flagR p N s), .cells m [.ints .u8 K f] sp]) := by
  refine fnX_does TB Try.func89 rfl (by decide) (fun O on hO => ?_)
  refine rrnum_k 0 1 p 1 hN (by decide) hcp ha hK hp rfl rfl (by decide) ?_
  intro _
  have hv : (((numV p N 1 s).toNat : Int) == 1) = flagV p N s := beq_lit (numV p N 1 s) 1 (by decide) (by decide)
  refine ifB_intro (fun h1 => ?_) (fun h1 => ?_)
  · have h2 : ((numV p N 1 s).toNat : Int) > 1 := of_decide_eq_true h1
    refine ⟨_, _, [0, 1], ⟨rfl, rfl⟩, by decide, ⟨rfl, rfl, trivial⟩, hv, ⟨_, rfl, ⟨rfl, rfl, eqvS_same (eqvS_same (eqvS_bool ?_ eqvS_nil))⟩⟩, ⟨_, rfl, eqvB_refl _⟩, trivial⟩
    show true = ((takeR N 1 s).bad || decide (1 < (numV p N 1 s).toNat))
    rw [decide_eq_true (by omega), Bool.or_true]
  · have h2 : ¬ ((numV p N 1 s).toNat : Int) > 1 := of_decide_eq_false h1
    refine ⟨_, _, [0, 1], ⟨rfl, rfl⟩, by decide, ⟨rfl, rfl, trivial⟩, hv, ⟨_, rfl, ⟨rfl, rfl, eqvS_same (eqvS_same (eqvS_bool ?_ eqvS_nil))⟩⟩, ⟨_, rfl, eqvB_refl _⟩, trivial⟩
    show (takeR N 1 s).bad = ((takeR N 1 s).bad || decide (1 < (numV p N 1 s).toNat))
    rw [decide_eq_false (by omega), Bool.or_false]
end Go.Proofs.Ytghcdkpgcanpgaa

/- The document's reader: list, Cpu, devices. Contracts of functions. No condition. -/
namespace Go.Anv
open Go
theorem takeR_bad {N k : Nat} {s : Rs} (h : s.bad = true) : takeR N k s = ⟨s.at_, true⟩ := if_pos (.inl h)
theorem listOk_pre {p : Nat → B8} {N size most : Nat} {s : Rs} (h : listOk p N size most s = true) : s.bad = false := by
  cases hb : s.bad
  · rfl
  · exfalso
    unfold listOk lenR at h
    rw [takeR_bad hb] at h
    simp at h
theorem listR_bad (p : Nat → B8) (N size most : Nat) (s : Rs) : (listR p N size most s).bad = !listOk p N size most s := by
  unfold listR takeR listOk
  cases hb : (lenR p N size most s).bad
  · by_cases h : N - (lenR p N size most s).at_ < (numV p N size s).toNat
    · rw [if_pos (.inr h), decide_eq_false (by omega)]; rfl
    · rw [if_neg (by rintro (h1 | h1); cases h1; exact h h1), decide_eq_true (by omega)]; rfl
  · rw [if_pos (.inl rfl)]; rfl
theorem loopg {n i : Nat} {g : Nat → Int} {x : Int} (hx : x = g i) : ∀ j, j < n → (if j = i then x else if j < i then g j else 0) = if j < i + 1 then g j else 0 := hx ▸ loopf
def zcpu : List Seg := [.one (.int .u64 0), .ints .u64 32 (fun _ => 0), .one (.int .i64 0), .one (.bool false), .one (.int .u64 0), .one (.int .u64 0), .one (.int .u64 0), .one (.int .u64 0), .one (.int .u64 0), .one (.int .u64 0), .one (.int .u64 0), .one (.int .u64 0), .one (.int .u64 0), .one (.int .u64 0), .one (.int .u64 0), .one (.int .u64 0), .ints .u8 16 (fun _ => 0), .ints .u64 16 (fun _ => 0), .one (.bool false), .one (.int .u64 0), .one (.int .i64 0)]
def zbus : List Seg := [.one .nilslice, .one (.int .u32 0), .one (.int .u64 0), .one (.int .u64 0), .one (.bool false), .one (.bool false), .one (.int .u8 0), .one (.int .u8 0), .one (.int .u8 0), .one (.int .u8 0), .one (.bool false), .one .nilslice, .one .nilslice, .one (.int .i64 0), .one (.int .i64 0)]
end Go.Anv
namespace Go.Proofs.Ytghcdkpgcanpgaa
open Go Go.Anv
theorem rrflag_k {h : List Blk} {Q : EV → List Blk → Prop} (pr pb : Nat) {N cp : Nat} {s : Rs} {m : Bool} {K sp : Nat} {f : Nat → Int} (p : Nat → B8) (hN : N ≤ 2 ^ 40) (hcp : N ≤ cp) (ha : s.at_ ≤ N) (hK : N ≤ K) (hp : ∀ j, j < N → f j = (p j).toNat)
    (hw : nthB h pr = some (rrb pb N cp s)) (hb : nthB h pb = some (.cells m [.ints .u8 K f] sp)) (hne : pr ≠ pb)
    (hQ : (flagR p N s).at_ ≤ N → updBK h pr (rrb pb N cp (flagR p N s)) fun h1 => updBK h1 pb (.cells m [.ints .u8 K f] sp) fun h2 => Q (.s (.bool (flagV p N s))) h2) :
    Does TB 89 [.s (.ptr pr 0)] h Q := by
  refine Does.at (rrflag_spec m N K sp cp f p s hN hcp ha hK hp) [pr, pb] rfl ⟨hw, hb, trivial⟩ (by simp [hne]) ?_ ?_
  · rintro v h' ⟨_, rfl⟩
    exact ⟨.inl rfl, .inr (.inr rfl), trivial⟩
  · rintro v h' ⟨rfl, rfl⟩
    have := hQ (by unfold flagR takeR; split <;> simp_all <;> omega)
    rw [updBK_eq, updBK_eq] at this
    rw [forceH_eq, forceE_eq]
    have e : mergeB h [pr, pb] (renH (lk [pr, pb] h.length) [rrb 1 N cp (flagR p N s), .cells m [.ints .u8 K f] sp]) = updB (updB h pr (rrb pb N cp (flagR p N s))) pb (.cells m [.ints .u8 K f] sp) := by
      show updB (updB h pr _) pb _ ++ [] = _
      rw [List.append_nil]; rfl
    rw [e]
    exact this
section main
variable (m : Bool) (N K sp cp : Nat) (f : Nat → Int) (p : Nat → B8) (s : Rs) (hN : N ≤ 2 ^ 40) (hcp : N ≤ cp) (hK : N ≤ K) (hp : ∀ j, j < N → f j = (p j).toNat)
include hN hcp hK hp
set_option maxRecDepth 100000 in
theorem rrlist_spec (size most : Nat) (hs : 0 < size ∧ size ≤ 4) (hm : most ≤ 1048576) (ha : s.at_ ≤ N) :
    Does TB 90 [.s (.ptr 0 0), .s (.int .i64 size), .s (.int .i64 most)] [rrb 1 N cp s, .cells m [.ints .u8 K f] sp]
      (fun v h' => (listR p N size most s).at_ ≤ N ∧ ((listOk p N size most s = true ∧ ∃ c, v = .s (.gs 2 0 (listN p N size most s) c) ∧ h' = [rrb 1 N cp (listR p N size most s), .cells m [.ints .u8 K f] sp, bblk true (listN p N size most s) (listQ p N size most s) (c - listN p N size most s)]) ∨
        (listOk p N size most s = false ∧ v = .s .junk ∧ h' = [rrb 1 N cp (listR p N size most s), .cells m [.ints .u8 K f] sp]))) := by
  refine fnX_does TB Try.func90 rfl (by decide) (fun O on hO => ?_)
  refine rrnum_k 0 1 p size hN (by omega) hcp ha hK hp rfl rfl (by decide) ?_
  intro ha1
  have hv : (numV p N size s).toNat < 2 ^ 32 := by
    unfold numV
    split
    · decide
    · exact Nat.lt_of_lt_of_le (hi_lt p s.at_ size size (by omega)) (Nat.pow_le_pow_right (by decide) (by omega))
  have hi64 : IntKind.i64.wrap ((numV p N size s).toNat : Int) = (((numV p N size s).toNat : Nat) : Int) := i64_in (by omega) (by omega)
  refine ifB_intro (fun h1 => ?_) (fun h1 => ?_)
  · have h2 : IntKind.i64.wrap ((numV p N size s).toNat : Int) > (most : Int) := of_decide_eq_true h1
    rw [hi64] at h2
    have hb : (lenR p N size most s).bad = true := by
      show ((takeR N size s).bad || decide (most < (numV p N size s).toNat)) = true
      rw [decide_eq_true (by omega), Bool.or_true]
    have e1 : listOk p N size most s = false := by unfold listOk; rw [hb]; rfl
    have e2 : listR p N size most s = ⟨(takeR N size s).at_, true⟩ := if_pos (.inl hb)
    rw [e1, e2]
    exact ⟨.s .junk, _, [0, 1], ⟨ha1, .inr ⟨rfl, rfl, rfl⟩⟩, by decide, ⟨rfl, rfl, trivial⟩, trivial, ⟨_, rfl, eqvB_refl _⟩, ⟨_, rfl, eqvB_refl _⟩, trivial⟩
  · have h2 : ¬ IntKind.i64.wrap ((numV p N size s).toNat : Int) > (most : Int) := of_decide_eq_false h1
    rw [hi64] at h2
    have hlr : lenR p N size most s = takeR N size s := by
      unfold lenR
      rw [decide_eq_false (by omega), Bool.or_false]
    refine args_eq (b := [.s (.ptr 0 0), .s (.int .i64 (((numV p N size s).toNat : Nat) : Int))]) (by rw [hi64]) ?_
    refine Does.at (rrtake_spec m N K sp cp f (takeR N size s) (numV p N size s).toNat hN (by omega) hcp ha1) [0, 1] rfl ⟨rfl, rfl, trivial⟩ (by decide) ?_ ?_
    · rintro v h' (⟨_, _, rfl⟩ | ⟨_, _, rfl⟩)
      · exact ⟨.inl rfl, .inr (.inr rfl), .inl rfl, trivial⟩
      · exact ⟨.inl rfl, .inr (.inr rfl), trivial⟩
    rintro v h' (⟨hb, rfl, rfl⟩ | ⟨hb, ⟨o, c, ho, hoN, rfl⟩, rfl⟩)
    · have e1 : listOk p N size most s = false := by
        unfold listOk
        rw [hlr]
        rcases hb with h | h
        · rw [h]; rfl
        · rw [decide_eq_false (by omega), Bool.and_false]
      have e2 : listR p N size most s = ⟨(takeR N size s).at_, true⟩ := by unfold listR; rw [hlr]; exact if_pos hb
      rw [e1, e2]
      refine need_intro ⟨by show 0 + (numV p N size s).toNat ≤ (numV p N size s).toNat; omega, rfl, rfl, room5 _ (by show 0 + (numV p N size s).toNat ≤ _; omega)⟩ ?_
      intro c1 _
      exact ⟨.s .junk, _, [0, 1], ⟨ha1, .inr ⟨rfl, rfl, rfl⟩⟩, by decide, ⟨rfl, rfl, trivial⟩, trivial, ⟨_, rfl, eqvB_refl _⟩, ⟨_, rfl, eqvB_refl _⟩, trivial⟩
    · have hb2 := hb
      simp only [not_or, Nat.not_lt] at hb2
      have e1 : listOk p N size most s = true := by
        unfold listOk
        rw [hlr, decide_eq_true hb2.2]
        cases h : (takeR N size s).bad
        · rfl
        · exact absurd h hb2.1
      have e2 : listR p N size most s = ⟨(takeR N size s).at_ + (numV p N size s).toNat, false⟩ := by unfold listR; rw [hlr]; exact if_neg hb
      have e3 : listN p N size most s = (numV p N size s).toNat := by unfold listN; rw [e1]; rfl
      have e4 : ∀ j, listQ p N size most s j = p ((takeR N size s).at_ + j) := fun j => by unfold listQ; rw [hlr]
      rw [e1, e2, e3]
      generalize hz : (numV p N size s).toNat = z at *
      have hoz : o + z ≤ N := by
        rcases Nat.eq_zero_or_pos z with h | h
        · omega
        · have := ho h; omega
      refine need_intro ⟨by show o + z ≤ K; omega, rfl, rfl, room5 _ (by show 0 + z ≤ _; omega)⟩ ?_
      intro c1 hc1
      replace hc1 : 0 + z ≤ c1 := hc1
      refine ⟨.s (.gs 2 0 z c1), _, [0, 1, 3], ⟨by show (takeR N size s).at_ + z ≤ N; omega, .inl ⟨rfl, c1, rfl, rfl⟩⟩, by decide, ⟨rfl, rfl, trivial⟩, ⟨rfl, rfl, by show 0 + z = z; omega, rfl⟩, ⟨_, rfl, eqvB_refl _⟩, ⟨_, rfl, eqvB_refl _⟩, ⟨_, rfl, ⟨rfl, ?_, ⟨⟨rfl, by show 0 + z = z; omega, fun j hj => ?_⟩, trivial⟩⟩⟩, trivial⟩
      · show (c1 - (0 + z)) * 1 = c1 - z; omega
      · replace hj : j < 0 + z := hj
        show catF 0 (litF []) (shf o f) j = bfun (listQ p N size most s) j
        unfold catF
        rw [if_neg (Nat.not_lt_zero j)]
        show f (o + (j - 0)) = _
        rw [ho (by omega), Nat.sub_zero, hp _ (by omega)]
        show _ = ((listQ p N size most s j).toNat : Int)
        rw [e4]
set_option maxRecDepth 100000 in
set_option maxHeartbeats 8000000 in
theorem rrcpu_spec (ha : s.at_ ≤ N) : Does TB 55 [.s (.ptr 0 0)] [rrb 1 N cp s, .cells m [.ints .u8 K f] sp]
      (fun v h' => (r21 p N s).at_ ≤ N ∧ v = .agg (cpuR p N s).segs ∧ h' = [rrb 1 N cp (r21 p N s), .cells m [.ints .u8 K f] sp]) := by
  refine fnX_does TB Try.func55 rfl (by decide) (fun O on hO => ?_)
  refine rrnum_k 0 1 (s := s) p 8 hN (by decide) hcp ha hK hp rfl rfl (by decide) ?_
  clear ha; intro ha
  refine loop_by (A := Nat) on (fun i => [(4, .s (.int .i64 (i : Int)))]) (fun i => [rrb 1 N cp (seqR N 8 (r1 p N s) i), .cells m [.ints .u8 K f] sp, .cells true zcpu 0, .cells true (.one (.int .u64 (numV p N 8 s).toNat) :: .ints .u64 32 (fun j => if j < i then ((numV p N 8 (seqR N 8 (r1 p N s) j)).toNat : Int) else 0) :: .one (.int .i64 0) :: .one (.bool false) :: .one (.int .u64 0) :: .one (.int .u64 0) :: .one (.int .u64 0) :: .one (.int .u64 0) :: .one (.int .u64 0) :: .one (.int .u64 0) :: .one (.int .u64 0) :: .one (.int .u64 0) :: .one (.int .u64 0) :: .one (.int .u64 0) :: .one (.int .u64 0) :: .one (.int .u64 0) :: .ints .u8 16 (fun _ => 0) :: .ints .u64 16 (fun _ => 0) :: .one (.bool false) :: .one (.int .u64 0) :: .one (.int .i64 0) :: []) 0]) (fun i => i ≤ 32 ∧ (seqR N 8 (r1 p N s) i).at_ ≤ N) (fun i => 32 - i) 0 ⟨Nat.zero_le _, ha⟩ ?_ ?_
  · refine ⟨?_, ?_⟩
    · repeat' (first | exact eqvT_nil | refine eqvT_junk ?_ | refine eqvT_same ?_ | refine eqvT_int ?_ ?_)
    · exact eqvH_same (eqvH_same (eqvH_same (eqvH_same eqvH_nil)))
  clear ha
  rintro i ⟨hi, ha⟩
  refine ifB_intro (fun h1 => ?_) (fun h1 => ?_)
  · have hlt : i < 32 := by have h2 := of_decide_eq_true h1; omega
    refine rrnum_k 0 1 (s := (seqR N 8 (r1 p N s) i)) p 8 hN (by decide) hcp ha hK hp rfl rfl (by decide) ?_
    clear ha; intro ha
    refine need_intro ⟨by omega, by omega⟩ ?_
    refine need_intro (by omega) ?_
    refine ⟨i + 1, ⟨?_, ha⟩, ?_, ?_, ?_⟩
    · show i + 1 ≤ 32; omega
    · show 32 - (i + 1) < 32 - i; omega
    · repeat' (first | exact eqvT_nil | refine eqvT_junk ?_ | refine eqvT_same ?_ | refine eqvT_int ?_ ?_)
      all_goals (rw [i64_in (by omega) (by omega)]; rfl)
    · refine eqvH_same (eqvH_same (eqvH_same (eqvH_cells ?_ eqvH_nil)))
      repeat' (first | exact eqvS_nil | refine eqvS_same ?_ | refine eqvS_ints ?_ ?_)
      exact loopf (g := fun j => ((numV p N 8 (seqR N 8 (r1 p N s) j)).toNat : Int))
  have hlt : i = 32 := by have h2 := of_decide_eq_false h1; omega
  subst hlt
  refine rrnum_k 0 1 (s := (r2 p N s)) p 1 hN (by decide) hcp ha hK hp rfl rfl (by decide) ?_
  clear ha; intro ha
  refine rrflag_k 0 1 (s := (r3 p N s)) p hN hcp ha hK hp rfl rfl (by decide) ?_
  clear ha; intro ha
  refine rrnum_k 0 1 (s := (r4 p N s)) p 8 hN (by decide) hcp ha hK hp rfl rfl (by decide) ?_
  clear ha; intro ha
  refine rrnum_k 0 1 (s := (r5 p N s)) p 8 hN (by decide) hcp ha hK hp rfl rfl (by decide) ?_
  clear ha; intro ha
  refine rrnum_k 0 1 (s := (r6 p N s)) p 8 hN (by decide) hcp ha hK hp rfl rfl (by decide) ?_
  clear ha; intro ha
  refine rrnum_k 0 1 (s := (r7 p N s)) p 8 hN (by decide) hcp ha hK hp rfl rfl (by decide) ?_
  clear ha; intro ha
  refine rrnum_k 0 1 (s := (r8 p N s)) p 8 hN (by decide) hcp ha hK hp rfl rfl (by decide) ?_
  clear ha; intro ha
  refine rrnum_k 0 1 (s := (r9 p N s)) p 8 hN (by decide) hcp ha hK hp rfl rfl (by decide) ?_
  clear ha; intro ha
  refine rrnum_k 0 1 (s := (r10 p N s)) p 8 hN (by decide) hcp ha hK hp rfl rfl (by decide) ?_
  clear ha; intro ha
  refine rrnum_k 0 1 (s := (r11 p N s)) p 8 hN (by decide) hcp ha hK hp rfl rfl (by decide) ?_
  clear ha; intro ha
  refine rrnum_k 0 1 (s := (r12 p N s)) p 8 hN (by decide) hcp ha hK hp rfl rfl (by decide) ?_
  clear ha; intro ha
  refine rrnum_k 0 1 (s := (r13 p N s)) p 8 hN (by decide) hcp ha hK hp rfl rfl (by decide) ?_
  clear ha; intro ha
  refine rrnum_k 0 1 (s := (r14 p N s)) p 8 hN (by decide) hcp ha hK hp rfl rfl (by decide) ?_
  clear ha; intro ha
  refine rrnum_k 0 1 (s := (r15 p N s)) p 8 hN (by decide) hcp ha hK hp rfl rfl (by decide) ?_
  clear ha; intro ha
  refine loop_by (A := Nat) on (fun i => [(5, .s (.int .i64 (i : Int)))]) (fun i => [rrb 1 N cp (seqR N 1 (r16 p N s) i), .cells m [.ints .u8 K f] sp, .cells true zcpu 0, .cells true (.one (.int .u64 (numV p N 8 s).toNat) :: .ints .u64 32 (fun j => if j < 32 then ((numV p N 8 (seqR N 8 (r1 p N s) j)).toNat : Int) else 0) :: .one (.int .i64 (IntKind.i64.wrap ((numV p N 1 (r2 p N s)).toNat : Int))) :: .one (.bool (flagV p N (r3 p N s))) :: .one (.int .u64 (numV p N 8 (r4 p N s)).toNat) :: .one (.int .u64 (numV p N 8 (r5 p N s)).toNat) :: .one (.int .u64 (numV p N 8 (r6 p N s)).toNat) :: .one (.int .u64 (numV p N 8 (r7 p N s)).toNat) :: .one (.int .u64 (numV p N 8 (r8 p N s)).toNat) :: .one (.int .u64 (numV p N 8 (r9 p N s)).toNat) :: .one (.int .u64 (numV p N 8 (r10 p N s)).toNat) :: .one (.int .u64 (numV p N 8 (r11 p N s)).toNat) :: .one (.int .u64 (numV p N 8 (r12 p N s)).toNat) :: .one (.int .u64 (numV p N 8 (r13 p N s)).toNat) :: .one (.int .u64 (numV p N 8 (r14 p N s)).toNat) :: .one (.int .u64 (numV p N 8 (r15 p N s)).toNat) :: .ints .u8 16 (fun j => if j < i then (((numV p N 1 (seqR N 1 (r16 p N s) j)).setWidth 8).toNat : Int) else 0) :: .ints .u64 16 (fun _ => 0) :: .one (.bool false) :: .one (.int .u64 0) :: .one (.int .i64 0) :: []) 0]) (fun i => i ≤ 16 ∧ (seqR N 1 (r16 p N s) i).at_ ≤ N) (fun i => 16 - i) 0 ⟨Nat.zero_le _, ha⟩ ?_ ?_
  · refine ⟨?_, ?_⟩
    · repeat' (first | exact eqvT_nil | refine eqvT_junk ?_ | refine eqvT_same ?_ | refine eqvT_int ?_ ?_)
    · exact eqvH_same (eqvH_same (eqvH_same (eqvH_same eqvH_nil)))
  clear ha
  rintro i ⟨hi, ha⟩
  refine ifB_intro (fun h1 => ?_) (fun h1 => ?_)
  · have hlt : i < 16 := by have h2 := of_decide_eq_true h1; omega
    refine rrnum_k 0 1 (s := (seqR N 1 (r16 p N s) i)) p 1 hN (by decide) hcp ha hK hp rfl rfl (by decide) ?_
    clear ha; intro ha
    refine need_intro ⟨by omega, by omega⟩ ?_
    refine need_intro (by omega) ?_
    refine ⟨i + 1, ⟨?_, ha⟩, ?_, ?_, ?_⟩
    · show i + 1 ≤ 16; omega
    · show 16 - (i + 1) < 16 - i; omega
    · repeat' (first | exact eqvT_nil | refine eqvT_junk ?_ | refine eqvT_same ?_ | refine eqvT_int ?_ ?_)
      all_goals (rw [i64_in (by omega) (by omega)]; rfl)
    · refine eqvH_same (eqvH_same (eqvH_same (eqvH_cells ?_ eqvH_nil)))
      repeat' (first | exact eqvS_nil | refine eqvS_same ?_ | refine eqvS_ints ?_ ?_)
      exact loopg (low8 _)
  have hlt : i = 16 := by have h2 := of_decide_eq_false h1; omega
  subst hlt
  refine loop_by (A := Nat) on (fun i => [(6, .s (.int .i64 (i : Int)))]) (fun i => [rrb 1 N cp (seqR N 8 (r17 p N s) i), .cells m [.ints .u8 K f] sp, .cells true zcpu 0, .cells true (.one (.int .u64 (numV p N 8 s).toNat) :: .ints .u64 32 (fun j => if j < 32 then ((numV p N 8 (seqR N 8 (r1 p N s) j)).toNat : Int) else 0) :: .one (.int .i64 (IntKind.i64.wrap ((numV p N 1 (r2 p N s)).toNat : Int))) :: .one (.bool (flagV p N (r3 p N s))) :: .one (.int .u64 (numV p N 8 (r4 p N s)).toNat) :: .one (.int .u64 (numV p N 8 (r5 p N s)).toNat) :: .one (.int .u64 (numV p N 8 (r6 p N s)).toNat) :: .one (.int .u64 (numV p N 8 (r7 p N s)).toNat) :: .one (.int .u64 (numV p N 8 (r8 p N s)).toNat) :: .one (.int .u64 (numV p N 8 (r9 p N s)).toNat) :: .one (.int .u64 (numV p N 8 (r10 p N s)).toNat) :: .one (.int .u64 (numV p N 8 (r11 p N s)).toNat) :: .one (.int .u64 (numV p N 8 (r12 p N s)).toNat) :: .one (.int .u64 (numV p N 8 (r13 p N s)).toNat) :: .one (.int .u64 (numV p N 8 (r14 p N s)).toNat) :: .one (.int .u64 (numV p N 8 (r15 p N s)).toNat) :: .ints .u8 16 (fun j => if j < 16 then (((numV p N 1 (seqR N 1 (r16 p N s) j)).setWidth 8).toNat : Int) else 0) :: .ints .u64 16 (fun j => if j < i then ((numV p N 8 (seqR N 8 (r17 p N s) j)).toNat : Int) else 0) :: .one (.bool false) :: .one (.int .u64 0) :: .one (.int .i64 0) :: []) 0]) (fun i => i ≤ 16 ∧ (seqR N 8 (r17 p N s) i).at_ ≤ N) (fun i => 16 - i) 0 ⟨Nat.zero_le _, ha⟩ ?_ ?_
  · refine ⟨?_, ?_⟩
    · repeat' (first | exact eqvT_nil | refine eqvT_junk ?_ | refine eqvT_same ?_ | refine eqvT_int ?_ ?_)
    · exact eqvH_same (eqvH_same (eqvH_same (eqvH_same eqvH_nil)))
  clear ha
  rintro i ⟨hi, ha⟩
  refine ifB_intro (fun h1 => ?_) (fun h1 => ?_)
  · have hlt : i < 16 := by have h2 := of_decide_eq_true h1; omega
    refine rrnum_k 0 1 (s := (seqR N 8 (r17 p N s) i)) p 8 hN (by decide) hcp ha hK hp rfl rfl (by decide) ?_
    clear ha; intro ha
    refine need_intro ⟨by omega, by omega⟩ ?_
    refine need_intro (by omega) ?_
    refine ⟨i + 1, ⟨?_, ha⟩, ?_, ?_, ?_⟩
    · show i + 1 ≤ 16; omega
    · show 16 - (i + 1) < 16 - i; omega
    · repeat' (first | exact eqvT_nil | refine eqvT_junk ?_ | refine eqvT_same ?_ | refine eqvT_int ?_ ?_)
      all_goals (rw [i64_in (by omega) (by omega)]; rfl)
    · refine eqvH_same (eqvH_same (eqvH_same (eqvH_cells ?_ eqvH_nil)))
      repeat' (first | exact eqvS_nil | refine eqvS_same ?_ | refine eqvS_ints ?_ ?_)
      exact loopf (g := fun j => ((numV p N 8 (seqR N 8 (r17 p N s) j)).toNat : Int))
  have hlt : i = 16 := by have h2 := of_decide_eq_false h1; omega
  subst hlt
  refine rrflag_k 0 1 (s := (r18 p N s)) p hN hcp ha hK hp rfl rfl (by decide) ?_
  clear ha; intro ha
  refine rrnum_k 0 1 (s := (r19 p N s)) p 8 hN (by decide) hcp ha hK hp rfl rfl (by decide) ?_
  clear ha; intro ha
  refine rrnum_k 0 1 (s := (r20 p N s)) p 1 hN (by decide) hcp ha hK hp rfl rfl (by decide) ?_
  clear ha; intro ha
  refine need_intro rfl ?_
  refine ⟨.agg (cpuR p N s).segs, _, [0, 1], ⟨ha, rfl, rfl⟩, by decide, ⟨rfl, rfl, trivial⟩, ?_, ⟨_, rfl, eqvB_refl _⟩, ⟨_, rfl, eqvB_refl _⟩, trivial⟩
  show eqvS _ _
  repeat' (first | exact eqvS_nil | refine eqvS_same ?_ | refine eqvS_int ?_ ?_ | refine eqvS_ints ?_ ?_)
  all_goals (first | (rw [wrap_i64, ofInt_toNat]; rfl) | (intro j hj; show (if j < _ then _ else _) = _; rw [if_pos hj]; rfl))
set_option maxRecDepth 100000 in
set_option maxHeartbeats 8000000 in
theorem rrdev_spec (ha : (r21 p N s).at_ ≤ N) : Does TB 56 [.s (.ptr 0 0)] [rrb 1 N cp (r21 p N s), .cells m [.ints .u8 K f] sp]
      (fun v h' => (bothR p N s).at_ ≤ N ∧ ((listOk p N 2 4096 (r34 p N s) = true ∧ ∃ c1 c2, v = .agg ((busR 0 p N s).segs .nilslice (.gs 2 0 (busR 0 p N s).ni c1) (.gs 3 0 (busR 0 p N s).no c2)) ∧
          h' = [rrb 1 N cp (bothR p N s), .cells m [.ints .u8 K f] sp, bblk true (busR 0 p N s).ni (inR p N s) (c1 - (busR 0 p N s).ni), bblk true (busR 0 p N s).no (outR p N s) (c2 - (busR 0 p N s).no)]) ∨
        (listOk p N 2 4096 (r34 p N s) = false ∧ v = .agg ((busR 0 p N s).segs .nilslice .junk .junk) ∧ h' = [rrb 1 N cp (bothR p N s), .cells m [.ints .u8 K f] sp]))) := by
  refine fnX_does TB Try.func56 rfl (by decide) (fun O on hO => ?_)
  refine rrnum_k 0 1 (s := (r21 p N s)) p 4 hN (by decide) hcp ha hK hp rfl rfl (by decide) ?_
  clear ha; intro ha
  refine rrnum_k 0 1 (s := (r22 p N s)) p 8 hN (by decide) hcp ha hK hp rfl rfl (by decide) ?_
  clear ha; intro ha
  refine rrnum_k 0 1 (s := (r23 p N s)) p 8 hN (by decide) hcp ha hK hp rfl rfl (by decide) ?_
  clear ha; intro ha
  refine rrflag_k 0 1 (s := (r24 p N s)) p hN hcp ha hK hp rfl rfl (by decide) ?_
  clear ha; intro ha
  refine rrflag_k 0 1 (s := (r25 p N s)) p hN hcp ha hK hp rfl rfl (by decide) ?_
  clear ha; intro ha
  refine rrnum_k 0 1 (s := (r26 p N s)) p 1 hN (by decide) hcp ha hK hp rfl rfl (by decide) ?_
  clear ha; intro ha
  refine rrnum_k 0 1 (s := (r27 p N s)) p 1 hN (by decide) hcp ha hK hp rfl rfl (by decide) ?_
  clear ha; intro ha
  refine rrnum_k 0 1 (s := (r28 p N s)) p 1 hN (by decide) hcp ha hK hp rfl rfl (by decide) ?_
  clear ha; intro ha
  refine rrnum_k 0 1 (s := (r29 p N s)) p 1 hN (by decide) hcp ha hK hp rfl rfl (by decide) ?_
  clear ha; intro ha
  refine rrflag_k 0 1 (s := (r30 p N s)) p hN hcp ha hK hp rfl rfl (by decide) ?_
  clear ha; intro ha
  refine rrnum_k 0 1 (s := (r31 p N s)) p 1 hN (by decide) hcp ha hK hp rfl rfl (by decide) ?_
  clear ha; intro ha
  refine rrnum_k 0 1 (s := (r32 p N s)) p 4 hN (by decide) hcp ha hK hp rfl rfl (by decide) ?_
  clear ha; intro ha
  have eW : ∀ v : B64, IntKind.u32.wrap (v.toNat : Int) = ((v.setWidth 32).toNat : Int) := fun v => by rw [wrap_u32, BitVec.toNat_setWidth, BitVec.toNat_ofInt]; omega
  have eP : ∀ v : B64, IntKind.i64.wrap (v.toNat : Int) = v.toInt := fun v => by rw [wrap_i64, ofInt_toNat]
  refine Does.at (rrlist_spec m N K sp cp f p (r33 p N s) hN hcp hK hp 1 64 (by decide) (by decide) ha) [0, 1] rfl ⟨rfl, rfl, trivial⟩ (by decide) ?_ ?_
  · rintro v h' ⟨_, ⟨_, _, _, rfl⟩ | ⟨_, _, rfl⟩⟩
    · exact ⟨.inl rfl, .inr (.inr rfl), .inl rfl, trivial⟩
    · exact ⟨.inl rfl, .inr (.inr rfl), trivial⟩
  clear ha; rintro v h' ⟨ha, ⟨ho1, c1, rfl, rfl⟩ | ⟨ho1, rfl, rfl⟩⟩
  · skip
    refine Does.at (rrlist_spec m N K sp cp f p (r34 p N s) hN hcp hK hp 2 4096 (by decide) (by decide) ha) [0, 1] rfl ⟨rfl, rfl, trivial⟩ (by decide) ?_ ?_
    · rintro v h' ⟨_, ⟨_, _, _, rfl⟩ | ⟨_, _, rfl⟩⟩
      · exact ⟨.inl rfl, .inr (.inr rfl), .inl rfl, trivial⟩
      · exact ⟨.inl rfl, .inr (.inr rfl), trivial⟩
    clear ha; rintro v h' ⟨ha, ⟨ho2, c2, rfl, rfl⟩ | ⟨ho2, rfl, rfl⟩⟩
    · skip
      refine need_intro rfl ?_
      refine ⟨_, _, [0, 1, 4, 5], ⟨ha, .inl ⟨ho2, c1, c2, rfl, rfl⟩⟩, by decide, ⟨rfl, rfl, trivial⟩, ?_, ⟨_, rfl, eqvB_refl _⟩, ⟨_, rfl, eqvB_refl _⟩, ⟨_, rfl, eqvB_refl _⟩, ⟨_, rfl, eqvB_refl _⟩, trivial⟩
      show eqvS _ _
      repeat' (first | exact eqvS_nil | refine eqvS_same ?_ | refine eqvS_int ?_ ?_)
      all_goals (first | exact eW _ | exact low8 _ | exact eP _)
    · skip
      refine need_intro rfl ?_
      refine ⟨_, _, [0, 1], ⟨ha, .inr ⟨ho2, rfl, rfl⟩⟩, by decide, ⟨rfl, rfl, trivial⟩, ?_, ⟨_, rfl, eqvB_refl _⟩, ⟨_, rfl, eqvB_refl _⟩, trivial⟩
      show eqvS _ _
      repeat' (first | exact eqvS_nil | refine eqvS_junk ?_ | refine eqvS_same ?_ | refine eqvS_int ?_ ?_)
      all_goals (first | exact eW _ | exact low8 _ | exact eP _)
  · skip
    have hb34 : (r34 p N s).bad = true := by show (listR p N 1 64 (r33 p N s)).bad = true; rw [listR_bad, ho1]; rfl
    refine Does.at (rrlist_spec m N K sp cp f p (r34 p N s) hN hcp hK hp 2 4096 (by decide) (by decide) ha) [0, 1] rfl ⟨rfl, rfl, trivial⟩ (by decide) ?_ ?_
    · rintro v h' ⟨_, ⟨_, _, _, rfl⟩ | ⟨_, _, rfl⟩⟩
      · exact ⟨.inl rfl, .inr (.inr rfl), .inl rfl, trivial⟩
      · exact ⟨.inl rfl, .inr (.inr rfl), trivial⟩
    clear ha; rintro v h' ⟨ha, ⟨ho2, c2, rfl, rfl⟩ | ⟨ho2, rfl, rfl⟩⟩
    · rw [listOk_pre ho2] at hb34; cases hb34
    · skip
      refine need_intro rfl ?_
      refine ⟨_, _, [0, 1], ⟨ha, .inr ⟨ho2, rfl, rfl⟩⟩, by decide, ⟨rfl, rfl, trivial⟩, ?_, ⟨_, rfl, eqvB_refl _⟩, ⟨_, rfl, eqvB_refl _⟩, trivial⟩
      show eqvS _ _
      repeat' (first | exact eqvS_nil | refine eqvS_junk ?_ | refine eqvS_same ?_ | refine eqvS_int ?_ ?_)
      all_goals (first | exact eW _ | exact low8 _ | exact eP _)
end main
end Go.Proofs.Ytghcdkpgcanpgaa

/- The ram's pages read: plain specification; the program's pages. No condition. -/
namespace Go.Anv
open Go
def putM (mem : Nat → B8) (o len : Nat) (p : Nat → B8) (a : Nat) (j : Nat) : B8 := if o ≤ j ∧ j < o + len then p (a + (j - o)) else mem j
/-- The pages, one behind the other: at most so many rounds. -/
def ramGo (p : Nat → B8) (N n : Nat) : Nat → Nat → Rs → (Nat → B8) → Option (Rs × (Nat → B8))
  | 0, _, _, _ => none
  | F + 1, least, s, mem =>
    if (takeR N 2 s).bad = true then none
    else if (numV p N 2 s).toNat = 65535 then some (takeR N 2 s, mem)
    else if (numV p N 2 s).toNat < least ∨ n ≤ 256 * (numV p N 2 s).toNat then none
    else if N - (takeR N 2 s).at_ < min (256 * (numV p N 2 s).toNat + 256) n - 256 * (numV p N 2 s).toNat then none
    else if Go.Proofs.Ytghcdkpgcanpgaa.blankN (fun t => p ((takeR N 2 s).at_ + t)) (min (256 * (numV p N 2 s).toNat + 256) n - 256 * (numV p N 2 s).toNat) = true then none
    else ramGo p N n F ((numV p N 2 s).toNat + 1) ⟨(takeR N 2 s).at_ + (min (256 * (numV p N 2 s).toNat + 256) n - 256 * (numV p N 2 s).toNat), false⟩
      (putM mem (256 * (numV p N 2 s).toNat) (min (256 * (numV p N 2 s).toNat + 256) n - 256 * (numV p N 2 s).toNat) p (takeR N 2 s).at_)
def ramN (p : Nat → B8) (N : Nat) (s : Rs) : Nat := (numV p N 4 s).toNat
def ramOk (p : Nat → B8) (N : Nat) (s : Rs) : Bool := !(takeR N 4 s).bad && (decide (8 ≤ ramN p N s) && decide (ramN p N s ≤ 65536) && decide (ramN p N s % 8 = 0))
def ramR (p : Nat → B8) (N : Nat) (s : Rs) : Option (Rs × (Nat → B8)) := if ramOk p N s = true then ramGo p N (ramN p N s) 257 0 (takeR N 4 s) (fun _ => 0#8) else none
theorem num_small (p : Nat → B8) (N k : Nat) (s : Rs) (hk : k ≤ 4) : (numV p N k s).toNat < 2 ^ (8 * k) := by
  unfold numV
  split
  · show (0 : Nat) < _; exact Nat.pow_pos (by decide)
  · exact hi_lt p s.at_ k k (by omega)
theorem ramcond (n : Nat) : (bif (bif decide ((n : Int) < 8) then true else decide ((n : Int) > 65536)) then true else ((n : Int)).tmod 8 != 0) = !(decide (8 ≤ n) && decide (n ≤ 65536) && decide (n % 8 = 0)) := by
  have e : ((n : Int)).tmod 8 = ((n % 8 : Nat) : Int) := by rw [Int.tmod_eq_emod_of_nonneg (by omega)]; omega
  rw [e]
  by_cases a : 8 ≤ n
  · by_cases b : n ≤ 65536
    · rw [decide_eq_false (by omega), decide_eq_false (by omega), decide_eq_true a, decide_eq_true b]
      by_cases c : n % 8 = 0
      · rw [c]; rfl
      · rw [decide_eq_false c]
        have : (((n % 8 : Nat) : Int) != 0) = true := by rw [bne_iff_ne]; omega
        rw [this]; rfl
    · rw [decide_eq_false (p := (n : Int) < 8) (by omega), decide_eq_true (p := (n : Int) > 65536) (by omega), decide_eq_false b, decide_eq_true a]; rfl
  · rw [decide_eq_true (p := (n : Int) < 8) (by omega), decide_eq_false a]; rfl
theorem ramOk_eq (p : Nat → B8) (N : Nat) (s : Rs) : ramOk p N s = (!(takeR N 4 s).bad && (decide (8 ≤ ramN p N s) && decide (ramN p N s ≤ 65536) && decide (ramN p N s % 8 = 0))) := rfl
theorem ramGo_bad {p : Nat → B8} {N n F least : Nat} {s : Rs} {mem : Nat → B8} (h : (takeR N 2 s).bad = true) : ramGo p N n (F + 1) least s mem = none := by unfold ramGo; rw [if_pos h]
end Go.Anv
namespace Go.Proofs.Ytghcdkpgcanpgaa
open Go Go.Anv
set_option maxRecDepth 100000 in
set_option maxHeartbeats 2000000 in
theorem rpagesR_spec (m : Bool) (base N K sp : Nat) (f : Nat → Int) (p : Nat → B8) (s : Rs) (hN : N ≤ 2 ^ 40) (hK : base + N ≤ K) (hp : ∀ j, j < N → f (base + j) = (p j).toNat) (o : Nat) (ho : RdAt base N s o) :
    Does TB 54 [.s (.ptr 0 0)] [rdb 1 N s o, .cells m [.ints .u8 K f] sp]
      (fun v h' => (∃ s' mem o', ramR p N s = some (s', mem) ∧ s'.bad = false ∧ RdAt base N s' o' ∧ v = .s (.gs 2 0 (ramN p N s) (ramN p N s)) ∧ h' = [rdb 1 N s' o', .cells m [.ints .u8 K f] sp, bblk true (ramN p N s) mem 0]) ∨
        (ramR p N s = none ∧ ∃ s' o', s'.bad = true ∧ v = .s .nilslice ∧ h' = [rdb 1 N s' o', .cells m [.ints .u8 K f] sp])) := by
  refine fnX_does TB Try.func54 rfl (by decide) (fun O on hO => ?_)
  refine rnum_k 0 1 p 4 hN (by decide) ho hK hp rfl rfl (by decide) ?_
  intro o1 ho1
  have hv := num_small p N 4 s (by decide)
  have hi64 : IntKind.i64.wrap ((numV p N 4 s).toNat : Int) = ((ramN p N s : Nat) : Int) := i64_in (by omega) (by omega)
  repeat (refine need_intro (by first | exact fun h => h | exact fun _ => rfl | rfl | (simp; done) | fail) ?_)
  refine ifB_intro (fun h1 => ?_) (fun h1 => ?_)
  · replace h1 : (bif (bif decide (IntKind.i64.wrap ((numV p N 4 s).toNat : Int) < 8) then true else decide (IntKind.i64.wrap ((numV p N 4 s).toNat : Int) > 65536)) then true else (IntKind.i64.wrap ((numV p N 4 s).toNat : Int)).tmod 8 != 0) = true := h1
    rw [hi64, ramcond] at h1
    have hno : ramR p N s = none := by
      unfold ramR
      rw [if_neg]
      rw [ramOk_eq]
      intro h2
      rw [Bool.and_eq_true] at h2
      rw [h2.2] at h1
      cases h1
    exact ⟨.s .nilslice, _, [0, 1], .inr ⟨hno, ⟨(takeR N 4 s).at_, true⟩, o1, rfl, rfl, rfl⟩, by decide, ⟨rfl, rfl, trivial⟩, rfl, ⟨_, rfl, eqvB_refl _⟩, ⟨_, rfl, eqvB_refl _⟩, trivial⟩
  · replace h1 : (bif (bif decide (IntKind.i64.wrap ((numV p N 4 s).toNat : Int) < 8) then true else decide (IntKind.i64.wrap ((numV p N 4 s).toNat : Int) > 65536)) then true else (IntKind.i64.wrap ((numV p N 4 s).toNat : Int)).tmod 8 != 0) = false := h1
    rw [hi64, ramcond] at h1
    have h1' : (decide (8 ≤ ramN p N s) && decide (ramN p N s ≤ 65536) && decide (ramN p N s % 8 = 0)) = true := by
      cases h : (decide (8 ≤ ramN p N s) && decide (ramN p N s ≤ 65536) && decide (ramN p N s % 8 = 0))
      · rw [h] at h1; cases h1
      · rfl
    have hn : 8 ≤ ramN p N s ∧ ramN p N s ≤ 65536 := by
      simp only [Bool.and_eq_true, decide_eq_true_eq] at h1'
      exact h1'.1
    refine ifB_intro (fun hb => ?_) (fun hb => ?_)
    · have hno : ramR p N s = none := by
        unfold ramR
        rw [if_neg]
        rw [ramOk_eq]
        intro h2
        rw [Bool.and_eq_true] at h2
        replace hb : (takeR N 4 s).bad = true := hb
        rw [hb] at h2
        cases h2.1
      exact ⟨.s .nilslice, _, [0, 1], .inr ⟨hno, takeR N 4 s, o1, hb, rfl, rfl⟩, by decide, ⟨rfl, rfl, trivial⟩, rfl, ⟨_, rfl, eqvB_refl _⟩, ⟨_, rfl, eqvB_refl _⟩, trivial⟩
    · replace hb : (takeR N 4 s).bad = false := hb
      have hR : ramR p N s = ramGo p N (ramN p N s) 257 0 (takeR N 4 s) (fun _ => 0#8) := by
        unfold ramR
        rw [if_pos]
        rw [ramOk_eq, hb, h1']; rfl
      rw [hR]
      generalize hz : ramN p N s = n at *
      refine need_intro ⟨by rw [hi64]; omega, by omega, by rw [hi64]; omega, by rw [hi64]; show ((1 : Nat) : Int) * _ ≤ _; omega⟩ ?_
      have hs1 : takeR N 4 s = ⟨(takeR N 4 s).at_, false⟩ := by rw [← hb]
      generalize hR2 : ramGo p N n 257 0 (takeR N 4 s) (fun _ => 0#8) = R
      rw [hs1] at hR2 ho1
      refine loop_by (A := Nat × Nat × Nat × (Nat → B8)) on (fun x => [(3, .s (.int .i64 (n : Int))), (5, .s (.int .i64 (x.1 : Int))), (4, .s (.gs 2 0 n n)), (31, .junk)]) (fun x => [rdb 1 N ⟨x.2.1, false⟩ x.2.2.1, .cells m [.ints .u8 K f] sp, bblk true n x.2.2.2 0])
        (fun x => x.1 ≤ 256 ∧ RdAt base N ⟨x.2.1, false⟩ x.2.2.1 ∧ ∃ F, 257 - x.1 ≤ F ∧ ramGo p N n F x.1 ⟨x.2.1, false⟩ x.2.2.2 = R) (fun x => 257 - x.1) (0, (takeR N 4 s).at_, o1, fun _ => 0#8) ⟨Nat.zero_le _, ho1, 257, Nat.le_refl _, hR2⟩ ?_ ?_
      · refine ⟨?_, ?_, eqvB_refl _, ?_, trivial⟩
        · repeat' (first | exact eqvT_nil | refine eqvT_junk ?_ | refine eqvT_same ?_ | refine eqvT_int ?_ ?_ | refine eqvT_sgs ⟨rfl, rfl, ?_, ?_⟩ ?_)
          · exact hi64
          · rw [hi64]; rfl
          · rw [hi64]; rfl
        · show eqvB (rdb 1 N (takeR N 4 s) o1) (rdb 1 N ⟨(takeR N 4 s).at_, false⟩ o1)
          rw [← hs1]; exact eqvB_refl _
        · refine ⟨rfl, ?_, ⟨⟨rfl, ?_, fun _ _ => rfl⟩, trivial⟩⟩
          · rw [hi64]; show (n : Int).toNat - (n : Int).toNat = 0; omega
          · rw [hi64]; rfl
      · rintro ⟨least, a, o, mem⟩ ⟨hl, ho2, F0, hF0, hG⟩
        replace hl : least ≤ 256 := hl
        replace ho2 : RdAt base N ⟨a, false⟩ o := ho2
        replace hF0 : 257 - least ≤ F0 := hF0
        obtain ⟨F, rfl⟩ : ∃ F, F0 = F + 1 := ⟨F0 - 1, by omega⟩
        replace hG : ramGo p N n (F + 1) least ⟨a, false⟩ mem = R := hG
        refine rnum_k 0 1 (s := ⟨a, false⟩) p 2 hN (by decide) ho2 hK hp rfl rfl (by decide) ?_
        intro o3 ho3
        have hv2 := num_small p N 2 ⟨a, false⟩ (by decide)
        have hk64 : IntKind.i64.wrap ((numV p N 2 ⟨a, false⟩).toNat : Int) = (((numV p N 2 ⟨a, false⟩).toNat : Nat) : Int) := i64_in (by omega) (by omega)
        unfold ramGo at hG
        generalize hz2 : (numV p N 2 ⟨a, false⟩).toNat = z at *
        generalize hs2 : takeR N 2 ⟨a, false⟩ = s2 at *
        repeat (refine need_intro (by first | exact fun h => h | exact fun _ => rfl | rfl | (simp; done) | fail) ?_)
        have hw256 : IntKind.i64.wrap (IntKind.i64.wrap (z : Int) * 256) = ((256 * z : Nat) : Int) := by rw [hk64, i64_in (by omega) (by omega)]; omega
        refine ifB_intro (fun h2 => ?_) (fun h2 => ?_)
        · replace h2 : (bif IntKind.i64.wrap (z : Int) == 65535 then !s2.bad else false) = true := h2
          rw [hk64] at h2
          have hb2 : s2.bad = false := by cases h : s2.bad; rfl; rw [h] at h2; simp at h2
          have hz3 : z = 65535 := by
            by_cases h : z = 65535
            · exact h
            · have : (((z : Nat) : Int) == 65535) = false := by rw [beq_eq_false_iff_ne]; omega
              rw [this] at h2; cases h2
          rw [if_neg (by rw [hb2]; decide), if_pos hz3] at hG
          exact ⟨.s (.gs 2 0 n n), _, [0, 1, 2], .inl ⟨s2, mem, o3, hG.symm, hb2, ho3, rfl, rfl⟩, by decide, ⟨rfl, rfl, trivial⟩, ⟨rfl, rfl, rfl, rfl⟩, ⟨_, rfl, eqvB_refl _⟩, ⟨_, rfl, eqvB_refl _⟩, ⟨_, rfl, eqvB_refl _⟩, trivial⟩
        · replace h2 : (bif IntKind.i64.wrap (z : Int) == 65535 then !s2.bad else false) = false := h2
          rw [hk64] at h2
          repeat (refine need_intro (by first | exact fun h => h | exact fun _ => rfl | rfl | (simp; done) | fail) ?_)
          refine ifB_intro (fun h3 => ?_) (fun h3 => ?_)
          · replace h3 : (bif (bif s2.bad then true else decide (IntKind.i64.wrap (z : Int) < (least : Int))) then true else decide (IntKind.i64.wrap (IntKind.i64.wrap (z : Int) * 256) ≥ (n : Int))) = true := h3
            rw [hw256, hk64] at h3
            have hno : R = none := by
              rw [← hG]
              cases hb2 : s2.bad
              · rw [hb2] at h2 h3
                have hz3 : z ≠ 65535 := by rintro rfl; simp at h2
                rw [if_neg (by decide), if_neg hz3, if_pos]
                by_cases h4 : z < least
                · exact .inl h4
                · rw [decide_eq_false (p := ((z : Nat) : Int) < (least : Int)) (by omega)] at h3
                  have h5 := of_decide_eq_true h3
                  exact .inr (by omega)
              · exact if_pos rfl
            exact ⟨.s .nilslice, _, [0, 1], .inr ⟨hno, ⟨s2.at_, true⟩, o3, rfl, rfl, rfl⟩, by decide, ⟨rfl, rfl, trivial⟩, rfl, ⟨_, rfl, eqvB_refl _⟩, ⟨_, rfl, eqvB_refl _⟩, trivial⟩
          · replace h3 : (bif (bif s2.bad then true else decide (IntKind.i64.wrap (z : Int) < (least : Int))) then true else decide (IntKind.i64.wrap (IntKind.i64.wrap (z : Int) * 256) ≥ (n : Int))) = false := h3
            rw [hw256, hk64] at h3
            have hb2 : s2.bad = false := by cases h : s2.bad; rfl; rw [h] at h3; simp at h3
            rw [hb2] at h2 h3
            have hz3 : z ≠ 65535 := by rintro rfl; simp at h2
            have h4 : least ≤ z ∧ 256 * z < n := by
              by_cases h4 : z < least
              · rw [decide_eq_true (p := ((z : Nat) : Int) < (least : Int)) (by omega)] at h3; cases h3
              · rw [decide_eq_false (p := ((z : Nat) : Int) < (least : Int)) (by omega)] at h3
                have h5 := of_decide_eq_false h3
                omega
            rw [if_neg (by rw [hb2]; decide), if_neg hz3, if_neg (by omega)] at hG
            refine args_eq (b := [.s (.gs 2 0 n n), .s (.int .i64 ((256 * z : Nat) : Int))]) (by rw [← hw256]) ?_
            refine Does.at (cut_spec true n n n 0 (256 * z) (bfun mem) (by omega) (by omega) (by omega)) [2] rfl ⟨rfl, trivial⟩ (by decide) ?_ ?_
            · rintro v h' ⟨_, rfl⟩
              exact ⟨.inr (.inr rfl), trivial⟩
            rintro v h' ⟨rfl, rfl⟩
            have hsk : skip (min (256 * z + 256) n) (256 * z) 0 1 = 256 * z := by
              unfold skip
              rw [if_neg (by omega)]
              omega
            rw [hsk]
            generalize hlen : min (256 * z + 256) n - 256 * z = len at *
            have hs2' : s2 = ⟨s2.at_, false⟩ := by rw [← hb2]
            refine rtake_k 0 1 (s := s2) len rfl hN (by omega) ho3 rfl rfl (by decide) ?_ ?_
            · intro hf
              have hno : R = none := by
                rw [← hG]
                rcases hf with h | h
                · rw [hb2] at h; cases h
                · exact if_pos h
              repeat (refine need_intro (by first | exact fun h => h | exact fun _ => rfl | rfl | (simp; done) | fail) ?_)
              exact ⟨.s .nilslice, _, [0, 1], .inr ⟨hno, ⟨s2.at_, true⟩, o3, rfl, rfl, rfl⟩, by decide, ⟨rfl, rfl, trivial⟩, rfl, ⟨_, rfl, eqvB_refl _⟩, ⟨_, rfl, eqvB_refl _⟩, trivial⟩
            · intro hf o4 ho4
              have hfit : ¬ N - s2.at_ < len := fun h => hf (.inr h)
              rw [if_neg hfit] at hG
              repeat (refine need_intro (by first | exact fun h => h | exact fun _ => rfl | rfl | (simp; done) | fail) ?_)
              have ho5 : o3 = base + s2.at_ := ho3.2.1 (by omega)
              have hat : s2.at_ + len ≤ N := ho4.1
              refine Does.ungd (b := [_]) ⟨⟨rfl, rfl⟩, trivial⟩ ?_
              refine Does.at (blank_spec m K o3 len len sp f (fun t => p (s2.at_ + t)) (by omega) (by omega) (fun j hj => by rw [ho5, Nat.add_assoc, hp _ (by omega)])) [1] rfl ⟨rfl, trivial⟩ (by decide) ?_ ?_
              · rintro v h' ⟨_, rfl⟩
                exact ⟨.inr (.inr rfl), trivial⟩
              rintro v h' ⟨rfl, rfl⟩
              refine ifB_intro (fun h6 => ?_) (fun h6 => ?_)
              · replace h6 : blankN (fun t => p (s2.at_ + t)) len = true := h6
                rw [if_pos h6] at hG
                exact ⟨.s .nilslice, _, [0, 1], .inr ⟨hG.symm, ⟨s2.at_ + len, true⟩, o4, rfl, rfl, rfl⟩, by decide, ⟨rfl, rfl, trivial⟩, rfl, ⟨_, rfl, eqvB_refl _⟩, ⟨_, rfl, eqvB_refl _⟩, trivial⟩
              · replace h6 : blankN (fun t => p (s2.at_ + t)) len = false := h6
                rw [if_neg (by rw [h6]; decide)] at hG
                refine need_intro ⟨by show o3 + len ≤ K; omega, by show 256 * z + len ≤ n; omega⟩ ?_
                have hzw : IntKind.i64.wrap (IntKind.i64.wrap (z : Int) + 1) = ((z + 1 : Nat) : Int) := by rw [hk64, i64_in (by omega) (by omega)]; rfl
                refine ⟨(z + 1, s2.at_ + len, o4, putM mem (256 * z) len p s2.at_), ⟨?_, ho4, F, ?_, hG⟩, ?_, ?_, ?_⟩
                · show z + 1 ≤ 256; omega
                · show 257 - (z + 1) ≤ F; omega
                · show 257 - (z + 1) < 257 - least; omega
                · repeat' (first | exact eqvT_nil | refine eqvT_junk ?_ | refine eqvT_same ?_ | refine eqvT_int ?_ ?_)
                  exact hzw
                · refine eqvH_same (eqvH_same (eqvH_cells ⟨⟨rfl, rfl, fun j hj => ?_⟩, trivial⟩ eqvH_nil))
                  show putF (256 * z) (min len len) (shf o3 f) (bfun mem) j = bfun (putM mem (256 * z) len p s2.at_) j
                  rw [Nat.min_self]
                  unfold putF bfun putM
                  split
                  · show f (o3 + (j - 256 * z)) = _
                    rw [ho5, Nat.add_assoc, hp _ (by omega)]
                  · rfl
end Go.Proofs.Ytghcdkpgcanpgaa

/- The document's ram, read. Contract of a function. No condition. -/
namespace Go.Anv
open Go
theorem numV_bad {p : Nat → B8} {N k : Nat} {s : Rs} (h : (takeR N k s).bad = true) : numV p N k s = 0#64 := by
  unfold takeR at h
  unfold numV
  split at h
  · rename_i h1; exact if_pos h1
  · cases h
theorem takeR_at {N k : Nat} {s : Rs} (h : s.at_ ≤ N) : (takeR N k s).at_ ≤ N := by
  unfold takeR
  split
  · exact h
  · rename_i h1
    simp only [not_or, Nat.not_lt] at h1
    show s.at_ + k ≤ N
    omega
end Go.Anv
namespace Go.Proofs.Ytghcdkpgcanpgaa
open Go Go.Anv
theorem blank_zero : ∀ n, blankN (fun _ => 0#8) n = true
  | 0 => rfl
  | n + 1 => by simp [blankN, blank_zero n]
theorem rramcond (b : Bool) (n : Nat) : (bif (bif (bif b then true else decide ((n : Int) < 8)) then true else decide ((n : Int) > 65536)) then true else ((n : Int)).tmod 8 != 0) = !(!b && (decide (8 ≤ n) && decide (n ≤ 65536) && decide (n % 8 = 0))) := by
  cases b
  · exact ramcond n
  · rfl
set_option maxRecDepth 100000 in
set_option maxHeartbeats 2000000 in
theorem rramR_spec (m : Bool) (N K sp cp : Nat) (f : Nat → Int) (p : Nat → B8) (s : Rs) (hN : N ≤ 2 ^ 40) (hcp : N ≤ cp) (ha : s.at_ ≤ N) (hK : N ≤ K) (hp : ∀ j, j < N → f j = (p j).toNat) :
    Does TB 57 [.s (.ptr 0 0)] [rrb 1 N cp s, .cells m [.ints .u8 K f] sp]
      (fun v h' => (∃ s' mem, ramR p N s = some (s', mem) ∧ s'.bad = false ∧ s'.at_ ≤ N ∧ v = .s (.gs 2 0 (ramN p N s) (ramN p N s)) ∧ h' = [rrb 1 N cp s', .cells m [.ints .u8 K f] sp, bblk true (ramN p N s) mem 0]) ∨
        (ramR p N s = none ∧ ∃ s', s'.bad = true ∧ v = .s .junk ∧ h' = [rrb 1 N cp s', .cells m [.ints .u8 K f] sp])) := by
  refine fnX_does TB Try.func57 rfl (by decide) (fun O on hO => ?_)
  refine rrnum_k 0 1 p 4 hN (by decide) hcp ha hK hp rfl rfl (by decide) ?_
  intro ha1
  have hv := num_small p N 4 s (by decide)
  have hi64 : IntKind.i64.wrap ((numV p N 4 s).toNat : Int) = ((ramN p N s : Nat) : Int) := i64_in (by omega) (by omega)
  repeat (refine need_intro (by first | exact fun h => h | exact fun _ => rfl | rfl | (simp; done) | fail) ?_)
  refine ifB_intro (fun h1 => ?_) (fun h1 => ?_)
  · replace h1 : (bif (bif (bif (takeR N 4 s).bad then true else decide (IntKind.i64.wrap ((numV p N 4 s).toNat : Int) < 8)) then true else decide (IntKind.i64.wrap ((numV p N 4 s).toNat : Int) > 65536)) then true else (IntKind.i64.wrap ((numV p N 4 s).toNat : Int)).tmod 8 != 0) = true := h1
    rw [hi64, rramcond, ← ramOk_eq] at h1
    have hno : ramR p N s = none := by
      unfold ramR
      rw [if_neg]
      intro h2
      rw [h2] at h1
      cases h1
    exact ⟨.s .junk, _, [0, 1], .inr ⟨hno, ⟨(takeR N 4 s).at_, true⟩, rfl, rfl, rfl⟩, by decide, ⟨rfl, rfl, trivial⟩, trivial, ⟨_, rfl, eqvB_refl _⟩, ⟨_, rfl, eqvB_refl _⟩, trivial⟩
  · replace h1 : (bif (bif (bif (takeR N 4 s).bad then true else decide (IntKind.i64.wrap ((numV p N 4 s).toNat : Int) < 8)) then true else decide (IntKind.i64.wrap ((numV p N 4 s).toNat : Int) > 65536)) then true else (IntKind.i64.wrap ((numV p N 4 s).toNat : Int)).tmod 8 != 0) = false := h1
    rw [hi64, rramcond, ← ramOk_eq] at h1
    have h1' : ramOk p N s = true := by cases h : ramOk p N s; rw [h] at h1; cases h1; rfl
    have hR : ramR p N s = ramGo p N (ramN p N s) 257 0 (takeR N 4 s) (fun _ => 0#8) := if_pos h1'
    rw [ramOk_eq] at h1'
    simp only [Bool.and_eq_true, decide_eq_true_eq, Bool.not_eq_true'] at h1'
    obtain ⟨hb, ⟨hn8, hn⟩, _⟩ := h1'
    rw [hR]
    generalize hz : ramN p N s = n at *
    refine need_intro ⟨by rw [hi64]; omega, by omega, by rw [hi64]; omega, by rw [hi64]; show ((1 : Nat) : Int) * _ ≤ _; omega⟩ ?_
    generalize hR2 : ramGo p N n 257 0 (takeR N 4 s) (fun _ => 0#8) = R
    refine loop_in (A := Nat × Rs × (Nat → B8)) on (fun x => [(3, .s (.int .i64 (n : Int))), (5, .s (.int .i64 (x.1 : Int))), (4, .s (.gs 2 0 n n)), (34, .junk)]) (fun x => [rrb 1 N cp x.2.1, .cells m [.ints .u8 K f] sp, bblk true n x.2.2 0])
      (fun x => x.1 ≤ 256 ∧ x.2.1.at_ ≤ N ∧ (x.2.1.bad = true → R = none) ∧ (x.2.1.bad = false → ∃ F, 257 - x.1 ≤ F ∧ ramGo p N n F x.1 x.2.1 x.2.2 = R)) (fun x => 257 - x.1) (0, takeR N 4 s, fun _ => 0#8)
      ⟨Nat.zero_le _, ha1, (fun h => by rw [show (takeR N 4 s).bad = false from hb] at h; cases h), fun _ => ⟨257, Nat.le_refl _, hR2⟩⟩ [0, 1, 2] ?_ ?_
    · rw [hO]
      refine ⟨by decide, ⟨rfl, rfl, trivial⟩, ?_, ⟨_, rfl, eqvB_refl _⟩, ⟨_, rfl, eqvB_refl _⟩, ⟨_, rfl, ?_⟩, trivial⟩
      · repeat' (first | exact eqvT_nil | refine eqvT_junk ?_ | refine eqvT_same ?_ | refine eqvT_int ?_ ?_ | refine eqvT_sgs ⟨rfl, rfl, ?_, ?_⟩ ?_)
        · exact hi64
        · rw [hi64]; rfl
        · rw [hi64]; rfl
      · refine ⟨rfl, ?_, ⟨⟨rfl, ?_, fun _ _ => rfl⟩, trivial⟩⟩
        · rw [hi64]; show (n : Int).toNat - (n : Int).toNat = 0; omega
        · rw [hi64]; rfl
    · rintro ⟨least, s1, mem⟩ ⟨hl, ha2, hbad, hgood⟩
      replace hl : least ≤ 256 := hl
      replace ha2 : s1.at_ ≤ N := ha2
      replace hbad : s1.bad = true → R = none := hbad
      replace hgood : s1.bad = false → ∃ F, 257 - least ≤ F ∧ ramGo p N n F least s1 mem = R := hgood
      refine ifB_intro (fun h2 => ?_) (fun h2 => ?_)
      · replace h2 : (!s1.bad) = true := h2
        have hb1 : s1.bad = false := by cases h : s1.bad; rfl; rw [h] at h2; cases h2
        obtain ⟨F0, hF0, hG⟩ := hgood hb1
        obtain ⟨F, rfl⟩ : ∃ F, F0 = F + 1 := ⟨F0 - 1, by omega⟩
        refine rrnum_k 0 1 (s := s1) p 2 hN (by decide) hcp ha2 hK hp rfl rfl (by decide) ?_
        intro ha3
        have hv2 := num_small p N 2 s1 (by decide)
        have hk64 : IntKind.i64.wrap ((numV p N 2 s1).toNat : Int) = (((numV p N 2 s1).toNat : Nat) : Int) := i64_in (by omega) (by omega)
        have hz0 : (takeR N 2 s1).bad = true → (numV p N 2 s1).toNat = 0 := fun h => by rw [numV_bad h]; rfl
        unfold ramGo at hG
        generalize hz2 : (numV p N 2 s1).toNat = z at *
        generalize hs2 : takeR N 2 s1 = s2 at *
        refine ifB_intro (fun h3 => ?_) (fun h3 => ?_)
        · replace h3 : (IntKind.i64.wrap (z : Int) == 65535) = true := h3
          rw [hk64, beq_iff_eq] at h3
          have hz3 : z = 65535 := by omega
          have hb2 : s2.bad = false := by cases h : s2.bad; rfl; have := hz0 h; omega
          rw [if_neg (by rw [hb2]; decide), if_pos hz3] at hG
          exact ⟨.s (.gs 2 0 n n), _, [0, 1, 2], .inl ⟨s2, mem, hG.symm, hb2, ha3, rfl, rfl⟩, by decide, ⟨rfl, rfl, trivial⟩, ⟨rfl, rfl, rfl, rfl⟩, ⟨_, rfl, eqvB_refl _⟩, ⟨_, rfl, eqvB_refl _⟩, ⟨_, rfl, eqvB_refl _⟩, trivial⟩
        · replace h3 : (IntKind.i64.wrap (z : Int) == 65535) = false := h3
          rw [hk64, beq_eq_false_iff_ne] at h3
          have hz3 : z ≠ 65535 := by omega
          refine ifB_intro (fun h4 => ?_) (fun h4 => ?_)
          · replace h4 : (!decide (IntKind.i64.wrap (z : Int) < (least : Int))) = true := h4
            rw [hk64] at h4
            have h5 : least ≤ z := by
              by_cases h : z < least
              · rw [decide_eq_true (p := ((z : Nat) : Int) < (least : Int)) (by omega)] at h4; cases h4
              · omega
            refine Does.ungd (b := [.s (.int .i64 n)]) ⟨⟨by rw [hk64]; exact h4, rfl⟩, trivial⟩ ?_
            refine (rpages_spec n (by omega) _).mono ?_
            rintro v h' ⟨rfl, rfl⟩
            repeat (refine need_intro (by first | exact fun h => h | exact fun _ => rfl | rfl | (simp; done) | fail) ?_)
            refine ifB_intro (fun h6 => ?_) (fun h6 => ?_)
            · replace h6 : (bif decide (IntKind.i64.wrap (z : Int) < (least : Int)) then true else decide (IntKind.i64.wrap (z : Int) ≥ (((n + 255) / 256 : Nat) : Int))) = true := h6
              rw [hk64, decide_eq_false (p := ((z : Nat) : Int) < (least : Int)) (by omega)] at h6
              have h7 := of_decide_eq_true h6
              have hno : R = none := by
                rw [← hG]
                cases hb2 : s2.bad
                · rw [if_neg (by decide), if_neg hz3, if_pos (.inr (by omega))]
                · exact if_pos rfl
              exact ⟨.s .junk, _, [0, 1], .inr ⟨hno, ⟨s2.at_, true⟩, rfl, rfl, rfl⟩, by decide, ⟨rfl, rfl, trivial⟩, trivial, ⟨_, rfl, eqvB_refl _⟩, ⟨_, rfl, eqvB_refl _⟩, trivial⟩
            · replace h6 : (bif decide (IntKind.i64.wrap (z : Int) < (least : Int)) then true else decide (IntKind.i64.wrap (z : Int) ≥ (((n + 255) / 256 : Nat) : Int))) = false := h6
              rw [hk64, decide_eq_false (p := ((z : Nat) : Int) < (least : Int)) (by omega)] at h6
              have h7 := of_decide_eq_false h6
              have h8 : 256 * z < n := by omega
              refine args_eq (b := [.s (.gs 2 0 n n), .s (.int .i64 (z : Int))]) (by rw [hk64]) ?_
              refine Does.at (rpage_spec true n n n 0 z (bfun mem) (by omega) (by omega) (by omega)) [2] rfl ⟨rfl, trivial⟩ (by decide) ?_ ?_
              · rintro v h' ⟨_, rfl⟩
                exact ⟨.inr (.inr rfl), trivial⟩
              rintro v h' ⟨rfl, rfl⟩
              have hsk : skip n (256 * z) 0 1 = 256 * z := by
                unfold skip
                rw [if_neg (by omega)]
                omega
              rw [hsk]
              generalize hlen : min (256 * z + 256) n - 256 * z = len at *
              have hzw : IntKind.i64.wrap (IntKind.i64.wrap (z : Int) + 1) = ((z + 1 : Nat) : Int) := by rw [hk64, i64_in (by omega) (by omega)]; rfl
              have hmem : ∀ (g : Nat → Int) (q : Nat → B8) (b : Nat), (∀ j, j < len → g j = (q (b + j)).toNat) → ∀ j, putF (256 * z) len g (bfun mem) j = bfun (putM mem (256 * z) len q b) j := by
                intro g q b hg j
                unfold putF bfun putM
                split
                · exact hg _ (by omega)
                · rfl
              refine Does.at (rrtake_spec m N K sp cp f s2 len hN (by omega) hcp ha3) [0, 1] rfl ⟨rfl, rfl, trivial⟩ (by decide) ?_ ?_
              · rintro v h' (⟨_, _, rfl⟩ | ⟨_, _, rfl⟩)
                · exact ⟨.inl rfl, .inr (.inr rfl), .inl rfl, trivial⟩
                · exact ⟨.inl rfl, .inr (.inr rfl), trivial⟩
              rintro v h' (⟨hf, rfl, rfl⟩ | ⟨hf, ⟨o, c, ho, hoN, rfl⟩, rfl⟩)
              · have hno : R = none := by
                  rw [← hG]
                  cases hb2 : s2.bad
                  · rw [hb2] at hf
                    rw [if_neg (by decide), if_neg hz3, if_neg (by omega), if_pos (hf.resolve_left (by decide))]
                  · exact if_pos rfl
                refine need_intro ⟨by show 0 + len ≤ len; omega, by show 256 * z + len ≤ n; omega⟩ ?_
                refine Does.at (rblank_spec true len 0 len len 0 (bfun fun _ => 0#8) (fun _ => 0#8) (by omega) (by omega) (fun _ _ => rfl)) [3] rfl ⟨rfl, trivial⟩ (by decide) ?_ ?_
                · rintro v h' ⟨_, rfl⟩
                  exact ⟨.inr (.inr rfl), trivial⟩
                rintro v h' ⟨rfl, rfl⟩
                rw [blank_zero]
                refine ⟨(z + 1, ⟨s2.at_, true⟩, putM mem (256 * z) len (fun _ => 0#8) 0), ⟨?_, ha3, (fun _ => hno), (fun h => by cases h)⟩, ?_, [0, 1, 2], ?_⟩
                · show z + 1 ≤ 256; omega
                · show 257 - (z + 1) < 257 - least; omega
                · rw [hO]
                  refine ⟨by decide, ⟨rfl, rfl, trivial⟩, ?_, ⟨_, rfl, eqvB_refl _⟩, ⟨_, rfl, eqvB_refl _⟩, ⟨_, rfl, ⟨rfl, rfl, ⟨⟨rfl, rfl, fun j _ => ?_⟩, trivial⟩⟩⟩, trivial⟩
                  · repeat' (first | exact eqvT_nil | refine eqvT_junk ?_ | refine eqvT_same ?_ | refine eqvT_int ?_ ?_)
                    exact hzw
                  · show putF (256 * z) (min len len) (shf 0 (bfun fun _ => 0#8)) (bfun mem) j = _
                    rw [Nat.min_self]
                    exact hmem (shf 0 (bfun fun _ => 0#8)) (fun _ => 0#8) 0 (fun _ _ => rfl) j
              · have hb2 : s2.bad = false := by cases h : s2.bad; rfl; exact absurd (.inl h) hf
                have hfit : ¬ N - s2.at_ < len := fun h => hf (.inr h)
                have hlen0 : 0 < len := by omega
                have ho5 := ho hlen0
                subst ho5
                rw [if_neg (by rw [hb2]; decide), if_neg hz3, if_neg (by omega), if_neg hfit] at hG
                refine need_intro ⟨by show s2.at_ + len ≤ K; omega, by show 256 * z + len ≤ n; omega⟩ ?_
                refine Does.at (rblank_spec m K s2.at_ len c sp f (fun t => p (s2.at_ + t)) (by omega) (by omega) (fun j hj => hp _ (by omega))) [1] rfl ⟨rfl, trivial⟩ (by decide) ?_ ?_
                · rintro v h' ⟨_, rfl⟩
                  exact ⟨.inr (.inr rfl), trivial⟩
                rintro v h' ⟨rfl, rfl⟩
                have hgg : ∀ j, j < len → shf s2.at_ f j = (p (s2.at_ + j)).toNat := fun j hj => hp _ (by omega)
                have ending : ∀ b : Bool, (b = true → R = none) → (b = false → ∃ F, 257 - (z + 1) ≤ F ∧ ramGo p N n F (z + 1) ⟨s2.at_ + len, b⟩ (putM mem (256 * z) len p s2.at_) = R) → (fun x : Nat × Rs × (Nat → B8) => x.1 ≤ 256 ∧ x.2.1.at_ ≤ N ∧ (x.2.1.bad = true → R = none) ∧ (x.2.1.bad = false → ∃ F, 257 - x.1 ≤ F ∧ ramGo p N n F x.1 x.2.1 x.2.2 = R)) (z + 1, ⟨s2.at_ + len, b⟩, putM mem (256 * z) len p s2.at_) :=
                  fun b h1 h2 => ⟨by show z + 1 ≤ 256; omega, by show s2.at_ + len ≤ N; omega, h1, h2⟩
                refine ifB_intro (fun h9 => ?_) (fun h9 => ?_)
                · replace h9 : blankN (fun t => p (s2.at_ + t)) len = true := h9
                  rw [if_pos h9] at hG
                  refine ⟨(z + 1, ⟨s2.at_ + len, true⟩, putM mem (256 * z) len p s2.at_), ending true (fun _ => hG.symm) (fun h => by cases h), ?_, [0, 1, 2], ?_⟩
                  · show 257 - (z + 1) < 257 - least; omega
                  · rw [hO]
                    refine ⟨by decide, ⟨rfl, rfl, trivial⟩, ?_, ⟨_, rfl, eqvB_refl _⟩, ⟨_, rfl, eqvB_refl _⟩, ⟨_, rfl, ⟨rfl, rfl, ⟨⟨rfl, rfl, fun j _ => ?_⟩, trivial⟩⟩⟩, trivial⟩
                    · repeat' (first | exact eqvT_nil | refine eqvT_junk ?_ | refine eqvT_same ?_ | refine eqvT_int ?_ ?_)
                      exact hzw
                    · show putF (256 * z) (min len len) (shf s2.at_ f) (bfun mem) j = _
                      rw [Nat.min_self]
                      exact hmem _ _ _ hgg j
                · replace h9 : blankN (fun t => p (s2.at_ + t)) len = false := h9
                  rw [if_neg (by rw [h9]; decide)] at hG
                  refine ⟨(z + 1, ⟨s2.at_ + len, false⟩, putM mem (256 * z) len p s2.at_), ending false (fun h => by cases h) (fun _ => ⟨F, by omega, hG⟩), ?_, [0, 1, 2], ?_⟩
                  · show 257 - (z + 1) < 257 - least; omega
                  · rw [hO]
                    refine ⟨by decide, ⟨rfl, rfl, trivial⟩, ?_, ⟨_, rfl, eqvB_refl _⟩, ⟨_, rfl, eqvB_refl _⟩, ⟨_, rfl, ⟨rfl, rfl, ⟨⟨rfl, rfl, fun j _ => ?_⟩, trivial⟩⟩⟩, trivial⟩
                    · repeat' (first | exact eqvT_nil | refine eqvT_junk ?_ | refine eqvT_same ?_ | refine eqvT_int ?_ ?_)
                      exact hzw
                    · show putF (256 * z) (min len len) (shf s2.at_ f) (bfun mem) j = _
                      rw [Nat.min_self]
                      exact hmem _ _ _ hgg j
          · refine ifB_intro (fun h => absurd (h.symm.trans h4) (by decide)) (fun _ => ?_)
            replace h4 : (!decide (IntKind.i64.wrap (z : Int) < (least : Int))) = false := h4
            rw [hk64] at h4
            have h5 : z < least := by
              by_cases h : z < least
              · exact h
              · rw [decide_eq_false (p := ((z : Nat) : Int) < (least : Int)) (by omega)] at h4; cases h4
            have hno : R = none := by
              rw [← hG]
              cases hb2 : s2.bad
              · rw [if_neg (by decide), if_neg hz3, if_pos (.inl h5)]
              · exact if_pos rfl
            refine need_intro (by rw [hk64]; exact decide_eq_true (by show ((z : Nat) : Int) < ((least : Nat) : Int); omega)) ?_
            exact ⟨.s .junk, _, [0, 1], .inr ⟨hno, ⟨s2.at_, true⟩, rfl, rfl, rfl⟩, by decide, ⟨rfl, rfl, trivial⟩, trivial, ⟨_, rfl, eqvB_refl _⟩, ⟨_, rfl, eqvB_refl _⟩, trivial⟩
      · replace h2 : (!s1.bad) = false := h2
        have hb1 : s1.bad = true := by cases h : s1.bad; rw [h] at h2; cases h2; rfl
        exact ⟨.s .junk, _, [0, 1], .inr ⟨hbad hb1, s1, hb1, rfl, rfl⟩, by decide, ⟨rfl, rfl, trivial⟩, trivial, ⟨_, rfl, eqvB_refl _⟩, ⟨_, rfl, eqvB_refl _⟩, trivial⟩
end Go.Proofs.Ytghcdkpgcanpgaa

/- Strings of bytes compared; a prefix. Plain lemmas, contracts of functions. No condition. -/
namespace Go.Anv
open Go
def eqB (n : Nat) (p q : Nat → B8) : Bool := (List.range n).all fun j => p j == q j
theorem bytesOf_list (n : Nat) (f : Nat → Int) : (bytesOf n f).data.toList = (List.range n).map fun j => UInt8.ofNat (f j).toNat := by
  have key : ∀ (l : List Int) (r : ByteArray), (l.foldl (fun r x => r.push (UInt8.ofNat x.toNat)) r).data.toList = r.data.toList ++ l.map fun x => UInt8.ofNat x.toNat := by
    intro l
    induction l with
    | nil => intro r; simp
    | cons x l ih =>
      intro r
      rw [List.foldl_cons, ih]
      obtain ⟨d⟩ := r
      simp [ByteArray.push]
  unfold bytesOf
  rw [key, List.map_map]
  rfl
theorem map_beq {α β : Type} [BEq β] (F G : α → β) : ∀ l : List α, (l.map F == l.map G) = l.all fun x => F x == G x
  | [] => rfl
  | x :: l => by
    simp only [List.map_cons, List.all_cons]
    rw [← map_beq F G l]
    rfl
theorem u8_beq (a b : B8) : (UInt8.ofNat a.toNat == UInt8.ofNat b.toNat) = (a == b) := by
  rw [Bool.eq_iff_iff, beq_iff_eq, beq_iff_eq]
  constructor
  · intro h
    have h2 := congrArg UInt8.toNat h
    simp only [UInt8.toNat_ofNat'] at h2
    have ha := a.isLt
    have hb := b.isLt
    apply BitVec.eq_of_toNat_eq
    omega
  · rintro rfl; rfl
theorem bytes_beq {n : Nat} {f g : Nat → Int} {p q : Nat → B8} (hf : ∀ j, j < n → f j = (p j).toNat) (hg : ∀ j, j < n → g j = (q j).toNat) : (bytesOf n f == bytesOf n g) = eqB n p q := by
  rw [beq_toListBytes, ByteArray.toList_eq, ByteArray.toList_eq, bytesOf_list, bytesOf_list, map_beq]
  unfold eqB
  rw [Bool.eq_iff_iff, List.all_eq_true, List.all_eq_true]
  constructor
  · intro h j hj
    have h1 := h j hj
    rw [hf j (List.mem_range.1 hj), hg j (List.mem_range.1 hj)] at h1
    rw [← u8_beq]; exact h1
  · intro h j hj
    have h1 := h j hj
    rw [hf j (List.mem_range.1 hj), hg j (List.mem_range.1 hj)]
    rw [← u8_beq] at h1; exact h1
def magicF (j : Nat) : B8 := magic.getD j 0#8
end Go.Anv
namespace Go.Proofs.Ytghcdkpgcanpgaa
open Go Go.Anv
set_option maxRecDepth 100000 in
theorem equal_spec (m1 m2 : Bool) (o1 o2 n c1 c2 k1 k2 s1 s2 : Nat) (f1 f2 : Nat → Int) (p q : Nat → B8) (h1 : o1 + n ≤ k1) (h2 : o2 + n ≤ k2) (hf : ∀ j, j < n → f1 (o1 + j) = (p j).toNat) (hg : ∀ j, j < n → f2 (o2 + j) = (q j).toNat) :
    Does TB 86 [.s (.gs 0 o1 n c1), .s (.gs 1 o2 n c2)] [.cells m1 [.ints .u8 k1 f1] s1, .cells m2 [.ints .u8 k2 f2] s2] (fun v h' => v = .s (.bool (eqB n p q)) ∧ h' = [.cells m1 [.ints .u8 k1 f1] s1, .cells m2 [.ints .u8 k2 f2] s2]) := by
  refine fnX_does TB Try.func86 rfl (by decide) (fun O on hO => ?_)
  refine need_intro h1 ?_
  refine need_intro h2 ?_
  refine ⟨_, _, [0, 1], ⟨rfl, rfl⟩, by decide, ⟨rfl, rfl, trivial⟩, ?_, ⟨⟨_, rfl, eqvB_refl _⟩, ⟨_, rfl, eqvB_refl _⟩, trivial⟩⟩
  exact bytes_beq hf hg
set_option maxRecDepth 100000 in
theorem prefix_spec (m1 m2 : Bool) (n c k1 s1 s2 : Nat) (f1 f2 : Nat → Int) (p q : Nat → B8) (hn : 8 ≤ n) (hk : n ≤ k1) (hc : n ≤ c) (hf : ∀ j, j < 8 → f1 j = (p j).toNat) (hg : ∀ j, j < 8 → f2 j = (q j).toNat) :
    Does TB 52 [.s (.gs 0 0 n c), .s (.gs 1 0 8 8)] [.cells m1 [.ints .u8 k1 f1] s1, .cells m2 [.ints .u8 8 f2] s2] (fun v h' => v = .s (.bool (eqB 8 p q)) ∧ h' = [.cells m1 [.ints .u8 k1 f1] s1, .cells m2 [.ints .u8 8 f2] s2]) := by
  refine fnX_does TB Try.func52 rfl (by decide) (fun O on hO => ?_)
  have hge : decide ((n : Int) ≥ 8) = true := decide_eq_true (by omega)
  repeat (refine need_intro (by first | exact fun h => h | exact fun _ => rfl | rfl | (simp; done) | fail) ?_)
  refine need_intro (fun _ => ⟨by omega, by omega, by omega⟩) ?_
  repeat (refine need_intro (by first | exact fun h => h | exact fun _ => rfl | rfl | (simp; done) | fail) ?_)
  refine ifB_intro (fun _ => ?_) (fun h => absurd (h.symm.trans hge) (by decide))
  have hsk : skip c 0 0 1 = 0 := by unfold skip; split <;> rfl
  refine Does.ungd (b := [_, _]) ⟨⟨hge, rfl⟩, ⟨hge, rfl⟩, trivial⟩ ?_
  refine Does.args (b := [.s (.gs 0 0 8 c), .s (.gs 1 0 8 8)]) ⟨⟨rfl, hsk, rfl, rfl⟩, eqvE_refl _, trivial⟩ ?_
  refine Does.at (equal_spec m1 m2 0 0 8 c 8 k1 8 s1 s2 f1 f2 p q (by omega) (by omega) (fun j hj => by rw [Nat.zero_add]; exact hf j hj) (fun j hj => by rw [Nat.zero_add]; exact hg j hj)) [0, 1] rfl ⟨rfl, rfl, trivial⟩ (by decide) ?_ ?_
  · rintro v h' ⟨_, rfl⟩
    exact ⟨.inr (.inr rfl), .inr (.inr rfl), trivial⟩
  rintro v h' ⟨rfl, rfl⟩
  repeat (refine need_intro (by first | exact fun h => h | exact fun _ => rfl | rfl | (simp; done) | fail) ?_)
  refine ⟨_, _, [0, 1], ⟨rfl, rfl⟩, by decide, ⟨rfl, rfl, trivial⟩, ?_, ⟨⟨_, rfl, eqvB_refl _⟩, ⟨_, rfl, eqvB_refl _⟩, trivial⟩⟩
  show (bif decide ((n : Int) ≥ 8) then eqB 8 p q else false) = eqB 8 p q
  rw [hge]; rfl
end Go.Proofs.Ytghcdkpgcanpgaa

/- The program's Load. Contracts of functions. No condition. -/
namespace Go.Anv
open Go
/-- Is a Cpu proper? -/
def cpEq (c : CpuV) : Bool := match eqSeg c.proper.segs c.segs with
  | some b => b
  | none => false
def foot (p : Nat → B8) (N : Nat) : BitVec 32 := (hi (fun j => p (N + j)) 0 4 4).setWidth 32
def startR : Rs := ⟨8, false⟩
/-- What Load comes to: the error's number, 0: none; the ram. -/
def loadOut (p : Nat → B8) (n : Nat) : Nat × (Nat → B8) :=
  if n < 12 ∨ 72000 < n ∨ eqB 8 p magicF = false then (161, fun _ => 0#8)
  else if foot p (n - 4) ≠ ~~~ crcN p (n - 4) then (160, fun _ => 0#8)
  else match ramR p (n - 4) (bothR p (n - 4) startR) with
    | none => (161, fun _ => 0#8)
    | some (s', mem) => if s'.at_ ≠ n - 4 then (161, fun _ => 0#8)
      else if cpEq (cpuR p (n - 4) startR) = true ∧ (busR (ramN p (n - 4) (bothR p (n - 4) startR)) p (n - 4) startR).can = true then (0, mem) else (162, fun _ => 0#8)
/-- The cells of the whole that is loaded. -/
def loadW (p : Nat → B8) (n : Nat) : BusV := busR (ramN p (n - 4) (bothR p (n - 4) startR)) p (n - 4) startR
/-- What a call of Load leaves of the bytes' block B. -/
def Loaded (p : Nat → B8) (n : Nat) (B : Blk) (v : EV) (h' : List Blk) : Prop :=
  ((loadOut p n).1 ≠ 0 ∧ v = .tuple [.agg zwhole, .s (.int .i64 ((loadOut p n).1 : Nat))] ∧ h' = [B]) ∨
  ((loadOut p n).1 = 0 ∧ ∃ cr ci co, v = .tuple [.agg (wsegs (cpuR p (n - 4) startR) (loadW p n) (.gs 1 0 (loadW p n).nr cr) (.gs 2 0 (loadW p n).ni ci) (.gs 3 0 (loadW p n).no co)), .s (.int .i64 0)] ∧
    h' = [B, bblk true (loadW p n).nr (loadOut p n).2 (cr - (loadW p n).nr), bblk true (loadW p n).ni (inR p (n - 4) startR) (ci - (loadW p n).ni), bblk true (loadW p n).no (outR p (n - 4) startR) (co - (loadW p n).no)])
end Go.Anv
namespace Go.Proofs.Ytghcdkpgcanpgaa
open Go Go.Anv
theorem listN_lt (p : Nat → B8) (N size most : Nat) (s : Rs) (h : size ≤ 4) : listN p N size most s < 2 ^ 32 := by
  unfold listN
  split
  · exact Nat.lt_of_lt_of_le (num_small p N size s h) (Nat.pow_le_pow_right (by decide) (by omega))
  · decide
set_option maxRecDepth 100000 in
theorem take4_spec (m : Bool) (o c K sp : Nat) (f : Nat → Int) (hc : 4 ≤ c) :
    Does TB 87 [.s (.ptr 0 0), .s (.int .i64 4)] [.cells true [.one (.gs 1 o 4 c), .one (.bool false)] 0, .cells m [.ints .u8 K f] sp]
      (fun v h' => v = .s (.gs 1 o 4 4) ∧ h' = [.cells true [.one (.gs 1 (skip c 4 o 1) 0 (c - 4)), .one (.bool false)] 0, .cells m [.ints .u8 K f] sp]) := by
  refine fnX_does TB Try.func87 rfl (by decide) (fun O on hO => ?_)
  repeat (refine need_intro (by first | exact fun h => h | exact fun _ => rfl | rfl | (simp; done) | fail) ?_)
  refine need_intro ⟨by omega, by omega, by omega, by show (4 : Int) ≤ (c : Int); omega⟩ ?_
  refine need_intro ⟨by omega, by show (4 : Int) ≤ ((4 : Nat) : Int); omega, by show ((4 : Nat) : Int) ≤ (c : Int); omega⟩ ?_
  exact ⟨.s (.gs 1 o 4 4), _, [0, 1], ⟨rfl, rfl⟩, by decide, ⟨rfl, rfl, trivial⟩, ⟨rfl, by show skip 4 0 o 1 = o; unfold skip; rw [if_neg (by decide)]; omega, rfl, rfl⟩, ⟨_, rfl, eqvB_refl _⟩, ⟨_, rfl, eqvB_refl _⟩, trivial⟩
set_option maxRecDepth 100000 in
theorem number4_spec (m : Bool) (o c K sp : Nat) (f : Nat → Int) (p : Nat → B8) (hc : 4 ≤ c) (hK : o + 4 ≤ K) (hp : ∀ j, j < 4 → f (o + j) = (p j).toNat) :
    Does TB 53 [.s (.ptr 0 0), .s (.int .i64 4)] [.cells true [.one (.gs 1 o 4 c), .one (.bool false)] 0, .cells m [.ints .u8 K f] sp]
      (fun v h' => v = .s (.int .u64 (hi p 0 4 4).toNat) ∧ h' = [.cells true [.one (.gs 1 (skip c 4 o 1) 0 (c - 4)), .one (.bool false)] 0, .cells m [.ints .u8 K f] sp]) := by
  refine fnX_does TB Try.func53 rfl (by decide) (fun O on hO => ?_)
  refine Does.at (take4_spec m o c K sp f hc) [0, 1] rfl ⟨rfl, rfl, trivial⟩ (by decide) ?_ ?_
  · rintro v h' ⟨_, rfl⟩
    exact ⟨.inl rfl, .inr (.inr rfl), trivial⟩
  rintro v h' ⟨rfl, rfl⟩
  refine loop_by (A := Nat) on (fun n => [(5, .s (.int .u64 (hi p 0 4 n).toNat)), (7, .s (.int .i64 (3 - (n : Int))))]) (fun _ => [.cells true [.one (.gs 1 (skip c 4 o 1) 0 (c - 4)), .one (.bool false)] 0, .cells m [.ints .u8 K f] sp]) (fun n => n ≤ 4) (fun n => 4 - n) 0 (Nat.zero_le _) ?_ ?_
  · refine ⟨?_, ?_⟩
    · repeat' (first | exact eqvT_nil | refine eqvT_junk ?_ | refine eqvT_same ?_ | refine eqvT_int ?_ ?_)
    · exact eqvH_same (eqvH_same eqvH_nil)
  · intro n hn
    refine ifB_intro (fun h1 => ?_) (fun h1 => ?_)
    · have h2 : 3 - (n : Int) ≥ 0 := of_decide_eq_true h1
      have hi2 : (3 - (n : Int)).toNat = 4 - 1 - n := by omega
      refine need_intro (by decide) ?_
      refine need_intro ⟨by omega, by omega⟩ ?_
      refine need_intro (by omega) ?_
      refine ⟨n + 1, ?_, ?_, ?_, ?_⟩
      · show n + 1 ≤ 4; omega
      · show 4 - (n + 1) < 4 - n; omega
      · repeat' (first | exact eqvT_nil | refine eqvT_junk ?_ | refine eqvT_same ?_ | refine eqvT_int ?_ ?_)
        · show bitX .or .u64 (IntKind.u64.wrap (((hi p 0 4 n).toNat : Int) * 2 ^ 8)) (IntKind.u64.wrap (f (o + (3 - (n : Int)).toNat))) = ((hi p 0 4 (n + 1)).toNat : Int)
          rw [hi2, hp _ (by omega), wide8, or_u64, wrap_u64, mul_pow, ofInt_toNat, ofInt_toNat]
          simp only [hi, Nat.zero_add]
        · rw [i64_in (by omega) (by omega)]; omega
      · exact eqvH_same (eqvH_same eqvH_nil)
    · have h2 : ¬ (3 - (n : Int) ≥ 0) := of_decide_eq_false h1
      have hnk : n = 4 := by omega
      subst hnk
      exact ⟨_, _, [0, 1], ⟨rfl, rfl⟩, by decide, ⟨rfl, rfl, trivial⟩, eqvE_refl _, ⟨_, rfl, eqvB_refl _⟩, ⟨_, rfl, eqvB_refl _⟩, trivial⟩
set_option maxRecDepth 100000 in
set_option maxHeartbeats 4000000 in
theorem load_spec (m : Bool) (n c K sp : Nat) (f : Nat → Int) (p : Nat → B8) (hnc : n ≤ c) (hK : n ≤ K) (hn : n ≤ 2 ^ 50) (hp : ∀ j, j < n → f j = (p j).toNat) :
    Does TB 22 [.s (.gs 0 0 n c)] [.cells m [.ints .u8 K f] sp] (Loaded p n (.cells m [.ints .u8 K f] sp)) := by
  refine fnX_does TB Try.func22 rfl (by decide) (fun O on hO => ?_)
  repeat (refine need_intro (by first | exact fun h => h | exact fun _ => rfl | rfl | (simp; done) | fail) ?_)
  refine ifB_intro (fun g => ?_) (fun g => ?_)
  · have hb : 12 ≤ n ∧ n ≤ 72000 := by
      replace g : (!bif decide ((n : Int) < 12) then true else decide ((n : Int) > 72000)) = true := g
      by_cases h1 : n < 12
      · rw [decide_eq_true (p := (n : Int) < 12) (by omega)] at g; cases g
      · rw [decide_eq_false (p := (n : Int) < 12) (by omega)] at g
        by_cases h2 : n > 72000
        · rw [decide_eq_true (p := (n : Int) > 72000) (by omega)] at g; cases g
        · omega
    refine ifB_intro (fun _ => ?_) (fun h => absurd (h.symm.trans g) (by decide))
    refine need_intro (by decide) ?_
    repeat (refine need_intro (by first | exact fun h => h | exact fun _ => rfl | rfl | (simp; done) | fail) ?_)
    refine ifB_intro (fun _ => ?_) (fun h => absurd (h.symm.trans g) (by decide))
    refine Does.ungd (b := [_, _]) ⟨⟨g, rfl⟩, rfl, trivial⟩ ?_
    refine Does.args (b := [.s (.gs 0 0 n c), .s (.gs 2 0 8 8)]) ⟨eqvE_refl _, ⟨rfl, rfl, rfl, rfl⟩, trivial⟩ ?_
    refine Does.at (prefix_spec m true n c K sp 0 f (litF [65, 78, 86, 73, 76, 83, 1, 90]) p magicF (by omega) hK hnc (fun j hj => hp j (by omega)) ?_) [0, 2] rfl ⟨rfl, rfl, trivial⟩ (by decide) ?_ ?_
    · intro j hj
      match j, hj with
      | 0, _ => rfl
      | 1, _ => rfl
      | 2, _ => rfl
      | 3, _ => rfl
      | 4, _ => rfl
      | 5, _ => rfl
      | 6, _ => rfl
      | 7, _ => rfl
    · rintro v h' ⟨_, rfl⟩
      exact ⟨.inr (.inr rfl), .inr (.inr rfl), trivial⟩
    rintro v h' ⟨rfl, rfl⟩
    repeat (refine need_intro (by first | exact fun h => h | exact fun _ => rfl | rfl | (simp; done) | fail) ?_)
    have hg0 : (bif decide ((n : Int) < 12) then true else decide ((n : Int) > 72000)) = false := by
      replace g : (!bif decide ((n : Int) < 12) then true else decide ((n : Int) > 72000)) = true := g
      cases h : (bif decide ((n : Int) < 12) then true else decide ((n : Int) > 72000))
      · rfl
      · rw [h] at g; cases g
    refine ifB_intro (fun h1 => ?_) (fun h1 => ?_)
    · replace h1 : (bif bif decide ((n : Int) < 12) then true else decide ((n : Int) > 72000) then true else !eqB 8 p magicF) = true := h1
      rw [hg0] at h1
      have he : (loadOut p n).1 = 161 := by
        unfold loadOut
        rw [if_pos (.inr (.inr (by cases h : eqB 8 p magicF; rfl; rw [h] at h1; cases h1)))]
      repeat (refine need_intro (by first | exact fun h => h | exact fun _ => rfl | rfl | (simp; done) | fail) ?_)
      exact ⟨.tuple [.agg zwhole, .s (.int .i64 161)], [.cells m [.ints .u8 K f] sp], [0], .inl ⟨by rw [he]; decide, by rw [he]; rfl, rfl⟩, by decide, ⟨rfl, trivial⟩, eqvE_refl _, ⟨_, rfl, eqvB_refl _⟩, trivial⟩
    · replace h1 : (bif bif decide ((n : Int) < 12) then true else decide ((n : Int) > 72000) then true else !eqB 8 p magicF) = false := h1
      rw [hg0] at h1
      have hq : eqB 8 p magicF = true := by cases h : eqB 8 p magicF; rw [h] at h1; cases h1; rfl
      have hsh : ¬ (n < 12 ∨ 72000 < n ∨ eqB 8 p magicF = false) := by
        rintro (h | h | h)
        · omega
        · omega
        · rw [hq] at h; cases h
      have hw4 : IntKind.i64.wrap ((n : Int) - 4) = ((n - 4 : Nat) : Int) := by rw [i64_in (by omega) (by omega)]; omega
      refine need_intro ⟨by omega, by rw [hw4]; omega, by omega, by rw [hw4]; omega⟩ ?_
      refine need_intro ⟨by rw [hw4]; omega, by rw [hw4]; omega, by omega⟩ ?_
      have ht4 : (IntKind.i64.wrap ((n : Int) - 4)).toNat = n - 4 := by rw [hw4]; rfl
      have hrd : Blk.cells true [.one (.gs 0 (skip c (IntKind.i64.wrap ((n : Int) - 4)).toNat 0 1) ((n : Int).toNat - (IntKind.i64.wrap ((n : Int) - 4)).toNat) (c - (IntKind.i64.wrap ((n : Int) - 4)).toNat)), .one (.bool false)] 0 = Blk.cells true [.one (.gs 0 (n - 4) 4 (c - (n - 4))), .one (.bool false)] 0 := by
        rw [ht4, show skip c (n - 4) 0 1 = n - 4 by (unfold skip; rw [if_neg (by omega)]; omega), show (n : Int).toNat - (n - 4) = 4 by omega]
      refine Does.at (number4_spec m (n - 4) (c - (n - 4)) K sp f (fun j => p (n - 4 + j)) (by omega) (by omega) (fun j hj => hp _ (by omega))) [3, 0] rfl ⟨congrArg some hrd, rfl, trivial⟩ (by decide) ?_ ?_
      · rintro v h' ⟨_, rfl⟩
        exact ⟨.inl rfl, .inr (.inr rfl), trivial⟩
      rintro v h' ⟨rfl, rfl⟩
      have hb0 : skip (IntKind.i64.wrap ((n : Int) - 4)).toNat 0 0 1 = 0 := by unfold skip; split <;> rfl
      refine Does.args (b := [.s (.gs 0 0 (n - 4) (n - 4))]) ⟨⟨rfl, hb0, by show (IntKind.i64.wrap ((n : Int) - 4)).toNat - 0 = n - 4; omega, by show (IntKind.i64.wrap ((n : Int) - 4)).toNat - 0 = n - 4; omega⟩, trivial⟩ ?_
      refine Does.at (sum_spec m K 0 (n - 4) (n - 4) sp f p (by omega) (by omega) (fun j hj => by rw [Nat.zero_add]; exact hp j (by omega))) [0] rfl ⟨rfl, trivial⟩ (by decide) ?_ ?_
      · rintro v h' ⟨_, rfl⟩
        exact ⟨.inr (.inr rfl), trivial⟩
      rintro v h' ⟨rfl, rfl⟩
      have hft : IntKind.u32.wrap ((hi (fun j => p (n - 4 + j)) 0 4 4).toNat : Int) = ((foot p (n - 4)).toNat : Int) := by
        rw [wrap_u32]
        unfold foot
        rw [BitVec.toNat_setWidth, BitVec.toNat_ofInt]; omega
      refine ifB_intro (fun h2 => ?_) (fun h2 => ?_)
      · replace h2 : (IntKind.u32.wrap ((hi (fun j => p (n - 4 + j)) 0 4 4).toNat : Int) != ((~~~ crcN p (n - 4)).toNat : Int)) = true := h2
        rw [hft, bne_nat] at h2
        have he : (loadOut p n).1 = 160 := by
          unfold loadOut
          rw [if_neg hsh, if_pos (by simpa using h2)]
        repeat (refine need_intro (by first | exact fun h => h | exact fun _ => rfl | rfl | (simp; done) | fail) ?_)
        exact ⟨.tuple [.agg zwhole, .s (.int .i64 160)], [.cells m [.ints .u8 K f] sp], [0], .inl ⟨by rw [he]; decide, by rw [he]; rfl, rfl⟩, by decide, ⟨rfl, trivial⟩, eqvE_refl _, ⟨_, rfl, eqvB_refl _⟩, trivial⟩
      · replace h2 : (IntKind.u32.wrap ((hi (fun j => p (n - 4 + j)) 0 4 4).toNat : Int) != ((~~~ crcN p (n - 4)).toNat : Int)) = false := h2
        rw [hft, bne_nat] at h2
        have hfo : ¬ foot p (n - 4) ≠ ~~~ crcN p (n - 4) := by simpa using h2
        refine need_intro ⟨by omega, by show (8 : Int) ≤ (((IntKind.i64.wrap ((n : Int) - 4)).toNat - 0 : Nat) : Int); omega, by omega, by omega⟩ ?_
        have hr8 : RdAt 0 (n - 4) startR (skip (n - 4) 8 0 1) := by
          refine ⟨by show 8 ≤ n - 4; omega, fun h => ?_, ?_⟩
          · replace h : 8 < n - 4 := h
            show skip (n - 4) 8 0 1 = 0 + 8
            unfold skip
            rw [if_neg (by omega)]
          · unfold skip
            split <;> omega
        have hrd2 : Blk.cells true [.one (.gs 0 (skip (((IntKind.i64.wrap ((n : Int) - 4)).toNat - 0 : Nat) : Int).toNat 8 (skip (IntKind.i64.wrap ((n : Int) - 4)).toNat 0 0 1) 1) ((((IntKind.i64.wrap ((n : Int) - 4)).toNat - 0 : Nat) : Int).toNat - 8) ((((IntKind.i64.wrap ((n : Int) - 4)).toNat - 0 : Nat) : Int).toNat - 8)), .one (.bool false)] 0 = rdb 0 (n - 4) startR (skip (n - 4) 8 0 1) := by
          rw [ht4, show skip (n - 4) 0 0 1 = 0 by (unfold skip; split <;> rfl)]
          rfl
        refine Does.at (rboth_spec m 0 (n - 4) K sp f p startR (by omega) (by omega) (fun j hj => by rw [Nat.zero_add]; exact hp j (by omega)) _ hr8) [4, 5, 0] rfl ⟨congrArg some hrd2, rfl, rfl, trivial⟩ (by decide) ?_ ?_
        · rintro v h' ⟨o', _, _, rfl⟩
          exact ⟨.inl rfl, .inl rfl, .inr (.inr rfl), .inl rfl, .inl rfl, trivial⟩
        rintro v h' ⟨o2, ho2, rfl, rfl⟩
        refine Does.at (rpagesR_spec m 0 (n - 4) K sp f p (bothR p (n - 4) startR) (by omega) (by omega) (fun j hj => by rw [Nat.zero_add]; exact hp j (by omega)) o2 ho2) [4, 0] rfl ⟨rfl, rfl, trivial⟩ (by decide) ?_ ?_
        · rintro v h' (⟨s', mem, o', _, _, _, _, rfl⟩ | ⟨_, s', o', _, _, rfl⟩)
          · exact ⟨.inl rfl, .inr (.inr rfl), .inl rfl, trivial⟩
          · exact ⟨.inl rfl, .inr (.inr rfl), trivial⟩
        rintro v h' (⟨⟨a', b'⟩, mem, o', hR, hs'b, ho', rfl, rfl⟩ | ⟨hR, ⟨a', b'⟩, o', hs'b, rfl, rfl⟩)
        · replace hs'b : b' = false := hs'b
          subst hs'b
          have ha' : a' ≤ n - 4 := ho'.1
          repeat (refine need_intro (by first | exact fun h => h | exact fun _ => rfl | rfl | (simp; done) | fail) ?_)
          refine ifB_intro (fun h3 => ?_) (fun h3 => ?_)
          · replace h3 : decide (((n - 4 - a' : Nat) : Int) > 0) = true := h3
            have h4 := of_decide_eq_true h3
            have he : (loadOut p n).1 = 161 := by
              unfold loadOut
              rw [if_neg hsh, if_neg hfo, hR]
              exact congrArg Prod.fst (if_pos (show a' ≠ n - 4 by omega))
            repeat (refine need_intro (by first | exact fun h => h | exact fun _ => rfl | rfl | (simp; done) | fail) ?_)
            exact ⟨.tuple [.agg zwhole, .s (.int .i64 161)], [.cells m [.ints .u8 K f] sp], [0], .inl ⟨by rw [he]; decide, by rw [he]; rfl, rfl⟩, by decide, ⟨rfl, trivial⟩, eqvE_refl _, ⟨_, rfl, eqvB_refl _⟩, trivial⟩
          · replace h3 : decide (((n - 4 - a' : Nat) : Int) > 0) = false := h3
            have h4 := of_decide_eq_false h3
            have hlo : loadOut p n = if cpEq (cpuR p (n - 4) startR) = true ∧ (busR (ramN p (n - 4) (bothR p (n - 4) startR)) p (n - 4) startR).can = true then (0, mem) else (162, fun _ => 0#8) := by
              unfold loadOut
              rw [if_neg hsh, if_neg hfo, hR]
              exact if_neg (show ¬ a' ≠ n - 4 by omega)
            refine draw_held on rfl (fun _ _ h => h) ?_
            refine (proper_spec (cpuR p (n - 4) startR) _).mono ?_
            rintro v h' ⟨rfl, rfl⟩
            repeat (refine need_intro (by first | exact fun h => h | exact fun _ => rfl | rfl | (simp; done) | fail) ?_)
            have b1 : (loadW p n).ni < 2 ^ 62 := Nat.lt_of_lt_of_le (listN_lt p (n - 4) 1 64 _ (by decide)) (by decide)
            have b2 : (loadW p n).no < 2 ^ 62 := Nat.lt_of_lt_of_le (listN_lt p (n - 4) 2 4096 _ (by decide)) (by decide)
            have b3 : (loadW p n).nr < 2 ^ 62 := Nat.lt_of_lt_of_le (num_small p (n - 4) 4 _ (by decide)) (by decide)
            refine ifB_intro (fun h5 => ?_) (fun h5 => ?_)
            · have hcp : cpEq (cpuR p (n - 4) startR) = true := by
                replace h5 : (!!cpEq (cpuR p (n - 4) startR)) = true := h5
                rwa [Bool.not_not] at h5
              refine Does.ungd (b := [.agg (wsegs (cpuR p (n - 4) startR) (loadW p n) (.gs 8 0 (loadW p n).nr (loadW p n).nr) (.gs 6 0 (loadW p n).ni (loadW p n).ni) (.gs 7 0 (loadW p n).no (loadW p n).no))]) ⟨⟨h5, rfl⟩, trivial⟩ ?_
              have hck := check_spec (cpuR p (n - 4) startR) (loadW p n) ⟨true, 0, mem, true, 0, inR p (n - 4) startR, true, 0, outR p (n - 4) startR⟩ (loadW p n).nr (loadW p n).ni (loadW p n).no b1 b2 b3
              cases hc : (loadW p n).can with
              | false =>
                rw [hc] at hck
                refine Does.at hck [8, 6, 7] rfl ⟨rfl, rfl, rfl, trivial⟩ (by decide) ?_ ?_
                · rintro v h' ⟨_, rfl⟩
                  exact ⟨.inr (.inr rfl), .inr (.inr rfl), .inr (.inr rfl), trivial⟩
                rintro v h' ⟨rfl, rfl⟩
                repeat (refine need_intro (by first | exact fun h => h | exact fun _ => rfl | rfl | (simp; done) | fail) ?_)
                refine ifB_intro (fun h6 => ?_) (fun h6 => ?_)
                · have he : (loadOut p n).1 = 162 := by
                    rw [hlo]
                    exact congrArg Prod.fst (if_neg (fun h => by have := h.2; rw [show (busR (ramN p (n - 4) (bothR p (n - 4) startR)) p (n - 4) startR).can = false from hc] at this; cases this))
                  repeat (refine need_intro (by first | exact fun h => h | exact fun _ => rfl | rfl | (simp; done) | fail) ?_)
                  exact ⟨.tuple [.agg zwhole, .s (.int .i64 162)], [.cells m [.ints .u8 K f] sp], [0], .inl ⟨by rw [he]; decide, by rw [he]; rfl, rfl⟩, by decide, ⟨rfl, trivial⟩, eqvE_refl _, ⟨_, rfl, eqvB_refl _⟩, trivial⟩
                · replace h6 : (bif !cpEq (cpuR p (n - 4) startR) then true else ((162 : Int) != 0)) = false := h6
                  rw [hcp] at h6
                  exact absurd h6 (by decide)
              | true =>
                rw [hc] at hck
                refine Does.at hck [8, 6, 7] rfl ⟨rfl, rfl, rfl, trivial⟩ (by decide) ?_ ?_
                · rintro v h' ⟨_, rfl⟩
                  exact ⟨.inr (.inr rfl), .inr (.inr rfl), .inr (.inr rfl), trivial⟩
                rintro v h' ⟨rfl, rfl⟩
                repeat (refine need_intro (by first | exact fun h => h | exact fun _ => rfl | rfl | (simp; done) | fail) ?_)
                refine ifB_intro (fun h6 => ?_) (fun h6 => ?_)
                · replace h6 : (bif !cpEq (cpuR p (n - 4) startR) then true else ((0 : Int) != 0)) = true := h6
                  rw [hcp] at h6
                  exact absurd h6 (by decide)
                · have he : loadOut p n = (0, mem) := by
                    rw [hlo]
                    exact if_pos ⟨hcp, hc⟩
                  repeat (refine need_intro (by first | exact fun h => h | exact fun _ => rfl | rfl | (simp; done) | fail) ?_)
                  refine ⟨_, _, [0, 8, 6, 7], .inr ⟨by rw [he], (loadW p n).nr, (loadW p n).ni, (loadW p n).no, rfl, rfl⟩, by decide, ⟨rfl, trivial⟩, ?_, ⟨_, rfl, eqvB_refl _⟩, ⟨_, rfl, ⟨rfl, (Nat.sub_self _).symm, ?_⟩⟩, ⟨_, rfl, ⟨rfl, (Nat.sub_self _).symm, eqvS_refl _⟩⟩, ⟨_, rfl, ⟨rfl, (Nat.sub_self _).symm, eqvS_refl _⟩⟩, trivial⟩
                  · exact eqvE_refl _
                  · rw [he]; exact eqvS_refl _
            · have hcp : cpEq (cpuR p (n - 4) startR) = false := by
                replace h5 : (!!cpEq (cpuR p (n - 4) startR)) = false := h5
                rwa [Bool.not_not] at h5
              have he : (loadOut p n).1 = 162 := by
                rw [hlo]
                exact congrArg Prod.fst (if_neg (fun h => by have := h.1; rw [hcp] at this; cases this))
              repeat (refine need_intro rfl ?_)
              refine ifB_intro (fun h => absurd (h.symm.trans h5) (by decide)) (fun _ => ?_)
              repeat (refine need_intro rfl ?_)
              refine need_intro (by show (!cpEq (cpuR p (n - 4) startR)) = true; rw [hcp]; rfl) ?_
              repeat (refine need_intro rfl ?_)
              exact ⟨.tuple [.agg zwhole, .s (.int .i64 162)], [.cells m [.ints .u8 K f] sp], [0], .inl ⟨by rw [he]; decide, by rw [he]; rfl, rfl⟩, by decide, ⟨rfl, trivial⟩, eqvE_refl _, ⟨_, rfl, eqvB_refl _⟩, trivial⟩
        · replace hs'b : b' = true := hs'b
          subst hs'b
          have he : (loadOut p n).1 = 161 := by
            unfold loadOut
            rw [if_neg hsh, if_neg hfo, hR]
          repeat (refine need_intro (by first | exact fun h => h | exact fun _ => rfl | rfl | (simp; done) | fail) ?_)
          exact ⟨.tuple [.agg zwhole, .s (.int .i64 161)], [.cells m [.ints .u8 K f] sp], [0], .inl ⟨by rw [he]; decide, by rw [he]; rfl, rfl⟩, by decide, ⟨rfl, trivial⟩, eqvE_refl _, ⟨_, rfl, eqvB_refl _⟩, trivial⟩
  · have he : (loadOut p n).1 = 161 := by
      unfold loadOut
      rw [if_pos]
      replace g : (!bif decide ((n : Int) < 12) then true else decide ((n : Int) > 72000)) = false := g
      by_cases h1 : n < 12
      · exact .inl h1
      · rw [decide_eq_false (p := (n : Int) < 12) (by omega)] at g
        by_cases h2 : n > 72000
        · exact .inr (.inl h2)
        · rw [decide_eq_false (p := (n : Int) > 72000) (by omega)] at g; cases g
    refine ifB_intro (fun h => absurd (h.symm.trans g) (by decide)) (fun _ => ?_)
    refine ifB_intro (fun h => absurd (h.symm.trans g) (by decide)) (fun _ => ?_)
    refine ifB_intro (fun h => absurd (h.symm.trans g) (by decide)) (fun _ => ?_)
    refine need_intro ?_ ?_
    · replace g : (!bif decide ((n : Int) < 12) then true else decide ((n : Int) > 72000)) = false := g
      cases h : (bif decide ((n : Int) < 12) then true else decide ((n : Int) > 72000))
      · rw [h] at g; cases g
      · rfl
    repeat (refine need_intro (by first | exact fun h => h | exact fun _ => rfl | rfl | (simp; done) | fail) ?_)
    exact ⟨.tuple [.agg zwhole, .s (.int .i64 161)], [.cells m [.ints .u8 K f] sp], [0], .inl ⟨by rw [he]; decide, by rw [he]; rfl, rfl⟩, by decide, ⟨rfl, trivial⟩, eqvE_refl _, ⟨_, rfl, eqvB_refl _⟩, trivial⟩
end Go.Proofs.Ytghcdkpgcanpgaa

/- The document's Load. Contracts of functions. No condition. -/
namespace Go.Anv
open Go
def footF (c : BitVec 32) (j : Nat) : B8 := (le (c.setWidth 64) 4).getD j 0#8
theorem foot_nat (p : Nat → B8) (N : Nat) : (foot p N).toNat = (p N).toNat + 256 * (p (N + 1)).toNat + 65536 * (p (N + 2)).toNat + 16777216 * (p (N + 3)).toNat := by
  have h1 := hi_mul (fun j => p (N + j)) 0 4 0 (by decide)
  have h2 := hi_mul (fun j => p (N + j)) 0 4 1 (by decide)
  have h3 := hi_mul (fun j => p (N + j)) 0 4 2 (by decide)
  have h4 := hi_mul (fun j => p (N + j)) 0 4 3 (by decide)
  have h0 : (hi (fun j => p (N + j)) 0 4 0).toNat = 0 := rfl
  simp only [Nat.zero_add, show 4 - 1 - 0 = 3 by rfl, show 4 - 1 - 1 = 2 by rfl, show 4 - 1 - 2 = 1 by rfl, show 4 - 1 - 3 = 0 by rfl, show 1 + 1 = 2 by rfl, show 2 + 1 = 3 by rfl, show 3 + 1 = 4 by rfl, Nat.add_zero] at h1 h2 h3 h4
  have l0 := (p N).isLt
  have l1 := (p (N + 1)).isLt
  have l2 := (p (N + 2)).isLt
  have l3 := (p (N + 3)).isLt
  unfold foot
  rw [BitVec.toNat_setWidth]
  omega
theorem footF_nat (c : BitVec 32) : (footF c 0).toNat = c.toNat % 256 ∧ (footF c 1).toNat = c.toNat / 256 % 256 ∧ (footF c 2).toNat = c.toNat / 65536 % 256 ∧ (footF c 3).toNat = c.toNat / 16777216 % 256 := by
  have hc := c.isLt
  have key : ∀ k, ((c.setWidth 64 >>> (8 * k)).setWidth 8).toNat = c.toNat / 2 ^ (8 * k) % 256 := fun k => by
    rw [BitVec.toNat_setWidth, BitVec.toNat_ushiftRight, BitVec.toNat_setWidth, Nat.shiftRight_eq_div_pow, Nat.mod_eq_of_lt (a := c.toNat) (by omega)]
  have k0 := key 0
  have k1 := key 1
  have k2 := key 2
  have k3 := key 3
  refine ⟨?_, ?_, ?_, ?_⟩
  · show ((c.setWidth 64 >>> (8 * 0)).setWidth 8).toNat = _; rw [k0]; simp
  · show ((c.setWidth 64 >>> (8 * 1)).setWidth 8).toNat = _; rw [k1]
  · show ((c.setWidth 64 >>> (8 * 2)).setWidth 8).toNat = _; rw [k2]
  · show ((c.setWidth 64 >>> (8 * 3)).setWidth 8).toNat = _; rw [k3]
theorem foot_iff (p : Nat → B8) (N : Nat) (c : BitVec 32) : eqB 4 (footF c) (fun j => p (N + j)) = (foot p N == c) := by
  obtain ⟨f0, f1, f2, f3⟩ := footF_nat c
  have hf := foot_nat p N
  have hc := c.isLt
  have l0 := (p N).isLt
  have l1 := (p (N + 1)).isLt
  have l2 := (p (N + 2)).isLt
  have l3 := (p (N + 3)).isLt
  rw [Bool.eq_iff_iff, beq_iff_eq]
  unfold eqB
  rw [List.all_eq_true]
  constructor
  · intro h
    have e : ∀ j, j < 4 → footF c j = p (N + j) := fun j hj => by simpa using h j (List.mem_range.2 hj)
    have e0 := congrArg BitVec.toNat (e 0 (by decide))
    have e1 := congrArg BitVec.toNat (e 1 (by decide))
    have e2 := congrArg BitVec.toNat (e 2 (by decide))
    have e3 := congrArg BitVec.toNat (e 3 (by decide))
    apply BitVec.eq_of_toNat_eq
    simp only [Nat.add_zero] at e0
    omega
  · rintro h j hj
    rw [h] at hf
    have hj := List.mem_range.1 hj
    rw [beq_iff_eq]
    apply BitVec.eq_of_toNat_eq
    match j, hj with
    | 0, _ => show _ = (p (N + 0)).toNat; simp only [Nat.add_zero]; omega
    | 1, _ => show _ = (p (N + 1)).toNat; omega
    | 2, _ => show _ = (p (N + 2)).toNat; omega
    | 3, _ => show _ = (p (N + 3)).toNat; omega
/-- A nil slice as the first argument: one that has room for nothing. -/
theorem Does.nil1 {T : Tbl} {f : FuncId} {r : List EV} {h : List Blk} {Q : EV → List Blk → Prop} (k : IntKind) (g : Nat → Int) (d : Does T f (.s (.gs h.length 0 0 0) :: r) (h ++ [.cells true [.ints k 0 g] 0]) Q) : Does T f (.s .nilslice :: r) h Q := by
  have key : ∀ {E : Emb} {w : World} {vs : List Value}, Sim E h w → denT E (.s .nilslice :: r) vs → ∃ E', Sim E' (h ++ [.cells true [.ints k 0 g] 0]) w ∧ Since E h w E' (h ++ [.cells true [.ints k 0 g] 0]) w ∧ denT E' (.s (.gs h.length 0 0 0) :: r) vs := fun {E w vs} S ha => by
    obtain ⟨S', N'⟩ := push_nil S (cs := [.ints k 0 g]) ⟨[], rfl, rfl⟩
    refine ⟨_, S', N', ?_⟩
    simp only [denT] at ha ⊢
    obtain ⟨v, l, rfl, h1, h2⟩ := ha
    refine ⟨v, l, rfl, ?_, denT_mono (N'.le S.n S'.n) _ _ h2⟩
    simp only [denE, denV] at h1 ⊢
    rw [← S.n, Emb.push_new]
    exact ⟨by simp [Emb.push], fun _ => ⟨trivial, trivial⟩, by simpa using h1⟩
  have back : ∀ {E E' : Emb} {w w' : World} {e : Ending}, E.n = h.length → E'.n = (h ++ [Blk.cells true [.ints k 0 g] 0]).length → Since E h w E' (h ++ [.cells true [.ints k 0 g] 0]) w → Post E' (h ++ [.cells true [.ints k 0 g] 0]) w Q e w' → Post E h w Q e w' := fun {E E' w w' e} n n' N p => by
    obtain ⟨v, x, h', E'', h1, h2, h3, h4, h5⟩ := p
    exact ⟨v, x, h', E'', h1, h2, h3, N.trans n n' h4, h5⟩
  refine ⟨?_⟩
  rcases d.go with ⟨h1, h2⟩ | h1
  · refine .inl ⟨h1, fun E w vs S ha => ?_⟩
    obtain ⟨E', S', N', ha'⟩ := key S ha
    exact (h2 E' w vs S' ha').mono fun e w' p => back S.n S'.n N' p
  · refine .inr fun E w vs S ha => ?_
    obtain ⟨E', S', N', ha'⟩ := key S ha
    obtain ⟨u, w', h2, h3⟩ := h1 E' w vs S' ha'
    exact ⟨u, w', h2, back S.n S'.n N' h3⟩
end Go.Anv
namespace Go.Proofs.Ytghcdkpgcanpgaa
open Go Go.Anv
set_option maxRecDepth 100000 in
set_option maxHeartbeats 4000000 in
theorem rload_spec (m : Bool) (n c K sp : Nat) (f : Nat → Int) (p : Nat → B8) (hnc : n ≤ c) (hK : n ≤ K) (hn : n ≤ 2 ^ 50) (hp : ∀ j, j < n → f j = (p j).toNat) :
    Does TB 23 [.s (.gs 0 0 n c)] [.cells m [.ints .u8 K f] sp] (Loaded p n (.cells m [.ints .u8 K f] sp)) := by
  refine fnX_does TB Try.func23 rfl (by decide) (fun O on hO => ?_)
  refine Does.at head_spec [] rfl trivial (by decide) ?_ ?_
  · rintro v h' ⟨_, rfl⟩
    exact ⟨.inl rfl, trivial⟩
  rintro v h' ⟨rfl, rfl⟩
  have hg1 : (!bif decide ((n : Int) < 12) then true else decide ((n : Int) > 72000)) = true → 12 ≤ n ∧ n ≤ 72000 := fun g => by
    by_cases h1 : n < 12
    · rw [decide_eq_true (p := (n : Int) < 12) (by omega)] at g; cases g
    · rw [decide_eq_false (p := (n : Int) < 12) (by omega)] at g
      by_cases h2 : n > 72000
      · rw [decide_eq_true (p := (n : Int) > 72000) (by omega)] at g; cases g
      · omega
  have hsk : skip c 0 0 1 = 0 := by unfold skip; split <;> rfl
  refine draw_held on rfl (fun _ _ h => h) ?_
  repeat (refine need_intro (by first | exact fun h => h | exact fun _ => rfl | rfl | (simp; done) | fail) ?_)
  refine need_intro (fun g => by have := hg1 g; exact ⟨by omega, by omega, by omega⟩) ?_
  repeat (refine need_intro (by first | exact fun h => h | exact fun _ => rfl | rfl | (simp; done) | fail) ?_)
  refine need_intro (fun g => by have := hg1 g; show skip c 0 0 1 + 8 ≤ K; omega) ?_
  repeat (refine need_intro (by first | exact fun h => h | exact fun _ => rfl | rfl | (simp; done) | fail) ?_)
  refine need_intro (fun _ => by show 0 + 8 ≤ 8; omega) ?_
  repeat (refine need_intro (by first | exact fun h => h | exact fun _ => rfl | rfl | (simp; done) | fail) ?_)
  have hstr : (bytesOf 8 (shf (skip c 0 0 1) f) != bytesOf 8 (shf 0 (bf magic))) = !eqB 8 p magicF ∨ n < 8 := by
    by_cases h : n < 8
    · exact .inr h
    · refine .inl ?_
      rw [hsk, bne, bytes_beq (p := p) (q := magicF) (fun j hj => by show f (0 + j) = _; rw [Nat.zero_add]; exact hp j (by omega)) (fun j _ => by show bf magic (0 + j) = _; rw [Nat.zero_add]; rfl)]
  refine ifB_intro (fun h1 => ?_) (fun h1 => ?_)
  · replace h1 : (bif bif decide ((n : Int) < 12) then true else decide ((n : Int) > 72000) then true else bytesOf 8 (shf (skip c 0 0 1) f) != bytesOf 8 (shf 0 (bf magic))) = true := h1
    have he : (loadOut p n).1 = 161 := by
      unfold loadOut
      rw [if_pos]
      by_cases h2 : n < 12
      · exact .inl h2
      · rw [decide_eq_false (p := (n : Int) < 12) (by omega)] at h1
        by_cases h3 : n > 72000
        · exact .inr (.inl h3)
        · rw [decide_eq_false (p := (n : Int) > 72000) (by omega)] at h1
          rw [hstr.resolve_right (by omega)] at h1
          exact .inr (.inr (by cases h : eqB 8 p magicF; rfl; rw [h] at h1; cases h1))
    repeat (refine need_intro (by first | exact fun h => h | exact fun _ => rfl | rfl | (simp; done) | fail) ?_)
    exact ⟨.tuple [.agg zwhole, .s (.int .i64 161)], [.cells m [.ints .u8 K f] sp], [0], .inl ⟨by rw [he]; decide, by rw [he]; rfl, rfl⟩, by decide, ⟨rfl, trivial⟩, eqvE_refl _, ⟨_, rfl, eqvB_refl _⟩, trivial⟩
  · replace h1 : (bif bif decide ((n : Int) < 12) then true else decide ((n : Int) > 72000) then true else bytesOf 8 (shf (skip c 0 0 1) f) != bytesOf 8 (shf 0 (bf magic))) = false := h1
    have hb : 12 ≤ n ∧ n ≤ 72000 := by
      by_cases h2 : n < 12
      · rw [decide_eq_true (p := (n : Int) < 12) (by omega)] at h1; cases h1
      · rw [decide_eq_false (p := (n : Int) < 12) (by omega)] at h1
        by_cases h3 : n > 72000
        · rw [decide_eq_true (p := (n : Int) > 72000) (by omega)] at h1; cases h1
        · omega
    have hq : eqB 8 p magicF = true := by
      rw [decide_eq_false (p := (n : Int) < 12) (by omega), decide_eq_false (p := (n : Int) > 72000) (by omega), hstr.resolve_right (by omega)] at h1
      cases h : eqB 8 p magicF; rw [h] at h1; cases h1; rfl
    have hsh : ¬ (n < 12 ∨ 72000 < n ∨ eqB 8 p magicF = false) := by
      rintro (h | h | h)
      · omega
      · omega
      · rw [hq] at h; cases h
    have hw4 : IntKind.i64.wrap ((n : Int) - 4) = ((n - 4 : Nat) : Int) := by rw [i64_in (by omega) (by omega)]; omega
    have ht4 : (IntKind.i64.wrap ((n : Int) - 4)).toNat = n - 4 := by rw [hw4]; rfl
    refine need_intro ⟨by omega, by rw [hw4]; omega, by rw [hw4]; omega⟩ ?_
    refine Does.args (b := [.s (.gs 0 0 (n - 4) c)]) ⟨⟨rfl, hsk, by show (IntKind.i64.wrap ((n : Int) - 4)).toNat - 0 = n - 4; omega, rfl⟩, trivial⟩ ?_
    refine Does.at (rSum_spec m K 0 (n - 4) c sp f p (by omega) (by omega) (fun j hj => by rw [Nat.zero_add]; exact hp j (by omega))) [0] rfl ⟨rfl, trivial⟩ (by decide) ?_ ?_
    · rintro v h' ⟨_, rfl⟩
      exact ⟨.inr (.inr rfl), trivial⟩
    rintro v h' ⟨rfl, rfl⟩
    refine Does.nil1 .u8 (bf []) ?_
    refine num_k 3 (L := []) (c := 0) ((~~~ crcN p (n - 4)).setWidth 64) 4 (wide32 _) (by decide) (by decide) (by decide) rfl rfl ?_
    intro L1 c1 e1 l1 k1
    refine draw_held on rfl (fun _ _ h => h) ?_
    have l4 : L1.length = 4 := by rw [l1]; rfl
    have hsk4 : skip c (n - 4) 0 1 = n - 4 := by unfold skip; rw [if_neg (by omega)]; omega
    refine need_intro (by omega) ?_
    refine need_intro ⟨by rw [hw4]; omega, by rw [hw4]; omega, by omega⟩ ?_
    refine need_intro (by show skip c (IntKind.i64.wrap ((n : Int) - 4)).toNat 0 1 + ((n : Int).toNat - (IntKind.i64.wrap ((n : Int) - 4)).toNat) ≤ K; rw [ht4, hsk4]; omega) ?_
    repeat (refine need_intro (by first | exact fun h => h | exact fun _ => rfl | rfl | (simp; done) | fail) ?_)
    have hss : (bytesOf L1.length (shf 0 (bf L1)) != bytesOf ((n : Int).toNat - (IntKind.i64.wrap ((n : Int) - 4)).toNat) (shf (skip c (IntKind.i64.wrap ((n : Int) - 4)).toNat 0 1) f)) = !(foot p (n - 4) == ~~~ crcN p (n - 4)) := by
      rw [ht4, hsk4, l4, show (n : Int).toNat - (n - 4) = 4 by omega, bne, bytes_beq (n := 4) (f := shf 0 (bf L1)) (g := shf (n - 4) f) (p := footF (~~~ crcN p (n - 4))) (q := fun j => p (n - 4 + j)) (fun j _ => by
        show bf L1 (0 + j) = _; rw [Nat.zero_add, e1]; rfl) (fun j hj => hp _ (by omega)), foot_iff]
    refine ifB_intro (fun h2 => ?_) (fun h2 => ?_)
    · replace h2 := hss.symm.trans h2
      have he : (loadOut p n).1 = 160 := by
        unfold loadOut
        rw [if_neg hsh, if_pos (by simpa using h2)]
      repeat (refine need_intro (by first | exact fun h => h | exact fun _ => rfl | rfl | (simp; done) | fail) ?_)
      exact ⟨.tuple [.agg zwhole, .s (.int .i64 160)], [.cells m [.ints .u8 K f] sp], [0], .inl ⟨by rw [he]; decide, by rw [he]; rfl, rfl⟩, by decide, ⟨rfl, trivial⟩, eqvE_refl _, ⟨_, rfl, eqvB_refl _⟩, trivial⟩
    · replace h2 := hss.symm.trans h2
      have hfo : ¬ foot p (n - 4) ≠ ~~~ crcN p (n - 4) := by simpa using h2
      clear hss e1 l1 k1 l4
      refine need_intro ⟨by omega, by rw [hw4]; omega, by rw [hw4]; omega⟩ ?_
      have hrd : Blk.cells true [.one (.gs 0 (skip c 0 0 1) ((IntKind.i64.wrap ((n : Int) - 4)).toNat - 0) (c - 0)), .one (.int .i64 8), .one (.bool false)] 0 = rrb 0 (n - 4) c startR := by
        rw [ht4, hsk]; rfl
      have hN : n - 4 ≤ 2 ^ 40 := by omega
      have hp' : ∀ j, j < n - 4 → f j = (p j).toNat := fun j hj => hp j (by omega)
      refine Does.at (rrcpu_spec m (n - 4) K sp c f p startR hN (by omega) (by omega) hp' (by show 8 ≤ n - 4; omega)) [5, 0] rfl ⟨congrArg some hrd, rfl, trivial⟩ (by decide) ?_ ?_
      · rintro v h' ⟨_, _, rfl⟩
        exact ⟨.inl rfl, .inr (.inr rfl), trivial⟩
      rintro v h' ⟨ha1, rfl, rfl⟩
      refine need_intro rfl ?_
      refine Does.at (rrdev_spec m (n - 4) K sp c f p startR hN (by omega) (by omega) hp' ha1) [5, 0] rfl ⟨rfl, rfl, trivial⟩ (by decide) ?_ ?_
      · rintro v h' ⟨_, ⟨_, _, _, _, rfl⟩ | ⟨_, _, rfl⟩⟩
        · exact ⟨.inl rfl, .inr (.inr rfl), .inl rfl, .inl rfl, trivial⟩
        · exact ⟨.inl rfl, .inr (.inr rfl), trivial⟩
      have hram := rramR_spec m (n - 4) K sp c f p (bothR p (n - 4) startR) hN (by omega)
      rintro v h' ⟨ha2, ⟨hok, d1, d2, rfl, rfl⟩ | ⟨hok, rfl, rfl⟩⟩
      · refine need_intro rfl ?_
        refine Does.at (hram ha2 (by omega) hp') [5, 0] rfl ⟨rfl, rfl, trivial⟩ (by decide) ?_ ?_
        · rintro v h' (⟨s', mem, _, _, _, _, rfl⟩ | ⟨_, s', _, _, rfl⟩)
          · exact ⟨.inl rfl, .inr (.inr rfl), .inl rfl, trivial⟩
          · exact ⟨.inl rfl, .inr (.inr rfl), trivial⟩
        rintro v h' (⟨⟨a', b'⟩, mem, hR, hs'b, ha', rfl, rfl⟩ | ⟨hR, ⟨a', b'⟩, hs'b, rfl, rfl⟩)
        · replace hs'b : b' = false := hs'b
          subst hs'b
          replace ha' : a' ≤ n - 4 := ha'
          repeat (refine need_intro (by first | exact fun h => h | exact fun _ => rfl | rfl | (simp; done) | fail) ?_)
          refine ifB_intro (fun h3 => ?_) (fun h3 => ?_)
          · replace h3 : ((a' : Int) != IntKind.i64.wrap ((n : Int) - 4)) = true := h3
            rw [hw4, bne_iff_ne] at h3
            have he : (loadOut p n).1 = 161 := by
              unfold loadOut
              rw [if_neg hsh, if_neg hfo, hR]
              exact congrArg Prod.fst (if_pos (show a' ≠ n - 4 by omega))
            repeat (refine need_intro (by first | exact fun h => h | exact fun _ => rfl | rfl | (simp; done) | fail) ?_)
            exact ⟨.tuple [.agg zwhole, .s (.int .i64 161)], [.cells m [.ints .u8 K f] sp], [0], .inl ⟨by rw [he]; decide, by rw [he]; rfl, rfl⟩, by decide, ⟨rfl, trivial⟩, eqvE_refl _, ⟨_, rfl, eqvB_refl _⟩, trivial⟩
          · replace h3 : ((a' : Int) != IntKind.i64.wrap ((n : Int) - 4)) = false := h3
            rw [hw4, bne_eq_false_iff_eq] at h3
            have hlo : loadOut p n = if cpEq (cpuR p (n - 4) startR) = true ∧ (busR (ramN p (n - 4) (bothR p (n - 4) startR)) p (n - 4) startR).can = true then (0, mem) else (162, fun _ => 0#8) := by
              unfold loadOut
              rw [if_neg hsh, if_neg hfo, hR]
              exact if_neg (show ¬ a' ≠ n - 4 by omega)
            have b1 : (loadW p n).ni < 2 ^ 62 := Nat.lt_of_lt_of_le (listN_lt p (n - 4) 1 64 _ (by decide)) (by decide)
            have b2 : (loadW p n).no < 2 ^ 62 := Nat.lt_of_lt_of_le (listN_lt p (n - 4) 2 4096 _ (by decide)) (by decide)
            have b3 : (loadW p n).nr < 2 ^ 62 := Nat.lt_of_lt_of_le (num_small p (n - 4) 4 _ (by decide)) (by decide)
            repeat (refine need_intro (by first | exact fun h => h | exact fun _ => rfl | rfl | (simp; done) | fail) ?_)
            refine (rproper_spec (cpuR p (n - 4) startR) _).mono ?_
            rintro v h' ⟨rfl, rfl⟩
            repeat (refine need_intro (by first | exact fun h => h | exact fun _ => rfl | rfl | (simp; done) | fail) ?_)
            have hck := rcheck_spec (cpuR p (n - 4) startR) (loadW p n) ⟨true, 0, mem, true, d1 - (loadW p n).ni, inR p (n - 4) startR, true, d2 - (loadW p n).no, outR p (n - 4) startR⟩ (loadW p n).nr d1 d2 b1 b2 b3
            cases hc : (loadW p n).can with
            | false =>
              rw [hc] at hck
              have he : (loadOut p n).1 = 162 := by
                rw [hlo]
                exact congrArg Prod.fst (if_neg (fun h => by have := h.2; rw [show (busR (ramN p (n - 4) (bothR p (n - 4) startR)) p (n - 4) startR).can = false from hc] at this; cases this))
              refine Does.at hck [10, 7, 8] rfl ⟨rfl, rfl, rfl, trivial⟩ (by decide) ?_ ?_
              · rintro v h' ⟨_, rfl⟩
                exact ⟨.inr (.inr rfl), .inr (.inr rfl), .inr (.inr rfl), trivial⟩
              rintro v h' ⟨rfl, rfl⟩
              repeat (refine need_intro (by first | exact fun h => h | exact fun _ => rfl | rfl | (simp; done) | fail) ?_)
              exact ⟨.tuple [.agg zwhole, .s (.int .i64 162)], [.cells m [.ints .u8 K f] sp], [0], .inl ⟨by rw [he]; decide, by rw [he]; rfl, rfl⟩, by decide, ⟨rfl, trivial⟩, eqvE_refl _, ⟨_, rfl, eqvB_refl _⟩, trivial⟩
            | true =>
              rw [hc] at hck
              refine Does.at hck [10, 7, 8] rfl ⟨rfl, rfl, rfl, trivial⟩ (by decide) ?_ ?_
              · rintro v h' ⟨_, rfl⟩
                exact ⟨.inr (.inr rfl), .inr (.inr rfl), .inr (.inr rfl), trivial⟩
              rintro v h' ⟨rfl, rfl⟩
              repeat (refine need_intro (by first | exact fun h => h | exact fun _ => rfl | rfl | (simp; done) | fail) ?_)
              refine ifB_intro (fun h6 => ?_) (fun h6 => ?_)
              · have hcp : cpEq (cpuR p (n - 4) startR) = false := by
                  replace h6 : (bif (0 : Int) != 0 then true else !cpEq (cpuR p (n - 4) startR)) = true := h6
                  cases h : cpEq (cpuR p (n - 4) startR)
                  · rfl
                  · rw [h] at h6; exact absurd h6 (by decide)
                have he : (loadOut p n).1 = 162 := by
                  rw [hlo]
                  exact congrArg Prod.fst (if_neg (fun h => by have := h.1; rw [hcp] at this; cases this))
                repeat (refine need_intro (by first | exact fun h => h | exact fun _ => rfl | rfl | (simp; done) | fail) ?_)
                exact ⟨.tuple [.agg zwhole, .s (.int .i64 162)], [.cells m [.ints .u8 K f] sp], [0], .inl ⟨by rw [he]; decide, by rw [he]; rfl, rfl⟩, by decide, ⟨rfl, trivial⟩, eqvE_refl _, ⟨_, rfl, eqvB_refl _⟩, trivial⟩
              · have hcp : cpEq (cpuR p (n - 4) startR) = true := by
                  replace h6 : (bif (0 : Int) != 0 then true else !cpEq (cpuR p (n - 4) startR)) = false := h6
                  cases h : cpEq (cpuR p (n - 4) startR)
                  · rw [h] at h6; exact absurd h6 (by decide)
                  · rfl
                have he : loadOut p n = (0, mem) := by
                  rw [hlo]
                  exact if_pos ⟨hcp, hc⟩
                repeat (refine need_intro (by first | exact fun h => h | exact fun _ => rfl | rfl | (simp; done) | fail) ?_)
                refine ⟨_, _, [0, 10, 7, 8], .inr ⟨by rw [he], (loadW p n).nr, d1, d2, rfl, rfl⟩, by decide, ⟨rfl, trivial⟩, ?_, ⟨_, rfl, eqvB_refl _⟩, ⟨_, rfl, ⟨rfl, (Nat.sub_self _).symm, ?_⟩⟩, ⟨_, rfl, eqvB_refl _⟩, ⟨_, rfl, eqvB_refl _⟩, trivial⟩
                · exact eqvE_refl _
                · rw [he]; exact eqvS_refl _
        · replace hs'b : b' = true := hs'b
          subst hs'b
          have he : (loadOut p n).1 = 161 := by
            unfold loadOut
            rw [if_neg hsh, if_neg hfo, hR]
          repeat (refine need_intro (by first | exact fun h => h | exact fun _ => rfl | rfl | (simp; done) | fail) ?_)
          exact ⟨.tuple [.agg zwhole, .s (.int .i64 161)], [.cells m [.ints .u8 K f] sp], [0], .inl ⟨by rw [he]; decide, by rw [he]; rfl, rfl⟩, by decide, ⟨rfl, trivial⟩, eqvE_refl _, ⟨_, rfl, eqvB_refl _⟩, trivial⟩
      · have hbb : (bothR p (n - 4) startR).bad = true := by
          show (listR p (n - 4) 2 4096 _).bad = true
          rw [listR_bad, hok]; rfl
        have hR : ramR p (n - 4) (bothR p (n - 4) startR) = none := by
          unfold ramR
          rw [if_neg]
          unfold ramOk
          rw [takeR_bad hbb]
          simp
        have he : (loadOut p n).1 = 161 := by
          unfold loadOut
          rw [if_neg hsh, if_neg hfo, hR]
        refine need_intro rfl ?_
        refine Does.at (hram ha2 (by omega) hp') [5, 0] rfl ⟨rfl, rfl, trivial⟩ (by decide) ?_ ?_
        · rintro v h' (⟨s', mem, _, _, _, _, rfl⟩ | ⟨_, s', _, _, rfl⟩)
          · exact ⟨.inl rfl, .inr (.inr rfl), .inl rfl, trivial⟩
          · exact ⟨.inl rfl, .inr (.inr rfl), trivial⟩
        rintro v h' (⟨⟨a', b'⟩, mem, hR2, hs'b, ha', rfl, rfl⟩ | ⟨_, ⟨a', b'⟩, hs'b, rfl, rfl⟩)
        · rw [hR] at hR2; cases hR2
        · replace hs'b : b' = true := hs'b
          subst hs'b
          repeat (refine need_intro (by first | exact fun h => h | exact fun _ => rfl | rfl | (simp; done) | fail) ?_)
          exact ⟨.tuple [.agg zwhole, .s (.int .i64 161)], [.cells m [.ints .u8 K f] sp], [0], .inl ⟨by rw [he]; decide, by rw [he]; rfl, rfl⟩, by decide, ⟨rfl, trivial⟩, eqvE_refl _, ⟨_, rfl, eqvB_refl _⟩, trivial⟩
end Go.Proofs.Ytghcdkpgcanpgaa

/- The law SaveSaves: walked. No condition but the lists' lengths. -/
namespace Go.Anv
open Go
theorem ints_cut (k : IntKind) (n m : Nat) (f g h : Nat → Int) (hg : ∀ j, j < n → f j = g j) (hh : ∀ j, j < m → f (n + j) = h j) (E : Emb) (l : List Value) : denS E [.ints k (n + m) f] l ↔ denS E ([.ints k n g] ++ [.ints k m h]) l := by
  have e : intsOf k (n + m) f = intsOf k n g ++ intsOf k m h := by
    simp only [intsOf]
    rw [List.range_add, List.map_append, List.map_map]
    congr 1
    · exact List.map_congr_left fun j hj => by rw [hg j (List.mem_range.1 hj)]
    · exact List.map_congr_left fun j hj => by simp only [Function.comp_apply]; rw [hh j (List.mem_range.1 hj)]
  simp only [denS, List.cons_append, List.nil_append, e]
  constructor
  · rintro ⟨l', rfl, rfl⟩
    exact ⟨_, by rw [List.append_assoc], _, rfl, rfl⟩
  · rintro ⟨_, rfl, l', rfl, rfl⟩
    exact ⟨_, by rw [List.append_assoc], rfl⟩
end Go.Anv
namespace Go.Proofs.Ytghcdkpgcanpgaa
open Go Go.Anv
def bbOf (m : Bool) (n : Nat) (q : Nat → B8) (sp : Nat) : BB n q := ⟨m, n, bfun q, sp, Nat.le_refl _, fun _ _ => rfl⟩
def bbMark (n c : Nat) (q : Nat → B8) : BB n q := ⟨true, (marked (lst q n) 64).length, bf (marked (lst q n) 64), c - (marked (lst q n) 64).length, by rw [marked_len, lst_len]; omega,
  fun j hj => by rw [marked_left (lst q n) (by rw [lst_len]; exact hj)]; exact (bf_lst q n j hj).symm⟩
set_option maxRecDepth 100000 in
set_option maxHeartbeats 4000000 in
theorem saveSaves_law (cp : CpuV) (s : BusV) (l : Lists) (cr ci co : Nat) (hnr : s.nr ≤ 140737488351232) (hni : s.ni ≤ 140737488351232) (hno : s.no ≤ 140737488351232) (hcr : s.nr ≤ cr) (hei : ends l.inp s.ni) (heo : ends l.out s.no) (hro : l.mr = false ∧ l.mi = false ∧ l.mo = false) :
    Does TB 6 [.agg (wsegs cp s (.gs 0 0 s.nr cr) (.gs 1 0 s.ni ci) (.gs 2 0 s.no co))] (l.blks s) (fun v h' => v = .s (.bool true) ∧ h' = l.blks s) := by
  refine fnX_does TB Try.func6 rfl (by decide) (fun O on hO => ?_)
  refine Does.at (twin_spec cp s l cr ci co (by omega) (by omega) (by omega)) [0, 1, 2] rfl ⟨rfl, rfl, rfl, trivial⟩ (by decide) ?_ ?_
  · rintro v h' ⟨c3, c4, c5, _, _, _, _, rfl⟩
    exact ⟨.inr (.inr rfl), .inr (.inr rfl), .inr (.inr rfl), .inl rfl, .inl rfl, .inl rfl, trivial⟩
  rintro v h' ⟨c3, c4, c5, k3, k4, k5, rfl, rfl⟩
  refine need_intro rfl ?_
  refine Does.at (loose_spec l.mr s.nr cr l.sr l.ram (by omega)) [0] rfl ⟨rfl, trivial⟩ (by decide) ?_ ?_
  · rintro v h' ⟨c', _, _, rfl⟩
    exact ⟨.inr (.inr rfl), .inl rfl, trivial⟩
  rintro v h' ⟨c6, k6, rfl, rfl⟩
  have hml : (marked (lst l.ram s.nr) 64).length = s.nr + 64 := by rw [marked_len, lst_len]
  rw [hml] at k6
  refine need_intro ⟨by omega, by show (0 : Int) ≤ (s.nr : Int); omega, by show (s.nr : Int) ≤ (c6 : Int); omega⟩ ?_
  have hsk : skip c6 0 0 1 = 0 := by unfold skip; split <;> rfl
  refine Does.args (b := [.agg (wsegs cp s (.gs 8 0 s.nr c6) (.gs 5 0 s.ni c4) (.gs 6 0 s.no c5))]) ⟨?_, trivial⟩ ?_
  · show eqvS _ _
    repeat' (first | exact eqvS_nil | refine eqvS_same ?_ | refine eqvS_gs ⟨rfl, hsk, ?_, rfl⟩ ?_)
    show (s.nr : Int).toNat - 0 = s.nr
    omega
  have hs1 : ∀ E z, denS E [.ints .u8 (marked (lst l.ram s.nr) 64).length (bf (marked (lst l.ram s.nr) 64))] z ↔ denS E ([.ints .u8 s.nr (bfun l.ram)] ++ [.ints .u8 64 (fun j => bf (marked (lst l.ram s.nr) 64) (s.nr + j))]) z := by
    intro E z
    rw [hml]
    exact ints_cut .u8 s.nr 64 _ _ _ (fun j hj => by rw [marked_left (lst l.ram s.nr) (by rw [lst_len]; exact hj)]; exact (bf_lst l.ram s.nr j hj).symm) (fun _ _ => rfl) E z
  have hsv := save_spec cp s { l with mr := true, sr := 0, mi := true, si := c4 - s.ni, mo := true, so := c5 - s.no } c6 c4 c5 (by omega) (by omega) (by omega) (by omega)
  have hrv := rsave_spec cp s l cr ci co (by omega) (by omega) (by omega) hcr hei heo
  unfold Saved at hsv hrv
  have hkl := fun c => kept_spec l.mr s.nr c c6 cr l.sr l.ram (by omega) (by omega)
  cases hc : s.can with
  | false =>
    rw [hc] at hsv hrv
    refine Does.partAt hsv [9, 5, 6] 8 9 [] [.ints .u8 s.nr (bfun l.ram)] [.ints .u8 64 (fun j => bf (marked (lst l.ram s.nr) 64) (s.nr + j))] rfl rfl (fun E z => (hs1 E z).1) ⟨rfl, rfl, rfl, trivial⟩ ⟨?_, trivial⟩ (by decide) ?_ ?_ ?_
    · show partS _ _ _ _ _
      repeat' (first | exact trivial | refine ⟨rfl, ?_⟩ | refine ⟨⟨rfl, rfl, rfl⟩, ?_⟩ | refine ⟨⟨.inl ⟨rfl, rfl⟩, rfl, rfl⟩, ?_⟩ | refine ⟨⟨.inr ⟨rfl, rfl, rfl⟩, rfl, rfl⟩, ?_⟩)
    · rintro v h' ⟨_, rfl⟩
      exact ⟨.inr (.inr rfl), .inr (.inr rfl), .inr (.inr rfl), trivial⟩
    · rintro v h' ⟨_, rfl⟩
      exact Nat.le_refl _
    rintro v h' ⟨rfl, rfl⟩
    refine ⟨_, _, rfl, rfl, fun E z => (hs1 E z).2, ?_⟩
    refine Does.at hrv [0, 1, 2] rfl ⟨rfl, rfl, rfl, trivial⟩ (by decide) ?_ ?_
    · rintro v h' ⟨_, rfl⟩
      exact ⟨.inr (.inr rfl), .inr (.inr rfl), .inr (.inr rfl), trivial⟩
    rintro v h' ⟨rfl, rfl⟩
    refine (num16_spec _ _).mono ?_
    rintro v h' ⟨rfl, rfl⟩
    repeat (refine need_intro (by first | exact fun h => h | exact fun _ => rfl | rfl | simp) ?_)
    refine Does.ungd (b := [_, _]) ⟨⟨rfl, rfl⟩, ⟨rfl, rfl⟩, trivial⟩ ?_
    refine (same_nil _).mono ?_
    rintro v h' ⟨rfl, rfl⟩
    repeat (refine need_intro (by first | exact fun h => h | exact fun _ => rfl | rfl | simp) ?_)
    refine Does.ungd (b := [_, _]) ⟨⟨rfl, rfl⟩, ⟨rfl, rfl⟩, trivial⟩ ?_
    refine Does.at (hkl c6) [8, 0] rfl ⟨rfl, rfl, trivial⟩ (by decide) ?_ ?_
    · rintro v h' ⟨_, rfl⟩
      exact ⟨.inr (.inr rfl), .inr (.inr rfl), trivial⟩
    rintro v h' ⟨rfl, rfl⟩
    repeat (refine need_intro (by first | exact fun h => h | exact fun _ => rfl | rfl | simp) ?_)
    refine Does.ungd (b := [_, _]) ⟨⟨rfl, rfl⟩, ⟨rfl, rfl⟩, trivial⟩ ?_
    refine Does.args (b := [.agg (wsegs cp s (.gs 8 0 s.nr c6) (.gs 5 0 s.ni c4) (.gs 6 0 s.no c5)), .agg (wsegs cp s (.gs 0 0 s.nr cr) (.gs 1 0 s.ni ci) (.gs 2 0 s.no co))]) ⟨?_, eqvE_refl _, trivial⟩ ?_
    · show eqvS _ _
      repeat' (first | exact eqvS_nil | refine eqvS_same ?_ | refine eqvS_gs ⟨rfl, hsk, ?_, rfl⟩ ?_)
      show (s.nr : Int).toNat - 0 = s.nr
      omega
    refine Does.at (alike_spec cp s l (bbMark s.nr c6 l.ram) (bbOf l.mr s.nr l.ram l.sr) (bbOf true s.ni l.inp (c4 - s.ni)) (bbOf l.mi s.ni l.inp l.si) (bbOf true s.no l.out (c5 - s.no)) (bbOf l.mo s.no l.out l.so) c6 c4 c5 cr ci co) [8, 5, 6, 0, 1, 2] rfl ⟨rfl, rfl, rfl, rfl, rfl, rfl, trivial⟩ (by decide) ?_ ?_
    · rintro v h' ⟨_, rfl⟩
      exact ⟨.inr (.inr rfl), .inr (.inr rfl), .inr (.inr rfl), .inr (.inr rfl), .inr (.inr rfl), .inr (.inr rfl), trivial⟩
    rintro v h' ⟨rfl, rfl⟩
    repeat (refine need_intro (by first | exact fun h => h | exact fun _ => rfl | rfl | simp) ?_)
    refine loop_in (A := Nat) on (fun i => [(1, .junk), (3, .junk), (4, .s (.gs 3 0 (s.nr + 64) c6)), (5, .s .nilslice), (7, .s .nilslice), (9, .s (.int .i64 (i : Int))), (10, .junk), (11, .junk), (12, .junk), (13, .junk), (14, .junk), (15, .junk), (16, .junk), (17, .junk), (18, .junk), (19, .junk), (20, .junk), (21, .junk), (22, .junk), (23, .junk), (24, .junk), (25, .junk), (26, .junk), (27, .junk), (28, .junk), (29, .junk), (30, .junk), (31, .junk), (32, .junk), (33, .junk), (34, .junk), (35, .junk), (36, .junk), (37, .junk), (38, .junk), (39, .junk), (40, .junk), (41, .junk), (42, .junk), (43, .junk), (44, .junk), (45, .junk), (46, .junk), (47, .junk), (48, .junk), (49, .junk), (50, .junk), (51, .junk), (52, .junk), (53, .junk), (54, .junk), (55, .junk), (56, .junk), (57, .junk)])
      (fun i => l.blks s ++ [.cells true [.ints .u8 (marked (lst l.ram s.nr) 64).length (fun j => if j < i then 238 else bf (marked (lst l.ram s.nr) 64) j)] (c6 - (marked (lst l.ram s.nr) 64).length)]) (fun i => i ≤ s.nr + 64) (fun i => s.nr + 64 - i) 0 (Nat.zero_le _) [0, 1, 2, 8] ?_ ?_
    · rw [hO]
      refine ⟨by decide, ⟨rfl, rfl, rfl, trivial⟩, ?_, ?_⟩
      · repeat' (first | exact eqvT_nil | refine eqvT_junk ?_ | refine eqvT_same ?_ | refine eqvT_int ?_ ?_ | refine eqvT_gs ⟨rfl, rfl, ?_, rfl⟩ ?_)
      · exact ⟨⟨_, rfl, eqvB_refl _⟩, ⟨_, rfl, eqvB_refl _⟩, ⟨_, rfl, eqvB_refl _⟩, ⟨_, rfl, eqvB_refl _⟩, trivial⟩
    intro i hi
    refine ifB_intro (fun h1 => ?_) (fun h1 => ?_)
    · have hlt : i < s.nr + 64 := by
        have h2 : (i : Int) < ((s.nr + 64 : Nat) : Int) := of_decide_eq_true h1
        omega
      refine need_intro ⟨by omega, by omega⟩ ?_
      refine need_intro (by rw [hml]; omega) ?_
      refine ⟨i + 1, ?_, ?_, [0, 1, 2, 3], ?_⟩
      · show i + 1 ≤ s.nr + 64; omega
      · show s.nr + 64 - (i + 1) < s.nr + 64 - i; omega
      · rw [hO]
        refine ⟨by decide, ⟨rfl, rfl, rfl, trivial⟩, ?_, ⟨_, rfl, eqvB_refl _⟩, ⟨_, rfl, eqvB_refl _⟩, ⟨_, rfl, eqvB_refl _⟩, ⟨_, rfl, ⟨rfl, rfl, ⟨⟨rfl, rfl, ?_⟩, trivial⟩⟩⟩, trivial⟩
        · repeat' (first | exact eqvT_nil | refine eqvT_junk ?_ | refine eqvT_same ?_ | refine eqvT_int ?_ ?_)
          rw [i64_in (by omega) (by omega)]; rfl
        · intro j _
          show (if j = 0 + (i : Int).toNat then (238 : Int) else if j < i then 238 else bf _ j) = if j < i + 1 then 238 else bf _ j
          have hi2 : (i : Int).toNat = i := rfl
          rw [hi2, Nat.zero_add]
          by_cases hj : j < i
          · rw [if_neg (by omega), if_pos hj, if_pos (by omega)]
          · by_cases hj2 : j = i
            · rw [if_pos hj2, if_pos (by omega)]
            · rw [if_neg hj2, if_neg hj, if_neg (by omega)]
    · refine (same_nil _).mono ?_
      rintro v h' ⟨rfl, rfl⟩
      exact ⟨.s (.bool true), l.blks s, [0, 1, 2], ⟨rfl, rfl⟩, by decide, ⟨rfl, rfl, rfl, trivial⟩, eqvE_refl _, ⟨⟨_, rfl, eqvB_refl _⟩, ⟨_, rfl, eqvB_refl _⟩, ⟨_, rfl, eqvB_refl _⟩, trivial⟩⟩
  | true =>
    rw [hc] at hsv hrv
    simp only at hsv hrv
    generalize hZ : snap cp s l.ram l.inp l.out = Z at hsv hrv
    clear hZ
    refine Does.partAt hsv [9, 5, 6] 8 9 [] [.ints .u8 s.nr (bfun l.ram)] [.ints .u8 64 (fun j => bf (marked (lst l.ram s.nr) 64) (s.nr + j))] rfl rfl (fun E z => (hs1 E z).1) ⟨rfl, rfl, rfl, trivial⟩ ⟨?_, trivial⟩ (by decide) ?_ ?_ ?_
    · show partS _ _ _ _ _
      repeat' (first | exact trivial | refine ⟨rfl, ?_⟩ | refine ⟨⟨rfl, rfl, rfl⟩, ?_⟩ | refine ⟨⟨.inl ⟨rfl, rfl⟩, rfl, rfl⟩, ?_⟩ | refine ⟨⟨.inr ⟨rfl, rfl, rfl⟩, rfl, rfl⟩, ?_⟩)
    · rintro v h' ⟨c', _, _, _, rfl⟩
      exact ⟨.inr (.inr rfl), .inr (.inr rfl), .inr (.inr rfl), .inl rfl, trivial⟩
    · rintro v h' ⟨c', _, _, _, rfl⟩
      exact Nat.le_succ _
    rintro v h' ⟨c8, k8, b8, rfl, rfl⟩
    refine ⟨_, _, rfl, rfl, fun E z => (hs1 E z).2, ?_⟩
    refine Does.at hrv [0, 1, 2] rfl ⟨rfl, rfl, rfl, trivial⟩ (by decide) ?_ ?_
    · rintro v h' ⟨c', _, _, _, rfl⟩
      exact ⟨.inr (.inr rfl), .inr (.inr rfl), .inr (.inr rfl), .inl rfl, trivial⟩
    rintro v h' ⟨c9, k9, b9, rfl, rfl⟩
    refine (num16_spec _ _).mono ?_
    rintro v h' ⟨rfl, rfl⟩
    repeat (refine need_intro (by first | exact fun h => h | exact fun _ => rfl | rfl | simp) ?_)
    refine Does.ungd (b := [_, _]) ⟨⟨rfl, rfl⟩, ⟨rfl, rfl⟩, trivial⟩ ?_
    refine same_k 10 11 rfl rfl rfl (by decide) (Nat.le_of_eq (Nat.zero_add _)) (Nat.le_of_eq (Nat.zero_add _)) (fun _ _ => rfl) ?_
    repeat (refine need_intro (by first | exact fun h => h | exact fun _ => rfl | rfl | simp) ?_)
    refine Does.ungd (b := [_, _]) ⟨⟨rfl, rfl⟩, ⟨rfl, rfl⟩, trivial⟩ ?_
    refine Does.at (hkl c6) [8, 0] rfl ⟨rfl, rfl, trivial⟩ (by decide) ?_ ?_
    · rintro v h' ⟨_, rfl⟩
      exact ⟨.inr (.inr rfl), .inr (.inr rfl), trivial⟩
    rintro v h' ⟨rfl, rfl⟩
    repeat (refine need_intro (by first | exact fun h => h | exact fun _ => rfl | rfl | simp) ?_)
    refine Does.ungd (b := [_, _]) ⟨⟨rfl, rfl⟩, ⟨rfl, rfl⟩, trivial⟩ ?_
    refine Does.args (b := [.agg (wsegs cp s (.gs 8 0 s.nr c6) (.gs 5 0 s.ni c4) (.gs 6 0 s.no c5)), .agg (wsegs cp s (.gs 0 0 s.nr cr) (.gs 1 0 s.ni ci) (.gs 2 0 s.no co))]) ⟨?_, eqvE_refl _, trivial⟩ ?_
    · show eqvS _ _
      repeat' (first | exact eqvS_nil | refine eqvS_same ?_ | refine eqvS_gs ⟨rfl, hsk, ?_, rfl⟩ ?_)
      show (s.nr : Int).toNat - 0 = s.nr
      omega
    refine Does.at (alike_spec cp s l (bbMark s.nr c6 l.ram) (bbOf l.mr s.nr l.ram l.sr) (bbOf true s.ni l.inp (c4 - s.ni)) (bbOf l.mi s.ni l.inp l.si) (bbOf true s.no l.out (c5 - s.no)) (bbOf l.mo s.no l.out l.so) c6 c4 c5 cr ci co) [8, 5, 6, 0, 1, 2] rfl ⟨rfl, rfl, rfl, rfl, rfl, rfl, trivial⟩ (by decide) ?_ ?_
    · rintro v h' ⟨_, rfl⟩
      exact ⟨.inr (.inr rfl), .inr (.inr rfl), .inr (.inr rfl), .inr (.inr rfl), .inr (.inr rfl), .inr (.inr rfl), trivial⟩
    rintro v h' ⟨rfl, rfl⟩
    repeat (refine need_intro (by first | exact fun h => h | exact fun _ => rfl | rfl | simp) ?_)
    refine loop_in (A := Nat) on (fun i => [(1, .junk), (3, .junk), (4, .s (.gs 3 0 (s.nr + 64) c6)), (5, .s (.gs 4 0 Z.length c8)), (7, .s (.gs 5 0 Z.length c9)), (9, .s (.int .i64 (i : Int))), (10, .junk), (11, .junk), (12, .junk), (13, .junk), (14, .junk), (15, .junk), (16, .junk), (17, .junk), (18, .junk), (19, .junk), (20, .junk), (21, .junk), (22, .junk), (23, .junk), (24, .junk), (25, .junk), (26, .junk), (27, .junk), (28, .junk), (29, .junk), (30, .junk), (31, .junk), (32, .junk), (33, .junk), (34, .junk), (35, .junk), (36, .junk), (37, .junk), (38, .junk), (39, .junk), (40, .junk), (41, .junk), (42, .junk), (43, .junk), (44, .junk), (45, .junk), (46, .junk), (47, .junk), (48, .junk), (49, .junk), (50, .junk), (51, .junk), (52, .junk), (53, .junk), (54, .junk), (55, .junk), (56, .junk), (57, .junk)])
      (fun i => l.blks s ++ [.cells true [.ints .u8 (marked (lst l.ram s.nr) 64).length (fun j => if j < i then 238 else bf (marked (lst l.ram s.nr) 64) j)] (c6 - (marked (lst l.ram s.nr) 64).length), lb Z c8, lb Z c9]) (fun i => i ≤ s.nr + 64) (fun i => s.nr + 64 - i) 0 (Nat.zero_le _) [0, 1, 2, 8, 10, 11] ?_ ?_
    · rw [hO]
      refine ⟨by decide, ⟨rfl, rfl, rfl, trivial⟩, ?_, ?_⟩
      · repeat' (first | exact eqvT_nil | refine eqvT_junk ?_ | refine eqvT_same ?_ | refine eqvT_int ?_ ?_ | refine eqvT_gs ⟨rfl, rfl, ?_, rfl⟩ ?_)
      · exact ⟨⟨_, rfl, eqvB_refl _⟩, ⟨_, rfl, eqvB_refl _⟩, ⟨_, rfl, eqvB_refl _⟩, ⟨_, rfl, eqvB_refl _⟩, ⟨_, rfl, eqvB_refl _⟩, ⟨_, rfl, eqvB_refl _⟩, trivial⟩
    intro i hi
    refine ifB_intro (fun h1 => ?_) (fun h1 => ?_)
    · have hlt : i < s.nr + 64 := by
        have h2 : (i : Int) < ((s.nr + 64 : Nat) : Int) := of_decide_eq_true h1
        omega
      refine need_intro ⟨by omega, by omega⟩ ?_
      refine need_intro (by rw [hml]; omega) ?_
      refine ⟨i + 1, ?_, ?_, [0, 1, 2, 3, 4, 5], ?_⟩
      · show i + 1 ≤ s.nr + 64; omega
      · show s.nr + 64 - (i + 1) < s.nr + 64 - i; omega
      · rw [hO]
        refine ⟨by decide, ⟨rfl, rfl, rfl, trivial⟩, ?_, ⟨_, rfl, eqvB_refl _⟩, ⟨_, rfl, eqvB_refl _⟩, ⟨_, rfl, eqvB_refl _⟩, ⟨_, rfl, ⟨rfl, rfl, ⟨⟨rfl, rfl, ?_⟩, trivial⟩⟩⟩, ⟨_, rfl, eqvB_refl _⟩, ⟨_, rfl, eqvB_refl _⟩, trivial⟩
        · repeat' (first | exact eqvT_nil | refine eqvT_junk ?_ | refine eqvT_same ?_ | refine eqvT_int ?_ ?_)
          rw [i64_in (by omega) (by omega)]; rfl
        · intro j _
          show (if j = 0 + (i : Int).toNat then (238 : Int) else if j < i then 238 else bf _ j) = if j < i + 1 then 238 else bf _ j
          have hi2 : (i : Int).toNat = i := rfl
          rw [hi2, Nat.zero_add]
          by_cases hj : j < i
          · rw [if_neg (by omega), if_pos hj, if_pos (by omega)]
          · by_cases hj2 : j = i
            · rw [if_pos hj2, if_pos (by omega)]
            · rw [if_neg hj2, if_neg hj, if_neg (by omega)]
    · refine same_k 4 5 rfl rfl rfl (by decide) (Nat.le_of_eq (Nat.zero_add _)) (Nat.le_of_eq (Nat.zero_add _)) (fun _ _ => rfl) ?_
      exact ⟨.s (.bool true), l.blks s, [0, 1, 2], ⟨rfl, rfl⟩, by decide, ⟨rfl, rfl, rfl, trivial⟩, eqvE_refl _, ⟨⟨_, rfl, eqvB_refl _⟩, ⟨_, rfl, eqvB_refl _⟩, ⟨_, rfl, eqvB_refl _⟩, trivial⟩⟩
end Go.Proofs.Ytghcdkpgcanpgaa

/- The law SaveLoads: walked. No condition but the bytes' number. -/
namespace Go.Proofs.Ytghcdkpgcanpgaa
open Go Go.Anv
set_option maxRecDepth 100000 in
theorem buses_zero (h : List Blk) : Does TB 51 [.agg zbus, .agg zbus] h (fun v h' => v = .s (.bool true) ∧ h' = h) := by
  refine fnX_pure TB Try.func51 rfl (by decide) rfl _ rfl (fun O on => ?_) h
  refine (same_nil _).mono ?_
  rintro v h' ⟨rfl, rfl⟩
  repeat (refine need_intro (by first | exact fun h => h | exact fun _ => rfl | rfl | (simp; done) | fail) ?_)
  refine Does.ungd (b := [_, _]) ⟨⟨rfl, rfl⟩, ⟨rfl, rfl⟩, trivial⟩ ?_
  refine (same_nil _).mono ?_
  rintro v h' ⟨rfl, rfl⟩
  repeat (refine need_intro (by first | exact fun h => h | exact fun _ => rfl | rfl | (simp; done) | fail) ?_)
  refine Does.ungd (b := [_, _]) ⟨⟨rfl, rfl⟩, ⟨rfl, rfl⟩, trivial⟩ ?_
  refine (same_nil _).mono ?_
  rintro v h' ⟨rfl, rfl⟩
  repeat (refine need_intro (by first | exact fun h => h | exact fun _ => rfl | rfl | (simp; done) | fail) ?_)
  exact eqvE_refl _
set_option maxRecDepth 100000 in
theorem alike_zero (h : List Blk) : Does TB 21 [.agg zwhole, .agg zwhole] h (fun v h' => v = .s (.bool true) ∧ h' = h) := by
  refine fnX_pure TB Try.func21 rfl (by decide) rfl _ rfl (fun O on => ?_) h
  repeat (refine need_intro (by first | exact fun h => h | exact fun _ => rfl | rfl | (simp; done) | fail) ?_)
  refine Does.ungd (b := [.agg zbus, .agg zbus]) ⟨⟨rfl, rfl⟩, ⟨rfl, rfl⟩, trivial⟩ ?_
  refine (buses_zero _).mono ?_
  rintro v h' ⟨rfl, rfl⟩
  repeat (refine need_intro (by first | exact fun h => h | exact fun _ => rfl | rfl | (simp; done) | fail) ?_)
  exact (rfl : (_ : Bool) = true)
set_option maxRecDepth 100000 in
set_option maxHeartbeats 4000000 in
theorem saveLoads_law (n cap : Nat) (q : Nat → B8) (hn : n ≤ 140737488351232) (hcap : n ≤ cap) :
    Does TB 7 [.s (.gs 0 0 n cap)] [bblk false n q 0] (fun v h' => v = .s (.bool true) ∧ h' = [bblk false n q 0]) := by
  refine fnX_does TB Try.func7 rfl (by decide) (fun O on hO => ?_)
  refine Does.at (loose_spec false n cap 0 q (by omega)) [0] rfl ⟨rfl, trivial⟩ (by decide) ?_ ?_
  · rintro v h' ⟨c', _, _, rfl⟩
    exact ⟨.inr (.inr rfl), .inl rfl, trivial⟩
  rintro v h' ⟨c6, k6, rfl, rfl⟩
  have hml : (marked (lst q n) 64).length = n + 64 := by rw [marked_len, lst_len]
  rw [hml] at k6
  refine need_intro ⟨by omega, by show (0 : Int) ≤ (n : Int); omega, by show (n : Int) ≤ (c6 : Int); omega⟩ ?_
  have hsk : skip c6 0 0 1 = 0 := by unfold skip; split <;> rfl
  refine Does.args (b := [.s (.gs 1 0 n c6)]) ⟨⟨rfl, hsk, by show (n : Int).toNat - 0 = n; omega, rfl⟩, trivial⟩ ?_
  have hld := load_spec true n c6 (marked (lst q n) 64).length (c6 - (marked (lst q n) 64).length) (bf (marked (lst q n) 64)) q (by omega) (by omega) (by omega) (fun j hj => by rw [marked_left (lst q n) (by rw [lst_len]; exact hj)]; exact (bf_lst q n j hj).symm)
  have hrl := rload_spec false n cap n 0 (bfun q) q hcap (Nat.le_refl _) (by omega) (fun _ _ => rfl)
  have hkp := kept_spec false n c6 c6 cap 0 q (by omega) (by omega)
  unfold Loaded at hld hrl
  by_cases hz : (loadOut q n).1 = 0
  · skip
    refine Does.at hld [1] rfl ⟨rfl, trivial⟩ (by decide) ?_ ?_
    · rintro v h' (⟨_, _, rfl⟩ | ⟨_, _, _, _, _, rfl⟩)
      · exact ⟨.inr (.inr rfl), trivial⟩
      · exact ⟨.inr (.inr rfl), .inl rfl, .inl rfl, .inl rfl, trivial⟩
    rintro v h' (⟨h, _, _⟩ | ⟨_, r1, i1, o1, rfl, rfl⟩)
    · exact absurd hz h
    refine need_intro rfl ?_
    refine Does.at hrl [0] rfl ⟨rfl, trivial⟩ (by decide) ?_ ?_
    · rintro v h' (⟨_, _, rfl⟩ | ⟨_, _, _, _, _, rfl⟩)
      · exact ⟨.inr (.inr rfl), trivial⟩
      · exact ⟨.inr (.inr rfl), .inl rfl, .inl rfl, .inl rfl, trivial⟩
    rintro v h' (⟨h, _, _⟩ | ⟨_, r2, i2, o2, rfl, rfl⟩)
    · exact absurd hz h
    refine need_intro rfl ?_
    refine (num16_spec _ _).mono ?_
    rintro v h' ⟨rfl, rfl⟩
    repeat (refine need_intro (by first | exact fun h => h | exact fun _ => rfl | rfl | (simp; done) | fail) ?_)
    skip
    refine Does.ungd (b := [_, _]) ⟨⟨by first | rfl | simp, rfl⟩, ⟨by first | rfl | simp, rfl⟩, trivial⟩ ?_
    refine Does.at hkp [1, 0] rfl ⟨rfl, rfl, trivial⟩ (by decide) ?_ ?_
    · rintro v h' ⟨_, rfl⟩
      exact ⟨.inr (.inr rfl), .inr (.inr rfl), trivial⟩
    rintro v h' ⟨rfl, rfl⟩
    repeat (refine need_intro (by first | exact fun h => h | exact fun _ => rfl | rfl | (simp; done) | fail) ?_)
    skip
    refine loop_in (A := Nat) on (fun i => [(3, .s (.gs 1 0 (n + 64) c6)), (8, .s (.int .i64 (i : Int)))])
      (fun i => [bblk false n q 0, .cells true [.ints .u8 (marked (lst q n) 64).length (fun j => if j < i then 238 else bf (marked (lst q n) 64) j)] (c6 - (marked (lst q n) 64).length), bblk true (loadW q n).nr (loadOut q n).2 (r1 - (loadW q n).nr), bblk true (loadW q n).ni (inR q (n - 4) startR) (i1 - (loadW q n).ni), bblk true (loadW q n).no (outR q (n - 4) startR) (o1 - (loadW q n).no), .cells true (wsegs (cpuR q (n - 4) startR) (loadW q n) (.gs 2 0 (loadW q n).nr r1) (.gs 3 0 (loadW q n).ni i1) (.gs 4 0 (loadW q n).no o1)) 0, bblk true (loadW q n).nr (loadOut q n).2 (r2 - (loadW q n).nr), bblk true (loadW q n).ni (inR q (n - 4) startR) (i2 - (loadW q n).ni), bblk true (loadW q n).no (outR q (n - 4) startR) (o2 - (loadW q n).no), .cells true (wsegs (cpuR q (n - 4) startR) (loadW q n) (.gs 6 0 (loadW q n).nr r2) (.gs 7 0 (loadW q n).ni i2) (.gs 8 0 (loadW q n).no o2)) 0]) (fun i => i ≤ n + 64) (fun i => n + 64 - i) 0 (Nat.zero_le _) [0, 1, 2, 3, 4, 5, 6, 7, 8, 9] ?_ ?_
    · rw [hO]
      refine ⟨by decide, ⟨rfl, trivial⟩, ?_, ?_⟩
      · repeat' (first | exact eqvT_nil | refine eqvT_junk ?_ | refine eqvT_same ?_ | refine eqvT_int ?_ ?_ | refine eqvT_gs ⟨rfl, rfl, ?_, rfl⟩ ?_)
      · exact ⟨⟨_, rfl, eqvB_refl _⟩, ⟨_, rfl, eqvB_refl _⟩, ⟨_, rfl, eqvB_refl _⟩, ⟨_, rfl, eqvB_refl _⟩, ⟨_, rfl, eqvB_refl _⟩, ⟨_, rfl, eqvB_refl _⟩, ⟨_, rfl, eqvB_refl _⟩, ⟨_, rfl, eqvB_refl _⟩, ⟨_, rfl, eqvB_refl _⟩, ⟨_, rfl, eqvB_refl _⟩, trivial⟩
    intro i hi
    refine ifB_intro (fun h1 => ?_) (fun h1 => ?_)
    · have hlt : i < n + 64 := by
        have h2 : (i : Int) < ((n + 64 : Nat) : Int) := of_decide_eq_true h1
        omega
      refine need_intro ⟨by omega, by omega⟩ ?_
      refine need_intro (by rw [hml]; omega) ?_
      refine ⟨i + 1, ?_, ?_, [0, 1, 2, 3, 4, 5, 6, 7, 8, 9], ?_⟩
      · show i + 1 ≤ n + 64; omega
      · show n + 64 - (i + 1) < n + 64 - i; omega
      · rw [hO]
        refine ⟨by decide, ⟨rfl, trivial⟩, ?_, ⟨_, rfl, eqvB_refl _⟩, ⟨_, rfl, ⟨rfl, rfl, ⟨⟨rfl, rfl, ?_⟩, trivial⟩⟩⟩, ⟨_, rfl, eqvB_refl _⟩, ⟨_, rfl, eqvB_refl _⟩, ⟨_, rfl, eqvB_refl _⟩, ⟨_, rfl, eqvB_refl _⟩, ⟨_, rfl, eqvB_refl _⟩, ⟨_, rfl, eqvB_refl _⟩, ⟨_, rfl, eqvB_refl _⟩, ⟨_, rfl, eqvB_refl _⟩, trivial⟩
        · repeat' (first | exact eqvT_nil | refine eqvT_junk ?_ | refine eqvT_same ?_ | refine eqvT_int ?_ ?_)
          rw [i64_in (by omega) (by omega)]; rfl
        · intro j _
          show (if j = 0 + (i : Int).toNat then (238 : Int) else if j < i then 238 else bf _ j) = if j < i + 1 then 238 else bf _ j
          have hi2 : (i : Int).toNat = i := rfl
          rw [hi2, Nat.zero_add]
          by_cases hj : j < i
          · rw [if_neg (by omega), if_pos hj, if_pos (by omega)]
          · by_cases hj2 : j = i
            · rw [if_pos hj2, if_pos (by omega)]
            · rw [if_neg hj2, if_neg hj, if_neg (by omega)]
    · refine Does.at (alike_spec (cpuR q (n - 4) startR) (loadW q n) ⟨true, 0, (loadOut q n).2, true, 0, inR q (n - 4) startR, true, 0, outR q (n - 4) startR⟩ (bbOf true (loadW q n).nr (loadOut q n).2 (r1 - (loadW q n).nr)) (bbOf true (loadW q n).nr (loadOut q n).2 (r2 - (loadW q n).nr)) (bbOf true (loadW q n).ni (inR q (n - 4) startR) (i1 - (loadW q n).ni)) (bbOf true (loadW q n).ni (inR q (n - 4) startR) (i2 - (loadW q n).ni)) (bbOf true (loadW q n).no (outR q (n - 4) startR) (o1 - (loadW q n).no)) (bbOf true (loadW q n).no (outR q (n - 4) startR) (o2 - (loadW q n).no)) r1 i1 o1 r2 i2 o2) [2, 3, 4, 6, 7, 8] rfl ⟨rfl, rfl, rfl, rfl, rfl, rfl, trivial⟩ (by decide) ?_ ?_
      · rintro v h' ⟨_, rfl⟩
        exact ⟨.inr (.inr rfl), .inr (.inr rfl), .inr (.inr rfl), .inr (.inr rfl), .inr (.inr rfl), .inr (.inr rfl), trivial⟩
      rintro v h' ⟨rfl, rfl⟩
      exact ⟨.s (.bool true), [bblk false n q 0], [0], ⟨rfl, rfl⟩, by decide, ⟨rfl, trivial⟩, eqvE_refl _, ⟨_, rfl, eqvB_refl _⟩, trivial⟩
  · skip
    refine Does.at hld [1] rfl ⟨rfl, trivial⟩ (by decide) ?_ ?_
    · rintro v h' (⟨_, _, rfl⟩ | ⟨_, _, _, _, _, rfl⟩)
      · exact ⟨.inr (.inr rfl), trivial⟩
      · exact ⟨.inr (.inr rfl), .inl rfl, .inl rfl, .inl rfl, trivial⟩
    rintro v h' (⟨_, rfl, rfl⟩ | ⟨h, _⟩)
    rotate_left
    · exact absurd h hz
    refine need_intro rfl ?_
    refine Does.at hrl [0] rfl ⟨rfl, trivial⟩ (by decide) ?_ ?_
    · rintro v h' (⟨_, _, rfl⟩ | ⟨_, _, _, _, _, rfl⟩)
      · exact ⟨.inr (.inr rfl), trivial⟩
      · exact ⟨.inr (.inr rfl), .inl rfl, .inl rfl, .inl rfl, trivial⟩
    rintro v h' (⟨_, rfl, rfl⟩ | ⟨h, _⟩)
    rotate_left
    · exact absurd h hz
    refine need_intro rfl ?_
    refine (num16_spec _ _).mono ?_
    rintro v h' ⟨rfl, rfl⟩
    repeat (refine need_intro (by first | exact fun h => h | exact fun _ => rfl | rfl | (simp; done) | fail) ?_)
    refine ifB_intro (fun _ => ?_) (fun h => absurd h (by simp))
    refine Does.ungd (b := [_, _]) ⟨⟨by first | rfl | simp, rfl⟩, ⟨by first | rfl | simp, rfl⟩, trivial⟩ ?_
    refine Does.at hkp [1, 0] rfl ⟨rfl, rfl, trivial⟩ (by decide) ?_ ?_
    · rintro v h' ⟨_, rfl⟩
      exact ⟨.inr (.inr rfl), .inr (.inr rfl), trivial⟩
    rintro v h' ⟨rfl, rfl⟩
    repeat (refine need_intro (by first | exact fun h => h | exact fun _ => rfl | rfl | (simp; done) | fail) ?_)
    refine ifB_intro (fun h => absurd h (by simp)) (fun _ => ?_)
    refine loop_in (A := Nat) on (fun i => [(3, .s (.gs 1 0 (n + 64) c6)), (8, .s (.int .i64 (i : Int)))])
      (fun i => [bblk false n q 0, .cells true [.ints .u8 (marked (lst q n) 64).length (fun j => if j < i then 238 else bf (marked (lst q n) 64) j)] (c6 - (marked (lst q n) 64).length), .cells true zwhole 0, .cells true zwhole 0]) (fun i => i ≤ n + 64) (fun i => n + 64 - i) 0 (Nat.zero_le _) [0, 1, 2, 3] ?_ ?_
    · rw [hO]
      refine ⟨by decide, ⟨rfl, trivial⟩, ?_, ?_⟩
      · repeat' (first | exact eqvT_nil | refine eqvT_junk ?_ | refine eqvT_same ?_ | refine eqvT_int ?_ ?_ | refine eqvT_gs ⟨rfl, rfl, ?_, rfl⟩ ?_)
      · exact ⟨⟨_, rfl, eqvB_refl _⟩, ⟨_, rfl, eqvB_refl _⟩, ⟨_, rfl, eqvB_refl _⟩, ⟨_, rfl, eqvB_refl _⟩, trivial⟩
    intro i hi
    refine ifB_intro (fun h1 => ?_) (fun h1 => ?_)
    · have hlt : i < n + 64 := by
        have h2 : (i : Int) < ((n + 64 : Nat) : Int) := of_decide_eq_true h1
        omega
      refine need_intro ⟨by omega, by omega⟩ ?_
      refine need_intro (by rw [hml]; omega) ?_
      refine ⟨i + 1, ?_, ?_, [0, 1, 2, 3], ?_⟩
      · show i + 1 ≤ n + 64; omega
      · show n + 64 - (i + 1) < n + 64 - i; omega
      · rw [hO]
        refine ⟨by decide, ⟨rfl, trivial⟩, ?_, ⟨_, rfl, eqvB_refl _⟩, ⟨_, rfl, ⟨rfl, rfl, ⟨⟨rfl, rfl, ?_⟩, trivial⟩⟩⟩, ⟨_, rfl, eqvB_refl _⟩, ⟨_, rfl, eqvB_refl _⟩, trivial⟩
        · repeat' (first | exact eqvT_nil | refine eqvT_junk ?_ | refine eqvT_same ?_ | refine eqvT_int ?_ ?_)
          rw [i64_in (by omega) (by omega)]; rfl
        · intro j _
          show (if j = 0 + (i : Int).toNat then (238 : Int) else if j < i then 238 else bf _ j) = if j < i + 1 then 238 else bf _ j
          have hi2 : (i : Int).toNat = i := rfl
          rw [hi2, Nat.zero_add]
          by_cases hj : j < i
          · rw [if_neg (by omega), if_pos hj, if_pos (by omega)]
          · by_cases hj2 : j = i
            · rw [if_pos hj2, if_pos (by omega)]
            · rw [if_neg hj2, if_neg hj, if_neg (by omega)]
    · refine (alike_zero _).mono ?_
      rintro v h' ⟨rfl, rfl⟩
      exact ⟨.s (.bool true), [bblk false n q 0], [0], ⟨rfl, rfl⟩, by decide, ⟨rfl, trivial⟩, eqvE_refl _, ⟨_, rfl, eqvB_refl _⟩, trivial⟩
end Go.Proofs.Ytghcdkpgcanpgaa

/- What the arguments of the statements of this seat are made of. Printed by gen_ft.py; no condition. -/
namespace Go.Proofs.Ytghcdkpgcanpgaa
open Go Go.Anv
set_option maxRecDepth 100000
theorem ft42 (n : Nat) : FTn Try.prog (n + 2) 42 [.sl .u8, .int .u32, .int .u64, .int .u64, .bool, .bool, .int .u8, .int .u8, .int .u8, .int .u8, .bool, .sl .u8, .sl .u8, .int .i64, .int .i64] := .inr (.inr (.inr (.inr ⟨_, Try.underlying42, by kernel_rfl, ⟨[.sl .u8], _, rfl, rfl, by kernel_rfl, .inr (.inr (.inr (.inl ⟨_, _, Try.underlying23, Try.underlying5, by kernel_rfl, of_decide_eq_true (by kernel_rfl), rfl⟩))), ⟨[.int .u32], _, rfl, rfl, by kernel_rfl, .inl ⟨_, Try.underlying40, rfl⟩, ⟨[.int .u64], _, rfl, rfl, by kernel_rfl, .inl ⟨_, Try.underlying30, rfl⟩, ⟨[.int .u64], _, rfl, rfl, by kernel_rfl, .inl ⟨_, Try.underlying30, rfl⟩, ⟨[.bool], _, rfl, rfl, by kernel_rfl, .inr (.inl ⟨Try.underlying4, rfl⟩), ⟨[.bool], _, rfl, rfl, by kernel_rfl, .inr (.inl ⟨Try.underlying4, rfl⟩), ⟨[.int .u8], _, rfl, rfl, by kernel_rfl, .inl ⟨_, Try.underlying5, rfl⟩, ⟨[.int .u8], _, rfl, rfl, by kernel_rfl, .inl ⟨_, Try.underlying5, rfl⟩, ⟨[.int .u8], _, rfl, rfl, by kernel_rfl, .inl ⟨_, Try.underlying5, rfl⟩, ⟨[.int .u8], _, rfl, rfl, by kernel_rfl, .inl ⟨_, Try.underlying5, rfl⟩, ⟨[.bool], _, rfl, rfl, by kernel_rfl, .inr (.inl ⟨Try.underlying4, rfl⟩), ⟨[.sl .u8], _, rfl, rfl, by kernel_rfl, .inr (.inr (.inr (.inl ⟨_, _, Try.underlying23, Try.underlying5, by kernel_rfl, of_decide_eq_true (by kernel_rfl), rfl⟩))), ⟨[.sl .u8], _, rfl, rfl, by kernel_rfl, .inr (.inr (.inr (.inl ⟨_, _, Try.underlying23, Try.underlying5, by kernel_rfl, of_decide_eq_true (by kernel_rfl), rfl⟩))), ⟨[.int .i64], _, rfl, rfl, by kernel_rfl, .inl ⟨_, Try.underlying3, rfl⟩, ⟨[.int .i64], _, rfl, rfl, by kernel_rfl, .inl ⟨_, Try.underlying3, rfl⟩, rfl⟩⟩⟩⟩⟩⟩⟩⟩⟩⟩⟩⟩⟩⟩⟩⟩)))
theorem ft37 (n : Nat) : FTn Try.prog (n + 2) 37 [.bool, .int .u64, .int .i64] := .inr (.inr (.inr (.inr ⟨_, Try.underlying37, by kernel_rfl, ⟨[.bool], _, rfl, rfl, by kernel_rfl, .inr (.inl ⟨Try.underlying4, rfl⟩), ⟨[.int .u64], _, rfl, rfl, by kernel_rfl, .inl ⟨_, Try.underlying30, rfl⟩, ⟨[.int .i64], _, rfl, rfl, by kernel_rfl, .inl ⟨_, Try.underlying3, rfl⟩, rfl⟩⟩⟩⟩)))
theorem ft35 (n : Nat) : FTn Try.prog (n + 2) 35 [.arr .u8 16, .arr .u64 16] := .inr (.inr (.inr (.inr ⟨_, Try.underlying35, by kernel_rfl, ⟨[.arr .u8 16], _, rfl, rfl, by kernel_rfl, .inr (.inr (.inl ⟨_, _, _, Try.underlying32, Try.underlying5, by kernel_rfl, by kernel_rfl, rfl⟩)), ⟨[.arr .u64 16], _, rfl, rfl, by kernel_rfl, .inr (.inr (.inl ⟨_, _, _, Try.underlying33, Try.underlying30, by kernel_rfl, by kernel_rfl, rfl⟩)), rfl⟩⟩⟩)))
theorem ft39 (n : Nat) : FTn Try.prog (n + 3) 39 [.int .u64, .arr .u64 32, .int .i64, .bool, .int .u64, .int .u64, .int .u64, .int .u64, .int .u64, .int .u64, .int .u64, .int .u64, .int .u64, .int .u64, .int .u64, .int .u64, .arr .u8 16, .arr .u64 16, .bool, .int .u64, .int .i64] := .inr (.inr (.inr (.inr ⟨_, Try.underlying39, by kernel_rfl, ⟨[.int .u64], _, rfl, rfl, by kernel_rfl, .inl ⟨_, Try.underlying30, rfl⟩, ⟨[.arr .u64 32], _, rfl, rfl, by kernel_rfl, .inr (.inr (.inl ⟨_, _, _, Try.underlying31, Try.underlying30, by kernel_rfl, by kernel_rfl, rfl⟩)), ⟨[.int .i64], _, rfl, rfl, by kernel_rfl, .inl ⟨_, Try.underlying3, rfl⟩, ⟨[.bool], _, rfl, rfl, by kernel_rfl, .inr (.inl ⟨Try.underlying4, rfl⟩), ⟨[.int .u64], _, rfl, rfl, by kernel_rfl, .inl ⟨_, Try.underlying30, rfl⟩, ⟨[.int .u64], _, rfl, rfl, by kernel_rfl, .inl ⟨_, Try.underlying30, rfl⟩, ⟨[.int .u64], _, rfl, rfl, by kernel_rfl, .inl ⟨_, Try.underlying30, rfl⟩, ⟨[.int .u64], _, rfl, rfl, by kernel_rfl, .inl ⟨_, Try.underlying30, rfl⟩, ⟨[.int .u64], _, rfl, rfl, by kernel_rfl, .inl ⟨_, Try.underlying30, rfl⟩, ⟨[.int .u64], _, rfl, rfl, by kernel_rfl, .inl ⟨_, Try.underlying30, rfl⟩, ⟨[.int .u64], _, rfl, rfl, by kernel_rfl, .inl ⟨_, Try.underlying30, rfl⟩, ⟨[.int .u64], _, rfl, rfl, by kernel_rfl, .inl ⟨_, Try.underlying30, rfl⟩, ⟨[.int .u64], _, rfl, rfl, by kernel_rfl, .inl ⟨_, Try.underlying30, rfl⟩, ⟨[.int .u64], _, rfl, rfl, by kernel_rfl, .inl ⟨_, Try.underlying30, rfl⟩, ⟨[.int .u64], _, rfl, rfl, by kernel_rfl, .inl ⟨_, Try.underlying30, rfl⟩, ⟨[.int .u64], _, rfl, rfl, by kernel_rfl, .inl ⟨_, Try.underlying30, rfl⟩, ⟨[.arr .u8 16, .arr .u64 16], _, rfl, rfl, by kernel_rfl, ft35 (n + 0), ⟨[.bool, .int .u64, .int .i64], _, rfl, rfl, by kernel_rfl, ft37 (n + 0), rfl⟩⟩⟩⟩⟩⟩⟩⟩⟩⟩⟩⟩⟩⟩⟩⟩⟩⟩⟩)))
theorem ft44 (n : Nat) : FTn Try.prog (n + 4) 44 [.int .u64, .arr .u64 32, .int .i64, .bool, .int .u64, .int .u64, .int .u64, .int .u64, .int .u64, .int .u64, .int .u64, .int .u64, .int .u64, .int .u64, .int .u64, .int .u64, .arr .u8 16, .arr .u64 16, .bool, .int .u64, .int .i64, .sl .u8, .int .u32, .int .u64, .int .u64, .bool, .bool, .int .u8, .int .u8, .int .u8, .int .u8, .bool, .sl .u8, .sl .u8, .int .i64, .int .i64] := .inr (.inr (.inr (.inr ⟨_, Try.underlying44, by kernel_rfl, ⟨[.int .u64, .arr .u64 32, .int .i64, .bool, .int .u64, .int .u64, .int .u64, .int .u64, .int .u64, .int .u64, .int .u64, .int .u64, .int .u64, .int .u64, .int .u64, .int .u64, .arr .u8 16, .arr .u64 16, .bool, .int .u64, .int .i64], _, rfl, rfl, by kernel_rfl, ft39 (n + 0), ⟨[.sl .u8, .int .u32, .int .u64, .int .u64, .bool, .bool, .int .u8, .int .u8, .int .u8, .int .u8, .bool, .sl .u8, .sl .u8, .int .i64, .int .i64], _, rfl, rfl, by kernel_rfl, ft42 (n + 1), rfl⟩⟩⟩)))
end Go.Proofs.Ytghcdkpgcanpgaa
