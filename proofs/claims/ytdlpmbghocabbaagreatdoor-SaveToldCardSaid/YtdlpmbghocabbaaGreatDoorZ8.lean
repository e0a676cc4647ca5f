/- Part 8 of the texts of this claim, merged: F11, F12, V1, V2, V3, V4, V5, V6, V7, V8, V9, V10, V11, W1, W2, W3, W4, W5, W6, W7, W8, W9, L1, L2, L3. No condition: plain theorems, contracts of functions. -/
import Derived.Test.YtdlpmbghocabbaaGreatDoorZ7

set_option linter.unusedSimpArgs false
set_option linter.unusedVariables false
/- One step is made: addi x1, x0, 1 retires. Contracts of functions. -/
namespace Go.Anv
open Go
def hs0 (r : RowV) (d : Dev) : Hs := ⟨cpu0, r, done0, d⟩
def hs1 (r : RowV) (d : Dev) : Hs := ⟨cpu1, r.told done1, done1, d⟩
end Go.Anv
namespace Go.Proofs.YtdlpmbghocabbaaGreatDoor
open Go Go.Anv
set_option maxRecDepth 100000 in
set_option maxHeartbeats 2000000 in
theorem do0 (r : RowV) (d : Dev) : Does TB 108 [.s (.ptr 0 0), .agg addi0] (hs0 r d).h (fun v h' => v = .tuple [] ∧ h' = (hs1 r d).h) := by
  refine fnX_does TB Tryz.func108 rfl (by decide) (fun O on hO => ?_)
  repeat (refine need_intro (by first | exact fun h => h | exact nt | exact an2 | exact an3 | rfl | (simp; done) | fail) ?_)
  refine draw_to on ?t6 ?_ ?_
  rotate_left 1
  · refine draw_held on rfl (fun _ _ h => h) ?_
    repeat' (first | refine need_intro (by first | exact fun h => h | exact nt | exact an2 | exact an3 | rfl | (simp; done) | fail) ?_ | refine And.intro ?_ ?_ | (refine Does.args (b := [.agg cpu0.segs, .s (.ptr 1 0), .agg addiI.segs]) ⟨eqvE_refl _, rfl, eqvS_refl _, trivial⟩ ?_; refine Does.atc (do_addi d) [1, 2, 3, 4] rfl ⟨rfl, rfl, rfl, rfl, trivial⟩ (by decide) ?_))
    · refine toK_id ?_
      rw [hO]; exact Nat.le_of_ble_eq_true rfl
    all_goals first
      | (refine toK_of [0, 1, 2, 3, 4, 5, 6, 7] (by decide) (by rw [hO]; exact ⟨rfl, rfl, rfl, rfl, rfl, trivial⟩) ?_ ?_; (repeat' (first | exact eqvT_nil | refine eqvT_same ?_)); exact ⟨⟨_, rfl, eqvB_refl _⟩, ⟨_, rfl, eqvB_refl _⟩, ⟨_, rfl, eqvB_refl _⟩, ⟨_, rfl, eqvB_refl _⟩, ⟨_, rfl, eqvB_refl _⟩, ⟨_, rfl, eqvB_refl _⟩, ⟨_, rfl, eqvB_refl _⟩, ⟨_, rfl, eqvB_refl _⟩, trivial⟩)
      | (refine toK_of [0, 1, 2, 3, 4, 5, 7, 6] (by decide) (by rw [hO]; exact ⟨rfl, rfl, rfl, rfl, rfl, trivial⟩) ?_ ?_; (repeat' (first | exact eqvT_nil | refine eqvT_same ?_)); exact ⟨⟨_, rfl, eqvB_refl _⟩, ⟨_, rfl, eqvB_refl _⟩, ⟨_, rfl, eqvB_refl _⟩, ⟨_, rfl, eqvB_refl _⟩, ⟨_, rfl, eqvB_refl _⟩, ⟨_, rfl, eqvB_refl _⟩, ⟨_, rfl, eqvB_refl _⟩, ⟨_, rfl, eqvB_refl _⟩, trivial⟩)
      | fail
  repeat (refine need_intro (by first | exact fun h => h | exact nt | exact an2 | exact an3 | rfl | (simp; done) | fail) ?_)
  refine draw_to on ?tt2 ?_ ?_
  rotate_left 1
  · refine draw_but [0] on rfl (fun _ _ h => h) ?_
    repeat' (first | refine need_intro (by first | exact fun h => h | exact nt | exact an2 | exact an3 | rfl | (simp; done) | fail) ?_ | refine And.intro ?_ ?_)
    all_goals (refine toK_id ?_; rw [hO]; exact Nat.le_of_ble_eq_true rfl)
  repeat (refine need_intro (by first | exact fun h => h | exact nt | exact an2 | exact an3 | rfl | (simp; done) | fail) ?_)
  refine draw_to on ?tt3 ?_ ?_
  rotate_left 1
  · refine draw_but [0] on rfl (fun _ _ h => h) ?_
    repeat' (first | refine need_intro (by first | exact fun h => h | exact nt | exact an2 | exact an3 | rfl | (simp; done) | fail) ?_ | refine And.intro ?_ ?_)
    all_goals (refine toK_id ?_; rw [hO]; exact Nat.le_of_ble_eq_true rfl)
  repeat (refine need_intro (by first | exact fun h => h | exact nt | exact an2 | exact an3 | rfl | (simp; done) | fail) ?_)
  refine draw_to on ?tt4 ?_ ?_
  rotate_left 1
  · refine draw_but [0] on rfl (fun _ _ h => h) ?_
    repeat' (first | refine need_intro (by first | exact fun h => h | exact nt | exact an2 | exact an3 | rfl | (simp; done) | fail) ?_ | refine And.intro ?_ ?_)
    all_goals (refine toK_id ?_; rw [hO]; exact Nat.le_of_ble_eq_true rfl)
  repeat (refine need_intro (by first | exact fun h => h | exact nt | exact an2 | exact an3 | rfl | (simp; done) | fail) ?_)
  exact ⟨_, _, [0, 1, 2, 3, 4], ⟨rfl, rfl⟩, by decide, ⟨rfl, rfl, rfl, rfl, rfl, trivial⟩, eqvE_refl _, ⟨⟨_, rfl, eqvB_refl _⟩, ⟨_, rfl, eqvB_refl _⟩, ⟨_, rfl, eqvB_refl _⟩, ⟨_, rfl, eqvB_refl _⟩, ⟨_, rfl, eqvB_refl _⟩, trivial⟩⟩
end Go.Proofs.YtdlpmbghocabbaaGreatDoor

/- One step is made: addi x1, x0, 1 retires, on a small bus. Contracts of functions. -/
namespace Go.Anv
open Go
def s0 : BusV := { nr := 8, msip := 0#32, cmp := 0#64, now := 0#64, ext := false, soft := false, ier := 0#8, lcr := 0#8, mcr := 0#8, scratch := 0#8, overrun := false, ni := 0, no := 0, off := 0, code := 0 }
def Small.dev (x : Small) : Dev := ⟨s0, fun j => BitVec.ofInt 8 (ramF j), fun j => BitVec.ofInt 8 (x.fi j), fun j => BitVec.ofInt 8 (x.fo j), x.cr, x.ci, x.co⟩
/-- A small bus, behind another block. -/
def Small.hx (x : Small) (B : List Seg) : List Blk := [.cells true B 0, .cells true (bus0 0 (.gs 2 0 8 x.cr) (.gs 3 0 0 x.ci) (.gs 4 0 0 x.co)) 0, x.ram, x.inp, x.out]
theorem ramF_eq : ∀ j, j < 8 → ramF j = bfun (fun j => BitVec.ofInt 8 (ramF j)) j := by decide
theorem Small.eqv (x : Small) (r : RowV) : eqvH (x.hx (hturnS cpu0 (.ptr 1 0) r done0)) (hs0 r x.dev).h :=
  ⟨eqvB_refl _, eqvB_refl _, ⟨rfl, rfl, ⟨rfl, rfl, ramF_eq⟩, trivial⟩, ⟨rfl, rfl, ⟨rfl, rfl, fun j hj => absurd hj (Nat.not_lt_zero j)⟩, trivial⟩, ⟨rfl, rfl, ⟨rfl, rfl, fun j hj => absurd hj (Nat.not_lt_zero j)⟩, trivial⟩, trivial⟩
def RowV.fetched (r : RowV) : RowV := { r with raw := 1048723#32, len := 4 }
end Go.Anv
namespace Go.Proofs.YtdlpmbghocabbaaGreatDoor
open Go Go.Anv
theorem pend0 (h : List Blk) : Does TB 104 [.agg cpu0.segs, .s (.int .u64 128)] h (fun v h' => v = .tuple [.s (.int .i64 0), .s (.bool false)] ∧ h' = h) := by
  have := pend_spec cpu0 128#64 h
  have e : cpu0.pend 128#64 = (0, false) := by
    unfold CpuV.pend
    rw [cpu0_proper]
    rfl
  rw [e] at this
  exact this
set_option maxRecDepth 100000 in
set_option maxHeartbeats 2000000 in
theorem run0 (r : RowV) (x : Small) : Does TB 72 [.s (.ptr 0 0)] (x.hx (hturnS cpu0 (.ptr 1 0) r done0)) (fun v h' => ∃ d : Dev, v = .tuple [] ∧ h' = (hs1 r.fetched d).h) := by
  refine fnX_does TB Tryz.func72 rfl (by decide) (fun O on hO => ?_)
  repeat (refine need_intro (by first | exact fun h => h | exact nt | exact an2 | exact an3 | rfl | (simp; done) | fail) ?_)
  refine Does.atc (mip0 x) [1, 2, 3, 4] rfl ⟨rfl, rfl, rfl, rfl, trivial⟩ (by decide) ?_
  repeat (refine need_intro (by first | exact fun h => h | exact nt | exact an2 | exact an3 | rfl | (simp; done) | fail) ?_)
  refine (pend0 _).mono ?_
  rintro _ _ ⟨rfl, rfl⟩
  repeat (refine need_intro (by first | exact fun h => h | exact nt | exact an2 | exact an3 | rfl | (simp; done) | fail) ?_)
  refine draw_to on ?t5 ?_ ?_
  rotate_left 1
  · refine draw_held on rfl (fun _ _ h => h) ?_
    repeat' (first | refine need_intro (by first | exact fun h => h | exact nt | exact an2 | exact an3 | rfl | (simp; done) | fail) ?_ | refine And.intro ?_ ?_ | (refine Does.atc (fetch0 x) [1, 2, 3, 4] rfl ⟨rfl, rfl, rfl, rfl, trivial⟩ (by decide) ?_))
    · refine toK_id ?_
      rw [hO]; exact Nat.le_of_ble_eq_true rfl
    all_goals first
      | (refine toK_of [0, 1, 2, 3, 4, 5] (by decide) (by rw [hO]; exact ⟨rfl, rfl, rfl, rfl, rfl, trivial⟩) ?_ ?_; (repeat' (first | exact eqvT_nil | refine eqvT_same ?_)); exact ⟨⟨_, rfl, eqvB_refl _⟩, ⟨_, rfl, eqvB_refl _⟩, ⟨_, rfl, eqvB_refl _⟩, ⟨_, rfl, eqvB_refl _⟩, ⟨_, rfl, eqvB_refl _⟩, ⟨_, rfl, eqvB_refl _⟩, trivial⟩)
      | fail
  repeat (refine need_intro (by first | exact fun h => h | exact nt | exact an2 | exact an3 | rfl | (simp; done) | fail) ?_)
  refine (decode0 _).mono ?_
  rintro _ _ ⟨rfl, rfl⟩
  repeat (refine need_intro (by first | exact fun h => h | exact nt | exact an2 | exact an3 | rfl | (simp; done) | fail) ?_)
  have e := x.eqv r
  refine Does.heq (b := [(hs0 r.fetched x.dev).blk, x.dev.blk 2, x.dev.rb, x.dev.ib, x.dev.ob, _, _]) ⟨eqvB_refl _, eqvB_refl _, e.2.2.1, e.2.2.2.1, e.2.2.2.2.1, eqvB_refl _, eqvB_refl _, trivial⟩ ?_
  refine Does.at (do0 r.fetched x.dev) [0, 1, 2, 3, 4] rfl ⟨rfl, rfl, rfl, rfl, rfl, trivial⟩ (by decide) ?_ ?_
  · rintro v h' ⟨_, rfl⟩
    exact ⟨.inl rfl, .inl rfl, .inl rfl, .inl rfl, .inl rfl, trivial⟩
  rintro v h' ⟨rfl, rfl⟩
  rw [forceH_eq, forceE_eq]
  repeat (refine need_intro (by first | exact fun h => h | exact nt | exact an2 | exact an3 | rfl | (simp; done) | fail) ?_)
  exact ⟨_, _, [0, 1, 2, 3, 4], ⟨x.dev, rfl, rfl⟩, by decide, ⟨rfl, rfl, rfl, rfl, rfl, trivial⟩, eqvE_refl _, ⟨⟨_, rfl, eqvB_refl _⟩, ⟨_, rfl, eqvB_refl _⟩, ⟨_, rfl, eqvB_refl _⟩, ⟨_, rfl, eqvB_refl _⟩, ⟨_, rfl, eqvB_refl _⟩, trivial⟩⟩
end Go.Proofs.YtdlpmbghocabbaaGreatDoor
namespace Go.Anv
open Go
def row1 : RowV := { row0 with mode := 3, pc := 0x80000000#64 }
def cpu2 : CpuV := cpu1.count cpu0 true false false
def row2 : RowV := (row1.fetched.told done1).ends cpu2
/-- Behind a step: the lists' queue lies elsewhere. -/
def Dev.h5 (d : Dev) (g : Nat → Int) : List Blk := [.cells true (d.s.dev 0 (.gs 1 0 d.s.nr d.cr) (.gs 5 0 d.s.ni d.ci) (.gs 3 0 d.s.no d.co)) 0, d.rb, .dead, d.ob, .cells true [.ints .u8 0 g] 0, d.ib]
end Go.Anv
namespace Go.Proofs.YtdlpmbghocabbaaGreatDoor
open Go Go.Anv
set_option maxRecDepth 100000 in
set_option maxHeartbeats 2000000 in
/-- A step of the small bus. -/
theorem step0 (x : Small) (g : Nat → Int) : Does TB 35 [.agg cpu0.segs, .s (.ptr 0 0), .agg [.one (.bool false), .one (.bool false), .one (.bool false), .one (.gs 4 0 0 0)]] (x.h ++ [.cells true [.ints .u8 0 g] 0])
    (fun v h' => ∃ d : Dev, v = .tuple [.agg cpu2.segs, .agg row2.segs] ∧ h' = d.h5 g) := by
  refine fnX_does TB Tryz.func35 rfl (by decide) (fun O on hO => ?_)
  repeat (refine need_intro (by first | exact fun h => h | exact nt | exact an2 | exact an3 | rfl | (simp; done) | fail) ?_)
  refine (properC0 _).mono ?_
  rintro _ _ ⟨rfl, rfl⟩
  repeat (refine need_intro (by first | exact fun h => h | exact nt | exact an2 | exact an3 | rfl | (simp; done) | fail) ?_)
  refine Does.atc (off0 x) [0, 1, 2, 3] rfl ⟨rfl, rfl, rfl, rfl, trivial⟩ (by decide) ?_
  repeat (refine need_intro (by first | exact fun h => h | exact nt | exact an2 | exact an3 | rfl | (simp; done) | fail) ?_)
  refine draw_but [0, 2] on rfl (fun _ _ h => h) ?_
  repeat (refine need_intro (by first | exact fun h => h | exact nt | exact an2 | exact an3 | rfl | (simp; done) | fail) ?_)
  refine Does.atn (begin0 x g) [0, 1, 2, 3, 4] rfl ⟨rfl, rfl, rfl, rfl, rfl, trivial⟩ (by decide) ?_ ?_
  · rintro v h' ⟨_, _, _, rfl⟩
    exact ⟨.inl rfl, .inl rfl, .inr (.inl rfl), .inl rfl, .inl rfl, .inl rfl, trivial⟩
  rintro v h' ⟨c, f, rfl, rfl⟩
  repeat (refine need_intro (by first | rfl | fail) ?_)
  refine Does.atn (run0 row1 { x with ci := c, fi := f }) [10, 0, 1, 11, 3] rfl ⟨rfl, rfl, rfl, rfl, rfl, trivial⟩ (by decide) ?_ ?_
  · rintro v h' ⟨_, _, rfl⟩
    exact ⟨.inl rfl, .inl rfl, .inl rfl, .inl rfl, .inl rfl, trivial⟩
  rintro v h' ⟨d, rfl, rfl⟩
  repeat (refine need_intro (by first | rfl | fail) ?_)
  refine draw_to on ?tt1 ?_ ?_
  rotate_left 1
  · refine draw_but [10] on rfl (fun _ _ h => h) ?_
    repeat' (first | refine need_intro (by first | exact fun h => h | exact nt | exact an2 | exact an3 | rfl | (simp; done) | fail) ?_ | refine And.intro ?_ ?_ | (refine (count_spec cpu1 cpu0 true false false _).mono ?_; rintro _ _ ⟨rfl, rfl⟩))
    all_goals (refine toK_id ?_; rw [hO]; exact Nat.le_of_ble_eq_true rfl)
  refine Does.atn (end_spec ⟨cpu2, row1.fetched.told done1, done1, d⟩) [10, 0, 1, 11, 3] rfl ⟨rfl, rfl, rfl, rfl, rfl, trivial⟩ (by decide) ?_ ?_
  · rintro v h' ⟨_, rfl⟩
    exact ⟨.inl rfl, .inl rfl, .inl rfl, .inl rfl, .inl rfl, trivial⟩
  rintro v h' ⟨rfl, rfl⟩
  repeat (refine need_intro (by first | rfl | fail) ?_)
  exact ⟨_, _, [0, 1, 2, 3, 4, 11], ⟨d, rfl, rfl⟩, by decide, ⟨rfl, rfl, rfl, rfl, rfl, trivial⟩, eqvE_refl _, ⟨⟨_, rfl, eqvB_refl _⟩, ⟨_, rfl, eqvB_refl _⟩, ⟨_, rfl, eqvB_refl _⟩, ⟨_, rfl, eqvB_refl _⟩, ⟨_, rfl, eqvB_refl _⟩, ⟨_, rfl, eqvB_refl _⟩, trivial⟩⟩
end Go.Proofs.YtdlpmbghocabbaaGreatDoor

/- The writer of a snapshot: whole numbers byte by byte. Contracts of functions. -/
namespace Go.Anv
open Go
def bf (l : List B8) (j : Nat) : Int := ((l.getD j 0#8).toNat : Int)
theorem args_eq {T : Tbl} {f : FuncId} {a b : List EV} {h : List Blk} {Q : EV → List Blk → Prop} (e : a = b) (d : Does T f b h Q) : Does T f a h Q := e ▸ d
theorem bf_append (l r : List B8) {n m : Nat} (hn : n = l.length) (hm : m = r.length) {f g : Nat → Int} (hf : ∀ j, j < n → f j = bf l j) (hg : ∀ j, j < m → g j = bf r j) : ∀ j, j < n + m → catF n f g j = bf (l ++ r) j := by
  subst hn; subst hm
  intro j hj
  unfold catF
  split
  · rename_i h
    rw [hf j h]
    simp [bf, List.getD_eq_getElem?_getD, List.getElem?_append_left h]
  · rename_i h
    rw [hg (j - l.length) (by omega)]
    simp [bf, List.getD_eq_getElem?_getD, List.getElem?_append_right (Nat.le_of_not_lt h)]
theorem bf_one {b : B8} {v : Int} (h : v = b.toNat) : ∀ j, j < 1 → shf 0 (litF [v]) j = bf [b] j := by
  intro j hj
  match j, hj with
  | 0, _ => exact h
/-- The first bytes of a number, the lowest first. -/
def le (v : BitVec 64) : Nat → List B8
  | 0 => []
  | n + 1 => le v n ++ [(v >>> (8 * n)).setWidth 8]
theorem le_len (v : BitVec 64) : ∀ n, (le v n).length = n
  | 0 => rfl
  | n + 1 => by simp [le, le_len v n]
/-- A writer that holds these bytes. -/
def wr (L : List B8) (c : Nat) : List Blk := [.cells true [.one (.gs 1 0 L.length c)] 0, .cells true [.ints .u8 L.length (bf L)] (c - L.length)]
/-- The same, its bytes in a new place. -/
def wr2 (L : List B8) (c : Nat) : List Blk := [.cells true [.one (.gs 2 0 L.length c)] 0, .dead, .cells true [.ints .u8 L.length (bf L)] (c - L.length)]
def wrN (L : List B8) (c : Nat) : Nat → List Blk
  | 0 => wr L c
  | _ + 1 => wr2 L c
theorem low8 (v : BitVec 64) : IntKind.u8.wrap (v.toNat : Int) = ((v.setWidth 8).toNat : Int) := by
  rw [wrap_u8, BitVec.toNat_setWidth, BitVec.toNat_ofInt]
  omega
theorem shr8 (v : BitVec 64) (n : Nat) : ((v >>> (8 * n)).toNat : Int).fdiv (2 ^ 8) = ((v >>> (8 * (n + 1))).toNat : Int) := by
  rw [fdiv_pow, ← BitVec.shiftRight_add]
  rfl
end Go.Anv
namespace Go.Proofs.YtdlpmbghocabbaaGreatDoor
open Go Go.Anv
set_option maxRecDepth 100000 in
theorem number_spec (L : List B8) (c : Nat) (v : BitVec 64) (n : Nat) (hL : L.length ≤ 70368744177664) (hn : n ≤ 8) (hc : L.length ≤ c) :
    Does TB 39 [.s (.ptr 0 0), .s (.int .u64 v.toNat), .s (.int .i64 n)] (wr L c) (fun r h' => ∃ c', L.length + n ≤ c' ∧ r = .tuple [] ∧ h' = wrN (L ++ le v n) c' n) := by
  refine fnX_does TB Tryz.func39 rfl (by decide) (fun O on hO => ?_)
  refine loop_in (A := Nat × Nat) on (fun i => [(1, .s (.int .u64 (v >>> (8 * i.1)).toNat)), (7, .s (.int .i64 (i.1 : Int)))])
      (fun i => wrN (L ++ le v i.1) i.2 i.1)
      (fun i => i.1 ≤ n ∧ L.length + i.1 ≤ i.2) (fun i => n - i.1) (0, c) ⟨Nat.zero_le _, hc⟩ [0, 1] ?_ ?_
  · rw [hO]
    refine ⟨by decide, ⟨rfl, rfl, trivial⟩, ?_, ?_⟩
    · repeat' (first | exact eqvT_nil | refine eqvT_junk ?_ | refine eqvT_same ?_ | refine eqvT_int ?_ ?_)
    · refine ⟨⟨_, rfl, ⟨rfl, rfl, eqvS_gs ⟨rfl, rfl, ?_, rfl⟩ eqvS_nil⟩⟩, ⟨_, rfl, ⟨rfl, ?_, ⟨⟨rfl, ?_, ?_⟩, eqvS_nil⟩⟩⟩, trivial⟩ <;> simp [le]
  · rintro ⟨i, cap⟩ ⟨hi, hcap⟩
    replace hi : i ≤ n := hi
    replace hcap : L.length + i ≤ cap := hcap
    have hlen : (L ++ le v i).length = L.length + i := by rw [List.length_append, le_len]
    have hlen1 : (L ++ le v (i + 1)).length = L.length + i + 1 := by rw [List.length_append, le_len]; rfl
    have hnext : L ++ le v (i + 1) = (L ++ le v i) ++ [(v >>> (8 * i)).setWidth 8] := by simp [le]
    match i, hi, hcap, hlen, hlen1, hnext with
    | 0, hi, hcap, hlen, hlen1, hnext => 
      refine ifB_intro (fun h1 => ?_) (fun h1 => ?_)
      · have h1 : 0 < n := by
          have := of_decide_eq_true h1
          simpa using this
        have hM : (L ++ le v 0).length ≤ 70368744177672 := by omega
        refine need_intro ⟨Nat.le_refl _, by show (L ++ le v 0).length + 0 = (L ++ le v 0).length * 1; omega, by show cap * 1 = (L ++ le v 0).length * 1 + (cap - (L ++ le v 0).length); omega, room5 _ (by show (L ++ le v 0).length + 1 ≤ _; omega)⟩ ?_
        intro c1 hc1
        have hc1 : (L ++ le v 0).length + 1 ≤ c1 := hc1
        refine need_intro (by decide) ?_
        refine ⟨(0 + 1, c1), ⟨?_, ?_⟩, ?_, [0, 1, 3], ?_⟩
        · show 0 + 1 ≤ n; omega
        · show L.length + (0 + 1) ≤ c1; omega
        · show n - (0 + 1) < n - (0); omega
        · rw [hO]
          refine ⟨by decide, ⟨rfl, rfl, trivial⟩, ?_, ?_⟩
          · repeat' (first | exact eqvT_nil | refine eqvT_junk ?_ | refine eqvT_same ?_ | refine eqvT_int ?_ ?_)
            · exact shr8 v _
            all_goals (rw [i64_in (by omega) (by omega)]; try rfl)
          · refine ⟨⟨_, rfl, ⟨rfl, rfl, eqvS_gs ⟨rfl, rfl, ?_, rfl⟩ eqvS_nil⟩⟩, ⟨_, rfl, eqvB_refl _⟩, ⟨_, rfl, ⟨rfl, ?_, ⟨⟨rfl, ?_, ?_⟩, eqvS_nil⟩⟩⟩, trivial⟩
            · show (L ++ le v 0).length + 1 = (L ++ le v (0 + 1)).length
              omega
            · show (c1 - ((L ++ le v 0).length + 1)) * 1 = c1 - (L ++ le v (0 + 1)).length
              omega
            · show (L ++ le v 0).length + 1 = (L ++ le v (0 + 1)).length
              omega
            · rw [hnext]
              exact bf_append (L ++ le v 0) [(v >>> (8 * 0)).setWidth 8] (n := (L ++ le v 0).length) (m := 1) rfl rfl (fun _ _ => rfl) (bf_one (low8 (v >>> (8 * 0))))
      · have h1 : 0 = n := by
          have := of_decide_eq_false h1
          simp at this
          omega
        subst h1
        refine ⟨_, _, [0, 1], ⟨cap, hcap, rfl, rfl⟩, by decide, ⟨rfl, rfl, trivial⟩, trivial, ⟨_, rfl, eqvB_refl _⟩, ⟨_, rfl, eqvB_refl _⟩, trivial⟩
    | i + 1, hi, hcap, hlen, hlen1, hnext => 
      refine ifB_intro (fun h1 => ?_) (fun h1 => ?_)
      · have h1 : i + 1 < n := by
          have := of_decide_eq_true h1
          simp at this
          omega
        have hM : (L ++ le v (i + 1)).length ≤ 70368744177672 := by omega
        refine need_intro ⟨Nat.le_refl _, by show (L ++ le v (i + 1)).length + 0 = (L ++ le v (i + 1)).length * 1; omega, by show cap * 1 = (L ++ le v (i + 1)).length * 1 + (cap - (L ++ le v (i + 1)).length); omega, room5 _ (by show (L ++ le v (i + 1)).length + 1 ≤ _; omega)⟩ ?_
        intro c1 hc1
        have hc1 : (L ++ le v (i + 1)).length + 1 ≤ c1 := hc1
        refine need_intro (by decide) ?_
        refine ⟨(i + 1 + 1, c1), ⟨?_, ?_⟩, ?_, [0, 1, 4], ?_⟩
        · show i + 1 + 1 ≤ n; omega
        · show L.length + (i + 1 + 1) ≤ c1; omega
        · show n - (i + 1 + 1) < n - ((i + 1)); omega
        · rw [hO]
          refine ⟨by decide, ⟨rfl, rfl, trivial⟩, ?_, ?_⟩
          · repeat' (first | exact eqvT_nil | refine eqvT_junk ?_ | refine eqvT_same ?_ | refine eqvT_int ?_ ?_)
            · exact shr8 v _
            all_goals (rw [i64_in (by omega) (by omega)]; try rfl)
          · refine ⟨⟨_, rfl, ⟨rfl, rfl, eqvS_gs ⟨rfl, rfl, ?_, rfl⟩ eqvS_nil⟩⟩, ⟨_, rfl, eqvB_refl _⟩, ⟨_, rfl, ⟨rfl, ?_, ⟨⟨rfl, ?_, ?_⟩, eqvS_nil⟩⟩⟩, trivial⟩
            · show (L ++ le v (i + 1)).length + 1 = (L ++ le v (i + 1 + 1)).length
              omega
            · show (c1 - ((L ++ le v (i + 1)).length + 1)) * 1 = c1 - (L ++ le v (i + 1 + 1)).length
              omega
            · show (L ++ le v (i + 1)).length + 1 = (L ++ le v (i + 1 + 1)).length
              omega
            · rw [hnext]
              exact bf_append (L ++ le v (i + 1)) [(v >>> (8 * (i + 1))).setWidth 8] (n := (L ++ le v (i + 1)).length) (m := 1) rfl rfl (fun _ _ => rfl) (bf_one (low8 (v >>> (8 * (i + 1)))))
      · have h1 : i + 1 = n := by
          have := of_decide_eq_false h1
          simp at this
          omega
        subst h1
        refine ⟨_, _, [0, 1, 2], ⟨cap, hcap, rfl, rfl⟩, by decide, ⟨rfl, rfl, trivial⟩, trivial, ⟨_, rfl, eqvB_refl _⟩, ⟨_, rfl, eqvB_refl _⟩, ⟨_, rfl, eqvB_refl _⟩, trivial⟩
end Go.Proofs.YtdlpmbghocabbaaGreatDoor

/- The writer of a snapshot: many bytes at once. Contract of a function. -/
namespace Go.Proofs.YtdlpmbghocabbaaGreatDoor
open Go Go.Anv
set_option maxRecDepth 100000 in
theorem bytes_spec (L : List B8) (c : Nat) (m : Bool) (P : List B8) (k o cp sp : Nat) (f : Nat → Int) (hf : ∀ j, j < P.length → f (o + j) = bf P j) (hk : o + P.length ≤ k)
    (hL : L.length ≤ 70368744177664) (hP : P.length ≤ 70368744177664) (hc : L.length ≤ c) :
    Does TB 36 [.s (.ptr 0 0), .s (.gs 2 o P.length cp)] (wr L c ++ [.cells m [.ints .u8 k f] sp])
      (fun r h' => ∃ c', L.length + P.length ≤ c' ∧ r = .tuple [] ∧ h' = [.cells true [.one (.gs 3 0 (L ++ P).length c')] 0, .dead, .cells m [.ints .u8 k f] sp, .cells true [.ints .u8 (L ++ P).length (bf (L ++ P))] (c' - (L ++ P).length)]) := by
  refine fnX_does TB Tryz.func36 rfl (by decide) (fun O on hO => ?_)
  refine need_intro ⟨by show (0 : Int) ≤ ((P.length : Nat) : Int); omega, by show L.length + 0 = L.length * 1; omega, by show c * 1 = L.length * 1 + (c - L.length); omega, room5 _ (by show L.length + P.length ≤ _; omega)⟩ ?_
  intro c1 hc1
  have hc1 : L.length + P.length ≤ c1 := hc1
  refine need_intro ⟨by omega, by show ((L.length : Nat) : Int) ≤ ((L.length + P.length : Nat) : Int); omega, by show ((L.length + P.length : Nat) : Int) ≤ (c1 : Int); omega⟩ ?_
  have hsk : skip c1 L.length 0 1 ≤ L.length ∧ (P.length ≠ 0 → skip c1 L.length 0 1 = L.length) := by
    unfold skip
    split <;> omega
  have hd : L.length + P.length - L.length = P.length := by omega
  refine need_intro ⟨hk, by show skip c1 L.length 0 1 + (L.length + P.length - L.length) ≤ L.length + P.length; omega⟩ ?_
  have hlen : (L ++ P).length = L.length + P.length := List.length_append
  refine ⟨_, _, [0, 1, 2, 3], ⟨c1, hc1, rfl, rfl⟩, by decide, ⟨rfl, rfl, rfl, trivial⟩, trivial, ?_⟩
  refine ⟨⟨_, rfl, ⟨rfl, rfl, eqvS_gs ⟨rfl, rfl, ?_, rfl⟩ eqvS_nil⟩⟩, ⟨_, rfl, eqvB_refl _⟩, ⟨_, rfl, eqvB_refl _⟩, ⟨_, rfl, ⟨rfl, ?_, ⟨⟨rfl, ?_, ?_⟩, eqvS_nil⟩⟩⟩, trivial⟩
  · show L.length + P.length = (L ++ P).length
    omega
  · show (c1 - (L.length + P.length)) * 1 = c1 - (L ++ P).length
    omega
  · show L.length + P.length = (L ++ P).length
    omega
  · intro j hj
    have hj : j < L.length + P.length := hj
    show putF (skip c1 L.length 0 1) (min P.length (L.length + P.length - L.length)) (shf o f) (catF L.length (bf L) fun _ => 0) j = bf (L ++ P) j
    rw [hd, Nat.min_self]
    unfold putF catF
    split
    · rename_i h1
      have hP0 : P.length ≠ 0 := by omega
      have hs := hsk.2 hP0
      rw [hs] at h1 ⊢
      show f (o + (j - L.length)) = _
      rw [hf _ (by omega)]
      simp [bf, List.getD_eq_getElem?_getD, List.getElem?_append_right h1.1]
    · rename_i h1
      have h2 : j < L.length := by
        by_cases hP0 : P.length = 0
        · omega
        · have hs := hsk.2 hP0
          rw [hs] at h1
          omega
      rw [if_pos h2]
      simp [bf, List.getD_eq_getElem?_getD, List.getElem?_append_left h2]
end Go.Proofs.YtdlpmbghocabbaaGreatDoor

/- The sum over a snapshot's bytes; a blank page. Contracts of functions. -/
namespace Go.Anv
open Go
def crcBit (x : BitVec 32) : BitVec 32 := if x &&& 1#32 == 1#32 then (x >>> 1) ^^^ 3988292384#32 else x >>> 1
def crcBits (x : BitVec 32) : Nat → BitVec 32
  | 0 => x
  | n + 1 => crcBit (crcBits x n)
/-- The sum over the first bytes, not yet turned over. -/
def crcN (p : Nat → B8) : Nat → BitVec 32
  | 0 => 4294967295#32
  | n + 1 => crcBits (crcN p n ^^^ (p n).setWidth 32) 8
theorem u32_of8 (b : B8) : IntKind.u32.wrap ((b.toNat : Int)) = ((b.setWidth 32).toNat : Int) := by
  have := b.isLt
  rw [wrap_u32, BitVec.toNat_setWidth, BitVec.toNat_ofInt]
  omega
end Go.Anv
namespace Go.Proofs.YtdlpmbghocabbaaGreatDoor
open Go Go.Anv
set_option maxRecDepth 100000 in
theorem sum_spec (m : Bool) (k o n c sp : Nat) (f : Nat → Int) (p : Nat → B8) (hn : o + n ≤ k) (hk : n < 2 ^ 62) (hp : ∀ j, j < n → f (o + j) = (p j).toNat) :
    Does TB 40 [.s (.gs 0 o n c)] [.cells m [.ints .u8 k f] sp] (fun v h' => v = .s (.int .u32 (~~~ crcN p n).toNat) ∧ h' = [.cells m [.ints .u8 k f] sp]) := by
  refine fnX_does TB Tryz.func40 rfl (by decide) (fun O on hO => ?_)
  refine loop_by (A := Nat) on (fun i => [(3, .s (.int .u32 (crcN p i).toNat)), (9, .s (.int .i64 (i : Int)))]) (fun _ => [.cells m [.ints .u8 k f] sp]) (fun i => i ≤ n) (fun i => n - i) 0 (by omega) ?_ ?_
  · refine ⟨?_, ?_⟩
    · repeat' (first | exact eqvT_nil | refine eqvT_junk ?_ | refine eqvT_same ?_ | refine eqvT_int ?_ ?_)
    · exact eqvH_same eqvH_nil
  · intro i hi
    refine ifB_intro (fun h1 => ?_) (fun h1 => ?_)
    · have h1 := of_decide_eq_true h1
      refine need_intro (by omega) ?_
      refine need_intro (by omega) ?_
      have hf : f (o + (i : Int).toNat) = (p i).toNat := hp i (by omega)
      refine loop_by (A := Nat) on (fun j => [(3, .s (.int .u32 (crcBits (crcN p i ^^^ (p i).setWidth 32) j).toNat)), (17, .s (.int .i64 (j : Int)))]) (fun _ => [.cells m [.ints .u8 k f] sp]) (fun j => j ≤ 8) (fun j => 8 - j) 0 (by omega) ?_ ?_
      · refine ⟨?_, ?_⟩
        · repeat' (first | exact eqvT_nil | refine eqvT_junk ?_ | refine eqvT_same ?_ | refine eqvT_int ?_ ?_)
          · rw [hf, u32_of8, xor_u32, ofInt_toNat, ofInt_toNat]
            rfl
        · exact eqvH_same eqvH_nil
      · intro j hj
        have hb : crcBits (crcN p i ^^^ (p i).setWidth 32) (j + 1) = crcBit (crcBits (crcN p i ^^^ (p i).setWidth 32) j) := rfl
        generalize hX : crcBits (crcN p i ^^^ (p i).setWidth 32) j = X at hb
        refine ifB_intro (fun h2 => ?_) (fun h2 => ?_)
        · have h2 := of_decide_eq_true h2
          refine need_intro (by decide) ?_
          have hlow : (bitX .and .u32 (X.toNat : Int) 1 == 1) = (X &&& 1#32 == 1#32) := by
            rw [and_u32, ofInt_toNat]
            exact beq_lit (X &&& 1#32) 1 (by decide) (by decide)
          have hsh : ((X.toNat : Int)).fdiv (2 ^ 1) = ((X >>> 1).toNat : Int) := fdiv_pow X 1
          refine ifB_intro (fun h3 => ?_) (fun h3 => ?_)
          · have h3 : (X &&& 1#32 == 1#32) = true := hlow.symm.trans h3
            refine ⟨j + 1, ?_, ?_, ?_, ?_⟩
            · show j + 1 ≤ 8; omega
            · show 8 - (j + 1) < 8 - j; omega
            · repeat' (first | exact eqvT_nil | refine eqvT_junk ?_ | refine eqvT_same ?_ | refine eqvT_int ?_ ?_)
              · rw [hb]
                unfold crcBit
                rw [if_pos h3]
                show bitX .xor .u32 (((X.toNat : Int)).fdiv (2 ^ 1)) 3988292384 = _
                rw [hsh, xor_u32, ofInt_toNat]
                rfl
              · rw [i64_in (by omega) (by omega)]; rfl
            · exact eqvH_same eqvH_nil
          · have h3 : (X &&& 1#32 == 1#32) = false := hlow.symm.trans h3
            refine ⟨j + 1, ?_, ?_, ?_, ?_⟩
            · show j + 1 ≤ 8; omega
            · show 8 - (j + 1) < 8 - j; omega
            · repeat' (first | exact eqvT_nil | refine eqvT_junk ?_ | refine eqvT_same ?_ | refine eqvT_int ?_ ?_)
              · rw [hb]
                unfold crcBit
                rw [h3]
                exact hsh
              · rw [i64_in (by omega) (by omega)]; rfl
            · exact eqvH_same eqvH_nil
        · have h2 := of_decide_eq_false h2
          have hj8 : j = 8 := by omega
          subst hj8
          refine ⟨i + 1, ?_, ?_, ?_, ?_⟩
          · show i + 1 ≤ n; omega
          · show n - (i + 1) < n - i; omega
          · repeat' (first | exact eqvT_nil | refine eqvT_junk ?_ | refine eqvT_same ?_ | refine eqvT_int ?_ ?_)
            · exact congrArg (fun z : BitVec 32 => (z.toNat : Int)) hX.symm
            · rw [i64_in (by omega) (by omega)]; rfl
          · exact eqvH_same eqvH_nil
    · have h1 := of_decide_eq_false h1
      have : i = n := by omega
      subst this
      refine ⟨_, _, [0], ⟨rfl, rfl⟩, by decide, ⟨rfl, trivial⟩, ⟨rfl, ?_⟩, ⟨⟨_, rfl, eqvB_refl _⟩, trivial⟩⟩
      show bitX .xor .u32 4294967295 ((crcN p i).toNat : Int) = _
      rw [xor_u32, ofInt_toNat, show BitVec.ofInt 32 4294967295 = BitVec.allOnes 32 by decide, BitVec.allOnes_xor]
def blankN (p : Nat → B8) : Nat → Bool
  | 0 => true
  | n + 1 => blankN p n && (p n == 0#8)
theorem blankN_false {p : Nat → B8} {i : Nat} (h : p i ≠ 0#8) : ∀ {n : Nat}, i < n → blankN p n = false
  | n + 1, hn => by
    by_cases hi : i = n
    · subst hi
      simp [blankN, h]
    · simp [blankN, blankN_false h (n := n) (by omega)]
set_option maxRecDepth 100000 in
theorem blank_spec (m : Bool) (k o n c sp : Nat) (f : Nat → Int) (p : Nat → B8) (hn : o + n ≤ k) (hk : n < 2 ^ 62) (hp : ∀ j, j < n → f (o + j) = (p j).toNat) :
    Does TB 75 [.s (.gs 0 o n c)] [.cells m [.ints .u8 k f] sp] (fun v h' => v = .s (.bool (blankN p n)) ∧ h' = [.cells m [.ints .u8 k f] sp]) := by
  refine fnX_does TB Tryz.func75 rfl (by decide) (fun O on hO => ?_)
  refine loop_by (A := Nat) on (fun i => [(2, .s (.bool false)), (7, .s (.int .i64 (i : Int)))]) (fun _ => [.cells m [.ints .u8 k f] sp]) (fun i => i ≤ n ∧ blankN p i = true) (fun i => n - i) 0 ⟨by omega, rfl⟩ ?_ ?_
  · refine ⟨?_, ?_⟩
    · repeat' (first | exact eqvT_nil | refine eqvT_junk ?_ | refine eqvT_same ?_ | refine eqvT_int ?_ ?_)
    · exact eqvH_same eqvH_nil
  · rintro i ⟨hi, hb⟩
    refine ifB_intro (fun h1 => ?_) (fun h1 => ?_)
    · have h1 := of_decide_eq_true h1
      refine need_intro (by omega) ?_
      refine need_intro (by omega) ?_
      have hf : f (o + (i : Int).toNat) = (p i).toNat := hp i (by omega)
      have hz : (((p i).toNat : Int) == 0) = (p i == 0#8) := beq_lit (p i) 0 (by decide) (by decide)
      refine ifB_intro (fun h2 => ?_) (fun h2 => ?_)
      · have h2 : (!(f (o + (i : Int).toNat) == 0)) = true := h2
        rw [hf, hz] at h2
        have h3 : p i ≠ 0#8 := by simpa using h2
        exact ⟨.s (.bool false), [.cells m [.ints .u8 k f] sp], [0], ⟨by rw [blankN_false h3 (by omega)], rfl⟩, by decide, ⟨rfl, trivial⟩, rfl, ⟨⟨_, rfl, eqvB_refl _⟩, trivial⟩⟩
      · have h2 : (!(f (o + (i : Int).toNat) == 0)) = false := h2
        rw [hf, hz] at h2
        refine ⟨i + 1, ?_, ?_, ?_, ?_⟩
        · refine ⟨by omega, ?_⟩
          simp only [blankN, hb, Bool.true_and]
          simpa using h2
        · show n - (i + 1) < n - i; omega
        · repeat' (first | exact eqvT_nil | refine eqvT_junk ?_ | refine eqvT_same ?_ | refine eqvT_int ?_ ?_)
          rw [i64_in (by omega) (by omega)]; rfl
        · exact eqvH_same eqvH_nil
    · have h1 := of_decide_eq_false h1
      have : i = n := by omega
      subst this
      exact ⟨.s (.bool true), [.cells m [.ints .u8 k f] sp], [0], ⟨by rw [hb], rfl⟩, by decide, ⟨rfl, trivial⟩, rfl, ⟨⟨_, rfl, eqvB_refl _⟩, trivial⟩⟩
end Go.Proofs.YtdlpmbghocabbaaGreatDoor

/- A page of the ram. Contract of a function. -/
namespace Go.Proofs.YtdlpmbghocabbaaGreatDoor
open Go Go.Anv
set_option maxRecDepth 100000 in
theorem cut_spec (m : Bool) (k n c sp a : Nat) (f : Nat → Int) (hc : n ≤ c) (hn : n ≤ 2 ^ 60) (ha : a ≤ n) :
    Does TB 74 [.s (.gs 0 0 n c), .s (.int .i64 a)] [.cells m [.ints .u8 k f] sp]
      (fun v h' => v = .s (.gs 0 (skip (min (a + 256) n) a 0 1) (min (a + 256) n - a) (min (a + 256) n - a)) ∧ h' = [.cells m [.ints .u8 k f] sp]) := by
  refine fnX_does TB Tryz.func74 rfl (by decide) (fun O on hO => ?_)
  have hw : IntKind.i64.wrap ((a : Int) + 256) = ((a + 256 : Nat) : Int) := by
    rw [i64_in (by omega) (by omega)]; rfl
  have hm : (if (n : Int) < IntKind.i64.wrap ((a : Int) + 256) then (n : Int) else IntKind.i64.wrap ((a : Int) + 256)) = ((min (a + 256) n : Nat) : Int) := by
    rw [hw]
    split <;> omega
  refine need_intro (by rw [hm]; omega) ?_
  refine ⟨.s (.gs 0 (skip (min (a + 256) n) a 0 1) (min (a + 256) n - a) (min (a + 256) n - a)), [.cells m [.ints .u8 k f] sp], [0], ⟨rfl, rfl⟩, by decide, ⟨rfl, trivial⟩, ?_, ⟨⟨_, rfl, eqvB_refl _⟩, trivial⟩⟩
  have hm' : (if (n : Int) < IntKind.i64.wrap ((a : Int) + 256) then (n : Int) else IntKind.i64.wrap ((a : Int) + 256)).toNat = min (a + 256) n := by rw [hm]; rfl
  refine ⟨rfl, ?_, ?_, ?_⟩
  · exact congrArg (fun z => skip z a 0 1) hm'
  · exact congrArg (fun z => z - a) hm'
  · exact congrArg (fun z => z - a) hm'
end Go.Proofs.YtdlpmbghocabbaaGreatDoor

/- The pages of the ram in a snapshot. Contract of a function. -/
namespace Go.Proofs.YtdlpmbghocabbaaGreatDoor
open Go Go.Anv
/-- A page: the bytes from here, at most 256, none behind the ram's end. -/
def pageAt (p : Nat → B8) (n j : Nat) : List B8 := (List.range (min (256 * j + 256) n - 256 * j)).map fun t => p (256 * j + t)
def pagesN (p : Nat → B8) (n : Nat) : Nat → List B8
  | 0 => []
  | j + 1 => pagesN p n j ++ (if blankN (fun t => p (256 * j + t)) (min (256 * j + 256) n - 256 * j) then [] else le (BitVec.ofNat 64 j) 2 ++ pageAt p n j)
theorem pagesN_len (p : Nat → B8) (n : Nat) : ∀ j, (pagesN p n j).length ≤ 258 * j
  | 0 => by simp [pagesN]
  | j + 1 => by
    have := pagesN_len p n j
    simp only [pagesN, List.length_append]
    split
    · simp; omega
    · simp only [List.length_append, le_len, pageAt, List.length_map, List.length_range]; omega
/-- The writer's bytes in the third block, a slice of the caller's in the second. -/
def wr3 (L : List B8) (c : Nat) (B : Blk) : List Blk := [.cells true [.one (.gs 3 0 L.length c)] 0, .dead, B, .cells true [.ints .u8 L.length (bf L)] (c - L.length)]
set_option maxRecDepth 100000 in
theorem pages_spec (L : List B8) (c : Nat) (m : Bool) (n k cr sp : Nat) (f : Nat → Int) (p : Nat → B8) (hp : ∀ j, j < n → f j = (p j).toNat) (hk : n ≤ k) (hcr : n ≤ cr)
    (hL : L.length ≤ 2 ^ 40) (hn : n ≤ 2 ^ 40) (hc : L.length ≤ c) :
    Does TB 38 [.s (.ptr 0 0), .s (.gs 2 0 n cr)] (wr L c ++ [.cells m [.ints .u8 k f] sp])
      (fun r h' => ∃ c', (L ++ le (BitVec.ofNat 64 n) 4 ++ pagesN p n ((n + 255) / 256) ++ le 65535#64 2).length ≤ c' ∧ r = .tuple [] ∧
        h' = wr3 (L ++ le (BitVec.ofNat 64 n) 4 ++ pagesN p n ((n + 255) / 256) ++ le 65535#64 2) c' (.cells m [.ints .u8 k f] sp)) := by
  refine fnX_does TB Tryz.func38 rfl (by decide) (fun O on hO => ?_)
  have hn64 : IntKind.u64.wrap ((n : Nat) : Int) = ((BitVec.ofNat 64 n).toNat : Int) := by
    rw [wrap_u64, BitVec.toNat_ofInt, BitVec.toNat_ofNat]
    omega
  refine args_eq (b := [.s (.ptr 0 0), .s (.int .u64 (BitVec.ofNat 64 n).toNat), .s (.int .i64 4)]) (by rw [← hn64]) ?_
  refine Does.at (number_spec L c (BitVec.ofNat 64 n) 4 (by omega) (by decide) hc) [0, 1] rfl ⟨rfl, rfl, trivial⟩ (by decide) ?_ ?_
  · rintro v h' ⟨c', _, _, rfl⟩
    exact ⟨.inl rfl, .inr (.inl rfl), .inl rfl, trivial⟩
  · rintro v h' ⟨c1, hc1, rfl, rfl⟩
    have hc1 : L.length + 4 ≤ c1 := hc1
    generalize hL0 : L ++ le (BitVec.ofNat 64 n) 4 = L0
    have hl0 : L0.length = L.length + 4 := by rw [← hL0, List.length_append, le_len]
    refine loop_in (A := Nat × Nat) on (fun i => [(4, .s (.int .i64 ((256 * i.1 : Nat) : Int))), (5, .junk)])
      (fun i => wr3 (L0 ++ pagesN p n i.1) i.2 (.cells m [.ints .u8 k f] sp))
      (fun i => i.1 ≤ (n + 255) / 256 ∧ (L0 ++ pagesN p n i.1).length ≤ i.2) (fun i => (n + 255) / 256 - i.1) (0, c1) ⟨Nat.zero_le _, by simp [pagesN, hl0]; exact hc1⟩ [0, 1, 2, 3] ?_ ?_
    · rw [hO]
      refine ⟨by decide, ⟨rfl, rfl, rfl, trivial⟩, ?_, ?_⟩
      · repeat' (first | exact eqvT_nil | refine eqvT_junk ?_ | refine eqvT_same ?_ | refine eqvT_int ?_ ?_)
      · refine ⟨⟨_, rfl, ⟨rfl, rfl, eqvS_gs ⟨rfl, rfl, ?_, rfl⟩ eqvS_nil⟩⟩, ⟨_, rfl, eqvB_refl _⟩, ⟨_, rfl, eqvB_refl _⟩, ⟨_, rfl, ⟨rfl, ?_, ⟨⟨rfl, ?_, ?_⟩, eqvS_nil⟩⟩⟩, trivial⟩ <;> simp [pagesN]
    · rintro ⟨i, cap⟩ ⟨hi, hcap⟩
      replace hi : i ≤ (n + 255) / 256 := hi
      replace hcap : (L0 ++ pagesN p n i).length ≤ cap := hcap
      have hpl := pagesN_len p n i
      have hll : (L0 ++ pagesN p n i).length = L.length + 4 + (pagesN p n i).length := by rw [List.length_append, hl0]
      refine ifB_intro (fun h1 => ?_) (fun h1 => ?_)
      · have h1 : 256 * i < n := by
          have h2 : ((256 * i : Nat) : Int) < (n : Int) := of_decide_eq_true h1
          omega
        have hsk : skip (min (256 * i + 256) n) (256 * i) 0 1 = 256 * i := by
          unfold skip
          rw [if_neg (by omega)]
          omega
        generalize hM : L0 ++ pagesN p n i = M at hll hcap
        refine Does.at (cut_spec m k n cr sp (256 * i) f hcr (by omega) (by omega)) [2] rfl ⟨rfl, trivial⟩ (by decide) ?_ ?_
        · rintro v h' ⟨_, rfl⟩
          exact ⟨.inr (.inr rfl), trivial⟩
        · rintro v h' ⟨rfl, rfl⟩
          rw [hsk]
          refine Does.at (blank_spec m k (256 * i) (min (256 * i + 256) n - 256 * i) (min (256 * i + 256) n - 256 * i) sp f (fun t => p (256 * i + t)) (by omega) (by omega) (fun t ht => hp _ (by omega))) [2] rfl ⟨rfl, trivial⟩ (by decide) ?_ ?_
          · rintro v h' ⟨_, rfl⟩
            exact ⟨.inr (.inr rfl), trivial⟩
          · rintro v h' ⟨rfl, rfl⟩
            refine ifB_intro (fun h2 => ?_) (fun h2 => ?_)
            · have h2 : blankN (fun t => p (256 * i + t)) (min (256 * i + 256) n - 256 * i) = false := by simpa using h2
              have hpg : pagesN p n (i + 1) = pagesN p n i ++ (le (BitVec.ofNat 64 i) 2 ++ pageAt p n i) := by simp [pagesN, h2]
              have hpa : (pageAt p n i).length = min (256 * i + 256) n - 256 * i := by simp [pageAt]
              refine need_intro (by decide) ?_
              have hq : IntKind.u64.wrap (IntKind.i64.wrap (((256 * i : Nat) : Int).tdiv 256)) = ((BitVec.ofNat 64 i).toNat : Int) := by
                have e : ((256 * i : Nat) : Int).tdiv 256 = (i : Int) := by
                  rw [Int.tdiv_eq_ediv_of_nonneg (by omega)]
                  omega
                rw [e, i64_in (by omega) (by omega), wrap_u64, BitVec.toNat_ofInt, BitVec.toNat_ofNat]
                omega
              refine args_eq (b := [.s (.ptr 0 0), .s (.int .u64 (BitVec.ofNat 64 i).toNat), .s (.int .i64 2)]) (by rw [← hq]) ?_
              refine Does.at (number_spec M cap (BitVec.ofNat 64 i) 2 (by omega) (by decide) hcap) [0, 3] rfl ⟨rfl, rfl, trivial⟩ (by decide) ?_ ?_
              · rintro v h' ⟨c', _, _, rfl⟩
                exact ⟨.inl rfl, .inr (.inl rfl), .inl rfl, trivial⟩
              · rintro v h' ⟨c2, hc2, rfl, rfl⟩
                have hm2 : (M ++ le (BitVec.ofNat 64 i) 2).length = M.length + 2 := by rw [List.length_append, le_len]
                have hfp : ∀ j, j < (pageAt p n i).length → f (256 * i + j) = bf (pageAt p n i) j := by
                  intro j hj
                  rw [hpa] at hj
                  rw [hp _ (by omega)]
                  simp [bf, pageAt, List.getD_eq_getElem?_getD, List.getElem?_range hj]
                refine args_eq (b := [.s (.ptr 0 0), .s (.gs 2 (256 * i) (pageAt p n i).length (min (256 * i + 256) n - 256 * i))]) (by rw [hpa]; rfl) ?_
                refine Does.at (bytes_spec (M ++ le (BitVec.ofNat 64 i) 2) c2 m (pageAt p n i) k (256 * i) (min (256 * i + 256) n - 256 * i) sp f hfp (by omega) (by omega) (by omega) (by omega)) [0, 4, 2] rfl ⟨rfl, rfl, rfl, trivial⟩ (by decide) ?_ ?_
                · rintro v h' ⟨c', _, _, rfl⟩
                  exact ⟨.inl rfl, .inr (.inl rfl), .inr (.inr rfl), .inl rfl, trivial⟩
                · rintro v h' ⟨c3, hc3, rfl, rfl⟩
                  have e : M ++ le (BitVec.ofNat 64 i) 2 ++ pageAt p n i = L0 ++ pagesN p n (i + 1) := by rw [hpg, ← hM]; simp
                  refine ⟨(i + 1, c3), ⟨?_, ?_⟩, ?_, [0, 1, 2, 5], ?_⟩
                  · show i + 1 ≤ _; omega
                  · show (L0 ++ pagesN p n (i + 1)).length ≤ c3
                    rw [← e, List.length_append]; exact hc3
                  · show (n + 255) / 256 - (i + 1) < (n + 255) / 256 - i; omega
                  · rw [hO]
                    refine ⟨by decide, ⟨rfl, rfl, rfl, trivial⟩, ?_, ?_⟩
                    · repeat' (first | exact eqvT_nil | refine eqvT_junk ?_ | refine eqvT_same ?_ | refine eqvT_int ?_ ?_)
                      rw [i64_in (by omega) (by omega)]; show _ = ((256 * (i + 1) : Nat) : Int); omega
                    · refine ⟨⟨_, rfl, ⟨rfl, rfl, eqvS_gs ⟨rfl, rfl, ?_, rfl⟩ eqvS_nil⟩⟩, ⟨_, rfl, eqvB_refl _⟩, ⟨_, rfl, eqvB_refl _⟩, ⟨_, rfl, ⟨rfl, ?_, ⟨⟨rfl, ?_, ?_⟩, eqvS_nil⟩⟩⟩, trivial⟩
                      · exact congrArg List.length e
                      · exact congrArg (fun z : List B8 => c3 - z.length) e
                      · exact congrArg List.length e
                      · intro j _
                        exact congrArg (fun z : List B8 => bf z j) e
            · have h2 : blankN (fun t => p (256 * i + t)) (min (256 * i + 256) n - 256 * i) = true := by simpa using h2
              have hpg : pagesN p n (i + 1) = pagesN p n i := by simp [pagesN, h2]
              refine ⟨(i + 1, cap), ⟨?_, ?_⟩, ?_, [0, 1, 2, 3], ?_⟩
              · show i + 1 ≤ _; omega
              · show (L0 ++ pagesN p n (i + 1)).length ≤ cap
                rw [hpg, hM]; exact hcap
              · show (n + 255) / 256 - (i + 1) < (n + 255) / 256 - i; omega
              · rw [hO]
                refine ⟨by decide, ⟨rfl, rfl, rfl, trivial⟩, ?_, ?_⟩
                · repeat' (first | exact eqvT_nil | refine eqvT_junk ?_ | refine eqvT_same ?_ | refine eqvT_int ?_ ?_)
                  rw [i64_in (by omega) (by omega)]; show _ = ((256 * (i + 1) : Nat) : Int); omega
                · have e : M = L0 ++ pagesN p n (i + 1) := by rw [hpg, hM]
                  refine ⟨⟨_, rfl, ⟨rfl, rfl, eqvS_gs ⟨rfl, rfl, ?_, rfl⟩ eqvS_nil⟩⟩, ⟨_, rfl, eqvB_refl _⟩, ⟨_, rfl, eqvB_refl _⟩, ⟨_, rfl, ⟨rfl, ?_, ⟨⟨rfl, ?_, ?_⟩, eqvS_nil⟩⟩⟩, trivial⟩
                  · exact congrArg List.length e
                  · exact congrArg (fun z : List B8 => cap - z.length) e
                  · exact congrArg List.length e
                  · intro j _
                    exact congrArg (fun z : List B8 => bf z j) e
      · have h1 : ¬ 256 * i < n := by
          have h2 : ¬ ((256 * i : Nat) : Int) < (n : Int) := of_decide_eq_false h1
          omega
        have hin : i = (n + 255) / 256 := by omega
        generalize hM : L0 ++ pagesN p n i = M at hll hcap
        refine Does.at (number_spec M cap 65535#64 2 (by omega) (by decide) hcap) [0, 3] rfl ⟨rfl, rfl, trivial⟩ (by decide) ?_ ?_
        · rintro v h' ⟨c', _, _, rfl⟩
          exact ⟨.inl rfl, .inr (.inl rfl), .inl rfl, trivial⟩
        · rintro v h' ⟨c2, hc2, rfl, rfl⟩
          have hm2 : (M ++ le 65535#64 2).length = M.length + 2 := by rw [List.length_append, le_len]
          subst hin
          rw [hM]
          refine ⟨_, _, [0, 1, 2, 4], ⟨c2, by rw [hm2]; exact hc2, rfl, rfl⟩, by decide, ⟨rfl, rfl, rfl, trivial⟩, trivial, ⟨_, rfl, eqvB_refl _⟩, ⟨_, rfl, eqvB_refl _⟩, ⟨_, rfl, eqvB_refl _⟩, ⟨_, rfl, eqvB_refl _⟩, trivial⟩
end Go.Proofs.YtdlpmbghocabbaaGreatDoor

/- The reference's snapshot: a whole number. Contract of a function. -/
namespace Go.Proofs.YtdlpmbghocabbaaGreatDoor
open Go Go.Anv
theorem quo8 (v : BitVec 64) (n : Nat) : IntKind.u64.wrap (((v >>> (8 * n)).toNat : Int).tdiv 256) = ((v >>> (8 * (n + 1))).toNat : Int) := by
  rw [← shr8 v n, Int.tdiv_eq_ediv_of_nonneg (by omega), Int.fdiv_eq_ediv_of_nonneg _ (by decide)]
  have := (v >>> (8 * n)).isLt
  show (_ : Int) % 2 ^ 64 = _
  omega
theorem rem8 (v : BitVec 64) (n : Nat) : IntKind.u8.wrap (((v >>> (8 * n)).toNat : Int).tmod 256) = (((v >>> (8 * n)).setWidth 8).toNat : Int) := by
  rw [← low8, Int.tmod_eq_emod_of_nonneg (by omega)]
  show (_ : Int) % 2 ^ 8 = _ % 2 ^ 8
  omega
def nb : Nat → Nat
  | 0 => 0
  | _ + 1 => 1
def nbH (L : List B8) (c : Nat) : Nat → List Blk
  | 0 => [.cells true [.ints .u8 L.length (bf L)] (c - L.length)]
  | _ + 1 => [.dead, .cells true [.ints .u8 L.length (bf L)] (c - L.length)]
end Go.Proofs.YtdlpmbghocabbaaGreatDoor

/- The reference's sum over a snapshot. Contract of a function. -/
namespace Go.Proofs.YtdlpmbghocabbaaGreatDoor
open Go Go.Anv
theorem half2 (X : BitVec 32) : IntKind.u32.wrap ((X.toNat : Int).tdiv 2) = ((X >>> 1).toNat : Int) := by
  rw [← fdiv_pow X 1, Int.tdiv_eq_ediv_of_nonneg (by omega), Int.fdiv_eq_ediv_of_nonneg _ (by decide)]
  have := X.isLt
  show (_ : Int) % 2 ^ 32 = _
  omega
theorem odd2 (X : BitVec 32) : ((X.toNat : Int).tmod 2 == 1) = (X &&& 1#32 == 1#32) := by
  have h : (X &&& 1#32).toNat = X.toNat % 2 := by
    rw [BitVec.toNat_and]
    exact Nat.and_one_is_mod _
  have e : (((X &&& 1#32).toNat : Int) == 1) = (X &&& 1#32 == 1#32) := beq_lit (X &&& 1#32) 1 (by decide) (by decide)
  rw [← e, h, Int.tmod_eq_emod_of_nonneg (by omega)]
  rfl
end Go.Proofs.YtdlpmbghocabbaaGreatDoor

/- The reference's pages: blank, how many. Contracts of functions. -/
namespace Go.Proofs.YtdlpmbghocabbaaGreatDoor
open Go Go.Anv
end Go.Proofs.YtdlpmbghocabbaaGreatDoor

/- The reference's page. Contract of a function. -/
namespace Go.Proofs.YtdlpmbghocabbaaGreatDoor
open Go Go.Anv
end Go.Proofs.YtdlpmbghocabbaaGreatDoor

/- The reference's flag. Contract of a function. -/
namespace Go.Proofs.YtdlpmbghocabbaaGreatDoor
open Go Go.Anv
end Go.Proofs.YtdlpmbghocabbaaGreatDoor

/- The reference's ram in a snapshot. Contract of a function. -/
namespace Go.Proofs.YtdlpmbghocabbaaGreatDoor
open Go Go.Anv
def rb (L : List B8) (c : Nat) (B : Blk) : List Blk := [.dead, B, .cells true [.ints .u8 L.length (bf L)] (c - L.length)]
end Go.Proofs.YtdlpmbghocabbaaGreatDoor

/- The writer's methods: contracts that go on. No condition. -/
namespace Go.Anv
open Go
/-- The writer's bytes; the writer. -/
def lb (L : List B8) (c : Nat) : Blk := .cells true [.ints .u8 L.length (bf L)] (c - L.length)
def wb (b : Nat) (L : List B8) (c : Nat) : Blk := .cells true [.one (.gs b 0 L.length c)] 0

def bb (b : Bool) : List B8 := [if b then 1#8 else 0#8]
def ints (ex : List Int) : List EV := ex.map fun n => .s (.int .i64 n)
theorem ren_ints (ρ : Nat → Nat) : ∀ ex : List Int, renT ρ (ints ex) = ints ex
  | [] => rfl
  | x :: r => by
    show EV.s (.int .i64 x) :: renT ρ (ints r) = _
    rw [ren_ints ρ r]; rfl
theorem part_ints (i N k : Nat) : ∀ ex : List Int, partT i N k (ints ex) (ints ex)
  | [] => trivial
  | x :: r => ⟨rfl, part_ints i N k r⟩
/-- A pointer to the k-th cell of a block. -/
def ptrTo (p k : Nat) : EV → Prop
  | .s (.ptr b o) => b = p ∧ o = k
  | .s (.pix b o j) => b = p ∧ o + j = k
  | _ => False
theorem ptrTo_part {p k N : Nat} {e : EV} (h : ptrTo p k e) : partE p N k e (.s (.ptr N 0)) := by
  unfold ptrTo at h
  split at h
  · obtain ⟨rfl, rfl⟩ := h; exact .inr ⟨rfl, rfl, rfl⟩
  · obtain ⟨rfl, rfl⟩ := h; exact ⟨rfl, rfl, rfl⟩
  · exact h.elim
end Go.Anv
namespace Go.Proofs.YtdlpmbghocabbaaGreatDoor
open Go Go.Anv
theorem number_k {h : List Blk} {K : EV → List Blk → Prop} (pw pb : Nat) {L : List B8} {c : Nat} {x : Int} (v : BitVec 64) (n : Nat) (hx : x = v.toNat) (hn : 0 < n ∧ n ≤ 8) (hL : L.length ≤ 70368744177664) (hc : L.length ≤ c)
    (hw : nthB h pw = some (wb pb L c)) (hb : nthB h pb = some (lb L c)) (hne : pw ≠ pb)
    (hK : ∀ L' c', L' = L ++ le v n → L'.length = L.length + n → L'.length ≤ c' → lenK h 0 fun N => updBK h pw (wb N L' c') fun h1 => updBK h1 pb .dead fun h2 => appBK h2 [lb L' c'] fun h3 => K (.tuple []) h3) :
    Does TB 39 [.s (.ptr pw 0), .s (.int .u64 x), .s (.int .i64 n)] h K := by
  obtain ⟨n, rfl⟩ : ∃ m, n = m + 1 := ⟨n - 1, by omega⟩
  subst hx
  refine Does.at (number_spec L c v (n + 1) hL hn.2 hc) [pw, pb] rfl ⟨hw, hb, trivial⟩ (by simp [hne]) ?_ ?_
  · rintro v h' ⟨c', _, _, rfl⟩
    exact ⟨.inl rfl, .inr (.inl rfl), .inl rfl, trivial⟩
  · rintro v h' ⟨c', h1, rfl, rfl⟩
    have hl : (L ++ le v (n + 1)).length = L.length + (n + 1) := by rw [List.length_append, le_len]
    have := hK _ c' rfl hl (by rw [hl]; exact h1)
    rw [lenK_eq, updBK_eq, updBK_eq, appBK_eq, Nat.zero_add] at this
    rw [forceH_eq, forceE_eq]
    exact this

/-- A method that writes what one cell says. -/
theorem one_k {f : FuncId} {m : Bool} {x : SV} (Y : List B8) (ex : List Int) {h : List Blk} {K : EV → List Blk → Prop} (pw pb pv k : Nat) {sp : Nat} {cs : List Seg} {pe : EV} {L : List B8} {c : Nat}
    (spec : ∀ L c, L.length ≤ 70368744177664 → L.length ≤ c → Does TB f (.s (.ptr 0 0) :: .s (.ptr 2 0) :: ints ex) (wr L c ++ [.cells m [.one x] 0])
      (fun r h' => ∃ c', (L ++ Y).length ≤ c' ∧ r = .tuple [] ∧ h' = wr3 (L ++ Y) c' (.cells m [.one x] 0)))
    (hx : ∀ ρ, renV ρ x = x) (hL : L.length ≤ 70368744177664) (hc : L.length ≤ c)
    (hw : nthB h pw = some (wb pb L c)) (hb : nthB h pb = some (lb L c)) (hne : pw ≠ pb ∧ pw ≠ pv ∧ pb ≠ pv) (hv : nthB h pv = some (.cells m cs sp)) (hpe : ptrTo pv k pe) (hcell : CellAt cs k x cs x)
    (hK : ∀ L' c', L' = L ++ Y → L'.length = L.length + Y.length → L'.length ≤ c' → lenK h 0 fun N =>
      forceH (updB (updB (updB (updB (updB (updB h pv .dead ++ [.cells m [.one x] 0]) pw (wb (N + 1) L' c')) pb .dead) N (.cells m [.one x] 0) ++ [lb L' c']) N .dead) pv (.cells m cs sp)) fun h3 => K (.tuple []) h3) :
    Does TB f (.s (.ptr pw 0) :: pe :: ints ex) h K := by
  obtain ⟨a, b, h1, h2, h3⟩ := hcell
  obtain ⟨n1, n2, n3⟩ := hne
  have lw := nthB_lt hw
  have lbb := nthB_lt hb
  have hl1 : (updB h pv .dead ++ [Blk.cells m [.one x] 0]).length = h.length + 1 := by rw [List.length_append, len_updB]; rfl
  have lN : nthB (updB h pv .dead ++ [Blk.cells m [.one x] 0]) h.length = some (.cells m [.one x] 0) := by
    have := nthB_len (updB h pv .dead) (Blk.cells m [.one x] 0) []
    rwa [len_updB] at this
  have d := Does.frame (spec L c hL hc) [pw, pb, h.length] (h := updB h pv .dead ++ [Blk.cells m [.one x] 0]) (by simp [n1]; omega) (by
    rintro v h' ⟨c', _, _, rfl⟩
    exact ⟨.inl rfl, .inr (.inl rfl), .inr (.inr rfl), .inl rfl, trivial⟩) ⟨nthB_app (nthB_upd_ne hw n2), nthB_app (nthB_upd_ne hb n3), by simp only [renB, renS, hx]; exact lN, trivial⟩
  have ea : renT (lk [pw, pb, h.length] (updB h pv .dead ++ [Blk.cells m [.one x] 0]).length) (.s (.ptr 0 0) :: .s (.ptr 2 0) :: ints ex) = .s (.ptr pw 0) :: .s (.ptr h.length 0) :: ints ex := by
    show EV.s (.ptr pw 0) :: .s (.ptr h.length 0) :: renT _ (ints ex) = _
    rw [ren_ints]
  rw [ea] at d
  refine Does.part (args' := .s (.ptr pw 0) :: .s (.ptr h.length 0) :: ints ex) pv a [.one x] b hv h2 ⟨.inl ⟨rfl, rfl⟩, by rw [h1]; exact ptrTo_part hpe, part_ints _ _ _ _⟩ d ?_
  rintro v h'' ⟨v', h', ⟨c', k1, rfl, rfl⟩, rfl, rfl⟩
  have e3 : lk [pw, pb, h.length] (updB h pv .dead ++ [Blk.cells m [.one x] 0]).length 3 = h.length + 1 := hl1
  have em : renH (lk [pw, pb, h.length] (updB h pv .dead ++ [Blk.cells m [.one x] 0]).length) (wr3 (L ++ Y) c' (.cells m [.one x] 0)) = [wb (h.length + 1) (L ++ Y) c', .dead, .cells m [.one x] 0, lb (L ++ Y) c'] := by
    simp only [wr3, renH, renB, renS, renV, e3, hx, wb, lb]
  rw [em]
  refine ⟨roOk_mk fun j B hj => ?_, [.one x], cs, ?_, rfl, h3, ?_⟩
  · rcases mergeB_get _ [pw, pb, h.length] _ (by simp [n1]; omega) (by rw [hl1]; simp; omega) (by simp) j B hj with ⟨_, _, h4⟩ | ⟨i, h4, h5⟩
    · exact .inr (.inr h4)
    · match i, h4, h5 with
      | 0, h4, h5 => simp only [List.getElem?_cons_zero, Option.some.injEq] at h5; subst h5; exact .inl rfl
      | 1, h4, h5 => simp only [List.getElem?_cons_succ, List.getElem?_cons_zero, Option.some.injEq] at h5; subst h5; exact .inr (.inl rfl)
      | 2, h4, h5 =>
        simp only [List.getElem?_cons_succ, List.getElem?_cons_zero, Option.some.injEq] at h5
        have h4 : h.length = j := h4
        subst h5; subst h4
        exact .inr (.inr (nthB_get lN))
      | 3, h4, h5 => simp only [List.getElem?_cons_succ, List.getElem?_cons_zero, Option.some.injEq] at h5; subst h5; exact .inl rfl
      | i + 4, h4, h5 => simp at h5
  · refine nthB_app (nthB_upd_eq (A := .cells m [.one x] 0) ?_)
    exact nthB_upd_ne (nthB_upd_ne lN (by omega)) (by omega)
  · have hl : (L ++ Y).length = L.length + Y.length := List.length_append
    have := hK _ c' rfl hl k1
    rw [lenK_eq, Nat.zero_add, forceH_eq] at this
    exact this

set_option maxRecDepth 100000 in
theorem double_spec (m : Bool) (v : BitVec 64) (L : List B8) (c : Nat) (hL : L.length ≤ 70368744177664) (hc : L.length ≤ c) : Does TB 267 (.s (.ptr 0 0) :: .s (.ptr 2 0) :: ints []) (wr L c ++ [.cells m [.one (.int .u64 v.toNat)] 0])
    (fun r h' => ∃ c', (L ++ le v 8).length ≤ c' ∧ r = .tuple [] ∧ h' = wr3 (L ++ le v 8) c' (.cells m [.one (.int .u64 v.toNat)] 0)) := by
  refine fnX_does TB Tryz.func267 rfl (by decide) (fun O on hO => ?_)
  refine number_k 0 1 v 8 rfl (by decide) hL hc rfl rfl (by decide) ?_
  intro L' c' e l k
  subst e
  exact ⟨_, _, [0, 1, 2, 3], ⟨c', k, rfl, rfl⟩, by decide, ⟨rfl, rfl, rfl, trivial⟩, trivial, ⟨⟨_, rfl, eqvB_refl _⟩, ⟨_, rfl, eqvB_refl _⟩, ⟨_, rfl, eqvB_refl _⟩, ⟨_, rfl, eqvB_refl _⟩, trivial⟩⟩
theorem wide32 (v : BitVec 32) : IntKind.u64.wrap (v.toNat : Int) = ((v.setWidth 64).toNat : Int) := by
  have := v.isLt
  rw [wrap_u64, BitVec.toNat_setWidth, BitVec.toNat_ofInt]; omega
theorem wide8 (v : BitVec 8) : IntKind.u64.wrap (v.toNat : Int) = ((v.setWidth 64).toNat : Int) := by
  have := v.isLt
  rw [wrap_u64, BitVec.toNat_setWidth, BitVec.toNat_ofInt]; omega
set_option maxRecDepth 100000 in
theorem word_spec (m : Bool) (v : BitVec 32) (L : List B8) (c : Nat) (hL : L.length ≤ 70368744177664) (hc : L.length ≤ c) : Does TB 272 (.s (.ptr 0 0) :: .s (.ptr 2 0) :: ints []) (wr L c ++ [.cells m [.one (.int .u32 v.toNat)] 0])
    (fun r h' => ∃ c', (L ++ le (v.setWidth 64) 4).length ≤ c' ∧ r = .tuple [] ∧ h' = wr3 (L ++ le (v.setWidth 64) 4) c' (.cells m [.one (.int .u32 v.toNat)] 0)) := by
  refine fnX_does TB Tryz.func272 rfl (by decide) (fun O on hO => ?_)
  refine number_k 0 1 (v.setWidth 64) 4 (wide32 v) (by decide) hL hc rfl rfl (by decide) ?_
  intro L' c' e l k
  subst e
  exact ⟨_, _, [0, 1, 2, 3], ⟨c', k, rfl, rfl⟩, by decide, ⟨rfl, rfl, rfl, trivial⟩, trivial, ⟨⟨_, rfl, eqvB_refl _⟩, ⟨_, rfl, eqvB_refl _⟩, ⟨_, rfl, eqvB_refl _⟩, ⟨_, rfl, eqvB_refl _⟩, trivial⟩⟩
set_option maxRecDepth 100000 in
theorem octet_spec (m : Bool) (v : BitVec 8) (L : List B8) (c : Nat) (hL : L.length ≤ 70368744177664) (hc : L.length ≤ c) : Does TB 270 (.s (.ptr 0 0) :: .s (.ptr 2 0) :: ints []) (wr L c ++ [.cells m [.one (.int .u8 v.toNat)] 0])
    (fun r h' => ∃ c', (L ++ le (v.setWidth 64) 1).length ≤ c' ∧ r = .tuple [] ∧ h' = wr3 (L ++ le (v.setWidth 64) 1) c' (.cells m [.one (.int .u8 v.toNat)] 0)) := by
  refine fnX_does TB Tryz.func270 rfl (by decide) (fun O on hO => ?_)
  refine number_k 0 1 (v.setWidth 64) 1 (wide8 v) (by decide) hL hc rfl rfl (by decide) ?_
  intro L' c' e l k
  subst e
  exact ⟨_, _, [0, 1, 2, 3], ⟨c', k, rfl, rfl⟩, by decide, ⟨rfl, rfl, rfl, trivial⟩, trivial, ⟨⟨_, rfl, eqvB_refl _⟩, ⟨_, rfl, eqvB_refl _⟩, ⟨_, rfl, eqvB_refl _⟩, ⟨_, rfl, eqvB_refl _⟩, trivial⟩⟩
set_option maxRecDepth 100000 in
theorem place_spec (m : Bool) (v : Int) (n : Nat) (hn : 0 < n ∧ n ≤ 8) (L : List B8) (c : Nat) (hL : L.length ≤ 70368744177664) (hc : L.length ≤ c) : Does TB 271 (.s (.ptr 0 0) :: .s (.ptr 2 0) :: ints [(n : Int)]) (wr L c ++ [.cells m [.one (.int .i64 v)] 0])
    (fun r h' => ∃ c', (L ++ le (BitVec.ofInt 64 v) n).length ≤ c' ∧ r = .tuple [] ∧ h' = wr3 (L ++ le (BitVec.ofInt 64 v) n) c' (.cells m [.one (.int .i64 v)] 0)) := by
  refine fnX_does TB Tryz.func271 rfl (by decide) (fun O on hO => ?_)
  refine number_k 0 1 (BitVec.ofInt 64 v) n (wrap_u64 v) hn hL hc rfl rfl (by decide) ?_
  intro L' c' e l k
  subst e
  exact ⟨_, _, [0, 1, 2, 3], ⟨c', k, rfl, rfl⟩, by decide, ⟨rfl, rfl, rfl, trivial⟩, trivial, ⟨⟨_, rfl, eqvB_refl _⟩, ⟨_, rfl, eqvB_refl _⟩, ⟨_, rfl, eqvB_refl _⟩, ⟨_, rfl, eqvB_refl _⟩, trivial⟩⟩
set_option maxRecDepth 100000 in
theorem wflag_spec (m : Bool) (b : Bool) (L : List B8) (c : Nat) (hL : L.length ≤ 70368744177664) (hc : L.length ≤ c) : Does TB 268 (.s (.ptr 0 0) :: .s (.ptr 2 0) :: ints []) (wr L c ++ [.cells m [.one (.bool b)] 0])
    (fun r h' => ∃ c', (L ++ bb b).length ≤ c' ∧ r = .tuple [] ∧ h' = wr3 (L ++ bb b) c' (.cells m [.one (.bool b)] 0)) := by
  refine fnX_does TB Tryz.func268 rfl (by decide) (fun O on hO => ?_)
  refine ifB_intro (fun h1 => ?_) (fun h1 => ?_)
  · subst h1
    refine number_k 0 1 1#64 1 rfl (by decide) hL hc rfl rfl (by decide) ?_
    intro L' c' e l k
    have e : L' = L ++ bb true := e
    subst e
    exact ⟨_, _, [0, 1, 2, 3], ⟨c', k, rfl, rfl⟩, by decide, ⟨rfl, rfl, rfl, trivial⟩, trivial, ⟨⟨_, rfl, eqvB_refl _⟩, ⟨_, rfl, eqvB_refl _⟩, ⟨_, rfl, eqvB_refl _⟩, ⟨_, rfl, eqvB_refl _⟩, trivial⟩⟩
  · subst h1
    refine number_k 0 1 0#64 1 rfl (by decide) hL hc rfl rfl (by decide) ?_
    intro L' c' e l k
    have e : L' = L ++ bb false := e
    subst e
    exact ⟨_, _, [0, 1, 2, 3], ⟨c', k, rfl, rfl⟩, by decide, ⟨rfl, rfl, rfl, trivial⟩, trivial, ⟨⟨_, rfl, eqvB_refl _⟩, ⟨_, rfl, eqvB_refl _⟩, ⟨_, rfl, eqvB_refl _⟩, ⟨_, rfl, eqvB_refl _⟩, trivial⟩⟩
end Go.Proofs.YtdlpmbghocabbaaGreatDoor

/- The writer's list and many bytes: contracts that go on. No condition. -/
namespace Go.Anv
open Go
/-- The first bytes of what a block holds. -/
def lst (q : Nat → B8) (n : Nat) : List B8 := (List.range n).map q
theorem lst_len (q : Nat → B8) (n : Nat) : (lst q n).length = n := by simp [lst]
theorem bf_lst (q : Nat → B8) (n : Nat) : ∀ j, j < n → bfun q j = bf (lst q n) j := by
  intro j hj
  simp [bfun, bf, lst, List.getD_eq_getElem?_getD, List.getElem?_range hj]
theorem nat64 {n : Nat} (h : n ≤ 140737488355328) : IntKind.u64.wrap (n : Int) = ((BitVec.ofNat 64 n).toNat : Int) := by
  rw [wrap_u64, BitVec.toNat_ofInt, BitVec.toNat_ofNat]
  omega
end Go.Anv
namespace Go.Proofs.YtdlpmbghocabbaaGreatDoor
open Go Go.Anv
theorem bytes_k {h : List Blk} {K : EV → List Blk → Prop} (pw pb pp : Nat) {L : List B8} {c : Nat} (m : Bool) (P : List B8) (k o cp sp : Nat) (f : Nat → Int) (hf : ∀ j, j < P.length → f (o + j) = bf P j) (hk : o + P.length ≤ k)
    (hL : L.length ≤ 70368744177664) (hP : P.length ≤ 70368744177664) (hc : L.length ≤ c)
    (hw : nthB h pw = some (wb pb L c)) (hb : nthB h pb = some (lb L c)) (hp : nthB h pp = some (.cells m [.ints .u8 k f] sp)) (hne : pw ≠ pb ∧ pw ≠ pp ∧ pb ≠ pp) {n : Nat} (hn : n = P.length)
    (hK : ∀ L' c', L' = L ++ P → L'.length = L.length + n → L'.length ≤ c' → lenK h 0 fun N => updBK h pw (wb N L' c') fun h1 => updBK h1 pb .dead fun h2 => updBK h2 pp (.cells m [.ints .u8 k f] sp) fun h3 => appBK h3 [lb L' c'] fun h4 => K (.tuple []) h4) :
    Does TB 36 [.s (.ptr pw 0), .s (.gs pp o n cp)] h K := by
  subst hn
  refine Does.at (bytes_spec L c m P k o cp sp f hf hk hL hP hc) [pw, pb, pp] rfl ⟨hw, hb, hp, trivial⟩ (by simp [hne]) ?_ ?_
  · rintro v h' ⟨c', _, _, rfl⟩
    exact ⟨.inl rfl, .inr (.inl rfl), .inr (.inr rfl), .inl rfl, trivial⟩
  · rintro v h' ⟨c', h1, rfl, rfl⟩
    have hl : (L ++ P).length = L.length + P.length := List.length_append
    have := hK _ c' rfl hl (by rw [hl]; exact h1)
    rw [lenK_eq, updBK_eq, updBK_eq, updBK_eq, appBK_eq, Nat.zero_add] at this
    rw [forceH_eq, forceE_eq]
    exact this

set_option maxRecDepth 100000 in
theorem list_spec (m mb : Bool) (q : Nat → B8) (n cp sp size : Nat) (most : Int) (hs : 0 < size ∧ size ≤ 8) (hn : n ≤ 1048576) (L : List B8) (c : Nat) (hL : L.length ≤ 1099511627776) (hc : L.length ≤ c) :
    Does TB 269 [.s (.ptr 0 0), .s (.ptr 2 0), .s (.int .i64 size), .s (.int .i64 most)] [wb 1 L c, lb L c, .cells m [.one (.gs 3 0 n cp)] 0, bblk mb n q sp]
    (fun r h' => ∃ L' c', L' = L ++ le (BitVec.ofNat 64 n) size ++ lst q n ∧ L'.length = L.length + size + n ∧ L'.length ≤ c' ∧ r = .tuple [] ∧ h' = [wb 4 L' c', .dead, .cells m [.one (.gs 3 0 n cp)] 0, bblk mb n q sp, lb L' c']) := by
  refine fnX_does TB Tryz.func269 rfl (by decide) (fun O on hO => ?_)
  refine number_k 0 1 (BitVec.ofNat 64 n) size (nat64 (by omega)) hs (by omega) hc rfl rfl (by decide) ?_
  intro L1 c1 e1 l1 k1
  refine bytes_k 0 4 3 mb (lst q n) n 0 cp sp (bfun q) ?_ (by rw [lst_len]; omega) (by omega) (by rw [lst_len]; omega) k1 rfl rfl rfl (by decide) (lst_len q n).symm ?_
  · intro j hj
    rw [Nat.zero_add]
    rw [lst_len] at hj
    exact bf_lst q n j hj
  intro L2 c2 e2 l2 k2
  subst e1
  exact ⟨_, _, [0, 1, 2, 3, 5], ⟨L2, c2, e2, by omega, k2, rfl, rfl⟩, by decide, ⟨rfl, rfl, rfl, rfl, trivial⟩, trivial, ⟨⟨_, rfl, eqvB_refl _⟩, ⟨_, rfl, eqvB_refl _⟩, ⟨_, rfl, eqvB_refl _⟩, ⟨_, rfl, eqvB_refl _⟩, ⟨_, rfl, eqvB_refl _⟩, trivial⟩⟩

/-- In a larger heap. -/
theorem list_k {h : List Blk} {K : EV → List Blk → Prop} (pw pb pv pp k : Nat) {m mb : Bool} {q : Nat → B8} {n cp sp spv size : Nat} {most : Int} {cs : List Seg} {L : List B8} {c : Nat} {pe : EV} (N : Nat) (hN : h.length = N) (hs : 0 < size ∧ size ≤ 8) (hn : n ≤ 1048576) (hL : L.length ≤ 1099511627776) (hc : L.length ≤ c)
    (hw : nthB h pw = some (wb pb L c)) (hb : nthB h pb = some (lb L c)) (hv : nthB h pv = some (.cells m cs spv)) (hp : nthB h pp = some (bblk mb n q sp)) (hne : [pw, pb, pv, pp].Nodup) (hpe : ptrTo pv k pe)
    (hcell : CellAt cs k (.gs pp 0 n cp) cs (.gs pp 0 n cp))
    (hK : ∀ L' c', L' = L ++ le (BitVec.ofNat 64 n) size ++ lst q n → L'.length = L.length + size + n → L'.length ≤ c' →
      forceH (updB (updB (mergeB (updB h pv .dead ++ [.cells m [.one (.gs pp 0 n cp)] 0]) [pw, pb, N, pp] [wb (N + 1) L' c', .dead, .cells m [.one (.gs pp 0 n cp)] 0, bblk mb n q sp, lb L' c']) N .dead) pv (.cells m cs spv)) fun h2 => K (.tuple []) h2) :
    Does TB 269 [.s (.ptr pw 0), pe, .s (.int .i64 size), .s (.int .i64 most)] h K := by
  subst hN
  simp only [List.nodup_cons, List.mem_cons, List.not_mem_nil, or_false, not_or, List.nodup_nil, and_true, not_false_eq_true] at hne
  obtain ⟨⟨n1, n2, n3⟩, ⟨n4, n5⟩, n6⟩ := hne
  have lw := nthB_lt hw
  have lbb := nthB_lt hb
  have lp := nthB_lt hp
  have lN : nthB (updB h pv .dead ++ [Blk.cells m [.one (.gs pp 0 n cp)] 0]) h.length = some (.cells m [.one (.gs pp 0 n cp)] 0) := by
    have := nthB_len (updB h pv .dead) (Blk.cells m [.one (.gs pp 0 n cp)] 0) []
    rwa [len_updB] at this
  refine Does.cell (list_spec m mb q n cp sp size most hs hn L c hL hc) [pw, pb, h.length, pp] pv k h.length rfl hv (Cell.keep hcell) ⟨nthB_app (nthB_upd_ne hw n2), nthB_app (nthB_upd_ne hb n4), lN, nthB_app (nthB_upd_ne hp (Ne.symm n6)), trivial⟩ ⟨.inl ⟨rfl, rfl⟩, ptrTo_part hpe, rfl, rfl, trivial⟩ ?_ ?_ ?_ ?_
  · simp only [List.nodup_cons, List.mem_cons, List.not_mem_nil, or_false, not_or, List.nodup_nil, and_true, not_false_eq_true]
    exact ⟨⟨n1, by omega, n3⟩, ⟨by omega, n5⟩, by omega⟩
  · rintro v h' ⟨L', c', _, _, _, _, rfl⟩
    exact ⟨.inl rfl, .inr (.inl rfl), .inr (.inr rfl), .inr (.inr rfl), .inl rfl, trivial⟩
  · rintro v h' ⟨L', c', _, _, _, _, rfl⟩
    exact Nat.le_succ _
  · rintro v h' ⟨L', c', e1, e2, e3, rfl, rfl⟩
    refine ⟨_, _, ?_, ⟨rfl, rfl⟩, ?_⟩
    · show nthB (updB (updB (updB (updB _ pw _) pb _) h.length _) pp _ ++ _) _ = _
      exact nthB_app (nthB_upd_ne (nthB_upd_eq (nthB_upd_ne (nthB_upd_ne lN (by omega)) (by omega))) (by omega))
    · rw [forceH_eq, forceE_eq]
      have := hK L' c' e1 e2 e3
      rw [forceH_eq] at this
      exact this
end Go.Proofs.YtdlpmbghocabbaaGreatDoor

/- The writer goes through all that stands ahead of the RAM. Contract of a function. No condition. -/
namespace Go.Anv
open Go
def manyN (g : Nat → List B8) (L : List B8) : Nat → List B8
  | 0 => L
  | n + 1 => manyN g L n ++ g n
theorem manyN_len {g : Nat → List B8} {L : List B8} {w : Nat} (hg : ∀ i, (g i).length = w) : ∀ n, (manyN g L n).length = L.length + w * n
  | 0 => rfl
  | n + 1 => by
    simp only [manyN, List.length_append, hg, manyN_len hg n, Nat.mul_add, Nat.mul_one]; omega
/-- The bytes of a Cpu behind others. -/
def cpuOn (cp : CpuV) (L : List B8) : List B8 :=
  manyN (fun i => le (cp.addr i) 8) (manyN (fun i => le ((cp.cfg i).setWidth 64) 1) (manyN (fun i => le (cp.x i) 8) (L ++ le cp.pc 8) 32 ++ le (BitVec.ofInt 64 cp.mode) 1 ++ bb cp.waiting ++
    le cp.mstatus 8 ++ le cp.mtvec 8 ++ le cp.mie 8 ++ le cp.mcounteren 8 ++ le cp.mcountinhibit 8 ++ le cp.menvcfg 8 ++ le cp.mscratch 8 ++ le cp.mepc 8 ++ le cp.mcause 8 ++ le cp.mtval 8 ++ le cp.mcycle 8 ++ le cp.minstret 8) 16) 16 ++
    bb cp.rvalid ++ le cp.raddr 8 ++ le (BitVec.ofInt 64 cp.rsize) 1
/-- The bytes of a bus's devices behind others. -/
def devOn (s : BusV) (inp out : Nat → B8) (L : List B8) : List B8 :=
  L ++ le (s.msip.setWidth 64) 4 ++ le s.cmp 8 ++ le s.now 8 ++ bb s.ext ++ bb s.soft ++ le (s.ier.setWidth 64) 1 ++ le (s.lcr.setWidth 64) 1 ++ le (s.mcr.setWidth 64) 1 ++ le (s.scratch.setWidth 64) 1 ++
    bb s.overrun ++ le (BitVec.ofInt 64 s.off) 1 ++ le (BitVec.ofInt 64 s.code) 4 ++ le (BitVec.ofNat 64 s.ni) 1 ++ lst inp s.ni ++ le (BitVec.ofNat 64 s.no) 2 ++ lst out s.no
end Go.Anv
namespace Go.Proofs.YtdlpmbghocabbaaGreatDoor
open Go Go.Anv
/-- The whole's cells as 'both' has them; the heap at a loop's head. -/
def wseg (cp : CpuV) (s : BusV) (cr ci co : Nat) : List Seg := wsegs cp s (.gs 5 0 s.nr cr) (.gs 3 0 s.ni ci) (.gs 4 0 s.no co)
def hd (s : BusV) (cp : CpuV) (m0 m1 m2 m3 : Bool) (ram inp out : Nat → B8) (cr ci co s0 s1 s2 s3 : Nat) (L : List B8) (c : Nat) : List Blk :=
  [wb 6 L c, .cells m0 (wseg cp s cr ci co) s0, .dead, bblk m1 s.ni inp s1, bblk m2 s.no out s2, bblk m3 s.nr ram s3, lb L c]
set_option maxRecDepth 100000 in
set_option maxHeartbeats 4000000 in
theorem both_spec (s : BusV) (cp : CpuV) (m0 m1 m2 m3 : Bool) (ram inp out : Nat → B8) (cr ci co s0 s1 s2 s3 : Nat) (L0 : List B8) (c0 : Nat) (b0 : L0.length ≤ 1024) (k0 : L0.length ≤ c0) (hi : s.ni ≤ 64) (ho : s.no ≤ 4096) :
    Does TB 37 [.s (.iface 92 false [.ptr 0 0]), .s (.ptr 1 0)] [wb 2 L0 c0, .cells m0 (wseg cp s cr ci co) s0, lb L0 c0, bblk m1 s.ni inp s1, bblk m2 s.no out s2, bblk m3 s.nr ram s3]
    (fun r h' => ∃ c', (devOn s inp out (cpuOn cp L0)).length ≤ c' ∧ (devOn s inp out (cpuOn cp L0)).length ≤ 16384 ∧ r = .tuple [] ∧ h' = hd s cp m0 m1 m2 m3 ram inp out cr ci co s0 s1 s2 s3 (devOn s inp out (cpuOn cp L0)) c') := by
  refine fnX_does TB Tryz.func37 rfl (by decide) (fun O on hO => ?_)
  refine draw_but [0, 2] on rfl (fun _ _ h => h) ?_
  refine one_k (le (cp.pc) 8) [] 0 2 1 0 (double_spec m0 (cp.pc)) (fun _ => rfl) (by omega) k0 rfl rfl (by decide) rfl ⟨rfl, rfl⟩ (cell_one rfl rfl) ?_
  intro L1 c1 e1 l1 k1
  have b1 : L1.length ≤ 1032 := by rw [l1]; rw [le_len]; omega
  clear l1 b0 k0
  repeat (refine need_intro rfl ?_)
  refine loop_in (A := Nat × Nat) on (fun i => [(24, .s (.int .i64 (i.1 : Int))), (5, .junk)]) (fun i => hd s cp m0 m1 m2 m3 ram inp out cr ci co s0 s1 s2 s3 (manyN (fun i => le (cp.x i) 8) L1 i.1) i.2) (fun i => i.1 ≤ 32 ∧ (manyN (fun i => le (cp.x i) 8) L1 i.1).length ≤ i.2) (fun i => 32 - i.1) (0, c1) ⟨Nat.zero_le _, k1⟩ [0, 1, 2, 3, 4, 5, 7] ?_ ?_
  · rw [hO]
    refine ⟨by decide, ⟨rfl, rfl, rfl, rfl, rfl, rfl, trivial⟩, ?_, ?_⟩
    · repeat' (first | exact eqvT_nil | refine eqvT_junk ?_ | refine eqvT_same ?_ | refine eqvT_int ?_ ?_)
    · exact ⟨⟨_, rfl, eqvB_refl _⟩, ⟨_, rfl, eqvB_refl _⟩, ⟨_, rfl, eqvB_refl _⟩, ⟨_, rfl, eqvB_refl _⟩, ⟨_, rfl, eqvB_refl _⟩, ⟨_, rfl, eqvB_refl _⟩, ⟨_, rfl, eqvB_refl _⟩, trivial⟩
  rintro ⟨i, cap⟩ ⟨hi1, k2⟩
  replace hi1 : i ≤ 32 := hi1
  replace k2 : (manyN (fun i => le (cp.x i) 8) L1 i).length ≤ cap := k2
  have hm1 : (manyN (fun i => le (cp.x i) 8) L1 i).length = L1.length + 8 * i := manyN_len (fun i => le_len _ _) i
  refine ifB_intro (fun h1 => ?_) (fun h1 => ?_)
  · have h1 : i < 32 := by have h2 := of_decide_eq_true h1; omega
    have hx : (manyN (fun i => le (cp.x i) 8) L1 i ++ le (cp.x i) 8) = manyN (fun i => le (cp.x i) 8) L1 (i + 1) := rfl
    generalize manyN (fun i => le (cp.x i) 8) L1 i = L2 at *
    have b2 : L2.length ≤ 1288 := by omega
    refine draw_but [0, 6] on rfl (fun _ _ h => h) ?_
    refine need_intro ⟨by omega, by omega⟩ ?_
    refine one_k (le (cp.x i) 8) [] 0 6 1 (1 + i) (double_spec m0 (cp.x i)) (fun _ => rfl) (by omega) k2 rfl rfl (by decide) rfl ⟨rfl, rfl⟩ (cell_ints (cs := wseg cp s cr ci co) (o := 1) (j := i) (k := .u64) (n := 32) (f := wfun cp.x) rfl h1) ?_
    intro L3 c3 e3 l3 k3
    have b3 : L3.length ≤ 1296 := by rw [l3]; rw [le_len]; omega
    clear l3 b2 k2
    repeat (refine need_intro rfl ?_)
    refine ⟨(i + 1, c3), ⟨?_, ?_⟩, ?_, [0, 1, 2, 3, 4, 5, 8], ?_⟩
    · show i + 1 ≤ 32; omega
    · show (manyN (fun i => le (cp.x i) 8) L1 (i + 1)).length ≤ c3; rw [← hx, ← e3]; exact k3
    · show 32 - (i + 1) < 32 - i; omega
    · rw [hO]
      refine ⟨by decide, ⟨rfl, rfl, rfl, rfl, rfl, rfl, trivial⟩, ?_, ?_⟩
      · repeat' (first | exact eqvT_nil | refine eqvT_junk ?_ | refine eqvT_same ?_ | refine eqvT_int ?_ ?_)
        all_goals (rw [i64_in (by omega) (by omega)]; rfl)
      · rw [hx] at e3
        subst e3
        exact ⟨⟨_, rfl, eqvB_refl _⟩, ⟨_, rfl, eqvB_refl _⟩, ⟨_, rfl, eqvB_refl _⟩, ⟨_, rfl, eqvB_refl _⟩, ⟨_, rfl, eqvB_refl _⟩, ⟨_, rfl, eqvB_refl _⟩, ⟨_, rfl, eqvB_refl _⟩, trivial⟩
  have h1 : i = 32 := by have h2 := of_decide_eq_false h1; omega
  subst h1
  generalize e2 : manyN (fun i => le (cp.x i) 8) L1 32 = L2 at *
  have b2 : L2.length ≤ 1288 := by omega
  generalize hcap2 : cap = c2 at *
  refine draw_but [0, 6] on rfl (fun _ _ h => h) ?_
  refine one_k (le (BitVec.ofInt 64 cp.mode) 1) [(1 : Int)] 0 6 1 33 (place_spec m0 cp.mode 1 (by decide)) (fun _ => rfl) (by omega) k2 rfl rfl (by decide) rfl ⟨rfl, rfl⟩ (cell_one rfl rfl) ?_
  intro L3 c3 e3 l3 k3
  have b3 : L3.length ≤ 1289 := by rw [l3]; rw [le_len]; omega
  clear l3 b2 k2
  repeat (refine need_intro rfl ?_)
  refine draw_but [0, 8] on rfl (fun _ _ h => h) ?_
  refine one_k (bb cp.waiting) [] 0 8 1 34 (wflag_spec m0 cp.waiting) (fun _ => rfl) (by omega) k3 rfl rfl (by decide) rfl ⟨rfl, rfl⟩ (cell_one rfl rfl) ?_
  intro L4 c4 e4 l4 k4
  have b4 : L4.length ≤ 1290 := by rw [l4]; show _ + 1 ≤ _; omega
  clear l4 b3 k3
  repeat (refine need_intro rfl ?_)
  refine draw_held on rfl (fun _ _ h => h) ?_
  repeat (refine need_intro rfl ?_)
  refine loop_times on 13 ?_
  refine Box.mk ?_
  refine need_intro (by decide) ?_
  refine one_k (le (cp.mstatus) 8) [] 0 10 1 35 (double_spec m0 (cp.mstatus)) (fun _ => rfl) (by omega) k4 rfl rfl (by decide) rfl ⟨rfl, rfl⟩ (cell_one rfl rfl) ?_
  intro L5 c5 e5 l5 k5
  have b5 : L5.length ≤ 1298 := by rw [l5]; rw [le_len]; omega
  clear l5 b4 k4
  refine Box.mk ?_
  refine need_intro (by decide) ?_
  refine one_k (le (cp.mtvec) 8) [] 0 13 1 36 (double_spec m0 (cp.mtvec)) (fun _ => rfl) (by omega) k5 rfl rfl (by decide) rfl ⟨rfl, rfl⟩ (cell_one rfl rfl) ?_
  intro L6 c6 e6 l6 k6
  have b6 : L6.length ≤ 1306 := by rw [l6]; rw [le_len]; omega
  clear l6 b5 k5
  refine Box.mk ?_
  refine need_intro (by decide) ?_
  refine one_k (le (cp.mie) 8) [] 0 15 1 37 (double_spec m0 (cp.mie)) (fun _ => rfl) (by omega) k6 rfl rfl (by decide) rfl ⟨rfl, rfl⟩ (cell_one rfl rfl) ?_
  intro L7 c7 e7 l7 k7
  have b7 : L7.length ≤ 1314 := by rw [l7]; rw [le_len]; omega
  clear l7 b6 k6
  refine Box.mk ?_
  refine need_intro (by decide) ?_
  refine one_k (le (cp.mcounteren) 8) [] 0 17 1 38 (double_spec m0 (cp.mcounteren)) (fun _ => rfl) (by omega) k7 rfl rfl (by decide) rfl ⟨rfl, rfl⟩ (cell_one rfl rfl) ?_
  intro L8 c8 e8 l8 k8
  have b8 : L8.length ≤ 1322 := by rw [l8]; rw [le_len]; omega
  clear l8 b7 k7
  refine Box.mk ?_
  refine need_intro (by decide) ?_
  refine one_k (le (cp.mcountinhibit) 8) [] 0 19 1 39 (double_spec m0 (cp.mcountinhibit)) (fun _ => rfl) (by omega) k8 rfl rfl (by decide) rfl ⟨rfl, rfl⟩ (cell_one rfl rfl) ?_
  intro L9 c9 e9 l9 k9
  have b9 : L9.length ≤ 1330 := by rw [l9]; rw [le_len]; omega
  clear l9 b8 k8
  refine Box.mk ?_
  refine need_intro (by decide) ?_
  refine one_k (le (cp.menvcfg) 8) [] 0 21 1 40 (double_spec m0 (cp.menvcfg)) (fun _ => rfl) (by omega) k9 rfl rfl (by decide) rfl ⟨rfl, rfl⟩ (cell_one rfl rfl) ?_
  intro L10 c10 e10 l10 k10
  have b10 : L10.length ≤ 1338 := by rw [l10]; rw [le_len]; omega
  clear l10 b9 k9
  refine Box.mk ?_
  refine need_intro (by decide) ?_
  refine one_k (le (cp.mscratch) 8) [] 0 23 1 41 (double_spec m0 (cp.mscratch)) (fun _ => rfl) (by omega) k10 rfl rfl (by decide) rfl ⟨rfl, rfl⟩ (cell_one rfl rfl) ?_
  intro L11 c11 e11 l11 k11
  have b11 : L11.length ≤ 1346 := by rw [l11]; rw [le_len]; omega
  clear l11 b10 k10
  refine Box.mk ?_
  refine need_intro (by decide) ?_
  refine one_k (le (cp.mepc) 8) [] 0 25 1 42 (double_spec m0 (cp.mepc)) (fun _ => rfl) (by omega) k11 rfl rfl (by decide) rfl ⟨rfl, rfl⟩ (cell_one rfl rfl) ?_
  intro L12 c12 e12 l12 k12
  have b12 : L12.length ≤ 1354 := by rw [l12]; rw [le_len]; omega
  clear l12 b11 k11
  refine Box.mk ?_
  refine need_intro (by decide) ?_
  refine one_k (le (cp.mcause) 8) [] 0 27 1 43 (double_spec m0 (cp.mcause)) (fun _ => rfl) (by omega) k12 rfl rfl (by decide) rfl ⟨rfl, rfl⟩ (cell_one rfl rfl) ?_
  intro L13 c13 e13 l13 k13
  have b13 : L13.length ≤ 1362 := by rw [l13]; rw [le_len]; omega
  clear l13 b12 k12
  refine Box.mk ?_
  refine need_intro (by decide) ?_
  refine one_k (le (cp.mtval) 8) [] 0 29 1 44 (double_spec m0 (cp.mtval)) (fun _ => rfl) (by omega) k13 rfl rfl (by decide) rfl ⟨rfl, rfl⟩ (cell_one rfl rfl) ?_
  intro L14 c14 e14 l14 k14
  have b14 : L14.length ≤ 1370 := by rw [l14]; rw [le_len]; omega
  clear l14 b13 k13
  refine Box.mk ?_
  refine need_intro (by decide) ?_
  refine one_k (le (cp.mcycle) 8) [] 0 31 1 45 (double_spec m0 (cp.mcycle)) (fun _ => rfl) (by omega) k14 rfl rfl (by decide) rfl ⟨rfl, rfl⟩ (cell_one rfl rfl) ?_
  intro L15 c15 e15 l15 k15
  have b15 : L15.length ≤ 1378 := by rw [l15]; rw [le_len]; omega
  clear l15 b14 k14
  refine Box.mk ?_
  refine need_intro (by decide) ?_
  refine one_k (le (cp.minstret) 8) [] 0 33 1 46 (double_spec m0 (cp.minstret)) (fun _ => rfl) (by omega) k15 rfl rfl (by decide) rfl ⟨rfl, rfl⟩ (cell_one rfl rfl) ?_
  intro L16 c16 e16 l16 k16
  have b16 : L16.length ≤ 1386 := by rw [l16]; rw [le_len]; omega
  clear l16 b15 k15
  refine Box.mk ?_
  refine loop_in (A := Nat × Nat) on (fun i => [(100, .s (.int .i64 (i.1 : Int))), (8, .junk), (90, .junk), (94, .junk)]) (fun i => hd s cp m0 m1 m2 m3 ram inp out cr ci co s0 s1 s2 s3 (manyN (fun i => le ((cp.cfg i).setWidth 64) 1) L16 i.1) i.2) (fun i => i.1 ≤ 16 ∧ (manyN (fun i => le ((cp.cfg i).setWidth 64) 1) L16 i.1).length ≤ i.2) (fun i => 16 - i.1) (0, c16) ⟨Nat.zero_le _, k16⟩ [0, 1, 2, 3, 4, 5, 35] ?_ ?_
  · rw [hO]
    refine ⟨by decide, ⟨rfl, rfl, rfl, rfl, rfl, rfl, trivial⟩, ?_, ?_⟩
    · repeat' (first | exact eqvT_nil | refine eqvT_junk ?_ | refine eqvT_same ?_ | refine eqvT_int ?_ ?_)
    · exact ⟨⟨_, rfl, eqvB_refl _⟩, ⟨_, rfl, eqvB_refl _⟩, ⟨_, rfl, eqvB_refl _⟩, ⟨_, rfl, eqvB_refl _⟩, ⟨_, rfl, eqvB_refl _⟩, ⟨_, rfl, eqvB_refl _⟩, ⟨_, rfl, eqvB_refl _⟩, trivial⟩
  rintro ⟨i, cap⟩ ⟨hi16, k17⟩
  replace hi16 : i ≤ 16 := hi16
  replace k17 : (manyN (fun i => le ((cp.cfg i).setWidth 64) 1) L16 i).length ≤ cap := k17
  have hm16 : (manyN (fun i => le ((cp.cfg i).setWidth 64) 1) L16 i).length = L16.length + 1 * i := manyN_len (fun i => le_len _ _) i
  refine ifB_intro (fun h1 => ?_) (fun h1 => ?_)
  · have h1 : i < 16 := by have h2 := of_decide_eq_true h1; omega
    have hx : (manyN (fun i => le ((cp.cfg i).setWidth 64) 1) L16 i ++ le ((cp.cfg i).setWidth 64) 1) = manyN (fun i => le ((cp.cfg i).setWidth 64) 1) L16 (i + 1) := rfl
    generalize manyN (fun i => le ((cp.cfg i).setWidth 64) 1) L16 i = L17 at *
    have b17 : L17.length ≤ 1402 := by omega
    refine draw_but [0, 6] on rfl (fun _ _ h => h) ?_
    refine need_intro ⟨by omega, by omega⟩ ?_
    refine one_k (le ((cp.cfg i).setWidth 64) 1) [] 0 6 1 (47 + i) (octet_spec m0 (cp.cfg i)) (fun _ => rfl) (by omega) k17 rfl rfl (by decide) rfl ⟨rfl, rfl⟩ (cell_ints (cs := wseg cp s cr ci co) (o := 47) (j := i) (k := .u8) (n := 16) (f := bfun cp.cfg) rfl h1) ?_
    intro L18 c18 e18 l18 k18
    have b18 : L18.length ≤ 1403 := by rw [l18]; rw [le_len]; omega
    clear l18 b17 k17
    repeat (refine need_intro rfl ?_)
    refine ⟨(i + 1, c18), ⟨?_, ?_⟩, ?_, [0, 1, 2, 3, 4, 5, 8], ?_⟩
    · show i + 1 ≤ 16; omega
    · show (manyN (fun i => le ((cp.cfg i).setWidth 64) 1) L16 (i + 1)).length ≤ c18; rw [← hx, ← e18]; exact k18
    · show 16 - (i + 1) < 16 - i; omega
    · rw [hO]
      refine ⟨by decide, ⟨rfl, rfl, rfl, rfl, rfl, rfl, trivial⟩, ?_, ?_⟩
      · repeat' (first | exact eqvT_nil | refine eqvT_junk ?_ | refine eqvT_same ?_ | refine eqvT_int ?_ ?_)
        all_goals (rw [i64_in (by omega) (by omega)]; rfl)
      · rw [hx] at e18
        subst e18
        exact ⟨⟨_, rfl, eqvB_refl _⟩, ⟨_, rfl, eqvB_refl _⟩, ⟨_, rfl, eqvB_refl _⟩, ⟨_, rfl, eqvB_refl _⟩, ⟨_, rfl, eqvB_refl _⟩, ⟨_, rfl, eqvB_refl _⟩, ⟨_, rfl, eqvB_refl _⟩, trivial⟩
  have h1 : i = 16 := by have h2 := of_decide_eq_false h1; omega
  subst h1
  generalize e17 : manyN (fun i => le ((cp.cfg i).setWidth 64) 1) L16 16 = L17 at *
  have b17 : L17.length ≤ 1402 := by omega
  generalize hcap17 : cap = c17 at *
  refine loop_in (A := Nat × Nat) on (fun i => [(115, .s (.int .i64 (i.1 : Int))), (9, .junk)]) (fun i => hd s cp m0 m1 m2 m3 ram inp out cr ci co s0 s1 s2 s3 (manyN (fun i => le (cp.addr i) 8) L17 i.1) i.2) (fun i => i.1 ≤ 16 ∧ (manyN (fun i => le (cp.addr i) 8) L17 i.1).length ≤ i.2) (fun i => 16 - i.1) (0, c17) ⟨Nat.zero_le _, k17⟩ [0, 1, 2, 3, 4, 5, 6] ?_ ?_
  · rw [hO]
    refine ⟨by decide, ⟨rfl, rfl, rfl, rfl, rfl, rfl, trivial⟩, ?_, ?_⟩
    · repeat' (first | exact eqvT_nil | refine eqvT_junk ?_ | refine eqvT_same ?_ | refine eqvT_int ?_ ?_)
    · exact ⟨⟨_, rfl, eqvB_refl _⟩, ⟨_, rfl, eqvB_refl _⟩, ⟨_, rfl, eqvB_refl _⟩, ⟨_, rfl, eqvB_refl _⟩, ⟨_, rfl, eqvB_refl _⟩, ⟨_, rfl, eqvB_refl _⟩, ⟨_, rfl, eqvB_refl _⟩, trivial⟩
  rintro ⟨i, cap⟩ ⟨hi17, k18⟩
  replace hi17 : i ≤ 16 := hi17
  replace k18 : (manyN (fun i => le (cp.addr i) 8) L17 i).length ≤ cap := k18
  have hm17 : (manyN (fun i => le (cp.addr i) 8) L17 i).length = L17.length + 8 * i := manyN_len (fun i => le_len _ _) i
  refine ifB_intro (fun h1 => ?_) (fun h1 => ?_)
  · have h1 : i < 16 := by have h2 := of_decide_eq_true h1; omega
    have hx : (manyN (fun i => le (cp.addr i) 8) L17 i ++ le (cp.addr i) 8) = manyN (fun i => le (cp.addr i) 8) L17 (i + 1) := rfl
    generalize manyN (fun i => le (cp.addr i) 8) L17 i = L18 at *
    have b18 : L18.length ≤ 1530 := by omega
    refine draw_but [0, 6] on rfl (fun _ _ h => h) ?_
    refine need_intro ⟨by omega, by omega⟩ ?_
    refine one_k (le (cp.addr i) 8) [] 0 6 1 (63 + i) (double_spec m0 (cp.addr i)) (fun _ => rfl) (by omega) k18 rfl rfl (by decide) rfl ⟨rfl, rfl⟩ (cell_ints (cs := wseg cp s cr ci co) (o := 63) (j := i) (k := .u64) (n := 16) (f := wfun cp.addr) rfl h1) ?_
    intro L19 c19 e19 l19 k19
    have b19 : L19.length ≤ 1538 := by rw [l19]; rw [le_len]; omega
    clear l19 b18 k18
    repeat (refine need_intro rfl ?_)
    refine ⟨(i + 1, c19), ⟨?_, ?_⟩, ?_, [0, 1, 2, 3, 4, 5, 8], ?_⟩
    · show i + 1 ≤ 16; omega
    · show (manyN (fun i => le (cp.addr i) 8) L17 (i + 1)).length ≤ c19; rw [← hx, ← e19]; exact k19
    · show 16 - (i + 1) < 16 - i; omega
    · rw [hO]
      refine ⟨by decide, ⟨rfl, rfl, rfl, rfl, rfl, rfl, trivial⟩, ?_, ?_⟩
      · repeat' (first | exact eqvT_nil | refine eqvT_junk ?_ | refine eqvT_same ?_ | refine eqvT_int ?_ ?_)
        all_goals (rw [i64_in (by omega) (by omega)]; rfl)
      · rw [hx] at e19
        subst e19
        exact ⟨⟨_, rfl, eqvB_refl _⟩, ⟨_, rfl, eqvB_refl _⟩, ⟨_, rfl, eqvB_refl _⟩, ⟨_, rfl, eqvB_refl _⟩, ⟨_, rfl, eqvB_refl _⟩, ⟨_, rfl, eqvB_refl _⟩, ⟨_, rfl, eqvB_refl _⟩, trivial⟩
  have h1 : i = 16 := by have h2 := of_decide_eq_false h1; omega
  subst h1
  generalize e18 : manyN (fun i => le (cp.addr i) 8) L17 16 = L18 at *
  have b18 : L18.length ≤ 1530 := by omega
  generalize hcap18 : cap = c18 at *
  refine draw_but [0, 6] on rfl (fun _ _ h => h) ?_
  refine one_k (bb cp.rvalid) [] 0 6 1 79 (wflag_spec m0 cp.rvalid) (fun _ => rfl) (by omega) k18 rfl rfl (by decide) rfl ⟨rfl, rfl⟩ (cell_one rfl rfl) ?_
  intro L19 c19 e19 l19 k19
  have b19 : L19.length ≤ 1531 := by rw [l19]; show _ + 1 ≤ _; omega
  clear l19 b18 k18
  repeat (refine need_intro rfl ?_)
  refine draw_but [0, 8] on rfl (fun _ _ h => h) ?_
  refine one_k (le (cp.raddr) 8) [] 0 8 1 80 (double_spec m0 (cp.raddr)) (fun _ => rfl) (by omega) k19 rfl rfl (by decide) rfl ⟨rfl, rfl⟩ (cell_one rfl rfl) ?_
  intro L20 c20 e20 l20 k20
  have b20 : L20.length ≤ 1539 := by rw [l20]; rw [le_len]; omega
  clear l20 b19 k19
  repeat (refine need_intro rfl ?_)
  refine draw_but [0, 10] on rfl (fun _ _ h => h) ?_
  refine one_k (le (BitVec.ofInt 64 cp.rsize) 1) [(1 : Int)] 0 10 1 81 (place_spec m0 cp.rsize 1 (by decide)) (fun _ => rfl) (by omega) k20 rfl rfl (by decide) rfl ⟨rfl, rfl⟩ (cell_one rfl rfl) ?_
  intro L21 c21 e21 l21 k21
  have b21 : L21.length ≤ 1540 := by rw [l21]; rw [le_len]; omega
  clear l21 b20 k20
  repeat (refine need_intro rfl ?_)
  refine draw_but [0, 12] on rfl (fun _ _ h => h) ?_
  refine one_k (le (s.msip.setWidth 64) 4) [] 0 12 1 83 (word_spec m0 s.msip) (fun _ => rfl) (by omega) k21 rfl rfl (by decide) rfl ⟨rfl, rfl⟩ (cell_one rfl rfl) ?_
  intro L22 c22 e22 l22 k22
  have b22 : L22.length ≤ 1544 := by rw [l22]; rw [le_len]; omega
  clear l22 b21 k21
  repeat (refine need_intro rfl ?_)
  refine draw_but [0, 14] on rfl (fun _ _ h => h) ?_
  refine one_k (le (s.cmp) 8) [] 0 14 1 84 (double_spec m0 (s.cmp)) (fun _ => rfl) (by omega) k22 rfl rfl (by decide) rfl ⟨rfl, rfl⟩ (cell_one rfl rfl) ?_
  intro L23 c23 e23 l23 k23
  have b23 : L23.length ≤ 1552 := by rw [l23]; rw [le_len]; omega
  clear l23 b22 k22
  repeat (refine need_intro rfl ?_)
  refine draw_but [0, 16] on rfl (fun _ _ h => h) ?_
  refine one_k (le (s.now) 8) [] 0 16 1 85 (double_spec m0 (s.now)) (fun _ => rfl) (by omega) k23 rfl rfl (by decide) rfl ⟨rfl, rfl⟩ (cell_one rfl rfl) ?_
  intro L24 c24 e24 l24 k24
  have b24 : L24.length ≤ 1560 := by rw [l24]; rw [le_len]; omega
  clear l24 b23 k23
  repeat (refine need_intro rfl ?_)
  refine draw_but [0, 18] on rfl (fun _ _ h => h) ?_
  refine one_k (bb s.ext) [] 0 18 1 86 (wflag_spec m0 s.ext) (fun _ => rfl) (by omega) k24 rfl rfl (by decide) rfl ⟨rfl, rfl⟩ (cell_one rfl rfl) ?_
  intro L25 c25 e25 l25 k25
  have b25 : L25.length ≤ 1561 := by rw [l25]; show _ + 1 ≤ _; omega
  clear l25 b24 k24
  repeat (refine need_intro rfl ?_)
  refine draw_but [0, 20] on rfl (fun _ _ h => h) ?_
  refine one_k (bb s.soft) [] 0 20 1 87 (wflag_spec m0 s.soft) (fun _ => rfl) (by omega) k25 rfl rfl (by decide) rfl ⟨rfl, rfl⟩ (cell_one rfl rfl) ?_
  intro L26 c26 e26 l26 k26
  have b26 : L26.length ≤ 1562 := by rw [l26]; show _ + 1 ≤ _; omega
  clear l26 b25 k25
  repeat (refine need_intro rfl ?_)
  refine draw_held on rfl (fun _ _ h => h) ?_
  repeat (refine need_intro rfl ?_)
  refine loop_times on 5 ?_
  refine Box.mk ?_
  refine need_intro (by decide) ?_
  refine one_k (le ((s.ier).setWidth 64) 1) [] 0 22 1 88 (octet_spec m0 (s.ier)) (fun _ => rfl) (by omega) k26 rfl rfl (by decide) rfl ⟨rfl, rfl⟩ (cell_one rfl rfl) ?_
  intro L27 c27 e27 l27 k27
  have b27 : L27.length ≤ 1563 := by rw [l27]; rw [le_len]; omega
  clear l27 b26 k26
  refine Box.mk ?_
  refine need_intro (by decide) ?_
  refine one_k (le ((s.lcr).setWidth 64) 1) [] 0 25 1 89 (octet_spec m0 (s.lcr)) (fun _ => rfl) (by omega) k27 rfl rfl (by decide) rfl ⟨rfl, rfl⟩ (cell_one rfl rfl) ?_
  intro L28 c28 e28 l28 k28
  have b28 : L28.length ≤ 1564 := by rw [l28]; rw [le_len]; omega
  clear l28 b27 k27
  refine Box.mk ?_
  refine need_intro (by decide) ?_
  refine one_k (le ((s.mcr).setWidth 64) 1) [] 0 27 1 90 (octet_spec m0 (s.mcr)) (fun _ => rfl) (by omega) k28 rfl rfl (by decide) rfl ⟨rfl, rfl⟩ (cell_one rfl rfl) ?_
  intro L29 c29 e29 l29 k29
  have b29 : L29.length ≤ 1565 := by rw [l29]; rw [le_len]; omega
  clear l29 b28 k28
  refine Box.mk ?_
  refine need_intro (by decide) ?_
  refine one_k (le ((s.scratch).setWidth 64) 1) [] 0 29 1 91 (octet_spec m0 (s.scratch)) (fun _ => rfl) (by omega) k29 rfl rfl (by decide) rfl ⟨rfl, rfl⟩ (cell_one rfl rfl) ?_
  intro L30 c30 e30 l30 k30
  have b30 : L30.length ≤ 1566 := by rw [l30]; rw [le_len]; omega
  clear l30 b29 k29
  refine Box.mk ?_
  refine draw_but [0, 31] on rfl (fun _ _ h => h) ?_
  refine one_k (bb s.overrun) [] 0 31 1 92 (wflag_spec m0 s.overrun) (fun _ => rfl) (by omega) k30 rfl rfl (by decide) rfl ⟨rfl, rfl⟩ (cell_one rfl rfl) ?_
  intro L31 c31 e31 l31 k31
  have b31 : L31.length ≤ 1567 := by rw [l31]; show _ + 1 ≤ _; omega
  clear l31 b30 k30
  repeat (refine need_intro rfl ?_)
  refine draw_but [0, 33] on rfl (fun _ _ h => h) ?_
  refine one_k (le (BitVec.ofInt 64 s.off) 1) [(1 : Int)] 0 33 1 95 (place_spec m0 s.off 1 (by decide)) (fun _ => rfl) (by omega) k31 rfl rfl (by decide) rfl ⟨rfl, rfl⟩ (cell_one rfl rfl) ?_
  intro L32 c32 e32 l32 k32
  have b32 : L32.length ≤ 1568 := by rw [l32]; rw [le_len]; omega
  clear l32 b31 k31
  repeat (refine need_intro rfl ?_)
  refine draw_but [0, 35] on rfl (fun _ _ h => h) ?_
  refine one_k (le (BitVec.ofInt 64 s.code) 4) [(4 : Int)] 0 35 1 96 (place_spec m0 s.code 4 (by decide)) (fun _ => rfl) (by omega) k32 rfl rfl (by decide) rfl ⟨rfl, rfl⟩ (cell_one rfl rfl) ?_
  intro L33 c33 e33 l33 k33
  have b33 : L33.length ≤ 1572 := by rw [l33]; rw [le_len]; omega
  clear l33 b32 k32
  repeat (refine need_intro rfl ?_)
  refine draw_but [0, 37] on rfl (fun _ _ h => h) ?_
  refine list_k (size := 1) (mb := m1) (q := inp) (sp := s1) 0 37 1 3 93 38 rfl (by decide) (by omega) (by omega) k33 rfl rfl rfl rfl (by decide) ⟨rfl, rfl⟩ (cell_one rfl rfl) ?_
  intro L34 c34 e34 l34 k34
  have b34 : L34.length ≤ 1637 := by omega
  clear l34 b33 k33
  repeat (refine need_intro rfl ?_)
  refine draw_but [0, 39] on rfl (fun _ _ h => h) ?_
  refine list_k (size := 2) (mb := m2) (q := out) (sp := s2) 0 39 1 4 94 40 rfl (by decide) (by omega) (by omega) k34 rfl rfl rfl rfl (by decide) ⟨rfl, rfl⟩ (cell_one rfl rfl) ?_
  intro L35 c35 e35 l35 k35
  have b35 : L35.length ≤ 5735 := by omega
  clear l35 b34 k34
  repeat (refine need_intro rfl ?_)
  have ef : L35 = devOn s inp out (cpuOn cp L0) := by
    subst e35 e34 e33 e32 e31 e30 e29 e28 e27 e26 e25 e24 e23 e22 e21 e20 e19 e18 e17 e16 e15 e14 e13 e12 e11 e10 e9 e8 e7 e6 e5 e4 e3 e2 e1
    rfl
  rw [← ef]
  refine ⟨_, _, [0, 1, 2, 3, 4, 5, 41], ⟨c35, k35, by omega, rfl, rfl⟩, by decide, ⟨rfl, rfl, rfl, rfl, rfl, rfl, trivial⟩, trivial, ?_⟩
  exact ⟨⟨_, rfl, eqvB_refl _⟩, ⟨_, rfl, eqvB_refl _⟩, ⟨_, rfl, eqvB_refl _⟩, ⟨_, rfl, eqvB_refl _⟩, ⟨_, rfl, eqvB_refl _⟩, ⟨_, rfl, eqvB_refl _⟩, ⟨_, rfl, eqvB_refl _⟩, trivial⟩
end Go.Proofs.YtdlpmbghocabbaaGreatDoor

/- The reference's number, flag and list of bytes: contracts that go on. No condition. -/
namespace Go.Anv
open Go
theorem le_one (b : B8) : le (b.setWidth 64) 1 = [b] := by
  simp only [le, List.nil_append, Nat.mul_zero]
  congr 1
  apply BitVec.eq_of_toNat_eq
  have := b.isLt
  simp
end Go.Anv
namespace Go.Proofs.YtdlpmbghocabbaaGreatDoor
open Go Go.Anv
/-- What is handed back after an append, as bytes. -/
theorem lb_eqv (L Y : List B8) (c : Nat) {n m z : Nat} {f g : Nat → Int} (hn : n = L.length) (hm : m = Y.length) (hz : z = c - (L.length + Y.length)) (hf : ∀ j, j < n → f j = bf L j) (hg : ∀ j, j < m → g j = bf Y j) :
    eqvB (.cells true [.ints .u8 (n + m) (catF n f g)] z) (lb (L ++ Y) c) := by
  subst hn; subst hm; subst hz
  refine ⟨rfl, by rw [List.length_append], ⟨rfl, by rw [List.length_append], ?_⟩, trivial⟩
  exact bf_append L Y rfl rfl hf hg
theorem lb_mk (L Y : List B8) (c : Nat) {n m z : Nat} {f g : Nat → Int} (hn : n = L.length) (hm : m = Y.length) (hz : z = c - (L.length + Y.length)) (hf : f = bf L) (hg : g = bf Y) :
    Blk.cells true [.ints .u8 (n + m) (catF n f g)] z = lb (L ++ Y) c := by
  subst hn; subst hm; subst hz; subst hf; subst hg
  have e : catF L.length (bf L) (bf Y) = bf (L ++ Y) := by
    funext j
    unfold catF
    split
    · rename_i h
      simp [bf, List.getD_eq_getElem?_getD, List.getElem?_append_left h]
    · rename_i h
      simp [bf, List.getD_eq_getElem?_getD, List.getElem?_append_right (Nat.le_of_not_lt h)]
  rw [e, lb, List.length_append]
theorem bf_lit (Y : List B8) : shf 0 (litF (Y.map fun b => (b.toNat : Int))) = bf Y := by
  have key : ∀ (Y : List B8) (j : Nat), litF (Y.map fun b => (b.toNat : Int)) j = bf Y j := fun Y => by
    induction Y with
    | nil => intro j; rfl
    | cons y Y ih =>
      intro j
      cases j with
      | zero => rfl
      | succ j => exact ih j
  funext j
  show litF _ (0 + j) = _
  rw [Nat.zero_add, key]
/-- Nothing stands behind the end. -/
def ends (q : Nat → B8) (n : Nat) : Prop := ∀ j, n ≤ j → q j = 0#8
theorem bf_ends {q : Nat → B8} {n : Nat} (h : ends q n) : bfun q = bf (lst q n) := by
  funext j
  rcases Nat.lt_or_ge j n with h1 | h1
  · exact bf_lst q n j h1
  · simp only [bfun, bf, lst]
    rw [h j h1, List.getD_eq_getElem?_getD, List.getElem?_eq_none (by simpa using h1)]
    rfl
end Go.Proofs.YtdlpmbghocabbaaGreatDoor

/- The reference's Cpu and devices in a snapshot. Contracts of functions. No condition. -/
namespace Go.Anv
open Go
/-- The twelve registers. -/
def csrs (cp : CpuV) : List B64 := [cp.mstatus, cp.mtvec, cp.mie, cp.mcounteren, cp.mcountinhibit, cp.menvcfg, cp.mscratch, cp.mepc, cp.mcause, cp.mtval, cp.mcycle, cp.minstret]
theorem csrs_get (cp : CpuV) {i : Nat} (h : i < 12) : litF ((csrs cp).map fun v => (v.toNat : Int)) i = (((csrs cp).getD i 0#64).toNat : Int) := by
  match i, h with
  | 0, _ => rfl
  | 1, _ => rfl
  | 2, _ => rfl
  | 3, _ => rfl
  | 4, _ => rfl
  | 5, _ => rfl
  | 6, _ => rfl
  | 7, _ => rfl
  | 8, _ => rfl
  | 9, _ => rfl
  | 10, _ => rfl
  | 11, _ => rfl
end Go.Anv
namespace Go.Proofs.YtdlpmbghocabbaaGreatDoor
open Go Go.Anv
end Go.Proofs.YtdlpmbghocabbaaGreatDoor

/- Save: the program's and the document's, of every whole. Contracts of functions. No condition. -/
namespace Go.Anv
open Go
def magic : List B8 := [0x41#8, 0x4e#8, 0x56#8, 0x49#8, 0x4c#8, 0x53#8, 0x01#8, 0x5a#8]
/-- The ram's bytes behind others; the sum's. -/
def ramOn (n : Nat) (p : Nat → B8) (L : List B8) : List B8 := L ++ le (BitVec.ofNat 64 n) 4 ++ Go.Proofs.YtdlpmbghocabbaaGreatDoor.pagesN p n ((n + 255) / 256) ++ le 65535#64 2
def sumOn (L : List B8) : List B8 := L ++ le ((~~~ crcN (fun j => L.getD j 0#8) L.length).setWidth 64) 4
/-- The snapshot of a whole. -/
def snap (cp : CpuV) (s : BusV) (ram inp out : Nat → B8) : List B8 := sumOn (ramOn s.nr ram (devOn s inp out (cpuOn cp.proper magic)))
end Go.Anv
namespace Go.Proofs.YtdlpmbghocabbaaGreatDoor
open Go Go.Anv
set_option maxRecDepth 100000 in
theorem bytes_nil (m : Bool) (P : List B8) (k o cp sp : Nat) (f : Nat → Int) (hf : ∀ j, j < P.length → f (o + j) = bf P j) (hk : o + P.length ≤ k) (hP : P.length ≤ 70368744177664) :
    Does TB 36 [.s (.ptr 0 0), .s (.gs 1 o P.length cp)] [.cells true [.one .nilslice] 0, .cells m [.ints .u8 k f] sp]
      (fun r h' => ∃ c', P.length ≤ c' ∧ r = .tuple [] ∧ h' = [wb 2 P c', .cells m [.ints .u8 k f] sp, lb P c']) := by
  refine fnX_does TB Tryz.func36 rfl (by decide) (fun O on hO => ?_)
  refine need_intro ⟨by show (0 : Int) ≤ ((P.length : Nat) : Int); omega, room5 _ (by show P.length ≤ _; omega)⟩ ?_
  intro c1 hc1
  have hc1 : P.length ≤ c1 := hc1
  refine need_intro ⟨by omega, by show (0 : Int) ≤ ((P.length : Nat) : Int); omega, by show ((P.length : Nat) : Int) ≤ (c1 : Int); omega⟩ ?_
  have hsk : skip c1 0 0 1 = 0 := by
    unfold skip
    split <;> rfl
  refine need_intro ⟨hk, by show skip c1 0 0 1 + (P.length - 0) ≤ P.length; omega⟩ ?_
  refine ⟨_, _, [0, 1, 2], ⟨c1, hc1, rfl, rfl⟩, by decide, ⟨rfl, rfl, trivial⟩, trivial, ?_⟩
  refine ⟨⟨_, rfl, eqvB_refl _⟩, ⟨_, rfl, eqvB_refl _⟩, ⟨_, rfl, ⟨rfl, ?_, ⟨⟨rfl, rfl, ?_⟩, eqvS_nil⟩⟩⟩, trivial⟩
  · show (c1 - P.length) * 1 = c1 - P.length
    omega
  · intro j hj
    have hj : j < P.length := hj
    show putF (skip c1 0 0 1) (min P.length (P.length - 0)) (shf o f) (fun _ => 0) j = bf P j
    rw [hsk, Nat.sub_zero, Nat.min_self]
    unfold putF
    rw [if_pos (by omega)]
    show f (o + (j - 0)) = _
    rw [Nat.sub_zero]
    exact hf j hj
theorem ramOn_len (n : Nat) (p : Nat → B8) (L : List B8) : (ramOn n p L).length ≤ L.length + 4 + 258 * ((n + 255) / 256) + 2 := by
  have := pagesN_len p n ((n + 255) / 256)
  simp only [ramOn, List.length_append, le_len]
  omega
/-- What Save makes of a whole: in the tuple of a call that is handed the three lists. -/
def Saved (cp : CpuV) (s : BusV) (l : Lists) (code : Int) (v : EV) (h' : List Blk) : Prop :=
  match s.can with
  | false => v = .tuple [.s .nilslice, .s (.int .i64 162)] ∧ h' = l.blks s
  | true => ∃ c', (snap cp s l.ram l.inp l.out).length ≤ c' ∧ (snap cp s l.ram l.inp l.out).length ≤ 1048576 ∧ v = .tuple [.s (.gs 3 0 (snap cp s l.ram l.inp l.out).length c'), .s (.int .i64 code)] ∧ h' = l.blks s ++ [lb (snap cp s l.ram l.inp l.out) c']
theorem can_bounds {s : BusV} (h : s.can = true) : s.nr ≤ 65536 ∧ s.ni ≤ 64 ∧ s.no ≤ 4096 := by
  simp only [BusV.can, decide_eq_true_eq] at h
  omega
set_option maxRecDepth 100000 in
set_option maxHeartbeats 4000000 in
theorem save_spec (cp : CpuV) (s : BusV) (l : Lists) (cr ci co : Nat) (hni : s.ni < 2 ^ 62) (hno : s.no < 2 ^ 62) (hnr : s.nr < 2 ^ 62) (hcr : s.nr ≤ cr) :
    Does TB 14 [.agg (wsegs cp s (.gs 0 0 s.nr cr) (.gs 1 0 s.ni ci) (.gs 2 0 s.no co))] (l.blks s) (Saved cp s l 0) := by
  refine fnX_does TB Tryz.func14 rfl (by decide) (fun O on hO => ?_)
  have hck := check_spec cp s l cr ci co hni hno hnr
  unfold Saved
  cases hc : s.can with
  | false =>
    rw [hc] at hck
    refine Does.at hck [0, 1, 2] rfl ⟨rfl, rfl, rfl, trivial⟩ (by decide) ?_ ?_
    · rintro v h' ⟨_, rfl⟩
      exact ⟨.inr (.inr rfl), .inr (.inr rfl), .inr (.inr rfl), trivial⟩
    · rintro v h' ⟨rfl, rfl⟩
      exact ⟨_, _, [0, 1, 2], ⟨rfl, rfl⟩, by decide, ⟨rfl, rfl, rfl, trivial⟩, eqvE_refl _, ⟨⟨_, rfl, eqvB_refl _⟩, ⟨_, rfl, eqvB_refl _⟩, ⟨_, rfl, eqvB_refl _⟩, trivial⟩⟩
  | true =>
    rw [hc] at hck
    obtain ⟨br, bi, bo⟩ := can_bounds hc
    refine Does.at hck [0, 1, 2] rfl ⟨rfl, rfl, rfl, trivial⟩ (by decide) ?_ ?_
    · rintro v h' ⟨_, rfl⟩
      exact ⟨.inr (.inr rfl), .inr (.inr rfl), .inr (.inr rfl), trivial⟩
    · rintro v h' ⟨rfl, rfl⟩
      refine (proper_spec cp _).mono ?_
      rintro v h' ⟨rfl, rfl⟩
      refine need_intro rfl ?_
      refine need_intro (by decide) ?_
      refine Does.args (b := [.s (.ptr 4 0), .s (.gs 5 0 8 8)]) ⟨eqvE_refl _, ⟨rfl, rfl, rfl, rfl⟩, trivial⟩ ?_
      refine Does.at (bytes_nil true magic 8 0 8 0 (litF [65, 78, 86, 73, 76, 83, 1, 90]) ?_ (by decide) (by decide)) [4, 5] rfl ⟨rfl, rfl, trivial⟩ (by decide) ?_ ?_
      · intro j hj
        have hj : j < 8 := hj
        match j, hj with
        | 0, _ => rfl
        | 1, _ => rfl
        | 2, _ => rfl
        | 3, _ => rfl
        | 4, _ => rfl
        | 5, _ => rfl
        | 6, _ => rfl
        | 7, _ => rfl
      · rintro v h' ⟨c', _, _, rfl⟩
        exact ⟨.inl rfl, .inr (.inr rfl), .inl rfl, trivial⟩
      · rintro v h' ⟨c1, k1, rfl, rfl⟩
        refine Does.at (both_spec s cp.proper true l.mi l.mo l.mr l.ram l.inp l.out cr ci co 0 l.si l.so l.sr magic c1 (by decide) k1 bi bo) [4, 3, 6, 1, 2, 0] rfl ⟨rfl, rfl, rfl, rfl, rfl, rfl, trivial⟩ (by decide) ?_ ?_
        · rintro v h' ⟨c', _, _, _, rfl⟩
          exact ⟨.inl rfl, .inl rfl, .inr (.inl rfl), .inr (.inr rfl), .inr (.inr rfl), .inr (.inr rfl), .inl rfl, trivial⟩
        · rintro v h' ⟨c2, k2, b2, rfl, rfl⟩
          generalize e2 : devOn s l.inp l.out (cpuOn cp.proper magic) = L2 at k2 b2 ⊢
          refine Does.at (pages_spec L2 c2 l.mr s.nr s.nr cr l.sr (bfun l.ram) l.ram (fun _ _ => rfl) (Nat.le_refl _) hcr (by omega) (by omega) k2) [4, 7, 0] rfl ⟨rfl, rfl, rfl, trivial⟩ (by decide) ?_ ?_
          · rintro v h' ⟨c', _, _, rfl⟩
            exact ⟨.inl rfl, .inr (.inl rfl), .inr (.inr rfl), .inl rfl, trivial⟩
          · rintro v h' ⟨c3, k3, rfl, rfl⟩
            have l3 := ramOn_len s.nr l.ram L2
            have b3 : (ramOn s.nr l.ram L2).length ≤ 1000000 := by omega
            clear l3
            generalize e3 : L2 ++ le (BitVec.ofNat 64 s.nr) 4 ++ pagesN l.ram s.nr ((s.nr + 255) / 256) ++ le 65535#64 2 = L3 at k3 ⊢
            have e3 : ramOn s.nr l.ram L2 = L3 := e3
            rw [e3] at b3
            refine Does.at (sum_spec true L3.length 0 L3.length c3 (c3 - L3.length) (bf L3) (fun j => L3.getD j 0#8) (by omega) (by omega) (fun j _ => by rw [Nat.zero_add]; rfl)) [8] rfl ⟨rfl, trivial⟩ (by decide) ?_ ?_
            · rintro v h' ⟨_, rfl⟩
              exact ⟨.inr (.inr rfl), trivial⟩
            · rintro v h' ⟨rfl, rfl⟩
              refine number_k 4 8 (L := L3) (c := c3) ((~~~ crcN (fun j => L3.getD j 0#8) L3.length).setWidth 64) 4 (wide32 _) (by decide) (by omega) k3 rfl rfl (by decide) ?_
              intro L4 c4 e4 l4 k4
              have ef : L4 = snap cp s l.ram l.inp l.out := by
                rw [e4, ← e3, ← e2]; rfl
              rw [← ef]
              exact ⟨.tuple [.s (.gs 3 0 L4.length c4), .s (.int .i64 0)], l.blks s ++ [lb L4 c4], [0, 1, 2, 9], ⟨c4, k4, by omega, rfl, rfl⟩, by decide, ⟨rfl, rfl, rfl, trivial⟩, eqvE_refl _, ⟨⟨_, rfl, eqvB_refl _⟩, ⟨_, rfl, eqvB_refl _⟩, ⟨_, rfl, eqvB_refl _⟩, ⟨_, rfl, eqvB_refl _⟩, trivial⟩⟩
end Go.Proofs.YtdlpmbghocabbaaGreatDoor

/- The document's Save, of every whole. Contract of a function. No condition. -/
namespace Go.Proofs.YtdlpmbghocabbaaGreatDoor
open Go Go.Anv
end Go.Proofs.YtdlpmbghocabbaaGreatDoor

/- The law's own: loose, same, kept, buses, alike. Contracts of functions. No condition. -/
namespace Go.Anv
open Go
theorem bytesOf_congr {n : Nat} {f g : Nat → Int} (h : ∀ j, j < n → f j = g j) : bytesOf n f = bytesOf n g := by
  unfold bytesOf
  congr 1
  exact List.map_congr_left fun j hj => h j (List.mem_range.1 hj)
theorem beq_bytes (s : ByteArray) : (s == s) = true := by
  have h := beq_toListBytes s s
  simpa using h.symm
def mrk (i : Nat) : B8 := BitVec.ofNat 8 (128 + i)
/-- Bytes with marks behind them. -/
@[irreducible] def marked (L : List B8) (n : Nat) : List B8 := manyN (fun i => [mrk i]) L n
theorem marked_zero (L : List B8) : marked L 0 = L := by unfold marked; rfl
theorem marked_succ (L : List B8) (i : Nat) : marked L (i + 1) = marked L i ++ [mrk i] := by unfold marked; rfl
theorem marked_len (L : List B8) (n : Nat) : (marked L n).length = L.length + n := by
  have := manyN_len (g := fun i => [mrk i]) (L := L) (w := 1) (fun _ => rfl) n
  unfold marked; omega
end Go.Anv
namespace Go.Proofs.YtdlpmbghocabbaaGreatDoor
open Go Go.Anv
set_option maxRecDepth 100000 in
theorem same_spec (m1 m2 : Bool) (o1 o2 n c1 c2 k1 k2 s1 s2 : Nat) (f1 f2 : Nat → Int) (h1 : o1 + n ≤ k1) (h2 : o2 + n ≤ k2) (he : ∀ j, j < n → f1 (o1 + j) = f2 (o2 + j)) :
    Does TB 22 [.s (.gs 0 o1 n c1), .s (.gs 1 o2 n c2)] [.cells m1 [.ints .u8 k1 f1] s1, .cells m2 [.ints .u8 k2 f2] s2] (fun v h' => v = .s (.bool true) ∧ h' = [.cells m1 [.ints .u8 k1 f1] s1, .cells m2 [.ints .u8 k2 f2] s2]) := by
  refine fnX_does TB Tryz.func22 rfl (by decide) (fun O on hO => ?_)
  refine need_intro h1 ?_
  refine need_intro h2 ?_
  refine ⟨_, _, [0, 1], ⟨rfl, rfl⟩, by decide, ⟨rfl, rfl, trivial⟩, ?_, ⟨⟨_, rfl, eqvB_refl _⟩, ⟨_, rfl, eqvB_refl _⟩, trivial⟩⟩
  show (bytesOf n (shf o1 f1) == bytesOf n (shf o2 f2)) = true
  rw [bytesOf_congr (f := shf o1 f1) (g := shf o2 f2) he]
  exact beq_bytes _
theorem same_k {h : List Blk} {K : EV → List Blk → Prop} (b1 b2 : Nat) {m1 m2 : Bool} {o1 o2 n n' c1 c2 k1 k2 s1 s2 : Nat} {f1 f2 : Nat → Int} (hn : n' = n) (hb1 : nthB h b1 = some (.cells m1 [.ints .u8 k1 f1] s1)) (hb2 : nthB h b2 = some (.cells m2 [.ints .u8 k2 f2] s2)) (hne : b1 ≠ b2)
    (h1 : o1 + n ≤ k1) (h2 : o2 + n ≤ k2) (he : ∀ j, j < n → f1 (o1 + j) = f2 (o2 + j))
    (hK : updBK h b1 (.cells m1 [.ints .u8 k1 f1] s1) fun h1 => updBK h1 b2 (.cells m2 [.ints .u8 k2 f2] s2) fun h2 => K (.s (.bool true)) h2) :
    Does TB 22 [.s (.gs b1 o1 n c1), .s (.gs b2 o2 n' c2)] h K := by
  subst hn
  refine Does.at (same_spec m1 m2 o1 o2 n' c1 c2 k1 k2 s1 s2 f1 f2 h1 h2 he) [b1, b2] rfl ⟨hb1, hb2, trivial⟩ (by simp [hne]) ?_ ?_
  · rintro v h' ⟨_, rfl⟩
    exact ⟨.inr (.inr rfl), .inr (.inr rfl), trivial⟩
  · rintro v h' ⟨rfl, rfl⟩
    rw [updBK_eq, updBK_eq] at hK
    rw [forceH_eq, forceE_eq]
    have e : mergeB h [b1, b2] (renH (lk [b1, b2] h.length) [.cells m1 [.ints .u8 k1 f1] s1, .cells m2 [.ints .u8 k2 f2] s2]) = updB (updB h b1 (.cells m1 [.ints .u8 k1 f1] s1)) b2 (.cells m2 [.ints .u8 k2 f2] s2) := by
      show updB (updB h b1 _) b2 _ ++ [] = _
      rw [List.append_nil]; rfl
    rw [e]
    exact hK
theorem same_nil (h : List Blk) : Does TB 22 [.s .nilslice, .s .nilslice] h (fun v h' => v = .s (.bool true) ∧ h' = h) := by
  refine fnX_pure TB Tryz.func22 rfl (by decide) rfl _ rfl (fun O on => ?_) h
  refine need_intro ⟨trivial, rfl⟩ ?_
  refine need_intro ⟨trivial, rfl⟩ ?_
  exact eqvE_refl _
theorem bf_left {L Y : List B8} {j : Nat} (h : j < L.length) : bf (L ++ Y) j = bf L j := by
  simp [bf, List.getD_eq_getElem?_getD, List.getElem?_append_left h]
theorem marked_left (L : List B8) {j : Nat} (h : j < L.length) : ∀ i, bf (marked L i) j = bf L j
  | 0 => by rw [marked_zero]
  | i + 1 => by
    rw [marked_succ]
    rw [bf_left (by rw [marked_len]; omega), marked_left L h i]
theorem marked_at (L : List B8) {k : Nat} : ∀ i, k < i → bf (marked L i) (L.length + k) = (mrk k).toNat
  | i + 1, h => by
    rw [marked_succ]
    by_cases hk : k < i
    · rw [bf_left (by rw [marked_len]; omega), marked_at L i hk]
    · have : k = i := by omega
      subst this
      have hl := marked_len L k
      simp only [bf, List.getD_eq_getElem?_getD]
      rw [List.getElem?_append_right (by omega), hl, Nat.sub_self]
      rfl
end Go.Proofs.YtdlpmbghocabbaaGreatDoor

/- The law's own: two buses alike, two wholes alike. Contracts of functions. No condition. -/
namespace Go.Proofs.YtdlpmbghocabbaaGreatDoor
open Go Go.Anv
/-- A block that begins with these bytes. -/
structure BB (n : Nat) (q : Nat → B8) where
  m : Bool
  k : Nat
  f : Nat → Int
  sp : Nat
  le : n ≤ k
  eq : ∀ j, j < n → f j = (q j).toNat
def BB.b {n : Nat} {q : Nat → B8} (x : BB n q) : Blk := .cells x.m [.ints .u8 x.k x.f] x.sp
theorem BB.same {n : Nat} {q : Nat → B8} (x y : BB n q) : ∀ j, j < n → x.f (0 + j) = y.f (0 + j) := fun j hj => by rw [Nat.zero_add, x.eq j hj, y.eq j hj]
theorem BB.le0 {n : Nat} {q : Nat → B8} (x : BB n q) : 0 + n ≤ x.k := by rw [Nat.zero_add]; exact x.le
set_option maxRecDepth 100000 in
set_option maxHeartbeats 4000000 in
theorem buses_spec (s : BusV) (l : Lists) (r1 r2 : BB s.nr l.ram) (i1 i2 : BB s.ni l.inp) (o1 o2 : BB s.no l.out) (cr ci co cr' ci' co' : Nat) :
    Does TB 20 [.agg (s.segs (.gs 0 0 s.nr cr) (.gs 1 0 s.ni ci) (.gs 2 0 s.no co)), .agg (s.segs (.gs 3 0 s.nr cr') (.gs 4 0 s.ni ci') (.gs 5 0 s.no co'))] [r1.b, i1.b, o1.b, r2.b, i2.b, o2.b]
      (fun v h' => v = .s (.bool true) ∧ h' = [r1.b, i1.b, o1.b, r2.b, i2.b, o2.b]) := by
  refine fnX_does TB Tryz.func20 rfl (by decide) (fun O on hO => ?_)
  refine same_k 0 3 (m1 := r1.m) (m2 := r2.m) rfl rfl rfl (by decide) r1.le0 r2.le0 (r1.same r2) ?_
  repeat (refine need_intro (by first | exact fun h => h | exact fun _ => rfl | simp) ?_)
  refine Does.ungd (b := [.s (.gs 1 0 s.ni ci), .s (.gs 4 0 s.ni ci')]) ⟨⟨rfl, rfl⟩, ⟨rfl, rfl⟩, trivial⟩ ?_
  refine same_k 1 4 (m1 := i1.m) (m2 := i2.m) rfl rfl rfl (by decide) i1.le0 i2.le0 (i1.same i2) ?_
  repeat (refine need_intro (by first | exact fun h => h | exact fun _ => rfl | simp) ?_)
  refine Does.ungd (b := [.s (.gs 2 0 s.no co), .s (.gs 5 0 s.no co')]) ⟨⟨rfl, rfl⟩, ⟨rfl, rfl⟩, trivial⟩ ?_
  refine same_k 2 5 (m1 := o1.m) (m2 := o2.m) rfl rfl rfl (by decide) o1.le0 o2.le0 (o1.same o2) ?_
  repeat (refine need_intro (by first | exact fun h => h | exact fun _ => rfl | simp) ?_)
  refine ifB_intro (fun h => absurd h (by simp)) (fun _ => ?_)
  repeat (refine need_intro (by first | exact fun h => h | exact fun _ => rfl | simp) ?_)
  exact ⟨.s (.bool true), _, [0, 1, 2, 3, 4, 5], ⟨rfl, rfl⟩, by decide, ⟨rfl, rfl, rfl, rfl, rfl, rfl, trivial⟩, (by show (_ : Bool) = true; simp), ⟨⟨_, rfl, eqvB_refl _⟩, ⟨_, rfl, eqvB_refl _⟩, ⟨_, rfl, eqvB_refl _⟩, ⟨_, rfl, eqvB_refl _⟩, ⟨_, rfl, eqvB_refl _⟩, ⟨_, rfl, eqvB_refl _⟩, trivial⟩⟩
set_option maxRecDepth 100000 in
set_option maxHeartbeats 4000000 in
theorem alike_spec (cp : CpuV) (s : BusV) (l : Lists) (r1 r2 : BB s.nr l.ram) (i1 i2 : BB s.ni l.inp) (o1 o2 : BB s.no l.out) (cr ci co cr' ci' co' : Nat) :
    Does TB 21 [.agg (wsegs cp s (.gs 0 0 s.nr cr) (.gs 1 0 s.ni ci) (.gs 2 0 s.no co)), .agg (wsegs cp s (.gs 3 0 s.nr cr') (.gs 4 0 s.ni ci') (.gs 5 0 s.no co'))] [r1.b, i1.b, o1.b, r2.b, i2.b, o2.b]
      (fun v h' => v = .s (.bool true) ∧ h' = [r1.b, i1.b, o1.b, r2.b, i2.b, o2.b]) := by
  refine fnX_does TB Tryz.func21 rfl (by decide) (fun O on hO => ?_)
  repeat (refine need_intro (by first | exact fun h => h | exact fun _ => rfl | simp) ?_)
  refine ifB_intro (fun _ => ?_) (fun h => absurd h (by simp))
  refine Does.ungd (b := [.agg (s.segs (.gs 0 0 s.nr cr) (.gs 1 0 s.ni ci) (.gs 2 0 s.no co)), .agg (s.segs (.gs 3 0 s.nr cr') (.gs 4 0 s.ni ci') (.gs 5 0 s.no co'))]) ⟨⟨by simp, rfl⟩, ⟨by simp, rfl⟩, trivial⟩ ?_
  refine Does.at (buses_spec s l r1 r2 i1 i2 o1 o2 cr ci co cr' ci' co') [0, 1, 2, 3, 4, 5] rfl ⟨rfl, rfl, rfl, rfl, rfl, rfl, trivial⟩ (by decide) ?_ ?_
  · rintro v h' ⟨_, rfl⟩
    exact ⟨.inr (.inr rfl), .inr (.inr rfl), .inr (.inr rfl), .inr (.inr rfl), .inr (.inr rfl), .inr (.inr rfl), trivial⟩
  · rintro v h' ⟨rfl, rfl⟩
    repeat (refine need_intro (by first | exact fun h => h | exact fun _ => rfl | simp) ?_)
    exact ⟨.s (.bool true), _, [0, 1, 2, 3, 4, 5], ⟨rfl, rfl⟩, by decide, ⟨rfl, rfl, rfl, rfl, rfl, rfl, trivial⟩, (by show (_ : Bool) = true; simp), ⟨⟨_, rfl, eqvB_refl _⟩, ⟨_, rfl, eqvB_refl _⟩, ⟨_, rfl, eqvB_refl _⟩, ⟨_, rfl, eqvB_refl _⟩, ⟨_, rfl, eqvB_refl _⟩, ⟨_, rfl, eqvB_refl _⟩, trivial⟩⟩
end Go.Proofs.YtdlpmbghocabbaaGreatDoor

/- Reading a snapshot: the reader's state, numbers off the front: the plain specification. Plain definitions and lemmas. -/
namespace Go.Anv
open Go
/-- A reader: how far it has come; was something not there, or not of its form? -/
structure Rs where
  at_ : Nat
  bad : Bool
/-- A number's bytes, the highest first: what the first n of them make. -/
def hi (p : Nat → B8) (a k : Nat) : Nat → B64
  | 0 => 0#64
  | n + 1 => (hi p a k n <<< 8) ||| (p (a + (k - 1 - n))).setWidth 64
def numV (p : Nat → B8) (N k : Nat) (s : Rs) : B64 := if s.bad = true ∨ N - s.at_ < k then 0#64 else hi p s.at_ k k
def takeR (N k : Nat) (s : Rs) : Rs := if s.bad = true ∨ N - s.at_ < k then ⟨s.at_, true⟩ else ⟨s.at_ + k, false⟩
/-- Where a reader's slice lies. -/
def RdAt (base N : Nat) (s : Rs) (o : Nat) : Prop := s.at_ ≤ N ∧ (s.at_ < N → o = base + s.at_) ∧ o ≤ base + N
def rdb (b N : Nat) (s : Rs) (o : Nat) : Blk := .cells true [.one (.gs b o (N - s.at_) (N - s.at_)), .one (.bool s.bad)] 0
/-- The document's reader. -/
def rrb (b N cp : Nat) (s : Rs) : Blk := .cells true [.one (.gs b 0 N cp), .one (.int .i64 s.at_), .one (.bool s.bad)] 0
theorem hi_lt (p : Nat → B8) (a k : Nat) : ∀ n, n ≤ 7 → (hi p a k n).toNat < 2 ^ (8 * n)
  | 0, _ => by simp [hi]
  | n + 1, h => by
    have ih := hi_lt p a k n (by omega)
    have hp := (p (a + (k - 1 - n))).isLt
    have e : (hi p a k (n + 1)).toNat = (hi p a k n).toNat * 2 ^ 8 + (p (a + (k - 1 - n))).toNat := by
      simp only [hi]
      rw [BitVec.toNat_or, BitVec.toNat_shiftLeft, BitVec.toNat_setWidth, Nat.shiftLeft_eq, Nat.mod_eq_of_lt (a := (p (a + (k - 1 - n))).toNat) (by omega)]
      have hb : (hi p a k n).toNat * 2 ^ 8 < 2 ^ 64 := by
        have : 2 ^ (8 * n) * 2 ^ 8 ≤ 2 ^ 64 := by rw [← Nat.pow_add]; exact Nat.pow_le_pow_right (by decide) (by omega)
        exact Nat.lt_of_lt_of_le (Nat.mul_lt_mul_of_pos_right ih (by decide)) this
      rw [Nat.mod_eq_of_lt hb, ← Nat.shiftLeft_eq, ← Nat.shiftLeft_add_eq_or_of_lt hp]
    rw [e]
    have : 2 ^ (8 * (n + 1)) = 2 ^ (8 * n) * 256 := by rw [Nat.mul_add, Nat.pow_add]
    omega
/-- The same, by multiplying. -/
theorem hi_mul (p : Nat → B8) (a k n : Nat) (h : n ≤ 7) : ((hi p a k (n + 1)).toNat : Int) = ((hi p a k n).toNat : Int) * 256 + ((p (a + (k - 1 - n))).toNat : Int) := by
  have ih := hi_lt p a k n h
  have hp := (p (a + (k - 1 - n))).isLt
  simp only [hi]
  rw [BitVec.toNat_or, BitVec.toNat_shiftLeft, BitVec.toNat_setWidth, Nat.shiftLeft_eq, Nat.mod_eq_of_lt (a := (p (a + (k - 1 - n))).toNat) (by omega)]
  have hb : (hi p a k n).toNat * 2 ^ 8 < 2 ^ 64 := by
    have : 2 ^ (8 * n) * 2 ^ 8 ≤ 2 ^ 64 := by rw [← Nat.pow_add]; exact Nat.pow_le_pow_right (by decide) (by omega)
    exact Nat.lt_of_lt_of_le (Nat.mul_lt_mul_of_pos_right ih (by decide)) this
  rw [Nat.mod_eq_of_lt hb, ← Nat.shiftLeft_eq, ← Nat.shiftLeft_add_eq_or_of_lt hp, Nat.shiftLeft_eq]
  omega
theorem hi_bound (p : Nat → B8) (a k n : Nat) (h : n ≤ 7) : (hi p a k n).toNat * 256 + 255 < 2 ^ 64 := by
  have ih := hi_lt p a k n h
  have h2 : 2 ^ (8 * n) ≤ 2 ^ 56 := Nat.pow_le_pow_right (by decide) (by omega)
  omega
end Go.Anv
namespace Go.Proofs.YtdlpmbghocabbaaGreatDoor
open Go Go.Anv
set_option maxRecDepth 100000 in
/-- Bytes off the front; where they are not there, none. -/
theorem take_spec (m : Bool) (base N K sp : Nat) (f : Nat → Int) (s : Rs) (o k : Nat) (hN : N ≤ 2 ^ 40) (hk : k ≤ 2 ^ 40) (hr : RdAt base N s o) :
    Does TB 77 [.s (.ptr 0 0), .s (.int .i64 k)] [rdb 1 N s o, .cells m [.ints .u8 K f] sp]
      (fun v h' => ((s.bad = true ∨ N - s.at_ < k) ∧ v = .s .nilslice ∧ h' = [rdb 1 N ⟨s.at_, true⟩ o, .cells m [.ints .u8 K f] sp]) ∨
        (¬ (s.bad = true ∨ N - s.at_ < k) ∧ v = .s (.gs 1 o k k) ∧ ∃ o', RdAt base N ⟨s.at_ + k, false⟩ o' ∧ h' = [rdb 1 N ⟨s.at_ + k, false⟩ o', .cells m [.ints .u8 K f] sp])) := by
  refine fnX_does TB Tryz.func77 rfl (by decide) (fun O on hO => ?_)
  obtain ⟨a, b⟩ := s
  have hr1 : a ≤ N := hr.1
  have hr2 : a < N → o = base + a := hr.2.1
  have hr3 : o ≤ base + N := hr.2.2
  cases b with
  | true =>
    repeat (refine need_intro (by first | exact fun h => h | exact fun _ => rfl | rfl | simp) ?_)
    exact ⟨.s .nilslice, _, [0, 1], .inl ⟨.inl rfl, rfl, rfl⟩, by decide, ⟨rfl, rfl, trivial⟩, rfl, ⟨_, rfl, eqvB_refl _⟩, ⟨_, rfl, eqvB_refl _⟩, trivial⟩
  | false =>
    repeat (refine need_intro (by first | exact fun h => h | exact fun _ => rfl | rfl | simp) ?_)
    refine ifB_intro (fun h1 => ?_) (fun h1 => ?_)
    · have h2 : ((N - a : Nat) : Int) < (k : Int) := of_decide_eq_true h1
      exact ⟨.s .nilslice, _, [0, 1], .inl ⟨.inr (by show N - a < k; omega), rfl, rfl⟩, by decide, ⟨rfl, rfl, trivial⟩, rfl, ⟨_, rfl, eqvB_refl _⟩, ⟨_, rfl, eqvB_refl _⟩, trivial⟩
    · have h2 : ¬ ((N - a : Nat) : Int) < (k : Int) := of_decide_eq_false h1
      refine need_intro ⟨by decide, by omega, by omega, by show (k : Int) ≤ ((N - a : Nat) : Int); omega⟩ ?_
      refine need_intro ⟨by omega, by show (k : Int) ≤ ((N - a : Nat) : Int); omega, by show ((N - a : Nat) : Int) ≤ ((N - a : Nat) : Int); omega⟩ ?_
      have hk0 : skip k 0 o 1 = o := by unfold skip; split <;> omega
      refine ⟨.s (.gs 1 o k k), [rdb 1 N ⟨a + k, false⟩ (skip (N - a) k o 1), .cells m [.ints .u8 K f] sp], [0, 1], .inr ⟨?_, rfl, _, ?_, rfl⟩, by decide, ⟨rfl, rfl, trivial⟩, ⟨rfl, hk0, rfl, by show (k : Int).toNat - 0 = k; omega⟩,
        ⟨_, rfl, ⟨rfl, rfl, eqvS_gs ⟨rfl, rfl, ?_, ?_⟩ (eqvS_same eqvS_nil)⟩⟩, ⟨_, rfl, eqvB_refl _⟩, trivial⟩
      · rintro (h | h)
        · cases h
        · exact h2 (by show ((N - a : Nat) : Int) < (k : Int); have : N - a < k := h; omega)
      · refine ⟨by show a + k ≤ N; omega, fun h => ?_, ?_⟩
        · replace h : a + k < N := h
          show skip (N - a) k o 1 = base + (a + k)
          unfold skip
          rw [if_neg (by omega)]
          omega
        · unfold skip
          split <;> omega
      · show ((N - a : Nat) : Int).toNat - (k : Int).toNat = N - (a + k)
        omega
      · show (N - a) - (k : Int).toNat = N - (a + k)
        omega
set_option maxRecDepth 100000 in
/-- A number off the front; where it is not there, 0. -/
theorem rnumber_spec (m : Bool) (base N K sp : Nat) (f : Nat → Int) (p : Nat → B8) (s : Rs) (o k : Nat) (hN : N ≤ 2 ^ 40) (hk : 0 < k ∧ k ≤ 8) (hr : RdAt base N s o) (hK : base + N ≤ K) (hp : ∀ j, j < N → f (base + j) = (p j).toNat) :
    Does TB 42 [.s (.ptr 0 0), .s (.int .i64 k)] [rdb 1 N s o, .cells m [.ints .u8 K f] sp]
      (fun v h' => ∃ o', RdAt base N (takeR N k s) o' ∧ v = .s (.int .u64 (numV p N k s).toNat) ∧ h' = [rdb 1 N (takeR N k s) o', .cells m [.ints .u8 K f] sp]) := by
  refine fnX_does TB Tryz.func42 rfl (by decide) (fun O on hO => ?_)
  refine Does.at (take_spec m base N K sp f s o k hN (by omega) hr) [0, 1] rfl ⟨rfl, rfl, trivial⟩ (by decide) ?_ ?_
  · rintro v h' (⟨_, _, rfl⟩ | ⟨_, _, _, _, rfl⟩) <;> exact ⟨.inl rfl, .inr (.inr rfl), trivial⟩
  rintro v h' (⟨hb, rfl, rfl⟩ | ⟨hb, rfl, o', ho', rfl⟩)
  · have e1 : takeR N k s = ⟨s.at_, true⟩ := if_pos hb
    have e2 : numV p N k s = 0#64 := if_pos hb
    rw [e1, e2]
    refine loop_times on 1 ?_
    refine Box.mk ?_
    exact ⟨.s (.int .u64 0), _, [0, 1], ⟨o, hr, rfl, rfl⟩, by decide, ⟨rfl, rfl, trivial⟩, eqvE_refl _, ⟨_, rfl, eqvB_refl _⟩, ⟨_, rfl, eqvB_refl _⟩, trivial⟩
  · have e1 : takeR N k s = ⟨s.at_ + k, false⟩ := if_neg hb
    have e2 : numV p N k s = hi p s.at_ k k := if_neg hb
    rw [e1, e2]
    have hk' : s.at_ + k ≤ N := ho'.1
    have ho : o = base + s.at_ := hr.2.1 (by omega)
    refine loop_by (A := Nat) on (fun n => [(5, .s (.int .u64 (hi p s.at_ k n).toNat)), (7, .s (.int .i64 ((k : Int) - 1 - (n : Int))))]) (fun _ => [rdb 1 N ⟨s.at_ + k, false⟩ o', .cells m [.ints .u8 K f] sp]) (fun n => n ≤ k) (fun n => k - n) 0 (Nat.zero_le _) ?_ ?_
    · refine ⟨?_, ?_⟩
      · repeat' (first | exact eqvT_nil | refine eqvT_junk ?_ | refine eqvT_same ?_ | refine eqvT_int ?_ ?_)
        rw [i64_in (by omega) (by omega)]; omega
      · exact eqvH_same (eqvH_same eqvH_nil)
    · intro n hn
      refine ifB_intro (fun h1 => ?_) (fun h1 => ?_)
      · have h2 : (k : Int) - 1 - (n : Int) ≥ 0 := of_decide_eq_true h1
        have hi2 : ((k : Int) - 1 - (n : Int)).toNat = k - 1 - n := by omega
        refine need_intro (by decide) ?_
        refine need_intro ⟨by omega, by omega⟩ ?_
        refine need_intro (by omega) ?_
        refine ⟨n + 1, ?_, ?_, ?_, ?_⟩
        · show n + 1 ≤ k; omega
        · show k - (n + 1) < k - n; omega
        · repeat' (first | exact eqvT_nil | refine eqvT_junk ?_ | refine eqvT_same ?_ | refine eqvT_int ?_ ?_)
          · show bitX .or .u64 (IntKind.u64.wrap (((hi p s.at_ k n).toNat : Int) * 2 ^ 8)) (IntKind.u64.wrap (f (o + ((k : Int) - 1 - (n : Int)).toNat))) = ((hi p s.at_ k (n + 1)).toNat : Int)
            rw [hi2, ho, Nat.add_assoc, hp _ (by omega), wide8, or_u64, wrap_u64, mul_pow, ofInt_toNat, ofInt_toNat]
            rfl
          · rw [i64_in (by omega) (by omega)]; omega
        · exact eqvH_same (eqvH_same eqvH_nil)
      · have h2 : ¬ ((k : Int) - 1 - (n : Int) ≥ 0) := of_decide_eq_false h1
        have hnk : n = k := by omega
        subst hnk
        exact ⟨_, _, [0, 1], ⟨o', ho', rfl, rfl⟩, by decide, ⟨rfl, rfl, trivial⟩, eqvE_refl _, ⟨_, rfl, eqvB_refl _⟩, ⟨_, rfl, eqvB_refl _⟩, trivial⟩
end Go.Proofs.YtdlpmbghocabbaaGreatDoor

/- The reader's methods: contracts; those for one cell go on over any heap. No condition. -/
namespace Go.Anv
open Go
def flagV (p : Nat → B8) (N : Nat) (s : Rs) : Bool := numV p N 1 s == 1#64
def flagR (p : Nat → B8) (N : Nat) (s : Rs) : Rs := ⟨(takeR N 1 s).at_, (takeR N 1 s).bad || decide (1 < (numV p N 1 s).toNat)⟩
/-- Behind a list's length. -/
def lenR (p : Nat → B8) (N size most : Nat) (s : Rs) : Rs := ⟨(takeR N size s).at_, (takeR N size s).bad || decide (most < (numV p N size s).toNat)⟩
/-- Is a list there? -/
def listOk (p : Nat → B8) (N size most : Nat) (s : Rs) : Bool := !(lenR p N size most s).bad && decide ((numV p N size s).toNat ≤ N - (lenR p N size most s).at_)
def listN (p : Nat → B8) (N size most : Nat) (s : Rs) : Nat := if listOk p N size most s then (numV p N size s).toNat else 0
def listQ (p : Nat → B8) (N size most : Nat) (s : Rs) (j : Nat) : B8 := p ((lenR p N size most s).at_ + j)
def listR (p : Nat → B8) (N size most : Nat) (s : Rs) : Rs := takeR N (numV p N size s).toNat (lenR p N size most s)
theorem RdAt.bad {base N : Nat} {s : Rs} {o : Nat} (h : RdAt base N s o) (b : Bool) : RdAt base N ⟨s.at_, b⟩ o := h
end Go.Anv
namespace Go.Proofs.YtdlpmbghocabbaaGreatDoor
open Go Go.Anv
theorem rnum_k {h : List Blk} {Q : EV → List Blk → Prop} (pr pb : Nat) {base N o : Nat} {s : Rs} {m : Bool} {K sp : Nat} {f : Nat → Int} (p : Nat → B8) (k : Nat) (hN : N ≤ 2 ^ 40) (hk : 0 < k ∧ k ≤ 8) (hr : RdAt base N s o) (hK : base + N ≤ K) (hp : ∀ j, j < N → f (base + j) = (p j).toNat)
    (hw : nthB h pr = some (rdb pb N s o)) (hb : nthB h pb = some (.cells m [.ints .u8 K f] sp)) (hne : pr ≠ pb)
    (hQ : ∀ o', RdAt base N (takeR N k s) o' → updBK h pr (rdb pb N (takeR N k s) o') fun h1 => updBK h1 pb (.cells m [.ints .u8 K f] sp) fun h2 => Q (.s (.int .u64 (numV p N k s).toNat)) h2) :
    Does TB 42 [.s (.ptr pr 0), .s (.int .i64 k)] h Q := by
  refine Does.at (rnumber_spec m base N K sp f p s o k hN hk hr hK hp) [pr, pb] rfl ⟨hw, hb, trivial⟩ (by simp [hne]) ?_ ?_
  · rintro v h' ⟨o', _, _, rfl⟩
    exact ⟨.inl rfl, .inr (.inr rfl), trivial⟩
  · rintro v h' ⟨o', ho', rfl, rfl⟩
    have := hQ o' ho'
    rw [updBK_eq, updBK_eq] at this
    rw [forceH_eq, forceE_eq]
    have e : mergeB h [pr, pb] (renH (lk [pr, pb] h.length) [rdb 1 N (takeR N k s) o', .cells m [.ints .u8 K f] sp]) = updB (updB h pr (rdb pb N (takeR N k s) o')) pb (.cells m [.ints .u8 K f] sp) := by
      show updB (updB h pr _) pb _ ++ [] = _
      rw [List.append_nil]; rfl
    rw [e]
    exact this
section small
variable (m : Bool) (base N K sp : Nat) (f : Nat → Int) (p : Nat → B8) (s : Rs) (hN : N ≤ 2 ^ 40) (hK : base + N ≤ K) (hp : ∀ j, j < N → f (base + j) = (p j).toNat)
include hN hK hp
set_option maxRecDepth 100000 in
theorem rdouble_spec (x : Int) (o : Nat) (hr : RdAt base N s o) : Does TB 273 (.s (.ptr 0 0) :: .s (.ptr 1 0) :: ints []) [rdb 2 N s o, .cells true [.one (.int .u64 x)] 0, .cells m [.ints .u8 K f] sp]
    (fun r h' => ∃ o', RdAt base N (takeR N 8 s) o' ∧ r = .tuple [] ∧ h' = [rdb 2 N (takeR N 8 s) o', .cells true [.one (.int .u64 (numV p N 8 s).toNat)] 0, .cells m [.ints .u8 K f] sp]) := by
  refine fnX_does TB Tryz.func273 rfl (by decide) (fun O on hO => ?_)
  refine rnum_k 0 2 p 8 hN (by decide) hr hK hp rfl rfl (by decide) ?_
  intro o' ho'
  exact ⟨_, _, [0, 1, 2], ⟨o', ho', rfl, rfl⟩, by decide, ⟨rfl, rfl, rfl, trivial⟩, trivial, ⟨_, rfl, eqvB_refl _⟩, ⟨_, rfl, eqvB_refl _⟩, ⟨_, rfl, eqvB_refl _⟩, trivial⟩
set_option maxRecDepth 100000 in
theorem rword_spec (x : Int) (o : Nat) (hr : RdAt base N s o) : Does TB 278 (.s (.ptr 0 0) :: .s (.ptr 1 0) :: ints []) [rdb 2 N s o, .cells true [.one (.int .u32 x)] 0, .cells m [.ints .u8 K f] sp]
    (fun r h' => ∃ o', RdAt base N (takeR N 4 s) o' ∧ r = .tuple [] ∧ h' = [rdb 2 N (takeR N 4 s) o', .cells true [.one (.int .u32 ((numV p N 4 s).setWidth 32).toNat)] 0, .cells m [.ints .u8 K f] sp]) := by
  refine fnX_does TB Tryz.func278 rfl (by decide) (fun O on hO => ?_)
  refine rnum_k 0 2 p 4 hN (by decide) hr hK hp rfl rfl (by decide) ?_
  intro o' ho'
  have e : IntKind.u32.wrap ((numV p N 4 s).toNat : Int) = (((numV p N 4 s).setWidth 32).toNat : Int) := by
    rw [wrap_u32, BitVec.toNat_setWidth, BitVec.toNat_ofInt]; omega
  exact ⟨_, _, [0, 1, 2], ⟨o', ho', rfl, rfl⟩, by decide, ⟨rfl, rfl, rfl, trivial⟩, trivial, ⟨_, rfl, eqvB_refl _⟩, ⟨_, rfl, ⟨rfl, rfl, eqvS_int e eqvS_nil⟩⟩, ⟨_, rfl, eqvB_refl _⟩, trivial⟩
set_option maxRecDepth 100000 in
theorem roctet_spec (x : Int) (o : Nat) (hr : RdAt base N s o) : Does TB 276 (.s (.ptr 0 0) :: .s (.ptr 1 0) :: ints []) [rdb 2 N s o, .cells true [.one (.int .u8 x)] 0, .cells m [.ints .u8 K f] sp]
    (fun r h' => ∃ o', RdAt base N (takeR N 1 s) o' ∧ r = .tuple [] ∧ h' = [rdb 2 N (takeR N 1 s) o', .cells true [.one (.int .u8 ((numV p N 1 s).setWidth 8).toNat)] 0, .cells m [.ints .u8 K f] sp]) := by
  refine fnX_does TB Tryz.func276 rfl (by decide) (fun O on hO => ?_)
  refine rnum_k 0 2 p 1 hN (by decide) hr hK hp rfl rfl (by decide) ?_
  intro o' ho'
  have e : IntKind.u8.wrap ((numV p N 1 s).toNat : Int) = (((numV p N 1 s).setWidth 8).toNat : Int) := low8 _
  exact ⟨_, _, [0, 1, 2], ⟨o', ho', rfl, rfl⟩, by decide, ⟨rfl, rfl, rfl, trivial⟩, trivial, ⟨_, rfl, eqvB_refl _⟩, ⟨_, rfl, ⟨rfl, rfl, eqvS_int e eqvS_nil⟩⟩, ⟨_, rfl, eqvB_refl _⟩, trivial⟩
set_option maxRecDepth 100000 in
theorem rplace_spec (k : Nat) (hk : 0 < k ∧ k ≤ 8) (x : Int) (o : Nat) (hr : RdAt base N s o) : Does TB 277 (.s (.ptr 0 0) :: .s (.ptr 1 0) :: ints [(k : Int)]) [rdb 2 N s o, .cells true [.one (.int .i64 x)] 0, .cells m [.ints .u8 K f] sp]
    (fun r h' => ∃ o', RdAt base N (takeR N k s) o' ∧ r = .tuple [] ∧ h' = [rdb 2 N (takeR N k s) o', .cells true [.one (.int .i64 (numV p N k s).toInt)] 0, .cells m [.ints .u8 K f] sp]) := by
  refine fnX_does TB Tryz.func277 rfl (by decide) (fun O on hO => ?_)
  refine rnum_k 0 2 p k hN hk hr hK hp rfl rfl (by decide) ?_
  intro o' ho'
  have e : IntKind.i64.wrap ((numV p N k s).toNat : Int) = (numV p N k s).toInt := by rw [wrap_i64, ofInt_toNat]
  exact ⟨_, _, [0, 1, 2], ⟨o', ho', rfl, rfl⟩, by decide, ⟨rfl, rfl, rfl, trivial⟩, trivial, ⟨_, rfl, eqvB_refl _⟩, ⟨_, rfl, ⟨rfl, rfl, eqvS_int e eqvS_nil⟩⟩, ⟨_, rfl, eqvB_refl _⟩, trivial⟩
set_option maxRecDepth 100000 in
theorem rflag_spec (x : Bool) (o : Nat) (hr : RdAt base N s o) : Does TB 274 (.s (.ptr 0 0) :: .s (.ptr 1 0) :: ints []) [rdb 2 N s o, .cells true [.one (.bool x)] 0, .cells m [.ints .u8 K f] sp]
    (fun r h' => ∃ o', RdAt base N (flagR p N s) o' ∧ r = .tuple [] ∧ h' = [rdb 2 N (flagR p N s) o', .cells true [.one (.bool (flagV p N s))] 0, .cells m [.ints .u8 K f] sp]) := by
  refine fnX_does TB Tryz.func274 rfl (by decide) (fun O on hO => ?_)
  refine rnum_k 0 2 p 1 hN (by decide) hr hK hp rfl rfl (by decide) ?_
  intro o' ho'
  repeat (refine need_intro (by first | exact fun h => h | exact fun _ => rfl | rfl | simp) ?_)
  refine ⟨_, _, [0, 1, 2], ⟨o', ho'.bad _, rfl, rfl⟩, by decide, ⟨rfl, rfl, rfl, trivial⟩, trivial, ⟨_, rfl, ⟨rfl, rfl, eqvS_same (eqvS_bool ?_ eqvS_nil)⟩⟩, ⟨_, rfl, ⟨rfl, rfl, eqvS_bool ?_ eqvS_nil⟩⟩, ⟨_, rfl, eqvB_refl _⟩, trivial⟩
  · show (bif (takeR N 1 s).bad then true else decide (((numV p N 1 s).toNat : Int) > 1)) = ((takeR N 1 s).bad || decide (1 < (numV p N 1 s).toNat))
    rw [show decide (((numV p N 1 s).toNat : Int) > 1) = decide (1 < (numV p N 1 s).toNat) from decide_eq_decide.2 (by omega)]
    cases (takeR N 1 s).bad <;> rfl
  · show (((numV p N 1 s).toNat : Int) == 1) = (numV p N 1 s == 1#64)
    exact beq_lit (numV p N 1 s) 1 (by decide) (by decide)
end small
end Go.Proofs.YtdlpmbghocabbaaGreatDoor

/- The reader's list; methods that fill one cell of a block. Contracts that go on over any heap. No condition. -/
namespace Go.Proofs.YtdlpmbghocabbaaGreatDoor
open Go Go.Anv
theorem rtake_k {h : List Blk} {Q : EV → List Blk → Prop} (pr pb : Nat) {base N o : Nat} {s : Rs} {m : Bool} {K sp : Nat} {f : Nat → Int} (k : Nat) {x : Int} (hx : x = k) (hN : N ≤ 2 ^ 40) (hk : k ≤ 2 ^ 40) (hr : RdAt base N s o)
    (hw : nthB h pr = some (rdb pb N s o)) (hb : nthB h pb = some (.cells m [.ints .u8 K f] sp)) (hne : pr ≠ pb)
    (hQ1 : (s.bad = true ∨ N - s.at_ < k) → updBK h pr (rdb pb N ⟨s.at_, true⟩ o) fun h1 => updBK h1 pb (.cells m [.ints .u8 K f] sp) fun h2 => Q (.s .nilslice) h2)
    (hQ2 : ¬ (s.bad = true ∨ N - s.at_ < k) → ∀ o', RdAt base N ⟨s.at_ + k, false⟩ o' → updBK h pr (rdb pb N ⟨s.at_ + k, false⟩ o') fun h1 => updBK h1 pb (.cells m [.ints .u8 K f] sp) fun h2 => Q (.s (.gs pb o k k)) h2) :
    Does TB 77 [.s (.ptr pr 0), .s (.int .i64 x)] h Q := by
  subst hx
  refine Does.at (take_spec m base N K sp f s o k hN hk hr) [pr, pb] rfl ⟨hw, hb, trivial⟩ (by simp [hne]) ?_ ?_
  · rintro v h' (⟨_, _, rfl⟩ | ⟨_, _, _, _, rfl⟩) <;> exact ⟨.inl rfl, .inr (.inr rfl), trivial⟩
  have key : ∀ s' o' , mergeB h [pr, pb] (renH (lk [pr, pb] h.length) [rdb 1 N s' o', .cells m [.ints .u8 K f] sp]) = updB (updB h pr (rdb pb N s' o')) pb (.cells m [.ints .u8 K f] sp) := fun s' o' => by
    show updB (updB h pr _) pb _ ++ [] = _
    rw [List.append_nil]; rfl
  rintro v h' (⟨hb1, rfl, rfl⟩ | ⟨hb1, rfl, o', ho', rfl⟩)
  · have := hQ1 hb1
    rw [updBK_eq, updBK_eq] at this
    rw [forceH_eq, forceE_eq, key]
    exact this
  · have := hQ2 hb1 o' ho'
    rw [updBK_eq, updBK_eq] at this
    rw [forceH_eq, forceE_eq, key]
    exact this
theorem rone_k {f : FuncId} {x x' : SV} (s' : Rs) (ex : List Int) {h : List Blk} {Q : EV → List Blk → Prop} (pr pb pv k L : Nat) {sp K bsp : Nat} {m : Bool} {g : Nat → Int} {cs cs' : List Seg} {pe : EV} {base N o : Nat} {s : Rs} {P : SV → List Seg → Prop}
    (spec : ∀ o, RdAt base N s o → Does TB f (.s (.ptr 0 0) :: .s (.ptr 1 0) :: ints ex) [rdb 2 N s o, .cells true [.one x] 0, .cells m [.ints .u8 K g] bsp]
      (fun r h' => ∃ o', RdAt base N s' o' ∧ r = .tuple [] ∧ h' = [rdb 2 N s' o', .cells true [.one x'] 0, .cells m [.ints .u8 K g] bsp]))
    (hx : ∀ ρ, renV ρ x = x ∧ renV ρ x' = x') (hr : RdAt base N s o) (hL : h.length = L)
    (hw : nthB h pr = some (rdb pb N s o)) (hb : nthB h pb = some (.cells m [.ints .u8 K g] bsp)) (hv : nthB h pv = some (.cells true cs sp)) (hne : pr ≠ pb ∧ pr ≠ pv ∧ pb ≠ pv) (hpe : ptrTo pv k pe) (hcell : Cell cs k x P) (hP : P x' cs')
    (hQ : ∀ o', RdAt base N s' o' → forceH (updB (updB (updB (updB (updB (updB h pv .dead ++ [.cells true [.one x] 0]) pr (rdb pb N s' o')) L (.cells true [.one x'] 0)) pb (.cells m [.ints .u8 K g] bsp)) L .dead) pv (.cells true cs' sp)) fun h2 => Q (.tuple []) h2) :
    Does TB f (.s (.ptr pr 0) :: pe :: ints ex) h Q := by
  subst hL
  obtain ⟨n1, n2, n3⟩ := hne
  have lw := nthB_lt hw
  have lb := nthB_lt hb
  have lN : nthB (updB h pv .dead ++ [Blk.cells true [.one x] 0]) h.length = some (.cells true [.one x] 0) := by
    have := nthB_len (updB h pv .dead) (Blk.cells true [.one x] 0) []
    rwa [len_updB] at this
  refine Does.cell (spec o hr) [pr, h.length, pb] pv k h.length rfl hv hcell ⟨nthB_app (nthB_upd_ne hw n2), by simp only [renB, renS, hx]; exact lN, nthB_app (nthB_upd_ne hb n3), trivial⟩ ⟨.inl ⟨rfl, rfl⟩, ptrTo_part hpe, by
    show partT _ _ _ _ (renT _ (ints ex)); rw [ren_ints]; exact part_ints _ _ _ _⟩ (by simp; omega) ?_ ?_ ?_
  · rintro v h' ⟨o', _, _, rfl⟩
    exact ⟨.inl rfl, .inl rfl, .inr (.inr rfl), trivial⟩
  · rintro v h' ⟨o', _, _, rfl⟩
    exact Nat.le_refl _
  · rintro v h' ⟨o', ho', rfl, rfl⟩
    have key : mergeB (updB h pv .dead ++ [.cells true [.one x] 0]) [pr, h.length, pb] (renH (lk [pr, h.length, pb] (h.length + 1)) [rdb 2 N s' o', .cells true [.one x'] 0, .cells m [.ints .u8 K g] bsp]) =
        updB (updB (updB (updB h pv .dead ++ [.cells true [.one x] 0]) pr (rdb pb N s' o')) h.length (.cells true [.one x'] 0)) pb (.cells m [.ints .u8 K g] bsp) := by
      show updB (updB (updB _ pr _) h.length _) pb _ ++ [] = _
      rw [List.append_nil]
      simp only [renB, renS, hx]
      rfl
    refine ⟨x', cs', ?_, hP, ?_⟩
    · rw [key]
      exact nthB_upd_ne (nthB_upd_eq (nthB_upd_ne lN (by omega))) (by omega)
    · have := hQ o' ho'
      rw [forceH_eq] at this
      rw [key, forceH_eq, forceE_eq]
      exact this
set_option maxRecDepth 100000 in
theorem rlist_spec (m : Bool) (base N K sp : Nat) (f : Nat → Int) (p : Nat → B8) (s : Rs) (hN : N ≤ 2 ^ 40) (hK : base + N ≤ K) (hp : ∀ j, j < N → f (base + j) = (p j).toNat) (size most : Nat) (hs : 0 < size ∧ size ≤ 4) (o : Nat) (hr : RdAt base N s o) :
    Does TB 275 [.s (.ptr 0 0), .s (.ptr 1 0), .s (.int .i64 size), .s (.int .i64 most)] [rdb 2 N s o, .cells true [.one .nilslice] 0, .cells m [.ints .u8 K f] sp]
    (fun r h' => ∃ o', RdAt base N (listR p N size most s) o' ∧ r = .tuple [] ∧ h' = [rdb 2 N (listR p N size most s) o', .cells true [.one (.gs 3 0 (listN p N size most s) (listN p N size most s))] 0, .cells m [.ints .u8 K f] sp, bblk true (listN p N size most s) (listQ p N size most s) 0]) := by
  refine fnX_does TB Tryz.func275 rfl (by decide) (fun O on hO => ?_)
  refine rnum_k 0 2 p size hN (by omega) hr hK hp rfl rfl (by decide) ?_
  intro o1 ho1
  have hv : (numV p N size s).toNat < 2 ^ 32 := by
    unfold numV
    split
    · decide
    · exact Nat.lt_of_lt_of_le (hi_lt p s.at_ size size (by omega)) (Nat.pow_le_pow_right (by decide) (by omega))
  have hi64 : IntKind.i64.wrap ((numV p N size s).toNat : Int) = (((numV p N size s).toNat : Nat) : Int) := i64_in (by omega) (by omega)
  repeat (refine need_intro (by first | exact fun h => h | exact fun _ => rfl | rfl | simp) ?_)
  have hbad : (bif (takeR N size s).bad then true else decide (IntKind.i64.wrap ((numV p N size s).toNat : Int) > (most : Int))) = (lenR p N size most s).bad := by
    show _ = ((takeR N size s).bad || decide (most < (numV p N size s).toNat))
    rw [hi64, show decide ((((numV p N size s).toNat : Nat) : Int) > (most : Int)) = decide (most < (numV p N size s).toNat) from decide_eq_decide.2 (by omega)]
    cases (takeR N size s).bad <;> rfl
  refine rtake_k 0 2 (s := lenR p N size most s) (numV p N size s).toNat hi64 hN (by omega) (ho1.bad _) ?_ rfl (by decide) ?_ ?_
  · show some (Blk.cells true [.one _, .one (.bool (bif _ then _ else _))] 0) = _
    rw [hbad]
    rfl
  · intro hb1
    have e1 : listOk p N size most s = false := by
      unfold listOk
      rcases hb1 with h | h
      · rw [h]; rfl
      · rw [decide_eq_false (by omega), Bool.and_false]
    have e2 : listN p N size most s = 0 := by unfold listN; rw [e1]; rfl
    have e3 : listR p N size most s = ⟨(lenR p N size most s).at_, true⟩ := if_pos hb1
    rw [e2, e3]
    repeat (refine need_intro (by first | exact fun h => h | exact fun _ => rfl | rfl | simp) ?_)
    exact ⟨.tuple [], _, [0, 1, 2, 3], ⟨o1, ho1.bad _, rfl, rfl⟩, by decide, ⟨rfl, rfl, rfl, trivial⟩, trivial, ⟨_, rfl, eqvB_refl _⟩, ⟨_, rfl, ⟨rfl, rfl, ⟨⟨rfl, rfl, rfl, rfl⟩, trivial⟩⟩⟩, ⟨_, rfl, eqvB_refl _⟩, ⟨_, rfl, ⟨rfl, rfl, ⟨⟨rfl, rfl, fun j hj => absurd hj (Nat.not_lt_zero _)⟩, trivial⟩⟩⟩, trivial⟩
  · intro hb1 o2 ho2
    have hb2 := hb1
    simp only [not_or, Nat.not_lt] at hb2
    have e1 : listOk p N size most s = true := by
      unfold listOk
      rw [decide_eq_true hb2.2]
      cases h : (lenR p N size most s).bad
      · rfl
      · exact absurd h hb2.1
    have e2 : listN p N size most s = (numV p N size s).toNat := by unfold listN; rw [e1]; rfl
    have e3 : listR p N size most s = ⟨(lenR p N size most s).at_ + (numV p N size s).toNat, false⟩ := if_neg hb1
    rw [e2, e3]
    have hat : (lenR p N size most s).at_ + (numV p N size s).toNat ≤ N := ho2.1
    refine need_intro ⟨by omega, by omega, by omega, by show ((1 : Nat) : Int) * _ ≤ _; omega⟩ ?_
    have h1 := ho1.2.1
    have h2 := ho1.2.2
    have hat2 : (takeR N size s).at_ = (lenR p N size most s).at_ := rfl
    generalize hz : (numV p N size s).toNat = z at *
    rw [hat2] at h1
    refine need_intro ⟨?_, ?_⟩ ?_
    · show o1 + z ≤ K
      by_cases hz0 : z = 0
      · omega
      · have := h1 (by omega); omega
    · show 0 + ((z : Nat) : Int).toNat ≤ ((z : Nat) : Int).toNat
      omega
    refine ⟨.tuple [], _, [0, 1, 2, 3], ⟨o2, ho2, rfl, rfl⟩, by decide, ⟨rfl, rfl, rfl, trivial⟩, trivial, ⟨_, rfl, eqvB_refl _⟩, ⟨_, rfl, ⟨rfl, rfl, ⟨⟨rfl, rfl, rfl, rfl⟩, trivial⟩⟩⟩, ⟨_, rfl, eqvB_refl _⟩, ⟨_, rfl, ⟨rfl, ?_, ⟨⟨rfl, rfl, fun j hj => ?_⟩, trivial⟩⟩⟩, trivial⟩
    · show ((z : Nat) : Int).toNat - ((z : Nat) : Int).toNat = 0
      omega
    · replace hj : j < z := hj
      show putF 0 (min z ((z : Nat) : Int).toNat) (shf o1 f) (fun _ => 0) j = bfun (listQ p N size most s) j
      unfold putF
      rw [if_pos (by omega)]
      show f (o1 + (j - 0)) = _
      rw [h1 (by omega), Nat.sub_zero, Nat.add_assoc, hp _ (by omega)]
      rfl
end Go.Proofs.YtdlpmbghocabbaaGreatDoor
