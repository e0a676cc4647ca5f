/- Part 7 of the texts of this claim, merged: E18, E22, F1, F3, F5, P2, P3, P4, Q1, Q2, Q3, Q4, Q5, Q6, Q7, Q8, N1, F6, F8, J1, O1, F4, F9, F10, F2, F7, J2, Y1. No condition: plain theorems, contracts of functions. -/
import Derived.Test.YtdlpmbghocabbaaGreatDoorZ6
import Derived.Recover
import Derived.WalkKit

set_option linter.unusedSimpArgs false
set_option linter.unusedVariables false
/- The engine, part 18: contracts that leave all as it was: used in a larger heap; shown at a function's end. Plain theorems, no condition. -/
namespace Go.Anv
open Go

theorem updB_self : ∀ {h : List Blk} {k : Nat} {B : Blk}, nthB h k = some B → updB h k B = h
  | [], _, _, h => by simp [nthB] at h
  | x :: r, 0, B, h => by simp only [nthB, Option.some.injEq] at h; subst h; rfl
  | x :: r, k + 1, B, h => by simp only [nthB] at h; simp only [updB, updB_self h]

theorem mergeB_self {h : List Blk} : ∀ {κ : List Nat} {r : List Blk}, subH h κ r → mergeB h κ r = h
  | [], [], _ => by simp [mergeB]
  | k :: κ, B :: r, hk => by
    rw [mergeB, updB_self hk.1]
    exact mergeB_self hk.2
  | [], _ :: _, hk => hk.elim
  | _ :: _, [], hk => hk.elim

theorem roOk_self : ∀ h : List Blk, roOk h h
  | [] => trivial
  | _ :: r => ⟨.inr (.inr rfl), roOk_self r⟩

/-- A contract that leaves its heap as it was, in a larger heap. -/
theorem Does.atc {T : Tbl} {f : FuncId} {args : List EV} {hc : List Blk} {X : EV} (c : Does T f args hc (fun v h' => v = X ∧ h' = hc)) (κ : List Nat) {args' : List EV} {h : List Blk} {K : EV → List Blk → Prop}
    (ha : args' = renT (lk κ h.length) args) (hh : subH h κ (renH (lk κ h.length) hc)) (hnd : κ.Nodup) (hK : forceE (renE (lk κ h.length) X) fun v => K v h) : Does T f args' h K := by
  refine Does.at c κ ha hh hnd ?_ ?_
  · rintro v h' ⟨_, rfl⟩
    exact roOk_self _
  · rintro v h' ⟨rfl, rfl⟩
    rw [mergeB_self hh, forceH_eq]
    exact hK

theorem subQ_pre (J : List Blk) : ∀ (H P : List Blk), subQ (P ++ (H ++ J)) (List.range' P.length H.length) H
  | [], _ => trivial
  | B :: r, P => by
    refine ⟨⟨B, ?_, eqvB_refl B⟩, ?_⟩
    · apply get_nthB
      rw [List.getElem?_append_right (Nat.le_refl _), Nat.sub_self]
      rfl
    · have := subQ_pre J r (P ++ [B])
      simpa [List.append_assoc] using this

/-- The end of a function that leaves its heap as it was; new blocks are let go. -/
theorem Ends.ro {n : Nat} {H J : List Blk} {X x : EV} (hn : H.length = n) (hx : eqvE x (renE (lk (List.range n) (H ++ J).length) X)) (hH : renH (lk (List.range n) (H ++ J).length) H = H) : Ends n (fun v h' => v = X ∧ h' = H) x (H ++ J) := by
  subst hn
  refine ⟨X, H, List.range H.length, ⟨rfl, rfl⟩, List.nodup_range, ?_, hx, ?_⟩
  · rw [List.range_eq_range']; exact idK_range _ _ 0 (Nat.le_refl _)
  · rw [hH, List.range_eq_range']
    exact subQ_pre J H []

/-! ### a drawn region's orders, one state for all -/

theorem eqvH_subQ (h : List Blk) : subQ h (List.range' 0 h.length) h := subQ_range h h 0 rfl

theorem renT_same' {ρ : Nat → Nat} (hρ : ∀ i, ρ i = i) : ∀ l : List EV, renT ρ l = l := renT_same hρ

theorem leR_refl {n : Nat} {s : St} (hn : n ≤ s.heap.length) : leR n (List.range s.heap.length) s s := by
  have hlk : ∀ i, lk (List.range s.heap.length) s.heap.length i = i := lk_range s.heap.length
  refine ⟨List.nodup_range, ?_, ?_, ?_⟩
  · rw [List.range_eq_range']; exact idK_range n _ 0 hn
  · rw [renT_same' hlk]; exact eqvT_refl _
  · rw [renH_same hlk, List.range_eq_range']
    exact eqvH_subQ _

def toK (n : Nat) (t : St) : Exit → St → Prop
  | .normal, s => ∃ κ, leR n κ s t
  | _, _ => False

/-- **A drawn region: all its orders end in one state (with other numbers), from which the walk goes on.** -/
theorem draw_to {T : Tbl} {O : Org} (on : O.E.n = O.h.length) {id : Nat} {ops : Array Oper} {s : St} {K : Exit → St → Prop} (t : St) (hd : DrawG T O id ops s (toK O.E.n t)) (hk : K .normal t) : DrawG T O id ops s K := by
  intro E a w R
  refine Code.wp_mono ?_ (hd E a w R)
  rintro e a' w' ⟨E', s', h1, R'⟩
  cases e with
  | normal =>
    obtain ⟨κ, hκ⟩ := h1
    obtain ⟨E'', R''⟩ := R'.renum on hκ
    exact ⟨E'', t, hk, R''⟩
  | _ => exact h1.elim

theorem toK_id {n : Nat} {s : St} (hn : n ≤ s.heap.length) : toK n s .normal s := ⟨_, leR_refl hn⟩

theorem toK_of {n : Nat} {s t : St} (κ : List Nat) (h1 : κ.Nodup) (h2 : idK 0 n κ) (h3 : eqvT s.tmps (renT (lk κ s.heap.length) t.tmps)) (h4 : subQ s.heap κ (renH (lk κ s.heap.length) t.heap)) : toK n t .normal s := ⟨κ, h1, h2, h3, h4⟩

/-! ### numbers of blocks, written out -/

def litK (b : Nat) (k : Nat → Prop) : Prop :=
  match b with
  | 0 => k 0
  | 1 => k 1
  | 2 => k 2
  | 3 => k 3
  | 4 => k 4
  | 5 => k 5
  | 6 => k 6
  | 7 => k 7
  | 8 => k 8
  | 9 => k 9
  | 10 => k 10
  | 11 => k 11
  | 12 => k 12
  | 13 => k 13
  | 14 => k 14
  | 15 => k 15
  | 16 => k 16
  | 17 => k 17
  | 18 => k 18
  | 19 => k 19
  | 20 => k 20
  | 21 => k 21
  | 22 => k 22
  | 23 => k 23
  | 24 => k 24
  | 25 => k 25
  | 26 => k 26
  | 27 => k 27
  | 28 => k 28
  | 29 => k 29
  | 30 => k 30
  | 31 => k 31
  | 32 => k 32
  | 33 => k 33
  | 34 => k 34
  | 35 => k 35
  | 36 => k 36
  | 37 => k 37
  | 38 => k 38
  | 39 => k 39
  | n => k n

theorem litK_eq (b : Nat) (k : Nat → Prop) : litK b k = k b := by
  unfold litK
  split <;> rfl

mutual
def nV : SV → (SV → Prop) → Prop
  | .junk, k => k .junk
  | .int q n, k => k (.int q n)
  | .bool b, k => k (.bool b)
  | .str s, k => k (.str s)
  | .ptr b o, k => litK b fun b => k (.ptr b o)
  | .pix b o i, k => litK b fun b => k (.pix b o i)
  | .rp b o i z, k => litK b fun b => k (.rp b o i z)
  | .nilptr, k => k .nilptr
  | .slice b o l c, k => litK b fun b => k (.slice b o l c)
  | .nilslice, k => k .nilslice
  | .gs b o l c, k => litK b fun b => k (.gs b o l c)
  | .map b, k => litK b fun b => k (.map b)
  | .nilmap, k => k .nilmap
  | .func f a c, k => nL a fun a => nL c fun c => k (.func f a c)
  | .nilfunc, k => k .nilfunc
  | .iface t a c, k => nL c fun c => k (.iface t a c)
  | .niliface, k => k .niliface
def nL : List SV → (List SV → Prop) → Prop
  | [], k => k []
  | x :: r, k => nV x fun x => nL r fun r => k (x :: r)
end

mutual
theorem nV_eq : ∀ (v : SV) (k : SV → Prop), nV v k = k v
  | .junk, _ => rfl
  | .int .., _ => rfl
  | .bool _, _ => rfl
  | .str _, _ => rfl
  | .ptr .., _ => by simp only [nV, litK_eq]
  | .pix .., _ => by simp only [nV, litK_eq]
  | .rp .., _ => by simp only [nV, litK_eq]
  | .nilptr, _ => rfl
  | .slice .., _ => by simp only [nV, litK_eq]
  | .nilslice, _ => rfl
  | .gs .., _ => by simp only [nV, litK_eq]
  | .map _, _ => by simp only [nV, litK_eq]
  | .nilmap, _ => rfl
  | .func f a c, k => by simp only [nV]; rw [nL_eq a]; rw [nL_eq c]
  | .nilfunc, _ => rfl
  | .iface t a c, k => by simp only [nV]; rw [nL_eq c]
  | .niliface, _ => rfl
theorem nL_eq : ∀ (l : List SV) (k : List SV → Prop), nL l k = k l
  | [], _ => rfl
  | x :: r, k => by simp only [nL]; rw [nV_eq x]; rw [nL_eq r]
end

def nS (l : List Seg) : (List Seg → Prop) → Prop :=
  List.rec (motive := fun _ => (List Seg → Prop) → Prop) (fun k => k []) (fun x _ ih k => match x with
    | .one v => nV v fun v => ih fun r => k (.one v :: r)
    | .ints q n f => ih fun r => k (.ints q n f :: r)) l

theorem nS_eq : ∀ (cs : List Seg) (k : List Seg → Prop), nS cs k = k cs
  | [], _ => rfl
  | .one v :: r, k => by
    show (nV v fun v => nS r fun r => k (.one v :: r)) = _
    rw [nV_eq, nS_eq r]
  | .ints q n f :: r, k => by
    show (nS r fun r => k (.ints q n f :: r)) = _
    rw [nS_eq r]

def nB (B : Blk) (k : Blk → Prop) : Prop :=
  match B with
  | .cells m cs sp => nS cs fun cs => k (.cells m cs sp)
  | .recs m n z f sp => k (.recs m n z f sp)
  | .map es => k (.map es)
  | .dead => k .dead

def nH (l : List Blk) : (List Blk → Prop) → Prop :=
  List.rec (motive := fun _ => (List Blk → Prop) → Prop) (fun k => k []) (fun B _ ih k => nB B fun B => ih fun r => k (B :: r)) l

theorem nB_eq (B : Blk) (k : Blk → Prop) : nB B k = k B := by cases B <;> simp only [nB, nS_eq]
theorem nH_eq : ∀ (h : List Blk) (k : List Blk → Prop), nH h k = k h
  | [], _ => rfl
  | B :: r, k => by
    show (nB B fun B => nH r fun r => k (B :: r)) = _
    rw [nB_eq, nH_eq r]

def nE (v : EV) (k : EV → Prop) : Prop :=
  match v with
  | .s v => nV v fun v => k (.s v)
  | .agg cs => nS cs fun cs => k (.agg cs)
  | v => forceE v k

theorem nE_eq (v : EV) (k : EV → Prop) : nE v k = k v := by
  cases v <;> simp only [nE, nV_eq, nS_eq, forceE_eq]

/-- A contract in a larger heap; the numbers behind it are written out. -/
theorem Does.atn {T : Tbl} {f : FuncId} {args : List EV} {hc : List Blk} {Q : EV → List Blk → Prop} (c : Does T f args hc Q) (κ : List Nat) {args' : List EV} {h : List Blk} {K : EV → List Blk → Prop}
    (ha : args' = renT (lk κ h.length) args) (hh : subH h κ (renH (lk κ h.length) hc)) (hnd : κ.Nodup) (hro : ∀ v h', Q v h' → roOk hc h')
    (hK : ∀ v' h', Q v' h' → nH (mergeB h κ (renH (lk κ h.length) h')) fun h2 => nE (renE (lk κ h.length) v') fun v => K v h2) : Does T f args' h K :=
  Does.at c κ ha hh hnd hro fun v' h' hq => by
    have := hK v' h' hq
    rw [nH_eq, nE_eq] at this
    rw [forceH_eq, forceE_eq]
    exact this
end Go.Anv

/- Contracts that were shown by other means: what lay below the heap's end is as it was. Plain theorems, no condition. -/
namespace Go.Anv
open Go
theorem Since.below {E : Emb} {h : List Blk} {w w' : World} (B : RowKit.Below w.heap.size w w') : Since E h w E h w' :=
  ⟨Nat.le_refl _, fun _ _ => rfl, B.size, fun b hb _ => B.block b hb, fun b o hb _ => ⟨World.cell?_of_block (w := w) (B.block b hb), fun _ => World.frozen?_of_block (w := w) (B.block b hb)⟩, fun _ _ hm _ => hm, B.os, B.tape, B.output,
    fun b hb hr => hr.of_block (B.block b hb)⟩
/-- A contract shown by other means. -/
theorem Does.foreign {T : Tbl} {f : FuncId} {args : List EV} {h : List Blk} {X : EV} (hf : isFn T f)
    (c : ∀ E w vs, Sim E h w → TabOk E h w → denT E args vs.toList → Calls T.P f vs w fun e w' => (∃ v, e = .returned v ∧ denE E X v) ∧ RowKit.Below w.heap.size w w') : Does T f args h (fun v h' => v = X ∧ h' = h) := by
  refine ⟨.inl ⟨hf, fun E w vs S Z ha => (c E w vs S Z ha).mono ?_⟩⟩
  rintro e w' ⟨⟨v, rfl, hd⟩, B⟩
  exact ⟨v, X, h, E, rfl, hd, S.keep B.size B.block, Since.below B, rfl, rfl⟩
end Go.Anv

/- What the decoder makes of one word (addi x1, x0, 1), number by number. Contracts of functions; printed by mk_f1.py. -/
namespace Go.Proofs.YtdlpmbghocabbaaGreatDoor
open Go Go.Anv
set_option maxRecDepth 100000 in
theorem bits_11_7 (h : List Blk) : Does TB 116 [.s (.int .u64 1048723), .s (.int .i64 11), .s (.int .i64 7)] h (fun v h' => v = .s (.int .u64 1) ∧ h' = h) := by
  refine fnX_pure TB Tryz.func116 rfl (by decide) rfl _ rfl (fun O on => ?_) h
  repeat (refine need_intro (by first | exact fun h => h | exact nt | exact an2 | exact an3 | rfl | (simp; done) | fail) ?_)
  refine loop_times on 6 ?_
  repeat (first | refine Box.mk ?_ | refine need_intro (by first | decide | fail) ?_)
  first | exact rfl | exact ⟨rfl, by decide⟩ | exact ⟨rfl, rfl⟩
set_option maxRecDepth 100000 in
theorem field_11_7 (h : List Blk) : Does TB 200 [.s (.int .u32 1048723), .s (.int .i64 11), .s (.int .i64 7)] h (fun v h' => v = .s (.int .i64 1) ∧ h' = h) := by
  refine fnX_pure TB Tryz.func200 rfl (by decide) rfl _ rfl (fun O on => ?_) h
  repeat (refine need_intro (by first | exact fun h => h | exact nt | exact an2 | exact an3 | rfl | (simp; done) | fail) ?_)
  refine (bits_11_7 _).mono ?_
  rintro v h' ⟨rfl, rfl⟩
  repeat (refine need_intro (by first | exact fun h => h | exact nt | exact an2 | exact an3 | rfl | (simp; done) | fail) ?_)
  first | exact rfl | exact ⟨rfl, by decide⟩ | exact ⟨rfl, rfl⟩
set_option maxRecDepth 100000 in
theorem bits_19_15 (h : List Blk) : Does TB 116 [.s (.int .u64 1048723), .s (.int .i64 19), .s (.int .i64 15)] h (fun v h' => v = .s (.int .u64 0) ∧ h' = h) := by
  refine fnX_pure TB Tryz.func116 rfl (by decide) rfl _ rfl (fun O on => ?_) h
  repeat (refine need_intro (by first | exact fun h => h | exact nt | exact an2 | exact an3 | rfl | (simp; done) | fail) ?_)
  refine loop_times on 6 ?_
  repeat (first | refine Box.mk ?_ | refine need_intro (by first | decide | fail) ?_)
  first | exact rfl | exact ⟨rfl, by decide⟩ | exact ⟨rfl, rfl⟩
set_option maxRecDepth 100000 in
theorem field_19_15 (h : List Blk) : Does TB 200 [.s (.int .u32 1048723), .s (.int .i64 19), .s (.int .i64 15)] h (fun v h' => v = .s (.int .i64 0) ∧ h' = h) := by
  refine fnX_pure TB Tryz.func200 rfl (by decide) rfl _ rfl (fun O on => ?_) h
  repeat (refine need_intro (by first | exact fun h => h | exact nt | exact an2 | exact an3 | rfl | (simp; done) | fail) ?_)
  refine (bits_19_15 _).mono ?_
  rintro v h' ⟨rfl, rfl⟩
  repeat (refine need_intro (by first | exact fun h => h | exact nt | exact an2 | exact an3 | rfl | (simp; done) | fail) ?_)
  first | exact rfl | exact ⟨rfl, by decide⟩ | exact ⟨rfl, rfl⟩
set_option maxRecDepth 100000 in
theorem bits_24_20 (h : List Blk) : Does TB 116 [.s (.int .u64 1048723), .s (.int .i64 24), .s (.int .i64 20)] h (fun v h' => v = .s (.int .u64 1) ∧ h' = h) := by
  refine fnX_pure TB Tryz.func116 rfl (by decide) rfl _ rfl (fun O on => ?_) h
  repeat (refine need_intro (by first | exact fun h => h | exact nt | exact an2 | exact an3 | rfl | (simp; done) | fail) ?_)
  refine loop_times on 6 ?_
  repeat (first | refine Box.mk ?_ | refine need_intro (by first | decide | fail) ?_)
  first | exact rfl | exact ⟨rfl, by decide⟩ | exact ⟨rfl, rfl⟩
set_option maxRecDepth 100000 in
theorem field_24_20 (h : List Blk) : Does TB 200 [.s (.int .u32 1048723), .s (.int .i64 24), .s (.int .i64 20)] h (fun v h' => v = .s (.int .i64 1) ∧ h' = h) := by
  refine fnX_pure TB Tryz.func200 rfl (by decide) rfl _ rfl (fun O on => ?_) h
  repeat (refine need_intro (by first | exact fun h => h | exact nt | exact an2 | exact an3 | rfl | (simp; done) | fail) ?_)
  refine (bits_24_20 _).mono ?_
  rintro v h' ⟨rfl, rfl⟩
  repeat (refine need_intro (by first | exact fun h => h | exact nt | exact an2 | exact an3 | rfl | (simp; done) | fail) ?_)
  first | exact rfl | exact ⟨rfl, by decide⟩ | exact ⟨rfl, rfl⟩
set_option maxRecDepth 100000 in
theorem bits_31_20 (h : List Blk) : Does TB 116 [.s (.int .u64 1048723), .s (.int .i64 31), .s (.int .i64 20)] h (fun v h' => v = .s (.int .u64 1) ∧ h' = h) := by
  refine fnX_pure TB Tryz.func116 rfl (by decide) rfl _ rfl (fun O on => ?_) h
  repeat (refine need_intro (by first | exact fun h => h | exact nt | exact an2 | exact an3 | rfl | (simp; done) | fail) ?_)
  refine loop_times on 13 ?_
  repeat (first | refine Box.mk ?_ | refine need_intro (by first | decide | fail) ?_)
  first | exact rfl | exact ⟨rfl, by decide⟩ | exact ⟨rfl, rfl⟩
set_option maxRecDepth 100000 in
theorem field_31_20 (h : List Blk) : Does TB 200 [.s (.int .u32 1048723), .s (.int .i64 31), .s (.int .i64 20)] h (fun v h' => v = .s (.int .i64 1) ∧ h' = h) := by
  refine fnX_pure TB Tryz.func200 rfl (by decide) rfl _ rfl (fun O on => ?_) h
  repeat (refine need_intro (by first | exact fun h => h | exact nt | exact an2 | exact an3 | rfl | (simp; done) | fail) ?_)
  refine (bits_31_20 _).mono ?_
  rintro v h' ⟨rfl, rfl⟩
  repeat (refine need_intro (by first | exact fun h => h | exact nt | exact an2 | exact an3 | rfl | (simp; done) | fail) ?_)
  first | exact rfl | exact ⟨rfl, by decide⟩ | exact ⟨rfl, rfl⟩
set_option maxRecDepth 100000 in
theorem extend_1_12 (h : List Blk) : Does TB 88 [.s (.int .u64 1), .s (.int .i64 12)] h (fun v h' => v = .s (.int .u64 1) ∧ h' = h) := by
  refine fnX_pure TB Tryz.func88 rfl (by decide) rfl _ rfl (fun O on => ?_) h
  repeat (first | refine need_intro (by first | decide | fail) ?_)
  first | exact rfl | exact ⟨rfl, by decide⟩ | exact ⟨rfl, rfl⟩
set_option maxRecDepth 100000 in
theorem signed_1_12 (h : List Blk) : Does TB 201 [.s (.int .i64 1), .s (.int .i64 12)] h (fun v h' => v = .s (.int .i64 1) ∧ h' = h) := by
  refine fnX_pure TB Tryz.func201 rfl (by decide) rfl _ rfl (fun O on => ?_) h
  repeat (refine need_intro (by first | exact fun h => h | exact nt | exact an2 | exact an3 | rfl | (simp; done) | fail) ?_)
  refine (extend_1_12 _).mono ?_
  rintro v h' ⟨rfl, rfl⟩
  repeat (refine need_intro (by first | exact fun h => h | exact nt | exact an2 | exact an3 | rfl | (simp; done) | fail) ?_)
  first | exact rfl | exact ⟨rfl, by decide⟩ | exact ⟨rfl, rfl⟩
set_option maxRecDepth 100000 in
theorem length_addi (h : List Blk) : Does TB 127 [.s (.int .u32 1048723)] h (fun v h' => v = .s (.int .i64 4) ∧ h' = h) := by
  refine fnX_pure TB Tryz.func127 rfl (by decide) rfl _ rfl (fun O on => ?_) h
  repeat (refine need_intro (by first | exact fun h => h | exact nt | exact an2 | exact an3 | rfl | (simp; done) | fail) ?_)
  first | exact rfl | exact ⟨rfl, by decide⟩ | exact ⟨rfl, rfl⟩
end Go.Proofs.YtdlpmbghocabbaaGreatDoor

/- Memory protection with no entry in use. Contracts of functions. -/
namespace Go.Proofs.YtdlpmbghocabbaaGreatDoor
open Go Go.Anv
/-- No entry. -/
def zpmp : List Seg := pmpSeg (fun _ => 0#8) (fun _ => 0#64)
theorem properP0 (h : List Blk) : Does TB 28 [.agg zpmp] h (fun v h' => v = .agg zpmp ∧ h' = h) := by
  have := properP_spec (fun _ => 0#8) (fun _ => 0#64) h
  rw [show cfgOf 0#8 = 0#8 from by decide, show (0#64 &&& addrBits : B64) = 0#64 from by decide] at this
  exact this
theorem kind0 (h : List Blk) : Does TB 237 [.s (.int .u8 0)] h (fun v h' => v = .s (.int .i64 0) ∧ h' = h) := by
  refine fnX_pure TB Tryz.func237 rfl (by decide) rfl _ rfl (fun O on => ?_) h
  repeat (refine need_intro (by first | exact fun h => h | exact nt | exact an2 | exact an3 | rfl | (simp; done) | fail) ?_)
  first | exact rfl | exact ⟨rfl, by decide⟩ | exact ⟨rfl, rfl⟩
set_option maxRecDepth 100000 in
theorem span0 (i : Nat) (hi : i < 16) (h : List Blk) : Does TB 236 [.agg zpmp, .s (.int .i64 (i : Int))] h (fun v h' => v = .tuple [.s (.int .u64 0), .s (.int .u64 0), .s (.bool false)] ∧ h' = h) := by
  refine fnX_pure TB Tryz.func236 rfl (by decide) rfl _ rfl (fun O on => ?_) h
  repeat (refine need_intro (by first | exact fun h => h | exact nt | exact an2 | exact an3 | rfl | (simp; done) | fail) ?_)
  have g0 : decide ((i : Int) < 0) = false := decide_eq_false (by omega)
  have g1 : decide ((i : Int) > 15) = false := decide_eq_false (by omega)
  refine ifB_intro (fun g => by exfalso; rw [g0, g1] at g; cases g) (fun _ => ?_)
  refine (properP0 _).mono ?_
  rintro v h' ⟨rfl, rfl⟩
  repeat (refine need_intro (by first | exact rfl | omega | fail) ?_)
  refine Does.args (b := [.s (.int .u8 0)]) ⟨⟨rfl, rfl⟩, trivial⟩ ?_
  refine (kind0 _).mono ?_
  rintro v h' ⟨rfl, rfl⟩
  exact ⟨⟨rfl, rfl⟩, ⟨rfl, rfl⟩, rfl, trivial⟩
set_option maxRecDepth 100000 in
theorem match0 (a : Int) (n : Int) (h1 : 1 ≤ n) (h8 : n ≤ 8) (h : List Blk) : Does TB 210 [.agg zpmp, .s (.int .u64 a), .s (.int .i64 n)] h (fun v h' => v = .tuple [.s (.int .i64 (-1)), .s (.bool false)] ∧ h' = h) := by
  refine fnX_pure TB Tryz.func210 rfl (by decide) rfl _ rfl (fun O on => ?_) h
  repeat (refine need_intro (by first | exact fun h => h | exact nt | exact an2 | exact an3 | rfl | (simp; done) | fail) ?_)
  have g0 : decide (n < 1) = false := decide_eq_false (by omega)
  have g1 : decide (n > 8) = false := decide_eq_false (by omega)
  refine ifB_intro (fun g => by exfalso; rw [g0, g1] at g; cases g) (fun _ => ?_)
  refine loop_times on 17 ?_
  refine Box.mk ?_
  repeat (refine need_intro (by first | exact rfl | fail) ?_)
  refine (span0 0 (by decide) _).mono ?_
  rintro v h' ⟨rfl, rfl⟩
  refine Box.mk ?_
  repeat (refine need_intro (by first | exact rfl | fail) ?_)
  refine (span0 1 (by decide) _).mono ?_
  rintro v h' ⟨rfl, rfl⟩
  refine Box.mk ?_
  repeat (refine need_intro (by first | exact rfl | fail) ?_)
  refine (span0 2 (by decide) _).mono ?_
  rintro v h' ⟨rfl, rfl⟩
  refine Box.mk ?_
  repeat (refine need_intro (by first | exact rfl | fail) ?_)
  refine (span0 3 (by decide) _).mono ?_
  rintro v h' ⟨rfl, rfl⟩
  refine Box.mk ?_
  repeat (refine need_intro (by first | exact rfl | fail) ?_)
  refine (span0 4 (by decide) _).mono ?_
  rintro v h' ⟨rfl, rfl⟩
  refine Box.mk ?_
  repeat (refine need_intro (by first | exact rfl | fail) ?_)
  refine (span0 5 (by decide) _).mono ?_
  rintro v h' ⟨rfl, rfl⟩
  refine Box.mk ?_
  repeat (refine need_intro (by first | exact rfl | fail) ?_)
  refine (span0 6 (by decide) _).mono ?_
  rintro v h' ⟨rfl, rfl⟩
  refine Box.mk ?_
  repeat (refine need_intro (by first | exact rfl | fail) ?_)
  refine (span0 7 (by decide) _).mono ?_
  rintro v h' ⟨rfl, rfl⟩
  refine Box.mk ?_
  repeat (refine need_intro (by first | exact rfl | fail) ?_)
  refine (span0 8 (by decide) _).mono ?_
  rintro v h' ⟨rfl, rfl⟩
  refine Box.mk ?_
  repeat (refine need_intro (by first | exact rfl | fail) ?_)
  refine (span0 9 (by decide) _).mono ?_
  rintro v h' ⟨rfl, rfl⟩
  refine Box.mk ?_
  repeat (refine need_intro (by first | exact rfl | fail) ?_)
  refine (span0 10 (by decide) _).mono ?_
  rintro v h' ⟨rfl, rfl⟩
  refine Box.mk ?_
  repeat (refine need_intro (by first | exact rfl | fail) ?_)
  refine (span0 11 (by decide) _).mono ?_
  rintro v h' ⟨rfl, rfl⟩
  refine Box.mk ?_
  repeat (refine need_intro (by first | exact rfl | fail) ?_)
  refine (span0 12 (by decide) _).mono ?_
  rintro v h' ⟨rfl, rfl⟩
  refine Box.mk ?_
  repeat (refine need_intro (by first | exact rfl | fail) ?_)
  refine (span0 13 (by decide) _).mono ?_
  rintro v h' ⟨rfl, rfl⟩
  refine Box.mk ?_
  repeat (refine need_intro (by first | exact rfl | fail) ?_)
  refine (span0 14 (by decide) _).mono ?_
  rintro v h' ⟨rfl, rfl⟩
  refine Box.mk ?_
  repeat (refine need_intro (by first | exact rfl | fail) ?_)
  refine (span0 15 (by decide) _).mono ?_
  rintro v h' ⟨rfl, rfl⟩
  refine Box.mk ?_
  exact ⟨⟨rfl, rfl⟩, rfl, trivial⟩
set_option maxRecDepth 100000 in
theorem check0 (a : Int) (n b : Int) (h1 : 1 ≤ n) (h8 : n ≤ 8) (b1 : 1 ≤ b) (b7 : b ≤ 7) (h : List Blk) : Does TB 140 [.agg zpmp, .s (.int .i64 3), .s (.int .u64 a), .s (.int .i64 n), .s (.int .i64 b)] h (fun v h' => v = .s (.bool true) ∧ h' = h) := by
  refine fnX_pure TB Tryz.func140 rfl (by decide) rfl _ rfl (fun O on => ?_) h
  repeat (refine need_intro (by first | exact fun h => h | exact nt | exact an2 | exact an3 | rfl | (simp; done) | fail) ?_)
  have g0 : decide (n < 1) = false := decide_eq_false (by omega)
  have g1 : decide (n > 8) = false := decide_eq_false (by omega)
  have g2 : decide (b < 1) = false := decide_eq_false (by omega)
  have g3 : decide (b > 7) = false := decide_eq_false (by omega)
  refine ifB_intro (fun g => by exfalso; rw [g0, g1, g2, g3] at g; cases g) (fun _ => ?_)
  repeat (refine need_intro (by first | exact rfl | fail) ?_)
  refine (properP0 _).mono ?_
  rintro v h' ⟨rfl, rfl⟩
  repeat (refine need_intro (by first | exact rfl | fail) ?_)
  refine (match0 a n h1 h8 _).mono ?_
  rintro v h' ⟨rfl, rfl⟩
  exact rfl
end Go.Proofs.YtdlpmbghocabbaaGreatDoor

/- A small bus: eight bytes of RAM, all else as it begins. Contracts of functions. -/
namespace Go.Anv
open Go
/-- How a small bus lies: rooms of its lists; what stands behind their ends. -/
structure Small where
  cr : Nat
  ci : Nat
  co : Nat
  fi : Nat → Int
  fo : Nat → Int
def ramF : Nat → Int := litF [147, 0, 16, 0, 147, 128, 16, 0]
def bus0 (lock : Int) (r i o : SV) : List Seg :=
  [.one r, .one (.int .i64 0), .one (.int .i64 0), .one (.int .u32 0), .one (.int .u64 0), .one (.int .u64 0), .one (.int .i32 lock), .one (.int .u32 0), .one i, .one o,
    .one (.int .u8 0), .one (.int .u8 0), .one (.int .u8 0), .one (.int .u8 0), .one (.bool false), .one (.bool false), .one (.bool false)]
def Small.ram (x : Small) : Blk := .cells true [.ints .u8 8 ramF] (x.cr - 8)
def Small.inp (x : Small) : Blk := .cells true [.ints .u8 0 x.fi] x.ci
def Small.out (x : Small) : Blk := .cells true [.ints .u8 0 x.fo] x.co
def Small.bus (x : Small) (lock : Int) : Blk := .cells true (bus0 lock (.gs 1 0 8 x.cr) (.gs 2 0 0 x.ci) (.gs 3 0 0 x.co)) 0
def Small.h (x : Small) : List Blk := [x.bus 0, x.ram, x.inp, x.out]
/-- Behind what came in. -/
def Small.h2 (x : Small) (c : Nat) (f g : Nat → Int) : List Blk := [.cells true (bus0 0 (.gs 1 0 8 x.cr) (.gs 5 0 0 c) (.gs 3 0 0 x.co)) 0, x.ram, .dead, x.out, .cells true [.ints .u8 0 g] 0, .cells true [.ints .u8 0 f] c]
def Small.l (x : Small) : List Blk := [x.bus 1, x.ram, x.inp, x.out]
end Go.Anv
namespace Go.Proofs.YtdlpmbghocabbaaGreatDoor
open Go Go.Anv
set_option maxRecDepth 100000 in
theorem off0 (x : Small) : Does TB 69 [.s (.ptr 0 0)] x.h (fun v h' => v = .tuple [.s (.int .i64 0), .s (.int .i64 0)] ∧ h' = x.h) := by
  refine fnX_does TB Tryz.func69 rfl (by decide) (fun O on hO => ?_)
  refine draw_held on rfl (fun _ _ h => h) ?_
  repeat (refine need_intro (by first | exact fun h => h | exact nt | exact an2 | exact an3 | rfl | (simp; done) | fail) ?_)
  exact Ends.ro (H := x.h) rfl (eqvE_refl _) rfl
set_option maxRecDepth 100000 in
theorem raised0 (x : Small) : Does TB 192 [.s (.ptr 0 6)] x.l (fun v h' => v = .s (.bool false) ∧ h' = x.l) := by
  refine fnX_does TB Tryz.func192 rfl (by decide) (fun O on hO => ?_)
  repeat (refine need_intro (by first | exact fun h => h | exact nt | exact an2 | exact an3 | rfl | (simp; done) | fail) ?_)
  exact Ends.ro (H := x.l) rfl (eqvE_refl _) rfl
set_option maxRecDepth 100000 in
theorem up0 (x : Small) : Does TB 120 [.s (.ptr 0 6)] x.h (fun v h' => v = .s (.bool false) ∧ h' = x.h) := by
  refine fnXD_does TB Tryz.func120 rfl (by decide) (fun O on hO => ?_)
  refine (lock_spec (b := 0) (o := 6) rfl rfl rfl).mono ?_
  rintro _ h' ⟨rfl, hh⟩
  have hh : h' = x.l := hh
  subst hh
  refine ⟨⟨_, _, _, rfl⟩, fun O' on' hO' hle => ?_⟩
  refine Does.atc (raised0 x) [0, 1, 2, 3] rfl ⟨rfl, rfl, rfl, rfl, trivial⟩ (by decide) ?_
  repeat (refine need_intro (by first | exact fun h => h | exact nt | exact an2 | exact an3 | rfl | (simp; done) | fail) ?_)
  refine (unlock_spec (b := 0) (o := 6) rfl rfl rfl).mono ?_
  rintro _ h' ⟨_, hh⟩
  have hh : h' = x.h := hh
  subst hh
  exact Ends.ro (H := x.h) rfl (eqvE_refl _) rfl
set_option maxRecDepth 100000 in
theorem mip0 (x : Small) : Does TB 96 [.s (.ptr 0 0)] x.h (fun v h' => v = .s (.int .u64 128) ∧ h' = x.h) := by
  refine fnX_does TB Tryz.func96 rfl (by decide) (fun O on hO => ?_)
  repeat (refine need_intro (by first | exact fun h => h | exact nt | exact an2 | exact an3 | rfl | (simp; done) | fail) ?_)
  refine draw_held on rfl (fun _ _ h => h) ?_
  repeat (refine need_intro (by first | exact fun h => h | exact nt | exact an2 | exact an3 | rfl | (simp; done) | fail) ?_)
  refine Does.ungd (b := [_]) ⟨⟨rfl, rfl⟩, trivial⟩ ?_
  refine Does.atc (up0 x) [0, 1, 2, 3] rfl ⟨rfl, rfl, rfl, rfl, trivial⟩ (by decide) ?_
  repeat (refine need_intro (by first | exact fun h => h | exact nt | exact an2 | exact an3 | rfl | (simp; done) | fail) ?_)
  exact Ends.ro (H := x.h) rfl (eqvE_refl _) rfl
set_option maxRecDepth 100000 in
theorem join0 (x : Small) (g : Nat → Int) : Does TB 103 [.s (.ptr 0 6), .s (.gs 4 0 0 0)] (x.h ++ [.cells true [.ints .u8 0 g] 0]) (fun v h' => ∃ c f, v = .tuple [] ∧ h' = [.cells true (bus0 0 (.gs 1 0 8 x.cr) (.gs 5 0 0 c) (.gs 3 0 0 x.co)) 0, x.ram, .dead, x.out, .cells true [.ints .u8 0 g] 0, .cells true [.ints .u8 0 f] c]) := by
  refine fnXD_does TB Tryz.func103 rfl (by decide) (fun O on hO => ?_)
  refine (lock_spec (b := 0) (o := 6) rfl rfl rfl).mono ?_
  rintro _ h' ⟨rfl, hh⟩
  have hh : h' = x.l ++ [.cells true [.ints .u8 0 g] 0] := hh
  subst hh
  refine ⟨⟨_, _, _, rfl⟩, fun O' on' hO' hle => ?_⟩
  repeat (refine need_intro (by first | exact fun h => h | exact nt | exact an2 | exact an3 | rfl | (simp; done) | fail) ?_)
  refine draw_free on' rfl (fun _ _ h => h) ?_
  repeat (refine need_intro (by first | (decide) | exact fun h => h | exact nt | exact an2 | exact an3 | rfl | (simp; done) | fail) ?_)
  refine need_intro ⟨(show (0 : Nat) + (0 - 0) ≤ 0 by decide), rfl, by show x.ci * 1 = 0 * 1 + x.ci; omega, room5 _ (show (0 : Nat) ≤ 140737488355328 by decide)⟩ ?_
  intro c hc
  repeat (refine need_intro (by first | (decide) | exact fun h => h | exact nt | exact an2 | exact an3 | rfl | (simp; done) | fail) ?_)
  refine (unlock_spec (b := 0) (o := 6) rfl rfl rfl).mono ?_
  rintro _ h' ⟨_, hh⟩
  have hh : h' = [.cells true (bus0 0 (.gs 1 0 8 x.cr) (.gs 5 0 0 c) (.gs 3 0 0 x.co)) 0, x.ram, .dead, x.out, .cells true [.ints .u8 0 g] 0, .cells true [.ints .u8 0 (catF 0 x.fi (shf 0 g))] (c * 1)] := hh
  rw [Nat.mul_one] at hh
  subst hh
  exact ⟨_, _, [0, 1, 2, 3, 4, 5], ⟨c, _, rfl, rfl⟩, by decide, ⟨rfl, rfl, rfl, rfl, rfl, trivial⟩, trivial, ⟨⟨_, rfl, eqvB_refl _⟩, ⟨_, rfl, eqvB_refl _⟩, ⟨_, rfl, eqvB_refl _⟩, ⟨_, rfl, eqvB_refl _⟩, ⟨_, rfl, eqvB_refl _⟩, ⟨_, rfl, eqvB_refl _⟩, trivial⟩⟩
set_option maxRecDepth 100000 in
theorem begin0 (x : Small) (g : Nat → Int) : Does TB 71 [.s (.ptr 0 0), .agg [.one (.bool false), .one (.bool false), .one (.bool false), .one (.gs 4 0 0 0)]] (x.h ++ [.cells true [.ints .u8 0 g] 0]) (fun v h' => ∃ c f, v = .tuple [] ∧ h' = x.h2 c f g) := by
  refine fnX_does TB Tryz.func71 rfl (by decide) (fun O on hO => ?_)
  repeat (refine need_intro (by first | exact fun h => h | exact nt | exact an2 | exact an3 | rfl | (simp; done) | fail) ?_)
  refine draw_free on rfl (fun _ _ h => h) ?_
  repeat (refine need_intro (by first | exact fun h => h | exact nt | exact an2 | exact an3 | rfl | (simp; done) | fail) ?_)
  refine Does.at (join0 x g) [0, 1, 2, 3, 4] rfl ⟨rfl, rfl, rfl, rfl, rfl, trivial⟩ (by decide) ?_ ?_
  · rintro v h' ⟨_, _, _, rfl⟩
    exact ⟨.inl rfl, .inr (.inr rfl), .inr (.inl rfl), .inr (.inr rfl), .inr (.inr rfl), .inl rfl, trivial⟩
  rintro v h' ⟨c, f, rfl, rfl⟩
  rw [forceH_eq, forceE_eq]
  repeat (refine need_intro (by first | exact fun h => h | exact nt | exact an2 | exact an3 | rfl | (simp; done) | fail) ?_)
  refine draw_but [0] on rfl (fun _ _ h => h) ?_
  repeat (refine need_intro (by first | exact fun h => h | exact nt | exact an2 | exact an3 | rfl | (simp; done) | fail) ?_)
  exact ⟨_, _, [0, 1, 2, 3, 4, 6], ⟨c, f, rfl, rfl⟩, by decide, ⟨rfl, rfl, rfl, rfl, rfl, trivial⟩, trivial, ⟨⟨_, rfl, eqvB_refl _⟩, ⟨_, rfl, eqvB_refl _⟩, ⟨_, rfl, eqvB_refl _⟩, ⟨_, rfl, eqvB_refl _⟩, ⟨_, rfl, eqvB_refl _⟩, ⟨_, rfl, eqvB_refl _⟩, trivial⟩⟩
set_option maxRecDepth 100000 in
theorem holds0 (x : Small) (a : Int) (ha : a = 2147483648 ∨ a = 2147483650) : Does TB 193 [.s (.ptr 0 0), .s (.int .u64 a), .s (.int .i64 2)] x.h (fun v h' => v = .s (.bool true) ∧ h' = x.h) := by
  refine fnX_does TB Tryz.func193 rfl (by decide) (fun O on hO => ?_)
  rcases ha with rfl | rfl
  all_goals
    repeat (refine need_intro (by first | exact fun h => h | exact nt | exact an2 | exact an3 | rfl | (simp; done) | fail) ?_)
    exact Ends.ro (H := x.h) rfl rfl rfl
set_option maxRecDepth 100000 in
theorem isRam0 (x : Small) (a : Int) (ha : a = 2147483648 ∨ a = 2147483650) : Does TB 121 [.s (.ptr 0 0), .s (.int .u64 a), .s (.int .i64 2)] x.h (fun v h' => v = .s (.bool true) ∧ h' = x.h) := by
  refine fnX_does TB Tryz.func121 rfl (by decide) (fun O on hO => ?_)
  repeat (refine need_intro (by first | exact fun h => h | exact nt | exact an2 | exact an3 | rfl | (simp; done) | fail) ?_)
  refine Does.ungd (b := [.s (.ptr 0 0), .s (.int .u64 a), .s (.int .i64 2)]) ⟨⟨rfl, rfl⟩, ⟨rfl, rfl⟩, ⟨rfl, rfl⟩, trivial⟩ ?_
  refine Does.atc (holds0 x a ha) [0, 1, 2, 3] rfl ⟨rfl, rfl, rfl, rfl, trivial⟩ (by decide) ?_
  repeat (refine need_intro (by first | exact fun h => h | exact nt | exact an2 | exact an3 | rfl | (simp; done) | fail) ?_)
  exact Ends.ro (H := x.h) rfl rfl rfl
set_option maxRecDepth 100000 in
theorem here0 (x : Small) (a : Int) (ha : a = 2147483648 ∨ a = 2147483650) : Does TB 284 [.s (.ptr 0 0), .s (.int .u64 a), .s (.int .i64 2)] x.h (fun v h' => v = .s (.bool true) ∧ h' = x.h) := by
  refine fnX_does TB Tryz.func284 rfl (by decide) (fun O on hO => ?_)
  have hm : (a.tmod (IntKind.u64.wrap 2) == 0) = true := by rcases ha with rfl | rfl <;> decide
  repeat (refine need_intro (by first | (decide) | exact fun h => h | exact nt | exact an2 | exact an3 | rfl | (simp; done) | fail) ?_)
  refine ifB_intro (fun _ => ?_) (fun h => absurd (hm.symm.trans h) (by decide))
  refine Does.ungd (b := [.s (.ptr 0 0), .s (.int .u64 a), .s (.int .i64 2)]) ⟨⟨hm, rfl⟩, ⟨hm, rfl⟩, ⟨hm, rfl⟩, trivial⟩ ?_
  refine Does.atc (holds0 x a ha) [0, 1, 2, 3] rfl ⟨rfl, rfl, rfl, rfl, trivial⟩ (by decide) ?_
  repeat (refine need_intro (by first | exact hm | exact fun h => h | exact nt | exact an2 | exact an3 | rfl | (simp; done) | fail) ?_)
  refine ⟨_, _, [0, 1, 2, 3], ⟨rfl, rfl⟩, by decide, ⟨rfl, rfl, rfl, rfl, trivial⟩, ?_, ⟨⟨_, rfl, eqvB_refl _⟩, ⟨_, rfl, eqvB_refl _⟩, ⟨_, rfl, eqvB_refl _⟩, ⟨_, rfl, eqvB_refl _⟩, trivial⟩⟩
  show (bif (a.tmod (IntKind.u64.wrap 2) == 0) then true else false) = true
  rw [hm]; rfl
/-- The devices' list. -/
def devsB : Blk := .cells true [.one (.iface 264 false [.ptr 0 0]), .one (.iface 269 false [.ptr 0 1]), .one (.iface 270 false [.ptr 0 3]), .one (.iface 154 false [.ptr 0 6])] 0
set_option maxRecDepth 100000 in
theorem devices0 (x : Small) : Does TB 211 [.s (.ptr 0 0)] x.h (fun v h' => v = .s (.slice 4 0 4 4) ∧ h' = x.h ++ [devsB]) := by
  refine fnX_does TB Tryz.func211 rfl (by decide) (fun O on hO => ?_)
  refine draw_held on rfl (fun _ _ h => h) ?_
  repeat (refine need_intro (by first | exact fun h => h | exact nt | exact an2 | exact an3 | rfl | (simp; done) | fail) ?_)
  exact ⟨_, _, [0, 1, 2, 3, 4], ⟨rfl, rfl⟩, by decide, ⟨rfl, rfl, rfl, rfl, trivial⟩, eqvE_refl _, ⟨⟨_, rfl, eqvB_refl _⟩, ⟨_, rfl, eqvB_refl _⟩, ⟨_, rfl, eqvB_refl _⟩, ⟨_, rfl, eqvB_refl _⟩, ⟨_, rfl, eqvB_refl _⟩, trivial⟩⟩
set_option maxRecDepth 100000 in
theorem at0 (x : Small) (a : Int) (ha : a = 2147483648 ∨ a = 2147483650) : Does TB 142 [.s (.ptr 0 0), .s (.int .u64 a), .s (.int .i64 2)] x.h (fun v h' => v = .s (.iface 264 false [.ptr 0 0]) ∧ h' = x.h) := by
  refine fnX_does TB Tryz.func142 rfl (by decide) (fun O on hO => ?_)
  refine Does.at (devices0 x) [0, 1, 2, 3] rfl ⟨rfl, rfl, rfl, rfl, trivial⟩ (by decide) ?_ ?_
  · rintro v h' ⟨_, rfl⟩
    exact ⟨.inr (.inr rfl), .inr (.inr rfl), .inr (.inr rfl), .inr (.inr rfl), .inl rfl, trivial⟩
  rintro v h' ⟨rfl, rfl⟩
  rw [forceH_eq, forceE_eq]
  repeat (refine need_intro (by first | exact fun h => h | exact nt | exact an2 | exact an3 | rfl | (simp; done) | fail) ?_)
  refine loop_times on 1 ?_
  refine Box.mk ?_
  repeat (refine need_intro (by first | (decide) | exact fun h => h | exact nt | exact an2 | exact an3 | rfl | (simp; done) | fail) ?_)
  refine Does.atc (here0 x a ha) [0, 1, 2, 3] rfl ⟨rfl, rfl, rfl, rfl, trivial⟩ (by decide) ?_
  repeat (refine need_intro (by first | exact fun h => h | exact nt | exact an2 | exact an3 | rfl | (simp; done) | fail) ?_)
  exact ⟨_, _, [0, 1, 2, 3], ⟨rfl, rfl⟩, by decide, ⟨rfl, rfl, rfl, rfl, trivial⟩, eqvE_refl _, ⟨⟨_, rfl, eqvB_refl _⟩, ⟨_, rfl, eqvB_refl _⟩, ⟨_, rfl, eqvB_refl _⟩, ⟨_, rfl, eqvB_refl _⟩, trivial⟩⟩
set_option maxRecDepth 100000 in
theorem load0 (x : Small) (a : Int) (v : Int) (ha : a = 2147483648 ∧ v = 147 ∨ a = 2147483650 ∧ v = 16) : Does TB 285 [.s (.ptr 0 0), .s (.int .u64 a), .s (.int .i64 2)] x.h (fun r h' => r = .s (.int .u64 v) ∧ h' = x.h) := by
  refine fnX_does TB Tryz.func285 rfl (by decide) (fun O on hO => ?_)
  rcases ha with ⟨rfl, rfl⟩ | ⟨rfl, rfl⟩
  all_goals
    repeat (refine need_intro (by first | exact fun h => h | exact nt | exact an2 | exact an3 | rfl | (simp; done) | fail) ?_)
    refine loop_times on 3 ?_
    repeat (first | refine Box.mk ?_ | refine need_intro (by first | decide | fail) ?_)
    refine ⟨_, _, [0, 1, 2, 3], ⟨rfl, rfl⟩, by decide, ⟨rfl, rfl, rfl, rfl, trivial⟩, ?_, ⟨⟨_, rfl, eqvB_refl _⟩, ⟨_, rfl, eqvB_refl _⟩, ⟨_, rfl, eqvB_refl _⟩, ⟨_, rfl, eqvB_refl _⟩, trivial⟩⟩
    exact ⟨rfl, by decide⟩
set_option maxRecDepth 100000 in
theorem busLoad0 (x : Small) (a : Int) (v : Int) (ha : a = 2147483648 ∧ v = 147 ∨ a = 2147483650 ∧ v = 16) : Does TB 113 [.s (.ptr 0 0), .s (.int .u64 a), .s (.int .i64 2)] x.h (fun r h' => r = .tuple [.s (.int .u64 v), .s (.bool true)] ∧ h' = x.h) := by
  refine fnX_does TB Tryz.func113 rfl (by decide) (fun O on hO => ?_)
  refine Does.atc (at0 x a (by omega)) [0, 1, 2, 3] rfl ⟨rfl, rfl, rfl, rfl, trivial⟩ (by decide) ?_
  repeat (refine need_intro (by first | exact fun h => h | exact nt | exact an2 | exact an3 | rfl | (simp; done) | fail) ?_)
  refine Does.atc (load0 x a v ha) [0, 1, 2, 3] rfl ⟨rfl, rfl, rfl, rfl, trivial⟩ (by decide) ?_
  repeat (refine need_intro (by first | exact fun h => h | exact nt | exact an2 | exact an3 | rfl | (simp; done) | fail) ?_)
  exact Ends.ro (H := x.h) rfl (eqvE_refl _) rfl
end Go.Proofs.YtdlpmbghocabbaaGreatDoor

/- Memory protection: the range of an entry: plain specification, lemmas on bits. Plain definitions and lemmas. -/
namespace Go.Anv
open Go
def kindOf (c : B8) : Nat := (c >>> 3 &&& 3#8).toNat
/-- The range of an entry whose sixteen are proper. -/
def spanP (cfg : Nat → B8) (addr : Nat → B64) (i : Nat) : Option (B64 × B64) :=
  if kindOf (cfg i) = 1 then
    (if (if 0 < i then addr (i - 1) <<< 2 else 0#64) < addr i <<< 2 then some (if 0 < i then addr (i - 1) <<< 2 else 0#64, addr i <<< 2 - 1#64) else none)
  else if kindOf (cfg i) = 2 then some (addr i <<< 2, addr i <<< 2 + 3#64)
  else if kindOf (cfg i) = 3 then
    (if addr i = addrBits then some (0#64, 18446744073709551615#64)
     else some ((addr i &&& ~~~((addr i &&& ~~~(addr i + 1#64)) <<< 1 ||| 1#64)) <<< 2, (addr i &&& ~~~((addr i &&& ~~~(addr i + 1#64)) <<< 1 ||| 1#64)) <<< 2 + (((addr i &&& ~~~(addr i + 1#64)) <<< 1 ||| 1#64) <<< 2 ||| 3#64)))
  else none
def spanI (cfg : Nat → B8) (addr : Nat → B64) (i : Int) : Option (B64 × B64) := if i < 0 ∨ 15 < i then none else spanP (fun j => cfgOf (cfg j)) (fun j => addr j &&& addrBits) i.toNat
def spanE : Option (B64 × B64) → EV
  | none => .tuple [.s (.int .u64 0), .s (.int .u64 0), .s (.bool false)]
  | some (a, b) => .tuple [.s (.int .u64 a.toNat), .s (.int .u64 b.toNat), .s (.bool true)]
theorem spanE_noPtr (o : Option (B64 × B64)) : noPtr (spanE o) = true := by cases o <;> rfl
theorem addrBits_lt (a : B64) : (a &&& addrBits).toNat < 2 ^ 54 := by
  rw [BitVec.toNat_and]
  exact Nat.lt_of_le_of_lt Nat.and_le_right (by decide)
/-- The trailing ones. -/
theorem ones_bits {a : B64} {t : Nat} (ht : t < 54) (h : a.toNat % 2 ^ (t + 1) = 2 ^ t - 1) (ha : a.toNat < 2 ^ 54) : a &&& ~~~(a + 1#64) = BitVec.ofNat 64 (2 ^ t - 1) := by
  have hp : 2 ^ t < 2 ^ (t + 1) := Nat.pow_lt_pow_right (by decide) (by omega)
  have hp0 : 0 < 2 ^ t := Nat.pow_pos (by decide)
  have e : a.toNat = 2 ^ (t + 1) * (a.toNat / 2 ^ (t + 1)) + (2 ^ t - 1) := by rw [← h]; exact (Nat.div_add_mod _ _).symm
  have e1 : (a + 1#64).toNat = 2 ^ (t + 1) * (a.toNat / 2 ^ (t + 1)) + 2 ^ t := by
    rw [BitVec.toNat_add, show (1#64).toNat = 1 from rfl, Nat.mod_eq_of_lt (by omega)]
    omega
  apply BitVec.eq_of_getLsbD_eq
  intro j hj
  rw [BitVec.getLsbD_and, BitVec.getLsbD_not, BitVec.getLsbD_ofNat]
  have b1 : a.getLsbD j = (if j < t + 1 then (2 ^ t - 1).testBit j else (a.toNat / 2 ^ (t + 1)).testBit (j - (t + 1))) := by
    show a.toNat.testBit j = _
    conv => lhs; rw [e]
    exact Nat.testBit_two_pow_mul_add _ (by omega) j
  have b2 : (a + 1#64).getLsbD j = (if j < t + 1 then (2 ^ t).testBit j else (a.toNat / 2 ^ (t + 1)).testBit (j - (t + 1))) := by
    show (a + 1#64).toNat.testBit j = _
    rw [e1]
    exact Nat.testBit_two_pow_mul_add _ hp j
  rw [b1, b2, Nat.testBit_two_pow_sub_one, Nat.testBit_two_pow]
  rcases Nat.lt_trichotomy j t with h1 | h1 | h1
  · rw [if_pos (by omega), if_pos (by omega)]
    simp [h1, hj, show ¬ t = j by omega]
  · rw [if_pos (by omega), if_pos (by omega), decide_eq_false (p := j < t) (by omega)]
    simp
  · rw [if_neg (by omega), if_neg (by omega), decide_eq_false (p := j < t) (by omega)]
    cases (a.toNat / 2 ^ (t + 1)).testBit (j - (t + 1)) <;> simp
theorem low_bits {t : Nat} (ht : t < 54) : BitVec.ofNat 64 (2 ^ t - 1) <<< 1 ||| 1#64 = BitVec.ofNat 64 (2 ^ (t + 1) - 1) := by
  apply BitVec.eq_of_getLsbD_eq
  intro j hj
  rw [BitVec.getLsbD_or, BitVec.getLsbD_shiftLeft, BitVec.getLsbD_ofNat, BitVec.getLsbD_ofNat, BitVec.getLsbD_ofNat, Nat.testBit_two_pow_sub_one, Nat.testBit_two_pow_sub_one]
  cases j with
  | zero => simp
  | succ j =>
    have : Nat.testBit 1 (j + 1) = false := by rw [Nat.testBit_succ]; simp
    rw [this, decide_eq_true hj, decide_eq_true (show j + 1 - 1 < 64 by omega), decide_eq_false (show ¬ j + 1 < 1 by omega)]
    simp only [Nat.add_sub_cancel, Bool.not_false, Bool.true_and, Bool.and_false, Bool.or_false]
    exact decide_eq_decide.2 (by omega)
theorem clear_bits (a : B64) (k : Nat) (hk : k ≤ 63) : (a &&& ~~~(BitVec.ofNat 64 (2 ^ k - 1))).toNat = a.toNat / 2 ^ k * 2 ^ k := by
  have e : a &&& ~~~(BitVec.ofNat 64 (2 ^ k - 1)) = (a >>> k) <<< k := by
    apply BitVec.eq_of_getLsbD_eq
    intro j hj
    rw [BitVec.getLsbD_and, BitVec.getLsbD_not, BitVec.getLsbD_ofNat, Nat.testBit_two_pow_sub_one, BitVec.getLsbD_shiftLeft, BitVec.getLsbD_ushiftRight, decide_eq_true hj]
    by_cases h : j < k
    · rw [decide_eq_true h]; simp
    · rw [decide_eq_false h, show k + (j - k) = j by omega]; simp
  rw [e, BitVec.toNat_shiftLeft, BitVec.toNat_ushiftRight, Nat.shiftLeft_eq, Nat.shiftRight_eq_div_pow]
  have h1 : a.toNat / 2 ^ k * 2 ^ k ≤ a.toNat := Nat.div_mul_le_self _ _
  exact Nat.mod_eq_of_lt (by have := a.isLt; omega)
/-- The range of a power of two, as the document counts it. -/
theorem napot_nat {a : B64} {t : Nat} (ht : t < 54) (h : a.toNat % 2 ^ (t + 1) = 2 ^ t - 1) (ha : a.toNat < 2 ^ 54) :
    ((a &&& ~~~((a &&& ~~~(a + 1#64)) <<< 1 ||| 1#64)) <<< 2).toNat = 4 * a.toNat / (8 * 2 ^ t) * (8 * 2 ^ t) ∧
    ((a &&& ~~~((a &&& ~~~(a + 1#64)) <<< 1 ||| 1#64)) <<< 2 + (((a &&& ~~~(a + 1#64)) <<< 1 ||| 1#64) <<< 2 ||| 3#64)).toNat = 4 * a.toNat / (8 * 2 ^ t) * (8 * 2 ^ t) + (8 * 2 ^ t - 1) := by
  rw [ones_bits ht h ha, low_bits ht]
  have hp : 2 ^ (t + 1) = 2 * 2 ^ t := by rw [Nat.pow_succ]; omega
  have hp0 : 0 < 2 ^ t := Nat.pow_pos (by decide)
  have hpt : 2 ^ t ≤ 2 ^ 53 := Nat.pow_le_pow_right (by decide) (by omega)
  have hc := clear_bits a (t + 1) (by omega)
  have hq : 4 * a.toNat / (8 * 2 ^ t) = a.toNat / 2 ^ (t + 1) := by
    rw [hp, show 8 * 2 ^ t = 4 * (2 * 2 ^ t) by omega, Nat.mul_div_mul_left _ _ (by decide)]
  have hle : a.toNat / 2 ^ (t + 1) * 2 ^ (t + 1) ≤ a.toNat := Nat.div_mul_le_self _ _
  have h1 : ((a &&& ~~~(BitVec.ofNat 64 (2 ^ (t + 1) - 1))) <<< 2).toNat = 4 * a.toNat / (8 * 2 ^ t) * (8 * 2 ^ t) := by
    rw [BitVec.toNat_shiftLeft, hc, hq, Nat.shiftLeft_eq, Nat.mod_eq_of_lt (by omega), show 8 * 2 ^ t = 2 ^ (t + 1) * 4 by omega, ← Nat.mul_assoc]
  have hlow : (BitVec.ofNat 64 (2 ^ (t + 1) - 1)).toNat = 2 ^ (t + 1) - 1 := by
    rw [BitVec.toNat_ofNat, Nat.mod_eq_of_lt (by omega)]
  have h2 : (BitVec.ofNat 64 (2 ^ (t + 1) - 1) <<< 2 ||| 3#64).toNat = 8 * 2 ^ t - 1 := by
    rw [BitVec.toNat_or, BitVec.toNat_shiftLeft, hlow, show (3#64).toNat = 3 from rfl, Nat.mod_eq_of_lt (by rw [Nat.shiftLeft_eq]; omega), ← Nat.shiftLeft_add_eq_or_of_lt (by decide), Nat.shiftLeft_eq]
    omega
  refine ⟨h1, ?_⟩
  rw [BitVec.toNat_add, h1, h2, Nat.mod_eq_of_lt]
  rw [hq, show 8 * 2 ^ t = 2 ^ (t + 1) * 4 by omega, ← Nat.mul_assoc]
  have : a.toNat / 2 ^ (t + 1) * 2 ^ (t + 1) + 2 ^ (t + 1) ≤ 2 ^ 54 := by
    have h3 : a.toNat / 2 ^ (t + 1) < 2 ^ 54 / 2 ^ (t + 1) := by
      rw [Nat.div_lt_iff_lt_mul (by omega), Nat.div_mul_cancel (Nat.pow_dvd_pow 2 (by omega))]
      exact ha
    have h4 : (a.toNat / 2 ^ (t + 1) + 1) * 2 ^ (t + 1) ≤ 2 ^ 54 / 2 ^ (t + 1) * 2 ^ (t + 1) := Nat.mul_le_mul_right _ h3
    rw [Nat.div_mul_cancel (Nat.pow_dvd_pow 2 (by omega)), Nat.add_mul] at h4
    omega
  omega
end Go.Anv

/- Memory protection: contracts of the functions that tell an entry's range, the program's and the document's. No condition. -/
namespace Go.Anv
open Go
theorem kindOf_lt (c : B8) : kindOf c < 4 := by
  unfold kindOf
  rw [BitVec.toNat_and]
  exact Nat.lt_of_le_of_lt Nat.and_le_right (by decide)
theorem kind8 (c : B8) : IntKind.i64.wrap (bitX .and .u8 ((c.toNat : Int).fdiv (2 ^ min (Int.toNat 3) IntKind.u8.bits)) 3) = (kindOf c : Int) := by
  have h : (c.toNat : Int).fdiv (2 ^ min (Int.toNat 3) IntKind.u8.bits) = ((c >>> 3).toNat : Int) := fdiv_pow _ 3
  have hk := kindOf_lt c
  rw [h, and_u8, ofInt_toNat]
  exact i64_in (by omega) (by show ((kindOf c : Nat) : Int) ≤ _; omega)
theorem kind64 (c : B8) : bitX .and .i64 (IntKind.i64.wrap ((c.toNat : Int).fdiv (2 ^ min (Int.toNat 3) IntKind.u8.bits))) 3 = (kindOf c : Int) := by
  have h : (c.toNat : Int).fdiv (2 ^ min (Int.toNat 3) IntKind.u8.bits) = ((c >>> 3).toNat : Int) := fdiv_pow _ 3
  have hc := (c >>> 3).isLt
  have hk := kindOf_lt c
  rw [h, i64_in (by omega) (by omega), and_i64, BitVec.toInt_eq_toNat_of_lt]
  · rw [BitVec.toNat_and, BitVec.toNat_ofInt, kindOf, BitVec.toNat_and]
    have e1 : (((c >>> 3).toNat : Int) % ((2 ^ 64 : Nat) : Int)).toNat = (c >>> 3).toNat := by omega
    rw [e1]
    rfl
  · have : (BitVec.ofInt 64 ((c >>> 3).toNat : Int) &&& BitVec.ofInt 64 3).toNat ≤ 3 := by
      rw [BitVec.toNat_and]
      exact Nat.and_le_right
    omega
theorem add64 (a b : B64) : IntKind.u64.wrap ((a.toNat : Int) + (b.toNat : Int)) = ((a + b).toNat : Int) := by
  rw [wrap_u64, BitVec.ofInt_add, ofInt_toNat, ofInt_toNat]
theorem sub64 (a b : B64) : IntKind.u64.wrap ((a.toNat : Int) - (b.toNat : Int)) = ((a - b).toNat : Int) := by
  have ha := a.isLt
  have hb := b.isLt
  rw [wrap_u64, BitVec.toNat_ofInt, BitVec.toNat_sub]
  omega
theorem mul64 (a b : B64) : IntKind.u64.wrap ((a.toNat : Int) * (b.toNat : Int)) = ((a * b).toNat : Int) := by
  rw [wrap_u64, BitVec.ofInt_mul, ofInt_toNat, ofInt_toNat]
theorem mul4 (a : B64) : IntKind.u64.wrap (4 * (a.toNat : Int)) = ((a <<< 2).toNat : Int) := by
  refine (mul64 4#64 a).trans ?_
  rw [BitVec.toNat_mul, BitVec.toNat_shiftLeft, Nat.shiftLeft_eq, Nat.mul_comm]
  rfl
theorem shl2_lt {a b : B64} (ha : a.toNat < 2 ^ 54) (hb : b.toNat < 2 ^ 54) : a <<< 2 < b <<< 2 ↔ a.toNat < b.toNat := by
  rw [BitVec.lt_def, BitVec.toNat_shiftLeft, BitVec.toNat_shiftLeft, Nat.shiftLeft_eq, Nat.shiftLeft_eq, Nat.mod_eq_of_lt (by omega), Nat.mod_eq_of_lt (by omega)]
  omega
theorem wnat {x : Nat} (h : x < 2 ^ 64) : IntKind.u64.wrap (x : Int) = (x : Int) := by
  rw [wrap_u64, BitVec.toNat_ofInt]; omega
theorem shl64 (a : B64) (k : Nat) : IntKind.u64.wrap ((a.toNat : Int) * 2 ^ k) = ((a <<< k).toNat : Int) := by rw [wrap_u64, mul_pow]
end Go.Anv
namespace Go.Proofs.YtdlpmbghocabbaaGreatDoor
open Go Go.Anv
theorem kind_spec (c : B8) (h : List Blk) : Does TB 237 [.s (.int .u8 c.toNat)] h (fun v h' => v = .s (.int .i64 (kindOf c : Int)) ∧ h' = h) := by
  refine fnX_pure TB Tryz.func237 rfl (by decide) rfl _ rfl (fun O on => ?_) h
  refine need_intro (by decide) ?_
  exact ⟨rfl, kind8 c⟩
theorem span_spec (cfg : Nat → B8) (addr : Nat → B64) (i : Int) (h : List Blk) : Does TB 236 [.agg (pmpSeg cfg addr), .s (.int .i64 i)] h (fun v h' => v = spanE (spanI cfg addr i) ∧ h' = h) := by
  refine fnX_pure TB Tryz.func236 rfl (by decide) rfl _ (spanE_noPtr _) (fun O on => ?_) h
  repeat (refine need_intro (by first | exact fun h => h | (simp; done) | fail) ?_)
  refine ifB_intro (fun h1 => ?_) (fun h1 => ?_)
  · have : i < 0 ∨ 15 < i := by
      by_cases hi : i < 0
      · exact .inl hi
      · rw [decide_eq_false hi] at h1
        exact .inr (of_decide_eq_true h1)
    rw [spanI, if_pos this]
    exact eqvE_refl _
  have hi : 0 ≤ i ∧ i ≤ 15 := by
    by_cases hi : i < 0
    · rw [decide_eq_true hi] at h1; cases h1
    · rw [decide_eq_false hi] at h1
      have := of_decide_eq_false h1
      omega
  obtain ⟨n, rfl⟩ : ∃ n : Nat, i = (n : Int) := ⟨i.toNat, by omega⟩
  have hn : n < 16 := by omega
  rw [spanI, if_neg (by omega), Int.toNat_natCast]
  refine (properP_spec cfg addr _).mono ?_
  rintro _ _ ⟨rfl, rfl⟩
  generalize (fun j => cfgOf (cfg j)) = C
  generalize (fun j => addr j &&& addrBits) = A
  generalize ho : spanP C A n = o
  unfold spanP at ho
  repeat (refine need_intro (by first | rfl | (constructor <;> omega) | omega | fail) ?_)
  refine (kind_spec (C n) _).mono ?_
  rintro _ _ ⟨rfl, rfl⟩
  have hlt := kindOf_lt (C n)
  generalize hk : kindOf (C n) = k at hlt ho ⊢
  match k, hlt with
  | 0, _ =>
    subst ho
    exact eqvE_refl _
  | 1, _ =>
    rw [if_pos rfl] at ho
    refine ifB_intro (fun h2 => ?_) (fun h2 => ?_)
    · obtain ⟨m, rfl⟩ : ∃ m, n = m + 1 := ⟨n - 1, by have := of_decide_eq_true h2; omega⟩
      have hw : IntKind.i64.wrap (((m + 1 : Nat) : Int) - 1) = (m : Int) := by rw [i64_in (by omega) (by omega)]; omega
      refine need_intro (by rw [hw]; omega) ?_
      refine need_intro (by rw [hw, Int.toNat_natCast]; omega) ?_
      refine need_intro (by decide) ?_
      refine need_intro (by decide) ?_
      rw [hw]
      rw [if_pos (Nat.succ_pos m), Nat.add_sub_cancel] at ho
      have e1 : IntKind.u64.wrap (wfun A ((m + 1 : Nat) : Int).toNat * 2 ^ min (Int.toNat 2) IntKind.u64.bits) = ((A (m + 1) <<< 2).toNat : Int) := shl64 _ 2
      have e2 : IntKind.u64.wrap (wfun A ((m : Nat) : Int).toNat * 2 ^ min (Int.toNat 2) IntKind.u64.bits) = ((A m <<< 2).toNat : Int) := shl64 _ 2
      rw [e1, e2]
      refine ifB_intro (fun h3 => ?_) (fun h3 => ?_)
      · rw [gt_nat] at h3
        rw [if_pos (of_decide_eq_true h3)] at ho
        subst ho
        refine ⟨⟨rfl, rfl⟩, ⟨rfl, ?_⟩, ⟨rfl, trivial⟩⟩
        exact sub64 _ 1#64
      · rw [gt_nat] at h3
        rw [if_neg (of_decide_eq_false h3)] at ho
        subst ho
        exact eqvE_refl _
    · have h0 : n = 0 := by have := of_decide_eq_false h2; omega
      subst h0
      refine need_intro (by decide) ?_
      rw [if_neg (Nat.lt_irrefl 0)] at ho
      have e1 : IntKind.u64.wrap (wfun A ((0 : Nat) : Int).toNat * 2 ^ min (Int.toNat 2) IntKind.u64.bits) = ((A 0 <<< 2).toNat : Int) := shl64 _ 2
      rw [e1]
      refine ifB_intro (fun h3 => ?_) (fun h3 => ?_)
      · have h3 : 0#64 < A 0 <<< 2 := by have := of_decide_eq_true h3; rw [BitVec.lt_def]; simp only [BitVec.toNat_ofNat]; omega
        rw [if_pos h3] at ho
        subst ho
        refine ⟨⟨rfl, rfl⟩, ⟨rfl, ?_⟩, ⟨rfl, trivial⟩⟩
        exact sub64 _ 1#64
      · have h3 : ¬ 0#64 < A 0 <<< 2 := by have := of_decide_eq_false h3; rw [BitVec.lt_def]; simp only [BitVec.toNat_ofNat]; omega
        rw [if_neg h3] at ho
        subst ho
        exact eqvE_refl _
  | 2, _ =>
    refine need_intro (by decide) ?_
    refine need_intro (by decide) ?_
    have e1 : IntKind.u64.wrap (wfun A ((n : Nat) : Int).toNat * 2 ^ min (Int.toNat 2) IntKind.u64.bits) = ((A n <<< 2).toNat : Int) := shl64 _ 2
    rw [if_neg (by decide), if_pos rfl] at ho
    subst ho
    refine ⟨⟨rfl, e1⟩, ⟨rfl, ?_⟩, ⟨rfl, trivial⟩⟩
    rw [e1]; exact add64 _ 3#64
  | 3, _ =>
    rw [if_neg (by decide), if_neg (by decide), if_pos rfl] at ho
    refine ifB_intro (fun h2 => ?_) (fun h2 => ?_)
    · have h2 : A n = addrBits := by
        have h2 : (((A n).toNat : Int) == 18014398509481983) = true := h2
        rw [beq_lit _ _ (by decide) (by decide)] at h2
        exact eq_of_beq h2
      rw [if_pos h2] at ho
      subst ho
      exact eqvE_refl _
    · have h2 : ¬ A n = addrBits := by
        have h2 : (((A n).toNat : Int) == 18014398509481983) = false := h2
        rw [beq_lit _ _ (by decide) (by decide)] at h2
        exact ne_of_beq_false h2
      rw [if_neg h2] at ho
      subst ho
      repeat (refine need_intro (by decide) ?_)
      have a1 : IntKind.u64.wrap (((A n).toNat : Int) + 1) = ((A n + 1#64).toNat : Int) := add64 _ 1#64
      have hwf : wfun A ((n : Nat) : Int).toNat = ((A n).toNat : Int) := rfl
      have hm1 : min (Int.toNat 1) IntKind.u64.bits = 1 := by decide
      have hm2 : min (Int.toNat 2) IntKind.u64.bits = 2 := by decide
      refine ⟨⟨rfl, ?_⟩, ⟨rfl, ?_⟩, ⟨rfl, trivial⟩⟩ <;> simp only [hwf, a1, hm1, hm2, andNot_u64, or_u64, shl64, add64, ofInt_toNat, BitVec.reduceOfInt]
end Go.Proofs.YtdlpmbghocabbaaGreatDoor

/- Memory protection: which entry counts for an access; is a byte granted; the program's and the document's. No condition. -/
namespace Go.Anv
open Go
def inS : Option (B64 × B64) → B64 → Bool
  | none, _ => false
  | some (lo, hi), a => decide (lo ≤ a) && decide (a ≤ hi)
def cntS (S : Option (B64 × B64)) (a : B64) : Nat → Nat
  | 0 => 0
  | k + 1 => cntS S a k + (if inS S (a + BitVec.ofNat 64 k) = true then 1 else 0)
theorem cntS_le (S : Option (B64 × B64)) (a : B64) : ∀ k, cntS S a k ≤ k
  | 0 => Nat.le_refl _
  | k + 1 => by
    have := cntS_le S a k
    simp only [cntS]
    split <;> omega
theorem cntS_none (a : B64) : ∀ k, cntS none a k = 0
  | 0 => rfl
  | k + 1 => by simp only [cntS, cntS_none a k, inS]; rfl
/-- The first place from i on, k places long, at which f tells something. -/
def firstFrom {β : Type} (f : Nat → Option β) : Nat → Nat → Option β
  | 0, _ => none
  | k + 1, i => match f i with
    | some r => some r
    | none => firstFrom f k (i + 1)
def mtF (cfg : Nat → B8) (addr : Nat → B64) (a : B64) (n i : Nat) : Option (Nat × Bool) := if 0 < cntS (spanI cfg addr (i : Int)) a n then some (i, cntS (spanI cfg addr (i : Int)) a n == n) else none
def matchI (cfg : Nat → B8) (addr : Nat → B64) (a : B64) (size : Int) : Option (Nat × Bool) := if size < 1 ∨ 8 < size then none else firstFrom (mtF cfg addr a size.toNat) 16 0
def matchE : Option (Nat × Bool) → EV
  | none => .tuple [.s (.int .i64 (-1)), .s (.bool false)]
  | some (i, b) => .tuple [.s (.int .i64 (i : Int)), .s (.bool b)]
theorem matchE_noPtr (o : Option (Nat × Bool)) : noPtr (matchE o) = true := by rcases o with _ | ⟨i, b⟩ <;> rfl
theorem first_at {β : Type} {f : Nat → Option β} {k i : Nat} : firstFrom f (k + 1) i = (match f i with | some r => some r | none => firstFrom f k (i + 1)) := rfl
theorem firstFrom_lt {β : Type} {f : Nat → Option β} {P : β → Prop} (hf : ∀ i r, f i = some r → P r) : ∀ {k i : Nat} {r : β}, firstFrom f k i = some r → P r
  | 0, _, _, h => by cases h
  | k + 1, i, r, h => by
    rw [first_at] at h
    cases hi : f i with
    | some q => rw [hi] at h; simp only [Option.some.injEq] at h; subst h; exact hf i q hi
    | none => rw [hi] at h; exact firstFrom_lt hf h
theorem addk {a : B64} {k : Nat} (h : k < 2 ^ 64) : IntKind.u64.wrap ((a.toNat : Int) + IntKind.u64.wrap (k : Int)) = ((a + BitVec.ofNat 64 k).toNat : Int) := by
  rw [wnat h]
  have e : (k : Int) = ((BitVec.ofNat 64 k).toNat : Int) := by rw [BitVec.toNat_ofNat, Nat.mod_eq_of_lt h]
  rw [e, add64]
theorem int_beq (a b : Nat) : ((a : Int) == (b : Int)) = (a == b) := by
  rw [Bool.eq_iff_iff, beq_iff_eq, beq_iff_eq]; omega
theorem cond_and (a b : Bool) : (bif a then b else false) = (a && b) := by cases a <;> rfl
theorem mtF_lt {cfg : Nat → B8} {addr : Nat → B64} {a : B64} {n i : Nat} {r : Nat × Bool} (h : mtF cfg addr a n i = some r) : r.1 = i := by
  unfold mtF at h
  split at h
  · simp only [Option.some.injEq] at h; subst h; rfl
  · cases h
theorem first_lt {cfg : Nat → B8} {addr : Nat → B64} {a : B64} {n : Nat} : ∀ {k i : Nat} {r : Nat × Bool}, firstFrom (mtF cfg addr a n) k i = some r → r.1 < i + k
  | 0, _, _, h => by cases h
  | k + 1, i, r, h => by
    rw [first_at] at h
    cases hi : mtF cfg addr a n i with
    | some q => rw [hi] at h; simp only [Option.some.injEq] at h; subst h; have := mtF_lt hi; omega
    | none => rw [hi] at h; have := first_lt h; omega
theorem match_lt {cfg : Nat → B8} {addr : Nat → B64} {a : B64} {size : Int} {i : Nat} {b : Bool} (h : matchI cfg addr a size = some (i, b)) : i < 16 := by
  unfold matchI at h
  split at h
  · cases h
  · have := first_lt h; simpa using this
/-- Has a byte's entry one of these bits? -/
def grantI (cfg : Nat → B8) (addr : Nat → B64) (a : B64) (bits : Int) : Bool := match matchI (fun j => cfgOf (cfg j)) (fun j => addr j &&& addrBits) a 1 with
  | none => false
  | some (i, _) => bitX .and .i64 (bitX .and .i64 (IntKind.i64.wrap (bfun (fun j => cfgOf (cfg j)) i)) bits) 7 != 0
/-- Arguments that no access has. -/
def badI (mode size bits : Int) : Bool :=
  bif bif bif bif bif mode != 0 then mode != 3 else false then true else decide (size < 1) then true else decide (size > 8) then true else decide (bits < 1) then true else decide (bits > 7)
/-- Does an access pass? -/
def checkI (cfg : Nat → B8) (addr : Nat → B64) (mode : Int) (a : B64) (size bits : Int) : Bool :=
  if badI mode size bits = true then false else
  match matchI (fun j => cfgOf (cfg j)) (fun j => addr j &&& addrBits) a size with
  | none => mode == 3
  | some (i, all) => if all = false then false else if (mode == 3 && (cfgOf (cfg i)).getLsbD 7 == false) = true then true else bitX .and .i64 (IntKind.i64.wrap (bfun (fun j => cfgOf (cfg j)) i)) bits == bits
def lockA (cfg : Nat → B8) (i : Nat) : Bool := (cfg i).getLsbD 7
def lockT (cfg : Nat → B8) (i : Nat) : Bool := i < 15 && (cfg (i + 1)).getLsbD 7 && kindOf (cfg (i + 1)) == 1
theorem nt {b : Bool} (h : b = false) : (!b) = true := by rw [h]; rfl
theorem lock_bit (c : B8) : (bitX .and .u8 (c.toNat : Int) 128 == 0) = !c.getLsbD 7 := by
  rw [and_u8, ofInt_toNat, beq_lit _ _ (by decide) (by decide)]
  revert c; decide
theorem lock_bne (c : B8) : (bitX .and .u8 (c.toNat : Int) 128 != 0) = c.getLsbD 7 := by rw [bne, lock_bit, Bool.not_not]
end Go.Anv
namespace Go.Proofs.YtdlpmbghocabbaaGreatDoor
open Go Go.Anv
set_option maxRecDepth 100000 in
theorem match_spec (cfg : Nat → B8) (addr : Nat → B64) (a : B64) (size : Int) (h : List Blk) : Does TB 210 [.agg (pmpSeg cfg addr), .s (.int .u64 a.toNat), .s (.int .i64 size)] h (fun v h' => v = matchE (matchI cfg addr a size) ∧ h' = h) := by
  refine fnX_pure TB Tryz.func210 rfl (by decide) rfl _ (matchE_noPtr _) (fun O on => ?_) h
  repeat (refine need_intro (by first | exact fun h => h | (simp; done) | fail) ?_)
  refine ifB_intro (fun h1 => ?_) (fun h1 => ?_)
  · have : size < 1 ∨ 8 < size := by
      by_cases hi : size < 1
      · exact .inl hi
      · rw [decide_eq_false hi] at h1
        exact .inr (of_decide_eq_true h1)
    rw [matchI, if_pos this]
    exact eqvE_refl _
  have hi : 1 ≤ size ∧ size ≤ 8 := by
    by_cases hi : size < 1
    · rw [decide_eq_true hi] at h1; cases h1
    · rw [decide_eq_false hi] at h1
      have := of_decide_eq_false h1
      omega
  obtain ⟨n, rfl⟩ : ∃ n : Nat, size = (n : Int) := ⟨size.toNat, by omega⟩
  rw [matchI, if_neg (by omega), Int.toNat_natCast]
  generalize ho : firstFrom (mtF cfg addr a n) 16 0 = o
  refine loop_by (A := Nat) on (fun i => [(21, .s (.int .i64 (i : Int)))]) (fun _ => [.cells true (pmpSeg cfg addr) 0]) (fun i => i ≤ 16 ∧ firstFrom (mtF cfg addr a n) (16 - i) i = o) (fun i => 16 - i) 0 ⟨by omega, ho⟩ ?_ ?_
  · refine ⟨?_, eqvB_refl _, trivial⟩
    repeat' (first | exact eqvT_nil | refine eqvT_junk ?_ | refine eqvT_same ?_ | refine eqvT_int ?_ ?_)
  intro i ⟨hi16, hf⟩
  refine ifB_intro (fun h2 => ?_) (fun h2 => ?_)
  · have hlt : i < 16 := by have := of_decide_eq_true h2; omega
    rw [show 16 - i = (16 - (i + 1)) + 1 by omega, first_at] at hf
    refine (span_spec cfg addr (i : Int) _).mono ?_
    rintro _ _ ⟨rfl, rfl⟩
    have next : ∀ {P : Prop}, mtF cfg addr a n i = none → (firstFrom (mtF cfg addr a n) (16 - (i + 1)) (i + 1) = o → P) → P := fun h1 h2 => h2 (by rw [h1] at hf; exact hf)
    cases hs : spanI cfg addr (i : Int) with
    | none =>
      refine next (by unfold mtF; rw [hs, cntS_none]; rfl) (fun hf => ?_)
      refine ⟨i + 1, ⟨hlt, hf⟩, by simp only; omega, ?_⟩
      refine ⟨?_, eqvB_refl _, trivial⟩
      repeat' (first | exact eqvT_nil | refine eqvT_junk ?_ | refine eqvT_same ?_ | refine eqvT_int ?_ ?_)
      rw [i64_in (by omega) (by omega)]; omega
    | some p =>
      obtain ⟨lo, up⟩ := p
      refine loop_by (A := Nat) on (fun k => [(12, .s (.int .i64 ((cntS (some (lo, up)) a k : Nat) : Int))), (34, .s (.int .i64 (k : Int)))]) (fun _ => [.cells true (pmpSeg cfg addr) 0]) (fun k => k ≤ n) (fun k => n - k) 0 (Nat.zero_le _) ?_ ?_
      · refine ⟨?_, eqvB_refl _, trivial⟩
        repeat' (first | exact eqvT_nil | refine eqvT_junk ?_ | refine eqvT_same ?_ | refine eqvT_int ?_ ?_)
      intro k hk
      have hc := cntS_le (some (lo, up)) a k
      refine ifB_intro (fun h3 => ?_) (fun h3 => ?_)
      · have hkn : k < n := by have := of_decide_eq_true h3; omega
        repeat (refine need_intro (by first | exact fun h => h | (simp; done) | fail) ?_)
        have hcond : (bif decide (IntKind.u64.wrap ((a.toNat : Int) + IntKind.u64.wrap (k : Int)) ≥ (lo.toNat : Int)) then decide (IntKind.u64.wrap ((a.toNat : Int) + IntKind.u64.wrap (k : Int)) ≤ (up.toNat : Int)) else false) = inS (some (lo, up)) (a + BitVec.ofNat 64 k) := by
          rw [addk (by omega), ge_nat, le_nat]
          exact cond_and _ _
        rw [hcond]
        refine ifB_intro (fun h4 => ?_) (fun h4 => ?_)
        · refine ⟨k + 1, hkn, by simp only; omega, ?_⟩
          refine ⟨?_, eqvB_refl _, trivial⟩
          repeat' (first | exact eqvT_nil | refine eqvT_junk ?_ | refine eqvT_same ?_ | refine eqvT_int ?_ ?_)
          · rw [i64_in (by omega) (by omega), cntS, if_pos h4]; omega
          · rw [i64_in (by omega) (by omega)]; omega
        · refine ⟨k + 1, hkn, by simp only; omega, ?_⟩
          refine ⟨?_, eqvB_refl _, trivial⟩
          repeat' (first | exact eqvT_nil | refine eqvT_junk ?_ | refine eqvT_same ?_ | refine eqvT_int ?_ ?_)
          · rw [cntS, if_neg (by rw [h4]; decide)]; omega
          · rw [i64_in (by omega) (by omega)]; omega
      · have hkn : k = n := by have := of_decide_eq_false h3; omega
        subst hkn
        refine ifB_intro (fun h4 => ?_) (fun h4 => ?_)
        · have h4 : 0 < cntS (some (lo, up)) a k := by have := of_decide_eq_true h4; omega
          have e : mtF cfg addr a k i = some (i, cntS (some (lo, up)) a k == k) := by unfold mtF; rw [hs, if_pos h4]
          rw [e] at hf
          have hf : some (i, cntS (some (lo, up)) a k == k) = o := hf
          subst hf
          refine ⟨⟨rfl, rfl⟩, ⟨?_, trivial⟩⟩
          exact int_beq _ _
        · have h4 : ¬ 0 < cntS (some (lo, up)) a k := by have := of_decide_eq_false h4; omega
          refine next (by unfold mtF; rw [hs, if_neg h4]) (fun hf => ?_)
          refine ⟨i + 1, ⟨hlt, hf⟩, by simp only; omega, ?_⟩
          refine ⟨?_, eqvB_refl _, trivial⟩
          repeat' (first | exact eqvT_nil | refine eqvT_junk ?_ | refine eqvT_same ?_ | refine eqvT_int ?_ ?_)
          rw [i64_in (by omega) (by omega)]; omega
  · have h2 : i = 16 := by have := of_decide_eq_false h2; omega
    subst h2
    have hf : none = o := hf
    subst hf
    exact eqvE_refl _
theorem pcheck_spec (cfg : Nat → B8) (addr : Nat → B64) (mode : Int) (a : B64) (size bits : Int) (h : List Blk) : Does TB 140 [.agg (pmpSeg cfg addr), .s (.int .i64 mode), .s (.int .u64 a.toNat), .s (.int .i64 size), .s (.int .i64 bits)] h (fun v h' => v = .s (.bool (checkI cfg addr mode a size bits)) ∧ h' = h) := by
  refine fnX_pure TB Tryz.func140 rfl (by decide) rfl _ rfl (fun O on => ?_) h
  repeat (refine need_intro (by first | exact fun h => h | exact nt | (simp; done) | fail) ?_)
  unfold checkI
  refine ifB_intro (fun h1 => ?_) (fun h1 => ?_)
  · have h1 : badI mode size bits = true := h1
    rw [if_pos h1]
    exact rfl
  have h1 : badI mode size bits = false := h1
  rw [if_neg (by rw [h1]; decide)]
  refine (properP_spec cfg addr _).mono ?_
  rintro _ _ ⟨rfl, rfl⟩
  refine need_intro rfl ?_
  refine (match_spec _ _ a size _).mono ?_
  rintro _ _ ⟨rfl, rfl⟩
  generalize hm : matchI (fun j => cfgOf (cfg j)) (fun j => addr j &&& addrBits) a size = m
  cases m with
  | none =>
    exact rfl
  | some p =>
    obtain ⟨i, b⟩ := p
    have hi := match_lt hm
    cases b with
    | false => exact rfl
    | true =>
      repeat (refine need_intro (by first | exact fun h => h | exact nt | exact fun _ => (by omega) | exact fun _ => ⟨by omega, by omega⟩ | (simp; done) | fail) ?_)
      have hc : (bif mode == 3 then bitX .and .u8 (bfun (fun j => cfgOf (cfg j)) (i : Int).toNat) 128 == 0 else false) = (mode == 3 && (cfgOf (cfg i)).getLsbD 7 == false) := by
        have e : (bitX .and .u8 (bfun (fun j => cfgOf (cfg j)) (i : Int).toNat) 128 == 0) = !(cfgOf (cfg i)).getLsbD 7 := lock_bit _
        rw [e, cond_and]
        cases (cfgOf (cfg i)).getLsbD 7 <;> rfl
      rw [hc]
      refine ifB_intro (fun h2 => ?_) (fun h2 => ?_)
      · show true = if true = false then false else if (mode == 3 && (cfgOf (cfg i)).getLsbD 7 == false) = true then true else _
        rw [if_pos h2]; rfl
      · repeat (refine need_intro (by first | omega | exact ⟨by omega, by omega⟩ | fail) ?_)
        show _ = if true = false then false else if (mode == 3 && (cfgOf (cfg i)).getLsbD 7 == false) = true then true else _
        rw [h2]; rfl
theorem plocked_spec (cfg : Nat → B8) (addr : Nat → B64) (i : Nat) (hi : i < 16) (h : List Blk) : Does TB 216 [.agg (pmpSeg cfg addr), .s (.int .i64 (i : Int))] h (fun v h' => v = .tuple [.s (.bool (lockA cfg i)), .s (.bool (lockA cfg i || lockT cfg i))] ∧ h' = h) := by
  refine fnX_pure TB Tryz.func216 rfl (by decide) rfl _ rfl (fun O on => ?_) h
  repeat (refine need_intro (by first | exact fun h => h | exact nt | (simp; done) | fail) ?_)
  refine ifB_intro (fun h1 => absurd h1 (by rw [decide_eq_false (show ¬ ((i : Nat) : Int) < 0 by omega), decide_eq_false (show ¬ ((i : Nat) : Int) > 15 by omega)]; decide)) (fun h1 => ?_)
  rcases Nat.lt_or_ge i 15 with h15 | h15
  · have hw : IntKind.i64.wrap ((i : Int) + 1) = ((i + 1 : Nat) : Int) := by rw [i64_in (by omega) (by omega)]; omega
    repeat (refine need_intro (by first | omega | exact ⟨by omega, by omega⟩ | exact fun h => h | exact nt | (intro _; rw [hw]; omega) | (intro _; rw [hw, Int.toNat_natCast]; omega) | (simp; done) | fail) ?_)
    have hc : (bif decide ((i : Int) < 15) then bitX .and .u8 (bfun cfg (IntKind.i64.wrap ((i : Int) + 1)).toNat) 128 != 0 else false) = (cfg (i + 1)).getLsbD 7 := by
      rw [hw, Int.toNat_natCast, decide_eq_true (by omega)]
      exact lock_bne _
    have hT : lockT cfg i = ((cfg (i + 1)).getLsbD 7 && kindOf (cfg (i + 1)) == 1) := by
      unfold lockT; rw [decide_eq_true h15]; rfl
    have hA : (bitX .and .u8 (bfun cfg (i : Int).toNat) 128 != 0) = lockA cfg i := lock_bne _
    refine ifB_intro (fun h2 => ?_) (fun h2 => ?_)
    · refine Does.ungd (b := [.s (.int .u8 ((cfg (i + 1)).toNat : Int))]) ⟨⟨h2, ?_⟩, trivial⟩ ?_
      · rw [hw, Int.toNat_natCast]; rfl
      refine (kind_spec (cfg (i + 1)) _).mono ?_
      rintro _ _ ⟨rfl, rfl⟩
      repeat (refine need_intro (by first | exact fun h => h | exact nt | (simp; done) | fail) ?_)
      refine ⟨hA, ?_, trivial⟩
      show (bif (bitX .and .u8 (bfun cfg (i : Int).toNat) 128 != 0) then true else bif (bif decide ((i : Int) < 15) then bitX .and .u8 (bfun cfg (IntKind.i64.wrap ((i : Int) + 1)).toNat) 128 != 0 else false) then ((kindOf (cfg (i + 1)) : Nat) : Int) == ((1 : Nat) : Int) else false) = (lockA cfg i || lockT cfg i)
      rw [hA, hc, hT, cond_and, int_beq]
      cases lockA cfg i <;> rfl
    · refine ifB_intro (fun h => absurd (h.symm.trans h2) (by decide)) (fun _ => ?_)
      repeat (refine need_intro (by first | exact fun h => h | exact nt | exact h2 | (simp; done) | fail) ?_)
      rw [hc] at h2
      refine ⟨hA, ?_, trivial⟩
      have hf : lockT cfg i = false := by rw [hT, h2]; rfl
      rw [hf]
      show (bif (bitX .and .u8 (bfun cfg (i : Int).toNat) 128 != 0) then true else false) = (lockA cfg i || false)
      rw [hA]
      cases lockA cfg i <;> rfl
  · have h15 : i = 15 := by omega
    subst h15
    repeat (refine need_intro (by first | omega | exact ⟨by omega, by omega⟩ | exact fun h => h | exact nt | (simp; done) | fail) ?_)
    have hA : (bitX .and .u8 (bfun cfg ((15 : Nat) : Int).toNat) 128 != 0) = lockA cfg 15 := lock_bne _
    refine ⟨hA, ?_, trivial⟩
    show (bif (bitX .and .u8 (bfun cfg ((15 : Nat) : Int).toNat) 128 != 0) then true else false) = (lockA cfg 15 || false)
    rw [hA]
    cases lockA cfg 15 <;> rfl
end Go.Proofs.YtdlpmbghocabbaaGreatDoor

/- Strings of bytes compared. Plain lemmas, contracts of functions. No condition. -/
namespace Go.Anv
open Go
def eqB (n : Nat) (p q : Nat → B8) : Bool := (List.range n).all fun j => p j == q j
theorem bytesOf_list (n : Nat) (f : Nat → Int) : (bytesOf n f).data.toList = (List.range n).map fun j => UInt8.ofNat (f j).toNat := by
  have key : ∀ (l : List Int) (r : ByteArray), (l.foldl (fun r x => r.push (UInt8.ofNat x.toNat)) r).data.toList = r.data.toList ++ l.map fun x => UInt8.ofNat x.toNat := by
    intro l
    induction l with
    | nil => intro r; simp
    | cons x l ih =>
      intro r
      rw [List.foldl_cons, ih]
      obtain ⟨d⟩ := r
      simp [ByteArray.push]
  unfold bytesOf
  rw [key, List.map_map]
  rfl
theorem map_beq {α β : Type} [BEq β] (F G : α → β) : ∀ l : List α, (l.map F == l.map G) = l.all fun x => F x == G x
  | [] => rfl
  | x :: l => by
    simp only [List.map_cons, List.all_cons]
    rw [← map_beq F G l]
    rfl
theorem u8_beq (a b : B8) : (UInt8.ofNat a.toNat == UInt8.ofNat b.toNat) = (a == b) := by
  rw [Bool.eq_iff_iff, beq_iff_eq, beq_iff_eq]
  constructor
  · intro h
    have h2 := congrArg UInt8.toNat h
    simp only [UInt8.toNat_ofNat'] at h2
    have ha := a.isLt
    have hb := b.isLt
    apply BitVec.eq_of_toNat_eq
    omega
  · rintro rfl; rfl
theorem bytes_beq {n : Nat} {f g : Nat → Int} {p q : Nat → B8} (hf : ∀ j, j < n → f j = (p j).toNat) (hg : ∀ j, j < n → g j = (q j).toNat) : (bytesOf n f == bytesOf n g) = eqB n p q := by
  rw [beq_toListBytes, ByteArray.toList_eq, ByteArray.toList_eq, bytesOf_list, bytesOf_list, map_beq]
  unfold eqB
  rw [Bool.eq_iff_iff, List.all_eq_true, List.all_eq_true]
  constructor
  · intro h j hj
    have h1 := h j hj
    rw [hf j (List.mem_range.1 hj), hg j (List.mem_range.1 hj)] at h1
    rw [← u8_beq]; exact h1
  · intro h j hj
    have h1 := h j hj
    rw [hf j (List.mem_range.1 hj), hg j (List.mem_range.1 hj)]
    rw [← u8_beq] at h1; exact h1
end Go.Anv
namespace Go.Proofs.YtdlpmbghocabbaaGreatDoor
open Go Go.Anv
set_option maxRecDepth 100000 in
theorem equal_spec (m1 m2 : Bool) (o1 o2 n c1 c2 k1 k2 s1 s2 : Nat) (f1 f2 : Nat → Int) (p q : Nat → B8) (h1 : o1 + n ≤ k1) (h2 : o2 + n ≤ k2) (hf : ∀ j, j < n → f1 (o1 + j) = (p j).toNat) (hg : ∀ j, j < n → f2 (o2 + j) = (q j).toNat) :
    Does TB 76 [.s (.gs 0 o1 n c1), .s (.gs 1 o2 n c2)] [.cells m1 [.ints .u8 k1 f1] s1, .cells m2 [.ints .u8 k2 f2] s2] (fun v h' => v = .s (.bool (eqB n p q)) ∧ h' = [.cells m1 [.ints .u8 k1 f1] s1, .cells m2 [.ints .u8 k2 f2] s2]) := by
  refine fnX_does TB Tryz.func76 rfl (by decide) (fun O on hO => ?_)
  refine need_intro h1 ?_
  refine need_intro h2 ?_
  refine ⟨_, _, [0, 1], ⟨rfl, rfl⟩, by decide, ⟨rfl, rfl, trivial⟩, ?_, ⟨⟨_, rfl, eqvB_refl _⟩, ⟨_, rfl, eqvB_refl _⟩, trivial⟩⟩
  exact bytes_beq hf hg
end Go.Proofs.YtdlpmbghocabbaaGreatDoor

/- Watching: two buses but for their RAM, the program's and the document's. No condition but the lists' lengths. -/
namespace Go.Anv
open Go
theorem eqB_pre {n : Nat} {p q : Nat → B8} (h : eqB n p q = true) : ∀ j, j < n → p j = q j := fun j hj => by
  unfold eqB at h
  exact eq_of_beq (List.all_eq_true.1 h j (List.mem_range.2 hj))
theorem eqB_of {n : Nat} {p q : Nat → B8} (h : ∀ j, j < n → p j = q j) : eqB n p q = true := by
  unfold eqB
  exact List.all_eq_true.2 fun j hj => beq_iff_eq.2 (h j (List.mem_range.1 hj))
theorem eqB_not {n : Nat} {p q : Nat → B8} {j : Nat} (hj : j < n) (h : p j ≠ q j) : eqB n p q = false := by
  rw [Bool.eq_false_iff]
  exact fun e => h (eqB_pre e j hj)
theorem bytesOf_len (n : Nat) (f : Nat → Int) : (bytesOf n f).data.toList.length = n := by rw [bytesOf_list]; simp
theorem bytes_beq2 {n1 n2 : Nat} (p q : Nat → B8) : (bytesOf n1 (shf 0 (bfun p)) == bytesOf n2 (shf 0 (bfun q))) = (n1 == n2 && eqB n1 p q) := by
  by_cases h : n1 = n2
  · subst h
    rw [bytes_beq (p := p) (q := q) (fun j _ => by show bfun p (0 + j) = _; rw [Nat.zero_add]; rfl) (fun j _ => by show bfun q (0 + j) = _; rw [Nat.zero_add]; rfl)]
    simp
  · rw [beq_eq_false_iff_ne.2 h, Bool.false_and, Bool.eq_false_iff]
    intro e
    have e := (MapKept.bytes_beq _ _).1 e
    have := congrArg (fun b : ByteArray => b.data.toList.length) e
    simp only [bytesOf_len] at this
    exact h this
end Go.Anv
namespace Go.Proofs.YtdlpmbghocabbaaGreatDoor
open Go Go.Anv
set_option maxRecDepth 100000 in
theorem equal2_spec (m1 m2 : Bool) (n1 n2 c1 c2 s1 s2 : Nat) (p q : Nat → B8) :
    Does TB 76 [.s (.gs 0 0 n1 c1), .s (.gs 1 0 n2 c2)] [bblk m1 n1 p s1, bblk m2 n2 q s2] (fun v h' => v = .s (.bool (n1 == n2 && eqB n1 p q)) ∧ h' = [bblk m1 n1 p s1, bblk m2 n2 q s2]) := by
  refine fnX_does TB Tryz.func76 rfl (by decide) (fun O on hO => ?_)
  refine need_intro (by omega) ?_
  refine need_intro (by omega) ?_
  refine ⟨_, _, [0, 1], ⟨rfl, rfl⟩, by decide, ⟨rfl, rfl, trivial⟩, ?_, ⟨⟨_, rfl, eqvB_refl _⟩, ⟨_, rfl, eqvB_refl _⟩, trivial⟩⟩
  exact bytes_beq2 p q
end Go.Proofs.YtdlpmbghocabbaaGreatDoor

/- Watching: two buses but for their RAM; all of two buses. No condition but the lists' lengths. -/
namespace Go.Anv
open Go
/-- Two buses are the same but for their RAM. -/
def devS (s t : BusV) (l k : Lists) : Bool :=
  (s.ni == t.ni && eqB s.ni l.inp k.inp) && (s.no == t.no && eqB s.no l.out k.out) && s.msip == t.msip && s.cmp == t.cmp && s.now == t.now && s.ext == t.ext && s.soft == t.soft &&
    s.ier == t.ier && s.lcr == t.lcr && s.mcr == t.mcr && s.scratch == t.scratch && s.overrun == t.overrun && s.off == t.off && s.code == t.code
theorem cond_or (a b : Bool) : (bif a then true else b) = (a || b) := by cases a <;> rfl
end Go.Anv
namespace Go.Proofs.YtdlpmbghocabbaaGreatDoor
open Go Go.Anv
end Go.Proofs.YtdlpmbghocabbaaGreatDoor

/- Watching: all of two buses is the same (the document's); a copy of a bus. No condition but the lists' lengths. -/
namespace Go.Anv
open Go
def busS (s t : BusV) (l k : Lists) : Bool := (s.nr == t.nr && eqB s.nr l.ram k.ram) && devS s t l k
end Go.Anv
namespace Go.Proofs.YtdlpmbghocabbaaGreatDoor
open Go Go.Anv
end Go.Proofs.YtdlpmbghocabbaaGreatDoor

/- Watching: a copy of a whole; two wholes the same; the law's helpers. No condition but the lists' lengths. -/
namespace Go.Anv
open Go
/-- Are two Cpus the same? -/
def cpuS (c d : CpuV) : Bool := match eqSeg c.segs d.segs with
  | some b => b
  | none => false
def wholeS (c d : CpuV) (s t : BusV) (l k : Lists) : Bool := cpuS c d && busS s t l k
end Go.Anv
namespace Go.Proofs.YtdlpmbghocabbaaGreatDoor
open Go Go.Anv
end Go.Proofs.YtdlpmbghocabbaaGreatDoor

/- Watching: do two wholes look the same from U: the program's and the document's. No condition but the lists' lengths. -/
namespace Go.Anv
open Go
/-- RAM differs where neither R nor X is granted alone. -/
def seeN (c : CpuV) (l k : Lists) (j : Nat) : Bool := k.ram j != l.ram j && grantI c.proper.cfg c.proper.addr (0x80000000#64 + BitVec.ofNat 64 j) 5
def agreeS (c d : CpuV) (s t : BusV) (l k : Lists) : Bool := cpuS c.proper d.proper && devS s t l k && s.nr == t.nr && (List.range s.nr).all fun j => !seeN c l k j
theorem agree_no {c d : CpuV} {s t : BusV} {l k : Lists} {j : Nat} (hj : j < s.nr) (h : seeN c l k j = true) : agreeS c d s t l k = false := by
  unfold agreeS
  rw [Bool.and_eq_false_iff]
  right
  rw [Bool.eq_false_iff]
  intro e
  have := List.all_eq_true.1 e j (List.mem_range.2 hj)
  rw [h] at this
  cases this
theorem agree_yes {c d : CpuV} {s t : BusV} {l k : Lists} (h1 : cpuS c.proper d.proper = true) (h2 : devS s t l k = true) (h3 : s.nr = t.nr) (h : ∀ j, j < s.nr → seeN c l k j = false) : agreeS c d s t l k = true := by
  unfold agreeS
  rw [h1, h2, h3, beq_self_eq_true, Bool.true_and, Bool.true_and, Bool.true_and]
  exact List.all_eq_true.2 fun j hj => by rw [h j (by rw [h3]; exact List.mem_range.1 hj)]; rfl
end Go.Anv
namespace Go.Proofs.YtdlpmbghocabbaaGreatDoor
open Go Go.Anv
end Go.Proofs.YtdlpmbghocabbaaGreatDoor

/- Watching: one step as it was seen: its values, its block, the small questions asked of it. No condition: contracts of functions. -/
namespace Go.Anv
open Go
structure RowV where
  step : Int
  kind : Int
  mode : Int
  pc : B64
  raw : B32
  len : Int
  cause : B64
  tval : B64
  rd : Int
  val : B64
  mem : Int
  addr : B64
  size : Int
  data : B64
  next : B64
  nextMode : Int
/-- The cells of api.Row. -/
def RowV.svs (r : RowV) : List SV :=
  [.int .i64 r.step, .int .i64 r.kind, .int .i64 r.mode, .int .u64 r.pc.toNat, .int .u32 r.raw.toNat, .int .i64 r.len, .int .u64 r.cause.toNat, .int .u64 r.tval.toNat, .int .i64 r.rd, .int .u64 r.val.toNat, .int .i64 r.mem, .int .u64 r.addr.toNat, .int .i64 r.size, .int .u64 r.data.toNat, .int .u64 r.next.toNat, .int .i64 r.nextMode]
def RowV.segs (r : RowV) : List Seg := r.svs.map .one
/-- What a step showed: the wholes (c, s; d, t), the Cpu behind as it was handed in (e), the world, the row; the lists' rooms. -/
structure Sc where
  c : CpuV
  d : CpuV
  e : CpuV
  s : BusV
  t : BusV
  l : Lists
  k : Lists
  tick : Bool
  ext : Bool
  soft : Bool
  nw : Nat
  mw : Bool
  sw : Nat
  w : Nat → B8
  r : RowV
  c0 : Nat
  c1 : Nat
  c2 : Nat
  c3 : Nat
  c4 : Nat
  c5 : Nat
  cw : Nat
def Sc.lists (z : Sc) : List Blk := [bblk z.l.mr z.s.nr z.l.ram z.l.sr, bblk z.l.mi z.s.ni z.l.inp z.l.si, bblk z.l.mo z.s.no z.l.out z.l.so, bblk z.k.mr z.t.nr z.k.ram z.k.sr, bblk z.k.mi z.t.ni z.k.inp z.k.si, bblk z.k.mo z.t.no z.k.out z.k.so, bblk z.mw z.nw z.w z.sw]
def Sc.world (z : Sc) : List Seg := [.one (.bool z.tick), .one (.bool z.ext), .one (.bool z.soft), .one (.gs 6 0 z.nw z.cw)]
def Sc.b (z : Sc) : List Seg := wsegs z.c z.s (.gs 0 0 z.s.nr z.c0) (.gs 1 0 z.s.ni z.c1) (.gs 2 0 z.s.no z.c2)
def Sc.a (z : Sc) : List Seg := wsegs z.d z.t (.gs 3 0 z.t.nr z.c3) (.gs 4 0 z.t.ni z.c4) (.gs 5 0 z.t.no z.c5)
def Sc.segs (z : Sc) : List Seg := z.b ++ z.a ++ z.world ++ z.r.segs ++ z.e.segs
def Sc.h (z : Sc) : List Blk := z.lists ++ [.cells true z.segs 0]
/-- Lengths that can be. -/
structure Sc.Ok (z : Sc) : Prop where
  nr : z.s.nr ≤ 140737488355328
  ni : z.s.ni ≤ 140737488355328
  no : z.s.no ≤ 140737488355328
  mr : z.t.nr ≤ 140737488355328
  mi : z.t.ni ≤ 140737488355328
  mo : z.t.no ≤ 140737488355328
  cr : z.s.nr ≤ z.c0
  ci : z.s.ni ≤ z.c1
  co : z.s.no ≤ z.c2
  dr : z.t.nr ≤ z.c3
  di : z.t.ni ≤ z.c4
  do_ : z.t.no ≤ z.c5
  size : -9223372036854775808 ≤ z.r.size ∧ z.r.size ≤ 9223372036854775807
/-- Has Mem W? -/
def RowV.stores (r : RowV) : Bool := bitX .and .i64 r.mem 2 != 0
def RowV.trapped (r : RowV) : Bool := r.kind == 2 || r.kind == 3
def RowV.counts (r : RowV) : Bool := r.kind == 1 && bitX .and .u32 (r.raw.toNat : Int) 127 == 115
def RowV.placed (r : RowV) : Bool := r.mem != 0 && decide (0 < r.size) && decide (r.size ≤ 8)
def RowV.within (r : RowV) (a : B64) : Bool := r.placed && decide (r.addr ≤ a) && decide (((a - r.addr).toNat : Int) < r.size)
def anyN (f : Nat → Bool) : Nat → Bool
  | 0 => false
  | n + 1 => anyN f n || f n
def RowV.storedAt (r : RowV) (a : B64) (n : Nat) : Bool := r.stores && anyN (fun k => r.within (a + BitVec.ofNat 64 k)) n
theorem cond_all (a b : Bool) : (bif a then b else false) = (a && b) := by cases a <;> rfl
theorem wsize {x : Int} (h : 0 ≤ x ∧ x ≤ 9223372036854775807) : IntKind.u64.wrap x = x := by
  rw [wrap_u64, BitVec.toNat_ofInt]; omega
theorem placed_size {r : RowV} (h : r.placed = true) : (0 < r.size ∧ r.size ≤ 8) ∧ IntKind.u64.wrap r.size = r.size := by
  unfold RowV.placed at h
  rw [Bool.and_eq_true, Bool.and_eq_true] at h
  have h1 := of_decide_eq_true h.1.2
  have h2 := of_decide_eq_true h.2
  exact ⟨⟨h1, h2⟩, wsize (by omega)⟩
theorem eqvH_refl : ∀ h : List Blk, eqvH h h
  | [] => trivial
  | _ :: r => ⟨eqvB_refl _, eqvH_refl r⟩
theorem anyN_true {f : Nat → Bool} {n k : Nat} (hk : k < n) (h : f k = true) : anyN f n = true := by
  induction n with
  | zero => omega
  | succ n ih =>
    rw [anyN]
    rcases Nat.lt_succ_iff_lt_or_eq.1 hk with h' | h'
    · rw [ih h']; rfl
    · subst h'; rw [h, Bool.or_true]
theorem anyN_false {f : Nat → Bool} {n : Nat} (h : ∀ k, k < n → f k = false) : anyN f n = false := by
  induction n with
  | zero => rfl
  | succ n ih => rw [anyN, ih (fun k hk => h k (by omega)), h n (by omega)]; rfl
end Go.Anv
namespace Go.Proofs.YtdlpmbghocabbaaGreatDoor
open Go Go.Anv
end Go.Proofs.YtdlpmbghocabbaaGreatDoor

/- Watching: more small questions asked of a step: does the place lie in RAM; what is pending; what a trap leaves; the mode of loads and stores. No condition: contracts of functions. -/
namespace Go.Anv
open Go
/-- Does the place lie in RAM whole (n bytes of it)? -/
def RowV.inRam (r : RowV) (n : Nat) : Bool := (r.placed && decide (0x80000000#64 ≤ r.addr)) && (decide ((r.addr - 0x80000000#64).toNat ≤ n) && decide (r.size ≤ ((n - (r.addr - 0x80000000#64).toNat : Nat) : Int)))
def mipOf (s : BusV) : B64 :=
  (if (s.msip &&& 1#32 == 1#32) || s.soft then 8#64 else 0#64) ||| (if decide (s.cmp ≤ s.now) then 128#64 else 0#64) ||| (if s.ext || ((s.ier &&& 1#8 == 1#8) && decide (0 < s.ni)) then 2048#64 else 0#64)
def entryOf (m : B64) (mode : Int) : B64 := (m &&& ~~~6280#64) ||| ((m &&& 8#64) <<< 4) ||| (BitVec.ofInt 64 mode <<< 11)
def handlerOf (v cause : B64) : B64 := if (cause >>> 63 == 1#64) && (v &&& 1#64 == 1#64) then (v &&& ~~~3#64) + 4#64 * (cause <<< 1 >>> 1) else v &&& ~~~3#64
/-- The mode of loads and stores. -/
def CpuV.eff (c : CpuV) : Int := if c.proper.mode = 3 ∧ c.proper.mstatus &&& 131072#64 ≠ 0#64 then (((c.proper.mstatus &&& 6144#64) >>> 11).toNat : Int) else c.proper.mode
theorem an2 {a b : Bool} (h1 : a = true) (h2 : b = true) : (a && b) = true := by rw [h1, h2]; rfl
theorem an3 {a b : Bool} (h1 : a = true) (h2 : b = false) : (a && !b) = true := by rw [h1, h2]; rfl
theorem subn {a b : Nat} (h : b ≤ a) (ha : a ≤ 9223372036854775807) : IntKind.u64.wrap ((a : Int) - (b : Int)) = ((a - b : Nat) : Int) := by
  rw [show (a : Int) - (b : Int) = ((a - b : Nat) : Int) by omega, wnat (by omega)]
end Go.Anv
namespace Go.Proofs.YtdlpmbghocabbaaGreatDoor
open Go Go.Anv
set_option maxRecDepth 100000 in
theorem eff_spec (c : CpuV) (h : List Blk) : Does TB 141 [.agg c.segs] h (fun v h' => v = .s (.int .i64 c.eff) ∧ h' = h) := by
  refine fnX_pure TB Tryz.func141 rfl (by decide) rfl _ rfl (fun O on => ?_) h
  refine (proper_spec c _).mono ?_
  rintro _ _ ⟨rfl, rfl⟩
  repeat (refine need_intro (by first | decide | exact fun h => h | exact nt | exact an2 | rfl | (simp; done) | fail) ?_)
  have e1 : (bif c.proper.mode == 3 then bitX .and .u64 (c.proper.mstatus.toNat : Int) 131072 != 0 else false) = decide (c.proper.mode = 3 ∧ c.proper.mstatus &&& 131072#64 ≠ 0#64) := by
    rw [cond_and, and_u64, ofInt_toNat, Bool.eq_iff_iff, Bool.and_eq_true, decide_eq_true_iff, beq_iff_eq]
    refine and_congr Iff.rfl ?_
    have := bne_nat (c.proper.mstatus &&& 131072#64) 0#64
    exact (Bool.eq_iff_iff.1 this).trans bne_iff_ne
  unfold CpuV.eff
  refine ifB_intro (fun h => ?_) (fun h => ?_)
  · rw [e1] at h
    rw [if_pos (of_decide_eq_true h)]
    repeat (refine need_intro (by first | decide | exact fun h => h | exact nt | exact an2 | rfl | (simp; done) | fail) ?_)
    refine ⟨rfl, ?_⟩
    have h11 : min (Int.toNat 11) IntKind.u64.bits = 11 := by decide
    show IntKind.i64.wrap ((bitX .and .u64 (c.proper.mstatus.toNat : Int) 6144).fdiv (2 ^ min (Int.toNat 11) IntKind.u64.bits)) = _
    rw [h11, and_u64, ofInt_toNat, fdiv_pow]
    have : ((c.proper.mstatus &&& 6144#64) >>> 11).toNat ≤ 6144 := by
      rw [BitVec.toNat_ushiftRight, Nat.shiftRight_eq_div_pow, BitVec.toNat_and]
      exact Nat.le_trans (Nat.div_le_self _ _) Nat.and_le_right
    exact i64_in (by omega) (by show (((c.proper.mstatus &&& 6144#64) >>> 11).toNat : Int) ≤ _; omega)
  · rw [e1] at h
    rw [if_neg (of_decide_eq_false h)]
    exact eqvE_refl _
end Go.Proofs.YtdlpmbghocabbaaGreatDoor

/- Traps: what is pending; the counters at a step's end. No condition: contracts of functions. -/
namespace Go.Anv
open Go
/-- The interrupt that is to be taken. -/
def CpuV.pend (c : CpuV) (mip : B64) : Int × Bool :=
  if c.proper.mode = 3 ∧ c.proper.mstatus &&& 8#64 = 0#64 then (0, false)
  else if (mip &&& c.proper.mie) >>> 11 &&& 1#64 = 1#64 then (11, true)
  else if (mip &&& c.proper.mie) >>> 3 &&& 1#64 = 1#64 then (3, true)
  else if (mip &&& c.proper.mie) >>> 7 &&& 1#64 = 1#64 then (7, true)
  else (0, false)
/-- The counters at a step's end. -/
def CpuV.count (c was : CpuV) (ret wc wi : Bool) : CpuV :=
  { c.proper with
    mcycle := if wc = false ∧ was.mcountinhibit &&& 5#64 &&& 1#64 = 0#64 then c.mcycle + 1#64 else c.mcycle
    minstret := if (ret = true ∧ wi = false) ∧ (was.mcountinhibit &&& 5#64) >>> 2 &&& 1#64 = 0#64 then c.minstret + 1#64 else c.minstret }
end Go.Anv
namespace Go.Proofs.YtdlpmbghocabbaaGreatDoor
open Go Go.Anv
set_option maxRecDepth 100000 in
theorem pend_spec (c : CpuV) (mip : B64) (h : List Blk) : Does TB 104 [.agg c.segs, .s (.int .u64 mip.toNat)] h (fun v h' => v = .tuple [.s (.int .i64 (c.pend mip).1), .s (.bool (c.pend mip).2)] ∧ h' = h) := by
  refine fnX_pure TB Tryz.func104 rfl (by decide) rfl _ rfl (fun O on => ?_) h
  refine (proper_spec c _).mono ?_
  rintro _ _ ⟨rfl, rfl⟩
  repeat (refine need_intro (by first | exact fun h => h | exact nt | exact an2 | exact an3 | rfl | (simp; done) | fail) ?_)
  have e1 : (bif c.proper.mode == 3 then bitX .and .u64 (c.proper.mstatus.toNat : Int) 8 == 0 else false) = decide (c.proper.mode = 3 ∧ c.proper.mstatus &&& 8#64 = 0#64) := by
    rw [cond_and, and_u64, ofInt_toNat, Bool.eq_iff_iff, Bool.and_eq_true, decide_eq_true_iff, beq_iff_eq]
    refine and_congr Iff.rfl ?_
    have := beq_nat (c.proper.mstatus &&& 8#64) 0#64
    exact (Bool.eq_iff_iff.1 this).trans beq_iff_eq
  have e2 : ∀ k : Nat, (bitX .and .u64 ((bitX .and .u64 (mip.toNat : Int) (c.proper.mie.toNat : Int)).fdiv (2 ^ k)) 1 == 1) = decide ((mip &&& c.proper.mie) >>> k &&& 1#64 = 1#64) := by
    intro k
    rw [and_u64 (mip.toNat : Int), ofInt_toNat, ofInt_toNat, fdiv_pow, and_u64, ofInt_toNat, Bool.eq_iff_iff, decide_eq_true_iff]
    exact (Bool.eq_iff_iff.1 (beq_nat ((mip &&& c.proper.mie) >>> k &&& 1#64) 1#64)).trans beq_iff_eq
  refine ifB_intro (fun g => ?_) (fun g => ?_)
  · rw [e1] at g
    unfold CpuV.pend
    rw [if_pos (of_decide_eq_true g)]
    exact eqvE_refl _
  · rw [e1] at g
    have g0 := of_decide_eq_false g
    repeat (refine need_intro (by first | exact fun h => h | exact nt | exact an2 | exact an3 | rfl | (simp; done) | fail) ?_)
    refine loop_times on 4 ?_
    refine Box.mk ?_
    repeat (refine need_intro (by first | (decide) | exact fun h => h | exact nt | exact an2 | exact an3 | rfl | (simp; done) | fail) ?_)
    refine ifB_intro (fun g1 => ?_) (fun g1 => ?_)
    · have g1 := of_decide_eq_true ((e2 11).symm.trans g1)
      unfold CpuV.pend
      rw [if_neg g0, if_pos g1]
      exact eqvE_refl _
    have g1 := of_decide_eq_false ((e2 11).symm.trans g1)
    refine Box.mk ?_
    repeat (refine need_intro (by first | (decide) | exact fun h => h | exact nt | exact an2 | exact an3 | rfl | (simp; done) | fail) ?_)
    refine ifB_intro (fun g2 => ?_) (fun g2 => ?_)
    · have g2 := of_decide_eq_true ((e2 3).symm.trans g2)
      unfold CpuV.pend
      rw [if_neg g0, if_neg g1, if_pos g2]
      exact eqvE_refl _
    have g2 := of_decide_eq_false ((e2 3).symm.trans g2)
    refine Box.mk ?_
    repeat (refine need_intro (by first | (decide) | exact fun h => h | exact nt | exact an2 | exact an3 | rfl | (simp; done) | fail) ?_)
    refine ifB_intro (fun g3 => ?_) (fun g3 => ?_)
    · have g3 := of_decide_eq_true ((e2 7).symm.trans g3)
      unfold CpuV.pend
      rw [if_neg g0, if_neg g1, if_neg g2, if_pos g3]
      exact eqvE_refl _
    have g3 := of_decide_eq_false ((e2 7).symm.trans g3)
    refine Box.mk ?_
    unfold CpuV.pend
    rw [if_neg g0, if_neg g1, if_neg g2, if_neg g3]
    exact eqvE_refl _
set_option maxRecDepth 100000 in
theorem count_spec (c was : CpuV) (ret wc wi : Bool) (h : List Blk) : Does TB 73 [.agg c.segs, .agg was.segs, .s (.bool ret), .s (.bool wc), .s (.bool wi)] h (fun v h' => v = .agg (c.count was ret wc wi).segs ∧ h' = h) := by
  refine fnX_pur TB Tryz.func73 rfl (by decide) rfl _ rfl (fun O on hO => ?_) h
  refine draw_to on ?tt6 ?_ ?_
  rotate_left 1
  · refine draw_but [0, 1] on rfl (fun _ _ h => h) ?_
    repeat' (first | refine need_intro (by first | exact fun h => h | exact nt | exact an2 | exact an3 | rfl | (simp; done) | fail) ?_ | refine And.intro ?_ ?_ | (refine (proper_spec c _).mono ?_; rintro _ _ ⟨rfl, rfl⟩) | (refine (proper_spec was _).mono ?_; rintro _ _ ⟨rfl, rfl⟩))
    all_goals (refine toK_id ?_; rw [hO]; exact Nat.le_of_ble_eq_true rfl)
  repeat (refine need_intro (by first | exact fun h => h | exact nt | exact an2 | exact an3 | rfl | (simp; done) | fail) ?_)
  have b1 : ∀ v : B64, (bitX .and .u64 (v.toNat : Int) 1 == 0) = decide (v &&& 1#64 = 0#64) := fun v => by
    rw [and_u64, ofInt_toNat, Bool.eq_iff_iff, decide_eq_true_iff]
    exact (Bool.eq_iff_iff.1 (beq_nat (v &&& 1#64) 0#64)).trans beq_iff_eq
  have e1 : (bif !wc then bitX .and .u64 (was.proper.mcountinhibit.toNat : Int) 1 == 0 else false) = decide (wc = false ∧ was.mcountinhibit &&& 5#64 &&& 1#64 = 0#64) := by
    rw [b1, cond_and, Bool.eq_iff_iff, Bool.and_eq_true, decide_eq_true_iff, decide_eq_true_iff, Bool.not_eq_true']
    exact Iff.rfl
  have e2 : (bif (bif ret then !wi else false) then bitX .and .u64 ((was.proper.mcountinhibit.toNat : Int).fdiv (2 ^ min (Int.toNat 2) IntKind.u64.bits)) 1 == 0 else false) = decide ((ret = true ∧ wi = false) ∧ (was.mcountinhibit &&& 5#64) >>> 2 &&& 1#64 = 0#64) := by
    rw [show min (Int.toNat 2) IntKind.u64.bits = 2 from by decide, fdiv_pow, b1, cond_and, cond_and, Bool.eq_iff_iff, Bool.and_eq_true, Bool.and_eq_true, decide_eq_true_iff, decide_eq_true_iff, Bool.not_eq_true']
    exact Iff.rfl
  have up : ∀ v : B64, IntKind.u64.wrap ((v.toNat : Int) + 1) = ((v + 1#64).toNat : Int) := fun v => add64 v 1#64
  refine ifB_intro (fun g1 => ?_) (fun g1 => ?_)
  all_goals
    repeat (refine need_intro (by first | exact fun h => h | exact nt | exact an2 | exact an3 | rfl | (simp; done) | fail) ?_)
    refine ifB_intro (fun g2 => ?_) (fun g2 => ?_)
  all_goals
    repeat (refine need_intro (by first | exact fun h => h | exact nt | exact an2 | exact an3 | rfl | (simp; done) | fail) ?_)
    have g1 := e1.symm.trans g1
    have g2 := e2.symm.trans g2
    first | replace g1 := of_decide_eq_true g1 | replace g1 := of_decide_eq_false g1
    first | replace g2 := of_decide_eq_true g2 | replace g2 := of_decide_eq_false g2
    unfold CpuV.count
    first | rw [if_pos g1] | rw [if_neg g1]
    first | rw [if_pos g2] | rw [if_neg g2]
    show eqvS _ _
    repeat' (first | exact eqvS_nil | refine eqvS_same ?_ | refine eqvS_int (up _) ?_)
end Go.Proofs.YtdlpmbghocabbaaGreatDoor

/- One instruction is fetched out of a small bus. Contracts of functions. -/
namespace Go.Anv
open Go
/-- How the hart of the example stands. -/
def cpu0 : CpuV := { pc := 0x80000000#64, x := fun _ => 0#64, mode := 3, waiting := false, mstatus := 0x200000000#64, mtvec := 0#64, mie := 0#64, mcounteren := 0#64, mcountinhibit := 0#64, menvcfg := 0#64, mscratch := 0#64, mepc := 0#64, mcause := 0#64, mtval := 0#64, mcycle := 0#64, minstret := 0#64, cfg := fun _ => 0#8, addr := fun _ => 0#64, rvalid := false, raddr := 0#64, rsize := 0 }
theorem cpu0_proper : cpu0.proper = cpu0 := by
  have h1 : (fun j => if j = 0 then 0#64 else cpu0.x j) = cpu0.x := by funext j; show (if j = 0 then 0#64 else 0#64) = 0#64; split <;> rfl
  have h2 : (fun j => cfgOf (cpu0.cfg j)) = cpu0.cfg := by funext j; show cfgOf 0#8 = 0#8; decide
  have h3 : (fun j => cpu0.addr j &&& addrBits) = cpu0.addr := by funext j; show 0#64 &&& addrBits = 0#64; decide
  unfold CpuV.proper
  rw [h1, h2, h3]
  rfl
end Go.Anv
namespace Go.Proofs.YtdlpmbghocabbaaGreatDoor
open Go Go.Anv
theorem properC0 (h : List Blk) : Does TB 11 [.agg cpu0.segs] h (fun v h' => v = .agg cpu0.segs ∧ h' = h) := by
  have := proper_spec cpu0 h
  rwa [cpu0_proper] at this
set_option maxRecDepth 100000 in
theorem parcel0 (x : Small) (a : Int) (v : Int) (ha : a = 2147483648 ∧ v = 147 ∨ a = 2147483650 ∧ v = 16) : Does TB 126 [.agg cpu0.segs, .s (.ptr 0 0), .s (.int .u64 a)] x.h (fun r h' => r = .tuple [.s (.int .u32 v), .s (.bool true)] ∧ h' = x.h) := by
  refine fnX_does TB Tryz.func126 rfl (by decide) (fun O on hO => ?_)
  repeat (refine need_intro (by first | exact fun h => h | exact nt | exact an2 | exact an3 | rfl | (simp; done) | fail) ?_)
  refine (check0 a 2 4 (by decide) (by decide) (by decide) (by decide) _).mono ?_
  rintro _ _ ⟨rfl, rfl⟩
  repeat (refine need_intro (by first | exact fun h => h | exact nt | exact an2 | exact an3 | rfl | (simp; done) | fail) ?_)
  refine Does.ungd (b := [.s (.ptr 0 0), .s (.int .u64 a), .s (.int .i64 2)]) ⟨⟨rfl, rfl⟩, ⟨rfl, rfl⟩, rfl, trivial⟩ ?_
  refine Does.atc (isRam0 x a (by omega)) [0, 1, 2, 3] rfl ⟨rfl, rfl, rfl, rfl, trivial⟩ (by decide) ?_
  repeat (refine need_intro (by first | exact fun h => h | exact nt | exact an2 | exact an3 | rfl | (simp; done) | fail) ?_)
  refine Does.atc (busLoad0 x a v ha) [0, 1, 2, 3] rfl ⟨rfl, rfl, rfl, rfl, trivial⟩ (by decide) ?_
  repeat (refine need_intro (by first | exact fun h => h | exact nt | exact an2 | exact an3 | rfl | (simp; done) | fail) ?_)
  rcases ha with ⟨rfl, rfl⟩ | ⟨rfl, rfl⟩
  all_goals exact Ends.ro (H := x.h) rfl (eqvE_refl _) rfl
set_option maxRecDepth 100000 in
theorem fetch0 (x : Small) : Does TB 106 [.agg cpu0.segs, .s (.ptr 0 0)] x.h (fun r h' => r = .tuple [.s (.int .u32 1048723), .s (.int .i64 4), .agg [.one (.bool false), .one (.int .u64 0), .one (.int .u64 0)]] ∧ h' = x.h) := by
  refine fnX_does TB Tryz.func106 rfl (by decide) (fun O on hO => ?_)
  repeat (refine need_intro (by first | exact fun h => h | exact nt | exact an2 | exact an3 | rfl | (simp; done) | fail) ?_)
  refine (properC0 _).mono ?_
  rintro _ _ ⟨rfl, rfl⟩
  repeat (refine need_intro (by first | exact fun h => h | exact nt | exact an2 | exact an3 | rfl | (simp; done) | fail) ?_)
  refine Does.atc (parcel0 x 2147483648 147 (.inl ⟨rfl, rfl⟩)) [0, 1, 2, 3] rfl ⟨rfl, rfl, rfl, rfl, trivial⟩ (by decide) ?_
  repeat (refine need_intro (by first | exact fun h => h | exact nt | exact an2 | exact an3 | rfl | (simp; done) | fail) ?_)
  refine Does.atc (parcel0 x 2147483650 16 (.inr ⟨rfl, rfl⟩)) [0, 1, 2, 3] rfl ⟨rfl, rfl, rfl, rfl, trivial⟩ (by decide) ?_
  repeat (refine need_intro (by first | exact fun h => h | exact nt | exact an2 | exact an3 | rfl | (simp; done) | fail) ?_)
  exact Ends.ro (H := x.h) rfl (eqvE_refl _) rfl
end Go.Proofs.YtdlpmbghocabbaaGreatDoor

/- The tables of operations: what they compute; what they do. Contracts of functions; printed by mk_f8.py. -/
namespace Go.Proofs.YtdlpmbghocabbaaGreatDoor
open Go Go.Anv
/-- Of each operation: on whole words, on halves. -/
def rowsS : List Seg := [.one .nilfunc, .one .nilfunc, .one .nilfunc, .one .nilfunc, .one .nilfunc, .one .nilfunc, .one .nilfunc, .one .nilfunc, .one .nilfunc, .one .nilfunc, .one .nilfunc, .one .nilfunc, .one .nilfunc, .one .nilfunc, .one .nilfunc, .one .nilfunc, .one .nilfunc, .one .nilfunc, .one .nilfunc, .one .nilfunc, .one .nilfunc, .one .nilfunc, .one .nilfunc, .one .nilfunc, .one .nilfunc, .one .nilfunc, .one .nilfunc, .one .nilfunc, .one .nilfunc, .one .nilfunc, .one .nilfunc, .one .nilfunc, .one .nilfunc, .one .nilfunc, .one .nilfunc, .one .nilfunc, .one .nilfunc, .one .nilfunc, .one .nilfunc, .one .nilfunc, .one .nilfunc, .one .nilfunc, .one .nilfunc, .one .nilfunc, .one .nilfunc, .one .nilfunc, .one .nilfunc, .one .nilfunc, .one .nilfunc, .one .nilfunc, .one .nilfunc, .one .nilfunc, .one .nilfunc, .one .nilfunc, .one .nilfunc, .one .nilfunc, .one .nilfunc, .one .nilfunc, .one .nilfunc, .one .nilfunc, .one .nilfunc, .one .nilfunc, .one .nilfunc, .one .nilfunc, .one .nilfunc, .one .nilfunc, .one .nilfunc, .one .nilfunc, .one .nilfunc, .one .nilfunc, .one (.func (.func 143) [] []), .one .nilfunc, .one (.func (.func 144) [] []), .one .nilfunc, .one (.func (.func 145) [] []), .one .nilfunc, .one (.func (.func 148) [] []), .one .nilfunc, .one (.func (.func 150) [] []), .one .nilfunc, .one (.func (.func 151) [] []), .one .nilfunc, .one (.func (.func 146) [] []), .one .nilfunc, .one (.func (.func 147) [] []), .one .nilfunc, .one (.func (.func 152) [] []), .one .nilfunc, .one (.func (.func 153) [] []), .one .nilfunc, .one .nilfunc, .one (.func (.func 154) [] []), .one .nilfunc, .one (.func (.func 155) [] []), .one .nilfunc, .one (.func (.func 156) [] []), .one .nilfunc, .one (.func (.func 157) [] []), .one .nilfunc, .one (.func (.func 158) [] []), .one .nilfunc, .one .nilfunc, .one .nilfunc, .one .nilfunc, .one .nilfunc, .one .nilfunc, .one .nilfunc, .one .nilfunc, .one .nilfunc, .one .nilfunc, .one .nilfunc, .one .nilfunc, .one .nilfunc, .one .nilfunc, .one .nilfunc, .one .nilfunc, .one .nilfunc, .one .nilfunc, .one .nilfunc, .one .nilfunc, .one .nilfunc, .one .nilfunc, .one .nilfunc, .one .nilfunc, .one (.func (.func 159) [] []), .one .nilfunc, .one (.func (.func 160) [] []), .one .nilfunc, .one (.func (.func 163) [] []), .one .nilfunc, .one (.func (.func 165) [] []), .one .nilfunc, .one (.func (.func 167) [] []), .one .nilfunc, .one (.func (.func 168) [] []), .one .nilfunc, .one (.func (.func 169) [] []), .one .nilfunc, .one (.func (.func 170) [] []), .one .nilfunc, .one .nilfunc, .one (.func (.func 171) [] []), .one .nilfunc, .one (.func (.func 172) [] []), .one .nilfunc, .one (.func (.func 174) [] []), .one .nilfunc, .one (.func (.func 173) [] []), .one .nilfunc, .one (.func (.func 175) [] []), .one .nilfunc, .one .nilfunc, .one .nilfunc, .one .nilfunc, .one .nilfunc, .one .nilfunc, .one .nilfunc, .one .nilfunc, .one .nilfunc, .one .nilfunc, .one .nilfunc, .one .nilfunc, .one .nilfunc, .one .nilfunc, .one .nilfunc, .one .nilfunc, .one .nilfunc, .one .nilfunc, .one .nilfunc, .one .nilfunc, .one .nilfunc, .one .nilfunc, .one .nilfunc, .one .nilfunc, .one .nilfunc, .one .nilfunc, .one .nilfunc, .one .nilfunc, .one .nilfunc, .one .nilfunc, .one .nilfunc, .one .nilfunc, .one .nilfunc, .one .nilfunc, .one .nilfunc, .one .nilfunc, .one .nilfunc, .one .nilfunc, .one .nilfunc, .one .nilfunc, .one .nilfunc, .one .nilfunc, .one .nilfunc, .one .nilfunc]
/-- Of each operation: what it does. -/
def bodiesS : List Seg := [.one .nilfunc, .one (.func (.func 51) [] []), .one (.func (.func 52) [] []), .one (.func (.func 53) [] []), .one (.func (.func 54) [] []), .one (.func (.func 55) [] []), .one (.func (.func 55) [] []), .one (.func (.func 55) [] []), .one (.func (.func 55) [] []), .one (.func (.func 55) [] []), .one (.func (.func 55) [] []), .one (.func (.func 56) [] []), .one (.func (.func 56) [] []), .one (.func (.func 56) [] []), .one (.func (.func 56) [] []), .one (.func (.func 56) [] []), .one (.func (.func 56) [] []), .one (.func (.func 56) [] []), .one (.func (.func 57) [] []), .one (.func (.func 57) [] []), .one (.func (.func 57) [] []), .one (.func (.func 57) [] []), .one (.func (.func 58) [] []), .one (.func (.func 58) [] []), .one (.func (.func 58) [] []), .one (.func (.func 58) [] []), .one (.func (.func 58) [] []), .one (.func (.func 58) [] []), .one (.func (.func 58) [] []), .one (.func (.func 58) [] []), .one (.func (.func 58) [] []), .one (.func (.func 58) [] []), .one (.func (.func 58) [] []), .one (.func (.func 58) [] []), .one (.func (.func 58) [] []), .one (.func (.func 59) [] []), .one (.func (.func 59) [] []), .one (.func (.func 59) [] []), .one (.func (.func 59) [] []), .one (.func (.func 59) [] []), .one (.func (.func 59) [] []), .one (.func (.func 59) [] []), .one (.func (.func 59) [] []), .one (.func (.func 59) [] []), .one (.func (.func 59) [] []), .one (.func (.func 59) [] []), .one (.func (.func 59) [] []), .one (.func (.func 59) [] []), .one (.func (.func 59) [] []), .one (.func (.func 59) [] []), .one (.func (.func 60) [] []), .one (.func (.func 60) [] []), .one (.func (.func 61) [] []), .one (.func (.func 62) [] []), .one (.func (.func 63) [] []), .one (.func (.func 64) [] []), .one (.func (.func 65) [] []), .one (.func (.func 65) [] []), .one (.func (.func 65) [] []), .one (.func (.func 65) [] []), .one (.func (.func 65) [] []), .one (.func (.func 65) [] []), .one (.func (.func 59) [] []), .one (.func (.func 59) [] []), .one (.func (.func 59) [] []), .one (.func (.func 59) [] []), .one (.func (.func 59) [] []), .one (.func (.func 59) [] []), .one (.func (.func 59) [] []), .one (.func (.func 59) [] []), .one (.func (.func 59) [] []), .one (.func (.func 59) [] []), .one (.func (.func 59) [] []), .one (.func (.func 59) [] []), .one (.func (.func 59) [] []), .one (.func (.func 66) [] []), .one (.func (.func 67) [] []), .one (.func (.func 68) [] []), .one (.func (.func 68) [] []), .one (.func (.func 68) [] []), .one (.func (.func 68) [] []), .one (.func (.func 68) [] []), .one (.func (.func 68) [] []), .one (.func (.func 68) [] []), .one (.func (.func 68) [] []), .one (.func (.func 68) [] []), .one (.func (.func 66) [] []), .one (.func (.func 67) [] []), .one (.func (.func 68) [] []), .one (.func (.func 68) [] []), .one (.func (.func 68) [] []), .one (.func (.func 68) [] []), .one (.func (.func 68) [] []), .one (.func (.func 68) [] []), .one (.func (.func 68) [] []), .one (.func (.func 68) [] []), .one (.func (.func 68) [] [])]
set_option maxRecDepth 100000 in
set_option maxHeartbeats 4000000 in
theorem rows_spec (h : List Blk) : Does TB 117 [] h (fun v h' => v = .agg rowsS ∧ h' = h) := by
  refine fnX_pur TB Tryz.func117 rfl (by decide) rfl (.agg rowsS) rfl (fun O on hO => ?_) h
  repeat (refine need_intro (by first | exact fun h => h | exact nt | exact an2 | exact an3 | rfl | (simp; done) | fail) ?_)
  exact eqvE_refl _
set_option maxRecDepth 100000 in
set_option maxHeartbeats 4000000 in
theorem bodies_spec (h : List Blk) : Does TB 33 [] h (fun v h' => v = .agg bodiesS ∧ h' = h) := by
  refine fnX_pur TB Tryz.func33 rfl (by decide) rfl (.agg bodiesS) rfl (fun O on hO => ?_) h
  repeat (refine need_intro (by first | exact fun h => h | exact nt | exact an2 | exact an3 | rfl | (simp; done) | fail) ?_)
  exact eqvE_refl _
end Go.Proofs.YtdlpmbghocabbaaGreatDoor

/- The bus as it lies; an instruction and what it did. Definitions alone. -/
namespace Go.Anv
open Go
/-- A bus: its plain values, its lists, their rooms. -/
structure Dev where
  s : BusV
  ram : Nat → B8
  inp : Nat → B8
  out : Nat → B8
  cr : Nat
  ci : Nat
  co : Nat
/-- The bus itself; its lists lie from b on. -/
def Dev.blk (d : Dev) (b : Nat) : Blk := .cells true (d.s.dev 0 (.gs b 0 d.s.nr d.cr) (.gs (b + 1) 0 d.s.ni d.ci) (.gs (b + 2) 0 d.s.no d.co)) 0
/-- With its lock held. -/
def Dev.held (d : Dev) (b : Nat) : Blk := .cells true (d.s.dev 1 (.gs b 0 d.s.nr d.cr) (.gs (b + 1) 0 d.s.ni d.ci) (.gs (b + 2) 0 d.s.no d.co)) 0
def Dev.rb (d : Dev) : Blk := bblk true d.s.nr d.ram (d.cr - d.s.nr)
def Dev.ib (d : Dev) : Blk := bblk true d.s.ni d.inp (d.ci - d.s.ni)
def Dev.ob (d : Dev) : Blk := bblk true d.s.no d.out (d.co - d.s.no)
def Dev.h (d : Dev) : List Blk := [d.blk 1, d.rb, d.ib, d.ob]
def Dev.hh (d : Dev) : List Blk := [d.held 1, d.rb, d.ib, d.ob]
structure Dev.Ok (d : Dev) : Prop where
  can : d.s.can = true
  cr : d.s.nr ≤ d.cr
  ci : d.s.ni ≤ d.ci
  co : d.s.no ≤ d.co
/-- An instruction's plain values. -/
structure InV where
  op : Int
  rd : Int
  rs1 : Int
  rs2 : Int
  imm : Int
  aq : Bool
  rl : Bool
  len : Int
  raw : B32
def InV.segs (i : InV) : List Seg := [.one (.int .i64 i.op), .one (.int .i64 i.rd), .one (.int .i64 i.rs1), .one (.int .i64 i.rs2), .one (.int .i64 i.imm), .one (.bool i.aq), .one (.bool i.rl), .one (.int .i64 i.len), .one (.int .u32 i.raw.toNat)]
structure TrapV where
  is : Bool
  cause : B64
  tval : B64
def TrapV.segs (t : TrapV) : List Seg := [.one (.bool t.is), .one (.int .u64 t.cause.toNat), .one (.int .u64 t.tval.toNat)]
def noTrap : TrapV := ⟨false, 0#64, 0#64⟩
/-- What an instruction did. -/
structure DoneV where
  trap : TrapV
  rd : Int
  val : B64
  mem : Int
  addr : B64
  size : Int
  data : B64
  wc : Bool
  wi : Bool
def DoneV.segs (d : DoneV) : List Seg := d.trap.segs ++ [.one (.int .i64 d.rd), .one (.int .u64 d.val.toNat), .one (.int .i64 d.mem), .one (.int .u64 d.addr.toNat), .one (.int .i64 d.size), .one (.int .u64 d.data.toNat), .one (.bool d.wc), .one (.bool d.wi)]
def done0 : DoneV := ⟨noTrap, 0, 0#64, 0, 0#64, 0, 0#64, false, false⟩
/-- An instruction in its midst. -/
def turnS (c : CpuV) (b : SV) (i : InV) (next : B64) (d : DoneV) : List Seg := c.segs ++ (.one b :: i.segs ++ (.one (.int .u64 next.toNat) :: d.segs))
/-- An instruction in its midst, over a bus. -/
structure Xs where
  c : CpuV
  i : InV
  next : B64
  d : DoneV
  b : Dev
def Xs.blk (x : Xs) : Blk := .cells true (turnS x.c (.ptr 1 0) x.i x.next x.d) 0
def Xs.h (x : Xs) : List Blk := [x.blk, x.b.blk 2, x.b.rb, x.b.ib, x.b.ob]
/-- A register gets a value. -/
def CpuV.set (c : CpuV) (n : Int) (v : B64) : CpuV := { c with x := fun j => if j = n.toNat then v else c.x j }
def Xs.put (x : Xs) (v : B64) : Xs := { x with c := if x.i.rd = 0 then x.c else x.c.set x.i.rd v, d := if x.i.rd = 0 then x.d else { x.d with rd := x.i.rd, val := v } }
def InV.ok (i : InV) : Bool := decide (1 ≤ i.op ∧ i.op < 97 ∧ 0 ≤ i.rd ∧ i.rd < 32 ∧ 0 ≤ i.rs1 ∧ i.rs1 < 32 ∧ 0 ≤ i.rs2 ∧ i.rs2 < 32 ∧ (i.len = 2 ∨ i.len = 4))
end Go.Anv

/- An instruction's operands; a register gets a value; can there be such an instruction. Contracts of functions. -/
namespace Go.Proofs.YtdlpmbghocabbaaGreatDoor
open Go Go.Anv
set_option maxRecDepth 100000 in
theorem x1_spec (x : Xs) (h0 : 0 ≤ x.i.rs1) (h1 : x.i.rs1 < 32) : Does TB 82 [.s (.ptr 0 0)] x.h (fun v h' => v = .s (.int .u64 (x.c.x x.i.rs1.toNat).toNat) ∧ h' = x.h) := by
  refine fnX_does TB Tryz.func82 rfl (by decide) (fun O on hO => ?_)
  refine draw_held on rfl (fun _ _ h => h) ?_
  repeat (refine need_intro (by first | rfl | omega | fail) ?_)
  exact Ends.ro (H := x.h) rfl (eqvE_refl _) rfl
set_option maxRecDepth 100000 in
theorem x2_spec (x : Xs) (h0 : 0 ≤ x.i.rs2) (h1 : x.i.rs2 < 32) : Does TB 84 [.s (.ptr 0 0)] x.h (fun v h' => v = .s (.int .u64 (x.c.x x.i.rs2.toNat).toNat) ∧ h' = x.h) := by
  refine fnX_does TB Tryz.func84 rfl (by decide) (fun O on hO => ?_)
  refine draw_held on rfl (fun _ _ h => h) ?_
  repeat (refine need_intro (by first | rfl | omega | fail) ?_)
  exact Ends.ro (H := x.h) rfl (eqvE_refl _) rfl
set_option maxRecDepth 100000 in
theorem imm_spec (x : Xs) : Does TB 81 [.s (.ptr 0 0)] x.h (fun v h' => v = .s (.int .u64 (BitVec.ofInt 64 x.i.imm).toNat) ∧ h' = x.h) := by
  refine fnX_does TB Tryz.func81 rfl (by decide) (fun O on hO => ?_)
  repeat (refine need_intro (by first | exact fun h => h | exact nt | exact an2 | exact an3 | rfl | (simp; done) | fail) ?_)
  exact Ends.ro (H := x.h) rfl ⟨rfl, wrap_u64 _⟩ rfl
set_option maxRecDepth 100000 in
theorem put_spec (x : Xs) (v : B64) (h0 : 0 ≤ x.i.rd) (h1 : x.i.rd < 32) : Does TB 80 [.s (.ptr 0 0), .s (.int .u64 v.toNat)] x.h (fun r h' => r = .tuple [] ∧ h' = (x.put v).h) := by
  refine fnX_does TB Tryz.func80 rfl (by decide) (fun O on hO => ?_)
  repeat (refine need_intro (by first | exact fun h => h | exact nt | exact an2 | exact an3 | rfl | (simp; done) | fail) ?_)
  refine ifB_intro (fun g => ?_) (fun g => ?_)
  · have g : x.i.rd ≠ 0 := bne_iff_ne.1 g
    refine draw_but [0] on rfl (fun _ _ h => h) ?_
    repeat (refine need_intro (by first | rfl | omega | fail) ?_)
    rw [Xs.put, if_neg g, if_neg g]
    refine ⟨_, _, [0, 1, 2, 3, 4], ⟨rfl, rfl⟩, by decide, ⟨rfl, rfl, rfl, rfl, rfl, trivial⟩, eqvE_refl _, ⟨⟨_, rfl, ⟨rfl, rfl, ?_⟩⟩, ⟨_, rfl, eqvB_refl _⟩, ⟨_, rfl, eqvB_refl _⟩, ⟨_, rfl, eqvB_refl _⟩, ⟨_, rfl, eqvB_refl _⟩, trivial⟩⟩
    show eqvS _ _
    repeat' (first | exact eqvS_nil | refine eqvS_same ?_ | refine eqvS_ints (fun j _ => ?_) ?_)
    show (if j = x.i.rd.toNat then (v.toNat : Int) else wfun x.c.x j) = wfun (fun j => if j = x.i.rd.toNat then v else x.c.x j) j
    simp only [wfun]
    split <;> rfl
  · have g : x.i.rd = 0 := by simpa using g
    rw [Xs.put, if_pos g, if_pos g]
    exact Ends.same ⟨rfl, rfl⟩ (Nat.le_of_ble_eq_true rfl)
theorem reg_spec (n : Int) (h : List Blk) : Does TB 49 [.s (.int .i64 n)] h (fun v h' => v = .s (.bool (decide (0 ≤ n) && decide (n < 32))) ∧ h' = h) := by
  refine fnX_pure TB Tryz.func49 rfl (by decide) rfl _ rfl (fun O on => ?_) h
  repeat (refine need_intro (by first | exact fun h => h | exact nt | exact an2 | exact an3 | rfl | (simp; done) | fail) ?_)
  exact cond_and _ _
set_option maxRecDepth 100000 in
theorem valid_spec (i : InV) (h : List Blk) : Does TB 31 [.agg i.segs] h (fun v h' => v = .s (.bool i.ok) ∧ h' = h) := by
  refine fnX_pure TB Tryz.func31 rfl (by decide) rfl _ rfl (fun O on => ?_) h
  repeat (refine need_intro (by first | exact fun h => h | exact nt | exact an2 | exact an3 | rfl | (simp; done) | fail) ?_)
  have fin : ∀ {v : Bool}, v = i.ok → eqvE (.s (.bool v)) (.s (.bool i.ok)) := fun h => h
  refine ifB_intro (fun g1 => ?_) (fun g1 => ?_)
  rotate_left 1
  · repeat (refine need_intro (by first | exact g1 | exact fun h => h | exact nt | exact an2 | exact an3 | rfl | (simp; done) | fail) ?_)
    refine fin ?_
    simp at g1
    simp [InV.ok]; omega
  repeat (refine need_intro (by first | exact g1 | exact fun h => h | exact nt | exact an2 | exact an3 | rfl | (simp; done) | fail) ?_)
  refine Does.ungd (b := [.s (.int .i64 i.rd)]) ⟨⟨g1, rfl⟩, trivial⟩ ?_
  refine (reg_spec i.rd _).mono ?_
  rintro _ _ ⟨rfl, rfl⟩
  repeat (refine need_intro (by first | exact g1 | exact fun h => h | exact nt | exact an2 | exact an3 | rfl | (simp; done) | fail) ?_)
  refine ifB_intro (fun g2 => ?_) (fun g2 => ?_)
  rotate_left 1
  · repeat (refine need_intro (by first | exact g2 | exact fun h => h | exact nt | exact an2 | exact an3 | rfl | (simp; done) | fail) ?_)
    refine fin ?_
    simp at g1 g2
    simp [InV.ok]; omega
  repeat (refine need_intro (by first | exact g2 | exact fun h => h | exact nt | exact an2 | exact an3 | rfl | (simp; done) | fail) ?_)
  refine Does.ungd (b := [.s (.int .i64 i.rs1)]) ⟨⟨g2, rfl⟩, trivial⟩ ?_
  refine (reg_spec i.rs1 _).mono ?_
  rintro _ _ ⟨rfl, rfl⟩
  repeat (refine need_intro (by first | exact g2 | exact fun h => h | exact nt | exact an2 | exact an3 | rfl | (simp; done) | fail) ?_)
  refine ifB_intro (fun g3 => ?_) (fun g3 => ?_)
  rotate_left 1
  · repeat (refine need_intro (by first | exact g3 | exact fun h => h | exact nt | exact an2 | exact an3 | rfl | (simp; done) | fail) ?_)
    refine fin ?_
    simp at g1 g2 g3
    simp [InV.ok]; omega
  repeat (refine need_intro (by first | exact g3 | exact fun h => h | exact nt | exact an2 | exact an3 | rfl | (simp; done) | fail) ?_)
  refine Does.ungd (b := [.s (.int .i64 i.rs2)]) ⟨⟨g3, rfl⟩, trivial⟩ ?_
  refine (reg_spec i.rs2 _).mono ?_
  rintro _ _ ⟨rfl, rfl⟩
  repeat (refine need_intro (by first | exact g3 | exact fun h => h | exact nt | exact an2 | exact an3 | rfl | (simp; done) | fail) ?_)
  refine fin ?_
  simp at g1 g2 g3
  rw [Bool.eq_iff_iff]
  simp [InV.ok]
  omega
end Go.Proofs.YtdlpmbghocabbaaGreatDoor

/- The deferred closure of exec.Do, where nothing was raised. Contract of a function. -/
namespace Go.Proofs.YtdlpmbghocabbaaGreatDoor
open Go Go.Anv Go.RowKit
theorem catch_idle (v0 v1 v2 : Value) (w : World) :
    CallsD Tryz.prog 30 #[v0, v1, v2] .returning w fun e u' w' => e = .returned (.tuple #[]) ∧ u' = .returning ∧ w' = w := by
  refine callsD_of_wpS Tryz.func30 rfl fun c₀ cs hu => ?_
  apply wpS_seq
  apply wpS_region
  simp [wpOpsS, go_sem, recoverD, hu, Tryz.ntmps30, Exit.thenS]
  apply wpS_seq
  apply wpS_seq
  apply wpS_region
  simp [wpOpsS, go_sem, Exit.thenS]
  refine wpS_cond (t := true) (by simp [Act.eval, Array.replicate]) ?_
  simp only [if_true]
  refine wpS_of_wp (wp_ret ?_)
  cases c₀
  simp_all [bodyPostS, results, Tryz.results30, Exit.thenS]
theorem catch_spec (a b c : EV) (h : List Blk) : DoesD TB 30 [a, b, c] h (fun v h' => v = .tuple [] ∧ h' = h) := by
  refine ⟨⟨_, Tryz.func30, by kernel_rfl, by kernel_rfl⟩, fun E w vs S Z ha => ?_⟩
  obtain ⟨l⟩ := vs
  simp only [denT] at ha
  obtain ⟨v0, _, rfl, _, v1, _, rfl, _, v2, _, rfl, _, rfl⟩ := ha
  refine (catch_idle v0 v1 v2 w).mono ?_
  rintro e u' w' ⟨rfl, rfl, rfl⟩
  refine ⟨rfl, _, .tuple [], h, E, rfl, ?_, S, Since.refl _ _ _, rfl, rfl⟩
  exact ⟨_, rfl, rfl⟩
end Go.Proofs.YtdlpmbghocabbaaGreatDoor

/- One instruction is done: addi. Contracts of functions. -/
namespace Go.Anv
open Go
def addiI : InV := ⟨22, 1, 0, 0, 1, false, false, 4, 1048723#32⟩
end Go.Anv
namespace Go.Proofs.YtdlpmbghocabbaaGreatDoor
open Go Go.Anv
theorem rows1_spec (a b : B64) (h : List Blk) : Does TB 143 [.s (.int .u64 a.toNat), .s (.int .u64 b.toNat)] h (fun v h' => v = .s (.int .u64 (a + b).toNat) ∧ h' = h) := by
  refine fnX_pure TB Tryz.func143 rfl (by decide) rfl _ rfl (fun O on => ?_) h
  repeat (refine need_intro (by first | exact fun h => h | exact nt | exact an2 | exact an3 | rfl | (simp; done) | fail) ?_)
  exact ⟨rfl, add64 a b⟩
set_option maxRecDepth 100000 in
theorem compute_addi (a b : B64) (h : List Blk) : Does TB 92 [.s (.int .i64 22), .s (.int .u64 a.toNat), .s (.int .u64 b.toNat)] h (fun v h' => v = .tuple [.s (.int .u64 (a + b).toNat), .s (.bool true)] ∧ h' = h) := by
  refine fnX_pur TB Tryz.func92 rfl (by decide) rfl _ rfl (fun O on hO => ?_) h
  repeat (refine need_intro (by first | (decide) | exact fun h => h | exact nt | exact an2 | exact an3 | rfl | (simp; done) | fail) ?_)
  refine (rows_spec _).mono ?_
  rintro _ _ ⟨rfl, rfl⟩
  repeat (refine need_intro (by first | (decide) | exact fun h => h | exact nt | exact an2 | exact an3 | rfl | (simp; done) | fail) ?_)
  refine (rows1_spec a b _).mono ?_
  rintro _ _ ⟨rfl, rfl⟩
  repeat (refine need_intro (by first | exact fun h => h | exact nt | exact an2 | exact an3 | rfl | (simp; done) | fail) ?_)
  exact eqvE_refl _
set_option maxRecDepth 100000 in
theorem immediate_addi (x : Xs) (ho : x.i.op = 22) (h0 : 0 ≤ x.i.rs1) (h1 : x.i.rs1 < 32) (h2 : 0 ≤ x.i.rd) (h3 : x.i.rd < 32) : Does TB 58 [.s (.ptr 0 0)] x.h (fun v h' => v = .tuple [] ∧ h' = (x.put (x.c.x x.i.rs1.toNat + BitVec.ofInt 64 x.i.imm)).h) := by
  refine fnX_does TB Tryz.func58 rfl (by decide) (fun O on hO => ?_)
  refine draw_to on ?tt5 ?_ ?_
  rotate_left 1
  · refine draw_held on rfl (fun _ _ h => h) ?_
    repeat' (first | refine need_intro (by first | exact fun h => h | exact nt | exact an2 | exact an3 | rfl | (simp; done) | fail) ?_ | refine And.intro ?_ ?_ | (refine Does.atc (x1_spec x h0 h1) [0, 1, 2, 3, 4] rfl ⟨rfl, rfl, rfl, rfl, rfl, trivial⟩ (by decide) ?_) | (refine Does.atc (imm_spec x) [0, 1, 2, 3, 4] rfl ⟨rfl, rfl, rfl, rfl, rfl, trivial⟩ (by decide) ?_) | (refine Does.args (b := [.s (.int .i64 22), .s (.int .u64 (x.c.x x.i.rs1.toNat).toNat), .s (.int .u64 (BitVec.ofInt 64 x.i.imm).toNat)]) ⟨⟨rfl, ho⟩, ⟨rfl, rfl⟩, ⟨rfl, rfl⟩, trivial⟩ ?_; refine (compute_addi _ _ _).mono ?_; rintro _ _ ⟨rfl, rfl⟩))
    all_goals (refine toK_id ?_; rw [hO]; exact Nat.le_of_ble_eq_true rfl)
  repeat (refine need_intro (by first | exact fun h => h | exact nt | exact an2 | exact an3 | rfl | (simp; done) | fail) ?_)
  refine (put_spec x _ h2 h3).mono ?_
  rintro _ _ ⟨rfl, rfl⟩
  exact Ends.same ⟨rfl, rfl⟩ (Nat.le_of_ble_eq_true rfl)
end Go.Proofs.YtdlpmbghocabbaaGreatDoor

/- One instruction is done, whole: addi x1, x0, 1 at the begin of RAM. Contracts of functions. -/
namespace Go.Anv
open Go
/-- The hart behind it. -/
def cpu1 : CpuV := { cpu0 with pc := 0x80000004#64, x := fun j => if j = 1 then 1#64 else 0#64 }
def done1 : DoneV := { done0 with rd := 1, val := 1#64 }
def xs0 (d : Dev) : Xs := ⟨cpu0, addiI, 0x80000004#64, done0, d⟩
end Go.Anv
namespace Go.Proofs.YtdlpmbghocabbaaGreatDoor
open Go Go.Anv
set_option maxRecDepth 100000 in
theorem do_addi (d : Dev) : Does TB 12 [.agg cpu0.segs, .s (.ptr 0 0), .agg addiI.segs] d.h (fun v h' => v = .tuple [.agg cpu1.segs, .agg done1.segs] ∧ h' = d.h) := by
  refine fnXD_does TB Tryz.func12 rfl (by decide) (fun O on hO => ?_)
  repeat (refine need_intro (by first | exact fun h => h | exact nt | exact an2 | exact an3 | rfl | (simp; done) | fail) ?_)
  refine (properC0 _).mono ?_
  rintro _ _ ⟨rfl, rfl⟩
  repeat (refine need_intro (by first | exact fun h => h | exact nt | exact an2 | exact an3 | rfl | (simp; done) | fail) ?_)
  refine ⟨⟨_, _, _, rfl⟩, fun O' on' hO' hle => ?_⟩
  repeat (refine need_intro (by first | exact fun h => h | exact nt | exact an2 | exact an3 | rfl | (simp; done) | fail) ?_)
  refine Does.args (b := [.agg addiI.segs]) ⟨eqvS_refl _, trivial⟩ ?_
  refine (valid_spec addiI _).mono ?_
  rintro _ _ ⟨rfl, rfl⟩
  repeat (refine need_intro (by first | exact fun h => h | exact nt | exact an2 | exact an3 | rfl | (simp; done) | fail) ?_)
  have i0 : (0 : Int) < 32 := by decide
  have i1 : (0 : Int) ≤ 1 := by decide
  have i2 : (1 : Int) < 32 := by decide
  refine draw_to on' ?tt ?_ ?_
  rotate_left 1
  · refine draw_but [8] on' rfl (fun _ _ h => h) ?_
    repeat' (first | refine need_intro (by first | rfl | decide | fail) ?_ | refine And.intro ?_ ?_ | (refine (bodies_spec _).mono ?_; rintro _ _ ⟨rfl, rfl⟩))
    all_goals
      refine Does.at (immediate_addi (xs0 d) rfl (Int.le_refl 0) i0 i1 i2) [8, 0, 1, 2, 3] rfl ⟨rfl, rfl, rfl, rfl, rfl, trivial⟩ (by decide) ?_ ?_
      · rintro v h' ⟨_, rfl⟩
        exact ⟨.inl rfl, .inl rfl, .inl rfl, .inl rfl, .inl rfl, trivial⟩
      rintro v h' ⟨rfl, rfl⟩
      rw [forceH_eq, forceE_eq]
      repeat (refine need_intro (by first | rfl | fail) ?_)
      (refine toK_id ?_; rw [hO']; exact Nat.le_of_ble_eq_true rfl)
  repeat (refine need_intro (by first | exact fun h => h | exact nt | exact an2 | exact an3 | rfl | (simp; done) | fail) ?_)
  refine draw_to on' ?tu ?_ ?_
  rotate_left 1
  · refine draw_but [6, 7] on' rfl (fun _ _ h => h) ?_
    repeat' (first | refine need_intro (by first | rfl | decide | fail) ?_ | refine And.intro ?_ ?_)
    all_goals (refine toK_id ?_; rw [hO']; exact Nat.le_of_ble_eq_true rfl)
  repeat (refine need_intro (by first | exact fun h => h | exact nt | exact an2 | exact an3 | rfl | (simp; done) | fail) ?_)
  refine (catch_spec _ _ _ _).mono ?_
  rintro _ _ ⟨_, rfl⟩
  refine ⟨_, _, [0, 1, 2, 3], ⟨rfl, rfl⟩, by decide, ⟨rfl, rfl, rfl, rfl, trivial⟩, ⟨?_, ?_, trivial⟩, ⟨⟨_, rfl, eqvB_refl _⟩, ⟨_, rfl, eqvB_refl _⟩, ⟨_, rfl, eqvB_refl _⟩, ⟨_, rfl, eqvB_refl _⟩, trivial⟩⟩
  · refine ⟨⟨rfl, show bitX .andNot .u64 (((0x80000004#64 : B64).toNat : Nat) : Int) 1 = (((0x80000004#64 : B64).toNat : Nat) : Int) from by decide⟩, ⟨rfl, rfl, fun j _ => ?_⟩, ?_⟩
    · show wfun (fun j => if j = 1 then 1#64 else 0#64) j = _
      rfl
    · exact eqvS_refl _
  · exact eqvS_refl _
end Go.Proofs.YtdlpmbghocabbaaGreatDoor

/- The decoder's table; what it makes of one word (addi x1, x0, 1). Contracts of functions; printed by mk_f2.py. -/
namespace Go.Proofs.YtdlpmbghocabbaaGreatDoor
open Go Go.Anv
/-- The table's cells. -/
def formsS : List Seg := [.one (.int .i64 1), .one (.int .u32 127), .one (.int .u32 55), .one (.int .i64 0),
  .one (.int .i64 2), .one (.int .u32 127), .one (.int .u32 23), .one (.int .i64 0),
  .one (.int .i64 3), .one (.int .u32 127), .one (.int .u32 111), .one (.int .i64 1),
  .one (.int .i64 4), .one (.int .u32 28799), .one (.int .u32 103), .one (.int .i64 2),
  .one (.int .i64 5), .one (.int .u32 28799), .one (.int .u32 99), .one (.int .i64 3),
  .one (.int .i64 6), .one (.int .u32 28799), .one (.int .u32 4195), .one (.int .i64 3),
  .one (.int .i64 7), .one (.int .u32 28799), .one (.int .u32 16483), .one (.int .i64 3),
  .one (.int .i64 8), .one (.int .u32 28799), .one (.int .u32 20579), .one (.int .i64 3),
  .one (.int .i64 9), .one (.int .u32 28799), .one (.int .u32 24675), .one (.int .i64 3),
  .one (.int .i64 10), .one (.int .u32 28799), .one (.int .u32 28771), .one (.int .i64 3),
  .one (.int .i64 11), .one (.int .u32 28799), .one (.int .u32 3), .one (.int .i64 2),
  .one (.int .i64 12), .one (.int .u32 28799), .one (.int .u32 4099), .one (.int .i64 2),
  .one (.int .i64 13), .one (.int .u32 28799), .one (.int .u32 8195), .one (.int .i64 2),
  .one (.int .i64 14), .one (.int .u32 28799), .one (.int .u32 12291), .one (.int .i64 2),
  .one (.int .i64 15), .one (.int .u32 28799), .one (.int .u32 16387), .one (.int .i64 2),
  .one (.int .i64 16), .one (.int .u32 28799), .one (.int .u32 20483), .one (.int .i64 2),
  .one (.int .i64 17), .one (.int .u32 28799), .one (.int .u32 24579), .one (.int .i64 2),
  .one (.int .i64 18), .one (.int .u32 28799), .one (.int .u32 35), .one (.int .i64 4),
  .one (.int .i64 19), .one (.int .u32 28799), .one (.int .u32 4131), .one (.int .i64 4),
  .one (.int .i64 20), .one (.int .u32 28799), .one (.int .u32 8227), .one (.int .i64 4),
  .one (.int .i64 21), .one (.int .u32 28799), .one (.int .u32 12323), .one (.int .i64 4),
  .one (.int .i64 22), .one (.int .u32 28799), .one (.int .u32 19), .one (.int .i64 2),
  .one (.int .i64 23), .one (.int .u32 28799), .one (.int .u32 8211), .one (.int .i64 2),
  .one (.int .i64 24), .one (.int .u32 28799), .one (.int .u32 12307), .one (.int .i64 2),
  .one (.int .i64 25), .one (.int .u32 28799), .one (.int .u32 16403), .one (.int .i64 2),
  .one (.int .i64 26), .one (.int .u32 28799), .one (.int .u32 24595), .one (.int .i64 2),
  .one (.int .i64 27), .one (.int .u32 28799), .one (.int .u32 28691), .one (.int .i64 2),
  .one (.int .i64 28), .one (.int .u32 4227887231), .one (.int .u32 4115), .one (.int .i64 5),
  .one (.int .i64 29), .one (.int .u32 4227887231), .one (.int .u32 20499), .one (.int .i64 5),
  .one (.int .i64 30), .one (.int .u32 4227887231), .one (.int .u32 1073762323), .one (.int .i64 5),
  .one (.int .i64 31), .one (.int .u32 28799), .one (.int .u32 27), .one (.int .i64 2),
  .one (.int .i64 32), .one (.int .u32 4261441663), .one (.int .u32 4123), .one (.int .i64 6),
  .one (.int .i64 33), .one (.int .u32 4261441663), .one (.int .u32 20507), .one (.int .i64 6),
  .one (.int .i64 34), .one (.int .u32 4261441663), .one (.int .u32 1073762331), .one (.int .i64 6),
  .one (.int .i64 35), .one (.int .u32 4261441663), .one (.int .u32 51), .one (.int .i64 7),
  .one (.int .i64 36), .one (.int .u32 4261441663), .one (.int .u32 1073741875), .one (.int .i64 7),
  .one (.int .i64 37), .one (.int .u32 4261441663), .one (.int .u32 4147), .one (.int .i64 7),
  .one (.int .i64 38), .one (.int .u32 4261441663), .one (.int .u32 8243), .one (.int .i64 7),
  .one (.int .i64 39), .one (.int .u32 4261441663), .one (.int .u32 12339), .one (.int .i64 7),
  .one (.int .i64 40), .one (.int .u32 4261441663), .one (.int .u32 16435), .one (.int .i64 7),
  .one (.int .i64 41), .one (.int .u32 4261441663), .one (.int .u32 20531), .one (.int .i64 7),
  .one (.int .i64 42), .one (.int .u32 4261441663), .one (.int .u32 1073762355), .one (.int .i64 7),
  .one (.int .i64 43), .one (.int .u32 4261441663), .one (.int .u32 24627), .one (.int .i64 7),
  .one (.int .i64 44), .one (.int .u32 4261441663), .one (.int .u32 28723), .one (.int .i64 7),
  .one (.int .i64 45), .one (.int .u32 4261441663), .one (.int .u32 59), .one (.int .i64 7),
  .one (.int .i64 46), .one (.int .u32 4261441663), .one (.int .u32 1073741883), .one (.int .i64 7),
  .one (.int .i64 47), .one (.int .u32 4261441663), .one (.int .u32 4155), .one (.int .i64 7),
  .one (.int .i64 48), .one (.int .u32 4261441663), .one (.int .u32 20539), .one (.int .i64 7),
  .one (.int .i64 49), .one (.int .u32 4261441663), .one (.int .u32 1073762363), .one (.int .i64 7),
  .one (.int .i64 50), .one (.int .u32 28799), .one (.int .u32 15), .one (.int .i64 8),
  .one (.int .i64 51), .one (.int .u32 28799), .one (.int .u32 4111), .one (.int .i64 8),
  .one (.int .i64 52), .one (.int .u32 4294967295), .one (.int .u32 115), .one (.int .i64 9),
  .one (.int .i64 53), .one (.int .u32 4294967295), .one (.int .u32 1048691), .one (.int .i64 9),
  .one (.int .i64 54), .one (.int .u32 4294967295), .one (.int .u32 807403635), .one (.int .i64 9),
  .one (.int .i64 55), .one (.int .u32 4294967295), .one (.int .u32 273678451), .one (.int .i64 9),
  .one (.int .i64 56), .one (.int .u32 28799), .one (.int .u32 4211), .one (.int .i64 8),
  .one (.int .i64 57), .one (.int .u32 28799), .one (.int .u32 8307), .one (.int .i64 8),
  .one (.int .i64 58), .one (.int .u32 28799), .one (.int .u32 12403), .one (.int .i64 8),
  .one (.int .i64 59), .one (.int .u32 28799), .one (.int .u32 20595), .one (.int .i64 8),
  .one (.int .i64 60), .one (.int .u32 28799), .one (.int .u32 24691), .one (.int .i64 8),
  .one (.int .i64 61), .one (.int .u32 28799), .one (.int .u32 28787), .one (.int .i64 8),
  .one (.int .i64 62), .one (.int .u32 4261441663), .one (.int .u32 33554483), .one (.int .i64 7),
  .one (.int .i64 63), .one (.int .u32 4261441663), .one (.int .u32 33558579), .one (.int .i64 7),
  .one (.int .i64 64), .one (.int .u32 4261441663), .one (.int .u32 33562675), .one (.int .i64 7),
  .one (.int .i64 65), .one (.int .u32 4261441663), .one (.int .u32 33566771), .one (.int .i64 7),
  .one (.int .i64 66), .one (.int .u32 4261441663), .one (.int .u32 33570867), .one (.int .i64 7),
  .one (.int .i64 67), .one (.int .u32 4261441663), .one (.int .u32 33574963), .one (.int .i64 7),
  .one (.int .i64 68), .one (.int .u32 4261441663), .one (.int .u32 33579059), .one (.int .i64 7),
  .one (.int .i64 69), .one (.int .u32 4261441663), .one (.int .u32 33583155), .one (.int .i64 7),
  .one (.int .i64 70), .one (.int .u32 4261441663), .one (.int .u32 33554491), .one (.int .i64 7),
  .one (.int .i64 71), .one (.int .u32 4261441663), .one (.int .u32 33570875), .one (.int .i64 7),
  .one (.int .i64 72), .one (.int .u32 4261441663), .one (.int .u32 33574971), .one (.int .i64 7),
  .one (.int .i64 73), .one (.int .u32 4261441663), .one (.int .u32 33579067), .one (.int .i64 7),
  .one (.int .i64 74), .one (.int .u32 4261441663), .one (.int .u32 33583163), .one (.int .i64 7),
  .one (.int .i64 75), .one (.int .u32 4193284223), .one (.int .u32 268443695), .one (.int .i64 10),
  .one (.int .i64 76), .one (.int .u32 4160778367), .one (.int .u32 402661423), .one (.int .i64 10),
  .one (.int .i64 77), .one (.int .u32 4160778367), .one (.int .u32 134225967), .one (.int .i64 10),
  .one (.int .i64 78), .one (.int .u32 4160778367), .one (.int .u32 8239), .one (.int .i64 10),
  .one (.int .i64 79), .one (.int .u32 4160778367), .one (.int .u32 536879151), .one (.int .i64 10),
  .one (.int .i64 80), .one (.int .u32 4160778367), .one (.int .u32 1610620975), .one (.int .i64 10),
  .one (.int .i64 81), .one (.int .u32 4160778367), .one (.int .u32 1073750063), .one (.int .i64 10),
  .one (.int .i64 82), .one (.int .u32 4160778367), .one (.int .u32 2147491887), .one (.int .i64 10),
  .one (.int .i64 83), .one (.int .u32 4160778367), .one (.int .u32 2684362799), .one (.int .i64 10),
  .one (.int .i64 84), .one (.int .u32 4160778367), .one (.int .u32 3221233711), .one (.int .i64 10),
  .one (.int .i64 85), .one (.int .u32 4160778367), .one (.int .u32 3758104623), .one (.int .i64 10),
  .one (.int .i64 86), .one (.int .u32 4193284223), .one (.int .u32 268447791), .one (.int .i64 10),
  .one (.int .i64 87), .one (.int .u32 4160778367), .one (.int .u32 402665519), .one (.int .i64 10),
  .one (.int .i64 88), .one (.int .u32 4160778367), .one (.int .u32 134230063), .one (.int .i64 10),
  .one (.int .i64 89), .one (.int .u32 4160778367), .one (.int .u32 12335), .one (.int .i64 10),
  .one (.int .i64 90), .one (.int .u32 4160778367), .one (.int .u32 536883247), .one (.int .i64 10),
  .one (.int .i64 91), .one (.int .u32 4160778367), .one (.int .u32 1610625071), .one (.int .i64 10),
  .one (.int .i64 92), .one (.int .u32 4160778367), .one (.int .u32 1073754159), .one (.int .i64 10),
  .one (.int .i64 93), .one (.int .u32 4160778367), .one (.int .u32 2147495983), .one (.int .i64 10),
  .one (.int .i64 94), .one (.int .u32 4160778367), .one (.int .u32 2684366895), .one (.int .i64 10),
  .one (.int .i64 95), .one (.int .u32 4160778367), .one (.int .u32 3221237807), .one (.int .i64 10),
  .one (.int .i64 96), .one (.int .u32 4160778367), .one (.int .u32 3758108719), .one (.int .i64 10)]
set_option maxRecDepth 100000 in
set_option maxHeartbeats 4000000 in
theorem forms_spec : Does TB 129 [] [] (fun v h' => v = .s (.slice 0 0 96 96) ∧ h' = [.cells true formsS 0]) := by
  refine fnX_does TB Tryz.func129 rfl (by decide) (fun O on hO => ?_)
  repeat (refine need_intro (by first | exact fun h => h | exact nt | exact an2 | exact an3 | rfl | (simp; done) | fail) ?_)
  exact ⟨_, _, [0], ⟨rfl, rfl⟩, by decide, trivial, eqvE_refl _, ⟨⟨_, rfl, eqvB_refl _⟩, trivial⟩⟩
end Go.Proofs.YtdlpmbghocabbaaGreatDoor

/- One word is decoded: addi x1, x0, 1. Contracts of functions. -/
namespace Go.Anv
open Go
/-- addi x1, x0, 1. -/
def addi0 : List Seg := [.one (.int .i64 22), .one (.int .i64 1), .one (.int .i64 0), .one (.int .i64 0), .one (.int .i64 1), .one (.bool false), .one (.bool false), .one (.int .i64 4), .one (.int .u32 1048723)]
end Go.Anv
namespace Go.Proofs.YtdlpmbghocabbaaGreatDoor
open Go Go.Anv
set_option maxRecDepth 100000 in
theorem fill0 : Does TB 130 [.s (.ptr 0 0), .s (.int .u32 1048723), .s (.int .i64 2)] [.cells true [.one (.int .i64 22), .one (.int .i64 0), .one (.int .i64 0), .one (.int .i64 0), .one (.int .i64 0), .one (.bool false), .one (.bool false), .one (.int .i64 4), .one (.int .u32 1048723)] 0]
    (fun r h' => r = .tuple [] ∧ h' = [.cells true addi0 0]) := by
  refine fnX_does TB Tryz.func130 rfl (by decide) (fun O on hO => ?_)
  repeat (refine need_intro (by first | exact fun h => h | exact nt | exact an2 | exact an3 | rfl | (simp; done) | fail) ?_)
  refine (field_11_7 _).mono ?_
  rintro _ _ ⟨rfl, rfl⟩
  repeat (refine need_intro (by first | exact fun h => h | exact nt | exact an2 | exact an3 | rfl | (simp; done) | fail) ?_)
  refine (field_19_15 _).mono ?_
  rintro _ _ ⟨rfl, rfl⟩
  repeat (refine need_intro (by first | exact fun h => h | exact nt | exact an2 | exact an3 | rfl | (simp; done) | fail) ?_)
  refine (field_24_20 _).mono ?_
  rintro _ _ ⟨rfl, rfl⟩
  repeat (refine need_intro (by first | exact fun h => h | exact nt | exact an2 | exact an3 | rfl | (simp; done) | fail) ?_)
  refine (field_31_20 _).mono ?_
  rintro _ _ ⟨rfl, rfl⟩
  repeat (refine need_intro (by first | exact fun h => h | exact nt | exact an2 | exact an3 | rfl | (simp; done) | fail) ?_)
  refine (signed_1_12 _).mono ?_
  rintro _ _ ⟨rfl, rfl⟩
  repeat (refine need_intro (by first | exact fun h => h | exact nt | exact an2 | exact an3 | rfl | (simp; done) | fail) ?_)
  exact Ends.same ⟨rfl, rfl⟩ (Nat.le_of_ble_eq_true rfl)
set_option maxRecDepth 100000 in
set_option maxHeartbeats 4000000 in
theorem decode0 (h : List Blk) : Does TB 107 [.s (.int .u32 1048723)] h (fun r h' => r = .agg addi0 ∧ h' = h) := by
  refine fnX_pur TB Tryz.func107 rfl (by decide) rfl _ rfl (fun O on hO => ?_) h
  repeat (refine need_intro (by first | exact fun h => h | exact nt | exact an2 | exact an3 | rfl | (simp; done) | fail) ?_)
  refine (length_addi _).mono ?_
  rintro _ _ ⟨rfl, rfl⟩
  repeat (refine need_intro (by first | exact fun h => h | exact nt | exact an2 | exact an3 | rfl | (simp; done) | fail) ?_)
  refine Does.at forms_spec [] rfl trivial (by decide) (by rintro v h' ⟨_, rfl⟩; exact ⟨.inl rfl, trivial⟩) ?_
  rintro v h' ⟨rfl, rfl⟩
  rw [forceH_eq, forceE_eq]
  repeat (refine need_intro (by first | exact fun h => h | exact nt | exact an2 | exact an3 | rfl | (simp; done) | fail) ?_)
  refine loop_times on 22 ?_
  repeat (first | refine Box.mk ?_ | refine need_intro (by first | decide | fail) ?_)
  refine Does.at fill0 [1] rfl ⟨rfl, trivial⟩ (by decide) (by rintro v h' ⟨_, rfl⟩; exact ⟨.inl rfl, trivial⟩) ?_
  rintro v h' ⟨rfl, rfl⟩
  rw [forceH_eq, forceE_eq]
  repeat (first | refine Box.mk ?_ | refine need_intro (by first | decide | fail) ?_)
  exact eqvE_refl _
end Go.Proofs.YtdlpmbghocabbaaGreatDoor

/- A hart in the midst of a step. Definitions alone. -/
namespace Go.Anv
open Go
/-- A hart in the midst of a step, over a bus. -/
structure Hs where
  c : CpuV
  r : RowV
  d : DoneV
  b : Dev
def hturnS (c : CpuV) (b : SV) (r : RowV) (d : DoneV) : List Seg := c.segs ++ (.one b :: r.segs ++ d.segs)
def Hs.blk (x : Hs) : Blk := .cells true (hturnS x.c (.ptr 1 0) x.r x.d) 0
def Hs.h (x : Hs) : List Blk := [x.blk, x.b.blk 2, x.b.rb, x.b.ib, x.b.ob]
def RowV.ends (r : RowV) (c : CpuV) : RowV := { r with next := c.pc, nextMode := c.mode }
/-- What an instruction did goes into the row. -/
def RowV.told (r : RowV) (d : DoneV) : RowV := { r with kind := 1, rd := d.rd, val := d.val, mem := d.mem, addr := d.addr, size := d.size, data := d.data }
def row0 : RowV := ⟨0, 0, 0, 0#64, 0#32, 0, 0#64, 0#64, 0, 0#64, 0, 0#64, 0, 0#64, 0#64, 0⟩
end Go.Anv

/- Where the hart stands behind a step. Contract of a function. -/
namespace Go.Proofs.YtdlpmbghocabbaaGreatDoor
open Go Go.Anv
set_option maxRecDepth 100000 in
theorem end_spec (x : Hs) : Does TB 70 [.s (.ptr 0 0)] x.h (fun v h' => v = .tuple [.agg x.c.segs, .agg (x.r.ends x.c).segs] ∧ h' = ({ x with r := x.r.ends x.c } : Hs).h) := by
  refine fnX_does TB Tryz.func70 rfl (by decide) (fun O on hO => ?_)
  refine draw_to on ?tt7 ?_ ?_
  rotate_left 1
  · refine draw_but [0] on rfl (fun _ _ h => h) ?_
    repeat' (first | refine need_intro (by first | exact fun h => h | exact nt | exact an2 | exact an3 | rfl | (simp; done) | fail) ?_ | refine And.intro ?_ ?_)
    all_goals (refine toK_id ?_; rw [hO]; exact Nat.le_of_ble_eq_true rfl)
  refine draw_to on ?tt8 ?_ ?_
  rotate_left 1
  · refine draw_but [5, 6] on rfl (fun _ _ h => h) ?_
    repeat' (first | refine need_intro (by first | exact fun h => h | exact nt | exact an2 | exact an3 | rfl | (simp; done) | fail) ?_ | refine And.intro ?_ ?_)
    all_goals (refine toK_id ?_; rw [hO]; exact Nat.le_of_ble_eq_true rfl)
  repeat (refine need_intro (by first | exact fun h => h | exact nt | exact an2 | exact an3 | rfl | (simp; done) | fail) ?_)
  exact ⟨_, _, [0, 1, 2, 3, 4], ⟨rfl, rfl⟩, by decide, ⟨rfl, rfl, rfl, rfl, rfl, trivial⟩, eqvE_refl _, ⟨⟨_, rfl, eqvB_refl _⟩, ⟨_, rfl, eqvB_refl _⟩, ⟨_, rfl, eqvB_refl _⟩, ⟨_, rfl, eqvB_refl _⟩, ⟨_, rfl, eqvB_refl _⟩, trivial⟩⟩
end Go.Proofs.YtdlpmbghocabbaaGreatDoor
