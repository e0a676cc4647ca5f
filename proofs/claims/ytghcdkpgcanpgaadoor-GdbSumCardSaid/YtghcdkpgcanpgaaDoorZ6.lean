/- Part 6 of the texts of this claim, merged: E18, H1, X1, X2, X3, X4, E22, X5, E20, E21, H2, H3, H4, E14. No condition: plain theorems, contracts of functions. -/
import Derived.Test.YtghcdkpgcanpgaaDoorZ5
import Derived.Shelf.Spec.DecodeRune
import Derived.Test.YtghcdkpgcanpgaaDoorChecked
import Derived.Shelf.Strings.IndexAnyAll
import Derived.KernelRfl
import Derived.Lib.Bytealg
import Derived.Lib.IndexEntry
import Derived.Stop.FmtQuoteTie
import Derived.ChangeSlices
import Derived.OpenShut
import Derived.SizedLaws

set_option linter.unusedSimpArgs false
set_option linter.unusedVariables false
/- The engine, part 18: contracts that leave all as it was: used in a larger heap; shown at a function's end. Plain theorems, no condition. -/
namespace Go.Anv
open Go

theorem updB_self : ∀ {h : List Blk} {k : Nat} {B : Blk}, nthB h k = some B → updB h k B = h
  | [], _, _, h => by simp [nthB] at h
  | x :: r, 0, B, h => by simp only [nthB, Option.some.injEq] at h; subst h; rfl
  | x :: r, k + 1, B, h => by simp only [nthB] at h; simp only [updB, updB_self h]

theorem mergeB_self {h : List Blk} : ∀ {κ : List Nat} {r : List Blk}, subH h κ r → mergeB h κ r = h
  | [], [], _ => by simp [mergeB]
  | k :: κ, B :: r, hk => by
    rw [mergeB, updB_self hk.1]
    exact mergeB_self hk.2
  | [], _ :: _, hk => hk.elim
  | _ :: _, [], hk => hk.elim

theorem roOk_self : ∀ h : List Blk, roOk h h
  | [] => trivial
  | _ :: r => ⟨.inr (.inr rfl), roOk_self r⟩

/-- A contract that leaves its heap as it was, in a larger heap. -/
theorem Does.atc {T : Tbl} {f : FuncId} {args : List EV} {hc : List Blk} {X : EV} (c : Does T f args hc (fun v h' => v = X ∧ h' = hc)) (κ : List Nat) {args' : List EV} {h : List Blk} {K : EV → List Blk → Prop}
    (ha : args' = renT (lk κ h.length) args) (hh : subH h κ (renH (lk κ h.length) hc)) (hnd : κ.Nodup) (hK : forceE (renE (lk κ h.length) X) fun v => K v h) : Does T f args' h K := by
  refine Does.at c κ ha hh hnd ?_ ?_
  · rintro v h' ⟨_, rfl⟩
    exact roOk_self _
  · rintro v h' ⟨rfl, rfl⟩
    rw [mergeB_self hh, forceH_eq]
    exact hK

theorem subQ_pre (J : List Blk) : ∀ (H P : List Blk), subQ (P ++ (H ++ J)) (List.range' P.length H.length) H
  | [], _ => trivial
  | B :: r, P => by
    refine ⟨⟨B, ?_, eqvB_refl B⟩, ?_⟩
    · apply get_nthB
      rw [List.getElem?_append_right (Nat.le_refl _), Nat.sub_self]
      rfl
    · have := subQ_pre J r (P ++ [B])
      simpa [List.append_assoc] using this

/-- The end of a function that leaves its heap as it was; new blocks are let go. -/
theorem Ends.ro {n : Nat} {H J : List Blk} {X x : EV} (hn : H.length = n) (hx : eqvE x (renE (lk (List.range n) (H ++ J).length) X)) (hH : renH (lk (List.range n) (H ++ J).length) H = H) : Ends n (fun v h' => v = X ∧ h' = H) x (H ++ J) := by
  subst hn
  refine ⟨X, H, List.range H.length, ⟨rfl, rfl⟩, List.nodup_range, ?_, hx, ?_⟩
  · rw [List.range_eq_range']; exact idK_range _ _ 0 (Nat.le_refl _)
  · rw [hH, List.range_eq_range']
    exact subQ_pre J H []

/-! ### a drawn region's orders, one state for all -/

theorem eqvH_subQ (h : List Blk) : subQ h (List.range' 0 h.length) h := subQ_range h h 0 rfl

theorem renT_same' {ρ : Nat → Nat} (hρ : ∀ i, ρ i = i) : ∀ l : List EV, renT ρ l = l := renT_same hρ

theorem leR_refl {n : Nat} {s : St} (hn : n ≤ s.heap.length) : leR n (List.range s.heap.length) s s := by
  have hlk : ∀ i, lk (List.range s.heap.length) s.heap.length i = i := lk_range s.heap.length
  refine ⟨List.nodup_range, ?_, ?_, ?_⟩
  · rw [List.range_eq_range']; exact idK_range n _ 0 hn
  · rw [renT_same' hlk]; exact eqvT_refl _
  · rw [renH_same hlk, List.range_eq_range']
    exact eqvH_subQ _

def toK (n : Nat) (t : St) : Exit → St → Prop
  | .normal, s => ∃ κ, leR n κ s t
  | _, _ => False

/-- **A drawn region: all its orders end in one state (with other numbers), from which the walk goes on.** -/
theorem draw_to {T : Tbl} {O : Org} (on : O.E.n = O.h.length) {id : Nat} {ops : Array Oper} {s : St} {K : Exit → St → Prop} (t : St) (hd : DrawG T O id ops s (toK O.E.n t)) (hk : K .normal t) : DrawG T O id ops s K := by
  intro E a w R
  refine Code.wp_mono ?_ (hd E a w R)
  rintro e a' w' ⟨E', s', h1, R'⟩
  cases e with
  | normal =>
    obtain ⟨κ, hκ⟩ := h1
    obtain ⟨E'', R''⟩ := R'.renum on hκ
    exact ⟨E'', t, hk, R''⟩
  | _ => exact h1.elim

theorem toK_id {n : Nat} {s : St} (hn : n ≤ s.heap.length) : toK n s .normal s := ⟨_, leR_refl hn⟩

theorem toK_of {n : Nat} {s t : St} (κ : List Nat) (h1 : κ.Nodup) (h2 : idK 0 n κ) (h3 : eqvT s.tmps (renT (lk κ s.heap.length) t.tmps)) (h4 : subQ s.heap κ (renH (lk κ s.heap.length) t.heap)) : toK n t .normal s := ⟨κ, h1, h2, h3, h4⟩

/-! ### numbers of blocks, written out -/

def litK (b : Nat) (k : Nat → Prop) : Prop :=
  match b with
  | 0 => k 0
  | 1 => k 1
  | 2 => k 2
  | 3 => k 3
  | 4 => k 4
  | 5 => k 5
  | 6 => k 6
  | 7 => k 7
  | 8 => k 8
  | 9 => k 9
  | 10 => k 10
  | 11 => k 11
  | 12 => k 12
  | 13 => k 13
  | 14 => k 14
  | 15 => k 15
  | 16 => k 16
  | 17 => k 17
  | 18 => k 18
  | 19 => k 19
  | 20 => k 20
  | 21 => k 21
  | 22 => k 22
  | 23 => k 23
  | 24 => k 24
  | 25 => k 25
  | 26 => k 26
  | 27 => k 27
  | 28 => k 28
  | 29 => k 29
  | 30 => k 30
  | 31 => k 31
  | 32 => k 32
  | 33 => k 33
  | 34 => k 34
  | 35 => k 35
  | 36 => k 36
  | 37 => k 37
  | 38 => k 38
  | 39 => k 39
  | n => k n

theorem litK_eq (b : Nat) (k : Nat → Prop) : litK b k = k b := by
  unfold litK
  split <;> rfl

mutual
def nV : SV → (SV → Prop) → Prop
  | .junk, k => k .junk
  | .int q n, k => k (.int q n)
  | .bool b, k => k (.bool b)
  | .str s, k => k (.str s)
  | .ptr b o, k => litK b fun b => k (.ptr b o)
  | .pix b o i, k => litK b fun b => k (.pix b o i)
  | .rp b o i z, k => litK b fun b => k (.rp b o i z)
  | .nilptr, k => k .nilptr
  | .slice b o l c, k => litK b fun b => k (.slice b o l c)
  | .nilslice, k => k .nilslice
  | .gs b o l c, k => litK b fun b => k (.gs b o l c)
  | .map b, k => litK b fun b => k (.map b)
  | .nilmap, k => k .nilmap
  | .func f a c, k => nL a fun a => nL c fun c => k (.func f a c)
  | .nilfunc, k => k .nilfunc
  | .iface t a c, k => nL c fun c => k (.iface t a c)
  | .niliface, k => k .niliface
def nL : List SV → (List SV → Prop) → Prop
  | [], k => k []
  | x :: r, k => nV x fun x => nL r fun r => k (x :: r)
end

mutual
theorem nV_eq : ∀ (v : SV) (k : SV → Prop), nV v k = k v
  | .junk, _ => rfl
  | .int .., _ => rfl
  | .bool _, _ => rfl
  | .str _, _ => rfl
  | .ptr .., _ => by simp only [nV, litK_eq]
  | .pix .., _ => by simp only [nV, litK_eq]
  | .rp .., _ => by simp only [nV, litK_eq]
  | .nilptr, _ => rfl
  | .slice .., _ => by simp only [nV, litK_eq]
  | .nilslice, _ => rfl
  | .gs .., _ => by simp only [nV, litK_eq]
  | .map _, _ => by simp only [nV, litK_eq]
  | .nilmap, _ => rfl
  | .func f a c, k => by simp only [nV]; rw [nL_eq a]; rw [nL_eq c]
  | .nilfunc, _ => rfl
  | .iface t a c, k => by simp only [nV]; rw [nL_eq c]
  | .niliface, _ => rfl
theorem nL_eq : ∀ (l : List SV) (k : List SV → Prop), nL l k = k l
  | [], _ => rfl
  | x :: r, k => by simp only [nL]; rw [nV_eq x]; rw [nL_eq r]
end

def nS (l : List Seg) : (List Seg → Prop) → Prop :=
  List.rec (motive := fun _ => (List Seg → Prop) → Prop) (fun k => k []) (fun x _ ih k => match x with
    | .one v => nV v fun v => ih fun r => k (.one v :: r)
    | .ints q n f => ih fun r => k (.ints q n f :: r)) l

theorem nS_eq : ∀ (cs : List Seg) (k : List Seg → Prop), nS cs k = k cs
  | [], _ => rfl
  | .one v :: r, k => by
    show (nV v fun v => nS r fun r => k (.one v :: r)) = _
    rw [nV_eq, nS_eq r]
  | .ints q n f :: r, k => by
    show (nS r fun r => k (.ints q n f :: r)) = _
    rw [nS_eq r]

def nB (B : Blk) (k : Blk → Prop) : Prop :=
  match B with
  | .cells m cs sp => nS cs fun cs => k (.cells m cs sp)
  | .recs m n z f sp => k (.recs m n z f sp)
  | .map es => k (.map es)
  | .dead => k .dead

def nH (l : List Blk) : (List Blk → Prop) → Prop :=
  List.rec (motive := fun _ => (List Blk → Prop) → Prop) (fun k => k []) (fun B _ ih k => nB B fun B => ih fun r => k (B :: r)) l

theorem nB_eq (B : Blk) (k : Blk → Prop) : nB B k = k B := by cases B <;> simp only [nB, nS_eq]
theorem nH_eq : ∀ (h : List Blk) (k : List Blk → Prop), nH h k = k h
  | [], _ => rfl
  | B :: r, k => by
    show (nB B fun B => nH r fun r => k (B :: r)) = _
    rw [nB_eq, nH_eq r]

def nE (v : EV) (k : EV → Prop) : Prop :=
  match v with
  | .s v => nV v fun v => k (.s v)
  | .agg cs => nS cs fun cs => k (.agg cs)
  | v => forceE v k

theorem nE_eq (v : EV) (k : EV → Prop) : nE v k = k v := by
  cases v <;> simp only [nE, nV_eq, nS_eq, forceE_eq]

/-- A contract in a larger heap; the numbers behind it are written out. -/
theorem Does.atn {T : Tbl} {f : FuncId} {args : List EV} {hc : List Blk} {Q : EV → List Blk → Prop} (c : Does T f args hc Q) (κ : List Nat) {args' : List EV} {h : List Blk} {K : EV → List Blk → Prop}
    (ha : args' = renT (lk κ h.length) args) (hh : subH h κ (renH (lk κ h.length) hc)) (hnd : κ.Nodup) (hro : ∀ v h', Q v h' → roOk hc h')
    (hK : ∀ v' h', Q v' h' → nH (mergeB h κ (renH (lk κ h.length) h')) fun h2 => nE (renE (lk κ h.length) v') fun v => K v h2) : Does T f args' h K :=
  Does.at c κ ha hh hnd hro fun v' h' hq => by
    have := hK v' h' hq
    rw [nH_eq, nE_eq] at this
    rw [forceH_eq, forceE_eq]
    exact this
end Go.Anv

/- The debugger's packets: a hex digit, two of them, the payload of a body. No condition: contracts of functions. -/
namespace Go.Anv
open Go
def hexes : List Int := [48, 49, 50, 51, 52, 53, 54, 55, 56, 57, 97, 98, 99, 100, 101, 102]
theorem cnd_and (a b : Bool) : (bif a then b else false) = (a && b) := by cases a <;> rfl
theorem cnd_or (a b : Bool) : (bif a then true else b) = (a || b) := by cases a <;> rfl
/-- A hex digit's value, or -1. -/
def digitI (c : B8) : Int :=
  let d := if 65#8 ≤ c ∧ c ≤ 70#8 then c + 32#8 else c
  Lib.indexByte (Lib.bytesOf hexes) ((d.toNat : Int)).toNat.toUInt8
def pairI (a b : B8) : Int := if digitI a < 0 ∨ digitI b < 0 then -1 else bitX .or .i64 (IntKind.i64.wrap (digitI a * 2 ^ min (Int.toNat 4) IntKind.i64.bits)) (digitI b)
end Go.Anv
namespace Go.Proofs.YtghcdkpgcanpgaaDoor
open Go Go.Anv
theorem index16_spec (m : Bool) (c : B8) : Does TB 7 [.s (.slice 0 0 16 16), .s (.int .u8 c.toNat)] [.cells m [.ints .u8 16 (litF hexes)] 0]
    (fun v h' => v = .s (.int .i64 (Lib.indexByte (Lib.bytesOf hexes) ((c.toNat : Int)).toNat.toUInt8)) ∧ h' = [.cells m [.ints .u8 16 (litF hexes)] 0]) := by
  refine fnX_does TB Tryd.func7 rfl (by decide) (fun O on hO => ?_)
  refine (index_body m 0 c.toNat (litF hexes) 16 16).mono ?_
  rintro v h' ⟨rfl, rfl⟩
  exact ⟨_, _, [0], ⟨rfl, rfl⟩, by decide, ⟨rfl, trivial⟩, ⟨rfl, rfl⟩, ⟨⟨_, rfl, eqvB_refl _⟩, trivial⟩⟩
theorem digit_spec (c : B8) (h : List Blk) : Does TB 13 [.s (.int .u8 c.toNat)] h (fun v h' => v = .s (.int .i64 (digitI c)) ∧ h' = h) := by
  refine fnX_pure TB Tryd.func13 rfl (by decide) rfl _ rfl (fun O on => ?_) h
  repeat (refine need_intro (by first | exact an2 | exact an3 | exact fun h => h | exact nt | exact an2 | exact an3 | rfl | (simp; done) | fail) ?_)
  have e1 : (bif decide (((c.toNat : Nat) : Int) ≥ 65) then decide (((c.toNat : Nat) : Int) ≤ 70) else false) = decide (65#8 ≤ c ∧ c ≤ 70#8) := by
    rw [cnd_and, Bool.eq_iff_iff, Bool.and_eq_true, decide_eq_true_eq, decide_eq_true_eq, decide_eq_true_eq, BitVec.le_def, BitVec.le_def]
    show _ ↔ 65 ≤ c.toNat ∧ c.toNat ≤ 70
    omega
  refine ifB_intro (fun h1 => ?_) (fun h1 => ?_)
  · have h1 := of_decide_eq_true (e1.symm.trans h1)
    repeat (refine need_intro (by first | exact an2 | exact an3 | (show (0 : Nat) < 16; decide) | exact fun h => h | exact nt | exact an2 | exact an3 | rfl | (simp; done) | fail) ?_)
    refine Does.args (b := [.s (.slice 0 0 16 16), .s (.int .u8 (((c + 32#8).toNat : Nat) : Int))]) ⟨eqvE_refl _, ⟨rfl, ?_⟩, trivial⟩ ?_
    · rw [wrap_u8, BitVec.ofInt_add, ofInt_toNat]
      rfl
    refine Does.atc (index16_spec true (c + 32#8)) [0] rfl ⟨rfl, trivial⟩ (by decide) ?_
    refine ⟨rfl, ?_⟩
    unfold digitI
    rw [if_pos h1]
  · have h1 := of_decide_eq_false (e1.symm.trans h1)
    repeat (refine need_intro (by first | exact an2 | exact an3 | (show (0 : Nat) < 16; decide) | exact fun h => h | exact nt | exact an2 | exact an3 | rfl | (simp; done) | fail) ?_)
    refine Does.args (b := [.s (.slice 0 0 16 16), .s (.int .u8 ((c.toNat : Nat) : Int))]) ⟨eqvE_refl _, ⟨rfl, rfl⟩, trivial⟩ ?_
    refine Does.atc (index16_spec true c) [0] rfl ⟨rfl, trivial⟩ (by decide) ?_
    refine ⟨rfl, ?_⟩
    unfold digitI
    rw [if_neg h1]
theorem digit_range (c : B8) : -1 ≤ digitI c ∧ digitI c ≤ 15 := by
  revert c
  decide +kernel
theorem pair_spec (a b : B8) (h : List Blk) : Does TB 9 [.s (.int .u8 a.toNat), .s (.int .u8 b.toNat)] h (fun v h' => v = .s (.int .i64 (pairI a b)) ∧ h' = h) := by
  refine fnX_pure TB Tryd.func9 rfl (by decide) rfl _ rfl (fun O on => ?_) h
  refine (digit_spec a _).mono ?_
  rintro _ _ ⟨rfl, rfl⟩
  repeat (refine need_intro (by first | exact an2 | exact an3 | exact fun h => h | exact nt | exact an2 | exact an3 | rfl | (simp; done) | fail) ?_)
  refine (digit_spec b _).mono ?_
  rintro _ _ ⟨rfl, rfl⟩
  repeat (refine need_intro (by first | exact an2 | exact an3 | exact fun h => h | exact nt | exact an2 | exact an3 | rfl | (simp; done) | fail) ?_)
  have e1 : (bif decide (digitI a < 0) then true else decide (digitI b < 0)) = decide (digitI a < 0 ∨ digitI b < 0) := by
    rw [cnd_or, Bool.eq_iff_iff, Bool.or_eq_true, decide_eq_true_eq, decide_eq_true_eq, decide_eq_true_eq]
  refine ifB_intro (fun h1 => ?_) (fun h1 => ?_)
  · have h1 := of_decide_eq_true (e1.symm.trans h1)
    refine ⟨rfl, ?_⟩
    unfold pairI
    rw [if_pos h1]
  · have h1 := of_decide_eq_false (e1.symm.trans h1)
    repeat (refine need_intro (by first | exact an2 | exact an3 | exact decide | exact fun h => h | exact nt | exact an2 | exact an3 | rfl | (simp; done) | fail) ?_)
    refine ⟨rfl, ?_⟩
    unfold pairI
    rw [if_neg h1]
end Go.Proofs.YtghcdkpgcanpgaaDoor
namespace Go.Anv
open Go
theorem body_step (p : Nat → B8) (k : Nat) : ∀ n, k < n → ∀ j, j < (esc (p k)).length → (bodyN p n)[(bodyN p k).length + j]? = (esc (p k))[j]? ∧ (bodyN p k).length + (esc (p k)).length ≤ (bodyN p n).length
  | 0, h, _, _ => absurd h (Nat.not_lt_zero k)
  | n + 1, h, j, hj => by
    rw [bodyN]
    rcases Nat.lt_succ_iff_lt_or_eq.1 h with h' | h'
    · obtain ⟨h1, h2⟩ := body_step p k n h' j hj
      refine ⟨?_, by rw [List.length_append]; omega⟩
      rw [List.getElem?_append_left (by omega)]
      exact h1
    · subst h'
      refine ⟨?_, by rw [List.length_append]; omega⟩
      rw [List.getElem?_append_right (by omega), Nat.add_sub_cancel_left]
theorem back32 (b : B8) : (b ^^^ 32#8) ^^^ BitVec.ofInt 8 32 = b := by
  revert b
  decide +kernel
theorem cat_snoc (p : Nat → B8) (k : Nat) (v : Int) (hv : v = (((p k).toNat : Nat) : Int)) : ∀ j, j < k + 1 → catF k (bfun p) (shf 0 (litF [v])) j = bfun p j := by
  intro j hj
  unfold catF
  split
  · rfl
  · have : j = k := by omega
    subst this
    rw [Nat.sub_self]
    exact hv
theorem body_next (p : Nat → B8) (k : Nat) : (bodyN p (k + 1)).length = (bodyN p k).length + (esc (p k)).length := by rw [bodyN, List.length_append]
end Go.Anv
namespace Go.Proofs.YtghcdkpgcanpgaaDoor
open Go Go.Anv
set_option maxRecDepth 100000 in
theorem plain_spec (m : Bool) (N o c sp n : Nat) (p q : Nat → B8) (hn : n ≤ 1000) (hN : o + (bodyN p n).length ≤ N) (hq : ∀ j, j < (bodyN p n).length → (bodyN p n)[j]? = some (q (o + j))) :
    Does TB 11 [.s (.gs 0 o (bodyN p n).length c)] [bblk m N q sp] (fun v h' => ∃ cap, n ≤ cap ∧ v = .tuple [.s (.gs 1 0 n cap), .s (.bool true)] ∧ h' = [bblk m N q sp, bblk true n p (cap - n)]) := by
  refine fnX_does TB Tryd.func11 rfl (by decide) (fun O on hO => ?_)
  repeat (refine need_intro (by first | exact an2 | exact an3 | exact fun h => h | exact nt | exact an2 | exact an3 | rfl | (simp; done) | fail) ?_)
  have hL := bodyN_len p n
  refine loop_in (A := Nat × Nat) on (fun i => [(7, .junk), (4, .s (.gs 1 0 i.1 i.2)), (5, .s (.int .i64 ((bodyN p i.1).length : Int)))]) (fun i => [bblk m N q sp, bblk true i.1 p (i.2 - i.1)]) (fun i => i.1 ≤ n ∧ i.1 ≤ i.2) (fun i => n - i.1) (0, 0) ⟨Nat.zero_le _, Nat.le_refl _⟩ [0, 1] ?_ ?_
  · rw [hO]
    refine ⟨by decide, ⟨rfl, trivial⟩, ?_, ?_⟩
    · repeat' (first | exact eqvT_nil | refine eqvT_junk ?_ | refine eqvT_same ?_ | refine eqvT_int ?_ ?_ | refine eqvT_sgs ⟨rfl, rfl, rfl, rfl⟩ ?_)
    · exact ⟨⟨_, rfl, eqvB_refl _⟩, ⟨_, rfl, ⟨rfl, rfl, eqvS_ints (fun j hj => absurd hj (Nat.not_lt_zero j)) eqvS_nil⟩⟩, trivial⟩
  · intro x hx
    refine ifB_intro (fun h1 => ?_) (fun h1 => ?_)
    · have h1 : (bodyN p x.1).length < (bodyN p n).length := by have := of_decide_eq_true h1; omega
      have hk : x.1 < n := by
        rcases Nat.lt_or_ge x.1 n with h | h
        · exact h
        · have : x.1 = n := by omega
          rw [this] at h1
          omega
      have hb0 := body_step p x.1 n hk 0 (by unfold esc; split <;> simp)
      have hq0 := hq (bodyN p x.1).length (by omega)
      rw [Nat.add_zero, hq0] at hb0
      repeat (refine need_intro (by first | omega | (exact ⟨by omega, by omega⟩) | exact fun h => h | exact nt | exact an2 | exact an3 | rfl | (simp; done) | fail) ?_)
      have eq0 : bfun q (o + (((bodyN p x.1).length : Nat) : Int).toNat) = (((q (o + (bodyN p x.1).length)).toNat : Nat) : Int) := rfl
      refine ifB_intro (fun h2 => ?_) (fun h2 => ?_)
      · have h2 : q (o + (bodyN p x.1).length) = 125#8 := by
          have := eq_of_beq h2
          rw [eq0] at this
          exact BitVec.eq_of_toNat_eq (by show _ = 125; omega)
        have hs : special (p x.1) = true := by
          cases hs : special (p x.1) with
          | true => rfl
          | false =>
            have e : esc (p x.1) = [p x.1] := by unfold esc; rw [hs]; rfl
            rw [e, h2] at hb0
            have : p x.1 = 125#8 := (Option.some.inj hb0.1).symm
            rw [this] at hs
            cases hs
        have he : esc (p x.1) = [125#8, p x.1 ^^^ 32#8] := by unfold esc; rw [hs]; rfl
        have hb1 := body_step p x.1 n hk 1 (by rw [he]; exact Nat.lt_succ_self 1)
        rw [he] at hb1
        have hz : (bodyN p x.1).length + 2 ≤ (bodyN p n).length := hb1.2
        have hq1 := hq ((bodyN p x.1).length + 1) (by omega)
        rw [hq1] at hb1
        have hv : q (o + ((bodyN p x.1).length + 1)) = p x.1 ^^^ 32#8 := Option.some.inj hb1.1
        have hw : IntKind.i64.wrap (((bodyN p x.1).length : Int) + 1) = (((bodyN p x.1).length + 1 : Nat) : Int) := by rw [i64_in (by omega) (by omega)]; omega
        refine ifB_intro (fun h => ?_) (fun _ => ?_)
        · have h := of_decide_eq_true h
          rw [hw] at h
          omega
        repeat (refine need_intro (by first | (rw [hw]; omega) | (rw [hw]; exact ⟨by omega, by omega⟩) | exact fun h => h | exact nt | exact an2 | exact an3 | rfl | (simp; done) | fail) ?_)
        have hw2 : IntKind.i64.wrap (IntKind.i64.wrap (((bodyN p x.1).length : Int) + 1) + 1) = (((bodyN p (x.1 + 1)).length : Nat) : Int) := by
          rw [hw, body_next, he, i64_in (by omega) (by omega)]
          show _ = (((bodyN p x.1).length + 2 : Nat) : Int)
          omega
        have hx : bitX .xor .u8 (bfun q (o + (IntKind.i64.wrap (((bodyN p x.1).length : Int) + 1)).toNat)) 32 = (((p x.1).toNat : Nat) : Int) := by
          rw [hw, Int.toNat_natCast, bfun, hv, xor_u8, ofInt_toNat]
          congr 2
          exact back32 _
        refine need_intro ⟨Nat.le_refl _, by show x.1 + 0 = x.1 * 1; omega, by show x.2 * 1 = x.1 * 1 + (x.2 - x.1); omega, room5 _ (by show x.1 + 1 ≤ _; omega)⟩ ?_
        intro c1 hc1
        have hc1 : x.1 + 1 ≤ c1 := hc1
        repeat (refine need_intro (by first | exact an2 | exact an3 | exact fun h => h | exact nt | exact an2 | exact an3 | rfl | (simp; done) | fail) ?_)
        refine ⟨(x.1 + 1, c1), ⟨hk, hc1⟩, by show n - (x.1 + 1) < n - x.1; omega, [0, 3], ?_⟩
        rw [hO]
        refine ⟨by decide, ⟨rfl, trivial⟩, ?_, ?_⟩
        · repeat' (first | exact eqvT_nil | refine eqvT_junk ?_ | refine eqvT_same ?_ | refine eqvT_int ?_ ?_ | refine eqvT_gs ⟨rfl, rfl, rfl, rfl⟩ ?_)
          exact hw2
        · refine ⟨⟨_, rfl, eqvB_refl _⟩, ⟨_, rfl, ⟨rfl, ?_, ⟨⟨rfl, rfl, ?_⟩, eqvS_nil⟩⟩⟩, trivial⟩
          · exact Nat.mul_one _
          · exact cat_snoc p x.1 _ (hx)
      · have h2 : q (o + (bodyN p x.1).length) ≠ 125#8 := by
          intro e
          have := beq_eq_false_iff_ne.1 h2
          rw [eq0, e] at this
          exact this rfl
        have hs : special (p x.1) = false := by
          cases hs : special (p x.1) with
          | false => rfl
          | true =>
            have e : esc (p x.1) = [125#8, p x.1 ^^^ 32#8] := by unfold esc; rw [hs]; rfl
            rw [e] at hb0
            exact absurd (Option.some.inj hb0.1) h2
        have he : esc (p x.1) = [p x.1] := by unfold esc; rw [hs]; rfl
        rw [he] at hb0
        have hv : q (o + (bodyN p x.1).length) = p x.1 := Option.some.inj hb0.1
        have hw2 : IntKind.i64.wrap (((bodyN p x.1).length : Int) + 1) = (((bodyN p (x.1 + 1)).length : Nat) : Int) := by
          rw [body_next, he, i64_in (by omega) (by omega)]
          show _ = (((bodyN p x.1).length + 1 : Nat) : Int)
          omega
        have hx : bfun q (o + (((bodyN p x.1).length : Nat) : Int).toNat) = (((p x.1).toNat : Nat) : Int) := by
          rw [eq0, hv]
        refine need_intro ⟨Nat.le_refl _, by show x.1 + 0 = x.1 * 1; omega, by show x.2 * 1 = x.1 * 1 + (x.2 - x.1); omega, room5 _ (by show x.1 + 1 ≤ _; omega)⟩ ?_
        intro c1 hc1
        have hc1 : x.1 + 1 ≤ c1 := hc1
        repeat (refine need_intro (by first | exact an2 | exact an3 | exact fun h => h | exact nt | exact an2 | exact an3 | rfl | (simp; done) | fail) ?_)
        refine ⟨(x.1 + 1, c1), ⟨hk, hc1⟩, by show n - (x.1 + 1) < n - x.1; omega, [0, 3], ?_⟩
        rw [hO]
        refine ⟨by decide, ⟨rfl, trivial⟩, ?_, ?_⟩
        · repeat' (first | exact eqvT_nil | refine eqvT_junk ?_ | refine eqvT_same ?_ | refine eqvT_int ?_ ?_ | refine eqvT_gs ⟨rfl, rfl, rfl, rfl⟩ ?_)
          exact hw2
        · refine ⟨⟨_, rfl, eqvB_refl _⟩, ⟨_, rfl, ⟨rfl, ?_, ⟨⟨rfl, rfl, ?_⟩, eqvS_nil⟩⟩⟩, trivial⟩
          · exact Nat.mul_one _
          · exact cat_snoc p x.1 _ (hx)
    · have h1 : ¬ (bodyN p x.1).length < (bodyN p n).length := by have := of_decide_eq_false h1; omega
      have hk : x.1 = n := by
        rcases Nat.lt_or_ge x.1 n with h | h
        · have := (body_step p x.1 n h 0 (by unfold esc; split <;> simp)).2
          have : 0 < (esc (p x.1)).length := by unfold esc; split <;> simp
          omega
        · omega
      refine ⟨_, _, [0, 1], ⟨x.2, by omega, rfl, rfl⟩, by decide, ⟨rfl, trivial⟩, ?_, ⟨⟨_, rfl, eqvB_refl _⟩, ⟨_, rfl, ?_⟩, trivial⟩⟩
      · rw [hk]
        exact eqvE_refl _
      · rw [hk]
        exact eqvB_refl _
end Go.Proofs.YtghcdkpgcanpgaaDoor

/-
  DERIVED: THE SHELF's CONTRACTS AT THIS DUMP, IN PLAIN WORDS (tools/lay-plain.mjs out of 'TrydShelf.lean', which tools/lay-shelf.mjs wrote): THE SAME DECLARATIONS UNDER THE SAME NAMES: 'import', 'namespace', 'open', 'def', 'theorem' AND NOTHING ELSE: no command of the shelf's: FOR A HAND-IN. Each laying: the table of numbers ('.._ren') and one theorem, a field a fact of the dump's own or the kernel's comparison; each contract: ONE APPLICATION.
-/
namespace Go.Proofs
open Go.Shelf
def Tryd.lays32_ren : Go.Shelf.Ren := ⟨fun | 32 => 20 | 49 => 26 | n => n, fun | 30 => 22 | 21 => 21 | 3 => 3 | 0 => 0 | 5 => 5 | 4 => 4 | 33 => 47 | 66 => 56 | 25 => 32 | 69 => 59 | 68 => 58 | n => n, fun | 2 => 1 | 3 => 2 | n => n⟩
theorem Tryd.lays32 : Go.Proofs.Lays7.n32 Tryd.prog Tryd.lays32_ren := {
  mixed := by kernel_rfl
  f32 := Tryd.func20.trans (congrArg some (by kernel_rfl))
  f49 := Tryd.func26.trans (congrArg some (by kernel_rfl))
  t0 := Tryd.underlying0
  a0 := Tryd.isAgg0
  z0 := Tryd.sizeOf0
  v0 := Tryd.zeroValue0
  i0 := by kernel_rfl
  t3 := Tryd.underlying3
  a3 := Tryd.isAgg3
  z3 := Tryd.sizeOf3
  v3 := Tryd.zeroValue3
  i3 := by kernel_rfl
  t4 := Tryd.underlying4
  a4 := Tryd.isAgg4
  z4 := Tryd.sizeOf4
  v4 := Tryd.zeroValue4
  i4 := by kernel_rfl
  t5 := Tryd.underlying5
  a5 := Tryd.isAgg5
  z5 := Tryd.sizeOf5
  v5 := Tryd.zeroValue5
  i5 := by kernel_rfl
  t21 := Tryd.underlying21
  a21 := Tryd.isAgg21
  z21 := Tryd.sizeOf21
  v21 := Tryd.zeroValue21
  i21 := by kernel_rfl
  t25 := Tryd.underlying32
  a25 := Tryd.isAgg32
  z25 := Tryd.sizeOf32
  v25 := Tryd.zeroValue32
  i25 := by kernel_rfl
  t30 := Tryd.underlying22
  a30 := Tryd.isAgg22
  z30 := Tryd.sizeOf22
  v30 := Tryd.zeroValue22
  i30 := by kernel_rfl
  t33 := Tryd.underlying47
  a33 := Tryd.isAgg47
  z33 := Tryd.sizeOf47
  v33 := Tryd.zeroValue47
  i33 := by kernel_rfl
  t66 := Tryd.underlying56
  a66 := Tryd.isAgg56
  z66 := Tryd.sizeOf56
  t68 := Tryd.underlying58
  a68 := Tryd.isAgg58
  z68 := Tryd.sizeOf58
  v68 := Tryd.zeroValue58
  i68 := by kernel_rfl
  t69 := Tryd.underlying59
  a69 := Tryd.isAgg59
  z69 := Tryd.sizeOf59
  v69 := Tryd.zeroValue59
  i69 := by kernel_rfl
  g2 := by kernel_rfl
  g3 := by kernel_rfl }
end Go.Proofs

/- The library's set of ASCII bytes, as the program holds it: made of a string, asked. Turned from the kit's worked proof of the package strings. -/
namespace Go.Proofs
open Go.Shelf Go.RowKit Go.Lib
theorem h43 : (Tryd.prog.info? 43).map (fun i => (i.zero, i.size)) = some (some (.agg (Array.replicate 256 (.bool false))), 256) := by kernel_rfl
theorem hv43 : ∀ w, (zeroValue 43).run Tryd.prog w = .ok (.agg (Array.replicate 256 (.bool false))) w := (zero_of_info h43).1
theorem hi43 : (Tryd.prog.info? 43).map (·.size) = some 256 := (zero_of_info h43).2
set_option maxHeartbeats 1000000 in
theorem dShould (n : Int) (w : World) :
    Calls Tryd.prog 17 #[.int .i64 n] w fun e w' => e = .returned (.bool (decide (8 < n))) ∧ w' = w := by
  go_enter Tryd.func17, Tryd.ntmps17
  go_wp2
  go_ret
  exact ⟨rfl, rfl⟩
set_option maxHeartbeats 4000000 in
set_option maxRecDepth 1000000 in
theorem dSet (chars : ByteArray) (w : World) (hs : chars.size < 4294967281)
    (hascii : ∀ (j : Nat) b, chars.data.toList[j]? = some b → b.toNat < 128) :
    Calls Tryd.prog 18 #[.string chars] w fun e w' => e = .returned (.tuple #[.agg (Lib.setCells chars.data.toList), .bool true]) ∧ w' = w.alloc (.cells (Lib.setCells chars.data.toList) 43) := by
  have HA : Aside (∀ (j : Nat) b, chars.data.toList[j]? = some b → b.toNat < 128) := hascii
  clear hascii
  have hv116 := hv43
  have hi116 := hi43
  go_enter Tryd.func18, Tryd.ntmps18
  go_wp2
  rw [← Lib.setCells_nil]
  go_loopg [4] chars.size (fun g s4 wx => ∃ i : Nat, i + g = chars.size ∧ s4 = .int .i64 i ∧ wx = w.alloc (.cells (Lib.setCells (chars.data.toList.take i)) 43))
  case atStart => exact ⟨0, by omega, rfl, rfl⟩
  case round =>
    obtain ⟨i, hig, rfl, rfl⟩ := hrel
    cases gk with
    | zero =>
      obtain rfl : i = chars.size := by omega
      have hiz : ¬ ((chars.size : Int) < (chars.size : Int)) := by omega
      rw [show chars.data.toList.take chars.size = chars.data.toList from List.take_of_length_le (by rw [← Lib.size_eq]; exact Nat.le_refl _)]
      have hld := run_loadVar_new (P := Tryd.prog) w 43 (Lib.setCells chars.data.toList) 256 4 Tryd.underlying43 (by rw [Lib.setCells_size]; exact hi116)
      have hsz := Lib.setCells_size chars.data.toList
      have hlc := run_loadCellsFrom_new (P := Tryd.prog) w 43 (Lib.setCells chars.data.toList) 256 hsz
      have hsc := run_storeCells_new (P := Tryd.prog) w 43 (Lib.setCells chars.data.toList) (Lib.setCells chars.data.toList) (by rw [hsz]; exact hi116) rfl (Lib.setCells_one _)
      go_wp2
      show Oper.upon _ _ _ _ _ (Sem.run Tryd.prog (loadVar 43 ⟨w.heap.size, 0, none⟩ >>= fun v => pure (Next.value v)) _)
      rw [Sem.run_bind, hld]
      show Oper.upon _ _ _ _ _ (Result.ok (Next.value (Value.agg (Lib.setCells chars.data.toList))) _)
      rw [Oper.upon_value]
      go_wp2
      (try simp only [Exit.inBlock, Exit.then])
      refine bodyPost_ret (v := .tuple #[.agg (Lib.setCells chars.data.toList), .bool true]) ?_ rfl ⟨rfl, rfl⟩
      rw [results_cell_tmp rfl]
      simp [asAddr, Result.andThen, hld]
    | succ g =>
      have hi : i < chars.size := by omega
      have hiz : (i : Int) < (chars.size : Int) := by omega
      obtain ⟨x, hx⟩ : ∃ x : UInt8, chars[i]'hi = x := ⟨_, rfl⟩
      have hxl : chars.data.toList[i]? = some x := by rw [← hx]; exact Lib.data_getElem? chars i hi
      have hx128 : ¬ ((128 : Int) ≤ (x.toNat : Int)) := by have := HA.out i x hxl; omega
      have hx256 : (x.toNat : Int) < 256 := by have := HA.out i x hxl; omega
      have hcell := Lib.setCells_at (chars.data.toList.take i) x
      have Hx : Aside (chars.data.toList[i]? = some x) := hxl
      clear hxl
      go_wp2
      go_roundg g
      case measure => omega
      case rel => exact ⟨i + 1, by omega, by first | rfl | simp, by rw [List.take_add_one, Hx.out]; simp only [Option.toList]; rw [Lib.setCells_snoc]⟩
set_option maxHeartbeats 2000000 in
set_option maxRecDepth 1000000 in
theorem dContains (b : Nat) (x : UInt8) (v : Bool) (w : World) (hc : w.cell? ⟨b, x.toNat, none⟩ = some (.bool v)) :
    Calls Tryd.prog 19 #[.pointer (some ⟨b, 0, none⟩), .int .u8 x.toNat] w fun e w' => e = .returned (.bool v) ∧ w' = w := by
  have hx256 : (x.toNat : Int) < 256 := by have := UInt8.toNat_lt x; omega
  go_enter Tryd.func19, Tryd.ntmps19
  go_wp2
  go_ret
  exact ⟨rfl, rfl⟩
end Go.Proofs

/- The library's IndexAny of bytes and of two ASCII bytes: where there is none, one, or more than eight. Turned from the kit's worked proof of the package strings. -/
namespace Go.Proofs
open Go.Shelf Go.RowKit Go.Lib
set_option maxHeartbeats 8000000 in
set_option maxRecDepth 1000000 in
theorem dIndex_long (s chars : ByteArray) (b off cap : Nat) (w : World) (h2 : chars.size = 2) (h8 : 8 < s.size) (hs : s.size < 4611686018427387904)
    (hb : b < w.heap.size) (hp : ∀ j, j < s.size → w.cell? ⟨b, off + j, none⟩ = some (.int .u8 (s.get! j).toNat))
    (hascii : ∀ (j : Nat) b, chars.data.toList[j]? = some b → b.toNat < 128) :
    Calls Tryd.prog 14 #[.slice (some ⟨b, off, none⟩) s.size cap, .string chars] w fun e w' => e = .returned (.int .i64 (Lib.indexAny s.data.toList chars.data.toList)) ∧ w' = ((w.alloc (.cells (Lib.setCells chars.data.toList) 43)).alloc (.cells (Lib.setCells chars.data.toList) 43)) := by
  have hM := dSet chars w (by omega) hascii
  clear hascii
  have hemp : chars.toList.isEmpty = false := by
    rw [Lib.toList_data]
    cases h : chars.data.toList with
    | nil => have := Lib.size_eq chars; rw [h, List.length_nil] at this; omega
    | cons _ _ => rfl
  have hn1 : ((chars.size : Int) == 1) = false := beq_eq_false_iff_ne.2 (by omega)
  have hn1' : ((s.size : Int) == 1) = false := beq_eq_false_iff_ne.2 (by omega)
  have h8z : decide ((8 : Int) < (s.size : Int)) = true := decide_eq_true (by omega)
  have hi116 := hi43
  have hsc : (storeCells ⟨w.heap.size + 1, 0, none⟩ (Lib.setCells chars.data.toList).toList 0).run Tryd.prog ((w.alloc (.cells (Lib.setCells chars.data.toList) 43)).alloc (.cells (Array.replicate 256 (.bool false)) 43)) = .ok () ((w.alloc (.cells (Lib.setCells chars.data.toList) 43)).alloc (.cells (Lib.setCells chars.data.toList) 43)) := by
    have := run_storeCells_new (P := Tryd.prog) (w.alloc (.cells (Lib.setCells chars.data.toList) 43)) 43 (Array.replicate 256 (.bool false)) (Lib.setCells chars.data.toList) (by rw [Lib.setCells_size]; exact hi116) (by rw [Lib.setCells_size, Array.size_replicate]) (Lib.setCells_one _)
    simpa using this
  have hsz := Lib.setCells_size chars.data.toList
  have hv116 := hv43
  have hcellAt : ∀ x : UInt8, ((w.alloc (.cells (Lib.setCells chars.data.toList) 43)).alloc (.cells (Lib.setCells chars.data.toList) 43)).cell? ⟨w.heap.size + 1, x.toNat, none⟩ = some (.bool (chars.data.toList.contains x)) := fun x => by
    rw [World.cell?_alloc_at _ _ _ _ (by simp), Lib.setCells_at]
  have HC : Aside (∀ x : UInt8, ((w.alloc (.cells (Lib.setCells chars.data.toList) 43)).alloc (.cells (Lib.setCells chars.data.toList) 43)).cell? ⟨w.heap.size + 1, x.toNat, none⟩ = some (.bool (chars.data.toList.contains x))) := hcellAt
  clear hcellAt
  have HP : Aside (∀ j, j < s.size → w.cell? ⟨b, off + j, none⟩ = some (.int .u8 (s.get! j).toNat)) := hp
  clear hp
  go_enter Tryd.func14, Tryd.ntmps14
  go_wp2_with (first
    | (go_at_call 17; refine (dShould _ _).mono ?_; rintro e w' ⟨rfl, hw⟩; rw [hw, h8z])
    | (go_at_call 18; refine hM.mono ?_; rintro e w' ⟨rfl, hw⟩; rw [hw]))
  clear hM hsc
  go_loopg [62] s.size (fun g s8 wx => ∃ i : Nat, i + g = s.size ∧ s8 = .int .i64 i ∧ wx = ((w.alloc (.cells (Lib.setCells chars.data.toList) 43)).alloc (.cells (Lib.setCells chars.data.toList) 43)) ∧ Lib.NoAny s.data.toList chars.data.toList i)
  case atStart => exact ⟨0, by omega, rfl, rfl, Lib.NoAny.zero _ _⟩
  case round =>
    obtain ⟨i, hig, rfl, rfl, hno⟩ := hrel
    have HN : Aside (Lib.NoAny s.data.toList chars.data.toList i) := hno
    clear hno
    cases gk with
    | zero =>
      obtain rfl : i = s.size := by omega
      have hiz : ¬ ((s.size : Int) < (s.size : Int)) := by omega
      go_wp2
      go_ret
      exact ⟨by rw [Lib.indexAny_none (by rw [← Lib.size_eq]; exact HN.out)]; rfl, rfl⟩
    | succ g =>
      have hi : i < s.size := by omega
      have hiz : (i : Int) < (s.size : Int) := by omega
      obtain ⟨x, hx⟩ : ∃ x : UInt8, s[i]'hi = x := ⟨_, rfl⟩
      have hxl : s.data.toList[i]? = some x := by rw [← hx]; exact Lib.data_getElem? s i hi
      have hxg : s.get! i = x := by rw [← hx]; exact Utf8W.get!_of_lt s i hi
      have Hx : Aside (s.data.toList[i]? = some x) := hxl
      clear hxl
      have hcx := HC.out x
      have hci : ((w.alloc (.cells (Lib.setCells chars.data.toList) 43)).alloc (.cells (Lib.setCells chars.data.toList) 43)).cell? ⟨b, off + i, none⟩ = some (.int .u8 x.toNat) := by
        rw [World.cell?_alloc_past _ _ _ (by simp; omega), World.cell?_alloc_past _ _ _ hb, HP.out i hi, hxg]
      clear hx hxg
      cases hin : chars.data.toList.contains x <;> rw [hin] at hcx
      · go_wp2_with (go_at_call 19; refine (dContains _ x _ _ hcx).mono ?_; rintro e w' ⟨rfl, hw⟩; rw [hw])
        go_roundg g
        case measure => omega
        case rel => exact ⟨i + 1, by omega, by first | rfl | simp, rfl, HN.out.succ Hx.out hin⟩
      · go_wp2_with (go_at_call 19; refine (dContains _ x _ _ hcx).mono ?_; rintro e w' ⟨rfl, hw⟩; rw [hw])
        go_ret
        exact ⟨by rw [Lib.indexAny_hit HN.out Hx.out hin]; rfl, rfl⟩
theorem f15_run (s : ByteArray) (c : Int) (w : World) : (callFunc 15 #[.string s, .int .u8 c]).run Tryd.prog w = .ok (.value (.int .i64 (indexByte s.data.toList c.toNat.toUInt8))) w := by
  rw [run_callFunc_extern Tryd.func15 (by kernel_rfl) (by kernel_rfl) (by kernel_rfl) (e := Extern.BytealgIndexByte.indexByte) (by kernel_rfl), Lib.run_indexByteString]
  rfl
set_option maxHeartbeats 8000000 in
set_option maxRecDepth 1000000 in
theorem dIndex_nil (chars : ByteArray) (a : Option Addr) (cap : Nat) (w : World) (h2 : chars.size = 2) :
    Calls Tryd.prog 14 #[.slice a 0 cap, .string chars] w fun e w' => e = .returned (.int .i64 (-1)) ∧ w' = w := by
  have hemp : chars.toList.isEmpty = false := by
    rw [Lib.toList_data]
    cases h : chars.data.toList with
    | nil => have := Lib.size_eq chars; rw [h, List.length_nil] at this; omega
    | cons _ _ => rfl
  have hn1 : ((chars.size : Int) == 1) = false := beq_eq_false_iff_ne.2 (by omega)
  go_enter Tryd.func14, Tryd.ntmps14
  go_wp2_with (go_at_call 17; refine (dShould _ _).mono ?_; rintro e w' ⟨rfl, hw⟩; rw [hw])
  go_loopg [12] 0 (fun g s8 wx => s8 = .int .i64 0 ∧ wx = w)
  case atStart => exact ⟨rfl, rfl⟩
  case round =>
    obtain ⟨rfl, rfl⟩ := hrel
    go_wp2
    go_ret
    exact ⟨rfl, rfl⟩
set_option maxHeartbeats 8000000 in
set_option maxRecDepth 1000000 in
theorem dIndex_one_hi (chars : ByteArray) (b off cap : Nat) (w : World) (x : UInt8) (h2 : chars.size = 2) (hascii : ∀ (j : Nat) b, chars.data.toList[j]? = some b → b.toNat < 128)
    (hc : w.cell? ⟨b, off, none⟩ = some (.int .u8 x.toNat)) (hx : 128 ≤ x.toNat) :
    Calls Tryd.prog 14 #[.slice (some ⟨b, off, none⟩) 1 cap, .string chars] w fun e w' => e = .returned (.int .i64 (-1)) ∧ ∃ pos, w' = w.iter chars pos := by
  have hemp : chars.toList.isEmpty = false := by
    rw [Lib.toList_data]
    cases h : chars.data.toList with
    | nil => have := Lib.size_eq chars; rw [h, List.length_nil] at this; omega
    | cons _ _ => rfl
  have hxz : (128 : Int) ≤ (x.toNat : Int) := by omega
  have hx255 : (x.toNat : Int) < 256 := by have := UInt8.toNat_lt x; omega
  have HA : Aside (∀ (j : Nat) b, chars.data.toList[j]? = some b → b.toNat < 128) := hascii
  clear hascii
  go_enter Tryd.func14, Tryd.ntmps14
  go_wp2
  go_loopg [5] chars.size (fun g s5 wx => ∃ i : Nat, i + g = chars.size ∧ wx = w.iter chars i)
  case atStart => exact ⟨0, by omega, rfl⟩
  case round =>
    obtain ⟨i, hig, rfl⟩ := hrel
    cases gk with
    | zero =>
      obtain rfl : i = 2 := by omega
      have hnx := fun ty => run_next_end (P := Tryd.prog) w chars 2 ty (by omega)
      go_wp2
      go_ret
      exact ⟨rfl, _, rfl⟩
    | succ g =>
      have hi : i < chars.size := by omega
      obtain ⟨y, hy⟩ : ∃ y : UInt8, chars[i]'hi = y := ⟨_, rfl⟩
      have hyl : chars.data.toList[i]? = some y := by rw [← hy]; exact Lib.data_getElem? chars i hi
      have hy128 : y.toNat < 128 := HA.out i y hyl
      have hnx := fun ty => run_next_ascii (P := Tryd.prog) w chars i ty hi (by rw [hy]; exact hy128)
      rw [hy] at hnx
      have hne : ((y.toNat : Int) == 65533) = false := beq_eq_false_iff_ne.2 (by omega)
      clear hyl hy
      go_wp2
      go_roundg g
      case measure => omega
      case rel => exact ⟨i + 1, by omega, rfl⟩
set_option maxHeartbeats 8000000 in
set_option maxRecDepth 1000000 in
theorem dIndex_one_lo (chars : ByteArray) (b off cap : Nat) (w : World) (x : UInt8) (h2 : chars.size = 2)
    (hc : w.cell? ⟨b, off, none⟩ = some (.int .u8 x.toNat)) (hx : x.toNat < 128) :
    Calls Tryd.prog 14 #[.slice (some ⟨b, off, none⟩) 1 cap, .string chars] w fun e w' => e = .returned (.int .i64 (if chars.data.toList.contains x then 0 else -1)) ∧ w' = w := by
  have hemp : chars.toList.isEmpty = false := by
    rw [Lib.toList_data]
    cases h : chars.data.toList with
    | nil => have := Lib.size_eq chars; rw [h, List.length_nil] at this; omega
    | cons _ _ => rfl
  have hxz : ¬ ((128 : Int) ≤ (x.toNat : Int)) := by omega
  have hcon := Lib.contains_iff_indexByte chars.data.toList x
  have hback : ((x.toNat : Int)).toNat.toUInt8 = x := by simp
  have hI := f15_run chars x.toNat
  rw [hback] at hI
  cases hin : chars.data.toList.contains x
  · rw [hin] at hcon
    have hlt : ¬ ((0 : Int) ≤ Lib.indexByte chars.data.toList x) := of_decide_eq_false hcon.symm
    clear hcon
    go_enter Tryd.func14, Tryd.ntmps14
    go_wp2
    go_ret
    exact ⟨rfl, rfl⟩
  · rw [hin] at hcon
    have hge : (0 : Int) ≤ Lib.indexByte chars.data.toList x := of_decide_eq_true hcon.symm
    clear hcon
    go_enter Tryd.func14, Tryd.ntmps14
    go_wp2
    go_ret
    exact ⟨rfl, rfl⟩
end Go.Proofs

/- The library's IndexAny of two to eight bytes, ASCII or not, and of two ASCII bytes. -/
namespace Go.Lib
/-- What the decoder gives where the first byte is no ASCII. -/
theorem decode_hi (n x0 x1 x2 x3 : Nat) (hn : 1 ≤ n) (h0 : 128 ≤ x0) (l0 : x0 < 256) :
    128 ≤ (decodeN n x0 x1 x2 x3).1 ∧ (decodeN n x0 x1 x2 x3).1 ≤ 1114111 ∧ 1 ≤ (decodeN n x0 x1 x2 x3).2 ∧ (decodeN n x0 x1 x2 x3).2 ≤ 4 ∧ (decodeN n x0 x1 x2 x3).2 ≤ n ∧ (2 ≤ (decodeN n x0 x1 x2 x3).2 → 128 ≤ x1) ∧ (3 ≤ (decodeN n x0 x1 x2 x3).2 → 128 ≤ x2) ∧ (4 ≤ (decodeN n x0 x1 x2 x3).2 → 128 ≤ x3) ∧
      ((decodeN n x0 x1 x2 x3).1 ≠ 65533 → (decodeN n x0 x1 x2 x3).2 ≠ 1 ∧ ((decodeN n x0 x1 x2 x3).2 = 2 → (decodeN n x0 x1 x2 x3).1 < 2048) ∧ ((decodeN n x0 x1 x2 x3).2 = 3 → 2048 ≤ (decodeN n x0 x1 x2 x3).1 ∧ (decodeN n x0 x1 x2 x3).1 < 65536 ∧ ((decodeN n x0 x1 x2 x3).1 < 55296 ∨ 57344 ≤ (decodeN n x0 x1 x2 x3).1)) ∧ ((decodeN n x0 x1 x2 x3).2 = 4 → 65536 ≤ (decodeN n x0 x1 x2 x3).1)) := by
  unfold decodeN
  rw [if_neg (by omega)]
  split
  · split <;> (simp only; omega)
  · split
    · split <;> (simp only; omega)
    · split
      · split <;> (simp only; omega)
      · simp only; omega
/-- What stands behind a place. -/
def tailOf (s : ByteArray) (i : Nat) : ByteArray := ⟨((List.range (s.size - i)).map fun j => s.get! (i + j)).toArray⟩
theorem tailOf_size (s : ByteArray) (i : Nat) : (tailOf s i).size = s.size - i := by
  show (((List.range (s.size - i)).map fun j => s.get! (i + j)).toArray).size = _
  simp
theorem tailOf_get (s : ByteArray) (i j : Nat) (h : j < s.size - i) : (tailOf s i).get! j = s.get! (i + j) := by
  show (((List.range (s.size - i)).map fun j => s.get! (i + j)).toArray)[j]! = _
  rw [getElem!_pos _ j (by simpa using h)]
  simp
/-- The decoder, at a place where no ASCII stands. -/
theorem decode_tail (s : ByteArray) (i : Nat) (hi : i < s.size) (h : 128 ≤ (s.get! i).toNat) : ∃ R K : Nat, decodeGo (tailOf s i) = (R, K) ∧ 128 ≤ R ∧ R ≤ 1114111 ∧ 1 ≤ K ∧ K ≤ 4 ∧ i + K ≤ s.size ∧ (∀ j, j < K → 128 ≤ (s.get! (i + j)).toNat) ∧
    (R ≠ 65533 → K ≠ 1 ∧ (K = 2 → R < 2048) ∧ (K = 3 → 2048 ≤ R ∧ R < 65536 ∧ (R < 55296 ∨ 57344 ≤ R)) ∧ (K = 4 → 65536 ≤ R)) := by
  have hz := tailOf_size s i
  have g0 := tailOf_get s i 0 (by omega)
  rw [Nat.add_zero] at g0
  have l0 := (s.get! i).toNat_lt
  have hd : decodeGo (tailOf s i) = decodeN (s.size - i) (s.get! i).toNat ((tailOf s i).get! 1).toNat ((tailOf s i).get! 2).toNat ((tailOf s i).get! 3).toNat := by
    unfold decodeGo
    rw [if_neg (by omega), decode_at, hz, Nat.sub_zero, Nat.zero_add, Nat.zero_add, Nat.zero_add, g0]
  obtain ⟨a1, a2, a3, a4, a5, a6, a7, a8, a9⟩ := decode_hi (s.size - i) (s.get! i).toNat ((tailOf s i).get! 1).toNat ((tailOf s i).get! 2).toNat ((tailOf s i).get! 3).toNat (by omega) h (by omega)
  rw [← hd] at a1 a2 a3 a4 a5 a6 a7 a8 a9
  clear hd
  generalize decodeGo (tailOf s i) = p at a1 a2 a3 a4 a5 a6 a7 a8 a9
  obtain ⟨R, K⟩ := p
  simp only at a1 a2 a3 a4 a5 a6 a7 a8 a9
  refine ⟨R, K, rfl, a1, a2, a3, a4, by omega, fun j hj => ?_, a9⟩
  have : j = 0 ∨ j = 1 ∨ j = 2 ∨ j = 3 := by omega
  rcases this with rfl | rfl | rfl | rfl
  · exact h
  · rw [← tailOf_get s i 1 (by omega)]; exact a6 (by omega)
  · rw [← tailOf_get s i 2 (by omega)]; exact a7 (by omega)
  · rw [← tailOf_get s i 3 (by omega)]; exact a8 (by omega)
theorem NoAny_jump {s : ByteArray} {chars : List UInt8} {i K : Nat} (h : NoAny s.data.toList chars i) (hK : i + K ≤ s.size) (hx : ∀ j, j < K → 128 ≤ (s.get! (i + j)).toNat) (ha : ∀ (j : Nat) b, chars[j]? = some b → b.toNat < 128) : NoAny s.data.toList chars (i + K) := fun j c hj hc => by
  by_cases hlt : j < i
  · exact h j c hlt hc
  · have hjs : j < s.size := by omega
    have h1 := Lib.data_getElem? s j hjs
    rw [hc] at h1
    have h2 : s.get! j = s[j]'hjs := Go.Proofs.Utf8W.get!_of_lt s j hjs
    have h3 := hx (j - i) (by omega)
    rw [show i + (j - i) = j by omega, h2, ← Option.some.inj h1] at h3
    rw [Bool.eq_false_iff]
    intro e
    obtain ⟨k, hk⟩ := List.getElem?_of_mem (List.contains_iff_mem.1 e)
    have := ha k c hk
    omega
theorem index_longer {l sub : List UInt8} (h : l.length < sub.length) : index l sub = -1 := by
  refine index_none fun j hj => ?_
  cases ho : occAt l sub j with
  | false => rfl
  | true =>
    rcases occAt_room ho with h' | h'
    · omega
    · rw [h'] at h; simp at h
theorem Below_up {w a b : World} (h : RowKit.Below w.heap.size w a) (k : RowKit.Below a.heap.size a b) : RowKit.Below w.heap.size w b :=
  h.trans ⟨k.os, k.tape, k.output, k.size, fun j hj => k.block j (Nat.lt_of_lt_of_le hj h.size)⟩
end Go.Lib
namespace Go.Proofs
theorem f21_run (a b : ByteArray) (m : Int) (w : World) (hm : w.cell? ⟨0, 0, none⟩ = some (.int .i64 m)) (h2 : 2 ≤ b.size) (hb : (b.size : Int) ≤ m) (ha : a.size < b.size) (ha' : a.size < 4294967281) :
    (callFunc 21 #[.string a, .string b]).run Tryd.prog w = .ok (.value (.int .i64 (-1))) w := by
  rw [run_callFunc_extern Tryd.func21 (by kernel_rfl) (by kernel_rfl) (by kernel_rfl) (e := Extern.BytealgIndex.index) (by kernel_rfl), Lib.run_indexString a b w 0 m (by kernel_rfl) hm h2 hb ha', Lib.index_longer (by rw [← Lib.size_eq, ← Lib.size_eq]; exact ha)]
  rfl
open Go.Shelf Go.RowKit Go.Lib
set_option maxHeartbeats 8000000 in
set_option maxRecDepth 1000000 in
theorem dIndex_some (s chars : ByteArray) (b off cap : Nat) (w : World) (m : Int) (h2 : chars.size = 2) (h1 : 2 ≤ s.size) (h8 : s.size ≤ 8)
    (hb : b < w.heap.size) (hb0 : 2 < w.heap.size) (hp : ∀ j, j < s.size → w.cell? ⟨b, off + j, none⟩ = some (.int .u8 (s.get! j).toNat)) (hc : s.size ≤ cap)
    (hT : Lib.Utf8Tabs 1 2 w) (hm : w.cell? ⟨0, 0, none⟩ = some (.int .i64 m))
    (hascii : ∀ (j : Nat) b, chars.data.toList[j]? = some b → b.toNat < 128) :
    Calls Tryd.prog 14 #[.slice (some ⟨b, off, none⟩) s.size cap, .string chars] w fun e w' => e = .returned (.int .i64 (Lib.indexAny s.data.toList chars.data.toList)) ∧ Below w.heap.size w w' := by
  have hemp : chars.toList.isEmpty = false := by
    rw [Lib.toList_data]
    cases h : chars.data.toList with
    | nil => have := Lib.size_eq chars; rw [h, List.length_nil] at this; omega
    | cons _ _ => rfl
  have hn1 : ((chars.size : Int) == 1) = false := beq_eq_false_iff_ne.2 (by omega)
  have hn1' : ((s.size : Int) == 1) = false := beq_eq_false_iff_ne.2 (by omega)
  have h8z : decide ((8 : Int) < (s.size : Int)) = false := decide_eq_false (by omega)
  have HP : Aside (∀ j, j < s.size → w.cell? ⟨b, off + j, none⟩ = some (.int .u8 (s.get! j).toNat)) := hp
  have HA : Aside (∀ (j : Nat) b, chars.data.toList[j]? = some b → b.toNat < 128) := hascii
  have HT : Aside (Lib.Utf8Tabs 1 2 w) := hT
  have HM : Aside (w.cell? ⟨0, 0, none⟩ = some (.int .i64 m)) := hm
  clear hp hascii hT hm
  go_enter Tryd.func14, Tryd.ntmps14
  go_wp2_with (go_at_call 17; refine (dShould _ _).mono ?_; rintro e w' ⟨rfl, hw⟩; rw [hw, h8z])
  go_loopg [11, 12] s.size (fun g s11 s12 wx => ∃ i : Nat, i + g = s.size ∧ s12 = .int .i64 i ∧ Below w.heap.size w wx ∧ Lib.NoAny s.data.toList chars.data.toList i)
  case atStart => exact ⟨0, by omega, rfl, Below.refl _ _, Lib.NoAny.zero _ _⟩
  case round =>
    obtain ⟨i, hig, rfl, hB, hno⟩ := hrel
    have HN : Aside (Lib.NoAny s.data.toList chars.data.toList i) := hno
    clear hno
    cases gk with
    | zero =>
      obtain rfl : i = s.size := by omega
      have hiz : ¬ ((s.size : Int) < (s.size : Int)) := by omega
      go_wp2
      go_ret
      exact ⟨by rw [Lib.indexAny_none (by rw [← Lib.size_eq]; exact HN.out)]; rfl, hB⟩
    | succ g =>
      have hi : i < s.size := by omega
      have hiz : (i : Int) < (s.size : Int) := by omega
      obtain ⟨x, hx⟩ : ∃ x : UInt8, s[i]'hi = x := ⟨_, rfl⟩
      have hxl : s.data.toList[i]? = some x := by rw [← hx]; exact Lib.data_getElem? s i hi
      have hxg : s.get! i = x := by rw [← hx]; exact Utf8W.get!_of_lt s i hi
      have Hx : Aside (s.data.toList[i]? = some x) := hxl
      have hci : wr.cell? ⟨b, off + i, none⟩ = some (.int .u8 x.toNat) := by
        rw [World.cell?_of_block (hB.block b hb), HP.out i hi, hxg]
      clear hxl hx
      by_cases hx : x.toNat < 128
      · have hxz : (x.toNat : Int) < 128 := by omega
        have hcon := Lib.contains_iff_indexByte chars.data.toList x
        have hback : ((x.toNat : Int)).toNat.toUInt8 = x := by simp
        have hI := f15_run chars x.toNat
        rw [hback] at hI
        cases hin : chars.data.toList.contains x
        · rw [hin] at hcon
          have hlt : ¬ ((0 : Int) ≤ Lib.indexByte chars.data.toList x) := of_decide_eq_false hcon.symm
          clear hcon
          go_wp2
          go_roundg g
          case measure => omega
          case rel => exact ⟨i + 1, by omega, by first | rfl | simp, hB, HN.out.succ Hx.out hin⟩
        · rw [hin] at hcon
          have hge : (0 : Int) ≤ Lib.indexByte chars.data.toList x := of_decide_eq_true hcon.symm
          clear hcon
          go_wp2
          go_ret
          exact ⟨by rw [Lib.indexAny_hit HN.out Hx.out hin]; rfl, hB⟩
      · have hxz : ¬ ((x.toNat : Int) < 128) := by omega
        have hx255 : (x.toNat : Int) < 256 := by have := UInt8.toNat_lt x; omega
        obtain ⟨R, K, hRK, r1, r2, k1, k2, k3, k4, k5⟩ := decode_tail s i hi (by rw [hxg]; omega)
        have cD : Calls Tryd.prog 20 #[.slice (some ⟨b, off + i, none⟩) (s.size - i) (cap - i)] wr fun e w' => e = .returned (.tuple #[.int .i32 R, .int .i64 K]) ∧ Below wr.heap.size wr w' := by
          have := Any7.utf8_DecodeRune Tryd.lays32 (tailOf s i) b (off + i) (cap - i) wr ⟨fun c hc => by rw [← HT.out.1 c hc]; exact World.cell?_of_block (hB.block 1 (by omega)), fun j hj => by
            rw [← (HT.out.2 j hj).1, ← (HT.out.2 j hj).2]
            exact ⟨World.cell?_of_block (hB.block 2 (by omega)), World.cell?_of_block (hB.block 2 (by omega))⟩⟩ (fun j hj => by
              rw [tailOf_size] at hj
              rw [tailOf_get s i j hj, Nat.add_assoc, World.cell?_of_block (hB.block b hb)]
              exact HP.out (i + j) (by omega))
          rw [hRK, tailOf_size] at this
          exact this
        clear hRK
        have hrz : (128 : Int) ≤ (R : Int) := by omega
        have hrm : (R : Int) ≤ 1114111 := by omega
        have hkz : (K : Int) ≤ 4 := by omega
        have hkn : (i : Int) + (K : Int) ≤ (s.size : Int) := by omega
        by_cases hr : R = 65533
        · have hr' : ((R : Int) == 65533) = true := beq_iff_eq.2 (by omega)
          clear k5
          go_wp2_with (go_at_call 20; refine cD.mono ?_; rintro e w' ⟨rfl, hD⟩)
          go_loopg [15] 2 (fun g' s15 wy => ∃ j : Nat, j + g' = 2 ∧ wy = w'.iter chars j)
          case atStart => exact ⟨0, by omega, rfl⟩
          case round =>
            obtain ⟨j, hjg, rfl⟩ := hrel
            cases gk with
            | zero =>
              obtain rfl : j = 2 := by omega
              have hnx := fun ty => run_next_end (P := Tryd.prog) w' chars 2 ty (by omega)
              go_wp2
              go_roundg (s.size - (i + K))
              case measure => omega
              case rel => exact ⟨i + K, by omega, by first | rfl | (push_cast; rfl) | simp, (Lib.Below_up hB hD).alloc (Nat.le_trans hB.size hD.size) _, Lib.NoAny_jump HN.out (by omega) k4 HA.out⟩
            | succ g' =>
              have hj : j < chars.size := by omega
              obtain ⟨y, hy⟩ : ∃ y : UInt8, chars[j]'hj = y := ⟨_, rfl⟩
              have hyl : chars.data.toList[j]? = some y := by rw [← hy]; exact Lib.data_getElem? chars j hj
              have hy128 : y.toNat < 128 := HA.out j y hyl
              have hnx := fun ty => run_next_ascii (P := Tryd.prog) w' chars j ty hj (by rw [hy]; exact hy128)
              rw [hy] at hnx
              have hne : ((R : Int) == (y.toNat : Int)) = false := beq_eq_false_iff_ne.2 (by omega)
              clear hyl hy
              go_wp2
              go_roundg g'
              case measure => omega
              case rel => exact ⟨j + 1, by omega, rfl⟩
        · have hr' : ((R : Int) == 65533) = false := beq_eq_false_iff_ne.2 (by omega)
          obtain ⟨k6, k7, k8, k9⟩ := k5 hr
          clear k5
          by_cases hK2 : K = 2
          · subst hK2
            have henc : (chars.toList == (Utf8.encode (R : Int)).toList) = false := by
              rw [beq_eq_false_iff_ne, Lib.toList_data, Lib.toList_data, Go.Extern.FmtText.enc2 R (by omega) (k7 rfl)]
              intro e
              have h0 : chars.data.toList[0]? = some (UInt8.ofNat (192 + R / 64)) := by rw [e]; rfl
              have h1 := HA.out 0 _ h0
              have h2 := k7 rfl
              rw [UInt8.toNat_ofNat'] at h1
              omega
            go_wp2_with (go_at_call 20; refine cD.mono ?_; rintro e w' ⟨rfl, hD⟩)
            go_roundg (s.size - (i + 2))
            case measure => omega
            case rel => exact ⟨i + 2, by omega, by first | rfl | (push_cast; rfl) | simp, Lib.Below_up hB hD, Lib.NoAny_jump HN.out (by omega) k4 HA.out⟩
          · have hK2' : ((2 : Int) == (K : Int)) = false := beq_eq_false_iff_ne.2 (by omega)
            have henz : (Utf8.encode (R : Int)).size = K := by
              rw [Lib.size_eq]
              rcases (show K = 3 ∨ K = 4 by omega) with h | h
              · obtain ⟨q1, q2, q3⟩ := k8 h
                rw [Go.Extern.FmtText.enc3 R (by omega) q2 q3, h]; rfl
              · have q1 := k9 h
                rw [Go.Extern.FmtText.enc4 R (by omega) r2, h]; rfl
            have hK3 : 3 ≤ K := by omega
            by_cases hmK : (K : Int) ≤ m
            · clear k6 k7 k8 k9
              have hI : ∀ wz : World, wz.cell? ⟨0, 0, none⟩ = some (.int .i64 m) → (callFunc 21 #[.string chars, .string (Utf8.encode (R : Int))]).run Tryd.prog wz = .ok (.value (.int .i64 (-1))) wz := fun wz hz => f21_run chars _ m wz hz (by omega) (by omega) (by omega) (by omega)
              clear henz
              go_wp2_with (go_at_call 20; refine cD.mono ?_; rintro e w' ⟨rfl, hD⟩; have hI' := hI w' (by rw [World.cell?_of_block ((Lib.Below_up hB hD).block 0 (by omega))]; exact HM.out); clear hI; have hmz : w'.cell? ⟨0, 0, none⟩ = some (.int .i64 m) := by rw [World.cell?_of_block ((Lib.Below_up hB hD).block 0 (by omega))]; exact HM.out)
              go_roundg (s.size - (i + K))
              case measure => omega
              case rel => exact ⟨i + K, by omega, by first | rfl | (push_cast; rfl) | simp, Lib.Below_up hB hD, Lib.NoAny_jump HN.out (by omega) k4 HA.out⟩
            · clear k6 k7 k8 k9 henz
              have hmK' : decide ((K : Int) ≤ m) = false := decide_eq_false hmK
              go_wp2_with (go_at_call 20; refine cD.mono ?_; rintro e w' ⟨rfl, hD⟩; have hmz : w'.cell? ⟨0, 0, none⟩ = some (.int .i64 m) := by rw [World.cell?_of_block ((Lib.Below_up hB hD).block 0 (by omega))]; exact HM.out)
              go_loopg [15] 2 (fun g' s15 wy => ∃ j : Nat, j + g' = 2 ∧ wy = w'.iter chars j)
              case atStart => exact ⟨0, by omega, rfl⟩
              case round =>
                obtain ⟨j, hjg, rfl⟩ := hrel
                cases gk with
                | zero =>
                  obtain rfl : j = 2 := by omega
                  have hnx := fun ty => run_next_end (P := Tryd.prog) w' chars 2 ty (by omega)
                  go_wp2
                  go_roundg (s.size - (i + K))
                  case measure => omega
                  case rel => exact ⟨i + K, by omega, by first | rfl | (push_cast; rfl) | simp, (Lib.Below_up hB hD).alloc (Nat.le_trans hB.size hD.size) _, Lib.NoAny_jump HN.out (by omega) k4 HA.out⟩
                | succ g' =>
                  have hj : j < chars.size := by omega
                  obtain ⟨y, hy⟩ : ∃ y : UInt8, chars[j]'hj = y := ⟨_, rfl⟩
                  have hyl : chars.data.toList[j]? = some y := by rw [← hy]; exact Lib.data_getElem? chars j hj
                  have hy128 : y.toNat < 128 := HA.out j y hyl
                  have hnx := fun ty => run_next_ascii (P := Tryd.prog) w' chars j ty hj (by rw [hy]; exact hy128)
                  rw [hy] at hnx
                  have hne : ((R : Int) == (y.toNat : Int)) = false := beq_eq_false_iff_ne.2 (by omega)
                  clear hyl hy
                  go_wp2
                  go_roundg g'
                  case measure => omega
                  case rel => exact ⟨j + 1, by omega, rfl⟩
end Go.Proofs

/- Contracts that were shown by other means: what lay below the heap's end is as it was. Plain theorems, no condition. -/
namespace Go.Anv
open Go
theorem Since.below {E : Emb} {h : List Blk} {w w' : World} (B : RowKit.Below w.heap.size w w') : Since E h w E h w' :=
  ⟨Nat.le_refl _, fun _ _ => rfl, B.size, fun b hb _ => B.block b hb, fun b o hb _ => ⟨World.cell?_of_block (w := w) (B.block b hb), fun _ => World.frozen?_of_block (w := w) (B.block b hb)⟩, fun _ _ hm _ => hm, B.os, B.tape, B.output,
    fun b hb hr => hr.of_block (B.block b hb)⟩
/-- A contract shown by other means. -/
theorem Does.foreign {T : Tbl} {f : FuncId} {args : List EV} {h : List Blk} {X : EV} (hf : isFn T f)
    (c : ∀ E w vs, Sim E h w → TabOk E h w → denT E args vs.toList → Calls T.P f vs w fun e w' => (∃ v, e = .returned v ∧ denE E X v) ∧ RowKit.Below w.heap.size w w') : Does T f args h (fun v h' => v = X ∧ h' = h) := by
  refine ⟨.inl ⟨hf, fun E w vs S Z ha => (c E w vs S Z ha).mono ?_⟩⟩
  rintro e w' ⟨⟨v, rfl, hd⟩, B⟩
  exact ⟨v, X, h, E, rfl, hd, S.keep B.size B.block, Since.below B, rfl, rfl⟩
end Go.Anv

/- The library's ContainsAny of bytes and of two ASCII bytes: every slice of bytes. -/
namespace Go.Proofs
open Go.Shelf Go.RowKit Go.Lib
theorem dIndexAny (s chars : ByteArray) (a : Option Addr) (cap : Nat) (w : World) (m : Int) (h2 : chars.size = 2) (hs : s.size < 4611686018427387904) (hb0 : 2 < w.heap.size) (hc : s.size ≤ cap)
    (hp : s.size = 0 ∨ ∃ b off, a = some ⟨b, off, none⟩ ∧ b < w.heap.size ∧ ∀ j, j < s.size → w.cell? ⟨b, off + j, none⟩ = some (.int .u8 (s.get! j).toNat))
    (hT : Lib.Utf8Tabs 1 2 w) (hm : w.cell? ⟨0, 0, none⟩ = some (.int .i64 m))
    (hascii : ∀ (j : Nat) b, chars.data.toList[j]? = some b → b.toNat < 128) :
    Calls Tryd.prog 14 #[.slice a s.size cap, .string chars] w fun e w' => e = .returned (.int .i64 (Lib.indexAny s.data.toList chars.data.toList)) ∧ Below w.heap.size w w' := by
  rcases hp with h0 | ⟨b, off, rfl, hb, hp⟩
  · have hl : s.data.toList = [] := List.eq_nil_of_length_eq_zero (by rw [← Lib.size_eq]; exact h0)
    rw [h0, hl]
    exact (dIndex_nil chars a cap w h2).mono fun e w' ⟨h1, h2⟩ => ⟨h1, h2 ▸ Below.refl _ _⟩
  · by_cases h0 : s.size = 0
    · have hl : s.data.toList = [] := List.eq_nil_of_length_eq_zero (by rw [← Lib.size_eq]; exact h0)
      rw [h0, hl]
      exact (dIndex_nil chars _ cap w h2).mono fun e w' ⟨h1, h2⟩ => ⟨h1, h2 ▸ Below.refl _ _⟩
    by_cases h1 : s.size = 1
    · obtain ⟨x, hx⟩ : ∃ x : UInt8, s.get! 0 = x := ⟨_, rfl⟩
      have hxl : s.data.toList[0]? = some x := by
        have := Lib.data_getElem? s 0 (by omega)
        rw [this, ← hx, Go.Proofs.Utf8W.get!_of_lt s 0 (by omega)]
      have hl : s.data.toList = [x] := by
        have hz : s.data.toList.length = 1 := by rw [← Lib.size_eq]; exact h1
        cases h : s.data.toList with
        | nil => rw [h] at hz; simp at hz
        | cons p t =>
          rw [h] at hz hxl
          simp at hz hxl
          rw [hz, hxl]
      have hc0 := hp 0 (by omega)
      rw [Nat.add_zero, hx] at hc0
      rw [h1, hl]
      by_cases hh : x.toNat < 128
      · refine (dIndex_one_lo chars b off cap w x h2 hc0 hh).mono fun e w' ⟨h3, h4⟩ => ⟨?_, h4 ▸ Below.refl _ _⟩
        rw [h3]
        simp [Lib.indexAny]
      · refine (dIndex_one_hi chars b off cap w x h2 hascii hc0 (by omega)).mono fun e w' ⟨h3, pos, h4⟩ => ⟨?_, ?_⟩
        · rw [h3]
          have hn : chars.data.toList.contains x = false := by
            rw [Bool.eq_false_iff]
            intro e
            obtain ⟨k, hk⟩ := List.getElem?_of_mem (List.contains_iff_mem.1 e)
            have := hascii k x hk
            omega
          simp only [Lib.indexAny, hn]
          rfl
        · rw [h4]
          exact (Below.refl _ _).alloc (Nat.le_refl _) _
    by_cases h8 : s.size ≤ 8
    · exact dIndex_some s chars b off cap w m h2 (by omega) h8 hb hb0 hp hc hT hm hascii
    · refine (dIndex_long s chars b off cap w h2 (by omega) hs hb hp hascii).mono fun e w' ⟨h3, h4⟩ => ⟨h3, ?_⟩
      rw [h4]
      exact ((Below.refl _ _).alloc (Nat.le_refl _) _).alloc (by simp) _
set_option maxHeartbeats 1000000 in
theorem dContainsAny (s chars : ByteArray) (a : Option Addr) (cap : Nat) (w : World) (m : Int) (h2 : chars.size = 2) (hs : s.size < 4611686018427387904) (hb0 : 2 < w.heap.size) (hc : s.size ≤ cap)
    (hp : s.size = 0 ∨ ∃ b off, a = some ⟨b, off, none⟩ ∧ b < w.heap.size ∧ ∀ j, j < s.size → w.cell? ⟨b, off + j, none⟩ = some (.int .u8 (s.get! j).toNat))
    (hT : Lib.Utf8Tabs 1 2 w) (hm : w.cell? ⟨0, 0, none⟩ = some (.int .i64 m))
    (hascii : ∀ (j : Nat) b, chars.data.toList[j]? = some b → b.toNat < 128) :
    Calls Tryd.prog 10 #[.slice a s.size cap, .string chars] w fun e w' => e = .returned (.bool (Lib.containsAny s.data.toList chars.data.toList)) ∧ Below w.heap.size w w' := by
  have c := dIndexAny s chars a cap w m h2 hs hb0 hc hp hT hm hascii
  clear hp hT hm hascii
  go_enter Tryd.func10, Tryd.ntmps10
  go_wp2_with (go_at_call 14; refine c.mono ?_; rintro e w' ⟨rfl, hw⟩)
  go_ret
  exact ⟨rfl, hw⟩
end Go.Proofs
namespace Go.Anv
open Go
def isMark (b : B8) : Bool := b == 36#8 || b == 35#8
/-- Is one of the bytes a mark of packets? -/
def marked (q : Nat → B8) (n : Nat) : Bool := (List.range n).any fun j => isMark (q j)
def marksB : ByteArray := ⟨#[36, 35]⟩
/-- The bytes of a list, as the library's proofs speak of them. -/
def byteArr (q : Nat → B8) (n : Nat) : ByteArray := ⟨((List.range n).map fun j => UInt8.ofBitVec (q j)).toArray⟩
theorem byteArr_size (q : Nat → B8) (n : Nat) : (byteArr q n).size = n := by
  show (((List.range n).map fun j => UInt8.ofBitVec (q j)).toArray).size = _
  simp
theorem byteArr_get (q : Nat → B8) (n j : Nat) (h : j < n) : ((byteArr q n).get! j).toNat = (q j).toNat := by
  show ((((List.range n).map fun j => UInt8.ofBitVec (q j)).toArray)[j]!).toNat = _
  rw [getElem!_pos _ j (by simpa using h)]
  simp
theorem indexAny_pos (chars : List UInt8) : ∀ l : List UInt8, decide (0 ≤ Lib.indexAny l chars) = l.any fun b => chars.contains b
  | [] => rfl
  | b :: l => by
    have ih := indexAny_pos chars l
    have hge := Lib.indexAny_ge chars l
    rw [List.any_cons, ← ih, Lib.indexAny]
    cases chars.contains b with
    | true => rfl
    | false =>
      rw [Bool.false_or, if_neg (by decide)]
      by_cases hm : Lib.indexAny l chars = -1
      · rw [hm]; rfl
      · rw [if_neg (by simpa using hm)]
        exact decide_eq_decide.2 (by omega)
theorem mark_eq (b : B8) : [36, 35].contains (UInt8.ofBitVec b) = isMark b := by
  revert b
  decide +kernel
theorem contains_marked (q : Nat → B8) (n : Nat) : Lib.containsAny (byteArr q n).data.toList marksB.data.toList = marked q n := by
  unfold Lib.containsAny
  rw [indexAny_pos]
  unfold marked byteArr
  simp only [List.any_map]
  congr 1
  funext j
  exact mark_eq (q j)
end Go.Anv
namespace Go.Proofs.YtghcdkpgcanpgaaDoor
open Go Go.Anv
theorem tabs_of {E : Emb} {h : List Blk} {w : World} (Z : TabOk E h w) : Lib.Utf8Tabs 1 2 w ∧ 2 < w.heap.size ∧ ∃ m, w.cell? ⟨0, 0, none⟩ = some (.int .i64 m) := by
  refine ⟨⟨fun c hc => ?_, fun i hi => ⟨?_, ?_⟩⟩, ?_, ?_⟩
  · obtain ⟨⟨v, h1, h2⟩, _⟩ := Z 1 c (fun v => v = .int .u8 (Lib.firstT c)) (by simp [seatG, hc])
    rw [h1, h2]
  · obtain ⟨⟨v, h1, h2⟩, _⟩ := Z 2 (2 * i) _ (by simp [seatG]; exact ⟨by omega, rfl⟩)
    rw [h1, h2]
  · obtain ⟨⟨v, h1, h2⟩, _⟩ := Z 2 (2 * i + 1) _ (by simp [seatG]; exact ⟨by omega, rfl⟩)
    rw [h1, h2, show (2 * i + 1) / 2 = i from by omega]
  · obtain ⟨_, h1, _⟩ := Z 2 0 _ (by simp [seatG]; rfl)
    exact h1
  · obtain ⟨⟨v, h1, m, h2⟩, _⟩ := Z 0 0 (fun v => ∃ n, v = .int .i64 n) (by simp [seatG])
    exact ⟨m, by rw [h1, h2]⟩
set_option maxRecDepth 100000 in
/-- The library's ContainsAny of a run of bytes and the packets' marks. -/
theorem marks_spec (m : Bool) (N n o c sp : Nat) (q : Nat → B8) (ho : o + n ≤ N) (hn : n < 4611686018427387904) (hc : n ≤ c) :
    Does TB 10 [.s (.gs 0 o n c), .s (.str marksB)] [bblk m N q sp] (fun v h' => v = .s (.bool (marked (fun j => q (o + j)) n)) ∧ h' = [bblk m N q sp]) := by
  refine Does.foreign ⟨_, Tryd.func10, rfl, by decide⟩ (fun E w vs S Z ha => ?_)
  obtain ⟨v1, l1, e1, h1, v2, l2, e2, h2, h3⟩ := ha
  simp only [denE, denV] at h1 h2
  obtain ⟨hb, hnl, rfl⟩ := h1
  subst h2
  subst e2
  simp only [denT] at h3
  subst h3
  obtain rfl : vs = #[.slice (if (E.f 0).nl then none else some (E.at 0 o)) n c, .string marksB] := by
    apply Array.toList_inj.1
    exact e1
  obtain ⟨hT, hw2, mm, hm⟩ := tabs_of Z
  obtain ⟨hp, ⟨l, hl, hcell⟩, _⟩ := S.ok 0 _ rfl
  have hcells : ∀ j, j < n → w.cell? ⟨(E.f 0).b, (E.f 0).o + (o + j), none⟩ = some (.int .u8 (q (o + j)).toNat) := fun j hj => by
    refine hcell (o + j) _ ?_
    obtain ⟨l', rfl, _⟩ := hl
    rw [List.getElem?_append_left (by rw [length_intsOf]; omega), intsOf_get (by omega)]
    rfl
  have := dContainsAny (byteArr (fun j => q (o + j)) n) marksB (if (E.f 0).nl then none else some (E.at 0 o)) c w mm rfl (by rw [byteArr_size]; exact hn) hw2 (by rw [byteArr_size]; exact hc) ?_ hT hm ?_
  · rw [byteArr_size, contains_marked] at this
    refine this.mono ?_
    rintro e w' ⟨rfl, B⟩
    exact ⟨⟨_, rfl, rfl⟩, B⟩
  · rw [byteArr_size]
    by_cases h0 : n = 0
    · exact .inl h0
    · refine .inr ⟨(E.f 0).b, (E.f 0).o + o, ?_, ?_, fun j hj => ?_⟩
      · have : (E.f 0).nl = false := by
          cases h : (E.f 0).nl with
          | false => rfl
          | true => exact absurd (hnl h).1 h0
        rw [this]
        rfl
      · have := hcells 0 (by omega)
        exact block_lt_of_cell this
      · rw [byteArr_get _ _ _ hj, Nat.add_assoc]
        exact hcells j hj
  · intro j b hb
    match j, hb with
    | 0, hb => cases hb; decide
    | 1, hb => cases hb; decide
    | j + 2, hb => cases hb
end Go.Proofs.YtghcdkpgcanpgaaDoor

/- The engine, part 20: functions that defer one clearing of a map. Plain theorems; no condition. -/
namespace Go.Anv
open Go

section
variable {P : Program}

theorem step_defer_builtin {fr : Frame} {cs : List Frame} {w w2 : World} {d : Deferred} {ds : List Deferred} {b : Builtin} {tys : Array TypeId} {ty : TypeId} {consts : Array Bool} {v : Value}
    (hm : fr.mode = .returning) (hd : fr.defers = d :: ds) (ht : d.target = .builtin b tys ty consts) (hi : (invoke d.target d.args).run P w = .ok (.value v) w2) :
    step P (lone fr cs w) = .next (lone { fr with defers := ds } cs w2) := by
  obtain ⟨t, a⟩ := d
  simp only at ht hi
  subst ht
  refine step_lone_go ?_
  simp [stepG, unwind, callDeferred, hm, hd, hi]

def postB (P : Program) (fn : Func) (R : Ending → World → Prop) : Exit → Act → World → Prop
  | .normal, a, w | .ret, a, w => ∃ d b tys ty consts v w2 r, a.defers = [d] ∧ d.target = .builtin b tys ty consts ∧ (invoke d.target d.args).run P w = .ok (.value v) w2 ∧ (results fn a.tmps).run P w2 = .ok r w2 ∧ R (.returned r) w2
  | _, _, _ => False

theorem calls_of_wp_builtin {f : FuncId} {fn : Func} {c : Code} {args : Array Value} {w : World} {R : Ending → World → Prop}
    (hf : P.funcs[f]? = some fn) (hb : fn.body = some c)
    (h : c.wp P (postB P fn R) { tmps := args ++ Array.replicate (fn.ntmps - args.size) undef, defers := [] } w) : Calls P f args w R := by
  intro cs
  let b : Frame := { (default : Frame) with fn := f, kind := .normal }
  have henter : Frame.enter P f args .normal =
      b.at { tmps := args ++ Array.replicate (fn.ntmps - args.size) undef, defers := [] } [.code c] := by
    simp [Frame.enter, Frame.at, hf, hb, b]
  obtain ⟨e, a', w', hq, harr⟩ := h b [] cs
  rw [← henter] at harr
  have fin : ∀ (todo : List Item) (w' : World), postB P fn R .normal a' w' → Steps P (lone (Frame.enter P f args .normal) cs w) (lone { b.at a' todo with mode := .returning } cs w') →
      ∃ e w'' fr', R e w'' ∧ Comes P (lone (Frame.enter P f args .normal) cs w) (lone fr' cs w'') e ∧ fr'.fn = f ∧ fr'.leaving P w'' e := by
    intro todo w' hq hs
    obtain ⟨d, bb, tys, ty, consts, v, w2, r, h1, h2, h3, h4, h5⟩ := hq
    have hst := step_defer_builtin (fr := { b.at a' todo with mode := .returning }) (cs := cs) rfl h1 h2 h3
    exact ⟨.returned r, w2, _, h5, Steps.trans hs (.one hst), rfl, rfl, rfl, rfl, fn, hf, h4⟩
  cases e with
  | normal => exact fin [] w' hq (Steps.trans harr (.one step_end))
  | ret =>
    obtain ⟨todo, hs₀⟩ := harr
    exact fin todo w' hq hs₀
  | panic chain => exact hq.elim
  | exit id => exact hq.elim
  | goto l => exact hq.elim
  | outgrown => exact hq.elim
end

/-- The operations ahead of a deferred clearing that stands last; the map; its type. -/
def lastB : List Oper → Option (List Oper × Operand × TypeId)
  | [] => none
  | [o] => match o.guard, o.dst, o.op with
    | none, none, .defer { callee := .builtin .clear, args, argTypes } => match args.toList, argTypes.toList with
      | [x], [t] => some ([], x, t)
      | _, _ => none
    | _, _, _ => none
  | o :: r => match lastB r with
    | some (p, x, t) => some (o :: p, x, t)
    | none => none

theorem lastB_spec : ∀ {l pre : List Oper} {x : Operand} {t : TypeId}, lastB l = some (pre, x, t) → ∃ o, l = pre ++ [o] ∧ o.guard = none ∧ o.dst = none ∧ o.op = .defer { callee := .builtin .clear, args := #[x], argTypes := #[t] }
  | [], _, _, _, h => by simp [lastB] at h
  | [o], pre, x, t, h => by
    simp only [lastB] at h
    split at h
    · rename_i args tys hg hd hop
      split at h
      · rename_i x' t' hx ht
        simp only [Option.some.injEq, Prod.mk.injEq] at h
        obtain ⟨rfl, rfl, rfl⟩ := h
        have ex : args = #[x'] := by rw [← Array.toList_inj]; exact hx
        have et : tys = #[t'] := by rw [← Array.toList_inj]; exact ht
        exact ⟨o, rfl, hg, hd, by rw [hop, ex, et]⟩
      · cases h
    · cases h
  | o :: o' :: r, pre, x, t, h => by
    simp only [lastB] at h
    split at h
    · rename_i p x' t' hr
      simp only [Option.some.injEq, Prod.mk.injEq] at h
      obtain ⟨rfl, rfl, rfl⟩ := h
      obtain ⟨y, h1, h2⟩ := lastB_spec (l := o' :: r) hr
      exact ⟨y, by rw [h1]; rfl, h2⟩
    · cases h

/-- The walk as far as the defer; the code behind it. -/
def wpb (T : Tbl) (O : Org) (c : Code) : St → (St → EV → TypeId → Code → Prop) → Prop :=
  Code.rec (motive := fun _ => St → (St → EV → TypeId → Code → Prop) → Prop)
    (fun _ _ => False)
    (fun _ _ _ _ _ => False)
    (fun a b _ wb s k => match a with
      | .region id ops false => match lastB ops.toList with
        | some (pre, x, t) => opsX T ops pre s fun s' => k s' (evT s'.tmps x) t b
        | none => wpx T O (.region id ops false) s (normK fun s' => wb s' k)
      | a => wpx T O a s (normK fun s' => wb s' k))
    (fun _ _ _ _ _ _ _ => False)
    (fun _ _ _ _ _ => False)
    (fun _ _ _ _ => False)
    (fun _ _ _ _ _ _ _ _ => False)
    (fun _ _ _ => False)
    (fun _ _ _ _ => False)
    (fun _ _ _ => False)
    (fun _ _ _ => False)
    (fun _ _ => False)
    (fun _ _ _ => False)
    c

theorem wpb_seq (T : Tbl) (O : Org) (a b : Code) (s : St) (k : St → EV → TypeId → Code → Prop) : wpb T O (.seq a b) s k = (match a with
    | .region id ops false => match lastB ops.toList with
      | some (pre, x, t) => opsX T ops pre s fun s' => k s' (evT s'.tmps x) t b
      | none => wpx T O (.region id ops false) s (normK fun s' => wpb T O b s' k)
    | a => wpx T O a s (normK fun s' => wpb T O b s' k)) := rfl

theorem wpb_snd {T : Tbl} {O : Org} (on : O.E.n = O.h.length) {Q : Exit → Act → World → Prop} {k : St → EV → TypeId → Code → Prop}
    (hk : ∀ E s a w x xv t ty b consts, k s x t b → denE E x xv → Rel O E s a w → Code.wp T.P b Q { a with defers := { target := .builtin .clear #[t] ty consts, args := #[xv] } :: a.defers } w) :
    ∀ (c : Code) {E : Emb} {s : St} {a : Act} {w : World}, wpb T O c s k → Rel O E s a w → c.wp T.P Q a w := by
  have step : ∀ (x y : Code) {E : Emb} {s : St} {a : Act} {w : World} {n : St → Prop}, wpx T O x s (normK n) → Rel O E s a w → (∀ {E s a w}, n s → Rel O E s a w → y.wp T.P Q a w) → (Code.seq x y).wp T.P Q a w := by
    intro x y E s a w n hx R hy
    refine wp_seq (Code.wp_mono ?_ (wpx_snd on x hx R))
    rintro e a' w' ⟨E', s', h1, h2⟩
    cases e <;> first
      | exact hy h1 h2
      | exact h1.elim
  intro c
  induction c with
  | seq x y _ ihy =>
    intro E s a w h R
    rw [wpb_seq] at h
    split at h
    · rename_i id ops _ _
      split at h
      · rename_i pre x t hl
        obtain ⟨o, h1, hg, hd, hop⟩ := lastB_spec hl
        refine wp_seq (wp_region_list ?_)
        rw [h1]
        refine opsX_append on pre [o] R h fun E' s' a' w' hk' R' => ?_
        have hxd := ev_denE R'.fr x
        unfold wpList
        rw [if_pos (by simp [Region.wanted, hg])]
        refine .inl ?_
        unfold Oper.wp
        have hex : ∃ cs, (execOp a'.eval o).run T.P w' = .ok (.defer { target := .builtin .clear #[t] o.type cs, args := #[a'.eval x] }) w' := by
          refine ⟨(#[x] : Array Operand).map (fun y => match y with | .const _ => true | _ => false), ?_⟩
          have em : (#[x] : Array Operand).map a'.eval = #[a'.eval x] := by simp
          unfold execOp
          simp only [hop, resolve, em]
          rfl
        obtain ⟨cs, hex⟩ := hex
        rw [hex, Oper.upon_defer, hd]
        exact hk E' s' a' w' _ _ _ o.type _ cs hk' hxd R'
      · exact step _ _ h R fun h1 h2 => ihy h1 h2
    · exact step _ _ h R fun h1 h2 => ihy h1 h2
  | _ => intro E s a w h R; exact h.elim

/-- What comes behind the code: the map is cleared; what is handed back. -/
def bodyB (T : Tbl) (F : Func) (x : EV) (t : TypeId) (Q : EV → List Blk → Prop) : Exit → St → Prop
  | .normal, s => match T.ty t, x with
    | some { d := .map _ _, .. }, .s (.map b) => match nthB s.heap b with
      | some (.map _) => updBK s.heap b (.map []) fun h => resX T ⟨s.tmps, h⟩ F.results.toList Q
      | _ => False
    | _, _ => False
  | .ret, s => match T.ty t, x with
    | some { d := .map _ _, .. }, .s (.map b) => match nthB s.heap b with
      | some (.map _) => updBK s.heap b (.map []) fun h => resX T ⟨s.tmps, h⟩ F.results.toList Q
      | _ => False
    | _, _ => False
  | _, _ => False

/-- A function's body that defers a clearing, walked. -/
def fnXB (T : Tbl) (O : Org) (F : Func) (args : List EV) (h : List Blk) (Q : EV → List Blk → Prop) : Prop :=
  match F.body with
  | some c => frameK args F.ntmps fun ts => wpb T O c ⟨ts, h⟩ fun s x t rest => ∀ O' : Org, O'.E.n = O'.h.length → O'.E.n = s.heap.length → O.E.n ≤ O'.E.n → wpx T O' rest s (bodyB T F x t Q)
  | none => False

theorem fnXB_call (T : Tbl) {f : FuncId} {F : Func} (hF : T.P.funcs[f]? = some F) {args : List EV} {h : List Blk} {Q : EV → List Blk → Prop}
    (hX : ∀ E w (Z : TabOk E h w), Sim E h w → fnXB T ⟨E, h, w, [], Z⟩ F args h Q) : CallG T f args h Q := by
  intro E w vs S Z hargs
  have hx := hX E w Z S
  unfold fnXB at hx
  split at hx
  · rename_i c hc
    rw [frameK_eq] at hx
    refine calls_of_wp_builtin hF hc ?_
    have hlen : vs.size = args.length := by rw [← Array.length_toList]; exact denT_length hargs
    have R : Rel ⟨E, h, w, [], Z⟩ E { tmps := args ++ junks (F.ntmps - args.length), heap := h } { tmps := vs ++ Array.replicate (F.ntmps - vs.size) undef, defers := [] } w := by
      refine ⟨⟨by simp [length_junks, hlen], fun i v hi => ?_⟩, rfl, S, Since.refl _ _ _⟩
      rw [nth_append_junks]
      split
      · rename_i hlt
        rw [Array.getElem?_append_left (by omega)] at hi
        exact denT_nth hargs (by simpa using hi)
      · simp only [denE]
    refine wpb_snd (O := ⟨E, h, w, [], Z⟩) S.n ?_ c hx R
    intro E1 s1 a1 w1 x0 xv t ty rest consts hk hxd R1
    have hdf : a1.defers = [] := R1.df
    generalize hdd : ({ target := .builtin .clear #[t] ty consts, args := #[xv] } : Deferred) = d
    have Z1 : TabOk E1 s1.heap w1 := Z.since R1.sin
    have hO := hk ⟨E1, s1.heap, w1, [d], Z1⟩ R1.sim.n R1.sim.n (by have h1 := R1.sin.len; have h2 := S.n; have h3 := R1.sim.n; simp only at *; omega)
    have R1' : Rel ⟨E1, s1.heap, w1, [d], Z1⟩ E1 s1 { a1 with defers := d :: a1.defers } w1 := ⟨R1.fr, by simp [hdf], R1.sim, Since.refl _ _ _⟩
    refine Code.wp_mono ?_ (wpx_snd (T := T) (O := ⟨E1, s1.heap, w1, [d], Z1⟩) R1.sim.n rest hO R1')
    have key : ∀ E2 s2 a2 w2, bodyB T F x0 t Q .normal s2 → Rel ⟨E1, s1.heap, w1, [d], Z1⟩ E2 s2 a2 w2 → postB T.P F (Post E h w Q) .normal a2 w2 := by
      intro E2 s2 a2 w2 hb R2
      have hdf2 : a2.defers = [d] := R2.df
      unfold bodyB at hb
      simp only at hb
      split at hb
      · rename_i kt et _ _ _ b ht
        split at hb
        · rename_i es hbk
          rw [updBK_eq, updB_eq] at hb
          have hle2 : E1.le E2 := R2.sin.le R1.sim.n R2.sim.n
          simp only [denE, denV] at hxd
          obtain ⟨hb1, rfl⟩ := hxd
          have hbk' := nthB_get hbk
          obtain ⟨l, clock, hl, _⟩ := R2.sim.ok b _ hbk'
          have hloc : E1.f b = E2.f b := (hle2.2 b hb1).symm
          have S3 := R2.sim.mset (es' := []) hbk' (l' := #[]) (c' := clock) hl (by simp [denM])
          have N3 := Since.mset (E := E2) (h := s2.heap) (es' := []) hbk' (l' := #[]) (c' := clock) hl
          have hfr : frameOk E2 s2.tmps a2.tmps := R2.fr
          obtain ⟨u, v', k1, k2, k3⟩ := resX_snd T (s := ⟨s2.tmps, s2.heap.set b (.map [])⟩) hfr S3 hb
          have hd : T.P.underlying t = some (.map kt et) := (T.tyOk _ _ ht).desc
          refine ⟨d, .clear, #[t], ty, consts, .tuple #[], _, u, hdf2, by rw [← hdd], ?_, k1, u, v', _, E2, rfl, k2, S3, ?_, k3⟩
          · rw [← hdd]
            simp [invoke, builtin, Builtin.clear_, run_underlying hd, hloc, MapKept.run_getObj_map hl, MapKept.run_setObj_map _ hl, Result.andThen]
          · exact ((R1.sin).trans S.n R1.sim.n R2.sin).trans S.n R2.sim.n N3
        · exact hb.elim
      · exact hb.elim
    rintro e a2 w2 ⟨E2, s2, hb, R2⟩
    cases e <;> first
      | exact key E2 s2 a2 w2 hb R2
      | exact hb.elim
  · exact hx.elim

/-- **A function that defers a clearing, walked over a small heap.** -/
theorem fnXB_does (T : Tbl) {f : FuncId} {F : Func} (hF : T.P.funcs[f]? = some F) (hb : F.body.isNone = false) (hname : (F.name == "runtime.NumGoroutine") = false) {args : List EV} {h : List Blk} {Q : EV → List Blk → Prop}
    (hX : ∀ O : Org, O.E.n = O.h.length → O.E.n = h.length → fnXB T O F args h (Ends h.length Q)) : Does T f args h Q := by
  refine ⟨.inl ⟨⟨F, hF, hb, hname⟩, fun E w vs S Z ha => ?_⟩⟩
  have c := fnXB_call T hF (args := args) (h := h) (Q := Ends h.length Q) (fun E w Z S => hX _ S.n S.n) E w vs S Z ha
  refine c.mono ?_
  rintro e w' ⟨v, x, h', E', rfl, hd, S', N', V, H, κ, hq, hnd, hid, hv, hh⟩
  obtain ⟨S'', h1, h2, h3⟩ := S'.renum hnd hh
  refine ⟨v, V, H, _, rfl, ?_, S'', N'.renum S.n S' hnd (by rw [S.n]; exact hid) hh, hq⟩
  exact (denE_ren (E := ⟨H.length, fun i => E'.f (lk κ h'.length i)⟩) h1 (fun b hb => ⟨h2 b hb, rfl⟩) _ _).1 (eqvE_den _ _ _ hv hd)

end Go.Anv

/- A nil slice stands for one that has room for nothing: in what is handed in (Does.ghA), in what comes back (Does.ghR). -/
namespace Go.Anv
open Go
/-- The first nil slice becomes one of block b. -/
def gh1 (b : Nat) : List Seg → List Seg
  | [] => []
  | .one .nilslice :: r => .one (.gs b 0 0 0) :: r
  | x :: r => x :: gh1 b r
def ghE (b : Nat) : EV → EV
  | .agg cs => .agg (gh1 b cs)
  | x => x
def ghT (b : Nat) : Nat → List EV → List EV
  | _, [] => []
  | 0, x :: r => ghE b x :: r
  | i + 1, x :: r => x :: ghT b i r
theorem gh_nil {E : Emb} {v : Value} (h : denV E .nilslice v) : denV (E.push ⟨0, 0, true⟩) (.gs E.n 0 0 0) v := by
  simp only [denV] at h ⊢
  rw [Emb.push_new]
  exact ⟨by simp [Emb.push], fun _ => ⟨trivial, trivial⟩, by simpa using h⟩
theorem gh1_den {E : Emb} (hm : E.le (E.push ⟨0, 0, true⟩)) : ∀ (cs : List Seg) (l : List Value), denS E cs l → denS (E.push ⟨0, 0, true⟩) (gh1 E.n cs) l
  | [], l, h => h
  | .one v :: r, l, h => by
    obtain ⟨x, l', rfl, h1, h2⟩ := h
    by_cases e : v = .nilslice
    · subst e
      exact ⟨x, l', rfl, gh_nil h1, denS_mono hm _ _ h2⟩
    · have : gh1 E.n (.one v :: r) = .one v :: gh1 E.n r := by
        cases v <;> first | rfl | exact absurd rfl e
      rw [this]
      exact ⟨x, l', rfl, denV_mono hm _ _ h1, gh1_den hm r l' h2⟩
  | .ints k n f :: r, l, h => by
    obtain ⟨l', rfl, h2⟩ := h
    exact ⟨l', rfl, gh1_den hm r l' h2⟩
theorem ghE_den {E : Emb} (hm : E.le (E.push ⟨0, 0, true⟩)) (e : EV) (x : Value) (h : denE E e x) : denE (E.push ⟨0, 0, true⟩) (ghE E.n e) x := by
  cases e with
  | agg cs =>
    simp only [ghE, denE] at h ⊢
    obtain ⟨l, rfl, h1⟩ := h
    exact ⟨l, rfl, gh1_den hm _ _ h1⟩
  | _ => exact denE_mono hm _ _ h
theorem ghT_den {E : Emb} (hm : E.le (E.push ⟨0, 0, true⟩)) : ∀ (i : Nat) (es : List EV) (l : List Value), denT E es l → denT (E.push ⟨0, 0, true⟩) (ghT E.n i es) l
  | _, [], l, h => by
    simp only [ghT, denT] at h ⊢
    exact h
  | 0, e :: r, l, h => by
    simp only [ghT, denT] at h ⊢
    obtain ⟨v, l', rfl, h1, h2⟩ := h
    exact ⟨v, l', rfl, ghE_den hm _ _ h1, denT_mono hm _ _ h2⟩
  | i + 1, e :: r, l, h => by
    simp only [ghT, denT] at h ⊢
    obtain ⟨v, l', rfl, h1, h2⟩ := h
    exact ⟨v, l', rfl, denE_mono hm _ _ h1, ghT_den hm i _ _ h2⟩
/-- An argument's first nil slice: one that has room for nothing. -/
theorem Does.ghA {T : Tbl} {f : FuncId} {args : List EV} {h : List Blk} {Q : EV → List Blk → Prop} (k : IntKind) (g : Nat → Int) (i : Nat) (d : Does T f (ghT h.length i args) (h ++ [.cells true [.ints k 0 g] 0]) Q) : Does T f args h Q := by
  have key : ∀ {E : Emb} {w : World} {vs : List Value}, Sim E h w → denT E args vs → ∃ E', Sim E' (h ++ [.cells true [.ints k 0 g] 0]) w ∧ Since E h w E' (h ++ [.cells true [.ints k 0 g] 0]) w ∧ denT E' (ghT h.length i args) vs := fun {E w vs} S ha => by
    obtain ⟨S', N'⟩ := push_nil S (cs := [.ints k 0 g]) ⟨[], rfl, rfl⟩
    refine ⟨_, S', N', ?_⟩
    rw [← S.n]
    exact ghT_den (N'.le S.n S'.n) _ _ _ ha
  have back : ∀ {E E' : Emb} {w w' : World} {e : Ending}, E.n = h.length → E'.n = (h ++ [Blk.cells true [.ints k 0 g] 0]).length → Since E h w E' (h ++ [.cells true [.ints k 0 g] 0]) w → Post E' (h ++ [.cells true [.ints k 0 g] 0]) w Q e w' → Post E h w Q e w' := fun {E E' w w' e} n n' N p => by
    obtain ⟨v, x, h', E'', h1, h2, h3, h4, h5⟩ := p
    exact ⟨v, x, h', E'', h1, h2, h3, N.trans n n' h4, h5⟩
  refine ⟨?_⟩
  rcases d.go with ⟨h1, h2⟩ | h1
  · refine .inl ⟨h1, fun E w vs S Z ha => ?_⟩
    obtain ⟨E', S', N', ha'⟩ := key S ha
    exact (h2 E' w vs S' (Z.since N') ha').mono fun e w' p => back S.n S'.n N' p
  · refine .inr fun E w vs S ha => ?_
    obtain ⟨E', S', N', ha'⟩ := key S ha
    obtain ⟨u, w', h2, h3⟩ := h1 E' w vs S' ha'
    exact ⟨u, w', h2, back S.n S'.n N' h3⟩
/-- A result's first nil slice: one that has room for nothing. -/
theorem Does.ghR {T : Tbl} {f : FuncId} {args : List EV} {h : List Blk} {X : EV} {H : List Blk} (k : IntKind) (g : Nat → Int) (d : Does T f args h (fun v h' => v = X ∧ h' = H)) :
    Does T f args h (fun v h' => v = ghE H.length X ∧ h' = H ++ [.cells true [.ints k 0 g] 0]) := by
  have back : ∀ {E : Emb} {w w' : World} {e : Ending}, Sim E h w → Post E h w (fun v h' => v = X ∧ h' = H) e w' → Post E h w (fun v h' => v = ghE H.length X ∧ h' = H ++ [.cells true [.ints k 0 g] 0]) e w' := fun {E w w' e} S p => by
    obtain ⟨v, x, h', E'', h1, h2, h3, h4, rfl, rfl⟩ := p
    obtain ⟨S', N'⟩ := push_nil h3 (cs := [.ints k 0 g]) ⟨[], rfl, rfl⟩
    refine ⟨v, _, _, _, h1, ?_, S', h4.trans S.n h3.n N', rfl, rfl⟩
    rw [← h3.n]
    exact ghE_den (N'.le h3.n S'.n) _ _ h2
  refine ⟨?_⟩
  rcases d.go with ⟨h1, h2⟩ | h1
  · exact .inl ⟨h1, fun E w vs S Z ha => (h2 E w vs S Z ha).mono fun e w' p => back S p⟩
  · refine .inr fun E w vs S ha => ?_
    obtain ⟨u, w', h2, h3⟩ := h1 E w vs S ha
    exact ⟨u, w', h2, back S h3⟩
/-- A heap that says more. -/
theorem Does.heq {T : Tbl} {f : FuncId} {args : List EV} {h b : List Blk} {Q : EV → List Blk → Prop} (e : eqvH h b) (d : Does T f args b Q) : Does T f args h Q := by
  have back : ∀ {E : Emb} {w w' : World} {x : Ending}, Sim E h w → Post E b w Q x w' → Post E h w Q x w' := fun {E w w' x} S p => by
    obtain ⟨v, y, h', E'', h1, h2, h3, h4, h5⟩ := p
    exact ⟨v, y, h', E'', h1, h2, h3, ((Since.refl E h w).eqv e).trans S.n (S.eqv e).n h4, h5⟩
  refine ⟨?_⟩
  rcases d.go with ⟨h1, h2⟩ | h1
  · exact .inl ⟨h1, fun E w vs S Z ha => (h2 E w vs (S.eqv e) (Z.since ((Since.refl E h w).eqv e)) ha).mono fun x w' p => back S p⟩
  · refine .inr fun E w vs S ha => ?_
    obtain ⟨u, w', h2, h3⟩ := h1 E w vs (S.eqv e) ha
    exact ⟨u, w', h2, back S h3⟩
end Go.Anv

/- The debugger's packets: Unpack of a packet, of bytes that are none. No condition: contracts of functions. -/
namespace Go.Anv
open Go
/-- What a packet must be, but for its payload. -/
structure PackOk (q : Nat → B8) (k : Nat) : Prop where
  head : q 0 = 36#8
  hash : q (k + 1) = 35#8
  mark : marked (fun j => q (1 + j)) k = false
  sum : pairI (q (k + 2)) (q (k + 3)) = (((sumN (fun j => q (1 + j)) k).toNat : Nat) : Int)
end Go.Anv
namespace Go.Proofs.YtghcdkpgcanpgaaDoor
open Go Go.Anv
set_option maxRecDepth 100000 in
theorem unpack_good (m : Bool) (c sp np : Nat) (q p : Nat → B8) (hnp : np ≤ 1000) (hc : (bodyN p np).length + 4 ≤ c) (ok : PackOk q (bodyN p np).length) (hb : ∀ j, j < (bodyN p np).length → (bodyN p np)[j]? = some (q (1 + j))) :
    Does TB 6 [.s (.gs 0 0 ((bodyN p np).length + 4) c)] [bblk m ((bodyN p np).length + 4) q sp] (fun v h' => ∃ cap, np ≤ cap ∧ v = .tuple [.s (.gs 1 0 np cap), .s (.int .i64 0)] ∧ h' = [bblk m ((bodyN p np).length + 4) q sp, bblk true np p (cap - np)]) := by
  refine fnX_does TB Tryd.func6 rfl (by decide) (fun O on hO => ?_)
  have hL := bodyN_len p np
  generalize hk : (bodyN p np).length = k at *
  obtain ⟨ok0, ok1, ok2, ok3⟩ := ok
  have w3 : IntKind.i64.wrap (((k + 4 : Nat) : Int) - 3) = ((k + 1 : Nat) : Int) := by rw [i64_in (by omega) (by omega)]; omega
  have w2 : IntKind.i64.wrap (((k + 4 : Nat) : Int) - 2) = ((k + 2 : Nat) : Int) := by rw [i64_in (by omega) (by omega)]; omega
  have w1 : IntKind.i64.wrap (((k + 4 : Nat) : Int) - 1) = ((k + 3 : Nat) : Int) := by rw [i64_in (by omega) (by omega)]; omega
  refine draw_held on rfl (fun _ _ h => h) ?_
  repeat (refine need_intro (by first | (intro _; rw [w3]; exact ⟨by omega, by omega⟩) | (intro _; rw [w2]; exact ⟨by omega, by omega⟩) | (intro _; rw [w1]; exact ⟨by omega, by omega⟩) | (intro _; exact ⟨by omega, by omega⟩) | (intro _; rw [w3]; omega) | (intro _; rw [w2]; omega) | (intro _; rw [w1]; omega) | (intro _; omega) | exact fun h => h | exact nt | exact an2 | exact an3 | rfl | (simp; done) | fail) ?_)
  have f4 : decide (((k + 4 : Nat) : Int) < 4) = false := decide_eq_false (by omega)
  have c0 : (bfun q (0 + Int.toNat 0) != 36) = false := by
    show (((q 0).toNat : Int) != 36) = false
    rw [ok0]; rfl
  have c3 : (bfun q (0 + (IntKind.i64.wrap (((k + 4 : Nat) : Int) - 3)).toNat) != 35) = false := by
    rw [w3, Nat.zero_add, Int.toNat_natCast]
    show (((q (k + 1)).toNat : Int) != 35) = false
    rw [ok1]; rfl
  have g : (!bif bif decide (((k + 4 : Nat) : Int) < 4) then true else bfun q (0 + Int.toNat 0) != 36 then true else bfun q (0 + (IntKind.i64.wrap (((k + 4 : Nat) : Int) - 3)).toNat) != 35) = true := by rw [f4, c0, c3]; rfl
  have a2 : bfun q (0 + (IntKind.i64.wrap (((k + 4 : Nat) : Int) - 2)).toNat) = (((q (k + 2)).toNat : Nat) : Int) := by rw [w2, Nat.zero_add, Int.toNat_natCast]; rfl
  have a1 : bfun q (0 + (IntKind.i64.wrap (((k + 4 : Nat) : Int) - 1)).toNat) = (((q (k + 3)).toNat : Nat) : Int) := by rw [w1, Nat.zero_add, Int.toNat_natCast]; rfl
  refine ifB_intro (fun _ => ?_) (fun h => absurd (h.symm.trans g) (by decide))
  refine Does.ungd (b := [.s (.int .u8 (((q (k + 2)).toNat : Nat) : Int)), .s (.int .u8 (((q (k + 3)).toNat : Nat) : Int))]) ⟨⟨g, by rw [a2]⟩, ⟨g, by rw [a1]⟩, trivial⟩ ?_
  refine (pair_spec _ _ _).mono ?_
  rintro _ _ ⟨rfl, rfl⟩
  repeat (refine need_intro (by first | exact g | exact fun h => h | exact nt | exact an2 | exact an3 | rfl | (simp; done) | fail) ?_)
  have e5 : (bif bif bif decide (((k + 4 : Nat) : Int) < 4) then true else bfun q (0 + Int.toNat 0) != 36 then true else bfun q (0 + (IntKind.i64.wrap (((k + 4 : Nat) : Int) - 3)).toNat) != 35 then true else decide (pairI (q (k + 2)) (q (k + 3)) < 0)) = false := by
    rw [f4, c0, c3, ok3]
    show decide ((((sumN (fun j => q (1 + j)) k).toNat : Nat) : Int) < 0) = false
    exact decide_eq_false (by omega)
  refine ifB_intro (fun h => absurd (h.symm.trans e5) (by decide)) (fun _ => ?_)
  repeat (refine need_intro (by first | (rw [w3]; exact ⟨by omega, by omega, by omega⟩) | (rw [w3]; exact ⟨by omega, by omega, by omega, by omega⟩) | exact fun h => h | exact nt | exact an2 | exact an3 | rfl | (simp; done) | fail) ?_)
  have sk : skip c (Int.toNat 1) 0 ti5.size = 1 := by
    unfold skip
    rw [if_neg (by show ¬ c = 1; omega)]
    rfl
  have sl : (((k + 1 : Nat) : Int)).toNat - Int.toNat 1 = k := by rw [Int.toNat_natCast]; exact Nat.add_sub_cancel k 1
  refine args_eq (b := [.s (.gs 0 1 k (c - 1)), .s (.str marksB)]) (by rw [w3, sk, sl]; rfl) ?_
  have mk := marks_spec m (k + 4) k 1 (c - 1) sp q (by omega) (by omega) (by omega)
  rw [ok2] at mk
  refine Does.atc (mk) [0] rfl ⟨rfl, trivial⟩ (by decide) ?_
  refine draw_held on rfl (fun _ _ h => h) ?_
  repeat (refine need_intro (by first | (rw [w2]; exact ⟨by omega, by omega⟩) | (rw [w1]; exact ⟨by omega, by omega⟩) | (rw [w2]; omega) | (rw [w1]; omega) | exact fun h => h | exact nt | exact an2 | exact an3 | rfl | (simp; done) | fail) ?_)
  refine args_eq (b := [.s (.int .u8 (((q (k + 2)).toNat : Nat) : Int)), .s (.int .u8 (((q (k + 3)).toNat : Nat) : Int))]) (by rw [a2, a1]) ?_
  refine (pair_spec _ _ _).mono ?_
  rintro _ _ ⟨rfl, rfl⟩
  repeat (refine need_intro (by first | exact an2 | exact an3 | exact fun h => h | exact nt | exact an2 | exact an3 | rfl | (simp; done) | fail) ?_)
  refine args_eq (b := [.s (.gs 0 1 k (c - 1))]) (by rw [w3, sk, sl]; rfl) ?_
  have sm := sum_spec m (k + 4) 1 k (c - 1) sp (bfun q) (fun j => q (1 + j)) (by omega) (by omega) (fun _ _ => rfl)
  refine Does.atc (sm) [0] rfl ⟨rfl, trivial⟩ (by decide) ?_
  repeat (refine need_intro (by first | exact an2 | exact an3 | exact fun h => h | exact nt | exact an2 | exact an3 | rfl | (simp; done) | fail) ?_)
  have sb : IntKind.i64.wrap (((sumN (fun j => q (1 + j)) k).toNat : Nat) : Int) = (((sumN (fun j => q (1 + j)) k).toNat : Nat) : Int) := by
    have := (sumN (fun j => q (1 + j)) k).isLt
    exact i64_in (by omega) (by omega)
  have e6 : (pairI (q (k + 2)) (q (k + 3)) != IntKind.i64.wrap (((sumN (fun j => q (1 + j)) k).toNat : Nat) : Int)) = false := by rw [sb, ok3]; simp
  refine ifB_intro (fun h => absurd (h.symm.trans e6) (by decide)) (fun _ => ?_)
  repeat (refine need_intro (by first | exact an2 | exact an3 | exact fun h => h | exact nt | exact an2 | exact an3 | rfl | (simp; done) | fail) ?_)
  refine args_eq (b := [.s (.gs 0 1 k (c - 1))]) (by rw [w3, sk, sl]; rfl) ?_
  have pl := plain_spec m (k + 4) 1 (c - 1) sp np p q hnp (by rw [hk]; omega) (by rw [hk]; exact hb)
  rw [hk] at pl
  refine pl.mono ?_
  rintro v h' ⟨cap, hcap, rfl, rfl⟩
  repeat (refine need_intro (by first | exact an2 | exact an3 | exact fun h => h | exact nt | exact an2 | exact an3 | rfl | (simp; done) | fail) ?_)
  refine ifB_intro (fun h => absurd (of_decide_eq_true h) (by omega)) (fun _ => ?_)
  exact ⟨_, _, [0, 1], ⟨cap, hcap, rfl, rfl⟩, by decide, ⟨rfl, trivial⟩, eqvE_refl _, ⟨⟨_, rfl, eqvB_refl _⟩, ⟨_, rfl, eqvB_refl _⟩, trivial⟩⟩
set_option maxRecDepth 100000 in
theorem unpack_bad (m : Bool) (c sp k : Nat) (q : Nat → B8) (hk : k ≤ 4000) (hc : k + 4 ≤ c) (bad : ¬ PackOk q k) :
    Does TB 6 [.s (.gs 0 0 (k + 4) c)] [bblk m (k + 4) q sp] (fun v h' => (∃ e, e ≠ 0 ∧ v = .tuple [.s .nilslice, .s (.int .i64 e)]) ∧ h' = [bblk m (k + 4) q sp]) := by
  refine fnX_does TB Tryd.func6 rfl (by decide) (fun O on hO => ?_)
  have fin : ∀ {e : Int} {J : List Blk}, e ≠ 0 → Anv.Ends 1 (fun v h' => (∃ e, e ≠ 0 ∧ v = .tuple [.s .nilslice, .s (.int .i64 e)]) ∧ h' = [bblk m (k + 4) q sp]) (.tuple [.s .nilslice, .s (.int .i64 e)]) ([bblk m (k + 4) q sp] ++ J) := by
    intro e J he
    exact ⟨_, _, [0], ⟨⟨e, he, rfl⟩, rfl⟩, by decide, ⟨rfl, trivial⟩, eqvE_refl _, ⟨⟨_, rfl, eqvB_refl _⟩, trivial⟩⟩
  have w3 : IntKind.i64.wrap (((k + 4 : Nat) : Int) - 3) = ((k + 1 : Nat) : Int) := by rw [i64_in (by omega) (by omega)]; omega
  have w2 : IntKind.i64.wrap (((k + 4 : Nat) : Int) - 2) = ((k + 2 : Nat) : Int) := by rw [i64_in (by omega) (by omega)]; omega
  have w1 : IntKind.i64.wrap (((k + 4 : Nat) : Int) - 1) = ((k + 3 : Nat) : Int) := by rw [i64_in (by omega) (by omega)]; omega
  refine draw_held on rfl (fun _ _ h => h) ?_
  repeat (refine need_intro (by first | (intro _; rw [w3]; exact ⟨by omega, by omega⟩) | (intro _; rw [w2]; exact ⟨by omega, by omega⟩) | (intro _; rw [w1]; exact ⟨by omega, by omega⟩) | (intro _; exact ⟨by omega, by omega⟩) | (intro _; rw [w3]; omega) | (intro _; rw [w2]; omega) | (intro _; rw [w1]; omega) | (intro _; omega) | exact fun h => h | exact nt | exact an2 | exact an3 | rfl | (simp; done) | fail) ?_)
  have f4 : decide (((k + 4 : Nat) : Int) < 4) = false := decide_eq_false (by omega)
  have c0 : (bfun q (0 + Int.toNat 0) != 36) = !(q 0 == 36#8) := by
    show (((q 0).toNat : Int) != 36) = _
    exact bne_nat (q 0) 36#8
  have c3 : (bfun q (0 + (IntKind.i64.wrap (((k + 4 : Nat) : Int) - 3)).toNat) != 35) = !(q (k + 1) == 35#8) := by
    rw [w3, Nat.zero_add, Int.toNat_natCast]
    exact bne_nat (q (k + 1)) 35#8
  have gE : (bif bif decide (((k + 4 : Nat) : Int) < 4) then true else bfun q (0 + Int.toNat 0) != 36 then true else bfun q (0 + (IntKind.i64.wrap (((k + 4 : Nat) : Int) - 3)).toNat) != 35) = !(q 0 == 36#8 && q (k + 1) == 35#8) := by
    rw [f4, c0, c3]
    cases (q 0 == 36#8) <;> cases (q (k + 1) == 35#8) <;> rfl
  have a2 : bfun q (0 + (IntKind.i64.wrap (((k + 4 : Nat) : Int) - 2)).toNat) = (((q (k + 2)).toNat : Nat) : Int) := by rw [w2, Nat.zero_add, Int.toNat_natCast]; rfl
  have a1 : bfun q (0 + (IntKind.i64.wrap (((k + 4 : Nat) : Int) - 1)).toNat) = (((q (k + 3)).toNat : Nat) : Int) := by rw [w1, Nat.zero_add, Int.toNat_natCast]; rfl
  refine ifB_intro (fun g => ?_) (fun g => ?_)
  · have hh : (q 0 == 36#8 && q (k + 1) == 35#8) = true := by
      have := (congrArg (!·) gE).symm.trans g
      simpa using this
    rw [Bool.and_eq_true, beq_iff_eq, beq_iff_eq] at hh
    refine Does.ungd (b := [.s (.int .u8 (((q (k + 2)).toNat : Nat) : Int)), .s (.int .u8 (((q (k + 3)).toNat : Nat) : Int))]) ⟨⟨g, by rw [a2]⟩, ⟨g, by rw [a1]⟩, trivial⟩ ?_
    refine (pair_spec _ _ _).mono ?_
    rintro _ _ ⟨rfl, rfl⟩
    repeat (refine need_intro (by first | exact g | exact fun h => h | exact nt | exact an2 | exact an3 | rfl | (simp; done) | fail) ?_)
    refine ifB_intro (fun _ => ?_) (fun _ => ?_)
    · exact fin (by decide)
    repeat (refine need_intro (by first | (rw [w3]; exact ⟨by omega, by omega, by omega⟩) | (rw [w3]; exact ⟨by omega, by omega, by omega, by omega⟩) | exact fun h => h | exact nt | exact an2 | exact an3 | rfl | (simp; done) | fail) ?_)
    have sk : skip c (Int.toNat 1) 0 ti5.size = 1 := by
      unfold skip
      rw [if_neg (by show ¬ c = 1; omega)]
      rfl
    have sl : (((k + 1 : Nat) : Int)).toNat - Int.toNat 1 = k := by rw [Int.toNat_natCast]; exact Nat.add_sub_cancel k 1
    refine args_eq (b := [.s (.gs 0 1 k (c - 1)), .s (.str marksB)]) (by rw [w3, sk, sl]; rfl) ?_
    refine Does.atc (marks_spec m (k + 4) k 1 (c - 1) sp q (by omega) (by omega) (by omega)) [0] rfl ⟨rfl, trivial⟩ (by decide) ?_
    refine ifB_intro (fun _ => ?_) (fun hm => ?_)
    · exact fin (by decide)
    refine draw_held on rfl (fun _ _ h => h) ?_
    repeat (refine need_intro (by first | (rw [w2]; exact ⟨by omega, by omega⟩) | (rw [w1]; exact ⟨by omega, by omega⟩) | (rw [w2]; omega) | (rw [w1]; omega) | exact fun h => h | exact nt | exact an2 | exact an3 | rfl | (simp; done) | fail) ?_)
    refine args_eq (b := [.s (.int .u8 (((q (k + 2)).toNat : Nat) : Int)), .s (.int .u8 (((q (k + 3)).toNat : Nat) : Int))]) (by rw [a2, a1]) ?_
    refine (pair_spec _ _ _).mono ?_
    rintro _ _ ⟨rfl, rfl⟩
    repeat (refine need_intro (by first | exact an2 | exact an3 | exact fun h => h | exact nt | exact an2 | exact an3 | rfl | (simp; done) | fail) ?_)
    refine args_eq (b := [.s (.gs 0 1 k (c - 1))]) (by rw [w3, sk, sl]; rfl) ?_
    have sm := sum_spec m (k + 4) 1 k (c - 1) sp (bfun q) (fun j => q (1 + j)) (by omega) (by omega) (fun _ _ => rfl)
    refine Does.atc (sm) [0] rfl ⟨rfl, trivial⟩ (by decide) ?_
    repeat (refine need_intro (by first | exact an2 | exact an3 | exact fun h => h | exact nt | exact an2 | exact an3 | rfl | (simp; done) | fail) ?_)
    have sb : IntKind.i64.wrap (((sumN (fun j => q (1 + j)) k).toNat : Nat) : Int) = (((sumN (fun j => q (1 + j)) k).toNat : Nat) : Int) := by
      have := (sumN (fun j => q (1 + j)) k).isLt
      exact i64_in (by omega) (by omega)
    refine ifB_intro (fun _ => ?_) (fun hs => ?_)
    · exact fin (by decide)
    · have hs := bne_eq_false_iff_eq.1 hs
      rw [sb] at hs
      exact absurd ⟨hh.1, hh.2, hm, hs⟩ bad
  · have g2 := g
    rw [Bool.not_eq_false'] at g2
    repeat (refine need_intro (by first | exact g | exact g2 | (exact fun _ => g2) | exact fun h => h | exact nt | exact an2 | exact an3 | rfl | (simp; done) | fail) ?_)
    refine ifB_intro (fun h => absurd (h.symm.trans g) (by decide)) (fun _ => ?_)
    repeat (refine need_intro (by first | exact g | exact g2 | (exact fun _ => g2) | exact fun h => h | exact nt | exact an2 | exact an3 | rfl | (simp; done) | fail) ?_)
    exact fin (by decide)
end Go.Proofs.YtghcdkpgcanpgaaDoor

/- The debugger's packets: the packet of a payload is one; a packet of which one byte is another is none. Plain theorems. -/
namespace Go.Anv
open Go
theorem body_ge (p : Nat → B8) : ∀ n, n ≤ (bodyN p n).length
  | 0 => Nat.le_refl _
  | n + 1 => by
    have := body_ge p n
    have h : 1 ≤ (esc (p n)).length := by unfold esc; split <;> simp
    rw [bodyN, List.length_append]
    omega
theorem esc_unmarked (c : B8) : (esc c).all (fun b => !isMark b) = true := by
  revert c
  decide +kernel
theorem body_unmarked (p : Nat → B8) : ∀ n, (bodyN p n).all (fun b => !isMark b) = true
  | 0 => rfl
  | n + 1 => by rw [bodyN, List.all_append, body_unmarked p n, esc_unmarked]; rfl
theorem pair_hex (s : B8) : pairI (hexd (s >>> 4).toNat) (hexd (s &&& 15#8).toNat) = ((s.toNat : Nat) : Int) := by
  revert s
  decide +kernel
theorem sumN_congr {p q : Nat → B8} : ∀ {n : Nat}, (∀ j, j < n → p j = q j) → sumN p n = sumN q n
  | 0, _ => rfl
  | n + 1, h => by rw [sumN, sumN, sumN_congr fun j hj => h j (by omega), h n (by omega)]
/-- A packet's bytes. -/
def packQ (p : Nat → B8) (n : Nat) (j : Nat) : B8 := (packetN p n).getD j 0#8
theorem packet_len (p : Nat → B8) (n : Nat) : (packetN p n).length = (bodyN p n).length + 4 := by
  unfold packetN
  simp
theorem packQ_body (p : Nat → B8) (n j : Nat) (h : j < (bodyN p n).length) : (bodyN p n)[j]? = some (packQ p n (1 + j)) := by
  unfold packQ packetN
  rw [List.getD_eq_getElem?_getD, List.getElem?_append_left (by simp; omega), Nat.add_comm, List.getElem?_cons_succ, List.getElem?_eq_getElem h]
  rfl
theorem packQ_end (p : Nat → B8) (n j : Nat) : packQ p n ((bodyN p n).length + 1 + j) = [35#8, hexd (sumL (bodyN p n) >>> 4).toNat, hexd (sumL (bodyN p n) &&& 15#8).toNat].getD j 0#8 := by
  unfold packQ packetN
  rw [List.getD_eq_getElem?_getD, List.getElem?_append_right (by simp), List.getD_eq_getElem?_getD]
  congr 2
  simp
theorem packQ_sum (p : Nat → B8) (n : Nat) : sumN (fun j => packQ p n (1 + j)) (bodyN p n).length = sumL (bodyN p n) := by
  unfold sumL
  refine sumN_congr fun j hj => ?_
  have := packQ_body p n j hj
  rw [List.getD_eq_getElem?_getD, this]
  rfl
theorem packet_ok (p : Nat → B8) (n : Nat) : PackOk (packQ p n) (bodyN p n).length := by
  refine ⟨rfl, packQ_end p n 0, ?_, ?_⟩
  · rw [Bool.eq_false_iff]
    intro e
    obtain ⟨j, hj, hm⟩ := List.any_eq_true.1 e
    have hj := List.mem_range.1 hj
    have h1 := packQ_body p n j hj
    have h2 := List.all_eq_true.1 (body_unmarked p n) _ (List.mem_of_getElem? h1)
    rw [hm] at h2
    cases h2
  · rw [packQ_sum]
    have h1 : packQ p n ((bodyN p n).length + 2) = hexd (sumL (bodyN p n) >>> 4).toNat := packQ_end p n 1
    have h2 : packQ p n ((bodyN p n).length + 3) = hexd (sumL (bodyN p n) &&& 15#8).toNat := packQ_end p n 2
    rw [h1, h2, pair_hex]
/-- One byte is another. -/
def flipQ (q : Nat → B8) (i : Nat) (c : B8) (j : Nat) : B8 := if j = i then c else q j
theorem sumN_flip (q : Nat → B8) (i : Nat) (c : B8) : ∀ n, i < n → sumN (flipQ q i c) n = sumN q n - q i + c
  | 0, h => absurd h (Nat.not_lt_zero i)
  | n + 1, h => by
    rw [sumN, sumN]
    rcases Nat.lt_succ_iff_lt_or_eq.1 h with h' | h'
    · rw [sumN_flip q i c n h', show flipQ q i c n = q n from if_neg (by omega)]
      simp only [BitVec.sub_eq_add_neg, BitVec.add_assoc]
      congr 1
      rw [BitVec.add_comm c (q n), ← BitVec.add_assoc, BitVec.add_comm (-q i) (q n), BitVec.add_assoc]
    · subst h'
      rw [show flipQ q i c i = c from if_pos rfl, sumN_congr (p := flipQ q i c) (q := q) fun j hj => if_neg (by omega)]
      congr 1
      rw [BitVec.add_sub_cancel]
theorem digit_rangeI (c : B8) : -1 ≤ digitI c ∧ digitI c ≤ 15 := by
  revert c
  decide +kernel
theorem pair_val (x y : Fin 16) : bitX .or .i64 (IntKind.i64.wrap ((x.val : Int) * 2 ^ min (Int.toNat 4) IntKind.i64.bits)) (y.val : Int) = (x.val : Int) * 16 + (y.val : Int) := by
  revert x y
  decide +kernel
theorem pair_digits {a b s : B8} (h : pairI a b = ((s.toNat : Nat) : Int)) : digitI a = (((s >>> 4).toNat : Nat) : Int) ∧ digitI b = (((s &&& 15#8).toNat : Nat) : Int) := by
  have ha := digit_rangeI a
  have hb := digit_rangeI b
  unfold pairI at h
  split at h
  · omega
  · rename_i hn
    obtain ⟨x, hx⟩ : ∃ x : Fin 16, digitI a = (x.val : Int) := ⟨⟨(digitI a).toNat, by omega⟩, by show digitI a = ((digitI a).toNat : Int); omega⟩
    obtain ⟨y, hy⟩ : ∃ y : Fin 16, digitI b = (y.val : Int) := ⟨⟨(digitI b).toNat, by omega⟩, by show digitI b = ((digitI b).toNat : Int); omega⟩
    rw [hx, hy, pair_val] at h
    have e1 : (s >>> 4).toNat = s.toNat / 16 := by rw [BitVec.toNat_ushiftRight, Nat.shiftRight_eq_div_pow]
    have e2 : (s &&& 15#8).toNat = s.toNat % 16 := by
      rw [BitVec.toNat_and]
      exact Nat.and_two_pow_sub_one_eq_mod s.toNat 4
    rw [hx, hy, e1, e2]
    omega
theorem digit_case (c : B8) (x : Fin 16) (h : digitI c = (x.val : Int)) : c ||| 32#8 = hexd x.val ||| 32#8 := by
  revert c x
  decide +kernel
theorem flip_bad (p : Nat → B8) (n i : Nat) (c : B8) (h1 : 1 ≤ i) (h2 : i < (bodyN p n).length + 4) (h3 : packQ p n i ≠ 35#8) (h4 : c ≠ packQ p n i) (h5 : (bodyN p n).length + 2 ≤ i → c ||| 32#8 ≠ packQ p n i ||| 32#8) :
    ¬ PackOk (flipQ (packQ p n) i c) (bodyN p n).length := by
  intro ok
  have ok0 := packet_ok p n
  have hs := packQ_sum p n
  have q1 : packQ p n ((bodyN p n).length + 2) = hexd (sumL (bodyN p n) >>> 4).toNat := packQ_end p n 1
  have q2 : packQ p n ((bodyN p n).length + 3) = hexd (sumL (bodyN p n) &&& 15#8).toNat := packQ_end p n 2
  have hi : i ≠ (bodyN p n).length + 1 := fun e => h3 (by rw [e]; exact ok0.hash)
  by_cases hb : i ≤ (bodyN p n).length
  · have e1 : (fun j => flipQ (packQ p n) i c (1 + j)) = flipQ (fun j => packQ p n (1 + j)) (i - 1) c := by
      funext j
      unfold flipQ
      by_cases hj : j = i - 1
      · rw [if_pos (by omega), if_pos hj]
      · rw [if_neg (by omega), if_neg hj]
    have s1 := ok.sum
    have s0 := ok0.sum
    rw [show flipQ (packQ p n) i c ((bodyN p n).length + 2) = packQ p n ((bodyN p n).length + 2) from if_neg (by omega), show flipQ (packQ p n) i c ((bodyN p n).length + 3) = packQ p n ((bodyN p n).length + 3) from if_neg (by omega), s0, e1, sumN_flip _ _ _ _ (by omega)] at s1
    have s2 := BitVec.eq_of_toNat_eq (Int.ofNat.inj s1)
    rw [show 1 + (i - 1) = i by omega] at s2
    apply h4
    generalize sumN (fun j => packQ p n (1 + j)) (bodyN p n).length = s at s2
    generalize packQ p n i = b at s2
    have s3 : b = b + (s - b + c) - s := by rw [← s2]; exact (BitVec.add_sub_cancel b s).symm
    revert s3
    intro s3
    have s4 := congrArg BitVec.toNat s2
    rw [BitVec.toNat_add, BitVec.toNat_sub] at s4
    apply BitVec.eq_of_toNat_eq
    have := s.isLt
    have := b.isLt
    have := c.isLt
    omega
  · have e1 : (fun j => flipQ (packQ p n) i c (1 + j)) = fun j => if j < (bodyN p n).length then packQ p n (1 + j) else flipQ (packQ p n) i c (1 + j) := by
      funext j
      split
      · exact if_neg (by omega)
      · rfl
    have s1 := ok.sum
    have hsum : sumN (fun j => flipQ (packQ p n) i c (1 + j)) (bodyN p n).length = sumL (bodyN p n) := by
      rw [← hs]
      exact sumN_congr fun j hj => if_neg (by omega)
    rw [hsum] at s1
    obtain ⟨d1, d2⟩ := pair_digits s1
    have x1 : (sumL (bodyN p n) >>> 4).toNat < 16 := by rw [BitVec.toNat_ushiftRight, Nat.shiftRight_eq_div_pow]; have := (sumL (bodyN p n)).isLt; omega
    have x2 : (sumL (bodyN p n) &&& 15#8).toNat < 16 := by rw [BitVec.toNat_and]; exact Nat.lt_of_le_of_lt Nat.and_le_right (by decide)
    rcases (show i = (bodyN p n).length + 2 ∨ i = (bodyN p n).length + 3 by omega) with e | e
    · subst e
      rw [show flipQ (packQ p n) ((bodyN p n).length + 2) c ((bodyN p n).length + 2) = c from if_pos rfl] at d1
      exact h5 (Nat.le_refl _) (by rw [q1]; exact digit_case c ⟨_, x1⟩ d1)
    · subst e
      rw [show flipQ (packQ p n) ((bodyN p n).length + 3) c ((bodyN p n).length + 3) = c from if_pos rfl] at d2
      exact h5 (by omega) (by rw [q2]; exact digit_case c ⟨_, x2⟩ d2)
end Go.Anv

/- GdbBack, GdbSum. -/
namespace Go.Proofs.YtghcdkpgcanpgaaDoor
open Go Go.Anv
set_option maxRecDepth 100000 in
theorem gdbBack_law (m : Bool) (n c sp : Nat) (p : Nat → B8) (hn : n ≤ 140737488355328) :
    Does TB 3 [.s (.gs 0 0 n c)] [bblk m n p sp] (fun v h' => v = .s (.bool true) ∧ h' = [bblk m n p sp]) := by
  refine fnX_does TB Tryd.func3 rfl (by decide) (fun O on hO => ?_)
  refine need_intro ⟨by show 0 + n ≤ n; omega, room5 _ hn⟩ ?_
  intro c1 hc1
  have hc1 : n ≤ c1 := hc1
  repeat (refine need_intro (by first | exact an2 | exact an3 | exact fun h => h | exact nt | exact an2 | exact an3 | rfl | (simp; done) | fail) ?_)
  have hp : ∀ j, j < n → shf 0 (bfun p) j = (((p j).toNat : Nat) : Int) := fun j _ => by show bfun p (0 + j) = _; rw [Nat.zero_add]; rfl
  by_cases h1000 : n ≤ 1000
  · have hz := packet_len p n
    have hge := body_ge p n
    have hL := bodyN_len p n
    have pk : ∀ sp1, Does TB 5 [.s (.gs 0 0 n c1)] [.cells true [.ints .u8 n (shf 0 (bfun p))] sp1] (fun v h' => ∃ cap, (bodyN p n).length + 4 ≤ cap ∧ v = .tuple [.s (.gs 1 0 ((bodyN p n).length + 4) cap), .s (.int .i64 0)] ∧
        h' = [.cells true [.ints .u8 n (shf 0 (bfun p))] sp1, bblk true ((bodyN p n).length + 4) (packQ p n) (cap - ((bodyN p n).length + 4))]) := fun sp1 => by
      have := pack_spec true n c1 sp1 (shf 0 (bfun p)) p h1000 hp
      simp only [hz] at this
      exact this
    refine Does.at (pk _) [1] rfl ⟨rfl, trivial⟩ (by decide) ?_ ?_
    · rintro v h' ⟨_, _, _, rfl⟩
      exact ⟨.inr (.inr rfl), .inl rfl, trivial⟩
    rintro v h' ⟨cap, hcap, rfl, rfl⟩
    rw [forceH_eq, forceE_eq]
    refine ifB_intro (fun h => absurd (of_decide_eq_true h) (by omega)) (fun _ => ?_)
    repeat (refine need_intro (by first | exact an2 | exact an3 | exact fun h => h | exact nt | exact an2 | exact an3 | rfl | (simp; done) | fail) ?_)
    refine Does.at (unpack_good true cap (cap - ((bodyN p n).length + 4)) n (packQ p n) p h1000 hcap (packet_ok p n) (packQ_body p n)) [2] rfl ⟨rfl, trivial⟩ (by decide) ?_ ?_
    · rintro v h' ⟨_, _, _, rfl⟩
      exact ⟨.inr (.inr rfl), .inl rfl, trivial⟩
    rintro v h' ⟨cap2, hcap2, rfl, rfl⟩
    rw [forceH_eq, forceE_eq]
    repeat (refine need_intro (by first | exact an2 | exact an3 | (exact fun _ => ⟨by omega, by omega⟩) | (exact fun _ => (by omega)) | exact fun h => h | exact nt | exact an2 | exact an3 | rfl | (simp; done) | fail) ?_)
    have ws : IntKind.i64.wrap ((n : Int) + 4) = ((n + 4 : Nat) : Int) := by rw [i64_in (by omega) (by omega)]; omega
    have key : (bif bif bif (0 : Int) == 0 then (0 : Int) == 0 else false then bytesOf n (shf 0 (bfun p)) == bytesOf n (shf 0 (bfun p)) else false then decide ((((bodyN p n).length + 4 : Nat) : Int) ≥ IntKind.i64.wrap ((n : Int) + 4)) else false) = true := by
      rw [beq_bytes, ws, decide_eq_true (show (((bodyN p n).length + 4 : Nat) : Int) ≥ ((n + 4 : Nat) : Int) by omega)]
      rfl
    exact ⟨_, _, [0], ⟨rfl, rfl⟩, by decide, ⟨rfl, trivial⟩, key, ⟨⟨_, rfl, eqvB_refl _⟩, trivial⟩⟩
  · have pl := fun sp1 => pack_long true n c1 sp1 (shf 0 (bfun p)) (by omega)
    refine Does.atc (pl _) [1] rfl ⟨rfl, trivial⟩ (by decide) ?_
    repeat (refine need_intro (by first | exact an2 | exact an3 | exact fun h => h | exact nt | exact an2 | exact an3 | rfl | (simp; done) | fail) ?_)
    refine ifB_intro (fun _ => ?_) (fun h => absurd (of_decide_eq_false h) (by omega))
    repeat (refine need_intro (by first | exact an2 | exact an3 | exact fun h => h | exact nt | exact an2 | exact an3 | rfl | (simp; done) | fail) ?_)
    exact ⟨_, _, [0], ⟨rfl, rfl⟩, by decide, ⟨rfl, trivial⟩, rfl, ⟨⟨_, rfl, eqvB_refl _⟩, trivial⟩⟩
theorem norl {a b : Bool} (h : (!bif a then true else b) = true) : (!a) = true := by cases a <;> simp_all
theorem nor2 {a b : Bool} (h : (bif a then true else b) = false) : a = false ∧ b = false := by cases a <;> simp_all
theorem b8_ne {x : B8} {v : Nat} (hv : v < 256) (h : (((x.toNat : Nat) : Int) == ((v : Nat) : Int)) = false) : x ≠ BitVec.ofNat 8 v := by
  rintro rfl
  rw [BitVec.toNat_ofNat, Nat.mod_eq_of_lt (by omega)] at h
  simp at h
set_option maxRecDepth 100000 in
theorem gdbSum_law (m : Bool) (n c sp : Nat) (p : Nat → B8) (K : Int) (C : B8) (hn : n ≤ 140737488355328) :
    Does TB 4 [.agg [.one (.gs 0 0 n c), .one (.int .i64 K), .one (.int .u8 C.toNat)]] [bblk m n p sp] (fun v h' => v = .s (.bool true) ∧ h' = [bblk m n p sp]) := by
  refine fnX_does TB Tryd.func4 rfl (by decide) (fun O on hO => ?_)
  refine need_intro ⟨by show 0 + n ≤ n; omega, room5 _ hn⟩ ?_
  intro c1 hc1
  have hc1 : n ≤ c1 := hc1
  repeat (refine need_intro (by first | exact an2 | exact an3 | exact fun h => h | exact nt | exact an2 | exact an3 | rfl | (simp; done) | fail) ?_)
  have hp : ∀ j, j < n → shf 0 (bfun p) j = (((p j).toNat : Nat) : Int) := fun j _ => by show bfun p (0 + j) = _; rw [Nat.zero_add]; rfl
  by_cases h1000 : n ≤ 1000
  · have hz := packet_len p n
    have hge := body_ge p n
    have hL := bodyN_len p n
    have pk : ∀ sp1, Does TB 5 [.s (.gs 0 0 n c1)] [.cells true [.ints .u8 n (shf 0 (bfun p))] sp1] (fun v h' => ∃ cap, (bodyN p n).length + 4 ≤ cap ∧ v = .tuple [.s (.gs 1 0 ((bodyN p n).length + 4) cap), .s (.int .i64 0)] ∧
        h' = [.cells true [.ints .u8 n (shf 0 (bfun p))] sp1, bblk true ((bodyN p n).length + 4) (packQ p n) (cap - ((bodyN p n).length + 4))]) := fun sp1 => by
      have := pack_spec true n c1 sp1 (shf 0 (bfun p)) p h1000 hp
      simp only [hz] at this
      exact this
    have gk := fun i C h1 h2 h3 h4 h5 => flip_bad p n i C h1 h2 h3 h4 h5
    generalize (bodyN p n).length = k at *
    refine Does.at (pk _) [2] rfl ⟨rfl, trivial⟩ (by decide) ?_ ?_
    · rintro v h' ⟨_, _, _, rfl⟩
      exact ⟨.inr (.inr rfl), .inl rfl, trivial⟩
    rintro v h' ⟨cap, hcap, rfl, rfl⟩
    rw [forceH_eq, forceE_eq]
    repeat (refine need_intro (by first | exact an2 | exact an3 | exact fun h => h | exact nt | exact an2 | exact an3 | rfl | (simp; done) | fail) ?_)
    refine ifB_intro (fun h => absurd (of_decide_eq_true h) (by omega)) (fun _ => ?_)
    repeat (refine need_intro (by first | exact an2 | exact an3 | exact fun h => h | exact nt | exact an2 | exact an3 | rfl | (simp; done) | fail) ?_)
    rw [forceE_eq]
    have nk : (!bif decide (K < 1) then true else decide (K ≥ ((k + 4 : Nat) : Int))) = true → 0 ≤ K ∧ K < ((k + 4 : Nat) : Int) := by
      intro g
      by_cases a : K < 1
      · simp [a] at g
      · simp [a] at g
        omega
    refine draw_held on rfl (fun _ _ h => h) ?_
    repeat (refine need_intro (by first | exact an2 | exact an3 | exact nk | (exact fun g => nk (norl (norl (norl g)))) | (exact fun g => by have := nk g; omega) | (exact fun g => by have := nk (norl (norl (norl g))); omega) | exact fun h => h | exact nt | exact an2 | exact an3 | rfl | (simp; done) | fail) ?_)
    refine ifB_intro (fun _ => ?_) (fun h5 => ?_)
    · repeat (refine need_intro (by first | exact an2 | exact an3 | exact fun h => h | exact nt | exact an2 | exact an3 | rfl | (simp; done) | fail) ?_)
      exact ⟨_, _, [0], ⟨rfl, rfl⟩, by decide, ⟨rfl, trivial⟩, rfl, ⟨⟨_, rfl, eqvB_refl _⟩, trivial⟩⟩
    obtain ⟨h5, e5⟩ := nor2 h5
    obtain ⟨h5, e4⟩ := nor2 h5
    obtain ⟨h5, e3⟩ := nor2 h5
    obtain ⟨h5, e2⟩ := nor2 h5
    obtain ⟨e0, e1⟩ := nor2 h5
    have k1 := of_decide_eq_false e0
    have k2 := of_decide_eq_false e1
    obtain ⟨i, rfl⟩ : ∃ i : Nat, K = (i : Int) := ⟨K.toNat, by omega⟩
    have w2 : IntKind.i64.wrap (((k + 4 : Nat) : Int) - 2) = ((k + 2 : Nat) : Int) := by rw [i64_in (by omega) (by omega)]; omega
    refine draw_held on rfl (fun _ _ h => h) ?_
    repeat (refine need_intro (by first | exact an2 | exact an3 | exact nk | (exact fun g => ⟨by omega, by omega⟩) | (exact fun g => (by omega)) | exact fun h => h | exact nt | exact an2 | exact an3 | rfl | (simp; done) | fail) ?_)
    refine ifB_intro (fun _ => ?_) (fun h6 => ?_)
    · repeat (refine need_intro (by first | exact an2 | exact an3 | exact fun h => h | exact nt | exact an2 | exact an3 | rfl | (simp; done) | fail) ?_)
      exact ⟨_, _, [0], ⟨rfl, rfl⟩, by decide, ⟨rfl, trivial⟩, rfl, ⟨⟨_, rfl, eqvB_refl _⟩, trivial⟩⟩
    repeat (refine need_intro (by first | exact an2 | exact an3 | (exact fun _ => ⟨by omega, by omega⟩) | (exact ⟨by omega, by omega⟩) | (omega) | exact fun h => h | exact nt | exact an2 | exact an3 | rfl | (simp; done) | fail) ?_)
    have q0 : bfun (packQ p n) (0 + (i : Int).toNat) = (((packQ p n i).toNat : Nat) : Int) := by rw [Nat.zero_add]; rfl
    have n1 : packQ p n i ≠ 35#8 := by
      rw [q0] at e2
      exact b8_ne (v := 35) (by decide) e2
    have n2 : C ≠ packQ p n i := by
      rintro rfl
      rw [q0] at e5
      simp at e5
    have n3 : k + 2 ≤ i → C ||| 32#8 ≠ packQ p n i ||| 32#8 := by
      intro hi e
      rw [w2, decide_eq_true (by omega), q0, or_u8, or_u8, BitVec.ofInt_natCast, BitVec.ofInt_natCast, BitVec.ofNat_toNat, BitVec.ofNat_toNat, BitVec.setWidth_eq, BitVec.setWidth_eq] at h6
      rw [show BitVec.ofInt 8 32 = 32#8 from rfl, e] at h6
      simp at h6
    have bad := gk i C (by omega) (by omega) n1 n2 n3
    have fe : (fun j => if j = 0 + (i : Int).toNat then ((C.toNat : Nat) : Int) else bfun (packQ p n) j) = bfun (flipQ (packQ p n) i C) := by
      funext j
      rw [Nat.zero_add]
      show (if j = i then _ else _) = (((if j = i then C else packQ p n j).toNat : Nat) : Int)
      split <;> rfl
    have ub : ∀ sp1, Does TB 6 [.s (.gs 0 0 (k + 4) cap)] [.cells true [.ints .u8 (k + 4) (fun j => if j = 0 + (i : Int).toNat then ((C.toNat : Nat) : Int) else bfun (packQ p n) j)] sp1] (fun v h' => (∃ e, e ≠ 0 ∧ v = .tuple [.s .nilslice, .s (.int .i64 e)]) ∧ h' = [.cells true [.ints .u8 (k + 4) (fun j => if j = 0 + (i : Int).toNat then ((C.toNat : Nat) : Int) else bfun (packQ p n) j)] sp1]) := by
      intro sp1
      rw [fe]
      exact unpack_bad true cap sp1 k (flipQ (packQ p n) i C) (by omega) hcap bad
    refine Does.at (ub _) [3] rfl ⟨rfl, trivial⟩ (by decide) ?_ ?_
    · rintro v h' ⟨⟨_, _, rfl⟩, rfl⟩
      exact ⟨.inl rfl, trivial⟩
    rintro v h' ⟨⟨e, he, rfl⟩, rfl⟩
    rw [forceH_eq, forceE_eq]
    repeat (refine need_intro (by first | exact an2 | exact an3 | exact fun h => h | exact nt | exact an2 | exact an3 | rfl | (simp; done) | fail) ?_)
    have key : (bif e != 0 then (0 : Int) == 0 else false) = true := by
      have : (e != 0) = true := bne_iff_ne.2 he
      rw [this]
      rfl
    exact ⟨_, _, [0], ⟨rfl, rfl⟩, by decide, ⟨rfl, trivial⟩, key, ⟨⟨_, rfl, eqvB_refl _⟩, trivial⟩⟩
  · have pl := fun sp1 => pack_long true n c1 sp1 (shf 0 (bfun p)) (by omega)
    refine Does.atc (pl _) [2] rfl ⟨rfl, trivial⟩ (by decide) ?_
    repeat (refine need_intro (by first | exact an2 | exact an3 | exact fun h => h | exact nt | exact an2 | exact an3 | rfl | (simp; done) | fail) ?_)
    refine ifB_intro (fun _ => ?_) (fun h => absurd (of_decide_eq_false h) (by omega))
    repeat (refine need_intro (by first | exact an2 | exact an3 | exact fun h => h | exact nt | exact an2 | exact an3 | rfl | (simp; done) | fail) ?_)
    exact ⟨_, _, [0], ⟨rfl, rfl⟩, by decide, ⟨rfl, trivial⟩, rfl, ⟨⟨_, rfl, eqvB_refl _⟩, trivial⟩⟩
end Go.Proofs.YtghcdkpgcanpgaaDoor

/- The engine, part 14: the arguments of a statement: from what they read as to a small world. Plain theorems; their condition: what the program's table says of the types. -/
namespace Go.Anv
open Go

/-- What a cell of an argument, or a run of cells, is. -/
inductive FK where
  | int (k : IntKind)
  | bool
  | arr (k : IntKind) (n : Nat)
  | sl (k : IntKind)
  | rows (ks : List IntKind) (b : Nat)

def sizeF : List FK → Nat
  | [] => 0
  | .int _ :: r => sizeF r + 1
  | .bool :: r => sizeF r + 1
  | .arr _ n :: r => n + sizeF r
  | .sl _ :: r => sizeF r + 1
  | .rows _ _ :: r => sizeF r + 1

theorem sizeF_append : ∀ a b : List FK, sizeF (a ++ b) = sizeF a + sizeF b
  | [], b => by simp [sizeF]
  | .int _ :: r, b => by simp only [List.cons_append, sizeF, sizeF_append r b]; omega
  | .bool :: r, b => by simp only [List.cons_append, sizeF, sizeF_append r b]; omega
  | .arr _ _ :: r, b => by simp only [List.cons_append, sizeF, sizeF_append r b]; omega
  | .sl _ :: r, b => by simp only [List.cons_append, sizeF, sizeF_append r b]; omega
  | .rows _ _ :: r, b => by simp only [List.cons_append, sizeF, sizeF_append r b]; omega

/-- A slice of whole numbers as it came in. -/
def slIn (W : World) (k : IntKind) (a : Option Addr) (len cap : Nat) (f : Nat → Int) : Prop :=
  len ≤ 140737488351232 ∧ ((a = none ∧ len = 0 ∧ cap = 0) ∨ ∃ b o, a = some ⟨b, o, none⟩ ∧ b < W.heap.size ∧ len ≤ cap ∧ ∀ j, j < len → W.cell? ⟨b, o + j, none⟩ = some (.int k (f j)) ∧ (Lit.int k (f j)).wf = true)

/-- A slice of structs of whole numbers as it came in. -/
def rowsIn (W : World) (ks : List IntKind) (b : Nat) (a : Option Addr) (len cap : Nat) (f : Nat → Nat → Int) : Prop :=
  len * b ≤ 140737488351232 ∧ ((a = none ∧ len = 0 ∧ cap = 0) ∨ ∃ b o, a = some ⟨b, o, none⟩ ∧ b < W.heap.size ∧ len ≤ cap ∧ ∀ j, j < len → ∀ q k, ks[q]? = some k → W.cell? ⟨b, o + (j * ks.length + q), none⟩ = some (.int k (f j q)) ∧ (Lit.int k (f j q)).wf = true)

def fitF (W : World) : List FK → List Value → Prop
  | [], l => l = []
  | .int k :: r, l => ∃ a l', l = .int k a :: l' ∧ (Lit.int k a).wf = true ∧ fitF W r l'
  | .bool :: r, l => ∃ b l', l = .bool b :: l' ∧ fitF W r l'
  | .arr k n :: r, l => ∃ f l', l = intsOf k n f ++ l' ∧ (∀ j, j < n → (Lit.int k (f j)).wf = true) ∧ fitF W r l'
  | .sl k :: r, l => ∃ a len cap f l', l = .slice a len cap :: l' ∧ slIn W k a len cap f ∧ fitF W r l'
  | .rows ks b :: r, l => ∃ a len cap f l', l = .slice a len cap :: l' ∧ rowsIn W ks b a len cap f ∧ fitF W r l'

theorem fitF_length {W : World} : ∀ {ks : List FK} {l : List Value}, fitF W ks l → l.length = sizeF ks
  | [], _, h => by simp only [fitF] at h; subst h; rfl
  | .int _ :: r, _, h => by simp only [fitF] at h; obtain ⟨a, l', rfl, _, h⟩ := h; simp [sizeF, fitF_length h]
  | .bool :: r, _, h => by simp only [fitF] at h; obtain ⟨a, l', rfl, h⟩ := h; simp [sizeF, fitF_length h]
  | .arr _ _ :: r, _, h => by simp only [fitF] at h; obtain ⟨a, l', rfl, _, h⟩ := h; simp [sizeF, fitF_length h, length_intsOf]
  | .sl _ :: r, _, h => by simp only [fitF] at h; obtain ⟨a, len, cap, f, l', rfl, _, h⟩ := h; simp [sizeF, fitF_length h]
  | .rows _ _ :: r, _, h => by simp only [fitF] at h; obtain ⟨a, len, cap, f, l', rfl, _, h⟩ := h; simp [sizeF, fitF_length h]

theorem fitF_append {W : World} : ∀ {a b : List FK} {x y : List Value}, fitF W a x → fitF W b y → fitF W (a ++ b) (x ++ y)
  | [], b, x, y, h, h' => by simp only [fitF] at h; subst h; exact h'
  | .int k :: r, b, x, y, h, h' => by simp only [fitF] at h; obtain ⟨a, l', rfl, h1, h⟩ := h; exact ⟨a, l' ++ y, rfl, h1, fitF_append h h'⟩
  | .bool :: r, b, x, y, h, h' => by simp only [fitF] at h; obtain ⟨a, l', rfl, h⟩ := h; exact ⟨a, l' ++ y, rfl, fitF_append h h'⟩
  | .arr k n :: r, b, x, y, h, h' => by simp only [fitF] at h; obtain ⟨a, l', rfl, h1, h⟩ := h; exact ⟨a, l' ++ y, by simp, h1, fitF_append h h'⟩
  | .sl k :: r, b, x, y, h, h' => by simp only [fitF] at h; obtain ⟨a, len, cap, f, l', rfl, h1, h⟩ := h; exact ⟨a, len, cap, f, l' ++ y, rfl, h1, fitF_append h h'⟩
  | .rows k _ :: r, b, x, y, h, h' => by simp only [fitF] at h; obtain ⟨a, len, cap, f, l', rfl, h1, h⟩ := h; exact ⟨a, len, cap, f, l' ++ y, rfl, h1, fitF_append h h'⟩

/-- The fields of a struct, one behind the other. -/
def FFn (P : Program) (R : TypeId → List FK → Prop) : Nat → List Field → List FK → Prop
  | _, [], ks => ks = []
  | o, f :: fs, ks => ∃ k1 k2, ks = k1 ++ k2 ∧ f.offset = o ∧ P.cellsOf f.type = sizeF k1 ∧ R f.type k1 ∧ FFn P R (o + sizeF k1) fs k2

/-- The fields of a struct of whole numbers. -/
def RFn (P : Program) : Nat → List Field → List IntKind → Prop
  | _, [], ks => ks = []
  | o, f :: fs, ks => ∃ k ks', ks = k :: ks' ∧ f.offset = o ∧ P.underlying f.type = some (.int k) ∧ P.cellsOf f.type = 1 ∧ RFn P (o + 1) fs ks'
theorem RFn.get {P : Program} : ∀ {fs : List Field} {o : Nat} {ks : List IntKind}, RFn P o fs ks → ∀ q k, ks[q]? = some k → ∃ f, fs[q]? = some f ∧ f.offset = o + q ∧ P.underlying f.type = some (.int k) ∧ P.cellsOf f.type = 1
  | [], o, ks, h, q, k, hk => by simp only [RFn] at h; subst h; simp at hk
  | f :: fs, o, ks, h, q, k, hk => by
    simp only [RFn] at h
    obtain ⟨k0, ks', rfl, h1, h2, h3, h4⟩ := h
    cases q with
    | zero =>
      simp only [List.getElem?_cons_zero, Option.some.injEq] at hk
      subst hk
      exact ⟨f, rfl, by rw [h1]; rfl, h2, h3⟩
    | succ q =>
      obtain ⟨f', k1, k2, k3, k4⟩ := RFn.get h4 q k (by simpa using hk)
      exact ⟨f', by simpa using k1, by rw [k2]; omega, k3, k4⟩
theorem addr_add {a : Addr} (h : a.spot = none) (x : Nat) : a.add x = ⟨a.block, a.off + x, none⟩ := by
  unfold Addr.add
  cases a
  simp only at h
  subst h
  split
  · rename_i h0; subst h0; rfl
  · rfl

/-- A type of whole numbers, truth values, arrays and slices of whole numbers. -/
def FTn (P : Program) : Nat → TypeId → List FK → Prop
  | 0, _, _ => False
  | n + 1, t, ks => (∃ k, P.underlying t = some (.int k) ∧ ks = [.int k]) ∨ (P.underlying t = some .bool ∧ ks = [.bool]) ∨
      (∃ m e k, P.underlying t = some (.array m e) ∧ P.underlying e = some (.int k) ∧ P.cellsOf e = 1 ∧ P.cellsOf t = m ∧ ks = [.arr k m]) ∨
      (∃ e k, P.underlying t = some (.slice e) ∧ P.underlying e = some (.int k) ∧ P.cellsOf e = 1 ∧ 1 ≤ P.bytesOf e ∧ ks = [.sl k]) ∨
      (∃ fs, P.underlying t = some (.struct fs) ∧ P.cellsOf t = sizeF ks ∧ FFn P (FTn P n) 0 fs.toList ks) ∨
      (∃ e fs ks' b, P.underlying t = some (.slice e) ∧ P.underlying e = some (.struct fs) ∧ P.cellsOf e = ks'.length ∧ P.bytesOf e = b ∧ RFn P 0 fs.toList ks' ∧ ks = [.rows ks' b])

/-- A slice's place is in the heap. -/
def placed (W : World) (v : Value) : Prop := ∀ a l c, v = .slice (some a) l c → a.spot = none ∧ a.block < W.heap.size

theorem placed_of_okWide {P : Program} {W : World} {r : Reach} {base : Nat} {u : TypeId} {v : Value} (h : Cell.okWide P W r base u v) : placed W v := by
  rintro a l c rfl
  have h' : Cell.ok P W r base u (.slice (some a) l c) := by
    unfold Cell.okWide at h
    split at h <;> first
      | exact h
      | (rename_i h1 h2; cases h2)
  unfold Cell.ok at h'
  obtain ⟨e, _, _, hhas⟩ : ∃ e, l ≤ c ∧ (c : Int) ≤ IntKind.i64.max ∧ W.has P r base a e c := by
    cases hu : P.underlying u with
    | none => rw [hu] at h'; exact h'.elim
    | some d =>
      rw [hu] at h'
      cases d <;> first
        | exact h'.elim
        | exact ⟨_, h'⟩
  obtain ⟨_, hs, row, cells, hsh, _⟩ := hhas
  refine ⟨hs, ?_⟩
  rcases Nat.lt_or_ge a.block W.heap.size with hlt | hge
  · exact hlt
  · simp [World.shape?, Array.getElem?_eq_none hge] at hsh

theorem FTn.opens {H : Type} {enc : TypeId × Value → H} {P : Program} {W : World} {base : Nat} {held : Bool} : ∀ (n : Nat) {t : TypeId} {ks : List FK}, FTn P n t ks → ∀ {fuel : Nat} {cs : List Value} {x : DataW H × List MemPlace},
    DataW.trod enc P W base (fun _ => true) held fuel t cs = some x → (∀ v ∈ cs, placed W v) → (∀ m ∈ x.1.weights P t, m ≤ reachBytes) → fitF W ks cs
  | 0, _, _, h, _, _, _, _, _, _ => h.elim
  | n + 1, t, ks, h, fuel, cs, x, hx, hp, hw => by
    rcases h with ⟨k, h, rfl⟩ | ⟨h, rfl⟩ | ⟨m, e, k, h, h1, h2, h3, rfl⟩ | ⟨e, k, h, h1, h2, h3, rfl⟩ | ⟨fs, h, h1, h2⟩ | ⟨e, fs, kl, bb, h, he, hc, rfl, hr, rfl⟩
    · obtain ⟨a, rfl, _, hwf⟩ := DataW.trod_int h hx
      exact ⟨a, [], rfl, hwf, rfl⟩
    · obtain ⟨a, rfl, _⟩ := DataW.trod_bool h hx
      exact ⟨a, [], rfl, rfl⟩
    · obtain ⟨xs, m', _, _, hl, hxl, hel⟩ := DataW.trod_array h hx
      have each : ∀ i, i < m → ∃ a, cs[i]? = some (.int k a) ∧ (Lit.int k a).wf = true := fun i hi => by
        have h4 := hel i hi
        rw [h2, Nat.mul_one] at h4
        have h5 : xs[i]? = some xs[i] := List.getElem?_eq_getElem (by omega)
        rw [h5] at h4
        obtain ⟨a, h6, _, hwf⟩ := DataW.trod_int h1 h4
        refine ⟨a, ?_, hwf⟩
        have h7 := congrArg (·[0]?) h6
        simpa using h7
      refine ⟨fun i => match cs[i]? with | some (.int _ a) => a | _ => 0, [], ?_, fun j hj => ?_, rfl⟩
      · rw [List.append_nil]
        apply List.ext_getElem?
        intro i
        rcases Nat.lt_or_ge i m with hi | hi
        · obtain ⟨a, h4, _⟩ := each i hi
          rw [intsOf_get hi, h4]
        · rw [List.getElem?_eq_none (by omega), List.getElem?_eq_none (by rw [length_intsOf]; exact hi)]
      · obtain ⟨a, h4, hwf⟩ := each j hj
        simp only [h4]
        exact hwf
    · rcases ChangeShapes.open_ints h h1 h2 hx with ⟨rfl, _⟩ | ⟨a, l, c, zs, rfl, _, hl, hm, hz, rfl, hcell, hwz⟩
      · exact ⟨none, 0, 0, fun _ => 0, [], rfl, ⟨by omega, .inl ⟨rfl, rfl, rfl⟩⟩, rfl⟩
      · have hz : zs.length = c := by simpa using hz
        obtain ⟨hs, hb⟩ := hp _ List.mem_cons_self a l c rfl
        have hwt := hw ((l + (c - l)) * P.bytesOf e) (by simp [DataW.weights, h, ChangeShapes.lits, hz, hl])
        have hr : reachBytes = 140737488351232 := by decide
        have hle : l + (c - l) ≤ (l + (c - l)) * P.bytesOf e := Nat.le_mul_of_pos_right _ h3
        refine ⟨some a, l, c, fun j => zs.getD j 0, [], rfl, ⟨by omega, .inr ⟨a.block, a.off, ?_, hb, hl, fun j hj => ⟨?_, ?_⟩⟩⟩, rfl⟩
        · cases a; simp only at hs; subst hs; rfl
        · have := hcell j (by omega)
          unfold Addr.add at this
          split at this
          · rename_i h0
            subst h0
            cases a
            simp only at hs
            subst hs
            exact this
          · exact this
        · refine hwz _ ?_
          show zs.getD j 0 ∈ zs
          rw [List.getD_eq_getElem?_getD, List.getElem?_eq_getElem (by omega)]
          exact List.getElem_mem _
    · obtain ⟨xs, m', _, rfl, hl, hxl, hel⟩ := DataW.trod_struct h hx
      have key : ∀ (fl : List Field) (j o : Nat) (ks : List FK), FFn P (FTn P n) o fl ks → (∀ i f, fl[i]? = some f → fs.toList[j + i]? = some f) → o + sizeF ks ≤ cs.length → fitF W ks ((cs.drop o).take (sizeF ks)) := by
        intro fl
        induction fl with
        | nil =>
          intro j o ks hf _ _
          simp only [FFn] at hf
          subst hf
          simp [fitF, sizeF]
        | cons f fl ih =>
          intro j o ks hf hget hlen
          simp only [FFn] at hf
          obtain ⟨k1, k2, rfl, ho, hc, ht, hf⟩ := hf
          have hsz := sizeF_append k1 k2
          rw [hsz] at hlen ⊢
          have hj : fs[j]? = some f := by
            have := hget 0 f rfl
            rwa [Nat.add_zero, Array.getElem?_toList] at this
          have hjl : j < xs.length := by
            rw [hxl]
            rcases Nat.lt_or_ge j fs.size with h' | h'
            · exact h'
            · rw [Array.getElem?_eq_none h'] at hj; cases hj
          have h4 := hel j f hj
          rw [ho, hc, List.getElem?_eq_getElem hjl] at h4
          have h5 := FTn.opens n ht h4 (fun v hv => hp v (List.mem_of_mem_drop (List.mem_of_mem_take hv))) (fun m hm => hw m (by
            simp only [DataW.weights, h]
            refine DataW.weights_mem_each (j := j) (t := f.type) (d := (xs[j]).1) ?_ ?_ m hm
            · simp [hj]
            · simp [hjl]))
          have h6 := ih (j + 1) (o + sizeF k1) k2 hf (fun i f' hi => by
            have := hget (i + 1) f' (by simpa using hi)
            rwa [show j + (i + 1) = j + 1 + i by omega] at this) (by omega)
          have h7 := fitF_append h5 h6
          have h8 : (cs.drop o).take (sizeF k1) ++ (cs.drop (o + sizeF k1)).take (sizeF k2) = (cs.drop o).take (sizeF k1 + sizeF k2) := by
            rw [List.take_add, List.drop_drop]
          rwa [h8] at h7
      have h4 := key fs.toList 0 0 ks h2 (fun i f hi => by simpa using hi) (by rw [hl, h1]; omega)
      rw [List.drop_zero, List.take_of_length_le (by rw [hl, h1]; omega)] at h4
      exact h4
    · rcases DataW.trod_slice h hx with ⟨rfl, _⟩ | ⟨a, l, c, elems, rest, n', _, rfl, rfl, _, hl, _, hlen, hel, _⟩
      · exact ⟨none, 0, 0, fun _ _ => 0, [], rfl, ⟨by omega, .inl ⟨rfl, rfl, rfl⟩⟩, rfl⟩
      · obtain ⟨hs, hb⟩ := hp _ List.mem_cons_self a l c rfl
        have hwt := hw ((elems.length + rest.length) * P.bytesOf e) (by simp [DataW.weights, h])
        have hrb : reachBytes = 140737488351232 := by decide
        have hle : l * P.bytesOf e ≤ (elems.length + rest.length) * P.bytesOf e := Nat.mul_le_mul_right _ (by omega)
        have each : ∀ j, j < l → ∀ q k, kl[q]? = some k → ∃ x, W.cell? ⟨a.block, a.off + (j * kl.length + q), none⟩ = some (.int k x) ∧ (Lit.int k x).wf = true := fun j hj q k hk => by
          have h4 := hel j hj
          rw [List.getElem?_eq_getElem (by omega), Option.bind_eq_some_iff] at h4
          obtain ⟨cs', h5, h6⟩ := h4
          obtain ⟨xs, m', _, _, h7, h8, h9⟩ := DataW.trod_struct he h6
          obtain ⟨f, k1, k2, k3, k4⟩ := RFn.get hr q k hk
          have k1' : fs[q]? = some f := by rwa [Array.getElem?_toList] at k1
          have hq : q < xs.length := by
            rw [h8]
            rcases Nat.lt_or_ge q fs.size with h' | h'
            · exact h'
            · rw [Array.getElem?_eq_none h'] at k1'; cases k1'
          have h10 := h9 q f k1'
          rw [k2, k4, Nat.zero_add, List.getElem?_eq_getElem hq] at h10
          obtain ⟨x, h11, _, hwf⟩ := DataW.trod_int k3 h10
          have h12 : cs'[q]? = some (.int k x) := by
            have := congrArg (·[0]?) h11
            simpa using this
          have hqz : q < P.cellsOf e := by
            rw [hc]
            rcases Nat.lt_or_ge q kl.length with h' | h'
            · exact h'
            · rw [List.getElem?_eq_none h'] at hk; cases hk
          unfold World.cells? at h5
          split at h5
          · have h13 := mapM_some_get h5 q q (by simp [hqz])
            rw [h12, addr_add hs, addr_add rfl, hc] at h13
            refine ⟨x, ?_, hwf⟩
            rw [← Nat.add_assoc]
            exact h13
          · cases h5
        have ch : ∀ j q, ∃ x, j < l → ∀ k, kl[q]? = some k → W.cell? ⟨a.block, a.off + (j * kl.length + q), none⟩ = some (.int k x) ∧ (Lit.int k x).wf = true := fun j q => by
          by_cases hj : j < l
          · cases hk : kl[q]? with
            | none => exact ⟨0, fun _ k hk' => by cases hk'⟩
            | some k =>
              obtain ⟨x, h1⟩ := each j hj q k hk
              exact ⟨x, fun _ k' hk' => by cases hk'; exact h1⟩
          · exact ⟨0, fun h => absurd h hj⟩
        refine ⟨some a, l, c, fun j q => Classical.choose (ch j q), [], rfl, ⟨by omega, .inr ⟨a.block, a.off, ?_, hb, hl, fun j hj q k hk => Classical.choose_spec (ch j q) hj k hk⟩⟩, rfl⟩
        cases a; simp only at hs; subst hs; rfl

theorem struct_placed {P : Program} {W : World} {r : Reach} {base : Nat} {t : TypeId} {fs : Array Field} {v : Value} (ht : P.underlying t = some (.struct fs)) (h : Value.okWide P W r base t v) : ∃ cs, v = .agg cs ∧ ∀ x ∈ cs.toList, placed W x := by
  unfold Value.okWide at h
  rw [ht] at h
  obtain ⟨cs, rfl, _, ts, _, _, hrow⟩ := h
  refine ⟨cs, rfl, fun x hx => ?_⟩
  obtain ⟨i, hi⟩ := List.getElem?_of_mem hx
  obtain ⟨u, _, hu⟩ := hrow i x (by simpa using hi)
  exact placed_of_okWide hu

end Go.Anv
