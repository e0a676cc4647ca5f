/- The engine, part 8: loops, by the slots that they carry. Plain theorems, no condition. -/
import Derived.Test.YtghcdkpgcanpgaaE7
namespace Go.Anv
open Go

/-- The slots that a piece of code writes. -/
def writesO : List Oper → List Nat
  | [] => []
  | o :: r => match o.dst with
    | some d => d :: writesO r
    | none => writesO r

def writes : Code → List Nat
  | .region _ ops _ => writesO ops.toList
  | .seq a b => writes a ++ writes b
  | .cond _ a b => writes a ++ writes b
  | .block _ a => writes a
  | .loop a => writes a
  | .scope a => writes a
  | _ => []

def forgetK (l : List Nat) : List EV → (List EV → Prop) → Prop :=
  List.rec (motive := fun _ => List EV → (List EV → Prop) → Prop) (fun ts k => k ts) (fun d _ ih ts k => updK ts d .junk fun ts => ih ts k) l

def laterK (l : List (Nat × EV)) : List EV → (List EV → Prop) → Prop :=
  List.rec (motive := fun _ => List EV → (List EV → Prop) → Prop) (fun ts k => k ts) (fun x _ ih ts k => match x with
    | (d, v) => forceE v fun v => updK ts d v fun ts => ih ts k) l

def forgetT : List Nat → List EV → List EV
  | [], ts => ts
  | d :: r, ts => forgetT r (upd ts d .junk)

def laterT : List (Nat × EV) → List EV → List EV
  | [], ts => ts
  | (d, v) :: r, ts => laterT r (upd ts d v)

theorem forgetK_eq : ∀ (M : List Nat) (ts : List EV) (k : List EV → Prop), forgetK M ts k = k (forgetT M ts)
  | [], _, _ => rfl
  | d :: r, ts, k => by
    show (updK ts d .junk fun ts => forgetK r ts k) = _
    rw [updK_eq, forgetK_eq r]
    rfl

theorem laterK_eq : ∀ (C : List (Nat × EV)) (ts : List EV) (k : List EV → Prop), laterK C ts k = k (laterT C ts)
  | [], _, _ => rfl
  | (d, v) :: r, ts, k => by
    show (forceE v fun v => updK ts d v fun ts => laterK r ts k) = _
    rw [forceE_eq, updK_eq, laterK_eq r]
    rfl

/-- The state at a round's head: the slots C, the heap H; what the round writes besides is not known. -/
def headK (c : Code) (s : St) (C : List (Nat × EV)) (H : List Blk) (k : St → Prop) : Prop :=
  forgetK (writes c) s.tmps fun ts => laterK C ts fun ts => k ⟨ts, H⟩

theorem headK_eq (c : Code) (s : St) (C : List (Nat × EV)) (H : List Blk) (k : St → Prop) : headK c s C H k = k ⟨laterT C (forgetT (writes c) s.tmps), H⟩ := by
  simp only [headK, forgetK_eq, laterK_eq]

def leS (s t : St) : Prop := eqvT s.tmps t.tmps ∧ eqvH s.heap t.heap

theorem leS.le {s t : St} (h : leS s t) : s.le t := ⟨h.1, h.2⟩

def roundK {A : Type} (c : Code) (s : St) (C : A → List (Nat × EV)) (H : A → List Blk) (I : A → Prop) (μ : A → Nat) (x : A) (K : Exit → St → Prop) : Exit → St → Prop
  | .normal, s' => ∃ y, I y ∧ μ y < μ x ∧ headK c s (C y) (H y) fun t => leS s' t
  | e, s' => K e s'

/-- **A loop, by what its slots and the heap hold at each round's head.** -/
theorem loop_by {T : Tbl} {O : Org} {A : Type} {c : Code} {s : St} {K : Exit → St → Prop} (on : O.E.n = O.h.length) (C : A → List (Nat × EV)) (H : A → List Blk) (I : A → Prop) (μ : A → Nat) (x0 : A) (h0 : I x0)
    (hs : headK c s (C x0) (H x0) fun t => leS s t)
    (round : ∀ x, I x → headK c s (C x) (H x) fun t => wpx T O c t (roundK c s C H I μ x K)) : LoopG T O c s K := by
  refine loop_rule on (fun x => ⟨laterT (C x) (forgetT (writes c) s.tmps), H x⟩) I μ x0 h0 ?_ (fun x hx => ?_)
  · rw [headK_eq] at hs
    exact hs.le
  · have h := round x hx
    rw [headK_eq] at h
    have hk : roundK c s C H I μ x K = (fun e s' => match e with
      | .normal => ∃ y, I y ∧ s'.le (⟨laterT (C y) (forgetT (writes c) s.tmps), H y⟩ : St) ∧ μ y < μ x
      | e => K e s') := by
      funext e s'
      cases e <;> simp only [roundK]
      apply propext
      constructor
      · rintro ⟨y, h1, h2, h3⟩
        rw [headK_eq] at h3
        exact ⟨y, h1, h3.le, h2⟩
      · rintro ⟨y, h1, h2, h3⟩
        exact ⟨y, h1, h3, by rw [headK_eq]; exact ⟨h2.1, h2.2⟩⟩
    rw [hk] at h
    exact h

theorem eqvT_nil : eqvT [] [] := trivial
theorem eqvT_junk {x : EV} {r r' : List EV} (h : eqvT r r') : eqvT (x :: r) (.junk :: r') := by
  unfold eqvT
  exact ⟨by unfold eqvE; cases x <;> trivial, h⟩
theorem eqvT_same {x : EV} {r r' : List EV} (h : eqvT r r') : eqvT (x :: r) (x :: r') := ⟨eqvE_refl x, h⟩
theorem eqvT_int {k : IntKind} {a b : Int} {r r' : List EV} (h1 : a = b) (h : eqvT r r') : eqvT (.s (.int k a) :: r) (.s (.int k b) :: r') := ⟨⟨rfl, h1⟩, h⟩
theorem eqvT_bool {a b : Bool} {r r' : List EV} (h1 : a = b) (h : eqvT r r') : eqvT (.s (.bool a) :: r) (.s (.bool b) :: r') := ⟨h1, h⟩
theorem eqvT_agg {a b : List Seg} {r r' : List EV} (h1 : eqvS a b) (h : eqvT r r') : eqvT (.agg a :: r) (.agg b :: r') := ⟨h1, h⟩
theorem eqvT_str {a b : ByteArray} {r r' : List EV} (h1 : a = b) (h : eqvT r r') : eqvT (.s (.str a) :: r) (.s (.str b) :: r') := ⟨h1, h⟩
theorem eqvT_gs {b o n c b' o' n' c' : Nat} {r r' : List EV} (h1 : b = b' ∧ o = o' ∧ n = n' ∧ c = c') (h : eqvT r r') : eqvT (.s (.gs b o n c) :: r) (.s (.gs b' o' n' c') :: r') := ⟨h1, h⟩
theorem eqvT_sgs {b o n c b' o' n' c' : Nat} {r r' : List EV} (h1 : b = b' ∧ o = o' ∧ n = n' ∧ c = c') (h : eqvT r r') : eqvT (.s (.slice b o n c) :: r) (.s (.gs b' o' n' c') :: r') := ⟨h1, h⟩
theorem eqvH_nil : eqvH [] [] := trivial
theorem eqvH_same {x : Blk} {r r' : List Blk} (h : eqvH r r') : eqvH (x :: r) (x :: r') := ⟨eqvB_refl x, h⟩
theorem eqvH_cells {m : Bool} {sp : Nat} {a b : List Seg} {r r' : List Blk} (h1 : eqvS a b) (h : eqvH r r') : eqvH (.cells m a sp :: r) (.cells m b sp :: r') := ⟨⟨rfl, rfl, h1⟩, h⟩
theorem eqvS_nil : eqvS [] [] := trivial
theorem eqvS_same {x : Seg} {r r' : List Seg} (h : eqvS r r') : eqvS (x :: r) (x :: r') := by
  cases x with
  | one v => exact ⟨eqvV_refl v, h⟩
  | ints k n f => exact ⟨⟨rfl, rfl, fun _ _ => rfl⟩, h⟩
theorem eqvS_int {k : IntKind} {a b : Int} {r r' : List Seg} (h1 : a = b) (h : eqvS r r') : eqvS (.one (.int k a) :: r) (.one (.int k b) :: r') := ⟨⟨rfl, h1⟩, h⟩
theorem eqvS_bool {a b : Bool} {r r' : List Seg} (h1 : a = b) (h : eqvS r r') : eqvS (.one (.bool a) :: r) (.one (.bool b) :: r') := ⟨h1, h⟩
theorem eqvS_ints {k : IntKind} {n : Nat} {f g : Nat → Int} {r r' : List Seg} (h1 : ∀ j, j < n → f j = g j) (h : eqvS r r') : eqvS (.ints k n f :: r) (.ints k n g :: r') := ⟨⟨rfl, rfl, h1⟩, h⟩

end Go.Anv
