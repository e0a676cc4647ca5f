/- Part 1 of the texts of this claim, merged: E1, E2, E2b, E3, E4, E5, E5b, E5c, E6, E6b. No condition: plain theorems, contracts of functions. -/
import Derived.Tactics
import Derived.Below
import Derived.Laws.World
import Derived.Laws.Sem
import Derived.Laws.Entries
import Derived.Laws.IdiomCopy
import Derived.Laws.StructEq
import Derived.OrdersHeld
import Derived.Laws.LoneSync
import Derived.Deep.AppendSrc
import Derived.Laws.BytesString
import Derived.Laws.IdiomStrings
import Derived.Lib.AppendZeros
import Derived.Lib.AppendZerosOnto
import Derived.Laws.Tables
import Derived.Laws.MakeOwn

/- The engine, part 1: small worlds. Values, segments, blocks, what they stand for, and how they lie in a world. No condition: definitions and plain lemmas. -/
namespace Go.Anv
open Go

/-- A value of one cell. -/
inductive SV where
  | junk
  | int (k : IntKind) (n : Int)
  | bool (b : Bool)
  | str (s : ByteArray)
  | ptr (b o : Nat)
  | pix (b o i : Nat)
  | nilptr
  | slice (b o len cap : Nat)
  | nilslice
  | gs (b o len cap : Nat)
  | map (b : Nat)
  | nilmap
  | func (fn : Fn) (first caps : List SV)
  | nilfunc
  | iface (t : TypeId) (agg : Bool) (cs : List SV)
  | niliface

/-- A run of cells: one, or n whole numbers of one kind. -/
inductive Seg where
  | one (v : SV)
  | ints (k : IntKind) (n : Nat) (f : Nat → Int)

/-- What a slot holds. -/
inductive EV where
  | s (v : SV)
  | agg (cs : List Seg)
  | tuple (vs : List EV)
  | gd (g : Bool) (v : EV)
  | junk

/-- A block: cells (may they be written?), spare room behind them; a map; or one that is no longer looked at. -/
inductive Blk where
  | cells (m : Bool) (cs : List Seg) (sp : Nat)
  | map (es : List (SV × List Seg))
  | dead

/-- A place in a world (nl: none: that of a slice that is nil). -/
structure Loc where
  b : Nat
  o : Nat
  nl : Bool

/-- Where the small blocks lie. -/
structure Emb where
  n : Nat
  f : Nat → Loc

def Emb.at (E : Emb) (b o : Nat) : Addr := ⟨(E.f b).1, (E.f b).2 + o, none⟩

mutual
def denV (E : Emb) : SV → Value → Prop
  | .junk, v => v.oneCell' = true
  | .int k n, v => v = .int k n
  | .bool b, v => v = .bool b
  | .str s, v => v = .string s
  | .ptr b o, v => b < E.n ∧ v = .pointer (some (E.at b o))
  | .pix b o i, v => b < E.n ∧ v = .pointer (some (E.at b (o + i)))
  | .nilptr, v => v = .pointer none
  | .slice b o len cap, v => (b < E.n ∧ (E.f b).nl = false) ∧ v = .slice (some (E.at b o)) len cap
  | .nilslice, v => v = .slice none 0 0
  | .gs b o len cap, v => b < E.n ∧ ((E.f b).nl = true → len = 0 ∧ cap = 0) ∧ v = .slice (if (E.f b).nl then none else some (E.at b o)) len cap
  | .map b, v => b < E.n ∧ v = .map (some (E.f b).1)
  | .nilmap, v => v = .map none
  | .func fn f c, v => ∃ f' c', v = .func fn f' c' ∧ denL E f f'.toList ∧ denL E c c'.toList
  | .nilfunc, v => v = .nilFunc
  | .iface t true cs, v => ∃ l, v = .iface t (.agg l) ∧ denL E cs l.toList
  | .iface t false cs, v => ∃ x, v = .iface t x ∧ denL E cs [x]
  | .niliface, v => v = .nilIface
def denL (E : Emb) : List SV → List Value → Prop
  | [], l => l = []
  | e :: r, l => ∃ v l', l = v :: l' ∧ denV E e v ∧ denL E r l'
end

def intsOf (k : IntKind) (n : Nat) (f : Nat → Int) : List Value := (List.range n).map fun j => .int k (f j)

def denS (E : Emb) : List Seg → List Value → Prop
  | [], l => l = []
  | .one e :: r, l => ∃ v l', l = v :: l' ∧ denV E e v ∧ denS E r l'
  | .ints k n f :: r, l => ∃ l', l = intsOf k n f ++ l' ∧ denS E r l'

mutual
def denE (E : Emb) : EV → Value → Prop
  | .s v, x => denV E v x
  | .agg cs, x => ∃ l, x = .agg l ∧ denS E cs l.toList
  | .tuple vs, x => ∃ l, x = .tuple l ∧ denT E vs l.toList
  | .gd g v, x => (g = true → denE E v x) ∧ (g = false → x = undef)
  | .junk, _ => True
def denT (E : Emb) : List EV → List Value → Prop
  | [], l => l = []
  | e :: r, l => ∃ v l', l = v :: l' ∧ denE E e v ∧ denT E r l'
end

def sizeS : List Seg → Nat
  | [] => 0
  | .one _ :: r => sizeS r + 1
  | .ints _ n _ :: r => n + sizeS r

/-- Of a map's entries. -/
def denM (E : Emb) : List (SV × List Seg) → List MapEntry → Prop
  | [], l => l = []
  | (k, cs) :: r, l => ∃ e l', l = e :: l' ∧ denV E k e.key ∧ denS E cs e.val.cells.toList ∧ denM E r l'

/-- An object of cells of which none may not be written. -/
def rowOk (w : World) (b : Nat) : Prop := ∃ (c : Array Value) (e : TypeId) (lo hi : Nat), w.heap[b]? = some (.cells c e (lo, hi)) ∧ (lo = hi ∨ c.size ≤ lo)

theorem rowOk.frozen {w : World} {b o : Nat} {v : Value} (h : rowOk w b) (hc : w.cell? ⟨b, o, none⟩ = some v) : w.frozen? ⟨b, o, none⟩ = false := by
  obtain ⟨c, e, lo, hi, h1, h2⟩ := h
  simp only [World.cell?, h1] at hc
  have hlt : o < c.size := by
    rcases Nat.lt_or_ge o c.size with h' | h'
    · exact h'
    · simp [Array.getElem?_eq_none h'] at hc
  simp only [World.frozen?, h1, Bool.and_eq_false_iff, decide_eq_false_iff_not]
  omega

theorem rowOk.of_block {w w' : World} {b : Nat} (h : rowOk w b) (hb : w'.heap[b]? = w.heap[b]?) : rowOk w' b := by
  obtain ⟨c, e, lo, hi, h1, h2⟩ := h
  exact ⟨c, e, lo, hi, by rw [hb]; exact h1, h2⟩

/-- A block as it lies in a world. -/
def okBlk (E : Emb) (w : World) (p : Loc) : Blk → Prop
  | .cells m cs sp => (p.1 < w.heap.size ∨ p.nl = true ∧ sizeS cs + sp = 0) ∧ (∃ l, denS E cs l ∧ ∀ j v, l[j]? = some v → w.cell? ⟨p.1, p.2 + j, none⟩ = some v) ∧
      (m = true → ∀ j, j < sizeS cs + sp → (∃ v, w.cell? ⟨p.1, p.2 + j, none⟩ = some v) ∧ rowOk w p.1)
  | .map es => ∃ l clock, w.heap[p.1]? = some (.map l clock) ∧ denM E es l.toList
  | .dead => True

/-- Which cells a block takes. -/
def cov (p : Loc) : Blk → Nat → Nat → Prop
  | .cells _ cs sp, b, o => b = p.1 ∧ p.2 ≤ o ∧ o < p.2 + (sizeS cs + sp)
  | .map _, b, _ => b = p.1
  | .dead, _, _ => False

def Blk.mut : Blk → Bool
  | .cells m _ _ => m
  | .map _ => true
  | .dead => false

structure Sim (E : Emb) (h : List Blk) (w : World) : Prop where
  n : E.n = h.length
  ok : ∀ i B, h[i]? = some B → okBlk E w (E.f i) B
  dis : ∀ i j A B, i ≠ j → h[i]? = some A → h[j]? = some B → A.mut = true → ∀ b o, cov (E.f i) A b o → ¬ cov (E.f j) B b o

/-- Cells that a state may write. -/
def mutAt (E : Emb) (h : List Blk) (b o : Nat) : Prop := ∃ i B, h[i]? = some B ∧ B.mut = true ∧ cov (E.f i) B b o

/-- From one state to a later one. -/
structure Since (E : Emb) (h : List Blk) (w : World) (E' : Emb) (h' : List Blk) (w' : World) : Prop where
  len : h.length ≤ h'.length
  same : ∀ i, i < E.n → E'.f i = E.f i
  size : w.heap.size ≤ w'.heap.size
  frame : ∀ b, b < w.heap.size → (∀ o, ¬ mutAt E h b o) → w'.heap[b]? = w.heap[b]?
  cells : ∀ b o, b < w.heap.size → ¬ mutAt E h b o → w'.cell? ⟨b, o, none⟩ = w.cell? ⟨b, o, none⟩ ∧ ((w.cell? ⟨b, o, none⟩).isSome = true → w'.frozen? ⟨b, o, none⟩ = w.frozen? ⟨b, o, none⟩)
  new : ∀ b o, mutAt E' h' b o → b < w.heap.size → mutAt E h b o
  os : w'.os = w.os
  tape : w'.tape = w.tape
  output : w'.output = w.output
  rows : ∀ b, b < w.heap.size → rowOk w b → rowOk w' b

/-! ### plain lemmas -/

def Emb.le (E E' : Emb) : Prop := E.n ≤ E'.n ∧ ∀ i, i < E.n → E'.f i = E.f i

theorem Emb.le_refl (E : Emb) : E.le E := ⟨Nat.le_refl _, fun _ _ => rfl⟩
theorem Emb.le_trans {A B C : Emb} (h : A.le B) (k : B.le C) : A.le C :=
  ⟨Nat.le_trans h.1 k.1, fun i hi => (k.2 i (Nat.lt_of_lt_of_le hi h.1)).trans (h.2 i hi)⟩

theorem Emb.le_at {E E' : Emb} (h : E.le E') {b : Nat} (hb : b < E.n) (o : Nat) : E'.at b o = E.at b o := by
  simp [Emb.at, h.2 b hb]

mutual
theorem denV_mono {E E' : Emb} (h : E.le E') : ∀ (e : SV) (v : Value), denV E e v → denV E' e v
  | .junk, _, hv => hv
  | .int .., _, hv => hv
  | .bool .., _, hv => hv
  | .str .., _, hv => hv
  | .ptr b o, v, hv => by
    simp only [denV] at hv ⊢
    exact ⟨Nat.lt_of_lt_of_le hv.1 h.1, by rw [Emb.le_at h hv.1]; exact hv.2⟩
  | .pix b o i, v, hv => by
    simp only [denV] at hv ⊢
    exact ⟨Nat.lt_of_lt_of_le hv.1 h.1, by rw [Emb.le_at h hv.1]; exact hv.2⟩
  | .nilptr, _, hv => hv
  | .slice b o len cap, v, hv => by
    simp only [denV] at hv ⊢
    exact ⟨⟨Nat.lt_of_lt_of_le hv.1.1 h.1, by rw [h.2 b hv.1.1]; exact hv.1.2⟩, by rw [Emb.le_at h hv.1.1]; exact hv.2⟩
  | .nilslice, _, hv => hv
  | .gs b o len cap, v, hv => by
    simp only [denV] at hv ⊢
    exact ⟨Nat.lt_of_lt_of_le hv.1 h.1, by rw [h.2 b hv.1]; exact hv.2.1, by rw [Emb.le_at h hv.1, h.2 b hv.1]; exact hv.2.2⟩
  | .map b, v, hv => by
    simp only [denV] at hv ⊢
    exact ⟨Nat.lt_of_lt_of_le hv.1 h.1, by rw [h.2 b hv.1]; exact hv.2⟩
  | .nilmap, _, hv => hv
  | .func fn f c, v, hv => by
    simp only [denV] at hv ⊢
    obtain ⟨f', c', rfl, h1, h2⟩ := hv
    exact ⟨f', c', rfl, denL_mono h f _ h1, denL_mono h c _ h2⟩
  | .nilfunc, _, hv => hv
  | .iface t true cs, v, hv => by
    simp only [denV] at hv ⊢
    obtain ⟨l, rfl, h1⟩ := hv
    exact ⟨l, rfl, denL_mono h cs _ h1⟩
  | .iface t false cs, v, hv => by
    simp only [denV] at hv ⊢
    obtain ⟨x, rfl, h1⟩ := hv
    exact ⟨x, rfl, denL_mono h cs _ h1⟩
  | .niliface, _, hv => hv
theorem denL_mono {E E' : Emb} (h : E.le E') : ∀ (l : List SV) (vs : List Value), denL E l vs → denL E' l vs
  | [], _, hv => hv
  | e :: r, vs, hv => by
    simp only [denL] at hv ⊢
    obtain ⟨v, l', rfl, h1, h2⟩ := hv
    exact ⟨v, l', rfl, denV_mono h e v h1, denL_mono h r l' h2⟩
end

theorem denS_mono {E E' : Emb} (h : E.le E') : ∀ (cs : List Seg) (l : List Value), denS E cs l → denS E' cs l
  | [], _, hv => hv
  | .one e :: r, l, hv => by
    simp only [denS] at hv ⊢
    obtain ⟨v, l', rfl, h1, h3⟩ := hv
    exact ⟨v, l', rfl, denV_mono h e v h1, denS_mono h r l' h3⟩
  | .ints k n f :: r, l, hv => by
    simp only [denS] at hv ⊢
    obtain ⟨l', rfl, h3⟩ := hv
    exact ⟨l', rfl, denS_mono h r l' h3⟩

mutual
theorem denE_mono {E E' : Emb} (h : E.le E') : ∀ (e : EV) (v : Value), denE E e v → denE E' e v
  | .s x, v, hv => by simp only [denE] at hv ⊢; exact denV_mono h x v hv
  | .agg cs, v, hv => by
    simp only [denE] at hv ⊢
    obtain ⟨l, rfl, h1⟩ := hv
    exact ⟨l, rfl, denS_mono h cs _ h1⟩
  | .tuple vs, v, hv => by
    simp only [denE] at hv ⊢
    obtain ⟨l, rfl, h1⟩ := hv
    exact ⟨l, rfl, denT_mono h vs _ h1⟩
  | .gd g x, v, hv => by simp only [denE] at hv ⊢; exact ⟨fun hg => denE_mono h x v (hv.1 hg), hv.2⟩
  | .junk, _, _ => by simp only [denE]
theorem denT_mono {E E' : Emb} (h : E.le E') : ∀ (l : List EV) (vs : List Value), denT E l vs → denT E' l vs
  | [], _, hv => hv
  | e :: r, vs, hv => by
    simp only [denT] at hv ⊢
    obtain ⟨v, l', rfl, h1, h2⟩ := hv
    exact ⟨v, l', rfl, denE_mono h e v h1, denT_mono h r l' h2⟩
end

theorem denM_mono {E E' : Emb} (h : E.le E') : ∀ (es : List (SV × List Seg)) (l : List MapEntry), denM E es l → denM E' es l
  | [], _, hv => hv
  | (k, cs) :: r, l, hv => by
    simp only [denM] at hv ⊢
    obtain ⟨e, l', rfl, h1, h2, h3⟩ := hv
    exact ⟨e, l', rfl, denV_mono h k _ h1, denS_mono h cs _ h2, denM_mono h r l' h3⟩

theorem length_intsOf (k : IntKind) (n : Nat) (f : Nat → Int) : (intsOf k n f).length = n := by simp [intsOf]

theorem denS_length {E : Emb} : ∀ {cs : List Seg} {l : List Value}, denS E cs l → l.length = sizeS cs
  | [], _, hv => by simp only [denS] at hv; subst hv; rfl
  | .one e :: r, l, hv => by
    simp only [denS] at hv
    obtain ⟨v, l', rfl, _, h3⟩ := hv
    simp [sizeS, denS_length h3]
  | .ints k n f :: r, l, hv => by
    simp only [denS] at hv
    obtain ⟨l', rfl, h3⟩ := hv
    simp [sizeS, length_intsOf, denS_length h3]

theorem denV_oneCell {E : Emb} : ∀ {e : SV} {v : Value}, denV E e v → v.oneCell' = true := by
  intro e v h
  cases e with
  | iface t a cs =>
    cases a <;> (simp only [denV] at h; obtain ⟨_, rfl, _⟩ := h; rfl)
  | func fn f c => simp only [denV] at h; obtain ⟨_, _, rfl, _⟩ := h; rfl
  | junk => simpa only [denV] using h
  | ptr b o => simp only [denV] at h; rw [h.2]; rfl
  | pix b o i => simp only [denV] at h; rw [h.2]; rfl
  | slice b o l c => simp only [denV] at h; rw [h.2]; rfl
  | gs b o l c => simp only [denV] at h; rw [h.2.2]; rfl
  | map b => simp only [denV] at h; rw [h.2]; rfl
  | _ => simp only [denV] at h; rw [h]; rfl

theorem denS_oneCell {E : Emb} : ∀ {cs : List Seg} {l : List Value}, denS E cs l → ∀ v ∈ l, v.oneCell' = true
  | [], _, hv => by simp only [denS] at hv; subst hv; intro v hm; cases hm
  | .one e :: r, l, hv => by
    simp only [denS] at hv
    obtain ⟨v, l', rfl, h1, h3⟩ := hv
    intro x hx
    rcases List.mem_cons.1 hx with rfl | hx
    · exact denV_oneCell h1
    · exact denS_oneCell h3 x hx
  | .ints k n f :: r, l, hv => by
    simp only [denS] at hv
    obtain ⟨l', rfl, h3⟩ := hv
    intro x hx
    rcases List.mem_append.1 hx with hx | hx
    · simp only [intsOf, List.mem_map] at hx
      obtain ⟨j, _, rfl⟩ := hx
      rfl
    · exact denS_oneCell h3 x hx

theorem denS_append {E : Emb} : ∀ {a b : List Seg} {l m : List Value}, denS E a l → denS E b m → denS E (a ++ b) (l ++ m)
  | [], b, l, m, h1, h2 => by simp only [denS] at h1; subst h1; exact h2
  | .one e :: r, b, l, m, h1, h2 => by
    simp only [denS] at h1
    obtain ⟨v, l', rfl, h3, h4⟩ := h1
    exact ⟨v, l' ++ m, rfl, h3, denS_append h4 h2⟩
  | .ints k n f :: r, b, l, m, h1, h2 => by
    simp only [denS] at h1
    obtain ⟨l', rfl, h4⟩ := h1
    exact ⟨l' ++ m, by simp, denS_append h4 h2⟩

theorem sizeS_append : ∀ (a b : List Seg), sizeS (a ++ b) = sizeS a + sizeS b
  | [], b => by simp [sizeS]
  | .one _ :: r, b => by simp [sizeS, sizeS_append r b]; omega
  | .ints _ n _ :: r, b => by simp [sizeS, sizeS_append r b]; omega

theorem intsOf_get {k : IntKind} {n : Nat} {f : Nat → Int} {i : Nat} (h : i < n) : (intsOf k n f)[i]? = some (.int k (f i)) := by
  simp [intsOf, h]

theorem Emb.at_add (E : Emb) (b o n : Nat) : (E.at b o).add n = E.at b (o + n) := by
  unfold Emb.at Addr.add
  split
  · subst_vars; simp
  · simp [Nat.add_assoc]

end Go.Anv

/- The engine, part 2: what stays true of a small world when the world goes on: a draw, a new block, a store. Plain lemmas, no condition. -/
namespace Go.Anv
open Go

/-! ### segments: looking up, turning -/

def getS : List Seg → Nat → Option SV
  | [], _ => none
  | .one v :: _, 0 => some v
  | .one _ :: r, o + 1 => getS r o
  | .ints k n f :: r, o => if o < n then some (.int k (f o)) else getS r (o - n)

def getI : List Seg → Nat → Option (IntKind × Nat × (Nat → Int))
  | [], _ => none
  | .one _ :: _, 0 => none
  | .one _ :: r, o + 1 => getI r o
  | .ints k n f :: _, 0 => some (k, n, f)
  | .ints _ n _ :: r, o + 1 => if n ≤ o + 1 then getI r (o + 1 - n) else none

def setS : List Seg → Nat → SV → Option (List Seg)
  | [], _, _ => none
  | .one _ :: r, 0, e => some (.one e :: r)
  | .one v :: r, o + 1, e => (setS r o e).map (.one v :: ·)
  | .ints k n f :: r, o, e => if n ≤ o then (setS r (o - n) e).map (.ints k n f :: ·) else none

def setI : List Seg → Nat → Nat → IntKind → Int → Option (List Seg)
  | [], _, _, _, _ => none
  | .one _ :: _, 0, _, _, _ => none
  | .one v :: r, o + 1, i, k, x => (setI r o i k x).map (.one v :: ·)
  | .ints k' n f :: r, 0, i, k, x => if k = k' then some (.ints k' n (fun j => if j = i then x else f j) :: r) else none
  | .ints k' n f :: r, o + 1, i, k, x => if n ≤ o + 1 then (setI r (o + 1 - n) i k x).map (.ints k' n f :: ·) else none

def dropS : List Seg → Nat → Option (List Seg)
  | r, 0 => some r
  | [], _ + 1 => none
  | .one _ :: r, o + 1 => dropS r o
  | .ints _ n _ :: r, o + 1 => if n ≤ o + 1 then dropS r (o + 1 - n) else none

def takeS : List Seg → Nat → Option (List Seg)
  | _, 0 => some []
  | [], _ + 1 => none
  | .one v :: r, n + 1 => (takeS r n).map (.one v :: ·)
  | .ints k m f :: r, n + 1 => if m ≤ n + 1 then (takeS r (n + 1 - m)).map (.ints k m f :: ·) else none

def putS (cs : List Seg) (o : Nat) (new : List Seg) : Option (List Seg) :=
  match takeS cs o, dropS cs (o + sizeS new) with
  | some a, some b => some (a ++ (new ++ b))
  | _, _ => none

theorem getS_den {E : Emb} : ∀ {cs : List Seg} {l : List Value} {o : Nat} {e : SV}, denS E cs l → getS cs o = some e → ∃ v, l[o]? = some v ∧ denV E e v
  | [], _, _, _, _, h => by simp [getS] at h
  | .one x :: r, l, 0, e, hd, h => by
    simp only [getS, Option.some.injEq] at h
    subst h
    simp only [denS] at hd
    obtain ⟨v, l', rfl, h1, _⟩ := hd
    exact ⟨v, by simp, h1⟩
  | .one x :: r, l, o + 1, e, hd, h => by
    simp only [getS] at h
    simp only [denS] at hd
    obtain ⟨v, l', rfl, _, h3⟩ := hd
    obtain ⟨u, h4, h5⟩ := getS_den h3 h
    exact ⟨u, by simpa using h4, h5⟩
  | .ints k n f :: r, l, o, e, hd, h => by
    unfold getS at h
    simp only [denS] at hd
    obtain ⟨l', rfl, h3⟩ := hd
    split at h
    · rename_i ho
      simp only [Option.some.injEq] at h
      subst h
      exact ⟨.int k (f o), by rw [List.getElem?_append_left (by simpa [length_intsOf] using ho)]; exact intsOf_get ho, by simp only [denV]⟩
    · rename_i ho
      obtain ⟨u, h4, h5⟩ := getS_den h3 h
      exact ⟨u, by rw [List.getElem?_append_right (by rw [length_intsOf]; omega), length_intsOf]; exact h4, h5⟩

theorem getI_den {E : Emb} : ∀ {cs : List Seg} {l : List Value} {o : Nat} {k : IntKind} {n : Nat} {f : Nat → Int}, denS E cs l → getI cs o = some (k, n, f) → ∀ i, i < n → l[o + i]? = some (.int k (f i))
  | [], _, _, _, _, _, _, h => by simp [getI] at h
  | .one x :: r, l, 0, _, _, _, hd, h => by simp [getI] at h
  | .one x :: r, l, o + 1, _, _, _, hd, h => by
    simp only [getI] at h
    simp only [denS] at hd
    obtain ⟨v, l', rfl, _, h3⟩ := hd
    intro i hi
    have := getI_den h3 h i hi
    rw [show o + 1 + i = (o + i) + 1 by omega]
    simpa using this
  | .ints k' n' f' :: r, l, 0, _, _, _, hd, h => by
    simp only [getI, Option.some.injEq, Prod.mk.injEq] at h
    obtain ⟨rfl, rfl, rfl⟩ := h
    simp only [denS] at hd
    obtain ⟨l', rfl, h3⟩ := hd
    intro i hi
    rw [Nat.zero_add, List.getElem?_append_left (by simpa [length_intsOf] using hi)]
    exact intsOf_get hi
  | .ints k' n' f' :: r, l, o + 1, _, _, _, hd, h => by
    unfold getI at h
    split at h
    · rename_i ho
      simp only [denS] at hd
      obtain ⟨l', rfl, h3⟩ := hd
      intro i hi
      rw [List.getElem?_append_right (by rw [length_intsOf]; omega), length_intsOf]
      have := getI_den h3 h i hi
      rwa [show o + 1 + i - n' = o + 1 - n' + i by omega]
    · cases h

theorem getI_size : ∀ {cs : List Seg} {o : Nat} {k : IntKind} {n : Nat} {f : Nat → Int}, getI cs o = some (k, n, f) → o + n ≤ sizeS cs
  | [], _, _, _, _, h => by simp [getI] at h
  | .one x :: r, 0, _, _, _, h => by simp [getI] at h
  | .one x :: r, o + 1, _, _, _, h => by
    simp only [getI] at h
    have := getI_size h
    simp only [sizeS]; omega
  | .ints k' n' f' :: r, 0, _, _, _, h => by
    simp only [getI, Option.some.injEq, Prod.mk.injEq] at h
    obtain ⟨rfl, rfl, rfl⟩ := h
    simp only [sizeS]; omega
  | .ints k' n' f' :: r, o + 1, _, _, _, h => by
    unfold getI at h
    split at h
    · have := getI_size h
      simp only [sizeS]; omega
    · cases h

theorem setS_den {E : Emb} : ∀ {cs cs' : List Seg} {l : List Value} {o : Nat} {e : SV} {v : Value}, denS E cs l → denV E e v → setS cs o e = some cs' →
    denS E cs' (l.set o v) ∧ sizeS cs' = sizeS cs ∧ o < sizeS cs
  | [], _, _, _, _, _, _, _, h => by simp [setS] at h
  | .one x :: r, cs', l, 0, e, v, hd, hv, h => by
    simp only [setS, Option.some.injEq] at h
    subst h
    simp only [denS] at hd
    obtain ⟨u, l', rfl, _, h3⟩ := hd
    exact ⟨⟨v, l', by simp, hv, h3⟩, by simp [sizeS], by simp [sizeS]⟩
  | .one x :: r, cs', l, o + 1, e, v, hd, hv, h => by
    simp only [setS, Option.map_eq_some_iff] at h
    obtain ⟨c, hc, rfl⟩ := h
    simp only [denS] at hd
    obtain ⟨u, l', rfl, h1, h3⟩ := hd
    obtain ⟨h4, h5, h6⟩ := setS_den h3 hv hc
    exact ⟨⟨u, l'.set o v, by simp, h1, h4⟩, by simp [sizeS, h5], by simp [sizeS]; omega⟩
  | .ints k n f :: r, cs', l, o, e, v, hd, hv, h => by
    unfold setS at h
    split at h
    · rename_i ho
      simp only [Option.map_eq_some_iff] at h
      obtain ⟨c, hc, rfl⟩ := h
      simp only [denS] at hd
      obtain ⟨l', rfl, h3⟩ := hd
      obtain ⟨h4, h5, h6⟩ := setS_den h3 hv hc
      exact ⟨⟨l'.set (o - n) v, by rw [List.set_append_right _ _ (by rw [length_intsOf]; omega), length_intsOf], h4⟩, by simp [sizeS, h5], by simp [sizeS]; omega⟩
    · cases h

theorem intsOf_set (k : IntKind) (n : Nat) (f : Nat → Int) (i : Nat) (x : Int) : (intsOf k n f).set i (.int k x) = intsOf k n (fun j => if j = i then x else f j) := by
  apply List.ext_getElem?
  intro j
  by_cases hj : j < n
  · rw [intsOf_get hj, List.getElem?_set]
    by_cases hji : i = j
    · subst hji; simp [length_intsOf, hj]
    · rw [if_neg hji, intsOf_get hj, if_neg (fun e => hji e.symm)]
  · rw [List.getElem?_eq_none (by simp [length_intsOf]; omega), List.getElem?_eq_none (by simp [length_intsOf]; omega)]

theorem setI_den {E : Emb} : ∀ {cs cs' : List Seg} {l : List Value} {o i : Nat} {k : IntKind} {x : Int}, denS E cs l → setI cs o i k x = some cs' → (∀ k' n f, getI cs o = some (k', n, f) → i < n) →
    denS E cs' (l.set (o + i) (.int k x)) ∧ sizeS cs' = sizeS cs ∧ o + i < sizeS cs
  | [], _, _, _, _, _, _, _, h, _ => by simp [setI] at h
  | .one y :: r, cs', l, 0, i, k, x, hd, h, _ => by simp [setI] at h
  | .one y :: r, cs', l, o + 1, i, k, x, hd, h, hi => by
    simp only [setI, Option.map_eq_some_iff] at h
    obtain ⟨c, hc, rfl⟩ := h
    simp only [denS] at hd
    obtain ⟨u, l', rfl, h1, h3⟩ := hd
    obtain ⟨h4, h5, h6⟩ := setI_den h3 hc (fun k' n f hg => hi k' n f (by simpa only [getI] using hg))
    exact ⟨⟨u, l'.set (o + i) (.int k x), by rw [show o + 1 + i = o + i + 1 by omega]; simp, h1, h4⟩, by simp [sizeS, h5], by simp [sizeS]; omega⟩
  | .ints k' n f :: r, cs', l, 0, i, k, x, hd, h, hi => by
    unfold setI at h
    split at h
    · rename_i hk
      subst hk
      simp only [Option.some.injEq] at h
      subst h
      simp only [denS] at hd
      obtain ⟨l', rfl, h3⟩ := hd
      have hin := hi k n f (by simp only [getI])
      refine ⟨⟨l', ?_, h3⟩, by simp [sizeS], by simp [sizeS]; omega⟩
      rw [Nat.zero_add, List.set_append_left _ _ (by simpa [length_intsOf] using hin), intsOf_set]
    · cases h
  | .ints k' n f :: r, cs', l, o + 1, i, k, x, hd, h, hi => by
    unfold setI at h
    split at h
    · rename_i ho
      simp only [Option.map_eq_some_iff] at h
      obtain ⟨c, hc, rfl⟩ := h
      simp only [denS] at hd
      obtain ⟨l', rfl, h3⟩ := hd
      obtain ⟨h4, h5, h6⟩ := setI_den h3 hc (fun k' n f hg => hi k' n f (by simp only [getI]; rw [if_pos ho]; exact hg))
      refine ⟨⟨l'.set (o + 1 - n + i) (.int k x), ?_, h4⟩, by simp [sizeS, h5], by simp [sizeS]; omega⟩
      rw [List.set_append_right _ _ (by rw [length_intsOf]; omega), length_intsOf, show o + 1 + i - n = o + 1 - n + i by omega]
    · cases h

theorem dropS_den {E : Emb} : ∀ {cs r : List Seg} {l : List Value} {o : Nat}, denS E cs l → dropS cs o = some r → denS E r (l.drop o) ∧ sizeS r + o = sizeS cs
  | cs, r, l, 0, hd, h => by
    simp only [dropS, Option.some.injEq] at h
    subst h
    exact ⟨by simpa using hd, by omega⟩
  | [], _, _, o + 1, _, h => by simp [dropS] at h
  | .one x :: c, r, l, o + 1, hd, h => by
    simp only [dropS] at h
    simp only [denS] at hd
    obtain ⟨v, l', rfl, _, h3⟩ := hd
    obtain ⟨h4, h5⟩ := dropS_den h3 h
    exact ⟨by simpa using h4, by simp [sizeS]; omega⟩
  | .ints k n f :: c, r, l, o + 1, hd, h => by
    unfold dropS at h
    split at h
    · rename_i ho
      simp only [denS] at hd
      obtain ⟨l', rfl, h3⟩ := hd
      obtain ⟨h4, h5⟩ := dropS_den h3 h
      refine ⟨?_, by simp [sizeS]; omega⟩
      rw [List.drop_append, length_intsOf, List.drop_eq_nil_of_le (by rw [length_intsOf]; omega), List.nil_append]
      exact h4
    · cases h

theorem takeS_den {E : Emb} : ∀ {cs r : List Seg} {l : List Value} {o : Nat}, denS E cs l → takeS cs o = some r → denS E r (l.take o) ∧ sizeS r = o ∧ o ≤ sizeS cs
  | cs, r, l, 0, hd, h => by
    simp only [takeS, Option.some.injEq] at h
    subst h
    exact ⟨by simp [denS], by simp [sizeS]⟩
  | [], _, _, o + 1, _, h => by simp [takeS] at h
  | .one x :: c, r, l, o + 1, hd, h => by
    simp only [takeS, Option.map_eq_some_iff] at h
    obtain ⟨t, ht, rfl⟩ := h
    simp only [denS] at hd
    obtain ⟨v, l', rfl, h1, h3⟩ := hd
    obtain ⟨h4, h5, h6⟩ := takeS_den h3 ht
    exact ⟨⟨v, l'.take o, by simp, h1, h4⟩, by simp [sizeS, h5], by simp [sizeS]; omega⟩
  | .ints k n f :: c, r, l, o + 1, hd, h => by
    unfold takeS at h
    split at h
    · rename_i ho
      simp only [Option.map_eq_some_iff] at h
      obtain ⟨t, ht, rfl⟩ := h
      simp only [denS] at hd
      obtain ⟨l', rfl, h3⟩ := hd
      obtain ⟨h4, h5, h6⟩ := takeS_den h3 ht
      refine ⟨⟨l'.take (o + 1 - n), ?_, h4⟩, by simp [sizeS]; omega, by simp [sizeS]; omega⟩
      rw [List.take_append, length_intsOf, List.take_of_length_le (by rw [length_intsOf]; omega)]
    · cases h

theorem putS_den {E : Emb} {cs cs' new : List Seg} {l m : List Value} {o : Nat} (hd : denS E cs l) (hm : denS E new m) (h : putS cs o new = some cs') :
    denS E cs' (l.take o ++ (m ++ l.drop (o + m.length))) ∧ sizeS cs' = sizeS cs ∧ o + m.length ≤ sizeS cs := by
  unfold putS at h
  split at h
  · rename_i a b ha hb
    simp only [Option.some.injEq] at h
    subst h
    have hl := denS_length hm
    obtain ⟨h1, h2, h3⟩ := takeS_den hd ha
    obtain ⟨h4, h5⟩ := dropS_den hd hb
    rw [← hl] at h4
    exact ⟨denS_append h1 (denS_append hm h4), by rw [sizeS_append, sizeS_append]; omega, by omega⟩
  · cases h

/-! ### worlds -/

theorem cell?_setCells_out (b : Nat) (vs : List Value) (o : Nat) (w : World) (x : Addr) (h : x.block ≠ b ∨ x.off < o ∨ o + vs.length ≤ x.off) : (w.setCells b o vs).cell? x = w.cell? x :=
  World.cell?_setCells_out b vs o w x (fun h1 _ => by omega)

theorem size_setCells (b : Nat) : ∀ (vs : List Value) (o : Nat) (w : World), (w.setCells b o vs).heap.size = w.heap.size
  | [], _, _ => rfl
  | _ :: r, _, _ => by rw [World.setCells, size_setCells b r, World.size_setCell]

theorem other_setCells (b : Nat) : ∀ (vs : List Value) (o : Nat) (w : World) (k : Nat), k ≠ b → (w.setCells b o vs).heap[k]? = w.heap[k]?
  | [], _, _, _, _ => rfl
  | v :: r, o, w, k, h => by
    rw [World.setCells, other_setCells b r _ _ k h]
    exact RowKit.Below.heap_setCell w ⟨b, o, none⟩ v k h

theorem map_setCell (w : World) (a : Addr) (v : Value) (k : Nat) (l : Array MapEntry) (c : Nat) (h : w.heap[k]? = some (.map l c)) : (w.setCell a v).heap[k]? = some (.map l c) := by
  simp only [World.setCell, Array.getElem?_modify]
  split
  · simp [h]
  · exact h

theorem map_setCells (b : Nat) : ∀ (vs : List Value) (o : Nat) (w : World) (k : Nat) (l : Array MapEntry) (c : Nat), w.heap[k]? = some (.map l c) → (w.setCells b o vs).heap[k]? = some (.map l c)
  | [], _, _, _, _, _, h => h
  | v :: r, _o, w, k, l, c, h => map_setCells b r _ _ k l c (map_setCell w _ v k l c h)

theorem os_setCells (b : Nat) : ∀ (vs : List Value) (o : Nat) (w : World), (w.setCells b o vs).os = w.os ∧ (w.setCells b o vs).tape = w.tape ∧ (w.setCells b o vs).output = w.output
  | [], _, _ => ⟨rfl, rfl, rfl⟩
  | v :: r, o, w => by
    rw [World.setCells]
    exact os_setCells b r _ _

theorem inSetCells (b : Nat) (vs : List Value) (o : Nat) (w : World) (h : ∀ j, j < vs.length → ∃ v, w.cell? ⟨b, o + j, none⟩ = some v) (j : Nat) (hj : j < vs.length) :
    (w.setCells b o vs).cell? ⟨b, o + j, none⟩ = vs[j]? := by
  rw [World.cell?_setCells_in b vs o w (fun i hi => by obtain ⟨v, hv⟩ := h i hi; simp [hv]) j hj, List.getElem?_eq_getElem hj]

/-- A map object and a row of cells are two. -/
theorem not_map_of_cell {w : World} {b o : Nat} {v : Value} {l : Array MapEntry} {c : Nat} (h : w.cell? ⟨b, o, none⟩ = some v) : w.heap[b]? ≠ some (.map l c) := by
  intro e
  simp [World.cell?, e] at h

theorem rowOk_setCell {w : World} {k : Nat} (a : Addr) (v : Value) (h : rowOk w k) : rowOk (w.setCell a v) k := by
  obtain ⟨c, e, lo, hi, h1, h2⟩ := h
  by_cases hk : a.block = k
  · subst hk
    refine ⟨if a.spot.isSome then c else c.setIfInBounds a.off v, e, lo, hi, ?_, ?_⟩
    · simp [World.setCell, Array.getElem?_modify, h1]
    · split <;> simpa using h2
  · exact ⟨c, e, lo, hi, by simp [World.setCell, Array.getElem?_modify, hk, h1], h2⟩

theorem rowOk_setCells {k b : Nat} : ∀ {vs : List Value} {o : Nat} {w : World}, rowOk w k → rowOk (w.setCells b o vs) k
  | [], _, _, h => h
  | v :: r, o, _, h => rowOk_setCells (vs := r) (rowOk_setCell ⟨b, o, none⟩ v h)

/-! ### a state goes on -/

theorem Since.refl (E : Emb) (h : List Blk) (w : World) : Since E h w E h w :=
  ⟨Nat.le_refl _, fun _ _ => rfl, Nat.le_refl _, fun _ _ _ => rfl, fun _ _ _ _ => ⟨rfl, fun _ => rfl⟩, fun _ _ h _ => h, rfl, rfl, rfl, fun _ _ h => h⟩

theorem Since.trans {E0 E1 E2 : Emb} {h0 h1 h2 : List Blk} {w0 w1 w2 : World} (n0 : E0.n = h0.length) (n1 : E1.n = h1.length) (a : Since E0 h0 w0 E1 h1 w1) (b : Since E1 h1 w1 E2 h2 w2) : Since E0 h0 w0 E2 h2 w2 where
  len := Nat.le_trans a.len b.len
  same i hi := (b.same i (by have := a.len; omega)).trans (a.same i hi)
  size := Nat.le_trans a.size b.size
  frame k hk hm := (b.frame k (Nat.lt_of_lt_of_le hk a.size) (fun o ho => hm o (a.new k o ho hk))).trans (a.frame k hk hm)
  cells k o hk hm := by
    have h1 := a.cells k o hk hm
    have h2 := b.cells k o (Nat.lt_of_lt_of_le hk a.size) (fun ho => hm (a.new k o ho hk))
    exact ⟨h2.1.trans h1.1, fun hs => (h2.2 (by rw [h1.1]; exact hs)).trans (h1.2 hs)⟩
  new k o ho hk := a.new k o (b.new k o ho (Nat.lt_of_lt_of_le hk a.size)) hk
  os := b.os.trans a.os
  tape := b.tape.trans a.tape
  output := b.output.trans a.output
  rows k hk h := b.rows k (Nat.lt_of_lt_of_le hk a.size) (a.rows k hk h)

theorem Since.le {E E' : Emb} {h h' : List Blk} {w w' : World} (n : E.n = h.length) (n' : E'.n = h'.length) (s : Since E h w E' h' w') : E.le E' :=
  ⟨by rw [n, n']; exact s.len, s.same⟩

/-- A draw. -/
theorem Sim.drew {E : Emb} {h : List Blk} {w : World} (s : Sim E h w) : Sim E h w.drew := ⟨s.n, fun i B hi => by
  have := s.ok i B hi
  cases B with
  | cells m cs sp => exact this
  | map es => exact this
  | dead => exact this, s.dis⟩

theorem Since.drew (E : Emb) (h : List Blk) (w : World) : Since E h w E h w.drew :=
  ⟨Nat.le_refl _, fun _ _ => rfl, Nat.le_refl _, fun _ _ _ => rfl, fun _ _ _ _ => ⟨rfl, fun _ => rfl⟩, fun _ _ h _ => h, rfl, rfl, rfl, fun _ _ h => h⟩

/-- Where the next block lies. -/
def Emb.push (E : Emb) (p : Loc) : Emb := ⟨E.n + 1, fun i => if i = E.n then p else E.f i⟩

theorem Emb.le_push (E : Emb) (p : Loc) : E.le (E.push p) := ⟨by simp [Emb.push], fun i hi => by simp [Emb.push]; omega⟩
theorem Emb.push_new (E : Emb) (p : Loc) : (E.push p).f E.n = p := by simp [Emb.push]
theorem Emb.push_old (E : Emb) (p : Loc) {i : Nat} (h : i < E.n) : (E.push p).f i = E.f i := by simp [Emb.push]; omega

theorem okBlk_le {E E' : Emb} (h : E.le E') {w : World} {p : Loc} {B : Blk} (hb : okBlk E w p B) : okBlk E' w p B := by
  cases B with
  | cells m cs sp =>
    obtain ⟨h1, ⟨l, h2, h3⟩, h4⟩ := hb
    exact ⟨h1, ⟨l, denS_mono h cs l h2, h3⟩, h4⟩
  | map es =>
    obtain ⟨l, c, h1, h2⟩ := hb
    exact ⟨l, c, h1, denM_mono h es _ h2⟩
  | dead => trivial

/-- All that is covered lies in the world. -/
theorem Sim.cov_lt {E : Emb} {h : List Blk} {w : World} (s : Sim E h w) {i : Nat} {B : Blk} (hi : h[i]? = some B) {b o : Nat} (hc : cov (E.f i) B b o) : b < w.heap.size := by
  have := s.ok i B hi
  cases B with
  | cells m cs sp =>
    obtain ⟨h1, _⟩ := this
    obtain ⟨rfl, h2, h3⟩ := hc
    rcases h1 with h1 | h1
    · exact h1
    · omega
  | map es =>
    obtain ⟨l, c, h1, _⟩ := this
    simp only [cov] at hc
    subst hc
    rcases Nat.lt_or_ge (E.f i).1 w.heap.size with h' | h'
    · exact h'
    · simp [Array.getElem?_eq_none h'] at h1
  | dead => cases hc

theorem okBlk_alloc {E : Emb} {w : World} {p : Loc} {B : Blk} (o : Obj) (hb : okBlk E w p B) : okBlk E (w.alloc o) p B := by
  cases B with
  | cells m cs sp =>
    obtain ⟨h1, ⟨l, h2, h3⟩, h4⟩ := hb
    have hlt : ∀ j, j < sizeS cs + sp → p.1 < w.heap.size := fun j hj => by
      rcases h1 with h1 | h1
      · exact h1
      · omega
    refine ⟨?_, ⟨l, h2, fun j v hj => ?_⟩, fun hm j hj => ?_⟩
    · rcases h1 with h1 | h1
      · exact .inl (by simp; omega)
      · exact .inr h1
    · have hj' : j < sizeS cs := by
        rw [← denS_length h2]
        rcases Nat.lt_or_ge j l.length with h' | h'
        · exact h'
        · simp [List.getElem?_eq_none h'] at hj
      rw [World.cell?_alloc_lt _ _ _ (hlt j (by omega))]; exact h3 j v hj
    · have h1 := hlt j hj
      rw [World.cell?_alloc_lt _ _ _ h1]; exact ⟨(h4 hm j hj).1, (h4 hm j hj).2.of_block (RowKit.Below.heap_alloc w o p.1 h1)⟩
  | map es =>
    obtain ⟨l, c, h1, h2⟩ := hb
    refine ⟨l, c, ?_, h2⟩
    have hlt : p.1 < w.heap.size := by
      rcases Nat.lt_or_ge p.1 w.heap.size with h' | h'
      · exact h'
      · simp [Array.getElem?_eq_none h'] at h1
    rw [RowKit.Below.heap_alloc w o p.1 hlt]; exact h1
  | dead => trivial

theorem getElem?_push_cases {h : List Blk} {N B : Blk} {i : Nat} (hi : (h ++ [N])[i]? = some B) : h[i]? = some B ∧ i < h.length ∨ i = h.length ∧ B = N := by
  rcases Nat.lt_or_ge i h.length with hlt | hge
  · rw [List.getElem?_append_left hlt] at hi
    exact .inl ⟨hi, hlt⟩
  · rw [List.getElem?_append_right hge] at hi
    have : i - h.length = 0 := by
      rcases Nat.eq_zero_or_pos (i - h.length) with h' | h'
      · exact h'
      · rw [List.getElem?_eq_none (by simp; omega)] at hi; cases hi
    rw [this] at hi
    simp at hi
    exact .inr ⟨by omega, hi.symm⟩

/-- A new block, of whatever kind. -/
theorem Sim.push {E : Emb} {h : List Blk} {w : World} (s : Sim E h w) (o : Obj) (N : Blk)
    (hN : okBlk (E.push ⟨w.heap.size, 0, false⟩) (w.alloc o) ⟨w.heap.size, 0, false⟩ N) : Sim (E.push ⟨w.heap.size, 0, false⟩) (h ++ [N]) (w.alloc o) where
  n := by simp [Emb.push, s.n]
  ok i B hi := by
    rcases getElem?_push_cases hi with ⟨h1, h2⟩ | ⟨h1, h2⟩
    · rw [Emb.push_old _ _ (by rw [s.n]; exact h2)]
      exact okBlk_le (Emb.le_push _ _) (okBlk_alloc o (s.ok i B h1))
    · subst h2; subst h1
      rw [← s.n, Emb.push_new]
      exact hN
  dis i j A B hij hi hj hA b o hci hcj := by
    have hnew : ∀ C : Blk, cov ⟨w.heap.size, 0, false⟩ C b o → b = w.heap.size := fun C hC => by
      cases C with
      | cells m cs sp => exact hC.1
      | map es => exact hC
      | dead => cases hC
    rcases getElem?_push_cases hi with ⟨h1, h2⟩ | ⟨h1, h2⟩ <;> rcases getElem?_push_cases hj with ⟨h3, h4⟩ | ⟨h3, h4⟩
    · rw [Emb.push_old _ _ (by rw [s.n]; exact h2)] at hci
      rw [Emb.push_old _ _ (by rw [s.n]; exact h4)] at hcj
      exact s.dis i j A B hij h1 h3 hA b o hci hcj
    · rw [Emb.push_old _ _ (by rw [s.n]; exact h2)] at hci
      subst h3
      rw [← s.n, Emb.push_new] at hcj
      have := s.cov_lt h1 hci
      have := hnew _ hcj
      omega
    · rw [Emb.push_old _ _ (by rw [s.n]; exact h4)] at hcj
      subst h1
      rw [← s.n, Emb.push_new] at hci
      have := s.cov_lt h3 hcj
      have := hnew _ hci
      omega
    · exact hij (h1.trans h3.symm)

theorem Since.push {E : Emb} {h : List Blk} {w : World} (s : Sim E h w) (o : Obj) (N : Blk) : Since E h w (E.push ⟨w.heap.size, 0, false⟩) (h ++ [N]) (w.alloc o) where
  len := by simp
  same i hi := Emb.push_old _ _ hi
  size := by simp
  frame k hk _ := RowKit.Below.heap_alloc w o k hk
  cells k x hk _ := ⟨World.cell?_alloc_lt _ _ _ hk, fun _ => World.frozen?_alloc_old _ _ _ (Nat.ne_of_lt hk)⟩
  new k x hm hk := by
    obtain ⟨i, B, hi, hB, hc⟩ := hm
    rcases getElem?_push_cases hi with ⟨h1, h2⟩ | ⟨h1, h2⟩
    · rw [Emb.push_old _ _ (by rw [s.n]; exact h2)] at hc
      exact ⟨i, B, h1, hB, hc⟩
    · subst h1
      rw [← s.n, Emb.push_new] at hc
      have : k = w.heap.size := by
        cases B with
        | cells m cs sp => exact hc.1
        | map es => exact hc
        | dead => cases hc
      omega
  os := rfl
  tape := rfl
  output := rfl
  rows k hk h := h.of_block (RowKit.Below.heap_alloc w o k hk)

theorem okBlk_new {E : Emb} {w : World} {m : Bool} {cs : List Seg} {l : List Value} (t : TypeId) (hd : denS E cs l) : okBlk (E.push ⟨w.heap.size, 0, false⟩) (w.alloc (.cells l.toArray t)) ⟨w.heap.size, 0, false⟩ (.cells m cs 0) := by
  refine ⟨by simp, ⟨l, denS_mono (Emb.le_push _ _) cs l hd, fun j v hj => ?_⟩, fun _ j hj => ?_⟩
  · have := World.cell?_alloc_new w l.toArray t (0 + j)
    rw [this]
    simpa using hj
  · have hlen := denS_length hd
    have := World.cell?_alloc_new w l.toArray t (0 + j)
    refine ⟨⟨l[j]'(by omega), ?_⟩, ?_⟩
    · rw [this]; simp
    · exact ⟨l.toArray, t, 0, 0, heap_alloc_new w _, .inl rfl⟩

/-- Stores into a block that may be written. -/
theorem Sim.write {E : Emb} {h : List Blk} {w : World} (s : Sim E h w) {i : Nat} {cs cs' : List Seg} {sp sp' : Nat} (hi : h[i]? = some (.cells true cs sp)) {o : Nat} {vs l : List Value}
    (hl : denS E cs l) (hlw : ∀ j v, l[j]? = some v → w.cell? ⟨(E.f i).1, (E.f i).2 + j, none⟩ = some v)
    (hd : denS E cs' (l.take o ++ (vs ++ l.drop (o + vs.length)))) (hs : sizeS cs' + sp' = sizeS cs + sp) (ho : o ≤ sizeS cs) (hov : o + vs.length ≤ sizeS cs + sp) :
    Sim E (h.set i (.cells true cs' sp')) (w.setCells (E.f i).1 ((E.f i).2 + o) vs) := by
  have hlt : i < h.length := by
    rcases Nat.lt_or_ge i h.length with h' | h'
    · exact h'
    · rw [List.getElem?_eq_none h'] at hi; cases hi
  obtain ⟨hw1, _, hw3⟩ := s.ok i _ hi
  have hw3 := hw3 rfl
  have hex : ∀ j, j < vs.length → ∃ v, w.cell? ⟨(E.f i).1, (E.f i).2 + o + j, none⟩ = some v := fun j hj => by
    have := (hw3 (o + j) (by omega)).1
    rwa [← Nat.add_assoc] at this
  have hlen := denS_length hl
  have hcov : ∀ b' o', ¬ cov (E.f i) (.cells true cs sp) b' o' → (w.setCells (E.f i).1 ((E.f i).2 + o) vs).cell? ⟨b', o', none⟩ = w.cell? ⟨b', o', none⟩ := fun b' o' hn => by
    apply cell?_setCells_out
    simp only [cov] at hn
    simp only
    by_cases hb : b' = (E.f i).1
    · right
      have : ¬ ((E.f i).2 ≤ o' ∧ o' < (E.f i).2 + (sizeS cs + sp)) := fun hh => hn ⟨hb, hh.1, hh.2⟩
      omega
    · exact .inl hb
  have hcc : ∀ (b' o' : Nat), cov (E.f i) (.cells true cs' sp') b' o' ↔ cov (E.f i) (.cells true cs sp) b' o' := fun b' o' => by simp only [cov, hs]
  refine ⟨by simp [s.n], fun j B hj => ?_, fun j k A B hjk hj hk hA b' o' => ?_⟩
  · by_cases hji : i = j
    · subst hji
      rw [List.getElem?_set_self hlt] at hj
      simp only [Option.some.injEq] at hj
      subst hj
      refine ⟨by rw [size_setCells, hs]; exact hw1, ⟨_, hd, fun j v hj => ?_⟩, fun _ j hj => ?_⟩
      · rcases Nat.lt_or_ge j o with h1 | h1
        · rw [cell?_setCells_out _ _ _ _ _ (by simp only; omega)]
          rw [List.getElem?_append_left (by rw [List.length_take]; omega), List.getElem?_take_of_lt h1] at hj
          exact hlw j v hj
        · rw [List.getElem?_append_right (by rw [List.length_take]; omega), List.length_take, Nat.min_eq_left (by omega)] at hj
          rcases Nat.lt_or_ge (j - o) vs.length with h2 | h2
          · rw [List.getElem?_append_left h2] at hj
            rw [show (E.f i).2 + j = (E.f i).2 + o + (j - o) by omega, inSetCells _ _ _ _ hex _ h2]
            exact hj
          · rw [List.getElem?_append_right h2, List.getElem?_drop] at hj
            rw [cell?_setCells_out _ _ _ _ _ (by simp only; omega)]
            rw [show o + vs.length + (j - o - vs.length) = j by omega] at hj
            exact hlw j v hj
      · rw [hs] at hj
        refine ⟨?_, rowOk_setCells (hw3 j hj).2⟩
        by_cases h1 : o ≤ j ∧ j < o + vs.length
        · rw [show (E.f i).2 + j = (E.f i).2 + o + (j - o) by omega, inSetCells _ _ _ _ hex _ (by omega)]
          exact ⟨_, List.getElem?_eq_getElem (by omega)⟩
        · rw [cell?_setCells_out _ _ _ _ _ (by simp only; omega)]
          exact (hw3 j hj).1
    · rw [List.getElem?_set_ne hji] at hj
      have hb := s.ok j B hj
      cases B with
      | cells m cs2 sp2 =>
        obtain ⟨h1, ⟨l2, h2, h3⟩, h4⟩ := hb
        refine ⟨by rw [size_setCells]; exact h1, ⟨l2, h2, fun x v hx => ?_⟩, fun hm x hx => ?_⟩
        · rw [hcov]
          · exact h3 x v hx
          · intro hc
            refine s.dis i j _ _ hji hi hj rfl _ _ hc ⟨rfl, by omega, ?_⟩
            have := denS_length h2
            have : x < l2.length := by
              rcases Nat.lt_or_ge x l2.length with h' | h'
              · exact h'
              · rw [List.getElem?_eq_none h'] at hx; cases hx
            omega
        · rw [hcov]
          · exact ⟨(h4 hm x hx).1, rowOk_setCells (h4 hm x hx).2⟩
          · intro hc
            exact s.dis i j _ _ hji hi hj rfl _ _ hc ⟨rfl, by omega, by omega⟩
      | map es =>
        obtain ⟨l2, c, h1, h2⟩ := hb
        exact ⟨l2, c, map_setCells _ _ _ _ _ _ _ h1, h2⟩
      | dead => trivial
  · by_cases h1 : i = j <;> by_cases h2 : i = k
    · exact absurd (h1.symm.trans h2) hjk
    · subst h1
      rw [List.getElem?_set_self hlt] at hj
      simp only [Option.some.injEq] at hj
      subst hj
      rw [List.getElem?_set_ne h2] at hk
      rw [hcc]
      exact s.dis i k _ _ hjk hi hk rfl b' o'
    · subst h2
      rw [List.getElem?_set_self hlt] at hk
      simp only [Option.some.injEq] at hk
      subst hk
      rw [List.getElem?_set_ne h1] at hj
      rw [hcc]
      exact s.dis j i _ _ hjk hj hi hA b' o'
    · rw [List.getElem?_set_ne h1] at hj
      rw [List.getElem?_set_ne h2] at hk
      exact s.dis j k _ _ hjk hj hk hA b' o'

theorem Sim.store {E : Emb} {h : List Blk} {w : World} (s : Sim E h w) {i : Nat} {cs cs' : List Seg} {sp : Nat} (hi : h[i]? = some (.cells true cs sp)) {o : Nat} {vs l : List Value}
    (hl : denS E cs l) (hlw : ∀ j v, l[j]? = some v → w.cell? ⟨(E.f i).1, (E.f i).2 + j, none⟩ = some v)
    (hd : denS E cs' (l.take o ++ (vs ++ l.drop (o + vs.length)))) (hs : sizeS cs' = sizeS cs) (ho : o + vs.length ≤ sizeS cs) :
    Sim E (h.set i (.cells true cs' sp)) (w.setCells (E.f i).1 ((E.f i).2 + o) vs) := s.write hi hl hlw hd (by omega) (by omega) (by omega)

theorem Since.write {E : Emb} {h : List Blk} {w : World} {i : Nat} {cs cs' : List Seg} {sp sp' : Nat} (hi : h[i]? = some (.cells true cs sp)) {o : Nat} {vs : List Value}
    (hs : sizeS cs' + sp' = sizeS cs + sp) (ho : o + vs.length ≤ sizeS cs + sp) : Since E h w E (h.set i (.cells true cs' sp')) (w.setCells (E.f i).1 ((E.f i).2 + o) vs) := by
  have hlt : i < h.length := by
    rcases Nat.lt_or_ge i h.length with h' | h'
    · exact h'
    · rw [List.getElem?_eq_none h'] at hi; cases hi
  obtain ⟨e1, e2, e3⟩ := os_setCells (E.f i).1 vs ((E.f i).2 + o) w
  refine ⟨by simp, fun _ _ => rfl, by rw [size_setCells]; exact Nat.le_refl _, fun b hb hm => ?_, fun b x hb hm => ⟨?_, fun _ => World.frozen?_setCells _ _ _ _ _⟩, fun b x hm _ => ?_, e1, e2, e3, fun _ _ h => rowOk_setCells h⟩
  · cases vs with
    | nil => rfl
    | cons v r =>
      refine other_setCells _ _ _ _ _ (fun e => ?_)
      exact hm ((E.f i).2 + o) ⟨i, _, hi, rfl, e, by omega, by simp at ho; omega⟩
  · apply cell?_setCells_out
    simp only
    by_cases hbi : b = (E.f i).1
    · right
      have : ¬ ((E.f i).2 ≤ x ∧ x < (E.f i).2 + (sizeS cs + sp)) := fun hh => hm ⟨i, _, hi, rfl, hbi, hh.1, hh.2⟩
      omega
    · exact .inl hbi
  · obtain ⟨j, B, hj, hB, hc⟩ := hm
    by_cases hji : i = j
    · subst hji
      rw [List.getElem?_set_self hlt] at hj
      simp only [Option.some.injEq] at hj
      subst hj
      exact ⟨i, _, hi, rfl, by simpa only [cov, hs] using hc⟩
    · rw [List.getElem?_set_ne hji] at hj
      exact ⟨j, B, hj, hB, hc⟩

theorem Since.store {E : Emb} {h : List Blk} {w : World} {i : Nat} {cs cs' : List Seg} {sp : Nat} (hi : h[i]? = some (.cells true cs sp)) {o : Nat} {vs : List Value}
    (hs : sizeS cs' = sizeS cs) (ho : o + vs.length ≤ sizeS cs) : Since E h w E (h.set i (.cells true cs' sp)) (w.setCells (E.f i).1 ((E.f i).2 + o) vs) := Since.write hi (by omega) (by omega)

/-- A block is no longer looked at. -/
theorem Sim.drop {E : Emb} {h : List Blk} {w : World} (s : Sim E h w) (i : Nat) : Sim E (h.set i .dead) w := by
  have hc : ∀ {j : Nat} {B : Blk}, (h.set i Blk.dead)[j]? = some B → B = Blk.dead ∨ h[j]? = some B := fun {j B} hj => by
    by_cases hij : i = j
    · subst hij
      rw [List.getElem?_set] at hj
      simp only [if_true] at hj
      split at hj
      · simp only [Option.some.injEq] at hj; exact .inl hj.symm
      · cases hj
    · rw [List.getElem?_set_ne hij] at hj; exact .inr hj
  refine ⟨by simp [s.n], fun j B hj => ?_, fun j k A B hjk hj hk hA b o hcj => ?_⟩
  · rcases hc hj with rfl | hj
    · trivial
    · exact s.ok j B hj
  · rcases hc hj with rfl | hj
    · simp [Blk.mut] at hA
    · rcases hc hk with rfl | hk
      · intro h'; exact h'
      · exact s.dis j k A B hjk hj hk hA b o hcj

/-- A block's place gets one more number: the old number is no longer looked at. -/
theorem Sim.move {E : Emb} {h : List Blk} {w : World} (s : Sim E h w) {i : Nat} {N : Blk} (hi : h[i]? = some N) : Sim (E.push (E.f i)) (h.set i .dead ++ [N]) w := by
  have hlt : i < h.length := by
    rcases Nat.lt_or_ge i h.length with h' | h'
    · exact h'
    · rw [List.getElem?_eq_none h'] at hi; cases hi
  have hc : ∀ {j : Nat} {B : Blk}, (h.set i Blk.dead ++ [N])[j]? = some B → B = Blk.dead ∨ (h[j]? = some B ∧ (E.push (E.f i)).f j = E.f j ∧ j ≠ i) ∨ (j = h.length ∧ B = N ∧ (E.push (E.f i)).f j = E.f i) := fun {j B} hj => by
    rcases getElem?_push_cases hj with ⟨h1, h2⟩ | ⟨h1, h2⟩
    · simp only [List.length_set] at h2
      by_cases hij : i = j
      · subst hij
        rw [List.getElem?_set_self hlt] at h1
        simp only [Option.some.injEq] at h1
        exact .inl h1.symm
      · rw [List.getElem?_set_ne hij] at h1
        exact .inr (.inl ⟨h1, Emb.push_old _ _ (by rw [s.n]; exact h2), fun e => hij e.symm⟩)
    · simp only [List.length_set] at h1
      subst h1
      exact .inr (.inr ⟨rfl, h2, by rw [← s.n, Emb.push_new]⟩)
  refine ⟨by simp [Emb.push, s.n], fun j B hj => ?_, fun j k A B hjk hj hk hA b o hcj => ?_⟩
  · rcases hc hj with rfl | ⟨h1, h2, _⟩ | ⟨_, rfl, h2⟩
    · trivial
    · rw [h2]; exact okBlk_le (Emb.le_push _ _) (s.ok j B h1)
    · rw [h2]; exact okBlk_le (Emb.le_push _ _) (s.ok i _ hi)
  · rcases hc hj with rfl | ⟨h1, h2, h3⟩ | ⟨h1, rfl, h2⟩
    · simp [Blk.mut] at hA
    · rw [h2] at hcj
      rcases hc hk with rfl | ⟨k1, k2, _⟩ | ⟨_, rfl, k2⟩
      · intro h'; exact h'
      · rw [k2]; exact s.dis j k A B hjk h1 k1 hA b o hcj
      · rw [k2]; exact s.dis j i A _ h3 h1 hi hA b o hcj
    · rw [h2] at hcj
      rcases hc hk with rfl | ⟨k1, k2, k3⟩ | ⟨k1, rfl, k2⟩
      · intro h'; exact h'
      · rw [k2]; exact s.dis i k _ B (Ne.symm k3) hi k1 hA b o hcj
      · exact absurd (h1.trans k1.symm) hjk

theorem Since.move {E : Emb} {h : List Blk} {w : World} (s : Sim E h w) {i : Nat} {N : Blk} (hi : h[i]? = some N) : Since E h w (E.push (E.f i)) (h.set i .dead ++ [N]) w := by
  have hlt : i < h.length := by
    rcases Nat.lt_or_ge i h.length with h' | h'
    · exact h'
    · rw [List.getElem?_eq_none h'] at hi; cases hi
  refine ⟨by simp, fun j hj => Emb.push_old _ _ hj, Nat.le_refl _, fun _ _ _ => rfl, fun _ _ _ _ => ⟨rfl, fun _ => rfl⟩, fun b o hm _ => ?_, rfl, rfl, rfl, fun _ _ h => h⟩
  obtain ⟨j, B, hj, hB, hc⟩ := hm
  rcases getElem?_push_cases hj with ⟨h1, h2⟩ | ⟨h1, h2⟩
  · simp only [List.length_set] at h2
    by_cases hij : i = j
    · subst hij
      rw [List.getElem?_set_self hlt] at h1
      simp only [Option.some.injEq] at h1
      subst h1
      simp [Blk.mut] at hB
    · rw [List.getElem?_set_ne hij] at h1
      rw [Emb.push_old _ _ (by rw [s.n]; exact h2)] at hc
      exact ⟨j, B, h1, hB, hc⟩
  · simp only [List.length_set] at h1
    subst h1
    subst h2
    rw [← s.n, Emb.push_new] at hc
    exact ⟨i, _, hi, hB, hc⟩

theorem Since.drop {E : Emb} {h : List Blk} (w : World) (i : Nat) : Since E h w E (h.set i .dead) w := by
  refine ⟨by simp, fun _ _ => rfl, Nat.le_refl _, fun _ _ _ => rfl, fun _ _ _ _ => ⟨rfl, fun _ => rfl⟩, fun b o hm _ => ?_, rfl, rfl, rfl, fun _ _ h => h⟩
  obtain ⟨j, B, hj, hB, hc⟩ := hm
  by_cases hij : i = j
  · subst hij
    rw [List.getElem?_set] at hj
    simp only [if_true] at hj
    split at hj
    · simp only [Option.some.injEq] at hj; subst hj; simp [Blk.mut] at hB
    · cases hj
  · rw [List.getElem?_set_ne hij] at hj
    exact ⟨j, B, hj, hB, hc⟩

/-- Looking into a block. -/
theorem Sim.look {E : Emb} {h : List Blk} {w : World} (s : Sim E h w) {i : Nat} {m : Bool} {cs : List Seg} {sp : Nat} (hi : h[i]? = some (.cells m cs sp)) :
    ∃ l, denS E cs l ∧ (∀ j v, l[j]? = some v → w.cell? ⟨(E.f i).1, (E.f i).2 + j, none⟩ = some v) ∧ i < E.n := by
  obtain ⟨_, ⟨l, h1, h2⟩, _⟩ := s.ok i _ hi
  refine ⟨l, h1, h2, ?_⟩
  rw [s.n]
  rcases Nat.lt_or_ge i h.length with h' | h'
  · exact h'
  · rw [List.getElem?_eq_none h'] at hi; cases hi

end Go.Anv

/- The engine, part 2b: '==' of structs and arrays of whole numbers and truth values. Plain lemmas; their condition: what the program's table says of the type. -/
namespace Go.Anv
open Go

/-- What a cell, or a run of cells, is. -/
inductive KS where
  | int (k : IntKind)
  | bool
  | arr (k : IntKind) (n : Nat)

def sizeK : List KS → Nat
  | [] => 0
  | .int _ :: r => sizeK r + 1
  | .bool :: r => sizeK r + 1
  | .arr _ n :: r => n + sizeK r

def fitV : List KS → List Value → Prop
  | [], l => l = []
  | .int k :: r, l => ∃ a l', l = .int k a :: l' ∧ fitV r l'
  | .bool :: r, l => ∃ b l', l = .bool b :: l' ∧ fitV r l'
  | .arr k n :: r, l => ∃ f l', l = intsOf k n f ++ l' ∧ fitV r l'

def cellsEq : List Value → List Value → Bool
  | [], [] => true
  | .int _ a :: r, .int _ b :: r' => (a == b) && cellsEq r r'
  | .bool a :: r, .bool b :: r' => (a == b) && cellsEq r r'
  | _, _ => false

theorem fitV_length : ∀ {ks : List KS} {l : List Value}, fitV ks l → l.length = sizeK ks
  | [], _, h => by simp only [fitV] at h; subst h; rfl
  | .int _ :: r, _, h => by simp only [fitV] at h; obtain ⟨a, l', rfl, h⟩ := h; simp [sizeK, fitV_length h]
  | .bool :: r, _, h => by simp only [fitV] at h; obtain ⟨a, l', rfl, h⟩ := h; simp [sizeK, fitV_length h]
  | .arr _ _ :: r, _, h => by simp only [fitV] at h; obtain ⟨a, l', rfl, h⟩ := h; simp [sizeK, fitV_length h, length_intsOf]

theorem sizeK_append : ∀ a b : List KS, sizeK (a ++ b) = sizeK a + sizeK b
  | [], b => by simp [sizeK]
  | .int _ :: r, b => by simp [sizeK, sizeK_append r b]; omega
  | .bool :: r, b => by simp [sizeK, sizeK_append r b]; omega
  | .arr _ _ :: r, b => by simp [sizeK, sizeK_append r b]; omega

theorem fitV_append : ∀ {a b : List KS} {l : List Value}, fitV (a ++ b) l → ∃ x y, l = x ++ y ∧ fitV a x ∧ fitV b y
  | [], b, l, h => ⟨[], l, rfl, rfl, h⟩
  | .int k :: r, b, l, h => by
    simp only [List.cons_append, fitV] at h
    obtain ⟨a, l', rfl, h⟩ := h
    obtain ⟨x, y, rfl, h1, h2⟩ := fitV_append h
    exact ⟨.int k a :: x, y, rfl, ⟨a, x, rfl, h1⟩, h2⟩
  | .bool :: r, b, l, h => by
    simp only [List.cons_append, fitV] at h
    obtain ⟨a, l', rfl, h⟩ := h
    obtain ⟨x, y, rfl, h1, h2⟩ := fitV_append h
    exact ⟨.bool a :: x, y, rfl, ⟨a, x, rfl, h1⟩, h2⟩
  | .arr k n :: r, b, l, h => by
    simp only [List.cons_append, fitV] at h
    obtain ⟨a, l', rfl, h⟩ := h
    obtain ⟨x, y, rfl, h1, h2⟩ := fitV_append h
    exact ⟨intsOf k n a ++ x, y, by simp, ⟨a, x, rfl, h1⟩, h2⟩

def plainV : Value → Bool
  | .int .. => true
  | .bool _ => true
  | _ => false

theorem cellsEq_append : ∀ {a b c d : List Value}, a.length = b.length → cellsEq (a ++ c) (b ++ d) = (cellsEq a b && cellsEq c d)
  | [], [], c, d, _ => by simp [cellsEq]
  | [], _ :: _, _, _, h => by simp at h
  | _ :: _, [], _, _, h => by simp at h
  | x :: a, y :: b, c, d, h => by
    have ih := cellsEq_append (a := a) (b := b) (c := c) (d := d) (by simpa using h)
    simp only [List.cons_append]
    cases x <;> cases y <;> simp only [cellsEq, ih, Bool.and_assoc, Bool.false_and]

theorem cellsEq_ints (k : IntKind) (n : Nat) (f g : Nat → Int) : cellsEq (intsOf k n f) (intsOf k n g) = (List.range n).all fun j => f j == g j := by
  unfold intsOf
  generalize List.range n = l
  induction l with
  | nil => rfl
  | cons x r ih => simp only [List.map_cons, cellsEq, List.all_cons, ih]

/-- The fields of a struct, one behind the other. -/
def PFn (R : TypeId → Bool → List KS → Prop) : Nat → List Field → List KS → Prop
  | _, [], ks => ks = []
  | o, f :: fs, ks => ∃ ag k1 k2, ks = k1 ++ k2 ∧ f.name ≠ "_" ∧ f.offset = o ∧ R f.type ag k1 ∧ PFn R (o + sizeK k1) fs k2

/-- A type of whole numbers and truth values alone; is it one of several cells? -/
def PTn (P : Program) : Nat → TypeId → Bool → List KS → Prop
  | 0, _, _, _ => False
  | n + 1, t, ag, ks => (∃ k, P.underlying t = some (.int k) ∧ ag = false ∧ ks = [.int k]) ∨ (P.underlying t = some .bool ∧ ag = false ∧ ks = [.bool]) ∨
      (∃ m e k, P.underlying t = some (.array m e) ∧ P.underlying e = some (.int k) ∧ (P.info? e).map (·.size) = some 1 ∧ (P.info? t).map (·.size) = some m ∧ ag = true ∧ ks = [.arr k m]) ∨
      (∃ fs, P.underlying t = some (.struct fs) ∧ P.stoodInHeld t = false ∧ (P.info? t).map (·.size) = some (sizeK ks) ∧ ag = true ∧ PFn (PTn P n) 0 fs.toList ks)

def mkV (ag : Bool) (l : List Value) : Value :=
  match ag, l with
  | true, l => .agg l.toArray
  | false, v :: _ => v
  | false, [] => .bool false

section
variable {P : Program}

theorem PTn.isAgg {n : Nat} {t : TypeId} {ag : Bool} {ks : List KS} (h : PTn P n t ag ks) (w : World) : (Go.isAgg t).run P w = .ok ag w := by
  cases n with
  | zero => exact h.elim
  | succ n =>
    unfold Go.isAgg
    rcases h with ⟨k, h, rfl, _⟩ | ⟨h, rfl, _⟩ | ⟨m, e, k, h, _, _, _, rfl, _⟩ | ⟨fs, h, _, _, rfl, _⟩ <;> simp [run_underlying h]

theorem PTn.size {n : Nat} {t : TypeId} {ks : List KS} (h : PTn P n t true ks) (w : World) : (sizeOf t).run P w = .ok (sizeK ks) w := by
  have key : ∀ {m : Nat}, (P.info? t).map (·.size) = some m → (sizeOf t).run P w = .ok m w := fun {m} h1 => by
    cases hq : P.info? t with
    | none => rw [hq] at h1; cases h1
    | some x =>
      rw [hq] at h1
      simp at h1
      simp [sizeOf, typeInfo, hq, h1]
  cases n with
  | zero => exact h.elim
  | succ n =>
    rcases h with ⟨k, h, h1, _⟩ | ⟨h, h1, _⟩ | ⟨m, e, k, h, _, _, hs, _, rfl⟩ | ⟨fs, h, _, hs, _, _⟩
    · cases h1
    · cases h1
    · simpa [sizeK] using key hs
    · exact key hs

theorem PTn.part {n : Nat} {t : TypeId} {ag : Bool} {ks : List KS} (h : PTn P n t ag ks) (w : World) {pre x post : List Value} (hx : fitV ks x) (xs : Array Value) (he : xs.toList = pre ++ (x ++ post)) :
    (Go.part t xs pre.length).run P w = .ok (mkV ag x) w := by
  have hag := h.isAgg w
  cases ag with
  | true =>
    have hsz := h.size w
    simp only [Go.part, Sem.run_bind, hag, Result.andThen_ok, if_true, hsz, Sem.run_pure, mkV]
    congr 2
    rw [← Array.toList_inj, Array.toList_extract, he, List.extract_eq_take_drop, List.drop_left, Nat.add_sub_cancel_left, ← fitV_length hx, List.take_left]
  | false =>
    have : ∃ v, x = [v] := by
      cases n with
      | zero => exact h.elim
      | succ n =>
        rcases h with ⟨k, h, h1, rfl⟩ | ⟨h, h1, rfl⟩ | ⟨m, e, k, h, _, _, hs, h1, rfl⟩ | ⟨fs, h, _, hs, h1, _⟩
        · obtain ⟨a, l', rfl, rfl⟩ := hx; exact ⟨_, rfl⟩
        · obtain ⟨a, l', rfl, rfl⟩ := hx; exact ⟨_, rfl⟩
        · cases h1
        · cases h1
    obtain ⟨v, rfl⟩ := this
    have hg : xs[pre.length]? = some v := by
      rw [← Array.getElem?_toList, he, List.getElem?_append_right (Nat.le_refl _)]
      simp
    simp [Go.part, hag, hg, mkV]

theorem PTn.eq : ∀ (n : Nat) {t : TypeId} {ag : Bool} {ks : List KS}, PTn P n t ag ks → ∀ {x y : List Value}, fitV ks x → fitV ks y → ∀ (d : Nat) (w : World), n < d → (Op.equalIn d t (mkV ag x) (mkV ag y)).run P w = .ok (cellsEq x y) w
  | 0, _, _, _, h, _, _, _, _, _, _, _ => h.elim
  | n + 1, t, ag, ks, h, x, y, hx, hy, 0, w, hd => by omega
  | n + 1, t, ag, ks, h, x, y, hx, hy, d + 1, w, hd => by
    rcases h with ⟨k, h, rfl, rfl⟩ | ⟨h, rfl, rfl⟩ | ⟨m, e, k, h, h1, h2, h3, rfl, rfl⟩ | ⟨fs, h, h1, h2, rfl, h3⟩
    · obtain ⟨a, _, rfl, rfl⟩ := hx
      obtain ⟨b, _, rfl, rfl⟩ := hy
      simp only [mkV, cellsEq, Bool.and_true]
      exact run_equalIn_int w d t k k a b h
    · obtain ⟨a, _, rfl, rfl⟩ := hx
      obtain ⟨b, _, rfl, rfl⟩ := hy
      simp only [mkV, cellsEq, Bool.and_true]
      exact run_equalIn_bool' w d t a b h
    · obtain ⟨f, _, rfl, rfl⟩ := hx
      obtain ⟨g, _, rfl, rfl⟩ := hy
      simp only [List.append_nil, mkV, cellsEq_ints]
      have heq : ∀ (a b : Int) (w : World), (Op.equalIn d e (.int k a) (.int k b)).run P w = .ok (a == b) w := fun a b w => by
        obtain ⟨d, rfl⟩ : ∃ d', d = d' + 1 := ⟨d - 1, by omega⟩
        exact run_equalIn_int w d e k k a b h1
      have hsz : ∀ w, (sizeOf e).run P w = .ok 1 w := fun w => by
        cases hq : P.info? e with
        | none => rw [hq] at h2; cases h2
        | some x =>
          rw [hq] at h2
          simp at h2
          simp [sizeOf, typeInfo, hq, h2]
      have hag : ∀ w, (Go.isAgg e).run P w = .ok false w := fun w => by
        unfold Go.isAgg
        simp [run_underlying h1]
      have hpart : ∀ (f : Nat → Int) (i : Nat) (w : World), i < m → (Go.part e (intsOf k m f).toArray (i * 1)).run P w = .ok (.int k (f i)) w := fun f i w hi => by
        have hg : (intsOf k m f).toArray[i]? = some (.int k (f i)) := by simpa using intsOf_get hi
        simp [Go.part, hag, hg]
      simp only [Op.equalIn, Sem.run_bind, run_underlying h, Result.andThen_ok, hsz]
      rw [Std.Legacy.Range.forIn_eq_forIn_range']
      have loop : ∀ (c i : Nat) (w : World), i + c = m → (Sem.run P (forIn (List.range' i c 1) (none, PUnit.unit) fun i r => do
            if (!(← Op.equalIn d e (← Go.part e (intsOf k m f).toArray (i * 1)) (← Go.part e (intsOf k m g).toArray (i * 1)))) = true then pure (ForInStep.done (some false, PUnit.unit))
            else pure (ForInStep.yield (none, PUnit.unit))) w) =
          .ok (if (List.range' i c).all (fun j => f j == g j) then (none, PUnit.unit) else (some false, PUnit.unit)) w := by
        intro c
        induction c with
        | zero => intro i w _; simp
        | succ c ih =>
          intro i w hi
          have he := heq (f i) (g i) w
          rw [List.range'_succ, List.forIn_cons]
          simp only [Sem.run_bind, hpart f i _ (by omega), hpart g i _ (by omega), Result.andThen_ok, he]
          by_cases hfg : f i = g i
          · have hb : (f i == g i) = true := by simpa using hfg
            simp only [hb, Bool.not_true, Bool.false_eq_true, if_false, Sem.run_pure, Result.andThen_ok, List.all_cons, Bool.true_and]
            exact ih (i + 1) w (by omega)
          · have hb : (f i == g i) = false := by simpa using hfg
            simp only [hb, Bool.not_false, if_true, Sem.run_pure, Result.andThen_ok, List.all_cons, Bool.false_and, Bool.false_eq_true, if_false]
      have h4 := loop m 0 w (by omega)
      have h5 : [:m].size = m := by simp [Std.Legacy.Range.size]
      rw [h5]
      refine (congrArg (fun r => Result.andThen r _) h4).trans ?_
      rw [List.range_eq_range']
      cases hall : (List.range' 0 m).all (fun j => f j == g j) <;> simp
    · have hft : P.fieldsOf t = fs := by simp [Program.fieldsOf, h]
      have key : ∀ (fs : List Field) (o : Nat) (ks : List KS) (px py x y : List Value), PFn (PTn P n) o fs ks → fitV ks x → fitV ks y → px.length = o → py.length = o → ∀ xs ys : Array Value, xs.toList = px ++ x → ys.toList = py ++ y →
          ∀ w, (Op.eqFields d xs ys fs).run P w = .ok (cellsEq x y) w := by
        intro fs
        induction fs with
        | nil =>
          intro o ks px py x y hf hx hy _ _ xs ys _ _ w
          simp only [PFn] at hf
          subst hf
          simp only [fitV] at hx hy
          subst hx hy
          simp [Op.eqFields, cellsEq]
        | cons f fs ih =>
          intro o ks px py x y hf hx hy hpx hpy xs ys hxs hys w
          simp only [PFn] at hf
          obtain ⟨ag, k1, k2, rfl, hn, ho, ht, hf⟩ := hf
          obtain ⟨x1, x2, rfl, hx1, hx2⟩ := fitV_append hx
          obtain ⟨y1, y2, rfl, hy1, hy2⟩ := fitV_append hy
          have p1 := ht.part w hx1 xs hxs
          have p2 := ht.part w hy1 ys hys
          have he := PTn.eq n ht hx1 hy1 d w (by omega)
          rw [hpx] at p1
          rw [hpy] at p2
          have l1 := fitV_length hx1
          have l2 := fitV_length hy1
          have hrest := ih (o + sizeK k1) k2 (px ++ x1) (py ++ y1) x2 y2 hf hx2 hy2 (by simp [hpx, l1]) (by simp [hpy, l2]) xs ys (by simpa using hxs) (by simpa using hys) w
          rw [cellsEq_append (by rw [l1, l2])]
          simp only [Op.eqFields, if_pos hn, Sem.run_bind, ho, p1, p2, Result.andThen_ok, he]
          cases hc : cellsEq x1 y1 with
          | true => simpa using hrest
          | false => simp
      simp only [mkV]
      rw [run_equalIn_struct (P := P) w d t _ _ (by rw [hft]; exact h) h1, hft]
      exact key fs.toList 0 ks [] [] x y h3 hx hy rfl rfl _ _ rfl rfl w

end

end Go.Anv

/- The engine, part 3: how a piece of code is walked over a small world: the walker 'wpx' says what is left to be shown. Definitions alone. -/
namespace Go.Anv
open Go

/-! ### types -/

inductive TD where
  | int (k : IntKind)
  | bool
  | str
  | ptr (e : TypeId)
  | slice (e : TypeId)
  | array (n : Nat) (e : TypeId)
  | struct (fs : List (TypeId × Nat))
  | map (k e : TypeId)
  | iface
  | other
  | uptr

structure TI where
  d : TD
  size : Nat
  bytes : Nat
  zero : EV

def TD.agg : TD → Bool
  | .array .. => true
  | .struct _ => true
  | _ => false

def descOk (P : Program) (t : TypeId) : TD → Prop
  | .int k => P.underlying t = some (.int k)
  | .bool => P.underlying t = some .bool
  | .str => P.underlying t = some .string
  | .ptr e => P.underlying t = some (.pointer e)
  | .slice e => P.underlying t = some (.slice e)
  | .array n e => P.underlying t = some (.array n e)
  | .struct fs => ∃ a, P.underlying t = some (.struct a) ∧ a.toList.map (fun f => (f.type, f.offset)) = fs
  | .map k e => P.underlying t = some (.map k e)
  | .iface => ∃ ms, P.underlying t = some (.interface ms)
  | .uptr => P.underlying t = some .unsafePointer
  | .other => ∃ ps rs v, P.underlying t = some (.func ps rs v)

/-- A value without addresses, written out. -/
def valV : SV → Option Value
  | .int k n => some (.int k n)
  | .bool b => some (.bool b)
  | .str s => some (.string s)
  | .nilptr => some (.pointer none)
  | .nilslice => some (.slice none 0 0)
  | .nilmap => some (.map none)
  | .nilfunc => some .nilFunc
  | .niliface => some .nilIface
  | _ => none

def valS : List Seg → Option (List Value)
  | [] => some []
  | .one v :: r => match valV v, valS r with
    | some x, some l => some (x :: l)
    | _, _ => none
  | .ints k n f :: r => match valS r with
    | some l => some (intsOf k n f ++ l)
    | none => none

def valE : EV → Option Value
  | .s v => valV v
  | .agg cs => match valS cs with
    | some l => some (.agg l.toArray)
    | none => none
  | _ => none

structure TIok (P : Program) (t : TypeId) (i : TI) : Prop where
  desc : descOk P t i.d
  size : (P.info? t).map (·.size) = some i.size
  bytes : (P.info? t).map (·.bytes) = some i.bytes
  zero : ∃ z, valE i.zero = some z ∧ (P.info? t).bind (·.zero) = some z

def sameK : IntKind → IntKind → Bool
  | .i8, .i8 | .i16, .i16 | .i32, .i32 | .i64, .i64 | .u8, .u8 | .u16, .u16 | .u32, .u32 | .u64, .u64 => true
  | _, _ => false

/-- Cell by cell: are they the same? none: not to be told. -/
def eqCells : List Value → List Value → Option Bool
  | [], [] => some true
  | .int k a :: r, .int k' b :: r' => if sameK k k' then (eqCells r r').map ((a == b) && ·) else none
  | .bool a :: r, .bool b :: r' => (eqCells r r').map ((a == b) && ·)
  | _, _ => none

/-- What the walker knows of a program: its types; its methods by name; which types are compared cell by cell. -/
structure Tbl where
  P : Program
  ty : TypeId → Option TI
  mth : TypeId → String → Option FuncId
  eqs : TypeId → Option (List KS)
  mixed : P.follows .mixedOrders = true
  tyOk : ∀ t i, ty t = some i → TIok P t i
  eqOk : ∀ t ks, eqs t = some ks → P.eqGuardType P.depth t = false ∧ ∃ n, n < 10000 ∧ PTn P n t true ks
  mthOk : ∀ t s f, mth t s = some f → ∀ a w, (method (P.types.size + Made.depth) t (.pointer (some a)) s).run P w = .ok (f, .pointer (some a)) w ∧ (nilAhead (P.types.size + Made.depth) t (.pointer (some a)) s).run P w = .ok (some false) w

/-- A table of types, sixteen a row. -/
def rowT : List (List (Option TI)) → Nat → List (Option TI)
  | [], _ => []
  | x :: _, 0 => x
  | _ :: r, n + 1 => rowT r n

def colT : List (Option TI) → Nat → Option TI
  | [], _ => none
  | x :: _, 0 => x
  | _ :: r, n + 1 => colT r n

def tblT (l : List (List (Option TI))) (t : TypeId) : Option TI := colT (rowT l (t / 16)) (t % 16)

def okC (P : Program) : Nat → List (Option TI) → Prop
  | _, [] => True
  | t, none :: r => okC P (t + 1) r
  | t, some i :: r => TIok P t i ∧ okC P (t + 1) r

def okR (P : Program) : Nat → List (List (Option TI)) → Prop
  | _, [] => True
  | n, x :: r => okC P (16 * n) x ∧ okR P (n + 1) r

theorem okC_get {P : Program} : ∀ {l : List (Option TI)} {t j : Nat} {i : TI}, okC P t l → colT l j = some i → TIok P (t + j) i
  | [], _, _, _, _, h => by simp [colT] at h
  | none :: _, _, 0, _, _, h => by simp [colT] at h
  | some x :: _, _, 0, _, h1, h => by simp only [colT, Option.some.injEq] at h; subst h; exact h1.1
  | none :: r, t, j + 1, i, h1, h => by
    have := okC_get (l := r) (t := t + 1) (j := j) (i := i) h1 h
    rwa [show t + (j + 1) = t + 1 + j by omega]
  | some x :: r, t, j + 1, i, h1, h => by
    have := okC_get (l := r) (t := t + 1) (j := j) (i := i) h1.2 h
    rwa [show t + (j + 1) = t + 1 + j by omega]

theorem okR_get {P : Program} : ∀ {l : List (List (Option TI))} {n q j : Nat} {i : TI}, okR P n l → colT (rowT l q) j = some i → TIok P (16 * (n + q) + j) i
  | [], _, _, _, _, _, h => by simp [rowT, colT] at h
  | x :: _, n, 0, j, i, h1, h => okC_get h1.1 h
  | _ :: r, n, q + 1, j, i, h1, h => by
    have := okR_get (l := r) (n := n + 1) (q := q) (j := j) (i := i) h1.2 h
    rwa [show n + (q + 1) = n + 1 + q by omega]

theorem tblT_ok {P : Program} {l : List (List (Option TI))} (h : okR P 0 l) (t : TypeId) (i : TI) (ht : tblT l t = some i) : TIok P t i := by
  have := okR_get h ht
  rwa [Nat.zero_add, Nat.div_add_mod] at this

/-- Which types are compared cell by cell. -/
def eqL : List (Nat × List KS) → TypeId → Option (List KS)
  | [], _ => none
  | (u, ks) :: r, t => bif Nat.beq u t then some ks else eqL r t

def okE (P : Program) : List (Nat × List KS) → Prop
  | [] => True
  | (u, ks) :: r => (P.eqGuardType P.depth u = false ∧ ∃ n, n < 10000 ∧ PTn P n u true ks) ∧ okE P r

theorem eqL_ok {P : Program} : ∀ {l : List (Nat × List KS)}, okE P l → ∀ t ks, eqL l t = some ks → P.eqGuardType P.depth t = false ∧ ∃ n, n < 10000 ∧ PTn P n t true ks
  | [], _, _, _, h => by simp [eqL] at h
  | (u, k) :: r, ho, t, ks, h => by
    simp only [eqL] at h
    cases hb : Nat.beq u t with
    | true =>
      rw [hb] at h
      have := Nat.eq_of_beq_eq_true hb
      subst this
      simp only [cond_true, Option.some.injEq] at h
      subst h
      exact ho.1
    | false =>
      rw [hb] at h
      exact eqL_ok ho.2 t ks h

/-- Methods by type and name: which function. -/
def nameL : List (String × FuncId) → String → Option FuncId
  | [], _ => none
  | (n, f) :: r, s => if n = s then some f else nameL r s

def mthL : List (Nat × List (String × FuncId)) → TypeId → String → Option FuncId
  | [], _, _ => none
  | (u, l) :: r, t, s => bif Nat.beq u t then nameL l s else mthL r t s

def okN (P : Program) (t : TypeId) : List (String × FuncId) → Prop
  | [] => True
  | (n, f) :: r => (∃ m, (P.info? t).bind (fun i => i.methods.find? (·.name == n)) = some m ∧ m.path.toList = [] ∧ m.func = some (f, true)) ∧ okN P t r

def okM (P : Program) : List (Nat × List (String × FuncId)) → Prop
  | [] => True
  | (t, l) :: r => ((∃ e, P.underlying t = some (.pointer e)) ∧ okN P t l) ∧ okM P r

theorem nameL_ok {P : Program} {t : TypeId} : ∀ {l : List (String × FuncId)}, okN P t l → ∀ s f, nameL l s = some f → ∃ m, (P.info? t).bind (fun i => i.methods.find? (·.name == s)) = some m ∧ m.path.toList = [] ∧ m.func = some (f, true)
  | [], _, _, _, h => by simp [nameL] at h
  | (n, f) :: r, ho, s, g, h => by
    simp only [nameL] at h
    split at h
    · rename_i hn
      subst hn
      simp only [Option.some.injEq] at h
      subst h
      exact ho.1
    · exact nameL_ok ho.2 s g h

theorem mthL_ok {P : Program} : ∀ {l : List (Nat × List (String × FuncId))}, okM P l → ∀ t s f, mthL l t s = some f → ∀ a w, (method (P.types.size + Made.depth) t (.pointer (some a)) s).run P w = .ok (f, .pointer (some a)) w ∧ (nilAhead (P.types.size + Made.depth) t (.pointer (some a)) s).run P w = .ok (some false) w
  | [], _, _, _, _, h => by simp [mthL] at h
  | (u, l) :: r, ho, t, s, f, h => by
    simp only [mthL] at h
    cases hb : Nat.beq u t with
    | true =>
      rw [hb] at h
      have := Nat.eq_of_beq_eq_true hb
      subst this
      simp only [cond_true] at h
      obtain ⟨⟨e, hu⟩, hn⟩ := ho.1
      obtain ⟨m, h1, h2, h3⟩ := nameL_ok hn s f h
      intro a w
      obtain ⟨i, hi, hm⟩ := Option.bind_eq_some_iff.1 h1
      show (method ((P.types.size + 99) + 1) u (.pointer (some a)) s).run P w = _ ∧ (nilAhead ((P.types.size + 99) + 1) u (.pointer (some a)) s).run P w = _
      generalize P.types.size + 99 = N
      constructor
      · simp only [method, typeInfo, Sem.run_bind, run_program, Result.andThen_ok, hi, hm, h2, follow, Sem.run_pure, h3, receiverAt, run_underlying hu, Place.get]
      · simp only [nilAhead, typeInfo, Sem.run_bind, run_program, Result.andThen_ok, hi, hm, h2, followBlind, Sem.run_pure, h3]
    | false =>
      rw [hb] at h
      exact mthL_ok ho.2 t s f h

/-! ### states -/

structure St where
  tmps : List EV
  heap : List Blk

def nth : List EV → Nat → EV
  | [], _ => .junk
  | x :: _, 0 => x
  | _ :: r, n + 1 => nth r n

def upd : List EV → Nat → EV → List EV
  | [], _, _ => []
  | _ :: r, 0, v => v :: r
  | x :: r, n + 1, v => x :: upd r n v

def updB : List Blk → Nat → Blk → List Blk
  | [], _, _ => []
  | _ :: r, 0, v => v :: r
  | x :: r, n + 1, v => x :: updB r n v

def nthB : List Blk → Nat → Option Blk
  | [], _ => none
  | x :: _, 0 => some x
  | _ :: r, n + 1 => nthB r n

def St.put (s : St) (dst : Option Tmp) (v : EV) : St :=
  match dst with
  | some d => { s with tmps := upd s.tmps d v }
  | none => s

def constV : Value → Option SV
  | .bool b => some (.bool b)
  | .int k n => some (.int k n)
  | .string s => some (.str s)
  | .pointer none => some .nilptr
  | .slice none 0 0 => some .nilslice
  | .map none => some .nilmap
  | .nilFunc => some .nilfunc
  | .nilIface => some .niliface
  | _ => none

def evT (ts : List EV) : Operand → EV
  | .tmp t => nth ts t
  | .const v => match constV v with
    | some e => .s e
    | none => .junk
  | .global _ => .junk
  | .func f => .s (.func (.func f) [] [])

def St.ev (s : St) (x : Operand) : EV := evT s.tmps x

/-! ### operations without effect -/

inductive PR where
  | fail
  | ok (v : EV)
  | need (p : Prop) (v : EV)

def bitX (op : BinOp) (k : IntKind) (x y : Int) : Int :=
  let a := BitVec.ofInt k.bits x
  let b := BitVec.ofInt k.bits y
  k.wrap (match op with
    | .and => (a &&& b).toNat
    | .or => (a ||| b).toNat
    | .xor => (a ^^^ b).toNat
    | _ => (a &&& ~~~b).toNat)

def intX (op : BinOp) (k : IntKind) (a b : Int) : PR :=
  match op with
  | .add => .ok (.s (.int k (k.wrap (a + b))))
  | .sub => .ok (.s (.int k (k.wrap (a - b))))
  | .mul => .ok (.s (.int k (k.wrap (a * b))))
  | .quo => .need (b ≠ 0) (.s (.int k (k.wrap (a.tdiv b))))
  | .rem => .need (b ≠ 0) (.s (.int k (a.tmod b)))
  | .and => .ok (.s (.int k (bitX .and k a b)))
  | .or => .ok (.s (.int k (bitX .or k a b)))
  | .xor => .ok (.s (.int k (bitX .xor k a b)))
  | .andNot => .ok (.s (.int k (bitX .andNot k a b)))
  | .eql => .ok (.s (.bool (a == b)))
  | .neq => .ok (.s (.bool (a != b)))
  | .lss => .ok (.s (.bool (decide (a < b))))
  | .leq => .ok (.s (.bool (decide (a ≤ b))))
  | .gtr => .ok (.s (.bool (decide (a > b))))
  | .geq => .ok (.s (.bool (decide (a ≥ b))))
  | _ => .fail

/-- Are these cells such as a type has? -/
def fitS : List KS → List Seg → Bool
  | [], [] => true
  | .int k :: r, .one (.int k' _) :: s => sameK k k' && fitS r s
  | .bool :: r, .one (.bool _) :: s => fitS r s
  | .arr k n :: r, .ints k' m _ :: s => (sameK k k' && Nat.beq n m) && fitS r s
  | _, _ => false

/-- Cell by cell: are they the same? none: not to be told. -/
def eqSeg : List Seg → List Seg → Option Bool
  | [], [] => some true
  | .one (.int k a) :: r, .one (.int k' b) :: r' => if sameK k k' then (eqSeg r r').map ((a == b) && ·) else none
  | .one (.bool a) :: r, .one (.bool b) :: r' => (eqSeg r r').map ((a == b) && ·)
  | .ints k n f :: r, .ints k' m g :: r' => if sameK k k' && n == m then (eqSeg r r').map (((List.range n).all fun j => f j == g j) && ·) else none
  | _, _ => none

def binX (T : Tbl) (op : BinOp) (t : TypeId) (x y : EV) : PR :=
  match x, y with
  | .s (.int k a), .s (.int k' b) =>
    match op with
    | .shl => .need (0 ≤ b) (.s (.int k (k.wrap (a * 2 ^ (min b.toNat k.bits)))))
    | .shr => .need (0 ≤ b) (.s (.int k (a.fdiv (2 ^ (min b.toNat k.bits)))))
    | op => if sameK k k' then intX op k a b else .fail
  | .s (.bool a), .s (.bool b) =>
    match op, T.ty t with
    | .eql, some { d := .bool, .. } => .ok (.s (.bool (a == b)))
    | .neq, some { d := .bool, .. } => .ok (.s (.bool (!(a == b))))
    | _, _ => .fail
  | .s (.str a), .s (.str b) =>
    match op with
    | .eql => .ok (.s (.bool (a == b)))
    | .neq => .ok (.s (.bool (a != b)))
    | .add => .need (a.size + b.size ≤ 9223372036854775807) (.s (.str (a ++ b)))
    | _ => .fail
  | .agg a, .agg b =>
    match T.eqs t with
    | some ks => match fitS ks a && fitS ks b, op, eqSeg a b with
      | true, .eql, some r => .ok (.s (.bool r))
      | true, .neq, some r => .ok (.s (.bool (!r)))
      | _, _, _ => .fail
    | none => .fail
  | .s (.ptr _ _), .s .nilptr =>
    match op, T.ty t with
    | .eql, some { d := .ptr _, .. } => .ok (.s (.bool false))
    | .neq, some { d := .ptr _, .. } => .ok (.s (.bool true))
    | _, _ => .fail
  | .s .nilptr, .s .nilptr =>
    match op, T.ty t with
    | .eql, some { d := .ptr _, .. } => .ok (.s (.bool true))
    | .neq, some { d := .ptr _, .. } => .ok (.s (.bool false))
    | _, _ => .fail
  | .s (.slice _ _ _ _), .s .nilslice =>
    match op, T.ty t with
    | .eql, some { d := .slice _, .. } => .ok (.s (.bool false))
    | .neq, some { d := .slice _, .. } => .ok (.s (.bool true))
    | _, _ => .fail
  | .s .nilslice, .s .nilslice =>
    match op, T.ty t with
    | .eql, some { d := .slice _, .. } => .ok (.s (.bool true))
    | .neq, some { d := .slice _, .. } => .ok (.s (.bool false))
    | _, _ => .fail
  | .s (.func _ _ _), .s .nilfunc =>
    match op, T.ty t with
    | .eql, some { d := .other, .. } => .ok (.s (.bool false))
    | .neq, some { d := .other, .. } => .ok (.s (.bool true))
    | _, _ => .fail
  | .s .nilfunc, .s .nilfunc =>
    match op, T.ty t with
    | .eql, some { d := .other, .. } => .ok (.s (.bool true))
    | .neq, some { d := .other, .. } => .ok (.s (.bool false))
    | _, _ => .fail
  | _, _ => .fail

def cnst : Operand → Bool
  | .const _ => true
  | _ => false

/-- Of two values of an interface type, one of them nil. 'c': one is written out. -/
def binY (T : Tbl) (c : Bool) (op : BinOp) (t : TypeId) (x y : EV) : PR :=
  match x, y with
  | .s (.iface _ _ _), .s .niliface =>
    match op, T.ty t with
    | .eql, some { d := .iface, .. } => .ok (.s (.bool false))
    | .neq, some { d := .iface, .. } => .ok (.s (.bool true))
    | _, _ => .fail
  | .s .niliface, .s .niliface =>
    match op, T.ty t, c with
    | .eql, some { d := .iface, .. }, true => .ok (.s (.bool true))
    | .neq, some { d := .iface, .. }, true => .ok (.s (.bool false))
    | _, _, _ => .fail
  | x, y => binX T op t x y

def unX (op : UnOp) (x : EV) : PR :=
  match op, x with
  | .not, .s (.bool b) => .ok (.s (.bool (!b)))
  | .neg, .s (.int k n) => .ok (.s (.int k (k.wrap (0 - n))))
  | .xor, .s (.int k n) => .ok (.s (.int k (bitX .xor k (if k.signed then -1 else k.max) n)))
  | _, _ => .fail

/-- What a slice or a string yields, element by element: under which condition, how many, the cells. -/
structure Rng where
  p : Prop
  n : Nat
  cs : List Seg

def strF (s : ByteArray) (j : Nat) : Int := (((s.data.toList.map UInt8.toNat).getD j 0 : Nat) : Int)

def shf (o : Nat) (f : Nat → Int) (j : Nat) : Int := f (o + j)

def rngAt (h : List Blk) (size b o n : Nat) : Option Rng :=
  match nthB h b with
  | some (.cells _ [.ints k m f] _) => match size with
    | 1 => some ⟨o + n ≤ m, n, [.ints k n (shf o f)]⟩
    | _ => none
  | some (.cells _ cs _) => match o with
    | 0 => some ⟨sizeS cs = n * size, n, cs⟩
    | _ => none
  | _ => none

def rngX (h : List Blk) (size : Nat) : EV → Option Rng
  | .s .nilslice => some ⟨True, 0, []⟩
  | .s (.str s) => match size with
    | 1 => some ⟨True, s.size, [.ints .u8 s.size (strF s)]⟩
    | _ => none
  | .s (.slice b o n _) => rngAt h size b o n
  | .s (.gs b o n _) => rngAt h size b o n
  | _ => none

def isStr : EV → Bool
  | .s (.str _) => true
  | _ => false

/-- The string of some bytes. -/
def bytesOf (n : Nat) (f : Nat → Int) : ByteArray := ((List.range n).map f).foldl (fun r x => r.push (UInt8.ofNat x.toNat)) ByteArray.empty

def convX (T : Tbl) (h : List Blk) (src dst : TypeId) (x : EV) : PR :=
  match T.ty src, T.ty dst with
  | some { d := .int _, .. }, some { d := .int k, .. } => match x with
    | .s (.int _ n) => .ok (.s (.int k (k.wrap n)))
    | _ => .fail
  | some { d := .slice e, .. }, some { d := .str, .. } => match T.ty e with
    | some { d := .int .u8, .. } => match isStr x, rngX h 1 x with
      | false, some ⟨p, n, []⟩ => .need (p ∧ n = 0) (.s (.str ByteArray.empty))
      | false, some ⟨p, n, [.ints .u8 _ f]⟩ => .need p (.s (.str (bytesOf n f)))
      | _, _ => .fail
    | _ => .fail
  | _, _ => .fail

def boundX : Option EV → Nat → Option Int
  | none, d => some d
  | some (.s (.int _ i)), _ => some i
  | _, _ => none

def skip (m l o size : Nat) : Nat := if m = l then o else o + l * size

/-- A slice of a slice, its room told. -/
def sliceMX (T : Tbl) (t : TypeId) (x : EV) (lo hi : Option EV) (mx : EV) : PR :=
  match mx, hi with
  | .s (.int _ m), some (.s (.int _ h)) => match T.ty t, x with
    | some { d := .slice e, .. }, .s (.slice b o _ c) => match T.ty e, boundX lo 0 with
      | some te, some l => .need (0 ≤ l ∧ l ≤ h ∧ h ≤ m ∧ m ≤ c) (.s (.slice b (skip m.toNat l.toNat o te.size) (h.toNat - l.toNat) (m.toNat - l.toNat)))
      | _, _ => .fail
    | some { d := .slice e, .. }, .s (.gs b o _ c) => match T.ty e, boundX lo 0 with
      | some te, some l => .need (0 ≤ l ∧ l ≤ h ∧ h ≤ m ∧ m ≤ c) (.s (.gs b (skip m.toNat l.toNat o te.size) (h.toNat - l.toNat) (m.toNat - l.toNat)))
      | _, _ => .fail
    | _, _ => .fail
  | _, _ => .fail

/-- A slice of a slice or of a string. -/
def sliceX (T : Tbl) (t : TypeId) (x : EV) (lo hi mx : Option EV) : PR :=
  match mx with
  | some m => sliceMX T t x lo hi m
  | none => match T.ty t, x with
    | some { d := .str, .. }, .s (.str s) => match boundX lo 0, boundX hi s.size with
      | some l, some h => .need (0 ≤ l ∧ l ≤ h ∧ h ≤ s.size) (.s (.str (s.extract l.toNat h.toNat)))
      | _, _ => .fail
    | some { d := .slice e, .. }, .s (.slice b o n c) => match T.ty e, boundX lo 0, boundX hi n with
      | some te, some l, some h => .need (0 ≤ l ∧ l ≤ h ∧ h ≤ c) (.s (.slice b (skip c l.toNat o te.size) (h.toNat - l.toNat) (c - l.toNat)))
      | _, _, _ => .fail
    | some { d := .slice e, .. }, .s (.gs b o n c) => match T.ty e, boundX lo 0, boundX hi n with
      | some te, some l, some h => .need (0 ≤ l ∧ l ≤ h ∧ h ≤ c) (.s (.gs b (skip c l.toNat o te.size) (h.toNat - l.toNat) (c - l.toNat)))
      | _, _, _ => .fail
    | _, _ => .fail

/-- A pick of two values that are there (or would be, were they asked for). -/
def pickX (t : Bool) (a b : EV) : PR :=
  match a, b with
  | .s (.bool x), .s (.bool y) => .ok (.s (.bool (bif t then x else y)))
  | .gd g (.s (.bool x)), .s (.bool y) => .need (t = true → g = true) (.s (.bool (bif t then x else y)))
  | .s (.bool x), .gd g (.s (.bool y)) => .need (t = false → g = true) (.s (.bool (bif t then x else y)))
  | .s (.int k x), .s (.int k' y) => if sameK k k' then .ok (.s (.int k (bif t then x else y))) else .fail
  | .gd g (.s (.int k x)), .s (.int k' y) => if sameK k k' then .need (t = true → g = true) (.s (.int k (bif t then x else y))) else .fail
  | .s (.int k x), .gd g (.s (.int k' y)) => if sameK k k' then .need (t = false → g = true) (.s (.int k (bif t then x else y))) else .fail
  | .junk, .s (.bool y) => .need (t = false) (.s (.bool y))
  | .s (.bool x), .junk => .need (t = true) (.s (.bool x))
  | .junk, .s (.int k y) => .need (t = false) (.s (.int k y))
  | .s (.int k x), .junk => .need (t = true) (.s (.int k x))
  | _, _ => .fail

def fieldOf : List (TypeId × Nat) → Nat → Option (TypeId × Nat)
  | [], _ => none
  | x :: _, 0 => some x
  | _ :: r, n + 1 => fieldOf r n

/-- The address of a field. -/
def fieldAddrX (T : Tbl) (t : TypeId) (x : EV) (i : Nat) : PR :=
  match T.ty t with
  | some { d := .struct fs, .. } =>
    match fieldOf fs i with
    | some (ft, off) =>
      match T.ty ft with
      | some { size := _ + 1, .. } =>
        match x with
        | .s (.ptr b o) => .ok (.s (.ptr b (o + off)))
        | .s (.pix b o j) => if off = 0 then .ok (.s (.pix b o j)) else .fail
        | _ => .fail
      | _ => .fail
    | none => .fail
  | _ => .fail

/-- Part of a struct's or an array's cells. -/
def partX (T : Tbl) (t : TypeId) (cs : List Seg) (off : Nat) : PR :=
  match T.ty t with
  | some i => if i.d.agg then
      match dropS cs off with
      | some r => match takeS r i.size with
        | some c => .ok (.agg c)
        | none => .fail
      | none => .fail
    else match getS cs off with
      | some v => .ok (.s v)
      | none => .fail
  | none => .fail

def fieldX (T : Tbl) (t : TypeId) (x : EV) (i : Nat) : PR :=
  match T.ty t, x with
  | some { d := .struct fs, .. }, .agg cs =>
    match fieldOf fs i with
    | some (ft, off) => partX T ft cs off
    | none => .fail
  | _, _ => .fail

/-- The address of an element. -/
def indexAddrX (T : Tbl) (h : List Blk) (t : TypeId) (x i : EV) : PR :=
  match T.ty t, x, i with
  | some { d := .array n e, .. }, .s (.ptr b o), .s (.int _ i) =>
    match T.ty e, nthB h b with
    | some te, some (.cells _ cs _) =>
      match getI cs o with
      | some (_, _, _) => if te.size = 1 then .need (0 ≤ i ∧ i < n) (.s (.pix b o i.toNat)) else .fail
      | none => .need (0 ≤ i ∧ i < n) (.s (.ptr b (o + i.toNat * te.size)))
    | _, _ => .fail
  | some { d := .slice e, .. }, .s (.slice b o len _), .s (.int _ i) =>
    match T.ty e, nthB h b with
    | some te, some (.cells _ cs _) =>
      match getI cs 0 with
      | some (_, _, _) => if te.size = 1 then .need (0 ≤ i ∧ i < len) (.s (.pix b 0 (o + i.toNat))) else .fail
      | none => .need (0 ≤ i ∧ i < len) (.s (.ptr b (o + i.toNat * te.size)))
    | _, _ => .fail
  | some { d := .slice e, .. }, .s (.gs b o len _), .s (.int _ i) =>
    match T.ty e, nthB h b with
    | some te, some (.cells _ cs _) =>
      match getI cs 0 with
      | some (_, _, _) => if te.size = 1 then .need (0 ≤ i ∧ i < len) (.s (.pix b 0 (o + i.toNat))) else .fail
      | none => .need (0 ≤ i ∧ i < len) (.s (.ptr b (o + i.toNat * te.size)))
    | _, _ => .fail
  | _, _, _ => .fail

def loadX (T : Tbl) (h : List Blk) (t : TypeId) (x : EV) : PR :=
  match T.ty t, x with
  | some i, .s (.ptr b o) =>
    match nthB h b with
    | some (.cells _ cs _) => if i.d.agg then
        match dropS cs o with
        | some r => match takeS r i.size with
          | some c => .ok (.agg c)
          | none => .fail
        | none => .fail
      else match getS cs o with
        | some v => .ok (.s v)
        | none => .fail
    | _ => .fail
  | some i, .s (.pix b o j) =>
    match nthB h b with
    | some (.cells _ cs _) => if i.d.agg then .fail else
      match getI cs o with
      | some (k, n, f) => .need (j < n) (.s (.int k (f j)))
      | none => .fail
    | _ => .fail
  | _, _ => .fail

def nthE : List EV → Nat → Option EV
  | [], _ => none
  | x :: _, 0 => some x
  | _ :: r, n + 1 => nthE r n

def svs : List EV → Option (List SV)
  | [] => some []
  | .s v :: r => (svs r).map (v :: ·)
  | _ => none

/-- The cells of segments, one by one (where it is told how many). -/
def flat : List Seg → Option (List SV)
  | [] => some []
  | .one v :: r => (flat r).map (v :: ·)
  | .ints k n f :: r => (flat r).map (((List.range n).map fun j => .int k (f j)) ++ ·)

/-- A value that is surely there. -/
def nilX (T : Tbl) : EV → PR
  | .s (.ptr b o) => .ok (.s (.ptr b o))
  | .s (.pix b o i) => .ok (.s (.pix b o i))
  | .s (.func (.func f) a c) => .ok (.s (.func (.func f) a c))
  | .s (.func (.method m) (.iface t false [.ptr b o] :: a) c) => match T.mth t m with
    | some _ => .ok (.s (.func (.method m) (.iface t false [.ptr b o] :: a) c))
    | none => .fail
  | .s (.iface t a c) => .ok (.s (.iface t a c))
  | _ => .fail

/-- The operations that leave the world alone. 'ev': the operands; 'raw': as they stand, for a pick. -/
def px (T : Tbl) (h : List Blk) (ev raw : Operand → EV) : Op → PR
  | .move x => .ok (ev x)
  | .assign x => .ok (ev x)
  | .pick c a b => match ev c with
    | .s (.bool t) => pickX t (raw a) (raw b)
    | _ => .fail
  | .binOp op t x y _ => binY T (cnst x || cnst y) op t (ev x) (ev y)
  | .unOp op _ x => unX op (ev x)
  | .convert src dst x => convX T h src dst (ev x)
  | .slice t x lo hi mx => sliceX T t (ev x) (lo.map ev) (hi.map ev) (mx.map ev)
  | .nilCheck x => nilX T (ev x)
  | .fieldAddr t x i => fieldAddrX T t (ev x) i
  | .field t x i => fieldX T t (ev x) i
  | .indexAddr t x i => indexAddrX T h t (ev x) (ev i)
  | .index t x i => match ev x, ev i with
    | .s (.str s), .s (.int _ i) => match T.ty t with
      | some { d := .str, .. } => .need (0 ≤ i ∧ i < s.size) (.s (.int .u8 (((s.data.toList.map UInt8.toNat).getD i.toNat 0 : Nat) : Int)))
      | _ => .fail
    | .agg cs, .s (.int _ i) => match T.ty t with
      | some { d := .array n e, .. } => match T.ty e with
        | some te => match cs with
          | [.ints k m f] => if te.d.agg then .fail else if te.size = 1 then .need ((0 ≤ i ∧ i < n) ∧ i.toNat < m) (.s (.int k (f i.toNat))) else .fail
          | cs => match partX T e cs (i.toNat * te.size) with
            | .ok v => .need (0 ≤ i ∧ i < n) v
            | _ => .fail
        | none => .fail
      | _ => .fail
    | _, _ => .fail
  | .load t x => loadX T h t (ev x)
  | .extract x i => match ev x with
    | .tuple vs => match nthE vs i with
      | some v => .ok v
      | none => .fail
    | _ => .fail
  | .makeInterface t x => match T.ty t with
    | some { d := .iface, .. } => .fail
    | some _ => match ev x with
      | .s v => .ok (.s (.iface t false [v]))
      | .agg cs => match flat cs with
        | some l => .ok (.s (.iface t true l))
        | none => .fail
      | _ => .fail
    | none => .fail
  | .makeFunc fn a c => match svs (a.toList.map ev), svs (c.toList.map ev) with
    | some x, some y => .ok (.s (.func fn x y))
    | _, _ => .fail
  | .call { callee := .builtin .len, args, argTypes } =>
    match argTypes.toList, args.toList with
    | [t], [x] => match T.ty t, ev x with
      | some { d := .slice _, .. }, .s (.slice _ _ len _) => .ok (.s (.int .i64 len))
      | some { d := .slice _, .. }, .s .nilslice => .ok (.s (.int .i64 0))
      | some { d := .slice _, .. }, .s (.gs _ _ len _) => .ok (.s (.int .i64 len))
      | some { d := .str, .. }, .s (.str s) => .ok (.s (.int .i64 s.size))
      | some { d := .array n _, .. }, _ => .ok (.s (.int .i64 n))
      | _, _ => .fail
    | _, _ => .fail
  | .call { callee := .builtin .min, args, .. } => match args.toList with
    | [x, y] => match ev x, ev y with
      | .s (.int k a), .s (.int _ b) => .ok (.s (.int k (if b < a then b else a)))
      | _, _ => .fail
    | _ => .fail
  | .call { callee := .builtin .max, args, .. } => match args.toList with
    | [x, y] => match ev x, ev y with
      | .s (.int k a), .s (.int _ b) => .ok (.s (.int k (if b > a then b else a)))
      | _, _ => .fail
    | _ => .fail
  | _ => .fail

/-! ### the walker -/

/-- Where a walk began. -/
structure Org where
  E : Emb
  h : List Blk
  w : World
  D : List Deferred

def frameOk (E : Emb) (ts : List EV) (a : Array Value) : Prop := a.size = ts.length ∧ ∀ i v, a[i]? = some v → denE E (nth ts i) v

/-- A machine's state as the walker sees it. -/
structure Rel (O : Org) (E : Emb) (s : St) (a : Act) (w : World) : Prop where
  fr : frameOk E s.tmps a.tmps
  df : a.defers = O.D
  sim : Sim E s.heap w
  sin : Since O.E O.h O.w E s.heap w

def Lift (O : Org) (K : Exit → St → Prop) (e : Exit) (a : Act) (w : World) : Prop := ∃ E s, K e s ∧ Rel O E s a w

/-- A loop that stands to be walked. -/
def LoopG (T : Tbl) (O : Org) (c : Code) (s : St) (K : Exit → St → Prop) : Prop :=
  ∀ E a w, Rel O E s a w → (Code.loop c).wp T.P (Lift O K) a w

/-- What a call leaves. -/
def Post (E : Emb) (h : List Blk) (w : World) (k : EV → List Blk → Prop) (e : Ending) (w' : World) : Prop :=
  ∃ v x h' E', e = .returned v ∧ denE E' x v ∧ Sim E' h' w' ∧ Since E h w E' h' w' ∧ k x h'

/-- A call that stands to be walked: what it hands back, the world behind it. -/
def CallG (T : Tbl) (f : FuncId) (args : List EV) (h : List Blk) (k : EV → List Blk → Prop) : Prop :=
  ∀ E w vs, Sim E h w → denT E args vs.toList → Calls T.P f vs w (Post E h w k)

/-- A function without a body, which the model answers itself. -/
def ExtG (T : Tbl) (f : FuncId) (args : List EV) (h : List Blk) (k : EV → List Blk → Prop) : Prop :=
  ∀ E w vs, Sim E h w → denT E args vs.toList → ∃ u w', (callFunc f vs).run T.P w = .ok (.value u) w' ∧ Post E h w k (.returned u) w'

def isFn (T : Tbl) (f : FuncId) : Prop := ∃ F, T.P.funcs[f]? = some F ∧ F.body.isNone = false ∧ (F.name == "runtime.NumGoroutine") = false

def ifB (t : Bool) (a b : Prop) : Prop :=
  match t with
  | true => a
  | false => b

structure Need (p k : Prop) : Prop where
  p : p
  k : k

def segsOf : EV → Option (List Seg)
  | .s v => some [.one v]
  | .agg cs => some cs
  | _ => none

/-! What the walker computes it computes at once: each of these is its last argument at its first ('.._eq'). -/

def forceV (v : SV) (k : SV → Prop) : Prop :=
  match v with
  | .junk => k .junk
  | .int q n => k (.int q n)
  | .bool b => k (.bool b)
  | .str s => k (.str s)
  | .ptr b o => k (.ptr b o)
  | .pix b o i => k (.pix b o i)
  | .nilptr => k .nilptr
  | .slice b o l c => k (.slice b o l c)
  | .nilslice => k .nilslice
  | .gs b o l c => k (.gs b o l c)
  | .map b => k (.map b)
  | .nilmap => k .nilmap
  | .func f a c => k (.func f a c)
  | .nilfunc => k .nilfunc
  | .iface t a c => k (.iface t a c)
  | .niliface => k .niliface

/- (These walk by the recursors themselves: so the elaborator and the kernel unfold them alike.) -/
def forceS (l : List Seg) : (List Seg → Prop) → Prop :=
  List.rec (motive := fun _ => (List Seg → Prop) → Prop) (fun k => k []) (fun x _ ih k => match x with
    | .one v => forceV v fun v => ih fun r => k (.one v :: r)
    | .ints q n f => ih fun r => k (.ints q n f :: r)) l

def forceT (l : List EV) : (List EV → Prop) → Prop :=
  List.rec (motive := fun _ => (List EV → Prop) → Prop) (fun k => k []) (fun x _ ih k => ih fun r => k (x :: r)) l

def forceE0 (v : EV) (k : EV → Prop) : Prop :=
  match v with
  | .s v => forceV v fun v => k (.s v)
  | .agg cs => forceS cs fun cs => k (.agg cs)
  | .tuple vs => k (.tuple vs)
  | .gd g v => k (.gd g v)
  | .junk => k .junk

def forceE (v : EV) (k : EV → Prop) : Prop :=
  match v with
  | .s v => forceV v fun v => k (.s v)
  | .agg cs => forceS cs fun cs => k (.agg cs)
  | .tuple vs => forceT vs fun vs => k (.tuple vs)
  | .gd g v => forceE0 v fun v => k (.gd g v)
  | .junk => k .junk

def updK (l : List EV) : Nat → EV → (List EV → Prop) → Prop :=
  List.rec (motive := fun _ => Nat → EV → (List EV → Prop) → Prop) (fun _ _ k => k []) (fun x r ih n v k => match n with
    | 0 => k (v :: r)
    | n + 1 => ih n v fun r => k (x :: r)) l

def updBK (l : List Blk) : Nat → Blk → (List Blk → Prop) → Prop :=
  List.rec (motive := fun _ => Nat → Blk → (List Blk → Prop) → Prop) (fun _ _ k => k []) (fun x r ih n v k => match n with
    | 0 => k (v :: r)
    | n + 1 => ih n v fun r => k (x :: r)) l

/-- A new block behind the others, and its number. -/
def pushBK (l : List Blk) : Nat → Blk → (Nat → List Blk → Prop) → Prop :=
  List.rec (motive := fun _ => Nat → Blk → (Nat → List Blk → Prop) → Prop) (fun n B k => k n [B]) (fun x _ ih n B k => ih (n + 1) B fun n h => k n (x :: h)) l

theorem forceV_eq (v : SV) (k : SV → Prop) : forceV v k = k v := by cases v <;> rfl
theorem forceS_eq : ∀ (cs : List Seg) (k : List Seg → Prop), forceS cs k = k cs
  | [], _ => rfl
  | .one v :: r, k => by
    show (forceV v fun v => forceS r fun r => k (.one v :: r)) = _
    rw [forceV_eq, forceS_eq r]
  | .ints q n f :: r, k => by
    show (forceS r fun r => k (.ints q n f :: r)) = _
    rw [forceS_eq r]
theorem forceT_eq : ∀ (l : List EV) (k : List EV → Prop), forceT l k = k l
  | [], _ => rfl
  | x :: r, k => by
    show (forceT r fun r => k (x :: r)) = _
    rw [forceT_eq r]
theorem forceE0_eq (v : EV) (k : EV → Prop) : forceE0 v k = k v := by cases v <;> simp only [forceE0, forceV_eq, forceS_eq]
theorem forceE_eq (v : EV) (k : EV → Prop) : forceE v k = k v := by cases v <;> simp only [forceE, forceV_eq, forceS_eq, forceE0_eq, forceT_eq]
theorem updK_eq : ∀ (l : List EV) (n : Nat) (v : EV) (k : List EV → Prop), updK l n v k = k (upd l n v)
  | [], _, _, _ => rfl
  | x :: r, 0, v, k => rfl
  | x :: r, n + 1, v, k => by
    show (updK r n v fun r => k (x :: r)) = _
    rw [updK_eq r]
    rfl
theorem updBK_eq : ∀ (l : List Blk) (n : Nat) (v : Blk) (k : List Blk → Prop), updBK l n v k = k (updB l n v)
  | [], _, _, _ => rfl
  | x :: r, 0, v, k => rfl
  | x :: r, n + 1, v, k => by
    show (updBK r n v fun r => k (x :: r)) = _
    rw [updBK_eq r]
    rfl
theorem pushBK_eq : ∀ (l : List Blk) (n : Nat) (B : Blk) (k : Nat → List Blk → Prop), pushBK l n B k = k (n + l.length) (l ++ [B])
  | [], _, _, _ => rfl
  | x :: r, n, B, k => by
    show (pushBK r (n + 1) B fun n h => k n (x :: h)) = _
    rw [pushBK_eq r]
    simp only [List.length_cons, List.cons_append]
    rw [show n + 1 + r.length = n + (r.length + 1) by omega]

/-- A value goes into a slot. -/
def putK (ts : List EV) (h : List Blk) (dst : Option Tmp) (v : EV) (k : St → Prop) : Prop :=
  match dst with
  | some d => updK ts d v fun ts => k ⟨ts, h⟩
  | none => k ⟨ts, h⟩

theorem putK_eq (ts : List EV) (h : List Blk) (dst : Option Tmp) (v : EV) (k : St → Prop) : putK ts h dst v k = k ((⟨ts, h⟩ : St).put dst v) := by
  cases dst with
  | none => rfl
  | some d => simp only [putK, updK_eq]; rfl

/-- A store. -/
def storeX (T : Tbl) (t : TypeId) (x v : EV) (h : List Blk) (k : List Blk → Prop) : Prop :=
  match T.ty t, x with
  | some i, .s (.ptr b o) =>
    match nthB h b, segsOf v with
    | some (.cells true cs sp), some [.one u] =>
      match i.size, setS cs o u with
      | 1, some cs' => forceS cs' fun cs' => updBK h b (.cells true cs' sp) k
      | _, _ => False
    | some (.cells true cs sp), some new =>
      match putS cs o new with
      | some cs' => Need (sizeS new = i.size) (forceS cs' fun cs' => updBK h b (.cells true cs' sp) k)
      | none => False
    | _, _ => False
  | some i, .s (.pix b o j) =>
    match v, nthB h b with
    | .s (.int q x), some (.cells true cs sp) =>
      match i.size, getI cs o, setI cs o j q x with
      | 1, some (_, n, _), some cs' => Need (j < n) (forceS cs' fun cs' => updBK h b (.cells true cs' sp) k)
      | _, _, _ => False
    | _, _ => False
  | _, _ => False

/-- A new block. -/
def newX (ts : List EV) (h : List Blk) (cs : List Seg) (dst : Option Tmp) (k : St → Prop) : Prop :=
  forceS cs fun cs => pushBK h 0 (.cells true cs 0) fun n h => putK ts h dst (.s (.ptr n 0)) k

/-- A struct's or an array's parts, put in one behind the other. -/
def fillX (place : Nat → Option (Nat × Nat)) : List Seg → List (Nat × EV) → Option (List Seg)
  | cs, [] => some cs
  | cs, (i, v) :: r => match place i with
    | none => none
    | some (off, size) => match v with
      | .s (.int k x) => match size with
        | 1 => match setS cs off (.int k x) with
          | some cs' => fillX place cs' r
          | none => match getI cs off, setI cs off 0 k x with
            | some (_, _ + 1, _), some cs' => fillX place cs' r
            | _, _ => none
        | _ => none
      | .s u => match size, setS cs off u with
        | 1, some cs' => fillX place cs' r
        | _, _ => none
      | .agg new => if sizeS new = size then match putS cs off new with
          | some cs' => fillX place cs' r
          | none => none else none
      | _ => none

def places (T : Tbl) : List (TypeId × Nat) → Option (List (Nat × Nat))
  | [] => some []
  | (ft, off) :: r => match T.ty ft, places T r with
    | some ti, some ps => some ((off, ti.size) :: ps)
    | _, _ => none

def nthP : List (Nat × Nat) → Nat → Option (Nat × Nat)
  | [], _ => none
  | x :: _, 0 => some x
  | _ :: r, n + 1 => nthP r n

def buildX (T : Tbl) (t : TypeId) (parts : List (Nat × EV)) : Option (List Seg) :=
  match T.ty t with
  | some { d := .struct fs, zero := .agg z, .. } =>
    match places T fs with
    | some ps => fillX (nthP ps) z parts
    | none => none
  | some { d := .array _ e, zero := .agg z, .. } =>
    match T.ty e with
    | some te => fillX (fun i => some (i * te.size, te.size)) z parts
    | none => none
  | _ => none

/-- The arguments of a call, one behind the other. -/
def svK (c : List SV) : (List EV → Prop) → Prop :=
  List.rec (motive := fun _ => (List EV → Prop) → Prop) (fun k => k []) (fun x _ ih k => ih fun r => k (.s x :: r)) c

def evK (l : List EV) : List SV → (List EV → Prop) → Prop :=
  List.rec (motive := fun _ => List SV → (List EV → Prop) → Prop) (fun c k => svK c k) (fun x _ ih c k => forceE x fun x => ih c fun r => k (x :: r)) l

def argsK (a : List SV) : List EV → List SV → (List EV → Prop) → Prop :=
  List.rec (motive := fun _ => List EV → List SV → (List EV → Prop) → Prop) (fun l c k => evK l c k) (fun x _ ih l c k => ih l c fun r => k (.s x :: r)) a

theorem svK_eq : ∀ (c : List SV) (k : List EV → Prop), svK c k = k (c.map .s)
  | [], k => rfl
  | x :: c, k => by
    show (svK c fun r => k (.s x :: r)) = _
    rw [svK_eq c, List.map_cons]
theorem evK_eq : ∀ (l : List EV) (c : List SV) (k : List EV → Prop), evK l c k = k (l ++ c.map .s)
  | [], c, k => by
    show svK c k = _
    rw [svK_eq, List.nil_append]
  | x :: l, c, k => by
    show (forceE x fun x => evK l c fun r => k (x :: r)) = _
    rw [forceE_eq, evK_eq l, List.cons_append]
theorem argsK_eq : ∀ (a : List SV) (l : List EV) (c : List SV) (k : List EV → Prop), argsK a l c k = k (a.map .s ++ l ++ c.map .s)
  | [], l, c, k => by
    show evK l c k = _
    rw [evK_eq, List.map_nil, List.nil_append]
  | x :: a, l, c, k => by
    show (argsK a l c fun r => k (.s x :: r)) = _
    rw [argsK_eq a, List.map_cons, List.cons_append, List.cons_append]

/-- A function that may be called, and what comes of it. -/
structure Does (T : Tbl) (f : FuncId) (args : List EV) (h : List Blk) (Q : EV → List Blk → Prop) : Prop where
  go : (isFn T f ∧ CallG T f args h Q) ∨ ExtG T f args h Q

/-- A call of an interface's method. -/
def invD (T : Tbl) (m : String) (r : EV) (l : List EV) (h : List Blk) (k : EV → List Blk → Prop) : Prop :=
  match r with
  | .s (.iface t false [.ptr b o]) => match T.mth t m with
    | some f => Does T f (.s (.ptr b o) :: l) h k
    | none => False
  | _ => False

def invX (T : Tbl) (m : String) (r : EV) (args : List EV) (h : List Blk) (k : EV → List Blk → Prop) : Prop := evK args [] fun l => invD T m r l h k

/-- A call of a function value. -/
def callX (T : Tbl) (f : EV) (args : List EV) (h : List Blk) (k : EV → List Blk → Prop) : Prop :=
  match f with
  | .s (.func (.func f) a c) => argsK a args c fun l => Does T f l h k
  | .s (.func (.method m) (r :: a) _) => argsK a args [] fun l => invD T m (.s r) l h k
  | _ => False

/-! ### slices: made, grown, copied -/

def litF : List Int → Nat → Int
  | [], _ => 0
  | x :: _, 0 => x
  | _ :: r, n + 1 => litF r n

def intParts (k : IntKind) : Nat → List (Nat × EV) → Option (List Int)
  | _, [] => some []
  | n, (i, .s (.int k' x)) :: r => match Nat.beq n i && sameK k k', intParts k (n + 1) r with
    | true, some l => some (x :: l)
    | _, _ => none
  | _, _ => none

def repS : Nat → List Seg → List Seg
  | 0, _ => []
  | n + 1, z => z ++ repS n z

/-- The cells of a slice that is built. -/
def bslX (te : TI) (n : Nat) (parts : List (Nat × EV)) : Option (List Seg) :=
  match te.zero, te.size with
  | .s (.int k _), 1 => match intParts k 0 parts with
    | some l => match Nat.beq l.length n with
      | true => some [.ints k n (litF l)]
      | false => none
    | none => none
  | z, sz => match segsOf z with
    | some zs => match Nat.beq (sizeS zs) sz with
      | true => fillX (fun i => some (i * sz, sz)) (repS n zs) parts
      | false => none
    | none => none

def catF (n : Nat) (f g : Nat → Int) (j : Nat) : Int := if j < n then f j else g (j - n)

def catS : List Seg → List Seg → List Seg
  | [], b => b
  | [.ints k n f], [.ints k' m g] => match sameK k k' with
    | true => [.ints k (n + m) (catF n f g)]
    | false => [.ints k n f, .ints k' m g]
  | a, b => a ++ b

def zsz (te : TI) : Nat :=
  match segsOf te.zero with
  | some zs => sizeS zs
  | none => 0

def room (te : TI) (n : Nat) : Prop := (zsz te = te.size ∧ 0 < te.size) ∧ n ≤ 140737488355328 ∧ n * te.bytes ≤ 140737488355328

/-- A slice that has grown: in a block of its own, with room that is not known. -/
def growK (ts : List EV) (h : List Blk) (dst : Option Tmp) (n size : Nat) (cs : List Seg) (k : St → Prop) : Prop :=
  ∀ c, n ≤ c → forceS cs fun cs => pushBK h 0 (.cells true cs ((c - n) * size)) fun N h => putK ts h dst (.s (.gs N 0 n c)) k

def ontoX (te : TI) (ts : List EV) (h : List Blk) (b n c : Nat) (r : Rng) (dst : Option Tmp) (k : St → Prop) : Prop :=
  match nthB h b with
  | some (.cells true cs sp) => Need (r.p ∧ sizeS cs = n * te.size ∧ c * te.size = n * te.size + sp ∧ room te (n + r.n))
      (updBK h b .dead fun h => growK ts h dst (n + r.n) te.size (catS cs r.cs) k)
  | _ => False

def srcOk (T : Tbl) (tx : TypeId) (y : EV) : Bool :=
  match T.ty tx, isStr y with
  | some { d := .str, .. }, true => true
  | some { d := .slice _, .. }, false => true
  | _, _ => false

def appX (T : Tbl) (ts : List EV) (h : List Blk) (t tx : TypeId) (x y : EV) (dst : Option Tmp) (k : St → Prop) : Prop :=
  match T.ty t with
  | some { d := .slice e, .. } => match T.ty e with
    | some te => match srcOk T tx y, rngX h te.size y with
      | true, some r => match x with
        | .s .nilslice => Need (r.p ∧ room te r.n) (growK ts h dst r.n te.size r.cs k)
        | .s (.slice b 0 n c) => ontoX te ts h b n c r dst k
        | .s (.gs b 0 n c) => ontoX te ts h b n c r dst k
        | _ => False
      | _, _ => False
    | none => False
  | _ => False

/-- Zeros behind a slice of whole numbers. -/
def zappX (T : Tbl) (ts : List EV) (h : List Blk) (t : TypeId) (x : EV) (m : Int) (dst : Option Tmp) (k : St → Prop) : Prop :=
  match T.ty t with
  | some { d := .slice e, .. } => match T.ty e with
    | some te => match te.zero, te.size with
      | .s (.int q z), 1 => match x with
        | .s .nilslice => Need (0 ≤ m ∧ room te m.toNat) (growK ts h dst m.toNat te.size [.ints q m.toNat (fun _ => z)] k)
        | .s (.slice b 0 n c) => ontoX te ts h b n c ⟨0 ≤ m, m.toNat, [.ints q m.toNat (fun _ => z)]⟩ dst k
        | .s (.gs b 0 n c) => ontoX te ts h b n c ⟨0 ≤ m, m.toNat, [.ints q m.toNat (fun _ => z)]⟩ dst k
        | _ => False
      | _, _ => False
    | none => False
  | _ => False

def putF (o n : Nat) (g f : Nat → Int) (j : Nat) : Int := if o ≤ j ∧ j < o + n then g (j - o) else f j

def ontoC (ts : List EV) (h : List Blk) (b o n : Nat) (r : Rng) (dst : Option Tmp) (k : St → Prop) : Prop :=
  match nthB h b, r with
  | some (.cells true [.ints q m f] sp), ⟨p, rn, [.ints q' _ g]⟩ => match sameK q q' with
    | true => Need (p ∧ o + n ≤ m) (updBK h b (.cells true [.ints q m (putF o (min rn n) g f)] sp) fun h => putK ts h dst (.s (.int .i64 ((min rn n : Nat) : Int))) k)
    | false => False
  | some (.cells true [.ints _ _ _] _), ⟨p, rn, []⟩ => Need (p ∧ rn = 0) (putK ts h dst (.s (.int .i64 0)) k)
  | _, _ => False

def copyX (T : Tbl) (ts : List EV) (h : List Blk) (t tx : TypeId) (x y : EV) (dst : Option Tmp) (k : St → Prop) : Prop :=
  match T.ty t with
  | some { d := .slice e, .. } => match T.ty e with
    | some te => match te.size, srcOk T tx y, rngX h te.size y with
      | 1, true, some r => match x with
        | .s (.slice b o n _) => ontoC ts h b o n r dst k
        | .s (.gs b o n _) => ontoC ts h b o n r dst k
        | _ => False
      | _, _, _ => False
    | none => False
  | _ => False

/-- A cell is there. -/
def hasCell (h : List Blk) (b o : Nat) : Prop := ∃ m cs sp v, nthB h b = some (.cells m cs sp) ∧ getS cs o = some v

/-- More operations with an effect: on slices; pointers without a type. -/
def eff2 (T : Tbl) (ts : List EV) (h : List Blk) (o : Oper) (k : St → Prop) : Prop :=
  match o.op with
  | .buildSlice t n parts => match T.ty t with
    | some { d := .slice e, .. } => match T.ty e with
      | some te => match Nat.ble (n * te.size) 16777216, bslX te n (parts.toList.map fun p => (p.1, evT ts p.2)) with
        | true, some cs => forceS cs fun cs => pushBK h 0 (.cells true cs 0) fun N h => putK ts h o.dst (.s (.slice N 0 n n)) k
        | _, _ => False
      | none => False
    | _ => False
  | .makeSlice t len cap => match T.ty t, evT ts len, evT ts cap with
    | some { d := .slice e, .. }, .s (.int _ l), .s (.int _ c) => match T.ty e with
      | some te => match te.zero, te.size with
        | .s (.int q z), 1 => Need (0 ≤ l ∧ l ≤ c ∧ c ≤ 140737488355328 ∧ te.bytes * c ≤ 140737488355328)
            (pushBK h 0 (.cells true [.ints q l.toNat (fun _ => z)] (c.toNat - l.toNat)) fun N h => putK ts h o.dst (.s (.slice N 0 l.toNat c.toNat)) k)
        | _, _ => False
      | none => False
    | _, _, _ => False
  | .convert src dst x => match T.ty src, T.ty dst, evT ts x with
    | some { d := .slice e, .. }, some { d := .slice e', .. }, .s (.slice b o' n c) => match Nat.beq src dst && Nat.beq e e', T.ty e, nthB h b with
      | true, some { d := .int .u8, .. }, some (.cells true cs sp) => Need (0 < sizeS cs + sp) (putK ts h o.dst (.s (.slice b o' n c)) k)
      | _, _, _ => False
    | some { d := .str, .. }, some { d := .slice e, .. }, .s (.str s) => match T.ty e with
      | some { d := .int .u8, .. } => ∀ c, s.size ≤ c → pushBK h 0 (.cells true [.ints .u8 s.size (strF s)] (c - s.size)) fun N h => putK ts h o.dst (.s (.slice N 0 s.size c)) k
      | _ => False
    | some { d := .ptr e, .. }, some { d := .uptr, .. }, .s (.ptr b o') => match T.ty e with
      | some { size := _ + 1, .. } => Need (hasCell h b o') (putK ts h o.dst (.s (.ptr b o')) k)
      | _ => False
    | _, _, _ => False
  | .call { callee := .builtin .append, args, argTypes } => match args.toList, argTypes.toList with
    | [x, y], [t, tx] => match T.ty tx, evT ts y with
      | some { d := .int _, .. }, .s (.int _ m) => zappX T ts h t (evT ts x) m o.dst k
      | _, _ => appX T ts h t tx (evT ts x) (evT ts y) o.dst k
    | _, _ => False
  | .call { callee := .builtin .copy, args, argTypes } => match args.toList, argTypes.toList with
    | [x, y], [t, tx] => copyX T ts h t tx (evT ts x) (evT ts y) o.dst k
    | _, _ => False
  | _ => False

/-- The operations with an effect. -/
def effX (T : Tbl) (ts : List EV) (h : List Blk) (o : Oper) (k : St → Prop) : Prop :=
  match o.op with
  | .store t x v => storeX T t (evT ts x) (evT ts v) h fun h => putK ts h o.dst .junk k
  | .alloc t => match T.ty t with
    | some i => match segsOf i.zero with
      | some cs => newX ts h cs o.dst k
      | none => False
    | none => False
  | .box _ x => match segsOf (evT ts x) with
    | some cs => newX ts h cs o.dst k
    | none => False
  | .build t parts => match buildX T t (parts.toList.map fun p => (p.1, evT ts p.2)) with
    | some cs => forceS cs fun cs => putK ts h o.dst (.agg cs) k
    | none => False
  | .call { callee := .value f, args, .. } => callX T (evT ts f) (args.toList.map (evT ts)) h fun v h => forceE v fun v => putK ts h o.dst v k
  | .call { callee := .invoke r m, args, .. } => invX T m (evT ts r) (args.toList.map (evT ts)) h fun v h => forceE v fun v => putK ts h o.dst v k
  | _ => eff2 T ts h o k

/-- One operation without a guard. -/
def opN (T : Tbl) (s : St) (o : Oper) (k : St → Prop) : Prop :=
  match s with
  | ⟨ts, h⟩ => match px T h (evT ts) (evT ts) o.op with
    | .ok v => forceE v fun v => putK ts h o.dst v k
    | .need p v => Need p (forceE v fun v => putK ts h o.dst v k)
    | .fail => effX T ts h o k

def strip : EV → EV
  | .gd _ v => v
  | v => v

def oblig (g : Bool) : List EV → Prop
  | [] => True
  | .gd g' _ :: r => (g = true → g' = true) ∧ oblig g r
  | _ :: r => oblig g r

def obligK (g : Bool) (l : List EV) : Prop → Prop :=
  List.rec (motive := fun _ => Prop → Prop) (fun k => k) (fun x _ ih k => match x with
    | .gd g' _ => Need (g = true → g' = true) (ih k)
    | .s _ => ih k
    | .agg _ => ih k
    | .tuple _ => ih k
    | .junk => ih k) l

theorem obligK_iff (g : Bool) (k : Prop) : ∀ l : List EV, obligK g l k ↔ oblig g l ∧ k
  | [] => by
    show k ↔ True ∧ k
    simp
  | .gd g' _ :: r => by
    show Need (g = true → g' = true) (obligK g r k) ↔ _
    simp only [oblig]
    constructor
    · rintro ⟨h1, h2⟩
      have := (obligK_iff g k r).1 h2
      exact ⟨⟨h1, this.1⟩, this.2⟩
    · rintro ⟨⟨h1, h2⟩, h3⟩
      exact ⟨h1, (obligK_iff g k r).2 ⟨h2, h3⟩⟩
  | .s _ :: r => by simp only [oblig]; exact obligK_iff g k r
  | .agg _ :: r => by simp only [oblig]; exact obligK_iff g k r
  | .tuple _ :: r => by simp only [oblig]; exact obligK_iff g k r
  | .junk :: r => by simp only [oblig]; exact obligK_iff g k r

/-- The operands that an operation's answer hangs on. -/
def looks : Op → List Operand
  | .pick c _ _ => [c]
  | op => op.operands.toList

/-- One operation under a guard. -/
def opG (T : Tbl) (s : St) (o : Oper) (g : Bool) (k : St → Prop) : Prop :=
  match s with
  | ⟨ts, h⟩ => match px T h (fun x => strip (evT ts x)) (evT ts) o.op with
    | .ok v => obligK g ((looks o.op).map (evT ts)) (forceE v fun v => putK ts h o.dst (.gd g v) k)
    | .need p v => obligK g ((looks o.op).map (evT ts)) (Need (g = true → p) (forceE v fun v => putK ts h o.dst (.gd g v) k))
    | .fail => ifB g (opN T ⟨ts, h⟩ o k) (putK ts h o.dst .junk k)

/-- Is an operation wanted? -/
def guardK (ops : Array Oper) (ts : List EV) (j : Nat) (want : Bool) (k : Bool → Prop) : Prop :=
  match ops.toList[j]? with
  | some o => match o.dst with
    | some d => match nth ts d, want with
      | .s (.bool t), true => k t
      | .s (.bool t), false => k (!t)
      | .gd g (.s (.bool t)), true => k (g && t)
      | .gd g (.s (.bool t)), false => k (g && !t)
      | _, _ => False
    | none => False
  | none => False

def opX (T : Tbl) (ops : Array Oper) (s : St) (o : Oper) (k : St → Prop) : Prop :=
  match o.guard with
  | none => opN T s o k
  | some (j, want) => guardK ops s.tmps j want fun g => opG T s o g k

def opsX (T : Tbl) (ops : Array Oper) (l : List Oper) : St → (St → Prop) → Prop :=
  List.rec (motive := fun _ => St → (St → Prop) → Prop) (fun s k => k s) (fun o _ ih s k => opX T ops s o fun s' => ih s' k) l

def seqK (next : St → Prop) (K : Exit → St → Prop) : Exit → St → Prop
  | .normal, s => next s
  | e, s => K e s

def blockK (id : Nat) (K : Exit → St → Prop) : Exit → St → Prop
  | .exit i, s => if i = id then K .normal s else K (.exit i) s
  | e, s => K e s

/-- A region that draws its order: behind a name, to be opened by a rule of its own. -/
def DrawG (T : Tbl) (O : Org) (id : Nat) (ops : Array Oper) (s : St) (K : Exit → St → Prop) : Prop :=
  ∀ E a w, Rel O E s a w → (Code.region id ops true).wp T.P (Lift O K) a w

def wpx (T : Tbl) (O : Org) (c : Code) : St → (Exit → St → Prop) → Prop :=
  Code.rec (motive := fun _ => St → (Exit → St → Prop) → Prop)
    (fun s K => K .normal s)
    (fun id ops draw s K => match draw with
      | false => opsX T ops ops.toList s (K .normal)
      | true => DrawG T O id ops s K)
    (fun _ _ wa wb s K => wa s (seqK (fun s' => wb s' K) K))
    (fun c _ _ wa wb s K => match evT s.tmps c with
      | .s (.bool t) => ifB t (wa s K) (wb s K)
      | _ => False)
    (fun id _ wa s K => wa s (blockK id K))
    (fun a _ s K => LoopG T O a s K)
    (fun _ _ _ _ _ _ _ _ => False)
    (fun id s K => K (.exit id) s)
    (fun _ _ _ _ => False)
    (fun _ s K => K .normal s)
    (fun l s K => K (.goto l) s)
    (fun s K => K .ret s)
    (fun _ _ _ => False)
    c

/-- What a function hands back. -/
def resV (T : Tbl) (s : St) : ResultVar → Option EV
  | .tmp t => match nth s.tmps t with
    | .junk => none
    | .gd _ _ => none
    | v => some v
  | .cell p ty => match loadX T s.heap ty (nth s.tmps p) with
    | .ok v => some v
    | _ => none

def resVs (T : Tbl) (s : St) : List ResultVar → Option (List EV)
  | [] => some []
  | r :: rs => match resV T s r, resVs T s rs with
    | some v, some vs => some (v :: vs)
    | _, _ => none

def resX (T : Tbl) (s : St) (rs : List ResultVar) (Q : EV → List Blk → Prop) : Prop :=
  match rs with
  | [r] => match resV T s r with
    | some v => Q v s.heap
    | none => False
  | rs => match resVs T s rs with
    | some vs => Q (.tuple vs) s.heap
    | none => False

def bodyK (T : Tbl) (F : Func) (Q : EV → List Blk → Prop) : Exit → St → Prop
  | .normal, s => resX T s F.results.toList Q
  | .ret, s => resX T s F.results.toList Q
  | _, _ => False

def junks : Nat → List EV
  | 0 => []
  | n + 1 => .junk :: junks n

/-- The frame at the begin. -/
def junkK (n : Nat) : (List EV → Prop) → Prop :=
  Nat.rec (motive := fun _ => (List EV → Prop) → Prop) (fun k => k []) (fun _ ih k => ih fun r => k (.junk :: r)) n

def frameK (l : List EV) : Nat → (List EV → Prop) → Prop :=
  List.rec (motive := fun _ => Nat → (List EV → Prop) → Prop) (fun n k => junkK n k) (fun x _ ih n k => ih (n - 1) fun r => k (x :: r)) l

theorem junkK_eq : ∀ (n : Nat) (k : List EV → Prop), junkK n k = k (junks n)
  | 0, _ => rfl
  | n + 1, k => by
    show (junkK n fun r => k (.junk :: r)) = _
    rw [junkK_eq n]
    rfl

theorem frameK_eq : ∀ (l : List EV) (n : Nat) (k : List EV → Prop), frameK l n k = k (l ++ junks (n - l.length))
  | [], n, k => by
    show junkK n k = _
    rw [junkK_eq]
    simp
  | x :: r, n, k => by
    show (frameK r (n - 1) fun r => k (x :: r)) = _
    rw [frameK_eq r]
    simp only [List.length_cons, List.cons_append]
    rw [show n - 1 - r.length = n - (r.length + 1) by omega]

/-- A function's body, walked. -/
def fnX (T : Tbl) (O : Org) (F : Func) (args : List EV) (h : List Blk) (Q : EV → List Blk → Prop) : Prop :=
  match F.body with
  | some c => frameK args F.ntmps fun ts => wpx T O c ⟨ts, h⟩ (bodyK T F Q)
  | none => False

end Go.Anv

/- The engine, part 4: the operations without an effect do what the walker says. Plain theorems; their conditions are the table's own facts. -/
namespace Go.Anv
open Go

/-- What a small answer says of a piece of the machine. -/
def PR.snd (E : Emb) (P : Program) (w : World) (m : Sem Value) : PR → Prop
  | .fail => True
  | .ok v => ∃ z, m.run P w = .ok z w ∧ denE E v z
  | .need p v => p → ∃ z, m.run P w = .ok z w ∧ denE E v z

theorem sameK_eq {k k' : IntKind} (h : sameK k k' = true) : k = k' := by
  cases k <;> cases k' <;> first | rfl | (exact absurd h (by decide))

theorem sameK_refl (k : IntKind) : sameK k k = true := by cases k <;> rfl

theorem wrap_bit (op : BinOp) (k : IntKind) (a b : Int) (P : Program) (w : World) (h : op = .and ∨ op = .or ∨ op = .xor ∨ op = .andNot) :
    (Op.intBits op k a b).run P w = .ok (.int k (bitX op k a b)) w := by
  rcases h with rfl | rfl | rfl | rfl <;> rfl

theorem intX_snd (E : Emb) (P : Program) (w : World) (op : BinOp) (hs : op ≠ .shl) (hr : op ≠ .shr) (t : TypeId) (k : IntKind) (a b : Int) :
    (intX op k a b).snd E P w (binOp op t (.int k a) (.int k b)) := by
  cases op <;> simp only [intX, PR.snd] <;> first
    | trivial
    | exact absurd rfl hs
    | exact absurd rfl hr
    | (refine ⟨_, ?_, rfl⟩; simp [binOp, Op.intArith, Op.intCmp, Op.intBits, bitX]; done)
    | (intro hb; refine ⟨_, ?_, rfl⟩; simp [binOp, Op.intDiv, hb]; done)
    | skip


theorem eqSeg_cells {E : Emb} : ∀ {a b : List Seg} {l m : List Value} {r : Bool}, denS E a l → denS E b m → eqSeg a b = some r → eqCells l m = some r
  | [], b, l, m, r, h1, h2, h => by
    cases b with
    | nil => simp only [denS] at h1 h2; subst h1; subst h2; exact h
    | cons x y => simp [eqSeg] at h
  | .one x :: a, b, l, m, r, h1, h2, h => by
    cases b with
    | nil => cases x <;> simp [eqSeg] at h
    | cons y b =>
      cases y with
      | ints k n f => cases x <;> simp [eqSeg] at h
      | one y =>
        simp only [denS] at h1 h2
        obtain ⟨u, l', rfl, hu, h3⟩ := h1
        obtain ⟨v, m', rfl, hv, h4⟩ := h2
        cases x with
        | int k p =>
          cases y with
          | int k' q =>
            simp only [denV] at hu hv
            subst hu; subst hv
            simp only [eqSeg] at h
            simp only [eqCells]
            split at h
            · rename_i hk
              rw [if_pos hk]
              simp only [Option.map_eq_some_iff] at h ⊢
              obtain ⟨c, hc, rfl⟩ := h
              exact ⟨c, eqSeg_cells h3 h4 hc, rfl⟩
            · cases h
          | _ => simp [eqSeg] at h
        | bool p =>
          cases y with
          | bool q =>
            simp only [denV] at hu hv
            subst hu; subst hv
            simp only [eqSeg] at h
            simp only [eqCells]
            simp only [Option.map_eq_some_iff] at h ⊢
            obtain ⟨c, hc, rfl⟩ := h
            exact ⟨c, eqSeg_cells h3 h4 hc, rfl⟩
          | _ => simp [eqSeg] at h
        | _ => cases y <;> simp [eqSeg] at h
  | .ints k n f :: a, b, l, m, r, h1, h2, h => by
    cases b with
    | nil => simp [eqSeg] at h
    | cons y b =>
      cases y with
      | one y => simp [eqSeg] at h
      | ints k' n' g =>
        simp only [denS] at h1 h2
        obtain ⟨l', rfl, h3⟩ := h1
        obtain ⟨m', rfl, h4⟩ := h2
        simp only [eqSeg] at h
        split at h
        · rename_i hk
          simp only [Bool.and_eq_true, beq_iff_eq] at hk
          obtain ⟨hk, rfl⟩ := hk
          have hk := sameK_eq hk
          subst hk
          simp only [Option.map_eq_some_iff] at h
          obtain ⟨c, hc, rfl⟩ := h
          have ih := eqSeg_cells h3 h4 hc
          have key : ∀ (js : List Nat), eqCells ((js.map fun j => Value.int k (f j)) ++ l') ((js.map fun j => Value.int k (g j)) ++ m') = some ((js.all fun j => f j == g j) && c) := fun js => by
            induction js with
            | nil => simpa using ih
            | cons j js ihj =>
              simp only [List.map_cons, List.cons_append, eqCells, sameK_refl, if_true, ihj, List.all_cons, Option.map_some, Bool.and_assoc]
          exact key _
        · cases h

theorem run_equal {P : Program} {w : World} {t : TypeId} {x y : Value} {b : Bool} (h : ∀ d, (Op.equalIn (d + 1) t x y).run P w = .ok b w) : (Op.equal t x y).run P w = .ok b w := h 9999

theorem run_eql {P : Program} {w : World} {t : TypeId} {x y : Value} {b : Bool} (h : (Op.equal t x y).run P w = .ok b w)
    (hi : ∀ k n, x ≠ .int k n) (hf : ∀ k n, x ≠ .float k n) (hc : ∀ k n m, x ≠ .complex k n m) (hs : ∀ s, x ≠ .string s) : (binOp .eql t x y).run P w = .ok (.bool b) w := by
  cases x <;> first
    | exact absurd rfl (hi _ _)
    | exact absurd rfl (hf _ _)
    | exact absurd rfl (hc _ _ _)
    | exact absurd rfl (hs _)
    | (simp only [binOp]; simp [h])

theorem run_neq {P : Program} {w : World} {t : TypeId} {x y : Value} {b : Bool} (h : (Op.equal t x y).run P w = .ok b w)
    (hi : ∀ k n, x ≠ .int k n) (hf : ∀ k n, x ≠ .float k n) (hc : ∀ k n m, x ≠ .complex k n m) (hs : ∀ s, x ≠ .string s) : (binOp .neq t x y).run P w = .ok (.bool (!b)) w := by
  cases x <;> first
    | exact absurd rfl (hi _ _)
    | exact absurd rfl (hf _ _)
    | exact absurd rfl (hc _ _ _)
    | exact absurd rfl (hs _)
    | (simp only [binOp]; simp [h])

theorem fitS_den {E : Emb} : ∀ {ks : List KS} {cs : List Seg} {l : List Value}, denS E cs l → fitS ks cs = true → fitV ks l
  | [], [], _, h, _ => h
  | .int k :: r, .one x :: s, l, h, hf => by
    cases x with
    | int k' a =>
      simp only [fitS, Bool.and_eq_true] at hf
      have := sameK_eq hf.1
      subst this
      simp only [denS, denV] at h
      obtain ⟨v, l', rfl, rfl, h⟩ := h
      exact ⟨a, l', rfl, fitS_den h hf.2⟩
    | _ => simp [fitS] at hf
  | .bool :: r, .one x :: s, l, h, hf => by
    cases x with
    | bool b =>
      simp only [fitS] at hf
      simp only [denS, denV] at h
      obtain ⟨v, l', rfl, rfl, h⟩ := h
      exact ⟨b, l', rfl, fitS_den h hf⟩
    | _ => simp [fitS] at hf
  | .arr k n :: r, .ints k' m f :: s, l, h, hf => by
    simp only [fitS, Bool.and_eq_true] at hf
    have := sameK_eq hf.1.1
    subst this
    have := Nat.eq_of_beq_eq_true hf.1.2
    subst this
    simp only [denS] at h
    obtain ⟨l', rfl, h⟩ := h
    exact ⟨f, l', rfl, fitS_den h hf.2⟩
  | [], _ :: _, _, _, hf => by simp [fitS] at hf
  | .int _ :: _, [], _, _, hf => by simp [fitS] at hf
  | .bool :: _, [], _, _, hf => by simp [fitS] at hf
  | .arr _ _ :: _, [], _, _, hf => by simp [fitS] at hf
  | .int _ :: _, .ints .. :: _, _, _, hf => by simp [fitS] at hf
  | .bool :: _, .ints .. :: _, _, _, hf => by simp [fitS] at hf
  | .arr _ _ :: _, .one _ :: _, _, _, hf => by simp [fitS] at hf

theorem cellsEq_of : ∀ {l m : List Value} {r : Bool}, eqCells l m = some r → cellsEq l m = r
  | [], [], r, h => by simpa [eqCells, cellsEq] using h
  | [], _ :: _, _, h => by simp [eqCells] at h
  | x :: l, [], _, h => by cases x <;> simp [eqCells] at h
  | x :: l, y :: m, r, h => by
    cases x with
    | int k a =>
      cases y with
      | int k' b =>
        simp only [eqCells] at h
        split at h
        · simp only [Option.map_eq_some_iff] at h
          obtain ⟨s, h1, h2⟩ := h
          simp only [cellsEq, cellsEq_of h1]
          exact h2
        · cases h
      | _ => simp [eqCells] at h
    | bool a =>
      cases y with
      | bool b =>
        simp only [eqCells, Option.map_eq_some_iff] at h
        obtain ⟨s, h1, h2⟩ := h
        simp only [cellsEq, cellsEq_of h1]
        exact h2
      | _ => simp [eqCells] at h
    | _ => cases y <;> simp [eqCells] at h

theorem binX_snd (T : Tbl) {E : Emb} (w : World) (op : BinOp) (t : TypeId) (ox oy : Operand) (x y : EV) (u v : Value) (hx : denE E x u) (hy : denE E y v) :
    (binX T op t x y).snd E T.P w (do eqGuard op t ox oy u v; binOp op t u v) := by
  unfold binX
  split
  · -- whole numbers
    rename_i k a k' b
    simp only [denE, denV] at hx hy
    subst hx; subst hy
    have hg : (eqGuard op t ox oy (Value.int k a) (Value.int k' b)) = pure () := eqGuard_at_int ..
    rw [hg]
    simp only [pure_bind]
    split
    · intro hb
      refine ⟨_, ?_, rfl⟩
      have : ¬ b < 0 := by omega
      simp [binOp, Op.shift, this]
    · intro hb
      refine ⟨_, ?_, rfl⟩
      have : ¬ b < 0 := by omega
      simp [binOp, Op.shift, this]
    · rename_i h1 h2
      split
      · rename_i hk
        have := sameK_eq hk
        subst this
        exact intX_snd E T.P w op (fun e => h1 e) (fun e => h2 e) t k a b
      · trivial
  · rename_i a b
    simp only [denE, denV] at hx hy
    subst hx; subst hy
    have hg : (eqGuard op t ox oy (Value.bool a) (Value.bool b)) = pure () := eqGuard_at_bool ..
    rw [hg]
    simp only [pure_bind]
    split
    · rename_i h
      have hd := (T.tyOk t _ h).desc
      simp only [descOk] at hd
      exact ⟨.bool (a == b), run_eql (b := (a == b)) (run_equal fun d => by simp [Op.equalIn, run_underlying hd]) (by intros; simp) (by intros; simp) (by intros; simp) (by intros; simp), rfl⟩
    · rename_i h
      have hd := (T.tyOk t _ h).desc
      simp only [descOk] at hd
      exact ⟨.bool (!(a == b)), run_neq (b := (a == b)) (run_equal fun d => by simp [Op.equalIn, run_underlying hd]) (by intros; simp) (by intros; simp) (by intros; simp) (by intros; simp), rfl⟩
    · trivial
  · rename_i a b
    simp only [denE, denV] at hx hy
    subst hx; subst hy
    have hg : (eqGuard op t ox oy (Value.string a) (Value.string b)) = pure () := eqGuard_at_string ..
    rw [hg]
    simp only [pure_bind]
    split
    · exact ⟨.bool (a == b), by rw [beq_toListBytes]; simp [binOp, Op.stringOp], rfl⟩
    · exact ⟨.bool (a != b), by rw [bne, beq_toListBytes]; simp [binOp, Op.stringOp], rfl⟩
    · intro hb
      have hb' : ¬ (9223372036854775807 < (a.size : Int) + (b.size : Int)) := by omega
      exact ⟨.string (a ++ b), by simp [binOp, Op.stringOp, hb'], rfl⟩
    · trivial
  · rename_i a b
    split
    · rename_i ks hks
      obtain ⟨hgt, n, hn, hpt⟩ := T.eqOk t ks hks
      simp only [denE] at hx hy
      obtain ⟨l, rfl, hl⟩ := hx
      obtain ⟨m, rfl, hm⟩ := hy
      have hg : (eqGuard op t ox oy (.agg l) (.agg m)).run T.P w = .ok () w := run_eqGuard_agg w op t ox oy l m hgt
      have heq : ∀ {r : Bool}, (fitS ks a && fitS ks b) = true → eqSeg a b = some r → (Op.equalIn 10000 t (.agg l) (.agg m)).run T.P w = .ok r w := fun {r} hf hr => by
        simp only [Bool.and_eq_true] at hf
        have h1 := fitS_den hl hf.1
        have h2 := fitS_den hm hf.2
        have h3 := PTn.eq n hpt h1 h2 10000 w hn
        rw [cellsEq_of (eqSeg_cells hl hm hr)] at h3
        exact h3
      split
      · rename_i hf hr
        exact ⟨_, by simp only [Sem.run_bind, hg, Result.andThen_ok]; rw [run_eql_struct, heq hf hr]; rfl, rfl⟩
      · rename_i hf hr
        exact ⟨_, by simp only [Sem.run_bind, hg, Result.andThen_ok]; rw [run_neq_struct, heq hf hr]; rfl, rfl⟩
      · trivial
    · trivial
  · simp only [denE, denV] at hx hy
    obtain ⟨_, rfl⟩ := hx
    subst hy
    have hg : ∀ a b, (eqGuard op t ox oy (Value.pointer a) (Value.pointer b)) = pure () := fun a b => eqGuard_at_pointer ..
    rw [hg]
    simp only [pure_bind]
    split
    · rename_i h
      have hd := (T.tyOk t _ h).desc
      simp only [descOk] at hd
      exact ⟨.bool false, run_eql (b := false) (run_equal fun d => by simp [Op.equalIn, run_underlying hd]) (by intros; simp) (by intros; simp) (by intros; simp) (by intros; simp), rfl⟩
    · rename_i h
      have hd := (T.tyOk t _ h).desc
      simp only [descOk] at hd
      exact ⟨.bool (!false), run_neq (b := false) (run_equal fun d => by simp [Op.equalIn, run_underlying hd]) (by intros; simp) (by intros; simp) (by intros; simp) (by intros; simp), rfl⟩
    · trivial
  · simp only [denE, denV] at hx hy
    subst hx; subst hy
    have hg : ∀ a b, (eqGuard op t ox oy (Value.pointer a) (Value.pointer b)) = pure () := fun a b => eqGuard_at_pointer ..
    rw [hg]
    simp only [pure_bind]
    split
    · rename_i h
      have hd := (T.tyOk t _ h).desc
      simp only [descOk] at hd
      exact ⟨.bool true, run_eql (b := true) (run_equal fun d => by simp [Op.equalIn, run_underlying hd]) (by intros; simp) (by intros; simp) (by intros; simp) (by intros; simp), rfl⟩
    · rename_i h
      have hd := (T.tyOk t _ h).desc
      simp only [descOk] at hd
      exact ⟨.bool (!true), run_neq (b := true) (run_equal fun d => by simp [Op.equalIn, run_underlying hd]) (by intros; simp) (by intros; simp) (by intros; simp) (by intros; simp), rfl⟩
    · trivial
  · simp only [denE, denV] at hx hy
    obtain ⟨_, rfl⟩ := hx
    subst hy
    have hg : ∀ a b c d, (eqGuard op t ox oy (Value.slice a b c) d) = pure () := fun a b c d => eqGuard_at_slice ..
    rw [hg]
    simp only [pure_bind]
    split
    · rename_i h
      have hd := (T.tyOk t _ h).desc
      simp only [descOk] at hd
      exact ⟨.bool false, run_eql (b := false) (run_equal fun d => by simp [Op.equalIn, run_underlying hd]) (by intros; simp) (by intros; simp) (by intros; simp) (by intros; simp), rfl⟩
    · rename_i h
      have hd := (T.tyOk t _ h).desc
      simp only [descOk] at hd
      exact ⟨.bool (!false), run_neq (b := false) (run_equal fun d => by simp [Op.equalIn, run_underlying hd]) (by intros; simp) (by intros; simp) (by intros; simp) (by intros; simp), rfl⟩
    · trivial
  · simp only [denE, denV] at hx hy
    subst hx; subst hy
    have hg : ∀ a b c d, (eqGuard op t ox oy (Value.slice a b c) d) = pure () := fun a b c d => eqGuard_at_slice ..
    rw [hg]
    simp only [pure_bind]
    split
    · rename_i h
      have hd := (T.tyOk t _ h).desc
      simp only [descOk] at hd
      exact ⟨.bool true, run_eql (b := true) (run_equal fun d => by simp [Op.equalIn, run_underlying hd]) (by intros; simp) (by intros; simp) (by intros; simp) (by intros; simp), rfl⟩
    · rename_i h
      have hd := (T.tyOk t _ h).desc
      simp only [descOk] at hd
      exact ⟨.bool (!true), run_neq (b := true) (run_equal fun d => by simp [Op.equalIn, run_underlying hd]) (by intros; simp) (by intros; simp) (by intros; simp) (by intros; simp), rfl⟩
    · trivial
  · simp only [denE, denV] at hx hy
    obtain ⟨f', c', rfl, _⟩ := hx
    subst hy
    have hg : ∀ a b c d, (eqGuard op t ox oy (Value.func a b c) d) = pure () := fun a b c d => by cases op <;> rfl
    rw [hg]
    simp only [pure_bind]
    split
    · rename_i h
      obtain ⟨ps, rs, vv, hd⟩ := (T.tyOk t _ h).desc
      exact ⟨.bool false, run_eql (b := false) (run_equal fun d => by simp [Op.equalIn, run_underlying hd]) (by intros; simp) (by intros; simp) (by intros; simp) (by intros; simp), rfl⟩
    · rename_i h
      obtain ⟨ps, rs, vv, hd⟩ := (T.tyOk t _ h).desc
      exact ⟨.bool (!false), run_neq (b := false) (run_equal fun d => by simp [Op.equalIn, run_underlying hd]) (by intros; simp) (by intros; simp) (by intros; simp) (by intros; simp), rfl⟩
    · trivial
  · simp only [denE, denV] at hx hy
    subst hx; subst hy
    have hg : ∀ d, (eqGuard op t ox oy Value.nilFunc d) = pure () := fun d => by cases op <;> rfl
    rw [hg]
    simp only [pure_bind]
    split
    · rename_i h
      obtain ⟨ps, rs, vv, hd⟩ := (T.tyOk t _ h).desc
      exact ⟨.bool true, run_eql (b := true) (run_equal fun d => by simp [Op.equalIn, run_underlying hd]) (by intros; simp) (by intros; simp) (by intros; simp) (by intros; simp), rfl⟩
    · rename_i h
      obtain ⟨ps, rs, vv, hd⟩ := (T.tyOk t _ h).desc
      exact ⟨.bool (!true), run_neq (b := true) (run_equal fun d => by simp [Op.equalIn, run_underlying hd]) (by intros; simp) (by intros; simp) (by intros; simp) (by intros; simp), rfl⟩
    · trivial
  · trivial

theorem binY_snd (T : Tbl) {E : Emb} (w : World) (op : BinOp) (t : TypeId) (ox oy : Operand) (x y : EV) (u v : Value) (hx : denE E x u) (hy : denE E y v) :
    (binY T (cnst ox || cnst oy) op t x y).snd E T.P w (do eqGuard op t ox oy u v; binOp op t u v) := by
  unfold binY
  split
  · rename_i t' ag cs
    have hu : ∃ z, u = .iface t' z := by
      cases ag <;> (simp only [denE, denV] at hx; obtain ⟨z, rfl, _⟩ := hx; exact ⟨_, rfl⟩)
    obtain ⟨z, rfl⟩ := hu
    simp only [denE, denV] at hy
    subst hy
    split
    · rename_i h
      have hd := (T.tyOk t _ h).desc
      simp only [descOk] at hd
      obtain ⟨ms, hd⟩ := hd
      refine ⟨.bool false, ?_, rfl⟩
      have hg : (eqGuard .eql t ox oy (.iface t' z) .nilIface).run T.P w = .ok () w := by simp [eqGuard]
      simp only [Sem.run_bind, hg, Result.andThen_ok]
      exact run_eql (b := false) (run_equal fun d => by simp [Op.equalIn, run_underlying hd]) (by intros; simp) (by intros; simp) (by intros; simp) (by intros; simp)
    · rename_i h
      have hd := (T.tyOk t _ h).desc
      simp only [descOk] at hd
      obtain ⟨ms, hd⟩ := hd
      refine ⟨.bool true, ?_, rfl⟩
      have hg : (eqGuard .neq t ox oy (.iface t' z) .nilIface).run T.P w = .ok () w := by simp [eqGuard]
      simp only [Sem.run_bind, hg, Result.andThen_ok]
      exact run_neq (b := false) (run_equal fun d => by simp [Op.equalIn, run_underlying hd]) (by intros; simp) (by intros; simp) (by intros; simp) (by intros; simp)
    · trivial
  · simp only [denE, denV] at hx hy
    subst hx hy
    have hgo : (cnst ox || cnst oy) = true → ∀ op, (eqGuard op t ox oy .nilIface .nilIface).run T.P w = .ok () w := fun hc op => by
      cases ox <;> cases oy <;> simp [cnst] at hc <;> (simp [eqGuard]; try (cases op <;> simp))
    split
    · rename_i h hc
      have hd := (T.tyOk t _ h).desc
      simp only [descOk] at hd
      obtain ⟨ms, hd⟩ := hd
      refine ⟨.bool true, ?_, rfl⟩
      simp only [Sem.run_bind, hgo hc, Result.andThen_ok]
      exact run_eql (b := true) (run_equal fun d => by simp [Op.equalIn, run_underlying hd]) (by intros; simp) (by intros; simp) (by intros; simp) (by intros; simp)
    · rename_i h hc
      have hd := (T.tyOk t _ h).desc
      simp only [descOk] at hd
      obtain ⟨ms, hd⟩ := hd
      refine ⟨.bool false, ?_, rfl⟩
      simp only [Sem.run_bind, hgo hc, Result.andThen_ok]
      exact run_neq (b := true) (run_equal fun d => by simp [Op.equalIn, run_underlying hd]) (by intros; simp) (by intros; simp) (by intros; simp) (by intros; simp)
    · trivial
  · exact binX_snd T w op t ox oy x y u v hx hy

theorem unX_snd {E : Emb} (P : Program) (w : World) (op : UnOp) (x : EV) (u : Value) (hx : denE E x u) : (unX op x).snd E P w (Op.unary op u) := by
  unfold unX
  split
  · simp only [denE, denV] at hx; subst hx; exact ⟨_, rfl, rfl⟩
  · simp only [denE, denV] at hx; subst hx; exact ⟨_, rfl, rfl⟩
  · simp only [denE, denV] at hx; subst hx; exact ⟨_, rfl, rfl⟩
  · trivial

theorem pickX_snd {E : Emb} (P : Program) (w : World) (t : Bool) (a b : EV) (u v : Value) (ha : denE E a u) (hb : denE E b v) (m : Sem Value) (hm : m = pure (if t then u else v)) : (pickX t a b).snd E P w m := by
  unfold pickX
  split
  · simp only [denE, denV] at ha hb; subst ha; subst hb; exact ⟨_, by rw [hm]; rfl, by cases t <;> rfl⟩
  · simp only [denE, denV] at ha hb
    intro h
    cases t
    · subst hb; exact ⟨_, by rw [hm]; rfl, rfl⟩
    · have := ha.1 (h rfl); subst this; exact ⟨_, by rw [hm]; rfl, rfl⟩
  · simp only [denE, denV] at ha hb
    intro h
    cases t
    · have := hb.1 (h rfl); subst this; exact ⟨_, by rw [hm]; rfl, rfl⟩
    · subst ha; exact ⟨_, by rw [hm]; rfl, rfl⟩
  · split
    · rename_i hk
      have := sameK_eq hk
      subst this
      simp only [denE, denV] at ha hb; subst ha; subst hb; exact ⟨_, by rw [hm]; rfl, by cases t <;> rfl⟩
    · trivial
  · split
    · rename_i hk
      have := sameK_eq hk
      subst this
      simp only [denE, denV] at ha hb
      intro h
      cases t
      · subst hb; exact ⟨_, by rw [hm]; rfl, rfl⟩
      · have := ha.1 (h rfl); subst this; exact ⟨_, by rw [hm]; rfl, rfl⟩
    · trivial
  · split
    · rename_i hk
      have := sameK_eq hk
      subst this
      simp only [denE, denV] at ha hb
      intro h
      cases t
      · have := hb.1 (h rfl); subst this; exact ⟨_, by rw [hm]; rfl, rfl⟩
      · subst ha; exact ⟨_, by rw [hm]; rfl, rfl⟩
    · trivial
  · simp only [denE, denV] at hb
    rintro rfl
    subst hb; exact ⟨_, by rw [hm]; rfl, rfl⟩
  · simp only [denE, denV] at ha
    rintro rfl
    subst ha; exact ⟨_, by rw [hm]; rfl, rfl⟩
  · simp only [denE, denV] at hb
    rintro rfl
    subst hb; exact ⟨_, by rw [hm]; rfl, rfl⟩
  · simp only [denE, denV] at ha
    rintro rfl
    subst ha; exact ⟨_, by rw [hm]; rfl, rfl⟩
  · trivial

theorem fieldOf_get : ∀ {fs : List (TypeId × Nat)} {i : Nat} {r : TypeId × Nat}, fieldOf fs i = some r → fs[i]? = some r
  | [], _, _, h => by simp [fieldOf] at h
  | x :: fs, 0, r, h => by simpa [fieldOf] using h
  | x :: fs, i + 1, r, h => by simp only [fieldOf] at h; simpa using fieldOf_get h

theorem field_of {P : Program} {t : TypeId} {fs : List (TypeId × Nat)} {i : Nat} {ft off : Nat} (hd : descOk P t (.struct fs)) (h : fieldOf fs i = some (ft, off)) :
    ∃ a f, P.underlying t = some (.struct a) ∧ a[i]? = some f ∧ f.type = ft ∧ f.offset = off := by
  obtain ⟨a, ha, hm⟩ := hd
  have h1 := fieldOf_get h
  rw [← hm] at h1
  simp only [List.getElem?_map, Option.map_eq_some_iff, Array.getElem?_toList, Prod.mk.injEq] at h1
  obtain ⟨f, h2, h3, h4⟩ := h1
  exact ⟨a, f, ha, h2, h3, h4⟩

theorem valV_den {E : Emb} {e : SV} {v : Value} (h : valV e = some v) : denV E e v := by
  cases e <;> simp only [valV, Option.some.injEq, reduceCtorEq] at h <;> subst h <;> simp only [denV]

theorem valS_den {E : Emb} : ∀ {cs : List Seg} {l : List Value}, valS cs = some l → denS E cs l
  | [], l, h => by simp only [valS, Option.some.injEq] at h; subst h; rfl
  | .one v :: r, l, h => by
    simp only [valS] at h
    split at h
    · rename_i x l' h1 h2
      simp only [Option.some.injEq] at h
      subst h
      exact ⟨x, l', rfl, valV_den h1, valS_den h2⟩
    · cases h
  | .ints k n f :: r, l, h => by
    simp only [valS] at h
    split at h
    · rename_i l' h2
      simp only [Option.some.injEq] at h
      subst h
      exact ⟨l', rfl, valS_den h2⟩
    · cases h

theorem valE_den {E : Emb} {e : EV} {v : Value} (h : valE e = some v) : denE E e v := by
  cases e with
  | s x => simp only [denE]; exact valV_den h
  | agg cs =>
    simp only [valE] at h
    split at h
    · rename_i l hl
      simp only [Option.some.injEq] at h
      subst h
      exact ⟨_, rfl, by simpa using valS_den hl⟩
    · cases h
  | _ => simp [valE] at h

theorem run_sizeOf_ti (T : Tbl) {t : TypeId} {i : TI} (h : T.ty t = some i) (w : World) : (sizeOf t).run T.P w = .ok i.size w := by
  have h1 := (T.tyOk t i h).size
  cases hq : T.P.info? t with
  | none => rw [hq] at h1; cases h1
  | some x =>
    rw [hq] at h1
    simp at h1
    simp [sizeOf, typeInfo, hq, h1]

theorem run_zero_ti (T : Tbl) {t : TypeId} {i : TI} (h : T.ty t = some i) (w : World) : ∃ z, (zeroValue t).run T.P w = .ok z w ∧ ∀ E, denE E i.zero z := by
  obtain ⟨z, h1, h2⟩ := (T.tyOk t i h).zero
  cases hq : T.P.info? t with
  | none => rw [hq] at h2; cases h2
  | some x =>
    rw [hq] at h2
    simp at h2
    exact ⟨z, by simp [zeroValue, typeInfo, hq, h2], fun E => valE_den h1⟩

theorem run_isAgg_ti (T : Tbl) {t : TypeId} {i : TI} (h : T.ty t = some i) (w : World) : (isAgg t).run T.P w = .ok i.d.agg w := by
  have hd := (T.tyOk t i h).desc
  unfold isAgg
  cases hdd : i.d <;> rw [hdd] at hd <;> simp only [descOk] at hd
  case struct fs => obtain ⟨a, ha, _⟩ := hd; simp [run_underlying ha, TD.agg]
  case iface => obtain ⟨a, ha⟩ := hd; simp [run_underlying ha, TD.agg]
  case other => obtain ⟨a, b, c, ha⟩ := hd; simp [run_underlying ha, TD.agg]
  all_goals simp [run_underlying hd, TD.agg]

theorem fieldAddrX_snd (T : Tbl) {E : Emb} (w : World) (t : TypeId) (x : EV) (i : Nat) (u : Value) (hx : denE E x u) : (fieldAddrX T t x i).snd E T.P w (Instr.fieldAt t u i) := by
  unfold fieldAddrX
  split
  · rename_i fs h1
    split
    · rename_i ft off h2
      obtain ⟨a, f, ha, hf, rfl, rfl⟩ := field_of (T.tyOk _ _ h1).desc h2
      split
      · rename_i h3
        have hsz := run_sizeOf_ti T h3 w
        split
        · simp only [denE, denV] at hx
          obtain ⟨hb, rfl⟩ := hx
          refine ⟨_, ?_, ⟨hb, rfl⟩⟩
          simp [Instr.fieldAt, run_underlying ha, hf, Instr.sureAddr, fieldPlace, hsz, Emb.at_add]
        · simp only [denE, denV] at hx
          obtain ⟨hb, rfl⟩ := hx
          split
          · rename_i ho
            refine ⟨_, ?_, ⟨hb, rfl⟩⟩
            simp [Instr.fieldAt, run_underlying ha, hf, Instr.sureAddr, fieldPlace, hsz, Emb.at_add, ho]
          · trivial
        · trivial
      · trivial
    · trivial
  · trivial

theorem partX_snd (T : Tbl) {E : Emb} (w : World) (t : TypeId) (cs : List Seg) (off : Nat) (l : Array Value) (hl : denS E cs l.toList) : (partX T t cs off).snd E T.P w (part t l off) := by
  unfold partX
  split
  · rename_i i h
    have hag := run_isAgg_ti T h w
    have hsz := run_sizeOf_ti T h w
    split
    · rename_i hg
      split
      · rename_i r hr
        split
        · rename_i c hc
          obtain ⟨h1, h2⟩ := dropS_den hl hr
          obtain ⟨h3, h4, h5⟩ := takeS_den h1 hc
          refine ⟨_, ?_, ⟨l.extract off (off + i.size), rfl, ?_⟩⟩
          · simp [part, hag, hg, hsz]
          · rw [Array.toList_extract]
            simpa [List.extract_eq_take_drop] using h3
        · trivial
      · trivial
    · rename_i hg
      split
      · rename_i v hv
        obtain ⟨u, h1, h2⟩ := getS_den hl hv
        refine ⟨u, ?_, h2⟩
        rw [Array.getElem?_toList] at h1
        simp [part, hag, hg, h1]
      · trivial
  · trivial

theorem fieldX_snd (T : Tbl) {E : Emb} (w : World) (t : TypeId) (x : EV) (i : Nat) (u : Value) (hx : denE E x u) : (fieldX T t x i).snd E T.P w (Instr.field t u i) := by
  unfold fieldX
  split
  · rename_i fs cs h1
    split
    · rename_i ft off h2
      obtain ⟨a, f, ha, hf, rfl, rfl⟩ := field_of (T.tyOk _ _ h1).desc h2
      simp only [denE] at hx
      obtain ⟨l, rfl, hl⟩ := hx
      have := partX_snd T w f.type cs f.offset l hl
      have hr : (Instr.field t (.agg l) i).run T.P w = (part f.type l f.offset).run T.P w := by simp [Instr.field, run_underlying ha, hf, asAgg]
      unfold PR.snd at this ⊢
      split at this <;> simp_all
    · trivial
  · trivial

theorem nthB_get : ∀ {h : List Blk} {b : Nat} {B : Blk}, nthB h b = some B → h[b]? = some B
  | [], _, _, h => by simp [nthB] at h
  | x :: r, 0, B, h => by simpa [nthB] using h
  | x :: r, b + 1, B, h => by simp only [nthB] at h; simpa using nthB_get h

theorem indexAddrX_snd (T : Tbl) {E : Emb} {h : List Blk} (w : World) (t : TypeId) (x i : EV) (u v : Value) (hx : denE E x u) (hv : denE E i v) : (indexAddrX T h t x i).snd E T.P w (Instr.indexAt t u v) := by
  unfold indexAddrX
  split
  · rename_i n e b o k i h1
    have hd := (T.tyOk _ _ h1).desc
    simp only [descOk] at hd
    simp only [denE, denV] at hx hv
    obtain ⟨hb, rfl⟩ := hx
    subst hv
    split
    · rename_i te m cs sp h2 h3
      have hsz := run_sizeOf_ti T h2 w
      split
      · split
        · rename_i hs
          intro hi
          refine ⟨_, ?_, ⟨hb, rfl⟩⟩
          simp [Instr.indexAt, asIntOf, run_underlying hd, Instr.sureAddr, hi, hsz, hs, Emb.at_add]
        · trivial
      · intro hi
        refine ⟨_, ?_, ⟨hb, rfl⟩⟩
        simp [Instr.indexAt, asIntOf, run_underlying hd, Instr.sureAddr, hi, hsz, Emb.at_add]
    · trivial
  · rename_i e b o len cap k i h1
    have hd := (T.tyOk _ _ h1).desc
    simp only [descOk] at hd
    simp only [denE, denV] at hx hv
    obtain ⟨hb, rfl⟩ := hx
    subst hv
    split
    · rename_i te m cs sp h2 h3
      have hsz := run_sizeOf_ti T h2 w
      split
      · split
        · rename_i hs
          intro hi
          refine ⟨_, ?_, ⟨hb.1, rfl⟩⟩
          simp [Instr.indexAt, asIntOf, run_underlying hd, Instr.sureAddr, hi, hsz, hs, Emb.at_add]
        · trivial
      · intro hi
        refine ⟨_, ?_, ⟨hb.1, rfl⟩⟩
        simp [Instr.indexAt, asIntOf, run_underlying hd, Instr.sureAddr, hi, hsz, Emb.at_add]
    · trivial
  · rename_i e b o len cap k i h1
    have hd := (T.tyOk _ _ h1).desc
    simp only [descOk] at hd
    simp only [denE, denV] at hx hv
    obtain ⟨hb, hnl, rfl⟩ := hx
    subst hv
    have hin : 0 ≤ i ∧ i < (len : Int) → (if (E.f b).nl = true then none else some (E.at b o)) = some (E.at b o) := fun hi => by
      cases hq : (E.f b).nl with
      | false => rfl
      | true => have := (hnl hq).1; omega
    generalize (if (E.f b).nl = true then none else some (E.at b o)) = ad at hin ⊢
    split
    · rename_i te m cs sp h2 h3
      have hsz := run_sizeOf_ti T h2 w
      split
      · split
        · rename_i hs
          intro hi
          refine ⟨_, ?_, ⟨hb, rfl⟩⟩
          simp [Instr.indexAt, asIntOf, run_underlying hd, Instr.sureAddr, hi, hsz, hs, Emb.at_add, hin hi]
        · trivial
      · intro hi
        refine ⟨_, ?_, ⟨hb, rfl⟩⟩
        simp [Instr.indexAt, asIntOf, run_underlying hd, Instr.sureAddr, hi, hsz, Emb.at_add, hin hi]
    · trivial
  · trivial

/-- Cells of a row, loaded. -/
theorem run_loadVar_cells (T : Tbl) {t : TypeId} {i : TI} (ht : T.ty t = some i) (hag : i.d.agg = true) (w : World) (a : Addr) (l : List Value) (hl : l.length = i.size)
    (h : ∀ j v, l[j]? = some v → w.cell? (a.add j) = some v) : (loadVar t a).run T.P w = .ok (.agg l.toArray) w := by
  have h1 := run_isAgg_ti T ht w
  have h2 := run_sizeOf_ti T ht w
  have h3 := run_loadCells_list (P := T.P) w a l h
  simp [loadVar, h1, hag, h2, ← hl, h3]

theorem loadX_snd (T : Tbl) {E : Emb} {h : List Blk} {w : World} (S : Sim E h w) (t : TypeId) (x : EV) (u : Value) (hx : denE E x u) : (loadX T h t x).snd E T.P w (Instr.loadAt t u) := by
  unfold loadX
  split
  · rename_i i b o h1
    simp only [denE, denV] at hx
    obtain ⟨hb, rfl⟩ := hx
    split
    · rename_i m cs sp h2
      obtain ⟨l, hl, hw, _⟩ := S.look (nthB_get h2)
      split
      · rename_i hg
        split
        · rename_i r hr
          split
          · rename_i c hc
            obtain ⟨h3, h4⟩ := dropS_den hl hr
            obtain ⟨h5, h6, h7⟩ := takeS_den h3 hc
            refine ⟨_, ?_, ⟨((l.drop o).take i.size).toArray, rfl, by simpa using h5⟩⟩
            simp only [Instr.loadAt, Instr.sureAddr, Sem.run_bind, Sem.run_pure, Result.andThen_ok]
            refine run_loadVar_cells T h1 hg w _ _ (by rw [denS_length h5, h6]) (fun j v hj => ?_)
            rw [Emb.at_add]
            simp only [List.getElem?_take, List.getElem?_drop] at hj
            split at hj
            · have := hw (o + j) v hj
              simpa [Emb.at, Nat.add_assoc] using this
            · cases hj
          · trivial
        · trivial
      · rename_i hg
        split
        · rename_i v hv
          obtain ⟨z, h3, h4⟩ := getS_den hl hv
          refine ⟨z, ?_, h4⟩
          have h5 := run_isAgg_ti T h1 w
          have h6 := hw o z h3
          have h7 : w.cell? (E.at b o) = some z := h6
          simp [Instr.loadAt, Instr.sureAddr, loadVar, h5, hg, h7]
        · trivial
    · trivial
  · rename_i i b o j h1
    simp only [denE, denV] at hx
    obtain ⟨hb, rfl⟩ := hx
    split
    · rename_i m cs sp h2
      obtain ⟨l, hl, hw, _⟩ := S.look (nthB_get h2)
      split
      · trivial
      · rename_i hg
        split
        · rename_i k n f hi
          intro hj
          have h3 := getI_den hl hi j hj
          have h6 := hw _ _ h3
          have h7 : w.cell? (E.at b (o + j)) = some (.int k (f j)) := by simpa [Emb.at] using h6
          have h5 := run_isAgg_ti T h1 w
          exact ⟨_, by simp [Instr.loadAt, Instr.sureAddr, loadVar, h5, hg, h7], rfl⟩
        · trivial
    · trivial
  · trivial

theorem svs_den {E : Emb} : ∀ {l : List EV} {vs : List SV} {us : List Value}, denT E l us → svs l = some vs → denL E vs us
  | [], _, _, hd, h => by
    simp only [svs, Option.some.injEq] at h
    subst h
    simpa only [denL, denT] using hd
  | .s v :: r, vs, us, hd, h => by
    simp only [svs, Option.map_eq_some_iff] at h
    obtain ⟨c, hc, rfl⟩ := h
    simp only [denT] at hd
    obtain ⟨u, l', rfl, h1, h2⟩ := hd
    simp only [denE] at h1
    simp only [denL]
    exact ⟨u, l', rfl, h1, svs_den h2 hc⟩
  | .agg _ :: _, _, _, _, h => by simp [svs] at h
  | .tuple _ :: _, _, _, _, h => by simp [svs] at h
  | .gd _ _ :: _, _, _, _, h => by simp [svs] at h
  | .junk :: _, _, _, _, h => by simp [svs] at h

theorem denT_map {E : Emb} (ev : Operand → EV) (ρ : Operand → Value) : ∀ (l : List Operand), (∀ x ∈ l, denE E (ev x) (ρ x)) → denT E (l.map ev) (l.map ρ)
  | [], _ => by simp [denT]
  | x :: r, h => by
    simp only [List.map_cons, denT]
    exact ⟨_, _, rfl, h x (by simp), denT_map ev ρ r (fun y hy => h y (by simp [hy]))⟩

theorem denL_append {E : Emb} : ∀ {a b : List SV} {l m : List Value}, denL E a l → denL E b m → denL E (a ++ b) (l ++ m)
  | [], b, l, m, h1, h2 => by simp only [denL] at h1; subst h1; exact h2
  | x :: a, b, l, m, h1, h2 => by
    simp only [denL] at h1
    obtain ⟨v, l', rfl, h3, h4⟩ := h1
    exact ⟨v, l' ++ m, rfl, h3, denL_append h4 h2⟩

theorem flat_den {E : Emb} : ∀ {cs : List Seg} {vs : List SV} {l : List Value}, denS E cs l → flat cs = some vs → denL E vs l
  | [], _, _, hd, h => by
    simp only [flat, Option.some.injEq] at h
    subst h
    simpa only [denL, denS] using hd
  | .one v :: r, vs, l, hd, h => by
    simp only [flat, Option.map_eq_some_iff] at h
    obtain ⟨c, hc, rfl⟩ := h
    simp only [denS] at hd
    obtain ⟨u, l', rfl, h1, h2⟩ := hd
    simp only [denL]
    exact ⟨u, l', rfl, h1, flat_den h2 hc⟩
  | .ints k n f :: r, vs, l, hd, h => by
    simp only [flat, Option.map_eq_some_iff] at h
    obtain ⟨c, hc, rfl⟩ := h
    simp only [denS] at hd
    obtain ⟨l', rfl, h2⟩ := hd
    refine denL_append ?_ (flat_den h2 hc)
    have key : ∀ js : List Nat, denL E (js.map fun j => SV.int k (f j)) (js.map fun j => Value.int k (f j)) := fun js => by
      induction js with
      | nil => simp [denL]
      | cons j js ih => simp only [List.map_cons, denL]; exact ⟨_, _, rfl, by simp only [denV], ih⟩
    exact key _

theorem nthE_den {E : Emb} : ∀ {vs : List EV} {l : List Value} {i : Nat} {v : EV}, denT E vs l → nthE vs i = some v → ∃ u, l[i]? = some u ∧ denE E v u
  | [], _, _, _, _, h => by simp [nthE] at h
  | x :: r, l, 0, v, hd, h => by
    simp only [nthE, Option.some.injEq] at h
    subst h
    simp only [denT] at hd
    obtain ⟨u, l', rfl, h1, _⟩ := hd
    exact ⟨u, by simp, h1⟩
  | x :: r, l, i + 1, v, hd, h => by
    simp only [nthE] at h
    simp only [denT] at hd
    obtain ⟨u, l', rfl, _, h2⟩ := hd
    obtain ⟨z, h3, h4⟩ := nthE_den h2 h
    exact ⟨z, by simpa using h3, h4⟩


/-! ### what slices and strings yield -/

theorem byteCells_intsOf (s : ByteArray) : byteCells s = intsOf .u8 s.size (strF s) := by
  apply List.ext_getElem?
  intro j
  have hsz : s.size = s.data.toList.length := by rw [Array.length_toList]; rfl
  rcases Nat.lt_or_ge j s.size with h | h
  · rw [intsOf_get h]
    have h' : j < s.data.toList.length := by rw [← hsz]; exact h
    simp only [byteCells, List.getElem?_map, List.getElem?_eq_getElem h', Option.map_some, strF]
    rw [List.getD_eq_getElem?_getD, List.getElem?_map, List.getElem?_eq_getElem h']
    rfl
  · rw [List.getElem?_eq_none (by rw [byteCells_length]; exact h), List.getElem?_eq_none (by rw [length_intsOf]; exact h)]

/-- Cells that lie behind one another from a place on. -/
def atPlace (w : World) (a : Addr) (l : List Value) : Prop := ∀ j v, l[j]? = some v → w.cell? (a.add j) = some v

theorem intsOf_sub {k : IntKind} {m : Nat} {f : Nat → Int} {w : World} {b off o n : Nat} {l : List Value} (hl : l = intsOf k m f) (h : ∀ j v, l[j]? = some v → w.cell? ⟨b, off + j, none⟩ = some v) (ho : o + n ≤ m) :
    ∀ j v, (intsOf k n (shf o f))[j]? = some v → w.cell? ⟨b, off + o + j, none⟩ = some v := by
  subst hl
  intro j v hj
  rcases Nat.lt_or_ge j n with h1 | h1
  · rw [intsOf_get h1] at hj
    rw [Nat.add_assoc]
    refine h (o + j) v ?_
    rw [intsOf_get (by omega)]
    exact hj
  · rw [List.getElem?_eq_none (by rw [length_intsOf]; exact h1)] at hj
    cases hj

theorem rngAt_snd {E : Emb} {h : List Blk} {w : World} (S : Sim E h w) {size b o n : Nat} {r : Rng} (hr : rngAt h size b o n = some r) (hp : r.p) :
    ∃ news, denS E r.cs news ∧ news.length = n * size ∧ r.n = n ∧ (∀ j v, news[j]? = some v → w.cell? ⟨(E.f b).1, (E.f b).2 + o + j, none⟩ = some v) := by
  unfold rngAt at hr
  split at hr
  · rename_i m k q f sp hb
    obtain ⟨l, h1, h2, _⟩ := S.look (nthB_get hb)
    split at hr
    · simp only [Option.some.injEq] at hr
      subst hr
      simp only [denS] at h1
      obtain ⟨l', h1, rfl⟩ := h1
      rw [List.append_nil] at h1
      exact ⟨intsOf k n (shf o f), ⟨[], by rw [List.append_nil], rfl⟩, by rw [length_intsOf, Nat.mul_one], rfl, intsOf_sub h1 h2 hp⟩
    · cases hr
  · rename_i m cs sp _ hb
    obtain ⟨l, h1, h2, _⟩ := S.look (nthB_get hb)
    split at hr
    · simp only [Option.some.injEq] at hr
      subst hr
      exact ⟨l, h1, by rw [denS_length h1]; exact hp, rfl, by simpa using h2⟩
    · cases hr
  · cases hr

/-- **What a slice or a string yields.** -/
theorem rngX_snd (T : Tbl) {E : Emb} {h : List Blk} {w : World} (S : Sim E h w) {size : Nat} {y : EV} {v : Value} (hy : denE E y v) {r : Rng} (hr : rngX h size y = some r) (hp : r.p) {tx : TypeId}
    (hk : (∃ s, y = .s (.str s)) ∧ T.P.underlying tx = some .string ∨ (¬ ∃ s, y = .s (.str s)) ∧ ∃ e', T.P.underlying tx = some (.slice e')) :
    ∃ news, denS E r.cs news ∧ Src T.P size tx v r.n news w := by
  unfold rngX at hr
  split at hr
  · simp only [Option.some.injEq] at hr
    subst hr
    simp only [denE, denV] at hy
    subst hy
    rcases hk with ⟨⟨s, hs⟩, _⟩ | ⟨_, e', hk⟩
    · cases hs
    · exact ⟨[], rfl, Src.ofNil w hk 0⟩
  · rename_i s
    split at hr
    · simp only [Option.some.injEq] at hr
      subst hr
      simp only [denE, denV] at hy
      subst hy
      rcases hk with ⟨_, hk⟩ | ⟨hk, _⟩
      · exact ⟨byteCells s, ⟨[], by rw [List.append_nil, byteCells_intsOf], rfl⟩, Src.ofString w hk s⟩
      · exact absurd ⟨s, rfl⟩ hk
    · cases hr
  · rename_i b o n c
    simp only [denE, denV] at hy
    obtain ⟨hb, rfl⟩ := hy
    rcases hk with ⟨⟨s, hs⟩, _⟩ | ⟨_, e', hk⟩
    · cases hs
    obtain ⟨news, h1, h2, h3, h4⟩ := rngAt_snd S hr hp
    refine ⟨news, h1, ?_⟩
    rw [h3]
    refine Src.ofSlice w hk _ n c news h2 (fun j u hj => ?_) (denS_oneCell h1)
    rw [Emb.at_add]
    unfold Emb.at
    rw [← Nat.add_assoc]
    exact h4 j u hj
  · rename_i b o n c
    simp only [denE, denV] at hy
    obtain ⟨hb, hnl, rfl⟩ := hy
    rcases hk with ⟨⟨s, hs⟩, _⟩ | ⟨_, e', hk⟩
    · cases hs
    obtain ⟨news, h1, h2, h3, h4⟩ := rngAt_snd S hr hp
    refine ⟨news, h1, ?_⟩
    rw [h3]
    cases hq : (E.f b).nl with
    | true =>
      obtain ⟨rfl, rfl⟩ := hnl hq
      obtain rfl : news = [] := List.eq_nil_of_length_eq_zero (by simpa using h2)
      exact Src.ofNil w hk 0
    | false =>
      refine Src.ofSlice w hk _ n c news h2 (fun j u hj => ?_) (denS_oneCell h1)
      rw [Emb.at_add]
      unfold Emb.at
      rw [← Nat.add_assoc]
      exact h4 j u hj
  · cases hr

theorem convX_snd (T : Tbl) {E : Emb} {h : List Blk} {w : World} (S : Sim E h w) (src dst : TypeId) (x : EV) (u : Value) (hx : denE E x u) : (convX T h src dst x).snd E T.P w (convert src dst u) := by
  unfold convX
  split
  · rename_i h1 h2
    split
    · have d1 : T.P.underlying src = some (.int _) := (T.tyOk _ _ h1).desc
      have d2 : T.P.underlying dst = some (.int _) := (T.tyOk _ _ h2).desc
      simp only [denE, denV] at hx; subst hx
      exact ⟨_, by simp [convert, run_underlying d1, run_underlying d2, Conv.intToInt], rfl⟩
    · trivial
  · rename_i e _ _ _ _ _ _ h1 h2
    have d1 : T.P.underlying src = some (.slice _) := (T.tyOk _ _ h1).desc
    have d2 : T.P.underlying dst = some .string := (T.tyOk _ _ h2).desc
    split
    · rename_i h3
      have d3 : T.P.underlying e = some (.int .u8) := (T.tyOk _ _ h3).desc
      have step : ∀ {r : Rng}, isStr x = false → rngX h 1 x = some r → r.p → ∃ news, denS E r.cs news ∧ news.length = r.n ∧
          (u = .slice none 0 0 ∧ r.n = 0 ∨ ∃ a c, u = .slice (some a) r.n c ∧ (loadCells a r.n).run T.P w = .ok news.toArray w) := fun {r} hs hr hp => by
        obtain ⟨news, k1, k2⟩ := rngX_snd T S hx hr hp (tx := src) (.inr ⟨fun ⟨s, h⟩ => (by rw [h] at hs; cases hs), _, d1⟩)
        refine ⟨news, k1, by simpa using k2.newsLen, ?_⟩
        have hlen := k2.len w
        have hc := k2.cells
        unfold rngX at hr
        split at hr
        · simp only [Option.some.injEq] at hr
          subst hr
          simp only [denE, denV] at hx
          exact .inl ⟨hx, rfl⟩
        · cases hs
        · simp only [denE, denV] at hx
          obtain ⟨_, rfl⟩ := hx
          simp only [Builtin.lenOf, Sem.run_pure, Result.ok.injEq, and_true] at hlen
          rw [hlen]
          simp only [Builtin.firstCells, Nat.mul_one] at hc
          exact .inr ⟨_, _, rfl, hc⟩
        · rename_i b o n c
          simp only [denE, denV] at hx
          obtain ⟨_, hnl, rfl⟩ := hx
          simp only [Builtin.lenOf, Sem.run_pure, Result.ok.injEq, and_true] at hlen
          cases hq : (E.f b).nl with
          | true =>
            obtain ⟨h0, h1⟩ := hnl hq
            rw [← hlen]
            exact .inl ⟨by simp [h0, h1], h0⟩
          | false =>
            simp only [hq, Bool.false_eq_true, if_false] at hc ⊢
            simp only [Builtin.firstCells, Nat.mul_one] at hc
            rw [hlen]
            exact .inr ⟨_, _, rfl, hc⟩
        · cases hr
      have fin : ∀ {n : Nat} {f : Nat → Int}, (u = .slice none 0 0 ∧ n = 0 ∨ ∃ a c, u = .slice (some a) n c ∧ (loadCells a n).run T.P w = .ok (intsOf .u8 n f).toArray w) → (convert src dst u).run T.P w = .ok (.string (bytesOf n f)) w := fun {n f} hu => by
        rcases hu with ⟨rfl, rfl⟩ | ⟨a, c, rfl, hl⟩
        · simp [convert, run_underlying d1, run_underlying d2, run_underlying d3, Conv.bytesToString, bytesOf]
        · have := run_bytesToString (P := T.P) w a n c ((List.range n).map f) (by rw [List.map_map]; exact hl)
          simp [convert, run_underlying d1, run_underlying d2, run_underlying d3, this, bytesOf]
      split
      · rename_i p n hs hr
        rintro ⟨hp, hn0⟩
        subst hn0
        obtain ⟨news, k1, k2, k3⟩ := step hs hr hp
        simp only [denS] at k1
        subst k1
        refine ⟨_, ?_, rfl⟩
        have := fin (n := 0) (f := fun _ => 0) (by simpa [intsOf] using k3)
        simpa [bytesOf] using this
      · rename_i p n k' f hs hr
        intro hp
        obtain ⟨news, k1, k2, k3⟩ := step hs hr hp
        simp only [denS] at k1
        obtain ⟨l', rfl, rfl⟩ := k1
        rw [List.append_nil] at k2 k3
        rw [length_intsOf] at k2
        subst k2
        exact ⟨_, fin k3, rfl⟩
      · trivial
    · trivial
  · trivial

theorem boundX_run {E : Emb} {b : Option EV} {v : Option Value} {d : Nat} {i : Int} (h : boundX b d = some i) (hd : ∀ e ∈ b, ∃ x ∈ v, denE E e x) (hn : b = none → v = none) :
    (v = none ∧ i = d) ∨ ∃ k, v = some (.int k i) := by
  unfold boundX at h
  split at h
  · simp only [Option.some.injEq] at h
    exact .inl ⟨hn rfl, h.symm⟩
  · simp only [Option.some.injEq] at h
    subst h
    obtain ⟨x, hx, hxd⟩ := hd _ rfl
    simp only [denE, denV] at hxd
    subst hxd
    exact .inr ⟨_, by simpa using hx⟩
  · cases h

theorem run_sliceBounds {P : Program} {w : World} (sl : Bool) {n c : Nat} {lo hi : Option Value} {l h : Int} (hl : (lo = none ∧ l = 0) ∨ ∃ k, lo = some (.int k l)) (hh : (hi = none ∧ h = n) ∨ ∃ k, hi = some (.int k h)) (hb : 0 ≤ l ∧ l ≤ h ∧ h ≤ c) :
    (Instr.sliceBounds sl n c lo hi none).run P w = .ok (l.toNat, h.toNat, c) w := by
  have h1 : 0 ≤ h := by omega
  rcases hl with ⟨rfl, rfl⟩ | ⟨k, rfl⟩ <;> rcases hh with ⟨rfl, rfl⟩ | ⟨k', rfl⟩
  · simp [Instr.sliceBounds]
  · simp [Instr.sliceBounds, Instr.sliceBound, asIntOf, h1, hb]
  · have hx : l ≤ ((n : Nat) : Int) := hb.2.1
    simp [Instr.sliceBounds, Instr.sliceBound, asIntOf, hb.1, hx]
  · have hx : l ≤ ((h.toNat : Nat) : Int) := by omega
    have hx' : ¬ (max h 0 < l) := by omega
    simp [Instr.sliceBounds, Instr.sliceBound, asIntOf, hb, h1, hx']

theorem run_sliceBounds3 {P : Program} {w : World} (sl : Bool) {n c : Nat} {lo : Option Value} {l h m : Int} {kh km : IntKind} (hl : (lo = none ∧ l = 0) ∨ ∃ k, lo = some (.int k l)) (hb : 0 ≤ l ∧ l ≤ h ∧ h ≤ m ∧ m ≤ c) :
    (Instr.sliceBounds sl n c lo (some (.int kh h)) (some (.int km m))).run P w = .ok (l.toNat, h.toNat, m.toNat) w := by
  have h0 : 0 ≤ m := by omega
  have h1 : 0 ≤ h := by omega
  have h2 : h ≤ ((m.toNat : Nat) : Int) := by omega
  have h3 : l ≤ ((h.toNat : Nat) : Int) := by omega
  have e1 : (Instr.sliceBound (.int km m) c (if sl then .slice3Acap else .slice3Alen)).run P w = .ok m.toNat w := by
    unfold Instr.sliceBound
    simp only [asIntOf, Sem.run_bind, Sem.run_pure, Result.andThen_ok]
    rw [if_pos ⟨h0, hb.2.2.2⟩]; rfl
  have e2 : (Instr.sliceBound (.int kh h) m.toNat .slice3B).run P w = .ok h.toNat w := by
    unfold Instr.sliceBound
    simp only [asIntOf, Sem.run_bind, Sem.run_pure, Result.andThen_ok]
    rw [if_pos ⟨h1, h2⟩]; rfl
  rcases hl with ⟨rfl, rfl⟩ | ⟨k, rfl⟩
  · simp only [Instr.sliceBounds, Sem.run_bind, e1, e2, Result.andThen_ok, Sem.run_pure]
    rfl
  · have e3 : (Instr.sliceBound (.int k l) h.toNat .slice3C).run P w = .ok l.toNat w := by
      unfold Instr.sliceBound
      simp only [asIntOf, Sem.run_bind, Sem.run_pure, Result.andThen_ok]
      rw [if_pos ⟨hb.1, h3⟩]; rfl
    simp only [Instr.sliceBounds, Sem.run_bind, e1, e2, Result.andThen_ok, Sem.run_pure, Option.isSome, if_true, e3]

theorem sliceMX_snd (T : Tbl) {E : Emb} (w : World) (t : TypeId) (x : EV) (lo hi : Option EV) (mx : EV) (u : Value) (vlo vhi vmx : Option Value) (hx : denE E x u)
    (dlo : ∀ e ∈ lo, ∃ y ∈ vlo, denE E e y) (dhi : ∀ e ∈ hi, ∃ y ∈ vhi, denE E e y) (dmx : ∃ y ∈ vmx, denE E mx y) (nlo : lo = none → vlo = none) :
    (sliceMX T t x lo hi mx).snd E T.P w (Instr.sliceAt t u vlo vhi vmx) := by
  unfold sliceMX
  split
  · rename_i km m kh h
    obtain ⟨y, hy, hyd⟩ := dmx
    obtain ⟨z, hz, hzd⟩ := dhi _ rfl
    simp only [denE, denV] at hyd hzd
    subst hyd; subst hzd
    simp only [Option.mem_def] at hy hz
    subst hy; subst hz
    split
    · rename_i e b o n c h1
      have hd : T.P.underlying t = some (.slice _) := (T.tyOk _ _ h1).desc
      simp only [denE, denV] at hx
      obtain ⟨hbn, rfl⟩ := hx
      split
      · rename_i te l h4 h2
        intro hb
        have hr := run_sliceBounds3 (P := T.P) (w := w) (n := n) (kh := kh) (km := km) true (boundX_run h2 dlo nlo) hb
        have hsz := run_sizeOf_ti T h4 w
        refine ⟨_, by simp [Instr.sliceAt, Instr.slice, run_underlying hd, hr, hsz]; rfl, ?_⟩
        simp only [denE, denV, skip]
        refine ⟨hbn, ?_⟩
        split <;> simp [Emb.at_add]
      · trivial
    · rename_i e b o n c h1
      have hd : T.P.underlying t = some (.slice _) := (T.tyOk _ _ h1).desc
      simp only [denE, denV] at hx
      obtain ⟨hbn, hnl, hu⟩ := hx
      have hu' : ((E.f b).nl = true ∧ n = 0 ∧ c = 0 ∧ u = .slice none n c) ∨ ((E.f b).nl = false ∧ u = .slice (some (E.at b o)) n c) := by
        cases hq : (E.f b).nl with
        | true => rw [hq] at hu hnl; exact .inl ⟨rfl, (hnl rfl).1, (hnl rfl).2, by simpa using hu⟩
        | false => rw [hq] at hu; exact .inr ⟨rfl, by simpa using hu⟩
      clear hu
      split
      · rename_i te l h4 h2
        intro hb
        have hr := run_sliceBounds3 (P := T.P) (w := w) (n := n) (kh := kh) (km := km) true (boundX_run h2 dlo nlo) hb
        have hsz := run_sizeOf_ti T h4 w
        rcases hu' with ⟨hq, rfl, rfl, rfl⟩ | ⟨hq, rfl⟩
        · refine ⟨_, by simp [Instr.sliceAt, Instr.slice, run_underlying hd, hr, hsz]; rfl, ?_⟩
          simp only [denE, denV, skip, hq, if_true]
          refine ⟨hbn, fun _ => by omega, ?_⟩
          simp
        · refine ⟨_, by simp [Instr.sliceAt, Instr.slice, run_underlying hd, hr, hsz]; rfl, ?_⟩
          simp only [denE, denV, skip, hq, Bool.false_eq_true, if_false]
          refine ⟨hbn, fun h' => h'.elim, ?_⟩
          split <;> simp [Emb.at_add]
      · trivial
    · trivial
  · trivial

theorem sliceX_snd (T : Tbl) {E : Emb} (w : World) (t : TypeId) (x : EV) (lo hi mx : Option EV) (u : Value) (vlo vhi vmx : Option Value) (hx : denE E x u)
    (dlo : ∀ e ∈ lo, ∃ y ∈ vlo, denE E e y) (dhi : ∀ e ∈ hi, ∃ y ∈ vhi, denE E e y) (nlo : lo = none → vlo = none) (nhi : hi = none → vhi = none) (nmx : mx = none → vmx = none) (dmx : ∀ e ∈ mx, ∃ y ∈ vmx, denE E e y) :
    (sliceX T t x lo hi mx).snd E T.P w (Instr.sliceAt t u vlo vhi vmx) := by
  unfold sliceX
  split
  · exact sliceMX_snd T w t x lo hi _ u vlo vhi vmx hx dlo dhi (dmx _ rfl) nlo
  · rw [nmx rfl]
    split
    · rename_i s h1
      have hd : T.P.underlying t = some .string := (T.tyOk _ _ h1).desc
      simp only [denE, denV] at hx
      subst hx
      split
      · rename_i l h h2 h3
        intro hb
        have hr := run_sliceBounds (P := T.P) (w := w) false (boundX_run h2 dlo nlo) (boundX_run h3 dhi nhi) hb
        exact ⟨_, by simp [Instr.sliceAt, Instr.slice, run_underlying hd, hr], rfl⟩
      · trivial
    · rename_i e b o n c h1
      have hd : T.P.underlying t = some (.slice _) := (T.tyOk _ _ h1).desc
      simp only [denE, denV] at hx
      obtain ⟨hbn, rfl⟩ := hx
      split
      · rename_i te l h h4 h2 h3
        intro hb
        have hr := run_sliceBounds (P := T.P) (w := w) true (boundX_run h2 dlo nlo) (boundX_run h3 dhi nhi) hb
        have hsz := run_sizeOf_ti T h4 w
        refine ⟨_, by simp [Instr.sliceAt, Instr.slice, run_underlying hd, hr, hsz]; rfl, ?_⟩
        simp only [denE, denV, skip]
        refine ⟨hbn, ?_⟩
        split <;> simp [Emb.at_add]
      · trivial
    · rename_i e b o n c h1
      have hd : T.P.underlying t = some (.slice _) := (T.tyOk _ _ h1).desc
      simp only [denE, denV] at hx
      obtain ⟨hbn, hnl, hu⟩ := hx
      have hu' : ((E.f b).nl = true ∧ n = 0 ∧ c = 0 ∧ u = .slice none n c) ∨ ((E.f b).nl = false ∧ u = .slice (some (E.at b o)) n c) := by
        cases hq : (E.f b).nl with
        | true => rw [hq] at hu hnl; exact .inl ⟨rfl, (hnl rfl).1, (hnl rfl).2, by simpa using hu⟩
        | false => rw [hq] at hu; exact .inr ⟨rfl, by simpa using hu⟩
      clear hu
      split
      · rename_i te l h h4 h2 h3
        intro hb
        have hr := run_sliceBounds (P := T.P) (w := w) true (boundX_run h2 dlo nlo) (boundX_run h3 dhi nhi) hb
        have hsz := run_sizeOf_ti T h4 w
        rcases hu' with ⟨hq, rfl, rfl, rfl⟩ | ⟨hq, rfl⟩
        · refine ⟨_, by simp [Instr.sliceAt, Instr.slice, run_underlying hd, hr, hsz]; rfl, ?_⟩
          simp only [denE, denV, skip, hq, if_true]
          refine ⟨hbn, fun _ => by omega, ?_⟩
          simp
        · refine ⟨_, by simp [Instr.sliceAt, Instr.slice, run_underlying hd, hr, hsz]; rfl, ?_⟩
          simp only [denE, denV, skip, hq, Bool.false_eq_true, if_false]
          refine ⟨hbn, fun h' => h'.elim, ?_⟩
          split <;> simp [Emb.at_add]
      · trivial
    · trivial

end Go.Anv

/- The engine, part 5: the walker is right: a piece of code that is walked does what the walker says. Plain theorems; their conditions are the table's own facts. -/
namespace Go.Anv
open Go

def PR.yl (E : Emb) (P : Program) (w : World) (m : Sem Next) : PR → Prop
  | .fail => True
  | .ok v => ∃ z, m.run P w = .ok (.value z) w ∧ denE E v z
  | .need p v => p → ∃ z, m.run P w = .ok (.value z) w ∧ denE E v z

theorem PR.snd.yl {E : Emb} {P : Program} {w : World} {m : Sem Value} {n : Sem Next} {r : PR} (h : r.snd E P w m) (hn : n = (do pure (.value (← m)))) : r.yl E P w n := by
  subst hn
  cases r with
  | fail => trivial
  | ok v =>
    obtain ⟨z, h1, h2⟩ := h
    exact ⟨z, by simp [h1], h2⟩
  | need p v =>
    intro hp
    obtain ⟨z, h1, h2⟩ := h hp
    exact ⟨z, by simp [h1], h2⟩

theorem nilX_yl (T : Tbl) {E : Emb} (w : World) (e : EV) (v : Value) (hx : denE E e v) : (nilX T e).yl E T.P w (execOp (fun _ => v) { dst := none, op := .nilCheck (.tmp 0), type := 0, pos := "", after := #[], guard := none }) := by
  unfold nilX
  split
  · simp only [denE, denV] at hx
    obtain ⟨h1, h2⟩ := hx
    exact ⟨_, by subst h2; rfl, ⟨h1, rfl⟩⟩
  · simp only [denE, denV] at hx
    obtain ⟨h1, h2⟩ := hx
    exact ⟨_, by subst h2; rfl, ⟨h1, rfl⟩⟩
  · have hx' := hx
    simp only [denE, denV] at hx
    obtain ⟨f', c', h1, _⟩ := hx
    exact ⟨v, by subst h1; rfl, hx'⟩
  · rename_i m t b o a c
    split
    · rename_i f hf
      have hx' := hx
      simp only [denE, denV] at hx
      obtain ⟨f', c', h1, h2, _⟩ := hx
      simp only [denL, denV] at h2
      obtain ⟨rv, l', h3, ⟨x, h4, x', lx, h5, ⟨h6, h7⟩, h8⟩, _⟩ := h2
      subst h8
      simp only [List.cons.injEq, and_true] at h5
      subst h5
      subst h7
      subst h4
      subst h1
      have h9 : f'[0]? = some (.iface t (.pointer (some (E.at b o)))) := by
        rw [← Array.getElem?_toList, h3]; rfl
      have h10 := (T.mthOk t m f hf (E.at b o) w).2
      refine ⟨_, ?_, hx'⟩
      unfold execOp
      simp only [h9, Sem.run_bind, run_program, Result.andThen_ok, h10]
      rfl
    · trivial
  · rename_i t a c
    have hx' := hx
    cases a <;> (simp only [denE, denV] at hx; obtain ⟨y, h1, _⟩ := hx; exact ⟨v, by subst h1; rfl, hx'⟩)
  · trivial

theorem px_snd (T : Tbl) {E : Emb} {h : List Blk} {w : World} (S : Sim E h w) (ev raw : Operand → EV) (ρ : Operand → Value) (o : Oper)
    (hev : ∀ x ∈ looks o.op, denE E (ev x) (ρ x)) (hraw : ∀ x, denE E (raw x) (ρ x)) : (px T h ev raw o.op).yl E T.P w (execOp ρ o) := by
  unfold execOp
  cases hop : o.op with
  | move x =>
    rw [hop] at hev
    exact ⟨_, rfl, hev x (by simp [looks, Op.operands])⟩
  | assign x =>
    rw [hop] at hev
    exact ⟨_, rfl, hev x (by simp [looks, Op.operands])⟩
  | pick c a b =>
    rw [hop] at hev
    have hc := hev c (by simp [looks])
    unfold px
    simp only
    split
    · rename_i t ht
      rw [ht] at hc
      simp only [denE, denV] at hc
      refine (pickX_snd T.P w t (raw a) (raw b) (ρ a) (ρ b) (hraw a) (hraw b) (pure (if t then ρ a else ρ b)) rfl).yl ?_
      simp [hc, asBool]
    · trivial
  | binOp op t x y ty =>
    rw [hop] at hev
    exact (binY_snd T w op t x y _ _ _ _ (hev x (by simp [looks, Op.operands])) (hev y (by simp [looks, Op.operands]))).yl rfl
  | unOp op t x =>
    rw [hop] at hev
    exact (unX_snd T.P w op _ _ (hev x (by simp [looks, Op.operands]))).yl rfl
  | convert src dst x =>
    rw [hop] at hev
    exact (convX_snd T S src dst _ _ (hev x (by simp [looks, Op.operands]))).yl rfl
  | slice t x lo hi mx =>
    rw [hop] at hev
    have hin : ∀ z, z ∈ lo ∨ z ∈ hi ∨ z ∈ mx → denE E (ev z) (ρ z) := fun z hz => hev z (by
      simp only [looks, Op.operands]
      rcases hz with hz | hz | hz <;> (simp only [Option.mem_def] at hz; subst hz; simp))
    refine (sliceX_snd T w t _ (lo.map ev) (hi.map ev) (mx.map ev) _ (lo.map ρ) (hi.map ρ) (mx.map ρ) (hev x (by simp [looks, Op.operands])) ?_ ?_ ?_ ?_ ?_ ?_).yl ?_
    · intro e he
      obtain ⟨z, hz, rfl⟩ := Option.map_eq_some_iff.1 he
      exact ⟨ρ z, by rw [hz]; rfl, hin z (.inl hz)⟩
    · intro e he
      obtain ⟨z, hz, rfl⟩ := Option.map_eq_some_iff.1 he
      exact ⟨ρ z, by rw [hz]; rfl, hin z (.inr (.inl hz))⟩
    · intro h'; cases lo with
      | none => rfl
      | some z => cases h'
    · intro h'; cases hi with
      | none => rfl
      | some z => cases h'
    · intro h'; cases mx with
      | none => rfl
      | some z => cases h'
    · intro e he
      obtain ⟨z, hz, rfl⟩ := Option.map_eq_some_iff.1 he
      exact ⟨ρ z, by rw [hz]; rfl, hin z (.inr (.inr hz))⟩
    · rfl
  | nilCheck x =>
    rw [hop] at hev
    exact nilX_yl T w _ _ (hev x (by simp [looks, Op.operands]))
  | fieldAddr t x i =>
    rw [hop] at hev
    exact (fieldAddrX_snd T w t _ i _ (hev x (by simp [looks, Op.operands]))).yl rfl
  | field t x i =>
    rw [hop] at hev
    exact (fieldX_snd T w t _ i _ (hev x (by simp [looks, Op.operands]))).yl rfl
  | indexAddr t x i =>
    rw [hop] at hev
    exact (indexAddrX_snd T w t _ _ _ _ (hev x (by simp [looks, Op.operands])) (hev i (by simp [looks, Op.operands]))).yl rfl
  | load t x =>
    rw [hop] at hev
    exact (loadX_snd T S t _ _ (hev x (by simp [looks, Op.operands]))).yl rfl
  | index t x i =>
    rw [hop] at hev
    have hx := hev x (by simp [looks, Op.operands])
    have hi := hev i (by simp [looks, Op.operands])
    unfold px
    simp only
    split
    · rename_i s k n hq1 hq2
      rw [hq1] at hx
      rw [hq2] at hi
      simp only [denE, denV] at hx hi
      split
      · rename_i ht
        have hd : T.P.underlying t = some .string := (T.tyOk _ _ ht).desc
        intro hb
        have hlt : n.toNat < s.size := by omega
        refine ⟨.int .u8 (s[n.toNat]).toNat, ?_, ?_⟩
        · rw [hx, hi]
          simp [Instr.index, asIntOf, run_underlying hd, hb.1, hlt]
        · have : (s.data.toList.map UInt8.toNat).getD n.toNat 0 = (s[n.toNat]).toNat := by
            have h2 : n.toNat < s.data.toList.length := by simpa using hlt
            simp [List.getElem?_eq_getElem h2]
            rfl
          simp only [denE, denV, this]
      · trivial
    · rename_i cs k n hq1 hq2
      rw [hq1] at hx
      rw [hq2] at hi
      simp only [denE, denV] at hx hi
      obtain ⟨l, hx, hl⟩ := hx
      split
      · rename_i len e _ _ _ ht
        have hd : T.P.underlying t = some (.array len e) := (T.tyOk _ _ ht).desc
        split
        · rename_i te hte
          have hsz := run_sizeOf_ti T hte w
          have hag := run_isAgg_ti T hte w
          split
          · rename_i k' m f
            split
            · trivial
            · rename_i hg
              split
              · rename_i hs
                intro hb
                simp only [denS] at hl
                obtain ⟨l', hl, hl'⟩ := hl
                have hget : l[n.toNat]? = some (.int k' (f n.toNat)) := by
                  rw [← Array.getElem?_toList, hl, List.getElem?_append_left (by simpa [length_intsOf] using hb.2)]
                  exact intsOf_get hb.2
                refine ⟨.int k' (f n.toNat), ?_, rfl⟩
                rw [hx, hi]
                simp [Instr.index, asIntOf, run_underlying hd, hb.1.1, hb.1.2, hsz, hs, part, hag, hg, hget]
              · trivial
          · rename_i hne
            split
            · rename_i v hv
              intro hb
              have := partX_snd T w e _ (n.toNat * te.size) l hl
              rw [hv] at this
              obtain ⟨z, h1, h2⟩ := this
              refine ⟨z, ?_, h2⟩
              rw [hx, hi]
              simp [Instr.index, asIntOf, run_underlying hd, hb.1, hb.2, hsz, h1]
            · trivial
        · trivial
      · trivial
    · trivial
  | extract x i =>
    rw [hop] at hev
    have hx := hev x (by simp [looks, Op.operands])
    unfold px
    simp only
    split
    · rename_i vs hq
      rw [hq] at hx
      simp only [denE] at hx
      obtain ⟨l, hx, hl⟩ := hx
      split
      · rename_i v hv
        obtain ⟨u, h1, h2⟩ := nthE_den hl hv
        rw [Array.getElem?_toList] at h1
        exact ⟨u, by rw [hx]; simp [Instr.extract, h1], h2⟩
      · trivial
    · trivial
  | makeInterface t x =>
    rw [hop] at hev
    have hx := hev x (by simp [looks, Op.operands])
    unfold px
    simp only
    split
    · trivial
    · rename_i i hi1 hi2
      have hnot : ∀ ms, T.P.underlying t ≠ some (.interface ms) := fun ms e => by
        have hd := (T.tyOk _ _ hi2).desc
        obtain ⟨d, s, b, z⟩ := i
        cases d <;> simp only [descOk] at hd
        case struct fs => obtain ⟨a, ha, _⟩ := hd; rw [ha] at e; cases e
        case iface => exact hi1 _ _ _ rfl
        case other => obtain ⟨a, b', c, ha⟩ := hd; rw [ha] at e; cases e
        all_goals (rw [hd] at e; cases e)
      have hsome : ∃ d, T.P.underlying t = some d := by
        have hd := (T.tyOk _ _ hi2).desc
        cases hdd : i.d <;> rw [hdd] at hd <;> simp only [descOk] at hd
        case struct fs => obtain ⟨a, ha, _⟩ := hd; exact ⟨_, ha⟩
        case iface => obtain ⟨a, ha⟩ := hd; exact ⟨_, ha⟩
        case other => obtain ⟨a, b, c, ha⟩ := hd; exact ⟨_, ha⟩
        all_goals exact ⟨_, hd⟩
      obtain ⟨d, hd⟩ := hsome
      have hrun : ∀ v, (Instr.makeInterface t v).run T.P w = .ok (.iface t v) w := fun v => by
        unfold Instr.makeInterface
        rw [Sem.run_bind, run_underlying hd, Result.andThen_ok]
        cases d <;> first
          | rfl
          | (rename_i ms; exact absurd hd (hnot ms))
      split
      · rename_i v hq
        rw [hq] at hx
        exact ⟨_, by simp [hrun], ⟨ρ x, rfl, by simp only [denL]; exact ⟨_, _, rfl, hx, rfl⟩⟩⟩
      · rename_i cs hq
        rw [hq] at hx
        simp only [denE] at hx
        obtain ⟨l, hx, hl⟩ := hx
        split
        · rename_i vs hvs
          exact ⟨.iface t (ρ x), by simp [hrun], ⟨l, by rw [hx], flat_den hl hvs⟩⟩
        · trivial
      · trivial
    · trivial
  | makeFunc fn a c =>
    rw [hop] at hev
    unfold px
    simp only
    split
    · rename_i x y h1 h2
      have k1 := denT_map (E := E) ev ρ a.toList (fun z hz => hev z (by simp [looks, Op.operands]; exact .inl (by simpa using hz)))
      have k2 := denT_map (E := E) ev ρ c.toList (fun z hz => hev z (by simp [looks, Op.operands]; exact .inr (by simpa using hz)))
      exact ⟨.func fn (a.map ρ) (c.map ρ), rfl, ⟨_, _, rfl, by simpa using svs_den k1 h1, by simpa using svs_den k2 h2⟩⟩
    · trivial
  | call c =>
    rw [hop] at hev
    unfold px
    obtain ⟨callee, args, argTypes⟩ := c
    cases callee with
    | value f => trivial
    | invoke r m => trivial
    | builtin b =>
      have hargs : ∀ x ∈ args.toList, denE E (ev x) (ρ x) := fun x hx => hev x (by simp [looks, Op.operands, Call.operands]; simpa using hx)
      cases b <;> simp only
      case len =>
        split
        · rename_i t x h1 h2
          have hx := hargs x (by rw [h2]; simp)
          have e1 : argTypes = #[t] := by rw [← Array.toList_inj]; exact h1
          have e2 : args = #[x] := by rw [← Array.toList_inj]; exact h2
          subst e1; subst e2
          split
          · rename_i ht hq
            have hd : T.P.underlying t = some (.slice _) := (T.tyOk _ _ ht).desc
            rw [hq] at hx
            simp only [denE, denV] at hx
            exact ⟨_, by simp [resolve, invoke, builtin, Builtin.len_, hx.2, run_underlying hd, goInt], rfl⟩
          · rename_i ht hq
            have hd : T.P.underlying t = some (.slice _) := (T.tyOk _ _ ht).desc
            rw [hq] at hx
            simp only [denE, denV] at hx
            exact ⟨_, by simp [resolve, invoke, builtin, Builtin.len_, hx, run_underlying hd, goInt], rfl⟩
          · rename_i ht hq
            have hd : T.P.underlying t = some (.slice _) := (T.tyOk _ _ ht).desc
            rw [hq] at hx
            simp only [denE, denV] at hx
            exact ⟨_, by simp [resolve, invoke, builtin, Builtin.len_, hx.2.2, run_underlying hd, goInt], rfl⟩
          · rename_i ht hq
            have hd : T.P.underlying t = some .string := (T.tyOk _ _ ht).desc
            rw [hq] at hx
            simp only [denE, denV] at hx
            exact ⟨_, by simp [resolve, invoke, builtin, Builtin.len_, hx, run_underlying hd, goInt], rfl⟩
          · rename_i ht
            have hd : T.P.underlying t = some (.array _ _) := (T.tyOk _ _ ht).desc
            exact ⟨_, by simp [resolve, invoke, builtin, Builtin.len_, run_underlying hd, goInt], rfl⟩
          · trivial
        · trivial
      case min =>
        split
        · rename_i x y h2
          have hx := hargs x (by rw [h2]; simp)
          have hy := hargs y (by rw [h2]; simp)
          have e2 : args = #[x, y] := by rw [← Array.toList_inj]; exact h2
          subst e2
          split
          · rename_i k a k' b hq1 hq2
            rw [hq1] at hx
            rw [hq2] at hy
            simp only [denE, denV] at hx hy
            exact ⟨_, by simp [resolve, invoke, builtin, Builtin.min_, Builtin.min2, hx, hy], rfl⟩
          · trivial
        · trivial
      case max =>
        split
        · rename_i x y h2
          have hx := hargs x (by rw [h2]; simp)
          have hy := hargs y (by rw [h2]; simp)
          have e2 : args = #[x, y] := by rw [← Array.toList_inj]; exact h2
          subst e2
          split
          · rename_i k a k' b hq1 hq2
            rw [hq1] at hx
            rw [hq2] at hy
            simp only [denE, denV] at hx hy
            exact ⟨_, by simp [resolve, invoke, builtin, Builtin.max_, Builtin.max2, hx, hy], rfl⟩
          · trivial
        · trivial
      all_goals trivial
  | _ => trivial

end Go.Anv

/- The engine, part 5b: slices that are made, grown, copied. Plain theorems; their conditions are the table's own facts. -/
namespace Go.Anv
open Go

theorem updB_eq : ∀ (h : List Blk) (i : Nat) (B : Blk), updB h i B = h.set i B
  | [], _, _ => rfl
  | x :: r, 0, B => rfl
  | x :: r, i + 1, B => by simp [updB, updB_eq r i B]

/-! ### stores -/

theorem segsOf_den {E : Emb} {e : EV} {v : Value} {cs : List Seg} (h : denE E e v) (hs : segsOf e = some cs) : denS E cs v.cells.toList := by
  cases e with
  | s x =>
    simp only [segsOf, Option.some.injEq] at hs
    subst hs
    simp only [denE] at h
    have h1 := denV_oneCell h
    have : v.cells = #[v] := by cases v <;> first | rfl | (simp [Value.oneCell'] at h1)
    rw [this]
    simp only [denS]
    exact ⟨v, [], rfl, h, rfl⟩
  | agg c =>
    simp only [segsOf, Option.some.injEq] at hs
    subst hs
    simp only [denE] at h
    obtain ⟨l, rfl, hl⟩ := h
    exact hl
  | tuple _ => simp [segsOf] at hs
  | gd _ _ => simp [segsOf] at hs
  | junk => simp [segsOf] at hs

/-- A new row of cells. -/
theorem push_row {E : Emb} {h : List Blk} {w : World} (S : Sim E h w) {arr : Array Value} (t : TypeId) {lo hi : Nat} (hr : lo = hi ∨ arr.size ≤ lo) {cs : List Seg} {sp : Nat} {l rest : List Value}
    (hd : denS E cs l) (harr : arr.toList = l ++ rest) (hlen : sp ≤ rest.length) :
    Sim (E.push ⟨w.heap.size, 0, false⟩) (h ++ [.cells true cs sp]) (w.alloc (.cells arr t (lo, hi))) ∧ Since E h w (E.push ⟨w.heap.size, 0, false⟩) (h ++ [.cells true cs sp]) (w.alloc (.cells arr t (lo, hi))) := by
  have hcell : ∀ j, (w.alloc (.cells arr t (lo, hi))).cell? ⟨w.heap.size, 0 + j, none⟩ = (l ++ rest)[j]? := fun j => by
    have hn : (w.alloc (.cells arr t (lo, hi))).heap[w.heap.size]? = some (.cells arr t (lo, hi)) := heap_alloc_new w _
    simp only [World.cell?, hn, Nat.zero_add]
    rw [← Array.getElem?_toList, harr]
    rfl
  refine ⟨S.push _ _ ⟨.inl (by simp), ⟨l, denS_mono (Emb.le_push _ _) cs l hd, fun j v hj => ?_⟩, fun _ j hj => ⟨?_, arr, t, lo, hi, heap_alloc_new w _, hr⟩⟩, Since.push S _ _⟩
  · rw [hcell]
    have : j < l.length := by
      rcases Nat.lt_or_ge j l.length with h' | h'
      · exact h'
      · rw [List.getElem?_eq_none h'] at hj; cases hj
    rw [List.getElem?_append_left this]
    exact hj
  · rw [hcell]
    have hl := denS_length hd
    exact ⟨_, List.getElem?_eq_getElem (by simp; omega)⟩

/-- A slice that is nil, as a block without cells. -/
theorem push_nil {E : Emb} {h : List Blk} {w : World} (S : Sim E h w) {cs : List Seg} (hd : denS E cs []) :
    Sim (E.push ⟨0, 0, true⟩) (h ++ [.cells true cs 0]) w ∧ Since E h w (E.push ⟨0, 0, true⟩) (h ++ [.cells true cs 0]) w := by
  have hs : sizeS cs = 0 := by rw [← denS_length hd]; rfl
  have hno : ∀ p b o, ¬ cov p (.cells true cs 0) b o := fun p b o hc => by
    obtain ⟨_, h1, h2⟩ := hc
    omega
  constructor
  · refine ⟨by simp [Emb.push, S.n], fun i B hi => ?_, fun i j A B hij hi hj hA b o hci hcj => ?_⟩
    · rcases getElem?_push_cases hi with ⟨h1, h2⟩ | ⟨h1, h2⟩
      · rw [Emb.push_old _ _ (by rw [S.n]; exact h2)]
        exact okBlk_le (Emb.le_push _ _) (S.ok i B h1)
      · subst h2; subst h1
        rw [← S.n, Emb.push_new]
        exact ⟨.inr ⟨rfl, by omega⟩, ⟨[], denS_mono (Emb.le_push _ _) cs _ hd, fun j v hj => by simp at hj⟩, fun _ j hj => by omega⟩
    · rcases getElem?_push_cases hi with ⟨h1, h2⟩ | ⟨h1, h2⟩
      · rcases getElem?_push_cases hj with ⟨h3, h4⟩ | ⟨h3, h4⟩
        · rw [Emb.push_old _ _ (by rw [S.n]; exact h2)] at hci
          rw [Emb.push_old _ _ (by rw [S.n]; exact h4)] at hcj
          exact S.dis i j A B hij h1 h3 hA b o hci hcj
        · subst h4; exact hno _ _ _ hcj
      · subst h2; exact hno _ _ _ hci
  · refine ⟨by simp, fun i hi => Emb.push_old _ _ hi, Nat.le_refl _, fun _ _ _ => rfl, fun _ _ _ _ => ⟨rfl, fun _ => rfl⟩, fun b o hm _ => ?_, rfl, rfl, rfl, fun _ _ h => h⟩
    obtain ⟨i, B, hi, hB, hc⟩ := hm
    rcases getElem?_push_cases hi with ⟨h1, h2⟩ | ⟨h1, h2⟩
    · rw [Emb.push_old _ _ (by rw [S.n]; exact h2)] at hc
      exact ⟨i, B, h1, hB, hc⟩
    · subst h2; exact absurd hc (hno _ _ _)

/-! ### a row is marked: its last cell's neighbour may not be written -/

theorem cell?_freeze (w : World) (a b : Addr) (n : Nat) : (w.freeze a n).cell? b = w.cell? b := by
  unfold World.freeze
  split
  · rfl
  · by_cases hb : a.block = b.block
    · unfold World.cell?
      simp only [Array.getElem?_modify, if_pos hb]
      cases w.heap[b.block]? with
      | none => rfl
      | some o => cases o <;> rfl
    · unfold World.cell?
      simp only [Array.getElem?_modify, if_neg hb]

theorem size_freeze (w : World) (a : Addr) (n : Nat) : (w.freeze a n).heap.size = w.heap.size := by
  unfold World.freeze
  split <;> simp

theorem other_freeze (w : World) (a : Addr) (n k : Nat) (h : k ≠ a.block) : (w.freeze a n).heap[k]? = w.heap[k]? := by
  unfold World.freeze
  split
  · rfl
  · simp only [Array.getElem?_modify]
    rw [if_neg (Ne.symm h)]

theorem map_freeze (w : World) (a : Addr) (n k : Nat) {l : Array MapEntry} {c : Nat} (h : w.heap[k]? = some (.map l c)) : (w.freeze a n).heap[k]? = some (.map l c) := by
  unfold World.freeze
  split
  · exact h
  · simp only [Array.getElem?_modify]
    split
    · rw [h]; rfl
    · exact h

theorem rowOk_freeze {w : World} {k b : Nat} {c : Array Value} {e lo hi : Nat} (hb : w.heap[b]? = some (.cells c e (lo, hi))) (hr : lo = hi ∨ c.size ≤ lo) (h : rowOk w k) : rowOk (w.freeze { block := b, off := c.size } 1) k := by
  by_cases hk : k = b
  · subst hk
    refine ⟨c, e, (if lo == hi then (c.size, c.size + 1) else (min lo c.size, max hi (c.size + 1))).1, (if lo == hi then (c.size, c.size + 1) else (min lo c.size, max hi (c.size + 1))).2, ?_, .inr ?_⟩
    · unfold World.freeze
      rw [if_neg (by decide)]
      simp only [Array.getElem?_modify, hb]
      rfl
    · split
      · exact Nat.le_refl _
      · rename_i hne
        rcases hr with rfl | hr
        · simp at hne
        · simp only; omega
  · exact h.of_block (other_freeze _ _ _ _ hk)

theorem Sim.freeze {E : Emb} {h : List Blk} {w : World} (S : Sim E h w) {b : Nat} {c : Array Value} {e lo hi : Nat} (hb : w.heap[b]? = some (.cells c e (lo, hi))) (hr : lo = hi ∨ c.size ≤ lo) : Sim E h (w.freeze { block := b, off := c.size } 1) := by
  refine ⟨S.n, fun i B hi => ?_, S.dis⟩
  have hk := S.ok i B hi
  cases B with
  | cells m cs sp =>
    obtain ⟨h1, ⟨l, h2, h3⟩, h4⟩ := hk
    refine ⟨by rw [size_freeze]; exact h1, ⟨l, h2, fun j v hj => by rw [cell?_freeze]; exact h3 j v hj⟩, fun hm j hj => ?_⟩
    rw [cell?_freeze]
    exact ⟨(h4 hm j hj).1, rowOk_freeze hb hr (h4 hm j hj).2⟩
  | map es =>
    obtain ⟨l, c', h1, h2⟩ := hk
    exact ⟨l, c', map_freeze _ _ _ _ h1, h2⟩
  | dead => trivial

theorem Since.freeze {E : Emb} {h : List Blk} {w : World} {b : Nat} {c : Array Value} {e lo hi : Nat} (hb : w.heap[b]? = some (.cells c e (lo, hi))) (hr : lo = hi ∨ c.size ≤ lo) (hm : ∃ o, mutAt E h b o) : Since E h w E h (w.freeze { block := b, off := c.size } 1) := by
  obtain ⟨o0, hm0⟩ := hm
  refine ⟨Nat.le_refl _, fun _ _ => rfl, by rw [size_freeze]; exact Nat.le_refl _, fun k _ hk => other_freeze _ _ _ _ (fun e => ?_), fun k o _ _ => ⟨cell?_freeze _ _ _ _, fun hs => ?_⟩, fun _ _ hm _ => hm, ?_, ?_, ?_, fun _ _ h => rowOk_freeze hb hr h⟩
  · subst e; exact hk o0 hm0
  · obtain ⟨v, hv⟩ := Option.isSome_iff_exists.1 hs
    by_cases hkb : k = b
    · subst hkb
      have r1 : rowOk w k := ⟨c, _, lo, hi, hb, hr⟩
      rw [r1.frozen hv, (rowOk_freeze hb hr r1).frozen (by rw [cell?_freeze]; exact hv)]
    · unfold World.frozen?
      rw [other_freeze _ _ _ _ hkb]
  all_goals (unfold World.freeze; split <;> rfl)

/-! ### the operations -/

/-- What is left of an operation that hands back a value: it goes on in a later small world. -/
def Goes (T : Tbl) (E : Emb) (h : List Blk) (w : World) (m : Sem Value) (ts : List EV) (dst : Option Tmp) (k : St → Prop) : Prop :=
  ∃ u w' E' h' v, m.run T.P w = .ok u w' ∧ denE E' v u ∧ Sim E' h' w' ∧ Since E h w E' h' w' ∧ k ((⟨ts, h'⟩ : St).put dst v)

theorem denS_catS {E : Emb} : ∀ {a b : List Seg} {l m : List Value}, denS E a l → denS E b m → denS E (catS a b) (l ++ m) := by
  intro a b l m h1 h2
  unfold catS
  split
  · simp only [denS] at h1; subst h1; exact h2
  · rename_i k n f k' m' g
    split
    · rename_i hk
      have := sameK_eq hk
      subst this
      simp only [denS] at h1 h2
      obtain ⟨_, rfl, rfl⟩ := h1
      obtain ⟨_, rfl, rfl⟩ := h2
      refine ⟨[], ?_, rfl⟩
      simp only [List.append_nil]
      apply List.ext_getElem?
      intro j
      rcases Nat.lt_or_ge j n with h | h
      · rw [List.getElem?_append_left (by rw [length_intsOf]; exact h), intsOf_get h, intsOf_get (by omega)]
        simp [catF, h]
      · rw [List.getElem?_append_right (by rw [length_intsOf]; exact h), length_intsOf]
        rcases Nat.lt_or_ge (j - n) m' with h' | h'
        · rw [intsOf_get h', intsOf_get (by omega)]
          have : ¬ j < n := by omega
          simp [catF, this]
        · rw [List.getElem?_eq_none (by rw [length_intsOf]; exact h'), List.getElem?_eq_none (by rw [length_intsOf]; omega)]
    · exact denS_append h1 h2
  · exact denS_append h1 h2

theorem growK_eq (ts : List EV) (h : List Blk) (dst : Option Tmp) (n size : Nat) (cs : List Seg) (k : St → Prop) (hk : growK ts h dst n size cs k) (c : Nat) (hc : n ≤ c) :
    k ((⟨ts, h ++ [.cells true cs ((c - n) * size)]⟩ : St).put dst (.s (.gs h.length 0 n c))) := by
  have := hk c hc
  rw [forceS_eq, pushBK_eq, putK_eq, Nat.zero_add] at this
  exact this

theorem srcOk_snd {T : Tbl} {tx : TypeId} {y : EV} (h : srcOk T tx y = true) :
    (∃ s, y = .s (.str s)) ∧ T.P.underlying tx = some .string ∨ (¬ ∃ s, y = .s (.str s)) ∧ ∃ e', T.P.underlying tx = some (.slice e') := by
  unfold srcOk at h
  split at h
  · rename_i h1 h2
    refine .inl ⟨?_, (T.tyOk _ _ h1).desc⟩
    unfold isStr at h2
    split at h2
    · exact ⟨_, rfl⟩
    · cases h2
  · rename_i h1 h2
    refine .inr ⟨?_, _, (T.tyOk _ _ h1).desc⟩
    rintro ⟨s, rfl⟩
    cases h2
  · cases h

/-- What of an element's type the laws on slices ask. -/
theorem elem_info (T : Tbl) {e : TypeId} {te : TI} (h : T.ty e = some te) : ∃ i z, T.P.info? e = some i ∧ i.size = te.size ∧ i.bytes = te.bytes ∧ i.zero = some z ∧ valE te.zero = some z := by
  obtain ⟨_, h1, h2, z, h3, h4⟩ := T.tyOk e te h
  cases hi : T.P.info? e with
  | none => rw [hi] at h1; cases h1
  | some i =>
    rw [hi] at h1 h2 h4
    simp only [Option.map_some, Option.some.injEq] at h1 h2
    simp only [Option.bind_some] at h4
    exact ⟨i, z, rfl, h1, h2, h4, h3⟩

theorem zsz_snd {te : TI} {z : Value} (hz : valE te.zero = some z) (hs : zsz te = te.size) (h0 : 0 < te.size) : z.cells.size = te.size := by
  have E : Emb := ⟨0, fun _ => ⟨0, 0, false⟩⟩
  unfold zsz at hs
  split at hs
  · rename_i zs hq
    have := segsOf_den (valE_den (E := E) hz) hq
    rw [← hs, ← denS_length this, Array.length_toList]
  · omega

/-- A slice grows: whatever its address, what it holds can be read. -/
theorem grow_snd (T : Tbl) {E : Emb} {h h1 : List Blk} {w : World} (n0 : E.n = h.length) (S : Sim E h1 w) (N : Since E h w E h1 w) {t tx ty e : TypeId} {te : TI} (ht : T.P.underlying t = some (.slice e)) (he : T.ty e = some te)
    {base : Option Addr} {n c : Nat} {olds news : List Value} {cs : List Seg} {v : Value} {m : Nat} (hold : (Builtin.firstCells te.size n (.slice base n c)).run T.P w.drew = .ok olds.toArray w.drew)
    (hs : Src T.P te.size tx v m news w) (hd : denS E cs (olds ++ news)) (hg : c < n + m) (hr : room te (n + m)) {ts : List EV} {dst : Option Tmp} {k : St → Prop}
    (hk : growK ts h1 dst (n + m) te.size cs k) : Goes T E h w (Builtin.append_ #[t, tx] ty #[.slice base n c, v]) ts dst k := by
  obtain ⟨i, z, hi, hsz, hby, hz, hzv⟩ := elem_info T he
  obtain ⟨⟨hz1, hz0⟩, hr1, hr2⟩ := hr
  have hzs := zsz_snd hzv hz1 hz0
  rw [← hsz] at hold hs hzs
  rw [← hby] at hr2
  have hrun := run_append_grow_src (P := T.P) w t tx ty e i z ht hi hz base n c olds hold v m news hs hg (by omega) (growslice_fits hg hr2)
  have hge := grownCap_ge w (n + m) c e
  obtain ⟨S', N'⟩ := push_row S.drew e (arr := (olds ++ news).toArray ++ Builtin.zeroCells z.cells (grownCap w (n + m) c e - (n + m))) (lo := 0) (hi := 0) (.inl rfl) (cs := cs) (sp := (grownCap w (n + m) c e - (n + m)) * te.size)
    (l := olds ++ news) (rest := (Builtin.zeroCells z.cells (grownCap w (n + m) c e - (n + m))).toList) hd (by simp) (by
      rw [Array.length_toList, size_zeroCells, hzs, hsz]
      exact Nat.le_refl _)
  refine ⟨_, _, _, _, _, hrun, ?_, S', ((N.trans n0 S.n (Since.drew E h1 w)).trans n0 S.n N'), growK_eq ts h1 dst (n + m) te.size cs k hk _ hge⟩
  simp only [denE, denV]
  refine ⟨by rw [← S.n]; simp [Emb.push], ?_, ?_⟩
  · rw [← S.n, Emb.push_new]
    intro h; cases h
  · rw [← S.n, Emb.push_new]
    simp only [Bool.false_eq_true, if_false]
    have : (E.push ⟨w.drew.heap.size, 0, false⟩).at E.n 0 = ⟨w.heap.size, 0, none⟩ := by
      unfold Emb.at
      rw [Emb.push_new]
      rfl
    rw [this]

theorem appX_snd (T : Tbl) {E : Emb} {h : List Blk} {w : World} (S : Sim E h w) {t tx ty : TypeId} {x y : EV} {xv yv : Value} (hx : denE E x xv) (hy : denE E y yv) {ts : List EV} {dst : Option Tmp} {k : St → Prop}
    (hk : appX T ts h t tx x y dst k) : Goes T E h w (Builtin.append_ #[t, tx] ty #[xv, yv]) ts dst k := by
  unfold appX at hk
  split at hk
  · rename_i e _ _ _ ht
    have hd : T.P.underlying t = some (.slice e) := (T.tyOk _ _ ht).desc
    split at hk
    · rename_i te he
      split at hk
      · rename_i r hso hr
        have hsrc := srcOk_snd hso
        have onto : ∀ {b n c : Nat}, ontoX te ts h b n c r dst k → b < E.n → ((E.f b).nl = true ∧ n = 0 ∧ c = 0 ∧ xv = .slice none n c) ∨ ((E.f b).nl = false ∧ xv = .slice (some (E.at b 0)) n c) → Goes T E h w (Builtin.append_ #[t, tx] ty #[xv, yv]) ts dst k := by
          intro b n c hk hb hxv
          unfold ontoX at hk
          split at hk
          · rename_i cs sp hbk
            obtain ⟨⟨hp, hsz, hc, hroom⟩, hk⟩ := hk
            rw [updBK_eq, updB_eq] at hk
            obtain ⟨news, hdn, hs⟩ := rngX_snd T S hy hr hp hsrc
            obtain ⟨l, hl, hlw, _⟩ := S.look (nthB_get hbk)
            have hll := denS_length hl
            have hcat := denS_catS hl hdn
            have hrm := hroom
            obtain ⟨⟨hz1, hz0⟩, hr1, hr2⟩ := hroom
            obtain ⟨i, z, hi, hisz, hby, hz, hzv⟩ := elem_info T he
            rcases Nat.lt_or_ge c (n + r.n) with hg | hroom'
            · rcases hxv with ⟨_, rfl, rfl, rfl⟩ | ⟨_, rfl⟩
              · have : l = [] := List.eq_nil_of_length_eq_zero (by rw [hll, hsz]; simp)
                subst this
                exact grow_snd T S.n (S.drop b) (Since.drop w b) hd he (olds := []) (run_firstCells_none w.drew te.size 0 0 0) hs hcat hg hrm hk
              · refine grow_snd T S.n (S.drop b) (Since.drop w b) hd he (olds := l) (run_firstCells_some w.drew te.size n (E.at b 0) n c l (by rw [hll]; exact hsz) (fun j v hj => ?_)) hs hcat hg hrm hk
                rw [Emb.at_add]
                unfold Emb.at
                rw [Nat.zero_add]
                exact hlw j v hj
            · have hnl := hs.newsLen
              have hmul : n * te.size + r.n * te.size ≤ c * te.size := by rw [← Nat.add_mul]; exact Nat.mul_le_mul_right _ hroom'
              have hcatl := denS_length hcat
              rw [List.length_append, hll, hnl] at hcatl
              have hsp : sizeS (catS cs r.cs) + (c - (n + r.n)) * te.size = sizeS cs + sp := by
                rw [← hcatl, Nat.sub_mul, Nat.add_mul]
                omega
              have S1 := S.write (i := b) (cs' := catS cs r.cs) (sp' := (c - (n + r.n)) * te.size) (nthB_get hbk) (o := sizeS cs) (vs := news) hl hlw
                (by rw [← hll, List.take_length, List.drop_eq_nil_of_le (by omega), List.append_nil]; exact hcat) hsp (Nat.le_refl _) (by rw [hnl]; omega)
              have N1 := Since.write (E := E) (h := h) (w := w) (i := b) (cs := cs) (cs' := catS cs r.cs) (sp' := (c - (n + r.n)) * te.size) (nthB_get hbk) (o := sizeS cs) (vs := news) hsp (by rw [hnl]; omega)
              have hbl : b < h.length := by rw [← S.n]; exact hb
              have hself : (h.set b (.cells true (catS cs r.cs) ((c - (n + r.n)) * te.size)))[b]? = some (.cells true (catS cs r.cs) ((c - (n + r.n)) * te.size)) := List.getElem?_set_self hbl
              have S2 := S1.move hself
              have N2 := Since.move S1 hself
              rw [List.set_set] at S2 N2
              have hk2 := growK_eq ts _ dst (n + r.n) te.size (catS cs r.cs) k hk c hroom'
              obtain ⟨_, _, hm⟩ := S.ok b _ (nthB_get hbk)
              have hm := hm rfl
              have hlen : (h.set b Blk.dead).length = E.n := by rw [List.length_set]; exact S.n.symm
              rcases hxv with ⟨hq, rfl, rfl, rfl⟩ | ⟨hq, rfl⟩
              · have h0 : r.n = 0 := by omega
                have hn0 : news = [] := List.eq_nil_of_length_eq_zero (by rw [hnl, h0]; simp)
                subst hn0
                refine ⟨.slice none 0 0, w, _, _, _, ?_, ?_, S2, N1.trans S.n S1.n N2, hk2⟩
                · have hcl := hs.len
                  have hcc := hs.cells
                  rw [h0] at hcl hcc
                  rw [← hisz] at hcc
                  rcases hs.kind with ⟨e', hkk⟩ | hkk <;> simp [Builtin.append_, run_underlying hd, run_underlying hkk, sizeOf, typeInfo, hi, hcl, hcc]
                · simp only [denE, denV, hlen, Emb.push_new, hq, if_true]
                  refine ⟨by simp [Emb.push], fun _ => ⟨by omega, trivial⟩, by rw [h0]⟩
              · have hex : ∀ j, j < news.length → (w.cell? ⟨(E.f b).1, (E.f b).2 + n * te.size + j, none⟩).isSome = true ∧ w.frozen? ⟨(E.f b).1, (E.f b).2 + n * te.size + j, none⟩ = false := fun j hj => by
                  obtain ⟨⟨v, hv⟩, hro⟩ := hm (n * te.size + j) (by rw [hsz]; omega)
                  rw [Nat.add_assoc, hv]
                  exact ⟨rfl, hro.frozen hv⟩
                have hat : E.at b 0 = ⟨(E.f b).1, (E.f b).2, none⟩ := rfl
                refine ⟨Value.slice (some (E.at b 0)) (n + r.n) c, _, _, _, _, ?_, ?_, S2, N1.trans S.n S1.n N2, hk2⟩
                · rw [hat, hsz]
                  have := run_append_room_src (P := T.P) w t tx ty e i hd hi (E.f b).1 (E.f b).2 n c yv r.n news (by rw [hisz]; exact hs) hroom' (by rw [hisz]; exact fun j hj => (hex j hj).1) (by rw [hisz]; exact fun j hj => (hex j hj).2)
                  rw [hisz] at this
                  exact this
                · simp only [denE, denV, hlen, Emb.push_new, hq, Bool.false_eq_true, if_false]
                  refine ⟨by simp [Emb.push], fun h => h.elim, ?_⟩
                  unfold Emb.at
                  rw [Emb.push_new]
          · exact hk.elim
        split at hk
        · obtain ⟨⟨hp, hroom⟩, hk⟩ := hk
          obtain ⟨news, hdn, hs⟩ := rngX_snd T S hy hr hp hsrc
          simp only [denE, denV] at hx
          subst hx
          rcases Nat.eq_zero_or_pos r.n with h0 | h0
          · have hn0 : news = [] := List.eq_nil_of_length_eq_zero (by rw [hs.newsLen, h0]; simp)
            subst hn0
            obtain ⟨S', N'⟩ := push_nil S hdn
            have hk2 := growK_eq ts h dst r.n te.size r.cs k hk 0 (by omega)
            rw [h0, Nat.sub_zero, Nat.zero_mul] at hk2
            obtain ⟨i, z, hi, hisz, hby, hz, hzv⟩ := elem_info T he
            refine ⟨.slice none 0 0, w, _, _, _, ?_, ?_, S', N', hk2⟩
            · have hcl := hs.len
              have hcc := hs.cells
              rw [h0] at hcl hcc
              rw [← hisz] at hcc
              rcases hs.kind with ⟨e', hkk⟩ | hkk <;> simp [Builtin.append_, run_underlying hd, run_underlying hkk, sizeOf, typeInfo, hi, hcl, hcc]
            · simp only [denE, denV, ← S.n, Emb.push_new, if_true]
              exact ⟨by simp [Emb.push], fun _ => ⟨trivial, trivial⟩, trivial⟩
          · have hk' : growK ts h dst (0 + r.n) te.size r.cs k := by rw [Nat.zero_add]; exact hk
            exact grow_snd T S.n S (Since.refl _ _ _) hd he (olds := []) (run_firstCells_none w.drew te.size 0 0 0) hs (by simpa using hdn) (by omega) (by rw [Nat.zero_add]; exact hroom) hk'
        · simp only [denE, denV] at hx
          exact onto hk hx.1.1 (.inr ⟨hx.1.2, hx.2⟩)
        · rename_i b n c
          simp only [denE, denV] at hx
          obtain ⟨h1, h2, h3⟩ := hx
          refine onto hk h1 ?_
          cases hq : (E.f b).nl with
          | true => rw [hq] at h3 h2; exact .inl ⟨rfl, (h2 rfl).1, (h2 rfl).2, by simpa using h3⟩
          | false => rw [hq] at h3; exact .inr ⟨rfl, by simpa using h3⟩
        · exact hk.elim
      · exact hk.elim
    · exact hk.elim
  · exact hk.elim

end Go.Anv

/- The engine, part 5c: 'append(x, make([]T, n)...)' of whole numbers: zeros behind a slice. Plain theorems; their conditions are the table's own facts. -/
namespace Go.Anv
open Go

theorem zeros_ints (q : IntKind) (z : Int) (n : Nat) : (Builtin.zeroCells #[Value.int q z] n).toList = intsOf q n (fun _ => z) := by
  apply List.ext_getElem?
  intro j
  rcases Nat.lt_or_ge j n with h | h
  · rw [intsOf_get h]
    simp [Builtin.zeroCells, h, Nat.mod_one]
  · rw [List.getElem?_eq_none (by simpa [Builtin.zeroCells] using h), List.getElem?_eq_none (by rw [length_intsOf]; exact h)]

/-- zeros into the room of a slice. -/
theorem run_append_room_zeros {P : Program} (w : World) (t tn ty e : TypeId) (i : TypeInfo) (q : IntKind) (z : Int) (kq kn : IntKind) (ht : P.underlying t = some (.slice e)) (htn : P.underlying tn = some (.int kn)) (hi : P.info? e = some i) (hz : i.zero = some (.int q z)) (hs : i.size = 1)
    (b off n c m : Nat) (h63 : m ≤ 140737488355328) (h48 : m * i.bytes ≤ 281474976710656) (hroom : n + m ≤ c)
    (hc : ∀ j, j < m → (w.cell? ⟨b, off + n + j, none⟩).isSome = true) (hf : ∀ j, j < m → w.frozen? ⟨b, off + n + j, none⟩ = false) :
    (Builtin.append_ #[t, tn] ty #[.slice (some ⟨b, off, none⟩) n c, .int kq m]).run P w = .ok (.slice (some ⟨b, off, none⟩) (n + m) c) (w.setCells b (off + n) (intsOf q m (fun _ => z))) := by
  have hw : IntKind.i64.wrap (m : Int) = m := by rw [IntKind.wrap_i64]; omega
  have h48i : ¬ (281474976710656 < (m : Int) * (i.bytes : Int)) := by
    rw [← Int.natCast_mul]
    omega
  have hneg : ¬ ((m : Int) < 0) := by omega
  have hadd : (⟨b, off, none⟩ : Addr).add n = ⟨b, off + n, none⟩ := by
    unfold Addr.add
    split
    · subst_vars; rfl
    · rfl
  have hst := run_storeCells_cells (P := P) b (off + n) (intsOf q m (fun _ => z)) 0 w (fun j hj => by
    rw [length_intsOf] at hj
    rw [Nat.add_zero]; exact hc j hj) (fun j hj => by
    rw [length_intsOf] at hj
    rw [Nat.add_zero]; exact hf j hj) (fun v hv => by
    simp only [intsOf, List.mem_map] at hv
    obtain ⟨_, _, rfl⟩ := hv
    rfl)
  rw [Nat.add_zero] at hst
  rcases Nat.eq_zero_or_pos m with h0 | h0
  · subst h0
    have : intsOf q 0 (fun _ => z) = [] := rfl
    rw [this] at hst ⊢
    have hw0 : IntKind.i64.wrap 0 = 0 := by decide
    have hroom' : n ≤ c := by omega
    have hnil : (w.setCells b (off + n) []) = w := rfl
    rw [hnil] at hst ⊢
    simp [Builtin.append_, run_underlying ht, run_underlying htn, sizeOf, typeInfo, hi, hs, asInt, asIntOf, hw0, hroom', hadd, hst]
  · have hm : ¬ (m = 0) := by omega
    have hzc : (Builtin.zeroCells (Value.int q z).cells m).toList = intsOf q m (fun _ => z) := zeros_ints q z m
    simp [Builtin.append_, run_underlying ht, run_underlying htn, sizeOf, typeInfo, zeroValue, hi, hz, hs, asInt, asIntOf, hw, hm, hneg, h48i, hroom, hadd, hzc]
    rw [hst]
    rfl

/-- A slice has grown, in whatever way its run is known. -/
theorem grow_core (T : Tbl) {E : Emb} {h h1 : List Blk} {w : World} (n0 : E.n = h.length) (S : Sim E h1 w) (N : Since E h w E h1 w) {e : TypeId} {te : TI} {sem : Sem Value} {zc : Array Value}
    {n c m : Nat} {l : List Value} {cs : List Seg} (hrun : sem.run T.P w = .ok (.slice (some ⟨w.heap.size, 0, none⟩) (n + m) (grownCap w (n + m) c e)) (w.drew.alloc (.cells (l.toArray ++ zc) e)))
    (hzc : zc.size = (grownCap w (n + m) c e - (n + m)) * te.size) (hd : denS E cs l) {ts : List EV} {dst : Option Tmp} {k : St → Prop}
    (hk : growK ts h1 dst (n + m) te.size cs k) : Goes T E h w sem ts dst k := by
  have hge := grownCap_ge w (n + m) c e
  obtain ⟨S', N'⟩ := push_row S.drew e (arr := l.toArray ++ zc) (lo := 0) (hi := 0) (.inl rfl) (cs := cs) (sp := (grownCap w (n + m) c e - (n + m)) * te.size)
    (l := l) (rest := zc.toList) hd (by simp) (by rw [Array.length_toList, hzc]; exact Nat.le_refl _)
  refine ⟨_, _, _, _, _, hrun, ?_, S', ((N.trans n0 S.n (Since.drew E h1 w)).trans n0 S.n N'), growK_eq ts h1 dst (n + m) te.size cs k hk _ hge⟩
  simp only [denE, denV]
  refine ⟨by rw [← S.n]; simp [Emb.push], ?_, ?_⟩
  · rw [← S.n, Emb.push_new]
    intro h; cases h
  · rw [← S.n, Emb.push_new]
    simp only [Bool.false_eq_true, if_false]
    have : (E.push ⟨w.drew.heap.size, 0, false⟩).at E.n 0 = ⟨w.heap.size, 0, none⟩ := by
      unfold Emb.at
      rw [Emb.push_new]
      rfl
    rw [this]

theorem zappX_snd (T : Tbl) {E : Emb} {h : List Blk} {w : World} (S : Sim E h w) {t tx ty : TypeId} {kn kq : IntKind} {x : EV} {xv : Value} {m : Int} (hx : denE E x xv) (htn : T.P.underlying tx = some (.int kn)) {ts : List EV} {dst : Option Tmp} {k : St → Prop}
    (hk : zappX T ts h t x m dst k) : Goes T E h w (Builtin.append_ #[t, tx] ty #[xv, .int kq m]) ts dst k := by
  unfold zappX at hk
  split at hk
  · rename_i e _ _ _ ht
    have hd : T.P.underlying t = some (.slice e) := (T.tyOk _ _ ht).desc
    split at hk
    · rename_i te he
      split at hk
      · rename_i q z hz1 hs1
        obtain ⟨i, zv, hi, hisz, hby, hz, hzv⟩ := elem_info T he
        rw [hz1] at hzv
        simp only [valE, valV, Option.some.injEq] at hzv
        subst hzv
        have his : i.size = 1 := by rw [hisz, hs1]
        have hzcs : ∀ n, (Builtin.zeroCells (Value.int q z).cells n).size = n := fun n => by simp [Builtin.zeroCells, Value.cells]
        have grow : ∀ {h1 : List Blk} {base : Option Addr} {n c : Nat} {olds : List Value} {cs : List Seg}, Sim E h1 w → Since E h w E h1 w → (Builtin.firstCells te.size n (.slice base n c)).run T.P w.drew = .ok olds.toArray w.drew → denS E cs (olds ++ intsOf q m.toNat (fun _ => z)) →
            0 ≤ m → 0 < m.toNat → c < n + m.toNat → room te (n + m.toNat) → growK ts h1 dst (n + m.toNat) te.size cs k → Goes T E h w (Builtin.append_ #[t, tx] ty #[.slice base n c, .int kq m]) ts dst k := by
          intro h1 base n c olds cs S1 N1 hold hden hm hpos hg hr hk
          obtain ⟨_, hr1, hr2⟩ := hr
          rw [← hby] at hr2
          rw [← hisz] at hold
          obtain ⟨k', rfl⟩ := Int.eq_ofNat_of_zero_le hm
          rw [Int.toNat_natCast] at *
          have hfit := growslice_fits hg hr2
          have hkb : k' * i.bytes ≤ 281474976710656 := by
            have : k' * i.bytes ≤ (n + k') * i.bytes := Nat.mul_le_mul_right _ (by omega)
            omega
          have hrun := Lib.run_append_grow_zeros (P := T.P) w t tx ty e i (.int q z) kq kn hd htn hi hz base n c olds hold k' hpos (by omega) hg (by omega) hkb hfit
          refine grow_core T S.n S1 N1 (e := e) (zc := Builtin.zeroCells (Value.int q z).cells (grownCap w (n + k') c e - (n + k'))) (l := olds ++ intsOf q k' (fun _ => z)) ?_ (by rw [hzcs, hs1, Nat.mul_one]) hden hk
          rw [hrun]
          have : (olds ++ intsOf q k' fun _ => z).toArray = olds.toArray ++ Builtin.zeroCells (Value.int q z).cells k' := by
            rw [← Array.toList_inj, Array.toList_append, ← zeros_ints q z k']
            rfl
          rw [this]
        have onto : ∀ {b n c : Nat}, ontoX te ts h b n c ⟨0 ≤ m, m.toNat, [.ints q m.toNat (fun _ => z)]⟩ dst k → b < E.n → ((E.f b).nl = true ∧ n = 0 ∧ c = 0 ∧ xv = .slice none n c) ∨ ((E.f b).nl = false ∧ xv = .slice (some (E.at b 0)) n c) →
            Goes T E h w (Builtin.append_ #[t, tx] ty #[xv, .int kq m]) ts dst k := by
          intro b n c hk hb hxv
          unfold ontoX at hk
          split at hk
          · rename_i cs sp hbk
            obtain ⟨⟨hp, hsz, hc, hroom⟩, hk⟩ := hk
            simp only at hp hroom hk
            rw [updBK_eq, updB_eq] at hk
            obtain ⟨l, hl, hlw, _⟩ := S.look (nthB_get hbk)
            have hll := denS_length hl
            have hdn : denS E [Seg.ints q m.toNat (fun _ => z)] (intsOf q m.toNat (fun _ => z)) := ⟨[], by rw [List.append_nil], rfl⟩
            have hcat := denS_catS hl hdn
            have hrm := hroom
            obtain ⟨_, hr1, hr2⟩ := hroom
            rw [hs1, Nat.mul_one] at hsz
            rw [hs1, Nat.mul_one, Nat.mul_one] at hc
            rcases Nat.lt_or_ge c (n + m.toNat) with hg | hroom'
            · have hpos : 0 < m.toNat := by omega
              rcases hxv with ⟨_, rfl, rfl, rfl⟩ | ⟨_, rfl⟩
              · have : l = [] := List.eq_nil_of_length_eq_zero (by rw [hll, hsz])
                subst this
                exact grow (S.drop b) (Since.drop w b) (olds := []) (run_firstCells_none w.drew te.size 0 0 0) hcat hp hpos hg hrm hk
              · refine grow (S.drop b) (Since.drop w b) (olds := l) (run_firstCells_some w.drew te.size n (E.at b 0) n c l (by rw [hll, hsz, hs1, Nat.mul_one]) (fun j v hj => ?_)) hcat hp hpos hg hrm hk
                rw [Emb.at_add]
                unfold Emb.at
                rw [Nat.zero_add]
                exact hlw j v hj
            · have hcatl := denS_length hcat
              rw [List.length_append, hll, length_intsOf] at hcatl
              have hsp : sizeS (catS cs [Seg.ints q m.toNat (fun _ => z)]) + (c - (n + m.toNat)) * te.size = sizeS cs + sp := by
                rw [← hcatl, hs1, Nat.mul_one]
                omega
              have S1 := S.write (i := b) (cs' := catS cs [Seg.ints q m.toNat (fun _ => z)]) (sp' := (c - (n + m.toNat)) * te.size) (nthB_get hbk) (o := sizeS cs) (vs := intsOf q m.toNat (fun _ => z)) hl hlw
                (by rw [← hll, List.take_length, List.drop_eq_nil_of_le (by omega), List.append_nil]; exact hcat) hsp (Nat.le_refl _) (by rw [length_intsOf]; omega)
              have N1 := Since.write (E := E) (h := h) (w := w) (i := b) (cs := cs) (cs' := catS cs [Seg.ints q m.toNat (fun _ => z)]) (sp' := (c - (n + m.toNat)) * te.size) (nthB_get hbk) (o := sizeS cs) (vs := intsOf q m.toNat (fun _ => z)) hsp (by rw [length_intsOf]; omega)
              have hbl : b < h.length := by rw [← S.n]; exact hb
              have hself : (h.set b (.cells true (catS cs [Seg.ints q m.toNat (fun _ => z)]) ((c - (n + m.toNat)) * te.size)))[b]? = some (.cells true (catS cs [Seg.ints q m.toNat (fun _ => z)]) ((c - (n + m.toNat)) * te.size)) := List.getElem?_set_self hbl
              have S2 := S1.move hself
              have N2 := Since.move S1 hself
              rw [List.set_set] at S2 N2
              have hk2 := growK_eq ts _ dst (n + m.toNat) te.size (catS cs [Seg.ints q m.toNat (fun _ => z)]) k hk c hroom'
              obtain ⟨_, _, hm⟩ := S.ok b _ (nthB_get hbk)
              have hm := hm rfl
              have hlen : (h.set b Blk.dead).length = E.n := by rw [List.length_set]; exact S.n.symm
              obtain ⟨k', rfl⟩ := Int.eq_ofNat_of_zero_le hp
              rw [Int.toNat_natCast] at *
              have hkb : k' * i.bytes ≤ 281474976710656 := by
                rw [← hby] at hr2
                have : k' * i.bytes ≤ (n + k') * i.bytes := Nat.mul_le_mul_right _ (by omega)
                omega
              rcases hxv with ⟨hq, rfl, rfl, rfl⟩ | ⟨hq, rfl⟩
              · have h0 : k' = 0 := by omega
                subst h0
                refine ⟨.slice none 0 0, w, _, _, _, ?_, ?_, S2, N1.trans S.n S1.n N2, hk2⟩
                · have hw0 : IntKind.i64.wrap 0 = 0 := by decide
                  simp [Builtin.append_, run_underlying hd, run_underlying htn, sizeOf, typeInfo, hi, asInt, asIntOf, hw0]
                · simp only [denE, denV, hlen, Emb.push_new, hq, if_true]
                  exact ⟨by simp [Emb.push], fun _ => ⟨by omega, trivial⟩, trivial⟩
              · have hex : ∀ j, j < k' → (w.cell? ⟨(E.f b).1, (E.f b).2 + n + j, none⟩).isSome = true ∧ w.frozen? ⟨(E.f b).1, (E.f b).2 + n + j, none⟩ = false := fun j hj => by
                  obtain ⟨⟨v, hv⟩, hro⟩ := hm (n + j) (by omega)
                  rw [Nat.add_assoc, hv]
                  exact ⟨rfl, hro.frozen hv⟩
                have hat : E.at b 0 = ⟨(E.f b).1, (E.f b).2, none⟩ := rfl
                refine ⟨Value.slice (some (E.at b 0)) (n + k') c, _, _, _, _, ?_, ?_, S2, N1.trans S.n S1.n N2, hk2⟩
                · rw [hat, hsz]
                  exact run_append_room_zeros (P := T.P) w t tx ty e i q z kq kn hd htn hi hz his (E.f b).1 (E.f b).2 n c k' (by omega) hkb hroom' (fun j hj => (hex j hj).1) (fun j hj => (hex j hj).2)
                · simp only [denE, denV, hlen, Emb.push_new, hq, Bool.false_eq_true, if_false]
                  refine ⟨by simp [Emb.push], fun h => h.elim, ?_⟩
                  unfold Emb.at
                  rw [Emb.push_new]
          · exact hk.elim
        split at hk
        · obtain ⟨⟨hp, hroom⟩, hk⟩ := hk
          simp only [denE, denV] at hx
          subst hx
          rcases Nat.eq_zero_or_pos m.toNat with h0 | h0
          · have hm0 : m = 0 := by omega
            subst hm0
            obtain ⟨S', N'⟩ := push_nil S (cs := [Seg.ints q (0 : Int).toNat (fun _ => z)]) ⟨[], rfl, rfl⟩
            have hk2 := growK_eq ts h dst (0 : Int).toNat te.size [Seg.ints q (0 : Int).toNat (fun _ => z)] k hk 0 (by simp)
            refine ⟨.slice none 0 0, w, _, _, _, ?_, ?_, S', N', by simpa using hk2⟩
            · have hw0 : IntKind.i64.wrap 0 = 0 := by decide
              simp [Builtin.append_, run_underlying hd, run_underlying htn, sizeOf, typeInfo, hi, asInt, asIntOf, hw0]
            · simp only [denE, denV, ← S.n, Emb.push_new, if_true]
              exact ⟨by simp [Emb.push], by simp, by simp⟩
          · have hk' : growK ts h dst (0 + m.toNat) te.size [Seg.ints q m.toNat (fun _ => z)] k := by rw [Nat.zero_add]; exact hk
            exact grow S (Since.refl _ _ _) (olds := []) (run_firstCells_none w.drew te.size 0 0 0) (show denS E [Seg.ints q m.toNat (fun _ => z)] ([] ++ intsOf q m.toNat (fun _ => z)) from ⟨[], by simp, rfl⟩) hp h0 (by omega) (by rw [Nat.zero_add]; exact hroom) hk'
        · simp only [denE, denV] at hx
          exact onto hk hx.1.1 (.inr ⟨hx.1.2, hx.2⟩)
        · rename_i b n c
          simp only [denE, denV] at hx
          obtain ⟨h1, h2, h3⟩ := hx
          refine onto hk h1 ?_
          cases hq : (E.f b).nl with
          | true => rw [hq] at h3 h2; exact .inl ⟨rfl, (h2 rfl).1, (h2 rfl).2, by simpa using h3⟩
          | false => rw [hq] at h3; exact .inr ⟨rfl, by simpa using h3⟩
        · exact hk.elim
      · exact hk.elim
    · exact hk.elim
  · exact hk.elim

end Go.Anv

/- The engine, part 6: the operations with an effect, and the walker as a whole. Plain theorems; their conditions are the table's own facts. -/
namespace Go.Anv
open Go

/-! ### frames -/

theorem nth_upd : ∀ (ts : List EV) (d i : Nat) (v : EV), nth (upd ts d v) i = if i = d ∧ d < ts.length then v else nth ts i
  | [], d, i, v => by simp [upd, nth]
  | x :: r, 0, 0, v => by simp [upd, nth]
  | x :: r, 0, i + 1, v => by simp [upd, nth]
  | x :: r, d + 1, 0, v => by simp [upd, nth]
  | x :: r, d + 1, i + 1, v => by simp [upd, nth, nth_upd r d i v]

theorem length_upd : ∀ (ts : List EV) (d : Nat) (v : EV), (upd ts d v).length = ts.length
  | [], _, _ => rfl
  | x :: r, 0, v => by simp [upd]
  | x :: r, d + 1, v => by simp [upd, length_upd r d v]

theorem frameOk_mono {E E' : Emb} (h : E.le E') {ts : List EV} {a : Array Value} (f : frameOk E ts a) : frameOk E' ts a :=
  ⟨f.1, fun i v hi => denE_mono h _ _ (f.2 i v hi)⟩

theorem frameOk_put {E : Emb} {s : St} {a : Act} (f : frameOk E s.tmps a.tmps) (dst : Option Tmp) {v : EV} {u : Value} (hv : denE E v u) :
    frameOk E (s.put dst v).tmps (a.put dst u).tmps := by
  cases dst with
  | none => exact f
  | some d =>
    refine ⟨by simp [St.put, Act.put, length_upd, f.1], fun i x hi => ?_⟩
    simp only [St.put, Act.put] at hi ⊢
    rw [nth_upd]
    rw [Array.getElem?_setIfInBounds] at hi
    by_cases hid : d = i
    · subst hid
      rw [if_pos rfl] at hi
      split at hi
      · rename_i hlt
        simp only [Option.some.injEq] at hi
        subst hi
        rw [if_pos ⟨rfl, by rw [← f.1]; exact hlt⟩]
        exact hv
      · cases hi
    · rw [if_neg hid] at hi
      rw [if_neg (fun e => hid e.1.symm)]
      exact f.2 i x hi

theorem put_heap (s : St) (dst : Option Tmp) (v : EV) : (s.put dst v).heap = s.heap := by cases dst <;> rfl
theorem put_tmps (s : St) (h : List Blk) (dst : Option Tmp) (v : EV) : (({ s with heap := h } : St).put dst v).tmps = (s.put dst v).tmps := by cases dst <;> rfl
theorem put_defers (a : Act) (dst : Option Tmp) (v : Value) : (a.put dst v).defers = a.defers := by cases dst <;> rfl

theorem ev_den {E : Emb} {s : St} {a : Act} (f : frameOk E s.tmps a.tmps) (x : Operand) : denE E (s.ev x) (a.eval x) ∨ s.ev x = .junk := by
  cases x with
  | tmp t =>
    simp only [St.ev, evT, Act.eval]
    rcases Nat.lt_or_ge t a.tmps.size with h | h
    · left
      have := f.2 t _ (Array.getElem?_eq_getElem h)
      simpa [Array.getElem?_eq_getElem h] using this
    · right
      have hl : s.tmps.length ≤ t := by rw [← f.1]; exact h
      have key : ∀ (l : List EV) (t : Nat), l.length ≤ t → nth l t = .junk := fun l => by
        induction l with
        | nil => intro t _; rfl
        | cons x r ih =>
          intro t ht
          cases t with
          | zero => simp at ht
          | succ t => simp only [nth]; exact ih t (by simpa using ht)
      exact key _ _ hl
  | const v =>
    simp only [St.ev, evT, Act.eval]
    split
    · rename_i e he
      left
      unfold constV at he
      split at he <;> first
        | (cases he; done)
        | (simp only [Option.some.injEq] at he; subst he; simp only [denE, denV]; done)
        | (simp only [Option.some.injEq] at he; subst he; simp only [denE, denV])
    · right; rfl
  | global g => right; rfl
  | func f =>
    left
    simp only [St.ev, evT, Act.eval, denE, denV]
    exact ⟨_, _, rfl, by simp [denL], by simp [denL]⟩

theorem ev_denE {E : Emb} {s : St} {a : Act} (f : frameOk E s.tmps a.tmps) (x : Operand) : denE E (s.ev x) (a.eval x) := by
  rcases ev_den f x with h | h
  · exact h
  · rw [h]; simp only [denE]

/-! ### a state goes on -/

theorem Rel.put {O : Org} {E : Emb} {s : St} {a : Act} {w : World} (R : Rel O E s a w) (dst : Option Tmp) {v : EV} {u : Value} (hv : denE E v u) : Rel O E (s.put dst v) (a.put dst u) w :=
  ⟨frameOk_put R.fr dst hv, by rw [put_defers]; exact R.df, by rw [put_heap]; exact R.sim, by rw [put_heap]; exact R.sin⟩

/-- To a later world. -/
theorem Rel.on {O : Org} (on : O.E.n = O.h.length) {E E' : Emb} {s : St} {h' : List Blk} {a : Act} {w w' : World} (R : Rel O E s a w) (S : Sim E' h' w') (N : Since E s.heap w E' h' w') : Rel O E' { s with heap := h' } a w' :=
  ⟨frameOk_mono (N.le R.sim.n S.n) R.fr, R.df, S, R.sin.trans on R.sim.n N⟩

/-- Cells are stored into a block that may be written. -/
theorem run_storeAt (T : Tbl) {E : Emb} {h : List Blk} {w : World} (S : Sim E h w) {t : TypeId} {i : TI} (ht : T.ty t = some i) {b o : Nat} {cs cs' : List Seg} {sp : Nat} (hb : h[b]? = some (.cells true cs sp))
    {v : Value} (hsz : v.cells.size = i.size)
    (hput : ∀ l, denS E cs l → denS E cs' (l.take o ++ (v.cells.toList ++ l.drop (o + v.cells.toList.length))) ∧ sizeS cs' = sizeS cs ∧ o + v.cells.toList.length ≤ sizeS cs)
    (hone : ∀ x ∈ v.cells.toList, x.oneCell' = true) :
    ∃ w', (Instr.storeAt t (.pointer (some (E.at b o))) v).run T.P w = .ok () w' ∧ Sim E (h.set b (.cells true cs' sp)) w' ∧ Since E h w E (h.set b (.cells true cs' sp)) w' := by
  obtain ⟨l, hl, hw, _⟩ := S.look hb
  obtain ⟨h1, h2, h3⟩ := hput l hl
  obtain ⟨_, _, hm⟩ := S.ok b _ hb
  have hm := hm rfl
  have h4 := run_sizeOf_ti T ht w
  refine ⟨_, ?_, S.store hb hl hw h1 h2 h3, Since.store hb h2 h3⟩
  have h5 := run_storeCells_cells (P := T.P) (E.f b).1 ((E.f b).2 + o) v.cells.toList 0 w (fun j hj => by
      obtain ⟨⟨x, hx⟩, _⟩ := hm (o + j) (by omega)
      rw [Nat.add_zero, Nat.add_assoc, hx]; rfl) (fun j hj => by
      obtain ⟨⟨x, hx⟩, hr⟩ := hm (o + j) (by omega)
      rw [Nat.add_zero, Nat.add_assoc]; exact hr.frozen hx) hone
  simp only [Nat.add_zero] at h5
  simp only [Instr.storeAt, Instr.sureAddr, pure_bind, storeVar, Sem.run_bind, h4, Result.andThen_ok, hsz, ne_eq, not_true_eq_false, if_false]
  exact h5


theorem list_set_eq {l : List Value} {o : Nat} (v : Value) (h : o < l.length) : l.set o v = l.take o ++ ([v] ++ l.drop (o + [v].length)) := by
  rw [List.set_eq_take_append_cons_drop, if_pos h]
  rfl

theorem storeX_snd (T : Tbl) {E : Emb} {w : World} {h : List Blk} (S : Sim E h w) {t : TypeId} {x v : EV} {xv vv : Value} (hx : denE E x xv) (hv : denE E v vv) {k : List Blk → Prop} (hk : storeX T t x v h k) :
    ∃ h' w', (Instr.storeAt t xv vv).run T.P w = .ok () w' ∧ k h' ∧ Sim E h' w' ∧ Since E h w E h' w' := by
  unfold storeX at hk
  simp only [forceS_eq, updBK_eq] at hk
  split at hk
  · rename_i i b o ht
    simp only [denE, denV] at hx
    obtain ⟨_, rfl⟩ := hx
    split at hk
    · rename_i cs sp u h1 h2
      have hcells := segsOf_den hv h2
      split at hk
      · rename_i cs' hsz hset
        simp only [denS] at hcells
        obtain ⟨z, l', hz, hzd, rfl⟩ := hcells
        have hb := nthB_get h1
        rw [updB_eq] at hk
        obtain ⟨w', h3, h4, h5⟩ := run_storeAt T S ht (o := o) (cs' := cs') hb (v := vv) (by rw [← Array.length_toList, hz, hsz]; rfl) (fun l hl => by
          rw [hz]
          obtain ⟨k1, k2, k3⟩ := setS_den hl hzd hset
          refine ⟨?_, k2, k3⟩
          rw [← list_set_eq z (by rw [denS_length hl]; exact k3)]
          exact k1) (fun y hy => by rw [hz] at hy; simp at hy; subst hy; exact denV_oneCell hzd)
        exact ⟨_, w', h3, hk, h4, h5⟩
      · exact hk.elim
    · rename_i cs sp new hnot h1 h2
      have hcells := segsOf_den hv h2
      split at hk
      · rename_i cs' hput
        obtain ⟨hsz, hk⟩ := hk
        have hb := nthB_get h1
        rw [updB_eq] at hk
        obtain ⟨w', h3, h4, h5⟩ := run_storeAt T S ht (o := o) (cs' := cs') hb (v := vv) (by rw [← hsz, ← denS_length hcells]; simp) (fun l hl => putS_den hl hcells hput)
          (fun y hy => denS_oneCell hcells y hy)
        exact ⟨_, w', h3, hk, h4, h5⟩
      · exact hk.elim
    · exact hk.elim
  · rename_i i b o j ht
    simp only [denE, denV] at hx
    obtain ⟨_, rfl⟩ := hx
    split at hk
    · rename_i q x cs sp h1
      simp only [denE, denV] at hv
      subst hv
      split at hk
      · rename_i q' n f cs' hsz hget hset
        obtain ⟨hj, hk⟩ := hk
        have hb := nthB_get h1
        rw [updB_eq] at hk
        obtain ⟨w', h3, h4, h5⟩ := run_storeAt T S ht (o := o + j) (cs' := cs') hb (v := .int q x) (by rw [hsz]; rfl) (fun l hl => by
          obtain ⟨k1, k2, k3⟩ := setI_den hl hset (fun k' n' f' hg => by rw [hg] at hget; simp only [Option.some.injEq, Prod.mk.injEq] at hget; rw [hget.2.1]; exact hj)
          refine ⟨?_, k2, k3⟩
          have := list_set_eq (Value.int q x) (show o + j < l.length by rw [denS_length hl]; exact k3)
          simp only [Value.cells] at *
          rw [← this]
          exact k1) (fun y hy => by simp [Value.cells] at hy; subst hy; rfl)
        exact ⟨_, w', h3, hk, h4, h5⟩
      · exact hk.elim
    · exact hk.elim
  · exact hk.elim

/-! ### new blocks, built values -/

theorem new_snd {E : Emb} {h : List Blk} {w : World} (S : Sim E h w) (t : TypeId) {cs : List Seg} {v : Value} (hd : denS E cs v.cells.toList) :
    Sim (E.push ⟨w.heap.size, 0, false⟩) (h ++ [Blk.cells true cs 0]) (w.alloc (.cells v.cells t)) ∧ Since E h w (E.push ⟨w.heap.size, 0, false⟩) (h ++ [Blk.cells true cs 0]) (w.alloc (.cells v.cells t)) := by
  have hN := okBlk_new (E := E) (w := w) (m := true) t hd
  rw [Array.toArray_toList] at hN
  exact ⟨S.push _ _ hN, Since.push S _ _⟩

theorem push_at (E : Emb) (w : World) : (E.push ⟨w.heap.size, 0, false⟩).at E.n 0 = ⟨w.heap.size, 0, none⟩ := by
  simp [Emb.at, Emb.push_new]

theorem places_spec (T : Tbl) (w : World) : ∀ {fs : List Field} {ps : List (Nat × Nat)}, places T (fs.map fun f => (f.type, f.offset)) = some ps →
    (fs.mapM fun f => Prod.mk f.offset <$> sizeOf f.type).run T.P w = .ok ps w
  | [], ps, h => by
    simp only [List.map_nil, places, Option.some.injEq] at h
    subst h
    rfl
  | f :: fs, ps, h => by
    simp only [List.map_cons, places] at h
    split at h
    · rename_i ti qs h1 h2
      simp only [Option.some.injEq] at h
      subst h
      have ih := places_spec T w h2
      have hs := run_sizeOf_ti T h1 w
      simp [List.mapM_cons, hs, ih]
    · cases h

theorem nthP_get : ∀ {ps : List (Nat × Nat)} {i : Nat}, nthP ps i = ps[i]?
  | [], i => by simp [nthP]
  | x :: r, 0 => by simp [nthP]
  | x :: r, i + 1 => by simp [nthP, nthP_get (ps := r) (i := i)]

/-- The parts of a struct or an array, laid over its cells. -/
theorem foldl_set (l : List Value) : ∀ (vs : List Value) (o n : Nat) (cs : Array Value), cs.toList = l → o + n + vs.length ≤ l.length →
    ((vs.zipIdx n).foldl (fun cs (p : Value × Nat) => cs.setIfInBounds (o + p.2) p.1) cs).toList = l.take (o + n) ++ (vs ++ l.drop (o + n + vs.length))
  | [], o, n, cs, h, _ => by simp [h]
  | v :: vs, o, n, cs, h, hl => by
    simp only [List.zipIdx_cons, List.foldl_cons]
    have hlt : o + n < l.length := by simp at hl; omega
    have hset : (cs.setIfInBounds (o + n) v).toList = l.set (o + n) v := by simp [h]
    rw [foldl_set (l.set (o + n) v) vs o (n + 1) _ hset (by simp at hl ⊢; omega)]
    rw [show o + (n + 1) = o + n + 1 by omega, List.take_add_one, List.getElem?_set_self hlt, List.take_set_of_le (by omega), List.drop_set_of_lt (by omega)]
    simp
    congr 1
    omega

theorem fill_snd {E : Emb} (place : Nat → Option (Nat × Nat)) : ∀ {parts : List (Nat × EV)} {vals : List (Nat × Value)} {cs cs' : List Seg} {arr : Array Value},
    denS E cs arr.toList → (vals.map (·.1) = parts.map (·.1)) → denT E (parts.map (·.2)) (vals.map (·.2)) → fillX place cs parts = some cs' →
    ∃ arr', Instr.fill place arr vals = some arr' ∧ denS E cs' arr'.toList
  | [], vals, cs, cs', arr, hd, hv, _, h => by
    cases vals with
    | nil =>
      simp only [fillX, Option.some.injEq] at h
      subst h
      exact ⟨arr, rfl, hd⟩
    | cons x r => simp at hv
  | (i, e) :: parts, vals, cs, cs', arr, hd, hv, ht, h => by
    cases vals with
    | nil => simp at hv
    | cons x vals =>
      obtain ⟨i', v⟩ := x
      simp only [List.map_cons, List.cons.injEq] at hv
      obtain ⟨hi, hv⟩ := hv
      subst hi
      simp only [List.map_cons, denT] at ht
      obtain ⟨v', l', heq, he, ht⟩ := ht
      simp only [List.cons.injEq] at heq
      obtain ⟨rfl, rfl⟩ := heq
      unfold fillX at h
      cases hp : place i' with
      | none => rw [hp] at h; cases h
      | some p =>
        obtain ⟨off, size⟩ := p
        rw [hp] at h
        simp only at h
        have hlen := denS_length hd
        -- a step: the cells of v over the row
        have step : ∀ c, sizeS c = sizeS cs → off + v.cells.toList.length ≤ sizeS cs → v.cells.toList.length = size →
            denS E c (arr.toList.take off ++ (v.cells.toList ++ arr.toList.drop (off + v.cells.toList.length))) → fillX place c parts = some cs' →
            ∃ arr', Instr.fill place arr ((i', v) :: vals) = some arr' ∧ denS E cs' arr'.toList := fun c hc1 hc2 hc3 hc4 hc5 => by
          have hf := foldl_set arr.toList v.cells.toList off 0 arr rfl (by omega)
          have hrow : (v.cells.zipIdx.foldl (fun cs (c, j) => cs.setIfInBounds (off + j) c) arr).toList = arr.toList.take off ++ (v.cells.toList ++ arr.toList.drop (off + v.cells.toList.length)) := by
            rw [← Array.foldl_toList, Array.toList_zipIdx]
            simpa using hf
          obtain ⟨arr', h1, h2⟩ := fill_snd place (parts := parts) (vals := vals) (cs := c) (cs' := cs') (arr := v.cells.zipIdx.foldl (fun cs (c, j) => cs.setIfInBounds (off + j) c) arr)
            (by rw [hrow]; exact hc4) hv ht hc5
          refine ⟨arr', ?_, h2⟩
          simp only [Instr.fill, hp]
          rw [if_neg]
          · exact h1
          · simp only [Array.length_toList] at hc2 hc3 hlen
            simp only [ne_eq, gt_iff_lt, Bool.or_eq_true, decide_eq_true_eq, not_or, Decidable.not_not]
            omega
        have one : ∀ z : Value, z.oneCell' = true → z.cells.toList = [z] := fun z hz => by cases z <;> first | rfl | (simp [Value.oneCell'] at hz)
        have hset : ∀ u c, denV E u v → setS cs off u = some c → size = 1 → fillX place c parts = some cs' → ∃ arr', Instr.fill place arr ((i', v) :: vals) = some arr' ∧ denS E cs' arr'.toList := fun u c hu hc hs hf => by
          obtain ⟨k1, k2, k3⟩ := setS_den hd hu hc
          have h1 := one v (denV_oneCell hu)
          refine step c k2 (by rw [h1]; simp; omega) (by rw [h1, hs]; rfl) ?_ hf
          rw [h1, ← list_set_eq v (by omega)]
          exact k1
        cases e with
        | s u =>
          simp only [denE] at he
          cases u with
          | int k q =>
            simp only at h
            split at h
            · split at h
              · rename_i c hc
                exact hset _ c he hc rfl h
              · split at h
                · rename_i n0 f0 c hg0 hc
                  simp only [denV] at he
                  have hn : ∀ k' n f, getI cs off = some (k', n, f) → 0 < n := fun k' n f hg => by
                    rw [hg] at hg0
                    simp only [Option.some.injEq, Prod.mk.injEq] at hg0
                    omega
                  obtain ⟨k1, k2, k3⟩ := setI_den hd hc hn
                  simp only [Nat.add_zero] at k1 k3
                  subst he
                  refine step c k2 (by simp [Value.cells]; omega) rfl ?_ h
                  have := list_set_eq (Value.int k q) (show off < arr.toList.length by omega)
                  simp only [Value.cells] at *
                  rw [← this]
                  exact k1
                · cases h
            · cases h
          | _ =>
            simp only at h
            split at h
            · rename_i c hc
              exact hset _ c he hc rfl h
            · cases h
        | agg new =>
          simp only at h
          split at h
          · rename_i hsz
            split at h
            · rename_i c hc
              simp only [denE] at he
              obtain ⟨l, rfl, hl⟩ := he
              obtain ⟨k1, k2, k3⟩ := putS_den hd hl hc
              exact step c k2 k3 (by simp only [Value.cells]; rw [denS_length hl, hsz]) k1 h
            · cases h
          · cases h
        | tuple _ => simp at h
        | gd _ _ => simp at h
        | junk => simp at h


theorem buildX_snd (T : Tbl) {E : Emb} (w : World) {t : TypeId} {parts : Array (Nat × Operand)} {cs : List Seg} (ev : Operand → EV) (ρ : Operand → Value) (hev : ∀ x, denE E (ev x) (ρ x))
    (h : buildX T t (parts.toList.map fun p => (p.1, ev p.2)) = some cs) :
    ∃ arr, (Instr.build t (parts.map fun (i, x) => (i, ρ x))).run T.P w = .ok (.agg arr) w ∧ denS E cs arr.toList := by
  have hvals : ((parts.map fun (i, x) => (i, ρ x)).toList.map (·.1)) = ((parts.toList.map fun p => (p.1, ev p.2)).map (·.1)) := by simp
  have hden : denT E ((parts.toList.map fun p => (p.1, ev p.2)).map (·.2)) ((parts.map fun (i, x) => (i, ρ x)).toList.map (·.2)) := by
    simp only [Array.toList_map, List.map_map]
    have key : ∀ l : List (Nat × Operand), denT E (l.map ((fun x => x.2) ∘ fun p => (p.1, ev p.2))) (l.map ((fun x => x.2) ∘ fun x => (x.1, ρ x.2))) := fun l => by
      induction l with
      | nil => simp [denT]
      | cons p l ih => simp only [List.map_cons, denT, Function.comp]; exact ⟨_, _, rfl, hev p.2, ih⟩
    exact key _
  unfold buildX at h
  split at h
  · rename_i fs sz by_ z ht
    have hd := (T.tyOk _ _ ht).desc
    obtain ⟨a, ha, hm⟩ := hd
    obtain ⟨zv, hz, hzd⟩ := run_zero_ti T ht w
    split at h
    · rename_i ps hps
      have hzz := hzd E
      simp only [denE] at hzz
      obtain ⟨zl, rfl, hzl⟩ := hzz
      rw [← hm] at hps
      have hpl := places_spec T w hps
      obtain ⟨arr, h1, h2⟩ := fill_snd (nthP ps) (parts := parts.toList.map fun p => (p.1, ev p.2)) (vals := (parts.map fun (i, x) => (i, ρ x)).toList) (arr := zl) hzl hvals hden h
      refine ⟨arr, ?_, h2⟩
      have hfun : nthP ps = fun i => ps.toArray[i]? := by funext i; rw [nthP_get]; simp
      rw [hfun] at h1
      simp [Instr.build, hz, run_underlying ha, Array.mapM_eq_mapM_toList, hpl, Value.cells]
      simp at h1
      simp [h1]
    · cases h
  · rename_i n e sz by_ z ht
    have hd : T.P.underlying t = some (.array n e) := (T.tyOk _ _ ht).desc
    obtain ⟨zv, hz, hzd⟩ := run_zero_ti T ht w
    split at h
    · rename_i te hte
      have hzz := hzd E
      simp only [denE] at hzz
      obtain ⟨zl, rfl, hzl⟩ := hzz
      have hs := run_sizeOf_ti T hte w
      obtain ⟨arr, h1, h2⟩ := fill_snd (fun i => some (i * te.size, te.size)) (parts := parts.toList.map fun p => (p.1, ev p.2)) (vals := (parts.map fun (i, x) => (i, ρ x)).toList) (arr := zl) hzl hvals hden h
      refine ⟨arr, ?_, h2⟩
      simp at h1
      simp [Instr.build, hz, run_underlying hd, hs, Value.cells, h1]
    · cases h
  · cases h

end Go.Anv

/- The engine, part 6b: slices that are made, built, turned, copied. Plain theorems; their conditions are the table's own facts. -/
namespace Go.Anv
open Go

theorem fill_ints {E : Emb} (k : IntKind) : ∀ {parts : List (Nat × EV)} {vals : List (Nat × Value)} {l : List Int} {n : Nat} {arr : Array Value}, intParts k n parts = some l →
    vals.map (·.1) = parts.map (·.1) → denT E (parts.map (·.2)) (vals.map (·.2)) → n + l.length ≤ arr.size →
    ∃ arr', Instr.fill (fun i => some (i * 1, 1)) arr vals = some arr' ∧ arr'.toList = arr.toList.take n ++ (l.map (Value.int k) ++ arr.toList.drop (n + l.length))
  | [], vals, l, n, arr, hl, hv, _, _ => by
    simp only [intParts, Option.some.injEq] at hl
    subst hl
    cases vals with
    | nil => exact ⟨arr, rfl, by simp⟩
    | cons v r => simp at hv
  | (i, e) :: parts, vals, l, n, arr, hl, hv, hd, hlen => by
    cases vals with
    | nil => simp at hv
    | cons v vals =>
      obtain ⟨i', v⟩ := v
      simp only [List.map_cons, List.cons.injEq] at hv
      obtain ⟨rfl, hv⟩ := hv
      cases e with
      | s u =>
        cases u with
        | int k' x =>
          simp only [intParts] at hl
          split at hl
          · rename_i l' hb hl'
            simp only [Option.some.injEq] at hl
            subst hl
            simp only [Bool.and_eq_true] at hb
            have h1 := Nat.eq_of_beq_eq_true hb.1
            have h2 := sameK_eq hb.2
            subst h1; subst h2
            simp only [List.map_cons, denT] at hd
            obtain ⟨u, ul, hu, hd1, hd2⟩ := hd
            simp only [List.cons.injEq] at hu
            obtain ⟨rfl, rfl⟩ := hu
            simp only [denE, denV] at hd1
            subst hd1
            simp only [List.length_cons] at hlen
            obtain ⟨arr', h3, h4⟩ := fill_ints k (n := n + 1) (arr := arr.setIfInBounds n (.int k x)) hl' hv hd2 (by simp; omega)
            refine ⟨arr', ?_, ?_⟩
            · have hcond : (decide ((Value.int k x).cells.size ≠ 1) || decide (n * 1 + (Value.int k x).cells.size > arr.size)) = false := by
                simp [Value.cells]
                omega
              simp only [Instr.fill]
              rw [hcond]
              simpa [Value.cells] using h3
            · rw [h4]
              simp only [Array.toList_setIfInBounds, List.map_cons, List.length_cons]
              have hlt : n < arr.toList.length := by simp; omega
              rw [List.take_add_one, List.getElem?_set_self hlt, List.take_set_of_le (Nat.le_refl n), List.drop_set_of_lt (by omega)]
              simp only [Option.toList_some, List.append_assoc, List.cons_append, List.nil_append]
              rw [show n + 1 + l'.length = n + (l'.length + 1) by omega]
          · cases hl
        | _ => simp [intParts] at hl
      | _ => simp [intParts] at hl

theorem litF_get : ∀ (l : List Int) (j : Nat), j < l.length → litF l j = l.getD j 0
  | [], _, h => by simp at h
  | x :: r, 0, _ => rfl
  | x :: r, j + 1, h => by simp only [litF]; rw [litF_get r j (by simpa using h)]; simp

theorem ints_lit (k : IntKind) (l : List Int) : l.map (Value.int k) = intsOf k l.length (litF l) := by
  apply List.ext_getElem?
  intro j
  rcases Nat.lt_or_ge j l.length with h | h
  · rw [intsOf_get h, litF_get l j h, List.getElem?_map, List.getElem?_eq_getElem h]
    simp [List.getElem?_eq_getElem h]
  · rw [List.getElem?_eq_none (by simpa using h), List.getElem?_eq_none (by rw [length_intsOf]; exact h)]

theorem rep_list (zl : List Value) : ∀ (n : Nat), (List.range (n * zl.length)).map (fun j => zl.toArray[j % zl.length]!) = (List.replicate n zl).flatten
  | 0 => by simp
  | n + 1 => by
    have ih := rep_list zl n
    rw [List.replicate_succ, List.flatten_cons, ← ih, Nat.succ_mul, Nat.add_comm, List.range_add, List.map_append, List.map_map]
    congr 1
    · apply List.ext_getElem?
      intro j
      rcases Nat.lt_or_ge j zl.length with h | h
      · simp [h, Nat.mod_eq_of_lt h]
      · rw [List.getElem?_eq_none (by simpa using h), List.getElem?_eq_none h]
    · apply List.map_congr_left
      intro j _
      simp

theorem denS_rep {E : Emb} {zs : List Seg} {zl : List Value} (h : denS E zs zl) : ∀ n, denS E (repS n zs) (List.replicate n zl).flatten
  | 0 => by simp [repS, denS]
  | n + 1 => by
    simp only [repS, List.replicate_succ, List.flatten_cons]
    exact denS_append h (denS_rep h n)

theorem bslX_snd (T : Tbl) {E : Emb} (w : World) {t e : TypeId} {te : TI} (ht : T.P.underlying t = some (.slice e)) (he : T.ty e = some te) {n : Nat} {parts : Array (Nat × Operand)} {cs : List Seg} (ev : Operand → EV) (ρ : Operand → Value) (hev : ∀ x, denE E (ev x) (ρ x))
    (hn : n * te.size ≤ 16777216) (h : bslX te n (parts.toList.map fun p => (p.1, ev p.2)) = some cs) :
    ∃ arr, (Instr.buildSlice t n (parts.map fun (i, x) => (i, ρ x))).run T.P w = .ok (.slice (some ⟨w.heap.size, 0, none⟩) n n) (w.alloc (.cells arr e)) ∧ denS E cs arr.toList := by
  have hvals : ((parts.map fun (i, x) => (i, ρ x)).toList.map (·.1)) = ((parts.toList.map fun p => (p.1, ev p.2)).map (·.1)) := by simp
  have hden : denT E ((parts.toList.map fun p => (p.1, ev p.2)).map (·.2)) ((parts.map fun (i, x) => (i, ρ x)).toList.map (·.2)) := by
    simp only [Array.toList_map, List.map_map]
    have key : ∀ l : List (Nat × Operand), denT E (l.map ((fun x => x.2) ∘ fun p => (p.1, ev p.2))) (l.map ((fun x => x.2) ∘ fun x => (x.1, ρ x.2))) := fun l => by
      induction l with
      | nil => simp [denT]
      | cons p l ih => simp only [List.map_cons, denT, Function.comp]; exact ⟨_, _, rfl, hev p.2, ih⟩
    exact key _
  have hsz := run_sizeOf_ti T he w
  obtain ⟨i, z, hi, hisz, hby, hz, hzv⟩ := elem_info T he
  have hzrun : (zeroValue e).run T.P w = .ok z w := by simp [zeroValue, typeInfo, hi, hz]
  have h24 : ¬ (16777216 < n * te.size) := by omega
  -- what the model fills
  have run : ∀ {arr : Array Value}, Instr.fill (fun i => some (i * te.size, te.size)) ((Array.range (n * te.size)).map ((if n * te.size = 0 then #[] else z.cells)[· % (if n * te.size = 0 then #[] else z.cells).size]!)) (parts.map fun (i, x) => (i, ρ x)).toList = some arr →
      (Instr.buildSlice t n (parts.map fun (i, x) => (i, ρ x))).run T.P w = .ok (.slice (some ⟨w.heap.size, 0, none⟩) n n) (w.alloc (.cells arr e)) := fun {arr} hf => by
    by_cases h0 : n * te.size = 0
    · rw [if_pos h0] at hf
      simp only [Instr.buildSlice, Sem.run_bind, run_underlying ht, Result.andThen_ok, hsz, h0, if_true]
      simp only [h0, gt_iff_lt, if_neg (show ¬ (2 ^ 24 < 0) by omega)] at hf ⊢
      simp only [Sem.run_bind, Sem.run_pure, Result.andThen_ok]
      rw [hf]
      rfl
    · rw [if_neg h0] at hf
      simp only [Instr.buildSlice, Sem.run_bind, run_underlying ht, Result.andThen_ok, hsz, h0, if_false, gt_iff_lt]
      rw [if_neg (show ¬ (2 ^ 24 < n * te.size) by omega)]
      simp only [Sem.run_bind, hzrun, Sem.run_pure, Result.andThen_ok]
      rw [hf]
      rfl
  unfold bslX at h
  split at h
  · rename_i k z0 hz1 hs1
    split at h
    · rename_i l hl
      split at h
      · rename_i hln
        have hln := Nat.eq_of_beq_eq_true hln
        simp only [Option.some.injEq] at h
        subst h
        rw [hs1] at run hn
        obtain ⟨arr, h1, h2⟩ := fill_ints (E := E) k (vals := (parts.map fun (i, x) => (i, ρ x)).toList) (n := 0)
          (arr := (Array.range (n * 1)).map ((if n * 1 = 0 then #[] else z.cells)[· % (if n * 1 = 0 then #[] else z.cells).size]!)) hl hvals hden (by simp; omega)
        refine ⟨arr, run h1, ?_⟩
        rw [h2]
        simp only [List.take_zero, List.nil_append, Nat.zero_add]
        refine ⟨[], ?_, rfl⟩
        rw [List.append_nil, List.drop_eq_nil_of_le (by simp; omega), List.append_nil, ints_lit, hln]
      · cases h
    · cases h
  · split at h
    · rename_i zs hzs
      split at h
      · rename_i hbq
        have hbq := Nat.eq_of_beq_eq_true hbq
        have hzd := segsOf_den (valE_den (E := E) hzv) hzs
        have hzl := denS_length hzd
        have hzsz : z.cells.size = te.size := by rw [← Array.length_toList, hzl, hbq]
        obtain ⟨arr, h1, h2⟩ := fill_snd (fun i => some (i * te.size, te.size)) (parts := parts.toList.map fun p => (p.1, ev p.2)) (vals := (parts.map fun (i, x) => (i, ρ x)).toList)
          (arr := (Array.range (n * te.size)).map ((if n * te.size = 0 then #[] else z.cells)[· % (if n * te.size = 0 then #[] else z.cells).size]!)) (cs := repS n zs) (by
            by_cases h0 : n * te.size = 0
            · simp only [h0, if_true]
              have : (List.replicate n z.cells.toList).flatten = [] := by
                apply List.eq_nil_of_length_eq_zero
                simp [hzsz, h0]
              have h3 := denS_rep hzd n
              rw [this] at h3
              simpa using h3
            · simp only [h0, if_false]
              have h3 := denS_rep hzd n
              rw [← rep_list] at h3
              have : z.cells.toList.length = te.size := by rw [hzl, hbq]
              rw [this] at h3
              simp only [Array.toList_map, Array.toList_range, hzsz]
              exact h3) hvals hden h
        exact ⟨arr, run h1, h2⟩
      · cases h
    · cases h


/-- The first cells of what a slice or a string yields. -/
theorem rngX_first (T : Tbl) {E : Emb} {h : List Blk} {w : World} (S : Sim E h w) {y : EV} {v : Value} (hy : denE E y v) {r : Rng} (hr : rngX h 1 y = some r) (hp : r.p) :
    ∃ news, denS E r.cs news ∧ news.length = r.n ∧ (∀ w', (Builtin.lenOf v).run T.P w' = .ok r.n w') ∧ ∀ n, n ≤ r.n → (Builtin.firstCells 1 n v).run T.P w = .ok (news.take n).toArray w := by
  have load : ∀ {a : Addr} {news : List Value} {m c : Nat}, news.length = m → (∀ j u, news[j]? = some u → w.cell? (a.add j) = some u) → ∀ n, n ≤ m → (Builtin.firstCells 1 n (.slice (some a) m c)).run T.P w = .ok (news.take n).toArray w := by
    intro a news m c hl hc n hn
    refine run_firstCells_some w 1 n a m c (news.take n) (by rw [List.length_take, hl, Nat.min_eq_left hn, Nat.mul_one]) (fun j u hj => hc j u ?_)
    rcases Nat.lt_or_ge j n with h' | h'
    · rwa [List.getElem?_take_of_lt h'] at hj
    · rw [List.getElem?_eq_none (by rw [List.length_take]; omega)] at hj; cases hj
  unfold rngX at hr
  split at hr
  · simp only [Option.some.injEq] at hr
    subst hr
    simp only [denE, denV] at hy
    subst hy
    refine ⟨[], rfl, rfl, fun _ => rfl, fun n hn => ?_⟩
    simp only [List.take_nil]
    exact run_firstCells_none w 1 n 0 0
  · rename_i s
    simp only [Option.some.injEq] at hr
    subst hr
    simp only [denE, denV] at hy
    subst hy
    refine ⟨byteCells s, ⟨[], by rw [List.append_nil, byteCells_intsOf], rfl⟩, byteCells_length s, fun _ => rfl, fun n hn => ?_⟩
    simp only [Builtin.firstCells, Sem.run_pure, Result.ok.injEq, and_true, byteCells]
    apply Array.ext'
    simp [ByteArray.data_extract]
  · rename_i b o n c
    simp only [denE, denV] at hy
    obtain ⟨hb, rfl⟩ := hy
    obtain ⟨news, h1, h2, h3, h4⟩ := rngAt_snd S hr hp
    refine ⟨news, h1, by rw [h3]; simpa using h2, fun _ => by rw [h3]; rfl, fun n' hn => ?_⟩
    refine load (by simpa using h2) (fun j u hj => ?_) n' (by rw [← h3]; exact hn)
    rw [Emb.at_add]
    unfold Emb.at
    rw [← Nat.add_assoc]
    exact h4 j u hj
  · rename_i b o n c
    simp only [denE, denV] at hy
    obtain ⟨hb, hnl, rfl⟩ := hy
    obtain ⟨news, h1, h2, h3, h4⟩ := rngAt_snd S hr hp
    refine ⟨news, h1, by rw [h3]; simpa using h2, fun _ => by rw [h3]; rfl, fun n' hn => ?_⟩
    cases hq : (E.f b).nl with
    | true =>
      obtain ⟨rfl, rfl⟩ := hnl hq
      obtain rfl : news = [] := List.eq_nil_of_length_eq_zero (by simpa using h2)
      simp only [List.take_nil, if_true]
      exact run_firstCells_none w 1 n' 0 0
    | false =>
      refine load (by simpa using h2) (fun j u hj => ?_) n' (by rw [← h3]; exact hn)
      rw [Emb.at_add]
      unfold Emb.at
      rw [← Nat.add_assoc]
      exact h4 j u hj
  · cases hr

theorem ints_put (k : IntKind) {m o n rn cnt : Nat} (f g : Nat → Int) (ho : o + n ≤ m) (hc : cnt = min rn n) :
    intsOf k m (putF o cnt g f) = (intsOf k m f).take o ++ ((intsOf k rn g).take cnt ++ (intsOf k m f).drop (o + ((intsOf k rn g).take cnt).length)) := by
  have hl : ((intsOf k rn g).take cnt).length = cnt := by rw [List.length_take, length_intsOf]; omega
  rw [hl]
  apply List.ext_getElem?
  intro j
  rcases Nat.lt_or_ge j o with h | h
  · rw [List.getElem?_append_left (by rw [List.length_take, length_intsOf]; omega), List.getElem?_take_of_lt h, intsOf_get (by omega), intsOf_get (by omega)]
    have : ¬ (o ≤ j ∧ j < o + cnt) := by omega
    simp only [putF, if_neg this]
  · rw [List.getElem?_append_right (by rw [List.length_take, length_intsOf]; omega), List.length_take, length_intsOf, Nat.min_eq_left (by omega)]
    rcases Nat.lt_or_ge (j - o) cnt with h1 | h1
    · rw [List.getElem?_append_left (by rw [hl]; exact h1), List.getElem?_take_of_lt h1, intsOf_get (by omega), intsOf_get (by omega)]
      have : o ≤ j ∧ j < o + cnt := by omega
      simp only [putF, if_pos this]
    · rw [List.getElem?_append_right (by rw [hl]; exact h1), hl, List.getElem?_drop]
      rw [show o + cnt + (j - o - cnt) = j by omega]
      rcases Nat.lt_or_ge j m with h2 | h2
      · rw [intsOf_get h2, intsOf_get h2]
        have : ¬ (o ≤ j ∧ j < o + cnt) := by omega
        simp only [putF, if_neg this]
      · rw [List.getElem?_eq_none (by rw [length_intsOf]; exact h2), List.getElem?_eq_none (by rw [length_intsOf]; exact h2)]

theorem copyX_snd (T : Tbl) {E : Emb} {h : List Blk} {w : World} (S : Sim E h w) {t tx ty : TypeId} {x y : EV} {xv yv : Value} (hx : denE E x xv) (hy : denE E y yv) {ts : List EV} {dst : Option Tmp} {k : St → Prop}
    (hk : copyX T ts h t tx x y dst k) : Goes T E h w (Builtin.copy_ #[t, tx] ty #[xv, yv]) ts dst k := by
  unfold copyX at hk
  split at hk
  · rename_i e _ _ _ ht
    have hd : T.P.underlying t = some (.slice e) := (T.tyOk _ _ ht).desc
    split at hk
    · rename_i te he
      have hsz := run_sizeOf_ti T he w
      split at hk
      · rename_i r hs1 hso hr
        rw [hs1] at hr hsz
        have onto : ∀ {b o n c : Nat}, ontoC ts h b o n r dst k → ((E.f b).nl = true ∧ n = 0 ∧ xv = .slice none n c) ∨ xv = .slice (some (E.at b o)) n c → Goes T E h w (Builtin.copy_ #[t, tx] ty #[xv, yv]) ts dst k := by
          intro b o n c hk hxv
          unfold ontoC at hk
          split at hk
          · rename_i q m f sp p rn q' m' g hbk hk0
            clear hk0
            split at hk
            · rename_i hq
              have := sameK_eq hq
              subst this
              obtain ⟨⟨hp, hom⟩, hk⟩ := hk
              rw [updBK_eq, updB_eq, putK_eq] at hk
              obtain ⟨news, h1, h2, h3, h4⟩ := rngX_first T S hy hr hp
              simp only [denS] at h1
              obtain ⟨l', rfl, rfl⟩ := h1
              rw [List.append_nil] at h2 h4
              rw [length_intsOf] at h2
              subst h2
              obtain ⟨l, hl, hlw, _⟩ := S.look (nthB_get hbk)
              have hl0 := hl
              simp only [denS] at hl
              obtain ⟨l', rfl, rfl⟩ := hl
              rw [List.append_nil] at hlw hl0
              have hput := ints_put q (m := m) (o := o) (n := n) (rn := m') (cnt := min m' n) f g hom rfl
              have hcnt : ((intsOf q m' g).take (min m' n)).length = min m' n := by rw [List.length_take, length_intsOf]; omega
              have S1 := S.write (i := b) (cs' := [.ints q m (putF o (min m' n) g f)]) (sp' := sp) (nthB_get hbk) (o := o) (vs := (intsOf q m' g).take (min m' n)) hl0 hlw
                (by rw [← hput]; exact ⟨[], by rw [List.append_nil], rfl⟩) rfl (by simp only [sizeS]; omega) (by rw [hcnt]; simp only [sizeS]; omega)
              have N1 := Since.write (E := E) (h := h) (w := w) (i := b) (cs' := [.ints q m (putF o (min m' n) g f)]) (sp' := sp) (nthB_get hbk) (o := o) (vs := (intsOf q m' g).take (min m' n)) rfl (by rw [hcnt]; simp only [sizeS]; omega)
              have hfc := h4 (min m' n) (Nat.min_le_left _ _)
              refine ⟨.int .i64 ((min m' n : Nat) : Int), _, E, _, _, ?_, by simp only [denE, denV], S1, N1, hk⟩
              obtain ⟨_, _, hm⟩ := S.ok b _ (nthB_get hbk)
              have hm := hm rfl
              rcases hxv with ⟨_, rfl, rfl⟩ | rfl
              · simp only [Nat.min_zero, List.take_zero] at hfc ⊢
                simp [Builtin.copy_, run_underlying hd, h3, hsz, hfc, World.setCells, goInt]
              · have hst := run_storeCells_cells (P := T.P) (E.f b).1 ((E.f b).2 + o) ((intsOf q m' g).take (min m' n)) 0 w (fun j hj => by
                    rw [hcnt] at hj
                    obtain ⟨⟨v, hv⟩, _⟩ := hm (o + j) (by simp only [sizeS]; omega)
                    rw [Nat.add_zero, Nat.add_assoc, hv]; rfl) (fun j hj => by
                    rw [hcnt] at hj
                    obtain ⟨⟨v, hv⟩, hro⟩ := hm (o + j) (by simp only [sizeS]; omega)
                    rw [Nat.add_zero, Nat.add_assoc]; exact hro.frozen hv) (fun x hx => by
                    have := List.mem_of_mem_take hx
                    simp only [intsOf, List.mem_map] at this
                    obtain ⟨_, _, rfl⟩ := this
                    rfl)
                simp only [Nat.add_zero] at hst
                have hnm : Nat.min m' n = min m' n := rfl
                simp [Builtin.copy_, run_underlying hd, h3, hsz, hnm, hfc, goInt, Emb.at, hst]
            · exact hk.elim
          · rename_i q m f sp p rn hbk hk0
            clear hk0
            obtain ⟨⟨hp, hrn⟩, hk⟩ := hk
            subst hrn
            rw [putK_eq] at hk
            obtain ⟨news, h1, h2, h3, h4⟩ := rngX_first T S hy hr hp
            have hfc := h4 0 (Nat.le_refl _)
            refine ⟨.int .i64 0, w, E, h, _, ?_, by simp only [denE, denV], S, Since.refl _ _ _, hk⟩
            simp only [List.take_zero] at hfc
            have h0 : ∀ n : Nat, Nat.min 0 n = 0 := fun n => Nat.zero_min n
            rcases hxv with ⟨_, rfl, rfl⟩ | rfl <;> simp [Builtin.copy_, run_underlying hd, h3, hsz, hfc, h0, goInt, storeCells]
          · exact hk.elim
        split at hk
        · simp only [denE, denV] at hx
          exact onto hk (.inr hx.2)
        · rename_i b o n c
          simp only [denE, denV] at hx
          obtain ⟨h1, h2, h3⟩ := hx
          refine onto (c := c) hk ?_
          cases hq : (E.f b).nl with
          | true => rw [hq] at h3 h2; exact .inl ⟨rfl, (h2 rfl).1, by simpa using h3⟩
          | false => rw [hq] at h3; exact .inr (by simpa using h3)
        · exact hk.elim
      · exact hk.elim
    · exact hk.elim
  · exact hk.elim


/-- **The operations on slices do what the walker says.** -/
theorem eff2_snd (T : Tbl) {E : Emb} {h : List Blk} {w : World} (S : Sim E h w) {ts : List EV} {ρ : Operand → Value} (hev : ∀ x, denE E (evT ts x) (ρ x)) {o : Oper} {k : St → Prop} (hk : eff2 T ts h o k) :
    ∃ u w' E' h' v, (execOp ρ o).run T.P w = .ok (.value u) w' ∧ denE E' v u ∧ Sim E' h' w' ∧ Since E h w E' h' w' ∧ k ((⟨ts, h'⟩ : St).put o.dst v) := by
  unfold eff2 at hk
  unfold execOp
  split at hk
  · rename_i t n parts hop
    split at hk
    · rename_i e _ _ _ ht
      have hd : T.P.underlying t = some (.slice e) := (T.tyOk _ _ ht).desc
      split at hk
      · rename_i te he
        split at hk
        · rename_i cs hle hb
          have hle := Nat.le_of_ble_eq_true hle
          rw [forceS_eq, pushBK_eq, putK_eq, Nat.zero_add] at hk
          obtain ⟨arr, h1, h2⟩ := bslX_snd T (E := E) w hd he (evT ts) ρ hev hle hb
          obtain ⟨S', N'⟩ := push_row S e (arr := arr) (lo := 0) (hi := 0) (.inl rfl) (sp := 0) (rest := []) h2 (by simp) (by simp)
          refine ⟨_, _, _, _, _, by simp only [hop, Sem.run_bind, h1, Result.andThen_ok, Sem.run_pure]; rfl, ?_, S', N', hk⟩
          simp only [denE, denV, ← S.n, Emb.push_new]
          exact ⟨⟨by simp [Emb.push], trivial⟩, by rw [push_at]⟩
        · exact hk.elim
      · exact hk.elim
    · exact hk.elim
  · rename_i t len cap hop
    split at hk
    · rename_i e _ _ _ kl l kc c ht hl hc
      have hd : T.P.underlying t = some (.slice e) := (T.tyOk _ _ ht).desc
      have dl := hev len
      have dc := hev cap
      rw [hl] at dl
      rw [hc] at dc
      simp only [denE, denV] at dl dc
      split at hk
      · rename_i te he
        split at hk
        · rename_i q z hz1 hs1
          obtain ⟨⟨h0, hlc, hb1, hb2⟩, hk⟩ := hk
          rw [pushBK_eq, putK_eq, Nat.zero_add] at hk
          obtain ⟨i, zv, hi, hisz, hby, hz, hzv⟩ := elem_info T he
          rw [hz1] at hzv
          simp only [valE, valV, Option.some.injEq] at hzv
          subst hzv
          rw [← hby] at hb2
          have hrun := run_make (P := T.P) w t e i (.int q z) hd hi hz kl kc l c h0 hlc (by omega) (by omega)
          have hcells : (madeCells (Value.int q z).cells (c.toNat * i.size)).toList = intsOf q l.toNat (fun _ => z) ++ List.replicate (c.toNat - l.toNat) (.int q z) := by
            rw [hisz, hs1, Nat.mul_one]
            have hmc : madeCells (Value.int q z).cells c.toNat = (Array.range c.toNat).map fun _ => Value.int q z := by
              simp [madeCells, Value.cells, Nat.mod_one]
            rw [hmc]
            simp only [Array.toList_map, Array.toList_range]
            apply List.ext_getElem?
            intro j
            rcases Nat.lt_or_ge j l.toNat with h1 | h1
            · rw [List.getElem?_append_left (by rw [length_intsOf]; exact h1), intsOf_get h1, List.getElem?_map, List.getElem?_range (by omega)]
              rfl
            · rw [List.getElem?_append_right (by rw [length_intsOf]; exact h1), length_intsOf]
              rcases Nat.lt_or_ge j c.toNat with h2 | h2
              · rw [List.getElem?_replicate, if_pos (by omega), List.getElem?_map, List.getElem?_range h2]
                rfl
              · rw [List.getElem?_replicate, if_neg (by omega), List.getElem?_eq_none (by simpa using h2)]
          obtain ⟨S', N'⟩ := push_row S e (arr := madeCells (Value.int q z).cells (c.toNat * i.size)) (lo := 0) (hi := 0) (.inl rfl) (cs := [.ints q l.toNat (fun _ => z)]) (sp := c.toNat - l.toNat)
            (l := intsOf q l.toNat (fun _ => z)) (rest := List.replicate (c.toNat - l.toNat) (.int q z)) ⟨[], by rw [List.append_nil], rfl⟩ hcells (by simp)
          refine ⟨_, _, _, _, _, by simp only [hop, dl, dc, Sem.run_bind, hrun, Result.andThen_ok, Sem.run_pure]; rfl, ?_, S', N', hk⟩
          simp only [denE, denV, ← S.n, Emb.push_new]
          exact ⟨⟨by simp [Emb.push], trivial⟩, by rw [push_at]⟩
        · exact hk.elim
      · exact hk.elim
    · exact hk.elim
  · rename_i src dst x hop
    split at hk
    · rename_i e _ _ _ e' _ _ _ b o' n c h1 h2 hx
      have d1 : T.P.underlying src = some (.slice e) := (T.tyOk _ _ h1).desc
      have d2 : T.P.underlying dst = some (.slice e') := (T.tyOk _ _ h2).desc
      split at hk
      · rename_i cs sp hbq he hbk
        simp only [Bool.and_eq_true] at hbq
        have hq1 := Nat.eq_of_beq_eq_true hbq.1
        have hq2 := Nat.eq_of_beq_eq_true hbq.2
        subst hq1
        subst hq2
        have d3 : T.P.underlying e = some (.int .u8) := (T.tyOk _ _ he).desc
        obtain ⟨hpos, hk⟩ := hk
        rw [putK_eq] at hk
        have dx := hev x
        rw [hx] at dx
        have dx' := dx
        simp only [denE, denV] at dx
        obtain ⟨⟨hb, hnl⟩, hxv⟩ := dx
        obtain ⟨ho, ⟨l, hl, hlw⟩, hm⟩ := S.ok b _ (nthB_get hbk)
        obtain ⟨⟨v0, hv0⟩, arr, te, lo, hi, hbl, hrow⟩ := hm rfl 0 hpos
        refine ⟨_, w.freeze { block := (E.f b).1, off := arr.size } 1, E, h, _, ?_, dx', S.freeze hbl hrow, Since.freeze hbl hrow ⟨(E.f b).2 + 0, b, _, nthB_get hbk, rfl, rfl, by omega, by omega⟩, hk⟩
        have hsh : w.shape? (E.f b).1 = some (te, arr.size) := by simp only [World.shape?, hbl]
        simp [hop, hxv, convert, run_underlying d1, run_underlying d3, markStringish, Emb.at, hsh]
      · exact hk.elim
    · rename_i e _ _ _ s h1 h2 hx
      have d1 : T.P.underlying src = some .string := (T.tyOk _ _ h1).desc
      have d2 : T.P.underlying dst = some (.slice e) := (T.tyOk _ _ h2).desc
      have dx := hev x
      rw [hx] at dx
      simp only [denE, denV] at dx
      split at hk
      · rename_i he
        have d3 : T.P.underlying e = some (.int .u8) := (T.tyOk _ _ he).desc
        have hrun := run_bytes_of_string (P := T.P) w src dst e s d1 d2 d3
        have hge := grownCap_ge w s.size 0 e
        have hk := hk _ hge
        rw [pushBK_eq, putK_eq, Nat.zero_add] at hk
        obtain ⟨S', N'⟩ := push_row S.drew e (arr := bytesRow s (grownCap w s.size 0 e)) (lo := (bytesRow s (grownCap w s.size 0 e)).size) (hi := (bytesRow s (grownCap w s.size 0 e)).size + 1) (.inr (Nat.le_refl _))
          (cs := [.ints .u8 s.size (strF s)]) (sp := grownCap w s.size 0 e - s.size) (l := byteCells s) (rest := List.replicate (grownCap w s.size 0 e - s.size) (.int .u8 0)) ⟨[], by rw [List.append_nil, byteCells_intsOf], rfl⟩
          (by simp [bytesRow, byteCells]) (by simp)
        refine ⟨_, _, _, _, _, by simp only [hop, dx, Sem.run_bind, hrun, Result.andThen_ok, Sem.run_pure]; rfl, ?_, S', (Since.drew E h w).trans S.n S.n N', hk⟩
        simp only [denE, denV, ← S.n, Emb.push_new]
        refine ⟨⟨by simp [Emb.push], trivial⟩, ?_⟩
        have : (E.push ⟨w.drew.heap.size, 0, false⟩).at E.n 0 = ⟨w.heap.size, 0, none⟩ := by
          unfold Emb.at
          rw [Emb.push_new]
          rfl
        rw [this]
      · exact hk.elim
    · rename_i e _ _ _ _ _ _ b o' h1 h2 hx
      have d1 : T.P.underlying src = some (.pointer e) := (T.tyOk _ _ h1).desc
      have d2 : T.P.underlying dst = some .unsafePointer := (T.tyOk _ _ h2).desc
      split at hk
      · rename_i h3
        obtain ⟨⟨m, cs, sp, v, h4, h5⟩, hk⟩ := hk
        rw [putK_eq] at hk
        have dx := hev x
        rw [hx] at dx
        have dx' := dx
        simp only [denE, denV] at dx
        obtain ⟨hb, hxv⟩ := dx
        obtain ⟨l, hl, hw, _⟩ := S.look (nthB_get h4)
        obtain ⟨z, h6, _⟩ := getS_den hl h5
        have h7 : w.cell? (E.at b o') = some z := hw _ _ h6
        have hsz := (T.tyOk _ _ h3).size
        have hsz' : (T.P.info? e).map (fun i => decide (i.size = 0)) = some false := by
          cases hq : T.P.info? e with
          | none => rw [hq] at hsz; cases hsz
          | some y =>
            rw [hq] at hsz
            simp at hsz
            simp [hsz]
        exact ⟨_, _, _, _, _, by simp only [hop, hxv, Sem.run_bind, run_convert_to_unsafe d1 d2 hsz' h7, Result.andThen_ok, Sem.run_pure], dx', S, Since.refl _ _ _, hk⟩
      · exact hk.elim
    · exact hk.elim
  · rename_i args argTypes hop
    split at hk
    · rename_i x y t tx h1 h2
      have e1 : args = #[x, y] := by rw [← Array.toList_inj]; exact h1
      have e2 : argTypes = #[t, tx] := by rw [← Array.toList_inj]; exact h2
      subst e1; subst e2
      split at hk
      · rename_i kn m htx hym
        have hyd := hev y
        rw [hym] at hyd
        simp only [denE, denV] at hyd
        obtain ⟨u, w', E', h', v, k1, k2⟩ := zappX_snd T S (ty := o.type) (kq := kn) (hev x) (T.tyOk _ _ htx).desc hk
        refine ⟨u, w', E', h', v, ?_, k2⟩
        simp [hop, resolve, invoke, builtin, hyd, k1]
      · obtain ⟨u, w', E', h', v, k1, k2⟩ := appX_snd T S (ty := o.type) (hev x) (hev y) hk
        refine ⟨u, w', E', h', v, ?_, k2⟩
        simp [hop, resolve, invoke, builtin, k1]
    · exact hk.elim
  · rename_i args argTypes hop
    split at hk
    · rename_i x y t tx h1 h2
      have e1 : args = #[x, y] := by rw [← Array.toList_inj]; exact h1
      have e2 : argTypes = #[t, tx] := by rw [← Array.toList_inj]; exact h2
      subst e1; subst e2
      obtain ⟨u, w', E', h', v, k1, k2⟩ := copyX_snd T S (ty := o.type) (hev x) (hev y) hk
      refine ⟨u, w', E', h', v, ?_, k2⟩
      simp [hop, resolve, invoke, builtin, k1]
    · exact hk.elim
  · exact hk.elim

end Go.Anv
