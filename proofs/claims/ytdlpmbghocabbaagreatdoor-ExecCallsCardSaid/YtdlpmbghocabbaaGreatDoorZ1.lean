/- Part 1 of the texts of this claim, merged: E1, E2, E2b, E3. No condition: plain theorems, contracts of functions. -/
import Derived.Tactics
import Derived.Below
import Derived.Laws.World
import Derived.Laws.Sem
import Derived.Laws.Entries
import Derived.Laws.IdiomCopy
import Derived.Laws.StructEq
import Derived.OrdersHeld

set_option linter.unusedSimpArgs false
set_option linter.unusedVariables false
/- The engine, part 1: small worlds. Values, segments, blocks, what they stand for, and how they lie in a world. No condition: definitions and plain lemmas. -/
namespace Go.Anv
open Go

/-- A value of one cell. -/
inductive SV where
  | junk
  | int (k : IntKind) (n : Int)
  | bool (b : Bool)
  | str (s : ByteArray)
  | ptr (b o : Nat)
  | pix (b o i : Nat)
  | rp (b o i z : Nat)
  | nilptr
  | slice (b o len cap : Nat)
  | nilslice
  | gs (b o len cap : Nat)
  | map (b : Nat)
  | nilmap
  | func (fn : Fn) (first caps : List SV)
  | nilfunc
  | iface (t : TypeId) (agg : Bool) (cs : List SV)
  | niliface

/-- A run of cells: one, or n whole numbers of one kind. -/
inductive Seg where
  | one (v : SV)
  | ints (k : IntKind) (n : Nat) (f : Nat → Int)

/-- What a slot holds. -/
inductive EV where
  | s (v : SV)
  | agg (cs : List Seg)
  | tuple (vs : List EV)
  | gd (g : Bool) (v : EV)
  | junk

/-- A block: cells (may they be written?), spare room behind them; a map; or one that is no longer looked at; n records of z cells each. -/
inductive Blk where
  | cells (m : Bool) (cs : List Seg) (sp : Nat)
  | recs (m : Bool) (n z : Nat) (f : Nat → List SV) (sp : Nat)
  | map (es : List (SV × EV))
  | dead

/-- A place in a world (nl: none: that of a slice that is nil). -/
structure Loc where
  b : Nat
  o : Nat
  nl : Bool

/-- Where the small blocks lie. -/
structure Emb where
  n : Nat
  f : Nat → Loc

def Emb.at (E : Emb) (b o : Nat) : Addr := ⟨(E.f b).1, (E.f b).2 + o, none⟩

mutual
def denV (E : Emb) : SV → Value → Prop
  | .junk, v => v.oneCell' = true
  | .int k n, v => v = .int k n
  | .bool b, v => v = .bool b
  | .str s, v => v = .string s
  | .ptr b o, v => b < E.n ∧ v = .pointer (some (E.at b o))
  | .pix b o i, v => b < E.n ∧ v = .pointer (some (E.at b (o + i)))
  | .rp b o i z, v => b < E.n ∧ v = .pointer (some (E.at b (o + i * z)))
  | .nilptr, v => v = .pointer none
  | .slice b o len cap, v => (b < E.n ∧ (E.f b).nl = false) ∧ v = .slice (some (E.at b o)) len cap
  | .nilslice, v => v = .slice none 0 0
  | .gs b o len cap, v => b < E.n ∧ ((E.f b).nl = true → len = 0 ∧ cap = 0) ∧ v = .slice (if (E.f b).nl then none else some (E.at b o)) len cap
  | .map b, v => b < E.n ∧ v = .map (some (E.f b).1)
  | .nilmap, v => v = .map none
  | .func fn f c, v => ∃ f' c', v = .func fn f' c' ∧ denL E f f'.toList ∧ denL E c c'.toList
  | .nilfunc, v => v = .nilFunc
  | .iface t true cs, v => ∃ l, v = .iface t (.agg l) ∧ denL E cs l.toList
  | .iface t false cs, v => ∃ x, v = .iface t x ∧ denL E cs [x]
  | .niliface, v => v = .nilIface
def denL (E : Emb) : List SV → List Value → Prop
  | [], l => l = []
  | e :: r, l => ∃ v l', l = v :: l' ∧ denV E e v ∧ denL E r l'
end

def intsOf (k : IntKind) (n : Nat) (f : Nat → Int) : List Value := (List.range n).map fun j => .int k (f j)

def denS (E : Emb) : List Seg → List Value → Prop
  | [], l => l = []
  | .one e :: r, l => ∃ v l', l = v :: l' ∧ denV E e v ∧ denS E r l'
  | .ints k n f :: r, l => ∃ l', l = intsOf k n f ++ l' ∧ denS E r l'

mutual
def denE (E : Emb) : EV → Value → Prop
  | .s v, x => denV E v x
  | .agg cs, x => ∃ l, x = .agg l ∧ denS E cs l.toList
  | .tuple vs, x => ∃ l, x = .tuple l ∧ denT E vs l.toList
  | .gd g v, x => (g = true → denE E v x) ∧ (g = false → x = undef)
  | .junk, _ => True
def denT (E : Emb) : List EV → List Value → Prop
  | [], l => l = []
  | e :: r, l => ∃ v l', l = v :: l' ∧ denE E e v ∧ denT E r l'
end

def sizeS : List Seg → Nat
  | [] => 0
  | .one _ :: r => sizeS r + 1
  | .ints _ n _ :: r => n + sizeS r

/-- The cells of records, one behind the other. -/
def recS : Nat → (Nat → List SV) → List Seg
  | 0, _ => []
  | n + 1, f => recS n f ++ (f n).map .one

/-- Of a map's entries. -/
def denM (E : Emb) : List (SV × EV) → List MapEntry → Prop
  | [], l => l = []
  | (k, cs) :: r, l => ∃ e l', l = e :: l' ∧ denV E k e.key ∧ denE E cs e.val ∧ denM E r l'

/-- An object of cells of which none may not be written. -/
def rowOk (w : World) (b : Nat) : Prop := ∃ (c : Array Value) (e : TypeId) (lo hi : Nat), w.heap[b]? = some (.cells c e (lo, hi)) ∧ (lo = hi ∨ c.size ≤ lo)

theorem rowOk.frozen {w : World} {b o : Nat} {v : Value} (h : rowOk w b) (hc : w.cell? ⟨b, o, none⟩ = some v) : w.frozen? ⟨b, o, none⟩ = false := by
  obtain ⟨c, e, lo, hi, h1, h2⟩ := h
  simp only [World.cell?, h1] at hc
  have hlt : o < c.size := by
    rcases Nat.lt_or_ge o c.size with h' | h'
    · exact h'
    · simp [Array.getElem?_eq_none h'] at hc
  simp only [World.frozen?, h1, Bool.and_eq_false_iff, decide_eq_false_iff_not]
  omega

theorem rowOk.of_block {w w' : World} {b : Nat} (h : rowOk w b) (hb : w'.heap[b]? = w.heap[b]?) : rowOk w' b := by
  obtain ⟨c, e, lo, hi, h1, h2⟩ := h
  exact ⟨c, e, lo, hi, by rw [hb]; exact h1, h2⟩

def okCells (E : Emb) (w : World) (p : Loc) (m : Bool) (cs : List Seg) (sp : Nat) : Prop :=
  (p.1 < w.heap.size ∨ p.nl = true ∧ sizeS cs + sp = 0) ∧ (∃ l, denS E cs l ∧ ∀ j v, l[j]? = some v → w.cell? ⟨p.1, p.2 + j, none⟩ = some v) ∧
      (m = true → ∀ j, j < sizeS cs + sp → (∃ v, w.cell? ⟨p.1, p.2 + j, none⟩ = some v) ∧ rowOk w p.1)

/-- A block as it lies in a world. -/
def okBlk (E : Emb) (w : World) (p : Loc) : Blk → Prop
  | .cells m cs sp => okCells E w p m cs sp
  | .recs m n z f sp => (∀ i, i < n → (f i).length = z) ∧ okCells E w p m (recS n f) sp
  | .map es => ∃ l clock, w.heap[p.1]? = some (.map l clock) ∧ denM E es l.toList
  | .dead => True

/-- Which cells a block takes. -/
def cov (p : Loc) : Blk → Nat → Nat → Prop
  | .cells _ cs sp, b, o => b = p.1 ∧ p.2 ≤ o ∧ o < p.2 + (sizeS cs + sp)
  | .recs _ n _ f sp, b, o => b = p.1 ∧ p.2 ≤ o ∧ o < p.2 + (sizeS (recS n f) + sp)
  | .map _, b, _ => b = p.1
  | .dead, _, _ => False

def Blk.mut : Blk → Bool
  | .cells m _ _ => m
  | .recs m _ _ _ _ => m
  | .map _ => true
  | .dead => false

structure Sim (E : Emb) (h : List Blk) (w : World) : Prop where
  n : E.n = h.length
  ok : ∀ i B, h[i]? = some B → okBlk E w (E.f i) B
  dis : ∀ i j A B, i ≠ j → h[i]? = some A → h[j]? = some B → A.mut = true → ∀ b o, cov (E.f i) A b o → ¬ cov (E.f j) B b o

/-- Cells that a state may write. -/
def mutAt (E : Emb) (h : List Blk) (b o : Nat) : Prop := ∃ i B, h[i]? = some B ∧ B.mut = true ∧ cov (E.f i) B b o

/-- From one state to a later one. -/
structure Since (E : Emb) (h : List Blk) (w : World) (E' : Emb) (h' : List Blk) (w' : World) : Prop where
  len : h.length ≤ h'.length
  same : ∀ i, i < E.n → E'.f i = E.f i
  size : w.heap.size ≤ w'.heap.size
  frame : ∀ b, b < w.heap.size → (∀ o, ¬ mutAt E h b o) → w'.heap[b]? = w.heap[b]?
  cells : ∀ b o, b < w.heap.size → ¬ mutAt E h b o → w'.cell? ⟨b, o, none⟩ = w.cell? ⟨b, o, none⟩ ∧ ((w.cell? ⟨b, o, none⟩).isSome = true → w'.frozen? ⟨b, o, none⟩ = w.frozen? ⟨b, o, none⟩)
  new : ∀ b o, mutAt E' h' b o → b < w.heap.size → mutAt E h b o
  os : w'.os = w.os
  tape : w'.tape = w.tape
  output : w'.output = w.output
  rows : ∀ b, b < w.heap.size → rowOk w b → rowOk w' b

/-! ### plain lemmas -/

def Emb.le (E E' : Emb) : Prop := E.n ≤ E'.n ∧ ∀ i, i < E.n → E'.f i = E.f i

theorem Emb.le_refl (E : Emb) : E.le E := ⟨Nat.le_refl _, fun _ _ => rfl⟩
theorem Emb.le_trans {A B C : Emb} (h : A.le B) (k : B.le C) : A.le C :=
  ⟨Nat.le_trans h.1 k.1, fun i hi => (k.2 i (Nat.lt_of_lt_of_le hi h.1)).trans (h.2 i hi)⟩

theorem Emb.le_at {E E' : Emb} (h : E.le E') {b : Nat} (hb : b < E.n) (o : Nat) : E'.at b o = E.at b o := by
  simp [Emb.at, h.2 b hb]

mutual
theorem denV_mono {E E' : Emb} (h : E.le E') : ∀ (e : SV) (v : Value), denV E e v → denV E' e v
  | .junk, _, hv => hv
  | .int .., _, hv => hv
  | .bool .., _, hv => hv
  | .str .., _, hv => hv
  | .ptr b o, v, hv => by
    simp only [denV] at hv ⊢
    exact ⟨Nat.lt_of_lt_of_le hv.1 h.1, by rw [Emb.le_at h hv.1]; exact hv.2⟩
  | .pix b o i, v, hv => by
    simp only [denV] at hv ⊢
    exact ⟨Nat.lt_of_lt_of_le hv.1 h.1, by rw [Emb.le_at h hv.1]; exact hv.2⟩
  | .rp b o i z, v, hv => by
    simp only [denV] at hv ⊢
    exact ⟨Nat.lt_of_lt_of_le hv.1 h.1, by rw [Emb.le_at h hv.1]; exact hv.2⟩
  | .nilptr, _, hv => hv
  | .slice b o len cap, v, hv => by
    simp only [denV] at hv ⊢
    exact ⟨⟨Nat.lt_of_lt_of_le hv.1.1 h.1, by rw [h.2 b hv.1.1]; exact hv.1.2⟩, by rw [Emb.le_at h hv.1.1]; exact hv.2⟩
  | .nilslice, _, hv => hv
  | .gs b o len cap, v, hv => by
    simp only [denV] at hv ⊢
    exact ⟨Nat.lt_of_lt_of_le hv.1 h.1, by rw [h.2 b hv.1]; exact hv.2.1, by rw [Emb.le_at h hv.1, h.2 b hv.1]; exact hv.2.2⟩
  | .map b, v, hv => by
    simp only [denV] at hv ⊢
    exact ⟨Nat.lt_of_lt_of_le hv.1 h.1, by rw [h.2 b hv.1]; exact hv.2⟩
  | .nilmap, _, hv => hv
  | .func fn f c, v, hv => by
    simp only [denV] at hv ⊢
    obtain ⟨f', c', rfl, h1, h2⟩ := hv
    exact ⟨f', c', rfl, denL_mono h f _ h1, denL_mono h c _ h2⟩
  | .nilfunc, _, hv => hv
  | .iface t true cs, v, hv => by
    simp only [denV] at hv ⊢
    obtain ⟨l, rfl, h1⟩ := hv
    exact ⟨l, rfl, denL_mono h cs _ h1⟩
  | .iface t false cs, v, hv => by
    simp only [denV] at hv ⊢
    obtain ⟨x, rfl, h1⟩ := hv
    exact ⟨x, rfl, denL_mono h cs _ h1⟩
  | .niliface, _, hv => hv
theorem denL_mono {E E' : Emb} (h : E.le E') : ∀ (l : List SV) (vs : List Value), denL E l vs → denL E' l vs
  | [], _, hv => hv
  | e :: r, vs, hv => by
    simp only [denL] at hv ⊢
    obtain ⟨v, l', rfl, h1, h2⟩ := hv
    exact ⟨v, l', rfl, denV_mono h e v h1, denL_mono h r l' h2⟩
end

theorem denS_mono {E E' : Emb} (h : E.le E') : ∀ (cs : List Seg) (l : List Value), denS E cs l → denS E' cs l
  | [], _, hv => hv
  | .one e :: r, l, hv => by
    simp only [denS] at hv ⊢
    obtain ⟨v, l', rfl, h1, h3⟩ := hv
    exact ⟨v, l', rfl, denV_mono h e v h1, denS_mono h r l' h3⟩
  | .ints k n f :: r, l, hv => by
    simp only [denS] at hv ⊢
    obtain ⟨l', rfl, h3⟩ := hv
    exact ⟨l', rfl, denS_mono h r l' h3⟩

mutual
theorem denE_mono {E E' : Emb} (h : E.le E') : ∀ (e : EV) (v : Value), denE E e v → denE E' e v
  | .s x, v, hv => by simp only [denE] at hv ⊢; exact denV_mono h x v hv
  | .agg cs, v, hv => by
    simp only [denE] at hv ⊢
    obtain ⟨l, rfl, h1⟩ := hv
    exact ⟨l, rfl, denS_mono h cs _ h1⟩
  | .tuple vs, v, hv => by
    simp only [denE] at hv ⊢
    obtain ⟨l, rfl, h1⟩ := hv
    exact ⟨l, rfl, denT_mono h vs _ h1⟩
  | .gd g x, v, hv => by simp only [denE] at hv ⊢; exact ⟨fun hg => denE_mono h x v (hv.1 hg), hv.2⟩
  | .junk, _, _ => by simp only [denE]
theorem denT_mono {E E' : Emb} (h : E.le E') : ∀ (l : List EV) (vs : List Value), denT E l vs → denT E' l vs
  | [], _, hv => hv
  | e :: r, vs, hv => by
    simp only [denT] at hv ⊢
    obtain ⟨v, l', rfl, h1, h2⟩ := hv
    exact ⟨v, l', rfl, denE_mono h e v h1, denT_mono h r l' h2⟩
end

theorem denM_mono {E E' : Emb} (h : E.le E') : ∀ (es : List (SV × EV)) (l : List MapEntry), denM E es l → denM E' es l
  | [], _, hv => hv
  | (k, cs) :: r, l, hv => by
    simp only [denM] at hv ⊢
    obtain ⟨e, l', rfl, h1, h2, h3⟩ := hv
    exact ⟨e, l', rfl, denV_mono h k _ h1, denE_mono h cs _ h2, denM_mono h r l' h3⟩

theorem length_intsOf (k : IntKind) (n : Nat) (f : Nat → Int) : (intsOf k n f).length = n := by simp [intsOf]

theorem denS_length {E : Emb} : ∀ {cs : List Seg} {l : List Value}, denS E cs l → l.length = sizeS cs
  | [], _, hv => by simp only [denS] at hv; subst hv; rfl
  | .one e :: r, l, hv => by
    simp only [denS] at hv
    obtain ⟨v, l', rfl, _, h3⟩ := hv
    simp [sizeS, denS_length h3]
  | .ints k n f :: r, l, hv => by
    simp only [denS] at hv
    obtain ⟨l', rfl, h3⟩ := hv
    simp [sizeS, length_intsOf, denS_length h3]

theorem denV_oneCell {E : Emb} : ∀ {e : SV} {v : Value}, denV E e v → v.oneCell' = true := by
  intro e v h
  cases e with
  | iface t a cs =>
    cases a <;> (simp only [denV] at h; obtain ⟨_, rfl, _⟩ := h; rfl)
  | func fn f c => simp only [denV] at h; obtain ⟨_, _, rfl, _⟩ := h; rfl
  | junk => simpa only [denV] using h
  | ptr b o => simp only [denV] at h; rw [h.2]; rfl
  | pix b o i => simp only [denV] at h; rw [h.2]; rfl
  | rp b o i z => simp only [denV] at h; rw [h.2]; rfl
  | slice b o l c => simp only [denV] at h; rw [h.2]; rfl
  | gs b o l c => simp only [denV] at h; rw [h.2.2]; rfl
  | map b => simp only [denV] at h; rw [h.2]; rfl
  | _ => simp only [denV] at h; rw [h]; rfl

theorem denS_oneCell {E : Emb} : ∀ {cs : List Seg} {l : List Value}, denS E cs l → ∀ v ∈ l, v.oneCell' = true
  | [], _, hv => by simp only [denS] at hv; subst hv; intro v hm; cases hm
  | .one e :: r, l, hv => by
    simp only [denS] at hv
    obtain ⟨v, l', rfl, h1, h3⟩ := hv
    intro x hx
    rcases List.mem_cons.1 hx with rfl | hx
    · exact denV_oneCell h1
    · exact denS_oneCell h3 x hx
  | .ints k n f :: r, l, hv => by
    simp only [denS] at hv
    obtain ⟨l', rfl, h3⟩ := hv
    intro x hx
    rcases List.mem_append.1 hx with hx | hx
    · simp only [intsOf, List.mem_map] at hx
      obtain ⟨j, _, rfl⟩ := hx
      rfl
    · exact denS_oneCell h3 x hx

theorem denS_append {E : Emb} : ∀ {a b : List Seg} {l m : List Value}, denS E a l → denS E b m → denS E (a ++ b) (l ++ m)
  | [], b, l, m, h1, h2 => by simp only [denS] at h1; subst h1; exact h2
  | .one e :: r, b, l, m, h1, h2 => by
    simp only [denS] at h1
    obtain ⟨v, l', rfl, h3, h4⟩ := h1
    exact ⟨v, l' ++ m, rfl, h3, denS_append h4 h2⟩
  | .ints k n f :: r, b, l, m, h1, h2 => by
    simp only [denS] at h1
    obtain ⟨l', rfl, h4⟩ := h1
    exact ⟨l' ++ m, by simp, denS_append h4 h2⟩

theorem sizeS_append : ∀ (a b : List Seg), sizeS (a ++ b) = sizeS a + sizeS b
  | [], b => by simp [sizeS]
  | .one _ :: r, b => by simp [sizeS, sizeS_append r b]; omega
  | .ints _ n _ :: r, b => by simp [sizeS, sizeS_append r b]; omega

theorem intsOf_get {k : IntKind} {n : Nat} {f : Nat → Int} {i : Nat} (h : i < n) : (intsOf k n f)[i]? = some (.int k (f i)) := by
  simp [intsOf, h]

theorem sizeS_ones : ∀ l : List SV, sizeS (l.map .one) = l.length
  | [] => rfl
  | _ :: r => by simp [sizeS, sizeS_ones r]

theorem sizeS_recS {f : Nat → List SV} {z : Nat} : ∀ {n : Nat}, (∀ i, i < n → (f i).length = z) → sizeS (recS n f) = n * z
  | 0, _ => by simp [recS, sizeS]
  | n + 1, h => by
    rw [recS, sizeS_append, sizeS_recS fun i hi => h i (by omega), sizeS_ones, h n (by omega), Nat.succ_mul]

theorem denS_ones {E : Emb} : ∀ {l : List SV} {vs : List Value}, denS E (l.map .one) vs ↔ denL E l vs
  | [], _ => Iff.rfl
  | e :: r, vs => by
    simp only [List.map_cons, denS, denL]
    constructor
    · rintro ⟨v, l', h1, h2, h3⟩; exact ⟨v, l', h1, h2, denS_ones.1 h3⟩
    · rintro ⟨v, l', h1, h2, h3⟩; exact ⟨v, l', h1, h2, denS_ones.2 h3⟩

theorem denS_append_inv {E : Emb} : ∀ {a b : List Seg} {l : List Value}, denS E (a ++ b) l → ∃ x y, l = x ++ y ∧ denS E a x ∧ denS E b y
  | [], b, l, h => ⟨[], l, rfl, rfl, h⟩
  | .one e :: r, b, l, h => by
    simp only [List.cons_append, denS] at h
    obtain ⟨v, l', rfl, h1, h2⟩ := h
    obtain ⟨x, y, rfl, h3, h4⟩ := denS_append_inv h2
    exact ⟨v :: x, y, rfl, ⟨v, x, rfl, h1, h3⟩, h4⟩
  | .ints k n f :: r, b, l, h => by
    simp only [List.cons_append, denS] at h
    obtain ⟨l', rfl, h2⟩ := h
    obtain ⟨x, y, rfl, h3, h4⟩ := denS_append_inv h2
    exact ⟨intsOf k n f ++ x, y, by simp, ⟨x, rfl, h3⟩, h4⟩

/-- A record among the others. -/
theorem recS_get {E : Emb} {f : Nat → List SV} {z : Nat} : ∀ {n : Nat} {l : List Value}, (∀ i, i < n → (f i).length = z) → denS E (recS n f) l → ∀ i, i < n → denL E (f i) ((l.drop (i * z)).take z)
  | 0, _, _, _, i, hi => by omega
  | n + 1, l, hf, h, i, hi => by
    rw [recS] at h
    obtain ⟨x, y, rfl, h1, h2⟩ := denS_append_inv h
    have hx := denS_length h1
    rw [sizeS_recS fun i hi => hf i (by omega)] at hx
    have hy := denS_length h2
    rw [sizeS_ones, hf n (by omega)] at hy
    rcases Nat.lt_or_ge i n with h' | h'
    · have := recS_get (fun i hi => hf i (by omega)) h1 i h'
      have hle : (i + 1) * z ≤ n * z := Nat.mul_le_mul_right _ h'
      rw [Nat.succ_mul] at hle
      rw [List.drop_append, List.take_append, List.length_drop, hx, show z - (n * z - i * z) = 0 by omega, List.take_zero, List.append_nil]
      exact this
    · obtain rfl : i = n := by omega
      rw [← hx, List.drop_left, ← hy, List.take_length]
      exact denS_ones.1 h2

/-- The same records, cell by cell. -/
theorem recS_map {f g : Nat → List SV} (h : ∀ i, f i = g i) : ∀ n, recS n f = recS n g
  | 0 => rfl
  | n + 1 => by rw [recS, recS, recS_map h n, h]

theorem denL_length {E : Emb} : ∀ {l : List SV} {vs : List Value}, denL E l vs → vs.length = l.length
  | [], _, h => by simp only [denL] at h; subst h; rfl
  | e :: r, _, h => by
    simp only [denL] at h
    obtain ⟨v, l', rfl, _, h⟩ := h
    simp [denL_length h]

theorem Emb.at_add (E : Emb) (b o n : Nat) : (E.at b o).add n = E.at b (o + n) := by
  unfold Emb.at Addr.add
  split
  · subst_vars; simp
  · simp [Nat.add_assoc]

end Go.Anv

/- The engine, part 2: what stays true of a small world when the world goes on: a draw, a new block, a store. Plain lemmas, no condition. -/
namespace Go.Anv
open Go

/-! ### segments: looking up, turning -/

def getS : List Seg → Nat → Option SV
  | [], _ => none
  | .one v :: _, 0 => some v
  | .one _ :: r, o + 1 => getS r o
  | .ints k n f :: r, o => if o < n then some (.int k (f o)) else getS r (o - n)

def getI : List Seg → Nat → Option (IntKind × Nat × (Nat → Int))
  | [], _ => none
  | .one _ :: _, 0 => none
  | .one _ :: r, o + 1 => getI r o
  | .ints k n f :: _, 0 => some (k, n, f)
  | .ints _ n _ :: r, o + 1 => if n ≤ o + 1 then getI r (o + 1 - n) else none

def setS : List Seg → Nat → SV → Option (List Seg)
  | [], _, _ => none
  | .one _ :: r, 0, e => some (.one e :: r)
  | .one v :: r, o + 1, e => (setS r o e).map (.one v :: ·)
  | .ints k n f :: r, o, e => if n ≤ o then (setS r (o - n) e).map (.ints k n f :: ·) else none

def setI : List Seg → Nat → Nat → IntKind → Int → Option (List Seg)
  | [], _, _, _, _ => none
  | .one _ :: _, 0, _, _, _ => none
  | .one v :: r, o + 1, i, k, x => (setI r o i k x).map (.one v :: ·)
  | .ints k' n f :: r, 0, i, k, x => if k = k' then some (.ints k' n (fun j => if j = i then x else f j) :: r) else none
  | .ints k' n f :: r, o + 1, i, k, x => if n ≤ o + 1 then (setI r (o + 1 - n) i k x).map (.ints k' n f :: ·) else none

def dropS : List Seg → Nat → Option (List Seg)
  | r, 0 => some r
  | [], _ + 1 => none
  | .one _ :: r, o + 1 => dropS r o
  | .ints _ n _ :: r, o + 1 => if n ≤ o + 1 then dropS r (o + 1 - n) else none

def takeS : List Seg → Nat → Option (List Seg)
  | _, 0 => some []
  | [], _ + 1 => none
  | .one v :: r, n + 1 => (takeS r n).map (.one v :: ·)
  | .ints k m f :: r, n + 1 => if m ≤ n + 1 then (takeS r (n + 1 - m)).map (.ints k m f :: ·) else none

def putS (cs : List Seg) (o : Nat) (new : List Seg) : Option (List Seg) :=
  match takeS cs o, dropS cs (o + sizeS new) with
  | some a, some b => some (a ++ (new ++ b))
  | _, _ => none

theorem getS_den {E : Emb} : ∀ {cs : List Seg} {l : List Value} {o : Nat} {e : SV}, denS E cs l → getS cs o = some e → ∃ v, l[o]? = some v ∧ denV E e v
  | [], _, _, _, _, h => by simp [getS] at h
  | .one x :: r, l, 0, e, hd, h => by
    simp only [getS, Option.some.injEq] at h
    subst h
    simp only [denS] at hd
    obtain ⟨v, l', rfl, h1, _⟩ := hd
    exact ⟨v, by simp, h1⟩
  | .one x :: r, l, o + 1, e, hd, h => by
    simp only [getS] at h
    simp only [denS] at hd
    obtain ⟨v, l', rfl, _, h3⟩ := hd
    obtain ⟨u, h4, h5⟩ := getS_den h3 h
    exact ⟨u, by simpa using h4, h5⟩
  | .ints k n f :: r, l, o, e, hd, h => by
    unfold getS at h
    simp only [denS] at hd
    obtain ⟨l', rfl, h3⟩ := hd
    split at h
    · rename_i ho
      simp only [Option.some.injEq] at h
      subst h
      exact ⟨.int k (f o), by rw [List.getElem?_append_left (by simpa [length_intsOf] using ho)]; exact intsOf_get ho, by simp only [denV]⟩
    · rename_i ho
      obtain ⟨u, h4, h5⟩ := getS_den h3 h
      exact ⟨u, by rw [List.getElem?_append_right (by rw [length_intsOf]; omega), length_intsOf]; exact h4, h5⟩

theorem getI_den {E : Emb} : ∀ {cs : List Seg} {l : List Value} {o : Nat} {k : IntKind} {n : Nat} {f : Nat → Int}, denS E cs l → getI cs o = some (k, n, f) → ∀ i, i < n → l[o + i]? = some (.int k (f i))
  | [], _, _, _, _, _, _, h => by simp [getI] at h
  | .one x :: r, l, 0, _, _, _, hd, h => by simp [getI] at h
  | .one x :: r, l, o + 1, _, _, _, hd, h => by
    simp only [getI] at h
    simp only [denS] at hd
    obtain ⟨v, l', rfl, _, h3⟩ := hd
    intro i hi
    have := getI_den h3 h i hi
    rw [show o + 1 + i = (o + i) + 1 by omega]
    simpa using this
  | .ints k' n' f' :: r, l, 0, _, _, _, hd, h => by
    simp only [getI, Option.some.injEq, Prod.mk.injEq] at h
    obtain ⟨rfl, rfl, rfl⟩ := h
    simp only [denS] at hd
    obtain ⟨l', rfl, h3⟩ := hd
    intro i hi
    rw [Nat.zero_add, List.getElem?_append_left (by simpa [length_intsOf] using hi)]
    exact intsOf_get hi
  | .ints k' n' f' :: r, l, o + 1, _, _, _, hd, h => by
    unfold getI at h
    split at h
    · rename_i ho
      simp only [denS] at hd
      obtain ⟨l', rfl, h3⟩ := hd
      intro i hi
      rw [List.getElem?_append_right (by rw [length_intsOf]; omega), length_intsOf]
      have := getI_den h3 h i hi
      rwa [show o + 1 + i - n' = o + 1 - n' + i by omega]
    · cases h

theorem getI_size : ∀ {cs : List Seg} {o : Nat} {k : IntKind} {n : Nat} {f : Nat → Int}, getI cs o = some (k, n, f) → o + n ≤ sizeS cs
  | [], _, _, _, _, h => by simp [getI] at h
  | .one x :: r, 0, _, _, _, h => by simp [getI] at h
  | .one x :: r, o + 1, _, _, _, h => by
    simp only [getI] at h
    have := getI_size h
    simp only [sizeS]; omega
  | .ints k' n' f' :: r, 0, _, _, _, h => by
    simp only [getI, Option.some.injEq, Prod.mk.injEq] at h
    obtain ⟨rfl, rfl, rfl⟩ := h
    simp only [sizeS]; omega
  | .ints k' n' f' :: r, o + 1, _, _, _, h => by
    unfold getI at h
    split at h
    · have := getI_size h
      simp only [sizeS]; omega
    · cases h

theorem setS_den {E : Emb} : ∀ {cs cs' : List Seg} {l : List Value} {o : Nat} {e : SV} {v : Value}, denS E cs l → denV E e v → setS cs o e = some cs' →
    denS E cs' (l.set o v) ∧ sizeS cs' = sizeS cs ∧ o < sizeS cs
  | [], _, _, _, _, _, _, _, h => by simp [setS] at h
  | .one x :: r, cs', l, 0, e, v, hd, hv, h => by
    simp only [setS, Option.some.injEq] at h
    subst h
    simp only [denS] at hd
    obtain ⟨u, l', rfl, _, h3⟩ := hd
    exact ⟨⟨v, l', by simp, hv, h3⟩, by simp [sizeS], by simp [sizeS]⟩
  | .one x :: r, cs', l, o + 1, e, v, hd, hv, h => by
    simp only [setS, Option.map_eq_some_iff] at h
    obtain ⟨c, hc, rfl⟩ := h
    simp only [denS] at hd
    obtain ⟨u, l', rfl, h1, h3⟩ := hd
    obtain ⟨h4, h5, h6⟩ := setS_den h3 hv hc
    exact ⟨⟨u, l'.set o v, by simp, h1, h4⟩, by simp [sizeS, h5], by simp [sizeS]; omega⟩
  | .ints k n f :: r, cs', l, o, e, v, hd, hv, h => by
    unfold setS at h
    split at h
    · rename_i ho
      simp only [Option.map_eq_some_iff] at h
      obtain ⟨c, hc, rfl⟩ := h
      simp only [denS] at hd
      obtain ⟨l', rfl, h3⟩ := hd
      obtain ⟨h4, h5, h6⟩ := setS_den h3 hv hc
      exact ⟨⟨l'.set (o - n) v, by rw [List.set_append_right _ _ (by rw [length_intsOf]; omega), length_intsOf], h4⟩, by simp [sizeS, h5], by simp [sizeS]; omega⟩
    · cases h

theorem intsOf_set (k : IntKind) (n : Nat) (f : Nat → Int) (i : Nat) (x : Int) : (intsOf k n f).set i (.int k x) = intsOf k n (fun j => if j = i then x else f j) := by
  apply List.ext_getElem?
  intro j
  by_cases hj : j < n
  · rw [intsOf_get hj, List.getElem?_set]
    by_cases hji : i = j
    · subst hji; simp [length_intsOf, hj]
    · rw [if_neg hji, intsOf_get hj, if_neg (fun e => hji e.symm)]
  · rw [List.getElem?_eq_none (by simp [length_intsOf]; omega), List.getElem?_eq_none (by simp [length_intsOf]; omega)]

theorem setI_den {E : Emb} : ∀ {cs cs' : List Seg} {l : List Value} {o i : Nat} {k : IntKind} {x : Int}, denS E cs l → setI cs o i k x = some cs' → (∀ k' n f, getI cs o = some (k', n, f) → i < n) →
    denS E cs' (l.set (o + i) (.int k x)) ∧ sizeS cs' = sizeS cs ∧ o + i < sizeS cs
  | [], _, _, _, _, _, _, _, h, _ => by simp [setI] at h
  | .one y :: r, cs', l, 0, i, k, x, hd, h, _ => by simp [setI] at h
  | .one y :: r, cs', l, o + 1, i, k, x, hd, h, hi => by
    simp only [setI, Option.map_eq_some_iff] at h
    obtain ⟨c, hc, rfl⟩ := h
    simp only [denS] at hd
    obtain ⟨u, l', rfl, h1, h3⟩ := hd
    obtain ⟨h4, h5, h6⟩ := setI_den h3 hc (fun k' n f hg => hi k' n f (by simpa only [getI] using hg))
    exact ⟨⟨u, l'.set (o + i) (.int k x), by rw [show o + 1 + i = o + i + 1 by omega]; simp, h1, h4⟩, by simp [sizeS, h5], by simp [sizeS]; omega⟩
  | .ints k' n f :: r, cs', l, 0, i, k, x, hd, h, hi => by
    unfold setI at h
    split at h
    · rename_i hk
      subst hk
      simp only [Option.some.injEq] at h
      subst h
      simp only [denS] at hd
      obtain ⟨l', rfl, h3⟩ := hd
      have hin := hi k n f (by simp only [getI])
      refine ⟨⟨l', ?_, h3⟩, by simp [sizeS], by simp [sizeS]; omega⟩
      rw [Nat.zero_add, List.set_append_left _ _ (by simpa [length_intsOf] using hin), intsOf_set]
    · cases h
  | .ints k' n f :: r, cs', l, o + 1, i, k, x, hd, h, hi => by
    unfold setI at h
    split at h
    · rename_i ho
      simp only [Option.map_eq_some_iff] at h
      obtain ⟨c, hc, rfl⟩ := h
      simp only [denS] at hd
      obtain ⟨l', rfl, h3⟩ := hd
      obtain ⟨h4, h5, h6⟩ := setI_den h3 hc (fun k' n f hg => hi k' n f (by simp only [getI]; rw [if_pos ho]; exact hg))
      refine ⟨⟨l'.set (o + 1 - n + i) (.int k x), ?_, h4⟩, by simp [sizeS, h5], by simp [sizeS]; omega⟩
      rw [List.set_append_right _ _ (by rw [length_intsOf]; omega), length_intsOf, show o + 1 + i - n = o + 1 - n + i by omega]
    · cases h

theorem dropS_den {E : Emb} : ∀ {cs r : List Seg} {l : List Value} {o : Nat}, denS E cs l → dropS cs o = some r → denS E r (l.drop o) ∧ sizeS r + o = sizeS cs
  | cs, r, l, 0, hd, h => by
    simp only [dropS, Option.some.injEq] at h
    subst h
    exact ⟨by simpa using hd, by omega⟩
  | [], _, _, o + 1, _, h => by simp [dropS] at h
  | .one x :: c, r, l, o + 1, hd, h => by
    simp only [dropS] at h
    simp only [denS] at hd
    obtain ⟨v, l', rfl, _, h3⟩ := hd
    obtain ⟨h4, h5⟩ := dropS_den h3 h
    exact ⟨by simpa using h4, by simp [sizeS]; omega⟩
  | .ints k n f :: c, r, l, o + 1, hd, h => by
    unfold dropS at h
    split at h
    · rename_i ho
      simp only [denS] at hd
      obtain ⟨l', rfl, h3⟩ := hd
      obtain ⟨h4, h5⟩ := dropS_den h3 h
      refine ⟨?_, by simp [sizeS]; omega⟩
      rw [List.drop_append, length_intsOf, List.drop_eq_nil_of_le (by rw [length_intsOf]; omega), List.nil_append]
      exact h4
    · cases h

theorem takeS_den {E : Emb} : ∀ {cs r : List Seg} {l : List Value} {o : Nat}, denS E cs l → takeS cs o = some r → denS E r (l.take o) ∧ sizeS r = o ∧ o ≤ sizeS cs
  | cs, r, l, 0, hd, h => by
    simp only [takeS, Option.some.injEq] at h
    subst h
    exact ⟨by simp [denS], by simp [sizeS]⟩
  | [], _, _, o + 1, _, h => by simp [takeS] at h
  | .one x :: c, r, l, o + 1, hd, h => by
    simp only [takeS, Option.map_eq_some_iff] at h
    obtain ⟨t, ht, rfl⟩ := h
    simp only [denS] at hd
    obtain ⟨v, l', rfl, h1, h3⟩ := hd
    obtain ⟨h4, h5, h6⟩ := takeS_den h3 ht
    exact ⟨⟨v, l'.take o, by simp, h1, h4⟩, by simp [sizeS, h5], by simp [sizeS]; omega⟩
  | .ints k n f :: c, r, l, o + 1, hd, h => by
    unfold takeS at h
    split at h
    · rename_i ho
      simp only [Option.map_eq_some_iff] at h
      obtain ⟨t, ht, rfl⟩ := h
      simp only [denS] at hd
      obtain ⟨l', rfl, h3⟩ := hd
      obtain ⟨h4, h5, h6⟩ := takeS_den h3 ht
      refine ⟨⟨l'.take (o + 1 - n), ?_, h4⟩, by simp [sizeS]; omega, by simp [sizeS]; omega⟩
      rw [List.take_append, length_intsOf, List.take_of_length_le (by rw [length_intsOf]; omega)]
    · cases h

theorem putS_den {E : Emb} {cs cs' new : List Seg} {l m : List Value} {o : Nat} (hd : denS E cs l) (hm : denS E new m) (h : putS cs o new = some cs') :
    denS E cs' (l.take o ++ (m ++ l.drop (o + m.length))) ∧ sizeS cs' = sizeS cs ∧ o + m.length ≤ sizeS cs := by
  unfold putS at h
  split at h
  · rename_i a b ha hb
    simp only [Option.some.injEq] at h
    subst h
    have hl := denS_length hm
    obtain ⟨h1, h2, h3⟩ := takeS_den hd ha
    obtain ⟨h4, h5⟩ := dropS_den hd hb
    rw [← hl] at h4
    exact ⟨denS_append h1 (denS_append hm h4), by rw [sizeS_append, sizeS_append]; omega, by omega⟩
  · cases h

/-! ### worlds -/

theorem cell?_setCells_out (b : Nat) (vs : List Value) (o : Nat) (w : World) (x : Addr) (h : x.block ≠ b ∨ x.off < o ∨ o + vs.length ≤ x.off) : (w.setCells b o vs).cell? x = w.cell? x :=
  World.cell?_setCells_out b vs o w x (fun h1 _ => by omega)

theorem size_setCells (b : Nat) : ∀ (vs : List Value) (o : Nat) (w : World), (w.setCells b o vs).heap.size = w.heap.size
  | [], _, _ => rfl
  | _ :: r, _, _ => by rw [World.setCells, size_setCells b r, World.size_setCell]

theorem other_setCells (b : Nat) : ∀ (vs : List Value) (o : Nat) (w : World) (k : Nat), k ≠ b → (w.setCells b o vs).heap[k]? = w.heap[k]?
  | [], _, _, _, _ => rfl
  | v :: r, o, w, k, h => by
    rw [World.setCells, other_setCells b r _ _ k h]
    exact RowKit.Below.heap_setCell w ⟨b, o, none⟩ v k h

theorem map_setCell (w : World) (a : Addr) (v : Value) (k : Nat) (l : Array MapEntry) (c : Nat) (h : w.heap[k]? = some (.map l c)) : (w.setCell a v).heap[k]? = some (.map l c) := by
  simp only [World.setCell, Array.getElem?_modify]
  split
  · simp [h]
  · exact h

theorem map_setCells (b : Nat) : ∀ (vs : List Value) (o : Nat) (w : World) (k : Nat) (l : Array MapEntry) (c : Nat), w.heap[k]? = some (.map l c) → (w.setCells b o vs).heap[k]? = some (.map l c)
  | [], _, _, _, _, _, h => h
  | v :: r, _o, w, k, l, c, h => map_setCells b r _ _ k l c (map_setCell w _ v k l c h)

theorem os_setCells (b : Nat) : ∀ (vs : List Value) (o : Nat) (w : World), (w.setCells b o vs).os = w.os ∧ (w.setCells b o vs).tape = w.tape ∧ (w.setCells b o vs).output = w.output
  | [], _, _ => ⟨rfl, rfl, rfl⟩
  | v :: r, o, w => by
    rw [World.setCells]
    exact os_setCells b r _ _

theorem inSetCells (b : Nat) (vs : List Value) (o : Nat) (w : World) (h : ∀ j, j < vs.length → ∃ v, w.cell? ⟨b, o + j, none⟩ = some v) (j : Nat) (hj : j < vs.length) :
    (w.setCells b o vs).cell? ⟨b, o + j, none⟩ = vs[j]? := by
  rw [World.cell?_setCells_in b vs o w (fun i hi => by obtain ⟨v, hv⟩ := h i hi; simp [hv]) j hj, List.getElem?_eq_getElem hj]

/-- A map object and a row of cells are two. -/
theorem not_map_of_cell {w : World} {b o : Nat} {v : Value} {l : Array MapEntry} {c : Nat} (h : w.cell? ⟨b, o, none⟩ = some v) : w.heap[b]? ≠ some (.map l c) := by
  intro e
  simp [World.cell?, e] at h

theorem rowOk_setCell {w : World} {k : Nat} (a : Addr) (v : Value) (h : rowOk w k) : rowOk (w.setCell a v) k := by
  obtain ⟨c, e, lo, hi, h1, h2⟩ := h
  by_cases hk : a.block = k
  · subst hk
    refine ⟨if a.spot.isSome then c else c.setIfInBounds a.off v, e, lo, hi, ?_, ?_⟩
    · simp [World.setCell, Array.getElem?_modify, h1]
    · split <;> simpa using h2
  · exact ⟨c, e, lo, hi, by simp [World.setCell, Array.getElem?_modify, hk, h1], h2⟩

theorem rowOk_setCells {k b : Nat} : ∀ {vs : List Value} {o : Nat} {w : World}, rowOk w k → rowOk (w.setCells b o vs) k
  | [], _, _, h => h
  | v :: r, o, _, h => rowOk_setCells (vs := r) (rowOk_setCell ⟨b, o, none⟩ v h)

/-! ### a state goes on -/

theorem Since.refl (E : Emb) (h : List Blk) (w : World) : Since E h w E h w :=
  ⟨Nat.le_refl _, fun _ _ => rfl, Nat.le_refl _, fun _ _ _ => rfl, fun _ _ _ _ => ⟨rfl, fun _ => rfl⟩, fun _ _ h _ => h, rfl, rfl, rfl, fun _ _ h => h⟩

theorem Since.trans {E0 E1 E2 : Emb} {h0 h1 h2 : List Blk} {w0 w1 w2 : World} (n0 : E0.n = h0.length) (n1 : E1.n = h1.length) (a : Since E0 h0 w0 E1 h1 w1) (b : Since E1 h1 w1 E2 h2 w2) : Since E0 h0 w0 E2 h2 w2 where
  len := Nat.le_trans a.len b.len
  same i hi := (b.same i (by have := a.len; omega)).trans (a.same i hi)
  size := Nat.le_trans a.size b.size
  frame k hk hm := (b.frame k (Nat.lt_of_lt_of_le hk a.size) (fun o ho => hm o (a.new k o ho hk))).trans (a.frame k hk hm)
  cells k o hk hm := by
    have h1 := a.cells k o hk hm
    have h2 := b.cells k o (Nat.lt_of_lt_of_le hk a.size) (fun ho => hm (a.new k o ho hk))
    exact ⟨h2.1.trans h1.1, fun hs => (h2.2 (by rw [h1.1]; exact hs)).trans (h1.2 hs)⟩
  new k o ho hk := a.new k o (b.new k o ho (Nat.lt_of_lt_of_le hk a.size)) hk
  os := b.os.trans a.os
  tape := b.tape.trans a.tape
  output := b.output.trans a.output
  rows k hk h := b.rows k (Nat.lt_of_lt_of_le hk a.size) (a.rows k hk h)

theorem Since.le {E E' : Emb} {h h' : List Blk} {w w' : World} (n : E.n = h.length) (n' : E'.n = h'.length) (s : Since E h w E' h' w') : E.le E' :=
  ⟨by rw [n, n']; exact s.len, s.same⟩

/-- A draw. -/
theorem Sim.drew {E : Emb} {h : List Blk} {w : World} (s : Sim E h w) : Sim E h w.drew := ⟨s.n, fun i B hi => by
  have := s.ok i B hi
  cases B with
  | cells m cs sp => exact this
  | recs m n z f sp => exact this
  | map es => exact this
  | dead => exact this, s.dis⟩

theorem Since.drew (E : Emb) (h : List Blk) (w : World) : Since E h w E h w.drew :=
  ⟨Nat.le_refl _, fun _ _ => rfl, Nat.le_refl _, fun _ _ _ => rfl, fun _ _ _ _ => ⟨rfl, fun _ => rfl⟩, fun _ _ h _ => h, rfl, rfl, rfl, fun _ _ h => h⟩

/-- Where the next block lies. -/
def Emb.push (E : Emb) (p : Loc) : Emb := ⟨E.n + 1, fun i => if i = E.n then p else E.f i⟩

theorem Emb.le_push (E : Emb) (p : Loc) : E.le (E.push p) := ⟨by simp [Emb.push], fun i hi => by simp [Emb.push]; omega⟩
theorem Emb.push_new (E : Emb) (p : Loc) : (E.push p).f E.n = p := by simp [Emb.push]
theorem Emb.push_old (E : Emb) (p : Loc) {i : Nat} (h : i < E.n) : (E.push p).f i = E.f i := by simp [Emb.push]; omega

theorem okCells_le {E E' : Emb} (h : E.le E') {w : World} {p : Loc} {m : Bool} {cs : List Seg} {sp : Nat} (hb : okCells E w p m cs sp) : okCells E' w p m cs sp := by
  obtain ⟨h1, ⟨l, h2, h3⟩, h4⟩ := hb
  exact ⟨h1, ⟨l, denS_mono h cs l h2, h3⟩, h4⟩

theorem okBlk_le {E E' : Emb} (h : E.le E') {w : World} {p : Loc} {B : Blk} (hb : okBlk E w p B) : okBlk E' w p B := by
  cases B with
  | cells m cs sp => exact okCells_le h hb
  | recs m n z f sp => exact ⟨hb.1, okCells_le h hb.2⟩
  | map es =>
    obtain ⟨l, c, h1, h2⟩ := hb
    exact ⟨l, c, h1, denM_mono h es _ h2⟩
  | dead => trivial

/-- All that is covered lies in the world. -/
theorem Sim.cov_lt {E : Emb} {h : List Blk} {w : World} (s : Sim E h w) {i : Nat} {B : Blk} (hi : h[i]? = some B) {b o : Nat} (hc : cov (E.f i) B b o) : b < w.heap.size := by
  have := s.ok i B hi
  cases B with
  | cells m cs sp =>
    obtain ⟨h1, _⟩ := this
    obtain ⟨rfl, h2, h3⟩ := hc
    rcases h1 with h1 | h1
    · exact h1
    · omega
  | recs m n z f sp =>
    obtain ⟨_, h1, _⟩ := this
    obtain ⟨rfl, h2, h3⟩ := hc
    rcases h1 with h1 | h1
    · exact h1
    · omega
  | map es =>
    obtain ⟨l, c, h1, _⟩ := this
    simp only [cov] at hc
    subst hc
    rcases Nat.lt_or_ge (E.f i).1 w.heap.size with h' | h'
    · exact h'
    · simp [Array.getElem?_eq_none h'] at h1
  | dead => cases hc

theorem okCells_alloc {E : Emb} {w : World} {p : Loc} {m : Bool} {cs : List Seg} {sp : Nat} (o : Obj) (hb : okCells E w p m cs sp) : okCells E (w.alloc o) p m cs sp := by
  obtain ⟨h1, ⟨l, h2, h3⟩, h4⟩ := hb
  have hlt : ∀ j, j < sizeS cs + sp → p.1 < w.heap.size := fun j hj => by
    rcases h1 with h1 | h1
    · exact h1
    · omega
  refine ⟨?_, ⟨l, h2, fun j v hj => ?_⟩, fun hm j hj => ?_⟩
  · rcases h1 with h1 | h1
    · exact .inl (by simp; omega)
    · exact .inr h1
  · have hj' : j < sizeS cs := by
      rw [← denS_length h2]
      rcases Nat.lt_or_ge j l.length with h' | h'
      · exact h'
      · simp [List.getElem?_eq_none h'] at hj
    rw [World.cell?_alloc_lt _ _ _ (hlt j (by omega))]; exact h3 j v hj
  · have h1 := hlt j hj
    rw [World.cell?_alloc_lt _ _ _ h1]; exact ⟨(h4 hm j hj).1, (h4 hm j hj).2.of_block (RowKit.Below.heap_alloc w o p.1 h1)⟩

theorem okBlk_alloc {E : Emb} {w : World} {p : Loc} {B : Blk} (o : Obj) (hb : okBlk E w p B) : okBlk E (w.alloc o) p B := by
  cases B with
  | cells m cs sp => exact okCells_alloc o hb
  | recs m n z f sp => exact ⟨hb.1, okCells_alloc o hb.2⟩
  | map es =>
    obtain ⟨l, c, h1, h2⟩ := hb
    refine ⟨l, c, ?_, h2⟩
    have hlt : p.1 < w.heap.size := by
      rcases Nat.lt_or_ge p.1 w.heap.size with h' | h'
      · exact h'
      · simp [Array.getElem?_eq_none h'] at h1
    rw [RowKit.Below.heap_alloc w o p.1 hlt]; exact h1
  | dead => trivial

theorem getElem?_push_cases {h : List Blk} {N B : Blk} {i : Nat} (hi : (h ++ [N])[i]? = some B) : h[i]? = some B ∧ i < h.length ∨ i = h.length ∧ B = N := by
  rcases Nat.lt_or_ge i h.length with hlt | hge
  · rw [List.getElem?_append_left hlt] at hi
    exact .inl ⟨hi, hlt⟩
  · rw [List.getElem?_append_right hge] at hi
    have : i - h.length = 0 := by
      rcases Nat.eq_zero_or_pos (i - h.length) with h' | h'
      · exact h'
      · rw [List.getElem?_eq_none (by simp; omega)] at hi; cases hi
    rw [this] at hi
    simp at hi
    exact .inr ⟨by omega, hi.symm⟩

/-- A new block, of whatever kind. -/
theorem Sim.push {E : Emb} {h : List Blk} {w : World} (s : Sim E h w) (o : Obj) (N : Blk)
    (hN : okBlk (E.push ⟨w.heap.size, 0, false⟩) (w.alloc o) ⟨w.heap.size, 0, false⟩ N) : Sim (E.push ⟨w.heap.size, 0, false⟩) (h ++ [N]) (w.alloc o) where
  n := by simp [Emb.push, s.n]
  ok i B hi := by
    rcases getElem?_push_cases hi with ⟨h1, h2⟩ | ⟨h1, h2⟩
    · rw [Emb.push_old _ _ (by rw [s.n]; exact h2)]
      exact okBlk_le (Emb.le_push _ _) (okBlk_alloc o (s.ok i B h1))
    · subst h2; subst h1
      rw [← s.n, Emb.push_new]
      exact hN
  dis i j A B hij hi hj hA b o hci hcj := by
    have hnew : ∀ C : Blk, cov ⟨w.heap.size, 0, false⟩ C b o → b = w.heap.size := fun C hC => by
      cases C with
      | cells m cs sp => exact hC.1
      | recs m n z f sp => exact hC.1
      | map es => exact hC
      | dead => cases hC
    rcases getElem?_push_cases hi with ⟨h1, h2⟩ | ⟨h1, h2⟩ <;> rcases getElem?_push_cases hj with ⟨h3, h4⟩ | ⟨h3, h4⟩
    · rw [Emb.push_old _ _ (by rw [s.n]; exact h2)] at hci
      rw [Emb.push_old _ _ (by rw [s.n]; exact h4)] at hcj
      exact s.dis i j A B hij h1 h3 hA b o hci hcj
    · rw [Emb.push_old _ _ (by rw [s.n]; exact h2)] at hci
      subst h3
      rw [← s.n, Emb.push_new] at hcj
      have := s.cov_lt h1 hci
      have := hnew _ hcj
      omega
    · rw [Emb.push_old _ _ (by rw [s.n]; exact h4)] at hcj
      subst h1
      rw [← s.n, Emb.push_new] at hci
      have := s.cov_lt h3 hcj
      have := hnew _ hci
      omega
    · exact hij (h1.trans h3.symm)

theorem Since.push {E : Emb} {h : List Blk} {w : World} (s : Sim E h w) (o : Obj) (N : Blk) : Since E h w (E.push ⟨w.heap.size, 0, false⟩) (h ++ [N]) (w.alloc o) where
  len := by simp
  same i hi := Emb.push_old _ _ hi
  size := by simp
  frame k hk _ := RowKit.Below.heap_alloc w o k hk
  cells k x hk _ := ⟨World.cell?_alloc_lt _ _ _ hk, fun _ => World.frozen?_alloc_old _ _ _ (Nat.ne_of_lt hk)⟩
  new k x hm hk := by
    obtain ⟨i, B, hi, hB, hc⟩ := hm
    rcases getElem?_push_cases hi with ⟨h1, h2⟩ | ⟨h1, h2⟩
    · rw [Emb.push_old _ _ (by rw [s.n]; exact h2)] at hc
      exact ⟨i, B, h1, hB, hc⟩
    · subst h1
      rw [← s.n, Emb.push_new] at hc
      have : k = w.heap.size := by
        cases B with
        | cells m cs sp => exact hc.1
        | recs m n z f sp => exact hc.1
        | map es => exact hc
        | dead => cases hc
      omega
  os := rfl
  tape := rfl
  output := rfl
  rows k hk h := h.of_block (RowKit.Below.heap_alloc w o k hk)

theorem okBlk_new {E : Emb} {w : World} {m : Bool} {cs : List Seg} {l : List Value} (t : TypeId) (hd : denS E cs l) : okBlk (E.push ⟨w.heap.size, 0, false⟩) (w.alloc (.cells l.toArray t)) ⟨w.heap.size, 0, false⟩ (.cells m cs 0) := by
  refine ⟨by simp, ⟨l, denS_mono (Emb.le_push _ _) cs l hd, fun j v hj => ?_⟩, fun _ j hj => ?_⟩
  · have := World.cell?_alloc_new w l.toArray t (0 + j)
    rw [this]
    simpa using hj
  · have hlen := denS_length hd
    have := World.cell?_alloc_new w l.toArray t (0 + j)
    refine ⟨⟨l[j]'(by omega), ?_⟩, ?_⟩
    · rw [this]; simp
    · exact ⟨l.toArray, t, 0, 0, heap_alloc_new w _, .inl rfl⟩

/-- Stores into a block that may be written. -/
theorem Sim.write {E : Emb} {h : List Blk} {w : World} (s : Sim E h w) {i : Nat} {cs cs' : List Seg} {sp sp' : Nat} (hi : h[i]? = some (.cells true cs sp)) {o : Nat} {vs l : List Value}
    (hl : denS E cs l) (hlw : ∀ j v, l[j]? = some v → w.cell? ⟨(E.f i).1, (E.f i).2 + j, none⟩ = some v)
    (hd : denS E cs' (l.take o ++ (vs ++ l.drop (o + vs.length)))) (hs : sizeS cs' + sp' = sizeS cs + sp) (ho : o ≤ sizeS cs) (hov : o + vs.length ≤ sizeS cs + sp) :
    Sim E (h.set i (.cells true cs' sp')) (w.setCells (E.f i).1 ((E.f i).2 + o) vs) := by
  have hlt : i < h.length := by
    rcases Nat.lt_or_ge i h.length with h' | h'
    · exact h'
    · rw [List.getElem?_eq_none h'] at hi; cases hi
  obtain ⟨hw1, _, hw3⟩ := s.ok i _ hi
  have hw3 := hw3 rfl
  have hex : ∀ j, j < vs.length → ∃ v, w.cell? ⟨(E.f i).1, (E.f i).2 + o + j, none⟩ = some v := fun j hj => by
    have := (hw3 (o + j) (by omega)).1
    rwa [← Nat.add_assoc] at this
  have hlen := denS_length hl
  have hcov : ∀ b' o', ¬ cov (E.f i) (.cells true cs sp) b' o' → (w.setCells (E.f i).1 ((E.f i).2 + o) vs).cell? ⟨b', o', none⟩ = w.cell? ⟨b', o', none⟩ := fun b' o' hn => by
    apply cell?_setCells_out
    simp only [cov] at hn
    simp only
    by_cases hb : b' = (E.f i).1
    · right
      have : ¬ ((E.f i).2 ≤ o' ∧ o' < (E.f i).2 + (sizeS cs + sp)) := fun hh => hn ⟨hb, hh.1, hh.2⟩
      omega
    · exact .inl hb
  have hcc : ∀ (b' o' : Nat), cov (E.f i) (.cells true cs' sp') b' o' ↔ cov (E.f i) (.cells true cs sp) b' o' := fun b' o' => by simp only [cov, hs]
  refine ⟨by simp [s.n], fun j B hj => ?_, fun j k A B hjk hj hk hA b' o' => ?_⟩
  · by_cases hji : i = j
    · subst hji
      rw [List.getElem?_set_self hlt] at hj
      simp only [Option.some.injEq] at hj
      subst hj
      refine ⟨by rw [size_setCells, hs]; exact hw1, ⟨_, hd, fun j v hj => ?_⟩, fun _ j hj => ?_⟩
      · rcases Nat.lt_or_ge j o with h1 | h1
        · rw [cell?_setCells_out _ _ _ _ _ (by simp only; omega)]
          rw [List.getElem?_append_left (by rw [List.length_take]; omega), List.getElem?_take_of_lt h1] at hj
          exact hlw j v hj
        · rw [List.getElem?_append_right (by rw [List.length_take]; omega), List.length_take, Nat.min_eq_left (by omega)] at hj
          rcases Nat.lt_or_ge (j - o) vs.length with h2 | h2
          · rw [List.getElem?_append_left h2] at hj
            rw [show (E.f i).2 + j = (E.f i).2 + o + (j - o) by omega, inSetCells _ _ _ _ hex _ h2]
            exact hj
          · rw [List.getElem?_append_right h2, List.getElem?_drop] at hj
            rw [cell?_setCells_out _ _ _ _ _ (by simp only; omega)]
            rw [show o + vs.length + (j - o - vs.length) = j by omega] at hj
            exact hlw j v hj
      · rw [hs] at hj
        refine ⟨?_, rowOk_setCells (hw3 j hj).2⟩
        by_cases h1 : o ≤ j ∧ j < o + vs.length
        · rw [show (E.f i).2 + j = (E.f i).2 + o + (j - o) by omega, inSetCells _ _ _ _ hex _ (by omega)]
          exact ⟨_, List.getElem?_eq_getElem (by omega)⟩
        · rw [cell?_setCells_out _ _ _ _ _ (by simp only; omega)]
          exact (hw3 j hj).1
    · rw [List.getElem?_set_ne hji] at hj
      have hb := s.ok j B hj
      have cel : ∀ (m : Bool) (cs2 : List Seg) (sp2 : Nat), okCells E w (E.f j) m cs2 sp2 → (∀ b o, cov (E.f i) (.cells true cs sp) b o → b = (E.f j).1 ∧ (E.f j).2 ≤ o ∧ o < (E.f j).2 + (sizeS cs2 + sp2) → False) →
          okCells E (w.setCells (E.f i).1 ((E.f i).2 + o) vs) (E.f j) m cs2 sp2 := by
        rintro m cs2 sp2 ⟨h1, ⟨l2, h2, h3⟩, h4⟩ hdis
        refine ⟨by rw [size_setCells]; exact h1, ⟨l2, h2, fun x v hx => ?_⟩, fun hm x hx => ?_⟩
        · rw [hcov]
          · exact h3 x v hx
          · intro hc
            refine hdis _ _ hc ⟨rfl, by omega, ?_⟩
            have := denS_length h2
            have : x < l2.length := by
              rcases Nat.lt_or_ge x l2.length with h' | h'
              · exact h'
              · rw [List.getElem?_eq_none h'] at hx; cases hx
            omega
        · rw [hcov]
          · exact ⟨(h4 hm x hx).1, rowOk_setCells (h4 hm x hx).2⟩
          · intro hc
            exact hdis _ _ hc ⟨rfl, by omega, by omega⟩
      cases B with
      | cells m cs2 sp2 => exact cel m cs2 sp2 hb fun b o h1 h2 => s.dis i j _ _ hji hi hj rfl b o h1 h2
      | recs m n z f sp2 => exact ⟨hb.1, cel m _ sp2 hb.2 fun b o h1 h2 => s.dis i j _ _ hji hi hj rfl b o h1 h2⟩
      | map es =>
        obtain ⟨l2, c, h1, h2⟩ := hb
        exact ⟨l2, c, map_setCells _ _ _ _ _ _ _ h1, h2⟩
      | dead => trivial
  · by_cases h1 : i = j <;> by_cases h2 : i = k
    · exact absurd (h1.symm.trans h2) hjk
    · subst h1
      rw [List.getElem?_set_self hlt] at hj
      simp only [Option.some.injEq] at hj
      subst hj
      rw [List.getElem?_set_ne h2] at hk
      rw [hcc]
      exact s.dis i k _ _ hjk hi hk rfl b' o'
    · subst h2
      rw [List.getElem?_set_self hlt] at hk
      simp only [Option.some.injEq] at hk
      subst hk
      rw [List.getElem?_set_ne h1] at hj
      rw [hcc]
      exact s.dis j i _ _ hjk hj hi hA b' o'
    · rw [List.getElem?_set_ne h1] at hj
      rw [List.getElem?_set_ne h2] at hk
      exact s.dis j k _ _ hjk hj hk hA b' o'

theorem Sim.store {E : Emb} {h : List Blk} {w : World} (s : Sim E h w) {i : Nat} {cs cs' : List Seg} {sp : Nat} (hi : h[i]? = some (.cells true cs sp)) {o : Nat} {vs l : List Value}
    (hl : denS E cs l) (hlw : ∀ j v, l[j]? = some v → w.cell? ⟨(E.f i).1, (E.f i).2 + j, none⟩ = some v)
    (hd : denS E cs' (l.take o ++ (vs ++ l.drop (o + vs.length)))) (hs : sizeS cs' = sizeS cs) (ho : o + vs.length ≤ sizeS cs) :
    Sim E (h.set i (.cells true cs' sp)) (w.setCells (E.f i).1 ((E.f i).2 + o) vs) := s.write hi hl hlw hd (by omega) (by omega) (by omega)

theorem Since.write {E : Emb} {h : List Blk} {w : World} {i : Nat} {cs cs' : List Seg} {sp sp' : Nat} (hi : h[i]? = some (.cells true cs sp)) {o : Nat} {vs : List Value}
    (hs : sizeS cs' + sp' = sizeS cs + sp) (ho : o + vs.length ≤ sizeS cs + sp) : Since E h w E (h.set i (.cells true cs' sp')) (w.setCells (E.f i).1 ((E.f i).2 + o) vs) := by
  have hlt : i < h.length := by
    rcases Nat.lt_or_ge i h.length with h' | h'
    · exact h'
    · rw [List.getElem?_eq_none h'] at hi; cases hi
  obtain ⟨e1, e2, e3⟩ := os_setCells (E.f i).1 vs ((E.f i).2 + o) w
  refine ⟨by simp, fun _ _ => rfl, by rw [size_setCells]; exact Nat.le_refl _, fun b hb hm => ?_, fun b x hb hm => ⟨?_, fun _ => World.frozen?_setCells _ _ _ _ _⟩, fun b x hm _ => ?_, e1, e2, e3, fun _ _ h => rowOk_setCells h⟩
  · cases vs with
    | nil => rfl
    | cons v r =>
      refine other_setCells _ _ _ _ _ (fun e => ?_)
      exact hm ((E.f i).2 + o) ⟨i, _, hi, rfl, e, by omega, by simp at ho; omega⟩
  · apply cell?_setCells_out
    simp only
    by_cases hbi : b = (E.f i).1
    · right
      have : ¬ ((E.f i).2 ≤ x ∧ x < (E.f i).2 + (sizeS cs + sp)) := fun hh => hm ⟨i, _, hi, rfl, hbi, hh.1, hh.2⟩
      omega
    · exact .inl hbi
  · obtain ⟨j, B, hj, hB, hc⟩ := hm
    by_cases hji : i = j
    · subst hji
      rw [List.getElem?_set_self hlt] at hj
      simp only [Option.some.injEq] at hj
      subst hj
      exact ⟨i, _, hi, rfl, by simpa only [cov, hs] using hc⟩
    · rw [List.getElem?_set_ne hji] at hj
      exact ⟨j, B, hj, hB, hc⟩

theorem Since.store {E : Emb} {h : List Blk} {w : World} {i : Nat} {cs cs' : List Seg} {sp : Nat} (hi : h[i]? = some (.cells true cs sp)) {o : Nat} {vs : List Value}
    (hs : sizeS cs' = sizeS cs) (ho : o + vs.length ≤ sizeS cs) : Since E h w E (h.set i (.cells true cs' sp)) (w.setCells (E.f i).1 ((E.f i).2 + o) vs) := Since.write hi (by omega) (by omega)

/-- A block is no longer looked at. -/
theorem Sim.drop {E : Emb} {h : List Blk} {w : World} (s : Sim E h w) (i : Nat) : Sim E (h.set i .dead) w := by
  have hc : ∀ {j : Nat} {B : Blk}, (h.set i Blk.dead)[j]? = some B → B = Blk.dead ∨ h[j]? = some B := fun {j B} hj => by
    by_cases hij : i = j
    · subst hij
      rw [List.getElem?_set] at hj
      simp only [if_true] at hj
      split at hj
      · simp only [Option.some.injEq] at hj; exact .inl hj.symm
      · cases hj
    · rw [List.getElem?_set_ne hij] at hj; exact .inr hj
  refine ⟨by simp [s.n], fun j B hj => ?_, fun j k A B hjk hj hk hA b o hcj => ?_⟩
  · rcases hc hj with rfl | hj
    · trivial
    · exact s.ok j B hj
  · rcases hc hj with rfl | hj
    · simp [Blk.mut] at hA
    · rcases hc hk with rfl | hk
      · intro h'; exact h'
      · exact s.dis j k A B hjk hj hk hA b o hcj

/-- A block's place gets one more number: the old number is no longer looked at. -/
theorem Sim.move {E : Emb} {h : List Blk} {w : World} (s : Sim E h w) {i : Nat} {N : Blk} (hi : h[i]? = some N) : Sim (E.push (E.f i)) (h.set i .dead ++ [N]) w := by
  have hlt : i < h.length := by
    rcases Nat.lt_or_ge i h.length with h' | h'
    · exact h'
    · rw [List.getElem?_eq_none h'] at hi; cases hi
  have hc : ∀ {j : Nat} {B : Blk}, (h.set i Blk.dead ++ [N])[j]? = some B → B = Blk.dead ∨ (h[j]? = some B ∧ (E.push (E.f i)).f j = E.f j ∧ j ≠ i) ∨ (j = h.length ∧ B = N ∧ (E.push (E.f i)).f j = E.f i) := fun {j B} hj => by
    rcases getElem?_push_cases hj with ⟨h1, h2⟩ | ⟨h1, h2⟩
    · simp only [List.length_set] at h2
      by_cases hij : i = j
      · subst hij
        rw [List.getElem?_set_self hlt] at h1
        simp only [Option.some.injEq] at h1
        exact .inl h1.symm
      · rw [List.getElem?_set_ne hij] at h1
        exact .inr (.inl ⟨h1, Emb.push_old _ _ (by rw [s.n]; exact h2), fun e => hij e.symm⟩)
    · simp only [List.length_set] at h1
      subst h1
      exact .inr (.inr ⟨rfl, h2, by rw [← s.n, Emb.push_new]⟩)
  refine ⟨by simp [Emb.push, s.n], fun j B hj => ?_, fun j k A B hjk hj hk hA b o hcj => ?_⟩
  · rcases hc hj with rfl | ⟨h1, h2, _⟩ | ⟨_, rfl, h2⟩
    · trivial
    · rw [h2]; exact okBlk_le (Emb.le_push _ _) (s.ok j B h1)
    · rw [h2]; exact okBlk_le (Emb.le_push _ _) (s.ok i _ hi)
  · rcases hc hj with rfl | ⟨h1, h2, h3⟩ | ⟨h1, rfl, h2⟩
    · simp [Blk.mut] at hA
    · rw [h2] at hcj
      rcases hc hk with rfl | ⟨k1, k2, _⟩ | ⟨_, rfl, k2⟩
      · intro h'; exact h'
      · rw [k2]; exact s.dis j k A B hjk h1 k1 hA b o hcj
      · rw [k2]; exact s.dis j i A _ h3 h1 hi hA b o hcj
    · rw [h2] at hcj
      rcases hc hk with rfl | ⟨k1, k2, k3⟩ | ⟨k1, rfl, k2⟩
      · intro h'; exact h'
      · rw [k2]; exact s.dis i k _ B (Ne.symm k3) hi k1 hA b o hcj
      · exact absurd (h1.trans k1.symm) hjk

theorem Since.move {E : Emb} {h : List Blk} {w : World} (s : Sim E h w) {i : Nat} {N : Blk} (hi : h[i]? = some N) : Since E h w (E.push (E.f i)) (h.set i .dead ++ [N]) w := by
  have hlt : i < h.length := by
    rcases Nat.lt_or_ge i h.length with h' | h'
    · exact h'
    · rw [List.getElem?_eq_none h'] at hi; cases hi
  refine ⟨by simp, fun j hj => Emb.push_old _ _ hj, Nat.le_refl _, fun _ _ _ => rfl, fun _ _ _ _ => ⟨rfl, fun _ => rfl⟩, fun b o hm _ => ?_, rfl, rfl, rfl, fun _ _ h => h⟩
  obtain ⟨j, B, hj, hB, hc⟩ := hm
  rcases getElem?_push_cases hj with ⟨h1, h2⟩ | ⟨h1, h2⟩
  · simp only [List.length_set] at h2
    by_cases hij : i = j
    · subst hij
      rw [List.getElem?_set_self hlt] at h1
      simp only [Option.some.injEq] at h1
      subst h1
      simp [Blk.mut] at hB
    · rw [List.getElem?_set_ne hij] at h1
      rw [Emb.push_old _ _ (by rw [s.n]; exact h2)] at hc
      exact ⟨j, B, h1, hB, hc⟩
  · simp only [List.length_set] at h1
    subst h1
    subst h2
    rw [← s.n, Emb.push_new] at hc
    exact ⟨i, _, hi, hB, hc⟩

theorem Since.drop {E : Emb} {h : List Blk} (w : World) (i : Nat) : Since E h w E (h.set i .dead) w := by
  refine ⟨by simp, fun _ _ => rfl, Nat.le_refl _, fun _ _ _ => rfl, fun _ _ _ _ => ⟨rfl, fun _ => rfl⟩, fun b o hm _ => ?_, rfl, rfl, rfl, fun _ _ h => h⟩
  obtain ⟨j, B, hj, hB, hc⟩ := hm
  by_cases hij : i = j
  · subst hij
    rw [List.getElem?_set] at hj
    simp only [if_true] at hj
    split at hj
    · simp only [Option.some.injEq] at hj; subst hj; simp [Blk.mut] at hB
    · cases hj
  · rw [List.getElem?_set_ne hij] at hj
    exact ⟨j, B, hj, hB, hc⟩

/-- Records seen as cells, and back. -/
theorem Sim.turn {E : Emb} {h : List Blk} {w : World} (s : Sim E h w) {i : Nat} {A B : Blk} (hi : h[i]? = some A) (hm : A.mut = B.mut) (hc : ∀ p b o, cov p A b o ↔ cov p B b o) (hok : okBlk E w (E.f i) A → okBlk E w (E.f i) B) : Sim E (h.set i B) w := by
  have hlt : i < h.length := by
    rcases Nat.lt_or_ge i h.length with h' | h'
    · exact h'
    · rw [List.getElem?_eq_none h'] at hi; cases hi
  have key : ∀ {j : Nat} {C : Blk}, (h.set i B)[j]? = some C → ∃ C', h[j]? = some C' ∧ C'.mut = C.mut ∧ (∀ p b o, cov p C' b o ↔ cov p C b o) ∧ (okBlk E w (E.f j) C' → okBlk E w (E.f j) C) := fun {j C} hj => by
    by_cases hij : i = j
    · subst hij
      rw [List.getElem?_set_self hlt] at hj
      simp only [Option.some.injEq] at hj
      subst hj
      exact ⟨A, hi, hm, hc, hok⟩
    · rw [List.getElem?_set_ne hij] at hj
      exact ⟨C, hj, rfl, fun _ _ _ => Iff.rfl, id⟩
  refine ⟨by simp [s.n], fun j C hj => ?_, fun j k C D hjk hj hk hC b o h1 h2 => ?_⟩
  · obtain ⟨C', k1, _, _, k4⟩ := key hj
    exact k4 (s.ok j C' k1)
  · obtain ⟨C', k1, k2, k3, _⟩ := key hj
    obtain ⟨D', j1, j2, j3, _⟩ := key hk
    exact s.dis j k C' D' hjk k1 j1 (by rw [k2]; exact hC) b o ((k3 _ _ _).2 h1) ((j3 _ _ _).2 h2)

theorem Since.turn {E : Emb} {h : List Blk} (w : World) {i : Nat} {A B : Blk} (hi : h[i]? = some A) (hm : A.mut = B.mut) (hc : ∀ p b o, cov p A b o ↔ cov p B b o) : Since E h w E (h.set i B) w := by
  have hlt : i < h.length := by
    rcases Nat.lt_or_ge i h.length with h' | h'
    · exact h'
    · rw [List.getElem?_eq_none h'] at hi; cases hi
  refine ⟨by simp, fun _ _ => rfl, Nat.le_refl _, fun _ _ _ => rfl, fun _ _ _ _ => ⟨rfl, fun _ => rfl⟩, fun b o hmt _ => ?_, rfl, rfl, rfl, fun _ _ h => h⟩
  obtain ⟨j, C, hj, hC, hcv⟩ := hmt
  by_cases hij : i = j
  · subst hij
    rw [List.getElem?_set_self hlt] at hj
    simp only [Option.some.injEq] at hj
    subst hj
    exact ⟨i, A, hi, by rw [hm]; exact hC, (hc _ _ _).2 hcv⟩
  · rw [List.getElem?_set_ne hij] at hj
    exact ⟨j, C, hj, hC, hcv⟩

/-- Looking into a block. -/
theorem Sim.look {E : Emb} {h : List Blk} {w : World} (s : Sim E h w) {i : Nat} {m : Bool} {cs : List Seg} {sp : Nat} (hi : h[i]? = some (.cells m cs sp)) :
    ∃ l, denS E cs l ∧ (∀ j v, l[j]? = some v → w.cell? ⟨(E.f i).1, (E.f i).2 + j, none⟩ = some v) ∧ i < E.n := by
  obtain ⟨_, ⟨l, h1, h2⟩, _⟩ := s.ok i _ hi
  refine ⟨l, h1, h2, ?_⟩
  rw [s.n]
  rcases Nat.lt_or_ge i h.length with h' | h'
  · exact h'
  · rw [List.getElem?_eq_none h'] at hi; cases hi

/-- Looking into a record. -/
theorem Sim.lookR {E : Emb} {h : List Blk} {w : World} (s : Sim E h w) {i : Nat} {m : Bool} {n z : Nat} {f : Nat → List SV} {sp : Nat} (hi : h[i]? = some (.recs m n z f sp)) {j : Nat} (hj : j < n) :
    ∃ l, denL E (f j) l ∧ l.length = z ∧ (∀ q v, l[q]? = some v → w.cell? ⟨(E.f i).1, (E.f i).2 + (j * z + q), none⟩ = some v) ∧ i < E.n := by
  obtain ⟨h0, _, ⟨l, h1, h2⟩, _⟩ := s.ok i _ hi
  refine ⟨(l.drop (j * z)).take z, recS_get h0 h1 j hj, ?_, fun q v hq => ?_, ?_⟩
  · have := denL_length (recS_get h0 h1 j hj)
    rw [this, h0 j hj]
  · rw [List.getElem?_take] at hq
    split at hq
    · rw [List.getElem?_drop] at hq
      exact h2 _ v hq
    · cases hq
  · rw [s.n]
    rcases Nat.lt_or_ge i h.length with h' | h'
    · exact h'
    · rw [List.getElem?_eq_none h'] at hi; cases hi

end Go.Anv

/- The engine, part 2b: '==' of structs and arrays of whole numbers and truth values. Plain lemmas; their condition: what the program's table says of the type. -/
namespace Go.Anv
open Go

/-- What a cell, or a run of cells, is. -/
inductive KS where
  | int (k : IntKind)
  | bool
  | arr (k : IntKind) (n : Nat)

def sizeK : List KS → Nat
  | [] => 0
  | .int _ :: r => sizeK r + 1
  | .bool :: r => sizeK r + 1
  | .arr _ n :: r => n + sizeK r

def fitV : List KS → List Value → Prop
  | [], l => l = []
  | .int k :: r, l => ∃ a l', l = .int k a :: l' ∧ fitV r l'
  | .bool :: r, l => ∃ b l', l = .bool b :: l' ∧ fitV r l'
  | .arr k n :: r, l => ∃ f l', l = intsOf k n f ++ l' ∧ fitV r l'

def cellsEq : List Value → List Value → Bool
  | [], [] => true
  | .int _ a :: r, .int _ b :: r' => (a == b) && cellsEq r r'
  | .bool a :: r, .bool b :: r' => (a == b) && cellsEq r r'
  | _, _ => false

theorem fitV_length : ∀ {ks : List KS} {l : List Value}, fitV ks l → l.length = sizeK ks
  | [], _, h => by simp only [fitV] at h; subst h; rfl
  | .int _ :: r, _, h => by simp only [fitV] at h; obtain ⟨a, l', rfl, h⟩ := h; simp [sizeK, fitV_length h]
  | .bool :: r, _, h => by simp only [fitV] at h; obtain ⟨a, l', rfl, h⟩ := h; simp [sizeK, fitV_length h]
  | .arr _ _ :: r, _, h => by simp only [fitV] at h; obtain ⟨a, l', rfl, h⟩ := h; simp [sizeK, fitV_length h, length_intsOf]

theorem sizeK_append : ∀ a b : List KS, sizeK (a ++ b) = sizeK a + sizeK b
  | [], b => by simp [sizeK]
  | .int _ :: r, b => by simp [sizeK, sizeK_append r b]; omega
  | .bool :: r, b => by simp [sizeK, sizeK_append r b]; omega
  | .arr _ _ :: r, b => by simp [sizeK, sizeK_append r b]; omega

theorem fitV_append : ∀ {a b : List KS} {l : List Value}, fitV (a ++ b) l → ∃ x y, l = x ++ y ∧ fitV a x ∧ fitV b y
  | [], b, l, h => ⟨[], l, rfl, rfl, h⟩
  | .int k :: r, b, l, h => by
    simp only [List.cons_append, fitV] at h
    obtain ⟨a, l', rfl, h⟩ := h
    obtain ⟨x, y, rfl, h1, h2⟩ := fitV_append h
    exact ⟨.int k a :: x, y, rfl, ⟨a, x, rfl, h1⟩, h2⟩
  | .bool :: r, b, l, h => by
    simp only [List.cons_append, fitV] at h
    obtain ⟨a, l', rfl, h⟩ := h
    obtain ⟨x, y, rfl, h1, h2⟩ := fitV_append h
    exact ⟨.bool a :: x, y, rfl, ⟨a, x, rfl, h1⟩, h2⟩
  | .arr k n :: r, b, l, h => by
    simp only [List.cons_append, fitV] at h
    obtain ⟨a, l', rfl, h⟩ := h
    obtain ⟨x, y, rfl, h1, h2⟩ := fitV_append h
    exact ⟨intsOf k n a ++ x, y, by simp, ⟨a, x, rfl, h1⟩, h2⟩

def plainV : Value → Bool
  | .int .. => true
  | .bool _ => true
  | _ => false

theorem cellsEq_append : ∀ {a b c d : List Value}, a.length = b.length → cellsEq (a ++ c) (b ++ d) = (cellsEq a b && cellsEq c d)
  | [], [], c, d, _ => by simp [cellsEq]
  | [], _ :: _, _, _, h => by simp at h
  | _ :: _, [], _, _, h => by simp at h
  | x :: a, y :: b, c, d, h => by
    have ih := cellsEq_append (a := a) (b := b) (c := c) (d := d) (by simpa using h)
    simp only [List.cons_append]
    cases x <;> cases y <;> simp only [cellsEq, ih, Bool.and_assoc, Bool.false_and]

theorem cellsEq_ints (k : IntKind) (n : Nat) (f g : Nat → Int) : cellsEq (intsOf k n f) (intsOf k n g) = (List.range n).all fun j => f j == g j := by
  unfold intsOf
  generalize List.range n = l
  induction l with
  | nil => rfl
  | cons x r ih => simp only [List.map_cons, cellsEq, List.all_cons, ih]

/-- The fields of a struct, one behind the other. -/
def PFn (R : TypeId → Bool → List KS → Prop) : Nat → List Field → List KS → Prop
  | _, [], ks => ks = []
  | o, f :: fs, ks => ∃ ag k1 k2, ks = k1 ++ k2 ∧ f.name ≠ "_" ∧ f.offset = o ∧ R f.type ag k1 ∧ PFn R (o + sizeK k1) fs k2

/-- A type of whole numbers and truth values alone; is it one of several cells? -/
def PTn (P : Program) : Nat → TypeId → Bool → List KS → Prop
  | 0, _, _, _ => False
  | n + 1, t, ag, ks => (∃ k, P.underlying t = some (.int k) ∧ ag = false ∧ ks = [.int k]) ∨ (P.underlying t = some .bool ∧ ag = false ∧ ks = [.bool]) ∨
      (∃ m e k, P.underlying t = some (.array m e) ∧ P.underlying e = some (.int k) ∧ (P.info? e).map (·.size) = some 1 ∧ (P.info? t).map (·.size) = some m ∧ ag = true ∧ ks = [.arr k m]) ∨
      (∃ fs, P.underlying t = some (.struct fs) ∧ P.stoodInHeld t = false ∧ (P.info? t).map (·.size) = some (sizeK ks) ∧ ag = true ∧ PFn (PTn P n) 0 fs.toList ks)

def mkV (ag : Bool) (l : List Value) : Value :=
  match ag, l with
  | true, l => .agg l.toArray
  | false, v :: _ => v
  | false, [] => .bool false

section
variable {P : Program}

theorem PTn.isAgg {n : Nat} {t : TypeId} {ag : Bool} {ks : List KS} (h : PTn P n t ag ks) (w : World) : (Go.isAgg t).run P w = .ok ag w := by
  cases n with
  | zero => exact h.elim
  | succ n =>
    unfold Go.isAgg
    rcases h with ⟨k, h, rfl, _⟩ | ⟨h, rfl, _⟩ | ⟨m, e, k, h, _, _, _, rfl, _⟩ | ⟨fs, h, _, _, rfl, _⟩ <;> simp [run_underlying h]

theorem PTn.size {n : Nat} {t : TypeId} {ks : List KS} (h : PTn P n t true ks) (w : World) : (sizeOf t).run P w = .ok (sizeK ks) w := by
  have key : ∀ {m : Nat}, (P.info? t).map (·.size) = some m → (sizeOf t).run P w = .ok m w := fun {m} h1 => by
    cases hq : P.info? t with
    | none => rw [hq] at h1; cases h1
    | some x =>
      rw [hq] at h1
      simp at h1
      simp [sizeOf, typeInfo, hq, h1]
  cases n with
  | zero => exact h.elim
  | succ n =>
    rcases h with ⟨k, h, h1, _⟩ | ⟨h, h1, _⟩ | ⟨m, e, k, h, _, _, hs, _, rfl⟩ | ⟨fs, h, _, hs, _, _⟩
    · cases h1
    · cases h1
    · simpa [sizeK] using key hs
    · exact key hs

theorem PTn.part {n : Nat} {t : TypeId} {ag : Bool} {ks : List KS} (h : PTn P n t ag ks) (w : World) {pre x post : List Value} (hx : fitV ks x) (xs : Array Value) (he : xs.toList = pre ++ (x ++ post)) :
    (Go.part t xs pre.length).run P w = .ok (mkV ag x) w := by
  have hag := h.isAgg w
  cases ag with
  | true =>
    have hsz := h.size w
    simp only [Go.part, Sem.run_bind, hag, Result.andThen_ok, if_true, hsz, Sem.run_pure, mkV]
    congr 2
    rw [← Array.toList_inj, Array.toList_extract, he, List.extract_eq_take_drop, List.drop_left, Nat.add_sub_cancel_left, ← fitV_length hx, List.take_left]
  | false =>
    have : ∃ v, x = [v] := by
      cases n with
      | zero => exact h.elim
      | succ n =>
        rcases h with ⟨k, h, h1, rfl⟩ | ⟨h, h1, rfl⟩ | ⟨m, e, k, h, _, _, hs, h1, rfl⟩ | ⟨fs, h, _, hs, h1, _⟩
        · obtain ⟨a, l', rfl, rfl⟩ := hx; exact ⟨_, rfl⟩
        · obtain ⟨a, l', rfl, rfl⟩ := hx; exact ⟨_, rfl⟩
        · cases h1
        · cases h1
    obtain ⟨v, rfl⟩ := this
    have hg : xs[pre.length]? = some v := by
      rw [← Array.getElem?_toList, he, List.getElem?_append_right (Nat.le_refl _)]
      simp
    simp [Go.part, hag, hg, mkV]

theorem PTn.eq : ∀ (n : Nat) {t : TypeId} {ag : Bool} {ks : List KS}, PTn P n t ag ks → ∀ {x y : List Value}, fitV ks x → fitV ks y → ∀ (d : Nat) (w : World), n < d → (Op.equalIn d t (mkV ag x) (mkV ag y)).run P w = .ok (cellsEq x y) w
  | 0, _, _, _, h, _, _, _, _, _, _, _ => h.elim
  | n + 1, t, ag, ks, h, x, y, hx, hy, 0, w, hd => by omega
  | n + 1, t, ag, ks, h, x, y, hx, hy, d + 1, w, hd => by
    rcases h with ⟨k, h, rfl, rfl⟩ | ⟨h, rfl, rfl⟩ | ⟨m, e, k, h, h1, h2, h3, rfl, rfl⟩ | ⟨fs, h, h1, h2, rfl, h3⟩
    · obtain ⟨a, _, rfl, rfl⟩ := hx
      obtain ⟨b, _, rfl, rfl⟩ := hy
      simp only [mkV, cellsEq, Bool.and_true]
      exact run_equalIn_int w d t k k a b h
    · obtain ⟨a, _, rfl, rfl⟩ := hx
      obtain ⟨b, _, rfl, rfl⟩ := hy
      simp only [mkV, cellsEq, Bool.and_true]
      exact run_equalIn_bool' w d t a b h
    · obtain ⟨f, _, rfl, rfl⟩ := hx
      obtain ⟨g, _, rfl, rfl⟩ := hy
      simp only [List.append_nil, mkV, cellsEq_ints]
      have heq : ∀ (a b : Int) (w : World), (Op.equalIn d e (.int k a) (.int k b)).run P w = .ok (a == b) w := fun a b w => by
        obtain ⟨d, rfl⟩ : ∃ d', d = d' + 1 := ⟨d - 1, by omega⟩
        exact run_equalIn_int w d e k k a b h1
      have hsz : ∀ w, (sizeOf e).run P w = .ok 1 w := fun w => by
        cases hq : P.info? e with
        | none => rw [hq] at h2; cases h2
        | some x =>
          rw [hq] at h2
          simp at h2
          simp [sizeOf, typeInfo, hq, h2]
      have hag : ∀ w, (Go.isAgg e).run P w = .ok false w := fun w => by
        unfold Go.isAgg
        simp [run_underlying h1]
      have hpart : ∀ (f : Nat → Int) (i : Nat) (w : World), i < m → (Go.part e (intsOf k m f).toArray (i * 1)).run P w = .ok (.int k (f i)) w := fun f i w hi => by
        have hg : (intsOf k m f).toArray[i]? = some (.int k (f i)) := by simpa using intsOf_get hi
        simp [Go.part, hag, hg]
      simp only [Op.equalIn, Sem.run_bind, run_underlying h, Result.andThen_ok, hsz]
      rw [Std.Legacy.Range.forIn_eq_forIn_range']
      have loop : ∀ (c i : Nat) (w : World), i + c = m → (Sem.run P (forIn (List.range' i c 1) (none, PUnit.unit) fun i r => do
            if (!(← Op.equalIn d e (← Go.part e (intsOf k m f).toArray (i * 1)) (← Go.part e (intsOf k m g).toArray (i * 1)))) = true then pure (ForInStep.done (some false, PUnit.unit))
            else pure (ForInStep.yield (none, PUnit.unit))) w) =
          .ok (if (List.range' i c).all (fun j => f j == g j) then (none, PUnit.unit) else (some false, PUnit.unit)) w := by
        intro c
        induction c with
        | zero => intro i w _; simp
        | succ c ih =>
          intro i w hi
          have he := heq (f i) (g i) w
          rw [List.range'_succ, List.forIn_cons]
          simp only [Sem.run_bind, hpart f i _ (by omega), hpart g i _ (by omega), Result.andThen_ok, he]
          by_cases hfg : f i = g i
          · have hb : (f i == g i) = true := by simpa using hfg
            simp only [hb, Bool.not_true, Bool.false_eq_true, if_false, Sem.run_pure, Result.andThen_ok, List.all_cons, Bool.true_and]
            exact ih (i + 1) w (by omega)
          · have hb : (f i == g i) = false := by simpa using hfg
            simp only [hb, Bool.not_false, if_true, Sem.run_pure, Result.andThen_ok, List.all_cons, Bool.false_and, Bool.false_eq_true, if_false]
      have h4 := loop m 0 w (by omega)
      have h5 : [:m].size = m := by simp [Std.Legacy.Range.size]
      rw [h5]
      refine (congrArg (fun r => Result.andThen r _) h4).trans ?_
      rw [List.range_eq_range']
      cases hall : (List.range' 0 m).all (fun j => f j == g j) <;> simp
    · have hft : P.fieldsOf t = fs := by simp [Program.fieldsOf, h]
      have key : ∀ (fs : List Field) (o : Nat) (ks : List KS) (px py x y : List Value), PFn (PTn P n) o fs ks → fitV ks x → fitV ks y → px.length = o → py.length = o → ∀ xs ys : Array Value, xs.toList = px ++ x → ys.toList = py ++ y →
          ∀ w, (Op.eqFields d xs ys fs).run P w = .ok (cellsEq x y) w := by
        intro fs
        induction fs with
        | nil =>
          intro o ks px py x y hf hx hy _ _ xs ys _ _ w
          simp only [PFn] at hf
          subst hf
          simp only [fitV] at hx hy
          subst hx hy
          simp [Op.eqFields, cellsEq]
        | cons f fs ih =>
          intro o ks px py x y hf hx hy hpx hpy xs ys hxs hys w
          simp only [PFn] at hf
          obtain ⟨ag, k1, k2, rfl, hn, ho, ht, hf⟩ := hf
          obtain ⟨x1, x2, rfl, hx1, hx2⟩ := fitV_append hx
          obtain ⟨y1, y2, rfl, hy1, hy2⟩ := fitV_append hy
          have p1 := ht.part w hx1 xs hxs
          have p2 := ht.part w hy1 ys hys
          have he := PTn.eq n ht hx1 hy1 d w (by omega)
          rw [hpx] at p1
          rw [hpy] at p2
          have l1 := fitV_length hx1
          have l2 := fitV_length hy1
          have hrest := ih (o + sizeK k1) k2 (px ++ x1) (py ++ y1) x2 y2 hf hx2 hy2 (by simp [hpx, l1]) (by simp [hpy, l2]) xs ys (by simpa using hxs) (by simpa using hys) w
          rw [cellsEq_append (by rw [l1, l2])]
          simp only [Op.eqFields, if_pos hn, Sem.run_bind, ho, p1, p2, Result.andThen_ok, he]
          cases hc : cellsEq x1 y1 with
          | true => simpa using hrest
          | false => simp
      simp only [mkV]
      rw [run_equalIn_struct (P := P) w d t _ _ (by rw [hft]; exact h) h1, hft]
      exact key fs.toList 0 ks [] [] x y h3 hx hy rfl rfl _ _ rfl rfl w

end

end Go.Anv

/- The engine, part 3: how a piece of code is walked over a small world: the walker 'wpx' says what is left to be shown. Definitions alone. -/
namespace Go.Anv
open Go

/-! ### types -/

inductive TD where
  | int (k : IntKind)
  | bool
  | str
  | ptr (e : TypeId)
  | slice (e : TypeId)
  | array (n : Nat) (e : TypeId)
  | struct (fs : List (TypeId × Nat))
  | map (k e : TypeId)
  | iface
  | other
  | uptr

structure TI where
  d : TD
  size : Nat
  bytes : Nat
  zero : EV

def TD.agg : TD → Bool
  | .array .. => true
  | .struct _ => true
  | _ => false

def descOk (P : Program) (t : TypeId) : TD → Prop
  | .int k => P.underlying t = some (.int k)
  | .bool => P.underlying t = some .bool
  | .str => P.underlying t = some .string
  | .ptr e => P.underlying t = some (.pointer e)
  | .slice e => P.underlying t = some (.slice e)
  | .array n e => P.underlying t = some (.array n e)
  | .struct fs => ∃ a, P.underlying t = some (.struct a) ∧ a.toList.map (fun f => (f.type, f.offset)) = fs
  | .map k e => P.underlying t = some (.map k e)
  | .iface => ∃ ms, P.underlying t = some (.interface ms)
  | .uptr => P.underlying t = some .unsafePointer
  | .other => ∃ ps rs v, P.underlying t = some (.func ps rs v)

/-- A value without addresses, written out. -/
def valV : SV → Option Value
  | .int k n => some (.int k n)
  | .bool b => some (.bool b)
  | .str s => some (.string s)
  | .nilptr => some (.pointer none)
  | .nilslice => some (.slice none 0 0)
  | .nilmap => some (.map none)
  | .nilfunc => some .nilFunc
  | .niliface => some .nilIface
  | _ => none

def valS : List Seg → Option (List Value)
  | [] => some []
  | .one v :: r => match valV v, valS r with
    | some x, some l => some (x :: l)
    | _, _ => none
  | .ints k n f :: r => match valS r with
    | some l => some (intsOf k n f ++ l)
    | none => none

def valE : EV → Option Value
  | .s v => valV v
  | .agg cs => match valS cs with
    | some l => some (.agg l.toArray)
    | none => none
  | _ => none

structure TIok (P : Program) (t : TypeId) (i : TI) : Prop where
  desc : descOk P t i.d
  size : (P.info? t).map (·.size) = some i.size
  bytes : (P.info? t).map (·.bytes) = some i.bytes
  zero : ∃ z, valE i.zero = some z ∧ (P.info? t).bind (·.zero) = some z

def sameK : IntKind → IntKind → Bool
  | .i8, .i8 | .i16, .i16 | .i32, .i32 | .i64, .i64 | .u8, .u8 | .u16, .u16 | .u32, .u32 | .u64, .u64 => true
  | _, _ => false

/-- Cell by cell: are they the same? none: not to be told. -/
def eqCells : List Value → List Value → Option Bool
  | [], [] => some true
  | .int k a :: r, .int k' b :: r' => if sameK k k' then (eqCells r r').map ((a == b) && ·) else none
  | .bool a :: r, .bool b :: r' => (eqCells r r').map ((a == b) && ·)
  | _, _ => none

/-- What the walker knows of a program: its types; its methods by name; which types are compared cell by cell. -/
structure Tbl where
  P : Program
  ty : TypeId → Option TI
  mth : TypeId → String → Option FuncId
  eqs : TypeId → Option (List KS)
  mixed : P.follows .mixedOrders = true
  tyOk : ∀ t i, ty t = some i → TIok P t i
  eqOk : ∀ t ks, eqs t = some ks → P.eqGuardType P.depth t = false ∧ ∃ n, n < 10000 ∧ PTn P n t true ks
  mthOk : ∀ t s f, mth t s = some f → ∀ a w, (method (P.types.size + Made.depth) t (.pointer (some a)) s).run P w = .ok (f, .pointer (some a)) w ∧ (nilAhead (P.types.size + Made.depth) t (.pointer (some a)) s).run P w = .ok (some false) w

/-- A table of types, sixteen a row. -/
def rowT : List (List (Option TI)) → Nat → List (Option TI)
  | [], _ => []
  | x :: _, 0 => x
  | _ :: r, n + 1 => rowT r n

def colT : List (Option TI) → Nat → Option TI
  | [], _ => none
  | x :: _, 0 => x
  | _ :: r, n + 1 => colT r n

def tblT (l : List (List (Option TI))) (t : TypeId) : Option TI := colT (rowT l (t / 16)) (t % 16)

def okC (P : Program) : Nat → List (Option TI) → Prop
  | _, [] => True
  | t, none :: r => okC P (t + 1) r
  | t, some i :: r => TIok P t i ∧ okC P (t + 1) r

def okR (P : Program) : Nat → List (List (Option TI)) → Prop
  | _, [] => True
  | n, x :: r => okC P (16 * n) x ∧ okR P (n + 1) r

theorem okC_get {P : Program} : ∀ {l : List (Option TI)} {t j : Nat} {i : TI}, okC P t l → colT l j = some i → TIok P (t + j) i
  | [], _, _, _, _, h => by simp [colT] at h
  | none :: _, _, 0, _, _, h => by simp [colT] at h
  | some x :: _, _, 0, _, h1, h => by simp only [colT, Option.some.injEq] at h; subst h; exact h1.1
  | none :: r, t, j + 1, i, h1, h => by
    have := okC_get (l := r) (t := t + 1) (j := j) (i := i) h1 h
    rwa [show t + (j + 1) = t + 1 + j by omega]
  | some x :: r, t, j + 1, i, h1, h => by
    have := okC_get (l := r) (t := t + 1) (j := j) (i := i) h1.2 h
    rwa [show t + (j + 1) = t + 1 + j by omega]

theorem okR_get {P : Program} : ∀ {l : List (List (Option TI))} {n q j : Nat} {i : TI}, okR P n l → colT (rowT l q) j = some i → TIok P (16 * (n + q) + j) i
  | [], _, _, _, _, _, h => by simp [rowT, colT] at h
  | x :: _, n, 0, j, i, h1, h => okC_get h1.1 h
  | _ :: r, n, q + 1, j, i, h1, h => by
    have := okR_get (l := r) (n := n + 1) (q := q) (j := j) (i := i) h1.2 h
    rwa [show n + (q + 1) = n + 1 + q by omega]

theorem tblT_ok {P : Program} {l : List (List (Option TI))} (h : okR P 0 l) (t : TypeId) (i : TI) (ht : tblT l t = some i) : TIok P t i := by
  have := okR_get h ht
  rwa [Nat.zero_add, Nat.div_add_mod] at this

/-- Which types are compared cell by cell. -/
def eqL : List (Nat × List KS) → TypeId → Option (List KS)
  | [], _ => none
  | (u, ks) :: r, t => bif Nat.beq u t then some ks else eqL r t

def okE (P : Program) : List (Nat × List KS) → Prop
  | [] => True
  | (u, ks) :: r => (P.eqGuardType P.depth u = false ∧ ∃ n, n < 10000 ∧ PTn P n u true ks) ∧ okE P r

theorem eqL_ok {P : Program} : ∀ {l : List (Nat × List KS)}, okE P l → ∀ t ks, eqL l t = some ks → P.eqGuardType P.depth t = false ∧ ∃ n, n < 10000 ∧ PTn P n t true ks
  | [], _, _, _, h => by simp [eqL] at h
  | (u, k) :: r, ho, t, ks, h => by
    simp only [eqL] at h
    cases hb : Nat.beq u t with
    | true =>
      rw [hb] at h
      have := Nat.eq_of_beq_eq_true hb
      subst this
      simp only [cond_true, Option.some.injEq] at h
      subst h
      exact ho.1
    | false =>
      rw [hb] at h
      exact eqL_ok ho.2 t ks h

/-- Methods by type and name: which function. -/
def nameL : List (String × FuncId) → String → Option FuncId
  | [], _ => none
  | (n, f) :: r, s => if n = s then some f else nameL r s

def mthL : List (Nat × List (String × FuncId)) → TypeId → String → Option FuncId
  | [], _, _ => none
  | (u, l) :: r, t, s => bif Nat.beq u t then nameL l s else mthL r t s

def okN (P : Program) (t : TypeId) : List (String × FuncId) → Prop
  | [] => True
  | (n, f) :: r => (∃ m, (P.info? t).bind (fun i => i.methods.find? (·.name == n)) = some m ∧ m.path.toList = [] ∧ m.func = some (f, true)) ∧ okN P t r

def okM (P : Program) : List (Nat × List (String × FuncId)) → Prop
  | [] => True
  | (t, l) :: r => ((∃ e, P.underlying t = some (.pointer e)) ∧ okN P t l) ∧ okM P r

theorem nameL_ok {P : Program} {t : TypeId} : ∀ {l : List (String × FuncId)}, okN P t l → ∀ s f, nameL l s = some f → ∃ m, (P.info? t).bind (fun i => i.methods.find? (·.name == s)) = some m ∧ m.path.toList = [] ∧ m.func = some (f, true)
  | [], _, _, _, h => by simp [nameL] at h
  | (n, f) :: r, ho, s, g, h => by
    simp only [nameL] at h
    split at h
    · rename_i hn
      subst hn
      simp only [Option.some.injEq] at h
      subst h
      exact ho.1
    · exact nameL_ok ho.2 s g h

theorem mthL_ok {P : Program} : ∀ {l : List (Nat × List (String × FuncId))}, okM P l → ∀ t s f, mthL l t s = some f → ∀ a w, (method (P.types.size + Made.depth) t (.pointer (some a)) s).run P w = .ok (f, .pointer (some a)) w ∧ (nilAhead (P.types.size + Made.depth) t (.pointer (some a)) s).run P w = .ok (some false) w
  | [], _, _, _, _, h => by simp [mthL] at h
  | (u, l) :: r, ho, t, s, f, h => by
    simp only [mthL] at h
    cases hb : Nat.beq u t with
    | true =>
      rw [hb] at h
      have := Nat.eq_of_beq_eq_true hb
      subst this
      simp only [cond_true] at h
      obtain ⟨⟨e, hu⟩, hn⟩ := ho.1
      obtain ⟨m, h1, h2, h3⟩ := nameL_ok hn s f h
      intro a w
      obtain ⟨i, hi, hm⟩ := Option.bind_eq_some_iff.1 h1
      show (method ((P.types.size + 99) + 1) u (.pointer (some a)) s).run P w = _ ∧ (nilAhead ((P.types.size + 99) + 1) u (.pointer (some a)) s).run P w = _
      generalize P.types.size + 99 = N
      constructor
      · simp only [method, typeInfo, Sem.run_bind, run_program, Result.andThen_ok, hi, hm, h2, follow, Sem.run_pure, h3, receiverAt, run_underlying hu, Place.get]
      · simp only [nilAhead, typeInfo, Sem.run_bind, run_program, Result.andThen_ok, hi, hm, h2, followBlind, Sem.run_pure, h3]
    | false =>
      rw [hb] at h
      exact mthL_ok ho.2 t s f h

/-! ### states -/

structure St where
  tmps : List EV
  heap : List Blk

def nth : List EV → Nat → EV
  | [], _ => .junk
  | x :: _, 0 => x
  | _ :: r, n + 1 => nth r n

def upd : List EV → Nat → EV → List EV
  | [], _, _ => []
  | _ :: r, 0, v => v :: r
  | x :: r, n + 1, v => x :: upd r n v

def updB : List Blk → Nat → Blk → List Blk
  | [], _, _ => []
  | _ :: r, 0, v => v :: r
  | x :: r, n + 1, v => x :: updB r n v

def nthB : List Blk → Nat → Option Blk
  | [], _ => none
  | x :: _, 0 => some x
  | _ :: r, n + 1 => nthB r n

def St.put (s : St) (dst : Option Tmp) (v : EV) : St :=
  match dst with
  | some d => { s with tmps := upd s.tmps d v }
  | none => s

def constV : Value → Option SV
  | .bool b => some (.bool b)
  | .int k n => some (.int k n)
  | .string s => some (.str s)
  | .pointer none => some .nilptr
  | .slice none 0 0 => some .nilslice
  | .map none => some .nilmap
  | .nilFunc => some .nilfunc
  | .nilIface => some .niliface
  | _ => none

def evT (ts : List EV) : Operand → EV
  | .tmp t => nth ts t
  | .const v => match constV v with
    | some e => .s e
    | none => .junk
  | .global _ => .junk
  | .func f => .s (.func (.func f) [] [])

def St.ev (s : St) (x : Operand) : EV := evT s.tmps x

/-! ### operations without effect -/

inductive PR where
  | fail
  | ok (v : EV)
  | need (p : Prop) (v : EV)

def bitX (op : BinOp) (k : IntKind) (x y : Int) : Int :=
  let a := BitVec.ofInt k.bits x
  let b := BitVec.ofInt k.bits y
  k.wrap (match op with
    | .and => (a &&& b).toNat
    | .or => (a ||| b).toNat
    | .xor => (a ^^^ b).toNat
    | _ => (a &&& ~~~b).toNat)

def intX (op : BinOp) (k : IntKind) (a b : Int) : PR :=
  match op with
  | .add => .ok (.s (.int k (k.wrap (a + b))))
  | .sub => .ok (.s (.int k (k.wrap (a - b))))
  | .mul => .ok (.s (.int k (k.wrap (a * b))))
  | .quo => .need (b ≠ 0) (.s (.int k (k.wrap (a.tdiv b))))
  | .rem => .need (b ≠ 0) (.s (.int k (a.tmod b)))
  | .and => .ok (.s (.int k (bitX .and k a b)))
  | .or => .ok (.s (.int k (bitX .or k a b)))
  | .xor => .ok (.s (.int k (bitX .xor k a b)))
  | .andNot => .ok (.s (.int k (bitX .andNot k a b)))
  | .eql => .ok (.s (.bool (a == b)))
  | .neq => .ok (.s (.bool (a != b)))
  | .lss => .ok (.s (.bool (decide (a < b))))
  | .leq => .ok (.s (.bool (decide (a ≤ b))))
  | .gtr => .ok (.s (.bool (decide (a > b))))
  | .geq => .ok (.s (.bool (decide (a ≥ b))))
  | _ => .fail

/-- Are these cells such as a type has? -/
def fitS : List KS → List Seg → Bool
  | [], [] => true
  | .int k :: r, .one (.int k' _) :: s => sameK k k' && fitS r s
  | .bool :: r, .one (.bool _) :: s => fitS r s
  | .arr k n :: r, .ints k' m _ :: s => (sameK k k' && Nat.beq n m) && fitS r s
  | _, _ => false

/-- Cell by cell: are they the same? none: not to be told. -/
def eqSeg : List Seg → List Seg → Option Bool
  | [], [] => some true
  | .one (.int k a) :: r, .one (.int k' b) :: r' => if sameK k k' then (eqSeg r r').map ((a == b) && ·) else none
  | .one (.bool a) :: r, .one (.bool b) :: r' => (eqSeg r r').map ((a == b) && ·)
  | .ints k n f :: r, .ints k' m g :: r' => if sameK k k' && n == m then (eqSeg r r').map (((List.range n).all fun j => f j == g j) && ·) else none
  | _, _ => none

def binX (T : Tbl) (op : BinOp) (t : TypeId) (x y : EV) : PR :=
  match x, y with
  | .s (.int k a), .s (.int k' b) =>
    match op with
    | .shl => .need (0 ≤ b) (.s (.int k (k.wrap (a * 2 ^ (min b.toNat k.bits)))))
    | .shr => .need (0 ≤ b) (.s (.int k (a.fdiv (2 ^ (min b.toNat k.bits)))))
    | op => if sameK k k' then intX op k a b else .fail
  | .s (.bool a), .s (.bool b) =>
    match op, T.ty t with
    | .eql, some { d := .bool, .. } => .ok (.s (.bool (a == b)))
    | .neq, some { d := .bool, .. } => .ok (.s (.bool (!(a == b))))
    | _, _ => .fail
  | .s (.str a), .s (.str b) =>
    match op with
    | .eql => .ok (.s (.bool (a == b)))
    | .neq => .ok (.s (.bool (a != b)))
    | .add => .need (a.size + b.size ≤ 9223372036854775807) (.s (.str (a ++ b)))
    | _ => .fail
  | .agg a, .agg b =>
    match T.eqs t with
    | some ks => match fitS ks a && fitS ks b, op, eqSeg a b with
      | true, .eql, some r => .ok (.s (.bool r))
      | true, .neq, some r => .ok (.s (.bool (!r)))
      | _, _, _ => .fail
    | none => .fail
  | .s (.ptr _ _), .s .nilptr =>
    match op, T.ty t with
    | .eql, some { d := .ptr _, .. } => .ok (.s (.bool false))
    | .neq, some { d := .ptr _, .. } => .ok (.s (.bool true))
    | _, _ => .fail
  | .s .nilptr, .s .nilptr =>
    match op, T.ty t with
    | .eql, some { d := .ptr _, .. } => .ok (.s (.bool true))
    | .neq, some { d := .ptr _, .. } => .ok (.s (.bool false))
    | _, _ => .fail
  | .s (.slice _ _ _ _), .s .nilslice =>
    match op, T.ty t with
    | .eql, some { d := .slice _, .. } => .ok (.s (.bool false))
    | .neq, some { d := .slice _, .. } => .ok (.s (.bool true))
    | _, _ => .fail
  | .s .nilslice, .s .nilslice =>
    match op, T.ty t with
    | .eql, some { d := .slice _, .. } => .ok (.s (.bool true))
    | .neq, some { d := .slice _, .. } => .ok (.s (.bool false))
    | _, _ => .fail
  | .s (.func _ _ _), .s .nilfunc =>
    match op, T.ty t with
    | .eql, some { d := .other, .. } => .ok (.s (.bool false))
    | .neq, some { d := .other, .. } => .ok (.s (.bool true))
    | _, _ => .fail
  | .s .nilfunc, .s .nilfunc =>
    match op, T.ty t with
    | .eql, some { d := .other, .. } => .ok (.s (.bool true))
    | .neq, some { d := .other, .. } => .ok (.s (.bool false))
    | _, _ => .fail
  | _, _ => .fail

def cnst : Operand → Bool
  | .const _ => true
  | _ => false

/-- Of two values of an interface type, one of them nil. 'c': one is written out. -/
def binY (T : Tbl) (c : Bool) (op : BinOp) (t : TypeId) (x y : EV) : PR :=
  match x, y with
  | .s (.iface _ _ _), .s .niliface =>
    match op, T.ty t with
    | .eql, some { d := .iface, .. } => .ok (.s (.bool false))
    | .neq, some { d := .iface, .. } => .ok (.s (.bool true))
    | _, _ => .fail
  | .s .niliface, .s .niliface =>
    match op, T.ty t, c with
    | .eql, some { d := .iface, .. }, true => .ok (.s (.bool true))
    | .neq, some { d := .iface, .. }, true => .ok (.s (.bool false))
    | _, _, _ => .fail
  | x, y => binX T op t x y

def unX (op : UnOp) (x : EV) : PR :=
  match op, x with
  | .not, .s (.bool b) => .ok (.s (.bool (!b)))
  | .neg, .s (.int k n) => .ok (.s (.int k (k.wrap (0 - n))))
  | .xor, .s (.int k n) => .ok (.s (.int k (bitX .xor k (if k.signed then -1 else k.max) n)))
  | _, _ => .fail

/-- What a slice or a string yields, element by element: under which condition, how many, the cells. -/
structure Rng where
  p : Prop
  n : Nat
  cs : List Seg

def strF (s : ByteArray) (j : Nat) : Int := (((s.data.toList.map UInt8.toNat).getD j 0 : Nat) : Int)

def shf (o : Nat) (f : Nat → Int) (j : Nat) : Int := f (o + j)

def rngAt (h : List Blk) (size b o n : Nat) : Option Rng :=
  match nthB h b with
  | some (.cells _ [.ints k m f] _) => match size with
    | 1 => some ⟨o + n ≤ m, n, [.ints k n (shf o f)]⟩
    | _ => none
  | some (.cells _ cs _) => match o with
    | 0 => some ⟨sizeS cs = n * size, n, cs⟩
    | _ => none
  | _ => none

def rngX (h : List Blk) (size : Nat) : EV → Option Rng
  | .s .nilslice => some ⟨True, 0, []⟩
  | .s (.str s) => match size with
    | 1 => some ⟨True, s.size, [.ints .u8 s.size (strF s)]⟩
    | _ => none
  | .s (.slice b o n _) => rngAt h size b o n
  | .s (.gs b o n _) => rngAt h size b o n
  | _ => none

def isStr : EV → Bool
  | .s (.str _) => true
  | _ => false

/-- The string of some bytes. -/
def bytesOf (n : Nat) (f : Nat → Int) : ByteArray := ((List.range n).map f).foldl (fun r x => r.push (UInt8.ofNat x.toNat)) ByteArray.empty

def convX (T : Tbl) (h : List Blk) (src dst : TypeId) (x : EV) : PR :=
  match T.ty src, T.ty dst with
  | some { d := .int _, .. }, some { d := .int k, .. } => match x with
    | .s (.int _ n) => .ok (.s (.int k (k.wrap n)))
    | _ => .fail
  | some { d := .slice e, .. }, some { d := .str, .. } => match T.ty e with
    | some { d := .int .u8, .. } => match isStr x, rngX h 1 x with
      | false, some ⟨p, n, []⟩ => .need (p ∧ n = 0) (.s (.str ByteArray.empty))
      | false, some ⟨p, n, [.ints .u8 _ f]⟩ => .need p (.s (.str (bytesOf n f)))
      | _, _ => .fail
    | _ => .fail
  | _, _ => .fail

def boundX : Option EV → Nat → Option Int
  | none, d => some d
  | some (.s (.int _ i)), _ => some i
  | _, _ => none

def skip (m l o size : Nat) : Nat := if m = l then o else o + l * size

/-- A slice of a slice, its room told. -/
def sliceMX (T : Tbl) (t : TypeId) (x : EV) (lo hi : Option EV) (mx : EV) : PR :=
  match mx, hi with
  | .s (.int _ m), some (.s (.int _ h)) => match T.ty t, x with
    | some { d := .slice e, .. }, .s (.slice b o _ c) => match T.ty e, boundX lo 0 with
      | some te, some l => .need (0 ≤ l ∧ l ≤ h ∧ h ≤ m ∧ m ≤ c) (.s (.slice b (skip m.toNat l.toNat o te.size) (h.toNat - l.toNat) (m.toNat - l.toNat)))
      | _, _ => .fail
    | some { d := .slice e, .. }, .s (.gs b o _ c) => match T.ty e, boundX lo 0 with
      | some te, some l => .need (0 ≤ l ∧ l ≤ h ∧ h ≤ m ∧ m ≤ c) (.s (.gs b (skip m.toNat l.toNat o te.size) (h.toNat - l.toNat) (m.toNat - l.toNat)))
      | _, _ => .fail
    | _, _ => .fail
  | _, _ => .fail

/-- A slice of a slice or of a string. -/
def sliceX (T : Tbl) (t : TypeId) (x : EV) (lo hi mx : Option EV) : PR :=
  match mx with
  | some m => sliceMX T t x lo hi m
  | none => match T.ty t, x with
    | some { d := .str, .. }, .s (.str s) => match boundX lo 0, boundX hi s.size with
      | some l, some h => .need (0 ≤ l ∧ l ≤ h ∧ h ≤ s.size) (.s (.str (s.extract l.toNat h.toNat)))
      | _, _ => .fail
    | some { d := .slice e, .. }, .s (.slice b o n c) => match T.ty e, boundX lo 0, boundX hi n with
      | some te, some l, some h => .need (0 ≤ l ∧ l ≤ h ∧ h ≤ c) (.s (.slice b (skip c l.toNat o te.size) (h.toNat - l.toNat) (c - l.toNat)))
      | _, _, _ => .fail
    | some { d := .slice e, .. }, .s (.gs b o n c) => match T.ty e, boundX lo 0, boundX hi n with
      | some te, some l, some h => .need (0 ≤ l ∧ l ≤ h ∧ h ≤ c) (.s (.gs b (skip c l.toNat o te.size) (h.toNat - l.toNat) (c - l.toNat)))
      | _, _, _ => .fail
    | _, _ => .fail

/-- A pick of two values that are there (or would be, were they asked for). -/
def pickX (t : Bool) (a b : EV) : PR :=
  match a, b with
  | .s (.bool x), .s (.bool y) => .ok (.s (.bool (bif t then x else y)))
  | .gd g (.s (.bool x)), .s (.bool y) => .need (t = true → g = true) (.s (.bool (bif t then x else y)))
  | .s (.bool x), .gd g (.s (.bool y)) => .need (t = false → g = true) (.s (.bool (bif t then x else y)))
  | .s (.int k x), .s (.int k' y) => if sameK k k' then .ok (.s (.int k (bif t then x else y))) else .fail
  | .gd g (.s (.int k x)), .s (.int k' y) => if sameK k k' then .need (t = true → g = true) (.s (.int k (bif t then x else y))) else .fail
  | .s (.int k x), .gd g (.s (.int k' y)) => if sameK k k' then .need (t = false → g = true) (.s (.int k (bif t then x else y))) else .fail
  | .junk, .s (.bool y) => .need (t = false) (.s (.bool y))
  | .s (.bool x), .junk => .need (t = true) (.s (.bool x))
  | .junk, .s (.int k y) => .need (t = false) (.s (.int k y))
  | .s (.int k x), .junk => .need (t = true) (.s (.int k x))
  | _, _ => .fail

def fieldOf : List (TypeId × Nat) → Nat → Option (TypeId × Nat)
  | [], _ => none
  | x :: _, 0 => some x
  | _ :: r, n + 1 => fieldOf r n

/-- The address of a field. -/
def fieldAddrX (T : Tbl) (t : TypeId) (x : EV) (i : Nat) : PR :=
  match T.ty t with
  | some { d := .struct fs, .. } =>
    match fieldOf fs i with
    | some (ft, off) =>
      match T.ty ft with
      | some { size := _ + 1, .. } =>
        match x with
        | .s (.ptr b o) => .ok (.s (.ptr b (o + off)))
        | .s (.pix b o j) => if off = 0 then .ok (.s (.pix b o j)) else .fail
        | .s (.rp b o j z) => .ok (.s (.rp b (o + off) j z))
        | _ => .fail
      | _ => .fail
    | none => .fail
  | _ => .fail

/-- Part of a struct's or an array's cells. -/
def partX (T : Tbl) (t : TypeId) (cs : List Seg) (off : Nat) : PR :=
  match T.ty t with
  | some i => if i.d.agg then
      match dropS cs off with
      | some r => match takeS r i.size with
        | some c => .ok (.agg c)
        | none => .fail
      | none => .fail
    else match getS cs off with
      | some v => .ok (.s v)
      | none => .fail
  | none => .fail

def fieldX (T : Tbl) (t : TypeId) (x : EV) (i : Nat) : PR :=
  match T.ty t, x with
  | some { d := .struct fs, .. }, .agg cs =>
    match fieldOf fs i with
    | some (ft, off) => partX T ft cs off
    | none => .fail
  | _, _ => .fail

/-- The address of an element. -/
def indexAddrX (T : Tbl) (h : List Blk) (t : TypeId) (x i : EV) : PR :=
  match T.ty t, x, i with
  | some { d := .array n e, .. }, .s (.ptr b o), .s (.int _ i) =>
    match T.ty e, nthB h b with
    | some te, some (.cells _ cs _) =>
      match getI cs o with
      | some (_, _, _) => if te.size = 1 then .need (0 ≤ i ∧ i < n) (.s (.pix b o i.toNat)) else .fail
      | none => .need (0 ≤ i ∧ i < n) (.s (.ptr b (o + i.toNat * te.size)))
    | _, _ => .fail
  | some { d := .slice e, .. }, .s (.slice b o len _), .s (.int _ i) =>
    match T.ty e, nthB h b with
    | some te, some (.cells _ cs _) =>
      match getI cs 0 with
      | some (_, _, _) => if te.size = 1 then .need (0 ≤ i ∧ i < len) (.s (.pix b 0 (o + i.toNat))) else .fail
      | none => .need (0 ≤ i ∧ i < len) (.s (.ptr b (o + i.toNat * te.size)))
    | some te, some (.recs _ _ z _ _) =>
      match o, Nat.beq te.size z with
      | 0, true => .need (0 ≤ i ∧ i < len) (.s (.rp b 0 i.toNat z))
      | _, _ => .fail
    | _, _ => .fail
  | some { d := .slice e, .. }, .s (.gs b o len _), .s (.int _ i) =>
    match T.ty e, nthB h b with
    | some te, some (.cells _ cs _) =>
      match getI cs 0 with
      | some (_, _, _) => if te.size = 1 then .need (0 ≤ i ∧ i < len) (.s (.pix b 0 (o + i.toNat))) else .fail
      | none => .need (0 ≤ i ∧ i < len) (.s (.ptr b (o + i.toNat * te.size)))
    | some te, some (.recs _ _ z _ _) =>
      match o, Nat.beq te.size z with
      | 0, true => .need (0 ≤ i ∧ i < len) (.s (.rp b 0 i.toNat z))
      | _, _ => .fail
    | _, _ => .fail
  | _, _, _ => .fail

def nthL : List SV → Nat → Option SV
  | [], _ => none
  | x :: _, 0 => some x
  | _ :: r, n + 1 => nthL r n

def loadX (T : Tbl) (h : List Blk) (t : TypeId) (x : EV) : PR :=
  match T.ty t, x with
  | some i, .s (.ptr b o) =>
    match nthB h b with
    | some (.cells _ cs _) => if i.d.agg then
        match dropS cs o with
        | some r => match takeS r i.size with
          | some c => .ok (.agg c)
          | none => .fail
        | none => .fail
      else match getS cs o with
        | some v => .ok (.s v)
        | none => .fail
    | _ => .fail
  | some i, .s (.pix b o j) =>
    match nthB h b with
    | some (.cells _ cs _) => if i.d.agg then .fail else
      match getI cs o with
      | some (k, n, f) => .need (j < n) (.s (.int k (f j)))
      | none => .fail
    | _ => .fail
  | some i, .s (.rp b o j z) =>
    match nthB h b with
    | some (.recs _ n z' f _) => match Nat.beq z z' with
      | true => if i.d.agg then match o, Nat.beq i.size z with
          | 0, true => .need (j < n) (.agg ((f j).map .one))
          | _, _ => .fail
        else match nthL (f j) o with
          | some v => .need (j < n) (.s v)
          | none => .fail
      | false => .fail
    | _ => .fail
  | _, _ => .fail

def nthE : List EV → Nat → Option EV
  | [], _ => none
  | x :: _, 0 => some x
  | _ :: r, n + 1 => nthE r n

def svs : List EV → Option (List SV)
  | [] => some []
  | .s v :: r => (svs r).map (v :: ·)
  | _ => none

/-- The cells of segments, one by one (where it is told how many). -/
def flat : List Seg → Option (List SV)
  | [] => some []
  | .one v :: r => (flat r).map (v :: ·)
  | .ints k n f :: r => (flat r).map (((List.range n).map fun j => .int k (f j)) ++ ·)

/-- A value that is surely there. -/
def nilX (T : Tbl) : EV → PR
  | .s (.ptr b o) => .ok (.s (.ptr b o))
  | .s (.pix b o i) => .ok (.s (.pix b o i))
  | .s (.rp b o i z) => .ok (.s (.rp b o i z))
  | .s (.func (.func f) a c) => .ok (.s (.func (.func f) a c))
  | .s (.func (.method m) (.iface t false [.ptr b o] :: a) c) => match T.mth t m with
    | some _ => .ok (.s (.func (.method m) (.iface t false [.ptr b o] :: a) c))
    | none => .fail
  | .s (.iface t a c) => .ok (.s (.iface t a c))
  | _ => .fail

/-- A value's type is asked for; the answer tells whether it has it. -/
def assertX (T : Tbl) (t : TypeId) (ok : Bool) (x : EV) : PR :=
  match ok, T.ty t with
  | true, some i => match i.d with
    | .iface => .fail
    | _ => match x with
      | .s (.iface u true l) => match Nat.beq u t with
        | true => .ok (.tuple [.agg (l.map .one), .s (.bool true)])
        | false => .ok (.tuple [i.zero, .s (.bool false)])
      | .s (.iface u false [c]) => match Nat.beq u t with
        | true => .ok (.tuple [.s c, .s (.bool true)])
        | false => .ok (.tuple [i.zero, .s (.bool false)])
      | .s .niliface => .ok (.tuple [i.zero, .s (.bool false)])
      | _ => .fail
  | _, _ => .fail

/-- The operations that leave the world alone. 'ev': the operands; 'raw': as they stand, for a pick. -/
def px (T : Tbl) (h : List Blk) (ev raw : Operand → EV) : Op → PR
  | .move x => .ok (ev x)
  | .assign x => .ok (ev x)
  | .pick c a b => match ev c with
    | .s (.bool t) => pickX t (raw a) (raw b)
    | _ => .fail
  | .binOp op t x y _ => binY T (cnst x || cnst y) op t (ev x) (ev y)
  | .unOp op _ x => unX op (ev x)
  | .convert src dst x => convX T h src dst (ev x)
  | .slice t x lo hi mx => sliceX T t (ev x) (lo.map ev) (hi.map ev) (mx.map ev)
  | .nilCheck x => nilX T (ev x)
  | .fieldAddr t x i => fieldAddrX T t (ev x) i
  | .field t x i => fieldX T t (ev x) i
  | .indexAddr t x i => indexAddrX T h t (ev x) (ev i)
  | .index t x i => match ev x, ev i with
    | .s (.str s), .s (.int _ i) => match T.ty t with
      | some { d := .str, .. } => .need (0 ≤ i ∧ i < s.size) (.s (.int .u8 (((s.data.toList.map UInt8.toNat).getD i.toNat 0 : Nat) : Int)))
      | _ => .fail
    | .agg cs, .s (.int _ i) => match T.ty t with
      | some { d := .array n e, .. } => match T.ty e with
        | some te => match cs with
          | [.ints k m f] => if te.d.agg then .fail else if te.size = 1 then .need ((0 ≤ i ∧ i < n) ∧ i.toNat < m) (.s (.int k (f i.toNat))) else .fail
          | cs => match partX T e cs (i.toNat * te.size) with
            | .ok v => .need (0 ≤ i ∧ i < n) v
            | _ => .fail
        | none => .fail
      | _ => .fail
    | _, _ => .fail
  | .load t x => loadX T h t (ev x)
  | .extract x i => match ev x with
    | .tuple vs => match nthE vs i with
      | some v => .ok v
      | none => .fail
    | _ => .fail
  | .makeInterface t x => match T.ty t with
    | some { d := .iface, .. } => .fail
    | some _ => match ev x with
      | .s v => .ok (.s (.iface t false [v]))
      | .agg cs => match flat cs with
        | some l => .ok (.s (.iface t true l))
        | none => .fail
      | _ => .fail
    | none => .fail
  | .typeAssert x _ t ok => assertX T t ok (ev x)
  | .makeFunc fn a c => match svs (a.toList.map ev), svs (c.toList.map ev) with
    | some x, some y => .ok (.s (.func fn x y))
    | _, _ => .fail
  | .call { callee := .builtin .len, args, argTypes } =>
    match argTypes.toList, args.toList with
    | [t], [x] => match T.ty t, ev x with
      | some { d := .slice _, .. }, .s (.slice _ _ len _) => .ok (.s (.int .i64 len))
      | some { d := .slice _, .. }, .s .nilslice => .ok (.s (.int .i64 0))
      | some { d := .slice _, .. }, .s (.gs _ _ len _) => .ok (.s (.int .i64 len))
      | some { d := .str, .. }, .s (.str s) => .ok (.s (.int .i64 s.size))
      | some { d := .array n _, .. }, _ => .ok (.s (.int .i64 n))
      | _, _ => .fail
    | _, _ => .fail
  | .call { callee := .builtin .min, args, .. } => match args.toList with
    | [x, y] => match ev x, ev y with
      | .s (.int k a), .s (.int _ b) => .ok (.s (.int k (if b < a then b else a)))
      | _, _ => .fail
    | _ => .fail
  | .call { callee := .builtin .max, args, .. } => match args.toList with
    | [x, y] => match ev x, ev y with
      | .s (.int k a), .s (.int _ b) => .ok (.s (.int k (if b > a then b else a)))
      | _, _ => .fail
    | _ => .fail
  | _ => .fail

/-! ### the walker -/

/-- What is known of this seat's package-level variables: block, place, what the cell there is. -/
def seatG : Nat → Nat → Option (Value → Prop) := fun b o => if b = 0 ∧ o < 97 then some (fun v => v = .int .i64 (([0, 0, 0, 0, 0, 0, 0, 0, 0, 0, 0, 0, 0, 0, 0, 0, 0, 0, 0, 0, 0, 0, 35, 38, 39, 40, 43, 44, 37, 41, 42, 45, 47, 48, 49, 0, 0, 0, 0, 0, 0, 0, 0, 0, 0, 0, 0, 0, 0, 0, 0, 0, 0, 0, 0, 0, 0, 0, 0, 0, 0, 0, 0, 0, 0, 0, 0, 0, 0, 0, 0, 0, 0, 0, 0, 0, 0, 0, 0, 0, 0, 0, 0, 0, 0, 0, 0, 0, 0, 0, 0, 0, 0, 0, 0, 0, 0] : List Int).getD o 0)) else none
/-- Of which of them that are arrays of whole numbers all cells are known. -/
def seatA : Nat → Option (IntKind × Nat × (Nat → Int)) := fun g => match g with | 0 => some (.i64, 97, fun o => (([0, 0, 0, 0, 0, 0, 0, 0, 0, 0, 0, 0, 0, 0, 0, 0, 0, 0, 0, 0, 0, 0, 35, 38, 39, 40, 43, 44, 37, 41, 42, 45, 47, 48, 49, 0, 0, 0, 0, 0, 0, 0, 0, 0, 0, 0, 0, 0, 0, 0, 0, 0, 0, 0, 0, 0, 0, 0, 0, 0, 0, 0, 0, 0, 0, 0, 0, 0, 0, 0, 0, 0, 0, 0, 0, 0, 0, 0, 0, 0, 0, 0, 0, 0, 0, 0, 0, 0, 0, 0, 0, 0, 0, 0, 0, 0, 0] : List Int).getD o 0)) | _ => none
theorem seatA_ok : ∀ g k n f, seatA g = some (k, n, f) → ∀ o, o < n → seatG g o = some (fun v => v = .int k (f o)) := by
  rintro (_ | g) k n f h o ho; (· cases h; exact if_pos ⟨rfl, ho⟩); (· cases h)
/-- They are as they are known to be, and nobody may write them. -/
def TabOk (E : Emb) (h : List Blk) (w : World) : Prop := ∀ b o P, seatG b o = some P → (∃ v, w.cell? ⟨b, o, none⟩ = some v ∧ P v) ∧ b < w.heap.size ∧ ¬ mutAt E h b o
theorem TabOk.sub {E E' : Emb} {h h' : List Blk} {w : World} (Z : TabOk E h w) (hm : ∀ b o, mutAt E' h' b o → mutAt E h b o) : TabOk E' h' w := fun b o P hp => by
  obtain ⟨h1, h2, h3⟩ := Z b o P hp
  exact ⟨h1, h2, fun h4 => h3 (hm b o h4)⟩
theorem TabOk.since {E E' : Emb} {h h' : List Blk} {w w' : World} (Z : TabOk E h w) (N : Since E h w E' h' w') : TabOk E' h' w' := fun b o P hp => by
  obtain ⟨⟨v, hv, hP⟩, hb, hm⟩ := Z b o P hp
  exact ⟨⟨v, by rw [(N.cells b o hb hm).1]; exact hv, hP⟩, Nat.lt_of_lt_of_le hb N.size, fun h' => hm (N.new b o h' hb)⟩

/-- Where a walk began. -/
structure Org where
  E : Emb
  h : List Blk
  w : World
  D : List Deferred
  Z : TabOk E h w

def frameOk (E : Emb) (ts : List EV) (a : Array Value) : Prop := a.size = ts.length ∧ ∀ i v, a[i]? = some v → denE E (nth ts i) v

/-- A machine's state as the walker sees it. -/
structure Rel (O : Org) (E : Emb) (s : St) (a : Act) (w : World) : Prop where
  fr : frameOk E s.tmps a.tmps
  df : a.defers = O.D
  sim : Sim E s.heap w
  sin : Since O.E O.h O.w E s.heap w

def Lift (O : Org) (K : Exit → St → Prop) (e : Exit) (a : Act) (w : World) : Prop := ∃ E s, K e s ∧ Rel O E s a w

/-- A loop that stands to be walked. -/
def LoopG (T : Tbl) (O : Org) (c : Code) (s : St) (K : Exit → St → Prop) : Prop :=
  ∀ E a w, Rel O E s a w → (Code.loop c).wp T.P (Lift O K) a w

/-- What a call leaves. -/
def Post (E : Emb) (h : List Blk) (w : World) (k : EV → List Blk → Prop) (e : Ending) (w' : World) : Prop :=
  ∃ v x h' E', e = .returned v ∧ denE E' x v ∧ Sim E' h' w' ∧ Since E h w E' h' w' ∧ k x h'

/-- A call that stands to be walked: what it hands back, the world behind it. -/
def CallG (T : Tbl) (f : FuncId) (args : List EV) (h : List Blk) (k : EV → List Blk → Prop) : Prop :=
  ∀ E w vs, Sim E h w → TabOk E h w → denT E args vs.toList → Calls T.P f vs w (Post E h w k)

/-- A function without a body, which the model answers itself. -/
def ExtG (T : Tbl) (f : FuncId) (args : List EV) (h : List Blk) (k : EV → List Blk → Prop) : Prop :=
  ∀ E w vs, Sim E h w → denT E args vs.toList → ∃ u w', (callFunc f vs).run T.P w = .ok (.value u) w' ∧ Post E h w k (.returned u) w'

def isFn (T : Tbl) (f : FuncId) : Prop := ∃ F, T.P.funcs[f]? = some F ∧ F.body.isNone = false ∧ (F.name == "runtime.NumGoroutine") = false

def ifB (t : Bool) (a b : Prop) : Prop :=
  match t with
  | true => a
  | false => b

structure Need (p k : Prop) : Prop where
  p : p
  k : k

def segsOf : EV → Option (List Seg)
  | .s v => some [.one v]
  | .agg cs => some cs
  | _ => none

/-! What the walker computes it computes at once: each of these is its last argument at its first ('.._eq'). -/

def forceV (v : SV) (k : SV → Prop) : Prop :=
  match v with
  | .junk => k .junk
  | .int q n => k (.int q n)
  | .bool b => k (.bool b)
  | .str s => k (.str s)
  | .ptr b o => k (.ptr b o)
  | .pix b o i => k (.pix b o i)
  | .rp b o i z => k (.rp b o i z)
  | .nilptr => k .nilptr
  | .slice b o l c => k (.slice b o l c)
  | .nilslice => k .nilslice
  | .gs b o l c => k (.gs b o l c)
  | .map b => k (.map b)
  | .nilmap => k .nilmap
  | .func f a c => k (.func f a c)
  | .nilfunc => k .nilfunc
  | .iface t a c => k (.iface t a c)
  | .niliface => k .niliface

/- (These walk by the recursors themselves: so the elaborator and the kernel unfold them alike.) -/
def forceS (l : List Seg) : (List Seg → Prop) → Prop :=
  List.rec (motive := fun _ => (List Seg → Prop) → Prop) (fun k => k []) (fun x _ ih k => match x with
    | .one v => forceV v fun v => ih fun r => k (.one v :: r)
    | .ints q n f => ih fun r => k (.ints q n f :: r)) l

def forceT (l : List EV) : (List EV → Prop) → Prop :=
  List.rec (motive := fun _ => (List EV → Prop) → Prop) (fun k => k []) (fun x _ ih k => ih fun r => k (x :: r)) l

def forceE0 (v : EV) (k : EV → Prop) : Prop :=
  match v with
  | .s v => forceV v fun v => k (.s v)
  | .agg cs => forceS cs fun cs => k (.agg cs)
  | .tuple vs => k (.tuple vs)
  | .gd g v => k (.gd g v)
  | .junk => k .junk

def forceE (v : EV) (k : EV → Prop) : Prop :=
  match v with
  | .s v => forceV v fun v => k (.s v)
  | .agg cs => forceS cs fun cs => k (.agg cs)
  | .tuple vs => forceT vs fun vs => k (.tuple vs)
  | .gd g v => forceE0 v fun v => k (.gd g v)
  | .junk => k .junk

def updK (l : List EV) : Nat → EV → (List EV → Prop) → Prop :=
  List.rec (motive := fun _ => Nat → EV → (List EV → Prop) → Prop) (fun _ _ k => k []) (fun x r ih n v k => match n with
    | 0 => k (v :: r)
    | n + 1 => ih n v fun r => k (x :: r)) l

def updBK (l : List Blk) : Nat → Blk → (List Blk → Prop) → Prop :=
  List.rec (motive := fun _ => Nat → Blk → (List Blk → Prop) → Prop) (fun _ _ k => k []) (fun x r ih n v k => match n with
    | 0 => k (v :: r)
    | n + 1 => ih n v fun r => k (x :: r)) l

/-- A new block behind the others, and its number. -/
def pushBK (l : List Blk) : Nat → Blk → (Nat → List Blk → Prop) → Prop :=
  List.rec (motive := fun _ => Nat → Blk → (Nat → List Blk → Prop) → Prop) (fun n B k => k n [B]) (fun x _ ih n B k => ih (n + 1) B fun n h => k n (x :: h)) l

theorem forceV_eq (v : SV) (k : SV → Prop) : forceV v k = k v := by cases v <;> rfl
theorem forceS_eq : ∀ (cs : List Seg) (k : List Seg → Prop), forceS cs k = k cs
  | [], _ => rfl
  | .one v :: r, k => by
    show (forceV v fun v => forceS r fun r => k (.one v :: r)) = _
    rw [forceV_eq, forceS_eq r]
  | .ints q n f :: r, k => by
    show (forceS r fun r => k (.ints q n f :: r)) = _
    rw [forceS_eq r]
theorem forceT_eq : ∀ (l : List EV) (k : List EV → Prop), forceT l k = k l
  | [], _ => rfl
  | x :: r, k => by
    show (forceT r fun r => k (x :: r)) = _
    rw [forceT_eq r]
theorem forceE0_eq (v : EV) (k : EV → Prop) : forceE0 v k = k v := by cases v <;> simp only [forceE0, forceV_eq, forceS_eq]
theorem forceE_eq (v : EV) (k : EV → Prop) : forceE v k = k v := by cases v <;> simp only [forceE, forceV_eq, forceS_eq, forceE0_eq, forceT_eq]
theorem updK_eq : ∀ (l : List EV) (n : Nat) (v : EV) (k : List EV → Prop), updK l n v k = k (upd l n v)
  | [], _, _, _ => rfl
  | x :: r, 0, v, k => rfl
  | x :: r, n + 1, v, k => by
    show (updK r n v fun r => k (x :: r)) = _
    rw [updK_eq r]
    rfl
theorem updBK_eq : ∀ (l : List Blk) (n : Nat) (v : Blk) (k : List Blk → Prop), updBK l n v k = k (updB l n v)
  | [], _, _, _ => rfl
  | x :: r, 0, v, k => rfl
  | x :: r, n + 1, v, k => by
    show (updBK r n v fun r => k (x :: r)) = _
    rw [updBK_eq r]
    rfl
theorem pushBK_eq : ∀ (l : List Blk) (n : Nat) (B : Blk) (k : Nat → List Blk → Prop), pushBK l n B k = k (n + l.length) (l ++ [B])
  | [], _, _, _ => rfl
  | x :: r, n, B, k => by
    show (pushBK r (n + 1) B fun n h => k n (x :: h)) = _
    rw [pushBK_eq r]
    simp only [List.length_cons, List.cons_append]
    rw [show n + 1 + r.length = n + (r.length + 1) by omega]

/-- A value goes into a slot. -/
def putK (ts : List EV) (h : List Blk) (dst : Option Tmp) (v : EV) (k : St → Prop) : Prop :=
  match dst with
  | some d => updK ts d v fun ts => k ⟨ts, h⟩
  | none => k ⟨ts, h⟩

theorem putK_eq (ts : List EV) (h : List Blk) (dst : Option Tmp) (v : EV) (k : St → Prop) : putK ts h dst v k = k ((⟨ts, h⟩ : St).put dst v) := by
  cases dst with
  | none => rfl
  | some d => simp only [putK, updK_eq]; rfl

def onesOf : List Seg → Option (List SV)
  | [] => some []
  | .one v :: r => match onesOf r with
    | some l => some (v :: l)
    | none => none
  | _ => none

/-- Some cells laid over a record's. -/
def putL : List SV → Nat → List SV → Option (List SV)
  | r, 0, [] => some r
  | _ :: r, 0, y :: new => match putL r 0 new with
    | some l => some (y :: l)
    | none => none
  | [], 0, _ :: _ => none
  | x :: r, o + 1, new => match putL r o new with
    | some l => some (x :: l)
    | none => none
  | [], _ + 1, _ => none

/-- A store. -/
def storeX (T : Tbl) (t : TypeId) (x v : EV) (h : List Blk) (k : List Blk → Prop) : Prop :=
  match T.ty t, x with
  | some i, .s (.ptr b o) =>
    match nthB h b, segsOf v with
    | some (.cells true cs sp), some [.one u] =>
      match i.size, setS cs o u with
      | 1, some cs' => forceS cs' fun cs' => updBK h b (.cells true cs' sp) k
      | _, _ => False
    | some (.cells true cs sp), some new =>
      match putS cs o new with
      | some cs' => Need (sizeS new = i.size) (forceS cs' fun cs' => updBK h b (.cells true cs' sp) k)
      | none => False
    | _, _ => False
  | some i, .s (.pix b o j) =>
    match v, nthB h b with
    | .s (.int q x), some (.cells true cs sp) =>
      match i.size, getI cs o, setI cs o j q x with
      | 1, some (_, n, _), some cs' => Need (j < n) (forceS cs' fun cs' => updBK h b (.cells true cs' sp) k)
      | _, _, _ => False
    | _, _ => False
  | some i, .s (.rp b o j z) =>
    match nthB h b, segsOf v with
    | some (.recs true n z' f sp), some new => match Nat.beq z z', onesOf new with
      | true, some l => match putL (f j) o l with
        | some l' => Need (j < n ∧ l.length = i.size) (updBK h b (.recs true n z (fun q => if q = j then l' else f q) sp) k)
        | none => False
      | _, _ => False
    | _, _ => False
  | _, _ => False

/-- A new block. -/
def newX (ts : List EV) (h : List Blk) (cs : List Seg) (dst : Option Tmp) (k : St → Prop) : Prop :=
  forceS cs fun cs => pushBK h 0 (.cells true cs 0) fun n h => putK ts h dst (.s (.ptr n 0)) k

/-- A cell among whole numbers, by its place among all cells. -/
def setJ : List Seg → Nat → IntKind → Int → Option (List Seg)
  | [], _, _, _ => none
  | .one _ :: _, 0, _, _ => none
  | .one v :: r, o + 1, k, x => (setJ r o k x).map (.one v :: ·)
  | .ints k' n f :: r, o, k, x => if o < n then (if k = k' then some (.ints k' n (fun j => if j = o then x else f j) :: r) else none) else (setJ r (o - n) k x).map (.ints k' n f :: ·)

/-- A struct's or an array's parts, put in one behind the other. -/
def fillX (place : Nat → Option (Nat × Nat)) : List Seg → List (Nat × EV) → Option (List Seg)
  | cs, [] => some cs
  | cs, (i, v) :: r => match place i with
    | none => none
    | some (off, size) => match v with
      | .s (.int k x) => match size with
        | 1 => match setS cs off (.int k x) with
          | some cs' => fillX place cs' r
          | none => match setJ cs off k x with
            | some cs' => fillX place cs' r
            | none => none
        | _ => none
      | .s u => match size, setS cs off u with
        | 1, some cs' => fillX place cs' r
        | _, _ => none
      | .agg new => if sizeS new = size then match putS cs off new with
          | some cs' => fillX place cs' r
          | none => none else none
      | _ => none

def places (T : Tbl) : List (TypeId × Nat) → Option (List (Nat × Nat))
  | [] => some []
  | (ft, off) :: r => match T.ty ft, places T r with
    | some ti, some ps => some ((off, ti.size) :: ps)
    | _, _ => none

def nthP : List (Nat × Nat) → Nat → Option (Nat × Nat)
  | [], _ => none
  | x :: _, 0 => some x
  | _ :: r, n + 1 => nthP r n

def buildX (T : Tbl) (t : TypeId) (parts : List (Nat × EV)) : Option (List Seg) :=
  match T.ty t with
  | some { d := .struct fs, zero := .agg z, .. } =>
    match places T fs with
    | some ps => fillX (nthP ps) z parts
    | none => none
  | some { d := .array _ e, zero := .agg z, .. } =>
    match T.ty e with
    | some te => fillX (fun i => some (i * te.size, te.size)) z parts
    | none => none
  | _ => none

/-- The arguments of a call, one behind the other. -/
def svK (c : List SV) : (List EV → Prop) → Prop :=
  List.rec (motive := fun _ => (List EV → Prop) → Prop) (fun k => k []) (fun x _ ih k => ih fun r => k (.s x :: r)) c

def evK (l : List EV) : List SV → (List EV → Prop) → Prop :=
  List.rec (motive := fun _ => List SV → (List EV → Prop) → Prop) (fun c k => svK c k) (fun x _ ih c k => forceE x fun x => ih c fun r => k (x :: r)) l

def argsK (a : List SV) : List EV → List SV → (List EV → Prop) → Prop :=
  List.rec (motive := fun _ => List EV → List SV → (List EV → Prop) → Prop) (fun l c k => evK l c k) (fun x _ ih l c k => ih l c fun r => k (.s x :: r)) a

theorem svK_eq : ∀ (c : List SV) (k : List EV → Prop), svK c k = k (c.map .s)
  | [], k => rfl
  | x :: c, k => by
    show (svK c fun r => k (.s x :: r)) = _
    rw [svK_eq c, List.map_cons]
theorem evK_eq : ∀ (l : List EV) (c : List SV) (k : List EV → Prop), evK l c k = k (l ++ c.map .s)
  | [], c, k => by
    show svK c k = _
    rw [svK_eq, List.nil_append]
  | x :: l, c, k => by
    show (forceE x fun x => evK l c fun r => k (x :: r)) = _
    rw [forceE_eq, evK_eq l, List.cons_append]
theorem argsK_eq : ∀ (a : List SV) (l : List EV) (c : List SV) (k : List EV → Prop), argsK a l c k = k (a.map .s ++ l ++ c.map .s)
  | [], l, c, k => by
    show evK l c k = _
    rw [evK_eq, List.map_nil, List.nil_append]
  | x :: a, l, c, k => by
    show (argsK a l c fun r => k (.s x :: r)) = _
    rw [argsK_eq a, List.map_cons, List.cons_append, List.cons_append]

/-- A function that may be called, and what comes of it. -/
structure Does (T : Tbl) (f : FuncId) (args : List EV) (h : List Blk) (Q : EV → List Blk → Prop) : Prop where
  go : (isFn T f ∧ CallG T f args h Q) ∨ ExtG T f args h Q

/-- A call of an interface's method. -/
def invD (T : Tbl) (m : String) (r : EV) (l : List EV) (h : List Blk) (k : EV → List Blk → Prop) : Prop :=
  match r with
  | .s (.iface t false [.ptr b o]) => match T.mth t m with
    | some f => Does T f (.s (.ptr b o) :: l) h k
    | none => False
  | _ => False

def invX (T : Tbl) (m : String) (r : EV) (args : List EV) (h : List Blk) (k : EV → List Blk → Prop) : Prop := evK args [] fun l => invD T m r l h k

/-- A call of a function value. -/
def callV (T : Tbl) (f : EV) (args : List EV) (h : List Blk) (k : EV → List Blk → Prop) : Prop :=
  match f with
  | .s (.func (.func f) a c) => argsK a args c fun l => Does T f l h k
  | .s (.func (.method m) (r :: a) _) => argsK a args [] fun l => invD T m (.s r) l h k
  | _ => False

def callX (T : Tbl) (f : EV) (args : List EV) (h : List Blk) (k : EV → List Blk → Prop) : Prop :=
  match f with
  | .gd g v => Need (g = true) (callV T v args h k)
  | f => callV T f args h k

/-! ### slices: made, grown, copied -/

def litF : List Int → Nat → Int
  | [], _ => 0
  | x :: _, 0 => x
  | _ :: r, n + 1 => litF r n

def intParts (k : IntKind) : Nat → List (Nat × EV) → Option (List Int)
  | _, [] => some []
  | n, (i, .s (.int k' x)) :: r => match Nat.beq n i && sameK k k', intParts k (n + 1) r with
    | true, some l => some (x :: l)
    | _, _ => none
  | _, _ => none

def repS : Nat → List Seg → List Seg
  | 0, _ => []
  | n + 1, z => z ++ repS n z

/-- The cells of a slice that is built. -/
def bslX (te : TI) (n : Nat) (parts : List (Nat × EV)) : Option (List Seg) :=
  match te.zero, te.size with
  | .s (.int k _), 1 => match intParts k 0 parts with
    | some l => match Nat.beq l.length n with
      | true => some [.ints k n (litF l)]
      | false => none
    | none => none
  | z, sz => match segsOf z with
    | some zs => match Nat.beq (sizeS zs) sz with
      | true => fillX (fun i => some (i * sz, sz)) (repS n zs) parts
      | false => none
    | none => none

def catF (n : Nat) (f g : Nat → Int) (j : Nat) : Int := if j < n then f j else g (j - n)

def catS : List Seg → List Seg → List Seg
  | [], b => b
  | [.ints k n f], [.ints k' m g] => match sameK k k' with
    | true => [.ints k (n + m) (catF n f g)]
    | false => [.ints k n f, .ints k' m g]
  | a, b => a ++ b

def zsz (te : TI) : Nat :=
  match segsOf te.zero with
  | some zs => sizeS zs
  | none => 0

def room (te : TI) (n : Nat) : Prop := (zsz te = te.size ∧ 0 < te.size) ∧ n ≤ 140737488355328 ∧ n * te.bytes ≤ 140737488355328

/-- A slice that has grown: in a block of its own, with room that is not known. -/
def growK (ts : List EV) (h : List Blk) (dst : Option Tmp) (n size : Nat) (cs : List Seg) (k : St → Prop) : Prop :=
  ∀ c, n ≤ c → forceS cs fun cs => pushBK h 0 (.cells true cs ((c - n) * size)) fun N h => putK ts h dst (.s (.gs N 0 n c)) k

def ontoX (te : TI) (ts : List EV) (h : List Blk) (b n c : Nat) (r : Rng) (dst : Option Tmp) (k : St → Prop) : Prop :=
  match nthB h b with
  | some (.cells true cs sp) => Need (r.p ∧ sizeS cs = n * te.size ∧ c * te.size = n * te.size + sp ∧ room te (n + r.n))
      (updBK h b .dead fun h => growK ts h dst (n + r.n) te.size (catS cs r.cs) k)
  | _ => False

def srcOk (T : Tbl) (tx : TypeId) (y : EV) : Bool :=
  match T.ty tx, isStr y with
  | some { d := .str, .. }, true => true
  | some { d := .slice _, .. }, false => true
  | _, _ => false

def appC (T : Tbl) (ts : List EV) (h : List Blk) (t tx : TypeId) (x y : EV) (dst : Option Tmp) (k : St → Prop) : Prop :=
  match T.ty t with
  | some { d := .slice e, .. } => match T.ty e with
    | some te => match srcOk T tx y, rngX h te.size y with
      | true, some r => match x with
        | .s .nilslice => Need (r.p ∧ room te r.n) (growK ts h dst r.n te.size r.cs k)
        | .s (.slice b 0 n c) => ontoX te ts h b n c r dst k
        | .s (.gs b 0 n c) => ontoX te ts h b n c r dst k
        | _ => False
      | _, _ => False
    | none => False
  | _ => False

/-- A slice of all records of a block. -/
def recAt (h : List Blk) (z : Nat) : EV → Option (Nat × Nat × (Nat → List SV))
  | .s (.slice b o n _) => match nthB h b with
    | some (.recs _ m z' f _) => match o, Nat.beq z z' with
      | 0, true => some (n, m, f)
      | _, _ => none
    | _ => none
  | .s (.gs b o n _) => match nthB h b with
    | some (.recs _ m z' f _) => match o, Nat.beq z z' with
      | 0, true => some (n, m, f)
      | _, _ => none
    | _ => none
  | _ => none

def catR (n : Nat) (f g : Nat → List SV) (j : Nat) : List SV := if j < n then f j else g (j - n)

def growR (ts : List EV) (h : List Blk) (dst : Option Tmp) (n z : Nat) (f : Nat → List SV) (k : St → Prop) : Prop :=
  ∀ c, n ≤ c → pushBK h 0 (.recs true n z f ((c - n) * z)) fun N h => putK ts h dst (.s (.gs N 0 n c)) k

/-- What is put behind: records. -/
def recSrc (h : List Blk) (z : Nat) (y : EV) : Option (Prop × Nat × (Nat → List SV)) :=
  match recAt h z y with
  | some (n, m, f) => some (n = m, n, f)
  | none => match rngX h z y with
    | some ⟨p, n, cs⟩ => match onesOf cs with
      | some l => some ((p ∧ n = 1) ∧ l.length = z, 1, fun _ => l)
      | none => none
    | none => none

def ontoR (te : TI) (ts : List EV) (h : List Blk) (b n c : Nat) (p : Prop) (rn : Nat) (g : Nat → List SV) (dst : Option Tmp) (k : St → Prop) : Prop :=
  match nthB h b with
  | some (.recs true m z f sp) => Need ((p ∧ n = m ∧ te.size = z) ∧ c * te.size = n * te.size + sp ∧ room te (n + rn))
      (updBK h b .dead fun h => growR ts h dst (n + rn) z (catR n f g) k)
  | _ => False

/-- Records behind records. -/
def appR (te : TI) (ts : List EV) (h : List Blk) (x y : EV) (dst : Option Tmp) (k : St → Prop) : Prop :=
  match recSrc h te.size y with
  | some (p, rn, g) => match x with
    | .s .nilslice => Need (p ∧ room te rn) (growR ts h dst rn te.size g k)
    | .s (.slice b 0 n c) => ontoR te ts h b n c p rn g dst k
    | .s (.gs b 0 n c) => ontoR te ts h b n c p rn g dst k
    | _ => False
  | none => False

def appX (T : Tbl) (ts : List EV) (h : List Blk) (t tx : TypeId) (x y : EV) (dst : Option Tmp) (k : St → Prop) : Prop :=
  match T.ty t, T.ty tx with
  | some { d := .slice e, .. }, some { d := .slice _, .. } => match T.ty e with
    | some te => match recAt h te.size x, recAt h te.size y with
      | none, none => appC T ts h t tx x y dst k
      | _, _ => appR te ts h x y dst k
    | none => False
  | _, _ => appC T ts h t tx x y dst k

/-- Zeros behind a slice of whole numbers. -/
def zappX (T : Tbl) (ts : List EV) (h : List Blk) (t : TypeId) (x : EV) (m : Int) (dst : Option Tmp) (k : St → Prop) : Prop :=
  match T.ty t with
  | some { d := .slice e, .. } => match T.ty e with
    | some te => match te.zero, te.size with
      | .s (.int q z), 1 => match x with
        | .s .nilslice => Need (0 ≤ m ∧ room te m.toNat) (growK ts h dst m.toNat te.size [.ints q m.toNat (fun _ => z)] k)
        | .s (.slice b 0 n c) => ontoX te ts h b n c ⟨0 ≤ m, m.toNat, [.ints q m.toNat (fun _ => z)]⟩ dst k
        | .s (.gs b 0 n c) => ontoX te ts h b n c ⟨0 ≤ m, m.toNat, [.ints q m.toNat (fun _ => z)]⟩ dst k
        | _ => False
      | _, _ => False
    | none => False
  | _ => False

def putF (o n : Nat) (g f : Nat → Int) (j : Nat) : Int := if o ≤ j ∧ j < o + n then g (j - o) else f j

def ontoC (ts : List EV) (h : List Blk) (b o n : Nat) (r : Rng) (dst : Option Tmp) (k : St → Prop) : Prop :=
  match nthB h b, r with
  | some (.cells true [.ints q m f] sp), ⟨p, rn, [.ints q' _ g]⟩ => match sameK q q' with
    | true => Need (p ∧ o + n ≤ m) (updBK h b (.cells true [.ints q m (putF o (min rn n) g f)] sp) fun h => putK ts h dst (.s (.int .i64 ((min rn n : Nat) : Int))) k)
    | false => False
  | some (.cells true [.ints _ _ _] _), ⟨p, rn, []⟩ => Need (p ∧ rn = 0) (putK ts h dst (.s (.int .i64 0)) k)
  | _, _ => False

def copyX (T : Tbl) (ts : List EV) (h : List Blk) (t tx : TypeId) (x y : EV) (dst : Option Tmp) (k : St → Prop) : Prop :=
  match T.ty t with
  | some { d := .slice e, .. } => match T.ty e with
    | some te => match te.size, srcOk T tx y, rngX h te.size y with
      | 1, true, some r => match x with
        | .s (.slice b o n _) => ontoC ts h b o n r dst k
        | .s (.gs b o n _) => ontoC ts h b o n r dst k
        | _ => False
      | _, _, _ => False
    | none => False
  | _ => False

/-- A cell is there. -/
def hasCell (h : List Blk) (b o : Nat) : Prop := ∃ m cs sp v, nthB h b = some (.cells m cs sp) ∧ getS cs o = some v

/-- Are these keys the same? none: not to be told. -/
def keyX : SV → SV → Option Bool
  | .int q x, .int q' y => match sameK q q' with
    | true => some (x == y)
    | false => none
  | .str a, .str b => some (a == b)
  | .bool a, .bool b => some (a == b)
  | _, _ => none

def tkey : TD → SV → Bool
  | .int q, .int q' _ => sameK q q'
  | .str, .str _ => true
  | .bool, .bool _ => true
  | _, _ => false

/-- What a map holds at a key. -/
def lookK (key : SV) (es : List (SV × EV)) : (Option EV → Prop) → Prop :=
  List.rec (motive := fun _ => (Option EV → Prop) → Prop) (fun k => k none) (fun e _ ih k => match keyX key e.1 with
    | some t => ifB t (k (some e.2)) (ih k)
    | none => False) es

/-- A map with one key laid in. -/
def putM (key : SV) (v : EV) (es : List (SV × EV)) : (List (SV × EV) → Prop) → Prop :=
  List.rec (motive := fun _ => (List (SV × EV) → Prop) → Prop) (fun k => k [(key, v)]) (fun e r ih k => match keyX key e.1 with
    | some t => ifB t (k ((key, v) :: r)) (ih fun r' => k (e :: r'))
    | none => False) es

def lookE (z : EV) (ok : Bool) (r : Option EV) : EV :=
  match ok, r with
  | true, none => .tuple [z, .s (.bool false)]
  | true, some v => .tuple [v, .s (.bool true)]
  | false, none => z
  | false, some v => v

/-- A key laid into a map. -/
def mupX (T : Tbl) (ts : List EV) (h : List Blk) (t : TypeId) (m key v : EV) (dst : Option Tmp) (k : St → Prop) : Prop :=
  match T.ty t, m, key with
  | some { d := .map kt _, .. }, .s (.map b), .s kv => match T.ty kt, nthB h b with
    | some i, some (.map es) => match tkey i.d kv with
      | true => forceE v fun v => putM kv v es fun es => updBK h b (.map es) fun h => putK ts h dst .junk k
      | false => False
    | _, _ => False
  | _, _, _ => False

/-- The operations on maps. -/
def eff3 (T : Tbl) (ts : List EV) (h : List Blk) (o : Oper) (k : St → Prop) : Prop :=
  match o.op with
  | .makeMap _ none => pushBK h 0 (.map []) fun N h => putK ts h o.dst (.s (.map N)) k
  | .lookup t m key ok => match T.ty t, evT ts key with
    | some { d := .map kt et, .. }, .s kv => match T.ty kt, T.ty et with
      | some i, some j => match tkey i.d kv with
        | true => match evT ts m with
          | .s (.map b) => match nthB h b with
            | some (.map es) => lookK kv es fun r => forceE (lookE j.zero ok r) fun v => putK ts h o.dst v k
            | _ => False
          | .s .nilmap => forceE (lookE j.zero ok none) fun v => putK ts h o.dst v k
          | _ => False
        | false => False
      | _, _ => False
    | _, _ => False
  | _ => False

/-- Parts that are there under a guard. -/
def ungK (l : List (Nat × EV)) : (List (Nat × EV) → Prop) → Prop :=
  List.rec (motive := fun _ => (List (Nat × EV) → Prop) → Prop) (fun k => k []) (fun x _ ih k => match x with
    | (i, .gd g v) => Need (g = true) (ih fun r => k ((i, v) :: r))
    | (i, .s v) => ih fun r => k ((i, .s v) :: r)
    | (i, .agg v) => ih fun r => k ((i, .agg v) :: r)
    | (i, .tuple v) => ih fun r => k ((i, .tuple v) :: r)
    | (i, .junk) => ih fun r => k ((i, .junk) :: r)) l

/-- A value that is there. -/
def there : EV → EV
  | .gd true v => v
  | e => e

theorem ungK_spec (ev : Operand → EV) : ∀ (l : List (Nat × Operand)) {k : List (Nat × EV) → Prop}, ungK (l.map fun p => (p.1, ev p.2)) k → k (l.map fun p => (p.1, there (ev p.2)))
  | [], _, h => h
  | (i, x) :: r, k, h => by
    simp only [List.map_cons]
    cases hx : ev x with
    | gd g v =>
      have h : ungK ((i, ev x) :: r.map fun p => (p.1, ev p.2)) k := h
      rw [hx] at h
      have h2 : Need (g = true) (ungK (r.map fun p => (p.1, ev p.2)) fun r => k ((i, v) :: r)) := h
      obtain ⟨hg, h3⟩ := h2
      subst hg
      exact ungK_spec ev r (k := fun r => k ((i, v) :: r)) h3
    | s v =>
      have h : ungK ((i, ev x) :: r.map fun p => (p.1, ev p.2)) k := h
      rw [hx] at h
      exact ungK_spec ev r (k := fun r => k ((i, .s v) :: r)) h
    | agg v =>
      have h : ungK ((i, ev x) :: r.map fun p => (p.1, ev p.2)) k := h
      rw [hx] at h
      exact ungK_spec ev r (k := fun r => k ((i, .agg v) :: r)) h
    | tuple v =>
      have h : ungK ((i, ev x) :: r.map fun p => (p.1, ev p.2)) k := h
      rw [hx] at h
      exact ungK_spec ev r (k := fun r => k ((i, .tuple v) :: r)) h
    | junk =>
      have h : ungK ((i, ev x) :: r.map fun p => (p.1, ev p.2)) k := h
      rw [hx] at h
      exact ungK_spec ev r (k := fun r => k ((i, .junk) :: r)) h

theorem there_den {E : Emb} {e : EV} {v : Value} (h : denE E e v) : denE E (there e) v := by
  cases e with
  | gd g x =>
    cases g with
    | true => simp only [denE] at h; exact h.1 trivial
    | false => exact h
  | _ => exact h

/-- More operations with an effect: on slices; pointers without a type. -/
def eff2 (T : Tbl) (ts : List EV) (h : List Blk) (o : Oper) (k : St → Prop) : Prop :=
  match o.op with
  | .buildSlice t n parts => match T.ty t with
    | some { d := .slice e, .. } => match T.ty e with
      | some te => ungK (parts.toList.map fun p => (p.1, evT ts p.2)) fun ps => match Nat.ble (n * te.size) 16777216, bslX te n ps with
        | true, some cs => forceS cs fun cs => pushBK h 0 (.cells true cs 0) fun N h => putK ts h o.dst (.s (.slice N 0 n n)) k
        | _, _ => False
      | none => False
    | _ => False
  | .makeSlice t len cap => match T.ty t, evT ts len, evT ts cap with
    | some { d := .slice e, .. }, .s (.int _ l), .s (.int _ c) => match T.ty e with
      | some te => match te.zero, te.size with
        | .s (.int q z), 1 => Need (0 ≤ l ∧ l ≤ c ∧ c ≤ 140737488355328 ∧ te.bytes * c ≤ 140737488355328)
            (pushBK h 0 (.cells true [.ints q l.toNat (fun _ => z)] (c.toNat - l.toNat)) fun N h => putK ts h o.dst (.s (.slice N 0 l.toNat c.toNat)) k)
        | _, _ => False
      | none => False
    | _, _, _ => False
  | .convert src dst x => match T.ty src, T.ty dst, evT ts x with
    | some { d := .slice e, .. }, some { d := .slice e', .. }, .s (.slice b o' n c) => match Nat.beq src dst && Nat.beq e e', T.ty e, nthB h b with
      | true, some { d := .int .u8, .. }, some (.cells true cs sp) => Need (0 < sizeS cs + sp) (putK ts h o.dst (.s (.slice b o' n c)) k)
      | _, _, _ => False
    | some { d := .str, .. }, some { d := .slice e, .. }, .s (.str s) => match T.ty e with
      | some { d := .int .u8, .. } => ∀ c, s.size ≤ c → pushBK h 0 (.cells true [.ints .u8 s.size (strF s)] (c - s.size)) fun N h => putK ts h o.dst (.s (.slice N 0 s.size c)) k
      | _ => False
    | some { d := .ptr e, .. }, some { d := .uptr, .. }, .s (.ptr b o') => match T.ty e with
      | some { size := _ + 1, .. } => Need (hasCell h b o') (putK ts h o.dst (.s (.ptr b o')) k)
      | _ => False
    | _, _, _ => False
  | .call { callee := .builtin .append, args, argTypes } => match args.toList, argTypes.toList with
    | [x, y], [t, tx] => match T.ty tx, evT ts y with
      | some { d := .int _, .. }, .s (.int _ m) => zappX T ts h t (evT ts x) m o.dst k
      | _, _ => appX T ts h t tx (evT ts x) (evT ts y) o.dst k
    | _, _ => False
  | .call { callee := .builtin .copy, args, argTypes } => match args.toList, argTypes.toList with
    | [x, y], [t, tx] => copyX T ts h t tx (evT ts x) (evT ts y) o.dst k
    | _, _ => False
  | _ => eff3 T ts h o k

/-- A cell of a package-level array: the array comes in as a block that is only read. -/
def globX (T : Tbl) (ts : List EV) (h : List Blk) (t : TypeId) (g : Nat) (i : EV) (dst : Option Tmp) (k : St → Prop) : Prop :=
  match T.ty t, i, seatA g with
  | some { d := .array n e, .. }, .s (.int _ x), some (q, m, f) => match T.ty e with
    | some { size := 1, .. } => match Nat.beq m n with
      | true => Need (0 ≤ x ∧ x < n) (pushBK h 0 (.cells false [.ints q m f] 0) fun N h => putK ts h dst (.s (.pix N 0 x.toNat)) k)
      | false => False
    | _ => False
  | _, _, _ => False

/-- The operations with an effect. -/
def effX (T : Tbl) (ts : List EV) (h : List Blk) (o : Oper) (k : St → Prop) : Prop :=
  match o.op with
  | .store t x v => storeX T t (evT ts x) (evT ts v) h fun h => putK ts h o.dst .junk k
  | .alloc t => match T.ty t with
    | some i => match segsOf i.zero with
      | some cs => newX ts h cs o.dst k
      | none => False
    | none => False
  | .box _ x => match segsOf (evT ts x) with
    | some cs => newX ts h cs o.dst k
    | none => False
  | .build t parts => ungK (parts.toList.map fun p => (p.1, evT ts p.2)) fun ps => match buildX T t ps with
    | some cs => forceS cs fun cs => putK ts h o.dst (.agg cs) k
    | none => False
  | .call { callee := .value f, args, .. } => callX T (evT ts f) (args.toList.map (evT ts)) h fun v h => forceE v fun v => putK ts h o.dst v k
  | .call { callee := .invoke r m, args, .. } => invX T m (evT ts r) (args.toList.map (evT ts)) h fun v h => forceE v fun v => putK ts h o.dst v k
  | .mapUpdate t m key v => mupX T ts h t (evT ts m) (evT ts key) (evT ts v) o.dst k
  | .insert t m key v => mupX T ts h t (evT ts m) (evT ts key) (evT ts v) o.dst k
  | .indexAddr t (.global g) i => globX T ts h t g (evT ts i) o.dst k
  | _ => eff2 T ts h o k

/-- One operation without a guard. -/
def opN (T : Tbl) (s : St) (o : Oper) (k : St → Prop) : Prop :=
  match s with
  | ⟨ts, h⟩ => match px T h (evT ts) (evT ts) o.op with
    | .ok v => forceE v fun v => putK ts h o.dst v k
    | .need p v => Need p (forceE v fun v => putK ts h o.dst v k)
    | .fail => effX T ts h o k

def strip : EV → EV
  | .gd _ v => v
  | v => v

def oblig (g : Bool) : List EV → Prop
  | [] => True
  | .gd g' _ :: r => (g = true → g' = true) ∧ oblig g r
  | _ :: r => oblig g r

def obligK (g : Bool) (l : List EV) : Prop → Prop :=
  List.rec (motive := fun _ => Prop → Prop) (fun k => k) (fun x _ ih k => match x with
    | .gd g' _ => Need (g = true → g' = true) (ih k)
    | .s _ => ih k
    | .agg _ => ih k
    | .tuple _ => ih k
    | .junk => ih k) l

theorem obligK_iff (g : Bool) (k : Prop) : ∀ l : List EV, obligK g l k ↔ oblig g l ∧ k
  | [] => by
    show k ↔ True ∧ k
    simp
  | .gd g' _ :: r => by
    show Need (g = true → g' = true) (obligK g r k) ↔ _
    simp only [oblig]
    constructor
    · rintro ⟨h1, h2⟩
      have := (obligK_iff g k r).1 h2
      exact ⟨⟨h1, this.1⟩, this.2⟩
    · rintro ⟨⟨h1, h2⟩, h3⟩
      exact ⟨h1, (obligK_iff g k r).2 ⟨h2, h3⟩⟩
  | .s _ :: r => by simp only [oblig]; exact obligK_iff g k r
  | .agg _ :: r => by simp only [oblig]; exact obligK_iff g k r
  | .tuple _ :: r => by simp only [oblig]; exact obligK_iff g k r
  | .junk :: r => by simp only [oblig]; exact obligK_iff g k r

/-- The operands that an operation's answer hangs on. -/
def looks : Op → List Operand
  | .pick c _ _ => [c]
  | op => op.operands.toList

/-- One operation under a guard. -/
def opG (T : Tbl) (s : St) (o : Oper) (g : Bool) (k : St → Prop) : Prop :=
  match s with
  | ⟨ts, h⟩ => match px T h (fun x => strip (evT ts x)) (evT ts) o.op with
    | .ok v => obligK g ((looks o.op).map (evT ts)) (forceE v fun v => putK ts h o.dst (.gd g v) k)
    | .need p v => obligK g ((looks o.op).map (evT ts)) (Need (g = true → p) (forceE v fun v => putK ts h o.dst (.gd g v) k))
    | .fail => ifB g (opN T ⟨ts, h⟩ o k) (putK ts h o.dst .junk k)

/-- Is an operation wanted? -/
def guardK (ops : Array Oper) (ts : List EV) (j : Nat) (want : Bool) (k : Bool → Prop) : Prop :=
  match ops.toList[j]? with
  | some o => match o.dst with
    | some d => match nth ts d, want with
      | .s (.bool t), true => k t
      | .s (.bool t), false => k (!t)
      | .gd g (.s (.bool t)), true => k (g && t)
      | .gd g (.s (.bool t)), false => k (g && !t)
      | .gd g _, _ => Need (g = false) (k false)
      | _, _ => False
    | none => False
  | none => False

def opX (T : Tbl) (ops : Array Oper) (s : St) (o : Oper) (k : St → Prop) : Prop :=
  match o.guard with
  | none => opN T s o k
  | some (j, want) => guardK ops s.tmps j want fun g => opG T s o g k

def opsX (T : Tbl) (ops : Array Oper) (l : List Oper) : St → (St → Prop) → Prop :=
  List.rec (motive := fun _ => St → (St → Prop) → Prop) (fun s k => k s) (fun o _ ih s k => opX T ops s o fun s' => ih s' k) l

def seqK (next : St → Prop) (K : Exit → St → Prop) : Exit → St → Prop
  | .normal, s => next s
  | e, s => K e s

def blockK (id : Nat) (K : Exit → St → Prop) : Exit → St → Prop
  | .exit i, s => if i = id then K .normal s else K (.exit i) s
  | e, s => K e s

/-- Code with labels: no jump is left. -/
def scopeK (K : Exit → St → Prop) : Exit → St → Prop
  | .goto _, _ => False
  | e, s => K e s

/-- A region that draws its order: behind a name, to be opened by a rule of its own. -/
def DrawG (T : Tbl) (O : Org) (id : Nat) (ops : Array Oper) (s : St) (K : Exit → St → Prop) : Prop :=
  ∀ E a w, Rel O E s a w → (Code.region id ops true).wp T.P (Lift O K) a w

def wpx (T : Tbl) (O : Org) (c : Code) : St → (Exit → St → Prop) → Prop :=
  Code.rec (motive := fun _ => St → (Exit → St → Prop) → Prop)
    (fun s K => K .normal s)
    (fun id ops draw s K => match draw with
      | false => opsX T ops ops.toList s (K .normal)
      | true => DrawG T O id ops s K)
    (fun _ _ wa wb s K => wa s (seqK (fun s' => wb s' K) K))
    (fun c _ _ wa wb s K => match evT s.tmps c with
      | .s (.bool t) => ifB t (wa s K) (wb s K)
      | _ => False)
    (fun id _ wa s K => wa s (blockK id K))
    (fun a _ s K => LoopG T O a s K)
    (fun _ _ _ _ _ _ _ _ => False)
    (fun id s K => K (.exit id) s)
    (fun _ wa s K => wa s (scopeK K))
    (fun _ s K => K .normal s)
    (fun l s K => K (.goto l) s)
    (fun s K => K .ret s)
    (fun _ _ _ => False)
    c

/-- What a function hands back. -/
def resV (T : Tbl) (s : St) : ResultVar → Option EV
  | .tmp t => match nth s.tmps t with
    | .junk => none
    | .gd _ _ => none
    | v => some v
  | .cell p ty => match loadX T s.heap ty (nth s.tmps p) with
    | .ok v => some v
    | _ => none

def resVs (T : Tbl) (s : St) : List ResultVar → Option (List EV)
  | [] => some []
  | r :: rs => match resV T s r, resVs T s rs with
    | some v, some vs => some (v :: vs)
    | _, _ => none

def resX (T : Tbl) (s : St) (rs : List ResultVar) (Q : EV → List Blk → Prop) : Prop :=
  match rs with
  | [r] => match resV T s r with
    | some v => Q v s.heap
    | none => False
  | rs => match resVs T s rs with
    | some vs => Q (.tuple vs) s.heap
    | none => False

def bodyK (T : Tbl) (F : Func) (Q : EV → List Blk → Prop) : Exit → St → Prop
  | .normal, s => resX T s F.results.toList Q
  | .ret, s => resX T s F.results.toList Q
  | _, _ => False

def junks : Nat → List EV
  | 0 => []
  | n + 1 => .junk :: junks n

/-- The frame at the begin. -/
def junkK (n : Nat) : (List EV → Prop) → Prop :=
  Nat.rec (motive := fun _ => (List EV → Prop) → Prop) (fun k => k []) (fun _ ih k => ih fun r => k (.junk :: r)) n

def frameK (l : List EV) : Nat → (List EV → Prop) → Prop :=
  List.rec (motive := fun _ => Nat → (List EV → Prop) → Prop) (fun n k => junkK n k) (fun x _ ih n k => ih (n - 1) fun r => k (x :: r)) l

theorem junkK_eq : ∀ (n : Nat) (k : List EV → Prop), junkK n k = k (junks n)
  | 0, _ => rfl
  | n + 1, k => by
    show (junkK n fun r => k (.junk :: r)) = _
    rw [junkK_eq n]
    rfl

theorem frameK_eq : ∀ (l : List EV) (n : Nat) (k : List EV → Prop), frameK l n k = k (l ++ junks (n - l.length))
  | [], n, k => by
    show junkK n k = _
    rw [junkK_eq]
    simp
  | x :: r, n, k => by
    show (frameK r (n - 1) fun r => k (x :: r)) = _
    rw [frameK_eq r]
    simp only [List.length_cons, List.cons_append]
    rw [show n - 1 - r.length = n - (r.length + 1) by omega]

/-- A function's body, walked. -/
def fnX (T : Tbl) (O : Org) (F : Func) (args : List EV) (h : List Blk) (Q : EV → List Blk → Prop) : Prop :=
  match F.body with
  | some c => frameK args F.ntmps fun ts => wpx T O c ⟨ts, h⟩ (bodyK T F Q)
  | none => False

end Go.Anv
