/- The engine, part 1: small worlds. Values, segments, blocks, what they stand for, and how they lie in a world. No condition: definitions and plain lemmas. -/
import Derived.Tactics
import Derived.Below
import Derived.Laws.World
import Derived.Laws.Sem
import Derived.Laws.Entries
namespace Go.Anv
open Go

/-- A value of one cell. -/
inductive SV where
  | junk
  | int (k : IntKind) (n : Int)
  | bool (b : Bool)
  | str (s : ByteArray)
  | ptr (b o : Nat)
  | pix (b o i : Nat)
  | nilptr
  | slice (b o len cap : Nat)
  | nilslice
  | gs (b o len cap : Nat)
  | map (b : Nat)
  | nilmap
  | func (fn : Fn) (first caps : List SV)
  | nilfunc
  | iface (t : TypeId) (agg : Bool) (cs : List SV)
  | niliface

/-- A run of cells: one, or n whole numbers of one kind. -/
inductive Seg where
  | one (v : SV)
  | ints (k : IntKind) (n : Nat) (f : Nat → Int)

/-- What a slot holds. -/
inductive EV where
  | s (v : SV)
  | agg (cs : List Seg)
  | tuple (vs : List EV)
  | gd (g : Bool) (v : EV)
  | junk

/-- A block: cells (may they be written?), spare room behind them; a map; or one that is no longer looked at. -/
inductive Blk where
  | cells (m : Bool) (cs : List Seg) (sp : Nat)
  | map (es : List (SV × List Seg))
  | dead

/-- A place in a world (nl: none: that of a slice that is nil). -/
structure Loc where
  b : Nat
  o : Nat
  nl : Bool

/-- Where the small blocks lie. -/
structure Emb where
  n : Nat
  f : Nat → Loc

def Emb.at (E : Emb) (b o : Nat) : Addr := ⟨(E.f b).1, (E.f b).2 + o, none⟩

mutual
def denV (E : Emb) : SV → Value → Prop
  | .junk, v => v.oneCell' = true
  | .int k n, v => v = .int k n
  | .bool b, v => v = .bool b
  | .str s, v => v = .string s
  | .ptr b o, v => b < E.n ∧ v = .pointer (some (E.at b o))
  | .pix b o i, v => b < E.n ∧ v = .pointer (some (E.at b (o + i)))
  | .nilptr, v => v = .pointer none
  | .slice b o len cap, v => (b < E.n ∧ (E.f b).nl = false) ∧ v = .slice (some (E.at b o)) len cap
  | .nilslice, v => v = .slice none 0 0
  | .gs b o len cap, v => b < E.n ∧ ((E.f b).nl = true → len = 0 ∧ cap = 0) ∧ v = .slice (if (E.f b).nl then none else some (E.at b o)) len cap
  | .map b, v => b < E.n ∧ v = .map (some (E.f b).1)
  | .nilmap, v => v = .map none
  | .func fn f c, v => ∃ f' c', v = .func fn f' c' ∧ denL E f f'.toList ∧ denL E c c'.toList
  | .nilfunc, v => v = .nilFunc
  | .iface t true cs, v => ∃ l, v = .iface t (.agg l) ∧ denL E cs l.toList
  | .iface t false cs, v => ∃ x, v = .iface t x ∧ denL E cs [x]
  | .niliface, v => v = .nilIface
def denL (E : Emb) : List SV → List Value → Prop
  | [], l => l = []
  | e :: r, l => ∃ v l', l = v :: l' ∧ denV E e v ∧ denL E r l'
end

def intsOf (k : IntKind) (n : Nat) (f : Nat → Int) : List Value := (List.range n).map fun j => .int k (f j)

def denS (E : Emb) : List Seg → List Value → Prop
  | [], l => l = []
  | .one e :: r, l => ∃ v l', l = v :: l' ∧ denV E e v ∧ denS E r l'
  | .ints k n f :: r, l => ∃ l', l = intsOf k n f ++ l' ∧ denS E r l'

mutual
def denE (E : Emb) : EV → Value → Prop
  | .s v, x => denV E v x
  | .agg cs, x => ∃ l, x = .agg l ∧ denS E cs l.toList
  | .tuple vs, x => ∃ l, x = .tuple l ∧ denT E vs l.toList
  | .gd g v, x => (g = true → denE E v x) ∧ (g = false → x = undef)
  | .junk, _ => True
def denT (E : Emb) : List EV → List Value → Prop
  | [], l => l = []
  | e :: r, l => ∃ v l', l = v :: l' ∧ denE E e v ∧ denT E r l'
end

def sizeS : List Seg → Nat
  | [] => 0
  | .one _ :: r => sizeS r + 1
  | .ints _ n _ :: r => n + sizeS r

/-- Of a map's entries. -/
def denM (E : Emb) : List (SV × List Seg) → List MapEntry → Prop
  | [], l => l = []
  | (k, cs) :: r, l => ∃ e l', l = e :: l' ∧ denV E k e.key ∧ denS E cs e.val.cells.toList ∧ denM E r l'

/-- An object of cells of which none may not be written. -/
def rowOk (w : World) (b : Nat) : Prop := ∃ (c : Array Value) (e : TypeId) (lo hi : Nat), w.heap[b]? = some (.cells c e (lo, hi)) ∧ (lo = hi ∨ c.size ≤ lo)

theorem rowOk.frozen {w : World} {b o : Nat} {v : Value} (h : rowOk w b) (hc : w.cell? ⟨b, o, none⟩ = some v) : w.frozen? ⟨b, o, none⟩ = false := by
  obtain ⟨c, e, lo, hi, h1, h2⟩ := h
  simp only [World.cell?, h1] at hc
  have hlt : o < c.size := by
    rcases Nat.lt_or_ge o c.size with h' | h'
    · exact h'
    · simp [Array.getElem?_eq_none h'] at hc
  simp only [World.frozen?, h1, Bool.and_eq_false_iff, decide_eq_false_iff_not]
  omega

theorem rowOk.of_block {w w' : World} {b : Nat} (h : rowOk w b) (hb : w'.heap[b]? = w.heap[b]?) : rowOk w' b := by
  obtain ⟨c, e, lo, hi, h1, h2⟩ := h
  exact ⟨c, e, lo, hi, by rw [hb]; exact h1, h2⟩

/-- A block as it lies in a world. -/
def okBlk (E : Emb) (w : World) (p : Loc) : Blk → Prop
  | .cells m cs sp => (p.1 < w.heap.size ∨ p.nl = true ∧ sizeS cs + sp = 0) ∧ (∃ l, denS E cs l ∧ ∀ j v, l[j]? = some v → w.cell? ⟨p.1, p.2 + j, none⟩ = some v) ∧
      (m = true → ∀ j, j < sizeS cs + sp → (∃ v, w.cell? ⟨p.1, p.2 + j, none⟩ = some v) ∧ rowOk w p.1)
  | .map es => ∃ l clock, w.heap[p.1]? = some (.map l clock) ∧ denM E es l.toList
  | .dead => True

/-- Which cells a block takes. -/
def cov (p : Loc) : Blk → Nat → Nat → Prop
  | .cells _ cs sp, b, o => b = p.1 ∧ p.2 ≤ o ∧ o < p.2 + (sizeS cs + sp)
  | .map _, b, _ => b = p.1
  | .dead, _, _ => False

def Blk.mut : Blk → Bool
  | .cells m _ _ => m
  | .map _ => true
  | .dead => false

structure Sim (E : Emb) (h : List Blk) (w : World) : Prop where
  n : E.n = h.length
  ok : ∀ i B, h[i]? = some B → okBlk E w (E.f i) B
  dis : ∀ i j A B, i ≠ j → h[i]? = some A → h[j]? = some B → A.mut = true → ∀ b o, cov (E.f i) A b o → ¬ cov (E.f j) B b o

/-- Cells that a state may write. -/
def mutAt (E : Emb) (h : List Blk) (b o : Nat) : Prop := ∃ i B, h[i]? = some B ∧ B.mut = true ∧ cov (E.f i) B b o

/-- From one state to a later one. -/
structure Since (E : Emb) (h : List Blk) (w : World) (E' : Emb) (h' : List Blk) (w' : World) : Prop where
  len : h.length ≤ h'.length
  same : ∀ i, i < E.n → E'.f i = E.f i
  size : w.heap.size ≤ w'.heap.size
  frame : ∀ b, b < w.heap.size → (∀ o, ¬ mutAt E h b o) → w'.heap[b]? = w.heap[b]?
  cells : ∀ b o, b < w.heap.size → ¬ mutAt E h b o → w'.cell? ⟨b, o, none⟩ = w.cell? ⟨b, o, none⟩ ∧ ((w.cell? ⟨b, o, none⟩).isSome = true → w'.frozen? ⟨b, o, none⟩ = w.frozen? ⟨b, o, none⟩)
  new : ∀ b o, mutAt E' h' b o → b < w.heap.size → mutAt E h b o
  os : w'.os = w.os
  tape : w'.tape = w.tape
  output : w'.output = w.output
  rows : ∀ b, b < w.heap.size → rowOk w b → rowOk w' b

/-! ### plain lemmas -/

def Emb.le (E E' : Emb) : Prop := E.n ≤ E'.n ∧ ∀ i, i < E.n → E'.f i = E.f i

theorem Emb.le_refl (E : Emb) : E.le E := ⟨Nat.le_refl _, fun _ _ => rfl⟩
theorem Emb.le_trans {A B C : Emb} (h : A.le B) (k : B.le C) : A.le C :=
  ⟨Nat.le_trans h.1 k.1, fun i hi => (k.2 i (Nat.lt_of_lt_of_le hi h.1)).trans (h.2 i hi)⟩

theorem Emb.le_at {E E' : Emb} (h : E.le E') {b : Nat} (hb : b < E.n) (o : Nat) : E'.at b o = E.at b o := by
  simp [Emb.at, h.2 b hb]

mutual
theorem denV_mono {E E' : Emb} (h : E.le E') : ∀ (e : SV) (v : Value), denV E e v → denV E' e v
  | .junk, _, hv => hv
  | .int .., _, hv => hv
  | .bool .., _, hv => hv
  | .str .., _, hv => hv
  | .ptr b o, v, hv => by
    simp only [denV] at hv ⊢
    exact ⟨Nat.lt_of_lt_of_le hv.1 h.1, by rw [Emb.le_at h hv.1]; exact hv.2⟩
  | .pix b o i, v, hv => by
    simp only [denV] at hv ⊢
    exact ⟨Nat.lt_of_lt_of_le hv.1 h.1, by rw [Emb.le_at h hv.1]; exact hv.2⟩
  | .nilptr, _, hv => hv
  | .slice b o len cap, v, hv => by
    simp only [denV] at hv ⊢
    exact ⟨⟨Nat.lt_of_lt_of_le hv.1.1 h.1, by rw [h.2 b hv.1.1]; exact hv.1.2⟩, by rw [Emb.le_at h hv.1.1]; exact hv.2⟩
  | .nilslice, _, hv => hv
  | .gs b o len cap, v, hv => by
    simp only [denV] at hv ⊢
    exact ⟨Nat.lt_of_lt_of_le hv.1 h.1, by rw [h.2 b hv.1]; exact hv.2.1, by rw [Emb.le_at h hv.1, h.2 b hv.1]; exact hv.2.2⟩
  | .map b, v, hv => by
    simp only [denV] at hv ⊢
    exact ⟨Nat.lt_of_lt_of_le hv.1 h.1, by rw [h.2 b hv.1]; exact hv.2⟩
  | .nilmap, _, hv => hv
  | .func fn f c, v, hv => by
    simp only [denV] at hv ⊢
    obtain ⟨f', c', rfl, h1, h2⟩ := hv
    exact ⟨f', c', rfl, denL_mono h f _ h1, denL_mono h c _ h2⟩
  | .nilfunc, _, hv => hv
  | .iface t true cs, v, hv => by
    simp only [denV] at hv ⊢
    obtain ⟨l, rfl, h1⟩ := hv
    exact ⟨l, rfl, denL_mono h cs _ h1⟩
  | .iface t false cs, v, hv => by
    simp only [denV] at hv ⊢
    obtain ⟨x, rfl, h1⟩ := hv
    exact ⟨x, rfl, denL_mono h cs _ h1⟩
  | .niliface, _, hv => hv
theorem denL_mono {E E' : Emb} (h : E.le E') : ∀ (l : List SV) (vs : List Value), denL E l vs → denL E' l vs
  | [], _, hv => hv
  | e :: r, vs, hv => by
    simp only [denL] at hv ⊢
    obtain ⟨v, l', rfl, h1, h2⟩ := hv
    exact ⟨v, l', rfl, denV_mono h e v h1, denL_mono h r l' h2⟩
end

theorem denS_mono {E E' : Emb} (h : E.le E') : ∀ (cs : List Seg) (l : List Value), denS E cs l → denS E' cs l
  | [], _, hv => hv
  | .one e :: r, l, hv => by
    simp only [denS] at hv ⊢
    obtain ⟨v, l', rfl, h1, h3⟩ := hv
    exact ⟨v, l', rfl, denV_mono h e v h1, denS_mono h r l' h3⟩
  | .ints k n f :: r, l, hv => by
    simp only [denS] at hv ⊢
    obtain ⟨l', rfl, h3⟩ := hv
    exact ⟨l', rfl, denS_mono h r l' h3⟩

mutual
theorem denE_mono {E E' : Emb} (h : E.le E') : ∀ (e : EV) (v : Value), denE E e v → denE E' e v
  | .s x, v, hv => by simp only [denE] at hv ⊢; exact denV_mono h x v hv
  | .agg cs, v, hv => by
    simp only [denE] at hv ⊢
    obtain ⟨l, rfl, h1⟩ := hv
    exact ⟨l, rfl, denS_mono h cs _ h1⟩
  | .tuple vs, v, hv => by
    simp only [denE] at hv ⊢
    obtain ⟨l, rfl, h1⟩ := hv
    exact ⟨l, rfl, denT_mono h vs _ h1⟩
  | .gd g x, v, hv => by simp only [denE] at hv ⊢; exact ⟨fun hg => denE_mono h x v (hv.1 hg), hv.2⟩
  | .junk, _, _ => by simp only [denE]
theorem denT_mono {E E' : Emb} (h : E.le E') : ∀ (l : List EV) (vs : List Value), denT E l vs → denT E' l vs
  | [], _, hv => hv
  | e :: r, vs, hv => by
    simp only [denT] at hv ⊢
    obtain ⟨v, l', rfl, h1, h2⟩ := hv
    exact ⟨v, l', rfl, denE_mono h e v h1, denT_mono h r l' h2⟩
end

theorem denM_mono {E E' : Emb} (h : E.le E') : ∀ (es : List (SV × List Seg)) (l : List MapEntry), denM E es l → denM E' es l
  | [], _, hv => hv
  | (k, cs) :: r, l, hv => by
    simp only [denM] at hv ⊢
    obtain ⟨e, l', rfl, h1, h2, h3⟩ := hv
    exact ⟨e, l', rfl, denV_mono h k _ h1, denS_mono h cs _ h2, denM_mono h r l' h3⟩

theorem length_intsOf (k : IntKind) (n : Nat) (f : Nat → Int) : (intsOf k n f).length = n := by simp [intsOf]

theorem denS_length {E : Emb} : ∀ {cs : List Seg} {l : List Value}, denS E cs l → l.length = sizeS cs
  | [], _, hv => by simp only [denS] at hv; subst hv; rfl
  | .one e :: r, l, hv => by
    simp only [denS] at hv
    obtain ⟨v, l', rfl, _, h3⟩ := hv
    simp [sizeS, denS_length h3]
  | .ints k n f :: r, l, hv => by
    simp only [denS] at hv
    obtain ⟨l', rfl, h3⟩ := hv
    simp [sizeS, length_intsOf, denS_length h3]

theorem denV_oneCell {E : Emb} : ∀ {e : SV} {v : Value}, denV E e v → v.oneCell' = true := by
  intro e v h
  cases e with
  | iface t a cs =>
    cases a <;> (simp only [denV] at h; obtain ⟨_, rfl, _⟩ := h; rfl)
  | func fn f c => simp only [denV] at h; obtain ⟨_, _, rfl, _⟩ := h; rfl
  | junk => simpa only [denV] using h
  | ptr b o => simp only [denV] at h; rw [h.2]; rfl
  | pix b o i => simp only [denV] at h; rw [h.2]; rfl
  | slice b o l c => simp only [denV] at h; rw [h.2]; rfl
  | gs b o l c => simp only [denV] at h; rw [h.2.2]; rfl
  | map b => simp only [denV] at h; rw [h.2]; rfl
  | _ => simp only [denV] at h; rw [h]; rfl

theorem denS_oneCell {E : Emb} : ∀ {cs : List Seg} {l : List Value}, denS E cs l → ∀ v ∈ l, v.oneCell' = true
  | [], _, hv => by simp only [denS] at hv; subst hv; intro v hm; cases hm
  | .one e :: r, l, hv => by
    simp only [denS] at hv
    obtain ⟨v, l', rfl, h1, h3⟩ := hv
    intro x hx
    rcases List.mem_cons.1 hx with rfl | hx
    · exact denV_oneCell h1
    · exact denS_oneCell h3 x hx
  | .ints k n f :: r, l, hv => by
    simp only [denS] at hv
    obtain ⟨l', rfl, h3⟩ := hv
    intro x hx
    rcases List.mem_append.1 hx with hx | hx
    · simp only [intsOf, List.mem_map] at hx
      obtain ⟨j, _, rfl⟩ := hx
      rfl
    · exact denS_oneCell h3 x hx

theorem denS_append {E : Emb} : ∀ {a b : List Seg} {l m : List Value}, denS E a l → denS E b m → denS E (a ++ b) (l ++ m)
  | [], b, l, m, h1, h2 => by simp only [denS] at h1; subst h1; exact h2
  | .one e :: r, b, l, m, h1, h2 => by
    simp only [denS] at h1
    obtain ⟨v, l', rfl, h3, h4⟩ := h1
    exact ⟨v, l' ++ m, rfl, h3, denS_append h4 h2⟩
  | .ints k n f :: r, b, l, m, h1, h2 => by
    simp only [denS] at h1
    obtain ⟨l', rfl, h4⟩ := h1
    exact ⟨l' ++ m, by simp, denS_append h4 h2⟩

theorem sizeS_append : ∀ (a b : List Seg), sizeS (a ++ b) = sizeS a + sizeS b
  | [], b => by simp [sizeS]
  | .one _ :: r, b => by simp [sizeS, sizeS_append r b]; omega
  | .ints _ n _ :: r, b => by simp [sizeS, sizeS_append r b]; omega

theorem intsOf_get {k : IntKind} {n : Nat} {f : Nat → Int} {i : Nat} (h : i < n) : (intsOf k n f)[i]? = some (.int k (f i)) := by
  simp [intsOf, h]

theorem Emb.at_add (E : Emb) (b o n : Nat) : (E.at b o).add n = E.at b (o + n) := by
  unfold Emb.at Addr.add
  split
  · subst_vars; simp
  · simp [Nat.add_assoc]

end Go.Anv
