/- Part 5 of the texts of this claim, merged: E11, E12, E13, B1, B2, G1, G2, G3, G4, G5, G6, E15, E16, E17. No condition: plain theorems, contracts of functions. -/
import Derived.Test.YtghcdkpgcanpgaaDoorZ4
import Derived.Defers
import Derived.Laws.Externs
import Derived.KernelRfl
import Derived.Lib.BytesEntry

set_option linter.unusedSimpArgs false
set_option linter.unusedVariables false
/- The engine, part 11: a call whose arguments point into memory: what is shown of a small heap holds within a larger one. Plain theorems; their condition: no new block that may not be written. -/
namespace Go.Anv
open Go

/-! ### other numbers for the blocks -/

def lk : List Nat → Nat → Nat → Nat
  | [], N, i => N + i
  | x :: _, _, 0 => x
  | _ :: r, N, i + 1 => lk r N i

mutual
def renV (ρ : Nat → Nat) : SV → SV
  | .ptr b o => .ptr (ρ b) o
  | .pix b o i => .pix (ρ b) o i
  | .rp b o i z => .rp (ρ b) o i z
  | .slice b o n c => .slice (ρ b) o n c
  | .gs b o n c => .gs (ρ b) o n c
  | .map b => .map (ρ b)
  | .func f a c => .func f (renL ρ a) (renL ρ c)
  | .iface t a cs => .iface t a (renL ρ cs)
  | .junk => .junk
  | .int k n => .int k n
  | .bool b => .bool b
  | .str s => .str s
  | .nilptr => .nilptr
  | .nilslice => .nilslice
  | .nilmap => .nilmap
  | .nilfunc => .nilfunc
  | .niliface => .niliface
def renL (ρ : Nat → Nat) : List SV → List SV
  | [] => []
  | v :: r => renV ρ v :: renL ρ r
end

def renS (ρ : Nat → Nat) : List Seg → List Seg
  | [] => []
  | .one v :: r => .one (renV ρ v) :: renS ρ r
  | .ints k n f :: r => .ints k n f :: renS ρ r

mutual
def renE (ρ : Nat → Nat) : EV → EV
  | .s v => .s (renV ρ v)
  | .agg cs => .agg (renS ρ cs)
  | .tuple vs => .tuple (renT ρ vs)
  | .gd g v => .gd g (renE ρ v)
  | .junk => .junk
def renT (ρ : Nat → Nat) : List EV → List EV
  | [] => []
  | v :: r => renE ρ v :: renT ρ r
end

def renM (ρ : Nat → Nat) : List (SV × EV) → List (SV × EV)
  | [] => []
  | (k, cs) :: r => (renV ρ k, renE ρ cs) :: renM ρ r

def renB (ρ : Nat → Nat) : Blk → Blk
  | .cells m cs sp => .cells m (renS ρ cs) sp
  | .recs m n z f sp => .recs m n z (fun i => renL ρ (f i)) sp
  | .map es => .map (renM ρ es)
  | .dead => .dead

section ren
variable {E E' : Emb} {ρ : Nat → Nat} (hf : ∀ b, ρ b < E'.n → b < E.n) (hb : ∀ b, b < E.n → ρ b < E'.n ∧ E.f b = E'.f (ρ b))
include hf hb

omit hf in
theorem at_ren {b : Nat} (h : b < E.n) (o : Nat) : E.at b o = E'.at (ρ b) o := by
  unfold Emb.at
  rw [(hb b h).2]

mutual
theorem denV_ren : ∀ (e : SV) (v : Value), denV E' (renV ρ e) v ↔ denV E e v
  | .ptr b o, v => by
    simp only [renV, denV]
    exact ⟨fun ⟨h, k⟩ => ⟨hf b h, by rw [at_ren hb (hf b h)]; exact k⟩, fun ⟨h, k⟩ => ⟨(hb b h).1, by rw [← at_ren hb h]; exact k⟩⟩
  | .pix b o i, v => by
    simp only [renV, denV]
    exact ⟨fun ⟨h, k⟩ => ⟨hf b h, by rw [at_ren hb (hf b h)]; exact k⟩, fun ⟨h, k⟩ => ⟨(hb b h).1, by rw [← at_ren hb h]; exact k⟩⟩
  | .rp b o i z, v => by
    simp only [renV, denV]
    exact ⟨fun ⟨h, k⟩ => ⟨hf b h, by rw [at_ren hb (hf b h)]; exact k⟩, fun ⟨h, k⟩ => ⟨(hb b h).1, by rw [← at_ren hb h]; exact k⟩⟩
  | .slice b o n c, v => by
    simp only [renV, denV]
    exact ⟨fun ⟨⟨h, g⟩, k⟩ => ⟨⟨hf b h, by rw [(hb b (hf b h)).2]; exact g⟩, by rw [at_ren hb (hf b h)]; exact k⟩, fun ⟨⟨h, g⟩, k⟩ => ⟨⟨(hb b h).1, by rw [← (hb b h).2]; exact g⟩, by rw [← at_ren hb h]; exact k⟩⟩
  | .gs b o n c, v => by
    simp only [renV, denV]
    exact ⟨fun ⟨h, g, k⟩ => ⟨hf b h, by rw [(hb b (hf b h)).2]; exact g, by rw [at_ren hb (hf b h), (hb b (hf b h)).2]; exact k⟩, fun ⟨h, g, k⟩ => ⟨(hb b h).1, by rw [← (hb b h).2]; exact g, by rw [← at_ren hb h, ← (hb b h).2]; exact k⟩⟩
  | .map b, v => by
    simp only [renV, denV]
    exact ⟨fun ⟨h, k⟩ => ⟨hf b h, by rw [(hb b (hf b h)).2]; exact k⟩, fun ⟨h, k⟩ => ⟨(hb b h).1, by rw [← (hb b h).2]; exact k⟩⟩
  | .func f a c, v => by
    simp only [renV, denV]
    constructor
    · rintro ⟨f', c', rfl, h1, h2⟩
      exact ⟨f', c', rfl, (denL_ren a _).1 h1, (denL_ren c _).1 h2⟩
    · rintro ⟨f', c', rfl, h1, h2⟩
      exact ⟨f', c', rfl, (denL_ren a _).2 h1, (denL_ren c _).2 h2⟩
  | .iface t true cs, v => by
    simp only [renV, denV]
    constructor
    · rintro ⟨l, rfl, h1⟩; exact ⟨l, rfl, (denL_ren cs _).1 h1⟩
    · rintro ⟨l, rfl, h1⟩; exact ⟨l, rfl, (denL_ren cs _).2 h1⟩
  | .iface t false cs, v => by
    simp only [renV, denV]
    constructor
    · rintro ⟨x, rfl, h1⟩; exact ⟨x, rfl, (denL_ren cs _).1 h1⟩
    · rintro ⟨x, rfl, h1⟩; exact ⟨x, rfl, (denL_ren cs _).2 h1⟩
  | .junk, _ => Iff.rfl
  | .int .., _ => Iff.rfl
  | .bool _, _ => Iff.rfl
  | .str _, _ => Iff.rfl
  | .nilptr, _ => Iff.rfl
  | .nilslice, _ => Iff.rfl
  | .nilmap, _ => Iff.rfl
  | .nilfunc, _ => Iff.rfl
  | .niliface, _ => Iff.rfl
theorem denL_ren : ∀ (l : List SV) (vs : List Value), denL E' (renL ρ l) vs ↔ denL E l vs
  | [], _ => by
    have _ := hf
    have _ := hb
    exact Iff.rfl
  | e :: r, vs => by
    simp only [renL, denL]
    constructor
    · rintro ⟨v, l', rfl, h1, h2⟩; exact ⟨v, l', rfl, (denV_ren e v).1 h1, (denL_ren r l').1 h2⟩
    · rintro ⟨v, l', rfl, h1, h2⟩; exact ⟨v, l', rfl, (denV_ren e v).2 h1, (denL_ren r l').2 h2⟩
end

theorem denS_ren : ∀ (cs : List Seg) (l : List Value), denS E' (renS ρ cs) l ↔ denS E cs l
  | [], _ => Iff.rfl
  | .one e :: r, vs => by
    simp only [renS, denS]
    constructor
    · rintro ⟨v, l', rfl, h1, h2⟩; exact ⟨v, l', rfl, (denV_ren hf hb e v).1 h1, (denS_ren r l').1 h2⟩
    · rintro ⟨v, l', rfl, h1, h2⟩; exact ⟨v, l', rfl, (denV_ren hf hb e v).2 h1, (denS_ren r l').2 h2⟩
  | .ints k n f :: r, vs => by
    simp only [renS, denS]
    constructor
    · rintro ⟨l', rfl, h2⟩; exact ⟨l', rfl, (denS_ren r l').1 h2⟩
    · rintro ⟨l', rfl, h2⟩; exact ⟨l', rfl, (denS_ren r l').2 h2⟩

mutual
theorem denE_ren : ∀ (e : EV) (v : Value), denE E' (renE ρ e) v ↔ denE E e v
  | .s x, v => by simp only [renE, denE]; exact denV_ren hf hb x v
  | .agg cs, v => by
    simp only [renE, denE]
    constructor
    · rintro ⟨l, rfl, h⟩; exact ⟨l, rfl, (denS_ren hf hb cs _).1 h⟩
    · rintro ⟨l, rfl, h⟩; exact ⟨l, rfl, (denS_ren hf hb cs _).2 h⟩
  | .tuple vs, v => by
    simp only [renE, denE]
    constructor
    · rintro ⟨l, rfl, h⟩; exact ⟨l, rfl, (denT_ren vs _).1 h⟩
    · rintro ⟨l, rfl, h⟩; exact ⟨l, rfl, (denT_ren vs _).2 h⟩
  | .gd g x, v => by
    simp only [renE, denE]
    exact ⟨fun ⟨h1, h2⟩ => ⟨fun hg => (denE_ren x v).1 (h1 hg), h2⟩, fun ⟨h1, h2⟩ => ⟨fun hg => (denE_ren x v).2 (h1 hg), h2⟩⟩
  | .junk, _ => by simp only [renE, denE]
theorem denT_ren : ∀ (l : List EV) (vs : List Value), denT E' (renT ρ l) vs ↔ denT E l vs
  | [], _ => by
    have _ := hf
    have _ := hb
    simp only [renT, denT]
  | e :: r, vs => by
    simp only [renT, denT]
    constructor
    · rintro ⟨v, l', rfl, h1, h2⟩; exact ⟨v, l', rfl, (denE_ren e v).1 h1, (denT_ren r l').1 h2⟩
    · rintro ⟨v, l', rfl, h1, h2⟩; exact ⟨v, l', rfl, (denE_ren e v).2 h1, (denT_ren r l').2 h2⟩
end

theorem denM_ren : ∀ (es : List (SV × EV)) (l : List MapEntry), denM E' (renM ρ es) l ↔ denM E es l
  | [], _ => Iff.rfl
  | (k, cs) :: r, vs => by
    simp only [renM, denM]
    constructor
    · rintro ⟨e, l', rfl, h1, h2, h3⟩; exact ⟨e, l', rfl, (denV_ren hf hb k _).1 h1, (denE_ren hf hb cs _).1 h2, (denM_ren r l').1 h3⟩
    · rintro ⟨e, l', rfl, h1, h2, h3⟩; exact ⟨e, l', rfl, (denV_ren hf hb k _).2 h1, (denE_ren hf hb cs _).2 h2, (denM_ren r l').2 h3⟩

omit hf hb in
theorem sizeS_ren : ∀ cs : List Seg, sizeS (renS ρ cs) = sizeS cs
  | [] => rfl
  | .one _ :: r => by simp only [renS, sizeS, sizeS_ren r]
  | .ints .. :: r => by simp only [renS, sizeS, sizeS_ren r]

omit hf hb in
theorem renS_append : ∀ a b : List Seg, renS ρ (a ++ b) = renS ρ a ++ renS ρ b
  | [], _ => rfl
  | .one _ :: r, b => by simp only [List.cons_append, renS, renS_append r b]
  | .ints .. :: r, b => by simp only [List.cons_append, renS, renS_append r b]

omit hf hb in
theorem renS_ones : ∀ l : List SV, renS ρ (l.map .one) = (renL ρ l).map .one
  | [] => rfl
  | e :: r => by simp only [List.map_cons, renS, renL, renS_ones r]

omit hf hb in
theorem renS_recS (f : Nat → List SV) : ∀ n, renS ρ (recS n f) = recS n (fun i => renL ρ (f i))
  | 0 => rfl
  | n + 1 => by rw [recS, recS, renS_append, renS_recS f n, renS_ones]

omit hf hb in
theorem length_renL : ∀ l : List SV, (renL ρ l).length = l.length
  | [] => rfl
  | _ :: r => by simp only [renL, List.length_cons, length_renL r]

omit hf hb in
theorem cov_ren (p : Loc) (B : Blk) (b o : Nat) : cov p (renB ρ B) b o ↔ cov p B b o := by
  cases B <;> simp only [renB, cov, sizeS_ren, ← renS_recS]

omit hf hb in
theorem mut_ren (B : Blk) : (renB ρ B).mut = B.mut := by cases B <;> rfl

theorem okBlk_ren {w : World} {p : Loc} (B : Blk) : okBlk E' w p (renB ρ B) ↔ okBlk E w p B := by
  cases B with
  | cells m cs sp =>
    simp only [renB, okBlk, okCells, sizeS_ren]
    constructor
    · rintro ⟨h1, ⟨l, h2, h3⟩, h4⟩; exact ⟨h1, ⟨l, (denS_ren hf hb cs l).1 h2, h3⟩, h4⟩
    · rintro ⟨h1, ⟨l, h2, h3⟩, h4⟩; exact ⟨h1, ⟨l, (denS_ren hf hb cs l).2 h2, h3⟩, h4⟩
  | recs m n z f sp =>
    simp only [renB, okBlk, okCells, length_renL, ← renS_recS, sizeS_ren]
    constructor
    · rintro ⟨h0, h1, ⟨l, h2, h3⟩, h4⟩; exact ⟨h0, h1, ⟨l, (denS_ren hf hb _ l).1 h2, h3⟩, h4⟩
    · rintro ⟨h0, h1, ⟨l, h2, h3⟩, h4⟩; exact ⟨h0, h1, ⟨l, (denS_ren hf hb _ l).2 h2, h3⟩, h4⟩
  | map es =>
    simp only [renB, okBlk]
    constructor
    · rintro ⟨l, c, h1, h2⟩; exact ⟨l, c, h1, (denM_ren hf hb es _).1 h2⟩
    · rintro ⟨l, c, h1, h2⟩; exact ⟨l, c, h1, (denM_ren hf hb es _).2 h2⟩
  | dead => exact Iff.rfl

end ren

/-! ### the larger heap behind a call -/

/-- Blocks that may not be written are as they were; none is new. -/
def roOk : List Blk → List Blk → Prop
  | B :: r, B' :: r' => (B'.mut = true ∨ B' = .dead ∨ B' = B) ∧ roOk r r'
  | _, [] => True
  | [], B' :: r' => (B'.mut = true ∨ B' = .dead) ∧ roOk [] r'

theorem roOk_get : ∀ {h h' : List Blk}, roOk h h' → ∀ (i : Nat) (B : Blk), h'[i]? = some B → B.mut = true ∨ B = .dead ∨ h[i]? = some B
  | B :: r, B' :: r', hk, 0, C, hi => by
    simp only [List.getElem?_cons_zero, Option.some.injEq] at hi
    subst hi
    rcases hk.1 with h | h | h
    · exact .inl h
    · exact .inr (.inl h)
    · exact .inr (.inr (by simp [h]))
  | B :: r, B' :: r', hk, i + 1, C, hi => by
    simpa using roOk_get hk.2 i C (by simpa using hi)
  | [], [], _, i, C, hi => by simp at hi
  | _ :: _, [], _, i, C, hi => by simp at hi
  | [], B' :: r', hk, 0, C, hi => by
    simp only [List.getElem?_cons_zero, Option.some.injEq] at hi
    subst hi
    rcases hk.1 with h | h
    · exact .inl h
    · exact .inr (.inl h)
  | [], B' :: r', hk, i + 1, C, hi => by
    have := roOk_get hk.2 i C (by simpa using hi)
    simpa using this

/-- The callee's blocks put back. -/
def mergeB : List Blk → List Nat → List Blk → List Blk
  | h, [], h' => h ++ h'
  | h, k :: κ, B :: h' => mergeB (updB h k B) κ h'
  | h, _ :: _, [] => h

def renH (ρ : Nat → Nat) : List Blk → List Blk
  | [] => []
  | B :: r => renB ρ B :: renH ρ r

theorem renH_get (ρ : Nat → Nat) : ∀ (h : List Blk) (i : Nat), (renH ρ h)[i]? = (h[i]?).map (renB ρ)
  | [], i => by simp [renH]
  | B :: r, 0 => by simp [renH]
  | B :: r, i + 1 => by simp [renH, renH_get ρ r i]

theorem length_renH (ρ : Nat → Nat) : ∀ h : List Blk, (renH ρ h).length = h.length
  | [] => rfl
  | _ :: r => by simp [renH, length_renH ρ r]

theorem look_ge : ∀ (κ : List Nat) (N i : Nat), κ.length ≤ i → lk κ N i = N + (i - κ.length)
  | [], N, i, _ => by simp [lk]
  | _ :: r, N, 0, h => by simp at h
  | _ :: r, N, i + 1, h => by simp [lk, look_ge r N i (by simpa using h)]

theorem look_lt : ∀ (κ : List Nat) (N i : Nat) (h : i < κ.length), lk κ N i = κ[i]
  | [], N, i, h => by simp at h
  | _ :: r, N, 0, h => by simp [lk]
  | _ :: r, N, i + 1, h => by simp [lk, look_lt r N i (by simpa using h)]

theorem mergeB_length : ∀ (h : List Blk) (κ : List Nat) (h' : List Blk), κ.length ≤ h'.length → (mergeB h κ h').length = h.length + (h'.length - κ.length)
  | h, [], h', _ => by simp [mergeB]
  | h, k :: κ, B :: h', hl => by
    have := mergeB_length (updB h k B) κ h' (by simpa using hl)
    rw [updB_eq, List.length_set] at this
    simp only [mergeB, updB_eq, this, List.length_cons]
    omega
  | h, _ :: _, [], hl => by simp at hl

/-- What stands at a number of the larger heap. -/
theorem mergeB_get : ∀ (h : List Blk) (κ : List Nat) (h' : List Blk), κ.Nodup → (∀ k ∈ κ, k < h.length) → κ.length ≤ h'.length → ∀ (j : Nat) (B : Blk), (mergeB h κ h')[j]? = some B →
    (j < h.length ∧ j ∉ κ ∧ h[j]? = some B) ∨ ∃ i, lk κ h.length i = j ∧ h'[i]? = some B
  | h, [], h', _, _, _, j, B, hj => by
    simp only [mergeB] at hj
    rcases Nat.lt_or_ge j h.length with h1 | h1
    · rw [List.getElem?_append_left h1] at hj
      exact .inl ⟨h1, by simp, hj⟩
    · rw [List.getElem?_append_right h1] at hj
      exact .inr ⟨j - h.length, by simp [lk]; omega, hj⟩
  | h, k :: κ, B' :: h', hnd, hlt, hl, j, B, hj => by
    simp only [mergeB, updB_eq] at hj
    rw [List.nodup_cons] at hnd
    have ih := mergeB_get (h.set k B') κ h' hnd.2 (fun x hx => by rw [List.length_set]; exact hlt x (List.mem_cons_of_mem _ hx)) (by simpa using hl) j B hj
    rw [List.length_set] at ih
    rcases ih with ⟨h1, h2, h3⟩ | ⟨i, h1, h2⟩
    · by_cases hjk : j = k
      · subst hjk
        rw [List.getElem?_set_self h1] at h3
        exact .inr ⟨0, by simp [lk], by simpa using h3⟩
      · rw [List.getElem?_set_ne (Ne.symm hjk)] at h3
        exact .inl ⟨h1, by simp [hjk, h2], h3⟩
    · exact .inr ⟨i + 1, by simpa [lk] using h1, by simpa using h2⟩
  | h, _ :: _, [], _, _, hl, _, _, _ => by simp at hl


/-- The callee's blocks, where they lie in the larger heap. -/
def subH (h : List Blk) : List Nat → List Blk → Prop
  | [], [] => True
  | k :: κ, B :: r => nthB h k = some B ∧ subH h κ r
  | _, _ => False

theorem subH_get {h : List Blk} : ∀ {κ : List Nat} {r : List Blk}, subH h κ r → κ.length = r.length ∧ ∀ (i : Nat) (B : Blk), r[i]? = some B → ∃ k, κ[i]? = some k ∧ h[k]? = some B
  | [], [], _ => ⟨rfl, fun i B hi => by simp at hi⟩
  | k :: κ, B :: r, hk => by
    obtain ⟨h1, h2⟩ := subH_get hk.2
    refine ⟨by simp [h1], fun i C hi => ?_⟩
    cases i with
    | zero =>
      simp only [List.getElem?_cons_zero, Option.some.injEq] at hi
      subst hi
      exact ⟨k, by simp, nthB_get hk.1⟩
    | succ i => simpa using h2 i C (by simpa using hi)
  | [], _ :: _, hk => hk.elim
  | _ :: _, [], hk => hk.elim

theorem lt_of_get {h : List Blk} {i : Nat} {B : Blk} (hi : h[i]? = some B) : i < h.length := by
  rcases Nat.lt_or_ge i h.length with h' | h'
  · exact h'
  · rw [List.getElem?_eq_none h'] at hi; cases hi

/-- **A call within a larger heap.** -/
theorem frame_core {args : List EV} {hc : List Blk} {Q : EV → List Blk → Prop} (κ : List Nat) {h : List Blk} (hnd : κ.Nodup) (hro : ∀ v h', Q v h' → roOk hc h')
    (hh : subH h κ (renH (lk κ h.length) hc)) {E : Emb} {w : World} {vs : List Value} (S : Sim E h w) (ha : denT E (renT (lk κ h.length) args) vs) :
    ∃ Ec, Sim Ec hc w ∧ (TabOk E h w → TabOk Ec hc w) ∧ denT Ec args vs ∧ ∀ e w', Post Ec hc w Q e w' → Post E h w (fun v h'' => ∃ v' h', Q v' h' ∧ v = renE (lk κ h.length) v' ∧ h'' = mergeB h κ (renH (lk κ h.length) h')) e w' := by
  obtain ⟨hl, hget⟩ := subH_get hh
  rw [length_renH] at hl
  let ρ := lk κ h.length
  let Ec : Emb := ⟨hc.length, fun i => E.f (ρ i)⟩
  have hκ : ∀ i, i < hc.length → ρ i ∈ κ ∧ ρ i < h.length := fun i hi => by
    have hi' : i < κ.length := by omega
    have : i < (renH ρ hc).length := by rw [length_renH]; exact hi
    obtain ⟨k, h1, h2⟩ := hget i _ (List.getElem?_eq_getElem this)
    have h3 : ρ i = k := by
      show lk κ h.length i = k
      rw [look_lt κ _ i hi']
      rw [List.getElem?_eq_getElem hi'] at h1
      exact Option.some.inj h1
    rw [h3]
    exact ⟨List.mem_of_getElem? h1, lt_of_get h2⟩
  have hblk : ∀ (i : Nat) (B : Blk), hc[i]? = some B → h[ρ i]? = some (renB ρ B) := fun i B hi => by
    obtain ⟨k, h1, h2⟩ := hget i (renB ρ B) (by rw [renH_get, hi]; rfl)
    have hi' : i < κ.length := by have := lt_of_get hi; omega
    have h3 : ρ i = k := by
      show lk κ h.length i = k
      rw [look_lt κ _ i hi']
      rw [List.getElem?_eq_getElem hi'] at h1
      exact Option.some.inj h1
    rw [h3]
    exact h2
  have hinj : ∀ i j, ρ i = ρ j → i = j := fun i j hij => by
    have hij' : lk κ h.length i = lk κ h.length j := hij
    rcases Nat.lt_or_ge i κ.length with h1 | h1 <;> rcases Nat.lt_or_ge j κ.length with h2 | h2
    · rw [look_lt κ _ i h1, look_lt κ _ j h2] at hij'
      have hp := List.pairwise_iff_getElem.1 hnd
      rcases Nat.lt_trichotomy i j with h3 | h3 | h3
      · exact absurd hij' (hp i j h1 h2 h3)
      · exact h3
      · exact absurd hij'.symm (hp j i h2 h1 h3)
    · have := (hκ i (by omega)).2
      rw [hij] at this
      have h3 : ρ j = h.length + (j - κ.length) := look_ge κ _ j h2
      omega
    · have := (hκ j (by omega)).2
      rw [← hij] at this
      have h3 : ρ i = h.length + (i - κ.length) := look_ge κ _ i h1
      omega
    · rw [look_ge κ _ i h1, look_ge κ _ j h2] at hij'
      omega
  have hfwd : ∀ b, ρ b < E.n → b < Ec.n := fun b hb => by
    rcases Nat.lt_or_ge b κ.length with h1 | h1
    · show b < hc.length; omega
    · have h3 : ρ b = h.length + (b - κ.length) := look_ge κ _ b h1
      have := S.n
      omega
  have hbwd : ∀ b, b < Ec.n → ρ b < E.n ∧ Ec.f b = E.f (ρ b) := fun b hb => ⟨by rw [S.n]; exact (hκ b hb).2, rfl⟩
  have Sc : Sim Ec hc w := by
    refine ⟨rfl, fun i B hi => ?_, fun i j A B hij hi hj hA b o hcv hcv' => ?_⟩
    · exact (okBlk_ren hfwd hbwd B).1 (S.ok _ _ (hblk i B hi))
    · exact S.dis (ρ i) (ρ j) _ _ (fun e => hij (hinj i j e)) (hblk i A hi) (hblk j B hj) (by rw [mut_ren]; exact hA) b o ((cov_ren _ A b o).2 hcv) ((cov_ren _ B b o).2 hcv')
  refine ⟨Ec, Sc, fun Z => Z.sub fun b o ⟨i, B, h1, h2, h3⟩ => ⟨ρ i, renB ρ B, hblk i B h1, by rw [mut_ren]; exact h2, (cov_ren _ B b o).2 h3⟩, (denT_ren hfwd hbwd args _).1 ha, ?_⟩
  rintro e w' ⟨v, x, h', E', rfl, hd, S', N', hq⟩
  have hroq := hro _ _ hq
  have hlen : hc.length ≤ h'.length := N'.len
  let E1 : Emb := ⟨h.length + (h'.length - hc.length), fun j => if j < h.length then E.f j else E'.f (hc.length + (j - h.length))⟩
  have hfwd1 : ∀ b, ρ b < E1.n → b < E'.n := fun b hb => by
    rw [S'.n]
    rcases Nat.lt_or_ge b κ.length with h1 | h1
    · omega
    · have h3 : ρ b = h.length + (b - κ.length) := look_ge κ _ b h1
      have : ρ b < h.length + (h'.length - hc.length) := hb
      omega
  have hbwd1 : ∀ b, b < E'.n → ρ b < E1.n ∧ E'.f b = E1.f (ρ b) := fun b hb => by
    rw [S'.n] at hb
    rcases Nat.lt_or_ge b κ.length with h1 | h1
    · have h2 := (hκ b (by omega)).2
      refine ⟨Nat.lt_of_lt_of_le h2 (Nat.le_add_right _ _), ?_⟩
      have h3 : E'.f b = Ec.f b := N'.same b (by show b < hc.length; omega)
      have h4 : E1.f (ρ b) = E.f (ρ b) := if_pos h2
      rw [h3, h4]
    · have h3 : ρ b = h.length + (b - κ.length) := look_ge κ _ b h1
      refine ⟨by rw [h3]; show _ < h.length + (h'.length - hc.length); omega, ?_⟩
      have h4 : E1.f (ρ b) = E'.f (hc.length + (ρ b - h.length)) := if_neg (by omega)
      rw [h4, h3]
      congr 1
      omega
  have leE : E.le E1 := ⟨by rw [S.n]; exact Nat.le_add_right _ _, fun i hi => if_pos (by rw [← S.n]; exact hi)⟩
  have hml : ∀ b o, mutAt Ec hc b o → ∃ i B, i ∈ κ ∧ h[i]? = some B ∧ B.mut = true ∧ cov (E.f i) B b o := fun b o ⟨i, B, h1, h2, h3⟩ =>
    ⟨ρ i, renB ρ B, (hκ i (lt_of_get h1)).1, hblk i B h1, by rw [mut_ren]; exact h2, (cov_ren _ B b o).2 h3⟩
  have hm2 : ∀ b o, mutAt Ec hc b o → mutAt E h b o := fun b o hm => by
    obtain ⟨i, B, _, h1, h2, h3⟩ := hml b o hm
    exact ⟨i, B, h1, h2, h3⟩
  -- what stands at a number
  have hcase : ∀ (j : Nat) (B : Blk), (mergeB h κ (renH ρ h'))[j]? = some B → (j < h.length ∧ j ∉ κ ∧ h[j]? = some B ∧ E1.f j = E.f j) ∨ ∃ i B', ρ i = j ∧ h'[i]? = some B' ∧ B = renB ρ B' ∧ E1.f j = E'.f i := fun j B hj => by
    rcases mergeB_get h κ (renH ρ h') hnd (fun k hk => by
      obtain ⟨i, hi⟩ := List.getElem?_of_mem hk
      have hi1 : i < κ.length := by
        rcases Nat.lt_or_ge i κ.length with h' | h'
        · exact h'
        · rw [List.getElem?_eq_none h'] at hi; cases hi
      have := (hκ i (by omega)).2
      have h3 : ρ i = k := by
        show lk κ h.length i = k
        rw [look_lt κ _ i hi1]
        rw [List.getElem?_eq_getElem hi1] at hi
        exact Option.some.inj hi
      rwa [h3] at this) (by rw [length_renH]; omega) j B hj with ⟨h1, h2, h3⟩ | ⟨i, h1, h2⟩
    · exact .inl ⟨h1, h2, h3, if_pos h1⟩
    · rw [renH_get] at h2
      cases hq : h'[i]? with
      | none => rw [hq] at h2; cases h2
      | some B' =>
        rw [hq] at h2
        simp only [Option.map_some, Option.some.injEq] at h2
        refine .inr ⟨i, B', h1, hq, h2.symm, ?_⟩
        have h1' : ρ i = j := h1
        rw [← h1', (hbwd1 i (by rw [S'.n]; exact lt_of_get hq)).2]
  -- an old block outside the call's is as it was
  have hout : ∀ (j : Nat) (B : Blk), j ∉ κ → h[j]? = some B → ∀ b o, cov (E.f j) B b o → ¬ mutAt Ec hc b o := fun j B hjk hj b o hcv hm => by
    obtain ⟨i, A, h1, h2, h3, h4⟩ := hml b o hm
    exact S.dis i j A B (fun e => hjk (e ▸ h1)) h2 hj h3 b o h4 hcv
  have S1 : Sim E1 (mergeB h κ (renH ρ h')) w' := by
    refine ⟨?_, fun j B hj => ?_, fun i j A B hij hi hj hA b o hcv hcv' => ?_⟩
    · rw [mergeB_length h κ _ (by rw [length_renH]; omega), length_renH, hl]
    · rcases hcase j B hj with ⟨h1, h2, h3, h4⟩ | ⟨i, B', h1, h2, rfl, h4⟩
      · rw [h4]
        have hk := S.ok j B h3
        have hno := hout j B h2 h3
        have cel : ∀ (m : Bool) (cs : List Seg) (sp : Nat), okCells E w (E.f j) m cs sp → (∀ b o, b = (E.f j).1 ∧ (E.f j).2 ≤ o ∧ o < (E.f j).2 + (sizeS cs + sp) → ¬ mutAt Ec hc b o) → okCells E1 w' (E.f j) m cs sp := by
          intro m cs sp hk hno
          obtain ⟨k1, ⟨l, k2, k3⟩, k4⟩ := hk
          have hb' : ∀ x, x < sizeS cs + sp → (E.f j).1 < w.heap.size := fun x hx => by
            rcases k1 with k1 | k1
            · exact k1
            · omega
          refine ⟨?_, ⟨l, denS_mono leE cs l k2, fun x v hx => ?_⟩, fun hm x hx => ?_⟩
          · rcases k1 with k1 | k1
            · exact .inl (Nat.lt_of_lt_of_le k1 N'.size)
            · exact .inr k1
          · have hx' : x < sizeS cs := by
              rw [← denS_length k2]
              rcases Nat.lt_or_ge x l.length with h' | h'
              · exact h'
              · rw [List.getElem?_eq_none h'] at hx; cases hx
            rw [(N'.cells _ _ (hb' x (by omega)) (hno _ _ ⟨rfl, by omega, by omega⟩)).1]
            exact k3 x v hx
          · obtain ⟨q1, q2⟩ := k4 hm x hx
            rw [(N'.cells _ _ (hb' x hx) (hno _ _ ⟨rfl, by omega, by omega⟩)).1]
            exact ⟨q1, N'.rows _ (hb' x hx) q2⟩
        cases B with
        | cells m cs sp => exact cel m cs sp hk hno
        | recs m n z f sp => exact ⟨hk.1, cel m _ sp hk.2 hno⟩
        | map es =>
          obtain ⟨l, c', k1, k2⟩ := hk
          have hlt : (E.f j).1 < w.heap.size := S.cov_lt h3 (b := (E.f j).1) (o := 0) rfl
          exact ⟨l, c', by rw [N'.frame _ hlt (fun o => hno _ o rfl)]; exact k1, denM_mono leE es _ k2⟩
        | dead => trivial
      · rw [h4]
        exact (okBlk_ren hfwd1 hbwd1 B').2 (S'.ok i B' h2)
    · rcases hcase i A hi with ⟨a1, a2, a3, a4⟩ | ⟨i', A', a1, a2, rfl, a4⟩ <;> rcases hcase j B hj with ⟨b1, b2, b3, b4⟩ | ⟨j', B', b1, b2, rfl, b4⟩
      · rw [a4] at hcv
        rw [b4] at hcv'
        exact S.dis i j A B hij a3 b3 hA b o hcv hcv'
      · rw [a4] at hcv
        rw [b4, cov_ren] at hcv'
        have hlt := S.cov_lt a3 hcv
        rcases roOk_get hroq j' B' b2 with hm | rfl | hsame
        · exact hout i A a2 a3 b o hcv (N'.new b o ⟨j', B', b2, hm, hcv'⟩ hlt)
        · exact hcv'
        · have h5 : E'.f j' = Ec.f j' := N'.same j' (lt_of_get hsame)
          rw [h5] at hcv'
          exact S.dis i (ρ j') A _ (fun e => a2 (by rw [e]; exact (hκ j' (lt_of_get hsame)).1)) a3 (hblk j' B' hsame) hA b o hcv ((cov_ren _ B' b o).2 hcv')
      · rw [a4, cov_ren] at hcv
        rw [b4] at hcv'
        rw [mut_ren] at hA
        have hlt := S.cov_lt b3 hcv'
        exact hout j B b2 b3 b o hcv' (N'.new b o ⟨i', A', a2, hA, hcv⟩ hlt)
      · rw [a4, cov_ren] at hcv
        rw [b4, cov_ren] at hcv'
        rw [mut_ren] at hA
        exact S'.dis i' j' A' B' (fun e => hij (by rw [← a1, ← b1, e])) a2 b2 hA b o hcv hcv'
  have N1 : Since E h w E1 (mergeB h κ (renH ρ h')) w' := by
    refine ⟨?_, fun i hi => if_pos (by rw [← S.n]; exact hi), N'.size, fun b hb hm => N'.frame b hb (fun o ho => hm o (hm2 b o ho)), fun b o hb hm => N'.cells b o hb (fun ho => hm (hm2 b o ho)), fun b o hm hb => ?_, N'.os, N'.tape, N'.output, N'.rows⟩
    · rw [mergeB_length h κ _ (by rw [length_renH]; omega)]
      exact Nat.le_add_right _ _
    · obtain ⟨j, B, hj, hB, hcv⟩ := hm
      rcases hcase j B hj with ⟨h1, h2, h3, h4⟩ | ⟨i, B', h1, h2, rfl, h4⟩
      · rw [h4] at hcv
        exact ⟨j, B, h3, hB, hcv⟩
      · rw [h4, cov_ren] at hcv
        rw [mut_ren] at hB
        exact hm2 b o (N'.new b o ⟨i, B', h2, hB, hcv⟩ hb)
  exact ⟨v, renE ρ x, mergeB h κ (renH ρ h'), E1, rfl, (denE_ren hfwd1 hbwd1 x v).2 hd, S1, N1, x, h', hq, rfl, rfl⟩

theorem Does.frame {T : Tbl} {f : FuncId} {args : List EV} {hc : List Blk} {Q : EV → List Blk → Prop} (c : Does T f args hc Q) (κ : List Nat) {h : List Blk} (hnd : κ.Nodup) (hro : ∀ v h', Q v h' → roOk hc h')
    (hh : subH h κ (renH (lk κ h.length) hc)) : Does T f (renT (lk κ h.length) args) h (fun v h'' => ∃ v' h', Q v' h' ∧ v = renE (lk κ h.length) v' ∧ h'' = mergeB h κ (renH (lk κ h.length) h')) := by
  refine ⟨?_⟩
  rcases c.go with ⟨h1, h2⟩ | h1
  · refine .inl ⟨h1, fun E w vs S Z ha => ?_⟩
    obtain ⟨Ec, k1, kz, k2, k3⟩ := frame_core κ hnd hro hh S ha
    exact (h2 Ec w vs k1 (kz Z) k2).mono k3
  · refine .inr fun E w vs S ha => ?_
    obtain ⟨Ec, k1, _, k2, k3⟩ := frame_core κ hnd hro hh S ha
    obtain ⟨u, w', h2, h3⟩ := h1 Ec w vs k1 k2
    exact ⟨u, w', h2, k3 _ _ h3⟩

/-! ### for the walker -/

def forceB (B : Blk) (k : Blk → Prop) : Prop :=
  match B with
  | .cells m cs sp => forceS cs fun cs => k (.cells m cs sp)
  | .recs m n z f sp => k (.recs m n z f sp)
  | .map es => k (.map es)
  | .dead => k .dead

def forceH (l : List Blk) : (List Blk → Prop) → Prop :=
  List.rec (motive := fun _ => (List Blk → Prop) → Prop) (fun k => k []) (fun B _ ih k => forceB B fun B => ih fun r => k (B :: r)) l

theorem forceB_eq (B : Blk) (k : Blk → Prop) : forceB B k = k B := by cases B <;> simp only [forceB, forceS_eq]
theorem forceH_eq : ∀ (h : List Blk) (k : List Blk → Prop), forceH h k = k h
  | [], _ => rfl
  | B :: r, k => by
    show (forceB B fun B => forceH r fun r => k (B :: r)) = _
    rw [forceB_eq, forceH_eq r]

/-- **A call by its contract, shown of a small heap.** -/
theorem Does.at {T : Tbl} {f : FuncId} {args : List EV} {hc : List Blk} {Q : EV → List Blk → Prop} (c : Does T f args hc Q) (κ : List Nat) {args' : List EV} {h : List Blk} {K : EV → List Blk → Prop}
    (ha : args' = renT (lk κ h.length) args) (hh : subH h κ (renH (lk κ h.length) hc)) (hnd : κ.Nodup) (hro : ∀ v h', Q v h' → roOk hc h')
    (hK : ∀ v' h', Q v' h' → forceH (mergeB h κ (renH (lk κ h.length) h')) fun h2 => forceE (renE (lk κ h.length) v') fun v => K v h2) : Does T f args' h K := by
  rw [ha]
  refine (c.frame κ hnd hro hh).mono ?_
  rintro v h'' ⟨v', h', hq, rfl, rfl⟩
  have := hK v' h' hq
  rwa [forceH_eq, forceE_eq] at this

end Go.Anv

/- The engine, part 12: states with fewer blocks and other numbers: at a loop's head, at a function's end. Plain theorems; their condition: the blocks that were there at the begin keep their numbers. -/
namespace Go.Anv
open Go

def idK : Nat → Nat → List Nat → Prop
  | _, 0, _ => True
  | k, n + 1, x :: r => x = k ∧ idK (k + 1) n r
  | _, _ + 1, [] => False

theorem idK_get : ∀ {n k : Nat} {κ : List Nat}, idK k n κ → ∀ i, i < n → κ[i]? = some (k + i)
  | 0, _, _, _, i, hi => by omega
  | n + 1, k, x :: r, h, 0, _ => by simp [h.1]
  | n + 1, k, x :: r, h, i + 1, hi => by
    have := idK_get h.2 i (by omega)
    simp only [List.getElem?_cons_succ, this, Option.some.injEq]
    omega
  | n + 1, k, [], h, _, _ => h.elim

/-- Blocks of a small world, by their numbers, stand for others. -/
def subQ (h : List Blk) : List Nat → List Blk → Prop
  | [], [] => True
  | k :: κ, B :: r => (∃ A, nthB h k = some A ∧ eqvB A B) ∧ subQ h κ r
  | _, _ => False

theorem subQ_get {h : List Blk} : ∀ {κ : List Nat} {r : List Blk}, subQ h κ r → κ.length = r.length ∧ ∀ (i : Nat) (B : Blk), r[i]? = some B → ∃ k A, κ[i]? = some k ∧ h[k]? = some A ∧ eqvB A B
  | [], [], _ => ⟨rfl, fun i B hi => by simp at hi⟩
  | k :: κ, B :: r, hk => by
    obtain ⟨h1, h2⟩ := subQ_get hk.2
    refine ⟨by simp [h1], fun i C hi => ?_⟩
    cases i with
    | zero =>
      simp only [List.getElem?_cons_zero, Option.some.injEq] at hi
      subst hi
      obtain ⟨A, h3, h4⟩ := hk.1
      exact ⟨k, A, by simp, nthB_get h3, h4⟩
    | succ i => simpa using h2 i C (by simpa using hi)
  | [], _ :: _, hk => hk.elim
  | _ :: _, [], hk => hk.elim

/-- One small world tells no more than another, with other numbers. -/
theorem Sim.renum {E : Emb} {h H : List Blk} {w : World} (S : Sim E h w) {κ : List Nat} (hnd : κ.Nodup) (hh : subQ h κ (renH (lk κ h.length) H)) :
    Sim ⟨H.length, fun i => E.f (lk κ h.length i)⟩ H w ∧ (∀ b, lk κ h.length b < E.n → b < H.length) ∧ (∀ b, b < H.length → lk κ h.length b < E.n) ∧
      (∀ b o, mutAt ⟨H.length, fun i => E.f (lk κ h.length i)⟩ H b o → mutAt E h b o) := by
  obtain ⟨hl, hget⟩ := subQ_get hh
  rw [length_renH] at hl
  have hblk : ∀ (i : Nat) (B : Blk), H[i]? = some B → ∃ A, h[lk κ h.length i]? = some A ∧ eqvB A (renB (lk κ h.length) B) := fun i B hi => by
    obtain ⟨k, A, h1, h2, h3⟩ := hget i (renB (lk κ h.length) B) (by rw [renH_get, hi]; rfl)
    have hi' : i < κ.length := by have := lt_of_get hi; omega
    have h4 : lk κ h.length i = k := by
      rw [look_lt κ _ i hi']
      rw [List.getElem?_eq_getElem hi'] at h1
      exact Option.some.inj h1
    exact ⟨A, by rw [h4]; exact h2, h3⟩
  have hκ : ∀ i, i < H.length → lk κ h.length i < h.length := fun i hi => by
    obtain ⟨A, h1, _⟩ := hblk i _ (List.getElem?_eq_getElem hi)
    exact lt_of_get h1
  have hinj : ∀ i j, lk κ h.length i = lk κ h.length j → i = j := fun i j hij => by
    rcases Nat.lt_or_ge i κ.length with h1 | h1 <;> rcases Nat.lt_or_ge j κ.length with h2 | h2
    · rw [look_lt κ _ i h1, look_lt κ _ j h2] at hij
      have hp := List.pairwise_iff_getElem.1 hnd
      rcases Nat.lt_trichotomy i j with h3 | h3 | h3
      · exact absurd hij (hp i j h1 h2 h3)
      · exact h3
      · exact absurd hij.symm (hp j i h2 h1 h3)
    · have := hκ i (by omega)
      rw [hij, look_ge κ _ j h2] at this
      omega
    · have := hκ j (by omega)
      rw [← hij, look_ge κ _ i h1] at this
      omega
    · rw [look_ge κ _ i h1, look_ge κ _ j h2] at hij
      omega
  have hfwd : ∀ b, lk κ h.length b < E.n → b < H.length := fun b hb => by
    rcases Nat.lt_or_ge b κ.length with h1 | h1
    · omega
    · rw [look_ge κ _ b h1, S.n] at hb
      omega
  have hbwd : ∀ b, b < H.length → lk κ h.length b < E.n ∧ E.f (lk κ h.length b) = E.f (lk κ h.length b) := fun b hb => ⟨by rw [S.n]; exact hκ b hb, rfl⟩
  refine ⟨⟨rfl, fun i B hi => ?_, fun i j A B hij hi hj hA b o hcv hcv' => ?_⟩, hfwd, fun b hb => (hbwd b hb).1, fun b o hm => ?_⟩
  · obtain ⟨A, h1, h2⟩ := hblk i B hi
    exact (okBlk_ren (E := ⟨H.length, fun i => E.f (lk κ h.length i)⟩) hfwd hbwd B).1 (eqvB_ok h2 (S.ok _ _ h1))
  · obtain ⟨A', h1, h2⟩ := hblk i A hi
    obtain ⟨B', h3, h4⟩ := hblk j B hj
    refine S.dis (lk κ h.length i) (lk κ h.length j) A' B' (fun e => hij (hinj i j e)) h1 h3 ?_ b o ?_ ?_
    · rw [(eqvB_cov (p := E.f (lk κ h.length i)) h2 b o).2, mut_ren]; exact hA
    · exact (eqvB_cov h2 b o).1.2 ((cov_ren _ A b o).2 hcv)
    · exact (eqvB_cov h4 b o).1.2 ((cov_ren _ B b o).2 hcv')
  · obtain ⟨i, B, hi, hB, hcv⟩ := hm
    obtain ⟨A', h1, h2⟩ := hblk i B hi
    exact ⟨_, A', h1, by rw [(eqvB_cov (p := E.f (lk κ h.length i)) h2 b o).2, mut_ren]; exact hB, (eqvB_cov h2 b o).1.2 ((cov_ren _ B b o).2 hcv)⟩

theorem Since.renum {E0 E : Emb} {h0 h H : List Blk} {w0 w : World} (n0 : E0.n = h0.length) (S : Sim E h w) (N : Since E0 h0 w0 E h w) {κ : List Nat} (hnd : κ.Nodup) (hid : idK 0 E0.n κ) (hh : subQ h κ (renH (lk κ h.length) H)) :
    Since E0 h0 w0 ⟨H.length, fun i => E.f (lk κ h.length i)⟩ H w := by
  obtain ⟨S', h1, h2, h3⟩ := S.renum hnd hh
  have hκ : ∀ i, i < E0.n → lk κ h.length i = i := fun i hi => by
    have h4 := idK_get hid i hi
    have h5 : i < κ.length := by
      rcases Nat.lt_or_ge i κ.length with h' | h'
      · exact h'
      · rw [List.getElem?_eq_none h'] at h4; cases h4
    rw [look_lt κ _ i h5]
    rw [List.getElem?_eq_getElem h5] at h4
    simpa using h4
  refine ⟨?_, fun i hi => ?_, N.size, N.frame, N.cells, fun b o hm hb => N.new b o (h3 b o hm) hb, N.os, N.tape, N.output, N.rows⟩
  · rw [← n0]
    rcases Nat.eq_zero_or_pos E0.n with h4 | h4
    · rw [h4]; exact Nat.zero_le _
    · have := h1 (E0.n - 1) (by
        rw [hκ _ (by omega)]
        have := N.len
        rw [S.n]
        omega)
      omega
  · show E.f (lk κ h.length i) = E0.f i
    rw [hκ i hi]
    exact N.same i hi

/-- One state tells no more than another, with other numbers; the first n blocks keep theirs. -/
structure leR (n : Nat) (κ : List Nat) (s t : St) : Prop where
  nd : κ.Nodup
  id : idK 0 n κ
  tmps : eqvT s.tmps (renT (lk κ s.heap.length) t.tmps)
  heap : subQ s.heap κ (renH (lk κ s.heap.length) t.heap)

theorem length_renT (ρ : Nat → Nat) : ∀ l : List EV, (renT ρ l).length = l.length
  | [] => rfl
  | _ :: r => by simp [renT, length_renT ρ r]

theorem nth_renT (ρ : Nat → Nat) : ∀ (l : List EV) (i : Nat), nth (renT ρ l) i = renE ρ (nth l i)
  | [], _ => by simp [renT, nth, renE]
  | _ :: _, 0 => by simp [renT, nth]
  | _ :: r, i + 1 => by simp only [renT, nth]; exact nth_renT ρ r i

theorem Rel.renum {O : Org} (on : O.E.n = O.h.length) {E : Emb} {s t : St} {a : Act} {w : World} (R : Rel O E s a w) {κ : List Nat} (h : leR O.E.n κ s t) : ∃ E', Rel O E' t a w := by
  obtain ⟨S', h1, h2, h3⟩ := R.sim.renum h.nd h.heap
  refine ⟨⟨t.heap.length, fun i => E.f (lk κ s.heap.length i)⟩, ⟨?_, fun i v hi => ?_⟩, R.df, S', R.sin.renum on R.sim h.nd h.id h.heap⟩
  · rw [R.fr.1, (eqvT_nth (E := E) h.tmps).1, length_renT]
  · have := (eqvT_nth (E := E) h.tmps).2 i v (R.fr.2 i v hi)
    rw [nth_renT] at this
    exact (denE_ren (E := ⟨t.heap.length, fun i => E.f (lk κ s.heap.length i)⟩) h1 (fun b hb => ⟨h2 b hb, rfl⟩) _ _).1 this

/-! ### loops -/

def roundR {A : Type} (n : Nat) (c : Code) (s : St) (C : A → List (Nat × EV)) (H : A → List Blk) (I : A → Prop) (μ : A → Nat) (x : A) (K : Exit → St → Prop) : Exit → St → Prop
  | .normal, s' => ∃ y, I y ∧ μ y < μ x ∧ ∃ κ, headK c s (C y) (H y) fun t => leR n κ s' t
  | e, s' => K e s'

/-- **A loop, by what its slots and the heap hold at each round's head; a round may leave blocks behind that are no longer looked at.** -/
theorem loop_in {T : Tbl} {O : Org} {A : Type} {c : Code} {s : St} {K : Exit → St → Prop} (on : O.E.n = O.h.length) (C : A → List (Nat × EV)) (H : A → List Blk) (I : A → Prop) (μ : A → Nat) (x0 : A) (h0 : I x0)
    (κ0 : List Nat) (hs : headK c s (C x0) (H x0) fun t => leR O.E.n κ0 s t)
    (round : ∀ x, I x → headK c s (C x) (H x) fun t => wpx T O c t (roundR O.E.n c s C H I μ x K)) : LoopG T O c s K := by
  intro E a w R
  rw [headK_eq] at hs
  obtain ⟨E, R⟩ := R.renum on hs
  refine wp_loop_ghost (fun n a w => ∃ E x, I x ∧ Rel O E ⟨laterT (C x) (forgetT (writes c) s.tmps), H x⟩ a w ∧ μ x = n) (μ x0) ⟨E, x0, h0, R, rfl⟩ ?_
  rintro n a w ⟨E, x, hI, R, rfl⟩
  have h := round x hI
  rw [headK_eq] at h
  refine Code.wp_mono ?_ (wpx_snd on c h R)
  rintro e a' w' ⟨E', s', hk, R'⟩
  cases e <;> first
    | (obtain ⟨y, h1, h2, κ, h3⟩ := hk
       rw [headK_eq] at h3
       obtain ⟨E'', R''⟩ := R'.renum on h3
       exact ⟨μ y, h2, E'', y, h1, R'', rfl⟩)
    | exact ⟨E', s', hk, R'⟩

/-- A nil slice is a growing one without elements: ahead of a loop that appends. -/
theorem loop_nil {T : Tbl} {O : Org} (on : O.E.n = O.h.length) {c : Code} {s : St} {K : Exit → St → Prop} (d : Nat) (k : IntKind) (f : Nat → Int) (hd : nth s.tmps d = .s .nilslice)
    (hk : pushBK s.heap 0 (.cells true [.ints k 0 f] 0) fun N h => updK s.tmps d (.s (.gs N 0 0 0)) fun ts => LoopG T O c ⟨ts, h⟩ K) : LoopG T O c s K := by
  intro E a w R
  rw [pushBK_eq, updK_eq, Nat.zero_add] at hk
  obtain ⟨S', N'⟩ := push_nil R.sim (cs := [.ints k 0 f]) ⟨[], rfl, rfl⟩
  refine hk _ a w ⟨⟨?_, fun i v hi => ?_⟩, R.df, S', R.sin.trans on R.sim.n N'⟩
  · rw [length_upd]; exact R.fr.1
  · have h1 := R.fr.2 i v hi
    rw [nth_upd]
    split
    · rename_i hc
      obtain ⟨rfl, _⟩ := hc
      rw [hd] at h1
      simp only [denE, denV] at h1 ⊢
      rw [← R.sim.n, Emb.push_new]
      exact ⟨by simp [Emb.push], fun _ => ⟨trivial, trivial⟩, by simpa using h1⟩
    · exact denE_mono (N'.le R.sim.n S'.n) _ _ h1

/-! ### a function's end -/

/-- What a function leaves, with fewer blocks and other numbers. -/
def Ends (n : Nat) (Q : EV → List Blk → Prop) (v : EV) (h : List Blk) : Prop :=
  ∃ V H κ, Q V H ∧ κ.Nodup ∧ idK 0 n κ ∧ eqvE v (renE (lk κ h.length) V) ∧ subQ h κ (renH (lk κ h.length) H)

/-- **A function whose body is walked over a small heap.** -/
theorem fnX_does (T : Tbl) {f : FuncId} {F : Func} (hF : T.P.funcs[f]? = some F) (hb : F.body.isNone = false) (hname : (F.name == "runtime.NumGoroutine") = false) {args : List EV} {h : List Blk} {Q : EV → List Blk → Prop}
    (hX : ∀ O : Org, O.E.n = O.h.length → O.E.n = h.length → fnX T O F args h (Ends h.length Q)) : Does T f args h Q := by
  refine ⟨.inl ⟨⟨F, hF, hb, hname⟩, fun E w vs S Z ha => ?_⟩⟩
  have c := fnX_call T hF (args := args) (h := h) (Q := Ends h.length Q) (fun E w Z S => hX _ S.n S.n) E w vs S Z ha
  refine c.mono ?_
  rintro e w' ⟨v, x, h', E', rfl, hd, S', N', V, H, κ, hq, hnd, hid, hv, hh⟩
  obtain ⟨S'', h1, h2, h3⟩ := S'.renum hnd hh
  refine ⟨v, V, H, _, rfl, ?_, S'', N'.renum S.n S' hnd (by rw [S.n]; exact hid) hh, hq⟩
  exact (denE_ren (E := ⟨H.length, fun i => E'.f (lk κ h'.length i)⟩) h1 (fun b hb => ⟨h2 b hb, rfl⟩) _ _).1 (eqvE_den _ _ _ hv hd)


/-- No block of a small world may be written. -/
def roAll : List Blk → Prop
  | [] => True
  | B :: r => B.mut = false ∧ roAll r

theorem roAll_get : ∀ {h : List Blk}, roAll h → ∀ (i : Nat) (B : Blk), h[i]? = some B → B.mut = false
  | B :: r, hr, 0, C, hi => by simp only [List.getElem?_cons_zero, Option.some.injEq] at hi; subst hi; exact hr.1
  | B :: r, hr, i + 1, C, hi => roAll_get hr.2 i C (by simpa using hi)
  | [], _, i, C, hi => by simp at hi

/-- **A call over memory that may not be written: what was there is as it was.** -/
theorem Does.below {T : Tbl} {f : FuncId} {args : List EV} {h : List Blk} {Q : EV → List Blk → Prop} (d : Does T f args h Q) (hf : isFn T f) {E : Emb} {w : World} {vs : Array Value} (S : Sim E h w) (ha : denT E args vs.toList) (hr : roAll h) (Z : TabOk E h w := by exact fun _ _ P h => absurd (show (none : Option (Value → Prop)) = some P from h) nofun) :
    Calls T.P f vs w fun e w' => (∃ v x h' E', e = .returned v ∧ denE E' x v ∧ Q x h') ∧ RowKit.Below w.heap.size w w' := by
  rcases d.go with ⟨_, c⟩ | c
  · refine (c E w vs S Z ha).mono ?_
    rintro e w' ⟨v, x, h', E', h1, h2, _, N, h5⟩
    refine ⟨⟨v, x, h', E', h1, h2, h5⟩, N.os, N.tape, N.output, N.size, fun k hk => N.frame k hk (fun o hm => ?_)⟩
    obtain ⟨i, B, hi, hB, _⟩ := hm
    rw [roAll_get hr i B hi] at hB
    cases hB
  · obtain ⟨F, hF, hb, hname⟩ := hf
    obtain ⟨u, w', hr, _⟩ := c E w vs S ha
    have : (callFunc f vs).run T.P w = .ok (.enter f vs) w := by
      simp only [callFunc, Sem.run_bind, Result.andThen_ok, run_program, hF]
      simp [hb]
      intro hh
      simp [hh] at hname
    rw [this] at hr
    cases hr

end Go.Anv

/- The engine, part 13: functions that defer one call. Plain theorems; their condition: the deferred call is a function's that ends well. -/
namespace Go.Anv
open Go

/-! ### the same numbers -/

section same
variable {ρ : Nat → Nat} (hρ : ∀ i, ρ i = i)
include hρ
mutual
theorem renV_same : ∀ e : SV, renV ρ e = e
  | .ptr .. => by simp only [renV, hρ]
  | .pix .. => by simp only [renV, hρ]
  | .rp .. => by simp only [renV, hρ]
  | .slice .. => by simp only [renV, hρ]
  | .gs .. => by simp only [renV, hρ]
  | .map _ => by simp only [renV, hρ]
  | .func fn f c => by simp only [renV, renL_same f, renL_same c]
  | .iface t a cs => by simp only [renV, renL_same cs]
  | .junk => rfl
  | .int .. => rfl
  | .bool _ => rfl
  | .str _ => rfl
  | .nilptr => rfl
  | .nilslice => rfl
  | .nilmap => rfl
  | .nilfunc => rfl
  | .niliface => rfl
theorem renL_same : ∀ l : List SV, renL ρ l = l
  | [] => by
    have _ := hρ
    rfl
  | e :: r => by simp only [renL, renV_same e, renL_same r]
end

theorem renS_same : ∀ cs : List Seg, renS ρ cs = cs
  | [] => rfl
  | .one e :: r => by simp only [renS, renV_same hρ e, renS_same r]
  | .ints .. :: r => by simp only [renS, renS_same r]

mutual
theorem renE_same : ∀ e : EV, renE ρ e = e
  | .s e => by simp only [renE, renV_same hρ e]
  | .agg cs => by simp only [renE, renS_same hρ cs]
  | .tuple vs => by simp only [renE, renT_same vs]
  | .gd g e => by simp only [renE, renE_same e]
  | .junk => rfl
theorem renT_same : ∀ l : List EV, renT ρ l = l
  | [] => by
    have _ := hρ
    rfl
  | e :: r => by simp only [renT, renE_same e, renT_same r]
end

theorem renM_same : ∀ l : List (SV × EV), renM ρ l = l
  | [] => rfl
  | (k, cs) :: r => by simp only [renM, renV_same hρ k, renE_same hρ cs, renM_same r]

theorem renB_same : ∀ B : Blk, renB ρ B = B
  | .cells m cs sp => by simp only [renB, renS_same hρ cs]
  | .recs m n z f sp => by simp only [renB, renL_same hρ]
  | .map es => by simp only [renB, renM_same hρ es]
  | .dead => rfl

theorem renH_same : ∀ h : List Blk, renH ρ h = h
  | [] => rfl
  | B :: r => by simp only [renH, renB_same hρ B, renH_same r]
end same

theorem lk_range (n i : Nat) : lk (List.range n) n i = i := by
  rcases Nat.lt_or_ge i n with h | h
  · rw [look_lt _ _ i (by simpa using h)]
    simp
  · rw [look_ge _ _ i (by simpa using h)]
    simp
    omega

theorem idK_range : ∀ (n m k : Nat), n ≤ m → idK k n (List.range' k m)
  | 0, _, _, _ => trivial
  | n + 1, 0, _, h => by omega
  | n + 1, m + 1, k, h => ⟨rfl, idK_range n m (k + 1) (by omega)⟩

theorem subQ_range (h : List Blk) : ∀ (r : List Blk) (k : Nat), h.drop k = r → subQ h (List.range' k r.length) r
  | [], _, _ => trivial
  | B :: r, k, hk => by
    have h1 : h[k]? = some B := by
      have := congrArg (·[0]?) hk
      simpa using this
    refine ⟨⟨B, get_nthB h1, eqvB_refl B⟩, subQ_range h r (k + 1) ?_⟩
    have := congrArg (List.drop 1) hk
    simpa [List.drop_drop] using this

/-- A function's end, with the numbers as they are. -/
theorem Ends.same {n : Nat} {Q : EV → List Blk → Prop} {v : EV} {h : List Blk} (hq : Q v h) (hn : n ≤ h.length) : Ends n Q v h := by
  have hlk : ∀ i, lk (List.range h.length) h.length i = i := lk_range h.length
  refine ⟨v, h, List.range h.length, hq, List.nodup_range, by rw [List.range_eq_range']; exact idK_range n h.length 0 hn, ?_, ?_⟩
  · rw [renE_same hlk]; exact eqvE_refl v
  · rw [renH_same hlk, List.range_eq_range']
    exact subQ_range h h 0 rfl

/-- A function that may be called by a defer. -/
structure DoesD (T : Tbl) (f : FuncId) (args : List EV) (h : List Blk) (Q : EV → List Blk → Prop) : Prop where
  go : isFn T f ∧ ∀ E w vs u, Sim E h w → TabOk E h w → denT E args vs.toList → CallsD T.P f vs u w fun e u' w' => u' = u ∧ Post E h w Q e w'

theorem DoesD.mono {T : Tbl} {f : FuncId} {args : List EV} {h : List Blk} {Q Q' : EV → List Blk → Prop} (c : DoesD T f args h Q) (hq : ∀ v h', Q v h' → Q' v h') : DoesD T f args h Q' :=
  ⟨c.go.1, fun E w vs u S Z ha => (c.go.2 E w vs u S Z ha).mono fun _ _ _ p => ⟨p.1, p.2.mono hq⟩⟩

theorem fnX_callD (T : Tbl) {f : FuncId} {F : Func} (hF : T.P.funcs[f]? = some F) {args : List EV} {h : List Blk} {Q : EV → List Blk → Prop}
    (hX : ∀ E w (Z : TabOk E h w), Sim E h w → fnX T ⟨E, h, w, [], Z⟩ F args h Q) : ∀ E w vs u, Sim E h w → TabOk E h w → denT E args vs.toList → CallsD T.P f vs u w fun e u' w' => u' = u ∧ Post E h w Q e w' := by
  intro E w vs u S Z hargs
  have hx := hX E w Z S
  unfold fnX at hx
  split at hx
  · rename_i c hc
    rw [frameK_eq] at hx
    refine callsD_of_wp hF hc ?_
    have hlen : vs.size = args.length := by rw [← Array.length_toList]; exact denT_length hargs
    have R : Rel ⟨E, h, w, [], Z⟩ E { tmps := args ++ junks (F.ntmps - args.length), heap := h } { tmps := vs ++ Array.replicate (F.ntmps - vs.size) undef, defers := [] } w := by
      refine ⟨⟨by simp [length_junks, hlen], fun i v hi => ?_⟩, rfl, S, Since.refl _ _ _⟩
      rw [nth_append_junks]
      split
      · rename_i hlt
        rw [Array.getElem?_append_left (by omega)] at hi
        exact denT_nth hargs (by simpa using hi)
      · simp only [denE]
    refine Code.wp_mono ?_ (wpx_snd (T := T) (O := ⟨E, h, w, [], Z⟩) S.n c hx R)
    rintro e a' w' ⟨E', s', hk, R'⟩
    cases e <;> first
      | (obtain ⟨u, v, h1, h2, h3⟩ := resX_snd T R'.fr R'.sim hk
         exact ⟨R'.df, u, h1, u, v, s'.heap, E', rfl, h2, R'.sim, R'.sin, h3⟩)
      | exact hk.elim
  · exact hx.elim

/-- **A function whose body is walked over a small heap, for a defer.** -/
theorem fnX_doesD (T : Tbl) {f : FuncId} {F : Func} (hF : T.P.funcs[f]? = some F) (hb : F.body.isNone = false) (hname : (F.name == "runtime.NumGoroutine") = false) {args : List EV} {h : List Blk} {Q : EV → List Blk → Prop}
    (hX : ∀ O : Org, O.E.n = O.h.length → O.E.n = h.length → fnX T O F args h (Ends h.length Q)) : DoesD T f args h Q := by
  refine ⟨⟨F, hF, hb, hname⟩, fun E w vs u S Z ha => ?_⟩
  have c := fnX_callD T hF (args := args) (h := h) (Q := Ends h.length Q) (fun E w Z S => hX _ S.n S.n) E w vs u S Z ha
  refine c.mono ?_
  rintro e u' w' ⟨hu, v, x, h', E', rfl, hd, S', N', V, H, κ, hq, hnd, hid, hv, hh⟩
  obtain ⟨S'', h1, h2, h3⟩ := S'.renum hnd hh
  refine ⟨hu, v, V, H, _, rfl, ?_, S'', N'.renum S.n S' hnd (by rw [S.n]; exact hid) hh, hq⟩
  exact (denE_ren (E := ⟨H.length, fun i => E'.f (lk κ h'.length i)⟩) h1 (fun b hb => ⟨h2 b hb, rfl⟩) _ _).1 (eqvE_den _ _ _ hv hd)

/-- The operations ahead of a defer that stands last; what is deferred. -/
def lastD : List Oper → Option (List Oper × Operand × Array Operand)
  | [] => none
  | [o] => match o.guard, o.dst, o.op with
    | none, none, .defer { callee := .value f, args, .. } => some ([], f, args)
    | _, _, _ => none
  | o :: r => match lastD r with
    | some (p, f, a) => some (o :: p, f, a)
    | none => none

def normK (next : St → Prop) : Exit → St → Prop
  | .normal, s => next s
  | _, _ => False

/-- The walk as far as a defer; the code behind it. -/
def wpd (T : Tbl) (O : Org) (c : Code) : St → (St → EV → List EV → Code → Prop) → Prop :=
  Code.rec (motive := fun _ => St → (St → EV → List EV → Code → Prop) → Prop)
    (fun _ _ => False)
    (fun _ _ _ _ _ => False)
    (fun a b _ wb s k => match a with
      | .region id ops false => match lastD ops.toList with
        | some (pre, f, args) => opsX T ops pre s fun s' => k s' (evT s'.tmps f) (args.toList.map (evT s'.tmps)) b
        | none => wpx T O (.region id ops false) s (normK fun s' => wb s' k)
      | a => wpx T O a s (normK fun s' => wb s' k))
    (fun _ _ _ _ _ _ _ => False)
    (fun _ _ _ _ _ => False)
    (fun _ _ _ _ => False)
    (fun _ _ _ _ _ _ _ _ => False)
    (fun _ _ _ => False)
    (fun _ _ _ _ => False)
    (fun _ _ _ => False)
    (fun _ _ _ => False)
    (fun _ _ => False)
    (fun _ _ _ => False)
    c

theorem wpd_seq (T : Tbl) (O : Org) (a b : Code) (s : St) (k : St → EV → List EV → Code → Prop) : wpd T O (.seq a b) s k = (match a with
    | .region id ops false => match lastD ops.toList with
      | some (pre, f, args) => opsX T ops pre s fun s' => k s' (evT s'.tmps f) (args.toList.map (evT s'.tmps)) b
      | none => wpx T O (.region id ops false) s (normK fun s' => wpd T O b s' k)
    | a => wpx T O a s (normK fun s' => wpd T O b s' k)) := rfl

theorem lastD_spec : ∀ {l pre : List Oper} {f : Operand} {args : Array Operand}, lastD l = some (pre, f, args) → ∃ o tys, l = pre ++ [o] ∧ o.guard = none ∧ o.dst = none ∧ o.op = .defer { callee := .value f, args := args, argTypes := tys }
  | [], _, _, _, h => by simp [lastD] at h
  | [o], pre, f, args, h => by
    simp only [lastD] at h
    split at h
    · rename_i f' args' tys hg hd hop
      simp only [Option.some.injEq, Prod.mk.injEq] at h
      obtain ⟨rfl, rfl, rfl⟩ := h
      exact ⟨o, tys, rfl, hg, hd, hop⟩
    · cases h
  | o :: o' :: r, pre, f, args, h => by
    simp only [lastD] at h
    split at h
    · rename_i p f' a' hr
      simp only [Option.some.injEq, Prod.mk.injEq] at h
      obtain ⟨rfl, rfl, rfl⟩ := h
      obtain ⟨x, tys, h1, h2⟩ := lastD_spec (l := o' :: r) hr
      exact ⟨x, tys, by rw [h1]; rfl, h2⟩
    · cases h

theorem opsX_append {T : Tbl} {O : Org} (on : O.E.n = O.h.length) {ops : Array Oper} {Q : Exit → Act → World → Prop} : ∀ (l l2 : List Oper) {E : Emb} {s : St} {a : Act} {w : World}, Rel O E s a w → ∀ {k : St → Prop}, opsX T ops l s k →
    (∀ E' s' a' w', k s' → Rel O E' s' a' w' → wpList T.P ops Q l2 a' w') → wpList T.P ops Q (l ++ l2) a w
  | [], _, _, _, _, _, R, _, hk, hn => hn _ _ _ _ hk R
  | o :: r, l2, _, _, _, _, R, k, hk, hn => by
    have hk : opX T ops _ o (fun s' => opsX T ops r s' k) := hk
    have := opX_snd on R hk (next := wpList T.P ops Q (r ++ l2)) (Q := Q) (fun E' s' a' w' h1 h2 => opsX_append on r l2 h2 h1 hn)
    rw [List.cons_append]
    unfold wpList
    split
    · rename_i hw; rw [if_pos hw] at this; exact .inl this
    · rename_i hw; rw [if_neg hw] at this; exact this

theorem wpd_snd {T : Tbl} {O : Org} (on : O.E.n = O.h.length) {Q : Exit → Act → World → Prop} {k : St → EV → List EV → Code → Prop}
    (hk : ∀ E s a w f args fv vs b, k s f args b → denE E f fv → denT E args vs → Rel O E s a w → ∀ d, (∀ P w', (Deferred.ofValue fv vs.toArray).run P w' = .ok d w') → Code.wp T.P b Q { a with defers := d :: a.defers } w) :
    ∀ (c : Code) {E : Emb} {s : St} {a : Act} {w : World}, wpd T O c s (fun s f args b => (∃ g x y, f = .s (.func g x y)) ∧ k s f args b) → Rel O E s a w → c.wp T.P Q a w := by
  have step : ∀ (x y : Code) {E : Emb} {s : St} {a : Act} {w : World} {n : St → Prop}, wpx T O x s (normK n) → Rel O E s a w → (∀ {E s a w}, n s → Rel O E s a w → y.wp T.P Q a w) → (Code.seq x y).wp T.P Q a w := by
    intro x y E s a w n hx R hy
    refine wp_seq (Code.wp_mono ?_ (wpx_snd on x hx R))
    rintro e a' w' ⟨E', s', h1, h2⟩
    cases e <;> first
      | exact hy h1 h2
      | exact h1.elim
  intro c
  induction c with
  | seq x y _ ihy =>
    intro E s a w h R
    rw [wpd_seq] at h
    split at h
    · rename_i id ops _ _
      split at h
      · rename_i pre f args hl
        obtain ⟨o, tys, h1, hg, hd, hop⟩ := lastD_spec hl
        refine wp_seq (wp_region_list ?_)
        rw [h1]
        refine opsX_append on pre [o] R h fun E' s' a' w' hk' R' => ?_
        obtain ⟨⟨g, x, z, hf⟩, hk'⟩ := hk'
        have hfd := ev_denE R'.fr f
        have hargs := denT_map (E := E') (evT s'.tmps) a'.eval args.toList (fun x _ => ev_denE R'.fr x)
        have hfv : ∃ x' z', a'.eval f = .func g x' z' := by
          have hf' : s'.ev f = .s (.func g x z) := hf
          rw [hf'] at hfd
          simp only [denE, denV] at hfd
          obtain ⟨x', z', h3, _⟩ := hfd
          exact ⟨x', z', h3⟩
        obtain ⟨x', z', hfv⟩ := hfv
        have hrun : ∀ P w', (Deferred.ofValue (a'.eval f) (args.toList.map a'.eval).toArray).run P w' = .ok { target := .fn g z', args := x' ++ (args.toList.map a'.eval).toArray } w' := fun P w' => by
          rw [hfv]; rfl
        have hwp := hk E' s' a' w' _ _ _ _ _ hk' hfd hargs R' _ hrun
        unfold wpList
        rw [if_pos (by simp [Region.wanted, hg])]
        refine .inl ?_
        unfold Oper.wp
        have hex : (execOp a'.eval o).run T.P w' = .ok (.defer { target := .fn g z', args := x' ++ (args.toList.map a'.eval).toArray }) w' := by
          unfold execOp
          simp only [hop, resolve]
          rw [hfv, ← Array.toList_map, Array.toArray_toList]
          rfl
        rw [hex, Oper.upon_defer, hd]
        exact hwp
      · exact step _ _ h R fun h1 h2 => ihy h1 h2
    · exact step _ _ h R fun h1 h2 => ihy h1 h2
  | _ => intro E s a w h R; exact h.elim

/-- What comes behind the code: the deferred call, and what is handed back. -/
def bodyD (T : Tbl) (F : Func) (f : EV) (args : List EV) (Q : EV → List Blk → Prop) : Exit → St → Prop
  | .normal, s => match f with
    | .s (.func (.func g) [] []) => DoesD T g args s.heap fun _ h => resX T ⟨s.tmps, h⟩ F.results.toList Q
    | _ => False
  | .ret, s => match f with
    | .s (.func (.func g) [] []) => DoesD T g args s.heap fun _ h => resX T ⟨s.tmps, h⟩ F.results.toList Q
    | _ => False
  | _, _ => False

/-- A function's body that defers a call, walked. -/
def fnXD (T : Tbl) (O : Org) (F : Func) (args : List EV) (h : List Blk) (Q : EV → List Blk → Prop) : Prop :=
  match F.body with
  | some c => frameK args F.ntmps fun ts => wpd T O c ⟨ts, h⟩ fun s f dargs rest => (∃ g x y, f = .s (.func g x y)) ∧ ∀ O' : Org, O'.E.n = O'.h.length → O'.E.n = s.heap.length → O.E.n ≤ O'.E.n → wpx T O' rest s (bodyD T F f dargs Q)
  | none => False

theorem fnXD_call (T : Tbl) {f : FuncId} {F : Func} (hF : T.P.funcs[f]? = some F) {args : List EV} {h : List Blk} {Q : EV → List Blk → Prop}
    (hX : ∀ E w (Z : TabOk E h w), Sim E h w → fnXD T ⟨E, h, w, [], Z⟩ F args h Q) : CallG T f args h Q := by
  intro E w vs S Z hargs
  have hx := hX E w Z S
  unfold fnXD at hx
  split at hx
  · rename_i c hc
    rw [frameK_eq] at hx
    refine calls_of_wp_defers hF hc ?_
    have hlen : vs.size = args.length := by rw [← Array.length_toList]; exact denT_length hargs
    have R : Rel ⟨E, h, w, [], Z⟩ E { tmps := args ++ junks (F.ntmps - args.length), heap := h } { tmps := vs ++ Array.replicate (F.ntmps - vs.size) undef, defers := [] } w := by
      refine ⟨⟨by simp [length_junks, hlen], fun i v hi => ?_⟩, rfl, S, Since.refl _ _ _⟩
      rw [nth_append_junks]
      split
      · rename_i hlt
        rw [Array.getElem?_append_left (by omega)] at hi
        exact denT_nth hargs (by simpa using hi)
      · simp only [denE]
    refine wpd_snd (O := ⟨E, h, w, [], Z⟩) S.n ?_ c hx R
    intro E1 s1 a1 w1 fv0 dargs fv dvs rest hk hfd hdargs R1 d hd
    have hdf : a1.defers = [] := R1.df
    have Z1 : TabOk E1 s1.heap w1 := Z.since R1.sin
    have hO := hk ⟨E1, s1.heap, w1, [d], Z1⟩ R1.sim.n R1.sim.n (by have h1 := R1.sin.len; have h2 := S.n; have h3 := R1.sim.n; simp only at *; omega)
    have R1' : Rel ⟨E1, s1.heap, w1, [d], Z1⟩ E1 s1 { a1 with defers := d :: a1.defers } w1 := ⟨R1.fr, by simp [hdf], R1.sim, Since.refl _ _ _⟩
    refine Code.wp_mono ?_ (wpx_snd (T := T) (O := ⟨E1, s1.heap, w1, [d], Z1⟩) R1.sim.n rest hO R1')
    have key : ∀ E2 s2 a2 w2, (match fv0 with
        | .s (.func (.func g) [] []) => DoesD T g dargs s2.heap fun _ h => resX T ⟨s2.tmps, h⟩ F.results.toList Q
        | _ => False) → Rel ⟨E1, s1.heap, w1, [d], Z1⟩ E2 s2 a2 w2 → Leaves T.P F a2.tmps (Post E h w Q) a2.defers .returning w2 := by
      intro E2 s2 a2 w2 hb R2
      have hdf2 : a2.defers = [d] := R2.df
      split at hb
      · rename_i g
        simp only [denE, denV, denL] at hfd
        obtain ⟨f', c', rfl, h1, h2⟩ := hfd
        have h1' : f' = #[] := Array.toList_eq_nil_iff.1 h1
        have h2' : c' = #[] := Array.toList_eq_nil_iff.1 h2
        subst h1' h2'
        have hdd : d = { target := .fn (.func g) #[], args := dvs.toArray } := by
          have h0 : (Deferred.ofValue (.func (.func g) #[] #[]) dvs.toArray).run T.P w = .ok { target := .fn (.func g) #[], args := #[] ++ dvs.toArray } w := rfl
          have := hd T.P w
          rw [h0, Array.empty_append] at this
          cases this
          rfl
        rw [hdf2, hdd]
        obtain ⟨hfn, hgo⟩ := hb.go
        obtain ⟨G, hG, hbody, hname⟩ := hfn
        have hle2 : E1.le E2 := R2.sin.le R1.sim.n R2.sim.n
        have hda : denT E2 dargs dvs := denT_mono hle2 _ _ hdargs
        refine leaves_cons (f := g) (args := dvs.toArray) (by simp) ?_ ?_
        · simp only [invoke, callFunc, Sem.run_bind, run_program, Result.andThen_ok, hG, Array.append_empty]
          simp [hbody]
          intro hh
          simp [hh] at hname
        · refine (hgo E2 w2 dvs.toArray .returning R2.sim (Z1.since R2.sin) (by simpa using hda)).mono ?_
          rintro e u' w3 ⟨rfl, v, x, h3, E3, rfl, _, S3, N3, hq⟩
          have hfr : frameOk E3 s2.tmps a2.tmps := frameOk_mono (N3.le R2.sim.n S3.n) R2.fr
          obtain ⟨u, v', k1, k2, k3⟩ := resX_snd T (s := ⟨s2.tmps, h3⟩) hfr S3 hq
          refine ⟨u, k1, u, v', h3, E3, rfl, k2, S3, ?_, k3⟩
          have n1 := R1.sin
          exact ((n1.trans S.n R1.sim.n R2.sin).trans S.n R2.sim.n N3)
      · exact hb.elim
    rintro e a2 w2 ⟨E2, s2, hb, R2⟩
    cases e <;> first
      | exact key E2 s2 a2 w2 hb R2
      | exact hb.elim
  · exact hx.elim

/-- **A function that defers a call, walked over a small heap.** -/
theorem fnXD_does (T : Tbl) {f : FuncId} {F : Func} (hF : T.P.funcs[f]? = some F) (hb : F.body.isNone = false) (hname : (F.name == "runtime.NumGoroutine") = false) {args : List EV} {h : List Blk} {Q : EV → List Blk → Prop}
    (hX : ∀ O : Org, O.E.n = O.h.length → O.E.n = h.length → fnXD T O F args h (Ends h.length Q)) : Does T f args h Q := by
  refine ⟨.inl ⟨⟨F, hF, hb, hname⟩, fun E w vs S Z ha => ?_⟩⟩
  have c := fnXD_call T hF (args := args) (h := h) (Q := Ends h.length Q) (fun E w Z S => hX _ S.n S.n) E w vs S Z ha
  refine c.mono ?_
  rintro e w' ⟨v, x, h', E', rfl, hd, S', N', V, H, κ, hq, hnd, hid, hv, hh⟩
  obtain ⟨S'', h1, h2, h3⟩ := S'.renum hnd hh
  refine ⟨v, V, H, _, rfl, ?_, S'', N'.renum S.n S' hnd (by rw [S.n]; exact hid) hh, hq⟩
  exact (denE_ren (E := ⟨H.length, fun i => E'.f (lk κ h'.length i)⟩) h1 (fun b hb => ⟨h2 b hb, rfl⟩) _ _).1 (eqvE_den _ _ _ hv hd)

end Go.Anv

/- The bus: its block; the lock of its console. No condition: contracts of functions. -/
namespace Go.Anv
open Go
theorem length_updB : ∀ (h : List Blk) (b : Nat) (B : Blk), (updB h b B).length = h.length
  | [], _, _ => rfl
  | _ :: _, 0, _ => rfl
  | _ :: r, b + 1, B => by simp [updB, length_updB r b B]

theorem nthB_updB : ∀ {h : List Blk} {b : Nat} {A B : Blk}, nthB h b = some A → nthB (updB h b B) b = some B
  | [], _, _, _, h => by simp [nthB] at h
  | _ :: _, 0, _, _, _ => rfl
  | _ :: r, b + 1, _, _, h => by simp only [nthB, updB] at h ⊢; exact nthB_updB h

theorem getS_setS : ∀ {cs cs' : List Seg} {o : Nat} {e : SV}, setS cs o e = some cs' → getS cs' o = some e
  | [], _, _, _, h => by simp [setS] at h
  | .one _ :: r, _, 0, e, h => by simp only [setS, Option.some.injEq] at h; subst h; rfl
  | .one v :: r, _, o + 1, e, h => by
    simp only [setS, Option.map_eq_some_iff] at h
    obtain ⟨c, hc, rfl⟩ := h
    simp only [getS]
    exact getS_setS hc
  | .ints k n f :: r, _, o, e, h => by
    unfold setS at h
    split at h
    · rename_i ho
      simp only [Option.map_eq_some_iff] at h
      obtain ⟨c, hc, rfl⟩ := h
      unfold getS
      rw [if_neg (by omega)]
      exact getS_setS hc
    · cases h

end Go.Anv
namespace Go.Proofs.YtghcdkpgcanpgaaDoor
open Go Go.Anv
section lock
variable {h : List Blk} {b o sp : Nat} {cs cs' : List Seg}

theorem set_lock {E : Emb} {w : World} {k y : Int} (S : Sim E h w) (hb : nthB h b = some (.cells true cs sp)) (hg : getS cs o = some (.int .i32 k)) (hs : setS cs o (.int .i32 y) = some cs') :
    w.cell? (E.at b o) = some (.int .i32 k) ∧ w.frozen? (E.at b o) = false ∧ Sim E (updB h b (.cells true cs' sp)) (w.setCell (E.at b o) (.int .i32 y)) ∧ Since E h w E (updB h b (.cells true cs' sp)) (w.setCell (E.at b o) (.int .i32 y)) := by
  have hb' := nthB_get hb
  obtain ⟨l, hl, hw, _⟩ := S.look hb'
  obtain ⟨_, _, hm⟩ := S.ok b _ hb'
  obtain ⟨u, h1, h2⟩ := getS_den hl hg
  simp only [denV] at h2
  subst h2
  have h3 := hw o _ h1
  obtain ⟨k1, k2, k3⟩ := setS_den (E := E) (v := .int .i32 y) hl (by simp only [denV]) hs
  have hd : denS E cs' (l.take o ++ ([Value.int .i32 y] ++ l.drop (o + [Value.int .i32 y].length))) := by
    rw [← list_set_eq _ (by rw [denS_length hl]; exact k3)]
    exact k1
  refine ⟨h3, (hm rfl o (by omega)).2.frozen h3, ?_, ?_⟩
  · rw [updB_eq]; exact S.store (vs := [.int .i32 y]) hb' hl hw hd k2 k3
  · rw [updB_eq]; exact Since.store (vs := [.int .i32 y]) hb' k2 k3

end lock

theorem mark0_spec {f : FuncId} {fn : Func} {m : Mark} (hf : TB.P.funcs[f]? = some fn) (hname : (fn.name == "runtime.NumGoroutine") = false) (hb : fn.body.isNone = true) (hn : Extern.findNext fn = none)
    (he : Extern.find fn = some (fun _ => do mark m; pure Extern.Race.none_)) (h : List Blk) : Does TB f [] h (fun r h' => r = .tuple [] ∧ h' = h) := by
  refine ⟨.inr fun E w vs S ha => ?_⟩
  simp only [denT] at ha
  have hvs : vs = #[] := by rw [← Array.toList_inj]; exact ha
  subst hvs
  exact ⟨_, _, run_call_mark0 (P := TB.P) hf hname hb hn m he w, _, _, _, _, rfl, (by simp only [denE]; exact ⟨_, rfl, rfl⟩ : denE E (.tuple []) _), S, Since.refl _ _ _, rfl, rfl⟩

theorem marked_spec {f : FuncId} {fn : Func} {m : Addr → Mark} (hf : TB.P.funcs[f]? = some fn) (hname : (fn.name == "runtime.NumGoroutine") = false) (hb : fn.body.isNone = true) (hn : Extern.findNext fn = none)
    (he : Extern.find fn = some (Extern.Race.marked m)) (b o : Nat) (h : List Blk) : Does TB f [.s (.ptr b o)] h (fun r h' => r = .tuple [] ∧ h' = h) := by
  refine ⟨.inr fun E w vs S ha => ?_⟩
  simp only [denT, denE, denV] at ha
  obtain ⟨x1, l1, e1, ⟨hb1, rfl⟩, rfl⟩ := ha
  have hvs : vs = #[.pointer (some (E.at b o))] := by rw [← Array.toList_inj]; exact e1
  subst hvs
  exact ⟨_, _, run_call_marked (P := TB.P) hf hname hb hn m he _ w, _, _, _, _, rfl, (by simp only [denE]; exact ⟨_, rfl, rfl⟩ : denE E (.tuple []) _), S, Since.refl _ _ _, rfl, rfl⟩

section lock
variable {h : List Blk} {b o sp : Nat} {cs cs' : List Seg}

theorem loadX_int (T : Tbl) {t : TypeId} {i : TI} {k : IntKind} {x : Int} (ht : T.ty t = some i) (hd : i.d = .int k) (hb : nthB h b = some (.cells true cs sp)) (hg : getS cs o = some (.int k x)) : loadX T h t (.s (.ptr b o)) = .ok (.s (.int k x)) := by
  have : i.d.agg = false := by rw [hd]; rfl
  simp only [loadX, ht, hb, this, hg]
  simp

end lock
end Go.Proofs.YtghcdkpgcanpgaaDoor

/- The bus: states, what may be one, a bus of a state. No condition: contracts of functions. -/
namespace Go.Anv
open Go
abbrev B64 := BitVec 64
abbrev B32 := BitVec 32
abbrev B8 := BitVec 8
def bfun (q : Nat → B8) (j : Nat) : Int := ((q j).toNat : Int)
def wfun (q : Nat → B64) (j : Nat) : Int := ((q j).toNat : Int)
/-- A block of bytes. -/
def bblk (m : Bool) (n : Nat) (q : Nat → B8) (sp : Nat) : Blk := .cells m [.ints .u8 n (bfun q)] sp

/-- A bus's plain values: the lists' lengths with them. -/
structure BusV where
  nr : Nat
  msip : B32
  cmp : B64
  now : B64
  ext : Bool
  soft : Bool
  ier : B8
  lcr : B8
  mcr : B8
  scratch : B8
  overrun : Bool
  ni : Nat
  no : Nat
  off : Int
  code : Int

/-- The cells of api.Bus; r, i, o: where its lists lie. -/
def BusV.segs (s : BusV) (r i o : SV) : List Seg :=
  [.one r, .one (.int .u32 s.msip.toNat), .one (.int .u64 s.cmp.toNat), .one (.int .u64 s.now.toNat), .one (.bool s.ext), .one (.bool s.soft), .one (.int .u8 s.ier.toNat), .one (.int .u8 s.lcr.toNat), .one (.int .u8 s.mcr.toNat), .one (.int .u8 s.scratch.toNat),
    .one (.bool s.overrun), .one i, .one o, .one (.int .i64 s.off), .one (.int .i64 s.code)]

/-- The cells of bus.Bus. -/
def BusV.dev (s : BusV) (lock : Int) (r i o : SV) : List Seg :=
  [.one r, .one (.int .i64 s.off), .one (.int .i64 s.code), .one (.int .u32 s.msip.toNat), .one (.int .u64 s.cmp.toNat), .one (.int .u64 s.now.toNat), .one (.int .i32 lock), .one (.int .u32 0), .one i, .one o,
    .one (.int .u8 s.ier.toNat), .one (.int .u8 s.lcr.toNat), .one (.int .u8 s.mcr.toNat), .one (.int .u8 s.scratch.toNat), .one (.bool s.overrun), .one (.bool s.ext), .one (.bool s.soft)]

def fitsB (n : Int) : Bool := decide (8 ≤ n) && decide (n ≤ 65536) && decide (n % 8 = 0)
def BusV.can (s : BusV) : Bool :=
  decide ((8 ≤ s.nr ∧ s.nr ≤ 65536 ∧ s.nr % 8 = 0) ∧ s.msip.toNat ≤ 1 ∧ s.ier.toNat ≤ 15 ∧ s.mcr.toNat ≤ 31 ∧ s.ni ≤ 64 ∧ s.no ≤ 4096 ∧ ((s.off = 0 ∨ s.off = 1) ∧ s.code = 0 ∨ s.off = 2 ∧ 0 ≤ s.code ∧ s.code ≤ 65535))

/-- The lists of a bus lie in three blocks. -/
structure Lists where
  mr : Bool
  sr : Nat
  ram : Nat → B8
  mi : Bool
  si : Nat
  inp : Nat → B8
  mo : Bool
  so : Nat
  out : Nat → B8
def Lists.blks (l : Lists) (s : BusV) : List Blk := [bblk l.mr s.nr l.ram l.sr, bblk l.mi s.ni l.inp l.si, bblk l.mo s.no l.out l.so]
end Go.Anv
namespace Go.Proofs.YtghcdkpgcanpgaaDoor
open Go Go.Anv
theorem room5 (k : Nat) (h : k ≤ 140737488355328) : room ti5 k := ⟨⟨rfl, by decide⟩, h, by show k * 1 ≤ _; omega⟩
end Go.Proofs.YtghcdkpgcanpgaaDoor

namespace Go.Anv
open Go
def bf (l : List B8) (j : Nat) : Int := ((l.getD j 0#8).toNat : Int)
def special (c : B8) : Bool := c == 35#8 || c == 36#8 || c == 125#8 || c == 42#8
def digs : ByteArray := ⟨#[48, 49, 50, 51, 52, 53, 54, 55, 56, 57, 97, 98, 99, 100, 101, 102]⟩
def hexB (v : Nat) : ByteArray := if v < 16 then digs.extract v (v + 1) else hexB (v / 16) ++ digs.extract (v % 16) (v % 16 + 1)
theorem hexB_size (v : Nat) : (hexB v).size ≤ v + 1 := by
  rw [hexB]
  split
  · simp only [ByteArray.size_extract]; omega
  · have := hexB_size (v / 16)
    rw [ByteArray.size_append]
    simp only [ByteArray.size_extract]
    omega
termination_by v
decreasing_by omega
theorem args_eq {T : Tbl} {f : FuncId} {a b : List EV} {h : List Blk} {Q : EV → List Blk → Prop} (e : a = b) (d : Does T f b h Q) : Does T f a h Q := e ▸ d
end Go.Anv
namespace Go.Proofs.YtghcdkpgcanpgaaDoor
open Go Go.Anv
theorem u64_in {x : Int} (h1 : 0 ≤ x) (h2 : x < 18446744073709551616) : IntKind.u64.wrap x = x := by
  show x % 2 ^ 64 = x
  omega
end Go.Proofs.YtghcdkpgcanpgaaDoor

namespace Go.Anv
open Go
/-- The sum of the first bytes. -/
def sumN (p : Nat → B8) : Nat → B8
  | 0 => 0
  | n + 1 => sumN p n + p n
end Go.Anv
namespace Go.Proofs.YtghcdkpgcanpgaaDoor
open Go Go.Anv
theorem sum_spec (m : Bool) (k o n c sp : Nat) (f : Nat → Int) (p : Nat → B8) (hn : o + n ≤ k) (hk : n < 2 ^ 62) (hp : ∀ j, j < n → f (o + j) = (p j).toNat) :
    Does TB 8 [.s (.gs 0 o n c)] [.cells m [.ints .u8 k f] sp] (fun v h' => v = .s (.int .u8 (sumN p n).toNat) ∧ h' = [.cells m [.ints .u8 k f] sp]) := by
  refine fnX_does TB Tryd.func8 rfl (by decide) (fun O on hO => ?_)
  refine loop_by (A := Nat) on (fun i => [(3, .s (.int .u8 (sumN p i).toNat)), (8, .s (.int .i64 (i : Int)))]) (fun _ => [.cells m [.ints .u8 k f] sp]) (fun i => i ≤ n) (fun i => n - i) 0 (by omega) ?_ ?_
  · refine ⟨?_, ?_⟩
    · repeat' (first | exact eqvT_nil | refine eqvT_junk ?_ | refine eqvT_same ?_ | refine eqvT_int ?_ ?_)
    · exact eqvH_same eqvH_nil
  · intro i hi
    refine ifB_intro (fun h1 => ?_) (fun h1 => ?_)
    · have h1 := of_decide_eq_true h1
      refine need_intro (by omega) ?_
      refine need_intro (by omega) ?_
      have hf : f (o + (i : Int).toNat) = (p i).toNat := hp i (by omega)
      refine ⟨i + 1, ?_, ?_, ?_, ?_⟩
      · show i + 1 ≤ n; omega
      · show n - (i + 1) < n - i; omega
      · repeat' (first | exact eqvT_nil | refine eqvT_junk ?_ | refine eqvT_same ?_ | refine eqvT_int ?_ ?_)
        · rw [hf, wrap_u8]
          simp only [sumN, BitVec.ofInt_add, ofInt_toNat]
        · rw [i64_in (by omega) (by omega)]; rfl
      · exact eqvH_same eqvH_nil
    · have h1 := of_decide_eq_false h1
      have : i = n := by omega
      subst this
      exact ⟨_, _, [0], ⟨rfl, rfl⟩, by decide, ⟨rfl, trivial⟩, ⟨rfl, rfl⟩, ⟨⟨_, rfl, eqvB_refl _⟩, trivial⟩⟩
end Go.Proofs.YtghcdkpgcanpgaaDoor

namespace Go.Proofs.YtghcdkpgcanpgaaDoor
open Go Go.Anv
theorem index_body (m : Bool) (sp cv : Nat) (f : Nat → Int) (cp n : Nat) :
    Does TB 12 [.s (.slice 0 0 n cp), .s (.int .u8 cv)] [.cells m [.ints .u8 n f] sp] (fun v h' => v = .s (.int .i64 (Lib.indexByte (Lib.bytesOf ((List.range n).map f)) ((cv : Int)).toNat.toUInt8)) ∧ h' = [.cells m [.ints .u8 n f] sp]) := by
  refine ⟨.inr fun E w vs S ha => ?_⟩
  simp only [denT, denE, denV] at ha
  obtain ⟨v1, l1, e1, ⟨⟨hb, hnl⟩, rfl⟩, v2, l2, rfl, rfl, rfl⟩ := ha
  obtain ⟨l, hl, hlw, _⟩ := S.look (i := 0) rfl
  simp only [denS] at hl
  obtain ⟨_, rfl, rfl⟩ := hl
  rw [List.append_nil] at hlw
  have hvs : vs = #[.slice (some (E.at 0 0)) n cp, .int .u8 cv] := by rw [← Array.toList_inj]; exact e1
  subst hvs
  have hrun := run_callFunc_extern (P := TB.P) Tryd.func12 (by kernel_rfl) (by kernel_rfl) (by kernel_rfl) (e := Extern.BytealgIndexByte.indexByte) (by kernel_rfl) #[.slice (some (E.at 0 0)) n cp, .int .u8 cv] w
  have hat : E.at 0 0 = ⟨(E.f 0).1, (E.f 0).2 + 0, none⟩ := rfl
  rw [hat, Lib.run_indexByteSlice w (E.f 0).1 ((E.f 0).2 + 0) n cp ((List.range n).map f) (by simp) (fun i hi => by
    rw [Nat.add_zero]
    refine hlw i _ ?_
    rw [intsOf_get hi, List.getD_eq_getElem?_getD, List.getElem?_map, List.getElem?_range hi]
    rfl) cv] at hrun
  refine ⟨_, _, hrun, _, .s (.int .i64 _), _, E, rfl, ?_, S, Since.refl _ _ _, rfl, rfl⟩
  simp only [denE, denV]
theorem index_spec (m : Bool) (c : B8) : Does TB 7 [.s (.slice 0 0 4 4), .s (.int .u8 c.toNat)] [.cells m [.ints .u8 4 (litF [35, 36, 125, 42])] 0]
    (fun v h' => (∃ r, v = .s (.int .i64 r) ∧ decide (0 ≤ r) = special c) ∧ h' = [.cells m [.ints .u8 4 (litF [35, 36, 125, 42])] 0]) := by
  refine fnX_does TB Tryd.func7 rfl (by decide) (fun O on hO => ?_)
  refine (index_body m 0 c.toNat (litF [35, 36, 125, 42]) 4 4).mono ?_
  rintro v h' ⟨rfl, rfl⟩
  refine ⟨_, _, [0], ⟨⟨_, rfl, ?_⟩, rfl⟩, by decide, ⟨rfl, trivial⟩, ⟨rfl, rfl⟩, ⟨⟨_, rfl, eqvB_refl _⟩, trivial⟩⟩
  have : ∀ c : B8, decide (0 ≤ Lib.indexByte (Lib.bytesOf ((List.range 4).map (litF [35, 36, 125, 42]))) ((c.toNat : Int)).toNat.toUInt8) = special c := by decide +kernel
  exact this c
end Go.Proofs.YtghcdkpgcanpgaaDoor

namespace Go.Anv
open Go
def esc (c : B8) : List B8 := if special c then [125#8, c ^^^ 32#8] else [c]
/-- The first bytes, escaped. -/
def bodyN (p : Nat → B8) : Nat → List B8
  | 0 => []
  | n + 1 => bodyN p n ++ esc (p n)
def sumL (l : List B8) : B8 := sumN (fun j => l.getD j 0#8) l.length
def hexd (x : Nat) : B8 := BitVec.ofNat 8 ((digs.data.toList.map UInt8.toNat).getD x 0)
def packetN (p : Nat → B8) (n : Nat) : List B8 := 36#8 :: bodyN p n ++ [35#8, hexd (sumL (bodyN p n) >>> 4).toNat, hexd (sumL (bodyN p n) &&& 15#8).toNat]
theorem bodyN_len (p : Nat → B8) : ∀ n, (bodyN p n).length ≤ 2 * n
  | 0 => by simp [bodyN]
  | n + 1 => by
    have := bodyN_len p n
    simp only [bodyN, List.length_append]
    have : (esc (p n)).length ≤ 2 := by unfold esc; split <;> simp
    omega
theorem bf_append (l r : List B8) {n m : Nat} (hn : n = l.length) (hm : m = r.length) {f g : Nat → Int} (hf : ∀ j, j < n → f j = bf l j) (hg : ∀ j, j < m → g j = bf r j) : ∀ j, j < n + m → catF n f g j = bf (l ++ r) j := by
  subst hn; subst hm
  intro j hj
  unfold catF
  split
  · rename_i h
    rw [hf j h]
    simp [bf, List.getD_eq_getElem?_getD, List.getElem?_append_left h]
  · rename_i h
    rw [hg (j - l.length) (by omega)]
    simp [bf, List.getD_eq_getElem?_getD, List.getElem?_append_right (Nat.le_of_not_lt h)]
theorem hexd_eq {x : Nat} (h : x < 16) : (((digs.data.toList.map UInt8.toNat).getD (x : Int).toNat 0 : Nat) : Int) = ((hexd x).toNat : Int) := by
  have : ∀ x : Fin 16, (digs.data.toList.map UInt8.toNat).getD x.val 0 = (hexd x.val).toNat := by decide
  rw [Int.toNat_natCast]
  exact congrArg _ (this ⟨x, h⟩)
theorem bf_one {b : B8} {v : Int} (h : v = b.toNat) : ∀ j, j < 1 → shf 0 (litF [v]) j = bf [b] j := by
  intro j hj
  match j, hj with
  | 0, _ => exact h
end Go.Anv
namespace Go.Proofs.YtghcdkpgcanpgaaDoor
open Go Go.Anv
set_option maxRecDepth 100000 in
theorem pack_spec (m : Bool) (n c sp : Nat) (f : Nat → Int) (p : Nat → B8) (hn : n ≤ 1000) (hp : ∀ j, j < n → f j = (p j).toNat) :
    Does TB 5 [.s (.gs 0 0 n c)] [.cells m [.ints .u8 n f] sp] (fun v h' => ∃ cap, (packetN p n).length ≤ cap ∧ v = .tuple [.s (.gs 1 0 (packetN p n).length cap), .s (.int .i64 0)] ∧
      h' = [.cells m [.ints .u8 n f] sp, .cells true [.ints .u8 (packetN p n).length (bf (packetN p n))] (cap - (packetN p n).length)]) := by
  refine fnX_does TB Tryd.func5 rfl (by decide) (fun O on hO => ?_)
  refine ifB_intro (fun h1 => ?_) (fun h1 => ?_)
  · exfalso
    clear hO on
    have h2 : (1000 : Int) < n := by simpa using h1
    omega
  · clear h1
    refine loop_in (A := Nat × Nat) on (fun i => [(11, .junk), (4, .s (.gs 1 0 (1 + (bodyN p i.1).length) i.2)), (14, .s (.int .i64 (i.1 : Int)))])
      (fun i => [.cells m [.ints .u8 n f] sp, .cells true [.ints .u8 (1 + (bodyN p i.1).length) (bf (36#8 :: bodyN p i.1))] (i.2 - (1 + (bodyN p i.1).length))])
      (fun i => i.1 ≤ n ∧ 1 + (bodyN p i.1).length ≤ i.2) (fun i => n - i.1) (0, 1) ⟨Nat.zero_le _, Nat.le_refl _⟩ [0, 1] ?_ ?_
    · rw [hO]
      refine ⟨by decide, ⟨rfl, trivial⟩, ?_, ?_⟩
      · repeat' (first | exact eqvT_nil | refine eqvT_junk ?_ | refine eqvT_same ?_ | refine eqvT_int ?_ ?_ | refine eqvT_sgs ⟨rfl, rfl, rfl, rfl⟩ ?_)
      · refine ⟨⟨_, rfl, eqvB_refl _⟩, ⟨_, rfl, ⟨rfl, rfl, eqvS_ints ?_ eqvS_nil⟩⟩, trivial⟩
        intro j hj
        match j, hj with
        | 0, _ => rfl
    · intro x hx
      refine ifB_intro (fun h1 => ?_) (fun h1 => ?_)
      · have h1 := of_decide_eq_true h1
        have hf : f (0 + (x.1 : Int).toNat) = (p x.1).toNat := by rw [Nat.zero_add]; exact hp x.1 (by omega)
        refine need_intro (by omega) ?_
        refine need_intro (by omega) ?_
        refine need_intro (by decide) ?_
        refine args_eq (b := [.s (.slice 2 0 4 4), .s (.int .u8 (p x.1).toNat)]) (by rw [hf]) ?_
        refine Does.at (index_spec true (p x.1)) [2] rfl ⟨rfl, trivial⟩ (by decide) ?_ ?_
        · rintro v h' ⟨_, rfl⟩
          exact ⟨.inl rfl, trivial⟩
        · rintro v h' ⟨⟨r, rfl, hr⟩, rfl⟩
          have hL := bodyN_len p x.1
          refine ifB_intro (fun h2 => ?_) (fun h2 => ?_)
          · refine need_intro ⟨Nat.le_refl _, by show 1 + (bodyN p x.1).length + 0 = (1 + (bodyN p x.1).length) * 1; omega, by show x.2 * 1 = (1 + (bodyN p x.1).length) * 1 + _; omega, room5 _ (by show 1 + (bodyN p x.1).length + 1 ≤ _; omega)⟩ ?_
            intro c1 hc1
            have hc1 : 1 + (bodyN p x.1).length + 1 ≤ c1 := hc1
            refine need_intro ⟨Nat.le_refl _, by show 1 + (bodyN p x.1).length + 1 + 0 = (1 + (bodyN p x.1).length + 1) * 1; omega, by show c1 * 1 = (1 + (bodyN p x.1).length + 1) * 1 + (c1 - (1 + (bodyN p x.1).length + 1)) * 1; omega, room5 _ (by show 1 + (bodyN p x.1).length + 1 + 1 ≤ _; omega)⟩ ?_
            intro c2 hc2
            have hesc : bodyN p (x.1 + 1) = bodyN p x.1 ++ [125#8, p x.1 ^^^ 32#8] := by
              have : special (p x.1) = true := by rw [← hr]; exact h2
              simp only [bodyN, esc, this, if_true]
            have hlen : 1 + (bodyN p (x.1 + 1)).length = 1 + (bodyN p x.1).length + 1 + 1 := by rw [hesc]; simp; omega
            refine ⟨(x.1 + 1, c2), ⟨?_, ?_⟩, ?_, [0, 6], ?_⟩
            · show x.1 + 1 ≤ n; omega
            · show 1 + (bodyN p (x.1 + 1)).length ≤ c2
              rw [hlen]; exact hc2
            · show n - (x.1 + 1) < n - x.1; omega
            · rw [hO]
              refine ⟨by decide, ⟨rfl, trivial⟩, ?_, ?_⟩
              · repeat' (first | exact eqvT_nil | refine eqvT_junk ?_ | refine eqvT_same ?_ | refine eqvT_int ?_ ?_ | refine eqvT_gs ⟨rfl, rfl, ?_, rfl⟩ ?_)
                · exact hlen.symm
                · rw [i64_in (by omega) (by omega)]; rfl
              · refine ⟨⟨_, rfl, eqvB_refl _⟩, ⟨_, rfl, ⟨rfl, ?_, ⟨⟨rfl, ?_, ?_⟩, eqvS_nil⟩⟩⟩, trivial⟩
                · show (c2 - (1 + (bodyN p x.1).length + 1 + 1)) * 1 = c2 - (1 + (bodyN p (x.1 + 1)).length)
                  rw [hlen, Nat.mul_one]
                · exact hlen.symm
                · rw [hesc]
                  have e : (36#8 :: (bodyN p x.1 ++ [125#8, p x.1 ^^^ 32#8])) = (36#8 :: bodyN p x.1) ++ [125#8] ++ [p x.1 ^^^ 32#8] := by simp
                  rw [e]
                  refine bf_append ((36#8 :: bodyN p x.1) ++ [125#8]) [p x.1 ^^^ 32#8] (n := 1 + (bodyN p x.1).length + 1) (m := 1) (by simp; omega) rfl (bf_append (36#8 :: bodyN p x.1) [125#8] (n := 1 + (bodyN p x.1).length) (m := 1) (by simp; omega) rfl (fun _ _ => rfl) (bf_one rfl)) (bf_one ?_)
                  rw [hf, xor_u8, ofInt_toNat]
                  rfl
          · refine need_intro ⟨Nat.le_refl _, by show 1 + (bodyN p x.1).length + 0 = (1 + (bodyN p x.1).length) * 1; omega, by show x.2 * 1 = (1 + (bodyN p x.1).length) * 1 + _; omega, room5 _ (by show 1 + (bodyN p x.1).length + 1 ≤ _; omega)⟩ ?_
            intro c1 hc1
            have hc1 : 1 + (bodyN p x.1).length + 1 ≤ c1 := hc1
            have hesc : bodyN p (x.1 + 1) = bodyN p x.1 ++ [p x.1] := by
              have : special (p x.1) = false := by rw [← hr]; exact h2
              simp [bodyN, esc, this]
            have hlen : 1 + (bodyN p (x.1 + 1)).length = 1 + (bodyN p x.1).length + 1 := by rw [hesc]; simp; omega
            refine ⟨(x.1 + 1, c1), ⟨?_, ?_⟩, ?_, [0, 4], ?_⟩
            · show x.1 + 1 ≤ n; omega
            · show 1 + (bodyN p (x.1 + 1)).length ≤ c1
              rw [hlen]; exact hc1
            · show n - (x.1 + 1) < n - x.1; omega
            · rw [hO]
              refine ⟨by decide, ⟨rfl, trivial⟩, ?_, ?_⟩
              · repeat' (first | exact eqvT_nil | refine eqvT_junk ?_ | refine eqvT_same ?_ | refine eqvT_int ?_ ?_ | refine eqvT_gs ⟨rfl, rfl, ?_, rfl⟩ ?_)
                · exact hlen.symm
                · rw [i64_in (by omega) (by omega)]; rfl
              · refine ⟨⟨_, rfl, eqvB_refl _⟩, ⟨_, rfl, ⟨rfl, ?_, ⟨⟨rfl, ?_, ?_⟩, eqvS_nil⟩⟩⟩, trivial⟩
                · show (c1 - (1 + (bodyN p x.1).length + 1)) * 1 = c1 - (1 + (bodyN p (x.1 + 1)).length)
                  rw [hlen, Nat.mul_one]
                · exact hlen.symm
                · rw [hesc]
                  exact bf_append (36#8 :: bodyN p x.1) [p x.1] (n := 1 + (bodyN p x.1).length) (m := 1) (by simp; omega) rfl (fun _ _ => rfl) (bf_one hf)
      · have h1 := of_decide_eq_false h1
        have hxn : x.1 = n := by omega
        obtain ⟨i, cap⟩ := x
        obtain rfl : i = n := hxn
        have hL := bodyN_len p i
        have hc0 : 1 + (bodyN p i).length ≤ cap := hx.2
        generalize hB : bodyN p i = B at hL hc0 ⊢
        refine need_intro ⟨by decide, by show (1 : Int) ≤ ((1 + (B).length : Nat) : Int); omega, by show ((1 + (B).length : Nat) : Int) ≤ (cap : Int); omega⟩ ?_
        have hn' : (((1 + B.length : Nat) : Int)).toNat - (1 : Int).toNat = B.length := by
          rw [Int.toNat_natCast]
          show 1 + B.length - 1 = B.length
          omega
        refine args_eq (b := [.s (.gs 1 (skip cap 1 0 1) B.length (cap - 1))]) (by
          show [EV.s (.gs 1 (skip cap 1 0 1) ((((1 + (B).length : Nat) : Int)).toNat - (1 : Int).toNat) (cap - 1))] = _
          rw [hn']) ?_
        refine Does.at (sum_spec true (1 + (B).length) (skip cap 1 0 1) B.length (cap - 1) (cap - (1 + (B).length)) (bf (36#8 :: B)) (fun j => B.getD j 0#8) ?_ ?_ ?_) [1] rfl ⟨rfl, trivial⟩ (by decide) ?_ ?_
        · unfold skip
          split <;> omega
        · omega
        · intro j hj
          unfold skip
          have : ¬ cap = 1 := by omega
          rw [if_neg this, Nat.zero_add, Nat.one_mul, Nat.add_comm]
          rfl
        · rintro v h' ⟨_, rfl⟩
          exact ⟨.inl rfl, trivial⟩
        · rintro v h' ⟨rfl, rfl⟩
          refine draw_free on rfl (fun _ _ h => h) ?_
          generalize hS : sumN (fun j => B.getD j 0#8) B.length = S
          have hs1 : ((S.toNat : Int)).fdiv (2 ^ (min (Int.toNat 4) IntKind.u8.bits)) = ((S >>> 4).toNat : Int) := fdiv_pow S 4
          have hs2 : bitX .and .u8 (S.toNat : Int) 15 = ((S &&& 15#8).toNat : Int) := by rw [and_u8, ofInt_toNat]; rfl
          have b1 : (S >>> 4).toNat < 16 := by
            rw [BitVec.toNat_ushiftRight, Nat.shiftRight_eq_div_pow]
            have := S.isLt
            omega
          have b2 : (S &&& 15#8).toNat < 16 := by
            rw [BitVec.toNat_and]
            exact Nat.lt_of_le_of_lt Nat.and_le_right (by decide)
          refine need_intro (by decide) ?_
          refine need_intro ⟨by rw [hs1]; omega, by rw [hs1]; show ((S >>> 4).toNat : Int) < 16; omega⟩ ?_
          refine need_intro ⟨by rw [hs2]; omega, by rw [hs2]; show ((S &&& 15#8).toNat : Int) < 16; omega⟩ ?_
          have hpk : packetN p i = (36#8 :: B) ++ [35#8, hexd (S >>> 4).toNat, hexd (S &&& 15#8).toNat] := by
            simp only [packetN, sumL, hB, hS, List.cons_append]
          have hpl : (packetN p i).length = 1 + B.length + 3 := by rw [hpk]; simp; omega
          refine need_intro ⟨Nat.le_refl _, by show 1 + B.length + 0 = (1 + B.length) * 1; omega, by show cap * 1 = (1 + B.length) * 1 + (cap - (1 + B.length)); omega, room5 _ (by show 1 + B.length + 3 ≤ _; omega)⟩ ?_
          intro c2 hc2
          have hc2 : 1 + B.length + 3 ≤ c2 := hc2
          refine ⟨.tuple [.s (.gs 1 0 (packetN p i).length c2), .s (.int .i64 0)], _, [0, 3], ⟨c2, by rw [hpl]; exact hc2, rfl, rfl⟩, by decide, ⟨rfl, trivial⟩, ?_, ?_⟩
          · refine eqvT_gs ⟨rfl, rfl, hpl.symm, rfl⟩ (eqvT_same eqvT_nil)
          · refine ⟨⟨_, rfl, eqvB_refl _⟩, ⟨_, rfl, ⟨rfl, ?_, ⟨⟨rfl, hpl.symm, ?_⟩, eqvS_nil⟩⟩⟩, trivial⟩
            · show (c2 - (1 + B.length + 3)) * 1 = c2 - (packetN p i).length
              rw [hpl, Nat.mul_one]
            · rw [hpk]
              refine bf_append (36#8 :: B) [35#8, hexd (S >>> 4).toNat, hexd (S &&& 15#8).toNat] (n := 1 + B.length) (m := 3) (by simp; omega) rfl (fun _ _ => rfl) ?_
              rw [hs1, hs2]
              intro j hj
              match j, hj with
              | 0, _ => rfl
              | 1, _ => exact hexd_eq b1
              | 2, _ => exact hexd_eq b2
end Go.Proofs.YtghcdkpgcanpgaaDoor

namespace Go.Anv
open Go
theorem digs_two {x y : Nat} (hx : x < 16) (hy : y < 16) : (digs.extract x (x + 1) ++ digs.extract y (y + 1)).size = 2 ∧ strF (digs.extract x (x + 1) ++ digs.extract y (y + 1)) 0 = ((hexd x).toNat : Int) ∧ strF (digs.extract x (x + 1) ++ digs.extract y (y + 1)) 1 = ((hexd y).toNat : Int) := by
  have : ∀ x y : Fin 16, (digs.extract x.val (x.val + 1) ++ digs.extract y.val (y.val + 1)).size = 2 ∧ strF (digs.extract x.val (x.val + 1) ++ digs.extract y.val (y.val + 1)) 0 = ((hexd x.val).toNat : Int) ∧
      strF (digs.extract x.val (x.val + 1) ++ digs.extract y.val (y.val + 1)) 1 = ((hexd y.val).toNat : Int) := by decide +kernel
  exact this ⟨x, hx⟩ ⟨y, hy⟩
end Go.Anv
namespace Go.Proofs.YtghcdkpgcanpgaaDoor
open Go Go.Anv
end Go.Proofs.YtghcdkpgcanpgaaDoor

namespace Go.Proofs.YtghcdkpgcanpgaaDoor
open Go Go.Anv
set_option maxRecDepth 100000 in
theorem pack_long (m : Bool) (n c sp : Nat) (f : Nat → Int) (hn : 1000 < n) :
    Does TB 5 [.s (.gs 0 0 n c)] [.cells m [.ints .u8 n f] sp] (fun v h' => v = .tuple [.s .nilslice, .s (.int .i64 3)] ∧ h' = [.cells m [.ints .u8 n f] sp]) := by
  refine fnX_does TB Tryd.func5 rfl (by decide) (fun O on hO => ?_)
  refine ifB_intro (fun h1 => ?_) (fun h1 => ?_)
  · exact ⟨_, _, [0], ⟨rfl, rfl⟩, by decide, ⟨rfl, trivial⟩, eqvE_refl _, ⟨⟨_, rfl, eqvB_refl _⟩, trivial⟩⟩
  · exfalso
    clear hO on
    have h2 : ¬ (1000 : Int) < n := by simpa using h1
    omega
theorem beq_bytes (s : ByteArray) : (s == s) = true := by
  have h := beq_toListBytes s s
  simpa using h.symm
theorem shf_zero (f : Nat → Int) : shf 0 f = f := by funext j; unfold shf; rw [Nat.zero_add]
end Go.Proofs.YtghcdkpgcanpgaaDoor

/- The engine, part 15: a call that is handed a part of a block: the part is a block of its own meanwhile. Plain theorems; their condition: what the call leaves of the part. -/
namespace Go.Anv
open Go

/-- A value that points into a part, seen from outside and from inside: the part is k cells behind the begin of block i, and block N. -/
def partV (i N k : Nat) : SV → SV → Prop
  | .ptr b o, .ptr b' o' => (b = b' ∧ o = o') ∨ (b = i ∧ b' = N ∧ o = k + o')
  | .pix b o j, .ptr b' o' => b = i ∧ b' = N ∧ o + j = k + o'
  | .gs b o n c, .gs b' o' n' c' => ((b = b' ∧ o = o') ∨ (b = i ∧ b' = N ∧ o = k + o')) ∧ n = n' ∧ c = c'
  | x, y => x = y

def partS (i N k : Nat) : List Seg → List Seg → Prop
  | [], [] => True
  | .one x :: r, .one y :: r' => partV i N k x y ∧ partS i N k r r'
  | .ints q n f :: r, .ints q' n' f' :: r' => (q = q' ∧ n = n' ∧ f = f') ∧ partS i N k r r'
  | _, _ => False

def partE (i N k : Nat) : EV → EV → Prop
  | .s x, .s y => partV i N k x y
  | .agg x, .agg y => partS i N k x y
  | x, y => x = y

def partT (i N k : Nat) : List EV → List EV → Prop
  | [], [] => True
  | x :: r, y :: r' => partE i N k x y ∧ partT i N k r r'
  | _, _ => False

def partP (E : Emb) (i k : Nat) : Loc := ⟨(E.f i).b, (E.f i).o + k, (E.f i).nl⟩

theorem partV_den {E : Emb} {i k : Nat} {x y : SV} {v : Value} (h : partV i E.n k x y) (hd : denV E x v) : denV (E.push (partP E i k)) y v := by
  have same : x = y → denV (E.push (partP E i k)) y v := fun e => e ▸ denV_mono (Emb.le_push _ _) _ _ hd
  unfold partV at h
  split at h
  · rename_i b o b' o'
    rcases h with ⟨rfl, rfl⟩ | ⟨rfl, rfl, rfl⟩
    · exact same rfl
    · simp only [denV] at hd ⊢
      refine ⟨by simp [Emb.push], ?_⟩
      rw [hd.2]
      simp [Emb.at, Emb.push_new, partP, Nat.add_assoc]
  · rename_i b o j b' o'
    obtain ⟨rfl, rfl, h⟩ := h
    simp only [denV] at hd ⊢
    refine ⟨by simp [Emb.push], ?_⟩
    rw [hd.2]
    simp [Emb.at, Emb.push_new, partP, h, Nat.add_assoc]
  · rename_i b o n c b' o' n' c'
    obtain ⟨h, rfl, rfl⟩ := h
    rcases h with ⟨rfl, rfl⟩ | ⟨rfl, rfl, rfl⟩
    · exact same rfl
    · simp only [denV] at hd ⊢
      refine ⟨by simp [Emb.push], by rw [Emb.push_new]; exact hd.2.1, ?_⟩
      rw [hd.2.2]
      simp [Emb.at, Emb.push_new, partP, Nat.add_assoc]
  · exact same h

theorem partS_den {E : Emb} {i k : Nat} : ∀ {x y : List Seg} {l : List Value}, partS i E.n k x y → denS E x l → denS (E.push (partP E i k)) y l
  | [], [], _, _, hd => hd
  | .one x :: r, .one y :: r', l, h, hd => by
    simp only [denS] at hd ⊢
    obtain ⟨v, l', rfl, h1, h2⟩ := hd
    exact ⟨v, l', rfl, partV_den h.1 h1, partS_den h.2 h2⟩
  | .ints q n f :: r, .ints q' n' f' :: r', l, h, hd => by
    simp only [denS] at hd ⊢
    obtain ⟨l', rfl, h2⟩ := hd
    obtain ⟨⟨rfl, rfl, rfl⟩, h⟩ := h
    exact ⟨l', rfl, partS_den h h2⟩
  | [], _ :: _, _, h, _ => h.elim
  | _ :: _, [], _, h, _ => by simp [partS] at h
  | .one _ :: _, .ints .. :: _, _, h, _ => h.elim
  | .ints .. :: _, .one _ :: _, _, h, _ => h.elim

theorem partE_den {E : Emb} {i k : Nat} {x y : EV} {v : Value} (h : partE i E.n k x y) (hd : denE E x v) : denE (E.push (partP E i k)) y v := by
  have same : x = y → denE (E.push (partP E i k)) y v := fun e => e ▸ denE_mono (Emb.le_push _ _) _ _ hd
  unfold partE at h
  split at h
  · simp only [denE] at hd ⊢
    exact partV_den h hd
  · simp only [denE] at hd ⊢
    obtain ⟨l, rfl, h1⟩ := hd
    exact ⟨l, rfl, partS_den h h1⟩
  · exact same h

theorem partT_den {E : Emb} {i k : Nat} : ∀ {x y : List EV} {v : List Value}, partT i E.n k x y → denT E x v → denT (E.push (partP E i k)) y v
  | [], [], v, _, hd => hd
  | x :: r, y :: r', v, h, hd => by
    simp only [denT] at hd ⊢
    obtain ⟨u, l, rfl, h1, h2⟩ := hd
    exact ⟨u, l, rfl, partE_den h.1 h1, partT_den h.2 h2⟩
  | [], _ :: _, _, h, _ => h.elim
  | _ :: _, [], _, h, _ => h.elim

/-- What a part's call must leave. -/
def PartOk (h1 : List Blk) (i N : Nat) (m : Bool) (a b c : List Seg) (sp : Nat) (K : EV → List Blk → Prop) (v : EV) (h' : List Blk) : Prop :=
  roOk h1 h' ∧ ∃ b' cs', nthB h' N = some (.cells m b' 0) ∧ sizeS b' = sizeS b ∧ (∀ E l, denS E (a ++ (b' ++ c)) l → denS E cs' l) ∧ K v (updB (updB h' N .dead) i (.cells m cs' sp))

theorem denS_split {E : Emb} : ∀ {a b : List Seg} {l : List Value}, denS E (a ++ b) l → ∃ x y, l = x ++ y ∧ denS E a x ∧ denS E b y
  | [], b, l, h => ⟨[], l, rfl, rfl, h⟩
  | .one e :: r, b, l, h => by
    simp only [List.cons_append, denS] at h
    obtain ⟨v, l', rfl, h1, h2⟩ := h
    obtain ⟨x, y, rfl, h3, h4⟩ := denS_split h2
    exact ⟨v :: x, y, rfl, ⟨v, x, rfl, h1, h3⟩, h4⟩
  | .ints k n f :: r, b, l, h => by
    simp only [List.cons_append, denS] at h
    obtain ⟨l', rfl, h2⟩ := h
    obtain ⟨x, y, rfl, h3, h4⟩ := denS_split h2
    exact ⟨intsOf k n f ++ x, y, by simp, ⟨x, rfl, h3⟩, h4⟩

theorem part_sim {E : Emb} {h : List Blk} {w : World} {i : Nat} {m : Bool} {cs a b c : List Seg} {sp : Nat} (S : Sim E h w) (hi : nthB h i = some (.cells m cs sp))
    (hs : ∀ E l, denS E cs l → denS E (a ++ (b ++ c)) l) : Sim (E.push (partP E i (sizeS a))) (updB h i .dead ++ [.cells m b 0]) w := by
  have hi' := nthB_get hi
  have hlt := lt_of_get hi'
  obtain ⟨hp, ⟨l, hl, hc⟩, hm⟩ := S.ok i _ hi'
  obtain ⟨la, lr, rfl, hla, hlr⟩ := denS_split (hs E l hl)
  obtain ⟨lb, lc, rfl, hlb, hlc⟩ := denS_split hlr
  have za := denS_length hla
  have zb := denS_length hlb
  have zc := denS_length hlc
  have zl := denS_length hl
  simp only [List.length_append] at zl
  have hn := S.n
  -- the blocks ahead of the call
  have hU : ∀ {j : Nat} {B : Blk}, (updB h i .dead)[j]? = some B → B = .dead ∨ (h[j]? = some B ∧ j ≠ i) := fun {j B} hj => by
    rw [updB_eq] at hj
    by_cases hij : i = j
    · subst hij
      rw [List.getElem?_set_self hlt] at hj
      simp only [Option.some.injEq] at hj
      exact .inl hj.symm
    · rw [List.getElem?_set_ne hij] at hj; exact .inr ⟨hj, fun e => hij e.symm⟩
  have hUl : (updB h i .dead).length = h.length := by rw [updB_eq, List.length_set]
  have hH : ∀ {j : Nat} {B : Blk}, (updB h i .dead ++ [.cells m b 0])[j]? = some B → B = .dead ∨ (h[j]? = some B ∧ (E.push (partP E i (sizeS a))).f j = E.f j ∧ j ≠ i ∧ j < h.length) ∨ (j = h.length ∧ B = .cells m b 0 ∧ (E.push (partP E i (sizeS a))).f j = partP E i (sizeS a)) := fun {j B} hj => by
    rcases getElem?_push_cases hj with ⟨h1, h2⟩ | ⟨h1, h2⟩
    · rw [hUl] at h2
      rcases hU h1 with h3 | ⟨h3, h4⟩
      · exact .inl h3
      · exact .inr (.inl ⟨h3, Emb.push_old _ _ (by omega), h4, h2⟩)
    · rw [hUl] at h1
      subst h1
      exact .inr (.inr ⟨rfl, h2, by rw [← hn, Emb.push_new]⟩)
  have covP : ∀ {x y : Nat}, cov (partP E i (sizeS a)) (.cells m b 0) x y → cov (E.f i) (.cells m cs sp) x y := fun {x y} hcv => by
    simp only [cov, partP] at hcv ⊢
    omega
  refine ⟨by simp [Emb.push, hUl, hn], fun j B hj => ?_, fun j k A B hjk hj hk hA x y hcj => ?_⟩
  · rcases hH hj with rfl | ⟨h1, h2, _⟩ | ⟨_, rfl, h2⟩
    · trivial
    · rw [h2]; exact okBlk_le (Emb.le_push _ _) (S.ok j B h1)
    · rw [h2]
      refine ⟨?_, ⟨lb, denS_mono (Emb.le_push _ _) _ _ hlb, fun j v hj => ?_⟩, fun hmm j hj => ?_⟩
      · rcases hp with hp | ⟨hp, hp2⟩
        · exact .inl hp
        · exact .inr ⟨hp, by omega⟩
      · have hj2 : j < lb.length := by
          rcases Nat.lt_or_ge j lb.length with h' | h'
          · exact h'
          · rw [List.getElem?_eq_none h'] at hj; cases hj
        have := hc (la.length + j) v (by rw [List.getElem?_append_right (by omega), Nat.add_sub_cancel_left, List.getElem?_append_left hj2]; exact hj)
        rw [za, ← Nat.add_assoc] at this
        exact this
      · have := hm hmm (sizeS a + j) (by omega)
        rw [← Nat.add_assoc] at this
        exact this
  · rcases hH hj with rfl | ⟨h1, h2, h3, _⟩ | ⟨h1, rfl, h2⟩
    · simp [Blk.mut] at hA
    · rw [h2] at hcj
      rcases hH hk with rfl | ⟨k1, k2, _⟩ | ⟨_, rfl, k2⟩
      · intro h'; exact h'
      · rw [k2]; exact S.dis j k A B hjk h1 k1 hA x y hcj
      · rw [k2]; intro hcv; exact S.dis j i A _ h3 h1 hi' hA x y hcj (covP hcv)
    · rw [h2] at hcj
      rcases hH hk with rfl | ⟨k1, k2, k3, _⟩ | ⟨k1, rfl, k2⟩
      · intro h'; exact h'
      · rw [k2]; exact S.dis i k _ B (Ne.symm k3) hi' k1 hA x y (covP hcj)
      · exact absurd (h1.trans k1.symm) hjk

theorem part_post {E : Emb} {h : List Blk} {w w' : World} {i : Nat} {m : Bool} {cs a b c : List Seg} {sp : Nat} {Q K : EV → List Blk → Prop} {e : Ending} (S : Sim E h w) (hi : nthB h i = some (.cells m cs sp))
    (hs : ∀ E l, denS E cs l → denS E (a ++ (b ++ c)) l) (hK : ∀ v h', Q v h' → PartOk (updB h i .dead ++ [.cells m b 0]) i h.length m a b c sp K v h')
    (P : Post (E.push (partP E i (sizeS a))) (updB h i .dead ++ [.cells m b 0]) w Q e w') : Post E h w K e w' := by
  have hi' := nthB_get hi
  have hlt := lt_of_get hi'
  obtain ⟨hp, ⟨l, hl, hc⟩, hm⟩ := S.ok i _ hi'
  obtain ⟨la, lr, rfl, hla, hlr⟩ := denS_split (hs E l hl)
  obtain ⟨lb, lc, rfl, hlb, hlc⟩ := denS_split hlr
  have za := denS_length hla
  have zb := denS_length hlb
  have zc := denS_length hlc
  have zl := denS_length hl
  simp only [List.length_append] at zl
  have hn := S.n
  -- the blocks ahead of the call
  have hU : ∀ {j : Nat} {B : Blk}, (updB h i .dead)[j]? = some B → B = .dead ∨ (h[j]? = some B ∧ j ≠ i) := fun {j B} hj => by
    rw [updB_eq] at hj
    by_cases hij : i = j
    · subst hij
      rw [List.getElem?_set_self hlt] at hj
      simp only [Option.some.injEq] at hj
      exact .inl hj.symm
    · rw [List.getElem?_set_ne hij] at hj; exact .inr ⟨hj, fun e => hij e.symm⟩
  have hUl : (updB h i .dead).length = h.length := by rw [updB_eq, List.length_set]
  have hH : ∀ {j : Nat} {B : Blk}, (updB h i .dead ++ [.cells m b 0])[j]? = some B → B = .dead ∨ (h[j]? = some B ∧ (E.push (partP E i (sizeS a))).f j = E.f j ∧ j ≠ i ∧ j < h.length) ∨ (j = h.length ∧ B = .cells m b 0 ∧ (E.push (partP E i (sizeS a))).f j = partP E i (sizeS a)) := fun {j B} hj => by
    rcases getElem?_push_cases hj with ⟨h1, h2⟩ | ⟨h1, h2⟩
    · rw [hUl] at h2
      rcases hU h1 with h3 | ⟨h3, h4⟩
      · exact .inl h3
      · exact .inr (.inl ⟨h3, Emb.push_old _ _ (by omega), h4, h2⟩)
    · rw [hUl] at h1
      subst h1
      exact .inr (.inr ⟨rfl, h2, by rw [← hn, Emb.push_new]⟩)
  have covP : ∀ {x y : Nat}, cov (partP E i (sizeS a)) (.cells m b 0) x y → cov (E.f i) (.cells m cs sp) x y := fun {x y} hcv => by
    simp only [cov, partP] at hcv ⊢
    omega
  have mut1 : ∀ {x y : Nat}, mutAt (E.push (partP E i (sizeS a))) (updB h i .dead ++ [.cells m b 0]) x y → mutAt E h x y := fun {x y} hm1 => by
    obtain ⟨j, B, hj, hB, hcv⟩ := hm1
    rcases hH hj with rfl | ⟨h1, h2, _⟩ | ⟨_, rfl, h2⟩
    · simp [Blk.mut] at hB
    · rw [h2] at hcv; exact ⟨j, B, h1, hB, hcv⟩
    · rw [h2] at hcv; exact ⟨i, _, hi', hB, covP hcv⟩
  -- cells of the block outside the part are written by nobody
  have out1 : ∀ {y : Nat}, (E.f i).o ≤ y → y < (E.f i).o + (sizeS cs + sp) → ¬ (((E.f i).o + sizeS a) ≤ y ∧ y < (E.f i).o + sizeS a + sizeS b) → ¬ mutAt (E.push (partP E i (sizeS a))) (updB h i .dead ++ [.cells m b 0]) (E.f i).b y := fun {y} h1 h2 h3 hm1 => by
    obtain ⟨j, B, hj, hB, hcv⟩ := hm1
    rcases hH hj with rfl | ⟨k1, k2, k3, _⟩ | ⟨_, rfl, k2⟩
    · simp [Blk.mut] at hB
    · rw [k2] at hcv
      exact S.dis j i B _ k3 k1 hi' hB _ _ hcv ⟨rfl, h1, h2⟩
    · rw [k2] at hcv
      simp only [cov, partP] at hcv
      omega
  obtain ⟨v, x, h', E', rfl, hd, S', N', hq⟩ := P
  obtain ⟨hro, b', cs', hN, hsz, hj', hk⟩ := hK x h' hq
  have hN' := nthB_get hN
  have hNlt := lt_of_get hN'
  have fi : E'.f i = E.f i := by rw [N'.same i (by simp [Emb.push]; omega), Emb.push_old _ _ (by omega)]
  have fN : E'.f h.length = partP E i (sizeS a) := by rw [N'.same h.length (by simp [Emb.push]; omega), ← hn, Emb.push_new]
  obtain ⟨p1, ⟨lb', hlb', hcb'⟩, hmb'⟩ := S'.ok _ _ hN'
  have zb' := denS_length hlb'
  have le' : E.le E' := ⟨by have := N'.len; have h1 := S'.n; simp only [List.length_append, hUl, List.length_singleton] at this; omega, fun j hj => by rw [N'.same j (by simp [Emb.push]; omega), Emb.push_old _ _ hj]⟩
  have hF : ∀ {j : Nat} {B : Blk}, (updB (updB h' h.length .dead) i (.cells m cs' sp))[j]? = some B → B = .dead ∨ (h'[j]? = some B ∧ j ≠ i ∧ j ≠ h.length) ∨ (j = i ∧ B = .cells m cs' sp) := fun {j B} hj => by
    rw [updB_eq, updB_eq] at hj
    by_cases hij : i = j
    · subst hij
      rw [List.getElem?_set_self (by rw [List.length_set]; omega)] at hj
      simp only [Option.some.injEq] at hj
      exact .inr (.inr ⟨rfl, hj.symm⟩)
    · rw [List.getElem?_set_ne hij] at hj
      by_cases hNj : h.length = j
      · subst hNj
        rw [List.getElem?_set_self hNlt] at hj
        simp only [Option.some.injEq] at hj
        exact .inl hj.symm
      · rw [List.getElem?_set_ne hNj] at hj
        exact .inr (.inl ⟨hj, fun e => hij e.symm, fun e => hNj e.symm⟩)
  have dl : denS E' cs' (la ++ (lb' ++ lc)) := hj' E' _ (denS_append (denS_mono le' _ _ hla) (denS_append hlb' (denS_mono le' _ _ hlc)))
  have zcs : sizeS cs' = sizeS cs := by
    have := denS_length dl
    simp only [List.length_append] at this
    omega
  have pnt : ∀ j, j < sizeS cs + sp → (E.f i).b < w.heap.size := fun j hj => by
    rcases hp with h1 | ⟨_, h1⟩
    · exact h1
    · omega
  have keep : ∀ j, j < sizeS cs + sp → ¬ (sizeS a ≤ j ∧ j < sizeS a + sizeS b) → w'.cell? ⟨(E.f i).b, (E.f i).o + j, none⟩ = w.cell? ⟨(E.f i).b, (E.f i).o + j, none⟩ := fun j hj hno =>
    (N'.cells _ _ (pnt j hj) (out1 (by omega) (by omega) (by omega))).1
  refine ⟨v, x, _, E', rfl, hd, ⟨?_, fun j B hj => ?_, fun j k A B hjk hj hk hA y z hcj => ?_⟩, ⟨?_, fun j hj => le'.2 j hj, N'.size, fun y hy hno => N'.frame y hy (fun o hm1 => hno o (mut1 hm1)), fun y z hy hno => N'.cells y z hy (fun hm1 => hno (mut1 hm1)), fun y z hm1 hy => ?_, N'.os, N'.tape, N'.output, N'.rows⟩, hk⟩
  · rw [S'.n]; simp [updB_eq]
  · rcases hF hj with rfl | ⟨h1, _, _⟩ | ⟨rfl, rfl⟩
    · trivial
    · exact S'.ok j B h1
    · rw [fi]
      refine ⟨?_, ⟨_, dl, fun k v hk => ?_⟩, fun hmm k hk => ?_⟩
      · rcases hp with h1 | ⟨h1, h2⟩
        · exact .inl (by have := N'.size; omega)
        · exact .inr ⟨h1, by omega⟩
      · have hkl : k < sizeS cs := by
          rcases Nat.lt_or_ge k (la ++ (lb' ++ lc)).length with h1 | h1
          · simp only [List.length_append] at h1; omega
          · rw [List.getElem?_eq_none h1] at hk; cases hk
        by_cases hin : sizeS a ≤ k ∧ k < sizeS a + sizeS b
        · have h1 := hcb' (k - sizeS a) v (by
            rw [List.getElem?_append_right (by omega), List.getElem?_append_left (by omega), za] at hk
            exact hk)
          rw [fN] at h1
          simp only [partP, Nat.add_assoc] at h1
          rwa [show sizeS a + (k - sizeS a) = k by omega] at h1
        · rw [keep k (by omega) hin]
          refine hc k v ?_
          by_cases h1 : k < sizeS a
          · rw [List.getElem?_append_left (by omega)] at hk ⊢; exact hk
          · rw [List.getElem?_append_right (by omega), List.getElem?_append_right (by omega)] at hk ⊢
            rw [show k - la.length - lb.length = k - la.length - lb'.length by omega]
            exact hk
      · rw [zcs] at hk
        by_cases hin : sizeS a ≤ k ∧ k < sizeS a + sizeS b
        · have h1 := hmb' hmm (k - sizeS a) (by omega)
          rw [fN] at h1
          simp only [partP, Nat.add_assoc] at h1
          rwa [show sizeS a + (k - sizeS a) = k by omega] at h1
        · rw [keep k hk hin]
          obtain ⟨h1, h2⟩ := hm hmm k hk
          exact ⟨h1, N'.rows _ (pnt k hk) h2⟩
  · -- apart
    have one : ∀ {k : Nat} {B : Blk}, h'[k]? = some B → k ≠ i → k ≠ h.length → (m = true ∨ B.mut = true) → ∀ {y z : Nat}, cov (E.f i) (.cells m cs' sp) y z → ¬ cov (E'.f k) B y z := fun {k B} hB hki hkN hmB {y z} hcv hcv' => by
      simp only [cov, zcs] at hcv
      obtain ⟨rfl, hz1, hz2⟩ := hcv
      by_cases hin : (E.f i).o + sizeS a ≤ z ∧ z < (E.f i).o + sizeS a + sizeS b
      · have hcN : cov (E'.f h.length) (.cells m b' 0) (E.f i).b z := by
          rw [fN]; exact ⟨rfl, hin.1, by simp only [partP]; omega⟩
        rcases hmB with hmm | hmm
        · exact S'.dis h.length k _ B (Ne.symm hkN) hN' hB hmm _ _ hcN hcv'
        · exact S'.dis k h.length B _ hkN hB hN' hmm _ _ hcv' hcN
      · have hno := out1 hz1 hz2 hin
        have hbl := pnt 0 (by omega)
        rcases roOk_get hro k B hB with h1 | rfl | h1
        · exact hno (N'.new _ _ ⟨k, B, hB, h1, hcv'⟩ hbl)
        · exact hcv'
        · rcases hH h1 with rfl | ⟨k1, k2, k3, k4⟩ | ⟨k1, _, _⟩
          · exact hcv'
          · rw [N'.same k (by simp [Emb.push]; omega), k2] at hcv'
            rcases hmB with hmm | hmm
            · exact S.dis i k _ B (Ne.symm k3) hi' k1 hmm _ _ ⟨rfl, hz1, hz2⟩ hcv'
            · exact S.dis k i B _ k3 k1 hi' hmm _ _ hcv' ⟨rfl, hz1, hz2⟩
          · exact hkN k1
    rcases hF hj with rfl | ⟨h1, h2, h3⟩ | ⟨rfl, rfl⟩
    · simp [Blk.mut] at hA
    · rcases hF hk with rfl | ⟨k1, k2, k3⟩ | ⟨rfl, rfl⟩
      · intro h'; exact h'
      · exact S'.dis j k A B hjk h1 k1 hA y z hcj
      · rw [fi]; intro hcv; exact one h1 h2 h3 (.inr hA) hcv hcj
    · rcases hF hk with rfl | ⟨k1, k2, k3⟩ | ⟨rfl, rfl⟩
      · intro h'; exact h'
      · rw [fi] at hcj; exact one k1 k2 k3 (.inl hA) hcj
      · exact absurd rfl hjk
  · simp only [updB_eq, List.length_set]
    have := N'.len
    simp only [List.length_append, hUl, List.length_singleton] at this
    omega
  · obtain ⟨k, B, hB, hBm, hcv⟩ := hm1
    rcases hF hB with rfl | ⟨h1, _, _⟩ | ⟨rfl, rfl⟩
    · simp [Blk.mut] at hBm
    · exact mut1 (N'.new y z ⟨k, B, h1, hBm, hcv⟩ hy)
    · rw [fi] at hcv
      refine ⟨_, _, hi', hBm, ?_⟩
      simpa only [cov, zcs] using hcv

theorem part_mut {E : Emb} {h : List Blk} {w : World} {i : Nat} {m : Bool} {cs a b c : List Seg} {sp : Nat} (S : Sim E h w) (hi : nthB h i = some (.cells m cs sp))
    (hs : ∀ E l, denS E cs l → denS E (a ++ (b ++ c)) l) : ∀ x y, mutAt (E.push (partP E i (sizeS a))) (updB h i .dead ++ [.cells m b 0]) x y → mutAt E h x y := by
  rintro x y ⟨j, B, hj, hB, hcv⟩
  have hi' := nthB_get hi
  have hlt := lt_of_get hi'
  obtain ⟨hp, ⟨l, hl, hc⟩, hm⟩ := S.ok i _ hi'
  obtain ⟨la, lr, rfl, hla, hlr⟩ := denS_split (hs E l hl)
  obtain ⟨lb, lc, rfl, hlb, hlc⟩ := denS_split hlr
  have za := denS_length hla
  have zb := denS_length hlb
  have zc := denS_length hlc
  have zl := denS_length hl
  simp only [List.length_append] at zl
  have hn := S.n
  rcases getElem?_push_cases hj with ⟨h1, h2⟩ | ⟨h1, h2⟩
  · rw [updB_eq, List.length_set] at h2
    rw [Emb.push_old _ _ (by omega)] at hcv
    rw [updB_eq] at h1
    by_cases hij : i = j
    · subst hij
      rw [List.getElem?_set_self hlt] at h1
      simp only [Option.some.injEq] at h1
      subst h1
      cases hB
    · rw [List.getElem?_set_ne hij] at h1
      exact ⟨j, B, h1, hB, hcv⟩
  · rw [updB_eq, List.length_set] at h1
    subst h1
    subst h2
    rw [← hn, Emb.push_new] at hcv
    refine ⟨i, _, hi', hB, ?_⟩
    simp only [cov, partP] at hcv ⊢
    omega
/-- **A call that is handed a part of a block.** -/
theorem Does.part {T : Tbl} {f : FuncId} {args args' : List EV} {h : List Blk} {Q K : EV → List Blk → Prop} (i : Nat) {m : Bool} {cs : List Seg} {sp : Nat} (a b c : List Seg) (hi : nthB h i = some (.cells m cs sp))
    (hs : ∀ E l, denS E cs l → denS E (a ++ (b ++ c)) l) (ha : partT i h.length (sizeS a) args args') (d : Does T f args' (updB h i .dead ++ [.cells m b 0]) Q)
    (hK : ∀ v h', Q v h' → PartOk (updB h i .dead ++ [.cells m b 0]) i h.length m a b c sp K v h') : Does T f args h K := by
  refine ⟨?_⟩
  rcases d.go with ⟨h1, h2⟩ | h1
  · refine .inl ⟨h1, fun E w vs S Z hv => ?_⟩
    have hn := S.n
    exact (h2 _ w vs (part_sim S hi hs) (Z.sub (part_mut S hi hs)) (partT_den (by rw [hn]; exact ha) hv)).mono fun e w' p => part_post S hi hs hK p
  · refine .inr fun E w vs S hv => ?_
    have hn := S.n
    obtain ⟨u, w', h2, h3⟩ := h1 _ w vs (part_sim S hi hs) (partT_den (by rw [hn]; exact ha) hv)
    exact ⟨u, w', h2, part_post S hi hs hK h3⟩

end Go.Anv

/- The engine, part 16: contracts that go on: over whatever heap, the answer handed to what follows. Plain theorems, no condition. -/
namespace Go.Anv
open Go

/-- How many blocks there are. -/
def lenK (l : List Blk) : Nat → (Nat → Prop) → Prop :=
  List.rec (motive := fun _ => Nat → (Nat → Prop) → Prop) (fun n k => k n) (fun _ _ ih n k => ih (n + 1) k) l

theorem lenK_eq : ∀ (l : List Blk) (n : Nat) (k : Nat → Prop), lenK l n k = k (n + l.length)
  | [], _, _ => rfl
  | _ :: r, n, k => by
    show lenK r (n + 1) k = _
    rw [lenK_eq r]
    simp only [List.length_cons]
    rw [show n + 1 + r.length = n + (r.length + 1) by omega]

/-- Blocks behind the others. -/
def appBK (l r : List Blk) : (List Blk → Prop) → Prop :=
  List.rec (motive := fun _ => (List Blk → Prop) → Prop) (fun k => k r) (fun x _ ih k => ih fun h => k (x :: h)) l

theorem appBK_eq : ∀ (l r : List Blk) (k : List Blk → Prop), appBK l r k = k (l ++ r)
  | [], _, _ => rfl
  | x :: l, r, k => by
    show (appBK l r fun h => k (x :: h)) = _
    rw [appBK_eq l]
    rfl

/-- A cell of some cells, and what they are with another in its place. -/
def CellAt (cs : List Seg) (o : Nat) (e : SV) (cs' : List Seg) (e' : SV) : Prop :=
  ∃ a c, sizeS a = o ∧ (∀ E l, denS E cs l → denS E (a ++ ([.one e] ++ c)) l) ∧ ∀ E l, denS E (a ++ ([.one e'] ++ c)) l → denS E cs' l

theorem CellAt.cons_one {cs cs' : List Seg} {o : Nat} {e e' v : SV} (h : CellAt cs o e cs' e') : CellAt (.one v :: cs) (o + 1) e (.one v :: cs') e' := by
  obtain ⟨a, c, h1, h2, h3⟩ := h
  refine ⟨.one v :: a, c, by simp [sizeS, h1], fun E l hd => ?_, fun E l hd => ?_⟩
  · simp only [denS, List.cons_append] at hd ⊢
    obtain ⟨u, l', rfl, k1, k2⟩ := hd
    exact ⟨u, l', rfl, k1, h2 E l' k2⟩
  · simp only [denS, List.cons_append] at hd ⊢
    obtain ⟨u, l', rfl, k1, k2⟩ := hd
    exact ⟨u, l', rfl, k1, h3 E l' k2⟩

theorem CellAt.cons_ints {cs cs' : List Seg} {o : Nat} {e e' : SV} {k : IntKind} {n : Nat} {f : Nat → Int} (h : CellAt cs o e cs' e') : CellAt (.ints k n f :: cs) (n + o) e (.ints k n f :: cs') e' := by
  obtain ⟨a, c, h1, h2, h3⟩ := h
  refine ⟨.ints k n f :: a, c, by simp [sizeS, h1], fun E l hd => ?_, fun E l hd => ?_⟩
  · simp only [denS, List.cons_append] at hd ⊢
    obtain ⟨l', rfl, k2⟩ := hd
    exact ⟨l', rfl, h2 E l' k2⟩
  · simp only [denS, List.cons_append] at hd ⊢
    obtain ⟨l', rfl, k2⟩ := hd
    exact ⟨l', rfl, h3 E l' k2⟩

theorem cell_one : ∀ {cs cs' : List Seg} {o : Nat} {e e' : SV}, getS cs o = some e → setS cs o e' = some cs' → CellAt cs o e cs' e'
  | [], _, _, _, _, h, _ => by simp [getS] at h
  | .one v :: r, cs', 0, e, e', h, h' => by
    simp only [getS, Option.some.injEq] at h
    simp only [setS, Option.some.injEq] at h'
    subst h; subst h'
    exact ⟨[], r, rfl, fun _ _ h => h, fun _ _ h => h⟩
  | .one v :: r, cs', o + 1, e, e', h, h' => by
    simp only [getS] at h
    simp only [setS, Option.map_eq_some_iff] at h'
    obtain ⟨c, hc, rfl⟩ := h'
    exact (cell_one h hc).cons_one
  | .ints k n f :: r, cs', o, e, e', h, h' => by
    unfold getS at h
    unfold setS at h'
    split at h
    · rw [if_neg (by omega)] at h'
      cases h'
    · rename_i ho
      rw [if_pos (by omega)] at h'
      simp only [Option.map_eq_some_iff] at h'
      obtain ⟨c, hc, rfl⟩ := h'
      have := (cell_one h hc).cons_ints (k := k) (n := n) (f := f)
      rwa [show n + (o - n) = o by omega] at this

theorem intsOf_split (k : IntKind) {n j : Nat} (f : Nat → Int) (h : j < n) : intsOf k n f = intsOf k j f ++ (.int k (f j) :: intsOf k (n - j - 1) (fun i => f (j + 1 + i))) := by
  obtain ⟨m, rfl⟩ : ∃ m, n = j + (m + 1) := ⟨n - j - 1, by omega⟩
  have e : j + (m + 1) - j - 1 = m := by omega
  rw [e]
  simp only [intsOf]
  rw [List.range_add, List.map_append, List.map_map, List.range_succ_eq_map]
  congr 1
  simp only [List.map_cons, List.map_map, Function.comp_def, Nat.add_zero]
  congr 1
  refine List.map_congr_left fun i _ => ?_
  simp only [Nat.succ_eq_add_one]
  rw [show j + (i + 1) = j + 1 + i by omega]

theorem cell_ints_head (k : IntKind) {n j : Nat} (f g : Nat → Int) (r : List Seg) (hj : j < n) (hg : ∀ i, i < n → i ≠ j → f i = g i) : CellAt (.ints k n f :: r) j (.int k (f j)) (.ints k n g :: r) (.int k (g j)) := by
  refine ⟨[.ints k j f], .ints k (n - j - 1) (fun i => f (j + 1 + i)) :: r, by simp [sizeS], fun E l hd => ?_, fun E l hd => ?_⟩
  · simp only [denS, List.cons_append, List.nil_append, denV] at hd ⊢
    obtain ⟨l', rfl, k2⟩ := hd
    rw [intsOf_split k f hj]
    exact ⟨_, by rw [List.append_assoc, List.cons_append], _, _, rfl, rfl, l', rfl, k2⟩
  · simp only [denS, List.cons_append, List.nil_append, denV] at hd ⊢
    obtain ⟨l1, rfl, v, l2, rfl, rfl, l3, rfl, k2⟩ := hd
    refine ⟨l3, ?_, k2⟩
    rw [intsOf_split k g hj, List.append_assoc, intsOf_congr (f := f) (g := g) (fun i hi => hg i (by omega) (by omega)), intsOf_congr (f := fun i => f (j + 1 + i)) (g := fun i => g (j + 1 + i)) (fun i hi => hg _ (by omega) (by omega))]
    rfl

theorem cell_ints : ∀ {cs : List Seg} {o j : Nat} {k : IntKind} {n : Nat} {f : Nat → Int}, getI cs o = some (k, n, f) → j < n → CellAt cs (o + j) (.int k (f j)) cs (.int k (f j))
  | [], _, _, _, _, _, h, _ => by simp [getI] at h
  | .one v :: r, 0, j, k, n, f, h, hj => by simp [getI] at h
  | .one v :: r, o + 1, j, k, n, f, h, hj => by
    simp only [getI] at h
    have := (cell_ints (j := j) h hj).cons_one (v := v)
    rwa [show o + j + 1 = o + 1 + j by omega] at this
  | .ints q m g :: r, o, j, k, n, f, h, hj => by
    cases o with
    | zero =>
      simp only [getI, Option.some.injEq, Prod.mk.injEq] at h
      obtain ⟨rfl, rfl, rfl⟩ := h
      rw [Nat.zero_add]
      exact cell_ints_head _ _ _ r hj (fun _ _ _ => rfl)
    | succ o =>
      unfold getI at h
      split at h
      · rename_i ho
        have := (cell_ints (j := j) h hj).cons_ints (k := q) (n := m) (f := g)
        rwa [show m + (o + 1 - m + j) = o + 1 + j by omega] at this
      · cases h

theorem cell_setI : ∀ {cs cs' : List Seg} {o j : Nat} {k : IntKind} {n : Nat} {f : Nat → Int} {x : Int}, getI cs o = some (k, n, f) → j < n → setI cs o j k x = some cs' → CellAt cs (o + j) (.int k (f j)) cs' (.int k x)
  | [], _, _, _, _, _, _, _, h, _, _ => by simp [getI] at h
  | .one v :: r, _, 0, j, k, n, f, x, h, hj, _ => by simp [getI] at h
  | .one v :: r, cs', o + 1, j, k, n, f, x, h, hj, h' => by
    simp only [getI] at h
    simp only [setI, Option.map_eq_some_iff] at h'
    obtain ⟨c, hc, rfl⟩ := h'
    have := (cell_setI (j := j) h hj hc).cons_one (v := v)
    rwa [show o + j + 1 = o + 1 + j by omega] at this
  | .ints q m g :: r, cs', o, j, k, n, f, x, h, hj, h' => by
    cases o with
    | zero =>
      simp only [getI, Option.some.injEq, Prod.mk.injEq] at h
      obtain ⟨rfl, rfl, rfl⟩ := h
      simp only [setI, if_true, Option.some.injEq] at h'
      subst h'
      rw [Nat.zero_add]
      have := cell_ints_head q g (fun i => if i = j then x else g i) r hj (fun i _ hi => by simp [hi])
      simpa using this
    | succ o =>
      unfold getI at h
      split at h
      · rename_i ho
        unfold setI at h'
        rw [if_pos ho] at h'
        simp only [Option.map_eq_some_iff] at h'
        obtain ⟨c, hc, rfl⟩ := h'
        have := (cell_setI (j := j) h hj hc).cons_ints (k := q) (n := m) (f := g)
        rwa [show m + (o + 1 - m + j) = o + 1 + j by omega] at this
      · cases h

theorem nthB_app_lt {h r : List Blk} {i : Nat} {B : Blk} (hi : nthB h i = some B) : nthB (h ++ r) i = some B := nthB_app hi
theorem nthB_len : ∀ (h : List Blk) (B : Blk) (r : List Blk), nthB (h ++ B :: r) h.length = some B
  | [], _, _ => rfl
  | _ :: h, B, r => by simp only [List.cons_append, List.length_cons, nthB]; exact nthB_len h B r
theorem nthB_upd_ne : ∀ {h : List Blk} {i j : Nat} {A B : Blk}, nthB h i = some A → i ≠ j → nthB (updB h j B) i = some A
  | [], _, _, _, _, h, _ => by simp [nthB] at h
  | _ :: _, 0, 0, _, _, _, hn => absurd rfl hn
  | _ :: _, 0, j + 1, _, _, h, _ => h
  | _ :: _, i + 1, 0, _, _, h, _ => h
  | _ :: r, i + 1, j + 1, _, _, h, hn => by simp only [nthB, updB] at h ⊢; exact nthB_upd_ne h (fun e => hn (by rw [e]))
theorem nthB_upd_eq : ∀ {h : List Blk} {i : Nat} {A B : Blk}, nthB h i = some A → nthB (updB h i B) i = some B
  | [], _, _, _, h => by simp [nthB] at h
  | _ :: _, 0, _, _, _ => rfl
  | _ :: r, i + 1, _, _, h => by simp only [nthB, updB] at h ⊢; exact nthB_upd_eq h
theorem len_updB : ∀ (h : List Blk) (b : Nat) (B : Blk), (updB h b B).length = h.length
  | [], _, _ => rfl
  | _ :: _, 0, _ => rfl
  | _ :: r, b + 1, B => by simp [updB, len_updB r b B]
theorem nthB_lt {h : List Blk} {i : Nat} {B : Blk} (hi : nthB h i = some B) : i < h.length := lt_of_get (nthB_get hi)

end Go.Anv

/- The engine, part 17: a call that is handed a pointer to one cell of a block, by a contract that is shown of a small heap with that cell alone. Plain theorems; their condition: what the call leaves of the cell. -/
namespace Go.Anv
open Go

theorem roOk_mk : ∀ {h h' : List Blk}, (∀ (i : Nat) (B : Blk), h'[i]? = some B → B.mut = true ∨ B = .dead ∨ h[i]? = some B) → roOk h h'
  | [], [], _ => trivial
  | _ :: _, [], _ => trivial
  | [], B :: r, hk => ⟨by rcases hk 0 B (by simp) with h | h | h
                          · exact .inl h
                          · exact .inr h
                          · simp at h, roOk_mk fun i C hi => by
    rcases hk (i + 1) C (by simpa using hi) with h | h | h
    · exact .inl h
    · exact .inr (.inl h)
    · simp at h⟩
  | A :: s, B :: r, hk => ⟨by rcases hk 0 B (by simp) with h | h | h
                              · exact .inl h
                              · exact .inr (.inl h)
                              · exact .inr (.inr (by simpa using h.symm)), roOk_mk fun i C hi => by
    rcases hk (i + 1) C (by simpa using hi) with h | h | h
    · exact .inl h
    · exact .inr (.inl h)
    · exact .inr (.inr (by simpa using h))⟩

theorem roOk_merge {h hc h' : List Blk} {κ : List Nat} (hnd : κ.Nodup) (hh : subH h κ (renH (lk κ h.length) hc)) (ho : roOk hc h') (hl : κ.length ≤ h'.length) : roOk h (mergeB h κ (renH (lk κ h.length) h')) := by
  obtain ⟨h1, h2⟩ := subH_get hh
  rw [length_renH] at h1
  have hlt : ∀ k ∈ κ, k < h.length := fun k hk => by
    obtain ⟨i, hi⟩ := List.getElem?_of_mem hk
    have hi' : i < hc.length := by
      have : i < κ.length := by
        rcases Nat.lt_or_ge i κ.length with h' | h'
        · exact h'
        · rw [List.getElem?_eq_none h'] at hi; cases hi
      omega
    obtain ⟨k', h3, h4⟩ := h2 i (renB (lk κ h.length) hc[i]) (by rw [renH_get, List.getElem?_eq_getElem hi']; rfl)
    rw [hi] at h3
    cases h3
    exact lt_of_get h4
  refine roOk_mk fun j B hj => ?_
  rcases mergeB_get h κ _ hnd hlt (by rw [length_renH]; exact hl) j B hj with ⟨_, _, h3⟩ | ⟨i, h3, h4⟩
  · exact .inr (.inr h3)
  · rw [renH_get] at h4
    simp only [Option.map_eq_some_iff] at h4
    obtain ⟨B', h5, rfl⟩ := h4
    rcases roOk_get ho i B' h5 with h6 | rfl | h6
    · exact .inl (by rw [mut_ren]; exact h6)
    · exact .inr (.inl rfl)
    · obtain ⟨k, h7, h8⟩ := h2 i (renB (lk κ h.length) B') (by rw [renH_get, h6]; rfl)
      have hi : i < κ.length := by
        rcases Nat.lt_or_ge i κ.length with h' | h'
        · exact h'
        · rw [List.getElem?_eq_none h'] at h7; cases h7
      rw [look_lt κ _ i hi] at h3
      rw [List.getElem?_eq_getElem hi] at h7
      cases h7
      subst h3
      exact .inr (.inr h8)

/-- A cell of some cells; P: what they become with another in its place. -/
def Cell (cs : List Seg) (o : Nat) (e : SV) (P : SV → List Seg → Prop) : Prop :=
  ∃ a c, sizeS a = o ∧ (∀ E l, denS E cs l → denS E (a ++ ([.one e] ++ c)) l) ∧ ∀ e' cs', P e' cs' → ∀ E l, denS E (a ++ ([.one e'] ++ c)) l → denS E cs' l

theorem Cell.cons_one {cs : List Seg} {o : Nat} {e v : SV} {P : SV → List Seg → Prop} (h : Cell cs o e P) : Cell (.one v :: cs) (o + 1) e (fun e' cs' => ∃ c, P e' c ∧ cs' = .one v :: c) := by
  obtain ⟨a, c, h1, h2, h3⟩ := h
  refine ⟨.one v :: a, c, by simp [sizeS, h1], fun E l hd => ?_, fun e' cs' hp E l hd => ?_⟩
  · simp only [denS, List.cons_append] at hd ⊢
    obtain ⟨u, l', rfl, k1, k2⟩ := hd
    exact ⟨u, l', rfl, k1, h2 E l' k2⟩
  · obtain ⟨c', hp, rfl⟩ := hp
    simp only [denS, List.cons_append] at hd ⊢
    obtain ⟨u, l', rfl, k1, k2⟩ := hd
    exact ⟨u, l', rfl, k1, h3 e' c' hp E l' k2⟩

theorem Cell.cons_ints {cs : List Seg} {o : Nat} {e : SV} {P : SV → List Seg → Prop} {k : IntKind} {n : Nat} {f : Nat → Int} (h : Cell cs o e P) : Cell (.ints k n f :: cs) (n + o) e (fun e' cs' => ∃ c, P e' c ∧ cs' = .ints k n f :: c) := by
  obtain ⟨a, c, h1, h2, h3⟩ := h
  refine ⟨.ints k n f :: a, c, by simp [sizeS, h1], fun E l hd => ?_, fun e' cs' hp E l hd => ?_⟩
  · simp only [denS, List.cons_append] at hd ⊢
    obtain ⟨l', rfl, k2⟩ := hd
    exact ⟨l', rfl, h2 E l' k2⟩
  · obtain ⟨c', hp, rfl⟩ := hp
    simp only [denS, List.cons_append] at hd ⊢
    obtain ⟨l', rfl, k2⟩ := hd
    exact ⟨l', rfl, h3 e' c' hp E l' k2⟩

theorem Cell.mono {cs : List Seg} {o : Nat} {e : SV} {P P' : SV → List Seg → Prop} (h : Cell cs o e P) (hp : ∀ e' cs', P' e' cs' → P e' cs') : Cell cs o e P' := by
  obtain ⟨a, c, h1, h2, h3⟩ := h
  exact ⟨a, c, h1, h2, fun e' cs' h => h3 e' cs' (hp e' cs' h)⟩

/-- A cell of its own. -/
theorem Cell.one : ∀ {cs : List Seg} {o : Nat} {e : SV}, getS cs o = some e → (∃ e' cs', setS cs o e' = some cs') → Cell cs o e (fun e' cs' => setS cs o e' = some cs')
  | [], _, _, h, _ => by simp [getS] at h
  | .one v :: r, 0, e, h, _ => by
    simp only [getS, Option.some.injEq] at h
    subst h
    refine ⟨[], r, rfl, fun _ _ h => h, fun e' cs' h' _ _ h => ?_⟩
    simp only [setS, Option.some.injEq] at h'
    subst h'
    exact h
  | .one v :: r, o + 1, e, h, hw => by
    simp only [getS] at h
    obtain ⟨e', cs', hw⟩ := hw
    simp only [setS, Option.map_eq_some_iff] at hw
    obtain ⟨c, hc, _⟩ := hw
    refine (Cell.one h ⟨e', c, hc⟩).cons_one.mono fun e' cs' h' => ?_
    simp only [setS, Option.map_eq_some_iff] at h'
    obtain ⟨c, hc, rfl⟩ := h'
    exact ⟨c, hc, rfl⟩
  | .ints k n f :: r, o, e, h, hw => by
    obtain ⟨e', cs', hw⟩ := hw
    unfold setS at hw
    split at hw
    · rename_i ho
      simp only [Option.map_eq_some_iff] at hw
      obtain ⟨c, hc, _⟩ := hw
      unfold getS at h
      rw [if_neg (by omega)] at h
      have := (Cell.one h ⟨e', c, hc⟩).cons_ints (k := k) (n := n) (f := f)
      rw [show n + (o - n) = o by omega] at this
      refine this.mono fun e' cs' h' => ?_
      unfold setS at h'
      rw [if_pos ho] at h'
      simp only [Option.map_eq_some_iff] at h'
      obtain ⟨c, hc, rfl⟩ := h'
      exact ⟨c, hc, rfl⟩
    · cases hw

/-- A cell among whole numbers of one kind. -/
theorem Cell.ints : ∀ {cs : List Seg} {o j : Nat} {k : IntKind} {n : Nat} {f : Nat → Int}, getI cs o = some (k, n, f) → j < n → Cell cs (o + j) (.int k (f j)) (fun e' cs' => ∃ x, e' = .int k x ∧ setI cs o j k x = some cs')
  | [], _, _, _, _, _, h, _ => by simp [getI] at h
  | .one v :: r, 0, j, k, n, f, h, hj => by simp [getI] at h
  | .one v :: r, o + 1, j, k, n, f, h, hj => by
    simp only [getI] at h
    have := (Cell.ints (j := j) h hj).cons_one (v := v)
    rw [show o + j + 1 = o + 1 + j by omega] at this
    refine this.mono fun e' cs' h' => ?_
    obtain ⟨x, rfl, h'⟩ := h'
    simp only [setI, Option.map_eq_some_iff] at h'
    obtain ⟨c, hc, rfl⟩ := h'
    exact ⟨c, ⟨x, rfl, hc⟩, rfl⟩
  | .ints q m g :: r, o, j, k, n, f, h, hj => by
    cases o with
    | zero =>
      simp only [getI, Option.some.injEq, Prod.mk.injEq] at h
      obtain ⟨rfl, rfl, rfl⟩ := h
      rw [Nat.zero_add]
      refine ⟨[.ints q j g], .ints q (m - j - 1) (fun i => g (j + 1 + i)) :: r, by simp [sizeS], fun E l hd => ?_, fun e' cs' h' E l hd => ?_⟩
      · simp only [denS, List.cons_append, List.nil_append, denV] at hd ⊢
        obtain ⟨l', rfl, k2⟩ := hd
        rw [intsOf_split q g hj]
        exact ⟨_, by rw [List.append_assoc, List.cons_append], _, _, rfl, rfl, l', rfl, k2⟩
      · obtain ⟨x, rfl, h'⟩ := h'
        simp only [setI, if_true, Option.some.injEq] at h'
        subst h'
        simp only [denS, List.cons_append, List.nil_append, denV] at hd ⊢
        obtain ⟨l1, rfl, v, l2, rfl, rfl, l3, rfl, k2⟩ := hd
        refine ⟨l3, ?_, k2⟩
        rw [intsOf_split q (fun i => if i = j then x else g i) hj, List.append_assoc, intsOf_congr (f := g) (g := fun i => if i = j then x else g i) (fun i hi => (if_neg (by omega)).symm), intsOf_congr (f := fun i => g (j + 1 + i)) (g := fun i => if j + 1 + i = j then x else g (j + 1 + i)) (fun i hi => (if_neg (by omega)).symm)]
        simp
    | succ o =>
      unfold getI at h
      split at h
      · rename_i ho
        have := (Cell.ints (j := j) h hj).cons_ints (k := q) (n := m) (f := g)
        rw [show m + (o + 1 - m + j) = o + 1 + j by omega] at this
        refine this.mono fun e' cs' h' => ?_
        obtain ⟨x, rfl, h'⟩ := h'
        unfold setI at h'
        rw [if_pos ho] at h'
        simp only [Option.map_eq_some_iff] at h'
        obtain ⟨c, hc, rfl⟩ := h'
        exact ⟨c, ⟨x, rfl, hc⟩, rfl⟩
      · cases h

/-- A cell that stays as it is. -/
theorem Cell.keep {cs : List Seg} {o : Nat} {e : SV} (h : CellAt cs o e cs e) : Cell cs o e (fun e' cs' => e' = e ∧ cs' = cs) := by
  obtain ⟨a, c, h1, h2, h3⟩ := h
  exact ⟨a, c, h1, h2, fun e' cs' h => by obtain ⟨rfl, rfl⟩ := h; exact h3⟩

/-- **A call that is handed a pointer to a cell, by a contract shown of a small heap with that cell alone.** -/
theorem Does.cell {T : Tbl} {f : FuncId} {args args' : List EV} {hc h : List Blk} {Q K : EV → List Blk → Prop} (d : Does T f args hc Q) (κ : List Nat) (pv k N : Nat) {m : Bool} {sp : Nat} {cs : List Seg} {x : SV} {P : SV → List Seg → Prop} (hN : h.length = N)
    (hv : nthB h pv = some (.cells m cs sp)) (hcell : Cell cs k x P) (hh : subH (updB h pv .dead ++ [.cells m [.one x] 0]) κ (renH (lk κ (N + 1)) hc)) (ha : partT pv N k args' (renT (lk κ (N + 1)) args))
    (hnd : κ.Nodup) (hro : ∀ v h', Q v h' → roOk hc h') (hlen : ∀ v h', Q v h' → κ.length ≤ h'.length)
    (hK : ∀ v h', Q v h' → ∃ x' cs', nthB (mergeB (updB h pv .dead ++ [.cells m [.one x] 0]) κ (renH (lk κ (N + 1)) h')) N = some (.cells m [.one x'] 0) ∧ P x' cs' ∧
      forceH (updB (updB (mergeB (updB h pv .dead ++ [.cells m [.one x] 0]) κ (renH (lk κ (N + 1)) h')) N .dead) pv (.cells m cs' sp)) fun h2 => forceE (renE (lk κ (N + 1)) v) fun v => K v h2) : Does T f args' h K := by
  subst hN
  obtain ⟨a, b, h1, h2, h3⟩ := hcell
  have hl1 : (updB h pv .dead ++ [Blk.cells m [.one x] 0]).length = h.length + 1 := by rw [List.length_append, len_updB]; rfl
  have d' := Does.frame d κ (h := updB h pv .dead ++ [Blk.cells m [.one x] 0]) hnd hro (by rw [hl1]; exact hh)
  refine Does.part pv a [.one x] b hv h2 (by rw [h1]; exact ha) (hl1 ▸ d') ?_
  rintro v h'' ⟨v', h', hq, rfl, rfl⟩
  obtain ⟨x', cs', k1, k2, k3⟩ := hK v' h' hq
  rw [forceH_eq, forceE_eq] at k3
  refine ⟨?_, [.one x'], cs', ?_, rfl, h3 x' cs' k2, ?_⟩
  · have := roOk_merge hnd (by rw [hl1]; exact hh) (hro v' h' hq) (hlen v' h' hq)
    rwa [hl1] at this
  · exact k1
  · exact k3

end Go.Anv

namespace Go.Anv
open Go
structure Box (p : Prop) : Prop where
  go : p

/-- n rounds at most, by the recursor itself. -/
def loopR (T : Tbl) (O : Org) (c : Code) (K : Exit → St → Prop) (n : Nat) : St → Prop :=
  Nat.rec (motive := fun _ => St → Prop) (fun _ => False) (fun _ ih s => Box (wpx T O c s (seqK ih K))) n

theorem loopR_eq (T : Tbl) (O : Org) (c : Code) (K : Exit → St → Prop) : ∀ (n : Nat) (s : St), loopR T O c K n s = loopN T O c n s K
  | 0, _ => rfl
  | n + 1, s => by
    have e : (Box (wpx T O c s (seqK (loopR T O c K n) K)) : Prop) = wpx T O c s (seqK (loopR T O c K n) K) := propext ⟨fun h => h.go, fun h => ⟨h⟩⟩
    show Box (wpx T O c s (seqK (loopR T O c K n) K)) = wpx T O c s (seqK (fun s' => loopN T O c n s' K) K)
    rw [e, show loopR T O c K n = fun s' => loopN T O c n s' K from funext (loopR_eq T O c K n)]

/-- A loop of at most n rounds, each walked by itself. -/
theorem loop_times {T : Tbl} {O : Org} (on : O.E.n = O.h.length) {c : Code} {K : Exit → St → Prop} (n : Nat) {s : St} (h : loopR T O c K n s) : LoopG T O c s K := loop_unroll on n (loopR_eq T O c K n s ▸ h)
end Go.Anv

namespace Go.Anv
open Go
/-- Arguments that say more. -/
theorem Does.args {T : Tbl} {f : FuncId} {a b : List EV} {h : List Blk} {Q : EV → List Blk → Prop} (e : eqvT a b) (d : Does T f b h Q) : Does T f a h Q := by
  refine ⟨?_⟩
  rcases d.go with ⟨h1, h2⟩ | h1
  · exact .inl ⟨h1, fun E w vs S Z ha => h2 E w vs S Z (eqvT_den _ _ _ e ha)⟩
  · exact .inr fun E w vs S ha => h1 E w vs S (eqvT_den _ _ _ e ha)
end Go.Anv

namespace Go.Anv
open Go
/-- Arguments that are wanted. -/
def unG : List EV → List EV → Prop
  | [], [] => True
  | .gd g v :: r, w :: r' => (g = true ∧ v = w) ∧ unG r r'
  | v :: r, w :: r' => v = w ∧ unG r r'
  | _, _ => False
theorem unG_den {E : Emb} : ∀ (a b : List EV) (l : List Value), unG a b → denT E a l → denT E b l
  | [], [], _, _, h => h
  | x :: r, y :: r', l, he, h => by
    have key : (denE E x = denE E y ∨ ∃ g v, x = .gd g v ∧ g = true ∧ v = y) ∧ unG r r' := by
      cases x with
      | gd g v => exact ⟨.inr ⟨g, v, rfl, he.1⟩, he.2⟩
      | s v => exact ⟨.inl (by rw [he.1]), he.2⟩
      | agg v => exact ⟨.inl (by rw [he.1]), he.2⟩
      | tuple v => exact ⟨.inl (by rw [he.1]), he.2⟩
      | junk => exact ⟨.inl (by rw [he.1]), he.2⟩
    simp only [denT] at h ⊢
    obtain ⟨v, l', rfl, h1, h2⟩ := h
    refine ⟨v, l', rfl, ?_, unG_den r r' l' key.2 h2⟩
    rcases key.1 with e | ⟨g, u, rfl, rfl, rfl⟩
    · rw [← e]; exact h1
    · simp only [denE] at h1
      exact h1.1 trivial
  | [], _ :: _, _, he, _ => he.elim
  | x :: _, [], _, he, _ => by cases x <;> exact he.elim
theorem Does.ungd {T : Tbl} {f : FuncId} {a b : List EV} {h : List Blk} {Q : EV → List Blk → Prop} (e : unG a b) (d : Does T f b h Q) : Does T f a h Q := by
  refine ⟨?_⟩
  rcases d.go with ⟨h1, h2⟩ | h1
  · exact .inl ⟨h1, fun E w vs S Z ha => h2 E w vs S Z (unG_den _ _ _ e ha)⟩
  · exact .inr fun E w vs S ha => h1 E w vs S (unG_den _ _ _ e ha)
end Go.Anv

namespace Go.Anv
open Go
/-- **A call that is handed a part of a block, by a contract shown of a small heap with that part as a block.** -/
theorem Does.partAt {T : Tbl} {f : FuncId} {args args' : List EV} {hc h : List Blk} {Q K : EV → List Blk → Prop} (d : Does T f args hc Q) (κ : List Nat) (i N : Nat) {m : Bool} {sp : Nat} {cs : List Seg} (a b c : List Seg) (hN : h.length = N)
    (hi : nthB h i = some (.cells m cs sp)) (hs : ∀ E l, denS E cs l → denS E (a ++ (b ++ c)) l) (hh : subH (updB h i .dead ++ [.cells m b 0]) κ (renH (lk κ (N + 1)) hc)) (ha : partT i N (sizeS a) args' (renT (lk κ (N + 1)) args))
    (hnd : κ.Nodup) (hro : ∀ v h', Q v h' → roOk hc h') (hlen : ∀ v h', Q v h' → κ.length ≤ h'.length)
    (hK : ∀ v h', Q v h' → ∃ b' cs', nthB (mergeB (updB h i .dead ++ [.cells m b 0]) κ (renH (lk κ (N + 1)) h')) N = some (.cells m b' 0) ∧ sizeS b' = sizeS b ∧ (∀ E l, denS E (a ++ (b' ++ c)) l → denS E cs' l) ∧
      forceH (updB (updB (mergeB (updB h i .dead ++ [.cells m b 0]) κ (renH (lk κ (N + 1)) h')) N .dead) i (.cells m cs' sp)) fun h2 => forceE (renE (lk κ (N + 1)) v) fun v => K v h2) : Does T f args' h K := by
  subst hN
  have hl1 : (updB h i .dead ++ [Blk.cells m b 0]).length = h.length + 1 := by rw [List.length_append, len_updB]; rfl
  have d' := Does.frame d κ (h := updB h i .dead ++ [Blk.cells m b 0]) hnd hro (by rw [hl1]; exact hh)
  refine Does.part i a b c hi hs ha (hl1 ▸ d') ?_
  rintro v h'' ⟨v', h', hq, rfl, rfl⟩
  obtain ⟨b', cs', k1, k2, k3, k4⟩ := hK v' h' hq
  rw [forceH_eq, forceE_eq] at k4
  refine ⟨?_, b', cs', ?_, k2, k3, ?_⟩
  · have := roOk_merge hnd (by rw [hl1]; exact hh) (hro v' h' hq) (hlen v' h' hq)
    rwa [hl1] at this
  · exact k1
  · exact k4
end Go.Anv
