/- The engine, part 11: a call whose arguments point into memory: what is shown of a small heap holds within a larger one. Plain theorems; their condition: no new block that may not be written. -/
import Derived.Test.YtghcdkpgcanpgaaE10
namespace Go.Anv
open Go

/-! ### other numbers for the blocks -/

def lk : List Nat → Nat → Nat → Nat
  | [], N, i => N + i
  | x :: _, _, 0 => x
  | _ :: r, N, i + 1 => lk r N i

mutual
def renV (ρ : Nat → Nat) : SV → SV
  | .ptr b o => .ptr (ρ b) o
  | .pix b o i => .pix (ρ b) o i
  | .slice b o n c => .slice (ρ b) o n c
  | .gs b o n c => .gs (ρ b) o n c
  | .map b => .map (ρ b)
  | .func f a c => .func f (renL ρ a) (renL ρ c)
  | .iface t a cs => .iface t a (renL ρ cs)
  | .junk => .junk
  | .int k n => .int k n
  | .bool b => .bool b
  | .str s => .str s
  | .nilptr => .nilptr
  | .nilslice => .nilslice
  | .nilmap => .nilmap
  | .nilfunc => .nilfunc
  | .niliface => .niliface
def renL (ρ : Nat → Nat) : List SV → List SV
  | [] => []
  | v :: r => renV ρ v :: renL ρ r
end

def renS (ρ : Nat → Nat) : List Seg → List Seg
  | [] => []
  | .one v :: r => .one (renV ρ v) :: renS ρ r
  | .ints k n f :: r => .ints k n f :: renS ρ r

mutual
def renE (ρ : Nat → Nat) : EV → EV
  | .s v => .s (renV ρ v)
  | .agg cs => .agg (renS ρ cs)
  | .tuple vs => .tuple (renT ρ vs)
  | .gd g v => .gd g (renE ρ v)
  | .junk => .junk
def renT (ρ : Nat → Nat) : List EV → List EV
  | [] => []
  | v :: r => renE ρ v :: renT ρ r
end

def renM (ρ : Nat → Nat) : List (SV × List Seg) → List (SV × List Seg)
  | [] => []
  | (k, cs) :: r => (renV ρ k, renS ρ cs) :: renM ρ r

def renB (ρ : Nat → Nat) : Blk → Blk
  | .cells m cs sp => .cells m (renS ρ cs) sp
  | .map es => .map (renM ρ es)
  | .dead => .dead

section ren
variable {E E' : Emb} {ρ : Nat → Nat} (hf : ∀ b, ρ b < E'.n → b < E.n) (hb : ∀ b, b < E.n → ρ b < E'.n ∧ E.f b = E'.f (ρ b))
include hf hb

omit hf in
theorem at_ren {b : Nat} (h : b < E.n) (o : Nat) : E.at b o = E'.at (ρ b) o := by
  unfold Emb.at
  rw [(hb b h).2]

mutual
theorem denV_ren : ∀ (e : SV) (v : Value), denV E' (renV ρ e) v ↔ denV E e v
  | .ptr b o, v => by
    simp only [renV, denV]
    exact ⟨fun ⟨h, k⟩ => ⟨hf b h, by rw [at_ren hb (hf b h)]; exact k⟩, fun ⟨h, k⟩ => ⟨(hb b h).1, by rw [← at_ren hb h]; exact k⟩⟩
  | .pix b o i, v => by
    simp only [renV, denV]
    exact ⟨fun ⟨h, k⟩ => ⟨hf b h, by rw [at_ren hb (hf b h)]; exact k⟩, fun ⟨h, k⟩ => ⟨(hb b h).1, by rw [← at_ren hb h]; exact k⟩⟩
  | .slice b o n c, v => by
    simp only [renV, denV]
    exact ⟨fun ⟨⟨h, g⟩, k⟩ => ⟨⟨hf b h, by rw [(hb b (hf b h)).2]; exact g⟩, by rw [at_ren hb (hf b h)]; exact k⟩, fun ⟨⟨h, g⟩, k⟩ => ⟨⟨(hb b h).1, by rw [← (hb b h).2]; exact g⟩, by rw [← at_ren hb h]; exact k⟩⟩
  | .gs b o n c, v => by
    simp only [renV, denV]
    exact ⟨fun ⟨h, g, k⟩ => ⟨hf b h, by rw [(hb b (hf b h)).2]; exact g, by rw [at_ren hb (hf b h), (hb b (hf b h)).2]; exact k⟩, fun ⟨h, g, k⟩ => ⟨(hb b h).1, by rw [← (hb b h).2]; exact g, by rw [← at_ren hb h, ← (hb b h).2]; exact k⟩⟩
  | .map b, v => by
    simp only [renV, denV]
    exact ⟨fun ⟨h, k⟩ => ⟨hf b h, by rw [(hb b (hf b h)).2]; exact k⟩, fun ⟨h, k⟩ => ⟨(hb b h).1, by rw [← (hb b h).2]; exact k⟩⟩
  | .func f a c, v => by
    simp only [renV, denV]
    constructor
    · rintro ⟨f', c', rfl, h1, h2⟩
      exact ⟨f', c', rfl, (denL_ren a _).1 h1, (denL_ren c _).1 h2⟩
    · rintro ⟨f', c', rfl, h1, h2⟩
      exact ⟨f', c', rfl, (denL_ren a _).2 h1, (denL_ren c _).2 h2⟩
  | .iface t true cs, v => by
    simp only [renV, denV]
    constructor
    · rintro ⟨l, rfl, h1⟩; exact ⟨l, rfl, (denL_ren cs _).1 h1⟩
    · rintro ⟨l, rfl, h1⟩; exact ⟨l, rfl, (denL_ren cs _).2 h1⟩
  | .iface t false cs, v => by
    simp only [renV, denV]
    constructor
    · rintro ⟨x, rfl, h1⟩; exact ⟨x, rfl, (denL_ren cs _).1 h1⟩
    · rintro ⟨x, rfl, h1⟩; exact ⟨x, rfl, (denL_ren cs _).2 h1⟩
  | .junk, _ => Iff.rfl
  | .int .., _ => Iff.rfl
  | .bool _, _ => Iff.rfl
  | .str _, _ => Iff.rfl
  | .nilptr, _ => Iff.rfl
  | .nilslice, _ => Iff.rfl
  | .nilmap, _ => Iff.rfl
  | .nilfunc, _ => Iff.rfl
  | .niliface, _ => Iff.rfl
theorem denL_ren : ∀ (l : List SV) (vs : List Value), denL E' (renL ρ l) vs ↔ denL E l vs
  | [], _ => by
    have _ := hf
    have _ := hb
    exact Iff.rfl
  | e :: r, vs => by
    simp only [renL, denL]
    constructor
    · rintro ⟨v, l', rfl, h1, h2⟩; exact ⟨v, l', rfl, (denV_ren e v).1 h1, (denL_ren r l').1 h2⟩
    · rintro ⟨v, l', rfl, h1, h2⟩; exact ⟨v, l', rfl, (denV_ren e v).2 h1, (denL_ren r l').2 h2⟩
end

theorem denS_ren : ∀ (cs : List Seg) (l : List Value), denS E' (renS ρ cs) l ↔ denS E cs l
  | [], _ => Iff.rfl
  | .one e :: r, vs => by
    simp only [renS, denS]
    constructor
    · rintro ⟨v, l', rfl, h1, h2⟩; exact ⟨v, l', rfl, (denV_ren hf hb e v).1 h1, (denS_ren r l').1 h2⟩
    · rintro ⟨v, l', rfl, h1, h2⟩; exact ⟨v, l', rfl, (denV_ren hf hb e v).2 h1, (denS_ren r l').2 h2⟩
  | .ints k n f :: r, vs => by
    simp only [renS, denS]
    constructor
    · rintro ⟨l', rfl, h2⟩; exact ⟨l', rfl, (denS_ren r l').1 h2⟩
    · rintro ⟨l', rfl, h2⟩; exact ⟨l', rfl, (denS_ren r l').2 h2⟩

mutual
theorem denE_ren : ∀ (e : EV) (v : Value), denE E' (renE ρ e) v ↔ denE E e v
  | .s x, v => by simp only [renE, denE]; exact denV_ren hf hb x v
  | .agg cs, v => by
    simp only [renE, denE]
    constructor
    · rintro ⟨l, rfl, h⟩; exact ⟨l, rfl, (denS_ren hf hb cs _).1 h⟩
    · rintro ⟨l, rfl, h⟩; exact ⟨l, rfl, (denS_ren hf hb cs _).2 h⟩
  | .tuple vs, v => by
    simp only [renE, denE]
    constructor
    · rintro ⟨l, rfl, h⟩; exact ⟨l, rfl, (denT_ren vs _).1 h⟩
    · rintro ⟨l, rfl, h⟩; exact ⟨l, rfl, (denT_ren vs _).2 h⟩
  | .gd g x, v => by
    simp only [renE, denE]
    exact ⟨fun ⟨h1, h2⟩ => ⟨fun hg => (denE_ren x v).1 (h1 hg), h2⟩, fun ⟨h1, h2⟩ => ⟨fun hg => (denE_ren x v).2 (h1 hg), h2⟩⟩
  | .junk, _ => by simp only [renE, denE]
theorem denT_ren : ∀ (l : List EV) (vs : List Value), denT E' (renT ρ l) vs ↔ denT E l vs
  | [], _ => by
    have _ := hf
    have _ := hb
    simp only [renT, denT]
  | e :: r, vs => by
    simp only [renT, denT]
    constructor
    · rintro ⟨v, l', rfl, h1, h2⟩; exact ⟨v, l', rfl, (denE_ren e v).1 h1, (denT_ren r l').1 h2⟩
    · rintro ⟨v, l', rfl, h1, h2⟩; exact ⟨v, l', rfl, (denE_ren e v).2 h1, (denT_ren r l').2 h2⟩
end

theorem denM_ren : ∀ (es : List (SV × List Seg)) (l : List MapEntry), denM E' (renM ρ es) l ↔ denM E es l
  | [], _ => Iff.rfl
  | (k, cs) :: r, vs => by
    simp only [renM, denM]
    constructor
    · rintro ⟨e, l', rfl, h1, h2, h3⟩; exact ⟨e, l', rfl, (denV_ren hf hb k _).1 h1, (denS_ren hf hb cs _).1 h2, (denM_ren r l').1 h3⟩
    · rintro ⟨e, l', rfl, h1, h2, h3⟩; exact ⟨e, l', rfl, (denV_ren hf hb k _).2 h1, (denS_ren hf hb cs _).2 h2, (denM_ren r l').2 h3⟩

omit hf hb in
theorem sizeS_ren : ∀ cs : List Seg, sizeS (renS ρ cs) = sizeS cs
  | [] => rfl
  | .one _ :: r => by simp only [renS, sizeS, sizeS_ren r]
  | .ints .. :: r => by simp only [renS, sizeS, sizeS_ren r]

omit hf hb in
theorem cov_ren (p : Loc) (B : Blk) (b o : Nat) : cov p (renB ρ B) b o ↔ cov p B b o := by
  cases B <;> simp only [renB, cov, sizeS_ren]

omit hf hb in
theorem mut_ren (B : Blk) : (renB ρ B).mut = B.mut := by cases B <;> rfl

theorem okBlk_ren {w : World} {p : Loc} (B : Blk) : okBlk E' w p (renB ρ B) ↔ okBlk E w p B := by
  cases B with
  | cells m cs sp =>
    simp only [renB, okBlk, sizeS_ren]
    constructor
    · rintro ⟨h1, ⟨l, h2, h3⟩, h4⟩; exact ⟨h1, ⟨l, (denS_ren hf hb cs l).1 h2, h3⟩, h4⟩
    · rintro ⟨h1, ⟨l, h2, h3⟩, h4⟩; exact ⟨h1, ⟨l, (denS_ren hf hb cs l).2 h2, h3⟩, h4⟩
  | map es =>
    simp only [renB, okBlk]
    constructor
    · rintro ⟨l, c, h1, h2⟩; exact ⟨l, c, h1, (denM_ren hf hb es _).1 h2⟩
    · rintro ⟨l, c, h1, h2⟩; exact ⟨l, c, h1, (denM_ren hf hb es _).2 h2⟩
  | dead => exact Iff.rfl

end ren

/-! ### the larger heap behind a call -/

/-- Blocks that may not be written are as they were; none is new. -/
def roOk : List Blk → List Blk → Prop
  | B :: r, B' :: r' => (B'.mut = true ∨ B' = .dead ∨ B' = B) ∧ roOk r r'
  | _, [] => True
  | [], B' :: r' => (B'.mut = true ∨ B' = .dead) ∧ roOk [] r'

theorem roOk_get : ∀ {h h' : List Blk}, roOk h h' → ∀ (i : Nat) (B : Blk), h'[i]? = some B → B.mut = true ∨ B = .dead ∨ h[i]? = some B
  | B :: r, B' :: r', hk, 0, C, hi => by
    simp only [List.getElem?_cons_zero, Option.some.injEq] at hi
    subst hi
    rcases hk.1 with h | h | h
    · exact .inl h
    · exact .inr (.inl h)
    · exact .inr (.inr (by simp [h]))
  | B :: r, B' :: r', hk, i + 1, C, hi => by
    simpa using roOk_get hk.2 i C (by simpa using hi)
  | [], [], _, i, C, hi => by simp at hi
  | _ :: _, [], _, i, C, hi => by simp at hi
  | [], B' :: r', hk, 0, C, hi => by
    simp only [List.getElem?_cons_zero, Option.some.injEq] at hi
    subst hi
    rcases hk.1 with h | h
    · exact .inl h
    · exact .inr (.inl h)
  | [], B' :: r', hk, i + 1, C, hi => by
    have := roOk_get hk.2 i C (by simpa using hi)
    simpa using this

/-- The callee's blocks put back. -/
def mergeB : List Blk → List Nat → List Blk → List Blk
  | h, [], h' => h ++ h'
  | h, k :: κ, B :: h' => mergeB (updB h k B) κ h'
  | h, _ :: _, [] => h

def renH (ρ : Nat → Nat) : List Blk → List Blk
  | [] => []
  | B :: r => renB ρ B :: renH ρ r

theorem renH_get (ρ : Nat → Nat) : ∀ (h : List Blk) (i : Nat), (renH ρ h)[i]? = (h[i]?).map (renB ρ)
  | [], i => by simp [renH]
  | B :: r, 0 => by simp [renH]
  | B :: r, i + 1 => by simp [renH, renH_get ρ r i]

theorem length_renH (ρ : Nat → Nat) : ∀ h : List Blk, (renH ρ h).length = h.length
  | [] => rfl
  | _ :: r => by simp [renH, length_renH ρ r]

theorem look_ge : ∀ (κ : List Nat) (N i : Nat), κ.length ≤ i → lk κ N i = N + (i - κ.length)
  | [], N, i, _ => by simp [lk]
  | _ :: r, N, 0, h => by simp at h
  | _ :: r, N, i + 1, h => by simp [lk, look_ge r N i (by simpa using h)]

theorem look_lt : ∀ (κ : List Nat) (N i : Nat) (h : i < κ.length), lk κ N i = κ[i]
  | [], N, i, h => by simp at h
  | _ :: r, N, 0, h => by simp [lk]
  | _ :: r, N, i + 1, h => by simp [lk, look_lt r N i (by simpa using h)]

theorem mergeB_length : ∀ (h : List Blk) (κ : List Nat) (h' : List Blk), κ.length ≤ h'.length → (mergeB h κ h').length = h.length + (h'.length - κ.length)
  | h, [], h', _ => by simp [mergeB]
  | h, k :: κ, B :: h', hl => by
    have := mergeB_length (updB h k B) κ h' (by simpa using hl)
    rw [updB_eq, List.length_set] at this
    simp only [mergeB, updB_eq, this, List.length_cons]
    omega
  | h, _ :: _, [], hl => by simp at hl

/-- What stands at a number of the larger heap. -/
theorem mergeB_get : ∀ (h : List Blk) (κ : List Nat) (h' : List Blk), κ.Nodup → (∀ k ∈ κ, k < h.length) → κ.length ≤ h'.length → ∀ (j : Nat) (B : Blk), (mergeB h κ h')[j]? = some B →
    (j < h.length ∧ j ∉ κ ∧ h[j]? = some B) ∨ ∃ i, lk κ h.length i = j ∧ h'[i]? = some B
  | h, [], h', _, _, _, j, B, hj => by
    simp only [mergeB] at hj
    rcases Nat.lt_or_ge j h.length with h1 | h1
    · rw [List.getElem?_append_left h1] at hj
      exact .inl ⟨h1, by simp, hj⟩
    · rw [List.getElem?_append_right h1] at hj
      exact .inr ⟨j - h.length, by simp [lk]; omega, hj⟩
  | h, k :: κ, B' :: h', hnd, hlt, hl, j, B, hj => by
    simp only [mergeB, updB_eq] at hj
    rw [List.nodup_cons] at hnd
    have ih := mergeB_get (h.set k B') κ h' hnd.2 (fun x hx => by rw [List.length_set]; exact hlt x (List.mem_cons_of_mem _ hx)) (by simpa using hl) j B hj
    rw [List.length_set] at ih
    rcases ih with ⟨h1, h2, h3⟩ | ⟨i, h1, h2⟩
    · by_cases hjk : j = k
      · subst hjk
        rw [List.getElem?_set_self h1] at h3
        exact .inr ⟨0, by simp [lk], by simpa using h3⟩
      · rw [List.getElem?_set_ne (Ne.symm hjk)] at h3
        exact .inl ⟨h1, by simp [hjk, h2], h3⟩
    · exact .inr ⟨i + 1, by simpa [lk] using h1, by simpa using h2⟩
  | h, _ :: _, [], _, _, hl, _, _, _ => by simp at hl


/-- The callee's blocks, where they lie in the larger heap. -/
def subH (h : List Blk) : List Nat → List Blk → Prop
  | [], [] => True
  | k :: κ, B :: r => nthB h k = some B ∧ subH h κ r
  | _, _ => False

theorem subH_get {h : List Blk} : ∀ {κ : List Nat} {r : List Blk}, subH h κ r → κ.length = r.length ∧ ∀ (i : Nat) (B : Blk), r[i]? = some B → ∃ k, κ[i]? = some k ∧ h[k]? = some B
  | [], [], _ => ⟨rfl, fun i B hi => by simp at hi⟩
  | k :: κ, B :: r, hk => by
    obtain ⟨h1, h2⟩ := subH_get hk.2
    refine ⟨by simp [h1], fun i C hi => ?_⟩
    cases i with
    | zero =>
      simp only [List.getElem?_cons_zero, Option.some.injEq] at hi
      subst hi
      exact ⟨k, by simp, nthB_get hk.1⟩
    | succ i => simpa using h2 i C (by simpa using hi)
  | [], _ :: _, hk => hk.elim
  | _ :: _, [], hk => hk.elim

theorem lt_of_get {h : List Blk} {i : Nat} {B : Blk} (hi : h[i]? = some B) : i < h.length := by
  rcases Nat.lt_or_ge i h.length with h' | h'
  · exact h'
  · rw [List.getElem?_eq_none h'] at hi; cases hi

/-- **A call within a larger heap.** -/
theorem frame_core {args : List EV} {hc : List Blk} {Q : EV → List Blk → Prop} (κ : List Nat) {h : List Blk} (hnd : κ.Nodup) (hro : ∀ v h', Q v h' → roOk hc h')
    (hh : subH h κ (renH (lk κ h.length) hc)) {E : Emb} {w : World} {vs : List Value} (S : Sim E h w) (ha : denT E (renT (lk κ h.length) args) vs) :
    ∃ Ec, Sim Ec hc w ∧ denT Ec args vs ∧ ∀ e w', Post Ec hc w Q e w' → Post E h w (fun v h'' => ∃ v' h', Q v' h' ∧ v = renE (lk κ h.length) v' ∧ h'' = mergeB h κ (renH (lk κ h.length) h')) e w' := by
  obtain ⟨hl, hget⟩ := subH_get hh
  rw [length_renH] at hl
  let ρ := lk κ h.length
  let Ec : Emb := ⟨hc.length, fun i => E.f (ρ i)⟩
  have hκ : ∀ i, i < hc.length → ρ i ∈ κ ∧ ρ i < h.length := fun i hi => by
    have hi' : i < κ.length := by omega
    have : i < (renH ρ hc).length := by rw [length_renH]; exact hi
    obtain ⟨k, h1, h2⟩ := hget i _ (List.getElem?_eq_getElem this)
    have h3 : ρ i = k := by
      show lk κ h.length i = k
      rw [look_lt κ _ i hi']
      rw [List.getElem?_eq_getElem hi'] at h1
      exact Option.some.inj h1
    rw [h3]
    exact ⟨List.mem_of_getElem? h1, lt_of_get h2⟩
  have hblk : ∀ (i : Nat) (B : Blk), hc[i]? = some B → h[ρ i]? = some (renB ρ B) := fun i B hi => by
    obtain ⟨k, h1, h2⟩ := hget i (renB ρ B) (by rw [renH_get, hi]; rfl)
    have hi' : i < κ.length := by have := lt_of_get hi; omega
    have h3 : ρ i = k := by
      show lk κ h.length i = k
      rw [look_lt κ _ i hi']
      rw [List.getElem?_eq_getElem hi'] at h1
      exact Option.some.inj h1
    rw [h3]
    exact h2
  have hinj : ∀ i j, ρ i = ρ j → i = j := fun i j hij => by
    have hij' : lk κ h.length i = lk κ h.length j := hij
    rcases Nat.lt_or_ge i κ.length with h1 | h1 <;> rcases Nat.lt_or_ge j κ.length with h2 | h2
    · rw [look_lt κ _ i h1, look_lt κ _ j h2] at hij'
      have hp := List.pairwise_iff_getElem.1 hnd
      rcases Nat.lt_trichotomy i j with h3 | h3 | h3
      · exact absurd hij' (hp i j h1 h2 h3)
      · exact h3
      · exact absurd hij'.symm (hp j i h2 h1 h3)
    · have := (hκ i (by omega)).2
      rw [hij] at this
      have h3 : ρ j = h.length + (j - κ.length) := look_ge κ _ j h2
      omega
    · have := (hκ j (by omega)).2
      rw [← hij] at this
      have h3 : ρ i = h.length + (i - κ.length) := look_ge κ _ i h1
      omega
    · rw [look_ge κ _ i h1, look_ge κ _ j h2] at hij'
      omega
  have hfwd : ∀ b, ρ b < E.n → b < Ec.n := fun b hb => by
    rcases Nat.lt_or_ge b κ.length with h1 | h1
    · show b < hc.length; omega
    · have h3 : ρ b = h.length + (b - κ.length) := look_ge κ _ b h1
      have := S.n
      omega
  have hbwd : ∀ b, b < Ec.n → ρ b < E.n ∧ Ec.f b = E.f (ρ b) := fun b hb => ⟨by rw [S.n]; exact (hκ b hb).2, rfl⟩
  have Sc : Sim Ec hc w := by
    refine ⟨rfl, fun i B hi => ?_, fun i j A B hij hi hj hA b o hcv hcv' => ?_⟩
    · exact (okBlk_ren hfwd hbwd B).1 (S.ok _ _ (hblk i B hi))
    · exact S.dis (ρ i) (ρ j) _ _ (fun e => hij (hinj i j e)) (hblk i A hi) (hblk j B hj) (by rw [mut_ren]; exact hA) b o ((cov_ren _ A b o).2 hcv) ((cov_ren _ B b o).2 hcv')
  refine ⟨Ec, Sc, (denT_ren hfwd hbwd args _).1 ha, ?_⟩
  rintro e w' ⟨v, x, h', E', rfl, hd, S', N', hq⟩
  have hroq := hro _ _ hq
  have hlen : hc.length ≤ h'.length := N'.len
  let E1 : Emb := ⟨h.length + (h'.length - hc.length), fun j => if j < h.length then E.f j else E'.f (hc.length + (j - h.length))⟩
  have hfwd1 : ∀ b, ρ b < E1.n → b < E'.n := fun b hb => by
    rw [S'.n]
    rcases Nat.lt_or_ge b κ.length with h1 | h1
    · omega
    · have h3 : ρ b = h.length + (b - κ.length) := look_ge κ _ b h1
      have : ρ b < h.length + (h'.length - hc.length) := hb
      omega
  have hbwd1 : ∀ b, b < E'.n → ρ b < E1.n ∧ E'.f b = E1.f (ρ b) := fun b hb => by
    rw [S'.n] at hb
    rcases Nat.lt_or_ge b κ.length with h1 | h1
    · have h2 := (hκ b (by omega)).2
      refine ⟨Nat.lt_of_lt_of_le h2 (Nat.le_add_right _ _), ?_⟩
      have h3 : E'.f b = Ec.f b := N'.same b (by show b < hc.length; omega)
      have h4 : E1.f (ρ b) = E.f (ρ b) := if_pos h2
      rw [h3, h4]
    · have h3 : ρ b = h.length + (b - κ.length) := look_ge κ _ b h1
      refine ⟨by rw [h3]; show _ < h.length + (h'.length - hc.length); omega, ?_⟩
      have h4 : E1.f (ρ b) = E'.f (hc.length + (ρ b - h.length)) := if_neg (by omega)
      rw [h4, h3]
      congr 1
      omega
  have leE : E.le E1 := ⟨by rw [S.n]; exact Nat.le_add_right _ _, fun i hi => if_pos (by rw [← S.n]; exact hi)⟩
  have hml : ∀ b o, mutAt Ec hc b o → ∃ i B, i ∈ κ ∧ h[i]? = some B ∧ B.mut = true ∧ cov (E.f i) B b o := fun b o ⟨i, B, h1, h2, h3⟩ =>
    ⟨ρ i, renB ρ B, (hκ i (lt_of_get h1)).1, hblk i B h1, by rw [mut_ren]; exact h2, (cov_ren _ B b o).2 h3⟩
  have hm2 : ∀ b o, mutAt Ec hc b o → mutAt E h b o := fun b o hm => by
    obtain ⟨i, B, _, h1, h2, h3⟩ := hml b o hm
    exact ⟨i, B, h1, h2, h3⟩
  -- what stands at a number
  have hcase : ∀ (j : Nat) (B : Blk), (mergeB h κ (renH ρ h'))[j]? = some B → (j < h.length ∧ j ∉ κ ∧ h[j]? = some B ∧ E1.f j = E.f j) ∨ ∃ i B', ρ i = j ∧ h'[i]? = some B' ∧ B = renB ρ B' ∧ E1.f j = E'.f i := fun j B hj => by
    rcases mergeB_get h κ (renH ρ h') hnd (fun k hk => by
      obtain ⟨i, hi⟩ := List.getElem?_of_mem hk
      have hi1 : i < κ.length := by
        rcases Nat.lt_or_ge i κ.length with h' | h'
        · exact h'
        · rw [List.getElem?_eq_none h'] at hi; cases hi
      have := (hκ i (by omega)).2
      have h3 : ρ i = k := by
        show lk κ h.length i = k
        rw [look_lt κ _ i hi1]
        rw [List.getElem?_eq_getElem hi1] at hi
        exact Option.some.inj hi
      rwa [h3] at this) (by rw [length_renH]; omega) j B hj with ⟨h1, h2, h3⟩ | ⟨i, h1, h2⟩
    · exact .inl ⟨h1, h2, h3, if_pos h1⟩
    · rw [renH_get] at h2
      cases hq : h'[i]? with
      | none => rw [hq] at h2; cases h2
      | some B' =>
        rw [hq] at h2
        simp only [Option.map_some, Option.some.injEq] at h2
        refine .inr ⟨i, B', h1, hq, h2.symm, ?_⟩
        have h1' : ρ i = j := h1
        rw [← h1', (hbwd1 i (by rw [S'.n]; exact lt_of_get hq)).2]
  -- an old block outside the call's is as it was
  have hout : ∀ (j : Nat) (B : Blk), j ∉ κ → h[j]? = some B → ∀ b o, cov (E.f j) B b o → ¬ mutAt Ec hc b o := fun j B hjk hj b o hcv hm => by
    obtain ⟨i, A, h1, h2, h3, h4⟩ := hml b o hm
    exact S.dis i j A B (fun e => hjk (e ▸ h1)) h2 hj h3 b o h4 hcv
  have S1 : Sim E1 (mergeB h κ (renH ρ h')) w' := by
    refine ⟨?_, fun j B hj => ?_, fun i j A B hij hi hj hA b o hcv hcv' => ?_⟩
    · rw [mergeB_length h κ _ (by rw [length_renH]; omega), length_renH, hl]
    · rcases hcase j B hj with ⟨h1, h2, h3, h4⟩ | ⟨i, B', h1, h2, rfl, h4⟩
      · rw [h4]
        have hk := S.ok j B h3
        have hno := hout j B h2 h3
        cases B with
        | cells m cs sp =>
          obtain ⟨k1, ⟨l, k2, k3⟩, k4⟩ := hk
          have hb' : ∀ x, x < sizeS cs + sp → (E.f j).1 < w.heap.size := fun x hx => by
            rcases k1 with k1 | k1
            · exact k1
            · omega
          refine ⟨?_, ⟨l, denS_mono leE cs l k2, fun x v hx => ?_⟩, fun hm x hx => ?_⟩
          · rcases k1 with k1 | k1
            · exact .inl (Nat.lt_of_lt_of_le k1 N'.size)
            · exact .inr k1
          · have hx' : x < sizeS cs := by
              rw [← denS_length k2]
              rcases Nat.lt_or_ge x l.length with h' | h'
              · exact h'
              · rw [List.getElem?_eq_none h'] at hx; cases hx
            rw [(N'.cells _ _ (hb' x (by omega)) (hno _ _ ⟨rfl, by omega, by omega⟩)).1]
            exact k3 x v hx
          · obtain ⟨q1, q2⟩ := k4 hm x hx
            rw [(N'.cells _ _ (hb' x hx) (hno _ _ ⟨rfl, by omega, by omega⟩)).1]
            exact ⟨q1, N'.rows _ (hb' x hx) q2⟩
        | map es =>
          obtain ⟨l, c', k1, k2⟩ := hk
          have hlt : (E.f j).1 < w.heap.size := S.cov_lt h3 (b := (E.f j).1) (o := 0) rfl
          exact ⟨l, c', by rw [N'.frame _ hlt (fun o => hno _ o rfl)]; exact k1, denM_mono leE es _ k2⟩
        | dead => trivial
      · rw [h4]
        exact (okBlk_ren hfwd1 hbwd1 B').2 (S'.ok i B' h2)
    · rcases hcase i A hi with ⟨a1, a2, a3, a4⟩ | ⟨i', A', a1, a2, rfl, a4⟩ <;> rcases hcase j B hj with ⟨b1, b2, b3, b4⟩ | ⟨j', B', b1, b2, rfl, b4⟩
      · rw [a4] at hcv
        rw [b4] at hcv'
        exact S.dis i j A B hij a3 b3 hA b o hcv hcv'
      · rw [a4] at hcv
        rw [b4, cov_ren] at hcv'
        have hlt := S.cov_lt a3 hcv
        rcases roOk_get hroq j' B' b2 with hm | rfl | hsame
        · exact hout i A a2 a3 b o hcv (N'.new b o ⟨j', B', b2, hm, hcv'⟩ hlt)
        · exact hcv'
        · have h5 : E'.f j' = Ec.f j' := N'.same j' (lt_of_get hsame)
          rw [h5] at hcv'
          exact S.dis i (ρ j') A _ (fun e => a2 (by rw [e]; exact (hκ j' (lt_of_get hsame)).1)) a3 (hblk j' B' hsame) hA b o hcv ((cov_ren _ B' b o).2 hcv')
      · rw [a4, cov_ren] at hcv
        rw [b4] at hcv'
        rw [mut_ren] at hA
        have hlt := S.cov_lt b3 hcv'
        exact hout j B b2 b3 b o hcv' (N'.new b o ⟨i', A', a2, hA, hcv⟩ hlt)
      · rw [a4, cov_ren] at hcv
        rw [b4, cov_ren] at hcv'
        rw [mut_ren] at hA
        exact S'.dis i' j' A' B' (fun e => hij (by rw [← a1, ← b1, e])) a2 b2 hA b o hcv hcv'
  have N1 : Since E h w E1 (mergeB h κ (renH ρ h')) w' := by
    refine ⟨?_, fun i hi => if_pos (by rw [← S.n]; exact hi), N'.size, fun b hb hm => N'.frame b hb (fun o ho => hm o (hm2 b o ho)), fun b o hb hm => N'.cells b o hb (fun ho => hm (hm2 b o ho)), fun b o hm hb => ?_, N'.os, N'.tape, N'.output, N'.rows⟩
    · rw [mergeB_length h κ _ (by rw [length_renH]; omega)]
      exact Nat.le_add_right _ _
    · obtain ⟨j, B, hj, hB, hcv⟩ := hm
      rcases hcase j B hj with ⟨h1, h2, h3, h4⟩ | ⟨i, B', h1, h2, rfl, h4⟩
      · rw [h4] at hcv
        exact ⟨j, B, h3, hB, hcv⟩
      · rw [h4, cov_ren] at hcv
        rw [mut_ren] at hB
        exact hm2 b o (N'.new b o ⟨i, B', h2, hB, hcv⟩ hb)
  exact ⟨v, renE ρ x, mergeB h κ (renH ρ h'), E1, rfl, (denE_ren hfwd1 hbwd1 x v).2 hd, S1, N1, x, h', hq, rfl, rfl⟩

theorem Does.frame {T : Tbl} {f : FuncId} {args : List EV} {hc : List Blk} {Q : EV → List Blk → Prop} (c : Does T f args hc Q) (κ : List Nat) {h : List Blk} (hnd : κ.Nodup) (hro : ∀ v h', Q v h' → roOk hc h')
    (hh : subH h κ (renH (lk κ h.length) hc)) : Does T f (renT (lk κ h.length) args) h (fun v h'' => ∃ v' h', Q v' h' ∧ v = renE (lk κ h.length) v' ∧ h'' = mergeB h κ (renH (lk κ h.length) h')) := by
  refine ⟨?_⟩
  rcases c.go with ⟨h1, h2⟩ | h1
  · refine .inl ⟨h1, fun E w vs S ha => ?_⟩
    obtain ⟨Ec, k1, k2, k3⟩ := frame_core κ hnd hro hh S ha
    exact (h2 Ec w vs k1 k2).mono k3
  · refine .inr fun E w vs S ha => ?_
    obtain ⟨Ec, k1, k2, k3⟩ := frame_core κ hnd hro hh S ha
    obtain ⟨u, w', h2, h3⟩ := h1 Ec w vs k1 k2
    exact ⟨u, w', h2, k3 _ _ h3⟩

/-! ### for the walker -/

def forceB (B : Blk) (k : Blk → Prop) : Prop :=
  match B with
  | .cells m cs sp => forceS cs fun cs => k (.cells m cs sp)
  | .map es => k (.map es)
  | .dead => k .dead

def forceH (l : List Blk) : (List Blk → Prop) → Prop :=
  List.rec (motive := fun _ => (List Blk → Prop) → Prop) (fun k => k []) (fun B _ ih k => forceB B fun B => ih fun r => k (B :: r)) l

theorem forceB_eq (B : Blk) (k : Blk → Prop) : forceB B k = k B := by cases B <;> simp only [forceB, forceS_eq]
theorem forceH_eq : ∀ (h : List Blk) (k : List Blk → Prop), forceH h k = k h
  | [], _ => rfl
  | B :: r, k => by
    show (forceB B fun B => forceH r fun r => k (B :: r)) = _
    rw [forceB_eq, forceH_eq r]

/-- **A call by its contract, shown of a small heap.** -/
theorem Does.at {T : Tbl} {f : FuncId} {args : List EV} {hc : List Blk} {Q : EV → List Blk → Prop} (c : Does T f args hc Q) (κ : List Nat) {args' : List EV} {h : List Blk} {K : EV → List Blk → Prop}
    (ha : args' = renT (lk κ h.length) args) (hh : subH h κ (renH (lk κ h.length) hc)) (hnd : κ.Nodup) (hro : ∀ v h', Q v h' → roOk hc h')
    (hK : ∀ v' h', Q v' h' → forceH (mergeB h κ (renH (lk κ h.length) h')) fun h2 => forceE (renE (lk κ h.length) v') fun v => K v h2) : Does T f args' h K := by
  rw [ha]
  refine (c.frame κ hnd hro hh).mono ?_
  rintro v h'' ⟨v', h', hq, rfl, rfl⟩
  have := hK v' h' hq
  rwa [forceH_eq, forceE_eq] at this

end Go.Anv
