/- The engine, part 2: what stays true of a small world when the world goes on: a draw, a new block, a store. Plain lemmas, no condition. -/
import Derived.Test.YtghcdkpgcanpgaaE1
import Derived.Laws.IdiomCopy
namespace Go.Anv
open Go

/-! ### segments: looking up, turning -/

def getS : List Seg → Nat → Option SV
  | [], _ => none
  | .one v :: _, 0 => some v
  | .one _ :: r, o + 1 => getS r o
  | .ints k n f :: r, o => if o < n then some (.int k (f o)) else getS r (o - n)

def getI : List Seg → Nat → Option (IntKind × Nat × (Nat → Int))
  | [], _ => none
  | .one _ :: _, 0 => none
  | .one _ :: r, o + 1 => getI r o
  | .ints k n f :: _, 0 => some (k, n, f)
  | .ints _ n _ :: r, o + 1 => if n ≤ o + 1 then getI r (o + 1 - n) else none

def setS : List Seg → Nat → SV → Option (List Seg)
  | [], _, _ => none
  | .one _ :: r, 0, e => some (.one e :: r)
  | .one v :: r, o + 1, e => (setS r o e).map (.one v :: ·)
  | .ints k n f :: r, o, e => if n ≤ o then (setS r (o - n) e).map (.ints k n f :: ·) else none

def setI : List Seg → Nat → Nat → IntKind → Int → Option (List Seg)
  | [], _, _, _, _ => none
  | .one _ :: _, 0, _, _, _ => none
  | .one v :: r, o + 1, i, k, x => (setI r o i k x).map (.one v :: ·)
  | .ints k' n f :: r, 0, i, k, x => if k = k' then some (.ints k' n (fun j => if j = i then x else f j) :: r) else none
  | .ints k' n f :: r, o + 1, i, k, x => if n ≤ o + 1 then (setI r (o + 1 - n) i k x).map (.ints k' n f :: ·) else none

def dropS : List Seg → Nat → Option (List Seg)
  | r, 0 => some r
  | [], _ + 1 => none
  | .one _ :: r, o + 1 => dropS r o
  | .ints _ n _ :: r, o + 1 => if n ≤ o + 1 then dropS r (o + 1 - n) else none

def takeS : List Seg → Nat → Option (List Seg)
  | _, 0 => some []
  | [], _ + 1 => none
  | .one v :: r, n + 1 => (takeS r n).map (.one v :: ·)
  | .ints k m f :: r, n + 1 => if m ≤ n + 1 then (takeS r (n + 1 - m)).map (.ints k m f :: ·) else none

def putS (cs : List Seg) (o : Nat) (new : List Seg) : Option (List Seg) :=
  match takeS cs o, dropS cs (o + sizeS new) with
  | some a, some b => some (a ++ (new ++ b))
  | _, _ => none

theorem getS_den {E : Emb} : ∀ {cs : List Seg} {l : List Value} {o : Nat} {e : SV}, denS E cs l → getS cs o = some e → ∃ v, l[o]? = some v ∧ denV E e v
  | [], _, _, _, _, h => by simp [getS] at h
  | .one x :: r, l, 0, e, hd, h => by
    simp only [getS, Option.some.injEq] at h
    subst h
    simp only [denS] at hd
    obtain ⟨v, l', rfl, h1, _⟩ := hd
    exact ⟨v, by simp, h1⟩
  | .one x :: r, l, o + 1, e, hd, h => by
    simp only [getS] at h
    simp only [denS] at hd
    obtain ⟨v, l', rfl, _, h3⟩ := hd
    obtain ⟨u, h4, h5⟩ := getS_den h3 h
    exact ⟨u, by simpa using h4, h5⟩
  | .ints k n f :: r, l, o, e, hd, h => by
    unfold getS at h
    simp only [denS] at hd
    obtain ⟨l', rfl, h3⟩ := hd
    split at h
    · rename_i ho
      simp only [Option.some.injEq] at h
      subst h
      exact ⟨.int k (f o), by rw [List.getElem?_append_left (by simpa [length_intsOf] using ho)]; exact intsOf_get ho, by simp only [denV]⟩
    · rename_i ho
      obtain ⟨u, h4, h5⟩ := getS_den h3 h
      exact ⟨u, by rw [List.getElem?_append_right (by rw [length_intsOf]; omega), length_intsOf]; exact h4, h5⟩

theorem getI_den {E : Emb} : ∀ {cs : List Seg} {l : List Value} {o : Nat} {k : IntKind} {n : Nat} {f : Nat → Int}, denS E cs l → getI cs o = some (k, n, f) → ∀ i, i < n → l[o + i]? = some (.int k (f i))
  | [], _, _, _, _, _, _, h => by simp [getI] at h
  | .one x :: r, l, 0, _, _, _, hd, h => by simp [getI] at h
  | .one x :: r, l, o + 1, _, _, _, hd, h => by
    simp only [getI] at h
    simp only [denS] at hd
    obtain ⟨v, l', rfl, _, h3⟩ := hd
    intro i hi
    have := getI_den h3 h i hi
    rw [show o + 1 + i = (o + i) + 1 by omega]
    simpa using this
  | .ints k' n' f' :: r, l, 0, _, _, _, hd, h => by
    simp only [getI, Option.some.injEq, Prod.mk.injEq] at h
    obtain ⟨rfl, rfl, rfl⟩ := h
    simp only [denS] at hd
    obtain ⟨l', rfl, h3⟩ := hd
    intro i hi
    rw [Nat.zero_add, List.getElem?_append_left (by simpa [length_intsOf] using hi)]
    exact intsOf_get hi
  | .ints k' n' f' :: r, l, o + 1, _, _, _, hd, h => by
    unfold getI at h
    split at h
    · rename_i ho
      simp only [denS] at hd
      obtain ⟨l', rfl, h3⟩ := hd
      intro i hi
      rw [List.getElem?_append_right (by rw [length_intsOf]; omega), length_intsOf]
      have := getI_den h3 h i hi
      rwa [show o + 1 + i - n' = o + 1 - n' + i by omega]
    · cases h

theorem getI_size : ∀ {cs : List Seg} {o : Nat} {k : IntKind} {n : Nat} {f : Nat → Int}, getI cs o = some (k, n, f) → o + n ≤ sizeS cs
  | [], _, _, _, _, h => by simp [getI] at h
  | .one x :: r, 0, _, _, _, h => by simp [getI] at h
  | .one x :: r, o + 1, _, _, _, h => by
    simp only [getI] at h
    have := getI_size h
    simp only [sizeS]; omega
  | .ints k' n' f' :: r, 0, _, _, _, h => by
    simp only [getI, Option.some.injEq, Prod.mk.injEq] at h
    obtain ⟨rfl, rfl, rfl⟩ := h
    simp only [sizeS]; omega
  | .ints k' n' f' :: r, o + 1, _, _, _, h => by
    unfold getI at h
    split at h
    · have := getI_size h
      simp only [sizeS]; omega
    · cases h

theorem setS_den {E : Emb} : ∀ {cs cs' : List Seg} {l : List Value} {o : Nat} {e : SV} {v : Value}, denS E cs l → denV E e v → setS cs o e = some cs' →
    denS E cs' (l.set o v) ∧ sizeS cs' = sizeS cs ∧ o < sizeS cs
  | [], _, _, _, _, _, _, _, h => by simp [setS] at h
  | .one x :: r, cs', l, 0, e, v, hd, hv, h => by
    simp only [setS, Option.some.injEq] at h
    subst h
    simp only [denS] at hd
    obtain ⟨u, l', rfl, _, h3⟩ := hd
    exact ⟨⟨v, l', by simp, hv, h3⟩, by simp [sizeS], by simp [sizeS]⟩
  | .one x :: r, cs', l, o + 1, e, v, hd, hv, h => by
    simp only [setS, Option.map_eq_some_iff] at h
    obtain ⟨c, hc, rfl⟩ := h
    simp only [denS] at hd
    obtain ⟨u, l', rfl, h1, h3⟩ := hd
    obtain ⟨h4, h5, h6⟩ := setS_den h3 hv hc
    exact ⟨⟨u, l'.set o v, by simp, h1, h4⟩, by simp [sizeS, h5], by simp [sizeS]; omega⟩
  | .ints k n f :: r, cs', l, o, e, v, hd, hv, h => by
    unfold setS at h
    split at h
    · rename_i ho
      simp only [Option.map_eq_some_iff] at h
      obtain ⟨c, hc, rfl⟩ := h
      simp only [denS] at hd
      obtain ⟨l', rfl, h3⟩ := hd
      obtain ⟨h4, h5, h6⟩ := setS_den h3 hv hc
      exact ⟨⟨l'.set (o - n) v, by rw [List.set_append_right _ _ (by rw [length_intsOf]; omega), length_intsOf], h4⟩, by simp [sizeS, h5], by simp [sizeS]; omega⟩
    · cases h

theorem intsOf_set (k : IntKind) (n : Nat) (f : Nat → Int) (i : Nat) (x : Int) : (intsOf k n f).set i (.int k x) = intsOf k n (fun j => if j = i then x else f j) := by
  apply List.ext_getElem?
  intro j
  by_cases hj : j < n
  · rw [intsOf_get hj, List.getElem?_set]
    by_cases hji : i = j
    · subst hji; simp [length_intsOf, hj]
    · rw [if_neg hji, intsOf_get hj, if_neg (fun e => hji e.symm)]
  · rw [List.getElem?_eq_none (by simp [length_intsOf]; omega), List.getElem?_eq_none (by simp [length_intsOf]; omega)]

theorem setI_den {E : Emb} : ∀ {cs cs' : List Seg} {l : List Value} {o i : Nat} {k : IntKind} {x : Int}, denS E cs l → setI cs o i k x = some cs' → (∀ k' n f, getI cs o = some (k', n, f) → i < n) →
    denS E cs' (l.set (o + i) (.int k x)) ∧ sizeS cs' = sizeS cs ∧ o + i < sizeS cs
  | [], _, _, _, _, _, _, _, h, _ => by simp [setI] at h
  | .one y :: r, cs', l, 0, i, k, x, hd, h, _ => by simp [setI] at h
  | .one y :: r, cs', l, o + 1, i, k, x, hd, h, hi => by
    simp only [setI, Option.map_eq_some_iff] at h
    obtain ⟨c, hc, rfl⟩ := h
    simp only [denS] at hd
    obtain ⟨u, l', rfl, h1, h3⟩ := hd
    obtain ⟨h4, h5, h6⟩ := setI_den h3 hc (fun k' n f hg => hi k' n f (by simpa only [getI] using hg))
    exact ⟨⟨u, l'.set (o + i) (.int k x), by rw [show o + 1 + i = o + i + 1 by omega]; simp, h1, h4⟩, by simp [sizeS, h5], by simp [sizeS]; omega⟩
  | .ints k' n f :: r, cs', l, 0, i, k, x, hd, h, hi => by
    unfold setI at h
    split at h
    · rename_i hk
      subst hk
      simp only [Option.some.injEq] at h
      subst h
      simp only [denS] at hd
      obtain ⟨l', rfl, h3⟩ := hd
      have hin := hi k n f (by simp only [getI])
      refine ⟨⟨l', ?_, h3⟩, by simp [sizeS], by simp [sizeS]; omega⟩
      rw [Nat.zero_add, List.set_append_left _ _ (by simpa [length_intsOf] using hin), intsOf_set]
    · cases h
  | .ints k' n f :: r, cs', l, o + 1, i, k, x, hd, h, hi => by
    unfold setI at h
    split at h
    · rename_i ho
      simp only [Option.map_eq_some_iff] at h
      obtain ⟨c, hc, rfl⟩ := h
      simp only [denS] at hd
      obtain ⟨l', rfl, h3⟩ := hd
      obtain ⟨h4, h5, h6⟩ := setI_den h3 hc (fun k' n f hg => hi k' n f (by simp only [getI]; rw [if_pos ho]; exact hg))
      refine ⟨⟨l'.set (o + 1 - n + i) (.int k x), ?_, h4⟩, by simp [sizeS, h5], by simp [sizeS]; omega⟩
      rw [List.set_append_right _ _ (by rw [length_intsOf]; omega), length_intsOf, show o + 1 + i - n = o + 1 - n + i by omega]
    · cases h

theorem dropS_den {E : Emb} : ∀ {cs r : List Seg} {l : List Value} {o : Nat}, denS E cs l → dropS cs o = some r → denS E r (l.drop o) ∧ sizeS r + o = sizeS cs
  | cs, r, l, 0, hd, h => by
    simp only [dropS, Option.some.injEq] at h
    subst h
    exact ⟨by simpa using hd, by omega⟩
  | [], _, _, o + 1, _, h => by simp [dropS] at h
  | .one x :: c, r, l, o + 1, hd, h => by
    simp only [dropS] at h
    simp only [denS] at hd
    obtain ⟨v, l', rfl, _, h3⟩ := hd
    obtain ⟨h4, h5⟩ := dropS_den h3 h
    exact ⟨by simpa using h4, by simp [sizeS]; omega⟩
  | .ints k n f :: c, r, l, o + 1, hd, h => by
    unfold dropS at h
    split at h
    · rename_i ho
      simp only [denS] at hd
      obtain ⟨l', rfl, h3⟩ := hd
      obtain ⟨h4, h5⟩ := dropS_den h3 h
      refine ⟨?_, by simp [sizeS]; omega⟩
      rw [List.drop_append, length_intsOf, List.drop_eq_nil_of_le (by rw [length_intsOf]; omega), List.nil_append]
      exact h4
    · cases h

theorem takeS_den {E : Emb} : ∀ {cs r : List Seg} {l : List Value} {o : Nat}, denS E cs l → takeS cs o = some r → denS E r (l.take o) ∧ sizeS r = o ∧ o ≤ sizeS cs
  | cs, r, l, 0, hd, h => by
    simp only [takeS, Option.some.injEq] at h
    subst h
    exact ⟨by simp [denS], by simp [sizeS]⟩
  | [], _, _, o + 1, _, h => by simp [takeS] at h
  | .one x :: c, r, l, o + 1, hd, h => by
    simp only [takeS, Option.map_eq_some_iff] at h
    obtain ⟨t, ht, rfl⟩ := h
    simp only [denS] at hd
    obtain ⟨v, l', rfl, h1, h3⟩ := hd
    obtain ⟨h4, h5, h6⟩ := takeS_den h3 ht
    exact ⟨⟨v, l'.take o, by simp, h1, h4⟩, by simp [sizeS, h5], by simp [sizeS]; omega⟩
  | .ints k n f :: c, r, l, o + 1, hd, h => by
    unfold takeS at h
    split at h
    · rename_i ho
      simp only [Option.map_eq_some_iff] at h
      obtain ⟨t, ht, rfl⟩ := h
      simp only [denS] at hd
      obtain ⟨l', rfl, h3⟩ := hd
      obtain ⟨h4, h5, h6⟩ := takeS_den h3 ht
      refine ⟨⟨l'.take (o + 1 - n), ?_, h4⟩, by simp [sizeS]; omega, by simp [sizeS]; omega⟩
      rw [List.take_append, length_intsOf, List.take_of_length_le (by rw [length_intsOf]; omega)]
    · cases h

theorem putS_den {E : Emb} {cs cs' new : List Seg} {l m : List Value} {o : Nat} (hd : denS E cs l) (hm : denS E new m) (h : putS cs o new = some cs') :
    denS E cs' (l.take o ++ (m ++ l.drop (o + m.length))) ∧ sizeS cs' = sizeS cs ∧ o + m.length ≤ sizeS cs := by
  unfold putS at h
  split at h
  · rename_i a b ha hb
    simp only [Option.some.injEq] at h
    subst h
    have hl := denS_length hm
    obtain ⟨h1, h2, h3⟩ := takeS_den hd ha
    obtain ⟨h4, h5⟩ := dropS_den hd hb
    rw [← hl] at h4
    exact ⟨denS_append h1 (denS_append hm h4), by rw [sizeS_append, sizeS_append]; omega, by omega⟩
  · cases h

/-! ### worlds -/

theorem cell?_setCells_out (b : Nat) (vs : List Value) (o : Nat) (w : World) (x : Addr) (h : x.block ≠ b ∨ x.off < o ∨ o + vs.length ≤ x.off) : (w.setCells b o vs).cell? x = w.cell? x :=
  World.cell?_setCells_out b vs o w x (fun h1 _ => by omega)

theorem size_setCells (b : Nat) : ∀ (vs : List Value) (o : Nat) (w : World), (w.setCells b o vs).heap.size = w.heap.size
  | [], _, _ => rfl
  | _ :: r, _, _ => by rw [World.setCells, size_setCells b r, World.size_setCell]

theorem other_setCells (b : Nat) : ∀ (vs : List Value) (o : Nat) (w : World) (k : Nat), k ≠ b → (w.setCells b o vs).heap[k]? = w.heap[k]?
  | [], _, _, _, _ => rfl
  | v :: r, o, w, k, h => by
    rw [World.setCells, other_setCells b r _ _ k h]
    exact RowKit.Below.heap_setCell w ⟨b, o, none⟩ v k h

theorem map_setCell (w : World) (a : Addr) (v : Value) (k : Nat) (l : Array MapEntry) (c : Nat) (h : w.heap[k]? = some (.map l c)) : (w.setCell a v).heap[k]? = some (.map l c) := by
  simp only [World.setCell, Array.getElem?_modify]
  split
  · simp [h]
  · exact h

theorem map_setCells (b : Nat) : ∀ (vs : List Value) (o : Nat) (w : World) (k : Nat) (l : Array MapEntry) (c : Nat), w.heap[k]? = some (.map l c) → (w.setCells b o vs).heap[k]? = some (.map l c)
  | [], _, _, _, _, _, h => h
  | v :: r, _o, w, k, l, c, h => map_setCells b r _ _ k l c (map_setCell w _ v k l c h)

theorem os_setCells (b : Nat) : ∀ (vs : List Value) (o : Nat) (w : World), (w.setCells b o vs).os = w.os ∧ (w.setCells b o vs).tape = w.tape ∧ (w.setCells b o vs).output = w.output
  | [], _, _ => ⟨rfl, rfl, rfl⟩
  | v :: r, o, w => by
    rw [World.setCells]
    exact os_setCells b r _ _

theorem inSetCells (b : Nat) (vs : List Value) (o : Nat) (w : World) (h : ∀ j, j < vs.length → ∃ v, w.cell? ⟨b, o + j, none⟩ = some v) (j : Nat) (hj : j < vs.length) :
    (w.setCells b o vs).cell? ⟨b, o + j, none⟩ = vs[j]? := by
  rw [World.cell?_setCells_in b vs o w (fun i hi => by obtain ⟨v, hv⟩ := h i hi; simp [hv]) j hj, List.getElem?_eq_getElem hj]

/-- A map object and a row of cells are two. -/
theorem not_map_of_cell {w : World} {b o : Nat} {v : Value} {l : Array MapEntry} {c : Nat} (h : w.cell? ⟨b, o, none⟩ = some v) : w.heap[b]? ≠ some (.map l c) := by
  intro e
  simp [World.cell?, e] at h

theorem rowOk_setCell {w : World} {k : Nat} (a : Addr) (v : Value) (h : rowOk w k) : rowOk (w.setCell a v) k := by
  obtain ⟨c, e, lo, hi, h1, h2⟩ := h
  by_cases hk : a.block = k
  · subst hk
    refine ⟨if a.spot.isSome then c else c.setIfInBounds a.off v, e, lo, hi, ?_, ?_⟩
    · simp [World.setCell, Array.getElem?_modify, h1]
    · split <;> simpa using h2
  · exact ⟨c, e, lo, hi, by simp [World.setCell, Array.getElem?_modify, hk, h1], h2⟩

theorem rowOk_setCells {k b : Nat} : ∀ {vs : List Value} {o : Nat} {w : World}, rowOk w k → rowOk (w.setCells b o vs) k
  | [], _, _, h => h
  | v :: r, o, _, h => rowOk_setCells (vs := r) (rowOk_setCell ⟨b, o, none⟩ v h)

/-! ### a state goes on -/

theorem Since.refl (E : Emb) (h : List Blk) (w : World) : Since E h w E h w :=
  ⟨Nat.le_refl _, fun _ _ => rfl, Nat.le_refl _, fun _ _ _ => rfl, fun _ _ _ _ => ⟨rfl, fun _ => rfl⟩, fun _ _ h _ => h, rfl, rfl, rfl, fun _ _ h => h⟩

theorem Since.trans {E0 E1 E2 : Emb} {h0 h1 h2 : List Blk} {w0 w1 w2 : World} (n0 : E0.n = h0.length) (n1 : E1.n = h1.length) (a : Since E0 h0 w0 E1 h1 w1) (b : Since E1 h1 w1 E2 h2 w2) : Since E0 h0 w0 E2 h2 w2 where
  len := Nat.le_trans a.len b.len
  same i hi := (b.same i (by have := a.len; omega)).trans (a.same i hi)
  size := Nat.le_trans a.size b.size
  frame k hk hm := (b.frame k (Nat.lt_of_lt_of_le hk a.size) (fun o ho => hm o (a.new k o ho hk))).trans (a.frame k hk hm)
  cells k o hk hm := by
    have h1 := a.cells k o hk hm
    have h2 := b.cells k o (Nat.lt_of_lt_of_le hk a.size) (fun ho => hm (a.new k o ho hk))
    exact ⟨h2.1.trans h1.1, fun hs => (h2.2 (by rw [h1.1]; exact hs)).trans (h1.2 hs)⟩
  new k o ho hk := a.new k o (b.new k o ho (Nat.lt_of_lt_of_le hk a.size)) hk
  os := b.os.trans a.os
  tape := b.tape.trans a.tape
  output := b.output.trans a.output
  rows k hk h := b.rows k (Nat.lt_of_lt_of_le hk a.size) (a.rows k hk h)

theorem Since.le {E E' : Emb} {h h' : List Blk} {w w' : World} (n : E.n = h.length) (n' : E'.n = h'.length) (s : Since E h w E' h' w') : E.le E' :=
  ⟨by rw [n, n']; exact s.len, s.same⟩

/-- A draw. -/
theorem Sim.drew {E : Emb} {h : List Blk} {w : World} (s : Sim E h w) : Sim E h w.drew := ⟨s.n, fun i B hi => by
  have := s.ok i B hi
  cases B with
  | cells m cs sp => exact this
  | map es => exact this
  | dead => exact this, s.dis⟩

theorem Since.drew (E : Emb) (h : List Blk) (w : World) : Since E h w E h w.drew :=
  ⟨Nat.le_refl _, fun _ _ => rfl, Nat.le_refl _, fun _ _ _ => rfl, fun _ _ _ _ => ⟨rfl, fun _ => rfl⟩, fun _ _ h _ => h, rfl, rfl, rfl, fun _ _ h => h⟩

/-- Where the next block lies. -/
def Emb.push (E : Emb) (p : Loc) : Emb := ⟨E.n + 1, fun i => if i = E.n then p else E.f i⟩

theorem Emb.le_push (E : Emb) (p : Loc) : E.le (E.push p) := ⟨by simp [Emb.push], fun i hi => by simp [Emb.push]; omega⟩
theorem Emb.push_new (E : Emb) (p : Loc) : (E.push p).f E.n = p := by simp [Emb.push]
theorem Emb.push_old (E : Emb) (p : Loc) {i : Nat} (h : i < E.n) : (E.push p).f i = E.f i := by simp [Emb.push]; omega

theorem okBlk_le {E E' : Emb} (h : E.le E') {w : World} {p : Loc} {B : Blk} (hb : okBlk E w p B) : okBlk E' w p B := by
  cases B with
  | cells m cs sp =>
    obtain ⟨h1, ⟨l, h2, h3⟩, h4⟩ := hb
    exact ⟨h1, ⟨l, denS_mono h cs l h2, h3⟩, h4⟩
  | map es =>
    obtain ⟨l, c, h1, h2⟩ := hb
    exact ⟨l, c, h1, denM_mono h es _ h2⟩
  | dead => trivial

/-- All that is covered lies in the world. -/
theorem Sim.cov_lt {E : Emb} {h : List Blk} {w : World} (s : Sim E h w) {i : Nat} {B : Blk} (hi : h[i]? = some B) {b o : Nat} (hc : cov (E.f i) B b o) : b < w.heap.size := by
  have := s.ok i B hi
  cases B with
  | cells m cs sp =>
    obtain ⟨h1, _⟩ := this
    obtain ⟨rfl, h2, h3⟩ := hc
    rcases h1 with h1 | h1
    · exact h1
    · omega
  | map es =>
    obtain ⟨l, c, h1, _⟩ := this
    simp only [cov] at hc
    subst hc
    rcases Nat.lt_or_ge (E.f i).1 w.heap.size with h' | h'
    · exact h'
    · simp [Array.getElem?_eq_none h'] at h1
  | dead => cases hc

theorem okBlk_alloc {E : Emb} {w : World} {p : Loc} {B : Blk} (o : Obj) (hb : okBlk E w p B) : okBlk E (w.alloc o) p B := by
  cases B with
  | cells m cs sp =>
    obtain ⟨h1, ⟨l, h2, h3⟩, h4⟩ := hb
    have hlt : ∀ j, j < sizeS cs + sp → p.1 < w.heap.size := fun j hj => by
      rcases h1 with h1 | h1
      · exact h1
      · omega
    refine ⟨?_, ⟨l, h2, fun j v hj => ?_⟩, fun hm j hj => ?_⟩
    · rcases h1 with h1 | h1
      · exact .inl (by simp; omega)
      · exact .inr h1
    · have hj' : j < sizeS cs := by
        rw [← denS_length h2]
        rcases Nat.lt_or_ge j l.length with h' | h'
        · exact h'
        · simp [List.getElem?_eq_none h'] at hj
      rw [World.cell?_alloc_lt _ _ _ (hlt j (by omega))]; exact h3 j v hj
    · have h1 := hlt j hj
      rw [World.cell?_alloc_lt _ _ _ h1]; exact ⟨(h4 hm j hj).1, (h4 hm j hj).2.of_block (RowKit.Below.heap_alloc w o p.1 h1)⟩
  | map es =>
    obtain ⟨l, c, h1, h2⟩ := hb
    refine ⟨l, c, ?_, h2⟩
    have hlt : p.1 < w.heap.size := by
      rcases Nat.lt_or_ge p.1 w.heap.size with h' | h'
      · exact h'
      · simp [Array.getElem?_eq_none h'] at h1
    rw [RowKit.Below.heap_alloc w o p.1 hlt]; exact h1
  | dead => trivial

theorem getElem?_push_cases {h : List Blk} {N B : Blk} {i : Nat} (hi : (h ++ [N])[i]? = some B) : h[i]? = some B ∧ i < h.length ∨ i = h.length ∧ B = N := by
  rcases Nat.lt_or_ge i h.length with hlt | hge
  · rw [List.getElem?_append_left hlt] at hi
    exact .inl ⟨hi, hlt⟩
  · rw [List.getElem?_append_right hge] at hi
    have : i - h.length = 0 := by
      rcases Nat.eq_zero_or_pos (i - h.length) with h' | h'
      · exact h'
      · rw [List.getElem?_eq_none (by simp; omega)] at hi; cases hi
    rw [this] at hi
    simp at hi
    exact .inr ⟨by omega, hi.symm⟩

/-- A new block, of whatever kind. -/
theorem Sim.push {E : Emb} {h : List Blk} {w : World} (s : Sim E h w) (o : Obj) (N : Blk)
    (hN : okBlk (E.push ⟨w.heap.size, 0, false⟩) (w.alloc o) ⟨w.heap.size, 0, false⟩ N) : Sim (E.push ⟨w.heap.size, 0, false⟩) (h ++ [N]) (w.alloc o) where
  n := by simp [Emb.push, s.n]
  ok i B hi := by
    rcases getElem?_push_cases hi with ⟨h1, h2⟩ | ⟨h1, h2⟩
    · rw [Emb.push_old _ _ (by rw [s.n]; exact h2)]
      exact okBlk_le (Emb.le_push _ _) (okBlk_alloc o (s.ok i B h1))
    · subst h2; subst h1
      rw [← s.n, Emb.push_new]
      exact hN
  dis i j A B hij hi hj hA b o hci hcj := by
    have hnew : ∀ C : Blk, cov ⟨w.heap.size, 0, false⟩ C b o → b = w.heap.size := fun C hC => by
      cases C with
      | cells m cs sp => exact hC.1
      | map es => exact hC
      | dead => cases hC
    rcases getElem?_push_cases hi with ⟨h1, h2⟩ | ⟨h1, h2⟩ <;> rcases getElem?_push_cases hj with ⟨h3, h4⟩ | ⟨h3, h4⟩
    · rw [Emb.push_old _ _ (by rw [s.n]; exact h2)] at hci
      rw [Emb.push_old _ _ (by rw [s.n]; exact h4)] at hcj
      exact s.dis i j A B hij h1 h3 hA b o hci hcj
    · rw [Emb.push_old _ _ (by rw [s.n]; exact h2)] at hci
      subst h3
      rw [← s.n, Emb.push_new] at hcj
      have := s.cov_lt h1 hci
      have := hnew _ hcj
      omega
    · rw [Emb.push_old _ _ (by rw [s.n]; exact h4)] at hcj
      subst h1
      rw [← s.n, Emb.push_new] at hci
      have := s.cov_lt h3 hcj
      have := hnew _ hci
      omega
    · exact hij (h1.trans h3.symm)

theorem Since.push {E : Emb} {h : List Blk} {w : World} (s : Sim E h w) (o : Obj) (N : Blk) : Since E h w (E.push ⟨w.heap.size, 0, false⟩) (h ++ [N]) (w.alloc o) where
  len := by simp
  same i hi := Emb.push_old _ _ hi
  size := by simp
  frame k hk _ := RowKit.Below.heap_alloc w o k hk
  cells k x hk _ := ⟨World.cell?_alloc_lt _ _ _ hk, fun _ => World.frozen?_alloc_old _ _ _ (Nat.ne_of_lt hk)⟩
  new k x hm hk := by
    obtain ⟨i, B, hi, hB, hc⟩ := hm
    rcases getElem?_push_cases hi with ⟨h1, h2⟩ | ⟨h1, h2⟩
    · rw [Emb.push_old _ _ (by rw [s.n]; exact h2)] at hc
      exact ⟨i, B, h1, hB, hc⟩
    · subst h1
      rw [← s.n, Emb.push_new] at hc
      have : k = w.heap.size := by
        cases B with
        | cells m cs sp => exact hc.1
        | map es => exact hc
        | dead => cases hc
      omega
  os := rfl
  tape := rfl
  output := rfl
  rows k hk h := h.of_block (RowKit.Below.heap_alloc w o k hk)

theorem okBlk_new {E : Emb} {w : World} {m : Bool} {cs : List Seg} {l : List Value} (t : TypeId) (hd : denS E cs l) : okBlk (E.push ⟨w.heap.size, 0, false⟩) (w.alloc (.cells l.toArray t)) ⟨w.heap.size, 0, false⟩ (.cells m cs 0) := by
  refine ⟨by simp, ⟨l, denS_mono (Emb.le_push _ _) cs l hd, fun j v hj => ?_⟩, fun _ j hj => ?_⟩
  · have := World.cell?_alloc_new w l.toArray t (0 + j)
    rw [this]
    simpa using hj
  · have hlen := denS_length hd
    have := World.cell?_alloc_new w l.toArray t (0 + j)
    refine ⟨⟨l[j]'(by omega), ?_⟩, ?_⟩
    · rw [this]; simp
    · exact ⟨l.toArray, t, 0, 0, heap_alloc_new w _, .inl rfl⟩

/-- Stores into a block that may be written. -/
theorem Sim.write {E : Emb} {h : List Blk} {w : World} (s : Sim E h w) {i : Nat} {cs cs' : List Seg} {sp sp' : Nat} (hi : h[i]? = some (.cells true cs sp)) {o : Nat} {vs l : List Value}
    (hl : denS E cs l) (hlw : ∀ j v, l[j]? = some v → w.cell? ⟨(E.f i).1, (E.f i).2 + j, none⟩ = some v)
    (hd : denS E cs' (l.take o ++ (vs ++ l.drop (o + vs.length)))) (hs : sizeS cs' + sp' = sizeS cs + sp) (ho : o ≤ sizeS cs) (hov : o + vs.length ≤ sizeS cs + sp) :
    Sim E (h.set i (.cells true cs' sp')) (w.setCells (E.f i).1 ((E.f i).2 + o) vs) := by
  have hlt : i < h.length := by
    rcases Nat.lt_or_ge i h.length with h' | h'
    · exact h'
    · rw [List.getElem?_eq_none h'] at hi; cases hi
  obtain ⟨hw1, _, hw3⟩ := s.ok i _ hi
  have hw3 := hw3 rfl
  have hex : ∀ j, j < vs.length → ∃ v, w.cell? ⟨(E.f i).1, (E.f i).2 + o + j, none⟩ = some v := fun j hj => by
    have := (hw3 (o + j) (by omega)).1
    rwa [← Nat.add_assoc] at this
  have hlen := denS_length hl
  have hcov : ∀ b' o', ¬ cov (E.f i) (.cells true cs sp) b' o' → (w.setCells (E.f i).1 ((E.f i).2 + o) vs).cell? ⟨b', o', none⟩ = w.cell? ⟨b', o', none⟩ := fun b' o' hn => by
    apply cell?_setCells_out
    simp only [cov] at hn
    simp only
    by_cases hb : b' = (E.f i).1
    · right
      have : ¬ ((E.f i).2 ≤ o' ∧ o' < (E.f i).2 + (sizeS cs + sp)) := fun hh => hn ⟨hb, hh.1, hh.2⟩
      omega
    · exact .inl hb
  have hcc : ∀ (b' o' : Nat), cov (E.f i) (.cells true cs' sp') b' o' ↔ cov (E.f i) (.cells true cs sp) b' o' := fun b' o' => by simp only [cov, hs]
  refine ⟨by simp [s.n], fun j B hj => ?_, fun j k A B hjk hj hk hA b' o' => ?_⟩
  · by_cases hji : i = j
    · subst hji
      rw [List.getElem?_set_self hlt] at hj
      simp only [Option.some.injEq] at hj
      subst hj
      refine ⟨by rw [size_setCells, hs]; exact hw1, ⟨_, hd, fun j v hj => ?_⟩, fun _ j hj => ?_⟩
      · rcases Nat.lt_or_ge j o with h1 | h1
        · rw [cell?_setCells_out _ _ _ _ _ (by simp only; omega)]
          rw [List.getElem?_append_left (by rw [List.length_take]; omega), List.getElem?_take_of_lt h1] at hj
          exact hlw j v hj
        · rw [List.getElem?_append_right (by rw [List.length_take]; omega), List.length_take, Nat.min_eq_left (by omega)] at hj
          rcases Nat.lt_or_ge (j - o) vs.length with h2 | h2
          · rw [List.getElem?_append_left h2] at hj
            rw [show (E.f i).2 + j = (E.f i).2 + o + (j - o) by omega, inSetCells _ _ _ _ hex _ h2]
            exact hj
          · rw [List.getElem?_append_right h2, List.getElem?_drop] at hj
            rw [cell?_setCells_out _ _ _ _ _ (by simp only; omega)]
            rw [show o + vs.length + (j - o - vs.length) = j by omega] at hj
            exact hlw j v hj
      · rw [hs] at hj
        refine ⟨?_, rowOk_setCells (hw3 j hj).2⟩
        by_cases h1 : o ≤ j ∧ j < o + vs.length
        · rw [show (E.f i).2 + j = (E.f i).2 + o + (j - o) by omega, inSetCells _ _ _ _ hex _ (by omega)]
          exact ⟨_, List.getElem?_eq_getElem (by omega)⟩
        · rw [cell?_setCells_out _ _ _ _ _ (by simp only; omega)]
          exact (hw3 j hj).1
    · rw [List.getElem?_set_ne hji] at hj
      have hb := s.ok j B hj
      cases B with
      | cells m cs2 sp2 =>
        obtain ⟨h1, ⟨l2, h2, h3⟩, h4⟩ := hb
        refine ⟨by rw [size_setCells]; exact h1, ⟨l2, h2, fun x v hx => ?_⟩, fun hm x hx => ?_⟩
        · rw [hcov]
          · exact h3 x v hx
          · intro hc
            refine s.dis i j _ _ hji hi hj rfl _ _ hc ⟨rfl, by omega, ?_⟩
            have := denS_length h2
            have : x < l2.length := by
              rcases Nat.lt_or_ge x l2.length with h' | h'
              · exact h'
              · rw [List.getElem?_eq_none h'] at hx; cases hx
            omega
        · rw [hcov]
          · exact ⟨(h4 hm x hx).1, rowOk_setCells (h4 hm x hx).2⟩
          · intro hc
            exact s.dis i j _ _ hji hi hj rfl _ _ hc ⟨rfl, by omega, by omega⟩
      | map es =>
        obtain ⟨l2, c, h1, h2⟩ := hb
        exact ⟨l2, c, map_setCells _ _ _ _ _ _ _ h1, h2⟩
      | dead => trivial
  · by_cases h1 : i = j <;> by_cases h2 : i = k
    · exact absurd (h1.symm.trans h2) hjk
    · subst h1
      rw [List.getElem?_set_self hlt] at hj
      simp only [Option.some.injEq] at hj
      subst hj
      rw [List.getElem?_set_ne h2] at hk
      rw [hcc]
      exact s.dis i k _ _ hjk hi hk rfl b' o'
    · subst h2
      rw [List.getElem?_set_self hlt] at hk
      simp only [Option.some.injEq] at hk
      subst hk
      rw [List.getElem?_set_ne h1] at hj
      rw [hcc]
      exact s.dis j i _ _ hjk hj hi hA b' o'
    · rw [List.getElem?_set_ne h1] at hj
      rw [List.getElem?_set_ne h2] at hk
      exact s.dis j k _ _ hjk hj hk hA b' o'

theorem Sim.store {E : Emb} {h : List Blk} {w : World} (s : Sim E h w) {i : Nat} {cs cs' : List Seg} {sp : Nat} (hi : h[i]? = some (.cells true cs sp)) {o : Nat} {vs l : List Value}
    (hl : denS E cs l) (hlw : ∀ j v, l[j]? = some v → w.cell? ⟨(E.f i).1, (E.f i).2 + j, none⟩ = some v)
    (hd : denS E cs' (l.take o ++ (vs ++ l.drop (o + vs.length)))) (hs : sizeS cs' = sizeS cs) (ho : o + vs.length ≤ sizeS cs) :
    Sim E (h.set i (.cells true cs' sp)) (w.setCells (E.f i).1 ((E.f i).2 + o) vs) := s.write hi hl hlw hd (by omega) (by omega) (by omega)

theorem Since.write {E : Emb} {h : List Blk} {w : World} {i : Nat} {cs cs' : List Seg} {sp sp' : Nat} (hi : h[i]? = some (.cells true cs sp)) {o : Nat} {vs : List Value}
    (hs : sizeS cs' + sp' = sizeS cs + sp) (ho : o + vs.length ≤ sizeS cs + sp) : Since E h w E (h.set i (.cells true cs' sp')) (w.setCells (E.f i).1 ((E.f i).2 + o) vs) := by
  have hlt : i < h.length := by
    rcases Nat.lt_or_ge i h.length with h' | h'
    · exact h'
    · rw [List.getElem?_eq_none h'] at hi; cases hi
  obtain ⟨e1, e2, e3⟩ := os_setCells (E.f i).1 vs ((E.f i).2 + o) w
  refine ⟨by simp, fun _ _ => rfl, by rw [size_setCells]; exact Nat.le_refl _, fun b hb hm => ?_, fun b x hb hm => ⟨?_, fun _ => World.frozen?_setCells _ _ _ _ _⟩, fun b x hm _ => ?_, e1, e2, e3, fun _ _ h => rowOk_setCells h⟩
  · cases vs with
    | nil => rfl
    | cons v r =>
      refine other_setCells _ _ _ _ _ (fun e => ?_)
      exact hm ((E.f i).2 + o) ⟨i, _, hi, rfl, e, by omega, by simp at ho; omega⟩
  · apply cell?_setCells_out
    simp only
    by_cases hbi : b = (E.f i).1
    · right
      have : ¬ ((E.f i).2 ≤ x ∧ x < (E.f i).2 + (sizeS cs + sp)) := fun hh => hm ⟨i, _, hi, rfl, hbi, hh.1, hh.2⟩
      omega
    · exact .inl hbi
  · obtain ⟨j, B, hj, hB, hc⟩ := hm
    by_cases hji : i = j
    · subst hji
      rw [List.getElem?_set_self hlt] at hj
      simp only [Option.some.injEq] at hj
      subst hj
      exact ⟨i, _, hi, rfl, by simpa only [cov, hs] using hc⟩
    · rw [List.getElem?_set_ne hji] at hj
      exact ⟨j, B, hj, hB, hc⟩

theorem Since.store {E : Emb} {h : List Blk} {w : World} {i : Nat} {cs cs' : List Seg} {sp : Nat} (hi : h[i]? = some (.cells true cs sp)) {o : Nat} {vs : List Value}
    (hs : sizeS cs' = sizeS cs) (ho : o + vs.length ≤ sizeS cs) : Since E h w E (h.set i (.cells true cs' sp)) (w.setCells (E.f i).1 ((E.f i).2 + o) vs) := Since.write hi (by omega) (by omega)

/-- A block is no longer looked at. -/
theorem Sim.drop {E : Emb} {h : List Blk} {w : World} (s : Sim E h w) (i : Nat) : Sim E (h.set i .dead) w := by
  have hc : ∀ {j : Nat} {B : Blk}, (h.set i Blk.dead)[j]? = some B → B = Blk.dead ∨ h[j]? = some B := fun {j B} hj => by
    by_cases hij : i = j
    · subst hij
      rw [List.getElem?_set] at hj
      simp only [if_true] at hj
      split at hj
      · simp only [Option.some.injEq] at hj; exact .inl hj.symm
      · cases hj
    · rw [List.getElem?_set_ne hij] at hj; exact .inr hj
  refine ⟨by simp [s.n], fun j B hj => ?_, fun j k A B hjk hj hk hA b o hcj => ?_⟩
  · rcases hc hj with rfl | hj
    · trivial
    · exact s.ok j B hj
  · rcases hc hj with rfl | hj
    · simp [Blk.mut] at hA
    · rcases hc hk with rfl | hk
      · intro h'; exact h'
      · exact s.dis j k A B hjk hj hk hA b o hcj

/-- A block's place gets one more number: the old number is no longer looked at. -/
theorem Sim.move {E : Emb} {h : List Blk} {w : World} (s : Sim E h w) {i : Nat} {N : Blk} (hi : h[i]? = some N) : Sim (E.push (E.f i)) (h.set i .dead ++ [N]) w := by
  have hlt : i < h.length := by
    rcases Nat.lt_or_ge i h.length with h' | h'
    · exact h'
    · rw [List.getElem?_eq_none h'] at hi; cases hi
  have hc : ∀ {j : Nat} {B : Blk}, (h.set i Blk.dead ++ [N])[j]? = some B → B = Blk.dead ∨ (h[j]? = some B ∧ (E.push (E.f i)).f j = E.f j ∧ j ≠ i) ∨ (j = h.length ∧ B = N ∧ (E.push (E.f i)).f j = E.f i) := fun {j B} hj => by
    rcases getElem?_push_cases hj with ⟨h1, h2⟩ | ⟨h1, h2⟩
    · simp only [List.length_set] at h2
      by_cases hij : i = j
      · subst hij
        rw [List.getElem?_set_self hlt] at h1
        simp only [Option.some.injEq] at h1
        exact .inl h1.symm
      · rw [List.getElem?_set_ne hij] at h1
        exact .inr (.inl ⟨h1, Emb.push_old _ _ (by rw [s.n]; exact h2), fun e => hij e.symm⟩)
    · simp only [List.length_set] at h1
      subst h1
      exact .inr (.inr ⟨rfl, h2, by rw [← s.n, Emb.push_new]⟩)
  refine ⟨by simp [Emb.push, s.n], fun j B hj => ?_, fun j k A B hjk hj hk hA b o hcj => ?_⟩
  · rcases hc hj with rfl | ⟨h1, h2, _⟩ | ⟨_, rfl, h2⟩
    · trivial
    · rw [h2]; exact okBlk_le (Emb.le_push _ _) (s.ok j B h1)
    · rw [h2]; exact okBlk_le (Emb.le_push _ _) (s.ok i _ hi)
  · rcases hc hj with rfl | ⟨h1, h2, h3⟩ | ⟨h1, rfl, h2⟩
    · simp [Blk.mut] at hA
    · rw [h2] at hcj
      rcases hc hk with rfl | ⟨k1, k2, _⟩ | ⟨_, rfl, k2⟩
      · intro h'; exact h'
      · rw [k2]; exact s.dis j k A B hjk h1 k1 hA b o hcj
      · rw [k2]; exact s.dis j i A _ h3 h1 hi hA b o hcj
    · rw [h2] at hcj
      rcases hc hk with rfl | ⟨k1, k2, k3⟩ | ⟨k1, rfl, k2⟩
      · intro h'; exact h'
      · rw [k2]; exact s.dis i k _ B (Ne.symm k3) hi k1 hA b o hcj
      · exact absurd (h1.trans k1.symm) hjk

theorem Since.move {E : Emb} {h : List Blk} {w : World} (s : Sim E h w) {i : Nat} {N : Blk} (hi : h[i]? = some N) : Since E h w (E.push (E.f i)) (h.set i .dead ++ [N]) w := by
  have hlt : i < h.length := by
    rcases Nat.lt_or_ge i h.length with h' | h'
    · exact h'
    · rw [List.getElem?_eq_none h'] at hi; cases hi
  refine ⟨by simp, fun j hj => Emb.push_old _ _ hj, Nat.le_refl _, fun _ _ _ => rfl, fun _ _ _ _ => ⟨rfl, fun _ => rfl⟩, fun b o hm _ => ?_, rfl, rfl, rfl, fun _ _ h => h⟩
  obtain ⟨j, B, hj, hB, hc⟩ := hm
  rcases getElem?_push_cases hj with ⟨h1, h2⟩ | ⟨h1, h2⟩
  · simp only [List.length_set] at h2
    by_cases hij : i = j
    · subst hij
      rw [List.getElem?_set_self hlt] at h1
      simp only [Option.some.injEq] at h1
      subst h1
      simp [Blk.mut] at hB
    · rw [List.getElem?_set_ne hij] at h1
      rw [Emb.push_old _ _ (by rw [s.n]; exact h2)] at hc
      exact ⟨j, B, h1, hB, hc⟩
  · simp only [List.length_set] at h1
    subst h1
    subst h2
    rw [← s.n, Emb.push_new] at hc
    exact ⟨i, _, hi, hB, hc⟩

theorem Since.drop {E : Emb} {h : List Blk} (w : World) (i : Nat) : Since E h w E (h.set i .dead) w := by
  refine ⟨by simp, fun _ _ => rfl, Nat.le_refl _, fun _ _ _ => rfl, fun _ _ _ _ => ⟨rfl, fun _ => rfl⟩, fun b o hm _ => ?_, rfl, rfl, rfl, fun _ _ h => h⟩
  obtain ⟨j, B, hj, hB, hc⟩ := hm
  by_cases hij : i = j
  · subst hij
    rw [List.getElem?_set] at hj
    simp only [if_true] at hj
    split at hj
    · simp only [Option.some.injEq] at hj; subst hj; simp [Blk.mut] at hB
    · cases hj
  · rw [List.getElem?_set_ne hij] at hj
    exact ⟨j, B, hj, hB, hc⟩

/-- Looking into a block. -/
theorem Sim.look {E : Emb} {h : List Blk} {w : World} (s : Sim E h w) {i : Nat} {m : Bool} {cs : List Seg} {sp : Nat} (hi : h[i]? = some (.cells m cs sp)) :
    ∃ l, denS E cs l ∧ (∀ j v, l[j]? = some v → w.cell? ⟨(E.f i).1, (E.f i).2 + j, none⟩ = some v) ∧ i < E.n := by
  obtain ⟨_, ⟨l, h1, h2⟩, _⟩ := s.ok i _ hi
  refine ⟨l, h1, h2, ?_⟩
  rw [s.n]
  rcases Nat.lt_or_ge i h.length with h' | h'
  · exact h'
  · rw [List.getElem?_eq_none h'] at hi; cases hi

end Go.Anv
