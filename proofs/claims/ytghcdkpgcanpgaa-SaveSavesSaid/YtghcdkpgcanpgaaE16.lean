/- The engine, part 16: contracts that go on: over whatever heap, the answer handed to what follows. Plain theorems, no condition. -/
import Derived.Test.YtghcdkpgcanpgaaE15
namespace Go.Anv
open Go

/-- How many blocks there are. -/
def lenK (l : List Blk) : Nat → (Nat → Prop) → Prop :=
  List.rec (motive := fun _ => Nat → (Nat → Prop) → Prop) (fun n k => k n) (fun _ _ ih n k => ih (n + 1) k) l

theorem lenK_eq : ∀ (l : List Blk) (n : Nat) (k : Nat → Prop), lenK l n k = k (n + l.length)
  | [], _, _ => rfl
  | _ :: r, n, k => by
    show lenK r (n + 1) k = _
    rw [lenK_eq r]
    simp only [List.length_cons]
    rw [show n + 1 + r.length = n + (r.length + 1) by omega]

/-- Blocks behind the others. -/
def appBK (l r : List Blk) : (List Blk → Prop) → Prop :=
  List.rec (motive := fun _ => (List Blk → Prop) → Prop) (fun k => k r) (fun x _ ih k => ih fun h => k (x :: h)) l

theorem appBK_eq : ∀ (l r : List Blk) (k : List Blk → Prop), appBK l r k = k (l ++ r)
  | [], _, _ => rfl
  | x :: l, r, k => by
    show (appBK l r fun h => k (x :: h)) = _
    rw [appBK_eq l]
    rfl

/-- A cell of some cells, and what they are with another in its place. -/
def CellAt (cs : List Seg) (o : Nat) (e : SV) (cs' : List Seg) (e' : SV) : Prop :=
  ∃ a c, sizeS a = o ∧ (∀ E l, denS E cs l → denS E (a ++ ([.one e] ++ c)) l) ∧ ∀ E l, denS E (a ++ ([.one e'] ++ c)) l → denS E cs' l

theorem CellAt.cons_one {cs cs' : List Seg} {o : Nat} {e e' v : SV} (h : CellAt cs o e cs' e') : CellAt (.one v :: cs) (o + 1) e (.one v :: cs') e' := by
  obtain ⟨a, c, h1, h2, h3⟩ := h
  refine ⟨.one v :: a, c, by simp [sizeS, h1], fun E l hd => ?_, fun E l hd => ?_⟩
  · simp only [denS, List.cons_append] at hd ⊢
    obtain ⟨u, l', rfl, k1, k2⟩ := hd
    exact ⟨u, l', rfl, k1, h2 E l' k2⟩
  · simp only [denS, List.cons_append] at hd ⊢
    obtain ⟨u, l', rfl, k1, k2⟩ := hd
    exact ⟨u, l', rfl, k1, h3 E l' k2⟩

theorem CellAt.cons_ints {cs cs' : List Seg} {o : Nat} {e e' : SV} {k : IntKind} {n : Nat} {f : Nat → Int} (h : CellAt cs o e cs' e') : CellAt (.ints k n f :: cs) (n + o) e (.ints k n f :: cs') e' := by
  obtain ⟨a, c, h1, h2, h3⟩ := h
  refine ⟨.ints k n f :: a, c, by simp [sizeS, h1], fun E l hd => ?_, fun E l hd => ?_⟩
  · simp only [denS, List.cons_append] at hd ⊢
    obtain ⟨l', rfl, k2⟩ := hd
    exact ⟨l', rfl, h2 E l' k2⟩
  · simp only [denS, List.cons_append] at hd ⊢
    obtain ⟨l', rfl, k2⟩ := hd
    exact ⟨l', rfl, h3 E l' k2⟩

theorem cell_one : ∀ {cs cs' : List Seg} {o : Nat} {e e' : SV}, getS cs o = some e → setS cs o e' = some cs' → CellAt cs o e cs' e'
  | [], _, _, _, _, h, _ => by simp [getS] at h
  | .one v :: r, cs', 0, e, e', h, h' => by
    simp only [getS, Option.some.injEq] at h
    simp only [setS, Option.some.injEq] at h'
    subst h; subst h'
    exact ⟨[], r, rfl, fun _ _ h => h, fun _ _ h => h⟩
  | .one v :: r, cs', o + 1, e, e', h, h' => by
    simp only [getS] at h
    simp only [setS, Option.map_eq_some_iff] at h'
    obtain ⟨c, hc, rfl⟩ := h'
    exact (cell_one h hc).cons_one
  | .ints k n f :: r, cs', o, e, e', h, h' => by
    unfold getS at h
    unfold setS at h'
    split at h
    · rw [if_neg (by omega)] at h'
      cases h'
    · rename_i ho
      rw [if_pos (by omega)] at h'
      simp only [Option.map_eq_some_iff] at h'
      obtain ⟨c, hc, rfl⟩ := h'
      have := (cell_one h hc).cons_ints (k := k) (n := n) (f := f)
      rwa [show n + (o - n) = o by omega] at this

theorem intsOf_split (k : IntKind) {n j : Nat} (f : Nat → Int) (h : j < n) : intsOf k n f = intsOf k j f ++ (.int k (f j) :: intsOf k (n - j - 1) (fun i => f (j + 1 + i))) := by
  obtain ⟨m, rfl⟩ : ∃ m, n = j + (m + 1) := ⟨n - j - 1, by omega⟩
  have e : j + (m + 1) - j - 1 = m := by omega
  rw [e]
  simp only [intsOf]
  rw [List.range_add, List.map_append, List.map_map, List.range_succ_eq_map]
  congr 1
  simp only [List.map_cons, List.map_map, Function.comp_def, Nat.add_zero]
  congr 1
  refine List.map_congr_left fun i _ => ?_
  simp only [Nat.succ_eq_add_one]
  rw [show j + (i + 1) = j + 1 + i by omega]

theorem cell_ints_head (k : IntKind) {n j : Nat} (f g : Nat → Int) (r : List Seg) (hj : j < n) (hg : ∀ i, i < n → i ≠ j → f i = g i) : CellAt (.ints k n f :: r) j (.int k (f j)) (.ints k n g :: r) (.int k (g j)) := by
  refine ⟨[.ints k j f], .ints k (n - j - 1) (fun i => f (j + 1 + i)) :: r, by simp [sizeS], fun E l hd => ?_, fun E l hd => ?_⟩
  · simp only [denS, List.cons_append, List.nil_append, denV] at hd ⊢
    obtain ⟨l', rfl, k2⟩ := hd
    rw [intsOf_split k f hj]
    exact ⟨_, by rw [List.append_assoc, List.cons_append], _, _, rfl, rfl, l', rfl, k2⟩
  · simp only [denS, List.cons_append, List.nil_append, denV] at hd ⊢
    obtain ⟨l1, rfl, v, l2, rfl, rfl, l3, rfl, k2⟩ := hd
    refine ⟨l3, ?_, k2⟩
    rw [intsOf_split k g hj, List.append_assoc, intsOf_congr (f := f) (g := g) (fun i hi => hg i (by omega) (by omega)), intsOf_congr (f := fun i => f (j + 1 + i)) (g := fun i => g (j + 1 + i)) (fun i hi => hg _ (by omega) (by omega))]
    rfl

theorem cell_ints : ∀ {cs : List Seg} {o j : Nat} {k : IntKind} {n : Nat} {f : Nat → Int}, getI cs o = some (k, n, f) → j < n → CellAt cs (o + j) (.int k (f j)) cs (.int k (f j))
  | [], _, _, _, _, _, h, _ => by simp [getI] at h
  | .one v :: r, 0, j, k, n, f, h, hj => by simp [getI] at h
  | .one v :: r, o + 1, j, k, n, f, h, hj => by
    simp only [getI] at h
    have := (cell_ints (j := j) h hj).cons_one (v := v)
    rwa [show o + j + 1 = o + 1 + j by omega] at this
  | .ints q m g :: r, o, j, k, n, f, h, hj => by
    cases o with
    | zero =>
      simp only [getI, Option.some.injEq, Prod.mk.injEq] at h
      obtain ⟨rfl, rfl, rfl⟩ := h
      rw [Nat.zero_add]
      exact cell_ints_head _ _ _ r hj (fun _ _ _ => rfl)
    | succ o =>
      unfold getI at h
      split at h
      · rename_i ho
        have := (cell_ints (j := j) h hj).cons_ints (k := q) (n := m) (f := g)
        rwa [show m + (o + 1 - m + j) = o + 1 + j by omega] at this
      · cases h

theorem cell_setI : ∀ {cs cs' : List Seg} {o j : Nat} {k : IntKind} {n : Nat} {f : Nat → Int} {x : Int}, getI cs o = some (k, n, f) → j < n → setI cs o j k x = some cs' → CellAt cs (o + j) (.int k (f j)) cs' (.int k x)
  | [], _, _, _, _, _, _, _, h, _, _ => by simp [getI] at h
  | .one v :: r, _, 0, j, k, n, f, x, h, hj, _ => by simp [getI] at h
  | .one v :: r, cs', o + 1, j, k, n, f, x, h, hj, h' => by
    simp only [getI] at h
    simp only [setI, Option.map_eq_some_iff] at h'
    obtain ⟨c, hc, rfl⟩ := h'
    have := (cell_setI (j := j) h hj hc).cons_one (v := v)
    rwa [show o + j + 1 = o + 1 + j by omega] at this
  | .ints q m g :: r, cs', o, j, k, n, f, x, h, hj, h' => by
    cases o with
    | zero =>
      simp only [getI, Option.some.injEq, Prod.mk.injEq] at h
      obtain ⟨rfl, rfl, rfl⟩ := h
      simp only [setI, if_true, Option.some.injEq] at h'
      subst h'
      rw [Nat.zero_add]
      have := cell_ints_head q g (fun i => if i = j then x else g i) r hj (fun i _ hi => by simp [hi])
      simpa using this
    | succ o =>
      unfold getI at h
      split at h
      · rename_i ho
        unfold setI at h'
        rw [if_pos ho] at h'
        simp only [Option.map_eq_some_iff] at h'
        obtain ⟨c, hc, rfl⟩ := h'
        have := (cell_setI (j := j) h hj hc).cons_ints (k := q) (n := m) (f := g)
        rwa [show m + (o + 1 - m + j) = o + 1 + j by omega] at this
      · cases h

theorem nthB_app_lt {h r : List Blk} {i : Nat} {B : Blk} (hi : nthB h i = some B) : nthB (h ++ r) i = some B := nthB_app hi
theorem nthB_len : ∀ (h : List Blk) (B : Blk) (r : List Blk), nthB (h ++ B :: r) h.length = some B
  | [], _, _ => rfl
  | _ :: h, B, r => by simp only [List.cons_append, List.length_cons, nthB]; exact nthB_len h B r
theorem nthB_upd_ne : ∀ {h : List Blk} {i j : Nat} {A B : Blk}, nthB h i = some A → i ≠ j → nthB (updB h j B) i = some A
  | [], _, _, _, _, h, _ => by simp [nthB] at h
  | _ :: _, 0, 0, _, _, _, hn => absurd rfl hn
  | _ :: _, 0, j + 1, _, _, h, _ => h
  | _ :: _, i + 1, 0, _, _, h, _ => h
  | _ :: r, i + 1, j + 1, _, _, h, hn => by simp only [nthB, updB] at h ⊢; exact nthB_upd_ne h (fun e => hn (by rw [e]))
theorem nthB_upd_eq : ∀ {h : List Blk} {i : Nat} {A B : Blk}, nthB h i = some A → nthB (updB h i B) i = some B
  | [], _, _, _, h => by simp [nthB] at h
  | _ :: _, 0, _, _, _ => rfl
  | _ :: r, i + 1, _, _, h => by simp only [nthB, updB] at h ⊢; exact nthB_upd_eq h
theorem len_updB : ∀ (h : List Blk) (b : Nat) (B : Blk), (updB h b B).length = h.length
  | [], _, _ => rfl
  | _ :: _, 0, _ => rfl
  | _ :: r, b + 1, B => by simp [updB, len_updB r b B]
theorem nthB_lt {h : List Blk} {i : Nat} {B : Blk} (hi : nthB h i = some B) : i < h.length := lt_of_get (nthB_get hi)

end Go.Anv
