/- Part 6 of the texts of this claim, merged: E16, E17, P2, P3, P4, Q1, Q2, Q3, Q4, Q5, Q6, E18, Q7, Q8. No condition: plain theorems, contracts of functions. -/
import Derived.Test.YtghcdkpgcanpgaaGreatZ5

set_option linter.unusedSimpArgs false
set_option linter.unusedVariables false
/- The engine, part 16: contracts that go on: over whatever heap, the answer handed to what follows. Plain theorems, no condition. -/
namespace Go.Anv
open Go

/-- How many blocks there are. -/
def lenK (l : List Blk) : Nat → (Nat → Prop) → Prop :=
  List.rec (motive := fun _ => Nat → (Nat → Prop) → Prop) (fun n k => k n) (fun _ _ ih n k => ih (n + 1) k) l

theorem lenK_eq : ∀ (l : List Blk) (n : Nat) (k : Nat → Prop), lenK l n k = k (n + l.length)
  | [], _, _ => rfl
  | _ :: r, n, k => by
    show lenK r (n + 1) k = _
    rw [lenK_eq r]
    simp only [List.length_cons]
    rw [show n + 1 + r.length = n + (r.length + 1) by omega]

/-- Blocks behind the others. -/
def appBK (l r : List Blk) : (List Blk → Prop) → Prop :=
  List.rec (motive := fun _ => (List Blk → Prop) → Prop) (fun k => k r) (fun x _ ih k => ih fun h => k (x :: h)) l

theorem appBK_eq : ∀ (l r : List Blk) (k : List Blk → Prop), appBK l r k = k (l ++ r)
  | [], _, _ => rfl
  | x :: l, r, k => by
    show (appBK l r fun h => k (x :: h)) = _
    rw [appBK_eq l]
    rfl

/-- A cell of some cells, and what they are with another in its place. -/
def CellAt (cs : List Seg) (o : Nat) (e : SV) (cs' : List Seg) (e' : SV) : Prop :=
  ∃ a c, sizeS a = o ∧ (∀ E l, denS E cs l → denS E (a ++ ([.one e] ++ c)) l) ∧ ∀ E l, denS E (a ++ ([.one e'] ++ c)) l → denS E cs' l

theorem CellAt.cons_one {cs cs' : List Seg} {o : Nat} {e e' v : SV} (h : CellAt cs o e cs' e') : CellAt (.one v :: cs) (o + 1) e (.one v :: cs') e' := by
  obtain ⟨a, c, h1, h2, h3⟩ := h
  refine ⟨.one v :: a, c, by simp [sizeS, h1], fun E l hd => ?_, fun E l hd => ?_⟩
  · simp only [denS, List.cons_append] at hd ⊢
    obtain ⟨u, l', rfl, k1, k2⟩ := hd
    exact ⟨u, l', rfl, k1, h2 E l' k2⟩
  · simp only [denS, List.cons_append] at hd ⊢
    obtain ⟨u, l', rfl, k1, k2⟩ := hd
    exact ⟨u, l', rfl, k1, h3 E l' k2⟩

theorem CellAt.cons_ints {cs cs' : List Seg} {o : Nat} {e e' : SV} {k : IntKind} {n : Nat} {f : Nat → Int} (h : CellAt cs o e cs' e') : CellAt (.ints k n f :: cs) (n + o) e (.ints k n f :: cs') e' := by
  obtain ⟨a, c, h1, h2, h3⟩ := h
  refine ⟨.ints k n f :: a, c, by simp [sizeS, h1], fun E l hd => ?_, fun E l hd => ?_⟩
  · simp only [denS, List.cons_append] at hd ⊢
    obtain ⟨l', rfl, k2⟩ := hd
    exact ⟨l', rfl, h2 E l' k2⟩
  · simp only [denS, List.cons_append] at hd ⊢
    obtain ⟨l', rfl, k2⟩ := hd
    exact ⟨l', rfl, h3 E l' k2⟩

theorem cell_one : ∀ {cs cs' : List Seg} {o : Nat} {e e' : SV}, getS cs o = some e → setS cs o e' = some cs' → CellAt cs o e cs' e'
  | [], _, _, _, _, h, _ => by simp [getS] at h
  | .one v :: r, cs', 0, e, e', h, h' => by
    simp only [getS, Option.some.injEq] at h
    simp only [setS, Option.some.injEq] at h'
    subst h; subst h'
    exact ⟨[], r, rfl, fun _ _ h => h, fun _ _ h => h⟩
  | .one v :: r, cs', o + 1, e, e', h, h' => by
    simp only [getS] at h
    simp only [setS, Option.map_eq_some_iff] at h'
    obtain ⟨c, hc, rfl⟩ := h'
    exact (cell_one h hc).cons_one
  | .ints k n f :: r, cs', o, e, e', h, h' => by
    unfold getS at h
    unfold setS at h'
    split at h
    · rw [if_neg (by omega)] at h'
      cases h'
    · rename_i ho
      rw [if_pos (by omega)] at h'
      simp only [Option.map_eq_some_iff] at h'
      obtain ⟨c, hc, rfl⟩ := h'
      have := (cell_one h hc).cons_ints (k := k) (n := n) (f := f)
      rwa [show n + (o - n) = o by omega] at this

theorem intsOf_split (k : IntKind) {n j : Nat} (f : Nat → Int) (h : j < n) : intsOf k n f = intsOf k j f ++ (.int k (f j) :: intsOf k (n - j - 1) (fun i => f (j + 1 + i))) := by
  obtain ⟨m, rfl⟩ : ∃ m, n = j + (m + 1) := ⟨n - j - 1, by omega⟩
  have e : j + (m + 1) - j - 1 = m := by omega
  rw [e]
  simp only [intsOf]
  rw [List.range_add, List.map_append, List.map_map, List.range_succ_eq_map]
  congr 1
  simp only [List.map_cons, List.map_map, Function.comp_def, Nat.add_zero]
  congr 1
  refine List.map_congr_left fun i _ => ?_
  simp only [Nat.succ_eq_add_one]
  rw [show j + (i + 1) = j + 1 + i by omega]

theorem cell_ints_head (k : IntKind) {n j : Nat} (f g : Nat → Int) (r : List Seg) (hj : j < n) (hg : ∀ i, i < n → i ≠ j → f i = g i) : CellAt (.ints k n f :: r) j (.int k (f j)) (.ints k n g :: r) (.int k (g j)) := by
  refine ⟨[.ints k j f], .ints k (n - j - 1) (fun i => f (j + 1 + i)) :: r, by simp [sizeS], fun E l hd => ?_, fun E l hd => ?_⟩
  · simp only [denS, List.cons_append, List.nil_append, denV] at hd ⊢
    obtain ⟨l', rfl, k2⟩ := hd
    rw [intsOf_split k f hj]
    exact ⟨_, by rw [List.append_assoc, List.cons_append], _, _, rfl, rfl, l', rfl, k2⟩
  · simp only [denS, List.cons_append, List.nil_append, denV] at hd ⊢
    obtain ⟨l1, rfl, v, l2, rfl, rfl, l3, rfl, k2⟩ := hd
    refine ⟨l3, ?_, k2⟩
    rw [intsOf_split k g hj, List.append_assoc, intsOf_congr (f := f) (g := g) (fun i hi => hg i (by omega) (by omega)), intsOf_congr (f := fun i => f (j + 1 + i)) (g := fun i => g (j + 1 + i)) (fun i hi => hg _ (by omega) (by omega))]
    rfl

theorem cell_ints : ∀ {cs : List Seg} {o j : Nat} {k : IntKind} {n : Nat} {f : Nat → Int}, getI cs o = some (k, n, f) → j < n → CellAt cs (o + j) (.int k (f j)) cs (.int k (f j))
  | [], _, _, _, _, _, h, _ => by simp [getI] at h
  | .one v :: r, 0, j, k, n, f, h, hj => by simp [getI] at h
  | .one v :: r, o + 1, j, k, n, f, h, hj => by
    simp only [getI] at h
    have := (cell_ints (j := j) h hj).cons_one (v := v)
    rwa [show o + j + 1 = o + 1 + j by omega] at this
  | .ints q m g :: r, o, j, k, n, f, h, hj => by
    cases o with
    | zero =>
      simp only [getI, Option.some.injEq, Prod.mk.injEq] at h
      obtain ⟨rfl, rfl, rfl⟩ := h
      rw [Nat.zero_add]
      exact cell_ints_head _ _ _ r hj (fun _ _ _ => rfl)
    | succ o =>
      unfold getI at h
      split at h
      · rename_i ho
        have := (cell_ints (j := j) h hj).cons_ints (k := q) (n := m) (f := g)
        rwa [show m + (o + 1 - m + j) = o + 1 + j by omega] at this
      · cases h

theorem cell_setI : ∀ {cs cs' : List Seg} {o j : Nat} {k : IntKind} {n : Nat} {f : Nat → Int} {x : Int}, getI cs o = some (k, n, f) → j < n → setI cs o j k x = some cs' → CellAt cs (o + j) (.int k (f j)) cs' (.int k x)
  | [], _, _, _, _, _, _, _, h, _, _ => by simp [getI] at h
  | .one v :: r, _, 0, j, k, n, f, x, h, hj, _ => by simp [getI] at h
  | .one v :: r, cs', o + 1, j, k, n, f, x, h, hj, h' => by
    simp only [getI] at h
    simp only [setI, Option.map_eq_some_iff] at h'
    obtain ⟨c, hc, rfl⟩ := h'
    have := (cell_setI (j := j) h hj hc).cons_one (v := v)
    rwa [show o + j + 1 = o + 1 + j by omega] at this
  | .ints q m g :: r, cs', o, j, k, n, f, x, h, hj, h' => by
    cases o with
    | zero =>
      simp only [getI, Option.some.injEq, Prod.mk.injEq] at h
      obtain ⟨rfl, rfl, rfl⟩ := h
      simp only [setI, if_true, Option.some.injEq] at h'
      subst h'
      rw [Nat.zero_add]
      have := cell_ints_head q g (fun i => if i = j then x else g i) r hj (fun i _ hi => by simp [hi])
      simpa using this
    | succ o =>
      unfold getI at h
      split at h
      · rename_i ho
        unfold setI at h'
        rw [if_pos ho] at h'
        simp only [Option.map_eq_some_iff] at h'
        obtain ⟨c, hc, rfl⟩ := h'
        have := (cell_setI (j := j) h hj hc).cons_ints (k := q) (n := m) (f := g)
        rwa [show m + (o + 1 - m + j) = o + 1 + j by omega] at this
      · cases h

theorem nthB_app_lt {h r : List Blk} {i : Nat} {B : Blk} (hi : nthB h i = some B) : nthB (h ++ r) i = some B := nthB_app hi
theorem nthB_len : ∀ (h : List Blk) (B : Blk) (r : List Blk), nthB (h ++ B :: r) h.length = some B
  | [], _, _ => rfl
  | _ :: h, B, r => by simp only [List.cons_append, List.length_cons, nthB]; exact nthB_len h B r
theorem nthB_upd_ne : ∀ {h : List Blk} {i j : Nat} {A B : Blk}, nthB h i = some A → i ≠ j → nthB (updB h j B) i = some A
  | [], _, _, _, _, h, _ => by simp [nthB] at h
  | _ :: _, 0, 0, _, _, _, hn => absurd rfl hn
  | _ :: _, 0, j + 1, _, _, h, _ => h
  | _ :: _, i + 1, 0, _, _, h, _ => h
  | _ :: r, i + 1, j + 1, _, _, h, hn => by simp only [nthB, updB] at h ⊢; exact nthB_upd_ne h (fun e => hn (by rw [e]))
theorem nthB_upd_eq : ∀ {h : List Blk} {i : Nat} {A B : Blk}, nthB h i = some A → nthB (updB h i B) i = some B
  | [], _, _, _, h => by simp [nthB] at h
  | _ :: _, 0, _, _, _ => rfl
  | _ :: r, i + 1, _, _, h => by simp only [nthB, updB] at h ⊢; exact nthB_upd_eq h
theorem len_updB : ∀ (h : List Blk) (b : Nat) (B : Blk), (updB h b B).length = h.length
  | [], _, _ => rfl
  | _ :: _, 0, _ => rfl
  | _ :: r, b + 1, B => by simp [updB, len_updB r b B]
theorem nthB_lt {h : List Blk} {i : Nat} {B : Blk} (hi : nthB h i = some B) : i < h.length := lt_of_get (nthB_get hi)

end Go.Anv

/- The engine, part 17: a call that is handed a pointer to one cell of a block, by a contract that is shown of a small heap with that cell alone. Plain theorems; their condition: what the call leaves of the cell. -/
namespace Go.Anv
open Go

theorem roOk_mk : ∀ {h h' : List Blk}, (∀ (i : Nat) (B : Blk), h'[i]? = some B → B.mut = true ∨ B = .dead ∨ h[i]? = some B) → roOk h h'
  | [], [], _ => trivial
  | _ :: _, [], _ => trivial
  | [], B :: r, hk => ⟨by rcases hk 0 B (by simp) with h | h | h
                          · exact .inl h
                          · exact .inr h
                          · simp at h, roOk_mk fun i C hi => by
    rcases hk (i + 1) C (by simpa using hi) with h | h | h
    · exact .inl h
    · exact .inr (.inl h)
    · simp at h⟩
  | A :: s, B :: r, hk => ⟨by rcases hk 0 B (by simp) with h | h | h
                              · exact .inl h
                              · exact .inr (.inl h)
                              · exact .inr (.inr (by simpa using h.symm)), roOk_mk fun i C hi => by
    rcases hk (i + 1) C (by simpa using hi) with h | h | h
    · exact .inl h
    · exact .inr (.inl h)
    · exact .inr (.inr (by simpa using h))⟩

theorem roOk_merge {h hc h' : List Blk} {κ : List Nat} (hnd : κ.Nodup) (hh : subH h κ (renH (lk κ h.length) hc)) (ho : roOk hc h') (hl : κ.length ≤ h'.length) : roOk h (mergeB h κ (renH (lk κ h.length) h')) := by
  obtain ⟨h1, h2⟩ := subH_get hh
  rw [length_renH] at h1
  have hlt : ∀ k ∈ κ, k < h.length := fun k hk => by
    obtain ⟨i, hi⟩ := List.getElem?_of_mem hk
    have hi' : i < hc.length := by
      have : i < κ.length := by
        rcases Nat.lt_or_ge i κ.length with h' | h'
        · exact h'
        · rw [List.getElem?_eq_none h'] at hi; cases hi
      omega
    obtain ⟨k', h3, h4⟩ := h2 i (renB (lk κ h.length) hc[i]) (by rw [renH_get, List.getElem?_eq_getElem hi']; rfl)
    rw [hi] at h3
    cases h3
    exact lt_of_get h4
  refine roOk_mk fun j B hj => ?_
  rcases mergeB_get h κ _ hnd hlt (by rw [length_renH]; exact hl) j B hj with ⟨_, _, h3⟩ | ⟨i, h3, h4⟩
  · exact .inr (.inr h3)
  · rw [renH_get] at h4
    simp only [Option.map_eq_some_iff] at h4
    obtain ⟨B', h5, rfl⟩ := h4
    rcases roOk_get ho i B' h5 with h6 | rfl | h6
    · exact .inl (by rw [mut_ren]; exact h6)
    · exact .inr (.inl rfl)
    · obtain ⟨k, h7, h8⟩ := h2 i (renB (lk κ h.length) B') (by rw [renH_get, h6]; rfl)
      have hi : i < κ.length := by
        rcases Nat.lt_or_ge i κ.length with h' | h'
        · exact h'
        · rw [List.getElem?_eq_none h'] at h7; cases h7
      rw [look_lt κ _ i hi] at h3
      rw [List.getElem?_eq_getElem hi] at h7
      cases h7
      subst h3
      exact .inr (.inr h8)

/-- A cell of some cells; P: what they become with another in its place. -/
def Cell (cs : List Seg) (o : Nat) (e : SV) (P : SV → List Seg → Prop) : Prop :=
  ∃ a c, sizeS a = o ∧ (∀ E l, denS E cs l → denS E (a ++ ([.one e] ++ c)) l) ∧ ∀ e' cs', P e' cs' → ∀ E l, denS E (a ++ ([.one e'] ++ c)) l → denS E cs' l

theorem Cell.cons_one {cs : List Seg} {o : Nat} {e v : SV} {P : SV → List Seg → Prop} (h : Cell cs o e P) : Cell (.one v :: cs) (o + 1) e (fun e' cs' => ∃ c, P e' c ∧ cs' = .one v :: c) := by
  obtain ⟨a, c, h1, h2, h3⟩ := h
  refine ⟨.one v :: a, c, by simp [sizeS, h1], fun E l hd => ?_, fun e' cs' hp E l hd => ?_⟩
  · simp only [denS, List.cons_append] at hd ⊢
    obtain ⟨u, l', rfl, k1, k2⟩ := hd
    exact ⟨u, l', rfl, k1, h2 E l' k2⟩
  · obtain ⟨c', hp, rfl⟩ := hp
    simp only [denS, List.cons_append] at hd ⊢
    obtain ⟨u, l', rfl, k1, k2⟩ := hd
    exact ⟨u, l', rfl, k1, h3 e' c' hp E l' k2⟩

theorem Cell.cons_ints {cs : List Seg} {o : Nat} {e : SV} {P : SV → List Seg → Prop} {k : IntKind} {n : Nat} {f : Nat → Int} (h : Cell cs o e P) : Cell (.ints k n f :: cs) (n + o) e (fun e' cs' => ∃ c, P e' c ∧ cs' = .ints k n f :: c) := by
  obtain ⟨a, c, h1, h2, h3⟩ := h
  refine ⟨.ints k n f :: a, c, by simp [sizeS, h1], fun E l hd => ?_, fun e' cs' hp E l hd => ?_⟩
  · simp only [denS, List.cons_append] at hd ⊢
    obtain ⟨l', rfl, k2⟩ := hd
    exact ⟨l', rfl, h2 E l' k2⟩
  · obtain ⟨c', hp, rfl⟩ := hp
    simp only [denS, List.cons_append] at hd ⊢
    obtain ⟨l', rfl, k2⟩ := hd
    exact ⟨l', rfl, h3 e' c' hp E l' k2⟩

theorem Cell.mono {cs : List Seg} {o : Nat} {e : SV} {P P' : SV → List Seg → Prop} (h : Cell cs o e P) (hp : ∀ e' cs', P' e' cs' → P e' cs') : Cell cs o e P' := by
  obtain ⟨a, c, h1, h2, h3⟩ := h
  exact ⟨a, c, h1, h2, fun e' cs' h => h3 e' cs' (hp e' cs' h)⟩

/-- A cell of its own. -/
theorem Cell.one : ∀ {cs : List Seg} {o : Nat} {e : SV}, getS cs o = some e → (∃ e' cs', setS cs o e' = some cs') → Cell cs o e (fun e' cs' => setS cs o e' = some cs')
  | [], _, _, h, _ => by simp [getS] at h
  | .one v :: r, 0, e, h, _ => by
    simp only [getS, Option.some.injEq] at h
    subst h
    refine ⟨[], r, rfl, fun _ _ h => h, fun e' cs' h' _ _ h => ?_⟩
    simp only [setS, Option.some.injEq] at h'
    subst h'
    exact h
  | .one v :: r, o + 1, e, h, hw => by
    simp only [getS] at h
    obtain ⟨e', cs', hw⟩ := hw
    simp only [setS, Option.map_eq_some_iff] at hw
    obtain ⟨c, hc, _⟩ := hw
    refine (Cell.one h ⟨e', c, hc⟩).cons_one.mono fun e' cs' h' => ?_
    simp only [setS, Option.map_eq_some_iff] at h'
    obtain ⟨c, hc, rfl⟩ := h'
    exact ⟨c, hc, rfl⟩
  | .ints k n f :: r, o, e, h, hw => by
    obtain ⟨e', cs', hw⟩ := hw
    unfold setS at hw
    split at hw
    · rename_i ho
      simp only [Option.map_eq_some_iff] at hw
      obtain ⟨c, hc, _⟩ := hw
      unfold getS at h
      rw [if_neg (by omega)] at h
      have := (Cell.one h ⟨e', c, hc⟩).cons_ints (k := k) (n := n) (f := f)
      rw [show n + (o - n) = o by omega] at this
      refine this.mono fun e' cs' h' => ?_
      unfold setS at h'
      rw [if_pos ho] at h'
      simp only [Option.map_eq_some_iff] at h'
      obtain ⟨c, hc, rfl⟩ := h'
      exact ⟨c, hc, rfl⟩
    · cases hw

/-- A cell among whole numbers of one kind. -/
theorem Cell.ints : ∀ {cs : List Seg} {o j : Nat} {k : IntKind} {n : Nat} {f : Nat → Int}, getI cs o = some (k, n, f) → j < n → Cell cs (o + j) (.int k (f j)) (fun e' cs' => ∃ x, e' = .int k x ∧ setI cs o j k x = some cs')
  | [], _, _, _, _, _, h, _ => by simp [getI] at h
  | .one v :: r, 0, j, k, n, f, h, hj => by simp [getI] at h
  | .one v :: r, o + 1, j, k, n, f, h, hj => by
    simp only [getI] at h
    have := (Cell.ints (j := j) h hj).cons_one (v := v)
    rw [show o + j + 1 = o + 1 + j by omega] at this
    refine this.mono fun e' cs' h' => ?_
    obtain ⟨x, rfl, h'⟩ := h'
    simp only [setI, Option.map_eq_some_iff] at h'
    obtain ⟨c, hc, rfl⟩ := h'
    exact ⟨c, ⟨x, rfl, hc⟩, rfl⟩
  | .ints q m g :: r, o, j, k, n, f, h, hj => by
    cases o with
    | zero =>
      simp only [getI, Option.some.injEq, Prod.mk.injEq] at h
      obtain ⟨rfl, rfl, rfl⟩ := h
      rw [Nat.zero_add]
      refine ⟨[.ints q j g], .ints q (m - j - 1) (fun i => g (j + 1 + i)) :: r, by simp [sizeS], fun E l hd => ?_, fun e' cs' h' E l hd => ?_⟩
      · simp only [denS, List.cons_append, List.nil_append, denV] at hd ⊢
        obtain ⟨l', rfl, k2⟩ := hd
        rw [intsOf_split q g hj]
        exact ⟨_, by rw [List.append_assoc, List.cons_append], _, _, rfl, rfl, l', rfl, k2⟩
      · obtain ⟨x, rfl, h'⟩ := h'
        simp only [setI, if_true, Option.some.injEq] at h'
        subst h'
        simp only [denS, List.cons_append, List.nil_append, denV] at hd ⊢
        obtain ⟨l1, rfl, v, l2, rfl, rfl, l3, rfl, k2⟩ := hd
        refine ⟨l3, ?_, k2⟩
        rw [intsOf_split q (fun i => if i = j then x else g i) hj, List.append_assoc, intsOf_congr (f := g) (g := fun i => if i = j then x else g i) (fun i hi => (if_neg (by omega)).symm), intsOf_congr (f := fun i => g (j + 1 + i)) (g := fun i => if j + 1 + i = j then x else g (j + 1 + i)) (fun i hi => (if_neg (by omega)).symm)]
        simp
    | succ o =>
      unfold getI at h
      split at h
      · rename_i ho
        have := (Cell.ints (j := j) h hj).cons_ints (k := q) (n := m) (f := g)
        rw [show m + (o + 1 - m + j) = o + 1 + j by omega] at this
        refine this.mono fun e' cs' h' => ?_
        obtain ⟨x, rfl, h'⟩ := h'
        unfold setI at h'
        rw [if_pos ho] at h'
        simp only [Option.map_eq_some_iff] at h'
        obtain ⟨c, hc, rfl⟩ := h'
        exact ⟨c, ⟨x, rfl, hc⟩, rfl⟩
      · cases h

/-- A cell that stays as it is. -/
theorem Cell.keep {cs : List Seg} {o : Nat} {e : SV} (h : CellAt cs o e cs e) : Cell cs o e (fun e' cs' => e' = e ∧ cs' = cs) := by
  obtain ⟨a, c, h1, h2, h3⟩ := h
  exact ⟨a, c, h1, h2, fun e' cs' h => by obtain ⟨rfl, rfl⟩ := h; exact h3⟩

/-- **A call that is handed a pointer to a cell, by a contract shown of a small heap with that cell alone.** -/
theorem Does.cell {T : Tbl} {f : FuncId} {args args' : List EV} {hc h : List Blk} {Q K : EV → List Blk → Prop} (d : Does T f args hc Q) (κ : List Nat) (pv k N : Nat) {m : Bool} {sp : Nat} {cs : List Seg} {x : SV} {P : SV → List Seg → Prop} (hN : h.length = N)
    (hv : nthB h pv = some (.cells m cs sp)) (hcell : Cell cs k x P) (hh : subH (updB h pv .dead ++ [.cells m [.one x] 0]) κ (renH (lk κ (N + 1)) hc)) (ha : partT pv N k args' (renT (lk κ (N + 1)) args))
    (hnd : κ.Nodup) (hro : ∀ v h', Q v h' → roOk hc h') (hlen : ∀ v h', Q v h' → κ.length ≤ h'.length)
    (hK : ∀ v h', Q v h' → ∃ x' cs', nthB (mergeB (updB h pv .dead ++ [.cells m [.one x] 0]) κ (renH (lk κ (N + 1)) h')) N = some (.cells m [.one x'] 0) ∧ P x' cs' ∧
      forceH (updB (updB (mergeB (updB h pv .dead ++ [.cells m [.one x] 0]) κ (renH (lk κ (N + 1)) h')) N .dead) pv (.cells m cs' sp)) fun h2 => forceE (renE (lk κ (N + 1)) v) fun v => K v h2) : Does T f args' h K := by
  subst hN
  obtain ⟨a, b, h1, h2, h3⟩ := hcell
  have hl1 : (updB h pv .dead ++ [Blk.cells m [.one x] 0]).length = h.length + 1 := by rw [List.length_append, len_updB]; rfl
  have d' := Does.frame d κ (h := updB h pv .dead ++ [Blk.cells m [.one x] 0]) hnd hro (by rw [hl1]; exact hh)
  refine Does.part pv a [.one x] b hv h2 (by rw [h1]; exact ha) (hl1 ▸ d') ?_
  rintro v h'' ⟨v', h', hq, rfl, rfl⟩
  obtain ⟨x', cs', k1, k2, k3⟩ := hK v' h' hq
  rw [forceH_eq, forceE_eq] at k3
  refine ⟨?_, [.one x'], cs', ?_, rfl, h3 x' cs' k2, ?_⟩
  · have := roOk_merge hnd (by rw [hl1]; exact hh) (hro v' h' hq) (hlen v' h' hq)
    rwa [hl1] at this
  · exact k1
  · exact k3

end Go.Anv

namespace Go.Anv
open Go
structure Box (p : Prop) : Prop where
  go : p

/-- n rounds at most, by the recursor itself. -/
def loopR (T : Tbl) (O : Org) (c : Code) (K : Exit → St → Prop) (n : Nat) : St → Prop :=
  Nat.rec (motive := fun _ => St → Prop) (fun _ => False) (fun _ ih s => Box (wpx T O c s (seqK ih K))) n

theorem loopR_eq (T : Tbl) (O : Org) (c : Code) (K : Exit → St → Prop) : ∀ (n : Nat) (s : St), loopR T O c K n s = loopN T O c n s K
  | 0, _ => rfl
  | n + 1, s => by
    have e : (Box (wpx T O c s (seqK (loopR T O c K n) K)) : Prop) = wpx T O c s (seqK (loopR T O c K n) K) := propext ⟨fun h => h.go, fun h => ⟨h⟩⟩
    show Box (wpx T O c s (seqK (loopR T O c K n) K)) = wpx T O c s (seqK (fun s' => loopN T O c n s' K) K)
    rw [e, show loopR T O c K n = fun s' => loopN T O c n s' K from funext (loopR_eq T O c K n)]

/-- A loop of at most n rounds, each walked by itself. -/
theorem loop_times {T : Tbl} {O : Org} (on : O.E.n = O.h.length) {c : Code} {K : Exit → St → Prop} (n : Nat) {s : St} (h : loopR T O c K n s) : LoopG T O c s K := loop_unroll on n (loopR_eq T O c K n s ▸ h)
end Go.Anv

namespace Go.Anv
open Go
/-- Arguments that say more. -/
theorem Does.args {T : Tbl} {f : FuncId} {a b : List EV} {h : List Blk} {Q : EV → List Blk → Prop} (e : eqvT a b) (d : Does T f b h Q) : Does T f a h Q := by
  refine ⟨?_⟩
  rcases d.go with ⟨h1, h2⟩ | h1
  · exact .inl ⟨h1, fun E w vs S ha => h2 E w vs S (eqvT_den _ _ _ e ha)⟩
  · exact .inr fun E w vs S ha => h1 E w vs S (eqvT_den _ _ _ e ha)
end Go.Anv

namespace Go.Anv
open Go
/-- Arguments that are wanted. -/
def unG : List EV → List EV → Prop
  | [], [] => True
  | .gd g v :: r, w :: r' => (g = true ∧ v = w) ∧ unG r r'
  | v :: r, w :: r' => v = w ∧ unG r r'
  | _, _ => False
theorem unG_den {E : Emb} : ∀ (a b : List EV) (l : List Value), unG a b → denT E a l → denT E b l
  | [], [], _, _, h => h
  | x :: r, y :: r', l, he, h => by
    have key : (denE E x = denE E y ∨ ∃ g v, x = .gd g v ∧ g = true ∧ v = y) ∧ unG r r' := by
      cases x with
      | gd g v => exact ⟨.inr ⟨g, v, rfl, he.1⟩, he.2⟩
      | s v => exact ⟨.inl (by rw [he.1]), he.2⟩
      | agg v => exact ⟨.inl (by rw [he.1]), he.2⟩
      | tuple v => exact ⟨.inl (by rw [he.1]), he.2⟩
      | junk => exact ⟨.inl (by rw [he.1]), he.2⟩
    simp only [denT] at h ⊢
    obtain ⟨v, l', rfl, h1, h2⟩ := h
    refine ⟨v, l', rfl, ?_, unG_den r r' l' key.2 h2⟩
    rcases key.1 with e | ⟨g, u, rfl, rfl, rfl⟩
    · rw [← e]; exact h1
    · simp only [denE] at h1
      exact h1.1 trivial
  | [], _ :: _, _, he, _ => he.elim
  | x :: _, [], _, he, _ => by cases x <;> exact he.elim
theorem Does.ungd {T : Tbl} {f : FuncId} {a b : List EV} {h : List Blk} {Q : EV → List Blk → Prop} (e : unG a b) (d : Does T f b h Q) : Does T f a h Q := by
  refine ⟨?_⟩
  rcases d.go with ⟨h1, h2⟩ | h1
  · exact .inl ⟨h1, fun E w vs S ha => h2 E w vs S (unG_den _ _ _ e ha)⟩
  · exact .inr fun E w vs S ha => h1 E w vs S (unG_den _ _ _ e ha)
end Go.Anv

namespace Go.Anv
open Go
/-- **A call that is handed a part of a block, by a contract shown of a small heap with that part as a block.** -/
theorem Does.partAt {T : Tbl} {f : FuncId} {args args' : List EV} {hc h : List Blk} {Q K : EV → List Blk → Prop} (d : Does T f args hc Q) (κ : List Nat) (i N : Nat) {m : Bool} {sp : Nat} {cs : List Seg} (a b c : List Seg) (hN : h.length = N)
    (hi : nthB h i = some (.cells m cs sp)) (hs : ∀ E l, denS E cs l → denS E (a ++ (b ++ c)) l) (hh : subH (updB h i .dead ++ [.cells m b 0]) κ (renH (lk κ (N + 1)) hc)) (ha : partT i N (sizeS a) args' (renT (lk κ (N + 1)) args))
    (hnd : κ.Nodup) (hro : ∀ v h', Q v h' → roOk hc h') (hlen : ∀ v h', Q v h' → κ.length ≤ h'.length)
    (hK : ∀ v h', Q v h' → ∃ b' cs', nthB (mergeB (updB h i .dead ++ [.cells m b 0]) κ (renH (lk κ (N + 1)) h')) N = some (.cells m b' 0) ∧ sizeS b' = sizeS b ∧ (∀ E l, denS E (a ++ (b' ++ c)) l → denS E cs' l) ∧
      forceH (updB (updB (mergeB (updB h i .dead ++ [.cells m b 0]) κ (renH (lk κ (N + 1)) h')) N .dead) i (.cells m cs' sp)) fun h2 => forceE (renE (lk κ (N + 1)) v) fun v => K v h2) : Does T f args' h K := by
  subst hN
  have hl1 : (updB h i .dead ++ [Blk.cells m b 0]).length = h.length + 1 := by rw [List.length_append, len_updB]; rfl
  have d' := Does.frame d κ (h := updB h i .dead ++ [Blk.cells m b 0]) hnd hro (by rw [hl1]; exact hh)
  refine Does.part i a b c hi hs ha (hl1 ▸ d') ?_
  rintro v h'' ⟨v', h', hq, rfl, rfl⟩
  obtain ⟨b', cs', k1, k2, k3, k4⟩ := hK v' h' hq
  rw [forceH_eq, forceE_eq] at k4
  refine ⟨?_, b', cs', ?_, k2, k3, ?_⟩
  · have := roOk_merge hnd (by rw [hl1]; exact hh) (hro v' h' hq) (hlen v' h' hq)
    rwa [hl1] at this
  · exact k1
  · exact k4
end Go.Anv

/- Memory protection: the range of an entry: plain specification, lemmas on bits. Plain definitions and lemmas. -/
namespace Go.Anv
open Go
def kindOf (c : B8) : Nat := (c >>> 3 &&& 3#8).toNat
/-- The range of an entry whose sixteen are proper. -/
def spanP (cfg : Nat → B8) (addr : Nat → B64) (i : Nat) : Option (B64 × B64) :=
  if kindOf (cfg i) = 1 then
    (if (if 0 < i then addr (i - 1) <<< 2 else 0#64) < addr i <<< 2 then some (if 0 < i then addr (i - 1) <<< 2 else 0#64, addr i <<< 2 - 1#64) else none)
  else if kindOf (cfg i) = 2 then some (addr i <<< 2, addr i <<< 2 + 3#64)
  else if kindOf (cfg i) = 3 then
    (if addr i = addrBits then some (0#64, 18446744073709551615#64)
     else some ((addr i &&& ~~~((addr i &&& ~~~(addr i + 1#64)) <<< 1 ||| 1#64)) <<< 2, (addr i &&& ~~~((addr i &&& ~~~(addr i + 1#64)) <<< 1 ||| 1#64)) <<< 2 + (((addr i &&& ~~~(addr i + 1#64)) <<< 1 ||| 1#64) <<< 2 ||| 3#64)))
  else none
def spanI (cfg : Nat → B8) (addr : Nat → B64) (i : Int) : Option (B64 × B64) := if i < 0 ∨ 15 < i then none else spanP (fun j => cfgOf (cfg j)) (fun j => addr j &&& addrBits) i.toNat
def spanE : Option (B64 × B64) → EV
  | none => .tuple [.s (.int .u64 0), .s (.int .u64 0), .s (.bool false)]
  | some (a, b) => .tuple [.s (.int .u64 a.toNat), .s (.int .u64 b.toNat), .s (.bool true)]
theorem spanE_noPtr (o : Option (B64 × B64)) : noPtr (spanE o) = true := by cases o <;> rfl
theorem addrBits_lt (a : B64) : (a &&& addrBits).toNat < 2 ^ 54 := by
  rw [BitVec.toNat_and]
  exact Nat.lt_of_le_of_lt Nat.and_le_right (by decide)
/-- The trailing ones. -/
theorem ones_bits {a : B64} {t : Nat} (ht : t < 54) (h : a.toNat % 2 ^ (t + 1) = 2 ^ t - 1) (ha : a.toNat < 2 ^ 54) : a &&& ~~~(a + 1#64) = BitVec.ofNat 64 (2 ^ t - 1) := by
  have hp : 2 ^ t < 2 ^ (t + 1) := Nat.pow_lt_pow_right (by decide) (by omega)
  have hp0 : 0 < 2 ^ t := Nat.pow_pos (by decide)
  have e : a.toNat = 2 ^ (t + 1) * (a.toNat / 2 ^ (t + 1)) + (2 ^ t - 1) := by rw [← h]; exact (Nat.div_add_mod _ _).symm
  have e1 : (a + 1#64).toNat = 2 ^ (t + 1) * (a.toNat / 2 ^ (t + 1)) + 2 ^ t := by
    rw [BitVec.toNat_add, show (1#64).toNat = 1 from rfl, Nat.mod_eq_of_lt (by omega)]
    omega
  apply BitVec.eq_of_getLsbD_eq
  intro j hj
  rw [BitVec.getLsbD_and, BitVec.getLsbD_not, BitVec.getLsbD_ofNat]
  have b1 : a.getLsbD j = (if j < t + 1 then (2 ^ t - 1).testBit j else (a.toNat / 2 ^ (t + 1)).testBit (j - (t + 1))) := by
    show a.toNat.testBit j = _
    conv => lhs; rw [e]
    exact Nat.testBit_two_pow_mul_add _ (by omega) j
  have b2 : (a + 1#64).getLsbD j = (if j < t + 1 then (2 ^ t).testBit j else (a.toNat / 2 ^ (t + 1)).testBit (j - (t + 1))) := by
    show (a + 1#64).toNat.testBit j = _
    rw [e1]
    exact Nat.testBit_two_pow_mul_add _ hp j
  rw [b1, b2, Nat.testBit_two_pow_sub_one, Nat.testBit_two_pow]
  rcases Nat.lt_trichotomy j t with h1 | h1 | h1
  · rw [if_pos (by omega), if_pos (by omega)]
    simp [h1, hj, show ¬ t = j by omega]
  · rw [if_pos (by omega), if_pos (by omega), decide_eq_false (p := j < t) (by omega)]
    simp
  · rw [if_neg (by omega), if_neg (by omega), decide_eq_false (p := j < t) (by omega)]
    cases (a.toNat / 2 ^ (t + 1)).testBit (j - (t + 1)) <;> simp
theorem low_bits {t : Nat} (ht : t < 54) : BitVec.ofNat 64 (2 ^ t - 1) <<< 1 ||| 1#64 = BitVec.ofNat 64 (2 ^ (t + 1) - 1) := by
  apply BitVec.eq_of_getLsbD_eq
  intro j hj
  rw [BitVec.getLsbD_or, BitVec.getLsbD_shiftLeft, BitVec.getLsbD_ofNat, BitVec.getLsbD_ofNat, BitVec.getLsbD_ofNat, Nat.testBit_two_pow_sub_one, Nat.testBit_two_pow_sub_one]
  cases j with
  | zero => simp
  | succ j =>
    have : Nat.testBit 1 (j + 1) = false := by rw [Nat.testBit_succ]; simp
    rw [this, decide_eq_true hj, decide_eq_true (show j + 1 - 1 < 64 by omega), decide_eq_false (show ¬ j + 1 < 1 by omega)]
    simp only [Nat.add_sub_cancel, Bool.not_false, Bool.true_and, Bool.and_false, Bool.or_false]
    exact decide_eq_decide.2 (by omega)
theorem clear_bits (a : B64) (k : Nat) (hk : k ≤ 63) : (a &&& ~~~(BitVec.ofNat 64 (2 ^ k - 1))).toNat = a.toNat / 2 ^ k * 2 ^ k := by
  have e : a &&& ~~~(BitVec.ofNat 64 (2 ^ k - 1)) = (a >>> k) <<< k := by
    apply BitVec.eq_of_getLsbD_eq
    intro j hj
    rw [BitVec.getLsbD_and, BitVec.getLsbD_not, BitVec.getLsbD_ofNat, Nat.testBit_two_pow_sub_one, BitVec.getLsbD_shiftLeft, BitVec.getLsbD_ushiftRight, decide_eq_true hj]
    by_cases h : j < k
    · rw [decide_eq_true h]; simp
    · rw [decide_eq_false h, show k + (j - k) = j by omega]; simp
  rw [e, BitVec.toNat_shiftLeft, BitVec.toNat_ushiftRight, Nat.shiftLeft_eq, Nat.shiftRight_eq_div_pow]
  have h1 : a.toNat / 2 ^ k * 2 ^ k ≤ a.toNat := Nat.div_mul_le_self _ _
  exact Nat.mod_eq_of_lt (by have := a.isLt; omega)
/-- The range of a power of two, as the document counts it. -/
theorem napot_nat {a : B64} {t : Nat} (ht : t < 54) (h : a.toNat % 2 ^ (t + 1) = 2 ^ t - 1) (ha : a.toNat < 2 ^ 54) :
    ((a &&& ~~~((a &&& ~~~(a + 1#64)) <<< 1 ||| 1#64)) <<< 2).toNat = 4 * a.toNat / (8 * 2 ^ t) * (8 * 2 ^ t) ∧
    ((a &&& ~~~((a &&& ~~~(a + 1#64)) <<< 1 ||| 1#64)) <<< 2 + (((a &&& ~~~(a + 1#64)) <<< 1 ||| 1#64) <<< 2 ||| 3#64)).toNat = 4 * a.toNat / (8 * 2 ^ t) * (8 * 2 ^ t) + (8 * 2 ^ t - 1) := by
  rw [ones_bits ht h ha, low_bits ht]
  have hp : 2 ^ (t + 1) = 2 * 2 ^ t := by rw [Nat.pow_succ]; omega
  have hp0 : 0 < 2 ^ t := Nat.pow_pos (by decide)
  have hpt : 2 ^ t ≤ 2 ^ 53 := Nat.pow_le_pow_right (by decide) (by omega)
  have hc := clear_bits a (t + 1) (by omega)
  have hq : 4 * a.toNat / (8 * 2 ^ t) = a.toNat / 2 ^ (t + 1) := by
    rw [hp, show 8 * 2 ^ t = 4 * (2 * 2 ^ t) by omega, Nat.mul_div_mul_left _ _ (by decide)]
  have hle : a.toNat / 2 ^ (t + 1) * 2 ^ (t + 1) ≤ a.toNat := Nat.div_mul_le_self _ _
  have h1 : ((a &&& ~~~(BitVec.ofNat 64 (2 ^ (t + 1) - 1))) <<< 2).toNat = 4 * a.toNat / (8 * 2 ^ t) * (8 * 2 ^ t) := by
    rw [BitVec.toNat_shiftLeft, hc, hq, Nat.shiftLeft_eq, Nat.mod_eq_of_lt (by omega), show 8 * 2 ^ t = 2 ^ (t + 1) * 4 by omega, ← Nat.mul_assoc]
  have hlow : (BitVec.ofNat 64 (2 ^ (t + 1) - 1)).toNat = 2 ^ (t + 1) - 1 := by
    rw [BitVec.toNat_ofNat, Nat.mod_eq_of_lt (by omega)]
  have h2 : (BitVec.ofNat 64 (2 ^ (t + 1) - 1) <<< 2 ||| 3#64).toNat = 8 * 2 ^ t - 1 := by
    rw [BitVec.toNat_or, BitVec.toNat_shiftLeft, hlow, show (3#64).toNat = 3 from rfl, Nat.mod_eq_of_lt (by rw [Nat.shiftLeft_eq]; omega), ← Nat.shiftLeft_add_eq_or_of_lt (by decide), Nat.shiftLeft_eq]
    omega
  refine ⟨h1, ?_⟩
  rw [BitVec.toNat_add, h1, h2, Nat.mod_eq_of_lt]
  rw [hq, show 8 * 2 ^ t = 2 ^ (t + 1) * 4 by omega, ← Nat.mul_assoc]
  have : a.toNat / 2 ^ (t + 1) * 2 ^ (t + 1) + 2 ^ (t + 1) ≤ 2 ^ 54 := by
    have h3 : a.toNat / 2 ^ (t + 1) < 2 ^ 54 / 2 ^ (t + 1) := by
      rw [Nat.div_lt_iff_lt_mul (by omega), Nat.div_mul_cancel (Nat.pow_dvd_pow 2 (by omega))]
      exact ha
    have h4 : (a.toNat / 2 ^ (t + 1) + 1) * 2 ^ (t + 1) ≤ 2 ^ 54 / 2 ^ (t + 1) * 2 ^ (t + 1) := Nat.mul_le_mul_right _ h3
    rw [Nat.div_mul_cancel (Nat.pow_dvd_pow 2 (by omega)), Nat.add_mul] at h4
    omega
  omega
end Go.Anv

/- Memory protection: contracts of the functions that tell an entry's range, the program's and the document's. No condition. -/
namespace Go.Anv
open Go
theorem kindOf_lt (c : B8) : kindOf c < 4 := by
  unfold kindOf
  rw [BitVec.toNat_and]
  exact Nat.lt_of_le_of_lt Nat.and_le_right (by decide)
theorem kind8 (c : B8) : IntKind.i64.wrap (bitX .and .u8 ((c.toNat : Int).fdiv (2 ^ min (Int.toNat 3) IntKind.u8.bits)) 3) = (kindOf c : Int) := by
  have h : (c.toNat : Int).fdiv (2 ^ min (Int.toNat 3) IntKind.u8.bits) = ((c >>> 3).toNat : Int) := fdiv_pow _ 3
  have hk := kindOf_lt c
  rw [h, and_u8, ofInt_toNat]
  exact i64_in (by omega) (by show ((kindOf c : Nat) : Int) ≤ _; omega)
theorem kind64 (c : B8) : bitX .and .i64 (IntKind.i64.wrap ((c.toNat : Int).fdiv (2 ^ min (Int.toNat 3) IntKind.u8.bits))) 3 = (kindOf c : Int) := by
  have h : (c.toNat : Int).fdiv (2 ^ min (Int.toNat 3) IntKind.u8.bits) = ((c >>> 3).toNat : Int) := fdiv_pow _ 3
  have hc := (c >>> 3).isLt
  have hk := kindOf_lt c
  rw [h, i64_in (by omega) (by omega), and_i64, BitVec.toInt_eq_toNat_of_lt]
  · rw [BitVec.toNat_and, BitVec.toNat_ofInt, kindOf, BitVec.toNat_and]
    have e1 : (((c >>> 3).toNat : Int) % ((2 ^ 64 : Nat) : Int)).toNat = (c >>> 3).toNat := by omega
    rw [e1]
    rfl
  · have : (BitVec.ofInt 64 ((c >>> 3).toNat : Int) &&& BitVec.ofInt 64 3).toNat ≤ 3 := by
      rw [BitVec.toNat_and]
      exact Nat.and_le_right
    omega
theorem add64 (a b : B64) : IntKind.u64.wrap ((a.toNat : Int) + (b.toNat : Int)) = ((a + b).toNat : Int) := by
  rw [wrap_u64, BitVec.ofInt_add, ofInt_toNat, ofInt_toNat]
theorem sub64 (a b : B64) : IntKind.u64.wrap ((a.toNat : Int) - (b.toNat : Int)) = ((a - b).toNat : Int) := by
  have ha := a.isLt
  have hb := b.isLt
  rw [wrap_u64, BitVec.toNat_ofInt, BitVec.toNat_sub]
  omega
theorem mul64 (a b : B64) : IntKind.u64.wrap ((a.toNat : Int) * (b.toNat : Int)) = ((a * b).toNat : Int) := by
  rw [wrap_u64, BitVec.ofInt_mul, ofInt_toNat, ofInt_toNat]
theorem mul4 (a : B64) : IntKind.u64.wrap (4 * (a.toNat : Int)) = ((a <<< 2).toNat : Int) := by
  refine (mul64 4#64 a).trans ?_
  rw [BitVec.toNat_mul, BitVec.toNat_shiftLeft, Nat.shiftLeft_eq, Nat.mul_comm]
  rfl
theorem shl2_lt {a b : B64} (ha : a.toNat < 2 ^ 54) (hb : b.toNat < 2 ^ 54) : a <<< 2 < b <<< 2 ↔ a.toNat < b.toNat := by
  rw [BitVec.lt_def, BitVec.toNat_shiftLeft, BitVec.toNat_shiftLeft, Nat.shiftLeft_eq, Nat.shiftLeft_eq, Nat.mod_eq_of_lt (by omega), Nat.mod_eq_of_lt (by omega)]
  omega
theorem wnat {x : Nat} (h : x < 2 ^ 64) : IntKind.u64.wrap (x : Int) = (x : Int) := by
  rw [wrap_u64, BitVec.toNat_ofInt]; omega
theorem shl64 (a : B64) (k : Nat) : IntKind.u64.wrap ((a.toNat : Int) * 2 ^ k) = ((a <<< k).toNat : Int) := by rw [wrap_u64, mul_pow]
end Go.Anv
namespace Go.Proofs.YtghcdkpgcanpgaaGreat
open Go Go.Anv
theorem kind_spec (c : B8) (h : List Blk) : Does TB 110 [.s (.int .u8 c.toNat)] h (fun v h' => v = .s (.int .i64 (kindOf c : Int)) ∧ h' = h) := by
  refine fnX_pure TB Tryz.func110 rfl (by decide) rfl _ rfl (fun O on => ?_) h
  refine need_intro (by decide) ?_
  exact ⟨rfl, kind8 c⟩
theorem rkind_spec (cfg : Nat → B8) (addr : Nat → B64) (i : Nat) (hi : i < 16) (h : List Blk) : Does TB 104 [.agg (pmpSeg cfg addr), .s (.int .i64 (i : Int))] h (fun v h' => v = .s (.int .i64 (kindOf (cfg i) : Int)) ∧ h' = h) := by
  refine fnX_pure TB Tryz.func104 rfl (by decide) rfl _ rfl (fun O on => ?_) h
  repeat (refine need_intro (by first | omega | decide | fail) ?_)
  refine ⟨rfl, ?_⟩
  exact kind64 (cfg i)
theorem span_spec (cfg : Nat → B8) (addr : Nat → B64) (i : Int) (h : List Blk) : Does TB 107 [.agg (pmpSeg cfg addr), .s (.int .i64 i)] h (fun v h' => v = spanE (spanI cfg addr i) ∧ h' = h) := by
  refine fnX_pure TB Tryz.func107 rfl (by decide) rfl _ (spanE_noPtr _) (fun O on => ?_) h
  repeat (refine need_intro (by first | exact fun h => h | (simp; done) | fail) ?_)
  refine ifB_intro (fun h1 => ?_) (fun h1 => ?_)
  · have : i < 0 ∨ 15 < i := by
      by_cases hi : i < 0
      · exact .inl hi
      · rw [decide_eq_false hi] at h1
        exact .inr (of_decide_eq_true h1)
    rw [spanI, if_pos this]
    exact eqvE_refl _
  have hi : 0 ≤ i ∧ i ≤ 15 := by
    by_cases hi : i < 0
    · rw [decide_eq_true hi] at h1; cases h1
    · rw [decide_eq_false hi] at h1
      have := of_decide_eq_false h1
      omega
  obtain ⟨n, rfl⟩ : ∃ n : Nat, i = (n : Int) := ⟨i.toNat, by omega⟩
  have hn : n < 16 := by omega
  rw [spanI, if_neg (by omega), Int.toNat_natCast]
  refine (properP_spec cfg addr _).mono ?_
  rintro _ _ ⟨rfl, rfl⟩
  generalize (fun j => cfgOf (cfg j)) = C
  generalize (fun j => addr j &&& addrBits) = A
  generalize ho : spanP C A n = o
  unfold spanP at ho
  repeat (refine need_intro (by first | rfl | (constructor <;> omega) | omega | fail) ?_)
  refine (kind_spec (C n) _).mono ?_
  rintro _ _ ⟨rfl, rfl⟩
  have hlt := kindOf_lt (C n)
  generalize hk : kindOf (C n) = k at hlt ho ⊢
  match k, hlt with
  | 0, _ =>
    subst ho
    exact eqvE_refl _
  | 1, _ =>
    rw [if_pos rfl] at ho
    refine ifB_intro (fun h2 => ?_) (fun h2 => ?_)
    · obtain ⟨m, rfl⟩ : ∃ m, n = m + 1 := ⟨n - 1, by have := of_decide_eq_true h2; omega⟩
      have hw : IntKind.i64.wrap (((m + 1 : Nat) : Int) - 1) = (m : Int) := by rw [i64_in (by omega) (by omega)]; omega
      refine need_intro (by rw [hw]; omega) ?_
      refine need_intro (by rw [hw, Int.toNat_natCast]; omega) ?_
      refine need_intro (by decide) ?_
      refine need_intro (by decide) ?_
      rw [hw]
      rw [if_pos (Nat.succ_pos m), Nat.add_sub_cancel] at ho
      have e1 : IntKind.u64.wrap (wfun A ((m + 1 : Nat) : Int).toNat * 2 ^ min (Int.toNat 2) IntKind.u64.bits) = ((A (m + 1) <<< 2).toNat : Int) := shl64 _ 2
      have e2 : IntKind.u64.wrap (wfun A ((m : Nat) : Int).toNat * 2 ^ min (Int.toNat 2) IntKind.u64.bits) = ((A m <<< 2).toNat : Int) := shl64 _ 2
      rw [e1, e2]
      refine ifB_intro (fun h3 => ?_) (fun h3 => ?_)
      · rw [gt_nat] at h3
        rw [if_pos (of_decide_eq_true h3)] at ho
        subst ho
        refine ⟨⟨rfl, rfl⟩, ⟨rfl, ?_⟩, ⟨rfl, trivial⟩⟩
        exact sub64 _ 1#64
      · rw [gt_nat] at h3
        rw [if_neg (of_decide_eq_false h3)] at ho
        subst ho
        exact eqvE_refl _
    · have h0 : n = 0 := by have := of_decide_eq_false h2; omega
      subst h0
      refine need_intro (by decide) ?_
      rw [if_neg (Nat.lt_irrefl 0)] at ho
      have e1 : IntKind.u64.wrap (wfun A ((0 : Nat) : Int).toNat * 2 ^ min (Int.toNat 2) IntKind.u64.bits) = ((A 0 <<< 2).toNat : Int) := shl64 _ 2
      rw [e1]
      refine ifB_intro (fun h3 => ?_) (fun h3 => ?_)
      · have h3 : 0#64 < A 0 <<< 2 := by have := of_decide_eq_true h3; rw [BitVec.lt_def]; simp only [BitVec.toNat_ofNat]; omega
        rw [if_pos h3] at ho
        subst ho
        refine ⟨⟨rfl, rfl⟩, ⟨rfl, ?_⟩, ⟨rfl, trivial⟩⟩
        exact sub64 _ 1#64
      · have h3 : ¬ 0#64 < A 0 <<< 2 := by have := of_decide_eq_false h3; rw [BitVec.lt_def]; simp only [BitVec.toNat_ofNat]; omega
        rw [if_neg h3] at ho
        subst ho
        exact eqvE_refl _
  | 2, _ =>
    refine need_intro (by decide) ?_
    refine need_intro (by decide) ?_
    have e1 : IntKind.u64.wrap (wfun A ((n : Nat) : Int).toNat * 2 ^ min (Int.toNat 2) IntKind.u64.bits) = ((A n <<< 2).toNat : Int) := shl64 _ 2
    rw [if_neg (by decide), if_pos rfl] at ho
    subst ho
    refine ⟨⟨rfl, e1⟩, ⟨rfl, ?_⟩, ⟨rfl, trivial⟩⟩
    rw [e1]; exact add64 _ 3#64
  | 3, _ =>
    rw [if_neg (by decide), if_neg (by decide), if_pos rfl] at ho
    refine ifB_intro (fun h2 => ?_) (fun h2 => ?_)
    · have h2 : A n = addrBits := by
        have h2 : (((A n).toNat : Int) == 18014398509481983) = true := h2
        rw [beq_lit _ _ (by decide) (by decide)] at h2
        exact eq_of_beq h2
      rw [if_pos h2] at ho
      subst ho
      exact eqvE_refl _
    · have h2 : ¬ A n = addrBits := by
        have h2 : (((A n).toNat : Int) == 18014398509481983) = false := h2
        rw [beq_lit _ _ (by decide) (by decide)] at h2
        exact ne_of_beq_false h2
      rw [if_neg h2] at ho
      subst ho
      repeat (refine need_intro (by decide) ?_)
      have a1 : IntKind.u64.wrap (((A n).toNat : Int) + 1) = ((A n + 1#64).toNat : Int) := add64 _ 1#64
      have hwf : wfun A ((n : Nat) : Int).toNat = ((A n).toNat : Int) := rfl
      have hm1 : min (Int.toNat 1) IntKind.u64.bits = 1 := by decide
      have hm2 : min (Int.toNat 2) IntKind.u64.bits = 2 := by decide
      refine ⟨⟨rfl, ?_⟩, ⟨rfl, ?_⟩, ⟨rfl, trivial⟩⟩ <;> simp only [hwf, a1, hm1, hm2, andNot_u64, or_u64, shl64, add64, ofInt_toNat, BitVec.reduceOfInt]
theorem rspan_spec (cfg : Nat → B8) (addr : Nat → B64) (i : Int) (h : List Blk) : Does TB 112 [.agg (pmpSeg cfg addr), .s (.int .i64 i)] h (fun v h' => v = spanE (spanI cfg addr i) ∧ h' = h) := by
  refine fnX_pure TB Tryz.func112 rfl (by decide) rfl _ (spanE_noPtr _) (fun O on => ?_) h
  refine (rproperP_spec cfg addr _).mono ?_
  rintro _ _ ⟨rfl, rfl⟩
  refine need_intro rfl ?_
  repeat (refine need_intro (by first | exact fun h => h | (simp; done) | fail) ?_)
  refine ifB_intro (fun h1 => ?_) (fun h1 => ?_)
  · have : i < 0 ∨ 15 < i := by
      by_cases hi : i < 0
      · exact .inl hi
      · rw [decide_eq_false hi] at h1
        exact .inr (of_decide_eq_true h1)
    rw [spanI, if_pos this]
    exact eqvE_refl _
  have hi : 0 ≤ i ∧ i ≤ 15 := by
    by_cases hi : i < 0
    · rw [decide_eq_true hi] at h1; cases h1
    · rw [decide_eq_false hi] at h1
      have := of_decide_eq_false h1
      omega
  obtain ⟨n, rfl⟩ : ∃ n : Nat, i = (n : Int) := ⟨i.toNat, by omega⟩
  have hn : n < 16 := by omega
  have hA : ∀ j, (addr j &&& addrBits).toNat < 2 ^ 54 := fun j => addrBits_lt _
  rw [spanI, if_neg (by omega), Int.toNat_natCast]
  generalize (fun j => cfgOf (cfg j)) = C
  change ∀ j, ((fun j => addr j &&& addrBits) j).toNat < 2 ^ 54 at hA
  generalize (fun j => addr j &&& addrBits) = A at hA ⊢
  generalize ho : spanP C A n = o
  unfold spanP at ho
  repeat (refine need_intro (by first | rfl | (constructor <;> omega) | omega | fail) ?_)
  refine (rkind_spec C A n hn _).mono ?_
  rintro _ _ ⟨rfl, rfl⟩
  have hlt := kindOf_lt (C n)
  generalize hk : kindOf (C n) = k at hlt ho ⊢
  match k, hlt with
  | 0, _ =>
    subst ho
    exact eqvE_refl _
  | 1, _ =>
    rw [if_pos rfl] at ho
    refine ifB_intro (fun h2 => ?_) (fun h2 => ?_)
    · obtain ⟨m, rfl⟩ : ∃ m, n = m + 1 := ⟨n - 1, by have := of_decide_eq_true h2; omega⟩
      have hw : IntKind.i64.wrap (((m + 1 : Nat) : Int) - 1) = (m : Int) := by rw [i64_in (by omega) (by omega)]; omega
      refine need_intro (by rw [hw]; omega) ?_
      refine need_intro (by rw [hw, Int.toNat_natCast]; omega) ?_
      rw [hw]
      rw [if_pos (Nat.succ_pos m), Nat.add_sub_cancel] at ho
      have h4 := shl2_lt (hA m) (hA (m + 1))
      refine ifB_intro (fun h3 => ?_) (fun h3 => ?_)
      · have h3 : decide ((A m).toNat ≥ (A (m + 1)).toNat) = true := by rw [← h3]; exact decide_eq_decide.2 (by show _ ↔ (((A m).toNat : Nat) : Int) ≥ (((A (m + 1)).toNat : Nat) : Int); omega)
        rw [if_neg (fun h5 => absurd (h4.1 h5) (by have := of_decide_eq_true h3; omega))] at ho
        subst ho
        exact eqvE_refl _
      · have h3 : decide ((A m).toNat ≥ (A (m + 1)).toNat) = false := by rw [← h3]; exact decide_eq_decide.2 (by show _ ↔ (((A m).toNat : Nat) : Int) ≥ (((A (m + 1)).toNat : Nat) : Int); omega)
        rw [if_pos (h4.2 (by have := of_decide_eq_false h3; omega))] at ho
        subst ho
        refine ⟨⟨rfl, mul4 _⟩, ⟨rfl, ?_⟩, ⟨rfl, trivial⟩⟩
        exact (congrArg (fun z => IntKind.u64.wrap (z - 1)) (mul4 (A (m + 1)))).trans (sub64 _ 1#64)
    · have h0 : n = 0 := by have := of_decide_eq_false h2; omega
      subst h0
      rw [if_neg (Nat.lt_irrefl 0)] at ho
      have h4 : 0#64 < A 0 <<< 2 ↔ (0#64).toNat < (A 0).toNat := shl2_lt (a := 0#64) (by decide) (hA 0)
      refine ifB_intro (fun h3 => ?_) (fun h3 => ?_)
      · have h3 := of_decide_eq_true h3
        have h3 : (0 : Int) ≥ (((A 0).toNat : Nat) : Int) := h3
        rw [if_neg (fun h5 => absurd (h4.1 h5) (by simp only [BitVec.toNat_ofNat]; omega))] at ho
        subst ho
        exact eqvE_refl _
      · have h3 := of_decide_eq_false h3
        have h3 : ¬ (0 : Int) ≥ (((A 0).toNat : Nat) : Int) := h3
        rw [if_pos (h4.2 (by simp only [BitVec.toNat_ofNat]; omega))] at ho
        subst ho
        refine ⟨⟨rfl, by decide⟩, ⟨rfl, ?_⟩, ⟨rfl, trivial⟩⟩
        exact (congrArg (fun z => IntKind.u64.wrap (z - 1)) (mul4 (A 0))).trans (sub64 _ 1#64)
  | 2, _ =>
    rw [if_neg (by decide), if_pos rfl] at ho
    subst ho
    refine ⟨⟨rfl, mul4 _⟩, ⟨rfl, ?_⟩, ⟨rfl, trivial⟩⟩
    exact (congrArg (fun z => IntKind.u64.wrap (z + 3)) (mul4 (A n))).trans (add64 _ 3#64)
  | 3, _ =>
    rw [if_neg (by decide), if_neg (by decide), if_pos rfl] at ho
    have hAn := hA n
    refine loop_by (A := Nat) on (fun t => [(9, .s (.int .i64 (t : Int)))]) (fun _ => [.cells true (pmpSeg C A) 0]) (fun t => t ≤ 54 ∧ (A n).toNat % 2 ^ t = 2 ^ t - 1) (fun t => 54 - t) 0 ⟨by omega, Nat.mod_one _⟩ ?_ ?_
    · refine ⟨?_, eqvB_refl _, trivial⟩
      repeat' (first | exact eqvT_nil | refine eqvT_junk ?_ | refine eqvT_same ?_ | refine eqvT_int ?_ ?_)
    intro t ⟨ht, hb⟩
    have hwt : IntKind.u64.wrap (t : Int) = (t : Int) := by rw [wrap_u64, BitVec.toNat_ofInt]; omega
    repeat (refine need_intro (by first | exact fun h => h | (rw [hwt]; omega) | (simp; done) | fail) ?_)
    have hbit : (bitX .and .u64 ((wfun A (n : Int).toNat).fdiv (2 ^ min (IntKind.u64.wrap (t : Int)).toNat IntKind.u64.bits)) 1 == 1) = decide ((A n).toNat / 2 ^ t % 2 = 1) := by
      rw [hwt, Int.toNat_natCast t, show min t IntKind.u64.bits = t from Nat.min_eq_left (by show t ≤ 64; omega)]
      show (bitX .and .u64 (((A n).toNat : Int).fdiv (2 ^ t)) 1 == 1) = _
      rw [fdiv_pow, and_u64, ofInt_toNat, beq_lit _ _ (by decide) (by decide), Bool.eq_iff_iff, beq_iff_eq, decide_eq_true_iff, ← BitVec.toNat_inj, BitVec.toNat_and, BitVec.toNat_ushiftRight, Nat.shiftRight_eq_div_pow, show (BitVec.ofInt 64 1).toNat = 1 from rfl, Nat.and_one_is_mod]
    rw [hbit]
    have hmp := Nat.mod_pow_succ (x := (A n).toNat) (b := 2) (k := t)
    refine ifB_intro (fun h2 => ?_) (fun h2 => ?_)
    · have ht4 : t < 54 := by
        rcases Nat.lt_or_ge t 54 with h | h
        · exact h
        · rw [decide_eq_false (by omega)] at h2; cases h2
      have hb1 : (A n).toNat / 2 ^ t % 2 = 1 := by
        rw [decide_eq_true (by omega)] at h2
        exact of_decide_eq_true h2
      have h0 : 0 < 2 ^ t := Nat.pow_pos (by decide)
      refine ⟨t + 1, ⟨by omega, ?_⟩, by simp only; omega, ?_⟩
      · rw [hmp, hb, hb1, Nat.pow_succ]; omega
      refine ⟨?_, eqvB_refl _, trivial⟩
      repeat' (first | exact eqvT_nil | refine eqvT_junk ?_ | refine eqvT_same ?_ | refine eqvT_int ?_ ?_)
      rw [i64_in (by omega) (by omega)]; omega
    · refine ifB_intro (fun h3 => ?_) (fun h3 => ?_)
      · have h3 : t = 54 := by have := eq_of_beq h3; omega
        subst h3
        rw [Nat.mod_eq_of_lt hAn] at hb
        have hAe : A n = addrBits := BitVec.eq_of_toNat_eq hb
        rw [if_pos hAe] at ho
        subst ho
        exact eqvE_refl _
      · have h3 : t < 54 := by
          have := ne_of_beq_false h3
          omega
        have hb0 : (A n).toNat / 2 ^ t % 2 = 0 := by
          rw [decide_eq_true (by omega)] at h2
          have := of_decide_eq_false h2
          omega
        rw [hb0, Nat.mul_zero, Nat.add_zero, hb] at hmp
        have hne : ¬ A n = addrBits := by
          intro e
          rw [e] at hb0
          have : ∀ t, t < 54 → ¬ addrBits.toNat / 2 ^ t % 2 = 0 := by decide
          exact this t h3 hb0
        rw [if_neg hne] at ho
        obtain ⟨e1, e2⟩ := napot_nat h3 hmp hAn
        refine loop_by (A := Nat) on (fun k => [(10, .s (.int .u64 ((8 * 2 ^ k : Nat) : Int))), (11, .s (.int .i64 (k : Int)))]) (fun _ => [.cells true (pmpSeg C A) 0]) (fun k => k ≤ t) (fun k => t - k) 0 (Nat.zero_le _) ?_ ?_
        · refine ⟨?_, eqvB_refl _, trivial⟩
          repeat' (first | exact eqvT_nil | refine eqvT_junk ?_ | refine eqvT_same ?_ | refine eqvT_int ?_ ?_)
        intro k hk
        refine ifB_intro (fun h4 => ?_) (fun h4 => ?_)
        · have hkt : k < t := by have := of_decide_eq_true h4; omega
          refine ⟨k + 1, hkt, by simp only; omega, ?_⟩
          have hp : 2 ^ k ≤ 2 ^ 53 := Nat.pow_le_pow_right (by decide) (by omega)
          refine ⟨?_, eqvB_refl _, trivial⟩
          repeat' (first | exact eqvT_nil | refine eqvT_junk ?_ | refine eqvT_same ?_ | refine eqvT_int ?_ ?_)
          · rw [wrap_u64, BitVec.toNat_ofInt, Nat.pow_succ]; omega
          · rw [i64_in (by omega) (by omega)]; omega
        · have hkt : k = t := by have := of_decide_eq_false h4; omega
          subst hkt
          have hp : 2 ^ k ≤ 2 ^ 53 := Nat.pow_le_pow_right (by decide) (by omega)
          have hp0 : 0 < 2 ^ k := Nat.pow_pos (by decide)
          refine need_intro (by omega) ?_
          subst ho
          have f0 : IntKind.u64.wrap (4 * wfun A (n : Int).toNat) = ((4 * (A n).toNat : Nat) : Int) := by
            show IntKind.u64.wrap (4 * (((A n).toNat : Nat) : Int)) = _
            rw [wrap_u64, BitVec.toNat_ofInt]; omega
          rw [f0]
          generalize hq : 4 * (A n).toNat / (8 * 2 ^ k) = q at e1 e2
          have hd : ((4 * (A n).toNat : Nat) : Int).tdiv ((8 * 2 ^ k : Nat) : Int) = (q : Int) := by rw [← hq]; rfl
          have hq1 : q * (8 * 2 ^ k) ≤ 4 * (A n).toNat := by rw [← hq]; exact Nat.div_mul_le_self _ _
          have hq2 : q ≤ 4 * (A n).toNat := by rw [← hq]; exact Nat.div_le_self _ _
          have g1 : IntKind.u64.wrap (IntKind.u64.wrap (((4 * (A n).toNat : Nat) : Int).tdiv ((8 * 2 ^ k : Nat) : Int)) * ((8 * 2 ^ k : Nat) : Int)) = ((q * (8 * 2 ^ k) : Nat) : Int) := by
            rw [hd, wnat (by omega), ← Int.natCast_mul, wnat (by omega)]
          have g2 : IntKind.u64.wrap (((8 * 2 ^ k : Nat) : Int) - 1) = ((8 * 2 ^ k - 1 : Nat) : Int) := by
            rw [show ((8 * 2 ^ k : Nat) : Int) - 1 = ((8 * 2 ^ k - 1 : Nat) : Int) by omega, wnat (by omega)]
          have hlt2 := ((A n &&& ~~~((A n &&& ~~~(A n + 1#64)) <<< 1 ||| 1#64)) <<< 2 + (((A n &&& ~~~(A n + 1#64)) <<< 1 ||| 1#64) <<< 2 ||| 3#64)).isLt
          rw [e2] at hlt2
          refine ⟨⟨rfl, ?_⟩, ⟨rfl, ?_⟩, ⟨rfl, trivial⟩⟩
          · rw [g1, e1]
          · rw [g1, g2, e2, ← Int.natCast_add, wnat hlt2]
end Go.Proofs.YtghcdkpgcanpgaaGreat

/- Memory protection: which entry counts for an access; is a byte granted; the program's and the document's. No condition. -/
namespace Go.Anv
open Go
def inS : Option (B64 × B64) → B64 → Bool
  | none, _ => false
  | some (lo, hi), a => decide (lo ≤ a) && decide (a ≤ hi)
def cntS (S : Option (B64 × B64)) (a : B64) : Nat → Nat
  | 0 => 0
  | k + 1 => cntS S a k + (if inS S (a + BitVec.ofNat 64 k) = true then 1 else 0)
theorem cntS_le (S : Option (B64 × B64)) (a : B64) : ∀ k, cntS S a k ≤ k
  | 0 => Nat.le_refl _
  | k + 1 => by
    have := cntS_le S a k
    simp only [cntS]
    split <;> omega
theorem cntS_none (a : B64) : ∀ k, cntS none a k = 0
  | 0 => rfl
  | k + 1 => by simp only [cntS, cntS_none a k, inS]; rfl
/-- The first place from i on, k places long, at which f tells something. -/
def firstFrom {β : Type} (f : Nat → Option β) : Nat → Nat → Option β
  | 0, _ => none
  | k + 1, i => match f i with
    | some r => some r
    | none => firstFrom f k (i + 1)
def mtF (cfg : Nat → B8) (addr : Nat → B64) (a : B64) (n i : Nat) : Option (Nat × Bool) := if 0 < cntS (spanI cfg addr (i : Int)) a n then some (i, cntS (spanI cfg addr (i : Int)) a n == n) else none
def matchI (cfg : Nat → B8) (addr : Nat → B64) (a : B64) (size : Int) : Option (Nat × Bool) := if size < 1 ∨ 8 < size then none else firstFrom (mtF cfg addr a size.toNat) 16 0
def matchE : Option (Nat × Bool) → EV
  | none => .tuple [.s (.int .i64 (-1)), .s (.bool false)]
  | some (i, b) => .tuple [.s (.int .i64 (i : Int)), .s (.bool b)]
theorem matchE_noPtr (o : Option (Nat × Bool)) : noPtr (matchE o) = true := by rcases o with _ | ⟨i, b⟩ <;> rfl
theorem first_at {β : Type} {f : Nat → Option β} {k i : Nat} : firstFrom f (k + 1) i = (match f i with | some r => some r | none => firstFrom f k (i + 1)) := rfl
theorem firstFrom_lt {β : Type} {f : Nat → Option β} {P : β → Prop} (hf : ∀ i r, f i = some r → P r) : ∀ {k i : Nat} {r : β}, firstFrom f k i = some r → P r
  | 0, _, _, h => by cases h
  | k + 1, i, r, h => by
    rw [first_at] at h
    cases hi : f i with
    | some q => rw [hi] at h; simp only [Option.some.injEq] at h; subst h; exact hf i q hi
    | none => rw [hi] at h; exact firstFrom_lt hf h
theorem addk {a : B64} {k : Nat} (h : k < 2 ^ 64) : IntKind.u64.wrap ((a.toNat : Int) + IntKind.u64.wrap (k : Int)) = ((a + BitVec.ofNat 64 k).toNat : Int) := by
  rw [wnat h]
  have e : (k : Int) = ((BitVec.ofNat 64 k).toNat : Int) := by rw [BitVec.toNat_ofNat, Nat.mod_eq_of_lt h]
  rw [e, add64]
theorem int_beq (a b : Nat) : ((a : Int) == (b : Int)) = (a == b) := by
  rw [Bool.eq_iff_iff, beq_iff_eq, beq_iff_eq]; omega
theorem cond_and (a b : Bool) : (bif a then b else false) = (a && b) := by cases a <;> rfl
theorem mtF_lt {cfg : Nat → B8} {addr : Nat → B64} {a : B64} {n i : Nat} {r : Nat × Bool} (h : mtF cfg addr a n i = some r) : r.1 = i := by
  unfold mtF at h
  split at h
  · simp only [Option.some.injEq] at h; subst h; rfl
  · cases h
theorem first_lt {cfg : Nat → B8} {addr : Nat → B64} {a : B64} {n : Nat} : ∀ {k i : Nat} {r : Nat × Bool}, firstFrom (mtF cfg addr a n) k i = some r → r.1 < i + k
  | 0, _, _, h => by cases h
  | k + 1, i, r, h => by
    rw [first_at] at h
    cases hi : mtF cfg addr a n i with
    | some q => rw [hi] at h; simp only [Option.some.injEq] at h; subst h; have := mtF_lt hi; omega
    | none => rw [hi] at h; have := first_lt h; omega
theorem match_lt {cfg : Nat → B8} {addr : Nat → B64} {a : B64} {size : Int} {i : Nat} {b : Bool} (h : matchI cfg addr a size = some (i, b)) : i < 16 := by
  unfold matchI at h
  split at h
  · cases h
  · have := first_lt h; simpa using this
/-- Has a byte's entry one of these bits? -/
def grantI (cfg : Nat → B8) (addr : Nat → B64) (a : B64) (bits : Int) : Bool := match matchI (fun j => cfgOf (cfg j)) (fun j => addr j &&& addrBits) a 1 with
  | none => false
  | some (i, _) => bitX .and .i64 (bitX .and .i64 (IntKind.i64.wrap (bfun (fun j => cfgOf (cfg j)) i)) bits) 7 != 0
/-- Arguments that no access has. -/
def badI (mode size bits : Int) : Bool :=
  bif bif bif bif bif mode != 0 then mode != 3 else false then true else decide (size < 1) then true else decide (size > 8) then true else decide (bits < 1) then true else decide (bits > 7)
/-- Does an access pass? -/
def checkI (cfg : Nat → B8) (addr : Nat → B64) (mode : Int) (a : B64) (size bits : Int) : Bool :=
  if badI mode size bits = true then false else
  match matchI (fun j => cfgOf (cfg j)) (fun j => addr j &&& addrBits) a size with
  | none => mode == 3
  | some (i, all) => if all = false then false else if (mode == 3 && (cfgOf (cfg i)).getLsbD 7 == false) = true then true else bitX .and .i64 (IntKind.i64.wrap (bfun (fun j => cfgOf (cfg j)) i)) bits == bits
def lockA (cfg : Nat → B8) (i : Nat) : Bool := (cfg i).getLsbD 7
def lockT (cfg : Nat → B8) (i : Nat) : Bool := i < 15 && (cfg (i + 1)).getLsbD 7 && kindOf (cfg (i + 1)) == 1
theorem nt {b : Bool} (h : b = false) : (!b) = true := by rw [h]; rfl
theorem lock_bit (c : B8) : (bitX .and .u8 (c.toNat : Int) 128 == 0) = !c.getLsbD 7 := by
  rw [and_u8, ofInt_toNat, beq_lit _ _ (by decide) (by decide)]
  revert c; decide
theorem lock_bne (c : B8) : (bitX .and .u8 (c.toNat : Int) 128 != 0) = c.getLsbD 7 := by rw [bne, lock_bit, Bool.not_not]
end Go.Anv
namespace Go.Proofs.YtghcdkpgcanpgaaGreat
open Go Go.Anv
set_option maxRecDepth 100000 in
theorem match_spec (cfg : Nat → B8) (addr : Nat → B64) (a : B64) (size : Int) (h : List Blk) : Does TB 90 [.agg (pmpSeg cfg addr), .s (.int .u64 a.toNat), .s (.int .i64 size)] h (fun v h' => v = matchE (matchI cfg addr a size) ∧ h' = h) := by
  refine fnX_pure TB Tryz.func90 rfl (by decide) rfl _ (matchE_noPtr _) (fun O on => ?_) h
  repeat (refine need_intro (by first | exact fun h => h | (simp; done) | fail) ?_)
  refine ifB_intro (fun h1 => ?_) (fun h1 => ?_)
  · have : size < 1 ∨ 8 < size := by
      by_cases hi : size < 1
      · exact .inl hi
      · rw [decide_eq_false hi] at h1
        exact .inr (of_decide_eq_true h1)
    rw [matchI, if_pos this]
    exact eqvE_refl _
  have hi : 1 ≤ size ∧ size ≤ 8 := by
    by_cases hi : size < 1
    · rw [decide_eq_true hi] at h1; cases h1
    · rw [decide_eq_false hi] at h1
      have := of_decide_eq_false h1
      omega
  obtain ⟨n, rfl⟩ : ∃ n : Nat, size = (n : Int) := ⟨size.toNat, by omega⟩
  rw [matchI, if_neg (by omega), Int.toNat_natCast]
  generalize ho : firstFrom (mtF cfg addr a n) 16 0 = o
  refine loop_by (A := Nat) on (fun i => [(21, .s (.int .i64 (i : Int)))]) (fun _ => [.cells true (pmpSeg cfg addr) 0]) (fun i => i ≤ 16 ∧ firstFrom (mtF cfg addr a n) (16 - i) i = o) (fun i => 16 - i) 0 ⟨by omega, ho⟩ ?_ ?_
  · refine ⟨?_, eqvB_refl _, trivial⟩
    repeat' (first | exact eqvT_nil | refine eqvT_junk ?_ | refine eqvT_same ?_ | refine eqvT_int ?_ ?_)
  intro i ⟨hi16, hf⟩
  refine ifB_intro (fun h2 => ?_) (fun h2 => ?_)
  · have hlt : i < 16 := by have := of_decide_eq_true h2; omega
    rw [show 16 - i = (16 - (i + 1)) + 1 by omega, first_at] at hf
    refine (span_spec cfg addr (i : Int) _).mono ?_
    rintro _ _ ⟨rfl, rfl⟩
    have next : ∀ {P : Prop}, mtF cfg addr a n i = none → (firstFrom (mtF cfg addr a n) (16 - (i + 1)) (i + 1) = o → P) → P := fun h1 h2 => h2 (by rw [h1] at hf; exact hf)
    cases hs : spanI cfg addr (i : Int) with
    | none =>
      refine next (by unfold mtF; rw [hs, cntS_none]; rfl) (fun hf => ?_)
      refine ⟨i + 1, ⟨hlt, hf⟩, by simp only; omega, ?_⟩
      refine ⟨?_, eqvB_refl _, trivial⟩
      repeat' (first | exact eqvT_nil | refine eqvT_junk ?_ | refine eqvT_same ?_ | refine eqvT_int ?_ ?_)
      rw [i64_in (by omega) (by omega)]; omega
    | some p =>
      obtain ⟨lo, up⟩ := p
      refine loop_by (A := Nat) on (fun k => [(12, .s (.int .i64 ((cntS (some (lo, up)) a k : Nat) : Int))), (34, .s (.int .i64 (k : Int)))]) (fun _ => [.cells true (pmpSeg cfg addr) 0]) (fun k => k ≤ n) (fun k => n - k) 0 (Nat.zero_le _) ?_ ?_
      · refine ⟨?_, eqvB_refl _, trivial⟩
        repeat' (first | exact eqvT_nil | refine eqvT_junk ?_ | refine eqvT_same ?_ | refine eqvT_int ?_ ?_)
      intro k hk
      have hc := cntS_le (some (lo, up)) a k
      refine ifB_intro (fun h3 => ?_) (fun h3 => ?_)
      · have hkn : k < n := by have := of_decide_eq_true h3; omega
        repeat (refine need_intro (by first | exact fun h => h | (simp; done) | fail) ?_)
        have hcond : (bif decide (IntKind.u64.wrap ((a.toNat : Int) + IntKind.u64.wrap (k : Int)) ≥ (lo.toNat : Int)) then decide (IntKind.u64.wrap ((a.toNat : Int) + IntKind.u64.wrap (k : Int)) ≤ (up.toNat : Int)) else false) = inS (some (lo, up)) (a + BitVec.ofNat 64 k) := by
          rw [addk (by omega), ge_nat, le_nat]
          exact cond_and _ _
        rw [hcond]
        refine ifB_intro (fun h4 => ?_) (fun h4 => ?_)
        · refine ⟨k + 1, hkn, by simp only; omega, ?_⟩
          refine ⟨?_, eqvB_refl _, trivial⟩
          repeat' (first | exact eqvT_nil | refine eqvT_junk ?_ | refine eqvT_same ?_ | refine eqvT_int ?_ ?_)
          · rw [i64_in (by omega) (by omega), cntS, if_pos h4]; omega
          · rw [i64_in (by omega) (by omega)]; omega
        · refine ⟨k + 1, hkn, by simp only; omega, ?_⟩
          refine ⟨?_, eqvB_refl _, trivial⟩
          repeat' (first | exact eqvT_nil | refine eqvT_junk ?_ | refine eqvT_same ?_ | refine eqvT_int ?_ ?_)
          · rw [cntS, if_neg (by rw [h4]; decide)]; omega
          · rw [i64_in (by omega) (by omega)]; omega
      · have hkn : k = n := by have := of_decide_eq_false h3; omega
        subst hkn
        refine ifB_intro (fun h4 => ?_) (fun h4 => ?_)
        · have h4 : 0 < cntS (some (lo, up)) a k := by have := of_decide_eq_true h4; omega
          have e : mtF cfg addr a k i = some (i, cntS (some (lo, up)) a k == k) := by unfold mtF; rw [hs, if_pos h4]
          rw [e] at hf
          have hf : some (i, cntS (some (lo, up)) a k == k) = o := hf
          subst hf
          refine ⟨⟨rfl, rfl⟩, ⟨?_, trivial⟩⟩
          exact int_beq _ _
        · have h4 : ¬ 0 < cntS (some (lo, up)) a k := by have := of_decide_eq_false h4; omega
          refine next (by unfold mtF; rw [hs, if_neg h4]) (fun hf => ?_)
          refine ⟨i + 1, ⟨hlt, hf⟩, by simp only; omega, ?_⟩
          refine ⟨?_, eqvB_refl _, trivial⟩
          repeat' (first | exact eqvT_nil | refine eqvT_junk ?_ | refine eqvT_same ?_ | refine eqvT_int ?_ ?_)
          rw [i64_in (by omega) (by omega)]; omega
  · have h2 : i = 16 := by have := of_decide_eq_false h2; omega
    subst h2
    have hf : none = o := hf
    subst hf
    exact eqvE_refl _
theorem holds_spec (cfg : Nat → B8) (addr : Nat → B64) (i : Int) (a : B64) (h : List Blk) : Does TB 111 [.agg (pmpSeg cfg addr), .s (.int .i64 i), .s (.int .u64 a.toNat)] h (fun v h' => v = .s (.bool (inS (spanI cfg addr i) a)) ∧ h' = h) := by
  refine fnX_pure TB Tryz.func111 rfl (by decide) rfl _ rfl (fun O on => ?_) h
  refine (rspan_spec cfg addr i _).mono ?_
  rintro _ _ ⟨rfl, rfl⟩
  cases hs : spanI cfg addr i with
  | none =>
    repeat (refine need_intro (by first | exact fun h => h | (simp; done) | fail) ?_)
    exact rfl
  | some p =>
    obtain ⟨lo, up⟩ := p
    repeat (refine need_intro (by first | exact fun h => h | (simp; done) | fail) ?_)
    show (bif (bif true then decide (((lo.toNat : Nat) : Int) ≤ ((a.toNat : Nat) : Int)) else false) then decide (((a.toNat : Nat) : Int) ≤ ((up.toNat : Nat) : Int)) else false) = (decide (lo ≤ a) && decide (a ≤ up))
    rw [le_nat, le_nat]
    exact cond_and _ _
set_option maxRecDepth 100000 in
theorem rmatch_spec (cfg : Nat → B8) (addr : Nat → B64) (a : B64) (size : Int) (h : List Blk) : Does TB 102 [.agg (pmpSeg cfg addr), .s (.int .u64 a.toNat), .s (.int .i64 size)] h (fun v h' => v = matchE (matchI cfg addr a size) ∧ h' = h) := by
  refine fnX_pure TB Tryz.func102 rfl (by decide) rfl _ (matchE_noPtr _) (fun O on => ?_) h
  repeat (refine need_intro (by first | exact fun h => h | (simp; done) | fail) ?_)
  refine ifB_intro (fun h1 => ?_) (fun h1 => ?_)
  · have : size < 1 ∨ 8 < size := by
      by_cases hi : size < 1
      · exact .inl hi
      · rw [decide_eq_false hi] at h1
        exact .inr (of_decide_eq_true h1)
    rw [matchI, if_pos this]
    exact eqvE_refl _
  have hi : 1 ≤ size ∧ size ≤ 8 := by
    by_cases hi : size < 1
    · rw [decide_eq_true hi] at h1; cases h1
    · rw [decide_eq_false hi] at h1
      have := of_decide_eq_false h1
      omega
  obtain ⟨n, rfl⟩ : ∃ n : Nat, size = (n : Int) := ⟨size.toNat, by omega⟩
  rw [matchI, if_neg (by omega), Int.toNat_natCast]
  generalize ho : firstFrom (mtF cfg addr a n) 16 0 = o
  refine loop_by (A := Nat) on (fun i => [(8, .s (.int .i64 (i : Int)))]) (fun _ => [.cells true (pmpSeg cfg addr) 0]) (fun i => i ≤ 16 ∧ firstFrom (mtF cfg addr a n) (16 - i) i = o) (fun i => 16 - i) 0 ⟨by omega, ho⟩ ?_ ?_
  · refine ⟨?_, eqvB_refl _, trivial⟩
    repeat' (first | exact eqvT_nil | refine eqvT_junk ?_ | refine eqvT_same ?_ | refine eqvT_int ?_ ?_)
  intro i ⟨hi16, hf⟩
  refine ifB_intro (fun h2 => ?_) (fun h2 => ?_)
  · have hlt : i < 16 := by have := of_decide_eq_true h2; omega
    rw [show 16 - i = (16 - (i + 1)) + 1 by omega, first_at] at hf
    have next : ∀ {P : Prop}, mtF cfg addr a n i = none → (firstFrom (mtF cfg addr a n) (16 - (i + 1)) (i + 1) = o → P) → P := fun h1 h2 => h2 (by rw [h1] at hf; exact hf)
    refine loop_by (A := Nat) on (fun k => [(9, .s (.int .i64 ((cntS (spanI cfg addr (i : Int)) a k : Nat) : Int))), (10, .s (.int .i64 (k : Int)))]) (fun _ => [.cells true (pmpSeg cfg addr) 0]) (fun k => k ≤ n) (fun k => n - k) 0 (Nat.zero_le _) ?_ ?_
    · refine ⟨?_, eqvB_refl _, trivial⟩
      repeat' (first | exact eqvT_nil | refine eqvT_junk ?_ | refine eqvT_same ?_ | refine eqvT_int ?_ ?_)
    intro k hk
    have hc := cntS_le (spanI cfg addr (i : Int)) a k
    refine ifB_intro (fun h3 => ?_) (fun h3 => ?_)
    · have hkn : k < n := by have := of_decide_eq_true h3; omega
      refine Does.args (b := [_, _, .s (.int .u64 ((a + BitVec.ofNat 64 k).toNat : Int))]) ⟨eqvE_refl _, eqvE_refl _, ⟨rfl, addk (by omega)⟩, trivial⟩ ?_
      refine (holds_spec cfg addr (i : Int) (a + BitVec.ofNat 64 k) _).mono ?_
      rintro _ _ ⟨rfl, rfl⟩
      refine ifB_intro (fun h4 => ?_) (fun h4 => ?_)
      · refine ⟨k + 1, hkn, by simp only; omega, ?_⟩
        refine ⟨?_, eqvB_refl _, trivial⟩
        repeat' (first | exact eqvT_nil | refine eqvT_junk ?_ | refine eqvT_same ?_ | refine eqvT_int ?_ ?_)
        · rw [i64_in (by omega) (by omega), cntS, if_pos h4]; omega
        · rw [i64_in (by omega) (by omega)]; omega
      · refine ⟨k + 1, hkn, by simp only; omega, ?_⟩
        refine ⟨?_, eqvB_refl _, trivial⟩
        repeat' (first | exact eqvT_nil | refine eqvT_junk ?_ | refine eqvT_same ?_ | refine eqvT_int ?_ ?_)
        · rw [cntS, if_neg (by rw [h4]; decide)]; omega
        · rw [i64_in (by omega) (by omega)]; omega
    · have hkn : k = n := by have := of_decide_eq_false h3; omega
      subst hkn
      refine ifB_intro (fun h4 => ?_) (fun h4 => ?_)
      · have h4 : 0 < cntS (spanI cfg addr (i : Int)) a k := by have := of_decide_eq_true h4; omega
        have e : mtF cfg addr a k i = some (i, cntS (spanI cfg addr (i : Int)) a k == k) := by unfold mtF; rw [if_pos h4]
        rw [e] at hf
        have hf : some (i, cntS (spanI cfg addr (i : Int)) a k == k) = o := hf
        subst hf
        refine ⟨⟨rfl, rfl⟩, ⟨?_, trivial⟩⟩
        exact int_beq _ _
      · have h4 : ¬ 0 < cntS (spanI cfg addr (i : Int)) a k := by have := of_decide_eq_false h4; omega
        refine next (by unfold mtF; rw [if_neg h4]) (fun hf => ?_)
        refine ⟨i + 1, ⟨hlt, hf⟩, by simp only; omega, ?_⟩
        refine ⟨?_, eqvB_refl _, trivial⟩
        repeat' (first | exact eqvT_nil | refine eqvT_junk ?_ | refine eqvT_same ?_ | refine eqvT_int ?_ ?_)
        rw [i64_in (by omega) (by omega)]; omega
  · have h2 : i = 16 := by have := of_decide_eq_false h2; omega
    subst h2
    have hf : none = o := hf
    subst hf
    exact eqvE_refl _
theorem granted_spec (cfg : Nat → B8) (addr : Nat → B64) (a : B64) (bits : Int) (h : List Blk) : Does TB 42 [.agg (pmpSeg cfg addr), .s (.int .u64 a.toNat), .s (.int .i64 bits)] h (fun v h' => v = .s (.bool (grantI cfg addr a bits)) ∧ h' = h) := by
  refine fnX_pure TB Tryz.func42 rfl (by decide) rfl _ rfl (fun O on => ?_) h
  refine (properP_spec cfg addr _).mono ?_
  rintro _ _ ⟨rfl, rfl⟩
  refine need_intro rfl ?_
  refine (match_spec _ _ a 1 _).mono ?_
  rintro _ _ ⟨rfl, rfl⟩
  unfold grantI
  generalize hm : matchI (fun j => cfgOf (cfg j)) (fun j => addr j &&& addrBits) a 1 = m
  cases m with
  | none =>
    repeat (refine need_intro (by first | exact fun h => h | (simp; done) | fail) ?_)
    exact rfl
  | some p =>
    obtain ⟨i, b⟩ := p
    have hi := match_lt hm
    repeat (refine need_intro (by first | exact fun h => h | exact fun _ => (by omega) | exact fun _ => ⟨by omega, by omega⟩ | (simp; done) | fail) ?_)
    show (bif decide (((i : Nat) : Int) ≥ 0) then _ else false) = _
    rw [decide_eq_true (show ((i : Nat) : Int) ≥ 0 by omega)]
    rfl
theorem rgranted_spec (cfg : Nat → B8) (addr : Nat → B64) (a : B64) (bits : Int) (h : List Blk) : Does TB 77 [.agg (pmpSeg cfg addr), .s (.int .u64 a.toNat), .s (.int .i64 bits)] h (fun v h' => v = .s (.bool (grantI cfg addr a bits)) ∧ h' = h) := by
  refine fnX_pure TB Tryz.func77 rfl (by decide) rfl _ rfl (fun O on => ?_) h
  refine (rproperP_spec cfg addr _).mono ?_
  rintro _ _ ⟨rfl, rfl⟩
  refine need_intro rfl ?_
  refine (rmatch_spec _ _ a 1 _).mono ?_
  rintro _ _ ⟨rfl, rfl⟩
  unfold grantI
  generalize hm : matchI (fun j => cfgOf (cfg j)) (fun j => addr j &&& addrBits) a 1 = m
  cases m with
  | none =>
    repeat (refine need_intro (by first | exact fun h => h | (simp; done) | fail) ?_)
    exact rfl
  | some p =>
    obtain ⟨i, b⟩ := p
    have hi := match_lt hm
    repeat (refine need_intro (by first | exact fun h => h | exact fun _ => (by omega) | exact fun _ => ⟨by omega, by omega⟩ | (simp; done) | fail) ?_)
    show (bif decide (((i : Nat) : Int) ≥ 0) then _ else false) = _
    rw [decide_eq_true (show ((i : Nat) : Int) ≥ 0 by omega)]
    rfl
theorem pcheck_spec (cfg : Nat → B8) (addr : Nat → B64) (mode : Int) (a : B64) (size bits : Int) (h : List Blk) : Does TB 72 [.agg (pmpSeg cfg addr), .s (.int .i64 mode), .s (.int .u64 a.toNat), .s (.int .i64 size), .s (.int .i64 bits)] h (fun v h' => v = .s (.bool (checkI cfg addr mode a size bits)) ∧ h' = h) := by
  refine fnX_pure TB Tryz.func72 rfl (by decide) rfl _ rfl (fun O on => ?_) h
  repeat (refine need_intro (by first | exact fun h => h | exact nt | (simp; done) | fail) ?_)
  unfold checkI
  refine ifB_intro (fun h1 => ?_) (fun h1 => ?_)
  · have h1 : badI mode size bits = true := h1
    rw [if_pos h1]
    exact rfl
  have h1 : badI mode size bits = false := h1
  rw [if_neg (by rw [h1]; decide)]
  refine (properP_spec cfg addr _).mono ?_
  rintro _ _ ⟨rfl, rfl⟩
  refine need_intro rfl ?_
  refine (match_spec _ _ a size _).mono ?_
  rintro _ _ ⟨rfl, rfl⟩
  generalize hm : matchI (fun j => cfgOf (cfg j)) (fun j => addr j &&& addrBits) a size = m
  cases m with
  | none =>
    exact rfl
  | some p =>
    obtain ⟨i, b⟩ := p
    have hi := match_lt hm
    cases b with
    | false => exact rfl
    | true =>
      repeat (refine need_intro (by first | exact fun h => h | exact nt | exact fun _ => (by omega) | exact fun _ => ⟨by omega, by omega⟩ | (simp; done) | fail) ?_)
      have hc : (bif mode == 3 then bitX .and .u8 (bfun (fun j => cfgOf (cfg j)) (i : Int).toNat) 128 == 0 else false) = (mode == 3 && (cfgOf (cfg i)).getLsbD 7 == false) := by
        have e : (bitX .and .u8 (bfun (fun j => cfgOf (cfg j)) (i : Int).toNat) 128 == 0) = !(cfgOf (cfg i)).getLsbD 7 := lock_bit _
        rw [e, cond_and]
        cases (cfgOf (cfg i)).getLsbD 7 <;> rfl
      rw [hc]
      refine ifB_intro (fun h2 => ?_) (fun h2 => ?_)
      · show true = if true = false then false else if (mode == 3 && (cfgOf (cfg i)).getLsbD 7 == false) = true then true else _
        rw [if_pos h2]; rfl
      · repeat (refine need_intro (by first | omega | exact ⟨by omega, by omega⟩ | fail) ?_)
        show _ = if true = false then false else if (mode == 3 && (cfgOf (cfg i)).getLsbD 7 == false) = true then true else _
        rw [h2]; rfl
theorem plocked_spec (cfg : Nat → B8) (addr : Nat → B64) (i : Nat) (hi : i < 16) (h : List Blk) : Does TB 97 [.agg (pmpSeg cfg addr), .s (.int .i64 (i : Int))] h (fun v h' => v = .tuple [.s (.bool (lockA cfg i)), .s (.bool (lockA cfg i || lockT cfg i))] ∧ h' = h) := by
  refine fnX_pure TB Tryz.func97 rfl (by decide) rfl _ rfl (fun O on => ?_) h
  repeat (refine need_intro (by first | exact fun h => h | exact nt | (simp; done) | fail) ?_)
  refine ifB_intro (fun h1 => absurd h1 (by rw [decide_eq_false (show ¬ ((i : Nat) : Int) < 0 by omega), decide_eq_false (show ¬ ((i : Nat) : Int) > 15 by omega)]; decide)) (fun h1 => ?_)
  rcases Nat.lt_or_ge i 15 with h15 | h15
  · have hw : IntKind.i64.wrap ((i : Int) + 1) = ((i + 1 : Nat) : Int) := by rw [i64_in (by omega) (by omega)]; omega
    repeat (refine need_intro (by first | omega | exact ⟨by omega, by omega⟩ | exact fun h => h | exact nt | (intro _; rw [hw]; omega) | (intro _; rw [hw, Int.toNat_natCast]; omega) | (simp; done) | fail) ?_)
    have hc : (bif decide ((i : Int) < 15) then bitX .and .u8 (bfun cfg (IntKind.i64.wrap ((i : Int) + 1)).toNat) 128 != 0 else false) = (cfg (i + 1)).getLsbD 7 := by
      rw [hw, Int.toNat_natCast, decide_eq_true (by omega)]
      exact lock_bne _
    have hT : lockT cfg i = ((cfg (i + 1)).getLsbD 7 && kindOf (cfg (i + 1)) == 1) := by
      unfold lockT; rw [decide_eq_true h15]; rfl
    have hA : (bitX .and .u8 (bfun cfg (i : Int).toNat) 128 != 0) = lockA cfg i := lock_bne _
    refine ifB_intro (fun h2 => ?_) (fun h2 => ?_)
    · refine Does.ungd (b := [.s (.int .u8 ((cfg (i + 1)).toNat : Int))]) ⟨⟨h2, ?_⟩, trivial⟩ ?_
      · rw [hw, Int.toNat_natCast]; rfl
      refine (kind_spec (cfg (i + 1)) _).mono ?_
      rintro _ _ ⟨rfl, rfl⟩
      repeat (refine need_intro (by first | exact fun h => h | exact nt | (simp; done) | fail) ?_)
      refine ⟨hA, ?_, trivial⟩
      show (bif (bitX .and .u8 (bfun cfg (i : Int).toNat) 128 != 0) then true else bif (bif decide ((i : Int) < 15) then bitX .and .u8 (bfun cfg (IntKind.i64.wrap ((i : Int) + 1)).toNat) 128 != 0 else false) then ((kindOf (cfg (i + 1)) : Nat) : Int) == ((1 : Nat) : Int) else false) = (lockA cfg i || lockT cfg i)
      rw [hA, hc, hT, cond_and, int_beq]
      cases lockA cfg i <;> rfl
    · refine ifB_intro (fun h => absurd (h.symm.trans h2) (by decide)) (fun _ => ?_)
      repeat (refine need_intro (by first | exact fun h => h | exact nt | exact h2 | (simp; done) | fail) ?_)
      rw [hc] at h2
      refine ⟨hA, ?_, trivial⟩
      have hf : lockT cfg i = false := by rw [hT, h2]; rfl
      rw [hf]
      show (bif (bitX .and .u8 (bfun cfg (i : Int).toNat) 128 != 0) then true else false) = (lockA cfg i || false)
      rw [hA]
      cases lockA cfg i <;> rfl
  · have h15 : i = 15 := by omega
    subst h15
    repeat (refine need_intro (by first | omega | exact ⟨by omega, by omega⟩ | exact fun h => h | exact nt | (simp; done) | fail) ?_)
    have hA : (bitX .and .u8 (bfun cfg ((15 : Nat) : Int).toNat) 128 != 0) = lockA cfg 15 := lock_bne _
    refine ⟨hA, ?_, trivial⟩
    show (bif (bitX .and .u8 (bfun cfg ((15 : Nat) : Int).toNat) 128 != 0) then true else false) = (lockA cfg 15 || false)
    rw [hA]
    cases lockA cfg 15 <;> rfl
end Go.Proofs.YtghcdkpgcanpgaaGreat

/- Strings of bytes compared. Plain lemmas, contracts of functions. No condition. -/
namespace Go.Anv
open Go
def eqB (n : Nat) (p q : Nat → B8) : Bool := (List.range n).all fun j => p j == q j
theorem bytesOf_list (n : Nat) (f : Nat → Int) : (bytesOf n f).data.toList = (List.range n).map fun j => UInt8.ofNat (f j).toNat := by
  have key : ∀ (l : List Int) (r : ByteArray), (l.foldl (fun r x => r.push (UInt8.ofNat x.toNat)) r).data.toList = r.data.toList ++ l.map fun x => UInt8.ofNat x.toNat := by
    intro l
    induction l with
    | nil => intro r; simp
    | cons x l ih =>
      intro r
      rw [List.foldl_cons, ih]
      obtain ⟨d⟩ := r
      simp [ByteArray.push]
  unfold bytesOf
  rw [key, List.map_map]
  rfl
theorem map_beq {α β : Type} [BEq β] (F G : α → β) : ∀ l : List α, (l.map F == l.map G) = l.all fun x => F x == G x
  | [] => rfl
  | x :: l => by
    simp only [List.map_cons, List.all_cons]
    rw [← map_beq F G l]
    rfl
theorem u8_beq (a b : B8) : (UInt8.ofNat a.toNat == UInt8.ofNat b.toNat) = (a == b) := by
  rw [Bool.eq_iff_iff, beq_iff_eq, beq_iff_eq]
  constructor
  · intro h
    have h2 := congrArg UInt8.toNat h
    simp only [UInt8.toNat_ofNat'] at h2
    have ha := a.isLt
    have hb := b.isLt
    apply BitVec.eq_of_toNat_eq
    omega
  · rintro rfl; rfl
theorem bytes_beq {n : Nat} {f g : Nat → Int} {p q : Nat → B8} (hf : ∀ j, j < n → f j = (p j).toNat) (hg : ∀ j, j < n → g j = (q j).toNat) : (bytesOf n f == bytesOf n g) = eqB n p q := by
  rw [beq_toListBytes, ByteArray.toList_eq, ByteArray.toList_eq, bytesOf_list, bytesOf_list, map_beq]
  unfold eqB
  rw [Bool.eq_iff_iff, List.all_eq_true, List.all_eq_true]
  constructor
  · intro h j hj
    have h1 := h j hj
    rw [hf j (List.mem_range.1 hj), hg j (List.mem_range.1 hj)] at h1
    rw [← u8_beq]; exact h1
  · intro h j hj
    have h1 := h j hj
    rw [hf j (List.mem_range.1 hj), hg j (List.mem_range.1 hj)]
    rw [← u8_beq] at h1; exact h1
end Go.Anv
namespace Go.Proofs.YtghcdkpgcanpgaaGreat
open Go Go.Anv
set_option maxRecDepth 100000 in
theorem equal_spec (m1 m2 : Bool) (o1 o2 n c1 c2 k1 k2 s1 s2 : Nat) (f1 f2 : Nat → Int) (p q : Nat → B8) (h1 : o1 + n ≤ k1) (h2 : o2 + n ≤ k2) (hf : ∀ j, j < n → f1 (o1 + j) = (p j).toNat) (hg : ∀ j, j < n → f2 (o2 + j) = (q j).toNat) :
    Does TB 89 [.s (.gs 0 o1 n c1), .s (.gs 1 o2 n c2)] [.cells m1 [.ints .u8 k1 f1] s1, .cells m2 [.ints .u8 k2 f2] s2] (fun v h' => v = .s (.bool (eqB n p q)) ∧ h' = [.cells m1 [.ints .u8 k1 f1] s1, .cells m2 [.ints .u8 k2 f2] s2]) := by
  refine fnX_does TB Tryz.func89 rfl (by decide) (fun O on hO => ?_)
  refine need_intro h1 ?_
  refine need_intro h2 ?_
  refine ⟨_, _, [0, 1], ⟨rfl, rfl⟩, by decide, ⟨rfl, rfl, trivial⟩, ?_, ⟨⟨_, rfl, eqvB_refl _⟩, ⟨_, rfl, eqvB_refl _⟩, trivial⟩⟩
  exact bytes_beq hf hg
end Go.Proofs.YtghcdkpgcanpgaaGreat

/- Watching: two buses but for their RAM, the program's and the document's. No condition but the lists' lengths. -/
namespace Go.Anv
open Go
theorem eqB_pre {n : Nat} {p q : Nat → B8} (h : eqB n p q = true) : ∀ j, j < n → p j = q j := fun j hj => by
  unfold eqB at h
  exact eq_of_beq (List.all_eq_true.1 h j (List.mem_range.2 hj))
theorem eqB_of {n : Nat} {p q : Nat → B8} (h : ∀ j, j < n → p j = q j) : eqB n p q = true := by
  unfold eqB
  exact List.all_eq_true.2 fun j hj => beq_iff_eq.2 (h j (List.mem_range.1 hj))
theorem eqB_not {n : Nat} {p q : Nat → B8} {j : Nat} (hj : j < n) (h : p j ≠ q j) : eqB n p q = false := by
  rw [Bool.eq_false_iff]
  exact fun e => h (eqB_pre e j hj)
theorem bytesOf_len (n : Nat) (f : Nat → Int) : (bytesOf n f).data.toList.length = n := by rw [bytesOf_list]; simp
theorem bytes_beq2 {n1 n2 : Nat} (p q : Nat → B8) : (bytesOf n1 (shf 0 (bfun p)) == bytesOf n2 (shf 0 (bfun q))) = (n1 == n2 && eqB n1 p q) := by
  by_cases h : n1 = n2
  · subst h
    rw [bytes_beq (p := p) (q := q) (fun j _ => by show bfun p (0 + j) = _; rw [Nat.zero_add]; rfl) (fun j _ => by show bfun q (0 + j) = _; rw [Nat.zero_add]; rfl)]
    simp
  · rw [beq_eq_false_iff_ne.2 h, Bool.false_and, Bool.eq_false_iff]
    intro e
    have e := (MapKept.bytes_beq _ _).1 e
    have := congrArg (fun b : ByteArray => b.data.toList.length) e
    simp only [bytesOf_len] at this
    exact h this
end Go.Anv
namespace Go.Proofs.YtghcdkpgcanpgaaGreat
open Go Go.Anv
set_option maxRecDepth 100000 in
theorem bytesSame_spec (m1 m2 : Bool) (n1 n2 c1 c2 s1 s2 : Nat) (p q : Nat → B8) (h1 : n1 < 2 ^ 62) (h2 : n2 < 2 ^ 62) :
    Does TB 86 [.s (.gs 0 0 n1 c1), .s (.gs 1 0 n2 c2)] [bblk m1 n1 p s1, bblk m2 n2 q s2] (fun v h' => v = .s (.bool (n1 == n2 && eqB n1 p q)) ∧ h' = [bblk m1 n1 p s1, bblk m2 n2 q s2]) := by
  refine fnX_does TB Tryz.func86 rfl (by decide) (fun O on hO => ?_)
  have fin : ∀ {x : Bool}, x = (n1 == n2 && eqB n1 p q) → Anv.Ends 2 (fun v h' => v = .s (.bool (n1 == n2 && eqB n1 p q)) ∧ h' = [bblk m1 n1 p s1, bblk m2 n2 q s2]) (.s (.bool x)) [bblk m1 n1 p s1, bblk m2 n2 q s2] := by
    rintro x rfl
    exact ⟨_, _, [0, 1], ⟨rfl, rfl⟩, by decide, ⟨rfl, rfl, trivial⟩, eqvE_refl _, ⟨⟨_, rfl, eqvB_refl _⟩, ⟨_, rfl, eqvB_refl _⟩, trivial⟩⟩
  refine ifB_intro (fun h3 => ?_) (fun h3 => ?_)
  · have h3 : n1 ≠ n2 := by
      intro e; subst e; simp at h3
    exact fin (by rw [beq_eq_false_iff_ne.2 h3]; rfl)
  have h3 : n1 = n2 := by
    have := bne_eq_false_iff_eq.1 h3
    omega
  subst h3
  refine loop_by (A := Nat) on (fun k => [(5, .s (.int .i64 (k : Int)))]) (fun _ => [bblk m1 n1 p s1, bblk m2 n1 q s2]) (fun k => k ≤ n1 ∧ ∀ j, j < k → p j = q j) (fun k => n1 - k) 0 ⟨Nat.zero_le _, fun j hj => absurd hj (Nat.not_lt_zero j)⟩ ?_ ?_
  · refine ⟨?_, eqvB_refl _, eqvB_refl _, trivial⟩
    repeat' (first | exact eqvT_nil | refine eqvT_junk ?_ | refine eqvT_same ?_ | refine eqvT_int ?_ ?_)
  intro k ⟨hk, hp⟩
  refine ifB_intro (fun h4 => ?_) (fun h4 => ?_)
  · have hk1 : k < n1 := by have := of_decide_eq_true h4; omega
    refine draw_held on rfl (fun _ _ h => h) ?_
    repeat (refine need_intro (by first | omega | exact ⟨by omega, by omega⟩ | rfl | fail) ?_)
    have hne : (bfun p (0 + (k : Int).toNat) != bfun q (0 + (k : Int).toNat)) = (p k != q k) := by
      rw [Nat.zero_add, Int.toNat_natCast]
      exact bne_nat _ _
    refine ifB_intro (fun h5 => ?_) (fun h5 => ?_)
    · replace h5 := hne.symm.trans h5
      exact fin (by rw [eqB_not hk1 (bne_iff_ne.1 h5)]; simp)
    · replace h5 := hne.symm.trans h5
      have h5 : p k = q k := by simpa using h5
      refine ⟨k + 1, ⟨hk1, fun j hj => ?_⟩, by simp only; omega, ?_⟩
      · rcases Nat.lt_succ_iff_lt_or_eq.1 hj with h | h
        · exact hp j h
        · subst h; exact h5
      refine ⟨?_, eqvB_refl _, eqvB_refl _, trivial⟩
      repeat' (first | exact eqvT_nil | refine eqvT_junk ?_ | refine eqvT_same ?_ | refine eqvT_int ?_ ?_)
      rw [i64_in (by omega) (by omega)]; omega
  · have hk1 : k = n1 := by have := of_decide_eq_false h4; omega
    subst hk1
    exact fin (by rw [eqB_of hp]; simp)
set_option maxRecDepth 100000 in
theorem equal2_spec (m1 m2 : Bool) (n1 n2 c1 c2 s1 s2 : Nat) (p q : Nat → B8) :
    Does TB 89 [.s (.gs 0 0 n1 c1), .s (.gs 1 0 n2 c2)] [bblk m1 n1 p s1, bblk m2 n2 q s2] (fun v h' => v = .s (.bool (n1 == n2 && eqB n1 p q)) ∧ h' = [bblk m1 n1 p s1, bblk m2 n2 q s2]) := by
  refine fnX_does TB Tryz.func89 rfl (by decide) (fun O on hO => ?_)
  refine need_intro (by omega) ?_
  refine need_intro (by omega) ?_
  refine ⟨_, _, [0, 1], ⟨rfl, rfl⟩, by decide, ⟨rfl, rfl, trivial⟩, ?_, ⟨⟨_, rfl, eqvB_refl _⟩, ⟨_, rfl, eqvB_refl _⟩, trivial⟩⟩
  exact bytes_beq2 p q
end Go.Proofs.YtghcdkpgcanpgaaGreat

/- Watching: two buses but for their RAM; all of two buses. No condition but the lists' lengths. -/
namespace Go.Anv
open Go
/-- Two buses are the same but for their RAM. -/
def devS (s t : BusV) (l k : Lists) : Bool :=
  (s.ni == t.ni && eqB s.ni l.inp k.inp) && (s.no == t.no && eqB s.no l.out k.out) && s.msip == t.msip && s.cmp == t.cmp && s.now == t.now && s.ext == t.ext && s.soft == t.soft &&
    s.ier == t.ier && s.lcr == t.lcr && s.mcr == t.mcr && s.scratch == t.scratch && s.overrun == t.overrun && s.off == t.off && s.code == t.code
theorem cond_or (a b : Bool) : (bif a then true else b) = (a || b) := by cases a <;> rfl
end Go.Anv
namespace Go.Proofs.YtghcdkpgcanpgaaGreat
open Go Go.Anv
set_option maxRecDepth 100000 in
theorem sameBus_spec (s t : BusV) (l k : Lists) (c0 c1 c2 c3 c4 c5 : Nat) :
    Does TB 41 [.agg (s.segs (.gs 0 0 s.nr c0) (.gs 1 0 s.ni c1) (.gs 2 0 s.no c2)), .agg (t.segs (.gs 3 0 t.nr c3) (.gs 4 0 t.ni c4) (.gs 5 0 t.no c5))] (l.blks s ++ k.blks t) (fun v h' => v = .s (.bool (devS s t l k)) ∧ h' = l.blks s ++ k.blks t) := by
  refine fnX_does TB Tryz.func41 rfl (by decide) (fun O on hO => ?_)
  refine draw_held on rfl (fun _ _ h => h) ?_
  refine Does.at (equal2_spec l.mi k.mi s.ni t.ni c1 c4 l.si k.si l.inp k.inp) [1, 4] rfl ⟨rfl, rfl, trivial⟩ (by decide) ?_ ?_
  · rintro v h' ⟨_, rfl⟩
    exact ⟨.inr (.inr rfl), .inr (.inr rfl), trivial⟩
  rintro v h' ⟨rfl, rfl⟩
  repeat (refine need_intro (by first | exact fun h => h | exact nt | rfl | fail) ?_)
  refine Does.at (equal2_spec l.mo k.mo s.no t.no c2 c5 l.so k.so l.out k.out) [2, 5] rfl ⟨rfl, rfl, trivial⟩ (by decide) ?_ ?_
  · rintro v h' ⟨_, rfl⟩
    exact ⟨.inr (.inr rfl), .inr (.inr rfl), trivial⟩
  rintro v h' ⟨rfl, rfl⟩
  repeat (refine need_intro (by first | exact fun h => h | exact nt | rfl | (simp; done) | fail) ?_)
  refine ⟨_, _, [0, 1, 2, 3, 4, 5], ⟨rfl, rfl⟩, by decide, ⟨rfl, rfl, rfl, rfl, rfl, rfl, trivial⟩, ?_, ⟨⟨_, rfl, eqvB_refl _⟩, ⟨_, rfl, eqvB_refl _⟩, ⟨_, rfl, eqvB_refl _⟩, ⟨_, rfl, eqvB_refl _⟩, ⟨_, rfl, eqvB_refl _⟩, ⟨_, rfl, eqvB_refl _⟩, trivial⟩⟩
  show _ = devS s t l k
  unfold devS
  simp only [cond_and, beq_nat]
set_option maxRecDepth 100000 in
theorem devices_spec (s t : BusV) (l k : Lists) (c0 c1 c2 c3 c4 c5 : Nat) (h1 : s.ni < 2 ^ 62) (h2 : t.ni < 2 ^ 62) (h3 : s.no < 2 ^ 62) (h4 : t.no < 2 ^ 62) :
    Does TB 101 [.agg (s.segs (.gs 0 0 s.nr c0) (.gs 1 0 s.ni c1) (.gs 2 0 s.no c2)), .agg (t.segs (.gs 3 0 t.nr c3) (.gs 4 0 t.ni c4) (.gs 5 0 t.no c5))] (l.blks s ++ k.blks t) (fun v h' => v = .s (.bool (devS s t l k)) ∧ h' = l.blks s ++ k.blks t) := by
  refine fnX_does TB Tryz.func101 rfl (by decide) (fun O on hO => ?_)
  have fin : ∀ {x : Bool}, x = devS s t l k → ∀ {b c : Blk}, Anv.Ends 6 (fun v h' => v = .s (.bool (devS s t l k)) ∧ h' = l.blks s ++ k.blks t) (.s (.bool x)) (l.blks s ++ k.blks t ++ [b, c]) := by
    rintro x rfl b c
    exact ⟨_, _, [0, 1, 2, 3, 4, 5], ⟨rfl, rfl⟩, by decide, ⟨rfl, rfl, rfl, rfl, rfl, rfl, trivial⟩, eqvE_refl _, ⟨⟨_, rfl, eqvB_refl _⟩, ⟨_, rfl, eqvB_refl _⟩, ⟨_, rfl, eqvB_refl _⟩, ⟨_, rfl, eqvB_refl _⟩, ⟨_, rfl, eqvB_refl _⟩, ⟨_, rfl, eqvB_refl _⟩, trivial⟩⟩
  repeat (refine need_intro (by first | exact fun h => h | exact nt | rfl | (simp; done) | fail) ?_)
  refine ifB_intro (fun g1 => ?_) (fun g1 => ?_)
  · refine fin ?_
    simp only [cond_or, bne, beq_nat, Bool.or_eq_true, Bool.not_eq_true'] at g1
    rcases g1 with (((h | h) | h) | h) | h <;> simp [devS, h]
  repeat (refine need_intro (by first | exact fun h => h | exact nt | rfl | (simp; done) | fail) ?_)
  refine ifB_intro (fun g2 => ?_) (fun g2 => ?_)
  · refine fin ?_
    simp only [cond_or, bne, beq_nat, Bool.or_eq_true, Bool.not_eq_true'] at g2
    rcases g2 with (((h | h) | h) | h) | h <;> simp [devS, h]
  refine Does.at (bytesSame_spec l.mi k.mi s.ni t.ni c1 c4 l.si k.si l.inp k.inp h1 h2) [1, 4] rfl ⟨rfl, rfl, trivial⟩ (by decide) ?_ ?_
  · rintro v h' ⟨_, rfl⟩
    exact ⟨.inr (.inr rfl), .inr (.inr rfl), trivial⟩
  rintro v h' ⟨rfl, rfl⟩
  repeat (refine need_intro (by first | exact fun h => h | exact nt | rfl | (simp; done) | fail) ?_)
  simp only [cond_or, bne, beq_nat, Bool.or_eq_false_iff, Bool.not_eq_false'] at g1 g2
  obtain ⟨⟨⟨⟨a1, a2⟩, a3⟩, a4⟩, a5⟩ := g1
  obtain ⟨⟨⟨⟨a6, a7⟩, a8⟩, a9⟩, a10⟩ := g2
  refine ifB_intro (fun g3 => ?_) (fun g3 => ?_)
  · refine Does.ungd (b := [_, _]) ⟨⟨g3, rfl⟩, ⟨g3, rfl⟩, trivial⟩ ?_
    refine Does.at (bytesSame_spec l.mo k.mo s.no t.no c2 c5 l.so k.so l.out k.out h3 h4) [2, 5] rfl ⟨rfl, rfl, trivial⟩ (by decide) ?_ ?_
    · rintro v h' ⟨_, rfl⟩
      exact ⟨.inr (.inr rfl), .inr (.inr rfl), trivial⟩
    rintro v h' ⟨rfl, rfl⟩
    repeat (refine need_intro (by first | exact fun h => h | exact nt | rfl | (simp; done) | fail) ?_)
    refine fin ?_
    show _ = devS s t l k
    simp only [cond_and, devS, a1, a2, a3, a4, a5, a6, a7, a8, a9, a10, Bool.and_true]
  · repeat (refine need_intro (by first | exact g3 | exact fun h => h | exact nt | rfl | (simp; done) | fail) ?_)
    refine fin ?_
    show _ = devS s t l k
    simp only [cond_and, devS, a1, a2, a3, a4, a5, a6, a7, a8, a9, a10, Bool.and_true, g3, Bool.false_and]
end Go.Proofs.YtghcdkpgcanpgaaGreat

/- Watching: all of two buses is the same (the document's); a copy of a bus. No condition but the lists' lengths. -/
namespace Go.Anv
open Go
def busS (s t : BusV) (l k : Lists) : Bool := (s.nr == t.nr && eqB s.nr l.ram k.ram) && devS s t l k
end Go.Anv
namespace Go.Proofs.YtghcdkpgcanpgaaGreat
open Go Go.Anv
set_option maxRecDepth 100000 in
theorem rsame_spec (s t : BusV) (l k : Lists) (c0 c1 c2 c3 c4 c5 : Nat) :
    Does TB 14 [.agg (s.segs (.gs 0 0 s.nr c0) (.gs 1 0 s.ni c1) (.gs 2 0 s.no c2)), .agg (t.segs (.gs 3 0 t.nr c3) (.gs 4 0 t.ni c4) (.gs 5 0 t.no c5))] (l.blks s ++ k.blks t) (fun v h' => v = .s (.bool (busS s t l k)) ∧ h' = l.blks s ++ k.blks t) := by
  refine fnX_does TB Tryz.func14 rfl (by decide) (fun O on hO => ?_)
  have fin : ∀ {x : Bool}, x = busS s t l k → ∀ {b c : Blk}, Anv.Ends 6 (fun v h' => v = .s (.bool (busS s t l k)) ∧ h' = l.blks s ++ k.blks t) (.s (.bool x)) (l.blks s ++ k.blks t ++ [b, c]) := by
    rintro x rfl b c
    exact ⟨_, _, [0, 1, 2, 3, 4, 5], ⟨rfl, rfl⟩, by decide, ⟨rfl, rfl, rfl, rfl, rfl, rfl, trivial⟩, eqvE_refl _, ⟨⟨_, rfl, eqvB_refl _⟩, ⟨_, rfl, eqvB_refl _⟩, ⟨_, rfl, eqvB_refl _⟩, ⟨_, rfl, eqvB_refl _⟩, ⟨_, rfl, eqvB_refl _⟩, ⟨_, rfl, eqvB_refl _⟩, trivial⟩⟩
  repeat (refine need_intro (by first | exact fun h => h | exact nt | rfl | (simp; done) | fail) ?_)
  refine ifB_intro (fun g1 => ?_) (fun g1 => ?_)
  · refine fin ?_
    simp only [cond_or, bne, beq_nat, Bool.or_eq_true, Bool.not_eq_true'] at g1
    rcases g1 with (((((h | h) | h) | h) | h) | h) | h <;> simp [busS, devS, h]
  repeat (refine need_intro (by first | exact fun h => h | exact nt | rfl | (simp; done) | fail) ?_)
  refine ifB_intro (fun g2 => ?_) (fun g2 => ?_)
  · refine fin ?_
    simp only [cond_or, bne, beq_nat, Bool.or_eq_true, Bool.not_eq_true'] at g2
    rcases g2 with (((h | h) | h) | h) | h <;> simp [busS, devS, h]
  repeat (refine need_intro (by first | exact fun h => h | exact nt | rfl | omega | exact fun _ => by omega | (simp; done) | fail) ?_)
  simp only [cond_or, bne, beq_nat, Bool.or_eq_false_iff, Bool.not_eq_false'] at g1 g2
  obtain ⟨⟨⟨⟨⟨⟨a1, a2⟩, a3⟩, a4⟩, a5⟩, b1⟩, b2⟩ := g1
  obtain ⟨⟨⟨⟨a6, a7⟩, a8⟩, a9⟩, a10⟩ := g2
  refine fin ?_
  have e1 : (bytesOf s.nr (shf 0 (bfun l.ram)) == bytesOf t.nr (shf 0 (bfun k.ram))) = _ := bytes_beq2 l.ram k.ram
  have e2 : (bytesOf s.ni (shf 0 (bfun l.inp)) == bytesOf t.ni (shf 0 (bfun k.inp))) = _ := bytes_beq2 l.inp k.inp
  have e3 : (bytesOf s.no (shf 0 (bfun l.out)) == bytesOf t.no (shf 0 (bfun k.out))) = _ := bytes_beq2 l.out k.out
  show _ = busS s t l k
  rw [e1, e2, e3]
  simp only [cond_and, busS, devS, a1, a2, a3, a4, a5, a6, a7, a8, a9, a10, b1, b2, Bool.and_true, Bool.and_assoc]
set_option maxRecDepth 100000 in
theorem copied_spec (s : BusV) (l : Lists) (cr ci co : Nat) (hnr : s.nr ≤ 140737488355328) (hni : s.ni ≤ 140737488355328) (hno : s.no ≤ 140737488355328) :
    Does TB 9 [.agg (s.segs (.gs 0 0 s.nr cr) (.gs 1 0 s.ni ci) (.gs 2 0 s.no co))] (l.blks s) (fun v h' => ∃ c3 c4 c5, s.nr ≤ c3 ∧ s.ni ≤ c4 ∧ s.no ≤ c5 ∧ v = .agg (s.segs (.gs 3 0 s.nr c3) (.gs 4 0 s.ni c4) (.gs 5 0 s.no c5)) ∧
      h' = l.blks s ++ [bblk true s.nr l.ram (c3 - s.nr), bblk true s.ni l.inp (c4 - s.ni), bblk true s.no l.out (c5 - s.no)]) := by
  refine fnX_does TB Tryz.func9 rfl (by decide) (fun O on hO => ?_)
  refine need_intro rfl ?_
  refine need_intro ⟨by show 0 + s.nr ≤ s.nr; omega, room5 s.nr hnr⟩ ?_
  intro c3 hc3
  have hc3 : s.nr ≤ c3 := hc3
  refine need_intro ⟨by show 0 + s.ni ≤ s.ni; omega, room5 s.ni hni⟩ ?_
  intro c4 hc4
  have hc4 : s.ni ≤ c4 := hc4
  refine need_intro ⟨by show 0 + s.no ≤ s.no; omega, room5 s.no hno⟩ ?_
  intro c5 hc5
  have hc5 : s.no ≤ c5 := hc5
  refine need_intro rfl ?_
  have sh : ∀ (n : Nat) (q : Nat → B8) (j : Nat), j < n → shf 0 (bfun q) j = bfun q j := fun n q j _ => by unfold shf; rw [Nat.zero_add]
  refine ⟨_, _, [0, 1, 2, 6, 7, 8], ⟨c3, c4, c5, hc3, hc4, hc5, rfl, rfl⟩, by decide, ⟨rfl, rfl, rfl, trivial⟩, ?_, ⟨⟨_, rfl, eqvB_refl _⟩, ⟨_, rfl, eqvB_refl _⟩, ⟨_, rfl, eqvB_refl _⟩, ⟨_, rfl, ⟨rfl, Nat.mul_one _, ⟨⟨rfl, rfl, sh _ _⟩, trivial⟩⟩⟩, ⟨_, rfl, ⟨rfl, Nat.mul_one _, ⟨⟨rfl, rfl, sh _ _⟩, trivial⟩⟩⟩, ⟨_, rfl, ⟨rfl, Nat.mul_one _, ⟨⟨rfl, rfl, sh _ _⟩, trivial⟩⟩⟩, trivial⟩⟩
  exact eqvE_refl _
end Go.Proofs.YtghcdkpgcanpgaaGreat

/- Watching: a copy of a whole; two wholes the same; the law's helpers. No condition but the lists' lengths. -/
namespace Go.Anv
open Go
/-- Are two Cpus the same? -/
def cpuS (c d : CpuV) : Bool := match eqSeg c.segs d.segs with
  | some b => b
  | none => false
def wholeS (c d : CpuV) (s t : BusV) (l k : Lists) : Bool := cpuS c d && busS s t l k
end Go.Anv
namespace Go.Proofs.YtghcdkpgcanpgaaGreat
open Go Go.Anv
set_option maxRecDepth 100000 in
theorem twin18_spec (c : CpuV) (s : BusV) (l : Lists) (cr ci co : Nat) (hnr : s.nr ≤ 140737488355328) (hni : s.ni ≤ 140737488355328) (hno : s.no ≤ 140737488355328) :
    Does TB 4 [.agg (wsegs c s (.gs 0 0 s.nr cr) (.gs 1 0 s.ni ci) (.gs 2 0 s.no co))] (l.blks s) (fun v h' => ∃ c3 c4 c5, s.nr ≤ c3 ∧ s.ni ≤ c4 ∧ s.no ≤ c5 ∧ v = .agg (wsegs c s (.gs 3 0 s.nr c3) (.gs 4 0 s.ni c4) (.gs 5 0 s.no c5)) ∧
      h' = l.blks s ++ [bblk true s.nr l.ram (c3 - s.nr), bblk true s.ni l.inp (c4 - s.ni), bblk true s.no l.out (c5 - s.no)]) := by
  refine fnX_does TB Tryz.func4 rfl (by decide) (fun O on hO => ?_)
  refine draw_but [4] on rfl (fun _ _ h => h) ?_
  refine Does.at (copied_spec s l cr ci co hnr hni hno) [0, 1, 2] rfl ⟨rfl, rfl, rfl, trivial⟩ (by decide) ?_ ?_
  · rintro v h' ⟨c3, c4, c5, _, _, _, _, rfl⟩
    exact ⟨.inr (.inr rfl), .inr (.inr rfl), .inr (.inr rfl), .inl rfl, .inl rfl, .inl rfl, trivial⟩
  rintro v h' ⟨c3, c4, c5, k3, k4, k5, rfl, rfl⟩
  repeat (refine need_intro (by first | exact fun h => h | exact nt | rfl | fail) ?_)
  refine ⟨_, _, [0, 1, 2, 5, 6, 7], ⟨c3, c4, c5, k3, k4, k5, rfl, rfl⟩, by decide, ⟨rfl, rfl, rfl, trivial⟩, ?_, ⟨⟨_, rfl, eqvB_refl _⟩, ⟨_, rfl, eqvB_refl _⟩, ⟨_, rfl, eqvB_refl _⟩, ⟨_, rfl, eqvB_refl _⟩, ⟨_, rfl, eqvB_refl _⟩, ⟨_, rfl, eqvB_refl _⟩, trivial⟩⟩
  exact eqvE_refl _
set_option maxRecDepth 100000 in
theorem same18_spec (c d : CpuV) (s t : BusV) (l k : Lists) (c0 c1 c2 c3 c4 c5 : Nat) :
    Does TB 7 [.agg (wsegs c s (.gs 0 0 s.nr c0) (.gs 1 0 s.ni c1) (.gs 2 0 s.no c2)), .agg (wsegs d t (.gs 3 0 t.nr c3) (.gs 4 0 t.ni c4) (.gs 5 0 t.no c5))] (l.blks s ++ k.blks t) (fun v h' => v = .s (.bool (wholeS c d s t l k)) ∧ h' = l.blks s ++ k.blks t) := by
  refine fnX_does TB Tryz.func7 rfl (by decide) (fun O on hO => ?_)
  repeat (refine need_intro (by first | exact fun h => h | exact nt | rfl | (simp; done) | fail) ?_)
  have fin : ∀ {x : Bool}, x = wholeS c d s t l k → ∀ {b e : Blk}, Anv.Ends 6 (fun v h' => v = .s (.bool (wholeS c d s t l k)) ∧ h' = l.blks s ++ k.blks t) (.s (.bool x)) (l.blks s ++ k.blks t ++ [b, e]) := by
    rintro x rfl b e
    exact ⟨_, _, [0, 1, 2, 3, 4, 5], ⟨rfl, rfl⟩, by decide, ⟨rfl, rfl, rfl, rfl, rfl, rfl, trivial⟩, eqvE_refl _, ⟨⟨_, rfl, eqvB_refl _⟩, ⟨_, rfl, eqvB_refl _⟩, ⟨_, rfl, eqvB_refl _⟩, ⟨_, rfl, eqvB_refl _⟩, ⟨_, rfl, eqvB_refl _⟩, ⟨_, rfl, eqvB_refl _⟩, trivial⟩⟩
  refine ifB_intro (fun g => ?_) (fun g => ?_)
  · refine Does.ungd (b := [_, _]) ⟨⟨g, rfl⟩, ⟨g, rfl⟩, trivial⟩ ?_
    replace g : cpuS c d = true := g
    refine Does.at (rsame_spec s t l k c0 c1 c2 c3 c4 c5) [0, 1, 2, 3, 4, 5] rfl ⟨rfl, rfl, rfl, rfl, rfl, rfl, trivial⟩ (by decide) ?_ ?_
    · rintro v h' ⟨_, rfl⟩
      exact ⟨.inr (.inr rfl), .inr (.inr rfl), .inr (.inr rfl), .inr (.inr rfl), .inr (.inr rfl), .inr (.inr rfl), trivial⟩
    rintro v h' ⟨rfl, rfl⟩
    repeat (refine need_intro (by first | exact fun h => h | exact nt | rfl | (simp; done) | fail) ?_)
    refine fin ?_
    show (bif cpuS c d then busS s t l k else false) = _
    exact cond_and _ _
  · refine need_intro g ?_
    refine fin ?_
    replace g : cpuS c d = false := g
    unfold wholeS
    rw [g]
    rfl
end Go.Proofs.YtghcdkpgcanpgaaGreat

/- Watching: do two wholes look the same from U: the program's and the document's. No condition but the lists' lengths. -/
namespace Go.Anv
open Go
/-- RAM differs where neither R nor X is granted alone. -/
def seeN (c : CpuV) (l k : Lists) (j : Nat) : Bool := k.ram j != l.ram j && grantI c.proper.cfg c.proper.addr (0x80000000#64 + BitVec.ofNat 64 j) 5
def agreeS (c d : CpuV) (s t : BusV) (l k : Lists) : Bool := cpuS c.proper d.proper && devS s t l k && s.nr == t.nr && (List.range s.nr).all fun j => !seeN c l k j
theorem agree_no {c d : CpuV} {s t : BusV} {l k : Lists} {j : Nat} (hj : j < s.nr) (h : seeN c l k j = true) : agreeS c d s t l k = false := by
  unfold agreeS
  rw [Bool.and_eq_false_iff]
  right
  rw [Bool.eq_false_iff]
  intro e
  have := List.all_eq_true.1 e j (List.mem_range.2 hj)
  rw [h] at this
  cases this
theorem agree_yes {c d : CpuV} {s t : BusV} {l k : Lists} (h1 : cpuS c.proper d.proper = true) (h2 : devS s t l k = true) (h3 : s.nr = t.nr) (h : ∀ j, j < s.nr → seeN c l k j = false) : agreeS c d s t l k = true := by
  unfold agreeS
  rw [h1, h2, h3, beq_self_eq_true, Bool.true_and, Bool.true_and, Bool.true_and]
  exact List.all_eq_true.2 fun j hj => by rw [h j (by rw [h3]; exact List.mem_range.1 hj)]; rfl
end Go.Anv
namespace Go.Proofs.YtghcdkpgcanpgaaGreat
open Go Go.Anv
set_option maxRecDepth 100000 in
theorem agree_spec (c d : CpuV) (s t : BusV) (l k : Lists) (c0 c1 c2 c3 c4 c5 : Nat) (hs : s.nr < 2 ^ 62) :
    Does TB 16 [.agg (wsegs c s (.gs 0 0 s.nr c0) (.gs 1 0 s.ni c1) (.gs 2 0 s.no c2)), .agg (wsegs d t (.gs 3 0 t.nr c3) (.gs 4 0 t.ni c4) (.gs 5 0 t.no c5))] (l.blks s ++ k.blks t) (fun v h' => v = .s (.bool (agreeS c d s t l k)) ∧ h' = l.blks s ++ k.blks t) := by
  refine fnX_does TB Tryz.func16 rfl (by decide) (fun O on hO => ?_)
  have fin : ∀ {x : Bool}, x = agreeS c d s t l k → ∀ (b e f : Blk), Anv.Ends 6 (fun v h' => v = .s (.bool (agreeS c d s t l k)) ∧ h' = l.blks s ++ k.blks t) (.s (.bool x)) (l.blks s ++ k.blks t ++ [b, e, f]) := by
    rintro x rfl b e f
    exact ⟨_, _, [0, 1, 2, 3, 4, 5], ⟨rfl, rfl⟩, by decide, ⟨rfl, rfl, rfl, rfl, rfl, rfl, trivial⟩, eqvE_refl _, ⟨⟨_, rfl, eqvB_refl _⟩, ⟨_, rfl, eqvB_refl _⟩, ⟨_, rfl, eqvB_refl _⟩, ⟨_, rfl, eqvB_refl _⟩, ⟨_, rfl, eqvB_refl _⟩, ⟨_, rfl, eqvB_refl _⟩, trivial⟩⟩
  refine (proper_spec c _).mono ?_
  rintro _ _ ⟨rfl, rfl⟩
  refine need_intro rfl ?_
  refine draw_held on rfl (fun _ _ h => h) ?_
  refine (proper_spec d _).mono ?_
  rintro _ _ ⟨rfl, rfl⟩
  repeat (refine need_intro (by first | exact fun h => h | exact nt | rfl | (simp; done) | fail) ?_)
  refine ifB_intro (fun g => ?_) (fun g => ?_)
  · refine Does.ungd (b := [_, _]) ⟨⟨g, rfl⟩, ⟨g, rfl⟩, trivial⟩ ?_
    replace g : (!(!cpuS c.proper d.proper)) = true := g
    refine Does.at (sameBus_spec s t l k c0 c1 c2 c3 c4 c5) [0, 1, 2, 3, 4, 5] rfl ⟨rfl, rfl, rfl, rfl, rfl, rfl, trivial⟩ (by decide) ?_ ?_
    · rintro v h' ⟨_, rfl⟩
      exact ⟨.inr (.inr rfl), .inr (.inr rfl), .inr (.inr rfl), .inr (.inr rfl), .inr (.inr rfl), .inr (.inr rfl), trivial⟩
    rintro v h' ⟨rfl, rfl⟩
    repeat (refine need_intro (by first | exact fun h => h | exact nt | rfl | (simp; done) | fail) ?_)
    have hc : cpuS c.proper d.proper = true := by simpa using g
    refine ifB_intro (fun g2 => ?_) (fun g2 => ?_)
    · replace g2 : (bif (bif !cpuS c.proper d.proper then true else !devS s t l k) then true else (s.nr : Int) != (t.nr : Int)) = true := g2
      refine fin ?_ _ _ _
      rw [hc] at g2
      unfold agreeS
      cases hd : devS s t l k with
      | false => simp
      | true =>
        rw [hd] at g2
        have : s.nr ≠ t.nr := by
          intro e; rw [e] at g2; simp at g2
        simp [this]
    · replace g2 : (bif (bif !cpuS c.proper d.proper then true else !devS s t l k) then true else (s.nr : Int) != (t.nr : Int)) = false := g2
      rw [hc] at g2
      have hd : devS s t l k = true := by
        cases hd : devS s t l k with
        | false => rw [hd] at g2; cases g2
        | true => rfl
      rw [hd] at g2
      have hr : s.nr = t.nr := by
        have := bne_eq_false_iff_eq.1 (show ((s.nr : Int) != (t.nr : Int)) = false from g2)
        omega
      refine loop_by (A := Nat) on (fun j => [(39, .s (.int .i64 (j : Int)))]) (fun _ => l.blks s ++ k.blks t ++ [.cells true (wsegs c s (.gs 0 0 s.nr c0) (.gs 1 0 s.ni c1) (.gs 2 0 s.no c2)) 0, .cells true (wsegs d t (.gs 3 0 t.nr c3) (.gs 4 0 t.ni c4) (.gs 5 0 t.no c5)) 0, .cells true c.proper.segs 0]) (fun j => j ≤ s.nr ∧ ∀ i, i < j → seeN c l k i = false) (fun j => s.nr - j) 0 ⟨Nat.zero_le _, fun i hi => absurd hi (Nat.not_lt_zero i)⟩ ?_ ?_
      · refine ⟨?_, eqvB_refl _, eqvB_refl _, eqvB_refl _, eqvB_refl _, eqvB_refl _, eqvB_refl _, eqvB_refl _, eqvB_refl _, eqvB_refl _, trivial⟩
        repeat' (first | exact eqvT_nil | refine eqvT_junk ?_ | refine eqvT_same ?_ | refine eqvT_int ?_ ?_)
      intro j ⟨hj, hp⟩
      refine ifB_intro (fun h4 => ?_) (fun h4 => ?_)
      · have hj1 : j < s.nr := by have := of_decide_eq_true h4; omega
        repeat (refine need_intro (by first | omega | exact ⟨by omega, by omega⟩ | exact fun h => h | exact nt | rfl | (simp; done) | fail) ?_)
        have hne : (bfun k.ram (0 + (j : Int).toNat) != bfun l.ram (0 + (j : Int).toNat)) = (k.ram j != l.ram j) := by
          rw [Nat.zero_add, Int.toNat_natCast]
          exact bne_nat _ _
        refine ifB_intro (fun h5 => ?_) (fun h5 => ?_)
        · refine Does.ungd (b := [.agg (pmpSeg c.proper.cfg c.proper.addr), .s (.int .u64 ((0x80000000#64 + BitVec.ofNat 64 j).toNat : Int)), .s (.int .i64 5)]) ⟨⟨h5, rfl⟩, ⟨h5, congrArg (fun z => EV.s (.int .u64 z)) (addk (a := 0x80000000#64) (k := j) (by omega))⟩, rfl, trivial⟩ ?_
          refine (granted_spec _ _ _ _ _).mono ?_
          rintro _ _ ⟨rfl, rfl⟩
          replace h5 := hne.symm.trans h5
          have hse : seeN c l k j = grantI c.proper.cfg c.proper.addr (0x80000000#64 + BitVec.ofNat 64 j) 5 := by unfold seeN; rw [h5, Bool.true_and]
          refine ifB_intro (fun h6 => ?_) (fun h6 => ?_)
          · replace h6 := (cond_and _ _).symm.trans h6
            rw [Bool.and_eq_true] at h6
            exact fin (agree_no hj1 (hse.trans h6.2)).symm _ _ _
          · replace h6 := (cond_and _ _).symm.trans h6
            rw [hne.trans h5, Bool.true_and] at h6
            refine ⟨j + 1, ⟨hj1, fun i hi => ?_⟩, by simp only; omega, ?_⟩
            · rcases Nat.lt_succ_iff_lt_or_eq.1 hi with h | h
              · exact hp i h
              · subst h; exact hse.trans h6
            refine ⟨?_, eqvB_refl _, eqvB_refl _, eqvB_refl _, eqvB_refl _, eqvB_refl _, eqvB_refl _, eqvB_refl _, eqvB_refl _, eqvB_refl _, trivial⟩
            repeat' (first | exact eqvT_nil | refine eqvT_junk ?_ | refine eqvT_same ?_ | refine eqvT_int ?_ ?_)
            rw [i64_in (by omega) (by omega)]; omega
        · refine need_intro h5 ?_
          have h6 := hne.symm.trans h5
          refine ⟨j + 1, ⟨hj1, fun i hi => ?_⟩, by simp only; omega, ?_⟩
          · rcases Nat.lt_succ_iff_lt_or_eq.1 hi with h | h
            · exact hp i h
            · subst h; unfold seeN; rw [h6]; rfl
          refine ⟨?_, eqvB_refl _, eqvB_refl _, eqvB_refl _, eqvB_refl _, eqvB_refl _, eqvB_refl _, eqvB_refl _, eqvB_refl _, eqvB_refl _, trivial⟩
          repeat' (first | exact eqvT_nil | refine eqvT_junk ?_ | refine eqvT_same ?_ | refine eqvT_int ?_ ?_)
          rw [i64_in (by omega) (by omega)]; omega
      · have hj1 : j = s.nr := by have := of_decide_eq_false h4; omega
        subst hj1
        exact fin (agree_yes hc hd hr hp).symm _ _ _
  · replace g : (!(!cpuS c.proper d.proper)) = false := g
    have hc : cpuS c.proper d.proper = false := by simpa using g
    repeat (refine need_intro (by first | exact g | exact fun h => h | exact nt | rfl | (simp; done) | fail) ?_)
    refine ifB_intro (fun h => absurd (h.symm.trans g) (by decide)) (fun _ => ?_)
    repeat (refine need_intro (by first | exact g | exact nt hc | exact fun h => h | exact nt | rfl | (simp; done) | fail) ?_)
    exact fin (by unfold agreeS; rw [hc]; rfl) _ _ _
end Go.Proofs.YtghcdkpgcanpgaaGreat

/- The engine, part 18: contracts that leave all as it was: used in a larger heap; shown at a function's end. Plain theorems, no condition. -/
namespace Go.Anv
open Go

theorem updB_self : ∀ {h : List Blk} {k : Nat} {B : Blk}, nthB h k = some B → updB h k B = h
  | [], _, _, h => by simp [nthB] at h
  | x :: r, 0, B, h => by simp only [nthB, Option.some.injEq] at h; subst h; rfl
  | x :: r, k + 1, B, h => by simp only [nthB] at h; simp only [updB, updB_self h]

theorem mergeB_self {h : List Blk} : ∀ {κ : List Nat} {r : List Blk}, subH h κ r → mergeB h κ r = h
  | [], [], _ => by simp [mergeB]
  | k :: κ, B :: r, hk => by
    rw [mergeB, updB_self hk.1]
    exact mergeB_self hk.2
  | [], _ :: _, hk => hk.elim
  | _ :: _, [], hk => hk.elim

theorem roOk_self : ∀ h : List Blk, roOk h h
  | [] => trivial
  | _ :: r => ⟨.inr (.inr rfl), roOk_self r⟩

/-- A contract that leaves its heap as it was, in a larger heap. -/
theorem Does.atc {T : Tbl} {f : FuncId} {args : List EV} {hc : List Blk} {X : EV} (c : Does T f args hc (fun v h' => v = X ∧ h' = hc)) (κ : List Nat) {args' : List EV} {h : List Blk} {K : EV → List Blk → Prop}
    (ha : args' = renT (lk κ h.length) args) (hh : subH h κ (renH (lk κ h.length) hc)) (hnd : κ.Nodup) (hK : forceE (renE (lk κ h.length) X) fun v => K v h) : Does T f args' h K := by
  refine Does.at c κ ha hh hnd ?_ ?_
  · rintro v h' ⟨_, rfl⟩
    exact roOk_self _
  · rintro v h' ⟨rfl, rfl⟩
    rw [mergeB_self hh, forceH_eq]
    exact hK

theorem subQ_pre (J : List Blk) : ∀ (H P : List Blk), subQ (P ++ (H ++ J)) (List.range' P.length H.length) H
  | [], _ => trivial
  | B :: r, P => by
    refine ⟨⟨B, ?_, eqvB_refl B⟩, ?_⟩
    · apply get_nthB
      rw [List.getElem?_append_right (Nat.le_refl _), Nat.sub_self]
      rfl
    · have := subQ_pre J r (P ++ [B])
      simpa [List.append_assoc] using this

/-- The end of a function that leaves its heap as it was; new blocks are let go. -/
theorem Ends.ro {n : Nat} {H J : List Blk} {X x : EV} (hn : H.length = n) (hx : eqvE x (renE (lk (List.range n) (H ++ J).length) X)) (hH : renH (lk (List.range n) (H ++ J).length) H = H) : Ends n (fun v h' => v = X ∧ h' = H) x (H ++ J) := by
  subst hn
  refine ⟨X, H, List.range H.length, ⟨rfl, rfl⟩, List.nodup_range, ?_, hx, ?_⟩
  · rw [List.range_eq_range']; exact idK_range _ _ 0 (Nat.le_refl _)
  · rw [hH, List.range_eq_range']
    exact subQ_pre J H []

/-! ### a drawn region's orders, one state for all -/

theorem eqvH_subQ (h : List Blk) : subQ h (List.range' 0 h.length) h := subQ_range h h 0 rfl

theorem renT_same' {ρ : Nat → Nat} (hρ : ∀ i, ρ i = i) : ∀ l : List EV, renT ρ l = l := renT_same hρ

theorem leR_refl {n : Nat} {s : St} (hn : n ≤ s.heap.length) : leR n (List.range s.heap.length) s s := by
  have hlk : ∀ i, lk (List.range s.heap.length) s.heap.length i = i := lk_range s.heap.length
  refine ⟨List.nodup_range, ?_, ?_, ?_⟩
  · rw [List.range_eq_range']; exact idK_range n _ 0 hn
  · rw [renT_same' hlk]; exact eqvT_refl _
  · rw [renH_same hlk, List.range_eq_range']
    exact eqvH_subQ _

def toK (n : Nat) (t : St) : Exit → St → Prop
  | .normal, s => ∃ κ, leR n κ s t
  | _, _ => False

/-- **A drawn region: all its orders end in one state (with other numbers), from which the walk goes on.** -/
theorem draw_to {T : Tbl} {O : Org} (on : O.E.n = O.h.length) {id : Nat} {ops : Array Oper} {s : St} {K : Exit → St → Prop} (t : St) (hd : DrawG T O id ops s (toK O.E.n t)) (hk : K .normal t) : DrawG T O id ops s K := by
  intro E a w R
  refine Code.wp_mono ?_ (hd E a w R)
  rintro e a' w' ⟨E', s', h1, R'⟩
  cases e with
  | normal =>
    obtain ⟨κ, hκ⟩ := h1
    obtain ⟨E'', R''⟩ := R'.renum on hκ
    exact ⟨E'', t, hk, R''⟩
  | _ => exact h1.elim

theorem toK_id {n : Nat} {s : St} (hn : n ≤ s.heap.length) : toK n s .normal s := ⟨_, leR_refl hn⟩

theorem toK_of {n : Nat} {s t : St} (κ : List Nat) (h1 : κ.Nodup) (h2 : idK 0 n κ) (h3 : eqvT s.tmps (renT (lk κ s.heap.length) t.tmps)) (h4 : subQ s.heap κ (renH (lk κ s.heap.length) t.heap)) : toK n t .normal s := ⟨κ, h1, h2, h3, h4⟩

/-! ### numbers of blocks, written out -/

def litK (b : Nat) (k : Nat → Prop) : Prop :=
  match b with
  | 0 => k 0
  | 1 => k 1
  | 2 => k 2
  | 3 => k 3
  | 4 => k 4
  | 5 => k 5
  | 6 => k 6
  | 7 => k 7
  | 8 => k 8
  | 9 => k 9
  | 10 => k 10
  | 11 => k 11
  | 12 => k 12
  | 13 => k 13
  | 14 => k 14
  | 15 => k 15
  | 16 => k 16
  | 17 => k 17
  | 18 => k 18
  | 19 => k 19
  | 20 => k 20
  | 21 => k 21
  | 22 => k 22
  | 23 => k 23
  | 24 => k 24
  | 25 => k 25
  | 26 => k 26
  | 27 => k 27
  | 28 => k 28
  | 29 => k 29
  | 30 => k 30
  | 31 => k 31
  | 32 => k 32
  | 33 => k 33
  | 34 => k 34
  | 35 => k 35
  | 36 => k 36
  | 37 => k 37
  | 38 => k 38
  | 39 => k 39
  | n => k n

theorem litK_eq (b : Nat) (k : Nat → Prop) : litK b k = k b := by
  unfold litK
  split <;> rfl

mutual
def nV : SV → (SV → Prop) → Prop
  | .junk, k => k .junk
  | .int q n, k => k (.int q n)
  | .bool b, k => k (.bool b)
  | .str s, k => k (.str s)
  | .ptr b o, k => litK b fun b => k (.ptr b o)
  | .pix b o i, k => litK b fun b => k (.pix b o i)
  | .rp b o i z, k => litK b fun b => k (.rp b o i z)
  | .nilptr, k => k .nilptr
  | .slice b o l c, k => litK b fun b => k (.slice b o l c)
  | .nilslice, k => k .nilslice
  | .gs b o l c, k => litK b fun b => k (.gs b o l c)
  | .map b, k => litK b fun b => k (.map b)
  | .nilmap, k => k .nilmap
  | .func f a c, k => nL a fun a => nL c fun c => k (.func f a c)
  | .nilfunc, k => k .nilfunc
  | .iface t a c, k => nL c fun c => k (.iface t a c)
  | .niliface, k => k .niliface
def nL : List SV → (List SV → Prop) → Prop
  | [], k => k []
  | x :: r, k => nV x fun x => nL r fun r => k (x :: r)
end

mutual
theorem nV_eq : ∀ (v : SV) (k : SV → Prop), nV v k = k v
  | .junk, _ => rfl
  | .int .., _ => rfl
  | .bool _, _ => rfl
  | .str _, _ => rfl
  | .ptr .., _ => by simp only [nV, litK_eq]
  | .pix .., _ => by simp only [nV, litK_eq]
  | .rp .., _ => by simp only [nV, litK_eq]
  | .nilptr, _ => rfl
  | .slice .., _ => by simp only [nV, litK_eq]
  | .nilslice, _ => rfl
  | .gs .., _ => by simp only [nV, litK_eq]
  | .map _, _ => by simp only [nV, litK_eq]
  | .nilmap, _ => rfl
  | .func f a c, k => by simp only [nV]; rw [nL_eq a]; rw [nL_eq c]
  | .nilfunc, _ => rfl
  | .iface t a c, k => by simp only [nV]; rw [nL_eq c]
  | .niliface, _ => rfl
theorem nL_eq : ∀ (l : List SV) (k : List SV → Prop), nL l k = k l
  | [], _ => rfl
  | x :: r, k => by simp only [nL]; rw [nV_eq x]; rw [nL_eq r]
end

def nS (l : List Seg) : (List Seg → Prop) → Prop :=
  List.rec (motive := fun _ => (List Seg → Prop) → Prop) (fun k => k []) (fun x _ ih k => match x with
    | .one v => nV v fun v => ih fun r => k (.one v :: r)
    | .ints q n f => ih fun r => k (.ints q n f :: r)) l

theorem nS_eq : ∀ (cs : List Seg) (k : List Seg → Prop), nS cs k = k cs
  | [], _ => rfl
  | .one v :: r, k => by
    show (nV v fun v => nS r fun r => k (.one v :: r)) = _
    rw [nV_eq, nS_eq r]
  | .ints q n f :: r, k => by
    show (nS r fun r => k (.ints q n f :: r)) = _
    rw [nS_eq r]

def nB (B : Blk) (k : Blk → Prop) : Prop :=
  match B with
  | .cells m cs sp => nS cs fun cs => k (.cells m cs sp)
  | .recs m n z f sp => k (.recs m n z f sp)
  | .map es => k (.map es)
  | .dead => k .dead

def nH (l : List Blk) : (List Blk → Prop) → Prop :=
  List.rec (motive := fun _ => (List Blk → Prop) → Prop) (fun k => k []) (fun B _ ih k => nB B fun B => ih fun r => k (B :: r)) l

theorem nB_eq (B : Blk) (k : Blk → Prop) : nB B k = k B := by cases B <;> simp only [nB, nS_eq]
theorem nH_eq : ∀ (h : List Blk) (k : List Blk → Prop), nH h k = k h
  | [], _ => rfl
  | B :: r, k => by
    show (nB B fun B => nH r fun r => k (B :: r)) = _
    rw [nB_eq, nH_eq r]

def nE (v : EV) (k : EV → Prop) : Prop :=
  match v with
  | .s v => nV v fun v => k (.s v)
  | .agg cs => nS cs fun cs => k (.agg cs)
  | v => forceE v k

theorem nE_eq (v : EV) (k : EV → Prop) : nE v k = k v := by
  cases v <;> simp only [nE, nV_eq, nS_eq, forceE_eq]

/-- A contract in a larger heap; the numbers behind it are written out. -/
theorem Does.atn {T : Tbl} {f : FuncId} {args : List EV} {hc : List Blk} {Q : EV → List Blk → Prop} (c : Does T f args hc Q) (κ : List Nat) {args' : List EV} {h : List Blk} {K : EV → List Blk → Prop}
    (ha : args' = renT (lk κ h.length) args) (hh : subH h κ (renH (lk κ h.length) hc)) (hnd : κ.Nodup) (hro : ∀ v h', Q v h' → roOk hc h')
    (hK : ∀ v' h', Q v' h' → nH (mergeB h κ (renH (lk κ h.length) h')) fun h2 => nE (renE (lk κ h.length) v') fun v => K v h2) : Does T f args' h K :=
  Does.at c κ ha hh hnd hro fun v' h' hq => by
    have := hK v' h' hq
    rw [nH_eq, nE_eq] at this
    rw [forceH_eq, forceE_eq]
    exact this
end Go.Anv

/- Watching: one step as it was seen: its values, its block, the small questions asked of it. No condition: contracts of functions. -/
namespace Go.Anv
open Go
structure RowV where
  step : Int
  kind : Int
  mode : Int
  pc : B64
  raw : B32
  len : Int
  cause : B64
  tval : B64
  rd : Int
  val : B64
  mem : Int
  addr : B64
  size : Int
  data : B64
  next : B64
  nextMode : Int
/-- The cells of api.Row. -/
def RowV.svs (r : RowV) : List SV :=
  [.int .i64 r.step, .int .i64 r.kind, .int .i64 r.mode, .int .u64 r.pc.toNat, .int .u32 r.raw.toNat, .int .i64 r.len, .int .u64 r.cause.toNat, .int .u64 r.tval.toNat, .int .i64 r.rd, .int .u64 r.val.toNat, .int .i64 r.mem, .int .u64 r.addr.toNat, .int .i64 r.size, .int .u64 r.data.toNat, .int .u64 r.next.toNat, .int .i64 r.nextMode]
def RowV.segs (r : RowV) : List Seg := r.svs.map .one
/-- What a step showed: the wholes (c, s; d, t), the Cpu behind as it was handed in (e), the world, the row; the lists' rooms. -/
structure Sc where
  c : CpuV
  d : CpuV
  e : CpuV
  s : BusV
  t : BusV
  l : Lists
  k : Lists
  tick : Bool
  ext : Bool
  soft : Bool
  nw : Nat
  mw : Bool
  sw : Nat
  w : Nat → B8
  r : RowV
  c0 : Nat
  c1 : Nat
  c2 : Nat
  c3 : Nat
  c4 : Nat
  c5 : Nat
  cw : Nat
def Sc.lists (z : Sc) : List Blk := [bblk z.l.mr z.s.nr z.l.ram z.l.sr, bblk z.l.mi z.s.ni z.l.inp z.l.si, bblk z.l.mo z.s.no z.l.out z.l.so, bblk z.k.mr z.t.nr z.k.ram z.k.sr, bblk z.k.mi z.t.ni z.k.inp z.k.si, bblk z.k.mo z.t.no z.k.out z.k.so, bblk z.mw z.nw z.w z.sw]
def Sc.world (z : Sc) : List Seg := [.one (.bool z.tick), .one (.bool z.ext), .one (.bool z.soft), .one (.gs 6 0 z.nw z.cw)]
def Sc.b (z : Sc) : List Seg := wsegs z.c z.s (.gs 0 0 z.s.nr z.c0) (.gs 1 0 z.s.ni z.c1) (.gs 2 0 z.s.no z.c2)
def Sc.a (z : Sc) : List Seg := wsegs z.d z.t (.gs 3 0 z.t.nr z.c3) (.gs 4 0 z.t.ni z.c4) (.gs 5 0 z.t.no z.c5)
def Sc.segs (z : Sc) : List Seg := z.b ++ z.a ++ z.world ++ z.r.segs ++ z.e.segs
def Sc.h (z : Sc) : List Blk := z.lists ++ [.cells true z.segs 0]
/-- Lengths that can be. -/
structure Sc.Ok (z : Sc) : Prop where
  nr : z.s.nr ≤ 140737488355328
  ni : z.s.ni ≤ 140737488355328
  no : z.s.no ≤ 140737488355328
  mr : z.t.nr ≤ 140737488355328
  mi : z.t.ni ≤ 140737488355328
  mo : z.t.no ≤ 140737488355328
  cr : z.s.nr ≤ z.c0
  ci : z.s.ni ≤ z.c1
  co : z.s.no ≤ z.c2
  dr : z.t.nr ≤ z.c3
  di : z.t.ni ≤ z.c4
  do_ : z.t.no ≤ z.c5
  size : -9223372036854775808 ≤ z.r.size ∧ z.r.size ≤ 9223372036854775807
/-- Has Mem W? -/
def RowV.stores (r : RowV) : Bool := bitX .and .i64 r.mem 2 != 0
def RowV.trapped (r : RowV) : Bool := r.kind == 2 || r.kind == 3
def RowV.counts (r : RowV) : Bool := r.kind == 1 && bitX .and .u32 (r.raw.toNat : Int) 127 == 115
def RowV.placed (r : RowV) : Bool := r.mem != 0 && decide (0 < r.size) && decide (r.size ≤ 8)
def RowV.within (r : RowV) (a : B64) : Bool := r.placed && decide (r.addr ≤ a) && decide (((a - r.addr).toNat : Int) < r.size)
def anyN (f : Nat → Bool) : Nat → Bool
  | 0 => false
  | n + 1 => anyN f n || f n
def RowV.storedAt (r : RowV) (a : B64) (n : Nat) : Bool := r.stores && anyN (fun k => r.within (a + BitVec.ofNat 64 k)) n
theorem cond_all (a b : Bool) : (bif a then b else false) = (a && b) := by cases a <;> rfl
theorem wsize {x : Int} (h : 0 ≤ x ∧ x ≤ 9223372036854775807) : IntKind.u64.wrap x = x := by
  rw [wrap_u64, BitVec.toNat_ofInt]; omega
theorem placed_size {r : RowV} (h : r.placed = true) : (0 < r.size ∧ r.size ≤ 8) ∧ IntKind.u64.wrap r.size = r.size := by
  unfold RowV.placed at h
  rw [Bool.and_eq_true, Bool.and_eq_true] at h
  have h1 := of_decide_eq_true h.1.2
  have h2 := of_decide_eq_true h.2
  exact ⟨⟨h1, h2⟩, wsize (by omega)⟩
theorem eqvH_refl : ∀ h : List Blk, eqvH h h
  | [] => trivial
  | _ :: r => ⟨eqvB_refl _, eqvH_refl r⟩
theorem anyN_true {f : Nat → Bool} {n k : Nat} (hk : k < n) (h : f k = true) : anyN f n = true := by
  induction n with
  | zero => omega
  | succ n ih =>
    rw [anyN]
    rcases Nat.lt_succ_iff_lt_or_eq.1 hk with h' | h'
    · rw [ih h']; rfl
    · subst h'; rw [h, Bool.or_true]
theorem anyN_false {f : Nat → Bool} {n : Nat} (h : ∀ k, k < n → f k = false) : anyN f n = false := by
  induction n with
  | zero => rfl
  | succ n ih => rw [anyN, ih (fun k hk => h k (by omega)), h n (by omega)]; rfl
end Go.Anv
namespace Go.Proofs.YtghcdkpgcanpgaaGreat
open Go Go.Anv
set_option maxRecDepth 100000 in
theorem stores_spec (z : Sc) : Does TB 94 [.s (.ptr 7 0)] z.h (fun v h' => v = .s (.bool z.r.stores) ∧ h' = z.h) := by
  refine fnX_does TB Tryz.func94 rfl (by decide) (fun O on hO => ?_)
  exact Ends.ro (J := []) rfl rfl rfl
set_option maxRecDepth 100000 in
theorem trapped_spec (z : Sc) : Does TB 70 [.s (.ptr 7 0)] z.h (fun v h' => v = .s (.bool z.r.trapped) ∧ h' = z.h) := by
  refine fnX_does TB Tryz.func70 rfl (by decide) (fun O on hO => ?_)
  repeat (refine need_intro (by first | exact fun h => h | exact nt | rfl | (simp; done) | fail) ?_)
  exact Ends.ro (J := []) rfl (cond_or _ _) rfl
set_option maxRecDepth 100000 in
theorem counts_spec (z : Sc) : Does TB 62 [.s (.ptr 7 0)] z.h (fun v h' => v = .s (.bool z.r.counts) ∧ h' = z.h) := by
  refine fnX_does TB Tryz.func62 rfl (by decide) (fun O on hO => ?_)
  repeat (refine need_intro (by first | exact fun h => h | exact nt | rfl | (simp; done) | fail) ?_)
  exact Ends.ro (J := []) rfl (cond_and _ _) rfl
set_option maxRecDepth 100000 in
theorem placed_spec (z : Sc) : Does TB 109 [.s (.ptr 7 0)] z.h (fun v h' => v = .s (.bool z.r.placed) ∧ h' = z.h) := by
  refine fnX_does TB Tryz.func109 rfl (by decide) (fun O on hO => ?_)
  repeat (refine need_intro (by first | exact fun h => h | exact nt | rfl | (simp; done) | fail) ?_)
  refine Ends.ro (H := z.h) rfl ?_ rfl
  show (bif (bif z.r.mem != 0 then _ else false) then _ else false) = _
  rw [cond_and, cond_and]
  rfl
set_option maxRecDepth 100000 in
theorem within_spec (z : Sc) (a : B64) : Does TB 95 [.s (.ptr 7 0), .s (.int .u64 a.toNat)] z.h (fun v h' => v = .s (.bool (z.r.within a)) ∧ h' = z.h) := by
  refine fnX_does TB Tryz.func95 rfl (by decide) (fun O on hO => ?_)
  refine draw_held on rfl (fun _ _ h => h) ?_
  refine Does.atc (placed_spec z) [0, 1, 2, 3, 4, 5, 6, 7] rfl ⟨rfl, rfl, rfl, rfl, rfl, rfl, rfl, rfl, trivial⟩ (by decide) ?_
  repeat (refine need_intro (by first | exact fun h => h | exact nt | rfl | (simp; done) | fail) ?_)
  refine Ends.ro (H := z.h) rfl ?_ rfl
  show (bif (bif z.r.placed then decide (((a.toNat : Nat) : Int) ≥ ((z.r.addr.toNat : Nat) : Int)) else false) then decide (IntKind.u64.wrap (((a.toNat : Nat) : Int) - ((z.r.addr.toNat : Nat) : Int)) < IntKind.u64.wrap z.r.size) else false) = z.r.within a
  rw [cond_and, cond_and, sub64, ge_nat]
  unfold RowV.within
  cases hp : z.r.placed with
  | false => rfl
  | true => rw [(placed_size hp).2]
set_option maxRecDepth 100000 in
theorem storedAt_spec (z : Sc) (a : B64) (n : Nat) (hn : n < 2 ^ 62) : Does TB 65 [.s (.ptr 7 0), .s (.int .u64 a.toNat), .s (.int .i64 (n : Int))] z.h (fun v h' => v = .s (.bool (z.r.storedAt a n)) ∧ h' = z.h) := by
  refine fnX_does TB Tryz.func65 rfl (by decide) (fun O on hO => ?_)
  refine Does.atc (stores_spec z) [0, 1, 2, 3, 4, 5, 6, 7] rfl ⟨rfl, rfl, rfl, rfl, rfl, rfl, rfl, rfl, trivial⟩ (by decide) ?_
  have fin : ∀ {x : Bool}, x = z.r.storedAt a n → Anv.Ends 8 (fun v h' => v = .s (.bool (z.r.storedAt a n)) ∧ h' = z.h) (.s (.bool x)) z.h := by
    rintro x rfl
    exact Ends.ro (J := []) rfl rfl rfl
  refine ifB_intro (fun h1 => fin (by unfold RowV.storedAt; simp at h1; rw [h1]; rfl)) (fun h1 => ?_)
  have h1 : z.r.stores = true := by simpa using h1
  refine loop_by (A := Nat) on (fun k => [(12, .s (.int .i64 (k : Int)))]) (fun _ => z.h) (fun k => k ≤ n ∧ ∀ i, i < k → z.r.within (a + BitVec.ofNat 64 i) = false) (fun k => n - k) 0 ⟨Nat.zero_le _, fun i hi => absurd hi (Nat.not_lt_zero i)⟩ ?_ ?_
  · refine ⟨?_, eqvH_refl _⟩
    repeat' (first | exact eqvT_nil | refine eqvT_junk ?_ | refine eqvT_same ?_ | refine eqvT_int ?_ ?_)
  intro k ⟨hk, hp⟩
  refine ifB_intro (fun h2 => ?_) (fun h2 => ?_)
  · have hk1 : k < n := by have := of_decide_eq_true h2; omega
    refine Does.args (b := [.s (.ptr 7 0), .s (.int .u64 ((a + BitVec.ofNat 64 k).toNat : Int))]) ⟨eqvE_refl _, ⟨rfl, addk (by omega)⟩, trivial⟩ ?_
    refine Does.atc (within_spec z _) [0, 1, 2, 3, 4, 5, 6, 7] rfl ⟨rfl, rfl, rfl, rfl, rfl, rfl, rfl, rfl, trivial⟩ (by decide) ?_
    refine ifB_intro (fun h3 => fin (by unfold RowV.storedAt; rw [h1, anyN_true (f := fun k => z.r.within (a + BitVec.ofNat 64 k)) hk1 h3]; rfl)) (fun h3 => ?_)
    refine ⟨k + 1, ⟨hk1, fun i hi => ?_⟩, by simp only; omega, ?_⟩
    · rcases Nat.lt_succ_iff_lt_or_eq.1 hi with h | h
      · exact hp i h
      · subst h; exact h3
    refine ⟨?_, eqvH_refl _⟩
    repeat' (first | exact eqvT_nil | refine eqvT_junk ?_ | refine eqvT_same ?_ | refine eqvT_int ?_ ?_)
    rw [i64_in (by omega) (by omega)]; omega
  · have hk1 : k = n := by have := of_decide_eq_false h2; omega
    subst hk1
    exact fin (by unfold RowV.storedAt; rw [anyN_false hp, Bool.and_false])
end Go.Proofs.YtghcdkpgcanpgaaGreat

/- Watching: more small questions asked of a step: does the place lie in RAM; what is pending; what a trap leaves; the mode of loads and stores. No condition: contracts of functions. -/
namespace Go.Anv
open Go
/-- Does the place lie in RAM whole (n bytes of it)? -/
def RowV.inRam (r : RowV) (n : Nat) : Bool := (r.placed && decide (0x80000000#64 ≤ r.addr)) && (decide ((r.addr - 0x80000000#64).toNat ≤ n) && decide (r.size ≤ ((n - (r.addr - 0x80000000#64).toNat : Nat) : Int)))
def mipOf (s : BusV) : B64 :=
  (if (s.msip &&& 1#32 == 1#32) || s.soft then 8#64 else 0#64) ||| (if decide (s.cmp ≤ s.now) then 128#64 else 0#64) ||| (if s.ext || ((s.ier &&& 1#8 == 1#8) && decide (0 < s.ni)) then 2048#64 else 0#64)
def entryOf (m : B64) (mode : Int) : B64 := (m &&& ~~~6280#64) ||| ((m &&& 8#64) <<< 4) ||| (BitVec.ofInt 64 mode <<< 11)
def handlerOf (v cause : B64) : B64 := if (cause >>> 63 == 1#64) && (v &&& 1#64 == 1#64) then (v &&& ~~~3#64) + 4#64 * (cause <<< 1 >>> 1) else v &&& ~~~3#64
/-- The mode of loads and stores. -/
def CpuV.eff (c : CpuV) : Int := if c.proper.mode = 3 ∧ c.proper.mstatus &&& 131072#64 ≠ 0#64 then (((c.proper.mstatus &&& 6144#64) >>> 11).toNat : Int) else c.proper.mode
theorem an2 {a b : Bool} (h1 : a = true) (h2 : b = true) : (a && b) = true := by rw [h1, h2]; rfl
theorem an3 {a b : Bool} (h1 : a = true) (h2 : b = false) : (a && !b) = true := by rw [h1, h2]; rfl
theorem subn {a b : Nat} (h : b ≤ a) (ha : a ≤ 9223372036854775807) : IntKind.u64.wrap ((a : Int) - (b : Int)) = ((a - b : Nat) : Int) := by
  rw [show (a : Int) - (b : Int) = ((a - b : Nat) : Int) by omega, wnat (by omega)]
end Go.Anv
namespace Go.Proofs.YtghcdkpgcanpgaaGreat
open Go Go.Anv
set_option maxRecDepth 100000 in
theorem inRam_spec (z : Sc) (ok : z.Ok) : Does TB 96 [.s (.ptr 7 0)] z.h (fun v h' => v = .s (.bool (z.r.inRam z.t.nr)) ∧ h' = z.h) := by
  refine fnX_does TB Tryz.func96 rfl (by decide) (fun O on hO => ?_)
  refine Does.atc (placed_spec z) [0, 1, 2, 3, 4, 5, 6, 7] rfl ⟨rfl, rfl, rfl, rfl, rfl, rfl, rfl, rfl, trivial⟩ (by decide) ?_
  repeat (refine need_intro (by first | exact fun h => h | exact nt | exact an2 | rfl | (simp; done) | fail) ?_)
  have fin : ∀ {x : Bool}, x = z.r.inRam z.t.nr → Anv.Ends 8 (fun v h' => v = .s (.bool (z.r.inRam z.t.nr)) ∧ h' = z.h) (.s (.bool x)) z.h := by
    rintro x rfl
    exact Ends.ro (J := []) rfl rfl rfl
  have hmr := ok.mr
  refine ifB_intro (fun h1 => fin ?_) (fun h1 => ?_)
  · rw [cond_or, Bool.or_eq_true, Bool.not_eq_true', decide_eq_true_eq] at h1
    unfold RowV.inRam
    rcases h1 with h | h
    · rw [h]; rfl
    · rw [decide_eq_false (p := 0x80000000#64 ≤ z.r.addr) (by rw [BitVec.le_def]; show ¬ 2147483648 ≤ _; omega), Bool.and_false]; rfl
  · refine draw_held on rfl (fun _ _ h => h) ?_
    repeat (refine need_intro (by first | exact fun h => h | exact nt | exact an2 | rfl | (simp; done) | fail) ?_)
    refine fin ?_
    rw [cond_or, Bool.or_eq_false_iff, Bool.not_eq_false', decide_eq_false_iff_not] at h1
    obtain ⟨hp, ha⟩ := h1
    have e1 : IntKind.u64.wrap (((z.r.addr.toNat : Nat) : Int) - 2147483648) = (((z.r.addr - 0x80000000#64).toNat : Nat) : Int) := sub64 z.r.addr 0x80000000#64
    unfold RowV.inRam
    rw [e1, wnat (by omega), cond_and, hp, (placed_size hp).2, decide_eq_true (p := 0x80000000#64 ≤ z.r.addr) (by rw [BitVec.le_def]; show 2147483648 ≤ _; omega)]
    generalize (z.r.addr - 0x80000000#64).toNat = at_
    by_cases h2 : at_ ≤ z.t.nr
    · rw [subn h2 (by omega), decide_eq_true (p := at_ ≤ z.t.nr) h2, decide_eq_true (p := (at_ : Int) ≤ (z.t.nr : Int)) (by omega)]
      rfl
    · rw [decide_eq_false (p := at_ ≤ z.t.nr) h2, decide_eq_false (p := (at_ : Int) ≤ (z.t.nr : Int)) (by omega)]
      rfl
set_option maxRecDepth 100000 in
theorem wmip_spec (t : BusV) (k : Lists) (c0 c1 c2 : Nat) : Does TB 60 [.agg (t.segs (.gs 0 0 t.nr c0) (.gs 1 0 t.ni c1) (.gs 2 0 t.no c2))] (k.blks t) (fun v h' => v = .s (.int .u64 (mipOf t).toNat) ∧ h' = k.blks t) := by
  refine fnX_does TB Tryz.func60 rfl (by decide) (fun O on hO => ?_)
  repeat (refine need_intro (by first | exact fun h => h | exact nt | exact an2 | rfl | (simp; done) | fail) ?_)
  have fin : ∀ {x : Int} {B : Blk}, x = ((mipOf t).toNat : Int) → Anv.Ends 3 (fun v h' => v = .s (.int .u64 (mipOf t).toNat) ∧ h' = k.blks t) (.s (.int .u64 x)) (k.blks t ++ [B]) := by
    rintro x B rfl
    exact Ends.ro rfl (eqvE_refl _) rfl
  have e1 : (bif bitX .and .u32 (t.msip.toNat : Int) 1 == 1 then true else t.soft) = ((t.msip &&& 1#32 == 1#32) || t.soft) := by
    rw [cond_or, and_u32, ofInt_toNat]; congr 1; exact beq_nat _ 1#32
  have e2 : decide (((t.now.toNat : Nat) : Int) ≥ ((t.cmp.toNat : Nat) : Int)) = decide (t.cmp ≤ t.now) := ge_nat _ _
  have e3 : (bif t.ext then true else bif bitX .and .u8 (t.ier.toNat : Int) 1 == 1 then decide ((t.ni : Int) > 0) else false) = (t.ext || ((t.ier &&& 1#8 == 1#8) && decide (0 < t.ni))) := by
    rw [cond_or, cond_and, and_u8, ofInt_toNat]; congr 2
    · exact beq_nat _ 1#8
    · exact decide_eq_decide.2 (by omega)
  have step : ∀ {a b c : Bool}, ((t.msip &&& 1#32 == 1#32) || t.soft) = a → decide (t.cmp ≤ t.now) = b → (t.ext || ((t.ier &&& 1#8 == 1#8) && decide (0 < t.ni))) = c → mipOf t = (if a then 8#64 else 0#64) ||| (if b then 128#64 else 0#64) ||| (if c then 2048#64 else 0#64) := by
    rintro a b c rfl rfl rfl; rfl
  refine ifB_intro (fun h1 => ?_) (fun h1 => ?_) <;> refine ifB_intro (fun h2 => ?_) (fun h2 => ?_) <;> repeat (refine need_intro (by first | exact fun h => h | exact nt | exact an2 | rfl | (simp; done) | fail) ?_)
  all_goals refine ifB_intro (fun h3 => ?_) (fun h3 => ?_)
  all_goals (refine fin ?_; rw [step (e1.symm.trans h1) (e2.symm.trans h2) (e3.symm.trans h3)]; decide)
set_option maxRecDepth 100000 in
theorem entry_spec (m : B64) (mode : Int) (h : List Blk) : Does TB 98 [.s (.int .u64 m.toNat), .s (.int .i64 mode)] h (fun v h' => v = .s (.int .u64 (entryOf m mode).toNat) ∧ h' = h) := by
  refine fnX_pure TB Tryz.func98 rfl (by decide) rfl _ rfl (fun O on => ?_) h
  repeat (refine need_intro (by first | decide | exact fun h => h | exact nt | exact an2 | rfl | (simp; done) | fail) ?_)
  refine ⟨rfl, ?_⟩
  have h11 : min (Int.toNat 11) IntKind.u64.bits = 11 := by decide
  have h4 : min (Int.toNat 4) IntKind.u64.bits = 4 := by decide
  show bitX .or .u64 (bitX .or .u64 (bitX .andNot .u64 (m.toNat : Int) 6280) (IntKind.u64.wrap (bitX .and .u64 (m.toNat : Int) 8 * 2 ^ min (Int.toNat 4) IntKind.u64.bits))) (IntKind.u64.wrap (IntKind.u64.wrap mode * 2 ^ min (Int.toNat 11) IntKind.u64.bits)) = _
  simp only [h11, h4, wrap_u64 mode, and_u64, andNot_u64, shl64, or_u64, ofInt_toNat]
  rfl
set_option maxRecDepth 100000 in
theorem handler_spec (v cause : B64) (h : List Blk) : Does TB 99 [.s (.int .u64 v.toNat), .s (.int .u64 cause.toNat)] h (fun x h' => x = .s (.int .u64 (handlerOf v cause).toNat) ∧ h' = h) := by
  refine fnX_pure TB Tryz.func99 rfl (by decide) rfl _ rfl (fun O on => ?_) h
  repeat (refine need_intro (by first | decide | exact fun h => h | exact nt | exact an2 | rfl | (simp; done) | fail) ?_)
  have h63 : min (Int.toNat 63) IntKind.u64.bits = 63 := by decide
  have h1' : min (Int.toNat 1) IntKind.u64.bits = 1 := by decide
  have e1 : (bif ((cause.toNat : Int).fdiv (2 ^ min (Int.toNat 63) IntKind.u64.bits)) == 1 then bitX .and .u64 (v.toNat : Int) 1 == 1 else false) = ((cause >>> 63 == 1#64) && (v &&& 1#64 == 1#64)) := by
    rw [cond_and, h63, fdiv_pow, and_u64, ofInt_toNat]; congr 1
    · exact beq_nat _ 1#64
    · exact beq_nat _ 1#64
  refine ifB_intro (fun h => ?_) (fun h => ?_)
  · repeat (refine need_intro (by first | decide | exact fun h => h | exact nt | exact an2 | rfl | (simp; done) | fail) ?_)
    refine ⟨rfl, ?_⟩
    unfold handlerOf
    rw [if_pos (e1.symm.trans h)]
    show IntKind.u64.wrap (bitX .andNot .u64 (v.toNat : Int) 3 + IntKind.u64.wrap (4 * (IntKind.u64.wrap ((cause.toNat : Int) * 2 ^ min (Int.toNat 1) IntKind.u64.bits)).fdiv (2 ^ min (Int.toNat 1) IntKind.u64.bits))) = _
    rw [h1', shl64, fdiv_pow, andNot_u64, ofInt_toNat]
    have := mul64 4#64 (cause <<< 1 >>> 1)
    rw [show ((4#64).toNat : Int) = 4 from rfl] at this
    rw [this, add64]
    rfl
  · refine ⟨rfl, ?_⟩
    unfold handlerOf
    rw [e1] at h
    rw [h]
    show bitX .andNot .u64 (v.toNat : Int) 3 = _
    rw [andNot_u64, ofInt_toNat]
    rfl
set_option maxRecDepth 100000 in
theorem eff_spec (c : CpuV) (h : List Blk) : Does TB 73 [.agg c.segs] h (fun v h' => v = .s (.int .i64 c.eff) ∧ h' = h) := by
  refine fnX_pure TB Tryz.func73 rfl (by decide) rfl _ rfl (fun O on => ?_) h
  refine (proper_spec c _).mono ?_
  rintro _ _ ⟨rfl, rfl⟩
  repeat (refine need_intro (by first | decide | exact fun h => h | exact nt | exact an2 | rfl | (simp; done) | fail) ?_)
  have e1 : (bif c.proper.mode == 3 then bitX .and .u64 (c.proper.mstatus.toNat : Int) 131072 != 0 else false) = decide (c.proper.mode = 3 ∧ c.proper.mstatus &&& 131072#64 ≠ 0#64) := by
    rw [cond_and, and_u64, ofInt_toNat, Bool.eq_iff_iff, Bool.and_eq_true, decide_eq_true_iff, beq_iff_eq]
    refine and_congr Iff.rfl ?_
    have := bne_nat (c.proper.mstatus &&& 131072#64) 0#64
    exact (Bool.eq_iff_iff.1 this).trans bne_iff_ne
  unfold CpuV.eff
  refine ifB_intro (fun h => ?_) (fun h => ?_)
  · rw [e1] at h
    rw [if_pos (of_decide_eq_true h)]
    repeat (refine need_intro (by first | decide | exact fun h => h | exact nt | exact an2 | rfl | (simp; done) | fail) ?_)
    refine ⟨rfl, ?_⟩
    have h11 : min (Int.toNat 11) IntKind.u64.bits = 11 := by decide
    show IntKind.i64.wrap ((bitX .and .u64 (c.proper.mstatus.toNat : Int) 6144).fdiv (2 ^ min (Int.toNat 11) IntKind.u64.bits)) = _
    rw [h11, and_u64, ofInt_toNat, fdiv_pow]
    have : ((c.proper.mstatus &&& 6144#64) >>> 11).toNat ≤ 6144 := by
      rw [BitVec.toNat_ushiftRight, Nat.shiftRight_eq_div_pow, BitVec.toNat_and]
      exact Nat.le_trans (Nat.div_le_self _ _) Nat.and_le_right
    exact i64_in (by omega) (by show (((c.proper.mstatus &&& 6144#64) >>> 11).toNat : Int) ≤ _; omega)
  · rw [e1] at h
    rw [if_neg (of_decide_eq_false h)]
    exact eqvE_refl _
end Go.Proofs.YtghcdkpgcanpgaaGreat
