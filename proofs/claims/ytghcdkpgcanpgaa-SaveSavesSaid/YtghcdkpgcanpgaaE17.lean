/- The engine, part 17: a call that is handed a pointer to one cell of a block, by a contract that is shown of a small heap with that cell alone. Plain theorems; their condition: what the call leaves of the cell. -/
import Derived.Test.YtghcdkpgcanpgaaE16
namespace Go.Anv
open Go

theorem roOk_mk : ∀ {h h' : List Blk}, (∀ (i : Nat) (B : Blk), h'[i]? = some B → B.mut = true ∨ B = .dead ∨ h[i]? = some B) → roOk h h'
  | [], [], _ => trivial
  | _ :: _, [], _ => trivial
  | [], B :: r, hk => ⟨by rcases hk 0 B (by simp) with h | h | h
                          · exact .inl h
                          · exact .inr h
                          · simp at h, roOk_mk fun i C hi => by
    rcases hk (i + 1) C (by simpa using hi) with h | h | h
    · exact .inl h
    · exact .inr (.inl h)
    · simp at h⟩
  | A :: s, B :: r, hk => ⟨by rcases hk 0 B (by simp) with h | h | h
                              · exact .inl h
                              · exact .inr (.inl h)
                              · exact .inr (.inr (by simpa using h.symm)), roOk_mk fun i C hi => by
    rcases hk (i + 1) C (by simpa using hi) with h | h | h
    · exact .inl h
    · exact .inr (.inl h)
    · exact .inr (.inr (by simpa using h))⟩

theorem roOk_merge {h hc h' : List Blk} {κ : List Nat} (hnd : κ.Nodup) (hh : subH h κ (renH (lk κ h.length) hc)) (ho : roOk hc h') (hl : κ.length ≤ h'.length) : roOk h (mergeB h κ (renH (lk κ h.length) h')) := by
  obtain ⟨h1, h2⟩ := subH_get hh
  rw [length_renH] at h1
  have hlt : ∀ k ∈ κ, k < h.length := fun k hk => by
    obtain ⟨i, hi⟩ := List.getElem?_of_mem hk
    have hi' : i < hc.length := by
      have : i < κ.length := by
        rcases Nat.lt_or_ge i κ.length with h' | h'
        · exact h'
        · rw [List.getElem?_eq_none h'] at hi; cases hi
      omega
    obtain ⟨k', h3, h4⟩ := h2 i (renB (lk κ h.length) hc[i]) (by rw [renH_get, List.getElem?_eq_getElem hi']; rfl)
    rw [hi] at h3
    cases h3
    exact lt_of_get h4
  refine roOk_mk fun j B hj => ?_
  rcases mergeB_get h κ _ hnd hlt (by rw [length_renH]; exact hl) j B hj with ⟨_, _, h3⟩ | ⟨i, h3, h4⟩
  · exact .inr (.inr h3)
  · rw [renH_get] at h4
    simp only [Option.map_eq_some_iff] at h4
    obtain ⟨B', h5, rfl⟩ := h4
    rcases roOk_get ho i B' h5 with h6 | rfl | h6
    · exact .inl (by rw [mut_ren]; exact h6)
    · exact .inr (.inl rfl)
    · obtain ⟨k, h7, h8⟩ := h2 i (renB (lk κ h.length) B') (by rw [renH_get, h6]; rfl)
      have hi : i < κ.length := by
        rcases Nat.lt_or_ge i κ.length with h' | h'
        · exact h'
        · rw [List.getElem?_eq_none h'] at h7; cases h7
      rw [look_lt κ _ i hi] at h3
      rw [List.getElem?_eq_getElem hi] at h7
      cases h7
      subst h3
      exact .inr (.inr h8)

/-- A cell of some cells; P: what they become with another in its place. -/
def Cell (cs : List Seg) (o : Nat) (e : SV) (P : SV → List Seg → Prop) : Prop :=
  ∃ a c, sizeS a = o ∧ (∀ E l, denS E cs l → denS E (a ++ ([.one e] ++ c)) l) ∧ ∀ e' cs', P e' cs' → ∀ E l, denS E (a ++ ([.one e'] ++ c)) l → denS E cs' l

theorem Cell.cons_one {cs : List Seg} {o : Nat} {e v : SV} {P : SV → List Seg → Prop} (h : Cell cs o e P) : Cell (.one v :: cs) (o + 1) e (fun e' cs' => ∃ c, P e' c ∧ cs' = .one v :: c) := by
  obtain ⟨a, c, h1, h2, h3⟩ := h
  refine ⟨.one v :: a, c, by simp [sizeS, h1], fun E l hd => ?_, fun e' cs' hp E l hd => ?_⟩
  · simp only [denS, List.cons_append] at hd ⊢
    obtain ⟨u, l', rfl, k1, k2⟩ := hd
    exact ⟨u, l', rfl, k1, h2 E l' k2⟩
  · obtain ⟨c', hp, rfl⟩ := hp
    simp only [denS, List.cons_append] at hd ⊢
    obtain ⟨u, l', rfl, k1, k2⟩ := hd
    exact ⟨u, l', rfl, k1, h3 e' c' hp E l' k2⟩

theorem Cell.cons_ints {cs : List Seg} {o : Nat} {e : SV} {P : SV → List Seg → Prop} {k : IntKind} {n : Nat} {f : Nat → Int} (h : Cell cs o e P) : Cell (.ints k n f :: cs) (n + o) e (fun e' cs' => ∃ c, P e' c ∧ cs' = .ints k n f :: c) := by
  obtain ⟨a, c, h1, h2, h3⟩ := h
  refine ⟨.ints k n f :: a, c, by simp [sizeS, h1], fun E l hd => ?_, fun e' cs' hp E l hd => ?_⟩
  · simp only [denS, List.cons_append] at hd ⊢
    obtain ⟨l', rfl, k2⟩ := hd
    exact ⟨l', rfl, h2 E l' k2⟩
  · obtain ⟨c', hp, rfl⟩ := hp
    simp only [denS, List.cons_append] at hd ⊢
    obtain ⟨l', rfl, k2⟩ := hd
    exact ⟨l', rfl, h3 e' c' hp E l' k2⟩

theorem Cell.mono {cs : List Seg} {o : Nat} {e : SV} {P P' : SV → List Seg → Prop} (h : Cell cs o e P) (hp : ∀ e' cs', P' e' cs' → P e' cs') : Cell cs o e P' := by
  obtain ⟨a, c, h1, h2, h3⟩ := h
  exact ⟨a, c, h1, h2, fun e' cs' h => h3 e' cs' (hp e' cs' h)⟩

/-- A cell of its own. -/
theorem Cell.one : ∀ {cs : List Seg} {o : Nat} {e : SV}, getS cs o = some e → (∃ e' cs', setS cs o e' = some cs') → Cell cs o e (fun e' cs' => setS cs o e' = some cs')
  | [], _, _, h, _ => by simp [getS] at h
  | .one v :: r, 0, e, h, _ => by
    simp only [getS, Option.some.injEq] at h
    subst h
    refine ⟨[], r, rfl, fun _ _ h => h, fun e' cs' h' _ _ h => ?_⟩
    simp only [setS, Option.some.injEq] at h'
    subst h'
    exact h
  | .one v :: r, o + 1, e, h, hw => by
    simp only [getS] at h
    obtain ⟨e', cs', hw⟩ := hw
    simp only [setS, Option.map_eq_some_iff] at hw
    obtain ⟨c, hc, _⟩ := hw
    refine (Cell.one h ⟨e', c, hc⟩).cons_one.mono fun e' cs' h' => ?_
    simp only [setS, Option.map_eq_some_iff] at h'
    obtain ⟨c, hc, rfl⟩ := h'
    exact ⟨c, hc, rfl⟩
  | .ints k n f :: r, o, e, h, hw => by
    obtain ⟨e', cs', hw⟩ := hw
    unfold setS at hw
    split at hw
    · rename_i ho
      simp only [Option.map_eq_some_iff] at hw
      obtain ⟨c, hc, _⟩ := hw
      unfold getS at h
      rw [if_neg (by omega)] at h
      have := (Cell.one h ⟨e', c, hc⟩).cons_ints (k := k) (n := n) (f := f)
      rw [show n + (o - n) = o by omega] at this
      refine this.mono fun e' cs' h' => ?_
      unfold setS at h'
      rw [if_pos ho] at h'
      simp only [Option.map_eq_some_iff] at h'
      obtain ⟨c, hc, rfl⟩ := h'
      exact ⟨c, hc, rfl⟩
    · cases hw

/-- A cell among whole numbers of one kind. -/
theorem Cell.ints : ∀ {cs : List Seg} {o j : Nat} {k : IntKind} {n : Nat} {f : Nat → Int}, getI cs o = some (k, n, f) → j < n → Cell cs (o + j) (.int k (f j)) (fun e' cs' => ∃ x, e' = .int k x ∧ setI cs o j k x = some cs')
  | [], _, _, _, _, _, h, _ => by simp [getI] at h
  | .one v :: r, 0, j, k, n, f, h, hj => by simp [getI] at h
  | .one v :: r, o + 1, j, k, n, f, h, hj => by
    simp only [getI] at h
    have := (Cell.ints (j := j) h hj).cons_one (v := v)
    rw [show o + j + 1 = o + 1 + j by omega] at this
    refine this.mono fun e' cs' h' => ?_
    obtain ⟨x, rfl, h'⟩ := h'
    simp only [setI, Option.map_eq_some_iff] at h'
    obtain ⟨c, hc, rfl⟩ := h'
    exact ⟨c, ⟨x, rfl, hc⟩, rfl⟩
  | .ints q m g :: r, o, j, k, n, f, h, hj => by
    cases o with
    | zero =>
      simp only [getI, Option.some.injEq, Prod.mk.injEq] at h
      obtain ⟨rfl, rfl, rfl⟩ := h
      rw [Nat.zero_add]
      refine ⟨[.ints q j g], .ints q (m - j - 1) (fun i => g (j + 1 + i)) :: r, by simp [sizeS], fun E l hd => ?_, fun e' cs' h' E l hd => ?_⟩
      · simp only [denS, List.cons_append, List.nil_append, denV] at hd ⊢
        obtain ⟨l', rfl, k2⟩ := hd
        rw [intsOf_split q g hj]
        exact ⟨_, by rw [List.append_assoc, List.cons_append], _, _, rfl, rfl, l', rfl, k2⟩
      · obtain ⟨x, rfl, h'⟩ := h'
        simp only [setI, if_true, Option.some.injEq] at h'
        subst h'
        simp only [denS, List.cons_append, List.nil_append, denV] at hd ⊢
        obtain ⟨l1, rfl, v, l2, rfl, rfl, l3, rfl, k2⟩ := hd
        refine ⟨l3, ?_, k2⟩
        rw [intsOf_split q (fun i => if i = j then x else g i) hj, List.append_assoc, intsOf_congr (f := g) (g := fun i => if i = j then x else g i) (fun i hi => (if_neg (by omega)).symm), intsOf_congr (f := fun i => g (j + 1 + i)) (g := fun i => if j + 1 + i = j then x else g (j + 1 + i)) (fun i hi => (if_neg (by omega)).symm)]
        simp
    | succ o =>
      unfold getI at h
      split at h
      · rename_i ho
        have := (Cell.ints (j := j) h hj).cons_ints (k := q) (n := m) (f := g)
        rw [show m + (o + 1 - m + j) = o + 1 + j by omega] at this
        refine this.mono fun e' cs' h' => ?_
        obtain ⟨x, rfl, h'⟩ := h'
        unfold setI at h'
        rw [if_pos ho] at h'
        simp only [Option.map_eq_some_iff] at h'
        obtain ⟨c, hc, rfl⟩ := h'
        exact ⟨c, ⟨x, rfl, hc⟩, rfl⟩
      · cases h

/-- A cell that stays as it is. -/
theorem Cell.keep {cs : List Seg} {o : Nat} {e : SV} (h : CellAt cs o e cs e) : Cell cs o e (fun e' cs' => e' = e ∧ cs' = cs) := by
  obtain ⟨a, c, h1, h2, h3⟩ := h
  exact ⟨a, c, h1, h2, fun e' cs' h => by obtain ⟨rfl, rfl⟩ := h; exact h3⟩

/-- **A call that is handed a pointer to a cell, by a contract shown of a small heap with that cell alone.** -/
theorem Does.cell {T : Tbl} {f : FuncId} {args args' : List EV} {hc h : List Blk} {Q K : EV → List Blk → Prop} (d : Does T f args hc Q) (κ : List Nat) (pv k N : Nat) {m : Bool} {sp : Nat} {cs : List Seg} {x : SV} {P : SV → List Seg → Prop} (hN : h.length = N)
    (hv : nthB h pv = some (.cells m cs sp)) (hcell : Cell cs k x P) (hh : subH (updB h pv .dead ++ [.cells m [.one x] 0]) κ (renH (lk κ (N + 1)) hc)) (ha : partT pv N k args' (renT (lk κ (N + 1)) args))
    (hnd : κ.Nodup) (hro : ∀ v h', Q v h' → roOk hc h') (hlen : ∀ v h', Q v h' → κ.length ≤ h'.length)
    (hK : ∀ v h', Q v h' → ∃ x' cs', nthB (mergeB (updB h pv .dead ++ [.cells m [.one x] 0]) κ (renH (lk κ (N + 1)) h')) N = some (.cells m [.one x'] 0) ∧ P x' cs' ∧
      forceH (updB (updB (mergeB (updB h pv .dead ++ [.cells m [.one x] 0]) κ (renH (lk κ (N + 1)) h')) N .dead) pv (.cells m cs' sp)) fun h2 => forceE (renE (lk κ (N + 1)) v) fun v => K v h2) : Does T f args' h K := by
  subst hN
  obtain ⟨a, b, h1, h2, h3⟩ := hcell
  have hl1 : (updB h pv .dead ++ [Blk.cells m [.one x] 0]).length = h.length + 1 := by rw [List.length_append, len_updB]; rfl
  have d' := Does.frame d κ (h := updB h pv .dead ++ [Blk.cells m [.one x] 0]) hnd hro (by rw [hl1]; exact hh)
  refine Does.part pv a [.one x] b hv h2 (by rw [h1]; exact ha) (hl1 ▸ d') ?_
  rintro v h'' ⟨v', h', hq, rfl, rfl⟩
  obtain ⟨x', cs', k1, k2, k3⟩ := hK v' h' hq
  rw [forceH_eq, forceE_eq] at k3
  refine ⟨?_, [.one x'], cs', ?_, rfl, h3 x' cs' k2, ?_⟩
  · have := roOk_merge hnd (by rw [hl1]; exact hh) (hro v' h' hq) (hlen v' h' hq)
    rwa [hl1] at this
  · exact k1
  · exact k3

end Go.Anv

namespace Go.Anv
open Go
structure Box (p : Prop) : Prop where
  go : p

/-- n rounds at most, by the recursor itself. -/
def loopR (T : Tbl) (O : Org) (c : Code) (K : Exit → St → Prop) (n : Nat) : St → Prop :=
  Nat.rec (motive := fun _ => St → Prop) (fun _ => False) (fun _ ih s => Box (wpx T O c s (seqK ih K))) n

theorem loopR_eq (T : Tbl) (O : Org) (c : Code) (K : Exit → St → Prop) : ∀ (n : Nat) (s : St), loopR T O c K n s = loopN T O c n s K
  | 0, _ => rfl
  | n + 1, s => by
    have e : (Box (wpx T O c s (seqK (loopR T O c K n) K)) : Prop) = wpx T O c s (seqK (loopR T O c K n) K) := propext ⟨fun h => h.go, fun h => ⟨h⟩⟩
    show Box (wpx T O c s (seqK (loopR T O c K n) K)) = wpx T O c s (seqK (fun s' => loopN T O c n s' K) K)
    rw [e, show loopR T O c K n = fun s' => loopN T O c n s' K from funext (loopR_eq T O c K n)]

/-- A loop of at most n rounds, each walked by itself. -/
theorem loop_times {T : Tbl} {O : Org} (on : O.E.n = O.h.length) {c : Code} {K : Exit → St → Prop} (n : Nat) {s : St} (h : loopR T O c K n s) : LoopG T O c s K := loop_unroll on n (loopR_eq T O c K n s ▸ h)
end Go.Anv

namespace Go.Anv
open Go
/-- Arguments that say more. -/
theorem Does.args {T : Tbl} {f : FuncId} {a b : List EV} {h : List Blk} {Q : EV → List Blk → Prop} (e : eqvT a b) (d : Does T f b h Q) : Does T f a h Q := by
  refine ⟨?_⟩
  rcases d.go with ⟨h1, h2⟩ | h1
  · exact .inl ⟨h1, fun E w vs S ha => h2 E w vs S (eqvT_den _ _ _ e ha)⟩
  · exact .inr fun E w vs S ha => h1 E w vs S (eqvT_den _ _ _ e ha)
end Go.Anv

namespace Go.Anv
open Go
/-- Arguments that are wanted. -/
def unG : List EV → List EV → Prop
  | [], [] => True
  | .gd g v :: r, w :: r' => (g = true ∧ v = w) ∧ unG r r'
  | v :: r, w :: r' => v = w ∧ unG r r'
  | _, _ => False
theorem unG_den {E : Emb} : ∀ (a b : List EV) (l : List Value), unG a b → denT E a l → denT E b l
  | [], [], _, _, h => h
  | x :: r, y :: r', l, he, h => by
    have key : (denE E x = denE E y ∨ ∃ g v, x = .gd g v ∧ g = true ∧ v = y) ∧ unG r r' := by
      cases x with
      | gd g v => exact ⟨.inr ⟨g, v, rfl, he.1⟩, he.2⟩
      | s v => exact ⟨.inl (by rw [he.1]), he.2⟩
      | agg v => exact ⟨.inl (by rw [he.1]), he.2⟩
      | tuple v => exact ⟨.inl (by rw [he.1]), he.2⟩
      | junk => exact ⟨.inl (by rw [he.1]), he.2⟩
    simp only [denT] at h ⊢
    obtain ⟨v, l', rfl, h1, h2⟩ := h
    refine ⟨v, l', rfl, ?_, unG_den r r' l' key.2 h2⟩
    rcases key.1 with e | ⟨g, u, rfl, rfl, rfl⟩
    · rw [← e]; exact h1
    · simp only [denE] at h1
      exact h1.1 trivial
  | [], _ :: _, _, he, _ => he.elim
  | x :: _, [], _, he, _ => by cases x <;> exact he.elim
theorem Does.ungd {T : Tbl} {f : FuncId} {a b : List EV} {h : List Blk} {Q : EV → List Blk → Prop} (e : unG a b) (d : Does T f b h Q) : Does T f a h Q := by
  refine ⟨?_⟩
  rcases d.go with ⟨h1, h2⟩ | h1
  · exact .inl ⟨h1, fun E w vs S ha => h2 E w vs S (unG_den _ _ _ e ha)⟩
  · exact .inr fun E w vs S ha => h1 E w vs S (unG_den _ _ _ e ha)
end Go.Anv

namespace Go.Anv
open Go
/-- **A call that is handed a part of a block, by a contract shown of a small heap with that part as a block.** -/
theorem Does.partAt {T : Tbl} {f : FuncId} {args args' : List EV} {hc h : List Blk} {Q K : EV → List Blk → Prop} (d : Does T f args hc Q) (κ : List Nat) (i N : Nat) {m : Bool} {sp : Nat} {cs : List Seg} (a b c : List Seg) (hN : h.length = N)
    (hi : nthB h i = some (.cells m cs sp)) (hs : ∀ E l, denS E cs l → denS E (a ++ (b ++ c)) l) (hh : subH (updB h i .dead ++ [.cells m b 0]) κ (renH (lk κ (N + 1)) hc)) (ha : partT i N (sizeS a) args' (renT (lk κ (N + 1)) args))
    (hnd : κ.Nodup) (hro : ∀ v h', Q v h' → roOk hc h') (hlen : ∀ v h', Q v h' → κ.length ≤ h'.length)
    (hK : ∀ v h', Q v h' → ∃ b' cs', nthB (mergeB (updB h i .dead ++ [.cells m b 0]) κ (renH (lk κ (N + 1)) h')) N = some (.cells m b' 0) ∧ sizeS b' = sizeS b ∧ (∀ E l, denS E (a ++ (b' ++ c)) l → denS E cs' l) ∧
      forceH (updB (updB (mergeB (updB h i .dead ++ [.cells m b 0]) κ (renH (lk κ (N + 1)) h')) N .dead) i (.cells m cs' sp)) fun h2 => forceE (renE (lk κ (N + 1)) v) fun v => K v h2) : Does T f args' h K := by
  subst hN
  have hl1 : (updB h i .dead ++ [Blk.cells m b 0]).length = h.length + 1 := by rw [List.length_append, len_updB]; rfl
  have d' := Does.frame d κ (h := updB h i .dead ++ [Blk.cells m b 0]) hnd hro (by rw [hl1]; exact hh)
  refine Does.part i a b c hi hs ha (hl1 ▸ d') ?_
  rintro v h'' ⟨v', h', hq, rfl, rfl⟩
  obtain ⟨b', cs', k1, k2, k3, k4⟩ := hK v' h' hq
  rw [forceH_eq, forceE_eq] at k4
  refine ⟨?_, b', cs', ?_, k2, k3, ?_⟩
  · have := roOk_merge hnd (by rw [hl1]; exact hh) (hro v' h' hq) (hlen v' h' hq)
    rwa [hl1] at this
  · exact k1
  · exact k4
end Go.Anv
