/- Part 7 of the texts of this claim, merged: E17, P2, P3, P4, Q1, Q2, Q3, Q4, Q5, Q6, E18, Q7, Q8, N1, J1, O1, E20, E21, E23, E24, E25. No condition: plain theorems, contracts of functions. -/
import Derived.Test.YtdlpmbghocabbaaGreatDoorZ6

set_option linter.unusedSimpArgs false
set_option linter.unusedVariables false
/- The engine, part 17: a call that is handed a pointer to one cell of a block, by a contract that is shown of a small heap with that cell alone. Plain theorems; their condition: what the call leaves of the cell. -/
namespace Go.Anv
open Go

theorem roOk_mk : ∀ {h h' : List Blk}, (∀ (i : Nat) (B : Blk), h'[i]? = some B → B.mut = true ∨ B = .dead ∨ h[i]? = some B) → roOk h h'
  | [], [], _ => trivial
  | _ :: _, [], _ => trivial
  | [], B :: r, hk => ⟨by rcases hk 0 B (by simp) with h | h | h
                          · exact .inl h
                          · exact .inr h
                          · simp at h, roOk_mk fun i C hi => by
    rcases hk (i + 1) C (by simpa using hi) with h | h | h
    · exact .inl h
    · exact .inr (.inl h)
    · simp at h⟩
  | A :: s, B :: r, hk => ⟨by rcases hk 0 B (by simp) with h | h | h
                              · exact .inl h
                              · exact .inr (.inl h)
                              · exact .inr (.inr (by simpa using h.symm)), roOk_mk fun i C hi => by
    rcases hk (i + 1) C (by simpa using hi) with h | h | h
    · exact .inl h
    · exact .inr (.inl h)
    · exact .inr (.inr (by simpa using h))⟩

theorem roOk_merge {h hc h' : List Blk} {κ : List Nat} (hnd : κ.Nodup) (hh : subH h κ (renH (lk κ h.length) hc)) (ho : roOk hc h') (hl : κ.length ≤ h'.length) : roOk h (mergeB h κ (renH (lk κ h.length) h')) := by
  obtain ⟨h1, h2⟩ := subH_get hh
  rw [length_renH] at h1
  have hlt : ∀ k ∈ κ, k < h.length := fun k hk => by
    obtain ⟨i, hi⟩ := List.getElem?_of_mem hk
    have hi' : i < hc.length := by
      have : i < κ.length := by
        rcases Nat.lt_or_ge i κ.length with h' | h'
        · exact h'
        · rw [List.getElem?_eq_none h'] at hi; cases hi
      omega
    obtain ⟨k', h3, h4⟩ := h2 i (renB (lk κ h.length) hc[i]) (by rw [renH_get, List.getElem?_eq_getElem hi']; rfl)
    rw [hi] at h3
    cases h3
    exact lt_of_get h4
  refine roOk_mk fun j B hj => ?_
  rcases mergeB_get h κ _ hnd hlt (by rw [length_renH]; exact hl) j B hj with ⟨_, _, h3⟩ | ⟨i, h3, h4⟩
  · exact .inr (.inr h3)
  · rw [renH_get] at h4
    simp only [Option.map_eq_some_iff] at h4
    obtain ⟨B', h5, rfl⟩ := h4
    rcases roOk_get ho i B' h5 with h6 | rfl | h6
    · exact .inl (by rw [mut_ren]; exact h6)
    · exact .inr (.inl rfl)
    · obtain ⟨k, h7, h8⟩ := h2 i (renB (lk κ h.length) B') (by rw [renH_get, h6]; rfl)
      have hi : i < κ.length := by
        rcases Nat.lt_or_ge i κ.length with h' | h'
        · exact h'
        · rw [List.getElem?_eq_none h'] at h7; cases h7
      rw [look_lt κ _ i hi] at h3
      rw [List.getElem?_eq_getElem hi] at h7
      cases h7
      subst h3
      exact .inr (.inr h8)

/-- A cell of some cells; P: what they become with another in its place. -/
def Cell (cs : List Seg) (o : Nat) (e : SV) (P : SV → List Seg → Prop) : Prop :=
  ∃ a c, sizeS a = o ∧ (∀ E l, denS E cs l → denS E (a ++ ([.one e] ++ c)) l) ∧ ∀ e' cs', P e' cs' → ∀ E l, denS E (a ++ ([.one e'] ++ c)) l → denS E cs' l

theorem Cell.cons_one {cs : List Seg} {o : Nat} {e v : SV} {P : SV → List Seg → Prop} (h : Cell cs o e P) : Cell (.one v :: cs) (o + 1) e (fun e' cs' => ∃ c, P e' c ∧ cs' = .one v :: c) := by
  obtain ⟨a, c, h1, h2, h3⟩ := h
  refine ⟨.one v :: a, c, by simp [sizeS, h1], fun E l hd => ?_, fun e' cs' hp E l hd => ?_⟩
  · simp only [denS, List.cons_append] at hd ⊢
    obtain ⟨u, l', rfl, k1, k2⟩ := hd
    exact ⟨u, l', rfl, k1, h2 E l' k2⟩
  · obtain ⟨c', hp, rfl⟩ := hp
    simp only [denS, List.cons_append] at hd ⊢
    obtain ⟨u, l', rfl, k1, k2⟩ := hd
    exact ⟨u, l', rfl, k1, h3 e' c' hp E l' k2⟩

theorem Cell.cons_ints {cs : List Seg} {o : Nat} {e : SV} {P : SV → List Seg → Prop} {k : IntKind} {n : Nat} {f : Nat → Int} (h : Cell cs o e P) : Cell (.ints k n f :: cs) (n + o) e (fun e' cs' => ∃ c, P e' c ∧ cs' = .ints k n f :: c) := by
  obtain ⟨a, c, h1, h2, h3⟩ := h
  refine ⟨.ints k n f :: a, c, by simp [sizeS, h1], fun E l hd => ?_, fun e' cs' hp E l hd => ?_⟩
  · simp only [denS, List.cons_append] at hd ⊢
    obtain ⟨l', rfl, k2⟩ := hd
    exact ⟨l', rfl, h2 E l' k2⟩
  · obtain ⟨c', hp, rfl⟩ := hp
    simp only [denS, List.cons_append] at hd ⊢
    obtain ⟨l', rfl, k2⟩ := hd
    exact ⟨l', rfl, h3 e' c' hp E l' k2⟩

theorem Cell.mono {cs : List Seg} {o : Nat} {e : SV} {P P' : SV → List Seg → Prop} (h : Cell cs o e P) (hp : ∀ e' cs', P' e' cs' → P e' cs') : Cell cs o e P' := by
  obtain ⟨a, c, h1, h2, h3⟩ := h
  exact ⟨a, c, h1, h2, fun e' cs' h => h3 e' cs' (hp e' cs' h)⟩

/-- A cell of its own. -/
theorem Cell.one : ∀ {cs : List Seg} {o : Nat} {e : SV}, getS cs o = some e → (∃ e' cs', setS cs o e' = some cs') → Cell cs o e (fun e' cs' => setS cs o e' = some cs')
  | [], _, _, h, _ => by simp [getS] at h
  | .one v :: r, 0, e, h, _ => by
    simp only [getS, Option.some.injEq] at h
    subst h
    refine ⟨[], r, rfl, fun _ _ h => h, fun e' cs' h' _ _ h => ?_⟩
    simp only [setS, Option.some.injEq] at h'
    subst h'
    exact h
  | .one v :: r, o + 1, e, h, hw => by
    simp only [getS] at h
    obtain ⟨e', cs', hw⟩ := hw
    simp only [setS, Option.map_eq_some_iff] at hw
    obtain ⟨c, hc, _⟩ := hw
    refine (Cell.one h ⟨e', c, hc⟩).cons_one.mono fun e' cs' h' => ?_
    simp only [setS, Option.map_eq_some_iff] at h'
    obtain ⟨c, hc, rfl⟩ := h'
    exact ⟨c, hc, rfl⟩
  | .ints k n f :: r, o, e, h, hw => by
    obtain ⟨e', cs', hw⟩ := hw
    unfold setS at hw
    split at hw
    · rename_i ho
      simp only [Option.map_eq_some_iff] at hw
      obtain ⟨c, hc, _⟩ := hw
      unfold getS at h
      rw [if_neg (by omega)] at h
      have := (Cell.one h ⟨e', c, hc⟩).cons_ints (k := k) (n := n) (f := f)
      rw [show n + (o - n) = o by omega] at this
      refine this.mono fun e' cs' h' => ?_
      unfold setS at h'
      rw [if_pos ho] at h'
      simp only [Option.map_eq_some_iff] at h'
      obtain ⟨c, hc, rfl⟩ := h'
      exact ⟨c, hc, rfl⟩
    · cases hw

/-- A cell among whole numbers of one kind. -/
theorem Cell.ints : ∀ {cs : List Seg} {o j : Nat} {k : IntKind} {n : Nat} {f : Nat → Int}, getI cs o = some (k, n, f) → j < n → Cell cs (o + j) (.int k (f j)) (fun e' cs' => ∃ x, e' = .int k x ∧ setI cs o j k x = some cs')
  | [], _, _, _, _, _, h, _ => by simp [getI] at h
  | .one v :: r, 0, j, k, n, f, h, hj => by simp [getI] at h
  | .one v :: r, o + 1, j, k, n, f, h, hj => by
    simp only [getI] at h
    have := (Cell.ints (j := j) h hj).cons_one (v := v)
    rw [show o + j + 1 = o + 1 + j by omega] at this
    refine this.mono fun e' cs' h' => ?_
    obtain ⟨x, rfl, h'⟩ := h'
    simp only [setI, Option.map_eq_some_iff] at h'
    obtain ⟨c, hc, rfl⟩ := h'
    exact ⟨c, ⟨x, rfl, hc⟩, rfl⟩
  | .ints q m g :: r, o, j, k, n, f, h, hj => by
    cases o with
    | zero =>
      simp only [getI, Option.some.injEq, Prod.mk.injEq] at h
      obtain ⟨rfl, rfl, rfl⟩ := h
      rw [Nat.zero_add]
      refine ⟨[.ints q j g], .ints q (m - j - 1) (fun i => g (j + 1 + i)) :: r, by simp [sizeS], fun E l hd => ?_, fun e' cs' h' E l hd => ?_⟩
      · simp only [denS, List.cons_append, List.nil_append, denV] at hd ⊢
        obtain ⟨l', rfl, k2⟩ := hd
        rw [intsOf_split q g hj]
        exact ⟨_, by rw [List.append_assoc, List.cons_append], _, _, rfl, rfl, l', rfl, k2⟩
      · obtain ⟨x, rfl, h'⟩ := h'
        simp only [setI, if_true, Option.some.injEq] at h'
        subst h'
        simp only [denS, List.cons_append, List.nil_append, denV] at hd ⊢
        obtain ⟨l1, rfl, v, l2, rfl, rfl, l3, rfl, k2⟩ := hd
        refine ⟨l3, ?_, k2⟩
        rw [intsOf_split q (fun i => if i = j then x else g i) hj, List.append_assoc, intsOf_congr (f := g) (g := fun i => if i = j then x else g i) (fun i hi => (if_neg (by omega)).symm), intsOf_congr (f := fun i => g (j + 1 + i)) (g := fun i => if j + 1 + i = j then x else g (j + 1 + i)) (fun i hi => (if_neg (by omega)).symm)]
        simp
    | succ o =>
      unfold getI at h
      split at h
      · rename_i ho
        have := (Cell.ints (j := j) h hj).cons_ints (k := q) (n := m) (f := g)
        rw [show m + (o + 1 - m + j) = o + 1 + j by omega] at this
        refine this.mono fun e' cs' h' => ?_
        obtain ⟨x, rfl, h'⟩ := h'
        unfold setI at h'
        rw [if_pos ho] at h'
        simp only [Option.map_eq_some_iff] at h'
        obtain ⟨c, hc, rfl⟩ := h'
        exact ⟨c, ⟨x, rfl, hc⟩, rfl⟩
      · cases h

/-- A cell that stays as it is. -/
theorem Cell.keep {cs : List Seg} {o : Nat} {e : SV} (h : CellAt cs o e cs e) : Cell cs o e (fun e' cs' => e' = e ∧ cs' = cs) := by
  obtain ⟨a, c, h1, h2, h3⟩ := h
  exact ⟨a, c, h1, h2, fun e' cs' h => by obtain ⟨rfl, rfl⟩ := h; exact h3⟩

/-- **A call that is handed a pointer to a cell, by a contract shown of a small heap with that cell alone.** -/
theorem Does.cell {T : Tbl} {f : FuncId} {args args' : List EV} {hc h : List Blk} {Q K : EV → List Blk → Prop} (d : Does T f args hc Q) (κ : List Nat) (pv k N : Nat) {m : Bool} {sp : Nat} {cs : List Seg} {x : SV} {P : SV → List Seg → Prop} (hN : h.length = N)
    (hv : nthB h pv = some (.cells m cs sp)) (hcell : Cell cs k x P) (hh : subH (updB h pv .dead ++ [.cells m [.one x] 0]) κ (renH (lk κ (N + 1)) hc)) (ha : partT pv N k args' (renT (lk κ (N + 1)) args))
    (hnd : κ.Nodup) (hro : ∀ v h', Q v h' → roOk hc h') (hlen : ∀ v h', Q v h' → κ.length ≤ h'.length)
    (hK : ∀ v h', Q v h' → ∃ x' cs', nthB (mergeB (updB h pv .dead ++ [.cells m [.one x] 0]) κ (renH (lk κ (N + 1)) h')) N = some (.cells m [.one x'] 0) ∧ P x' cs' ∧
      forceH (updB (updB (mergeB (updB h pv .dead ++ [.cells m [.one x] 0]) κ (renH (lk κ (N + 1)) h')) N .dead) pv (.cells m cs' sp)) fun h2 => forceE (renE (lk κ (N + 1)) v) fun v => K v h2) : Does T f args' h K := by
  subst hN
  obtain ⟨a, b, h1, h2, h3⟩ := hcell
  have hl1 : (updB h pv .dead ++ [Blk.cells m [.one x] 0]).length = h.length + 1 := by rw [List.length_append, len_updB]; rfl
  have d' := Does.frame d κ (h := updB h pv .dead ++ [Blk.cells m [.one x] 0]) hnd hro (by rw [hl1]; exact hh)
  refine Does.part pv a [.one x] b hv h2 (by rw [h1]; exact ha) (hl1 ▸ d') ?_
  rintro v h'' ⟨v', h', hq, rfl, rfl⟩
  obtain ⟨x', cs', k1, k2, k3⟩ := hK v' h' hq
  rw [forceH_eq, forceE_eq] at k3
  refine ⟨?_, [.one x'], cs', ?_, rfl, h3 x' cs' k2, ?_⟩
  · have := roOk_merge hnd (by rw [hl1]; exact hh) (hro v' h' hq) (hlen v' h' hq)
    rwa [hl1] at this
  · exact k1
  · exact k3

end Go.Anv

namespace Go.Anv
open Go
structure Box (p : Prop) : Prop where
  go : p

/-- n rounds at most, by the recursor itself. -/
def loopR (T : Tbl) (O : Org) (c : Code) (K : Exit → St → Prop) (n : Nat) : St → Prop :=
  Nat.rec (motive := fun _ => St → Prop) (fun _ => False) (fun _ ih s => Box (wpx T O c s (seqK ih K))) n

theorem loopR_eq (T : Tbl) (O : Org) (c : Code) (K : Exit → St → Prop) : ∀ (n : Nat) (s : St), loopR T O c K n s = loopN T O c n s K
  | 0, _ => rfl
  | n + 1, s => by
    have e : (Box (wpx T O c s (seqK (loopR T O c K n) K)) : Prop) = wpx T O c s (seqK (loopR T O c K n) K) := propext ⟨fun h => h.go, fun h => ⟨h⟩⟩
    show Box (wpx T O c s (seqK (loopR T O c K n) K)) = wpx T O c s (seqK (fun s' => loopN T O c n s' K) K)
    rw [e, show loopR T O c K n = fun s' => loopN T O c n s' K from funext (loopR_eq T O c K n)]

/-- A loop of at most n rounds, each walked by itself. -/
theorem loop_times {T : Tbl} {O : Org} (on : O.E.n = O.h.length) {c : Code} {K : Exit → St → Prop} (n : Nat) {s : St} (h : loopR T O c K n s) : LoopG T O c s K := loop_unroll on n (loopR_eq T O c K n s ▸ h)
end Go.Anv

namespace Go.Anv
open Go
/-- Arguments that say more. -/
theorem Does.args {T : Tbl} {f : FuncId} {a b : List EV} {h : List Blk} {Q : EV → List Blk → Prop} (e : eqvT a b) (d : Does T f b h Q) : Does T f a h Q := by
  refine ⟨?_⟩
  rcases d.go with ⟨h1, h2⟩ | h1
  · exact .inl ⟨h1, fun E w vs S Z ha => h2 E w vs S Z (eqvT_den _ _ _ e ha)⟩
  · exact .inr fun E w vs S ha => h1 E w vs S (eqvT_den _ _ _ e ha)
end Go.Anv

namespace Go.Anv
open Go
/-- Arguments that are wanted. -/
def unG : List EV → List EV → Prop
  | [], [] => True
  | .gd g v :: r, w :: r' => (g = true ∧ v = w) ∧ unG r r'
  | v :: r, w :: r' => v = w ∧ unG r r'
  | _, _ => False
theorem unG_den {E : Emb} : ∀ (a b : List EV) (l : List Value), unG a b → denT E a l → denT E b l
  | [], [], _, _, h => h
  | x :: r, y :: r', l, he, h => by
    have key : (denE E x = denE E y ∨ ∃ g v, x = .gd g v ∧ g = true ∧ v = y) ∧ unG r r' := by
      cases x with
      | gd g v => exact ⟨.inr ⟨g, v, rfl, he.1⟩, he.2⟩
      | s v => exact ⟨.inl (by rw [he.1]), he.2⟩
      | agg v => exact ⟨.inl (by rw [he.1]), he.2⟩
      | tuple v => exact ⟨.inl (by rw [he.1]), he.2⟩
      | junk => exact ⟨.inl (by rw [he.1]), he.2⟩
    simp only [denT] at h ⊢
    obtain ⟨v, l', rfl, h1, h2⟩ := h
    refine ⟨v, l', rfl, ?_, unG_den r r' l' key.2 h2⟩
    rcases key.1 with e | ⟨g, u, rfl, rfl, rfl⟩
    · rw [← e]; exact h1
    · simp only [denE] at h1
      exact h1.1 trivial
  | [], _ :: _, _, he, _ => he.elim
  | x :: _, [], _, he, _ => by cases x <;> exact he.elim
theorem Does.ungd {T : Tbl} {f : FuncId} {a b : List EV} {h : List Blk} {Q : EV → List Blk → Prop} (e : unG a b) (d : Does T f b h Q) : Does T f a h Q := by
  refine ⟨?_⟩
  rcases d.go with ⟨h1, h2⟩ | h1
  · exact .inl ⟨h1, fun E w vs S Z ha => h2 E w vs S Z (unG_den _ _ _ e ha)⟩
  · exact .inr fun E w vs S ha => h1 E w vs S (unG_den _ _ _ e ha)
end Go.Anv

namespace Go.Anv
open Go
/-- **A call that is handed a part of a block, by a contract shown of a small heap with that part as a block.** -/
theorem Does.partAt {T : Tbl} {f : FuncId} {args args' : List EV} {hc h : List Blk} {Q K : EV → List Blk → Prop} (d : Does T f args hc Q) (κ : List Nat) (i N : Nat) {m : Bool} {sp : Nat} {cs : List Seg} (a b c : List Seg) (hN : h.length = N)
    (hi : nthB h i = some (.cells m cs sp)) (hs : ∀ E l, denS E cs l → denS E (a ++ (b ++ c)) l) (hh : subH (updB h i .dead ++ [.cells m b 0]) κ (renH (lk κ (N + 1)) hc)) (ha : partT i N (sizeS a) args' (renT (lk κ (N + 1)) args))
    (hnd : κ.Nodup) (hro : ∀ v h', Q v h' → roOk hc h') (hlen : ∀ v h', Q v h' → κ.length ≤ h'.length)
    (hK : ∀ v h', Q v h' → ∃ b' cs', nthB (mergeB (updB h i .dead ++ [.cells m b 0]) κ (renH (lk κ (N + 1)) h')) N = some (.cells m b' 0) ∧ sizeS b' = sizeS b ∧ (∀ E l, denS E (a ++ (b' ++ c)) l → denS E cs' l) ∧
      forceH (updB (updB (mergeB (updB h i .dead ++ [.cells m b 0]) κ (renH (lk κ (N + 1)) h')) N .dead) i (.cells m cs' sp)) fun h2 => forceE (renE (lk κ (N + 1)) v) fun v => K v h2) : Does T f args' h K := by
  subst hN
  have hl1 : (updB h i .dead ++ [Blk.cells m b 0]).length = h.length + 1 := by rw [List.length_append, len_updB]; rfl
  have d' := Does.frame d κ (h := updB h i .dead ++ [Blk.cells m b 0]) hnd hro (by rw [hl1]; exact hh)
  refine Does.part i a b c hi hs ha (hl1 ▸ d') ?_
  rintro v h'' ⟨v', h', hq, rfl, rfl⟩
  obtain ⟨b', cs', k1, k2, k3, k4⟩ := hK v' h' hq
  rw [forceH_eq, forceE_eq] at k4
  refine ⟨?_, b', cs', ?_, k2, k3, ?_⟩
  · have := roOk_merge hnd (by rw [hl1]; exact hh) (hro v' h' hq) (hlen v' h' hq)
    rwa [hl1] at this
  · exact k1
  · exact k4
end Go.Anv

/- Memory protection: the range of an entry: plain specification, lemmas on bits. Plain definitions and lemmas. -/
namespace Go.Anv
open Go
def kindOf (c : B8) : Nat := (c >>> 3 &&& 3#8).toNat
/-- The range of an entry whose sixteen are proper. -/
def spanP (cfg : Nat → B8) (addr : Nat → B64) (i : Nat) : Option (B64 × B64) :=
  if kindOf (cfg i) = 1 then
    (if (if 0 < i then addr (i - 1) <<< 2 else 0#64) < addr i <<< 2 then some (if 0 < i then addr (i - 1) <<< 2 else 0#64, addr i <<< 2 - 1#64) else none)
  else if kindOf (cfg i) = 2 then some (addr i <<< 2, addr i <<< 2 + 3#64)
  else if kindOf (cfg i) = 3 then
    (if addr i = addrBits then some (0#64, 18446744073709551615#64)
     else some ((addr i &&& ~~~((addr i &&& ~~~(addr i + 1#64)) <<< 1 ||| 1#64)) <<< 2, (addr i &&& ~~~((addr i &&& ~~~(addr i + 1#64)) <<< 1 ||| 1#64)) <<< 2 + (((addr i &&& ~~~(addr i + 1#64)) <<< 1 ||| 1#64) <<< 2 ||| 3#64)))
  else none
def spanI (cfg : Nat → B8) (addr : Nat → B64) (i : Int) : Option (B64 × B64) := if i < 0 ∨ 15 < i then none else spanP (fun j => cfgOf (cfg j)) (fun j => addr j &&& addrBits) i.toNat
def spanE : Option (B64 × B64) → EV
  | none => .tuple [.s (.int .u64 0), .s (.int .u64 0), .s (.bool false)]
  | some (a, b) => .tuple [.s (.int .u64 a.toNat), .s (.int .u64 b.toNat), .s (.bool true)]
theorem spanE_noPtr (o : Option (B64 × B64)) : noPtr (spanE o) = true := by cases o <;> rfl
theorem addrBits_lt (a : B64) : (a &&& addrBits).toNat < 2 ^ 54 := by
  rw [BitVec.toNat_and]
  exact Nat.lt_of_le_of_lt Nat.and_le_right (by decide)
/-- The trailing ones. -/
theorem ones_bits {a : B64} {t : Nat} (ht : t < 54) (h : a.toNat % 2 ^ (t + 1) = 2 ^ t - 1) (ha : a.toNat < 2 ^ 54) : a &&& ~~~(a + 1#64) = BitVec.ofNat 64 (2 ^ t - 1) := by
  have hp : 2 ^ t < 2 ^ (t + 1) := Nat.pow_lt_pow_right (by decide) (by omega)
  have hp0 : 0 < 2 ^ t := Nat.pow_pos (by decide)
  have e : a.toNat = 2 ^ (t + 1) * (a.toNat / 2 ^ (t + 1)) + (2 ^ t - 1) := by rw [← h]; exact (Nat.div_add_mod _ _).symm
  have e1 : (a + 1#64).toNat = 2 ^ (t + 1) * (a.toNat / 2 ^ (t + 1)) + 2 ^ t := by
    rw [BitVec.toNat_add, show (1#64).toNat = 1 from rfl, Nat.mod_eq_of_lt (by omega)]
    omega
  apply BitVec.eq_of_getLsbD_eq
  intro j hj
  rw [BitVec.getLsbD_and, BitVec.getLsbD_not, BitVec.getLsbD_ofNat]
  have b1 : a.getLsbD j = (if j < t + 1 then (2 ^ t - 1).testBit j else (a.toNat / 2 ^ (t + 1)).testBit (j - (t + 1))) := by
    show a.toNat.testBit j = _
    conv => lhs; rw [e]
    exact Nat.testBit_two_pow_mul_add _ (by omega) j
  have b2 : (a + 1#64).getLsbD j = (if j < t + 1 then (2 ^ t).testBit j else (a.toNat / 2 ^ (t + 1)).testBit (j - (t + 1))) := by
    show (a + 1#64).toNat.testBit j = _
    rw [e1]
    exact Nat.testBit_two_pow_mul_add _ hp j
  rw [b1, b2, Nat.testBit_two_pow_sub_one, Nat.testBit_two_pow]
  rcases Nat.lt_trichotomy j t with h1 | h1 | h1
  · rw [if_pos (by omega), if_pos (by omega)]
    simp [h1, hj, show ¬ t = j by omega]
  · rw [if_pos (by omega), if_pos (by omega), decide_eq_false (p := j < t) (by omega)]
    simp
  · rw [if_neg (by omega), if_neg (by omega), decide_eq_false (p := j < t) (by omega)]
    cases (a.toNat / 2 ^ (t + 1)).testBit (j - (t + 1)) <;> simp
theorem low_bits {t : Nat} (ht : t < 54) : BitVec.ofNat 64 (2 ^ t - 1) <<< 1 ||| 1#64 = BitVec.ofNat 64 (2 ^ (t + 1) - 1) := by
  apply BitVec.eq_of_getLsbD_eq
  intro j hj
  rw [BitVec.getLsbD_or, BitVec.getLsbD_shiftLeft, BitVec.getLsbD_ofNat, BitVec.getLsbD_ofNat, BitVec.getLsbD_ofNat, Nat.testBit_two_pow_sub_one, Nat.testBit_two_pow_sub_one]
  cases j with
  | zero => simp
  | succ j =>
    have : Nat.testBit 1 (j + 1) = false := by rw [Nat.testBit_succ]; simp
    rw [this, decide_eq_true hj, decide_eq_true (show j + 1 - 1 < 64 by omega), decide_eq_false (show ¬ j + 1 < 1 by omega)]
    simp only [Nat.add_sub_cancel, Bool.not_false, Bool.true_and, Bool.and_false, Bool.or_false]
    exact decide_eq_decide.2 (by omega)
theorem clear_bits (a : B64) (k : Nat) (hk : k ≤ 63) : (a &&& ~~~(BitVec.ofNat 64 (2 ^ k - 1))).toNat = a.toNat / 2 ^ k * 2 ^ k := by
  have e : a &&& ~~~(BitVec.ofNat 64 (2 ^ k - 1)) = (a >>> k) <<< k := by
    apply BitVec.eq_of_getLsbD_eq
    intro j hj
    rw [BitVec.getLsbD_and, BitVec.getLsbD_not, BitVec.getLsbD_ofNat, Nat.testBit_two_pow_sub_one, BitVec.getLsbD_shiftLeft, BitVec.getLsbD_ushiftRight, decide_eq_true hj]
    by_cases h : j < k
    · rw [decide_eq_true h]; simp
    · rw [decide_eq_false h, show k + (j - k) = j by omega]; simp
  rw [e, BitVec.toNat_shiftLeft, BitVec.toNat_ushiftRight, Nat.shiftLeft_eq, Nat.shiftRight_eq_div_pow]
  have h1 : a.toNat / 2 ^ k * 2 ^ k ≤ a.toNat := Nat.div_mul_le_self _ _
  exact Nat.mod_eq_of_lt (by have := a.isLt; omega)
/-- The range of a power of two, as the document counts it. -/
theorem napot_nat {a : B64} {t : Nat} (ht : t < 54) (h : a.toNat % 2 ^ (t + 1) = 2 ^ t - 1) (ha : a.toNat < 2 ^ 54) :
    ((a &&& ~~~((a &&& ~~~(a + 1#64)) <<< 1 ||| 1#64)) <<< 2).toNat = 4 * a.toNat / (8 * 2 ^ t) * (8 * 2 ^ t) ∧
    ((a &&& ~~~((a &&& ~~~(a + 1#64)) <<< 1 ||| 1#64)) <<< 2 + (((a &&& ~~~(a + 1#64)) <<< 1 ||| 1#64) <<< 2 ||| 3#64)).toNat = 4 * a.toNat / (8 * 2 ^ t) * (8 * 2 ^ t) + (8 * 2 ^ t - 1) := by
  rw [ones_bits ht h ha, low_bits ht]
  have hp : 2 ^ (t + 1) = 2 * 2 ^ t := by rw [Nat.pow_succ]; omega
  have hp0 : 0 < 2 ^ t := Nat.pow_pos (by decide)
  have hpt : 2 ^ t ≤ 2 ^ 53 := Nat.pow_le_pow_right (by decide) (by omega)
  have hc := clear_bits a (t + 1) (by omega)
  have hq : 4 * a.toNat / (8 * 2 ^ t) = a.toNat / 2 ^ (t + 1) := by
    rw [hp, show 8 * 2 ^ t = 4 * (2 * 2 ^ t) by omega, Nat.mul_div_mul_left _ _ (by decide)]
  have hle : a.toNat / 2 ^ (t + 1) * 2 ^ (t + 1) ≤ a.toNat := Nat.div_mul_le_self _ _
  have h1 : ((a &&& ~~~(BitVec.ofNat 64 (2 ^ (t + 1) - 1))) <<< 2).toNat = 4 * a.toNat / (8 * 2 ^ t) * (8 * 2 ^ t) := by
    rw [BitVec.toNat_shiftLeft, hc, hq, Nat.shiftLeft_eq, Nat.mod_eq_of_lt (by omega), show 8 * 2 ^ t = 2 ^ (t + 1) * 4 by omega, ← Nat.mul_assoc]
  have hlow : (BitVec.ofNat 64 (2 ^ (t + 1) - 1)).toNat = 2 ^ (t + 1) - 1 := by
    rw [BitVec.toNat_ofNat, Nat.mod_eq_of_lt (by omega)]
  have h2 : (BitVec.ofNat 64 (2 ^ (t + 1) - 1) <<< 2 ||| 3#64).toNat = 8 * 2 ^ t - 1 := by
    rw [BitVec.toNat_or, BitVec.toNat_shiftLeft, hlow, show (3#64).toNat = 3 from rfl, Nat.mod_eq_of_lt (by rw [Nat.shiftLeft_eq]; omega), ← Nat.shiftLeft_add_eq_or_of_lt (by decide), Nat.shiftLeft_eq]
    omega
  refine ⟨h1, ?_⟩
  rw [BitVec.toNat_add, h1, h2, Nat.mod_eq_of_lt]
  rw [hq, show 8 * 2 ^ t = 2 ^ (t + 1) * 4 by omega, ← Nat.mul_assoc]
  have : a.toNat / 2 ^ (t + 1) * 2 ^ (t + 1) + 2 ^ (t + 1) ≤ 2 ^ 54 := by
    have h3 : a.toNat / 2 ^ (t + 1) < 2 ^ 54 / 2 ^ (t + 1) := by
      rw [Nat.div_lt_iff_lt_mul (by omega), Nat.div_mul_cancel (Nat.pow_dvd_pow 2 (by omega))]
      exact ha
    have h4 : (a.toNat / 2 ^ (t + 1) + 1) * 2 ^ (t + 1) ≤ 2 ^ 54 / 2 ^ (t + 1) * 2 ^ (t + 1) := Nat.mul_le_mul_right _ h3
    rw [Nat.div_mul_cancel (Nat.pow_dvd_pow 2 (by omega)), Nat.add_mul] at h4
    omega
  omega
end Go.Anv

/- Memory protection: contracts of the functions that tell an entry's range, the program's and the document's. No condition. -/
namespace Go.Anv
open Go
theorem kindOf_lt (c : B8) : kindOf c < 4 := by
  unfold kindOf
  rw [BitVec.toNat_and]
  exact Nat.lt_of_le_of_lt Nat.and_le_right (by decide)
theorem kind8 (c : B8) : IntKind.i64.wrap (bitX .and .u8 ((c.toNat : Int).fdiv (2 ^ min (Int.toNat 3) IntKind.u8.bits)) 3) = (kindOf c : Int) := by
  have h : (c.toNat : Int).fdiv (2 ^ min (Int.toNat 3) IntKind.u8.bits) = ((c >>> 3).toNat : Int) := fdiv_pow _ 3
  have hk := kindOf_lt c
  rw [h, and_u8, ofInt_toNat]
  exact i64_in (by omega) (by show ((kindOf c : Nat) : Int) ≤ _; omega)
theorem kind64 (c : B8) : bitX .and .i64 (IntKind.i64.wrap ((c.toNat : Int).fdiv (2 ^ min (Int.toNat 3) IntKind.u8.bits))) 3 = (kindOf c : Int) := by
  have h : (c.toNat : Int).fdiv (2 ^ min (Int.toNat 3) IntKind.u8.bits) = ((c >>> 3).toNat : Int) := fdiv_pow _ 3
  have hc := (c >>> 3).isLt
  have hk := kindOf_lt c
  rw [h, i64_in (by omega) (by omega), and_i64, BitVec.toInt_eq_toNat_of_lt]
  · rw [BitVec.toNat_and, BitVec.toNat_ofInt, kindOf, BitVec.toNat_and]
    have e1 : (((c >>> 3).toNat : Int) % ((2 ^ 64 : Nat) : Int)).toNat = (c >>> 3).toNat := by omega
    rw [e1]
    rfl
  · have : (BitVec.ofInt 64 ((c >>> 3).toNat : Int) &&& BitVec.ofInt 64 3).toNat ≤ 3 := by
      rw [BitVec.toNat_and]
      exact Nat.and_le_right
    omega
theorem add64 (a b : B64) : IntKind.u64.wrap ((a.toNat : Int) + (b.toNat : Int)) = ((a + b).toNat : Int) := by
  rw [wrap_u64, BitVec.ofInt_add, ofInt_toNat, ofInt_toNat]
theorem sub64 (a b : B64) : IntKind.u64.wrap ((a.toNat : Int) - (b.toNat : Int)) = ((a - b).toNat : Int) := by
  have ha := a.isLt
  have hb := b.isLt
  rw [wrap_u64, BitVec.toNat_ofInt, BitVec.toNat_sub]
  omega
theorem mul64 (a b : B64) : IntKind.u64.wrap ((a.toNat : Int) * (b.toNat : Int)) = ((a * b).toNat : Int) := by
  rw [wrap_u64, BitVec.ofInt_mul, ofInt_toNat, ofInt_toNat]
theorem mul4 (a : B64) : IntKind.u64.wrap (4 * (a.toNat : Int)) = ((a <<< 2).toNat : Int) := by
  refine (mul64 4#64 a).trans ?_
  rw [BitVec.toNat_mul, BitVec.toNat_shiftLeft, Nat.shiftLeft_eq, Nat.mul_comm]
  rfl
theorem shl2_lt {a b : B64} (ha : a.toNat < 2 ^ 54) (hb : b.toNat < 2 ^ 54) : a <<< 2 < b <<< 2 ↔ a.toNat < b.toNat := by
  rw [BitVec.lt_def, BitVec.toNat_shiftLeft, BitVec.toNat_shiftLeft, Nat.shiftLeft_eq, Nat.shiftLeft_eq, Nat.mod_eq_of_lt (by omega), Nat.mod_eq_of_lt (by omega)]
  omega
theorem wnat {x : Nat} (h : x < 2 ^ 64) : IntKind.u64.wrap (x : Int) = (x : Int) := by
  rw [wrap_u64, BitVec.toNat_ofInt]; omega
theorem shl64 (a : B64) (k : Nat) : IntKind.u64.wrap ((a.toNat : Int) * 2 ^ k) = ((a <<< k).toNat : Int) := by rw [wrap_u64, mul_pow]
end Go.Anv
namespace Go.Proofs.YtdlpmbghocabbaaGreatDoor
open Go Go.Anv
theorem kind_spec (c : B8) (h : List Blk) : Does TB 237 [.s (.int .u8 c.toNat)] h (fun v h' => v = .s (.int .i64 (kindOf c : Int)) ∧ h' = h) := by
  refine fnX_pure TB Tryz.func237 rfl (by decide) rfl _ rfl (fun O on => ?_) h
  refine need_intro (by decide) ?_
  exact ⟨rfl, kind8 c⟩
theorem span_spec (cfg : Nat → B8) (addr : Nat → B64) (i : Int) (h : List Blk) : Does TB 236 [.agg (pmpSeg cfg addr), .s (.int .i64 i)] h (fun v h' => v = spanE (spanI cfg addr i) ∧ h' = h) := by
  refine fnX_pure TB Tryz.func236 rfl (by decide) rfl _ (spanE_noPtr _) (fun O on => ?_) h
  repeat (refine need_intro (by first | exact fun h => h | (simp; done) | fail) ?_)
  refine ifB_intro (fun h1 => ?_) (fun h1 => ?_)
  · have : i < 0 ∨ 15 < i := by
      by_cases hi : i < 0
      · exact .inl hi
      · rw [decide_eq_false hi] at h1
        exact .inr (of_decide_eq_true h1)
    rw [spanI, if_pos this]
    exact eqvE_refl _
  have hi : 0 ≤ i ∧ i ≤ 15 := by
    by_cases hi : i < 0
    · rw [decide_eq_true hi] at h1; cases h1
    · rw [decide_eq_false hi] at h1
      have := of_decide_eq_false h1
      omega
  obtain ⟨n, rfl⟩ : ∃ n : Nat, i = (n : Int) := ⟨i.toNat, by omega⟩
  have hn : n < 16 := by omega
  rw [spanI, if_neg (by omega), Int.toNat_natCast]
  refine (properP_spec cfg addr _).mono ?_
  rintro _ _ ⟨rfl, rfl⟩
  generalize (fun j => cfgOf (cfg j)) = C
  generalize (fun j => addr j &&& addrBits) = A
  generalize ho : spanP C A n = o
  unfold spanP at ho
  repeat (refine need_intro (by first | rfl | (constructor <;> omega) | omega | fail) ?_)
  refine (kind_spec (C n) _).mono ?_
  rintro _ _ ⟨rfl, rfl⟩
  have hlt := kindOf_lt (C n)
  generalize hk : kindOf (C n) = k at hlt ho ⊢
  match k, hlt with
  | 0, _ =>
    subst ho
    exact eqvE_refl _
  | 1, _ =>
    rw [if_pos rfl] at ho
    refine ifB_intro (fun h2 => ?_) (fun h2 => ?_)
    · obtain ⟨m, rfl⟩ : ∃ m, n = m + 1 := ⟨n - 1, by have := of_decide_eq_true h2; omega⟩
      have hw : IntKind.i64.wrap (((m + 1 : Nat) : Int) - 1) = (m : Int) := by rw [i64_in (by omega) (by omega)]; omega
      refine need_intro (by rw [hw]; omega) ?_
      refine need_intro (by rw [hw, Int.toNat_natCast]; omega) ?_
      refine need_intro (by decide) ?_
      refine need_intro (by decide) ?_
      rw [hw]
      rw [if_pos (Nat.succ_pos m), Nat.add_sub_cancel] at ho
      have e1 : IntKind.u64.wrap (wfun A ((m + 1 : Nat) : Int).toNat * 2 ^ min (Int.toNat 2) IntKind.u64.bits) = ((A (m + 1) <<< 2).toNat : Int) := shl64 _ 2
      have e2 : IntKind.u64.wrap (wfun A ((m : Nat) : Int).toNat * 2 ^ min (Int.toNat 2) IntKind.u64.bits) = ((A m <<< 2).toNat : Int) := shl64 _ 2
      rw [e1, e2]
      refine ifB_intro (fun h3 => ?_) (fun h3 => ?_)
      · rw [gt_nat] at h3
        rw [if_pos (of_decide_eq_true h3)] at ho
        subst ho
        refine ⟨⟨rfl, rfl⟩, ⟨rfl, ?_⟩, ⟨rfl, trivial⟩⟩
        exact sub64 _ 1#64
      · rw [gt_nat] at h3
        rw [if_neg (of_decide_eq_false h3)] at ho
        subst ho
        exact eqvE_refl _
    · have h0 : n = 0 := by have := of_decide_eq_false h2; omega
      subst h0
      refine need_intro (by decide) ?_
      rw [if_neg (Nat.lt_irrefl 0)] at ho
      have e1 : IntKind.u64.wrap (wfun A ((0 : Nat) : Int).toNat * 2 ^ min (Int.toNat 2) IntKind.u64.bits) = ((A 0 <<< 2).toNat : Int) := shl64 _ 2
      rw [e1]
      refine ifB_intro (fun h3 => ?_) (fun h3 => ?_)
      · have h3 : 0#64 < A 0 <<< 2 := by have := of_decide_eq_true h3; rw [BitVec.lt_def]; simp only [BitVec.toNat_ofNat]; omega
        rw [if_pos h3] at ho
        subst ho
        refine ⟨⟨rfl, rfl⟩, ⟨rfl, ?_⟩, ⟨rfl, trivial⟩⟩
        exact sub64 _ 1#64
      · have h3 : ¬ 0#64 < A 0 <<< 2 := by have := of_decide_eq_false h3; rw [BitVec.lt_def]; simp only [BitVec.toNat_ofNat]; omega
        rw [if_neg h3] at ho
        subst ho
        exact eqvE_refl _
  | 2, _ =>
    refine need_intro (by decide) ?_
    refine need_intro (by decide) ?_
    have e1 : IntKind.u64.wrap (wfun A ((n : Nat) : Int).toNat * 2 ^ min (Int.toNat 2) IntKind.u64.bits) = ((A n <<< 2).toNat : Int) := shl64 _ 2
    rw [if_neg (by decide), if_pos rfl] at ho
    subst ho
    refine ⟨⟨rfl, e1⟩, ⟨rfl, ?_⟩, ⟨rfl, trivial⟩⟩
    rw [e1]; exact add64 _ 3#64
  | 3, _ =>
    rw [if_neg (by decide), if_neg (by decide), if_pos rfl] at ho
    refine ifB_intro (fun h2 => ?_) (fun h2 => ?_)
    · have h2 : A n = addrBits := by
        have h2 : (((A n).toNat : Int) == 18014398509481983) = true := h2
        rw [beq_lit _ _ (by decide) (by decide)] at h2
        exact eq_of_beq h2
      rw [if_pos h2] at ho
      subst ho
      exact eqvE_refl _
    · have h2 : ¬ A n = addrBits := by
        have h2 : (((A n).toNat : Int) == 18014398509481983) = false := h2
        rw [beq_lit _ _ (by decide) (by decide)] at h2
        exact ne_of_beq_false h2
      rw [if_neg h2] at ho
      subst ho
      repeat (refine need_intro (by decide) ?_)
      have a1 : IntKind.u64.wrap (((A n).toNat : Int) + 1) = ((A n + 1#64).toNat : Int) := add64 _ 1#64
      have hwf : wfun A ((n : Nat) : Int).toNat = ((A n).toNat : Int) := rfl
      have hm1 : min (Int.toNat 1) IntKind.u64.bits = 1 := by decide
      have hm2 : min (Int.toNat 2) IntKind.u64.bits = 2 := by decide
      refine ⟨⟨rfl, ?_⟩, ⟨rfl, ?_⟩, ⟨rfl, trivial⟩⟩ <;> simp only [hwf, a1, hm1, hm2, andNot_u64, or_u64, shl64, add64, ofInt_toNat, BitVec.reduceOfInt]
end Go.Proofs.YtdlpmbghocabbaaGreatDoor

/- Memory protection: which entry counts for an access; is a byte granted; the program's and the document's. No condition. -/
namespace Go.Anv
open Go
def inS : Option (B64 × B64) → B64 → Bool
  | none, _ => false
  | some (lo, hi), a => decide (lo ≤ a) && decide (a ≤ hi)
def cntS (S : Option (B64 × B64)) (a : B64) : Nat → Nat
  | 0 => 0
  | k + 1 => cntS S a k + (if inS S (a + BitVec.ofNat 64 k) = true then 1 else 0)
theorem cntS_le (S : Option (B64 × B64)) (a : B64) : ∀ k, cntS S a k ≤ k
  | 0 => Nat.le_refl _
  | k + 1 => by
    have := cntS_le S a k
    simp only [cntS]
    split <;> omega
theorem cntS_none (a : B64) : ∀ k, cntS none a k = 0
  | 0 => rfl
  | k + 1 => by simp only [cntS, cntS_none a k, inS]; rfl
/-- The first place from i on, k places long, at which f tells something. -/
def firstFrom {β : Type} (f : Nat → Option β) : Nat → Nat → Option β
  | 0, _ => none
  | k + 1, i => match f i with
    | some r => some r
    | none => firstFrom f k (i + 1)
def mtF (cfg : Nat → B8) (addr : Nat → B64) (a : B64) (n i : Nat) : Option (Nat × Bool) := if 0 < cntS (spanI cfg addr (i : Int)) a n then some (i, cntS (spanI cfg addr (i : Int)) a n == n) else none
def matchI (cfg : Nat → B8) (addr : Nat → B64) (a : B64) (size : Int) : Option (Nat × Bool) := if size < 1 ∨ 8 < size then none else firstFrom (mtF cfg addr a size.toNat) 16 0
def matchE : Option (Nat × Bool) → EV
  | none => .tuple [.s (.int .i64 (-1)), .s (.bool false)]
  | some (i, b) => .tuple [.s (.int .i64 (i : Int)), .s (.bool b)]
theorem matchE_noPtr (o : Option (Nat × Bool)) : noPtr (matchE o) = true := by rcases o with _ | ⟨i, b⟩ <;> rfl
theorem first_at {β : Type} {f : Nat → Option β} {k i : Nat} : firstFrom f (k + 1) i = (match f i with | some r => some r | none => firstFrom f k (i + 1)) := rfl
theorem firstFrom_lt {β : Type} {f : Nat → Option β} {P : β → Prop} (hf : ∀ i r, f i = some r → P r) : ∀ {k i : Nat} {r : β}, firstFrom f k i = some r → P r
  | 0, _, _, h => by cases h
  | k + 1, i, r, h => by
    rw [first_at] at h
    cases hi : f i with
    | some q => rw [hi] at h; simp only [Option.some.injEq] at h; subst h; exact hf i q hi
    | none => rw [hi] at h; exact firstFrom_lt hf h
theorem addk {a : B64} {k : Nat} (h : k < 2 ^ 64) : IntKind.u64.wrap ((a.toNat : Int) + IntKind.u64.wrap (k : Int)) = ((a + BitVec.ofNat 64 k).toNat : Int) := by
  rw [wnat h]
  have e : (k : Int) = ((BitVec.ofNat 64 k).toNat : Int) := by rw [BitVec.toNat_ofNat, Nat.mod_eq_of_lt h]
  rw [e, add64]
theorem int_beq (a b : Nat) : ((a : Int) == (b : Int)) = (a == b) := by
  rw [Bool.eq_iff_iff, beq_iff_eq, beq_iff_eq]; omega
theorem cond_and (a b : Bool) : (bif a then b else false) = (a && b) := by cases a <;> rfl
theorem mtF_lt {cfg : Nat → B8} {addr : Nat → B64} {a : B64} {n i : Nat} {r : Nat × Bool} (h : mtF cfg addr a n i = some r) : r.1 = i := by
  unfold mtF at h
  split at h
  · simp only [Option.some.injEq] at h; subst h; rfl
  · cases h
theorem first_lt {cfg : Nat → B8} {addr : Nat → B64} {a : B64} {n : Nat} : ∀ {k i : Nat} {r : Nat × Bool}, firstFrom (mtF cfg addr a n) k i = some r → r.1 < i + k
  | 0, _, _, h => by cases h
  | k + 1, i, r, h => by
    rw [first_at] at h
    cases hi : mtF cfg addr a n i with
    | some q => rw [hi] at h; simp only [Option.some.injEq] at h; subst h; have := mtF_lt hi; omega
    | none => rw [hi] at h; have := first_lt h; omega
theorem match_lt {cfg : Nat → B8} {addr : Nat → B64} {a : B64} {size : Int} {i : Nat} {b : Bool} (h : matchI cfg addr a size = some (i, b)) : i < 16 := by
  unfold matchI at h
  split at h
  · cases h
  · have := first_lt h; simpa using this
/-- Has a byte's entry one of these bits? -/
def grantI (cfg : Nat → B8) (addr : Nat → B64) (a : B64) (bits : Int) : Bool := match matchI (fun j => cfgOf (cfg j)) (fun j => addr j &&& addrBits) a 1 with
  | none => false
  | some (i, _) => bitX .and .i64 (bitX .and .i64 (IntKind.i64.wrap (bfun (fun j => cfgOf (cfg j)) i)) bits) 7 != 0
/-- Arguments that no access has. -/
def badI (mode size bits : Int) : Bool :=
  bif bif bif bif bif mode != 0 then mode != 3 else false then true else decide (size < 1) then true else decide (size > 8) then true else decide (bits < 1) then true else decide (bits > 7)
/-- Does an access pass? -/
def checkI (cfg : Nat → B8) (addr : Nat → B64) (mode : Int) (a : B64) (size bits : Int) : Bool :=
  if badI mode size bits = true then false else
  match matchI (fun j => cfgOf (cfg j)) (fun j => addr j &&& addrBits) a size with
  | none => mode == 3
  | some (i, all) => if all = false then false else if (mode == 3 && (cfgOf (cfg i)).getLsbD 7 == false) = true then true else bitX .and .i64 (IntKind.i64.wrap (bfun (fun j => cfgOf (cfg j)) i)) bits == bits
def lockA (cfg : Nat → B8) (i : Nat) : Bool := (cfg i).getLsbD 7
def lockT (cfg : Nat → B8) (i : Nat) : Bool := i < 15 && (cfg (i + 1)).getLsbD 7 && kindOf (cfg (i + 1)) == 1
theorem nt {b : Bool} (h : b = false) : (!b) = true := by rw [h]; rfl
theorem lock_bit (c : B8) : (bitX .and .u8 (c.toNat : Int) 128 == 0) = !c.getLsbD 7 := by
  rw [and_u8, ofInt_toNat, beq_lit _ _ (by decide) (by decide)]
  revert c; decide
theorem lock_bne (c : B8) : (bitX .and .u8 (c.toNat : Int) 128 != 0) = c.getLsbD 7 := by rw [bne, lock_bit, Bool.not_not]
end Go.Anv
namespace Go.Proofs.YtdlpmbghocabbaaGreatDoor
open Go Go.Anv
set_option maxRecDepth 100000 in
theorem match_spec (cfg : Nat → B8) (addr : Nat → B64) (a : B64) (size : Int) (h : List Blk) : Does TB 210 [.agg (pmpSeg cfg addr), .s (.int .u64 a.toNat), .s (.int .i64 size)] h (fun v h' => v = matchE (matchI cfg addr a size) ∧ h' = h) := by
  refine fnX_pure TB Tryz.func210 rfl (by decide) rfl _ (matchE_noPtr _) (fun O on => ?_) h
  repeat (refine need_intro (by first | exact fun h => h | (simp; done) | fail) ?_)
  refine ifB_intro (fun h1 => ?_) (fun h1 => ?_)
  · have : size < 1 ∨ 8 < size := by
      by_cases hi : size < 1
      · exact .inl hi
      · rw [decide_eq_false hi] at h1
        exact .inr (of_decide_eq_true h1)
    rw [matchI, if_pos this]
    exact eqvE_refl _
  have hi : 1 ≤ size ∧ size ≤ 8 := by
    by_cases hi : size < 1
    · rw [decide_eq_true hi] at h1; cases h1
    · rw [decide_eq_false hi] at h1
      have := of_decide_eq_false h1
      omega
  obtain ⟨n, rfl⟩ : ∃ n : Nat, size = (n : Int) := ⟨size.toNat, by omega⟩
  rw [matchI, if_neg (by omega), Int.toNat_natCast]
  generalize ho : firstFrom (mtF cfg addr a n) 16 0 = o
  refine loop_by (A := Nat) on (fun i => [(21, .s (.int .i64 (i : Int)))]) (fun _ => [.cells true (pmpSeg cfg addr) 0]) (fun i => i ≤ 16 ∧ firstFrom (mtF cfg addr a n) (16 - i) i = o) (fun i => 16 - i) 0 ⟨by omega, ho⟩ ?_ ?_
  · refine ⟨?_, eqvB_refl _, trivial⟩
    repeat' (first | exact eqvT_nil | refine eqvT_junk ?_ | refine eqvT_same ?_ | refine eqvT_int ?_ ?_)
  intro i ⟨hi16, hf⟩
  refine ifB_intro (fun h2 => ?_) (fun h2 => ?_)
  · have hlt : i < 16 := by have := of_decide_eq_true h2; omega
    rw [show 16 - i = (16 - (i + 1)) + 1 by omega, first_at] at hf
    refine (span_spec cfg addr (i : Int) _).mono ?_
    rintro _ _ ⟨rfl, rfl⟩
    have next : ∀ {P : Prop}, mtF cfg addr a n i = none → (firstFrom (mtF cfg addr a n) (16 - (i + 1)) (i + 1) = o → P) → P := fun h1 h2 => h2 (by rw [h1] at hf; exact hf)
    cases hs : spanI cfg addr (i : Int) with
    | none =>
      refine next (by unfold mtF; rw [hs, cntS_none]; rfl) (fun hf => ?_)
      refine ⟨i + 1, ⟨hlt, hf⟩, by simp only; omega, ?_⟩
      refine ⟨?_, eqvB_refl _, trivial⟩
      repeat' (first | exact eqvT_nil | refine eqvT_junk ?_ | refine eqvT_same ?_ | refine eqvT_int ?_ ?_)
      rw [i64_in (by omega) (by omega)]; omega
    | some p =>
      obtain ⟨lo, up⟩ := p
      refine loop_by (A := Nat) on (fun k => [(12, .s (.int .i64 ((cntS (some (lo, up)) a k : Nat) : Int))), (34, .s (.int .i64 (k : Int)))]) (fun _ => [.cells true (pmpSeg cfg addr) 0]) (fun k => k ≤ n) (fun k => n - k) 0 (Nat.zero_le _) ?_ ?_
      · refine ⟨?_, eqvB_refl _, trivial⟩
        repeat' (first | exact eqvT_nil | refine eqvT_junk ?_ | refine eqvT_same ?_ | refine eqvT_int ?_ ?_)
      intro k hk
      have hc := cntS_le (some (lo, up)) a k
      refine ifB_intro (fun h3 => ?_) (fun h3 => ?_)
      · have hkn : k < n := by have := of_decide_eq_true h3; omega
        repeat (refine need_intro (by first | exact fun h => h | (simp; done) | fail) ?_)
        have hcond : (bif decide (IntKind.u64.wrap ((a.toNat : Int) + IntKind.u64.wrap (k : Int)) ≥ (lo.toNat : Int)) then decide (IntKind.u64.wrap ((a.toNat : Int) + IntKind.u64.wrap (k : Int)) ≤ (up.toNat : Int)) else false) = inS (some (lo, up)) (a + BitVec.ofNat 64 k) := by
          rw [addk (by omega), ge_nat, le_nat]
          exact cond_and _ _
        rw [hcond]
        refine ifB_intro (fun h4 => ?_) (fun h4 => ?_)
        · refine ⟨k + 1, hkn, by simp only; omega, ?_⟩
          refine ⟨?_, eqvB_refl _, trivial⟩
          repeat' (first | exact eqvT_nil | refine eqvT_junk ?_ | refine eqvT_same ?_ | refine eqvT_int ?_ ?_)
          · rw [i64_in (by omega) (by omega), cntS, if_pos h4]; omega
          · rw [i64_in (by omega) (by omega)]; omega
        · refine ⟨k + 1, hkn, by simp only; omega, ?_⟩
          refine ⟨?_, eqvB_refl _, trivial⟩
          repeat' (first | exact eqvT_nil | refine eqvT_junk ?_ | refine eqvT_same ?_ | refine eqvT_int ?_ ?_)
          · rw [cntS, if_neg (by rw [h4]; decide)]; omega
          · rw [i64_in (by omega) (by omega)]; omega
      · have hkn : k = n := by have := of_decide_eq_false h3; omega
        subst hkn
        refine ifB_intro (fun h4 => ?_) (fun h4 => ?_)
        · have h4 : 0 < cntS (some (lo, up)) a k := by have := of_decide_eq_true h4; omega
          have e : mtF cfg addr a k i = some (i, cntS (some (lo, up)) a k == k) := by unfold mtF; rw [hs, if_pos h4]
          rw [e] at hf
          have hf : some (i, cntS (some (lo, up)) a k == k) = o := hf
          subst hf
          refine ⟨⟨rfl, rfl⟩, ⟨?_, trivial⟩⟩
          exact int_beq _ _
        · have h4 : ¬ 0 < cntS (some (lo, up)) a k := by have := of_decide_eq_false h4; omega
          refine next (by unfold mtF; rw [hs, if_neg h4]) (fun hf => ?_)
          refine ⟨i + 1, ⟨hlt, hf⟩, by simp only; omega, ?_⟩
          refine ⟨?_, eqvB_refl _, trivial⟩
          repeat' (first | exact eqvT_nil | refine eqvT_junk ?_ | refine eqvT_same ?_ | refine eqvT_int ?_ ?_)
          rw [i64_in (by omega) (by omega)]; omega
  · have h2 : i = 16 := by have := of_decide_eq_false h2; omega
    subst h2
    have hf : none = o := hf
    subst hf
    exact eqvE_refl _
theorem pcheck_spec (cfg : Nat → B8) (addr : Nat → B64) (mode : Int) (a : B64) (size bits : Int) (h : List Blk) : Does TB 140 [.agg (pmpSeg cfg addr), .s (.int .i64 mode), .s (.int .u64 a.toNat), .s (.int .i64 size), .s (.int .i64 bits)] h (fun v h' => v = .s (.bool (checkI cfg addr mode a size bits)) ∧ h' = h) := by
  refine fnX_pure TB Tryz.func140 rfl (by decide) rfl _ rfl (fun O on => ?_) h
  repeat (refine need_intro (by first | exact fun h => h | exact nt | (simp; done) | fail) ?_)
  unfold checkI
  refine ifB_intro (fun h1 => ?_) (fun h1 => ?_)
  · have h1 : badI mode size bits = true := h1
    rw [if_pos h1]
    exact rfl
  have h1 : badI mode size bits = false := h1
  rw [if_neg (by rw [h1]; decide)]
  refine (properP_spec cfg addr _).mono ?_
  rintro _ _ ⟨rfl, rfl⟩
  refine need_intro rfl ?_
  refine (match_spec _ _ a size _).mono ?_
  rintro _ _ ⟨rfl, rfl⟩
  generalize hm : matchI (fun j => cfgOf (cfg j)) (fun j => addr j &&& addrBits) a size = m
  cases m with
  | none =>
    exact rfl
  | some p =>
    obtain ⟨i, b⟩ := p
    have hi := match_lt hm
    cases b with
    | false => exact rfl
    | true =>
      repeat (refine need_intro (by first | exact fun h => h | exact nt | exact fun _ => (by omega) | exact fun _ => ⟨by omega, by omega⟩ | (simp; done) | fail) ?_)
      have hc : (bif mode == 3 then bitX .and .u8 (bfun (fun j => cfgOf (cfg j)) (i : Int).toNat) 128 == 0 else false) = (mode == 3 && (cfgOf (cfg i)).getLsbD 7 == false) := by
        have e : (bitX .and .u8 (bfun (fun j => cfgOf (cfg j)) (i : Int).toNat) 128 == 0) = !(cfgOf (cfg i)).getLsbD 7 := lock_bit _
        rw [e, cond_and]
        cases (cfgOf (cfg i)).getLsbD 7 <;> rfl
      rw [hc]
      refine ifB_intro (fun h2 => ?_) (fun h2 => ?_)
      · show true = if true = false then false else if (mode == 3 && (cfgOf (cfg i)).getLsbD 7 == false) = true then true else _
        rw [if_pos h2]; rfl
      · repeat (refine need_intro (by first | omega | exact ⟨by omega, by omega⟩ | fail) ?_)
        show _ = if true = false then false else if (mode == 3 && (cfgOf (cfg i)).getLsbD 7 == false) = true then true else _
        rw [h2]; rfl
theorem plocked_spec (cfg : Nat → B8) (addr : Nat → B64) (i : Nat) (hi : i < 16) (h : List Blk) : Does TB 216 [.agg (pmpSeg cfg addr), .s (.int .i64 (i : Int))] h (fun v h' => v = .tuple [.s (.bool (lockA cfg i)), .s (.bool (lockA cfg i || lockT cfg i))] ∧ h' = h) := by
  refine fnX_pure TB Tryz.func216 rfl (by decide) rfl _ rfl (fun O on => ?_) h
  repeat (refine need_intro (by first | exact fun h => h | exact nt | (simp; done) | fail) ?_)
  refine ifB_intro (fun h1 => absurd h1 (by rw [decide_eq_false (show ¬ ((i : Nat) : Int) < 0 by omega), decide_eq_false (show ¬ ((i : Nat) : Int) > 15 by omega)]; decide)) (fun h1 => ?_)
  rcases Nat.lt_or_ge i 15 with h15 | h15
  · have hw : IntKind.i64.wrap ((i : Int) + 1) = ((i + 1 : Nat) : Int) := by rw [i64_in (by omega) (by omega)]; omega
    repeat (refine need_intro (by first | omega | exact ⟨by omega, by omega⟩ | exact fun h => h | exact nt | (intro _; rw [hw]; omega) | (intro _; rw [hw, Int.toNat_natCast]; omega) | (simp; done) | fail) ?_)
    have hc : (bif decide ((i : Int) < 15) then bitX .and .u8 (bfun cfg (IntKind.i64.wrap ((i : Int) + 1)).toNat) 128 != 0 else false) = (cfg (i + 1)).getLsbD 7 := by
      rw [hw, Int.toNat_natCast, decide_eq_true (by omega)]
      exact lock_bne _
    have hT : lockT cfg i = ((cfg (i + 1)).getLsbD 7 && kindOf (cfg (i + 1)) == 1) := by
      unfold lockT; rw [decide_eq_true h15]; rfl
    have hA : (bitX .and .u8 (bfun cfg (i : Int).toNat) 128 != 0) = lockA cfg i := lock_bne _
    refine ifB_intro (fun h2 => ?_) (fun h2 => ?_)
    · refine Does.ungd (b := [.s (.int .u8 ((cfg (i + 1)).toNat : Int))]) ⟨⟨h2, ?_⟩, trivial⟩ ?_
      · rw [hw, Int.toNat_natCast]; rfl
      refine (kind_spec (cfg (i + 1)) _).mono ?_
      rintro _ _ ⟨rfl, rfl⟩
      repeat (refine need_intro (by first | exact fun h => h | exact nt | (simp; done) | fail) ?_)
      refine ⟨hA, ?_, trivial⟩
      show (bif (bitX .and .u8 (bfun cfg (i : Int).toNat) 128 != 0) then true else bif (bif decide ((i : Int) < 15) then bitX .and .u8 (bfun cfg (IntKind.i64.wrap ((i : Int) + 1)).toNat) 128 != 0 else false) then ((kindOf (cfg (i + 1)) : Nat) : Int) == ((1 : Nat) : Int) else false) = (lockA cfg i || lockT cfg i)
      rw [hA, hc, hT, cond_and, int_beq]
      cases lockA cfg i <;> rfl
    · refine ifB_intro (fun h => absurd (h.symm.trans h2) (by decide)) (fun _ => ?_)
      repeat (refine need_intro (by first | exact fun h => h | exact nt | exact h2 | (simp; done) | fail) ?_)
      rw [hc] at h2
      refine ⟨hA, ?_, trivial⟩
      have hf : lockT cfg i = false := by rw [hT, h2]; rfl
      rw [hf]
      show (bif (bitX .and .u8 (bfun cfg (i : Int).toNat) 128 != 0) then true else false) = (lockA cfg i || false)
      rw [hA]
      cases lockA cfg i <;> rfl
  · have h15 : i = 15 := by omega
    subst h15
    repeat (refine need_intro (by first | omega | exact ⟨by omega, by omega⟩ | exact fun h => h | exact nt | (simp; done) | fail) ?_)
    have hA : (bitX .and .u8 (bfun cfg ((15 : Nat) : Int).toNat) 128 != 0) = lockA cfg 15 := lock_bne _
    refine ⟨hA, ?_, trivial⟩
    show (bif (bitX .and .u8 (bfun cfg ((15 : Nat) : Int).toNat) 128 != 0) then true else false) = (lockA cfg 15 || false)
    rw [hA]
    cases lockA cfg 15 <;> rfl
end Go.Proofs.YtdlpmbghocabbaaGreatDoor

/- Strings of bytes compared. Plain lemmas, contracts of functions. No condition. -/
namespace Go.Anv
open Go
def eqB (n : Nat) (p q : Nat → B8) : Bool := (List.range n).all fun j => p j == q j
theorem bytesOf_list (n : Nat) (f : Nat → Int) : (bytesOf n f).data.toList = (List.range n).map fun j => UInt8.ofNat (f j).toNat := by
  have key : ∀ (l : List Int) (r : ByteArray), (l.foldl (fun r x => r.push (UInt8.ofNat x.toNat)) r).data.toList = r.data.toList ++ l.map fun x => UInt8.ofNat x.toNat := by
    intro l
    induction l with
    | nil => intro r; simp
    | cons x l ih =>
      intro r
      rw [List.foldl_cons, ih]
      obtain ⟨d⟩ := r
      simp [ByteArray.push]
  unfold bytesOf
  rw [key, List.map_map]
  rfl
theorem map_beq {α β : Type} [BEq β] (F G : α → β) : ∀ l : List α, (l.map F == l.map G) = l.all fun x => F x == G x
  | [] => rfl
  | x :: l => by
    simp only [List.map_cons, List.all_cons]
    rw [← map_beq F G l]
    rfl
theorem u8_beq (a b : B8) : (UInt8.ofNat a.toNat == UInt8.ofNat b.toNat) = (a == b) := by
  rw [Bool.eq_iff_iff, beq_iff_eq, beq_iff_eq]
  constructor
  · intro h
    have h2 := congrArg UInt8.toNat h
    simp only [UInt8.toNat_ofNat'] at h2
    have ha := a.isLt
    have hb := b.isLt
    apply BitVec.eq_of_toNat_eq
    omega
  · rintro rfl; rfl
theorem bytes_beq {n : Nat} {f g : Nat → Int} {p q : Nat → B8} (hf : ∀ j, j < n → f j = (p j).toNat) (hg : ∀ j, j < n → g j = (q j).toNat) : (bytesOf n f == bytesOf n g) = eqB n p q := by
  rw [beq_toListBytes, ByteArray.toList_eq, ByteArray.toList_eq, bytesOf_list, bytesOf_list, map_beq]
  unfold eqB
  rw [Bool.eq_iff_iff, List.all_eq_true, List.all_eq_true]
  constructor
  · intro h j hj
    have h1 := h j hj
    rw [hf j (List.mem_range.1 hj), hg j (List.mem_range.1 hj)] at h1
    rw [← u8_beq]; exact h1
  · intro h j hj
    have h1 := h j hj
    rw [hf j (List.mem_range.1 hj), hg j (List.mem_range.1 hj)]
    rw [← u8_beq] at h1; exact h1
end Go.Anv
namespace Go.Proofs.YtdlpmbghocabbaaGreatDoor
open Go Go.Anv
set_option maxRecDepth 100000 in
theorem equal_spec (m1 m2 : Bool) (o1 o2 n c1 c2 k1 k2 s1 s2 : Nat) (f1 f2 : Nat → Int) (p q : Nat → B8) (h1 : o1 + n ≤ k1) (h2 : o2 + n ≤ k2) (hf : ∀ j, j < n → f1 (o1 + j) = (p j).toNat) (hg : ∀ j, j < n → f2 (o2 + j) = (q j).toNat) :
    Does TB 76 [.s (.gs 0 o1 n c1), .s (.gs 1 o2 n c2)] [.cells m1 [.ints .u8 k1 f1] s1, .cells m2 [.ints .u8 k2 f2] s2] (fun v h' => v = .s (.bool (eqB n p q)) ∧ h' = [.cells m1 [.ints .u8 k1 f1] s1, .cells m2 [.ints .u8 k2 f2] s2]) := by
  refine fnX_does TB Tryz.func76 rfl (by decide) (fun O on hO => ?_)
  refine need_intro h1 ?_
  refine need_intro h2 ?_
  refine ⟨_, _, [0, 1], ⟨rfl, rfl⟩, by decide, ⟨rfl, rfl, trivial⟩, ?_, ⟨⟨_, rfl, eqvB_refl _⟩, ⟨_, rfl, eqvB_refl _⟩, trivial⟩⟩
  exact bytes_beq hf hg
end Go.Proofs.YtdlpmbghocabbaaGreatDoor

/- Watching: two buses but for their RAM, the program's and the document's. No condition but the lists' lengths. -/
namespace Go.Anv
open Go
theorem eqB_pre {n : Nat} {p q : Nat → B8} (h : eqB n p q = true) : ∀ j, j < n → p j = q j := fun j hj => by
  unfold eqB at h
  exact eq_of_beq (List.all_eq_true.1 h j (List.mem_range.2 hj))
theorem eqB_of {n : Nat} {p q : Nat → B8} (h : ∀ j, j < n → p j = q j) : eqB n p q = true := by
  unfold eqB
  exact List.all_eq_true.2 fun j hj => beq_iff_eq.2 (h j (List.mem_range.1 hj))
theorem eqB_not {n : Nat} {p q : Nat → B8} {j : Nat} (hj : j < n) (h : p j ≠ q j) : eqB n p q = false := by
  rw [Bool.eq_false_iff]
  exact fun e => h (eqB_pre e j hj)
theorem bytesOf_len (n : Nat) (f : Nat → Int) : (bytesOf n f).data.toList.length = n := by rw [bytesOf_list]; simp
theorem bytes_beq2 {n1 n2 : Nat} (p q : Nat → B8) : (bytesOf n1 (shf 0 (bfun p)) == bytesOf n2 (shf 0 (bfun q))) = (n1 == n2 && eqB n1 p q) := by
  by_cases h : n1 = n2
  · subst h
    rw [bytes_beq (p := p) (q := q) (fun j _ => by show bfun p (0 + j) = _; rw [Nat.zero_add]; rfl) (fun j _ => by show bfun q (0 + j) = _; rw [Nat.zero_add]; rfl)]
    simp
  · rw [beq_eq_false_iff_ne.2 h, Bool.false_and, Bool.eq_false_iff]
    intro e
    have e := (MapKept.bytes_beq _ _).1 e
    have := congrArg (fun b : ByteArray => b.data.toList.length) e
    simp only [bytesOf_len] at this
    exact h this
end Go.Anv
namespace Go.Proofs.YtdlpmbghocabbaaGreatDoor
open Go Go.Anv
set_option maxRecDepth 100000 in
theorem equal2_spec (m1 m2 : Bool) (n1 n2 c1 c2 s1 s2 : Nat) (p q : Nat → B8) :
    Does TB 76 [.s (.gs 0 0 n1 c1), .s (.gs 1 0 n2 c2)] [bblk m1 n1 p s1, bblk m2 n2 q s2] (fun v h' => v = .s (.bool (n1 == n2 && eqB n1 p q)) ∧ h' = [bblk m1 n1 p s1, bblk m2 n2 q s2]) := by
  refine fnX_does TB Tryz.func76 rfl (by decide) (fun O on hO => ?_)
  refine need_intro (by omega) ?_
  refine need_intro (by omega) ?_
  refine ⟨_, _, [0, 1], ⟨rfl, rfl⟩, by decide, ⟨rfl, rfl, trivial⟩, ?_, ⟨⟨_, rfl, eqvB_refl _⟩, ⟨_, rfl, eqvB_refl _⟩, trivial⟩⟩
  exact bytes_beq2 p q
end Go.Proofs.YtdlpmbghocabbaaGreatDoor

/- Watching: two buses but for their RAM; all of two buses. No condition but the lists' lengths. -/
namespace Go.Anv
open Go
/-- Two buses are the same but for their RAM. -/
def devS (s t : BusV) (l k : Lists) : Bool :=
  (s.ni == t.ni && eqB s.ni l.inp k.inp) && (s.no == t.no && eqB s.no l.out k.out) && s.msip == t.msip && s.cmp == t.cmp && s.now == t.now && s.ext == t.ext && s.soft == t.soft &&
    s.ier == t.ier && s.lcr == t.lcr && s.mcr == t.mcr && s.scratch == t.scratch && s.overrun == t.overrun && s.off == t.off && s.code == t.code
theorem cond_or (a b : Bool) : (bif a then true else b) = (a || b) := by cases a <;> rfl
end Go.Anv
namespace Go.Proofs.YtdlpmbghocabbaaGreatDoor
open Go Go.Anv
end Go.Proofs.YtdlpmbghocabbaaGreatDoor

/- Watching: all of two buses is the same (the document's); a copy of a bus. No condition but the lists' lengths. -/
namespace Go.Anv
open Go
def busS (s t : BusV) (l k : Lists) : Bool := (s.nr == t.nr && eqB s.nr l.ram k.ram) && devS s t l k
end Go.Anv
namespace Go.Proofs.YtdlpmbghocabbaaGreatDoor
open Go Go.Anv
end Go.Proofs.YtdlpmbghocabbaaGreatDoor

/- Watching: a copy of a whole; two wholes the same; the law's helpers. No condition but the lists' lengths. -/
namespace Go.Anv
open Go
/-- Are two Cpus the same? -/
def cpuS (c d : CpuV) : Bool := match eqSeg c.segs d.segs with
  | some b => b
  | none => false
def wholeS (c d : CpuV) (s t : BusV) (l k : Lists) : Bool := cpuS c d && busS s t l k
end Go.Anv
namespace Go.Proofs.YtdlpmbghocabbaaGreatDoor
open Go Go.Anv
end Go.Proofs.YtdlpmbghocabbaaGreatDoor

/- Watching: do two wholes look the same from U: the program's and the document's. No condition but the lists' lengths. -/
namespace Go.Anv
open Go
/-- RAM differs where neither R nor X is granted alone. -/
def seeN (c : CpuV) (l k : Lists) (j : Nat) : Bool := k.ram j != l.ram j && grantI c.proper.cfg c.proper.addr (0x80000000#64 + BitVec.ofNat 64 j) 5
def agreeS (c d : CpuV) (s t : BusV) (l k : Lists) : Bool := cpuS c.proper d.proper && devS s t l k && s.nr == t.nr && (List.range s.nr).all fun j => !seeN c l k j
theorem agree_no {c d : CpuV} {s t : BusV} {l k : Lists} {j : Nat} (hj : j < s.nr) (h : seeN c l k j = true) : agreeS c d s t l k = false := by
  unfold agreeS
  rw [Bool.and_eq_false_iff]
  right
  rw [Bool.eq_false_iff]
  intro e
  have := List.all_eq_true.1 e j (List.mem_range.2 hj)
  rw [h] at this
  cases this
theorem agree_yes {c d : CpuV} {s t : BusV} {l k : Lists} (h1 : cpuS c.proper d.proper = true) (h2 : devS s t l k = true) (h3 : s.nr = t.nr) (h : ∀ j, j < s.nr → seeN c l k j = false) : agreeS c d s t l k = true := by
  unfold agreeS
  rw [h1, h2, h3, beq_self_eq_true, Bool.true_and, Bool.true_and, Bool.true_and]
  exact List.all_eq_true.2 fun j hj => by rw [h j (by rw [h3]; exact List.mem_range.1 hj)]; rfl
end Go.Anv
namespace Go.Proofs.YtdlpmbghocabbaaGreatDoor
open Go Go.Anv
end Go.Proofs.YtdlpmbghocabbaaGreatDoor

/- The engine, part 18: contracts that leave all as it was: used in a larger heap; shown at a function's end. Plain theorems, no condition. -/
namespace Go.Anv
open Go

theorem updB_self : ∀ {h : List Blk} {k : Nat} {B : Blk}, nthB h k = some B → updB h k B = h
  | [], _, _, h => by simp [nthB] at h
  | x :: r, 0, B, h => by simp only [nthB, Option.some.injEq] at h; subst h; rfl
  | x :: r, k + 1, B, h => by simp only [nthB] at h; simp only [updB, updB_self h]

theorem mergeB_self {h : List Blk} : ∀ {κ : List Nat} {r : List Blk}, subH h κ r → mergeB h κ r = h
  | [], [], _ => by simp [mergeB]
  | k :: κ, B :: r, hk => by
    rw [mergeB, updB_self hk.1]
    exact mergeB_self hk.2
  | [], _ :: _, hk => hk.elim
  | _ :: _, [], hk => hk.elim

theorem roOk_self : ∀ h : List Blk, roOk h h
  | [] => trivial
  | _ :: r => ⟨.inr (.inr rfl), roOk_self r⟩

/-- A contract that leaves its heap as it was, in a larger heap. -/
theorem Does.atc {T : Tbl} {f : FuncId} {args : List EV} {hc : List Blk} {X : EV} (c : Does T f args hc (fun v h' => v = X ∧ h' = hc)) (κ : List Nat) {args' : List EV} {h : List Blk} {K : EV → List Blk → Prop}
    (ha : args' = renT (lk κ h.length) args) (hh : subH h κ (renH (lk κ h.length) hc)) (hnd : κ.Nodup) (hK : forceE (renE (lk κ h.length) X) fun v => K v h) : Does T f args' h K := by
  refine Does.at c κ ha hh hnd ?_ ?_
  · rintro v h' ⟨_, rfl⟩
    exact roOk_self _
  · rintro v h' ⟨rfl, rfl⟩
    rw [mergeB_self hh, forceH_eq]
    exact hK

theorem subQ_pre (J : List Blk) : ∀ (H P : List Blk), subQ (P ++ (H ++ J)) (List.range' P.length H.length) H
  | [], _ => trivial
  | B :: r, P => by
    refine ⟨⟨B, ?_, eqvB_refl B⟩, ?_⟩
    · apply get_nthB
      rw [List.getElem?_append_right (Nat.le_refl _), Nat.sub_self]
      rfl
    · have := subQ_pre J r (P ++ [B])
      simpa [List.append_assoc] using this

/-- The end of a function that leaves its heap as it was; new blocks are let go. -/
theorem Ends.ro {n : Nat} {H J : List Blk} {X x : EV} (hn : H.length = n) (hx : eqvE x (renE (lk (List.range n) (H ++ J).length) X)) (hH : renH (lk (List.range n) (H ++ J).length) H = H) : Ends n (fun v h' => v = X ∧ h' = H) x (H ++ J) := by
  subst hn
  refine ⟨X, H, List.range H.length, ⟨rfl, rfl⟩, List.nodup_range, ?_, hx, ?_⟩
  · rw [List.range_eq_range']; exact idK_range _ _ 0 (Nat.le_refl _)
  · rw [hH, List.range_eq_range']
    exact subQ_pre J H []

/-! ### a drawn region's orders, one state for all -/

theorem eqvH_subQ (h : List Blk) : subQ h (List.range' 0 h.length) h := subQ_range h h 0 rfl

theorem renT_same' {ρ : Nat → Nat} (hρ : ∀ i, ρ i = i) : ∀ l : List EV, renT ρ l = l := renT_same hρ

theorem leR_refl {n : Nat} {s : St} (hn : n ≤ s.heap.length) : leR n (List.range s.heap.length) s s := by
  have hlk : ∀ i, lk (List.range s.heap.length) s.heap.length i = i := lk_range s.heap.length
  refine ⟨List.nodup_range, ?_, ?_, ?_⟩
  · rw [List.range_eq_range']; exact idK_range n _ 0 hn
  · rw [renT_same' hlk]; exact eqvT_refl _
  · rw [renH_same hlk, List.range_eq_range']
    exact eqvH_subQ _

def toK (n : Nat) (t : St) : Exit → St → Prop
  | .normal, s => ∃ κ, leR n κ s t
  | _, _ => False

/-- **A drawn region: all its orders end in one state (with other numbers), from which the walk goes on.** -/
theorem draw_to {T : Tbl} {O : Org} (on : O.E.n = O.h.length) {id : Nat} {ops : Array Oper} {s : St} {K : Exit → St → Prop} (t : St) (hd : DrawG T O id ops s (toK O.E.n t)) (hk : K .normal t) : DrawG T O id ops s K := by
  intro E a w R
  refine Code.wp_mono ?_ (hd E a w R)
  rintro e a' w' ⟨E', s', h1, R'⟩
  cases e with
  | normal =>
    obtain ⟨κ, hκ⟩ := h1
    obtain ⟨E'', R''⟩ := R'.renum on hκ
    exact ⟨E'', t, hk, R''⟩
  | _ => exact h1.elim

theorem toK_id {n : Nat} {s : St} (hn : n ≤ s.heap.length) : toK n s .normal s := ⟨_, leR_refl hn⟩

theorem toK_of {n : Nat} {s t : St} (κ : List Nat) (h1 : κ.Nodup) (h2 : idK 0 n κ) (h3 : eqvT s.tmps (renT (lk κ s.heap.length) t.tmps)) (h4 : subQ s.heap κ (renH (lk κ s.heap.length) t.heap)) : toK n t .normal s := ⟨κ, h1, h2, h3, h4⟩

/-! ### numbers of blocks, written out -/

def litK (b : Nat) (k : Nat → Prop) : Prop :=
  match b with
  | 0 => k 0
  | 1 => k 1
  | 2 => k 2
  | 3 => k 3
  | 4 => k 4
  | 5 => k 5
  | 6 => k 6
  | 7 => k 7
  | 8 => k 8
  | 9 => k 9
  | 10 => k 10
  | 11 => k 11
  | 12 => k 12
  | 13 => k 13
  | 14 => k 14
  | 15 => k 15
  | 16 => k 16
  | 17 => k 17
  | 18 => k 18
  | 19 => k 19
  | 20 => k 20
  | 21 => k 21
  | 22 => k 22
  | 23 => k 23
  | 24 => k 24
  | 25 => k 25
  | 26 => k 26
  | 27 => k 27
  | 28 => k 28
  | 29 => k 29
  | 30 => k 30
  | 31 => k 31
  | 32 => k 32
  | 33 => k 33
  | 34 => k 34
  | 35 => k 35
  | 36 => k 36
  | 37 => k 37
  | 38 => k 38
  | 39 => k 39
  | n => k n

theorem litK_eq (b : Nat) (k : Nat → Prop) : litK b k = k b := by
  unfold litK
  split <;> rfl

mutual
def nV : SV → (SV → Prop) → Prop
  | .junk, k => k .junk
  | .int q n, k => k (.int q n)
  | .bool b, k => k (.bool b)
  | .str s, k => k (.str s)
  | .ptr b o, k => litK b fun b => k (.ptr b o)
  | .pix b o i, k => litK b fun b => k (.pix b o i)
  | .rp b o i z, k => litK b fun b => k (.rp b o i z)
  | .nilptr, k => k .nilptr
  | .slice b o l c, k => litK b fun b => k (.slice b o l c)
  | .nilslice, k => k .nilslice
  | .gs b o l c, k => litK b fun b => k (.gs b o l c)
  | .map b, k => litK b fun b => k (.map b)
  | .nilmap, k => k .nilmap
  | .func f a c, k => nL a fun a => nL c fun c => k (.func f a c)
  | .nilfunc, k => k .nilfunc
  | .iface t a c, k => nL c fun c => k (.iface t a c)
  | .niliface, k => k .niliface
def nL : List SV → (List SV → Prop) → Prop
  | [], k => k []
  | x :: r, k => nV x fun x => nL r fun r => k (x :: r)
end

mutual
theorem nV_eq : ∀ (v : SV) (k : SV → Prop), nV v k = k v
  | .junk, _ => rfl
  | .int .., _ => rfl
  | .bool _, _ => rfl
  | .str _, _ => rfl
  | .ptr .., _ => by simp only [nV, litK_eq]
  | .pix .., _ => by simp only [nV, litK_eq]
  | .rp .., _ => by simp only [nV, litK_eq]
  | .nilptr, _ => rfl
  | .slice .., _ => by simp only [nV, litK_eq]
  | .nilslice, _ => rfl
  | .gs .., _ => by simp only [nV, litK_eq]
  | .map _, _ => by simp only [nV, litK_eq]
  | .nilmap, _ => rfl
  | .func f a c, k => by simp only [nV]; rw [nL_eq a]; rw [nL_eq c]
  | .nilfunc, _ => rfl
  | .iface t a c, k => by simp only [nV]; rw [nL_eq c]
  | .niliface, _ => rfl
theorem nL_eq : ∀ (l : List SV) (k : List SV → Prop), nL l k = k l
  | [], _ => rfl
  | x :: r, k => by simp only [nL]; rw [nV_eq x]; rw [nL_eq r]
end

def nS (l : List Seg) : (List Seg → Prop) → Prop :=
  List.rec (motive := fun _ => (List Seg → Prop) → Prop) (fun k => k []) (fun x _ ih k => match x with
    | .one v => nV v fun v => ih fun r => k (.one v :: r)
    | .ints q n f => ih fun r => k (.ints q n f :: r)) l

theorem nS_eq : ∀ (cs : List Seg) (k : List Seg → Prop), nS cs k = k cs
  | [], _ => rfl
  | .one v :: r, k => by
    show (nV v fun v => nS r fun r => k (.one v :: r)) = _
    rw [nV_eq, nS_eq r]
  | .ints q n f :: r, k => by
    show (nS r fun r => k (.ints q n f :: r)) = _
    rw [nS_eq r]

def nB (B : Blk) (k : Blk → Prop) : Prop :=
  match B with
  | .cells m cs sp => nS cs fun cs => k (.cells m cs sp)
  | .recs m n z f sp => k (.recs m n z f sp)
  | .map es => k (.map es)
  | .dead => k .dead

def nH (l : List Blk) : (List Blk → Prop) → Prop :=
  List.rec (motive := fun _ => (List Blk → Prop) → Prop) (fun k => k []) (fun B _ ih k => nB B fun B => ih fun r => k (B :: r)) l

theorem nB_eq (B : Blk) (k : Blk → Prop) : nB B k = k B := by cases B <;> simp only [nB, nS_eq]
theorem nH_eq : ∀ (h : List Blk) (k : List Blk → Prop), nH h k = k h
  | [], _ => rfl
  | B :: r, k => by
    show (nB B fun B => nH r fun r => k (B :: r)) = _
    rw [nB_eq, nH_eq r]

def nE (v : EV) (k : EV → Prop) : Prop :=
  match v with
  | .s v => nV v fun v => k (.s v)
  | .agg cs => nS cs fun cs => k (.agg cs)
  | v => forceE v k

theorem nE_eq (v : EV) (k : EV → Prop) : nE v k = k v := by
  cases v <;> simp only [nE, nV_eq, nS_eq, forceE_eq]

/-- A contract in a larger heap; the numbers behind it are written out. -/
theorem Does.atn {T : Tbl} {f : FuncId} {args : List EV} {hc : List Blk} {Q : EV → List Blk → Prop} (c : Does T f args hc Q) (κ : List Nat) {args' : List EV} {h : List Blk} {K : EV → List Blk → Prop}
    (ha : args' = renT (lk κ h.length) args) (hh : subH h κ (renH (lk κ h.length) hc)) (hnd : κ.Nodup) (hro : ∀ v h', Q v h' → roOk hc h')
    (hK : ∀ v' h', Q v' h' → nH (mergeB h κ (renH (lk κ h.length) h')) fun h2 => nE (renE (lk κ h.length) v') fun v => K v h2) : Does T f args' h K :=
  Does.at c κ ha hh hnd hro fun v' h' hq => by
    have := hK v' h' hq
    rw [nH_eq, nE_eq] at this
    rw [forceH_eq, forceE_eq]
    exact this
end Go.Anv

/- Watching: one step as it was seen: its values, its block, the small questions asked of it. No condition: contracts of functions. -/
namespace Go.Anv
open Go
structure RowV where
  step : Int
  kind : Int
  mode : Int
  pc : B64
  raw : B32
  len : Int
  cause : B64
  tval : B64
  rd : Int
  val : B64
  mem : Int
  addr : B64
  size : Int
  data : B64
  next : B64
  nextMode : Int
/-- The cells of api.Row. -/
def RowV.svs (r : RowV) : List SV :=
  [.int .i64 r.step, .int .i64 r.kind, .int .i64 r.mode, .int .u64 r.pc.toNat, .int .u32 r.raw.toNat, .int .i64 r.len, .int .u64 r.cause.toNat, .int .u64 r.tval.toNat, .int .i64 r.rd, .int .u64 r.val.toNat, .int .i64 r.mem, .int .u64 r.addr.toNat, .int .i64 r.size, .int .u64 r.data.toNat, .int .u64 r.next.toNat, .int .i64 r.nextMode]
def RowV.segs (r : RowV) : List Seg := r.svs.map .one
/-- What a step showed: the wholes (c, s; d, t), the Cpu behind as it was handed in (e), the world, the row; the lists' rooms. -/
structure Sc where
  c : CpuV
  d : CpuV
  e : CpuV
  s : BusV
  t : BusV
  l : Lists
  k : Lists
  tick : Bool
  ext : Bool
  soft : Bool
  nw : Nat
  mw : Bool
  sw : Nat
  w : Nat → B8
  r : RowV
  c0 : Nat
  c1 : Nat
  c2 : Nat
  c3 : Nat
  c4 : Nat
  c5 : Nat
  cw : Nat
def Sc.lists (z : Sc) : List Blk := [bblk z.l.mr z.s.nr z.l.ram z.l.sr, bblk z.l.mi z.s.ni z.l.inp z.l.si, bblk z.l.mo z.s.no z.l.out z.l.so, bblk z.k.mr z.t.nr z.k.ram z.k.sr, bblk z.k.mi z.t.ni z.k.inp z.k.si, bblk z.k.mo z.t.no z.k.out z.k.so, bblk z.mw z.nw z.w z.sw]
def Sc.world (z : Sc) : List Seg := [.one (.bool z.tick), .one (.bool z.ext), .one (.bool z.soft), .one (.gs 6 0 z.nw z.cw)]
def Sc.b (z : Sc) : List Seg := wsegs z.c z.s (.gs 0 0 z.s.nr z.c0) (.gs 1 0 z.s.ni z.c1) (.gs 2 0 z.s.no z.c2)
def Sc.a (z : Sc) : List Seg := wsegs z.d z.t (.gs 3 0 z.t.nr z.c3) (.gs 4 0 z.t.ni z.c4) (.gs 5 0 z.t.no z.c5)
def Sc.segs (z : Sc) : List Seg := z.b ++ z.a ++ z.world ++ z.r.segs ++ z.e.segs
def Sc.h (z : Sc) : List Blk := z.lists ++ [.cells true z.segs 0]
/-- Lengths that can be. -/
structure Sc.Ok (z : Sc) : Prop where
  nr : z.s.nr ≤ 140737488355328
  ni : z.s.ni ≤ 140737488355328
  no : z.s.no ≤ 140737488355328
  mr : z.t.nr ≤ 140737488355328
  mi : z.t.ni ≤ 140737488355328
  mo : z.t.no ≤ 140737488355328
  cr : z.s.nr ≤ z.c0
  ci : z.s.ni ≤ z.c1
  co : z.s.no ≤ z.c2
  dr : z.t.nr ≤ z.c3
  di : z.t.ni ≤ z.c4
  do_ : z.t.no ≤ z.c5
  size : -9223372036854775808 ≤ z.r.size ∧ z.r.size ≤ 9223372036854775807
/-- Has Mem W? -/
def RowV.stores (r : RowV) : Bool := bitX .and .i64 r.mem 2 != 0
def RowV.trapped (r : RowV) : Bool := r.kind == 2 || r.kind == 3
def RowV.counts (r : RowV) : Bool := r.kind == 1 && bitX .and .u32 (r.raw.toNat : Int) 127 == 115
def RowV.placed (r : RowV) : Bool := r.mem != 0 && decide (0 < r.size) && decide (r.size ≤ 8)
def RowV.within (r : RowV) (a : B64) : Bool := r.placed && decide (r.addr ≤ a) && decide (((a - r.addr).toNat : Int) < r.size)
def anyN (f : Nat → Bool) : Nat → Bool
  | 0 => false
  | n + 1 => anyN f n || f n
def RowV.storedAt (r : RowV) (a : B64) (n : Nat) : Bool := r.stores && anyN (fun k => r.within (a + BitVec.ofNat 64 k)) n
theorem cond_all (a b : Bool) : (bif a then b else false) = (a && b) := by cases a <;> rfl
theorem wsize {x : Int} (h : 0 ≤ x ∧ x ≤ 9223372036854775807) : IntKind.u64.wrap x = x := by
  rw [wrap_u64, BitVec.toNat_ofInt]; omega
theorem placed_size {r : RowV} (h : r.placed = true) : (0 < r.size ∧ r.size ≤ 8) ∧ IntKind.u64.wrap r.size = r.size := by
  unfold RowV.placed at h
  rw [Bool.and_eq_true, Bool.and_eq_true] at h
  have h1 := of_decide_eq_true h.1.2
  have h2 := of_decide_eq_true h.2
  exact ⟨⟨h1, h2⟩, wsize (by omega)⟩
theorem eqvH_refl : ∀ h : List Blk, eqvH h h
  | [] => trivial
  | _ :: r => ⟨eqvB_refl _, eqvH_refl r⟩
theorem anyN_true {f : Nat → Bool} {n k : Nat} (hk : k < n) (h : f k = true) : anyN f n = true := by
  induction n with
  | zero => omega
  | succ n ih =>
    rw [anyN]
    rcases Nat.lt_succ_iff_lt_or_eq.1 hk with h' | h'
    · rw [ih h']; rfl
    · subst h'; rw [h, Bool.or_true]
theorem anyN_false {f : Nat → Bool} {n : Nat} (h : ∀ k, k < n → f k = false) : anyN f n = false := by
  induction n with
  | zero => rfl
  | succ n ih => rw [anyN, ih (fun k hk => h k (by omega)), h n (by omega)]; rfl
end Go.Anv
namespace Go.Proofs.YtdlpmbghocabbaaGreatDoor
open Go Go.Anv
end Go.Proofs.YtdlpmbghocabbaaGreatDoor

/- Watching: more small questions asked of a step: does the place lie in RAM; what is pending; what a trap leaves; the mode of loads and stores. No condition: contracts of functions. -/
namespace Go.Anv
open Go
/-- Does the place lie in RAM whole (n bytes of it)? -/
def RowV.inRam (r : RowV) (n : Nat) : Bool := (r.placed && decide (0x80000000#64 ≤ r.addr)) && (decide ((r.addr - 0x80000000#64).toNat ≤ n) && decide (r.size ≤ ((n - (r.addr - 0x80000000#64).toNat : Nat) : Int)))
def mipOf (s : BusV) : B64 :=
  (if (s.msip &&& 1#32 == 1#32) || s.soft then 8#64 else 0#64) ||| (if decide (s.cmp ≤ s.now) then 128#64 else 0#64) ||| (if s.ext || ((s.ier &&& 1#8 == 1#8) && decide (0 < s.ni)) then 2048#64 else 0#64)
def entryOf (m : B64) (mode : Int) : B64 := (m &&& ~~~6280#64) ||| ((m &&& 8#64) <<< 4) ||| (BitVec.ofInt 64 mode <<< 11)
def handlerOf (v cause : B64) : B64 := if (cause >>> 63 == 1#64) && (v &&& 1#64 == 1#64) then (v &&& ~~~3#64) + 4#64 * (cause <<< 1 >>> 1) else v &&& ~~~3#64
/-- The mode of loads and stores. -/
def CpuV.eff (c : CpuV) : Int := if c.proper.mode = 3 ∧ c.proper.mstatus &&& 131072#64 ≠ 0#64 then (((c.proper.mstatus &&& 6144#64) >>> 11).toNat : Int) else c.proper.mode
theorem an2 {a b : Bool} (h1 : a = true) (h2 : b = true) : (a && b) = true := by rw [h1, h2]; rfl
theorem an3 {a b : Bool} (h1 : a = true) (h2 : b = false) : (a && !b) = true := by rw [h1, h2]; rfl
theorem subn {a b : Nat} (h : b ≤ a) (ha : a ≤ 9223372036854775807) : IntKind.u64.wrap ((a : Int) - (b : Int)) = ((a - b : Nat) : Int) := by
  rw [show (a : Int) - (b : Int) = ((a - b : Nat) : Int) by omega, wnat (by omega)]
end Go.Anv
namespace Go.Proofs.YtdlpmbghocabbaaGreatDoor
open Go Go.Anv
set_option maxRecDepth 100000 in
theorem eff_spec (c : CpuV) (h : List Blk) : Does TB 141 [.agg c.segs] h (fun v h' => v = .s (.int .i64 c.eff) ∧ h' = h) := by
  refine fnX_pure TB Tryz.func141 rfl (by decide) rfl _ rfl (fun O on => ?_) h
  refine (proper_spec c _).mono ?_
  rintro _ _ ⟨rfl, rfl⟩
  repeat (refine need_intro (by first | decide | exact fun h => h | exact nt | exact an2 | rfl | (simp; done) | fail) ?_)
  have e1 : (bif c.proper.mode == 3 then bitX .and .u64 (c.proper.mstatus.toNat : Int) 131072 != 0 else false) = decide (c.proper.mode = 3 ∧ c.proper.mstatus &&& 131072#64 ≠ 0#64) := by
    rw [cond_and, and_u64, ofInt_toNat, Bool.eq_iff_iff, Bool.and_eq_true, decide_eq_true_iff, beq_iff_eq]
    refine and_congr Iff.rfl ?_
    have := bne_nat (c.proper.mstatus &&& 131072#64) 0#64
    exact (Bool.eq_iff_iff.1 this).trans bne_iff_ne
  unfold CpuV.eff
  refine ifB_intro (fun h => ?_) (fun h => ?_)
  · rw [e1] at h
    rw [if_pos (of_decide_eq_true h)]
    repeat (refine need_intro (by first | decide | exact fun h => h | exact nt | exact an2 | rfl | (simp; done) | fail) ?_)
    refine ⟨rfl, ?_⟩
    have h11 : min (Int.toNat 11) IntKind.u64.bits = 11 := by decide
    show IntKind.i64.wrap ((bitX .and .u64 (c.proper.mstatus.toNat : Int) 6144).fdiv (2 ^ min (Int.toNat 11) IntKind.u64.bits)) = _
    rw [h11, and_u64, ofInt_toNat, fdiv_pow]
    have : ((c.proper.mstatus &&& 6144#64) >>> 11).toNat ≤ 6144 := by
      rw [BitVec.toNat_ushiftRight, Nat.shiftRight_eq_div_pow, BitVec.toNat_and]
      exact Nat.le_trans (Nat.div_le_self _ _) Nat.and_le_right
    exact i64_in (by omega) (by show (((c.proper.mstatus &&& 6144#64) >>> 11).toNat : Int) ≤ _; omega)
  · rw [e1] at h
    rw [if_neg (of_decide_eq_false h)]
    exact eqvE_refl _
end Go.Proofs.YtdlpmbghocabbaaGreatDoor

/- Traps: what is pending; the counters at a step's end. No condition: contracts of functions. -/
namespace Go.Anv
open Go
/-- The interrupt that is to be taken. -/
def CpuV.pend (c : CpuV) (mip : B64) : Int × Bool :=
  if c.proper.mode = 3 ∧ c.proper.mstatus &&& 8#64 = 0#64 then (0, false)
  else if (mip &&& c.proper.mie) >>> 11 &&& 1#64 = 1#64 then (11, true)
  else if (mip &&& c.proper.mie) >>> 3 &&& 1#64 = 1#64 then (3, true)
  else if (mip &&& c.proper.mie) >>> 7 &&& 1#64 = 1#64 then (7, true)
  else (0, false)
/-- The counters at a step's end. -/
def CpuV.count (c was : CpuV) (ret wc wi : Bool) : CpuV :=
  { c.proper with
    mcycle := if wc = false ∧ was.mcountinhibit &&& 5#64 &&& 1#64 = 0#64 then c.mcycle + 1#64 else c.mcycle
    minstret := if (ret = true ∧ wi = false) ∧ (was.mcountinhibit &&& 5#64) >>> 2 &&& 1#64 = 0#64 then c.minstret + 1#64 else c.minstret }
end Go.Anv
namespace Go.Proofs.YtdlpmbghocabbaaGreatDoor
open Go Go.Anv
set_option maxRecDepth 100000 in
theorem pend_spec (c : CpuV) (mip : B64) (h : List Blk) : Does TB 104 [.agg c.segs, .s (.int .u64 mip.toNat)] h (fun v h' => v = .tuple [.s (.int .i64 (c.pend mip).1), .s (.bool (c.pend mip).2)] ∧ h' = h) := by
  refine fnX_pure TB Tryz.func104 rfl (by decide) rfl _ rfl (fun O on => ?_) h
  refine (proper_spec c _).mono ?_
  rintro _ _ ⟨rfl, rfl⟩
  repeat (refine need_intro (by first | exact fun h => h | exact nt | exact an2 | exact an3 | rfl | (simp; done) | fail) ?_)
  have e1 : (bif c.proper.mode == 3 then bitX .and .u64 (c.proper.mstatus.toNat : Int) 8 == 0 else false) = decide (c.proper.mode = 3 ∧ c.proper.mstatus &&& 8#64 = 0#64) := by
    rw [cond_and, and_u64, ofInt_toNat, Bool.eq_iff_iff, Bool.and_eq_true, decide_eq_true_iff, beq_iff_eq]
    refine and_congr Iff.rfl ?_
    have := beq_nat (c.proper.mstatus &&& 8#64) 0#64
    exact (Bool.eq_iff_iff.1 this).trans beq_iff_eq
  have e2 : ∀ k : Nat, (bitX .and .u64 ((bitX .and .u64 (mip.toNat : Int) (c.proper.mie.toNat : Int)).fdiv (2 ^ k)) 1 == 1) = decide ((mip &&& c.proper.mie) >>> k &&& 1#64 = 1#64) := by
    intro k
    rw [and_u64 (mip.toNat : Int), ofInt_toNat, ofInt_toNat, fdiv_pow, and_u64, ofInt_toNat, Bool.eq_iff_iff, decide_eq_true_iff]
    exact (Bool.eq_iff_iff.1 (beq_nat ((mip &&& c.proper.mie) >>> k &&& 1#64) 1#64)).trans beq_iff_eq
  refine ifB_intro (fun g => ?_) (fun g => ?_)
  · rw [e1] at g
    unfold CpuV.pend
    rw [if_pos (of_decide_eq_true g)]
    exact eqvE_refl _
  · rw [e1] at g
    have g0 := of_decide_eq_false g
    repeat (refine need_intro (by first | exact fun h => h | exact nt | exact an2 | exact an3 | rfl | (simp; done) | fail) ?_)
    refine loop_times on 4 ?_
    refine Box.mk ?_
    repeat (refine need_intro (by first | (decide) | exact fun h => h | exact nt | exact an2 | exact an3 | rfl | (simp; done) | fail) ?_)
    refine ifB_intro (fun g1 => ?_) (fun g1 => ?_)
    · have g1 := of_decide_eq_true ((e2 11).symm.trans g1)
      unfold CpuV.pend
      rw [if_neg g0, if_pos g1]
      exact eqvE_refl _
    have g1 := of_decide_eq_false ((e2 11).symm.trans g1)
    refine Box.mk ?_
    repeat (refine need_intro (by first | (decide) | exact fun h => h | exact nt | exact an2 | exact an3 | rfl | (simp; done) | fail) ?_)
    refine ifB_intro (fun g2 => ?_) (fun g2 => ?_)
    · have g2 := of_decide_eq_true ((e2 3).symm.trans g2)
      unfold CpuV.pend
      rw [if_neg g0, if_neg g1, if_pos g2]
      exact eqvE_refl _
    have g2 := of_decide_eq_false ((e2 3).symm.trans g2)
    refine Box.mk ?_
    repeat (refine need_intro (by first | (decide) | exact fun h => h | exact nt | exact an2 | exact an3 | rfl | (simp; done) | fail) ?_)
    refine ifB_intro (fun g3 => ?_) (fun g3 => ?_)
    · have g3 := of_decide_eq_true ((e2 7).symm.trans g3)
      unfold CpuV.pend
      rw [if_neg g0, if_neg g1, if_neg g2, if_pos g3]
      exact eqvE_refl _
    have g3 := of_decide_eq_false ((e2 7).symm.trans g3)
    refine Box.mk ?_
    unfold CpuV.pend
    rw [if_neg g0, if_neg g1, if_neg g2, if_neg g3]
    exact eqvE_refl _
set_option maxRecDepth 100000 in
theorem count_spec (c was : CpuV) (ret wc wi : Bool) (h : List Blk) : Does TB 73 [.agg c.segs, .agg was.segs, .s (.bool ret), .s (.bool wc), .s (.bool wi)] h (fun v h' => v = .agg (c.count was ret wc wi).segs ∧ h' = h) := by
  refine fnX_pur TB Tryz.func73 rfl (by decide) rfl _ rfl (fun O on hO => ?_) h
  refine draw_to on ?tt6 ?_ ?_
  rotate_left 1
  · refine draw_but [0, 1] on rfl (fun _ _ h => h) ?_
    repeat' (first | refine need_intro (by first | exact fun h => h | exact nt | exact an2 | exact an3 | rfl | (simp; done) | fail) ?_ | refine And.intro ?_ ?_ | (refine (proper_spec c _).mono ?_; rintro _ _ ⟨rfl, rfl⟩) | (refine (proper_spec was _).mono ?_; rintro _ _ ⟨rfl, rfl⟩))
    all_goals (refine toK_id ?_; rw [hO]; exact Nat.le_of_ble_eq_true rfl)
  repeat (refine need_intro (by first | exact fun h => h | exact nt | exact an2 | exact an3 | rfl | (simp; done) | fail) ?_)
  have b1 : ∀ v : B64, (bitX .and .u64 (v.toNat : Int) 1 == 0) = decide (v &&& 1#64 = 0#64) := fun v => by
    rw [and_u64, ofInt_toNat, Bool.eq_iff_iff, decide_eq_true_iff]
    exact (Bool.eq_iff_iff.1 (beq_nat (v &&& 1#64) 0#64)).trans beq_iff_eq
  have e1 : (bif !wc then bitX .and .u64 (was.proper.mcountinhibit.toNat : Int) 1 == 0 else false) = decide (wc = false ∧ was.mcountinhibit &&& 5#64 &&& 1#64 = 0#64) := by
    rw [b1, cond_and, Bool.eq_iff_iff, Bool.and_eq_true, decide_eq_true_iff, decide_eq_true_iff, Bool.not_eq_true']
    exact Iff.rfl
  have e2 : (bif (bif ret then !wi else false) then bitX .and .u64 ((was.proper.mcountinhibit.toNat : Int).fdiv (2 ^ min (Int.toNat 2) IntKind.u64.bits)) 1 == 0 else false) = decide ((ret = true ∧ wi = false) ∧ (was.mcountinhibit &&& 5#64) >>> 2 &&& 1#64 = 0#64) := by
    rw [show min (Int.toNat 2) IntKind.u64.bits = 2 from by decide, fdiv_pow, b1, cond_and, cond_and, Bool.eq_iff_iff, Bool.and_eq_true, Bool.and_eq_true, decide_eq_true_iff, decide_eq_true_iff, Bool.not_eq_true']
    exact Iff.rfl
  have up : ∀ v : B64, IntKind.u64.wrap ((v.toNat : Int) + 1) = ((v + 1#64).toNat : Int) := fun v => add64 v 1#64
  refine ifB_intro (fun g1 => ?_) (fun g1 => ?_)
  all_goals
    repeat (refine need_intro (by first | exact fun h => h | exact nt | exact an2 | exact an3 | rfl | (simp; done) | fail) ?_)
    refine ifB_intro (fun g2 => ?_) (fun g2 => ?_)
  all_goals
    repeat (refine need_intro (by first | exact fun h => h | exact nt | exact an2 | exact an3 | rfl | (simp; done) | fail) ?_)
    have g1 := e1.symm.trans g1
    have g2 := e2.symm.trans g2
    first | replace g1 := of_decide_eq_true g1 | replace g1 := of_decide_eq_false g1
    first | replace g2 := of_decide_eq_true g2 | replace g2 := of_decide_eq_false g2
    unfold CpuV.count
    first | rw [if_pos g1] | rw [if_neg g1]
    first | rw [if_pos g2] | rw [if_neg g2]
    show eqvS _ _
    repeat' (first | exact eqvS_nil | refine eqvS_same ?_ | refine eqvS_int (up _) ?_)
end Go.Proofs.YtdlpmbghocabbaaGreatDoor

/- The bus as it lies; an instruction and what it did. Definitions alone. -/
namespace Go.Anv
open Go
/-- A bus: its plain values, its lists, their rooms. -/
structure Dev where
  s : BusV
  ram : Nat → B8
  inp : Nat → B8
  out : Nat → B8
  cr : Nat
  ci : Nat
  co : Nat
/-- The bus itself; its lists lie from b on. -/
def Dev.blk (d : Dev) (b : Nat) : Blk := .cells true (d.s.dev 0 (.gs b 0 d.s.nr d.cr) (.gs (b + 1) 0 d.s.ni d.ci) (.gs (b + 2) 0 d.s.no d.co)) 0
/-- With its lock held. -/
def Dev.held (d : Dev) (b : Nat) : Blk := .cells true (d.s.dev 1 (.gs b 0 d.s.nr d.cr) (.gs (b + 1) 0 d.s.ni d.ci) (.gs (b + 2) 0 d.s.no d.co)) 0
def Dev.rb (d : Dev) : Blk := bblk true d.s.nr d.ram (d.cr - d.s.nr)
def Dev.ib (d : Dev) : Blk := bblk true d.s.ni d.inp (d.ci - d.s.ni)
def Dev.ob (d : Dev) : Blk := bblk true d.s.no d.out (d.co - d.s.no)
def Dev.h (d : Dev) : List Blk := [d.blk 1, d.rb, d.ib, d.ob]
def Dev.hh (d : Dev) : List Blk := [d.held 1, d.rb, d.ib, d.ob]
structure Dev.Ok (d : Dev) : Prop where
  can : d.s.can = true
  cr : d.s.nr ≤ d.cr
  ci : d.s.ni ≤ d.ci
  co : d.s.no ≤ d.co
/-- An instruction's plain values. -/
structure InV where
  op : Int
  rd : Int
  rs1 : Int
  rs2 : Int
  imm : Int
  aq : Bool
  rl : Bool
  len : Int
  raw : B32
def InV.segs (i : InV) : List Seg := [.one (.int .i64 i.op), .one (.int .i64 i.rd), .one (.int .i64 i.rs1), .one (.int .i64 i.rs2), .one (.int .i64 i.imm), .one (.bool i.aq), .one (.bool i.rl), .one (.int .i64 i.len), .one (.int .u32 i.raw.toNat)]
structure TrapV where
  is : Bool
  cause : B64
  tval : B64
def TrapV.segs (t : TrapV) : List Seg := [.one (.bool t.is), .one (.int .u64 t.cause.toNat), .one (.int .u64 t.tval.toNat)]
def noTrap : TrapV := ⟨false, 0#64, 0#64⟩
/-- What an instruction did. -/
structure DoneV where
  trap : TrapV
  rd : Int
  val : B64
  mem : Int
  addr : B64
  size : Int
  data : B64
  wc : Bool
  wi : Bool
def DoneV.segs (d : DoneV) : List Seg := d.trap.segs ++ [.one (.int .i64 d.rd), .one (.int .u64 d.val.toNat), .one (.int .i64 d.mem), .one (.int .u64 d.addr.toNat), .one (.int .i64 d.size), .one (.int .u64 d.data.toNat), .one (.bool d.wc), .one (.bool d.wi)]
def done0 : DoneV := ⟨noTrap, 0, 0#64, 0, 0#64, 0, 0#64, false, false⟩
/-- An instruction in its midst. -/
def turnS (c : CpuV) (b : SV) (i : InV) (next : B64) (d : DoneV) : List Seg := c.segs ++ (.one b :: i.segs ++ (.one (.int .u64 next.toNat) :: d.segs))
/-- An instruction in its midst, over a bus. -/
structure Xs where
  c : CpuV
  i : InV
  next : B64
  d : DoneV
  b : Dev
def Xs.blk (x : Xs) : Blk := .cells true (turnS x.c (.ptr 1 0) x.i x.next x.d) 0
def Xs.h (x : Xs) : List Blk := [x.blk, x.b.blk 2, x.b.rb, x.b.ib, x.b.ob]
/-- A register gets a value. -/
def CpuV.set (c : CpuV) (n : Int) (v : B64) : CpuV := { c with x := fun j => if j = n.toNat then v else c.x j }
def Xs.put (x : Xs) (v : B64) : Xs := { x with c := if x.i.rd = 0 then x.c else x.c.set x.i.rd v, d := if x.i.rd = 0 then x.d else { x.d with rd := x.i.rd, val := v } }
def InV.ok (i : InV) : Bool := decide (1 ≤ i.op ∧ i.op < 97 ∧ 0 ≤ i.rd ∧ i.rd < 32 ∧ 0 ≤ i.rs1 ∧ i.rs1 < 32 ∧ 0 ≤ i.rs2 ∧ i.rs2 < 32 ∧ (i.len = 2 ∨ i.len = 4))
end Go.Anv

/- An instruction's operands; a register gets a value; can there be such an instruction. Contracts of functions. -/
namespace Go.Proofs.YtdlpmbghocabbaaGreatDoor
open Go Go.Anv
set_option maxRecDepth 100000 in
theorem x1_spec (x : Xs) (h0 : 0 ≤ x.i.rs1) (h1 : x.i.rs1 < 32) : Does TB 82 [.s (.ptr 0 0)] x.h (fun v h' => v = .s (.int .u64 (x.c.x x.i.rs1.toNat).toNat) ∧ h' = x.h) := by
  refine fnX_does TB Tryz.func82 rfl (by decide) (fun O on hO => ?_)
  refine draw_held on rfl (fun _ _ h => h) ?_
  repeat (refine need_intro (by first | rfl | omega | fail) ?_)
  exact Ends.ro (H := x.h) rfl (eqvE_refl _) rfl
set_option maxRecDepth 100000 in
theorem x2_spec (x : Xs) (h0 : 0 ≤ x.i.rs2) (h1 : x.i.rs2 < 32) : Does TB 84 [.s (.ptr 0 0)] x.h (fun v h' => v = .s (.int .u64 (x.c.x x.i.rs2.toNat).toNat) ∧ h' = x.h) := by
  refine fnX_does TB Tryz.func84 rfl (by decide) (fun O on hO => ?_)
  refine draw_held on rfl (fun _ _ h => h) ?_
  repeat (refine need_intro (by first | rfl | omega | fail) ?_)
  exact Ends.ro (H := x.h) rfl (eqvE_refl _) rfl
set_option maxRecDepth 100000 in
theorem imm_spec (x : Xs) : Does TB 81 [.s (.ptr 0 0)] x.h (fun v h' => v = .s (.int .u64 (BitVec.ofInt 64 x.i.imm).toNat) ∧ h' = x.h) := by
  refine fnX_does TB Tryz.func81 rfl (by decide) (fun O on hO => ?_)
  repeat (refine need_intro (by first | exact fun h => h | exact nt | exact an2 | exact an3 | rfl | (simp; done) | fail) ?_)
  exact Ends.ro (H := x.h) rfl ⟨rfl, wrap_u64 _⟩ rfl
set_option maxRecDepth 100000 in
theorem put_spec (x : Xs) (v : B64) (h0 : 0 ≤ x.i.rd) (h1 : x.i.rd < 32) : Does TB 80 [.s (.ptr 0 0), .s (.int .u64 v.toNat)] x.h (fun r h' => r = .tuple [] ∧ h' = (x.put v).h) := by
  refine fnX_does TB Tryz.func80 rfl (by decide) (fun O on hO => ?_)
  repeat (refine need_intro (by first | exact fun h => h | exact nt | exact an2 | exact an3 | rfl | (simp; done) | fail) ?_)
  refine ifB_intro (fun g => ?_) (fun g => ?_)
  · have g : x.i.rd ≠ 0 := bne_iff_ne.1 g
    refine draw_but [0] on rfl (fun _ _ h => h) ?_
    repeat (refine need_intro (by first | rfl | omega | fail) ?_)
    rw [Xs.put, if_neg g, if_neg g]
    refine ⟨_, _, [0, 1, 2, 3, 4], ⟨rfl, rfl⟩, by decide, ⟨rfl, rfl, rfl, rfl, rfl, trivial⟩, eqvE_refl _, ⟨⟨_, rfl, ⟨rfl, rfl, ?_⟩⟩, ⟨_, rfl, eqvB_refl _⟩, ⟨_, rfl, eqvB_refl _⟩, ⟨_, rfl, eqvB_refl _⟩, ⟨_, rfl, eqvB_refl _⟩, trivial⟩⟩
    show eqvS _ _
    repeat' (first | exact eqvS_nil | refine eqvS_same ?_ | refine eqvS_ints (fun j _ => ?_) ?_)
    show (if j = x.i.rd.toNat then (v.toNat : Int) else wfun x.c.x j) = wfun (fun j => if j = x.i.rd.toNat then v else x.c.x j) j
    simp only [wfun]
    split <;> rfl
  · have g : x.i.rd = 0 := by simpa using g
    rw [Xs.put, if_pos g, if_pos g]
    exact Ends.same ⟨rfl, rfl⟩ (Nat.le_of_ble_eq_true rfl)
theorem reg_spec (n : Int) (h : List Blk) : Does TB 49 [.s (.int .i64 n)] h (fun v h' => v = .s (.bool (decide (0 ≤ n) && decide (n < 32))) ∧ h' = h) := by
  refine fnX_pure TB Tryz.func49 rfl (by decide) rfl _ rfl (fun O on => ?_) h
  repeat (refine need_intro (by first | exact fun h => h | exact nt | exact an2 | exact an3 | rfl | (simp; done) | fail) ?_)
  exact cond_and _ _
set_option maxRecDepth 100000 in
theorem valid_spec (i : InV) (h : List Blk) : Does TB 31 [.agg i.segs] h (fun v h' => v = .s (.bool i.ok) ∧ h' = h) := by
  refine fnX_pure TB Tryz.func31 rfl (by decide) rfl _ rfl (fun O on => ?_) h
  repeat (refine need_intro (by first | exact fun h => h | exact nt | exact an2 | exact an3 | rfl | (simp; done) | fail) ?_)
  have fin : ∀ {v : Bool}, v = i.ok → eqvE (.s (.bool v)) (.s (.bool i.ok)) := fun h => h
  refine ifB_intro (fun g1 => ?_) (fun g1 => ?_)
  rotate_left 1
  · repeat (refine need_intro (by first | exact g1 | exact fun h => h | exact nt | exact an2 | exact an3 | rfl | (simp; done) | fail) ?_)
    refine fin ?_
    simp at g1
    simp [InV.ok]; omega
  repeat (refine need_intro (by first | exact g1 | exact fun h => h | exact nt | exact an2 | exact an3 | rfl | (simp; done) | fail) ?_)
  refine Does.ungd (b := [.s (.int .i64 i.rd)]) ⟨⟨g1, rfl⟩, trivial⟩ ?_
  refine (reg_spec i.rd _).mono ?_
  rintro _ _ ⟨rfl, rfl⟩
  repeat (refine need_intro (by first | exact g1 | exact fun h => h | exact nt | exact an2 | exact an3 | rfl | (simp; done) | fail) ?_)
  refine ifB_intro (fun g2 => ?_) (fun g2 => ?_)
  rotate_left 1
  · repeat (refine need_intro (by first | exact g2 | exact fun h => h | exact nt | exact an2 | exact an3 | rfl | (simp; done) | fail) ?_)
    refine fin ?_
    simp at g1 g2
    simp [InV.ok]; omega
  repeat (refine need_intro (by first | exact g2 | exact fun h => h | exact nt | exact an2 | exact an3 | rfl | (simp; done) | fail) ?_)
  refine Does.ungd (b := [.s (.int .i64 i.rs1)]) ⟨⟨g2, rfl⟩, trivial⟩ ?_
  refine (reg_spec i.rs1 _).mono ?_
  rintro _ _ ⟨rfl, rfl⟩
  repeat (refine need_intro (by first | exact g2 | exact fun h => h | exact nt | exact an2 | exact an3 | rfl | (simp; done) | fail) ?_)
  refine ifB_intro (fun g3 => ?_) (fun g3 => ?_)
  rotate_left 1
  · repeat (refine need_intro (by first | exact g3 | exact fun h => h | exact nt | exact an2 | exact an3 | rfl | (simp; done) | fail) ?_)
    refine fin ?_
    simp at g1 g2 g3
    simp [InV.ok]; omega
  repeat (refine need_intro (by first | exact g3 | exact fun h => h | exact nt | exact an2 | exact an3 | rfl | (simp; done) | fail) ?_)
  refine Does.ungd (b := [.s (.int .i64 i.rs2)]) ⟨⟨g3, rfl⟩, trivial⟩ ?_
  refine (reg_spec i.rs2 _).mono ?_
  rintro _ _ ⟨rfl, rfl⟩
  repeat (refine need_intro (by first | exact g3 | exact fun h => h | exact nt | exact an2 | exact an3 | rfl | (simp; done) | fail) ?_)
  refine fin ?_
  simp at g1 g2 g3
  rw [Bool.eq_iff_iff]
  simp [InV.ok]
  omega
end Go.Proofs.YtdlpmbghocabbaaGreatDoor

/- The engine, part 20: functions that defer one clearing of a map. Plain theorems; no condition. -/
namespace Go.Anv
open Go

section
variable {P : Program}

theorem step_defer_builtin {fr : Frame} {cs : List Frame} {w w2 : World} {d : Deferred} {ds : List Deferred} {b : Builtin} {tys : Array TypeId} {ty : TypeId} {consts : Array Bool} {v : Value}
    (hm : fr.mode = .returning) (hd : fr.defers = d :: ds) (ht : d.target = .builtin b tys ty consts) (hi : (invoke d.target d.args).run P w = .ok (.value v) w2) :
    step P (lone fr cs w) = .next (lone { fr with defers := ds } cs w2) := by
  obtain ⟨t, a⟩ := d
  simp only at ht hi
  subst ht
  refine step_lone_go ?_
  simp [stepG, unwind, callDeferred, hm, hd, hi]

def postB (P : Program) (fn : Func) (R : Ending → World → Prop) : Exit → Act → World → Prop
  | .normal, a, w | .ret, a, w => ∃ d b tys ty consts v w2 r, a.defers = [d] ∧ d.target = .builtin b tys ty consts ∧ (invoke d.target d.args).run P w = .ok (.value v) w2 ∧ (results fn a.tmps).run P w2 = .ok r w2 ∧ R (.returned r) w2
  | _, _, _ => False

theorem calls_of_wp_builtin {f : FuncId} {fn : Func} {c : Code} {args : Array Value} {w : World} {R : Ending → World → Prop}
    (hf : P.funcs[f]? = some fn) (hb : fn.body = some c)
    (h : c.wp P (postB P fn R) { tmps := args ++ Array.replicate (fn.ntmps - args.size) undef, defers := [] } w) : Calls P f args w R := by
  intro cs
  let b : Frame := { (default : Frame) with fn := f, kind := .normal }
  have henter : Frame.enter P f args .normal =
      b.at { tmps := args ++ Array.replicate (fn.ntmps - args.size) undef, defers := [] } [.code c] := by
    simp [Frame.enter, Frame.at, hf, hb, b]
  obtain ⟨e, a', w', hq, harr⟩ := h b [] cs
  rw [← henter] at harr
  have fin : ∀ (todo : List Item) (w' : World), postB P fn R .normal a' w' → Steps P (lone (Frame.enter P f args .normal) cs w) (lone { b.at a' todo with mode := .returning } cs w') →
      ∃ e w'' fr', R e w'' ∧ Comes P (lone (Frame.enter P f args .normal) cs w) (lone fr' cs w'') e ∧ fr'.fn = f ∧ fr'.leaving P w'' e := by
    intro todo w' hq hs
    obtain ⟨d, bb, tys, ty, consts, v, w2, r, h1, h2, h3, h4, h5⟩ := hq
    have hst := step_defer_builtin (fr := { b.at a' todo with mode := .returning }) (cs := cs) rfl h1 h2 h3
    exact ⟨.returned r, w2, _, h5, Steps.trans hs (.one hst), rfl, rfl, rfl, rfl, fn, hf, h4⟩
  cases e with
  | normal => exact fin [] w' hq (Steps.trans harr (.one step_end))
  | ret =>
    obtain ⟨todo, hs₀⟩ := harr
    exact fin todo w' hq hs₀
  | panic chain => exact hq.elim
  | exit id => exact hq.elim
  | goto l => exact hq.elim
  | outgrown => exact hq.elim
end

/-- The operations ahead of a deferred clearing that stands last; the map; its type. -/
def lastB : List Oper → Option (List Oper × Operand × TypeId)
  | [] => none
  | [o] => match o.guard, o.dst, o.op with
    | none, none, .defer { callee := .builtin .clear, args, argTypes } => match args.toList, argTypes.toList with
      | [x], [t] => some ([], x, t)
      | _, _ => none
    | _, _, _ => none
  | o :: r => match lastB r with
    | some (p, x, t) => some (o :: p, x, t)
    | none => none

theorem lastB_spec : ∀ {l pre : List Oper} {x : Operand} {t : TypeId}, lastB l = some (pre, x, t) → ∃ o, l = pre ++ [o] ∧ o.guard = none ∧ o.dst = none ∧ o.op = .defer { callee := .builtin .clear, args := #[x], argTypes := #[t] }
  | [], _, _, _, h => by simp [lastB] at h
  | [o], pre, x, t, h => by
    simp only [lastB] at h
    split at h
    · rename_i args tys hg hd hop
      split at h
      · rename_i x' t' hx ht
        simp only [Option.some.injEq, Prod.mk.injEq] at h
        obtain ⟨rfl, rfl, rfl⟩ := h
        have ex : args = #[x'] := by rw [← Array.toList_inj]; exact hx
        have et : tys = #[t'] := by rw [← Array.toList_inj]; exact ht
        exact ⟨o, rfl, hg, hd, by rw [hop, ex, et]⟩
      · cases h
    · cases h
  | o :: o' :: r, pre, x, t, h => by
    simp only [lastB] at h
    split at h
    · rename_i p x' t' hr
      simp only [Option.some.injEq, Prod.mk.injEq] at h
      obtain ⟨rfl, rfl, rfl⟩ := h
      obtain ⟨y, h1, h2⟩ := lastB_spec (l := o' :: r) hr
      exact ⟨y, by rw [h1]; rfl, h2⟩
    · cases h

/-- The walk as far as the defer; the code behind it. -/
def wpb (T : Tbl) (O : Org) (c : Code) : St → (St → EV → TypeId → Code → Prop) → Prop :=
  Code.rec (motive := fun _ => St → (St → EV → TypeId → Code → Prop) → Prop)
    (fun _ _ => False)
    (fun _ _ _ _ _ => False)
    (fun a b _ wb s k => match a with
      | .region id ops false => match lastB ops.toList with
        | some (pre, x, t) => opsX T ops pre s fun s' => k s' (evT s'.tmps x) t b
        | none => wpx T O (.region id ops false) s (normK fun s' => wb s' k)
      | a => wpx T O a s (normK fun s' => wb s' k))
    (fun _ _ _ _ _ _ _ => False)
    (fun _ _ _ _ _ => False)
    (fun _ _ _ _ => False)
    (fun _ _ _ _ _ _ _ _ => False)
    (fun _ _ _ => False)
    (fun _ _ _ _ => False)
    (fun _ _ _ => False)
    (fun _ _ _ => False)
    (fun _ _ => False)
    (fun _ _ _ => False)
    c

theorem wpb_seq (T : Tbl) (O : Org) (a b : Code) (s : St) (k : St → EV → TypeId → Code → Prop) : wpb T O (.seq a b) s k = (match a with
    | .region id ops false => match lastB ops.toList with
      | some (pre, x, t) => opsX T ops pre s fun s' => k s' (evT s'.tmps x) t b
      | none => wpx T O (.region id ops false) s (normK fun s' => wpb T O b s' k)
    | a => wpx T O a s (normK fun s' => wpb T O b s' k)) := rfl

theorem wpb_snd {T : Tbl} {O : Org} (on : O.E.n = O.h.length) {Q : Exit → Act → World → Prop} {k : St → EV → TypeId → Code → Prop}
    (hk : ∀ E s a w x xv t ty b consts, k s x t b → denE E x xv → Rel O E s a w → Code.wp T.P b Q { a with defers := { target := .builtin .clear #[t] ty consts, args := #[xv] } :: a.defers } w) :
    ∀ (c : Code) {E : Emb} {s : St} {a : Act} {w : World}, wpb T O c s k → Rel O E s a w → c.wp T.P Q a w := by
  have step : ∀ (x y : Code) {E : Emb} {s : St} {a : Act} {w : World} {n : St → Prop}, wpx T O x s (normK n) → Rel O E s a w → (∀ {E s a w}, n s → Rel O E s a w → y.wp T.P Q a w) → (Code.seq x y).wp T.P Q a w := by
    intro x y E s a w n hx R hy
    refine wp_seq (Code.wp_mono ?_ (wpx_snd on x hx R))
    rintro e a' w' ⟨E', s', h1, h2⟩
    cases e <;> first
      | exact hy h1 h2
      | exact h1.elim
  intro c
  induction c with
  | seq x y _ ihy =>
    intro E s a w h R
    rw [wpb_seq] at h
    split at h
    · rename_i id ops _ _
      split at h
      · rename_i pre x t hl
        obtain ⟨o, h1, hg, hd, hop⟩ := lastB_spec hl
        refine wp_seq (wp_region_list ?_)
        rw [h1]
        refine opsX_append on pre [o] R h fun E' s' a' w' hk' R' => ?_
        have hxd := ev_denE R'.fr x
        unfold wpList
        rw [if_pos (by simp [Region.wanted, hg])]
        refine .inl ?_
        unfold Oper.wp
        have hex : ∃ cs, (execOp a'.eval o).run T.P w' = .ok (.defer { target := .builtin .clear #[t] o.type cs, args := #[a'.eval x] }) w' := by
          refine ⟨(#[x] : Array Operand).map (fun y => match y with | .const _ => true | _ => false), ?_⟩
          have em : (#[x] : Array Operand).map a'.eval = #[a'.eval x] := by simp
          unfold execOp
          simp only [hop, resolve, em]
          rfl
        obtain ⟨cs, hex⟩ := hex
        rw [hex, Oper.upon_defer, hd]
        exact hk E' s' a' w' _ _ _ o.type _ cs hk' hxd R'
      · exact step _ _ h R fun h1 h2 => ihy h1 h2
    · exact step _ _ h R fun h1 h2 => ihy h1 h2
  | _ => intro E s a w h R; exact h.elim

/-- What comes behind the code: the map is cleared; what is handed back. -/
def bodyB (T : Tbl) (F : Func) (x : EV) (t : TypeId) (Q : EV → List Blk → Prop) : Exit → St → Prop
  | .normal, s => match T.ty t, x with
    | some { d := .map _ _, .. }, .s (.map b) => match nthB s.heap b with
      | some (.map _) => updBK s.heap b (.map []) fun h => resX T ⟨s.tmps, h⟩ F.results.toList Q
      | _ => False
    | _, _ => False
  | .ret, s => match T.ty t, x with
    | some { d := .map _ _, .. }, .s (.map b) => match nthB s.heap b with
      | some (.map _) => updBK s.heap b (.map []) fun h => resX T ⟨s.tmps, h⟩ F.results.toList Q
      | _ => False
    | _, _ => False
  | _, _ => False

/-- A function's body that defers a clearing, walked. -/
def fnXB (T : Tbl) (O : Org) (F : Func) (args : List EV) (h : List Blk) (Q : EV → List Blk → Prop) : Prop :=
  match F.body with
  | some c => frameK args F.ntmps fun ts => wpb T O c ⟨ts, h⟩ fun s x t rest => ∀ O' : Org, O'.E.n = O'.h.length → O'.E.n = s.heap.length → O.E.n ≤ O'.E.n → wpx T O' rest s (bodyB T F x t Q)
  | none => False

theorem fnXB_call (T : Tbl) {f : FuncId} {F : Func} (hF : T.P.funcs[f]? = some F) {args : List EV} {h : List Blk} {Q : EV → List Blk → Prop}
    (hX : ∀ E w (Z : TabOk E h w), Sim E h w → fnXB T ⟨E, h, w, [], Z⟩ F args h Q) : CallG T f args h Q := by
  intro E w vs S Z hargs
  have hx := hX E w Z S
  unfold fnXB at hx
  split at hx
  · rename_i c hc
    rw [frameK_eq] at hx
    refine calls_of_wp_builtin hF hc ?_
    have hlen : vs.size = args.length := by rw [← Array.length_toList]; exact denT_length hargs
    have R : Rel ⟨E, h, w, [], Z⟩ E { tmps := args ++ junks (F.ntmps - args.length), heap := h } { tmps := vs ++ Array.replicate (F.ntmps - vs.size) undef, defers := [] } w := by
      refine ⟨⟨by simp [length_junks, hlen], fun i v hi => ?_⟩, rfl, S, Since.refl _ _ _⟩
      rw [nth_append_junks]
      split
      · rename_i hlt
        rw [Array.getElem?_append_left (by omega)] at hi
        exact denT_nth hargs (by simpa using hi)
      · simp only [denE]
    refine wpb_snd (O := ⟨E, h, w, [], Z⟩) S.n ?_ c hx R
    intro E1 s1 a1 w1 x0 xv t ty rest consts hk hxd R1
    have hdf : a1.defers = [] := R1.df
    generalize hdd : ({ target := .builtin .clear #[t] ty consts, args := #[xv] } : Deferred) = d
    have Z1 : TabOk E1 s1.heap w1 := Z.since R1.sin
    have hO := hk ⟨E1, s1.heap, w1, [d], Z1⟩ R1.sim.n R1.sim.n (by have h1 := R1.sin.len; have h2 := S.n; have h3 := R1.sim.n; simp only at *; omega)
    have R1' : Rel ⟨E1, s1.heap, w1, [d], Z1⟩ E1 s1 { a1 with defers := d :: a1.defers } w1 := ⟨R1.fr, by simp [hdf], R1.sim, Since.refl _ _ _⟩
    refine Code.wp_mono ?_ (wpx_snd (T := T) (O := ⟨E1, s1.heap, w1, [d], Z1⟩) R1.sim.n rest hO R1')
    have key : ∀ E2 s2 a2 w2, bodyB T F x0 t Q .normal s2 → Rel ⟨E1, s1.heap, w1, [d], Z1⟩ E2 s2 a2 w2 → postB T.P F (Post E h w Q) .normal a2 w2 := by
      intro E2 s2 a2 w2 hb R2
      have hdf2 : a2.defers = [d] := R2.df
      unfold bodyB at hb
      simp only at hb
      split at hb
      · rename_i kt et _ _ _ b ht
        split at hb
        · rename_i es hbk
          rw [updBK_eq, updB_eq] at hb
          have hle2 : E1.le E2 := R2.sin.le R1.sim.n R2.sim.n
          simp only [denE, denV] at hxd
          obtain ⟨hb1, rfl⟩ := hxd
          have hbk' := nthB_get hbk
          obtain ⟨l, clock, hl, _⟩ := R2.sim.ok b _ hbk'
          have hloc : E1.f b = E2.f b := (hle2.2 b hb1).symm
          have S3 := R2.sim.mset (es' := []) hbk' (l' := #[]) (c' := clock) hl (by simp [denM])
          have N3 := Since.mset (E := E2) (h := s2.heap) (es' := []) hbk' (l' := #[]) (c' := clock) hl
          have hfr : frameOk E2 s2.tmps a2.tmps := R2.fr
          obtain ⟨u, v', k1, k2, k3⟩ := resX_snd T (s := ⟨s2.tmps, s2.heap.set b (.map [])⟩) hfr S3 hb
          have hd : T.P.underlying t = some (.map kt et) := (T.tyOk _ _ ht).desc
          refine ⟨d, .clear, #[t], ty, consts, .tuple #[], _, u, hdf2, by rw [← hdd], ?_, k1, u, v', _, E2, rfl, k2, S3, ?_, k3⟩
          · rw [← hdd]
            simp [invoke, builtin, Builtin.clear_, run_underlying hd, hloc, MapKept.run_getObj_map hl, MapKept.run_setObj_map _ hl, Result.andThen]
          · exact ((R1.sin).trans S.n R1.sim.n R2.sin).trans S.n R2.sim.n N3
        · exact hb.elim
      · exact hb.elim
    rintro e a2 w2 ⟨E2, s2, hb, R2⟩
    cases e <;> first
      | exact key E2 s2 a2 w2 hb R2
      | exact hb.elim
  · exact hx.elim

/-- **A function that defers a clearing, walked over a small heap.** -/
theorem fnXB_does (T : Tbl) {f : FuncId} {F : Func} (hF : T.P.funcs[f]? = some F) (hb : F.body.isNone = false) (hname : (F.name == "runtime.NumGoroutine") = false) {args : List EV} {h : List Blk} {Q : EV → List Blk → Prop}
    (hX : ∀ O : Org, O.E.n = O.h.length → O.E.n = h.length → fnXB T O F args h (Ends h.length Q)) : Does T f args h Q := by
  refine ⟨.inl ⟨⟨F, hF, hb, hname⟩, fun E w vs S Z ha => ?_⟩⟩
  have c := fnXB_call T hF (args := args) (h := h) (Q := Ends h.length Q) (fun E w Z S => hX _ S.n S.n) E w vs S Z ha
  refine c.mono ?_
  rintro e w' ⟨v, x, h', E', rfl, hd, S', N', V, H, κ, hq, hnd, hid, hv, hh⟩
  obtain ⟨S'', h1, h2, h3⟩ := S'.renum hnd hh
  refine ⟨v, V, H, _, rfl, ?_, S'', N'.renum S.n S' hnd (by rw [S.n]; exact hid) hh, hq⟩
  exact (denE_ren (E := ⟨H.length, fun i => E'.f (lk κ h'.length i)⟩) h1 (fun b hb => ⟨h2 b hb, rfl⟩) _ _).1 (eqvE_den _ _ _ hv hd)

end Go.Anv

/- A nil slice stands for one that has room for nothing: in what is handed in (Does.ghA), in what comes back (Does.ghR). -/
namespace Go.Anv
open Go
/-- The first nil slice becomes one of block b. -/
def gh1 (b : Nat) : List Seg → List Seg
  | [] => []
  | .one .nilslice :: r => .one (.gs b 0 0 0) :: r
  | x :: r => x :: gh1 b r
def ghE (b : Nat) : EV → EV
  | .agg cs => .agg (gh1 b cs)
  | .s .nilslice => .s (.gs b 0 0 0)
  | x => x
def ghT (b : Nat) : Nat → List EV → List EV
  | _, [] => []
  | 0, x :: r => ghE b x :: r
  | i + 1, x :: r => x :: ghT b i r
theorem gh_nil {E : Emb} {v : Value} (h : denV E .nilslice v) : denV (E.push ⟨0, 0, true⟩) (.gs E.n 0 0 0) v := by
  simp only [denV] at h ⊢
  rw [Emb.push_new]
  exact ⟨by simp [Emb.push], fun _ => ⟨trivial, trivial⟩, by simpa using h⟩
theorem gh1_den {E : Emb} (hm : E.le (E.push ⟨0, 0, true⟩)) : ∀ (cs : List Seg) (l : List Value), denS E cs l → denS (E.push ⟨0, 0, true⟩) (gh1 E.n cs) l
  | [], l, h => h
  | .one v :: r, l, h => by
    obtain ⟨x, l', rfl, h1, h2⟩ := h
    by_cases e : v = .nilslice
    · subst e
      exact ⟨x, l', rfl, gh_nil h1, denS_mono hm _ _ h2⟩
    · have : gh1 E.n (.one v :: r) = .one v :: gh1 E.n r := by
        cases v <;> first | rfl | exact absurd rfl e
      rw [this]
      exact ⟨x, l', rfl, denV_mono hm _ _ h1, gh1_den hm r l' h2⟩
  | .ints k n f :: r, l, h => by
    obtain ⟨l', rfl, h2⟩ := h
    exact ⟨l', rfl, gh1_den hm r l' h2⟩
theorem ghE_den {E : Emb} (hm : E.le (E.push ⟨0, 0, true⟩)) (e : EV) (x : Value) (h : denE E e x) : denE (E.push ⟨0, 0, true⟩) (ghE E.n e) x := by
  cases e with
  | agg cs =>
    simp only [ghE, denE] at h ⊢
    obtain ⟨l, rfl, h1⟩ := h
    exact ⟨l, rfl, gh1_den hm _ _ h1⟩
  | s v =>
    cases v with
    | nilslice =>
      simp only [ghE, denE] at h ⊢
      exact gh_nil h
    | _ => exact denE_mono hm _ _ h
  | _ => exact denE_mono hm _ _ h
theorem ghT_den {E : Emb} (hm : E.le (E.push ⟨0, 0, true⟩)) : ∀ (i : Nat) (es : List EV) (l : List Value), denT E es l → denT (E.push ⟨0, 0, true⟩) (ghT E.n i es) l
  | _, [], l, h => by
    simp only [ghT, denT] at h ⊢
    exact h
  | 0, e :: r, l, h => by
    simp only [ghT, denT] at h ⊢
    obtain ⟨v, l', rfl, h1, h2⟩ := h
    exact ⟨v, l', rfl, ghE_den hm _ _ h1, denT_mono hm _ _ h2⟩
  | i + 1, e :: r, l, h => by
    simp only [ghT, denT] at h ⊢
    obtain ⟨v, l', rfl, h1, h2⟩ := h
    exact ⟨v, l', rfl, denE_mono hm _ _ h1, ghT_den hm i _ _ h2⟩
/-- An argument's first nil slice: one that has room for nothing. -/
theorem Does.ghA {T : Tbl} {f : FuncId} {args : List EV} {h : List Blk} {Q : EV → List Blk → Prop} (k : IntKind) (g : Nat → Int) (i : Nat) (d : Does T f (ghT h.length i args) (h ++ [.cells true [.ints k 0 g] 0]) Q) : Does T f args h Q := by
  have key : ∀ {E : Emb} {w : World} {vs : List Value}, Sim E h w → denT E args vs → ∃ E', Sim E' (h ++ [.cells true [.ints k 0 g] 0]) w ∧ Since E h w E' (h ++ [.cells true [.ints k 0 g] 0]) w ∧ denT E' (ghT h.length i args) vs := fun {E w vs} S ha => by
    obtain ⟨S', N'⟩ := push_nil S (cs := [.ints k 0 g]) ⟨[], rfl, rfl⟩
    refine ⟨_, S', N', ?_⟩
    rw [← S.n]
    exact ghT_den (N'.le S.n S'.n) _ _ _ ha
  have back : ∀ {E E' : Emb} {w w' : World} {e : Ending}, E.n = h.length → E'.n = (h ++ [Blk.cells true [.ints k 0 g] 0]).length → Since E h w E' (h ++ [.cells true [.ints k 0 g] 0]) w → Post E' (h ++ [.cells true [.ints k 0 g] 0]) w Q e w' → Post E h w Q e w' := fun {E E' w w' e} n n' N p => by
    obtain ⟨v, x, h', E'', h1, h2, h3, h4, h5⟩ := p
    exact ⟨v, x, h', E'', h1, h2, h3, N.trans n n' h4, h5⟩
  refine ⟨?_⟩
  rcases d.go with ⟨h1, h2⟩ | h1
  · refine .inl ⟨h1, fun E w vs S Z ha => ?_⟩
    obtain ⟨E', S', N', ha'⟩ := key S ha
    exact (h2 E' w vs S' (Z.since N') ha').mono fun e w' p => back S.n S'.n N' p
  · refine .inr fun E w vs S ha => ?_
    obtain ⟨E', S', N', ha'⟩ := key S ha
    obtain ⟨u, w', h2, h3⟩ := h1 E' w vs S' ha'
    exact ⟨u, w', h2, back S.n S'.n N' h3⟩
/-- A result's first nil slice: one that has room for nothing. -/
theorem Does.ghR {T : Tbl} {f : FuncId} {args : List EV} {h : List Blk} {X : EV} {H : List Blk} (k : IntKind) (g : Nat → Int) (d : Does T f args h (fun v h' => v = X ∧ h' = H)) :
    Does T f args h (fun v h' => v = ghE H.length X ∧ h' = H ++ [.cells true [.ints k 0 g] 0]) := by
  have back : ∀ {E : Emb} {w w' : World} {e : Ending}, Sim E h w → Post E h w (fun v h' => v = X ∧ h' = H) e w' → Post E h w (fun v h' => v = ghE H.length X ∧ h' = H ++ [.cells true [.ints k 0 g] 0]) e w' := fun {E w w' e} S p => by
    obtain ⟨v, x, h', E'', h1, h2, h3, h4, rfl, rfl⟩ := p
    obtain ⟨S', N'⟩ := push_nil h3 (cs := [.ints k 0 g]) ⟨[], rfl, rfl⟩
    refine ⟨v, _, _, _, h1, ?_, S', h4.trans S.n h3.n N', rfl, rfl⟩
    rw [← h3.n]
    exact ghE_den (N'.le h3.n S'.n) _ _ h2
  refine ⟨?_⟩
  rcases d.go with ⟨h1, h2⟩ | h1
  · exact .inl ⟨h1, fun E w vs S Z ha => (h2 E w vs S Z ha).mono fun e w' p => back S p⟩
  · refine .inr fun E w vs S ha => ?_
    obtain ⟨u, w', h2, h3⟩ := h1 E w vs S ha
    exact ⟨u, w', h2, back S h3⟩
/-- A heap that says more. -/
theorem Does.heq {T : Tbl} {f : FuncId} {args : List EV} {h b : List Blk} {Q : EV → List Blk → Prop} (e : eqvH h b) (d : Does T f args b Q) : Does T f args h Q := by
  have back : ∀ {E : Emb} {w w' : World} {x : Ending}, Sim E h w → Post E b w Q x w' → Post E h w Q x w' := fun {E w w' x} S p => by
    obtain ⟨v, y, h', E'', h1, h2, h3, h4, h5⟩ := p
    exact ⟨v, y, h', E'', h1, h2, h3, ((Since.refl E h w).eqv e).trans S.n (S.eqv e).n h4, h5⟩
  refine ⟨?_⟩
  rcases d.go with ⟨h1, h2⟩ | h1
  · exact .inl ⟨h1, fun E w vs S Z ha => (h2 E w vs (S.eqv e) (Z.since ((Since.refl E h w).eqv e)) ha).mono fun x w' p => back S p⟩
  · refine .inr fun E w vs S ha => ?_
    obtain ⟨u, w', h2, h3⟩ := h1 E w vs (S.eqv e) ha
    exact ⟨u, w', h2, back S h3⟩
end Go.Anv

/- A call's answer that says less. Plain theorem. -/
namespace Go.Anv
open Go
/-- An answer that says less, over a heap that says less. -/
theorem Does.res {T : Tbl} {f : FuncId} {args : List EV} {h : List Blk} {Q Q' : EV → List Blk → Prop} (d : Does T f args h Q) (e : ∀ v h', Q v h' → ∃ v2 h2, eqvE v v2 ∧ eqvH h' h2 ∧ Q' v2 h2) : Does T f args h Q' := by
  have key : ∀ {E : Emb} {w w' : World} {x : Ending}, Post E h w Q x w' → Post E h w Q' x w' := fun {E w w' x} p => by
    obtain ⟨v, y, h', E'', h1, h2, h3, h4, h5⟩ := p
    obtain ⟨v2, k2, e1, e2, e3⟩ := e _ _ h5
    exact ⟨v, v2, k2, E'', h1, eqvE_den _ _ _ e1 h2, h3.eqv e2, h4.eqv e2, e3⟩
  refine ⟨?_⟩
  rcases d.go with ⟨h1, h2⟩ | h1
  · exact .inl ⟨h1, fun E w vs S Z ha => (h2 E w vs S Z ha).mono fun x w' p => key p⟩
  · refine .inr fun E w vs S ha => ?_
    obtain ⟨u, w', h2, h3⟩ := h1 E w vs S ha
    exact ⟨u, w', h2, key h3⟩
end Go.Anv

/- A contract's heap told in other numbers: a block that moved. Plain theorems. -/
namespace Go.Anv
open Go
/-- The numbers of the blocks that live. -/
def liveK : List Nat → List Blk → List Nat
  | _ :: κ, .dead :: r => liveK κ r
  | k :: κ, .cells .. :: r => k :: liveK κ r
  | k :: κ, .recs .. :: r => k :: liveK κ r
  | k :: κ, .map .. :: r => k :: liveK κ r
  | _, _ => []
def onceB : List Nat → Bool
  | [] => true
  | x :: r => !(r.contains x) && onceB r
theorem liveK_mem : ∀ {κ : List Nat} {H : List Blk} {i : Nat} {k : Nat} {A : Blk}, κ[i]? = some k → H[i]? = some A → A ≠ .dead → k ∈ liveK κ H
  | [], _, i, k, A, h, _, _ => by simp at h
  | _ :: _, [], i, k, A, _, h, _ => by simp at h
  | x :: κ, B :: r, 0, k, A, h1, h2, h3 => by
    simp only [List.getElem?_cons_zero, Option.some.injEq] at h1 h2
    subst h1; subst h2
    cases B <;> first | exact absurd rfl h3 | exact List.mem_cons_self ..
  | x :: κ, B :: r, i + 1, k, A, h1, h2, h3 => by
    have := liveK_mem (κ := κ) (H := r) (i := i) (by simpa using h1) (by simpa using h2) h3
    cases B <;> first | exact this | exact List.mem_cons_of_mem _ this
theorem live_ne : ∀ {κ : List Nat} {H : List Blk} {i j : Nat} {k : Nat} {A B : Blk}, onceB (liveK κ H) = true → i < j → κ[i]? = some k → κ[j]? = some k → H[i]? = some A → H[j]? = some B → A = .dead ∨ B = .dead
  | [], _, i, j, k, A, B, _, _, h, _, _, _ => by simp at h
  | _ :: _, [], i, j, k, A, B, _, _, _, _, h, _ => by simp at h
  | x :: κ, C :: r, 0, 0, k, A, B, _, hij, _, _, _, _ => by omega
  | x :: κ, C :: r, 0, j + 1, k, A, B, ho, hij, h1, h2, h3, h4 => by
    simp only [List.getElem?_cons_zero, Option.some.injEq] at h1 h3
    subst h1; subst h3
    by_cases hB : B = .dead
    · exact .inr hB
    have hm := liveK_mem (κ := κ) (H := r) (i := j) (by simpa using h2) (by simpa using h4) hB
    cases C with
    | dead => exact .inl rfl
    | cells _ _ _ =>
      simp only [liveK, onceB, Bool.and_eq_true, Bool.not_eq_true', List.contains_eq_mem, decide_eq_false_iff_not] at ho
      exact absurd hm ho.1
    | recs _ _ _ _ _ =>
      simp only [liveK, onceB, Bool.and_eq_true, Bool.not_eq_true', List.contains_eq_mem, decide_eq_false_iff_not] at ho
      exact absurd hm ho.1
    | map _ =>
      simp only [liveK, onceB, Bool.and_eq_true, Bool.not_eq_true', List.contains_eq_mem, decide_eq_false_iff_not] at ho
      exact absurd hm ho.1
  | x :: κ, C :: r, i + 1, 0, k, A, B, _, hij, _, _, _, _ => by omega
  | x :: κ, C :: r, i + 1, j + 1, k, A, B, ho, hij, h1, h2, h3, h4 => by
    refine live_ne (κ := κ) (H := r) (i := i) (j := j) ?_ (by omega) (by simpa using h1) (by simpa using h2) (by simpa using h3) (by simpa using h4)
    cases C <;> first | exact ho | (simp only [liveK, onceB, Bool.and_eq_true] at ho; exact ho.2)
/-- As subQ, but of a dead block nothing is told. -/
def subD (h : List Blk) : List Nat → List Blk → Prop
  | [], [] => True
  | k :: κ, .dead :: r => (nthB h k).isSome = true ∧ subD h κ r
  | k :: κ, B :: r => (∃ A, nthB h k = some A ∧ eqvB A B) ∧ subD h κ r
  | _, _ => False
theorem subD_cons {h : List Blk} {k : Nat} {κ : List Nat} {B : Blk} {r : List Blk} (hk : subD h (k :: κ) (B :: r)) : (∃ A, nthB h k = some A ∧ (B = .dead ∨ eqvB A B)) ∧ subD h κ r := by
  cases B with
  | dead =>
    simp only [subD] at hk
    obtain ⟨A, hA⟩ := Option.isSome_iff_exists.1 hk.1
    exact ⟨⟨A, hA, .inl rfl⟩, hk.2⟩
  | cells _ _ _ => simp only [subD] at hk; obtain ⟨⟨A, h1, h2⟩, h3⟩ := hk; exact ⟨⟨A, h1, .inr h2⟩, h3⟩
  | recs _ _ _ _ _ => simp only [subD] at hk; obtain ⟨⟨A, h1, h2⟩, h3⟩ := hk; exact ⟨⟨A, h1, .inr h2⟩, h3⟩
  | map _ => simp only [subD] at hk; obtain ⟨⟨A, h1, h2⟩, h3⟩ := hk; exact ⟨⟨A, h1, .inr h2⟩, h3⟩
theorem subD_get {h : List Blk} : ∀ {κ : List Nat} {r : List Blk}, subD h κ r → κ.length = r.length ∧ ∀ (i : Nat) (B : Blk), r[i]? = some B → ∃ k A, κ[i]? = some k ∧ h[k]? = some A ∧ (B = .dead ∨ eqvB A B)
  | [], [], _ => ⟨rfl, fun i B hi => by simp at hi⟩
  | k :: κ, B :: r, hk => by
    obtain ⟨⟨A, hA, hB⟩, h0⟩ := subD_cons hk
    obtain ⟨h1, h2⟩ := subD_get h0
    refine ⟨by simp [h1], fun i C hi => ?_⟩
    cases i with
    | zero =>
      simp only [List.getElem?_cons_zero, Option.some.injEq] at hi
      subst hi
      exact ⟨k, A, rfl, nthB_get hA, hB⟩
    | succ i => exact h2 i C (by simpa using hi)
  | [], _ :: _, hk => by simp [subD] at hk
  | _ :: _, [], hk => by simp [subD] at hk
theorem dead_ren {ρ : Nat → Nat} {B : Blk} (h : renB ρ B = .dead) : B = .dead := by cases B <;> first | rfl | (simp [renB] at h)
theorem Sim.tell {E : Emb} {h H : List Blk} {w : World} (S : Sim E h w) {κ : List Nat} (hnd : onceB (liveK κ H) = true) (hh : subD h κ (renH (lk κ h.length) H)) :
    Sim ⟨H.length, fun i => E.f (lk κ h.length i)⟩ H w ∧ (∀ b, lk κ h.length b < E.n → b < H.length) ∧ (∀ b, b < H.length → lk κ h.length b < E.n) ∧
      (∀ b o, mutAt ⟨H.length, fun i => E.f (lk κ h.length i)⟩ H b o → mutAt E h b o) := by
  obtain ⟨hl, hget⟩ := subD_get hh
  rw [length_renH] at hl
  have hblk : ∀ (i : Nat) (B : Blk), H[i]? = some B → ∃ A, h[lk κ h.length i]? = some A ∧ (B = .dead ∨ eqvB A (renB (lk κ h.length) B)) := fun i B hi => by
    obtain ⟨k, A, h1, h2, h3⟩ := hget i (renB (lk κ h.length) B) (by rw [renH_get, hi]; rfl)
    have hi' : i < κ.length := by have := lt_of_get hi; omega
    have h4 : lk κ h.length i = k := by
      rw [look_lt κ _ i hi']
      rw [List.getElem?_eq_getElem hi'] at h1
      exact Option.some.inj h1
    refine ⟨A, by rw [h4]; exact h2, ?_⟩
    rcases h3 with h3 | h3
    · exact .inl (dead_ren h3)
    · exact .inr h3
  have hκ : ∀ i, i < H.length → lk κ h.length i < h.length := fun i hi => by
    obtain ⟨A, h1, _⟩ := hblk i _ (List.getElem?_eq_getElem hi)
    exact lt_of_get h1
  have hinj : ∀ i j A B, H[i]? = some A → H[j]? = some B → lk κ h.length i = lk κ h.length j → i ≠ j → A = .dead ∨ B = .dead := fun i j A B hi hj hij hne => by
    have h1 : i < κ.length := by have := lt_of_get hi; omega
    have h2 : j < κ.length := by have := lt_of_get hj; omega
    rw [look_lt κ _ i h1, look_lt κ _ j h2] at hij
    rcases Nat.lt_or_ge i j with h3 | h3
    · exact live_ne hnd h3 (List.getElem?_eq_getElem h1) (by rw [List.getElem?_eq_getElem h2, hij]) hi hj
    · exact (live_ne hnd (show j < i by omega) (List.getElem?_eq_getElem h2) (by rw [List.getElem?_eq_getElem h1, hij]) hj hi).symm
  have hfwd : ∀ b, lk κ h.length b < E.n → b < H.length := fun b hb => by
    rcases Nat.lt_or_ge b κ.length with h1 | h1
    · omega
    · rw [look_ge κ _ b h1, S.n] at hb
      omega
  have hbwd : ∀ b, b < H.length → lk κ h.length b < E.n ∧ E.f (lk κ h.length b) = E.f (lk κ h.length b) := fun b hb => ⟨by rw [S.n]; exact hκ b hb, rfl⟩
  refine ⟨⟨rfl, fun i B hi => ?_, fun i j A B hij hi hj hA b o hcv hcv' => ?_⟩, hfwd, fun b hb => (hbwd b hb).1, fun b o hm => ?_⟩
  · obtain ⟨A, h1, h2⟩ := hblk i B hi
    rcases h2 with rfl | h2
    · trivial
    · exact (okBlk_ren (E := ⟨H.length, fun i => E.f (lk κ h.length i)⟩) hfwd hbwd B).1 (eqvB_ok h2 (S.ok _ _ h1))
  · obtain ⟨A', h1, h2⟩ := hblk i A hi
    obtain ⟨B', h3, h4⟩ := hblk j B hj
    rcases h2 with rfl | h2
    · exact hcv.elim
    rcases h4 with rfl | h4
    · exact hcv'.elim
    refine S.dis (lk κ h.length i) (lk κ h.length j) A' B' (fun e => ?_) h1 h3 ?_ b o ?_ ?_
    · rcases hinj i j A B hi hj e hij with rfl | rfl
      · exact hcv.elim
      · exact hcv'.elim
    · rw [(eqvB_cov (p := E.f (lk κ h.length i)) h2 b o).2, mut_ren]; exact hA
    · exact (eqvB_cov h2 b o).1.2 ((cov_ren _ A b o).2 hcv)
    · exact (eqvB_cov h4 b o).1.2 ((cov_ren _ B b o).2 hcv')
  · obtain ⟨i, B, hi, hB, hcv⟩ := hm
    obtain ⟨A', h1, h2⟩ := hblk i B hi
    rcases h2 with rfl | h2
    · cases hB
    exact ⟨_, A', h1, by rw [(eqvB_cov (p := E.f (lk κ h.length i)) h2 b o).2, mut_ren]; exact hB, (eqvB_cov h2 b o).1.2 ((cov_ren _ B b o).2 hcv)⟩
theorem Since.tell {E0 E : Emb} {h0 h H : List Blk} {w0 w : World} (n0 : E0.n = h0.length) (S : Sim E h w) (N : Since E0 h0 w0 E h w) {κ : List Nat} (hnd : onceB (liveK κ H) = true) (hid : idK 0 E0.n κ) (hh : subD h κ (renH (lk κ h.length) H)) :
    Since E0 h0 w0 ⟨H.length, fun i => E.f (lk κ h.length i)⟩ H w := by
  obtain ⟨S', h1, h2, h3⟩ := S.tell hnd hh
  have hκ : ∀ i, i < E0.n → lk κ h.length i = i := fun i hi => by
    have h4 := idK_get hid i hi
    have h5 : i < κ.length := by
      rcases Nat.lt_or_ge i κ.length with h' | h'
      · exact h'
      · rw [List.getElem?_eq_none h'] at h4; cases h4
    rw [look_lt κ _ i h5]
    rw [List.getElem?_eq_getElem h5] at h4
    simpa using h4
  refine ⟨?_, fun i hi => ?_, N.size, N.frame, N.cells, fun b o hm hb => N.new b o (h3 b o hm) hb, N.os, N.tape, N.output, N.rows⟩
  · rw [← n0]
    rcases Nat.eq_zero_or_pos E0.n with h4 | h4
    · rw [h4]; exact Nat.zero_le _
    · have := h1 (E0.n - 1) (by
        rw [hκ _ (by omega)]
        have := N.len
        rw [S.n]
        omega)
      omega
  · show E.f (lk κ h.length i) = E0.f i
    rw [hκ i hi]
    exact N.same i hi
/-- A contract's answer and heap told in other numbers: a block may stand under a new number, the old one dead. -/
theorem Does.tell {T : Tbl} {f : FuncId} {args : List EV} {h : List Blk} {Q Q' : EV → List Blk → Prop} (d : Does T f args h Q)
    (e : ∀ v h', Q v h' → ∃ V H κ, Q' V H ∧ onceB (liveK κ H) = true ∧ idK 0 h.length κ ∧ eqvE v (renE (lk κ h'.length) V) ∧ subD h' κ (renH (lk κ h'.length) H)) : Does T f args h Q' := by
  have key : ∀ {E : Emb} {w w' : World} {x : Ending}, E.n = h.length → Post E h w Q x w' → Post E h w Q' x w' := fun {E w w' x} n0 p => by
    obtain ⟨v, y, h', E', rfl, hd, S', N', hq⟩ := p
    obtain ⟨V, H, κ, hq', hnd, hid, hv, hh⟩ := e _ _ hq
    obtain ⟨S'', h1, h2, h3⟩ := S'.tell hnd hh
    refine ⟨v, V, H, _, rfl, ?_, S'', Since.tell n0 S' N' hnd (by rw [n0]; exact hid) hh, hq'⟩
    exact (denE_ren (E := ⟨H.length, fun i => E'.f (lk κ h'.length i)⟩) h1 (fun b hb => ⟨h2 b hb, rfl⟩) _ _).1 (eqvE_den _ _ _ hv hd)
  refine ⟨?_⟩
  rcases d.go with ⟨h1, h2⟩ | h1
  · exact .inl ⟨h1, fun E w vs S Z ha => (h2 E w vs S Z ha).mono fun x w' p => key S.n p⟩
  · refine .inr fun E w vs S ha => ?_
    obtain ⟨u, w', h2, h3⟩ := h1 E w vs S ha
    exact ⟨u, w', h2, key S.n h3⟩
end Go.Anv

/- A nil slice that lies in a block: one that has room for nothing. Plain theorems. -/
namespace Go.Anv
open Go
theorem gh1_size (b : Nat) : ∀ cs : List Seg, sizeS (gh1 b cs) = sizeS cs
  | [] => rfl
  | .one v :: r => by
    by_cases e : v = .nilslice
    · subst e; rfl
    · have : gh1 b (.one v :: r) = .one v :: gh1 b r := by cases v <;> first | rfl | exact absurd rfl e
      rw [this]
      simp only [sizeS, gh1_size b r]
  | .ints k n f :: r => by simp only [gh1, sizeS, gh1_size b r]
/-- A block that says the same of the same cells. -/
theorem Sim.put {E : Emb} {h : List Blk} {w : World} (S : Sim E h w) {i : Nat} {A B : Blk} (hi : h[i]? = some A) (ho : okBlk E w (E.f i) B) (hm : B.mut = A.mut) (hc : ∀ b o, cov (E.f i) B b o ↔ cov (E.f i) A b o) : Sim E (h.set i B) w := by
  have get : ∀ j C, (h.set i B)[j]? = some C → (j = i ∧ C = B) ∨ (j ≠ i ∧ h[j]? = some C) := fun j C hj => by
    rw [List.getElem?_set] at hj
    split at hj
    · rename_i e
      subst e
      split at hj
      · exact .inl ⟨rfl, (Option.some.inj hj).symm⟩
      · cases hj
    · rename_i e
      exact .inr ⟨fun h => e h.symm, hj⟩
  refine ⟨by rw [List.length_set]; exact S.n, fun j C hj => ?_, fun j k C D hjk hj hk hM b o h1 h2 => ?_⟩
  · rcases get j C hj with ⟨rfl, rfl⟩ | ⟨_, h'⟩
    · exact ho
    · exact S.ok _ _ h'
  · rcases get j C hj with ⟨rfl, rfl⟩ | ⟨_, h3⟩ <;> rcases get k D hk with ⟨rfl, rfl⟩ | ⟨_, h4⟩
    · exact hjk rfl
    · exact S.dis _ _ A D hjk hi h4 (by rw [← hm]; exact hM) b o ((hc b o).1 h1) h2
    · exact S.dis _ _ C A hjk h3 hi hM b o h1 ((hc b o).1 h2)
    · exact S.dis _ _ C D hjk h3 h4 hM b o h1 h2
theorem Since.put {E0 E : Emb} {h0 h : List Blk} {w0 w : World} (N : Since E0 h0 w0 E h w) {i : Nat} {A B : Blk} (hi : h[i]? = some A) (hm : B.mut = A.mut) (hc : ∀ b o, cov (E.f i) B b o ↔ cov (E.f i) A b o) : Since E0 h0 w0 E (h.set i B) w := by
  refine ⟨by rw [List.length_set]; exact N.len, N.same, N.size, N.frame, N.cells, fun b o hM hb => N.new b o ?_ hb, N.os, N.tape, N.output, N.rows⟩
  obtain ⟨j, C, hj, h1, h2⟩ := hM
  rw [List.getElem?_set] at hj
  split at hj
  · rename_i e
    subst e
    split at hj
    · cases hj
      exact ⟨_, A, hi, by rw [← hm]; exact h1, (hc b o).1 h2⟩
    · cases hj
  · exact ⟨j, C, hj, h1, h2⟩
/-- The first nil slice in a block of the heap behind a call. -/
theorem Does.ghH {T : Tbl} {f : FuncId} {args : List EV} {h : List Blk} {X : EV} {H : List Blk} (k : IntKind) (g : Nat → Int) (i : Nat) {m : Bool} {cs : List Seg} {sp : Nat} (hi : H[i]? = some (.cells m cs sp)) (d : Does T f args h (fun v h' => v = X ∧ h' = H)) :
    Does T f args h (fun v h' => v = X ∧ h' = H.set i (.cells m (gh1 H.length cs) sp) ++ [.cells true [.ints k 0 g] 0]) := by
  have back : ∀ {E : Emb} {w w' : World} {e : Ending}, Sim E h w → Post E h w (fun v h' => v = X ∧ h' = H) e w' → Post E h w (fun v h' => v = X ∧ h' = H.set i (.cells m (gh1 H.length cs) sp) ++ [.cells true [.ints k 0 g] 0]) e w' := fun {E w w' e} S p => by
    obtain ⟨v, x, h', E'', h1, h2, h3, h4, rfl, rfl⟩ := p
    obtain ⟨S', N'⟩ := push_nil h3 (cs := [.ints k 0 g]) ⟨[], rfl, rfl⟩
    have hle := N'.le h3.n S'.n
    have hlt : i < h'.length := by
      rcases Nat.lt_or_ge i h'.length with h | h
      · exact h
      · rw [List.getElem?_eq_none h] at hi; cases hi
    have hi' : (h' ++ [Blk.cells true [.ints k 0 g] 0])[i]? = some (.cells m cs sp) := by rw [List.getElem?_append_left hlt]; exact hi
    have hset : (h' ++ [Blk.cells true [.ints k 0 g] 0]).set i (.cells m (gh1 h'.length cs) sp) = h'.set i (.cells m (gh1 h'.length cs) sp) ++ [.cells true [.ints k 0 g] 0] := List.set_append_left _ _ hlt
    have hc : ∀ b o, cov ((E''.push ⟨0, 0, true⟩).f i) (.cells m (gh1 h'.length cs) sp) b o ↔ cov ((E''.push ⟨0, 0, true⟩).f i) (.cells m cs sp) b o := fun b o => by
      simp only [cov, gh1_size]
    have hok : okBlk (E''.push ⟨0, 0, true⟩) w' ((E''.push ⟨0, 0, true⟩).f i) (.cells m (gh1 h'.length cs) sp) := by
      have h0 := h3.ok i _ hi
      have e0 : (E''.push ⟨0, 0, true⟩).f i = E''.f i := hle.2 i (by rw [h3.n]; exact hlt)
      rw [e0, ← h3.n]
      obtain ⟨a, ⟨l, hd, hg⟩, c⟩ := h0
      exact ⟨by rw [gh1_size]; exact a, ⟨l, gh1_den hle cs l hd, hg⟩, by rw [gh1_size]; exact c⟩
    refine ⟨v, _, _, _, h1, denE_mono hle _ _ h2, hset ▸ S'.put hi' hok rfl hc, hset ▸ (h4.trans S.n h3.n N').put hi' rfl hc, rfl, rfl⟩
  refine ⟨?_⟩
  rcases d.go with ⟨h1, h2⟩ | h1
  · exact .inl ⟨h1, fun E w vs S Z ha => (h2 E w vs S Z ha).mono fun e w' p => back S p⟩
  · refine .inr fun E w vs S ha => ?_
    obtain ⟨u, w', h2, h3⟩ := h1 E w vs S ha
    exact ⟨u, w', h2, back S h3⟩
end Go.Anv
