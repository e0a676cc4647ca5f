/- Part 5 of the texts of this claim, merged: E9b, E10, E11, E12, E13, B1, B2, B3. No condition: plain theorems, contracts of functions. -/
import Derived.Test.YtghcdkpgcanpgaaZ4
import Derived.Defers
import Derived.Laws.Externs
import Derived.KernelRfl

set_option linter.unusedSimpArgs false
set_option linter.unusedVariables false
/- The engine, part 9b: stores that no order can tell apart. Plain theorems; their condition: the stores' places are apart. -/
namespace Go.Anv
open Go

theorem modify_comm {α : Type} (h : Array α) (i j : Nat) (f g : α → α) (hc : i ≠ j ∨ ∀ x, f (g x) = g (f x)) : (h.modify i f).modify j g = (h.modify j g).modify i f := by
  apply Array.ext_getElem?
  intro k
  simp only [Array.getElem?_modify]
  by_cases hi : i = k <;> by_cases hj : j = k <;> simp only [hi, hj, if_true, if_false]
  rcases hc with hc | hc
  · exact absurd (hi.trans hj.symm) hc
  · cases h[k]? with
    | none => rfl
    | some x => simp [hc]

theorem setCell_comm (w : World) (x y : Addr) (u v : Value) (h : x.block ≠ y.block ∨ x.off ≠ y.off) : (w.setCell x u).setCell y v = (w.setCell y v).setCell x u := by
  unfold World.setCell
  simp only
  rw [modify_comm]
  rcases h with h | h
  · exact .inl h
  · refine .inr fun o => ?_
    cases o with
    | cells c e fr =>
      simp only
      by_cases hx : x.spot.isSome = true <;> by_cases hy : y.spot.isSome = true <;> simp only [hx, hy, if_true, if_false, Bool.false_eq_true]
      congr 1
      apply Array.ext_getElem?
      intro k
      simp only [Array.getElem?_setIfInBounds, Array.size_setIfInBounds]
      by_cases h1 : x.off = k <;> by_cases h2 : y.off = k <;> simp only [h1, h2, if_true, if_false]
      exact absurd (h1.trans h2.symm) h
    | _ => rfl

theorem setCell_setCells (b : Nat) : ∀ (vs : List Value) (o : Nat) (w : World) (x : Addr) (u : Value), (x.block ≠ b ∨ x.off < o ∨ o + vs.length ≤ x.off) → (w.setCell x u).setCells b o vs = (w.setCells b o vs).setCell x u
  | [], _, _, _, _, _ => rfl
  | v :: r, o, w, x, u, h => by
    simp only [World.setCells]
    rw [setCell_comm w x ⟨b, o, none⟩ u v (by simp only [List.length_cons] at h; simp only; omega)]
    exact setCell_setCells b r (o + 1) _ x u (by simp only [List.length_cons] at h; omega)

/-- A store: where, what. -/
structure Sto where
  B : Nat
  O : Nat
  vs : List Value

def Sto.on (x : Sto) (w : World) : World := w.setCells x.B x.O x.vs

def Sto.off (x y : Sto) : Prop := x.B ≠ y.B ∨ x.O + x.vs.length ≤ y.O ∨ y.O + y.vs.length ≤ x.O

theorem setCells_comm (b' : Nat) (vs' : List Value) (o' : Nat) (b : Nat) : ∀ (vs : List Value) (o : Nat) (w : World), (b ≠ b' ∨ o + vs.length ≤ o' ∨ o' + vs'.length ≤ o) →
    (w.setCells b o vs).setCells b' o' vs' = (w.setCells b' o' vs').setCells b o vs
  | [], _, _, _ => rfl
  | v :: r, o, w, h => by
    simp only [World.setCells]
    rw [setCells_comm b' vs' o' b r (o + 1) _ (by simp only [List.length_cons] at h; omega), setCell_setCells]
    simp only [List.length_cons] at h
    simp only
    by_cases hv : vs'.length = 0
    · right; omega
    · omega

theorem Sto.comm {x y : Sto} (h : x.off y) (w : World) : y.on (x.on w) = x.on (y.on w) := setCells_comm _ _ _ _ _ _ _ h

theorem Sto.off_symm {x y : Sto} (h : x.off y) : y.off x := by
  unfold Sto.off at *
  omega

def Sto.can (x : Sto) (w : World) : Prop := ∀ j, j < x.vs.length → (∃ v, w.cell? ⟨x.B, x.O + j, none⟩ = some v) ∧ w.frozen? ⟨x.B, x.O + j, none⟩ = false

theorem Sto.can_on {x y : Sto} (h : x.off y) {w : World} (hc : x.can w) : x.can (y.on w) := by
  intro j hj
  obtain ⟨h1, h2⟩ := hc j hj
  unfold Sto.on
  refine ⟨?_, by rw [World.frozen?_setCells]; exact h2⟩
  rw [cell?_setCells_out]
  · exact h1
  · simp only
    unfold Sto.off at h
    omega

def allOn (sp : Nat → Sto) : List Nat → World → World
  | [], w => w
  | i :: r, w => allOn sp r ((sp i).on w)

theorem allOn_first (sp : Nat → Sto) : ∀ (l : List Nat) (i : Nat) (w : World), i ∈ l → l.Nodup → (∀ a ∈ l, ∀ b ∈ l, a ≠ b → (sp a).off (sp b)) → allOn sp (l.filter (· != i)) ((sp i).on w) = allOn sp l w
  | [], i, w, h, _, _ => by cases h
  | x :: r, i, w, h, hn, hap => by
    rw [List.nodup_cons] at hn
    by_cases hx : x = i
    · subst hx
      have : (x :: r).filter (· != x) = r := by
        rw [List.filter_cons]
        simp only [bne_self_eq_false, Bool.false_eq_true, if_false]
        rw [List.filter_eq_self]
        intro a ha
        simp only [bne_iff_ne, ne_eq]
        rintro rfl
        exact hn.1 ha
      rw [this]
      rfl
    · have hi : i ∈ r := by
        rcases List.mem_cons.1 h with h | h
        · exact absurd h.symm hx
        · exact h
      have : (x :: r).filter (· != i) = x :: r.filter (· != i) := by
        rw [List.filter_cons]
        simp [hx]
      rw [this]
      simp only [allOn]
      rw [Sto.comm (hap i h x List.mem_cons_self (fun e => hx e.symm))]
      exact allOn_first sp r i _ hi hn.2 fun a ha b hb => hap a (List.mem_cons_of_mem _ ha) b (List.mem_cons_of_mem _ hb)

/-- The operations that have not come up. -/
def unl (ops : Array Oper) (l : Array Bool) : List Nat := (List.range ops.size).filter fun j => !l.getD j true

/-- **Stores at places that are apart, in whatever order.** -/
theorem stores_any {P : Program} {ops : Array Oper} {Q : Exit → Act → World → Prop} {S : World → Prop} (sp : Nat → Sto) (a : Act) :
    ∀ (n : Nat) (l : Array Bool) (w : World), l.size = ops.size → (unl ops l).length ≤ n → S w →
    (∀ i ∈ unl ops l, ∃ o, ops[i]? = some o ∧ Region.wanted o (yielded ops a.tmps) = true ∧ o.dst = none ∧ (∀ e ∈ o.after, Region.binds .any e = true → l.getD e.on false = true) ∧
      ∀ w', (sp i).can w' → (execOp a.eval o).run P w' = .ok .skip ((sp i).on w')) →
    (∀ i ∈ unl ops l, ∀ j ∈ unl ops l, i ≠ j → (sp i).off (sp j)) → (∀ i ∈ unl ops l, (sp i).can w) → (∀ i ∈ unl ops l, ∀ w', S w' → S ((sp i).on w')) →
    Q .normal a (allOn sp (unl ops l) w) → wpAnyH P .any ops Q S n l a w := by
  intro n
  induction n with
  | zero =>
    intro l w hsz hlen hS hop hap hcan hst hq
    have hnil : unl ops l = [] := List.length_eq_zero_iff.1 (by omega)
    refine ⟨?_, ?_⟩
    · unfold Region.ready
      rw [List.filter_eq_nil_iff]
      intro j hj
      have := List.filter_eq_nil_iff.1 hnil j hj
      simp only [Bool.not_eq_true, Bool.not_eq_false'] at this
      simp [this]
    · rw [hnil] at hq; exact hq
  | succ n ih =>
    intro l w hsz hlen hS hop hap hcan hst hq
    have hrdy : Region.ready .any ops l = unl ops l := by
      unfold Region.ready unl
      apply List.filter_congr
      intro j hj
      cases hlj : l.getD j true with
      | true => simp
      | false =>
        have hm : j ∈ unl ops l := List.mem_filter.2 ⟨hj, by simp [hlj]⟩
        obtain ⟨o, ho, _, _, haf, _⟩ := hop j hm
        simp only [ho, Bool.not_false, Bool.true_and, Option.map_some, Option.getD_some]
        rw [Array.all_eq_true_iff_forall_mem]
        intro e he
        cases hb : Region.binds .any e with
        | false => rfl
        | true => simp [haf e he hb]
    rw [wpAnyH.eq_2]
    rw [hrdy]
    refine ⟨fun h => by rw [h] at hq; exact hq, fun i hi => ?_⟩
    obtain ⟨o, ho, hw, hd, haf, hrun⟩ := hop i hi
    unfold wpOp
    simp only [ho, hw, if_true]
    refine .inl ?_
    unfold Oper.wp
    rw [hrun w (hcan i hi), Oper.upon_skip, hd]
    refine ⟨hst i hi w hS, ?_⟩
    have hil : i < l.size := by
      have := (List.mem_filter.1 hi).1
      rw [hsz]
      exact List.mem_range.1 this
    have hunl : unl ops (l.setIfInBounds i true) = (unl ops l).filter (· != i) := by
      unfold unl
      rw [List.filter_filter]
      apply List.filter_congr
      intro j _
      by_cases hji : j = i
      · subst hji
        simp [hil]
      · have : (l.setIfInBounds i true).getD j true = l.getD j true := by
          simp only [Array.getD_eq_getD_getElem?]
          rw [Array.getElem?_setIfInBounds_ne (fun e => hji e.symm)]
        rw [this]
        simp [hji]
    have hmem : ∀ j, j ∈ unl ops (l.setIfInBounds i true) → j ∈ unl ops l ∧ j ≠ i := fun j hj => by
      rw [hunl] at hj
      obtain ⟨h1, h2⟩ := List.mem_filter.1 hj
      exact ⟨h1, by simpa using h2⟩
    refine ih (l.setIfInBounds i true) _ (by simp [hsz]) ?_ (hst i hi w hS) (fun j hj => ?_) (fun j hj k hk hjk => hap j (hmem j hj).1 k (hmem k hk).1 hjk) (fun j hj => ?_) (fun j hj => hst j (hmem j hj).1) ?_
    · rw [hunl]
      have : ((unl ops l).filter (· != i)).length < (unl ops l).length := by
        refine List.length_filter_lt_length_iff_exists.2 ⟨i, hi, by simp⟩
      omega
    · obtain ⟨o', h1, h2, h3, h4, h5⟩ := hop j (hmem j hj).1
      refine ⟨o', h1, h2, h3, fun e he hb => ?_, h5⟩
      have := h4 e he hb
      by_cases hei : e.on = i
      · rw [hei, Array.getD_eq_getD_getElem?, Array.getElem?_setIfInBounds_self_of_lt hil]
        rfl
      · rw [Array.getD_eq_getD_getElem?] at this ⊢
        rw [Array.getElem?_setIfInBounds_ne (fun e => hei e.symm)]
        exact this
    · exact Sto.can_on (hap j (hmem j hj).1 i hi (hmem j hj).2) (hcan j (hmem j hj).1)
    · rw [hunl, allOn_first sp _ i w hi (List.Pairwise.filter _ List.nodup_range) hap]
      exact hq

/-- Stores where no block of a small world lies. -/
theorem Sim.outside {E : Emb} {h : List Blk} {w : World} (S : Sim E h w) (x : Sto) (hx : ∀ j B, h[j]? = some B → ∀ o, x.O ≤ o → o < x.O + x.vs.length → ¬ cov (E.f j) B x.B o) : Sim E h (x.on w) := by
  unfold Sto.on
  have hcov : ∀ j B b o, h[j]? = some B → cov (E.f j) B b o → (w.setCells x.B x.O x.vs).cell? ⟨b, o, none⟩ = w.cell? ⟨b, o, none⟩ := fun j B b o hj hc => by
    apply cell?_setCells_out
    simp only
    by_cases hb : b = x.B
    · subst hb
      have : ¬ (x.O ≤ o ∧ o < x.O + x.vs.length) := fun hh => hx j B hj o hh.1 hh.2 hc
      omega
    · exact .inl hb
  refine ⟨S.n, fun j B hj => ?_, S.dis⟩
  have hb := S.ok j B hj
  have cel : ∀ (m : Bool) (cs : List Seg) (sp : Nat), okCells E w (E.f j) m cs sp → (∀ b o, b = (E.f j).1 ∧ (E.f j).2 ≤ o ∧ o < (E.f j).2 + (sizeS cs + sp) → cov (E.f j) B b o) → okCells E (w.setCells x.B x.O x.vs) (E.f j) m cs sp := by
    rintro m cs sp ⟨h1, ⟨l, h2, h3⟩, h4⟩ hcv
    refine ⟨by rw [size_setCells]; exact h1, ⟨l, h2, fun y v hy => ?_⟩, fun hm y hy => ?_⟩
    · rw [hcov j _ _ _ hj]
      · exact h3 y v hy
      · have := denS_length h2
        have : y < l.length := by
          rcases Nat.lt_or_ge y l.length with h' | h'
          · exact h'
          · rw [List.getElem?_eq_none h'] at hy; cases hy
        exact hcv _ _ ⟨rfl, by omega, by omega⟩
    · rw [hcov j _ _ _ hj (hcv _ _ ⟨rfl, by omega, by omega⟩)]
      exact ⟨(h4 hm y hy).1, rowOk_setCells (h4 hm y hy).2⟩
  cases B with
  | cells m cs sp => exact cel m cs sp hb fun _ _ h => h
  | recs m n z f sp => exact ⟨hb.1, cel m _ sp hb.2 fun _ _ h => h⟩
  | map es =>
    obtain ⟨l, c, h1, h2⟩ := hb
    exact ⟨l, c, map_setCells _ _ _ _ _ _ _ h1, h2⟩
  | dead => trivial

/-! ### the walker's part -/

/-- A store's place: the block, the offset, how many cells. -/
def stoK (T : Tbl) (ts : List EV) (h : List Blk) (o : Oper) : Option (Nat × Nat × Nat) :=
  match o.guard, o.dst, o.op with
  | none, none, .store t x v => match T.ty t, evT ts x, segsOf (evT ts v) with
    | some i, .s (.ptr b off), some new => match Nat.beq (sizeS new) i.size && Nat.ble 1 i.size, nthB h b with
      | true, some (.cells true cs _) => match Nat.ble (off + i.size) (sizeS cs) with
        | true => some (b, off, i.size)
        | false => none
      | _, _ => none
    | _, _, _ => none
  | _, _, _ => none

def offB (x y : Nat × Nat × Nat) : Bool := !(Nat.beq x.1 y.1) || (Nat.ble (x.2.1 + x.2.2) y.2.1 || Nat.ble (y.2.1 + y.2.2) x.2.1)

def offAll (p : Nat × Nat × Nat) : List (Nat × Nat × Nat) → Bool
  | [] => true
  | q :: r => offB p q && offAll p r

def deadAt (h0 : List Blk) (b : Nat) : Bool :=
  match nthB h0 b with
  | some .dead => true
  | none => true
  | _ => false

def tailGo (T : Tbl) (ts : List EV) (h h0 : List Blk) (l0 : List Bool) : List Oper → List Bool → List (Nat × Nat × Nat) → Bool
  | [], _, _ => true
  | _ :: r, true :: l, acc => tailGo T ts h h0 l0 r l acc
  | o :: r, false :: l, acc => match stoK T ts h o with
    | some p => waitB l0 o.after.toList && (offAll p acc && (deadAt h0 p.1 && tailGo T ts h h0 l0 r l (p :: acc)))
    | none => false
  | _ :: _, [], _ => false

def countF : List Bool → Nat
  | [] => 0
  | true :: r => countF r
  | false :: r => countF r + 1

def tailRun (T : Tbl) (ops : Array Oper) (l : List Oper) : List Bool → St → (St → Prop) → Prop :=
  List.rec (motive := fun _ => List Bool → St → (St → Prop) → Prop) (fun _ s k => k s) (fun o _ ih l s k => match l with
    | true :: l => ih l s k
    | false :: l => opX T ops s o fun s' => ih l s' k
    | [] => False) l

theorem offB_spec {x y : Nat × Nat × Nat} (h : offB x y = true) : x.1 ≠ y.1 ∨ x.2.1 + x.2.2 ≤ y.2.1 ∨ y.2.1 + y.2.2 ≤ x.2.1 := by
  simp only [offB, Bool.or_eq_true, Bool.not_eq_true', Nat.ble_eq] at h
  rcases h with h | h | h
  · exact .inl (Nat.ne_of_beq_eq_false h)
  · exact .inr (.inl h)
  · exact .inr (.inr h)

theorem offAll_spec {p : Nat × Nat × Nat} : ∀ {l : List (Nat × Nat × Nat)}, offAll p l = true → ∀ q ∈ l, offB p q = true
  | [], _, q, hq => by cases hq
  | x :: r, h, q, hq => by
    simp only [offAll, Bool.and_eq_true] at h
    rcases List.mem_cons.1 hq with rfl | hq
    · exact h.1
    · exact offAll_spec h.2 q hq

/-- What the look at the tail tells: each one's place; they are apart. -/
theorem tailGo_spec {T : Tbl} {ts : List EV} {h h0 : List Blk} {l0 : List Bool} : ∀ {ops : List Oper} {l : List Bool} {acc : List (Nat × Nat × Nat)}, tailGo T ts h h0 l0 ops l acc = true →
    (∀ (i : Nat) (o : Oper), ops[i]? = some o → l[i]? = some false → ∃ p, stoK T ts h o = some p ∧ waitB l0 o.after.toList = true ∧ deadAt h0 p.1 = true ∧ ∀ q ∈ acc, offB p q = true) ∧
    (∀ (i j : Nat) (o o' : Oper) p p', ops[i]? = some o → l[i]? = some false → ops[j]? = some o' → l[j]? = some false → i < j → stoK T ts h o = some p → stoK T ts h o' = some p' → offB p' p = true)
  | [], _, _, _ => ⟨fun i o ho => by simp at ho, fun i j o o' p p' ho => by simp at ho⟩
  | o0 :: r, true :: l, acc, ht => by
    obtain ⟨h1, h2⟩ := tailGo_spec (ops := r) (l := l) (acc := acc) ht
    refine ⟨fun i o ho hl => ?_, fun i j o o' p p' ho hl ho' hl' hij => ?_⟩
    · cases i with
      | zero => simp at hl
      | succ i => exact h1 i o (by simpa using ho) (by simpa using hl)
    · cases i with
      | zero => simp at hl
      | succ i =>
        cases j with
        | zero => omega
        | succ j => exact h2 i j o o' p p' (by simpa using ho) (by simpa using hl) (by simpa using ho') (by simpa using hl') (by omega)
  | o0 :: r, false :: l, acc, ht => by
    simp only [tailGo] at ht
    split at ht
    · rename_i p0 hp0
      simp only [Bool.and_eq_true] at ht
      obtain ⟨ha, hb, hc, hd⟩ := ht
      obtain ⟨h1, h2⟩ := tailGo_spec (ops := r) (l := l) (acc := p0 :: acc) hd
      refine ⟨fun i o ho hl => ?_, fun i j o o' p p' ho hl ho' hl' hij hp hp' => ?_⟩
      · cases i with
        | zero =>
          simp only [List.getElem?_cons_zero, Option.some.injEq] at ho
          subst ho
          exact ⟨p0, hp0, ha, hc, offAll_spec hb⟩
        | succ i =>
          obtain ⟨p, k1, k2, k3, k4⟩ := h1 i o (by simpa using ho) (by simpa using hl)
          exact ⟨p, k1, k2, k3, fun q hq => k4 q (List.mem_cons_of_mem _ hq)⟩
      · cases j with
        | zero => omega
        | succ j =>
          cases i with
          | zero =>
            simp only [List.getElem?_cons_zero, Option.some.injEq] at ho
            subst ho
            rw [hp0] at hp
            simp only [Option.some.injEq] at hp
            subst hp
            obtain ⟨p, k1, k2, k3, k4⟩ := h1 j o' (by simpa using ho') (by simpa using hl')
            rw [k1] at hp'
            simp only [Option.some.injEq] at hp'
            subst hp'
            exact k4 p0 List.mem_cons_self
          | succ i => exact h2 i j o o' p p' (by simpa using ho) (by simpa using hl) (by simpa using ho') (by simpa using hl') (by omega) hp hp'
    · cases ht
  | _ :: _, [], _, ht => by simp [tailGo] at ht

/-- The store that an operation is, in a world. -/
def stoOf (E : Emb) (T : Tbl) (ts : List EV) (h : List Blk) (a : Act) (o : Oper) : Sto :=
  match stoK T ts h o, o.op with
  | some (b, off, _), .store _ _ v => ⟨(E.f b).1, (E.f b).2 + off, (a.eval v).cells.toList⟩
  | _, _ => ⟨0, 0, []⟩

theorem stoK_spec (T : Tbl) {O : Org} {E : Emb} {s : St} {a : Act} {w : World} (R : Rel O E s a w) {ops : Array Oper} {o : Oper} {b off n : Nat} (h : stoK T s.tmps s.heap o = some (b, off, n)) :
    Region.wanted o (yielded ops a.tmps) = true ∧ o.dst = none ∧ (∃ cs sp, s.heap[b]? = some (.cells true cs sp) ∧ off + n ≤ sizeS cs ∧ 1 ≤ n) ∧ (stoOf E T s.tmps s.heap a o).B = (E.f b).1 ∧ (stoOf E T s.tmps s.heap a o).O = (E.f b).2 + off ∧
      (stoOf E T s.tmps s.heap a o).vs.length = n ∧ (stoOf E T s.tmps s.heap a o).can w ∧ ∀ w', (stoOf E T s.tmps s.heap a o).can w' → (execOp a.eval o).run T.P w' = .ok .skip ((stoOf E T s.tmps s.heap a o).on w') := by
  have h' := h
  unfold stoK at h
  split at h
  · rename_i t x v hg hd hop
    split at h
    · rename_i i b' off' new ht hx hv
      split at h
      · rename_i cs sp hsz hb
        split at h
        · rename_i hle
          simp only [Option.some.injEq, Prod.mk.injEq] at h
          obtain ⟨rfl, rfl, rfl⟩ := h
          simp only [Bool.and_eq_true] at hsz
          obtain ⟨hsz, hpos⟩ := hsz
          have hpos := Nat.le_of_ble_eq_true hpos
          have hsz := Nat.eq_of_beq_eq_true hsz
          have hle := Nat.le_of_ble_eq_true hle
          have hb := nthB_get hb
          have hxd := ev_denE R.fr x
          have hvd := segsOf_den (ev_denE R.fr v) hv
          have hx' : s.ev x = .s (.ptr b' off') := hx
          rw [hx'] at hxd
          simp only [denE, denV] at hxd
          have hlen : (a.eval v).cells.toList.length = i.size := by rw [denS_length hvd, hsz]
          have hst : stoOf E T s.tmps s.heap a o = ⟨(E.f b').1, (E.f b').2 + off', (a.eval v).cells.toList⟩ := by
            unfold stoOf
            rw [h', hop]
          rw [hst]
          refine ⟨by simp [Region.wanted, hg], hd, ⟨cs, sp, hb, hle, hpos⟩, rfl, rfl, hlen, fun j hj => ?_, fun w' hc => ?_⟩
          · simp only at hj ⊢
            obtain ⟨_, _, hm⟩ := R.sim.ok b' _ hb
            obtain ⟨⟨y, hy⟩, hr⟩ := hm rfl (off' + j) (by omega)
            rw [Nat.add_assoc]
            exact ⟨⟨y, hy⟩, hr.frozen hy⟩
          · have h4 := run_sizeOf_ti T ht w'
            have h5 := run_storeCells_cells (P := T.P) (E.f b').1 ((E.f b').2 + off') (a.eval v).cells.toList 0 w' (fun j hj => by
                obtain ⟨⟨y, hy⟩, _⟩ := hc j hj
                simp only at hy
                rw [Nat.add_zero, hy]; rfl) (fun j hj => by
                obtain ⟨_, hf⟩ := hc j hj
                simp only at hf
                rw [Nat.add_zero]; exact hf) (fun y hy => denS_oneCell hvd y hy)
            simp only [Nat.add_zero] at h5
            have hsz2 : (a.eval v).cells.size = i.size := by rw [← Array.length_toList]; exact hlen
            unfold execOp
            simp only [hop, hxd.2, Instr.storeAt, Instr.sureAddr, pure_bind, storeVar, Sem.run_bind, h4, Result.andThen_ok, hsz2, ne_eq, not_true_eq_false, if_false]
            have h6 : ((storeCells (E.at b' off') (a.eval v).cells.toList 0).run T.P w') = _ := h5
            rw [h6]
            rfl
        · cases h
      · cases h
    · cases h
  · cases h

theorem sto_off (T : Tbl) {O : Org} {E : Emb} {s : St} {a : Act} {w : World} (R : Rel O E s a w) (ops : Array Oper) {o o' : Oper} {p p' : Nat × Nat × Nat} (h : stoK T s.tmps s.heap o = some p) (h' : stoK T s.tmps s.heap o' = some p') (hp : offB p' p = true) :
    (stoOf E T s.tmps s.heap a o).off (stoOf E T s.tmps s.heap a o') := by
  obtain ⟨b, off, n⟩ := p
  obtain ⟨b', off', n'⟩ := p'
  obtain ⟨_, _, ⟨cs, sp, k1, k2, k3⟩, k4, k5, k6, _⟩ := stoK_spec T R (ops := ops) h
  obtain ⟨_, _, ⟨cs', sp', q1, q2, q3⟩, q4, q5, q6, _⟩ := stoK_spec T R (ops := ops) h'
  have hp := offB_spec hp
  simp only at hp
  unfold Sto.off
  rw [k4, k5, k6, q4, q5, q6]
  by_cases hb : b = b'
  · subst hb; omega
  · by_cases hB : (E.f b).1 = (E.f b').1
    · refine Classical.byContradiction fun hn => ?_
      have hx : ∃ x, (E.f b).2 + off ≤ x ∧ x < (E.f b).2 + off + n ∧ (E.f b').2 + off' ≤ x ∧ x < (E.f b').2 + off' + n' := by
        by_cases hle : (E.f b).2 + off ≤ (E.f b').2 + off'
        · exact ⟨(E.f b').2 + off', by omega⟩
        · exact ⟨(E.f b).2 + off, by omega⟩
      obtain ⟨x, x1, x2, x3, x4⟩ := hx
      refine R.sim.dis b b' _ _ hb k1 q1 rfl (E.f b).1 x ⟨rfl, by omega, by omega⟩ ⟨hB, by omega, by omega⟩
    · exact .inl hB

theorem unl_suffix (l : List Bool) : ∀ (n : Nat) (r : List Bool), (l = l.take n ++ r ∧ n ≤ l.length) → ((List.range' n r.length).filter fun j => !l.toArray.getD j true).length = countF r
  | n, [], _ => rfl
  | n, b :: r, h => by
    have h1 : l[n]? = some b := by
      rw [h.1, List.getElem?_append_right (by simp; omega)]
      simp [Nat.min_eq_left h.2]
    have hn : n < l.length := by
      rcases Nat.lt_or_ge n l.length with h' | h'
      · exact h'
      · rw [List.getElem?_eq_none h'] at h1; cases h1
    have h2 : l = l.take (n + 1) ++ r := by
      have e : l.drop n = b :: r := by
        have := congrArg (List.drop n) h.1
        rw [List.drop_append, List.length_take, Nat.min_eq_left h.2] at this
        simpa using this
      have e2 : l.drop (n + 1) = r := by
        have := congrArg (List.drop 1) e
        simpa [List.drop_drop] using this
      rw [← e2, List.take_append_drop]
    have ih := unl_suffix l (n + 1) r ⟨h2, hn⟩
    rw [List.length_cons, List.range'_succ, List.filter_cons]
    have h3 : l.toArray.getD n true = b := by simp [h1]
    rw [h3]
    cases b with
    | true => simpa [countF] using ih
    | false => simpa [countF] using ih

theorem unl_length {ops : Array Oper} {l : List Bool} (h : l.length = ops.size) : (unl ops l.toArray).length = countF l := by
  unfold unl
  rw [← h, List.range_eq_range']
  exact unl_suffix l 0 l ⟨by simp, Nat.zero_le _⟩

theorem get_nthB : ∀ {h : List Blk} {b : Nat} {B : Blk}, h[b]? = some B → nthB h b = some B
  | [], _, _, h => by simp at h
  | x :: r, 0, _, h => by simpa [nthB] using h
  | x :: r, b + 1, _, h => by simp only [nthB]; exact get_nthB (by simpa using h)

/-- The store of the operation with this number. -/
def stoN (E : Emb) (T : Tbl) (ts : List EV) (h : List Blk) (a : Act) (ops : Array Oper) (i : Nat) : Sto :=
  match ops[i]? with
  | some o => stoOf E T ts h a o
  | none => ⟨0, 0, []⟩

theorem tail_run {T : Tbl} {O : Org} (on : O.E.n = O.h.length) {ops : Array Oper} {a : Act} {Q : Exit → Act → World → Prop} {k : St → Prop} (sp : Nat → Sto) (hn : ∀ E' s' w', k s' → Rel O E' s' a w' → Q .normal a w')
    (l : List Bool) (hl : l.length = ops.size) : ∀ (r : List Oper) (m : List Bool) (i : Nat) {E : Emb} {s : St} {w : World}, ops.toList = ops.toList.take i ++ r → l = l.take i ++ m → i ≤ l.length → Rel O E s a w → tailRun T ops r m s k →
      (∀ j ∈ (List.range' i m.length).filter (fun j => !l.toArray.getD j true), ∃ o, ops[j]? = some o ∧ Region.wanted o (yielded ops a.tmps) = true ∧ o.dst = none ∧ ∀ w', (sp j).can w' → (execOp a.eval o).run T.P w' = .ok .skip ((sp j).on w')) →
      ((List.range' i m.length).filter (fun j => !l.toArray.getD j true)).Pairwise (fun x y => (sp x).off (sp y)) →
      (∀ j ∈ (List.range' i m.length).filter (fun j => !l.toArray.getD j true), (sp j).can w) →
      Q .normal a (allOn sp ((List.range' i m.length).filter fun j => !l.toArray.getD j true) w)
  | [], m, i, E, s, w, h1, h2, h3, R, hk, hop, hap, hcan => by
    have hm : m = [] := by
      have e1 := congrArg List.length h1
      have e2 := congrArg List.length h2
      simp only [List.length_append, List.length_take, Array.length_toList, List.length_nil] at e1 e2
      exact List.length_eq_zero_iff.1 (by omega)
    subst hm
    exact hn _ _ _ hk R
  | o :: r, [], i, E, s, w, h1, h2, h3, R, hk, hop, hap, hcan => hk.elim
  | o :: r, b :: m, i, E, s, w, h1, h2, h3, R, hk, hop, hap, hcan => by
    have hb : l[i]? = some b := by
      rw [h2, List.getElem?_append_right (by simp; omega)]
      simp [Nat.min_eq_left h3]
    have hil : i < l.length := by
      rcases Nat.lt_or_ge i l.length with h' | h'
      · exact h'
      · rw [List.getElem?_eq_none h'] at hb; cases hb
    have ho : ops[i]? = some o := by
      rw [← Array.getElem?_toList, h1, List.getElem?_append_right (by simp; omega)]
      have : i ≤ ops.toList.length := by rw [Array.length_toList]; omega
      rw [List.length_take, Nat.min_eq_left this, Nat.sub_self]
      rfl
    have next : ∀ {α : Type} {x : List α} {y : α} {z : List α}, x = x.take i ++ y :: z → i ≤ x.length → x = x.take (i + 1) ++ z := fun {α x y z} he hi => by
      have e : x.drop i = y :: z := by
        have := congrArg (List.drop i) he
        rw [List.drop_append, List.length_take, Nat.min_eq_left hi] at this
        simpa using this
      have e2 : x.drop (i + 1) = z := by
        have := congrArg (List.drop 1) e
        simpa [List.drop_drop] using this
      rw [← e2, List.take_append_drop]
    have n1 := next h1 (by rw [Array.length_toList]; omega)
    have n2 := next h2 h3
    rw [List.length_cons, List.range'_succ, List.filter_cons] at hop hap hcan ⊢
    have hg : l.toArray.getD i true = b := by simp [hb]
    rw [hg] at hop hap hcan ⊢
    cases b with
    | true =>
      simp only [Bool.not_true, Bool.false_eq_true, if_false] at hop hap hcan ⊢
      exact tail_run on sp hn l hl r m (i + 1) n1 n2 hil R hk hop hap hcan
    | false =>
      simp only [Bool.not_false, if_true] at hop hap hcan ⊢
      obtain ⟨o', ho', hw, hd, hrun⟩ := hop i List.mem_cons_self
      rw [ho] at ho'
      simp only [Option.some.injEq] at ho'
      subst ho'
      have hk' : opX T ops s o fun s' => tailRun T ops r m s' k := hk
      have h5 := opX_snd on R hk' (next := fun a' w' => ∃ E' s', tailRun T ops r m s' k ∧ Rel O E' s' a' w') (Q := Q) (fun E' s' a' w' h1 h2 => ⟨E', s', h1, h2⟩)
      rw [if_pos hw] at h5
      unfold Oper.wp at h5
      rw [hrun w (hcan i List.mem_cons_self), Oper.upon_skip, hd] at h5
      obtain ⟨E', s', h6, h7⟩ := h5
      rw [List.pairwise_cons] at hap
      simp only [allOn]
      refine tail_run on sp hn l hl r m (i + 1) n1 n2 hil h7 h6 (fun j hj => hop j (List.mem_cons_of_mem _ hj)) hap.2 (fun j hj => ?_)
      exact Sto.can_on (Sto.off_symm (hap.1 j hj)) (hcan j (List.mem_cons_of_mem _ hj))

end Go.Anv

/- The engine, part 10: the walk of a region that draws its order. Plain theorems; their condition: no panic is let through. -/
namespace Go.Anv
open Go

/-- The walk of an operation that may be taken first: 'yes' with its value, or 'no'. -/
def pureK (T : Tbl) (h0 : List Blk) (ops : Array Oper) (ts : List EV) (o : Oper) (yes : EV → Prop) (no : Prop) : Prop :=
  match o.guard with
  | none => match px T h0 (evT ts) (evT ts) o.op with
    | .ok v => match detE v with
      | true => yes v
      | false => no
    | .need p v => match detE v with
      | true => Need p (yes v)
      | false => no
    | .fail => no
  | some (j, want) => guardK ops ts j want fun g => match px T h0 (fun x => strip (evT ts x)) (evT ts) o.op with
    | .ok v => match detE v with
      | true => obligK g ((looks o.op).map (evT ts)) (yes (.gd g v))
      | false => no
    | .need p v => match detE v with
      | true => obligK g ((looks o.op).map (evT ts)) (Need (g = true → p) (yes (.gd g v)))
      | false => no
    | .fail => no

def tryPure (T : Tbl) (h0 : List Blk) (ops : Array Oper) (ts : List EV) (l : List Bool) (yes : Nat → Oper → EV → Prop) (no : Prop) (rs : List Nat) : Prop :=
  List.rec (motive := fun _ => Prop) no (fun i _ ih => match nthO ops.toList i with
    | none => False
    | some o => match freeGo ops.toList i o 0 ops.toList l with
      | true => pureK T h0 ops ts o (yes i o) ih
      | false => ih) rs

/-- The blocks of the begin are as they were. -/
def preK (h0 : List Blk) : List Blk → Prop → Prop :=
  List.rec (motive := fun _ => List Blk → Prop → Prop) (fun _ k => k) (fun x _ ih h k => match h with
    | [] => False
    | y :: r' => match x with
      | .dead => ih r' k
      | .cells m cs sp => Need (Blk.cells m cs sp = y) (ih r' k)
      | .recs m n z f sp => Need (Blk.recs m n z f sp = y) (ih r' k)
      | .map es => Need (Blk.map es = y) (ih r' k)) h0

theorem preK_spec : ∀ {h0 h : List Blk} {k : Prop}, preK h0 h k → (∀ (i : Nat) (B : Blk), h0[i]? = some B → B = .dead ∨ h[i]? = some B) ∧ k
  | [], _, _, hk => ⟨fun i B hi => by simp at hi, hk⟩
  | x :: r, y :: r', k, hk => by
    have hk' : (x = .dead ∨ x = y) ∧ preK r r' k := by
      cases x with
      | dead => exact ⟨.inl rfl, hk⟩
      | cells m cs sp => exact ⟨.inr hk.p, hk.k⟩
      | recs m n z f sp => exact ⟨.inr hk.p, hk.k⟩
      | map es => exact ⟨.inr hk.p, hk.k⟩
    obtain ⟨h1, h2⟩ := preK_spec hk'.2
    refine ⟨fun i B hi => ?_, h2⟩
    cases i with
    | zero =>
      simp only [List.getElem?_cons_zero, Option.some.injEq] at hi ⊢
      subst hi
      exact hk'.1.imp id Eq.symm
    | succ i => simpa using h1 i B (by simpa using hi)
  | .dead :: _, [], _, hk => hk.elim
  | .cells .. :: _, [], _, hk => hk.elim
  | .recs .. :: _, [], _, hk => hk.elim
  | .map _ :: _, [], _, hk => hk.elim

/-- All of them, one behind the other. -/
def allK (f : Nat → Oper → Prop) (ops : List Oper) (rs : List Nat) : Prop :=
  List.rec (motive := fun _ => Prop) True (fun i r ih => match r with
    | [] => match nthO ops i with
      | none => False
      | some o => f i o
    | _ :: _ => (match nthO ops i with
      | none => False
      | some o => f i o) ∧ ih) rs

theorem allK_spec {f : Nat → Oper → Prop} {ops : List Oper} : ∀ {rs : List Nat}, allK f ops rs → ∀ i ∈ rs, ∃ o, ops[i]? = some o ∧ f i o
  | [], _, i, hi => by cases hi
  | [x], h, i, hi => by
    simp only [List.mem_singleton] at hi
    subst hi
    have h : (match nthO ops i with
      | none => False
      | some o => f i o) := h
    split at h
    · exact h.elim
    · rename_i o ho
      rw [nthO_eq] at ho
      exact ⟨o, ho, h⟩
  | x :: y :: r, h, i, hi => by
    have h : (match nthO ops x with
      | none => False
      | some o => f x o) ∧ allK f ops (y :: r) := h
    obtain ⟨h1, h2⟩ := h
    rcases List.mem_cons.1 hi with rfl | hi
    · split at h1
      · exact h1.elim
      · rename_i o ho
        rw [nthO_eq] at ho
        exact ⟨o, ho, h1⟩
    · exact allK_spec h2 i hi

/-- One step of a walk in whatever order; 'ih': the steps behind it. -/
def drawS (T : Tbl) (h0 : List Blk) (ops : Array Oper) (k : St → Prop) (n : Nat) (ih : List Bool → St → Prop) (l : List Bool) (s : St) : Prop :=
  match rdyGo l 0 ops.toList l with
  | [] => k s
  | i :: rs => match s with
    | ⟨ts, h⟩ => tryPure T h0 ops ts l (fun i o v => forceE v fun v => putK ts h o.dst v fun s' => ih (setB l i) s')
      (match tailGo T ts h h0 l ops.toList l [] && Nat.ble (countF l) (n + 1) with
        | true => preK h0 h (tailRun T ops ops.toList l ⟨ts, h⟩ k)
        | false => allK (fun i o => opX T ops ⟨ts, h⟩ o fun s' => preK h0 s'.heap (ih (setB l i) s')) ops.toList (i :: rs)) (i :: rs)

/-- (By the recursor itself: so that the elaborator and the kernel unfold it alike.) -/
def drawX (T : Tbl) (h0 : List Blk) (ops : Array Oper) (k : St → Prop) (n : Nat) : List Bool → St → Prop :=
  Nat.rec (motive := fun _ => List Bool → St → Prop) (fun l s => match rdyGo l 0 ops.toList l with
    | [] => k s
    | _ :: _ => False) (fun n ih l s => drawS T h0 ops k n ih l s) n

theorem drawX_zero (T : Tbl) (h0 : List Blk) (ops : Array Oper) (k : St → Prop) (l : List Bool) (s : St) : drawX T h0 ops k 0 l s = (match rdyGo l 0 ops.toList l with
    | [] => k s
    | _ :: _ => False) := rfl
theorem drawX_succ (T : Tbl) (h0 : List Blk) (ops : Array Oper) (k : St → Prop) (n : Nat) (l : List Bool) (s : St) : drawX T h0 ops k (n + 1) l s = drawS T h0 ops k n (drawX T h0 ops k n) l s := rfl

def falses : List Oper → List Bool
  | [] => []
  | _ :: r => false :: falses r

theorem falses_eq : ∀ l : List Oper, falses l = List.replicate l.length false
  | [] => rfl
  | _ :: r => by simp [falses, falses_eq r, List.replicate_succ]

theorem length_setB (l : List Bool) (i : Nat) : (setB l i).length = l.length := by simp [setB_eq]

section draw
variable {T : Tbl} {E0 : Emb} {hs h0 : List Blk} {w0 : World} {D0 : List Deferred} {E00 : Emb} {ops : Array Oper} {Q : Exit → Act → World → Prop}

theorem px_held {E : Emb} {h : List Blk} {w : World} (S : Sim E00 h w) (le : E00.le E) (ev raw : Operand → EV) (ρ : Operand → Value) (o : Oper)
    (hev : ∀ x ∈ looks o.op, denE E (ev x) (ρ x)) (hraw : ∀ x, denE E (raw x) (ρ x)) (hne : px T h ev raw o.op ≠ .fail) : (px T h ev raw o.op).yl E T.P w (execOp ρ o) := by
  have := px_snd T (S.weak le) ev raw ρ o hev hraw
  rwa [px_app T _ _ _ _ _ hne] at this

theorem pureK_snd {E : Emb} {s : St} {a : Act} {w : World} (R : Rel ⟨E0, hs, w0, D0⟩ E s a w) (hS : Sim E00 h0 w) (le : E00.le E) {o : Oper} {yes : EV → Prop} {no : Prop}
    (hk : pureK T h0 ops s.tmps o yes no) : no ∨ ∃ v u, denE E v u ∧ yes v ∧ YieldsIf T.P ops (Sim E00 h0) o u a := by
  unfold pureK at hk
  have hev : (St.ev s) = evT s.tmps := rfl
  split at hk
  · rename_i hg
    have hw : Region.wanted o (yielded ops a.tmps) = true := by simp [Region.wanted, hg]
    have hpx : ∀ w', Sim E00 h0 w' → px T h0 (evT s.tmps) (evT s.tmps) o.op ≠ .fail → (px T h0 (evT s.tmps) (evT s.tmps) o.op).yl E T.P w' (execOp a.eval o) := fun w' S' hne =>
      px_held S' le _ _ a.eval o (fun x _ => ev_denE R.fr x) (fun x => ev_denE R.fr x) hne
    split at hk
    · rename_i v hv
      split at hk
      · rename_i hd
        have h1 := hpx w hS (by rw [hv]; simp)
        rw [hv] at h1
        obtain ⟨z, _, h2⟩ := h1
        refine .inr ⟨v, z, h2, hk, .inl ⟨hw, fun w' S' => ?_⟩⟩
        have h3 := hpx w' S' (by rw [hv]; simp)
        rw [hv] at h3
        obtain ⟨z', h4, h5⟩ := h3
        rw [detE_eq v _ _ hd h2 h5]
        exact h4
      · exact .inl hk
    · rename_i p v hv
      split at hk
      · rename_i hd
        obtain ⟨hp, hk⟩ := hk
        have h1 := hpx w hS (by rw [hv]; simp)
        rw [hv] at h1
        obtain ⟨z, _, h2⟩ := h1 hp
        refine .inr ⟨v, z, h2, hk, .inl ⟨hw, fun w' S' => ?_⟩⟩
        have h3 := hpx w' S' (by rw [hv]; simp)
        rw [hv] at h3
        obtain ⟨z', h4, h5⟩ := h3 hp
        rw [detE_eq v _ _ hd h2 h5]
        exact h4
      · exact .inl hk
    · exact .inl hk
  · rename_i j want hg
    obtain ⟨g, h1, hk⟩ := guardK_snd R hk
    have hw : Region.wanted o (yielded ops a.tmps) = g := by simp only [Region.wanted, hg]; exact h1
    have hob : ∀ {l : List Operand}, oblig g (l.map s.ev) → g = true → ∀ x ∈ l, denE E (strip (s.ev x)) (a.eval x) := fun {l} => by
      induction l with
      | nil => intro _ _ x hx; cases hx
      | cons y r ih =>
        intro h hg x hx
        have hy := ev_denE R.fr y
        simp only [List.map_cons] at h
        rcases List.mem_cons.1 hx with rfl | hx
        · cases he : s.ev x with
          | gd g' v =>
            rw [he] at h hy
            simp only [oblig] at h
            simp only [denE] at hy
            exact hy.1 (h.1 hg)
          | _ => rw [he] at hy; exact hy
        · refine ih ?_ hg x hx
          cases he : s.ev y with
          | gd g' v => rw [he] at h; exact h.2
          | _ => rw [he] at h; exact h
    have hpx : g = true → oblig g ((looks o.op).map s.ev) → ∀ w', Sim E00 h0 w' → px T h0 (fun x => strip (evT s.tmps x)) (evT s.tmps) o.op ≠ .fail →
        (px T h0 (fun x => strip (evT s.tmps x)) (evT s.tmps) o.op).yl E T.P w' (execOp a.eval o) := fun hg ho w' S' hne =>
      px_held S' le _ _ a.eval o (hob ho hg) (fun x => ev_denE R.fr x) hne
    split at hk
    · rename_i v hv
      split at hk
      · rename_i hd
        obtain ⟨ho, hk⟩ := (obligK_iff _ _ _).1 hk
        cases g with
        | false => exact .inr ⟨.gd false v, undef, by simp [denE], hk, .inr ⟨hw, rfl⟩⟩
        | true =>
          have h1 := hpx rfl ho w hS (by rw [hv]; simp)
          rw [hv] at h1
          obtain ⟨z, _, h2⟩ := h1
          refine .inr ⟨.gd true v, z, by simp only [denE]; exact ⟨fun _ => h2, fun h => by cases h⟩, hk, .inl ⟨hw, fun w' S' => ?_⟩⟩
          have h3 := hpx rfl ho w' S' (by rw [hv]; simp)
          rw [hv] at h3
          obtain ⟨z', h4, h5⟩ := h3
          rw [detE_eq v _ _ hd h2 h5]
          exact h4
      · exact .inl hk
    · rename_i p v hv
      split at hk
      · rename_i hd
        obtain ⟨ho, hp, hk⟩ := (obligK_iff _ _ _).1 hk
        cases g with
        | false => exact .inr ⟨.gd false v, undef, by simp [denE], hk, .inr ⟨hw, rfl⟩⟩
        | true =>
          have h1 := hpx rfl ho w hS (by rw [hv]; simp)
          rw [hv] at h1
          obtain ⟨z, _, h2⟩ := h1 (hp rfl)
          refine .inr ⟨.gd true v, z, by simp only [denE]; exact ⟨fun _ => h2, fun h => by cases h⟩, hk, .inl ⟨hw, fun w' S' => ?_⟩⟩
          have h3 := hpx rfl ho w' S' (by rw [hv]; simp)
          rw [hv] at h3
          obtain ⟨z', h4, h5⟩ := h3 (hp rfl)
          rw [detE_eq v _ _ hd h2 h5]
          exact h4
      · exact .inl hk
    · exact .inl hk

theorem tryPure_snd {E : Emb} {s : St} {a : Act} {w : World} (R : Rel ⟨E0, hs, w0, D0⟩ E s a w) (hS : Sim E00 h0 w) (le : E00.le E) {l : List Bool} {yes : Nat → Oper → EV → Prop} {no : Prop} :
    ∀ {rs : List Nat}, tryPure T h0 ops s.tmps l yes no rs → no ∨ ∃ i o v u, i ∈ rs ∧ ops[i]? = some o ∧ freeGo ops.toList i o 0 ops.toList l = true ∧ denE E v u ∧ yes i o v ∧ YieldsIf T.P ops (Sim E00 h0) o u a
  | [], hk => .inl hk
  | i :: r, hk => by
    have hk : (match nthO ops.toList i with
      | none => False
      | some o => match freeGo ops.toList i o 0 ops.toList l with
        | true => pureK T h0 ops s.tmps o (yes i o) (tryPure T h0 ops s.tmps l yes no r)
        | false => tryPure T h0 ops s.tmps l yes no r) := hk
    split at hk
    · exact hk.elim
    · rename_i o ho
      rw [nthO_eq, Array.getElem?_toList] at ho
      have rest : tryPure T h0 ops s.tmps l yes no r → no ∨ ∃ i' o v u, i' ∈ i :: r ∧ ops[i']? = some o ∧ freeGo ops.toList i' o 0 ops.toList l = true ∧ denE E v u ∧ yes i' o v ∧ YieldsIf T.P ops (Sim E00 h0) o u a := fun h => by
        rcases tryPure_snd R hS le h with h | ⟨i', o', v, u, h1, h2⟩
        · exact .inl h
        · exact .inr ⟨i', o', v, u, List.mem_cons_of_mem _ h1, h2⟩
      split at hk
      · rename_i hf
        rcases pureK_snd R hS le hk with h | ⟨v, u, h1, h2, h3⟩
        · exact rest h
        · exact .inr ⟨i, o, v, u, List.mem_cons_self, ho, hf, h1, h2, h3⟩
      · exact rest hk

theorem tail_snd (n0 : E0.n = hs.length) {k : St → Prop} (hn : ∀ E' s' a' w', k s' → Rel ⟨E0, hs, w0, D0⟩ E' s' a' w' → Q .normal a' w')
    {n : Nat} {l : List Bool} {E : Emb} {s : St} {a : Act} {w : World} (hl : l.length = ops.size) (R : Rel ⟨E0, hs, w0, D0⟩ E s a w) (hS : Sim E00 h0 w) (le : E00.le E)
    (ht : tailGo T s.tmps s.heap h0 l ops.toList l [] = true) (hc : countF l ≤ n) (hk : preK h0 s.heap (tailRun T ops ops.toList l s k)) : wpAnyH T.P .any ops Q (Sim E00 h0) n l.toArray a w := by
  obtain ⟨hpre, hk⟩ := preK_spec hk
  obtain ⟨t1, t2⟩ := tailGo_spec ht
  have hmem : ∀ i ∈ unl ops l.toArray, ∃ o, ops[i]? = some o ∧ ops.toList[i]? = some o ∧ l[i]? = some false := fun i hi => by
    obtain ⟨h1, h2⟩ := List.mem_filter.1 hi
    have h1 := List.mem_range.1 h1
    have h3 : l[i]? = some l[i] := List.getElem?_eq_getElem (by omega)
    refine ⟨ops[i], Array.getElem?_eq_getElem h1, by rw [Array.getElem?_toList]; exact Array.getElem?_eq_getElem h1, ?_⟩
    simp only [Array.getD_eq_getD_getElem?, List.getElem?_toArray, h3, Option.getD_some, Bool.not_eq_true'] at h2
    rw [h3, h2]
  have hsp : ∀ i o, ops[i]? = some o → stoN E T s.tmps s.heap a ops i = stoOf E T s.tmps s.heap a o := fun i o ho => by unfold stoN; rw [ho]
  have hoff : ∀ i ∈ unl ops l.toArray, ∀ j ∈ unl ops l.toArray, i < j → (stoN E T s.tmps s.heap a ops i).off (stoN E T s.tmps s.heap a ops j) := fun i hi j hj hij => by
    obtain ⟨o, h1, h2, h3⟩ := hmem i hi
    obtain ⟨o', k1, k2, k3⟩ := hmem j hj
    obtain ⟨p, q1, _⟩ := t1 i o h2 h3
    obtain ⟨p', q2, _⟩ := t1 j o' k2 k3
    rw [hsp i o h1, hsp j o' k1]
    exact sto_off T R ops q1 q2 (t2 i j o o' p p' h2 h3 k2 k3 hij q1 q2)
  refine stores_any (stoN E T s.tmps s.heap a ops) a n l.toArray w (by simpa using hl) (by rw [unl_length hl]; exact hc) hS (fun i hi => ?_) (fun i hi j hj hij => ?_) (fun i hi => ?_) (fun i hi w' hS' => ?_) ?_
  · obtain ⟨o, h1, h2, h3⟩ := hmem i hi
    obtain ⟨⟨b, off, m⟩, k1, k2, k3, _⟩ := t1 i o h2 h3
    obtain ⟨q1, q2, q3, q4, q5, q6, q7, q8⟩ := stoK_spec T R (ops := ops) k1
    refine ⟨o, h1, q1, q2, fun e he hb => ?_, by rw [hsp i o h1]; exact q8⟩
    rw [waitB_eq, List.all_eq_true] at k2
    have := k2 e (by simpa using he)
    rw [hb] at this
    simpa using this
  · rcases Nat.lt_or_gt_of_ne hij with h | h
    · exact hoff i hi j hj h
    · exact Sto.off_symm (hoff j hj i hi h)
  · obtain ⟨o, h1, h2, h3⟩ := hmem i hi
    obtain ⟨⟨b, off, m⟩, k1, k2, k3, _⟩ := t1 i o h2 h3
    obtain ⟨q1, q2, q3, q4, q5, q6, q7, q8⟩ := stoK_spec T R (ops := ops) k1
    rw [hsp i o h1]
    exact q7
  · obtain ⟨o, h1, h2, h3⟩ := hmem i hi
    obtain ⟨⟨b, off, m⟩, k1, k2, k3, _⟩ := t1 i o h2 h3
    obtain ⟨q1, q2, ⟨cs, sp, q3, q3', _⟩, q4, q5, q6, q7, q8⟩ := stoK_spec T R (ops := ops) k1
    rw [hsp i o h1]
    refine hS'.outside _ fun j B hj x hx1 hx2 => ?_
    rw [q5] at hx1 hx2
    rw [q6] at hx2
    rw [q4]
    rcases hpre j B hj with rfl | hB
    · intro h; exact h
    · have hjlt : j < E00.n := by
        rw [hS.n]
        rcases Nat.lt_or_ge j h0.length with h' | h'
        · exact h'
        · rw [List.getElem?_eq_none h'] at hj; cases hj
      rw [← le.2 j hjlt]
      refine R.sim.dis b j _ _ ?_ q3 hB rfl _ _ ⟨rfl, by omega, by omega⟩
      rintro rfl
      have hnb : nthB h0 b = some B := get_nthB hj
      simp only [deadAt, hnb] at k3
      cases B with
      | dead => rw [q3] at hB; cases hB
      | cells => cases k3
      | recs => cases k3
      | map => cases k3
  · have hu : unl ops l.toArray = (List.range' 0 l.length).filter fun j => !l.toArray.getD j true := by
      unfold unl
      rw [← hl, List.range_eq_range']
    have hpw : (unl ops l.toArray).Pairwise fun x y => (stoN E T s.tmps s.heap a ops x).off (stoN E T s.tmps s.heap a ops y) := by
      have h1 : (unl ops l.toArray).Pairwise (fun x y => x < y) := List.Pairwise.filter _ List.pairwise_lt_range
      exact List.Pairwise.imp_of_mem (fun {x y} hx hy hxy => hoff x hx y hy hxy) h1
    have hop : ∀ i ∈ unl ops l.toArray, (∃ o, ops[i]? = some o ∧ Region.wanted o (yielded ops a.tmps) = true ∧ o.dst = none ∧ ∀ w', (stoN E T s.tmps s.heap a ops i).can w' → (execOp a.eval o).run T.P w' = .ok .skip ((stoN E T s.tmps s.heap a ops i).on w')) ∧
        (stoN E T s.tmps s.heap a ops i).can w := fun i hi => by
      obtain ⟨o, h1, h2, h3⟩ := hmem i hi
      obtain ⟨⟨b, off, m⟩, k1, k2, k3, _⟩ := t1 i o h2 h3
      obtain ⟨q1, q2, q3, q4, q5, q6, q7, q8⟩ := stoK_spec T R (ops := ops) k1
      rw [hsp i o h1]
      exact ⟨⟨o, h1, q1, q2, q8⟩, q7⟩
    rw [hu] at hpw hop ⊢
    exact tail_run (O := ⟨E0, hs, w0, D0⟩) n0 _ (fun E' s' w' h1 h2 => hn E' s' _ w' h1 h2) l hl ops.toList l 0 (by simp) (by simp) (Nat.zero_le _) R hk (fun i hi => (hop i hi).1) hpw (fun i hi => (hop i hi).2)

theorem drawX_snd (n0 : E0.n = hs.length) (hsel : noSel ops.toList = true) (hQ : ∀ c a w, ¬ Q (.panic c) a w) (S0 : ∀ i, i < E00.n → E00.f i = E0.f i) (hn0 : E00.n ≤ E0.n) {k : St → Prop}
    (hn : ∀ E' s' a' w', k s' → Rel ⟨E0, hs, w0, D0⟩ E' s' a' w' → Q .normal a' w') :
    ∀ (n : Nat) (l : List Bool) {E : Emb} {s : St} {a : Act} {w : World}, l.length = ops.size → Rel ⟨E0, hs, w0, D0⟩ E s a w → Sim E00 h0 w → drawX T h0 ops k n l s → wpAnyH T.P .any ops Q (Sim E00 h0) n l.toArray a w
  | 0, l, E, s, a, w, hl, R, hS, hk => by
    simp only [drawX_zero] at hk
    rw [rdy_eq ops l hl] at hk
    split at hk
    · rename_i hr
      exact ⟨hr, hn _ _ _ _ hk R⟩
    · exact hk.elim
  | n + 1, l, E, s, a, w, hl, R, hS, hk => by
    have hle : ∀ {E s a w}, Rel ⟨E0, hs, w0, D0⟩ E s a w → E00.le E := fun {E s a w} R => by
      have h1 := R.sin.le n0 R.sim.n
      exact ⟨Nat.le_trans hn0 h1.1, fun i hi => by rw [h1.2 i (Nat.lt_of_lt_of_le hi hn0)]; exact (S0 i hi).symm⟩
    have hset : ∀ i, (setB l i).toArray = l.toArray.setIfInBounds i true := fun i => by simp [setB_eq]
    obtain ⟨ts, h⟩ := s
    simp only [drawX_succ, drawS] at hk
    rw [rdy_eq ops l hl] at hk
    split at hk
    · rename_i hr
      exact wpAnyH_done hr (hn _ _ _ _ hk R) _
    · rename_i i rs hr
      rcases tryPure_snd R hS (hle R) hk with hk | ⟨i', o, v, u, h1, h2, h3, h4, h5, h6⟩
      · split at hk
        · rename_i ht
          simp only [Bool.and_eq_true] at ht
          exact tail_snd n0 hn hl R hS (hle R) ht.1 (Nat.le_of_ble_eq_true ht.2) hk
        refine wpAnyH_all hr (by simp) fun j hj => ?_
        obtain ⟨o, ho, hk⟩ := allK_spec hk j hj
        have ho' : ops[j]? = some o := by simpa using ho
        have := opX_snd (O := ⟨E0, hs, w0, D0⟩) n0 R hk (next := fun a' w' => Sim E00 h0 w' ∧ wpAnyH T.P .any ops Q (Sim E00 h0) n (l.toArray.setIfInBounds j true) a' w') (Q := Q) (fun E' s' a' w' h1 h2 => by
          obtain ⟨h3, h4⟩ := preK_spec h1
          have hS' : Sim E00 h0 w' := hS.restrict (hle h2) h2.sim h3
          refine ⟨hS', ?_⟩
          rw [← hset]
          exact drawX_snd n0 hsel hQ S0 hn0 hn n (setB l j) (by rw [length_setB]; exact hl) h2 hS' h4)
        unfold wpOp
        simp only [ho']
        split
        · rename_i hw
          rw [if_pos hw] at this
          exact .inl this
        · rename_i hw
          rw [if_neg hw] at this
          exact this
      · simp only [forceE_eq, putK_eq] at h5
        refine wpAnyH_take h2 (noSel_eq hsel) (free_of h2 h3) ?_ (fun c a w h => absurd h (hQ c _ w)) h6 hS ?_
        · rw [hr]
          simpa using h1
        · rw [← hset]
          exact drawX_snd n0 hsel hQ S0 hn0 hn n (setB l i') (by rw [length_setB]; exact hl) (R.put o.dst h4) hS h5

end draw

/-- Some blocks of a small world, from its begin on; the others are let go. -/
def keptK : List Blk → List Blk → Prop
  | [], [] => True
  | .dead :: r, _ :: r' => keptK r r'
  | x :: r, y :: r' => x = y ∧ keptK r r'
  | _, _ => False

theorem keptK_spec : ∀ {h0 h : List Blk}, keptK h0 h → h0.length = h.length ∧ ∀ (i : Nat) (B : Blk), h0[i]? = some B → B = .dead ∨ h[i]? = some B
  | [], [], _ => ⟨rfl, fun i B hi => by simp at hi⟩
  | [], _ :: _, hk => hk.elim
  | x :: r, y :: r', hk => by
    have hk' : (x = .dead ∨ x = y) ∧ keptK r r' := by
      cases x with
      | dead => exact ⟨.inl rfl, hk⟩
      | cells m cs sp => exact ⟨.inr hk.1, hk.2⟩
      | recs m n z f sp => exact ⟨.inr hk.1, hk.2⟩
      | map es => exact ⟨.inr hk.1, hk.2⟩
    obtain ⟨h1, h2⟩ := keptK_spec hk'.2
    refine ⟨by simp; exact h1, fun i B hi => ?_⟩
    cases i with
    | zero =>
      simp only [List.getElem?_cons_zero, Option.some.injEq] at hi ⊢
      subst hi
      exact hk'.1.imp id Eq.symm
    | succ i => simpa using h2 i B (by simpa using hi)
  | .dead :: _, [], hk => hk.elim
  | .cells .. :: _, [], hk => hk.elim
  | .recs .. :: _, [], hk => hk.elim
  | .map _ :: _, [], hk => hk.elim

theorem keptK_refl : ∀ h : List Blk, keptK h h
  | [] => trivial
  | .dead :: r => keptK_refl r
  | .cells .. :: r => ⟨rfl, keptK_refl r⟩
  | .recs .. :: r => ⟨rfl, keptK_refl r⟩
  | .map _ :: r => ⟨rfl, keptK_refl r⟩

theorem Sim.kept {E : Emb} {h h0 : List Blk} {w : World} (S : Sim E h w) (hk : keptK h0 h) : Sim E h0 w := by
  obtain ⟨h1, h2⟩ := keptK_spec hk
  refine ⟨by rw [h1]; exact S.n, fun i B hi => ?_, fun i j A B hij hi hj hA b o hc => ?_⟩
  · rcases h2 i B hi with rfl | h
    · trivial
    · exact S.ok i B h
  · rcases h2 i A hi with rfl | h
    · cases hA
    · rcases h2 j B hj with rfl | h'
      · intro hc'; exact hc'
      · exact S.dis i j A B hij h h' hA b o hc

theorem draw_core {T : Tbl} {O : Org} (on : O.E.n = O.h.length) {id : Nat} {ops : Array Oper} {s : St} {K : Exit → St → Prop} (h0 : List Blk) (hh : h0 = [] ∨ keptK h0 s.heap) (hsel : noSel ops.toList = true) (hQ : ∀ c s, ¬ K (.panic c) s)
    (hk : drawX T h0 ops (K .normal) ops.size (falses ops.toList) s) : DrawG T O id ops s K := by
  intro E a w R
  have RD : Rel O E s a w.drew := ⟨R.fr, R.df, R.sim.drew, R.sin.trans on R.sim.n (Since.drew E s.heap w)⟩
  have fal : (falses ops.toList).toArray = Array.replicate ops.size false := by simp [falses_eq]
  let E00 : Emb := ⟨h0.length, E.f⟩
  have hn0 : E00.n ≤ E.n := by
    rcases hh with rfl | hh
    · exact Nat.zero_le _
    · rw [R.sim.n]; exact Nat.le_of_eq (keptK_spec hh).1
  have hS : Sim E00 h0 w.drew := by
    rcases hh with rfl | hh
    · exact ⟨rfl, fun i B hi => by simp at hi, fun i j A B _ hi => by simp at hi⟩
    · have h1 := R.sim.drew.kept hh
      have : E00 = E := by
        have := R.sim.n
        have := (keptK_spec hh).1
        cases E
        simp only [E00] at *
        simp [*]
      rw [this]
      exact h1
  refine wp_region_held (S := Sim E00 h0) T.mixed ?_
  rw [← fal]
  refine drawX_snd (E00 := E00) (h0 := h0) (E0 := E) (hs := s.heap) (w0 := w.drew) (D0 := O.D) R.sim.n hsel (fun c a w h => ?_) (fun i _ => rfl) hn0 (k := K .normal) (fun E' s' a' w' h1 h2 => ?_) ops.size _ (by simp [falses_eq])
    ⟨R.fr, R.df, R.sim.drew, Since.refl _ _ _⟩ hS hk
  · obtain ⟨E, s, h1, _⟩ := h
    exact hQ c s h1
  · exact ⟨E', s', h1, h2.fr, h2.df, h2.sim, RD.sin.trans on R.sim.n h2.sin⟩

/-- **A region that draws its order: loads may be taken first, for no block that was there is written.** -/
theorem draw_held {T : Tbl} {O : Org} (on : O.E.n = O.h.length) {id : Nat} {ops : Array Oper} {s : St} {K : Exit → St → Prop} (hsel : noSel ops.toList = true) (hQ : ∀ c s, ¬ K (.panic c) s)
    (hk : drawX T s.heap ops (K .normal) ops.size (falses ops.toList) s) : DrawG T O id ops s K := draw_core on s.heap (.inr (keptK_refl _)) hsel hQ hk

/-- Some blocks are let go: those with these numbers. -/
def killK (l : List Nat) : List Blk → (List Blk → Prop) → Prop :=
  List.rec (motive := fun _ => List Blk → (List Blk → Prop) → Prop) (fun h k => k h) (fun i _ ih h k => updBK h i .dead fun h => ih h k) l

theorem keptK_upd : ∀ {h0 h : List Blk} (i : Nat), keptK h0 h → keptK (updB h0 i .dead) h
  | [], [], _, hk => hk
  | [], _ :: _, _, hk => hk.elim
  | .dead :: _, [], _, hk => hk.elim
  | .cells .. :: _, [], _, hk => hk.elim
  | .recs .. :: _, [], _, hk => hk.elim
  | .map _ :: _, [], _, hk => hk.elim
  | x :: r, y :: r', i, hk => by
    have hk' : (x = .dead ∨ x = y) ∧ keptK r r' := by
      cases x with
      | dead => exact ⟨.inl rfl, hk⟩
      | cells m cs sp => exact ⟨.inr hk.1, hk.2⟩
      | recs m n z f sp => exact ⟨.inr hk.1, hk.2⟩
      | map es => exact ⟨.inr hk.1, hk.2⟩
    cases i with
    | zero => exact hk'.2
    | succ i =>
      have := keptK_upd i hk'.2
      rcases hk'.1 with rfl | rfl
      · exact this
      · cases x with
        | dead => exact this
        | cells m cs sp => exact ⟨rfl, this⟩
        | recs m n z f sp => exact ⟨rfl, this⟩
        | map es => exact ⟨rfl, this⟩

theorem killK_spec : ∀ {l : List Nat} {h1 h : List Blk} {k : List Blk → Prop}, keptK h1 h → killK l h1 k → ∃ h0, keptK h0 h ∧ k h0
  | [], h1, h, k, h2, hk => ⟨h1, h2, hk⟩
  | i :: r, h1, h, k, h2, hk => by
    have hk : updBK h1 i .dead (fun h => killK r h k) := hk
    rw [updBK_eq] at hk
    exact killK_spec (keptK_upd i h2) hk

/-- **A region that draws its order: loads may be taken first, out of blocks that are not written; the blocks of these numbers may be written.** -/
theorem draw_but (l : List Nat) {T : Tbl} {O : Org} (on : O.E.n = O.h.length) {id : Nat} {ops : Array Oper} {s : St} {K : Exit → St → Prop} (hsel : noSel ops.toList = true) (hQ : ∀ c s, ¬ K (.panic c) s)
    (hk : killK l s.heap fun h0 => drawX T h0 ops (K .normal) ops.size (falses ops.toList) s) : DrawG T O id ops s K := by
  obtain ⟨h0, h1, h2⟩ := killK_spec (keptK_refl s.heap) hk
  exact draw_core on h0 (.inr h1) hsel hQ h2

/-- **A region that draws its order: what looks at no memory is taken first.** -/
theorem draw_free {T : Tbl} {O : Org} (on : O.E.n = O.h.length) {id : Nat} {ops : Array Oper} {s : St} {K : Exit → St → Prop} (hsel : noSel ops.toList = true) (hQ : ∀ c s, ¬ K (.panic c) s)
    (hk : drawX T [] ops (K .normal) ops.size (falses ops.toList) s) : DrawG T O id ops s K := draw_core on [] (.inl rfl) hsel hQ hk

end Go.Anv

/- The engine, part 11: a call whose arguments point into memory: what is shown of a small heap holds within a larger one. Plain theorems; their condition: no new block that may not be written. -/
namespace Go.Anv
open Go

/-! ### other numbers for the blocks -/

def lk : List Nat → Nat → Nat → Nat
  | [], N, i => N + i
  | x :: _, _, 0 => x
  | _ :: r, N, i + 1 => lk r N i

mutual
def renV (ρ : Nat → Nat) : SV → SV
  | .ptr b o => .ptr (ρ b) o
  | .pix b o i => .pix (ρ b) o i
  | .rp b o i z => .rp (ρ b) o i z
  | .slice b o n c => .slice (ρ b) o n c
  | .gs b o n c => .gs (ρ b) o n c
  | .map b => .map (ρ b)
  | .func f a c => .func f (renL ρ a) (renL ρ c)
  | .iface t a cs => .iface t a (renL ρ cs)
  | .junk => .junk
  | .int k n => .int k n
  | .bool b => .bool b
  | .str s => .str s
  | .nilptr => .nilptr
  | .nilslice => .nilslice
  | .nilmap => .nilmap
  | .nilfunc => .nilfunc
  | .niliface => .niliface
def renL (ρ : Nat → Nat) : List SV → List SV
  | [] => []
  | v :: r => renV ρ v :: renL ρ r
end

def renS (ρ : Nat → Nat) : List Seg → List Seg
  | [] => []
  | .one v :: r => .one (renV ρ v) :: renS ρ r
  | .ints k n f :: r => .ints k n f :: renS ρ r

mutual
def renE (ρ : Nat → Nat) : EV → EV
  | .s v => .s (renV ρ v)
  | .agg cs => .agg (renS ρ cs)
  | .tuple vs => .tuple (renT ρ vs)
  | .gd g v => .gd g (renE ρ v)
  | .junk => .junk
def renT (ρ : Nat → Nat) : List EV → List EV
  | [] => []
  | v :: r => renE ρ v :: renT ρ r
end

def renM (ρ : Nat → Nat) : List (SV × EV) → List (SV × EV)
  | [] => []
  | (k, cs) :: r => (renV ρ k, renE ρ cs) :: renM ρ r

def renB (ρ : Nat → Nat) : Blk → Blk
  | .cells m cs sp => .cells m (renS ρ cs) sp
  | .recs m n z f sp => .recs m n z (fun i => renL ρ (f i)) sp
  | .map es => .map (renM ρ es)
  | .dead => .dead

section ren
variable {E E' : Emb} {ρ : Nat → Nat} (hf : ∀ b, ρ b < E'.n → b < E.n) (hb : ∀ b, b < E.n → ρ b < E'.n ∧ E.f b = E'.f (ρ b))
include hf hb

omit hf in
theorem at_ren {b : Nat} (h : b < E.n) (o : Nat) : E.at b o = E'.at (ρ b) o := by
  unfold Emb.at
  rw [(hb b h).2]

mutual
theorem denV_ren : ∀ (e : SV) (v : Value), denV E' (renV ρ e) v ↔ denV E e v
  | .ptr b o, v => by
    simp only [renV, denV]
    exact ⟨fun ⟨h, k⟩ => ⟨hf b h, by rw [at_ren hb (hf b h)]; exact k⟩, fun ⟨h, k⟩ => ⟨(hb b h).1, by rw [← at_ren hb h]; exact k⟩⟩
  | .pix b o i, v => by
    simp only [renV, denV]
    exact ⟨fun ⟨h, k⟩ => ⟨hf b h, by rw [at_ren hb (hf b h)]; exact k⟩, fun ⟨h, k⟩ => ⟨(hb b h).1, by rw [← at_ren hb h]; exact k⟩⟩
  | .rp b o i z, v => by
    simp only [renV, denV]
    exact ⟨fun ⟨h, k⟩ => ⟨hf b h, by rw [at_ren hb (hf b h)]; exact k⟩, fun ⟨h, k⟩ => ⟨(hb b h).1, by rw [← at_ren hb h]; exact k⟩⟩
  | .slice b o n c, v => by
    simp only [renV, denV]
    exact ⟨fun ⟨⟨h, g⟩, k⟩ => ⟨⟨hf b h, by rw [(hb b (hf b h)).2]; exact g⟩, by rw [at_ren hb (hf b h)]; exact k⟩, fun ⟨⟨h, g⟩, k⟩ => ⟨⟨(hb b h).1, by rw [← (hb b h).2]; exact g⟩, by rw [← at_ren hb h]; exact k⟩⟩
  | .gs b o n c, v => by
    simp only [renV, denV]
    exact ⟨fun ⟨h, g, k⟩ => ⟨hf b h, by rw [(hb b (hf b h)).2]; exact g, by rw [at_ren hb (hf b h), (hb b (hf b h)).2]; exact k⟩, fun ⟨h, g, k⟩ => ⟨(hb b h).1, by rw [← (hb b h).2]; exact g, by rw [← at_ren hb h, ← (hb b h).2]; exact k⟩⟩
  | .map b, v => by
    simp only [renV, denV]
    exact ⟨fun ⟨h, k⟩ => ⟨hf b h, by rw [(hb b (hf b h)).2]; exact k⟩, fun ⟨h, k⟩ => ⟨(hb b h).1, by rw [← (hb b h).2]; exact k⟩⟩
  | .func f a c, v => by
    simp only [renV, denV]
    constructor
    · rintro ⟨f', c', rfl, h1, h2⟩
      exact ⟨f', c', rfl, (denL_ren a _).1 h1, (denL_ren c _).1 h2⟩
    · rintro ⟨f', c', rfl, h1, h2⟩
      exact ⟨f', c', rfl, (denL_ren a _).2 h1, (denL_ren c _).2 h2⟩
  | .iface t true cs, v => by
    simp only [renV, denV]
    constructor
    · rintro ⟨l, rfl, h1⟩; exact ⟨l, rfl, (denL_ren cs _).1 h1⟩
    · rintro ⟨l, rfl, h1⟩; exact ⟨l, rfl, (denL_ren cs _).2 h1⟩
  | .iface t false cs, v => by
    simp only [renV, denV]
    constructor
    · rintro ⟨x, rfl, h1⟩; exact ⟨x, rfl, (denL_ren cs _).1 h1⟩
    · rintro ⟨x, rfl, h1⟩; exact ⟨x, rfl, (denL_ren cs _).2 h1⟩
  | .junk, _ => Iff.rfl
  | .int .., _ => Iff.rfl
  | .bool _, _ => Iff.rfl
  | .str _, _ => Iff.rfl
  | .nilptr, _ => Iff.rfl
  | .nilslice, _ => Iff.rfl
  | .nilmap, _ => Iff.rfl
  | .nilfunc, _ => Iff.rfl
  | .niliface, _ => Iff.rfl
theorem denL_ren : ∀ (l : List SV) (vs : List Value), denL E' (renL ρ l) vs ↔ denL E l vs
  | [], _ => by
    have _ := hf
    have _ := hb
    exact Iff.rfl
  | e :: r, vs => by
    simp only [renL, denL]
    constructor
    · rintro ⟨v, l', rfl, h1, h2⟩; exact ⟨v, l', rfl, (denV_ren e v).1 h1, (denL_ren r l').1 h2⟩
    · rintro ⟨v, l', rfl, h1, h2⟩; exact ⟨v, l', rfl, (denV_ren e v).2 h1, (denL_ren r l').2 h2⟩
end

theorem denS_ren : ∀ (cs : List Seg) (l : List Value), denS E' (renS ρ cs) l ↔ denS E cs l
  | [], _ => Iff.rfl
  | .one e :: r, vs => by
    simp only [renS, denS]
    constructor
    · rintro ⟨v, l', rfl, h1, h2⟩; exact ⟨v, l', rfl, (denV_ren hf hb e v).1 h1, (denS_ren r l').1 h2⟩
    · rintro ⟨v, l', rfl, h1, h2⟩; exact ⟨v, l', rfl, (denV_ren hf hb e v).2 h1, (denS_ren r l').2 h2⟩
  | .ints k n f :: r, vs => by
    simp only [renS, denS]
    constructor
    · rintro ⟨l', rfl, h2⟩; exact ⟨l', rfl, (denS_ren r l').1 h2⟩
    · rintro ⟨l', rfl, h2⟩; exact ⟨l', rfl, (denS_ren r l').2 h2⟩

mutual
theorem denE_ren : ∀ (e : EV) (v : Value), denE E' (renE ρ e) v ↔ denE E e v
  | .s x, v => by simp only [renE, denE]; exact denV_ren hf hb x v
  | .agg cs, v => by
    simp only [renE, denE]
    constructor
    · rintro ⟨l, rfl, h⟩; exact ⟨l, rfl, (denS_ren hf hb cs _).1 h⟩
    · rintro ⟨l, rfl, h⟩; exact ⟨l, rfl, (denS_ren hf hb cs _).2 h⟩
  | .tuple vs, v => by
    simp only [renE, denE]
    constructor
    · rintro ⟨l, rfl, h⟩; exact ⟨l, rfl, (denT_ren vs _).1 h⟩
    · rintro ⟨l, rfl, h⟩; exact ⟨l, rfl, (denT_ren vs _).2 h⟩
  | .gd g x, v => by
    simp only [renE, denE]
    exact ⟨fun ⟨h1, h2⟩ => ⟨fun hg => (denE_ren x v).1 (h1 hg), h2⟩, fun ⟨h1, h2⟩ => ⟨fun hg => (denE_ren x v).2 (h1 hg), h2⟩⟩
  | .junk, _ => by simp only [renE, denE]
theorem denT_ren : ∀ (l : List EV) (vs : List Value), denT E' (renT ρ l) vs ↔ denT E l vs
  | [], _ => by
    have _ := hf
    have _ := hb
    simp only [renT, denT]
  | e :: r, vs => by
    simp only [renT, denT]
    constructor
    · rintro ⟨v, l', rfl, h1, h2⟩; exact ⟨v, l', rfl, (denE_ren e v).1 h1, (denT_ren r l').1 h2⟩
    · rintro ⟨v, l', rfl, h1, h2⟩; exact ⟨v, l', rfl, (denE_ren e v).2 h1, (denT_ren r l').2 h2⟩
end

theorem denM_ren : ∀ (es : List (SV × EV)) (l : List MapEntry), denM E' (renM ρ es) l ↔ denM E es l
  | [], _ => Iff.rfl
  | (k, cs) :: r, vs => by
    simp only [renM, denM]
    constructor
    · rintro ⟨e, l', rfl, h1, h2, h3⟩; exact ⟨e, l', rfl, (denV_ren hf hb k _).1 h1, (denE_ren hf hb cs _).1 h2, (denM_ren r l').1 h3⟩
    · rintro ⟨e, l', rfl, h1, h2, h3⟩; exact ⟨e, l', rfl, (denV_ren hf hb k _).2 h1, (denE_ren hf hb cs _).2 h2, (denM_ren r l').2 h3⟩

omit hf hb in
theorem sizeS_ren : ∀ cs : List Seg, sizeS (renS ρ cs) = sizeS cs
  | [] => rfl
  | .one _ :: r => by simp only [renS, sizeS, sizeS_ren r]
  | .ints .. :: r => by simp only [renS, sizeS, sizeS_ren r]

omit hf hb in
theorem renS_append : ∀ a b : List Seg, renS ρ (a ++ b) = renS ρ a ++ renS ρ b
  | [], _ => rfl
  | .one _ :: r, b => by simp only [List.cons_append, renS, renS_append r b]
  | .ints .. :: r, b => by simp only [List.cons_append, renS, renS_append r b]

omit hf hb in
theorem renS_ones : ∀ l : List SV, renS ρ (l.map .one) = (renL ρ l).map .one
  | [] => rfl
  | e :: r => by simp only [List.map_cons, renS, renL, renS_ones r]

omit hf hb in
theorem renS_recS (f : Nat → List SV) : ∀ n, renS ρ (recS n f) = recS n (fun i => renL ρ (f i))
  | 0 => rfl
  | n + 1 => by rw [recS, recS, renS_append, renS_recS f n, renS_ones]

omit hf hb in
theorem length_renL : ∀ l : List SV, (renL ρ l).length = l.length
  | [] => rfl
  | _ :: r => by simp only [renL, List.length_cons, length_renL r]

omit hf hb in
theorem cov_ren (p : Loc) (B : Blk) (b o : Nat) : cov p (renB ρ B) b o ↔ cov p B b o := by
  cases B <;> simp only [renB, cov, sizeS_ren, ← renS_recS]

omit hf hb in
theorem mut_ren (B : Blk) : (renB ρ B).mut = B.mut := by cases B <;> rfl

theorem okBlk_ren {w : World} {p : Loc} (B : Blk) : okBlk E' w p (renB ρ B) ↔ okBlk E w p B := by
  cases B with
  | cells m cs sp =>
    simp only [renB, okBlk, okCells, sizeS_ren]
    constructor
    · rintro ⟨h1, ⟨l, h2, h3⟩, h4⟩; exact ⟨h1, ⟨l, (denS_ren hf hb cs l).1 h2, h3⟩, h4⟩
    · rintro ⟨h1, ⟨l, h2, h3⟩, h4⟩; exact ⟨h1, ⟨l, (denS_ren hf hb cs l).2 h2, h3⟩, h4⟩
  | recs m n z f sp =>
    simp only [renB, okBlk, okCells, length_renL, ← renS_recS, sizeS_ren]
    constructor
    · rintro ⟨h0, h1, ⟨l, h2, h3⟩, h4⟩; exact ⟨h0, h1, ⟨l, (denS_ren hf hb _ l).1 h2, h3⟩, h4⟩
    · rintro ⟨h0, h1, ⟨l, h2, h3⟩, h4⟩; exact ⟨h0, h1, ⟨l, (denS_ren hf hb _ l).2 h2, h3⟩, h4⟩
  | map es =>
    simp only [renB, okBlk]
    constructor
    · rintro ⟨l, c, h1, h2⟩; exact ⟨l, c, h1, (denM_ren hf hb es _).1 h2⟩
    · rintro ⟨l, c, h1, h2⟩; exact ⟨l, c, h1, (denM_ren hf hb es _).2 h2⟩
  | dead => exact Iff.rfl

end ren

/-! ### the larger heap behind a call -/

/-- Blocks that may not be written are as they were; none is new. -/
def roOk : List Blk → List Blk → Prop
  | B :: r, B' :: r' => (B'.mut = true ∨ B' = .dead ∨ B' = B) ∧ roOk r r'
  | _, [] => True
  | [], B' :: r' => (B'.mut = true ∨ B' = .dead) ∧ roOk [] r'

theorem roOk_get : ∀ {h h' : List Blk}, roOk h h' → ∀ (i : Nat) (B : Blk), h'[i]? = some B → B.mut = true ∨ B = .dead ∨ h[i]? = some B
  | B :: r, B' :: r', hk, 0, C, hi => by
    simp only [List.getElem?_cons_zero, Option.some.injEq] at hi
    subst hi
    rcases hk.1 with h | h | h
    · exact .inl h
    · exact .inr (.inl h)
    · exact .inr (.inr (by simp [h]))
  | B :: r, B' :: r', hk, i + 1, C, hi => by
    simpa using roOk_get hk.2 i C (by simpa using hi)
  | [], [], _, i, C, hi => by simp at hi
  | _ :: _, [], _, i, C, hi => by simp at hi
  | [], B' :: r', hk, 0, C, hi => by
    simp only [List.getElem?_cons_zero, Option.some.injEq] at hi
    subst hi
    rcases hk.1 with h | h
    · exact .inl h
    · exact .inr (.inl h)
  | [], B' :: r', hk, i + 1, C, hi => by
    have := roOk_get hk.2 i C (by simpa using hi)
    simpa using this

/-- The callee's blocks put back. -/
def mergeB : List Blk → List Nat → List Blk → List Blk
  | h, [], h' => h ++ h'
  | h, k :: κ, B :: h' => mergeB (updB h k B) κ h'
  | h, _ :: _, [] => h

def renH (ρ : Nat → Nat) : List Blk → List Blk
  | [] => []
  | B :: r => renB ρ B :: renH ρ r

theorem renH_get (ρ : Nat → Nat) : ∀ (h : List Blk) (i : Nat), (renH ρ h)[i]? = (h[i]?).map (renB ρ)
  | [], i => by simp [renH]
  | B :: r, 0 => by simp [renH]
  | B :: r, i + 1 => by simp [renH, renH_get ρ r i]

theorem length_renH (ρ : Nat → Nat) : ∀ h : List Blk, (renH ρ h).length = h.length
  | [] => rfl
  | _ :: r => by simp [renH, length_renH ρ r]

theorem look_ge : ∀ (κ : List Nat) (N i : Nat), κ.length ≤ i → lk κ N i = N + (i - κ.length)
  | [], N, i, _ => by simp [lk]
  | _ :: r, N, 0, h => by simp at h
  | _ :: r, N, i + 1, h => by simp [lk, look_ge r N i (by simpa using h)]

theorem look_lt : ∀ (κ : List Nat) (N i : Nat) (h : i < κ.length), lk κ N i = κ[i]
  | [], N, i, h => by simp at h
  | _ :: r, N, 0, h => by simp [lk]
  | _ :: r, N, i + 1, h => by simp [lk, look_lt r N i (by simpa using h)]

theorem mergeB_length : ∀ (h : List Blk) (κ : List Nat) (h' : List Blk), κ.length ≤ h'.length → (mergeB h κ h').length = h.length + (h'.length - κ.length)
  | h, [], h', _ => by simp [mergeB]
  | h, k :: κ, B :: h', hl => by
    have := mergeB_length (updB h k B) κ h' (by simpa using hl)
    rw [updB_eq, List.length_set] at this
    simp only [mergeB, updB_eq, this, List.length_cons]
    omega
  | h, _ :: _, [], hl => by simp at hl

/-- What stands at a number of the larger heap. -/
theorem mergeB_get : ∀ (h : List Blk) (κ : List Nat) (h' : List Blk), κ.Nodup → (∀ k ∈ κ, k < h.length) → κ.length ≤ h'.length → ∀ (j : Nat) (B : Blk), (mergeB h κ h')[j]? = some B →
    (j < h.length ∧ j ∉ κ ∧ h[j]? = some B) ∨ ∃ i, lk κ h.length i = j ∧ h'[i]? = some B
  | h, [], h', _, _, _, j, B, hj => by
    simp only [mergeB] at hj
    rcases Nat.lt_or_ge j h.length with h1 | h1
    · rw [List.getElem?_append_left h1] at hj
      exact .inl ⟨h1, by simp, hj⟩
    · rw [List.getElem?_append_right h1] at hj
      exact .inr ⟨j - h.length, by simp [lk]; omega, hj⟩
  | h, k :: κ, B' :: h', hnd, hlt, hl, j, B, hj => by
    simp only [mergeB, updB_eq] at hj
    rw [List.nodup_cons] at hnd
    have ih := mergeB_get (h.set k B') κ h' hnd.2 (fun x hx => by rw [List.length_set]; exact hlt x (List.mem_cons_of_mem _ hx)) (by simpa using hl) j B hj
    rw [List.length_set] at ih
    rcases ih with ⟨h1, h2, h3⟩ | ⟨i, h1, h2⟩
    · by_cases hjk : j = k
      · subst hjk
        rw [List.getElem?_set_self h1] at h3
        exact .inr ⟨0, by simp [lk], by simpa using h3⟩
      · rw [List.getElem?_set_ne (Ne.symm hjk)] at h3
        exact .inl ⟨h1, by simp [hjk, h2], h3⟩
    · exact .inr ⟨i + 1, by simpa [lk] using h1, by simpa using h2⟩
  | h, _ :: _, [], _, _, hl, _, _, _ => by simp at hl


/-- The callee's blocks, where they lie in the larger heap. -/
def subH (h : List Blk) : List Nat → List Blk → Prop
  | [], [] => True
  | k :: κ, B :: r => nthB h k = some B ∧ subH h κ r
  | _, _ => False

theorem subH_get {h : List Blk} : ∀ {κ : List Nat} {r : List Blk}, subH h κ r → κ.length = r.length ∧ ∀ (i : Nat) (B : Blk), r[i]? = some B → ∃ k, κ[i]? = some k ∧ h[k]? = some B
  | [], [], _ => ⟨rfl, fun i B hi => by simp at hi⟩
  | k :: κ, B :: r, hk => by
    obtain ⟨h1, h2⟩ := subH_get hk.2
    refine ⟨by simp [h1], fun i C hi => ?_⟩
    cases i with
    | zero =>
      simp only [List.getElem?_cons_zero, Option.some.injEq] at hi
      subst hi
      exact ⟨k, by simp, nthB_get hk.1⟩
    | succ i => simpa using h2 i C (by simpa using hi)
  | [], _ :: _, hk => hk.elim
  | _ :: _, [], hk => hk.elim

theorem lt_of_get {h : List Blk} {i : Nat} {B : Blk} (hi : h[i]? = some B) : i < h.length := by
  rcases Nat.lt_or_ge i h.length with h' | h'
  · exact h'
  · rw [List.getElem?_eq_none h'] at hi; cases hi

/-- **A call within a larger heap.** -/
theorem frame_core {args : List EV} {hc : List Blk} {Q : EV → List Blk → Prop} (κ : List Nat) {h : List Blk} (hnd : κ.Nodup) (hro : ∀ v h', Q v h' → roOk hc h')
    (hh : subH h κ (renH (lk κ h.length) hc)) {E : Emb} {w : World} {vs : List Value} (S : Sim E h w) (ha : denT E (renT (lk κ h.length) args) vs) :
    ∃ Ec, Sim Ec hc w ∧ denT Ec args vs ∧ ∀ e w', Post Ec hc w Q e w' → Post E h w (fun v h'' => ∃ v' h', Q v' h' ∧ v = renE (lk κ h.length) v' ∧ h'' = mergeB h κ (renH (lk κ h.length) h')) e w' := by
  obtain ⟨hl, hget⟩ := subH_get hh
  rw [length_renH] at hl
  let ρ := lk κ h.length
  let Ec : Emb := ⟨hc.length, fun i => E.f (ρ i)⟩
  have hκ : ∀ i, i < hc.length → ρ i ∈ κ ∧ ρ i < h.length := fun i hi => by
    have hi' : i < κ.length := by omega
    have : i < (renH ρ hc).length := by rw [length_renH]; exact hi
    obtain ⟨k, h1, h2⟩ := hget i _ (List.getElem?_eq_getElem this)
    have h3 : ρ i = k := by
      show lk κ h.length i = k
      rw [look_lt κ _ i hi']
      rw [List.getElem?_eq_getElem hi'] at h1
      exact Option.some.inj h1
    rw [h3]
    exact ⟨List.mem_of_getElem? h1, lt_of_get h2⟩
  have hblk : ∀ (i : Nat) (B : Blk), hc[i]? = some B → h[ρ i]? = some (renB ρ B) := fun i B hi => by
    obtain ⟨k, h1, h2⟩ := hget i (renB ρ B) (by rw [renH_get, hi]; rfl)
    have hi' : i < κ.length := by have := lt_of_get hi; omega
    have h3 : ρ i = k := by
      show lk κ h.length i = k
      rw [look_lt κ _ i hi']
      rw [List.getElem?_eq_getElem hi'] at h1
      exact Option.some.inj h1
    rw [h3]
    exact h2
  have hinj : ∀ i j, ρ i = ρ j → i = j := fun i j hij => by
    have hij' : lk κ h.length i = lk κ h.length j := hij
    rcases Nat.lt_or_ge i κ.length with h1 | h1 <;> rcases Nat.lt_or_ge j κ.length with h2 | h2
    · rw [look_lt κ _ i h1, look_lt κ _ j h2] at hij'
      have hp := List.pairwise_iff_getElem.1 hnd
      rcases Nat.lt_trichotomy i j with h3 | h3 | h3
      · exact absurd hij' (hp i j h1 h2 h3)
      · exact h3
      · exact absurd hij'.symm (hp j i h2 h1 h3)
    · have := (hκ i (by omega)).2
      rw [hij] at this
      have h3 : ρ j = h.length + (j - κ.length) := look_ge κ _ j h2
      omega
    · have := (hκ j (by omega)).2
      rw [← hij] at this
      have h3 : ρ i = h.length + (i - κ.length) := look_ge κ _ i h1
      omega
    · rw [look_ge κ _ i h1, look_ge κ _ j h2] at hij'
      omega
  have hfwd : ∀ b, ρ b < E.n → b < Ec.n := fun b hb => by
    rcases Nat.lt_or_ge b κ.length with h1 | h1
    · show b < hc.length; omega
    · have h3 : ρ b = h.length + (b - κ.length) := look_ge κ _ b h1
      have := S.n
      omega
  have hbwd : ∀ b, b < Ec.n → ρ b < E.n ∧ Ec.f b = E.f (ρ b) := fun b hb => ⟨by rw [S.n]; exact (hκ b hb).2, rfl⟩
  have Sc : Sim Ec hc w := by
    refine ⟨rfl, fun i B hi => ?_, fun i j A B hij hi hj hA b o hcv hcv' => ?_⟩
    · exact (okBlk_ren hfwd hbwd B).1 (S.ok _ _ (hblk i B hi))
    · exact S.dis (ρ i) (ρ j) _ _ (fun e => hij (hinj i j e)) (hblk i A hi) (hblk j B hj) (by rw [mut_ren]; exact hA) b o ((cov_ren _ A b o).2 hcv) ((cov_ren _ B b o).2 hcv')
  refine ⟨Ec, Sc, (denT_ren hfwd hbwd args _).1 ha, ?_⟩
  rintro e w' ⟨v, x, h', E', rfl, hd, S', N', hq⟩
  have hroq := hro _ _ hq
  have hlen : hc.length ≤ h'.length := N'.len
  let E1 : Emb := ⟨h.length + (h'.length - hc.length), fun j => if j < h.length then E.f j else E'.f (hc.length + (j - h.length))⟩
  have hfwd1 : ∀ b, ρ b < E1.n → b < E'.n := fun b hb => by
    rw [S'.n]
    rcases Nat.lt_or_ge b κ.length with h1 | h1
    · omega
    · have h3 : ρ b = h.length + (b - κ.length) := look_ge κ _ b h1
      have : ρ b < h.length + (h'.length - hc.length) := hb
      omega
  have hbwd1 : ∀ b, b < E'.n → ρ b < E1.n ∧ E'.f b = E1.f (ρ b) := fun b hb => by
    rw [S'.n] at hb
    rcases Nat.lt_or_ge b κ.length with h1 | h1
    · have h2 := (hκ b (by omega)).2
      refine ⟨Nat.lt_of_lt_of_le h2 (Nat.le_add_right _ _), ?_⟩
      have h3 : E'.f b = Ec.f b := N'.same b (by show b < hc.length; omega)
      have h4 : E1.f (ρ b) = E.f (ρ b) := if_pos h2
      rw [h3, h4]
    · have h3 : ρ b = h.length + (b - κ.length) := look_ge κ _ b h1
      refine ⟨by rw [h3]; show _ < h.length + (h'.length - hc.length); omega, ?_⟩
      have h4 : E1.f (ρ b) = E'.f (hc.length + (ρ b - h.length)) := if_neg (by omega)
      rw [h4, h3]
      congr 1
      omega
  have leE : E.le E1 := ⟨by rw [S.n]; exact Nat.le_add_right _ _, fun i hi => if_pos (by rw [← S.n]; exact hi)⟩
  have hml : ∀ b o, mutAt Ec hc b o → ∃ i B, i ∈ κ ∧ h[i]? = some B ∧ B.mut = true ∧ cov (E.f i) B b o := fun b o ⟨i, B, h1, h2, h3⟩ =>
    ⟨ρ i, renB ρ B, (hκ i (lt_of_get h1)).1, hblk i B h1, by rw [mut_ren]; exact h2, (cov_ren _ B b o).2 h3⟩
  have hm2 : ∀ b o, mutAt Ec hc b o → mutAt E h b o := fun b o hm => by
    obtain ⟨i, B, _, h1, h2, h3⟩ := hml b o hm
    exact ⟨i, B, h1, h2, h3⟩
  -- what stands at a number
  have hcase : ∀ (j : Nat) (B : Blk), (mergeB h κ (renH ρ h'))[j]? = some B → (j < h.length ∧ j ∉ κ ∧ h[j]? = some B ∧ E1.f j = E.f j) ∨ ∃ i B', ρ i = j ∧ h'[i]? = some B' ∧ B = renB ρ B' ∧ E1.f j = E'.f i := fun j B hj => by
    rcases mergeB_get h κ (renH ρ h') hnd (fun k hk => by
      obtain ⟨i, hi⟩ := List.getElem?_of_mem hk
      have hi1 : i < κ.length := by
        rcases Nat.lt_or_ge i κ.length with h' | h'
        · exact h'
        · rw [List.getElem?_eq_none h'] at hi; cases hi
      have := (hκ i (by omega)).2
      have h3 : ρ i = k := by
        show lk κ h.length i = k
        rw [look_lt κ _ i hi1]
        rw [List.getElem?_eq_getElem hi1] at hi
        exact Option.some.inj hi
      rwa [h3] at this) (by rw [length_renH]; omega) j B hj with ⟨h1, h2, h3⟩ | ⟨i, h1, h2⟩
    · exact .inl ⟨h1, h2, h3, if_pos h1⟩
    · rw [renH_get] at h2
      cases hq : h'[i]? with
      | none => rw [hq] at h2; cases h2
      | some B' =>
        rw [hq] at h2
        simp only [Option.map_some, Option.some.injEq] at h2
        refine .inr ⟨i, B', h1, hq, h2.symm, ?_⟩
        have h1' : ρ i = j := h1
        rw [← h1', (hbwd1 i (by rw [S'.n]; exact lt_of_get hq)).2]
  -- an old block outside the call's is as it was
  have hout : ∀ (j : Nat) (B : Blk), j ∉ κ → h[j]? = some B → ∀ b o, cov (E.f j) B b o → ¬ mutAt Ec hc b o := fun j B hjk hj b o hcv hm => by
    obtain ⟨i, A, h1, h2, h3, h4⟩ := hml b o hm
    exact S.dis i j A B (fun e => hjk (e ▸ h1)) h2 hj h3 b o h4 hcv
  have S1 : Sim E1 (mergeB h κ (renH ρ h')) w' := by
    refine ⟨?_, fun j B hj => ?_, fun i j A B hij hi hj hA b o hcv hcv' => ?_⟩
    · rw [mergeB_length h κ _ (by rw [length_renH]; omega), length_renH, hl]
    · rcases hcase j B hj with ⟨h1, h2, h3, h4⟩ | ⟨i, B', h1, h2, rfl, h4⟩
      · rw [h4]
        have hk := S.ok j B h3
        have hno := hout j B h2 h3
        have cel : ∀ (m : Bool) (cs : List Seg) (sp : Nat), okCells E w (E.f j) m cs sp → (∀ b o, b = (E.f j).1 ∧ (E.f j).2 ≤ o ∧ o < (E.f j).2 + (sizeS cs + sp) → ¬ mutAt Ec hc b o) → okCells E1 w' (E.f j) m cs sp := by
          intro m cs sp hk hno
          obtain ⟨k1, ⟨l, k2, k3⟩, k4⟩ := hk
          have hb' : ∀ x, x < sizeS cs + sp → (E.f j).1 < w.heap.size := fun x hx => by
            rcases k1 with k1 | k1
            · exact k1
            · omega
          refine ⟨?_, ⟨l, denS_mono leE cs l k2, fun x v hx => ?_⟩, fun hm x hx => ?_⟩
          · rcases k1 with k1 | k1
            · exact .inl (Nat.lt_of_lt_of_le k1 N'.size)
            · exact .inr k1
          · have hx' : x < sizeS cs := by
              rw [← denS_length k2]
              rcases Nat.lt_or_ge x l.length with h' | h'
              · exact h'
              · rw [List.getElem?_eq_none h'] at hx; cases hx
            rw [(N'.cells _ _ (hb' x (by omega)) (hno _ _ ⟨rfl, by omega, by omega⟩)).1]
            exact k3 x v hx
          · obtain ⟨q1, q2⟩ := k4 hm x hx
            rw [(N'.cells _ _ (hb' x hx) (hno _ _ ⟨rfl, by omega, by omega⟩)).1]
            exact ⟨q1, N'.rows _ (hb' x hx) q2⟩
        cases B with
        | cells m cs sp => exact cel m cs sp hk hno
        | recs m n z f sp => exact ⟨hk.1, cel m _ sp hk.2 hno⟩
        | map es =>
          obtain ⟨l, c', k1, k2⟩ := hk
          have hlt : (E.f j).1 < w.heap.size := S.cov_lt h3 (b := (E.f j).1) (o := 0) rfl
          exact ⟨l, c', by rw [N'.frame _ hlt (fun o => hno _ o rfl)]; exact k1, denM_mono leE es _ k2⟩
        | dead => trivial
      · rw [h4]
        exact (okBlk_ren hfwd1 hbwd1 B').2 (S'.ok i B' h2)
    · rcases hcase i A hi with ⟨a1, a2, a3, a4⟩ | ⟨i', A', a1, a2, rfl, a4⟩ <;> rcases hcase j B hj with ⟨b1, b2, b3, b4⟩ | ⟨j', B', b1, b2, rfl, b4⟩
      · rw [a4] at hcv
        rw [b4] at hcv'
        exact S.dis i j A B hij a3 b3 hA b o hcv hcv'
      · rw [a4] at hcv
        rw [b4, cov_ren] at hcv'
        have hlt := S.cov_lt a3 hcv
        rcases roOk_get hroq j' B' b2 with hm | rfl | hsame
        · exact hout i A a2 a3 b o hcv (N'.new b o ⟨j', B', b2, hm, hcv'⟩ hlt)
        · exact hcv'
        · have h5 : E'.f j' = Ec.f j' := N'.same j' (lt_of_get hsame)
          rw [h5] at hcv'
          exact S.dis i (ρ j') A _ (fun e => a2 (by rw [e]; exact (hκ j' (lt_of_get hsame)).1)) a3 (hblk j' B' hsame) hA b o hcv ((cov_ren _ B' b o).2 hcv')
      · rw [a4, cov_ren] at hcv
        rw [b4] at hcv'
        rw [mut_ren] at hA
        have hlt := S.cov_lt b3 hcv'
        exact hout j B b2 b3 b o hcv' (N'.new b o ⟨i', A', a2, hA, hcv⟩ hlt)
      · rw [a4, cov_ren] at hcv
        rw [b4, cov_ren] at hcv'
        rw [mut_ren] at hA
        exact S'.dis i' j' A' B' (fun e => hij (by rw [← a1, ← b1, e])) a2 b2 hA b o hcv hcv'
  have N1 : Since E h w E1 (mergeB h κ (renH ρ h')) w' := by
    refine ⟨?_, fun i hi => if_pos (by rw [← S.n]; exact hi), N'.size, fun b hb hm => N'.frame b hb (fun o ho => hm o (hm2 b o ho)), fun b o hb hm => N'.cells b o hb (fun ho => hm (hm2 b o ho)), fun b o hm hb => ?_, N'.os, N'.tape, N'.output, N'.rows⟩
    · rw [mergeB_length h κ _ (by rw [length_renH]; omega)]
      exact Nat.le_add_right _ _
    · obtain ⟨j, B, hj, hB, hcv⟩ := hm
      rcases hcase j B hj with ⟨h1, h2, h3, h4⟩ | ⟨i, B', h1, h2, rfl, h4⟩
      · rw [h4] at hcv
        exact ⟨j, B, h3, hB, hcv⟩
      · rw [h4, cov_ren] at hcv
        rw [mut_ren] at hB
        exact hm2 b o (N'.new b o ⟨i, B', h2, hB, hcv⟩ hb)
  exact ⟨v, renE ρ x, mergeB h κ (renH ρ h'), E1, rfl, (denE_ren hfwd1 hbwd1 x v).2 hd, S1, N1, x, h', hq, rfl, rfl⟩

theorem Does.frame {T : Tbl} {f : FuncId} {args : List EV} {hc : List Blk} {Q : EV → List Blk → Prop} (c : Does T f args hc Q) (κ : List Nat) {h : List Blk} (hnd : κ.Nodup) (hro : ∀ v h', Q v h' → roOk hc h')
    (hh : subH h κ (renH (lk κ h.length) hc)) : Does T f (renT (lk κ h.length) args) h (fun v h'' => ∃ v' h', Q v' h' ∧ v = renE (lk κ h.length) v' ∧ h'' = mergeB h κ (renH (lk κ h.length) h')) := by
  refine ⟨?_⟩
  rcases c.go with ⟨h1, h2⟩ | h1
  · refine .inl ⟨h1, fun E w vs S ha => ?_⟩
    obtain ⟨Ec, k1, k2, k3⟩ := frame_core κ hnd hro hh S ha
    exact (h2 Ec w vs k1 k2).mono k3
  · refine .inr fun E w vs S ha => ?_
    obtain ⟨Ec, k1, k2, k3⟩ := frame_core κ hnd hro hh S ha
    obtain ⟨u, w', h2, h3⟩ := h1 Ec w vs k1 k2
    exact ⟨u, w', h2, k3 _ _ h3⟩

/-! ### for the walker -/

def forceB (B : Blk) (k : Blk → Prop) : Prop :=
  match B with
  | .cells m cs sp => forceS cs fun cs => k (.cells m cs sp)
  | .recs m n z f sp => k (.recs m n z f sp)
  | .map es => k (.map es)
  | .dead => k .dead

def forceH (l : List Blk) : (List Blk → Prop) → Prop :=
  List.rec (motive := fun _ => (List Blk → Prop) → Prop) (fun k => k []) (fun B _ ih k => forceB B fun B => ih fun r => k (B :: r)) l

theorem forceB_eq (B : Blk) (k : Blk → Prop) : forceB B k = k B := by cases B <;> simp only [forceB, forceS_eq]
theorem forceH_eq : ∀ (h : List Blk) (k : List Blk → Prop), forceH h k = k h
  | [], _ => rfl
  | B :: r, k => by
    show (forceB B fun B => forceH r fun r => k (B :: r)) = _
    rw [forceB_eq, forceH_eq r]

/-- **A call by its contract, shown of a small heap.** -/
theorem Does.at {T : Tbl} {f : FuncId} {args : List EV} {hc : List Blk} {Q : EV → List Blk → Prop} (c : Does T f args hc Q) (κ : List Nat) {args' : List EV} {h : List Blk} {K : EV → List Blk → Prop}
    (ha : args' = renT (lk κ h.length) args) (hh : subH h κ (renH (lk κ h.length) hc)) (hnd : κ.Nodup) (hro : ∀ v h', Q v h' → roOk hc h')
    (hK : ∀ v' h', Q v' h' → forceH (mergeB h κ (renH (lk κ h.length) h')) fun h2 => forceE (renE (lk κ h.length) v') fun v => K v h2) : Does T f args' h K := by
  rw [ha]
  refine (c.frame κ hnd hro hh).mono ?_
  rintro v h'' ⟨v', h', hq, rfl, rfl⟩
  have := hK v' h' hq
  rwa [forceH_eq, forceE_eq] at this

end Go.Anv

/- The engine, part 12: states with fewer blocks and other numbers: at a loop's head, at a function's end. Plain theorems; their condition: the blocks that were there at the begin keep their numbers. -/
namespace Go.Anv
open Go

def idK : Nat → Nat → List Nat → Prop
  | _, 0, _ => True
  | k, n + 1, x :: r => x = k ∧ idK (k + 1) n r
  | _, _ + 1, [] => False

theorem idK_get : ∀ {n k : Nat} {κ : List Nat}, idK k n κ → ∀ i, i < n → κ[i]? = some (k + i)
  | 0, _, _, _, i, hi => by omega
  | n + 1, k, x :: r, h, 0, _ => by simp [h.1]
  | n + 1, k, x :: r, h, i + 1, hi => by
    have := idK_get h.2 i (by omega)
    simp only [List.getElem?_cons_succ, this, Option.some.injEq]
    omega
  | n + 1, k, [], h, _, _ => h.elim

/-- Blocks of a small world, by their numbers, stand for others. -/
def subQ (h : List Blk) : List Nat → List Blk → Prop
  | [], [] => True
  | k :: κ, B :: r => (∃ A, nthB h k = some A ∧ eqvB A B) ∧ subQ h κ r
  | _, _ => False

theorem subQ_get {h : List Blk} : ∀ {κ : List Nat} {r : List Blk}, subQ h κ r → κ.length = r.length ∧ ∀ (i : Nat) (B : Blk), r[i]? = some B → ∃ k A, κ[i]? = some k ∧ h[k]? = some A ∧ eqvB A B
  | [], [], _ => ⟨rfl, fun i B hi => by simp at hi⟩
  | k :: κ, B :: r, hk => by
    obtain ⟨h1, h2⟩ := subQ_get hk.2
    refine ⟨by simp [h1], fun i C hi => ?_⟩
    cases i with
    | zero =>
      simp only [List.getElem?_cons_zero, Option.some.injEq] at hi
      subst hi
      obtain ⟨A, h3, h4⟩ := hk.1
      exact ⟨k, A, by simp, nthB_get h3, h4⟩
    | succ i => simpa using h2 i C (by simpa using hi)
  | [], _ :: _, hk => hk.elim
  | _ :: _, [], hk => hk.elim

/-- One small world tells no more than another, with other numbers. -/
theorem Sim.renum {E : Emb} {h H : List Blk} {w : World} (S : Sim E h w) {κ : List Nat} (hnd : κ.Nodup) (hh : subQ h κ (renH (lk κ h.length) H)) :
    Sim ⟨H.length, fun i => E.f (lk κ h.length i)⟩ H w ∧ (∀ b, lk κ h.length b < E.n → b < H.length) ∧ (∀ b, b < H.length → lk κ h.length b < E.n) ∧
      (∀ b o, mutAt ⟨H.length, fun i => E.f (lk κ h.length i)⟩ H b o → mutAt E h b o) := by
  obtain ⟨hl, hget⟩ := subQ_get hh
  rw [length_renH] at hl
  have hblk : ∀ (i : Nat) (B : Blk), H[i]? = some B → ∃ A, h[lk κ h.length i]? = some A ∧ eqvB A (renB (lk κ h.length) B) := fun i B hi => by
    obtain ⟨k, A, h1, h2, h3⟩ := hget i (renB (lk κ h.length) B) (by rw [renH_get, hi]; rfl)
    have hi' : i < κ.length := by have := lt_of_get hi; omega
    have h4 : lk κ h.length i = k := by
      rw [look_lt κ _ i hi']
      rw [List.getElem?_eq_getElem hi'] at h1
      exact Option.some.inj h1
    exact ⟨A, by rw [h4]; exact h2, h3⟩
  have hκ : ∀ i, i < H.length → lk κ h.length i < h.length := fun i hi => by
    obtain ⟨A, h1, _⟩ := hblk i _ (List.getElem?_eq_getElem hi)
    exact lt_of_get h1
  have hinj : ∀ i j, lk κ h.length i = lk κ h.length j → i = j := fun i j hij => by
    rcases Nat.lt_or_ge i κ.length with h1 | h1 <;> rcases Nat.lt_or_ge j κ.length with h2 | h2
    · rw [look_lt κ _ i h1, look_lt κ _ j h2] at hij
      have hp := List.pairwise_iff_getElem.1 hnd
      rcases Nat.lt_trichotomy i j with h3 | h3 | h3
      · exact absurd hij (hp i j h1 h2 h3)
      · exact h3
      · exact absurd hij.symm (hp j i h2 h1 h3)
    · have := hκ i (by omega)
      rw [hij, look_ge κ _ j h2] at this
      omega
    · have := hκ j (by omega)
      rw [← hij, look_ge κ _ i h1] at this
      omega
    · rw [look_ge κ _ i h1, look_ge κ _ j h2] at hij
      omega
  have hfwd : ∀ b, lk κ h.length b < E.n → b < H.length := fun b hb => by
    rcases Nat.lt_or_ge b κ.length with h1 | h1
    · omega
    · rw [look_ge κ _ b h1, S.n] at hb
      omega
  have hbwd : ∀ b, b < H.length → lk κ h.length b < E.n ∧ E.f (lk κ h.length b) = E.f (lk κ h.length b) := fun b hb => ⟨by rw [S.n]; exact hκ b hb, rfl⟩
  refine ⟨⟨rfl, fun i B hi => ?_, fun i j A B hij hi hj hA b o hcv hcv' => ?_⟩, hfwd, fun b hb => (hbwd b hb).1, fun b o hm => ?_⟩
  · obtain ⟨A, h1, h2⟩ := hblk i B hi
    exact (okBlk_ren (E := ⟨H.length, fun i => E.f (lk κ h.length i)⟩) hfwd hbwd B).1 (eqvB_ok h2 (S.ok _ _ h1))
  · obtain ⟨A', h1, h2⟩ := hblk i A hi
    obtain ⟨B', h3, h4⟩ := hblk j B hj
    refine S.dis (lk κ h.length i) (lk κ h.length j) A' B' (fun e => hij (hinj i j e)) h1 h3 ?_ b o ?_ ?_
    · rw [(eqvB_cov (p := E.f (lk κ h.length i)) h2 b o).2, mut_ren]; exact hA
    · exact (eqvB_cov h2 b o).1.2 ((cov_ren _ A b o).2 hcv)
    · exact (eqvB_cov h4 b o).1.2 ((cov_ren _ B b o).2 hcv')
  · obtain ⟨i, B, hi, hB, hcv⟩ := hm
    obtain ⟨A', h1, h2⟩ := hblk i B hi
    exact ⟨_, A', h1, by rw [(eqvB_cov (p := E.f (lk κ h.length i)) h2 b o).2, mut_ren]; exact hB, (eqvB_cov h2 b o).1.2 ((cov_ren _ B b o).2 hcv)⟩

theorem Since.renum {E0 E : Emb} {h0 h H : List Blk} {w0 w : World} (n0 : E0.n = h0.length) (S : Sim E h w) (N : Since E0 h0 w0 E h w) {κ : List Nat} (hnd : κ.Nodup) (hid : idK 0 E0.n κ) (hh : subQ h κ (renH (lk κ h.length) H)) :
    Since E0 h0 w0 ⟨H.length, fun i => E.f (lk κ h.length i)⟩ H w := by
  obtain ⟨S', h1, h2, h3⟩ := S.renum hnd hh
  have hκ : ∀ i, i < E0.n → lk κ h.length i = i := fun i hi => by
    have h4 := idK_get hid i hi
    have h5 : i < κ.length := by
      rcases Nat.lt_or_ge i κ.length with h' | h'
      · exact h'
      · rw [List.getElem?_eq_none h'] at h4; cases h4
    rw [look_lt κ _ i h5]
    rw [List.getElem?_eq_getElem h5] at h4
    simpa using h4
  refine ⟨?_, fun i hi => ?_, N.size, N.frame, N.cells, fun b o hm hb => N.new b o (h3 b o hm) hb, N.os, N.tape, N.output, N.rows⟩
  · rw [← n0]
    rcases Nat.eq_zero_or_pos E0.n with h4 | h4
    · rw [h4]; exact Nat.zero_le _
    · have := h1 (E0.n - 1) (by
        rw [hκ _ (by omega)]
        have := N.len
        rw [S.n]
        omega)
      omega
  · show E.f (lk κ h.length i) = E0.f i
    rw [hκ i hi]
    exact N.same i hi

/-- One state tells no more than another, with other numbers; the first n blocks keep theirs. -/
structure leR (n : Nat) (κ : List Nat) (s t : St) : Prop where
  nd : κ.Nodup
  id : idK 0 n κ
  tmps : eqvT s.tmps (renT (lk κ s.heap.length) t.tmps)
  heap : subQ s.heap κ (renH (lk κ s.heap.length) t.heap)

theorem length_renT (ρ : Nat → Nat) : ∀ l : List EV, (renT ρ l).length = l.length
  | [] => rfl
  | _ :: r => by simp [renT, length_renT ρ r]

theorem nth_renT (ρ : Nat → Nat) : ∀ (l : List EV) (i : Nat), nth (renT ρ l) i = renE ρ (nth l i)
  | [], _ => by simp [renT, nth, renE]
  | _ :: _, 0 => by simp [renT, nth]
  | _ :: r, i + 1 => by simp only [renT, nth]; exact nth_renT ρ r i

theorem Rel.renum {O : Org} (on : O.E.n = O.h.length) {E : Emb} {s t : St} {a : Act} {w : World} (R : Rel O E s a w) {κ : List Nat} (h : leR O.E.n κ s t) : ∃ E', Rel O E' t a w := by
  obtain ⟨S', h1, h2, h3⟩ := R.sim.renum h.nd h.heap
  refine ⟨⟨t.heap.length, fun i => E.f (lk κ s.heap.length i)⟩, ⟨?_, fun i v hi => ?_⟩, R.df, S', R.sin.renum on R.sim h.nd h.id h.heap⟩
  · rw [R.fr.1, (eqvT_nth (E := E) h.tmps).1, length_renT]
  · have := (eqvT_nth (E := E) h.tmps).2 i v (R.fr.2 i v hi)
    rw [nth_renT] at this
    exact (denE_ren (E := ⟨t.heap.length, fun i => E.f (lk κ s.heap.length i)⟩) h1 (fun b hb => ⟨h2 b hb, rfl⟩) _ _).1 this

/-! ### loops -/

def roundR {A : Type} (n : Nat) (c : Code) (s : St) (C : A → List (Nat × EV)) (H : A → List Blk) (I : A → Prop) (μ : A → Nat) (x : A) (K : Exit → St → Prop) : Exit → St → Prop
  | .normal, s' => ∃ y, I y ∧ μ y < μ x ∧ ∃ κ, headK c s (C y) (H y) fun t => leR n κ s' t
  | e, s' => K e s'

/-- **A loop, by what its slots and the heap hold at each round's head; a round may leave blocks behind that are no longer looked at.** -/
theorem loop_in {T : Tbl} {O : Org} {A : Type} {c : Code} {s : St} {K : Exit → St → Prop} (on : O.E.n = O.h.length) (C : A → List (Nat × EV)) (H : A → List Blk) (I : A → Prop) (μ : A → Nat) (x0 : A) (h0 : I x0)
    (κ0 : List Nat) (hs : headK c s (C x0) (H x0) fun t => leR O.E.n κ0 s t)
    (round : ∀ x, I x → headK c s (C x) (H x) fun t => wpx T O c t (roundR O.E.n c s C H I μ x K)) : LoopG T O c s K := by
  intro E a w R
  rw [headK_eq] at hs
  obtain ⟨E, R⟩ := R.renum on hs
  refine wp_loop_ghost (fun n a w => ∃ E x, I x ∧ Rel O E ⟨laterT (C x) (forgetT (writes c) s.tmps), H x⟩ a w ∧ μ x = n) (μ x0) ⟨E, x0, h0, R, rfl⟩ ?_
  rintro n a w ⟨E, x, hI, R, rfl⟩
  have h := round x hI
  rw [headK_eq] at h
  refine Code.wp_mono ?_ (wpx_snd on c h R)
  rintro e a' w' ⟨E', s', hk, R'⟩
  cases e <;> first
    | (obtain ⟨y, h1, h2, κ, h3⟩ := hk
       rw [headK_eq] at h3
       obtain ⟨E'', R''⟩ := R'.renum on h3
       exact ⟨μ y, h2, E'', y, h1, R'', rfl⟩)
    | exact ⟨E', s', hk, R'⟩

/-- A nil slice is a growing one without elements: ahead of a loop that appends. -/
theorem loop_nil {T : Tbl} {O : Org} (on : O.E.n = O.h.length) {c : Code} {s : St} {K : Exit → St → Prop} (d : Nat) (k : IntKind) (f : Nat → Int) (hd : nth s.tmps d = .s .nilslice)
    (hk : pushBK s.heap 0 (.cells true [.ints k 0 f] 0) fun N h => updK s.tmps d (.s (.gs N 0 0 0)) fun ts => LoopG T O c ⟨ts, h⟩ K) : LoopG T O c s K := by
  intro E a w R
  rw [pushBK_eq, updK_eq, Nat.zero_add] at hk
  obtain ⟨S', N'⟩ := push_nil R.sim (cs := [.ints k 0 f]) ⟨[], rfl, rfl⟩
  refine hk _ a w ⟨⟨?_, fun i v hi => ?_⟩, R.df, S', R.sin.trans on R.sim.n N'⟩
  · rw [length_upd]; exact R.fr.1
  · have h1 := R.fr.2 i v hi
    rw [nth_upd]
    split
    · rename_i hc
      obtain ⟨rfl, _⟩ := hc
      rw [hd] at h1
      simp only [denE, denV] at h1 ⊢
      rw [← R.sim.n, Emb.push_new]
      exact ⟨by simp [Emb.push], fun _ => ⟨trivial, trivial⟩, by simpa using h1⟩
    · exact denE_mono (N'.le R.sim.n S'.n) _ _ h1

/-! ### a function's end -/

/-- What a function leaves, with fewer blocks and other numbers. -/
def Ends (n : Nat) (Q : EV → List Blk → Prop) (v : EV) (h : List Blk) : Prop :=
  ∃ V H κ, Q V H ∧ κ.Nodup ∧ idK 0 n κ ∧ eqvE v (renE (lk κ h.length) V) ∧ subQ h κ (renH (lk κ h.length) H)

/-- **A function whose body is walked over a small heap.** -/
theorem fnX_does (T : Tbl) {f : FuncId} {F : Func} (hF : T.P.funcs[f]? = some F) (hb : F.body.isNone = false) (hname : (F.name == "runtime.NumGoroutine") = false) {args : List EV} {h : List Blk} {Q : EV → List Blk → Prop}
    (hX : ∀ O : Org, O.E.n = O.h.length → O.E.n = h.length → fnX T O F args h (Ends h.length Q)) : Does T f args h Q := by
  refine ⟨.inl ⟨⟨F, hF, hb, hname⟩, fun E w vs S ha => ?_⟩⟩
  have c := fnX_call T hF (args := args) (h := h) (Q := Ends h.length Q) (fun E w S => hX _ S.n S.n) E w vs S ha
  refine c.mono ?_
  rintro e w' ⟨v, x, h', E', rfl, hd, S', N', V, H, κ, hq, hnd, hid, hv, hh⟩
  obtain ⟨S'', h1, h2, h3⟩ := S'.renum hnd hh
  refine ⟨v, V, H, _, rfl, ?_, S'', N'.renum S.n S' hnd (by rw [S.n]; exact hid) hh, hq⟩
  exact (denE_ren (E := ⟨H.length, fun i => E'.f (lk κ h'.length i)⟩) h1 (fun b hb => ⟨h2 b hb, rfl⟩) _ _).1 (eqvE_den _ _ _ hv hd)


/-- No block of a small world may be written. -/
def roAll : List Blk → Prop
  | [] => True
  | B :: r => B.mut = false ∧ roAll r

theorem roAll_get : ∀ {h : List Blk}, roAll h → ∀ (i : Nat) (B : Blk), h[i]? = some B → B.mut = false
  | B :: r, hr, 0, C, hi => by simp only [List.getElem?_cons_zero, Option.some.injEq] at hi; subst hi; exact hr.1
  | B :: r, hr, i + 1, C, hi => roAll_get hr.2 i C (by simpa using hi)
  | [], _, i, C, hi => by simp at hi

/-- **A call over memory that may not be written: what was there is as it was.** -/
theorem Does.below {T : Tbl} {f : FuncId} {args : List EV} {h : List Blk} {Q : EV → List Blk → Prop} (d : Does T f args h Q) (hf : isFn T f) {E : Emb} {w : World} {vs : Array Value} (S : Sim E h w) (ha : denT E args vs.toList) (hr : roAll h) :
    Calls T.P f vs w fun e w' => (∃ v x h' E', e = .returned v ∧ denE E' x v ∧ Q x h') ∧ RowKit.Below w.heap.size w w' := by
  rcases d.go with ⟨_, c⟩ | c
  · refine (c E w vs S ha).mono ?_
    rintro e w' ⟨v, x, h', E', h1, h2, _, N, h5⟩
    refine ⟨⟨v, x, h', E', h1, h2, h5⟩, N.os, N.tape, N.output, N.size, fun k hk => N.frame k hk (fun o hm => ?_)⟩
    obtain ⟨i, B, hi, hB, _⟩ := hm
    rw [roAll_get hr i B hi] at hB
    cases hB
  · obtain ⟨F, hF, hb, hname⟩ := hf
    obtain ⟨u, w', hr, _⟩ := c E w vs S ha
    have : (callFunc f vs).run T.P w = .ok (.enter f vs) w := by
      simp only [callFunc, Sem.run_bind, Result.andThen_ok, run_program, hF]
      simp [hb]
      intro hh
      simp [hh] at hname
    rw [this] at hr
    cases hr

end Go.Anv

/- The engine, part 13: functions that defer one call. Plain theorems; their condition: the deferred call is a function's that ends well. -/
namespace Go.Anv
open Go

/-! ### the same numbers -/

section same
variable {ρ : Nat → Nat} (hρ : ∀ i, ρ i = i)
include hρ
mutual
theorem renV_same : ∀ e : SV, renV ρ e = e
  | .ptr .. => by simp only [renV, hρ]
  | .pix .. => by simp only [renV, hρ]
  | .rp .. => by simp only [renV, hρ]
  | .slice .. => by simp only [renV, hρ]
  | .gs .. => by simp only [renV, hρ]
  | .map _ => by simp only [renV, hρ]
  | .func fn f c => by simp only [renV, renL_same f, renL_same c]
  | .iface t a cs => by simp only [renV, renL_same cs]
  | .junk => rfl
  | .int .. => rfl
  | .bool _ => rfl
  | .str _ => rfl
  | .nilptr => rfl
  | .nilslice => rfl
  | .nilmap => rfl
  | .nilfunc => rfl
  | .niliface => rfl
theorem renL_same : ∀ l : List SV, renL ρ l = l
  | [] => by
    have _ := hρ
    rfl
  | e :: r => by simp only [renL, renV_same e, renL_same r]
end

theorem renS_same : ∀ cs : List Seg, renS ρ cs = cs
  | [] => rfl
  | .one e :: r => by simp only [renS, renV_same hρ e, renS_same r]
  | .ints .. :: r => by simp only [renS, renS_same r]

mutual
theorem renE_same : ∀ e : EV, renE ρ e = e
  | .s e => by simp only [renE, renV_same hρ e]
  | .agg cs => by simp only [renE, renS_same hρ cs]
  | .tuple vs => by simp only [renE, renT_same vs]
  | .gd g e => by simp only [renE, renE_same e]
  | .junk => rfl
theorem renT_same : ∀ l : List EV, renT ρ l = l
  | [] => by
    have _ := hρ
    rfl
  | e :: r => by simp only [renT, renE_same e, renT_same r]
end

theorem renM_same : ∀ l : List (SV × EV), renM ρ l = l
  | [] => rfl
  | (k, cs) :: r => by simp only [renM, renV_same hρ k, renE_same hρ cs, renM_same r]

theorem renB_same : ∀ B : Blk, renB ρ B = B
  | .cells m cs sp => by simp only [renB, renS_same hρ cs]
  | .recs m n z f sp => by simp only [renB, renL_same hρ]
  | .map es => by simp only [renB, renM_same hρ es]
  | .dead => rfl

theorem renH_same : ∀ h : List Blk, renH ρ h = h
  | [] => rfl
  | B :: r => by simp only [renH, renB_same hρ B, renH_same r]
end same

theorem lk_range (n i : Nat) : lk (List.range n) n i = i := by
  rcases Nat.lt_or_ge i n with h | h
  · rw [look_lt _ _ i (by simpa using h)]
    simp
  · rw [look_ge _ _ i (by simpa using h)]
    simp
    omega

theorem idK_range : ∀ (n m k : Nat), n ≤ m → idK k n (List.range' k m)
  | 0, _, _, _ => trivial
  | n + 1, 0, _, h => by omega
  | n + 1, m + 1, k, h => ⟨rfl, idK_range n m (k + 1) (by omega)⟩

theorem subQ_range (h : List Blk) : ∀ (r : List Blk) (k : Nat), h.drop k = r → subQ h (List.range' k r.length) r
  | [], _, _ => trivial
  | B :: r, k, hk => by
    have h1 : h[k]? = some B := by
      have := congrArg (·[0]?) hk
      simpa using this
    refine ⟨⟨B, get_nthB h1, eqvB_refl B⟩, subQ_range h r (k + 1) ?_⟩
    have := congrArg (List.drop 1) hk
    simpa [List.drop_drop] using this

/-- A function's end, with the numbers as they are. -/
theorem Ends.same {n : Nat} {Q : EV → List Blk → Prop} {v : EV} {h : List Blk} (hq : Q v h) (hn : n ≤ h.length) : Ends n Q v h := by
  have hlk : ∀ i, lk (List.range h.length) h.length i = i := lk_range h.length
  refine ⟨v, h, List.range h.length, hq, List.nodup_range, by rw [List.range_eq_range']; exact idK_range n h.length 0 hn, ?_, ?_⟩
  · rw [renE_same hlk]; exact eqvE_refl v
  · rw [renH_same hlk, List.range_eq_range']
    exact subQ_range h h 0 rfl

/-- A function that may be called by a defer. -/
structure DoesD (T : Tbl) (f : FuncId) (args : List EV) (h : List Blk) (Q : EV → List Blk → Prop) : Prop where
  go : isFn T f ∧ ∀ E w vs u, Sim E h w → denT E args vs.toList → CallsD T.P f vs u w fun e u' w' => u' = u ∧ Post E h w Q e w'

theorem DoesD.mono {T : Tbl} {f : FuncId} {args : List EV} {h : List Blk} {Q Q' : EV → List Blk → Prop} (c : DoesD T f args h Q) (hq : ∀ v h', Q v h' → Q' v h') : DoesD T f args h Q' :=
  ⟨c.go.1, fun E w vs u S ha => (c.go.2 E w vs u S ha).mono fun _ _ _ p => ⟨p.1, p.2.mono hq⟩⟩

theorem fnX_callD (T : Tbl) {f : FuncId} {F : Func} (hF : T.P.funcs[f]? = some F) {args : List EV} {h : List Blk} {Q : EV → List Blk → Prop}
    (hX : ∀ E w, Sim E h w → fnX T ⟨E, h, w, []⟩ F args h Q) : ∀ E w vs u, Sim E h w → denT E args vs.toList → CallsD T.P f vs u w fun e u' w' => u' = u ∧ Post E h w Q e w' := by
  intro E w vs u S hargs
  have hx := hX E w S
  unfold fnX at hx
  split at hx
  · rename_i c hc
    rw [frameK_eq] at hx
    refine callsD_of_wp hF hc ?_
    have hlen : vs.size = args.length := by rw [← Array.length_toList]; exact denT_length hargs
    have R : Rel ⟨E, h, w, []⟩ E { tmps := args ++ junks (F.ntmps - args.length), heap := h } { tmps := vs ++ Array.replicate (F.ntmps - vs.size) undef, defers := [] } w := by
      refine ⟨⟨by simp [length_junks, hlen], fun i v hi => ?_⟩, rfl, S, Since.refl _ _ _⟩
      rw [nth_append_junks]
      split
      · rename_i hlt
        rw [Array.getElem?_append_left (by omega)] at hi
        exact denT_nth hargs (by simpa using hi)
      · simp only [denE]
    refine Code.wp_mono ?_ (wpx_snd (T := T) (O := ⟨E, h, w, []⟩) S.n c hx R)
    rintro e a' w' ⟨E', s', hk, R'⟩
    cases e <;> first
      | (obtain ⟨u, v, h1, h2, h3⟩ := resX_snd T R'.fr R'.sim hk
         exact ⟨R'.df, u, h1, u, v, s'.heap, E', rfl, h2, R'.sim, R'.sin, h3⟩)
      | exact hk.elim
  · exact hx.elim

/-- **A function whose body is walked over a small heap, for a defer.** -/
theorem fnX_doesD (T : Tbl) {f : FuncId} {F : Func} (hF : T.P.funcs[f]? = some F) (hb : F.body.isNone = false) (hname : (F.name == "runtime.NumGoroutine") = false) {args : List EV} {h : List Blk} {Q : EV → List Blk → Prop}
    (hX : ∀ O : Org, O.E.n = O.h.length → O.E.n = h.length → fnX T O F args h (Ends h.length Q)) : DoesD T f args h Q := by
  refine ⟨⟨F, hF, hb, hname⟩, fun E w vs u S ha => ?_⟩
  have c := fnX_callD T hF (args := args) (h := h) (Q := Ends h.length Q) (fun E w S => hX _ S.n S.n) E w vs u S ha
  refine c.mono ?_
  rintro e u' w' ⟨hu, v, x, h', E', rfl, hd, S', N', V, H, κ, hq, hnd, hid, hv, hh⟩
  obtain ⟨S'', h1, h2, h3⟩ := S'.renum hnd hh
  refine ⟨hu, v, V, H, _, rfl, ?_, S'', N'.renum S.n S' hnd (by rw [S.n]; exact hid) hh, hq⟩
  exact (denE_ren (E := ⟨H.length, fun i => E'.f (lk κ h'.length i)⟩) h1 (fun b hb => ⟨h2 b hb, rfl⟩) _ _).1 (eqvE_den _ _ _ hv hd)

/-- The operations ahead of a defer that stands last; what is deferred. -/
def lastD : List Oper → Option (List Oper × Operand × Array Operand)
  | [] => none
  | [o] => match o.guard, o.dst, o.op with
    | none, none, .defer { callee := .value f, args, .. } => some ([], f, args)
    | _, _, _ => none
  | o :: r => match lastD r with
    | some (p, f, a) => some (o :: p, f, a)
    | none => none

def normK (next : St → Prop) : Exit → St → Prop
  | .normal, s => next s
  | _, _ => False

/-- The walk as far as a defer; the code behind it. -/
def wpd (T : Tbl) (O : Org) (c : Code) : St → (St → EV → List EV → Code → Prop) → Prop :=
  Code.rec (motive := fun _ => St → (St → EV → List EV → Code → Prop) → Prop)
    (fun _ _ => False)
    (fun _ _ _ _ _ => False)
    (fun a b _ wb s k => match a with
      | .region id ops false => match lastD ops.toList with
        | some (pre, f, args) => opsX T ops pre s fun s' => k s' (evT s'.tmps f) (args.toList.map (evT s'.tmps)) b
        | none => wpx T O (.region id ops false) s (normK fun s' => wb s' k)
      | a => wpx T O a s (normK fun s' => wb s' k))
    (fun _ _ _ _ _ _ _ => False)
    (fun _ _ _ _ _ => False)
    (fun _ _ _ _ => False)
    (fun _ _ _ _ _ _ _ _ => False)
    (fun _ _ _ => False)
    (fun _ _ _ _ => False)
    (fun _ _ _ => False)
    (fun _ _ _ => False)
    (fun _ _ => False)
    (fun _ _ _ => False)
    c

theorem wpd_seq (T : Tbl) (O : Org) (a b : Code) (s : St) (k : St → EV → List EV → Code → Prop) : wpd T O (.seq a b) s k = (match a with
    | .region id ops false => match lastD ops.toList with
      | some (pre, f, args) => opsX T ops pre s fun s' => k s' (evT s'.tmps f) (args.toList.map (evT s'.tmps)) b
      | none => wpx T O (.region id ops false) s (normK fun s' => wpd T O b s' k)
    | a => wpx T O a s (normK fun s' => wpd T O b s' k)) := rfl

theorem lastD_spec : ∀ {l pre : List Oper} {f : Operand} {args : Array Operand}, lastD l = some (pre, f, args) → ∃ o tys, l = pre ++ [o] ∧ o.guard = none ∧ o.dst = none ∧ o.op = .defer { callee := .value f, args := args, argTypes := tys }
  | [], _, _, _, h => by simp [lastD] at h
  | [o], pre, f, args, h => by
    simp only [lastD] at h
    split at h
    · rename_i f' args' tys hg hd hop
      simp only [Option.some.injEq, Prod.mk.injEq] at h
      obtain ⟨rfl, rfl, rfl⟩ := h
      exact ⟨o, tys, rfl, hg, hd, hop⟩
    · cases h
  | o :: o' :: r, pre, f, args, h => by
    simp only [lastD] at h
    split at h
    · rename_i p f' a' hr
      simp only [Option.some.injEq, Prod.mk.injEq] at h
      obtain ⟨rfl, rfl, rfl⟩ := h
      obtain ⟨x, tys, h1, h2⟩ := lastD_spec (l := o' :: r) hr
      exact ⟨x, tys, by rw [h1]; rfl, h2⟩
    · cases h

theorem opsX_append {T : Tbl} {O : Org} (on : O.E.n = O.h.length) {ops : Array Oper} {Q : Exit → Act → World → Prop} : ∀ (l l2 : List Oper) {E : Emb} {s : St} {a : Act} {w : World}, Rel O E s a w → ∀ {k : St → Prop}, opsX T ops l s k →
    (∀ E' s' a' w', k s' → Rel O E' s' a' w' → wpList T.P ops Q l2 a' w') → wpList T.P ops Q (l ++ l2) a w
  | [], _, _, _, _, _, R, _, hk, hn => hn _ _ _ _ hk R
  | o :: r, l2, _, _, _, _, R, k, hk, hn => by
    have hk : opX T ops _ o (fun s' => opsX T ops r s' k) := hk
    have := opX_snd on R hk (next := wpList T.P ops Q (r ++ l2)) (Q := Q) (fun E' s' a' w' h1 h2 => opsX_append on r l2 h2 h1 hn)
    rw [List.cons_append]
    unfold wpList
    split
    · rename_i hw; rw [if_pos hw] at this; exact .inl this
    · rename_i hw; rw [if_neg hw] at this; exact this

theorem wpd_snd {T : Tbl} {O : Org} (on : O.E.n = O.h.length) {Q : Exit → Act → World → Prop} {k : St → EV → List EV → Code → Prop}
    (hk : ∀ E s a w f args fv vs b, k s f args b → denE E f fv → denT E args vs → Rel O E s a w → ∀ d, (∀ P w', (Deferred.ofValue fv vs.toArray).run P w' = .ok d w') → Code.wp T.P b Q { a with defers := d :: a.defers } w) :
    ∀ (c : Code) {E : Emb} {s : St} {a : Act} {w : World}, wpd T O c s (fun s f args b => (∃ g x y, f = .s (.func g x y)) ∧ k s f args b) → Rel O E s a w → c.wp T.P Q a w := by
  have step : ∀ (x y : Code) {E : Emb} {s : St} {a : Act} {w : World} {n : St → Prop}, wpx T O x s (normK n) → Rel O E s a w → (∀ {E s a w}, n s → Rel O E s a w → y.wp T.P Q a w) → (Code.seq x y).wp T.P Q a w := by
    intro x y E s a w n hx R hy
    refine wp_seq (Code.wp_mono ?_ (wpx_snd on x hx R))
    rintro e a' w' ⟨E', s', h1, h2⟩
    cases e <;> first
      | exact hy h1 h2
      | exact h1.elim
  intro c
  induction c with
  | seq x y _ ihy =>
    intro E s a w h R
    rw [wpd_seq] at h
    split at h
    · rename_i id ops _ _
      split at h
      · rename_i pre f args hl
        obtain ⟨o, tys, h1, hg, hd, hop⟩ := lastD_spec hl
        refine wp_seq (wp_region_list ?_)
        rw [h1]
        refine opsX_append on pre [o] R h fun E' s' a' w' hk' R' => ?_
        obtain ⟨⟨g, x, z, hf⟩, hk'⟩ := hk'
        have hfd := ev_denE R'.fr f
        have hargs := denT_map (E := E') (evT s'.tmps) a'.eval args.toList (fun x _ => ev_denE R'.fr x)
        have hfv : ∃ x' z', a'.eval f = .func g x' z' := by
          have hf' : s'.ev f = .s (.func g x z) := hf
          rw [hf'] at hfd
          simp only [denE, denV] at hfd
          obtain ⟨x', z', h3, _⟩ := hfd
          exact ⟨x', z', h3⟩
        obtain ⟨x', z', hfv⟩ := hfv
        have hrun : ∀ P w', (Deferred.ofValue (a'.eval f) (args.toList.map a'.eval).toArray).run P w' = .ok { target := .fn g z', args := x' ++ (args.toList.map a'.eval).toArray } w' := fun P w' => by
          rw [hfv]; rfl
        have hwp := hk E' s' a' w' _ _ _ _ _ hk' hfd hargs R' _ hrun
        unfold wpList
        rw [if_pos (by simp [Region.wanted, hg])]
        refine .inl ?_
        unfold Oper.wp
        have hex : (execOp a'.eval o).run T.P w' = .ok (.defer { target := .fn g z', args := x' ++ (args.toList.map a'.eval).toArray }) w' := by
          unfold execOp
          simp only [hop, resolve]
          rw [hfv, ← Array.toList_map, Array.toArray_toList]
          rfl
        rw [hex, Oper.upon_defer, hd]
        exact hwp
      · exact step _ _ h R fun h1 h2 => ihy h1 h2
    · exact step _ _ h R fun h1 h2 => ihy h1 h2
  | _ => intro E s a w h R; exact h.elim

/-- What comes behind the code: the deferred call, and what is handed back. -/
def bodyD (T : Tbl) (F : Func) (f : EV) (args : List EV) (Q : EV → List Blk → Prop) : Exit → St → Prop
  | .normal, s => match f with
    | .s (.func (.func g) [] []) => DoesD T g args s.heap fun _ h => resX T ⟨s.tmps, h⟩ F.results.toList Q
    | _ => False
  | .ret, s => match f with
    | .s (.func (.func g) [] []) => DoesD T g args s.heap fun _ h => resX T ⟨s.tmps, h⟩ F.results.toList Q
    | _ => False
  | _, _ => False

/-- A function's body that defers a call, walked. -/
def fnXD (T : Tbl) (O : Org) (F : Func) (args : List EV) (h : List Blk) (Q : EV → List Blk → Prop) : Prop :=
  match F.body with
  | some c => frameK args F.ntmps fun ts => wpd T O c ⟨ts, h⟩ fun s f dargs rest => (∃ g x y, f = .s (.func g x y)) ∧ ∀ O' : Org, O'.E.n = O'.h.length → O'.E.n = s.heap.length → O.E.n ≤ O'.E.n → wpx T O' rest s (bodyD T F f dargs Q)
  | none => False

theorem fnXD_call (T : Tbl) {f : FuncId} {F : Func} (hF : T.P.funcs[f]? = some F) {args : List EV} {h : List Blk} {Q : EV → List Blk → Prop}
    (hX : ∀ E w, Sim E h w → fnXD T ⟨E, h, w, []⟩ F args h Q) : CallG T f args h Q := by
  intro E w vs S hargs
  have hx := hX E w S
  unfold fnXD at hx
  split at hx
  · rename_i c hc
    rw [frameK_eq] at hx
    refine calls_of_wp_defers hF hc ?_
    have hlen : vs.size = args.length := by rw [← Array.length_toList]; exact denT_length hargs
    have R : Rel ⟨E, h, w, []⟩ E { tmps := args ++ junks (F.ntmps - args.length), heap := h } { tmps := vs ++ Array.replicate (F.ntmps - vs.size) undef, defers := [] } w := by
      refine ⟨⟨by simp [length_junks, hlen], fun i v hi => ?_⟩, rfl, S, Since.refl _ _ _⟩
      rw [nth_append_junks]
      split
      · rename_i hlt
        rw [Array.getElem?_append_left (by omega)] at hi
        exact denT_nth hargs (by simpa using hi)
      · simp only [denE]
    refine wpd_snd (O := ⟨E, h, w, []⟩) S.n ?_ c hx R
    intro E1 s1 a1 w1 fv0 dargs fv dvs rest hk hfd hdargs R1 d hd
    have hdf : a1.defers = [] := R1.df
    have hO := hk ⟨E1, s1.heap, w1, [d]⟩ R1.sim.n R1.sim.n (by have h1 := R1.sin.len; have h2 := S.n; have h3 := R1.sim.n; simp only at *; omega)
    have R1' : Rel ⟨E1, s1.heap, w1, [d]⟩ E1 s1 { a1 with defers := d :: a1.defers } w1 := ⟨R1.fr, by simp [hdf], R1.sim, Since.refl _ _ _⟩
    refine Code.wp_mono ?_ (wpx_snd (T := T) (O := ⟨E1, s1.heap, w1, [d]⟩) R1.sim.n rest hO R1')
    have key : ∀ E2 s2 a2 w2, (match fv0 with
        | .s (.func (.func g) [] []) => DoesD T g dargs s2.heap fun _ h => resX T ⟨s2.tmps, h⟩ F.results.toList Q
        | _ => False) → Rel ⟨E1, s1.heap, w1, [d]⟩ E2 s2 a2 w2 → Leaves T.P F a2.tmps (Post E h w Q) a2.defers .returning w2 := by
      intro E2 s2 a2 w2 hb R2
      have hdf2 : a2.defers = [d] := R2.df
      split at hb
      · rename_i g
        simp only [denE, denV, denL] at hfd
        obtain ⟨f', c', rfl, h1, h2⟩ := hfd
        have h1' : f' = #[] := Array.toList_eq_nil_iff.1 h1
        have h2' : c' = #[] := Array.toList_eq_nil_iff.1 h2
        subst h1' h2'
        have hdd : d = { target := .fn (.func g) #[], args := dvs.toArray } := by
          have h0 : (Deferred.ofValue (.func (.func g) #[] #[]) dvs.toArray).run T.P w = .ok { target := .fn (.func g) #[], args := #[] ++ dvs.toArray } w := rfl
          have := hd T.P w
          rw [h0, Array.empty_append] at this
          cases this
          rfl
        rw [hdf2, hdd]
        obtain ⟨hfn, hgo⟩ := hb.go
        obtain ⟨G, hG, hbody, hname⟩ := hfn
        have hle2 : E1.le E2 := R2.sin.le R1.sim.n R2.sim.n
        have hda : denT E2 dargs dvs := denT_mono hle2 _ _ hdargs
        refine leaves_cons (f := g) (args := dvs.toArray) (by simp) ?_ ?_
        · simp only [invoke, callFunc, Sem.run_bind, run_program, Result.andThen_ok, hG, Array.append_empty]
          simp [hbody]
          intro hh
          simp [hh] at hname
        · refine (hgo E2 w2 dvs.toArray .returning R2.sim (by simpa using hda)).mono ?_
          rintro e u' w3 ⟨rfl, v, x, h3, E3, rfl, _, S3, N3, hq⟩
          have hfr : frameOk E3 s2.tmps a2.tmps := frameOk_mono (N3.le R2.sim.n S3.n) R2.fr
          obtain ⟨u, v', k1, k2, k3⟩ := resX_snd T (s := ⟨s2.tmps, h3⟩) hfr S3 hq
          refine ⟨u, k1, u, v', h3, E3, rfl, k2, S3, ?_, k3⟩
          have n1 := R1.sin
          exact ((n1.trans S.n R1.sim.n R2.sin).trans S.n R2.sim.n N3)
      · exact hb.elim
    rintro e a2 w2 ⟨E2, s2, hb, R2⟩
    cases e <;> first
      | exact key E2 s2 a2 w2 hb R2
      | exact hb.elim
  · exact hx.elim

/-- **A function that defers a call, walked over a small heap.** -/
theorem fnXD_does (T : Tbl) {f : FuncId} {F : Func} (hF : T.P.funcs[f]? = some F) (hb : F.body.isNone = false) (hname : (F.name == "runtime.NumGoroutine") = false) {args : List EV} {h : List Blk} {Q : EV → List Blk → Prop}
    (hX : ∀ O : Org, O.E.n = O.h.length → O.E.n = h.length → fnXD T O F args h (Ends h.length Q)) : Does T f args h Q := by
  refine ⟨.inl ⟨⟨F, hF, hb, hname⟩, fun E w vs S ha => ?_⟩⟩
  have c := fnXD_call T hF (args := args) (h := h) (Q := Ends h.length Q) (fun E w S => hX _ S.n S.n) E w vs S ha
  refine c.mono ?_
  rintro e w' ⟨v, x, h', E', rfl, hd, S', N', V, H, κ, hq, hnd, hid, hv, hh⟩
  obtain ⟨S'', h1, h2, h3⟩ := S'.renum hnd hh
  refine ⟨v, V, H, _, rfl, ?_, S'', N'.renum S.n S' hnd (by rw [S.n]; exact hid) hh, hq⟩
  exact (denE_ren (E := ⟨H.length, fun i => E'.f (lk κ h'.length i)⟩) h1 (fun b hb => ⟨h2 b hb, rfl⟩) _ _).1 (eqvE_den _ _ _ hv hd)

end Go.Anv

/- The bus: its block; the lock of its console. No condition: contracts of functions. -/
namespace Go.Anv
open Go
theorem length_updB : ∀ (h : List Blk) (b : Nat) (B : Blk), (updB h b B).length = h.length
  | [], _, _ => rfl
  | _ :: _, 0, _ => rfl
  | _ :: r, b + 1, B => by simp [updB, length_updB r b B]

theorem nthB_updB : ∀ {h : List Blk} {b : Nat} {A B : Blk}, nthB h b = some A → nthB (updB h b B) b = some B
  | [], _, _, _, h => by simp [nthB] at h
  | _ :: _, 0, _, _, _ => rfl
  | _ :: r, b + 1, _, _, h => by simp only [nthB, updB] at h ⊢; exact nthB_updB h

theorem getS_setS : ∀ {cs cs' : List Seg} {o : Nat} {e : SV}, setS cs o e = some cs' → getS cs' o = some e
  | [], _, _, _, h => by simp [setS] at h
  | .one _ :: r, _, 0, e, h => by simp only [setS, Option.some.injEq] at h; subst h; rfl
  | .one v :: r, _, o + 1, e, h => by
    simp only [setS, Option.map_eq_some_iff] at h
    obtain ⟨c, hc, rfl⟩ := h
    simp only [getS]
    exact getS_setS hc
  | .ints k n f :: r, _, o, e, h => by
    unfold setS at h
    split at h
    · rename_i ho
      simp only [Option.map_eq_some_iff] at h
      obtain ⟨c, hc, rfl⟩ := h
      unfold getS
      rw [if_neg (by omega)]
      exact getS_setS hc
    · cases h

end Go.Anv
namespace Go.Proofs.Ytghcdkpgcanpgaa
open Go Go.Anv
section lock
variable {h : List Blk} {b o sp : Nat} {cs cs' : List Seg}

theorem set_lock {E : Emb} {w : World} {k y : Int} (S : Sim E h w) (hb : nthB h b = some (.cells true cs sp)) (hg : getS cs o = some (.int .i32 k)) (hs : setS cs o (.int .i32 y) = some cs') :
    w.cell? (E.at b o) = some (.int .i32 k) ∧ w.frozen? (E.at b o) = false ∧ Sim E (updB h b (.cells true cs' sp)) (w.setCell (E.at b o) (.int .i32 y)) ∧ Since E h w E (updB h b (.cells true cs' sp)) (w.setCell (E.at b o) (.int .i32 y)) := by
  have hb' := nthB_get hb
  obtain ⟨l, hl, hw, _⟩ := S.look hb'
  obtain ⟨_, _, hm⟩ := S.ok b _ hb'
  obtain ⟨u, h1, h2⟩ := getS_den hl hg
  simp only [denV] at h2
  subst h2
  have h3 := hw o _ h1
  obtain ⟨k1, k2, k3⟩ := setS_den (E := E) (v := .int .i32 y) hl (by simp only [denV]) hs
  have hd : denS E cs' (l.take o ++ ([Value.int .i32 y] ++ l.drop (o + [Value.int .i32 y].length))) := by
    rw [← list_set_eq _ (by rw [denS_length hl]; exact k3)]
    exact k1
  refine ⟨h3, (hm rfl o (by omega)).2.frozen h3, ?_, ?_⟩
  · rw [updB_eq]; exact S.store (vs := [.int .i32 y]) hb' hl hw hd k2 k3
  · rw [updB_eq]; exact Since.store (vs := [.int .i32 y]) hb' k2 k3

theorem cas_spec {k y : Int} (hb : nthB h b = some (.cells true cs sp)) (hg : getS cs o = some (.int .i32 k)) (hs : setS cs o (.int .i32 y) = some cs') :
    Does TB 145 [.s (.ptr b o), .s (.int .i32 k), .s (.int .i32 y)] h (fun r h' => r = .s (.bool true) ∧ h' = updB h b (.cells true cs' sp)) := by
  refine ⟨.inr fun E w vs S ha => ?_⟩
  simp only [denT, denE, denV] at ha
  obtain ⟨x1, l1, e1, ⟨_, rfl⟩, x2, l2, rfl, rfl, x3, l3, rfl, rfl, rfl⟩ := ha
  have hvs : vs = #[.pointer (some (E.at b o)), .int .i32 k, .int .i32 y] := by rw [← Array.toList_inj]; exact e1
  subst hvs
  obtain ⟨h1, h2, h3, h4⟩ := set_lock S hb hg hs
  have hrun := run_call_cas_hit (P := TB.P) (y := y) Try.func145 (by kernel_rfl) (by kernel_rfl) (by kernel_rfl) .i32 (by kernel_rfl) h1 h2
  exact ⟨_, _, hrun, _, _, _, _, rfl, (by simp only [denE, denV] : denE E (.s (.bool true)) _), h3, h4, rfl, rfl⟩

theorem add_spec {k y s : Int} (hw : IntKind.i32.wrap (k + y) = s) (hb : nthB h b = some (.cells true cs sp)) (hg : getS cs o = some (.int .i32 k)) (hs : setS cs o (.int .i32 s) = some cs') :
    Does TB 150 [.s (.ptr b o), .s (.int .i32 y)] h (fun r h' => r = .s (.int .i32 s) ∧ h' = updB h b (.cells true cs' sp)) := by
  refine ⟨.inr fun E w vs S ha => ?_⟩
  simp only [denT, denE, denV] at ha
  obtain ⟨x1, l1, e1, ⟨_, rfl⟩, x2, l2, rfl, rfl, rfl⟩ := ha
  have hvs : vs = #[.pointer (some (E.at b o)), .int .i32 y] := by rw [← Array.toList_inj]; exact e1
  subst hvs
  obtain ⟨h1, h2, h3, h4⟩ := set_lock S hb hg hs
  have hrun := run_call_add (P := TB.P) (y := y) (s := s) Try.func150 (by kernel_rfl) (by kernel_rfl) (by kernel_rfl) .i32 (by kernel_rfl) h1 h2 (by simp [Op.intArith, hw])
  exact ⟨_, _, hrun, _, _, _, _, rfl, (by simp only [denE, denV] : denE E (.s (.int .i32 s)) _), h3, h4, rfl, rfl⟩
end lock

theorem mark0_spec {f : FuncId} {fn : Func} {m : Mark} (hf : TB.P.funcs[f]? = some fn) (hname : (fn.name == "runtime.NumGoroutine") = false) (hb : fn.body.isNone = true) (hn : Extern.findNext fn = none)
    (he : Extern.find fn = some (fun _ => do mark m; pure Extern.Race.none_)) (h : List Blk) : Does TB f [] h (fun r h' => r = .tuple [] ∧ h' = h) := by
  refine ⟨.inr fun E w vs S ha => ?_⟩
  simp only [denT] at ha
  have hvs : vs = #[] := by rw [← Array.toList_inj]; exact ha
  subst hvs
  exact ⟨_, _, run_call_mark0 (P := TB.P) hf hname hb hn m he w, _, _, _, _, rfl, (by simp only [denE]; exact ⟨_, rfl, rfl⟩ : denE E (.tuple []) _), S, Since.refl _ _ _, rfl, rfl⟩

theorem marked_spec {f : FuncId} {fn : Func} {m : Addr → Mark} (hf : TB.P.funcs[f]? = some fn) (hname : (fn.name == "runtime.NumGoroutine") = false) (hb : fn.body.isNone = true) (hn : Extern.findNext fn = none)
    (he : Extern.find fn = some (Extern.Race.marked m)) (b o : Nat) (h : List Blk) : Does TB f [.s (.ptr b o)] h (fun r h' => r = .tuple [] ∧ h' = h) := by
  refine ⟨.inr fun E w vs S ha => ?_⟩
  simp only [denT, denE, denV] at ha
  obtain ⟨x1, l1, e1, ⟨hb1, rfl⟩, rfl⟩ := ha
  have hvs : vs = #[.pointer (some (E.at b o))] := by rw [← Array.toList_inj]; exact e1
  subst hvs
  exact ⟨_, _, run_call_marked (P := TB.P) hf hname hb hn m he _ w, _, _, _, _, rfl, (by simp only [denE]; exact ⟨_, rfl, rfl⟩ : denE E (.tuple []) _), S, Since.refl _ _ _, rfl, rfl⟩

theorem disable_spec (h : List Blk) : Does TB 144 [] h (fun r h' => r = .tuple [] ∧ h' = h) := mark0_spec (m := .disable) Try.func144 (by kernel_rfl) (by kernel_rfl) (by kernel_rfl) (by kernel_rfl) h
theorem enable_spec (h : List Blk) : Does TB 146 [] h (fun r h' => r = .tuple [] ∧ h' = h) := mark0_spec (m := .enable) Try.func146 (by kernel_rfl) (by kernel_rfl) (by kernel_rfl) (by kernel_rfl) h
theorem acquire_spec (b o : Nat) (h : List Blk) : Does TB 147 [.s (.ptr b o)] h (fun r h' => r = .tuple [] ∧ h' = h) := marked_spec (m := .acquire) Try.func147 (by kernel_rfl) (by kernel_rfl) (by kernel_rfl) (by kernel_rfl) b o h
theorem release_spec (b o : Nat) (h : List Blk) : Does TB 149 [.s (.ptr b o)] h (fun r h' => r = .tuple [] ∧ h' = h) := marked_spec (m := .releaseMerge) Try.func149 (by kernel_rfl) (by kernel_rfl) (by kernel_rfl) (by kernel_rfl) b o h

section lock
variable {h : List Blk} {b o sp : Nat} {cs cs' : List Seg}

theorem ilock_spec (hb : nthB h b = some (.cells true cs sp)) (hg : getS cs o = some (.int .i32 0)) (hs : setS cs o (.int .i32 1) = some cs') :
    Does TB 111 [.s (.ptr b o)] h (fun r h' => r = .tuple [] ∧ h' = updB h b (.cells true cs' sp)) := by
  refine fnX_does TB Try.func111 rfl (by decide) (fun O on hO => ?_)
  refine (disable_spec _).mono ?_
  rintro _ _ ⟨rfl, rfl⟩
  refine (cas_spec hb hg hs).mono ?_
  rintro _ _ ⟨rfl, rfl⟩
  refine (enable_spec _).mono ?_
  rintro _ _ ⟨rfl, rfl⟩
  refine need_intro ⟨_, _, _, _, nthB_updB hb, getS_setS hs⟩ ?_
  refine (acquire_spec b o _).mono ?_
  rintro _ _ ⟨rfl, rfl⟩
  exact Ends.same ⟨rfl, rfl⟩ (by rw [length_updB]; exact Nat.le_refl _)

theorem lock_spec (hb : nthB h b = some (.cells true cs sp)) (hg : getS cs o = some (.int .i32 0)) (hs : setS cs o (.int .i32 1) = some cs') :
    Does TB 102 [.s (.ptr b o)] h (fun r h' => r = .tuple [] ∧ h' = updB h b (.cells true cs' sp)) := by
  refine fnX_does TB Try.func102 rfl (by decide) (fun O on hO => ?_)
  refine (ilock_spec hb hg hs).mono ?_
  rintro _ _ ⟨rfl, rfl⟩
  exact Ends.same ⟨rfl, rfl⟩ (by rw [length_updB]; exact Nat.le_refl _)

theorem loadX_int (T : Tbl) {t : TypeId} {i : TI} {k : IntKind} {x : Int} (ht : T.ty t = some i) (hd : i.d = .int k) (hb : nthB h b = some (.cells true cs sp)) (hg : getS cs o = some (.int k x)) : loadX T h t (.s (.ptr b o)) = .ok (.s (.int k x)) := by
  have : i.d.agg = false := by rw [hd]; rfl
  simp only [loadX, ht, hb, this, hg]
  simp

theorem iunlock_spec (hb : nthB h b = some (.cells true cs sp)) (hg : getS cs o = some (.int .i32 1)) (hs : setS cs o (.int .i32 0) = some cs') :
    Does TB 112 [.s (.ptr b o)] h (fun r h' => r = .tuple [] ∧ h' = updB h b (.cells true cs' sp)) := by
  refine fnX_does TB Try.func112 rfl (by decide) (fun O on hO => ?_)
  have hl : loadX TB h 21 (.s (.ptr b (o + 0))) = .ok (.s (.int .i32 1)) := loadX_int TB rfl rfl hb hg
  show (match loadX TB h 21 (.s (.ptr b (o + 0))) with
    | .ok v => _
    | .need p v => _
    | .fail => _)
  rw [hl]
  refine need_intro ⟨_, _, _, _, hb, hg⟩ ?_
  refine (release_spec b o _).mono ?_
  rintro _ _ ⟨rfl, rfl⟩
  refine (disable_spec _).mono ?_
  rintro _ _ ⟨rfl, rfl⟩
  refine (add_spec (k := 1) (y := -1) (s := 0) (by decide) hb hg hs).mono ?_
  rintro _ _ ⟨rfl, rfl⟩
  refine (enable_spec _).mono ?_
  rintro _ _ ⟨rfl, rfl⟩
  exact Ends.same ⟨rfl, rfl⟩ (by rw [length_updB]; exact Nat.le_refl _)

theorem unlock_spec (hb : nthB h b = some (.cells true cs sp)) (hg : getS cs o = some (.int .i32 1)) (hs : setS cs o (.int .i32 0) = some cs') :
    DoesD TB 103 [.s (.ptr b o)] h (fun r h' => r = .tuple [] ∧ h' = updB h b (.cells true cs' sp)) := by
  refine fnX_doesD TB Try.func103 rfl (by decide) (fun O on hO => ?_)
  refine (iunlock_spec hb hg hs).mono ?_
  rintro _ _ ⟨rfl, rfl⟩
  exact Ends.same ⟨rfl, rfl⟩ (by rw [length_updB]; exact Nat.le_refl _)
end lock
end Go.Proofs.Ytghcdkpgcanpgaa

/- The bus: states, what may be one, a bus of a state. No condition: contracts of functions. -/
namespace Go.Anv
open Go
abbrev B64 := BitVec 64
abbrev B32 := BitVec 32
abbrev B8 := BitVec 8
def bfun (q : Nat → B8) (j : Nat) : Int := ((q j).toNat : Int)
def wfun (q : Nat → B64) (j : Nat) : Int := ((q j).toNat : Int)
/-- A block of bytes. -/
def bblk (m : Bool) (n : Nat) (q : Nat → B8) (sp : Nat) : Blk := .cells m [.ints .u8 n (bfun q)] sp

/-- A bus's plain values: the lists' lengths with them. -/
structure BusV where
  nr : Nat
  msip : B32
  cmp : B64
  now : B64
  ext : Bool
  soft : Bool
  ier : B8
  lcr : B8
  mcr : B8
  scratch : B8
  overrun : Bool
  ni : Nat
  no : Nat
  off : Int
  code : Int

/-- The cells of api.Bus; r, i, o: where its lists lie. -/
def BusV.segs (s : BusV) (r i o : SV) : List Seg :=
  [.one r, .one (.int .u32 s.msip.toNat), .one (.int .u64 s.cmp.toNat), .one (.int .u64 s.now.toNat), .one (.bool s.ext), .one (.bool s.soft), .one (.int .u8 s.ier.toNat), .one (.int .u8 s.lcr.toNat), .one (.int .u8 s.mcr.toNat), .one (.int .u8 s.scratch.toNat),
    .one (.bool s.overrun), .one i, .one o, .one (.int .i64 s.off), .one (.int .i64 s.code)]

/-- The cells of bus.Bus. -/
def BusV.dev (s : BusV) (lock : Int) (r i o : SV) : List Seg :=
  [.one r, .one (.int .i64 s.off), .one (.int .i64 s.code), .one (.int .u32 s.msip.toNat), .one (.int .u64 s.cmp.toNat), .one (.int .u64 s.now.toNat), .one (.int .i32 lock), .one (.int .u32 0), .one i, .one o,
    .one (.int .u8 s.ier.toNat), .one (.int .u8 s.lcr.toNat), .one (.int .u8 s.mcr.toNat), .one (.int .u8 s.scratch.toNat), .one (.bool s.overrun), .one (.bool s.ext), .one (.bool s.soft)]

def fitsB (n : Int) : Bool := decide (8 ≤ n) && decide (n ≤ 65536) && decide (n % 8 = 0)
def BusV.can (s : BusV) : Bool :=
  decide ((8 ≤ s.nr ∧ s.nr ≤ 65536 ∧ s.nr % 8 = 0) ∧ s.msip.toNat ≤ 1 ∧ s.ier.toNat ≤ 15 ∧ s.mcr.toNat ≤ 31 ∧ s.ni ≤ 64 ∧ s.no ≤ 4096 ∧ ((s.off = 0 ∨ s.off = 1) ∧ s.code = 0 ∨ s.off = 2 ∧ 0 ≤ s.code ∧ s.code ≤ 65535))

/-- The lists of a bus lie in three blocks. -/
structure Lists where
  mr : Bool
  sr : Nat
  ram : Nat → B8
  mi : Bool
  si : Nat
  inp : Nat → B8
  mo : Bool
  so : Nat
  out : Nat → B8
def Lists.blks (l : Lists) (s : BusV) : List Blk := [bblk l.mr s.nr l.ram l.sr, bblk l.mi s.ni l.inp l.si, bblk l.mo s.no l.out l.so]
end Go.Anv
namespace Go.Proofs.Ytghcdkpgcanpgaa
open Go Go.Anv
theorem fits_spec (n : Int) (h : List Blk) : Does TB 101 [.s (.int .i64 n)] h (fun v h' => v = .s (.bool (fitsB n)) ∧ h' = h) := by
  refine fnX_pure TB Try.func101 rfl (by decide) rfl _ rfl (fun O on => ?_) h
  repeat (refine need_intro (by simp) ?_)
  show (_ : Bool) = _
  unfold fitsB
  by_cases h1 : 8 ≤ n
  · by_cases h2 : n ≤ 65536
    · have : n.tmod 8 = n % 8 := Int.tmod_eq_emod_of_nonneg (by omega)
      simp [h1, h2, this]
      by_cases h3 : n % 8 = 0 <;> simp [h3]
    · simp [h1, h2]
  · simp [h1]
theorem room5 (k : Nat) (h : k ≤ 140737488355328) : room ti5 k := ⟨⟨rfl, by decide⟩, h, by show k * 1 ≤ _; omega⟩
theorem own_spec (m : Bool) (k o n c sp : Nat) (q : Nat → B8) (p : Nat → B8) (hn : o + n ≤ k) (hk : n ≤ 140737488355328) (hp : ∀ j, j < n → q (o + j) = p j) :
    Does TB 74 [.s (.gs 0 o n c)] [bblk m k q sp] (fun v h' => ∃ cap, n ≤ cap ∧ v = .s (.gs 1 0 n cap) ∧ h' = [bblk m k q sp, bblk true n p (cap - n)]) := by
  refine fnX_does TB Try.func74 rfl (by decide) (fun O on hO => ?_)
  refine need_intro ⟨hn, room5 _ hk⟩ ?_
  intro c1 hc1
  refine ⟨_, _, [0, 1], ⟨c1, hc1, rfl, rfl⟩, by decide, ⟨rfl, trivial⟩, eqvE_refl _, ⟨⟨_, rfl, eqvB_refl _⟩, ⟨_, rfl, ⟨rfl, ?_, ⟨⟨rfl, rfl, fun j hj => ?_⟩, trivial⟩⟩⟩, trivial⟩⟩
  · exact Nat.mul_one _
  · show ((q (o + j)).toNat : Int) = ((p j).toNat : Int)
    rw [hp j hj]
theorem can_spec (s : BusV) (l : Lists) (cr ci co : Nat) (hni : s.ni < 2 ^ 62) (hno : s.no < 2 ^ 62) (hnr : s.nr < 2 ^ 62) :
    Does TB 73 [.agg (s.segs (.gs 0 0 s.nr cr) (.gs 1 0 s.ni ci) (.gs 2 0 s.no co))] (l.blks s) (fun v h' => v = .s (.bool s.can) ∧ h' = l.blks s) := by
  refine fnX_does TB Try.func73 rfl (by decide) (fun O on hO => ?_)
  refine (fits_spec _ _).mono ?_
  rintro v h' ⟨rfl, rfl⟩
  repeat (refine need_intro (by simp) ?_)
  have fin : ∀ {x : Bool} {b0 b1 b2 b3 : Blk}, x = s.can → b0 = bblk l.mr s.nr l.ram l.sr → b1 = bblk l.mi s.ni l.inp l.si → b2 = bblk l.mo s.no l.out l.so → Anv.Ends (l.blks s).length (fun v h' => v = .s (.bool s.can) ∧ h' = l.blks s) (.s (.bool x)) [b0, b1, b2, b3] := by
    rintro x b0 b1 b2 b3 rfl rfl rfl rfl
    exact ⟨_, _, [0, 1, 2], ⟨rfl, rfl⟩, by decide, ⟨rfl, rfl, rfl, trivial⟩, eqvE_refl _, ⟨⟨_, rfl, eqvB_refl _⟩, ⟨_, rfl, eqvB_refl _⟩, ⟨_, rfl, eqvB_refl _⟩, trivial⟩⟩
  refine ifB_intro (fun h1 => ?_) (fun h1 => ?_)
  · refine fin ?_ rfl rfl rfl
    simp only [Bool.cond_true_left, Bool.or_eq_true, Bool.not_eq_true', fitsB, Bool.and_eq_false_iff, decide_eq_true_eq, decide_eq_false_iff_not] at h1
    symm
    unfold BusV.can
    rw [decide_eq_false_iff_not]
    omega
  · simp only [Bool.cond_true_left, Bool.or_eq_false_iff, Bool.not_eq_false', fitsB, Bool.and_eq_true, decide_eq_true_eq, decide_eq_false_iff_not] at h1
    have leaf : ∀ {x : Bool}, ((x = true ↔ ((s.off = 0 ∨ s.off = 1) ∧ s.code = 0 ∨ s.off = 2 ∧ 0 ≤ s.code ∧ s.code ≤ 65535))) → x = s.can := by
      intro x hx
      rw [Bool.eq_iff_iff, hx]
      unfold BusV.can
      rw [decide_eq_true_eq]
      constructor
      · intro h; omega
      · intro h; omega
    refine ifB_intro (fun h2 => ?_) (fun h2 => ?_)
    · have h2 : s.off = 0 := by simpa using h2
      refine ifB_intro (fun h3 => ?_) (fun h3 => by simp [h2] at h3)
      refine fin (leaf ?_) rfl rfl rfl
      simp [h2]
    · have h2 : ¬ s.off = 0 := by simpa using h2
      refine ifB_intro (fun h3 => ?_) (fun h3 => ?_)
      · have h3 : s.off = 1 := by simpa using h3
        refine fin (leaf ?_) rfl rfl rfl
        simp [h3]
      · have h3 : ¬ s.off = 1 := by simpa using h3
        refine ifB_intro (fun h4 => ?_) (fun h4 => ?_)
        · have h4 : s.off = 2 := by simpa using h4
          repeat (refine need_intro (by simp) ?_)
          refine fin (leaf ?_) rfl rfl rfl
          simp only [Bool.cond_false_right, Bool.and_eq_true, decide_eq_true_eq]
          omega
        · have h4 : ¬ s.off = 2 := by simpa using h4
          refine fin (leaf ?_) rfl rfl rfl
          simp [h2, h3, h4]
end Go.Proofs.Ytghcdkpgcanpgaa

/- The bus: the bus that a state makes. No condition: contracts of functions. -/
namespace Go.Proofs.Ytghcdkpgcanpgaa
open Go Go.Anv
theorem canBe_spec (s : BusV) (l : Lists) (cr ci co : Nat) (hni : s.ni < 2 ^ 62) (hno : s.no < 2 ^ 62) (hnr : s.nr < 2 ^ 62) :
    Does TB 37 [.agg (s.segs (.gs 0 0 s.nr cr) (.gs 1 0 s.ni ci) (.gs 2 0 s.no co))] (l.blks s) (fun v h' => v = .s (.bool s.can) ∧ h' = l.blks s) := by
  refine fnX_does TB Try.func37 rfl (by decide) (fun O on hO => ?_)
  have hm : (s.nr : Int).tmod 8 = ((s.nr % 8 : Nat) : Int) := rfl
  have fin : ∀ {x : Bool} {b0 b1 b2 b3 : Blk}, x = s.can → b0 = bblk l.mr s.nr l.ram l.sr → b1 = bblk l.mi s.ni l.inp l.si → b2 = bblk l.mo s.no l.out l.so → Anv.Ends (l.blks s).length (fun v h' => v = .s (.bool s.can) ∧ h' = l.blks s) (.s (.bool x)) [b0, b1, b2, b3] := by
    rintro x b0 b1 b2 b3 rfl rfl rfl rfl
    exact ⟨_, _, [0, 1, 2], ⟨rfl, rfl⟩, by decide, ⟨rfl, rfl, rfl, trivial⟩, eqvE_refl _, ⟨⟨_, rfl, eqvB_refl _⟩, ⟨_, rfl, eqvB_refl _⟩, ⟨_, rfl, eqvB_refl _⟩, trivial⟩⟩
  repeat (refine need_intro (by simp) ?_)
  refine ifB_intro (fun h1 => ?_) (fun h1 => ?_)
  · refine fin ?_ rfl rfl rfl
    rw [hm] at h1
    simp only [Bool.cond_true_left, Bool.or_eq_true, decide_eq_true_eq, bne_iff_ne, ne_eq] at h1
    symm
    unfold BusV.can
    rw [decide_eq_false_iff_not]
    omega
  · rw [hm] at h1
    simp only [Bool.cond_true_left, Bool.or_eq_false_iff, decide_eq_false_iff_not, bne_eq_false_iff_eq] at h1
    repeat (refine need_intro (by simp) ?_)
    refine ifB_intro (fun h2 => ?_) (fun h2 => ?_)
    · refine fin ?_ rfl rfl rfl
      simp only [Bool.cond_true_left, Bool.or_eq_true, decide_eq_true_eq] at h2
      symm
      unfold BusV.can
      rw [decide_eq_false_iff_not]
      omega
    · simp only [Bool.cond_true_left, Bool.or_eq_false_iff, decide_eq_false_iff_not] at h2
      have leaf : ∀ {x : Bool}, ((x = true ↔ ((s.off = 0 ∨ s.off = 1) ∧ s.code = 0 ∨ s.off = 2 ∧ 0 ≤ s.code ∧ s.code ≤ 65535))) → x = s.can := by
        intro x hx
        rw [Bool.eq_iff_iff, hx]
        unfold BusV.can
        rw [decide_eq_true_eq]
        constructor
        · intro h; omega
        · intro h; omega
      refine ifB_intro (fun h3 => ?_) (fun h3 => ?_)
      · have h3 : s.off = 2 := by simpa using h3
        repeat (refine need_intro (by simp) ?_)
        refine fin (leaf ?_) rfl rfl rfl
        simp only [Bool.cond_false_right, Bool.and_eq_true, decide_eq_true_eq]
        omega
      · have h3 : ¬ s.off = 2 := by simpa using h3
        refine fin (leaf ?_) rfl rfl rfl
        rw [beq_iff_eq]
        omega
set_option maxRecDepth 100000 in
theorem set_spec (s z : BusV) (l : Lists) (cr ci co c3 sp3 : Nat) (hni : s.ni ≤ 140737488355328) (hno : s.no ≤ 140737488355328) :
    Does TB 75 [.s (.ptr 4 6), .agg (s.segs (.gs 0 0 s.nr cr) (.gs 1 0 s.ni ci) (.gs 2 0 s.no co))] (l.blks s ++ [bblk true s.nr l.ram sp3, .cells true (z.dev 0 (.gs 3 0 s.nr c3) .nilslice .nilslice) 0])
      (fun v h' => ∃ c5 c6, s.ni ≤ c5 ∧ s.no ≤ c6 ∧ v = .tuple [] ∧ h' = l.blks s ++ [bblk true s.nr l.ram sp3,
        .cells true ({ z with ier := s.ier, lcr := s.lcr, mcr := s.mcr, scratch := s.scratch, overrun := s.overrun }.dev 0 (.gs 3 0 s.nr c3) (.gs 5 0 s.ni c5) (.gs 6 0 s.no c6)) 0, bblk true s.ni l.inp (c5 - s.ni), bblk true s.no l.out (c6 - s.no)]) := by
  refine fnXD_does TB Try.func75 rfl (by decide) (fun O on hO => ?_)
  refine (lock_spec (b := 4) (o := 6) rfl rfl rfl).mono ?_
  rintro _ h' ⟨rfl, hh⟩
  have hh : h' = [bblk l.mr s.nr l.ram l.sr, bblk l.mi s.ni l.inp l.si, bblk l.mo s.no l.out l.so, bblk true s.nr l.ram sp3, .cells true (z.dev 1 (.gs 3 0 s.nr c3) .nilslice .nilslice) 0, .cells true (s.segs (.gs 0 0 s.nr cr) (.gs 1 0 s.ni ci) (.gs 2 0 s.no co)) 0] := hh
  subst hh
  refine ⟨⟨_, _, _, rfl⟩, fun O' on' hO' hle => ?_⟩
  refine draw_but [4] on' rfl (fun _ _ h => h) ?_
  refine Does.at (own_spec l.mi s.ni 0 s.ni ci l.si l.inp l.inp (by omega) hni (fun j _ => by rw [Nat.zero_add])) [1] rfl ⟨rfl, trivial⟩ (by decide) ?_ ?_
  · rintro v h' ⟨cap, _, _, rfl⟩
    exact ⟨.inr (.inr rfl), .inl rfl, trivial⟩
  · rintro v h' ⟨c5, hc5, rfl, rfl⟩
    repeat (refine need_intro rfl ?_)
    refine Does.at (own_spec l.mo s.no 0 s.no co l.so l.out l.out (by omega) hno (fun j _ => by rw [Nat.zero_add])) [2] rfl ⟨rfl, trivial⟩ (by decide) ?_ ?_
    · rintro v h' ⟨cap, _, _, rfl⟩
      exact ⟨.inr (.inr rfl), .inl rfl, trivial⟩
    · rintro v h' ⟨c6, hc6, rfl, rfl⟩
      repeat (refine need_intro rfl ?_)
      refine draw_but [4] on' rfl (fun _ _ h => h) ?_
      repeat (refine need_intro rfl ?_)
      refine (unlock_spec (b := 4) (o := 6) rfl rfl rfl).mono ?_
      rintro _ h' ⟨_, hh⟩
      have hh : h' = [bblk l.mr s.nr l.ram l.sr, bblk l.mi s.ni l.inp l.si, bblk l.mo s.no l.out l.so, bblk true s.nr l.ram sp3,
        .cells true ({ z with ier := s.ier, lcr := s.lcr, mcr := s.mcr, scratch := s.scratch, overrun := s.overrun }.dev 0 (.gs 3 0 s.nr c3) (.gs 6 0 s.ni c5) (.gs 7 0 s.no c6)) 0,
        .cells true (s.segs (.gs 0 0 s.nr cr) (.gs 1 0 s.ni ci) (.gs 2 0 s.no co)) 0, bblk true s.ni l.inp (c5 - s.ni), bblk true s.no l.out (c6 - s.no)] := hh
      subst hh
      exact ⟨_, _, [0, 1, 2, 3, 4, 6, 7], ⟨c5, c6, hc5, hc6, rfl, rfl⟩, by decide, ⟨rfl, rfl, rfl, rfl, rfl, trivial⟩, trivial,
        ⟨⟨_, rfl, eqvB_refl _⟩, ⟨_, rfl, eqvB_refl _⟩, ⟨_, rfl, eqvB_refl _⟩, ⟨_, rfl, eqvB_refl _⟩, ⟨_, rfl, eqvB_refl _⟩, ⟨_, rfl, eqvB_refl _⟩, ⟨_, rfl, eqvB_refl _⟩, trivial⟩⟩
/-- A bus of a state: its own lists. -/
def devAt (s : BusV) (b : Nat) (cr ci co : Nat) : Blk := .cells true (s.dev 0 (.gs b 0 s.nr cr) (.gs (b + 2) 0 s.ni ci) (.gs (b + 3) 0 s.no co)) 0
theorem from_no (s : BusV) (l : Lists) (cr ci co : Nat) (hni : s.ni < 2 ^ 62) (hno : s.no < 2 ^ 62) (hnr : s.nr < 2 ^ 62) (hc : s.can = false) :
    Does TB 36 [.agg (s.segs (.gs 0 0 s.nr cr) (.gs 1 0 s.ni ci) (.gs 2 0 s.no co))] (l.blks s) (fun v h' => v = .tuple [.s .nilptr, .s (.int .i64 31)] ∧ h' = l.blks s) := by
  refine fnX_does TB Try.func36 rfl (by decide) (fun O on hO => ?_)
  refine Does.at (can_spec s l cr ci co hni hno hnr) [0, 1, 2] rfl ⟨rfl, rfl, rfl, trivial⟩ (by decide) ?_ ?_
  · rintro v h' ⟨_, rfl⟩
    exact ⟨.inr (.inr rfl), .inr (.inr rfl), .inr (.inr rfl), trivial⟩
  · rintro v h' ⟨rfl, rfl⟩
    rw [hc]
    exact ⟨_, _, [0, 1, 2], ⟨rfl, rfl⟩, by decide, ⟨rfl, rfl, rfl, trivial⟩, eqvE_refl _, ⟨⟨_, rfl, eqvB_refl _⟩, ⟨_, rfl, eqvB_refl _⟩, ⟨_, rfl, eqvB_refl _⟩, trivial⟩⟩
theorem from_yes (s : BusV) (l : Lists) (cr ci co : Nat) (hc : s.can = true) :
    Does TB 36 [.agg (s.segs (.gs 0 0 s.nr cr) (.gs 1 0 s.ni ci) (.gs 2 0 s.no co))] (l.blks s) (fun v h' => ∃ c3 c4 c5, s.nr ≤ c3 ∧ s.ni ≤ c4 ∧ s.no ≤ c5 ∧ v = .tuple [.s (.ptr 3 0), .s (.int .i64 0)] ∧
      h' = l.blks s ++ [.cells true (s.dev 0 (.gs 4 0 s.nr c3) (.gs 5 0 s.ni c4) (.gs 6 0 s.no c5)) 0, bblk true s.nr l.ram (c3 - s.nr), bblk true s.ni l.inp (c4 - s.ni), bblk true s.no l.out (c5 - s.no)]) := by
  have hcan := hc
  unfold BusV.can at hcan
  rw [decide_eq_true_eq] at hcan
  refine fnX_does TB Try.func36 rfl (by decide) (fun O on hO => ?_)
  refine Does.at (can_spec s l cr ci co (by omega) (by omega) (by omega)) [0, 1, 2] rfl ⟨rfl, rfl, rfl, trivial⟩ (by decide) ?_ ?_
  · rintro v h' ⟨_, rfl⟩
    exact ⟨.inr (.inr rfl), .inr (.inr rfl), .inr (.inr rfl), trivial⟩
  · rintro v h' ⟨rfl, rfl⟩
    rw [hc]
    refine Does.at (own_spec l.mr s.nr 0 s.nr cr l.sr l.ram l.ram (by omega) (by omega) (fun j _ => by rw [Nat.zero_add])) [0] rfl ⟨rfl, trivial⟩ (by decide) ?_ ?_
    · rintro v h' ⟨cap, _, _, rfl⟩
      exact ⟨.inr (.inr rfl), .inl rfl, trivial⟩
    · rintro v h' ⟨c3, hc3, rfl, rfl⟩
      refine need_intro rfl ?_
      refine need_intro rfl ?_
      refine draw_but [4] on rfl (fun _ _ h => h) ?_
      refine Does.at (set_spec s { s with ier := 0#8, lcr := 0#8, mcr := 0#8, scratch := 0#8, overrun := false } l cr ci co c3 (c3 - s.nr) (by omega) (by omega)) [0, 1, 2, 5, 4] rfl ⟨rfl, rfl, rfl, rfl, rfl, trivial⟩ (by decide) ?_ ?_
      · rintro v h' ⟨c5, c6, _, _, _, rfl⟩
        exact ⟨.inr (.inr rfl), .inr (.inr rfl), .inr (.inr rfl), .inl rfl, .inl rfl, .inl rfl, .inl rfl, trivial⟩
      · rintro v h' ⟨c5, c6, hc5, hc6, rfl, rfl⟩
        repeat (refine need_intro rfl ?_)
        exact ⟨_, _, [0, 1, 2, 4, 5, 6, 7], ⟨c3, c5, c6, hc3, hc5, hc6, rfl, rfl⟩, by decide, ⟨rfl, rfl, rfl, trivial⟩, eqvE_refl _,
          ⟨⟨_, rfl, eqvB_refl _⟩, ⟨_, rfl, eqvB_refl _⟩, ⟨_, rfl, eqvB_refl _⟩, ⟨_, rfl, eqvB_refl _⟩, ⟨_, rfl, eqvB_refl _⟩, ⟨_, rfl, eqvB_refl _⟩, ⟨_, rfl, eqvB_refl _⟩, trivial⟩⟩
end Go.Proofs.Ytghcdkpgcanpgaa
