/- The engine, part 9b: stores that no order can tell apart. Plain theorems; their condition: the stores' places are apart. -/
import Derived.Test.YtghcdkpgcanpgaaE9
namespace Go.Anv
open Go

theorem modify_comm {α : Type} (h : Array α) (i j : Nat) (f g : α → α) (hc : i ≠ j ∨ ∀ x, f (g x) = g (f x)) : (h.modify i f).modify j g = (h.modify j g).modify i f := by
  apply Array.ext_getElem?
  intro k
  simp only [Array.getElem?_modify]
  by_cases hi : i = k <;> by_cases hj : j = k <;> simp only [hi, hj, if_true, if_false]
  rcases hc with hc | hc
  · exact absurd (hi.trans hj.symm) hc
  · cases h[k]? with
    | none => rfl
    | some x => simp [hc]

theorem setCell_comm (w : World) (x y : Addr) (u v : Value) (h : x.block ≠ y.block ∨ x.off ≠ y.off) : (w.setCell x u).setCell y v = (w.setCell y v).setCell x u := by
  unfold World.setCell
  simp only
  rw [modify_comm]
  rcases h with h | h
  · exact .inl h
  · refine .inr fun o => ?_
    cases o with
    | cells c e fr =>
      simp only
      by_cases hx : x.spot.isSome = true <;> by_cases hy : y.spot.isSome = true <;> simp only [hx, hy, if_true, if_false, Bool.false_eq_true]
      congr 1
      apply Array.ext_getElem?
      intro k
      simp only [Array.getElem?_setIfInBounds, Array.size_setIfInBounds]
      by_cases h1 : x.off = k <;> by_cases h2 : y.off = k <;> simp only [h1, h2, if_true, if_false]
      exact absurd (h1.trans h2.symm) h
    | _ => rfl

theorem setCell_setCells (b : Nat) : ∀ (vs : List Value) (o : Nat) (w : World) (x : Addr) (u : Value), (x.block ≠ b ∨ x.off < o ∨ o + vs.length ≤ x.off) → (w.setCell x u).setCells b o vs = (w.setCells b o vs).setCell x u
  | [], _, _, _, _, _ => rfl
  | v :: r, o, w, x, u, h => by
    simp only [World.setCells]
    rw [setCell_comm w x ⟨b, o, none⟩ u v (by simp only [List.length_cons] at h; simp only; omega)]
    exact setCell_setCells b r (o + 1) _ x u (by simp only [List.length_cons] at h; omega)

/-- A store: where, what. -/
structure Sto where
  B : Nat
  O : Nat
  vs : List Value

def Sto.on (x : Sto) (w : World) : World := w.setCells x.B x.O x.vs

def Sto.off (x y : Sto) : Prop := x.B ≠ y.B ∨ x.O + x.vs.length ≤ y.O ∨ y.O + y.vs.length ≤ x.O

theorem setCells_comm (b' : Nat) (vs' : List Value) (o' : Nat) (b : Nat) : ∀ (vs : List Value) (o : Nat) (w : World), (b ≠ b' ∨ o + vs.length ≤ o' ∨ o' + vs'.length ≤ o) →
    (w.setCells b o vs).setCells b' o' vs' = (w.setCells b' o' vs').setCells b o vs
  | [], _, _, _ => rfl
  | v :: r, o, w, h => by
    simp only [World.setCells]
    rw [setCells_comm b' vs' o' b r (o + 1) _ (by simp only [List.length_cons] at h; omega), setCell_setCells]
    simp only [List.length_cons] at h
    simp only
    by_cases hv : vs'.length = 0
    · right; omega
    · omega

theorem Sto.comm {x y : Sto} (h : x.off y) (w : World) : y.on (x.on w) = x.on (y.on w) := setCells_comm _ _ _ _ _ _ _ h

theorem Sto.off_symm {x y : Sto} (h : x.off y) : y.off x := by
  unfold Sto.off at *
  omega

def Sto.can (x : Sto) (w : World) : Prop := ∀ j, j < x.vs.length → (∃ v, w.cell? ⟨x.B, x.O + j, none⟩ = some v) ∧ w.frozen? ⟨x.B, x.O + j, none⟩ = false

theorem Sto.can_on {x y : Sto} (h : x.off y) {w : World} (hc : x.can w) : x.can (y.on w) := by
  intro j hj
  obtain ⟨h1, h2⟩ := hc j hj
  unfold Sto.on
  refine ⟨?_, by rw [World.frozen?_setCells]; exact h2⟩
  rw [cell?_setCells_out]
  · exact h1
  · simp only
    unfold Sto.off at h
    omega

def allOn (sp : Nat → Sto) : List Nat → World → World
  | [], w => w
  | i :: r, w => allOn sp r ((sp i).on w)

theorem allOn_first (sp : Nat → Sto) : ∀ (l : List Nat) (i : Nat) (w : World), i ∈ l → l.Nodup → (∀ a ∈ l, ∀ b ∈ l, a ≠ b → (sp a).off (sp b)) → allOn sp (l.filter (· != i)) ((sp i).on w) = allOn sp l w
  | [], i, w, h, _, _ => by cases h
  | x :: r, i, w, h, hn, hap => by
    rw [List.nodup_cons] at hn
    by_cases hx : x = i
    · subst hx
      have : (x :: r).filter (· != x) = r := by
        rw [List.filter_cons]
        simp only [bne_self_eq_false, Bool.false_eq_true, if_false]
        rw [List.filter_eq_self]
        intro a ha
        simp only [bne_iff_ne, ne_eq]
        rintro rfl
        exact hn.1 ha
      rw [this]
      rfl
    · have hi : i ∈ r := by
        rcases List.mem_cons.1 h with h | h
        · exact absurd h.symm hx
        · exact h
      have : (x :: r).filter (· != i) = x :: r.filter (· != i) := by
        rw [List.filter_cons]
        simp [hx]
      rw [this]
      simp only [allOn]
      rw [Sto.comm (hap i h x List.mem_cons_self (fun e => hx e.symm))]
      exact allOn_first sp r i _ hi hn.2 fun a ha b hb => hap a (List.mem_cons_of_mem _ ha) b (List.mem_cons_of_mem _ hb)

/-- The operations that have not come up. -/
def unl (ops : Array Oper) (l : Array Bool) : List Nat := (List.range ops.size).filter fun j => !l.getD j true

/-- **Stores at places that are apart, in whatever order.** -/
theorem stores_any {P : Program} {ops : Array Oper} {Q : Exit → Act → World → Prop} {S : World → Prop} (sp : Nat → Sto) (a : Act) :
    ∀ (n : Nat) (l : Array Bool) (w : World), l.size = ops.size → (unl ops l).length ≤ n → S w →
    (∀ i ∈ unl ops l, ∃ o, ops[i]? = some o ∧ Region.wanted o (yielded ops a.tmps) = true ∧ o.dst = none ∧ (∀ e ∈ o.after, Region.binds .any e = true → l.getD e.on false = true) ∧
      ∀ w', (sp i).can w' → (execOp a.eval o).run P w' = .ok .skip ((sp i).on w')) →
    (∀ i ∈ unl ops l, ∀ j ∈ unl ops l, i ≠ j → (sp i).off (sp j)) → (∀ i ∈ unl ops l, (sp i).can w) → (∀ i ∈ unl ops l, ∀ w', S w' → S ((sp i).on w')) →
    Q .normal a (allOn sp (unl ops l) w) → wpAnyH P .any ops Q S n l a w := by
  intro n
  induction n with
  | zero =>
    intro l w hsz hlen hS hop hap hcan hst hq
    have hnil : unl ops l = [] := List.length_eq_zero_iff.1 (by omega)
    refine ⟨?_, ?_⟩
    · unfold Region.ready
      rw [List.filter_eq_nil_iff]
      intro j hj
      have := List.filter_eq_nil_iff.1 hnil j hj
      simp only [Bool.not_eq_true, Bool.not_eq_false'] at this
      simp [this]
    · rw [hnil] at hq; exact hq
  | succ n ih =>
    intro l w hsz hlen hS hop hap hcan hst hq
    have hrdy : Region.ready .any ops l = unl ops l := by
      unfold Region.ready unl
      apply List.filter_congr
      intro j hj
      cases hlj : l.getD j true with
      | true => simp
      | false =>
        have hm : j ∈ unl ops l := List.mem_filter.2 ⟨hj, by simp [hlj]⟩
        obtain ⟨o, ho, _, _, haf, _⟩ := hop j hm
        simp only [ho, Bool.not_false, Bool.true_and, Option.map_some, Option.getD_some]
        rw [Array.all_eq_true_iff_forall_mem]
        intro e he
        cases hb : Region.binds .any e with
        | false => rfl
        | true => simp [haf e he hb]
    rw [wpAnyH.eq_2]
    rw [hrdy]
    refine ⟨fun h => by rw [h] at hq; exact hq, fun i hi => ?_⟩
    obtain ⟨o, ho, hw, hd, haf, hrun⟩ := hop i hi
    unfold wpOp
    simp only [ho, hw, if_true]
    refine .inl ?_
    unfold Oper.wp
    rw [hrun w (hcan i hi), Oper.upon_skip, hd]
    refine ⟨hst i hi w hS, ?_⟩
    have hil : i < l.size := by
      have := (List.mem_filter.1 hi).1
      rw [hsz]
      exact List.mem_range.1 this
    have hunl : unl ops (l.setIfInBounds i true) = (unl ops l).filter (· != i) := by
      unfold unl
      rw [List.filter_filter]
      apply List.filter_congr
      intro j _
      by_cases hji : j = i
      · subst hji
        simp [hil]
      · have : (l.setIfInBounds i true).getD j true = l.getD j true := by
          simp only [Array.getD_eq_getD_getElem?]
          rw [Array.getElem?_setIfInBounds_ne (fun e => hji e.symm)]
        rw [this]
        simp [hji]
    have hmem : ∀ j, j ∈ unl ops (l.setIfInBounds i true) → j ∈ unl ops l ∧ j ≠ i := fun j hj => by
      rw [hunl] at hj
      obtain ⟨h1, h2⟩ := List.mem_filter.1 hj
      exact ⟨h1, by simpa using h2⟩
    refine ih (l.setIfInBounds i true) _ (by simp [hsz]) ?_ (hst i hi w hS) (fun j hj => ?_) (fun j hj k hk hjk => hap j (hmem j hj).1 k (hmem k hk).1 hjk) (fun j hj => ?_) (fun j hj => hst j (hmem j hj).1) ?_
    · rw [hunl]
      have : ((unl ops l).filter (· != i)).length < (unl ops l).length := by
        refine List.length_filter_lt_length_iff_exists.2 ⟨i, hi, by simp⟩
      omega
    · obtain ⟨o', h1, h2, h3, h4, h5⟩ := hop j (hmem j hj).1
      refine ⟨o', h1, h2, h3, fun e he hb => ?_, h5⟩
      have := h4 e he hb
      by_cases hei : e.on = i
      · rw [hei, Array.getD_eq_getD_getElem?, Array.getElem?_setIfInBounds_self_of_lt hil]
        rfl
      · rw [Array.getD_eq_getD_getElem?] at this ⊢
        rw [Array.getElem?_setIfInBounds_ne (fun e => hei e.symm)]
        exact this
    · exact Sto.can_on (hap j (hmem j hj).1 i hi (hmem j hj).2) (hcan j (hmem j hj).1)
    · rw [hunl, allOn_first sp _ i w hi (List.Pairwise.filter _ List.nodup_range) hap]
      exact hq

/-- Stores where no block of a small world lies. -/
theorem Sim.outside {E : Emb} {h : List Blk} {w : World} (S : Sim E h w) (x : Sto) (hx : ∀ j B, h[j]? = some B → ∀ o, x.O ≤ o → o < x.O + x.vs.length → ¬ cov (E.f j) B x.B o) : Sim E h (x.on w) := by
  unfold Sto.on
  have hcov : ∀ j B b o, h[j]? = some B → cov (E.f j) B b o → (w.setCells x.B x.O x.vs).cell? ⟨b, o, none⟩ = w.cell? ⟨b, o, none⟩ := fun j B b o hj hc => by
    apply cell?_setCells_out
    simp only
    by_cases hb : b = x.B
    · subst hb
      have : ¬ (x.O ≤ o ∧ o < x.O + x.vs.length) := fun hh => hx j B hj o hh.1 hh.2 hc
      omega
    · exact .inl hb
  refine ⟨S.n, fun j B hj => ?_, S.dis⟩
  have hb := S.ok j B hj
  cases B with
  | cells m cs sp =>
    obtain ⟨h1, ⟨l, h2, h3⟩, h4⟩ := hb
    refine ⟨by rw [size_setCells]; exact h1, ⟨l, h2, fun y v hy => ?_⟩, fun hm y hy => ?_⟩
    · rw [hcov j _ _ _ hj]
      · exact h3 y v hy
      · have := denS_length h2
        have : y < l.length := by
          rcases Nat.lt_or_ge y l.length with h' | h'
          · exact h'
          · rw [List.getElem?_eq_none h'] at hy; cases hy
        exact ⟨rfl, by omega, by omega⟩
    · rw [hcov j _ _ _ hj ⟨rfl, by omega, by omega⟩]
      exact ⟨(h4 hm y hy).1, rowOk_setCells (h4 hm y hy).2⟩
  | map es =>
    obtain ⟨l, c, h1, h2⟩ := hb
    exact ⟨l, c, map_setCells _ _ _ _ _ _ _ h1, h2⟩
  | dead => trivial

/-! ### the walker's part -/

/-- A store's place: the block, the offset, how many cells. -/
def stoK (T : Tbl) (ts : List EV) (h : List Blk) (o : Oper) : Option (Nat × Nat × Nat) :=
  match o.guard, o.dst, o.op with
  | none, none, .store t x v => match T.ty t, evT ts x, segsOf (evT ts v) with
    | some i, .s (.ptr b off), some new => match Nat.beq (sizeS new) i.size && Nat.ble 1 i.size, nthB h b with
      | true, some (.cells true cs _) => match Nat.ble (off + i.size) (sizeS cs) with
        | true => some (b, off, i.size)
        | false => none
      | _, _ => none
    | _, _, _ => none
  | _, _, _ => none

def offB (x y : Nat × Nat × Nat) : Bool := !(Nat.beq x.1 y.1) || (Nat.ble (x.2.1 + x.2.2) y.2.1 || Nat.ble (y.2.1 + y.2.2) x.2.1)

def offAll (p : Nat × Nat × Nat) : List (Nat × Nat × Nat) → Bool
  | [] => true
  | q :: r => offB p q && offAll p r

def deadAt (h0 : List Blk) (b : Nat) : Bool :=
  match nthB h0 b with
  | some .dead => true
  | none => true
  | _ => false

def tailGo (T : Tbl) (ts : List EV) (h h0 : List Blk) (l0 : List Bool) : List Oper → List Bool → List (Nat × Nat × Nat) → Bool
  | [], _, _ => true
  | _ :: r, true :: l, acc => tailGo T ts h h0 l0 r l acc
  | o :: r, false :: l, acc => match stoK T ts h o with
    | some p => waitB l0 o.after.toList && (offAll p acc && (deadAt h0 p.1 && tailGo T ts h h0 l0 r l (p :: acc)))
    | none => false
  | _ :: _, [], _ => false

def countF : List Bool → Nat
  | [] => 0
  | true :: r => countF r
  | false :: r => countF r + 1

def tailRun (T : Tbl) (ops : Array Oper) (l : List Oper) : List Bool → St → (St → Prop) → Prop :=
  List.rec (motive := fun _ => List Bool → St → (St → Prop) → Prop) (fun _ s k => k s) (fun o _ ih l s k => match l with
    | true :: l => ih l s k
    | false :: l => opX T ops s o fun s' => ih l s' k
    | [] => False) l

theorem offB_spec {x y : Nat × Nat × Nat} (h : offB x y = true) : x.1 ≠ y.1 ∨ x.2.1 + x.2.2 ≤ y.2.1 ∨ y.2.1 + y.2.2 ≤ x.2.1 := by
  simp only [offB, Bool.or_eq_true, Bool.not_eq_true', Nat.ble_eq] at h
  rcases h with h | h | h
  · exact .inl (Nat.ne_of_beq_eq_false h)
  · exact .inr (.inl h)
  · exact .inr (.inr h)

theorem offAll_spec {p : Nat × Nat × Nat} : ∀ {l : List (Nat × Nat × Nat)}, offAll p l = true → ∀ q ∈ l, offB p q = true
  | [], _, q, hq => by cases hq
  | x :: r, h, q, hq => by
    simp only [offAll, Bool.and_eq_true] at h
    rcases List.mem_cons.1 hq with rfl | hq
    · exact h.1
    · exact offAll_spec h.2 q hq

/-- What the look at the tail tells: each one's place; they are apart. -/
theorem tailGo_spec {T : Tbl} {ts : List EV} {h h0 : List Blk} {l0 : List Bool} : ∀ {ops : List Oper} {l : List Bool} {acc : List (Nat × Nat × Nat)}, tailGo T ts h h0 l0 ops l acc = true →
    (∀ (i : Nat) (o : Oper), ops[i]? = some o → l[i]? = some false → ∃ p, stoK T ts h o = some p ∧ waitB l0 o.after.toList = true ∧ deadAt h0 p.1 = true ∧ ∀ q ∈ acc, offB p q = true) ∧
    (∀ (i j : Nat) (o o' : Oper) p p', ops[i]? = some o → l[i]? = some false → ops[j]? = some o' → l[j]? = some false → i < j → stoK T ts h o = some p → stoK T ts h o' = some p' → offB p' p = true)
  | [], _, _, _ => ⟨fun i o ho => by simp at ho, fun i j o o' p p' ho => by simp at ho⟩
  | o0 :: r, true :: l, acc, ht => by
    obtain ⟨h1, h2⟩ := tailGo_spec (ops := r) (l := l) (acc := acc) ht
    refine ⟨fun i o ho hl => ?_, fun i j o o' p p' ho hl ho' hl' hij => ?_⟩
    · cases i with
      | zero => simp at hl
      | succ i => exact h1 i o (by simpa using ho) (by simpa using hl)
    · cases i with
      | zero => simp at hl
      | succ i =>
        cases j with
        | zero => omega
        | succ j => exact h2 i j o o' p p' (by simpa using ho) (by simpa using hl) (by simpa using ho') (by simpa using hl') (by omega)
  | o0 :: r, false :: l, acc, ht => by
    simp only [tailGo] at ht
    split at ht
    · rename_i p0 hp0
      simp only [Bool.and_eq_true] at ht
      obtain ⟨ha, hb, hc, hd⟩ := ht
      obtain ⟨h1, h2⟩ := tailGo_spec (ops := r) (l := l) (acc := p0 :: acc) hd
      refine ⟨fun i o ho hl => ?_, fun i j o o' p p' ho hl ho' hl' hij hp hp' => ?_⟩
      · cases i with
        | zero =>
          simp only [List.getElem?_cons_zero, Option.some.injEq] at ho
          subst ho
          exact ⟨p0, hp0, ha, hc, offAll_spec hb⟩
        | succ i =>
          obtain ⟨p, k1, k2, k3, k4⟩ := h1 i o (by simpa using ho) (by simpa using hl)
          exact ⟨p, k1, k2, k3, fun q hq => k4 q (List.mem_cons_of_mem _ hq)⟩
      · cases j with
        | zero => omega
        | succ j =>
          cases i with
          | zero =>
            simp only [List.getElem?_cons_zero, Option.some.injEq] at ho
            subst ho
            rw [hp0] at hp
            simp only [Option.some.injEq] at hp
            subst hp
            obtain ⟨p, k1, k2, k3, k4⟩ := h1 j o' (by simpa using ho') (by simpa using hl')
            rw [k1] at hp'
            simp only [Option.some.injEq] at hp'
            subst hp'
            exact k4 p0 List.mem_cons_self
          | succ i => exact h2 i j o o' p p' (by simpa using ho) (by simpa using hl) (by simpa using ho') (by simpa using hl') (by omega) hp hp'
    · cases ht
  | _ :: _, [], _, ht => by simp [tailGo] at ht

/-- The store that an operation is, in a world. -/
def stoOf (E : Emb) (T : Tbl) (ts : List EV) (h : List Blk) (a : Act) (o : Oper) : Sto :=
  match stoK T ts h o, o.op with
  | some (b, off, _), .store _ _ v => ⟨(E.f b).1, (E.f b).2 + off, (a.eval v).cells.toList⟩
  | _, _ => ⟨0, 0, []⟩

theorem stoK_spec (T : Tbl) {O : Org} {E : Emb} {s : St} {a : Act} {w : World} (R : Rel O E s a w) {ops : Array Oper} {o : Oper} {b off n : Nat} (h : stoK T s.tmps s.heap o = some (b, off, n)) :
    Region.wanted o (yielded ops a.tmps) = true ∧ o.dst = none ∧ (∃ cs sp, s.heap[b]? = some (.cells true cs sp) ∧ off + n ≤ sizeS cs ∧ 1 ≤ n) ∧ (stoOf E T s.tmps s.heap a o).B = (E.f b).1 ∧ (stoOf E T s.tmps s.heap a o).O = (E.f b).2 + off ∧
      (stoOf E T s.tmps s.heap a o).vs.length = n ∧ (stoOf E T s.tmps s.heap a o).can w ∧ ∀ w', (stoOf E T s.tmps s.heap a o).can w' → (execOp a.eval o).run T.P w' = .ok .skip ((stoOf E T s.tmps s.heap a o).on w') := by
  have h' := h
  unfold stoK at h
  split at h
  · rename_i t x v hg hd hop
    split at h
    · rename_i i b' off' new ht hx hv
      split at h
      · rename_i cs sp hsz hb
        split at h
        · rename_i hle
          simp only [Option.some.injEq, Prod.mk.injEq] at h
          obtain ⟨rfl, rfl, rfl⟩ := h
          simp only [Bool.and_eq_true] at hsz
          obtain ⟨hsz, hpos⟩ := hsz
          have hpos := Nat.le_of_ble_eq_true hpos
          have hsz := Nat.eq_of_beq_eq_true hsz
          have hle := Nat.le_of_ble_eq_true hle
          have hb := nthB_get hb
          have hxd := ev_denE R.fr x
          have hvd := segsOf_den (ev_denE R.fr v) hv
          have hx' : s.ev x = .s (.ptr b' off') := hx
          rw [hx'] at hxd
          simp only [denE, denV] at hxd
          have hlen : (a.eval v).cells.toList.length = i.size := by rw [denS_length hvd, hsz]
          have hst : stoOf E T s.tmps s.heap a o = ⟨(E.f b').1, (E.f b').2 + off', (a.eval v).cells.toList⟩ := by
            unfold stoOf
            rw [h', hop]
          rw [hst]
          refine ⟨by simp [Region.wanted, hg], hd, ⟨cs, sp, hb, hle, hpos⟩, rfl, rfl, hlen, fun j hj => ?_, fun w' hc => ?_⟩
          · simp only at hj ⊢
            obtain ⟨_, _, hm⟩ := R.sim.ok b' _ hb
            obtain ⟨⟨y, hy⟩, hr⟩ := hm rfl (off' + j) (by omega)
            rw [Nat.add_assoc]
            exact ⟨⟨y, hy⟩, hr.frozen hy⟩
          · have h4 := run_sizeOf_ti T ht w'
            have h5 := run_storeCells_cells (P := T.P) (E.f b').1 ((E.f b').2 + off') (a.eval v).cells.toList 0 w' (fun j hj => by
                obtain ⟨⟨y, hy⟩, _⟩ := hc j hj
                simp only at hy
                rw [Nat.add_zero, hy]; rfl) (fun j hj => by
                obtain ⟨_, hf⟩ := hc j hj
                simp only at hf
                rw [Nat.add_zero]; exact hf) (fun y hy => denS_oneCell hvd y hy)
            simp only [Nat.add_zero] at h5
            have hsz2 : (a.eval v).cells.size = i.size := by rw [← Array.length_toList]; exact hlen
            unfold execOp
            simp only [hop, hxd.2, Instr.storeAt, Instr.sureAddr, pure_bind, storeVar, Sem.run_bind, h4, Result.andThen_ok, hsz2, ne_eq, not_true_eq_false, if_false]
            have h6 : ((storeCells (E.at b' off') (a.eval v).cells.toList 0).run T.P w') = _ := h5
            rw [h6]
            rfl
        · cases h
      · cases h
    · cases h
  · cases h

theorem sto_off (T : Tbl) {O : Org} {E : Emb} {s : St} {a : Act} {w : World} (R : Rel O E s a w) (ops : Array Oper) {o o' : Oper} {p p' : Nat × Nat × Nat} (h : stoK T s.tmps s.heap o = some p) (h' : stoK T s.tmps s.heap o' = some p') (hp : offB p' p = true) :
    (stoOf E T s.tmps s.heap a o).off (stoOf E T s.tmps s.heap a o') := by
  obtain ⟨b, off, n⟩ := p
  obtain ⟨b', off', n'⟩ := p'
  obtain ⟨_, _, ⟨cs, sp, k1, k2, k3⟩, k4, k5, k6, _⟩ := stoK_spec T R (ops := ops) h
  obtain ⟨_, _, ⟨cs', sp', q1, q2, q3⟩, q4, q5, q6, _⟩ := stoK_spec T R (ops := ops) h'
  have hp := offB_spec hp
  simp only at hp
  unfold Sto.off
  rw [k4, k5, k6, q4, q5, q6]
  by_cases hb : b = b'
  · subst hb; omega
  · by_cases hB : (E.f b).1 = (E.f b').1
    · refine Classical.byContradiction fun hn => ?_
      have hx : ∃ x, (E.f b).2 + off ≤ x ∧ x < (E.f b).2 + off + n ∧ (E.f b').2 + off' ≤ x ∧ x < (E.f b').2 + off' + n' := by
        by_cases hle : (E.f b).2 + off ≤ (E.f b').2 + off'
        · exact ⟨(E.f b').2 + off', by omega⟩
        · exact ⟨(E.f b).2 + off, by omega⟩
      obtain ⟨x, x1, x2, x3, x4⟩ := hx
      refine R.sim.dis b b' _ _ hb k1 q1 rfl (E.f b).1 x ⟨rfl, by omega, by omega⟩ ⟨hB, by omega, by omega⟩
    · exact .inl hB

theorem unl_suffix (l : List Bool) : ∀ (n : Nat) (r : List Bool), (l = l.take n ++ r ∧ n ≤ l.length) → ((List.range' n r.length).filter fun j => !l.toArray.getD j true).length = countF r
  | n, [], _ => rfl
  | n, b :: r, h => by
    have h1 : l[n]? = some b := by
      rw [h.1, List.getElem?_append_right (by simp; omega)]
      simp [Nat.min_eq_left h.2]
    have hn : n < l.length := by
      rcases Nat.lt_or_ge n l.length with h' | h'
      · exact h'
      · rw [List.getElem?_eq_none h'] at h1; cases h1
    have h2 : l = l.take (n + 1) ++ r := by
      have e : l.drop n = b :: r := by
        have := congrArg (List.drop n) h.1
        rw [List.drop_append, List.length_take, Nat.min_eq_left h.2] at this
        simpa using this
      have e2 : l.drop (n + 1) = r := by
        have := congrArg (List.drop 1) e
        simpa [List.drop_drop] using this
      rw [← e2, List.take_append_drop]
    have ih := unl_suffix l (n + 1) r ⟨h2, hn⟩
    rw [List.length_cons, List.range'_succ, List.filter_cons]
    have h3 : l.toArray.getD n true = b := by simp [h1]
    rw [h3]
    cases b with
    | true => simpa [countF] using ih
    | false => simpa [countF] using ih

theorem unl_length {ops : Array Oper} {l : List Bool} (h : l.length = ops.size) : (unl ops l.toArray).length = countF l := by
  unfold unl
  rw [← h, List.range_eq_range']
  exact unl_suffix l 0 l ⟨by simp, Nat.zero_le _⟩

theorem get_nthB : ∀ {h : List Blk} {b : Nat} {B : Blk}, h[b]? = some B → nthB h b = some B
  | [], _, _, h => by simp at h
  | x :: r, 0, _, h => by simpa [nthB] using h
  | x :: r, b + 1, _, h => by simp only [nthB]; exact get_nthB (by simpa using h)

/-- The store of the operation with this number. -/
def stoN (E : Emb) (T : Tbl) (ts : List EV) (h : List Blk) (a : Act) (ops : Array Oper) (i : Nat) : Sto :=
  match ops[i]? with
  | some o => stoOf E T ts h a o
  | none => ⟨0, 0, []⟩

theorem tail_run {T : Tbl} {O : Org} (on : O.E.n = O.h.length) {ops : Array Oper} {a : Act} {Q : Exit → Act → World → Prop} {k : St → Prop} (sp : Nat → Sto) (hn : ∀ E' s' w', k s' → Rel O E' s' a w' → Q .normal a w')
    (l : List Bool) (hl : l.length = ops.size) : ∀ (r : List Oper) (m : List Bool) (i : Nat) {E : Emb} {s : St} {w : World}, ops.toList = ops.toList.take i ++ r → l = l.take i ++ m → i ≤ l.length → Rel O E s a w → tailRun T ops r m s k →
      (∀ j ∈ (List.range' i m.length).filter (fun j => !l.toArray.getD j true), ∃ o, ops[j]? = some o ∧ Region.wanted o (yielded ops a.tmps) = true ∧ o.dst = none ∧ ∀ w', (sp j).can w' → (execOp a.eval o).run T.P w' = .ok .skip ((sp j).on w')) →
      ((List.range' i m.length).filter (fun j => !l.toArray.getD j true)).Pairwise (fun x y => (sp x).off (sp y)) →
      (∀ j ∈ (List.range' i m.length).filter (fun j => !l.toArray.getD j true), (sp j).can w) →
      Q .normal a (allOn sp ((List.range' i m.length).filter fun j => !l.toArray.getD j true) w)
  | [], m, i, E, s, w, h1, h2, h3, R, hk, hop, hap, hcan => by
    have hm : m = [] := by
      have e1 := congrArg List.length h1
      have e2 := congrArg List.length h2
      simp only [List.length_append, List.length_take, Array.length_toList, List.length_nil] at e1 e2
      exact List.length_eq_zero_iff.1 (by omega)
    subst hm
    exact hn _ _ _ hk R
  | o :: r, [], i, E, s, w, h1, h2, h3, R, hk, hop, hap, hcan => hk.elim
  | o :: r, b :: m, i, E, s, w, h1, h2, h3, R, hk, hop, hap, hcan => by
    have hb : l[i]? = some b := by
      rw [h2, List.getElem?_append_right (by simp; omega)]
      simp [Nat.min_eq_left h3]
    have hil : i < l.length := by
      rcases Nat.lt_or_ge i l.length with h' | h'
      · exact h'
      · rw [List.getElem?_eq_none h'] at hb; cases hb
    have ho : ops[i]? = some o := by
      rw [← Array.getElem?_toList, h1, List.getElem?_append_right (by simp; omega)]
      have : i ≤ ops.toList.length := by rw [Array.length_toList]; omega
      rw [List.length_take, Nat.min_eq_left this, Nat.sub_self]
      rfl
    have next : ∀ {α : Type} {x : List α} {y : α} {z : List α}, x = x.take i ++ y :: z → i ≤ x.length → x = x.take (i + 1) ++ z := fun {α x y z} he hi => by
      have e : x.drop i = y :: z := by
        have := congrArg (List.drop i) he
        rw [List.drop_append, List.length_take, Nat.min_eq_left hi] at this
        simpa using this
      have e2 : x.drop (i + 1) = z := by
        have := congrArg (List.drop 1) e
        simpa [List.drop_drop] using this
      rw [← e2, List.take_append_drop]
    have n1 := next h1 (by rw [Array.length_toList]; omega)
    have n2 := next h2 h3
    rw [List.length_cons, List.range'_succ, List.filter_cons] at hop hap hcan ⊢
    have hg : l.toArray.getD i true = b := by simp [hb]
    rw [hg] at hop hap hcan ⊢
    cases b with
    | true =>
      simp only [Bool.not_true, Bool.false_eq_true, if_false] at hop hap hcan ⊢
      exact tail_run on sp hn l hl r m (i + 1) n1 n2 hil R hk hop hap hcan
    | false =>
      simp only [Bool.not_false, if_true] at hop hap hcan ⊢
      obtain ⟨o', ho', hw, hd, hrun⟩ := hop i List.mem_cons_self
      rw [ho] at ho'
      simp only [Option.some.injEq] at ho'
      subst ho'
      have hk' : opX T ops s o fun s' => tailRun T ops r m s' k := hk
      have h5 := opX_snd on R hk' (next := fun a' w' => ∃ E' s', tailRun T ops r m s' k ∧ Rel O E' s' a' w') (Q := Q) (fun E' s' a' w' h1 h2 => ⟨E', s', h1, h2⟩)
      rw [if_pos hw] at h5
      unfold Oper.wp at h5
      rw [hrun w (hcan i List.mem_cons_self), Oper.upon_skip, hd] at h5
      obtain ⟨E', s', h6, h7⟩ := h5
      rw [List.pairwise_cons] at hap
      simp only [allOn]
      refine tail_run on sp hn l hl r m (i + 1) n1 n2 hil h7 h6 (fun j hj => hop j (List.mem_cons_of_mem _ hj)) hap.2 (fun j hj => ?_)
      exact Sto.can_on (Sto.off_symm (hap.1 j hj)) (hcan j (List.mem_cons_of_mem _ hj))

end Go.Anv
