/- The engine, part 2b: '==' of structs and arrays of whole numbers and truth values. Plain lemmas; their condition: what the program's table says of the type. -/
import Derived.Test.YtghcdkpgcanpgaaE2
import Derived.Laws.StructEq
namespace Go.Anv
open Go

/-- What a cell, or a run of cells, is. -/
inductive KS where
  | int (k : IntKind)
  | bool
  | arr (k : IntKind) (n : Nat)

def sizeK : List KS → Nat
  | [] => 0
  | .int _ :: r => sizeK r + 1
  | .bool :: r => sizeK r + 1
  | .arr _ n :: r => n + sizeK r

def fitV : List KS → List Value → Prop
  | [], l => l = []
  | .int k :: r, l => ∃ a l', l = .int k a :: l' ∧ fitV r l'
  | .bool :: r, l => ∃ b l', l = .bool b :: l' ∧ fitV r l'
  | .arr k n :: r, l => ∃ f l', l = intsOf k n f ++ l' ∧ fitV r l'

def cellsEq : List Value → List Value → Bool
  | [], [] => true
  | .int _ a :: r, .int _ b :: r' => (a == b) && cellsEq r r'
  | .bool a :: r, .bool b :: r' => (a == b) && cellsEq r r'
  | _, _ => false

theorem fitV_length : ∀ {ks : List KS} {l : List Value}, fitV ks l → l.length = sizeK ks
  | [], _, h => by simp only [fitV] at h; subst h; rfl
  | .int _ :: r, _, h => by simp only [fitV] at h; obtain ⟨a, l', rfl, h⟩ := h; simp [sizeK, fitV_length h]
  | .bool :: r, _, h => by simp only [fitV] at h; obtain ⟨a, l', rfl, h⟩ := h; simp [sizeK, fitV_length h]
  | .arr _ _ :: r, _, h => by simp only [fitV] at h; obtain ⟨a, l', rfl, h⟩ := h; simp [sizeK, fitV_length h, length_intsOf]

theorem sizeK_append : ∀ a b : List KS, sizeK (a ++ b) = sizeK a + sizeK b
  | [], b => by simp [sizeK]
  | .int _ :: r, b => by simp [sizeK, sizeK_append r b]; omega
  | .bool :: r, b => by simp [sizeK, sizeK_append r b]; omega
  | .arr _ _ :: r, b => by simp [sizeK, sizeK_append r b]; omega

theorem fitV_append : ∀ {a b : List KS} {l : List Value}, fitV (a ++ b) l → ∃ x y, l = x ++ y ∧ fitV a x ∧ fitV b y
  | [], b, l, h => ⟨[], l, rfl, rfl, h⟩
  | .int k :: r, b, l, h => by
    simp only [List.cons_append, fitV] at h
    obtain ⟨a, l', rfl, h⟩ := h
    obtain ⟨x, y, rfl, h1, h2⟩ := fitV_append h
    exact ⟨.int k a :: x, y, rfl, ⟨a, x, rfl, h1⟩, h2⟩
  | .bool :: r, b, l, h => by
    simp only [List.cons_append, fitV] at h
    obtain ⟨a, l', rfl, h⟩ := h
    obtain ⟨x, y, rfl, h1, h2⟩ := fitV_append h
    exact ⟨.bool a :: x, y, rfl, ⟨a, x, rfl, h1⟩, h2⟩
  | .arr k n :: r, b, l, h => by
    simp only [List.cons_append, fitV] at h
    obtain ⟨a, l', rfl, h⟩ := h
    obtain ⟨x, y, rfl, h1, h2⟩ := fitV_append h
    exact ⟨intsOf k n a ++ x, y, by simp, ⟨a, x, rfl, h1⟩, h2⟩

def plainV : Value → Bool
  | .int .. => true
  | .bool _ => true
  | _ => false

theorem cellsEq_append : ∀ {a b c d : List Value}, a.length = b.length → cellsEq (a ++ c) (b ++ d) = (cellsEq a b && cellsEq c d)
  | [], [], c, d, _ => by simp [cellsEq]
  | [], _ :: _, _, _, h => by simp at h
  | _ :: _, [], _, _, h => by simp at h
  | x :: a, y :: b, c, d, h => by
    have ih := cellsEq_append (a := a) (b := b) (c := c) (d := d) (by simpa using h)
    simp only [List.cons_append]
    cases x <;> cases y <;> simp only [cellsEq, ih, Bool.and_assoc, Bool.false_and]

theorem cellsEq_ints (k : IntKind) (n : Nat) (f g : Nat → Int) : cellsEq (intsOf k n f) (intsOf k n g) = (List.range n).all fun j => f j == g j := by
  unfold intsOf
  generalize List.range n = l
  induction l with
  | nil => rfl
  | cons x r ih => simp only [List.map_cons, cellsEq, List.all_cons, ih]

/-- The fields of a struct, one behind the other. -/
def PFn (R : TypeId → Bool → List KS → Prop) : Nat → List Field → List KS → Prop
  | _, [], ks => ks = []
  | o, f :: fs, ks => ∃ ag k1 k2, ks = k1 ++ k2 ∧ f.name ≠ "_" ∧ f.offset = o ∧ R f.type ag k1 ∧ PFn R (o + sizeK k1) fs k2

/-- A type of whole numbers and truth values alone; is it one of several cells? -/
def PTn (P : Program) : Nat → TypeId → Bool → List KS → Prop
  | 0, _, _, _ => False
  | n + 1, t, ag, ks => (∃ k, P.underlying t = some (.int k) ∧ ag = false ∧ ks = [.int k]) ∨ (P.underlying t = some .bool ∧ ag = false ∧ ks = [.bool]) ∨
      (∃ m e k, P.underlying t = some (.array m e) ∧ P.underlying e = some (.int k) ∧ (P.info? e).map (·.size) = some 1 ∧ (P.info? t).map (·.size) = some m ∧ ag = true ∧ ks = [.arr k m]) ∨
      (∃ fs, P.underlying t = some (.struct fs) ∧ P.stoodInHeld t = false ∧ (P.info? t).map (·.size) = some (sizeK ks) ∧ ag = true ∧ PFn (PTn P n) 0 fs.toList ks)

def mkV (ag : Bool) (l : List Value) : Value :=
  match ag, l with
  | true, l => .agg l.toArray
  | false, v :: _ => v
  | false, [] => .bool false

section
variable {P : Program}

theorem PTn.isAgg {n : Nat} {t : TypeId} {ag : Bool} {ks : List KS} (h : PTn P n t ag ks) (w : World) : (Go.isAgg t).run P w = .ok ag w := by
  cases n with
  | zero => exact h.elim
  | succ n =>
    unfold Go.isAgg
    rcases h with ⟨k, h, rfl, _⟩ | ⟨h, rfl, _⟩ | ⟨m, e, k, h, _, _, _, rfl, _⟩ | ⟨fs, h, _, _, rfl, _⟩ <;> simp [run_underlying h]

theorem PTn.size {n : Nat} {t : TypeId} {ks : List KS} (h : PTn P n t true ks) (w : World) : (sizeOf t).run P w = .ok (sizeK ks) w := by
  have key : ∀ {m : Nat}, (P.info? t).map (·.size) = some m → (sizeOf t).run P w = .ok m w := fun {m} h1 => by
    cases hq : P.info? t with
    | none => rw [hq] at h1; cases h1
    | some x =>
      rw [hq] at h1
      simp at h1
      simp [sizeOf, typeInfo, hq, h1]
  cases n with
  | zero => exact h.elim
  | succ n =>
    rcases h with ⟨k, h, h1, _⟩ | ⟨h, h1, _⟩ | ⟨m, e, k, h, _, _, hs, _, rfl⟩ | ⟨fs, h, _, hs, _, _⟩
    · cases h1
    · cases h1
    · simpa [sizeK] using key hs
    · exact key hs

theorem PTn.part {n : Nat} {t : TypeId} {ag : Bool} {ks : List KS} (h : PTn P n t ag ks) (w : World) {pre x post : List Value} (hx : fitV ks x) (xs : Array Value) (he : xs.toList = pre ++ (x ++ post)) :
    (Go.part t xs pre.length).run P w = .ok (mkV ag x) w := by
  have hag := h.isAgg w
  cases ag with
  | true =>
    have hsz := h.size w
    simp only [Go.part, Sem.run_bind, hag, Result.andThen_ok, if_true, hsz, Sem.run_pure, mkV]
    congr 2
    rw [← Array.toList_inj, Array.toList_extract, he, List.extract_eq_take_drop, List.drop_left, Nat.add_sub_cancel_left, ← fitV_length hx, List.take_left]
  | false =>
    have : ∃ v, x = [v] := by
      cases n with
      | zero => exact h.elim
      | succ n =>
        rcases h with ⟨k, h, h1, rfl⟩ | ⟨h, h1, rfl⟩ | ⟨m, e, k, h, _, _, hs, h1, rfl⟩ | ⟨fs, h, _, hs, h1, _⟩
        · obtain ⟨a, l', rfl, rfl⟩ := hx; exact ⟨_, rfl⟩
        · obtain ⟨a, l', rfl, rfl⟩ := hx; exact ⟨_, rfl⟩
        · cases h1
        · cases h1
    obtain ⟨v, rfl⟩ := this
    have hg : xs[pre.length]? = some v := by
      rw [← Array.getElem?_toList, he, List.getElem?_append_right (Nat.le_refl _)]
      simp
    simp [Go.part, hag, hg, mkV]

theorem PTn.eq : ∀ (n : Nat) {t : TypeId} {ag : Bool} {ks : List KS}, PTn P n t ag ks → ∀ {x y : List Value}, fitV ks x → fitV ks y → ∀ (d : Nat) (w : World), n < d → (Op.equalIn d t (mkV ag x) (mkV ag y)).run P w = .ok (cellsEq x y) w
  | 0, _, _, _, h, _, _, _, _, _, _, _ => h.elim
  | n + 1, t, ag, ks, h, x, y, hx, hy, 0, w, hd => by omega
  | n + 1, t, ag, ks, h, x, y, hx, hy, d + 1, w, hd => by
    rcases h with ⟨k, h, rfl, rfl⟩ | ⟨h, rfl, rfl⟩ | ⟨m, e, k, h, h1, h2, h3, rfl, rfl⟩ | ⟨fs, h, h1, h2, rfl, h3⟩
    · obtain ⟨a, _, rfl, rfl⟩ := hx
      obtain ⟨b, _, rfl, rfl⟩ := hy
      simp only [mkV, cellsEq, Bool.and_true]
      exact run_equalIn_int w d t k k a b h
    · obtain ⟨a, _, rfl, rfl⟩ := hx
      obtain ⟨b, _, rfl, rfl⟩ := hy
      simp only [mkV, cellsEq, Bool.and_true]
      exact run_equalIn_bool' w d t a b h
    · obtain ⟨f, _, rfl, rfl⟩ := hx
      obtain ⟨g, _, rfl, rfl⟩ := hy
      simp only [List.append_nil, mkV, cellsEq_ints]
      have heq : ∀ (a b : Int) (w : World), (Op.equalIn d e (.int k a) (.int k b)).run P w = .ok (a == b) w := fun a b w => by
        obtain ⟨d, rfl⟩ : ∃ d', d = d' + 1 := ⟨d - 1, by omega⟩
        exact run_equalIn_int w d e k k a b h1
      have hsz : ∀ w, (sizeOf e).run P w = .ok 1 w := fun w => by
        cases hq : P.info? e with
        | none => rw [hq] at h2; cases h2
        | some x =>
          rw [hq] at h2
          simp at h2
          simp [sizeOf, typeInfo, hq, h2]
      have hag : ∀ w, (Go.isAgg e).run P w = .ok false w := fun w => by
        unfold Go.isAgg
        simp [run_underlying h1]
      have hpart : ∀ (f : Nat → Int) (i : Nat) (w : World), i < m → (Go.part e (intsOf k m f).toArray (i * 1)).run P w = .ok (.int k (f i)) w := fun f i w hi => by
        have hg : (intsOf k m f).toArray[i]? = some (.int k (f i)) := by simpa using intsOf_get hi
        simp [Go.part, hag, hg]
      simp only [Op.equalIn, Sem.run_bind, run_underlying h, Result.andThen_ok, hsz]
      rw [Std.Legacy.Range.forIn_eq_forIn_range']
      have loop : ∀ (c i : Nat) (w : World), i + c = m → (Sem.run P (forIn (List.range' i c 1) (none, PUnit.unit) fun i r => do
            if (!(← Op.equalIn d e (← Go.part e (intsOf k m f).toArray (i * 1)) (← Go.part e (intsOf k m g).toArray (i * 1)))) = true then pure (ForInStep.done (some false, PUnit.unit))
            else pure (ForInStep.yield (none, PUnit.unit))) w) =
          .ok (if (List.range' i c).all (fun j => f j == g j) then (none, PUnit.unit) else (some false, PUnit.unit)) w := by
        intro c
        induction c with
        | zero => intro i w _; simp
        | succ c ih =>
          intro i w hi
          have he := heq (f i) (g i) w
          rw [List.range'_succ, List.forIn_cons]
          simp only [Sem.run_bind, hpart f i _ (by omega), hpart g i _ (by omega), Result.andThen_ok, he]
          by_cases hfg : f i = g i
          · have hb : (f i == g i) = true := by simpa using hfg
            simp only [hb, Bool.not_true, Bool.false_eq_true, if_false, Sem.run_pure, Result.andThen_ok, List.all_cons, Bool.true_and]
            exact ih (i + 1) w (by omega)
          · have hb : (f i == g i) = false := by simpa using hfg
            simp only [hb, Bool.not_false, if_true, Sem.run_pure, Result.andThen_ok, List.all_cons, Bool.false_and, Bool.false_eq_true, if_false]
      have h4 := loop m 0 w (by omega)
      have h5 : [:m].size = m := by simp [Std.Legacy.Range.size]
      rw [h5]
      refine (congrArg (fun r => Result.andThen r _) h4).trans ?_
      rw [List.range_eq_range']
      cases hall : (List.range' 0 m).all (fun j => f j == g j) <;> simp
    · have hft : P.fieldsOf t = fs := by simp [Program.fieldsOf, h]
      have key : ∀ (fs : List Field) (o : Nat) (ks : List KS) (px py x y : List Value), PFn (PTn P n) o fs ks → fitV ks x → fitV ks y → px.length = o → py.length = o → ∀ xs ys : Array Value, xs.toList = px ++ x → ys.toList = py ++ y →
          ∀ w, (Op.eqFields d xs ys fs).run P w = .ok (cellsEq x y) w := by
        intro fs
        induction fs with
        | nil =>
          intro o ks px py x y hf hx hy _ _ xs ys _ _ w
          simp only [PFn] at hf
          subst hf
          simp only [fitV] at hx hy
          subst hx hy
          simp [Op.eqFields, cellsEq]
        | cons f fs ih =>
          intro o ks px py x y hf hx hy hpx hpy xs ys hxs hys w
          simp only [PFn] at hf
          obtain ⟨ag, k1, k2, rfl, hn, ho, ht, hf⟩ := hf
          obtain ⟨x1, x2, rfl, hx1, hx2⟩ := fitV_append hx
          obtain ⟨y1, y2, rfl, hy1, hy2⟩ := fitV_append hy
          have p1 := ht.part w hx1 xs hxs
          have p2 := ht.part w hy1 ys hys
          have he := PTn.eq n ht hx1 hy1 d w (by omega)
          rw [hpx] at p1
          rw [hpy] at p2
          have l1 := fitV_length hx1
          have l2 := fitV_length hy1
          have hrest := ih (o + sizeK k1) k2 (px ++ x1) (py ++ y1) x2 y2 hf hx2 hy2 (by simp [hpx, l1]) (by simp [hpy, l2]) xs ys (by simpa using hxs) (by simpa using hys) w
          rw [cellsEq_append (by rw [l1, l2])]
          simp only [Op.eqFields, if_pos hn, Sem.run_bind, ho, p1, p2, Result.andThen_ok, he]
          cases hc : cellsEq x1 y1 with
          | true => simpa using hrest
          | false => simp
      simp only [mkV]
      rw [run_equalIn_struct (P := P) w d t _ _ (by rw [hft]; exact h) h1, hft]
      exact key fs.toList 0 ks [] [] x y h3 hx hy rfl rfl _ _ rfl rfl w

end

end Go.Anv
