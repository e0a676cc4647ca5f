/- The engine, part 14: the arguments of a statement: from what they read as to a small world. Plain theorems; their condition: what the program's table says of the types. -/
import Derived.Test.YtghcdkpgcanpgaaE13
import Derived.ChangeSlices
import Derived.OpenShut
import Derived.SizedLaws
namespace Go.Anv
open Go

/-- What a cell of an argument, or a run of cells, is. -/
inductive FK where
  | int (k : IntKind)
  | bool
  | arr (k : IntKind) (n : Nat)
  | sl (k : IntKind)

def sizeF : List FK → Nat
  | [] => 0
  | .int _ :: r => sizeF r + 1
  | .bool :: r => sizeF r + 1
  | .arr _ n :: r => n + sizeF r
  | .sl _ :: r => sizeF r + 1

theorem sizeF_append : ∀ a b : List FK, sizeF (a ++ b) = sizeF a + sizeF b
  | [], b => by simp [sizeF]
  | .int _ :: r, b => by simp only [List.cons_append, sizeF, sizeF_append r b]; omega
  | .bool :: r, b => by simp only [List.cons_append, sizeF, sizeF_append r b]; omega
  | .arr _ _ :: r, b => by simp only [List.cons_append, sizeF, sizeF_append r b]; omega
  | .sl _ :: r, b => by simp only [List.cons_append, sizeF, sizeF_append r b]; omega

/-- A slice of whole numbers as it came in. -/
def slIn (W : World) (k : IntKind) (a : Option Addr) (len cap : Nat) (f : Nat → Int) : Prop :=
  len ≤ 140737488351232 ∧ ((a = none ∧ len = 0 ∧ cap = 0) ∨ ∃ b o, a = some ⟨b, o, none⟩ ∧ b < W.heap.size ∧ len ≤ cap ∧ ∀ j, j < len → W.cell? ⟨b, o + j, none⟩ = some (.int k (f j)) ∧ (Lit.int k (f j)).wf = true)

def fitF (W : World) : List FK → List Value → Prop
  | [], l => l = []
  | .int k :: r, l => ∃ a l', l = .int k a :: l' ∧ (Lit.int k a).wf = true ∧ fitF W r l'
  | .bool :: r, l => ∃ b l', l = .bool b :: l' ∧ fitF W r l'
  | .arr k n :: r, l => ∃ f l', l = intsOf k n f ++ l' ∧ (∀ j, j < n → (Lit.int k (f j)).wf = true) ∧ fitF W r l'
  | .sl k :: r, l => ∃ a len cap f l', l = .slice a len cap :: l' ∧ slIn W k a len cap f ∧ fitF W r l'

theorem fitF_length {W : World} : ∀ {ks : List FK} {l : List Value}, fitF W ks l → l.length = sizeF ks
  | [], _, h => by simp only [fitF] at h; subst h; rfl
  | .int _ :: r, _, h => by simp only [fitF] at h; obtain ⟨a, l', rfl, _, h⟩ := h; simp [sizeF, fitF_length h]
  | .bool :: r, _, h => by simp only [fitF] at h; obtain ⟨a, l', rfl, h⟩ := h; simp [sizeF, fitF_length h]
  | .arr _ _ :: r, _, h => by simp only [fitF] at h; obtain ⟨a, l', rfl, _, h⟩ := h; simp [sizeF, fitF_length h, length_intsOf]
  | .sl _ :: r, _, h => by simp only [fitF] at h; obtain ⟨a, len, cap, f, l', rfl, _, h⟩ := h; simp [sizeF, fitF_length h]

theorem fitF_append {W : World} : ∀ {a b : List FK} {x y : List Value}, fitF W a x → fitF W b y → fitF W (a ++ b) (x ++ y)
  | [], b, x, y, h, h' => by simp only [fitF] at h; subst h; exact h'
  | .int k :: r, b, x, y, h, h' => by simp only [fitF] at h; obtain ⟨a, l', rfl, h1, h⟩ := h; exact ⟨a, l' ++ y, rfl, h1, fitF_append h h'⟩
  | .bool :: r, b, x, y, h, h' => by simp only [fitF] at h; obtain ⟨a, l', rfl, h⟩ := h; exact ⟨a, l' ++ y, rfl, fitF_append h h'⟩
  | .arr k n :: r, b, x, y, h, h' => by simp only [fitF] at h; obtain ⟨a, l', rfl, h1, h⟩ := h; exact ⟨a, l' ++ y, by simp, h1, fitF_append h h'⟩
  | .sl k :: r, b, x, y, h, h' => by simp only [fitF] at h; obtain ⟨a, len, cap, f, l', rfl, h1, h⟩ := h; exact ⟨a, len, cap, f, l' ++ y, rfl, h1, fitF_append h h'⟩

/-- The fields of a struct, one behind the other. -/
def FFn (P : Program) (R : TypeId → List FK → Prop) : Nat → List Field → List FK → Prop
  | _, [], ks => ks = []
  | o, f :: fs, ks => ∃ k1 k2, ks = k1 ++ k2 ∧ f.offset = o ∧ P.cellsOf f.type = sizeF k1 ∧ R f.type k1 ∧ FFn P R (o + sizeF k1) fs k2

/-- A type of whole numbers, truth values, arrays and slices of whole numbers. -/
def FTn (P : Program) : Nat → TypeId → List FK → Prop
  | 0, _, _ => False
  | n + 1, t, ks => (∃ k, P.underlying t = some (.int k) ∧ ks = [.int k]) ∨ (P.underlying t = some .bool ∧ ks = [.bool]) ∨
      (∃ m e k, P.underlying t = some (.array m e) ∧ P.underlying e = some (.int k) ∧ P.cellsOf e = 1 ∧ P.cellsOf t = m ∧ ks = [.arr k m]) ∨
      (∃ e k, P.underlying t = some (.slice e) ∧ P.underlying e = some (.int k) ∧ P.cellsOf e = 1 ∧ 1 ≤ P.bytesOf e ∧ ks = [.sl k]) ∨
      (∃ fs, P.underlying t = some (.struct fs) ∧ P.cellsOf t = sizeF ks ∧ FFn P (FTn P n) 0 fs.toList ks)

/-- A slice's place is in the heap. -/
def placed (W : World) (v : Value) : Prop := ∀ a l c, v = .slice (some a) l c → a.spot = none ∧ a.block < W.heap.size

theorem placed_of_okWide {P : Program} {W : World} {r : Reach} {base : Nat} {u : TypeId} {v : Value} (h : Cell.okWide P W r base u v) : placed W v := by
  rintro a l c rfl
  have h' : Cell.ok P W r base u (.slice (some a) l c) := by
    unfold Cell.okWide at h
    split at h <;> first
      | exact h
      | (rename_i h1 h2; cases h2)
  unfold Cell.ok at h'
  obtain ⟨e, _, _, hhas⟩ : ∃ e, l ≤ c ∧ (c : Int) ≤ IntKind.i64.max ∧ W.has P r base a e c := by
    cases hu : P.underlying u with
    | none => rw [hu] at h'; exact h'.elim
    | some d =>
      rw [hu] at h'
      cases d <;> first
        | exact h'.elim
        | exact ⟨_, h'⟩
  obtain ⟨_, hs, row, cells, hsh, _⟩ := hhas
  refine ⟨hs, ?_⟩
  rcases Nat.lt_or_ge a.block W.heap.size with hlt | hge
  · exact hlt
  · simp [World.shape?, Array.getElem?_eq_none hge] at hsh

theorem FTn.opens {H : Type} {enc : TypeId × Value → H} {P : Program} {W : World} {base : Nat} {held : Bool} : ∀ (n : Nat) {t : TypeId} {ks : List FK}, FTn P n t ks → ∀ {fuel : Nat} {cs : List Value} {x : DataW H × List MemPlace},
    DataW.trod enc P W base (fun _ => true) held fuel t cs = some x → (∀ v ∈ cs, placed W v) → (∀ m ∈ x.1.weights P t, m ≤ reachBytes) → fitF W ks cs
  | 0, _, _, h, _, _, _, _, _, _ => h.elim
  | n + 1, t, ks, h, fuel, cs, x, hx, hp, hw => by
    rcases h with ⟨k, h, rfl⟩ | ⟨h, rfl⟩ | ⟨m, e, k, h, h1, h2, h3, rfl⟩ | ⟨e, k, h, h1, h2, h3, rfl⟩ | ⟨fs, h, h1, h2⟩
    · obtain ⟨a, rfl, _, hwf⟩ := DataW.trod_int h hx
      exact ⟨a, [], rfl, hwf, rfl⟩
    · obtain ⟨a, rfl, _⟩ := DataW.trod_bool h hx
      exact ⟨a, [], rfl, rfl⟩
    · obtain ⟨xs, m', _, _, hl, hxl, hel⟩ := DataW.trod_array h hx
      have each : ∀ i, i < m → ∃ a, cs[i]? = some (.int k a) ∧ (Lit.int k a).wf = true := fun i hi => by
        have h4 := hel i hi
        rw [h2, Nat.mul_one] at h4
        have h5 : xs[i]? = some xs[i] := List.getElem?_eq_getElem (by omega)
        rw [h5] at h4
        obtain ⟨a, h6, _, hwf⟩ := DataW.trod_int h1 h4
        refine ⟨a, ?_, hwf⟩
        have h7 := congrArg (·[0]?) h6
        simpa using h7
      refine ⟨fun i => match cs[i]? with | some (.int _ a) => a | _ => 0, [], ?_, fun j hj => ?_, rfl⟩
      · rw [List.append_nil]
        apply List.ext_getElem?
        intro i
        rcases Nat.lt_or_ge i m with hi | hi
        · obtain ⟨a, h4, _⟩ := each i hi
          rw [intsOf_get hi, h4]
        · rw [List.getElem?_eq_none (by omega), List.getElem?_eq_none (by rw [length_intsOf]; exact hi)]
      · obtain ⟨a, h4, hwf⟩ := each j hj
        simp only [h4]
        exact hwf
    · rcases ChangeShapes.open_ints h h1 h2 hx with ⟨rfl, _⟩ | ⟨a, l, c, zs, rfl, _, hl, hm, hz, rfl, hcell, hwz⟩
      · exact ⟨none, 0, 0, fun _ => 0, [], rfl, ⟨by omega, .inl ⟨rfl, rfl, rfl⟩⟩, rfl⟩
      · have hz : zs.length = c := by simpa using hz
        obtain ⟨hs, hb⟩ := hp _ List.mem_cons_self a l c rfl
        have hwt := hw ((l + (c - l)) * P.bytesOf e) (by simp [DataW.weights, h, ChangeShapes.lits, hz, hl])
        have hr : reachBytes = 140737488351232 := by decide
        have hle : l + (c - l) ≤ (l + (c - l)) * P.bytesOf e := Nat.le_mul_of_pos_right _ h3
        refine ⟨some a, l, c, fun j => zs.getD j 0, [], rfl, ⟨by omega, .inr ⟨a.block, a.off, ?_, hb, hl, fun j hj => ⟨?_, ?_⟩⟩⟩, rfl⟩
        · cases a; simp only at hs; subst hs; rfl
        · have := hcell j (by omega)
          unfold Addr.add at this
          split at this
          · rename_i h0
            subst h0
            cases a
            simp only at hs
            subst hs
            exact this
          · exact this
        · refine hwz _ ?_
          show zs.getD j 0 ∈ zs
          rw [List.getD_eq_getElem?_getD, List.getElem?_eq_getElem (by omega)]
          exact List.getElem_mem _
    · obtain ⟨xs, m', _, rfl, hl, hxl, hel⟩ := DataW.trod_struct h hx
      have key : ∀ (fl : List Field) (j o : Nat) (ks : List FK), FFn P (FTn P n) o fl ks → (∀ i f, fl[i]? = some f → fs.toList[j + i]? = some f) → o + sizeF ks ≤ cs.length → fitF W ks ((cs.drop o).take (sizeF ks)) := by
        intro fl
        induction fl with
        | nil =>
          intro j o ks hf _ _
          simp only [FFn] at hf
          subst hf
          simp [fitF, sizeF]
        | cons f fl ih =>
          intro j o ks hf hget hlen
          simp only [FFn] at hf
          obtain ⟨k1, k2, rfl, ho, hc, ht, hf⟩ := hf
          have hsz := sizeF_append k1 k2
          rw [hsz] at hlen ⊢
          have hj : fs[j]? = some f := by
            have := hget 0 f rfl
            rwa [Nat.add_zero, Array.getElem?_toList] at this
          have hjl : j < xs.length := by
            rw [hxl]
            rcases Nat.lt_or_ge j fs.size with h' | h'
            · exact h'
            · rw [Array.getElem?_eq_none h'] at hj; cases hj
          have h4 := hel j f hj
          rw [ho, hc, List.getElem?_eq_getElem hjl] at h4
          have h5 := FTn.opens n ht h4 (fun v hv => hp v (List.mem_of_mem_drop (List.mem_of_mem_take hv))) (fun m hm => hw m (by
            simp only [DataW.weights, h]
            refine DataW.weights_mem_each (j := j) (t := f.type) (d := (xs[j]).1) ?_ ?_ m hm
            · simp [hj]
            · simp [hjl]))
          have h6 := ih (j + 1) (o + sizeF k1) k2 hf (fun i f' hi => by
            have := hget (i + 1) f' (by simpa using hi)
            rwa [show j + (i + 1) = j + 1 + i by omega] at this) (by omega)
          have h7 := fitF_append h5 h6
          have h8 : (cs.drop o).take (sizeF k1) ++ (cs.drop (o + sizeF k1)).take (sizeF k2) = (cs.drop o).take (sizeF k1 + sizeF k2) := by
            rw [List.take_add, List.drop_drop]
          rwa [h8] at h7
      have h4 := key fs.toList 0 0 ks h2 (fun i f hi => by simpa using hi) (by rw [hl, h1]; omega)
      rw [List.drop_zero, List.take_of_length_le (by rw [hl, h1]; omega)] at h4
      exact h4

theorem struct_placed {P : Program} {W : World} {r : Reach} {base : Nat} {t : TypeId} {fs : Array Field} {v : Value} (ht : P.underlying t = some (.struct fs)) (h : Value.okWide P W r base t v) : ∃ cs, v = .agg cs ∧ ∀ x ∈ cs.toList, placed W x := by
  unfold Value.okWide at h
  rw [ht] at h
  obtain ⟨cs, rfl, _, ts, _, _, hrow⟩ := h
  refine ⟨cs, rfl, fun x hx => ?_⟩
  obtain ⟨i, hi⟩ := List.getElem?_of_mem hx
  obtain ⟨u, _, hu⟩ := hrow i x (by simpa using hi)
  exact placed_of_okWide hu

end Go.Anv
