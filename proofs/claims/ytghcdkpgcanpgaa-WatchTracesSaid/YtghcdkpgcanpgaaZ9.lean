/- Part 9 of the texts of this claim, merged: E14, S2, U12, FT. No condition: plain theorems, contracts of functions. -/
import Derived.Test.YtghcdkpgcanpgaaZ8
import Derived.ChangeSlices
import Derived.OpenShut
import Derived.SizedLaws
import Derived.Test.YtghcdkpgcanpgaaProg
import Derived.KernelRfl

set_option linter.unusedSimpArgs false
set_option linter.unusedVariables false
/- The engine, part 14: the arguments of a statement: from what they read as to a small world. Plain theorems; their condition: what the program's table says of the types. -/
namespace Go.Anv
open Go

/-- What a cell of an argument, or a run of cells, is. -/
inductive FK where
  | int (k : IntKind)
  | bool
  | arr (k : IntKind) (n : Nat)
  | sl (k : IntKind)
  | rows (ks : List IntKind) (b : Nat)

def sizeF : List FK → Nat
  | [] => 0
  | .int _ :: r => sizeF r + 1
  | .bool :: r => sizeF r + 1
  | .arr _ n :: r => n + sizeF r
  | .sl _ :: r => sizeF r + 1
  | .rows _ _ :: r => sizeF r + 1

theorem sizeF_append : ∀ a b : List FK, sizeF (a ++ b) = sizeF a + sizeF b
  | [], b => by simp [sizeF]
  | .int _ :: r, b => by simp only [List.cons_append, sizeF, sizeF_append r b]; omega
  | .bool :: r, b => by simp only [List.cons_append, sizeF, sizeF_append r b]; omega
  | .arr _ _ :: r, b => by simp only [List.cons_append, sizeF, sizeF_append r b]; omega
  | .sl _ :: r, b => by simp only [List.cons_append, sizeF, sizeF_append r b]; omega
  | .rows _ _ :: r, b => by simp only [List.cons_append, sizeF, sizeF_append r b]; omega

/-- A slice of whole numbers as it came in. -/
def slIn (W : World) (k : IntKind) (a : Option Addr) (len cap : Nat) (f : Nat → Int) : Prop :=
  len ≤ 140737488351232 ∧ ((a = none ∧ len = 0 ∧ cap = 0) ∨ ∃ b o, a = some ⟨b, o, none⟩ ∧ b < W.heap.size ∧ len ≤ cap ∧ ∀ j, j < len → W.cell? ⟨b, o + j, none⟩ = some (.int k (f j)) ∧ (Lit.int k (f j)).wf = true)

/-- A slice of structs of whole numbers as it came in. -/
def rowsIn (W : World) (ks : List IntKind) (b : Nat) (a : Option Addr) (len cap : Nat) (f : Nat → Nat → Int) : Prop :=
  len * b ≤ 140737488351232 ∧ ((a = none ∧ len = 0 ∧ cap = 0) ∨ ∃ b o, a = some ⟨b, o, none⟩ ∧ b < W.heap.size ∧ len ≤ cap ∧ ∀ j, j < len → ∀ q k, ks[q]? = some k → W.cell? ⟨b, o + (j * ks.length + q), none⟩ = some (.int k (f j q)) ∧ (Lit.int k (f j q)).wf = true)

def fitF (W : World) : List FK → List Value → Prop
  | [], l => l = []
  | .int k :: r, l => ∃ a l', l = .int k a :: l' ∧ (Lit.int k a).wf = true ∧ fitF W r l'
  | .bool :: r, l => ∃ b l', l = .bool b :: l' ∧ fitF W r l'
  | .arr k n :: r, l => ∃ f l', l = intsOf k n f ++ l' ∧ (∀ j, j < n → (Lit.int k (f j)).wf = true) ∧ fitF W r l'
  | .sl k :: r, l => ∃ a len cap f l', l = .slice a len cap :: l' ∧ slIn W k a len cap f ∧ fitF W r l'
  | .rows ks b :: r, l => ∃ a len cap f l', l = .slice a len cap :: l' ∧ rowsIn W ks b a len cap f ∧ fitF W r l'

theorem fitF_length {W : World} : ∀ {ks : List FK} {l : List Value}, fitF W ks l → l.length = sizeF ks
  | [], _, h => by simp only [fitF] at h; subst h; rfl
  | .int _ :: r, _, h => by simp only [fitF] at h; obtain ⟨a, l', rfl, _, h⟩ := h; simp [sizeF, fitF_length h]
  | .bool :: r, _, h => by simp only [fitF] at h; obtain ⟨a, l', rfl, h⟩ := h; simp [sizeF, fitF_length h]
  | .arr _ _ :: r, _, h => by simp only [fitF] at h; obtain ⟨a, l', rfl, _, h⟩ := h; simp [sizeF, fitF_length h, length_intsOf]
  | .sl _ :: r, _, h => by simp only [fitF] at h; obtain ⟨a, len, cap, f, l', rfl, _, h⟩ := h; simp [sizeF, fitF_length h]
  | .rows _ _ :: r, _, h => by simp only [fitF] at h; obtain ⟨a, len, cap, f, l', rfl, _, h⟩ := h; simp [sizeF, fitF_length h]

theorem fitF_append {W : World} : ∀ {a b : List FK} {x y : List Value}, fitF W a x → fitF W b y → fitF W (a ++ b) (x ++ y)
  | [], b, x, y, h, h' => by simp only [fitF] at h; subst h; exact h'
  | .int k :: r, b, x, y, h, h' => by simp only [fitF] at h; obtain ⟨a, l', rfl, h1, h⟩ := h; exact ⟨a, l' ++ y, rfl, h1, fitF_append h h'⟩
  | .bool :: r, b, x, y, h, h' => by simp only [fitF] at h; obtain ⟨a, l', rfl, h⟩ := h; exact ⟨a, l' ++ y, rfl, fitF_append h h'⟩
  | .arr k n :: r, b, x, y, h, h' => by simp only [fitF] at h; obtain ⟨a, l', rfl, h1, h⟩ := h; exact ⟨a, l' ++ y, by simp, h1, fitF_append h h'⟩
  | .sl k :: r, b, x, y, h, h' => by simp only [fitF] at h; obtain ⟨a, len, cap, f, l', rfl, h1, h⟩ := h; exact ⟨a, len, cap, f, l' ++ y, rfl, h1, fitF_append h h'⟩
  | .rows k _ :: r, b, x, y, h, h' => by simp only [fitF] at h; obtain ⟨a, len, cap, f, l', rfl, h1, h⟩ := h; exact ⟨a, len, cap, f, l' ++ y, rfl, h1, fitF_append h h'⟩

/-- The fields of a struct, one behind the other. -/
def FFn (P : Program) (R : TypeId → List FK → Prop) : Nat → List Field → List FK → Prop
  | _, [], ks => ks = []
  | o, f :: fs, ks => ∃ k1 k2, ks = k1 ++ k2 ∧ f.offset = o ∧ P.cellsOf f.type = sizeF k1 ∧ R f.type k1 ∧ FFn P R (o + sizeF k1) fs k2

/-- The fields of a struct of whole numbers. -/
def RFn (P : Program) : Nat → List Field → List IntKind → Prop
  | _, [], ks => ks = []
  | o, f :: fs, ks => ∃ k ks', ks = k :: ks' ∧ f.offset = o ∧ P.underlying f.type = some (.int k) ∧ P.cellsOf f.type = 1 ∧ RFn P (o + 1) fs ks'
theorem RFn.get {P : Program} : ∀ {fs : List Field} {o : Nat} {ks : List IntKind}, RFn P o fs ks → ∀ q k, ks[q]? = some k → ∃ f, fs[q]? = some f ∧ f.offset = o + q ∧ P.underlying f.type = some (.int k) ∧ P.cellsOf f.type = 1
  | [], o, ks, h, q, k, hk => by simp only [RFn] at h; subst h; simp at hk
  | f :: fs, o, ks, h, q, k, hk => by
    simp only [RFn] at h
    obtain ⟨k0, ks', rfl, h1, h2, h3, h4⟩ := h
    cases q with
    | zero =>
      simp only [List.getElem?_cons_zero, Option.some.injEq] at hk
      subst hk
      exact ⟨f, rfl, by rw [h1]; rfl, h2, h3⟩
    | succ q =>
      obtain ⟨f', k1, k2, k3, k4⟩ := RFn.get h4 q k (by simpa using hk)
      exact ⟨f', by simpa using k1, by rw [k2]; omega, k3, k4⟩
theorem addr_add {a : Addr} (h : a.spot = none) (x : Nat) : a.add x = ⟨a.block, a.off + x, none⟩ := by
  unfold Addr.add
  cases a
  simp only at h
  subst h
  split
  · rename_i h0; subst h0; rfl
  · rfl

/-- A type of whole numbers, truth values, arrays and slices of whole numbers. -/
def FTn (P : Program) : Nat → TypeId → List FK → Prop
  | 0, _, _ => False
  | n + 1, t, ks => (∃ k, P.underlying t = some (.int k) ∧ ks = [.int k]) ∨ (P.underlying t = some .bool ∧ ks = [.bool]) ∨
      (∃ m e k, P.underlying t = some (.array m e) ∧ P.underlying e = some (.int k) ∧ P.cellsOf e = 1 ∧ P.cellsOf t = m ∧ ks = [.arr k m]) ∨
      (∃ e k, P.underlying t = some (.slice e) ∧ P.underlying e = some (.int k) ∧ P.cellsOf e = 1 ∧ 1 ≤ P.bytesOf e ∧ ks = [.sl k]) ∨
      (∃ fs, P.underlying t = some (.struct fs) ∧ P.cellsOf t = sizeF ks ∧ FFn P (FTn P n) 0 fs.toList ks) ∨
      (∃ e fs ks' b, P.underlying t = some (.slice e) ∧ P.underlying e = some (.struct fs) ∧ P.cellsOf e = ks'.length ∧ P.bytesOf e = b ∧ RFn P 0 fs.toList ks' ∧ ks = [.rows ks' b])

/-- A slice's place is in the heap. -/
def placed (W : World) (v : Value) : Prop := ∀ a l c, v = .slice (some a) l c → a.spot = none ∧ a.block < W.heap.size

theorem placed_of_okWide {P : Program} {W : World} {r : Reach} {base : Nat} {u : TypeId} {v : Value} (h : Cell.okWide P W r base u v) : placed W v := by
  rintro a l c rfl
  have h' : Cell.ok P W r base u (.slice (some a) l c) := by
    unfold Cell.okWide at h
    split at h <;> first
      | exact h
      | (rename_i h1 h2; cases h2)
  unfold Cell.ok at h'
  obtain ⟨e, _, _, hhas⟩ : ∃ e, l ≤ c ∧ (c : Int) ≤ IntKind.i64.max ∧ W.has P r base a e c := by
    cases hu : P.underlying u with
    | none => rw [hu] at h'; exact h'.elim
    | some d =>
      rw [hu] at h'
      cases d <;> first
        | exact h'.elim
        | exact ⟨_, h'⟩
  obtain ⟨_, hs, row, cells, hsh, _⟩ := hhas
  refine ⟨hs, ?_⟩
  rcases Nat.lt_or_ge a.block W.heap.size with hlt | hge
  · exact hlt
  · simp [World.shape?, Array.getElem?_eq_none hge] at hsh

theorem FTn.opens {H : Type} {enc : TypeId × Value → H} {P : Program} {W : World} {base : Nat} {held : Bool} : ∀ (n : Nat) {t : TypeId} {ks : List FK}, FTn P n t ks → ∀ {fuel : Nat} {cs : List Value} {x : DataW H × List MemPlace},
    DataW.trod enc P W base (fun _ => true) held fuel t cs = some x → (∀ v ∈ cs, placed W v) → (∀ m ∈ x.1.weights P t, m ≤ reachBytes) → fitF W ks cs
  | 0, _, _, h, _, _, _, _, _, _ => h.elim
  | n + 1, t, ks, h, fuel, cs, x, hx, hp, hw => by
    rcases h with ⟨k, h, rfl⟩ | ⟨h, rfl⟩ | ⟨m, e, k, h, h1, h2, h3, rfl⟩ | ⟨e, k, h, h1, h2, h3, rfl⟩ | ⟨fs, h, h1, h2⟩ | ⟨e, fs, kl, bb, h, he, hc, rfl, hr, rfl⟩
    · obtain ⟨a, rfl, _, hwf⟩ := DataW.trod_int h hx
      exact ⟨a, [], rfl, hwf, rfl⟩
    · obtain ⟨a, rfl, _⟩ := DataW.trod_bool h hx
      exact ⟨a, [], rfl, rfl⟩
    · obtain ⟨xs, m', _, _, hl, hxl, hel⟩ := DataW.trod_array h hx
      have each : ∀ i, i < m → ∃ a, cs[i]? = some (.int k a) ∧ (Lit.int k a).wf = true := fun i hi => by
        have h4 := hel i hi
        rw [h2, Nat.mul_one] at h4
        have h5 : xs[i]? = some xs[i] := List.getElem?_eq_getElem (by omega)
        rw [h5] at h4
        obtain ⟨a, h6, _, hwf⟩ := DataW.trod_int h1 h4
        refine ⟨a, ?_, hwf⟩
        have h7 := congrArg (·[0]?) h6
        simpa using h7
      refine ⟨fun i => match cs[i]? with | some (.int _ a) => a | _ => 0, [], ?_, fun j hj => ?_, rfl⟩
      · rw [List.append_nil]
        apply List.ext_getElem?
        intro i
        rcases Nat.lt_or_ge i m with hi | hi
        · obtain ⟨a, h4, _⟩ := each i hi
          rw [intsOf_get hi, h4]
        · rw [List.getElem?_eq_none (by omega), List.getElem?_eq_none (by rw [length_intsOf]; exact hi)]
      · obtain ⟨a, h4, hwf⟩ := each j hj
        simp only [h4]
        exact hwf
    · rcases ChangeShapes.open_ints h h1 h2 hx with ⟨rfl, _⟩ | ⟨a, l, c, zs, rfl, _, hl, hm, hz, rfl, hcell, hwz⟩
      · exact ⟨none, 0, 0, fun _ => 0, [], rfl, ⟨by omega, .inl ⟨rfl, rfl, rfl⟩⟩, rfl⟩
      · have hz : zs.length = c := by simpa using hz
        obtain ⟨hs, hb⟩ := hp _ List.mem_cons_self a l c rfl
        have hwt := hw ((l + (c - l)) * P.bytesOf e) (by simp [DataW.weights, h, ChangeShapes.lits, hz, hl])
        have hr : reachBytes = 140737488351232 := by decide
        have hle : l + (c - l) ≤ (l + (c - l)) * P.bytesOf e := Nat.le_mul_of_pos_right _ h3
        refine ⟨some a, l, c, fun j => zs.getD j 0, [], rfl, ⟨by omega, .inr ⟨a.block, a.off, ?_, hb, hl, fun j hj => ⟨?_, ?_⟩⟩⟩, rfl⟩
        · cases a; simp only at hs; subst hs; rfl
        · have := hcell j (by omega)
          unfold Addr.add at this
          split at this
          · rename_i h0
            subst h0
            cases a
            simp only at hs
            subst hs
            exact this
          · exact this
        · refine hwz _ ?_
          show zs.getD j 0 ∈ zs
          rw [List.getD_eq_getElem?_getD, List.getElem?_eq_getElem (by omega)]
          exact List.getElem_mem _
    · obtain ⟨xs, m', _, rfl, hl, hxl, hel⟩ := DataW.trod_struct h hx
      have key : ∀ (fl : List Field) (j o : Nat) (ks : List FK), FFn P (FTn P n) o fl ks → (∀ i f, fl[i]? = some f → fs.toList[j + i]? = some f) → o + sizeF ks ≤ cs.length → fitF W ks ((cs.drop o).take (sizeF ks)) := by
        intro fl
        induction fl with
        | nil =>
          intro j o ks hf _ _
          simp only [FFn] at hf
          subst hf
          simp [fitF, sizeF]
        | cons f fl ih =>
          intro j o ks hf hget hlen
          simp only [FFn] at hf
          obtain ⟨k1, k2, rfl, ho, hc, ht, hf⟩ := hf
          have hsz := sizeF_append k1 k2
          rw [hsz] at hlen ⊢
          have hj : fs[j]? = some f := by
            have := hget 0 f rfl
            rwa [Nat.add_zero, Array.getElem?_toList] at this
          have hjl : j < xs.length := by
            rw [hxl]
            rcases Nat.lt_or_ge j fs.size with h' | h'
            · exact h'
            · rw [Array.getElem?_eq_none h'] at hj; cases hj
          have h4 := hel j f hj
          rw [ho, hc, List.getElem?_eq_getElem hjl] at h4
          have h5 := FTn.opens n ht h4 (fun v hv => hp v (List.mem_of_mem_drop (List.mem_of_mem_take hv))) (fun m hm => hw m (by
            simp only [DataW.weights, h]
            refine DataW.weights_mem_each (j := j) (t := f.type) (d := (xs[j]).1) ?_ ?_ m hm
            · simp [hj]
            · simp [hjl]))
          have h6 := ih (j + 1) (o + sizeF k1) k2 hf (fun i f' hi => by
            have := hget (i + 1) f' (by simpa using hi)
            rwa [show j + (i + 1) = j + 1 + i by omega] at this) (by omega)
          have h7 := fitF_append h5 h6
          have h8 : (cs.drop o).take (sizeF k1) ++ (cs.drop (o + sizeF k1)).take (sizeF k2) = (cs.drop o).take (sizeF k1 + sizeF k2) := by
            rw [List.take_add, List.drop_drop]
          rwa [h8] at h7
      have h4 := key fs.toList 0 0 ks h2 (fun i f hi => by simpa using hi) (by rw [hl, h1]; omega)
      rw [List.drop_zero, List.take_of_length_le (by rw [hl, h1]; omega)] at h4
      exact h4
    · rcases DataW.trod_slice h hx with ⟨rfl, _⟩ | ⟨a, l, c, elems, rest, n', _, rfl, rfl, _, hl, _, hlen, hel, _⟩
      · exact ⟨none, 0, 0, fun _ _ => 0, [], rfl, ⟨by omega, .inl ⟨rfl, rfl, rfl⟩⟩, rfl⟩
      · obtain ⟨hs, hb⟩ := hp _ List.mem_cons_self a l c rfl
        have hwt := hw ((elems.length + rest.length) * P.bytesOf e) (by simp [DataW.weights, h])
        have hrb : reachBytes = 140737488351232 := by decide
        have hle : l * P.bytesOf e ≤ (elems.length + rest.length) * P.bytesOf e := Nat.mul_le_mul_right _ (by omega)
        have each : ∀ j, j < l → ∀ q k, kl[q]? = some k → ∃ x, W.cell? ⟨a.block, a.off + (j * kl.length + q), none⟩ = some (.int k x) ∧ (Lit.int k x).wf = true := fun j hj q k hk => by
          have h4 := hel j hj
          rw [List.getElem?_eq_getElem (by omega), Option.bind_eq_some_iff] at h4
          obtain ⟨cs', h5, h6⟩ := h4
          obtain ⟨xs, m', _, _, h7, h8, h9⟩ := DataW.trod_struct he h6
          obtain ⟨f, k1, k2, k3, k4⟩ := RFn.get hr q k hk
          have k1' : fs[q]? = some f := by rwa [Array.getElem?_toList] at k1
          have hq : q < xs.length := by
            rw [h8]
            rcases Nat.lt_or_ge q fs.size with h' | h'
            · exact h'
            · rw [Array.getElem?_eq_none h'] at k1'; cases k1'
          have h10 := h9 q f k1'
          rw [k2, k4, Nat.zero_add, List.getElem?_eq_getElem hq] at h10
          obtain ⟨x, h11, _, hwf⟩ := DataW.trod_int k3 h10
          have h12 : cs'[q]? = some (.int k x) := by
            have := congrArg (·[0]?) h11
            simpa using this
          have hqz : q < P.cellsOf e := by
            rw [hc]
            rcases Nat.lt_or_ge q kl.length with h' | h'
            · exact h'
            · rw [List.getElem?_eq_none h'] at hk; cases hk
          unfold World.cells? at h5
          split at h5
          · have h13 := mapM_some_get h5 q q (by simp [hqz])
            rw [h12, addr_add hs, addr_add rfl, hc] at h13
            refine ⟨x, ?_, hwf⟩
            rw [← Nat.add_assoc]
            exact h13
          · cases h5
        have ch : ∀ j q, ∃ x, j < l → ∀ k, kl[q]? = some k → W.cell? ⟨a.block, a.off + (j * kl.length + q), none⟩ = some (.int k x) ∧ (Lit.int k x).wf = true := fun j q => by
          by_cases hj : j < l
          · cases hk : kl[q]? with
            | none => exact ⟨0, fun _ k hk' => by cases hk'⟩
            | some k =>
              obtain ⟨x, h1⟩ := each j hj q k hk
              exact ⟨x, fun _ k' hk' => by cases hk'; exact h1⟩
          · exact ⟨0, fun h => absurd h hj⟩
        refine ⟨some a, l, c, fun j q => Classical.choose (ch j q), [], rfl, ⟨by omega, .inr ⟨a.block, a.off, ?_, hb, hl, fun j hj q k hk => Classical.choose_spec (ch j q) hj k hk⟩⟩, rfl⟩
        cases a; simp only at hs; subst hs; rfl

theorem struct_placed {P : Program} {W : World} {r : Reach} {base : Nat} {t : TypeId} {fs : Array Field} {v : Value} (ht : P.underlying t = some (.struct fs)) (h : Value.okWide P W r base t v) : ∃ cs, v = .agg cs ∧ ∀ x ∈ cs.toList, placed W x := by
  unfold Value.okWide at h
  rw [ht] at h
  obtain ⟨cs, rfl, _, ts, _, _, hrow⟩ := h
  refine ⟨cs, rfl, fun x hx => ?_⟩
  obtain ⟨i, hi⟩ := List.getElem?_of_mem hx
  obtain ⟨u, _, hu⟩ := hrow i x (by simpa using hi)
  exact placed_of_okWide hu

end Go.Anv

/- A whole as an argument: its plain values, its lists in three blocks. No condition. -/
namespace Go.Anv
open Go
theorem wf8 {n : Int} (h : (Lit.int .u8 n).wf = true) : n = ((BitVec.ofInt 8 n).toNat : Int) := by
  have h0 : 0 ≤ n ∧ n ≤ 255 := by
    simp only [Lit.wf, Bool.and_eq_true, decide_eq_true_eq] at h
    exact h
  rw [BitVec.toNat_ofInt]
  omega
theorem wf32 {n : Int} (h : (Lit.int .u32 n).wf = true) : n = ((BitVec.ofInt 32 n).toNat : Int) := by
  have h0 : 0 ≤ n ∧ n ≤ 4294967295 := by
    simp only [Lit.wf, Bool.and_eq_true, decide_eq_true_eq] at h
    exact h
  rw [BitVec.toNat_ofInt]
  omega
theorem wf64 {n : Int} (h : (Lit.int .u64 n).wf = true) : n = ((BitVec.ofInt 64 n).toNat : Int) := by
  have h0 : 0 ≤ n ∧ n ≤ 18446744073709551615 := by
    simp only [Lit.wf, Bool.and_eq_true, decide_eq_true_eq] at h
    exact h
  rw [BitVec.toNat_ofInt]
  omega
theorem wfi64 {n : Int} (h : (Lit.int .i64 n).wf = true) : -9223372036854775808 ≤ n ∧ n ≤ 9223372036854775807 := by
  simp only [Lit.wf, Bool.and_eq_true, decide_eq_true_eq] at h
  exact h

/-- Where a list of bytes lies that came in. -/
structure SlAt (W : World) (p : Loc) (n cap : Nat) (q : Nat → B8) : Prop where
  le : n ≤ 140737488351232
  cp : n ≤ cap
  lt : p.b < W.heap.size ∨ p.nl = true ∧ n = 0
  nl : p.nl = true → n = 0 ∧ cap = 0
  at_ : ∀ j, j < n → W.cell? ⟨p.b, p.o + j, none⟩ = some (.int .u8 (bfun q j))

def trim (n : Nat) (q : Nat → B8) (j : Nat) : B8 := if j < n then q j else 0#8
theorem ends_trim (n : Nat) (q : Nat → B8) : ∀ j, n ≤ j → trim n q j = 0#8 := fun j h => if_neg (by omega)
/-- Nothing behind the end. -/
theorem SlAt.trim {W : World} {p : Loc} {n cap : Nat} {q : Nat → B8} (h : SlAt W p n cap q) : SlAt W p n cap (trim n q) :=
  ⟨h.le, h.cp, h.lt, h.nl, fun j hj => by rw [h.at_ j hj, bfun, bfun, Anv.trim, if_pos hj]⟩

theorem slIn_at {W : World} {a : Option Addr} {len cap : Nat} {f : Nat → Int} (h : slIn W .u8 a len cap f) : ∃ p : Loc, SlAt W p len cap (fun j => BitVec.ofInt 8 (f j)) ∧ ∀ E : Emb, ∀ b, E.f b = p → b < E.n → denV E (.gs b 0 len cap) (.slice a len cap) := by
  obtain ⟨hle, ⟨rfl, rfl, rfl⟩ | ⟨b, o, rfl, hb, hlc, hc⟩⟩ := h
  · refine ⟨⟨0, 0, true⟩, ⟨hle, Nat.le_refl _, .inr ⟨rfl, rfl⟩, fun _ => ⟨rfl, rfl⟩, fun j hj => by omega⟩, fun E b hE hb => ?_⟩
    simp only [denV, hE]
    exact ⟨hb, fun _ => ⟨trivial, trivial⟩, rfl⟩
  · refine ⟨⟨b, o, false⟩, ⟨hle, hlc, .inl hb, (fun h => by cases h), fun j hj => ?_⟩, fun E b' hE hb' => ?_⟩
    · obtain ⟨h1, h2⟩ := hc j hj
      rw [h1]
      congr 2
      exact wf8 h2
    · simp only [denV, hE]
      refine ⟨hb', (fun h => by cases h), ?_⟩
      simp [Emb.at, hE]

/-- Three lists of bytes that came in, as a small world. -/
theorem sim3 {W : World} {p0 p1 p2 : Loc} {n0 n1 n2 c0 c1 c2 : Nat} {q0 q1 q2 : Nat → B8} (h0 : SlAt W p0 n0 c0 q0) (h1 : SlAt W p1 n1 c1 q1) (h2 : SlAt W p2 n2 c2 q2) :
    Sim ⟨3, fun i => match i with | 0 => p0 | 1 => p1 | _ => p2⟩ [bblk false n0 q0 0, bblk false n1 q1 0, bblk false n2 q2 0] W := by
  have one : ∀ {E : Emb} {p : Loc} {n c : Nat} {q : Nat → B8}, SlAt W p n c q → okBlk E W p (bblk false n q 0) := fun {E p n c q} h => by
    refine ⟨?_, ⟨intsOf .u8 n (bfun q) ++ [], ⟨[], rfl, rfl⟩, fun j v hj => ?_⟩, fun h => by cases h⟩
    · rcases h.lt with h | ⟨h, h'⟩
      · exact .inl h
      · exact .inr ⟨h, by simp [sizeS, h']⟩
    · rw [List.append_nil] at hj
      have hj' : j < n := by
        rcases Nat.lt_or_ge j n with h | h
        · exact h
        · rw [List.getElem?_eq_none (by rw [length_intsOf]; exact h)] at hj; cases hj
      rw [intsOf_get hj'] at hj
      cases hj
      exact h.at_ j hj'
  refine ⟨rfl, fun i B hi => ?_, fun i j A B _ hi _ hA => ?_⟩
  · match i, hi with
    | 0, hi => simp only [List.getElem?_cons_zero, Option.some.injEq] at hi; subst hi; exact one h0
    | 1, hi => simp only [List.getElem?_cons_succ, List.getElem?_cons_zero, Option.some.injEq] at hi; subst hi; exact one h1
    | 2, hi => simp only [List.getElem?_cons_succ, List.getElem?_cons_zero, Option.some.injEq] at hi; subst hi; exact one h2
    | i + 3, hi => simp at hi
  · exfalso
    match i, hi with
    | 0, hi => simp only [List.getElem?_cons_zero, Option.some.injEq] at hi; subst hi; cases hA
    | 1, hi => simp only [List.getElem?_cons_succ, List.getElem?_cons_zero, Option.some.injEq] at hi; subst hi; cases hA
    | 2, hi => simp only [List.getElem?_cons_succ, List.getElem?_cons_zero, Option.some.injEq] at hi; subst hi; cases hA
    | i + 3, hi => simp at hi

/-- The whole that is nothing. -/
def wz : Array Value := (List.replicate 33 (Value.int .u64 0) ++ (([.int .i64 0, .bool false] : List Value) ++ (List.replicate 12 (Value.int .u64 0) ++ (List.replicate 16 (Value.int .u8 0) ++ (List.replicate 16 (Value.int .u64 0) ++ (([.bool false, .int .u64 0, .int .i64 0] : List Value) ++
  ([.slice none 0 0, .int .u32 0, .int .u64 0, .int .u64 0, .bool false, .bool false, .int .u8 0, .int .u8 0, .int .u8 0, .int .u8 0, .bool false, .slice none 0 0, .slice none 0 0, .int .i64 0, .int .i64 0] : List Value))))))).toArray
def cpuF : List FK := [.int .u64, .arr .u64 32, .int .i64, .bool, .int .u64, .int .u64, .int .u64, .int .u64, .int .u64, .int .u64, .int .u64, .int .u64, .int .u64, .int .u64, .int .u64, .int .u64, .arr .u8 16, .arr .u64 16, .bool, .int .u64, .int .i64]
def busF : List FK := [.sl .u8, .int .u32, .int .u64, .int .u64, .bool, .bool, .int .u8, .int .u8, .int .u8, .int .u8, .bool, .sl .u8, .sl .u8, .int .i64, .int .i64]

theorem intsOf_bits8 {n : Nat} {f : Nat → Int} (h : ∀ j, j < n → (Lit.int .u8 (f j)).wf = true) : intsOf .u8 n f = intsOf .u8 n (bfun fun j => BitVec.ofInt 8 (f j)) := intsOf_congr fun j hj => wf8 (h j hj)
theorem intsOf_bits64 {n : Nat} {f : Nat → Int} (h : ∀ j, j < n → (Lit.int .u64 (f j)).wf = true) : intsOf .u64 n f = intsOf .u64 n (wfun fun j => BitVec.ofInt 64 (f j)) := intsOf_congr fun j hj => wf64 (h j hj)

/-- A Cpu that came in, at the head of some cells. -/
theorem cpu_in {W : World} {r : List FK} {l : List Value} (h : fitF W (cpuF ++ r) l) : ∃ (c : CpuV) (x y : List Value), l = x ++ y ∧ (∀ E, denS E c.segs x) ∧ fitF W r y ∧ (-9223372036854775808 ≤ c.mode ∧ c.mode ≤ 9223372036854775807) ∧ (-9223372036854775808 ≤ c.rsize ∧ c.rsize ≤ 9223372036854775807) := by
  simp only [cpuF, List.cons_append, List.nil_append, fitF] at h
  obtain ⟨pc, _, rfl, wpc, x, _, rfl, wx, mode, _, rfl, wmode, wt, _, rfl, h⟩ := h
  obtain ⟨a0, _, rfl, w0, a1, _, rfl, w1, a2, _, rfl, w2, a3, _, rfl, w3, a4, _, rfl, w4, a5, _, rfl, w5, a6, _, rfl, w6, a7, _, rfl, w7, a8, _, rfl, w8, a9, _, rfl, w9, a10, _, rfl, w10, a11, _, rfl, w11, h⟩ := h
  obtain ⟨cfg, _, rfl, wc, ad, _, rfl, wa, rv, _, rfl, ra, _, rfl, wra, rs, y, rfl, wrs, h⟩ := h
  refine ⟨⟨BitVec.ofInt 64 pc, fun j => BitVec.ofInt 64 (x j), mode, wt, BitVec.ofInt 64 a0, BitVec.ofInt 64 a1, BitVec.ofInt 64 a2, BitVec.ofInt 64 a3, BitVec.ofInt 64 a4, BitVec.ofInt 64 a5, BitVec.ofInt 64 a6, BitVec.ofInt 64 a7, BitVec.ofInt 64 a8,
    BitVec.ofInt 64 a9, BitVec.ofInt 64 a10, BitVec.ofInt 64 a11, fun j => BitVec.ofInt 8 (cfg j), fun j => BitVec.ofInt 64 (ad j), rv, BitVec.ofInt 64 ra, rs⟩,
    .int .u64 pc :: (intsOf .u64 32 x ++ .int .i64 mode :: .bool wt :: .int .u64 a0 :: .int .u64 a1 :: .int .u64 a2 :: .int .u64 a3 :: .int .u64 a4 :: .int .u64 a5 :: .int .u64 a6 :: .int .u64 a7 :: .int .u64 a8 :: .int .u64 a9 :: .int .u64 a10 :: .int .u64 a11 ::
      (intsOf .u8 16 cfg ++ (intsOf .u64 16 ad ++ [.bool rv, .int .u64 ra, .int .i64 rs]))), y, by simp, fun E => ?_, h, wfi64 wmode, wfi64 wrs⟩
  rw [intsOf_bits64 wx, intsOf_bits8 wc, intsOf_bits64 wa]
  simp only [CpuV.segs, denS, denV]
  rw [← wf64 wpc, ← wf64 w0, ← wf64 w1, ← wf64 w2, ← wf64 w3, ← wf64 w4, ← wf64 w5, ← wf64 w6, ← wf64 w7, ← wf64 w8, ← wf64 w9, ← wf64 w10, ← wf64 w11, ← wf64 wra]
  exact ⟨_, _, rfl, rfl, _, rfl, _, _, rfl, rfl, _, _, rfl, rfl, _, _, rfl, rfl, _, _, rfl, rfl, _, _, rfl, rfl, _, _, rfl, rfl, _, _, rfl, rfl, _, _, rfl, rfl, _, _, rfl, rfl, _, _, rfl, rfl, _, _, rfl, rfl, _, _, rfl, rfl, _, _, rfl, rfl, _, _, rfl, rfl, _, rfl, _, rfl, _, _, rfl, rfl, _, _, rfl, rfl, _, _, rfl, rfl, rfl⟩

/-- A bus's state that came in, at the head of some cells. -/
theorem bus_in {W : World} {r : List FK} {l : List Value} (h : fitF W (busF ++ r) l) : ∃ (s : BusV) (x y : List Value) (p0 p1 p2 : Loc) (c0 c1 c2 : Nat) (q0 q1 q2 : Nat → B8), l = x ++ y ∧ SlAt W p0 s.nr c0 q0 ∧ SlAt W p1 s.ni c1 q1 ∧ SlAt W p2 s.no c2 q2 ∧
    (∀ (E : Emb) b0 b1 b2, E.f b0 = p0 → b0 < E.n → E.f b1 = p1 → b1 < E.n → E.f b2 = p2 → b2 < E.n → denS E (s.segs (.gs b0 0 s.nr c0) (.gs b1 0 s.ni c1) (.gs b2 0 s.no c2)) x) ∧ fitF W r y := by
  simp only [busF, List.cons_append, List.nil_append, fitF] at h
  obtain ⟨a0, n0, c0, f0, _, rfl, s0, ms, _, rfl, wms, cm, _, rfl, wcm, nw, _, rfl, wnw, ex, _, rfl, so, _, rfl, h⟩ := h
  obtain ⟨ie, _, rfl, wie, lc, _, rfl, wlc, mc, _, rfl, wmc, sc, _, rfl, wsc, ov, _, rfl, h⟩ := h
  obtain ⟨a1, n1, c1, f1, _, rfl, s1, a2, n2, c2, f2, _, rfl, s2, off, _, rfl, woff, code, y, rfl, wcode, h⟩ := h
  obtain ⟨p0, k0, d0⟩ := slIn_at s0
  obtain ⟨p1, k1, d1⟩ := slIn_at s1
  obtain ⟨p2, k2, d2⟩ := slIn_at s2
  refine ⟨⟨n0, BitVec.ofInt 32 ms, BitVec.ofInt 64 cm, BitVec.ofInt 64 nw, ex, so, BitVec.ofInt 8 ie, BitVec.ofInt 8 lc, BitVec.ofInt 8 mc, BitVec.ofInt 8 sc, ov, n1, n2, off, code⟩,
    [.slice a0 n0 c0, .int .u32 ms, .int .u64 cm, .int .u64 nw, .bool ex, .bool so, .int .u8 ie, .int .u8 lc, .int .u8 mc, .int .u8 sc, .bool ov, .slice a1 n1 c1, .slice a2 n2 c2, .int .i64 off, .int .i64 code], y, p0, p1, p2, c0, c1, c2, _, _, _, rfl, k0, k1, k2, fun E b0 b1 b2 e0 l0 e1 l1 e2 l2 => ?_, h⟩
  simp only [BusV.segs, denS]
  have i0 := d0 E b0 e0 l0
  have i1 := d1 E b1 e1 l1
  have i2 := d2 E b2 e2 l2
  refine ⟨_, _, rfl, i0, _, _, rfl, ?_, _, _, rfl, ?_, _, _, rfl, ?_, _, _, rfl, rfl, _, _, rfl, rfl, _, _, rfl, ?_, _, _, rfl, ?_, _, _, rfl, ?_, _, _, rfl, ?_, _, _, rfl, rfl, _, _, rfl, i1, _, _, rfl, i2, _, _, rfl, rfl, _, _, rfl, rfl, rfl⟩ <;> simp only [denV]
  · rw [← wf32 wms]
  · rw [← wf64 wcm]
  · rw [← wf64 wnw]
  · rw [← wf8 wie]
  · rw [← wf8 wlc]
  · rw [← wf8 wmc]
  · rw [← wf8 wsc]
end Go.Anv

/- A trace that came in: its rows in one block, its output in another. -/
namespace Go.Anv
open Go
def rowK : List IntKind := [.i64, .i64, .i64, .u64, .u32, .i64, .u64, .u64, .i64, .u64, .i64, .u64, .i64, .u64, .u64, .i64]
def traceF : List FK := .rows rowK 128 :: (cpuF ++ [.int .i64, .int .i64, .sl .u8])
def svInt : SV → Value
  | .int k n => .int k n
  | _ => .bool false
def rowOf (g : Nat → Int) : RowV :=
  ⟨g 0, g 1, g 2, BitVec.ofInt 64 (g 3), BitVec.ofInt 32 (g 4), g 5, BitVec.ofInt 64 (g 6), BitVec.ofInt 64 (g 7), g 8, BitVec.ofInt 64 (g 9), g 10, BitVec.ofInt 64 (g 11), g 12, BitVec.ofInt 64 (g 13), BitVec.ofInt 64 (g 14), g 15⟩
theorem row_den (E : Emb) (r : RowV) : denS E (r.svs.map .one) (r.svs.map svInt) :=
  ⟨_, _, rfl, rfl, _, _, rfl, rfl, _, _, rfl, rfl, _, _, rfl, rfl, _, _, rfl, rfl, _, _, rfl, rfl, _, _, rfl, rfl, _, _, rfl, rfl, _, _, rfl, rfl, _, _, rfl, rfl, _, _, rfl, rfl, _, _, rfl, rfl, _, _, rfl, rfl, _, _, rfl, rfl, _, _, rfl, rfl, _, _, rfl, rfl, rfl⟩
/-- Where a list of rows lies that came in. -/
structure RowsAt (W : World) (p : Loc) (n cap : Nat) (f : Nat → RowV) : Prop where
  le : n * 128 ≤ 140737488351232
  cp : n ≤ cap
  lt : p.b < W.heap.size ∨ p.nl = true ∧ n = 0
  nl : p.nl = true → n = 0 ∧ cap = 0
  at_ : ∀ j, j < n → ∀ q v, ((f j).svs.map svInt)[q]? = some v → W.cell? ⟨p.b, p.o + (j * 16 + q), none⟩ = some v
theorem recS_at {E : Emb} {W : World} {p : Loc} {f : Nat → RowV} : ∀ {n : Nat}, (∀ j, j < n → ∀ q v, ((f j).svs.map svInt)[q]? = some v → W.cell? ⟨p.b, p.o + (j * 16 + q), none⟩ = some v) →
    ∃ l, l.length = n * 16 ∧ denS E (recS n fun i => (f i).svs) l ∧ ∀ j v, l[j]? = some v → W.cell? ⟨p.b, p.o + j, none⟩ = some v
  | 0, _ => ⟨[], rfl, rfl, fun j v h => by cases h⟩
  | n + 1, h => by
    obtain ⟨l, h1, h2, h3⟩ := recS_at (n := n) fun j hj => h j (by omega)
    refine ⟨l ++ (f n).svs.map svInt, ?_, denS_append h2 (row_den E (f n)), fun j v hj => ?_⟩
    · rw [List.length_append, h1]
      show n * 16 + 16 = _
      omega
    · rcases Nat.lt_or_ge j l.length with hl | hl
      · rw [List.getElem?_append_left hl] at hj
        exact h3 j v hj
      · rw [List.getElem?_append_right hl] at hj
        have := h n (by omega) _ v hj
        rw [h1] at this hl
        rwa [show n * 16 + (j - n * 16) = j by omega] at this
theorem rows_blk {E : Emb} {W : World} {p : Loc} {n c : Nat} {f : Nat → RowV} (h : RowsAt W p n c f) : okBlk E W p (rowsB false n f 0) := by
  obtain ⟨l, h1, h2, h3⟩ := recS_at (E := E) h.at_
  refine ⟨fun i _ => rfl, ?_, ⟨l, h2, h3⟩, fun h => by cases h⟩
  rcases h.lt with h | ⟨h, h'⟩
  · exact .inl h
  · refine .inr ⟨h, ?_⟩
    rw [h']
    rfl
/-- A trace that came in, as a small world. -/
theorem simT {W : World} {p0 p1 : Loc} {n0 n1 c0 c1 : Nat} {f : Nat → RowV} {q : Nat → B8} (h0 : RowsAt W p0 n0 c0 f) (h1 : SlAt W p1 n1 c1 q) :
    Sim ⟨2, fun i => match i with | 0 => p0 | _ => p1⟩ [rowsB false n0 f 0, bblk false n1 q 0] W := by
  have one : ∀ {E : Emb} {p : Loc} {n c : Nat} {q : Nat → B8}, SlAt W p n c q → okBlk E W p (bblk false n q 0) := fun {E p n c q} h => by
    refine ⟨?_, ⟨intsOf .u8 n (bfun q) ++ [], ⟨[], rfl, rfl⟩, fun j v hj => ?_⟩, fun h => by cases h⟩
    · rcases h.lt with h | ⟨h, h'⟩
      · exact .inl h
      · exact .inr ⟨h, by simp [sizeS, h']⟩
    · rw [List.append_nil] at hj
      have hj' : j < n := by
        rcases Nat.lt_or_ge j n with h | h
        · exact h
        · rw [List.getElem?_eq_none (by rw [length_intsOf]; exact h)] at hj; cases hj
      rw [intsOf_get hj'] at hj
      cases hj
      exact h.at_ j hj'
  refine ⟨rfl, fun i B hi => ?_, fun i j A B _ hi _ hA => ?_⟩
  · match i, hi with
    | 0, hi => simp only [List.getElem?_cons_zero, Option.some.injEq] at hi; subst hi; exact rows_blk h0
    | 1, hi => simp only [List.getElem?_cons_succ, List.getElem?_cons_zero, Option.some.injEq] at hi; subst hi; exact one h1
    | i + 2, hi => simp at hi
  · exfalso
    match i, hi with
    | 0, hi => simp only [List.getElem?_cons_zero, Option.some.injEq] at hi; subst hi; cases hA
    | 1, hi => simp only [List.getElem?_cons_succ, List.getElem?_cons_zero, Option.some.injEq] at hi; subst hi; cases hA
    | i + 2, hi => simp at hi
theorem rowOf_cells {g : Nat → Int} {c : Nat → Option Value} (h : ∀ q k, rowK[q]? = some k → c q = some (.int k (g q)) ∧ (Lit.int k (g q)).wf = true) : ∀ q v, ((rowOf g).svs.map svInt)[q]? = some v → c q = some v := by
  intro q v hv
  match q, hv with
  | 0, hv => cases hv; exact (h 0 _ rfl).1
  | 1, hv => cases hv; exact (h 1 _ rfl).1
  | 2, hv => cases hv; exact (h 2 _ rfl).1
  | 3, hv => cases hv; rw [(h 3 _ rfl).1]; exact congrArg (fun x => some (Value.int .u64 x)) (wf64 (h 3 _ rfl).2)
  | 4, hv => cases hv; rw [(h 4 _ rfl).1]; exact congrArg (fun x => some (Value.int .u32 x)) (wf32 (h 4 _ rfl).2)
  | 5, hv => cases hv; exact (h 5 _ rfl).1
  | 6, hv => cases hv; rw [(h 6 _ rfl).1]; exact congrArg (fun x => some (Value.int .u64 x)) (wf64 (h 6 _ rfl).2)
  | 7, hv => cases hv; rw [(h 7 _ rfl).1]; exact congrArg (fun x => some (Value.int .u64 x)) (wf64 (h 7 _ rfl).2)
  | 8, hv => cases hv; exact (h 8 _ rfl).1
  | 9, hv => cases hv; rw [(h 9 _ rfl).1]; exact congrArg (fun x => some (Value.int .u64 x)) (wf64 (h 9 _ rfl).2)
  | 10, hv => cases hv; exact (h 10 _ rfl).1
  | 11, hv => cases hv; rw [(h 11 _ rfl).1]; exact congrArg (fun x => some (Value.int .u64 x)) (wf64 (h 11 _ rfl).2)
  | 12, hv => cases hv; exact (h 12 _ rfl).1
  | 13, hv => cases hv; rw [(h 13 _ rfl).1]; exact congrArg (fun x => some (Value.int .u64 x)) (wf64 (h 13 _ rfl).2)
  | 14, hv => cases hv; rw [(h 14 _ rfl).1]; exact congrArg (fun x => some (Value.int .u64 x)) (wf64 (h 14 _ rfl).2)
  | 15, hv => cases hv; exact (h 15 _ rfl).1
  | q + 16, hv => cases hv
theorem rowOf_ok {g : Nat → Int} (h : ∀ q k, rowK[q]? = some k → (Lit.int k (g q)).wf = true) : (rowOf g).Ok :=
  ⟨wfi64 (h 5 _ rfl), wfi64 (h 8 _ rfl), wfi64 (h 10 _ rfl), wfi64 (h 12 _ rfl)⟩
theorem rowsIn_at {W : World} {a : Option Addr} {len cap : Nat} {f : Nat → Nat → Int} (h : rowsIn W rowK 128 a len cap f) : ∃ p : Loc, RowsAt W p len cap (fun j => rowOf (f j)) ∧ (∀ j, j < len → (rowOf (f j)).Ok) ∧ ∀ E : Emb, ∀ b, E.f b = p → b < E.n → denV E (.gs b 0 len cap) (.slice a len cap) := by
  obtain ⟨hle, ⟨rfl, rfl, rfl⟩ | ⟨b, o, rfl, hb, hlc, hc⟩⟩ := h
  · refine ⟨⟨0, 0, true⟩, ⟨hle, Nat.le_refl _, .inr ⟨rfl, rfl⟩, fun _ => ⟨rfl, rfl⟩, fun j hj => by omega⟩, fun j hj => by omega, fun E b hE hb => ?_⟩
    simp only [denV, hE]
    exact ⟨hb, fun _ => ⟨trivial, trivial⟩, rfl⟩
  · refine ⟨⟨b, o, false⟩, ⟨hle, hlc, .inl hb, (fun h => by cases h), fun j hj => ?_⟩, fun j hj => rowOf_ok fun q k hk => (hc j hj q k hk).2, fun E b' hE hb' => ?_⟩
    · exact rowOf_cells fun q k hk => hc j hj q k hk
    · simp only [denV, hE]
      refine ⟨hb', (fun h => by cases h), ?_⟩
      simp [Emb.at, hE]
/-- A trace that came in. -/
theorem trace_in {W : World} {l : List Value} (h : fitF W traceF l) : ∃ (t : TrV) (p0 p1 : Loc) (c0 c1 : Nat), RowsAt W p0 t.n c0 t.f ∧ SlAt W p1 t.no c1 t.out ∧ (∀ i, i < t.n → (t.f i).Ok) ∧
    ∀ E : Emb, E.f 0 = p0 → 0 < E.n → E.f 1 = p1 → 1 < E.n → denS E (tsegs (.gs 0 0 t.n c0) t.c t.off t.code (.gs 1 0 t.no c1)) l := by
  obtain ⟨a0, n0, c0, f0, l0, rfl, r0, h⟩ := h
  obtain ⟨c, x, y, rfl, hc, hy, _, _⟩ := cpu_in h
  simp only [fitF] at hy
  obtain ⟨off, _, rfl, woff, code, _, rfl, wcode, a1, n1, c1, f1, _, rfl, s1, rfl⟩ := hy
  obtain ⟨p0, k0, ok, d0⟩ := rowsIn_at r0
  obtain ⟨p1, k1, d1⟩ := slIn_at s1
  refine ⟨⟨n0, _, c, off, code, n1, _⟩, p0, p1, c0, c1, k0, k1, ok, fun E e0 l0 e1 l1 => ?_⟩
  refine ⟨_, _, rfl, d0 E 0 e0 l0, ?_⟩
  exact denS_append (hc E) ⟨_, _, rfl, rfl, _, _, rfl, rfl, _, _, rfl, d1 E 1 e1 l1, rfl⟩
end Go.Anv

/- What the arguments of the statements of this seat are made of. Printed by gen_ft.py; no condition. -/
namespace Go.Proofs.Ytghcdkpgcanpgaa
open Go Go.Anv
set_option maxRecDepth 100000
theorem ft42 (n : Nat) : FTn Try.prog (n + 2) 42 [.sl .u8, .int .u32, .int .u64, .int .u64, .bool, .bool, .int .u8, .int .u8, .int .u8, .int .u8, .bool, .sl .u8, .sl .u8, .int .i64, .int .i64] := .inr (.inr (.inr (.inr (.inl ⟨_, Try.underlying42, by kernel_rfl, ⟨[.sl .u8], _, rfl, rfl, by kernel_rfl, .inr (.inr (.inr (.inl ⟨_, _, Try.underlying23, Try.underlying5, by kernel_rfl, of_decide_eq_true (by kernel_rfl), rfl⟩))), ⟨[.int .u32], _, rfl, rfl, by kernel_rfl, .inl ⟨_, Try.underlying40, rfl⟩, ⟨[.int .u64], _, rfl, rfl, by kernel_rfl, .inl ⟨_, Try.underlying30, rfl⟩, ⟨[.int .u64], _, rfl, rfl, by kernel_rfl, .inl ⟨_, Try.underlying30, rfl⟩, ⟨[.bool], _, rfl, rfl, by kernel_rfl, .inr (.inl ⟨Try.underlying4, rfl⟩), ⟨[.bool], _, rfl, rfl, by kernel_rfl, .inr (.inl ⟨Try.underlying4, rfl⟩), ⟨[.int .u8], _, rfl, rfl, by kernel_rfl, .inl ⟨_, Try.underlying5, rfl⟩, ⟨[.int .u8], _, rfl, rfl, by kernel_rfl, .inl ⟨_, Try.underlying5, rfl⟩, ⟨[.int .u8], _, rfl, rfl, by kernel_rfl, .inl ⟨_, Try.underlying5, rfl⟩, ⟨[.int .u8], _, rfl, rfl, by kernel_rfl, .inl ⟨_, Try.underlying5, rfl⟩, ⟨[.bool], _, rfl, rfl, by kernel_rfl, .inr (.inl ⟨Try.underlying4, rfl⟩), ⟨[.sl .u8], _, rfl, rfl, by kernel_rfl, .inr (.inr (.inr (.inl ⟨_, _, Try.underlying23, Try.underlying5, by kernel_rfl, of_decide_eq_true (by kernel_rfl), rfl⟩))), ⟨[.sl .u8], _, rfl, rfl, by kernel_rfl, .inr (.inr (.inr (.inl ⟨_, _, Try.underlying23, Try.underlying5, by kernel_rfl, of_decide_eq_true (by kernel_rfl), rfl⟩))), ⟨[.int .i64], _, rfl, rfl, by kernel_rfl, .inl ⟨_, Try.underlying3, rfl⟩, ⟨[.int .i64], _, rfl, rfl, by kernel_rfl, .inl ⟨_, Try.underlying3, rfl⟩, rfl⟩⟩⟩⟩⟩⟩⟩⟩⟩⟩⟩⟩⟩⟩⟩⟩))))
theorem ft37 (n : Nat) : FTn Try.prog (n + 2) 37 [.bool, .int .u64, .int .i64] := .inr (.inr (.inr (.inr (.inl ⟨_, Try.underlying37, by kernel_rfl, ⟨[.bool], _, rfl, rfl, by kernel_rfl, .inr (.inl ⟨Try.underlying4, rfl⟩), ⟨[.int .u64], _, rfl, rfl, by kernel_rfl, .inl ⟨_, Try.underlying30, rfl⟩, ⟨[.int .i64], _, rfl, rfl, by kernel_rfl, .inl ⟨_, Try.underlying3, rfl⟩, rfl⟩⟩⟩⟩))))
theorem ft35 (n : Nat) : FTn Try.prog (n + 2) 35 [.arr .u8 16, .arr .u64 16] := .inr (.inr (.inr (.inr (.inl ⟨_, Try.underlying35, by kernel_rfl, ⟨[.arr .u8 16], _, rfl, rfl, by kernel_rfl, .inr (.inr (.inl ⟨_, _, _, Try.underlying32, Try.underlying5, by kernel_rfl, by kernel_rfl, rfl⟩)), ⟨[.arr .u64 16], _, rfl, rfl, by kernel_rfl, .inr (.inr (.inl ⟨_, _, _, Try.underlying33, Try.underlying30, by kernel_rfl, by kernel_rfl, rfl⟩)), rfl⟩⟩⟩))))
theorem ft39 (n : Nat) : FTn Try.prog (n + 3) 39 [.int .u64, .arr .u64 32, .int .i64, .bool, .int .u64, .int .u64, .int .u64, .int .u64, .int .u64, .int .u64, .int .u64, .int .u64, .int .u64, .int .u64, .int .u64, .int .u64, .arr .u8 16, .arr .u64 16, .bool, .int .u64, .int .i64] := .inr (.inr (.inr (.inr (.inl ⟨_, Try.underlying39, by kernel_rfl, ⟨[.int .u64], _, rfl, rfl, by kernel_rfl, .inl ⟨_, Try.underlying30, rfl⟩, ⟨[.arr .u64 32], _, rfl, rfl, by kernel_rfl, .inr (.inr (.inl ⟨_, _, _, Try.underlying31, Try.underlying30, by kernel_rfl, by kernel_rfl, rfl⟩)), ⟨[.int .i64], _, rfl, rfl, by kernel_rfl, .inl ⟨_, Try.underlying3, rfl⟩, ⟨[.bool], _, rfl, rfl, by kernel_rfl, .inr (.inl ⟨Try.underlying4, rfl⟩), ⟨[.int .u64], _, rfl, rfl, by kernel_rfl, .inl ⟨_, Try.underlying30, rfl⟩, ⟨[.int .u64], _, rfl, rfl, by kernel_rfl, .inl ⟨_, Try.underlying30, rfl⟩, ⟨[.int .u64], _, rfl, rfl, by kernel_rfl, .inl ⟨_, Try.underlying30, rfl⟩, ⟨[.int .u64], _, rfl, rfl, by kernel_rfl, .inl ⟨_, Try.underlying30, rfl⟩, ⟨[.int .u64], _, rfl, rfl, by kernel_rfl, .inl ⟨_, Try.underlying30, rfl⟩, ⟨[.int .u64], _, rfl, rfl, by kernel_rfl, .inl ⟨_, Try.underlying30, rfl⟩, ⟨[.int .u64], _, rfl, rfl, by kernel_rfl, .inl ⟨_, Try.underlying30, rfl⟩, ⟨[.int .u64], _, rfl, rfl, by kernel_rfl, .inl ⟨_, Try.underlying30, rfl⟩, ⟨[.int .u64], _, rfl, rfl, by kernel_rfl, .inl ⟨_, Try.underlying30, rfl⟩, ⟨[.int .u64], _, rfl, rfl, by kernel_rfl, .inl ⟨_, Try.underlying30, rfl⟩, ⟨[.int .u64], _, rfl, rfl, by kernel_rfl, .inl ⟨_, Try.underlying30, rfl⟩, ⟨[.int .u64], _, rfl, rfl, by kernel_rfl, .inl ⟨_, Try.underlying30, rfl⟩, ⟨[.arr .u8 16, .arr .u64 16], _, rfl, rfl, by kernel_rfl, ft35 (n + 0), ⟨[.bool, .int .u64, .int .i64], _, rfl, rfl, by kernel_rfl, ft37 (n + 0), rfl⟩⟩⟩⟩⟩⟩⟩⟩⟩⟩⟩⟩⟩⟩⟩⟩⟩⟩⟩))))
theorem ft44 (n : Nat) : FTn Try.prog (n + 4) 44 [.int .u64, .arr .u64 32, .int .i64, .bool, .int .u64, .int .u64, .int .u64, .int .u64, .int .u64, .int .u64, .int .u64, .int .u64, .int .u64, .int .u64, .int .u64, .int .u64, .arr .u8 16, .arr .u64 16, .bool, .int .u64, .int .i64, .sl .u8, .int .u32, .int .u64, .int .u64, .bool, .bool, .int .u8, .int .u8, .int .u8, .int .u8, .bool, .sl .u8, .sl .u8, .int .i64, .int .i64] := .inr (.inr (.inr (.inr (.inl ⟨_, Try.underlying44, by kernel_rfl, ⟨[.int .u64, .arr .u64 32, .int .i64, .bool, .int .u64, .int .u64, .int .u64, .int .u64, .int .u64, .int .u64, .int .u64, .int .u64, .int .u64, .int .u64, .int .u64, .int .u64, .arr .u8 16, .arr .u64 16, .bool, .int .u64, .int .i64], _, rfl, rfl, by kernel_rfl, ft39 (n + 0), ⟨[.sl .u8, .int .u32, .int .u64, .int .u64, .bool, .bool, .int .u8, .int .u8, .int .u8, .int .u8, .bool, .sl .u8, .sl .u8, .int .i64, .int .i64], _, rfl, rfl, by kernel_rfl, ft42 (n + 1), rfl⟩⟩⟩))))
theorem ft61 (n : Nat) : FTn Try.prog (n + 4) 61 [.rows [.i64, .i64, .i64, .u64, .u32, .i64, .u64, .u64, .i64, .u64, .i64, .u64, .i64, .u64, .u64, .i64] 128, .int .u64, .arr .u64 32, .int .i64, .bool, .int .u64, .int .u64, .int .u64, .int .u64, .int .u64, .int .u64, .int .u64, .int .u64, .int .u64, .int .u64, .int .u64, .int .u64, .arr .u8 16, .arr .u64 16, .bool, .int .u64, .int .i64, .int .i64, .int .i64, .sl .u8] := .inr (.inr (.inr (.inr (.inl ⟨_, Try.underlying61, by kernel_rfl, ⟨[.rows [.i64, .i64, .i64, .u64, .u32, .i64, .u64, .u64, .i64, .u64, .i64, .u64, .i64, .u64, .u64, .i64] 128], _, rfl, rfl, by kernel_rfl, .inr (.inr (.inr (.inr (.inr ⟨_, _, _, _, Try.underlying59, Try.underlying102, by kernel_rfl, by kernel_rfl, ⟨_, _, rfl, rfl, Try.underlying3, by kernel_rfl, ⟨_, _, rfl, rfl, Try.underlying3, by kernel_rfl, ⟨_, _, rfl, rfl, Try.underlying3, by kernel_rfl, ⟨_, _, rfl, rfl, Try.underlying30, by kernel_rfl, ⟨_, _, rfl, rfl, Try.underlying40, by kernel_rfl, ⟨_, _, rfl, rfl, Try.underlying3, by kernel_rfl, ⟨_, _, rfl, rfl, Try.underlying30, by kernel_rfl, ⟨_, _, rfl, rfl, Try.underlying30, by kernel_rfl, ⟨_, _, rfl, rfl, Try.underlying3, by kernel_rfl, ⟨_, _, rfl, rfl, Try.underlying30, by kernel_rfl, ⟨_, _, rfl, rfl, Try.underlying3, by kernel_rfl, ⟨_, _, rfl, rfl, Try.underlying30, by kernel_rfl, ⟨_, _, rfl, rfl, Try.underlying3, by kernel_rfl, ⟨_, _, rfl, rfl, Try.underlying30, by kernel_rfl, ⟨_, _, rfl, rfl, Try.underlying30, by kernel_rfl, ⟨_, _, rfl, rfl, Try.underlying3, by kernel_rfl, rfl⟩⟩⟩⟩⟩⟩⟩⟩⟩⟩⟩⟩⟩⟩⟩⟩, rfl⟩)))), ⟨[.int .u64, .arr .u64 32, .int .i64, .bool, .int .u64, .int .u64, .int .u64, .int .u64, .int .u64, .int .u64, .int .u64, .int .u64, .int .u64, .int .u64, .int .u64, .int .u64, .arr .u8 16, .arr .u64 16, .bool, .int .u64, .int .i64], _, rfl, rfl, by kernel_rfl, ft39 (n + 0), ⟨[.int .i64], _, rfl, rfl, by kernel_rfl, .inl ⟨_, Try.underlying3, rfl⟩, ⟨[.int .i64], _, rfl, rfl, by kernel_rfl, .inl ⟨_, Try.underlying3, rfl⟩, ⟨[.sl .u8], _, rfl, rfl, by kernel_rfl, .inr (.inr (.inr (.inl ⟨_, _, Try.underlying23, Try.underlying5, by kernel_rfl, of_decide_eq_true (by kernel_rfl), rfl⟩))), rfl⟩⟩⟩⟩⟩⟩))))
end Go.Proofs.Ytghcdkpgcanpgaa
