/- Part 4 of the texts of this claim, merged: E14, S2, V1, V2, V3, V4, V5, V6, V7, V8, V9, V10, V11, E15, E16, E17, W1, W2, W3, W4, W5, C1, W6, W7, W8, W9, L1, L2. No condition: plain theorems, contracts of functions. -/
import Derived.Test.YtghcdkpgcanpgaaZ3
import Derived.ChangeSlices
import Derived.OpenShut
import Derived.SizedLaws

/- The engine, part 14: the arguments of a statement: from what they read as to a small world. Plain theorems; their condition: what the program's table says of the types. -/
namespace Go.Anv
open Go

/-- What a cell of an argument, or a run of cells, is. -/
inductive FK where
  | int (k : IntKind)
  | bool
  | arr (k : IntKind) (n : Nat)
  | sl (k : IntKind)

def sizeF : List FK → Nat
  | [] => 0
  | .int _ :: r => sizeF r + 1
  | .bool :: r => sizeF r + 1
  | .arr _ n :: r => n + sizeF r
  | .sl _ :: r => sizeF r + 1

theorem sizeF_append : ∀ a b : List FK, sizeF (a ++ b) = sizeF a + sizeF b
  | [], b => by simp [sizeF]
  | .int _ :: r, b => by simp only [List.cons_append, sizeF, sizeF_append r b]; omega
  | .bool :: r, b => by simp only [List.cons_append, sizeF, sizeF_append r b]; omega
  | .arr _ _ :: r, b => by simp only [List.cons_append, sizeF, sizeF_append r b]; omega
  | .sl _ :: r, b => by simp only [List.cons_append, sizeF, sizeF_append r b]; omega

/-- A slice of whole numbers as it came in. -/
def slIn (W : World) (k : IntKind) (a : Option Addr) (len cap : Nat) (f : Nat → Int) : Prop :=
  len ≤ 140737488351232 ∧ ((a = none ∧ len = 0 ∧ cap = 0) ∨ ∃ b o, a = some ⟨b, o, none⟩ ∧ b < W.heap.size ∧ len ≤ cap ∧ ∀ j, j < len → W.cell? ⟨b, o + j, none⟩ = some (.int k (f j)) ∧ (Lit.int k (f j)).wf = true)

def fitF (W : World) : List FK → List Value → Prop
  | [], l => l = []
  | .int k :: r, l => ∃ a l', l = .int k a :: l' ∧ (Lit.int k a).wf = true ∧ fitF W r l'
  | .bool :: r, l => ∃ b l', l = .bool b :: l' ∧ fitF W r l'
  | .arr k n :: r, l => ∃ f l', l = intsOf k n f ++ l' ∧ (∀ j, j < n → (Lit.int k (f j)).wf = true) ∧ fitF W r l'
  | .sl k :: r, l => ∃ a len cap f l', l = .slice a len cap :: l' ∧ slIn W k a len cap f ∧ fitF W r l'

theorem fitF_length {W : World} : ∀ {ks : List FK} {l : List Value}, fitF W ks l → l.length = sizeF ks
  | [], _, h => by simp only [fitF] at h; subst h; rfl
  | .int _ :: r, _, h => by simp only [fitF] at h; obtain ⟨a, l', rfl, _, h⟩ := h; simp [sizeF, fitF_length h]
  | .bool :: r, _, h => by simp only [fitF] at h; obtain ⟨a, l', rfl, h⟩ := h; simp [sizeF, fitF_length h]
  | .arr _ _ :: r, _, h => by simp only [fitF] at h; obtain ⟨a, l', rfl, _, h⟩ := h; simp [sizeF, fitF_length h, length_intsOf]
  | .sl _ :: r, _, h => by simp only [fitF] at h; obtain ⟨a, len, cap, f, l', rfl, _, h⟩ := h; simp [sizeF, fitF_length h]

theorem fitF_append {W : World} : ∀ {a b : List FK} {x y : List Value}, fitF W a x → fitF W b y → fitF W (a ++ b) (x ++ y)
  | [], b, x, y, h, h' => by simp only [fitF] at h; subst h; exact h'
  | .int k :: r, b, x, y, h, h' => by simp only [fitF] at h; obtain ⟨a, l', rfl, h1, h⟩ := h; exact ⟨a, l' ++ y, rfl, h1, fitF_append h h'⟩
  | .bool :: r, b, x, y, h, h' => by simp only [fitF] at h; obtain ⟨a, l', rfl, h⟩ := h; exact ⟨a, l' ++ y, rfl, fitF_append h h'⟩
  | .arr k n :: r, b, x, y, h, h' => by simp only [fitF] at h; obtain ⟨a, l', rfl, h1, h⟩ := h; exact ⟨a, l' ++ y, by simp, h1, fitF_append h h'⟩
  | .sl k :: r, b, x, y, h, h' => by simp only [fitF] at h; obtain ⟨a, len, cap, f, l', rfl, h1, h⟩ := h; exact ⟨a, len, cap, f, l' ++ y, rfl, h1, fitF_append h h'⟩

/-- The fields of a struct, one behind the other. -/
def FFn (P : Program) (R : TypeId → List FK → Prop) : Nat → List Field → List FK → Prop
  | _, [], ks => ks = []
  | o, f :: fs, ks => ∃ k1 k2, ks = k1 ++ k2 ∧ f.offset = o ∧ P.cellsOf f.type = sizeF k1 ∧ R f.type k1 ∧ FFn P R (o + sizeF k1) fs k2

/-- A type of whole numbers, truth values, arrays and slices of whole numbers. -/
def FTn (P : Program) : Nat → TypeId → List FK → Prop
  | 0, _, _ => False
  | n + 1, t, ks => (∃ k, P.underlying t = some (.int k) ∧ ks = [.int k]) ∨ (P.underlying t = some .bool ∧ ks = [.bool]) ∨
      (∃ m e k, P.underlying t = some (.array m e) ∧ P.underlying e = some (.int k) ∧ P.cellsOf e = 1 ∧ P.cellsOf t = m ∧ ks = [.arr k m]) ∨
      (∃ e k, P.underlying t = some (.slice e) ∧ P.underlying e = some (.int k) ∧ P.cellsOf e = 1 ∧ 1 ≤ P.bytesOf e ∧ ks = [.sl k]) ∨
      (∃ fs, P.underlying t = some (.struct fs) ∧ P.cellsOf t = sizeF ks ∧ FFn P (FTn P n) 0 fs.toList ks)

/-- A slice's place is in the heap. -/
def placed (W : World) (v : Value) : Prop := ∀ a l c, v = .slice (some a) l c → a.spot = none ∧ a.block < W.heap.size

theorem placed_of_okWide {P : Program} {W : World} {r : Reach} {base : Nat} {u : TypeId} {v : Value} (h : Cell.okWide P W r base u v) : placed W v := by
  rintro a l c rfl
  have h' : Cell.ok P W r base u (.slice (some a) l c) := by
    unfold Cell.okWide at h
    split at h <;> first
      | exact h
      | (rename_i h1 h2; cases h2)
  unfold Cell.ok at h'
  obtain ⟨e, _, _, hhas⟩ : ∃ e, l ≤ c ∧ (c : Int) ≤ IntKind.i64.max ∧ W.has P r base a e c := by
    cases hu : P.underlying u with
    | none => rw [hu] at h'; exact h'.elim
    | some d =>
      rw [hu] at h'
      cases d <;> first
        | exact h'.elim
        | exact ⟨_, h'⟩
  obtain ⟨_, hs, row, cells, hsh, _⟩ := hhas
  refine ⟨hs, ?_⟩
  rcases Nat.lt_or_ge a.block W.heap.size with hlt | hge
  · exact hlt
  · simp [World.shape?, Array.getElem?_eq_none hge] at hsh

theorem FTn.opens {H : Type} {enc : TypeId × Value → H} {P : Program} {W : World} {base : Nat} {held : Bool} : ∀ (n : Nat) {t : TypeId} {ks : List FK}, FTn P n t ks → ∀ {fuel : Nat} {cs : List Value} {x : DataW H × List MemPlace},
    DataW.trod enc P W base (fun _ => true) held fuel t cs = some x → (∀ v ∈ cs, placed W v) → (∀ m ∈ x.1.weights P t, m ≤ reachBytes) → fitF W ks cs
  | 0, _, _, h, _, _, _, _, _, _ => h.elim
  | n + 1, t, ks, h, fuel, cs, x, hx, hp, hw => by
    rcases h with ⟨k, h, rfl⟩ | ⟨h, rfl⟩ | ⟨m, e, k, h, h1, h2, h3, rfl⟩ | ⟨e, k, h, h1, h2, h3, rfl⟩ | ⟨fs, h, h1, h2⟩
    · obtain ⟨a, rfl, _, hwf⟩ := DataW.trod_int h hx
      exact ⟨a, [], rfl, hwf, rfl⟩
    · obtain ⟨a, rfl, _⟩ := DataW.trod_bool h hx
      exact ⟨a, [], rfl, rfl⟩
    · obtain ⟨xs, m', _, _, hl, hxl, hel⟩ := DataW.trod_array h hx
      have each : ∀ i, i < m → ∃ a, cs[i]? = some (.int k a) ∧ (Lit.int k a).wf = true := fun i hi => by
        have h4 := hel i hi
        rw [h2, Nat.mul_one] at h4
        have h5 : xs[i]? = some xs[i] := List.getElem?_eq_getElem (by omega)
        rw [h5] at h4
        obtain ⟨a, h6, _, hwf⟩ := DataW.trod_int h1 h4
        refine ⟨a, ?_, hwf⟩
        have h7 := congrArg (·[0]?) h6
        simpa using h7
      refine ⟨fun i => match cs[i]? with | some (.int _ a) => a | _ => 0, [], ?_, fun j hj => ?_, rfl⟩
      · rw [List.append_nil]
        apply List.ext_getElem?
        intro i
        rcases Nat.lt_or_ge i m with hi | hi
        · obtain ⟨a, h4, _⟩ := each i hi
          rw [intsOf_get hi, h4]
        · rw [List.getElem?_eq_none (by omega), List.getElem?_eq_none (by rw [length_intsOf]; exact hi)]
      · obtain ⟨a, h4, hwf⟩ := each j hj
        simp only [h4]
        exact hwf
    · rcases ChangeShapes.open_ints h h1 h2 hx with ⟨rfl, _⟩ | ⟨a, l, c, zs, rfl, _, hl, hm, hz, rfl, hcell, hwz⟩
      · exact ⟨none, 0, 0, fun _ => 0, [], rfl, ⟨by omega, .inl ⟨rfl, rfl, rfl⟩⟩, rfl⟩
      · have hz : zs.length = c := by simpa using hz
        obtain ⟨hs, hb⟩ := hp _ List.mem_cons_self a l c rfl
        have hwt := hw ((l + (c - l)) * P.bytesOf e) (by simp [DataW.weights, h, ChangeShapes.lits, hz, hl])
        have hr : reachBytes = 140737488351232 := by decide
        have hle : l + (c - l) ≤ (l + (c - l)) * P.bytesOf e := Nat.le_mul_of_pos_right _ h3
        refine ⟨some a, l, c, fun j => zs.getD j 0, [], rfl, ⟨by omega, .inr ⟨a.block, a.off, ?_, hb, hl, fun j hj => ⟨?_, ?_⟩⟩⟩, rfl⟩
        · cases a; simp only at hs; subst hs; rfl
        · have := hcell j (by omega)
          unfold Addr.add at this
          split at this
          · rename_i h0
            subst h0
            cases a
            simp only at hs
            subst hs
            exact this
          · exact this
        · refine hwz _ ?_
          show zs.getD j 0 ∈ zs
          rw [List.getD_eq_getElem?_getD, List.getElem?_eq_getElem (by omega)]
          exact List.getElem_mem _
    · obtain ⟨xs, m', _, rfl, hl, hxl, hel⟩ := DataW.trod_struct h hx
      have key : ∀ (fl : List Field) (j o : Nat) (ks : List FK), FFn P (FTn P n) o fl ks → (∀ i f, fl[i]? = some f → fs.toList[j + i]? = some f) → o + sizeF ks ≤ cs.length → fitF W ks ((cs.drop o).take (sizeF ks)) := by
        intro fl
        induction fl with
        | nil =>
          intro j o ks hf _ _
          simp only [FFn] at hf
          subst hf
          simp [fitF, sizeF]
        | cons f fl ih =>
          intro j o ks hf hget hlen
          simp only [FFn] at hf
          obtain ⟨k1, k2, rfl, ho, hc, ht, hf⟩ := hf
          have hsz := sizeF_append k1 k2
          rw [hsz] at hlen ⊢
          have hj : fs[j]? = some f := by
            have := hget 0 f rfl
            rwa [Nat.add_zero, Array.getElem?_toList] at this
          have hjl : j < xs.length := by
            rw [hxl]
            rcases Nat.lt_or_ge j fs.size with h' | h'
            · exact h'
            · rw [Array.getElem?_eq_none h'] at hj; cases hj
          have h4 := hel j f hj
          rw [ho, hc, List.getElem?_eq_getElem hjl] at h4
          have h5 := FTn.opens n ht h4 (fun v hv => hp v (List.mem_of_mem_drop (List.mem_of_mem_take hv))) (fun m hm => hw m (by
            simp only [DataW.weights, h]
            refine DataW.weights_mem_each (j := j) (t := f.type) (d := (xs[j]).1) ?_ ?_ m hm
            · simp [hj]
            · simp [hjl]))
          have h6 := ih (j + 1) (o + sizeF k1) k2 hf (fun i f' hi => by
            have := hget (i + 1) f' (by simpa using hi)
            rwa [show j + (i + 1) = j + 1 + i by omega] at this) (by omega)
          have h7 := fitF_append h5 h6
          have h8 : (cs.drop o).take (sizeF k1) ++ (cs.drop (o + sizeF k1)).take (sizeF k2) = (cs.drop o).take (sizeF k1 + sizeF k2) := by
            rw [List.take_add, List.drop_drop]
          rwa [h8] at h7
      have h4 := key fs.toList 0 0 ks h2 (fun i f hi => by simpa using hi) (by rw [hl, h1]; omega)
      rw [List.drop_zero, List.take_of_length_le (by rw [hl, h1]; omega)] at h4
      exact h4

theorem struct_placed {P : Program} {W : World} {r : Reach} {base : Nat} {t : TypeId} {fs : Array Field} {v : Value} (ht : P.underlying t = some (.struct fs)) (h : Value.okWide P W r base t v) : ∃ cs, v = .agg cs ∧ ∀ x ∈ cs.toList, placed W x := by
  unfold Value.okWide at h
  rw [ht] at h
  obtain ⟨cs, rfl, _, ts, _, _, hrow⟩ := h
  refine ⟨cs, rfl, fun x hx => ?_⟩
  obtain ⟨i, hi⟩ := List.getElem?_of_mem hx
  obtain ⟨u, _, hu⟩ := hrow i x (by simpa using hi)
  exact placed_of_okWide hu

end Go.Anv

/- A whole as an argument: its plain values, its lists in three blocks. No condition. -/
namespace Go.Anv
open Go
theorem wf8 {n : Int} (h : (Lit.int .u8 n).wf = true) : n = ((BitVec.ofInt 8 n).toNat : Int) := by
  have h0 : 0 ≤ n ∧ n ≤ 255 := by
    simp only [Lit.wf, Bool.and_eq_true, decide_eq_true_eq] at h
    exact h
  rw [BitVec.toNat_ofInt]
  omega
theorem wf32 {n : Int} (h : (Lit.int .u32 n).wf = true) : n = ((BitVec.ofInt 32 n).toNat : Int) := by
  have h0 : 0 ≤ n ∧ n ≤ 4294967295 := by
    simp only [Lit.wf, Bool.and_eq_true, decide_eq_true_eq] at h
    exact h
  rw [BitVec.toNat_ofInt]
  omega
theorem wf64 {n : Int} (h : (Lit.int .u64 n).wf = true) : n = ((BitVec.ofInt 64 n).toNat : Int) := by
  have h0 : 0 ≤ n ∧ n ≤ 18446744073709551615 := by
    simp only [Lit.wf, Bool.and_eq_true, decide_eq_true_eq] at h
    exact h
  rw [BitVec.toNat_ofInt]
  omega
theorem wfi64 {n : Int} (h : (Lit.int .i64 n).wf = true) : -9223372036854775808 ≤ n ∧ n ≤ 9223372036854775807 := by
  simp only [Lit.wf, Bool.and_eq_true, decide_eq_true_eq] at h
  exact h

/-- Where a list of bytes lies that came in. -/
structure SlAt (W : World) (p : Loc) (n cap : Nat) (q : Nat → B8) : Prop where
  le : n ≤ 140737488351232
  cp : n ≤ cap
  lt : p.b < W.heap.size ∨ p.nl = true ∧ n = 0
  nl : p.nl = true → n = 0 ∧ cap = 0
  at_ : ∀ j, j < n → W.cell? ⟨p.b, p.o + j, none⟩ = some (.int .u8 (bfun q j))

def trim (n : Nat) (q : Nat → B8) (j : Nat) : B8 := if j < n then q j else 0#8
theorem ends_trim (n : Nat) (q : Nat → B8) : ∀ j, n ≤ j → trim n q j = 0#8 := fun j h => if_neg (by omega)
/-- Nothing behind the end. -/
theorem SlAt.trim {W : World} {p : Loc} {n cap : Nat} {q : Nat → B8} (h : SlAt W p n cap q) : SlAt W p n cap (trim n q) :=
  ⟨h.le, h.cp, h.lt, h.nl, fun j hj => by rw [h.at_ j hj, bfun, bfun, Anv.trim, if_pos hj]⟩

theorem slIn_at {W : World} {a : Option Addr} {len cap : Nat} {f : Nat → Int} (h : slIn W .u8 a len cap f) : ∃ p : Loc, SlAt W p len cap (fun j => BitVec.ofInt 8 (f j)) ∧ ∀ E : Emb, ∀ b, E.f b = p → b < E.n → denV E (.gs b 0 len cap) (.slice a len cap) := by
  obtain ⟨hle, ⟨rfl, rfl, rfl⟩ | ⟨b, o, rfl, hb, hlc, hc⟩⟩ := h
  · refine ⟨⟨0, 0, true⟩, ⟨hle, Nat.le_refl _, .inr ⟨rfl, rfl⟩, fun _ => ⟨rfl, rfl⟩, fun j hj => by omega⟩, fun E b hE hb => ?_⟩
    simp only [denV, hE]
    exact ⟨hb, fun _ => ⟨trivial, trivial⟩, rfl⟩
  · refine ⟨⟨b, o, false⟩, ⟨hle, hlc, .inl hb, (fun h => by cases h), fun j hj => ?_⟩, fun E b' hE hb' => ?_⟩
    · obtain ⟨h1, h2⟩ := hc j hj
      rw [h1]
      congr 2
      exact wf8 h2
    · simp only [denV, hE]
      refine ⟨hb', (fun h => by cases h), ?_⟩
      simp [Emb.at, hE]

/-- Three lists of bytes that came in, as a small world. -/
theorem sim3 {W : World} {p0 p1 p2 : Loc} {n0 n1 n2 c0 c1 c2 : Nat} {q0 q1 q2 : Nat → B8} (h0 : SlAt W p0 n0 c0 q0) (h1 : SlAt W p1 n1 c1 q1) (h2 : SlAt W p2 n2 c2 q2) :
    Sim ⟨3, fun i => match i with | 0 => p0 | 1 => p1 | _ => p2⟩ [bblk false n0 q0 0, bblk false n1 q1 0, bblk false n2 q2 0] W := by
  have one : ∀ {E : Emb} {p : Loc} {n c : Nat} {q : Nat → B8}, SlAt W p n c q → okBlk E W p (bblk false n q 0) := fun {E p n c q} h => by
    refine ⟨?_, ⟨intsOf .u8 n (bfun q) ++ [], ⟨[], rfl, rfl⟩, fun j v hj => ?_⟩, fun h => by cases h⟩
    · rcases h.lt with h | ⟨h, h'⟩
      · exact .inl h
      · exact .inr ⟨h, by simp [sizeS, h']⟩
    · rw [List.append_nil] at hj
      have hj' : j < n := by
        rcases Nat.lt_or_ge j n with h | h
        · exact h
        · rw [List.getElem?_eq_none (by rw [length_intsOf]; exact h)] at hj; cases hj
      rw [intsOf_get hj'] at hj
      cases hj
      exact h.at_ j hj'
  refine ⟨rfl, fun i B hi => ?_, fun i j A B _ hi _ hA => ?_⟩
  · match i, hi with
    | 0, hi => simp only [List.getElem?_cons_zero, Option.some.injEq] at hi; subst hi; exact one h0
    | 1, hi => simp only [List.getElem?_cons_succ, List.getElem?_cons_zero, Option.some.injEq] at hi; subst hi; exact one h1
    | 2, hi => simp only [List.getElem?_cons_succ, List.getElem?_cons_zero, Option.some.injEq] at hi; subst hi; exact one h2
    | i + 3, hi => simp at hi
  · exfalso
    match i, hi with
    | 0, hi => simp only [List.getElem?_cons_zero, Option.some.injEq] at hi; subst hi; cases hA
    | 1, hi => simp only [List.getElem?_cons_succ, List.getElem?_cons_zero, Option.some.injEq] at hi; subst hi; cases hA
    | 2, hi => simp only [List.getElem?_cons_succ, List.getElem?_cons_zero, Option.some.injEq] at hi; subst hi; cases hA
    | i + 3, hi => simp at hi

/-- The whole that is nothing. -/
def wz : Array Value := (List.replicate 33 (Value.int .u64 0) ++ (([.int .i64 0, .bool false] : List Value) ++ (List.replicate 12 (Value.int .u64 0) ++ (List.replicate 16 (Value.int .u8 0) ++ (List.replicate 16 (Value.int .u64 0) ++ (([.bool false, .int .u64 0, .int .i64 0] : List Value) ++
  ([.slice none 0 0, .int .u32 0, .int .u64 0, .int .u64 0, .bool false, .bool false, .int .u8 0, .int .u8 0, .int .u8 0, .int .u8 0, .bool false, .slice none 0 0, .slice none 0 0, .int .i64 0, .int .i64 0] : List Value))))))).toArray
def cpuF : List FK := [.int .u64, .arr .u64 32, .int .i64, .bool, .int .u64, .int .u64, .int .u64, .int .u64, .int .u64, .int .u64, .int .u64, .int .u64, .int .u64, .int .u64, .int .u64, .int .u64, .arr .u8 16, .arr .u64 16, .bool, .int .u64, .int .i64]
def busF : List FK := [.sl .u8, .int .u32, .int .u64, .int .u64, .bool, .bool, .int .u8, .int .u8, .int .u8, .int .u8, .bool, .sl .u8, .sl .u8, .int .i64, .int .i64]

theorem intsOf_bits8 {n : Nat} {f : Nat → Int} (h : ∀ j, j < n → (Lit.int .u8 (f j)).wf = true) : intsOf .u8 n f = intsOf .u8 n (bfun fun j => BitVec.ofInt 8 (f j)) := intsOf_congr fun j hj => wf8 (h j hj)
theorem intsOf_bits64 {n : Nat} {f : Nat → Int} (h : ∀ j, j < n → (Lit.int .u64 (f j)).wf = true) : intsOf .u64 n f = intsOf .u64 n (wfun fun j => BitVec.ofInt 64 (f j)) := intsOf_congr fun j hj => wf64 (h j hj)

/-- A Cpu that came in, at the head of some cells. -/
theorem cpu_in {W : World} {r : List FK} {l : List Value} (h : fitF W (cpuF ++ r) l) : ∃ (c : CpuV) (x y : List Value), l = x ++ y ∧ (∀ E, denS E c.segs x) ∧ fitF W r y ∧ (-9223372036854775808 ≤ c.mode ∧ c.mode ≤ 9223372036854775807) ∧ (-9223372036854775808 ≤ c.rsize ∧ c.rsize ≤ 9223372036854775807) := by
  simp only [cpuF, List.cons_append, List.nil_append, fitF] at h
  obtain ⟨pc, _, rfl, wpc, x, _, rfl, wx, mode, _, rfl, wmode, wt, _, rfl, h⟩ := h
  obtain ⟨a0, _, rfl, w0, a1, _, rfl, w1, a2, _, rfl, w2, a3, _, rfl, w3, a4, _, rfl, w4, a5, _, rfl, w5, a6, _, rfl, w6, a7, _, rfl, w7, a8, _, rfl, w8, a9, _, rfl, w9, a10, _, rfl, w10, a11, _, rfl, w11, h⟩ := h
  obtain ⟨cfg, _, rfl, wc, ad, _, rfl, wa, rv, _, rfl, ra, _, rfl, wra, rs, y, rfl, wrs, h⟩ := h
  refine ⟨⟨BitVec.ofInt 64 pc, fun j => BitVec.ofInt 64 (x j), mode, wt, BitVec.ofInt 64 a0, BitVec.ofInt 64 a1, BitVec.ofInt 64 a2, BitVec.ofInt 64 a3, BitVec.ofInt 64 a4, BitVec.ofInt 64 a5, BitVec.ofInt 64 a6, BitVec.ofInt 64 a7, BitVec.ofInt 64 a8,
    BitVec.ofInt 64 a9, BitVec.ofInt 64 a10, BitVec.ofInt 64 a11, fun j => BitVec.ofInt 8 (cfg j), fun j => BitVec.ofInt 64 (ad j), rv, BitVec.ofInt 64 ra, rs⟩,
    .int .u64 pc :: (intsOf .u64 32 x ++ .int .i64 mode :: .bool wt :: .int .u64 a0 :: .int .u64 a1 :: .int .u64 a2 :: .int .u64 a3 :: .int .u64 a4 :: .int .u64 a5 :: .int .u64 a6 :: .int .u64 a7 :: .int .u64 a8 :: .int .u64 a9 :: .int .u64 a10 :: .int .u64 a11 ::
      (intsOf .u8 16 cfg ++ (intsOf .u64 16 ad ++ [.bool rv, .int .u64 ra, .int .i64 rs]))), y, by simp, fun E => ?_, h, wfi64 wmode, wfi64 wrs⟩
  rw [intsOf_bits64 wx, intsOf_bits8 wc, intsOf_bits64 wa]
  simp only [CpuV.segs, denS, denV]
  rw [← wf64 wpc, ← wf64 w0, ← wf64 w1, ← wf64 w2, ← wf64 w3, ← wf64 w4, ← wf64 w5, ← wf64 w6, ← wf64 w7, ← wf64 w8, ← wf64 w9, ← wf64 w10, ← wf64 w11, ← wf64 wra]
  exact ⟨_, _, rfl, rfl, _, rfl, _, _, rfl, rfl, _, _, rfl, rfl, _, _, rfl, rfl, _, _, rfl, rfl, _, _, rfl, rfl, _, _, rfl, rfl, _, _, rfl, rfl, _, _, rfl, rfl, _, _, rfl, rfl, _, _, rfl, rfl, _, _, rfl, rfl, _, _, rfl, rfl, _, _, rfl, rfl, _, _, rfl, rfl, _, rfl, _, rfl, _, _, rfl, rfl, _, _, rfl, rfl, _, _, rfl, rfl, rfl⟩

/-- A bus's state that came in, at the head of some cells. -/
theorem bus_in {W : World} {r : List FK} {l : List Value} (h : fitF W (busF ++ r) l) : ∃ (s : BusV) (x y : List Value) (p0 p1 p2 : Loc) (c0 c1 c2 : Nat) (q0 q1 q2 : Nat → B8), l = x ++ y ∧ SlAt W p0 s.nr c0 q0 ∧ SlAt W p1 s.ni c1 q1 ∧ SlAt W p2 s.no c2 q2 ∧
    (∀ (E : Emb) b0 b1 b2, E.f b0 = p0 → b0 < E.n → E.f b1 = p1 → b1 < E.n → E.f b2 = p2 → b2 < E.n → denS E (s.segs (.gs b0 0 s.nr c0) (.gs b1 0 s.ni c1) (.gs b2 0 s.no c2)) x) ∧ fitF W r y := by
  simp only [busF, List.cons_append, List.nil_append, fitF] at h
  obtain ⟨a0, n0, c0, f0, _, rfl, s0, ms, _, rfl, wms, cm, _, rfl, wcm, nw, _, rfl, wnw, ex, _, rfl, so, _, rfl, h⟩ := h
  obtain ⟨ie, _, rfl, wie, lc, _, rfl, wlc, mc, _, rfl, wmc, sc, _, rfl, wsc, ov, _, rfl, h⟩ := h
  obtain ⟨a1, n1, c1, f1, _, rfl, s1, a2, n2, c2, f2, _, rfl, s2, off, _, rfl, woff, code, y, rfl, wcode, h⟩ := h
  obtain ⟨p0, k0, d0⟩ := slIn_at s0
  obtain ⟨p1, k1, d1⟩ := slIn_at s1
  obtain ⟨p2, k2, d2⟩ := slIn_at s2
  refine ⟨⟨n0, BitVec.ofInt 32 ms, BitVec.ofInt 64 cm, BitVec.ofInt 64 nw, ex, so, BitVec.ofInt 8 ie, BitVec.ofInt 8 lc, BitVec.ofInt 8 mc, BitVec.ofInt 8 sc, ov, n1, n2, off, code⟩,
    [.slice a0 n0 c0, .int .u32 ms, .int .u64 cm, .int .u64 nw, .bool ex, .bool so, .int .u8 ie, .int .u8 lc, .int .u8 mc, .int .u8 sc, .bool ov, .slice a1 n1 c1, .slice a2 n2 c2, .int .i64 off, .int .i64 code], y, p0, p1, p2, c0, c1, c2, _, _, _, rfl, k0, k1, k2, fun E b0 b1 b2 e0 l0 e1 l1 e2 l2 => ?_, h⟩
  simp only [BusV.segs, denS]
  have i0 := d0 E b0 e0 l0
  have i1 := d1 E b1 e1 l1
  have i2 := d2 E b2 e2 l2
  refine ⟨_, _, rfl, i0, _, _, rfl, ?_, _, _, rfl, ?_, _, _, rfl, ?_, _, _, rfl, rfl, _, _, rfl, rfl, _, _, rfl, ?_, _, _, rfl, ?_, _, _, rfl, ?_, _, _, rfl, ?_, _, _, rfl, rfl, _, _, rfl, i1, _, _, rfl, i2, _, _, rfl, rfl, _, _, rfl, rfl, rfl⟩ <;> simp only [denV]
  · rw [← wf32 wms]
  · rw [← wf64 wcm]
  · rw [← wf64 wnw]
  · rw [← wf8 wie]
  · rw [← wf8 wlc]
  · rw [← wf8 wmc]
  · rw [← wf8 wsc]
end Go.Anv

/- The writer of a snapshot: whole numbers byte by byte. Contracts of functions. -/
namespace Go.Anv
open Go
def bf (l : List B8) (j : Nat) : Int := ((l.getD j 0#8).toNat : Int)
theorem args_eq {T : Tbl} {f : FuncId} {a b : List EV} {h : List Blk} {Q : EV → List Blk → Prop} (e : a = b) (d : Does T f b h Q) : Does T f a h Q := e ▸ d
theorem bf_append (l r : List B8) {n m : Nat} (hn : n = l.length) (hm : m = r.length) {f g : Nat → Int} (hf : ∀ j, j < n → f j = bf l j) (hg : ∀ j, j < m → g j = bf r j) : ∀ j, j < n + m → catF n f g j = bf (l ++ r) j := by
  subst hn; subst hm
  intro j hj
  unfold catF
  split
  · rename_i h
    rw [hf j h]
    simp [bf, List.getD_eq_getElem?_getD, List.getElem?_append_left h]
  · rename_i h
    rw [hg (j - l.length) (by omega)]
    simp [bf, List.getD_eq_getElem?_getD, List.getElem?_append_right (Nat.le_of_not_lt h)]
theorem bf_one {b : B8} {v : Int} (h : v = b.toNat) : ∀ j, j < 1 → shf 0 (litF [v]) j = bf [b] j := by
  intro j hj
  match j, hj with
  | 0, _ => exact h
/-- The first bytes of a number, the lowest first. -/
def le (v : BitVec 64) : Nat → List B8
  | 0 => []
  | n + 1 => le v n ++ [(v >>> (8 * n)).setWidth 8]
theorem le_len (v : BitVec 64) : ∀ n, (le v n).length = n
  | 0 => rfl
  | n + 1 => by simp [le, le_len v n]
/-- A writer that holds these bytes. -/
def wr (L : List B8) (c : Nat) : List Blk := [.cells true [.one (.gs 1 0 L.length c)] 0, .cells true [.ints .u8 L.length (bf L)] (c - L.length)]
/-- The same, its bytes in a new place. -/
def wr2 (L : List B8) (c : Nat) : List Blk := [.cells true [.one (.gs 2 0 L.length c)] 0, .dead, .cells true [.ints .u8 L.length (bf L)] (c - L.length)]
def wrN (L : List B8) (c : Nat) : Nat → List Blk
  | 0 => wr L c
  | _ + 1 => wr2 L c
theorem low8 (v : BitVec 64) : IntKind.u8.wrap (v.toNat : Int) = ((v.setWidth 8).toNat : Int) := by
  rw [wrap_u8, BitVec.toNat_setWidth, BitVec.toNat_ofInt]
  omega
theorem shr8 (v : BitVec 64) (n : Nat) : ((v >>> (8 * n)).toNat : Int).fdiv (2 ^ 8) = ((v >>> (8 * (n + 1))).toNat : Int) := by
  rw [fdiv_pow, ← BitVec.shiftRight_add]
  rfl
end Go.Anv
namespace Go.Proofs.Ytghcdkpgcanpgaa
open Go Go.Anv
set_option maxRecDepth 100000 in
theorem number_spec (L : List B8) (c : Nat) (v : BitVec 64) (n : Nat) (hL : L.length ≤ 70368744177664) (hn : n ≤ 8) (hc : L.length ≤ c) :
    Does TB 42 [.s (.ptr 0 0), .s (.int .u64 v.toNat), .s (.int .i64 n)] (wr L c) (fun r h' => ∃ c', L.length + n ≤ c' ∧ r = .tuple [] ∧ h' = wrN (L ++ le v n) c' n) := by
  refine fnX_does TB Try.func42 rfl (by decide) (fun O on hO => ?_)
  refine loop_in (A := Nat × Nat) on (fun i => [(1, .s (.int .u64 (v >>> (8 * i.1)).toNat)), (7, .s (.int .i64 (i.1 : Int)))])
      (fun i => wrN (L ++ le v i.1) i.2 i.1)
      (fun i => i.1 ≤ n ∧ L.length + i.1 ≤ i.2) (fun i => n - i.1) (0, c) ⟨Nat.zero_le _, hc⟩ [0, 1] ?_ ?_
  · rw [hO]
    refine ⟨by decide, ⟨rfl, rfl, trivial⟩, ?_, ?_⟩
    · repeat' (first | exact eqvT_nil | refine eqvT_junk ?_ | refine eqvT_same ?_ | refine eqvT_int ?_ ?_)
    · refine ⟨⟨_, rfl, ⟨rfl, rfl, eqvS_gs ⟨rfl, rfl, ?_, rfl⟩ eqvS_nil⟩⟩, ⟨_, rfl, ⟨rfl, ?_, ⟨⟨rfl, ?_, ?_⟩, eqvS_nil⟩⟩⟩, trivial⟩ <;> simp [le]
  · rintro ⟨i, cap⟩ ⟨hi, hcap⟩
    replace hi : i ≤ n := hi
    replace hcap : L.length + i ≤ cap := hcap
    have hlen : (L ++ le v i).length = L.length + i := by rw [List.length_append, le_len]
    have hlen1 : (L ++ le v (i + 1)).length = L.length + i + 1 := by rw [List.length_append, le_len]; rfl
    have hnext : L ++ le v (i + 1) = (L ++ le v i) ++ [(v >>> (8 * i)).setWidth 8] := by simp [le]
    match i, hi, hcap, hlen, hlen1, hnext with
    | 0, hi, hcap, hlen, hlen1, hnext => 
      refine ifB_intro (fun h1 => ?_) (fun h1 => ?_)
      · have h1 : 0 < n := by
          have := of_decide_eq_true h1
          simpa using this
        have hM : (L ++ le v 0).length ≤ 70368744177672 := by omega
        refine need_intro ⟨Nat.le_refl _, by show (L ++ le v 0).length + 0 = (L ++ le v 0).length * 1; omega, by show cap * 1 = (L ++ le v 0).length * 1 + (cap - (L ++ le v 0).length); omega, room5 _ (by show (L ++ le v 0).length + 1 ≤ _; omega)⟩ ?_
        intro c1 hc1
        have hc1 : (L ++ le v 0).length + 1 ≤ c1 := hc1
        refine need_intro (by decide) ?_
        refine ⟨(0 + 1, c1), ⟨?_, ?_⟩, ?_, [0, 1, 3], ?_⟩
        · show 0 + 1 ≤ n; omega
        · show L.length + (0 + 1) ≤ c1; omega
        · show n - (0 + 1) < n - (0); omega
        · rw [hO]
          refine ⟨by decide, ⟨rfl, rfl, trivial⟩, ?_, ?_⟩
          · repeat' (first | exact eqvT_nil | refine eqvT_junk ?_ | refine eqvT_same ?_ | refine eqvT_int ?_ ?_)
            · exact shr8 v _
            all_goals (rw [i64_in (by omega) (by omega)]; try rfl)
          · refine ⟨⟨_, rfl, ⟨rfl, rfl, eqvS_gs ⟨rfl, rfl, ?_, rfl⟩ eqvS_nil⟩⟩, ⟨_, rfl, eqvB_refl _⟩, ⟨_, rfl, ⟨rfl, ?_, ⟨⟨rfl, ?_, ?_⟩, eqvS_nil⟩⟩⟩, trivial⟩
            · show (L ++ le v 0).length + 1 = (L ++ le v (0 + 1)).length
              omega
            · show (c1 - ((L ++ le v 0).length + 1)) * 1 = c1 - (L ++ le v (0 + 1)).length
              omega
            · show (L ++ le v 0).length + 1 = (L ++ le v (0 + 1)).length
              omega
            · rw [hnext]
              exact bf_append (L ++ le v 0) [(v >>> (8 * 0)).setWidth 8] (n := (L ++ le v 0).length) (m := 1) rfl rfl (fun _ _ => rfl) (bf_one (low8 (v >>> (8 * 0))))
      · have h1 : 0 = n := by
          have := of_decide_eq_false h1
          simp at this
          omega
        subst h1
        refine ⟨_, _, [0, 1], ⟨cap, hcap, rfl, rfl⟩, by decide, ⟨rfl, rfl, trivial⟩, trivial, ⟨_, rfl, eqvB_refl _⟩, ⟨_, rfl, eqvB_refl _⟩, trivial⟩
    | i + 1, hi, hcap, hlen, hlen1, hnext => 
      refine ifB_intro (fun h1 => ?_) (fun h1 => ?_)
      · have h1 : i + 1 < n := by
          have := of_decide_eq_true h1
          simp at this
          omega
        have hM : (L ++ le v (i + 1)).length ≤ 70368744177672 := by omega
        refine need_intro ⟨Nat.le_refl _, by show (L ++ le v (i + 1)).length + 0 = (L ++ le v (i + 1)).length * 1; omega, by show cap * 1 = (L ++ le v (i + 1)).length * 1 + (cap - (L ++ le v (i + 1)).length); omega, room5 _ (by show (L ++ le v (i + 1)).length + 1 ≤ _; omega)⟩ ?_
        intro c1 hc1
        have hc1 : (L ++ le v (i + 1)).length + 1 ≤ c1 := hc1
        refine need_intro (by decide) ?_
        refine ⟨(i + 1 + 1, c1), ⟨?_, ?_⟩, ?_, [0, 1, 4], ?_⟩
        · show i + 1 + 1 ≤ n; omega
        · show L.length + (i + 1 + 1) ≤ c1; omega
        · show n - (i + 1 + 1) < n - ((i + 1)); omega
        · rw [hO]
          refine ⟨by decide, ⟨rfl, rfl, trivial⟩, ?_, ?_⟩
          · repeat' (first | exact eqvT_nil | refine eqvT_junk ?_ | refine eqvT_same ?_ | refine eqvT_int ?_ ?_)
            · exact shr8 v _
            all_goals (rw [i64_in (by omega) (by omega)]; try rfl)
          · refine ⟨⟨_, rfl, ⟨rfl, rfl, eqvS_gs ⟨rfl, rfl, ?_, rfl⟩ eqvS_nil⟩⟩, ⟨_, rfl, eqvB_refl _⟩, ⟨_, rfl, ⟨rfl, ?_, ⟨⟨rfl, ?_, ?_⟩, eqvS_nil⟩⟩⟩, trivial⟩
            · show (L ++ le v (i + 1)).length + 1 = (L ++ le v (i + 1 + 1)).length
              omega
            · show (c1 - ((L ++ le v (i + 1)).length + 1)) * 1 = c1 - (L ++ le v (i + 1 + 1)).length
              omega
            · show (L ++ le v (i + 1)).length + 1 = (L ++ le v (i + 1 + 1)).length
              omega
            · rw [hnext]
              exact bf_append (L ++ le v (i + 1)) [(v >>> (8 * (i + 1))).setWidth 8] (n := (L ++ le v (i + 1)).length) (m := 1) rfl rfl (fun _ _ => rfl) (bf_one (low8 (v >>> (8 * (i + 1)))))
      · have h1 : i + 1 = n := by
          have := of_decide_eq_false h1
          simp at this
          omega
        subst h1
        refine ⟨_, _, [0, 1, 2], ⟨cap, hcap, rfl, rfl⟩, by decide, ⟨rfl, rfl, trivial⟩, trivial, ⟨_, rfl, eqvB_refl _⟩, ⟨_, rfl, eqvB_refl _⟩, ⟨_, rfl, eqvB_refl _⟩, trivial⟩
end Go.Proofs.Ytghcdkpgcanpgaa

/- The writer of a snapshot: many bytes at once. Contract of a function. -/
namespace Go.Proofs.Ytghcdkpgcanpgaa
open Go Go.Anv
set_option maxRecDepth 100000 in
theorem bytes_spec (L : List B8) (c : Nat) (m : Bool) (P : List B8) (k o cp sp : Nat) (f : Nat → Int) (hf : ∀ j, j < P.length → f (o + j) = bf P j) (hk : o + P.length ≤ k)
    (hL : L.length ≤ 70368744177664) (hP : P.length ≤ 70368744177664) (hc : L.length ≤ c) :
    Does TB 39 [.s (.ptr 0 0), .s (.gs 2 o P.length cp)] (wr L c ++ [.cells m [.ints .u8 k f] sp])
      (fun r h' => ∃ c', L.length + P.length ≤ c' ∧ r = .tuple [] ∧ h' = [.cells true [.one (.gs 3 0 (L ++ P).length c')] 0, .dead, .cells m [.ints .u8 k f] sp, .cells true [.ints .u8 (L ++ P).length (bf (L ++ P))] (c' - (L ++ P).length)]) := by
  refine fnX_does TB Try.func39 rfl (by decide) (fun O on hO => ?_)
  refine need_intro ⟨by show (0 : Int) ≤ ((P.length : Nat) : Int); omega, by show L.length + 0 = L.length * 1; omega, by show c * 1 = L.length * 1 + (c - L.length); omega, room5 _ (by show L.length + P.length ≤ _; omega)⟩ ?_
  intro c1 hc1
  have hc1 : L.length + P.length ≤ c1 := hc1
  refine need_intro ⟨by omega, by show ((L.length : Nat) : Int) ≤ ((L.length + P.length : Nat) : Int); omega, by show ((L.length + P.length : Nat) : Int) ≤ (c1 : Int); omega⟩ ?_
  have hsk : skip c1 L.length 0 1 ≤ L.length ∧ (P.length ≠ 0 → skip c1 L.length 0 1 = L.length) := by
    unfold skip
    split <;> omega
  have hd : L.length + P.length - L.length = P.length := by omega
  refine need_intro ⟨hk, by show skip c1 L.length 0 1 + (L.length + P.length - L.length) ≤ L.length + P.length; omega⟩ ?_
  have hlen : (L ++ P).length = L.length + P.length := List.length_append
  refine ⟨_, _, [0, 1, 2, 3], ⟨c1, hc1, rfl, rfl⟩, by decide, ⟨rfl, rfl, rfl, trivial⟩, trivial, ?_⟩
  refine ⟨⟨_, rfl, ⟨rfl, rfl, eqvS_gs ⟨rfl, rfl, ?_, rfl⟩ eqvS_nil⟩⟩, ⟨_, rfl, eqvB_refl _⟩, ⟨_, rfl, eqvB_refl _⟩, ⟨_, rfl, ⟨rfl, ?_, ⟨⟨rfl, ?_, ?_⟩, eqvS_nil⟩⟩⟩, trivial⟩
  · show L.length + P.length = (L ++ P).length
    omega
  · show (c1 - (L.length + P.length)) * 1 = c1 - (L ++ P).length
    omega
  · show L.length + P.length = (L ++ P).length
    omega
  · intro j hj
    have hj : j < L.length + P.length := hj
    show putF (skip c1 L.length 0 1) (min P.length (L.length + P.length - L.length)) (shf o f) (catF L.length (bf L) fun _ => 0) j = bf (L ++ P) j
    rw [hd, Nat.min_self]
    unfold putF catF
    split
    · rename_i h1
      have hP0 : P.length ≠ 0 := by omega
      have hs := hsk.2 hP0
      rw [hs] at h1 ⊢
      show f (o + (j - L.length)) = _
      rw [hf _ (by omega)]
      simp [bf, List.getD_eq_getElem?_getD, List.getElem?_append_right h1.1]
    · rename_i h1
      have h2 : j < L.length := by
        by_cases hP0 : P.length = 0
        · omega
        · have hs := hsk.2 hP0
          rw [hs] at h1
          omega
      rw [if_pos h2]
      simp [bf, List.getD_eq_getElem?_getD, List.getElem?_append_left h2]
end Go.Proofs.Ytghcdkpgcanpgaa

/- The sum over a snapshot's bytes; a blank page. Contracts of functions. -/
namespace Go.Anv
open Go
def crcBit (x : BitVec 32) : BitVec 32 := if x &&& 1#32 == 1#32 then (x >>> 1) ^^^ 3988292384#32 else x >>> 1
def crcBits (x : BitVec 32) : Nat → BitVec 32
  | 0 => x
  | n + 1 => crcBit (crcBits x n)
/-- The sum over the first bytes, not yet turned over. -/
def crcN (p : Nat → B8) : Nat → BitVec 32
  | 0 => 4294967295#32
  | n + 1 => crcBits (crcN p n ^^^ (p n).setWidth 32) 8
theorem u32_of8 (b : B8) : IntKind.u32.wrap ((b.toNat : Int)) = ((b.setWidth 32).toNat : Int) := by
  have := b.isLt
  rw [wrap_u32, BitVec.toNat_setWidth, BitVec.toNat_ofInt]
  omega
end Go.Anv
namespace Go.Proofs.Ytghcdkpgcanpgaa
open Go Go.Anv
set_option maxRecDepth 100000 in
theorem sum_spec (m : Bool) (k o n c sp : Nat) (f : Nat → Int) (p : Nat → B8) (hn : o + n ≤ k) (hk : n < 2 ^ 62) (hp : ∀ j, j < n → f (o + j) = (p j).toNat) :
    Does TB 43 [.s (.gs 0 o n c)] [.cells m [.ints .u8 k f] sp] (fun v h' => v = .s (.int .u32 (~~~ crcN p n).toNat) ∧ h' = [.cells m [.ints .u8 k f] sp]) := by
  refine fnX_does TB Try.func43 rfl (by decide) (fun O on hO => ?_)
  refine loop_by (A := Nat) on (fun i => [(3, .s (.int .u32 (crcN p i).toNat)), (9, .s (.int .i64 (i : Int)))]) (fun _ => [.cells m [.ints .u8 k f] sp]) (fun i => i ≤ n) (fun i => n - i) 0 (by omega) ?_ ?_
  · refine ⟨?_, ?_⟩
    · repeat' (first | exact eqvT_nil | refine eqvT_junk ?_ | refine eqvT_same ?_ | refine eqvT_int ?_ ?_)
    · exact eqvH_same eqvH_nil
  · intro i hi
    refine ifB_intro (fun h1 => ?_) (fun h1 => ?_)
    · have h1 := of_decide_eq_true h1
      refine need_intro (by omega) ?_
      refine need_intro (by omega) ?_
      have hf : f (o + (i : Int).toNat) = (p i).toNat := hp i (by omega)
      refine loop_by (A := Nat) on (fun j => [(3, .s (.int .u32 (crcBits (crcN p i ^^^ (p i).setWidth 32) j).toNat)), (17, .s (.int .i64 (j : Int)))]) (fun _ => [.cells m [.ints .u8 k f] sp]) (fun j => j ≤ 8) (fun j => 8 - j) 0 (by omega) ?_ ?_
      · refine ⟨?_, ?_⟩
        · repeat' (first | exact eqvT_nil | refine eqvT_junk ?_ | refine eqvT_same ?_ | refine eqvT_int ?_ ?_)
          · rw [hf, u32_of8, xor_u32, ofInt_toNat, ofInt_toNat]
            rfl
        · exact eqvH_same eqvH_nil
      · intro j hj
        have hb : crcBits (crcN p i ^^^ (p i).setWidth 32) (j + 1) = crcBit (crcBits (crcN p i ^^^ (p i).setWidth 32) j) := rfl
        generalize hX : crcBits (crcN p i ^^^ (p i).setWidth 32) j = X at hb
        refine ifB_intro (fun h2 => ?_) (fun h2 => ?_)
        · have h2 := of_decide_eq_true h2
          refine need_intro (by decide) ?_
          have hlow : (bitX .and .u32 (X.toNat : Int) 1 == 1) = (X &&& 1#32 == 1#32) := by
            rw [and_u32, ofInt_toNat]
            exact beq_lit (X &&& 1#32) 1 (by decide) (by decide)
          have hsh : ((X.toNat : Int)).fdiv (2 ^ 1) = ((X >>> 1).toNat : Int) := fdiv_pow X 1
          refine ifB_intro (fun h3 => ?_) (fun h3 => ?_)
          · have h3 : (X &&& 1#32 == 1#32) = true := hlow.symm.trans h3
            refine ⟨j + 1, ?_, ?_, ?_, ?_⟩
            · show j + 1 ≤ 8; omega
            · show 8 - (j + 1) < 8 - j; omega
            · repeat' (first | exact eqvT_nil | refine eqvT_junk ?_ | refine eqvT_same ?_ | refine eqvT_int ?_ ?_)
              · rw [hb]
                unfold crcBit
                rw [if_pos h3]
                show bitX .xor .u32 (((X.toNat : Int)).fdiv (2 ^ 1)) 3988292384 = _
                rw [hsh, xor_u32, ofInt_toNat]
                rfl
              · rw [i64_in (by omega) (by omega)]; rfl
            · exact eqvH_same eqvH_nil
          · have h3 : (X &&& 1#32 == 1#32) = false := hlow.symm.trans h3
            refine ⟨j + 1, ?_, ?_, ?_, ?_⟩
            · show j + 1 ≤ 8; omega
            · show 8 - (j + 1) < 8 - j; omega
            · repeat' (first | exact eqvT_nil | refine eqvT_junk ?_ | refine eqvT_same ?_ | refine eqvT_int ?_ ?_)
              · rw [hb]
                unfold crcBit
                rw [h3]
                exact hsh
              · rw [i64_in (by omega) (by omega)]; rfl
            · exact eqvH_same eqvH_nil
        · have h2 := of_decide_eq_false h2
          have hj8 : j = 8 := by omega
          subst hj8
          refine ⟨i + 1, ?_, ?_, ?_, ?_⟩
          · show i + 1 ≤ n; omega
          · show n - (i + 1) < n - i; omega
          · repeat' (first | exact eqvT_nil | refine eqvT_junk ?_ | refine eqvT_same ?_ | refine eqvT_int ?_ ?_)
            · exact congrArg (fun z : BitVec 32 => (z.toNat : Int)) hX.symm
            · rw [i64_in (by omega) (by omega)]; rfl
          · exact eqvH_same eqvH_nil
    · have h1 := of_decide_eq_false h1
      have : i = n := by omega
      subst this
      refine ⟨_, _, [0], ⟨rfl, rfl⟩, by decide, ⟨rfl, trivial⟩, ⟨rfl, ?_⟩, ⟨⟨_, rfl, eqvB_refl _⟩, trivial⟩⟩
      show bitX .xor .u32 4294967295 ((crcN p i).toNat : Int) = _
      rw [xor_u32, ofInt_toNat, show BitVec.ofInt 32 4294967295 = BitVec.allOnes 32 by decide, BitVec.allOnes_xor]
def blankN (p : Nat → B8) : Nat → Bool
  | 0 => true
  | n + 1 => blankN p n && (p n == 0#8)
theorem blankN_false {p : Nat → B8} {i : Nat} (h : p i ≠ 0#8) : ∀ {n : Nat}, i < n → blankN p n = false
  | n + 1, hn => by
    by_cases hi : i = n
    · subst hi
      simp [blankN, h]
    · simp [blankN, blankN_false h (n := n) (by omega)]
set_option maxRecDepth 100000 in
theorem blank_spec (m : Bool) (k o n c sp : Nat) (f : Nat → Int) (p : Nat → B8) (hn : o + n ≤ k) (hk : n < 2 ^ 62) (hp : ∀ j, j < n → f (o + j) = (p j).toNat) :
    Does TB 79 [.s (.gs 0 o n c)] [.cells m [.ints .u8 k f] sp] (fun v h' => v = .s (.bool (blankN p n)) ∧ h' = [.cells m [.ints .u8 k f] sp]) := by
  refine fnX_does TB Try.func79 rfl (by decide) (fun O on hO => ?_)
  refine loop_by (A := Nat) on (fun i => [(2, .s (.bool false)), (7, .s (.int .i64 (i : Int)))]) (fun _ => [.cells m [.ints .u8 k f] sp]) (fun i => i ≤ n ∧ blankN p i = true) (fun i => n - i) 0 ⟨by omega, rfl⟩ ?_ ?_
  · refine ⟨?_, ?_⟩
    · repeat' (first | exact eqvT_nil | refine eqvT_junk ?_ | refine eqvT_same ?_ | refine eqvT_int ?_ ?_)
    · exact eqvH_same eqvH_nil
  · rintro i ⟨hi, hb⟩
    refine ifB_intro (fun h1 => ?_) (fun h1 => ?_)
    · have h1 := of_decide_eq_true h1
      refine need_intro (by omega) ?_
      refine need_intro (by omega) ?_
      have hf : f (o + (i : Int).toNat) = (p i).toNat := hp i (by omega)
      have hz : (((p i).toNat : Int) == 0) = (p i == 0#8) := beq_lit (p i) 0 (by decide) (by decide)
      refine ifB_intro (fun h2 => ?_) (fun h2 => ?_)
      · have h2 : (!(f (o + (i : Int).toNat) == 0)) = true := h2
        rw [hf, hz] at h2
        have h3 : p i ≠ 0#8 := by simpa using h2
        exact ⟨.s (.bool false), [.cells m [.ints .u8 k f] sp], [0], ⟨by rw [blankN_false h3 (by omega)], rfl⟩, by decide, ⟨rfl, trivial⟩, rfl, ⟨⟨_, rfl, eqvB_refl _⟩, trivial⟩⟩
      · have h2 : (!(f (o + (i : Int).toNat) == 0)) = false := h2
        rw [hf, hz] at h2
        refine ⟨i + 1, ?_, ?_, ?_, ?_⟩
        · refine ⟨by omega, ?_⟩
          simp only [blankN, hb, Bool.true_and]
          simpa using h2
        · show n - (i + 1) < n - i; omega
        · repeat' (first | exact eqvT_nil | refine eqvT_junk ?_ | refine eqvT_same ?_ | refine eqvT_int ?_ ?_)
          rw [i64_in (by omega) (by omega)]; rfl
        · exact eqvH_same eqvH_nil
    · have h1 := of_decide_eq_false h1
      have : i = n := by omega
      subst this
      exact ⟨.s (.bool true), [.cells m [.ints .u8 k f] sp], [0], ⟨by rw [hb], rfl⟩, by decide, ⟨rfl, trivial⟩, rfl, ⟨⟨_, rfl, eqvB_refl _⟩, trivial⟩⟩
end Go.Proofs.Ytghcdkpgcanpgaa

/- A page of the ram. Contract of a function. -/
namespace Go.Proofs.Ytghcdkpgcanpgaa
open Go Go.Anv
set_option maxRecDepth 100000 in
theorem cut_spec (m : Bool) (k n c sp a : Nat) (f : Nat → Int) (hc : n ≤ c) (hn : n ≤ 2 ^ 60) (ha : a ≤ n) :
    Does TB 78 [.s (.gs 0 0 n c), .s (.int .i64 a)] [.cells m [.ints .u8 k f] sp]
      (fun v h' => v = .s (.gs 0 (skip (min (a + 256) n) a 0 1) (min (a + 256) n - a) (min (a + 256) n - a)) ∧ h' = [.cells m [.ints .u8 k f] sp]) := by
  refine fnX_does TB Try.func78 rfl (by decide) (fun O on hO => ?_)
  have hw : IntKind.i64.wrap ((a : Int) + 256) = ((a + 256 : Nat) : Int) := by
    rw [i64_in (by omega) (by omega)]; rfl
  have hm : (if (n : Int) < IntKind.i64.wrap ((a : Int) + 256) then (n : Int) else IntKind.i64.wrap ((a : Int) + 256)) = ((min (a + 256) n : Nat) : Int) := by
    rw [hw]
    split <;> omega
  refine need_intro (by rw [hm]; omega) ?_
  refine ⟨.s (.gs 0 (skip (min (a + 256) n) a 0 1) (min (a + 256) n - a) (min (a + 256) n - a)), [.cells m [.ints .u8 k f] sp], [0], ⟨rfl, rfl⟩, by decide, ⟨rfl, trivial⟩, ?_, ⟨⟨_, rfl, eqvB_refl _⟩, trivial⟩⟩
  have hm' : (if (n : Int) < IntKind.i64.wrap ((a : Int) + 256) then (n : Int) else IntKind.i64.wrap ((a : Int) + 256)).toNat = min (a + 256) n := by rw [hm]; rfl
  refine ⟨rfl, ?_, ?_, ?_⟩
  · exact congrArg (fun z => skip z a 0 1) hm'
  · exact congrArg (fun z => z - a) hm'
  · exact congrArg (fun z => z - a) hm'
end Go.Proofs.Ytghcdkpgcanpgaa

/- The pages of the ram in a snapshot. Contract of a function. -/
namespace Go.Proofs.Ytghcdkpgcanpgaa
open Go Go.Anv
/-- A page: the bytes from here, at most 256, none behind the ram's end. -/
def pageAt (p : Nat → B8) (n j : Nat) : List B8 := (List.range (min (256 * j + 256) n - 256 * j)).map fun t => p (256 * j + t)
def pagesN (p : Nat → B8) (n : Nat) : Nat → List B8
  | 0 => []
  | j + 1 => pagesN p n j ++ (if blankN (fun t => p (256 * j + t)) (min (256 * j + 256) n - 256 * j) then [] else le (BitVec.ofNat 64 j) 2 ++ pageAt p n j)
theorem pagesN_len (p : Nat → B8) (n : Nat) : ∀ j, (pagesN p n j).length ≤ 258 * j
  | 0 => by simp [pagesN]
  | j + 1 => by
    have := pagesN_len p n j
    simp only [pagesN, List.length_append]
    split
    · simp; omega
    · simp only [List.length_append, le_len, pageAt, List.length_map, List.length_range]; omega
/-- The writer's bytes in the third block, a slice of the caller's in the second. -/
def wr3 (L : List B8) (c : Nat) (B : Blk) : List Blk := [.cells true [.one (.gs 3 0 L.length c)] 0, .dead, B, .cells true [.ints .u8 L.length (bf L)] (c - L.length)]
set_option maxRecDepth 100000 in
theorem pages_spec (L : List B8) (c : Nat) (m : Bool) (n k cr sp : Nat) (f : Nat → Int) (p : Nat → B8) (hp : ∀ j, j < n → f j = (p j).toNat) (hk : n ≤ k) (hcr : n ≤ cr)
    (hL : L.length ≤ 2 ^ 40) (hn : n ≤ 2 ^ 40) (hc : L.length ≤ c) :
    Does TB 41 [.s (.ptr 0 0), .s (.gs 2 0 n cr)] (wr L c ++ [.cells m [.ints .u8 k f] sp])
      (fun r h' => ∃ c', (L ++ le (BitVec.ofNat 64 n) 4 ++ pagesN p n ((n + 255) / 256) ++ le 65535#64 2).length ≤ c' ∧ r = .tuple [] ∧
        h' = wr3 (L ++ le (BitVec.ofNat 64 n) 4 ++ pagesN p n ((n + 255) / 256) ++ le 65535#64 2) c' (.cells m [.ints .u8 k f] sp)) := by
  refine fnX_does TB Try.func41 rfl (by decide) (fun O on hO => ?_)
  have hn64 : IntKind.u64.wrap ((n : Nat) : Int) = ((BitVec.ofNat 64 n).toNat : Int) := by
    rw [wrap_u64, BitVec.toNat_ofInt, BitVec.toNat_ofNat]
    omega
  refine args_eq (b := [.s (.ptr 0 0), .s (.int .u64 (BitVec.ofNat 64 n).toNat), .s (.int .i64 4)]) (by rw [← hn64]) ?_
  refine Does.at (number_spec L c (BitVec.ofNat 64 n) 4 (by omega) (by decide) hc) [0, 1] rfl ⟨rfl, rfl, trivial⟩ (by decide) ?_ ?_
  · rintro v h' ⟨c', _, _, rfl⟩
    exact ⟨.inl rfl, .inr (.inl rfl), .inl rfl, trivial⟩
  · rintro v h' ⟨c1, hc1, rfl, rfl⟩
    have hc1 : L.length + 4 ≤ c1 := hc1
    generalize hL0 : L ++ le (BitVec.ofNat 64 n) 4 = L0
    have hl0 : L0.length = L.length + 4 := by rw [← hL0, List.length_append, le_len]
    refine loop_in (A := Nat × Nat) on (fun i => [(4, .s (.int .i64 ((256 * i.1 : Nat) : Int))), (5, .junk)])
      (fun i => wr3 (L0 ++ pagesN p n i.1) i.2 (.cells m [.ints .u8 k f] sp))
      (fun i => i.1 ≤ (n + 255) / 256 ∧ (L0 ++ pagesN p n i.1).length ≤ i.2) (fun i => (n + 255) / 256 - i.1) (0, c1) ⟨Nat.zero_le _, by simp [pagesN, hl0]; exact hc1⟩ [0, 1, 2, 3] ?_ ?_
    · rw [hO]
      refine ⟨by decide, ⟨rfl, rfl, rfl, trivial⟩, ?_, ?_⟩
      · repeat' (first | exact eqvT_nil | refine eqvT_junk ?_ | refine eqvT_same ?_ | refine eqvT_int ?_ ?_)
      · refine ⟨⟨_, rfl, ⟨rfl, rfl, eqvS_gs ⟨rfl, rfl, ?_, rfl⟩ eqvS_nil⟩⟩, ⟨_, rfl, eqvB_refl _⟩, ⟨_, rfl, eqvB_refl _⟩, ⟨_, rfl, ⟨rfl, ?_, ⟨⟨rfl, ?_, ?_⟩, eqvS_nil⟩⟩⟩, trivial⟩ <;> simp [pagesN]
    · rintro ⟨i, cap⟩ ⟨hi, hcap⟩
      replace hi : i ≤ (n + 255) / 256 := hi
      replace hcap : (L0 ++ pagesN p n i).length ≤ cap := hcap
      have hpl := pagesN_len p n i
      have hll : (L0 ++ pagesN p n i).length = L.length + 4 + (pagesN p n i).length := by rw [List.length_append, hl0]
      refine ifB_intro (fun h1 => ?_) (fun h1 => ?_)
      · have h1 : 256 * i < n := by
          have h2 : ((256 * i : Nat) : Int) < (n : Int) := of_decide_eq_true h1
          omega
        have hsk : skip (min (256 * i + 256) n) (256 * i) 0 1 = 256 * i := by
          unfold skip
          rw [if_neg (by omega)]
          omega
        generalize hM : L0 ++ pagesN p n i = M at hll hcap
        refine Does.at (cut_spec m k n cr sp (256 * i) f hcr (by omega) (by omega)) [2] rfl ⟨rfl, trivial⟩ (by decide) ?_ ?_
        · rintro v h' ⟨_, rfl⟩
          exact ⟨.inr (.inr rfl), trivial⟩
        · rintro v h' ⟨rfl, rfl⟩
          rw [hsk]
          refine Does.at (blank_spec m k (256 * i) (min (256 * i + 256) n - 256 * i) (min (256 * i + 256) n - 256 * i) sp f (fun t => p (256 * i + t)) (by omega) (by omega) (fun t ht => hp _ (by omega))) [2] rfl ⟨rfl, trivial⟩ (by decide) ?_ ?_
          · rintro v h' ⟨_, rfl⟩
            exact ⟨.inr (.inr rfl), trivial⟩
          · rintro v h' ⟨rfl, rfl⟩
            refine ifB_intro (fun h2 => ?_) (fun h2 => ?_)
            · have h2 : blankN (fun t => p (256 * i + t)) (min (256 * i + 256) n - 256 * i) = false := by simpa using h2
              have hpg : pagesN p n (i + 1) = pagesN p n i ++ (le (BitVec.ofNat 64 i) 2 ++ pageAt p n i) := by simp [pagesN, h2]
              have hpa : (pageAt p n i).length = min (256 * i + 256) n - 256 * i := by simp [pageAt]
              refine need_intro (by decide) ?_
              have hq : IntKind.u64.wrap (IntKind.i64.wrap (((256 * i : Nat) : Int).tdiv 256)) = ((BitVec.ofNat 64 i).toNat : Int) := by
                have e : ((256 * i : Nat) : Int).tdiv 256 = (i : Int) := by
                  rw [Int.tdiv_eq_ediv_of_nonneg (by omega)]
                  omega
                rw [e, i64_in (by omega) (by omega), wrap_u64, BitVec.toNat_ofInt, BitVec.toNat_ofNat]
                omega
              refine args_eq (b := [.s (.ptr 0 0), .s (.int .u64 (BitVec.ofNat 64 i).toNat), .s (.int .i64 2)]) (by rw [← hq]) ?_
              refine Does.at (number_spec M cap (BitVec.ofNat 64 i) 2 (by omega) (by decide) hcap) [0, 3] rfl ⟨rfl, rfl, trivial⟩ (by decide) ?_ ?_
              · rintro v h' ⟨c', _, _, rfl⟩
                exact ⟨.inl rfl, .inr (.inl rfl), .inl rfl, trivial⟩
              · rintro v h' ⟨c2, hc2, rfl, rfl⟩
                have hm2 : (M ++ le (BitVec.ofNat 64 i) 2).length = M.length + 2 := by rw [List.length_append, le_len]
                have hfp : ∀ j, j < (pageAt p n i).length → f (256 * i + j) = bf (pageAt p n i) j := by
                  intro j hj
                  rw [hpa] at hj
                  rw [hp _ (by omega)]
                  simp [bf, pageAt, List.getD_eq_getElem?_getD, List.getElem?_range hj]
                refine args_eq (b := [.s (.ptr 0 0), .s (.gs 2 (256 * i) (pageAt p n i).length (min (256 * i + 256) n - 256 * i))]) (by rw [hpa]; rfl) ?_
                refine Does.at (bytes_spec (M ++ le (BitVec.ofNat 64 i) 2) c2 m (pageAt p n i) k (256 * i) (min (256 * i + 256) n - 256 * i) sp f hfp (by omega) (by omega) (by omega) (by omega)) [0, 4, 2] rfl ⟨rfl, rfl, rfl, trivial⟩ (by decide) ?_ ?_
                · rintro v h' ⟨c', _, _, rfl⟩
                  exact ⟨.inl rfl, .inr (.inl rfl), .inr (.inr rfl), .inl rfl, trivial⟩
                · rintro v h' ⟨c3, hc3, rfl, rfl⟩
                  have e : M ++ le (BitVec.ofNat 64 i) 2 ++ pageAt p n i = L0 ++ pagesN p n (i + 1) := by rw [hpg, ← hM]; simp
                  refine ⟨(i + 1, c3), ⟨?_, ?_⟩, ?_, [0, 1, 2, 5], ?_⟩
                  · show i + 1 ≤ _; omega
                  · show (L0 ++ pagesN p n (i + 1)).length ≤ c3
                    rw [← e, List.length_append]; exact hc3
                  · show (n + 255) / 256 - (i + 1) < (n + 255) / 256 - i; omega
                  · rw [hO]
                    refine ⟨by decide, ⟨rfl, rfl, rfl, trivial⟩, ?_, ?_⟩
                    · repeat' (first | exact eqvT_nil | refine eqvT_junk ?_ | refine eqvT_same ?_ | refine eqvT_int ?_ ?_)
                      rw [i64_in (by omega) (by omega)]; show _ = ((256 * (i + 1) : Nat) : Int); omega
                    · refine ⟨⟨_, rfl, ⟨rfl, rfl, eqvS_gs ⟨rfl, rfl, ?_, rfl⟩ eqvS_nil⟩⟩, ⟨_, rfl, eqvB_refl _⟩, ⟨_, rfl, eqvB_refl _⟩, ⟨_, rfl, ⟨rfl, ?_, ⟨⟨rfl, ?_, ?_⟩, eqvS_nil⟩⟩⟩, trivial⟩
                      · exact congrArg List.length e
                      · exact congrArg (fun z : List B8 => c3 - z.length) e
                      · exact congrArg List.length e
                      · intro j _
                        exact congrArg (fun z : List B8 => bf z j) e
            · have h2 : blankN (fun t => p (256 * i + t)) (min (256 * i + 256) n - 256 * i) = true := by simpa using h2
              have hpg : pagesN p n (i + 1) = pagesN p n i := by simp [pagesN, h2]
              refine ⟨(i + 1, cap), ⟨?_, ?_⟩, ?_, [0, 1, 2, 3], ?_⟩
              · show i + 1 ≤ _; omega
              · show (L0 ++ pagesN p n (i + 1)).length ≤ cap
                rw [hpg, hM]; exact hcap
              · show (n + 255) / 256 - (i + 1) < (n + 255) / 256 - i; omega
              · rw [hO]
                refine ⟨by decide, ⟨rfl, rfl, rfl, trivial⟩, ?_, ?_⟩
                · repeat' (first | exact eqvT_nil | refine eqvT_junk ?_ | refine eqvT_same ?_ | refine eqvT_int ?_ ?_)
                  rw [i64_in (by omega) (by omega)]; show _ = ((256 * (i + 1) : Nat) : Int); omega
                · have e : M = L0 ++ pagesN p n (i + 1) := by rw [hpg, hM]
                  refine ⟨⟨_, rfl, ⟨rfl, rfl, eqvS_gs ⟨rfl, rfl, ?_, rfl⟩ eqvS_nil⟩⟩, ⟨_, rfl, eqvB_refl _⟩, ⟨_, rfl, eqvB_refl _⟩, ⟨_, rfl, ⟨rfl, ?_, ⟨⟨rfl, ?_, ?_⟩, eqvS_nil⟩⟩⟩, trivial⟩
                  · exact congrArg List.length e
                  · exact congrArg (fun z : List B8 => cap - z.length) e
                  · exact congrArg List.length e
                  · intro j _
                    exact congrArg (fun z : List B8 => bf z j) e
      · have h1 : ¬ 256 * i < n := by
          have h2 : ¬ ((256 * i : Nat) : Int) < (n : Int) := of_decide_eq_false h1
          omega
        have hin : i = (n + 255) / 256 := by omega
        generalize hM : L0 ++ pagesN p n i = M at hll hcap
        refine Does.at (number_spec M cap 65535#64 2 (by omega) (by decide) hcap) [0, 3] rfl ⟨rfl, rfl, trivial⟩ (by decide) ?_ ?_
        · rintro v h' ⟨c', _, _, rfl⟩
          exact ⟨.inl rfl, .inr (.inl rfl), .inl rfl, trivial⟩
        · rintro v h' ⟨c2, hc2, rfl, rfl⟩
          have hm2 : (M ++ le 65535#64 2).length = M.length + 2 := by rw [List.length_append, le_len]
          subst hin
          rw [hM]
          refine ⟨_, _, [0, 1, 2, 4], ⟨c2, by rw [hm2]; exact hc2, rfl, rfl⟩, by decide, ⟨rfl, rfl, rfl, trivial⟩, trivial, ⟨_, rfl, eqvB_refl _⟩, ⟨_, rfl, eqvB_refl _⟩, ⟨_, rfl, eqvB_refl _⟩, ⟨_, rfl, eqvB_refl _⟩, trivial⟩
end Go.Proofs.Ytghcdkpgcanpgaa

/- The reference's snapshot: a whole number. Contract of a function. -/
namespace Go.Proofs.Ytghcdkpgcanpgaa
open Go Go.Anv
theorem quo8 (v : BitVec 64) (n : Nat) : IntKind.u64.wrap (((v >>> (8 * n)).toNat : Int).tdiv 256) = ((v >>> (8 * (n + 1))).toNat : Int) := by
  rw [← shr8 v n, Int.tdiv_eq_ediv_of_nonneg (by omega), Int.fdiv_eq_ediv_of_nonneg _ (by decide)]
  have := (v >>> (8 * n)).isLt
  show (_ : Int) % 2 ^ 64 = _
  omega
theorem rem8 (v : BitVec 64) (n : Nat) : IntKind.u8.wrap (((v >>> (8 * n)).toNat : Int).tmod 256) = (((v >>> (8 * n)).setWidth 8).toNat : Int) := by
  rw [← low8, Int.tmod_eq_emod_of_nonneg (by omega)]
  show (_ : Int) % 2 ^ 8 = _ % 2 ^ 8
  omega
def nb : Nat → Nat
  | 0 => 0
  | _ + 1 => 1
def nbH (L : List B8) (c : Nat) : Nat → List Blk
  | 0 => [.cells true [.ints .u8 L.length (bf L)] (c - L.length)]
  | _ + 1 => [.dead, .cells true [.ints .u8 L.length (bf L)] (c - L.length)]
set_option maxRecDepth 100000 in
theorem num_spec (L : List B8) (c : Nat) (v : BitVec 64) (n : Nat) (hL : L.length ≤ 70368744177664) (hn : n ≤ 8) (hc : L.length ≤ c) :
    Does TB 50 [.s (.gs 0 0 L.length c), .s (.int .u64 v.toNat), .s (.int .i64 n)] (nbH L c 0) (fun r h' => ∃ c', L.length + n ≤ c' ∧ r = .s (.gs (nb n) 0 (L ++ le v n).length c') ∧ h' = nbH (L ++ le v n) c' n) := by
  refine fnX_does TB Try.func50 rfl (by decide) (fun O on hO => ?_)
  refine loop_in (A := Nat × Nat) on (fun i => [(0, .s (.gs (nb i.1) 0 (L ++ le v i.1).length i.2)), (1, .s (.int .u64 (v >>> (8 * i.1)).toNat)), (7, .s (.int .i64 (i.1 : Int)))])
      (fun i => nbH (L ++ le v i.1) i.2 i.1)
      (fun i => i.1 ≤ n ∧ L.length + i.1 ≤ i.2) (fun i => n - i.1) (0, c) ⟨Nat.zero_le _, hc⟩ [0] ?_ ?_
  · rw [hO]
    refine ⟨by decide, ⟨rfl, trivial⟩, ?_, ?_⟩
    · repeat' (first | exact eqvT_nil | refine eqvT_junk ?_ | refine eqvT_same ?_ | refine eqvT_int ?_ ?_ | refine eqvT_gs ⟨rfl, rfl, ?_, rfl⟩ ?_)
      all_goals simp [le]
    · refine ⟨⟨_, rfl, ⟨rfl, ?_, ⟨⟨rfl, ?_, ?_⟩, eqvS_nil⟩⟩⟩, trivial⟩ <;> simp [le]
  · rintro ⟨i, cap⟩ ⟨hi, hcap⟩
    replace hi : i ≤ n := hi
    replace hcap : L.length + i ≤ cap := hcap
    have hlen : (L ++ le v i).length = L.length + i := by rw [List.length_append, le_len]
    have hlen1 : (L ++ le v (i + 1)).length = L.length + i + 1 := by rw [List.length_append, le_len]; rfl
    have hnext : L ++ le v (i + 1) = (L ++ le v i) ++ [(v >>> (8 * i)).setWidth 8] := by simp [le]
    match i, hi, hcap, hlen, hlen1, hnext with
    | 0, hi, hcap, hlen, hlen1, hnext => 
      refine ifB_intro (fun h1 => ?_) (fun h1 => ?_)
      · have h1 : 0 < n := by
          have := of_decide_eq_true h1
          simpa using this
        have hM : (L ++ le v 0).length ≤ 70368744177672 := by omega
        refine need_intro (by decide) ?_
        refine need_intro ⟨Nat.le_refl _, by show (L ++ le v 0).length + 0 = (L ++ le v 0).length * 1; omega, by show cap * 1 = (L ++ le v 0).length * 1 + (cap - (L ++ le v 0).length); omega, room5 _ (by show (L ++ le v 0).length + 1 ≤ _; omega)⟩ ?_
        intro c1 hc1
        have hc1 : (L ++ le v 0).length + 1 ≤ c1 := hc1
        refine need_intro (by decide) ?_
        refine ⟨(0 + 1, c1), ⟨?_, ?_⟩, ?_, [0, 2], ?_⟩
        · show 0 + 1 ≤ n; omega
        · show L.length + (0 + 1) ≤ c1; omega
        · show n - (0 + 1) < n - (0); omega
        · rw [hO]
          refine ⟨by decide, ⟨rfl, trivial⟩, ?_, ?_⟩
          · repeat' (first | exact eqvT_nil | refine eqvT_junk ?_ | refine eqvT_same ?_ | refine eqvT_int ?_ ?_ | refine eqvT_gs ⟨rfl, rfl, ?_, rfl⟩ ?_)
            · show (L ++ le v 0).length + 1 = (L ++ le v (0 + 1)).length
              omega
            · exact quo8 v _
            all_goals (rw [i64_in (by omega) (by omega)]; try rfl)
          · refine ⟨⟨_, rfl, eqvB_refl _⟩, ⟨_, rfl, ⟨rfl, ?_, ⟨⟨rfl, ?_, ?_⟩, eqvS_nil⟩⟩⟩, trivial⟩
            · show (c1 - ((L ++ le v 0).length + 1)) * 1 = c1 - (L ++ le v (0 + 1)).length
              omega
            · show (L ++ le v 0).length + 1 = (L ++ le v (0 + 1)).length
              omega
            · rw [hnext]
              exact bf_append (L ++ le v 0) [(v >>> (8 * 0)).setWidth 8] (n := (L ++ le v 0).length) (m := 1) rfl rfl (fun _ _ => rfl) (bf_one (rem8 v _))
      · have h1 : 0 = n := by
          have := of_decide_eq_false h1
          simp at this
          omega
        subst h1
        exact ⟨.s (.gs 0 0 (L ++ le v 0).length cap), nbH (L ++ le v 0) cap 0, [0], ⟨cap, hcap, rfl, rfl⟩, by decide, ⟨rfl, trivial⟩, ⟨rfl, rfl, rfl, rfl⟩, ⟨_, rfl, eqvB_refl _⟩, trivial⟩
    | i + 1, hi, hcap, hlen, hlen1, hnext => 
      refine ifB_intro (fun h1 => ?_) (fun h1 => ?_)
      · have h1 : i + 1 < n := by
          have := of_decide_eq_true h1
          simp at this
          omega
        have hM : (L ++ le v (i + 1)).length ≤ 70368744177672 := by omega
        refine need_intro (by decide) ?_
        refine need_intro ⟨Nat.le_refl _, by show (L ++ le v (i + 1)).length + 0 = (L ++ le v (i + 1)).length * 1; omega, by show cap * 1 = (L ++ le v (i + 1)).length * 1 + (cap - (L ++ le v (i + 1)).length); omega, room5 _ (by show (L ++ le v (i + 1)).length + 1 ≤ _; omega)⟩ ?_
        intro c1 hc1
        have hc1 : (L ++ le v (i + 1)).length + 1 ≤ c1 := hc1
        refine need_intro (by decide) ?_
        refine ⟨(i + 1 + 1, c1), ⟨?_, ?_⟩, ?_, [0, 3], ?_⟩
        · show i + 1 + 1 ≤ n; omega
        · show L.length + (i + 1 + 1) ≤ c1; omega
        · show n - (i + 1 + 1) < n - ((i + 1)); omega
        · rw [hO]
          refine ⟨by decide, ⟨rfl, trivial⟩, ?_, ?_⟩
          · repeat' (first | exact eqvT_nil | refine eqvT_junk ?_ | refine eqvT_same ?_ | refine eqvT_int ?_ ?_ | refine eqvT_gs ⟨rfl, rfl, ?_, rfl⟩ ?_)
            · show (L ++ le v (i + 1)).length + 1 = (L ++ le v (i + 1 + 1)).length
              omega
            · exact quo8 v _
            all_goals (rw [i64_in (by omega) (by omega)]; try rfl)
          · refine ⟨⟨_, rfl, eqvB_refl _⟩, ⟨_, rfl, ⟨rfl, ?_, ⟨⟨rfl, ?_, ?_⟩, eqvS_nil⟩⟩⟩, trivial⟩
            · show (c1 - ((L ++ le v (i + 1)).length + 1)) * 1 = c1 - (L ++ le v (i + 1 + 1)).length
              omega
            · show (L ++ le v (i + 1)).length + 1 = (L ++ le v (i + 1 + 1)).length
              omega
            · rw [hnext]
              exact bf_append (L ++ le v (i + 1)) [(v >>> (8 * (i + 1))).setWidth 8] (n := (L ++ le v (i + 1)).length) (m := 1) rfl rfl (fun _ _ => rfl) (bf_one (rem8 v _))
      · have h1 : i + 1 = n := by
          have := of_decide_eq_false h1
          simp at this
          omega
        subst h1
        exact ⟨.s (.gs 1 0 (L ++ le v (i + 1)).length cap), nbH (L ++ le v (i + 1)) cap (i + 1), [0, 1], ⟨cap, hcap, rfl, rfl⟩, by decide, ⟨rfl, trivial⟩, ⟨rfl, rfl, rfl, rfl⟩, ⟨_, rfl, eqvB_refl _⟩, ⟨_, rfl, eqvB_refl _⟩, trivial⟩
end Go.Proofs.Ytghcdkpgcanpgaa

/- The reference's sum over a snapshot. Contract of a function. -/
namespace Go.Proofs.Ytghcdkpgcanpgaa
open Go Go.Anv
theorem half2 (X : BitVec 32) : IntKind.u32.wrap ((X.toNat : Int).tdiv 2) = ((X >>> 1).toNat : Int) := by
  rw [← fdiv_pow X 1, Int.tdiv_eq_ediv_of_nonneg (by omega), Int.fdiv_eq_ediv_of_nonneg _ (by decide)]
  have := X.isLt
  show (_ : Int) % 2 ^ 32 = _
  omega
theorem odd2 (X : BitVec 32) : ((X.toNat : Int).tmod 2 == 1) = (X &&& 1#32 == 1#32) := by
  have h : (X &&& 1#32).toNat = X.toNat % 2 := by
    rw [BitVec.toNat_and]
    exact Nat.and_one_is_mod _
  have e : (((X &&& 1#32).toNat : Int) == 1) = (X &&& 1#32 == 1#32) := beq_lit (X &&& 1#32) 1 (by decide) (by decide)
  rw [← e, h, Int.tmod_eq_emod_of_nonneg (by omega)]
  rfl
set_option maxRecDepth 100000 in
theorem rSum_spec (m : Bool) (k o n c sp : Nat) (f : Nat → Int) (p : Nat → B8) (hn : o + n ≤ k) (hk : n < 2 ^ 62) (hp : ∀ j, j < n → f (o + j) = (p j).toNat) :
    Does TB 49 [.s (.gs 0 o n c)] [.cells m [.ints .u8 k f] sp] (fun v h' => v = .s (.int .u32 (~~~ crcN p n).toNat) ∧ h' = [.cells m [.ints .u8 k f] sp]) := by
  refine fnX_does TB Try.func49 rfl (by decide) (fun O on hO => ?_)
  refine loop_by (A := Nat) on (fun i => [(3, .s (.int .u32 (crcN p i).toNat)), (4, .s (.int .i64 (i : Int))), (5, .junk), (6, .junk)]) (fun _ => [.cells m [.ints .u8 k f] sp]) (fun i => i ≤ n) (fun i => n - i) 0 (by omega) ?_ ?_
  · refine ⟨?_, ?_⟩
    · repeat' (first | exact eqvT_nil | refine eqvT_junk ?_ | refine eqvT_same ?_ | refine eqvT_int ?_ ?_)
    · exact eqvH_same eqvH_nil
  · intro i hi
    refine ifB_intro (fun h1 => ?_) (fun h1 => ?_)
    · have h1 := of_decide_eq_true h1
      refine need_intro (by omega) ?_
      refine need_intro (by omega) ?_
      have hf : f (o + (i : Int).toNat) = (p i).toNat := hp i (by omega)
      refine loop_by (A := Nat) on (fun j => [(3, .s (.int .u32 (crcBits (crcN p i ^^^ (p i).setWidth 32) j).toNat)), (5, .s (.int .i64 (j : Int))), (6, .junk)]) (fun _ => [.cells m [.ints .u8 k f] sp]) (fun j => j ≤ 8) (fun j => 8 - j) 0 (by omega) ?_ ?_
      · refine ⟨?_, ?_⟩
        · repeat' (first | exact eqvT_nil | refine eqvT_junk ?_ | refine eqvT_same ?_ | refine eqvT_int ?_ ?_)
          · rw [hf, u32_of8, xor_u32, ofInt_toNat, ofInt_toNat]
            rfl
        · exact eqvH_same eqvH_nil
      · intro j hj
        have hb : crcBits (crcN p i ^^^ (p i).setWidth 32) (j + 1) = crcBit (crcBits (crcN p i ^^^ (p i).setWidth 32) j) := rfl
        generalize hX : crcBits (crcN p i ^^^ (p i).setWidth 32) j = X at hb
        refine ifB_intro (fun h2 => ?_) (fun h2 => ?_)
        · have h2 := of_decide_eq_true h2
          refine need_intro (by decide) ?_
          have hlow : ((X.toNat : Int).tmod 2 == 1) = (X &&& 1#32 == 1#32) := odd2 X
          have hsh : IntKind.u32.wrap (((X.toNat : Int)).tdiv 2) = ((X >>> 1).toNat : Int) := half2 X
          refine need_intro (by decide) ?_
          refine ifB_intro (fun h3 => ?_) (fun h3 => ?_)
          · have h3 : (X &&& 1#32 == 1#32) = true := hlow.symm.trans h3
            refine ⟨j + 1, ?_, ?_, ?_, ?_⟩
            · show j + 1 ≤ 8; omega
            · show 8 - (j + 1) < 8 - j; omega
            · repeat' (first | exact eqvT_nil | refine eqvT_junk ?_ | refine eqvT_same ?_ | refine eqvT_int ?_ ?_)
              · rw [hb]
                unfold crcBit
                rw [if_pos h3]
                show bitX .xor .u32 (IntKind.u32.wrap (((X.toNat : Int)).tdiv 2)) 3988292384 = _
                rw [hsh, xor_u32, ofInt_toNat]
                rfl
              · rw [i64_in (by omega) (by omega)]; rfl
            · exact eqvH_same eqvH_nil
          · have h3 : (X &&& 1#32 == 1#32) = false := hlow.symm.trans h3
            refine ⟨j + 1, ?_, ?_, ?_, ?_⟩
            · show j + 1 ≤ 8; omega
            · show 8 - (j + 1) < 8 - j; omega
            · repeat' (first | exact eqvT_nil | refine eqvT_junk ?_ | refine eqvT_same ?_ | refine eqvT_int ?_ ?_)
              · rw [hb]
                unfold crcBit
                rw [h3]
                exact hsh
              · rw [i64_in (by omega) (by omega)]; rfl
            · exact eqvH_same eqvH_nil
        · have h2 := of_decide_eq_false h2
          have hj8 : j = 8 := by omega
          subst hj8
          refine ⟨i + 1, ?_, ?_, ?_, ?_⟩
          · show i + 1 ≤ n; omega
          · show n - (i + 1) < n - i; omega
          · repeat' (first | exact eqvT_nil | refine eqvT_junk ?_ | refine eqvT_same ?_ | refine eqvT_int ?_ ?_)
            · exact congrArg (fun z : BitVec 32 => (z.toNat : Int)) hX.symm
            · rw [i64_in (by omega) (by omega)]; rfl
          · exact eqvH_same eqvH_nil
    · have h1 := of_decide_eq_false h1
      have : i = n := by omega
      subst this
      refine ⟨_, _, [0], ⟨rfl, rfl⟩, by decide, ⟨rfl, trivial⟩, ⟨rfl, ?_⟩, ⟨⟨_, rfl, eqvB_refl _⟩, trivial⟩⟩
      show bitX .xor .u32 ((crcN p i).toNat : Int) 4294967295 = _
      rw [xor_u32, ofInt_toNat, show BitVec.ofInt 32 4294967295 = BitVec.allOnes 32 by decide, BitVec.xor_allOnes]
end Go.Proofs.Ytghcdkpgcanpgaa

/- The reference's pages: blank, how many. Contracts of functions. -/
namespace Go.Proofs.Ytghcdkpgcanpgaa
open Go Go.Anv
set_option maxRecDepth 100000 in
theorem rblank_spec (m : Bool) (k o n c sp : Nat) (f : Nat → Int) (p : Nat → B8) (hn : o + n ≤ k) (hk : n < 2 ^ 62) (hp : ∀ j, j < n → f (o + j) = (p j).toNat) :
    Does TB 85 [.s (.gs 0 o n c)] [.cells m [.ints .u8 k f] sp] (fun v h' => v = .s (.bool (blankN p n)) ∧ h' = [.cells m [.ints .u8 k f] sp]) := by
  refine fnX_does TB Try.func85 rfl (by decide) (fun O on hO => ?_)
  refine loop_by (A := Nat) on (fun i => [(2, .s (.bool false)), (3, .s (.int .i64 (i : Int)))]) (fun _ => [.cells m [.ints .u8 k f] sp]) (fun i => i ≤ n ∧ blankN p i = true) (fun i => n - i) 0 ⟨by omega, rfl⟩ ?_ ?_
  · refine ⟨?_, ?_⟩
    · repeat' (first | exact eqvT_nil | refine eqvT_junk ?_ | refine eqvT_same ?_ | refine eqvT_int ?_ ?_)
    · exact eqvH_same eqvH_nil
  · rintro i ⟨hi, hb⟩
    refine ifB_intro (fun h1 => ?_) (fun h1 => ?_)
    · have h1 := of_decide_eq_true h1
      refine need_intro (by omega) ?_
      refine need_intro (by omega) ?_
      have hf : f (o + (i : Int).toNat) = (p i).toNat := hp i (by omega)
      have hz : (((p i).toNat : Int) == 0) = (p i == 0#8) := beq_lit (p i) 0 (by decide) (by decide)
      refine ifB_intro (fun h2 => ?_) (fun h2 => ?_)
      · have h2 : (!(f (o + (i : Int).toNat) == 0)) = true := h2
        rw [hf, hz] at h2
        have h3 : p i ≠ 0#8 := by simpa using h2
        exact ⟨.s (.bool false), [.cells m [.ints .u8 k f] sp], [0], ⟨by rw [blankN_false h3 (by omega)], rfl⟩, by decide, ⟨rfl, trivial⟩, rfl, ⟨⟨_, rfl, eqvB_refl _⟩, trivial⟩⟩
      · have h2 : (!(f (o + (i : Int).toNat) == 0)) = false := h2
        rw [hf, hz] at h2
        refine ⟨i + 1, ?_, ?_, ?_, ?_⟩
        · refine ⟨by omega, ?_⟩
          simp only [blankN, hb, Bool.true_and]
          simpa using h2
        · show n - (i + 1) < n - i; omega
        · repeat' (first | exact eqvT_nil | refine eqvT_junk ?_ | refine eqvT_same ?_ | refine eqvT_int ?_ ?_)
          rw [i64_in (by omega) (by omega)]; rfl
        · exact eqvH_same eqvH_nil
    · have h1 := of_decide_eq_false h1
      have : i = n := by omega
      subst this
      exact ⟨.s (.bool true), [.cells m [.ints .u8 k f] sp], [0], ⟨by rw [hb], rfl⟩, by decide, ⟨rfl, trivial⟩, rfl, ⟨⟨_, rfl, eqvB_refl _⟩, trivial⟩⟩
theorem rpages_spec (n : Nat) (hn : n ≤ 2 ^ 60) (h : List Blk) : Does TB 83 [.s (.int .i64 n)] h (fun r h' => r = .s (.int .i64 (((n + 255) / 256 : Nat) : Int)) ∧ h' = h) := by
  refine fnX_pure TB Try.func83 rfl (by decide) rfl _ rfl (fun O on => ?_) h
  refine need_intro (by decide) ?_
  have e : IntKind.i64.wrap ((n : Int) + 255) = ((n + 255 : Nat) : Int) := by rw [i64_in (by omega) (by omega)]; rfl
  have e2 : IntKind.i64.wrap ((IntKind.i64.wrap ((n : Int) + 255)).tdiv 256) = (((n + 255) / 256 : Nat) : Int) := by
    rw [e, Int.tdiv_eq_ediv_of_nonneg (by omega), i64_in (by omega) (by omega)]
    omega
  first
  | (show (_ : Int) = _; exact e2)
  | (refine ⟨rfl, ?_⟩; exact e2)
  | (show EV.s _ = EV.s _; rw [e2])
end Go.Proofs.Ytghcdkpgcanpgaa

/- The reference's page. Contract of a function. -/
namespace Go.Proofs.Ytghcdkpgcanpgaa
open Go Go.Anv
set_option maxRecDepth 100000 in
theorem rpage_spec (m : Bool) (k n c sp i : Nat) (f : Nat → Int) (hc : n ≤ c) (hn : n ≤ 2 ^ 60) (ha : 256 * i ≤ n) :
    Does TB 84 [.s (.gs 0 0 n c), .s (.int .i64 i)] [.cells m [.ints .u8 k f] sp]
      (fun v h' => v = .s (.gs 0 (skip c (256 * i) 0 1) (min (256 * i + 256) n - 256 * i) (c - 256 * i)) ∧ h' = [.cells m [.ints .u8 k f] sp]) := by
  refine fnX_does TB Try.func84 rfl (by decide) (fun O on hO => ?_)
  have hw : IntKind.i64.wrap (256 * (i : Int)) = ((256 * i : Nat) : Int) := by
    rw [i64_in (by omega) (by omega)]; omega
  have hw2 : IntKind.i64.wrap (IntKind.i64.wrap (256 * (i : Int)) + 256) = ((256 * i + 256 : Nat) : Int) := by
    rw [hw, i64_in (by omega) (by omega)]; rfl
  have hf : (IntKind.i64.wrap (256 * (i : Int))).toNat = 256 * i := by rw [hw]; rfl
  have ht : (IntKind.i64.wrap (IntKind.i64.wrap (256 * (i : Int)) + 256)).toNat = 256 * i + 256 := by rw [hw2]; rfl
  refine ifB_intro (fun h1 => ?_) (fun h1 => ?_)
  · have h1 := of_decide_eq_true h1
    have h2 : (n : Int) < IntKind.i64.wrap (IntKind.i64.wrap (256 * (i : Int)) + 256) := h1
    rw [hw2] at h2
    refine need_intro ⟨by omega, by omega, by omega⟩ ?_
    refine ⟨.s (.gs 0 (skip c (256 * i) 0 1) (min (256 * i + 256) n - 256 * i) (c - 256 * i)), [.cells m [.ints .u8 k f] sp], [0], ⟨rfl, rfl⟩, by decide, ⟨rfl, trivial⟩, ?_, ⟨⟨_, rfl, eqvB_refl _⟩, trivial⟩⟩
    refine ⟨rfl, ?_, ?_, ?_⟩
    · exact congrArg (fun z => skip c z 0 1) hf
    · show (n : Int).toNat - (IntKind.i64.wrap (256 * (i : Int))).toNat = _
      rw [hf]; omega
    · exact congrArg (fun z => c - z) hf
  · have h1 := of_decide_eq_false h1
    have h2 : ¬ (n : Int) < IntKind.i64.wrap (IntKind.i64.wrap (256 * (i : Int)) + 256) := h1
    rw [hw2] at h2
    refine need_intro ⟨by omega, by rw [hw2]; omega, by rw [hw2]; omega⟩ ?_
    refine ⟨.s (.gs 0 (skip c (256 * i) 0 1) (min (256 * i + 256) n - 256 * i) (c - 256 * i)), [.cells m [.ints .u8 k f] sp], [0], ⟨rfl, rfl⟩, by decide, ⟨rfl, trivial⟩, ?_, ⟨⟨_, rfl, eqvB_refl _⟩, trivial⟩⟩
    refine ⟨rfl, ?_, ?_, ?_⟩
    · exact congrArg (fun z => skip c z 0 1) hf
    · show (IntKind.i64.wrap (IntKind.i64.wrap (256 * (i : Int)) + 256)).toNat - (IntKind.i64.wrap (256 * (i : Int))).toNat = _
      rw [hf, ht]; omega
    · exact congrArg (fun z => c - z) hf
end Go.Proofs.Ytghcdkpgcanpgaa

/- The reference's flag. Contract of a function. -/
namespace Go.Proofs.Ytghcdkpgcanpgaa
open Go Go.Anv
set_option maxRecDepth 100000 in
theorem flag_spec (L : List B8) (c : Nat) (b : Bool) (hL : L.length ≤ 70368744177664) (hc : L.length ≤ c) :
    Does TB 82 [.s (.gs 0 0 L.length c), .s (.bool b)] (nbH L c 0) (fun r h' => ∃ c', (L ++ [if b then 1#8 else 0#8]).length ≤ c' ∧ r = .s (.gs 1 0 (L ++ [if b then 1#8 else 0#8]).length c') ∧ h' = nbH (L ++ [if b then 1#8 else 0#8]) c' 1) := by
  refine fnX_does TB Try.func82 rfl (by decide) (fun O on hO => ?_)
  refine ifB_intro (fun h1 => ?_) (fun h1 => ?_)
  all_goals
    subst h1
    refine need_intro ⟨Nat.le_refl _, by show L.length + 0 = L.length * 1; omega, by show c * 1 = L.length * 1 + (c - L.length); omega, room5 _ (by show L.length + 1 ≤ _; omega)⟩ ?_
    intro c1 hc1
    have hc1 : L.length + 1 ≤ c1 := hc1
  · refine ⟨.s (.gs 1 0 (L ++ [1#8]).length c1), nbH (L ++ [1#8]) c1 1, [0, 2], ⟨c1, by simpa using hc1, rfl, rfl⟩, by decide, ⟨rfl, trivial⟩, ⟨rfl, rfl, ?_, rfl⟩, ⟨_, rfl, eqvB_refl _⟩, ⟨_, rfl, ⟨rfl, ?_, ⟨⟨rfl, ?_, ?_⟩, eqvS_nil⟩⟩⟩, trivial⟩
    · show L.length + 1 = (L ++ [1#8]).length; simp
    · show (c1 - (L.length + 1)) * 1 = c1 - (L ++ [1#8]).length; simp
    · show L.length + 1 = (L ++ [1#8]).length; simp
    · exact bf_append L [1#8] (n := L.length) (m := 1) rfl rfl (fun _ _ => rfl) (bf_one rfl)
  · refine ⟨.s (.gs 1 0 (L ++ [0#8]).length c1), nbH (L ++ [0#8]) c1 1, [0, 2], ⟨c1, by simpa using hc1, rfl, rfl⟩, by decide, ⟨rfl, trivial⟩, ⟨rfl, rfl, ?_, rfl⟩, ⟨_, rfl, eqvB_refl _⟩, ⟨_, rfl, ⟨rfl, ?_, ⟨⟨rfl, ?_, ?_⟩, eqvS_nil⟩⟩⟩, trivial⟩
    · show L.length + 1 = (L ++ [0#8]).length; simp
    · show (c1 - (L.length + 1)) * 1 = c1 - (L ++ [0#8]).length; simp
    · show L.length + 1 = (L ++ [0#8]).length; simp
    · exact bf_append L [0#8] (n := L.length) (m := 1) rfl rfl (fun _ _ => rfl) (bf_one rfl)
end Go.Proofs.Ytghcdkpgcanpgaa

/- The reference's ram in a snapshot. Contract of a function. -/
namespace Go.Proofs.Ytghcdkpgcanpgaa
open Go Go.Anv
def rb (L : List B8) (c : Nat) (B : Blk) : List Blk := [.dead, B, .cells true [.ints .u8 L.length (bf L)] (c - L.length)]
set_option maxRecDepth 100000 in
theorem rram_spec (L : List B8) (c : Nat) (m : Bool) (n k cr sp : Nat) (f : Nat → Int) (p : Nat → B8) (hp : ∀ j, j < n → f j = (p j).toNat) (hk : n ≤ k) (hcr : n ≤ cr)
    (hL : L.length ≤ 2 ^ 40) (hn : n ≤ 2 ^ 40) (hc : L.length ≤ c) :
    Does TB 48 [.s (.gs 0 0 L.length c), .s (.gs 1 0 n cr)] (nbH L c 0 ++ [.cells m [.ints .u8 k f] sp])
      (fun r h' => ∃ c', (L ++ le (BitVec.ofNat 64 n) 4 ++ pagesN p n ((n + 255) / 256) ++ le 65535#64 2).length ≤ c' ∧
        r = .s (.gs 2 0 (L ++ le (BitVec.ofNat 64 n) 4 ++ pagesN p n ((n + 255) / 256) ++ le 65535#64 2).length c') ∧
        h' = rb (L ++ le (BitVec.ofNat 64 n) 4 ++ pagesN p n ((n + 255) / 256) ++ le 65535#64 2) c' (.cells m [.ints .u8 k f] sp)) := by
  refine fnX_does TB Try.func48 rfl (by decide) (fun O on hO => ?_)
  have hn64 : IntKind.u64.wrap ((n : Nat) : Int) = ((BitVec.ofNat 64 n).toNat : Int) := by
    rw [wrap_u64, BitVec.toNat_ofInt, BitVec.toNat_ofNat]
    omega
  refine args_eq (b := [.s (.gs 0 0 L.length c), .s (.int .u64 (BitVec.ofNat 64 n).toNat), .s (.int .i64 4)]) (by rw [← hn64]) ?_
  refine Does.at (num_spec L c (BitVec.ofNat 64 n) 4 (by omega) (by decide) hc) [0] rfl ⟨rfl, trivial⟩ (by decide) ?_ ?_
  · rintro v h' ⟨c', _, _, rfl⟩
    exact ⟨.inr (.inl rfl), .inl rfl, trivial⟩
  · rintro v h' ⟨c1, hc1, rfl, rfl⟩
    have hc1 : L.length + 4 ≤ c1 := hc1
    generalize hL0 : L ++ le (BitVec.ofNat 64 n) 4 = L0
    have hl0 : L0.length = L.length + 4 := by rw [← hL0, List.length_append, le_len]
    refine (rpages_spec n (by omega) _).mono ?_
    rintro v h' ⟨rfl, rfl⟩
    refine loop_in (A := Nat × Nat) on (fun i => [(0, .s (.gs 2 0 (L0 ++ pagesN p n i.1).length i.2)), (6, .s (.int .i64 (i.1 : Int))), (7, .junk), (8, .junk), (13, .junk)])
      (fun i => rb (L0 ++ pagesN p n i.1) i.2 (.cells m [.ints .u8 k f] sp))
      (fun i => i.1 ≤ (n + 255) / 256 ∧ (L0 ++ pagesN p n i.1).length ≤ i.2) (fun i => (n + 255) / 256 - i.1) (0, c1) ⟨Nat.zero_le _, by simp [pagesN, hl0]; exact hc1⟩ [0, 1, 2] ?_ ?_
    · rw [hO]
      refine ⟨by decide, ⟨rfl, rfl, trivial⟩, ?_, ?_⟩
      · repeat' (first | exact eqvT_nil | refine eqvT_junk ?_ | refine eqvT_same ?_ | refine eqvT_int ?_ ?_ | refine eqvT_gs ⟨rfl, rfl, ?_, rfl⟩ ?_)
        all_goals simp [pagesN]
      · refine ⟨⟨_, rfl, eqvB_refl _⟩, ⟨_, rfl, eqvB_refl _⟩, ⟨_, rfl, ⟨rfl, ?_, ⟨⟨rfl, ?_, ?_⟩, eqvS_nil⟩⟩⟩, trivial⟩ <;> simp [pagesN]
    · rintro ⟨i, cap⟩ ⟨hi, hcap⟩
      replace hi : i ≤ (n + 255) / 256 := hi
      replace hcap : (L0 ++ pagesN p n i).length ≤ cap := hcap
      have hpl := pagesN_len p n i
      have hll : (L0 ++ pagesN p n i).length = L.length + 4 + (pagesN p n i).length := by rw [List.length_append, hl0]
      refine ifB_intro (fun h1 => ?_) (fun h1 => ?_)
      · have h1 : i < (n + 255) / 256 := by
          have h2 : (i : Int) < (((n + 255) / 256 : Nat) : Int) := of_decide_eq_true h1
          omega
        generalize hM : L0 ++ pagesN p n i = M at hll hcap
        refine Does.at (rpage_spec m k n cr sp i f hcr (by omega) (by omega)) [1] rfl ⟨rfl, trivial⟩ (by decide) ?_ ?_
        · rintro v h' ⟨_, rfl⟩
          exact ⟨.inr (.inr rfl), trivial⟩
        · rintro v h' ⟨rfl, rfl⟩
          have hsk : skip cr (256 * i) 0 1 = 256 * i := by
            unfold skip
            rw [if_neg (by omega)]
            omega
          rw [hsk]
          refine Does.at (rblank_spec m k (256 * i) (min (256 * i + 256) n - 256 * i) (cr - 256 * i) sp f (fun t => p (256 * i + t)) (by omega) (by omega) (fun t ht => hp _ (by omega))) [1] rfl ⟨rfl, trivial⟩ (by decide) ?_ ?_
          · rintro v h' ⟨_, rfl⟩
            exact ⟨.inr (.inr rfl), trivial⟩
          · rintro v h' ⟨rfl, rfl⟩
            refine ifB_intro (fun h2 => ?_) (fun h2 => ?_)
            · have h2 : blankN (fun t => p (256 * i + t)) (min (256 * i + 256) n - 256 * i) = false := by simpa using h2
              have hpg : pagesN p n (i + 1) = pagesN p n i ++ (le (BitVec.ofNat 64 i) 2 ++ pageAt p n i) := by simp [pagesN, h2]
              have hpa : (pageAt p n i).length = min (256 * i + 256) n - 256 * i := by simp [pageAt]
              have hq : IntKind.u64.wrap ((i : Nat) : Int) = ((BitVec.ofNat 64 i).toNat : Int) := by
                rw [wrap_u64, BitVec.toNat_ofInt, BitVec.toNat_ofNat]
                omega
              refine args_eq (b := [.s (.gs 2 0 M.length cap), .s (.int .u64 (BitVec.ofNat 64 i).toNat), .s (.int .i64 2)]) (by rw [← hq]) ?_
              refine Does.at (num_spec M cap (BitVec.ofNat 64 i) 2 (by omega) (by decide) hcap) [2] rfl ⟨rfl, trivial⟩ (by decide) ?_ ?_
              · rintro v h' ⟨c', _, _, rfl⟩
                exact ⟨.inr (.inl rfl), .inl rfl, trivial⟩
              · rintro v h' ⟨c2, hc2, rfl, rfl⟩
                have hm2 : (M ++ le (BitVec.ofNat 64 i) 2).length = M.length + 2 := by rw [List.length_append, le_len]
                have hc2 : M.length + 2 ≤ c2 := hc2
                generalize hN : M ++ le (BitVec.ofNat 64 i) 2 = N at hm2
                have hfp : ∀ j, j < min (256 * i + 256) n - 256 * i → shf (256 * i) f j = bf (pageAt p n i) j := by
                  intro j hj
                  show f (256 * i + j) = _
                  rw [hp _ (by omega)]
                  simp [bf, pageAt, List.getD_eq_getElem?_getD, List.getElem?_range hj]
                refine need_intro ⟨by show 256 * i + (min (256 * i + 256) n - 256 * i) ≤ k; omega, by show N.length + 0 = N.length * 1; omega, by show c2 * 1 = N.length * 1 + (c2 - N.length); omega, room5 _ (by show N.length + (min (256 * i + 256) n - 256 * i) ≤ _; omega)⟩ ?_
                intro c3 hc3
                have hc3 : N.length + (min (256 * i + 256) n - 256 * i) ≤ c3 := hc3
                have e : N ++ pageAt p n i = L0 ++ pagesN p n (i + 1) := by rw [hpg, ← hN, ← hM]; simp
                have el : N.length + (min (256 * i + 256) n - 256 * i) = (L0 ++ pagesN p n (i + 1)).length := by rw [← e, List.length_append, hpa]
                refine ⟨(i + 1, c3), ⟨?_, ?_⟩, ?_, [0, 1, 4], ?_⟩
                · show i + 1 ≤ _; omega
                · show (L0 ++ pagesN p n (i + 1)).length ≤ c3
                  omega
                · show (n + 255) / 256 - (i + 1) < (n + 255) / 256 - i; omega
                · rw [hO]
                  refine ⟨by decide, ⟨rfl, rfl, trivial⟩, ?_, ?_⟩
                  · repeat' (first | exact eqvT_nil | refine eqvT_junk ?_ | refine eqvT_same ?_ | refine eqvT_int ?_ ?_ | refine eqvT_gs ⟨rfl, rfl, ?_, rfl⟩ ?_)
                    · exact el
                    · rw [i64_in (by omega) (by omega)]; rfl
                  · refine ⟨⟨_, rfl, eqvB_refl _⟩, ⟨_, rfl, eqvB_refl _⟩, ⟨_, rfl, ⟨rfl, ?_, ⟨⟨rfl, ?_, ?_⟩, eqvS_nil⟩⟩⟩, trivial⟩
                    · show (c3 - (N.length + (min (256 * i + 256) n - 256 * i))) * 1 = c3 - (L0 ++ pagesN p n (i + 1)).length
                      omega
                    · exact el
                    · show ∀ j, j < _ → _ = bf (L0 ++ pagesN p n (i + 1)) j
                      rw [← e]
                      exact bf_append N (pageAt p n i) (n := N.length) (m := min (256 * i + 256) n - 256 * i) rfl hpa.symm (fun _ _ => rfl) hfp
            · have h2 : blankN (fun t => p (256 * i + t)) (min (256 * i + 256) n - 256 * i) = true := by simpa using h2
              have hpg : pagesN p n (i + 1) = pagesN p n i := by simp [pagesN, h2]
              have e : M = L0 ++ pagesN p n (i + 1) := by rw [hpg, hM]
              refine ⟨(i + 1, cap), ⟨?_, ?_⟩, ?_, [0, 1, 2], ?_⟩
              · show i + 1 ≤ _; omega
              · show (L0 ++ pagesN p n (i + 1)).length ≤ cap
                rw [← e]; exact hcap
              · show (n + 255) / 256 - (i + 1) < (n + 255) / 256 - i; omega
              · rw [hO]
                refine ⟨by decide, ⟨rfl, rfl, trivial⟩, ?_, ?_⟩
                · repeat' (first | exact eqvT_nil | refine eqvT_junk ?_ | refine eqvT_same ?_ | refine eqvT_int ?_ ?_ | refine eqvT_gs ⟨rfl, rfl, ?_, rfl⟩ ?_)
                  · exact congrArg List.length e
                  · rw [i64_in (by omega) (by omega)]; rfl
                · refine ⟨⟨_, rfl, eqvB_refl _⟩, ⟨_, rfl, eqvB_refl _⟩, ⟨_, rfl, ⟨rfl, ?_, ⟨⟨rfl, ?_, ?_⟩, eqvS_nil⟩⟩⟩, trivial⟩
                  · exact congrArg (fun z : List B8 => cap - z.length) e
                  · exact congrArg List.length e
                  · intro j _
                    exact congrArg (fun z : List B8 => bf z j) e
      · have hin : i = (n + 255) / 256 := by
          have h2 : ¬ (i : Int) < (((n + 255) / 256 : Nat) : Int) := of_decide_eq_false h1
          omega
        generalize hM : L0 ++ pagesN p n i = M at hll hcap
        refine Does.at (num_spec M cap 65535#64 2 (by omega) (by decide) hcap) [2] rfl ⟨rfl, trivial⟩ (by decide) ?_ ?_
        · rintro v h' ⟨c', _, _, rfl⟩
          exact ⟨.inr (.inl rfl), .inl rfl, trivial⟩
        · rintro v h' ⟨c2, hc2, rfl, rfl⟩
          have hm2 : (M ++ le 65535#64 2).length = M.length + 2 := by rw [List.length_append, le_len]
          subst hin
          rw [hM]
          exact ⟨.s (.gs 2 0 (M ++ le 65535#64 2).length c2), rb (M ++ le 65535#64 2) c2 (.cells m [.ints .u8 k f] sp), [0, 1, 3], ⟨c2, by rw [hm2]; exact hc2, rfl, rfl⟩, by decide, ⟨rfl, rfl, trivial⟩, ⟨rfl, rfl, rfl, rfl⟩, ⟨_, rfl, eqvB_refl _⟩, ⟨_, rfl, eqvB_refl _⟩, ⟨_, rfl, eqvB_refl _⟩, trivial⟩
end Go.Proofs.Ytghcdkpgcanpgaa

/- The engine, part 15: a call that is handed a part of a block: the part is a block of its own meanwhile. Plain theorems; their condition: what the call leaves of the part. -/
namespace Go.Anv
open Go

/-- A value that points into a part, seen from outside and from inside: the part is k cells behind the begin of block i, and block N. -/
def partV (i N k : Nat) : SV → SV → Prop
  | .ptr b o, .ptr b' o' => (b = b' ∧ o = o') ∨ (b = i ∧ b' = N ∧ o = k + o')
  | .pix b o j, .ptr b' o' => b = i ∧ b' = N ∧ o + j = k + o'
  | .gs b o n c, .gs b' o' n' c' => ((b = b' ∧ o = o') ∨ (b = i ∧ b' = N ∧ o = k + o')) ∧ n = n' ∧ c = c'
  | x, y => x = y

def partS (i N k : Nat) : List Seg → List Seg → Prop
  | [], [] => True
  | .one x :: r, .one y :: r' => partV i N k x y ∧ partS i N k r r'
  | .ints q n f :: r, .ints q' n' f' :: r' => (q = q' ∧ n = n' ∧ f = f') ∧ partS i N k r r'
  | _, _ => False

def partE (i N k : Nat) : EV → EV → Prop
  | .s x, .s y => partV i N k x y
  | .agg x, .agg y => partS i N k x y
  | x, y => x = y

def partT (i N k : Nat) : List EV → List EV → Prop
  | [], [] => True
  | x :: r, y :: r' => partE i N k x y ∧ partT i N k r r'
  | _, _ => False

def partP (E : Emb) (i k : Nat) : Loc := ⟨(E.f i).b, (E.f i).o + k, (E.f i).nl⟩

theorem partV_den {E : Emb} {i k : Nat} {x y : SV} {v : Value} (h : partV i E.n k x y) (hd : denV E x v) : denV (E.push (partP E i k)) y v := by
  have same : x = y → denV (E.push (partP E i k)) y v := fun e => e ▸ denV_mono (Emb.le_push _ _) _ _ hd
  unfold partV at h
  split at h
  · rename_i b o b' o'
    rcases h with ⟨rfl, rfl⟩ | ⟨rfl, rfl, rfl⟩
    · exact same rfl
    · simp only [denV] at hd ⊢
      refine ⟨by simp [Emb.push], ?_⟩
      rw [hd.2]
      simp [Emb.at, Emb.push_new, partP, Nat.add_assoc]
  · rename_i b o j b' o'
    obtain ⟨rfl, rfl, h⟩ := h
    simp only [denV] at hd ⊢
    refine ⟨by simp [Emb.push], ?_⟩
    rw [hd.2]
    simp [Emb.at, Emb.push_new, partP, h, Nat.add_assoc]
  · rename_i b o n c b' o' n' c'
    obtain ⟨h, rfl, rfl⟩ := h
    rcases h with ⟨rfl, rfl⟩ | ⟨rfl, rfl, rfl⟩
    · exact same rfl
    · simp only [denV] at hd ⊢
      refine ⟨by simp [Emb.push], by rw [Emb.push_new]; exact hd.2.1, ?_⟩
      rw [hd.2.2]
      simp [Emb.at, Emb.push_new, partP, Nat.add_assoc]
  · exact same h

theorem partS_den {E : Emb} {i k : Nat} : ∀ {x y : List Seg} {l : List Value}, partS i E.n k x y → denS E x l → denS (E.push (partP E i k)) y l
  | [], [], _, _, hd => hd
  | .one x :: r, .one y :: r', l, h, hd => by
    simp only [denS] at hd ⊢
    obtain ⟨v, l', rfl, h1, h2⟩ := hd
    exact ⟨v, l', rfl, partV_den h.1 h1, partS_den h.2 h2⟩
  | .ints q n f :: r, .ints q' n' f' :: r', l, h, hd => by
    simp only [denS] at hd ⊢
    obtain ⟨l', rfl, h2⟩ := hd
    obtain ⟨⟨rfl, rfl, rfl⟩, h⟩ := h
    exact ⟨l', rfl, partS_den h h2⟩
  | [], _ :: _, _, h, _ => h.elim
  | _ :: _, [], _, h, _ => by simp [partS] at h
  | .one _ :: _, .ints .. :: _, _, h, _ => h.elim
  | .ints .. :: _, .one _ :: _, _, h, _ => h.elim

theorem partE_den {E : Emb} {i k : Nat} {x y : EV} {v : Value} (h : partE i E.n k x y) (hd : denE E x v) : denE (E.push (partP E i k)) y v := by
  have same : x = y → denE (E.push (partP E i k)) y v := fun e => e ▸ denE_mono (Emb.le_push _ _) _ _ hd
  unfold partE at h
  split at h
  · simp only [denE] at hd ⊢
    exact partV_den h hd
  · simp only [denE] at hd ⊢
    obtain ⟨l, rfl, h1⟩ := hd
    exact ⟨l, rfl, partS_den h h1⟩
  · exact same h

theorem partT_den {E : Emb} {i k : Nat} : ∀ {x y : List EV} {v : List Value}, partT i E.n k x y → denT E x v → denT (E.push (partP E i k)) y v
  | [], [], v, _, hd => hd
  | x :: r, y :: r', v, h, hd => by
    simp only [denT] at hd ⊢
    obtain ⟨u, l, rfl, h1, h2⟩ := hd
    exact ⟨u, l, rfl, partE_den h.1 h1, partT_den h.2 h2⟩
  | [], _ :: _, _, h, _ => h.elim
  | _ :: _, [], _, h, _ => h.elim

/-- What a part's call must leave. -/
def PartOk (h1 : List Blk) (i N : Nat) (m : Bool) (a b c : List Seg) (sp : Nat) (K : EV → List Blk → Prop) (v : EV) (h' : List Blk) : Prop :=
  roOk h1 h' ∧ ∃ b' cs', nthB h' N = some (.cells m b' 0) ∧ sizeS b' = sizeS b ∧ (∀ E l, denS E (a ++ (b' ++ c)) l → denS E cs' l) ∧ K v (updB (updB h' N .dead) i (.cells m cs' sp))

theorem denS_split {E : Emb} : ∀ {a b : List Seg} {l : List Value}, denS E (a ++ b) l → ∃ x y, l = x ++ y ∧ denS E a x ∧ denS E b y
  | [], b, l, h => ⟨[], l, rfl, rfl, h⟩
  | .one e :: r, b, l, h => by
    simp only [List.cons_append, denS] at h
    obtain ⟨v, l', rfl, h1, h2⟩ := h
    obtain ⟨x, y, rfl, h3, h4⟩ := denS_split h2
    exact ⟨v :: x, y, rfl, ⟨v, x, rfl, h1, h3⟩, h4⟩
  | .ints k n f :: r, b, l, h => by
    simp only [List.cons_append, denS] at h
    obtain ⟨l', rfl, h2⟩ := h
    obtain ⟨x, y, rfl, h3, h4⟩ := denS_split h2
    exact ⟨intsOf k n f ++ x, y, by simp, ⟨x, rfl, h3⟩, h4⟩

theorem part_sim {E : Emb} {h : List Blk} {w : World} {i : Nat} {m : Bool} {cs a b c : List Seg} {sp : Nat} (S : Sim E h w) (hi : nthB h i = some (.cells m cs sp))
    (hs : ∀ E l, denS E cs l → denS E (a ++ (b ++ c)) l) : Sim (E.push (partP E i (sizeS a))) (updB h i .dead ++ [.cells m b 0]) w := by
  have hi' := nthB_get hi
  have hlt := lt_of_get hi'
  obtain ⟨hp, ⟨l, hl, hc⟩, hm⟩ := S.ok i _ hi'
  obtain ⟨la, lr, rfl, hla, hlr⟩ := denS_split (hs E l hl)
  obtain ⟨lb, lc, rfl, hlb, hlc⟩ := denS_split hlr
  have za := denS_length hla
  have zb := denS_length hlb
  have zc := denS_length hlc
  have zl := denS_length hl
  simp only [List.length_append] at zl
  have hn := S.n
  -- the blocks ahead of the call
  have hU : ∀ {j : Nat} {B : Blk}, (updB h i .dead)[j]? = some B → B = .dead ∨ (h[j]? = some B ∧ j ≠ i) := fun {j B} hj => by
    rw [updB_eq] at hj
    by_cases hij : i = j
    · subst hij
      rw [List.getElem?_set_self hlt] at hj
      simp only [Option.some.injEq] at hj
      exact .inl hj.symm
    · rw [List.getElem?_set_ne hij] at hj; exact .inr ⟨hj, fun e => hij e.symm⟩
  have hUl : (updB h i .dead).length = h.length := by rw [updB_eq, List.length_set]
  have hH : ∀ {j : Nat} {B : Blk}, (updB h i .dead ++ [.cells m b 0])[j]? = some B → B = .dead ∨ (h[j]? = some B ∧ (E.push (partP E i (sizeS a))).f j = E.f j ∧ j ≠ i ∧ j < h.length) ∨ (j = h.length ∧ B = .cells m b 0 ∧ (E.push (partP E i (sizeS a))).f j = partP E i (sizeS a)) := fun {j B} hj => by
    rcases getElem?_push_cases hj with ⟨h1, h2⟩ | ⟨h1, h2⟩
    · rw [hUl] at h2
      rcases hU h1 with h3 | ⟨h3, h4⟩
      · exact .inl h3
      · exact .inr (.inl ⟨h3, Emb.push_old _ _ (by omega), h4, h2⟩)
    · rw [hUl] at h1
      subst h1
      exact .inr (.inr ⟨rfl, h2, by rw [← hn, Emb.push_new]⟩)
  have covP : ∀ {x y : Nat}, cov (partP E i (sizeS a)) (.cells m b 0) x y → cov (E.f i) (.cells m cs sp) x y := fun {x y} hcv => by
    simp only [cov, partP] at hcv ⊢
    omega
  refine ⟨by simp [Emb.push, hUl, hn], fun j B hj => ?_, fun j k A B hjk hj hk hA x y hcj => ?_⟩
  · rcases hH hj with rfl | ⟨h1, h2, _⟩ | ⟨_, rfl, h2⟩
    · trivial
    · rw [h2]; exact okBlk_le (Emb.le_push _ _) (S.ok j B h1)
    · rw [h2]
      refine ⟨?_, ⟨lb, denS_mono (Emb.le_push _ _) _ _ hlb, fun j v hj => ?_⟩, fun hmm j hj => ?_⟩
      · rcases hp with hp | ⟨hp, hp2⟩
        · exact .inl hp
        · exact .inr ⟨hp, by omega⟩
      · have hj2 : j < lb.length := by
          rcases Nat.lt_or_ge j lb.length with h' | h'
          · exact h'
          · rw [List.getElem?_eq_none h'] at hj; cases hj
        have := hc (la.length + j) v (by rw [List.getElem?_append_right (by omega), Nat.add_sub_cancel_left, List.getElem?_append_left hj2]; exact hj)
        rw [za, ← Nat.add_assoc] at this
        exact this
      · have := hm hmm (sizeS a + j) (by omega)
        rw [← Nat.add_assoc] at this
        exact this
  · rcases hH hj with rfl | ⟨h1, h2, h3, _⟩ | ⟨h1, rfl, h2⟩
    · simp [Blk.mut] at hA
    · rw [h2] at hcj
      rcases hH hk with rfl | ⟨k1, k2, _⟩ | ⟨_, rfl, k2⟩
      · intro h'; exact h'
      · rw [k2]; exact S.dis j k A B hjk h1 k1 hA x y hcj
      · rw [k2]; intro hcv; exact S.dis j i A _ h3 h1 hi' hA x y hcj (covP hcv)
    · rw [h2] at hcj
      rcases hH hk with rfl | ⟨k1, k2, k3, _⟩ | ⟨k1, rfl, k2⟩
      · intro h'; exact h'
      · rw [k2]; exact S.dis i k _ B (Ne.symm k3) hi' k1 hA x y (covP hcj)
      · exact absurd (h1.trans k1.symm) hjk

theorem part_post {E : Emb} {h : List Blk} {w w' : World} {i : Nat} {m : Bool} {cs a b c : List Seg} {sp : Nat} {Q K : EV → List Blk → Prop} {e : Ending} (S : Sim E h w) (hi : nthB h i = some (.cells m cs sp))
    (hs : ∀ E l, denS E cs l → denS E (a ++ (b ++ c)) l) (hK : ∀ v h', Q v h' → PartOk (updB h i .dead ++ [.cells m b 0]) i h.length m a b c sp K v h')
    (P : Post (E.push (partP E i (sizeS a))) (updB h i .dead ++ [.cells m b 0]) w Q e w') : Post E h w K e w' := by
  have hi' := nthB_get hi
  have hlt := lt_of_get hi'
  obtain ⟨hp, ⟨l, hl, hc⟩, hm⟩ := S.ok i _ hi'
  obtain ⟨la, lr, rfl, hla, hlr⟩ := denS_split (hs E l hl)
  obtain ⟨lb, lc, rfl, hlb, hlc⟩ := denS_split hlr
  have za := denS_length hla
  have zb := denS_length hlb
  have zc := denS_length hlc
  have zl := denS_length hl
  simp only [List.length_append] at zl
  have hn := S.n
  -- the blocks ahead of the call
  have hU : ∀ {j : Nat} {B : Blk}, (updB h i .dead)[j]? = some B → B = .dead ∨ (h[j]? = some B ∧ j ≠ i) := fun {j B} hj => by
    rw [updB_eq] at hj
    by_cases hij : i = j
    · subst hij
      rw [List.getElem?_set_self hlt] at hj
      simp only [Option.some.injEq] at hj
      exact .inl hj.symm
    · rw [List.getElem?_set_ne hij] at hj; exact .inr ⟨hj, fun e => hij e.symm⟩
  have hUl : (updB h i .dead).length = h.length := by rw [updB_eq, List.length_set]
  have hH : ∀ {j : Nat} {B : Blk}, (updB h i .dead ++ [.cells m b 0])[j]? = some B → B = .dead ∨ (h[j]? = some B ∧ (E.push (partP E i (sizeS a))).f j = E.f j ∧ j ≠ i ∧ j < h.length) ∨ (j = h.length ∧ B = .cells m b 0 ∧ (E.push (partP E i (sizeS a))).f j = partP E i (sizeS a)) := fun {j B} hj => by
    rcases getElem?_push_cases hj with ⟨h1, h2⟩ | ⟨h1, h2⟩
    · rw [hUl] at h2
      rcases hU h1 with h3 | ⟨h3, h4⟩
      · exact .inl h3
      · exact .inr (.inl ⟨h3, Emb.push_old _ _ (by omega), h4, h2⟩)
    · rw [hUl] at h1
      subst h1
      exact .inr (.inr ⟨rfl, h2, by rw [← hn, Emb.push_new]⟩)
  have covP : ∀ {x y : Nat}, cov (partP E i (sizeS a)) (.cells m b 0) x y → cov (E.f i) (.cells m cs sp) x y := fun {x y} hcv => by
    simp only [cov, partP] at hcv ⊢
    omega
  have mut1 : ∀ {x y : Nat}, mutAt (E.push (partP E i (sizeS a))) (updB h i .dead ++ [.cells m b 0]) x y → mutAt E h x y := fun {x y} hm1 => by
    obtain ⟨j, B, hj, hB, hcv⟩ := hm1
    rcases hH hj with rfl | ⟨h1, h2, _⟩ | ⟨_, rfl, h2⟩
    · simp [Blk.mut] at hB
    · rw [h2] at hcv; exact ⟨j, B, h1, hB, hcv⟩
    · rw [h2] at hcv; exact ⟨i, _, hi', hB, covP hcv⟩
  -- cells of the block outside the part are written by nobody
  have out1 : ∀ {y : Nat}, (E.f i).o ≤ y → y < (E.f i).o + (sizeS cs + sp) → ¬ (((E.f i).o + sizeS a) ≤ y ∧ y < (E.f i).o + sizeS a + sizeS b) → ¬ mutAt (E.push (partP E i (sizeS a))) (updB h i .dead ++ [.cells m b 0]) (E.f i).b y := fun {y} h1 h2 h3 hm1 => by
    obtain ⟨j, B, hj, hB, hcv⟩ := hm1
    rcases hH hj with rfl | ⟨k1, k2, k3, _⟩ | ⟨_, rfl, k2⟩
    · simp [Blk.mut] at hB
    · rw [k2] at hcv
      exact S.dis j i B _ k3 k1 hi' hB _ _ hcv ⟨rfl, h1, h2⟩
    · rw [k2] at hcv
      simp only [cov, partP] at hcv
      omega
  obtain ⟨v, x, h', E', rfl, hd, S', N', hq⟩ := P
  obtain ⟨hro, b', cs', hN, hsz, hj', hk⟩ := hK x h' hq
  have hN' := nthB_get hN
  have hNlt := lt_of_get hN'
  have fi : E'.f i = E.f i := by rw [N'.same i (by simp [Emb.push]; omega), Emb.push_old _ _ (by omega)]
  have fN : E'.f h.length = partP E i (sizeS a) := by rw [N'.same h.length (by simp [Emb.push]; omega), ← hn, Emb.push_new]
  obtain ⟨p1, ⟨lb', hlb', hcb'⟩, hmb'⟩ := S'.ok _ _ hN'
  have zb' := denS_length hlb'
  have le' : E.le E' := ⟨by have := N'.len; have h1 := S'.n; simp only [List.length_append, hUl, List.length_singleton] at this; omega, fun j hj => by rw [N'.same j (by simp [Emb.push]; omega), Emb.push_old _ _ hj]⟩
  have hF : ∀ {j : Nat} {B : Blk}, (updB (updB h' h.length .dead) i (.cells m cs' sp))[j]? = some B → B = .dead ∨ (h'[j]? = some B ∧ j ≠ i ∧ j ≠ h.length) ∨ (j = i ∧ B = .cells m cs' sp) := fun {j B} hj => by
    rw [updB_eq, updB_eq] at hj
    by_cases hij : i = j
    · subst hij
      rw [List.getElem?_set_self (by rw [List.length_set]; omega)] at hj
      simp only [Option.some.injEq] at hj
      exact .inr (.inr ⟨rfl, hj.symm⟩)
    · rw [List.getElem?_set_ne hij] at hj
      by_cases hNj : h.length = j
      · subst hNj
        rw [List.getElem?_set_self hNlt] at hj
        simp only [Option.some.injEq] at hj
        exact .inl hj.symm
      · rw [List.getElem?_set_ne hNj] at hj
        exact .inr (.inl ⟨hj, fun e => hij e.symm, fun e => hNj e.symm⟩)
  have dl : denS E' cs' (la ++ (lb' ++ lc)) := hj' E' _ (denS_append (denS_mono le' _ _ hla) (denS_append hlb' (denS_mono le' _ _ hlc)))
  have zcs : sizeS cs' = sizeS cs := by
    have := denS_length dl
    simp only [List.length_append] at this
    omega
  have pnt : ∀ j, j < sizeS cs + sp → (E.f i).b < w.heap.size := fun j hj => by
    rcases hp with h1 | ⟨_, h1⟩
    · exact h1
    · omega
  have keep : ∀ j, j < sizeS cs + sp → ¬ (sizeS a ≤ j ∧ j < sizeS a + sizeS b) → w'.cell? ⟨(E.f i).b, (E.f i).o + j, none⟩ = w.cell? ⟨(E.f i).b, (E.f i).o + j, none⟩ := fun j hj hno =>
    (N'.cells _ _ (pnt j hj) (out1 (by omega) (by omega) (by omega))).1
  refine ⟨v, x, _, E', rfl, hd, ⟨?_, fun j B hj => ?_, fun j k A B hjk hj hk hA y z hcj => ?_⟩, ⟨?_, fun j hj => le'.2 j hj, N'.size, fun y hy hno => N'.frame y hy (fun o hm1 => hno o (mut1 hm1)), fun y z hy hno => N'.cells y z hy (fun hm1 => hno (mut1 hm1)), fun y z hm1 hy => ?_, N'.os, N'.tape, N'.output, N'.rows⟩, hk⟩
  · rw [S'.n]; simp [updB_eq]
  · rcases hF hj with rfl | ⟨h1, _, _⟩ | ⟨rfl, rfl⟩
    · trivial
    · exact S'.ok j B h1
    · rw [fi]
      refine ⟨?_, ⟨_, dl, fun k v hk => ?_⟩, fun hmm k hk => ?_⟩
      · rcases hp with h1 | ⟨h1, h2⟩
        · exact .inl (by have := N'.size; omega)
        · exact .inr ⟨h1, by omega⟩
      · have hkl : k < sizeS cs := by
          rcases Nat.lt_or_ge k (la ++ (lb' ++ lc)).length with h1 | h1
          · simp only [List.length_append] at h1; omega
          · rw [List.getElem?_eq_none h1] at hk; cases hk
        by_cases hin : sizeS a ≤ k ∧ k < sizeS a + sizeS b
        · have h1 := hcb' (k - sizeS a) v (by
            rw [List.getElem?_append_right (by omega), List.getElem?_append_left (by omega), za] at hk
            exact hk)
          rw [fN] at h1
          simp only [partP, Nat.add_assoc] at h1
          rwa [show sizeS a + (k - sizeS a) = k by omega] at h1
        · rw [keep k (by omega) hin]
          refine hc k v ?_
          by_cases h1 : k < sizeS a
          · rw [List.getElem?_append_left (by omega)] at hk ⊢; exact hk
          · rw [List.getElem?_append_right (by omega), List.getElem?_append_right (by omega)] at hk ⊢
            rw [show k - la.length - lb.length = k - la.length - lb'.length by omega]
            exact hk
      · rw [zcs] at hk
        by_cases hin : sizeS a ≤ k ∧ k < sizeS a + sizeS b
        · have h1 := hmb' hmm (k - sizeS a) (by omega)
          rw [fN] at h1
          simp only [partP, Nat.add_assoc] at h1
          rwa [show sizeS a + (k - sizeS a) = k by omega] at h1
        · rw [keep k hk hin]
          obtain ⟨h1, h2⟩ := hm hmm k hk
          exact ⟨h1, N'.rows _ (pnt k hk) h2⟩
  · -- apart
    have one : ∀ {k : Nat} {B : Blk}, h'[k]? = some B → k ≠ i → k ≠ h.length → (m = true ∨ B.mut = true) → ∀ {y z : Nat}, cov (E.f i) (.cells m cs' sp) y z → ¬ cov (E'.f k) B y z := fun {k B} hB hki hkN hmB {y z} hcv hcv' => by
      simp only [cov, zcs] at hcv
      obtain ⟨rfl, hz1, hz2⟩ := hcv
      by_cases hin : (E.f i).o + sizeS a ≤ z ∧ z < (E.f i).o + sizeS a + sizeS b
      · have hcN : cov (E'.f h.length) (.cells m b' 0) (E.f i).b z := by
          rw [fN]; exact ⟨rfl, hin.1, by simp only [partP]; omega⟩
        rcases hmB with hmm | hmm
        · exact S'.dis h.length k _ B (Ne.symm hkN) hN' hB hmm _ _ hcN hcv'
        · exact S'.dis k h.length B _ hkN hB hN' hmm _ _ hcv' hcN
      · have hno := out1 hz1 hz2 hin
        have hbl := pnt 0 (by omega)
        rcases roOk_get hro k B hB with h1 | rfl | h1
        · exact hno (N'.new _ _ ⟨k, B, hB, h1, hcv'⟩ hbl)
        · exact hcv'
        · rcases hH h1 with rfl | ⟨k1, k2, k3, k4⟩ | ⟨k1, _, _⟩
          · exact hcv'
          · rw [N'.same k (by simp [Emb.push]; omega), k2] at hcv'
            rcases hmB with hmm | hmm
            · exact S.dis i k _ B (Ne.symm k3) hi' k1 hmm _ _ ⟨rfl, hz1, hz2⟩ hcv'
            · exact S.dis k i B _ k3 k1 hi' hmm _ _ hcv' ⟨rfl, hz1, hz2⟩
          · exact hkN k1
    rcases hF hj with rfl | ⟨h1, h2, h3⟩ | ⟨rfl, rfl⟩
    · simp [Blk.mut] at hA
    · rcases hF hk with rfl | ⟨k1, k2, k3⟩ | ⟨rfl, rfl⟩
      · intro h'; exact h'
      · exact S'.dis j k A B hjk h1 k1 hA y z hcj
      · rw [fi]; intro hcv; exact one h1 h2 h3 (.inr hA) hcv hcj
    · rcases hF hk with rfl | ⟨k1, k2, k3⟩ | ⟨rfl, rfl⟩
      · intro h'; exact h'
      · rw [fi] at hcj; exact one k1 k2 k3 (.inl hA) hcj
      · exact absurd rfl hjk
  · simp only [updB_eq, List.length_set]
    have := N'.len
    simp only [List.length_append, hUl, List.length_singleton] at this
    omega
  · obtain ⟨k, B, hB, hBm, hcv⟩ := hm1
    rcases hF hB with rfl | ⟨h1, _, _⟩ | ⟨rfl, rfl⟩
    · simp [Blk.mut] at hBm
    · exact mut1 (N'.new y z ⟨k, B, h1, hBm, hcv⟩ hy)
    · rw [fi] at hcv
      refine ⟨_, _, hi', hBm, ?_⟩
      simpa only [cov, zcs] using hcv

/-- **A call that is handed a part of a block.** -/
theorem Does.part {T : Tbl} {f : FuncId} {args args' : List EV} {h : List Blk} {Q K : EV → List Blk → Prop} (i : Nat) {m : Bool} {cs : List Seg} {sp : Nat} (a b c : List Seg) (hi : nthB h i = some (.cells m cs sp))
    (hs : ∀ E l, denS E cs l → denS E (a ++ (b ++ c)) l) (ha : partT i h.length (sizeS a) args args') (d : Does T f args' (updB h i .dead ++ [.cells m b 0]) Q)
    (hK : ∀ v h', Q v h' → PartOk (updB h i .dead ++ [.cells m b 0]) i h.length m a b c sp K v h') : Does T f args h K := by
  refine ⟨?_⟩
  rcases d.go with ⟨h1, h2⟩ | h1
  · refine .inl ⟨h1, fun E w vs S hv => ?_⟩
    have hn := S.n
    exact (h2 _ w vs (part_sim S hi hs) (partT_den (by rw [hn]; exact ha) hv)).mono fun e w' p => part_post S hi hs hK p
  · refine .inr fun E w vs S hv => ?_
    have hn := S.n
    obtain ⟨u, w', h2, h3⟩ := h1 _ w vs (part_sim S hi hs) (partT_den (by rw [hn]; exact ha) hv)
    exact ⟨u, w', h2, part_post S hi hs hK h3⟩

end Go.Anv

/- The engine, part 16: contracts that go on: over whatever heap, the answer handed to what follows. Plain theorems, no condition. -/
namespace Go.Anv
open Go

/-- How many blocks there are. -/
def lenK (l : List Blk) : Nat → (Nat → Prop) → Prop :=
  List.rec (motive := fun _ => Nat → (Nat → Prop) → Prop) (fun n k => k n) (fun _ _ ih n k => ih (n + 1) k) l

theorem lenK_eq : ∀ (l : List Blk) (n : Nat) (k : Nat → Prop), lenK l n k = k (n + l.length)
  | [], _, _ => rfl
  | _ :: r, n, k => by
    show lenK r (n + 1) k = _
    rw [lenK_eq r]
    simp only [List.length_cons]
    rw [show n + 1 + r.length = n + (r.length + 1) by omega]

/-- Blocks behind the others. -/
def appBK (l r : List Blk) : (List Blk → Prop) → Prop :=
  List.rec (motive := fun _ => (List Blk → Prop) → Prop) (fun k => k r) (fun x _ ih k => ih fun h => k (x :: h)) l

theorem appBK_eq : ∀ (l r : List Blk) (k : List Blk → Prop), appBK l r k = k (l ++ r)
  | [], _, _ => rfl
  | x :: l, r, k => by
    show (appBK l r fun h => k (x :: h)) = _
    rw [appBK_eq l]
    rfl

/-- A cell of some cells, and what they are with another in its place. -/
def CellAt (cs : List Seg) (o : Nat) (e : SV) (cs' : List Seg) (e' : SV) : Prop :=
  ∃ a c, sizeS a = o ∧ (∀ E l, denS E cs l → denS E (a ++ ([.one e] ++ c)) l) ∧ ∀ E l, denS E (a ++ ([.one e'] ++ c)) l → denS E cs' l

theorem CellAt.cons_one {cs cs' : List Seg} {o : Nat} {e e' v : SV} (h : CellAt cs o e cs' e') : CellAt (.one v :: cs) (o + 1) e (.one v :: cs') e' := by
  obtain ⟨a, c, h1, h2, h3⟩ := h
  refine ⟨.one v :: a, c, by simp [sizeS, h1], fun E l hd => ?_, fun E l hd => ?_⟩
  · simp only [denS, List.cons_append] at hd ⊢
    obtain ⟨u, l', rfl, k1, k2⟩ := hd
    exact ⟨u, l', rfl, k1, h2 E l' k2⟩
  · simp only [denS, List.cons_append] at hd ⊢
    obtain ⟨u, l', rfl, k1, k2⟩ := hd
    exact ⟨u, l', rfl, k1, h3 E l' k2⟩

theorem CellAt.cons_ints {cs cs' : List Seg} {o : Nat} {e e' : SV} {k : IntKind} {n : Nat} {f : Nat → Int} (h : CellAt cs o e cs' e') : CellAt (.ints k n f :: cs) (n + o) e (.ints k n f :: cs') e' := by
  obtain ⟨a, c, h1, h2, h3⟩ := h
  refine ⟨.ints k n f :: a, c, by simp [sizeS, h1], fun E l hd => ?_, fun E l hd => ?_⟩
  · simp only [denS, List.cons_append] at hd ⊢
    obtain ⟨l', rfl, k2⟩ := hd
    exact ⟨l', rfl, h2 E l' k2⟩
  · simp only [denS, List.cons_append] at hd ⊢
    obtain ⟨l', rfl, k2⟩ := hd
    exact ⟨l', rfl, h3 E l' k2⟩

theorem cell_one : ∀ {cs cs' : List Seg} {o : Nat} {e e' : SV}, getS cs o = some e → setS cs o e' = some cs' → CellAt cs o e cs' e'
  | [], _, _, _, _, h, _ => by simp [getS] at h
  | .one v :: r, cs', 0, e, e', h, h' => by
    simp only [getS, Option.some.injEq] at h
    simp only [setS, Option.some.injEq] at h'
    subst h; subst h'
    exact ⟨[], r, rfl, fun _ _ h => h, fun _ _ h => h⟩
  | .one v :: r, cs', o + 1, e, e', h, h' => by
    simp only [getS] at h
    simp only [setS, Option.map_eq_some_iff] at h'
    obtain ⟨c, hc, rfl⟩ := h'
    exact (cell_one h hc).cons_one
  | .ints k n f :: r, cs', o, e, e', h, h' => by
    unfold getS at h
    unfold setS at h'
    split at h
    · rw [if_neg (by omega)] at h'
      cases h'
    · rename_i ho
      rw [if_pos (by omega)] at h'
      simp only [Option.map_eq_some_iff] at h'
      obtain ⟨c, hc, rfl⟩ := h'
      have := (cell_one h hc).cons_ints (k := k) (n := n) (f := f)
      rwa [show n + (o - n) = o by omega] at this

theorem intsOf_split (k : IntKind) {n j : Nat} (f : Nat → Int) (h : j < n) : intsOf k n f = intsOf k j f ++ (.int k (f j) :: intsOf k (n - j - 1) (fun i => f (j + 1 + i))) := by
  obtain ⟨m, rfl⟩ : ∃ m, n = j + (m + 1) := ⟨n - j - 1, by omega⟩
  have e : j + (m + 1) - j - 1 = m := by omega
  rw [e]
  simp only [intsOf]
  rw [List.range_add, List.map_append, List.map_map, List.range_succ_eq_map]
  congr 1
  simp only [List.map_cons, List.map_map, Function.comp_def, Nat.add_zero]
  congr 1
  refine List.map_congr_left fun i _ => ?_
  simp only [Nat.succ_eq_add_one]
  rw [show j + (i + 1) = j + 1 + i by omega]

theorem cell_ints_head (k : IntKind) {n j : Nat} (f g : Nat → Int) (r : List Seg) (hj : j < n) (hg : ∀ i, i < n → i ≠ j → f i = g i) : CellAt (.ints k n f :: r) j (.int k (f j)) (.ints k n g :: r) (.int k (g j)) := by
  refine ⟨[.ints k j f], .ints k (n - j - 1) (fun i => f (j + 1 + i)) :: r, by simp [sizeS], fun E l hd => ?_, fun E l hd => ?_⟩
  · simp only [denS, List.cons_append, List.nil_append, denV] at hd ⊢
    obtain ⟨l', rfl, k2⟩ := hd
    rw [intsOf_split k f hj]
    exact ⟨_, by rw [List.append_assoc, List.cons_append], _, _, rfl, rfl, l', rfl, k2⟩
  · simp only [denS, List.cons_append, List.nil_append, denV] at hd ⊢
    obtain ⟨l1, rfl, v, l2, rfl, rfl, l3, rfl, k2⟩ := hd
    refine ⟨l3, ?_, k2⟩
    rw [intsOf_split k g hj, List.append_assoc, intsOf_congr (f := f) (g := g) (fun i hi => hg i (by omega) (by omega)), intsOf_congr (f := fun i => f (j + 1 + i)) (g := fun i => g (j + 1 + i)) (fun i hi => hg _ (by omega) (by omega))]
    rfl

theorem cell_ints : ∀ {cs : List Seg} {o j : Nat} {k : IntKind} {n : Nat} {f : Nat → Int}, getI cs o = some (k, n, f) → j < n → CellAt cs (o + j) (.int k (f j)) cs (.int k (f j))
  | [], _, _, _, _, _, h, _ => by simp [getI] at h
  | .one v :: r, 0, j, k, n, f, h, hj => by simp [getI] at h
  | .one v :: r, o + 1, j, k, n, f, h, hj => by
    simp only [getI] at h
    have := (cell_ints (j := j) h hj).cons_one (v := v)
    rwa [show o + j + 1 = o + 1 + j by omega] at this
  | .ints q m g :: r, o, j, k, n, f, h, hj => by
    cases o with
    | zero =>
      simp only [getI, Option.some.injEq, Prod.mk.injEq] at h
      obtain ⟨rfl, rfl, rfl⟩ := h
      rw [Nat.zero_add]
      exact cell_ints_head _ _ _ r hj (fun _ _ _ => rfl)
    | succ o =>
      unfold getI at h
      split at h
      · rename_i ho
        have := (cell_ints (j := j) h hj).cons_ints (k := q) (n := m) (f := g)
        rwa [show m + (o + 1 - m + j) = o + 1 + j by omega] at this
      · cases h

theorem cell_setI : ∀ {cs cs' : List Seg} {o j : Nat} {k : IntKind} {n : Nat} {f : Nat → Int} {x : Int}, getI cs o = some (k, n, f) → j < n → setI cs o j k x = some cs' → CellAt cs (o + j) (.int k (f j)) cs' (.int k x)
  | [], _, _, _, _, _, _, _, h, _, _ => by simp [getI] at h
  | .one v :: r, _, 0, j, k, n, f, x, h, hj, _ => by simp [getI] at h
  | .one v :: r, cs', o + 1, j, k, n, f, x, h, hj, h' => by
    simp only [getI] at h
    simp only [setI, Option.map_eq_some_iff] at h'
    obtain ⟨c, hc, rfl⟩ := h'
    have := (cell_setI (j := j) h hj hc).cons_one (v := v)
    rwa [show o + j + 1 = o + 1 + j by omega] at this
  | .ints q m g :: r, cs', o, j, k, n, f, x, h, hj, h' => by
    cases o with
    | zero =>
      simp only [getI, Option.some.injEq, Prod.mk.injEq] at h
      obtain ⟨rfl, rfl, rfl⟩ := h
      simp only [setI, if_true, Option.some.injEq] at h'
      subst h'
      rw [Nat.zero_add]
      have := cell_ints_head q g (fun i => if i = j then x else g i) r hj (fun i _ hi => by simp [hi])
      simpa using this
    | succ o =>
      unfold getI at h
      split at h
      · rename_i ho
        unfold setI at h'
        rw [if_pos ho] at h'
        simp only [Option.map_eq_some_iff] at h'
        obtain ⟨c, hc, rfl⟩ := h'
        have := (cell_setI (j := j) h hj hc).cons_ints (k := q) (n := m) (f := g)
        rwa [show m + (o + 1 - m + j) = o + 1 + j by omega] at this
      · cases h

theorem nthB_app_lt {h r : List Blk} {i : Nat} {B : Blk} (hi : nthB h i = some B) : nthB (h ++ r) i = some B := nthB_app hi
theorem nthB_len : ∀ (h : List Blk) (B : Blk) (r : List Blk), nthB (h ++ B :: r) h.length = some B
  | [], _, _ => rfl
  | _ :: h, B, r => by simp only [List.cons_append, List.length_cons, nthB]; exact nthB_len h B r
theorem nthB_upd_ne : ∀ {h : List Blk} {i j : Nat} {A B : Blk}, nthB h i = some A → i ≠ j → nthB (updB h j B) i = some A
  | [], _, _, _, _, h, _ => by simp [nthB] at h
  | _ :: _, 0, 0, _, _, _, hn => absurd rfl hn
  | _ :: _, 0, j + 1, _, _, h, _ => h
  | _ :: _, i + 1, 0, _, _, h, _ => h
  | _ :: r, i + 1, j + 1, _, _, h, hn => by simp only [nthB, updB] at h ⊢; exact nthB_upd_ne h (fun e => hn (by rw [e]))
theorem nthB_upd_eq : ∀ {h : List Blk} {i : Nat} {A B : Blk}, nthB h i = some A → nthB (updB h i B) i = some B
  | [], _, _, _, h => by simp [nthB] at h
  | _ :: _, 0, _, _, _ => rfl
  | _ :: r, i + 1, _, _, h => by simp only [nthB, updB] at h ⊢; exact nthB_upd_eq h
theorem len_updB : ∀ (h : List Blk) (b : Nat) (B : Blk), (updB h b B).length = h.length
  | [], _, _ => rfl
  | _ :: _, 0, _ => rfl
  | _ :: r, b + 1, B => by simp [updB, len_updB r b B]
theorem nthB_lt {h : List Blk} {i : Nat} {B : Blk} (hi : nthB h i = some B) : i < h.length := lt_of_get (nthB_get hi)

end Go.Anv

/- The engine, part 17: a call that is handed a pointer to one cell of a block, by a contract that is shown of a small heap with that cell alone. Plain theorems; their condition: what the call leaves of the cell. -/
namespace Go.Anv
open Go

theorem roOk_mk : ∀ {h h' : List Blk}, (∀ (i : Nat) (B : Blk), h'[i]? = some B → B.mut = true ∨ B = .dead ∨ h[i]? = some B) → roOk h h'
  | [], [], _ => trivial
  | _ :: _, [], _ => trivial
  | [], B :: r, hk => ⟨by rcases hk 0 B (by simp) with h | h | h
                          · exact .inl h
                          · exact .inr h
                          · simp at h, roOk_mk fun i C hi => by
    rcases hk (i + 1) C (by simpa using hi) with h | h | h
    · exact .inl h
    · exact .inr (.inl h)
    · simp at h⟩
  | A :: s, B :: r, hk => ⟨by rcases hk 0 B (by simp) with h | h | h
                              · exact .inl h
                              · exact .inr (.inl h)
                              · exact .inr (.inr (by simpa using h.symm)), roOk_mk fun i C hi => by
    rcases hk (i + 1) C (by simpa using hi) with h | h | h
    · exact .inl h
    · exact .inr (.inl h)
    · exact .inr (.inr (by simpa using h))⟩

theorem roOk_merge {h hc h' : List Blk} {κ : List Nat} (hnd : κ.Nodup) (hh : subH h κ (renH (lk κ h.length) hc)) (ho : roOk hc h') (hl : κ.length ≤ h'.length) : roOk h (mergeB h κ (renH (lk κ h.length) h')) := by
  obtain ⟨h1, h2⟩ := subH_get hh
  rw [length_renH] at h1
  have hlt : ∀ k ∈ κ, k < h.length := fun k hk => by
    obtain ⟨i, hi⟩ := List.getElem?_of_mem hk
    have hi' : i < hc.length := by
      have : i < κ.length := by
        rcases Nat.lt_or_ge i κ.length with h' | h'
        · exact h'
        · rw [List.getElem?_eq_none h'] at hi; cases hi
      omega
    obtain ⟨k', h3, h4⟩ := h2 i (renB (lk κ h.length) hc[i]) (by rw [renH_get, List.getElem?_eq_getElem hi']; rfl)
    rw [hi] at h3
    cases h3
    exact lt_of_get h4
  refine roOk_mk fun j B hj => ?_
  rcases mergeB_get h κ _ hnd hlt (by rw [length_renH]; exact hl) j B hj with ⟨_, _, h3⟩ | ⟨i, h3, h4⟩
  · exact .inr (.inr h3)
  · rw [renH_get] at h4
    simp only [Option.map_eq_some_iff] at h4
    obtain ⟨B', h5, rfl⟩ := h4
    rcases roOk_get ho i B' h5 with h6 | rfl | h6
    · exact .inl (by rw [mut_ren]; exact h6)
    · exact .inr (.inl rfl)
    · obtain ⟨k, h7, h8⟩ := h2 i (renB (lk κ h.length) B') (by rw [renH_get, h6]; rfl)
      have hi : i < κ.length := by
        rcases Nat.lt_or_ge i κ.length with h' | h'
        · exact h'
        · rw [List.getElem?_eq_none h'] at h7; cases h7
      rw [look_lt κ _ i hi] at h3
      rw [List.getElem?_eq_getElem hi] at h7
      cases h7
      subst h3
      exact .inr (.inr h8)

/-- A cell of some cells; P: what they become with another in its place. -/
def Cell (cs : List Seg) (o : Nat) (e : SV) (P : SV → List Seg → Prop) : Prop :=
  ∃ a c, sizeS a = o ∧ (∀ E l, denS E cs l → denS E (a ++ ([.one e] ++ c)) l) ∧ ∀ e' cs', P e' cs' → ∀ E l, denS E (a ++ ([.one e'] ++ c)) l → denS E cs' l

theorem Cell.cons_one {cs : List Seg} {o : Nat} {e v : SV} {P : SV → List Seg → Prop} (h : Cell cs o e P) : Cell (.one v :: cs) (o + 1) e (fun e' cs' => ∃ c, P e' c ∧ cs' = .one v :: c) := by
  obtain ⟨a, c, h1, h2, h3⟩ := h
  refine ⟨.one v :: a, c, by simp [sizeS, h1], fun E l hd => ?_, fun e' cs' hp E l hd => ?_⟩
  · simp only [denS, List.cons_append] at hd ⊢
    obtain ⟨u, l', rfl, k1, k2⟩ := hd
    exact ⟨u, l', rfl, k1, h2 E l' k2⟩
  · obtain ⟨c', hp, rfl⟩ := hp
    simp only [denS, List.cons_append] at hd ⊢
    obtain ⟨u, l', rfl, k1, k2⟩ := hd
    exact ⟨u, l', rfl, k1, h3 e' c' hp E l' k2⟩

theorem Cell.cons_ints {cs : List Seg} {o : Nat} {e : SV} {P : SV → List Seg → Prop} {k : IntKind} {n : Nat} {f : Nat → Int} (h : Cell cs o e P) : Cell (.ints k n f :: cs) (n + o) e (fun e' cs' => ∃ c, P e' c ∧ cs' = .ints k n f :: c) := by
  obtain ⟨a, c, h1, h2, h3⟩ := h
  refine ⟨.ints k n f :: a, c, by simp [sizeS, h1], fun E l hd => ?_, fun e' cs' hp E l hd => ?_⟩
  · simp only [denS, List.cons_append] at hd ⊢
    obtain ⟨l', rfl, k2⟩ := hd
    exact ⟨l', rfl, h2 E l' k2⟩
  · obtain ⟨c', hp, rfl⟩ := hp
    simp only [denS, List.cons_append] at hd ⊢
    obtain ⟨l', rfl, k2⟩ := hd
    exact ⟨l', rfl, h3 e' c' hp E l' k2⟩

theorem Cell.mono {cs : List Seg} {o : Nat} {e : SV} {P P' : SV → List Seg → Prop} (h : Cell cs o e P) (hp : ∀ e' cs', P' e' cs' → P e' cs') : Cell cs o e P' := by
  obtain ⟨a, c, h1, h2, h3⟩ := h
  exact ⟨a, c, h1, h2, fun e' cs' h => h3 e' cs' (hp e' cs' h)⟩

/-- A cell of its own. -/
theorem Cell.one : ∀ {cs : List Seg} {o : Nat} {e : SV}, getS cs o = some e → (∃ e' cs', setS cs o e' = some cs') → Cell cs o e (fun e' cs' => setS cs o e' = some cs')
  | [], _, _, h, _ => by simp [getS] at h
  | .one v :: r, 0, e, h, _ => by
    simp only [getS, Option.some.injEq] at h
    subst h
    refine ⟨[], r, rfl, fun _ _ h => h, fun e' cs' h' _ _ h => ?_⟩
    simp only [setS, Option.some.injEq] at h'
    subst h'
    exact h
  | .one v :: r, o + 1, e, h, hw => by
    simp only [getS] at h
    obtain ⟨e', cs', hw⟩ := hw
    simp only [setS, Option.map_eq_some_iff] at hw
    obtain ⟨c, hc, _⟩ := hw
    refine (Cell.one h ⟨e', c, hc⟩).cons_one.mono fun e' cs' h' => ?_
    simp only [setS, Option.map_eq_some_iff] at h'
    obtain ⟨c, hc, rfl⟩ := h'
    exact ⟨c, hc, rfl⟩
  | .ints k n f :: r, o, e, h, hw => by
    obtain ⟨e', cs', hw⟩ := hw
    unfold setS at hw
    split at hw
    · rename_i ho
      simp only [Option.map_eq_some_iff] at hw
      obtain ⟨c, hc, _⟩ := hw
      unfold getS at h
      rw [if_neg (by omega)] at h
      have := (Cell.one h ⟨e', c, hc⟩).cons_ints (k := k) (n := n) (f := f)
      rw [show n + (o - n) = o by omega] at this
      refine this.mono fun e' cs' h' => ?_
      unfold setS at h'
      rw [if_pos ho] at h'
      simp only [Option.map_eq_some_iff] at h'
      obtain ⟨c, hc, rfl⟩ := h'
      exact ⟨c, hc, rfl⟩
    · cases hw

/-- A cell among whole numbers of one kind. -/
theorem Cell.ints : ∀ {cs : List Seg} {o j : Nat} {k : IntKind} {n : Nat} {f : Nat → Int}, getI cs o = some (k, n, f) → j < n → Cell cs (o + j) (.int k (f j)) (fun e' cs' => ∃ x, e' = .int k x ∧ setI cs o j k x = some cs')
  | [], _, _, _, _, _, h, _ => by simp [getI] at h
  | .one v :: r, 0, j, k, n, f, h, hj => by simp [getI] at h
  | .one v :: r, o + 1, j, k, n, f, h, hj => by
    simp only [getI] at h
    have := (Cell.ints (j := j) h hj).cons_one (v := v)
    rw [show o + j + 1 = o + 1 + j by omega] at this
    refine this.mono fun e' cs' h' => ?_
    obtain ⟨x, rfl, h'⟩ := h'
    simp only [setI, Option.map_eq_some_iff] at h'
    obtain ⟨c, hc, rfl⟩ := h'
    exact ⟨c, ⟨x, rfl, hc⟩, rfl⟩
  | .ints q m g :: r, o, j, k, n, f, h, hj => by
    cases o with
    | zero =>
      simp only [getI, Option.some.injEq, Prod.mk.injEq] at h
      obtain ⟨rfl, rfl, rfl⟩ := h
      rw [Nat.zero_add]
      refine ⟨[.ints q j g], .ints q (m - j - 1) (fun i => g (j + 1 + i)) :: r, by simp [sizeS], fun E l hd => ?_, fun e' cs' h' E l hd => ?_⟩
      · simp only [denS, List.cons_append, List.nil_append, denV] at hd ⊢
        obtain ⟨l', rfl, k2⟩ := hd
        rw [intsOf_split q g hj]
        exact ⟨_, by rw [List.append_assoc, List.cons_append], _, _, rfl, rfl, l', rfl, k2⟩
      · obtain ⟨x, rfl, h'⟩ := h'
        simp only [setI, if_true, Option.some.injEq] at h'
        subst h'
        simp only [denS, List.cons_append, List.nil_append, denV] at hd ⊢
        obtain ⟨l1, rfl, v, l2, rfl, rfl, l3, rfl, k2⟩ := hd
        refine ⟨l3, ?_, k2⟩
        rw [intsOf_split q (fun i => if i = j then x else g i) hj, List.append_assoc, intsOf_congr (f := g) (g := fun i => if i = j then x else g i) (fun i hi => (if_neg (by omega)).symm), intsOf_congr (f := fun i => g (j + 1 + i)) (g := fun i => if j + 1 + i = j then x else g (j + 1 + i)) (fun i hi => (if_neg (by omega)).symm)]
        simp
    | succ o =>
      unfold getI at h
      split at h
      · rename_i ho
        have := (Cell.ints (j := j) h hj).cons_ints (k := q) (n := m) (f := g)
        rw [show m + (o + 1 - m + j) = o + 1 + j by omega] at this
        refine this.mono fun e' cs' h' => ?_
        obtain ⟨x, rfl, h'⟩ := h'
        unfold setI at h'
        rw [if_pos ho] at h'
        simp only [Option.map_eq_some_iff] at h'
        obtain ⟨c, hc, rfl⟩ := h'
        exact ⟨c, ⟨x, rfl, hc⟩, rfl⟩
      · cases h

/-- A cell that stays as it is. -/
theorem Cell.keep {cs : List Seg} {o : Nat} {e : SV} (h : CellAt cs o e cs e) : Cell cs o e (fun e' cs' => e' = e ∧ cs' = cs) := by
  obtain ⟨a, c, h1, h2, h3⟩ := h
  exact ⟨a, c, h1, h2, fun e' cs' h => by obtain ⟨rfl, rfl⟩ := h; exact h3⟩

/-- **A call that is handed a pointer to a cell, by a contract shown of a small heap with that cell alone.** -/
theorem Does.cell {T : Tbl} {f : FuncId} {args args' : List EV} {hc h : List Blk} {Q K : EV → List Blk → Prop} (d : Does T f args hc Q) (κ : List Nat) (pv k N : Nat) {m : Bool} {sp : Nat} {cs : List Seg} {x : SV} {P : SV → List Seg → Prop} (hN : h.length = N)
    (hv : nthB h pv = some (.cells m cs sp)) (hcell : Cell cs k x P) (hh : subH (updB h pv .dead ++ [.cells m [.one x] 0]) κ (renH (lk κ (N + 1)) hc)) (ha : partT pv N k args' (renT (lk κ (N + 1)) args))
    (hnd : κ.Nodup) (hro : ∀ v h', Q v h' → roOk hc h') (hlen : ∀ v h', Q v h' → κ.length ≤ h'.length)
    (hK : ∀ v h', Q v h' → ∃ x' cs', nthB (mergeB (updB h pv .dead ++ [.cells m [.one x] 0]) κ (renH (lk κ (N + 1)) h')) N = some (.cells m [.one x'] 0) ∧ P x' cs' ∧
      forceH (updB (updB (mergeB (updB h pv .dead ++ [.cells m [.one x] 0]) κ (renH (lk κ (N + 1)) h')) N .dead) pv (.cells m cs' sp)) fun h2 => forceE (renE (lk κ (N + 1)) v) fun v => K v h2) : Does T f args' h K := by
  subst hN
  obtain ⟨a, b, h1, h2, h3⟩ := hcell
  have hl1 : (updB h pv .dead ++ [Blk.cells m [.one x] 0]).length = h.length + 1 := by rw [List.length_append, len_updB]; rfl
  have d' := Does.frame d κ (h := updB h pv .dead ++ [Blk.cells m [.one x] 0]) hnd hro (by rw [hl1]; exact hh)
  refine Does.part pv a [.one x] b hv h2 (by rw [h1]; exact ha) (hl1 ▸ d') ?_
  rintro v h'' ⟨v', h', hq, rfl, rfl⟩
  obtain ⟨x', cs', k1, k2, k3⟩ := hK v' h' hq
  rw [forceH_eq, forceE_eq] at k3
  refine ⟨?_, [.one x'], cs', ?_, rfl, h3 x' cs' k2, ?_⟩
  · have := roOk_merge hnd (by rw [hl1]; exact hh) (hro v' h' hq) (hlen v' h' hq)
    rwa [hl1] at this
  · exact k1
  · exact k3

end Go.Anv

namespace Go.Anv
open Go
structure Box (p : Prop) : Prop where
  go : p

/-- n rounds at most, by the recursor itself. -/
def loopR (T : Tbl) (O : Org) (c : Code) (K : Exit → St → Prop) (n : Nat) : St → Prop :=
  Nat.rec (motive := fun _ => St → Prop) (fun _ => False) (fun _ ih s => Box (wpx T O c s (seqK ih K))) n

theorem loopR_eq (T : Tbl) (O : Org) (c : Code) (K : Exit → St → Prop) : ∀ (n : Nat) (s : St), loopR T O c K n s = loopN T O c n s K
  | 0, _ => rfl
  | n + 1, s => by
    have e : (Box (wpx T O c s (seqK (loopR T O c K n) K)) : Prop) = wpx T O c s (seqK (loopR T O c K n) K) := propext ⟨fun h => h.go, fun h => ⟨h⟩⟩
    show Box (wpx T O c s (seqK (loopR T O c K n) K)) = wpx T O c s (seqK (fun s' => loopN T O c n s' K) K)
    rw [e, show loopR T O c K n = fun s' => loopN T O c n s' K from funext (loopR_eq T O c K n)]

/-- A loop of at most n rounds, each walked by itself. -/
theorem loop_times {T : Tbl} {O : Org} (on : O.E.n = O.h.length) {c : Code} {K : Exit → St → Prop} (n : Nat) {s : St} (h : loopR T O c K n s) : LoopG T O c s K := loop_unroll on n (loopR_eq T O c K n s ▸ h)
end Go.Anv

namespace Go.Anv
open Go
/-- Arguments that say more. -/
theorem Does.args {T : Tbl} {f : FuncId} {a b : List EV} {h : List Blk} {Q : EV → List Blk → Prop} (e : eqvT a b) (d : Does T f b h Q) : Does T f a h Q := by
  refine ⟨?_⟩
  rcases d.go with ⟨h1, h2⟩ | h1
  · exact .inl ⟨h1, fun E w vs S ha => h2 E w vs S (eqvT_den _ _ _ e ha)⟩
  · exact .inr fun E w vs S ha => h1 E w vs S (eqvT_den _ _ _ e ha)
end Go.Anv

namespace Go.Anv
open Go
/-- Arguments that are wanted. -/
def unG : List EV → List EV → Prop
  | [], [] => True
  | .gd g v :: r, w :: r' => (g = true ∧ v = w) ∧ unG r r'
  | v :: r, w :: r' => v = w ∧ unG r r'
  | _, _ => False
theorem unG_den {E : Emb} : ∀ (a b : List EV) (l : List Value), unG a b → denT E a l → denT E b l
  | [], [], _, _, h => h
  | x :: r, y :: r', l, he, h => by
    have key : (denE E x = denE E y ∨ ∃ g v, x = .gd g v ∧ g = true ∧ v = y) ∧ unG r r' := by
      cases x with
      | gd g v => exact ⟨.inr ⟨g, v, rfl, he.1⟩, he.2⟩
      | s v => exact ⟨.inl (by rw [he.1]), he.2⟩
      | agg v => exact ⟨.inl (by rw [he.1]), he.2⟩
      | tuple v => exact ⟨.inl (by rw [he.1]), he.2⟩
      | junk => exact ⟨.inl (by rw [he.1]), he.2⟩
    simp only [denT] at h ⊢
    obtain ⟨v, l', rfl, h1, h2⟩ := h
    refine ⟨v, l', rfl, ?_, unG_den r r' l' key.2 h2⟩
    rcases key.1 with e | ⟨g, u, rfl, rfl, rfl⟩
    · rw [← e]; exact h1
    · simp only [denE] at h1
      exact h1.1 trivial
  | [], _ :: _, _, he, _ => he.elim
  | x :: _, [], _, he, _ => by cases x <;> exact he.elim
theorem Does.ungd {T : Tbl} {f : FuncId} {a b : List EV} {h : List Blk} {Q : EV → List Blk → Prop} (e : unG a b) (d : Does T f b h Q) : Does T f a h Q := by
  refine ⟨?_⟩
  rcases d.go with ⟨h1, h2⟩ | h1
  · exact .inl ⟨h1, fun E w vs S ha => h2 E w vs S (unG_den _ _ _ e ha)⟩
  · exact .inr fun E w vs S ha => h1 E w vs S (unG_den _ _ _ e ha)
end Go.Anv

namespace Go.Anv
open Go
/-- **A call that is handed a part of a block, by a contract shown of a small heap with that part as a block.** -/
theorem Does.partAt {T : Tbl} {f : FuncId} {args args' : List EV} {hc h : List Blk} {Q K : EV → List Blk → Prop} (d : Does T f args hc Q) (κ : List Nat) (i N : Nat) {m : Bool} {sp : Nat} {cs : List Seg} (a b c : List Seg) (hN : h.length = N)
    (hi : nthB h i = some (.cells m cs sp)) (hs : ∀ E l, denS E cs l → denS E (a ++ (b ++ c)) l) (hh : subH (updB h i .dead ++ [.cells m b 0]) κ (renH (lk κ (N + 1)) hc)) (ha : partT i N (sizeS a) args' (renT (lk κ (N + 1)) args))
    (hnd : κ.Nodup) (hro : ∀ v h', Q v h' → roOk hc h') (hlen : ∀ v h', Q v h' → κ.length ≤ h'.length)
    (hK : ∀ v h', Q v h' → ∃ b' cs', nthB (mergeB (updB h i .dead ++ [.cells m b 0]) κ (renH (lk κ (N + 1)) h')) N = some (.cells m b' 0) ∧ sizeS b' = sizeS b ∧ (∀ E l, denS E (a ++ (b' ++ c)) l → denS E cs' l) ∧
      forceH (updB (updB (mergeB (updB h i .dead ++ [.cells m b 0]) κ (renH (lk κ (N + 1)) h')) N .dead) i (.cells m cs' sp)) fun h2 => forceE (renE (lk κ (N + 1)) v) fun v => K v h2) : Does T f args' h K := by
  subst hN
  have hl1 : (updB h i .dead ++ [Blk.cells m b 0]).length = h.length + 1 := by rw [List.length_append, len_updB]; rfl
  have d' := Does.frame d κ (h := updB h i .dead ++ [Blk.cells m b 0]) hnd hro (by rw [hl1]; exact hh)
  refine Does.part i a b c hi hs ha (hl1 ▸ d') ?_
  rintro v h'' ⟨v', h', hq, rfl, rfl⟩
  obtain ⟨b', cs', k1, k2, k3, k4⟩ := hK v' h' hq
  rw [forceH_eq, forceE_eq] at k4
  refine ⟨?_, b', cs', ?_, k2, k3, ?_⟩
  · have := roOk_merge hnd (by rw [hl1]; exact hh) (hro v' h' hq) (hlen v' h' hq)
    rwa [hl1] at this
  · exact k1
  · exact k4
end Go.Anv

/- The writer's methods: contracts that go on. No condition. -/
namespace Go.Anv
open Go
/-- The writer's bytes; the writer. -/
def lb (L : List B8) (c : Nat) : Blk := .cells true [.ints .u8 L.length (bf L)] (c - L.length)
def wb (b : Nat) (L : List B8) (c : Nat) : Blk := .cells true [.one (.gs b 0 L.length c)] 0

def bb (b : Bool) : List B8 := [if b then 1#8 else 0#8]
def ints (ex : List Int) : List EV := ex.map fun n => .s (.int .i64 n)
theorem ren_ints (ρ : Nat → Nat) : ∀ ex : List Int, renT ρ (ints ex) = ints ex
  | [] => rfl
  | x :: r => by
    show EV.s (.int .i64 x) :: renT ρ (ints r) = _
    rw [ren_ints ρ r]; rfl
theorem part_ints (i N k : Nat) : ∀ ex : List Int, partT i N k (ints ex) (ints ex)
  | [] => trivial
  | x :: r => ⟨rfl, part_ints i N k r⟩
/-- A pointer to the k-th cell of a block. -/
def ptrTo (p k : Nat) : EV → Prop
  | .s (.ptr b o) => b = p ∧ o = k
  | .s (.pix b o j) => b = p ∧ o + j = k
  | _ => False
theorem ptrTo_part {p k N : Nat} {e : EV} (h : ptrTo p k e) : partE p N k e (.s (.ptr N 0)) := by
  unfold ptrTo at h
  split at h
  · obtain ⟨rfl, rfl⟩ := h; exact .inr ⟨rfl, rfl, rfl⟩
  · obtain ⟨rfl, rfl⟩ := h; exact ⟨rfl, rfl, rfl⟩
  · exact h.elim
end Go.Anv
namespace Go.Proofs.Ytghcdkpgcanpgaa
open Go Go.Anv
theorem number_k {h : List Blk} {K : EV → List Blk → Prop} (pw pb : Nat) {L : List B8} {c : Nat} {x : Int} (v : BitVec 64) (n : Nat) (hx : x = v.toNat) (hn : 0 < n ∧ n ≤ 8) (hL : L.length ≤ 70368744177664) (hc : L.length ≤ c)
    (hw : nthB h pw = some (wb pb L c)) (hb : nthB h pb = some (lb L c)) (hne : pw ≠ pb)
    (hK : ∀ L' c', L' = L ++ le v n → L'.length = L.length + n → L'.length ≤ c' → lenK h 0 fun N => updBK h pw (wb N L' c') fun h1 => updBK h1 pb .dead fun h2 => appBK h2 [lb L' c'] fun h3 => K (.tuple []) h3) :
    Does TB 42 [.s (.ptr pw 0), .s (.int .u64 x), .s (.int .i64 n)] h K := by
  obtain ⟨n, rfl⟩ : ∃ m, n = m + 1 := ⟨n - 1, by omega⟩
  subst hx
  refine Does.at (number_spec L c v (n + 1) hL hn.2 hc) [pw, pb] rfl ⟨hw, hb, trivial⟩ (by simp [hne]) ?_ ?_
  · rintro v h' ⟨c', _, _, rfl⟩
    exact ⟨.inl rfl, .inr (.inl rfl), .inl rfl, trivial⟩
  · rintro v h' ⟨c', h1, rfl, rfl⟩
    have hl : (L ++ le v (n + 1)).length = L.length + (n + 1) := by rw [List.length_append, le_len]
    have := hK _ c' rfl hl (by rw [hl]; exact h1)
    rw [lenK_eq, updBK_eq, updBK_eq, appBK_eq, Nat.zero_add] at this
    rw [forceH_eq, forceE_eq]
    exact this

/-- A method that writes what one cell says. -/
theorem one_k {f : FuncId} {m : Bool} {x : SV} (Y : List B8) (ex : List Int) {h : List Blk} {K : EV → List Blk → Prop} (pw pb pv k : Nat) {sp : Nat} {cs : List Seg} {pe : EV} {L : List B8} {c : Nat}
    (spec : ∀ L c, L.length ≤ 70368744177664 → L.length ≤ c → Does TB f (.s (.ptr 0 0) :: .s (.ptr 2 0) :: ints ex) (wr L c ++ [.cells m [.one x] 0])
      (fun r h' => ∃ c', (L ++ Y).length ≤ c' ∧ r = .tuple [] ∧ h' = wr3 (L ++ Y) c' (.cells m [.one x] 0)))
    (hx : ∀ ρ, renV ρ x = x) (hL : L.length ≤ 70368744177664) (hc : L.length ≤ c)
    (hw : nthB h pw = some (wb pb L c)) (hb : nthB h pb = some (lb L c)) (hne : pw ≠ pb ∧ pw ≠ pv ∧ pb ≠ pv) (hv : nthB h pv = some (.cells m cs sp)) (hpe : ptrTo pv k pe) (hcell : CellAt cs k x cs x)
    (hK : ∀ L' c', L' = L ++ Y → L'.length = L.length + Y.length → L'.length ≤ c' → lenK h 0 fun N =>
      forceH (updB (updB (updB (updB (updB (updB h pv .dead ++ [.cells m [.one x] 0]) pw (wb (N + 1) L' c')) pb .dead) N (.cells m [.one x] 0) ++ [lb L' c']) N .dead) pv (.cells m cs sp)) fun h3 => K (.tuple []) h3) :
    Does TB f (.s (.ptr pw 0) :: pe :: ints ex) h K := by
  obtain ⟨a, b, h1, h2, h3⟩ := hcell
  obtain ⟨n1, n2, n3⟩ := hne
  have lw := nthB_lt hw
  have lbb := nthB_lt hb
  have hl1 : (updB h pv .dead ++ [Blk.cells m [.one x] 0]).length = h.length + 1 := by rw [List.length_append, len_updB]; rfl
  have lN : nthB (updB h pv .dead ++ [Blk.cells m [.one x] 0]) h.length = some (.cells m [.one x] 0) := by
    have := nthB_len (updB h pv .dead) (Blk.cells m [.one x] 0) []
    rwa [len_updB] at this
  have d := Does.frame (spec L c hL hc) [pw, pb, h.length] (h := updB h pv .dead ++ [Blk.cells m [.one x] 0]) (by simp [n1]; omega) (by
    rintro v h' ⟨c', _, _, rfl⟩
    exact ⟨.inl rfl, .inr (.inl rfl), .inr (.inr rfl), .inl rfl, trivial⟩) ⟨nthB_app (nthB_upd_ne hw n2), nthB_app (nthB_upd_ne hb n3), by simp only [renB, renS, hx]; exact lN, trivial⟩
  have ea : renT (lk [pw, pb, h.length] (updB h pv .dead ++ [Blk.cells m [.one x] 0]).length) (.s (.ptr 0 0) :: .s (.ptr 2 0) :: ints ex) = .s (.ptr pw 0) :: .s (.ptr h.length 0) :: ints ex := by
    show EV.s (.ptr pw 0) :: .s (.ptr h.length 0) :: renT _ (ints ex) = _
    rw [ren_ints]
  rw [ea] at d
  refine Does.part (args' := .s (.ptr pw 0) :: .s (.ptr h.length 0) :: ints ex) pv a [.one x] b hv h2 ⟨.inl ⟨rfl, rfl⟩, by rw [h1]; exact ptrTo_part hpe, part_ints _ _ _ _⟩ d ?_
  rintro v h'' ⟨v', h', ⟨c', k1, rfl, rfl⟩, rfl, rfl⟩
  have e3 : lk [pw, pb, h.length] (updB h pv .dead ++ [Blk.cells m [.one x] 0]).length 3 = h.length + 1 := hl1
  have em : renH (lk [pw, pb, h.length] (updB h pv .dead ++ [Blk.cells m [.one x] 0]).length) (wr3 (L ++ Y) c' (.cells m [.one x] 0)) = [wb (h.length + 1) (L ++ Y) c', .dead, .cells m [.one x] 0, lb (L ++ Y) c'] := by
    simp only [wr3, renH, renB, renS, renV, e3, hx, wb, lb]
  rw [em]
  refine ⟨roOk_mk fun j B hj => ?_, [.one x], cs, ?_, rfl, h3, ?_⟩
  · rcases mergeB_get _ [pw, pb, h.length] _ (by simp [n1]; omega) (by rw [hl1]; simp; omega) (by simp) j B hj with ⟨_, _, h4⟩ | ⟨i, h4, h5⟩
    · exact .inr (.inr h4)
    · match i, h4, h5 with
      | 0, h4, h5 => simp only [List.getElem?_cons_zero, Option.some.injEq] at h5; subst h5; exact .inl rfl
      | 1, h4, h5 => simp only [List.getElem?_cons_succ, List.getElem?_cons_zero, Option.some.injEq] at h5; subst h5; exact .inr (.inl rfl)
      | 2, h4, h5 =>
        simp only [List.getElem?_cons_succ, List.getElem?_cons_zero, Option.some.injEq] at h5
        have h4 : h.length = j := h4
        subst h5; subst h4
        exact .inr (.inr (nthB_get lN))
      | 3, h4, h5 => simp only [List.getElem?_cons_succ, List.getElem?_cons_zero, Option.some.injEq] at h5; subst h5; exact .inl rfl
      | i + 4, h4, h5 => simp at h5
  · refine nthB_app (nthB_upd_eq (A := .cells m [.one x] 0) ?_)
    exact nthB_upd_ne (nthB_upd_ne lN (by omega)) (by omega)
  · have hl : (L ++ Y).length = L.length + Y.length := List.length_append
    have := hK _ c' rfl hl k1
    rw [lenK_eq, Nat.zero_add, forceH_eq] at this
    exact this

set_option maxRecDepth 100000 in
theorem double_spec (m : Bool) (v : BitVec 64) (L : List B8) (c : Nat) (hL : L.length ≤ 70368744177664) (hc : L.length ≤ c) : Does TB 185 (.s (.ptr 0 0) :: .s (.ptr 2 0) :: ints []) (wr L c ++ [.cells m [.one (.int .u64 v.toNat)] 0])
    (fun r h' => ∃ c', (L ++ le v 8).length ≤ c' ∧ r = .tuple [] ∧ h' = wr3 (L ++ le v 8) c' (.cells m [.one (.int .u64 v.toNat)] 0)) := by
  refine fnX_does TB Try.func185 rfl (by decide) (fun O on hO => ?_)
  refine number_k 0 1 v 8 rfl (by decide) hL hc rfl rfl (by decide) ?_
  intro L' c' e l k
  subst e
  exact ⟨_, _, [0, 1, 2, 3], ⟨c', k, rfl, rfl⟩, by decide, ⟨rfl, rfl, rfl, trivial⟩, trivial, ⟨⟨_, rfl, eqvB_refl _⟩, ⟨_, rfl, eqvB_refl _⟩, ⟨_, rfl, eqvB_refl _⟩, ⟨_, rfl, eqvB_refl _⟩, trivial⟩⟩
theorem wide32 (v : BitVec 32) : IntKind.u64.wrap (v.toNat : Int) = ((v.setWidth 64).toNat : Int) := by
  have := v.isLt
  rw [wrap_u64, BitVec.toNat_setWidth, BitVec.toNat_ofInt]; omega
theorem wide8 (v : BitVec 8) : IntKind.u64.wrap (v.toNat : Int) = ((v.setWidth 64).toNat : Int) := by
  have := v.isLt
  rw [wrap_u64, BitVec.toNat_setWidth, BitVec.toNat_ofInt]; omega
set_option maxRecDepth 100000 in
theorem word_spec (m : Bool) (v : BitVec 32) (L : List B8) (c : Nat) (hL : L.length ≤ 70368744177664) (hc : L.length ≤ c) : Does TB 190 (.s (.ptr 0 0) :: .s (.ptr 2 0) :: ints []) (wr L c ++ [.cells m [.one (.int .u32 v.toNat)] 0])
    (fun r h' => ∃ c', (L ++ le (v.setWidth 64) 4).length ≤ c' ∧ r = .tuple [] ∧ h' = wr3 (L ++ le (v.setWidth 64) 4) c' (.cells m [.one (.int .u32 v.toNat)] 0)) := by
  refine fnX_does TB Try.func190 rfl (by decide) (fun O on hO => ?_)
  refine number_k 0 1 (v.setWidth 64) 4 (wide32 v) (by decide) hL hc rfl rfl (by decide) ?_
  intro L' c' e l k
  subst e
  exact ⟨_, _, [0, 1, 2, 3], ⟨c', k, rfl, rfl⟩, by decide, ⟨rfl, rfl, rfl, trivial⟩, trivial, ⟨⟨_, rfl, eqvB_refl _⟩, ⟨_, rfl, eqvB_refl _⟩, ⟨_, rfl, eqvB_refl _⟩, ⟨_, rfl, eqvB_refl _⟩, trivial⟩⟩
set_option maxRecDepth 100000 in
theorem octet_spec (m : Bool) (v : BitVec 8) (L : List B8) (c : Nat) (hL : L.length ≤ 70368744177664) (hc : L.length ≤ c) : Does TB 188 (.s (.ptr 0 0) :: .s (.ptr 2 0) :: ints []) (wr L c ++ [.cells m [.one (.int .u8 v.toNat)] 0])
    (fun r h' => ∃ c', (L ++ le (v.setWidth 64) 1).length ≤ c' ∧ r = .tuple [] ∧ h' = wr3 (L ++ le (v.setWidth 64) 1) c' (.cells m [.one (.int .u8 v.toNat)] 0)) := by
  refine fnX_does TB Try.func188 rfl (by decide) (fun O on hO => ?_)
  refine number_k 0 1 (v.setWidth 64) 1 (wide8 v) (by decide) hL hc rfl rfl (by decide) ?_
  intro L' c' e l k
  subst e
  exact ⟨_, _, [0, 1, 2, 3], ⟨c', k, rfl, rfl⟩, by decide, ⟨rfl, rfl, rfl, trivial⟩, trivial, ⟨⟨_, rfl, eqvB_refl _⟩, ⟨_, rfl, eqvB_refl _⟩, ⟨_, rfl, eqvB_refl _⟩, ⟨_, rfl, eqvB_refl _⟩, trivial⟩⟩
set_option maxRecDepth 100000 in
theorem place_spec (m : Bool) (v : Int) (n : Nat) (hn : 0 < n ∧ n ≤ 8) (L : List B8) (c : Nat) (hL : L.length ≤ 70368744177664) (hc : L.length ≤ c) : Does TB 189 (.s (.ptr 0 0) :: .s (.ptr 2 0) :: ints [(n : Int)]) (wr L c ++ [.cells m [.one (.int .i64 v)] 0])
    (fun r h' => ∃ c', (L ++ le (BitVec.ofInt 64 v) n).length ≤ c' ∧ r = .tuple [] ∧ h' = wr3 (L ++ le (BitVec.ofInt 64 v) n) c' (.cells m [.one (.int .i64 v)] 0)) := by
  refine fnX_does TB Try.func189 rfl (by decide) (fun O on hO => ?_)
  refine number_k 0 1 (BitVec.ofInt 64 v) n (wrap_u64 v) hn hL hc rfl rfl (by decide) ?_
  intro L' c' e l k
  subst e
  exact ⟨_, _, [0, 1, 2, 3], ⟨c', k, rfl, rfl⟩, by decide, ⟨rfl, rfl, rfl, trivial⟩, trivial, ⟨⟨_, rfl, eqvB_refl _⟩, ⟨_, rfl, eqvB_refl _⟩, ⟨_, rfl, eqvB_refl _⟩, ⟨_, rfl, eqvB_refl _⟩, trivial⟩⟩
set_option maxRecDepth 100000 in
theorem wflag_spec (m : Bool) (b : Bool) (L : List B8) (c : Nat) (hL : L.length ≤ 70368744177664) (hc : L.length ≤ c) : Does TB 186 (.s (.ptr 0 0) :: .s (.ptr 2 0) :: ints []) (wr L c ++ [.cells m [.one (.bool b)] 0])
    (fun r h' => ∃ c', (L ++ bb b).length ≤ c' ∧ r = .tuple [] ∧ h' = wr3 (L ++ bb b) c' (.cells m [.one (.bool b)] 0)) := by
  refine fnX_does TB Try.func186 rfl (by decide) (fun O on hO => ?_)
  refine ifB_intro (fun h1 => ?_) (fun h1 => ?_)
  · subst h1
    refine number_k 0 1 1#64 1 rfl (by decide) hL hc rfl rfl (by decide) ?_
    intro L' c' e l k
    have e : L' = L ++ bb true := e
    subst e
    exact ⟨_, _, [0, 1, 2, 3], ⟨c', k, rfl, rfl⟩, by decide, ⟨rfl, rfl, rfl, trivial⟩, trivial, ⟨⟨_, rfl, eqvB_refl _⟩, ⟨_, rfl, eqvB_refl _⟩, ⟨_, rfl, eqvB_refl _⟩, ⟨_, rfl, eqvB_refl _⟩, trivial⟩⟩
  · subst h1
    refine number_k 0 1 0#64 1 rfl (by decide) hL hc rfl rfl (by decide) ?_
    intro L' c' e l k
    have e : L' = L ++ bb false := e
    subst e
    exact ⟨_, _, [0, 1, 2, 3], ⟨c', k, rfl, rfl⟩, by decide, ⟨rfl, rfl, rfl, trivial⟩, trivial, ⟨⟨_, rfl, eqvB_refl _⟩, ⟨_, rfl, eqvB_refl _⟩, ⟨_, rfl, eqvB_refl _⟩, ⟨_, rfl, eqvB_refl _⟩, trivial⟩⟩
end Go.Proofs.Ytghcdkpgcanpgaa

/- The writer's list and many bytes: contracts that go on. No condition. -/
namespace Go.Anv
open Go
/-- The first bytes of what a block holds. -/
def lst (q : Nat → B8) (n : Nat) : List B8 := (List.range n).map q
theorem lst_len (q : Nat → B8) (n : Nat) : (lst q n).length = n := by simp [lst]
theorem bf_lst (q : Nat → B8) (n : Nat) : ∀ j, j < n → bfun q j = bf (lst q n) j := by
  intro j hj
  simp [bfun, bf, lst, List.getD_eq_getElem?_getD, List.getElem?_range hj]
theorem nat64 {n : Nat} (h : n ≤ 140737488355328) : IntKind.u64.wrap (n : Int) = ((BitVec.ofNat 64 n).toNat : Int) := by
  rw [wrap_u64, BitVec.toNat_ofInt, BitVec.toNat_ofNat]
  omega
end Go.Anv
namespace Go.Proofs.Ytghcdkpgcanpgaa
open Go Go.Anv
theorem bytes_k {h : List Blk} {K : EV → List Blk → Prop} (pw pb pp : Nat) {L : List B8} {c : Nat} (m : Bool) (P : List B8) (k o cp sp : Nat) (f : Nat → Int) (hf : ∀ j, j < P.length → f (o + j) = bf P j) (hk : o + P.length ≤ k)
    (hL : L.length ≤ 70368744177664) (hP : P.length ≤ 70368744177664) (hc : L.length ≤ c)
    (hw : nthB h pw = some (wb pb L c)) (hb : nthB h pb = some (lb L c)) (hp : nthB h pp = some (.cells m [.ints .u8 k f] sp)) (hne : pw ≠ pb ∧ pw ≠ pp ∧ pb ≠ pp) {n : Nat} (hn : n = P.length)
    (hK : ∀ L' c', L' = L ++ P → L'.length = L.length + n → L'.length ≤ c' → lenK h 0 fun N => updBK h pw (wb N L' c') fun h1 => updBK h1 pb .dead fun h2 => updBK h2 pp (.cells m [.ints .u8 k f] sp) fun h3 => appBK h3 [lb L' c'] fun h4 => K (.tuple []) h4) :
    Does TB 39 [.s (.ptr pw 0), .s (.gs pp o n cp)] h K := by
  subst hn
  refine Does.at (bytes_spec L c m P k o cp sp f hf hk hL hP hc) [pw, pb, pp] rfl ⟨hw, hb, hp, trivial⟩ (by simp [hne]) ?_ ?_
  · rintro v h' ⟨c', _, _, rfl⟩
    exact ⟨.inl rfl, .inr (.inl rfl), .inr (.inr rfl), .inl rfl, trivial⟩
  · rintro v h' ⟨c', h1, rfl, rfl⟩
    have hl : (L ++ P).length = L.length + P.length := List.length_append
    have := hK _ c' rfl hl (by rw [hl]; exact h1)
    rw [lenK_eq, updBK_eq, updBK_eq, updBK_eq, appBK_eq, Nat.zero_add] at this
    rw [forceH_eq, forceE_eq]
    exact this

set_option maxRecDepth 100000 in
theorem list_spec (m mb : Bool) (q : Nat → B8) (n cp sp size : Nat) (most : Int) (hs : 0 < size ∧ size ≤ 8) (hn : n ≤ 1048576) (L : List B8) (c : Nat) (hL : L.length ≤ 1099511627776) (hc : L.length ≤ c) :
    Does TB 187 [.s (.ptr 0 0), .s (.ptr 2 0), .s (.int .i64 size), .s (.int .i64 most)] [wb 1 L c, lb L c, .cells m [.one (.gs 3 0 n cp)] 0, bblk mb n q sp]
    (fun r h' => ∃ L' c', L' = L ++ le (BitVec.ofNat 64 n) size ++ lst q n ∧ L'.length = L.length + size + n ∧ L'.length ≤ c' ∧ r = .tuple [] ∧ h' = [wb 4 L' c', .dead, .cells m [.one (.gs 3 0 n cp)] 0, bblk mb n q sp, lb L' c']) := by
  refine fnX_does TB Try.func187 rfl (by decide) (fun O on hO => ?_)
  refine number_k 0 1 (BitVec.ofNat 64 n) size (nat64 (by omega)) hs (by omega) hc rfl rfl (by decide) ?_
  intro L1 c1 e1 l1 k1
  refine bytes_k 0 4 3 mb (lst q n) n 0 cp sp (bfun q) ?_ (by rw [lst_len]; omega) (by omega) (by rw [lst_len]; omega) k1 rfl rfl rfl (by decide) (lst_len q n).symm ?_
  · intro j hj
    rw [Nat.zero_add]
    rw [lst_len] at hj
    exact bf_lst q n j hj
  intro L2 c2 e2 l2 k2
  subst e1
  exact ⟨_, _, [0, 1, 2, 3, 5], ⟨L2, c2, e2, by omega, k2, rfl, rfl⟩, by decide, ⟨rfl, rfl, rfl, rfl, trivial⟩, trivial, ⟨⟨_, rfl, eqvB_refl _⟩, ⟨_, rfl, eqvB_refl _⟩, ⟨_, rfl, eqvB_refl _⟩, ⟨_, rfl, eqvB_refl _⟩, ⟨_, rfl, eqvB_refl _⟩, trivial⟩⟩

/-- In a larger heap. -/
theorem list_k {h : List Blk} {K : EV → List Blk → Prop} (pw pb pv pp k : Nat) {m mb : Bool} {q : Nat → B8} {n cp sp spv size : Nat} {most : Int} {cs : List Seg} {L : List B8} {c : Nat} {pe : EV} (N : Nat) (hN : h.length = N) (hs : 0 < size ∧ size ≤ 8) (hn : n ≤ 1048576) (hL : L.length ≤ 1099511627776) (hc : L.length ≤ c)
    (hw : nthB h pw = some (wb pb L c)) (hb : nthB h pb = some (lb L c)) (hv : nthB h pv = some (.cells m cs spv)) (hp : nthB h pp = some (bblk mb n q sp)) (hne : [pw, pb, pv, pp].Nodup) (hpe : ptrTo pv k pe)
    (hcell : CellAt cs k (.gs pp 0 n cp) cs (.gs pp 0 n cp))
    (hK : ∀ L' c', L' = L ++ le (BitVec.ofNat 64 n) size ++ lst q n → L'.length = L.length + size + n → L'.length ≤ c' →
      forceH (updB (updB (mergeB (updB h pv .dead ++ [.cells m [.one (.gs pp 0 n cp)] 0]) [pw, pb, N, pp] [wb (N + 1) L' c', .dead, .cells m [.one (.gs pp 0 n cp)] 0, bblk mb n q sp, lb L' c']) N .dead) pv (.cells m cs spv)) fun h2 => K (.tuple []) h2) :
    Does TB 187 [.s (.ptr pw 0), pe, .s (.int .i64 size), .s (.int .i64 most)] h K := by
  subst hN
  simp only [List.nodup_cons, List.mem_cons, List.not_mem_nil, or_false, not_or, List.nodup_nil, and_true, not_false_eq_true] at hne
  obtain ⟨⟨n1, n2, n3⟩, ⟨n4, n5⟩, n6⟩ := hne
  have lw := nthB_lt hw
  have lbb := nthB_lt hb
  have lp := nthB_lt hp
  have lN : nthB (updB h pv .dead ++ [Blk.cells m [.one (.gs pp 0 n cp)] 0]) h.length = some (.cells m [.one (.gs pp 0 n cp)] 0) := by
    have := nthB_len (updB h pv .dead) (Blk.cells m [.one (.gs pp 0 n cp)] 0) []
    rwa [len_updB] at this
  refine Does.cell (list_spec m mb q n cp sp size most hs hn L c hL hc) [pw, pb, h.length, pp] pv k h.length rfl hv (Cell.keep hcell) ⟨nthB_app (nthB_upd_ne hw n2), nthB_app (nthB_upd_ne hb n4), lN, nthB_app (nthB_upd_ne hp (Ne.symm n6)), trivial⟩ ⟨.inl ⟨rfl, rfl⟩, ptrTo_part hpe, rfl, rfl, trivial⟩ ?_ ?_ ?_ ?_
  · simp only [List.nodup_cons, List.mem_cons, List.not_mem_nil, or_false, not_or, List.nodup_nil, and_true, not_false_eq_true]
    exact ⟨⟨n1, by omega, n3⟩, ⟨by omega, n5⟩, by omega⟩
  · rintro v h' ⟨L', c', _, _, _, _, rfl⟩
    exact ⟨.inl rfl, .inr (.inl rfl), .inr (.inr rfl), .inr (.inr rfl), .inl rfl, trivial⟩
  · rintro v h' ⟨L', c', _, _, _, _, rfl⟩
    exact Nat.le_succ _
  · rintro v h' ⟨L', c', e1, e2, e3, rfl, rfl⟩
    refine ⟨_, _, ?_, ⟨rfl, rfl⟩, ?_⟩
    · show nthB (updB (updB (updB (updB _ pw _) pb _) h.length _) pp _ ++ _) _ = _
      exact nthB_app (nthB_upd_ne (nthB_upd_eq (nthB_upd_ne (nthB_upd_ne lN (by omega)) (by omega))) (by omega))
    · rw [forceH_eq, forceE_eq]
      have := hK L' c' e1 e2 e3
      rw [forceH_eq] at this
      exact this
end Go.Proofs.Ytghcdkpgcanpgaa

/- The writer goes through all that stands ahead of the RAM. Contract of a function. No condition. -/
namespace Go.Anv
open Go
def manyN (g : Nat → List B8) (L : List B8) : Nat → List B8
  | 0 => L
  | n + 1 => manyN g L n ++ g n
theorem manyN_len {g : Nat → List B8} {L : List B8} {w : Nat} (hg : ∀ i, (g i).length = w) : ∀ n, (manyN g L n).length = L.length + w * n
  | 0 => rfl
  | n + 1 => by
    simp only [manyN, List.length_append, hg, manyN_len hg n, Nat.mul_add, Nat.mul_one]; omega
/-- The bytes of a Cpu behind others. -/
def cpuOn (cp : CpuV) (L : List B8) : List B8 :=
  manyN (fun i => le (cp.addr i) 8) (manyN (fun i => le ((cp.cfg i).setWidth 64) 1) (manyN (fun i => le (cp.x i) 8) (L ++ le cp.pc 8) 32 ++ le (BitVec.ofInt 64 cp.mode) 1 ++ bb cp.waiting ++
    le cp.mstatus 8 ++ le cp.mtvec 8 ++ le cp.mie 8 ++ le cp.mcounteren 8 ++ le cp.mcountinhibit 8 ++ le cp.menvcfg 8 ++ le cp.mscratch 8 ++ le cp.mepc 8 ++ le cp.mcause 8 ++ le cp.mtval 8 ++ le cp.mcycle 8 ++ le cp.minstret 8) 16) 16 ++
    bb cp.rvalid ++ le cp.raddr 8 ++ le (BitVec.ofInt 64 cp.rsize) 1
/-- The bytes of a bus's devices behind others. -/
def devOn (s : BusV) (inp out : Nat → B8) (L : List B8) : List B8 :=
  L ++ le (s.msip.setWidth 64) 4 ++ le s.cmp 8 ++ le s.now 8 ++ bb s.ext ++ bb s.soft ++ le (s.ier.setWidth 64) 1 ++ le (s.lcr.setWidth 64) 1 ++ le (s.mcr.setWidth 64) 1 ++ le (s.scratch.setWidth 64) 1 ++
    bb s.overrun ++ le (BitVec.ofInt 64 s.off) 1 ++ le (BitVec.ofInt 64 s.code) 4 ++ le (BitVec.ofNat 64 s.ni) 1 ++ lst inp s.ni ++ le (BitVec.ofNat 64 s.no) 2 ++ lst out s.no
end Go.Anv
namespace Go.Proofs.Ytghcdkpgcanpgaa
open Go Go.Anv
/-- The whole's cells as 'both' has them; the heap at a loop's head. -/
def wseg (cp : CpuV) (s : BusV) (cr ci co : Nat) : List Seg := wsegs cp s (.gs 5 0 s.nr cr) (.gs 3 0 s.ni ci) (.gs 4 0 s.no co)
def hd (s : BusV) (cp : CpuV) (m0 m1 m2 m3 : Bool) (ram inp out : Nat → B8) (cr ci co s0 s1 s2 s3 : Nat) (L : List B8) (c : Nat) : List Blk :=
  [wb 6 L c, .cells m0 (wseg cp s cr ci co) s0, .dead, bblk m1 s.ni inp s1, bblk m2 s.no out s2, bblk m3 s.nr ram s3, lb L c]
set_option maxRecDepth 100000 in
set_option maxHeartbeats 4000000 in
theorem both_spec (s : BusV) (cp : CpuV) (m0 m1 m2 m3 : Bool) (ram inp out : Nat → B8) (cr ci co s0 s1 s2 s3 : Nat) (L0 : List B8) (c0 : Nat) (b0 : L0.length ≤ 1024) (k0 : L0.length ≤ c0) (hi : s.ni ≤ 64) (ho : s.no ≤ 4096) :
    Does TB 40 [.s (.iface 75 false [.ptr 0 0]), .s (.ptr 1 0)] [wb 2 L0 c0, .cells m0 (wseg cp s cr ci co) s0, lb L0 c0, bblk m1 s.ni inp s1, bblk m2 s.no out s2, bblk m3 s.nr ram s3]
    (fun r h' => ∃ c', (devOn s inp out (cpuOn cp L0)).length ≤ c' ∧ (devOn s inp out (cpuOn cp L0)).length ≤ 16384 ∧ r = .tuple [] ∧ h' = hd s cp m0 m1 m2 m3 ram inp out cr ci co s0 s1 s2 s3 (devOn s inp out (cpuOn cp L0)) c') := by
  refine fnX_does TB Try.func40 rfl (by decide) (fun O on hO => ?_)
  refine draw_but [0, 2] on rfl (fun _ _ h => h) ?_
  refine one_k (le (cp.pc) 8) [] 0 2 1 0 (double_spec m0 (cp.pc)) (fun _ => rfl) (by omega) k0 rfl rfl (by decide) rfl ⟨rfl, rfl⟩ (cell_one rfl rfl) ?_
  intro L1 c1 e1 l1 k1
  have b1 : L1.length ≤ 1032 := by rw [l1]; rw [le_len]; omega
  clear l1 b0 k0
  repeat (refine need_intro rfl ?_)
  refine loop_in (A := Nat × Nat) on (fun i => [(24, .s (.int .i64 (i.1 : Int))), (5, .junk)]) (fun i => hd s cp m0 m1 m2 m3 ram inp out cr ci co s0 s1 s2 s3 (manyN (fun i => le (cp.x i) 8) L1 i.1) i.2) (fun i => i.1 ≤ 32 ∧ (manyN (fun i => le (cp.x i) 8) L1 i.1).length ≤ i.2) (fun i => 32 - i.1) (0, c1) ⟨Nat.zero_le _, k1⟩ [0, 1, 2, 3, 4, 5, 7] ?_ ?_
  · rw [hO]
    refine ⟨by decide, ⟨rfl, rfl, rfl, rfl, rfl, rfl, trivial⟩, ?_, ?_⟩
    · repeat' (first | exact eqvT_nil | refine eqvT_junk ?_ | refine eqvT_same ?_ | refine eqvT_int ?_ ?_)
    · exact ⟨⟨_, rfl, eqvB_refl _⟩, ⟨_, rfl, eqvB_refl _⟩, ⟨_, rfl, eqvB_refl _⟩, ⟨_, rfl, eqvB_refl _⟩, ⟨_, rfl, eqvB_refl _⟩, ⟨_, rfl, eqvB_refl _⟩, ⟨_, rfl, eqvB_refl _⟩, trivial⟩
  rintro ⟨i, cap⟩ ⟨hi1, k2⟩
  replace hi1 : i ≤ 32 := hi1
  replace k2 : (manyN (fun i => le (cp.x i) 8) L1 i).length ≤ cap := k2
  have hm1 : (manyN (fun i => le (cp.x i) 8) L1 i).length = L1.length + 8 * i := manyN_len (fun i => le_len _ _) i
  refine ifB_intro (fun h1 => ?_) (fun h1 => ?_)
  · have h1 : i < 32 := by have h2 := of_decide_eq_true h1; omega
    have hx : (manyN (fun i => le (cp.x i) 8) L1 i ++ le (cp.x i) 8) = manyN (fun i => le (cp.x i) 8) L1 (i + 1) := rfl
    generalize manyN (fun i => le (cp.x i) 8) L1 i = L2 at *
    have b2 : L2.length ≤ 1288 := by omega
    refine draw_but [0, 6] on rfl (fun _ _ h => h) ?_
    refine need_intro ⟨by omega, by omega⟩ ?_
    refine one_k (le (cp.x i) 8) [] 0 6 1 (1 + i) (double_spec m0 (cp.x i)) (fun _ => rfl) (by omega) k2 rfl rfl (by decide) rfl ⟨rfl, rfl⟩ (cell_ints (cs := wseg cp s cr ci co) (o := 1) (j := i) (k := .u64) (n := 32) (f := wfun cp.x) rfl h1) ?_
    intro L3 c3 e3 l3 k3
    have b3 : L3.length ≤ 1296 := by rw [l3]; rw [le_len]; omega
    clear l3 b2 k2
    repeat (refine need_intro rfl ?_)
    refine ⟨(i + 1, c3), ⟨?_, ?_⟩, ?_, [0, 1, 2, 3, 4, 5, 8], ?_⟩
    · show i + 1 ≤ 32; omega
    · show (manyN (fun i => le (cp.x i) 8) L1 (i + 1)).length ≤ c3; rw [← hx, ← e3]; exact k3
    · show 32 - (i + 1) < 32 - i; omega
    · rw [hO]
      refine ⟨by decide, ⟨rfl, rfl, rfl, rfl, rfl, rfl, trivial⟩, ?_, ?_⟩
      · repeat' (first | exact eqvT_nil | refine eqvT_junk ?_ | refine eqvT_same ?_ | refine eqvT_int ?_ ?_)
        all_goals (rw [i64_in (by omega) (by omega)]; rfl)
      · rw [hx] at e3
        subst e3
        exact ⟨⟨_, rfl, eqvB_refl _⟩, ⟨_, rfl, eqvB_refl _⟩, ⟨_, rfl, eqvB_refl _⟩, ⟨_, rfl, eqvB_refl _⟩, ⟨_, rfl, eqvB_refl _⟩, ⟨_, rfl, eqvB_refl _⟩, ⟨_, rfl, eqvB_refl _⟩, trivial⟩
  have h1 : i = 32 := by have h2 := of_decide_eq_false h1; omega
  subst h1
  generalize e2 : manyN (fun i => le (cp.x i) 8) L1 32 = L2 at *
  have b2 : L2.length ≤ 1288 := by omega
  generalize hcap2 : cap = c2 at *
  refine draw_but [0, 6] on rfl (fun _ _ h => h) ?_
  refine one_k (le (BitVec.ofInt 64 cp.mode) 1) [(1 : Int)] 0 6 1 33 (place_spec m0 cp.mode 1 (by decide)) (fun _ => rfl) (by omega) k2 rfl rfl (by decide) rfl ⟨rfl, rfl⟩ (cell_one rfl rfl) ?_
  intro L3 c3 e3 l3 k3
  have b3 : L3.length ≤ 1289 := by rw [l3]; rw [le_len]; omega
  clear l3 b2 k2
  repeat (refine need_intro rfl ?_)
  refine draw_but [0, 8] on rfl (fun _ _ h => h) ?_
  refine one_k (bb cp.waiting) [] 0 8 1 34 (wflag_spec m0 cp.waiting) (fun _ => rfl) (by omega) k3 rfl rfl (by decide) rfl ⟨rfl, rfl⟩ (cell_one rfl rfl) ?_
  intro L4 c4 e4 l4 k4
  have b4 : L4.length ≤ 1290 := by rw [l4]; show _ + 1 ≤ _; omega
  clear l4 b3 k3
  repeat (refine need_intro rfl ?_)
  refine draw_held on rfl (fun _ _ h => h) ?_
  repeat (refine need_intro rfl ?_)
  refine loop_times on 13 ?_
  refine Box.mk ?_
  refine need_intro (by decide) ?_
  refine one_k (le (cp.mstatus) 8) [] 0 10 1 35 (double_spec m0 (cp.mstatus)) (fun _ => rfl) (by omega) k4 rfl rfl (by decide) rfl ⟨rfl, rfl⟩ (cell_one rfl rfl) ?_
  intro L5 c5 e5 l5 k5
  have b5 : L5.length ≤ 1298 := by rw [l5]; rw [le_len]; omega
  clear l5 b4 k4
  refine Box.mk ?_
  refine need_intro (by decide) ?_
  refine one_k (le (cp.mtvec) 8) [] 0 13 1 36 (double_spec m0 (cp.mtvec)) (fun _ => rfl) (by omega) k5 rfl rfl (by decide) rfl ⟨rfl, rfl⟩ (cell_one rfl rfl) ?_
  intro L6 c6 e6 l6 k6
  have b6 : L6.length ≤ 1306 := by rw [l6]; rw [le_len]; omega
  clear l6 b5 k5
  refine Box.mk ?_
  refine need_intro (by decide) ?_
  refine one_k (le (cp.mie) 8) [] 0 15 1 37 (double_spec m0 (cp.mie)) (fun _ => rfl) (by omega) k6 rfl rfl (by decide) rfl ⟨rfl, rfl⟩ (cell_one rfl rfl) ?_
  intro L7 c7 e7 l7 k7
  have b7 : L7.length ≤ 1314 := by rw [l7]; rw [le_len]; omega
  clear l7 b6 k6
  refine Box.mk ?_
  refine need_intro (by decide) ?_
  refine one_k (le (cp.mcounteren) 8) [] 0 17 1 38 (double_spec m0 (cp.mcounteren)) (fun _ => rfl) (by omega) k7 rfl rfl (by decide) rfl ⟨rfl, rfl⟩ (cell_one rfl rfl) ?_
  intro L8 c8 e8 l8 k8
  have b8 : L8.length ≤ 1322 := by rw [l8]; rw [le_len]; omega
  clear l8 b7 k7
  refine Box.mk ?_
  refine need_intro (by decide) ?_
  refine one_k (le (cp.mcountinhibit) 8) [] 0 19 1 39 (double_spec m0 (cp.mcountinhibit)) (fun _ => rfl) (by omega) k8 rfl rfl (by decide) rfl ⟨rfl, rfl⟩ (cell_one rfl rfl) ?_
  intro L9 c9 e9 l9 k9
  have b9 : L9.length ≤ 1330 := by rw [l9]; rw [le_len]; omega
  clear l9 b8 k8
  refine Box.mk ?_
  refine need_intro (by decide) ?_
  refine one_k (le (cp.menvcfg) 8) [] 0 21 1 40 (double_spec m0 (cp.menvcfg)) (fun _ => rfl) (by omega) k9 rfl rfl (by decide) rfl ⟨rfl, rfl⟩ (cell_one rfl rfl) ?_
  intro L10 c10 e10 l10 k10
  have b10 : L10.length ≤ 1338 := by rw [l10]; rw [le_len]; omega
  clear l10 b9 k9
  refine Box.mk ?_
  refine need_intro (by decide) ?_
  refine one_k (le (cp.mscratch) 8) [] 0 23 1 41 (double_spec m0 (cp.mscratch)) (fun _ => rfl) (by omega) k10 rfl rfl (by decide) rfl ⟨rfl, rfl⟩ (cell_one rfl rfl) ?_
  intro L11 c11 e11 l11 k11
  have b11 : L11.length ≤ 1346 := by rw [l11]; rw [le_len]; omega
  clear l11 b10 k10
  refine Box.mk ?_
  refine need_intro (by decide) ?_
  refine one_k (le (cp.mepc) 8) [] 0 25 1 42 (double_spec m0 (cp.mepc)) (fun _ => rfl) (by omega) k11 rfl rfl (by decide) rfl ⟨rfl, rfl⟩ (cell_one rfl rfl) ?_
  intro L12 c12 e12 l12 k12
  have b12 : L12.length ≤ 1354 := by rw [l12]; rw [le_len]; omega
  clear l12 b11 k11
  refine Box.mk ?_
  refine need_intro (by decide) ?_
  refine one_k (le (cp.mcause) 8) [] 0 27 1 43 (double_spec m0 (cp.mcause)) (fun _ => rfl) (by omega) k12 rfl rfl (by decide) rfl ⟨rfl, rfl⟩ (cell_one rfl rfl) ?_
  intro L13 c13 e13 l13 k13
  have b13 : L13.length ≤ 1362 := by rw [l13]; rw [le_len]; omega
  clear l13 b12 k12
  refine Box.mk ?_
  refine need_intro (by decide) ?_
  refine one_k (le (cp.mtval) 8) [] 0 29 1 44 (double_spec m0 (cp.mtval)) (fun _ => rfl) (by omega) k13 rfl rfl (by decide) rfl ⟨rfl, rfl⟩ (cell_one rfl rfl) ?_
  intro L14 c14 e14 l14 k14
  have b14 : L14.length ≤ 1370 := by rw [l14]; rw [le_len]; omega
  clear l14 b13 k13
  refine Box.mk ?_
  refine need_intro (by decide) ?_
  refine one_k (le (cp.mcycle) 8) [] 0 31 1 45 (double_spec m0 (cp.mcycle)) (fun _ => rfl) (by omega) k14 rfl rfl (by decide) rfl ⟨rfl, rfl⟩ (cell_one rfl rfl) ?_
  intro L15 c15 e15 l15 k15
  have b15 : L15.length ≤ 1378 := by rw [l15]; rw [le_len]; omega
  clear l15 b14 k14
  refine Box.mk ?_
  refine need_intro (by decide) ?_
  refine one_k (le (cp.minstret) 8) [] 0 33 1 46 (double_spec m0 (cp.minstret)) (fun _ => rfl) (by omega) k15 rfl rfl (by decide) rfl ⟨rfl, rfl⟩ (cell_one rfl rfl) ?_
  intro L16 c16 e16 l16 k16
  have b16 : L16.length ≤ 1386 := by rw [l16]; rw [le_len]; omega
  clear l16 b15 k15
  refine Box.mk ?_
  refine loop_in (A := Nat × Nat) on (fun i => [(100, .s (.int .i64 (i.1 : Int))), (8, .junk), (90, .junk), (94, .junk)]) (fun i => hd s cp m0 m1 m2 m3 ram inp out cr ci co s0 s1 s2 s3 (manyN (fun i => le ((cp.cfg i).setWidth 64) 1) L16 i.1) i.2) (fun i => i.1 ≤ 16 ∧ (manyN (fun i => le ((cp.cfg i).setWidth 64) 1) L16 i.1).length ≤ i.2) (fun i => 16 - i.1) (0, c16) ⟨Nat.zero_le _, k16⟩ [0, 1, 2, 3, 4, 5, 35] ?_ ?_
  · rw [hO]
    refine ⟨by decide, ⟨rfl, rfl, rfl, rfl, rfl, rfl, trivial⟩, ?_, ?_⟩
    · repeat' (first | exact eqvT_nil | refine eqvT_junk ?_ | refine eqvT_same ?_ | refine eqvT_int ?_ ?_)
    · exact ⟨⟨_, rfl, eqvB_refl _⟩, ⟨_, rfl, eqvB_refl _⟩, ⟨_, rfl, eqvB_refl _⟩, ⟨_, rfl, eqvB_refl _⟩, ⟨_, rfl, eqvB_refl _⟩, ⟨_, rfl, eqvB_refl _⟩, ⟨_, rfl, eqvB_refl _⟩, trivial⟩
  rintro ⟨i, cap⟩ ⟨hi16, k17⟩
  replace hi16 : i ≤ 16 := hi16
  replace k17 : (manyN (fun i => le ((cp.cfg i).setWidth 64) 1) L16 i).length ≤ cap := k17
  have hm16 : (manyN (fun i => le ((cp.cfg i).setWidth 64) 1) L16 i).length = L16.length + 1 * i := manyN_len (fun i => le_len _ _) i
  refine ifB_intro (fun h1 => ?_) (fun h1 => ?_)
  · have h1 : i < 16 := by have h2 := of_decide_eq_true h1; omega
    have hx : (manyN (fun i => le ((cp.cfg i).setWidth 64) 1) L16 i ++ le ((cp.cfg i).setWidth 64) 1) = manyN (fun i => le ((cp.cfg i).setWidth 64) 1) L16 (i + 1) := rfl
    generalize manyN (fun i => le ((cp.cfg i).setWidth 64) 1) L16 i = L17 at *
    have b17 : L17.length ≤ 1402 := by omega
    refine draw_but [0, 6] on rfl (fun _ _ h => h) ?_
    refine need_intro ⟨by omega, by omega⟩ ?_
    refine one_k (le ((cp.cfg i).setWidth 64) 1) [] 0 6 1 (47 + i) (octet_spec m0 (cp.cfg i)) (fun _ => rfl) (by omega) k17 rfl rfl (by decide) rfl ⟨rfl, rfl⟩ (cell_ints (cs := wseg cp s cr ci co) (o := 47) (j := i) (k := .u8) (n := 16) (f := bfun cp.cfg) rfl h1) ?_
    intro L18 c18 e18 l18 k18
    have b18 : L18.length ≤ 1403 := by rw [l18]; rw [le_len]; omega
    clear l18 b17 k17
    repeat (refine need_intro rfl ?_)
    refine ⟨(i + 1, c18), ⟨?_, ?_⟩, ?_, [0, 1, 2, 3, 4, 5, 8], ?_⟩
    · show i + 1 ≤ 16; omega
    · show (manyN (fun i => le ((cp.cfg i).setWidth 64) 1) L16 (i + 1)).length ≤ c18; rw [← hx, ← e18]; exact k18
    · show 16 - (i + 1) < 16 - i; omega
    · rw [hO]
      refine ⟨by decide, ⟨rfl, rfl, rfl, rfl, rfl, rfl, trivial⟩, ?_, ?_⟩
      · repeat' (first | exact eqvT_nil | refine eqvT_junk ?_ | refine eqvT_same ?_ | refine eqvT_int ?_ ?_)
        all_goals (rw [i64_in (by omega) (by omega)]; rfl)
      · rw [hx] at e18
        subst e18
        exact ⟨⟨_, rfl, eqvB_refl _⟩, ⟨_, rfl, eqvB_refl _⟩, ⟨_, rfl, eqvB_refl _⟩, ⟨_, rfl, eqvB_refl _⟩, ⟨_, rfl, eqvB_refl _⟩, ⟨_, rfl, eqvB_refl _⟩, ⟨_, rfl, eqvB_refl _⟩, trivial⟩
  have h1 : i = 16 := by have h2 := of_decide_eq_false h1; omega
  subst h1
  generalize e17 : manyN (fun i => le ((cp.cfg i).setWidth 64) 1) L16 16 = L17 at *
  have b17 : L17.length ≤ 1402 := by omega
  generalize hcap17 : cap = c17 at *
  refine loop_in (A := Nat × Nat) on (fun i => [(115, .s (.int .i64 (i.1 : Int))), (9, .junk)]) (fun i => hd s cp m0 m1 m2 m3 ram inp out cr ci co s0 s1 s2 s3 (manyN (fun i => le (cp.addr i) 8) L17 i.1) i.2) (fun i => i.1 ≤ 16 ∧ (manyN (fun i => le (cp.addr i) 8) L17 i.1).length ≤ i.2) (fun i => 16 - i.1) (0, c17) ⟨Nat.zero_le _, k17⟩ [0, 1, 2, 3, 4, 5, 6] ?_ ?_
  · rw [hO]
    refine ⟨by decide, ⟨rfl, rfl, rfl, rfl, rfl, rfl, trivial⟩, ?_, ?_⟩
    · repeat' (first | exact eqvT_nil | refine eqvT_junk ?_ | refine eqvT_same ?_ | refine eqvT_int ?_ ?_)
    · exact ⟨⟨_, rfl, eqvB_refl _⟩, ⟨_, rfl, eqvB_refl _⟩, ⟨_, rfl, eqvB_refl _⟩, ⟨_, rfl, eqvB_refl _⟩, ⟨_, rfl, eqvB_refl _⟩, ⟨_, rfl, eqvB_refl _⟩, ⟨_, rfl, eqvB_refl _⟩, trivial⟩
  rintro ⟨i, cap⟩ ⟨hi17, k18⟩
  replace hi17 : i ≤ 16 := hi17
  replace k18 : (manyN (fun i => le (cp.addr i) 8) L17 i).length ≤ cap := k18
  have hm17 : (manyN (fun i => le (cp.addr i) 8) L17 i).length = L17.length + 8 * i := manyN_len (fun i => le_len _ _) i
  refine ifB_intro (fun h1 => ?_) (fun h1 => ?_)
  · have h1 : i < 16 := by have h2 := of_decide_eq_true h1; omega
    have hx : (manyN (fun i => le (cp.addr i) 8) L17 i ++ le (cp.addr i) 8) = manyN (fun i => le (cp.addr i) 8) L17 (i + 1) := rfl
    generalize manyN (fun i => le (cp.addr i) 8) L17 i = L18 at *
    have b18 : L18.length ≤ 1530 := by omega
    refine draw_but [0, 6] on rfl (fun _ _ h => h) ?_
    refine need_intro ⟨by omega, by omega⟩ ?_
    refine one_k (le (cp.addr i) 8) [] 0 6 1 (63 + i) (double_spec m0 (cp.addr i)) (fun _ => rfl) (by omega) k18 rfl rfl (by decide) rfl ⟨rfl, rfl⟩ (cell_ints (cs := wseg cp s cr ci co) (o := 63) (j := i) (k := .u64) (n := 16) (f := wfun cp.addr) rfl h1) ?_
    intro L19 c19 e19 l19 k19
    have b19 : L19.length ≤ 1538 := by rw [l19]; rw [le_len]; omega
    clear l19 b18 k18
    repeat (refine need_intro rfl ?_)
    refine ⟨(i + 1, c19), ⟨?_, ?_⟩, ?_, [0, 1, 2, 3, 4, 5, 8], ?_⟩
    · show i + 1 ≤ 16; omega
    · show (manyN (fun i => le (cp.addr i) 8) L17 (i + 1)).length ≤ c19; rw [← hx, ← e19]; exact k19
    · show 16 - (i + 1) < 16 - i; omega
    · rw [hO]
      refine ⟨by decide, ⟨rfl, rfl, rfl, rfl, rfl, rfl, trivial⟩, ?_, ?_⟩
      · repeat' (first | exact eqvT_nil | refine eqvT_junk ?_ | refine eqvT_same ?_ | refine eqvT_int ?_ ?_)
        all_goals (rw [i64_in (by omega) (by omega)]; rfl)
      · rw [hx] at e19
        subst e19
        exact ⟨⟨_, rfl, eqvB_refl _⟩, ⟨_, rfl, eqvB_refl _⟩, ⟨_, rfl, eqvB_refl _⟩, ⟨_, rfl, eqvB_refl _⟩, ⟨_, rfl, eqvB_refl _⟩, ⟨_, rfl, eqvB_refl _⟩, ⟨_, rfl, eqvB_refl _⟩, trivial⟩
  have h1 : i = 16 := by have h2 := of_decide_eq_false h1; omega
  subst h1
  generalize e18 : manyN (fun i => le (cp.addr i) 8) L17 16 = L18 at *
  have b18 : L18.length ≤ 1530 := by omega
  generalize hcap18 : cap = c18 at *
  refine draw_but [0, 6] on rfl (fun _ _ h => h) ?_
  refine one_k (bb cp.rvalid) [] 0 6 1 79 (wflag_spec m0 cp.rvalid) (fun _ => rfl) (by omega) k18 rfl rfl (by decide) rfl ⟨rfl, rfl⟩ (cell_one rfl rfl) ?_
  intro L19 c19 e19 l19 k19
  have b19 : L19.length ≤ 1531 := by rw [l19]; show _ + 1 ≤ _; omega
  clear l19 b18 k18
  repeat (refine need_intro rfl ?_)
  refine draw_but [0, 8] on rfl (fun _ _ h => h) ?_
  refine one_k (le (cp.raddr) 8) [] 0 8 1 80 (double_spec m0 (cp.raddr)) (fun _ => rfl) (by omega) k19 rfl rfl (by decide) rfl ⟨rfl, rfl⟩ (cell_one rfl rfl) ?_
  intro L20 c20 e20 l20 k20
  have b20 : L20.length ≤ 1539 := by rw [l20]; rw [le_len]; omega
  clear l20 b19 k19
  repeat (refine need_intro rfl ?_)
  refine draw_but [0, 10] on rfl (fun _ _ h => h) ?_
  refine one_k (le (BitVec.ofInt 64 cp.rsize) 1) [(1 : Int)] 0 10 1 81 (place_spec m0 cp.rsize 1 (by decide)) (fun _ => rfl) (by omega) k20 rfl rfl (by decide) rfl ⟨rfl, rfl⟩ (cell_one rfl rfl) ?_
  intro L21 c21 e21 l21 k21
  have b21 : L21.length ≤ 1540 := by rw [l21]; rw [le_len]; omega
  clear l21 b20 k20
  repeat (refine need_intro rfl ?_)
  refine draw_but [0, 12] on rfl (fun _ _ h => h) ?_
  refine one_k (le (s.msip.setWidth 64) 4) [] 0 12 1 83 (word_spec m0 s.msip) (fun _ => rfl) (by omega) k21 rfl rfl (by decide) rfl ⟨rfl, rfl⟩ (cell_one rfl rfl) ?_
  intro L22 c22 e22 l22 k22
  have b22 : L22.length ≤ 1544 := by rw [l22]; rw [le_len]; omega
  clear l22 b21 k21
  repeat (refine need_intro rfl ?_)
  refine draw_but [0, 14] on rfl (fun _ _ h => h) ?_
  refine one_k (le (s.cmp) 8) [] 0 14 1 84 (double_spec m0 (s.cmp)) (fun _ => rfl) (by omega) k22 rfl rfl (by decide) rfl ⟨rfl, rfl⟩ (cell_one rfl rfl) ?_
  intro L23 c23 e23 l23 k23
  have b23 : L23.length ≤ 1552 := by rw [l23]; rw [le_len]; omega
  clear l23 b22 k22
  repeat (refine need_intro rfl ?_)
  refine draw_but [0, 16] on rfl (fun _ _ h => h) ?_
  refine one_k (le (s.now) 8) [] 0 16 1 85 (double_spec m0 (s.now)) (fun _ => rfl) (by omega) k23 rfl rfl (by decide) rfl ⟨rfl, rfl⟩ (cell_one rfl rfl) ?_
  intro L24 c24 e24 l24 k24
  have b24 : L24.length ≤ 1560 := by rw [l24]; rw [le_len]; omega
  clear l24 b23 k23
  repeat (refine need_intro rfl ?_)
  refine draw_but [0, 18] on rfl (fun _ _ h => h) ?_
  refine one_k (bb s.ext) [] 0 18 1 86 (wflag_spec m0 s.ext) (fun _ => rfl) (by omega) k24 rfl rfl (by decide) rfl ⟨rfl, rfl⟩ (cell_one rfl rfl) ?_
  intro L25 c25 e25 l25 k25
  have b25 : L25.length ≤ 1561 := by rw [l25]; show _ + 1 ≤ _; omega
  clear l25 b24 k24
  repeat (refine need_intro rfl ?_)
  refine draw_but [0, 20] on rfl (fun _ _ h => h) ?_
  refine one_k (bb s.soft) [] 0 20 1 87 (wflag_spec m0 s.soft) (fun _ => rfl) (by omega) k25 rfl rfl (by decide) rfl ⟨rfl, rfl⟩ (cell_one rfl rfl) ?_
  intro L26 c26 e26 l26 k26
  have b26 : L26.length ≤ 1562 := by rw [l26]; show _ + 1 ≤ _; omega
  clear l26 b25 k25
  repeat (refine need_intro rfl ?_)
  refine draw_held on rfl (fun _ _ h => h) ?_
  repeat (refine need_intro rfl ?_)
  refine loop_times on 5 ?_
  refine Box.mk ?_
  refine need_intro (by decide) ?_
  refine one_k (le ((s.ier).setWidth 64) 1) [] 0 22 1 88 (octet_spec m0 (s.ier)) (fun _ => rfl) (by omega) k26 rfl rfl (by decide) rfl ⟨rfl, rfl⟩ (cell_one rfl rfl) ?_
  intro L27 c27 e27 l27 k27
  have b27 : L27.length ≤ 1563 := by rw [l27]; rw [le_len]; omega
  clear l27 b26 k26
  refine Box.mk ?_
  refine need_intro (by decide) ?_
  refine one_k (le ((s.lcr).setWidth 64) 1) [] 0 25 1 89 (octet_spec m0 (s.lcr)) (fun _ => rfl) (by omega) k27 rfl rfl (by decide) rfl ⟨rfl, rfl⟩ (cell_one rfl rfl) ?_
  intro L28 c28 e28 l28 k28
  have b28 : L28.length ≤ 1564 := by rw [l28]; rw [le_len]; omega
  clear l28 b27 k27
  refine Box.mk ?_
  refine need_intro (by decide) ?_
  refine one_k (le ((s.mcr).setWidth 64) 1) [] 0 27 1 90 (octet_spec m0 (s.mcr)) (fun _ => rfl) (by omega) k28 rfl rfl (by decide) rfl ⟨rfl, rfl⟩ (cell_one rfl rfl) ?_
  intro L29 c29 e29 l29 k29
  have b29 : L29.length ≤ 1565 := by rw [l29]; rw [le_len]; omega
  clear l29 b28 k28
  refine Box.mk ?_
  refine need_intro (by decide) ?_
  refine one_k (le ((s.scratch).setWidth 64) 1) [] 0 29 1 91 (octet_spec m0 (s.scratch)) (fun _ => rfl) (by omega) k29 rfl rfl (by decide) rfl ⟨rfl, rfl⟩ (cell_one rfl rfl) ?_
  intro L30 c30 e30 l30 k30
  have b30 : L30.length ≤ 1566 := by rw [l30]; rw [le_len]; omega
  clear l30 b29 k29
  refine Box.mk ?_
  refine draw_but [0, 31] on rfl (fun _ _ h => h) ?_
  refine one_k (bb s.overrun) [] 0 31 1 92 (wflag_spec m0 s.overrun) (fun _ => rfl) (by omega) k30 rfl rfl (by decide) rfl ⟨rfl, rfl⟩ (cell_one rfl rfl) ?_
  intro L31 c31 e31 l31 k31
  have b31 : L31.length ≤ 1567 := by rw [l31]; show _ + 1 ≤ _; omega
  clear l31 b30 k30
  repeat (refine need_intro rfl ?_)
  refine draw_but [0, 33] on rfl (fun _ _ h => h) ?_
  refine one_k (le (BitVec.ofInt 64 s.off) 1) [(1 : Int)] 0 33 1 95 (place_spec m0 s.off 1 (by decide)) (fun _ => rfl) (by omega) k31 rfl rfl (by decide) rfl ⟨rfl, rfl⟩ (cell_one rfl rfl) ?_
  intro L32 c32 e32 l32 k32
  have b32 : L32.length ≤ 1568 := by rw [l32]; rw [le_len]; omega
  clear l32 b31 k31
  repeat (refine need_intro rfl ?_)
  refine draw_but [0, 35] on rfl (fun _ _ h => h) ?_
  refine one_k (le (BitVec.ofInt 64 s.code) 4) [(4 : Int)] 0 35 1 96 (place_spec m0 s.code 4 (by decide)) (fun _ => rfl) (by omega) k32 rfl rfl (by decide) rfl ⟨rfl, rfl⟩ (cell_one rfl rfl) ?_
  intro L33 c33 e33 l33 k33
  have b33 : L33.length ≤ 1572 := by rw [l33]; rw [le_len]; omega
  clear l33 b32 k32
  repeat (refine need_intro rfl ?_)
  refine draw_but [0, 37] on rfl (fun _ _ h => h) ?_
  refine list_k (size := 1) (mb := m1) (q := inp) (sp := s1) 0 37 1 3 93 38 rfl (by decide) (by omega) (by omega) k33 rfl rfl rfl rfl (by decide) ⟨rfl, rfl⟩ (cell_one rfl rfl) ?_
  intro L34 c34 e34 l34 k34
  have b34 : L34.length ≤ 1637 := by omega
  clear l34 b33 k33
  repeat (refine need_intro rfl ?_)
  refine draw_but [0, 39] on rfl (fun _ _ h => h) ?_
  refine list_k (size := 2) (mb := m2) (q := out) (sp := s2) 0 39 1 4 94 40 rfl (by decide) (by omega) (by omega) k34 rfl rfl rfl rfl (by decide) ⟨rfl, rfl⟩ (cell_one rfl rfl) ?_
  intro L35 c35 e35 l35 k35
  have b35 : L35.length ≤ 5735 := by omega
  clear l35 b34 k34
  repeat (refine need_intro rfl ?_)
  have ef : L35 = devOn s inp out (cpuOn cp L0) := by
    subst e35 e34 e33 e32 e31 e30 e29 e28 e27 e26 e25 e24 e23 e22 e21 e20 e19 e18 e17 e16 e15 e14 e13 e12 e11 e10 e9 e8 e7 e6 e5 e4 e3 e2 e1
    rfl
  rw [← ef]
  refine ⟨_, _, [0, 1, 2, 3, 4, 5, 41], ⟨c35, k35, by omega, rfl, rfl⟩, by decide, ⟨rfl, rfl, rfl, rfl, rfl, rfl, trivial⟩, trivial, ?_⟩
  exact ⟨⟨_, rfl, eqvB_refl _⟩, ⟨_, rfl, eqvB_refl _⟩, ⟨_, rfl, eqvB_refl _⟩, ⟨_, rfl, eqvB_refl _⟩, ⟨_, rfl, eqvB_refl _⟩, ⟨_, rfl, eqvB_refl _⟩, ⟨_, rfl, eqvB_refl _⟩, trivial⟩
end Go.Proofs.Ytghcdkpgcanpgaa

/- The reference's number, flag and list of bytes: contracts that go on. No condition. -/
namespace Go.Anv
open Go
theorem le_one (b : B8) : le (b.setWidth 64) 1 = [b] := by
  simp only [le, List.nil_append, Nat.mul_zero]
  congr 1
  apply BitVec.eq_of_toNat_eq
  have := b.isLt
  simp
end Go.Anv
namespace Go.Proofs.Ytghcdkpgcanpgaa
open Go Go.Anv
theorem num_k {h : List Blk} {K : EV → List Blk → Prop} (pb : Nat) {L : List B8} {c : Nat} {x : Int} (v : BitVec 64) (n : Nat) (hx : x = v.toNat) (hn : 0 < n ∧ n ≤ 8) (hL : L.length ≤ 70368744177664) (hc : L.length ≤ c)
    {nl : Nat} (hnl : nl = L.length) (hb : nthB h pb = some (lb L c))
    (hK : ∀ L' c', L' = L ++ le v n → L'.length = L.length + n → L'.length ≤ c' → lenK h 0 fun N => updBK h pb .dead fun h2 => appBK h2 [lb L' c'] fun h3 => K (.s (.gs N 0 L'.length c')) h3) :
    Does TB 50 [.s (.gs pb 0 nl c), .s (.int .u64 x), .s (.int .i64 n)] h K := by
  subst hnl
  obtain ⟨n, rfl⟩ : ∃ m, n = m + 1 := ⟨n - 1, by omega⟩
  subst hx
  refine Does.at (num_spec L c v (n + 1) hL hn.2 hc) [pb] rfl ⟨hb, trivial⟩ (by simp) ?_ ?_
  · rintro v h' ⟨c', _, _, rfl⟩
    exact ⟨.inr (.inl rfl), .inl rfl, trivial⟩
  · rintro v' h' ⟨c', h1, rfl, rfl⟩
    have hl : (L ++ le v (n + 1)).length = L.length + (n + 1) := by rw [List.length_append, le_len]
    have := hK _ c' rfl hl (by rw [hl]; exact h1)
    rw [lenK_eq, updBK_eq, appBK_eq, Nat.zero_add] at this
    rw [forceH_eq, forceE_eq]
    exact this
theorem flag_k {h : List Blk} {K : EV → List Blk → Prop} (pb : Nat) {L : List B8} {c : Nat} (b : Bool) (hL : L.length ≤ 70368744177664) (hc : L.length ≤ c)
    {nl : Nat} (hnl : nl = L.length) (hb : nthB h pb = some (lb L c))
    (hK : ∀ L' c', L' = L ++ bb b → L'.length = L.length + 1 → L'.length ≤ c' → lenK h 0 fun N => updBK h pb .dead fun h2 => appBK h2 [lb L' c'] fun h3 => K (.s (.gs N 0 L'.length c')) h3) :
    Does TB 82 [.s (.gs pb 0 nl c), .s (.bool b)] h K := by
  subst hnl
  refine Does.at (flag_spec L c b hL hc) [pb] rfl ⟨hb, trivial⟩ (by simp) ?_ ?_
  · rintro v h' ⟨c', _, _, rfl⟩
    exact ⟨.inr (.inl rfl), .inl rfl, trivial⟩
  · rintro v' h' ⟨c', h1, rfl, rfl⟩
    have hl : (L ++ bb b).length = L.length + 1 := by rw [List.length_append]; rfl
    have := hK _ c' rfl hl h1
    rw [lenK_eq, updBK_eq, appBK_eq, Nat.zero_add] at this
    rw [forceH_eq, forceE_eq]
    exact this
/-- What is handed back after an append, as bytes. -/
theorem lb_eqv (L Y : List B8) (c : Nat) {n m z : Nat} {f g : Nat → Int} (hn : n = L.length) (hm : m = Y.length) (hz : z = c - (L.length + Y.length)) (hf : ∀ j, j < n → f j = bf L j) (hg : ∀ j, j < m → g j = bf Y j) :
    eqvB (.cells true [.ints .u8 (n + m) (catF n f g)] z) (lb (L ++ Y) c) := by
  subst hn; subst hm; subst hz
  refine ⟨rfl, by rw [List.length_append], ⟨rfl, by rw [List.length_append], ?_⟩, trivial⟩
  exact bf_append L Y rfl rfl hf hg
theorem lb_mk (L Y : List B8) (c : Nat) {n m z : Nat} {f g : Nat → Int} (hn : n = L.length) (hm : m = Y.length) (hz : z = c - (L.length + Y.length)) (hf : f = bf L) (hg : g = bf Y) :
    Blk.cells true [.ints .u8 (n + m) (catF n f g)] z = lb (L ++ Y) c := by
  subst hn; subst hm; subst hz; subst hf; subst hg
  have e : catF L.length (bf L) (bf Y) = bf (L ++ Y) := by
    funext j
    unfold catF
    split
    · rename_i h
      simp [bf, List.getD_eq_getElem?_getD, List.getElem?_append_left h]
    · rename_i h
      simp [bf, List.getD_eq_getElem?_getD, List.getElem?_append_right (Nat.le_of_not_lt h)]
  rw [e, lb, List.length_append]
theorem bf_lit (Y : List B8) : shf 0 (litF (Y.map fun b => (b.toNat : Int))) = bf Y := by
  have key : ∀ (Y : List B8) (j : Nat), litF (Y.map fun b => (b.toNat : Int)) j = bf Y j := fun Y => by
    induction Y with
    | nil => intro j; rfl
    | cons y Y ih =>
      intro j
      cases j with
      | zero => rfl
      | succ j => exact ih j
  funext j
  show litF _ (0 + j) = _
  rw [Nat.zero_add, key]
/-- Nothing stands behind the end. -/
def ends (q : Nat → B8) (n : Nat) : Prop := ∀ j, n ≤ j → q j = 0#8
theorem bf_ends {q : Nat → B8} {n : Nat} (h : ends q n) : bfun q = bf (lst q n) := by
  funext j
  rcases Nat.lt_or_ge j n with h1 | h1
  · exact bf_lst q n j h1
  · simp only [bfun, bf, lst]
    rw [h j h1, List.getD_eq_getElem?_getD, List.getElem?_eq_none (by simpa using h1)]
    rfl
end Go.Proofs.Ytghcdkpgcanpgaa

/- The reference's Cpu and devices in a snapshot. Contracts of functions. No condition. -/
namespace Go.Anv
open Go
/-- The twelve registers. -/
def csrs (cp : CpuV) : List B64 := [cp.mstatus, cp.mtvec, cp.mie, cp.mcounteren, cp.mcountinhibit, cp.menvcfg, cp.mscratch, cp.mepc, cp.mcause, cp.mtval, cp.mcycle, cp.minstret]
theorem csrs_get (cp : CpuV) {i : Nat} (h : i < 12) : litF ((csrs cp).map fun v => (v.toNat : Int)) i = (((csrs cp).getD i 0#64).toNat : Int) := by
  match i, h with
  | 0, _ => rfl
  | 1, _ => rfl
  | 2, _ => rfl
  | 3, _ => rfl
  | 4, _ => rfl
  | 5, _ => rfl
  | 6, _ => rfl
  | 7, _ => rfl
  | 8, _ => rfl
  | 9, _ => rfl
  | 10, _ => rfl
  | 11, _ => rfl
end Go.Anv
namespace Go.Proofs.Ytghcdkpgcanpgaa
open Go Go.Anv
set_option maxRecDepth 100000 in
set_option maxHeartbeats 4000000 in
theorem rcpu_spec (cp : CpuV) (L0 : List B8) (c0 : Nat) (b0 : L0.length ≤ 1024) (k0 : L0.length ≤ c0) :
    Does TB 46 [.s (.gs 0 0 L0.length c0), .agg cp.segs] [lb L0 c0] (fun r h' => ∃ c', (cpuOn cp L0).length ≤ c' ∧ (cpuOn cp L0).length ≤ 2048 ∧ r = .s (.gs 1 0 (cpuOn cp L0).length c') ∧ h' = [.dead, lb (cpuOn cp L0) c']) := by
  refine fnX_does TB Try.func46 rfl (by decide) (fun O on hO => ?_)
  refine num_k 0 (L := L0) (cp.pc) 8 (rfl) (by decide) (by omega) k0 rfl rfl ?_
  intro L1 c1 e1 l1 k1
  have b1 : L1.length ≤ 1032 := by omega
  clear l1 b0 k0
  refine loop_in (A := Nat × Nat) on (fun i => [(0, .s (.gs 2 0 (manyN (fun i => le (cp.x i) 8) L1 i.1).length i.2)), (5, .s (.int .i64 (i.1 : Int))), (10, .junk), (11, .junk), (12, .junk), (13, .junk)]) (fun i => [.dead, .cells true cp.segs 0, lb (manyN (fun i => le (cp.x i) 8) L1 i.1) i.2]) (fun i => i.1 ≤ 32 ∧ (manyN (fun i => le (cp.x i) 8) L1 i.1).length ≤ i.2) (fun i => 32 - i.1) (0, c1) ⟨Nat.zero_le _, k1⟩ [0, 1, 2] ?_ ?_
  · rw [hO]
    refine ⟨by decide, ⟨rfl, trivial⟩, ?_, ?_⟩
    · repeat' (first | exact eqvT_nil | refine eqvT_junk ?_ | refine eqvT_same ?_ | refine eqvT_int ?_ ?_)
    · exact ⟨⟨_, rfl, eqvB_refl _⟩, ⟨_, rfl, eqvB_refl _⟩, ⟨_, rfl, eqvB_refl _⟩, trivial⟩
  rintro ⟨i, cap⟩ ⟨hi1, k2⟩
  replace hi1 : i ≤ 32 := hi1
  replace k2 : (manyN (fun i => le (cp.x i) 8) L1 i).length ≤ cap := k2
  have hm1 : (manyN (fun i => le (cp.x i) 8) L1 i).length = L1.length + 8 * i := manyN_len (fun i => le_len _ _) i
  refine ifB_intro (fun h1 => ?_) (fun h1 => ?_)
  · have hlt : i < 32 := by have h2 := of_decide_eq_true h1; omega
    have hx : (manyN (fun i => le (cp.x i) 8) L1 i ++ le (cp.x i) 8) = manyN (fun i => le (cp.x i) 8) L1 (i + 1) := rfl
    generalize manyN (fun i => le (cp.x i) 8) L1 i = L2 at *
    generalize cap = c2 at *
    have b2 : L2.length ≤ 1288 := by omega
    refine need_intro ⟨by omega, by omega⟩ ?_
    refine need_intro (by omega) ?_
    refine num_k 2 (L := L2) (cp.x i) 8 (rfl) (by decide) (by omega) k2 rfl rfl ?_
    intro L3 c3 e3 l3 k3
    have b3 : L3.length ≤ 1296 := by omega
    clear l3 b2 k2
    refine ⟨(i + 1, c3), ⟨?_, ?_⟩, ?_, [0, 1, 3], ?_⟩
    · show i + 1 ≤ 32; omega
    · show (manyN (fun i => le (cp.x i) 8) L1 (i + 1)).length ≤ c3; rw [← hx, ← e3]; exact k3
    · show 32 - (i + 1) < 32 - i; omega
    · rw [hx] at e3
      subst e3
      rw [hO]
      refine ⟨by decide, ⟨rfl, trivial⟩, ?_, ?_⟩
      · repeat' (first | exact eqvT_nil | refine eqvT_junk ?_ | refine eqvT_same ?_ | refine eqvT_int ?_ ?_)
        all_goals (rw [i64_in (by omega) (by omega)]; rfl)
      · exact ⟨⟨_, rfl, eqvB_refl _⟩, ⟨_, rfl, eqvB_refl _⟩, ⟨_, rfl, eqvB_refl _⟩, trivial⟩
  have h1 : i = 32 := by have h2 := of_decide_eq_false h1; omega
  subst h1
  generalize e2 : manyN (fun i => le (cp.x i) 8) L1 32 = L2 at *
  have b2 : L2.length ≤ 1288 := by omega
  generalize hcap2 : cap = c2 at *
  refine num_k 2 (L := L2) (BitVec.ofInt 64 cp.mode) 1 (wrap_u64 _) (by decide) (by omega) k2 rfl rfl ?_
  intro L3 c3 e3 l3 k3
  have b3 : L3.length ≤ 1289 := by omega
  clear l3 b2 k2
  refine flag_k 3 (L := L3) (cp.waiting) (by omega) k3 rfl rfl ?_
  intro L4 c4 e4 l4 k4
  have b4 : L4.length ≤ 1290 := by omega
  clear l4 b3 k3
  refine loop_in (A := Nat × Nat) on (fun i => [(0, .s (.gs 3 0 (manyN (fun i => le ((csrs cp).getD i 0#64) 8) L4 i.1).length i.2)), (6, .s (.slice 2 0 12 12)), (7, .s (.int .i64 (i.1 : Int))), (10, .junk), (11, .junk), (12, .junk), (13, .junk), (14, .junk), (15, .junk), (16, .junk), (17, .junk), (18, .junk), (19, .junk), (20, .junk), (21, .junk), (22, .junk), (23, .junk), (24, .junk), (25, .junk), (26, .junk), (27, .junk), (28, .junk), (29, .junk), (30, .junk), (31, .junk), (32, .junk), (33, .junk), (34, .junk), (35, .junk), (36, .junk), (37, .junk), (38, .junk), (39, .junk), (40, .junk), (41, .junk), (42, .junk), (43, .junk), (44, .junk), (45, .junk), (46, .junk), (47, .junk), (48, .junk), (49, .junk), (50, .junk), (51, .junk), (52, .junk), (53, .junk), (54, .junk), (55, .junk), (56, .junk), (57, .junk)]) (fun i => [.dead, .cells true cp.segs 0, .cells true [.ints .u64 12 (litF ((csrs cp).map fun v => (v.toNat : Int)))] 0, lb (manyN (fun i => le ((csrs cp).getD i 0#64) 8) L4 i.1) i.2]) (fun i => i.1 ≤ 12 ∧ (manyN (fun i => le ((csrs cp).getD i 0#64) 8) L4 i.1).length ≤ i.2) (fun i => 12 - i.1) (0, c4) ⟨Nat.zero_le _, k4⟩ [0, 1, 5, 4] ?_ ?_
  · rw [hO]
    refine ⟨by decide, ⟨rfl, trivial⟩, ?_, ?_⟩
    · repeat' (first | exact eqvT_nil | refine eqvT_junk ?_ | refine eqvT_same ?_ | refine eqvT_int ?_ ?_)
    · exact ⟨⟨_, rfl, eqvB_refl _⟩, ⟨_, rfl, eqvB_refl _⟩, ⟨_, rfl, eqvB_refl _⟩, ⟨_, rfl, eqvB_refl _⟩, trivial⟩
  rintro ⟨i, cap⟩ ⟨hi4, k5⟩
  replace hi4 : i ≤ 12 := hi4
  replace k5 : (manyN (fun i => le ((csrs cp).getD i 0#64) 8) L4 i).length ≤ cap := k5
  have hm4 : (manyN (fun i => le ((csrs cp).getD i 0#64) 8) L4 i).length = L4.length + 8 * i := manyN_len (fun i => le_len _ _) i
  refine ifB_intro (fun h1 => ?_) (fun h1 => ?_)
  · have hlt : i < 12 := by have h2 := of_decide_eq_true h1; omega
    have hx : (manyN (fun i => le ((csrs cp).getD i 0#64) 8) L4 i ++ le ((csrs cp).getD i 0#64) 8) = manyN (fun i => le ((csrs cp).getD i 0#64) 8) L4 (i + 1) := rfl
    generalize manyN (fun i => le ((csrs cp).getD i 0#64) 8) L4 i = L5 at *
    generalize cap = c5 at *
    have b5 : L5.length ≤ 1386 := by omega
    refine need_intro ⟨by omega, by show ((i : Nat) : Int) < 12; omega⟩ ?_
    refine need_intro (by show 0 + (i : Int).toNat < 12; omega) ?_
    refine num_k 3 (L := L5) ((csrs cp).getD i 0#64) 8 (by show litF ((csrs cp).map fun v => (v.toNat : Int)) (0 + (i : Int).toNat) = _; rw [Nat.zero_add]; exact csrs_get cp hlt) (by decide) (by omega) k5 rfl rfl ?_
    intro L6 c6 e6 l6 k6
    have b6 : L6.length ≤ 1394 := by omega
    clear l6 b5 k5
    refine ⟨(i + 1, c6), ⟨?_, ?_⟩, ?_, [0, 1, 2, 4], ?_⟩
    · show i + 1 ≤ 12; omega
    · show (manyN (fun i => le ((csrs cp).getD i 0#64) 8) L4 (i + 1)).length ≤ c6; rw [← hx, ← e6]; exact k6
    · show 12 - (i + 1) < 12 - i; omega
    · rw [hx] at e6
      subst e6
      rw [hO]
      refine ⟨by decide, ⟨rfl, trivial⟩, ?_, ?_⟩
      · repeat' (first | exact eqvT_nil | refine eqvT_junk ?_ | refine eqvT_same ?_ | refine eqvT_int ?_ ?_)
        all_goals (rw [i64_in (by omega) (by omega)]; rfl)
      · exact ⟨⟨_, rfl, eqvB_refl _⟩, ⟨_, rfl, eqvB_refl _⟩, ⟨_, rfl, eqvB_refl _⟩, ⟨_, rfl, eqvB_refl _⟩, trivial⟩
  have h1 : i = 12 := by have h2 := of_decide_eq_false h1; omega
  subst h1
  generalize e5 : manyN (fun i => le ((csrs cp).getD i 0#64) 8) L4 12 = L5 at *
  have b5 : L5.length ≤ 1386 := by omega
  generalize hcap5 : cap = c5 at *
  refine loop_in (A := Nat × Nat) on (fun i => [(0, .s (.gs 2 0 (manyN (fun i => le ((cp.cfg i).setWidth 64) 1) L5 i.1).length i.2)), (6, .junk), (8, .s (.int .i64 (i.1 : Int))), (10, .junk), (11, .junk), (12, .junk), (13, .junk), (14, .junk), (15, .junk), (16, .junk), (17, .junk), (18, .junk), (19, .junk), (20, .junk), (21, .junk), (22, .junk), (23, .junk), (24, .junk), (25, .junk), (26, .junk), (27, .junk), (28, .junk), (29, .junk), (30, .junk), (31, .junk), (32, .junk), (33, .junk), (34, .junk), (35, .junk), (36, .junk), (37, .junk), (38, .junk), (39, .junk), (40, .junk), (41, .junk), (42, .junk), (43, .junk), (44, .junk), (45, .junk), (46, .junk), (47, .junk), (48, .junk), (49, .junk), (50, .junk), (51, .junk), (52, .junk), (53, .junk), (54, .junk), (55, .junk), (56, .junk), (57, .junk), (58, .junk), (59, .junk), (60, .junk), (61, .junk), (62, .junk), (63, .junk), (64, .junk), (65, .junk), (66, .junk), (67, .junk), (68, .junk), (69, .junk)]) (fun i => [.dead, .cells true cp.segs 0, lb (manyN (fun i => le ((cp.cfg i).setWidth 64) 1) L5 i.1) i.2]) (fun i => i.1 ≤ 16 ∧ (manyN (fun i => le ((cp.cfg i).setWidth 64) 1) L5 i.1).length ≤ i.2) (fun i => 16 - i.1) (0, c5) ⟨Nat.zero_le _, k5⟩ [0, 1, 3] ?_ ?_
  · rw [hO]
    refine ⟨by decide, ⟨rfl, trivial⟩, ?_, ?_⟩
    · repeat' (first | exact eqvT_nil | refine eqvT_junk ?_ | refine eqvT_same ?_ | refine eqvT_int ?_ ?_)
    · exact ⟨⟨_, rfl, eqvB_refl _⟩, ⟨_, rfl, eqvB_refl _⟩, ⟨_, rfl, eqvB_refl _⟩, trivial⟩
  rintro ⟨i, cap⟩ ⟨hi5, k6⟩
  replace hi5 : i ≤ 16 := hi5
  replace k6 : (manyN (fun i => le ((cp.cfg i).setWidth 64) 1) L5 i).length ≤ cap := k6
  have hm5 : (manyN (fun i => le ((cp.cfg i).setWidth 64) 1) L5 i).length = L5.length + 1 * i := manyN_len (fun i => le_len _ _) i
  refine ifB_intro (fun h1 => ?_) (fun h1 => ?_)
  · have hlt : i < 16 := by have h2 := of_decide_eq_true h1; omega
    have hx : (manyN (fun i => le ((cp.cfg i).setWidth 64) 1) L5 i ++ le ((cp.cfg i).setWidth 64) 1) = manyN (fun i => le ((cp.cfg i).setWidth 64) 1) L5 (i + 1) := rfl
    generalize manyN (fun i => le ((cp.cfg i).setWidth 64) 1) L5 i = L6 at *
    generalize cap = c6 at *
    have b6 : L6.length ≤ 1402 := by omega
    refine need_intro ⟨by omega, by omega⟩ ?_
    refine need_intro (by omega) ?_
    refine need_intro ⟨by show 0 + 1 ≤ 1; omega, by show L6.length + 0 = L6.length * 1; omega, by show c6 * 1 = L6.length * 1 + (c6 - L6.length); omega, room5 _ (by show L6.length + 1 ≤ _; omega)⟩ ?_
    intro c7 kk
    replace kk : L6.length + 1 ≤ c7 := kk
    obtain ⟨L7, e7⟩ : ∃ L, L = L6 ++ le ((cp.cfg i).setWidth 64) 1 := ⟨_, rfl⟩
    have l7 : L7.length = L6.length + 1 := by rw [e7, List.length_append, le_len]
    have k7 : L7.length ≤ c7 := by omega
    refine ⟨(i + 1, c7), ⟨?_, ?_⟩, ?_, [0, 1, 4], ?_⟩
    · show i + 1 ≤ 16; omega
    · show (manyN (fun i => le ((cp.cfg i).setWidth 64) 1) L5 (i + 1)).length ≤ c7; rw [← hx, ← e7]; exact k7
    · show 16 - (i + 1) < 16 - i; omega
    · rw [hx] at e7
      rw [hO]
      refine ⟨by decide, ⟨rfl, trivial⟩, ?_, ?_⟩
      · repeat' (first | exact eqvT_nil | refine eqvT_junk ?_ | refine eqvT_same ?_ | refine eqvT_int ?_ ?_ | refine eqvT_gs ⟨rfl, rfl, ?_, rfl⟩ ?_)
        · show L6.length + 1 = (manyN _ L5 (i + 1)).length
          rw [← e7]; omega
        · rw [i64_in (by omega) (by omega)]; rfl
      · refine ⟨⟨_, rfl, eqvB_refl _⟩, ⟨_, rfl, eqvB_refl _⟩, ⟨_, rfl, ?_⟩, trivial⟩
        show eqvB _ (lb (manyN (fun i => le ((cp.cfg i).setWidth 64) 1) L5 (i + 1)) c7)
        rw [← hx]
        refine lb_eqv L6 _ c7 (n := L6.length) (m := 1) rfl (le_len _ _).symm ?_ (fun _ _ => rfl) ?_
        · show (c7 - (L6.length + 1)) * 1 = _; rw [le_len]; omega
        · rw [le_one]; exact bf_one rfl
  have h1 : i = 16 := by have h2 := of_decide_eq_false h1; omega
  subst h1
  generalize e6 : manyN (fun i => le ((cp.cfg i).setWidth 64) 1) L5 16 = L6 at *
  have b6 : L6.length ≤ 1402 := by omega
  generalize hcap6 : cap = c6 at *
  refine loop_in (A := Nat × Nat) on (fun i => [(0, .s (.gs 2 0 (manyN (fun i => le (cp.addr i) 8) L6 i.1).length i.2)), (9, .s (.int .i64 (i.1 : Int))), (10, .junk), (11, .junk), (12, .junk), (13, .junk), (14, .junk), (15, .junk), (16, .junk), (17, .junk), (18, .junk), (19, .junk), (20, .junk), (21, .junk), (22, .junk), (23, .junk), (24, .junk), (25, .junk), (26, .junk), (27, .junk), (28, .junk), (29, .junk), (30, .junk), (31, .junk), (32, .junk), (33, .junk), (34, .junk), (35, .junk), (36, .junk), (37, .junk), (38, .junk), (39, .junk), (40, .junk), (41, .junk), (42, .junk), (43, .junk), (44, .junk), (45, .junk), (46, .junk), (47, .junk), (48, .junk), (49, .junk), (50, .junk), (51, .junk), (52, .junk), (53, .junk), (54, .junk), (55, .junk), (56, .junk), (57, .junk), (58, .junk), (59, .junk), (60, .junk), (61, .junk), (62, .junk), (63, .junk), (64, .junk), (65, .junk), (66, .junk), (67, .junk), (68, .junk), (69, .junk), (70, .junk), (71, .junk), (72, .junk), (73, .junk), (74, .junk), (75, .junk), (76, .junk), (77, .junk), (78, .junk), (79, .junk), (80, .junk), (81, .junk)]) (fun i => [.dead, .cells true cp.segs 0, lb (manyN (fun i => le (cp.addr i) 8) L6 i.1) i.2]) (fun i => i.1 ≤ 16 ∧ (manyN (fun i => le (cp.addr i) 8) L6 i.1).length ≤ i.2) (fun i => 16 - i.1) (0, c6) ⟨Nat.zero_le _, k6⟩ [0, 1, 2] ?_ ?_
  · rw [hO]
    refine ⟨by decide, ⟨rfl, trivial⟩, ?_, ?_⟩
    · repeat' (first | exact eqvT_nil | refine eqvT_junk ?_ | refine eqvT_same ?_ | refine eqvT_int ?_ ?_)
    · exact ⟨⟨_, rfl, eqvB_refl _⟩, ⟨_, rfl, eqvB_refl _⟩, ⟨_, rfl, eqvB_refl _⟩, trivial⟩
  rintro ⟨i, cap⟩ ⟨hi6, k7⟩
  replace hi6 : i ≤ 16 := hi6
  replace k7 : (manyN (fun i => le (cp.addr i) 8) L6 i).length ≤ cap := k7
  have hm6 : (manyN (fun i => le (cp.addr i) 8) L6 i).length = L6.length + 8 * i := manyN_len (fun i => le_len _ _) i
  refine ifB_intro (fun h1 => ?_) (fun h1 => ?_)
  · have hlt : i < 16 := by have h2 := of_decide_eq_true h1; omega
    have hx : (manyN (fun i => le (cp.addr i) 8) L6 i ++ le (cp.addr i) 8) = manyN (fun i => le (cp.addr i) 8) L6 (i + 1) := rfl
    generalize manyN (fun i => le (cp.addr i) 8) L6 i = L7 at *
    generalize cap = c7 at *
    have b7 : L7.length ≤ 1530 := by omega
    refine need_intro ⟨by omega, by omega⟩ ?_
    refine need_intro (by omega) ?_
    refine num_k 2 (L := L7) (cp.addr i) 8 (rfl) (by decide) (by omega) k7 rfl rfl ?_
    intro L8 c8 e8 l8 k8
    have b8 : L8.length ≤ 1538 := by omega
    clear l8 b7 k7
    refine ⟨(i + 1, c8), ⟨?_, ?_⟩, ?_, [0, 1, 3], ?_⟩
    · show i + 1 ≤ 16; omega
    · show (manyN (fun i => le (cp.addr i) 8) L6 (i + 1)).length ≤ c8; rw [← hx, ← e8]; exact k8
    · show 16 - (i + 1) < 16 - i; omega
    · rw [hx] at e8
      subst e8
      rw [hO]
      refine ⟨by decide, ⟨rfl, trivial⟩, ?_, ?_⟩
      · repeat' (first | exact eqvT_nil | refine eqvT_junk ?_ | refine eqvT_same ?_ | refine eqvT_int ?_ ?_)
        all_goals (rw [i64_in (by omega) (by omega)]; rfl)
      · exact ⟨⟨_, rfl, eqvB_refl _⟩, ⟨_, rfl, eqvB_refl _⟩, ⟨_, rfl, eqvB_refl _⟩, trivial⟩
  have h1 : i = 16 := by have h2 := of_decide_eq_false h1; omega
  subst h1
  generalize e7 : manyN (fun i => le (cp.addr i) 8) L6 16 = L7 at *
  have b7 : L7.length ≤ 1530 := by omega
  generalize hcap7 : cap = c7 at *
  refine flag_k 2 (L := L7) (cp.rvalid) (by omega) k7 rfl rfl ?_
  intro L8 c8 e8 l8 k8
  have b8 : L8.length ≤ 1531 := by omega
  clear l8 b7 k7
  refine num_k 3 (L := L8) (cp.raddr) 8 (rfl) (by decide) (by omega) k8 rfl rfl ?_
  intro L9 c9 e9 l9 k9
  have b9 : L9.length ≤ 1539 := by omega
  clear l9 b8 k8
  refine num_k 4 (L := L9) (BitVec.ofInt 64 cp.rsize) 1 (wrap_u64 _) (by decide) (by omega) k9 rfl rfl ?_
  intro L10 c10 e10 l10 k10
  have b10 : L10.length ≤ 1540 := by omega
  clear l10 b9 k9
  have ef : L10 = cpuOn cp L0 := by
    subst e10 e9 e8 e7 e6 e5 e4 e3 e2 e1
    rfl
  rw [← ef]
  exact ⟨.s (.gs 1 0 L10.length c10), [.dead, lb L10 c10], [0, 5], ⟨c10, k10, by omega, rfl, rfl⟩, by decide, ⟨rfl, trivial⟩, ⟨rfl, rfl, rfl, rfl⟩, ⟨⟨_, rfl, eqvB_refl _⟩, ⟨_, rfl, eqvB_refl _⟩, trivial⟩⟩
set_option maxRecDepth 100000 in
set_option maxHeartbeats 4000000 in
theorem rdev_spec (s : BusV) (m1 m2 m3 : Bool) (ram inp out : Nat → B8) (cr ci co s1 s2 s3 : Nat) (L0 : List B8) (c0 : Nat) (b0 : L0.length ≤ 8192) (k0 : L0.length ≤ c0) (hi : s.ni ≤ 64) (ho : s.no ≤ 4096) (hei : ends inp s.ni) (heo : ends out s.no) :
    Does TB 47 [.s (.gs 0 0 L0.length c0), .agg (s.segs (.gs 3 0 s.nr cr) (.gs 1 0 s.ni ci) (.gs 2 0 s.no co))] [lb L0 c0, bblk m1 s.ni inp s1, bblk m2 s.no out s2, bblk m3 s.nr ram s3]
    (fun r h' => ∃ c', (devOn s inp out L0).length ≤ c' ∧ (devOn s inp out L0).length ≤ 16384 ∧ r = .s (.gs 4 0 (devOn s inp out L0).length c') ∧ h' = [.dead, bblk m1 s.ni inp s1, bblk m2 s.no out s2, bblk m3 s.nr ram s3, lb (devOn s inp out L0) c']) := by
  refine fnX_does TB Try.func47 rfl (by decide) (fun O on hO => ?_)
  refine num_k 0 (L := L0) (s.msip.setWidth 64) 4 (wide32 _) (by decide) (by omega) k0 rfl rfl ?_
  intro L1 c1 e1 l1 k1
  have b1 : L1.length ≤ 8196 := by omega
  clear l1 b0 k0
  refine num_k 5 (L := L1) (s.cmp) 8 (rfl) (by decide) (by omega) k1 rfl rfl ?_
  intro L2 c2 e2 l2 k2
  have b2 : L2.length ≤ 8204 := by omega
  clear l2 b1 k1
  refine num_k 6 (L := L2) (s.now) 8 (rfl) (by decide) (by omega) k2 rfl rfl ?_
  intro L3 c3 e3 l3 k3
  have b3 : L3.length ≤ 8212 := by omega
  clear l3 b2 k2
  refine flag_k 7 (L := L3) (s.ext) (by omega) k3 rfl rfl ?_
  intro L4 c4 e4 l4 k4
  have b4 : L4.length ≤ 8213 := by omega
  clear l4 b3 k3
  refine flag_k 8 (L := L4) (s.soft) (by omega) k4 rfl rfl ?_
  intro L5 c5 e5 l5 k5
  have b5 : L5.length ≤ 8214 := by omega
  clear l5 b4 k4
  refine need_intro ⟨by show 0 + 4 ≤ 4; omega, by show L5.length + 0 = L5.length * 1; omega, by show c5 * 1 = L5.length * 1 + (c5 - L5.length); omega, room5 _ (by show L5.length + 4 ≤ _; omega)⟩ ?_
  intro c6 kk
  replace kk : L5.length + 4 ≤ c6 := kk
  obtain ⟨L6, e6⟩ : ∃ L, L = L5 ++ [s.ier, s.lcr, s.mcr, s.scratch] := ⟨_, rfl⟩
  have l6 : L6.length = L5.length + 4 := by rw [e6, List.length_append]; exact congrArg (L5.length + ·) ((rfl : [s.ier, s.lcr, s.mcr, s.scratch].length = 4))
  have k6 : L6.length ≤ c6 := by omega
  have b6 : L6.length ≤ 8218 := by omega
  refine flag_k 11 (L := L6) (s.overrun) (by omega) k6 l6.symm (by rw [e6]; exact congrArg some (lb_mk L5 ([s.ier, s.lcr, s.mcr, s.scratch]) c6 (n := L5.length) (m := 4) rfl ((rfl : [s.ier, s.lcr, s.mcr, s.scratch].length = 4)).symm (by have y : ([s.ier, s.lcr, s.mcr, s.scratch]).length = 4 := (rfl : [s.ier, s.lcr, s.mcr, s.scratch].length = 4); show (c6 - (L5.length + 4)) * 1 = _; omega) rfl (bf_lit [s.ier, s.lcr, s.mcr, s.scratch]))) ?_
  intro L7 c7 e7 l7 k7
  have b7 : L7.length ≤ 8219 := by omega
  clear l7 b6 k6
  refine num_k 12 (L := L7) (BitVec.ofInt 64 s.off) 1 (wrap_u64 _) (by decide) (by omega) k7 rfl rfl ?_
  intro L8 c8 e8 l8 k8
  have b8 : L8.length ≤ 8220 := by omega
  clear l8 b7 k7
  refine num_k 13 (L := L8) (BitVec.ofInt 64 s.code) 4 (wrap_u64 _) (by decide) (by omega) k8 rfl rfl ?_
  intro L9 c9 e9 l9 k9
  have b9 : L9.length ≤ 8224 := by omega
  clear l9 b8 k8
  refine num_k 14 (L := L9) (BitVec.ofNat 64 s.ni) 1 (nat64 (by omega)) (by decide) (by omega) k9 rfl rfl ?_
  intro L10 c10 e10 l10 k10
  have b10 : L10.length ≤ 8225 := by omega
  clear l10 b9 k9
  refine need_intro ⟨by show 0 + s.ni ≤ s.ni; omega, by show L10.length + 0 = L10.length * 1; omega, by show c10 * 1 = L10.length * 1 + (c10 - L10.length); omega, room5 _ (by show L10.length + s.ni ≤ _; omega)⟩ ?_
  intro c11 kk
  replace kk : L10.length + s.ni ≤ c11 := kk
  obtain ⟨L11, e11⟩ : ∃ L, L = L10 ++ lst inp s.ni := ⟨_, rfl⟩
  have l11 : L11.length = L10.length + s.ni := by rw [e11, List.length_append]; exact congrArg (L10.length + ·) (lst_len inp s.ni)
  have k11 : L11.length ≤ c11 := by omega
  have b11 : L11.length ≤ 8289 := by omega
  refine num_k 16 (L := L11) (BitVec.ofNat 64 s.no) 2 (nat64 (by omega)) (by decide) (by omega) k11 l11.symm (by rw [e11]; exact congrArg some (lb_mk L10 (lst inp s.ni) c11 (n := L10.length) (m := s.ni) rfl (lst_len inp s.ni).symm (by have y : (lst inp s.ni).length = s.ni := lst_len inp s.ni; show (c11 - (L10.length + s.ni)) * 1 = _; omega) rfl ((funext fun j => by show bfun inp (0 + j) = _; rw [Nat.zero_add, bf_ends hei])))) ?_
  intro L12 c12 e12 l12 k12
  have b12 : L12.length ≤ 8291 := by omega
  clear l12 b11 k11
  refine need_intro ⟨by show 0 + s.no ≤ s.no; omega, by show L12.length + 0 = L12.length * 1; omega, by show c12 * 1 = L12.length * 1 + (c12 - L12.length); omega, room5 _ (by show L12.length + s.no ≤ _; omega)⟩ ?_
  intro c13 kk
  replace kk : L12.length + s.no ≤ c13 := kk
  obtain ⟨L13, e13⟩ : ∃ L, L = L12 ++ lst out s.no := ⟨_, rfl⟩
  have l13 : L13.length = L12.length + s.no := by rw [e13, List.length_append]; exact congrArg (L12.length + ·) (lst_len out s.no)
  have k13 : L13.length ≤ c13 := by omega
  have b13 : L13.length ≤ 12387 := by omega
  have ef : L13 = devOn s inp out L0 := by
    subst e13 e12 e11 e10 e9 e8 e7 e6 e5 e4 e3 e2 e1
    simp only [devOn, le_one, List.append_assoc, List.cons_append, List.nil_append]
  rw [← ef]
  refine ⟨.s (.gs 4 0 L13.length c13), [.dead, bblk m1 s.ni inp s1, bblk m2 s.no out s2, bblk m3 s.nr ram s3, lb L13 c13], [0, 1, 2, 3, 18], ⟨c13, k13, by omega, rfl, rfl⟩, by decide, ⟨rfl, rfl, rfl, rfl, trivial⟩, ⟨rfl, rfl, l13.symm, rfl⟩, ⟨_, rfl, eqvB_refl _⟩, ⟨_, rfl, eqvB_refl _⟩, ⟨_, rfl, eqvB_refl _⟩, ⟨_, rfl, eqvB_refl _⟩, ⟨_, rfl, ?_⟩, trivial⟩
  rw [e13]
  refine lb_eqv L12 (lst out s.no) c13 (n := L12.length) (m := s.no) rfl (lst_len _ _).symm ?_ (fun _ _ => rfl) ?_
  · show (c13 - (L12.length + s.no)) * 1 = _; rw [lst_len]; omega
  · intro j hj; show bfun out (0 + j) = _; rw [Nat.zero_add]; exact bf_lst out s.no j hj
end Go.Proofs.Ytghcdkpgcanpgaa

/- Proper Cpus: the program's and the document's. No condition: contracts of functions. -/
set_option linter.unusedSimpArgs false
namespace Go.Anv
open Go
def cfgOf (c : B8) : B8 := if c &&& 0x9f#8 &&& 1#8 = 0#8 then c &&& 0x9f#8 &&& ~~~2#8 else c &&& 0x9f#8
def addrBits : B64 := 0x3fffffffffffff#64
def pmpSeg (cfg : Nat → B8) (addr : Nat → B64) : List Seg := [.ints .u8 16 (bfun cfg), .ints .u64 16 (wfun addr)]
def resSeg (v : Bool) (a : B64) (s : Int) : List Seg := [.one (.bool v), .one (.int .u64 a.toNat), .one (.int .i64 s)]
/-- May it be a reservation? -/
def resOk (v : Bool) (a : B64) (s : Int) : Bool := v && (decide (s = 4) && decide (a.toNat % 4 = 0) || decide (s = 8) && decide (a.toNat % 8 = 0))
def statusOf (m : B64) : B64 := (m &&& 2228360#64) ||| (if m &&& 6144#64 = 6144#64 then 6144#64 else 0#64) ||| 8589934592#64
def CpuV.proper (c : CpuV) : CpuV :=
  { c with
    pc := c.pc &&& ~~~1#64
    mepc := c.mepc &&& ~~~1#64
    x := fun j => if j = 0 then 0#64 else c.x j
    mode := if c.mode = 3 then 3 else 0
    mstatus := statusOf c.mstatus
    mtvec := c.mtvec &&& ~~~2#64
    mie := c.mie &&& 2184#64
    mcounteren := c.mcounteren &&& 7#64
    mcountinhibit := c.mcountinhibit &&& 5#64
    menvcfg := c.menvcfg &&& 1#64
    cfg := fun j => cfgOf (c.cfg j)
    addr := fun j => c.addr j &&& addrBits
    rvalid := resOk c.rvalid c.raddr c.rsize
    raddr := if resOk c.rvalid c.raddr c.rsize then c.raddr else 0#64
    rsize := if resOk c.rvalid c.raddr c.rsize then c.rsize else 0 }
theorem mask_k : ∀ i, i < 64 → (6144#64).getLsbD i = (i == 11 || i == 12) := by decide
theorem mask_c : ∀ i, i < 64 → (2234504#64).getLsbD i = ((2228360#64).getLsbD i || (i == 11 || i == 12)) := by decide
theorem mask_d : (2228360#64).getLsbD 11 = false ∧ (2228360#64).getLsbD 12 = false := by decide
theorem mpp_bits (m : B64) : ((m &&& 2234504#64) >>> 11 &&& 3#64 = 1#64 ∨ (m &&& 2234504#64) >>> 11 &&& 3#64 = 2#64) ↔ m.getLsbD 11 ≠ m.getLsbD 12 := by
  have h0 : (m &&& 2234504#64) >>> 11 &&& 3#64 = m >>> 11 &&& 3#64 := by
    apply BitVec.eq_of_getLsbD_eq
    intro i hi
    have h3 : ∀ i, i < 64 → (3#64).getLsbD i = true → i = 0 ∨ i = 1 := by decide
    simp only [BitVec.getLsbD_and, BitVec.getLsbD_ushiftRight]
    cases h : (3#64).getLsbD i with
    | false => simp
    | true =>
      rcases h3 i hi h with rfl | rfl
      · have : (2234504#64).getLsbD (11 + 0) = true := by decide
        simp [this]
      · have : (2234504#64).getLsbD (11 + 1) = true := by decide
        simp [this]
  rw [h0]
  have hx : (m >>> 11 &&& 3#64).toNat = m.toNat / 2048 % 4 := by
    rw [BitVec.toNat_and, BitVec.toNat_ushiftRight, Nat.shiftRight_eq_div_pow]
    exact Nat.and_two_pow_sub_one_eq_mod _ 2
  have h11 : m.getLsbD 11 = decide (m.toNat / 2048 % 2 = 1) := by
    show m.toNat.testBit 11 = _
    rw [Nat.testBit_eq_decide_div_mod_eq]
  have h12 : m.getLsbD 12 = decide (m.toNat / 4096 % 2 = 1) := by
    show m.toNat.testBit 12 = _
    rw [Nat.testBit_eq_decide_div_mod_eq]
  rw [h11, h12, ← BitVec.toNat_inj, ← BitVec.toNat_inj, hx]
  have e1 : (1#64).toNat = 1 := rfl
  have e2 : (2#64).toNat = 2 := rfl
  rw [e1, e2, ne_eq, decide_eq_decide]
  omega
theorem mpp_full (m : B64) : m &&& 6144#64 = 6144#64 ↔ (m.getLsbD 11 = true ∧ m.getLsbD 12 = true) := by
  constructor
  · intro h
    have h1 := congrArg (fun x : B64 => x.getLsbD 11) h
    have h2 := congrArg (fun x : B64 => x.getLsbD 12) h
    simp only [BitVec.getLsbD_and, mask_k 11 (by decide), mask_k 12 (by decide)] at h1 h2
    have k1 : (11 == 11 || 11 == 12) = true := by decide
    have k2 : (12 == 11 || 12 == 12) = true := by decide
    rw [k1, Bool.and_true] at h1
    rw [k2, Bool.and_true] at h2
    exact ⟨h1, h2⟩
  · rintro ⟨h1, h2⟩
    apply BitVec.eq_of_getLsbD_eq
    intro i hi
    rw [BitVec.getLsbD_and, mask_k i hi]
    by_cases h : i = 11
    · subst h; simp [h1]
    · by_cases h' : i = 12
      · subst h'; simp [h2]
      · rw [beq_eq_false_iff_ne.2 h, beq_eq_false_iff_ne.2 h']
        simp only [Bool.or_false, Bool.and_false]
theorem status_yes (m : B64) (h : (m &&& 2234504#64) >>> 11 &&& 3#64 = 1#64 ∨ (m &&& 2234504#64) >>> 11 &&& 3#64 = 2#64) : m &&& 2234504#64 &&& ~~~6144#64 ||| 8589934592#64 = statusOf m := by
  have h := (mpp_bits m).1 h
  have hf : ¬ m &&& 6144#64 = 6144#64 := fun e => by
    obtain ⟨a, b⟩ := (mpp_full m).1 e
    exact h (a.trans b.symm)
  unfold statusOf
  rw [if_neg hf, BitVec.or_zero]
  congr 1
  apply BitVec.eq_of_getLsbD_eq
  intro i hi
  simp only [BitVec.getLsbD_and, BitVec.getLsbD_not, hi, decide_true, Bool.true_and, mask_k i hi, mask_c i hi]
  by_cases h1 : i = 11
  · subst h1; simp [mask_d.1]
  · by_cases h2 : i = 12
    · subst h2; simp [mask_d.2]
    · rw [beq_eq_false_iff_ne.2 h1, beq_eq_false_iff_ne.2 h2]
      simp only [Bool.or_false, Bool.not_false, Bool.and_true]
theorem status_no (m : B64) (h : ¬ ((m &&& 2234504#64) >>> 11 &&& 3#64 = 1#64 ∨ (m &&& 2234504#64) >>> 11 &&& 3#64 = 2#64)) : m &&& 2234504#64 ||| 8589934592#64 = statusOf m := by
  have h := fun e => h ((mpp_bits m).2 e)
  have heq : m.getLsbD 11 = m.getLsbD 12 := Classical.byContradiction h
  unfold statusOf
  congr 1
  apply BitVec.eq_of_getLsbD_eq
  intro i hi
  rw [BitVec.getLsbD_and, BitVec.getLsbD_or, BitVec.getLsbD_and, mask_c i hi]
  by_cases hf : m &&& 6144#64 = 6144#64
  · obtain ⟨a, b⟩ := (mpp_full m).1 hf
    rw [if_pos hf, mask_k i hi]
    by_cases h1 : i = 11
    · subst h1; rw [a, mask_d.1]; rfl
    · by_cases h2 : i = 12
      · subst h2; rw [b, mask_d.2]; rfl
      · rw [beq_eq_false_iff_ne.2 h1, beq_eq_false_iff_ne.2 h2]
        simp only [Bool.or_false]
  · rw [if_neg hf, BitVec.getLsbD_zero, Bool.or_false]
    have ha : m.getLsbD 11 = false := by
      cases hq : m.getLsbD 11 with
      | false => rfl
      | true => exact absurd ((mpp_full m).2 ⟨hq, by rw [← heq]; exact hq⟩) hf
    by_cases h1 : i = 11
    · subst h1; rw [ha]; rfl
    · by_cases h2 : i = 12
      · subst h2; rw [← heq, ha]; rfl
      · rw [beq_eq_false_iff_ne.2 h1, beq_eq_false_iff_ne.2 h2]
        simp only [Bool.or_false]
theorem toNat_ofInt_int {w : Nat} (a : BitVec w) (n : Int) (h0 : 0 ≤ n) (h1 : n < 2 ^ w) : ((a.toNat : Int) = n) ↔ a = BitVec.ofInt w n := by
  have := beq_lit a n h0 h1
  rw [Bool.eq_iff_iff, beq_iff_eq, beq_iff_eq] at this
  exact this
theorem and_low (a : B64) (k : Nat) (hk : k < 64) : a &&& BitVec.ofNat 64 (2 ^ k - 1) = 0#64 ↔ a.toNat % 2 ^ k = 0 := by
  rw [← BitVec.toNat_inj, BitVec.toNat_and, BitVec.toNat_ofNat, Nat.mod_eq_of_lt, Nat.and_two_pow_sub_one_eq_mod]
  · simp
  · have : 2 ^ k ≤ 2 ^ 63 := Nat.pow_le_pow_right (by decide) (by omega)
    have : 0 < 2 ^ k := Nat.two_pow_pos k
    omega
theorem rres_cond (v : Bool) (a : B64) (s : Int) : (bif bif !v then true else bif s != 4 then s != 8 else false then true else bif (a.toNat : Int).tmod 8 != 0 then bif s == 8 then true else (a.toNat : Int).tmod 4 != 0 else false) = !resOk v a s := by
  have e8 : (a.toNat : Int).tmod 8 = ((a.toNat % 8 : Nat) : Int) := rfl
  have e4 : (a.toNat : Int).tmod 4 = ((a.toNat % 4 : Nat) : Int) := rfl
  rw [e8, e4]
  unfold resOk
  cases v
  · rfl
  · by_cases h4 : s = 4
    · subst h4
      by_cases h : a.toNat % 4 = 0
      · simp [h]
      · have h8 : ¬ a.toNat % 8 = 0 := by omega
        have h8' : ¬ (a.toNat : Int) % 8 = 0 := by omega
        have h4' : ¬ (a.toNat : Int) % 4 = 0 := by omega
        simp [h, h8, h8', h4']
    · by_cases h8 : s = 8
      · subst h8
        by_cases h : a.toNat % 8 = 0
        · have h' : (a.toNat : Int) % 8 = 0 := by omega
          simp [h, h']
        · have h' : ¬ (a.toNat : Int) % 8 = 0 := by omega
          simp [h, h']
      · simp [h4, h8]
theorem resOk_valid {v : Bool} {a : B64} {s : Int} (h : resOk v a s = true) : v = true := by
  unfold resOk at h
  simp only [Bool.and_eq_true] at h
  exact h.1
theorem and_3 (a : B64) : a &&& 3#64 = 0#64 ↔ a.toNat % 4 = 0 := and_low a 2 (by decide)
theorem and_7 (a : B64) : a &&& 7#64 = 0#64 ↔ a.toNat % 8 = 0 := and_low a 3 (by decide)
theorem res_cond (v : Bool) (a : B64) (s : Int) : (bif bif !v then true else bif s != 4 then s != 8 else false then true else bitX .and .u64 (a.toNat : Int) (IntKind.u64.wrap (IntKind.i64.wrap (s - 1))) != 0) = !resOk v a s := by
  unfold resOk
  cases v
  · rfl
  · by_cases h4 : s = 4
    · subst h4
      have hw : IntKind.u64.wrap (IntKind.i64.wrap (4 - 1)) = 3 := by decide
      rw [hw, and_u64, ofInt_toNat]
      simp only [BitVec.reduceOfInt, bne_lit, Int.reduceLE, Int.reducePow, Int.reduceLT]
      have := and_3 a
      by_cases h : a.toNat % 4 = 0
      · simp [h, this.2 h]
      · have h' : ¬ a &&& 3#64 = 0#64 := fun e => h (this.1 e)
        simp [h, h']
    · by_cases h8 : s = 8
      · subst h8
        have hw : IntKind.u64.wrap (IntKind.i64.wrap (8 - 1)) = 7 := by decide
        rw [hw, and_u64, ofInt_toNat]
        simp only [BitVec.reduceOfInt, bne_lit, Int.reduceLE, Int.reducePow, Int.reduceLT]
        have := and_7 a
        by_cases h : a.toNat % 8 = 0
        · simp [h, this.2 h]
        · have h' : ¬ a &&& 7#64 = 0#64 := fun e => h (this.1 e)
          simp [h, h']
      · simp [h4, h8]
end Go.Anv
namespace Go.Proofs.Ytghcdkpgcanpgaa
open Go Go.Anv
theorem byteOf_spec (c : B8) (h : List Blk) : Does TB 104 [.s (.int .u8 c.toNat)] h (fun v h' => v = .s (.int .u8 (cfgOf c).toNat) ∧ h' = h) := by
  refine fnX_pure TB Try.func104 rfl (by decide) rfl _ rfl (fun O on => ?_) h
  refine ifB_intro (fun h1 => ?_) (fun h1 => ?_)
  · refine ⟨rfl, ?_⟩
    simp only [and_u8, andNot_u8, ofInt_toNat, BitVec.reduceOfInt, beq_lit, Int.reduceLE, Int.reducePow, Int.reduceLT, beq_iff_eq] at h1 ⊢
    simp only [cfgOf, if_pos h1]
  · refine ⟨rfl, ?_⟩
    simp only [and_u8, andNot_u8, ofInt_toNat, BitVec.reduceOfInt, beq_lit, Int.reduceLE, Int.reducePow, Int.reduceLT, beq_eq_false_iff_ne, ne_eq] at h1 ⊢
    simp only [cfgOf, if_neg h1]
theorem cleaned_spec (c : B8) (h : List Blk) : Does TB 105 [.s (.int .u8 c.toNat)] h (fun v h' => v = .s (.int .u8 (cfgOf c).toNat) ∧ h' = h) := by
  refine fnX_pure TB Try.func105 rfl (by decide) rfl _ rfl (fun O on => ?_) h
  refine ifB_intro (fun h1 => ?_) (fun h1 => ?_)
  · refine ⟨rfl, ?_⟩
    simp only [and_u8, andNot_u8, ofInt_toNat, BitVec.reduceOfInt, beq_lit, Int.reduceLE, Int.reducePow, Int.reduceLT, beq_iff_eq] at h1 ⊢
    simp only [cfgOf, if_pos h1]
  · refine ⟨rfl, ?_⟩
    simp only [and_u8, andNot_u8, ofInt_toNat, BitVec.reduceOfInt, beq_lit, Int.reduceLE, Int.reducePow, Int.reduceLT, beq_eq_false_iff_ne, ne_eq] at h1 ⊢
    simp only [cfgOf, if_neg h1]
/-- The first i entries made proper. -/
def cfgTo (i : Nat) (cfg : Nat → B8) (j : Nat) : B8 := if j < i then cfgOf (cfg j) else cfg j
def addrTo (i : Nat) (addr : Nat → B64) (j : Nat) : B64 := if j < i then addr j &&& addrBits else addr j
theorem cfgTo_step (i : Nat) (cfg : Nat → B8) (j : Nat) : (if j = i then ((cfgOf (cfgTo i cfg i)).toNat : Int) else bfun (cfgTo i cfg) j) = bfun (cfgTo (i + 1) cfg) j := by
  simp only [bfun, cfgTo]
  rcases Nat.lt_trichotomy j i with hj | hj | hj
  · rw [if_neg (by omega), if_pos hj, if_pos (by omega)]
  · subst hj; rw [if_pos rfl, if_neg (by omega), if_pos (by omega)]
  · rw [if_neg (by omega), if_neg (by omega), if_neg (by omega)]
theorem addrTo_step (i : Nat) (addr : Nat → B64) (j : Nat) : (if j = i then ((addrTo i addr i &&& addrBits).toNat : Int) else wfun (addrTo i addr) j) = wfun (addrTo (i + 1) addr) j := by
  simp only [wfun, addrTo]
  rcases Nat.lt_trichotomy j i with hj | hj | hj
  · rw [if_neg (by omega), if_pos hj, if_pos (by omega)]
  · subst hj; rw [if_pos rfl, if_neg (by omega), if_pos (by omega)]
  · rw [if_neg (by omega), if_neg (by omega), if_neg (by omega)]
theorem properP_spec (cfg : Nat → B8) (addr : Nat → B64) (h : List Blk) : Does TB 76 [.agg (pmpSeg cfg addr)] h (fun v h' => v = .agg (pmpSeg (fun j => cfgOf (cfg j)) (fun j => addr j &&& addrBits)) ∧ h' = h) := by
  refine fnX_pure TB Try.func76 rfl (by decide) rfl _ rfl (fun O on => ?_) h
  refine loop_by (A := Nat) on (fun i => [(4, .s (.int .i64 (i : Int)))]) (fun i => [.cells true (pmpSeg (cfgTo i cfg) (addrTo i addr)) 0, .cells true [.ints .u8 16 (fun _ => 0), .ints .u64 16 (fun _ => 0)] 0]) (fun i => i ≤ 16) (fun i => 16 - i) 0 (by omega) ?_ ?_
  · refine ⟨?_, ?_⟩
    · repeat' (first | exact eqvT_nil | refine eqvT_junk ?_ | refine eqvT_same ?_ | refine eqvT_int ?_ ?_)
    · refine ⟨⟨rfl, rfl, ⟨rfl, rfl, fun j _ => ?_⟩, ⟨rfl, rfl, fun j _ => ?_⟩, trivial⟩, eqvB_refl _, trivial⟩ <;> simp [cfgTo, addrTo, bfun, wfun]
  · intro i hi
    refine ifB_intro (fun h1 => ?_) (fun h1 => ?_)
    · have h1 : i < 16 := by have := of_decide_eq_true h1; omega
      refine need_intro (by omega) ?_
      refine need_intro (by omega) ?_
      refine (byteOf_spec _ _).mono ?_
      rintro v h' ⟨rfl, rfl⟩
      refine need_intro (by omega) ?_
      refine need_intro (by omega) ?_
      refine need_intro (by omega) ?_
      refine need_intro (by omega) ?_
      refine need_intro (by omega) ?_
      refine need_intro (by omega) ?_
      refine ⟨i + 1, by omega, by simp only; omega, ?_⟩
      refine ⟨?_, ?_⟩
      · repeat' (first | exact eqvT_nil | refine eqvT_junk ?_ | refine eqvT_same ?_ | refine eqvT_int ?_ ?_)
        rw [i64_in (by omega) (by omega)]; omega
      · refine ⟨⟨rfl, rfl, ⟨rfl, rfl, fun j _ => ?_⟩, ⟨rfl, rfl, fun j _ => ?_⟩, trivial⟩, eqvB_refl _, trivial⟩
        · simp only [Int.toNat_natCast]
          exact cfgTo_step i cfg j
        · simp only [Int.toNat_natCast]
          rw [show wfun (addrTo i addr) i = ((addrTo i addr i).toNat : Int) from rfl, and_u64, ofInt_toNat]
          exact addrTo_step i addr j
    · have h1 : i = 16 := by have := of_decide_eq_false h1; omega
      subst h1
      refine need_intro rfl ?_
      refine ⟨⟨rfl, rfl, fun j hj => ?_⟩, ⟨rfl, rfl, fun j hj => ?_⟩, trivial⟩ <;> simp [cfgTo, addrTo, bfun, wfun, hj]
theorem rproperP_spec (cfg : Nat → B8) (addr : Nat → B64) (h : List Blk) : Does TB 81 [.agg (pmpSeg cfg addr)] h (fun v h' => v = .agg (pmpSeg (fun j => cfgOf (cfg j)) (fun j => addr j &&& addrBits)) ∧ h' = h) := by
  refine fnX_pure TB Try.func81 rfl (by decide) rfl _ rfl (fun O on => ?_) h
  refine loop_by (A := Nat) on (fun i => [(3, .s (.int .i64 (i : Int)))]) (fun i => [.cells true (pmpSeg (cfgTo i cfg) (addrTo i addr)) 0, .cells true [.ints .u8 16 (fun _ => 0), .ints .u64 16 (fun _ => 0)] 0]) (fun i => i ≤ 16) (fun i => 16 - i) 0 (by omega) ?_ ?_
  · refine ⟨?_, ?_⟩
    · repeat' (first | exact eqvT_nil | refine eqvT_junk ?_ | refine eqvT_same ?_ | refine eqvT_int ?_ ?_)
    · refine ⟨⟨rfl, rfl, ⟨rfl, rfl, fun j _ => ?_⟩, ⟨rfl, rfl, fun j _ => ?_⟩, trivial⟩, eqvB_refl _, trivial⟩ <;> simp [cfgTo, addrTo, bfun, wfun]
  · intro i hi
    refine ifB_intro (fun h1 => ?_) (fun h1 => ?_)
    · have h1 : i < 16 := by have := of_decide_eq_true h1; omega
      refine need_intro (by omega) ?_
      refine need_intro (by omega) ?_
      refine (cleaned_spec _ _).mono ?_
      rintro v h' ⟨rfl, rfl⟩
      refine need_intro (by omega) ?_
      refine need_intro (by omega) ?_
      refine need_intro (by omega) ?_
      refine need_intro (by omega) ?_
      refine need_intro (by omega) ?_
      refine need_intro (by omega) ?_
      refine ⟨i + 1, by omega, by simp only; omega, ?_⟩
      refine ⟨?_, ?_⟩
      · repeat' (first | exact eqvT_nil | refine eqvT_junk ?_ | refine eqvT_same ?_ | refine eqvT_int ?_ ?_)
        rw [i64_in (by omega) (by omega)]; omega
      · refine ⟨⟨rfl, rfl, ⟨rfl, rfl, fun j _ => ?_⟩, ⟨rfl, rfl, fun j _ => ?_⟩, trivial⟩, eqvB_refl _, trivial⟩
        · simp only [Int.toNat_natCast]
          exact cfgTo_step i cfg j
        · simp only [Int.toNat_natCast]
          rw [show wfun (addrTo i addr) i = ((addrTo i addr i).toNat : Int) from rfl, and_u64, ofInt_toNat]
          exact addrTo_step i addr j
    · have h1 : i = 16 := by have := of_decide_eq_false h1; omega
      subst h1
      refine need_intro rfl ?_
      refine ⟨⟨rfl, rfl, fun j hj => ?_⟩, ⟨rfl, rfl, fun j hj => ?_⟩, trivial⟩ <;> simp [cfgTo, addrTo, bfun, wfun, hj]
theorem reservation_spec (v : Bool) (a : B64) (s : Int) (h : List Blk) :
    Does TB 77 [.agg (resSeg v a s)] h (fun r h' => r = .agg (resSeg (resOk v a s) (if resOk v a s then a else 0#64) (if resOk v a s then s else 0)) ∧ h' = h) := by
  refine fnX_pure TB Try.func77 rfl (by decide) rfl _ rfl (fun O on => ?_) h
  repeat (refine need_intro (by first | exact fun h => h | (simp; done) | grind) ?_)
  refine ifB_intro (fun h1 => ?_) (fun h1 => ?_)
  · rw [res_cond, Bool.not_eq_true'] at h1
    refine need_intro rfl ?_
    rw [h1]
    exact eqvE_refl _
  · rw [res_cond, Bool.not_eq_false'] at h1
    refine need_intro rfl ?_
    rw [h1]
    have hv : v = true := by
      unfold resOk at h1
      simp only [Bool.and_eq_true] at h1
      exact h1.1
    rw [hv]
    exact eqvE_refl _
theorem status_spec (m : B64) (h : List Blk) : Does TB 80 [.s (.int .u64 m.toNat)] h (fun v h' => v = .s (.int .u64 (statusOf m).toNat) ∧ h' = h) := by
  refine fnX_pure TB Try.func80 rfl (by decide) rfl _ rfl (fun O on => ?_) h
  refine need_intro (by decide) ?_
  repeat (refine need_intro (by first | exact fun h => h | (simp; done) | grind) ?_)
  have e1 : bitX .and .u64 (m.toNat : Int) 2234504 = ((m &&& 2234504#64).toNat : Int) := by rw [and_u64, ofInt_toNat]; rfl
  have e2 : bitX .and .u64 ((bitX .and .u64 (m.toNat : Int) 2234504).fdiv (2 ^ min (Int.toNat 11) IntKind.u64.bits)) 3 = (((m &&& 2234504#64) >>> 11 &&& 3#64).toNat : Int) := by
    rw [e1]
    have : (((m &&& 2234504#64).toNat : Int)).fdiv (2 ^ min (Int.toNat 11) IntKind.u64.bits) = (((m &&& 2234504#64) >>> 11).toNat : Int) := fdiv_pow _ 11
    rw [this, and_u64, ofInt_toNat]
    rfl
  refine ifB_intro (fun h1 => ?_) (fun h1 => ?_)
  · rw [e2] at h1
    simp only [Bool.cond_true_left, Bool.or_eq_true, beq_iff_eq, beq_lit, Int.reduceLE, Int.reducePow, Int.reduceLT, BitVec.reduceOfInt] at h1
    refine ⟨rfl, ?_⟩
    rw [e1, andNot_u64, ofInt_toNat, or_u64, ofInt_toNat]
    simp only [BitVec.reduceOfInt]
    rw [status_yes m h1]
  · rw [e2] at h1
    simp only [Bool.cond_true_left, Bool.or_eq_false_iff, beq_eq_false_iff_ne, beq_lit, Int.reduceLE, Int.reducePow, Int.reduceLT, BitVec.reduceOfInt] at h1
    refine ⟨rfl, ?_⟩
    rw [e1, or_u64, ofInt_toNat]
    simp only [BitVec.reduceOfInt]
    rw [status_no m (by simp only [not_or]; exact h1)]
theorem zero_first (x : Nat → B64) (j : Nat) : (if j = 0 then (0 : Int) else wfun x j) = wfun (fun j => if j = 0 then 0#64 else x j) j := by
  simp only [wfun]
  split <;> rfl
theorem mpp_nat (m : B64) : ((if m &&& 6144#64 = 6144#64 then (6144 : Int) else 0)) = ((if m &&& 6144#64 = 6144#64 then 6144#64 else 0#64 : B64).toNat : Int) := by split <;> rfl
set_option maxRecDepth 100000 in
theorem proper_spec (c : CpuV) (h : List Blk) : Does TB 38 [.agg c.segs] h (fun v h' => v = .agg c.proper.segs ∧ h' = h) := by
  refine fnX_pure TB Try.func38 rfl (by decide) rfl _ rfl (fun O on => ?_) h
  refine need_intro (by decide) ?_
  refine need_intro (by decide) ?_
  have hst : ∀ x : Int, x = (if c.mstatus &&& 6144#64 = 6144#64 then 6144 else 0) → bitX .or .u64 (bitX .or .u64 (bitX .and .u64 (c.mstatus.toNat : Int) 2228360) x) 8589934592 = ((statusOf c.mstatus).toNat : Int) := by
    rintro x rfl
    rw [mpp_nat, and_u64, or_u64]
    simp only [ofInt_toNat, or_u64, BitVec.reduceOfInt]
    rfl
  refine ifB_intro (fun h1 => ?_) (fun h1 => ?_) <;> refine ifB_intro (fun h2 => ?_) (fun h2 => ?_)
  all_goals
    refine (properP_spec c.cfg c.addr _).mono ?_
    rintro _ _ ⟨rfl, rfl⟩
    refine need_intro rfl ?_
    refine (reservation_spec c.rvalid c.raddr c.rsize _).mono ?_
    rintro _ _ ⟨rfl, rfl⟩
    refine need_intro rfl ?_
    refine need_intro rfl ?_
    rw [and_u64, ofInt_toNat] at h2
    simp only [BitVec.reduceOfInt, bne_lit, Int.reduceLE, Int.reducePow, Int.reduceLT, bne_iff_ne, bne_eq_false_iff_eq, ne_eq] at h1 h2
    show eqvS _ _
    repeat' (first | exact eqvS_nil | refine eqvS_same ?_ | refine eqvS_int ?_ ?_ | refine eqvS_ints ?_ ?_)
  all_goals first
    | (simp only [andNot_u64, and_u64, ofInt_toNat, BitVec.reduceOfInt]; rfl)
    | (intro j _; exact zero_first c.x j)
    | (refine hst _ ?_; simp [h2]; done)
    | (refine hst _ ?_; rw [and_u64, ofInt_toNat]; simp [h2]; done)
    | simp [CpuV.proper, h1]
set_option maxRecDepth 100000 in
theorem rproper_spec (c : CpuV) (h : List Blk) : Does TB 45 [.agg c.segs] h (fun v h' => v = .agg c.proper.segs ∧ h' = h) := by
  refine fnX_pure TB Try.func45 rfl (by decide) rfl _ rfl (fun O on => ?_) h
  refine need_intro (by decide) ?_
  refine need_intro (by decide) ?_
  refine ifB_intro (fun h1 => ?_) (fun h1 => ?_)
  all_goals
    refine (status_spec c.mstatus _).mono ?_
    rintro _ _ ⟨rfl, rfl⟩
    refine (rproperP_spec c.cfg c.addr _).mono ?_
    rintro _ _ ⟨rfl, rfl⟩
    refine need_intro rfl ?_
    refine need_intro rfl ?_
    repeat (refine need_intro (by first | exact fun h => h | (simp; done) | grind) ?_)
    refine ifB_intro (fun h2 => ?_) (fun h2 => ?_)
  all_goals
    rw [rres_cond] at h2
    simp only [Bool.not_eq_true', Bool.not_eq_false', bne_iff_ne, bne_eq_false_iff_eq, ne_eq] at h1 h2
    repeat (refine need_intro rfl ?_)
    show eqvS _ _
    repeat' (first | exact eqvS_nil | refine eqvS_same ?_ | refine eqvS_bool ?_ ?_ | refine eqvS_int ?_ ?_ | refine eqvS_ints ?_ ?_)
  all_goals first
    | (simp only [andNot_u64, and_u64, ofInt_toNat, BitVec.reduceOfInt]; rfl)
    | (intro j _; exact zero_first c.x j)
    | (simp [CpuV.proper, h1]; done)
    | (simp [CpuV.proper, h2]; done)
    | (simp only [CpuV.proper, h2]; exact resOk_valid h2)
end Go.Proofs.Ytghcdkpgcanpgaa

/- Save: the program's and the document's, of every whole. Contracts of functions. No condition. -/
namespace Go.Anv
open Go
def magic : List B8 := [0x41#8, 0x4e#8, 0x56#8, 0x49#8, 0x4c#8, 0x53#8, 0x01#8, 0x5a#8]
/-- The ram's bytes behind others; the sum's. -/
def ramOn (n : Nat) (p : Nat → B8) (L : List B8) : List B8 := L ++ le (BitVec.ofNat 64 n) 4 ++ Go.Proofs.Ytghcdkpgcanpgaa.pagesN p n ((n + 255) / 256) ++ le 65535#64 2
def sumOn (L : List B8) : List B8 := L ++ le ((~~~ crcN (fun j => L.getD j 0#8) L.length).setWidth 64) 4
/-- The snapshot of a whole. -/
def snap (cp : CpuV) (s : BusV) (ram inp out : Nat → B8) : List B8 := sumOn (ramOn s.nr ram (devOn s inp out (cpuOn cp.proper magic)))
end Go.Anv
namespace Go.Proofs.Ytghcdkpgcanpgaa
open Go Go.Anv
set_option maxRecDepth 100000 in
theorem bytes_nil (m : Bool) (P : List B8) (k o cp sp : Nat) (f : Nat → Int) (hf : ∀ j, j < P.length → f (o + j) = bf P j) (hk : o + P.length ≤ k) (hP : P.length ≤ 70368744177664) :
    Does TB 39 [.s (.ptr 0 0), .s (.gs 1 o P.length cp)] [.cells true [.one .nilslice] 0, .cells m [.ints .u8 k f] sp]
      (fun r h' => ∃ c', P.length ≤ c' ∧ r = .tuple [] ∧ h' = [wb 2 P c', .cells m [.ints .u8 k f] sp, lb P c']) := by
  refine fnX_does TB Try.func39 rfl (by decide) (fun O on hO => ?_)
  refine need_intro ⟨by show (0 : Int) ≤ ((P.length : Nat) : Int); omega, room5 _ (by show P.length ≤ _; omega)⟩ ?_
  intro c1 hc1
  have hc1 : P.length ≤ c1 := hc1
  refine need_intro ⟨by omega, by show (0 : Int) ≤ ((P.length : Nat) : Int); omega, by show ((P.length : Nat) : Int) ≤ (c1 : Int); omega⟩ ?_
  have hsk : skip c1 0 0 1 = 0 := by
    unfold skip
    split <;> rfl
  refine need_intro ⟨hk, by show skip c1 0 0 1 + (P.length - 0) ≤ P.length; omega⟩ ?_
  refine ⟨_, _, [0, 1, 2], ⟨c1, hc1, rfl, rfl⟩, by decide, ⟨rfl, rfl, trivial⟩, trivial, ?_⟩
  refine ⟨⟨_, rfl, eqvB_refl _⟩, ⟨_, rfl, eqvB_refl _⟩, ⟨_, rfl, ⟨rfl, ?_, ⟨⟨rfl, rfl, ?_⟩, eqvS_nil⟩⟩⟩, trivial⟩
  · show (c1 - P.length) * 1 = c1 - P.length
    omega
  · intro j hj
    have hj : j < P.length := hj
    show putF (skip c1 0 0 1) (min P.length (P.length - 0)) (shf o f) (fun _ => 0) j = bf P j
    rw [hsk, Nat.sub_zero, Nat.min_self]
    unfold putF
    rw [if_pos (by omega)]
    show f (o + (j - 0)) = _
    rw [Nat.sub_zero]
    exact hf j hj
set_option maxRecDepth 100000 in
theorem head_spec : Does TB 44 [] [] (fun v h' => v = .s (.gs 0 0 8 8) ∧ h' = [lb magic 8]) := by
  refine fnX_does TB Try.func44 rfl (by decide) (fun O on hO => ?_)
  refine ⟨_, _, [0], ⟨rfl, rfl⟩, by decide, trivial, ⟨rfl, rfl, rfl, rfl⟩, ⟨_, rfl, ⟨rfl, rfl, ⟨⟨rfl, rfl, ?_⟩, trivial⟩⟩⟩, trivial⟩
  intro j hj
  show litF [65, 78, 86, 73, 76, 83, 1, 90] j = bf magic j
  have hj : j < 8 := hj
  match j, hj with
  | 0, _ => rfl
  | 1, _ => rfl
  | 2, _ => rfl
  | 3, _ => rfl
  | 4, _ => rfl
  | 5, _ => rfl
  | 6, _ => rfl
  | 7, _ => rfl
theorem ramOn_len (n : Nat) (p : Nat → B8) (L : List B8) : (ramOn n p L).length ≤ L.length + 4 + 258 * ((n + 255) / 256) + 2 := by
  have := pagesN_len p n ((n + 255) / 256)
  simp only [ramOn, List.length_append, le_len]
  omega
/-- What Save makes of a whole: in the tuple of a call that is handed the three lists. -/
def Saved (cp : CpuV) (s : BusV) (l : Lists) (code : Int) (v : EV) (h' : List Blk) : Prop :=
  match s.can with
  | false => v = .tuple [.s .nilslice, .s (.int .i64 162)] ∧ h' = l.blks s
  | true => ∃ c', (snap cp s l.ram l.inp l.out).length ≤ c' ∧ (snap cp s l.ram l.inp l.out).length ≤ 1048576 ∧ v = .tuple [.s (.gs 3 0 (snap cp s l.ram l.inp l.out).length c'), .s (.int .i64 code)] ∧ h' = l.blks s ++ [lb (snap cp s l.ram l.inp l.out) c']
theorem can_bounds {s : BusV} (h : s.can = true) : s.nr ≤ 65536 ∧ s.ni ≤ 64 ∧ s.no ≤ 4096 := by
  simp only [BusV.can, decide_eq_true_eq] at h
  omega
set_option maxRecDepth 100000 in
set_option maxHeartbeats 4000000 in
theorem save_spec (cp : CpuV) (s : BusV) (l : Lists) (cr ci co : Nat) (hni : s.ni < 2 ^ 62) (hno : s.no < 2 ^ 62) (hnr : s.nr < 2 ^ 62) (hcr : s.nr ≤ cr) :
    Does TB 17 [.agg (wsegs cp s (.gs 0 0 s.nr cr) (.gs 1 0 s.ni ci) (.gs 2 0 s.no co))] (l.blks s) (Saved cp s l 0) := by
  refine fnX_does TB Try.func17 rfl (by decide) (fun O on hO => ?_)
  have hck := check_spec cp s l cr ci co hni hno hnr
  unfold Saved
  cases hc : s.can with
  | false =>
    rw [hc] at hck
    refine Does.at hck [0, 1, 2] rfl ⟨rfl, rfl, rfl, trivial⟩ (by decide) ?_ ?_
    · rintro v h' ⟨_, rfl⟩
      exact ⟨.inr (.inr rfl), .inr (.inr rfl), .inr (.inr rfl), trivial⟩
    · rintro v h' ⟨rfl, rfl⟩
      exact ⟨_, _, [0, 1, 2], ⟨rfl, rfl⟩, by decide, ⟨rfl, rfl, rfl, trivial⟩, eqvE_refl _, ⟨⟨_, rfl, eqvB_refl _⟩, ⟨_, rfl, eqvB_refl _⟩, ⟨_, rfl, eqvB_refl _⟩, trivial⟩⟩
  | true =>
    rw [hc] at hck
    obtain ⟨br, bi, bo⟩ := can_bounds hc
    refine Does.at hck [0, 1, 2] rfl ⟨rfl, rfl, rfl, trivial⟩ (by decide) ?_ ?_
    · rintro v h' ⟨_, rfl⟩
      exact ⟨.inr (.inr rfl), .inr (.inr rfl), .inr (.inr rfl), trivial⟩
    · rintro v h' ⟨rfl, rfl⟩
      refine (proper_spec cp _).mono ?_
      rintro v h' ⟨rfl, rfl⟩
      refine need_intro rfl ?_
      refine need_intro (by decide) ?_
      refine Does.args (b := [.s (.ptr 4 0), .s (.gs 5 0 8 8)]) ⟨eqvE_refl _, ⟨rfl, rfl, rfl, rfl⟩, trivial⟩ ?_
      refine Does.at (bytes_nil true magic 8 0 8 0 (litF [65, 78, 86, 73, 76, 83, 1, 90]) ?_ (by decide) (by decide)) [4, 5] rfl ⟨rfl, rfl, trivial⟩ (by decide) ?_ ?_
      · intro j hj
        have hj : j < 8 := hj
        match j, hj with
        | 0, _ => rfl
        | 1, _ => rfl
        | 2, _ => rfl
        | 3, _ => rfl
        | 4, _ => rfl
        | 5, _ => rfl
        | 6, _ => rfl
        | 7, _ => rfl
      · rintro v h' ⟨c', _, _, rfl⟩
        exact ⟨.inl rfl, .inr (.inr rfl), .inl rfl, trivial⟩
      · rintro v h' ⟨c1, k1, rfl, rfl⟩
        refine Does.at (both_spec s cp.proper true l.mi l.mo l.mr l.ram l.inp l.out cr ci co 0 l.si l.so l.sr magic c1 (by decide) k1 bi bo) [4, 3, 6, 1, 2, 0] rfl ⟨rfl, rfl, rfl, rfl, rfl, rfl, trivial⟩ (by decide) ?_ ?_
        · rintro v h' ⟨c', _, _, _, rfl⟩
          exact ⟨.inl rfl, .inl rfl, .inr (.inl rfl), .inr (.inr rfl), .inr (.inr rfl), .inr (.inr rfl), .inl rfl, trivial⟩
        · rintro v h' ⟨c2, k2, b2, rfl, rfl⟩
          generalize e2 : devOn s l.inp l.out (cpuOn cp.proper magic) = L2 at k2 b2 ⊢
          refine Does.at (pages_spec L2 c2 l.mr s.nr s.nr cr l.sr (bfun l.ram) l.ram (fun _ _ => rfl) (Nat.le_refl _) hcr (by omega) (by omega) k2) [4, 7, 0] rfl ⟨rfl, rfl, rfl, trivial⟩ (by decide) ?_ ?_
          · rintro v h' ⟨c', _, _, rfl⟩
            exact ⟨.inl rfl, .inr (.inl rfl), .inr (.inr rfl), .inl rfl, trivial⟩
          · rintro v h' ⟨c3, k3, rfl, rfl⟩
            have l3 := ramOn_len s.nr l.ram L2
            have b3 : (ramOn s.nr l.ram L2).length ≤ 1000000 := by omega
            clear l3
            generalize e3 : L2 ++ le (BitVec.ofNat 64 s.nr) 4 ++ pagesN l.ram s.nr ((s.nr + 255) / 256) ++ le 65535#64 2 = L3 at k3 ⊢
            have e3 : ramOn s.nr l.ram L2 = L3 := e3
            rw [e3] at b3
            refine Does.at (sum_spec true L3.length 0 L3.length c3 (c3 - L3.length) (bf L3) (fun j => L3.getD j 0#8) (by omega) (by omega) (fun j _ => by rw [Nat.zero_add]; rfl)) [8] rfl ⟨rfl, trivial⟩ (by decide) ?_ ?_
            · rintro v h' ⟨_, rfl⟩
              exact ⟨.inr (.inr rfl), trivial⟩
            · rintro v h' ⟨rfl, rfl⟩
              refine number_k 4 8 (L := L3) (c := c3) ((~~~ crcN (fun j => L3.getD j 0#8) L3.length).setWidth 64) 4 (wide32 _) (by decide) (by omega) k3 rfl rfl (by decide) ?_
              intro L4 c4 e4 l4 k4
              have ef : L4 = snap cp s l.ram l.inp l.out := by
                rw [e4, ← e3, ← e2]; rfl
              rw [← ef]
              exact ⟨.tuple [.s (.gs 3 0 L4.length c4), .s (.int .i64 0)], l.blks s ++ [lb L4 c4], [0, 1, 2, 9], ⟨c4, k4, by omega, rfl, rfl⟩, by decide, ⟨rfl, rfl, rfl, trivial⟩, eqvE_refl _, ⟨⟨_, rfl, eqvB_refl _⟩, ⟨_, rfl, eqvB_refl _⟩, ⟨_, rfl, eqvB_refl _⟩, ⟨_, rfl, eqvB_refl _⟩, trivial⟩⟩
end Go.Proofs.Ytghcdkpgcanpgaa

/- The document's Save, of every whole. Contract of a function. No condition. -/
namespace Go.Proofs.Ytghcdkpgcanpgaa
open Go Go.Anv
set_option maxRecDepth 100000 in
set_option maxHeartbeats 4000000 in
theorem rsave_spec (cp : CpuV) (s : BusV) (l : Lists) (cr ci co : Nat) (hni : s.ni < 2 ^ 62) (hno : s.no < 2 ^ 62) (hnr : s.nr < 2 ^ 62) (hcr : s.nr ≤ cr) (hei : ends l.inp s.ni) (heo : ends l.out s.no) :
    Does TB 18 [.agg (wsegs cp s (.gs 0 0 s.nr cr) (.gs 1 0 s.ni ci) (.gs 2 0 s.no co))] (l.blks s) (Saved cp s l 0) := by
  refine fnX_does TB Try.func18 rfl (by decide) (fun O on hO => ?_)
  have hck := rcheck_spec cp s l cr ci co hni hno hnr
  unfold Saved
  cases hc : s.can with
  | false =>
    rw [hc] at hck
    refine Does.at hck [0, 1, 2] rfl ⟨rfl, rfl, rfl, trivial⟩ (by decide) ?_ ?_
    · rintro v h' ⟨_, rfl⟩
      exact ⟨.inr (.inr rfl), .inr (.inr rfl), .inr (.inr rfl), trivial⟩
    · rintro v h' ⟨rfl, rfl⟩
      exact ⟨_, _, [0, 1, 2], ⟨rfl, rfl⟩, by decide, ⟨rfl, rfl, rfl, trivial⟩, eqvE_refl _, ⟨⟨_, rfl, eqvB_refl _⟩, ⟨_, rfl, eqvB_refl _⟩, ⟨_, rfl, eqvB_refl _⟩, trivial⟩⟩
  | true =>
    rw [hc] at hck
    obtain ⟨br, bi, bo⟩ := can_bounds hc
    refine Does.at hck [0, 1, 2] rfl ⟨rfl, rfl, rfl, trivial⟩ (by decide) ?_ ?_
    · rintro v h' ⟨_, rfl⟩
      exact ⟨.inr (.inr rfl), .inr (.inr rfl), .inr (.inr rfl), trivial⟩
    · rintro v h' ⟨rfl, rfl⟩
      refine Does.at head_spec [] rfl trivial (by decide) ?_ ?_
      · rintro v h' ⟨_, rfl⟩
        exact ⟨.inl rfl, trivial⟩
      · rintro v h' ⟨rfl, rfl⟩
        refine (rproper_spec cp _).mono ?_
        rintro v h' ⟨rfl, rfl⟩
        refine need_intro rfl ?_
        refine Does.at (rcpu_spec cp.proper magic 8 (by decide) (by decide)) [4] rfl ⟨rfl, trivial⟩ (by decide) ?_ ?_
        · rintro v h' ⟨c', _, _, _, rfl⟩
          exact ⟨.inr (.inl rfl), .inl rfl, trivial⟩
        · rintro v h' ⟨c1, k1, b1, rfl, rfl⟩
          generalize e1 : cpuOn cp.proper magic = L1 at k1 b1 ⊢
          refine Does.at (rdev_spec s l.mi l.mo l.mr l.ram l.inp l.out cr ci co l.si l.so l.sr L1 c1 (by omega) k1 bi bo hei heo) [6, 1, 2, 0] rfl ⟨rfl, rfl, rfl, rfl, trivial⟩ (by decide) ?_ ?_
          · rintro v h' ⟨c', _, _, _, rfl⟩
            exact ⟨.inr (.inl rfl), .inr (.inr rfl), .inr (.inr rfl), .inr (.inr rfl), .inl rfl, trivial⟩
          · rintro v h' ⟨c2, k2, b2, rfl, rfl⟩
            generalize e2 : devOn s l.inp l.out L1 = L2 at k2 b2 ⊢
            refine Does.at (rram_spec L2 c2 l.mr s.nr s.nr cr l.sr (bfun l.ram) l.ram (fun _ _ => rfl) (Nat.le_refl _) hcr (by omega) (by omega) k2) [7, 0] rfl ⟨rfl, rfl, trivial⟩ (by decide) ?_ ?_
            · rintro v h' ⟨c', _, _, rfl⟩
              exact ⟨.inr (.inl rfl), .inr (.inr rfl), .inl rfl, trivial⟩
            · rintro v h' ⟨c3, k3, rfl, rfl⟩
              have l3 := ramOn_len s.nr l.ram L2
              have b3 : (ramOn s.nr l.ram L2).length ≤ 1000000 := by omega
              clear l3
              generalize e3 : L2 ++ le (BitVec.ofNat 64 s.nr) 4 ++ pagesN l.ram s.nr ((s.nr + 255) / 256) ++ le 65535#64 2 = L3 at k3 ⊢
              have e3 : ramOn s.nr l.ram L2 = L3 := e3
              rw [e3] at b3
              refine Does.at (rSum_spec true L3.length 0 L3.length c3 (c3 - L3.length) (bf L3) (fun j => L3.getD j 0#8) (by omega) (by omega) (fun j _ => by rw [Nat.zero_add]; rfl)) [8] rfl ⟨rfl, trivial⟩ (by decide) ?_ ?_
              · rintro v h' ⟨_, rfl⟩
                exact ⟨.inr (.inr rfl), trivial⟩
              · rintro v h' ⟨rfl, rfl⟩
                refine num_k 8 (L := L3) (c := c3) ((~~~ crcN (fun j => L3.getD j 0#8) L3.length).setWidth 64) 4 (wide32 _) (by decide) (by omega) k3 rfl rfl ?_
                intro L4 c4 e4 l4 k4
                have ef : L4 = snap cp s l.ram l.inp l.out := by
                  rw [e4, ← e3, ← e2, ← e1]; rfl
                rw [← ef]
                exact ⟨.tuple [.s (.gs 3 0 L4.length c4), .s (.int .i64 0)], l.blks s ++ [lb L4 c4], [0, 1, 2, 9], ⟨c4, k4, by omega, rfl, rfl⟩, by decide, ⟨rfl, rfl, rfl, trivial⟩, eqvE_refl _, ⟨⟨_, rfl, eqvB_refl _⟩, ⟨_, rfl, eqvB_refl _⟩, ⟨_, rfl, eqvB_refl _⟩, ⟨_, rfl, eqvB_refl _⟩, trivial⟩⟩
end Go.Proofs.Ytghcdkpgcanpgaa

/- The law's own: loose, same, kept, buses, alike. Contracts of functions. No condition. -/
namespace Go.Anv
open Go
theorem bytesOf_congr {n : Nat} {f g : Nat → Int} (h : ∀ j, j < n → f j = g j) : bytesOf n f = bytesOf n g := by
  unfold bytesOf
  congr 1
  exact List.map_congr_left fun j hj => h j (List.mem_range.1 hj)
theorem beq_bytes (s : ByteArray) : (s == s) = true := by
  have h := beq_toListBytes s s
  simpa using h.symm
def mrk (i : Nat) : B8 := BitVec.ofNat 8 (128 + i)
/-- Bytes with marks behind them. -/
@[irreducible] def marked (L : List B8) (n : Nat) : List B8 := manyN (fun i => [mrk i]) L n
theorem marked_zero (L : List B8) : marked L 0 = L := by unfold marked; rfl
theorem marked_succ (L : List B8) (i : Nat) : marked L (i + 1) = marked L i ++ [mrk i] := by unfold marked; rfl
theorem marked_len (L : List B8) (n : Nat) : (marked L n).length = L.length + n := by
  have := manyN_len (g := fun i => [mrk i]) (L := L) (w := 1) (fun _ => rfl) n
  unfold marked; omega
end Go.Anv
namespace Go.Proofs.Ytghcdkpgcanpgaa
open Go Go.Anv
set_option maxRecDepth 100000 in
theorem same_spec (m1 m2 : Bool) (o1 o2 n c1 c2 k1 k2 s1 s2 : Nat) (f1 f2 : Nat → Int) (h1 : o1 + n ≤ k1) (h2 : o2 + n ≤ k2) (he : ∀ j, j < n → f1 (o1 + j) = f2 (o2 + j)) :
    Does TB 19 [.s (.gs 0 o1 n c1), .s (.gs 1 o2 n c2)] [.cells m1 [.ints .u8 k1 f1] s1, .cells m2 [.ints .u8 k2 f2] s2] (fun v h' => v = .s (.bool true) ∧ h' = [.cells m1 [.ints .u8 k1 f1] s1, .cells m2 [.ints .u8 k2 f2] s2]) := by
  refine fnX_does TB Try.func19 rfl (by decide) (fun O on hO => ?_)
  refine need_intro h1 ?_
  refine need_intro h2 ?_
  refine ⟨_, _, [0, 1], ⟨rfl, rfl⟩, by decide, ⟨rfl, rfl, trivial⟩, ?_, ⟨⟨_, rfl, eqvB_refl _⟩, ⟨_, rfl, eqvB_refl _⟩, trivial⟩⟩
  show (bytesOf n (shf o1 f1) == bytesOf n (shf o2 f2)) = true
  rw [bytesOf_congr (f := shf o1 f1) (g := shf o2 f2) he]
  exact beq_bytes _
theorem same_k {h : List Blk} {K : EV → List Blk → Prop} (b1 b2 : Nat) {m1 m2 : Bool} {o1 o2 n n' c1 c2 k1 k2 s1 s2 : Nat} {f1 f2 : Nat → Int} (hn : n' = n) (hb1 : nthB h b1 = some (.cells m1 [.ints .u8 k1 f1] s1)) (hb2 : nthB h b2 = some (.cells m2 [.ints .u8 k2 f2] s2)) (hne : b1 ≠ b2)
    (h1 : o1 + n ≤ k1) (h2 : o2 + n ≤ k2) (he : ∀ j, j < n → f1 (o1 + j) = f2 (o2 + j))
    (hK : updBK h b1 (.cells m1 [.ints .u8 k1 f1] s1) fun h1 => updBK h1 b2 (.cells m2 [.ints .u8 k2 f2] s2) fun h2 => K (.s (.bool true)) h2) :
    Does TB 19 [.s (.gs b1 o1 n c1), .s (.gs b2 o2 n' c2)] h K := by
  subst hn
  refine Does.at (same_spec m1 m2 o1 o2 n' c1 c2 k1 k2 s1 s2 f1 f2 h1 h2 he) [b1, b2] rfl ⟨hb1, hb2, trivial⟩ (by simp [hne]) ?_ ?_
  · rintro v h' ⟨_, rfl⟩
    exact ⟨.inr (.inr rfl), .inr (.inr rfl), trivial⟩
  · rintro v h' ⟨rfl, rfl⟩
    rw [updBK_eq, updBK_eq] at hK
    rw [forceH_eq, forceE_eq]
    have e : mergeB h [b1, b2] (renH (lk [b1, b2] h.length) [.cells m1 [.ints .u8 k1 f1] s1, .cells m2 [.ints .u8 k2 f2] s2]) = updB (updB h b1 (.cells m1 [.ints .u8 k1 f1] s1)) b2 (.cells m2 [.ints .u8 k2 f2] s2) := by
      show updB (updB h b1 _) b2 _ ++ [] = _
      rw [List.append_nil]; rfl
    rw [e]
    exact hK
theorem same_nil (h : List Blk) : Does TB 19 [.s .nilslice, .s .nilslice] h (fun v h' => v = .s (.bool true) ∧ h' = h) := by
  refine fnX_pure TB Try.func19 rfl (by decide) rfl _ rfl (fun O on => ?_) h
  refine need_intro ⟨trivial, rfl⟩ ?_
  refine need_intro ⟨trivial, rfl⟩ ?_
  exact eqvE_refl _
set_option maxRecDepth 100000 in
theorem loose_spec (m : Bool) (n c sp : Nat) (q : Nat → B8) (hn : n ≤ 140737488355200) :
    Does TB 16 [.s (.gs 0 0 n c)] [bblk m n q sp] (fun v h' => ∃ c', (marked (lst q n) 64).length ≤ c' ∧ v = .s (.gs 1 0 (n + 64) c') ∧ h' = [bblk m n q sp, lb (marked (lst q n) 64) c']) := by
  refine fnX_does TB Try.func16 rfl (by decide) (fun O on hO => ?_)
  refine need_intro ⟨by show 0 + n ≤ n; omega, rfl, rfl, room5 _ (by show 0 + n ≤ _; omega)⟩ ?_
  intro c1 k1
  replace k1 : 0 + n ≤ c1 := k1
  refine loop_in (A := Nat × Nat) on (fun i => [(3, .s (.gs 1 0 (n + i.1) i.2)), (4, .s (.int .i64 (i.1 : Int))), (5, .junk), (7, .junk)]) (fun i => [bblk m n q sp, lb (marked (lst q n) i.1) i.2])
    (fun i => i.1 ≤ 64 ∧ n + i.1 ≤ i.2) (fun i => 64 - i.1) (0, c1) ⟨Nat.zero_le _, by omega⟩ [0, 2] ?_ ?_
  · rw [hO]
    refine ⟨by decide, ⟨rfl, trivial⟩, ?_, ⟨_, rfl, eqvB_refl _⟩, ⟨_, rfl, ?_⟩, trivial⟩
    · repeat' (first | exact eqvT_nil | refine eqvT_junk ?_ | refine eqvT_same ?_ | refine eqvT_int ?_ ?_ | refine eqvT_gs ⟨rfl, rfl, ?_, rfl⟩ ?_)
      exact Nat.zero_add n
    · have h0 : (marked (lst q n) 0).length = n := by rw [marked_zero]; exact lst_len q n
      refine ⟨rfl, ?_, ⟨rfl, (Nat.zero_add n).trans h0.symm, ?_⟩, trivial⟩
      · show (c1 - (0 + n)) * 1 = c1 - (marked (lst q n) 0).length
        rw [h0]; omega
      · intro j hj
        replace hj : j < 0 + n := hj
        show catF 0 (litF []) (shf 0 (bfun q)) j = bf (marked (lst q n) 0) j
        rw [marked_zero]
        unfold catF shf
        rw [if_neg (Nat.not_lt_zero j), Nat.sub_zero, Nat.zero_add]
        exact bf_lst q n j (by omega)
  · rintro ⟨i, cap⟩ ⟨hi, hcap⟩
    replace hi : i ≤ 64 := hi
    replace hcap : n + i ≤ cap := hcap
    have hl : (marked (lst q n) i).length = n + i := by rw [marked_len, lst_len]
    refine ifB_intro (fun h1 => ?_) (fun h1 => ?_)
    · have hlt : i < 64 := by have h2 := of_decide_eq_true h1; omega
      refine need_intro ⟨by show 0 + 1 ≤ 1; omega, by show (marked (lst q n) i).length + 0 = (n + i) * 1; omega, by show cap * 1 = (n + i) * 1 + (cap - (marked (lst q n) i).length); omega, room5 _ (by show n + i + 1 ≤ _; omega)⟩ ?_
      intro c2 k2
      replace k2 : n + i + 1 ≤ c2 := k2
      have hs : marked (lst q n) (i + 1) = marked (lst q n) i ++ [mrk i] := marked_succ _ _
      refine ⟨(i + 1, c2), ⟨?_, ?_⟩, ?_, [0, 3], ?_⟩
      · show i + 1 ≤ 64; omega
      · show n + (i + 1) ≤ c2; omega
      · show 64 - (i + 1) < 64 - i; omega
      · rw [hO]
        refine ⟨by decide, ⟨rfl, trivial⟩, ?_, ⟨_, rfl, eqvB_refl _⟩, ⟨_, rfl, ?_⟩, trivial⟩
        · repeat' (first | exact eqvT_nil | refine eqvT_junk ?_ | refine eqvT_same ?_ | refine eqvT_int ?_ ?_ | refine eqvT_gs ⟨rfl, rfl, ?_, rfl⟩ ?_)
          rw [i64_in (by omega) (by omega)]; rfl
        · show eqvB (.cells true [.ints .u8 ((marked (lst q n) i).length + 1) (catF (marked (lst q n) i).length _ _)] _) (lb (marked (lst q n) (i + 1)) c2)
          rw [hs]
          refine lb_eqv (marked (lst q n) i) [mrk i] c2 (n := (marked (lst q n) i).length) (m := 1) rfl rfl ?_ (fun _ _ => rfl) ?_
          · show (c2 - (n + i + 1)) * 1 = c2 - ((marked (lst q n) i).length + 1); omega
          · refine bf_one ?_
            show IntKind.u8.wrap (IntKind.i64.wrap (128 + (i : Int))) = ((mrk i).toNat : Int)
            rw [i64_in (by omega) (by omega), wrap_u8, mrk, BitVec.toNat_ofInt, BitVec.toNat_ofNat]
            omega
    · have hlt : i = 64 := by have h2 := of_decide_eq_false h1; omega
      subst hlt
      exact ⟨.s (.gs 1 0 (n + 64) cap), _, [0, 1], ⟨cap, by rw [hl]; exact hcap, rfl, rfl⟩, by decide, ⟨rfl, trivial⟩, ⟨rfl, rfl, rfl, rfl⟩, ⟨⟨_, rfl, eqvB_refl _⟩, ⟨_, rfl, eqvB_refl _⟩, trivial⟩⟩
theorem bf_left {L Y : List B8} {j : Nat} (h : j < L.length) : bf (L ++ Y) j = bf L j := by
  simp [bf, List.getD_eq_getElem?_getD, List.getElem?_append_left h]
theorem marked_left (L : List B8) {j : Nat} (h : j < L.length) : ∀ i, bf (marked L i) j = bf L j
  | 0 => by rw [marked_zero]
  | i + 1 => by
    rw [marked_succ]
    rw [bf_left (by rw [marked_len]; omega), marked_left L h i]
theorem marked_at (L : List B8) {k : Nat} : ∀ i, k < i → bf (marked L i) (L.length + k) = (mrk k).toNat
  | i + 1, h => by
    rw [marked_succ]
    by_cases hk : k < i
    · rw [bf_left (by rw [marked_len]; omega), marked_at L i hk]
    · have : k = i := by omega
      subst this
      have hl := marked_len L k
      simp only [bf, List.getD_eq_getElem?_getD]
      rw [List.getElem?_append_right (by omega), hl, Nat.sub_self]
      rfl
set_option maxRecDepth 100000 in
theorem kept_spec (m : Bool) (n c cl cp sp : Nat) (q : Nat → B8) (hn : n ≤ 140737488355200) (hcl : n + 64 ≤ cl) :
    Does TB 20 [.s (.gs 0 0 (n + 64) cl), .s (.gs 1 0 n cp)] [lb (marked (lst q n) 64) c, bblk m n q sp] (fun v h' => v = .s (.bool true) ∧ h' = [lb (marked (lst q n) 64) c, bblk m n q sp]) := by
  refine fnX_does TB Try.func20 rfl (by decide) (fun O on hO => ?_)
  have hl : (marked (lst q n) 64).length = n + 64 := by rw [marked_len, lst_len]
  refine need_intro ⟨by omega, by show (0 : Int) ≤ (n : Int); omega, by show (n : Int) ≤ (cl : Int); omega⟩ ?_
  have hsk : skip cl 0 0 1 = 0 := by unfold skip; split <;> rfl
  refine Does.args (b := [.s (.gs 0 0 n cl), .s (.gs 1 0 n cp)]) ⟨⟨rfl, hsk, by show (n : Int).toNat - 0 = n; omega, rfl⟩, eqvE_refl _, trivial⟩ ?_
  refine same_k 0 1 rfl rfl rfl (by decide) (by omega) (by omega) ?_ ?_
  · intro j hj
    rw [Nat.zero_add, marked_left (lst q n) (by rw [lst_len]; exact hj)]
    exact (bf_lst q n j hj).symm
  refine loop_by (A := Nat) on (fun i => [(5, .s (.int .i64 (i : Int)))]) (fun _ => [lb (marked (lst q n) 64) c, bblk m n q sp]) (fun i => i ≤ 64) (fun i => 64 - i) 0 (by omega) ?_ ?_
  · refine ⟨?_, ?_⟩
    · repeat' (first | exact eqvT_nil | refine eqvT_junk ?_ | refine eqvT_same ?_ | refine eqvT_int ?_ ?_)
    · exact eqvH_same (eqvH_same eqvH_nil)
  · intro i hi
    refine ifB_intro (fun h1 => ?_) (fun h1 => ?_)
    · have hlt : i < 64 := by have h2 := of_decide_eq_true h1; omega
      have hx : IntKind.i64.wrap ((n : Int) + (i : Int)) = ((n + i : Nat) : Int) := by rw [i64_in (by omega) (by omega)]; rfl
      refine need_intro ⟨by rw [hx]; omega, by rw [hx]; show ((n + i : Nat) : Int) < ((n + 64 : Nat) : Int); omega⟩ ?_
      refine need_intro (by rw [hx, hl]; omega) ?_
      have hv : bf (marked (lst q n) 64) (0 + (IntKind.i64.wrap ((n : Int) + (i : Int))).toNat) = IntKind.u8.wrap (IntKind.i64.wrap (128 + (i : Int))) := by
        rw [hx, i64_in (by omega) (by omega), Nat.zero_add]
        have := marked_at (lst q n) 64 hlt
        rw [lst_len] at this
        show bf _ (n + i) = _
        rw [this, wrap_u8, mrk, BitVec.toNat_ofInt, BitVec.toNat_ofNat]
        omega
      refine ifB_intro (fun h2 => ?_) (fun h2 => ?_)
      · have h2 : (!(bf (marked (lst q n) 64) (0 + (IntKind.i64.wrap ((n : Int) + (i : Int))).toNat) == IntKind.u8.wrap (IntKind.i64.wrap (128 + (i : Int))))) = true := h2
        rw [hv] at h2
        simp at h2
      · refine ⟨i + 1, ?_, ?_, ?_, ?_⟩
        · show i + 1 ≤ 64; omega
        · show 64 - (i + 1) < 64 - i; omega
        · repeat' (first | exact eqvT_nil | refine eqvT_junk ?_ | refine eqvT_same ?_ | refine eqvT_int ?_ ?_)
          rw [i64_in (by omega) (by omega)]; rfl
        · exact eqvH_same (eqvH_same eqvH_nil)
    · exact ⟨.s (.bool true), [lb (marked (lst q n) 64) c, bblk m n q sp], [0, 1], ⟨rfl, rfl⟩, by decide, ⟨rfl, rfl, trivial⟩, rfl, ⟨⟨_, rfl, eqvB_refl _⟩, ⟨_, rfl, eqvB_refl _⟩, trivial⟩⟩
end Go.Proofs.Ytghcdkpgcanpgaa

/- The law's own: two buses alike, two wholes alike. Contracts of functions. No condition. -/
namespace Go.Proofs.Ytghcdkpgcanpgaa
open Go Go.Anv
/-- A block that begins with these bytes. -/
structure BB (n : Nat) (q : Nat → B8) where
  m : Bool
  k : Nat
  f : Nat → Int
  sp : Nat
  le : n ≤ k
  eq : ∀ j, j < n → f j = (q j).toNat
def BB.b {n : Nat} {q : Nat → B8} (x : BB n q) : Blk := .cells x.m [.ints .u8 x.k x.f] x.sp
theorem BB.same {n : Nat} {q : Nat → B8} (x y : BB n q) : ∀ j, j < n → x.f (0 + j) = y.f (0 + j) := fun j hj => by rw [Nat.zero_add, x.eq j hj, y.eq j hj]
theorem BB.le0 {n : Nat} {q : Nat → B8} (x : BB n q) : 0 + n ≤ x.k := by rw [Nat.zero_add]; exact x.le
set_option maxRecDepth 100000 in
set_option maxHeartbeats 4000000 in
theorem buses_spec (s : BusV) (l : Lists) (r1 r2 : BB s.nr l.ram) (i1 i2 : BB s.ni l.inp) (o1 o2 : BB s.no l.out) (cr ci co cr' ci' co' : Nat) :
    Does TB 51 [.agg (s.segs (.gs 0 0 s.nr cr) (.gs 1 0 s.ni ci) (.gs 2 0 s.no co)), .agg (s.segs (.gs 3 0 s.nr cr') (.gs 4 0 s.ni ci') (.gs 5 0 s.no co'))] [r1.b, i1.b, o1.b, r2.b, i2.b, o2.b]
      (fun v h' => v = .s (.bool true) ∧ h' = [r1.b, i1.b, o1.b, r2.b, i2.b, o2.b]) := by
  refine fnX_does TB Try.func51 rfl (by decide) (fun O on hO => ?_)
  refine same_k 0 3 (m1 := r1.m) (m2 := r2.m) rfl rfl rfl (by decide) r1.le0 r2.le0 (r1.same r2) ?_
  repeat (refine need_intro (by first | exact fun h => h | exact fun _ => rfl | simp) ?_)
  refine Does.ungd (b := [.s (.gs 1 0 s.ni ci), .s (.gs 4 0 s.ni ci')]) ⟨⟨rfl, rfl⟩, ⟨rfl, rfl⟩, trivial⟩ ?_
  refine same_k 1 4 (m1 := i1.m) (m2 := i2.m) rfl rfl rfl (by decide) i1.le0 i2.le0 (i1.same i2) ?_
  repeat (refine need_intro (by first | exact fun h => h | exact fun _ => rfl | simp) ?_)
  refine Does.ungd (b := [.s (.gs 2 0 s.no co), .s (.gs 5 0 s.no co')]) ⟨⟨rfl, rfl⟩, ⟨rfl, rfl⟩, trivial⟩ ?_
  refine same_k 2 5 (m1 := o1.m) (m2 := o2.m) rfl rfl rfl (by decide) o1.le0 o2.le0 (o1.same o2) ?_
  repeat (refine need_intro (by first | exact fun h => h | exact fun _ => rfl | simp) ?_)
  refine ifB_intro (fun h => absurd h (by simp)) (fun _ => ?_)
  repeat (refine need_intro (by first | exact fun h => h | exact fun _ => rfl | simp) ?_)
  exact ⟨.s (.bool true), _, [0, 1, 2, 3, 4, 5], ⟨rfl, rfl⟩, by decide, ⟨rfl, rfl, rfl, rfl, rfl, rfl, trivial⟩, (by show (_ : Bool) = true; simp), ⟨⟨_, rfl, eqvB_refl _⟩, ⟨_, rfl, eqvB_refl _⟩, ⟨_, rfl, eqvB_refl _⟩, ⟨_, rfl, eqvB_refl _⟩, ⟨_, rfl, eqvB_refl _⟩, ⟨_, rfl, eqvB_refl _⟩, trivial⟩⟩
set_option maxRecDepth 100000 in
set_option maxHeartbeats 4000000 in
theorem alike_spec (cp : CpuV) (s : BusV) (l : Lists) (r1 r2 : BB s.nr l.ram) (i1 i2 : BB s.ni l.inp) (o1 o2 : BB s.no l.out) (cr ci co cr' ci' co' : Nat) :
    Does TB 21 [.agg (wsegs cp s (.gs 0 0 s.nr cr) (.gs 1 0 s.ni ci) (.gs 2 0 s.no co)), .agg (wsegs cp s (.gs 3 0 s.nr cr') (.gs 4 0 s.ni ci') (.gs 5 0 s.no co'))] [r1.b, i1.b, o1.b, r2.b, i2.b, o2.b]
      (fun v h' => v = .s (.bool true) ∧ h' = [r1.b, i1.b, o1.b, r2.b, i2.b, o2.b]) := by
  refine fnX_does TB Try.func21 rfl (by decide) (fun O on hO => ?_)
  repeat (refine need_intro (by first | exact fun h => h | exact fun _ => rfl | simp) ?_)
  refine ifB_intro (fun _ => ?_) (fun h => absurd h (by simp))
  refine Does.ungd (b := [.agg (s.segs (.gs 0 0 s.nr cr) (.gs 1 0 s.ni ci) (.gs 2 0 s.no co)), .agg (s.segs (.gs 3 0 s.nr cr') (.gs 4 0 s.ni ci') (.gs 5 0 s.no co'))]) ⟨⟨by simp, rfl⟩, ⟨by simp, rfl⟩, trivial⟩ ?_
  refine Does.at (buses_spec s l r1 r2 i1 i2 o1 o2 cr ci co cr' ci' co') [0, 1, 2, 3, 4, 5] rfl ⟨rfl, rfl, rfl, rfl, rfl, rfl, trivial⟩ (by decide) ?_ ?_
  · rintro v h' ⟨_, rfl⟩
    exact ⟨.inr (.inr rfl), .inr (.inr rfl), .inr (.inr rfl), .inr (.inr rfl), .inr (.inr rfl), .inr (.inr rfl), trivial⟩
  · rintro v h' ⟨rfl, rfl⟩
    repeat (refine need_intro (by first | exact fun h => h | exact fun _ => rfl | simp) ?_)
    exact ⟨.s (.bool true), _, [0, 1, 2, 3, 4, 5], ⟨rfl, rfl⟩, by decide, ⟨rfl, rfl, rfl, rfl, rfl, rfl, trivial⟩, (by show (_ : Bool) = true; simp), ⟨⟨_, rfl, eqvB_refl _⟩, ⟨_, rfl, eqvB_refl _⟩, ⟨_, rfl, eqvB_refl _⟩, ⟨_, rfl, eqvB_refl _⟩, ⟨_, rfl, eqvB_refl _⟩, ⟨_, rfl, eqvB_refl _⟩, trivial⟩⟩
end Go.Proofs.Ytghcdkpgcanpgaa

/- Reading a snapshot: the reader's state, numbers off the front: the plain specification. Plain definitions and lemmas. -/
namespace Go.Anv
open Go
/-- A reader: how far it has come; was something not there, or not of its form? -/
structure Rs where
  at_ : Nat
  bad : Bool
/-- A number's bytes, the highest first: what the first n of them make. -/
def hi (p : Nat → B8) (a k : Nat) : Nat → B64
  | 0 => 0#64
  | n + 1 => (hi p a k n <<< 8) ||| (p (a + (k - 1 - n))).setWidth 64
def numV (p : Nat → B8) (N k : Nat) (s : Rs) : B64 := if s.bad = true ∨ N - s.at_ < k then 0#64 else hi p s.at_ k k
def takeR (N k : Nat) (s : Rs) : Rs := if s.bad = true ∨ N - s.at_ < k then ⟨s.at_, true⟩ else ⟨s.at_ + k, false⟩
/-- Where a reader's slice lies. -/
def RdAt (base N : Nat) (s : Rs) (o : Nat) : Prop := s.at_ ≤ N ∧ (s.at_ < N → o = base + s.at_) ∧ o ≤ base + N
def rdb (b N : Nat) (s : Rs) (o : Nat) : Blk := .cells true [.one (.gs b o (N - s.at_) (N - s.at_)), .one (.bool s.bad)] 0
/-- The document's reader. -/
def rrb (b N cp : Nat) (s : Rs) : Blk := .cells true [.one (.gs b 0 N cp), .one (.int .i64 s.at_), .one (.bool s.bad)] 0
theorem hi_lt (p : Nat → B8) (a k : Nat) : ∀ n, n ≤ 7 → (hi p a k n).toNat < 2 ^ (8 * n)
  | 0, _ => by simp [hi]
  | n + 1, h => by
    have ih := hi_lt p a k n (by omega)
    have hp := (p (a + (k - 1 - n))).isLt
    have e : (hi p a k (n + 1)).toNat = (hi p a k n).toNat * 2 ^ 8 + (p (a + (k - 1 - n))).toNat := by
      simp only [hi]
      rw [BitVec.toNat_or, BitVec.toNat_shiftLeft, BitVec.toNat_setWidth, Nat.shiftLeft_eq, Nat.mod_eq_of_lt (a := (p (a + (k - 1 - n))).toNat) (by omega)]
      have hb : (hi p a k n).toNat * 2 ^ 8 < 2 ^ 64 := by
        have : 2 ^ (8 * n) * 2 ^ 8 ≤ 2 ^ 64 := by rw [← Nat.pow_add]; exact Nat.pow_le_pow_right (by decide) (by omega)
        exact Nat.lt_of_lt_of_le (Nat.mul_lt_mul_of_pos_right ih (by decide)) this
      rw [Nat.mod_eq_of_lt hb, ← Nat.shiftLeft_eq, ← Nat.shiftLeft_add_eq_or_of_lt hp]
    rw [e]
    have : 2 ^ (8 * (n + 1)) = 2 ^ (8 * n) * 256 := by rw [Nat.mul_add, Nat.pow_add]
    omega
/-- The same, by multiplying. -/
theorem hi_mul (p : Nat → B8) (a k n : Nat) (h : n ≤ 7) : ((hi p a k (n + 1)).toNat : Int) = ((hi p a k n).toNat : Int) * 256 + ((p (a + (k - 1 - n))).toNat : Int) := by
  have ih := hi_lt p a k n h
  have hp := (p (a + (k - 1 - n))).isLt
  simp only [hi]
  rw [BitVec.toNat_or, BitVec.toNat_shiftLeft, BitVec.toNat_setWidth, Nat.shiftLeft_eq, Nat.mod_eq_of_lt (a := (p (a + (k - 1 - n))).toNat) (by omega)]
  have hb : (hi p a k n).toNat * 2 ^ 8 < 2 ^ 64 := by
    have : 2 ^ (8 * n) * 2 ^ 8 ≤ 2 ^ 64 := by rw [← Nat.pow_add]; exact Nat.pow_le_pow_right (by decide) (by omega)
    exact Nat.lt_of_lt_of_le (Nat.mul_lt_mul_of_pos_right ih (by decide)) this
  rw [Nat.mod_eq_of_lt hb, ← Nat.shiftLeft_eq, ← Nat.shiftLeft_add_eq_or_of_lt hp, Nat.shiftLeft_eq]
  omega
theorem hi_bound (p : Nat → B8) (a k n : Nat) (h : n ≤ 7) : (hi p a k n).toNat * 256 + 255 < 2 ^ 64 := by
  have ih := hi_lt p a k n h
  have h2 : 2 ^ (8 * n) ≤ 2 ^ 56 := Nat.pow_le_pow_right (by decide) (by omega)
  omega
end Go.Anv
namespace Go.Proofs.Ytghcdkpgcanpgaa
open Go Go.Anv
set_option maxRecDepth 100000 in
/-- Bytes off the front; where they are not there, none. -/
theorem take_spec (m : Bool) (base N K sp : Nat) (f : Nat → Int) (s : Rs) (o k : Nat) (hN : N ≤ 2 ^ 40) (hk : k ≤ 2 ^ 40) (hr : RdAt base N s o) :
    Does TB 87 [.s (.ptr 0 0), .s (.int .i64 k)] [rdb 1 N s o, .cells m [.ints .u8 K f] sp]
      (fun v h' => ((s.bad = true ∨ N - s.at_ < k) ∧ v = .s .nilslice ∧ h' = [rdb 1 N ⟨s.at_, true⟩ o, .cells m [.ints .u8 K f] sp]) ∨
        (¬ (s.bad = true ∨ N - s.at_ < k) ∧ v = .s (.gs 1 o k k) ∧ ∃ o', RdAt base N ⟨s.at_ + k, false⟩ o' ∧ h' = [rdb 1 N ⟨s.at_ + k, false⟩ o', .cells m [.ints .u8 K f] sp])) := by
  refine fnX_does TB Try.func87 rfl (by decide) (fun O on hO => ?_)
  obtain ⟨a, b⟩ := s
  have hr1 : a ≤ N := hr.1
  have hr2 : a < N → o = base + a := hr.2.1
  have hr3 : o ≤ base + N := hr.2.2
  cases b with
  | true =>
    repeat (refine need_intro (by first | exact fun h => h | exact fun _ => rfl | rfl | simp) ?_)
    exact ⟨.s .nilslice, _, [0, 1], .inl ⟨.inl rfl, rfl, rfl⟩, by decide, ⟨rfl, rfl, trivial⟩, rfl, ⟨_, rfl, eqvB_refl _⟩, ⟨_, rfl, eqvB_refl _⟩, trivial⟩
  | false =>
    repeat (refine need_intro (by first | exact fun h => h | exact fun _ => rfl | rfl | simp) ?_)
    refine ifB_intro (fun h1 => ?_) (fun h1 => ?_)
    · have h2 : ((N - a : Nat) : Int) < (k : Int) := of_decide_eq_true h1
      exact ⟨.s .nilslice, _, [0, 1], .inl ⟨.inr (by show N - a < k; omega), rfl, rfl⟩, by decide, ⟨rfl, rfl, trivial⟩, rfl, ⟨_, rfl, eqvB_refl _⟩, ⟨_, rfl, eqvB_refl _⟩, trivial⟩
    · have h2 : ¬ ((N - a : Nat) : Int) < (k : Int) := of_decide_eq_false h1
      refine need_intro ⟨by decide, by omega, by omega, by show (k : Int) ≤ ((N - a : Nat) : Int); omega⟩ ?_
      refine need_intro ⟨by omega, by show (k : Int) ≤ ((N - a : Nat) : Int); omega, by show ((N - a : Nat) : Int) ≤ ((N - a : Nat) : Int); omega⟩ ?_
      have hk0 : skip k 0 o 1 = o := by unfold skip; split <;> omega
      refine ⟨.s (.gs 1 o k k), [rdb 1 N ⟨a + k, false⟩ (skip (N - a) k o 1), .cells m [.ints .u8 K f] sp], [0, 1], .inr ⟨?_, rfl, _, ?_, rfl⟩, by decide, ⟨rfl, rfl, trivial⟩, ⟨rfl, hk0, rfl, by show (k : Int).toNat - 0 = k; omega⟩,
        ⟨_, rfl, ⟨rfl, rfl, eqvS_gs ⟨rfl, rfl, ?_, ?_⟩ (eqvS_same eqvS_nil)⟩⟩, ⟨_, rfl, eqvB_refl _⟩, trivial⟩
      · rintro (h | h)
        · cases h
        · exact h2 (by show ((N - a : Nat) : Int) < (k : Int); have : N - a < k := h; omega)
      · refine ⟨by show a + k ≤ N; omega, fun h => ?_, ?_⟩
        · replace h : a + k < N := h
          show skip (N - a) k o 1 = base + (a + k)
          unfold skip
          rw [if_neg (by omega)]
          omega
        · unfold skip
          split <;> omega
      · show ((N - a : Nat) : Int).toNat - (k : Int).toNat = N - (a + k)
        omega
      · show (N - a) - (k : Int).toNat = N - (a + k)
        omega
set_option maxRecDepth 100000 in
/-- A number off the front; where it is not there, 0. -/
theorem rnumber_spec (m : Bool) (base N K sp : Nat) (f : Nat → Int) (p : Nat → B8) (s : Rs) (o k : Nat) (hN : N ≤ 2 ^ 40) (hk : 0 < k ∧ k ≤ 8) (hr : RdAt base N s o) (hK : base + N ≤ K) (hp : ∀ j, j < N → f (base + j) = (p j).toNat) :
    Does TB 53 [.s (.ptr 0 0), .s (.int .i64 k)] [rdb 1 N s o, .cells m [.ints .u8 K f] sp]
      (fun v h' => ∃ o', RdAt base N (takeR N k s) o' ∧ v = .s (.int .u64 (numV p N k s).toNat) ∧ h' = [rdb 1 N (takeR N k s) o', .cells m [.ints .u8 K f] sp]) := by
  refine fnX_does TB Try.func53 rfl (by decide) (fun O on hO => ?_)
  refine Does.at (take_spec m base N K sp f s o k hN (by omega) hr) [0, 1] rfl ⟨rfl, rfl, trivial⟩ (by decide) ?_ ?_
  · rintro v h' (⟨_, _, rfl⟩ | ⟨_, _, _, _, rfl⟩) <;> exact ⟨.inl rfl, .inr (.inr rfl), trivial⟩
  rintro v h' (⟨hb, rfl, rfl⟩ | ⟨hb, rfl, o', ho', rfl⟩)
  · have e1 : takeR N k s = ⟨s.at_, true⟩ := if_pos hb
    have e2 : numV p N k s = 0#64 := if_pos hb
    rw [e1, e2]
    refine loop_times on 1 ?_
    refine Box.mk ?_
    exact ⟨.s (.int .u64 0), _, [0, 1], ⟨o, hr, rfl, rfl⟩, by decide, ⟨rfl, rfl, trivial⟩, eqvE_refl _, ⟨_, rfl, eqvB_refl _⟩, ⟨_, rfl, eqvB_refl _⟩, trivial⟩
  · have e1 : takeR N k s = ⟨s.at_ + k, false⟩ := if_neg hb
    have e2 : numV p N k s = hi p s.at_ k k := if_neg hb
    rw [e1, e2]
    have hk' : s.at_ + k ≤ N := ho'.1
    have ho : o = base + s.at_ := hr.2.1 (by omega)
    refine loop_by (A := Nat) on (fun n => [(5, .s (.int .u64 (hi p s.at_ k n).toNat)), (7, .s (.int .i64 ((k : Int) - 1 - (n : Int))))]) (fun _ => [rdb 1 N ⟨s.at_ + k, false⟩ o', .cells m [.ints .u8 K f] sp]) (fun n => n ≤ k) (fun n => k - n) 0 (Nat.zero_le _) ?_ ?_
    · refine ⟨?_, ?_⟩
      · repeat' (first | exact eqvT_nil | refine eqvT_junk ?_ | refine eqvT_same ?_ | refine eqvT_int ?_ ?_)
        rw [i64_in (by omega) (by omega)]; omega
      · exact eqvH_same (eqvH_same eqvH_nil)
    · intro n hn
      refine ifB_intro (fun h1 => ?_) (fun h1 => ?_)
      · have h2 : (k : Int) - 1 - (n : Int) ≥ 0 := of_decide_eq_true h1
        have hi2 : ((k : Int) - 1 - (n : Int)).toNat = k - 1 - n := by omega
        refine need_intro (by decide) ?_
        refine need_intro ⟨by omega, by omega⟩ ?_
        refine need_intro (by omega) ?_
        refine ⟨n + 1, ?_, ?_, ?_, ?_⟩
        · show n + 1 ≤ k; omega
        · show k - (n + 1) < k - n; omega
        · repeat' (first | exact eqvT_nil | refine eqvT_junk ?_ | refine eqvT_same ?_ | refine eqvT_int ?_ ?_)
          · show bitX .or .u64 (IntKind.u64.wrap (((hi p s.at_ k n).toNat : Int) * 2 ^ 8)) (IntKind.u64.wrap (f (o + ((k : Int) - 1 - (n : Int)).toNat))) = ((hi p s.at_ k (n + 1)).toNat : Int)
            rw [hi2, ho, Nat.add_assoc, hp _ (by omega), wide8, or_u64, wrap_u64, mul_pow, ofInt_toNat, ofInt_toNat]
            rfl
          · rw [i64_in (by omega) (by omega)]; omega
        · exact eqvH_same (eqvH_same eqvH_nil)
      · have h2 : ¬ ((k : Int) - 1 - (n : Int) ≥ 0) := of_decide_eq_false h1
        have hnk : n = k := by omega
        subst hnk
        exact ⟨_, _, [0, 1], ⟨o', ho', rfl, rfl⟩, by decide, ⟨rfl, rfl, trivial⟩, eqvE_refl _, ⟨_, rfl, eqvB_refl _⟩, ⟨_, rfl, eqvB_refl _⟩, trivial⟩
end Go.Proofs.Ytghcdkpgcanpgaa

/- The reader's methods: contracts; those for one cell go on over any heap. No condition. -/
namespace Go.Anv
open Go
def flagV (p : Nat → B8) (N : Nat) (s : Rs) : Bool := numV p N 1 s == 1#64
def flagR (p : Nat → B8) (N : Nat) (s : Rs) : Rs := ⟨(takeR N 1 s).at_, (takeR N 1 s).bad || decide (1 < (numV p N 1 s).toNat)⟩
/-- Behind a list's length. -/
def lenR (p : Nat → B8) (N size most : Nat) (s : Rs) : Rs := ⟨(takeR N size s).at_, (takeR N size s).bad || decide (most < (numV p N size s).toNat)⟩
/-- Is a list there? -/
def listOk (p : Nat → B8) (N size most : Nat) (s : Rs) : Bool := !(lenR p N size most s).bad && decide ((numV p N size s).toNat ≤ N - (lenR p N size most s).at_)
def listN (p : Nat → B8) (N size most : Nat) (s : Rs) : Nat := if listOk p N size most s then (numV p N size s).toNat else 0
def listQ (p : Nat → B8) (N size most : Nat) (s : Rs) (j : Nat) : B8 := p ((lenR p N size most s).at_ + j)
def listR (p : Nat → B8) (N size most : Nat) (s : Rs) : Rs := takeR N (numV p N size s).toNat (lenR p N size most s)
theorem RdAt.bad {base N : Nat} {s : Rs} {o : Nat} (h : RdAt base N s o) (b : Bool) : RdAt base N ⟨s.at_, b⟩ o := h
end Go.Anv
namespace Go.Proofs.Ytghcdkpgcanpgaa
open Go Go.Anv
theorem rnum_k {h : List Blk} {Q : EV → List Blk → Prop} (pr pb : Nat) {base N o : Nat} {s : Rs} {m : Bool} {K sp : Nat} {f : Nat → Int} (p : Nat → B8) (k : Nat) (hN : N ≤ 2 ^ 40) (hk : 0 < k ∧ k ≤ 8) (hr : RdAt base N s o) (hK : base + N ≤ K) (hp : ∀ j, j < N → f (base + j) = (p j).toNat)
    (hw : nthB h pr = some (rdb pb N s o)) (hb : nthB h pb = some (.cells m [.ints .u8 K f] sp)) (hne : pr ≠ pb)
    (hQ : ∀ o', RdAt base N (takeR N k s) o' → updBK h pr (rdb pb N (takeR N k s) o') fun h1 => updBK h1 pb (.cells m [.ints .u8 K f] sp) fun h2 => Q (.s (.int .u64 (numV p N k s).toNat)) h2) :
    Does TB 53 [.s (.ptr pr 0), .s (.int .i64 k)] h Q := by
  refine Does.at (rnumber_spec m base N K sp f p s o k hN hk hr hK hp) [pr, pb] rfl ⟨hw, hb, trivial⟩ (by simp [hne]) ?_ ?_
  · rintro v h' ⟨o', _, _, rfl⟩
    exact ⟨.inl rfl, .inr (.inr rfl), trivial⟩
  · rintro v h' ⟨o', ho', rfl, rfl⟩
    have := hQ o' ho'
    rw [updBK_eq, updBK_eq] at this
    rw [forceH_eq, forceE_eq]
    have e : mergeB h [pr, pb] (renH (lk [pr, pb] h.length) [rdb 1 N (takeR N k s) o', .cells m [.ints .u8 K f] sp]) = updB (updB h pr (rdb pb N (takeR N k s) o')) pb (.cells m [.ints .u8 K f] sp) := by
      show updB (updB h pr _) pb _ ++ [] = _
      rw [List.append_nil]; rfl
    rw [e]
    exact this
section small
variable (m : Bool) (base N K sp : Nat) (f : Nat → Int) (p : Nat → B8) (s : Rs) (hN : N ≤ 2 ^ 40) (hK : base + N ≤ K) (hp : ∀ j, j < N → f (base + j) = (p j).toNat)
include hN hK hp
set_option maxRecDepth 100000 in
theorem rdouble_spec (x : Int) (o : Nat) (hr : RdAt base N s o) : Does TB 191 (.s (.ptr 0 0) :: .s (.ptr 1 0) :: ints []) [rdb 2 N s o, .cells true [.one (.int .u64 x)] 0, .cells m [.ints .u8 K f] sp]
    (fun r h' => ∃ o', RdAt base N (takeR N 8 s) o' ∧ r = .tuple [] ∧ h' = [rdb 2 N (takeR N 8 s) o', .cells true [.one (.int .u64 (numV p N 8 s).toNat)] 0, .cells m [.ints .u8 K f] sp]) := by
  refine fnX_does TB Try.func191 rfl (by decide) (fun O on hO => ?_)
  refine rnum_k 0 2 p 8 hN (by decide) hr hK hp rfl rfl (by decide) ?_
  intro o' ho'
  exact ⟨_, _, [0, 1, 2], ⟨o', ho', rfl, rfl⟩, by decide, ⟨rfl, rfl, rfl, trivial⟩, trivial, ⟨_, rfl, eqvB_refl _⟩, ⟨_, rfl, eqvB_refl _⟩, ⟨_, rfl, eqvB_refl _⟩, trivial⟩
set_option maxRecDepth 100000 in
theorem rword_spec (x : Int) (o : Nat) (hr : RdAt base N s o) : Does TB 196 (.s (.ptr 0 0) :: .s (.ptr 1 0) :: ints []) [rdb 2 N s o, .cells true [.one (.int .u32 x)] 0, .cells m [.ints .u8 K f] sp]
    (fun r h' => ∃ o', RdAt base N (takeR N 4 s) o' ∧ r = .tuple [] ∧ h' = [rdb 2 N (takeR N 4 s) o', .cells true [.one (.int .u32 ((numV p N 4 s).setWidth 32).toNat)] 0, .cells m [.ints .u8 K f] sp]) := by
  refine fnX_does TB Try.func196 rfl (by decide) (fun O on hO => ?_)
  refine rnum_k 0 2 p 4 hN (by decide) hr hK hp rfl rfl (by decide) ?_
  intro o' ho'
  have e : IntKind.u32.wrap ((numV p N 4 s).toNat : Int) = (((numV p N 4 s).setWidth 32).toNat : Int) := by
    rw [wrap_u32, BitVec.toNat_setWidth, BitVec.toNat_ofInt]; omega
  exact ⟨_, _, [0, 1, 2], ⟨o', ho', rfl, rfl⟩, by decide, ⟨rfl, rfl, rfl, trivial⟩, trivial, ⟨_, rfl, eqvB_refl _⟩, ⟨_, rfl, ⟨rfl, rfl, eqvS_int e eqvS_nil⟩⟩, ⟨_, rfl, eqvB_refl _⟩, trivial⟩
set_option maxRecDepth 100000 in
theorem roctet_spec (x : Int) (o : Nat) (hr : RdAt base N s o) : Does TB 194 (.s (.ptr 0 0) :: .s (.ptr 1 0) :: ints []) [rdb 2 N s o, .cells true [.one (.int .u8 x)] 0, .cells m [.ints .u8 K f] sp]
    (fun r h' => ∃ o', RdAt base N (takeR N 1 s) o' ∧ r = .tuple [] ∧ h' = [rdb 2 N (takeR N 1 s) o', .cells true [.one (.int .u8 ((numV p N 1 s).setWidth 8).toNat)] 0, .cells m [.ints .u8 K f] sp]) := by
  refine fnX_does TB Try.func194 rfl (by decide) (fun O on hO => ?_)
  refine rnum_k 0 2 p 1 hN (by decide) hr hK hp rfl rfl (by decide) ?_
  intro o' ho'
  have e : IntKind.u8.wrap ((numV p N 1 s).toNat : Int) = (((numV p N 1 s).setWidth 8).toNat : Int) := low8 _
  exact ⟨_, _, [0, 1, 2], ⟨o', ho', rfl, rfl⟩, by decide, ⟨rfl, rfl, rfl, trivial⟩, trivial, ⟨_, rfl, eqvB_refl _⟩, ⟨_, rfl, ⟨rfl, rfl, eqvS_int e eqvS_nil⟩⟩, ⟨_, rfl, eqvB_refl _⟩, trivial⟩
set_option maxRecDepth 100000 in
theorem rplace_spec (k : Nat) (hk : 0 < k ∧ k ≤ 8) (x : Int) (o : Nat) (hr : RdAt base N s o) : Does TB 195 (.s (.ptr 0 0) :: .s (.ptr 1 0) :: ints [(k : Int)]) [rdb 2 N s o, .cells true [.one (.int .i64 x)] 0, .cells m [.ints .u8 K f] sp]
    (fun r h' => ∃ o', RdAt base N (takeR N k s) o' ∧ r = .tuple [] ∧ h' = [rdb 2 N (takeR N k s) o', .cells true [.one (.int .i64 (numV p N k s).toInt)] 0, .cells m [.ints .u8 K f] sp]) := by
  refine fnX_does TB Try.func195 rfl (by decide) (fun O on hO => ?_)
  refine rnum_k 0 2 p k hN hk hr hK hp rfl rfl (by decide) ?_
  intro o' ho'
  have e : IntKind.i64.wrap ((numV p N k s).toNat : Int) = (numV p N k s).toInt := by rw [wrap_i64, ofInt_toNat]
  exact ⟨_, _, [0, 1, 2], ⟨o', ho', rfl, rfl⟩, by decide, ⟨rfl, rfl, rfl, trivial⟩, trivial, ⟨_, rfl, eqvB_refl _⟩, ⟨_, rfl, ⟨rfl, rfl, eqvS_int e eqvS_nil⟩⟩, ⟨_, rfl, eqvB_refl _⟩, trivial⟩
set_option maxRecDepth 100000 in
theorem rflag_spec (x : Bool) (o : Nat) (hr : RdAt base N s o) : Does TB 192 (.s (.ptr 0 0) :: .s (.ptr 1 0) :: ints []) [rdb 2 N s o, .cells true [.one (.bool x)] 0, .cells m [.ints .u8 K f] sp]
    (fun r h' => ∃ o', RdAt base N (flagR p N s) o' ∧ r = .tuple [] ∧ h' = [rdb 2 N (flagR p N s) o', .cells true [.one (.bool (flagV p N s))] 0, .cells m [.ints .u8 K f] sp]) := by
  refine fnX_does TB Try.func192 rfl (by decide) (fun O on hO => ?_)
  refine rnum_k 0 2 p 1 hN (by decide) hr hK hp rfl rfl (by decide) ?_
  intro o' ho'
  repeat (refine need_intro (by first | exact fun h => h | exact fun _ => rfl | rfl | simp) ?_)
  refine ⟨_, _, [0, 1, 2], ⟨o', ho'.bad _, rfl, rfl⟩, by decide, ⟨rfl, rfl, rfl, trivial⟩, trivial, ⟨_, rfl, ⟨rfl, rfl, eqvS_same (eqvS_bool ?_ eqvS_nil)⟩⟩, ⟨_, rfl, ⟨rfl, rfl, eqvS_bool ?_ eqvS_nil⟩⟩, ⟨_, rfl, eqvB_refl _⟩, trivial⟩
  · show (bif (takeR N 1 s).bad then true else decide (((numV p N 1 s).toNat : Int) > 1)) = ((takeR N 1 s).bad || decide (1 < (numV p N 1 s).toNat))
    rw [show decide (((numV p N 1 s).toNat : Int) > 1) = decide (1 < (numV p N 1 s).toNat) from decide_eq_decide.2 (by omega)]
    cases (takeR N 1 s).bad <;> rfl
  · show (((numV p N 1 s).toNat : Int) == 1) = (numV p N 1 s == 1#64)
    exact beq_lit (numV p N 1 s) 1 (by decide) (by decide)
end small
end Go.Proofs.Ytghcdkpgcanpgaa
