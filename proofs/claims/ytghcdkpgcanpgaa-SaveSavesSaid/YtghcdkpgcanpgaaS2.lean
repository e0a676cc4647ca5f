/- A whole as an argument: its plain values, its lists in three blocks. No condition. -/
import Derived.Test.YtghcdkpgcanpgaaS1
import Derived.Test.YtghcdkpgcanpgaaE14
namespace Go.Anv
open Go
theorem wf8 {n : Int} (h : (Lit.int .u8 n).wf = true) : n = ((BitVec.ofInt 8 n).toNat : Int) := by
  have h0 : 0 ≤ n ∧ n ≤ 255 := by
    simp only [Lit.wf, Bool.and_eq_true, decide_eq_true_eq] at h
    exact h
  rw [BitVec.toNat_ofInt]
  omega
theorem wf32 {n : Int} (h : (Lit.int .u32 n).wf = true) : n = ((BitVec.ofInt 32 n).toNat : Int) := by
  have h0 : 0 ≤ n ∧ n ≤ 4294967295 := by
    simp only [Lit.wf, Bool.and_eq_true, decide_eq_true_eq] at h
    exact h
  rw [BitVec.toNat_ofInt]
  omega
theorem wf64 {n : Int} (h : (Lit.int .u64 n).wf = true) : n = ((BitVec.ofInt 64 n).toNat : Int) := by
  have h0 : 0 ≤ n ∧ n ≤ 18446744073709551615 := by
    simp only [Lit.wf, Bool.and_eq_true, decide_eq_true_eq] at h
    exact h
  rw [BitVec.toNat_ofInt]
  omega
theorem wfi64 {n : Int} (h : (Lit.int .i64 n).wf = true) : -9223372036854775808 ≤ n ∧ n ≤ 9223372036854775807 := by
  simp only [Lit.wf, Bool.and_eq_true, decide_eq_true_eq] at h
  exact h

/-- Where a list of bytes lies that came in. -/
structure SlAt (W : World) (p : Loc) (n cap : Nat) (q : Nat → B8) : Prop where
  le : n ≤ 140737488351232
  cp : n ≤ cap
  lt : p.b < W.heap.size ∨ p.nl = true ∧ n = 0
  nl : p.nl = true → n = 0 ∧ cap = 0
  at_ : ∀ j, j < n → W.cell? ⟨p.b, p.o + j, none⟩ = some (.int .u8 (bfun q j))

def trim (n : Nat) (q : Nat → B8) (j : Nat) : B8 := if j < n then q j else 0#8
theorem ends_trim (n : Nat) (q : Nat → B8) : ∀ j, n ≤ j → trim n q j = 0#8 := fun j h => if_neg (by omega)
/-- Nothing behind the end. -/
theorem SlAt.trim {W : World} {p : Loc} {n cap : Nat} {q : Nat → B8} (h : SlAt W p n cap q) : SlAt W p n cap (trim n q) :=
  ⟨h.le, h.cp, h.lt, h.nl, fun j hj => by rw [h.at_ j hj, bfun, bfun, Anv.trim, if_pos hj]⟩

theorem slIn_at {W : World} {a : Option Addr} {len cap : Nat} {f : Nat → Int} (h : slIn W .u8 a len cap f) : ∃ p : Loc, SlAt W p len cap (fun j => BitVec.ofInt 8 (f j)) ∧ ∀ E : Emb, ∀ b, E.f b = p → b < E.n → denV E (.gs b 0 len cap) (.slice a len cap) := by
  obtain ⟨hle, ⟨rfl, rfl, rfl⟩ | ⟨b, o, rfl, hb, hlc, hc⟩⟩ := h
  · refine ⟨⟨0, 0, true⟩, ⟨hle, Nat.le_refl _, .inr ⟨rfl, rfl⟩, fun _ => ⟨rfl, rfl⟩, fun j hj => by omega⟩, fun E b hE hb => ?_⟩
    simp only [denV, hE]
    exact ⟨hb, fun _ => ⟨trivial, trivial⟩, rfl⟩
  · refine ⟨⟨b, o, false⟩, ⟨hle, hlc, .inl hb, (fun h => by cases h), fun j hj => ?_⟩, fun E b' hE hb' => ?_⟩
    · obtain ⟨h1, h2⟩ := hc j hj
      rw [h1]
      congr 2
      exact wf8 h2
    · simp only [denV, hE]
      refine ⟨hb', (fun h => by cases h), ?_⟩
      simp [Emb.at, hE]

/-- Three lists of bytes that came in, as a small world. -/
theorem sim3 {W : World} {p0 p1 p2 : Loc} {n0 n1 n2 c0 c1 c2 : Nat} {q0 q1 q2 : Nat → B8} (h0 : SlAt W p0 n0 c0 q0) (h1 : SlAt W p1 n1 c1 q1) (h2 : SlAt W p2 n2 c2 q2) :
    Sim ⟨3, fun i => match i with | 0 => p0 | 1 => p1 | _ => p2⟩ [bblk false n0 q0 0, bblk false n1 q1 0, bblk false n2 q2 0] W := by
  have one : ∀ {E : Emb} {p : Loc} {n c : Nat} {q : Nat → B8}, SlAt W p n c q → okBlk E W p (bblk false n q 0) := fun {E p n c q} h => by
    refine ⟨?_, ⟨intsOf .u8 n (bfun q) ++ [], ⟨[], rfl, rfl⟩, fun j v hj => ?_⟩, fun h => by cases h⟩
    · rcases h.lt with h | ⟨h, h'⟩
      · exact .inl h
      · exact .inr ⟨h, by simp [sizeS, h']⟩
    · rw [List.append_nil] at hj
      have hj' : j < n := by
        rcases Nat.lt_or_ge j n with h | h
        · exact h
        · rw [List.getElem?_eq_none (by rw [length_intsOf]; exact h)] at hj; cases hj
      rw [intsOf_get hj'] at hj
      cases hj
      exact h.at_ j hj'
  refine ⟨rfl, fun i B hi => ?_, fun i j A B _ hi _ hA => ?_⟩
  · match i, hi with
    | 0, hi => simp only [List.getElem?_cons_zero, Option.some.injEq] at hi; subst hi; exact one h0
    | 1, hi => simp only [List.getElem?_cons_succ, List.getElem?_cons_zero, Option.some.injEq] at hi; subst hi; exact one h1
    | 2, hi => simp only [List.getElem?_cons_succ, List.getElem?_cons_zero, Option.some.injEq] at hi; subst hi; exact one h2
    | i + 3, hi => simp at hi
  · exfalso
    match i, hi with
    | 0, hi => simp only [List.getElem?_cons_zero, Option.some.injEq] at hi; subst hi; cases hA
    | 1, hi => simp only [List.getElem?_cons_succ, List.getElem?_cons_zero, Option.some.injEq] at hi; subst hi; cases hA
    | 2, hi => simp only [List.getElem?_cons_succ, List.getElem?_cons_zero, Option.some.injEq] at hi; subst hi; cases hA
    | i + 3, hi => simp at hi

/-- The whole that is nothing. -/
def wz : Array Value := (List.replicate 33 (Value.int .u64 0) ++ (([.int .i64 0, .bool false] : List Value) ++ (List.replicate 12 (Value.int .u64 0) ++ (List.replicate 16 (Value.int .u8 0) ++ (List.replicate 16 (Value.int .u64 0) ++ (([.bool false, .int .u64 0, .int .i64 0] : List Value) ++
  ([.slice none 0 0, .int .u32 0, .int .u64 0, .int .u64 0, .bool false, .bool false, .int .u8 0, .int .u8 0, .int .u8 0, .int .u8 0, .bool false, .slice none 0 0, .slice none 0 0, .int .i64 0, .int .i64 0] : List Value))))))).toArray
def cpuF : List FK := [.int .u64, .arr .u64 32, .int .i64, .bool, .int .u64, .int .u64, .int .u64, .int .u64, .int .u64, .int .u64, .int .u64, .int .u64, .int .u64, .int .u64, .int .u64, .int .u64, .arr .u8 16, .arr .u64 16, .bool, .int .u64, .int .i64]
def busF : List FK := [.sl .u8, .int .u32, .int .u64, .int .u64, .bool, .bool, .int .u8, .int .u8, .int .u8, .int .u8, .bool, .sl .u8, .sl .u8, .int .i64, .int .i64]

theorem intsOf_bits8 {n : Nat} {f : Nat → Int} (h : ∀ j, j < n → (Lit.int .u8 (f j)).wf = true) : intsOf .u8 n f = intsOf .u8 n (bfun fun j => BitVec.ofInt 8 (f j)) := intsOf_congr fun j hj => wf8 (h j hj)
theorem intsOf_bits64 {n : Nat} {f : Nat → Int} (h : ∀ j, j < n → (Lit.int .u64 (f j)).wf = true) : intsOf .u64 n f = intsOf .u64 n (wfun fun j => BitVec.ofInt 64 (f j)) := intsOf_congr fun j hj => wf64 (h j hj)

/-- A Cpu that came in, at the head of some cells. -/
theorem cpu_in {W : World} {r : List FK} {l : List Value} (h : fitF W (cpuF ++ r) l) : ∃ (c : CpuV) (x y : List Value), l = x ++ y ∧ (∀ E, denS E c.segs x) ∧ fitF W r y ∧ (-9223372036854775808 ≤ c.mode ∧ c.mode ≤ 9223372036854775807) ∧ (-9223372036854775808 ≤ c.rsize ∧ c.rsize ≤ 9223372036854775807) := by
  simp only [cpuF, List.cons_append, List.nil_append, fitF] at h
  obtain ⟨pc, _, rfl, wpc, x, _, rfl, wx, mode, _, rfl, wmode, wt, _, rfl, h⟩ := h
  obtain ⟨a0, _, rfl, w0, a1, _, rfl, w1, a2, _, rfl, w2, a3, _, rfl, w3, a4, _, rfl, w4, a5, _, rfl, w5, a6, _, rfl, w6, a7, _, rfl, w7, a8, _, rfl, w8, a9, _, rfl, w9, a10, _, rfl, w10, a11, _, rfl, w11, h⟩ := h
  obtain ⟨cfg, _, rfl, wc, ad, _, rfl, wa, rv, _, rfl, ra, _, rfl, wra, rs, y, rfl, wrs, h⟩ := h
  refine ⟨⟨BitVec.ofInt 64 pc, fun j => BitVec.ofInt 64 (x j), mode, wt, BitVec.ofInt 64 a0, BitVec.ofInt 64 a1, BitVec.ofInt 64 a2, BitVec.ofInt 64 a3, BitVec.ofInt 64 a4, BitVec.ofInt 64 a5, BitVec.ofInt 64 a6, BitVec.ofInt 64 a7, BitVec.ofInt 64 a8,
    BitVec.ofInt 64 a9, BitVec.ofInt 64 a10, BitVec.ofInt 64 a11, fun j => BitVec.ofInt 8 (cfg j), fun j => BitVec.ofInt 64 (ad j), rv, BitVec.ofInt 64 ra, rs⟩,
    .int .u64 pc :: (intsOf .u64 32 x ++ .int .i64 mode :: .bool wt :: .int .u64 a0 :: .int .u64 a1 :: .int .u64 a2 :: .int .u64 a3 :: .int .u64 a4 :: .int .u64 a5 :: .int .u64 a6 :: .int .u64 a7 :: .int .u64 a8 :: .int .u64 a9 :: .int .u64 a10 :: .int .u64 a11 ::
      (intsOf .u8 16 cfg ++ (intsOf .u64 16 ad ++ [.bool rv, .int .u64 ra, .int .i64 rs]))), y, by simp, fun E => ?_, h, wfi64 wmode, wfi64 wrs⟩
  rw [intsOf_bits64 wx, intsOf_bits8 wc, intsOf_bits64 wa]
  simp only [CpuV.segs, denS, denV]
  rw [← wf64 wpc, ← wf64 w0, ← wf64 w1, ← wf64 w2, ← wf64 w3, ← wf64 w4, ← wf64 w5, ← wf64 w6, ← wf64 w7, ← wf64 w8, ← wf64 w9, ← wf64 w10, ← wf64 w11, ← wf64 wra]
  exact ⟨_, _, rfl, rfl, _, rfl, _, _, rfl, rfl, _, _, rfl, rfl, _, _, rfl, rfl, _, _, rfl, rfl, _, _, rfl, rfl, _, _, rfl, rfl, _, _, rfl, rfl, _, _, rfl, rfl, _, _, rfl, rfl, _, _, rfl, rfl, _, _, rfl, rfl, _, _, rfl, rfl, _, _, rfl, rfl, _, _, rfl, rfl, _, rfl, _, rfl, _, _, rfl, rfl, _, _, rfl, rfl, _, _, rfl, rfl, rfl⟩

/-- A bus's state that came in, at the head of some cells. -/
theorem bus_in {W : World} {r : List FK} {l : List Value} (h : fitF W (busF ++ r) l) : ∃ (s : BusV) (x y : List Value) (p0 p1 p2 : Loc) (c0 c1 c2 : Nat) (q0 q1 q2 : Nat → B8), l = x ++ y ∧ SlAt W p0 s.nr c0 q0 ∧ SlAt W p1 s.ni c1 q1 ∧ SlAt W p2 s.no c2 q2 ∧
    (∀ (E : Emb) b0 b1 b2, E.f b0 = p0 → b0 < E.n → E.f b1 = p1 → b1 < E.n → E.f b2 = p2 → b2 < E.n → denS E (s.segs (.gs b0 0 s.nr c0) (.gs b1 0 s.ni c1) (.gs b2 0 s.no c2)) x) ∧ fitF W r y := by
  simp only [busF, List.cons_append, List.nil_append, fitF] at h
  obtain ⟨a0, n0, c0, f0, _, rfl, s0, ms, _, rfl, wms, cm, _, rfl, wcm, nw, _, rfl, wnw, ex, _, rfl, so, _, rfl, h⟩ := h
  obtain ⟨ie, _, rfl, wie, lc, _, rfl, wlc, mc, _, rfl, wmc, sc, _, rfl, wsc, ov, _, rfl, h⟩ := h
  obtain ⟨a1, n1, c1, f1, _, rfl, s1, a2, n2, c2, f2, _, rfl, s2, off, _, rfl, woff, code, y, rfl, wcode, h⟩ := h
  obtain ⟨p0, k0, d0⟩ := slIn_at s0
  obtain ⟨p1, k1, d1⟩ := slIn_at s1
  obtain ⟨p2, k2, d2⟩ := slIn_at s2
  refine ⟨⟨n0, BitVec.ofInt 32 ms, BitVec.ofInt 64 cm, BitVec.ofInt 64 nw, ex, so, BitVec.ofInt 8 ie, BitVec.ofInt 8 lc, BitVec.ofInt 8 mc, BitVec.ofInt 8 sc, ov, n1, n2, off, code⟩,
    [.slice a0 n0 c0, .int .u32 ms, .int .u64 cm, .int .u64 nw, .bool ex, .bool so, .int .u8 ie, .int .u8 lc, .int .u8 mc, .int .u8 sc, .bool ov, .slice a1 n1 c1, .slice a2 n2 c2, .int .i64 off, .int .i64 code], y, p0, p1, p2, c0, c1, c2, _, _, _, rfl, k0, k1, k2, fun E b0 b1 b2 e0 l0 e1 l1 e2 l2 => ?_, h⟩
  simp only [BusV.segs, denS]
  have i0 := d0 E b0 e0 l0
  have i1 := d1 E b1 e1 l1
  have i2 := d2 E b2 e2 l2
  refine ⟨_, _, rfl, i0, _, _, rfl, ?_, _, _, rfl, ?_, _, _, rfl, ?_, _, _, rfl, rfl, _, _, rfl, rfl, _, _, rfl, ?_, _, _, rfl, ?_, _, _, rfl, ?_, _, _, rfl, ?_, _, _, rfl, rfl, _, _, rfl, i1, _, _, rfl, i2, _, _, rfl, rfl, _, _, rfl, rfl, rfl⟩ <;> simp only [denV]
  · rw [← wf32 wms]
  · rw [← wf64 wcm]
  · rw [← wf64 wnw]
  · rw [← wf8 wie]
  · rw [← wf8 wlc]
  · rw [← wf8 wmc]
  · rw [← wf8 wsc]
end Go.Anv
