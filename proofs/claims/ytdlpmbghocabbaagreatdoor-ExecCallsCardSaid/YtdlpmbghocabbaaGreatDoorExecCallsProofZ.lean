/- ExecCalls: a call and its return come back to the instruction behind, and a branch goes just where its opposite stays; what is handed in stays as it is. No condition but the table that the row lists (the walk does not read it); the card ties it to the program's text. The frame of the proof follows proof-skeleton.mjs and the kit's worked example Pinup; the walk is by the engine of this claim. -/
import Derived.Test.YtdlpmbghocabbaaGreatDoorRows
import Derived.Test.YtdlpmbghocabbaaGreatDoorCards
import Derived.Test.YtdlpmbghocabbaaGreatDoorTie
import Derived.WalkKit
import Derived.ProofKit
import Derived.OpenShut
import Derived.ShutString
import Derived.ChangeOld
import Derived.Below
import Derived.SizedLaws
import Derived.LaidMore
import Derived.Lay
import Derived.SevenTiedAt
import Derived.Stop.Joined
import Derived.Test.YtdlpmbghocabbaaGreatDoorZ11
namespace Go.Proofs.YtdlpmbghocabbaaGreatDoor.execCalls
open Go.ChangeShapes Go.WideShapes Go.ChangeAt Go.RowKit
set_option linter.unusedVariables false

theorem own : ownKnob Tryz.prog.godebug = none := by kernel_rfl
theorem laidOut : laidOutB Tryz.prog = true := by kernel_rfl

def cz : Array Value := (List.replicate 33 (Value.int .u64 0) ++ (([.int .i64 0, .bool false] : List Value) ++ (List.replicate 12 (Value.int .u64 0) ++ (List.replicate 16 (Value.int .u8 0) ++ (List.replicate 16 (Value.int .u64 0) ++ ([.bool false, .int .u64 0, .int .i64 0] : List Value)))))).toArray
def sz : Array Value := #[.slice none 0 0, .int .u32 0, .int .u64 0, .int .u64 0, .bool false, .bool false, .int .u8 0, .int .u8 0, .int .u8 0, .int .u8 0, .bool false, .slice none 0 0, .slice none 0 0, .int .i64 0, .int .i64 0]

theorem walk (cs cs1 : Array Value) (t : Anv.B64) (op : Int) (a z : Anv.B64) (w : World) (hl : laidMetH Tryz.prog laidD w) (h : Anv.fitF w Anv.cpuF cs.toList) (g : Anv.fitF w Anv.busF cs1.toList) :
    Calls Tryz.prog 3 #[.agg cs, .agg cs1, .int .u64 t.toNat, .int .i64 op, .int .u64 a.toNat, .int .u64 z.toNat] w fun e w' => e = .returned (.bool true) ∧ Below w.heap.size w w' := by
  have hf : Anv.isFn TB 3 := ⟨_, Tryz.func3, by kernel_rfl, by kernel_rfl⟩
  rw [← List.append_nil Anv.cpuF] at h
  obtain ⟨c, x, y, hl', hc, hy, _, _⟩ := Anv.cpu_in h
  simp only [Anv.fitF] at hy
  subst hy
  rw [List.append_nil] at hl'
  rw [← List.append_nil Anv.busF] at g
  obtain ⟨s, x', y', p0, p1, p2, c0, c1, c2, q0, q1, q2, hl1, k0, k1, k2, hd, hy⟩ := Anv.bus_in g
  simp only [Anv.fitF] at hy
  subst hy
  rw [List.append_nil] at hl1
  let E : Anv.Emb := ⟨3, fun i => match i with | 0 => p0 | 1 => p1 | _ => p2⟩
  let l : Anv.Lists := ⟨false, 0, q0, false, 0, q1, false, 0, q2⟩
  have S : Anv.Sim E (l.blks s) w := Anv.sim3 k0 k1 k2
  refine (Anv.Does.below (execCalls_law c s l c0 c1 c2 (Nat.le_trans k0.le (by decide)) (Nat.le_trans k1.le (by decide)) (Nat.le_trans k2.le (by decide)) t op a z) hf S (vs := #[.agg cs, .agg cs1, .int .u64 t.toNat, .int .i64 op, .int .u64 a.toNat, .int .u64 z.toNat]) ?_ ⟨rfl, rfl, rfl, trivial⟩ (tab_ok ⟨rfl, rfl, rfl, trivial⟩ hl)).mono ?_
  · refine ⟨_, _, rfl, ⟨cs, rfl, ?_⟩, _, _, rfl, ⟨cs1, rfl, ?_⟩, _, _, rfl, rfl, _, _, rfl, rfl, _, _, rfl, rfl, _, [], rfl, rfl, rfl⟩
    · rw [hl']
      exact hc E
    · rw [hl1]
      exact hd E 0 1 2 rfl (show (0 : Nat) < 3 by decide) rfl (show (1 : Nat) < 3 by decide) rfl (show (2 : Nat) < 3 by decide)
  · rintro e w' ⟨⟨v, x, h', E', rfl, hd, rfl, _⟩, hb⟩
    simp only [Anv.denE, Anv.denV] at hd
    subst hd
    exact ⟨rfl, hb⟩

set_option maxRecDepth 100000 in
theorem lifted (os : Os) (started : os.Started) (H : Type) (enc : TypeId × Value → H) :
    ReturnsInHanded {} Tryz.checked os 3 .any (fun w args => (Rows.execCallsSpec.pre enc Tryz.prog Tryz.f3 Rows.execCallsRow.domain false w args ∧ laidMetH Tryz.prog laidD w) ∧ sizedMet enc Tryz.prog Tryz.f3 (OpenSpec.ofChange Rows.execCallsSpec) false w args)
      (Rows.execCallsSpec.post enc Tryz.prog Tryz.f3 false true false false) := by
  refine returns_shaped (C := Tryz.checked) (X := fun w _ => laidMetH Tryz.prog laidD w) (fun _ _ _ hh h => h.of_heap hh) own started (by kernel_rfl) Tryz.func3
    (ChangeSpec.witness_shaped (enc := enc) (C := Tryz.checked) (os := os) (X := fun w _ => laidMetH Tryz.prog laidD w) false (World.laidAll Tryz.prog os laidD) #[.agg cz, .agg sz, .int .u64 0, .int .i64 0, .int .u64 0, .int .u64 0] 8 (World.laidAll_os _ _ _)
      (World.shaped_of_ZipB (by kernel_rfl) (by kernel_rfl)) (by kernel_rfl) (by kernel_rfl) (by kernel_rfl)
      (by rw [MakeChecks.laidMetH_plain _ _ _ (by kernel_rfl)]; exact laidMet_laidAll _ (by kernel_rfl) (by kernel_rfl))) ?_
  intro W base args ds gs before hsh hval0 hW hbig hL
  have hval : ∀ (j : Nat) t v, Tryz.f3.params[j]? = some t → args[j]? = some v → Value.okWide Tryz.prog W .any base t v := hval0
  have hW' := hW
  obtain ⟨p, q, hA0, hV, rfl, hfz, hnd⟩ := hW
  have hA : DataW.TrodAll enc Tryz.prog W 0 (fun _ => true) true Tryz.f3.params.toList args.toList ds p := hA0
  rw [Tryz.params3] at hA hval
  obtain ⟨v0, vs0, d0, ds0, p0, q0, hargs, rfl, rfl, h0, r0⟩ := trodAll_cons hA
  obtain ⟨v1, vs1, d1, ds1, p1, q1, hargs1, rfl, rfl, h1, r1⟩ := trodAll_cons r0
  obtain ⟨v2, vs2, d2, ds2, p2, q2, hargs2, rfl, rfl, h2, r2⟩ := trodAll_cons r1
  obtain ⟨v3, vs3, d3, ds3, p3, q3, hargs3, rfl, rfl, h3, r3⟩ := trodAll_cons r2
  obtain ⟨v4, vs4, d4, ds4, p4, q4, hargs4, rfl, rfl, h4, r4⟩ := trodAll_cons r3
  obtain ⟨v5, vs5, d5, ds5, p5, q5, hargs5, rfl, rfl, h5, r5⟩ := trodAll_cons r4
  obtain ⟨rfl, rfl, rfl⟩ := trodAll_nil r5
  obtain rfl : args = #[v0, v1, v2, v3, v4, v5] := by cases args; simp_all
  obtain ⟨rfl, rfl⟩ := trodVars_none hV
  obtain ⟨cs, rfl, hpl⟩ := Anv.struct_placed Tryz.underlying31 (hval 0 _ v0 rfl rfl)
  obtain ⟨cs1, rfl, hpl1⟩ := Anv.struct_placed Tryz.underlying35 (hval 1 _ v1 rfl rfl)
  obtain ⟨tn, rfl⟩ := okWide_int Tryz.underlying22 (hval 2 _ v2 rfl rfl)
  obtain ⟨op, rfl⟩ := okWide_int Tryz.underlying3 (hval 3 _ v3 rfl rfl)
  obtain ⟨an, rfl⟩ := okWide_int Tryz.underlying22 (hval 4 _ v4 rfl rfl)
  obtain ⟨zn, rfl⟩ := okWide_int Tryz.underlying22 (hval 5 _ v5 rfl rfl)
  have k0 := h0
  have k1 := h1
  have k2 := h2
  have k3 := h3
  have k4 := h4
  have k5 := h5
  have lt0 : ∀ x ∈ p0, x.block < W.heap.size := by obtain ⟨m, hm⟩ := k0; exact DataW.trod_lt m _ _ _ hm
  have lt1 : ∀ x ∈ p1, x.block < W.heap.size := by obtain ⟨m, hm⟩ := k1; exact DataW.trod_lt m _ _ _ hm
  have lt2 : ∀ x ∈ p2, x.block < W.heap.size := by obtain ⟨m, hm⟩ := k2; exact DataW.trod_lt m _ _ _ hm
  have lt3 : ∀ x ∈ p3, x.block < W.heap.size := by obtain ⟨m, hm⟩ := k3; exact DataW.trod_lt m _ _ _ hm
  have lt4 : ∀ x ∈ p4, x.block < W.heap.size := by obtain ⟨m, hm⟩ := k4; exact DataW.trod_lt m _ _ _ hm
  have lt5 : ∀ x ∈ p5, x.block < W.heap.size := by obtain ⟨m, hm⟩ := k5; exact DataW.trod_lt m _ _ _ hm
  have f2 : Anv.fitF W [.int .u64] [.int .u64 tn] := by
    obtain ⟨fuel, hf⟩ := h2
    refine Anv.FTn.opens _ (show Anv.FTn Tryz.prog 1 22 [.int .u64] from .inl ⟨_, Tryz.underlying22, rfl⟩) hf (fun v hv => by simp only [List.mem_singleton] at hv; subst hv; rintro _ _ _ h; cases h) (fun m hm => ?_)
    have := List.all_eq_true.1 hbig m (DataW.weights_mem_each (j := 2) rfl rfl m hm)
    simpa using this
  have f3 : Anv.fitF W [.int .i64] [.int .i64 op] := by
    obtain ⟨fuel, hf⟩ := h3
    refine Anv.FTn.opens _ (show Anv.FTn Tryz.prog 1 3 [.int .i64] from .inl ⟨_, Tryz.underlying3, rfl⟩) hf (fun v hv => by simp only [List.mem_singleton] at hv; subst hv; rintro _ _ _ h; cases h) (fun m hm => ?_)
    have := List.all_eq_true.1 hbig m (DataW.weights_mem_each (j := 3) rfl rfl m hm)
    simpa using this
  have f4 : Anv.fitF W [.int .u64] [.int .u64 an] := by
    obtain ⟨fuel, hf⟩ := h4
    refine Anv.FTn.opens _ (show Anv.FTn Tryz.prog 1 22 [.int .u64] from .inl ⟨_, Tryz.underlying22, rfl⟩) hf (fun v hv => by simp only [List.mem_singleton] at hv; subst hv; rintro _ _ _ h; cases h) (fun m hm => ?_)
    have := List.all_eq_true.1 hbig m (DataW.weights_mem_each (j := 4) rfl rfl m hm)
    simpa using this
  have f5 : Anv.fitF W [.int .u64] [.int .u64 zn] := by
    obtain ⟨fuel, hf⟩ := h5
    refine Anv.FTn.opens _ (show Anv.FTn Tryz.prog 1 22 [.int .u64] from .inl ⟨_, Tryz.underlying22, rfl⟩) hf (fun v hv => by simp only [List.mem_singleton] at hv; subst hv; rintro _ _ _ h; cases h) (fun m hm => ?_)
    have := List.all_eq_true.1 hbig m (DataW.weights_mem_each (j := 5) rfl rfl m hm)
    simpa using this
  simp only [Anv.fitF] at f2 f3 f4 f5
  obtain ⟨n2, l2, e2, wf2, _⟩ := f2
  obtain ⟨rfl, rfl⟩ : tn = n2 ∧ l2 = [] := by simpa [eq_comm] using e2
  obtain ⟨n3, l3, e3, wf3, _⟩ := f3
  obtain ⟨rfl, rfl⟩ : op = n3 ∧ l3 = [] := by simpa [eq_comm] using e3
  obtain ⟨n4, l4, e4, wf4, _⟩ := f4
  obtain ⟨rfl, rfl⟩ : an = n4 ∧ l4 = [] := by simpa [eq_comm] using e4
  obtain ⟨n5, l5, e5, wf5, _⟩ := f5
  obtain ⟨rfl, rfl⟩ : zn = n5 ∧ l5 = [] := by simpa [eq_comm] using e5
  have b2 : 0 ≤ tn ∧ tn ≤ 18446744073709551615 := by
    simp only [Lit.wf, Bool.and_eq_true, decide_eq_true_eq] at wf2
    exact wf2
  obtain ⟨t, rfl⟩ : ∃ t : Anv.B64, tn = (t.toNat : Int) := ⟨BitVec.ofInt 64 tn, by rw [BitVec.toNat_ofInt]; omega⟩
  have b4 : 0 ≤ an ∧ an ≤ 18446744073709551615 := by
    simp only [Lit.wf, Bool.and_eq_true, decide_eq_true_eq] at wf4
    exact wf4
  obtain ⟨a, rfl⟩ : ∃ a : Anv.B64, an = (a.toNat : Int) := ⟨BitVec.ofInt 64 an, by rw [BitVec.toNat_ofInt]; omega⟩
  have b5 : 0 ≤ zn ∧ zn ≤ 18446744073709551615 := by
    simp only [Lit.wf, Bool.and_eq_true, decide_eq_true_eq] at wf5
    exact wf5
  obtain ⟨z, rfl⟩ : ∃ z : Anv.B64, zn = (z.toNat : Int) := ⟨BitVec.ofInt 64 zn, by rw [BitVec.toNat_ofInt]; omega⟩
  have fit : Anv.fitF W Anv.cpuF cs.toList := by
    obtain ⟨fuel, hf⟩ := h0
    refine Anv.FTn.opens _ (ft31 0) hf hpl (fun m hm => ?_)
    have := List.all_eq_true.1 hbig m (DataW.weights_mem_each (j := 0) rfl rfl m hm)
    simpa using this
  have fit1 : Anv.fitF W Anv.busF cs1.toList := by
    obtain ⟨fuel, hf⟩ := h1
    refine Anv.FTn.opens _ (ft35 0) hf hpl1 (fun m hm => ?_)
    have := List.all_eq_true.1 hbig m (DataW.weights_mem_each (j := 1) rfl rfl m hm)
    simpa using this
  clear hA0 hval0
  refine (walk cs cs1 t op a z W hL fit fit1).mono fun e W' ⟨he, bel⟩ => ?_
  subst he
  exact ⟨_, rfl, _, _, _, [], _, [], hW', trodAll_mk1 (shut_bool Tryz.underlying4 _), (trodAll_cons_mk (Below.trod laidOut (by kernel_rfl) (of_decide_eq_true (by kernel_rfl)) k0 bel lt0) (trodAll_cons_mk (Below.trod laidOut (by kernel_rfl) (of_decide_eq_true (by kernel_rfl)) k1 bel lt1) (trodAll_cons_mk (Below.trod laidOut (by kernel_rfl) (of_decide_eq_true (by kernel_rfl)) k2 bel lt2) (trodAll_cons_mk (Below.trod laidOut (by kernel_rfl) (of_decide_eq_true (by kernel_rfl)) k3 bel lt3) (trodAll_cons_mk (Below.trod laidOut (by kernel_rfl) (of_decide_eq_true (by kernel_rfl)) k4 bel lt4) (trodAll_cons_mk (Below.trod laidOut (by kernel_rfl) (of_decide_eq_true (by kernel_rfl)) k5 bel lt5) trodAll_mk0)))))), rfl, bel.frame _, fun h => by cases h⟩

theorem over : Rows.execCallsRow.holds Tryz.pinned (OpenSpec.ofChange Rows.execCallsSpec) :=
  OpenClaim.holds_of_wide 3 Tryz.f3 rfl rfl rfl rfl rfl rfl rfl ⟨rfl, rfl, rfl, rfl, rfl⟩ rfl rfl rfl rfl rfl (by kernel_rfl) Tryz.func3 (by kernel_rfl)
    (of_decide_eq_true (by kernel_rfl)) (by unfold Func.isWrapper; first | (rw [if_pos (by decide +kernel)]; kernel_rfl) | (rw [if_neg (by decide +kernel)]; exact ⟨rfl, rfl⟩))
    (fun os started H enc _ => lifted os started H enc)
end Go.Proofs.YtdlpmbghocabbaaGreatDoor.execCalls
namespace Go.Proofs.YtdlpmbghocabbaaGreatDoor
/-- The row. -/
theorem execCalls_holds : Rows.ExecCallsSaid := execCalls.over
set_option maxRecDepth 100000 in
/-- The tied card. -/
theorem execCalls_card_holds : Rows.ExecCallsCardSaid :=
  Claim7.holds_tied_plain_at .later [] [.data] true (true, "2f5aede458f1a643633ce60e0da4ccdd864c4971de08702014a9adbc9d419f90") true execCalls_holds (fun _ h => by cases h) (by kernel_rfl) (fun _ h => by cases h) execCalls_row_tie rfl ⟨rfl, rfl⟩ (by kernel_rfl) rfl
    (fun f fn hf hfn => by
      obtain rfl : f = 3 := Option.some.inj ((show Tryz.prog.funcNamed "anvil/anvillaw12.ExecCalls" = some 3 by kernel_rfl).symm.trans hf) |>.symm
      obtain rfl : fn = Tryz.f3 := (Option.some.inj (Tryz.func3.symm.trans hfn)).symm
      exact ⟨by kernel_rfl, fun j t ht => by
        rw [Tryz.params3] at ht
        have hm : t ∈ [31, 35, 22, 3, 22, 22] := by simpa using Array.mem_of_getElem? ht
        have hall : ([31, 35, 22, 3, 22, 22].all fun u => !Tryz.prog.wantsStandIn u) = true := by kernel_rfl
        exact (show Tryz.prog.wantsStandIn t = false by simpa using List.all_eq_true.1 hall t hm)⟩)
    (by kernel_rfl)
#print axioms execCalls_card_holds
end Go.Proofs.YtdlpmbghocabbaaGreatDoor
