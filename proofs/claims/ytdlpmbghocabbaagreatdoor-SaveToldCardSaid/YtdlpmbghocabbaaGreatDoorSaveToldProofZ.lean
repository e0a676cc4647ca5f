/- SaveTold: a snapshot with any bits turned within 32 side by side is told from a snapshot; with none it is loaded again; what is handed in stays as it is. No condition but the table that the row lists; the card ties it to the program's text. The frame of the proof follows proof-skeleton.mjs and the kit's worked example Pinup; the walk is by the engine of this claim. -/
import Derived.Test.YtdlpmbghocabbaaGreatDoorRows
import Derived.Test.YtdlpmbghocabbaaGreatDoorCards
import Derived.Test.YtdlpmbghocabbaaGreatDoorTie
import Derived.WalkKit
import Derived.ProofKit
import Derived.OpenShut
import Derived.ShutString
import Derived.ChangeOld
import Derived.Below
import Derived.SizedLaws
import Derived.LaidMore
import Derived.Lay
import Derived.SevenTiedAt
import Derived.Stop.Joined
import Derived.Test.YtdlpmbghocabbaaGreatDoorZ11
namespace Go.Proofs.YtdlpmbghocabbaaGreatDoor.saveTold
open Go.ChangeShapes Go.WideShapes Go.ChangeAt Go.RowKit
set_option linter.unusedVariables false

theorem own : ownKnob Tryz.prog.godebug = none := by kernel_rfl
theorem laidOut : laidOutB Tryz.prog = true := by kernel_rfl

theorem walk (cs : Array Value) (at_ : Int) (pat : Anv.B32) (w : World) (ha : -9223372036854775808 ≤ at_ ∧ at_ ≤ 9223372036854775807) (hl : laidMetH Tryz.prog laidD w) (h : Anv.fitF w (Anv.cpuF ++ Anv.busF) cs.toList) :
    Calls Tryz.prog 6 #[.agg cs, .int .i64 at_, .int .u32 pat.toNat] w fun e w' => e = .returned (.bool true) ∧ Below w.heap.size w w' := by
  have hf : Anv.isFn TB 6 := ⟨_, Tryz.func6, by kernel_rfl, by kernel_rfl⟩
  obtain ⟨c, x, y, hl', hc, hb, _, _⟩ := Anv.cpu_in h
  rw [← List.append_nil Anv.busF] at hb
  obtain ⟨s, x', y', p0, p1, p2, c0, c1, c2, q0, q1, q2, rfl, k0, k1, k2, hd, hy⟩ := Anv.bus_in hb
  simp only [Anv.fitF] at hy
  subst hy
  rw [List.append_nil] at hl'
  let E : Anv.Emb := ⟨3, fun i => match i with | 0 => p0 | 1 => p1 | _ => p2⟩
  let l : Anv.Lists := ⟨false, 0, Anv.trim s.nr q0, false, 0, Anv.trim s.ni q1, false, 0, Anv.trim s.no q2⟩
  have S : Anv.Sim E (l.blks s) w := Anv.sim3 k0.trim k1.trim k2.trim
  refine (Anv.Does.below (saveTold_law c s l c0 c1 c2 at_ pat ha k0.le k1.le k2.le) hf S (vs := #[.agg cs, .int .i64 at_, .int .u32 pat.toNat]) ?_ ⟨rfl, rfl, rfl, trivial⟩ (tab_ok ⟨rfl, rfl, rfl, trivial⟩ hl)).mono ?_
  · refine ⟨_, _, rfl, ⟨cs, rfl, ?_⟩, _, _, rfl, rfl, _, [], rfl, rfl, rfl⟩
    rw [hl']
    exact Anv.denS_append (hc E) (hd E 0 1 2 rfl (show (0 : Nat) < 3 by decide) rfl (show (1 : Nat) < 3 by decide) rfl (show (2 : Nat) < 3 by decide))
  · rintro e w' ⟨⟨v, x, h', E', rfl, hd, rfl, _⟩, hb⟩
    simp only [Anv.denE, Anv.denV] at hd
    subst hd
    exact ⟨rfl, hb⟩

set_option maxRecDepth 100000 in
theorem lifted (os : Os) (started : os.Started) (H : Type) (enc : TypeId × Value → H) :
    ReturnsInHanded {} Tryz.checked os 6 .any (fun w args => (Rows.saveToldSpec.pre enc Tryz.prog Tryz.f6 Rows.saveToldRow.domain false w args ∧ laidMetH Tryz.prog laidD w) ∧ sizedMet enc Tryz.prog Tryz.f6 (OpenSpec.ofChange Rows.saveToldSpec) false w args)
      (Rows.saveToldSpec.post enc Tryz.prog Tryz.f6 false true false false) := by
  refine returns_shaped (C := Tryz.checked) (X := fun w _ => laidMetH Tryz.prog laidD w) (fun _ _ _ hh h => h.of_heap hh) own started (by kernel_rfl) Tryz.func6
    (ChangeSpec.witness_shaped (enc := enc) (C := Tryz.checked) (os := os) (X := fun w _ => laidMetH Tryz.prog laidD w) false (World.laidAll Tryz.prog os laidD) #[.agg Anv.wz, .int .i64 0, .int .u32 0] 8 (World.laidAll_os _ _ _)
      (World.shaped_of_ZipB (by kernel_rfl) (by kernel_rfl)) (by kernel_rfl) (by kernel_rfl) (by kernel_rfl)
      (by rw [MakeChecks.laidMetH_plain _ _ _ (by kernel_rfl)]; exact laidMet_laidAll _ (by kernel_rfl) (by kernel_rfl))) ?_
  intro W base args ds gs before hsh hval0 hW hbig hL
  have hval : ∀ (j : Nat) t v, Tryz.f6.params[j]? = some t → args[j]? = some v → Value.okWide Tryz.prog W .any base t v := hval0
  have hW' := hW
  obtain ⟨p, q, hA0, hV, rfl, hfz, hnd⟩ := hW
  have hA : DataW.TrodAll enc Tryz.prog W 0 (fun _ => true) true Tryz.f6.params.toList args.toList ds p := hA0
  rw [Tryz.params6] at hA hval
  obtain ⟨v0, vs0, d0, ds0, p0, q0, hargs, rfl, rfl, h0, r0⟩ := trodAll_cons hA
  obtain ⟨v1, vs1, d1, ds1, p1, q1, hargs1, rfl, rfl, h1, r1⟩ := trodAll_cons r0
  obtain ⟨v2, vs2, d2, ds2, p2, q2, hargs2, rfl, rfl, h2, r2⟩ := trodAll_cons r1
  obtain ⟨rfl, rfl, rfl⟩ := trodAll_nil r2
  obtain rfl : args = #[v0, v1, v2] := by cases args; simp_all
  obtain ⟨rfl, rfl⟩ := trodVars_none hV
  obtain ⟨cs, rfl, hpl⟩ := Anv.struct_placed Tryz.underlying51 (hval 0 _ v0 rfl rfl)
  obtain ⟨at_, rfl⟩ := okWide_int Tryz.underlying3 (hval 1 _ v1 rfl rfl)
  obtain ⟨pn, rfl⟩ := okWide_int Tryz.underlying33 (hval 2 _ v2 rfl rfl)
  have k0 := h0
  have k1 := h1
  have k2 := h2
  have lt1 : ∀ x ∈ p1, x.block < W.heap.size := by obtain ⟨m, hm⟩ := k1; exact DataW.trod_lt m _ _ _ hm
  have lt2 : ∀ x ∈ p2, x.block < W.heap.size := by obtain ⟨m, hm⟩ := k2; exact DataW.trod_lt m _ _ _ hm
  have f1 : Anv.fitF W [.int .i64] [.int .i64 at_] := by
    obtain ⟨fuel, hf⟩ := h1
    refine Anv.FTn.opens _ (show Anv.FTn Tryz.prog 1 3 [.int .i64] from .inl ⟨_, Tryz.underlying3, rfl⟩) hf (fun v hv => by simp only [List.mem_singleton] at hv; subst hv; rintro _ _ _ h; cases h) (fun m hm => ?_)
    have := List.all_eq_true.1 hbig m (DataW.weights_mem_each (j := 1) rfl rfl m hm)
    simpa using this
  have f2 : Anv.fitF W [.int .u32] [.int .u32 pn] := by
    obtain ⟨fuel, hf⟩ := h2
    refine Anv.FTn.opens _ (show Anv.FTn Tryz.prog 1 33 [.int .u32] from .inl ⟨_, Tryz.underlying33, rfl⟩) hf (fun v hv => by simp only [List.mem_singleton] at hv; subst hv; rintro _ _ _ h; cases h) (fun m hm => ?_)
    have := List.all_eq_true.1 hbig m (DataW.weights_mem_each (j := 2) rfl rfl m hm)
    simpa using this
  simp only [Anv.fitF] at f1 f2
  obtain ⟨a', l1, e1, wf1, _⟩ := f1
  obtain ⟨p', l2, e2, wf2, _⟩ := f2
  obtain ⟨rfl, rfl⟩ : at_ = a' ∧ l1 = [] := by simpa [eq_comm] using e1
  obtain ⟨rfl, rfl⟩ : pn = p' ∧ l2 = [] := by simpa [eq_comm] using e2
  have ha : -9223372036854775808 ≤ at_ ∧ at_ ≤ 9223372036854775807 := by
    simp only [Lit.wf, Bool.and_eq_true, decide_eq_true_eq] at wf1
    exact wf1
  have hp : 0 ≤ pn ∧ pn ≤ 4294967295 := by
    simp only [Lit.wf, Bool.and_eq_true, decide_eq_true_eq] at wf2
    exact wf2
  obtain ⟨pat, rfl⟩ : ∃ pat : Anv.B32, pn = (pat.toNat : Int) := ⟨BitVec.ofInt 32 pn, by rw [BitVec.toNat_ofInt]; omega⟩
  have lt0 : ∀ x ∈ p0, x.block < W.heap.size := by obtain ⟨m, hm⟩ := k0; exact DataW.trod_lt m _ _ _ hm
  have fit : Anv.fitF W (Anv.cpuF ++ Anv.busF) cs.toList := by
    obtain ⟨fuel, hf⟩ := h0
    refine Anv.FTn.opens _ (ft51 0) hf hpl (fun m hm => ?_)
    have := List.all_eq_true.1 hbig m (DataW.weights_mem_each (j := 0) rfl rfl m hm)
    simpa using this
  clear hA0 hval0
  refine (walk cs at_ pat W ha hL fit).mono fun e W' ⟨he, bel⟩ => ?_
  subst he
  exact ⟨_, rfl, _, _, _, [], _, [], hW', trodAll_mk1 (shut_bool Tryz.underlying4 _), (trodAll_cons_mk (Below.trod laidOut (by kernel_rfl) (of_decide_eq_true (by kernel_rfl)) k0 bel lt0) (trodAll_cons_mk (Below.trod laidOut (by kernel_rfl) (of_decide_eq_true (by kernel_rfl)) k1 bel lt1) (trodAll_cons_mk (Below.trod laidOut (by kernel_rfl) (of_decide_eq_true (by kernel_rfl)) k2 bel lt2) trodAll_mk0))), rfl, bel.frame _, fun h => by cases h⟩

theorem over : Rows.saveToldRow.holds Tryz.pinned (OpenSpec.ofChange Rows.saveToldSpec) :=
  OpenClaim.holds_of_wide 6 Tryz.f6 rfl rfl rfl rfl rfl rfl rfl ⟨rfl, rfl, rfl, rfl, rfl⟩ rfl rfl rfl rfl rfl (by kernel_rfl) Tryz.func6 (by kernel_rfl)
    (of_decide_eq_true (by kernel_rfl)) (by unfold Func.isWrapper; first | (rw [if_pos (by decide +kernel)]; kernel_rfl) | (rw [if_neg (by decide +kernel)]; exact ⟨rfl, rfl⟩))
    (fun os started H enc _ => lifted os started H enc)
end Go.Proofs.YtdlpmbghocabbaaGreatDoor.saveTold
namespace Go.Proofs.YtdlpmbghocabbaaGreatDoor
/-- The row. -/
theorem saveTold_holds : Rows.SaveToldSaid := saveTold.over
set_option maxRecDepth 100000 in
/-- The tied card. -/
theorem saveTold_card_holds : Rows.SaveToldCardSaid :=
  Claim7.holds_tied_plain_at .later [] [.data] true (true, "2f5aede458f1a643633ce60e0da4ccdd864c4971de08702014a9adbc9d419f90") true saveTold_holds (fun _ h => by cases h) (by kernel_rfl) (fun _ h => by cases h) saveTold_row_tie rfl ⟨rfl, rfl⟩ (by kernel_rfl) rfl
    (fun f fn hf hfn => by
      obtain rfl : f = 6 := Option.some.inj ((show Tryz.prog.funcNamed "anvil/anvillaw16.SaveTold" = some 6 by kernel_rfl).symm.trans hf) |>.symm
      obtain rfl : fn = Tryz.f6 := (Option.some.inj (Tryz.func6.symm.trans hfn)).symm
      exact ⟨by kernel_rfl, fun j t ht => by
        rw [Tryz.params6] at ht
        have hm : t ∈ [51, 3, 33] := by simpa using Array.mem_of_getElem? ht
        have hall : ([51, 3, 33].all fun u => !Tryz.prog.wantsStandIn u) = true := by kernel_rfl
        exact (show Tryz.prog.wantsStandIn t = false by simpa using List.all_eq_true.1 hall t hm)⟩)
    (by kernel_rfl)
#print axioms saveTold_card_holds
end Go.Proofs.YtdlpmbghocabbaaGreatDoor
