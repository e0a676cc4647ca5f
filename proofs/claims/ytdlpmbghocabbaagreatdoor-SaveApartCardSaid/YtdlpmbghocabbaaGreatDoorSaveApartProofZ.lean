/- SaveApart: two wholes that can be saved have one save exactly where they are one and the same; what is handed in stays as it is. No condition but the table that the row lists; the card ties it to the program's text. The frame of the proof follows proof-skeleton.mjs and the kit's worked example Pinup; the walk is by the engine of this claim. -/
import Derived.Test.YtdlpmbghocabbaaGreatDoorRows
import Derived.Test.YtdlpmbghocabbaaGreatDoorCards
import Derived.Test.YtdlpmbghocabbaaGreatDoorTie
import Derived.WalkKit
import Derived.ProofKit
import Derived.OpenShut
import Derived.ShutString
import Derived.ChangeOld
import Derived.Below
import Derived.SizedLaws
import Derived.LaidMore
import Derived.Lay
import Derived.SevenTiedAt
import Derived.Stop.Joined
import Derived.Test.YtdlpmbghocabbaaGreatDoorZ11
namespace Go.Proofs.YtdlpmbghocabbaaGreatDoor.saveApart
open Go.ChangeShapes Go.WideShapes Go.ChangeAt Go.RowKit
set_option linter.unusedVariables false

theorem own : ownKnob Tryz.prog.godebug = none := by kernel_rfl
theorem laidOut : laidOutB Tryz.prog = true := by kernel_rfl

theorem walk (cs ds : Array Value) (w : World) (hl0 : laidMetH Tryz.prog laidD w) (h : Anv.fitF w (Anv.cpuF ++ Anv.busF) cs.toList) (g : Anv.fitF w (Anv.cpuF ++ Anv.busF) ds.toList) :
    Calls Tryz.prog 7 #[.agg cs, .agg ds] w fun e w' => e = .returned (.bool true) ∧ Below w.heap.size w w' := by
  have hf : Anv.isFn TB 7 := ⟨_, Tryz.func7, by kernel_rfl, by kernel_rfl⟩
  obtain ⟨c, x, y, hl, hc, hb, _, _⟩ := Anv.cpu_in h
  rw [← List.append_nil Anv.busF] at hb
  obtain ⟨s, x', y', p0, p1, p2, c0, c1, c2, q0, q1, q2, rfl, k0, k1, k2, hd, hy⟩ := Anv.bus_in hb
  simp only [Anv.fitF] at hy
  subst hy
  rw [List.append_nil] at hl
  obtain ⟨c', u, v, hl', hc', hb', _, _⟩ := Anv.cpu_in g
  rw [← List.append_nil Anv.busF] at hb'
  obtain ⟨s', u', v', p3, p4, p5, c3, c4, c5, q3, q4, q5, rfl, k3, k4, k5, hd', hv⟩ := Anv.bus_in hb'
  simp only [Anv.fitF] at hv
  subst hv
  rw [List.append_nil] at hl'
  let E : Anv.Emb := ⟨6, fun i => match i with | 0 => p0 | 1 => p1 | 2 => p2 | 3 => p3 | 4 => p4 | _ => p5⟩
  let l : Anv.Lists := ⟨false, 0, Anv.trim s.nr q0, false, 0, Anv.trim s.ni q1, false, 0, Anv.trim s.no q2⟩
  let l' : Anv.Lists := ⟨false, 0, Anv.trim s'.nr q3, false, 0, Anv.trim s'.ni q4, false, 0, Anv.trim s'.no q5⟩
  have S : Anv.Sim E (l.blks s ++ l'.blks s') w := Anv.sim6 k0.trim k1.trim k2.trim k3.trim k4.trim k5.trim
  refine (Anv.Does.below (saveApart_law c c' s s' l l' c0 c1 c2 c3 c4 c5 k0.le k1.le k2.le k3.le k4.le k5.le) hf S (vs := #[.agg cs, .agg ds]) ?_ ⟨rfl, rfl, rfl, rfl, rfl, rfl, trivial⟩ (tab_ok ⟨rfl, rfl, rfl, rfl, rfl, rfl, trivial⟩ hl0)).mono ?_
  · refine ⟨_, _, rfl, ⟨cs, rfl, ?_⟩, _, [], rfl, ⟨ds, rfl, ?_⟩, rfl⟩
    · rw [hl]
      exact Anv.denS_append (hc E) (hd E 0 1 2 rfl (show (0 : Nat) < 6 by decide) rfl (show (1 : Nat) < 6 by decide) rfl (show (2 : Nat) < 6 by decide))
    · rw [hl']
      exact Anv.denS_append (hc' E) (hd' E 3 4 5 rfl (show (3 : Nat) < 6 by decide) rfl (show (4 : Nat) < 6 by decide) rfl (show (5 : Nat) < 6 by decide))
  · rintro e w' ⟨⟨v, x, h', E', rfl, hd, rfl, _⟩, hb⟩
    simp only [Anv.denE, Anv.denV] at hd
    subst hd
    exact ⟨rfl, hb⟩

set_option maxRecDepth 100000 in
theorem lifted (os : Os) (started : os.Started) (H : Type) (enc : TypeId × Value → H) :
    ReturnsInHanded {} Tryz.checked os 7 .any (fun w args => (Rows.saveApartSpec.pre enc Tryz.prog Tryz.f7 Rows.saveApartRow.domain false w args ∧ laidMetH Tryz.prog laidD w) ∧ sizedMet enc Tryz.prog Tryz.f7 (OpenSpec.ofChange Rows.saveApartSpec) false w args)
      (Rows.saveApartSpec.post enc Tryz.prog Tryz.f7 false true false false) := by
  refine returns_shaped (C := Tryz.checked) (X := fun w _ => laidMetH Tryz.prog laidD w) (fun _ _ _ hh h => h.of_heap hh) own started (by kernel_rfl) Tryz.func7
    (ChangeSpec.witness_shaped (enc := enc) (C := Tryz.checked) (os := os) (X := fun w _ => laidMetH Tryz.prog laidD w) false (World.laidAll Tryz.prog os laidD) #[.agg Anv.wz, .agg Anv.wz] 8 (World.laidAll_os _ _ _)
      (World.shaped_of_ZipB (by kernel_rfl) (by kernel_rfl)) (by kernel_rfl) (by kernel_rfl) (by kernel_rfl)
      (by rw [MakeChecks.laidMetH_plain _ _ _ (by kernel_rfl)]; exact laidMet_laidAll _ (by kernel_rfl) (by kernel_rfl))) ?_
  intro W base args ds gs before hsh hval0 hW hbig hL
  have hval : ∀ (j : Nat) t v, Tryz.f7.params[j]? = some t → args[j]? = some v → Value.okWide Tryz.prog W .any base t v := hval0
  have hW' := hW
  obtain ⟨p, q, hA0, hV, rfl, hfz, hnd⟩ := hW
  have hA : DataW.TrodAll enc Tryz.prog W 0 (fun _ => true) true Tryz.f7.params.toList args.toList ds p := hA0
  rw [Tryz.params7] at hA hval
  obtain ⟨v0, vs0, d0, ds0, p0, q0, hargs, rfl, rfl, h0, r0⟩ := trodAll_cons hA
  obtain ⟨v1, vs1, d1, ds1, p1, q1, hargs1, rfl, rfl, h1, r1⟩ := trodAll_cons r0
  obtain ⟨rfl, rfl, rfl⟩ := trodAll_nil r1
  obtain rfl : args = #[v0, v1] := by cases args; simp_all
  obtain ⟨rfl, rfl⟩ := trodVars_none hV
  obtain ⟨cs, rfl, hpl⟩ := Anv.struct_placed Tryz.underlying51 (hval 0 _ v0 rfl rfl)
  obtain ⟨cs1, rfl, hpl1⟩ := Anv.struct_placed Tryz.underlying51 (hval 1 _ v1 rfl rfl)
  have k0 := h0
  have k1 := h1
  have lt0 : ∀ x ∈ p0, x.block < W.heap.size := by obtain ⟨m, hm⟩ := k0; exact DataW.trod_lt m _ _ _ hm
  have lt1 : ∀ x ∈ p1, x.block < W.heap.size := by obtain ⟨m, hm⟩ := k1; exact DataW.trod_lt m _ _ _ hm
  have fit : Anv.fitF W (Anv.cpuF ++ Anv.busF) cs.toList := by
    obtain ⟨fuel, hf⟩ := h0
    refine Anv.FTn.opens _ (ft51 0) hf hpl (fun m hm => ?_)
    have := List.all_eq_true.1 hbig m (DataW.weights_mem_each (j := 0) rfl rfl m hm)
    simpa using this
  have fit1 : Anv.fitF W (Anv.cpuF ++ Anv.busF) cs1.toList := by
    obtain ⟨fuel, hf⟩ := h1
    refine Anv.FTn.opens _ (ft51 0) hf hpl1 (fun m hm => ?_)
    have := List.all_eq_true.1 hbig m (DataW.weights_mem_each (j := 1) rfl rfl m hm)
    simpa using this
  clear hA0 hval0
  refine (walk cs cs1 W hL fit fit1).mono fun e W' ⟨he, bel⟩ => ?_
  subst he
  exact ⟨_, rfl, _, _, _, [], _, [], hW', trodAll_mk1 (shut_bool Tryz.underlying4 _), (trodAll_cons_mk (Below.trod laidOut (by kernel_rfl) (of_decide_eq_true (by kernel_rfl)) k0 bel lt0) (trodAll_cons_mk (Below.trod laidOut (by kernel_rfl) (of_decide_eq_true (by kernel_rfl)) k1 bel lt1) trodAll_mk0)), rfl, bel.frame _, fun h => by cases h⟩

theorem over : Rows.saveApartRow.holds Tryz.pinned (OpenSpec.ofChange Rows.saveApartSpec) :=
  OpenClaim.holds_of_wide 7 Tryz.f7 rfl rfl rfl rfl rfl rfl rfl ⟨rfl, rfl, rfl, rfl, rfl⟩ rfl rfl rfl rfl rfl (by kernel_rfl) Tryz.func7 (by kernel_rfl)
    (of_decide_eq_true (by kernel_rfl)) (by unfold Func.isWrapper; first | (rw [if_pos (by decide +kernel)]; kernel_rfl) | (rw [if_neg (by decide +kernel)]; exact ⟨rfl, rfl⟩))
    (fun os started H enc _ => lifted os started H enc)
end Go.Proofs.YtdlpmbghocabbaaGreatDoor.saveApart
namespace Go.Proofs.YtdlpmbghocabbaaGreatDoor
/-- The row. -/
theorem saveApart_holds : Rows.SaveApartSaid := saveApart.over
set_option maxRecDepth 100000 in
/-- The tied card. -/
theorem saveApart_card_holds : Rows.SaveApartCardSaid :=
  Claim7.holds_tied_plain_at .later [] [.data] true (true, "2f5aede458f1a643633ce60e0da4ccdd864c4971de08702014a9adbc9d419f90") true saveApart_holds (fun _ h => by cases h) (by kernel_rfl) (fun _ h => by cases h) saveApart_row_tie rfl ⟨rfl, rfl⟩ (by kernel_rfl) rfl
    (fun f fn hf hfn => by
      obtain rfl : f = 7 := Option.some.inj ((show Tryz.prog.funcNamed "anvil/anvillaw16.SaveApart" = some 7 by kernel_rfl).symm.trans hf) |>.symm
      obtain rfl : fn = Tryz.f7 := (Option.some.inj (Tryz.func7.symm.trans hfn)).symm
      exact ⟨by kernel_rfl, fun j t ht => by
        rw [Tryz.params7] at ht
        have hm : t ∈ [51, 51] := by simpa using Array.mem_of_getElem? ht
        have hall : ([51, 51].all fun u => !Tryz.prog.wantsStandIn u) = true := by kernel_rfl
        exact (show Tryz.prog.wantsStandIn t = false by simpa using List.all_eq_true.1 hall t hm)⟩)
    (by kernel_rfl)
#print axioms saveApart_card_holds
end Go.Proofs.YtdlpmbghocabbaaGreatDoor
