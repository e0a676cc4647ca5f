/- GdbPacks returns true for every payload: the packet of the program is the document's packet; what is handed in stays as it is. No condition. The frame of the proof was written by proof-skeleton.mjs; the walk is by the engine of this claim. -/
import Derived.Test.YtghcdkpgcanpgaaRows
import Derived.WalkKit
import Derived.ProofKit
import Derived.OpenShut
import Derived.ShutString
import Derived.ChangeOld
import Derived.Below
import Derived.SizedLaws
import Derived.Test.YtghcdkpgcanpgaaG6
namespace Go.Proofs.Ytghcdkpgcanpgaa.gdbPacks
open Go.ChangeShapes Go.WideShapes Go.ChangeAt Go.RowKit
open Go.ChangeMaps (open_string shut_string)
set_option linter.unusedVariables false

theorem own : ownKnob Try.prog.godebug = none := by kernel_rfl
theorem laidOut : laidOutB Try.prog = true := by kernel_rfl

/-- WHAT THE WALK IS TOLD OF A SLICE OF INTEGERS THAT CAME IN: it is nil; or it leads to a row of 'cap' cells, the numbers 'zs' (the first 'len' are its elements, the rest its spare room), each fitting its kind. -/
def IsRow (k : IntKind) (w : World) (a : Option Addr) (len cap : Nat) (zs : List Int) : Prop :=
  (a = none ∧ len = 0 ∧ cap = 0 ∧ zs = []) ∨
  ∃ x, a = some x ∧ len ≤ cap ∧ cap ≤ maxLen ∧ zs.length = cap ∧ (∀ i, i < zs.length → w.cell? (x.add i) = some (.int k (zs.getD i 0))) ∧ ∀ n ∈ zs, (Lit.int k n).wf = true

/-! ### STEP 1: THE WALK. -/
theorem walk (a0 : Option Addr) (len0 cap0 : Nat) (z0 : List Int) (w : World) (w0 : IsRow .u8 w a0 len0 cap0 z0) (hs : ∀ x, a0 = some x → x.spot = none ∧ x.block < w.heap.size) (hn : len0 ≤ 140737488355328) :
    Calls Try.prog 4 #[.slice a0 len0 cap0] w fun e w' => e = .returned (.bool true) ∧ Below w.heap.size w w' := by
  have hf : Anv.isFn TB 4 := ⟨_, Try.func4, by kernel_rfl, by kernel_rfl⟩
  have key : ∀ (p : Anv.Loc) (f : Nat → Int) (q : Nat → Anv.B8), (p.b < w.heap.size ∨ p.nl = true ∧ len0 = 0) → (p.nl = true → len0 = 0 ∧ cap0 = 0) → a0 = (if p.nl then none else some ⟨p.b, p.o, none⟩) →
      (∀ j, j < len0 → w.cell? ⟨p.b, p.o + j, none⟩ = some (.int .u8 (f j))) → (∀ j, j < len0 → f j = (q j).toNat) →
      Calls Try.prog 4 #[.slice a0 len0 cap0] w fun e w' => e = .returned (.bool true) ∧ Below w.heap.size w w' := by
    intro p f q h1 h2 h3 h4 h5
    have S : Anv.Sim ⟨1, fun _ => p⟩ [.cells false [.ints .u8 len0 f] 0] w := by
      refine ⟨rfl, fun i B hi => ?_, fun i j A B hij hi hj hA => ?_⟩
      · have hi0 : i = 0 := by
          rcases Nat.eq_zero_or_pos i with h | h
          · exact h
          · rw [List.getElem?_eq_none (by simp; omega)] at hi; cases hi
        subst hi0
        simp only [List.getElem?_cons_zero, Option.some.injEq] at hi
        subst hi
        refine ⟨?_, ⟨Anv.intsOf .u8 len0 f ++ [], ⟨[], rfl, rfl⟩, fun j v hj => ?_⟩, fun h => by cases h⟩
        · rcases h1 with h | ⟨h, h'⟩
          · exact .inl h
          · exact .inr ⟨h, by simp [Anv.sizeS, h']⟩
        · rw [List.append_nil] at hj
          have hj' : j < len0 := by
            rcases Nat.lt_or_ge j len0 with h | h
            · exact h
            · rw [List.getElem?_eq_none (by rw [Anv.length_intsOf]; exact h)] at hj; cases hj
          rw [Anv.intsOf_get hj'] at hj
          cases hj
          exact h4 j hj'
      · exfalso
        rcases i with _ | i
        · simp only [List.getElem?_cons_zero, Option.some.injEq] at hi; subst hi; cases hA
        · simp at hi
    refine (Anv.Does.below (law_spec len0 cap0 f q hn h5) hf S (vs := #[.slice a0 len0 cap0]) ?_ ⟨rfl, trivial⟩).mono ?_
    · refine ⟨_, [], rfl, ⟨Nat.zero_lt_one, h2, ?_⟩, rfl⟩
      rw [h3]
      rfl
    · rintro e w' ⟨⟨v, x, h', E', rfl, hd, rfl, _⟩, hb⟩
      simp only [Anv.denE, Anv.denV] at hd
      subst hd
      exact ⟨rfl, hb⟩
  rcases w0 with ⟨rfl, rfl, rfl, rfl⟩ | ⟨x, rfl, hl, hm, hz, hc, hw⟩
  · exact key ⟨0, 0, true⟩ (fun _ => 0) (fun _ => 0) (.inr ⟨rfl, rfl⟩) (fun _ => ⟨rfl, rfl⟩) rfl (fun j hj => by omega) (fun j hj => by omega)
  · obtain ⟨hs1, hs2⟩ := hs x rfl
    obtain ⟨b, o, s⟩ := x
    obtain rfl : s = none := hs1
    refine key ⟨b, o, false⟩ (fun j => z0.getD j 0) (fun j => BitVec.ofInt 8 (z0.getD j 0)) (.inl hs2) (fun h => by cases h) rfl (fun j hj => ?_) (fun j hj => ?_)
    · have := hc j (by omega)
      unfold Addr.add at this
      split at this
      · rename_i h; subst h; exact this
      · exact this
    · have hmem : z0.getD j 0 ∈ z0 := by
        rw [List.getD_eq_getElem?_getD, List.getElem?_eq_getElem (by omega)]
        exact List.getElem_mem _
      have := hw _ hmem
      have h0 : 0 ≤ z0.getD j 0 ∧ z0.getD j 0 ≤ 255 := by
        simp only [Lit.wf, Bool.and_eq_true, decide_eq_true_eq] at this
        exact this
      rw [BitVec.toNat_ofInt]
      omega

/-! ### THE ROW's STEP: WRITTEN OUT: LEAVE IT -/
set_option maxRecDepth 100000 in
theorem lifted (os : Os) (started : os.Started) (H : Type) (enc : TypeId × Value → H) :
    ReturnsInHanded {} Try.checked os 4 .any (Rows.gdbPacksSpec.pre6 enc Try.prog Try.f4 Rows.gdbPacksRow.domain false) (Rows.gdbPacksSpec.post enc Try.prog Try.f4 false true false false) := by
  refine returnsInHanded_of_change_sized (C := Try.checked) own started (by kernel_rfl) Try.func4
    (ChangeSpec.witness6 (enc := enc) (C := Try.checked) false ⟨#[], #[.slice none 0 0], []⟩ 8 (by kernel_rfl) (by kernel_rfl) (by kernel_rfl) (by kernel_rfl)) ?_
  intro W base args ds gs before hval0 hW hcnd hbig _
  have hval : ∀ (j : Nat) t v, Try.f4.params[j]? = some t → args[j]? = some v → Value.okWide Try.prog W .any base t v := hval0
  have hW' := hW
  obtain ⟨p, q, hA0, hV, rfl, hfz, hnd⟩ := hW
  have hA : DataW.TrodAll enc Try.prog W 0 (fun _ => true) true Try.f4.params.toList args.toList ds p := hA0
  rw [Try.params4] at hA hval
  obtain ⟨v0, vs0, d0, ds0, p0, q0, hargs, rfl, rfl, h0, r0⟩ := trodAll_cons hA
  obtain ⟨rfl, rfl, rfl⟩ := trodAll_nil r0
  obtain rfl : args = #[v0] := by cases args; simp_all
  obtain ⟨rfl, rfl⟩ := trodVars_none hV
  obtain ⟨a0, len0, cap0, rfl⟩ := okWide_slice Try.underlying23 (hval 0 23 v0 rfl rfl)
  have k0 := h0
  have lt0 : ∀ x ∈ p0, x.block < W.heap.size := by obtain ⟨m, hm⟩ := k0; exact DataW.trod_lt m _ _ _ hm
  obtain ⟨⟨z0, w0⟩, hlen⟩ : (∃ zs, IsRow .u8 W a0 len0 cap0 zs) ∧ len0 ≤ 140737488355328 := by
    obtain ⟨fuel, hf⟩ := h0
    rcases open_ints Try.underlying23 Try.underlying5 (by kernel_rfl) hf with ⟨hcs, _⟩ | ⟨x, l, c, zs, hcs, _, hl, hm, hz, hd, hcell, hwz⟩
    · simp [Value.cells] at hcs
      obtain ⟨rfl, rfl, rfl⟩ := hcs
      exact ⟨⟨[], .inl ⟨rfl, rfl, rfl, rfl⟩⟩, Nat.zero_le _⟩
    · simp [Value.cells] at hcs
      obtain ⟨rfl, rfl, rfl⟩ := hcs
      refine ⟨⟨zs, .inr ⟨_, rfl, hl, hm, by simpa using hz, hcell, hwz⟩⟩, ?_⟩
      simp only [Prod.mk.injEq] at hd
      obtain ⟨rfl, _⟩ := hd
      have hb := sized_slice hbig (j := 0) (t := 23) (e := 5) rfl rfl Try.underlying23
      have hb1 : Try.prog.bytesOf 5 = 1 := by kernel_rfl
      have hr := reachBytes_lt
      have hz' : zs.length = cap0 := by simpa using hz
      have hb : (_ + _) * Try.prog.bytesOf 5 ≤ _ := hb
      rw [hb1] at hb
      simp only [lits, List.length_map, List.length_take, List.length_drop] at hb
      omega
  have hspot : ∀ x, a0 = some x → x.spot = none ∧ x.block < W.heap.size := by
    rintro x rfl
    have h := hval 0 23 _ rfl rfl
    have h' : Cell.okWide Try.prog W .any base 23 (.slice (some x) len0 cap0) := by
      unfold Value.okWide at h
      rw [Try.underlying23] at h
      exact h
    have h'' : len0 ≤ cap0 ∧ (cap0 : Int) ≤ IntKind.i64.max ∧ W.has Try.prog .any base x 5 cap0 := by
      unfold Cell.okWide at h'
      rw [Try.underlying23] at h'
      unfold Cell.ok at h'
      rw [Try.underlying23] at h'
      exact h'
    obtain ⟨_, _, _, hs, row, cells, hsh, _⟩ := h''
    refine ⟨hs, ?_⟩
    rcases Nat.lt_or_ge x.block W.heap.size with hlt | hge
    · exact hlt
    · simp [World.shape?, Array.getElem?_eq_none hge] at hsh
  clear hA0 hval0
  refine (walk a0 len0 cap0 z0 W w0 hspot hlen).mono fun e W' ⟨he, bel⟩ => ?_
  subst he
  exact ⟨_, rfl, _, _, _, [], _, [], hW', trodAll_mk1 (shut_bool Try.underlying4 _), (trodAll_cons_mk (Below.trod laidOut (by kernel_rfl) (of_decide_eq_true (by kernel_rfl)) k0 bel lt0) trodAll_mk0), rfl, bel.frame _, fun h => by cases h⟩

theorem over : Rows.gdbPacksRow.holds Try.pinned (OpenSpec.ofChange Rows.gdbPacksSpec) :=
  OpenClaim.holds_of_wide 4 Try.f4 rfl rfl rfl rfl rfl rfl rfl ⟨rfl, rfl, rfl, rfl, rfl⟩ rfl rfl rfl rfl rfl (by kernel_rfl) Try.func4 (by kernel_rfl)
    (of_decide_eq_true (by kernel_rfl)) (by unfold Func.isWrapper; first | (rw [if_pos (by decide +kernel)]; kernel_rfl) | (rw [if_neg (by decide +kernel)]; exact ⟨rfl, rfl⟩))
    (fun os started H enc _ => lifted os started H enc)

/-- ████ THE STATEMENT ████ -/
theorem proved : Rows.GdbPacksSaid := over
#print axioms proved
end Go.Proofs.Ytghcdkpgcanpgaa.gdbPacks
namespace Go.Proofs.Ytghcdkpgcanpgaa
/-- The row, under a short name, for the claim. -/
theorem gdbPacks_holds : Rows.GdbPacksSaid := gdbPacks.proved
end Go.Proofs.Ytghcdkpgcanpgaa
