/- Part 7 of the texts of this claim, merged: H5, FT. No condition: plain theorems, contracts of functions. -/
import Derived.Test.YtghcdkpgcanpgaaDoorZ6
import Derived.Test.YtghcdkpgcanpgaaDoorRows
import Derived.Lib.LaidU8T
import Derived.LaidMore
import Derived.Lay
import Derived.ProofKit
import Derived.OpenShut
import Derived.SizedLaws
import Derived.Test.YtghcdkpgcanpgaaDoorProg
import Derived.KernelRfl

set_option linter.unusedSimpArgs false
set_option linter.unusedVariables false
/- GdbBack, GdbSum: the call's start: the listed tables, a slice of bytes that came in, the shape of the package's variables. -/
namespace Go.Proofs.YtghcdkpgcanpgaaDoor
open Go Go.Anv Go.ChangeShapes Go.WideShapes Go.ChangeAt Go.RowKit
/-- As the kit's 'returnsInHanded_of_change_and', the world's shape handed on too. -/
theorem returns_shaped {H : Type} {enc : TypeId × Value → H} {a : Assume} {C : Checked} {os : Os} {f : FuncId} {fn : Func} {s : ChangeSpec} {conds : List PathCond} {apart fresh handsOn again : Bool} {X : World → Array Value → Prop}
    (hX : ∀ (w w' : World) (args : Array Value), w.heap = w'.heap → X w args → X w' args)
    (own : ownKnob C.prog.godebug = none) (started : os.Started) (noInit : C.prog.inits.idxOf? f = none) (hfn : C.prog.funcs[f]? = some fn)
    (witness : ∃ (w : World) (tape : Tape) (i : Input), w.os = os ∧ (w.forCall tape i).Shaped C.prog ∧ i.vars = [] ∧ Input.okWide C.prog (w.forCall tape i) .any w.heap.size f i ∧
      ((s.pre enc C.prog fn conds apart (w.forCall tape i).memory i.args ∧ X (w.forCall tape i).memory i.args) ∧ sizedMet enc C.prog fn (OpenSpec.ofChange s) apart (w.forCall tape i).memory i.args) ∧ a.holds C.prog (lone (Frame.enter C.prog f i.args .normal) [] (w.forCall tape i)))
    (contract : ∀ (W : World) (base : Nat) (args : Array Value) (ds gs : List (DataW H)) (before : List MemPlace), W.ShapedOpen C.prog →
      (∀ (j : Nat) t v, fn.params[j]? = some t → args[j]? = some v → Value.okWide C.prog W .any base t v) →
      DataW.Whole enc C.prog fn.params.toList s.vars apart W args.toList ds gs before →
      (DataW.weightsEach C.prog (fn.params.toList ++ s.plain.varTypes C.prog) (ds ++ gs)).all (· ≤ reachBytes) = true → X W args →
      Calls C.prog f args W fun e W' => ∃ v, e = .returned v ∧ s.post enc C.prog fn apart fresh handsOn again W args v W') :
    ReturnsInHanded a C os f .any (fun w args => (s.pre enc C.prog fn conds apart w args ∧ X w args) ∧ sizedMet enc C.prog fn (OpenSpec.ofChange s) apart w args) (s.post enc C.prog fn apart fresh handsOn again) := by
  refine returnsInHanded_of_calls own started noInit witness ?_
  intro w tape i _ hsh _ hok hpre _
  obtain ⟨_, _, _, fn', hfn', _, _, _, _, hval⟩ := hok
  have e : fn' = fn := Option.some.inj (hfn'.symm.trans hfn)
  subst e
  obtain ⟨⟨⟨ds, gs, before, hw, hc⟩, hx⟩, hz⟩ := hpre
  have hw' := DataW.Whole.of_heap (w' := w.forCall tape i) (by rfl) hw
  refine (contract (w.forCall tape i) w.heap.size i.args ds gs before hsh hval hw' (hz.weights hw) (hX _ _ _ (by rfl) hx)).mono fun e W' ⟨v, he, hp⟩ => ?_
  subst he
  exact ChangeSpec.post_blind hp
/-- The listed variables. -/
abbrev laidD : List (String × DataW Unit) := [("unicode/utf8.acceptRanges", Rows.laid_unicode_utf8_acceptRanges), ("unicode/utf8.first", Rows.laid_unicode_utf8_first)]
def utfRen : Go.Shelf.Ren := ⟨fun n => n, fun | 5 => 5 | 119 => 56 | 138 => 58 | 139 => 59 | n => n, fun | 3 => 1 | 4 => 2 | n => n⟩
theorem utfTypes : Go.Proofs.U8Types Tryd.prog utfRen := ⟨Tryd.underlying5, Tryd.underlying56, Tryd.underlying58, Tryd.underlying59⟩
theorem tabs_laid {W : World} (h : laidMetH Tryd.prog laidD W) : Lib.Utf8Tabs 1 2 W := by
  rw [MakeChecks.laidMetH_plain _ _ _ (by kernel_rfl)] at h
  have a := Go.Lib.laidMet.reads h (.head _)
  have b := Go.Lib.laidMet.reads h (.tail _ (.head _))
  have ea : Rows.laid_unicode_utf8_acceptRanges = Go.Lib.acceptData := by kernel_rfl
  have eb : Rows.laid_unicode_utf8_first = Go.Lib.firstData := by kernel_rfl
  rw [ea] at a
  rw [eb] at b
  exact Go.Proofs.utf8Tabs_of_readsT utfTypes ⟨by kernel_rfl, by kernel_rfl, by kernel_rfl, by kernel_rfl, by kernel_rfl, by kernel_rfl, by kernel_rfl⟩ b a
theorem maxLen_cell {W : World} (h : W.ShapedOpen Tryd.prog) : ∃ m, W.cell? ⟨0, 0, none⟩ = some (.int .i64 m) := by
  obtain ⟨cs, h1, h2, h3⟩ := h.1 0 #[.int .i64 0] 3 (of_decide_eq_true (by kernel_rfl)) (by kernel_rfl)
  obtain ⟨ts, ht, _, hc⟩ := h3 (by kernel_rfl)
  obtain rfl : ts = [3] := Option.some.inj (ht.symm.trans (by kernel_rfl))
  have hs : cs.size = 1 := h2
  obtain ⟨v, hv⟩ : ∃ v, cs[0]? = some v := ⟨_, Array.getElem?_eq_getElem (by omega)⟩
  obtain ⟨u, hu, hk⟩ := hc 0 v hv
  obtain rfl : u = 3 := by simpa using hu.symm
  simp only [Cell.ok, Tryd.underlying3] at hk
  have hcell : W.cell? ⟨0, 0, none⟩ = some v := by simp [World.cell?, h1, hv]
  cases v <;> simp at hk
  obtain ⟨rfl, _⟩ := hk
  exact ⟨_, hcell⟩
theorem tab_ok {E : Emb} {h : List Blk} {W : World} (hr : roAll h) (hl : laidMetH Tryd.prog laidD W) (hs : W.ShapedOpen Tryd.prog) : TabOk E h W := by
  have hT := tabs_laid hl
  obtain ⟨m, hm⟩ := maxLen_cell hs
  have nm : ∀ b o, ¬ mutAt E h b o := by
    rintro b o ⟨i, B, hi, hB, _⟩
    rw [roAll_get hr i B hi] at hB
    cases hB
  have lt : ∀ {b o v}, W.cell? ⟨b, o, none⟩ = some v → b < W.heap.size := by
    intro b o v hv
    rcases Nat.lt_or_ge b W.heap.size with h | h
    · exact h
    · simp [World.cell?, Array.getElem?_eq_none h] at hv
  intro b o P hP
  have key : ∃ v, W.cell? ⟨b, o, none⟩ = some v ∧ P v := by
    unfold seatG at hP
    split at hP
    · rename_i h0
      obtain ⟨rfl, rfl⟩ := h0
      cases hP
      exact ⟨_, hm, m, rfl⟩
    split at hP
    · rename_i h0
      obtain ⟨rfl, h1⟩ := h0
      cases hP
      exact ⟨_, hT.1 o h1, rfl⟩
    split at hP
    · rename_i h0
      obtain ⟨rfl, h1⟩ := h0
      cases hP
      rcases Nat.mod_two_eq_zero_or_one o with e | e
      · obtain ⟨i, rfl⟩ : ∃ i, o = 2 * i := ⟨o / 2, by omega⟩
        refine ⟨_, (hT.2 i (by omega)).1, ?_⟩
        rw [if_pos e, show 2 * i / 2 = i from by omega]
      · obtain ⟨i, rfl⟩ : ∃ i, o = 2 * i + 1 := ⟨o / 2, by omega⟩
        refine ⟨_, (hT.2 i (by omega)).2, ?_⟩
        rw [if_neg (by omega), show (2 * i + 1) / 2 = i from by omega]
    · cases hP
  obtain ⟨v, hv, hp⟩ := key
  exact ⟨⟨v, hv, hp⟩, lt hv, nm b o⟩
/-- A slice of bytes that came in. -/
theorem bytes_in {W : World} {a : Option Addr} {n cap : Nat} {f : Nat → Int} (h : slIn W .u8 a n cap f) :
    ∃ E : Emb, Sim E [bblk false n (fun j => BitVec.ofInt 8 (f j)) 0] W ∧ denV E (.gs 0 0 n cap) (.slice a n cap) ∧ n ≤ 140737488355328 := by
  have wf : ∀ {x : Int}, (Lit.int .u8 x).wf = true → x = ((BitVec.ofInt 8 x).toNat : Int) := by
    intro x h
    have h0 : 0 ≤ x ∧ x ≤ 255 := by
      simp only [Lit.wf, Bool.and_eq_true, decide_eq_true_eq] at h
      exact h
    rw [BitVec.toNat_ofInt]
    omega
  have mk : ∀ p : Anv.Loc, (p.b < W.heap.size ∨ p.nl = true ∧ n = 0) → (∀ j, j < n → W.cell? ⟨p.b, p.o + j, none⟩ = some (.int .u8 (bfun (fun j => BitVec.ofInt 8 (f j)) j))) → Sim ⟨1, fun _ => p⟩ [bblk false n (fun j => BitVec.ofInt 8 (f j)) 0] W := by
    intro p h1 h2
    refine ⟨rfl, fun i B hi => ?_, fun i j A B hij hi hj hA => ?_⟩
    · have hi0 : i = 0 := by
        rcases Nat.eq_zero_or_pos i with h | h
        · exact h
        · rw [List.getElem?_eq_none (by simp; omega)] at hi; cases hi
      subst hi0
      simp only [List.getElem?_cons_zero, Option.some.injEq] at hi
      subst hi
      refine ⟨?_, ⟨intsOf .u8 n (bfun fun j => BitVec.ofInt 8 (f j)) ++ [], ⟨[], rfl, rfl⟩, fun j v hj => ?_⟩, fun h => by cases h⟩
      · rcases h1 with h | ⟨h, h'⟩
        · exact .inl h
        · exact .inr ⟨h, by simp [sizeS, h']⟩
      · rw [List.append_nil] at hj
        have hj' : j < n := by
          rcases Nat.lt_or_ge j n with h | h
          · exact h
          · rw [List.getElem?_eq_none (by rw [length_intsOf]; exact h)] at hj; cases hj
        rw [intsOf_get hj'] at hj
        cases hj
        exact h2 j hj'
    · exfalso
      rcases i with _ | i
      · simp only [List.getElem?_cons_zero, Option.some.injEq] at hi; subst hi; cases hA
      · simp at hi
  obtain ⟨hle, ⟨rfl, rfl, rfl⟩ | ⟨b, o, rfl, hb, hlc, hc⟩⟩ := h
  · refine ⟨⟨1, fun _ => ⟨0, 0, true⟩⟩, mk _ (.inr ⟨rfl, rfl⟩) (fun j hj => by omega), ?_, by omega⟩
    exact ⟨by decide, fun _ => ⟨rfl, rfl⟩, rfl⟩
  · refine ⟨⟨1, fun _ => ⟨b, o, false⟩⟩, mk _ (.inl hb) (fun j hj => ?_), ?_, by omega⟩
    · obtain ⟨h1, h2⟩ := hc j hj
      show W.cell? ⟨b, o + j, none⟩ = _
      rw [h1]
      exact congrArg (fun z => some (Value.int .u8 z)) (wf h2)
    · exact ⟨by show 0 < 1; decide, (fun h => by cases h), by simp [Emb.at]⟩
end Go.Proofs.YtghcdkpgcanpgaaDoor

/- What the arguments of the statements of this seat are made of. Printed by gen_ft.py; no condition. -/
namespace Go.Proofs.YtghcdkpgcanpgaaDoor
open Go Go.Anv
set_option maxRecDepth 100000
theorem ft28 (n : Nat) : FTn Tryd.prog (n + 2) 28 [.sl .u8, .int .i64, .int .u8] := .inr (.inr (.inr (.inr (.inl ⟨_, Tryd.underlying28, by kernel_rfl, ⟨[.sl .u8], _, rfl, rfl, by kernel_rfl, .inr (.inr (.inr (.inl ⟨_, _, Tryd.underlying22, Tryd.underlying5, by kernel_rfl, of_decide_eq_true (by kernel_rfl), rfl⟩))), ⟨[.int .i64], _, rfl, rfl, by kernel_rfl, .inl ⟨_, Tryd.underlying3, rfl⟩, ⟨[.int .u8], _, rfl, rfl, by kernel_rfl, .inl ⟨_, Tryd.underlying5, rfl⟩, rfl⟩⟩⟩⟩))))
end Go.Proofs.YtghcdkpgcanpgaaDoor
