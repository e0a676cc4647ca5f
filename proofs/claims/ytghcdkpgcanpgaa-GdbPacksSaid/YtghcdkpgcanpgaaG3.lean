import Derived.Test.YtghcdkpgcanpgaaG2
import Derived.Lib.BytesEntry
import Derived.Laws.Externs
import Derived.KernelRfl
namespace Go.Proofs.Ytghcdkpgcanpgaa
open Go Go.Anv
theorem index_body (m : Bool) (sp cv : Nat) (f : Nat → Int) (cp n : Nat) :
    Does TB 69 [.s (.slice 0 0 n cp), .s (.int .u8 cv)] [.cells m [.ints .u8 n f] sp] (fun v h' => v = .s (.int .i64 (Lib.indexByte (Lib.bytesOf ((List.range n).map f)) ((cv : Int)).toNat.toUInt8)) ∧ h' = [.cells m [.ints .u8 n f] sp]) := by
  refine ⟨.inr fun E w vs S ha => ?_⟩
  simp only [denT, denE, denV] at ha
  obtain ⟨v1, l1, e1, ⟨⟨hb, hnl⟩, rfl⟩, v2, l2, rfl, rfl, rfl⟩ := ha
  obtain ⟨l, hl, hlw, _⟩ := S.look (i := 0) rfl
  simp only [denS] at hl
  obtain ⟨_, rfl, rfl⟩ := hl
  rw [List.append_nil] at hlw
  have hvs : vs = #[.slice (some (E.at 0 0)) n cp, .int .u8 cv] := by rw [← Array.toList_inj]; exact e1
  subst hvs
  have hrun := run_callFunc_extern (P := TB.P) Try.func69 (by kernel_rfl) (by kernel_rfl) (by kernel_rfl) (e := Extern.BytealgIndexByte.indexByte) (by kernel_rfl) #[.slice (some (E.at 0 0)) n cp, .int .u8 cv] w
  have hat : E.at 0 0 = ⟨(E.f 0).1, (E.f 0).2 + 0, none⟩ := rfl
  rw [hat, Lib.run_indexByteSlice w (E.f 0).1 ((E.f 0).2 + 0) n cp ((List.range n).map f) (by simp) (fun i hi => by
    rw [Nat.add_zero]
    refine hlw i _ ?_
    rw [intsOf_get hi, List.getD_eq_getElem?_getD, List.getElem?_map, List.getElem?_range hi]
    rfl) cv] at hrun
  refine ⟨_, _, hrun, _, .s (.int .i64 _), _, E, rfl, ?_, S, Since.refl _ _ _, rfl, rfl⟩
  simp only [denE, denV]
theorem index_spec (m : Bool) (c : B8) : Does TB 33 [.s (.slice 0 0 4 4), .s (.int .u8 c.toNat)] [.cells m [.ints .u8 4 (litF [35, 36, 125, 42])] 0]
    (fun v h' => (∃ r, v = .s (.int .i64 r) ∧ decide (0 ≤ r) = special c) ∧ h' = [.cells m [.ints .u8 4 (litF [35, 36, 125, 42])] 0]) := by
  refine fnX_does TB Try.func33 rfl (by decide) (fun O on hO => ?_)
  refine (index_body m 0 c.toNat (litF [35, 36, 125, 42]) 4 4).mono ?_
  rintro v h' ⟨rfl, rfl⟩
  refine ⟨_, _, [0], ⟨⟨_, rfl, ?_⟩, rfl⟩, by decide, ⟨rfl, trivial⟩, ⟨rfl, rfl⟩, ⟨⟨_, rfl, eqvB_refl _⟩, trivial⟩⟩
  have : ∀ c : B8, decide (0 ≤ Lib.indexByte (Lib.bytesOf ((List.range 4).map (litF [35, 36, 125, 42]))) ((c.toNat : Int)).toNat.toUInt8) = special c := by decide +kernel
  exact this c
end Go.Proofs.Ytghcdkpgcanpgaa
