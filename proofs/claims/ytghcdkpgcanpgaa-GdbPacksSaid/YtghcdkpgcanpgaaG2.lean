import Derived.Test.YtghcdkpgcanpgaaG1
namespace Go.Anv
open Go
/-- The sum of the first bytes. -/
def sumN (p : Nat → B8) : Nat → B8
  | 0 => 0
  | n + 1 => sumN p n + p n
end Go.Anv
namespace Go.Proofs.Ytghcdkpgcanpgaa
open Go Go.Anv
theorem sum_spec (m : Bool) (k o n c sp : Nat) (f : Nat → Int) (p : Nat → B8) (hn : o + n ≤ k) (hk : n < 2 ^ 62) (hp : ∀ j, j < n → f (o + j) = (p j).toNat) :
    Does TB 34 [.s (.gs 0 o n c)] [.cells m [.ints .u8 k f] sp] (fun v h' => v = .s (.int .u8 (sumN p n).toNat) ∧ h' = [.cells m [.ints .u8 k f] sp]) := by
  refine fnX_does TB Try.func34 rfl (by decide) (fun O on hO => ?_)
  refine loop_by (A := Nat) on (fun i => [(3, .s (.int .u8 (sumN p i).toNat)), (8, .s (.int .i64 (i : Int)))]) (fun _ => [.cells m [.ints .u8 k f] sp]) (fun i => i ≤ n) (fun i => n - i) 0 (by omega) ?_ ?_
  · refine ⟨?_, ?_⟩
    · repeat' (first | exact eqvT_nil | refine eqvT_junk ?_ | refine eqvT_same ?_ | refine eqvT_int ?_ ?_)
    · exact eqvH_same eqvH_nil
  · intro i hi
    refine ifB_intro (fun h1 => ?_) (fun h1 => ?_)
    · have h1 := of_decide_eq_true h1
      refine need_intro (by omega) ?_
      refine need_intro (by omega) ?_
      have hf : f (o + (i : Int).toNat) = (p i).toNat := hp i (by omega)
      refine ⟨i + 1, ?_, ?_, ?_, ?_⟩
      · show i + 1 ≤ n; omega
      · show n - (i + 1) < n - i; omega
      · repeat' (first | exact eqvT_nil | refine eqvT_junk ?_ | refine eqvT_same ?_ | refine eqvT_int ?_ ?_)
        · rw [hf, wrap_u8]
          simp only [sumN, BitVec.ofInt_add, ofInt_toNat]
        · rw [i64_in (by omega) (by omega)]; rfl
      · exact eqvH_same eqvH_nil
    · have h1 := of_decide_eq_false h1
      have : i = n := by omega
      subst this
      exact ⟨_, _, [0], ⟨rfl, rfl⟩, by decide, ⟨rfl, trivial⟩, ⟨rfl, rfl⟩, ⟨⟨_, rfl, eqvB_refl _⟩, trivial⟩⟩
theorem rsum_spec (m : Bool) (k o n c sp : Nat) (f : Nat → Int) (p : Nat → B8) (hn : o + n ≤ k) (hk : n < 2 ^ 62) (hp : ∀ j, j < n → f (o + j) = (p j).toNat) :
    Does TB 72 [.s (.gs 0 o n c)] [.cells m [.ints .u8 k f] sp] (fun v h' => v = .s (.int .i64 (sumN p n).toNat) ∧ h' = [.cells m [.ints .u8 k f] sp]) := by
  refine fnX_does TB Try.func72 rfl (by decide) (fun O on hO => ?_)
  refine loop_by (A := Nat) on (fun i => [(3, .s (.int .i64 (sumN p i).toNat)), (4, .s (.int .i64 (i : Int)))]) (fun _ => [.cells m [.ints .u8 k f] sp]) (fun i => i ≤ n) (fun i => n - i) 0 (by omega) ?_ ?_
  · refine ⟨?_, ?_⟩
    · repeat' (first | exact eqvT_nil | refine eqvT_junk ?_ | refine eqvT_same ?_ | refine eqvT_int ?_ ?_)
    · exact eqvH_same eqvH_nil
  · intro i hi
    refine ifB_intro (fun h1 => ?_) (fun h1 => ?_)
    · have h1 := of_decide_eq_true h1
      have hf : f (o + (i : Int).toNat) = (p i).toNat := hp i (by omega)
      have b1 := (sumN p i).isLt
      have b2 := (p i).isLt
      refine need_intro (by omega) ?_
      refine need_intro (by omega) ?_
      refine need_intro (by omega) ?_
      refine ⟨i + 1, ?_, ?_, ?_, ?_⟩
      · show i + 1 ≤ n; omega
      · show n - (i + 1) < n - i; omega
      · repeat' (first | exact eqvT_nil | refine eqvT_junk ?_ | refine eqvT_same ?_ | refine eqvT_int ?_ ?_)
        · rw [hf, i64_in (x := ((p i).toNat : Int)) (by omega) (by omega), i64_in (by omega) (by omega)]
          simp only [sumN, BitVec.toNat_add]
          rfl
        · rw [i64_in (by omega) (by omega)]; rfl
      · exact eqvH_same eqvH_nil
    · have h1 := of_decide_eq_false h1
      have : i = n := by omega
      subst this
      exact ⟨_, _, [0], ⟨rfl, rfl⟩, by decide, ⟨rfl, trivial⟩, ⟨rfl, rfl⟩, ⟨⟨_, rfl, eqvB_refl _⟩, trivial⟩⟩
/-- Two digits of a byte. -/
theorem digits_spec (b : B8) (h : List Blk) : Does TB 71 [.s (.int .u64 b.toNat), .s (.int .i64 2)] h (fun r h' => r = .s (.str (digs.extract (b >>> 4).toNat ((b >>> 4).toNat + 1) ++ digs.extract (b &&& 15#8).toNat ((b &&& 15#8).toNat + 1))) ∧ h' = h) := by
  refine fnX_pure TB Try.func71 rfl (by decide) rfl _ rfl (fun O on => ?_) h
  refine (hex_spec b.toNat (by have := b.isLt; omega) _).mono ?_
  rintro r h' ⟨rfl, rfl⟩
  have hb := b.isLt
  have e1 : (b >>> 4).toNat = b.toNat / 16 := by rw [BitVec.toNat_ushiftRight, Nat.shiftRight_eq_div_pow]
  have e2 : (b &&& 15#8).toNat = b.toNat % 16 := by
    rw [BitVec.toNat_and]
    exact Nat.and_two_pow_sub_one_eq_mod b.toNat 4
  have hx : ∀ x, x < 16 → (digs.extract x (x + 1)).size = 1 := fun x hx => by
    rw [ByteArray.size_extract]
    have : digs.size = 16 := rfl
    omega
  rw [e1, e2]
  have hz : (⟨#[48]⟩ : ByteArray).size = 1 := rfl
  have hcase : ((hexB b.toNat).size = 1 ∧ ⟨#[48]⟩ ++ hexB b.toNat = digs.extract (b.toNat / 16) (b.toNat / 16 + 1) ++ digs.extract (b.toNat % 16) (b.toNat % 16 + 1)) ∨ ((hexB b.toNat).size = 2 ∧ hexB b.toNat = digs.extract (b.toNat / 16) (b.toNat / 16 + 1) ++ digs.extract (b.toNat % 16) (b.toNat % 16 + 1)) := by
    by_cases hv : b.toNat < 16
    · left
      have hh : hexB b.toNat = digs.extract b.toNat (b.toNat + 1) := by rw [hexB, if_pos hv]
      rw [hh]
      refine ⟨hx _ hv, ?_⟩
      have hm : b.toNat % 16 = b.toNat := by omega
      rw [hm, show b.toNat / 16 = 0 by omega]
      rfl
    · right
      have hh : hexB b.toNat = digs.extract (b.toNat / 16) (b.toNat / 16 + 1) ++ digs.extract (b.toNat % 16) (b.toNat % 16 + 1) := by
        rw [hexB, if_neg hv, hexB, if_pos (by omega)]
      refine ⟨?_, hh⟩
      rw [hh, ByteArray.size_append, hx _ (by omega), hx _ (by omega)]
  generalize digs.extract (b.toNat / 16) (b.toNat / 16 + 1) ++ digs.extract (b.toNat % 16) (b.toNat % 16 + 1) = R at hcase ⊢
  generalize hexB b.toNat = s at hcase ⊢
  refine loop_by (A := ByteArray) on (fun t => [(5, .s (.str t))]) (fun _ => []) (fun t => (t.size = 1 ∧ ⟨#[48]⟩ ++ t = R) ∨ (t.size = 2 ∧ t = R)) (fun t => 2 - t.size) s hcase ?_ ?_
  · refine ⟨?_, ?_⟩
    · repeat' (first | exact eqvT_nil | refine eqvT_junk ?_ | refine eqvT_same ?_ | refine eqvT_int ?_ ?_)
    · exact eqvH_nil
  · intro t ht
    refine ifB_intro (fun h1 => ?_) (fun h1 => ?_)
    · have h1 := of_decide_eq_true h1
      rcases ht with ⟨hs, hr⟩ | ⟨hs, hr⟩
      · refine need_intro (by rw [hs, hz]; decide) ?_
        have h2 : (⟨#[48]⟩ ++ t : ByteArray).size = 2 := by rw [ByteArray.size_append, hs, hz]
        refine ⟨⟨#[48]⟩ ++ t, .inr ⟨h2, hr⟩, ?_, ?_, ?_⟩
        · show 2 - (⟨#[48]⟩ ++ t : ByteArray).size < 2 - t.size
          omega
        · repeat' (first | exact eqvT_nil | refine eqvT_junk ?_ | refine eqvT_same ?_ | refine eqvT_int ?_ ?_)
        · exact eqvH_nil
      · omega
    · have h1 := of_decide_eq_false h1
      rcases ht with ⟨hs, hr⟩ | ⟨hs, hr⟩
      · omega
      · subst hr
        exact rfl
end Go.Proofs.Ytghcdkpgcanpgaa
