/- The sum over a snapshot's bytes; a blank page. Contracts of functions. -/
import Derived.Test.YtghcdkpgcanpgaaV2
namespace Go.Anv
open Go
def crcBit (x : BitVec 32) : BitVec 32 := if x &&& 1#32 == 1#32 then (x >>> 1) ^^^ 3988292384#32 else x >>> 1
def crcBits (x : BitVec 32) : Nat → BitVec 32
  | 0 => x
  | n + 1 => crcBit (crcBits x n)
/-- The sum over the first bytes, not yet turned over. -/
def crcN (p : Nat → B8) : Nat → BitVec 32
  | 0 => 4294967295#32
  | n + 1 => crcBits (crcN p n ^^^ (p n).setWidth 32) 8
theorem u32_of8 (b : B8) : IntKind.u32.wrap ((b.toNat : Int)) = ((b.setWidth 32).toNat : Int) := by
  have := b.isLt
  rw [wrap_u32, BitVec.toNat_setWidth, BitVec.toNat_ofInt]
  omega
end Go.Anv
namespace Go.Proofs.Ytghcdkpgcanpgaa
open Go Go.Anv
set_option maxRecDepth 100000 in
theorem sum_spec (m : Bool) (k o n c sp : Nat) (f : Nat → Int) (p : Nat → B8) (hn : o + n ≤ k) (hk : n < 2 ^ 62) (hp : ∀ j, j < n → f (o + j) = (p j).toNat) :
    Does TB 43 [.s (.gs 0 o n c)] [.cells m [.ints .u8 k f] sp] (fun v h' => v = .s (.int .u32 (~~~ crcN p n).toNat) ∧ h' = [.cells m [.ints .u8 k f] sp]) := by
  refine fnX_does TB Try.func43 rfl (by decide) (fun O on hO => ?_)
  refine loop_by (A := Nat) on (fun i => [(3, .s (.int .u32 (crcN p i).toNat)), (9, .s (.int .i64 (i : Int)))]) (fun _ => [.cells m [.ints .u8 k f] sp]) (fun i => i ≤ n) (fun i => n - i) 0 (by omega) ?_ ?_
  · refine ⟨?_, ?_⟩
    · repeat' (first | exact eqvT_nil | refine eqvT_junk ?_ | refine eqvT_same ?_ | refine eqvT_int ?_ ?_)
    · exact eqvH_same eqvH_nil
  · intro i hi
    refine ifB_intro (fun h1 => ?_) (fun h1 => ?_)
    · have h1 := of_decide_eq_true h1
      refine need_intro (by omega) ?_
      refine need_intro (by omega) ?_
      have hf : f (o + (i : Int).toNat) = (p i).toNat := hp i (by omega)
      refine loop_by (A := Nat) on (fun j => [(3, .s (.int .u32 (crcBits (crcN p i ^^^ (p i).setWidth 32) j).toNat)), (17, .s (.int .i64 (j : Int)))]) (fun _ => [.cells m [.ints .u8 k f] sp]) (fun j => j ≤ 8) (fun j => 8 - j) 0 (by omega) ?_ ?_
      · refine ⟨?_, ?_⟩
        · repeat' (first | exact eqvT_nil | refine eqvT_junk ?_ | refine eqvT_same ?_ | refine eqvT_int ?_ ?_)
          · rw [hf, u32_of8, xor_u32, ofInt_toNat, ofInt_toNat]
            rfl
        · exact eqvH_same eqvH_nil
      · intro j hj
        have hb : crcBits (crcN p i ^^^ (p i).setWidth 32) (j + 1) = crcBit (crcBits (crcN p i ^^^ (p i).setWidth 32) j) := rfl
        generalize hX : crcBits (crcN p i ^^^ (p i).setWidth 32) j = X at hb
        refine ifB_intro (fun h2 => ?_) (fun h2 => ?_)
        · have h2 := of_decide_eq_true h2
          refine need_intro (by decide) ?_
          have hlow : (bitX .and .u32 (X.toNat : Int) 1 == 1) = (X &&& 1#32 == 1#32) := by
            rw [and_u32, ofInt_toNat]
            exact beq_lit (X &&& 1#32) 1 (by decide) (by decide)
          have hsh : ((X.toNat : Int)).fdiv (2 ^ 1) = ((X >>> 1).toNat : Int) := fdiv_pow X 1
          refine ifB_intro (fun h3 => ?_) (fun h3 => ?_)
          · have h3 : (X &&& 1#32 == 1#32) = true := hlow.symm.trans h3
            refine ⟨j + 1, ?_, ?_, ?_, ?_⟩
            · show j + 1 ≤ 8; omega
            · show 8 - (j + 1) < 8 - j; omega
            · repeat' (first | exact eqvT_nil | refine eqvT_junk ?_ | refine eqvT_same ?_ | refine eqvT_int ?_ ?_)
              · rw [hb]
                unfold crcBit
                rw [if_pos h3]
                show bitX .xor .u32 (((X.toNat : Int)).fdiv (2 ^ 1)) 3988292384 = _
                rw [hsh, xor_u32, ofInt_toNat]
                rfl
              · rw [i64_in (by omega) (by omega)]; rfl
            · exact eqvH_same eqvH_nil
          · have h3 : (X &&& 1#32 == 1#32) = false := hlow.symm.trans h3
            refine ⟨j + 1, ?_, ?_, ?_, ?_⟩
            · show j + 1 ≤ 8; omega
            · show 8 - (j + 1) < 8 - j; omega
            · repeat' (first | exact eqvT_nil | refine eqvT_junk ?_ | refine eqvT_same ?_ | refine eqvT_int ?_ ?_)
              · rw [hb]
                unfold crcBit
                rw [h3]
                exact hsh
              · rw [i64_in (by omega) (by omega)]; rfl
            · exact eqvH_same eqvH_nil
        · have h2 := of_decide_eq_false h2
          have hj8 : j = 8 := by omega
          subst hj8
          refine ⟨i + 1, ?_, ?_, ?_, ?_⟩
          · show i + 1 ≤ n; omega
          · show n - (i + 1) < n - i; omega
          · repeat' (first | exact eqvT_nil | refine eqvT_junk ?_ | refine eqvT_same ?_ | refine eqvT_int ?_ ?_)
            · exact congrArg (fun z : BitVec 32 => (z.toNat : Int)) hX.symm
            · rw [i64_in (by omega) (by omega)]; rfl
          · exact eqvH_same eqvH_nil
    · have h1 := of_decide_eq_false h1
      have : i = n := by omega
      subst this
      refine ⟨_, _, [0], ⟨rfl, rfl⟩, by decide, ⟨rfl, trivial⟩, ⟨rfl, ?_⟩, ⟨⟨_, rfl, eqvB_refl _⟩, trivial⟩⟩
      show bitX .xor .u32 4294967295 ((crcN p i).toNat : Int) = _
      rw [xor_u32, ofInt_toNat, show BitVec.ofInt 32 4294967295 = BitVec.allOnes 32 by decide, BitVec.allOnes_xor]
def blankN (p : Nat → B8) : Nat → Bool
  | 0 => true
  | n + 1 => blankN p n && (p n == 0#8)
theorem blankN_false {p : Nat → B8} {i : Nat} (h : p i ≠ 0#8) : ∀ {n : Nat}, i < n → blankN p n = false
  | n + 1, hn => by
    by_cases hi : i = n
    · subst hi
      simp [blankN, h]
    · simp [blankN, blankN_false h (n := n) (by omega)]
set_option maxRecDepth 100000 in
theorem blank_spec (m : Bool) (k o n c sp : Nat) (f : Nat → Int) (p : Nat → B8) (hn : o + n ≤ k) (hk : n < 2 ^ 62) (hp : ∀ j, j < n → f (o + j) = (p j).toNat) :
    Does TB 79 [.s (.gs 0 o n c)] [.cells m [.ints .u8 k f] sp] (fun v h' => v = .s (.bool (blankN p n)) ∧ h' = [.cells m [.ints .u8 k f] sp]) := by
  refine fnX_does TB Try.func79 rfl (by decide) (fun O on hO => ?_)
  refine loop_by (A := Nat) on (fun i => [(2, .s (.bool false)), (7, .s (.int .i64 (i : Int)))]) (fun _ => [.cells m [.ints .u8 k f] sp]) (fun i => i ≤ n ∧ blankN p i = true) (fun i => n - i) 0 ⟨by omega, rfl⟩ ?_ ?_
  · refine ⟨?_, ?_⟩
    · repeat' (first | exact eqvT_nil | refine eqvT_junk ?_ | refine eqvT_same ?_ | refine eqvT_int ?_ ?_)
    · exact eqvH_same eqvH_nil
  · rintro i ⟨hi, hb⟩
    refine ifB_intro (fun h1 => ?_) (fun h1 => ?_)
    · have h1 := of_decide_eq_true h1
      refine need_intro (by omega) ?_
      refine need_intro (by omega) ?_
      have hf : f (o + (i : Int).toNat) = (p i).toNat := hp i (by omega)
      have hz : (((p i).toNat : Int) == 0) = (p i == 0#8) := beq_lit (p i) 0 (by decide) (by decide)
      refine ifB_intro (fun h2 => ?_) (fun h2 => ?_)
      · have h2 : (!(f (o + (i : Int).toNat) == 0)) = true := h2
        rw [hf, hz] at h2
        have h3 : p i ≠ 0#8 := by simpa using h2
        exact ⟨.s (.bool false), [.cells m [.ints .u8 k f] sp], [0], ⟨by rw [blankN_false h3 (by omega)], rfl⟩, by decide, ⟨rfl, trivial⟩, rfl, ⟨⟨_, rfl, eqvB_refl _⟩, trivial⟩⟩
      · have h2 : (!(f (o + (i : Int).toNat) == 0)) = false := h2
        rw [hf, hz] at h2
        refine ⟨i + 1, ?_, ?_, ?_, ?_⟩
        · refine ⟨by omega, ?_⟩
          simp only [blankN, hb, Bool.true_and]
          simpa using h2
        · show n - (i + 1) < n - i; omega
        · repeat' (first | exact eqvT_nil | refine eqvT_junk ?_ | refine eqvT_same ?_ | refine eqvT_int ?_ ?_)
          rw [i64_in (by omega) (by omega)]; rfl
        · exact eqvH_same eqvH_nil
    · have h1 := of_decide_eq_false h1
      have : i = n := by omega
      subst this
      exact ⟨.s (.bool true), [.cells m [.ints .u8 k f] sp], [0], ⟨by rw [hb], rfl⟩, by decide, ⟨rfl, trivial⟩, rfl, ⟨⟨_, rfl, eqvB_refl _⟩, trivial⟩⟩
end Go.Proofs.Ytghcdkpgcanpgaa
