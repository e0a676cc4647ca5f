/- The reference's sum over a snapshot. Contract of a function. -/
import Derived.Test.YtghcdkpgcanpgaaV6
namespace Go.Proofs.Ytghcdkpgcanpgaa
open Go Go.Anv
theorem half2 (X : BitVec 32) : IntKind.u32.wrap ((X.toNat : Int).tdiv 2) = ((X >>> 1).toNat : Int) := by
  rw [← fdiv_pow X 1, Int.tdiv_eq_ediv_of_nonneg (by omega), Int.fdiv_eq_ediv_of_nonneg _ (by decide)]
  have := X.isLt
  show (_ : Int) % 2 ^ 32 = _
  omega
theorem odd2 (X : BitVec 32) : ((X.toNat : Int).tmod 2 == 1) = (X &&& 1#32 == 1#32) := by
  have h : (X &&& 1#32).toNat = X.toNat % 2 := by
    rw [BitVec.toNat_and]
    exact Nat.and_one_is_mod _
  have e : (((X &&& 1#32).toNat : Int) == 1) = (X &&& 1#32 == 1#32) := beq_lit (X &&& 1#32) 1 (by decide) (by decide)
  rw [← e, h, Int.tmod_eq_emod_of_nonneg (by omega)]
  rfl
set_option maxRecDepth 100000 in
theorem rSum_spec (m : Bool) (k o n c sp : Nat) (f : Nat → Int) (p : Nat → B8) (hn : o + n ≤ k) (hk : n < 2 ^ 62) (hp : ∀ j, j < n → f (o + j) = (p j).toNat) :
    Does TB 49 [.s (.gs 0 o n c)] [.cells m [.ints .u8 k f] sp] (fun v h' => v = .s (.int .u32 (~~~ crcN p n).toNat) ∧ h' = [.cells m [.ints .u8 k f] sp]) := by
  refine fnX_does TB Try.func49 rfl (by decide) (fun O on hO => ?_)
  refine loop_by (A := Nat) on (fun i => [(3, .s (.int .u32 (crcN p i).toNat)), (4, .s (.int .i64 (i : Int))), (5, .junk), (6, .junk)]) (fun _ => [.cells m [.ints .u8 k f] sp]) (fun i => i ≤ n) (fun i => n - i) 0 (by omega) ?_ ?_
  · refine ⟨?_, ?_⟩
    · repeat' (first | exact eqvT_nil | refine eqvT_junk ?_ | refine eqvT_same ?_ | refine eqvT_int ?_ ?_)
    · exact eqvH_same eqvH_nil
  · intro i hi
    refine ifB_intro (fun h1 => ?_) (fun h1 => ?_)
    · have h1 := of_decide_eq_true h1
      refine need_intro (by omega) ?_
      refine need_intro (by omega) ?_
      have hf : f (o + (i : Int).toNat) = (p i).toNat := hp i (by omega)
      refine loop_by (A := Nat) on (fun j => [(3, .s (.int .u32 (crcBits (crcN p i ^^^ (p i).setWidth 32) j).toNat)), (5, .s (.int .i64 (j : Int))), (6, .junk)]) (fun _ => [.cells m [.ints .u8 k f] sp]) (fun j => j ≤ 8) (fun j => 8 - j) 0 (by omega) ?_ ?_
      · refine ⟨?_, ?_⟩
        · repeat' (first | exact eqvT_nil | refine eqvT_junk ?_ | refine eqvT_same ?_ | refine eqvT_int ?_ ?_)
          · rw [hf, u32_of8, xor_u32, ofInt_toNat, ofInt_toNat]
            rfl
        · exact eqvH_same eqvH_nil
      · intro j hj
        have hb : crcBits (crcN p i ^^^ (p i).setWidth 32) (j + 1) = crcBit (crcBits (crcN p i ^^^ (p i).setWidth 32) j) := rfl
        generalize hX : crcBits (crcN p i ^^^ (p i).setWidth 32) j = X at hb
        refine ifB_intro (fun h2 => ?_) (fun h2 => ?_)
        · have h2 := of_decide_eq_true h2
          refine need_intro (by decide) ?_
          have hlow : ((X.toNat : Int).tmod 2 == 1) = (X &&& 1#32 == 1#32) := odd2 X
          have hsh : IntKind.u32.wrap (((X.toNat : Int)).tdiv 2) = ((X >>> 1).toNat : Int) := half2 X
          refine need_intro (by decide) ?_
          refine ifB_intro (fun h3 => ?_) (fun h3 => ?_)
          · have h3 : (X &&& 1#32 == 1#32) = true := hlow.symm.trans h3
            refine ⟨j + 1, ?_, ?_, ?_, ?_⟩
            · show j + 1 ≤ 8; omega
            · show 8 - (j + 1) < 8 - j; omega
            · repeat' (first | exact eqvT_nil | refine eqvT_junk ?_ | refine eqvT_same ?_ | refine eqvT_int ?_ ?_)
              · rw [hb]
                unfold crcBit
                rw [if_pos h3]
                show bitX .xor .u32 (IntKind.u32.wrap (((X.toNat : Int)).tdiv 2)) 3988292384 = _
                rw [hsh, xor_u32, ofInt_toNat]
                rfl
              · rw [i64_in (by omega) (by omega)]; rfl
            · exact eqvH_same eqvH_nil
          · have h3 : (X &&& 1#32 == 1#32) = false := hlow.symm.trans h3
            refine ⟨j + 1, ?_, ?_, ?_, ?_⟩
            · show j + 1 ≤ 8; omega
            · show 8 - (j + 1) < 8 - j; omega
            · repeat' (first | exact eqvT_nil | refine eqvT_junk ?_ | refine eqvT_same ?_ | refine eqvT_int ?_ ?_)
              · rw [hb]
                unfold crcBit
                rw [h3]
                exact hsh
              · rw [i64_in (by omega) (by omega)]; rfl
            · exact eqvH_same eqvH_nil
        · have h2 := of_decide_eq_false h2
          have hj8 : j = 8 := by omega
          subst hj8
          refine ⟨i + 1, ?_, ?_, ?_, ?_⟩
          · show i + 1 ≤ n; omega
          · show n - (i + 1) < n - i; omega
          · repeat' (first | exact eqvT_nil | refine eqvT_junk ?_ | refine eqvT_same ?_ | refine eqvT_int ?_ ?_)
            · exact congrArg (fun z : BitVec 32 => (z.toNat : Int)) hX.symm
            · rw [i64_in (by omega) (by omega)]; rfl
          · exact eqvH_same eqvH_nil
    · have h1 := of_decide_eq_false h1
      have : i = n := by omega
      subst this
      refine ⟨_, _, [0], ⟨rfl, rfl⟩, by decide, ⟨rfl, trivial⟩, ⟨rfl, ?_⟩, ⟨⟨_, rfl, eqvB_refl _⟩, trivial⟩⟩
      show bitX .xor .u32 ((crcN p i).toNat : Int) 4294967295 = _
      rw [xor_u32, ofInt_toNat, show BitVec.ofInt 32 4294967295 = BitVec.allOnes 32 by decide, BitVec.xor_allOnes]
end Go.Proofs.Ytghcdkpgcanpgaa
