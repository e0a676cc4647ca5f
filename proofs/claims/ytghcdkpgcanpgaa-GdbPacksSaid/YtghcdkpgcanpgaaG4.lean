import Derived.Test.YtghcdkpgcanpgaaG3
namespace Go.Anv
open Go
def esc (c : B8) : List B8 := if special c then [125#8, c ^^^ 32#8] else [c]
/-- The first bytes, escaped. -/
def bodyN (p : Nat → B8) : Nat → List B8
  | 0 => []
  | n + 1 => bodyN p n ++ esc (p n)
def sumL (l : List B8) : B8 := sumN (fun j => l.getD j 0#8) l.length
def hexd (x : Nat) : B8 := BitVec.ofNat 8 ((digs.data.toList.map UInt8.toNat).getD x 0)
def packetN (p : Nat → B8) (n : Nat) : List B8 := 36#8 :: bodyN p n ++ [35#8, hexd (sumL (bodyN p n) >>> 4).toNat, hexd (sumL (bodyN p n) &&& 15#8).toNat]
theorem bodyN_len (p : Nat → B8) : ∀ n, (bodyN p n).length ≤ 2 * n
  | 0 => by simp [bodyN]
  | n + 1 => by
    have := bodyN_len p n
    simp only [bodyN, List.length_append]
    have : (esc (p n)).length ≤ 2 := by unfold esc; split <;> simp
    omega
theorem bf_append (l r : List B8) {n m : Nat} (hn : n = l.length) (hm : m = r.length) {f g : Nat → Int} (hf : ∀ j, j < n → f j = bf l j) (hg : ∀ j, j < m → g j = bf r j) : ∀ j, j < n + m → catF n f g j = bf (l ++ r) j := by
  subst hn; subst hm
  intro j hj
  unfold catF
  split
  · rename_i h
    rw [hf j h]
    simp [bf, List.getD_eq_getElem?_getD, List.getElem?_append_left h]
  · rename_i h
    rw [hg (j - l.length) (by omega)]
    simp [bf, List.getD_eq_getElem?_getD, List.getElem?_append_right (Nat.le_of_not_lt h)]
theorem hexd_eq {x : Nat} (h : x < 16) : (((digs.data.toList.map UInt8.toNat).getD (x : Int).toNat 0 : Nat) : Int) = ((hexd x).toNat : Int) := by
  have : ∀ x : Fin 16, (digs.data.toList.map UInt8.toNat).getD x.val 0 = (hexd x.val).toNat := by decide
  rw [Int.toNat_natCast]
  exact congrArg _ (this ⟨x, h⟩)
theorem bf_one {b : B8} {v : Int} (h : v = b.toNat) : ∀ j, j < 1 → shf 0 (litF [v]) j = bf [b] j := by
  intro j hj
  match j, hj with
  | 0, _ => exact h
end Go.Anv
namespace Go.Proofs.Ytghcdkpgcanpgaa
open Go Go.Anv
theorem room5 (k : Nat) (h : k ≤ 140737488355328) : room ti5 k := ⟨⟨rfl, by decide⟩, h, by show k * 1 ≤ _; omega⟩
set_option maxRecDepth 100000 in
theorem pack_spec (m : Bool) (n c sp : Nat) (f : Nat → Int) (p : Nat → B8) (hn : n ≤ 1000) (hp : ∀ j, j < n → f j = (p j).toNat) :
    Does TB 10 [.s (.gs 0 0 n c)] [.cells m [.ints .u8 n f] sp] (fun v h' => ∃ cap, (packetN p n).length ≤ cap ∧ v = .tuple [.s (.gs 1 0 (packetN p n).length cap), .s (.int .i64 0)] ∧
      h' = [.cells m [.ints .u8 n f] sp, .cells true [.ints .u8 (packetN p n).length (bf (packetN p n))] (cap - (packetN p n).length)]) := by
  refine fnX_does TB Try.func10 rfl (by decide) (fun O on hO => ?_)
  refine ifB_intro (fun h1 => ?_) (fun h1 => ?_)
  · exfalso
    clear hO on
    have h2 : (1000 : Int) < n := by simpa using h1
    omega
  · clear h1
    refine loop_in (A := Nat × Nat) on (fun i => [(11, .junk), (4, .s (.gs 1 0 (1 + (bodyN p i.1).length) i.2)), (14, .s (.int .i64 (i.1 : Int)))])
      (fun i => [.cells m [.ints .u8 n f] sp, .cells true [.ints .u8 (1 + (bodyN p i.1).length) (bf (36#8 :: bodyN p i.1))] (i.2 - (1 + (bodyN p i.1).length))])
      (fun i => i.1 ≤ n ∧ 1 + (bodyN p i.1).length ≤ i.2) (fun i => n - i.1) (0, 1) ⟨Nat.zero_le _, Nat.le_refl _⟩ [0, 1] ?_ ?_
    · rw [hO]
      refine ⟨by decide, ⟨rfl, trivial⟩, ?_, ?_⟩
      · repeat' (first | exact eqvT_nil | refine eqvT_junk ?_ | refine eqvT_same ?_ | refine eqvT_int ?_ ?_ | refine eqvT_sgs ⟨rfl, rfl, rfl, rfl⟩ ?_)
      · refine ⟨⟨_, rfl, eqvB_refl _⟩, ⟨_, rfl, ⟨rfl, rfl, eqvS_ints ?_ eqvS_nil⟩⟩, trivial⟩
        intro j hj
        match j, hj with
        | 0, _ => rfl
    · intro x hx
      refine ifB_intro (fun h1 => ?_) (fun h1 => ?_)
      · have h1 := of_decide_eq_true h1
        have hf : f (0 + (x.1 : Int).toNat) = (p x.1).toNat := by rw [Nat.zero_add]; exact hp x.1 (by omega)
        refine need_intro (by omega) ?_
        refine need_intro (by omega) ?_
        refine need_intro (by decide) ?_
        refine args_eq (b := [.s (.slice 2 0 4 4), .s (.int .u8 (p x.1).toNat)]) (by rw [hf]) ?_
        refine Does.at (index_spec true (p x.1)) [2] rfl ⟨rfl, trivial⟩ (by decide) ?_ ?_
        · rintro v h' ⟨_, rfl⟩
          exact ⟨.inl rfl, trivial⟩
        · rintro v h' ⟨⟨r, rfl, hr⟩, rfl⟩
          have hL := bodyN_len p x.1
          refine ifB_intro (fun h2 => ?_) (fun h2 => ?_)
          · refine need_intro ⟨Nat.le_refl _, by show 1 + (bodyN p x.1).length + 0 = (1 + (bodyN p x.1).length) * 1; omega, by show x.2 * 1 = (1 + (bodyN p x.1).length) * 1 + _; omega, room5 _ (by show 1 + (bodyN p x.1).length + 1 ≤ _; omega)⟩ ?_
            intro c1 hc1
            have hc1 : 1 + (bodyN p x.1).length + 1 ≤ c1 := hc1
            refine need_intro ⟨Nat.le_refl _, by show 1 + (bodyN p x.1).length + 1 + 0 = (1 + (bodyN p x.1).length + 1) * 1; omega, by show c1 * 1 = (1 + (bodyN p x.1).length + 1) * 1 + (c1 - (1 + (bodyN p x.1).length + 1)) * 1; omega, room5 _ (by show 1 + (bodyN p x.1).length + 1 + 1 ≤ _; omega)⟩ ?_
            intro c2 hc2
            have hesc : bodyN p (x.1 + 1) = bodyN p x.1 ++ [125#8, p x.1 ^^^ 32#8] := by
              have : special (p x.1) = true := by rw [← hr]; exact h2
              simp only [bodyN, esc, this, if_true]
            have hlen : 1 + (bodyN p (x.1 + 1)).length = 1 + (bodyN p x.1).length + 1 + 1 := by rw [hesc]; simp; omega
            refine ⟨(x.1 + 1, c2), ⟨?_, ?_⟩, ?_, [0, 6], ?_⟩
            · show x.1 + 1 ≤ n; omega
            · show 1 + (bodyN p (x.1 + 1)).length ≤ c2
              rw [hlen]; exact hc2
            · show n - (x.1 + 1) < n - x.1; omega
            · rw [hO]
              refine ⟨by decide, ⟨rfl, trivial⟩, ?_, ?_⟩
              · repeat' (first | exact eqvT_nil | refine eqvT_junk ?_ | refine eqvT_same ?_ | refine eqvT_int ?_ ?_ | refine eqvT_gs ⟨rfl, rfl, ?_, rfl⟩ ?_)
                · exact hlen.symm
                · rw [i64_in (by omega) (by omega)]; rfl
              · refine ⟨⟨_, rfl, eqvB_refl _⟩, ⟨_, rfl, ⟨rfl, ?_, ⟨⟨rfl, ?_, ?_⟩, eqvS_nil⟩⟩⟩, trivial⟩
                · show (c2 - (1 + (bodyN p x.1).length + 1 + 1)) * 1 = c2 - (1 + (bodyN p (x.1 + 1)).length)
                  rw [hlen, Nat.mul_one]
                · exact hlen.symm
                · rw [hesc]
                  have e : (36#8 :: (bodyN p x.1 ++ [125#8, p x.1 ^^^ 32#8])) = (36#8 :: bodyN p x.1) ++ [125#8] ++ [p x.1 ^^^ 32#8] := by simp
                  rw [e]
                  refine bf_append ((36#8 :: bodyN p x.1) ++ [125#8]) [p x.1 ^^^ 32#8] (n := 1 + (bodyN p x.1).length + 1) (m := 1) (by simp; omega) rfl (bf_append (36#8 :: bodyN p x.1) [125#8] (n := 1 + (bodyN p x.1).length) (m := 1) (by simp; omega) rfl (fun _ _ => rfl) (bf_one rfl)) (bf_one ?_)
                  rw [hf, xor_u8, ofInt_toNat]
                  rfl
          · refine need_intro ⟨Nat.le_refl _, by show 1 + (bodyN p x.1).length + 0 = (1 + (bodyN p x.1).length) * 1; omega, by show x.2 * 1 = (1 + (bodyN p x.1).length) * 1 + _; omega, room5 _ (by show 1 + (bodyN p x.1).length + 1 ≤ _; omega)⟩ ?_
            intro c1 hc1
            have hc1 : 1 + (bodyN p x.1).length + 1 ≤ c1 := hc1
            have hesc : bodyN p (x.1 + 1) = bodyN p x.1 ++ [p x.1] := by
              have : special (p x.1) = false := by rw [← hr]; exact h2
              simp [bodyN, esc, this]
            have hlen : 1 + (bodyN p (x.1 + 1)).length = 1 + (bodyN p x.1).length + 1 := by rw [hesc]; simp; omega
            refine ⟨(x.1 + 1, c1), ⟨?_, ?_⟩, ?_, [0, 4], ?_⟩
            · show x.1 + 1 ≤ n; omega
            · show 1 + (bodyN p (x.1 + 1)).length ≤ c1
              rw [hlen]; exact hc1
            · show n - (x.1 + 1) < n - x.1; omega
            · rw [hO]
              refine ⟨by decide, ⟨rfl, trivial⟩, ?_, ?_⟩
              · repeat' (first | exact eqvT_nil | refine eqvT_junk ?_ | refine eqvT_same ?_ | refine eqvT_int ?_ ?_ | refine eqvT_gs ⟨rfl, rfl, ?_, rfl⟩ ?_)
                · exact hlen.symm
                · rw [i64_in (by omega) (by omega)]; rfl
              · refine ⟨⟨_, rfl, eqvB_refl _⟩, ⟨_, rfl, ⟨rfl, ?_, ⟨⟨rfl, ?_, ?_⟩, eqvS_nil⟩⟩⟩, trivial⟩
                · show (c1 - (1 + (bodyN p x.1).length + 1)) * 1 = c1 - (1 + (bodyN p (x.1 + 1)).length)
                  rw [hlen, Nat.mul_one]
                · exact hlen.symm
                · rw [hesc]
                  exact bf_append (36#8 :: bodyN p x.1) [p x.1] (n := 1 + (bodyN p x.1).length) (m := 1) (by simp; omega) rfl (fun _ _ => rfl) (bf_one hf)
      · have h1 := of_decide_eq_false h1
        have hxn : x.1 = n := by omega
        obtain ⟨i, cap⟩ := x
        obtain rfl : i = n := hxn
        have hL := bodyN_len p i
        have hc0 : 1 + (bodyN p i).length ≤ cap := hx.2
        generalize hB : bodyN p i = B at hL hc0 ⊢
        refine need_intro ⟨by decide, by show (1 : Int) ≤ ((1 + (B).length : Nat) : Int); omega, by show ((1 + (B).length : Nat) : Int) ≤ (cap : Int); omega⟩ ?_
        have hn' : (((1 + B.length : Nat) : Int)).toNat - (1 : Int).toNat = B.length := by
          rw [Int.toNat_natCast]
          show 1 + B.length - 1 = B.length
          omega
        refine args_eq (b := [.s (.gs 1 (skip cap 1 0 1) B.length (cap - 1))]) (by
          show [EV.s (.gs 1 (skip cap 1 0 1) ((((1 + (B).length : Nat) : Int)).toNat - (1 : Int).toNat) (cap - 1))] = _
          rw [hn']) ?_
        refine Does.at (sum_spec true (1 + (B).length) (skip cap 1 0 1) B.length (cap - 1) (cap - (1 + (B).length)) (bf (36#8 :: B)) (fun j => B.getD j 0#8) ?_ ?_ ?_) [1] rfl ⟨rfl, trivial⟩ (by decide) ?_ ?_
        · unfold skip
          split <;> omega
        · omega
        · intro j hj
          unfold skip
          have : ¬ cap = 1 := by omega
          rw [if_neg this, Nat.zero_add, Nat.one_mul, Nat.add_comm]
          rfl
        · rintro v h' ⟨_, rfl⟩
          exact ⟨.inl rfl, trivial⟩
        · rintro v h' ⟨rfl, rfl⟩
          refine draw_free on rfl (fun _ _ h => h) ?_
          generalize hS : sumN (fun j => B.getD j 0#8) B.length = S
          have hs1 : ((S.toNat : Int)).fdiv (2 ^ (min (Int.toNat 4) IntKind.u8.bits)) = ((S >>> 4).toNat : Int) := fdiv_pow S 4
          have hs2 : bitX .and .u8 (S.toNat : Int) 15 = ((S &&& 15#8).toNat : Int) := by rw [and_u8, ofInt_toNat]; rfl
          have b1 : (S >>> 4).toNat < 16 := by
            rw [BitVec.toNat_ushiftRight, Nat.shiftRight_eq_div_pow]
            have := S.isLt
            omega
          have b2 : (S &&& 15#8).toNat < 16 := by
            rw [BitVec.toNat_and]
            exact Nat.lt_of_le_of_lt Nat.and_le_right (by decide)
          refine need_intro (by decide) ?_
          refine need_intro ⟨by rw [hs1]; omega, by rw [hs1]; show ((S >>> 4).toNat : Int) < 16; omega⟩ ?_
          refine need_intro ⟨by rw [hs2]; omega, by rw [hs2]; show ((S &&& 15#8).toNat : Int) < 16; omega⟩ ?_
          have hpk : packetN p i = (36#8 :: B) ++ [35#8, hexd (S >>> 4).toNat, hexd (S &&& 15#8).toNat] := by
            simp only [packetN, sumL, hB, hS, List.cons_append]
          have hpl : (packetN p i).length = 1 + B.length + 3 := by rw [hpk]; simp; omega
          refine need_intro ⟨Nat.le_refl _, by show 1 + B.length + 0 = (1 + B.length) * 1; omega, by show cap * 1 = (1 + B.length) * 1 + (cap - (1 + B.length)); omega, room5 _ (by show 1 + B.length + 3 ≤ _; omega)⟩ ?_
          intro c2 hc2
          have hc2 : 1 + B.length + 3 ≤ c2 := hc2
          refine ⟨.tuple [.s (.gs 1 0 (packetN p i).length c2), .s (.int .i64 0)], _, [0, 3], ⟨c2, by rw [hpl]; exact hc2, rfl, rfl⟩, by decide, ⟨rfl, trivial⟩, ?_, ?_⟩
          · refine eqvT_gs ⟨rfl, rfl, hpl.symm, rfl⟩ (eqvT_same eqvT_nil)
          · refine ⟨⟨_, rfl, eqvB_refl _⟩, ⟨_, rfl, ⟨rfl, ?_, ⟨⟨rfl, hpl.symm, ?_⟩, eqvS_nil⟩⟩⟩, trivial⟩
            · show (c2 - (1 + B.length + 3)) * 1 = c2 - (packetN p i).length
              rw [hpl, Nat.mul_one]
            · rw [hpk]
              refine bf_append (36#8 :: B) [35#8, hexd (S >>> 4).toNat, hexd (S &&& 15#8).toNat] (n := 1 + B.length) (m := 3) (by simp; omega) rfl (fun _ _ => rfl) ?_
              rw [hs1, hs2]
              intro j hj
              match j, hj with
              | 0, _ => rfl
              | 1, _ => exact hexd_eq b1
              | 2, _ => exact hexd_eq b2
end Go.Proofs.Ytghcdkpgcanpgaa
