import Derived.Test.YtghcdkpgcanpgaaG4
namespace Go.Anv
open Go
theorem digs_two {x y : Nat} (hx : x < 16) (hy : y < 16) : (digs.extract x (x + 1) ++ digs.extract y (y + 1)).size = 2 ∧ strF (digs.extract x (x + 1) ++ digs.extract y (y + 1)) 0 = ((hexd x).toNat : Int) ∧ strF (digs.extract x (x + 1) ++ digs.extract y (y + 1)) 1 = ((hexd y).toNat : Int) := by
  have : ∀ x y : Fin 16, (digs.extract x.val (x.val + 1) ++ digs.extract y.val (y.val + 1)).size = 2 ∧ strF (digs.extract x.val (x.val + 1) ++ digs.extract y.val (y.val + 1)) 0 = ((hexd x.val).toNat : Int) ∧
      strF (digs.extract x.val (x.val + 1) ++ digs.extract y.val (y.val + 1)) 1 = ((hexd y.val).toNat : Int) := by decide +kernel
  exact this ⟨x, hx⟩ ⟨y, hy⟩
end Go.Anv
namespace Go.Proofs.Ytghcdkpgcanpgaa
open Go Go.Anv
set_option maxRecDepth 100000 in
theorem packet_spec (m : Bool) (n c sp : Nat) (f : Nat → Int) (p : Nat → B8) (hn : n ≤ 1000) (hp : ∀ j, j < n → f j = (p j).toNat) :
    Does TB 35 [.s (.gs 0 0 n c)] [.cells m [.ints .u8 n f] sp] (fun v h' => ∃ cap, (packetN p n).length ≤ cap ∧ v = .s (.gs 1 0 (packetN p n).length cap) ∧
      h' = [.cells m [.ints .u8 n f] sp, .cells true [.ints .u8 (packetN p n).length (bf (packetN p n))] (cap - (packetN p n).length)]) := by
  refine fnX_does TB Try.func35 rfl (by decide) (fun O on hO => ?_)
  refine loop_nil on 3 .u8 (bf []) rfl ?_
  refine loop_in (A := Nat × Nat) on (fun i => [(3, .s (.gs 1 0 (bodyN p i.1).length i.2)), (4, .s (.int .i64 (i.1 : Int)))])
      (fun i => [.cells m [.ints .u8 n f] sp, .cells true [.ints .u8 (bodyN p i.1).length (bf (bodyN p i.1))] (i.2 - (bodyN p i.1).length)])
      (fun i => i.1 ≤ n ∧ (bodyN p i.1).length ≤ i.2) (fun i => n - i.1) (0, 0) ⟨Nat.zero_le _, Nat.le_refl _⟩ [0, 1] ?_ ?_
  · rw [hO]
    refine ⟨by decide, ⟨rfl, trivial⟩, ?_, ?_⟩
    · repeat' (first | exact eqvT_nil | refine eqvT_junk ?_ | refine eqvT_same ?_ | refine eqvT_int ?_ ?_ | refine eqvT_gs ⟨rfl, rfl, rfl, rfl⟩ ?_)
    · exact ⟨⟨_, rfl, eqvB_refl _⟩, ⟨_, rfl, ⟨rfl, rfl, eqvS_ints (fun j hj => by omega) eqvS_nil⟩⟩, trivial⟩
  · intro x hx
    have hL := bodyN_len p x.1
    refine ifB_intro (fun h1 => ?_) (fun h1 => ?_)
    · have h1 := of_decide_eq_true h1
      have hf : f (0 + (x.1 : Int).toNat) = (p x.1).toNat := by rw [Nat.zero_add]; exact hp x.1 (by omega)
      refine need_intro (by omega) ?_
      refine need_intro (by omega) ?_
      refine args_eq (b := [.s (.int .u8 (p x.1).toNat)]) (by rw [hf]) ?_
      refine (special_spec (p x.1) _).mono ?_
      rintro v h' ⟨rfl, rfl⟩
      refine ifB_intro (fun h2 => ?_) (fun h2 => ?_)
      · refine need_intro ⟨Nat.le_refl _, by show (bodyN p x.1).length + 0 = (bodyN p x.1).length * 1; omega, by show x.2 * 1 = (bodyN p x.1).length * 1 + _; omega, room5 _ (by show (bodyN p x.1).length + 1 ≤ _; omega)⟩ ?_
        intro c1 hc1
        have hc1 : (bodyN p x.1).length + 1 ≤ c1 := hc1
        refine need_intro (by omega) ?_
        refine need_intro (by omega) ?_
        refine need_intro ⟨Nat.le_refl _, by show (bodyN p x.1).length + 1 + 0 = ((bodyN p x.1).length + 1) * 1; omega, by show c1 * 1 = ((bodyN p x.1).length + 1) * 1 + (c1 - ((bodyN p x.1).length + 1)) * 1; omega, room5 _ (by show (bodyN p x.1).length + 1 + 1 ≤ _; omega)⟩ ?_
        intro c2 hc2
        have hesc : bodyN p (x.1 + 1) = bodyN p x.1 ++ [125#8, p x.1 ^^^ 32#8] := by
          simp only [bodyN, esc, h2, if_true]
        have hlen : (bodyN p (x.1 + 1)).length = (bodyN p x.1).length + 1 + 1 := by rw [hesc]; simp
        refine ⟨(x.1 + 1, c2), ⟨?_, ?_⟩, ?_, [0, 5], ?_⟩
        · show x.1 + 1 ≤ n; omega
        · show (bodyN p (x.1 + 1)).length ≤ c2
          rw [hlen]; exact hc2
        · show n - (x.1 + 1) < n - x.1; omega
        · rw [hO]
          refine ⟨by decide, ⟨rfl, trivial⟩, ?_, ?_⟩
          · repeat' (first | exact eqvT_nil | refine eqvT_junk ?_ | refine eqvT_same ?_ | refine eqvT_int ?_ ?_ | refine eqvT_gs ⟨rfl, rfl, ?_, rfl⟩ ?_)
            · exact hlen.symm
            · rw [i64_in (by omega) (by omega)]; rfl
          · refine ⟨⟨_, rfl, eqvB_refl _⟩, ⟨_, rfl, ⟨rfl, ?_, ⟨⟨rfl, ?_, ?_⟩, eqvS_nil⟩⟩⟩, trivial⟩
            · show (c2 - ((bodyN p x.1).length + 1 + 1)) * 1 = c2 - (bodyN p (x.1 + 1)).length
              rw [hlen, Nat.mul_one]
            · exact hlen.symm
            · rw [hesc]
              have e : bodyN p x.1 ++ [125#8, p x.1 ^^^ 32#8] = bodyN p x.1 ++ [125#8] ++ [p x.1 ^^^ 32#8] := by simp
              rw [e]
              refine bf_append (bodyN p x.1 ++ [125#8]) [p x.1 ^^^ 32#8] (n := (bodyN p x.1).length + 1) (m := 1) (by simp) rfl (bf_append (bodyN p x.1) [125#8] (n := (bodyN p x.1).length) (m := 1) rfl rfl (fun _ _ => rfl) (bf_one rfl)) (bf_one ?_)
              rw [hf, xor_u8, ofInt_toNat]
              rfl
      · refine need_intro (by omega) ?_
        refine need_intro (by omega) ?_
        refine need_intro ⟨Nat.le_refl _, by show (bodyN p x.1).length + 0 = (bodyN p x.1).length * 1; omega, by show x.2 * 1 = (bodyN p x.1).length * 1 + _; omega, room5 _ (by show (bodyN p x.1).length + 1 ≤ _; omega)⟩ ?_
        intro c1 hc1
        have hc1 : (bodyN p x.1).length + 1 ≤ c1 := hc1
        have hesc : bodyN p (x.1 + 1) = bodyN p x.1 ++ [p x.1] := by
          simp [bodyN, esc, h2]
        have hlen : (bodyN p (x.1 + 1)).length = (bodyN p x.1).length + 1 := by rw [hesc]; simp
        refine ⟨(x.1 + 1, c1), ⟨?_, ?_⟩, ?_, [0, 3], ?_⟩
        · show x.1 + 1 ≤ n; omega
        · show (bodyN p (x.1 + 1)).length ≤ c1
          rw [hlen]; exact hc1
        · show n - (x.1 + 1) < n - x.1; omega
        · rw [hO]
          refine ⟨by decide, ⟨rfl, trivial⟩, ?_, ?_⟩
          · repeat' (first | exact eqvT_nil | refine eqvT_junk ?_ | refine eqvT_same ?_ | refine eqvT_int ?_ ?_ | refine eqvT_gs ⟨rfl, rfl, ?_, rfl⟩ ?_)
            · exact hlen.symm
            · rw [i64_in (by omega) (by omega)]; rfl
          · refine ⟨⟨_, rfl, eqvB_refl _⟩, ⟨_, rfl, ⟨rfl, ?_, ⟨⟨rfl, ?_, ?_⟩, eqvS_nil⟩⟩⟩, trivial⟩
            · show (c1 - ((bodyN p x.1).length + 1)) * 1 = c1 - (bodyN p (x.1 + 1)).length
              rw [hlen, Nat.mul_one]
            · exact hlen.symm
            · rw [hesc]
              exact bf_append (bodyN p x.1) [p x.1] (n := (bodyN p x.1).length) (m := 1) rfl rfl (fun _ _ => rfl) (bf_one hf)
    · have h1 := of_decide_eq_false h1
      have hxn : x.1 = n := by omega
      obtain ⟨i, cap⟩ := x
      obtain rfl : i = n := hxn
      have hc0 : (bodyN p i).length ≤ cap := hx.2
      generalize hB : bodyN p i = B at hL hc0 ⊢
      have hL : B.length ≤ 2 * i := hL
      refine need_intro ⟨by show 0 + B.length ≤ B.length; omega, rfl, rfl, room5 _ (by show 1 + B.length ≤ _; omega)⟩ ?_
      intro c1 hc1
      have hc1 : 1 + B.length ≤ c1 := hc1
      refine need_intro ⟨Nat.le_refl _, by show 1 + B.length + 0 = (1 + B.length) * 1; omega, by show c1 * 1 = (1 + B.length) * 1 + (c1 - (1 + B.length)) * 1; omega, room5 _ (by show 1 + B.length + 1 ≤ _; omega)⟩ ?_
      intro c2 hc2
      have hc2 : 1 + B.length + 1 ≤ c2 := hc2
      refine Does.at (rsum_spec true B.length 0 B.length cap (cap - B.length) (bf B) (fun j => B.getD j 0#8) (by omega) (by omega) (fun j hj => by rw [Nat.zero_add]; rfl)) [1] rfl ⟨rfl, trivial⟩ (by decide) ?_ ?_
      · rintro v h' ⟨_, rfl⟩
        exact ⟨.inl rfl, trivial⟩
      · rintro v h' ⟨rfl, rfl⟩
        generalize hS : sumN (fun j => B.getD j 0#8) B.length = S
        have hSl := S.isLt
        refine args_eq (b := [.s (.int .u64 S.toNat), .s (.int .i64 2)]) (by
          show [EV.s (.int .u64 (IntKind.u64.wrap (S.toNat : Int))), EV.s (.int .i64 2)] = _
          rw [u64_in (by omega) (by omega)]) ?_
        refine (digits_spec S _).mono ?_
        rintro v h' ⟨rfl, rfl⟩
        have b1 : (S >>> 4).toNat < 16 := by
          rw [BitVec.toNat_ushiftRight, Nat.shiftRight_eq_div_pow]
          omega
        have b2 : (S &&& 15#8).toNat < 16 := by
          rw [BitVec.toNat_and]
          exact Nat.lt_of_le_of_lt Nat.and_le_right (by decide)
        obtain ⟨d1, d2, d3⟩ := digs_two b1 b2
        have hpk : packetN p i = (36#8 :: B) ++ [35#8] ++ [hexd (S >>> 4).toNat, hexd (S &&& 15#8).toNat] := by
          simp only [packetN, sumL, hB, hS, List.cons_append, List.append_assoc, List.nil_append]
        generalize digs.extract (S >>> 4).toNat ((S >>> 4).toNat + 1) ++ digs.extract (S &&& 15#8).toNat ((S &&& 15#8).toNat + 1) = D at d1 d2 d3 ⊢
        have hpl : (packetN p i).length = 1 + B.length + 1 + D.size := by rw [hpk, d1]; simp; omega
        refine need_intro ⟨trivial, by show 1 + B.length + 1 + 0 = (1 + B.length + 1) * 1; omega, by show c2 * 1 = (1 + B.length + 1) * 1 + (c2 - (1 + B.length + 1)) * 1; omega, room5 _ (by show 1 + B.length + 1 + D.size ≤ _; omega)⟩ ?_
        intro c3 hc3
        have hc3 : 1 + B.length + 1 + D.size ≤ c3 := hc3
        refine ⟨.s (.gs 1 0 (packetN p i).length c3), _, [0, 6], ⟨c3, by rw [hpl]; exact hc3, rfl, rfl⟩, by decide, ⟨rfl, trivial⟩, ?_, ?_⟩
        · exact ⟨rfl, rfl, hpl.symm, rfl⟩
        · refine ⟨⟨_, rfl, eqvB_refl _⟩, ⟨_, rfl, ⟨rfl, ?_, ⟨⟨rfl, hpl.symm, ?_⟩, eqvS_nil⟩⟩⟩, trivial⟩
          · show (c3 - (1 + B.length + 1 + D.size)) * 1 = c3 - (packetN p i).length
            rw [hpl, Nat.mul_one]
          · rw [hpk]
            refine bf_append ((36#8 :: B) ++ [35#8]) [hexd (S >>> 4).toNat, hexd (S &&& 15#8).toNat] (n := 1 + B.length + 1) (m := D.size) (by simp; omega) d1
              (bf_append (36#8 :: B) [35#8] (n := 1 + B.length) (m := 1) (by simp; omega) rfl
                (bf_append [36#8] B (n := 1) (m := B.length) rfl rfl (fun j hj => by
                  match j, hj with
                  | 0, _ => rfl) (fun j _ => by unfold shf; rw [Nat.zero_add])) (bf_one rfl)) ?_
            rw [d1]
            intro j hj
            match j, hj with
            | 0, _ => exact d2
            | 1, _ => exact d3
end Go.Proofs.Ytghcdkpgcanpgaa
