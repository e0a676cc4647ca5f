/- Part 11 of the texts of this claim, merged: I4, I5, I12, EC2, EC3. No condition: plain theorems, contracts of functions. -/
import Derived.Test.YtdlpmbghocabbaaGreatDoorZ10

set_option linter.unusedSimpArgs false
set_option linter.unusedVariables false
/- A load instruction. Contract of a function. -/
namespace Go.Anv
open Go
def Xs.addr (x : Xs) : B64 := x.r1 + x.imm
def Xs.ldTrap (x : Xs) : TrapV := x.b.ldTrap x.c x.addr (widN x.i.op)
def Xs.ldVal (x : Xs) : B64 := if x.i.op ≤ 14 then extV ((x.b.load x.addr (widN x.i.op)).getD 0#64) (widN x.i.op) else (x.b.load x.addr (widN x.i.op)).getD 0#64
def Xs.ld (x : Xs) (k : Nat) : Xs := (({ x with b := x.b.loaded x.addr (widN x.i.op) k } : Xs).put x.ldVal).touch 1 x.addr (widN x.i.op) 0#64
end Go.Anv
namespace Go.Proofs.YtdlpmbghocabbaaGreatDoor
open Go Go.Anv
set_option maxRecDepth 100000 in
set_option maxHeartbeats 4000000 in
theorem i_load (x : Xs) (f : x.i.Fit) (hop : 11 ≤ x.i.op ∧ x.i.op ≤ 17) (hr : x.b.s.nr ≤ 65536) (hi : x.b.s.ni ≤ 140737488351232) (hf : x.b.fits) : DoesP TB 56 [.s (.ptr 0 0)] x.h
    (both (fun v h' => x.ldTrap.is = false ∧ ∃ k, (x.ld k).b.s.ni ≤ (x.ld k).b.ci ∧ v = .tuple [] ∧ h' = (x.ld k).h2) (fun v h' => x.ldTrap.is = true ∧ v = faultE x.ldTrap ∧ h' = x.h)) := by
  refine fnXP_does TB Tryz.func56 rfl (by decide) (fun O on hO => ?_)
  have hw := wid_assoc (op := x.i.op) (by omega)
  refine draw_calm ?_
  refine draw_held on rfl (fun _ _ h => h) ?_
  repeat' (first | refine need_intro (by first | exact fun h => h | exact nt | exact an2 | exact an3 | rfl | (simp; done) | fail) ?_ | refine And.intro ?_ ?_ | (refine (x1_spec x f.s0 f.s1).mono ?_; rintro _ _ ⟨rfl, rfl⟩) | (refine (imm_spec x).mono ?_; rintro _ _ ⟨rfl, rfl⟩) | (refine (widthsB _).mono ?_; rintro _ _ ⟨L, hL, rfl, rfl⟩))
  refine lookK_ints _ L ?_
  rw [hL _ (by omega) (by omega)]
  repeat (refine need_intro (by first | exact fun h => h | exact nt | exact an2 | exact an3 | rfl | (simp; done) | fail) ?_)
  cases htr : x.ldTrap.is with
  | true =>
    have hl : Does TB 86 [.agg x.c.segs, .s (.ptr 0 0), .s (.int .u64 x.addr.toNat), .s (.int .i64 (widN x.i.op))] x.b.h (fun v h' => v = ldE 0#64 x.ldTrap ∧ h' = x.b.h) := by
      refine (loadD x.b x.c x.addr (widN x.i.op) (by have := wid_8 x.i.op; omega) hr hi hf.2.1).mono ?_
      rintro v h' (⟨_, rfl, rfl⟩ | ⟨h, _⟩)
      · exact ⟨rfl, rfl⟩
      · exact absurd (htr.symm.trans h) (by decide)
    generalize x.ldTrap = t at hl htr ⊢
    obtain ⟨is, cs, tv⟩ := t
    cases htr
    refine draw_calm ?_
    refine draw_to on ?tt1 ?_ ?_
    rotate_left 1
    · refine draw_held on rfl (fun _ _ h => h) ?_
      repeat' (first | refine need_intro (by first | exact fun h => h | exact nt | exact an2 | exact an3 | rfl | (simp; done) | fail) ?_ | refine And.intro ?_ ?_ | (refine Does.args (b := [.agg x.c.segs, .s (.ptr 1 0), .s (.int .u64 (x.addr.toNat : Int)), .s (.int .i64 (widN x.i.op))]) ⟨eqvE_refl _, eqvE_refl _, ⟨rfl, add64 _ _⟩, eqvE_refl _, trivial⟩ ?_; refine Does.atc hl [1, 2, 3, 4] rfl ⟨rfl, rfl, rfl, rfl, trivial⟩ (by decide) ?_))
      all_goals (refine toK_id ?_; rw [hO]; exact Nat.le_of_ble_eq_true rfl)
    refine DoesP.atn (pass_yes cs tv) [] rfl trivial (by decide) ?_ ?_
    · rintro v h' hq
      unfold both at hq
      split at hq
      · exact hq.elim
      · obtain ⟨rfl, rfl⟩ := hq; trivial
      · exact hq.elim
    rintro v h' hq
    unfold both at hq
    split at hq
    · exact hq.elim
    · obtain ⟨rfl, rfl⟩ := hq
      exact Ends.thr ⟨_, x.h, [0, 1, 2, 3, 4], ⟨rfl, rfl, rfl⟩, by decide, ⟨rfl, rfl, rfl, rfl, rfl, trivial⟩, eqvE_refl _, ⟨⟨_, rfl, eqvB_refl _⟩, ⟨_, rfl, eqvB_refl _⟩, ⟨_, rfl, eqvB_refl _⟩, ⟨_, rfl, eqvB_refl _⟩, ⟨_, rfl, eqvB_refl _⟩, trivial⟩⟩
    · exact hq.elim
  | false =>
    have hl : Does TB 86 [.agg x.c.segs, .s (.ptr 0 0), .s (.int .u64 x.addr.toNat), .s (.int .i64 (widN x.i.op))] x.b.h (fun v h' => ∃ k, (x.b.loaded x.addr (widN x.i.op) k).s.ni ≤ (x.b.loaded x.addr (widN x.i.op) k).ci ∧ v = ldE ((x.b.load x.addr (widN x.i.op)).getD 0#64) noTrap ∧ h' = (x.b.loaded x.addr (widN x.i.op) k).h2) := by
      refine (loadD x.b x.c x.addr (widN x.i.op) (by have := wid_8 x.i.op; omega) hr hi hf.2.1).mono ?_
      rintro v h' (⟨h, _⟩ | ⟨_, h⟩)
      · exact absurd (htr.symm.trans h) (by decide)
      · exact h
    refine draw_calm ?_
    refine draw_but [1, 2, 3, 4] on rfl (fun _ _ h => h) ?_
    repeat' (first | refine need_intro (by first | exact fun h => h | exact nt | exact an2 | exact an3 | rfl | (simp; done) | fail) ?_ | refine And.intro ?_ ?_ | (refine Does.args (b := [.agg x.c.segs, .s (.ptr 1 0), .s (.int .u64 (x.addr.toNat : Int)), .s (.int .i64 (widN x.i.op))]) ⟨eqvE_refl _, eqvE_refl _, ⟨rfl, add64 _ _⟩, eqvE_refl _, trivial⟩ ?_; refine Does.atn hl [1, 2, 3, 4] rfl ⟨rfl, rfl, rfl, rfl, trivial⟩ (by decide) (by rintro v h' ⟨k, _, rfl, rfl⟩; exact ⟨.inl rfl, .inl rfl, .inr (.inl rfl), .inr (.inl rfl), .inl rfl, .inl rfl, trivial⟩) ?_; rintro v h' ⟨k, hk, rfl, rfl⟩))
    all_goals
      refine Does.p ?_
      refine Does.atc (pass_no 0#64 0#64) [] rfl trivial (by decide) ?_
      repeat (refine need_intro (by first | exact fun h => h | exact nt | exact an2 | exact an3 | rfl | (simp; done) | fail) ?_)
      have e8 : IntKind.i64.wrap (8 * (widN x.i.op : Int)) = ((8 * widN x.i.op : Nat) : Int) := by have := wid_8 x.i.op; rw [i64_in (by omega) (by omega)]; omega
      refine ifB_intro (fun g => ?_) (fun g => ?_)
      · have hv : x.ldVal = extV ((x.b.load x.addr (widN x.i.op)).getD 0#64) (widN x.i.op) := by unfold Xs.ldVal; rw [if_pos (of_decide_eq_true g)]
        repeat (refine need_intro (by first | exact fun h => h | exact nt | exact an2 | exact an3 | rfl | (simp; done) | fail) ?_)
        refine Does.p ?_
        refine Does.args (b := [.s (.int .u64 (((x.b.load x.addr (widN x.i.op)).getD 0#64).toNat : Int)), .s (.int .i64 ((8 * widN x.i.op : Nat) : Int))]) ⟨eqvE_refl _, ⟨rfl, e8⟩, trivial⟩ ?_
        refine (extA _ _ (wid_8 _) _).mono ?_
        rintro _ _ ⟨rfl, rfl⟩
        repeat (refine need_intro (by first | exact fun h => h | exact nt | exact an2 | exact an3 | rfl | (simp; done) | fail) ?_)
        have hx : x.ld k = (({ x with b := x.b.loaded x.addr (widN x.i.op) k } : Xs).put (extV ((x.b.load x.addr (widN x.i.op)).getD 0#64) (widN x.i.op))).touch 1 x.addr (widN x.i.op) 0#64 := by unfold Xs.ld; rw [hv]
        refine Does.p ?_
        have hp := put_spec ({ x with b := x.b.loaded x.addr (widN x.i.op) k } : Xs) (extV ((x.b.load x.addr (widN x.i.op)).getD 0#64) (widN x.i.op)) f.d0 f.d1
        have ht := touched_spec (({ x with b := x.b.loaded x.addr (widN x.i.op) k } : Xs).put (extV ((x.b.load x.addr (widN x.i.op)).getD 0#64) (widN x.i.op))) 1 x.addr (widN x.i.op) 0#64
        generalize (({ x with b := x.b.loaded x.addr (widN x.i.op) k } : Xs).put (extV ((x.b.load x.addr (widN x.i.op)).getD 0#64) (widN x.i.op))) = y at hp ht hx
        first
          | refine Does.atn hp [0, 1, 2, 6, 7] rfl ⟨rfl, rfl, rfl, rfl, rfl, trivial⟩ (by decide) (by rintro v h' ⟨_, rfl⟩; exact ⟨.inl rfl, .inl rfl, .inl rfl, .inl rfl, .inl rfl, trivial⟩) ?_
          | refine Does.atn hp [0, 1, 2, 7, 8] rfl ⟨rfl, rfl, rfl, rfl, rfl, trivial⟩ (by decide) (by rintro v h' ⟨_, rfl⟩; exact ⟨.inl rfl, .inl rfl, .inl rfl, .inl rfl, .inl rfl, trivial⟩) ?_
        rintro v h' ⟨rfl, rfl⟩
        repeat (refine need_intro (by first | exact fun h => h | exact nt | exact an2 | exact an3 | rfl | (simp; done) | fail) ?_)
        refine Does.p ?_
        refine Does.args (b := [.s (.ptr 0 0), .s (.int .i64 1), .s (.int .u64 (x.addr.toNat : Int)), .s (.int .i64 (widN x.i.op)), .s (.int .u64 ((0#64).toNat : Int))]) ⟨eqvE_refl _, eqvE_refl _, ⟨rfl, add64 _ _⟩, eqvE_refl _, eqvE_refl _, trivial⟩ ?_
        first
          | refine Does.atn ht [0, 1, 2, 6, 7] rfl ⟨rfl, rfl, rfl, rfl, rfl, trivial⟩ (by decide) (by rintro v h' ⟨_, rfl⟩; exact ⟨.inl rfl, .inl rfl, .inl rfl, .inl rfl, .inl rfl, trivial⟩) ?_
          | refine Does.atn ht [0, 1, 2, 7, 8] rfl ⟨rfl, rfl, rfl, rfl, rfl, trivial⟩ (by decide) (by rintro v h' ⟨_, rfl⟩; exact ⟨.inl rfl, .inl rfl, .inl rfl, .inl rfl, .inl rfl, trivial⟩) ?_
        rintro v h' ⟨rfl, rfl⟩
        repeat (refine need_intro (by first | exact fun h => h | exact nt | exact an2 | exact an3 | rfl | (simp; done) | fail) ?_)
        first
          | exact Ends.ret ⟨_, (x.ld k).h2, [0, 1, 2, 3, 4, 6, 7], ⟨rfl, k, hk, rfl, rfl⟩, by decide, ⟨rfl, rfl, rfl, rfl, rfl, trivial⟩, eqvE_refl _, by rw [hx]; exact ⟨⟨_, rfl, eqvB_refl _⟩, ⟨_, rfl, eqvB_refl _⟩, ⟨_, rfl, eqvB_refl _⟩, ⟨_, rfl, eqvB_refl _⟩, ⟨_, rfl, eqvB_refl _⟩, ⟨_, rfl, eqvB_refl _⟩, ⟨_, rfl, eqvB_refl _⟩, trivial⟩⟩
          | exact Ends.ret ⟨_, (x.ld k).h2, [0, 1, 2, 3, 4, 7, 8], ⟨rfl, k, hk, rfl, rfl⟩, by decide, ⟨rfl, rfl, rfl, rfl, rfl, trivial⟩, eqvE_refl _, by rw [hx]; exact ⟨⟨_, rfl, eqvB_refl _⟩, ⟨_, rfl, eqvB_refl _⟩, ⟨_, rfl, eqvB_refl _⟩, ⟨_, rfl, eqvB_refl _⟩, ⟨_, rfl, eqvB_refl _⟩, ⟨_, rfl, eqvB_refl _⟩, ⟨_, rfl, eqvB_refl _⟩, trivial⟩⟩
      · have hv : x.ldVal = (x.b.load x.addr (widN x.i.op)).getD 0#64 := by unfold Xs.ldVal; rw [if_neg (of_decide_eq_false g)]
        repeat (refine need_intro (by first | exact fun h => h | exact nt | exact an2 | exact an3 | rfl | (simp; done) | fail) ?_)
        have hx : x.ld k = (({ x with b := x.b.loaded x.addr (widN x.i.op) k } : Xs).put ((x.b.load x.addr (widN x.i.op)).getD 0#64)).touch 1 x.addr (widN x.i.op) 0#64 := by unfold Xs.ld; rw [hv]
        refine Does.p ?_
        have hp := put_spec ({ x with b := x.b.loaded x.addr (widN x.i.op) k } : Xs) ((x.b.load x.addr (widN x.i.op)).getD 0#64) f.d0 f.d1
        have ht := touched_spec (({ x with b := x.b.loaded x.addr (widN x.i.op) k } : Xs).put ((x.b.load x.addr (widN x.i.op)).getD 0#64)) 1 x.addr (widN x.i.op) 0#64
        generalize (({ x with b := x.b.loaded x.addr (widN x.i.op) k } : Xs).put ((x.b.load x.addr (widN x.i.op)).getD 0#64)) = y at hp ht hx
        first
          | refine Does.atn hp [0, 1, 2, 6, 7] rfl ⟨rfl, rfl, rfl, rfl, rfl, trivial⟩ (by decide) (by rintro v h' ⟨_, rfl⟩; exact ⟨.inl rfl, .inl rfl, .inl rfl, .inl rfl, .inl rfl, trivial⟩) ?_
          | refine Does.atn hp [0, 1, 2, 7, 8] rfl ⟨rfl, rfl, rfl, rfl, rfl, trivial⟩ (by decide) (by rintro v h' ⟨_, rfl⟩; exact ⟨.inl rfl, .inl rfl, .inl rfl, .inl rfl, .inl rfl, trivial⟩) ?_
        rintro v h' ⟨rfl, rfl⟩
        repeat (refine need_intro (by first | exact fun h => h | exact nt | exact an2 | exact an3 | rfl | (simp; done) | fail) ?_)
        refine Does.p ?_
        refine Does.args (b := [.s (.ptr 0 0), .s (.int .i64 1), .s (.int .u64 (x.addr.toNat : Int)), .s (.int .i64 (widN x.i.op)), .s (.int .u64 ((0#64).toNat : Int))]) ⟨eqvE_refl _, eqvE_refl _, ⟨rfl, add64 _ _⟩, eqvE_refl _, eqvE_refl _, trivial⟩ ?_
        first
          | refine Does.atn ht [0, 1, 2, 6, 7] rfl ⟨rfl, rfl, rfl, rfl, rfl, trivial⟩ (by decide) (by rintro v h' ⟨_, rfl⟩; exact ⟨.inl rfl, .inl rfl, .inl rfl, .inl rfl, .inl rfl, trivial⟩) ?_
          | refine Does.atn ht [0, 1, 2, 7, 8] rfl ⟨rfl, rfl, rfl, rfl, rfl, trivial⟩ (by decide) (by rintro v h' ⟨_, rfl⟩; exact ⟨.inl rfl, .inl rfl, .inl rfl, .inl rfl, .inl rfl, trivial⟩) ?_
        rintro v h' ⟨rfl, rfl⟩
        repeat (refine need_intro (by first | exact fun h => h | exact nt | exact an2 | exact an3 | rfl | (simp; done) | fail) ?_)
        first
          | exact Ends.ret ⟨_, (x.ld k).h2, [0, 1, 2, 3, 4, 6, 7], ⟨rfl, k, hk, rfl, rfl⟩, by decide, ⟨rfl, rfl, rfl, rfl, rfl, trivial⟩, eqvE_refl _, by rw [hx]; exact ⟨⟨_, rfl, eqvB_refl _⟩, ⟨_, rfl, eqvB_refl _⟩, ⟨_, rfl, eqvB_refl _⟩, ⟨_, rfl, eqvB_refl _⟩, ⟨_, rfl, eqvB_refl _⟩, ⟨_, rfl, eqvB_refl _⟩, ⟨_, rfl, eqvB_refl _⟩, trivial⟩⟩
          | exact Ends.ret ⟨_, (x.ld k).h2, [0, 1, 2, 3, 4, 7, 8], ⟨rfl, k, hk, rfl, rfl⟩, by decide, ⟨rfl, rfl, rfl, rfl, rfl, trivial⟩, eqvE_refl _, by rw [hx]; exact ⟨⟨_, rfl, eqvB_refl _⟩, ⟨_, rfl, eqvB_refl _⟩, ⟨_, rfl, eqvB_refl _⟩, ⟨_, rfl, eqvB_refl _⟩, ⟨_, rfl, eqvB_refl _⟩, ⟨_, rfl, eqvB_refl _⟩, ⟨_, rfl, eqvB_refl _⟩, trivial⟩⟩
end Go.Proofs.YtdlpmbghocabbaaGreatDoor

/- A store instruction. Contract of a function. -/
namespace Go.Anv
open Go
def Xs.stTrap (x : Xs) : TrapV := x.b.stTrap x.c x.addr (widN x.i.op)
def Xs.st (x : Xs) (k : Nat) : Xs := { (({ x with b := x.b.stored x.addr (widN x.i.op) x.r2 k } : Xs).touch 2 x.addr (widN x.i.op) (lowN x.r2 (8 * widN x.i.op))) with c := x.c.proper.freed x.addr (widN x.i.op) }
end Go.Anv
namespace Go.Proofs.YtdlpmbghocabbaaGreatDoor
open Go Go.Anv
set_option maxRecDepth 100000 in
set_option maxHeartbeats 4000000 in
theorem i_store (x : Xs) (f : x.i.Fit) (hop : 18 ≤ x.i.op ∧ x.i.op ≤ 21) (hr : x.b.s.nr ≤ 65536) (hf : x.b.fits) : DoesP TB 57 [.s (.ptr 0 0)] x.h
    (both (fun v h' => x.stTrap.is = false ∧ ∃ k, (x.st k).b.fits ∧ v = .tuple [] ∧ h' = (x.st k).h2) (fun v h' => x.stTrap.is = true ∧ v = faultE x.stTrap ∧ h' = x.h)) := by
  refine fnXP_does TB Tryz.func57 rfl (by decide) (fun O on hO => ?_)
  refine draw_calm ?_
  refine draw_held on rfl (fun _ _ h => h) ?_
  repeat' (first | refine need_intro (by first | exact fun h => h | exact nt | exact an2 | exact an3 | rfl | (simp; done) | fail) ?_ | refine And.intro ?_ ?_ | (refine (x1_spec x f.s0 f.s1).mono ?_; rintro _ _ ⟨rfl, rfl⟩) | (refine (imm_spec x).mono ?_; rintro _ _ ⟨rfl, rfl⟩) | (refine (widthsB _).mono ?_; rintro _ _ ⟨L, hL, rfl, rfl⟩))
  refine lookK_ints _ L ?_
  rw [hL _ (by omega) (by omega)]
  repeat (refine need_intro (by first | exact fun h => h | exact nt | exact an2 | exact an3 | rfl | (simp; done) | fail) ?_)
  refine DrawP.drop on [11] x.h [0, 1, 2, 3, 4] ⟨by decide, by rw [hO]; exact ⟨rfl, rfl, rfl, rfl, rfl, trivial⟩, ?_, ⟨⟨_, rfl, eqvB_refl _⟩, ⟨_, rfl, eqvB_refl _⟩, ⟨_, rfl, eqvB_refl _⟩, ⟨_, rfl, eqvB_refl _⟩, ⟨_, rfl, eqvB_refl _⟩, trivial⟩⟩ ?_
  · repeat' (first | exact eqvT_nil | refine eqvT_same ?_ | refine eqvT_junk ?_)
  cases htr : x.stTrap.is with
  | true =>
    have hl : Does TB 90 [.agg x.c.segs, .s (.ptr 0 0), .s (.int .u64 x.addr.toNat), .s (.int .i64 (widN x.i.op)), .s (.int .u64 x.r2.toNat)] x.b.h (fun v h' => v = stE x.c.proper x.stTrap ∧ h' = x.b.h) := by
      refine (storeD x.b x.c x.addr (widN x.i.op) x.r2 (by have := wid_8 x.i.op; omega) hr hf).mono ?_
      rintro v h' (⟨_, rfl, rfl⟩ | ⟨h, _⟩)
      · exact ⟨rfl, rfl⟩
      · exact absurd (htr.symm.trans h) (by decide)
    generalize x.stTrap = t at hl htr ⊢
    obtain ⟨is, cs, tv⟩ := t
    cases htr
    refine draw_calm ?_
    refine draw_to on ?t5 ?_ ?_
    rotate_left 1
    · refine draw_held on rfl (fun _ _ h => h) ?_
      repeat' (first | refine need_intro (by first | exact fun h => h | exact nt | exact an2 | exact an3 | rfl | (simp; done) | fail) ?_ | refine And.intro ?_ ?_ | (refine Does.atc (x2_spec x f.t0 f.t1) [0, 1, 2, 3, 4] rfl ⟨rfl, rfl, rfl, rfl, rfl, trivial⟩ (by decide) ?_) | (refine Does.args (b := [.agg x.c.segs, .s (.ptr 1 0), .s (.int .u64 (x.addr.toNat : Int)), .s (.int .i64 (widN x.i.op)), .s (.int .u64 (x.r2.toNat : Int))]) ⟨eqvE_refl _, eqvE_refl _, ⟨rfl, add64 _ _⟩, eqvE_refl _, eqvE_refl _, trivial⟩ ?_; refine Does.atc hl [1, 2, 3, 4] rfl ⟨rfl, rfl, rfl, rfl, trivial⟩ (by decide) ?_))
      · refine toK_id ?_
        rw [hO]; exact Nat.le_of_ble_eq_true rfl
      all_goals first
        | (refine toK_of [0, 1, 2, 3, 4, 5, 6] (by decide) (by rw [hO]; exact ⟨rfl, rfl, rfl, rfl, rfl, trivial⟩) ?_ ?_; (repeat' (first | exact eqvT_nil | refine eqvT_same ?_)); exact ⟨⟨_, rfl, eqvB_refl _⟩, ⟨_, rfl, eqvB_refl _⟩, ⟨_, rfl, eqvB_refl _⟩, ⟨_, rfl, eqvB_refl _⟩, ⟨_, rfl, eqvB_refl _⟩, ⟨_, rfl, eqvB_refl _⟩, ⟨_, rfl, eqvB_refl _⟩, trivial⟩)
        | (refine toK_of [0, 1, 2, 3, 4, 6, 5] (by decide) (by rw [hO]; exact ⟨rfl, rfl, rfl, rfl, rfl, trivial⟩) ?_ ?_; (repeat' (first | exact eqvT_nil | refine eqvT_same ?_)); exact ⟨⟨_, rfl, eqvB_refl _⟩, ⟨_, rfl, eqvB_refl _⟩, ⟨_, rfl, eqvB_refl _⟩, ⟨_, rfl, eqvB_refl _⟩, ⟨_, rfl, eqvB_refl _⟩, ⟨_, rfl, eqvB_refl _⟩, ⟨_, rfl, eqvB_refl _⟩, trivial⟩)
        | fail
    repeat (refine need_intro (by first | exact fun h => h | exact nt | exact an2 | exact an3 | rfl | (simp; done) | fail) ?_)
    refine DoesP.atn (pass_yes cs tv) [] rfl trivial (by decide) ?_ ?_
    · rintro v h' hq
      unfold both at hq
      split at hq
      · exact hq.elim
      · obtain ⟨rfl, rfl⟩ := hq; trivial
      · exact hq.elim
    rintro v h' hq
    unfold both at hq
    split at hq
    · exact hq.elim
    · obtain ⟨rfl, rfl⟩ := hq
      exact Ends.thr ⟨_, x.h, [0, 1, 2, 3, 4], ⟨rfl, rfl, rfl⟩, by decide, ⟨rfl, rfl, rfl, rfl, rfl, trivial⟩, eqvE_refl _, ⟨⟨_, rfl, eqvB_refl _⟩, ⟨_, rfl, eqvB_refl _⟩, ⟨_, rfl, eqvB_refl _⟩, ⟨_, rfl, eqvB_refl _⟩, ⟨_, rfl, eqvB_refl _⟩, trivial⟩⟩
    · exact hq.elim
  | false =>
    have hl : Does TB 90 [.agg x.c.segs, .s (.ptr 0 0), .s (.int .u64 x.addr.toNat), .s (.int .i64 (widN x.i.op)), .s (.int .u64 x.r2.toNat)] x.b.h (fun v h' => ∃ k, (x.b.stored x.addr (widN x.i.op) x.r2 k).fits ∧ v = stE (x.c.proper.freed x.addr (widN x.i.op)) noTrap ∧ h' = (x.b.stored x.addr (widN x.i.op) x.r2 k).h2) := by
      refine (storeD x.b x.c x.addr (widN x.i.op) x.r2 (by have := wid_8 x.i.op; omega) hr hf).mono ?_
      rintro v h' (⟨h, _⟩ | ⟨_, h⟩)
      · exact absurd (htr.symm.trans h) (by decide)
      · exact h
    refine draw_calm ?_
    refine draw_by on (A := Nat) (fun _ => [(4, .s (.ptr 7 0)), (5, .s (.ptr 8 0))]) (fun k => ({ x with b := x.b.stored x.addr (widN x.i.op) x.r2 k } : Xs).h2 ++ [.cells true (x.c.proper.freed x.addr (widN x.i.op)).segs 0, .cells true noTrap.segs 0]) (fun k => (x.b.stored x.addr (widN x.i.op) x.r2 k).fits) ?_ ?_
    · refine draw_but [1, 2, 3, 4] on rfl (fun _ _ h => h) ?_
      repeat' (first | refine need_intro (by first | exact fun h => h | exact nt | exact an2 | exact an3 | rfl | (simp; done) | fail) ?_ | refine And.intro ?_ ?_ | (refine Does.atc (x2_spec x f.t0 f.t1) [0, 1, 2, 3, 4] rfl ⟨rfl, rfl, rfl, rfl, rfl, trivial⟩ (by decide) ?_) | (refine Does.args (b := [.agg x.c.segs, .s (.ptr 1 0), .s (.int .u64 (x.addr.toNat : Int)), .s (.int .i64 (widN x.i.op)), .s (.int .u64 (x.r2.toNat : Int))]) ⟨eqvE_refl _, eqvE_refl _, ⟨rfl, add64 _ _⟩, eqvE_refl _, eqvE_refl _, trivial⟩ ?_; refine Does.atn hl [1, 2, 3, 4] rfl ⟨rfl, rfl, rfl, rfl, trivial⟩ (by decide) (by rintro v h' ⟨k, _, rfl, rfl⟩; exact ⟨.inl rfl, .inl rfl, .inr (.inl rfl), .inr (.inl rfl), .inl rfl, .inl rfl, trivial⟩) ?_; rintro v h' ⟨k, hk, rfl, rfl⟩))
      all_goals first
        | (refine ⟨k, hk, [0, 1, 2, 3, 4, 5, 6, 7, 8], by decide, by rw [hO]; exact ⟨rfl, rfl, rfl, rfl, rfl, trivial⟩, ?_, ⟨⟨_, rfl, eqvB_refl _⟩, ⟨_, rfl, eqvB_refl _⟩, ⟨_, rfl, eqvB_refl _⟩, ⟨_, rfl, eqvB_refl _⟩, ⟨_, rfl, eqvB_refl _⟩, ⟨_, rfl, eqvB_refl _⟩, ⟨_, rfl, eqvB_refl _⟩, ⟨_, rfl, eqvB_refl _⟩, ⟨_, rfl, eqvB_refl _⟩, trivial⟩⟩; (repeat' (first | exact eqvT_nil | refine eqvT_same ?_ | refine eqvT_junk ?_)); done)
        | (refine ⟨k, hk, [0, 1, 2, 3, 4, 6, 7, 5, 8], by decide, by rw [hO]; exact ⟨rfl, rfl, rfl, rfl, rfl, trivial⟩, ?_, ⟨⟨_, rfl, eqvB_refl _⟩, ⟨_, rfl, eqvB_refl _⟩, ⟨_, rfl, eqvB_refl _⟩, ⟨_, rfl, eqvB_refl _⟩, ⟨_, rfl, eqvB_refl _⟩, ⟨_, rfl, eqvB_refl _⟩, ⟨_, rfl, eqvB_refl _⟩, ⟨_, rfl, eqvB_refl _⟩, ⟨_, rfl, eqvB_refl _⟩, trivial⟩⟩; (repeat' (first | exact eqvT_nil | refine eqvT_same ?_ | refine eqvT_junk ?_)); done)
        | (refine ⟨k, hk, [0, 1, 2, 3, 4, 7, 8, 5, 6], by decide, by rw [hO]; exact ⟨rfl, rfl, rfl, rfl, rfl, trivial⟩, ?_, ⟨⟨_, rfl, eqvB_refl _⟩, ⟨_, rfl, eqvB_refl _⟩, ⟨_, rfl, eqvB_refl _⟩, ⟨_, rfl, eqvB_refl _⟩, ⟨_, rfl, eqvB_refl _⟩, ⟨_, rfl, eqvB_refl _⟩, ⟨_, rfl, eqvB_refl _⟩, ⟨_, rfl, eqvB_refl _⟩, ⟨_, rfl, eqvB_refl _⟩, trivial⟩⟩; (repeat' (first | exact eqvT_nil | refine eqvT_same ?_ | refine eqvT_junk ?_)); done)
        | (refine ⟨k, hk, [0, 1, 2, 3, 4, 5, 6, 8, 7], by decide, by rw [hO]; exact ⟨rfl, rfl, rfl, rfl, rfl, trivial⟩, ?_, ⟨⟨_, rfl, eqvB_refl _⟩, ⟨_, rfl, eqvB_refl _⟩, ⟨_, rfl, eqvB_refl _⟩, ⟨_, rfl, eqvB_refl _⟩, ⟨_, rfl, eqvB_refl _⟩, ⟨_, rfl, eqvB_refl _⟩, ⟨_, rfl, eqvB_refl _⟩, ⟨_, rfl, eqvB_refl _⟩, ⟨_, rfl, eqvB_refl _⟩, trivial⟩⟩; (repeat' (first | exact eqvT_nil | refine eqvT_same ?_ | refine eqvT_junk ?_)); done)
        | (refine ⟨k, hk, [0, 1, 2, 3, 4, 6, 7, 8, 5], by decide, by rw [hO]; exact ⟨rfl, rfl, rfl, rfl, rfl, trivial⟩, ?_, ⟨⟨_, rfl, eqvB_refl _⟩, ⟨_, rfl, eqvB_refl _⟩, ⟨_, rfl, eqvB_refl _⟩, ⟨_, rfl, eqvB_refl _⟩, ⟨_, rfl, eqvB_refl _⟩, ⟨_, rfl, eqvB_refl _⟩, ⟨_, rfl, eqvB_refl _⟩, ⟨_, rfl, eqvB_refl _⟩, ⟨_, rfl, eqvB_refl _⟩, trivial⟩⟩; (repeat' (first | exact eqvT_nil | refine eqvT_same ?_ | refine eqvT_junk ?_)); done)
        | (refine ⟨k, hk, [0, 1, 2, 3, 4, 7, 8, 6, 5], by decide, by rw [hO]; exact ⟨rfl, rfl, rfl, rfl, rfl, trivial⟩, ?_, ⟨⟨_, rfl, eqvB_refl _⟩, ⟨_, rfl, eqvB_refl _⟩, ⟨_, rfl, eqvB_refl _⟩, ⟨_, rfl, eqvB_refl _⟩, ⟨_, rfl, eqvB_refl _⟩, ⟨_, rfl, eqvB_refl _⟩, ⟨_, rfl, eqvB_refl _⟩, ⟨_, rfl, eqvB_refl _⟩, ⟨_, rfl, eqvB_refl _⟩, trivial⟩⟩; (repeat' (first | exact eqvT_nil | refine eqvT_same ?_ | refine eqvT_junk ?_)); done)
        | fail
    intro k hk
    repeat (refine need_intro (by first | exact fun h => h | exact nt | exact an2 | exact an3 | rfl | (simp; done) | fail) ?_)
    refine Does.p ?_
    refine Does.atc (pass_no 0#64 0#64) [] rfl trivial (by decide) ?_
    repeat (refine need_intro (by first | exact fun h => h | exact nt | exact an2 | exact an3 | rfl | (simp; done) | fail) ?_)
    have h2 := x2_spec ({ x with b := x.b.stored x.addr (widN x.i.op) x.r2 k } : Xs) f.t0 f.t1
    have ht := touched_spec ({ x with b := x.b.stored x.addr (widN x.i.op) x.r2 k } : Xs) 2 x.addr (widN x.i.op) (lowN x.r2 (8 * widN x.i.op))
    refine Does.p ?_
    refine Does.atc h2 [0, 1, 2, 5, 6] rfl ⟨rfl, rfl, rfl, rfl, rfl, trivial⟩ (by decide) ?_
    repeat (refine need_intro (by first | exact fun h => h | exact nt | exact an2 | exact an3 | rfl | (simp; done) | fail) ?_)
    refine Does.p ?_
    refine (lowA x.r2 (widN x.i.op) (wid_8 _) _).mono ?_
    rintro _ _ ⟨rfl, rfl⟩
    repeat (refine need_intro (by first | exact fun h => h | exact nt | exact an2 | exact an3 | rfl | (simp; done) | fail) ?_)
    refine Does.p ?_
    refine Does.args (b := [.s (.ptr 0 0), .s (.int .i64 2), .s (.int .u64 (x.addr.toNat : Int)), .s (.int .i64 (widN x.i.op)), .s (.int .u64 ((lowN x.r2 (8 * widN x.i.op)).toNat : Int))]) ⟨eqvE_refl _, eqvE_refl _, ⟨rfl, add64 _ _⟩, eqvE_refl _, eqvE_refl _, trivial⟩ ?_
    refine Does.atn ht [0, 1, 2, 5, 6] rfl ⟨rfl, rfl, rfl, rfl, rfl, trivial⟩ (by decide) (by rintro v h' ⟨_, rfl⟩; exact ⟨.inl rfl, .inl rfl, .inl rfl, .inl rfl, .inl rfl, trivial⟩) ?_
    rintro v h' ⟨rfl, rfl⟩
    repeat (refine need_intro (by first | exact fun h => h | exact nt | exact an2 | exact an3 | rfl | (simp; done) | fail) ?_)
    exact Ends.ret ⟨_, (x.st k).h2, [0, 1, 2, 3, 4, 5, 6], ⟨rfl, k, hk, rfl, rfl⟩, by decide, ⟨rfl, rfl, rfl, rfl, rfl, trivial⟩, eqvE_refl _, ⟨⟨_, rfl, eqvB_refl _⟩, ⟨_, rfl, eqvB_refl _⟩, ⟨_, rfl, eqvB_refl _⟩, ⟨_, rfl, eqvB_refl _⟩, ⟨_, rfl, eqvB_refl _⟩, ⟨_, rfl, eqvB_refl _⟩, ⟨_, rfl, eqvB_refl _⟩, trivial⟩⟩
end Go.Proofs.YtdlpmbghocabbaaGreatDoor

/- exec.Do of loads and stores. Contracts of functions. -/
namespace Go.Proofs.YtdlpmbghocabbaaGreatDoor
open Go Go.Anv
theorem do_load (c : CpuV) (d : Dev) (i : InV) (hi : i.ok = true) (ho : 11 ≤ i.op ∧ i.op ≤ 17) (hr : d.s.nr ≤ 65536) (hni : d.s.ni ≤ 140737488351232) (hf : d.fits) (X : Xs) (hX : X = begunX c.proper d i) :
    Does TB 12 [.agg c.segs, .s (.ptr 0 0), .agg i.segs] d.h (fun v h' => (X.ldTrap.is = false ∧ ∃ k, (X.ld k).b.s.ni ≤ (X.ld k).b.ci ∧ v = doE (X.ld k).after (X.ld k).d ∧ h' = (X.ld k).b.h2) ∨ (X.ldTrap.is = true ∧ v = doE c.proper (trapped X.ldTrap) ∧ h' = d.h)) := by
  have hb : bodyF i.op.toNat = .func (.func 56) [] [] := by
    have : i.op = 11 ∨ i.op = 12 ∨ i.op = 13 ∨ i.op = 14 ∨ i.op = 15 ∨ i.op = 16 ∨ i.op = 17 := by omega
    rcases this with h | h | h | h | h | h | h <;> rw [h] <;> rfl
  have hXb : X.b = d := by rw [hX]; rfl
  have hXi : X.i = i := by rw [hX]; rfl
  have hg := i_load X (by rw [hXi]; exact InV.fit hi) (by rw [hXi]; exact ho) (by rw [hXb]; exact hr) (by rw [hXb]; exact hni) (by rw [hXb]; exact hf)
  have hg2 : DoesP TB 56 [.s (.ptr 0 0)] X.h (bodyQ d (fun x m => X.ldTrap.is = false ∧ m = true ∧ ∃ k, (X.ld k).b.s.ni ≤ (X.ld k).b.ci ∧ x = X.ld k) (fun t => X.ldTrap.is = true ∧ t = X.ldTrap)) := by
    refine hg.mono ?_
    intro v h' hq
    unfold both at hq
    unfold bodyQ both
    split at hq
    · obtain ⟨h1, k, h2, rfl, rfl⟩ := hq
      exact ⟨X.ld k, true, ⟨h1, rfl, k, h2, rfl⟩, rfl, .inr ⟨rfl, rfl⟩⟩
    · obtain ⟨h1, rfl, rfl⟩ := hq
      exact ⟨X.ldTrap, X, ⟨h1, rfl⟩, rfl, by rw [← hXb]⟩
    · exact hq.elim
  refine (do_gen c d i hi _ hb _ _ (by rw [← hX]; exact hg2)).mono ?_
  rintro v h' (⟨x, m, ⟨h1, rfl, k, h2, rfl⟩, rfl, ⟨h, _⟩ | ⟨_, rfl⟩⟩ | ⟨t, ⟨h1, rfl⟩, rfl, rfl⟩)
  · cases h
  · exact .inl ⟨h1, k, h2, rfl, rfl⟩
  · exact .inr ⟨h1, rfl, rfl⟩
theorem do_store (c : CpuV) (d : Dev) (i : InV) (hi : i.ok = true) (ho : 18 ≤ i.op ∧ i.op ≤ 21) (hr : d.s.nr ≤ 65536) (hf : d.fits) (X : Xs) (hX : X = begunX c.proper d i) :
    Does TB 12 [.agg c.segs, .s (.ptr 0 0), .agg i.segs] d.h (fun v h' => (X.stTrap.is = false ∧ ∃ k, (X.st k).b.fits ∧ v = doE (X.st k).after (X.st k).d ∧ h' = (X.st k).b.h2) ∨ (X.stTrap.is = true ∧ v = doE c.proper (trapped X.stTrap) ∧ h' = d.h)) := by
  have hb : bodyF i.op.toNat = .func (.func 57) [] [] := by
    have : i.op = 18 ∨ i.op = 19 ∨ i.op = 20 ∨ i.op = 21 := by omega
    rcases this with h | h | h | h <;> rw [h] <;> rfl
  have hXb : X.b = d := by rw [hX]; rfl
  have hXi : X.i = i := by rw [hX]; rfl
  have hg := i_store X (by rw [hXi]; exact InV.fit hi) (by rw [hXi]; exact ho) (by rw [hXb]; exact hr) (by rw [hXb]; exact hf)
  have hg2 : DoesP TB 57 [.s (.ptr 0 0)] X.h (bodyQ d (fun x m => X.stTrap.is = false ∧ m = true ∧ ∃ k, (X.st k).b.fits ∧ x = X.st k) (fun t => X.stTrap.is = true ∧ t = X.stTrap)) := by
    refine hg.mono ?_
    intro v h' hq
    unfold both at hq
    unfold bodyQ both
    split at hq
    · obtain ⟨h1, k, h2, rfl, rfl⟩ := hq
      exact ⟨X.st k, true, ⟨h1, rfl, k, h2, rfl⟩, rfl, .inr ⟨rfl, rfl⟩⟩
    · obtain ⟨h1, rfl, rfl⟩ := hq
      exact ⟨X.stTrap, X, ⟨h1, rfl⟩, rfl, by rw [← hXb]⟩
    · exact hq.elim
  refine (do_gen c d i hi _ hb _ _ (by rw [← hX]; exact hg2)).mono ?_
  rintro v h' (⟨x, m, ⟨h1, rfl, k, h2, rfl⟩, rfl, ⟨h, _⟩ | ⟨_, rfl⟩⟩ | ⟨t, ⟨h1, rfl⟩, rfl, rfl⟩)
  · cases h
  · exact .inl ⟨h1, k, h2, rfl, rfl⟩
  · exact .inr ⟨h1, rfl, rfl⟩
end Go.Proofs.YtdlpmbghocabbaaGreatDoor

/- What must come whatever is asked: a register is counted up, stored, loaded again (layer 12). Contract of a function. -/
namespace Go.Anv
open Go
def fc0 : CpuV := { cpuZ with pc := 0x80000000#64, mode := 3, x := fun j => if j = 2 then 0x80000008#64 else 0#64 }
def fi1 : InV := ⟨22, 1, 0, 0, -2, false, false, 4, 0#32⟩
def fi2 : InV := ⟨19, 0, 2, 1, 2, false, false, 2, 0#32⟩
def fi3 : InV := ⟨16, 3, 2, 0, 2, false, false, 4, 0#32⟩
def fx1 : Xs := (begunX fc0.proper dev64 fi1).put (compV (plainN fi1.op.toNat) (begunX fc0.proper dev64 fi1).r1 (begunX fc0.proper dev64 fi1).imm)
def fx2 : Xs := begunX fx1.after.proper dev64 fi2
def fb2 : Dev := dev64.lay 0x8000000a#64 2 (fx2.r2)
set_option maxRecDepth 100000 in
theorem fx2_trap : fx2.stTrap.is = false := by decide +kernel
theorem fx2_who : dev64.s.who 0x8000000a#64 2 = some .ram := rfl
theorem fx1_d : fx1.d.segs = DoneV.segs ⟨noTrap, 1, 18446744073709551614#64, 0, 0#64, 0, 0#64, false, false⟩ := rfl
def fs2 : Xs := { (({ fx2 with b := fb2 } : Xs).touch 2 fx2.addr 2 (lowN fx2.r2 16)) with c := fx2.c.proper.freed fx2.addr 2 }
theorem fx2_st (k : Nat) : fx2.st k = fs2 := by
  have hb : dev64.stored 0x8000000a#64 2 fx2.r2 k = fb2 := by unfold Dev.stored; rw [fx2_who]; rfl
  have ha : fx2.addr = 0x8000000a#64 := by decide +kernel
  unfold Xs.st fs2
  show ({ (({ fx2 with b := dev64.stored fx2.addr 2 fx2.r2 k } : Xs).touch 2 fx2.addr 2 (lowN fx2.r2 16)) with c := fx2.c.proper.freed fx2.addr 2 } : Xs) = _
  rw [ha, hb]
def fx3 : Xs := begunX fs2.after.proper fb2 fi3
theorem fx3_trap : fx3.ldTrap.is = false := by decide +kernel
theorem fx3_who : fb2.s.who 0x8000000a#64 2 = some .ram := rfl
def fl3 : Xs := (fx3.put fx3.ldVal).touch 1 fx3.addr 2 0#64
theorem fx3_ld (k : Nat) : fx3.ld k = fl3 := by
  have hb : fb2.loaded 0x8000000a#64 2 k = fb2 := by unfold Dev.loaded; rw [fx3_who]
  have ha : fx3.addr = 0x8000000a#64 := by decide +kernel
  unfold Xs.ld fl3
  show (({ fx3 with b := fb2.loaded fx3.addr 2 k } : Xs).put fx3.ldVal).touch 1 fx3.addr 2 0#64 = _
  rw [ha, hb]
  rfl
end Go.Anv
namespace Go.Proofs.YtdlpmbghocabbaaGreatDoor
open Go Go.Anv
set_option maxRecDepth 100000 in
set_option maxHeartbeats 4000000 in
theorem first12 : Does TB 10 [] [] (fun v h' => v = .s (.bool true) ∧ h' = []) := by
  refine fnX_does TB Tryz.func10 rfl (by decide) (fun O on hO => ?_)
  repeat (refine need_intro (by first | exact fun h => h | exact nt | exact an2 | exact an3 | rfl | (simp; done) | fail) ?_)
  refine Does.atn new64 [] rfl trivial (by decide) (by rintro v h' ⟨_, rfl⟩; exact ⟨.inl rfl, .inl rfl, .inl rfl, .inl rfl, trivial⟩) ?_
  rintro v h' ⟨rfl, rfl⟩
  repeat (refine need_intro (by first | exact fun h => h | exact nt | exact an2 | exact an3 | rfl | (simp; done) | fail) ?_)
  refine (num12_spec _ _).mono ?_
  rintro _ _ ⟨rfl, rfl⟩
  repeat (refine need_intro (by first | (decide) | exact fun h => h | exact nt | exact an2 | exact an3 | rfl | (simp; done) | fail) ?_)
  refine Does.args (b := [.agg fc0.segs, .s (.ptr 0 0), .agg fi1.segs]) ⟨?_, eqvE_refl _, eqvE_refl _, trivial⟩ ?_
  · show eqvS _ _
    repeat' (first | exact eqvS_nil | refine eqvS_same ?_ | refine eqvS_ints (fun j _ => ?_) ?_)
    show (if j = 0 + Int.toNat 2 then (2147483656 : Int) else 0) = wfun fc0.x j
    unfold wfun fc0
    dsimp only
    by_cases h : j = 2
    · subst h; rfl
    · rw [if_neg (show ¬ j = 0 + Int.toNat 2 from h), if_neg h]; rfl
  refine Does.atn (do_imm fc0 dev64 fi1 rfl (by decide)) [0, 1, 2, 3] rfl ⟨rfl, rfl, rfl, rfl, trivial⟩ (by decide) (by rintro v h' ⟨x, _, _, rfl⟩; exact ⟨.inl rfl, .inl rfl, .inl rfl, .inl rfl, trivial⟩) ?_
  rintro v h' ⟨x, hx, rfl, rfl⟩
  obtain rfl : x = fx1 := hx
  repeat (refine need_intro (by first | (decide) | exact fun h => h | exact nt | exact an2 | exact an3 | rfl | (simp; done) | fail) ?_)
  refine Does.atn (do_store fx1.after dev64 fi2 rfl (by decide) (by decide) ⟨by decide, by decide, by decide⟩ fx2 rfl) [0, 1, 2, 3] rfl ⟨rfl, rfl, rfl, rfl, trivial⟩ (by decide) (by rintro v h' (⟨_, k, _, _, rfl⟩ | ⟨_, _, rfl⟩) <;> first | exact ⟨.inl rfl, .inl rfl, .inr (.inl rfl), .inr (.inl rfl), .inl rfl, .inl rfl, trivial⟩ | exact ⟨.inl rfl, .inl rfl, .inl rfl, .inl rfl, trivial⟩) ?_
  rintro v h' (⟨_, k, _, hv, hh⟩ | ⟨h, _⟩)
  rotate_left 1
  · exact absurd (h.symm.trans fx2_trap) (by decide)
  rw [fx2_st k] at hv hh
  subst hv hh
  repeat (refine need_intro (by first | (decide) | exact fun h => h | exact nt | exact an2 | exact an3 | rfl | (simp; done) | fail) ?_)
  refine Does.atn (do_load fs2.after fb2 fi3 rfl (by decide) (by decide) (by decide) ⟨by decide, by decide, by decide⟩ fx3 rfl) [0, 1, 6, 7] rfl ⟨rfl, rfl, rfl, rfl, trivial⟩ (by decide) (by rintro v h' (⟨_, k, _, _, rfl⟩ | ⟨_, _, rfl⟩) <;> first | exact ⟨.inl rfl, .inl rfl, .inr (.inl rfl), .inr (.inl rfl), .inl rfl, .inl rfl, trivial⟩ | exact ⟨.inl rfl, .inl rfl, .inl rfl, .inl rfl, trivial⟩) ?_
  rintro v h' (⟨_, k, _, hv, hh⟩ | ⟨h, _⟩)
  rotate_left 1
  · exact absurd (h.symm.trans fx3_trap) (by decide)
  rw [fx3_ld k] at hv hh
  subst hv hh
  repeat (refine need_intro (by first | (decide) | exact fun h => h | exact nt | exact an2 | exact an3 | rfl | (simp; done) | fail) ?_)
  exact ⟨.s (.bool true), [], [], ⟨rfl, rfl⟩, by decide, trivial, rfl, trivial⟩
end Go.Proofs.YtdlpmbghocabbaaGreatDoor

/- A call and its return; a branch and its opposite: just one of them goes (ExecCalls). The law's function, walked. -/
namespace Go.Anv
open Go
theorem bit0 (z : B64) : z &&& ~~~1#64 = z ↔ z.toNat % 2 = 0 := by
  have h0 : z.getLsbD 0 = decide (z.toNat % 2 = 1) := by
    show z.toNat.testBit 0 = _
    rw [Nat.testBit_zero]
  have hk : ∀ i, i < 64 → (z &&& ~~~1#64).getLsbD i = (z.getLsbD i && decide (i ≠ 0)) := fun i hi => by
    rw [BitVec.getLsbD_and, BitVec.getLsbD_not, BitVec.getLsbD_one]
    simp [hi]
  constructor
  · intro h
    have := hk 0 (by decide)
    rw [h, h0] at this
    simp at this
    omega
  · intro h
    apply BitVec.eq_of_getLsbD_eq
    intro i hi
    rw [hk i hi]
    by_cases hi0 : i = 0
    · subst hi0
      rw [h0]
      simp; omega
    · simp [hi0]
theorem even_of (y : B64) : (y &&& ~~~1#64).toNat % 2 = 0 := by
  rw [← bit0, BitVec.and_assoc, BitVec.and_self]
theorem even_add {z : B64} (k : B64) (hz : z.toNat % 2 = 0) (hk : k.toNat % 2 = 0) : (z + k) &&& ~~~1#64 = z + k := by
  rw [bit0, BitVec.toNat_add]; omega
theorem proper_even (c : CpuV) : c.proper.pc.toNat % 2 = 0 := even_of c.pc
/-- The Cpu that calls; the instructions. -/
def jal1 : InV := ⟨4, 1, 5, 0, 0, false, false, 4, 0#32⟩
def jal2 : InV := ⟨4, 0, 1, 0, 0, false, false, 2, 0#32⟩
def brI (op : Int) : InV := ⟨op, 0, 6, 7, 64, false, false, 4, 0#32⟩
theorem jal1_facts (p : CpuV) (hp : p.pc.toNat % 2 = 0) (d : Dev) (A : CpuV) (hA : A = (begunX (p.proper) d jal1).jalr.after) : A.pc = p.x 5 &&& ~~~1#64 ∧ A.x 1 = p.pc + 4#64 ∧ A.x 0 = 0#64 ∧ A.pc.toNat % 2 = 0 := by
  subst hA
  have hpc : p.proper.pc = p.pc := (bit0 p.pc).2 hp
  refine ⟨?_, ?_, rfl, even_of _⟩
  · show (p.proper.x 5 + 0#64) &&& ~~~1#64 = _
    rw [BitVec.add_zero]; rfl
  · show p.proper.pc + 4#64 = _
    rw [hpc]
theorem jal2_facts (A : CpuV) (d : Dev) (B : CpuV) (hB : B = (begunX A.proper d jal2).jalr.after) (h1 : (A.x 1).toNat % 2 = 0) (h0 : A.x 0 = 0#64) : B.pc = A.x 1 ∧ (∀ j, B.x j = A.x j) ∧ B.pc.toNat % 2 = 0 := by
  subst hB
  have hb : (begunX A.proper d jal2).jalr.after.pc = A.x 1 := by
    show (A.proper.x 1 + 0#64) &&& ~~~1#64 = _
    rw [BitVec.add_zero]
    exact (bit0 _).2 h1
  refine ⟨hb, fun j => ?_, by rw [hb]; exact h1⟩
  show (if j = 0 then 0#64 else A.x j) = A.x j
  split
  · rename_i h; rw [h, h0]
  · rfl
theorem br_facts (B : CpuV) (d : Dev) (op : Int) (U : CpuV) (hU : U = (begunX B.proper d (brI op)).branch.after) (hb : B.pc.toNat % 2 = 0) : U.pc = B.pc + (if takenB op (B.x 6) (B.x 7) = true then 64#64 else 4#64) := by
  subst hU
  have hpc : B.proper.pc = B.pc := (bit0 B.pc).2 hb
  unfold Xs.after CpuV.goto Xs.branch
  have ht : takenB (begunX B.proper d (brI op)).i.op (begunX B.proper d (brI op)).r1 (begunX B.proper d (brI op)).r2 = takenB op (B.x 6) (B.x 7) := rfl
  rw [ht]
  split
  · show (B.proper.pc + 64#64) &&& ~~~1#64 = _
    rw [hpc]
    exact even_add _ hb (by decide)
  · show (B.proper.pc + 4#64) &&& ~~~1#64 = _
    rw [hpc]
    exact even_add _ hb (by decide)
theorem br_done (c : CpuV) (d : Dev) (i : InV) : (begunX c d i).branch.d = done0 := by
  unfold Xs.branch; split <;> rfl
theorem taken_not {op : Int} (h : 5 ≤ op ∧ op ≤ 10) (op' : Int) (ho : op' = if (op - 5) % 2 = 0 then op + 1 else op - 1) (a b : B64) : takenB op' a b = !takenB op a b := by
  have : op = 5 ∨ op = 6 ∨ op = 7 ∨ op = 8 ∨ op = 9 ∨ op = 10 := by omega
  subst ho
  rcases this with rfl | rfl | rfl | rfl | rfl | rfl
  · show (a != b) = !(a == b); rfl
  · show (a == b) = !(!(a == b)); rw [Bool.not_not]
  · show decide (a.toInt ≥ b.toInt) = !decide (a.toInt < b.toInt)
    rw [← decide_not]; exact decide_eq_decide.2 (by omega)
  · show decide (a.toInt < b.toInt) = !decide (a.toInt ≥ b.toInt)
    rw [← decide_not]; exact decide_eq_decide.2 (by omega)
  · show decide (b ≤ a) = !decide (a < b)
    rw [← decide_not]; exact decide_eq_decide.2 (by rw [BitVec.le_def, BitVec.lt_def]; omega)
  · show decide (a < b) = !decide (b ≤ a)
    rw [← decide_not]; exact decide_eq_decide.2 (by rw [BitVec.le_def, BitVec.lt_def]; omega)
end Go.Anv
namespace Go.Proofs.YtdlpmbghocabbaaGreatDoor
open Go Go.Anv
set_option maxRecDepth 100000 in
set_option maxHeartbeats 8000000 in
theorem execCalls_law (c : CpuV) (s : BusV) (l : Lists) (cr ci co : Nat) (hnr : s.nr ≤ 140737488355328) (hni : s.ni ≤ 140737488355328) (hno : s.no ≤ 140737488355328) (t : B64) (op : Int) (a z : B64) :
    Does TB 3 [.agg c.segs, .agg (s.segs (.gs 0 0 s.nr cr) (.gs 1 0 s.ni ci) (.gs 2 0 s.no co)), .s (.int .u64 t.toNat), .s (.int .i64 op), .s (.int .u64 a.toNat), .s (.int .u64 z.toNat)] (l.blks s) (fun v h' => v = .s (.bool true) ∧ h' = l.blks s) := by
  refine fnX_does TB Tryz.func3 rfl (by decide) (fun O on hO => ?_)
  cases hc : s.can with
  | false =>
    have hm := made12_no s l cr ci co (by omega) (by omega) (by omega) hc
    repeat (refine need_intro (by first | exact fun h => h | exact nt | exact an2 | exact an3 | rfl | (simp; done) | fail) ?_)
    refine Does.atc (hm) [0, 1, 2] rfl ⟨rfl, rfl, rfl, trivial⟩ (by decide) ?_
    repeat (refine need_intro (by first | exact fun h => h | exact nt | exact an2 | exact an3 | rfl | (simp; done) | fail) ?_)
    refine Does.atc first12 [] rfl trivial (by decide) ?_
    repeat (refine need_intro (by first | exact fun h => h | exact nt | exact an2 | exact an3 | rfl | (simp; done) | fail) ?_)
    exact Ends.ro (H := l.blks s) rfl (eqvE_refl _) rfl
  | true =>
    have hb : s.nr ≤ 65536 ∧ s.ni ≤ 64 ∧ s.no ≤ 4096 := by unfold BusV.can at hc; simp at hc; omega
    repeat (refine need_intro (by first | exact fun h => h | exact nt | exact an2 | exact an3 | rfl | (simp; done) | fail) ?_)
    refine Does.atn (made12_yes s l cr ci co hc) [0, 1, 2] rfl ⟨rfl, rfl, rfl, trivial⟩ (by decide) ?_ ?_
    · rintro v h' ⟨c3, c4, c5, _, _, _, _, rfl⟩
      exact ⟨.inr (.inr rfl), .inr (.inr rfl), .inr (.inr rfl), .inl rfl, .inl rfl, .inl rfl, .inl rfl, trivial⟩
    rintro v h' ⟨c3, c4, c5, h3, h4, h5, rfl, rfl⟩
    repeat (refine need_intro (by first | exact fun h => h | exact nt | exact an2 | exact an3 | rfl | (simp; done) | fail) ?_)
    refine Does.atc first12 [] rfl trivial (by decide) ?_
    repeat (refine need_intro (by first | exact fun h => h | exact nt | exact an2 | exact an3 | rfl | (simp; done) | fail) ?_)
    refine (proper_spec c _).mono ?_
    rintro _ _ ⟨rfl, rfl⟩
    generalize devOf s l c3 c4 c5 = d
    have hpe := proper_even c
    generalize c.proper = p at hpe ⊢
    repeat (refine need_intro (by first | exact fun h => h | exact nt | exact an2 | exact an3 | rfl | (simp; done) | fail) ?_)
    refine Does.args (b := [.agg (p.set 5 t).segs, .s (.ptr 5 0), .agg jal1.segs]) ⟨?_, eqvE_refl _, eqvE_refl _, trivial⟩ ?_
    · show eqvS _ _
      repeat' (first | exact eqvS_nil | refine eqvS_same ?_ | refine eqvS_ints (fun j _ => ?_) ?_)
      show (if j = 5 then (t.toNat : Int) else wfun p.x j) = wfun (fun j => if j = 5 then t else p.x j) j
      simp only [wfun]
      split <;> rfl
    refine Does.atc (do_jalr (p.set 5 t) d jal1 rfl rfl) [5, 6, 7, 8] rfl ⟨rfl, rfl, rfl, rfl, trivial⟩ (by decide) ?_
    obtain ⟨hA1, hA2, hA3, hA4⟩ := jal1_facts (p.set 5 t) hpe d _ rfl
    have hD : (begunX (p.set 5 t).proper d jal1).jalr.d.trap.is = false := rfl
    generalize (begunX (p.set 5 t).proper d jal1).jalr.after = A at hA1 hA2 hA3 hA4 ⊢
    generalize (begunX (p.set 5 t).proper d jal1).jalr.d = D at hD ⊢
    have hA1 : A.pc = t &&& ~~~1#64 := hA1
    have hA2 : A.x 1 = p.pc + 4#64 := hA2
    have a4 : ∀ v : B64, IntKind.u64.wrap ((v.toNat : Int) + 4) = ((v + 4#64).toNat : Int) := fun v => add64 v 4#64
    have a64 : ∀ v : B64, IntKind.u64.wrap ((v.toNat : Int) + 64) = ((v + 64#64).toNat : Int) := fun v => add64 v 64#64
    have an1 : ∀ v : B64, bitX .andNot .u64 (v.toNat : Int) 1 = ((v &&& ~~~1#64).toNat : Int) := fun v => by rw [andNot_u64, ofInt_toNat]; rfl
    have e1 : (bif bif D.trap.is then true else (A.pc.toNat : Int) != bitX .andNot .u64 (t.toNat : Int) 1 then true else wfun A.x (Int.toNat 1) != IntKind.u64.wrap ((p.pc.toNat : Int) + 4)) = false := by
      rw [hD, hA1, an1, a4]
      show (bif (((t &&& ~~~1#64).toNat : Int) != ((t &&& ~~~1#64).toNat : Int)) then true else (((A.x 1).toNat : Int) != ((p.pc + 4#64).toNat : Int))) = false
      rw [hA2]
      simp
    repeat (refine need_intro (by first | exact fun h => h | exact nt | exact an2 | exact an3 | rfl | (simp; done) | fail) ?_)
    refine ifB_intro (fun g => absurd (g.symm.trans e1) (by decide)) (fun _ => ?_)
    repeat (refine need_intro (by first | exact fun h => h | exact nt | exact an2 | exact an3 | rfl | (simp; done) | fail) ?_)
    refine Does.atc (do_jalr A d jal2 rfl rfl) [5, 6, 7, 8] rfl ⟨rfl, rfl, rfl, rfl, trivial⟩ (by decide) ?_
    obtain ⟨hB1, hB2, hB3⟩ := jal2_facts A d _ rfl (by rw [hA2, BitVec.toNat_add]; show (p.pc.toNat + 4) % 2 ^ 64 % 2 = 0; omega) hA3
    have hE : (begunX A.proper d jal2).jalr.d.trap.is = false := rfl
    generalize (begunX A.proper d jal2).jalr.after = B at hB1 hB2 hB3 ⊢
    generalize (begunX A.proper d jal2).jalr.d = E at hE ⊢
    repeat (refine need_intro (by first | exact fun h => h | exact nt | exact an2 | exact an3 | rfl | (simp; done) | fail) ?_)
    have e2 : (bif bif E.trap.is then true else (B.pc.toNat : Int) != IntKind.u64.wrap ((p.pc.toNat : Int) + 4) then true else !(((List.range 32).all fun j => wfun B.x j == wfun A.x j) && true)) = false := by
      rw [hE, hB1, hA2, a4]
      have : ((List.range 32).all fun j => wfun B.x j == wfun A.x j) = true := by
        rw [List.all_eq_true]
        intro j _
        rw [beq_iff_eq]
        simp only [wfun, hB2]
      rw [this]
      simp
    refine ifB_intro (fun g => absurd (g.symm.trans e2) (by decide)) (fun _ => ?_)
    repeat (refine need_intro (by first | exact fun h => h | exact nt | exact an2 | exact an3 | rfl | (simp; done) | fail) ?_)
    refine ifB_intro (fun g => ?_) (fun g => ?_)
    · repeat (refine need_intro (by first | exact fun h => h | exact nt | exact an2 | exact an3 | rfl | (simp; done) | fail) ?_)
      exact Ends.ro (H := l.blks s) rfl (eqvE_refl _) rfl
    have hop : 5 ≤ op ∧ op ≤ 10 := by
      have g : (bif decide (op < 5) then true else decide (op > 10)) = false := g
      rw [cond_or] at g
      simp at g
      omega
    repeat (refine need_intro (by first | (decide) | exact fun h => h | exact nt | exact an2 | exact an3 | rfl | (simp; done) | fail) ?_)
    have hx67 : ∀ j, (if j = Int.toNat 7 then (z.toNat : Int) else if j = Int.toNat 6 then (a.toNat : Int) else wfun B.x j) = wfun ((B.set 6 a).set 7 z).x j := fun j => by
      show (if j = 7 then (z.toNat : Int) else if j = 6 then (a.toNat : Int) else wfun B.x j) = wfun (fun j => if j = 7 then z else if j = 6 then a else B.x j) j
      simp only [wfun]
      split
      · rfl
      · split <;> rfl
    have hok : ∀ o : Int, 5 ≤ o ∧ o ≤ 10 → (brI o).ok = true := fun o h => by unfold InV.ok brI; simp; omega
    have hne : (((B.pc + 64#64).toNat : Int) == ((B.pc + 4#64).toNat : Int)) = false ∧ (((B.pc + 4#64).toNat : Int) == ((B.pc + 64#64).toNat : Int)) = false := by
      have h : (B.pc + 64#64).toNat ≠ (B.pc + 4#64).toNat := by
        rw [BitVec.toNat_add, BitVec.toNat_add]
        have := B.pc.isLt
        show (B.pc.toNat + 64) % 2 ^ 64 ≠ (B.pc.toNat + 4) % 2 ^ 64
        omega
      exact ⟨beq_false_of_ne (by omega), beq_false_of_ne (by omega)⟩
    have hmod : (IntKind.i64.wrap (op - 5)).tmod 2 = (op - 5) % 2 := by
      rw [i64_in (by omega) (by omega), Int.tmod_eq_emod_of_nonneg (by omega)]
    refine ifB_intro (fun g => ?_) (fun g => ?_)
    · have g : (op - 5) % 2 = 0 := by have := beq_iff_eq.1 g; rw [hmod] at this; exact this
      obtain ⟨op', hw, hop', hop2⟩ : ∃ op', IntKind.i64.wrap (op + 1) = op' ∧ (op' = if (op - 5) % 2 = 0 then op + 1 else op - 1) ∧ (5 ≤ op' ∧ op' ≤ 10) := ⟨op + 1, i64_in (by omega) (by omega), by rw [if_pos g], by omega⟩
      repeat (refine need_intro (by first | exact fun h => h | exact nt | exact an2 | exact an3 | rfl | (simp; done) | fail) ?_)
      refine Does.args (b := [.agg ((B.set 6 a).set 7 z).segs, .s (.ptr 5 0), .agg (brI op).segs]) ⟨by show eqvS _ _; repeat' (first | exact eqvS_nil | refine eqvS_same ?_ | refine eqvS_ints (fun j _ => hx67 j) ?_), eqvE_refl _, eqvE_refl _, trivial⟩ ?_
      refine Does.atc (do_branch ((B.set 6 a).set 7 z) d (brI op) (hok op hop) hop) [5, 6, 7, 8] rfl ⟨rfl, rfl, rfl, rfl, trivial⟩ (by decide) ?_
      have hU := br_facts ((B.set 6 a).set 7 z) d op _ rfl hB3
      rw [br_done]
      generalize (begunX ((B.set 6 a).set 7 z).proper d (brI op)).branch.after = U at hU ⊢
      have hU : U.pc = B.pc + (if takenB op a z = true then 64#64 else 4#64) := hU
      repeat (refine need_intro (by first | exact fun h => h | exact nt | exact an2 | exact an3 | rfl | (simp; done) | fail) ?_)
      refine Does.args (b := [.agg ((B.set 6 a).set 7 z).segs, .s (.ptr 5 0), .agg (brI op').segs]) ⟨by show eqvS _ _; repeat' (first | exact eqvS_nil | refine eqvS_same ?_ | refine eqvS_ints (fun j _ => hx67 j) ?_), eqvE_refl _, ⟨⟨rfl, hw⟩, eqvS_refl _⟩, trivial⟩ ?_
      refine Does.atc (do_branch ((B.set 6 a).set 7 z) d (brI op') (hok op' hop2) hop2) [5, 6, 7, 8] rfl ⟨rfl, rfl, rfl, rfl, trivial⟩ (by decide) ?_
      have hV := br_facts ((B.set 6 a).set 7 z) d op' _ rfl hB3
      rw [br_done]
      generalize (begunX ((B.set 6 a).set 7 z).proper d (brI op')).branch.after = V at hV ⊢
      have hV : V.pc = B.pc + (if takenB op' a z = true then 64#64 else 4#64) := hV
      rw [taken_not hop op' hop'] at hV
      repeat (refine need_intro (by first | exact fun h => h | exact nt | exact an2 | exact an3 | rfl | (simp; done) | fail) ?_)
      refine Ends.ro (H := l.blks s) rfl ?_ rfl
      show ((bif (U.pc.toNat : Int) == IntKind.u64.wrap ((B.pc.toNat : Int) + 64) then (V.pc.toNat : Int) == IntKind.u64.wrap ((B.pc.toNat : Int) + 4) else false) != (bif (U.pc.toNat : Int) == IntKind.u64.wrap ((B.pc.toNat : Int) + 4) then (V.pc.toNat : Int) == IntKind.u64.wrap ((B.pc.toNat : Int) + 64) else false)) = true
      rw [a4, a64, hU, hV]
      cases takenB op a z
      · show ((bif ((B.pc + 4#64).toNat : Int) == ((B.pc + 64#64).toNat : Int) then ((B.pc + 64#64).toNat : Int) == ((B.pc + 4#64).toNat : Int) else false) != (bif ((B.pc + 4#64).toNat : Int) == ((B.pc + 4#64).toNat : Int) then ((B.pc + 64#64).toNat : Int) == ((B.pc + 64#64).toNat : Int) else false)) = true
        rw [hne.2, beq_self_eq_true, beq_self_eq_true]; rfl
      · show ((bif ((B.pc + 64#64).toNat : Int) == ((B.pc + 64#64).toNat : Int) then ((B.pc + 4#64).toNat : Int) == ((B.pc + 4#64).toNat : Int) else false) != (bif ((B.pc + 64#64).toNat : Int) == ((B.pc + 4#64).toNat : Int) then ((B.pc + 4#64).toNat : Int) == ((B.pc + 64#64).toNat : Int) else false)) = true
        rw [hne.1, beq_self_eq_true, beq_self_eq_true]; rfl
    · have g : ¬ (op - 5) % 2 = 0 := by
        have g : ((IntKind.i64.wrap (op - 5)).tmod 2 == 0) = false := g
        rw [hmod, beq_eq_false_iff_ne] at g; exact g
      obtain ⟨op', hw, hop', hop2⟩ : ∃ op', IntKind.i64.wrap (op - 1) = op' ∧ (op' = if (op - 5) % 2 = 0 then op + 1 else op - 1) ∧ (5 ≤ op' ∧ op' ≤ 10) := ⟨op - 1, i64_in (by omega) (by omega), by rw [if_neg g], by omega⟩
      repeat (refine need_intro (by first | exact fun h => h | exact nt | exact an2 | exact an3 | rfl | (simp; done) | fail) ?_)
      refine Does.args (b := [.agg ((B.set 6 a).set 7 z).segs, .s (.ptr 5 0), .agg (brI op).segs]) ⟨by show eqvS _ _; repeat' (first | exact eqvS_nil | refine eqvS_same ?_ | refine eqvS_ints (fun j _ => hx67 j) ?_), eqvE_refl _, eqvE_refl _, trivial⟩ ?_
      refine Does.atc (do_branch ((B.set 6 a).set 7 z) d (brI op) (hok op hop) hop) [5, 6, 7, 8] rfl ⟨rfl, rfl, rfl, rfl, trivial⟩ (by decide) ?_
      have hU := br_facts ((B.set 6 a).set 7 z) d op _ rfl hB3
      rw [br_done]
      generalize (begunX ((B.set 6 a).set 7 z).proper d (brI op)).branch.after = U at hU ⊢
      have hU : U.pc = B.pc + (if takenB op a z = true then 64#64 else 4#64) := hU
      repeat (refine need_intro (by first | exact fun h => h | exact nt | exact an2 | exact an3 | rfl | (simp; done) | fail) ?_)
      refine Does.args (b := [.agg ((B.set 6 a).set 7 z).segs, .s (.ptr 5 0), .agg (brI op').segs]) ⟨by show eqvS _ _; repeat' (first | exact eqvS_nil | refine eqvS_same ?_ | refine eqvS_ints (fun j _ => hx67 j) ?_), eqvE_refl _, ⟨⟨rfl, hw⟩, eqvS_refl _⟩, trivial⟩ ?_
      refine Does.atc (do_branch ((B.set 6 a).set 7 z) d (brI op') (hok op' hop2) hop2) [5, 6, 7, 8] rfl ⟨rfl, rfl, rfl, rfl, trivial⟩ (by decide) ?_
      have hV := br_facts ((B.set 6 a).set 7 z) d op' _ rfl hB3
      rw [br_done]
      generalize (begunX ((B.set 6 a).set 7 z).proper d (brI op')).branch.after = V at hV ⊢
      have hV : V.pc = B.pc + (if takenB op' a z = true then 64#64 else 4#64) := hV
      rw [taken_not hop op' hop'] at hV
      repeat (refine need_intro (by first | exact fun h => h | exact nt | exact an2 | exact an3 | rfl | (simp; done) | fail) ?_)
      refine Ends.ro (H := l.blks s) rfl ?_ rfl
      show ((bif (U.pc.toNat : Int) == IntKind.u64.wrap ((B.pc.toNat : Int) + 64) then (V.pc.toNat : Int) == IntKind.u64.wrap ((B.pc.toNat : Int) + 4) else false) != (bif (U.pc.toNat : Int) == IntKind.u64.wrap ((B.pc.toNat : Int) + 4) then (V.pc.toNat : Int) == IntKind.u64.wrap ((B.pc.toNat : Int) + 64) else false)) = true
      rw [a4, a64, hU, hV]
      cases takenB op a z
      · show ((bif ((B.pc + 4#64).toNat : Int) == ((B.pc + 64#64).toNat : Int) then ((B.pc + 64#64).toNat : Int) == ((B.pc + 4#64).toNat : Int) else false) != (bif ((B.pc + 4#64).toNat : Int) == ((B.pc + 4#64).toNat : Int) then ((B.pc + 64#64).toNat : Int) == ((B.pc + 64#64).toNat : Int) else false)) = true
        rw [hne.2, beq_self_eq_true, beq_self_eq_true]; rfl
      · show ((bif ((B.pc + 64#64).toNat : Int) == ((B.pc + 64#64).toNat : Int) then ((B.pc + 4#64).toNat : Int) == ((B.pc + 4#64).toNat : Int) else false) != (bif ((B.pc + 64#64).toNat : Int) == ((B.pc + 4#64).toNat : Int) then ((B.pc + 4#64).toNat : Int) == ((B.pc + 64#64).toNat : Int) else false)) = true
        rw [hne.1, beq_self_eq_true, beq_self_eq_true]; rfl
end Go.Proofs.YtdlpmbghocabbaaGreatDoor
