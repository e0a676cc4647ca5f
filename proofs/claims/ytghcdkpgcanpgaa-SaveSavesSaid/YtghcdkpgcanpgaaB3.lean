/- The bus: the bus that a state makes. No condition: contracts of functions. -/
import Derived.Test.YtghcdkpgcanpgaaB2
namespace Go.Proofs.Ytghcdkpgcanpgaa
open Go Go.Anv
theorem canBe_spec (s : BusV) (l : Lists) (cr ci co : Nat) (hni : s.ni < 2 ^ 62) (hno : s.no < 2 ^ 62) (hnr : s.nr < 2 ^ 62) :
    Does TB 37 [.agg (s.segs (.gs 0 0 s.nr cr) (.gs 1 0 s.ni ci) (.gs 2 0 s.no co))] (l.blks s) (fun v h' => v = .s (.bool s.can) ∧ h' = l.blks s) := by
  refine fnX_does TB Try.func37 rfl (by decide) (fun O on hO => ?_)
  have hm : (s.nr : Int).tmod 8 = ((s.nr % 8 : Nat) : Int) := rfl
  have fin : ∀ {x : Bool} {b0 b1 b2 b3 : Blk}, x = s.can → b0 = bblk l.mr s.nr l.ram l.sr → b1 = bblk l.mi s.ni l.inp l.si → b2 = bblk l.mo s.no l.out l.so → Anv.Ends (l.blks s).length (fun v h' => v = .s (.bool s.can) ∧ h' = l.blks s) (.s (.bool x)) [b0, b1, b2, b3] := by
    rintro x b0 b1 b2 b3 rfl rfl rfl rfl
    exact ⟨_, _, [0, 1, 2], ⟨rfl, rfl⟩, by decide, ⟨rfl, rfl, rfl, trivial⟩, eqvE_refl _, ⟨⟨_, rfl, eqvB_refl _⟩, ⟨_, rfl, eqvB_refl _⟩, ⟨_, rfl, eqvB_refl _⟩, trivial⟩⟩
  repeat (refine need_intro (by simp) ?_)
  refine ifB_intro (fun h1 => ?_) (fun h1 => ?_)
  · refine fin ?_ rfl rfl rfl
    rw [hm] at h1
    simp only [Bool.cond_true_left, Bool.or_eq_true, decide_eq_true_eq, bne_iff_ne, ne_eq] at h1
    symm
    unfold BusV.can
    rw [decide_eq_false_iff_not]
    omega
  · rw [hm] at h1
    simp only [Bool.cond_true_left, Bool.or_eq_false_iff, decide_eq_false_iff_not, bne_eq_false_iff_eq] at h1
    repeat (refine need_intro (by simp) ?_)
    refine ifB_intro (fun h2 => ?_) (fun h2 => ?_)
    · refine fin ?_ rfl rfl rfl
      simp only [Bool.cond_true_left, Bool.or_eq_true, decide_eq_true_eq] at h2
      symm
      unfold BusV.can
      rw [decide_eq_false_iff_not]
      omega
    · simp only [Bool.cond_true_left, Bool.or_eq_false_iff, decide_eq_false_iff_not] at h2
      have leaf : ∀ {x : Bool}, ((x = true ↔ ((s.off = 0 ∨ s.off = 1) ∧ s.code = 0 ∨ s.off = 2 ∧ 0 ≤ s.code ∧ s.code ≤ 65535))) → x = s.can := by
        intro x hx
        rw [Bool.eq_iff_iff, hx]
        unfold BusV.can
        rw [decide_eq_true_eq]
        constructor
        · intro h; omega
        · intro h; omega
      refine ifB_intro (fun h3 => ?_) (fun h3 => ?_)
      · have h3 : s.off = 2 := by simpa using h3
        repeat (refine need_intro (by simp) ?_)
        refine fin (leaf ?_) rfl rfl rfl
        simp only [Bool.cond_false_right, Bool.and_eq_true, decide_eq_true_eq]
        omega
      · have h3 : ¬ s.off = 2 := by simpa using h3
        refine fin (leaf ?_) rfl rfl rfl
        rw [beq_iff_eq]
        omega
set_option maxRecDepth 100000 in
theorem set_spec (s z : BusV) (l : Lists) (cr ci co c3 sp3 : Nat) (hni : s.ni ≤ 140737488355328) (hno : s.no ≤ 140737488355328) :
    Does TB 75 [.s (.ptr 4 6), .agg (s.segs (.gs 0 0 s.nr cr) (.gs 1 0 s.ni ci) (.gs 2 0 s.no co))] (l.blks s ++ [bblk true s.nr l.ram sp3, .cells true (z.dev 0 (.gs 3 0 s.nr c3) .nilslice .nilslice) 0])
      (fun v h' => ∃ c5 c6, s.ni ≤ c5 ∧ s.no ≤ c6 ∧ v = .tuple [] ∧ h' = l.blks s ++ [bblk true s.nr l.ram sp3,
        .cells true ({ z with ier := s.ier, lcr := s.lcr, mcr := s.mcr, scratch := s.scratch, overrun := s.overrun }.dev 0 (.gs 3 0 s.nr c3) (.gs 5 0 s.ni c5) (.gs 6 0 s.no c6)) 0, bblk true s.ni l.inp (c5 - s.ni), bblk true s.no l.out (c6 - s.no)]) := by
  refine fnXD_does TB Try.func75 rfl (by decide) (fun O on hO => ?_)
  refine (lock_spec (b := 4) (o := 6) rfl rfl rfl).mono ?_
  rintro _ h' ⟨rfl, hh⟩
  have hh : h' = [bblk l.mr s.nr l.ram l.sr, bblk l.mi s.ni l.inp l.si, bblk l.mo s.no l.out l.so, bblk true s.nr l.ram sp3, .cells true (z.dev 1 (.gs 3 0 s.nr c3) .nilslice .nilslice) 0, .cells true (s.segs (.gs 0 0 s.nr cr) (.gs 1 0 s.ni ci) (.gs 2 0 s.no co)) 0] := hh
  subst hh
  refine ⟨⟨_, _, _, rfl⟩, fun O' on' hO' hle => ?_⟩
  refine draw_but [4] on' rfl (fun _ _ h => h) ?_
  refine Does.at (own_spec l.mi s.ni 0 s.ni ci l.si l.inp l.inp (by omega) hni (fun j _ => by rw [Nat.zero_add])) [1] rfl ⟨rfl, trivial⟩ (by decide) ?_ ?_
  · rintro v h' ⟨cap, _, _, rfl⟩
    exact ⟨.inr (.inr rfl), .inl rfl, trivial⟩
  · rintro v h' ⟨c5, hc5, rfl, rfl⟩
    repeat (refine need_intro rfl ?_)
    refine Does.at (own_spec l.mo s.no 0 s.no co l.so l.out l.out (by omega) hno (fun j _ => by rw [Nat.zero_add])) [2] rfl ⟨rfl, trivial⟩ (by decide) ?_ ?_
    · rintro v h' ⟨cap, _, _, rfl⟩
      exact ⟨.inr (.inr rfl), .inl rfl, trivial⟩
    · rintro v h' ⟨c6, hc6, rfl, rfl⟩
      repeat (refine need_intro rfl ?_)
      refine draw_but [4] on' rfl (fun _ _ h => h) ?_
      repeat (refine need_intro rfl ?_)
      refine (unlock_spec (b := 4) (o := 6) rfl rfl rfl).mono ?_
      rintro _ h' ⟨_, hh⟩
      have hh : h' = [bblk l.mr s.nr l.ram l.sr, bblk l.mi s.ni l.inp l.si, bblk l.mo s.no l.out l.so, bblk true s.nr l.ram sp3,
        .cells true ({ z with ier := s.ier, lcr := s.lcr, mcr := s.mcr, scratch := s.scratch, overrun := s.overrun }.dev 0 (.gs 3 0 s.nr c3) (.gs 6 0 s.ni c5) (.gs 7 0 s.no c6)) 0,
        .cells true (s.segs (.gs 0 0 s.nr cr) (.gs 1 0 s.ni ci) (.gs 2 0 s.no co)) 0, bblk true s.ni l.inp (c5 - s.ni), bblk true s.no l.out (c6 - s.no)] := hh
      subst hh
      exact ⟨_, _, [0, 1, 2, 3, 4, 6, 7], ⟨c5, c6, hc5, hc6, rfl, rfl⟩, by decide, ⟨rfl, rfl, rfl, rfl, rfl, trivial⟩, trivial,
        ⟨⟨_, rfl, eqvB_refl _⟩, ⟨_, rfl, eqvB_refl _⟩, ⟨_, rfl, eqvB_refl _⟩, ⟨_, rfl, eqvB_refl _⟩, ⟨_, rfl, eqvB_refl _⟩, ⟨_, rfl, eqvB_refl _⟩, ⟨_, rfl, eqvB_refl _⟩, trivial⟩⟩
/-- A bus of a state: its own lists. -/
def devAt (s : BusV) (b : Nat) (cr ci co : Nat) : Blk := .cells true (s.dev 0 (.gs b 0 s.nr cr) (.gs (b + 2) 0 s.ni ci) (.gs (b + 3) 0 s.no co)) 0
theorem from_no (s : BusV) (l : Lists) (cr ci co : Nat) (hni : s.ni < 2 ^ 62) (hno : s.no < 2 ^ 62) (hnr : s.nr < 2 ^ 62) (hc : s.can = false) :
    Does TB 36 [.agg (s.segs (.gs 0 0 s.nr cr) (.gs 1 0 s.ni ci) (.gs 2 0 s.no co))] (l.blks s) (fun v h' => v = .tuple [.s .nilptr, .s (.int .i64 31)] ∧ h' = l.blks s) := by
  refine fnX_does TB Try.func36 rfl (by decide) (fun O on hO => ?_)
  refine Does.at (can_spec s l cr ci co hni hno hnr) [0, 1, 2] rfl ⟨rfl, rfl, rfl, trivial⟩ (by decide) ?_ ?_
  · rintro v h' ⟨_, rfl⟩
    exact ⟨.inr (.inr rfl), .inr (.inr rfl), .inr (.inr rfl), trivial⟩
  · rintro v h' ⟨rfl, rfl⟩
    rw [hc]
    exact ⟨_, _, [0, 1, 2], ⟨rfl, rfl⟩, by decide, ⟨rfl, rfl, rfl, trivial⟩, eqvE_refl _, ⟨⟨_, rfl, eqvB_refl _⟩, ⟨_, rfl, eqvB_refl _⟩, ⟨_, rfl, eqvB_refl _⟩, trivial⟩⟩
theorem from_yes (s : BusV) (l : Lists) (cr ci co : Nat) (hc : s.can = true) :
    Does TB 36 [.agg (s.segs (.gs 0 0 s.nr cr) (.gs 1 0 s.ni ci) (.gs 2 0 s.no co))] (l.blks s) (fun v h' => ∃ c3 c4 c5, s.nr ≤ c3 ∧ s.ni ≤ c4 ∧ s.no ≤ c5 ∧ v = .tuple [.s (.ptr 3 0), .s (.int .i64 0)] ∧
      h' = l.blks s ++ [.cells true (s.dev 0 (.gs 4 0 s.nr c3) (.gs 5 0 s.ni c4) (.gs 6 0 s.no c5)) 0, bblk true s.nr l.ram (c3 - s.nr), bblk true s.ni l.inp (c4 - s.ni), bblk true s.no l.out (c5 - s.no)]) := by
  have hcan := hc
  unfold BusV.can at hcan
  rw [decide_eq_true_eq] at hcan
  refine fnX_does TB Try.func36 rfl (by decide) (fun O on hO => ?_)
  refine Does.at (can_spec s l cr ci co (by omega) (by omega) (by omega)) [0, 1, 2] rfl ⟨rfl, rfl, rfl, trivial⟩ (by decide) ?_ ?_
  · rintro v h' ⟨_, rfl⟩
    exact ⟨.inr (.inr rfl), .inr (.inr rfl), .inr (.inr rfl), trivial⟩
  · rintro v h' ⟨rfl, rfl⟩
    rw [hc]
    refine Does.at (own_spec l.mr s.nr 0 s.nr cr l.sr l.ram l.ram (by omega) (by omega) (fun j _ => by rw [Nat.zero_add])) [0] rfl ⟨rfl, trivial⟩ (by decide) ?_ ?_
    · rintro v h' ⟨cap, _, _, rfl⟩
      exact ⟨.inr (.inr rfl), .inl rfl, trivial⟩
    · rintro v h' ⟨c3, hc3, rfl, rfl⟩
      refine need_intro rfl ?_
      refine need_intro rfl ?_
      refine draw_but [4] on rfl (fun _ _ h => h) ?_
      refine Does.at (set_spec s { s with ier := 0#8, lcr := 0#8, mcr := 0#8, scratch := 0#8, overrun := false } l cr ci co c3 (c3 - s.nr) (by omega) (by omega)) [0, 1, 2, 5, 4] rfl ⟨rfl, rfl, rfl, rfl, rfl, trivial⟩ (by decide) ?_ ?_
      · rintro v h' ⟨c5, c6, _, _, _, rfl⟩
        exact ⟨.inr (.inr rfl), .inr (.inr rfl), .inr (.inr rfl), .inl rfl, .inl rfl, .inl rfl, .inl rfl, trivial⟩
      · rintro v h' ⟨c5, c6, hc5, hc6, rfl, rfl⟩
        repeat (refine need_intro rfl ?_)
        exact ⟨_, _, [0, 1, 2, 4, 5, 6, 7], ⟨c3, c5, c6, hc3, hc5, hc6, rfl, rfl⟩, by decide, ⟨rfl, rfl, rfl, trivial⟩, eqvE_refl _,
          ⟨⟨_, rfl, eqvB_refl _⟩, ⟨_, rfl, eqvB_refl _⟩, ⟨_, rfl, eqvB_refl _⟩, ⟨_, rfl, eqvB_refl _⟩, ⟨_, rfl, eqvB_refl _⟩, ⟨_, rfl, eqvB_refl _⟩, ⟨_, rfl, eqvB_refl _⟩, trivial⟩⟩
end Go.Proofs.Ytghcdkpgcanpgaa
