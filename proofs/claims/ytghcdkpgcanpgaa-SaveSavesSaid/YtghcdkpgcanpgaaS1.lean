/- Check of a whole: the program's and the document's. No condition: contracts of functions. -/
import Derived.Test.YtghcdkpgcanpgaaB3
namespace Go.Anv
open Go
/-- A Cpu's plain values. -/
structure CpuV where
  pc : B64
  x : Nat → B64
  mode : Int
  waiting : Bool
  mstatus : B64
  mtvec : B64
  mie : B64
  mcounteren : B64
  mcountinhibit : B64
  menvcfg : B64
  mscratch : B64
  mepc : B64
  mcause : B64
  mtval : B64
  mcycle : B64
  minstret : B64
  cfg : Nat → B8
  addr : Nat → B64
  rvalid : Bool
  raddr : B64
  rsize : Int
def CpuV.segs (c : CpuV) : List Seg :=
  [.one (.int .u64 c.pc.toNat), .ints .u64 32 (wfun c.x), .one (.int .i64 c.mode), .one (.bool c.waiting), .one (.int .u64 c.mstatus.toNat), .one (.int .u64 c.mtvec.toNat), .one (.int .u64 c.mie.toNat), .one (.int .u64 c.mcounteren.toNat),
    .one (.int .u64 c.mcountinhibit.toNat), .one (.int .u64 c.menvcfg.toNat), .one (.int .u64 c.mscratch.toNat), .one (.int .u64 c.mepc.toNat), .one (.int .u64 c.mcause.toNat), .one (.int .u64 c.mtval.toNat), .one (.int .u64 c.mcycle.toNat), .one (.int .u64 c.minstret.toNat),
    .ints .u8 16 (bfun c.cfg), .ints .u64 16 (wfun c.addr), .one (.bool c.rvalid), .one (.int .u64 c.raddr.toNat), .one (.int .i64 c.rsize)]
theorem eqvS_gs {b o n c b' o' n' c' : Nat} {r r' : List Seg} (h1 : b = b' ∧ o = o' ∧ n = n' ∧ c = c') (h : eqvS r r') : eqvS (.one (.gs b o n c) :: r) (.one (.gs b' o' n' c') :: r') := ⟨h1, h⟩
/-- The cells of api.Whole. -/
def wsegs (c : CpuV) (s : BusV) (r i o : SV) : List Seg := c.segs ++ s.segs r i o
end Go.Anv
namespace Go.Proofs.Ytghcdkpgcanpgaa
open Go Go.Anv
theorem check_spec (c : CpuV) (s : BusV) (l : Lists) (cr ci co : Nat) (hni : s.ni < 2 ^ 62) (hno : s.no < 2 ^ 62) (hnr : s.nr < 2 ^ 62) :
    Does TB 13 [.agg (wsegs c s (.gs 0 0 s.nr cr) (.gs 1 0 s.ni ci) (.gs 2 0 s.no co))] (l.blks s) (fun v h' => v = .s (.int .i64 (if s.can then 0 else 162)) ∧ h' = l.blks s) := by
  refine fnX_does TB Try.func13 rfl (by decide) (fun O on hO => ?_)
  cases hc : s.can with
  | false =>
    refine Does.at (from_no s l cr ci co hni hno hnr hc) [0, 1, 2] rfl ⟨rfl, rfl, rfl, trivial⟩ (by decide) ?_ ?_
    · rintro v h' ⟨_, rfl⟩
      exact ⟨.inr (.inr rfl), .inr (.inr rfl), .inr (.inr rfl), trivial⟩
    · rintro v h' ⟨rfl, rfl⟩
      exact ⟨_, _, [0, 1, 2], ⟨rfl, rfl⟩, by decide, ⟨rfl, rfl, rfl, trivial⟩, eqvE_refl _, ⟨⟨_, rfl, eqvB_refl _⟩, ⟨_, rfl, eqvB_refl _⟩, ⟨_, rfl, eqvB_refl _⟩, trivial⟩⟩
  | true =>
    refine Does.at (from_yes s l cr ci co hc) [0, 1, 2] rfl ⟨rfl, rfl, rfl, trivial⟩ (by decide) ?_ ?_
    · rintro v h' ⟨c3, c4, c5, _, _, _, _, rfl⟩
      exact ⟨.inr (.inr rfl), .inr (.inr rfl), .inr (.inr rfl), .inl rfl, .inl rfl, .inl rfl, .inl rfl, trivial⟩
    · rintro v h' ⟨c3, c4, c5, _, _, _, rfl, rfl⟩
      exact ⟨_, _, [0, 1, 2], ⟨rfl, rfl⟩, by decide, ⟨rfl, rfl, rfl, trivial⟩, eqvE_refl _, ⟨⟨_, rfl, eqvB_refl _⟩, ⟨_, rfl, eqvB_refl _⟩, ⟨_, rfl, eqvB_refl _⟩, trivial⟩⟩
theorem rcheck_spec (c : CpuV) (s : BusV) (l : Lists) (cr ci co : Nat) (hni : s.ni < 2 ^ 62) (hno : s.no < 2 ^ 62) (hnr : s.nr < 2 ^ 62) :
    Does TB 15 [.agg (wsegs c s (.gs 0 0 s.nr cr) (.gs 1 0 s.ni ci) (.gs 2 0 s.no co))] (l.blks s) (fun v h' => v = .s (.int .i64 (if s.can then 0 else 162)) ∧ h' = l.blks s) := by
  refine fnX_does TB Try.func15 rfl (by decide) (fun O on hO => ?_)
  refine Does.at (canBe_spec s l cr ci co hni hno hnr) [0, 1, 2] rfl ⟨rfl, rfl, rfl, trivial⟩ (by decide) ?_ ?_
  · rintro v h' ⟨_, rfl⟩
    exact ⟨.inr (.inr rfl), .inr (.inr rfl), .inr (.inr rfl), trivial⟩
  · rintro v h' ⟨rfl, rfl⟩
    cases hc : s.can <;>
      exact ⟨_, _, [0, 1, 2], ⟨rfl, rfl⟩, by decide, ⟨rfl, rfl, rfl, trivial⟩, eqvE_refl _, ⟨⟨_, rfl, eqvB_refl _⟩, ⟨_, rfl, eqvB_refl _⟩, ⟨_, rfl, eqvB_refl _⟩, trivial⟩⟩
theorem num16_spec (e : Int) (h : List Blk) : Does TB 12 [.s (.int .i64 e)] h (fun v h' => v = .s (.int .i64 e) ∧ h' = h) := by
  refine fnX_pure TB Try.func12 rfl (by decide) rfl _ rfl (fun O on => ?_) h
  exact eqvE_refl _
theorem cat_zero {n : Nat} (q : Nat → B8) {f : Nat → Int} : ∀ j, j < 0 + n → catF 0 f (shf 0 (bfun q)) j = bfun q j := by
  intro j _
  unfold catF shf
  rw [if_neg (Nat.not_lt_zero j), Nat.sub_zero, Nat.zero_add]
theorem twin_spec (c : CpuV) (s : BusV) (l : Lists) (cr ci co : Nat) (hnr : s.nr ≤ 140737488355328) (hni : s.ni ≤ 140737488355328) (hno : s.no ≤ 140737488355328) :
    Does TB 14 [.agg (wsegs c s (.gs 0 0 s.nr cr) (.gs 1 0 s.ni ci) (.gs 2 0 s.no co))] (l.blks s) (fun v h' => ∃ c3 c4 c5, s.nr ≤ c3 ∧ s.ni ≤ c4 ∧ s.no ≤ c5 ∧ v = .agg (wsegs c s (.gs 3 0 s.nr c3) (.gs 4 0 s.ni c4) (.gs 5 0 s.no c5)) ∧
      h' = l.blks s ++ [bblk true s.nr l.ram (c3 - s.nr), bblk true s.ni l.inp (c4 - s.ni), bblk true s.no l.out (c5 - s.no)]) := by
  refine fnX_does TB Try.func14 rfl (by decide) (fun O on hO => ?_)
  refine need_intro ⟨by show 0 + s.nr ≤ s.nr; omega, rfl, rfl, room5 _ (by show 0 + s.nr ≤ _; omega)⟩ ?_
  intro c3 hc3
  have hc3 : 0 + s.nr ≤ c3 := hc3
  refine need_intro ⟨by show 0 + s.ni ≤ s.ni; omega, rfl, rfl, room5 _ (by show 0 + s.ni ≤ _; omega)⟩ ?_
  intro c4 hc4
  have hc4 : 0 + s.ni ≤ c4 := hc4
  refine need_intro ⟨by show 0 + s.no ≤ s.no; omega, rfl, rfl, room5 _ (by show 0 + s.no ≤ _; omega)⟩ ?_
  intro c5 hc5
  have hc5 : 0 + s.no ≤ c5 := hc5
  refine need_intro rfl ?_
  have z : ∀ n : Nat, 0 + n = n := Nat.zero_add
  rw [z] at hc3 hc4 hc5
  refine ⟨_, _, [0, 1, 2, 6, 8, 10], ⟨c3, c4, c5, hc3, hc4, hc5, rfl, rfl⟩, by decide, ⟨rfl, rfl, rfl, trivial⟩, ?_, ⟨⟨_, rfl, eqvB_refl _⟩, ⟨_, rfl, eqvB_refl _⟩, ⟨_, rfl, eqvB_refl _⟩, ⟨_, rfl, ⟨rfl, ?_, ⟨⟨rfl, z _, ?_⟩, trivial⟩⟩⟩, ⟨_, rfl, ⟨rfl, ?_, ⟨⟨rfl, z _, ?_⟩, trivial⟩⟩⟩, ⟨_, rfl, ⟨rfl, ?_, ⟨⟨rfl, z _, ?_⟩, trivial⟩⟩⟩, trivial⟩⟩
  · show eqvS _ _
    repeat' (first | exact eqvS_nil | refine eqvS_same ?_ | refine eqvS_gs ⟨rfl, rfl, z _, rfl⟩ ?_)
  · show (c3 - (0 + s.nr)) * 1 = c3 - s.nr
    rw [z, Nat.mul_one]
  · exact cat_zero l.ram
  · show (c4 - (0 + s.ni)) * 1 = c4 - s.ni
    rw [z, Nat.mul_one]
  · exact cat_zero l.inp
  · show (c5 - (0 + s.no)) * 1 = c5 - s.no
    rw [z, Nat.mul_one]
  · exact cat_zero l.out
theorem saveChecks_law (c : CpuV) (s : BusV) (l : Lists) (cr ci co : Nat) (hnr : s.nr ≤ 140737488355328) (hni : s.ni ≤ 140737488355328) (hno : s.no ≤ 140737488355328) :
    Does TB 5 [.agg (wsegs c s (.gs 0 0 s.nr cr) (.gs 1 0 s.ni ci) (.gs 2 0 s.no co))] (l.blks s) (fun v h' => v = .s (.bool true) ∧ h' = l.blks s) := by
  refine fnX_does TB Try.func5 rfl (by decide) (fun O on hO => ?_)
  refine draw_held on rfl (fun _ _ h => h) ?_
  refine Does.at (twin_spec c s l cr ci co hnr hni hno) [0, 1, 2] rfl ⟨rfl, rfl, rfl, trivial⟩ (by decide) ?_ ?_
  · rintro v h' ⟨c3, c4, c5, _, _, _, _, rfl⟩
    exact ⟨.inr (.inr rfl), .inr (.inr rfl), .inr (.inr rfl), .inl rfl, .inl rfl, .inl rfl, trivial⟩
  · rintro v h' ⟨c3, c4, c5, _, _, _, rfl, rfl⟩
    repeat (refine need_intro rfl ?_)
    refine Does.at (check_spec c s { l with mr := true, sr := c3 - s.nr, mi := true, si := c4 - s.ni, mo := true, so := c5 - s.no } c3 c4 c5 (by omega) (by omega) (by omega)) [4, 5, 6] rfl ⟨rfl, rfl, rfl, trivial⟩ (by decide) ?_ ?_
    · rintro v h' ⟨_, rfl⟩
      exact ⟨.inr (.inr rfl), .inr (.inr rfl), .inr (.inr rfl), trivial⟩
    · rintro v h' ⟨rfl, rfl⟩
      repeat (refine need_intro rfl ?_)
      refine (num16_spec _ _).mono ?_
      rintro v h' ⟨rfl, rfl⟩
      repeat (refine need_intro rfl ?_)
      refine Does.at (rcheck_spec c s l cr ci co (by omega) (by omega) (by omega)) [0, 1, 2] rfl ⟨rfl, rfl, rfl, trivial⟩ (by decide) ?_ ?_
      · rintro v h' ⟨_, rfl⟩
        exact ⟨.inr (.inr rfl), .inr (.inr rfl), .inr (.inr rfl), trivial⟩
      · rintro v h' ⟨rfl, rfl⟩
        repeat (refine need_intro rfl ?_)
        exact ⟨_, _, [0, 1, 2], ⟨rfl, rfl⟩, by decide, ⟨rfl, rfl, rfl, trivial⟩, (by show ((_ : Int) == _) = true; simp), ⟨⟨_, rfl, eqvB_refl _⟩, ⟨_, rfl, eqvB_refl _⟩, ⟨_, rfl, eqvB_refl _⟩, trivial⟩⟩
end Go.Proofs.Ytghcdkpgcanpgaa
