/- The bus: states, what may be one, a bus of a state. No condition: contracts of functions. -/
import Derived.Test.YtghcdkpgcanpgaaB1
namespace Go.Anv
open Go
abbrev B64 := BitVec 64
abbrev B32 := BitVec 32
abbrev B8 := BitVec 8
def bfun (q : Nat → B8) (j : Nat) : Int := ((q j).toNat : Int)
def wfun (q : Nat → B64) (j : Nat) : Int := ((q j).toNat : Int)
/-- A block of bytes. -/
def bblk (m : Bool) (n : Nat) (q : Nat → B8) (sp : Nat) : Blk := .cells m [.ints .u8 n (bfun q)] sp

/-- A bus's plain values: the lists' lengths with them. -/
structure BusV where
  nr : Nat
  msip : B32
  cmp : B64
  now : B64
  ext : Bool
  soft : Bool
  ier : B8
  lcr : B8
  mcr : B8
  scratch : B8
  overrun : Bool
  ni : Nat
  no : Nat
  off : Int
  code : Int

/-- The cells of api.Bus; r, i, o: where its lists lie. -/
def BusV.segs (s : BusV) (r i o : SV) : List Seg :=
  [.one r, .one (.int .u32 s.msip.toNat), .one (.int .u64 s.cmp.toNat), .one (.int .u64 s.now.toNat), .one (.bool s.ext), .one (.bool s.soft), .one (.int .u8 s.ier.toNat), .one (.int .u8 s.lcr.toNat), .one (.int .u8 s.mcr.toNat), .one (.int .u8 s.scratch.toNat),
    .one (.bool s.overrun), .one i, .one o, .one (.int .i64 s.off), .one (.int .i64 s.code)]

/-- The cells of bus.Bus. -/
def BusV.dev (s : BusV) (lock : Int) (r i o : SV) : List Seg :=
  [.one r, .one (.int .i64 s.off), .one (.int .i64 s.code), .one (.int .u32 s.msip.toNat), .one (.int .u64 s.cmp.toNat), .one (.int .u64 s.now.toNat), .one (.int .i32 lock), .one (.int .u32 0), .one i, .one o,
    .one (.int .u8 s.ier.toNat), .one (.int .u8 s.lcr.toNat), .one (.int .u8 s.mcr.toNat), .one (.int .u8 s.scratch.toNat), .one (.bool s.overrun), .one (.bool s.ext), .one (.bool s.soft)]

def fitsB (n : Int) : Bool := decide (8 ≤ n) && decide (n ≤ 65536) && decide (n % 8 = 0)
def BusV.can (s : BusV) : Bool :=
  decide ((8 ≤ s.nr ∧ s.nr ≤ 65536 ∧ s.nr % 8 = 0) ∧ s.msip.toNat ≤ 1 ∧ s.ier.toNat ≤ 15 ∧ s.mcr.toNat ≤ 31 ∧ s.ni ≤ 64 ∧ s.no ≤ 4096 ∧ ((s.off = 0 ∨ s.off = 1) ∧ s.code = 0 ∨ s.off = 2 ∧ 0 ≤ s.code ∧ s.code ≤ 65535))

/-- The lists of a bus lie in three blocks. -/
structure Lists where
  mr : Bool
  sr : Nat
  ram : Nat → B8
  mi : Bool
  si : Nat
  inp : Nat → B8
  mo : Bool
  so : Nat
  out : Nat → B8
def Lists.blks (l : Lists) (s : BusV) : List Blk := [bblk l.mr s.nr l.ram l.sr, bblk l.mi s.ni l.inp l.si, bblk l.mo s.no l.out l.so]
end Go.Anv
namespace Go.Proofs.Ytghcdkpgcanpgaa
open Go Go.Anv
theorem fits_spec (n : Int) (h : List Blk) : Does TB 101 [.s (.int .i64 n)] h (fun v h' => v = .s (.bool (fitsB n)) ∧ h' = h) := by
  refine fnX_pure TB Try.func101 rfl (by decide) rfl _ rfl (fun O on => ?_) h
  repeat (refine need_intro (by simp) ?_)
  show (_ : Bool) = _
  unfold fitsB
  by_cases h1 : 8 ≤ n
  · by_cases h2 : n ≤ 65536
    · have : n.tmod 8 = n % 8 := Int.tmod_eq_emod_of_nonneg (by omega)
      simp [h1, h2, this]
      by_cases h3 : n % 8 = 0 <;> simp [h3]
    · simp [h1, h2]
  · simp [h1]
theorem room5 (k : Nat) (h : k ≤ 140737488355328) : room ti5 k := ⟨⟨rfl, by decide⟩, h, by show k * 1 ≤ _; omega⟩
theorem own_spec (m : Bool) (k o n c sp : Nat) (q : Nat → B8) (p : Nat → B8) (hn : o + n ≤ k) (hk : n ≤ 140737488355328) (hp : ∀ j, j < n → q (o + j) = p j) :
    Does TB 74 [.s (.gs 0 o n c)] [bblk m k q sp] (fun v h' => ∃ cap, n ≤ cap ∧ v = .s (.gs 1 0 n cap) ∧ h' = [bblk m k q sp, bblk true n p (cap - n)]) := by
  refine fnX_does TB Try.func74 rfl (by decide) (fun O on hO => ?_)
  refine need_intro ⟨hn, room5 _ hk⟩ ?_
  intro c1 hc1
  refine ⟨_, _, [0, 1], ⟨c1, hc1, rfl, rfl⟩, by decide, ⟨rfl, trivial⟩, eqvE_refl _, ⟨⟨_, rfl, eqvB_refl _⟩, ⟨_, rfl, ⟨rfl, ?_, ⟨⟨rfl, rfl, fun j hj => ?_⟩, trivial⟩⟩⟩, trivial⟩⟩
  · exact Nat.mul_one _
  · show ((q (o + j)).toNat : Int) = ((p j).toNat : Int)
    rw [hp j hj]
theorem can_spec (s : BusV) (l : Lists) (cr ci co : Nat) (hni : s.ni < 2 ^ 62) (hno : s.no < 2 ^ 62) (hnr : s.nr < 2 ^ 62) :
    Does TB 73 [.agg (s.segs (.gs 0 0 s.nr cr) (.gs 1 0 s.ni ci) (.gs 2 0 s.no co))] (l.blks s) (fun v h' => v = .s (.bool s.can) ∧ h' = l.blks s) := by
  refine fnX_does TB Try.func73 rfl (by decide) (fun O on hO => ?_)
  refine (fits_spec _ _).mono ?_
  rintro v h' ⟨rfl, rfl⟩
  repeat (refine need_intro (by simp) ?_)
  have fin : ∀ {x : Bool} {b0 b1 b2 b3 : Blk}, x = s.can → b0 = bblk l.mr s.nr l.ram l.sr → b1 = bblk l.mi s.ni l.inp l.si → b2 = bblk l.mo s.no l.out l.so → Anv.Ends (l.blks s).length (fun v h' => v = .s (.bool s.can) ∧ h' = l.blks s) (.s (.bool x)) [b0, b1, b2, b3] := by
    rintro x b0 b1 b2 b3 rfl rfl rfl rfl
    exact ⟨_, _, [0, 1, 2], ⟨rfl, rfl⟩, by decide, ⟨rfl, rfl, rfl, trivial⟩, eqvE_refl _, ⟨⟨_, rfl, eqvB_refl _⟩, ⟨_, rfl, eqvB_refl _⟩, ⟨_, rfl, eqvB_refl _⟩, trivial⟩⟩
  refine ifB_intro (fun h1 => ?_) (fun h1 => ?_)
  · refine fin ?_ rfl rfl rfl
    simp only [Bool.cond_true_left, Bool.or_eq_true, Bool.not_eq_true', fitsB, Bool.and_eq_false_iff, decide_eq_true_eq, decide_eq_false_iff_not] at h1
    symm
    unfold BusV.can
    rw [decide_eq_false_iff_not]
    omega
  · simp only [Bool.cond_true_left, Bool.or_eq_false_iff, Bool.not_eq_false', fitsB, Bool.and_eq_true, decide_eq_true_eq, decide_eq_false_iff_not] at h1
    have leaf : ∀ {x : Bool}, ((x = true ↔ ((s.off = 0 ∨ s.off = 1) ∧ s.code = 0 ∨ s.off = 2 ∧ 0 ≤ s.code ∧ s.code ≤ 65535))) → x = s.can := by
      intro x hx
      rw [Bool.eq_iff_iff, hx]
      unfold BusV.can
      rw [decide_eq_true_eq]
      constructor
      · intro h; omega
      · intro h; omega
    refine ifB_intro (fun h2 => ?_) (fun h2 => ?_)
    · have h2 : s.off = 0 := by simpa using h2
      refine ifB_intro (fun h3 => ?_) (fun h3 => by simp [h2] at h3)
      refine fin (leaf ?_) rfl rfl rfl
      simp [h2]
    · have h2 : ¬ s.off = 0 := by simpa using h2
      refine ifB_intro (fun h3 => ?_) (fun h3 => ?_)
      · have h3 : s.off = 1 := by simpa using h3
        refine fin (leaf ?_) rfl rfl rfl
        simp [h3]
      · have h3 : ¬ s.off = 1 := by simpa using h3
        refine ifB_intro (fun h4 => ?_) (fun h4 => ?_)
        · have h4 : s.off = 2 := by simpa using h4
          repeat (refine need_intro (by simp) ?_)
          refine fin (leaf ?_) rfl rfl rfl
          simp only [Bool.cond_false_right, Bool.and_eq_true, decide_eq_true_eq]
          omega
        · have h4 : ¬ s.off = 2 := by simpa using h4
          refine fin (leaf ?_) rfl rfl rfl
          simp [h2, h3, h4]
end Go.Proofs.Ytghcdkpgcanpgaa
