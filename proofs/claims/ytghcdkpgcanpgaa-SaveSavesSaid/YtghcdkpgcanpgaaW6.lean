/- Save: the program's and the document's, of every whole. Contracts of functions. No condition. -/
import Derived.Test.YtghcdkpgcanpgaaW5
import Derived.Test.YtghcdkpgcanpgaaC1
namespace Go.Anv
open Go
def magic : List B8 := [0x41#8, 0x4e#8, 0x56#8, 0x49#8, 0x4c#8, 0x53#8, 0x01#8, 0x5a#8]
/-- The ram's bytes behind others; the sum's. -/
def ramOn (n : Nat) (p : Nat → B8) (L : List B8) : List B8 := L ++ le (BitVec.ofNat 64 n) 4 ++ Go.Proofs.Ytghcdkpgcanpgaa.pagesN p n ((n + 255) / 256) ++ le 65535#64 2
def sumOn (L : List B8) : List B8 := L ++ le ((~~~ crcN (fun j => L.getD j 0#8) L.length).setWidth 64) 4
/-- The snapshot of a whole. -/
def snap (cp : CpuV) (s : BusV) (ram inp out : Nat → B8) : List B8 := sumOn (ramOn s.nr ram (devOn s inp out (cpuOn cp.proper magic)))
end Go.Anv
namespace Go.Proofs.Ytghcdkpgcanpgaa
open Go Go.Anv
set_option maxRecDepth 100000 in
theorem bytes_nil (m : Bool) (P : List B8) (k o cp sp : Nat) (f : Nat → Int) (hf : ∀ j, j < P.length → f (o + j) = bf P j) (hk : o + P.length ≤ k) (hP : P.length ≤ 70368744177664) :
    Does TB 39 [.s (.ptr 0 0), .s (.gs 1 o P.length cp)] [.cells true [.one .nilslice] 0, .cells m [.ints .u8 k f] sp]
      (fun r h' => ∃ c', P.length ≤ c' ∧ r = .tuple [] ∧ h' = [wb 2 P c', .cells m [.ints .u8 k f] sp, lb P c']) := by
  refine fnX_does TB Try.func39 rfl (by decide) (fun O on hO => ?_)
  refine need_intro ⟨by show (0 : Int) ≤ ((P.length : Nat) : Int); omega, room5 _ (by show P.length ≤ _; omega)⟩ ?_
  intro c1 hc1
  have hc1 : P.length ≤ c1 := hc1
  refine need_intro ⟨by omega, by show (0 : Int) ≤ ((P.length : Nat) : Int); omega, by show ((P.length : Nat) : Int) ≤ (c1 : Int); omega⟩ ?_
  have hsk : skip c1 0 0 1 = 0 := by
    unfold skip
    split <;> rfl
  refine need_intro ⟨hk, by show skip c1 0 0 1 + (P.length - 0) ≤ P.length; omega⟩ ?_
  refine ⟨_, _, [0, 1, 2], ⟨c1, hc1, rfl, rfl⟩, by decide, ⟨rfl, rfl, trivial⟩, trivial, ?_⟩
  refine ⟨⟨_, rfl, eqvB_refl _⟩, ⟨_, rfl, eqvB_refl _⟩, ⟨_, rfl, ⟨rfl, ?_, ⟨⟨rfl, rfl, ?_⟩, eqvS_nil⟩⟩⟩, trivial⟩
  · show (c1 - P.length) * 1 = c1 - P.length
    omega
  · intro j hj
    have hj : j < P.length := hj
    show putF (skip c1 0 0 1) (min P.length (P.length - 0)) (shf o f) (fun _ => 0) j = bf P j
    rw [hsk, Nat.sub_zero, Nat.min_self]
    unfold putF
    rw [if_pos (by omega)]
    show f (o + (j - 0)) = _
    rw [Nat.sub_zero]
    exact hf j hj
set_option maxRecDepth 100000 in
theorem head_spec : Does TB 44 [] [] (fun v h' => v = .s (.gs 0 0 8 8) ∧ h' = [lb magic 8]) := by
  refine fnX_does TB Try.func44 rfl (by decide) (fun O on hO => ?_)
  refine ⟨_, _, [0], ⟨rfl, rfl⟩, by decide, trivial, ⟨rfl, rfl, rfl, rfl⟩, ⟨_, rfl, ⟨rfl, rfl, ⟨⟨rfl, rfl, ?_⟩, trivial⟩⟩⟩, trivial⟩
  intro j hj
  show litF [65, 78, 86, 73, 76, 83, 1, 90] j = bf magic j
  have hj : j < 8 := hj
  match j, hj with
  | 0, _ => rfl
  | 1, _ => rfl
  | 2, _ => rfl
  | 3, _ => rfl
  | 4, _ => rfl
  | 5, _ => rfl
  | 6, _ => rfl
  | 7, _ => rfl
theorem ramOn_len (n : Nat) (p : Nat → B8) (L : List B8) : (ramOn n p L).length ≤ L.length + 4 + 258 * ((n + 255) / 256) + 2 := by
  have := pagesN_len p n ((n + 255) / 256)
  simp only [ramOn, List.length_append, le_len]
  omega
/-- What Save makes of a whole: in the tuple of a call that is handed the three lists. -/
def Saved (cp : CpuV) (s : BusV) (l : Lists) (code : Int) (v : EV) (h' : List Blk) : Prop :=
  match s.can with
  | false => v = .tuple [.s .nilslice, .s (.int .i64 162)] ∧ h' = l.blks s
  | true => ∃ c', (snap cp s l.ram l.inp l.out).length ≤ c' ∧ (snap cp s l.ram l.inp l.out).length ≤ 1048576 ∧ v = .tuple [.s (.gs 3 0 (snap cp s l.ram l.inp l.out).length c'), .s (.int .i64 code)] ∧ h' = l.blks s ++ [lb (snap cp s l.ram l.inp l.out) c']
theorem can_bounds {s : BusV} (h : s.can = true) : s.nr ≤ 65536 ∧ s.ni ≤ 64 ∧ s.no ≤ 4096 := by
  simp only [BusV.can, decide_eq_true_eq] at h
  omega
set_option maxRecDepth 100000 in
set_option maxHeartbeats 4000000 in
theorem save_spec (cp : CpuV) (s : BusV) (l : Lists) (cr ci co : Nat) (hni : s.ni < 2 ^ 62) (hno : s.no < 2 ^ 62) (hnr : s.nr < 2 ^ 62) (hcr : s.nr ≤ cr) :
    Does TB 17 [.agg (wsegs cp s (.gs 0 0 s.nr cr) (.gs 1 0 s.ni ci) (.gs 2 0 s.no co))] (l.blks s) (Saved cp s l 0) := by
  refine fnX_does TB Try.func17 rfl (by decide) (fun O on hO => ?_)
  have hck := check_spec cp s l cr ci co hni hno hnr
  unfold Saved
  cases hc : s.can with
  | false =>
    rw [hc] at hck
    refine Does.at hck [0, 1, 2] rfl ⟨rfl, rfl, rfl, trivial⟩ (by decide) ?_ ?_
    · rintro v h' ⟨_, rfl⟩
      exact ⟨.inr (.inr rfl), .inr (.inr rfl), .inr (.inr rfl), trivial⟩
    · rintro v h' ⟨rfl, rfl⟩
      exact ⟨_, _, [0, 1, 2], ⟨rfl, rfl⟩, by decide, ⟨rfl, rfl, rfl, trivial⟩, eqvE_refl _, ⟨⟨_, rfl, eqvB_refl _⟩, ⟨_, rfl, eqvB_refl _⟩, ⟨_, rfl, eqvB_refl _⟩, trivial⟩⟩
  | true =>
    rw [hc] at hck
    obtain ⟨br, bi, bo⟩ := can_bounds hc
    refine Does.at hck [0, 1, 2] rfl ⟨rfl, rfl, rfl, trivial⟩ (by decide) ?_ ?_
    · rintro v h' ⟨_, rfl⟩
      exact ⟨.inr (.inr rfl), .inr (.inr rfl), .inr (.inr rfl), trivial⟩
    · rintro v h' ⟨rfl, rfl⟩
      refine (proper_spec cp _).mono ?_
      rintro v h' ⟨rfl, rfl⟩
      refine need_intro rfl ?_
      refine need_intro (by decide) ?_
      refine Does.args (b := [.s (.ptr 4 0), .s (.gs 5 0 8 8)]) ⟨eqvE_refl _, ⟨rfl, rfl, rfl, rfl⟩, trivial⟩ ?_
      refine Does.at (bytes_nil true magic 8 0 8 0 (litF [65, 78, 86, 73, 76, 83, 1, 90]) ?_ (by decide) (by decide)) [4, 5] rfl ⟨rfl, rfl, trivial⟩ (by decide) ?_ ?_
      · intro j hj
        have hj : j < 8 := hj
        match j, hj with
        | 0, _ => rfl
        | 1, _ => rfl
        | 2, _ => rfl
        | 3, _ => rfl
        | 4, _ => rfl
        | 5, _ => rfl
        | 6, _ => rfl
        | 7, _ => rfl
      · rintro v h' ⟨c', _, _, rfl⟩
        exact ⟨.inl rfl, .inr (.inr rfl), .inl rfl, trivial⟩
      · rintro v h' ⟨c1, k1, rfl, rfl⟩
        refine Does.at (both_spec s cp.proper true l.mi l.mo l.mr l.ram l.inp l.out cr ci co 0 l.si l.so l.sr magic c1 (by decide) k1 bi bo) [4, 3, 6, 1, 2, 0] rfl ⟨rfl, rfl, rfl, rfl, rfl, rfl, trivial⟩ (by decide) ?_ ?_
        · rintro v h' ⟨c', _, _, _, rfl⟩
          exact ⟨.inl rfl, .inl rfl, .inr (.inl rfl), .inr (.inr rfl), .inr (.inr rfl), .inr (.inr rfl), .inl rfl, trivial⟩
        · rintro v h' ⟨c2, k2, b2, rfl, rfl⟩
          generalize e2 : devOn s l.inp l.out (cpuOn cp.proper magic) = L2 at k2 b2 ⊢
          refine Does.at (pages_spec L2 c2 l.mr s.nr s.nr cr l.sr (bfun l.ram) l.ram (fun _ _ => rfl) (Nat.le_refl _) hcr (by omega) (by omega) k2) [4, 7, 0] rfl ⟨rfl, rfl, rfl, trivial⟩ (by decide) ?_ ?_
          · rintro v h' ⟨c', _, _, rfl⟩
            exact ⟨.inl rfl, .inr (.inl rfl), .inr (.inr rfl), .inl rfl, trivial⟩
          · rintro v h' ⟨c3, k3, rfl, rfl⟩
            have l3 := ramOn_len s.nr l.ram L2
            have b3 : (ramOn s.nr l.ram L2).length ≤ 1000000 := by omega
            clear l3
            generalize e3 : L2 ++ le (BitVec.ofNat 64 s.nr) 4 ++ pagesN l.ram s.nr ((s.nr + 255) / 256) ++ le 65535#64 2 = L3 at k3 ⊢
            have e3 : ramOn s.nr l.ram L2 = L3 := e3
            rw [e3] at b3
            refine Does.at (sum_spec true L3.length 0 L3.length c3 (c3 - L3.length) (bf L3) (fun j => L3.getD j 0#8) (by omega) (by omega) (fun j _ => by rw [Nat.zero_add]; rfl)) [8] rfl ⟨rfl, trivial⟩ (by decide) ?_ ?_
            · rintro v h' ⟨_, rfl⟩
              exact ⟨.inr (.inr rfl), trivial⟩
            · rintro v h' ⟨rfl, rfl⟩
              refine number_k 4 8 (L := L3) (c := c3) ((~~~ crcN (fun j => L3.getD j 0#8) L3.length).setWidth 64) 4 (wide32 _) (by decide) (by omega) k3 rfl rfl (by decide) ?_
              intro L4 c4 e4 l4 k4
              have ef : L4 = snap cp s l.ram l.inp l.out := by
                rw [e4, ← e3, ← e2]; rfl
              rw [← ef]
              exact ⟨.tuple [.s (.gs 3 0 L4.length c4), .s (.int .i64 0)], l.blks s ++ [lb L4 c4], [0, 1, 2, 9], ⟨c4, k4, by omega, rfl, rfl⟩, by decide, ⟨rfl, rfl, rfl, trivial⟩, eqvE_refl _, ⟨⟨_, rfl, eqvB_refl _⟩, ⟨_, rfl, eqvB_refl _⟩, ⟨_, rfl, eqvB_refl _⟩, ⟨_, rfl, eqvB_refl _⟩, trivial⟩⟩
end Go.Proofs.Ytghcdkpgcanpgaa
