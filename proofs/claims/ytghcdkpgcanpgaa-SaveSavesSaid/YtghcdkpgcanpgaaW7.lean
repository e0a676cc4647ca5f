/- The document's Save, of every whole. Contract of a function. No condition. -/
import Derived.Test.YtghcdkpgcanpgaaW6
namespace Go.Proofs.Ytghcdkpgcanpgaa
open Go Go.Anv
set_option maxRecDepth 100000 in
set_option maxHeartbeats 4000000 in
theorem rsave_spec (cp : CpuV) (s : BusV) (l : Lists) (cr ci co : Nat) (hni : s.ni < 2 ^ 62) (hno : s.no < 2 ^ 62) (hnr : s.nr < 2 ^ 62) (hcr : s.nr ≤ cr) (hei : ends l.inp s.ni) (heo : ends l.out s.no) :
    Does TB 18 [.agg (wsegs cp s (.gs 0 0 s.nr cr) (.gs 1 0 s.ni ci) (.gs 2 0 s.no co))] (l.blks s) (Saved cp s l 0) := by
  refine fnX_does TB Try.func18 rfl (by decide) (fun O on hO => ?_)
  have hck := rcheck_spec cp s l cr ci co hni hno hnr
  unfold Saved
  cases hc : s.can with
  | false =>
    rw [hc] at hck
    refine Does.at hck [0, 1, 2] rfl ⟨rfl, rfl, rfl, trivial⟩ (by decide) ?_ ?_
    · rintro v h' ⟨_, rfl⟩
      exact ⟨.inr (.inr rfl), .inr (.inr rfl), .inr (.inr rfl), trivial⟩
    · rintro v h' ⟨rfl, rfl⟩
      exact ⟨_, _, [0, 1, 2], ⟨rfl, rfl⟩, by decide, ⟨rfl, rfl, rfl, trivial⟩, eqvE_refl _, ⟨⟨_, rfl, eqvB_refl _⟩, ⟨_, rfl, eqvB_refl _⟩, ⟨_, rfl, eqvB_refl _⟩, trivial⟩⟩
  | true =>
    rw [hc] at hck
    obtain ⟨br, bi, bo⟩ := can_bounds hc
    refine Does.at hck [0, 1, 2] rfl ⟨rfl, rfl, rfl, trivial⟩ (by decide) ?_ ?_
    · rintro v h' ⟨_, rfl⟩
      exact ⟨.inr (.inr rfl), .inr (.inr rfl), .inr (.inr rfl), trivial⟩
    · rintro v h' ⟨rfl, rfl⟩
      refine Does.at head_spec [] rfl trivial (by decide) ?_ ?_
      · rintro v h' ⟨_, rfl⟩
        exact ⟨.inl rfl, trivial⟩
      · rintro v h' ⟨rfl, rfl⟩
        refine (rproper_spec cp _).mono ?_
        rintro v h' ⟨rfl, rfl⟩
        refine need_intro rfl ?_
        refine Does.at (rcpu_spec cp.proper magic 8 (by decide) (by decide)) [4] rfl ⟨rfl, trivial⟩ (by decide) ?_ ?_
        · rintro v h' ⟨c', _, _, _, rfl⟩
          exact ⟨.inr (.inl rfl), .inl rfl, trivial⟩
        · rintro v h' ⟨c1, k1, b1, rfl, rfl⟩
          generalize e1 : cpuOn cp.proper magic = L1 at k1 b1 ⊢
          refine Does.at (rdev_spec s l.mi l.mo l.mr l.ram l.inp l.out cr ci co l.si l.so l.sr L1 c1 (by omega) k1 bi bo hei heo) [6, 1, 2, 0] rfl ⟨rfl, rfl, rfl, rfl, trivial⟩ (by decide) ?_ ?_
          · rintro v h' ⟨c', _, _, _, rfl⟩
            exact ⟨.inr (.inl rfl), .inr (.inr rfl), .inr (.inr rfl), .inr (.inr rfl), .inl rfl, trivial⟩
          · rintro v h' ⟨c2, k2, b2, rfl, rfl⟩
            generalize e2 : devOn s l.inp l.out L1 = L2 at k2 b2 ⊢
            refine Does.at (rram_spec L2 c2 l.mr s.nr s.nr cr l.sr (bfun l.ram) l.ram (fun _ _ => rfl) (Nat.le_refl _) hcr (by omega) (by omega) k2) [7, 0] rfl ⟨rfl, rfl, trivial⟩ (by decide) ?_ ?_
            · rintro v h' ⟨c', _, _, rfl⟩
              exact ⟨.inr (.inl rfl), .inr (.inr rfl), .inl rfl, trivial⟩
            · rintro v h' ⟨c3, k3, rfl, rfl⟩
              have l3 := ramOn_len s.nr l.ram L2
              have b3 : (ramOn s.nr l.ram L2).length ≤ 1000000 := by omega
              clear l3
              generalize e3 : L2 ++ le (BitVec.ofNat 64 s.nr) 4 ++ pagesN l.ram s.nr ((s.nr + 255) / 256) ++ le 65535#64 2 = L3 at k3 ⊢
              have e3 : ramOn s.nr l.ram L2 = L3 := e3
              rw [e3] at b3
              refine Does.at (rSum_spec true L3.length 0 L3.length c3 (c3 - L3.length) (bf L3) (fun j => L3.getD j 0#8) (by omega) (by omega) (fun j _ => by rw [Nat.zero_add]; rfl)) [8] rfl ⟨rfl, trivial⟩ (by decide) ?_ ?_
              · rintro v h' ⟨_, rfl⟩
                exact ⟨.inr (.inr rfl), trivial⟩
              · rintro v h' ⟨rfl, rfl⟩
                refine num_k 8 (L := L3) (c := c3) ((~~~ crcN (fun j => L3.getD j 0#8) L3.length).setWidth 64) 4 (wide32 _) (by decide) (by omega) k3 rfl rfl ?_
                intro L4 c4 e4 l4 k4
                have ef : L4 = snap cp s l.ram l.inp l.out := by
                  rw [e4, ← e3, ← e2, ← e1]; rfl
                rw [← ef]
                exact ⟨.tuple [.s (.gs 3 0 L4.length c4), .s (.int .i64 0)], l.blks s ++ [lb L4 c4], [0, 1, 2, 9], ⟨c4, k4, by omega, rfl, rfl⟩, by decide, ⟨rfl, rfl, rfl, trivial⟩, eqvE_refl _, ⟨⟨_, rfl, eqvB_refl _⟩, ⟨_, rfl, eqvB_refl _⟩, ⟨_, rfl, eqvB_refl _⟩, ⟨_, rfl, eqvB_refl _⟩, trivial⟩⟩
end Go.Proofs.Ytghcdkpgcanpgaa
