/- The law's own: two buses alike, two wholes alike. Contracts of functions. No condition. -/
import Derived.Test.YtghcdkpgcanpgaaW8
namespace Go.Proofs.Ytghcdkpgcanpgaa
open Go Go.Anv
/-- A block that begins with these bytes. -/
structure BB (n : Nat) (q : Nat → B8) where
  m : Bool
  k : Nat
  f : Nat → Int
  sp : Nat
  le : n ≤ k
  eq : ∀ j, j < n → f j = (q j).toNat
def BB.b {n : Nat} {q : Nat → B8} (x : BB n q) : Blk := .cells x.m [.ints .u8 x.k x.f] x.sp
theorem BB.same {n : Nat} {q : Nat → B8} (x y : BB n q) : ∀ j, j < n → x.f (0 + j) = y.f (0 + j) := fun j hj => by rw [Nat.zero_add, x.eq j hj, y.eq j hj]
theorem BB.le0 {n : Nat} {q : Nat → B8} (x : BB n q) : 0 + n ≤ x.k := by rw [Nat.zero_add]; exact x.le
set_option maxRecDepth 100000 in
set_option maxHeartbeats 4000000 in
theorem buses_spec (s : BusV) (l : Lists) (r1 r2 : BB s.nr l.ram) (i1 i2 : BB s.ni l.inp) (o1 o2 : BB s.no l.out) (cr ci co cr' ci' co' : Nat) :
    Does TB 51 [.agg (s.segs (.gs 0 0 s.nr cr) (.gs 1 0 s.ni ci) (.gs 2 0 s.no co)), .agg (s.segs (.gs 3 0 s.nr cr') (.gs 4 0 s.ni ci') (.gs 5 0 s.no co'))] [r1.b, i1.b, o1.b, r2.b, i2.b, o2.b]
      (fun v h' => v = .s (.bool true) ∧ h' = [r1.b, i1.b, o1.b, r2.b, i2.b, o2.b]) := by
  refine fnX_does TB Try.func51 rfl (by decide) (fun O on hO => ?_)
  refine same_k 0 3 (m1 := r1.m) (m2 := r2.m) rfl rfl rfl (by decide) r1.le0 r2.le0 (r1.same r2) ?_
  repeat (refine need_intro (by first | exact fun h => h | exact fun _ => rfl | simp) ?_)
  refine Does.ungd (b := [.s (.gs 1 0 s.ni ci), .s (.gs 4 0 s.ni ci')]) ⟨⟨rfl, rfl⟩, ⟨rfl, rfl⟩, trivial⟩ ?_
  refine same_k 1 4 (m1 := i1.m) (m2 := i2.m) rfl rfl rfl (by decide) i1.le0 i2.le0 (i1.same i2) ?_
  repeat (refine need_intro (by first | exact fun h => h | exact fun _ => rfl | simp) ?_)
  refine Does.ungd (b := [.s (.gs 2 0 s.no co), .s (.gs 5 0 s.no co')]) ⟨⟨rfl, rfl⟩, ⟨rfl, rfl⟩, trivial⟩ ?_
  refine same_k 2 5 (m1 := o1.m) (m2 := o2.m) rfl rfl rfl (by decide) o1.le0 o2.le0 (o1.same o2) ?_
  repeat (refine need_intro (by first | exact fun h => h | exact fun _ => rfl | simp) ?_)
  refine ifB_intro (fun h => absurd h (by simp)) (fun _ => ?_)
  repeat (refine need_intro (by first | exact fun h => h | exact fun _ => rfl | simp) ?_)
  exact ⟨.s (.bool true), _, [0, 1, 2, 3, 4, 5], ⟨rfl, rfl⟩, by decide, ⟨rfl, rfl, rfl, rfl, rfl, rfl, trivial⟩, (by show (_ : Bool) = true; simp), ⟨⟨_, rfl, eqvB_refl _⟩, ⟨_, rfl, eqvB_refl _⟩, ⟨_, rfl, eqvB_refl _⟩, ⟨_, rfl, eqvB_refl _⟩, ⟨_, rfl, eqvB_refl _⟩, ⟨_, rfl, eqvB_refl _⟩, trivial⟩⟩
set_option maxRecDepth 100000 in
set_option maxHeartbeats 4000000 in
theorem alike_spec (cp : CpuV) (s : BusV) (l : Lists) (r1 r2 : BB s.nr l.ram) (i1 i2 : BB s.ni l.inp) (o1 o2 : BB s.no l.out) (cr ci co cr' ci' co' : Nat) :
    Does TB 21 [.agg (wsegs cp s (.gs 0 0 s.nr cr) (.gs 1 0 s.ni ci) (.gs 2 0 s.no co)), .agg (wsegs cp s (.gs 3 0 s.nr cr') (.gs 4 0 s.ni ci') (.gs 5 0 s.no co'))] [r1.b, i1.b, o1.b, r2.b, i2.b, o2.b]
      (fun v h' => v = .s (.bool true) ∧ h' = [r1.b, i1.b, o1.b, r2.b, i2.b, o2.b]) := by
  refine fnX_does TB Try.func21 rfl (by decide) (fun O on hO => ?_)
  repeat (refine need_intro (by first | exact fun h => h | exact fun _ => rfl | simp) ?_)
  refine ifB_intro (fun _ => ?_) (fun h => absurd h (by simp))
  refine Does.ungd (b := [.agg (s.segs (.gs 0 0 s.nr cr) (.gs 1 0 s.ni ci) (.gs 2 0 s.no co)), .agg (s.segs (.gs 3 0 s.nr cr') (.gs 4 0 s.ni ci') (.gs 5 0 s.no co'))]) ⟨⟨by simp, rfl⟩, ⟨by simp, rfl⟩, trivial⟩ ?_
  refine Does.at (buses_spec s l r1 r2 i1 i2 o1 o2 cr ci co cr' ci' co') [0, 1, 2, 3, 4, 5] rfl ⟨rfl, rfl, rfl, rfl, rfl, rfl, trivial⟩ (by decide) ?_ ?_
  · rintro v h' ⟨_, rfl⟩
    exact ⟨.inr (.inr rfl), .inr (.inr rfl), .inr (.inr rfl), .inr (.inr rfl), .inr (.inr rfl), .inr (.inr rfl), trivial⟩
  · rintro v h' ⟨rfl, rfl⟩
    repeat (refine need_intro (by first | exact fun h => h | exact fun _ => rfl | simp) ?_)
    exact ⟨.s (.bool true), _, [0, 1, 2, 3, 4, 5], ⟨rfl, rfl⟩, by decide, ⟨rfl, rfl, rfl, rfl, rfl, rfl, trivial⟩, (by show (_ : Bool) = true; simp), ⟨⟨_, rfl, eqvB_refl _⟩, ⟨_, rfl, eqvB_refl _⟩, ⟨_, rfl, eqvB_refl _⟩, ⟨_, rfl, eqvB_refl _⟩, ⟨_, rfl, eqvB_refl _⟩, ⟨_, rfl, eqvB_refl _⟩, trivial⟩⟩
end Go.Proofs.Ytghcdkpgcanpgaa
