/- The law SaveSaves: walked. No condition but the lists' lengths. -/
import Derived.Test.YtghcdkpgcanpgaaW9
namespace Go.Anv
open Go
theorem ints_cut (k : IntKind) (n m : Nat) (f g h : Nat → Int) (hg : ∀ j, j < n → f j = g j) (hh : ∀ j, j < m → f (n + j) = h j) (E : Emb) (l : List Value) : denS E [.ints k (n + m) f] l ↔ denS E ([.ints k n g] ++ [.ints k m h]) l := by
  have e : intsOf k (n + m) f = intsOf k n g ++ intsOf k m h := by
    simp only [intsOf]
    rw [List.range_add, List.map_append, List.map_map]
    congr 1
    · exact List.map_congr_left fun j hj => by rw [hg j (List.mem_range.1 hj)]
    · exact List.map_congr_left fun j hj => by simp only [Function.comp_apply]; rw [hh j (List.mem_range.1 hj)]
  simp only [denS, List.cons_append, List.nil_append, e]
  constructor
  · rintro ⟨l', rfl, rfl⟩
    exact ⟨_, by rw [List.append_assoc], _, rfl, rfl⟩
  · rintro ⟨_, rfl, l', rfl, rfl⟩
    exact ⟨_, by rw [List.append_assoc], rfl⟩
end Go.Anv
namespace Go.Proofs.Ytghcdkpgcanpgaa
open Go Go.Anv
def bbOf (m : Bool) (n : Nat) (q : Nat → B8) (sp : Nat) : BB n q := ⟨m, n, bfun q, sp, Nat.le_refl _, fun _ _ => rfl⟩
def bbMark (n c : Nat) (q : Nat → B8) : BB n q := ⟨true, (marked (lst q n) 64).length, bf (marked (lst q n) 64), c - (marked (lst q n) 64).length, by rw [marked_len, lst_len]; omega,
  fun j hj => by rw [marked_left (lst q n) (by rw [lst_len]; exact hj)]; exact (bf_lst q n j hj).symm⟩
set_option maxRecDepth 100000 in
set_option maxHeartbeats 4000000 in
theorem saveSaves_law (cp : CpuV) (s : BusV) (l : Lists) (cr ci co : Nat) (hnr : s.nr ≤ 140737488351232) (hni : s.ni ≤ 140737488351232) (hno : s.no ≤ 140737488351232) (hcr : s.nr ≤ cr) (hei : ends l.inp s.ni) (heo : ends l.out s.no) (hro : l.mr = false ∧ l.mi = false ∧ l.mo = false) :
    Does TB 6 [.agg (wsegs cp s (.gs 0 0 s.nr cr) (.gs 1 0 s.ni ci) (.gs 2 0 s.no co))] (l.blks s) (fun v h' => v = .s (.bool true) ∧ h' = l.blks s) := by
  refine fnX_does TB Try.func6 rfl (by decide) (fun O on hO => ?_)
  refine Does.at (twin_spec cp s l cr ci co (by omega) (by omega) (by omega)) [0, 1, 2] rfl ⟨rfl, rfl, rfl, trivial⟩ (by decide) ?_ ?_
  · rintro v h' ⟨c3, c4, c5, _, _, _, _, rfl⟩
    exact ⟨.inr (.inr rfl), .inr (.inr rfl), .inr (.inr rfl), .inl rfl, .inl rfl, .inl rfl, trivial⟩
  rintro v h' ⟨c3, c4, c5, k3, k4, k5, rfl, rfl⟩
  refine need_intro rfl ?_
  refine Does.at (loose_spec l.mr s.nr cr l.sr l.ram (by omega)) [0] rfl ⟨rfl, trivial⟩ (by decide) ?_ ?_
  · rintro v h' ⟨c', _, _, rfl⟩
    exact ⟨.inr (.inr rfl), .inl rfl, trivial⟩
  rintro v h' ⟨c6, k6, rfl, rfl⟩
  have hml : (marked (lst l.ram s.nr) 64).length = s.nr + 64 := by rw [marked_len, lst_len]
  rw [hml] at k6
  refine need_intro ⟨by omega, by show (0 : Int) ≤ (s.nr : Int); omega, by show (s.nr : Int) ≤ (c6 : Int); omega⟩ ?_
  have hsk : skip c6 0 0 1 = 0 := by unfold skip; split <;> rfl
  refine Does.args (b := [.agg (wsegs cp s (.gs 8 0 s.nr c6) (.gs 5 0 s.ni c4) (.gs 6 0 s.no c5))]) ⟨?_, trivial⟩ ?_
  · show eqvS _ _
    repeat' (first | exact eqvS_nil | refine eqvS_same ?_ | refine eqvS_gs ⟨rfl, hsk, ?_, rfl⟩ ?_)
    show (s.nr : Int).toNat - 0 = s.nr
    omega
  have hs1 : ∀ E z, denS E [.ints .u8 (marked (lst l.ram s.nr) 64).length (bf (marked (lst l.ram s.nr) 64))] z ↔ denS E ([.ints .u8 s.nr (bfun l.ram)] ++ [.ints .u8 64 (fun j => bf (marked (lst l.ram s.nr) 64) (s.nr + j))]) z := by
    intro E z
    rw [hml]
    exact ints_cut .u8 s.nr 64 _ _ _ (fun j hj => by rw [marked_left (lst l.ram s.nr) (by rw [lst_len]; exact hj)]; exact (bf_lst l.ram s.nr j hj).symm) (fun _ _ => rfl) E z
  have hsv := save_spec cp s { l with mr := true, sr := 0, mi := true, si := c4 - s.ni, mo := true, so := c5 - s.no } c6 c4 c5 (by omega) (by omega) (by omega) (by omega)
  have hrv := rsave_spec cp s l cr ci co (by omega) (by omega) (by omega) hcr hei heo
  unfold Saved at hsv hrv
  have hkl := fun c => kept_spec l.mr s.nr c c6 cr l.sr l.ram (by omega) (by omega)
  cases hc : s.can with
  | false =>
    rw [hc] at hsv hrv
    refine Does.partAt hsv [9, 5, 6] 8 9 [] [.ints .u8 s.nr (bfun l.ram)] [.ints .u8 64 (fun j => bf (marked (lst l.ram s.nr) 64) (s.nr + j))] rfl rfl (fun E z => (hs1 E z).1) ⟨rfl, rfl, rfl, trivial⟩ ⟨?_, trivial⟩ (by decide) ?_ ?_ ?_
    · show partS _ _ _ _ _
      repeat' (first | exact trivial | refine ⟨rfl, ?_⟩ | refine ⟨⟨rfl, rfl, rfl⟩, ?_⟩ | refine ⟨⟨.inl ⟨rfl, rfl⟩, rfl, rfl⟩, ?_⟩ | refine ⟨⟨.inr ⟨rfl, rfl, rfl⟩, rfl, rfl⟩, ?_⟩)
    · rintro v h' ⟨_, rfl⟩
      exact ⟨.inr (.inr rfl), .inr (.inr rfl), .inr (.inr rfl), trivial⟩
    · rintro v h' ⟨_, rfl⟩
      exact Nat.le_refl _
    rintro v h' ⟨rfl, rfl⟩
    refine ⟨_, _, rfl, rfl, fun E z => (hs1 E z).2, ?_⟩
    refine Does.at hrv [0, 1, 2] rfl ⟨rfl, rfl, rfl, trivial⟩ (by decide) ?_ ?_
    · rintro v h' ⟨_, rfl⟩
      exact ⟨.inr (.inr rfl), .inr (.inr rfl), .inr (.inr rfl), trivial⟩
    rintro v h' ⟨rfl, rfl⟩
    refine (num16_spec _ _).mono ?_
    rintro v h' ⟨rfl, rfl⟩
    repeat (refine need_intro (by first | exact fun h => h | exact fun _ => rfl | rfl | simp) ?_)
    refine Does.ungd (b := [_, _]) ⟨⟨rfl, rfl⟩, ⟨rfl, rfl⟩, trivial⟩ ?_
    refine (same_nil _).mono ?_
    rintro v h' ⟨rfl, rfl⟩
    repeat (refine need_intro (by first | exact fun h => h | exact fun _ => rfl | rfl | simp) ?_)
    refine Does.ungd (b := [_, _]) ⟨⟨rfl, rfl⟩, ⟨rfl, rfl⟩, trivial⟩ ?_
    refine Does.at (hkl c6) [8, 0] rfl ⟨rfl, rfl, trivial⟩ (by decide) ?_ ?_
    · rintro v h' ⟨_, rfl⟩
      exact ⟨.inr (.inr rfl), .inr (.inr rfl), trivial⟩
    rintro v h' ⟨rfl, rfl⟩
    repeat (refine need_intro (by first | exact fun h => h | exact fun _ => rfl | rfl | simp) ?_)
    refine Does.ungd (b := [_, _]) ⟨⟨rfl, rfl⟩, ⟨rfl, rfl⟩, trivial⟩ ?_
    refine Does.args (b := [.agg (wsegs cp s (.gs 8 0 s.nr c6) (.gs 5 0 s.ni c4) (.gs 6 0 s.no c5)), .agg (wsegs cp s (.gs 0 0 s.nr cr) (.gs 1 0 s.ni ci) (.gs 2 0 s.no co))]) ⟨?_, eqvE_refl _, trivial⟩ ?_
    · show eqvS _ _
      repeat' (first | exact eqvS_nil | refine eqvS_same ?_ | refine eqvS_gs ⟨rfl, hsk, ?_, rfl⟩ ?_)
      show (s.nr : Int).toNat - 0 = s.nr
      omega
    refine Does.at (alike_spec cp s l (bbMark s.nr c6 l.ram) (bbOf l.mr s.nr l.ram l.sr) (bbOf true s.ni l.inp (c4 - s.ni)) (bbOf l.mi s.ni l.inp l.si) (bbOf true s.no l.out (c5 - s.no)) (bbOf l.mo s.no l.out l.so) c6 c4 c5 cr ci co) [8, 5, 6, 0, 1, 2] rfl ⟨rfl, rfl, rfl, rfl, rfl, rfl, trivial⟩ (by decide) ?_ ?_
    · rintro v h' ⟨_, rfl⟩
      exact ⟨.inr (.inr rfl), .inr (.inr rfl), .inr (.inr rfl), .inr (.inr rfl), .inr (.inr rfl), .inr (.inr rfl), trivial⟩
    rintro v h' ⟨rfl, rfl⟩
    repeat (refine need_intro (by first | exact fun h => h | exact fun _ => rfl | rfl | simp) ?_)
    refine loop_in (A := Nat) on (fun i => [(1, .junk), (3, .junk), (4, .s (.gs 3 0 (s.nr + 64) c6)), (5, .s .nilslice), (7, .s .nilslice), (9, .s (.int .i64 (i : Int))), (10, .junk), (11, .junk), (12, .junk), (13, .junk), (14, .junk), (15, .junk), (16, .junk), (17, .junk), (18, .junk), (19, .junk), (20, .junk), (21, .junk), (22, .junk), (23, .junk), (24, .junk), (25, .junk), (26, .junk), (27, .junk), (28, .junk), (29, .junk), (30, .junk), (31, .junk), (32, .junk), (33, .junk), (34, .junk), (35, .junk), (36, .junk), (37, .junk), (38, .junk), (39, .junk), (40, .junk), (41, .junk), (42, .junk), (43, .junk), (44, .junk), (45, .junk), (46, .junk), (47, .junk), (48, .junk), (49, .junk), (50, .junk), (51, .junk), (52, .junk), (53, .junk), (54, .junk), (55, .junk), (56, .junk), (57, .junk)])
      (fun i => l.blks s ++ [.cells true [.ints .u8 (marked (lst l.ram s.nr) 64).length (fun j => if j < i then 238 else bf (marked (lst l.ram s.nr) 64) j)] (c6 - (marked (lst l.ram s.nr) 64).length)]) (fun i => i ≤ s.nr + 64) (fun i => s.nr + 64 - i) 0 (Nat.zero_le _) [0, 1, 2, 8] ?_ ?_
    · rw [hO]
      refine ⟨by decide, ⟨rfl, rfl, rfl, trivial⟩, ?_, ?_⟩
      · repeat' (first | exact eqvT_nil | refine eqvT_junk ?_ | refine eqvT_same ?_ | refine eqvT_int ?_ ?_ | refine eqvT_gs ⟨rfl, rfl, ?_, rfl⟩ ?_)
      · exact ⟨⟨_, rfl, eqvB_refl _⟩, ⟨_, rfl, eqvB_refl _⟩, ⟨_, rfl, eqvB_refl _⟩, ⟨_, rfl, eqvB_refl _⟩, trivial⟩
    intro i hi
    refine ifB_intro (fun h1 => ?_) (fun h1 => ?_)
    · have hlt : i < s.nr + 64 := by
        have h2 : (i : Int) < ((s.nr + 64 : Nat) : Int) := of_decide_eq_true h1
        omega
      refine need_intro ⟨by omega, by omega⟩ ?_
      refine need_intro (by rw [hml]; omega) ?_
      refine ⟨i + 1, ?_, ?_, [0, 1, 2, 3], ?_⟩
      · show i + 1 ≤ s.nr + 64; omega
      · show s.nr + 64 - (i + 1) < s.nr + 64 - i; omega
      · rw [hO]
        refine ⟨by decide, ⟨rfl, rfl, rfl, trivial⟩, ?_, ⟨_, rfl, eqvB_refl _⟩, ⟨_, rfl, eqvB_refl _⟩, ⟨_, rfl, eqvB_refl _⟩, ⟨_, rfl, ⟨rfl, rfl, ⟨⟨rfl, rfl, ?_⟩, trivial⟩⟩⟩, trivial⟩
        · repeat' (first | exact eqvT_nil | refine eqvT_junk ?_ | refine eqvT_same ?_ | refine eqvT_int ?_ ?_)
          rw [i64_in (by omega) (by omega)]; rfl
        · intro j _
          show (if j = 0 + (i : Int).toNat then (238 : Int) else if j < i then 238 else bf _ j) = if j < i + 1 then 238 else bf _ j
          have hi2 : (i : Int).toNat = i := rfl
          rw [hi2, Nat.zero_add]
          by_cases hj : j < i
          · rw [if_neg (by omega), if_pos hj, if_pos (by omega)]
          · by_cases hj2 : j = i
            · rw [if_pos hj2, if_pos (by omega)]
            · rw [if_neg hj2, if_neg hj, if_neg (by omega)]
    · refine (same_nil _).mono ?_
      rintro v h' ⟨rfl, rfl⟩
      exact ⟨.s (.bool true), l.blks s, [0, 1, 2], ⟨rfl, rfl⟩, by decide, ⟨rfl, rfl, rfl, trivial⟩, eqvE_refl _, ⟨⟨_, rfl, eqvB_refl _⟩, ⟨_, rfl, eqvB_refl _⟩, ⟨_, rfl, eqvB_refl _⟩, trivial⟩⟩
  | true =>
    rw [hc] at hsv hrv
    simp only at hsv hrv
    generalize hZ : snap cp s l.ram l.inp l.out = Z at hsv hrv
    clear hZ
    refine Does.partAt hsv [9, 5, 6] 8 9 [] [.ints .u8 s.nr (bfun l.ram)] [.ints .u8 64 (fun j => bf (marked (lst l.ram s.nr) 64) (s.nr + j))] rfl rfl (fun E z => (hs1 E z).1) ⟨rfl, rfl, rfl, trivial⟩ ⟨?_, trivial⟩ (by decide) ?_ ?_ ?_
    · show partS _ _ _ _ _
      repeat' (first | exact trivial | refine ⟨rfl, ?_⟩ | refine ⟨⟨rfl, rfl, rfl⟩, ?_⟩ | refine ⟨⟨.inl ⟨rfl, rfl⟩, rfl, rfl⟩, ?_⟩ | refine ⟨⟨.inr ⟨rfl, rfl, rfl⟩, rfl, rfl⟩, ?_⟩)
    · rintro v h' ⟨c', _, _, _, rfl⟩
      exact ⟨.inr (.inr rfl), .inr (.inr rfl), .inr (.inr rfl), .inl rfl, trivial⟩
    · rintro v h' ⟨c', _, _, _, rfl⟩
      exact Nat.le_succ _
    rintro v h' ⟨c8, k8, b8, rfl, rfl⟩
    refine ⟨_, _, rfl, rfl, fun E z => (hs1 E z).2, ?_⟩
    refine Does.at hrv [0, 1, 2] rfl ⟨rfl, rfl, rfl, trivial⟩ (by decide) ?_ ?_
    · rintro v h' ⟨c', _, _, _, rfl⟩
      exact ⟨.inr (.inr rfl), .inr (.inr rfl), .inr (.inr rfl), .inl rfl, trivial⟩
    rintro v h' ⟨c9, k9, b9, rfl, rfl⟩
    refine (num16_spec _ _).mono ?_
    rintro v h' ⟨rfl, rfl⟩
    repeat (refine need_intro (by first | exact fun h => h | exact fun _ => rfl | rfl | simp) ?_)
    refine Does.ungd (b := [_, _]) ⟨⟨rfl, rfl⟩, ⟨rfl, rfl⟩, trivial⟩ ?_
    refine same_k 10 11 rfl rfl rfl (by decide) (Nat.le_of_eq (Nat.zero_add _)) (Nat.le_of_eq (Nat.zero_add _)) (fun _ _ => rfl) ?_
    repeat (refine need_intro (by first | exact fun h => h | exact fun _ => rfl | rfl | simp) ?_)
    refine Does.ungd (b := [_, _]) ⟨⟨rfl, rfl⟩, ⟨rfl, rfl⟩, trivial⟩ ?_
    refine Does.at (hkl c6) [8, 0] rfl ⟨rfl, rfl, trivial⟩ (by decide) ?_ ?_
    · rintro v h' ⟨_, rfl⟩
      exact ⟨.inr (.inr rfl), .inr (.inr rfl), trivial⟩
    rintro v h' ⟨rfl, rfl⟩
    repeat (refine need_intro (by first | exact fun h => h | exact fun _ => rfl | rfl | simp) ?_)
    refine Does.ungd (b := [_, _]) ⟨⟨rfl, rfl⟩, ⟨rfl, rfl⟩, trivial⟩ ?_
    refine Does.args (b := [.agg (wsegs cp s (.gs 8 0 s.nr c6) (.gs 5 0 s.ni c4) (.gs 6 0 s.no c5)), .agg (wsegs cp s (.gs 0 0 s.nr cr) (.gs 1 0 s.ni ci) (.gs 2 0 s.no co))]) ⟨?_, eqvE_refl _, trivial⟩ ?_
    · show eqvS _ _
      repeat' (first | exact eqvS_nil | refine eqvS_same ?_ | refine eqvS_gs ⟨rfl, hsk, ?_, rfl⟩ ?_)
      show (s.nr : Int).toNat - 0 = s.nr
      omega
    refine Does.at (alike_spec cp s l (bbMark s.nr c6 l.ram) (bbOf l.mr s.nr l.ram l.sr) (bbOf true s.ni l.inp (c4 - s.ni)) (bbOf l.mi s.ni l.inp l.si) (bbOf true s.no l.out (c5 - s.no)) (bbOf l.mo s.no l.out l.so) c6 c4 c5 cr ci co) [8, 5, 6, 0, 1, 2] rfl ⟨rfl, rfl, rfl, rfl, rfl, rfl, trivial⟩ (by decide) ?_ ?_
    · rintro v h' ⟨_, rfl⟩
      exact ⟨.inr (.inr rfl), .inr (.inr rfl), .inr (.inr rfl), .inr (.inr rfl), .inr (.inr rfl), .inr (.inr rfl), trivial⟩
    rintro v h' ⟨rfl, rfl⟩
    repeat (refine need_intro (by first | exact fun h => h | exact fun _ => rfl | rfl | simp) ?_)
    refine loop_in (A := Nat) on (fun i => [(1, .junk), (3, .junk), (4, .s (.gs 3 0 (s.nr + 64) c6)), (5, .s (.gs 4 0 Z.length c8)), (7, .s (.gs 5 0 Z.length c9)), (9, .s (.int .i64 (i : Int))), (10, .junk), (11, .junk), (12, .junk), (13, .junk), (14, .junk), (15, .junk), (16, .junk), (17, .junk), (18, .junk), (19, .junk), (20, .junk), (21, .junk), (22, .junk), (23, .junk), (24, .junk), (25, .junk), (26, .junk), (27, .junk), (28, .junk), (29, .junk), (30, .junk), (31, .junk), (32, .junk), (33, .junk), (34, .junk), (35, .junk), (36, .junk), (37, .junk), (38, .junk), (39, .junk), (40, .junk), (41, .junk), (42, .junk), (43, .junk), (44, .junk), (45, .junk), (46, .junk), (47, .junk), (48, .junk), (49, .junk), (50, .junk), (51, .junk), (52, .junk), (53, .junk), (54, .junk), (55, .junk), (56, .junk), (57, .junk)])
      (fun i => l.blks s ++ [.cells true [.ints .u8 (marked (lst l.ram s.nr) 64).length (fun j => if j < i then 238 else bf (marked (lst l.ram s.nr) 64) j)] (c6 - (marked (lst l.ram s.nr) 64).length), lb Z c8, lb Z c9]) (fun i => i ≤ s.nr + 64) (fun i => s.nr + 64 - i) 0 (Nat.zero_le _) [0, 1, 2, 8, 10, 11] ?_ ?_
    · rw [hO]
      refine ⟨by decide, ⟨rfl, rfl, rfl, trivial⟩, ?_, ?_⟩
      · repeat' (first | exact eqvT_nil | refine eqvT_junk ?_ | refine eqvT_same ?_ | refine eqvT_int ?_ ?_ | refine eqvT_gs ⟨rfl, rfl, ?_, rfl⟩ ?_)
      · exact ⟨⟨_, rfl, eqvB_refl _⟩, ⟨_, rfl, eqvB_refl _⟩, ⟨_, rfl, eqvB_refl _⟩, ⟨_, rfl, eqvB_refl _⟩, ⟨_, rfl, eqvB_refl _⟩, ⟨_, rfl, eqvB_refl _⟩, trivial⟩
    intro i hi
    refine ifB_intro (fun h1 => ?_) (fun h1 => ?_)
    · have hlt : i < s.nr + 64 := by
        have h2 : (i : Int) < ((s.nr + 64 : Nat) : Int) := of_decide_eq_true h1
        omega
      refine need_intro ⟨by omega, by omega⟩ ?_
      refine need_intro (by rw [hml]; omega) ?_
      refine ⟨i + 1, ?_, ?_, [0, 1, 2, 3, 4, 5], ?_⟩
      · show i + 1 ≤ s.nr + 64; omega
      · show s.nr + 64 - (i + 1) < s.nr + 64 - i; omega
      · rw [hO]
        refine ⟨by decide, ⟨rfl, rfl, rfl, trivial⟩, ?_, ⟨_, rfl, eqvB_refl _⟩, ⟨_, rfl, eqvB_refl _⟩, ⟨_, rfl, eqvB_refl _⟩, ⟨_, rfl, ⟨rfl, rfl, ⟨⟨rfl, rfl, ?_⟩, trivial⟩⟩⟩, ⟨_, rfl, eqvB_refl _⟩, ⟨_, rfl, eqvB_refl _⟩, trivial⟩
        · repeat' (first | exact eqvT_nil | refine eqvT_junk ?_ | refine eqvT_same ?_ | refine eqvT_int ?_ ?_)
          rw [i64_in (by omega) (by omega)]; rfl
        · intro j _
          show (if j = 0 + (i : Int).toNat then (238 : Int) else if j < i then 238 else bf _ j) = if j < i + 1 then 238 else bf _ j
          have hi2 : (i : Int).toNat = i := rfl
          rw [hi2, Nat.zero_add]
          by_cases hj : j < i
          · rw [if_neg (by omega), if_pos hj, if_pos (by omega)]
          · by_cases hj2 : j = i
            · rw [if_pos hj2, if_pos (by omega)]
            · rw [if_neg hj2, if_neg hj, if_neg (by omega)]
    · refine same_k 4 5 rfl rfl rfl (by decide) (Nat.le_of_eq (Nat.zero_add _)) (Nat.le_of_eq (Nat.zero_add _)) (fun _ _ => rfl) ?_
      exact ⟨.s (.bool true), l.blks s, [0, 1, 2], ⟨rfl, rfl⟩, by decide, ⟨rfl, rfl, rfl, trivial⟩, eqvE_refl _, ⟨⟨_, rfl, eqvB_refl _⟩, ⟨_, rfl, eqvB_refl _⟩, ⟨_, rfl, eqvB_refl _⟩, trivial⟩⟩
end Go.Proofs.Ytghcdkpgcanpgaa
