/- The engine, part 15: a call that is handed a part of a block: the part is a block of its own meanwhile. Plain theorems; their condition: what the call leaves of the part. -/
import Derived.Test.YtghcdkpgcanpgaaE12
namespace Go.Anv
open Go

/-- A value that points into a part, seen from outside and from inside: the part is k cells behind the begin of block i, and block N. -/
def partV (i N k : Nat) : SV → SV → Prop
  | .ptr b o, .ptr b' o' => (b = b' ∧ o = o') ∨ (b = i ∧ b' = N ∧ o = k + o')
  | .pix b o j, .ptr b' o' => b = i ∧ b' = N ∧ o + j = k + o'
  | .gs b o n c, .gs b' o' n' c' => ((b = b' ∧ o = o') ∨ (b = i ∧ b' = N ∧ o = k + o')) ∧ n = n' ∧ c = c'
  | x, y => x = y

def partS (i N k : Nat) : List Seg → List Seg → Prop
  | [], [] => True
  | .one x :: r, .one y :: r' => partV i N k x y ∧ partS i N k r r'
  | .ints q n f :: r, .ints q' n' f' :: r' => (q = q' ∧ n = n' ∧ f = f') ∧ partS i N k r r'
  | _, _ => False

def partE (i N k : Nat) : EV → EV → Prop
  | .s x, .s y => partV i N k x y
  | .agg x, .agg y => partS i N k x y
  | x, y => x = y

def partT (i N k : Nat) : List EV → List EV → Prop
  | [], [] => True
  | x :: r, y :: r' => partE i N k x y ∧ partT i N k r r'
  | _, _ => False

def partP (E : Emb) (i k : Nat) : Loc := ⟨(E.f i).b, (E.f i).o + k, (E.f i).nl⟩

theorem partV_den {E : Emb} {i k : Nat} {x y : SV} {v : Value} (h : partV i E.n k x y) (hd : denV E x v) : denV (E.push (partP E i k)) y v := by
  have same : x = y → denV (E.push (partP E i k)) y v := fun e => e ▸ denV_mono (Emb.le_push _ _) _ _ hd
  unfold partV at h
  split at h
  · rename_i b o b' o'
    rcases h with ⟨rfl, rfl⟩ | ⟨rfl, rfl, rfl⟩
    · exact same rfl
    · simp only [denV] at hd ⊢
      refine ⟨by simp [Emb.push], ?_⟩
      rw [hd.2]
      simp [Emb.at, Emb.push_new, partP, Nat.add_assoc]
  · rename_i b o j b' o'
    obtain ⟨rfl, rfl, h⟩ := h
    simp only [denV] at hd ⊢
    refine ⟨by simp [Emb.push], ?_⟩
    rw [hd.2]
    simp [Emb.at, Emb.push_new, partP, h, Nat.add_assoc]
  · rename_i b o n c b' o' n' c'
    obtain ⟨h, rfl, rfl⟩ := h
    rcases h with ⟨rfl, rfl⟩ | ⟨rfl, rfl, rfl⟩
    · exact same rfl
    · simp only [denV] at hd ⊢
      refine ⟨by simp [Emb.push], by rw [Emb.push_new]; exact hd.2.1, ?_⟩
      rw [hd.2.2]
      simp [Emb.at, Emb.push_new, partP, Nat.add_assoc]
  · exact same h

theorem partS_den {E : Emb} {i k : Nat} : ∀ {x y : List Seg} {l : List Value}, partS i E.n k x y → denS E x l → denS (E.push (partP E i k)) y l
  | [], [], _, _, hd => hd
  | .one x :: r, .one y :: r', l, h, hd => by
    simp only [denS] at hd ⊢
    obtain ⟨v, l', rfl, h1, h2⟩ := hd
    exact ⟨v, l', rfl, partV_den h.1 h1, partS_den h.2 h2⟩
  | .ints q n f :: r, .ints q' n' f' :: r', l, h, hd => by
    simp only [denS] at hd ⊢
    obtain ⟨l', rfl, h2⟩ := hd
    obtain ⟨⟨rfl, rfl, rfl⟩, h⟩ := h
    exact ⟨l', rfl, partS_den h h2⟩
  | [], _ :: _, _, h, _ => h.elim
  | _ :: _, [], _, h, _ => by simp [partS] at h
  | .one _ :: _, .ints .. :: _, _, h, _ => h.elim
  | .ints .. :: _, .one _ :: _, _, h, _ => h.elim

theorem partE_den {E : Emb} {i k : Nat} {x y : EV} {v : Value} (h : partE i E.n k x y) (hd : denE E x v) : denE (E.push (partP E i k)) y v := by
  have same : x = y → denE (E.push (partP E i k)) y v := fun e => e ▸ denE_mono (Emb.le_push _ _) _ _ hd
  unfold partE at h
  split at h
  · simp only [denE] at hd ⊢
    exact partV_den h hd
  · simp only [denE] at hd ⊢
    obtain ⟨l, rfl, h1⟩ := hd
    exact ⟨l, rfl, partS_den h h1⟩
  · exact same h

theorem partT_den {E : Emb} {i k : Nat} : ∀ {x y : List EV} {v : List Value}, partT i E.n k x y → denT E x v → denT (E.push (partP E i k)) y v
  | [], [], v, _, hd => hd
  | x :: r, y :: r', v, h, hd => by
    simp only [denT] at hd ⊢
    obtain ⟨u, l, rfl, h1, h2⟩ := hd
    exact ⟨u, l, rfl, partE_den h.1 h1, partT_den h.2 h2⟩
  | [], _ :: _, _, h, _ => h.elim
  | _ :: _, [], _, h, _ => h.elim

/-- What a part's call must leave. -/
def PartOk (h1 : List Blk) (i N : Nat) (m : Bool) (a b c : List Seg) (sp : Nat) (K : EV → List Blk → Prop) (v : EV) (h' : List Blk) : Prop :=
  roOk h1 h' ∧ ∃ b' cs', nthB h' N = some (.cells m b' 0) ∧ sizeS b' = sizeS b ∧ (∀ E l, denS E (a ++ (b' ++ c)) l → denS E cs' l) ∧ K v (updB (updB h' N .dead) i (.cells m cs' sp))

theorem denS_split {E : Emb} : ∀ {a b : List Seg} {l : List Value}, denS E (a ++ b) l → ∃ x y, l = x ++ y ∧ denS E a x ∧ denS E b y
  | [], b, l, h => ⟨[], l, rfl, rfl, h⟩
  | .one e :: r, b, l, h => by
    simp only [List.cons_append, denS] at h
    obtain ⟨v, l', rfl, h1, h2⟩ := h
    obtain ⟨x, y, rfl, h3, h4⟩ := denS_split h2
    exact ⟨v :: x, y, rfl, ⟨v, x, rfl, h1, h3⟩, h4⟩
  | .ints k n f :: r, b, l, h => by
    simp only [List.cons_append, denS] at h
    obtain ⟨l', rfl, h2⟩ := h
    obtain ⟨x, y, rfl, h3, h4⟩ := denS_split h2
    exact ⟨intsOf k n f ++ x, y, by simp, ⟨x, rfl, h3⟩, h4⟩

theorem part_sim {E : Emb} {h : List Blk} {w : World} {i : Nat} {m : Bool} {cs a b c : List Seg} {sp : Nat} (S : Sim E h w) (hi : nthB h i = some (.cells m cs sp))
    (hs : ∀ E l, denS E cs l → denS E (a ++ (b ++ c)) l) : Sim (E.push (partP E i (sizeS a))) (updB h i .dead ++ [.cells m b 0]) w := by
  have hi' := nthB_get hi
  have hlt := lt_of_get hi'
  obtain ⟨hp, ⟨l, hl, hc⟩, hm⟩ := S.ok i _ hi'
  obtain ⟨la, lr, rfl, hla, hlr⟩ := denS_split (hs E l hl)
  obtain ⟨lb, lc, rfl, hlb, hlc⟩ := denS_split hlr
  have za := denS_length hla
  have zb := denS_length hlb
  have zc := denS_length hlc
  have zl := denS_length hl
  simp only [List.length_append] at zl
  have hn := S.n
  -- the blocks ahead of the call
  have hU : ∀ {j : Nat} {B : Blk}, (updB h i .dead)[j]? = some B → B = .dead ∨ (h[j]? = some B ∧ j ≠ i) := fun {j B} hj => by
    rw [updB_eq] at hj
    by_cases hij : i = j
    · subst hij
      rw [List.getElem?_set_self hlt] at hj
      simp only [Option.some.injEq] at hj
      exact .inl hj.symm
    · rw [List.getElem?_set_ne hij] at hj; exact .inr ⟨hj, fun e => hij e.symm⟩
  have hUl : (updB h i .dead).length = h.length := by rw [updB_eq, List.length_set]
  have hH : ∀ {j : Nat} {B : Blk}, (updB h i .dead ++ [.cells m b 0])[j]? = some B → B = .dead ∨ (h[j]? = some B ∧ (E.push (partP E i (sizeS a))).f j = E.f j ∧ j ≠ i ∧ j < h.length) ∨ (j = h.length ∧ B = .cells m b 0 ∧ (E.push (partP E i (sizeS a))).f j = partP E i (sizeS a)) := fun {j B} hj => by
    rcases getElem?_push_cases hj with ⟨h1, h2⟩ | ⟨h1, h2⟩
    · rw [hUl] at h2
      rcases hU h1 with h3 | ⟨h3, h4⟩
      · exact .inl h3
      · exact .inr (.inl ⟨h3, Emb.push_old _ _ (by omega), h4, h2⟩)
    · rw [hUl] at h1
      subst h1
      exact .inr (.inr ⟨rfl, h2, by rw [← hn, Emb.push_new]⟩)
  have covP : ∀ {x y : Nat}, cov (partP E i (sizeS a)) (.cells m b 0) x y → cov (E.f i) (.cells m cs sp) x y := fun {x y} hcv => by
    simp only [cov, partP] at hcv ⊢
    omega
  refine ⟨by simp [Emb.push, hUl, hn], fun j B hj => ?_, fun j k A B hjk hj hk hA x y hcj => ?_⟩
  · rcases hH hj with rfl | ⟨h1, h2, _⟩ | ⟨_, rfl, h2⟩
    · trivial
    · rw [h2]; exact okBlk_le (Emb.le_push _ _) (S.ok j B h1)
    · rw [h2]
      refine ⟨?_, ⟨lb, denS_mono (Emb.le_push _ _) _ _ hlb, fun j v hj => ?_⟩, fun hmm j hj => ?_⟩
      · rcases hp with hp | ⟨hp, hp2⟩
        · exact .inl hp
        · exact .inr ⟨hp, by omega⟩
      · have hj2 : j < lb.length := by
          rcases Nat.lt_or_ge j lb.length with h' | h'
          · exact h'
          · rw [List.getElem?_eq_none h'] at hj; cases hj
        have := hc (la.length + j) v (by rw [List.getElem?_append_right (by omega), Nat.add_sub_cancel_left, List.getElem?_append_left hj2]; exact hj)
        rw [za, ← Nat.add_assoc] at this
        exact this
      · have := hm hmm (sizeS a + j) (by omega)
        rw [← Nat.add_assoc] at this
        exact this
  · rcases hH hj with rfl | ⟨h1, h2, h3, _⟩ | ⟨h1, rfl, h2⟩
    · simp [Blk.mut] at hA
    · rw [h2] at hcj
      rcases hH hk with rfl | ⟨k1, k2, _⟩ | ⟨_, rfl, k2⟩
      · intro h'; exact h'
      · rw [k2]; exact S.dis j k A B hjk h1 k1 hA x y hcj
      · rw [k2]; intro hcv; exact S.dis j i A _ h3 h1 hi' hA x y hcj (covP hcv)
    · rw [h2] at hcj
      rcases hH hk with rfl | ⟨k1, k2, k3, _⟩ | ⟨k1, rfl, k2⟩
      · intro h'; exact h'
      · rw [k2]; exact S.dis i k _ B (Ne.symm k3) hi' k1 hA x y (covP hcj)
      · exact absurd (h1.trans k1.symm) hjk

theorem part_post {E : Emb} {h : List Blk} {w w' : World} {i : Nat} {m : Bool} {cs a b c : List Seg} {sp : Nat} {Q K : EV → List Blk → Prop} {e : Ending} (S : Sim E h w) (hi : nthB h i = some (.cells m cs sp))
    (hs : ∀ E l, denS E cs l → denS E (a ++ (b ++ c)) l) (hK : ∀ v h', Q v h' → PartOk (updB h i .dead ++ [.cells m b 0]) i h.length m a b c sp K v h')
    (P : Post (E.push (partP E i (sizeS a))) (updB h i .dead ++ [.cells m b 0]) w Q e w') : Post E h w K e w' := by
  have hi' := nthB_get hi
  have hlt := lt_of_get hi'
  obtain ⟨hp, ⟨l, hl, hc⟩, hm⟩ := S.ok i _ hi'
  obtain ⟨la, lr, rfl, hla, hlr⟩ := denS_split (hs E l hl)
  obtain ⟨lb, lc, rfl, hlb, hlc⟩ := denS_split hlr
  have za := denS_length hla
  have zb := denS_length hlb
  have zc := denS_length hlc
  have zl := denS_length hl
  simp only [List.length_append] at zl
  have hn := S.n
  -- the blocks ahead of the call
  have hU : ∀ {j : Nat} {B : Blk}, (updB h i .dead)[j]? = some B → B = .dead ∨ (h[j]? = some B ∧ j ≠ i) := fun {j B} hj => by
    rw [updB_eq] at hj
    by_cases hij : i = j
    · subst hij
      rw [List.getElem?_set_self hlt] at hj
      simp only [Option.some.injEq] at hj
      exact .inl hj.symm
    · rw [List.getElem?_set_ne hij] at hj; exact .inr ⟨hj, fun e => hij e.symm⟩
  have hUl : (updB h i .dead).length = h.length := by rw [updB_eq, List.length_set]
  have hH : ∀ {j : Nat} {B : Blk}, (updB h i .dead ++ [.cells m b 0])[j]? = some B → B = .dead ∨ (h[j]? = some B ∧ (E.push (partP E i (sizeS a))).f j = E.f j ∧ j ≠ i ∧ j < h.length) ∨ (j = h.length ∧ B = .cells m b 0 ∧ (E.push (partP E i (sizeS a))).f j = partP E i (sizeS a)) := fun {j B} hj => by
    rcases getElem?_push_cases hj with ⟨h1, h2⟩ | ⟨h1, h2⟩
    · rw [hUl] at h2
      rcases hU h1 with h3 | ⟨h3, h4⟩
      · exact .inl h3
      · exact .inr (.inl ⟨h3, Emb.push_old _ _ (by omega), h4, h2⟩)
    · rw [hUl] at h1
      subst h1
      exact .inr (.inr ⟨rfl, h2, by rw [← hn, Emb.push_new]⟩)
  have covP : ∀ {x y : Nat}, cov (partP E i (sizeS a)) (.cells m b 0) x y → cov (E.f i) (.cells m cs sp) x y := fun {x y} hcv => by
    simp only [cov, partP] at hcv ⊢
    omega
  have mut1 : ∀ {x y : Nat}, mutAt (E.push (partP E i (sizeS a))) (updB h i .dead ++ [.cells m b 0]) x y → mutAt E h x y := fun {x y} hm1 => by
    obtain ⟨j, B, hj, hB, hcv⟩ := hm1
    rcases hH hj with rfl | ⟨h1, h2, _⟩ | ⟨_, rfl, h2⟩
    · simp [Blk.mut] at hB
    · rw [h2] at hcv; exact ⟨j, B, h1, hB, hcv⟩
    · rw [h2] at hcv; exact ⟨i, _, hi', hB, covP hcv⟩
  -- cells of the block outside the part are written by nobody
  have out1 : ∀ {y : Nat}, (E.f i).o ≤ y → y < (E.f i).o + (sizeS cs + sp) → ¬ (((E.f i).o + sizeS a) ≤ y ∧ y < (E.f i).o + sizeS a + sizeS b) → ¬ mutAt (E.push (partP E i (sizeS a))) (updB h i .dead ++ [.cells m b 0]) (E.f i).b y := fun {y} h1 h2 h3 hm1 => by
    obtain ⟨j, B, hj, hB, hcv⟩ := hm1
    rcases hH hj with rfl | ⟨k1, k2, k3, _⟩ | ⟨_, rfl, k2⟩
    · simp [Blk.mut] at hB
    · rw [k2] at hcv
      exact S.dis j i B _ k3 k1 hi' hB _ _ hcv ⟨rfl, h1, h2⟩
    · rw [k2] at hcv
      simp only [cov, partP] at hcv
      omega
  obtain ⟨v, x, h', E', rfl, hd, S', N', hq⟩ := P
  obtain ⟨hro, b', cs', hN, hsz, hj', hk⟩ := hK x h' hq
  have hN' := nthB_get hN
  have hNlt := lt_of_get hN'
  have fi : E'.f i = E.f i := by rw [N'.same i (by simp [Emb.push]; omega), Emb.push_old _ _ (by omega)]
  have fN : E'.f h.length = partP E i (sizeS a) := by rw [N'.same h.length (by simp [Emb.push]; omega), ← hn, Emb.push_new]
  obtain ⟨p1, ⟨lb', hlb', hcb'⟩, hmb'⟩ := S'.ok _ _ hN'
  have zb' := denS_length hlb'
  have le' : E.le E' := ⟨by have := N'.len; have h1 := S'.n; simp only [List.length_append, hUl, List.length_singleton] at this; omega, fun j hj => by rw [N'.same j (by simp [Emb.push]; omega), Emb.push_old _ _ hj]⟩
  have hF : ∀ {j : Nat} {B : Blk}, (updB (updB h' h.length .dead) i (.cells m cs' sp))[j]? = some B → B = .dead ∨ (h'[j]? = some B ∧ j ≠ i ∧ j ≠ h.length) ∨ (j = i ∧ B = .cells m cs' sp) := fun {j B} hj => by
    rw [updB_eq, updB_eq] at hj
    by_cases hij : i = j
    · subst hij
      rw [List.getElem?_set_self (by rw [List.length_set]; omega)] at hj
      simp only [Option.some.injEq] at hj
      exact .inr (.inr ⟨rfl, hj.symm⟩)
    · rw [List.getElem?_set_ne hij] at hj
      by_cases hNj : h.length = j
      · subst hNj
        rw [List.getElem?_set_self hNlt] at hj
        simp only [Option.some.injEq] at hj
        exact .inl hj.symm
      · rw [List.getElem?_set_ne hNj] at hj
        exact .inr (.inl ⟨hj, fun e => hij e.symm, fun e => hNj e.symm⟩)
  have dl : denS E' cs' (la ++ (lb' ++ lc)) := hj' E' _ (denS_append (denS_mono le' _ _ hla) (denS_append hlb' (denS_mono le' _ _ hlc)))
  have zcs : sizeS cs' = sizeS cs := by
    have := denS_length dl
    simp only [List.length_append] at this
    omega
  have pnt : ∀ j, j < sizeS cs + sp → (E.f i).b < w.heap.size := fun j hj => by
    rcases hp with h1 | ⟨_, h1⟩
    · exact h1
    · omega
  have keep : ∀ j, j < sizeS cs + sp → ¬ (sizeS a ≤ j ∧ j < sizeS a + sizeS b) → w'.cell? ⟨(E.f i).b, (E.f i).o + j, none⟩ = w.cell? ⟨(E.f i).b, (E.f i).o + j, none⟩ := fun j hj hno =>
    (N'.cells _ _ (pnt j hj) (out1 (by omega) (by omega) (by omega))).1
  refine ⟨v, x, _, E', rfl, hd, ⟨?_, fun j B hj => ?_, fun j k A B hjk hj hk hA y z hcj => ?_⟩, ⟨?_, fun j hj => le'.2 j hj, N'.size, fun y hy hno => N'.frame y hy (fun o hm1 => hno o (mut1 hm1)), fun y z hy hno => N'.cells y z hy (fun hm1 => hno (mut1 hm1)), fun y z hm1 hy => ?_, N'.os, N'.tape, N'.output, N'.rows⟩, hk⟩
  · rw [S'.n]; simp [updB_eq]
  · rcases hF hj with rfl | ⟨h1, _, _⟩ | ⟨rfl, rfl⟩
    · trivial
    · exact S'.ok j B h1
    · rw [fi]
      refine ⟨?_, ⟨_, dl, fun k v hk => ?_⟩, fun hmm k hk => ?_⟩
      · rcases hp with h1 | ⟨h1, h2⟩
        · exact .inl (by have := N'.size; omega)
        · exact .inr ⟨h1, by omega⟩
      · have hkl : k < sizeS cs := by
          rcases Nat.lt_or_ge k (la ++ (lb' ++ lc)).length with h1 | h1
          · simp only [List.length_append] at h1; omega
          · rw [List.getElem?_eq_none h1] at hk; cases hk
        by_cases hin : sizeS a ≤ k ∧ k < sizeS a + sizeS b
        · have h1 := hcb' (k - sizeS a) v (by
            rw [List.getElem?_append_right (by omega), List.getElem?_append_left (by omega), za] at hk
            exact hk)
          rw [fN] at h1
          simp only [partP, Nat.add_assoc] at h1
          rwa [show sizeS a + (k - sizeS a) = k by omega] at h1
        · rw [keep k (by omega) hin]
          refine hc k v ?_
          by_cases h1 : k < sizeS a
          · rw [List.getElem?_append_left (by omega)] at hk ⊢; exact hk
          · rw [List.getElem?_append_right (by omega), List.getElem?_append_right (by omega)] at hk ⊢
            rw [show k - la.length - lb.length = k - la.length - lb'.length by omega]
            exact hk
      · rw [zcs] at hk
        by_cases hin : sizeS a ≤ k ∧ k < sizeS a + sizeS b
        · have h1 := hmb' hmm (k - sizeS a) (by omega)
          rw [fN] at h1
          simp only [partP, Nat.add_assoc] at h1
          rwa [show sizeS a + (k - sizeS a) = k by omega] at h1
        · rw [keep k hk hin]
          obtain ⟨h1, h2⟩ := hm hmm k hk
          exact ⟨h1, N'.rows _ (pnt k hk) h2⟩
  · -- apart
    have one : ∀ {k : Nat} {B : Blk}, h'[k]? = some B → k ≠ i → k ≠ h.length → (m = true ∨ B.mut = true) → ∀ {y z : Nat}, cov (E.f i) (.cells m cs' sp) y z → ¬ cov (E'.f k) B y z := fun {k B} hB hki hkN hmB {y z} hcv hcv' => by
      simp only [cov, zcs] at hcv
      obtain ⟨rfl, hz1, hz2⟩ := hcv
      by_cases hin : (E.f i).o + sizeS a ≤ z ∧ z < (E.f i).o + sizeS a + sizeS b
      · have hcN : cov (E'.f h.length) (.cells m b' 0) (E.f i).b z := by
          rw [fN]; exact ⟨rfl, hin.1, by simp only [partP]; omega⟩
        rcases hmB with hmm | hmm
        · exact S'.dis h.length k _ B (Ne.symm hkN) hN' hB hmm _ _ hcN hcv'
        · exact S'.dis k h.length B _ hkN hB hN' hmm _ _ hcv' hcN
      · have hno := out1 hz1 hz2 hin
        have hbl := pnt 0 (by omega)
        rcases roOk_get hro k B hB with h1 | rfl | h1
        · exact hno (N'.new _ _ ⟨k, B, hB, h1, hcv'⟩ hbl)
        · exact hcv'
        · rcases hH h1 with rfl | ⟨k1, k2, k3, k4⟩ | ⟨k1, _, _⟩
          · exact hcv'
          · rw [N'.same k (by simp [Emb.push]; omega), k2] at hcv'
            rcases hmB with hmm | hmm
            · exact S.dis i k _ B (Ne.symm k3) hi' k1 hmm _ _ ⟨rfl, hz1, hz2⟩ hcv'
            · exact S.dis k i B _ k3 k1 hi' hmm _ _ hcv' ⟨rfl, hz1, hz2⟩
          · exact hkN k1
    rcases hF hj with rfl | ⟨h1, h2, h3⟩ | ⟨rfl, rfl⟩
    · simp [Blk.mut] at hA
    · rcases hF hk with rfl | ⟨k1, k2, k3⟩ | ⟨rfl, rfl⟩
      · intro h'; exact h'
      · exact S'.dis j k A B hjk h1 k1 hA y z hcj
      · rw [fi]; intro hcv; exact one h1 h2 h3 (.inr hA) hcv hcj
    · rcases hF hk with rfl | ⟨k1, k2, k3⟩ | ⟨rfl, rfl⟩
      · intro h'; exact h'
      · rw [fi] at hcj; exact one k1 k2 k3 (.inl hA) hcj
      · exact absurd rfl hjk
  · simp only [updB_eq, List.length_set]
    have := N'.len
    simp only [List.length_append, hUl, List.length_singleton] at this
    omega
  · obtain ⟨k, B, hB, hBm, hcv⟩ := hm1
    rcases hF hB with rfl | ⟨h1, _, _⟩ | ⟨rfl, rfl⟩
    · simp [Blk.mut] at hBm
    · exact mut1 (N'.new y z ⟨k, B, h1, hBm, hcv⟩ hy)
    · rw [fi] at hcv
      refine ⟨_, _, hi', hBm, ?_⟩
      simpa only [cov, zcs] using hcv

/-- **A call that is handed a part of a block.** -/
theorem Does.part {T : Tbl} {f : FuncId} {args args' : List EV} {h : List Blk} {Q K : EV → List Blk → Prop} (i : Nat) {m : Bool} {cs : List Seg} {sp : Nat} (a b c : List Seg) (hi : nthB h i = some (.cells m cs sp))
    (hs : ∀ E l, denS E cs l → denS E (a ++ (b ++ c)) l) (ha : partT i h.length (sizeS a) args args') (d : Does T f args' (updB h i .dead ++ [.cells m b 0]) Q)
    (hK : ∀ v h', Q v h' → PartOk (updB h i .dead ++ [.cells m b 0]) i h.length m a b c sp K v h') : Does T f args h K := by
  refine ⟨?_⟩
  rcases d.go with ⟨h1, h2⟩ | h1
  · refine .inl ⟨h1, fun E w vs S hv => ?_⟩
    have hn := S.n
    exact (h2 _ w vs (part_sim S hi hs) (partT_den (by rw [hn]; exact ha) hv)).mono fun e w' p => part_post S hi hs hK p
  · refine .inr fun E w vs S hv => ?_
    have hn := S.n
    obtain ⟨u, w', h2, h3⟩ := h1 _ w vs (part_sim S hi hs) (partT_den (by rw [hn]; exact ha) hv)
    exact ⟨u, w', h2, part_post S hi hs hK h3⟩

end Go.Anv
