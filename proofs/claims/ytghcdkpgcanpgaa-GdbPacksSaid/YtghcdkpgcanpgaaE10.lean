/- The engine, part 10: the walk of a region that draws its order. Plain theorems; their condition: no panic is let through. -/
import Derived.Test.YtghcdkpgcanpgaaE9
namespace Go.Anv
open Go

/-- The walk of an operation that may be taken first: 'yes' with its value, or 'no'. -/
def pureK (T : Tbl) (h0 : List Blk) (ops : Array Oper) (ts : List EV) (o : Oper) (yes : EV → Prop) (no : Prop) : Prop :=
  match o.guard with
  | none => match px T h0 (evT ts) (evT ts) o.op with
    | .ok v => match detE v with
      | true => yes v
      | false => no
    | .need p v => match detE v with
      | true => Need p (yes v)
      | false => no
    | .fail => no
  | some (j, want) => guardK ops ts j want fun g => match px T h0 (fun x => strip (evT ts x)) (evT ts) o.op with
    | .ok v => match detE v with
      | true => obligK g ((looks o.op).map (evT ts)) (yes (.gd g v))
      | false => no
    | .need p v => match detE v with
      | true => obligK g ((looks o.op).map (evT ts)) (Need (g = true → p) (yes (.gd g v)))
      | false => no
    | .fail => no

def tryPure (T : Tbl) (h0 : List Blk) (ops : Array Oper) (ts : List EV) (l : List Bool) (yes : Nat → Oper → EV → Prop) (no : Prop) : List Nat → Prop
  | [] => no
  | i :: r => match nthO ops.toList i with
    | none => False
    | some o => match freeGo ops.toList i o 0 ops.toList l with
      | true => pureK T h0 ops ts o (yes i o) (tryPure T h0 ops ts l yes no r)
      | false => tryPure T h0 ops ts l yes no r

/-- The blocks of the begin are as they were. -/
def preK : List Blk → List Blk → Prop → Prop
  | [], _, k => k
  | x :: r, y :: r', k => Need (x = y) (preK r r' k)
  | _ :: _, [], _ => False

theorem preK_spec : ∀ {h0 h : List Blk} {k : Prop}, preK h0 h k → (∀ (i : Nat) (B : Blk), h0[i]? = some B → h[i]? = some B) ∧ k
  | [], _, _, hk => ⟨fun i B hi => by simp at hi, hk⟩
  | x :: r, y :: r', k, hk => by
    obtain ⟨rfl, hk⟩ := hk
    obtain ⟨h1, h2⟩ := preK_spec hk
    refine ⟨fun i B hi => ?_, h2⟩
    cases i with
    | zero => simpa using hi
    | succ i => simpa using h1 i B (by simpa using hi)
  | _ :: _, [], _, hk => hk.elim

/-- All of them, one behind the other. -/
def allK (f : Nat → Oper → Prop) (ops : List Oper) : List Nat → Prop
  | [] => True
  | [i] => match nthO ops i with
    | none => False
    | some o => f i o
  | i :: r => (match nthO ops i with
    | none => False
    | some o => f i o) ∧ allK f ops r

theorem allK_spec {f : Nat → Oper → Prop} {ops : List Oper} : ∀ {rs : List Nat}, allK f ops rs → ∀ i ∈ rs, ∃ o, ops[i]? = some o ∧ f i o
  | [], _, i, hi => by cases hi
  | [x], h, i, hi => by
    simp only [List.mem_singleton] at hi
    subst hi
    simp only [allK] at h
    split at h
    · exact h.elim
    · rename_i o ho
      rw [nthO_eq] at ho
      exact ⟨o, ho, h⟩
  | x :: y :: r, h, i, hi => by
    obtain ⟨h1, h2⟩ := h
    rcases List.mem_cons.1 hi with rfl | hi
    · split at h1
      · exact h1.elim
      · rename_i o ho
        rw [nthO_eq] at ho
        exact ⟨o, ho, h1⟩
    · exact allK_spec h2 i hi

def drawX (T : Tbl) (h0 : List Blk) (ops : Array Oper) (k : St → Prop) : Nat → List Bool → St → Prop
  | 0, l, s => match rdyGo l 0 ops.toList l with
    | [] => k s
    | _ :: _ => False
  | n + 1, l, s => match rdyGo l 0 ops.toList l with
    | [] => k s
    | i :: rs => tryPure T h0 ops s.tmps l (fun i o v => forceE v fun v => putK s.tmps s.heap o.dst v fun s' => drawX T h0 ops k n (setB l i) s')
        (allK (fun i o => opX T ops s o fun s' => preK h0 s'.heap (drawX T h0 ops k n (setB l i) s')) ops.toList (i :: rs)) (i :: rs)

def falses : List Oper → List Bool
  | [] => []
  | _ :: r => false :: falses r

theorem falses_eq : ∀ l : List Oper, falses l = List.replicate l.length false
  | [] => rfl
  | _ :: r => by simp [falses, falses_eq r, List.replicate_succ]

theorem length_setB (l : List Bool) (i : Nat) : (setB l i).length = l.length := by simp [setB_eq]

section draw
variable {T : Tbl} {E0 : Emb} {hs h0 : List Blk} {w0 : World} {E00 : Emb} {ops : Array Oper} {Q : Exit → Act → World → Prop}

theorem px_held {E : Emb} {h : List Blk} {w : World} (S : Sim E00 h w) (le : E00.le E) (ev raw : Operand → EV) (ρ : Operand → Value) (o : Oper)
    (hev : ∀ x ∈ looks o.op, denE E (ev x) (ρ x)) (hraw : ∀ x, denE E (raw x) (ρ x)) (hne : px T h ev raw o.op ≠ .fail) : (px T h ev raw o.op).yl E T.P w (execOp ρ o) := by
  have := px_snd T (S.weak le) ev raw ρ o hev hraw
  rwa [px_app T _ _ _ _ _ hne] at this

theorem pureK_snd {E : Emb} {s : St} {a : Act} {w : World} (R : Rel ⟨E0, hs, w0⟩ E s a w) (hS : Sim E00 h0 w) (le : E00.le E) {o : Oper} {yes : EV → Prop} {no : Prop}
    (hk : pureK T h0 ops s.tmps o yes no) : no ∨ ∃ v u, denE E v u ∧ yes v ∧ YieldsIf T.P ops (Sim E00 h0) o u a := by
  unfold pureK at hk
  have hev : (St.ev s) = evT s.tmps := rfl
  split at hk
  · rename_i hg
    have hw : Region.wanted o (yielded ops a.tmps) = true := by simp [Region.wanted, hg]
    have hpx : ∀ w', Sim E00 h0 w' → px T h0 (evT s.tmps) (evT s.tmps) o.op ≠ .fail → (px T h0 (evT s.tmps) (evT s.tmps) o.op).yl E T.P w' (execOp a.eval o) := fun w' S' hne =>
      px_held S' le _ _ a.eval o (fun x _ => ev_denE R.fr x) (fun x => ev_denE R.fr x) hne
    split at hk
    · rename_i v hv
      split at hk
      · rename_i hd
        have h1 := hpx w hS (by rw [hv]; simp)
        rw [hv] at h1
        obtain ⟨z, _, h2⟩ := h1
        refine .inr ⟨v, z, h2, hk, .inl ⟨hw, fun w' S' => ?_⟩⟩
        have h3 := hpx w' S' (by rw [hv]; simp)
        rw [hv] at h3
        obtain ⟨z', h4, h5⟩ := h3
        rw [detE_eq v _ _ hd h2 h5]
        exact h4
      · exact .inl hk
    · rename_i p v hv
      split at hk
      · rename_i hd
        obtain ⟨hp, hk⟩ := hk
        have h1 := hpx w hS (by rw [hv]; simp)
        rw [hv] at h1
        obtain ⟨z, _, h2⟩ := h1 hp
        refine .inr ⟨v, z, h2, hk, .inl ⟨hw, fun w' S' => ?_⟩⟩
        have h3 := hpx w' S' (by rw [hv]; simp)
        rw [hv] at h3
        obtain ⟨z', h4, h5⟩ := h3 hp
        rw [detE_eq v _ _ hd h2 h5]
        exact h4
      · exact .inl hk
    · exact .inl hk
  · rename_i j want hg
    obtain ⟨g, h1, hk⟩ := guardK_snd R hk
    have hw : Region.wanted o (yielded ops a.tmps) = g := by simp only [Region.wanted, hg]; exact h1
    have hob : ∀ {l : List Operand}, oblig g (l.map s.ev) → g = true → ∀ x ∈ l, denE E (strip (s.ev x)) (a.eval x) := fun {l} => by
      induction l with
      | nil => intro _ _ x hx; cases hx
      | cons y r ih =>
        intro h hg x hx
        have hy := ev_denE R.fr y
        simp only [List.map_cons] at h
        rcases List.mem_cons.1 hx with rfl | hx
        · cases he : s.ev x with
          | gd g' v =>
            rw [he] at h hy
            simp only [oblig] at h
            simp only [denE] at hy
            exact hy.1 (h.1 hg)
          | _ => rw [he] at hy; exact hy
        · refine ih ?_ hg x hx
          cases he : s.ev y with
          | gd g' v => rw [he] at h; exact h.2
          | _ => rw [he] at h; exact h
    have hpx : g = true → oblig g ((looks o.op).map s.ev) → ∀ w', Sim E00 h0 w' → px T h0 (fun x => strip (evT s.tmps x)) (evT s.tmps) o.op ≠ .fail →
        (px T h0 (fun x => strip (evT s.tmps x)) (evT s.tmps) o.op).yl E T.P w' (execOp a.eval o) := fun hg ho w' S' hne =>
      px_held S' le _ _ a.eval o (hob ho hg) (fun x => ev_denE R.fr x) hne
    split at hk
    · rename_i v hv
      split at hk
      · rename_i hd
        obtain ⟨ho, hk⟩ := (obligK_iff _ _ _).1 hk
        cases g with
        | false => exact .inr ⟨.gd false v, undef, by simp [denE], hk, .inr ⟨hw, rfl⟩⟩
        | true =>
          have h1 := hpx rfl ho w hS (by rw [hv]; simp)
          rw [hv] at h1
          obtain ⟨z, _, h2⟩ := h1
          refine .inr ⟨.gd true v, z, by simp only [denE]; exact ⟨fun _ => h2, fun h => by cases h⟩, hk, .inl ⟨hw, fun w' S' => ?_⟩⟩
          have h3 := hpx rfl ho w' S' (by rw [hv]; simp)
          rw [hv] at h3
          obtain ⟨z', h4, h5⟩ := h3
          rw [detE_eq v _ _ hd h2 h5]
          exact h4
      · exact .inl hk
    · rename_i p v hv
      split at hk
      · rename_i hd
        obtain ⟨ho, hp, hk⟩ := (obligK_iff _ _ _).1 hk
        cases g with
        | false => exact .inr ⟨.gd false v, undef, by simp [denE], hk, .inr ⟨hw, rfl⟩⟩
        | true =>
          have h1 := hpx rfl ho w hS (by rw [hv]; simp)
          rw [hv] at h1
          obtain ⟨z, _, h2⟩ := h1 (hp rfl)
          refine .inr ⟨.gd true v, z, by simp only [denE]; exact ⟨fun _ => h2, fun h => by cases h⟩, hk, .inl ⟨hw, fun w' S' => ?_⟩⟩
          have h3 := hpx rfl ho w' S' (by rw [hv]; simp)
          rw [hv] at h3
          obtain ⟨z', h4, h5⟩ := h3 (hp rfl)
          rw [detE_eq v _ _ hd h2 h5]
          exact h4
      · exact .inl hk
    · exact .inl hk

theorem tryPure_snd {E : Emb} {s : St} {a : Act} {w : World} (R : Rel ⟨E0, hs, w0⟩ E s a w) (hS : Sim E00 h0 w) (le : E00.le E) {l : List Bool} {yes : Nat → Oper → EV → Prop} {no : Prop} :
    ∀ {rs : List Nat}, tryPure T h0 ops s.tmps l yes no rs → no ∨ ∃ i o v u, i ∈ rs ∧ ops[i]? = some o ∧ freeGo ops.toList i o 0 ops.toList l = true ∧ denE E v u ∧ yes i o v ∧ YieldsIf T.P ops (Sim E00 h0) o u a
  | [], hk => .inl hk
  | i :: r, hk => by
    simp only [tryPure] at hk
    split at hk
    · exact hk.elim
    · rename_i o ho
      rw [nthO_eq, Array.getElem?_toList] at ho
      have rest : tryPure T h0 ops s.tmps l yes no r → no ∨ ∃ i' o v u, i' ∈ i :: r ∧ ops[i']? = some o ∧ freeGo ops.toList i' o 0 ops.toList l = true ∧ denE E v u ∧ yes i' o v ∧ YieldsIf T.P ops (Sim E00 h0) o u a := fun h => by
        rcases tryPure_snd R hS le h with h | ⟨i', o', v, u, h1, h2⟩
        · exact .inl h
        · exact .inr ⟨i', o', v, u, List.mem_cons_of_mem _ h1, h2⟩
      split at hk
      · rename_i hf
        rcases pureK_snd R hS le hk with h | ⟨v, u, h1, h2, h3⟩
        · exact rest h
        · exact .inr ⟨i, o, v, u, List.mem_cons_self, ho, hf, h1, h2, h3⟩
      · exact rest hk

theorem drawX_snd (n0 : E0.n = hs.length) (hsel : noSel ops.toList = true) (hQ : ∀ c a w, ¬ Q (.panic c) a w) (S0 : ∀ i, i < E00.n → E00.f i = E0.f i) (hn0 : E00.n ≤ E0.n) {k : St → Prop}
    (hn : ∀ E' s' a' w', k s' → Rel ⟨E0, hs, w0⟩ E' s' a' w' → Q .normal a' w') :
    ∀ (n : Nat) (l : List Bool) {E : Emb} {s : St} {a : Act} {w : World}, l.length = ops.size → Rel ⟨E0, hs, w0⟩ E s a w → Sim E00 h0 w → drawX T h0 ops k n l s → wpAnyH T.P .any ops Q (Sim E00 h0) n l.toArray a w
  | 0, l, E, s, a, w, hl, R, hS, hk => by
    simp only [drawX] at hk
    rw [rdy_eq ops l hl] at hk
    split at hk
    · rename_i hr
      exact ⟨hr, hn _ _ _ _ hk R⟩
    · exact hk.elim
  | n + 1, l, E, s, a, w, hl, R, hS, hk => by
    have hle : ∀ {E s a w}, Rel ⟨E0, hs, w0⟩ E s a w → E00.le E := fun {E s a w} R => by
      have h1 := R.sin.le n0 R.sim.n
      exact ⟨Nat.le_trans hn0 h1.1, fun i hi => by rw [h1.2 i (Nat.lt_of_lt_of_le hi hn0)]; exact (S0 i hi).symm⟩
    have hset : ∀ i, (setB l i).toArray = l.toArray.setIfInBounds i true := fun i => by simp [setB_eq]
    simp only [drawX] at hk
    rw [rdy_eq ops l hl] at hk
    split at hk
    · rename_i hr
      exact wpAnyH_done hr (hn _ _ _ _ hk R) _
    · rename_i i rs hr
      rcases tryPure_snd R hS (hle R) hk with hk | ⟨i', o, v, u, h1, h2, h3, h4, h5, h6⟩
      · refine wpAnyH_all hr (by simp) fun j hj => ?_
        obtain ⟨o, ho, hk⟩ := allK_spec hk j hj
        have ho' : ops[j]? = some o := by simpa using ho
        have := opX_snd (O := ⟨E0, hs, w0⟩) n0 R hk (next := fun a' w' => Sim E00 h0 w' ∧ wpAnyH T.P .any ops Q (Sim E00 h0) n (l.toArray.setIfInBounds j true) a' w') (Q := Q) (fun E' s' a' w' h1 h2 => by
          obtain ⟨h3, h4⟩ := preK_spec h1
          have hS' : Sim E00 h0 w' := hS.restrict (hle h2) h2.sim h3
          refine ⟨hS', ?_⟩
          rw [← hset]
          exact drawX_snd n0 hsel hQ S0 hn0 hn n (setB l j) (by rw [length_setB]; exact hl) h2 hS' h4)
        unfold wpOp
        simp only [ho']
        split
        · rename_i hw
          rw [if_pos hw] at this
          exact .inl this
        · rename_i hw
          rw [if_neg hw] at this
          exact this
      · simp only [forceE_eq, putK_eq] at h5
        refine wpAnyH_take h2 (noSel_eq hsel) (free_of h2 h3) ?_ (fun c a w h => absurd h (hQ c _ w)) h6 hS ?_
        · rw [hr]
          simpa using h1
        · rw [← hset]
          exact drawX_snd n0 hsel hQ S0 hn0 hn n (setB l i') (by rw [length_setB]; exact hl) (R.put o.dst h4) hS h5

end draw

theorem draw_core {T : Tbl} {O : Org} (on : O.E.n = O.h.length) {id : Nat} {ops : Array Oper} {s : St} {K : Exit → St → Prop} (h0 : List Blk) (hh : h0 = [] ∨ h0 = s.heap) (hsel : noSel ops.toList = true) (hQ : ∀ c s, ¬ K (.panic c) s)
    (hk : drawX T h0 ops (K .normal) ops.size (falses ops.toList) s) : DrawG T O id ops s K := by
  intro E a w R
  have RD : Rel O E s a w.drew := ⟨R.fr, R.df, R.sim.drew, R.sin.trans on R.sim.n (Since.drew E s.heap w)⟩
  have fal : (falses ops.toList).toArray = Array.replicate ops.size false := by simp [falses_eq]
  let E00 : Emb := ⟨h0.length, E.f⟩
  have hn0 : E00.n ≤ E.n := by
    rcases hh with rfl | rfl
    · exact Nat.zero_le _
    · exact Nat.le_of_eq R.sim.n.symm
  have hS : Sim E00 h0 w.drew := by
    rcases hh with rfl | rfl
    · exact ⟨rfl, fun i B hi => by simp at hi, fun i j A B _ hi => by simp at hi⟩
    · have h1 := R.sim.drew
      have : E00 = E := by
        have := R.sim.n
        cases E
        simp only [E00] at this ⊢
        rw [this]
      rw [this]
      exact h1
  refine wp_region_held (S := Sim E00 h0) T.mixed ?_
  rw [← fal]
  refine drawX_snd (E00 := E00) (h0 := h0) (E0 := E) (hs := s.heap) (w0 := w.drew) R.sim.n hsel (fun c a w h => ?_) (fun i _ => rfl) hn0 (k := K .normal) (fun E' s' a' w' h1 h2 => ?_) ops.size _ (by simp [falses_eq])
    ⟨R.fr, R.df, R.sim.drew, Since.refl _ _ _⟩ hS hk
  · obtain ⟨E, s, h1, _⟩ := h
    exact hQ c s h1
  · exact ⟨E', s', h1, h2.fr, h2.df, h2.sim, RD.sin.trans on R.sim.n h2.sin⟩

/-- **A region that draws its order: loads may be taken first, for no block that was there is written.** -/
theorem draw_held {T : Tbl} {O : Org} (on : O.E.n = O.h.length) {id : Nat} {ops : Array Oper} {s : St} {K : Exit → St → Prop} (hsel : noSel ops.toList = true) (hQ : ∀ c s, ¬ K (.panic c) s)
    (hk : drawX T s.heap ops (K .normal) ops.size (falses ops.toList) s) : DrawG T O id ops s K := draw_core on s.heap (.inr rfl) hsel hQ hk

/-- **A region that draws its order: what looks at no memory is taken first.** -/
theorem draw_free {T : Tbl} {O : Org} (on : O.E.n = O.h.length) {id : Nat} {ops : Array Oper} {s : St} {K : Exit → St → Prop} (hsel : noSel ops.toList = true) (hQ : ∀ c s, ¬ K (.panic c) s)
    (hk : drawX T [] ops (K .normal) ops.size (falses ops.toList) s) : DrawG T O id ops s K := draw_core on [] (.inl rfl) hsel hQ hk

end Go.Anv
