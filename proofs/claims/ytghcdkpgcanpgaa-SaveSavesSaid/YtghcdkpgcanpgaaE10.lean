/- The engine, part 10: the walk of a region that draws its order. Plain theorems; their condition: no panic is let through. -/
import Derived.Test.YtghcdkpgcanpgaaE9b
namespace Go.Anv
open Go

/-- The walk of an operation that may be taken first: 'yes' with its value, or 'no'. -/
def pureK (T : Tbl) (h0 : List Blk) (ops : Array Oper) (ts : List EV) (o : Oper) (yes : EV → Prop) (no : Prop) : Prop :=
  match o.guard with
  | none => match px T h0 (evT ts) (evT ts) o.op with
    | .ok v => match detE v with
      | true => yes v
      | false => no
    | .need p v => match detE v with
      | true => Need p (yes v)
      | false => no
    | .fail => no
  | some (j, want) => guardK ops ts j want fun g => match px T h0 (fun x => strip (evT ts x)) (evT ts) o.op with
    | .ok v => match detE v with
      | true => obligK g ((looks o.op).map (evT ts)) (yes (.gd g v))
      | false => no
    | .need p v => match detE v with
      | true => obligK g ((looks o.op).map (evT ts)) (Need (g = true → p) (yes (.gd g v)))
      | false => no
    | .fail => no

def tryPure (T : Tbl) (h0 : List Blk) (ops : Array Oper) (ts : List EV) (l : List Bool) (yes : Nat → Oper → EV → Prop) (no : Prop) (rs : List Nat) : Prop :=
  List.rec (motive := fun _ => Prop) no (fun i _ ih => match nthO ops.toList i with
    | none => False
    | some o => match freeGo ops.toList i o 0 ops.toList l with
      | true => pureK T h0 ops ts o (yes i o) ih
      | false => ih) rs

/-- The blocks of the begin are as they were. -/
def preK (h0 : List Blk) : List Blk → Prop → Prop :=
  List.rec (motive := fun _ => List Blk → Prop → Prop) (fun _ k => k) (fun x _ ih h k => match h with
    | [] => False
    | y :: r' => match x with
      | .dead => ih r' k
      | .cells m cs sp => Need (Blk.cells m cs sp = y) (ih r' k)
      | .map es => Need (Blk.map es = y) (ih r' k)) h0

theorem preK_spec : ∀ {h0 h : List Blk} {k : Prop}, preK h0 h k → (∀ (i : Nat) (B : Blk), h0[i]? = some B → B = .dead ∨ h[i]? = some B) ∧ k
  | [], _, _, hk => ⟨fun i B hi => by simp at hi, hk⟩
  | x :: r, y :: r', k, hk => by
    have hk' : (x = .dead ∨ x = y) ∧ preK r r' k := by
      cases x with
      | dead => exact ⟨.inl rfl, hk⟩
      | cells m cs sp => exact ⟨.inr hk.p, hk.k⟩
      | map es => exact ⟨.inr hk.p, hk.k⟩
    obtain ⟨h1, h2⟩ := preK_spec hk'.2
    refine ⟨fun i B hi => ?_, h2⟩
    cases i with
    | zero =>
      simp only [List.getElem?_cons_zero, Option.some.injEq] at hi ⊢
      subst hi
      exact hk'.1.imp id Eq.symm
    | succ i => simpa using h1 i B (by simpa using hi)
  | .dead :: _, [], _, hk => hk.elim
  | .cells .. :: _, [], _, hk => hk.elim
  | .map _ :: _, [], _, hk => hk.elim

/-- All of them, one behind the other. -/
def allK (f : Nat → Oper → Prop) (ops : List Oper) (rs : List Nat) : Prop :=
  List.rec (motive := fun _ => Prop) True (fun i r ih => match r with
    | [] => match nthO ops i with
      | none => False
      | some o => f i o
    | _ :: _ => (match nthO ops i with
      | none => False
      | some o => f i o) ∧ ih) rs

theorem allK_spec {f : Nat → Oper → Prop} {ops : List Oper} : ∀ {rs : List Nat}, allK f ops rs → ∀ i ∈ rs, ∃ o, ops[i]? = some o ∧ f i o
  | [], _, i, hi => by cases hi
  | [x], h, i, hi => by
    simp only [List.mem_singleton] at hi
    subst hi
    have h : (match nthO ops i with
      | none => False
      | some o => f i o) := h
    split at h
    · exact h.elim
    · rename_i o ho
      rw [nthO_eq] at ho
      exact ⟨o, ho, h⟩
  | x :: y :: r, h, i, hi => by
    have h : (match nthO ops x with
      | none => False
      | some o => f x o) ∧ allK f ops (y :: r) := h
    obtain ⟨h1, h2⟩ := h
    rcases List.mem_cons.1 hi with rfl | hi
    · split at h1
      · exact h1.elim
      · rename_i o ho
        rw [nthO_eq] at ho
        exact ⟨o, ho, h1⟩
    · exact allK_spec h2 i hi

/-- One step of a walk in whatever order; 'ih': the steps behind it. -/
def drawS (T : Tbl) (h0 : List Blk) (ops : Array Oper) (k : St → Prop) (n : Nat) (ih : List Bool → St → Prop) (l : List Bool) (s : St) : Prop :=
  match rdyGo l 0 ops.toList l with
  | [] => k s
  | i :: rs => match s with
    | ⟨ts, h⟩ => tryPure T h0 ops ts l (fun i o v => forceE v fun v => putK ts h o.dst v fun s' => ih (setB l i) s')
      (match tailGo T ts h h0 l ops.toList l [] && Nat.ble (countF l) (n + 1) with
        | true => preK h0 h (tailRun T ops ops.toList l ⟨ts, h⟩ k)
        | false => allK (fun i o => opX T ops ⟨ts, h⟩ o fun s' => preK h0 s'.heap (ih (setB l i) s')) ops.toList (i :: rs)) (i :: rs)

/-- (By the recursor itself: so that the elaborator and the kernel unfold it alike.) -/
def drawX (T : Tbl) (h0 : List Blk) (ops : Array Oper) (k : St → Prop) (n : Nat) : List Bool → St → Prop :=
  Nat.rec (motive := fun _ => List Bool → St → Prop) (fun l s => match rdyGo l 0 ops.toList l with
    | [] => k s
    | _ :: _ => False) (fun n ih l s => drawS T h0 ops k n ih l s) n

theorem drawX_zero (T : Tbl) (h0 : List Blk) (ops : Array Oper) (k : St → Prop) (l : List Bool) (s : St) : drawX T h0 ops k 0 l s = (match rdyGo l 0 ops.toList l with
    | [] => k s
    | _ :: _ => False) := rfl
theorem drawX_succ (T : Tbl) (h0 : List Blk) (ops : Array Oper) (k : St → Prop) (n : Nat) (l : List Bool) (s : St) : drawX T h0 ops k (n + 1) l s = drawS T h0 ops k n (drawX T h0 ops k n) l s := rfl

def falses : List Oper → List Bool
  | [] => []
  | _ :: r => false :: falses r

theorem falses_eq : ∀ l : List Oper, falses l = List.replicate l.length false
  | [] => rfl
  | _ :: r => by simp [falses, falses_eq r, List.replicate_succ]

theorem length_setB (l : List Bool) (i : Nat) : (setB l i).length = l.length := by simp [setB_eq]

section draw
variable {T : Tbl} {E0 : Emb} {hs h0 : List Blk} {w0 : World} {D0 : List Deferred} {E00 : Emb} {ops : Array Oper} {Q : Exit → Act → World → Prop}

theorem px_held {E : Emb} {h : List Blk} {w : World} (S : Sim E00 h w) (le : E00.le E) (ev raw : Operand → EV) (ρ : Operand → Value) (o : Oper)
    (hev : ∀ x ∈ looks o.op, denE E (ev x) (ρ x)) (hraw : ∀ x, denE E (raw x) (ρ x)) (hne : px T h ev raw o.op ≠ .fail) : (px T h ev raw o.op).yl E T.P w (execOp ρ o) := by
  have := px_snd T (S.weak le) ev raw ρ o hev hraw
  rwa [px_app T _ _ _ _ _ hne] at this

theorem pureK_snd {E : Emb} {s : St} {a : Act} {w : World} (R : Rel ⟨E0, hs, w0, D0⟩ E s a w) (hS : Sim E00 h0 w) (le : E00.le E) {o : Oper} {yes : EV → Prop} {no : Prop}
    (hk : pureK T h0 ops s.tmps o yes no) : no ∨ ∃ v u, denE E v u ∧ yes v ∧ YieldsIf T.P ops (Sim E00 h0) o u a := by
  unfold pureK at hk
  have hev : (St.ev s) = evT s.tmps := rfl
  split at hk
  · rename_i hg
    have hw : Region.wanted o (yielded ops a.tmps) = true := by simp [Region.wanted, hg]
    have hpx : ∀ w', Sim E00 h0 w' → px T h0 (evT s.tmps) (evT s.tmps) o.op ≠ .fail → (px T h0 (evT s.tmps) (evT s.tmps) o.op).yl E T.P w' (execOp a.eval o) := fun w' S' hne =>
      px_held S' le _ _ a.eval o (fun x _ => ev_denE R.fr x) (fun x => ev_denE R.fr x) hne
    split at hk
    · rename_i v hv
      split at hk
      · rename_i hd
        have h1 := hpx w hS (by rw [hv]; simp)
        rw [hv] at h1
        obtain ⟨z, _, h2⟩ := h1
        refine .inr ⟨v, z, h2, hk, .inl ⟨hw, fun w' S' => ?_⟩⟩
        have h3 := hpx w' S' (by rw [hv]; simp)
        rw [hv] at h3
        obtain ⟨z', h4, h5⟩ := h3
        rw [detE_eq v _ _ hd h2 h5]
        exact h4
      · exact .inl hk
    · rename_i p v hv
      split at hk
      · rename_i hd
        obtain ⟨hp, hk⟩ := hk
        have h1 := hpx w hS (by rw [hv]; simp)
        rw [hv] at h1
        obtain ⟨z, _, h2⟩ := h1 hp
        refine .inr ⟨v, z, h2, hk, .inl ⟨hw, fun w' S' => ?_⟩⟩
        have h3 := hpx w' S' (by rw [hv]; simp)
        rw [hv] at h3
        obtain ⟨z', h4, h5⟩ := h3 hp
        rw [detE_eq v _ _ hd h2 h5]
        exact h4
      · exact .inl hk
    · exact .inl hk
  · rename_i j want hg
    obtain ⟨g, h1, hk⟩ := guardK_snd R hk
    have hw : Region.wanted o (yielded ops a.tmps) = g := by simp only [Region.wanted, hg]; exact h1
    have hob : ∀ {l : List Operand}, oblig g (l.map s.ev) → g = true → ∀ x ∈ l, denE E (strip (s.ev x)) (a.eval x) := fun {l} => by
      induction l with
      | nil => intro _ _ x hx; cases hx
      | cons y r ih =>
        intro h hg x hx
        have hy := ev_denE R.fr y
        simp only [List.map_cons] at h
        rcases List.mem_cons.1 hx with rfl | hx
        · cases he : s.ev x with
          | gd g' v =>
            rw [he] at h hy
            simp only [oblig] at h
            simp only [denE] at hy
            exact hy.1 (h.1 hg)
          | _ => rw [he] at hy; exact hy
        · refine ih ?_ hg x hx
          cases he : s.ev y with
          | gd g' v => rw [he] at h; exact h.2
          | _ => rw [he] at h; exact h
    have hpx : g = true → oblig g ((looks o.op).map s.ev) → ∀ w', Sim E00 h0 w' → px T h0 (fun x => strip (evT s.tmps x)) (evT s.tmps) o.op ≠ .fail →
        (px T h0 (fun x => strip (evT s.tmps x)) (evT s.tmps) o.op).yl E T.P w' (execOp a.eval o) := fun hg ho w' S' hne =>
      px_held S' le _ _ a.eval o (hob ho hg) (fun x => ev_denE R.fr x) hne
    split at hk
    · rename_i v hv
      split at hk
      · rename_i hd
        obtain ⟨ho, hk⟩ := (obligK_iff _ _ _).1 hk
        cases g with
        | false => exact .inr ⟨.gd false v, undef, by simp [denE], hk, .inr ⟨hw, rfl⟩⟩
        | true =>
          have h1 := hpx rfl ho w hS (by rw [hv]; simp)
          rw [hv] at h1
          obtain ⟨z, _, h2⟩ := h1
          refine .inr ⟨.gd true v, z, by simp only [denE]; exact ⟨fun _ => h2, fun h => by cases h⟩, hk, .inl ⟨hw, fun w' S' => ?_⟩⟩
          have h3 := hpx rfl ho w' S' (by rw [hv]; simp)
          rw [hv] at h3
          obtain ⟨z', h4, h5⟩ := h3
          rw [detE_eq v _ _ hd h2 h5]
          exact h4
      · exact .inl hk
    · rename_i p v hv
      split at hk
      · rename_i hd
        obtain ⟨ho, hp, hk⟩ := (obligK_iff _ _ _).1 hk
        cases g with
        | false => exact .inr ⟨.gd false v, undef, by simp [denE], hk, .inr ⟨hw, rfl⟩⟩
        | true =>
          have h1 := hpx rfl ho w hS (by rw [hv]; simp)
          rw [hv] at h1
          obtain ⟨z, _, h2⟩ := h1 (hp rfl)
          refine .inr ⟨.gd true v, z, by simp only [denE]; exact ⟨fun _ => h2, fun h => by cases h⟩, hk, .inl ⟨hw, fun w' S' => ?_⟩⟩
          have h3 := hpx rfl ho w' S' (by rw [hv]; simp)
          rw [hv] at h3
          obtain ⟨z', h4, h5⟩ := h3 (hp rfl)
          rw [detE_eq v _ _ hd h2 h5]
          exact h4
      · exact .inl hk
    · exact .inl hk

theorem tryPure_snd {E : Emb} {s : St} {a : Act} {w : World} (R : Rel ⟨E0, hs, w0, D0⟩ E s a w) (hS : Sim E00 h0 w) (le : E00.le E) {l : List Bool} {yes : Nat → Oper → EV → Prop} {no : Prop} :
    ∀ {rs : List Nat}, tryPure T h0 ops s.tmps l yes no rs → no ∨ ∃ i o v u, i ∈ rs ∧ ops[i]? = some o ∧ freeGo ops.toList i o 0 ops.toList l = true ∧ denE E v u ∧ yes i o v ∧ YieldsIf T.P ops (Sim E00 h0) o u a
  | [], hk => .inl hk
  | i :: r, hk => by
    have hk : (match nthO ops.toList i with
      | none => False
      | some o => match freeGo ops.toList i o 0 ops.toList l with
        | true => pureK T h0 ops s.tmps o (yes i o) (tryPure T h0 ops s.tmps l yes no r)
        | false => tryPure T h0 ops s.tmps l yes no r) := hk
    split at hk
    · exact hk.elim
    · rename_i o ho
      rw [nthO_eq, Array.getElem?_toList] at ho
      have rest : tryPure T h0 ops s.tmps l yes no r → no ∨ ∃ i' o v u, i' ∈ i :: r ∧ ops[i']? = some o ∧ freeGo ops.toList i' o 0 ops.toList l = true ∧ denE E v u ∧ yes i' o v ∧ YieldsIf T.P ops (Sim E00 h0) o u a := fun h => by
        rcases tryPure_snd R hS le h with h | ⟨i', o', v, u, h1, h2⟩
        · exact .inl h
        · exact .inr ⟨i', o', v, u, List.mem_cons_of_mem _ h1, h2⟩
      split at hk
      · rename_i hf
        rcases pureK_snd R hS le hk with h | ⟨v, u, h1, h2, h3⟩
        · exact rest h
        · exact .inr ⟨i, o, v, u, List.mem_cons_self, ho, hf, h1, h2, h3⟩
      · exact rest hk

theorem tail_snd (n0 : E0.n = hs.length) {k : St → Prop} (hn : ∀ E' s' a' w', k s' → Rel ⟨E0, hs, w0, D0⟩ E' s' a' w' → Q .normal a' w')
    {n : Nat} {l : List Bool} {E : Emb} {s : St} {a : Act} {w : World} (hl : l.length = ops.size) (R : Rel ⟨E0, hs, w0, D0⟩ E s a w) (hS : Sim E00 h0 w) (le : E00.le E)
    (ht : tailGo T s.tmps s.heap h0 l ops.toList l [] = true) (hc : countF l ≤ n) (hk : preK h0 s.heap (tailRun T ops ops.toList l s k)) : wpAnyH T.P .any ops Q (Sim E00 h0) n l.toArray a w := by
  obtain ⟨hpre, hk⟩ := preK_spec hk
  obtain ⟨t1, t2⟩ := tailGo_spec ht
  have hmem : ∀ i ∈ unl ops l.toArray, ∃ o, ops[i]? = some o ∧ ops.toList[i]? = some o ∧ l[i]? = some false := fun i hi => by
    obtain ⟨h1, h2⟩ := List.mem_filter.1 hi
    have h1 := List.mem_range.1 h1
    have h3 : l[i]? = some l[i] := List.getElem?_eq_getElem (by omega)
    refine ⟨ops[i], Array.getElem?_eq_getElem h1, by rw [Array.getElem?_toList]; exact Array.getElem?_eq_getElem h1, ?_⟩
    simp only [Array.getD_eq_getD_getElem?, List.getElem?_toArray, h3, Option.getD_some, Bool.not_eq_true'] at h2
    rw [h3, h2]
  have hsp : ∀ i o, ops[i]? = some o → stoN E T s.tmps s.heap a ops i = stoOf E T s.tmps s.heap a o := fun i o ho => by unfold stoN; rw [ho]
  have hoff : ∀ i ∈ unl ops l.toArray, ∀ j ∈ unl ops l.toArray, i < j → (stoN E T s.tmps s.heap a ops i).off (stoN E T s.tmps s.heap a ops j) := fun i hi j hj hij => by
    obtain ⟨o, h1, h2, h3⟩ := hmem i hi
    obtain ⟨o', k1, k2, k3⟩ := hmem j hj
    obtain ⟨p, q1, _⟩ := t1 i o h2 h3
    obtain ⟨p', q2, _⟩ := t1 j o' k2 k3
    rw [hsp i o h1, hsp j o' k1]
    exact sto_off T R ops q1 q2 (t2 i j o o' p p' h2 h3 k2 k3 hij q1 q2)
  refine stores_any (stoN E T s.tmps s.heap a ops) a n l.toArray w (by simpa using hl) (by rw [unl_length hl]; exact hc) hS (fun i hi => ?_) (fun i hi j hj hij => ?_) (fun i hi => ?_) (fun i hi w' hS' => ?_) ?_
  · obtain ⟨o, h1, h2, h3⟩ := hmem i hi
    obtain ⟨⟨b, off, m⟩, k1, k2, k3, _⟩ := t1 i o h2 h3
    obtain ⟨q1, q2, q3, q4, q5, q6, q7, q8⟩ := stoK_spec T R (ops := ops) k1
    refine ⟨o, h1, q1, q2, fun e he hb => ?_, by rw [hsp i o h1]; exact q8⟩
    rw [waitB_eq, List.all_eq_true] at k2
    have := k2 e (by simpa using he)
    rw [hb] at this
    simpa using this
  · rcases Nat.lt_or_gt_of_ne hij with h | h
    · exact hoff i hi j hj h
    · exact Sto.off_symm (hoff j hj i hi h)
  · obtain ⟨o, h1, h2, h3⟩ := hmem i hi
    obtain ⟨⟨b, off, m⟩, k1, k2, k3, _⟩ := t1 i o h2 h3
    obtain ⟨q1, q2, q3, q4, q5, q6, q7, q8⟩ := stoK_spec T R (ops := ops) k1
    rw [hsp i o h1]
    exact q7
  · obtain ⟨o, h1, h2, h3⟩ := hmem i hi
    obtain ⟨⟨b, off, m⟩, k1, k2, k3, _⟩ := t1 i o h2 h3
    obtain ⟨q1, q2, ⟨cs, sp, q3, q3', _⟩, q4, q5, q6, q7, q8⟩ := stoK_spec T R (ops := ops) k1
    rw [hsp i o h1]
    refine hS'.outside _ fun j B hj x hx1 hx2 => ?_
    rw [q5] at hx1 hx2
    rw [q6] at hx2
    rw [q4]
    rcases hpre j B hj with rfl | hB
    · intro h; exact h
    · have hjlt : j < E00.n := by
        rw [hS.n]
        rcases Nat.lt_or_ge j h0.length with h' | h'
        · exact h'
        · rw [List.getElem?_eq_none h'] at hj; cases hj
      rw [← le.2 j hjlt]
      refine R.sim.dis b j _ _ ?_ q3 hB rfl _ _ ⟨rfl, by omega, by omega⟩
      rintro rfl
      have hnb : nthB h0 b = some B := get_nthB hj
      simp only [deadAt, hnb] at k3
      cases B with
      | dead => rw [q3] at hB; cases hB
      | cells => cases k3
      | map => cases k3
  · have hu : unl ops l.toArray = (List.range' 0 l.length).filter fun j => !l.toArray.getD j true := by
      unfold unl
      rw [← hl, List.range_eq_range']
    have hpw : (unl ops l.toArray).Pairwise fun x y => (stoN E T s.tmps s.heap a ops x).off (stoN E T s.tmps s.heap a ops y) := by
      have h1 : (unl ops l.toArray).Pairwise (fun x y => x < y) := List.Pairwise.filter _ List.pairwise_lt_range
      exact List.Pairwise.imp_of_mem (fun {x y} hx hy hxy => hoff x hx y hy hxy) h1
    have hop : ∀ i ∈ unl ops l.toArray, (∃ o, ops[i]? = some o ∧ Region.wanted o (yielded ops a.tmps) = true ∧ o.dst = none ∧ ∀ w', (stoN E T s.tmps s.heap a ops i).can w' → (execOp a.eval o).run T.P w' = .ok .skip ((stoN E T s.tmps s.heap a ops i).on w')) ∧
        (stoN E T s.tmps s.heap a ops i).can w := fun i hi => by
      obtain ⟨o, h1, h2, h3⟩ := hmem i hi
      obtain ⟨⟨b, off, m⟩, k1, k2, k3, _⟩ := t1 i o h2 h3
      obtain ⟨q1, q2, q3, q4, q5, q6, q7, q8⟩ := stoK_spec T R (ops := ops) k1
      rw [hsp i o h1]
      exact ⟨⟨o, h1, q1, q2, q8⟩, q7⟩
    rw [hu] at hpw hop ⊢
    exact tail_run (O := ⟨E0, hs, w0, D0⟩) n0 _ (fun E' s' w' h1 h2 => hn E' s' _ w' h1 h2) l hl ops.toList l 0 (by simp) (by simp) (Nat.zero_le _) R hk (fun i hi => (hop i hi).1) hpw (fun i hi => (hop i hi).2)

theorem drawX_snd (n0 : E0.n = hs.length) (hsel : noSel ops.toList = true) (hQ : ∀ c a w, ¬ Q (.panic c) a w) (S0 : ∀ i, i < E00.n → E00.f i = E0.f i) (hn0 : E00.n ≤ E0.n) {k : St → Prop}
    (hn : ∀ E' s' a' w', k s' → Rel ⟨E0, hs, w0, D0⟩ E' s' a' w' → Q .normal a' w') :
    ∀ (n : Nat) (l : List Bool) {E : Emb} {s : St} {a : Act} {w : World}, l.length = ops.size → Rel ⟨E0, hs, w0, D0⟩ E s a w → Sim E00 h0 w → drawX T h0 ops k n l s → wpAnyH T.P .any ops Q (Sim E00 h0) n l.toArray a w
  | 0, l, E, s, a, w, hl, R, hS, hk => by
    simp only [drawX_zero] at hk
    rw [rdy_eq ops l hl] at hk
    split at hk
    · rename_i hr
      exact ⟨hr, hn _ _ _ _ hk R⟩
    · exact hk.elim
  | n + 1, l, E, s, a, w, hl, R, hS, hk => by
    have hle : ∀ {E s a w}, Rel ⟨E0, hs, w0, D0⟩ E s a w → E00.le E := fun {E s a w} R => by
      have h1 := R.sin.le n0 R.sim.n
      exact ⟨Nat.le_trans hn0 h1.1, fun i hi => by rw [h1.2 i (Nat.lt_of_lt_of_le hi hn0)]; exact (S0 i hi).symm⟩
    have hset : ∀ i, (setB l i).toArray = l.toArray.setIfInBounds i true := fun i => by simp [setB_eq]
    obtain ⟨ts, h⟩ := s
    simp only [drawX_succ, drawS] at hk
    rw [rdy_eq ops l hl] at hk
    split at hk
    · rename_i hr
      exact wpAnyH_done hr (hn _ _ _ _ hk R) _
    · rename_i i rs hr
      rcases tryPure_snd R hS (hle R) hk with hk | ⟨i', o, v, u, h1, h2, h3, h4, h5, h6⟩
      · split at hk
        · rename_i ht
          simp only [Bool.and_eq_true] at ht
          exact tail_snd n0 hn hl R hS (hle R) ht.1 (Nat.le_of_ble_eq_true ht.2) hk
        refine wpAnyH_all hr (by simp) fun j hj => ?_
        obtain ⟨o, ho, hk⟩ := allK_spec hk j hj
        have ho' : ops[j]? = some o := by simpa using ho
        have := opX_snd (O := ⟨E0, hs, w0, D0⟩) n0 R hk (next := fun a' w' => Sim E00 h0 w' ∧ wpAnyH T.P .any ops Q (Sim E00 h0) n (l.toArray.setIfInBounds j true) a' w') (Q := Q) (fun E' s' a' w' h1 h2 => by
          obtain ⟨h3, h4⟩ := preK_spec h1
          have hS' : Sim E00 h0 w' := hS.restrict (hle h2) h2.sim h3
          refine ⟨hS', ?_⟩
          rw [← hset]
          exact drawX_snd n0 hsel hQ S0 hn0 hn n (setB l j) (by rw [length_setB]; exact hl) h2 hS' h4)
        unfold wpOp
        simp only [ho']
        split
        · rename_i hw
          rw [if_pos hw] at this
          exact .inl this
        · rename_i hw
          rw [if_neg hw] at this
          exact this
      · simp only [forceE_eq, putK_eq] at h5
        refine wpAnyH_take h2 (noSel_eq hsel) (free_of h2 h3) ?_ (fun c a w h => absurd h (hQ c _ w)) h6 hS ?_
        · rw [hr]
          simpa using h1
        · rw [← hset]
          exact drawX_snd n0 hsel hQ S0 hn0 hn n (setB l i') (by rw [length_setB]; exact hl) (R.put o.dst h4) hS h5

end draw

/-- Some blocks of a small world, from its begin on; the others are let go. -/
def keptK : List Blk → List Blk → Prop
  | [], [] => True
  | .dead :: r, _ :: r' => keptK r r'
  | x :: r, y :: r' => x = y ∧ keptK r r'
  | _, _ => False

theorem keptK_spec : ∀ {h0 h : List Blk}, keptK h0 h → h0.length = h.length ∧ ∀ (i : Nat) (B : Blk), h0[i]? = some B → B = .dead ∨ h[i]? = some B
  | [], [], _ => ⟨rfl, fun i B hi => by simp at hi⟩
  | [], _ :: _, hk => hk.elim
  | x :: r, y :: r', hk => by
    have hk' : (x = .dead ∨ x = y) ∧ keptK r r' := by
      cases x with
      | dead => exact ⟨.inl rfl, hk⟩
      | cells m cs sp => exact ⟨.inr hk.1, hk.2⟩
      | map es => exact ⟨.inr hk.1, hk.2⟩
    obtain ⟨h1, h2⟩ := keptK_spec hk'.2
    refine ⟨by simp; exact h1, fun i B hi => ?_⟩
    cases i with
    | zero =>
      simp only [List.getElem?_cons_zero, Option.some.injEq] at hi ⊢
      subst hi
      exact hk'.1.imp id Eq.symm
    | succ i => simpa using h2 i B (by simpa using hi)
  | .dead :: _, [], hk => hk.elim
  | .cells .. :: _, [], hk => hk.elim
  | .map _ :: _, [], hk => hk.elim

theorem keptK_refl : ∀ h : List Blk, keptK h h
  | [] => trivial
  | .dead :: r => keptK_refl r
  | .cells .. :: r => ⟨rfl, keptK_refl r⟩
  | .map _ :: r => ⟨rfl, keptK_refl r⟩

theorem Sim.kept {E : Emb} {h h0 : List Blk} {w : World} (S : Sim E h w) (hk : keptK h0 h) : Sim E h0 w := by
  obtain ⟨h1, h2⟩ := keptK_spec hk
  refine ⟨by rw [h1]; exact S.n, fun i B hi => ?_, fun i j A B hij hi hj hA b o hc => ?_⟩
  · rcases h2 i B hi with rfl | h
    · trivial
    · exact S.ok i B h
  · rcases h2 i A hi with rfl | h
    · cases hA
    · rcases h2 j B hj with rfl | h'
      · intro hc'; exact hc'
      · exact S.dis i j A B hij h h' hA b o hc

theorem draw_core {T : Tbl} {O : Org} (on : O.E.n = O.h.length) {id : Nat} {ops : Array Oper} {s : St} {K : Exit → St → Prop} (h0 : List Blk) (hh : h0 = [] ∨ keptK h0 s.heap) (hsel : noSel ops.toList = true) (hQ : ∀ c s, ¬ K (.panic c) s)
    (hk : drawX T h0 ops (K .normal) ops.size (falses ops.toList) s) : DrawG T O id ops s K := by
  intro E a w R
  have RD : Rel O E s a w.drew := ⟨R.fr, R.df, R.sim.drew, R.sin.trans on R.sim.n (Since.drew E s.heap w)⟩
  have fal : (falses ops.toList).toArray = Array.replicate ops.size false := by simp [falses_eq]
  let E00 : Emb := ⟨h0.length, E.f⟩
  have hn0 : E00.n ≤ E.n := by
    rcases hh with rfl | hh
    · exact Nat.zero_le _
    · rw [R.sim.n]; exact Nat.le_of_eq (keptK_spec hh).1
  have hS : Sim E00 h0 w.drew := by
    rcases hh with rfl | hh
    · exact ⟨rfl, fun i B hi => by simp at hi, fun i j A B _ hi => by simp at hi⟩
    · have h1 := R.sim.drew.kept hh
      have : E00 = E := by
        have := R.sim.n
        have := (keptK_spec hh).1
        cases E
        simp only [E00] at *
        simp [*]
      rw [this]
      exact h1
  refine wp_region_held (S := Sim E00 h0) T.mixed ?_
  rw [← fal]
  refine drawX_snd (E00 := E00) (h0 := h0) (E0 := E) (hs := s.heap) (w0 := w.drew) (D0 := O.D) R.sim.n hsel (fun c a w h => ?_) (fun i _ => rfl) hn0 (k := K .normal) (fun E' s' a' w' h1 h2 => ?_) ops.size _ (by simp [falses_eq])
    ⟨R.fr, R.df, R.sim.drew, Since.refl _ _ _⟩ hS hk
  · obtain ⟨E, s, h1, _⟩ := h
    exact hQ c s h1
  · exact ⟨E', s', h1, h2.fr, h2.df, h2.sim, RD.sin.trans on R.sim.n h2.sin⟩

/-- **A region that draws its order: loads may be taken first, for no block that was there is written.** -/
theorem draw_held {T : Tbl} {O : Org} (on : O.E.n = O.h.length) {id : Nat} {ops : Array Oper} {s : St} {K : Exit → St → Prop} (hsel : noSel ops.toList = true) (hQ : ∀ c s, ¬ K (.panic c) s)
    (hk : drawX T s.heap ops (K .normal) ops.size (falses ops.toList) s) : DrawG T O id ops s K := draw_core on s.heap (.inr (keptK_refl _)) hsel hQ hk

/-- Some blocks are let go: those with these numbers. -/
def killK (l : List Nat) : List Blk → (List Blk → Prop) → Prop :=
  List.rec (motive := fun _ => List Blk → (List Blk → Prop) → Prop) (fun h k => k h) (fun i _ ih h k => updBK h i .dead fun h => ih h k) l

theorem keptK_upd : ∀ {h0 h : List Blk} (i : Nat), keptK h0 h → keptK (updB h0 i .dead) h
  | [], [], _, hk => hk
  | [], _ :: _, _, hk => hk.elim
  | .dead :: _, [], _, hk => hk.elim
  | .cells .. :: _, [], _, hk => hk.elim
  | .map _ :: _, [], _, hk => hk.elim
  | x :: r, y :: r', i, hk => by
    have hk' : (x = .dead ∨ x = y) ∧ keptK r r' := by
      cases x with
      | dead => exact ⟨.inl rfl, hk⟩
      | cells m cs sp => exact ⟨.inr hk.1, hk.2⟩
      | map es => exact ⟨.inr hk.1, hk.2⟩
    cases i with
    | zero => exact hk'.2
    | succ i =>
      have := keptK_upd i hk'.2
      rcases hk'.1 with rfl | rfl
      · exact this
      · cases x with
        | dead => exact this
        | cells m cs sp => exact ⟨rfl, this⟩
        | map es => exact ⟨rfl, this⟩

theorem killK_spec : ∀ {l : List Nat} {h1 h : List Blk} {k : List Blk → Prop}, keptK h1 h → killK l h1 k → ∃ h0, keptK h0 h ∧ k h0
  | [], h1, h, k, h2, hk => ⟨h1, h2, hk⟩
  | i :: r, h1, h, k, h2, hk => by
    have hk : updBK h1 i .dead (fun h => killK r h k) := hk
    rw [updBK_eq] at hk
    exact killK_spec (keptK_upd i h2) hk

/-- **A region that draws its order: loads may be taken first, out of blocks that are not written; the blocks of these numbers may be written.** -/
theorem draw_but (l : List Nat) {T : Tbl} {O : Org} (on : O.E.n = O.h.length) {id : Nat} {ops : Array Oper} {s : St} {K : Exit → St → Prop} (hsel : noSel ops.toList = true) (hQ : ∀ c s, ¬ K (.panic c) s)
    (hk : killK l s.heap fun h0 => drawX T h0 ops (K .normal) ops.size (falses ops.toList) s) : DrawG T O id ops s K := by
  obtain ⟨h0, h1, h2⟩ := killK_spec (keptK_refl s.heap) hk
  exact draw_core on h0 (.inr h1) hsel hQ h2

/-- **A region that draws its order: what looks at no memory is taken first.** -/
theorem draw_free {T : Tbl} {O : Org} (on : O.E.n = O.h.length) {id : Nat} {ops : Array Oper} {s : St} {K : Exit → St → Prop} (hsel : noSel ops.toList = true) (hQ : ∀ c s, ¬ K (.panic c) s)
    (hk : drawX T [] ops (K .normal) ops.size (falses ops.toList) s) : DrawG T O id ops s K := draw_core on [] (.inl rfl) hsel hQ hk

end Go.Anv
