/- The engine, part 12: states with fewer blocks and other numbers: at a loop's head, at a function's end. Plain theorems; their condition: the blocks that were there at the begin keep their numbers. -/
import Derived.Test.YtghcdkpgcanpgaaE11
namespace Go.Anv
open Go

def idK : Nat → Nat → List Nat → Prop
  | _, 0, _ => True
  | k, n + 1, x :: r => x = k ∧ idK (k + 1) n r
  | _, _ + 1, [] => False

theorem idK_get : ∀ {n k : Nat} {κ : List Nat}, idK k n κ → ∀ i, i < n → κ[i]? = some (k + i)
  | 0, _, _, _, i, hi => by omega
  | n + 1, k, x :: r, h, 0, _ => by simp [h.1]
  | n + 1, k, x :: r, h, i + 1, hi => by
    have := idK_get h.2 i (by omega)
    simp only [List.getElem?_cons_succ, this, Option.some.injEq]
    omega
  | n + 1, k, [], h, _, _ => h.elim

/-- Blocks of a small world, by their numbers, stand for others. -/
def subQ (h : List Blk) : List Nat → List Blk → Prop
  | [], [] => True
  | k :: κ, B :: r => (∃ A, nthB h k = some A ∧ eqvB A B) ∧ subQ h κ r
  | _, _ => False

theorem subQ_get {h : List Blk} : ∀ {κ : List Nat} {r : List Blk}, subQ h κ r → κ.length = r.length ∧ ∀ (i : Nat) (B : Blk), r[i]? = some B → ∃ k A, κ[i]? = some k ∧ h[k]? = some A ∧ eqvB A B
  | [], [], _ => ⟨rfl, fun i B hi => by simp at hi⟩
  | k :: κ, B :: r, hk => by
    obtain ⟨h1, h2⟩ := subQ_get hk.2
    refine ⟨by simp [h1], fun i C hi => ?_⟩
    cases i with
    | zero =>
      simp only [List.getElem?_cons_zero, Option.some.injEq] at hi
      subst hi
      obtain ⟨A, h3, h4⟩ := hk.1
      exact ⟨k, A, by simp, nthB_get h3, h4⟩
    | succ i => simpa using h2 i C (by simpa using hi)
  | [], _ :: _, hk => hk.elim
  | _ :: _, [], hk => hk.elim

/-- One small world tells no more than another, with other numbers. -/
theorem Sim.renum {E : Emb} {h H : List Blk} {w : World} (S : Sim E h w) {κ : List Nat} (hnd : κ.Nodup) (hh : subQ h κ (renH (lk κ h.length) H)) :
    Sim ⟨H.length, fun i => E.f (lk κ h.length i)⟩ H w ∧ (∀ b, lk κ h.length b < E.n → b < H.length) ∧ (∀ b, b < H.length → lk κ h.length b < E.n) ∧
      (∀ b o, mutAt ⟨H.length, fun i => E.f (lk κ h.length i)⟩ H b o → mutAt E h b o) := by
  obtain ⟨hl, hget⟩ := subQ_get hh
  rw [length_renH] at hl
  have hblk : ∀ (i : Nat) (B : Blk), H[i]? = some B → ∃ A, h[lk κ h.length i]? = some A ∧ eqvB A (renB (lk κ h.length) B) := fun i B hi => by
    obtain ⟨k, A, h1, h2, h3⟩ := hget i (renB (lk κ h.length) B) (by rw [renH_get, hi]; rfl)
    have hi' : i < κ.length := by have := lt_of_get hi; omega
    have h4 : lk κ h.length i = k := by
      rw [look_lt κ _ i hi']
      rw [List.getElem?_eq_getElem hi'] at h1
      exact Option.some.inj h1
    exact ⟨A, by rw [h4]; exact h2, h3⟩
  have hκ : ∀ i, i < H.length → lk κ h.length i < h.length := fun i hi => by
    obtain ⟨A, h1, _⟩ := hblk i _ (List.getElem?_eq_getElem hi)
    exact lt_of_get h1
  have hinj : ∀ i j, lk κ h.length i = lk κ h.length j → i = j := fun i j hij => by
    rcases Nat.lt_or_ge i κ.length with h1 | h1 <;> rcases Nat.lt_or_ge j κ.length with h2 | h2
    · rw [look_lt κ _ i h1, look_lt κ _ j h2] at hij
      have hp := List.pairwise_iff_getElem.1 hnd
      rcases Nat.lt_trichotomy i j with h3 | h3 | h3
      · exact absurd hij (hp i j h1 h2 h3)
      · exact h3
      · exact absurd hij.symm (hp j i h2 h1 h3)
    · have := hκ i (by omega)
      rw [hij, look_ge κ _ j h2] at this
      omega
    · have := hκ j (by omega)
      rw [← hij, look_ge κ _ i h1] at this
      omega
    · rw [look_ge κ _ i h1, look_ge κ _ j h2] at hij
      omega
  have hfwd : ∀ b, lk κ h.length b < E.n → b < H.length := fun b hb => by
    rcases Nat.lt_or_ge b κ.length with h1 | h1
    · omega
    · rw [look_ge κ _ b h1, S.n] at hb
      omega
  have hbwd : ∀ b, b < H.length → lk κ h.length b < E.n ∧ E.f (lk κ h.length b) = E.f (lk κ h.length b) := fun b hb => ⟨by rw [S.n]; exact hκ b hb, rfl⟩
  refine ⟨⟨rfl, fun i B hi => ?_, fun i j A B hij hi hj hA b o hcv hcv' => ?_⟩, hfwd, fun b hb => (hbwd b hb).1, fun b o hm => ?_⟩
  · obtain ⟨A, h1, h2⟩ := hblk i B hi
    exact (okBlk_ren (E := ⟨H.length, fun i => E.f (lk κ h.length i)⟩) hfwd hbwd B).1 (eqvB_ok h2 (S.ok _ _ h1))
  · obtain ⟨A', h1, h2⟩ := hblk i A hi
    obtain ⟨B', h3, h4⟩ := hblk j B hj
    refine S.dis (lk κ h.length i) (lk κ h.length j) A' B' (fun e => hij (hinj i j e)) h1 h3 ?_ b o ?_ ?_
    · rw [(eqvB_cov (p := E.f (lk κ h.length i)) h2 b o).2, mut_ren]; exact hA
    · exact (eqvB_cov h2 b o).1.2 ((cov_ren _ A b o).2 hcv)
    · exact (eqvB_cov h4 b o).1.2 ((cov_ren _ B b o).2 hcv')
  · obtain ⟨i, B, hi, hB, hcv⟩ := hm
    obtain ⟨A', h1, h2⟩ := hblk i B hi
    exact ⟨_, A', h1, by rw [(eqvB_cov (p := E.f (lk κ h.length i)) h2 b o).2, mut_ren]; exact hB, (eqvB_cov h2 b o).1.2 ((cov_ren _ B b o).2 hcv)⟩

theorem Since.renum {E0 E : Emb} {h0 h H : List Blk} {w0 w : World} (n0 : E0.n = h0.length) (S : Sim E h w) (N : Since E0 h0 w0 E h w) {κ : List Nat} (hnd : κ.Nodup) (hid : idK 0 E0.n κ) (hh : subQ h κ (renH (lk κ h.length) H)) :
    Since E0 h0 w0 ⟨H.length, fun i => E.f (lk κ h.length i)⟩ H w := by
  obtain ⟨S', h1, h2, h3⟩ := S.renum hnd hh
  have hκ : ∀ i, i < E0.n → lk κ h.length i = i := fun i hi => by
    have h4 := idK_get hid i hi
    have h5 : i < κ.length := by
      rcases Nat.lt_or_ge i κ.length with h' | h'
      · exact h'
      · rw [List.getElem?_eq_none h'] at h4; cases h4
    rw [look_lt κ _ i h5]
    rw [List.getElem?_eq_getElem h5] at h4
    simpa using h4
  refine ⟨?_, fun i hi => ?_, N.size, N.frame, N.cells, fun b o hm hb => N.new b o (h3 b o hm) hb, N.os, N.tape, N.output, N.rows⟩
  · rw [← n0]
    rcases Nat.eq_zero_or_pos E0.n with h4 | h4
    · rw [h4]; exact Nat.zero_le _
    · have := h1 (E0.n - 1) (by
        rw [hκ _ (by omega)]
        have := N.len
        rw [S.n]
        omega)
      omega
  · show E.f (lk κ h.length i) = E0.f i
    rw [hκ i hi]
    exact N.same i hi

/-- One state tells no more than another, with other numbers; the first n blocks keep theirs. -/
structure leR (n : Nat) (κ : List Nat) (s t : St) : Prop where
  nd : κ.Nodup
  id : idK 0 n κ
  tmps : eqvT s.tmps (renT (lk κ s.heap.length) t.tmps)
  heap : subQ s.heap κ (renH (lk κ s.heap.length) t.heap)

theorem length_renT (ρ : Nat → Nat) : ∀ l : List EV, (renT ρ l).length = l.length
  | [] => rfl
  | _ :: r => by simp [renT, length_renT ρ r]

theorem nth_renT (ρ : Nat → Nat) : ∀ (l : List EV) (i : Nat), nth (renT ρ l) i = renE ρ (nth l i)
  | [], _ => by simp [renT, nth, renE]
  | _ :: _, 0 => by simp [renT, nth]
  | _ :: r, i + 1 => by simp only [renT, nth]; exact nth_renT ρ r i

theorem Rel.renum {O : Org} (on : O.E.n = O.h.length) {E : Emb} {s t : St} {a : Act} {w : World} (R : Rel O E s a w) {κ : List Nat} (h : leR O.E.n κ s t) : ∃ E', Rel O E' t a w := by
  obtain ⟨S', h1, h2, h3⟩ := R.sim.renum h.nd h.heap
  refine ⟨⟨t.heap.length, fun i => E.f (lk κ s.heap.length i)⟩, ⟨?_, fun i v hi => ?_⟩, R.df, S', R.sin.renum on R.sim h.nd h.id h.heap⟩
  · rw [R.fr.1, (eqvT_nth (E := E) h.tmps).1, length_renT]
  · have := (eqvT_nth (E := E) h.tmps).2 i v (R.fr.2 i v hi)
    rw [nth_renT] at this
    exact (denE_ren (E := ⟨t.heap.length, fun i => E.f (lk κ s.heap.length i)⟩) h1 (fun b hb => ⟨h2 b hb, rfl⟩) _ _).1 this

/-! ### loops -/

def roundR {A : Type} (n : Nat) (c : Code) (s : St) (C : A → List (Nat × EV)) (H : A → List Blk) (I : A → Prop) (μ : A → Nat) (x : A) (K : Exit → St → Prop) : Exit → St → Prop
  | .normal, s' => ∃ y, I y ∧ μ y < μ x ∧ ∃ κ, headK c s (C y) (H y) fun t => leR n κ s' t
  | e, s' => K e s'

/-- **A loop, by what its slots and the heap hold at each round's head; a round may leave blocks behind that are no longer looked at.** -/
theorem loop_in {T : Tbl} {O : Org} {A : Type} {c : Code} {s : St} {K : Exit → St → Prop} (on : O.E.n = O.h.length) (C : A → List (Nat × EV)) (H : A → List Blk) (I : A → Prop) (μ : A → Nat) (x0 : A) (h0 : I x0)
    (κ0 : List Nat) (hs : headK c s (C x0) (H x0) fun t => leR O.E.n κ0 s t)
    (round : ∀ x, I x → headK c s (C x) (H x) fun t => wpx T O c t (roundR O.E.n c s C H I μ x K)) : LoopG T O c s K := by
  intro E a w R
  rw [headK_eq] at hs
  obtain ⟨E, R⟩ := R.renum on hs
  refine wp_loop_ghost (fun n a w => ∃ E x, I x ∧ Rel O E ⟨laterT (C x) (forgetT (writes c) s.tmps), H x⟩ a w ∧ μ x = n) (μ x0) ⟨E, x0, h0, R, rfl⟩ ?_
  rintro n a w ⟨E, x, hI, R, rfl⟩
  have h := round x hI
  rw [headK_eq] at h
  refine Code.wp_mono ?_ (wpx_snd on c h R)
  rintro e a' w' ⟨E', s', hk, R'⟩
  cases e <;> first
    | (obtain ⟨y, h1, h2, κ, h3⟩ := hk
       rw [headK_eq] at h3
       obtain ⟨E'', R''⟩ := R'.renum on h3
       exact ⟨μ y, h2, E'', y, h1, R'', rfl⟩)
    | exact ⟨E', s', hk, R'⟩

/-- A nil slice is a growing one without elements: ahead of a loop that appends. -/
theorem loop_nil {T : Tbl} {O : Org} (on : O.E.n = O.h.length) {c : Code} {s : St} {K : Exit → St → Prop} (d : Nat) (k : IntKind) (f : Nat → Int) (hd : nth s.tmps d = .s .nilslice)
    (hk : pushBK s.heap 0 (.cells true [.ints k 0 f] 0) fun N h => updK s.tmps d (.s (.gs N 0 0 0)) fun ts => LoopG T O c ⟨ts, h⟩ K) : LoopG T O c s K := by
  intro E a w R
  rw [pushBK_eq, updK_eq, Nat.zero_add] at hk
  obtain ⟨S', N'⟩ := push_nil R.sim (cs := [.ints k 0 f]) ⟨[], rfl, rfl⟩
  refine hk _ a w ⟨⟨?_, fun i v hi => ?_⟩, R.df, S', R.sin.trans on R.sim.n N'⟩
  · rw [length_upd]; exact R.fr.1
  · have h1 := R.fr.2 i v hi
    rw [nth_upd]
    split
    · rename_i hc
      obtain ⟨rfl, _⟩ := hc
      rw [hd] at h1
      simp only [denE, denV] at h1 ⊢
      rw [← R.sim.n, Emb.push_new]
      exact ⟨by simp [Emb.push], fun _ => ⟨trivial, trivial⟩, by simpa using h1⟩
    · exact denE_mono (N'.le R.sim.n S'.n) _ _ h1

/-! ### a function's end -/

/-- What a function leaves, with fewer blocks and other numbers. -/
def Ends (n : Nat) (Q : EV → List Blk → Prop) (v : EV) (h : List Blk) : Prop :=
  ∃ V H κ, Q V H ∧ κ.Nodup ∧ idK 0 n κ ∧ eqvE v (renE (lk κ h.length) V) ∧ subQ h κ (renH (lk κ h.length) H)

/-- **A function whose body is walked over a small heap.** -/
theorem fnX_does (T : Tbl) {f : FuncId} {F : Func} (hF : T.P.funcs[f]? = some F) (hb : F.body.isNone = false) (hname : (F.name == "runtime.NumGoroutine") = false) {args : List EV} {h : List Blk} {Q : EV → List Blk → Prop}
    (hX : ∀ O : Org, O.E.n = O.h.length → O.E.n = h.length → fnX T O F args h (Ends h.length Q)) : Does T f args h Q := by
  refine ⟨.inl ⟨⟨F, hF, hb, hname⟩, fun E w vs S ha => ?_⟩⟩
  have c := fnX_call T hF (args := args) (h := h) (Q := Ends h.length Q) (fun E w S => hX _ S.n S.n) E w vs S ha
  refine c.mono ?_
  rintro e w' ⟨v, x, h', E', rfl, hd, S', N', V, H, κ, hq, hnd, hid, hv, hh⟩
  obtain ⟨S'', h1, h2, h3⟩ := S'.renum hnd hh
  refine ⟨v, V, H, _, rfl, ?_, S'', N'.renum S.n S' hnd (by rw [S.n]; exact hid) hh, hq⟩
  exact (denE_ren (E := ⟨H.length, fun i => E'.f (lk κ h'.length i)⟩) h1 (fun b hb => ⟨h2 b hb, rfl⟩) _ _).1 (eqvE_den _ _ _ hv hd)


/-- No block of a small world may be written. -/
def roAll : List Blk → Prop
  | [] => True
  | B :: r => B.mut = false ∧ roAll r

theorem roAll_get : ∀ {h : List Blk}, roAll h → ∀ (i : Nat) (B : Blk), h[i]? = some B → B.mut = false
  | B :: r, hr, 0, C, hi => by simp only [List.getElem?_cons_zero, Option.some.injEq] at hi; subst hi; exact hr.1
  | B :: r, hr, i + 1, C, hi => roAll_get hr.2 i C (by simpa using hi)
  | [], _, i, C, hi => by simp at hi

/-- **A call over memory that may not be written: what was there is as it was.** -/
theorem Does.below {T : Tbl} {f : FuncId} {args : List EV} {h : List Blk} {Q : EV → List Blk → Prop} (d : Does T f args h Q) (hf : isFn T f) {E : Emb} {w : World} {vs : Array Value} (S : Sim E h w) (ha : denT E args vs.toList) (hr : roAll h) :
    Calls T.P f vs w fun e w' => (∃ v x h' E', e = .returned v ∧ denE E' x v ∧ Q x h') ∧ RowKit.Below w.heap.size w w' := by
  rcases d.go with ⟨_, c⟩ | c
  · refine (c E w vs S ha).mono ?_
    rintro e w' ⟨v, x, h', E', h1, h2, _, N, h5⟩
    refine ⟨⟨v, x, h', E', h1, h2, h5⟩, N.os, N.tape, N.output, N.size, fun k hk => N.frame k hk (fun o hm => ?_)⟩
    obtain ⟨i, B, hi, hB, _⟩ := hm
    rw [roAll_get hr i B hi] at hB
    cases hB
  · obtain ⟨F, hF, hb, hname⟩ := hf
    obtain ⟨u, w', hr, _⟩ := c E w vs S ha
    have : (callFunc f vs).run T.P w = .ok (.enter f vs) w := by
      simp only [callFunc, Sem.run_bind, Result.andThen_ok, run_program, hF]
      simp [hb]
      intro hh
      simp [hh] at hname
    rw [this] at hr
    cases hr

end Go.Anv
