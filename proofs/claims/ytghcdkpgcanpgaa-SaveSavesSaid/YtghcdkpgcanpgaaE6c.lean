/- The engine, part 6c: the operations with an effect, and the walker as a whole. Plain theorems; their conditions are the table's own facts. -/
import Derived.Test.YtghcdkpgcanpgaaE6b
namespace Go.Anv
open Go

/-! ### one operation -/

section walk
variable {T : Tbl} {O : Org} (on : O.E.n = O.h.length) {E : Emb} {s : St} {a : Act} {w : World}
include on

theorem newX_snd (R : Rel O E s a w) (t : TypeId) {cs : List Seg} {v : Value} (hd : denS E cs v.cells.toList) (dst : Option Tmp) {k : St → Prop} (hk : newX s.tmps s.heap cs dst k) {next : Act → World → Prop}
    (hn : ∀ E' s' a' w', k s' → Rel O E' s' a' w' → next a' w') : next (a.put dst (.pointer (some ⟨w.heap.size, 0, none⟩))) (w.alloc (.cells v.cells t)) := by
  obtain ⟨h1, h2⟩ := new_snd R.sim t hd
  simp only [newX, forceS_eq, pushBK_eq, putK_eq] at hk
  refine hn _ _ _ _ hk ((R.on on h1 h2).put dst ?_)
  simp only [denE, denV]
  rw [Nat.zero_add, ← R.sim.n]
  exact ⟨by simp [Emb.push], by rw [push_at]⟩

theorem invD_snd (R : Rel O E s a w) {m : String} {r : EV} {args : List EV} {k : EV → List Blk → Prop} (hk : invD T m r args s.heap k) {rv : Value} {vs : Array Value} (hr : denE E r rv) (ha : denT E args vs.toList)
    {o : Oper} {next : Act → World → Prop} {Q : Exit → Act → World → Prop}
    (hn : ∀ E' v h' u w', k v h' → denE E' v u → Rel O E' { s with heap := h' } a w' → next (a.put o.dst u) w') :
    o.upon T.P a next Q ((invoke (.fn (.method m) #[]) (#[rv] ++ vs) : Sem Next).run T.P w) := by
  unfold invD at hk
  split at hk
  · rename_i t b off
    split at hk
    · rename_i f hf
      simp only [denE, denV, denL] at hr
      obtain ⟨x, rfl, v, _, hx, ⟨hb, rfl⟩, rfl⟩ := hr
      simp only [List.cons.injEq, and_true] at hx
      subst hx
      have hm := (T.mthOk t m f hf (E.at b off) w).1
      have hargs : denT E (.s (.ptr b off) :: args) (#[Value.pointer (some (E.at b off))] ++ vs).toList := by
        simp only [Array.toList_append]
        exact ⟨_, _, rfl, ⟨hb, rfl⟩, ha⟩
      have hinv : ∀ (r : Result Next), (callFunc f (#[Value.pointer (some (E.at b off))] ++ vs)).run T.P w = r → (invoke (.fn (.method m) #[]) (#[Value.iface t (.pointer (some (E.at b off)))] ++ vs) : Sem Next).run T.P w = r := fun r h0 => by
        have h1 : (#[Value.iface t (.pointer (some (E.at b off)))] ++ vs)[0]? = some (.iface t (.pointer (some (E.at b off)))) := by
          rw [Array.getElem?_append_left (by simp)]
          rfl
        have h2 : (#[Value.iface t (.pointer (some (E.at b off)))] ++ vs).extract 1 (#[Value.iface t (.pointer (some (E.at b off)))] ++ vs).size = vs := by
          rw [← Array.toList_inj, Array.toList_extract, List.extract_eq_take_drop]
          simp only [Array.toList_append, List.singleton_append, List.drop_succ_cons, List.drop_zero, Array.size_append, List.size_toArray, List.length_cons, List.length_nil]
          exact List.take_of_length_le (by simp)
        simp only [invoke, h1, callMethod, Sem.run_bind, run_program, Result.andThen_ok, hm, h2]
        exact h0
      rcases hk.go with ⟨⟨F, hF, hbd, hname⟩, hc⟩ | hx
      · have hrun : (callFunc f (#[Value.pointer (some (E.at b off))] ++ vs)).run T.P w = .ok (.enter f (#[Value.pointer (some (E.at b off))] ++ vs)) w := by
          simp only [callFunc, Sem.run_bind, Result.andThen_ok, run_program, hF]
          simp [hbd]
          intro hh
          simp [hh] at hname
        rw [hinv _ hrun, Oper.upon_enter]
        refine (hc E w _ R.sim hargs).mono ?_
        rintro e w' ⟨v, x, h', E', rfl, hd, S', N', hk'⟩
        exact hn E' x h' v w' hk' hd (R.on on S' N')
      · obtain ⟨u, w', hr, v, x, h', E', he, hd, S', N', hk'⟩ := hx E w _ R.sim hargs
        simp only [Ending.returned.injEq] at he
        subst he
        rw [hinv _ hr, Oper.upon_value]
        exact hn E' x h' u w' hk' hd (R.on on S' N')
    · exact hk.elim
  · exact hk.elim

theorem invX_snd (R : Rel O E s a w) {m : String} {r : EV} {args : List EV} {k : EV → List Blk → Prop} (hk : invX T m r args s.heap k) {rv : Value} {vs : Array Value} (hr : denE E r rv) (ha : denT E args vs.toList)
    {o : Oper} {next : Act → World → Prop} {Q : Exit → Act → World → Prop}
    (hn : ∀ E' v h' u w', k v h' → denE E' v u → Rel O E' { s with heap := h' } a w' → next (a.put o.dst u) w') :
    o.upon T.P a next Q ((invoke (.fn (.method m) #[]) (#[rv] ++ vs) : Sem Next).run T.P w) := by
  unfold invX at hk
  rw [evK_eq] at hk
  simp only [List.map_nil, List.append_nil] at hk
  exact invD_snd on R hk hr ha hn

theorem callX_snd (R : Rel O E s a w) {f : EV} {args : List EV} {k : EV → List Blk → Prop} (hk : callX T f args s.heap k) {fv : Value} {vs : Array Value} (hf : denE E f fv) (ha : denT E args vs.toList)
    {o : Oper} {next : Act → World → Prop} {Q : Exit → Act → World → Prop}
    (hn : ∀ E' v h' u w', k v h' → denE E' v u → Rel O E' { s with heap := h' } a w' → next (a.put o.dst u) w') :
    o.upon T.P a next Q ((do let d ← Deferred.ofValue fv vs; invoke d.target d.args : Sem Next).run T.P w) := by
  unfold callX at hk
  split at hk
  · rename_i f a1 c1
    rw [argsK_eq] at hk
    simp only [denE, denV] at hf
    obtain ⟨f', c', rfl, h1, h2⟩ := hf
    have hm : ∀ {l : List SV} {vs : List Value}, denL E l vs → denT E (l.map .s) vs := fun {l} => by
      induction l with
      | nil => intro vs h; simpa only [denL, denT, List.map_nil] using h
      | cons x r ih =>
        intro vs h
        simp only [denL] at h
        obtain ⟨v, l', rfl, h3, h4⟩ := h
        simp only [List.map_cons, denT]
        exact ⟨v, l', rfl, h3, ih h4⟩
    have happ : ∀ {x y : List EV} {p q : List Value}, denT E x p → denT E y q → denT E (x ++ y) (p ++ q) := fun {x} => by
      induction x with
      | nil => intro y p q h3 h4; simp only [denT] at h3; subst h3; exact h4
      | cons z r ih =>
        intro y p q h3 h4
        simp only [denT] at h3
        obtain ⟨v, l', rfl, h5, h6⟩ := h3
        exact ⟨v, l' ++ q, rfl, h5, ih h6 h4⟩
    have hargs : denT E (a1.map .s ++ args ++ c1.map .s) (f' ++ vs ++ c').toList := by simp only [Array.toList_append]; exact happ (happ (hm h1) ha) (hm h2)
    rcases hk.go with ⟨⟨F, hF, hb, hname⟩, hc⟩ | hx
    · have hrun : (do let d ← Deferred.ofValue (.func (.func f) f' c') vs; invoke d.target d.args : Sem Next).run T.P w = .ok (.enter f (f' ++ vs ++ c')) w := by
        simp only [Deferred.ofValue, invoke, callFunc, Sem.run_bind, Result.andThen_ok, pure_bind, run_program, hF]
        simp [hb]
        intro hh
        simp [hh] at hname
      rw [hrun, Oper.upon_enter]
      refine (hc E w (f' ++ vs ++ c') R.sim hargs).mono ?_
      rintro e w' ⟨v, x, h', E', rfl, hd, S', N', hk'⟩
      exact hn E' x h' v w' hk' hd (R.on on S' N')
    · obtain ⟨u, w', hr, v, x, h', E', he, hd, S', N', hk'⟩ := hx E w (f' ++ vs ++ c') R.sim hargs
      simp only [Ending.returned.injEq] at he
      subst he
      have hrun : (do let d ← Deferred.ofValue (.func (.func f) f' c') vs; invoke d.target d.args : Sem Next).run T.P w = .ok (.value u) w' := by
        simp only [Deferred.ofValue, invoke, pure_bind]
        exact hr
      rw [hrun, Oper.upon_value]
      exact hn E' x h' u w' hk' hd (R.on on S' N')
  · rename_i m r a1 c1
    rw [argsK_eq] at hk
    simp only [List.map_nil, List.append_nil] at hk
    simp only [denE, denV, denL] at hf
    obtain ⟨f', c', rfl, ⟨rv, fl, hfl, h1, h2⟩, _⟩ := hf
    have hm : ∀ {l : List SV} {vs : List Value}, denL E l vs → denT E (l.map .s) vs := fun {l} => by
      induction l with
      | nil => intro vs h; simpa only [denL, denT, List.map_nil] using h
      | cons x r ih =>
        intro vs h
        simp only [denL] at h
        obtain ⟨v, l', rfl, h3, h4⟩ := h
        simp only [List.map_cons, denT]
        exact ⟨v, l', rfl, h3, ih h4⟩
    have happ : ∀ {x y : List EV} {p q : List Value}, denT E x p → denT E y q → denT E (x ++ y) (p ++ q) := fun {x} => by
      induction x with
      | nil => intro y p q h3 h4; simp only [denT] at h3; subst h3; exact h4
      | cons z r ih =>
        intro y p q h3 h4
        simp only [denT] at h3
        obtain ⟨v, l', rfl, h5, h6⟩ := h3
        exact ⟨v, l' ++ q, rfl, h5, ih h6 h4⟩
    have hfa : f' = #[rv] ++ fl.toArray := by rw [← Array.toList_inj]; simpa using hfl
    have hargs : denT E (a1.map .s ++ args) (fl.toArray ++ vs).toList := by
      rw [Array.toList_append]
      exact happ (hm h2) ha
    have := invD_snd on R hk (rv := rv) (vs := fl.toArray ++ vs) (r := .s r) (by simp only [denE]; exact h1) hargs (o := o) (next := next) (Q := Q) hn
    have hrun : (do let d ← Deferred.ofValue (.func (.method m) f' c') vs; invoke d.target d.args : Sem Next).run T.P w = (invoke (.fn (.method m) #[]) (#[rv] ++ (fl.toArray ++ vs)) : Sem Next).run T.P w := by
      rw [hfa]
      simp only [Deferred.ofValue, pure_bind, invoke, Array.append_assoc]
    rw [hrun]
    exact this
  · exact hk.elim

theorem opN_snd (R : Rel O E s a w) {o : Oper} {k : St → Prop} (hk : opN T s o k) {next : Act → World → Prop} {Q : Exit → Act → World → Prop}
    (hn : ∀ E' s' a' w', k s' → Rel O E' s' a' w' → next a' w') : o.wp T.P a w next Q := by
  have hpx := px_snd T R.sim s.ev s.ev a.eval o (fun x _ => ev_denE R.fr x) (fun x => ev_denE R.fr x)
  obtain ⟨ts, h⟩ := s
  unfold opN at hk
  simp only [forceE_eq, putK_eq] at hk
  unfold Oper.wp
  have hev : (St.ev ⟨ts, h⟩) = evT ts := rfl
  simp only [hev] at hpx
  split at hk
  · rename_i v hv
    rw [hv] at hpx
    obtain ⟨z, h1, h2⟩ := hpx
    rw [h1, Oper.upon_value]
    exact hn _ _ _ _ hk (R.put o.dst h2)
  · rename_i p v hv
    rw [hv] at hpx
    obtain ⟨hp, hk⟩ := hk
    obtain ⟨z, h1, h2⟩ := hpx hp
    rw [h1, Oper.upon_value]
    exact hn _ _ _ _ hk (R.put o.dst h2)
  · clear hpx
    unfold effX at hk
    simp only [forceE_eq, forceS_eq, putK_eq] at hk
    unfold execOp
    split at hk
    · rename_i t x v hop
      obtain ⟨h', w', h1, h2, h3, h4⟩ := storeX_snd T R.sim (ev_denE R.fr x) (ev_denE R.fr v) hk
      simp only [hop, Sem.run_bind, h1, Result.andThen_ok, Sem.run_pure, Oper.upon_skip]
      exact hn _ _ _ _ h2 ((R.on on h3 h4).put o.dst (by simp only [denE]))
    · rename_i t hop
      split at hk
      · rename_i i hi
        split at hk
        · rename_i cs hcs
          obtain ⟨z, hz, hzd⟩ := run_zero_ti T hi w
          have := newX_snd on R t (segsOf_den (hzd E) hcs) o.dst hk hn
          simpa [hop, Instr.alloc, hz, newVar, newRow, Oper.upon_value] using this
        · exact hk.elim
      · exact hk.elim
    · rename_i t x hop
      split at hk
      · rename_i cs hcs
        have := newX_snd on R t (segsOf_den (ev_denE R.fr x) hcs) o.dst hk hn
        simpa [hop, Instr.box, newVar, newRow, Oper.upon_value] using this
      · exact hk.elim
    · rename_i t parts hop
      split at hk
      · rename_i cs hcs
        obtain ⟨arr, h1, h2⟩ := buildX_snd T (E := E) w (evT ts) a.eval (fun x => ev_denE R.fr x) hcs
        simp only [hop, Sem.run_bind, h1, Result.andThen_ok, Sem.run_pure, Oper.upon_value]
        exact hn _ _ _ _ hk (R.put o.dst (by simp only [denE]; exact ⟨arr, rfl, h2⟩))
      · exact hk.elim
    · rename_i f args argTypes hop
      have hargs := denT_map (E := E) (evT ts) a.eval args.toList (fun x _ => ev_denE R.fr x)
      have := callX_snd on R hk (ev_denE R.fr f) (vs := args.map a.eval) (by simpa using hargs) (o := o) (next := next) (Q := Q) (fun E' v h' u w' hk' hd hR => hn _ _ _ _ hk' (hR.put o.dst hd))
      simpa [hop, resolve] using this
    · rename_i r m args argTypes hop
      have hargs := denT_map (E := E) (evT ts) a.eval args.toList (fun x _ => ev_denE R.fr x)
      have := invX_snd on R hk (ev_denE R.fr r) (vs := args.map a.eval) (by simpa using hargs) (o := o) (next := next) (Q := Q) (fun E' v h' u w' hk' hd hR => hn _ _ _ _ hk' (hR.put o.dst hd))
      simpa [hop, resolve] using this
    · obtain ⟨u, w', E', h', v, h1, h2, h3, h4, h5⟩ := eff2_snd T R.sim (ρ := a.eval) (fun x => ev_denE R.fr x) hk
      unfold execOp at h1
      rw [h1, Oper.upon_value]
      have hR := (R.on on h3 h4).put o.dst h2
      exact hn _ _ _ _ h5 hR

theorem opG_snd (R : Rel O E s a w) {o : Oper} {g : Bool} {k : St → Prop} (hk : opG T s o g k) {next : Act → World → Prop} {Q : Exit → Act → World → Prop}
    (hn : ∀ E' s' a' w', k s' → Rel O E' s' a' w' → next a' w') : (g = true → o.wp T.P a w next Q) ∧ (g = false → next (a.put o.dst undef) w) := by
  have hob : ∀ {l : List Operand}, oblig g (l.map s.ev) → g = true → ∀ x ∈ l, denE E (strip (s.ev x)) (a.eval x) := fun {l} => by
    induction l with
    | nil => intro _ _ x hx; cases hx
    | cons y r ih =>
      intro h hg x hx
      have hy := ev_denE R.fr y
      simp only [List.map_cons] at h
      rcases List.mem_cons.1 hx with rfl | hx
      · cases he : s.ev x with
        | gd g' v =>
          rw [he] at h hy
          simp only [oblig] at h
          simp only [denE] at hy
          exact hy.1 (h.1 hg)
        | _ => rw [he] at hy; exact hy
      · refine ih ?_ hg x hx
        cases he : s.ev y with
        | gd g' v => rw [he] at h; exact h.2
        | _ => rw [he] at h; exact h
  have hpx : (g = true → oblig g ((looks o.op).map s.ev) → (px T s.heap (fun x => strip (s.ev x)) s.ev o.op).yl E T.P w (execOp a.eval o)) := fun hg ho =>
    px_snd T R.sim _ s.ev a.eval o (hob ho hg) (fun x => ev_denE R.fr x)
  obtain ⟨ts, h⟩ := s
  have hev : (St.ev ⟨ts, h⟩) = evT ts := rfl
  simp only [hev] at hpx
  unfold opG at hk
  simp only [forceE_eq, putK_eq] at hk
  split at hk
  · rename_i v hv
    obtain ⟨ho, hk⟩ := (obligK_iff _ _ _).1 hk
    refine ⟨fun hg => ?_, fun hg => hn _ _ _ _ hk (R.put o.dst ?_)⟩
    · have := hpx hg ho
      rw [hv] at this
      obtain ⟨z, h1, h2⟩ := this
      unfold Oper.wp
      rw [h1, Oper.upon_value]
      refine hn _ _ _ _ hk (R.put o.dst ?_)
      simp only [denE]
      exact ⟨fun _ => h2, fun hf => absurd (hg.symm.trans hf) (by decide)⟩
    · simp only [denE]
      exact ⟨fun hf => absurd (hg.symm.trans hf) (by decide), fun _ => trivial⟩
  · rename_i p v hv
    obtain ⟨ho, hp, hk⟩ := (obligK_iff _ _ _).1 hk
    refine ⟨fun hg => ?_, fun hg => hn _ _ _ _ hk (R.put o.dst ?_)⟩
    · have := hpx hg ho
      rw [hv] at this
      obtain ⟨z, h1, h2⟩ := this (hp hg)
      unfold Oper.wp
      rw [h1, Oper.upon_value]
      refine hn _ _ _ _ hk (R.put o.dst ?_)
      simp only [denE]
      exact ⟨fun _ => h2, fun hf => absurd (hg.symm.trans hf) (by decide)⟩
    · simp only [denE]
      exact ⟨fun hf => absurd (hg.symm.trans hf) (by decide), fun _ => trivial⟩
  · unfold ifB at hk
    refine ⟨fun hg => ?_, fun hg => ?_⟩
    · subst hg
      exact opN_snd on R hk hn
    · subst hg
      exact hn _ _ _ _ hk (R.put o.dst (by simp only [denE]))

omit on in
theorem guardK_snd (R : Rel O E s a w) {ops : Array Oper} {j : Nat} {want : Bool} {k : Bool → Prop} (h : guardK ops s.tmps j want k) : ∃ g, (yielded ops a.tmps j == some want) = g ∧ k g := by
  unfold guardK at h
  split at h
  · rename_i o ho
    split at h
    · rename_i d hd
      have ho' : ops[j]? = some o := by simpa using ho
      have hev := ev_denE R.fr (.tmp d)
      simp only [St.ev, evT, Act.eval] at hev
      have hy : yielded ops a.tmps j = match a.tmps[d]? with
          | some (.bool b) => some b
          | _ => none := by simp [yielded, ho', hd]; rfl
      have hin : ∀ b, a.tmps.getD d undef = .bool b → a.tmps[d]? = some (.bool b) := fun b hb => by
        cases hq : a.tmps[d]? with
        | none => simp [hq, undef] at hb
        | some v => simp [hq] at hb; rw [hb]
      have hout : a.tmps.getD d undef = undef → (match a.tmps[d]? with
            | some (.bool b) => some b
            | _ => none) = (none : Option Bool) := fun h0 => by
            cases hq : a.tmps[d]? with
            | none => rfl
            | some v => simp [hq] at h0; rw [h0]; rfl
      split at h
      · rename_i t ht
        rw [ht] at hev
        simp only [denE, denV] at hev
        refine ⟨_, ?_, h⟩
        rw [hy, hin t hev]
        cases t <;> rfl
      · rename_i t ht
        rw [ht] at hev
        simp only [denE, denV] at hev
        refine ⟨_, ?_, h⟩
        rw [hy, hin t hev]
        cases t <;> rfl
      · rename_i g' t ht
        rw [ht] at hev
        simp only [denE, denV] at hev
        refine ⟨_, ?_, h⟩
        cases g' with
        | true =>
          rw [hy, hin t (hev.1 rfl)]
          cases t <;> rfl
        | false => rw [hy, hout (hev.2 rfl)]; rfl
      · rename_i g' t ht
        rw [ht] at hev
        simp only [denE, denV] at hev
        refine ⟨_, ?_, h⟩
        cases g' with
        | true =>
          rw [hy, hin t (hev.1 rfl)]
          cases t <;> rfl
        | false => rw [hy, hout (hev.2 rfl)]; rfl
      · exact h.elim
    · exact h.elim
  · exact h.elim

/-- One operation: wanted or not. -/
theorem opX_snd (R : Rel O E s a w) {ops : Array Oper} {o : Oper} {k : St → Prop} (hk : opX T ops s o k) {next : Act → World → Prop} {Q : Exit → Act → World → Prop}
    (hn : ∀ E' s' a' w', k s' → Rel O E' s' a' w' → next a' w') :
    if Region.wanted o (yielded ops a.tmps) then o.wp T.P a w next Q else next (a.put o.dst undef) w := by
  unfold opX at hk
  split at hk
  · rename_i hg
    rw [if_pos (by simp [Region.wanted, hg])]
    exact opN_snd on R hk hn
  · rename_i j want hg
    obtain ⟨g, h1, hk⟩ := guardK_snd R hk
    have h2 : Region.wanted o (yielded ops a.tmps) = g := by simp only [Region.wanted, hg]; exact h1
    rw [h2]
    obtain ⟨h3, h4⟩ := opG_snd on R hk hn (Q := Q)
    cases g with
    | true => exact h3 rfl
    | false => exact h4 rfl

theorem opsX_snd {ops : Array Oper} {Q : Exit → Act → World → Prop} : ∀ (l : List Oper) {E : Emb} {s : St} {a : Act} {w : World}, Rel O E s a w → ∀ {k : St → Prop}, opsX T ops l s k →
    (∀ E' s' a' w', k s' → Rel O E' s' a' w' → Q .normal a' w') → wpList T.P ops Q l a w
  | [], _, _, _, _, R, _, hk, hn => hn _ _ _ _ hk R
  | o :: r, _, _, _, _, R, k, hk, hn => by
    have hk : opX T ops _ o (fun s' => opsX T ops r s' k) := hk
    have := opX_snd on R hk (next := wpList T.P ops Q r) (Q := Q) (fun E' s' a' w' h1 h2 => opsX_snd r h2 h1 hn)
    unfold wpList
    split
    · rename_i hw; rw [if_pos hw] at this; exact .inl this
    · rename_i hw; rw [if_neg hw] at this; exact this

/-! ### code -/

omit on in
theorem lift_seq {next : St → Prop} {K : Exit → St → Prop} {b : Code} (hb : ∀ E s a w, next s → Rel O E s a w → b.wp T.P (Lift O K) a w) :
    ∀ e a w, Lift O (seqK next K) e a w → Exit.then (b.wp T.P (Lift O K)) (Lift O K) e a w := by
  rintro e a w ⟨E, s, hk, R⟩
  cases e <;> first
    | exact hb E s a w hk R
    | exact ⟨E, s, hk, R⟩

omit on in
theorem lift_block {id : Nat} {K : Exit → St → Prop} : ∀ e a w, Lift O (blockK id K) e a w → Exit.inBlock id (Lift O K) e a w := by
  rintro e a w ⟨E, s, hk, R⟩
  cases e <;> first
    | exact ⟨E, s, hk, R⟩
    | (simp only [blockK, Exit.inBlock] at *; split <;> rename_i h <;> simp only [h, if_true, if_false] at hk <;> exact ⟨E, s, hk, R⟩)

theorem wpx_snd : ∀ (c : Code) {E : Emb} {s : St} {a : Act} {w : World} {K : Exit → St → Prop}, wpx T O c s K → Rel O E s a w → c.wp T.P (Lift O K) a w
  | .skip, _, _, _, _, _, h, R => wp_skip ⟨_, _, h, R⟩
  | .label _, _, _, _, _, _, h, R => wp_label ⟨_, _, h, R⟩
  | .region id ops false, _, _, _, _, _, h, R => by
    refine wp_region_list (opsX_snd on ops.toList R (k := fun s => _) h (fun E' s' a' w' h1 h2 => ⟨E', s', h1, h2⟩))
  | .region id ops true, _, _, _, _, _, h, R => h _ _ _ R
  | .seq x y, _, _, _, _, K, h, R => by
    refine wp_seq (Code.wp_mono (lift_seq fun E s a w hn hR => wpx_snd y hn hR) (wpx_snd x h R))
  | .cond c x y, _, s, a, _, K, h, R => by
    change (match evT s.tmps c with
      | .s (.bool t) => ifB t (wpx T O x s K) (wpx T O y s K)
      | _ => False) at h
    split at h
    · rename_i t ht
      have hev := ev_denE R.fr c
      simp only [St.ev] at hev
      rw [ht] at hev
      simp only [denE, denV] at hev
      refine wp_cond hev ?_
      unfold ifB at h
      cases t with
      | true => exact wpx_snd x h R
      | false => exact wpx_snd y h R
    · exact h.elim
  | .block id x, _, _, _, _, K, h, R => wp_block (Code.wp_mono lift_block (wpx_snd x h R))
  | .loop x, _, _, _, _, _, h, R => h _ _ _ R
  | .exit id, _, _, _, _, _, h, R => wp_exit ⟨_, _, h, R⟩
  | .ret, _, _, _, _, _, h, R => wp_ret ⟨_, _, h, R⟩
  | .goto l, _, _, _, _, _, h, R => wp_goto ⟨_, _, h, R⟩
  | .scope _, _, _, _, _, _, h, _ => h.elim
  | .rangeFunc .., _, _, _, _, _, h, _ => h.elim
  | .refuse _, _, _, _, _, _, h, _ => h.elim

end walk

end Go.Anv
