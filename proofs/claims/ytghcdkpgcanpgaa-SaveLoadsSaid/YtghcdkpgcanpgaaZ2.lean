/- Part 2 of the texts of this claim, merged: E6c, E7. No condition: plain theorems, contracts of functions. -/
import Derived.Test.YtghcdkpgcanpgaaZ1
import Derived.Deep.LoopGhost
import Derived.LoopN

/- The engine, part 6c: the operations with an effect, and the walker as a whole. Plain theorems; their conditions are the table's own facts. -/
namespace Go.Anv
open Go

/-! ### one operation -/

section walk
variable {T : Tbl} {O : Org} (on : O.E.n = O.h.length) {E : Emb} {s : St} {a : Act} {w : World}
include on

theorem newX_snd (R : Rel O E s a w) (t : TypeId) {cs : List Seg} {v : Value} (hd : denS E cs v.cells.toList) (dst : Option Tmp) {k : St → Prop} (hk : newX s.tmps s.heap cs dst k) {next : Act → World → Prop}
    (hn : ∀ E' s' a' w', k s' → Rel O E' s' a' w' → next a' w') : next (a.put dst (.pointer (some ⟨w.heap.size, 0, none⟩))) (w.alloc (.cells v.cells t)) := by
  obtain ⟨h1, h2⟩ := new_snd R.sim t hd
  simp only [newX, forceS_eq, pushBK_eq, putK_eq] at hk
  refine hn _ _ _ _ hk ((R.on on h1 h2).put dst ?_)
  simp only [denE, denV]
  rw [Nat.zero_add, ← R.sim.n]
  exact ⟨by simp [Emb.push], by rw [push_at]⟩

theorem invD_snd (R : Rel O E s a w) {m : String} {r : EV} {args : List EV} {k : EV → List Blk → Prop} (hk : invD T m r args s.heap k) {rv : Value} {vs : Array Value} (hr : denE E r rv) (ha : denT E args vs.toList)
    {o : Oper} {next : Act → World → Prop} {Q : Exit → Act → World → Prop}
    (hn : ∀ E' v h' u w', k v h' → denE E' v u → Rel O E' { s with heap := h' } a w' → next (a.put o.dst u) w') :
    o.upon T.P a next Q ((invoke (.fn (.method m) #[]) (#[rv] ++ vs) : Sem Next).run T.P w) := by
  unfold invD at hk
  split at hk
  · rename_i t b off
    split at hk
    · rename_i f hf
      simp only [denE, denV, denL] at hr
      obtain ⟨x, rfl, v, _, hx, ⟨hb, rfl⟩, rfl⟩ := hr
      simp only [List.cons.injEq, and_true] at hx
      subst hx
      have hm := (T.mthOk t m f hf (E.at b off) w).1
      have hargs : denT E (.s (.ptr b off) :: args) (#[Value.pointer (some (E.at b off))] ++ vs).toList := by
        simp only [Array.toList_append]
        exact ⟨_, _, rfl, ⟨hb, rfl⟩, ha⟩
      have hinv : ∀ (r : Result Next), (callFunc f (#[Value.pointer (some (E.at b off))] ++ vs)).run T.P w = r → (invoke (.fn (.method m) #[]) (#[Value.iface t (.pointer (some (E.at b off)))] ++ vs) : Sem Next).run T.P w = r := fun r h0 => by
        have h1 : (#[Value.iface t (.pointer (some (E.at b off)))] ++ vs)[0]? = some (.iface t (.pointer (some (E.at b off)))) := by
          rw [Array.getElem?_append_left (by simp)]
          rfl
        have h2 : (#[Value.iface t (.pointer (some (E.at b off)))] ++ vs).extract 1 (#[Value.iface t (.pointer (some (E.at b off)))] ++ vs).size = vs := by
          rw [← Array.toList_inj, Array.toList_extract, List.extract_eq_take_drop]
          simp only [Array.toList_append, List.singleton_append, List.drop_succ_cons, List.drop_zero, Array.size_append, List.size_toArray, List.length_cons, List.length_nil]
          exact List.take_of_length_le (by simp)
        simp only [invoke, h1, callMethod, Sem.run_bind, run_program, Result.andThen_ok, hm, h2]
        exact h0
      rcases hk.go with ⟨⟨F, hF, hbd, hname⟩, hc⟩ | hx
      · have hrun : (callFunc f (#[Value.pointer (some (E.at b off))] ++ vs)).run T.P w = .ok (.enter f (#[Value.pointer (some (E.at b off))] ++ vs)) w := by
          simp only [callFunc, Sem.run_bind, Result.andThen_ok, run_program, hF]
          simp [hbd]
          intro hh
          simp [hh] at hname
        rw [hinv _ hrun, Oper.upon_enter]
        refine (hc E w _ R.sim hargs).mono ?_
        rintro e w' ⟨v, x, h', E', rfl, hd, S', N', hk'⟩
        exact hn E' x h' v w' hk' hd (R.on on S' N')
      · obtain ⟨u, w', hr, v, x, h', E', he, hd, S', N', hk'⟩ := hx E w _ R.sim hargs
        simp only [Ending.returned.injEq] at he
        subst he
        rw [hinv _ hr, Oper.upon_value]
        exact hn E' x h' u w' hk' hd (R.on on S' N')
    · exact hk.elim
  · exact hk.elim

theorem invX_snd (R : Rel O E s a w) {m : String} {r : EV} {args : List EV} {k : EV → List Blk → Prop} (hk : invX T m r args s.heap k) {rv : Value} {vs : Array Value} (hr : denE E r rv) (ha : denT E args vs.toList)
    {o : Oper} {next : Act → World → Prop} {Q : Exit → Act → World → Prop}
    (hn : ∀ E' v h' u w', k v h' → denE E' v u → Rel O E' { s with heap := h' } a w' → next (a.put o.dst u) w') :
    o.upon T.P a next Q ((invoke (.fn (.method m) #[]) (#[rv] ++ vs) : Sem Next).run T.P w) := by
  unfold invX at hk
  rw [evK_eq] at hk
  simp only [List.map_nil, List.append_nil] at hk
  exact invD_snd on R hk hr ha hn

theorem callX_snd (R : Rel O E s a w) {f : EV} {args : List EV} {k : EV → List Blk → Prop} (hk : callX T f args s.heap k) {fv : Value} {vs : Array Value} (hf : denE E f fv) (ha : denT E args vs.toList)
    {o : Oper} {next : Act → World → Prop} {Q : Exit → Act → World → Prop}
    (hn : ∀ E' v h' u w', k v h' → denE E' v u → Rel O E' { s with heap := h' } a w' → next (a.put o.dst u) w') :
    o.upon T.P a next Q ((do let d ← Deferred.ofValue fv vs; invoke d.target d.args : Sem Next).run T.P w) := by
  unfold callX at hk
  split at hk
  · rename_i f a1 c1
    rw [argsK_eq] at hk
    simp only [denE, denV] at hf
    obtain ⟨f', c', rfl, h1, h2⟩ := hf
    have hm : ∀ {l : List SV} {vs : List Value}, denL E l vs → denT E (l.map .s) vs := fun {l} => by
      induction l with
      | nil => intro vs h; simpa only [denL, denT, List.map_nil] using h
      | cons x r ih =>
        intro vs h
        simp only [denL] at h
        obtain ⟨v, l', rfl, h3, h4⟩ := h
        simp only [List.map_cons, denT]
        exact ⟨v, l', rfl, h3, ih h4⟩
    have happ : ∀ {x y : List EV} {p q : List Value}, denT E x p → denT E y q → denT E (x ++ y) (p ++ q) := fun {x} => by
      induction x with
      | nil => intro y p q h3 h4; simp only [denT] at h3; subst h3; exact h4
      | cons z r ih =>
        intro y p q h3 h4
        simp only [denT] at h3
        obtain ⟨v, l', rfl, h5, h6⟩ := h3
        exact ⟨v, l' ++ q, rfl, h5, ih h6 h4⟩
    have hargs : denT E (a1.map .s ++ args ++ c1.map .s) (f' ++ vs ++ c').toList := by simp only [Array.toList_append]; exact happ (happ (hm h1) ha) (hm h2)
    rcases hk.go with ⟨⟨F, hF, hb, hname⟩, hc⟩ | hx
    · have hrun : (do let d ← Deferred.ofValue (.func (.func f) f' c') vs; invoke d.target d.args : Sem Next).run T.P w = .ok (.enter f (f' ++ vs ++ c')) w := by
        simp only [Deferred.ofValue, invoke, callFunc, Sem.run_bind, Result.andThen_ok, pure_bind, run_program, hF]
        simp [hb]
        intro hh
        simp [hh] at hname
      rw [hrun, Oper.upon_enter]
      refine (hc E w (f' ++ vs ++ c') R.sim hargs).mono ?_
      rintro e w' ⟨v, x, h', E', rfl, hd, S', N', hk'⟩
      exact hn E' x h' v w' hk' hd (R.on on S' N')
    · obtain ⟨u, w', hr, v, x, h', E', he, hd, S', N', hk'⟩ := hx E w (f' ++ vs ++ c') R.sim hargs
      simp only [Ending.returned.injEq] at he
      subst he
      have hrun : (do let d ← Deferred.ofValue (.func (.func f) f' c') vs; invoke d.target d.args : Sem Next).run T.P w = .ok (.value u) w' := by
        simp only [Deferred.ofValue, invoke, pure_bind]
        exact hr
      rw [hrun, Oper.upon_value]
      exact hn E' x h' u w' hk' hd (R.on on S' N')
  · rename_i m r a1 c1
    rw [argsK_eq] at hk
    simp only [List.map_nil, List.append_nil] at hk
    simp only [denE, denV, denL] at hf
    obtain ⟨f', c', rfl, ⟨rv, fl, hfl, h1, h2⟩, _⟩ := hf
    have hm : ∀ {l : List SV} {vs : List Value}, denL E l vs → denT E (l.map .s) vs := fun {l} => by
      induction l with
      | nil => intro vs h; simpa only [denL, denT, List.map_nil] using h
      | cons x r ih =>
        intro vs h
        simp only [denL] at h
        obtain ⟨v, l', rfl, h3, h4⟩ := h
        simp only [List.map_cons, denT]
        exact ⟨v, l', rfl, h3, ih h4⟩
    have happ : ∀ {x y : List EV} {p q : List Value}, denT E x p → denT E y q → denT E (x ++ y) (p ++ q) := fun {x} => by
      induction x with
      | nil => intro y p q h3 h4; simp only [denT] at h3; subst h3; exact h4
      | cons z r ih =>
        intro y p q h3 h4
        simp only [denT] at h3
        obtain ⟨v, l', rfl, h5, h6⟩ := h3
        exact ⟨v, l' ++ q, rfl, h5, ih h6 h4⟩
    have hfa : f' = #[rv] ++ fl.toArray := by rw [← Array.toList_inj]; simpa using hfl
    have hargs : denT E (a1.map .s ++ args) (fl.toArray ++ vs).toList := by
      rw [Array.toList_append]
      exact happ (hm h2) ha
    have := invD_snd on R hk (rv := rv) (vs := fl.toArray ++ vs) (r := .s r) (by simp only [denE]; exact h1) hargs (o := o) (next := next) (Q := Q) hn
    have hrun : (do let d ← Deferred.ofValue (.func (.method m) f' c') vs; invoke d.target d.args : Sem Next).run T.P w = (invoke (.fn (.method m) #[]) (#[rv] ++ (fl.toArray ++ vs)) : Sem Next).run T.P w := by
      rw [hfa]
      simp only [Deferred.ofValue, pure_bind, invoke, Array.append_assoc]
    rw [hrun]
    exact this
  · exact hk.elim

theorem opN_snd (R : Rel O E s a w) {o : Oper} {k : St → Prop} (hk : opN T s o k) {next : Act → World → Prop} {Q : Exit → Act → World → Prop}
    (hn : ∀ E' s' a' w', k s' → Rel O E' s' a' w' → next a' w') : o.wp T.P a w next Q := by
  have hpx := px_snd T R.sim s.ev s.ev a.eval o (fun x _ => ev_denE R.fr x) (fun x => ev_denE R.fr x)
  obtain ⟨ts, h⟩ := s
  unfold opN at hk
  simp only [forceE_eq, putK_eq] at hk
  unfold Oper.wp
  have hev : (St.ev ⟨ts, h⟩) = evT ts := rfl
  simp only [hev] at hpx
  split at hk
  · rename_i v hv
    rw [hv] at hpx
    obtain ⟨z, h1, h2⟩ := hpx
    rw [h1, Oper.upon_value]
    exact hn _ _ _ _ hk (R.put o.dst h2)
  · rename_i p v hv
    rw [hv] at hpx
    obtain ⟨hp, hk⟩ := hk
    obtain ⟨z, h1, h2⟩ := hpx hp
    rw [h1, Oper.upon_value]
    exact hn _ _ _ _ hk (R.put o.dst h2)
  · clear hpx
    unfold effX at hk
    simp only [forceE_eq, forceS_eq, putK_eq] at hk
    unfold execOp
    split at hk
    · rename_i t x v hop
      obtain ⟨h', w', h1, h2, h3, h4⟩ := storeX_snd T R.sim (ev_denE R.fr x) (ev_denE R.fr v) hk
      simp only [hop, Sem.run_bind, h1, Result.andThen_ok, Sem.run_pure, Oper.upon_skip]
      exact hn _ _ _ _ h2 ((R.on on h3 h4).put o.dst (by simp only [denE]))
    · rename_i t hop
      split at hk
      · rename_i i hi
        split at hk
        · rename_i cs hcs
          obtain ⟨z, hz, hzd⟩ := run_zero_ti T hi w
          have := newX_snd on R t (segsOf_den (hzd E) hcs) o.dst hk hn
          simpa [hop, Instr.alloc, hz, newVar, newRow, Oper.upon_value] using this
        · exact hk.elim
      · exact hk.elim
    · rename_i t x hop
      split at hk
      · rename_i cs hcs
        have := newX_snd on R t (segsOf_den (ev_denE R.fr x) hcs) o.dst hk hn
        simpa [hop, Instr.box, newVar, newRow, Oper.upon_value] using this
      · exact hk.elim
    · rename_i t parts hop
      split at hk
      · rename_i cs hcs
        obtain ⟨arr, h1, h2⟩ := buildX_snd T (E := E) w (evT ts) a.eval (fun x => ev_denE R.fr x) hcs
        simp only [hop, Sem.run_bind, h1, Result.andThen_ok, Sem.run_pure, Oper.upon_value]
        exact hn _ _ _ _ hk (R.put o.dst (by simp only [denE]; exact ⟨arr, rfl, h2⟩))
      · exact hk.elim
    · rename_i f args argTypes hop
      have hargs := denT_map (E := E) (evT ts) a.eval args.toList (fun x _ => ev_denE R.fr x)
      have := callX_snd on R hk (ev_denE R.fr f) (vs := args.map a.eval) (by simpa using hargs) (o := o) (next := next) (Q := Q) (fun E' v h' u w' hk' hd hR => hn _ _ _ _ hk' (hR.put o.dst hd))
      simpa [hop, resolve] using this
    · rename_i r m args argTypes hop
      have hargs := denT_map (E := E) (evT ts) a.eval args.toList (fun x _ => ev_denE R.fr x)
      have := invX_snd on R hk (ev_denE R.fr r) (vs := args.map a.eval) (by simpa using hargs) (o := o) (next := next) (Q := Q) (fun E' v h' u w' hk' hd hR => hn _ _ _ _ hk' (hR.put o.dst hd))
      simpa [hop, resolve] using this
    · obtain ⟨u, w', E', h', v, h1, h2, h3, h4, h5⟩ := eff2_snd T R.sim (ρ := a.eval) (fun x => ev_denE R.fr x) hk
      unfold execOp at h1
      rw [h1, Oper.upon_value]
      have hR := (R.on on h3 h4).put o.dst h2
      exact hn _ _ _ _ h5 hR

theorem opG_snd (R : Rel O E s a w) {o : Oper} {g : Bool} {k : St → Prop} (hk : opG T s o g k) {next : Act → World → Prop} {Q : Exit → Act → World → Prop}
    (hn : ∀ E' s' a' w', k s' → Rel O E' s' a' w' → next a' w') : (g = true → o.wp T.P a w next Q) ∧ (g = false → next (a.put o.dst undef) w) := by
  have hob : ∀ {l : List Operand}, oblig g (l.map s.ev) → g = true → ∀ x ∈ l, denE E (strip (s.ev x)) (a.eval x) := fun {l} => by
    induction l with
    | nil => intro _ _ x hx; cases hx
    | cons y r ih =>
      intro h hg x hx
      have hy := ev_denE R.fr y
      simp only [List.map_cons] at h
      rcases List.mem_cons.1 hx with rfl | hx
      · cases he : s.ev x with
        | gd g' v =>
          rw [he] at h hy
          simp only [oblig] at h
          simp only [denE] at hy
          exact hy.1 (h.1 hg)
        | _ => rw [he] at hy; exact hy
      · refine ih ?_ hg x hx
        cases he : s.ev y with
        | gd g' v => rw [he] at h; exact h.2
        | _ => rw [he] at h; exact h
  have hpx : (g = true → oblig g ((looks o.op).map s.ev) → (px T s.heap (fun x => strip (s.ev x)) s.ev o.op).yl E T.P w (execOp a.eval o)) := fun hg ho =>
    px_snd T R.sim _ s.ev a.eval o (hob ho hg) (fun x => ev_denE R.fr x)
  obtain ⟨ts, h⟩ := s
  have hev : (St.ev ⟨ts, h⟩) = evT ts := rfl
  simp only [hev] at hpx
  unfold opG at hk
  simp only [forceE_eq, putK_eq] at hk
  split at hk
  · rename_i v hv
    obtain ⟨ho, hk⟩ := (obligK_iff _ _ _).1 hk
    refine ⟨fun hg => ?_, fun hg => hn _ _ _ _ hk (R.put o.dst ?_)⟩
    · have := hpx hg ho
      rw [hv] at this
      obtain ⟨z, h1, h2⟩ := this
      unfold Oper.wp
      rw [h1, Oper.upon_value]
      refine hn _ _ _ _ hk (R.put o.dst ?_)
      simp only [denE]
      exact ⟨fun _ => h2, fun hf => absurd (hg.symm.trans hf) (by decide)⟩
    · simp only [denE]
      exact ⟨fun hf => absurd (hg.symm.trans hf) (by decide), fun _ => trivial⟩
  · rename_i p v hv
    obtain ⟨ho, hp, hk⟩ := (obligK_iff _ _ _).1 hk
    refine ⟨fun hg => ?_, fun hg => hn _ _ _ _ hk (R.put o.dst ?_)⟩
    · have := hpx hg ho
      rw [hv] at this
      obtain ⟨z, h1, h2⟩ := this (hp hg)
      unfold Oper.wp
      rw [h1, Oper.upon_value]
      refine hn _ _ _ _ hk (R.put o.dst ?_)
      simp only [denE]
      exact ⟨fun _ => h2, fun hf => absurd (hg.symm.trans hf) (by decide)⟩
    · simp only [denE]
      exact ⟨fun hf => absurd (hg.symm.trans hf) (by decide), fun _ => trivial⟩
  · unfold ifB at hk
    refine ⟨fun hg => ?_, fun hg => ?_⟩
    · subst hg
      exact opN_snd on R hk hn
    · subst hg
      exact hn _ _ _ _ hk (R.put o.dst (by simp only [denE]))

omit on in
theorem guardK_snd (R : Rel O E s a w) {ops : Array Oper} {j : Nat} {want : Bool} {k : Bool → Prop} (h : guardK ops s.tmps j want k) : ∃ g, (yielded ops a.tmps j == some want) = g ∧ k g := by
  unfold guardK at h
  split at h
  · rename_i o ho
    split at h
    · rename_i d hd
      have ho' : ops[j]? = some o := by simpa using ho
      have hev := ev_denE R.fr (.tmp d)
      simp only [St.ev, evT, Act.eval] at hev
      have hy : yielded ops a.tmps j = match a.tmps[d]? with
          | some (.bool b) => some b
          | _ => none := by simp [yielded, ho', hd]; rfl
      have hin : ∀ b, a.tmps.getD d undef = .bool b → a.tmps[d]? = some (.bool b) := fun b hb => by
        cases hq : a.tmps[d]? with
        | none => simp [hq, undef] at hb
        | some v => simp [hq] at hb; rw [hb]
      have hout : a.tmps.getD d undef = undef → (match a.tmps[d]? with
            | some (.bool b) => some b
            | _ => none) = (none : Option Bool) := fun h0 => by
            cases hq : a.tmps[d]? with
            | none => rfl
            | some v => simp [hq] at h0; rw [h0]; rfl
      split at h
      · rename_i t ht
        rw [ht] at hev
        simp only [denE, denV] at hev
        refine ⟨_, ?_, h⟩
        rw [hy, hin t hev]
        cases t <;> rfl
      · rename_i t ht
        rw [ht] at hev
        simp only [denE, denV] at hev
        refine ⟨_, ?_, h⟩
        rw [hy, hin t hev]
        cases t <;> rfl
      · rename_i g' t ht
        rw [ht] at hev
        simp only [denE, denV] at hev
        refine ⟨_, ?_, h⟩
        cases g' with
        | true =>
          rw [hy, hin t (hev.1 rfl)]
          cases t <;> rfl
        | false => rw [hy, hout (hev.2 rfl)]; rfl
      · rename_i g' t ht
        rw [ht] at hev
        simp only [denE, denV] at hev
        refine ⟨_, ?_, h⟩
        cases g' with
        | true =>
          rw [hy, hin t (hev.1 rfl)]
          cases t <;> rfl
        | false => rw [hy, hout (hev.2 rfl)]; rfl
      · exact h.elim
    · exact h.elim
  · exact h.elim

/-- One operation: wanted or not. -/
theorem opX_snd (R : Rel O E s a w) {ops : Array Oper} {o : Oper} {k : St → Prop} (hk : opX T ops s o k) {next : Act → World → Prop} {Q : Exit → Act → World → Prop}
    (hn : ∀ E' s' a' w', k s' → Rel O E' s' a' w' → next a' w') :
    if Region.wanted o (yielded ops a.tmps) then o.wp T.P a w next Q else next (a.put o.dst undef) w := by
  unfold opX at hk
  split at hk
  · rename_i hg
    rw [if_pos (by simp [Region.wanted, hg])]
    exact opN_snd on R hk hn
  · rename_i j want hg
    obtain ⟨g, h1, hk⟩ := guardK_snd R hk
    have h2 : Region.wanted o (yielded ops a.tmps) = g := by simp only [Region.wanted, hg]; exact h1
    rw [h2]
    obtain ⟨h3, h4⟩ := opG_snd on R hk hn (Q := Q)
    cases g with
    | true => exact h3 rfl
    | false => exact h4 rfl

theorem opsX_snd {ops : Array Oper} {Q : Exit → Act → World → Prop} : ∀ (l : List Oper) {E : Emb} {s : St} {a : Act} {w : World}, Rel O E s a w → ∀ {k : St → Prop}, opsX T ops l s k →
    (∀ E' s' a' w', k s' → Rel O E' s' a' w' → Q .normal a' w') → wpList T.P ops Q l a w
  | [], _, _, _, _, R, _, hk, hn => hn _ _ _ _ hk R
  | o :: r, _, _, _, _, R, k, hk, hn => by
    have hk : opX T ops _ o (fun s' => opsX T ops r s' k) := hk
    have := opX_snd on R hk (next := wpList T.P ops Q r) (Q := Q) (fun E' s' a' w' h1 h2 => opsX_snd r h2 h1 hn)
    unfold wpList
    split
    · rename_i hw; rw [if_pos hw] at this; exact .inl this
    · rename_i hw; rw [if_neg hw] at this; exact this

/-! ### code -/

omit on in
theorem lift_seq {next : St → Prop} {K : Exit → St → Prop} {b : Code} (hb : ∀ E s a w, next s → Rel O E s a w → b.wp T.P (Lift O K) a w) :
    ∀ e a w, Lift O (seqK next K) e a w → Exit.then (b.wp T.P (Lift O K)) (Lift O K) e a w := by
  rintro e a w ⟨E, s, hk, R⟩
  cases e <;> first
    | exact hb E s a w hk R
    | exact ⟨E, s, hk, R⟩

omit on in
theorem lift_block {id : Nat} {K : Exit → St → Prop} : ∀ e a w, Lift O (blockK id K) e a w → Exit.inBlock id (Lift O K) e a w := by
  rintro e a w ⟨E, s, hk, R⟩
  cases e <;> first
    | exact ⟨E, s, hk, R⟩
    | (simp only [blockK, Exit.inBlock] at *; split <;> rename_i h <;> simp only [h, if_true, if_false] at hk <;> exact ⟨E, s, hk, R⟩)

theorem wpx_snd : ∀ (c : Code) {E : Emb} {s : St} {a : Act} {w : World} {K : Exit → St → Prop}, wpx T O c s K → Rel O E s a w → c.wp T.P (Lift O K) a w
  | .skip, _, _, _, _, _, h, R => wp_skip ⟨_, _, h, R⟩
  | .label _, _, _, _, _, _, h, R => wp_label ⟨_, _, h, R⟩
  | .region id ops false, _, _, _, _, _, h, R => by
    refine wp_region_list (opsX_snd on ops.toList R (k := fun s => _) h (fun E' s' a' w' h1 h2 => ⟨E', s', h1, h2⟩))
  | .region id ops true, _, _, _, _, _, h, R => h _ _ _ R
  | .seq x y, _, _, _, _, K, h, R => by
    refine wp_seq (Code.wp_mono (lift_seq fun E s a w hn hR => wpx_snd y hn hR) (wpx_snd x h R))
  | .cond c x y, _, s, a, _, K, h, R => by
    change (match evT s.tmps c with
      | .s (.bool t) => ifB t (wpx T O x s K) (wpx T O y s K)
      | _ => False) at h
    split at h
    · rename_i t ht
      have hev := ev_denE R.fr c
      simp only [St.ev] at hev
      rw [ht] at hev
      simp only [denE, denV] at hev
      refine wp_cond hev ?_
      unfold ifB at h
      cases t with
      | true => exact wpx_snd x h R
      | false => exact wpx_snd y h R
    · exact h.elim
  | .block id x, _, _, _, _, K, h, R => wp_block (Code.wp_mono lift_block (wpx_snd x h R))
  | .loop x, _, _, _, _, _, h, R => h _ _ _ R
  | .exit id, _, _, _, _, _, h, R => wp_exit ⟨_, _, h, R⟩
  | .ret, _, _, _, _, _, h, R => wp_ret ⟨_, _, h, R⟩
  | .goto l, _, _, _, _, _, h, R => wp_goto ⟨_, _, h, R⟩
  | .scope _, _, _, _, _, _, h, _ => h.elim
  | .rangeFunc .., _, _, _, _, _, h, _ => h.elim
  | .refuse _, _, _, _, _, _, h, _ => h.elim

end walk

end Go.Anv

/- The engine, part 7: functions, loops, calls: the rules by which a proof goes on where the walker stops. Plain theorems; their conditions are the table's own facts. -/
namespace Go.Anv
open Go

/-! ### what a function hands back -/

theorem resV_snd (T : Tbl) {E : Emb} {s : St} {a : Act} {w : World} (f : frameOk E s.tmps a.tmps) (S : Sim E s.heap w) {r : ResultVar} {v : EV} (h : resV T s r = some v) :
    ∃ u, (match r with
      | .tmp t => pure (a.tmps.getD t undef)
      | .cell p t => do loadVar t (← asAddr (a.tmps.getD p undef)) : Sem Value).run T.P w = .ok u w ∧ denE E v u := by
  cases r with
  | tmp t =>
    have hev := ev_denE f (.tmp t)
    simp only [St.ev, evT, Act.eval] at hev
    simp only [resV] at h
    refine ⟨_, rfl, ?_⟩
    split at h
    · cases h
    · cases h
    · simp only [Option.some.injEq] at h; subst h; exact hev
  | cell p t =>
    have hev := ev_denE f (.tmp p)
    simp only [St.ev, evT, Act.eval] at hev
    simp only [resV] at h
    split at h
    · rename_i v' hv
      simp only [Option.some.injEq] at h
      subst h
      have := loadX_snd T S t _ _ hev
      rw [hv] at this
      obtain ⟨u, h1, h2⟩ := this
      refine ⟨u, ?_, h2⟩
      have hp : ∃ ad, a.tmps.getD p undef = .pointer (some ad) := by
        unfold loadX at hv
        split at hv
        · rename_i hq
          rw [hq] at hev
          simp only [denE, denV] at hev
          exact ⟨_, hev.2⟩
        · rename_i hq
          rw [hq] at hev
          simp only [denE, denV] at hev
          exact ⟨_, hev.2⟩
        · cases hv
      obtain ⟨ad, had⟩ := hp
      simp only
      rw [had] at h1 ⊢
      simpa [Instr.loadAt, Instr.sureAddr, asAddr] using h1
    · cases h

theorem resVs_snd (T : Tbl) {E : Emb} {s : St} {a : Act} {w : World} (f : frameOk E s.tmps a.tmps) (S : Sim E s.heap w) : ∀ {rs : List ResultVar} {vs : List EV}, resVs T s rs = some vs →
    ∃ us, (rs.mapM fun r => (match r with
      | .tmp t => pure (a.tmps.getD t undef)
      | .cell p t => do loadVar t (← asAddr (a.tmps.getD p undef)) : Sem Value)).run T.P w = .ok us w ∧ denT E vs us
  | [], vs, h => by
    simp only [resVs, Option.some.injEq] at h
    subst h
    exact ⟨[], rfl, by simp [denT]⟩
  | r :: rs, vs, h => by
    simp only [resVs] at h
    split at h
    · rename_i v vs' h1 h2
      simp only [Option.some.injEq] at h
      subst h
      obtain ⟨u, k1, k2⟩ := resV_snd T f S h1
      obtain ⟨us, k3, k4⟩ := resVs_snd T f S h2
      refine ⟨u :: us, ?_, ⟨u, us, rfl, k2, k4⟩⟩
      rw [List.mapM_cons]
      simp only [Sem.run_bind, k1, Result.andThen_ok, k3, Sem.run_pure]
    · cases h

theorem resX_snd (T : Tbl) {E : Emb} {s : St} {a : Act} {w : World} (f : frameOk E s.tmps a.tmps) (S : Sim E s.heap w) {F : Func} {Q : EV → List Blk → Prop} (h : resX T s F.results.toList Q) :
    ∃ u v, (results F a.tmps).run T.P w = .ok u w ∧ denE E v u ∧ Q v s.heap := by
  have hrun : (results F a.tmps) = (do
      let vs ← (List.toArray <$> F.results.toList.mapM fun r => (match r with
        | .tmp t => pure (a.tmps.getD t undef)
        | .cell p t => do loadVar t (← asAddr (a.tmps.getD p undef)) : Sem Value))
      pure (if h : vs.size = 1 then vs[0] else .tuple vs)) := by
    unfold results
    rw [Array.mapM_eq_mapM_toList]
    rfl
  unfold resX at h
  split at h
  · rename_i r hr
    split at h
    · rename_i v hv
      obtain ⟨u, k1, k2⟩ := resV_snd T f S hv
      refine ⟨u, v, ?_, k2, h⟩
      rw [hrun, hr, List.mapM_cons]
      simp only [List.mapM_nil, Sem.run_bind, Sem.run_map, k1, Result.andThen_ok, Sem.run_pure]
      rfl
    · exact h.elim
  · rename_i rs hne
    split at h
    · rename_i vs hvs
      obtain ⟨us, k1, k2⟩ := resVs_snd T f S hvs
      refine ⟨.tuple us.toArray, .tuple vs, ?_, ⟨_, rfl, by simpa using k2⟩, h⟩
      have hlen : us.length ≠ 1 := by
        have h1 : ∀ {vs : List EV} {us : List Value}, denT E vs us → us.length = vs.length := fun {vs} => by
          induction vs with
          | nil => intro us h; simp only [denT] at h; subst h; rfl
          | cons x r ih => intro us h; simp only [denT] at h; obtain ⟨v, l', rfl, _, h2⟩ := h; simp [ih h2]
        have h2 : ∀ {rs : List ResultVar} {vs : List EV}, resVs T s rs = some vs → vs.length = rs.length := fun {rs} => by
          induction rs with
          | nil => intro vs h; simp only [resVs, Option.some.injEq] at h; subst h; rfl
          | cons x r ih =>
            intro vs h
            simp only [resVs] at h
            split at h
            · rename_i h3 h4; simp only [Option.some.injEq] at h; subst h; simp [ih h4]
            · cases h
        rw [h1 k2, h2 hvs]
        intro h3
        match hq : F.results.toList, h3 with
        | [x], _ => exact hne x hq
      rw [hrun]
      simp only [Sem.run_bind, Sem.run_map, k1, Result.andThen_ok, Sem.run_pure]
      rw [dif_neg (by simpa using hlen)]
    · exact h.elim

theorem nth_append_junks : ∀ (l : List EV) (n i : Nat), nth (l ++ junks n) i = if i < l.length then nth l i else .junk
  | [], n, i => by
    have : ∀ (n i : Nat), nth (junks n) i = .junk := fun n => by
      induction n with
      | zero => intro i; rfl
      | succ n ih => intro i; cases i with
        | zero => rfl
        | succ i => simp only [junks, nth]; exact ih i
    simp [this]
  | x :: l, n, 0 => by simp [nth]
  | x :: l, n, i + 1 => by simp [nth, nth_append_junks l n i]

theorem length_junks : ∀ n, (junks n).length = n
  | 0 => rfl
  | n + 1 => by simp [junks, length_junks n]

theorem denT_length {E : Emb} : ∀ {vs : List EV} {us : List Value}, denT E vs us → us.length = vs.length
  | [], us, h => by simp only [denT] at h; subst h; rfl
  | x :: r, us, h => by simp only [denT] at h; obtain ⟨v, l', rfl, _, h2⟩ := h; simp [denT_length h2]

theorem denT_nth {E : Emb} : ∀ {vs : List EV} {us : List Value} {i : Nat} {u : Value}, denT E vs us → us[i]? = some u → denE E (nth vs i) u
  | [], us, i, u, h, hi => by simp only [denT] at h; subst h; simp at hi
  | x :: r, us, 0, u, h, hi => by
    simp only [denT] at h
    obtain ⟨v, l', rfl, h1, h2⟩ := h
    simp at hi
    subst hi
    exact h1
  | x :: r, us, i + 1, u, h, hi => by
    simp only [denT] at h
    obtain ⟨v, l', rfl, h1, h2⟩ := h
    simp only [nth]
    exact denT_nth h2 (by simpa using hi)

/-- **A function whose body is walked is as the walk says.** -/
theorem fnX_call (T : Tbl) {f : FuncId} {F : Func} (hF : T.P.funcs[f]? = some F) {args : List EV} {h : List Blk} {Q : EV → List Blk → Prop}
    (hX : ∀ E w, Sim E h w → fnX T ⟨E, h, w, []⟩ F args h Q) : CallG T f args h Q := by
  intro E w vs S hargs
  have hx := hX E w S
  unfold fnX at hx
  split at hx
  · rename_i c hc
    rw [frameK_eq] at hx
    refine calls_of_wp hF hc ?_
    have hlen : vs.size = args.length := by rw [← Array.length_toList]; exact denT_length hargs
    have R : Rel ⟨E, h, w, []⟩ E { tmps := args ++ junks (F.ntmps - args.length), heap := h } { tmps := vs ++ Array.replicate (F.ntmps - vs.size) undef, defers := [] } w := by
      refine ⟨⟨by simp [length_junks, hlen], fun i v hi => ?_⟩, rfl, S, Since.refl _ _ _⟩
      rw [nth_append_junks]
      split
      · rename_i hlt
        rw [Array.getElem?_append_left (by omega)] at hi
        exact denT_nth hargs (by simpa using hi)
      · simp only [denE]
    refine Code.wp_mono ?_ (wpx_snd (T := T) (O := ⟨E, h, w, []⟩) S.n c hx R)
    rintro e a' w' ⟨E', s', hk, R'⟩
    cases e <;> first
      | (obtain ⟨u, v, h1, h2, h3⟩ := resX_snd T R'.fr R'.sim hk
         exact ⟨R'.df, u, h1, u, v, s'.heap, E', rfl, h2, R'.sim, R'.sin, h3⟩)
      | exact hk.elim
  · exact hx.elim

theorem Post.mono {E : Emb} {h : List Blk} {w : World} {Q Q' : EV → List Blk → Prop} {e : Ending} {w' : World} (p : Post E h w Q e w') (hq : ∀ v h', Q v h' → Q' v h') : Post E h w Q' e w' := by
  obtain ⟨v, x, h', E', h1, h2, h3, h4, h5⟩ := p
  exact ⟨v, x, h', E', h1, h2, h3, h4, hq _ _ h5⟩

theorem CallG.mono {T : Tbl} {f : FuncId} {args : List EV} {h : List Blk} {Q Q' : EV → List Blk → Prop} (c : CallG T f args h Q) (hq : ∀ v h', Q v h' → Q' v h') : CallG T f args h Q' :=
  fun E w vs S ha => (c E w vs S ha).mono fun _ _ p => p.mono hq

theorem Does.mono {T : Tbl} {f : FuncId} {args : List EV} {h : List Blk} {Q Q' : EV → List Blk → Prop} (c : Does T f args h Q) (hq : ∀ v h', Q v h' → Q' v h') : Does T f args h Q' := by
  refine ⟨?_⟩
  rcases c.go with ⟨h1, h2⟩ | h1
  · exact .inl ⟨h1, h2.mono hq⟩
  · refine .inr fun E w vs S ha => ?_
    obtain ⟨u, w', h2, h3⟩ := h1 E w vs S ha
    exact ⟨u, w', h2, h3.mono hq⟩

/-! ### values without addresses -/

mutual
def noPtrV : SV → Bool
  | .junk | .int .. | .bool _ | .str _ | .nilptr | .nilslice | .nilmap | .nilfunc | .niliface => true
  | .func _ a c => noPtrL a && noPtrL c
  | .iface _ _ cs => noPtrL cs
  | _ => false
def noPtrL : List SV → Bool
  | [] => true
  | v :: r => noPtrV v && noPtrL r
end

def noPtrS : List Seg → Bool
  | [] => true
  | .one v :: r => noPtrV v && noPtrS r
  | .ints .. :: r => noPtrS r

mutual
def noPtr : EV → Bool
  | .s v => noPtrV v
  | .agg cs => noPtrS cs
  | .tuple vs => noPtrT vs
  | .gd _ v => noPtr v
  | .junk => true
def noPtrT : List EV → Bool
  | [] => true
  | v :: r => noPtr v && noPtrT r
end

mutual
theorem noPtrV_den {E E' : Emb} : ∀ (e : SV) (v : Value), noPtrV e = true → denV E e v → denV E' e v
  | .junk, _, _, h => h
  | .int .., _, _, h => h
  | .bool _, _, _, h => h
  | .str _, _, _, h => h
  | .nilptr, _, _, h => h
  | .nilslice, _, _, h => h
  | .nilmap, _, _, h => h
  | .nilfunc, _, _, h => h
  | .niliface, _, _, h => h
  | .func fn a c, v, hn, h => by
    simp only [noPtrV, Bool.and_eq_true] at hn
    simp only [denV] at h ⊢
    obtain ⟨f', c', rfl, h1, h2⟩ := h
    exact ⟨f', c', rfl, noPtrL_den a _ hn.1 h1, noPtrL_den c _ hn.2 h2⟩
  | .iface t true cs, v, hn, h => by
    simp only [noPtrV] at hn
    simp only [denV] at h ⊢
    obtain ⟨l, rfl, h1⟩ := h
    exact ⟨l, rfl, noPtrL_den cs _ hn h1⟩
  | .iface t false cs, v, hn, h => by
    simp only [noPtrV] at hn
    simp only [denV] at h ⊢
    obtain ⟨l, rfl, h1⟩ := h
    exact ⟨l, rfl, noPtrL_den cs _ hn h1⟩
  | .ptr .., _, hn, _ => by simp [noPtrV] at hn
  | .pix .., _, hn, _ => by simp [noPtrV] at hn
  | .slice .., _, hn, _ => by simp [noPtrV] at hn
  | .gs .., _, hn, _ => by simp [noPtrV] at hn
  | .map _, _, hn, _ => by simp [noPtrV] at hn
theorem noPtrL_den {E E' : Emb} : ∀ (l : List SV) (vs : List Value), noPtrL l = true → denL E l vs → denL E' l vs
  | [], _, _, h => h
  | e :: r, vs, hn, h => by
    simp only [noPtrL, Bool.and_eq_true] at hn
    simp only [denL] at h ⊢
    obtain ⟨v, l', rfl, h1, h2⟩ := h
    exact ⟨v, l', rfl, noPtrV_den e v hn.1 h1, noPtrL_den r l' hn.2 h2⟩
end

theorem noPtrS_den {E E' : Emb} : ∀ (cs : List Seg) (l : List Value), noPtrS cs = true → denS E cs l → denS E' cs l
  | [], _, _, h => h
  | .one e :: r, l, hn, h => by
    simp only [noPtrS, Bool.and_eq_true] at hn
    simp only [denS] at h ⊢
    obtain ⟨v, l', rfl, h1, h2⟩ := h
    exact ⟨v, l', rfl, noPtrV_den e v hn.1 h1, noPtrS_den r l' hn.2 h2⟩
  | .ints k n f :: r, l, hn, h => by
    simp only [noPtrS] at hn
    simp only [denS] at h ⊢
    obtain ⟨l', rfl, h2⟩ := h
    exact ⟨l', rfl, noPtrS_den r l' hn h2⟩

mutual
theorem noPtr_den {E E' : Emb} : ∀ (e : EV) (v : Value), noPtr e = true → denE E e v → denE E' e v
  | .s x, v, hn, h => by simp only [noPtr] at hn; simp only [denE] at h ⊢; exact noPtrV_den x v hn h
  | .agg cs, v, hn, h => by
    simp only [noPtr] at hn
    simp only [denE] at h ⊢
    obtain ⟨l, rfl, h1⟩ := h
    exact ⟨l, rfl, noPtrS_den cs _ hn h1⟩
  | .tuple vs, v, hn, h => by
    simp only [noPtr] at hn
    simp only [denE] at h ⊢
    obtain ⟨l, rfl, h1⟩ := h
    exact ⟨l, rfl, noPtrT_den vs _ hn h1⟩
  | .gd g x, v, hn, h => by simp only [noPtr] at hn; simp only [denE] at h ⊢; exact ⟨fun hg => noPtr_den x v hn (h.1 hg), h.2⟩
  | .junk, _, _, _ => by simp only [denE]
theorem noPtrT_den {E E' : Emb} : ∀ (l : List EV) (vs : List Value), noPtrT l = true → denT E l vs → denT E' l vs
  | [], _, _, h => h
  | e :: r, vs, hn, h => by
    simp only [noPtrT, Bool.and_eq_true] at hn
    simp only [denT] at h ⊢
    obtain ⟨v, l', rfl, h1, h2⟩ := h
    exact ⟨v, l', rfl, noPtr_den e v hn.1 h1, noPtrT_den r l' hn.2 h2⟩
end

/-! ### values that stand for the same -/

def eqvV : SV → SV → Prop
  | .int k a, .int k' b => k = k' ∧ a = b
  | .bool a, .bool b => a = b
  | .str a, .str b => a = b
  | .slice b o n c, .gs b' o' n' c' => b = b' ∧ o = o' ∧ n = n' ∧ c = c'
  | .slice b o n c, .slice b' o' n' c' => b = b' ∧ o = o' ∧ n = n' ∧ c = c'
  | .gs b o n c, .gs b' o' n' c' => b = b' ∧ o = o' ∧ n = n' ∧ c = c'
  | _, .junk => True
  | x, y => x = y

def eqvS : List Seg → List Seg → Prop
  | [], [] => True
  | .one a :: r, .one b :: r' => eqvV a b ∧ eqvS r r'
  | .ints k n f :: r, .ints k' m g :: r' => (k = k' ∧ n = m ∧ ∀ j, j < n → f j = g j) ∧ eqvS r r'
  | _, _ => False

mutual
def eqvE : EV → EV → Prop
  | .s a, .s b => eqvV a b
  | .agg a, .agg b => eqvS a b
  | .tuple a, .tuple b => eqvT a b
  | .gd g a, .gd g' b => g = g' ∧ eqvE a b
  | _, .junk => True
  | _, _ => False
def eqvT : List EV → List EV → Prop
  | [], [] => True
  | a :: r, b :: r' => eqvE a b ∧ eqvT r r'
  | _, _ => False
end

theorem eqvV_refl : ∀ a : SV, eqvV a a := fun a => by cases a <;> simp [eqvV]
theorem eqvS_refl : ∀ a : List Seg, eqvS a a
  | [] => trivial
  | .one x :: r => ⟨eqvV_refl x, eqvS_refl r⟩
  | .ints .. :: r => ⟨⟨rfl, rfl, fun _ _ => rfl⟩, eqvS_refl r⟩
mutual
theorem eqvE_refl : ∀ a : EV, eqvE a a
  | .s v => by simp only [eqvE]; exact eqvV_refl v
  | .agg cs => by simp only [eqvE]; exact eqvS_refl cs
  | .tuple vs => by simp only [eqvE]; exact eqvT_refl vs
  | .gd g v => by unfold eqvE; exact ⟨rfl, eqvE_refl v⟩
  | .junk => by simp only [eqvE]
theorem eqvT_refl : ∀ a : List EV, eqvT a a
  | [] => trivial
  | x :: r => ⟨eqvE_refl x, eqvT_refl r⟩
end

theorem eqvV_den {E : Emb} {a b : SV} {v : Value} (h : eqvV a b) (hd : denV E a v) : denV E b v := by
  have key : ∀ {x y : SV}, x = y → denV E x v → denV E y v := fun e h => e ▸ h
  have jk : ∀ {x : SV}, denV E x v → denV E .junk v := fun h => by simp only [denV]; exact denV_oneCell h
  cases a with
  | int k x =>
    cases b with
    | int k' y => obtain ⟨rfl, rfl⟩ := h; exact hd
    | junk => exact jk hd
    | _ => exact key h hd
  | bool x =>
    cases b with
    | bool y => simp only [eqvV] at h; subst h; exact hd
    | junk => exact jk hd
    | _ => exact key h hd
  | str x =>
    cases b with
    | str y => simp only [eqvV] at h; subst h; exact hd
    | junk => exact jk hd
    | _ => exact key h hd
  | slice b0 o n c =>
    cases b with
    | slice b' o' n' c' => obtain ⟨rfl, rfl, rfl, rfl⟩ := h; exact hd
    | gs b' o' n' c' =>
      obtain ⟨rfl, rfl, rfl, rfl⟩ := h
      simp only [denV] at hd ⊢
      rw [hd.1.2]
      exact ⟨hd.1.1, fun h => by simp at h, by simpa using hd.2⟩
    | junk => exact jk hd
    | _ => exact key h hd
  | gs b0 o n c =>
    cases b with
    | gs b' o' n' c' => obtain ⟨rfl, rfl, rfl, rfl⟩ := h; exact hd
    | junk => exact jk hd
    | _ => exact key h hd
  | _ => cases b <;> first | exact key h hd | exact jk hd

theorem intsOf_congr {k : IntKind} {n : Nat} {f g : Nat → Int} (h : ∀ j, j < n → f j = g j) : intsOf k n f = intsOf k n g := by
  unfold intsOf
  apply List.map_congr_left
  intro j hj
  rw [h j (by simpa using hj)]

theorem eqvS_den {E : Emb} : ∀ {a b : List Seg} {l : List Value}, eqvS a b → denS E a l → denS E b l
  | [], [], _, _, h => h
  | .one x :: r, .one y :: r', l, he, h => by
    simp only [eqvS] at he
    simp only [denS] at h ⊢
    obtain ⟨v, l', rfl, h1, h2⟩ := h
    exact ⟨v, l', rfl, eqvV_den he.1 h1, eqvS_den he.2 h2⟩
  | .ints k n f :: r, .ints k' m g :: r', l, he, h => by
    simp only [eqvS] at he
    obtain ⟨⟨rfl, rfl, h1⟩, he⟩ := he
    simp only [denS] at h ⊢
    obtain ⟨l', rfl, h2⟩ := h
    exact ⟨l', by rw [intsOf_congr h1], eqvS_den he h2⟩
  | [], .one _ :: _, _, he, _ => by simp [eqvS] at he
  | [], .ints .. :: _, _, he, _ => by simp [eqvS] at he
  | .one _ :: _, [], _, he, _ => by simp [eqvS] at he
  | .ints .. :: _, [], _, he, _ => by simp [eqvS] at he
  | .one _ :: _, .ints .. :: _, _, he, _ => by simp [eqvS] at he
  | .ints .. :: _, .one _ :: _, _, he, _ => by simp [eqvS] at he

theorem eqvS_size : ∀ {a b : List Seg}, eqvS a b → sizeS a = sizeS b
  | [], [], _ => rfl
  | .one x :: r, .one y :: r', he => by simp only [eqvS] at he; simp only [sizeS, eqvS_size he.2]
  | .ints k n f :: r, .ints k' m g :: r', he => by
    simp only [eqvS] at he
    simp only [sizeS, eqvS_size he.2, he.1.2.1]
  | [], .one _ :: _, he => by simp [eqvS] at he
  | [], .ints .. :: _, he => by simp [eqvS] at he
  | .one _ :: _, [], he => by simp [eqvS] at he
  | .ints .. :: _, [], he => by simp [eqvS] at he
  | .one _ :: _, .ints .. :: _, he => by simp [eqvS] at he
  | .ints .. :: _, .one _ :: _, he => by simp [eqvS] at he

mutual
theorem eqvE_den {E : Emb} : ∀ (a b : EV) (v : Value), eqvE a b → denE E a v → denE E b v
  | .s a, .s b, v, he, h => by simp only [eqvE] at he; simp only [denE] at h ⊢; exact eqvV_den he h
  | .agg a, .agg b, v, he, h => by
    simp only [eqvE] at he
    simp only [denE] at h ⊢
    obtain ⟨l, rfl, h1⟩ := h
    exact ⟨l, rfl, eqvS_den he h1⟩
  | .tuple a, .tuple b, v, he, h => by
    simp only [eqvE] at he
    simp only [denE] at h ⊢
    obtain ⟨l, rfl, h1⟩ := h
    exact ⟨l, rfl, eqvT_den a b _ he h1⟩
  | .gd g a, .gd g' b, v, he, h => by
    simp only [eqvE] at he
    obtain ⟨rfl, he⟩ := he
    simp only [denE] at h ⊢
    exact ⟨fun hg => eqvE_den a b v he (h.1 hg), h.2⟩
  | _, .junk, _, _, _ => by simp only [denE]
  | .s _, .agg _, _, he, _ => by simp [eqvE] at he
  | .s _, .tuple _, _, he, _ => by simp [eqvE] at he
  | .s _, .gd _ _, _, he, _ => by simp [eqvE] at he
  | .agg _, .s _, _, he, _ => by simp [eqvE] at he
  | .agg _, .tuple _, _, he, _ => by simp [eqvE] at he
  | .agg _, .gd _ _, _, he, _ => by simp [eqvE] at he
  | .tuple _, .s _, _, he, _ => by simp [eqvE] at he
  | .tuple _, .agg _, _, he, _ => by simp [eqvE] at he
  | .tuple _, .gd _ _, _, he, _ => by simp [eqvE] at he
  | .gd _ _, .s _, _, he, _ => by simp [eqvE] at he
  | .gd _ _, .agg _, _, he, _ => by simp [eqvE] at he
  | .gd _ _, .tuple _, _, he, _ => by simp [eqvE] at he
  | .junk, .s _, _, he, _ => by simp [eqvE] at he
  | .junk, .agg _, _, he, _ => by simp [eqvE] at he
  | .junk, .tuple _, _, he, _ => by simp [eqvE] at he
  | .junk, .gd _ _, _, he, _ => by simp [eqvE] at he
theorem eqvT_den {E : Emb} : ∀ (a b : List EV) (l : List Value), eqvT a b → denT E a l → denT E b l
  | [], [], _, _, h => h
  | x :: r, y :: r', l, he, h => by
    simp only [eqvT] at he
    simp only [denT] at h ⊢
    obtain ⟨v, l', rfl, h1, h2⟩ := h
    exact ⟨v, l', rfl, eqvE_den x y v he.1 h1, eqvT_den r r' l' he.2 h2⟩
  | [], _ :: _, _, he, _ => by simp [eqvT] at he
  | _ :: _, [], _, he, _ => by simp [eqvT] at he
end

/-- What is known of a world stays so where nothing that was there has turned. -/
theorem Sim.keep {E : Emb} {h : List Blk} {w w' : World} (S : Sim E h w) (hs : w.heap.size ≤ w'.heap.size) (hk : ∀ b, b < w.heap.size → w'.heap[b]? = w.heap[b]?) : Sim E h w' := by
  have hc : ∀ b o, b < w.heap.size → w'.cell? ⟨b, o, none⟩ = w.cell? ⟨b, o, none⟩ := fun b o hb => World.cell?_of_block (w := w) (hk b hb)
  refine ⟨S.n, fun i B hi => ?_, S.dis⟩
  have hb := S.ok i B hi
  cases B with
  | cells m cs sp =>
    obtain ⟨h1, ⟨l, h2, h3⟩, h4⟩ := hb
    have hlt : ∀ j, j < sizeS cs + sp → (E.f i).1 < w.heap.size := fun j hj => by
      rcases h1 with h1 | h1
      · exact h1
      · omega
    refine ⟨?_, ⟨l, h2, fun j v hj => ?_⟩, fun hm j hj => ?_⟩
    · rcases h1 with h1 | h1
      · exact .inl (by omega)
      · exact .inr h1
    · have hj' : j < sizeS cs := by
        rw [← denS_length h2]
        rcases Nat.lt_or_ge j l.length with h' | h'
        · exact h'
        · simp [List.getElem?_eq_none h'] at hj
      rw [hc _ _ (hlt j (by omega))]; exact h3 j v hj
    · rw [hc _ _ (hlt j hj)]; exact ⟨(h4 hm j hj).1, (h4 hm j hj).2.of_block (hk _ (hlt j hj))⟩
  | map es =>
    obtain ⟨l, c, h1, h2⟩ := hb
    have hlt : (E.f i).1 < w.heap.size := by
      rcases Nat.lt_or_ge (E.f i).1 w.heap.size with h' | h'
      · exact h'
      · simp [Array.getElem?_eq_none h'] at h1
    exact ⟨l, c, by rw [hk _ hlt]; exact h1, h2⟩
  | dead => trivial

/-- **A function of plain values, in whatever state**: walked over the empty small world. -/
theorem fnX_pure (T : Tbl) {f : FuncId} {F : Func} (hF : T.P.funcs[f]? = some F) (hb : F.body.isNone = false) (hname : (F.name == "runtime.NumGoroutine") = false) {args : List EV}
    (hargs : noPtrT args = true) (r : EV) (hr : noPtr r = true) (hX : ∀ O : Org, O.E.n = O.h.length → fnX T O F args [] (fun v _ => eqvE v r)) (h : List Blk) : Does T f args h (fun v h' => v = r ∧ h' = h) := by
  refine ⟨.inl ⟨⟨F, hF, hb, hname⟩, fun E w vs S ha => ?_⟩⟩
  let E0 : Emb := ⟨0, fun _ => ⟨0, 0, false⟩⟩
  have S0 : Sim E0 [] w := ⟨rfl, fun i B hi => by simp at hi, fun i j A B _ hi => by simp at hi⟩
  have c := fnX_call T hF (args := args) (h := []) (Q := fun v _ => eqvE v r) (fun E w S => hX _ S.n) E0 w vs S0 (noPtrT_den args _ hargs ha)
  refine c.mono ?_
  rintro e w' ⟨v, x, h', E', rfl, hd, S', N', hq⟩
  have hno : ∀ o b, ¬ mutAt E0 [] b o := fun o b hm => by
    obtain ⟨i, B, hi, _⟩ := hm
    simp at hi
  have hk : ∀ b, b < w.heap.size → w'.heap[b]? = w.heap[b]? := fun b hb => N'.frame b hb (fun o => hno o b)
  exact ⟨v, r, h, E, rfl, noPtr_den r v hr (eqvE_den x r v hq hd), S.keep N'.size hk, ⟨Nat.le_refl _, fun _ _ => rfl, N'.size, fun b hb _ => hk b hb,
    fun b o hb _ => ⟨World.cell?_of_block (w := w) (hk b hb), fun _ => World.frozen?_of_block (w := w) (hk b hb)⟩, fun _ _ hm _ => hm, N'.os, N'.tape, N'.output, N'.rows⟩, rfl, rfl⟩

/-! ### loops -/

/-- One state tells no more than another. -/
def eqvB : Blk → Blk → Prop
  | .cells m cs sp, .cells m' cs' sp' => m = m' ∧ sp = sp' ∧ eqvS cs cs'
  | x, y => x = y

def eqvH : List Blk → List Blk → Prop
  | [], [] => True
  | x :: r, y :: r' => eqvB x y ∧ eqvH r r'
  | _, _ => False

theorem eqvB_refl (b : Blk) : eqvB b b := by cases b <;> simp [eqvB, eqvS_refl]

structure St.le (s t : St) : Prop where
  tmps : eqvT s.tmps t.tmps
  heap : eqvH s.heap t.heap

theorem eqvT_nth {E : Emb} : ∀ {x y : List EV}, eqvT x y → x.length = y.length ∧ ∀ i v, denE E (nth x i) v → denE E (nth y i) v
  | [], [], _ => ⟨rfl, fun _ _ h => h⟩
  | a :: r, b :: r', h => by
    simp only [eqvT] at h
    obtain ⟨h1, h2⟩ := eqvT_nth (E := E) h.2
    refine ⟨by simp [h1], fun i v hd => ?_⟩
    cases i with
    | zero => exact eqvE_den a b v h.1 hd
    | succ i => simp only [nth] at hd ⊢; exact h2 i v hd
  | [], _ :: _, h => by simp [eqvT] at h
  | _ :: _, [], h => by simp [eqvT] at h

theorem eqvB_cov {p : Loc} {x y : Blk} (h : eqvB x y) (b o : Nat) : (cov p x b o ↔ cov p y b o) ∧ x.mut = y.mut := by
  cases x with
  | cells m cs sp =>
    cases y with
    | cells m' cs' sp' =>
      obtain ⟨rfl, rfl, h⟩ := h
      simp only [cov, eqvS_size h, Blk.mut, and_true]
    | map es => simp [eqvB] at h
    | dead => simp [eqvB] at h
  | map es =>
    have h' : Blk.map es = y := by cases y <;> exact h
    subst h'
    exact ⟨Iff.rfl, rfl⟩
  | dead =>
    have h' : Blk.dead = y := by cases y <;> exact h
    subst h'
    exact ⟨Iff.rfl, rfl⟩

theorem eqvB_ok {E : Emb} {w : World} {p : Loc} {x y : Blk} (h : eqvB x y) (k : okBlk E w p x) : okBlk E w p y := by
  cases x with
  | cells m cs sp =>
    cases y with
    | cells m' cs' sp' =>
      obtain ⟨rfl, rfl, h⟩ := h
      obtain ⟨h1, ⟨l, h2, h3⟩, h4⟩ := k
      exact ⟨by rw [← eqvS_size h]; exact h1, ⟨l, eqvS_den h h2, h3⟩, by rw [← eqvS_size h]; exact h4⟩
    | map es => simp [eqvB] at h
    | dead => trivial
  | map es =>
    have h' : Blk.map es = y := by cases y <;> exact h
    subst h'
    exact k
  | dead =>
    have h' : Blk.dead = y := by cases y <;> exact h
    subst h'
    exact k

theorem eqvH_get : ∀ {x y : List Blk} {i : Nat} {B : Blk}, eqvH x y → y[i]? = some B → ∃ A, x[i]? = some A ∧ eqvB A B
  | [], [], i, B, _, h => by simp at h
  | a :: r, b :: r', 0, B, he, h => by simp at h; subst h; exact ⟨a, by simp, he.1⟩
  | a :: r, b :: r', i + 1, B, he, h => by
    obtain ⟨A, h1, h2⟩ := eqvH_get (i := i) he.2 (by simpa using h)
    exact ⟨A, by simpa using h1, h2⟩
  | [], _ :: _, _, _, he, _ => by simp [eqvH] at he
  | _ :: _, [], _, _, he, _ => by simp [eqvH] at he

theorem eqvH_length : ∀ {x y : List Blk}, eqvH x y → x.length = y.length
  | [], [], _ => rfl
  | a :: r, b :: r', he => by simp [eqvH_length he.2]
  | [], _ :: _, he => by simp [eqvH] at he
  | _ :: _, [], he => by simp [eqvH] at he

theorem Sim.eqv {E : Emb} {h h' : List Blk} {w : World} (S : Sim E h w) (he : eqvH h h') : Sim E h' w := by
  refine ⟨by rw [← eqvH_length he]; exact S.n, fun i B hi => ?_, fun i j A B hij hi hj hA b o hc => ?_⟩
  · obtain ⟨A, h1, h2⟩ := eqvH_get he hi
    exact eqvB_ok h2 (S.ok i A h1)
  · obtain ⟨A', h1, h2⟩ := eqvH_get he hi
    obtain ⟨B', h3, h4⟩ := eqvH_get he hj
    rw [← (eqvB_cov h4 b o).1]
    exact S.dis i j A' B' hij h1 h3 (by rw [(eqvB_cov (p := E.f i) h2 b o).2]; exact hA) b o ((eqvB_cov h2 b o).1.2 hc)

theorem Since.eqv {E E' : Emb} {h h1 h2 : List Blk} {w w' : World} (N : Since E h w E' h1 w') (he : eqvH h1 h2) : Since E h w E' h2 w' :=
  ⟨by rw [← eqvH_length he]; exact N.len, N.same, N.size, N.frame, N.cells, fun b o hm hb => by
    obtain ⟨i, B, hi, hB, hc⟩ := hm
    obtain ⟨A, k1, k2⟩ := eqvH_get he hi
    exact N.new b o ⟨i, A, k1, by rw [(eqvB_cov (p := E'.f i) k2 b o).2]; exact hB, (eqvB_cov k2 b o).1.2 hc⟩ hb, N.os, N.tape, N.output, N.rows⟩

theorem Rel.le {O : Org} {E : Emb} {s t : St} {a : Act} {w : World} (R : Rel O E s a w) (h : s.le t) : Rel O E t a w := by
  obtain ⟨h1, h2⟩ := h
  obtain ⟨k1, k2⟩ := eqvT_nth (E := E) h1
  exact ⟨⟨by rw [R.fr.1, k1], fun i v hi => k2 i v (R.fr.2 i v hi)⟩, R.df, R.sim.eqv h2, R.sin.eqv h2⟩

/-- **A loop, by what holds at each round's head.** -/
theorem loop_rule {T : Tbl} {O : Org} (on : O.E.n = O.h.length) {A : Type} {c : Code} {s : St} {K : Exit → St → Prop} (st : A → St) (I : A → Prop) (μ : A → Nat) (x0 : A) (h0 : I x0) (hs : s.le (st x0))
    (round : ∀ x, I x → wpx T O c (st x) (fun e s' => match e with
      | .normal => ∃ y, I y ∧ s'.le (st y) ∧ μ y < μ x
      | e => K e s')) : LoopG T O c s K := by
  intro E a w R
  refine wp_loop_ghost (fun n a w => ∃ E x, I x ∧ Rel O E (st x) a w ∧ μ x = n) (μ x0) ⟨E, x0, h0, R.le hs, rfl⟩ ?_
  rintro n a w ⟨E, x, hI, R, rfl⟩
  refine Code.wp_mono ?_ (wpx_snd on c (round x hI) R)
  rintro e a' w' ⟨E', s', hk, R'⟩
  cases e <;> first
    | (obtain ⟨y, h1, h2, h3⟩ := hk
       exact ⟨μ y, h3, E', y, h1, R'.le h2, rfl⟩)
    | exact ⟨E', s', hk, R'⟩

/-- n rounds, one by one. -/
def loopN (T : Tbl) (O : Org) (c : Code) : Nat → St → (Exit → St → Prop) → Prop
  | 0, _, _ => False
  | n + 1, s, K => wpx T O c s (seqK (fun s' => loopN T O c n s' K) K)

theorem loop_unroll {T : Tbl} {O : Org} (on : O.E.n = O.h.length) {c : Code} {K : Exit → St → Prop} (n : Nat) {s : St} (h : loopN T O c n s K) : LoopG T O c s K := by
  intro E a w R
  refine wp_loop_rounds n ?_
  induction n generalizing s E a w with
  | zero => exact h.elim
  | succ n ih =>
    rw [rounds_succ]
    refine Code.wp_mono ?_ (wpx_snd on c h R)
    rintro e a' w' ⟨E', s', hk, R'⟩
    cases e <;> first
      | exact ih hk E' a' w' R'
      | exact ⟨E', s', hk, R'⟩

theorem ifB_intro {t : Bool} {a b : Prop} (h1 : t = true → a) (h2 : t = false → b) : ifB t a b := by
  cases t
  · exact h2 rfl
  · exact h1 rfl

theorem need_intro {p k : Prop} (h1 : p) (h2 : k) : Need p k := ⟨h1, h2⟩

end Go.Anv
