/- Part 8 of the texts of this claim, merged: E26, E27, I1, W0, A1, A2, A3, A4, A5, A6, E22, F1, F3, F5, A7. No condition: plain theorems, contracts of functions. -/
import Derived.Test.YtdlpmbghocabbaaGreatDoorZ7
import Derived.Recover

set_option linter.unusedSimpArgs false
set_option linter.unusedVariables false
/- The engine: calls that may end in a panic. Plain theorems; their conditions are the table's own facts. -/
namespace Go.Anv
open Go
/-- An ending as one value: what is handed back; what is thrown, with a mark behind it. -/
def tagE : Ending → Ending
  | .returned v => .returned (.tuple #[v])
  | .panicked [⟨v, false, false⟩] => .returned (.tuple #[v, undef])
  | _ => .outgrown
/-- What a call leaves that hands back (Q) or throws (R). -/
def both (Q R : EV → List Blk → Prop) (y : EV) (h : List Blk) : Prop :=
  match y with
  | .tuple [x] => Q x h
  | .tuple [x, _] => R x h
  | _ => False
/-- A function that may be called, may throw, and what comes of it. -/
structure DoesP (T : Tbl) (f : FuncId) (args : List EV) (h : List Blk) (S : EV → List Blk → Prop) : Prop where
  go : (isFn T f ∧ ∀ E w vs, Sim E h w → TabOk E h w → denT E args vs.toList → Calls T.P f vs w fun e w' => Post E h w S (tagE e) w') ∨ Does T f args h fun v h' => S (.tuple [v]) h'
theorem DoesP.mono {T : Tbl} {f : FuncId} {args : List EV} {h : List Blk} {S S' : EV → List Blk → Prop} (c : DoesP T f args h S) (hq : ∀ v h', S v h' → S' v h') : DoesP T f args h S' := by
  refine ⟨?_⟩
  rcases c.go with ⟨h1, h2⟩ | h1
  · exact .inl ⟨h1, fun E w vs S Z ha => (h2 E w vs S Z ha).mono fun _ _ p => p.mono hq⟩
  · exact .inr (h1.mono fun v h' q => hq _ _ q)
/-- A function that never throws. -/
theorem Does.p {T : Tbl} {f : FuncId} {args : List EV} {h : List Blk} {Q R : EV → List Blk → Prop} (d : Does T f args h Q) : DoesP T f args h (both Q R) := ⟨.inr d⟩
theorem DoesP.frame {T : Tbl} {f : FuncId} {args : List EV} {hc : List Blk} {Q : EV → List Blk → Prop} (c : DoesP T f args hc Q) (κ : List Nat) {h : List Blk} (hnd : κ.Nodup) (hro : ∀ v h', Q v h' → roOk hc h')
    (hh : subH h κ (renH (lk κ h.length) hc)) : DoesP T f (renT (lk κ h.length) args) h (fun v h'' => ∃ v' h', Q v' h' ∧ v = renE (lk κ h.length) v' ∧ h'' = mergeB h κ (renH (lk κ h.length) h')) := by
  refine ⟨?_⟩
  rcases c.go with ⟨h1, h2⟩ | d
  · refine .inl ⟨h1, fun E w vs S Z ha => ?_⟩
    obtain ⟨Ec, k1, kz, k2, k3⟩ := frame_core κ hnd hro hh S ha
    exact (h2 Ec w vs k1 (kz Z) k2).mono fun _ _ p => k3 _ _ p
  · refine .inr ((d.frame κ hnd (fun v h' q => hro _ _ q) hh).mono ?_)
    rintro v h'' ⟨v', h', hq, rfl, rfl⟩
    exact ⟨.tuple [v'], h', hq, rfl, rfl⟩
/-- A contract in a larger heap; the numbers behind it are written out. -/
theorem DoesP.atn {T : Tbl} {f : FuncId} {args : List EV} {hc : List Blk} {Q : EV → List Blk → Prop} (c : DoesP T f args hc Q) (κ : List Nat) {args' : List EV} {h : List Blk} {K : EV → List Blk → Prop}
    (ha : args' = renT (lk κ h.length) args) (hh : subH h κ (renH (lk κ h.length) hc)) (hnd : κ.Nodup) (hro : ∀ v h', Q v h' → roOk hc h')
    (hK : ∀ v' h', Q v' h' → nH (mergeB h κ (renH (lk κ h.length) h')) fun h2 => forceE (renE (lk κ h.length) v') fun v => K v h2) : DoesP T f args' h K := by
  rw [ha]
  refine (c.frame κ hnd hro hh).mono ?_
  rintro v h'' ⟨v', h', hq, rfl, rfl⟩
  have := hK v' h' hq
  rwa [nH_eq, forceE_eq] at this
theorem DoesP.args {T : Tbl} {f : FuncId} {a b : List EV} {h : List Blk} {Q : EV → List Blk → Prop} (e : eqvT a b) (d : DoesP T f b h Q) : DoesP T f a h Q := by
  refine ⟨?_⟩
  rcases d.go with ⟨h1, h2⟩ | d
  · exact .inl ⟨h1, fun E w vs S Z ha => h2 E w vs S Z (eqvT_den _ _ _ e ha)⟩
  · exact .inr (d.args e)
/-- A call that stands by itself may throw; a throw. -/
def opP (T : Tbl) (ops : Array Oper) (s : St) (o : Oper) (k : St → Prop) (kp : EV → St → Prop) : Prop :=
  match s with
  | ⟨ts, h⟩ => match o.guard, o.op with
    | none, .panic x => match evT ts x with
      | .s (.iface t g cs) => kp (.s (.iface t g cs)) ⟨ts, h⟩
      | _ => False
    | none, .call { callee := .value f, args, .. } => match evT ts f with
      | .s (.func (.func g) a c) => argsK a (args.toList.map (evT ts)) c fun l => DoesP T g l h (both (fun v h => forceE v fun v => putK ts h o.dst v k) (fun x h => kp x ⟨ts, h⟩))
      | _ => opX T ops ⟨ts, h⟩ o k
    | _, _ => opX T ops ⟨ts, h⟩ o k
def opsP (T : Tbl) (ops : Array Oper) (kp : EV → St → Prop) (l : List Oper) : St → (St → Prop) → Prop :=
  List.rec (motive := fun _ => St → (St → Prop) → Prop) (fun s k => k s) (fun o _ ih s k => opP T ops s o (fun s' => ih s' k) kp) l
def calmK (K : Exit → St → Prop) : Exit → St → Prop
  | .panic _, _ => False
  | e, s => K e s
def LiftP (O : Org) (kp : EV → St → Prop) (K : Exit → St → Prop) : Exit → Act → World → Prop
  | .panic chain, a, w => ∃ E s x u, chain = [⟨u, false, false⟩] ∧ kp x s ∧ denE E x u ∧ Rel O E s a w
  | e, a, w => ∃ E s, K e s ∧ Rel O E s a w
/-- A drawn region that may throw: behind a name, to be opened by a rule of its own. -/
def DrawP (T : Tbl) (O : Org) (id : Nat) (ops : Array Oper) (s : St) (kp : EV → St → Prop) (K : Exit → St → Prop) : Prop :=
  ∀ E a w, Rel O E s a w → (Code.region id ops true).wp T.P (LiftP O kp K) a w
/-- The walk of code that may throw. -/
def wpp (T : Tbl) (O : Org) (kp : EV → St → Prop) (c : Code) : St → (Exit → St → Prop) → Prop :=
  Code.rec (motive := fun _ => St → (Exit → St → Prop) → Prop)
    (fun s K => K .normal s)
    (fun id ops draw s K => match draw with
      | false => opsP T ops kp ops.toList s (K .normal)
      | true => DrawP T O id ops s kp K)
    (fun _ _ wa wb s K => wa s (seqK (fun s' => wb s' K) K))
    (fun c _ _ wa wb s K => match evT s.tmps c with
      | .s (.bool t) => ifB t (wa s K) (wb s K)
      | _ => False)
    (fun id _ wa s K => wa s (blockK id K))
    (fun a _ s K => LoopG T O a s (calmK K))
    (fun _ _ _ _ _ _ _ _ => False)
    (fun id s K => K (.exit id) s)
    (fun _ wa s K => wa s (scopeK K))
    (fun _ s K => K .normal s)
    (fun l s K => K (.goto l) s)
    (fun s K => K .ret s)
    (fun _ _ _ => False)
    c
section
variable {T : Tbl} {O : Org} (on : O.E.n = O.h.length) {E : Emb} {s : St} {a : Act} {w : World}
include on
theorem opP_snd (R : Rel O E s a w) {ops : Array Oper} {o : Oper} {k : St → Prop} {kp : EV → St → Prop} (hk : opP T ops s o k kp) {next : Act → World → Prop} {Q : Exit → Act → World → Prop}
    (hn : ∀ E' s' a' w', k s' → Rel O E' s' a' w' → next a' w') (hp : ∀ E' x u s' w', kp x s' → denE E' x u → Rel O E' s' a w' → Q (.panic [⟨u, false, false⟩]) a w') :
    if Region.wanted o (yielded ops a.tmps) then o.wp T.P a w next Q else next (a.put o.dst undef) w := by
  obtain ⟨ts, h⟩ := s
  unfold opP at hk
  dsimp only at hk
  split at hk
  · rename_i x hg hop
    rw [if_pos (by simp [Region.wanted, hg])]
    have hx := ev_denE R.fr x
    simp only [St.ev] at hx
    split at hk
    · rename_i t g cs hq
      rw [hq] at hx
      have hx' := hx
      unfold Oper.wp execOp
      have hv : ∃ v, a.eval x = .iface t v := by
        cases g <;> (simp only [denE, denV] at hx; obtain ⟨y, h1, _⟩ := hx; exact ⟨_, h1⟩)
      obtain ⟨v, hv⟩ := hv
      simp only [hop]
      have : ((do pure (.value (← Instr.panic (a.eval x))) : Sem Next)).run T.P w = .halt (.panic (a.eval x)) w := by rw [hv]; rfl
      rw [this, Oper.upon_panic]
      exact hp E _ _ _ _ hk hx' R
    · exact hk.elim
  · rename_i f args tys hg hop
    split at hk
    · rename_i g fa fc hq
      rw [if_pos (by simp [Region.wanted, hg])]
      have hf := ev_denE R.fr f
      simp only [St.ev] at hf
      rw [hq] at hf
      rw [argsK_eq] at hk
      simp only [denE, denV] at hf
      obtain ⟨f', c', hfv, h1, h2⟩ := hf
      have hargs0 := denT_map (E := E) (evT ts) a.eval args.toList (fun x _ => ev_denE R.fr x)
      have hargs : denT E (fa.map .s ++ args.toList.map (evT ts) ++ fc.map .s) (f' ++ args.map a.eval ++ c').toList := by
        simp only [Array.toList_append, Array.toList_map]
        exact denT_app (denT_app (denT_svs h1) hargs0) (denT_svs h2)
      unfold Oper.wp
      rcases hk.go with ⟨⟨F, hF, hb, hname⟩, hc⟩ | hd
      · have hrun : (execOp a.eval o).run T.P w = .ok (.enter g (f' ++ args.map a.eval ++ c')) w := by
          unfold execOp
          simp only [hop, resolve]
          rw [hfv]
          simp only [Deferred.ofValue, invoke, callFunc, Sem.run_bind, Result.andThen_ok, pure_bind, run_program, hF]
          simp [hb]
          intro hh
          simp [hh] at hname
        rw [hrun, Oper.upon_enter]
        refine (hc E w _ R.sim (O.Z.since R.sin) hargs).mono ?_
        intro e w' p
        cases e with
        | returned v =>
          obtain ⟨v', x, h', E', he, hd, S', N', hk'⟩ := p
          simp only [tagE, Ending.returned.injEq] at he
          subst he
          unfold both at hk'
          split at hk'
          · rename_i y
            simp only [denE] at hd
            obtain ⟨l, hl, hd⟩ := hd
            simp only [Value.tuple.injEq] at hl
            subst hl
            simp only [denT] at hd
            obtain ⟨v2, l2, hl2, hd, rfl⟩ := hd
            simp only [List.cons.injEq, and_true] at hl2
            subst hl2
            rw [forceE_eq, putK_eq] at hk'
            exact hn E' _ _ w' hk' ((R.on on S' N').put o.dst hd)
          · simp only [denE] at hd
            obtain ⟨l, hl, hd⟩ := hd
            simp only [Value.tuple.injEq] at hl
            subst hl
            simp only [denT] at hd
            obtain ⟨v2, l2, hl2, _, v3, l3, hl3, _⟩ := hd
            simp only [List.cons.injEq] at hl2
            rw [← hl2.2] at hl3
            cases hl3
          · exact hk'.elim
        | panicked chain =>
          obtain ⟨v', x, h', E', he, hd, S', N', hk'⟩ := p
          unfold tagE at he
          split at he
          · rename_i h0; cases h0
          · rename_i v0 h0
            simp only [Ending.panicked.injEq] at h0
            subst h0
            simp only [Ending.returned.injEq] at he
            subst he
            unfold both at hk'
            split at hk'
            · simp only [denE] at hd
              obtain ⟨l, hl, hd⟩ := hd
              simp only [Value.tuple.injEq] at hl
              subst hl
              simp only [denT] at hd
              obtain ⟨v2, l2, hl2, _, rfl⟩ := hd
              simp only [List.cons.injEq] at hl2
              cases hl2.2
            · rename_i y _
              simp only [denE] at hd
              obtain ⟨l, hl, hd⟩ := hd
              simp only [Value.tuple.injEq] at hl
              subst hl
              simp only [denT] at hd
              obtain ⟨v2, l2, hl2, hd, _⟩ := hd
              simp only [List.cons.injEq] at hl2
              obtain ⟨rfl, _⟩ := hl2
              exact hp E' _ _ _ w' hk' hd (R.on on S' N')
            · exact hk'.elim
          · cases he
        | outgrown =>
          obtain ⟨v', x, h', E', he, _⟩ := p
          cases he
      · have hcx : callX T (evT ts f) (args.toList.map (evT ts)) h fun v h => forceE v fun v => putK ts h o.dst v k := by
          rw [hq]
          simp only [callX, callV]
          rw [argsK_eq]
          exact hd
        have hN : opN T ⟨ts, h⟩ o k := by
          unfold opN
          simp only [hop]
          show effX T ts h o k
          unfold effX
          simp only [hop]
          exact hcx
        have := opN_snd on R hN hn (Q := Q)
        exact this
    · exact opX_snd on R hk hn
  · exact opX_snd on R hk hn
theorem opsP_snd {ops : Array Oper} {Q : Exit → Act → World → Prop} {kp : EV → St → Prop} (hp : ∀ E' x u s' a' w', kp x s' → denE E' x u → Rel O E' s' a' w' → Q (.panic [⟨u, false, false⟩]) a' w') :
    ∀ (l : List Oper) {E : Emb} {s : St} {a : Act} {w : World}, Rel O E s a w → ∀ {k : St → Prop}, opsP T ops kp l s k →
    (∀ E' s' a' w', k s' → Rel O E' s' a' w' → Q .normal a' w') → wpList T.P ops Q l a w
  | [], _, _, _, _, R, _, hk, hn => hn _ _ _ _ hk R
  | o :: r, _, _, a, _, R, k, hk, hn => by
    have hk : opP T ops _ o (fun s' => opsP T ops kp r s' k) kp := hk
    have := opP_snd on R hk (next := wpList T.P ops Q r) (Q := Q) (fun E' s' a' w' h1 h2 => opsP_snd hp r h2 h1 hn) (fun E' x u s' w' h1 h2 h3 => hp _ _ _ _ _ _ h1 h2 h3)
    unfold wpList
    split
    · rename_i hw; rw [if_pos hw] at this; exact .inl this
    · rename_i hw; rw [if_neg hw] at this; exact this
omit on in
theorem lift_calm {kp : EV → St → Prop} {K : Exit → St → Prop} : ∀ e a w, Lift O (calmK K) e a w → LiftP O kp K e a w := by
  rintro e a w ⟨E, s, hk, R⟩
  cases e <;> first
    | exact hk.elim
    | exact ⟨E, s, hk, R⟩
omit on in
theorem liftP_seq {kp : EV → St → Prop} {next : St → Prop} {K : Exit → St → Prop} {b : Code} (hb : ∀ E s a w, next s → Rel O E s a w → b.wp T.P (LiftP O kp K) a w) :
    ∀ e a w, LiftP O kp (seqK next K) e a w → Exit.then (b.wp T.P (LiftP O kp K)) (LiftP O kp K) e a w := by
  intro e a w h
  cases e <;> first
    | (obtain ⟨E, s, hk, R⟩ := h; exact hb E s a w hk R)
    | exact h
omit on in
theorem liftP_block {kp : EV → St → Prop} {id : Nat} {K : Exit → St → Prop} : ∀ e a w, LiftP O kp (blockK id K) e a w → Exit.inBlock id (LiftP O kp K) e a w := by
  intro e a w h
  cases e <;> first
    | exact h
    | (obtain ⟨E, s, hk, R⟩ := h; simp only [blockK, Exit.inBlock] at *; split <;> rename_i h <;> simp only [h, if_true, if_false] at hk <;> exact ⟨E, s, hk, R⟩)
omit on in
theorem liftP_scope {kp : EV → St → Prop} {K : Exit → St → Prop} : ∀ e a w, LiftP O kp (scopeK K) e a w → Exit.noGoto (LiftP O kp K) e a w := by
  intro e a w h
  cases e <;> first
    | (obtain ⟨E, s, hk, R⟩ := h; exact hk.elim)
    | exact h
theorem wpp_snd {kp : EV → St → Prop} : ∀ (c : Code) {E : Emb} {s : St} {a : Act} {w : World} {K : Exit → St → Prop}, wpp T O kp c s K → Rel O E s a w → c.wp T.P (LiftP O kp K) a w
  | .skip, _, _, _, _, _, h, R => wp_skip ⟨_, _, h, R⟩
  | .label _, _, _, _, _, _, h, R => wp_label ⟨_, _, h, R⟩
  | .region id ops false, _, _, _, _, _, h, R => by
    refine wp_region_list (opsP_snd on (kp := kp) (fun E' x u s' a' w' h1 h2 h3 => ⟨E', s', x, u, rfl, h1, h2, h3⟩) ops.toList R (k := fun s => _) h (fun E' s' a' w' h1 h2 => ⟨E', s', h1, h2⟩))
  | .region id ops true, _, _, _, _, _, h, R => h _ _ _ R
  | .seq x y, _, _, _, _, K, h, R => by
    refine wp_seq (Code.wp_mono (liftP_seq fun E s a w hn hR => wpp_snd y hn hR) (wpp_snd x h R))
  | .cond c x y, _, s, a, _, K, h, R => by
    change (match evT s.tmps c with
      | .s (.bool t) => ifB t (wpp T O kp x s K) (wpp T O kp y s K)
      | _ => False) at h
    split at h
    · rename_i t ht
      have hev := ev_denE R.fr c
      simp only [St.ev] at hev
      rw [ht] at hev
      simp only [denE, denV] at hev
      refine wp_cond hev ?_
      unfold ifB at h
      cases t with
      | true => exact wpp_snd x h R
      | false => exact wpp_snd y h R
    · exact h.elim
  | .block id x, _, _, _, _, K, h, R => wp_block (Code.wp_mono liftP_block (wpp_snd x h R))
  | .loop x, _, _, _, _, _, h, R => Code.wp_mono lift_calm (h _ _ _ R)
  | .exit id, _, _, _, _, _, h, R => wp_exit ⟨_, _, h, R⟩
  | .ret, _, _, _, _, _, h, R => wp_ret ⟨_, _, h, R⟩
  | .goto l, _, _, _, _, _, h, R => wp_goto ⟨_, _, h, R⟩
  | .scope x, _, _, _, _, K, h, R => wp_scope_straight (Code.wp_mono liftP_scope (wpp_snd x h R))
  | .rangeFunc .., _, _, _, _, _, h, _ => h.elim
  | .refuse _, _, _, _, _, _, h, _ => h.elim
end
/-- A drawn region that throws nothing. -/
theorem draw_calm {T : Tbl} {O : Org} {id : Nat} {ops : Array Oper} {s : St} {kp : EV → St → Prop} {K : Exit → St → Prop} (h : DrawG T O id ops s (calmK K)) : DrawP T O id ops s kp K :=
  fun E a w R => Code.wp_mono lift_calm (h E a w R)
/-- As opP; what stands at a place that is not told is told by the proof. -/
def opQ (T : Tbl) (ops : Array Oper) (s : St) (o : Oper) (k : St → Prop) (kp : EV → St → Prop) : Prop :=
  match s with
  | ⟨ts, h⟩ => match o.guard, o.op with
    | none, .index _ x _ => match evT ts x with
      | .agg _ => ∃ p v, px T h (evT ts) (evT ts) o.op = .need p v ∧ p ∧ forceE v fun v => putK ts h o.dst v k
      | _ => opX T ops ⟨ts, h⟩ o k
    | _, _ => opP T ops ⟨ts, h⟩ o k kp
/-- All orders, one by one. -/
def drawA (T : Tbl) (ops : Array Oper) (kp : EV → St → Prop) (k : St → Prop) (n : Nat) : List Bool → St → Prop :=
  Nat.rec (motive := fun _ => List Bool → St → Prop) (fun l s => match rdyGo l 0 ops.toList l with
    | [] => k s
    | _ :: _ => False) (fun _ ih l s => match rdyGo l 0 ops.toList l with
    | [] => k s
    | i :: rs => allK (fun i o => opQ T ops s o (fun s' => ih (setB l i) s') kp) ops.toList (i :: rs)) n
section
variable {T : Tbl} {O : Org} (on : O.E.n = O.h.length)
include on
theorem opQ_snd {E : Emb} {s : St} {a : Act} {w : World} (R : Rel O E s a w) {ops : Array Oper} {o : Oper} {k : St → Prop} {kp : EV → St → Prop} (hk : opQ T ops s o k kp) {next : Act → World → Prop} {Q : Exit → Act → World → Prop}
    (hn : ∀ E' s' a' w', k s' → Rel O E' s' a' w' → next a' w') (hp : ∀ E' x u s' w', kp x s' → denE E' x u → Rel O E' s' a w' → Q (.panic [⟨u, false, false⟩]) a w') :
    if Region.wanted o (yielded ops a.tmps) then o.wp T.P a w next Q else next (a.put o.dst undef) w := by
  obtain ⟨ts, h⟩ := s
  unfold opQ at hk
  dsimp only at hk
  split at hk
  · rename_i x _ hg hop
    split at hk
    · obtain ⟨p, v, h1, h2, h3⟩ := hk
      rw [forceE_eq, putK_eq] at h3
      have hN : opN T ⟨ts, h⟩ o k := by
        unfold opN
        dsimp only
        rw [h1]
        refine ⟨h2, ?_⟩
        rw [forceE_eq, putK_eq]
        exact h3
      rw [if_pos (by simp [Region.wanted, hg])]
      exact opN_snd on R hN hn
    · exact opX_snd on R hk hn
  · exact opP_snd on R hk hn hp
theorem drawA_snd {ops : Array Oper} {kp : EV → St → Prop} {Q : Exit → Act → World → Prop} {k : St → Prop} (hp : ∀ E' x u s' a' w', kp x s' → denE E' x u → Rel O E' s' a' w' → Q (.panic [⟨u, false, false⟩]) a' w')
    (hn : ∀ E' s' a' w', k s' → Rel O E' s' a' w' → Q .normal a' w') :
    ∀ (n : Nat) (l : List Bool) {E : Emb} {s : St} {a : Act} {w : World}, l.length = ops.size → Rel O E s a w → drawA T ops kp k n l s → wpAnyH T.P .any ops Q (fun _ => True) n l.toArray a w
  | 0, l, E, s, a, w, hl, R, hk => by
    have hk : (match rdyGo l 0 ops.toList l with
      | [] => k s
      | _ :: _ => False) := hk
    rw [rdy_eq ops l hl] at hk
    split at hk
    · rename_i hr
      exact ⟨hr, hn _ _ _ _ hk R⟩
    · exact hk.elim
  | n + 1, l, E, s, a, w, hl, R, hk => by
    have hset : ∀ i, (setB l i).toArray = l.toArray.setIfInBounds i true := fun i => by simp [setB_eq]
    have hk : (match rdyGo l 0 ops.toList l with
      | [] => k s
      | i :: rs => allK (fun i o => opQ T ops s o (fun s' => drawA T ops kp k n (setB l i) s') kp) ops.toList (i :: rs)) := hk
    rw [rdy_eq ops l hl] at hk
    split at hk
    · rename_i hr
      exact wpAnyH_done hr (hn _ _ _ _ hk R) _
    · rename_i i rs hr
      refine wpAnyH_all hr (by simp) fun j hj => ?_
      obtain ⟨o, ho, hk⟩ := allK_spec hk j hj
      have ho' : ops[j]? = some o := by simpa using ho
      have := opQ_snd on R hk (next := fun a' w' => True ∧ wpAnyH T.P .any ops Q (fun _ => True) n (l.toArray.setIfInBounds j true) a' w') (Q := Q) (fun E' s' a' w' h1 h2 => by
        refine ⟨trivial, ?_⟩
        rw [← hset]
        exact drawA_snd hp hn n (setB l j) (by rw [length_setB]; exact hl) h2 h1) (fun E' x u s' w' h1 h2 h3 => hp _ _ _ _ _ _ h1 h2 h3)
      unfold wpOp
      simp only [ho']
      split
      · rename_i hw
        rw [if_pos hw] at this
        exact .inl this
      · rename_i hw
        rw [if_neg hw] at this
        exact this
end
/-- **A region that draws its order, and may throw: all orders, one by one.** -/
theorem draw_all {T : Tbl} {O : Org} (on : O.E.n = O.h.length) {id : Nat} {ops : Array Oper} {s : St} {kp : EV → St → Prop} {K : Exit → St → Prop}
    (hk : drawA T ops kp (K .normal) ops.size (falses ops.toList) s) : DrawP T O id ops s kp K := by
  intro E a w R
  have fal : (falses ops.toList).toArray = Array.replicate ops.size false := by simp [falses_eq]
  refine wp_region_held (S := fun _ => True) T.mixed ?_
  rw [← fal]
  exact drawA_snd on (kp := kp) (k := K .normal) (fun E' x u s' a' w' h1 h2 h3 => ⟨E', s', x, u, rfl, h1, h2, h3⟩) (fun E' s' a' w' h1 h2 => ⟨E', s', h1, h2⟩) ops.size _ (by simp [falses_eq])
    ⟨R.fr, R.df, R.sim.drew, R.sin.trans on R.sim.n (Since.drew E s.heap w)⟩ hk
/-- A function's body that may throw, walked. -/
def fnXP (T : Tbl) (O : Org) (F : Func) (args : List EV) (h : List Blk) (S : EV → List Blk → Prop) : Prop :=
  match F.body with
  | some c => frameK args F.ntmps fun ts => wpp T O (fun x s => S (.tuple [x, .junk]) s.heap) c ⟨ts, h⟩ (bodyK T F fun v h => S (.tuple [v]) h)
  | none => False
theorem rel_start {E : Emb} {h : List Blk} {w : World} (S : Sim E h w) (Z : TabOk E h w) {args : List EV} {vs : Array Value} (n : Nat) (hargs : denT E args vs.toList) :
    Rel ⟨E, h, w, [], Z⟩ E { tmps := args ++ junks (n - args.length), heap := h } { tmps := vs ++ Array.replicate (n - vs.size) undef, defers := [] } w := by
  have hlen : vs.size = args.length := by rw [← Array.length_toList]; exact denT_length hargs
  refine ⟨⟨by simp [length_junks, hlen], fun i v hi => ?_⟩, rfl, S, Since.refl _ _ _⟩
  rw [nth_append_junks]
  split
  · rename_i hlt
    rw [Array.getElem?_append_left (by omega)] at hi
    exact denT_nth hargs (by simpa using hi)
  · simp only [denE]
theorem Post.ends {E : Emb} {h : List Blk} {w w' : World} {e : Ending} {Q : EV → List Blk → Prop} (S : Sim E h w) (p : Post E h w (Ends h.length Q) e w') : Post E h w Q e w' := by
  obtain ⟨v, x, h', E', rfl, hd, S', N', V, H, κ, hq, hnd, hid, hv, hh⟩ := p
  obtain ⟨S'', h1, h2, h3⟩ := S'.renum hnd hh
  refine ⟨v, V, H, _, rfl, ?_, S'', N'.renum S.n S' hnd (by rw [S.n]; exact hid) hh, hq⟩
  exact (denE_ren (E := ⟨H.length, fun i => E'.f (lk κ h'.length i)⟩) h1 (fun b hb => ⟨h2 b hb, rfl⟩) _ _).1 (eqvE_den _ _ _ hv hd)
/-- **A function that may throw, walked over a small heap.** -/
theorem fnXP_does (T : Tbl) {f : FuncId} {F : Func} (hF : T.P.funcs[f]? = some F) (hb : F.body.isNone = false) (hname : (F.name == "runtime.NumGoroutine") = false) {args : List EV} {h : List Blk} {Q : EV → List Blk → Prop}
    (hX : ∀ O : Org, O.E.n = O.h.length → O.E.n = h.length → fnXP T O F args h (Ends h.length Q)) : DoesP T f args h Q := by
  refine ⟨.inl ⟨⟨F, hF, hb, hname⟩, fun E w vs S Z ha => ?_⟩⟩
  have hx := hX ⟨E, h, w, [], Z⟩ S.n S.n
  unfold fnXP at hx
  split at hx
  · rename_i c hc
    rw [frameK_eq] at hx
    refine (calls_of_wp (R := fun e w' => Post E h w (Ends h.length Q) (tagE e) w') hF hc ?_).mono fun _ _ p => Post.ends S p
    refine Code.wp_mono ?_ (wpp_snd (T := T) (O := ⟨E, h, w, [], Z⟩) S.n c hx (rel_start S Z F.ntmps ha))
    intro e a' w' hl
    cases e <;> first
      | (obtain ⟨E', s', hk, R'⟩ := hl
         obtain ⟨u, v, h1, h2, h3⟩ := resX_snd T R'.fr R'.sim hk
         exact ⟨R'.df, u, h1, .tuple #[u], .tuple [v], s'.heap, E', rfl, ⟨_, rfl, ⟨_, _, rfl, h2, rfl⟩⟩, R'.sim, R'.sin, h3⟩)
      | (obtain ⟨E', s', x, u, rfl, hk, hd, R'⟩ := hl
         exact ⟨R'.df, .tuple #[u, undef], .tuple [x, .junk], s'.heap, E', rfl, ⟨_, rfl, ⟨_, _, rfl, hd, ⟨_, _, rfl, trivial, rfl⟩⟩⟩, R'.sim, R'.sin, hk⟩)
      | (obtain ⟨E', s', hk, R'⟩ := hl
         exact hk.elim)
  · exact hx.elim
theorem Ends.ret {n : Nat} {Q R : EV → List Blk → Prop} {v : EV} {h : List Blk} (e : Ends n Q v h) : Ends n (both Q R) (.tuple [v]) h := by
  obtain ⟨V, H, κ, hq, h1, h2, h3, h4⟩ := e
  exact ⟨.tuple [V], H, κ, hq, h1, h2, ⟨h3, trivial⟩, h4⟩
theorem Ends.thr {n : Nat} {Q R : EV → List Blk → Prop} {v : EV} {h : List Blk} (e : Ends n R v h) : Ends n (both Q R) (.tuple [v, .junk]) h := by
  obtain ⟨V, H, κ, hq, h1, h2, h3, h4⟩ := e
  exact ⟨.tuple [V, .junk], H, κ, hq, h1, h2, ⟨h3, trivial, trivial⟩, h4⟩
end Go.Anv

/- The engine: a deferred call that recovers. Plain theorems; their conditions are the table's own facts. -/
namespace Go.Anv
open Go
/-- The operations ahead of a recover; that one; those behind. -/
def splitR : List Oper → Option (List Oper × Oper × List Oper)
  | [] => none
  | o :: r => match o.guard, o.op with
    | none, .call { callee := .builtin .recover, .. } => some ([], o, r)
    | _, _ => match splitR r with
      | some (p, x, q) => some (o :: p, x, q)
      | none => none
theorem splitR_spec : ∀ {l p q : List Oper} {x : Oper}, splitR l = some (p, x, q) → l = p ++ x :: q ∧ x.guard = none ∧ ∃ args tys, x.op = .call { callee := .builtin .recover, args := args, argTypes := tys }
  | [], _, _, _, h => by simp [splitR] at h
  | o :: r, p, q, x, h => by
    unfold splitR at h
    split at h
    · rename_i args tys hg hop
      simp only [Option.some.injEq, Prod.mk.injEq] at h
      obtain ⟨rfl, rfl, rfl⟩ := h
      exact ⟨rfl, hg, _, _, hop⟩
    · split at h
      · rename_i p' x' q' hs
        simp only [Option.some.injEq, Prod.mk.injEq] at h
        obtain ⟨rfl, rfl, rfl⟩ := h
        obtain ⟨h1, h2⟩ := splitR_spec hs
        exact ⟨by rw [h1]; rfl, h2⟩
      · cases h
/-- The walk of code whose first region recovers. -/
def wpr (T : Tbl) (O : Org) (rv : EV) (c : Code) (s : St) (K : Exit → St → Prop) : Prop :=
  match c with
  | .seq (.region _ ops false) b => match splitR ops.toList with
    | some (pre, o, post) => opsX T ops pre s fun s' => putK s'.tmps s'.heap o.dst rv fun s2 => opsX T ops post s2 fun s3 => wpx T O b s3 K
    | none => False
  | _ => False
section
variable {T : Tbl} {O : Org} (on : O.E.n = O.h.length)
include on
theorem opsX_S {ops : Array Oper} {Q : Exit → Act → List Frame → World → Prop} {cs : List Frame} : ∀ (l : List Oper) (i n : Nat) {E : Emb} {s : St} {a : Act} {w : World}, (∀ j, j < l.length → ops[i + j]? = l[j]?) → Rel O E s a w → ∀ {k : St → Prop}, opsX T ops l s k →
    (∀ E' s' a' w', k s' → Rel O E' s' a' w' → wpOpsS T.P ops Q (List.range' (i + l.length) n) a' cs w') → wpOpsS T.P ops Q (List.range' i (l.length + n)) a cs w
  | [], i, n, _, _, _, _, _, R, _, hk, hn => by
    have := hn _ _ _ _ hk R
    simpa using this
  | o :: r, i, n, E, s, a, w, hg, R, k, hk, hn => by
    have hk : opX T ops _ o (fun s' => opsX T ops r s' k) := hk
    have ho : ops[i]? = some o := by simpa using hg 0 (by simp)
    have := opX_snd on R hk (next := fun a' w' => wpOpsS T.P ops Q (List.range' (i + 1) (r.length + n)) a' cs w') (Q := fun e a' w' => Q e a' cs w') (fun E' s' a' w' h1 h2 =>
      opsX_S r (i + 1) n (fun j hj => by have := hg (j + 1) (by simp; omega); rw [show i + 1 + j = i + (j + 1) by omega, this]; simp) h2 h1 (fun E2 s2 a2 w2 h3 h4 => by
        have := hn E2 s2 a2 w2 h3 h4
        rwa [show i + (o :: r).length = i + 1 + r.length by simp; omega] at this))
    rw [show (o :: r).length + n = (r.length + n) + 1 by simp; omega, List.range'_succ]
    unfold wpOpsS
    simp only [ho]
    split
    · rename_i hw
      rw [if_pos hw] at this
      unfold Oper.wp at this
      generalize (execOp a.eval o).run T.P w = res at this ⊢
      split
      · exact this.elim
      · exact this
    · rename_i hw
      rw [if_neg hw] at this
      exact this
omit on in
theorem run_recover {P : Program} {o : Oper} {args : Array Operand} {tys : Array TypeId} (hop : o.op = .call { callee := .builtin .recover, args := args, argTypes := tys }) (ρ : Operand → Value) (w : World) : (execOp ρ o).run P w = .ok .recover w := by
  unfold execOp
  simp only [hop, resolve]
  rfl
theorem wpr_snd {rv : EV} {u : Value} {cs cs' : List Frame} (hr : recoverD cs = some (u, cs')) : ∀ (c : Code) {E : Emb} {s : St} {a : Act} {w : World} {K : Exit → St → Prop}, denE O.E rv u → wpr T O rv c s K → Rel O E s a w →
    c.wpS T.P (fun e a' cs2 w' => cs2 = cs' ∧ Lift O K e a' w') a cs w := by
  intro c E s a w K hrv hk R
  unfold wpr at hk
  split at hk
  · rename_i id ops b
    split at hk
    · rename_i pre o post hs
      obtain ⟨hl, hg, args, tys, hop⟩ := splitR_spec hs
      have hsz : ops.size = pre.length + (post.length + 1) := by rw [← Array.length_toList, hl]; simp
      have hget : ∀ j, ops[j]? = (pre ++ o :: post)[j]? := fun j => by rw [← hl, Array.getElem?_toList]
      apply wpS_seq
      apply wpS_region
      rw [hsz, List.range_eq_range']
      refine opsX_S on pre 0 (post.length + 1) (fun j hj => by rw [Nat.zero_add, hget, List.getElem?_append_left hj]) R hk fun E' s' a' w' hk' R' => ?_
      rw [putK_eq] at hk'
      rw [Nat.zero_add, List.range'_succ]
      unfold wpOpsS
      have ho : ops[pre.length]? = some o := by rw [hget]; simp
      simp only [ho]
      rw [if_pos (by simp [Region.wanted, hg]), run_recover hop]
      simp only [hr]
      have R2 := R'.put o.dst (denE_mono (R'.sin.le on R'.sim.n) _ _ hrv)
      have := opsX_S on (ops := ops) (cs := cs') (Q := Exit.thenS (b.wpS T.P (fun e a' cs2 w' => cs2 = cs' ∧ Lift O K e a' w')) (fun e a' cs2 w' => cs2 = cs' ∧ Lift O K e a' w')) post (pre.length + 1) 0
        (fun j hj => by rw [hget, show pre.length + 1 + j = pre.length + (j + 1) by omega, List.getElem?_append_right (by omega)]; simp) R2 hk' fun E3 s3 a3 w3 hk3 R3 => by
          show wpOpsS T.P ops _ (List.range' _ 0) a3 cs' w3
          exact wpS_of_wp (Code.wp_mono (fun e a w h => ⟨rfl, h⟩) (wpx_snd on b hk3 R3))
      exact this
    · exact hk.elim
  · exact hk.elim
end
/-- A function that is deferred and recovers what was thrown. -/
structure DoesR (T : Tbl) (f : FuncId) (args : List EV) (h : List Blk) (rv : EV) (Q : EV → List Blk → Prop) : Prop where
  go : isFn T f ∧ ∀ E w vs u, Sim E h w → TabOk E h w → denT E args vs.toList → denE E rv u → CallsD T.P f vs (.panicking [⟨u, false, false⟩]) w fun e u' w' => u' = .panicking [⟨u, true, false⟩] ∧ Post E h w Q e w'
theorem DoesR.mono {T : Tbl} {f : FuncId} {args : List EV} {h : List Blk} {rv : EV} {Q Q' : EV → List Blk → Prop} (c : DoesR T f args h rv Q) (hq : ∀ v h', Q v h' → Q' v h') : DoesR T f args h rv Q' :=
  ⟨c.go.1, fun E w vs u S Z ha hr => (c.go.2 E w vs u S Z ha hr).mono fun _ _ _ p => ⟨p.1, p.2.mono hq⟩⟩
def fnXR (T : Tbl) (O : Org) (F : Func) (args : List EV) (h : List Blk) (rv : EV) (Q : EV → List Blk → Prop) : Prop :=
  match F.body with
  | some c => frameK args F.ntmps fun ts => wpr T O rv c ⟨ts, h⟩ (bodyK T F Q)
  | none => False
/-- **A deferred function that recovers, walked over a small heap.** -/
theorem fnXR_does (T : Tbl) {f : FuncId} {F : Func} (hF : T.P.funcs[f]? = some F) (hb : F.body.isNone = false) (hname : (F.name == "runtime.NumGoroutine") = false) {args : List EV} {h : List Blk} {rv : EV} {Q : EV → List Blk → Prop}
    (hX : ∀ O : Org, O.E.n = O.h.length → O.E.n = h.length → fnXR T O F args h rv (Ends h.length Q)) : DoesR T f args h rv Q := by
  refine ⟨⟨F, hF, hb, hname⟩, fun E w vs u S Z ha hrv => ?_⟩
  have hx := hX ⟨E, h, w, [], Z⟩ S.n S.n
  unfold fnXR at hx
  split at hx
  · rename_i c hc
    rw [frameK_eq] at hx
    refine (callsD_of_wpS (R := fun e u' w' => u' = .panicking [⟨u, true, false⟩] ∧ Post E h w (Ends h.length Q) e w') hF hc fun c₀ cs hu => ?_).mono fun _ _ _ p => ⟨p.1, Post.ends S p.2⟩
    have hr : recoverD (c₀ :: cs) = some (u, { c₀ with mode := .panicking [⟨u, true, false⟩] } :: cs) := by
      simp only [recoverD, hu]
    have := wpr_snd (T := T) (O := ⟨E, h, w, [], Z⟩) S.n hr c hrv hx (rel_start S Z F.ntmps ha)
    intro b k h1 h2
    obtain ⟨e, a', cs', w', ⟨rfl, E', s', hk, R'⟩, harr⟩ := this b k h1 h2
    refine ⟨e, a', _, w', ?_, harr⟩
    cases e <;> first
      | (obtain ⟨u2, v, h1, h2, h3⟩ := resX_snd T R'.fr R'.sim hk
         exact ⟨R'.df, _, rfl, u2, h1, rfl, u2, v, s'.heap, E', rfl, h2, R'.sim, R'.sin, h3⟩)
      | exact hk.elim
  · exact hx.elim
/-- What comes behind a throw: the deferred call, and what is handed back. -/
def bodyR (T : Tbl) (F : Func) (f : EV) (args : List EV) (Q : EV → List Blk → Prop) (x : EV) (s : St) : Prop :=
  match f with
  | .s (.func (.func g) a c) => argsK a args c fun l => DoesR T g l s.heap x fun _ h => resX T ⟨s.tmps, h⟩ F.results.toList Q
  | _ => False
/-- A function's body that defers a call which recovers, walked. -/
def fnXQ (T : Tbl) (O : Org) (F : Func) (args : List EV) (h : List Blk) (Q : EV → List Blk → Prop) : Prop :=
  match F.body with
  | some c => frameK args F.ntmps fun ts => wpd T O c ⟨ts, h⟩ fun s f dargs rest => (∃ g x y, f = .s (.func g x y)) ∧ ∀ O' : Org, O'.E.n = O'.h.length → O'.E.n = s.heap.length → O.E.n ≤ O'.E.n → wpp T O' (bodyR T F f dargs Q) rest s (bodyD T F f dargs Q)
  | none => False
theorem fnXQ_call (T : Tbl) {f : FuncId} {F : Func} (hF : T.P.funcs[f]? = some F) {args : List EV} {h : List Blk} {Q : EV → List Blk → Prop}
    (hX : ∀ E w (Z : TabOk E h w), Sim E h w → fnXQ T ⟨E, h, w, [], Z⟩ F args h Q) : CallG T f args h Q := by
  intro E w vs S Z hargs
  have hx := hX E w Z S
  unfold fnXQ at hx
  split at hx
  · rename_i c hc
    rw [frameK_eq] at hx
    refine calls_of_wp_defers hF hc ?_
    refine wpd_snd (O := ⟨E, h, w, [], Z⟩) S.n ?_ c hx (rel_start S Z F.ntmps hargs)
    intro E1 s1 a1 w1 fv0 dargs fv dvs rest hk hfd hdargs R1 d hd
    have hdf : a1.defers = [] := R1.df
    have Z1 : TabOk E1 s1.heap w1 := Z.since R1.sin
    have hO := hk ⟨E1, s1.heap, w1, [d], Z1⟩ R1.sim.n R1.sim.n (by have h1 := R1.sin.len; have h2 := S.n; have h3 := R1.sim.n; simp only at *; omega)
    have R1' : Rel ⟨E1, s1.heap, w1, [d], Z1⟩ E1 s1 { a1 with defers := d :: a1.defers } w1 := ⟨R1.fr, by simp [hdf], R1.sim, Since.refl _ _ _⟩
    refine Code.wp_mono ?_ (wpp_snd (T := T) (O := ⟨E1, s1.heap, w1, [d], Z1⟩) R1.sim.n rest hO R1')
    have inv : ∀ {E2 s2} {a2 : Act} {w2} {g : FuncId} {fa fc : List SV}, Rel ⟨E1, s1.heap, w1, [d], Z1⟩ E2 s2 a2 w2 → fv0 = .s (.func (.func g) fa fc) → isFn T g →
        ∃ f' c', d = { target := .fn (.func g) c', args := f' ++ dvs.toArray } ∧ denT E2 (fa.map .s ++ dargs ++ fc.map .s) (f' ++ dvs.toArray ++ c').toList ∧ (invoke (.fn (.func g) c') (f' ++ dvs.toArray)).run T.P w2 = .ok (.enter g (f' ++ dvs.toArray ++ c')) w2 := by
      intro E2 s2 a2 w2 g fa fc R2 hfv hfn
      subst hfv
      simp only [denE, denV] at hfd
      obtain ⟨f', c', rfl, h1, h2⟩ := hfd
      have hdd : d = { target := .fn (.func g) c', args := f' ++ dvs.toArray } := by
        have h0 : (Deferred.ofValue (.func (.func g) f' c') dvs.toArray).run T.P w = .ok { target := .fn (.func g) c', args := f' ++ dvs.toArray } w := rfl
        have := hd T.P w
        rw [h0] at this
        cases this
        rfl
      obtain ⟨G, hG, hbody, hname⟩ := hfn
      have hle2 : E1.le E2 := R2.sin.le R1.sim.n R2.sim.n
      have hda : denT E2 (fa.map .s ++ dargs ++ fc.map .s) (f'.toList ++ dvs ++ c'.toList) := denT_app (denT_app (denT_svs (denL_mono hle2 _ _ h1)) (denT_mono hle2 _ _ hdargs)) (denT_svs (denL_mono hle2 _ _ h2))
      refine ⟨f', c', hdd, by simpa using hda, ?_⟩
      simp only [invoke, callFunc, Sem.run_bind, run_program, Result.andThen_ok, hG]
      simp [hbody]
      intro hh
      simp [hh] at hname
    have fin : ∀ {E2 s2} {a2 : Act} {w2 w3 e}, Rel ⟨E1, s1.heap, w1, [d], Z1⟩ E2 s2 a2 w2 → Post E2 s2.heap w2 (fun _ h => resX T ⟨s2.tmps, h⟩ F.results.toList Q) e w3 → ∃ v, e = .returned v ∧ Leaves T.P F a2.tmps (Post E h w Q) [] .returning w3 := by
      rintro E2 s2 a2 w2 w3 e R2 ⟨v, x, h3, E3, rfl, _, S3, N3, hq⟩
      have hfr : frameOk E3 s2.tmps a2.tmps := frameOk_mono (N3.le R2.sim.n S3.n) R2.fr
      obtain ⟨u, v', k1, k2, k3⟩ := resX_snd T (s := ⟨s2.tmps, h3⟩) hfr S3 hq
      refine ⟨v, rfl, u, k1, u, v', h3, E3, rfl, k2, S3, ?_, k3⟩
      have n1 := R1.sin
      exact ((n1.trans S.n R1.sim.n R2.sin).trans S.n R2.sim.n N3)
    have key : ∀ E2 s2 a2 w2, (match fv0 with
        | .s (.func (.func g) a c) => argsK a dargs c fun l => DoesD T g l s2.heap fun _ h => resX T ⟨s2.tmps, h⟩ F.results.toList Q
        | _ => False) → Rel ⟨E1, s1.heap, w1, [d], Z1⟩ E2 s2 a2 w2 → Leaves T.P F a2.tmps (Post E h w Q) a2.defers .returning w2 := by
      intro E2 s2 a2 w2 hb R2
      have hdf2 : a2.defers = [d] := R2.df
      split at hb
      · rename_i g fa fc
        rw [argsK_eq] at hb
        obtain ⟨hfn, hgo⟩ := hb.go
        obtain ⟨f', c', hdd, hda, hinv⟩ := inv R2 rfl hfn
        rw [hdf2, hdd]
        refine leaves_cons (by simp) hinv ?_
        refine (hgo E2 w2 _ R2.sim (Z1.since R2.sin) hda).mono ?_
        rintro e u' w3 ⟨rfl, p⟩
        obtain ⟨v, rfl, h3⟩ := fin R2 p
        exact h3
      · exact hb.elim
    have keyR : ∀ E2 s2 a2 w2 x u, bodyR T F fv0 dargs Q x s2 → denE E2 x u → Rel ⟨E1, s1.heap, w1, [d], Z1⟩ E2 s2 a2 w2 → Leaves T.P F a2.tmps (Post E h w Q) a2.defers (.panicking [⟨u, false, false⟩]) w2 := by
      intro E2 s2 a2 w2 x u hb hxu R2
      have hdf2 : a2.defers = [d] := R2.df
      unfold bodyR at hb
      split at hb
      · rename_i g fa fc
        rw [argsK_eq] at hb
        obtain ⟨hfn, hgo⟩ := hb.go
        obtain ⟨f', c', hdd, hda, hinv⟩ := inv R2 rfl hfn
        rw [hdf2, hdd]
        refine leaves_cons (by simp) hinv ?_
        refine (hgo E2 w2 _ u R2.sim (Z1.since R2.sin) hda hxu).mono ?_
        rintro e u' w3 ⟨rfl, p⟩
        obtain ⟨v, rfl, h3⟩ := fin R2 p
        exact h3
      · exact hb.elim
    intro e a2 w2 hl
    cases e <;> first
      | (obtain ⟨E2, s2, hb, R2⟩ := hl; exact key E2 s2 a2 w2 hb R2)
      | (obtain ⟨E2, s2, x, u, rfl, hb, hxu, R2⟩ := hl; exact keyR E2 s2 a2 w2 x u hb hxu R2)
      | (obtain ⟨E2, s2, hb, R2⟩ := hl; exact hb.elim)
  · exact hx.elim
/-- **A function that defers a call which recovers, walked over a small heap.** -/
theorem fnXQ_does (T : Tbl) {f : FuncId} {F : Func} (hF : T.P.funcs[f]? = some F) (hb : F.body.isNone = false) (hname : (F.name == "runtime.NumGoroutine") = false) {args : List EV} {h : List Blk} {Q : EV → List Blk → Prop}
    (hX : ∀ O : Org, O.E.n = O.h.length → O.E.n = h.length → fnXQ T O F args h (Ends h.length Q)) : Does T f args h Q := by
  refine ⟨.inl ⟨⟨F, hF, hb, hname⟩, fun E w vs S Z ha => ?_⟩⟩
  have c := fnXQ_call T hF (args := args) (h := h) (Q := Ends h.length Q) (fun E w Z S => hX _ S.n S.n) E w vs S Z ha
  exact c.mono fun _ _ p => Post.ends S p
def toA {A : Type} (n : Nat) (I : A → Prop) (t : A → St) : Exit → St → Prop
  | .normal, s => ∃ x, I x ∧ ∃ κ, leR n κ s (t x)
  | _, _ => False
/-- **A drawn region: all its orders end in one of some states (with other numbers), from which the walk goes on.** -/
theorem draw_any {T : Tbl} {O : Org} {A : Type} (on : O.E.n = O.h.length) {id : Nat} {ops : Array Oper} {s : St} {K : Exit → St → Prop} (I : A → Prop) (t : A → St) (hd : DrawG T O id ops s (toA O.E.n I t)) (hk : ∀ x, I x → K .normal (t x)) : DrawG T O id ops s K := by
  intro E a w R
  refine Code.wp_mono ?_ (hd E a w R)
  rintro e a' w' ⟨E', s', h1, R'⟩
  cases e with
  | normal =>
    obtain ⟨x, hx, κ, hκ⟩ := h1
    obtain ⟨E'', R''⟩ := R'.renum on hκ
    exact ⟨E'', t x, hk x hx, R''⟩
  | _ => exact h1.elim
theorem toA_of {A : Type} {n : Nat} {I : A → Prop} {t : A → St} {s : St} (x : A) (hx : I x) (κ : List Nat) (h1 : κ.Nodup) (h2 : idK 0 n κ) (h3 : eqvT s.tmps (renT (lk κ s.heap.length) (t x).tmps)) (h4 : subQ s.heap κ (renH (lk κ s.heap.length) (t x).heap)) : toA n I t .normal s := ⟨x, hx, κ, h1, h2, h3, h4⟩
theorem toA_id {A : Type} {n : Nat} {I : A → Prop} {t : A → St} (x : A) (hx : I x) (hn : n ≤ (t x).heap.length) : toA n I t .normal (t x) := ⟨x, hx, _, leR_refl hn⟩
/-- Ahead of a drawn region some blocks and slots are let go. -/
theorem DrawP.drop {T : Tbl} {O : Org} (on : O.E.n = O.h.length) {id : Nat} {ops : Array Oper} {s : St} {kp : EV → St → Prop} {K : Exit → St → Prop} (M : List Nat) (H : List Blk) (κ : List Nat) (h : leR O.E.n κ s ⟨forgetT M s.tmps, H⟩)
    (hk : forgetK M s.tmps fun ts => DrawP T O id ops ⟨ts, H⟩ kp K) : DrawP T O id ops s kp K := fun E a w R => by
  obtain ⟨E', R'⟩ := R.renum on h
  rw [forgetK_eq] at hk
  exact hk E' a w R'
/-- The state behind a region: the slots C, the heap H; what the region writes besides is not told. -/
def headO (ops : Array Oper) (s : St) (C : List (Nat × EV)) (H : List Blk) (k : St → Prop) : Prop :=
  forgetK (writesO ops.toList) s.tmps fun ts => laterK C ts fun ts => k ⟨ts, H⟩
theorem headO_eq (ops : Array Oper) (s : St) (C : List (Nat × EV)) (H : List Blk) (k : St → Prop) : headO ops s C H k = k ⟨laterT C (forgetT (writesO ops.toList) s.tmps), H⟩ := by
  unfold headO; rw [forgetK_eq, laterK_eq]
def byK {A : Type} (n : Nat) (ops : Array Oper) (s : St) (C : A → List (Nat × EV)) (H : A → List Blk) (I : A → Prop) : Exit → St → Prop
  | .normal, s' => ∃ x, I x ∧ ∃ κ, headO ops s (C x) (H x) fun t => leR n κ s' t
  | _, _ => False
/-- **A drawn region: all its orders end in states that slots and a heap tell.** -/
theorem draw_by {T : Tbl} {O : Org} {A : Type} (on : O.E.n = O.h.length) {id : Nat} {ops : Array Oper} {s : St} {K : Exit → St → Prop} (C : A → List (Nat × EV)) (H : A → List Blk) (I : A → Prop) (hd : DrawG T O id ops s (byK O.E.n ops s C H I))
    (hk : ∀ x, I x → headO ops s (C x) (H x) (K .normal)) : DrawG T O id ops s K := by
  intro E a w R
  refine Code.wp_mono ?_ (hd E a w R)
  rintro e a' w' ⟨E', s', h1, R'⟩
  cases e with
  | normal =>
    obtain ⟨x, hx, κ, hκ⟩ := h1
    rw [headO_eq] at hκ
    obtain ⟨E'', R''⟩ := R'.renum on hκ
    have := hk x hx
    rw [headO_eq] at this
    exact ⟨E'', _, this, R''⟩
  | _ => exact h1.elim
end Go.Anv

/- What an instruction throws; memory was met. Contracts of functions. -/
namespace Go.Anv
open Go
def TrapV.svs (t : TrapV) : List SV := [.bool t.is, .int .u64 t.cause.toNat, .int .u64 t.tval.toNat]
/-- What is thrown. -/
def faultE (t : TrapV) : EV := .s (.iface 76 true t.svs)
def Xs.touch (x : Xs) (kind : Int) (a : B64) (n : Int) (v : B64) : Xs := { x with d := { x.d with mem := kind, addr := a, size := n, data := v } }
end Go.Anv
namespace Go.Proofs.YtdlpmbghocabbaaGreatDoor
open Go Go.Anv
theorem stop_spec (c t : B64) : DoesP TB 50 [.s (.int .u64 c.toNat), .s (.int .u64 t.toNat)] [] (both (fun _ _ => False) (fun v h' => v = faultE ⟨true, c, t⟩ ∧ h' = [])) := by
  refine fnXP_does TB Tryz.func50 rfl (by decide) (fun O on hO => ?_)
  repeat (refine need_intro (by first | exact fun h => h | exact nt | exact an2 | exact an3 | rfl | (simp; done) | fail) ?_)
  exact Ends.thr (Ends.ro (H := []) rfl (eqvE_refl _) rfl)
theorem pass_no (c t : B64) : Does TB 87 [.agg (TrapV.segs ⟨false, c, t⟩)] [] (fun v h' => v = .tuple [] ∧ h' = []) := by
  refine fnX_does TB Tryz.func87 rfl (by decide) (fun O on hO => ?_)
  repeat (refine need_intro (by first | exact fun h => h | exact nt | exact an2 | exact an3 | rfl | (simp; done) | fail) ?_)
  exact Ends.ro (H := []) rfl (eqvE_refl _) rfl
theorem pass_yes (c t : B64) : DoesP TB 87 [.agg (TrapV.segs ⟨true, c, t⟩)] [] (both (fun _ _ => False) (fun v h' => v = faultE ⟨true, c, t⟩ ∧ h' = [])) := by
  refine fnXP_does TB Tryz.func87 rfl (by decide) (fun O on hO => ?_)
  repeat (refine need_intro (by first | exact fun h => h | exact nt | exact an2 | exact an3 | rfl | (simp; done) | fail) ?_)
  exact Ends.thr (Ends.ro (H := []) rfl (eqvE_refl _) rfl)
set_option maxRecDepth 100000 in
theorem illegal_spec (x : Xs) : DoesP TB 32 [.s (.ptr 0 0)] x.h (both (fun _ _ => False) (fun v h' => v = faultE ⟨true, 2#64, x.i.raw.setWidth 64⟩ ∧ h' = x.h)) := by
  refine fnXP_does TB Tryz.func32 rfl (by decide) (fun O on hO => ?_)
  have e1 : IntKind.u64.wrap (x.i.raw.toNat : Int) = ((x.i.raw.setWidth 64).toNat : Int) := by
    rw [wrap_u64, BitVec.toNat_setWidth, BitVec.toNat_ofInt]; omega
  repeat (refine need_intro (by first | exact fun h => h | exact nt | exact an2 | exact an3 | rfl | (simp; done) | fail) ?_)
  refine DoesP.args (b := [.s (.int .u64 ((2#64).toNat : Int)), .s (.int .u64 ((x.i.raw.setWidth 64).toNat : Int))]) ⟨eqvE_refl _, ⟨rfl, e1⟩, trivial⟩ ?_
  refine DoesP.atn (stop_spec 2#64 (x.i.raw.setWidth 64)) [] rfl trivial (by decide) ?_ ?_
  · rintro v h' hq
    unfold both at hq
    split at hq
    · exact hq.elim
    · obtain ⟨rfl, rfl⟩ := hq; trivial
    · exact hq.elim
  rintro v h' hq
  unfold both at hq
  split at hq
  · exact hq.elim
  · obtain ⟨rfl, rfl⟩ := hq
    exact Ends.thr (Ends.ro (H := x.h) rfl (eqvE_refl _) rfl)
  · exact hq.elim
set_option maxRecDepth 100000 in
theorem touched_spec (x : Xs) (kind : Int) (a : B64) (n : Int) (v : B64) : Does TB 89 [.s (.ptr 0 0), .s (.int .i64 kind), .s (.int .u64 a.toNat), .s (.int .i64 n), .s (.int .u64 v.toNat)] x.h (fun r h' => r = .tuple [] ∧ h' = (x.touch kind a n v).h) := by
  refine fnX_does TB Tryz.func89 rfl (by decide) (fun O on hO => ?_)
  repeat (refine need_intro (by first | exact fun h => h | exact nt | exact an2 | exact an3 | rfl | (simp; done) | fail) ?_)
  exact ⟨_, _, [0, 1, 2, 3, 4], ⟨rfl, rfl⟩, by decide, ⟨rfl, rfl, rfl, rfl, rfl, trivial⟩, eqvE_refl _, ⟨⟨_, rfl, eqvB_refl _⟩, ⟨_, rfl, eqvB_refl _⟩, ⟨_, rfl, eqvB_refl _⟩, ⟨_, rfl, eqvB_refl _⟩, ⟨_, rfl, eqvB_refl _⟩, trivial⟩⟩
end Go.Proofs.YtdlpmbghocabbaaGreatDoor

/- Bytes and numbers: cut, widened, put together from bytes. Plain lemmas. -/
namespace Go.Anv
open Go
theorem low8 (v : BitVec 64) : IntKind.u8.wrap (v.toNat : Int) = ((v.setWidth 8).toNat : Int) := by
  rw [wrap_u8, BitVec.toNat_setWidth, BitVec.toNat_ofInt]
  omega
theorem wide8 (v : BitVec 8) : IntKind.u64.wrap (v.toNat : Int) = ((v.setWidth 64).toNat : Int) := by
  have := v.isLt
  rw [wrap_u64, BitVec.toNat_setWidth, BitVec.toNat_ofInt]; omega
/-- A number's bytes, the highest first: what the first n of them make. -/
def hi (p : Nat → B8) (a k : Nat) : Nat → B64
  | 0 => 0#64
  | n + 1 => (hi p a k n <<< 8) ||| (p (a + (k - 1 - n))).setWidth 64
theorem hi_lt (p : Nat → B8) (a k : Nat) : ∀ n, n ≤ 7 → (hi p a k n).toNat < 2 ^ (8 * n)
  | 0, _ => by simp [hi]
  | n + 1, h => by
    have ih := hi_lt p a k n (by omega)
    have hp := (p (a + (k - 1 - n))).isLt
    have e : (hi p a k (n + 1)).toNat = (hi p a k n).toNat * 2 ^ 8 + (p (a + (k - 1 - n))).toNat := by
      simp only [hi]
      rw [BitVec.toNat_or, BitVec.toNat_shiftLeft, BitVec.toNat_setWidth, Nat.shiftLeft_eq, Nat.mod_eq_of_lt (a := (p (a + (k - 1 - n))).toNat) (by omega)]
      have hb : (hi p a k n).toNat * 2 ^ 8 < 2 ^ 64 := by
        have : 2 ^ (8 * n) * 2 ^ 8 ≤ 2 ^ 64 := by rw [← Nat.pow_add]; exact Nat.pow_le_pow_right (by decide) (by omega)
        exact Nat.lt_of_lt_of_le (Nat.mul_lt_mul_of_pos_right ih (by decide)) this
      rw [Nat.mod_eq_of_lt hb, ← Nat.shiftLeft_eq, ← Nat.shiftLeft_add_eq_or_of_lt hp]
    rw [e]
    have : 2 ^ (8 * (n + 1)) = 2 ^ (8 * n) * 256 := by rw [Nat.mul_add, Nat.pow_add]
    omega
/-- The same, by multiplying. -/
theorem hi_mul (p : Nat → B8) (a k n : Nat) (h : n ≤ 7) : ((hi p a k (n + 1)).toNat : Int) = ((hi p a k n).toNat : Int) * 256 + ((p (a + (k - 1 - n))).toNat : Int) := by
  have ih := hi_lt p a k n h
  have hp := (p (a + (k - 1 - n))).isLt
  simp only [hi]
  rw [BitVec.toNat_or, BitVec.toNat_shiftLeft, BitVec.toNat_setWidth, Nat.shiftLeft_eq, Nat.mod_eq_of_lt (a := (p (a + (k - 1 - n))).toNat) (by omega)]
  have hb : (hi p a k n).toNat * 2 ^ 8 < 2 ^ 64 := by
    have : 2 ^ (8 * n) * 2 ^ 8 ≤ 2 ^ 64 := by rw [← Nat.pow_add]; exact Nat.pow_le_pow_right (by decide) (by omega)
    exact Nat.lt_of_lt_of_le (Nat.mul_lt_mul_of_pos_right ih (by decide)) this
  rw [Nat.mod_eq_of_lt hb, ← Nat.shiftLeft_eq, ← Nat.shiftLeft_add_eq_or_of_lt hp, Nat.shiftLeft_eq]
  omega
theorem hi_bound (p : Nat → B8) (a k n : Nat) (h : n ≤ 7) : (hi p a k n).toNat * 256 + 255 < 2 ^ 64 := by
  have ih := hi_lt p a k n h
  have h2 : 2 ^ (8 * n) ≤ 2 ^ 56 := Nat.pow_le_pow_right (by decide) (by omega)
  omega
end Go.Anv

/- The bus: RAM: what is there, load, store. Contracts of functions. -/
namespace Go.Anv
open Go
/-- All of the bytes are RAM. -/
def BusV.holds (s : BusV) (a : B64) (n : Nat) : Bool := decide (2147483648 ≤ a.toNat ∧ a.toNat < 2147483648 + s.nr ∧ a.toNat + n ≤ 2147483648 + s.nr)
theorem BusV.holds_iff {s : BusV} {a : B64} {n : Nat} : s.holds a n = true ↔ 2147483648 ≤ a.toNat ∧ a.toNat < 2147483648 + s.nr ∧ a.toNat + n ≤ 2147483648 + s.nr := by
  unfold BusV.holds; rw [decide_eq_true_eq]
def sizeOk (n : Nat) : Bool := n == 1 || n == 2 || n == 4 || n == 8
def BusV.inRam (s : BusV) (a : B64) (n : Nat) : Bool := sizeOk n && decide (a.toNat % n = 0) && s.holds a n
/-- RAM's n bytes from a on, the lowest first. -/
def Dev.word (d : Dev) (a : B64) (n : Nat) : B64 := hi d.ram (a.toNat - 2147483648) n n
/-- n bytes of v laid from o on. -/
def layB (p : Nat → B8) (o : Nat) (v : B64) : Nat → (Nat → B8)
  | 0 => p
  | n + 1 => fun j => if j = o + n then (v >>> (8 * n)).setWidth 8 else layB p o v n j
def Dev.lay (d : Dev) (a : B64) (n : Nat) (v : B64) : Dev := { d with ram := layB d.ram (a.toNat - 2147483648) v n }
theorem u64_sub {a : B64} {b : Nat} (h : b ≤ a.toNat) : IntKind.u64.wrap ((a.toNat : Int) - (b : Int)) = ((a.toNat - b : Nat) : Int) := by
  have := a.isLt
  rw [show ((a.toNat : Int) - (b : Int)) = ((a.toNat - b : Nat) : Int) by omega]
  exact wnat (by omega)
theorem holds_plain (s : BusV) (a : B64) (n : Nat) (hn : n ≤ 9223372036854775807) (hr : s.nr ≤ 65536) :
    (bif bif decide ((2147483648 : Int) ≤ (a.toNat : Int)) then decide (IntKind.u64.wrap ((a.toNat : Int) - 2147483648) < IntKind.u64.wrap (s.nr : Int)) else false then decide (IntKind.u64.wrap (n : Int) ≤ IntKind.u64.wrap (IntKind.u64.wrap (s.nr : Int) - IntKind.u64.wrap ((a.toNat : Int) - 2147483648))) else false) = s.holds a n := by
  have e1 : IntKind.u64.wrap (s.nr : Int) = (s.nr : Int) := wnat (by omega)
  have e2 : IntKind.u64.wrap (n : Int) = (n : Int) := wnat (by omega)
  unfold BusV.holds
  by_cases h : 2147483648 ≤ a.toNat
  · have e3 : IntKind.u64.wrap ((a.toNat : Int) - 2147483648) = ((a.toNat - 2147483648 : Nat) : Int) := u64_sub h
    rw [decide_eq_true (p := (2147483648 : Int) ≤ (a.toNat : Int)) (by omega), e1, e2, e3]
    by_cases h2 : a.toNat < 2147483648 + s.nr
    · have e4 : IntKind.u64.wrap ((s.nr : Int) - ((a.toNat - 2147483648 : Nat) : Int)) = ((s.nr - (a.toNat - 2147483648) : Nat) : Int) := by
        rw [show ((s.nr : Int) - ((a.toNat - 2147483648 : Nat) : Int)) = ((s.nr - (a.toNat - 2147483648) : Nat) : Int) by omega]
        exact wnat (by omega)
      rw [e4, decide_eq_true (p := ((a.toNat - 2147483648 : Nat) : Int) < (s.nr : Int)) (by omega)]
      exact decide_eq_decide.2 (by omega)
    · rw [decide_eq_false (p := ((a.toNat - 2147483648 : Nat) : Int) < (s.nr : Int)) (by omega)]
      exact (decide_eq_false (by omega)).symm
  · rw [decide_eq_false (p := (2147483648 : Int) ≤ (a.toNat : Int)) (by omega)]
    exact (decide_eq_false (by omega)).symm
end Go.Anv
namespace Go.Proofs.YtdlpmbghocabbaaGreatDoor
open Go Go.Anv
set_option maxRecDepth 100000 in
theorem ramHolds (d : Dev) (a : B64) (n : Nat) (hn : n ≤ 9223372036854775807) (hr : d.s.nr ≤ 65536) : Does TB 193 [.s (.ptr 0 0), .s (.int .u64 a.toNat), .s (.int .i64 n)] d.h (fun v h' => v = .s (.bool (d.s.holds a n)) ∧ h' = d.h) := by
  refine fnX_does TB Tryz.func193 rfl (by decide) (fun O on hO => ?_)
  repeat (refine need_intro (by first | exact fun h => h | exact nt | exact an2 | exact an3 | rfl | (simp; done) | fail) ?_)
  exact Ends.ro (H := d.h) rfl (holds_plain d.s a n hn hr) rfl
set_option maxRecDepth 100000 in
theorem ramHere (d : Dev) (a : B64) (n : Nat) (hn : n ≤ 9223372036854775807) (hr : d.s.nr ≤ 65536) : Does TB 284 [.s (.ptr 0 0), .s (.int .u64 a.toNat), .s (.int .i64 n)] d.h (fun v h' => v = .s (.bool (d.s.inRam a n)) ∧ h' = d.h) := by
  refine fnX_does TB Tryz.func284 rfl (by decide) (fun O on hO => ?_)
  by_cases hs : sizeOk n = true
  · have hn4 : n = 1 ∨ n = 2 ∨ n = 4 ∨ n = 8 := by
      unfold sizeOk at hs
      simp only [Bool.or_eq_true, beq_iff_eq] at hs
      omega
    have hz : ((a.toNat : Int).tmod (IntKind.u64.wrap (n : Int)) == 0) = decide (a.toNat % n = 0) := by
      rw [wnat (by omega), Int.tmod_eq_emod_of_nonneg (by omega)]
      by_cases e : a.toNat % n = 0
      · rw [decide_eq_true e, beq_iff_eq, ← Int.natCast_emod, e]; rfl
      · rw [decide_eq_false e]; refine beq_false_of_ne ?_; rw [← Int.natCast_emod]; omega
    have hl := ramHolds d a n hn hr
    have hv : d.s.inRam a n = (bif decide (a.toNat % n = 0) then d.s.holds a n else false) := by unfold BusV.inRam; rw [hs]; cases decide (a.toNat % n = 0) <;> rfl
    rw [← hz] at hv
    clear hs
    rcases hn4 with rfl | rfl | rfl | rfl
    all_goals
      repeat (refine need_intro (by first | (decide) | exact fun h => h | exact nt | exact an2 | exact an3 | rfl | (simp; done) | fail) ?_)
      refine ifB_intro (fun g => ?_) (fun g => ?_)
      · refine Does.ungd (b := [.s (.ptr 0 0), .s (.int .u64 a.toNat), .s (.int .i64 _)]) ⟨⟨g, rfl⟩, ⟨g, rfl⟩, ⟨g, rfl⟩, trivial⟩ ?_
        refine Does.atc (hl) [0, 1, 2, 3] rfl ⟨rfl, rfl, rfl, rfl, trivial⟩ (by decide) ?_
        repeat (refine need_intro (by first | exact g | exact fun h => h | exact nt | exact an2 | exact an3 | rfl | (simp; done) | fail) ?_)
        exact Ends.ro (H := d.h) rfl hv.symm rfl
      · repeat (refine need_intro (by first | exact g | exact fun h => h | exact nt | exact an2 | exact an3 | rfl | (simp; done) | fail) ?_)
        exact Ends.ro (H := d.h) rfl (show false = _ from by rw [hv, g]; rfl) rfl
  · have hs := (Bool.not_eq_true _).mp hs
    have hv : d.s.inRam a n = false := by unfold BusV.inRam; rw [hs]; rfl
    have hk : ∀ k : Nat, sizeOk k = true → ((n : Int) == (k : Int)) = false := fun k hk => beq_false_of_ne (by
      intro e
      have : n = k := by omega
      subst this
      rw [hs] at hk
      cases hk)
    refine ifB_intro (fun h => absurd (h.symm.trans (hk 1 rfl)) (by decide)) (fun _ => ?_)
    refine ifB_intro (fun h => absurd (h.symm.trans (hk 2 rfl)) (by decide)) (fun _ => ?_)
    refine ifB_intro (fun h => absurd (h.symm.trans (hk 4 rfl)) (by decide)) (fun _ => ?_)
    refine ifB_intro (fun h => absurd (h.symm.trans (hk 8 rfl)) (by decide)) (fun _ => ?_)
    exact Ends.ro (H := d.h) rfl hv.symm rfl
set_option maxRecDepth 100000 in
theorem ramLoad (d : Dev) (a : B64) (n : Nat) (hn : n ≤ 8) (hh : d.s.holds a n = true) (hr : d.s.nr ≤ 65536) : Does TB 285 [.s (.ptr 0 0), .s (.int .u64 a.toNat), .s (.int .i64 n)] d.h (fun v h' => v = .s (.int .u64 (d.word a n).toNat) ∧ h' = d.h) := by
  refine fnX_does TB Tryz.func285 rfl (by decide) (fun O on hO => ?_)
  rw [BusV.holds_iff] at hh
  have e0 : IntKind.u64.wrap ((a.toNat : Int) - 2147483648) = ((a.toNat - 2147483648 : Nat) : Int) := u64_sub hh.1
  have ho : a.toNat - 2147483648 + n ≤ d.s.nr := by omega
  unfold Dev.word
  generalize a.toNat - 2147483648 = o at e0 ho ⊢
  repeat (refine need_intro (by first | exact fun h => h | exact nt | exact an2 | exact an3 | rfl | (simp; done) | fail) ?_)
  refine loop_by (A := Nat) on (fun k => [(7, .s (.int .u64 (hi d.ram o n k).toNat)), (8, .s (.int .i64 ((n : Int) - 1 - (k : Int))))]) (fun _ => d.h) (fun k => k ≤ n) (fun k => n - k) 0 (Nat.zero_le _) ?_ ?_
  · refine ⟨?_, ?_⟩
    · repeat' (first | exact eqvT_nil | refine eqvT_junk ?_ | refine eqvT_same ?_ | refine eqvT_int ?_ ?_)
      rw [i64_in (by omega) (by omega)]; omega
    · exact eqvH_same (eqvH_same (eqvH_same (eqvH_same eqvH_nil)))
  · intro k hk
    have hk : k ≤ n := hk
    refine ifB_intro (fun h1 => ?_) (fun h1 => ?_)
    · have h2 : (n : Int) - 1 - (k : Int) ≥ 0 := of_decide_eq_true h1
      have e1 : IntKind.u64.wrap ((n : Int) - 1 - (k : Int)) = ((n - 1 - k : Nat) : Int) := by
        rw [show (n : Int) - 1 - (k : Int) = ((n - 1 - k : Nat) : Int) by omega]
        exact wnat (by omega)
      have e2 : IntKind.u64.wrap (IntKind.u64.wrap ((a.toNat : Int) - 2147483648) + IntKind.u64.wrap ((n : Int) - 1 - (k : Int))) = ((o + (n - 1 - k) : Nat) : Int) := by
        rw [e0, e1, ← Int.natCast_add]
        exact wnat (by omega)
      repeat (refine need_intro (by first | exact fun h => h | exact nt | exact an2 | exact an3 | rfl | (simp; done) | fail) ?_)
      refine need_intro (by rw [e2]; omega) ?_
      refine need_intro (by rw [e2]; omega) ?_
      refine ⟨k + 1, (by show k + 1 ≤ n; omega), (by show n - (k + 1) < n - k; omega), ?_, ?_⟩
      · repeat' (first | exact eqvT_nil | refine eqvT_junk ?_ | refine eqvT_same ?_ | refine eqvT_int ?_ ?_)
        · show bitX .or .u64 (IntKind.u64.wrap (((hi d.ram o n k).toNat : Int) * 2 ^ 8)) (IntKind.u64.wrap (bfun d.ram (0 + (IntKind.u64.wrap (IntKind.u64.wrap ((a.toNat : Int) - 2147483648) + IntKind.u64.wrap ((n : Int) - 1 - (k : Int)))).toNat))) = ((hi d.ram o n (k + 1)).toNat : Int)
          rw [e2, Int.toNat_natCast, Nat.zero_add, bfun, wide8, or_u64, wrap_u64, mul_pow, ofInt_toNat, ofInt_toNat]
          rfl
        · rw [i64_in (by omega) (by omega)]; omega
      · exact eqvH_same (eqvH_same (eqvH_same (eqvH_same eqvH_nil)))
    · have h2 : ¬ ((n : Int) - 1 - (k : Int) ≥ 0) := of_decide_eq_false h1
      have hnk : k = n := by omega
      subst hnk
      repeat (refine need_intro (by first | exact fun h => h | exact nt | exact an2 | exact an3 | rfl | (simp; done) | fail) ?_)
      exact Ends.ro (H := d.h) rfl (eqvE_refl _) rfl
set_option maxRecDepth 100000 in
theorem ramStore (d : Dev) (a : B64) (n : Nat) (v : B64) (hn : n ≤ 8) (hh : d.s.holds a n = true) (hr : d.s.nr ≤ 65536) : Does TB 286 [.s (.ptr 0 0), .s (.int .u64 a.toNat), .s (.int .i64 n), .s (.int .u64 v.toNat)] d.h (fun r h' => r = .tuple [] ∧ h' = (d.lay a n v).h) := by
  refine fnX_does TB Tryz.func286 rfl (by decide) (fun O on hO => ?_)
  rw [BusV.holds_iff] at hh
  have e0 : IntKind.u64.wrap ((a.toNat : Int) - 2147483648) = ((a.toNat - 2147483648 : Nat) : Int) := u64_sub hh.1
  have ho : a.toNat - 2147483648 + n ≤ d.s.nr := by omega
  unfold Dev.lay
  generalize a.toNat - 2147483648 = o at e0 ho ⊢
  repeat (refine need_intro (by first | exact fun h => h | exact nt | exact an2 | exact an3 | rfl | (simp; done) | fail) ?_)
  refine loop_by (A := Nat) on (fun k => [(10, .s (.int .i64 (k : Int)))]) (fun k => [d.blk 1, bblk true d.s.nr (layB d.ram o v k) (d.cr - d.s.nr), d.ib, d.ob]) (fun k => k ≤ n) (fun k => n - k) 0 (Nat.zero_le _) ?_ ?_
  · refine ⟨?_, ?_⟩
    · repeat' (first | exact eqvT_nil | refine eqvT_junk ?_ | refine eqvT_same ?_ | refine eqvT_int rfl ?_)
    · exact eqvH_same (eqvH_same (eqvH_same (eqvH_same eqvH_nil)))
  · intro k hk
    have hk : k ≤ n := hk
    refine ifB_intro (fun h1 => ?_) (fun h1 => ?_)
    · have h2 : (k : Int) < (n : Int) := of_decide_eq_true h1
      have e1 : IntKind.u64.wrap (k : Int) = (k : Int) := wnat (by omega)
      have e2 : IntKind.u64.wrap (IntKind.u64.wrap ((a.toNat : Int) - 2147483648) + IntKind.u64.wrap (k : Int)) = ((o + k : Nat) : Int) := by
        rw [e0, e1, ← Int.natCast_add]
        exact wnat (by omega)
      have e3 : IntKind.i64.wrap (8 * (k : Int)) = ((8 * k : Nat) : Int) := by rw [i64_in (by omega) (by omega)]; omega
      refine draw_but [1] on rfl (fun _ _ h => h) ?_
      repeat (refine need_intro (by first | exact fun h => h | exact nt | exact an2 | exact an3 | rfl | (simp; done) | fail) ?_)
      refine need_intro (by rw [e3]; omega) ?_
      repeat (first | refine need_intro rfl ?_ | refine need_intro (by rw [e2]; omega) ?_)
      refine ⟨k + 1, (by show k + 1 ≤ n; omega), (by show n - (k + 1) < n - k; omega), ?_, ?_⟩
      · repeat' (first | exact eqvT_nil | refine eqvT_junk ?_ | refine eqvT_same ?_ | refine eqvT_int ?_ ?_)
        rw [i64_in (by omega) (by omega)]; omega
      · refine eqvH_same ⟨⟨rfl, rfl, ⟨rfl, rfl, fun j _ => ?_⟩, trivial⟩, ?_⟩
        · show (if j = 0 + (IntKind.u64.wrap (IntKind.u64.wrap ((a.toNat : Int) - 2147483648) + IntKind.u64.wrap (k : Int))).toNat then IntKind.u8.wrap ((v.toNat : Int).fdiv (2 ^ min (IntKind.i64.wrap (8 * (k : Int))).toNat IntKind.u64.bits)) else bfun (layB d.ram o v k) j) = bfun (layB d.ram o v (k + 1)) j
          rw [e2, e3, Int.toNat_natCast, Int.toNat_natCast, Nat.zero_add, show min (8 * k) IntKind.u64.bits = 8 * k from by show min (8 * k) 64 = _; omega, fdiv_pow, low8]
          simp only [bfun, layB]
          by_cases ej : j = o + k
          · rw [if_pos ej, if_pos ej]
          · rw [if_neg ej, if_neg ej]
        · exact eqvH_same (eqvH_same eqvH_nil)
    · have h2 : ¬ ((k : Int) < (n : Int)) := of_decide_eq_false h1
      have hnk : k = n := by omega
      subst hnk
      exact Ends.ro (H := { d with ram := layB d.ram o v k }.h) rfl (eqvE_refl _) rfl
end Go.Proofs.YtdlpmbghocabbaaGreatDoor

/- The bus: the power switch. Contracts of functions. -/
namespace Go.Anv
open Go
def finAt (a : B64) (n : Nat) : Bool := a == 1048576#64 && n == 4
/-- The power switch gets a value. -/
def BusV.finish (s : BusV) (v : B64) : BusV :=
  if s.off = 0 then (if v &&& 65535#64 = 21845#64 then { s with off := 1 } else if v &&& 65535#64 = 13107#64 then { s with off := 2, code := (((v >>> 16) &&& 65535#64).toNat : Int) } else s) else s
theorem size_lit {n : Nat} (k : Nat) : ((n : Int) == (k : Int)) = (n == k) := by
  by_cases e : n = k
  · subst e; simp
  · rw [beq_false_of_ne e, beq_false_of_ne (by omega)]
end Go.Anv
namespace Go.Proofs.YtdlpmbghocabbaaGreatDoor
open Go Go.Anv
set_option maxRecDepth 100000 in
theorem finHere (d : Dev) (a : B64) (n : Nat) : Does TB 287 [.s (.ptr 0 1), .s (.int .u64 a.toNat), .s (.int .i64 n)] d.h (fun v h' => v = .s (.bool (finAt a n)) ∧ h' = d.h) := by
  refine fnX_does TB Tryz.func287 rfl (by decide) (fun O on hO => ?_)
  repeat (refine need_intro (by first | exact fun h => h | exact nt | exact an2 | exact an3 | rfl | (simp; done) | fail) ?_)
  refine Ends.ro (H := d.h) rfl ?_ rfl
  show (bif ((a.toNat : Int) == 1048576) then ((n : Int) == 4) else false) = finAt a n
  rw [beq_lit a 1048576 (by decide) (by decide)]
  unfold finAt
  rw [show ((n : Int) == 4) = (n == 4) from size_lit 4]
  exact cond_and _ _
set_option maxRecDepth 100000 in
theorem finLoad (d : Dev) (a : B64) (n : Nat) : Does TB 288 [.s (.ptr 0 1), .s (.int .u64 a.toNat), .s (.int .i64 n)] d.h (fun v h' => v = .s (.int .u64 0) ∧ h' = d.h) := by
  refine fnX_does TB Tryz.func288 rfl (by decide) (fun O on hO => ?_)
  repeat (refine need_intro (by first | exact fun h => h | exact nt | exact an2 | exact an3 | rfl | (simp; done) | fail) ?_)
  exact Ends.ro (H := d.h) rfl (eqvE_refl _) rfl
set_option maxRecDepth 100000 in
theorem finStore (d : Dev) (a : B64) (n : Nat) (v : B64) : Does TB 289 [.s (.ptr 0 1), .s (.int .u64 a.toNat), .s (.int .i64 n), .s (.int .u64 v.toNat)] d.h (fun r h' => r = .tuple [] ∧ h' = { d with s := d.s.finish v }.h) := by
  refine fnX_does TB Tryz.func289 rfl (by decide) (fun O on hO => ?_)
  have e1 : (bitX .and .u64 (v.toNat : Int) 65535 == 21845) = (v &&& 65535#64 == 21845#64) := by rw [and_u64, ofInt_toNat]; exact beq_lit _ _ (by decide) (by decide)
  have e2 : (bitX .and .u64 (v.toNat : Int) 65535 == 13107) = (v &&& 65535#64 == 13107#64) := by rw [and_u64, ofInt_toNat]; exact beq_lit _ _ (by decide) (by decide)
  have e3 : IntKind.i64.wrap (bitX .and .u64 ((v.toNat : Int).fdiv (2 ^ 16)) 65535) = (((v >>> 16) &&& 65535#64).toNat : Int) := by
    rw [fdiv_pow, and_u64, ofInt_toNat]
    have : ((v >>> 16) &&& BitVec.ofInt 64 65535).toNat ≤ 65535 := by
      rw [BitVec.toNat_and]; exact Nat.and_le_right
    exact i64_in (by omega) (by omega)
  repeat (refine need_intro (by first | exact fun h => h | exact nt | exact an2 | exact an3 | rfl | (simp; done) | fail) ?_)
  refine ifB_intro (fun g => ?_) (fun g => ?_)
  · have h0 : d.s.off ≠ 0 := by intro h; rw [h] at g; cases g
    have e : d.s.finish v = d.s := by unfold BusV.finish; rw [if_neg h0]
    rw [e]
    exact Ends.ro (H := d.h) rfl (eqvE_refl _) rfl
  · have h0 : d.s.off = 0 := by
      by_cases h : d.s.off = 0
      · exact h
      · rw [bne_iff_ne.2 h] at g; cases g
    repeat (refine need_intro (by first | exact fun h => h | exact nt | exact an2 | exact an3 | rfl | (simp; done) | fail) ?_)
    refine ifB_intro (fun g1 => ?_) (fun g1 => ?_)
    · have h1 := eq_of_beq (e1.symm.trans g1)
      have e : d.s.finish v = { d.s with off := 1 } := by unfold BusV.finish; rw [if_pos h0, if_pos h1]
      rw [e]
      repeat (refine need_intro (by first | exact fun h => h | exact nt | exact an2 | exact an3 | rfl | (simp; done) | fail) ?_)
      refine Ends.ro (H := { d with s := { d.s with off := 1 } }.h) ?_ ?_ ?_
      · rfl
      · exact eqvE_refl _
      · rfl
    · have h1 := ne_of_beq_false (e1.symm.trans g1)
      refine ifB_intro (fun g2 => ?_) (fun g2 => ?_)
      · have h2 := eq_of_beq (e2.symm.trans g2)
        have e : d.s.finish v = { d.s with off := 2, code := IntKind.i64.wrap (bitX .and .u64 ((v.toNat : Int).fdiv (2 ^ 16)) 65535) } := by rw [e3]; unfold BusV.finish; rw [if_pos h0, if_neg h1, if_pos h2]
        rw [e]
        repeat (refine need_intro (by first | exact fun h => h | exact nt | exact an2 | exact an3 | rfl | (simp; done) | fail) ?_)
        refine Ends.ro (H := { d with s := { d.s with off := 2, code := IntKind.i64.wrap (bitX .and .u64 ((v.toNat : Int).fdiv (2 ^ 16)) 65535) } }.h) ?_ ?_ ?_
        · rfl
        · exact eqvE_refl _
        · rfl
      · have h2 := ne_of_beq_false (e2.symm.trans g2)
        have e : d.s.finish v = d.s := by unfold BusV.finish; rw [if_pos h0, if_neg h1, if_neg h2]
        rw [e]
        exact Ends.ro (H := d.h) rfl (eqvE_refl _) rfl
end Go.Proofs.YtdlpmbghocabbaaGreatDoor

/- The bus: the console's questions. Contracts of functions. -/
namespace Go.Anv
open Go
def uartAt (a : B64) (n : Nat) : Bool := decide (268435456 ≤ a.toNat ∧ a.toNat ≤ 268435463) && n == 1
def BusV.raised (s : BusV) : Bool := s.ier &&& 1#8 == 1#8 && decide (0 < s.ni)
/-- The line's status. -/
def BusV.line (s : BusV) : B64 := (if 0 < s.ni then 1#64 else 0#64) ||| (if s.overrun = true then 2#64 else 0#64) ||| (if s.no < 4096 then 96#64 else 0#64)
/-- The oldest byte has left. -/
def Dev.pop (d : Dev) (c : Nat) : Dev := { d with s := { d.s with ni := d.s.ni - 1 }, inp := fun j => d.inp (j + 1), ci := c }
end Go.Anv
namespace Go.Proofs.YtdlpmbghocabbaaGreatDoor
open Go Go.Anv
set_option maxRecDepth 100000 in
theorem uartHere (d : Dev) (a : B64) (n : Nat) : Does TB 279 [.s (.ptr 0 6), .s (.int .u64 a.toNat), .s (.int .i64 n)] d.h (fun v h' => v = .s (.bool (uartAt a n)) ∧ h' = d.h) := by
  refine fnX_does TB Tryz.func279 rfl (by decide) (fun O on hO => ?_)
  repeat (refine need_intro (by first | exact fun h => h | exact nt | exact an2 | exact an3 | rfl | (simp; done) | fail) ?_)
  refine Ends.ro (H := d.h) rfl ?_ rfl
  show (bif bif decide ((a.toNat : Int) ≥ 268435456) then decide ((a.toNat : Int) ≤ 268435463) else false then ((n : Int) == 1) else false) = uartAt a n
  unfold uartAt
  rw [show ((n : Int) == 1) = (n == 1) from size_lit 1, cond_and, cond_and, ← Bool.decide_and]
  congr 1
  exact decide_eq_decide.2 (by omega)
set_option maxRecDepth 100000 in
theorem uartRaised (d : Dev) : Does TB 192 [.s (.ptr 0 6)] d.hh (fun v h' => v = .s (.bool d.s.raised) ∧ h' = d.hh) := by
  refine fnX_does TB Tryz.func192 rfl (by decide) (fun O on hO => ?_)
  repeat (refine need_intro (by first | exact fun h => h | exact nt | exact an2 | exact an3 | rfl | (simp; done) | fail) ?_)
  refine Ends.ro (H := d.hh) rfl ?_ rfl
  show (bif (bitX .and .u8 (d.s.ier.toNat : Int) 1 == 1) then decide ((d.s.ni : Int) > 0) else false) = d.s.raised
  rw [and_u8, ofInt_toNat, cond_and]
  unfold BusV.raised
  rw [beq_lit _ 1 (by decide) (by decide)]
  congr 1
  exact decide_eq_decide.2 (by omega)
set_option maxRecDepth 100000 in
theorem uartRead (d : Dev) (hi : d.s.ni ≤ 140737488351232) (hc : d.s.ni ≤ d.ci) : Does TB 282 [.s (.ptr 0 6)] d.hh
    (fun v h' => (d.s.ni = 0 ∧ v = .s (.int .u64 0) ∧ h' = d.hh) ∨ (d.s.ni ≠ 0 ∧ ∃ c, d.s.ni - 1 ≤ c ∧ v = .s (.int .u64 (d.inp 0).toNat) ∧ h' = [.cells true (d.s.dev 1 (.gs 1 0 d.s.nr d.cr) (.gs 4 0 (d.s.ni - 1) c) (.gs 3 0 d.s.no d.co)) 0, d.rb, d.ib, d.ob, (d.pop c).ib])) := by
  refine fnX_does TB Tryz.func282 rfl (by decide) (fun O on hO => ?_)
  repeat (refine need_intro (by first | exact fun h => h | exact nt | exact an2 | exact an3 | rfl | (simp; done) | fail) ?_)
  refine ifB_intro (fun g => ?_) (fun g => ?_)
  · have h0 : d.s.ni = 0 := by have := eq_of_beq g; omega
    repeat (refine need_intro (by first | exact fun h => h | exact nt | exact an2 | exact an3 | rfl | (simp; done) | fail) ?_)
    exact ⟨_, _, [0, 1, 2, 3], .inl ⟨h0, rfl, rfl⟩, by decide, ⟨rfl, rfl, rfl, rfl, trivial⟩, eqvE_refl _, ⟨⟨_, rfl, eqvB_refl _⟩, ⟨_, rfl, eqvB_refl _⟩, ⟨_, rfl, eqvB_refl _⟩, ⟨_, rfl, eqvB_refl _⟩, trivial⟩⟩
  · have h0 : d.s.ni ≠ 0 := by
      have := ne_of_beq_false g
      intro h; rw [h] at this; exact this rfl
    refine need_intro ⟨by omega, by omega⟩ ?_
    refine need_intro (by show 0 + Int.toNat 0 < d.s.ni; omega) ?_
    refine need_intro ⟨by decide, by omega, by omega⟩ ?_
    repeat (refine need_intro (by first | exact fun h => h | exact nt | exact an2 | exact an3 | rfl | (simp; done) | fail) ?_)
    have hsk : skip d.ci 1 0 1 ≤ 1 ∧ (d.ci ≠ 1 → skip d.ci 1 0 1 = 1) := by
      unfold skip
      constructor
      · split <;> omega
      · intro h; rw [if_neg h]
    refine Does.args (b := [.s (.gs 2 (skip d.ci 1 0 1) (d.s.ni - 1) (d.ci - 1))]) ⟨⟨rfl, rfl, rfl, rfl⟩, trivial⟩ ?_
    refine Does.atn (own_spec true d.s.ni (skip d.ci 1 0 1) (d.s.ni - 1) (d.ci - 1) (d.ci - d.s.ni) d.inp (fun j => d.inp (j + 1)) (by omega) (by omega) (fun j hj => by rw [hsk.2 (by omega), Nat.add_comm])) [2] rfl ⟨rfl, trivial⟩ (by decide) ?_ ?_
    · rintro v h' ⟨_, _, _, rfl⟩
      exact ⟨.inl rfl, .inl rfl, trivial⟩
    rintro v h' ⟨c, hcc, rfl, rfl⟩
    repeat (refine need_intro (by first | exact fun h => h | exact nt | exact an2 | exact an3 | rfl | (simp; done) | fail) ?_)
    refine ⟨_, _, [0, 1, 2, 3, 4], .inr ⟨h0, c, hcc, rfl, rfl⟩, by decide, ⟨rfl, rfl, rfl, rfl, trivial⟩, ?_, ⟨⟨_, rfl, eqvB_refl _⟩, ⟨_, rfl, eqvB_refl _⟩, ⟨_, rfl, eqvB_refl _⟩, ⟨_, rfl, eqvB_refl _⟩, ⟨_, rfl, eqvB_refl _⟩, trivial⟩⟩
    refine ⟨rfl, ?_⟩
    show IntKind.u64.wrap (bfun d.inp (0 + Int.toNat 0)) = ((d.inp 0).toNat : Int)
    have := (d.inp 0).isLt
    exact wnat (by show (d.inp 0).toNat < 2 ^ 64; omega)
end Go.Proofs.YtdlpmbghocabbaaGreatDoor

/- The bus: the console's line status (slow: 2.5 min). Contracts of functions. -/
namespace Go.Proofs.YtdlpmbghocabbaaGreatDoor
open Go Go.Anv
set_option maxRecDepth 100000 in
set_option maxHeartbeats 2000000 in
theorem uartStatus (d : Dev) : Does TB 283 [.s (.ptr 0 6)] d.hh (fun v h' => v = .s (.int .u64 d.s.line.toNat) ∧ h' = { d with s := { d.s with overrun := false } }.hh) := by
  refine fnX_does TB Tryz.func283 rfl (by decide) (fun O on hO => ?_)
  repeat (refine need_intro (by first | exact fun h => h | exact nt | exact an2 | exact an3 | rfl | (simp; done) | fail) ?_)
  have e1 : decide ((d.s.ni : Int) > 0) = decide (0 < d.s.ni) := decide_eq_decide.2 (by omega)
  have e2 : decide ((d.s.no : Int) < 4096) = decide (d.s.no < 4096) := decide_eq_decide.2 (by omega)
  refine ifB_intro (fun g1 => ?_) (fun g1 => ?_) <;> refine ifB_intro (fun g2 => ?_) (fun g2 => ?_) <;> refine ifB_intro (fun g3 => ?_) (fun g3 => ?_)
  all_goals
    repeat (refine need_intro (by first | exact fun h => h | exact nt | exact an2 | exact an3 | rfl | (simp; done) | fail) ?_)
    refine Ends.ro (H := { d with s := { d.s with overrun := false } }.hh) ?_ ?_ ?_
    · rfl
    · refine ⟨rfl, ?_⟩
      unfold BusV.line
      first | rw [if_pos (show 0 < d.s.ni by have := of_decide_eq_true g1; omega)] | rw [if_neg (show ¬ 0 < d.s.ni by have := of_decide_eq_false g1; omega)]
      first | rw [if_pos (show d.s.overrun = true from g2)] | rw [if_neg (show ¬ d.s.overrun = true by have g2 : d.s.overrun = false := g2; rw [g2]; decide)]
      first | rw [if_pos (show d.s.no < 4096 by have := of_decide_eq_true g3; omega)] | rw [if_neg (show ¬ d.s.no < 4096 by have := of_decide_eq_false g3; omega)]
      decide
    · rfl
end Go.Proofs.YtdlpmbghocabbaaGreatDoor

/- The bus: a load from the console. Contracts of functions. -/
namespace Go.Anv
open Go
/-- The bus where its queues have moved. -/
def Dev.h2 (d : Dev) : List Blk := [.cells true (d.s.dev 0 (.gs 1 0 d.s.nr d.cr) (.gs 4 0 d.s.ni d.ci) (.gs 5 0 d.s.no d.co)) 0, d.rb, .dead, .dead, d.ib, d.ob]
/-- A load from the console's register k: the value. -/
def Dev.uval (d : Dev) (k : Nat) : B64 :=
  if k = 0 then (if d.s.ni = 0 then 0#64 else (d.inp 0).setWidth 64) else if k = 1 then d.s.ier.setWidth 64 else if k = 2 then (if d.s.raised = true then 4#64 else 1#64)
  else if k = 3 then d.s.lcr.setWidth 64 else if k = 4 then d.s.mcr.setWidth 64 else if k = 5 then d.s.line else if k = 7 then d.s.scratch.setWidth 64 else 0#64
/-- The bus behind it; c: the room of a queue that moved. -/
def Dev.uld (d : Dev) (k c : Nat) : Dev := if k = 0 then (if d.s.ni = 0 then d else d.pop c) else if k = 5 then { d with s := { d.s with overrun := false } } else d
end Go.Anv
namespace Go.Proofs.YtdlpmbghocabbaaGreatDoor
open Go Go.Anv
set_option maxRecDepth 100000 in
theorem uartLoad_plain (d : Dev) (k n : Nat) (hk : k = 1 ∨ k = 2 ∨ k = 3 ∨ k = 4 ∨ k = 6 ∨ k = 7) : Does TB 280 [.s (.ptr 0 6), .s (.int .u64 ((268435456 + k : Nat) : Int)), .s (.int .i64 n)] d.h (fun v h' => v = .s (.int .u64 (d.uval k).toNat) ∧ h' = d.h) := by
  refine fnXD_does TB Tryz.func280 rfl (by decide) (fun O on hO => ?_)
  refine (lock_spec (b := 0) (o := 6) rfl rfl rfl).mono ?_
  rintro _ h' ⟨rfl, hh⟩
  have hh : h' = d.hh := hh
  subst hh
  refine ⟨⟨_, _, _, rfl⟩, fun O' on' hO' hle => ?_⟩
  have fin : ∀ {x : Int} {y : B64}, x = (y.toNat : Int) → eqvE (.s (.int .u64 x)) (renE (lk (List.range d.h.length) (d.h ++ []).length) (.s (.int .u64 (y.toNat : Int)))) := fun h => ⟨rfl, h⟩
  rcases hk with rfl | rfl | rfl | rfl | rfl | rfl
  · repeat (refine need_intro (by first | exact fun h => h | exact nt | exact an2 | exact an3 | rfl | (simp; done) | fail) ?_)
    refine (unlock_spec (b := 0) (o := 6) rfl rfl rfl).mono ?_
    rintro _ h' ⟨_, hh⟩
    have hh : h' = d.h := hh
    subst hh
    exact Ends.ro (H := d.h) rfl (fin (y := d.s.ier.setWidth 64) (wide8 _)) rfl
  · repeat (refine need_intro (by first | exact fun h => h | exact nt | exact an2 | exact an3 | rfl | (simp; done) | fail) ?_)
    refine Does.atc (uartRaised d) [0, 1, 2, 3] rfl ⟨rfl, rfl, rfl, rfl, trivial⟩ (by decide) ?_
    repeat (refine need_intro (by first | exact fun h => h | exact nt | exact an2 | exact an3 | rfl | (simp; done) | fail) ?_)
    refine ifB_intro (fun g => ?_) (fun g => ?_)
    · repeat (refine need_intro (by first | exact fun h => h | exact nt | exact an2 | exact an3 | rfl | (simp; done) | fail) ?_)
      refine (unlock_spec (b := 0) (o := 6) rfl rfl rfl).mono ?_
      rintro _ h' ⟨_, hh⟩
      have hh : h' = d.h := hh
      subst hh
      exact Ends.ro (H := d.h) rfl (fin (y := if d.s.raised = true then 4#64 else 1#64) (by rw [if_pos g]; rfl)) rfl
    · repeat (refine need_intro (by first | exact fun h => h | exact nt | exact an2 | exact an3 | rfl | (simp; done) | fail) ?_)
      refine (unlock_spec (b := 0) (o := 6) rfl rfl rfl).mono ?_
      rintro _ h' ⟨_, hh⟩
      have hh : h' = d.h := hh
      subst hh
      exact Ends.ro (H := d.h) rfl (fin (y := if d.s.raised = true then 4#64 else 1#64) (by rw [if_neg (by rw [g]; decide)]; rfl)) rfl
  · repeat (refine need_intro (by first | exact fun h => h | exact nt | exact an2 | exact an3 | rfl | (simp; done) | fail) ?_)
    refine (unlock_spec (b := 0) (o := 6) rfl rfl rfl).mono ?_
    rintro _ h' ⟨_, hh⟩
    have hh : h' = d.h := hh
    subst hh
    exact Ends.ro (H := d.h) rfl (fin (y := d.s.lcr.setWidth 64) (wide8 _)) rfl
  · repeat (refine need_intro (by first | exact fun h => h | exact nt | exact an2 | exact an3 | rfl | (simp; done) | fail) ?_)
    refine (unlock_spec (b := 0) (o := 6) rfl rfl rfl).mono ?_
    rintro _ h' ⟨_, hh⟩
    have hh : h' = d.h := hh
    subst hh
    exact Ends.ro (H := d.h) rfl (fin (y := d.s.mcr.setWidth 64) (wide8 _)) rfl
  · repeat (refine need_intro (by first | exact fun h => h | exact nt | exact an2 | exact an3 | rfl | (simp; done) | fail) ?_)
    refine (unlock_spec (b := 0) (o := 6) rfl rfl rfl).mono ?_
    rintro _ h' ⟨_, hh⟩
    have hh : h' = d.h := hh
    subst hh
    exact Ends.ro (H := d.h) rfl (fin (y := 0#64) rfl) rfl
  · repeat (refine need_intro (by first | exact fun h => h | exact nt | exact an2 | exact an3 | rfl | (simp; done) | fail) ?_)
    refine (unlock_spec (b := 0) (o := 6) rfl rfl rfl).mono ?_
    rintro _ h' ⟨_, hh⟩
    have hh : h' = d.h := hh
    subst hh
    exact Ends.ro (H := d.h) rfl (fin (y := d.s.scratch.setWidth 64) (wide8 _)) rfl
set_option maxRecDepth 100000 in
/-- The oldest byte is read. -/
theorem uartLoad_read (d : Dev) (n : Nat) (hi : d.s.ni ≤ 140737488351232) (hc : d.s.ni ≤ d.ci) : Does TB 280 [.s (.ptr 0 6), .s (.int .u64 268435456), .s (.int .i64 n)] d.h
    (fun v h' => (d.s.ni = 0 ∧ v = .s (.int .u64 0) ∧ h' = d.h) ∨ (d.s.ni ≠ 0 ∧ ∃ c, d.s.ni - 1 ≤ c ∧ v = .s (.int .u64 (d.inp 0).toNat) ∧ h' = [.cells true (d.s.dev 0 (.gs 1 0 d.s.nr d.cr) (.gs 4 0 (d.s.ni - 1) c) (.gs 3 0 d.s.no d.co)) 0, d.rb, d.ib, d.ob, (d.pop c).ib])) := by
  refine fnXD_does TB Tryz.func280 rfl (by decide) (fun O on hO => ?_)
  refine (lock_spec (b := 0) (o := 6) rfl rfl rfl).mono ?_
  rintro _ h' ⟨rfl, hh⟩
  have hh : h' = d.hh := hh
  subst hh
  refine ⟨⟨_, _, _, rfl⟩, fun O' on' hO' hle => ?_⟩
  repeat (refine need_intro (by first | exact fun h => h | exact nt | exact an2 | exact an3 | rfl | (simp; done) | fail) ?_)
  refine Does.atn (uartRead d hi hc) [0, 1, 2, 3] rfl ⟨rfl, rfl, rfl, rfl, trivial⟩ (by decide) ?_ ?_
  · rintro v h' (⟨_, _, rfl⟩ | ⟨_, _, _, _, rfl⟩)
    · exact ⟨.inl rfl, .inl rfl, .inl rfl, .inl rfl, trivial⟩
    · exact ⟨.inl rfl, .inl rfl, .inl rfl, .inl rfl, .inl rfl, trivial⟩
  rintro v h' (⟨h0, rfl, rfl⟩ | ⟨h0, c, hcc, rfl, rfl⟩)
  · repeat (refine need_intro (by first | exact fun h => h | exact nt | exact an2 | exact an3 | rfl | (simp; done) | fail) ?_)
    refine (unlock_spec (b := 0) (o := 6) rfl rfl rfl).mono ?_
    rintro _ h' ⟨_, hh⟩
    have hh : h' = d.h := hh
    subst hh
    exact ⟨_, _, [0, 1, 2, 3], .inl ⟨h0, rfl, rfl⟩, by decide, ⟨rfl, rfl, rfl, rfl, trivial⟩, eqvE_refl _, ⟨⟨_, rfl, eqvB_refl _⟩, ⟨_, rfl, eqvB_refl _⟩, ⟨_, rfl, eqvB_refl _⟩, ⟨_, rfl, eqvB_refl _⟩, trivial⟩⟩
  · repeat (refine need_intro (by first | exact fun h => h | exact nt | exact an2 | exact an3 | rfl | (simp; done) | fail) ?_)
    refine (unlock_spec (b := 0) (o := 6) rfl rfl rfl).mono ?_
    rintro _ h' ⟨_, hh⟩
    have hh : h' = [.cells true (d.s.dev 0 (.gs 1 0 d.s.nr d.cr) (.gs 4 0 (d.s.ni - 1) c) (.gs 3 0 d.s.no d.co)) 0, d.rb, d.ib, d.ob, (d.pop c).ib] := hh
    subst hh
    exact ⟨_, _, [0, 1, 2, 3, 4], .inr ⟨h0, c, hcc, rfl, rfl⟩, by decide, ⟨rfl, rfl, rfl, rfl, trivial⟩, eqvE_refl _, ⟨⟨_, rfl, eqvB_refl _⟩, ⟨_, rfl, eqvB_refl _⟩, ⟨_, rfl, eqvB_refl _⟩, ⟨_, rfl, eqvB_refl _⟩, ⟨_, rfl, eqvB_refl _⟩, trivial⟩⟩
/-- The uniform form: the queues under new numbers. -/
theorem uartLoad_0 (d : Dev) (n : Nat) (hi : d.s.ni ≤ 140737488351232) (hc : d.s.ni ≤ d.ci) : Does TB 280 [.s (.ptr 0 6), .s (.int .u64 268435456), .s (.int .i64 n)] d.h
    (fun v h' => ∃ c, (d.uld 0 c).s.ni ≤ (d.uld 0 c).ci ∧ v = .s (.int .u64 (d.uval 0).toNat) ∧ h' = (d.uld 0 c).h2) := by
  refine (uartLoad_read d n hi hc).tell ?_
  rintro v h' (⟨h0, rfl, rfl⟩ | ⟨h0, c, hcc, rfl, rfl⟩)
  · refine ⟨_, d.h2, [0, 1, 2, 3, 2, 3], ⟨0, ?_, rfl, ?_⟩, rfl, ⟨rfl, rfl, rfl, rfl, trivial⟩, ⟨rfl, ?_⟩, ⟨⟨_, rfl, eqvB_refl _⟩, ⟨_, rfl, eqvB_refl _⟩, rfl, rfl, ⟨_, rfl, eqvB_refl _⟩, ⟨_, rfl, eqvB_refl _⟩, trivial⟩⟩
    · unfold Dev.uld; rw [if_pos rfl, if_pos h0]; exact hc
    · unfold Dev.uld; rw [if_pos rfl, if_pos h0]
    · unfold Dev.uval; rw [if_pos rfl, if_pos h0]; rfl
  · refine ⟨_, (d.pop c).h2, [0, 1, 2, 3, 4, 3], ⟨c, ?_, rfl, ?_⟩, rfl, ⟨rfl, rfl, rfl, rfl, trivial⟩, ⟨rfl, ?_⟩, ⟨⟨_, rfl, eqvB_refl _⟩, ⟨_, rfl, eqvB_refl _⟩, rfl, rfl, ⟨_, rfl, eqvB_refl _⟩, ⟨_, rfl, eqvB_refl _⟩, trivial⟩⟩
    · unfold Dev.uld; rw [if_pos rfl, if_neg h0]; exact hcc
    · unfold Dev.uld; rw [if_pos rfl, if_neg h0]
    · have := (d.inp 0).isLt
      unfold Dev.uval; rw [if_pos rfl, if_neg h0, BitVec.toNat_setWidth, Nat.mod_eq_of_lt (by omega)]
end Go.Proofs.YtdlpmbghocabbaaGreatDoor

/- The bus: the timer. Contracts of functions. -/
namespace Go.Anv
open Go
/-- The register of eight bytes that an access is in: its cell in the bus. -/
def clintW (a : B64) (n : Nat) : Option Nat :=
  if (a == 33570816#64 && (n == 4 || n == 8)) || (a == 33570820#64 && n == 4) then some 4 else if (a == 33603576#64 && (n == 4 || n == 8)) || (a == 33603580#64 && n == 4) then some 5 else none
def clintAt (a : B64) (n : Nat) : Bool := (a == 33554432#64 && n == 4) || (clintW a n).isSome
def wordE : Option Nat → EV
  | some o => .s (.ptr 0 o)
  | none => .s .nilptr
theorem clintW_three (a : B64) (n : Nat) : clintW a n = none ∨ clintW a n = some 4 ∨ clintW a n = some 5 := by
  unfold clintW
  split
  · exact .inr (.inl rfl)
  · split
    · exact .inr (.inr rfl)
    · exact .inl rfl
/-- A load from the timer. -/
def BusV.cld (s : BusV) (a : B64) (n : Nat) : B64 :=
  match clintW a n with
  | none => s.msip.setWidth 64
  | some o => let w := if o = 4 then s.cmp else s.now
    if n = 8 then w else (w >>> (8#64 * (a &&& 4#64)).toNat) &&& 4294967295#64
theorem sh4 (a : B64) : IntKind.u64.wrap (8 * bitX .and .u64 (a.toNat : Int) 4) = ((8#64 * (a &&& 4#64)).toNat : Int) ∧ (8#64 * (a &&& 4#64)).toNat ≤ 32 := by
  have h4 : (a &&& 4#64).toNat ≤ 4 := by rw [BitVec.toNat_and]; exact Nat.and_le_right
  constructor
  · rw [and_u64, ofInt_toNat, wrap_u64, BitVec.ofInt_mul, ofInt_toNat]; rfl
  · rw [BitVec.toNat_mul, show (8#64).toNat = 8 from rfl]
    omega
theorem cst_word (w v a : B64) :
    bitX .or .u64 (bitX .andNot .u64 (w.toNat : Int) (IntKind.u64.wrap (4294967295 * 2 ^ min (IntKind.u64.wrap (8 * bitX .and .u64 (a.toNat : Int) 4)).toNat IntKind.u64.bits)))
      (bitX .and .u64 (IntKind.u64.wrap ((v.toNat : Int) * 2 ^ min (IntKind.u64.wrap (8 * bitX .and .u64 (a.toNat : Int) 4)).toNat IntKind.u64.bits)) (IntKind.u64.wrap (4294967295 * 2 ^ min (IntKind.u64.wrap (8 * bitX .and .u64 (a.toNat : Int) 4)).toNat IntKind.u64.bits)))
      = (((w &&& ~~~(4294967295#64 <<< (8#64 * (a &&& 4#64)).toNat)) ||| ((v <<< (8#64 * (a &&& 4#64)).toNat) &&& (4294967295#64 <<< (8#64 * (a &&& 4#64)).toNat))).toNat : Int) := by
  have h32 := (sh4 a).2
  have hm : min (IntKind.u64.wrap (8 * bitX .and .u64 (a.toNat : Int) 4)).toNat IntKind.u64.bits = (8#64 * (a &&& 4#64)).toNat := by
    rw [(sh4 a).1, Int.toNat_natCast]; show min _ 64 = _; omega
  rw [hm]
  have e1 : IntKind.u64.wrap (4294967295 * 2 ^ (8#64 * (a &&& 4#64)).toNat) = ((4294967295#64 <<< (8#64 * (a &&& 4#64)).toNat).toNat : Int) := by
    rw [wrap_u64]
    exact congrArg (fun z : B64 => (z.toNat : Int)) (mul_pow 4294967295#64 _)
  rw [e1, wrap_u64 ((v.toNat : Int) * _), mul_pow, or_u64, andNot_u64, and_u64]
  simp only [ofInt_toNat]
/-- A store into the timer. -/
def BusV.cst (s : BusV) (a : B64) (n : Nat) (v : B64) : BusV :=
  match clintW a n with
  | none => { s with msip := (v &&& 1#64).setWidth 32 }
  | some o => let w := if o = 4 then s.cmp else s.now
    let k := (8#64 * (a &&& 4#64)).toNat
    let x := if n = 8 then v else (w &&& ~~~(4294967295#64 <<< k)) ||| ((v <<< k) &&& (4294967295#64 <<< k))
    if o = 4 then { s with cmp := x } else { s with now := x }
end Go.Anv
namespace Go.Proofs.YtdlpmbghocabbaaGreatDoor
open Go Go.Anv
set_option maxRecDepth 100000 in
theorem clintWord (d : Dev) (a : B64) (n : Nat) : Does TB 293 [.s (.ptr 0 3), .s (.int .u64 a.toNat), .s (.int .i64 n)] d.h (fun v h' => v = wordE (clintW a n) ∧ h' = d.h) := by
  refine fnX_does TB Tryz.func293 rfl (by decide) (fun O on hO => ?_)
  have q1 : (bif bif ((a.toNat : Int) == 33570816) then (bif ((n : Int) == 4) then true else ((n : Int) == 8)) else false then true else bif ((a.toNat : Int) == IntKind.u64.wrap (33570816 + 4)) then ((n : Int) == 4) else false) = ((a == 33570816#64 && (n == 4 || n == 8)) || (a == 33570820#64 && n == 4)) := by
    rw [show IntKind.u64.wrap (33570816 + 4) = 33570820 by decide, show ((a.toNat : Int) == 33570816) = (a == 33570816#64) from beq_lit a 33570816 (by decide) (by decide), show ((a.toNat : Int) == 33570820) = (a == 33570820#64) from beq_lit a 33570820 (by decide) (by decide), show ((n : Int) == 4) = (n == 4) from size_lit 4, show ((n : Int) == 8) = (n == 8) from size_lit 8]
    cases (a == 33570816#64) <;> cases (a == 33570820#64) <;> cases (n == 4) <;> cases (n == 8) <;> rfl
  have q2 : (bif bif ((a.toNat : Int) == 33603576) then (bif ((n : Int) == 4) then true else ((n : Int) == 8)) else false then true else bif ((a.toNat : Int) == IntKind.u64.wrap (33603576 + 4)) then ((n : Int) == 4) else false) = ((a == 33603576#64 && (n == 4 || n == 8)) || (a == 33603580#64 && n == 4)) := by
    rw [show IntKind.u64.wrap (33603576 + 4) = 33603580 by decide, show ((a.toNat : Int) == 33603576) = (a == 33603576#64) from beq_lit a 33603576 (by decide) (by decide), show ((a.toNat : Int) == 33603580) = (a == 33603580#64) from beq_lit a 33603580 (by decide) (by decide), show ((n : Int) == 4) = (n == 4) from size_lit 4, show ((n : Int) == 8) = (n == 8) from size_lit 8]
    cases (a == 33603576#64) <;> cases (a == 33603580#64) <;> cases (n == 4) <;> cases (n == 8) <;> rfl
  refine draw_to on ?tt1 ?_ ?_
  rotate_left 1
  · refine draw_held on rfl (fun _ _ h => h) ?_
    repeat' (first | refine need_intro (by first | exact fun h => h | exact nt | exact an2 | exact an3 | rfl | (simp; done) | fail) ?_ | refine And.intro ?_ ?_)
    all_goals (refine toK_id ?_; rw [hO]; exact Nat.le_of_ble_eq_true rfl)
  repeat (refine need_intro (by first | exact fun h => h | exact nt | exact an2 | exact an3 | rfl | (simp; done) | fail) ?_)
  refine loop_times on 3 ?_
  refine Box.mk ?_
  repeat (refine need_intro (by first | (decide) | exact fun h => h | exact nt | exact an2 | exact an3 | rfl | (simp; done) | fail) ?_)
  unfold clintW
  refine ifB_intro (fun g => ?_) (fun g => ?_)
  · rw [if_pos (q1.symm.trans g)]
    repeat (refine need_intro (by first | exact fun h => h | exact nt | exact an2 | exact an3 | rfl | (simp; done) | fail) ?_)
    exact Ends.ro (H := d.h) rfl (eqvE_refl _) rfl
  · rw [if_neg (by rw [← q1, g]; decide)]
    repeat (refine need_intro (by first | (decide) | exact fun h => h | exact nt | exact an2 | exact an3 | rfl | (simp; done) | fail) ?_)
    repeat (first | refine Box.mk ?_ | refine need_intro (by first | exact fun h => h | exact nt | exact an2 | exact an3 | decide | rfl | (simp; done) | fail) ?_)
    refine ifB_intro (fun g2 => ?_) (fun g2 => ?_)
    · rw [if_pos (q2.symm.trans g2)]
      repeat (refine need_intro (by first | exact fun h => h | exact nt | exact an2 | exact an3 | rfl | (simp; done) | fail) ?_)
      exact Ends.ro (H := d.h) rfl (eqvE_refl _) rfl
    · rw [if_neg (by rw [← q2, g2]; decide)]
      repeat (first | refine Box.mk ?_ | refine need_intro (by first | exact fun h => h | exact nt | exact an2 | exact an3 | decide | rfl | (simp; done) | fail) ?_)
      exact Ends.ro (H := d.h) rfl (eqvE_refl _) rfl
set_option maxRecDepth 100000 in
theorem clintHere (d : Dev) (a : B64) (n : Nat) : Does TB 290 [.s (.ptr 0 3), .s (.int .u64 a.toNat), .s (.int .i64 n)] d.h (fun v h' => v = .s (.bool (clintAt a n)) ∧ h' = d.h) := by
  refine fnX_does TB Tryz.func290 rfl (by decide) (fun O on hO => ?_)
  have q : (!bif ((a.toNat : Int) == 33554432) then ((n : Int) == 4) else false) = !(a == 33554432#64 && n == 4) := by
    rw [show ((a.toNat : Int) == 33554432) = (a == 33554432#64) from beq_lit a 33554432 (by decide) (by decide), show ((n : Int) == 4) = (n == 4) from size_lit 4, cond_and]
  have q' : (bif ((a.toNat : Int) == 33554432) then ((n : Int) == 4) else false) = (a == 33554432#64 && n == 4) := by
    rw [show ((a.toNat : Int) == 33554432) = (a == 33554432#64) from beq_lit a 33554432 (by decide) (by decide), show ((n : Int) == 4) = (n == 4) from size_lit 4, cond_and]
  have hw := clintWord d a n
  repeat (refine need_intro (by first | exact fun h => h | exact nt | exact an2 | exact an3 | rfl | (simp; done) | fail) ?_)
  refine ifB_intro (fun g => ?_) (fun g => ?_)
  · have g' : (a == 33554432#64 && n == 4) = false := by
      have h2 := q.symm.trans g
      cases h : (a == 33554432#64 && n == 4)
      · rfl
      · rw [h] at h2; cases h2
    have hv : clintAt a n = (clintW a n).isSome := by unfold clintAt; rw [g']; rfl
    rw [hv]
    refine Does.ungd (b := [.s (.ptr 0 3), .s (.int .u64 a.toNat), .s (.int .i64 n)]) ⟨⟨g, rfl⟩, ⟨g, rfl⟩, ⟨g, rfl⟩, trivial⟩ ?_
    rcases clintW_three a n with e | e | e
    · rw [e] at hw ⊢
      refine Does.atc (hw) [0, 1, 2, 3] rfl ⟨rfl, rfl, rfl, rfl, trivial⟩ (by decide) ?_
      repeat (refine need_intro (by first | exact g | exact fun h => h | exact nt | exact an2 | exact an3 | rfl | (simp; done) | fail) ?_)
      refine Ends.ro (H := d.h) rfl (show (bif (bif ((a.toNat : Int) == 33554432) then ((n : Int) == 4) else false) then true else false) = false from by rw [q', g']; rfl) rfl
    · rw [e] at hw ⊢
      refine Does.atc (hw) [0, 1, 2, 3] rfl ⟨rfl, rfl, rfl, rfl, trivial⟩ (by decide) ?_
      repeat (refine need_intro (by first | exact g | exact fun h => h | exact nt | exact an2 | exact an3 | rfl | (simp; done) | fail) ?_)
      refine Ends.ro (H := d.h) rfl (show (bif (bif ((a.toNat : Int) == 33554432) then ((n : Int) == 4) else false) then true else true) = true from by rw [q', g']; rfl) rfl
    · rw [e] at hw ⊢
      refine Does.atc (hw) [0, 1, 2, 3] rfl ⟨rfl, rfl, rfl, rfl, trivial⟩ (by decide) ?_
      repeat (refine need_intro (by first | exact g | exact fun h => h | exact nt | exact an2 | exact an3 | rfl | (simp; done) | fail) ?_)
      refine Ends.ro (H := d.h) rfl (show (bif (bif ((a.toNat : Int) == 33554432) then ((n : Int) == 4) else false) then true else true) = true from by rw [q', g']; rfl) rfl
  · have g' : (a == 33554432#64 && n == 4) = true := by
      have h2 := q.symm.trans g
      cases h : (a == 33554432#64 && n == 4)
      · rw [h] at h2; cases h2
      · rfl
    have hv : clintAt a n = true := by unfold clintAt; rw [g']; rfl
    rw [hv]
    repeat (first | refine ifB_intro (fun h => absurd (h.symm.trans g) (by decide)) (fun _ => ?_) | refine need_intro (by first | exact fun h => absurd (h.symm.trans g) (by decide) | exact fun h => h | exact nt | exact an2 | exact an3 | rfl | (simp; done) | fail) ?_)
    refine need_intro (q'.trans g') ?_
    repeat (refine need_intro (by first | exact fun h => h | exact nt | exact an2 | exact an3 | rfl | (simp; done) | fail) ?_)
    exact Ends.ro (H := d.h) rfl (eqvE_refl _) rfl
set_option maxRecDepth 100000 in
theorem clintLoad (d : Dev) (a : B64) (n : Nat) : Does TB 291 [.s (.ptr 0 3), .s (.int .u64 a.toNat), .s (.int .i64 n)] d.h (fun v h' => v = .s (.int .u64 (d.s.cld a n).toNat) ∧ h' = d.h) := by
  refine fnX_does TB Tryz.func291 rfl (by decide) (fun O on hO => ?_)
  have hw := clintWord d a n
  unfold BusV.cld
  rcases clintW_three a n with e | e | e
  · rw [e] at hw ⊢
    refine Does.atc (hw) [0, 1, 2, 3] rfl ⟨rfl, rfl, rfl, rfl, trivial⟩ (by decide) ?_
    repeat (refine need_intro (by first | exact fun h => h | exact nt | exact an2 | exact an3 | rfl | (simp; done) | fail) ?_)
    refine Ends.ro (H := d.h) rfl ⟨rfl, ?_⟩ rfl
    show IntKind.u64.wrap (d.s.msip.toNat : Int) = ((d.s.msip.setWidth 64).toNat : Int)
    have := d.s.msip.isLt
    rw [BitVec.toNat_setWidth, Nat.mod_eq_of_lt (by omega)]
    exact wnat (by omega)
  · rw [e] at hw ⊢
    refine Does.atc (hw) [0, 1, 2, 3] rfl ⟨rfl, rfl, rfl, rfl, trivial⟩ (by decide) ?_
    repeat (refine need_intro (by first | exact fun h => h | exact nt | exact an2 | exact an3 | rfl | (simp; done) | fail) ?_)
    refine ifB_intro (fun g => ?_) (fun g => ?_)
    · have hn : n = 8 := by have := eq_of_beq g; omega
      repeat (refine need_intro (by first | exact fun h => h | exact nt | exact an2 | exact an3 | rfl | (simp; done) | fail) ?_)
      refine Ends.ro (H := d.h) rfl ⟨rfl, ?_⟩ rfl
      show (d.s.cmp.toNat : Int) = ((if n = 8 then d.s.cmp else (d.s.cmp >>> (8#64 * (a &&& 4#64)).toNat) &&& 4294967295#64).toNat : Int)
      rw [if_pos hn]
    · have hn : n ≠ 8 := by rintro rfl; cases g
      refine need_intro (by rw [(sh4 a).1]; omega) ?_
      repeat (refine need_intro (by first | exact fun h => h | exact nt | exact an2 | exact an3 | rfl | (simp; done) | fail) ?_)
      refine Ends.ro (H := d.h) rfl ⟨rfl, ?_⟩ rfl
      show bitX .and .u64 ((d.s.cmp.toNat : Int).fdiv (2 ^ min (IntKind.u64.wrap (8 * bitX .and .u64 (a.toNat : Int) 4)).toNat IntKind.u64.bits)) 4294967295 = ((if n = 8 then d.s.cmp else (d.s.cmp >>> (8#64 * (a &&& 4#64)).toNat) &&& 4294967295#64).toNat : Int)
      have h32 := (sh4 a).2
      rw [if_neg hn, (sh4 a).1, Int.toNat_natCast, show min (8#64 * (a &&& 4#64)).toNat IntKind.u64.bits = (8#64 * (a &&& 4#64)).toNat from by show min _ 64 = _; omega, fdiv_pow, and_u64, ofInt_toNat]
      rfl
  · rw [e] at hw ⊢
    refine Does.atc (hw) [0, 1, 2, 3] rfl ⟨rfl, rfl, rfl, rfl, trivial⟩ (by decide) ?_
    repeat (refine need_intro (by first | exact fun h => h | exact nt | exact an2 | exact an3 | rfl | (simp; done) | fail) ?_)
    refine ifB_intro (fun g => ?_) (fun g => ?_)
    · have hn : n = 8 := by have := eq_of_beq g; omega
      repeat (refine need_intro (by first | exact fun h => h | exact nt | exact an2 | exact an3 | rfl | (simp; done) | fail) ?_)
      refine Ends.ro (H := d.h) rfl ⟨rfl, ?_⟩ rfl
      show (d.s.now.toNat : Int) = ((if n = 8 then d.s.now else (d.s.now >>> (8#64 * (a &&& 4#64)).toNat) &&& 4294967295#64).toNat : Int)
      rw [if_pos hn]
    · have hn : n ≠ 8 := by rintro rfl; cases g
      refine need_intro (by rw [(sh4 a).1]; omega) ?_
      repeat (refine need_intro (by first | exact fun h => h | exact nt | exact an2 | exact an3 | rfl | (simp; done) | fail) ?_)
      refine Ends.ro (H := d.h) rfl ⟨rfl, ?_⟩ rfl
      show bitX .and .u64 ((d.s.now.toNat : Int).fdiv (2 ^ min (IntKind.u64.wrap (8 * bitX .and .u64 (a.toNat : Int) 4)).toNat IntKind.u64.bits)) 4294967295 = ((if n = 8 then d.s.now else (d.s.now >>> (8#64 * (a &&& 4#64)).toNat) &&& 4294967295#64).toNat : Int)
      have h32 := (sh4 a).2
      rw [if_neg hn, (sh4 a).1, Int.toNat_natCast, show min (8#64 * (a &&& 4#64)).toNat IntKind.u64.bits = (8#64 * (a &&& 4#64)).toNat from by show min _ 64 = _; omega, fdiv_pow, and_u64, ofInt_toNat]
      rfl
/-- A cell of the bus that says the same number. -/
theorem endsDev {d d' : Dev} {cs : List Seg} (h : eqvS cs (d'.s.dev 0 (.gs 1 0 d'.s.nr d'.cr) (.gs 2 0 d'.s.ni d'.ci) (.gs 3 0 d'.s.no d'.co))) (h1 : d.rb = d'.rb) (h2 : d.ib = d'.ib) (h3 : d.ob = d'.ob) (J : List Blk) :
    Anv.Ends 4 (fun r h' => r = .tuple [] ∧ h' = d'.h) (.tuple []) ([.cells true cs 0, d.rb, d.ib, d.ob] ++ J) := by
  refine ⟨_, _, [0, 1, 2, 3], ⟨rfl, rfl⟩, by decide, ⟨rfl, rfl, rfl, rfl, trivial⟩, eqvE_refl _, ⟨⟨_, rfl, ⟨rfl, rfl, h⟩⟩, ⟨_, rfl, ?_⟩, ⟨_, rfl, ?_⟩, ⟨_, rfl, ?_⟩, trivial⟩⟩
  · rw [h1]; exact eqvB_refl _
  · rw [h2]; exact eqvB_refl _
  · rw [h3]; exact eqvB_refl _
set_option maxRecDepth 100000 in
theorem clintStore (d : Dev) (a : B64) (n : Nat) (v : B64) : Does TB 292 [.s (.ptr 0 3), .s (.int .u64 a.toNat), .s (.int .i64 n), .s (.int .u64 v.toNat)] d.h (fun r h' => r = .tuple [] ∧ h' = { d with s := d.s.cst a n v }.h) := by
  refine fnX_does TB Tryz.func292 rfl (by decide) (fun O on hO => ?_)
  have hw := clintWord d a n
  unfold BusV.cst
  rcases clintW_three a n with e | e | e
  · rw [e] at hw ⊢
    refine Does.atc (hw) [0, 1, 2, 3] rfl ⟨rfl, rfl, rfl, rfl, trivial⟩ (by decide) ?_
    repeat (refine need_intro (by first | exact fun h => h | exact nt | exact an2 | exact an3 | rfl | (simp; done) | fail) ?_)
    have em : IntKind.u32.wrap (bitX .and .u64 (v.toNat : Int) 1) = (((v &&& 1#64).setWidth 32).toNat : Int) := by
      rw [and_u64, ofInt_toNat, wrap_u32, BitVec.toNat_setWidth, BitVec.toNat_ofInt]
      have : (v &&& BitVec.ofInt 64 1) = v &&& 1#64 := rfl
      rw [this]
      omega
    refine endsDev (d := d) (d' := { d with s := { d.s with msip := (v &&& 1#64).setWidth 32 } }) ?_ rfl rfl rfl _
    repeat' (first | exact eqvS_nil | refine eqvS_same ?_ | refine ⟨⟨rfl, em⟩, ?_⟩)
  · rw [e] at hw ⊢
    refine Does.atc (hw) [0, 1, 2, 3] rfl ⟨rfl, rfl, rfl, rfl, trivial⟩ (by decide) ?_
    repeat (refine need_intro (by first | exact fun h => h | exact nt | exact an2 | exact an3 | rfl | (simp; done) | fail) ?_)
    refine ifB_intro (fun g => ?_) (fun g => ?_)
    · have hn : n = 8 := by have := eq_of_beq g; omega
      repeat (refine need_intro (by first | exact fun h => h | exact nt | exact an2 | exact an3 | rfl | (simp; done) | fail) ?_)
      refine endsDev (d := d) (d' := { d with s := { d.s with cmp := if n = 8 then v else (d.s.cmp &&& ~~~(4294967295#64 <<< (8#64 * (a &&& 4#64)).toNat)) ||| ((v <<< (8#64 * (a &&& 4#64)).toNat) &&& (4294967295#64 <<< (8#64 * (a &&& 4#64)).toNat)) } }) ?_ rfl rfl rfl _
      rw [if_pos hn]
      repeat' (first | exact eqvS_nil | refine eqvS_same ?_)
    · have hn : n ≠ 8 := by rintro rfl; cases g
      repeat refine need_intro (by rw [(sh4 a).1]; omega) ?_
      repeat (refine need_intro (by first | exact fun h => h | exact nt | exact an2 | exact an3 | rfl | (simp; done) | fail) ?_)
      refine endsDev (d := d) (d' := { d with s := { d.s with cmp := if n = 8 then v else (d.s.cmp &&& ~~~(4294967295#64 <<< (8#64 * (a &&& 4#64)).toNat)) ||| ((v <<< (8#64 * (a &&& 4#64)).toNat) &&& (4294967295#64 <<< (8#64 * (a &&& 4#64)).toNat)) } }) ?_ rfl rfl rfl _
      rw [if_neg hn]
      repeat' (first | exact eqvS_nil | refine eqvS_same ?_ | refine ⟨⟨rfl, cst_word d.s.cmp v a⟩, ?_⟩)
  · rw [e] at hw ⊢
    refine Does.atc (hw) [0, 1, 2, 3] rfl ⟨rfl, rfl, rfl, rfl, trivial⟩ (by decide) ?_
    repeat (refine need_intro (by first | exact fun h => h | exact nt | exact an2 | exact an3 | rfl | (simp; done) | fail) ?_)
    refine ifB_intro (fun g => ?_) (fun g => ?_)
    · have hn : n = 8 := by have := eq_of_beq g; omega
      repeat (refine need_intro (by first | exact fun h => h | exact nt | exact an2 | exact an3 | rfl | (simp; done) | fail) ?_)
      refine endsDev (d := d) (d' := { d with s := { d.s with now := if n = 8 then v else (d.s.now &&& ~~~(4294967295#64 <<< (8#64 * (a &&& 4#64)).toNat)) ||| ((v <<< (8#64 * (a &&& 4#64)).toNat) &&& (4294967295#64 <<< (8#64 * (a &&& 4#64)).toNat)) } }) ?_ rfl rfl rfl _
      rw [if_pos hn]
      repeat' (first | exact eqvS_nil | refine eqvS_same ?_)
    · have hn : n ≠ 8 := by rintro rfl; cases g
      repeat refine need_intro (by rw [(sh4 a).1]; omega) ?_
      repeat (refine need_intro (by first | exact fun h => h | exact nt | exact an2 | exact an3 | rfl | (simp; done) | fail) ?_)
      refine endsDev (d := d) (d' := { d with s := { d.s with now := if n = 8 then v else (d.s.now &&& ~~~(4294967295#64 <<< (8#64 * (a &&& 4#64)).toNat)) ||| ((v <<< (8#64 * (a &&& 4#64)).toNat) &&& (4294967295#64 <<< (8#64 * (a &&& 4#64)).toNat)) } }) ?_ rfl rfl rfl _
      rw [if_neg hn]
      repeat' (first | exact eqvS_nil | refine eqvS_same ?_ | refine ⟨⟨rfl, cst_word d.s.now v a⟩, ?_⟩)
end Go.Proofs.YtdlpmbghocabbaaGreatDoor

/- Contracts that were shown by other means: what lay below the heap's end is as it was. Plain theorems, no condition. -/
namespace Go.Anv
open Go
theorem Since.below {E : Emb} {h : List Blk} {w w' : World} (B : RowKit.Below w.heap.size w w') : Since E h w E h w' :=
  ⟨Nat.le_refl _, fun _ _ => rfl, B.size, fun b hb _ => B.block b hb, fun b o hb _ => ⟨World.cell?_of_block (w := w) (B.block b hb), fun _ => World.frozen?_of_block (w := w) (B.block b hb)⟩, fun _ _ hm _ => hm, B.os, B.tape, B.output,
    fun b hb hr => hr.of_block (B.block b hb)⟩
/-- A contract shown by other means. -/
theorem Does.foreign {T : Tbl} {f : FuncId} {args : List EV} {h : List Blk} {X : EV} (hf : isFn T f)
    (c : ∀ E w vs, Sim E h w → TabOk E h w → denT E args vs.toList → Calls T.P f vs w fun e w' => (∃ v, e = .returned v ∧ denE E X v) ∧ RowKit.Below w.heap.size w w') : Does T f args h (fun v h' => v = X ∧ h' = h) := by
  refine ⟨.inl ⟨hf, fun E w vs S Z ha => (c E w vs S Z ha).mono ?_⟩⟩
  rintro e w' ⟨⟨v, rfl, hd⟩, B⟩
  exact ⟨v, X, h, E, rfl, hd, S.keep B.size B.block, Since.below B, rfl, rfl⟩
end Go.Anv

/- What the decoder makes of one word (addi x1, x0, 1), number by number. Contracts of functions; printed by mk_f1.py. -/
namespace Go.Proofs.YtdlpmbghocabbaaGreatDoor
open Go Go.Anv
set_option maxRecDepth 100000 in
theorem bits_11_7 (h : List Blk) : Does TB 116 [.s (.int .u64 1048723), .s (.int .i64 11), .s (.int .i64 7)] h (fun v h' => v = .s (.int .u64 1) ∧ h' = h) := by
  refine fnX_pure TB Tryz.func116 rfl (by decide) rfl _ rfl (fun O on => ?_) h
  repeat (refine need_intro (by first | exact fun h => h | exact nt | exact an2 | exact an3 | rfl | (simp; done) | fail) ?_)
  refine loop_times on 6 ?_
  repeat (first | refine Box.mk ?_ | refine need_intro (by first | decide | fail) ?_)
  first | exact rfl | exact ⟨rfl, by decide⟩ | exact ⟨rfl, rfl⟩
set_option maxRecDepth 100000 in
theorem field_11_7 (h : List Blk) : Does TB 200 [.s (.int .u32 1048723), .s (.int .i64 11), .s (.int .i64 7)] h (fun v h' => v = .s (.int .i64 1) ∧ h' = h) := by
  refine fnX_pure TB Tryz.func200 rfl (by decide) rfl _ rfl (fun O on => ?_) h
  repeat (refine need_intro (by first | exact fun h => h | exact nt | exact an2 | exact an3 | rfl | (simp; done) | fail) ?_)
  refine (bits_11_7 _).mono ?_
  rintro v h' ⟨rfl, rfl⟩
  repeat (refine need_intro (by first | exact fun h => h | exact nt | exact an2 | exact an3 | rfl | (simp; done) | fail) ?_)
  first | exact rfl | exact ⟨rfl, by decide⟩ | exact ⟨rfl, rfl⟩
set_option maxRecDepth 100000 in
theorem bits_19_15 (h : List Blk) : Does TB 116 [.s (.int .u64 1048723), .s (.int .i64 19), .s (.int .i64 15)] h (fun v h' => v = .s (.int .u64 0) ∧ h' = h) := by
  refine fnX_pure TB Tryz.func116 rfl (by decide) rfl _ rfl (fun O on => ?_) h
  repeat (refine need_intro (by first | exact fun h => h | exact nt | exact an2 | exact an3 | rfl | (simp; done) | fail) ?_)
  refine loop_times on 6 ?_
  repeat (first | refine Box.mk ?_ | refine need_intro (by first | decide | fail) ?_)
  first | exact rfl | exact ⟨rfl, by decide⟩ | exact ⟨rfl, rfl⟩
set_option maxRecDepth 100000 in
theorem field_19_15 (h : List Blk) : Does TB 200 [.s (.int .u32 1048723), .s (.int .i64 19), .s (.int .i64 15)] h (fun v h' => v = .s (.int .i64 0) ∧ h' = h) := by
  refine fnX_pure TB Tryz.func200 rfl (by decide) rfl _ rfl (fun O on => ?_) h
  repeat (refine need_intro (by first | exact fun h => h | exact nt | exact an2 | exact an3 | rfl | (simp; done) | fail) ?_)
  refine (bits_19_15 _).mono ?_
  rintro v h' ⟨rfl, rfl⟩
  repeat (refine need_intro (by first | exact fun h => h | exact nt | exact an2 | exact an3 | rfl | (simp; done) | fail) ?_)
  first | exact rfl | exact ⟨rfl, by decide⟩ | exact ⟨rfl, rfl⟩
set_option maxRecDepth 100000 in
theorem bits_24_20 (h : List Blk) : Does TB 116 [.s (.int .u64 1048723), .s (.int .i64 24), .s (.int .i64 20)] h (fun v h' => v = .s (.int .u64 1) ∧ h' = h) := by
  refine fnX_pure TB Tryz.func116 rfl (by decide) rfl _ rfl (fun O on => ?_) h
  repeat (refine need_intro (by first | exact fun h => h | exact nt | exact an2 | exact an3 | rfl | (simp; done) | fail) ?_)
  refine loop_times on 6 ?_
  repeat (first | refine Box.mk ?_ | refine need_intro (by first | decide | fail) ?_)
  first | exact rfl | exact ⟨rfl, by decide⟩ | exact ⟨rfl, rfl⟩
set_option maxRecDepth 100000 in
theorem field_24_20 (h : List Blk) : Does TB 200 [.s (.int .u32 1048723), .s (.int .i64 24), .s (.int .i64 20)] h (fun v h' => v = .s (.int .i64 1) ∧ h' = h) := by
  refine fnX_pure TB Tryz.func200 rfl (by decide) rfl _ rfl (fun O on => ?_) h
  repeat (refine need_intro (by first | exact fun h => h | exact nt | exact an2 | exact an3 | rfl | (simp; done) | fail) ?_)
  refine (bits_24_20 _).mono ?_
  rintro v h' ⟨rfl, rfl⟩
  repeat (refine need_intro (by first | exact fun h => h | exact nt | exact an2 | exact an3 | rfl | (simp; done) | fail) ?_)
  first | exact rfl | exact ⟨rfl, by decide⟩ | exact ⟨rfl, rfl⟩
set_option maxRecDepth 100000 in
theorem bits_31_20 (h : List Blk) : Does TB 116 [.s (.int .u64 1048723), .s (.int .i64 31), .s (.int .i64 20)] h (fun v h' => v = .s (.int .u64 1) ∧ h' = h) := by
  refine fnX_pure TB Tryz.func116 rfl (by decide) rfl _ rfl (fun O on => ?_) h
  repeat (refine need_intro (by first | exact fun h => h | exact nt | exact an2 | exact an3 | rfl | (simp; done) | fail) ?_)
  refine loop_times on 13 ?_
  repeat (first | refine Box.mk ?_ | refine need_intro (by first | decide | fail) ?_)
  first | exact rfl | exact ⟨rfl, by decide⟩ | exact ⟨rfl, rfl⟩
set_option maxRecDepth 100000 in
theorem field_31_20 (h : List Blk) : Does TB 200 [.s (.int .u32 1048723), .s (.int .i64 31), .s (.int .i64 20)] h (fun v h' => v = .s (.int .i64 1) ∧ h' = h) := by
  refine fnX_pure TB Tryz.func200 rfl (by decide) rfl _ rfl (fun O on => ?_) h
  repeat (refine need_intro (by first | exact fun h => h | exact nt | exact an2 | exact an3 | rfl | (simp; done) | fail) ?_)
  refine (bits_31_20 _).mono ?_
  rintro v h' ⟨rfl, rfl⟩
  repeat (refine need_intro (by first | exact fun h => h | exact nt | exact an2 | exact an3 | rfl | (simp; done) | fail) ?_)
  first | exact rfl | exact ⟨rfl, by decide⟩ | exact ⟨rfl, rfl⟩
set_option maxRecDepth 100000 in
theorem extend_1_12 (h : List Blk) : Does TB 88 [.s (.int .u64 1), .s (.int .i64 12)] h (fun v h' => v = .s (.int .u64 1) ∧ h' = h) := by
  refine fnX_pure TB Tryz.func88 rfl (by decide) rfl _ rfl (fun O on => ?_) h
  repeat (first | refine need_intro (by first | decide | fail) ?_)
  first | exact rfl | exact ⟨rfl, by decide⟩ | exact ⟨rfl, rfl⟩
set_option maxRecDepth 100000 in
theorem signed_1_12 (h : List Blk) : Does TB 201 [.s (.int .i64 1), .s (.int .i64 12)] h (fun v h' => v = .s (.int .i64 1) ∧ h' = h) := by
  refine fnX_pure TB Tryz.func201 rfl (by decide) rfl _ rfl (fun O on => ?_) h
  repeat (refine need_intro (by first | exact fun h => h | exact nt | exact an2 | exact an3 | rfl | (simp; done) | fail) ?_)
  refine (extend_1_12 _).mono ?_
  rintro v h' ⟨rfl, rfl⟩
  repeat (refine need_intro (by first | exact fun h => h | exact nt | exact an2 | exact an3 | rfl | (simp; done) | fail) ?_)
  first | exact rfl | exact ⟨rfl, by decide⟩ | exact ⟨rfl, rfl⟩
set_option maxRecDepth 100000 in
theorem length_addi (h : List Blk) : Does TB 127 [.s (.int .u32 1048723)] h (fun v h' => v = .s (.int .i64 4) ∧ h' = h) := by
  refine fnX_pure TB Tryz.func127 rfl (by decide) rfl _ rfl (fun O on => ?_) h
  repeat (refine need_intro (by first | exact fun h => h | exact nt | exact an2 | exact an3 | rfl | (simp; done) | fail) ?_)
  first | exact rfl | exact ⟨rfl, by decide⟩ | exact ⟨rfl, rfl⟩
end Go.Proofs.YtdlpmbghocabbaaGreatDoor

/- Memory protection with no entry in use. Contracts of functions. -/
namespace Go.Proofs.YtdlpmbghocabbaaGreatDoor
open Go Go.Anv
/-- No entry. -/
def zpmp : List Seg := pmpSeg (fun _ => 0#8) (fun _ => 0#64)
theorem properP0 (h : List Blk) : Does TB 28 [.agg zpmp] h (fun v h' => v = .agg zpmp ∧ h' = h) := by
  have := properP_spec (fun _ => 0#8) (fun _ => 0#64) h
  rw [show cfgOf 0#8 = 0#8 from by decide, show (0#64 &&& addrBits : B64) = 0#64 from by decide] at this
  exact this
theorem kind0 (h : List Blk) : Does TB 237 [.s (.int .u8 0)] h (fun v h' => v = .s (.int .i64 0) ∧ h' = h) := by
  refine fnX_pure TB Tryz.func237 rfl (by decide) rfl _ rfl (fun O on => ?_) h
  repeat (refine need_intro (by first | exact fun h => h | exact nt | exact an2 | exact an3 | rfl | (simp; done) | fail) ?_)
  first | exact rfl | exact ⟨rfl, by decide⟩ | exact ⟨rfl, rfl⟩
set_option maxRecDepth 100000 in
theorem span0 (i : Nat) (hi : i < 16) (h : List Blk) : Does TB 236 [.agg zpmp, .s (.int .i64 (i : Int))] h (fun v h' => v = .tuple [.s (.int .u64 0), .s (.int .u64 0), .s (.bool false)] ∧ h' = h) := by
  refine fnX_pure TB Tryz.func236 rfl (by decide) rfl _ rfl (fun O on => ?_) h
  repeat (refine need_intro (by first | exact fun h => h | exact nt | exact an2 | exact an3 | rfl | (simp; done) | fail) ?_)
  have g0 : decide ((i : Int) < 0) = false := decide_eq_false (by omega)
  have g1 : decide ((i : Int) > 15) = false := decide_eq_false (by omega)
  refine ifB_intro (fun g => by exfalso; rw [g0, g1] at g; cases g) (fun _ => ?_)
  refine (properP0 _).mono ?_
  rintro v h' ⟨rfl, rfl⟩
  repeat (refine need_intro (by first | exact rfl | omega | fail) ?_)
  refine Does.args (b := [.s (.int .u8 0)]) ⟨⟨rfl, rfl⟩, trivial⟩ ?_
  refine (kind0 _).mono ?_
  rintro v h' ⟨rfl, rfl⟩
  exact ⟨⟨rfl, rfl⟩, ⟨rfl, rfl⟩, rfl, trivial⟩
set_option maxRecDepth 100000 in
theorem match0 (a : Int) (n : Int) (h1 : 1 ≤ n) (h8 : n ≤ 8) (h : List Blk) : Does TB 210 [.agg zpmp, .s (.int .u64 a), .s (.int .i64 n)] h (fun v h' => v = .tuple [.s (.int .i64 (-1)), .s (.bool false)] ∧ h' = h) := by
  refine fnX_pure TB Tryz.func210 rfl (by decide) rfl _ rfl (fun O on => ?_) h
  repeat (refine need_intro (by first | exact fun h => h | exact nt | exact an2 | exact an3 | rfl | (simp; done) | fail) ?_)
  have g0 : decide (n < 1) = false := decide_eq_false (by omega)
  have g1 : decide (n > 8) = false := decide_eq_false (by omega)
  refine ifB_intro (fun g => by exfalso; rw [g0, g1] at g; cases g) (fun _ => ?_)
  refine loop_times on 17 ?_
  refine Box.mk ?_
  repeat (refine need_intro (by first | exact rfl | fail) ?_)
  refine (span0 0 (by decide) _).mono ?_
  rintro v h' ⟨rfl, rfl⟩
  refine Box.mk ?_
  repeat (refine need_intro (by first | exact rfl | fail) ?_)
  refine (span0 1 (by decide) _).mono ?_
  rintro v h' ⟨rfl, rfl⟩
  refine Box.mk ?_
  repeat (refine need_intro (by first | exact rfl | fail) ?_)
  refine (span0 2 (by decide) _).mono ?_
  rintro v h' ⟨rfl, rfl⟩
  refine Box.mk ?_
  repeat (refine need_intro (by first | exact rfl | fail) ?_)
  refine (span0 3 (by decide) _).mono ?_
  rintro v h' ⟨rfl, rfl⟩
  refine Box.mk ?_
  repeat (refine need_intro (by first | exact rfl | fail) ?_)
  refine (span0 4 (by decide) _).mono ?_
  rintro v h' ⟨rfl, rfl⟩
  refine Box.mk ?_
  repeat (refine need_intro (by first | exact rfl | fail) ?_)
  refine (span0 5 (by decide) _).mono ?_
  rintro v h' ⟨rfl, rfl⟩
  refine Box.mk ?_
  repeat (refine need_intro (by first | exact rfl | fail) ?_)
  refine (span0 6 (by decide) _).mono ?_
  rintro v h' ⟨rfl, rfl⟩
  refine Box.mk ?_
  repeat (refine need_intro (by first | exact rfl | fail) ?_)
  refine (span0 7 (by decide) _).mono ?_
  rintro v h' ⟨rfl, rfl⟩
  refine Box.mk ?_
  repeat (refine need_intro (by first | exact rfl | fail) ?_)
  refine (span0 8 (by decide) _).mono ?_
  rintro v h' ⟨rfl, rfl⟩
  refine Box.mk ?_
  repeat (refine need_intro (by first | exact rfl | fail) ?_)
  refine (span0 9 (by decide) _).mono ?_
  rintro v h' ⟨rfl, rfl⟩
  refine Box.mk ?_
  repeat (refine need_intro (by first | exact rfl | fail) ?_)
  refine (span0 10 (by decide) _).mono ?_
  rintro v h' ⟨rfl, rfl⟩
  refine Box.mk ?_
  repeat (refine need_intro (by first | exact rfl | fail) ?_)
  refine (span0 11 (by decide) _).mono ?_
  rintro v h' ⟨rfl, rfl⟩
  refine Box.mk ?_
  repeat (refine need_intro (by first | exact rfl | fail) ?_)
  refine (span0 12 (by decide) _).mono ?_
  rintro v h' ⟨rfl, rfl⟩
  refine Box.mk ?_
  repeat (refine need_intro (by first | exact rfl | fail) ?_)
  refine (span0 13 (by decide) _).mono ?_
  rintro v h' ⟨rfl, rfl⟩
  refine Box.mk ?_
  repeat (refine need_intro (by first | exact rfl | fail) ?_)
  refine (span0 14 (by decide) _).mono ?_
  rintro v h' ⟨rfl, rfl⟩
  refine Box.mk ?_
  repeat (refine need_intro (by first | exact rfl | fail) ?_)
  refine (span0 15 (by decide) _).mono ?_
  rintro v h' ⟨rfl, rfl⟩
  refine Box.mk ?_
  exact ⟨⟨rfl, rfl⟩, rfl, trivial⟩
set_option maxRecDepth 100000 in
theorem check0 (a : Int) (n b : Int) (h1 : 1 ≤ n) (h8 : n ≤ 8) (b1 : 1 ≤ b) (b7 : b ≤ 7) (h : List Blk) : Does TB 140 [.agg zpmp, .s (.int .i64 3), .s (.int .u64 a), .s (.int .i64 n), .s (.int .i64 b)] h (fun v h' => v = .s (.bool true) ∧ h' = h) := by
  refine fnX_pure TB Tryz.func140 rfl (by decide) rfl _ rfl (fun O on => ?_) h
  repeat (refine need_intro (by first | exact fun h => h | exact nt | exact an2 | exact an3 | rfl | (simp; done) | fail) ?_)
  have g0 : decide (n < 1) = false := decide_eq_false (by omega)
  have g1 : decide (n > 8) = false := decide_eq_false (by omega)
  have g2 : decide (b < 1) = false := decide_eq_false (by omega)
  have g3 : decide (b > 7) = false := decide_eq_false (by omega)
  refine ifB_intro (fun g => by exfalso; rw [g0, g1, g2, g3] at g; cases g) (fun _ => ?_)
  repeat (refine need_intro (by first | exact rfl | fail) ?_)
  refine (properP0 _).mono ?_
  rintro v h' ⟨rfl, rfl⟩
  repeat (refine need_intro (by first | exact rfl | fail) ?_)
  refine (match0 a n h1 h8 _).mono ?_
  rintro v h' ⟨rfl, rfl⟩
  exact rfl
end Go.Proofs.YtdlpmbghocabbaaGreatDoor

/- A small bus: eight bytes of RAM, all else as it begins. Contracts of functions. -/
namespace Go.Anv
open Go
/-- How a small bus lies: rooms of its lists; what stands behind their ends. -/
structure Small where
  cr : Nat
  ci : Nat
  co : Nat
  fi : Nat → Int
  fo : Nat → Int
def ramF : Nat → Int := litF [147, 0, 16, 0, 147, 128, 16, 0]
def bus0 (lock : Int) (r i o : SV) : List Seg :=
  [.one r, .one (.int .i64 0), .one (.int .i64 0), .one (.int .u32 0), .one (.int .u64 0), .one (.int .u64 0), .one (.int .i32 lock), .one (.int .u32 0), .one i, .one o,
    .one (.int .u8 0), .one (.int .u8 0), .one (.int .u8 0), .one (.int .u8 0), .one (.bool false), .one (.bool false), .one (.bool false)]
def Small.ram (x : Small) : Blk := .cells true [.ints .u8 8 ramF] (x.cr - 8)
def Small.inp (x : Small) : Blk := .cells true [.ints .u8 0 x.fi] x.ci
def Small.out (x : Small) : Blk := .cells true [.ints .u8 0 x.fo] x.co
def Small.bus (x : Small) (lock : Int) : Blk := .cells true (bus0 lock (.gs 1 0 8 x.cr) (.gs 2 0 0 x.ci) (.gs 3 0 0 x.co)) 0
def Small.h (x : Small) : List Blk := [x.bus 0, x.ram, x.inp, x.out]
/-- Behind what came in. -/
def Small.h2 (x : Small) (c : Nat) (f g : Nat → Int) : List Blk := [.cells true (bus0 0 (.gs 1 0 8 x.cr) (.gs 5 0 0 c) (.gs 3 0 0 x.co)) 0, x.ram, .dead, x.out, .cells true [.ints .u8 0 g] 0, .cells true [.ints .u8 0 f] c]
def Small.l (x : Small) : List Blk := [x.bus 1, x.ram, x.inp, x.out]
end Go.Anv
namespace Go.Proofs.YtdlpmbghocabbaaGreatDoor
open Go Go.Anv
set_option maxRecDepth 100000 in
theorem off0 (x : Small) : Does TB 69 [.s (.ptr 0 0)] x.h (fun v h' => v = .tuple [.s (.int .i64 0), .s (.int .i64 0)] ∧ h' = x.h) := by
  refine fnX_does TB Tryz.func69 rfl (by decide) (fun O on hO => ?_)
  refine draw_held on rfl (fun _ _ h => h) ?_
  repeat (refine need_intro (by first | exact fun h => h | exact nt | exact an2 | exact an3 | rfl | (simp; done) | fail) ?_)
  exact Ends.ro (H := x.h) rfl (eqvE_refl _) rfl
set_option maxRecDepth 100000 in
theorem raised0 (x : Small) : Does TB 192 [.s (.ptr 0 6)] x.l (fun v h' => v = .s (.bool false) ∧ h' = x.l) := by
  refine fnX_does TB Tryz.func192 rfl (by decide) (fun O on hO => ?_)
  repeat (refine need_intro (by first | exact fun h => h | exact nt | exact an2 | exact an3 | rfl | (simp; done) | fail) ?_)
  exact Ends.ro (H := x.l) rfl (eqvE_refl _) rfl
set_option maxRecDepth 100000 in
theorem up0 (x : Small) : Does TB 120 [.s (.ptr 0 6)] x.h (fun v h' => v = .s (.bool false) ∧ h' = x.h) := by
  refine fnXD_does TB Tryz.func120 rfl (by decide) (fun O on hO => ?_)
  refine (lock_spec (b := 0) (o := 6) rfl rfl rfl).mono ?_
  rintro _ h' ⟨rfl, hh⟩
  have hh : h' = x.l := hh
  subst hh
  refine ⟨⟨_, _, _, rfl⟩, fun O' on' hO' hle => ?_⟩
  refine Does.atc (raised0 x) [0, 1, 2, 3] rfl ⟨rfl, rfl, rfl, rfl, trivial⟩ (by decide) ?_
  repeat (refine need_intro (by first | exact fun h => h | exact nt | exact an2 | exact an3 | rfl | (simp; done) | fail) ?_)
  refine (unlock_spec (b := 0) (o := 6) rfl rfl rfl).mono ?_
  rintro _ h' ⟨_, hh⟩
  have hh : h' = x.h := hh
  subst hh
  exact Ends.ro (H := x.h) rfl (eqvE_refl _) rfl
set_option maxRecDepth 100000 in
theorem mip0 (x : Small) : Does TB 96 [.s (.ptr 0 0)] x.h (fun v h' => v = .s (.int .u64 128) ∧ h' = x.h) := by
  refine fnX_does TB Tryz.func96 rfl (by decide) (fun O on hO => ?_)
  repeat (refine need_intro (by first | exact fun h => h | exact nt | exact an2 | exact an3 | rfl | (simp; done) | fail) ?_)
  refine draw_held on rfl (fun _ _ h => h) ?_
  repeat (refine need_intro (by first | exact fun h => h | exact nt | exact an2 | exact an3 | rfl | (simp; done) | fail) ?_)
  refine Does.ungd (b := [_]) ⟨⟨rfl, rfl⟩, trivial⟩ ?_
  refine Does.atc (up0 x) [0, 1, 2, 3] rfl ⟨rfl, rfl, rfl, rfl, trivial⟩ (by decide) ?_
  repeat (refine need_intro (by first | exact fun h => h | exact nt | exact an2 | exact an3 | rfl | (simp; done) | fail) ?_)
  exact Ends.ro (H := x.h) rfl (eqvE_refl _) rfl
set_option maxRecDepth 100000 in
theorem join0 (x : Small) (g : Nat → Int) : Does TB 103 [.s (.ptr 0 6), .s (.gs 4 0 0 0)] (x.h ++ [.cells true [.ints .u8 0 g] 0]) (fun v h' => ∃ c f, v = .tuple [] ∧ h' = [.cells true (bus0 0 (.gs 1 0 8 x.cr) (.gs 5 0 0 c) (.gs 3 0 0 x.co)) 0, x.ram, .dead, x.out, .cells true [.ints .u8 0 g] 0, .cells true [.ints .u8 0 f] c]) := by
  refine fnXD_does TB Tryz.func103 rfl (by decide) (fun O on hO => ?_)
  refine (lock_spec (b := 0) (o := 6) rfl rfl rfl).mono ?_
  rintro _ h' ⟨rfl, hh⟩
  have hh : h' = x.l ++ [.cells true [.ints .u8 0 g] 0] := hh
  subst hh
  refine ⟨⟨_, _, _, rfl⟩, fun O' on' hO' hle => ?_⟩
  repeat (refine need_intro (by first | exact fun h => h | exact nt | exact an2 | exact an3 | rfl | (simp; done) | fail) ?_)
  refine draw_free on' rfl (fun _ _ h => h) ?_
  repeat (refine need_intro (by first | (decide) | exact fun h => h | exact nt | exact an2 | exact an3 | rfl | (simp; done) | fail) ?_)
  refine need_intro ⟨(show (0 : Nat) + (0 - 0) ≤ 0 by decide), rfl, by show x.ci * 1 = 0 * 1 + x.ci; omega, room5 _ (show (0 : Nat) ≤ 140737488355328 by decide)⟩ ?_
  intro c hc
  repeat (refine need_intro (by first | (decide) | exact fun h => h | exact nt | exact an2 | exact an3 | rfl | (simp; done) | fail) ?_)
  refine (unlock_spec (b := 0) (o := 6) rfl rfl rfl).mono ?_
  rintro _ h' ⟨_, hh⟩
  have hh : h' = [.cells true (bus0 0 (.gs 1 0 8 x.cr) (.gs 5 0 0 c) (.gs 3 0 0 x.co)) 0, x.ram, .dead, x.out, .cells true [.ints .u8 0 g] 0, .cells true [.ints .u8 0 (catF 0 x.fi (shf 0 g))] (c * 1)] := hh
  rw [Nat.mul_one] at hh
  subst hh
  exact ⟨_, _, [0, 1, 2, 3, 4, 5], ⟨c, _, rfl, rfl⟩, by decide, ⟨rfl, rfl, rfl, rfl, rfl, trivial⟩, trivial, ⟨⟨_, rfl, eqvB_refl _⟩, ⟨_, rfl, eqvB_refl _⟩, ⟨_, rfl, eqvB_refl _⟩, ⟨_, rfl, eqvB_refl _⟩, ⟨_, rfl, eqvB_refl _⟩, ⟨_, rfl, eqvB_refl _⟩, trivial⟩⟩
set_option maxRecDepth 100000 in
theorem begin0 (x : Small) (g : Nat → Int) : Does TB 71 [.s (.ptr 0 0), .agg [.one (.bool false), .one (.bool false), .one (.bool false), .one (.gs 4 0 0 0)]] (x.h ++ [.cells true [.ints .u8 0 g] 0]) (fun v h' => ∃ c f, v = .tuple [] ∧ h' = x.h2 c f g) := by
  refine fnX_does TB Tryz.func71 rfl (by decide) (fun O on hO => ?_)
  repeat (refine need_intro (by first | exact fun h => h | exact nt | exact an2 | exact an3 | rfl | (simp; done) | fail) ?_)
  refine draw_free on rfl (fun _ _ h => h) ?_
  repeat (refine need_intro (by first | exact fun h => h | exact nt | exact an2 | exact an3 | rfl | (simp; done) | fail) ?_)
  refine Does.at (join0 x g) [0, 1, 2, 3, 4] rfl ⟨rfl, rfl, rfl, rfl, rfl, trivial⟩ (by decide) ?_ ?_
  · rintro v h' ⟨_, _, _, rfl⟩
    exact ⟨.inl rfl, .inr (.inr rfl), .inr (.inl rfl), .inr (.inr rfl), .inr (.inr rfl), .inl rfl, trivial⟩
  rintro v h' ⟨c, f, rfl, rfl⟩
  rw [forceH_eq, forceE_eq]
  repeat (refine need_intro (by first | exact fun h => h | exact nt | exact an2 | exact an3 | rfl | (simp; done) | fail) ?_)
  refine draw_but [0] on rfl (fun _ _ h => h) ?_
  repeat (refine need_intro (by first | exact fun h => h | exact nt | exact an2 | exact an3 | rfl | (simp; done) | fail) ?_)
  exact ⟨_, _, [0, 1, 2, 3, 4, 6], ⟨c, f, rfl, rfl⟩, by decide, ⟨rfl, rfl, rfl, rfl, rfl, trivial⟩, trivial, ⟨⟨_, rfl, eqvB_refl _⟩, ⟨_, rfl, eqvB_refl _⟩, ⟨_, rfl, eqvB_refl _⟩, ⟨_, rfl, eqvB_refl _⟩, ⟨_, rfl, eqvB_refl _⟩, ⟨_, rfl, eqvB_refl _⟩, trivial⟩⟩
set_option maxRecDepth 100000 in
theorem holds0 (x : Small) (a : Int) (ha : a = 2147483648 ∨ a = 2147483650) : Does TB 193 [.s (.ptr 0 0), .s (.int .u64 a), .s (.int .i64 2)] x.h (fun v h' => v = .s (.bool true) ∧ h' = x.h) := by
  refine fnX_does TB Tryz.func193 rfl (by decide) (fun O on hO => ?_)
  rcases ha with rfl | rfl
  all_goals
    repeat (refine need_intro (by first | exact fun h => h | exact nt | exact an2 | exact an3 | rfl | (simp; done) | fail) ?_)
    exact Ends.ro (H := x.h) rfl rfl rfl
set_option maxRecDepth 100000 in
theorem isRam0 (x : Small) (a : Int) (ha : a = 2147483648 ∨ a = 2147483650) : Does TB 121 [.s (.ptr 0 0), .s (.int .u64 a), .s (.int .i64 2)] x.h (fun v h' => v = .s (.bool true) ∧ h' = x.h) := by
  refine fnX_does TB Tryz.func121 rfl (by decide) (fun O on hO => ?_)
  repeat (refine need_intro (by first | exact fun h => h | exact nt | exact an2 | exact an3 | rfl | (simp; done) | fail) ?_)
  refine Does.ungd (b := [.s (.ptr 0 0), .s (.int .u64 a), .s (.int .i64 2)]) ⟨⟨rfl, rfl⟩, ⟨rfl, rfl⟩, ⟨rfl, rfl⟩, trivial⟩ ?_
  refine Does.atc (holds0 x a ha) [0, 1, 2, 3] rfl ⟨rfl, rfl, rfl, rfl, trivial⟩ (by decide) ?_
  repeat (refine need_intro (by first | exact fun h => h | exact nt | exact an2 | exact an3 | rfl | (simp; done) | fail) ?_)
  exact Ends.ro (H := x.h) rfl rfl rfl
set_option maxRecDepth 100000 in
theorem here0 (x : Small) (a : Int) (ha : a = 2147483648 ∨ a = 2147483650) : Does TB 284 [.s (.ptr 0 0), .s (.int .u64 a), .s (.int .i64 2)] x.h (fun v h' => v = .s (.bool true) ∧ h' = x.h) := by
  refine fnX_does TB Tryz.func284 rfl (by decide) (fun O on hO => ?_)
  have hm : (a.tmod (IntKind.u64.wrap 2) == 0) = true := by rcases ha with rfl | rfl <;> decide
  repeat (refine need_intro (by first | (decide) | exact fun h => h | exact nt | exact an2 | exact an3 | rfl | (simp; done) | fail) ?_)
  refine ifB_intro (fun _ => ?_) (fun h => absurd (hm.symm.trans h) (by decide))
  refine Does.ungd (b := [.s (.ptr 0 0), .s (.int .u64 a), .s (.int .i64 2)]) ⟨⟨hm, rfl⟩, ⟨hm, rfl⟩, ⟨hm, rfl⟩, trivial⟩ ?_
  refine Does.atc (holds0 x a ha) [0, 1, 2, 3] rfl ⟨rfl, rfl, rfl, rfl, trivial⟩ (by decide) ?_
  repeat (refine need_intro (by first | exact hm | exact fun h => h | exact nt | exact an2 | exact an3 | rfl | (simp; done) | fail) ?_)
  refine ⟨_, _, [0, 1, 2, 3], ⟨rfl, rfl⟩, by decide, ⟨rfl, rfl, rfl, rfl, trivial⟩, ?_, ⟨⟨_, rfl, eqvB_refl _⟩, ⟨_, rfl, eqvB_refl _⟩, ⟨_, rfl, eqvB_refl _⟩, ⟨_, rfl, eqvB_refl _⟩, trivial⟩⟩
  show (bif (a.tmod (IntKind.u64.wrap 2) == 0) then true else false) = true
  rw [hm]; rfl
/-- The devices' list. -/
def devsB : Blk := .cells true [.one (.iface 264 false [.ptr 0 0]), .one (.iface 269 false [.ptr 0 1]), .one (.iface 270 false [.ptr 0 3]), .one (.iface 154 false [.ptr 0 6])] 0
set_option maxRecDepth 100000 in
theorem devices0 (x : Small) : Does TB 211 [.s (.ptr 0 0)] x.h (fun v h' => v = .s (.slice 4 0 4 4) ∧ h' = x.h ++ [devsB]) := by
  refine fnX_does TB Tryz.func211 rfl (by decide) (fun O on hO => ?_)
  refine draw_held on rfl (fun _ _ h => h) ?_
  repeat (refine need_intro (by first | exact fun h => h | exact nt | exact an2 | exact an3 | rfl | (simp; done) | fail) ?_)
  exact ⟨_, _, [0, 1, 2, 3, 4], ⟨rfl, rfl⟩, by decide, ⟨rfl, rfl, rfl, rfl, trivial⟩, eqvE_refl _, ⟨⟨_, rfl, eqvB_refl _⟩, ⟨_, rfl, eqvB_refl _⟩, ⟨_, rfl, eqvB_refl _⟩, ⟨_, rfl, eqvB_refl _⟩, ⟨_, rfl, eqvB_refl _⟩, trivial⟩⟩
set_option maxRecDepth 100000 in
theorem at0 (x : Small) (a : Int) (ha : a = 2147483648 ∨ a = 2147483650) : Does TB 142 [.s (.ptr 0 0), .s (.int .u64 a), .s (.int .i64 2)] x.h (fun v h' => v = .s (.iface 264 false [.ptr 0 0]) ∧ h' = x.h) := by
  refine fnX_does TB Tryz.func142 rfl (by decide) (fun O on hO => ?_)
  refine Does.at (devices0 x) [0, 1, 2, 3] rfl ⟨rfl, rfl, rfl, rfl, trivial⟩ (by decide) ?_ ?_
  · rintro v h' ⟨_, rfl⟩
    exact ⟨.inr (.inr rfl), .inr (.inr rfl), .inr (.inr rfl), .inr (.inr rfl), .inl rfl, trivial⟩
  rintro v h' ⟨rfl, rfl⟩
  rw [forceH_eq, forceE_eq]
  repeat (refine need_intro (by first | exact fun h => h | exact nt | exact an2 | exact an3 | rfl | (simp; done) | fail) ?_)
  refine loop_times on 1 ?_
  refine Box.mk ?_
  repeat (refine need_intro (by first | (decide) | exact fun h => h | exact nt | exact an2 | exact an3 | rfl | (simp; done) | fail) ?_)
  refine Does.atc (here0 x a ha) [0, 1, 2, 3] rfl ⟨rfl, rfl, rfl, rfl, trivial⟩ (by decide) ?_
  repeat (refine need_intro (by first | exact fun h => h | exact nt | exact an2 | exact an3 | rfl | (simp; done) | fail) ?_)
  exact ⟨_, _, [0, 1, 2, 3], ⟨rfl, rfl⟩, by decide, ⟨rfl, rfl, rfl, rfl, trivial⟩, eqvE_refl _, ⟨⟨_, rfl, eqvB_refl _⟩, ⟨_, rfl, eqvB_refl _⟩, ⟨_, rfl, eqvB_refl _⟩, ⟨_, rfl, eqvB_refl _⟩, trivial⟩⟩
set_option maxRecDepth 100000 in
theorem load0 (x : Small) (a : Int) (v : Int) (ha : a = 2147483648 ∧ v = 147 ∨ a = 2147483650 ∧ v = 16) : Does TB 285 [.s (.ptr 0 0), .s (.int .u64 a), .s (.int .i64 2)] x.h (fun r h' => r = .s (.int .u64 v) ∧ h' = x.h) := by
  refine fnX_does TB Tryz.func285 rfl (by decide) (fun O on hO => ?_)
  rcases ha with ⟨rfl, rfl⟩ | ⟨rfl, rfl⟩
  all_goals
    repeat (refine need_intro (by first | exact fun h => h | exact nt | exact an2 | exact an3 | rfl | (simp; done) | fail) ?_)
    refine loop_times on 3 ?_
    repeat (first | refine Box.mk ?_ | refine need_intro (by first | decide | fail) ?_)
    refine ⟨_, _, [0, 1, 2, 3], ⟨rfl, rfl⟩, by decide, ⟨rfl, rfl, rfl, rfl, trivial⟩, ?_, ⟨⟨_, rfl, eqvB_refl _⟩, ⟨_, rfl, eqvB_refl _⟩, ⟨_, rfl, eqvB_refl _⟩, ⟨_, rfl, eqvB_refl _⟩, trivial⟩⟩
    exact ⟨rfl, by decide⟩
set_option maxRecDepth 100000 in
theorem busLoad0 (x : Small) (a : Int) (v : Int) (ha : a = 2147483648 ∧ v = 147 ∨ a = 2147483650 ∧ v = 16) : Does TB 113 [.s (.ptr 0 0), .s (.int .u64 a), .s (.int .i64 2)] x.h (fun r h' => r = .tuple [.s (.int .u64 v), .s (.bool true)] ∧ h' = x.h) := by
  refine fnX_does TB Tryz.func113 rfl (by decide) (fun O on hO => ?_)
  refine Does.atc (at0 x a (by omega)) [0, 1, 2, 3] rfl ⟨rfl, rfl, rfl, rfl, trivial⟩ (by decide) ?_
  repeat (refine need_intro (by first | exact fun h => h | exact nt | exact an2 | exact an3 | rfl | (simp; done) | fail) ?_)
  refine Does.atc (load0 x a v ha) [0, 1, 2, 3] rfl ⟨rfl, rfl, rfl, rfl, trivial⟩ (by decide) ?_
  repeat (refine need_intro (by first | exact fun h => h | exact nt | exact an2 | exact an3 | rfl | (simp; done) | fail) ?_)
  exact Ends.ro (H := x.h) rfl (eqvE_refl _) rfl
end Go.Proofs.YtdlpmbghocabbaaGreatDoor

/- The bus: which device stands where an access goes. Contracts of functions. -/
namespace Go.Anv
open Go
inductive Who
  | ram
  | fin
  | clint
  | uart
def BusV.who (s : BusV) (a : B64) (n : Nat) : Option Who := if s.inRam a n = true then some .ram else if finAt a n = true then some .fin else if clintAt a n = true then some .clint else if uartAt a n = true then some .uart else none
end Go.Anv
namespace Go.Proofs.YtdlpmbghocabbaaGreatDoor
open Go Go.Anv
def whoE : Option Who → EV
  | some .ram => .s (.iface 264 false [.ptr 0 0])
  | some .fin => .s (.iface 269 false [.ptr 0 1])
  | some .clint => .s (.iface 270 false [.ptr 0 3])
  | some .uart => .s (.iface 154 false [.ptr 0 6])
  | none => .s .niliface
set_option maxRecDepth 100000 in
theorem busDevices (d : Dev) : Does TB 211 [.s (.ptr 0 0)] d.h (fun v h' => v = .s (.slice 4 0 4 4) ∧ h' = d.h ++ [devsB]) := by
  refine fnX_does TB Tryz.func211 rfl (by decide) (fun O on hO => ?_)
  refine draw_held on rfl (fun _ _ h => h) ?_
  repeat (refine need_intro (by first | exact fun h => h | exact nt | exact an2 | exact an3 | rfl | (simp; done) | fail) ?_)
  exact ⟨_, _, [0, 1, 2, 3, 4], ⟨rfl, rfl⟩, by decide, ⟨rfl, rfl, rfl, rfl, trivial⟩, eqvE_refl _, ⟨⟨_, rfl, eqvB_refl _⟩, ⟨_, rfl, eqvB_refl _⟩, ⟨_, rfl, eqvB_refl _⟩, ⟨_, rfl, eqvB_refl _⟩, ⟨_, rfl, eqvB_refl _⟩, trivial⟩⟩
set_option maxRecDepth 100000 in
theorem busAt (d : Dev) (a : B64) (n : Nat) (hn : n ≤ 9223372036854775807) (hr : d.s.nr ≤ 65536) : Does TB 142 [.s (.ptr 0 0), .s (.int .u64 a.toNat), .s (.int .i64 n)] d.h (fun v h' => v = whoE (d.s.who a n) ∧ h' = d.h) := by
  refine fnX_does TB Tryz.func142 rfl (by decide) (fun O on hO => ?_)
  refine Does.atn (busDevices d) [0, 1, 2, 3] rfl ⟨rfl, rfl, rfl, rfl, trivial⟩ (by decide) ?_ ?_
  · rintro v h' ⟨_, rfl⟩
    exact ⟨.inr (.inr rfl), .inr (.inr rfl), .inr (.inr rfl), .inr (.inr rfl), .inl rfl, trivial⟩
  rintro v h' ⟨rfl, rfl⟩
  repeat (refine need_intro (by first | exact fun h => h | exact nt | exact an2 | exact an3 | rfl | (simp; done) | fail) ?_)
  unfold BusV.who
  refine loop_times on 5 ?_
  refine Box.mk ?_
  repeat (refine need_intro (by first | (decide) | exact fun h => h | exact nt | exact an2 | exact an3 | rfl | (simp; done) | fail) ?_)
  refine Does.atc (ramHere d a n hn hr) [0, 1, 2, 3] rfl ⟨rfl, rfl, rfl, rfl, trivial⟩ (by decide) ?_
  refine ifB_intro (fun g => ?_) (fun g => ?_)
  · rw [if_pos g]
    repeat (refine need_intro (by first | exact fun h => h | exact nt | exact an2 | exact an3 | rfl | (simp; done) | fail) ?_)
    exact Ends.ro (H := d.h) rfl (eqvE_refl _) rfl
  · rw [if_neg (by rw [g]; decide)]
    repeat (first | refine Box.mk ?_ | refine need_intro (by first | decide | rfl | fail) ?_)
    refine Does.atc (finHere d a n) [0, 1, 2, 3] rfl ⟨rfl, rfl, rfl, rfl, trivial⟩ (by decide) ?_
    refine ifB_intro (fun g => ?_) (fun g => ?_)
    · rw [if_pos g]
      repeat (refine need_intro (by first | exact fun h => h | exact nt | exact an2 | exact an3 | rfl | (simp; done) | fail) ?_)
      exact Ends.ro (H := d.h) rfl (eqvE_refl _) rfl
    · rw [if_neg (by rw [g]; decide)]
      repeat (first | refine Box.mk ?_ | refine need_intro (by first | decide | rfl | fail) ?_)
      refine Does.atc (clintHere d a n) [0, 1, 2, 3] rfl ⟨rfl, rfl, rfl, rfl, trivial⟩ (by decide) ?_
      refine ifB_intro (fun g => ?_) (fun g => ?_)
      · rw [if_pos g]
        repeat (refine need_intro (by first | exact fun h => h | exact nt | exact an2 | exact an3 | rfl | (simp; done) | fail) ?_)
        exact Ends.ro (H := d.h) rfl (eqvE_refl _) rfl
      · rw [if_neg (by rw [g]; decide)]
        repeat (first | refine Box.mk ?_ | refine need_intro (by first | decide | rfl | fail) ?_)
        refine Does.atc (uartHere d a n) [0, 1, 2, 3] rfl ⟨rfl, rfl, rfl, rfl, trivial⟩ (by decide) ?_
        refine ifB_intro (fun g => ?_) (fun g => ?_)
        · rw [if_pos g]
          repeat (refine need_intro (by first | exact fun h => h | exact nt | exact an2 | exact an3 | rfl | (simp; done) | fail) ?_)
          exact Ends.ro (H := d.h) rfl (eqvE_refl _) rfl
        · rw [if_neg (by rw [g]; decide)]
          repeat (first | refine Box.mk ?_ | refine need_intro (by first | decide | rfl | fail) ?_)
          exact Ends.ro (H := d.h) rfl (eqvE_refl _) rfl
end Go.Proofs.YtdlpmbghocabbaaGreatDoor
