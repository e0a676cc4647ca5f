/- The engine, part 13: functions that defer one call. Plain theorems; their condition: the deferred call is a function's that ends well. -/
import Derived.Test.YtghcdkpgcanpgaaE12
import Derived.Defers
namespace Go.Anv
open Go

/-! ### the same numbers -/

section same
variable {ρ : Nat → Nat} (hρ : ∀ i, ρ i = i)
include hρ
mutual
theorem renV_same : ∀ e : SV, renV ρ e = e
  | .ptr .. => by simp only [renV, hρ]
  | .pix .. => by simp only [renV, hρ]
  | .slice .. => by simp only [renV, hρ]
  | .gs .. => by simp only [renV, hρ]
  | .map _ => by simp only [renV, hρ]
  | .func fn f c => by simp only [renV, renL_same f, renL_same c]
  | .iface t a cs => by simp only [renV, renL_same cs]
  | .junk => rfl
  | .int .. => rfl
  | .bool _ => rfl
  | .str _ => rfl
  | .nilptr => rfl
  | .nilslice => rfl
  | .nilmap => rfl
  | .nilfunc => rfl
  | .niliface => rfl
theorem renL_same : ∀ l : List SV, renL ρ l = l
  | [] => by
    have _ := hρ
    rfl
  | e :: r => by simp only [renL, renV_same e, renL_same r]
end

theorem renS_same : ∀ cs : List Seg, renS ρ cs = cs
  | [] => rfl
  | .one e :: r => by simp only [renS, renV_same hρ e, renS_same r]
  | .ints .. :: r => by simp only [renS, renS_same r]

mutual
theorem renE_same : ∀ e : EV, renE ρ e = e
  | .s e => by simp only [renE, renV_same hρ e]
  | .agg cs => by simp only [renE, renS_same hρ cs]
  | .tuple vs => by simp only [renE, renT_same vs]
  | .gd g e => by simp only [renE, renE_same e]
  | .junk => rfl
theorem renT_same : ∀ l : List EV, renT ρ l = l
  | [] => by
    have _ := hρ
    rfl
  | e :: r => by simp only [renT, renE_same e, renT_same r]
end

theorem renM_same : ∀ l : List (SV × List Seg), renM ρ l = l
  | [] => rfl
  | (k, cs) :: r => by simp only [renM, renV_same hρ k, renS_same hρ cs, renM_same r]

theorem renB_same : ∀ B : Blk, renB ρ B = B
  | .cells m cs sp => by simp only [renB, renS_same hρ cs]
  | .map es => by simp only [renB, renM_same hρ es]
  | .dead => rfl

theorem renH_same : ∀ h : List Blk, renH ρ h = h
  | [] => rfl
  | B :: r => by simp only [renH, renB_same hρ B, renH_same r]
end same

theorem lk_range (n i : Nat) : lk (List.range n) n i = i := by
  rcases Nat.lt_or_ge i n with h | h
  · rw [look_lt _ _ i (by simpa using h)]
    simp
  · rw [look_ge _ _ i (by simpa using h)]
    simp
    omega

theorem idK_range : ∀ (n m k : Nat), n ≤ m → idK k n (List.range' k m)
  | 0, _, _, _ => trivial
  | n + 1, 0, _, h => by omega
  | n + 1, m + 1, k, h => ⟨rfl, idK_range n m (k + 1) (by omega)⟩

theorem subQ_range (h : List Blk) : ∀ (r : List Blk) (k : Nat), h.drop k = r → subQ h (List.range' k r.length) r
  | [], _, _ => trivial
  | B :: r, k, hk => by
    have h1 : h[k]? = some B := by
      have := congrArg (·[0]?) hk
      simpa using this
    refine ⟨⟨B, get_nthB h1, eqvB_refl B⟩, subQ_range h r (k + 1) ?_⟩
    have := congrArg (List.drop 1) hk
    simpa [List.drop_drop] using this

/-- A function's end, with the numbers as they are. -/
theorem Ends.same {n : Nat} {Q : EV → List Blk → Prop} {v : EV} {h : List Blk} (hq : Q v h) (hn : n ≤ h.length) : Ends n Q v h := by
  have hlk : ∀ i, lk (List.range h.length) h.length i = i := lk_range h.length
  refine ⟨v, h, List.range h.length, hq, List.nodup_range, by rw [List.range_eq_range']; exact idK_range n h.length 0 hn, ?_, ?_⟩
  · rw [renE_same hlk]; exact eqvE_refl v
  · rw [renH_same hlk, List.range_eq_range']
    exact subQ_range h h 0 rfl

/-- A function that may be called by a defer. -/
structure DoesD (T : Tbl) (f : FuncId) (args : List EV) (h : List Blk) (Q : EV → List Blk → Prop) : Prop where
  go : isFn T f ∧ ∀ E w vs u, Sim E h w → denT E args vs.toList → CallsD T.P f vs u w fun e u' w' => u' = u ∧ Post E h w Q e w'

theorem DoesD.mono {T : Tbl} {f : FuncId} {args : List EV} {h : List Blk} {Q Q' : EV → List Blk → Prop} (c : DoesD T f args h Q) (hq : ∀ v h', Q v h' → Q' v h') : DoesD T f args h Q' :=
  ⟨c.go.1, fun E w vs u S ha => (c.go.2 E w vs u S ha).mono fun _ _ _ p => ⟨p.1, p.2.mono hq⟩⟩

theorem fnX_callD (T : Tbl) {f : FuncId} {F : Func} (hF : T.P.funcs[f]? = some F) {args : List EV} {h : List Blk} {Q : EV → List Blk → Prop}
    (hX : ∀ E w, Sim E h w → fnX T ⟨E, h, w, []⟩ F args h Q) : ∀ E w vs u, Sim E h w → denT E args vs.toList → CallsD T.P f vs u w fun e u' w' => u' = u ∧ Post E h w Q e w' := by
  intro E w vs u S hargs
  have hx := hX E w S
  unfold fnX at hx
  split at hx
  · rename_i c hc
    rw [frameK_eq] at hx
    refine callsD_of_wp hF hc ?_
    have hlen : vs.size = args.length := by rw [← Array.length_toList]; exact denT_length hargs
    have R : Rel ⟨E, h, w, []⟩ E { tmps := args ++ junks (F.ntmps - args.length), heap := h } { tmps := vs ++ Array.replicate (F.ntmps - vs.size) undef, defers := [] } w := by
      refine ⟨⟨by simp [length_junks, hlen], fun i v hi => ?_⟩, rfl, S, Since.refl _ _ _⟩
      rw [nth_append_junks]
      split
      · rename_i hlt
        rw [Array.getElem?_append_left (by omega)] at hi
        exact denT_nth hargs (by simpa using hi)
      · simp only [denE]
    refine Code.wp_mono ?_ (wpx_snd (T := T) (O := ⟨E, h, w, []⟩) S.n c hx R)
    rintro e a' w' ⟨E', s', hk, R'⟩
    cases e <;> first
      | (obtain ⟨u, v, h1, h2, h3⟩ := resX_snd T R'.fr R'.sim hk
         exact ⟨R'.df, u, h1, u, v, s'.heap, E', rfl, h2, R'.sim, R'.sin, h3⟩)
      | exact hk.elim
  · exact hx.elim

/-- **A function whose body is walked over a small heap, for a defer.** -/
theorem fnX_doesD (T : Tbl) {f : FuncId} {F : Func} (hF : T.P.funcs[f]? = some F) (hb : F.body.isNone = false) (hname : (F.name == "runtime.NumGoroutine") = false) {args : List EV} {h : List Blk} {Q : EV → List Blk → Prop}
    (hX : ∀ O : Org, O.E.n = O.h.length → O.E.n = h.length → fnX T O F args h (Ends h.length Q)) : DoesD T f args h Q := by
  refine ⟨⟨F, hF, hb, hname⟩, fun E w vs u S ha => ?_⟩
  have c := fnX_callD T hF (args := args) (h := h) (Q := Ends h.length Q) (fun E w S => hX _ S.n S.n) E w vs u S ha
  refine c.mono ?_
  rintro e u' w' ⟨hu, v, x, h', E', rfl, hd, S', N', V, H, κ, hq, hnd, hid, hv, hh⟩
  obtain ⟨S'', h1, h2, h3⟩ := S'.renum hnd hh
  refine ⟨hu, v, V, H, _, rfl, ?_, S'', N'.renum S.n S' hnd (by rw [S.n]; exact hid) hh, hq⟩
  exact (denE_ren (E := ⟨H.length, fun i => E'.f (lk κ h'.length i)⟩) h1 (fun b hb => ⟨h2 b hb, rfl⟩) _ _).1 (eqvE_den _ _ _ hv hd)

/-- The operations ahead of a defer that stands last; what is deferred. -/
def lastD : List Oper → Option (List Oper × Operand × Array Operand)
  | [] => none
  | [o] => match o.guard, o.dst, o.op with
    | none, none, .defer { callee := .value f, args, .. } => some ([], f, args)
    | _, _, _ => none
  | o :: r => match lastD r with
    | some (p, f, a) => some (o :: p, f, a)
    | none => none

def normK (next : St → Prop) : Exit → St → Prop
  | .normal, s => next s
  | _, _ => False

/-- The walk as far as a defer; the code behind it. -/
def wpd (T : Tbl) (O : Org) (c : Code) : St → (St → EV → List EV → Code → Prop) → Prop :=
  Code.rec (motive := fun _ => St → (St → EV → List EV → Code → Prop) → Prop)
    (fun _ _ => False)
    (fun _ _ _ _ _ => False)
    (fun a b _ wb s k => match a with
      | .region id ops false => match lastD ops.toList with
        | some (pre, f, args) => opsX T ops pre s fun s' => k s' (evT s'.tmps f) (args.toList.map (evT s'.tmps)) b
        | none => wpx T O (.region id ops false) s (normK fun s' => wb s' k)
      | a => wpx T O a s (normK fun s' => wb s' k))
    (fun _ _ _ _ _ _ _ => False)
    (fun _ _ _ _ _ => False)
    (fun _ _ _ _ => False)
    (fun _ _ _ _ _ _ _ _ => False)
    (fun _ _ _ => False)
    (fun _ _ _ _ => False)
    (fun _ _ _ => False)
    (fun _ _ _ => False)
    (fun _ _ => False)
    (fun _ _ _ => False)
    c

theorem wpd_seq (T : Tbl) (O : Org) (a b : Code) (s : St) (k : St → EV → List EV → Code → Prop) : wpd T O (.seq a b) s k = (match a with
    | .region id ops false => match lastD ops.toList with
      | some (pre, f, args) => opsX T ops pre s fun s' => k s' (evT s'.tmps f) (args.toList.map (evT s'.tmps)) b
      | none => wpx T O (.region id ops false) s (normK fun s' => wpd T O b s' k)
    | a => wpx T O a s (normK fun s' => wpd T O b s' k)) := rfl

theorem lastD_spec : ∀ {l pre : List Oper} {f : Operand} {args : Array Operand}, lastD l = some (pre, f, args) → ∃ o tys, l = pre ++ [o] ∧ o.guard = none ∧ o.dst = none ∧ o.op = .defer { callee := .value f, args := args, argTypes := tys }
  | [], _, _, _, h => by simp [lastD] at h
  | [o], pre, f, args, h => by
    simp only [lastD] at h
    split at h
    · rename_i f' args' tys hg hd hop
      simp only [Option.some.injEq, Prod.mk.injEq] at h
      obtain ⟨rfl, rfl, rfl⟩ := h
      exact ⟨o, tys, rfl, hg, hd, hop⟩
    · cases h
  | o :: o' :: r, pre, f, args, h => by
    simp only [lastD] at h
    split at h
    · rename_i p f' a' hr
      simp only [Option.some.injEq, Prod.mk.injEq] at h
      obtain ⟨rfl, rfl, rfl⟩ := h
      obtain ⟨x, tys, h1, h2⟩ := lastD_spec (l := o' :: r) hr
      exact ⟨x, tys, by rw [h1]; rfl, h2⟩
    · cases h

theorem opsX_append {T : Tbl} {O : Org} (on : O.E.n = O.h.length) {ops : Array Oper} {Q : Exit → Act → World → Prop} : ∀ (l l2 : List Oper) {E : Emb} {s : St} {a : Act} {w : World}, Rel O E s a w → ∀ {k : St → Prop}, opsX T ops l s k →
    (∀ E' s' a' w', k s' → Rel O E' s' a' w' → wpList T.P ops Q l2 a' w') → wpList T.P ops Q (l ++ l2) a w
  | [], _, _, _, _, _, R, _, hk, hn => hn _ _ _ _ hk R
  | o :: r, l2, _, _, _, _, R, k, hk, hn => by
    have hk : opX T ops _ o (fun s' => opsX T ops r s' k) := hk
    have := opX_snd on R hk (next := wpList T.P ops Q (r ++ l2)) (Q := Q) (fun E' s' a' w' h1 h2 => opsX_append on r l2 h2 h1 hn)
    rw [List.cons_append]
    unfold wpList
    split
    · rename_i hw; rw [if_pos hw] at this; exact .inl this
    · rename_i hw; rw [if_neg hw] at this; exact this

theorem wpd_snd {T : Tbl} {O : Org} (on : O.E.n = O.h.length) {Q : Exit → Act → World → Prop} {k : St → EV → List EV → Code → Prop}
    (hk : ∀ E s a w f args fv vs b, k s f args b → denE E f fv → denT E args vs → Rel O E s a w → ∀ d, (∀ P w', (Deferred.ofValue fv vs.toArray).run P w' = .ok d w') → Code.wp T.P b Q { a with defers := d :: a.defers } w) :
    ∀ (c : Code) {E : Emb} {s : St} {a : Act} {w : World}, wpd T O c s (fun s f args b => (∃ g x y, f = .s (.func g x y)) ∧ k s f args b) → Rel O E s a w → c.wp T.P Q a w := by
  have step : ∀ (x y : Code) {E : Emb} {s : St} {a : Act} {w : World} {n : St → Prop}, wpx T O x s (normK n) → Rel O E s a w → (∀ {E s a w}, n s → Rel O E s a w → y.wp T.P Q a w) → (Code.seq x y).wp T.P Q a w := by
    intro x y E s a w n hx R hy
    refine wp_seq (Code.wp_mono ?_ (wpx_snd on x hx R))
    rintro e a' w' ⟨E', s', h1, h2⟩
    cases e <;> first
      | exact hy h1 h2
      | exact h1.elim
  intro c
  induction c with
  | seq x y _ ihy =>
    intro E s a w h R
    rw [wpd_seq] at h
    split at h
    · rename_i id ops _ _
      split at h
      · rename_i pre f args hl
        obtain ⟨o, tys, h1, hg, hd, hop⟩ := lastD_spec hl
        refine wp_seq (wp_region_list ?_)
        rw [h1]
        refine opsX_append on pre [o] R h fun E' s' a' w' hk' R' => ?_
        obtain ⟨⟨g, x, z, hf⟩, hk'⟩ := hk'
        have hfd := ev_denE R'.fr f
        have hargs := denT_map (E := E') (evT s'.tmps) a'.eval args.toList (fun x _ => ev_denE R'.fr x)
        have hfv : ∃ x' z', a'.eval f = .func g x' z' := by
          have hf' : s'.ev f = .s (.func g x z) := hf
          rw [hf'] at hfd
          simp only [denE, denV] at hfd
          obtain ⟨x', z', h3, _⟩ := hfd
          exact ⟨x', z', h3⟩
        obtain ⟨x', z', hfv⟩ := hfv
        have hrun : ∀ P w', (Deferred.ofValue (a'.eval f) (args.toList.map a'.eval).toArray).run P w' = .ok { target := .fn g z', args := x' ++ (args.toList.map a'.eval).toArray } w' := fun P w' => by
          rw [hfv]; rfl
        have hwp := hk E' s' a' w' _ _ _ _ _ hk' hfd hargs R' _ hrun
        unfold wpList
        rw [if_pos (by simp [Region.wanted, hg])]
        refine .inl ?_
        unfold Oper.wp
        have hex : (execOp a'.eval o).run T.P w' = .ok (.defer { target := .fn g z', args := x' ++ (args.toList.map a'.eval).toArray }) w' := by
          unfold execOp
          simp only [hop, resolve]
          rw [hfv, ← Array.toList_map, Array.toArray_toList]
          rfl
        rw [hex, Oper.upon_defer, hd]
        exact hwp
      · exact step _ _ h R fun h1 h2 => ihy h1 h2
    · exact step _ _ h R fun h1 h2 => ihy h1 h2
  | _ => intro E s a w h R; exact h.elim

/-- What comes behind the code: the deferred call, and what is handed back. -/
def bodyD (T : Tbl) (F : Func) (f : EV) (args : List EV) (Q : EV → List Blk → Prop) : Exit → St → Prop
  | .normal, s => match f with
    | .s (.func (.func g) [] []) => DoesD T g args s.heap fun _ h => resX T ⟨s.tmps, h⟩ F.results.toList Q
    | _ => False
  | .ret, s => match f with
    | .s (.func (.func g) [] []) => DoesD T g args s.heap fun _ h => resX T ⟨s.tmps, h⟩ F.results.toList Q
    | _ => False
  | _, _ => False

/-- A function's body that defers a call, walked. -/
def fnXD (T : Tbl) (O : Org) (F : Func) (args : List EV) (h : List Blk) (Q : EV → List Blk → Prop) : Prop :=
  match F.body with
  | some c => frameK args F.ntmps fun ts => wpd T O c ⟨ts, h⟩ fun s f dargs rest => (∃ g x y, f = .s (.func g x y)) ∧ ∀ O' : Org, O'.E.n = O'.h.length → O'.E.n = s.heap.length → O.E.n ≤ O'.E.n → wpx T O' rest s (bodyD T F f dargs Q)
  | none => False

theorem fnXD_call (T : Tbl) {f : FuncId} {F : Func} (hF : T.P.funcs[f]? = some F) {args : List EV} {h : List Blk} {Q : EV → List Blk → Prop}
    (hX : ∀ E w, Sim E h w → fnXD T ⟨E, h, w, []⟩ F args h Q) : CallG T f args h Q := by
  intro E w vs S hargs
  have hx := hX E w S
  unfold fnXD at hx
  split at hx
  · rename_i c hc
    rw [frameK_eq] at hx
    refine calls_of_wp_defers hF hc ?_
    have hlen : vs.size = args.length := by rw [← Array.length_toList]; exact denT_length hargs
    have R : Rel ⟨E, h, w, []⟩ E { tmps := args ++ junks (F.ntmps - args.length), heap := h } { tmps := vs ++ Array.replicate (F.ntmps - vs.size) undef, defers := [] } w := by
      refine ⟨⟨by simp [length_junks, hlen], fun i v hi => ?_⟩, rfl, S, Since.refl _ _ _⟩
      rw [nth_append_junks]
      split
      · rename_i hlt
        rw [Array.getElem?_append_left (by omega)] at hi
        exact denT_nth hargs (by simpa using hi)
      · simp only [denE]
    refine wpd_snd (O := ⟨E, h, w, []⟩) S.n ?_ c hx R
    intro E1 s1 a1 w1 fv0 dargs fv dvs rest hk hfd hdargs R1 d hd
    have hdf : a1.defers = [] := R1.df
    have hO := hk ⟨E1, s1.heap, w1, [d]⟩ R1.sim.n R1.sim.n (by have h1 := R1.sin.len; have h2 := S.n; have h3 := R1.sim.n; simp only at *; omega)
    have R1' : Rel ⟨E1, s1.heap, w1, [d]⟩ E1 s1 { a1 with defers := d :: a1.defers } w1 := ⟨R1.fr, by simp [hdf], R1.sim, Since.refl _ _ _⟩
    refine Code.wp_mono ?_ (wpx_snd (T := T) (O := ⟨E1, s1.heap, w1, [d]⟩) R1.sim.n rest hO R1')
    have key : ∀ E2 s2 a2 w2, (match fv0 with
        | .s (.func (.func g) [] []) => DoesD T g dargs s2.heap fun _ h => resX T ⟨s2.tmps, h⟩ F.results.toList Q
        | _ => False) → Rel ⟨E1, s1.heap, w1, [d]⟩ E2 s2 a2 w2 → Leaves T.P F a2.tmps (Post E h w Q) a2.defers .returning w2 := by
      intro E2 s2 a2 w2 hb R2
      have hdf2 : a2.defers = [d] := R2.df
      split at hb
      · rename_i g
        simp only [denE, denV, denL] at hfd
        obtain ⟨f', c', rfl, h1, h2⟩ := hfd
        have h1' : f' = #[] := Array.toList_eq_nil_iff.1 h1
        have h2' : c' = #[] := Array.toList_eq_nil_iff.1 h2
        subst h1' h2'
        have hdd : d = { target := .fn (.func g) #[], args := dvs.toArray } := by
          have h0 : (Deferred.ofValue (.func (.func g) #[] #[]) dvs.toArray).run T.P w = .ok { target := .fn (.func g) #[], args := #[] ++ dvs.toArray } w := rfl
          have := hd T.P w
          rw [h0, Array.empty_append] at this
          cases this
          rfl
        rw [hdf2, hdd]
        obtain ⟨hfn, hgo⟩ := hb.go
        obtain ⟨G, hG, hbody, hname⟩ := hfn
        have hle2 : E1.le E2 := R2.sin.le R1.sim.n R2.sim.n
        have hda : denT E2 dargs dvs := denT_mono hle2 _ _ hdargs
        refine leaves_cons (f := g) (args := dvs.toArray) (by simp) ?_ ?_
        · simp only [invoke, callFunc, Sem.run_bind, run_program, Result.andThen_ok, hG, Array.append_empty]
          simp [hbody]
          intro hh
          simp [hh] at hname
        · refine (hgo E2 w2 dvs.toArray .returning R2.sim (by simpa using hda)).mono ?_
          rintro e u' w3 ⟨rfl, v, x, h3, E3, rfl, _, S3, N3, hq⟩
          have hfr : frameOk E3 s2.tmps a2.tmps := frameOk_mono (N3.le R2.sim.n S3.n) R2.fr
          obtain ⟨u, v', k1, k2, k3⟩ := resX_snd T (s := ⟨s2.tmps, h3⟩) hfr S3 hq
          refine ⟨u, k1, u, v', h3, E3, rfl, k2, S3, ?_, k3⟩
          have n1 := R1.sin
          exact ((n1.trans S.n R1.sim.n R2.sin).trans S.n R2.sim.n N3)
      · exact hb.elim
    rintro e a2 w2 ⟨E2, s2, hb, R2⟩
    cases e <;> first
      | exact key E2 s2 a2 w2 hb R2
      | exact hb.elim
  · exact hx.elim

/-- **A function that defers a call, walked over a small heap.** -/
theorem fnXD_does (T : Tbl) {f : FuncId} {F : Func} (hF : T.P.funcs[f]? = some F) (hb : F.body.isNone = false) (hname : (F.name == "runtime.NumGoroutine") = false) {args : List EV} {h : List Blk} {Q : EV → List Blk → Prop}
    (hX : ∀ O : Org, O.E.n = O.h.length → O.E.n = h.length → fnXD T O F args h (Ends h.length Q)) : Does T f args h Q := by
  refine ⟨.inl ⟨⟨F, hF, hb, hname⟩, fun E w vs S ha => ?_⟩⟩
  have c := fnXD_call T hF (args := args) (h := h) (Q := Ends h.length Q) (fun E w S => hX _ S.n S.n) E w vs S ha
  refine c.mono ?_
  rintro e w' ⟨v, x, h', E', rfl, hd, S', N', V, H, κ, hq, hnd, hid, hv, hh⟩
  obtain ⟨S'', h1, h2, h3⟩ := S'.renum hnd hh
  refine ⟨v, V, H, _, rfl, ?_, S'', N'.renum S.n S' hnd (by rw [S.n]; exact hid) hh, hq⟩
  exact (denE_ren (E := ⟨H.length, fun i => E'.f (lk κ h'.length i)⟩) h1 (fun b hb => ⟨h2 b hb, rfl⟩) _ _).1 (eqvE_den _ _ _ hv hd)

end Go.Anv
