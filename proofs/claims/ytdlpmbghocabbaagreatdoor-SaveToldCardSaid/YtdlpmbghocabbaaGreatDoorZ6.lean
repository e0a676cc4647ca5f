/- Part 6 of the texts of this claim, merged: E13, B1, B2, B3, S1, C1, E20, E21, E15, E16, E17. No condition: plain theorems, contracts of functions. -/
import Derived.Test.YtdlpmbghocabbaaGreatDoorZ5
import Derived.Defers
import Derived.Laws.Externs
import Derived.KernelRfl

set_option linter.unusedSimpArgs false
set_option linter.unusedVariables false
/- The engine, part 13: functions that defer one call. Plain theorems; their condition: the deferred call is a function's that ends well. -/
namespace Go.Anv
open Go

/-! ### the same numbers -/

section same
variable {ρ : Nat → Nat} (hρ : ∀ i, ρ i = i)
include hρ
mutual
theorem renV_same : ∀ e : SV, renV ρ e = e
  | .ptr .. => by simp only [renV, hρ]
  | .pix .. => by simp only [renV, hρ]
  | .rp .. => by simp only [renV, hρ]
  | .slice .. => by simp only [renV, hρ]
  | .gs .. => by simp only [renV, hρ]
  | .map _ => by simp only [renV, hρ]
  | .func fn f c => by simp only [renV, renL_same f, renL_same c]
  | .iface t a cs => by simp only [renV, renL_same cs]
  | .junk => rfl
  | .int .. => rfl
  | .bool _ => rfl
  | .str _ => rfl
  | .nilptr => rfl
  | .nilslice => rfl
  | .nilmap => rfl
  | .nilfunc => rfl
  | .niliface => rfl
theorem renL_same : ∀ l : List SV, renL ρ l = l
  | [] => by
    have _ := hρ
    rfl
  | e :: r => by simp only [renL, renV_same e, renL_same r]
end

theorem renS_same : ∀ cs : List Seg, renS ρ cs = cs
  | [] => rfl
  | .one e :: r => by simp only [renS, renV_same hρ e, renS_same r]
  | .ints .. :: r => by simp only [renS, renS_same r]

mutual
theorem renE_same : ∀ e : EV, renE ρ e = e
  | .s e => by simp only [renE, renV_same hρ e]
  | .agg cs => by simp only [renE, renS_same hρ cs]
  | .tuple vs => by simp only [renE, renT_same vs]
  | .gd g e => by simp only [renE, renE_same e]
  | .junk => rfl
theorem renT_same : ∀ l : List EV, renT ρ l = l
  | [] => by
    have _ := hρ
    rfl
  | e :: r => by simp only [renT, renE_same e, renT_same r]
end

theorem renM_same : ∀ l : List (SV × EV), renM ρ l = l
  | [] => rfl
  | (k, cs) :: r => by simp only [renM, renV_same hρ k, renE_same hρ cs, renM_same r]

theorem renB_same : ∀ B : Blk, renB ρ B = B
  | .cells m cs sp => by simp only [renB, renS_same hρ cs]
  | .recs m n z f sp => by simp only [renB, renL_same hρ]
  | .map es => by simp only [renB, renM_same hρ es]
  | .dead => rfl

theorem renH_same : ∀ h : List Blk, renH ρ h = h
  | [] => rfl
  | B :: r => by simp only [renH, renB_same hρ B, renH_same r]
end same

theorem lk_range (n i : Nat) : lk (List.range n) n i = i := by
  rcases Nat.lt_or_ge i n with h | h
  · rw [look_lt _ _ i (by simpa using h)]
    simp
  · rw [look_ge _ _ i (by simpa using h)]
    simp
    omega

theorem idK_range : ∀ (n m k : Nat), n ≤ m → idK k n (List.range' k m)
  | 0, _, _, _ => trivial
  | n + 1, 0, _, h => by omega
  | n + 1, m + 1, k, h => ⟨rfl, idK_range n m (k + 1) (by omega)⟩

theorem subQ_range (h : List Blk) : ∀ (r : List Blk) (k : Nat), h.drop k = r → subQ h (List.range' k r.length) r
  | [], _, _ => trivial
  | B :: r, k, hk => by
    have h1 : h[k]? = some B := by
      have := congrArg (·[0]?) hk
      simpa using this
    refine ⟨⟨B, get_nthB h1, eqvB_refl B⟩, subQ_range h r (k + 1) ?_⟩
    have := congrArg (List.drop 1) hk
    simpa [List.drop_drop] using this

/-- A function's end, with the numbers as they are. -/
theorem Ends.same {n : Nat} {Q : EV → List Blk → Prop} {v : EV} {h : List Blk} (hq : Q v h) (hn : n ≤ h.length) : Ends n Q v h := by
  have hlk : ∀ i, lk (List.range h.length) h.length i = i := lk_range h.length
  refine ⟨v, h, List.range h.length, hq, List.nodup_range, by rw [List.range_eq_range']; exact idK_range n h.length 0 hn, ?_, ?_⟩
  · rw [renE_same hlk]; exact eqvE_refl v
  · rw [renH_same hlk, List.range_eq_range']
    exact subQ_range h h 0 rfl

theorem denT_svs {E : Emb} : ∀ {l : List SV} {vs : List Value}, denL E l vs → denT E (l.map .s) vs
  | [], vs, h => by simpa only [denL, denT, List.map_nil] using h
  | x :: r, vs, h => by
    simp only [denL] at h
    obtain ⟨v, l', rfl, h3, h4⟩ := h
    simp only [List.map_cons, denT]
    exact ⟨v, l', rfl, h3, denT_svs h4⟩
theorem denT_app {E : Emb} : ∀ {x y : List EV} {p q : List Value}, denT E x p → denT E y q → denT E (x ++ y) (p ++ q)
  | [], y, p, q, h3, h4 => by simp only [denT] at h3; subst h3; exact h4
  | z :: r, y, p, q, h3, h4 => by
    simp only [denT] at h3
    obtain ⟨v, l', rfl, h5, h6⟩ := h3
    exact ⟨v, l' ++ q, rfl, h5, denT_app h6 h4⟩
/-- A function that may be called by a defer. -/
structure DoesD (T : Tbl) (f : FuncId) (args : List EV) (h : List Blk) (Q : EV → List Blk → Prop) : Prop where
  go : isFn T f ∧ ∀ E w vs, Sim E h w → TabOk E h w → denT E args vs.toList → CallsD T.P f vs .returning w fun e u' w' => u' = .returning ∧ Post E h w Q e w'

theorem DoesD.mono {T : Tbl} {f : FuncId} {args : List EV} {h : List Blk} {Q Q' : EV → List Blk → Prop} (c : DoesD T f args h Q) (hq : ∀ v h', Q v h' → Q' v h') : DoesD T f args h Q' :=
  ⟨c.go.1, fun E w vs S Z ha => (c.go.2 E w vs S Z ha).mono fun _ _ _ p => ⟨p.1, p.2.mono hq⟩⟩

theorem fnX_callD (T : Tbl) {f : FuncId} {F : Func} (hF : T.P.funcs[f]? = some F) {args : List EV} {h : List Blk} {Q : EV → List Blk → Prop}
    (hX : ∀ E w (Z : TabOk E h w), Sim E h w → fnX T ⟨E, h, w, [], Z⟩ F args h Q) : ∀ E w vs u, Sim E h w → TabOk E h w → denT E args vs.toList → CallsD T.P f vs u w fun e u' w' => u' = u ∧ Post E h w Q e w' := by
  intro E w vs u S Z hargs
  have hx := hX E w Z S
  unfold fnX at hx
  split at hx
  · rename_i c hc
    rw [frameK_eq] at hx
    refine callsD_of_wp hF hc ?_
    have hlen : vs.size = args.length := by rw [← Array.length_toList]; exact denT_length hargs
    have R : Rel ⟨E, h, w, [], Z⟩ E { tmps := args ++ junks (F.ntmps - args.length), heap := h } { tmps := vs ++ Array.replicate (F.ntmps - vs.size) undef, defers := [] } w := by
      refine ⟨⟨by simp [length_junks, hlen], fun i v hi => ?_⟩, rfl, S, Since.refl _ _ _⟩
      rw [nth_append_junks]
      split
      · rename_i hlt
        rw [Array.getElem?_append_left (by omega)] at hi
        exact denT_nth hargs (by simpa using hi)
      · simp only [denE]
    refine Code.wp_mono ?_ (wpx_snd (T := T) (O := ⟨E, h, w, [], Z⟩) S.n c hx R)
    rintro e a' w' ⟨E', s', hk, R'⟩
    cases e <;> first
      | (obtain ⟨u, v, h1, h2, h3⟩ := resX_snd T R'.fr R'.sim hk
         exact ⟨R'.df, u, h1, u, v, s'.heap, E', rfl, h2, R'.sim, R'.sin, h3⟩)
      | exact hk.elim
  · exact hx.elim

/-- **A function whose body is walked over a small heap, for a defer.** -/
theorem fnX_doesD (T : Tbl) {f : FuncId} {F : Func} (hF : T.P.funcs[f]? = some F) (hb : F.body.isNone = false) (hname : (F.name == "runtime.NumGoroutine") = false) {args : List EV} {h : List Blk} {Q : EV → List Blk → Prop}
    (hX : ∀ O : Org, O.E.n = O.h.length → O.E.n = h.length → fnX T O F args h (Ends h.length Q)) : DoesD T f args h Q := by
  refine ⟨⟨F, hF, hb, hname⟩, fun E w vs S Z ha => ?_⟩
  have c := fnX_callD T hF (args := args) (h := h) (Q := Ends h.length Q) (fun E w Z S => hX _ S.n S.n) E w vs .returning S Z ha
  refine c.mono ?_
  rintro e u' w' ⟨hu, v, x, h', E', rfl, hd, S', N', V, H, κ, hq, hnd, hid, hv, hh⟩
  obtain ⟨S'', h1, h2, h3⟩ := S'.renum hnd hh
  refine ⟨hu, v, V, H, _, rfl, ?_, S'', N'.renum S.n S' hnd (by rw [S.n]; exact hid) hh, hq⟩
  exact (denE_ren (E := ⟨H.length, fun i => E'.f (lk κ h'.length i)⟩) h1 (fun b hb => ⟨h2 b hb, rfl⟩) _ _).1 (eqvE_den _ _ _ hv hd)

/-- The operations ahead of a defer that stands last; what is deferred. -/
def lastD : List Oper → Option (List Oper × Operand × Array Operand)
  | [] => none
  | [o] => match o.guard, o.dst, o.op with
    | none, none, .defer { callee := .value f, args, .. } => some ([], f, args)
    | _, _, _ => none
  | o :: r => match lastD r with
    | some (p, f, a) => some (o :: p, f, a)
    | none => none

def normK (next : St → Prop) : Exit → St → Prop
  | .normal, s => next s
  | _, _ => False

/-- The walk as far as a defer; the code behind it. -/
def wpd (T : Tbl) (O : Org) (c : Code) : St → (St → EV → List EV → Code → Prop) → Prop :=
  Code.rec (motive := fun _ => St → (St → EV → List EV → Code → Prop) → Prop)
    (fun _ _ => False)
    (fun _ _ _ _ _ => False)
    (fun a b _ wb s k => match a with
      | .region id ops false => match lastD ops.toList with
        | some (pre, f, args) => opsX T ops pre s fun s' => k s' (evT s'.tmps f) (args.toList.map (evT s'.tmps)) b
        | none => wpx T O (.region id ops false) s (normK fun s' => wb s' k)
      | a => wpx T O a s (normK fun s' => wb s' k))
    (fun _ _ _ _ _ _ _ => False)
    (fun _ _ _ _ _ => False)
    (fun _ _ _ _ => False)
    (fun _ _ _ _ _ _ _ _ => False)
    (fun _ _ _ => False)
    (fun _ _ _ _ => False)
    (fun _ _ _ => False)
    (fun _ _ _ => False)
    (fun _ _ => False)
    (fun _ _ _ => False)
    c

theorem wpd_seq (T : Tbl) (O : Org) (a b : Code) (s : St) (k : St → EV → List EV → Code → Prop) : wpd T O (.seq a b) s k = (match a with
    | .region id ops false => match lastD ops.toList with
      | some (pre, f, args) => opsX T ops pre s fun s' => k s' (evT s'.tmps f) (args.toList.map (evT s'.tmps)) b
      | none => wpx T O (.region id ops false) s (normK fun s' => wpd T O b s' k)
    | a => wpx T O a s (normK fun s' => wpd T O b s' k)) := rfl

theorem lastD_spec : ∀ {l pre : List Oper} {f : Operand} {args : Array Operand}, lastD l = some (pre, f, args) → ∃ o tys, l = pre ++ [o] ∧ o.guard = none ∧ o.dst = none ∧ o.op = .defer { callee := .value f, args := args, argTypes := tys }
  | [], _, _, _, h => by simp [lastD] at h
  | [o], pre, f, args, h => by
    simp only [lastD] at h
    split at h
    · rename_i f' args' tys hg hd hop
      simp only [Option.some.injEq, Prod.mk.injEq] at h
      obtain ⟨rfl, rfl, rfl⟩ := h
      exact ⟨o, tys, rfl, hg, hd, hop⟩
    · cases h
  | o :: o' :: r, pre, f, args, h => by
    simp only [lastD] at h
    split at h
    · rename_i p f' a' hr
      simp only [Option.some.injEq, Prod.mk.injEq] at h
      obtain ⟨rfl, rfl, rfl⟩ := h
      obtain ⟨x, tys, h1, h2⟩ := lastD_spec (l := o' :: r) hr
      exact ⟨x, tys, by rw [h1]; rfl, h2⟩
    · cases h

theorem opsX_append {T : Tbl} {O : Org} (on : O.E.n = O.h.length) {ops : Array Oper} {Q : Exit → Act → World → Prop} : ∀ (l l2 : List Oper) {E : Emb} {s : St} {a : Act} {w : World}, Rel O E s a w → ∀ {k : St → Prop}, opsX T ops l s k →
    (∀ E' s' a' w', k s' → Rel O E' s' a' w' → wpList T.P ops Q l2 a' w') → wpList T.P ops Q (l ++ l2) a w
  | [], _, _, _, _, _, R, _, hk, hn => hn _ _ _ _ hk R
  | o :: r, l2, _, _, _, _, R, k, hk, hn => by
    have hk : opX T ops _ o (fun s' => opsX T ops r s' k) := hk
    have := opX_snd on R hk (next := wpList T.P ops Q (r ++ l2)) (Q := Q) (fun E' s' a' w' h1 h2 => opsX_append on r l2 h2 h1 hn)
    rw [List.cons_append]
    unfold wpList
    split
    · rename_i hw; rw [if_pos hw] at this; exact .inl this
    · rename_i hw; rw [if_neg hw] at this; exact this

theorem wpd_snd {T : Tbl} {O : Org} (on : O.E.n = O.h.length) {Q : Exit → Act → World → Prop} {k : St → EV → List EV → Code → Prop}
    (hk : ∀ E s a w f args fv vs b, k s f args b → denE E f fv → denT E args vs → Rel O E s a w → ∀ d, (∀ P w', (Deferred.ofValue fv vs.toArray).run P w' = .ok d w') → Code.wp T.P b Q { a with defers := d :: a.defers } w) :
    ∀ (c : Code) {E : Emb} {s : St} {a : Act} {w : World}, wpd T O c s (fun s f args b => (∃ g x y, f = .s (.func g x y)) ∧ k s f args b) → Rel O E s a w → c.wp T.P Q a w := by
  have step : ∀ (x y : Code) {E : Emb} {s : St} {a : Act} {w : World} {n : St → Prop}, wpx T O x s (normK n) → Rel O E s a w → (∀ {E s a w}, n s → Rel O E s a w → y.wp T.P Q a w) → (Code.seq x y).wp T.P Q a w := by
    intro x y E s a w n hx R hy
    refine wp_seq (Code.wp_mono ?_ (wpx_snd on x hx R))
    rintro e a' w' ⟨E', s', h1, h2⟩
    cases e <;> first
      | exact hy h1 h2
      | exact h1.elim
  intro c
  induction c with
  | seq x y _ ihy =>
    intro E s a w h R
    rw [wpd_seq] at h
    split at h
    · rename_i id ops _ _
      split at h
      · rename_i pre f args hl
        obtain ⟨o, tys, h1, hg, hd, hop⟩ := lastD_spec hl
        refine wp_seq (wp_region_list ?_)
        rw [h1]
        refine opsX_append on pre [o] R h fun E' s' a' w' hk' R' => ?_
        obtain ⟨⟨g, x, z, hf⟩, hk'⟩ := hk'
        have hfd := ev_denE R'.fr f
        have hargs := denT_map (E := E') (evT s'.tmps) a'.eval args.toList (fun x _ => ev_denE R'.fr x)
        have hfv : ∃ x' z', a'.eval f = .func g x' z' := by
          have hf' : s'.ev f = .s (.func g x z) := hf
          rw [hf'] at hfd
          simp only [denE, denV] at hfd
          obtain ⟨x', z', h3, _⟩ := hfd
          exact ⟨x', z', h3⟩
        obtain ⟨x', z', hfv⟩ := hfv
        have hrun : ∀ P w', (Deferred.ofValue (a'.eval f) (args.toList.map a'.eval).toArray).run P w' = .ok { target := .fn g z', args := x' ++ (args.toList.map a'.eval).toArray } w' := fun P w' => by
          rw [hfv]; rfl
        have hwp := hk E' s' a' w' _ _ _ _ _ hk' hfd hargs R' _ hrun
        unfold wpList
        rw [if_pos (by simp [Region.wanted, hg])]
        refine .inl ?_
        unfold Oper.wp
        have hex : (execOp a'.eval o).run T.P w' = .ok (.defer { target := .fn g z', args := x' ++ (args.toList.map a'.eval).toArray }) w' := by
          unfold execOp
          simp only [hop, resolve]
          rw [hfv, ← Array.toList_map, Array.toArray_toList]
          rfl
        rw [hex, Oper.upon_defer, hd]
        exact hwp
      · exact step _ _ h R fun h1 h2 => ihy h1 h2
    · exact step _ _ h R fun h1 h2 => ihy h1 h2
  | _ => intro E s a w h R; exact h.elim

/-- What comes behind the code: the deferred call, and what is handed back. -/
def bodyD (T : Tbl) (F : Func) (f : EV) (args : List EV) (Q : EV → List Blk → Prop) : Exit → St → Prop
  | .normal, s => match f with
    | .s (.func (.func g) a c) => argsK a args c fun l => DoesD T g l s.heap fun _ h => resX T ⟨s.tmps, h⟩ F.results.toList Q
    | _ => False
  | .ret, s => match f with
    | .s (.func (.func g) a c) => argsK a args c fun l => DoesD T g l s.heap fun _ h => resX T ⟨s.tmps, h⟩ F.results.toList Q
    | _ => False
  | _, _ => False

/-- A function's body that defers a call, walked. -/
def fnXD (T : Tbl) (O : Org) (F : Func) (args : List EV) (h : List Blk) (Q : EV → List Blk → Prop) : Prop :=
  match F.body with
  | some c => frameK args F.ntmps fun ts => wpd T O c ⟨ts, h⟩ fun s f dargs rest => (∃ g x y, f = .s (.func g x y)) ∧ ∀ O' : Org, O'.E.n = O'.h.length → O'.E.n = s.heap.length → O.E.n ≤ O'.E.n → wpx T O' rest s (bodyD T F f dargs Q)
  | none => False

theorem fnXD_call (T : Tbl) {f : FuncId} {F : Func} (hF : T.P.funcs[f]? = some F) {args : List EV} {h : List Blk} {Q : EV → List Blk → Prop}
    (hX : ∀ E w (Z : TabOk E h w), Sim E h w → fnXD T ⟨E, h, w, [], Z⟩ F args h Q) : CallG T f args h Q := by
  intro E w vs S Z hargs
  have hx := hX E w Z S
  unfold fnXD at hx
  split at hx
  · rename_i c hc
    rw [frameK_eq] at hx
    refine calls_of_wp_defers hF hc ?_
    have hlen : vs.size = args.length := by rw [← Array.length_toList]; exact denT_length hargs
    have R : Rel ⟨E, h, w, [], Z⟩ E { tmps := args ++ junks (F.ntmps - args.length), heap := h } { tmps := vs ++ Array.replicate (F.ntmps - vs.size) undef, defers := [] } w := by
      refine ⟨⟨by simp [length_junks, hlen], fun i v hi => ?_⟩, rfl, S, Since.refl _ _ _⟩
      rw [nth_append_junks]
      split
      · rename_i hlt
        rw [Array.getElem?_append_left (by omega)] at hi
        exact denT_nth hargs (by simpa using hi)
      · simp only [denE]
    refine wpd_snd (O := ⟨E, h, w, [], Z⟩) S.n ?_ c hx R
    intro E1 s1 a1 w1 fv0 dargs fv dvs rest hk hfd hdargs R1 d hd
    have hdf : a1.defers = [] := R1.df
    have Z1 : TabOk E1 s1.heap w1 := Z.since R1.sin
    have hO := hk ⟨E1, s1.heap, w1, [d], Z1⟩ R1.sim.n R1.sim.n (by have h1 := R1.sin.len; have h2 := S.n; have h3 := R1.sim.n; simp only at *; omega)
    have R1' : Rel ⟨E1, s1.heap, w1, [d], Z1⟩ E1 s1 { a1 with defers := d :: a1.defers } w1 := ⟨R1.fr, by simp [hdf], R1.sim, Since.refl _ _ _⟩
    refine Code.wp_mono ?_ (wpx_snd (T := T) (O := ⟨E1, s1.heap, w1, [d], Z1⟩) R1.sim.n rest hO R1')
    have key : ∀ E2 s2 a2 w2, (match fv0 with
        | .s (.func (.func g) a c) => argsK a dargs c fun l => DoesD T g l s2.heap fun _ h => resX T ⟨s2.tmps, h⟩ F.results.toList Q
        | _ => False) → Rel ⟨E1, s1.heap, w1, [d], Z1⟩ E2 s2 a2 w2 → Leaves T.P F a2.tmps (Post E h w Q) a2.defers .returning w2 := by
      intro E2 s2 a2 w2 hb R2
      have hdf2 : a2.defers = [d] := R2.df
      split at hb
      · rename_i g fa fc
        rw [argsK_eq] at hb
        simp only [denE, denV] at hfd
        obtain ⟨f', c', rfl, h1, h2⟩ := hfd
        have hdd : d = { target := .fn (.func g) c', args := f' ++ dvs.toArray } := by
          have h0 : (Deferred.ofValue (.func (.func g) f' c') dvs.toArray).run T.P w = .ok { target := .fn (.func g) c', args := f' ++ dvs.toArray } w := rfl
          have := hd T.P w
          rw [h0] at this
          cases this
          rfl
        rw [hdf2, hdd]
        obtain ⟨hfn, hgo⟩ := hb.go
        obtain ⟨G, hG, hbody, hname⟩ := hfn
        have hle2 : E1.le E2 := R2.sin.le R1.sim.n R2.sim.n
        have hda : denT E2 (fa.map .s ++ dargs ++ fc.map .s) (f'.toList ++ dvs ++ c'.toList) := denT_app (denT_app (denT_svs (denL_mono hle2 _ _ h1)) (denT_mono hle2 _ _ hdargs)) (denT_svs (denL_mono hle2 _ _ h2))
        refine leaves_cons (f := g) (args := f' ++ dvs.toArray ++ c') (by simp) ?_ ?_
        · simp only [invoke, callFunc, Sem.run_bind, run_program, Result.andThen_ok, hG]
          simp [hbody]
          intro hh
          simp [hh] at hname
        · refine (hgo E2 w2 (f' ++ dvs.toArray ++ c') R2.sim (Z1.since R2.sin) (by simpa using hda)).mono ?_
          rintro e u' w3 ⟨rfl, v, x, h3, E3, rfl, _, S3, N3, hq⟩
          have hfr : frameOk E3 s2.tmps a2.tmps := frameOk_mono (N3.le R2.sim.n S3.n) R2.fr
          obtain ⟨u, v', k1, k2, k3⟩ := resX_snd T (s := ⟨s2.tmps, h3⟩) hfr S3 hq
          refine ⟨u, k1, u, v', h3, E3, rfl, k2, S3, ?_, k3⟩
          have n1 := R1.sin
          exact ((n1.trans S.n R1.sim.n R2.sin).trans S.n R2.sim.n N3)
      · exact hb.elim
    rintro e a2 w2 ⟨E2, s2, hb, R2⟩
    cases e <;> first
      | exact key E2 s2 a2 w2 hb R2
      | exact hb.elim
  · exact hx.elim

/-- **A function that defers a call, walked over a small heap.** -/
theorem fnXD_does (T : Tbl) {f : FuncId} {F : Func} (hF : T.P.funcs[f]? = some F) (hb : F.body.isNone = false) (hname : (F.name == "runtime.NumGoroutine") = false) {args : List EV} {h : List Blk} {Q : EV → List Blk → Prop}
    (hX : ∀ O : Org, O.E.n = O.h.length → O.E.n = h.length → fnXD T O F args h (Ends h.length Q)) : Does T f args h Q := by
  refine ⟨.inl ⟨⟨F, hF, hb, hname⟩, fun E w vs S Z ha => ?_⟩⟩
  have c := fnXD_call T hF (args := args) (h := h) (Q := Ends h.length Q) (fun E w Z S => hX _ S.n S.n) E w vs S Z ha
  refine c.mono ?_
  rintro e w' ⟨v, x, h', E', rfl, hd, S', N', V, H, κ, hq, hnd, hid, hv, hh⟩
  obtain ⟨S'', h1, h2, h3⟩ := S'.renum hnd hh
  refine ⟨v, V, H, _, rfl, ?_, S'', N'.renum S.n S' hnd (by rw [S.n]; exact hid) hh, hq⟩
  exact (denE_ren (E := ⟨H.length, fun i => E'.f (lk κ h'.length i)⟩) h1 (fun b hb => ⟨h2 b hb, rfl⟩) _ _).1 (eqvE_den _ _ _ hv hd)

end Go.Anv

/- The bus: its block; the lock of its console. No condition: contracts of functions. -/
namespace Go.Anv
open Go
theorem length_updB : ∀ (h : List Blk) (b : Nat) (B : Blk), (updB h b B).length = h.length
  | [], _, _ => rfl
  | _ :: _, 0, _ => rfl
  | _ :: r, b + 1, B => by simp [updB, length_updB r b B]

theorem nthB_updB : ∀ {h : List Blk} {b : Nat} {A B : Blk}, nthB h b = some A → nthB (updB h b B) b = some B
  | [], _, _, _, h => by simp [nthB] at h
  | _ :: _, 0, _, _, _ => rfl
  | _ :: r, b + 1, _, _, h => by simp only [nthB, updB] at h ⊢; exact nthB_updB h

theorem getS_setS : ∀ {cs cs' : List Seg} {o : Nat} {e : SV}, setS cs o e = some cs' → getS cs' o = some e
  | [], _, _, _, h => by simp [setS] at h
  | .one _ :: r, _, 0, e, h => by simp only [setS, Option.some.injEq] at h; subst h; rfl
  | .one v :: r, _, o + 1, e, h => by
    simp only [setS, Option.map_eq_some_iff] at h
    obtain ⟨c, hc, rfl⟩ := h
    simp only [getS]
    exact getS_setS hc
  | .ints k n f :: r, _, o, e, h => by
    unfold setS at h
    split at h
    · rename_i ho
      simp only [Option.map_eq_some_iff] at h
      obtain ⟨c, hc, rfl⟩ := h
      unfold getS
      rw [if_neg (by omega)]
      exact getS_setS hc
    · cases h

end Go.Anv
namespace Go.Proofs.YtdlpmbghocabbaaGreatDoor
open Go Go.Anv
section lock
variable {h : List Blk} {b o sp : Nat} {cs cs' : List Seg}

theorem set_lock {E : Emb} {w : World} {k y : Int} (S : Sim E h w) (hb : nthB h b = some (.cells true cs sp)) (hg : getS cs o = some (.int .i32 k)) (hs : setS cs o (.int .i32 y) = some cs') :
    w.cell? (E.at b o) = some (.int .i32 k) ∧ w.frozen? (E.at b o) = false ∧ Sim E (updB h b (.cells true cs' sp)) (w.setCell (E.at b o) (.int .i32 y)) ∧ Since E h w E (updB h b (.cells true cs' sp)) (w.setCell (E.at b o) (.int .i32 y)) := by
  have hb' := nthB_get hb
  obtain ⟨l, hl, hw, _⟩ := S.look hb'
  obtain ⟨_, _, hm⟩ := S.ok b _ hb'
  obtain ⟨u, h1, h2⟩ := getS_den hl hg
  simp only [denV] at h2
  subst h2
  have h3 := hw o _ h1
  obtain ⟨k1, k2, k3⟩ := setS_den (E := E) (v := .int .i32 y) hl (by simp only [denV]) hs
  have hd : denS E cs' (l.take o ++ ([Value.int .i32 y] ++ l.drop (o + [Value.int .i32 y].length))) := by
    rw [← list_set_eq _ (by rw [denS_length hl]; exact k3)]
    exact k1
  refine ⟨h3, (hm rfl o (by omega)).2.frozen h3, ?_, ?_⟩
  · rw [updB_eq]; exact S.store (vs := [.int .i32 y]) hb' hl hw hd k2 k3
  · rw [updB_eq]; exact Since.store (vs := [.int .i32 y]) hb' k2 k3

theorem cas_spec {k y : Int} (hb : nthB h b = some (.cells true cs sp)) (hg : getS cs o = some (.int .i32 k)) (hs : setS cs o (.int .i32 y) = some cs') :
    Does TB 132 [.s (.ptr b o), .s (.int .i32 k), .s (.int .i32 y)] h (fun r h' => r = .s (.bool true) ∧ h' = updB h b (.cells true cs' sp)) := by
  refine ⟨.inr fun E w vs S ha => ?_⟩
  simp only [denT, denE, denV] at ha
  obtain ⟨x1, l1, e1, ⟨_, rfl⟩, x2, l2, rfl, rfl, x3, l3, rfl, rfl, rfl⟩ := ha
  have hvs : vs = #[.pointer (some (E.at b o)), .int .i32 k, .int .i32 y] := by rw [← Array.toList_inj]; exact e1
  subst hvs
  obtain ⟨h1, h2, h3, h4⟩ := set_lock S hb hg hs
  have hrun := run_call_cas_hit (P := TB.P) (y := y) Tryz.func132 (by kernel_rfl) (by kernel_rfl) (by kernel_rfl) .i32 (by kernel_rfl) h1 h2
  exact ⟨_, _, hrun, _, _, _, _, rfl, (by simp only [denE, denV] : denE E (.s (.bool true)) _), h3, h4, rfl, rfl⟩

theorem add_spec {k y s : Int} (hw : IntKind.i32.wrap (k + y) = s) (hb : nthB h b = some (.cells true cs sp)) (hg : getS cs o = some (.int .i32 k)) (hs : setS cs o (.int .i32 s) = some cs') :
    Does TB 137 [.s (.ptr b o), .s (.int .i32 y)] h (fun r h' => r = .s (.int .i32 s) ∧ h' = updB h b (.cells true cs' sp)) := by
  refine ⟨.inr fun E w vs S ha => ?_⟩
  simp only [denT, denE, denV] at ha
  obtain ⟨x1, l1, e1, ⟨_, rfl⟩, x2, l2, rfl, rfl, rfl⟩ := ha
  have hvs : vs = #[.pointer (some (E.at b o)), .int .i32 y] := by rw [← Array.toList_inj]; exact e1
  subst hvs
  obtain ⟨h1, h2, h3, h4⟩ := set_lock S hb hg hs
  have hrun := run_call_add (P := TB.P) (y := y) (s := s) Tryz.func137 (by kernel_rfl) (by kernel_rfl) (by kernel_rfl) .i32 (by kernel_rfl) h1 h2 (by simp [Op.intArith, hw])
  exact ⟨_, _, hrun, _, _, _, _, rfl, (by simp only [denE, denV] : denE E (.s (.int .i32 s)) _), h3, h4, rfl, rfl⟩
end lock

theorem mark0_spec {f : FuncId} {fn : Func} {m : Mark} (hf : TB.P.funcs[f]? = some fn) (hname : (fn.name == "runtime.NumGoroutine") = false) (hb : fn.body.isNone = true) (hn : Extern.findNext fn = none)
    (he : Extern.find fn = some (fun _ => do mark m; pure Extern.Race.none_)) (h : List Blk) : Does TB f [] h (fun r h' => r = .tuple [] ∧ h' = h) := by
  refine ⟨.inr fun E w vs S ha => ?_⟩
  simp only [denT] at ha
  have hvs : vs = #[] := by rw [← Array.toList_inj]; exact ha
  subst hvs
  exact ⟨_, _, run_call_mark0 (P := TB.P) hf hname hb hn m he w, _, _, _, _, rfl, (by simp only [denE]; exact ⟨_, rfl, rfl⟩ : denE E (.tuple []) _), S, Since.refl _ _ _, rfl, rfl⟩

theorem marked_spec {f : FuncId} {fn : Func} {m : Addr → Mark} (hf : TB.P.funcs[f]? = some fn) (hname : (fn.name == "runtime.NumGoroutine") = false) (hb : fn.body.isNone = true) (hn : Extern.findNext fn = none)
    (he : Extern.find fn = some (Extern.Race.marked m)) (b o : Nat) (h : List Blk) : Does TB f [.s (.ptr b o)] h (fun r h' => r = .tuple [] ∧ h' = h) := by
  refine ⟨.inr fun E w vs S ha => ?_⟩
  simp only [denT, denE, denV] at ha
  obtain ⟨x1, l1, e1, ⟨hb1, rfl⟩, rfl⟩ := ha
  have hvs : vs = #[.pointer (some (E.at b o))] := by rw [← Array.toList_inj]; exact e1
  subst hvs
  exact ⟨_, _, run_call_marked (P := TB.P) hf hname hb hn m he _ w, _, _, _, _, rfl, (by simp only [denE]; exact ⟨_, rfl, rfl⟩ : denE E (.tuple []) _), S, Since.refl _ _ _, rfl, rfl⟩

theorem disable_spec (h : List Blk) : Does TB 131 [] h (fun r h' => r = .tuple [] ∧ h' = h) := mark0_spec (m := .disable) Tryz.func131 (by kernel_rfl) (by kernel_rfl) (by kernel_rfl) (by kernel_rfl) h
theorem enable_spec (h : List Blk) : Does TB 133 [] h (fun r h' => r = .tuple [] ∧ h' = h) := mark0_spec (m := .enable) Tryz.func133 (by kernel_rfl) (by kernel_rfl) (by kernel_rfl) (by kernel_rfl) h
theorem acquire_spec (b o : Nat) (h : List Blk) : Does TB 134 [.s (.ptr b o)] h (fun r h' => r = .tuple [] ∧ h' = h) := marked_spec (m := .acquire) Tryz.func134 (by kernel_rfl) (by kernel_rfl) (by kernel_rfl) (by kernel_rfl) b o h
theorem release_spec (b o : Nat) (h : List Blk) : Does TB 136 [.s (.ptr b o)] h (fun r h' => r = .tuple [] ∧ h' = h) := marked_spec (m := .releaseMerge) Tryz.func136 (by kernel_rfl) (by kernel_rfl) (by kernel_rfl) (by kernel_rfl) b o h

section lock
variable {h : List Blk} {b o sp : Nat} {cs cs' : List Seg}

theorem ilock_spec (hb : nthB h b = some (.cells true cs sp)) (hg : getS cs o = some (.int .i32 0)) (hs : setS cs o (.int .i32 1) = some cs') :
    Does TB 109 [.s (.ptr b o)] h (fun r h' => r = .tuple [] ∧ h' = updB h b (.cells true cs' sp)) := by
  refine fnX_does TB Tryz.func109 rfl (by decide) (fun O on hO => ?_)
  refine (disable_spec _).mono ?_
  rintro _ _ ⟨rfl, rfl⟩
  refine (cas_spec hb hg hs).mono ?_
  rintro _ _ ⟨rfl, rfl⟩
  refine (enable_spec _).mono ?_
  rintro _ _ ⟨rfl, rfl⟩
  refine need_intro ⟨_, _, _, _, nthB_updB hb, getS_setS hs⟩ ?_
  refine (acquire_spec b o _).mono ?_
  rintro _ _ ⟨rfl, rfl⟩
  exact Ends.same ⟨rfl, rfl⟩ (by rw [length_updB]; exact Nat.le_refl _)

theorem lock_spec (hb : nthB h b = some (.cells true cs sp)) (hg : getS cs o = some (.int .i32 0)) (hs : setS cs o (.int .i32 1) = some cs') :
    Does TB 78 [.s (.ptr b o)] h (fun r h' => r = .tuple [] ∧ h' = updB h b (.cells true cs' sp)) := by
  refine fnX_does TB Tryz.func78 rfl (by decide) (fun O on hO => ?_)
  refine (ilock_spec hb hg hs).mono ?_
  rintro _ _ ⟨rfl, rfl⟩
  exact Ends.same ⟨rfl, rfl⟩ (by rw [length_updB]; exact Nat.le_refl _)

theorem loadX_int (T : Tbl) {t : TypeId} {i : TI} {k : IntKind} {x : Int} (ht : T.ty t = some i) (hd : i.d = .int k) (hb : nthB h b = some (.cells true cs sp)) (hg : getS cs o = some (.int k x)) : loadX T h t (.s (.ptr b o)) = .ok (.s (.int k x)) := by
  have : i.d.agg = false := by rw [hd]; rfl
  simp only [loadX, ht, hb, this, hg]
  simp

theorem iunlock_spec (hb : nthB h b = some (.cells true cs sp)) (hg : getS cs o = some (.int .i32 1)) (hs : setS cs o (.int .i32 0) = some cs') :
    Does TB 110 [.s (.ptr b o)] h (fun r h' => r = .tuple [] ∧ h' = updB h b (.cells true cs' sp)) := by
  refine fnX_does TB Tryz.func110 rfl (by decide) (fun O on hO => ?_)
  have hl : loadX TB h 21 (.s (.ptr b (o + 0))) = .ok (.s (.int .i32 1)) := loadX_int TB rfl rfl hb hg
  show (match loadX TB h 21 (.s (.ptr b (o + 0))) with
    | .ok v => _
    | .need p v => _
    | .fail => _)
  rw [hl]
  refine need_intro ⟨_, _, _, _, hb, hg⟩ ?_
  refine (release_spec b o _).mono ?_
  rintro _ _ ⟨rfl, rfl⟩
  refine (disable_spec _).mono ?_
  rintro _ _ ⟨rfl, rfl⟩
  refine (add_spec (k := 1) (y := -1) (s := 0) (by decide) hb hg hs).mono ?_
  rintro _ _ ⟨rfl, rfl⟩
  refine (enable_spec _).mono ?_
  rintro _ _ ⟨rfl, rfl⟩
  exact Ends.same ⟨rfl, rfl⟩ (by rw [length_updB]; exact Nat.le_refl _)

theorem unlock_spec (hb : nthB h b = some (.cells true cs sp)) (hg : getS cs o = some (.int .i32 1)) (hs : setS cs o (.int .i32 0) = some cs') :
    DoesD TB 79 [.s (.ptr b o)] h (fun r h' => r = .tuple [] ∧ h' = updB h b (.cells true cs' sp)) := by
  refine fnX_doesD TB Tryz.func79 rfl (by decide) (fun O on hO => ?_)
  refine (iunlock_spec hb hg hs).mono ?_
  rintro _ _ ⟨rfl, rfl⟩
  exact Ends.same ⟨rfl, rfl⟩ (by rw [length_updB]; exact Nat.le_refl _)
end lock
end Go.Proofs.YtdlpmbghocabbaaGreatDoor

/- The bus: states, what may be one, a bus of a state. No condition: contracts of functions. -/
namespace Go.Anv
open Go
abbrev B64 := BitVec 64
abbrev B32 := BitVec 32
abbrev B8 := BitVec 8
def bfun (q : Nat → B8) (j : Nat) : Int := ((q j).toNat : Int)
def wfun (q : Nat → B64) (j : Nat) : Int := ((q j).toNat : Int)
/-- A block of bytes. -/
def bblk (m : Bool) (n : Nat) (q : Nat → B8) (sp : Nat) : Blk := .cells m [.ints .u8 n (bfun q)] sp

/-- A bus's plain values: the lists' lengths with them. -/
structure BusV where
  nr : Nat
  msip : B32
  cmp : B64
  now : B64
  ext : Bool
  soft : Bool
  ier : B8
  lcr : B8
  mcr : B8
  scratch : B8
  overrun : Bool
  ni : Nat
  no : Nat
  off : Int
  code : Int

/-- The cells of api.Bus; r, i, o: where its lists lie. -/
def BusV.segs (s : BusV) (r i o : SV) : List Seg :=
  [.one r, .one (.int .u32 s.msip.toNat), .one (.int .u64 s.cmp.toNat), .one (.int .u64 s.now.toNat), .one (.bool s.ext), .one (.bool s.soft), .one (.int .u8 s.ier.toNat), .one (.int .u8 s.lcr.toNat), .one (.int .u8 s.mcr.toNat), .one (.int .u8 s.scratch.toNat),
    .one (.bool s.overrun), .one i, .one o, .one (.int .i64 s.off), .one (.int .i64 s.code)]

/-- The cells of bus.Bus. -/
def BusV.dev (s : BusV) (lock : Int) (r i o : SV) : List Seg :=
  [.one r, .one (.int .i64 s.off), .one (.int .i64 s.code), .one (.int .u32 s.msip.toNat), .one (.int .u64 s.cmp.toNat), .one (.int .u64 s.now.toNat), .one (.int .i32 lock), .one (.int .u32 0), .one i, .one o,
    .one (.int .u8 s.ier.toNat), .one (.int .u8 s.lcr.toNat), .one (.int .u8 s.mcr.toNat), .one (.int .u8 s.scratch.toNat), .one (.bool s.overrun), .one (.bool s.ext), .one (.bool s.soft)]

def fitsB (n : Int) : Bool := decide (8 ≤ n) && decide (n ≤ 65536) && decide (n % 8 = 0)
def BusV.can (s : BusV) : Bool :=
  decide ((8 ≤ s.nr ∧ s.nr ≤ 65536 ∧ s.nr % 8 = 0) ∧ s.msip.toNat ≤ 1 ∧ s.ier.toNat ≤ 15 ∧ s.mcr.toNat ≤ 31 ∧ s.ni ≤ 64 ∧ s.no ≤ 4096 ∧ ((s.off = 0 ∨ s.off = 1) ∧ s.code = 0 ∨ s.off = 2 ∧ 0 ≤ s.code ∧ s.code ≤ 65535))

/-- The lists of a bus lie in three blocks. -/
structure Lists where
  mr : Bool
  sr : Nat
  ram : Nat → B8
  mi : Bool
  si : Nat
  inp : Nat → B8
  mo : Bool
  so : Nat
  out : Nat → B8
def Lists.blks (l : Lists) (s : BusV) : List Blk := [bblk l.mr s.nr l.ram l.sr, bblk l.mi s.ni l.inp l.si, bblk l.mo s.no l.out l.so]
end Go.Anv
namespace Go.Proofs.YtdlpmbghocabbaaGreatDoor
open Go Go.Anv
theorem fits_spec (n : Int) (h : List Blk) : Does TB 47 [.s (.int .i64 n)] h (fun v h' => v = .s (.bool (fitsB n)) ∧ h' = h) := by
  refine fnX_pure TB Tryz.func47 rfl (by decide) rfl _ rfl (fun O on => ?_) h
  repeat (refine need_intro (by simp) ?_)
  show (_ : Bool) = _
  unfold fitsB
  by_cases h1 : 8 ≤ n
  · by_cases h2 : n ≤ 65536
    · have : n.tmod 8 = n % 8 := Int.tmod_eq_emod_of_nonneg (by omega)
      simp [h1, h2, this]
      by_cases h3 : n % 8 = 0 <;> simp [h3]
    · simp [h1, h2]
  · simp [h1]
theorem room5 (k : Nat) (h : k ≤ 140737488355328) : room ti5 k := ⟨⟨rfl, by decide⟩, h, by show k * 1 ≤ _; omega⟩
theorem own_spec (m : Bool) (k o n c sp : Nat) (q : Nat → B8) (p : Nat → B8) (hn : o + n ≤ k) (hk : n ≤ 140737488355328) (hp : ∀ j, j < n → q (o + j) = p j) :
    Does TB 45 [.s (.gs 0 o n c)] [bblk m k q sp] (fun v h' => ∃ cap, n ≤ cap ∧ v = .s (.gs 1 0 n cap) ∧ h' = [bblk m k q sp, bblk true n p (cap - n)]) := by
  refine fnX_does TB Tryz.func45 rfl (by decide) (fun O on hO => ?_)
  refine need_intro ⟨hn, room5 _ hk⟩ ?_
  intro c1 hc1
  refine ⟨_, _, [0, 1], ⟨c1, hc1, rfl, rfl⟩, by decide, ⟨rfl, trivial⟩, eqvE_refl _, ⟨⟨_, rfl, eqvB_refl _⟩, ⟨_, rfl, ⟨rfl, ?_, ⟨⟨rfl, rfl, fun j hj => ?_⟩, trivial⟩⟩⟩, trivial⟩⟩
  · exact Nat.mul_one _
  · show ((q (o + j)).toNat : Int) = ((p j).toNat : Int)
    rw [hp j hj]
theorem can_spec (s : BusV) (l : Lists) (cr ci co : Nat) (hni : s.ni < 2 ^ 62) (hno : s.no < 2 ^ 62) (hnr : s.nr < 2 ^ 62) :
    Does TB 44 [.agg (s.segs (.gs 0 0 s.nr cr) (.gs 1 0 s.ni ci) (.gs 2 0 s.no co))] (l.blks s) (fun v h' => v = .s (.bool s.can) ∧ h' = l.blks s) := by
  refine fnX_does TB Tryz.func44 rfl (by decide) (fun O on hO => ?_)
  refine (fits_spec _ _).mono ?_
  rintro v h' ⟨rfl, rfl⟩
  repeat (refine need_intro (by simp) ?_)
  have fin : ∀ {x : Bool} {b0 b1 b2 b3 : Blk}, x = s.can → b0 = bblk l.mr s.nr l.ram l.sr → b1 = bblk l.mi s.ni l.inp l.si → b2 = bblk l.mo s.no l.out l.so → Anv.Ends (l.blks s).length (fun v h' => v = .s (.bool s.can) ∧ h' = l.blks s) (.s (.bool x)) [b0, b1, b2, b3] := by
    rintro x b0 b1 b2 b3 rfl rfl rfl rfl
    exact ⟨_, _, [0, 1, 2], ⟨rfl, rfl⟩, by decide, ⟨rfl, rfl, rfl, trivial⟩, eqvE_refl _, ⟨⟨_, rfl, eqvB_refl _⟩, ⟨_, rfl, eqvB_refl _⟩, ⟨_, rfl, eqvB_refl _⟩, trivial⟩⟩
  refine ifB_intro (fun h1 => ?_) (fun h1 => ?_)
  · refine fin ?_ rfl rfl rfl
    simp only [Bool.cond_true_left, Bool.or_eq_true, Bool.not_eq_true', fitsB, Bool.and_eq_false_iff, decide_eq_true_eq, decide_eq_false_iff_not] at h1
    symm
    unfold BusV.can
    rw [decide_eq_false_iff_not]
    omega
  · simp only [Bool.cond_true_left, Bool.or_eq_false_iff, Bool.not_eq_false', fitsB, Bool.and_eq_true, decide_eq_true_eq, decide_eq_false_iff_not] at h1
    have leaf : ∀ {x : Bool}, ((x = true ↔ ((s.off = 0 ∨ s.off = 1) ∧ s.code = 0 ∨ s.off = 2 ∧ 0 ≤ s.code ∧ s.code ≤ 65535))) → x = s.can := by
      intro x hx
      rw [Bool.eq_iff_iff, hx]
      unfold BusV.can
      rw [decide_eq_true_eq]
      constructor
      · intro h; omega
      · intro h; omega
    refine ifB_intro (fun h2 => ?_) (fun h2 => ?_)
    · have h2 : s.off = 0 := by simpa using h2
      refine ifB_intro (fun h3 => ?_) (fun h3 => by simp [h2] at h3)
      refine fin (leaf ?_) rfl rfl rfl
      simp [h2]
    · have h2 : ¬ s.off = 0 := by simpa using h2
      refine ifB_intro (fun h3 => ?_) (fun h3 => ?_)
      · have h3 : s.off = 1 := by simpa using h3
        refine fin (leaf ?_) rfl rfl rfl
        simp [h3]
      · have h3 : ¬ s.off = 1 := by simpa using h3
        refine ifB_intro (fun h4 => ?_) (fun h4 => ?_)
        · have h4 : s.off = 2 := by simpa using h4
          repeat (refine need_intro (by simp) ?_)
          refine fin (leaf ?_) rfl rfl rfl
          simp only [Bool.cond_false_right, Bool.and_eq_true, decide_eq_true_eq]
          omega
        · have h4 : ¬ s.off = 2 := by simpa using h4
          refine fin (leaf ?_) rfl rfl rfl
          simp [h2, h3, h4]
end Go.Proofs.YtdlpmbghocabbaaGreatDoor

/- The bus: the bus that a state makes. No condition: contracts of functions. -/
namespace Go.Proofs.YtdlpmbghocabbaaGreatDoor
open Go Go.Anv
theorem canBe_spec (s : BusV) (l : Lists) (cr ci co : Nat) (hni : s.ni < 2 ^ 62) (hno : s.no < 2 ^ 62) (hnr : s.nr < 2 ^ 62) :
    Does TB 23 [.agg (s.segs (.gs 0 0 s.nr cr) (.gs 1 0 s.ni ci) (.gs 2 0 s.no co))] (l.blks s) (fun v h' => v = .s (.bool s.can) ∧ h' = l.blks s) := by
  refine fnX_does TB Tryz.func23 rfl (by decide) (fun O on hO => ?_)
  have hm : (s.nr : Int).tmod 8 = ((s.nr % 8 : Nat) : Int) := rfl
  have fin : ∀ {x : Bool} {b0 b1 b2 b3 : Blk}, x = s.can → b0 = bblk l.mr s.nr l.ram l.sr → b1 = bblk l.mi s.ni l.inp l.si → b2 = bblk l.mo s.no l.out l.so → Anv.Ends (l.blks s).length (fun v h' => v = .s (.bool s.can) ∧ h' = l.blks s) (.s (.bool x)) [b0, b1, b2, b3] := by
    rintro x b0 b1 b2 b3 rfl rfl rfl rfl
    exact ⟨_, _, [0, 1, 2], ⟨rfl, rfl⟩, by decide, ⟨rfl, rfl, rfl, trivial⟩, eqvE_refl _, ⟨⟨_, rfl, eqvB_refl _⟩, ⟨_, rfl, eqvB_refl _⟩, ⟨_, rfl, eqvB_refl _⟩, trivial⟩⟩
  repeat (refine need_intro (by simp) ?_)
  refine ifB_intro (fun h1 => ?_) (fun h1 => ?_)
  · refine fin ?_ rfl rfl rfl
    rw [hm] at h1
    simp only [Bool.cond_true_left, Bool.or_eq_true, decide_eq_true_eq, bne_iff_ne, ne_eq] at h1
    symm
    unfold BusV.can
    rw [decide_eq_false_iff_not]
    omega
  · rw [hm] at h1
    simp only [Bool.cond_true_left, Bool.or_eq_false_iff, decide_eq_false_iff_not, bne_eq_false_iff_eq] at h1
    repeat (refine need_intro (by simp) ?_)
    refine ifB_intro (fun h2 => ?_) (fun h2 => ?_)
    · refine fin ?_ rfl rfl rfl
      simp only [Bool.cond_true_left, Bool.or_eq_true, decide_eq_true_eq] at h2
      symm
      unfold BusV.can
      rw [decide_eq_false_iff_not]
      omega
    · simp only [Bool.cond_true_left, Bool.or_eq_false_iff, decide_eq_false_iff_not] at h2
      have leaf : ∀ {x : Bool}, ((x = true ↔ ((s.off = 0 ∨ s.off = 1) ∧ s.code = 0 ∨ s.off = 2 ∧ 0 ≤ s.code ∧ s.code ≤ 65535))) → x = s.can := by
        intro x hx
        rw [Bool.eq_iff_iff, hx]
        unfold BusV.can
        rw [decide_eq_true_eq]
        constructor
        · intro h; omega
        · intro h; omega
      refine ifB_intro (fun h3 => ?_) (fun h3 => ?_)
      · have h3 : s.off = 2 := by simpa using h3
        repeat (refine need_intro (by simp) ?_)
        refine fin (leaf ?_) rfl rfl rfl
        simp only [Bool.cond_false_right, Bool.and_eq_true, decide_eq_true_eq]
        omega
      · have h3 : ¬ s.off = 2 := by simpa using h3
        refine fin (leaf ?_) rfl rfl rfl
        rw [beq_iff_eq]
        omega
set_option maxRecDepth 100000 in
theorem set_spec (s z : BusV) (l : Lists) (cr ci co c3 sp3 : Nat) (hni : s.ni ≤ 140737488355328) (hno : s.no ≤ 140737488355328) :
    Does TB 46 [.s (.ptr 4 6), .agg (s.segs (.gs 0 0 s.nr cr) (.gs 1 0 s.ni ci) (.gs 2 0 s.no co))] (l.blks s ++ [bblk true s.nr l.ram sp3, .cells true (z.dev 0 (.gs 3 0 s.nr c3) .nilslice .nilslice) 0])
      (fun v h' => ∃ c5 c6, s.ni ≤ c5 ∧ s.no ≤ c6 ∧ v = .tuple [] ∧ h' = l.blks s ++ [bblk true s.nr l.ram sp3,
        .cells true ({ z with ier := s.ier, lcr := s.lcr, mcr := s.mcr, scratch := s.scratch, overrun := s.overrun }.dev 0 (.gs 3 0 s.nr c3) (.gs 5 0 s.ni c5) (.gs 6 0 s.no c6)) 0, bblk true s.ni l.inp (c5 - s.ni), bblk true s.no l.out (c6 - s.no)]) := by
  refine fnXD_does TB Tryz.func46 rfl (by decide) (fun O on hO => ?_)
  refine (lock_spec (b := 4) (o := 6) rfl rfl rfl).mono ?_
  rintro _ h' ⟨rfl, hh⟩
  have hh : h' = [bblk l.mr s.nr l.ram l.sr, bblk l.mi s.ni l.inp l.si, bblk l.mo s.no l.out l.so, bblk true s.nr l.ram sp3, .cells true (z.dev 1 (.gs 3 0 s.nr c3) .nilslice .nilslice) 0, .cells true (s.segs (.gs 0 0 s.nr cr) (.gs 1 0 s.ni ci) (.gs 2 0 s.no co)) 0] := hh
  subst hh
  refine ⟨⟨_, _, _, rfl⟩, fun O' on' hO' hle => ?_⟩
  refine draw_but [4] on' rfl (fun _ _ h => h) ?_
  refine Does.at (own_spec l.mi s.ni 0 s.ni ci l.si l.inp l.inp (by omega) hni (fun j _ => by rw [Nat.zero_add])) [1] rfl ⟨rfl, trivial⟩ (by decide) ?_ ?_
  · rintro v h' ⟨cap, _, _, rfl⟩
    exact ⟨.inr (.inr rfl), .inl rfl, trivial⟩
  · rintro v h' ⟨c5, hc5, rfl, rfl⟩
    repeat (refine need_intro rfl ?_)
    refine Does.at (own_spec l.mo s.no 0 s.no co l.so l.out l.out (by omega) hno (fun j _ => by rw [Nat.zero_add])) [2] rfl ⟨rfl, trivial⟩ (by decide) ?_ ?_
    · rintro v h' ⟨cap, _, _, rfl⟩
      exact ⟨.inr (.inr rfl), .inl rfl, trivial⟩
    · rintro v h' ⟨c6, hc6, rfl, rfl⟩
      repeat (refine need_intro rfl ?_)
      refine draw_but [4] on' rfl (fun _ _ h => h) ?_
      repeat (refine need_intro rfl ?_)
      refine (unlock_spec (b := 4) (o := 6) rfl rfl rfl).mono ?_
      rintro _ h' ⟨_, hh⟩
      have hh : h' = [bblk l.mr s.nr l.ram l.sr, bblk l.mi s.ni l.inp l.si, bblk l.mo s.no l.out l.so, bblk true s.nr l.ram sp3,
        .cells true ({ z with ier := s.ier, lcr := s.lcr, mcr := s.mcr, scratch := s.scratch, overrun := s.overrun }.dev 0 (.gs 3 0 s.nr c3) (.gs 6 0 s.ni c5) (.gs 7 0 s.no c6)) 0,
        .cells true (s.segs (.gs 0 0 s.nr cr) (.gs 1 0 s.ni ci) (.gs 2 0 s.no co)) 0, bblk true s.ni l.inp (c5 - s.ni), bblk true s.no l.out (c6 - s.no)] := hh
      subst hh
      exact ⟨_, _, [0, 1, 2, 3, 4, 6, 7], ⟨c5, c6, hc5, hc6, rfl, rfl⟩, by decide, ⟨rfl, rfl, rfl, rfl, rfl, trivial⟩, trivial,
        ⟨⟨_, rfl, eqvB_refl _⟩, ⟨_, rfl, eqvB_refl _⟩, ⟨_, rfl, eqvB_refl _⟩, ⟨_, rfl, eqvB_refl _⟩, ⟨_, rfl, eqvB_refl _⟩, ⟨_, rfl, eqvB_refl _⟩, ⟨_, rfl, eqvB_refl _⟩, trivial⟩⟩
/-- A bus of a state: its own lists. -/
def devAt (s : BusV) (b : Nat) (cr ci co : Nat) : Blk := .cells true (s.dev 0 (.gs b 0 s.nr cr) (.gs (b + 2) 0 s.ni ci) (.gs (b + 3) 0 s.no co)) 0
theorem from_no (s : BusV) (l : Lists) (cr ci co : Nat) (hni : s.ni < 2 ^ 62) (hno : s.no < 2 ^ 62) (hnr : s.nr < 2 ^ 62) (hc : s.can = false) :
    Does TB 24 [.agg (s.segs (.gs 0 0 s.nr cr) (.gs 1 0 s.ni ci) (.gs 2 0 s.no co))] (l.blks s) (fun v h' => v = .tuple [.s .nilptr, .s (.int .i64 31)] ∧ h' = l.blks s) := by
  refine fnX_does TB Tryz.func24 rfl (by decide) (fun O on hO => ?_)
  refine Does.at (can_spec s l cr ci co hni hno hnr) [0, 1, 2] rfl ⟨rfl, rfl, rfl, trivial⟩ (by decide) ?_ ?_
  · rintro v h' ⟨_, rfl⟩
    exact ⟨.inr (.inr rfl), .inr (.inr rfl), .inr (.inr rfl), trivial⟩
  · rintro v h' ⟨rfl, rfl⟩
    rw [hc]
    exact ⟨_, _, [0, 1, 2], ⟨rfl, rfl⟩, by decide, ⟨rfl, rfl, rfl, trivial⟩, eqvE_refl _, ⟨⟨_, rfl, eqvB_refl _⟩, ⟨_, rfl, eqvB_refl _⟩, ⟨_, rfl, eqvB_refl _⟩, trivial⟩⟩
theorem from_yes (s : BusV) (l : Lists) (cr ci co : Nat) (hc : s.can = true) :
    Does TB 24 [.agg (s.segs (.gs 0 0 s.nr cr) (.gs 1 0 s.ni ci) (.gs 2 0 s.no co))] (l.blks s) (fun v h' => ∃ c3 c4 c5, s.nr ≤ c3 ∧ s.ni ≤ c4 ∧ s.no ≤ c5 ∧ v = .tuple [.s (.ptr 3 0), .s (.int .i64 0)] ∧
      h' = l.blks s ++ [.cells true (s.dev 0 (.gs 4 0 s.nr c3) (.gs 5 0 s.ni c4) (.gs 6 0 s.no c5)) 0, bblk true s.nr l.ram (c3 - s.nr), bblk true s.ni l.inp (c4 - s.ni), bblk true s.no l.out (c5 - s.no)]) := by
  have hcan := hc
  unfold BusV.can at hcan
  rw [decide_eq_true_eq] at hcan
  refine fnX_does TB Tryz.func24 rfl (by decide) (fun O on hO => ?_)
  refine Does.at (can_spec s l cr ci co (by omega) (by omega) (by omega)) [0, 1, 2] rfl ⟨rfl, rfl, rfl, trivial⟩ (by decide) ?_ ?_
  · rintro v h' ⟨_, rfl⟩
    exact ⟨.inr (.inr rfl), .inr (.inr rfl), .inr (.inr rfl), trivial⟩
  · rintro v h' ⟨rfl, rfl⟩
    rw [hc]
    refine Does.at (own_spec l.mr s.nr 0 s.nr cr l.sr l.ram l.ram (by omega) (by omega) (fun j _ => by rw [Nat.zero_add])) [0] rfl ⟨rfl, trivial⟩ (by decide) ?_ ?_
    · rintro v h' ⟨cap, _, _, rfl⟩
      exact ⟨.inr (.inr rfl), .inl rfl, trivial⟩
    · rintro v h' ⟨c3, hc3, rfl, rfl⟩
      refine need_intro rfl ?_
      refine need_intro rfl ?_
      refine draw_but [4] on rfl (fun _ _ h => h) ?_
      refine Does.at (set_spec s { s with ier := 0#8, lcr := 0#8, mcr := 0#8, scratch := 0#8, overrun := false } l cr ci co c3 (c3 - s.nr) (by omega) (by omega)) [0, 1, 2, 5, 4] rfl ⟨rfl, rfl, rfl, rfl, rfl, trivial⟩ (by decide) ?_ ?_
      · rintro v h' ⟨c5, c6, _, _, _, rfl⟩
        exact ⟨.inr (.inr rfl), .inr (.inr rfl), .inr (.inr rfl), .inl rfl, .inl rfl, .inl rfl, .inl rfl, trivial⟩
      · rintro v h' ⟨c5, c6, hc5, hc6, rfl, rfl⟩
        repeat (refine need_intro rfl ?_)
        exact ⟨_, _, [0, 1, 2, 4, 5, 6, 7], ⟨c3, c5, c6, hc3, hc5, hc6, rfl, rfl⟩, by decide, ⟨rfl, rfl, rfl, trivial⟩, eqvE_refl _,
          ⟨⟨_, rfl, eqvB_refl _⟩, ⟨_, rfl, eqvB_refl _⟩, ⟨_, rfl, eqvB_refl _⟩, ⟨_, rfl, eqvB_refl _⟩, ⟨_, rfl, eqvB_refl _⟩, ⟨_, rfl, eqvB_refl _⟩, ⟨_, rfl, eqvB_refl _⟩, trivial⟩⟩
end Go.Proofs.YtdlpmbghocabbaaGreatDoor

/- Check of a whole: the program's and the document's. No condition: contracts of functions. -/
namespace Go.Anv
open Go
/-- A Cpu's plain values. -/
structure CpuV where
  pc : B64
  x : Nat → B64
  mode : Int
  waiting : Bool
  mstatus : B64
  mtvec : B64
  mie : B64
  mcounteren : B64
  mcountinhibit : B64
  menvcfg : B64
  mscratch : B64
  mepc : B64
  mcause : B64
  mtval : B64
  mcycle : B64
  minstret : B64
  cfg : Nat → B8
  addr : Nat → B64
  rvalid : Bool
  raddr : B64
  rsize : Int
def CpuV.segs (c : CpuV) : List Seg :=
  [.one (.int .u64 c.pc.toNat), .ints .u64 32 (wfun c.x), .one (.int .i64 c.mode), .one (.bool c.waiting), .one (.int .u64 c.mstatus.toNat), .one (.int .u64 c.mtvec.toNat), .one (.int .u64 c.mie.toNat), .one (.int .u64 c.mcounteren.toNat),
    .one (.int .u64 c.mcountinhibit.toNat), .one (.int .u64 c.menvcfg.toNat), .one (.int .u64 c.mscratch.toNat), .one (.int .u64 c.mepc.toNat), .one (.int .u64 c.mcause.toNat), .one (.int .u64 c.mtval.toNat), .one (.int .u64 c.mcycle.toNat), .one (.int .u64 c.minstret.toNat),
    .ints .u8 16 (bfun c.cfg), .ints .u64 16 (wfun c.addr), .one (.bool c.rvalid), .one (.int .u64 c.raddr.toNat), .one (.int .i64 c.rsize)]
theorem eqvS_gs {b o n c b' o' n' c' : Nat} {r r' : List Seg} (h1 : b = b' ∧ o = o' ∧ n = n' ∧ c = c') (h : eqvS r r') : eqvS (.one (.gs b o n c) :: r) (.one (.gs b' o' n' c') :: r') := ⟨h1, h⟩
/-- The cells of api.Whole. -/
def wsegs (c : CpuV) (s : BusV) (r i o : SV) : List Seg := c.segs ++ s.segs r i o
end Go.Anv
namespace Go.Proofs.YtdlpmbghocabbaaGreatDoor
open Go Go.Anv
theorem check_spec (c : CpuV) (s : BusV) (l : Lists) (cr ci co : Nat) (hni : s.ni < 2 ^ 62) (hno : s.no < 2 ^ 62) (hnr : s.nr < 2 ^ 62) :
    Does TB 18 [.agg (wsegs c s (.gs 0 0 s.nr cr) (.gs 1 0 s.ni ci) (.gs 2 0 s.no co))] (l.blks s) (fun v h' => v = .s (.int .i64 (if s.can then 0 else 162)) ∧ h' = l.blks s) := by
  refine fnX_does TB Tryz.func18 rfl (by decide) (fun O on hO => ?_)
  cases hc : s.can with
  | false =>
    refine Does.at (from_no s l cr ci co hni hno hnr hc) [0, 1, 2] rfl ⟨rfl, rfl, rfl, trivial⟩ (by decide) ?_ ?_
    · rintro v h' ⟨_, rfl⟩
      exact ⟨.inr (.inr rfl), .inr (.inr rfl), .inr (.inr rfl), trivial⟩
    · rintro v h' ⟨rfl, rfl⟩
      exact ⟨_, _, [0, 1, 2], ⟨rfl, rfl⟩, by decide, ⟨rfl, rfl, rfl, trivial⟩, eqvE_refl _, ⟨⟨_, rfl, eqvB_refl _⟩, ⟨_, rfl, eqvB_refl _⟩, ⟨_, rfl, eqvB_refl _⟩, trivial⟩⟩
  | true =>
    refine Does.at (from_yes s l cr ci co hc) [0, 1, 2] rfl ⟨rfl, rfl, rfl, trivial⟩ (by decide) ?_ ?_
    · rintro v h' ⟨c3, c4, c5, _, _, _, _, rfl⟩
      exact ⟨.inr (.inr rfl), .inr (.inr rfl), .inr (.inr rfl), .inl rfl, .inl rfl, .inl rfl, .inl rfl, trivial⟩
    · rintro v h' ⟨c3, c4, c5, _, _, _, rfl, rfl⟩
      exact ⟨_, _, [0, 1, 2], ⟨rfl, rfl⟩, by decide, ⟨rfl, rfl, rfl, trivial⟩, eqvE_refl _, ⟨⟨_, rfl, eqvB_refl _⟩, ⟨_, rfl, eqvB_refl _⟩, ⟨_, rfl, eqvB_refl _⟩, trivial⟩⟩
theorem num16_spec (e : Int) (h : List Blk) : Does TB 17 [.s (.int .i64 e)] h (fun v h' => v = .s (.int .i64 e) ∧ h' = h) := by
  refine fnX_pure TB Tryz.func17 rfl (by decide) rfl _ rfl (fun O on => ?_) h
  exact eqvE_refl _
theorem cat_zero {n : Nat} (q : Nat → B8) {f : Nat → Int} : ∀ j, j < 0 + n → catF 0 f (shf 0 (bfun q)) j = bfun q j := by
  intro j _
  unfold catF shf
  rw [if_neg (Nat.not_lt_zero j), Nat.sub_zero, Nat.zero_add]
theorem twin_spec (c : CpuV) (s : BusV) (l : Lists) (cr ci co : Nat) (hnr : s.nr ≤ 140737488355328) (hni : s.ni ≤ 140737488355328) (hno : s.no ≤ 140737488355328) :
    Does TB 15 [.agg (wsegs c s (.gs 0 0 s.nr cr) (.gs 1 0 s.ni ci) (.gs 2 0 s.no co))] (l.blks s) (fun v h' => ∃ c3 c4 c5, s.nr ≤ c3 ∧ s.ni ≤ c4 ∧ s.no ≤ c5 ∧ v = .agg (wsegs c s (.gs 3 0 s.nr c3) (.gs 4 0 s.ni c4) (.gs 5 0 s.no c5)) ∧
      h' = l.blks s ++ [bblk true s.nr l.ram (c3 - s.nr), bblk true s.ni l.inp (c4 - s.ni), bblk true s.no l.out (c5 - s.no)]) := by
  refine fnX_does TB Tryz.func15 rfl (by decide) (fun O on hO => ?_)
  refine need_intro ⟨by show 0 + s.nr ≤ s.nr; omega, rfl, rfl, room5 _ (by show 0 + s.nr ≤ _; omega)⟩ ?_
  intro c3 hc3
  have hc3 : 0 + s.nr ≤ c3 := hc3
  refine need_intro ⟨by show 0 + s.ni ≤ s.ni; omega, rfl, rfl, room5 _ (by show 0 + s.ni ≤ _; omega)⟩ ?_
  intro c4 hc4
  have hc4 : 0 + s.ni ≤ c4 := hc4
  refine need_intro ⟨by show 0 + s.no ≤ s.no; omega, rfl, rfl, room5 _ (by show 0 + s.no ≤ _; omega)⟩ ?_
  intro c5 hc5
  have hc5 : 0 + s.no ≤ c5 := hc5
  refine need_intro rfl ?_
  have z : ∀ n : Nat, 0 + n = n := Nat.zero_add
  rw [z] at hc3 hc4 hc5
  refine ⟨_, _, [0, 1, 2, 6, 8, 10], ⟨c3, c4, c5, hc3, hc4, hc5, rfl, rfl⟩, by decide, ⟨rfl, rfl, rfl, trivial⟩, ?_, ⟨⟨_, rfl, eqvB_refl _⟩, ⟨_, rfl, eqvB_refl _⟩, ⟨_, rfl, eqvB_refl _⟩, ⟨_, rfl, ⟨rfl, ?_, ⟨⟨rfl, z _, ?_⟩, trivial⟩⟩⟩, ⟨_, rfl, ⟨rfl, ?_, ⟨⟨rfl, z _, ?_⟩, trivial⟩⟩⟩, ⟨_, rfl, ⟨rfl, ?_, ⟨⟨rfl, z _, ?_⟩, trivial⟩⟩⟩, trivial⟩⟩
  · show eqvS _ _
    repeat' (first | exact eqvS_nil | refine eqvS_same ?_ | refine eqvS_gs ⟨rfl, rfl, z _, rfl⟩ ?_)
  · show (c3 - (0 + s.nr)) * 1 = c3 - s.nr
    rw [z, Nat.mul_one]
  · exact cat_zero l.ram
  · show (c4 - (0 + s.ni)) * 1 = c4 - s.ni
    rw [z, Nat.mul_one]
  · exact cat_zero l.inp
  · show (c5 - (0 + s.no)) * 1 = c5 - s.no
    rw [z, Nat.mul_one]
  · exact cat_zero l.out
end Go.Proofs.YtdlpmbghocabbaaGreatDoor

/- Proper Cpus: the program's and the document's. No condition: contracts of functions. -/
set_option linter.unusedSimpArgs false
namespace Go.Anv
open Go
def cfgOf (c : B8) : B8 := if c &&& 0x9f#8 &&& 1#8 = 0#8 then c &&& 0x9f#8 &&& ~~~2#8 else c &&& 0x9f#8
def addrBits : B64 := 0x3fffffffffffff#64
def pmpSeg (cfg : Nat → B8) (addr : Nat → B64) : List Seg := [.ints .u8 16 (bfun cfg), .ints .u64 16 (wfun addr)]
def resSeg (v : Bool) (a : B64) (s : Int) : List Seg := [.one (.bool v), .one (.int .u64 a.toNat), .one (.int .i64 s)]
/-- May it be a reservation? -/
def resOk (v : Bool) (a : B64) (s : Int) : Bool := v && (decide (s = 4) && decide (a.toNat % 4 = 0) || decide (s = 8) && decide (a.toNat % 8 = 0))
def statusOf (m : B64) : B64 := (m &&& 2228360#64) ||| (if m &&& 6144#64 = 6144#64 then 6144#64 else 0#64) ||| 8589934592#64
def CpuV.proper (c : CpuV) : CpuV :=
  { c with
    pc := c.pc &&& ~~~1#64
    mepc := c.mepc &&& ~~~1#64
    x := fun j => if j = 0 then 0#64 else c.x j
    mode := if c.mode = 3 then 3 else 0
    mstatus := statusOf c.mstatus
    mtvec := c.mtvec &&& ~~~2#64
    mie := c.mie &&& 2184#64
    mcounteren := c.mcounteren &&& 7#64
    mcountinhibit := c.mcountinhibit &&& 5#64
    menvcfg := c.menvcfg &&& 1#64
    cfg := fun j => cfgOf (c.cfg j)
    addr := fun j => c.addr j &&& addrBits
    rvalid := resOk c.rvalid c.raddr c.rsize
    raddr := if resOk c.rvalid c.raddr c.rsize then c.raddr else 0#64
    rsize := if resOk c.rvalid c.raddr c.rsize then c.rsize else 0 }
theorem mask_k : ∀ i, i < 64 → (6144#64).getLsbD i = (i == 11 || i == 12) := by decide
theorem mask_c : ∀ i, i < 64 → (2234504#64).getLsbD i = ((2228360#64).getLsbD i || (i == 11 || i == 12)) := by decide
theorem mask_d : (2228360#64).getLsbD 11 = false ∧ (2228360#64).getLsbD 12 = false := by decide
theorem mpp_bits (m : B64) : ((m &&& 2234504#64) >>> 11 &&& 3#64 = 1#64 ∨ (m &&& 2234504#64) >>> 11 &&& 3#64 = 2#64) ↔ m.getLsbD 11 ≠ m.getLsbD 12 := by
  have h0 : (m &&& 2234504#64) >>> 11 &&& 3#64 = m >>> 11 &&& 3#64 := by
    apply BitVec.eq_of_getLsbD_eq
    intro i hi
    have h3 : ∀ i, i < 64 → (3#64).getLsbD i = true → i = 0 ∨ i = 1 := by decide
    simp only [BitVec.getLsbD_and, BitVec.getLsbD_ushiftRight]
    cases h : (3#64).getLsbD i with
    | false => simp
    | true =>
      rcases h3 i hi h with rfl | rfl
      · have : (2234504#64).getLsbD (11 + 0) = true := by decide
        simp [this]
      · have : (2234504#64).getLsbD (11 + 1) = true := by decide
        simp [this]
  rw [h0]
  have hx : (m >>> 11 &&& 3#64).toNat = m.toNat / 2048 % 4 := by
    rw [BitVec.toNat_and, BitVec.toNat_ushiftRight, Nat.shiftRight_eq_div_pow]
    exact Nat.and_two_pow_sub_one_eq_mod _ 2
  have h11 : m.getLsbD 11 = decide (m.toNat / 2048 % 2 = 1) := by
    show m.toNat.testBit 11 = _
    rw [Nat.testBit_eq_decide_div_mod_eq]
  have h12 : m.getLsbD 12 = decide (m.toNat / 4096 % 2 = 1) := by
    show m.toNat.testBit 12 = _
    rw [Nat.testBit_eq_decide_div_mod_eq]
  rw [h11, h12, ← BitVec.toNat_inj, ← BitVec.toNat_inj, hx]
  have e1 : (1#64).toNat = 1 := rfl
  have e2 : (2#64).toNat = 2 := rfl
  rw [e1, e2, ne_eq, decide_eq_decide]
  omega
theorem mpp_full (m : B64) : m &&& 6144#64 = 6144#64 ↔ (m.getLsbD 11 = true ∧ m.getLsbD 12 = true) := by
  constructor
  · intro h
    have h1 := congrArg (fun x : B64 => x.getLsbD 11) h
    have h2 := congrArg (fun x : B64 => x.getLsbD 12) h
    simp only [BitVec.getLsbD_and, mask_k 11 (by decide), mask_k 12 (by decide)] at h1 h2
    have k1 : (11 == 11 || 11 == 12) = true := by decide
    have k2 : (12 == 11 || 12 == 12) = true := by decide
    rw [k1, Bool.and_true] at h1
    rw [k2, Bool.and_true] at h2
    exact ⟨h1, h2⟩
  · rintro ⟨h1, h2⟩
    apply BitVec.eq_of_getLsbD_eq
    intro i hi
    rw [BitVec.getLsbD_and, mask_k i hi]
    by_cases h : i = 11
    · subst h; simp [h1]
    · by_cases h' : i = 12
      · subst h'; simp [h2]
      · rw [beq_eq_false_iff_ne.2 h, beq_eq_false_iff_ne.2 h']
        simp only [Bool.or_false, Bool.and_false]
theorem status_yes (m : B64) (h : (m &&& 2234504#64) >>> 11 &&& 3#64 = 1#64 ∨ (m &&& 2234504#64) >>> 11 &&& 3#64 = 2#64) : m &&& 2234504#64 &&& ~~~6144#64 ||| 8589934592#64 = statusOf m := by
  have h := (mpp_bits m).1 h
  have hf : ¬ m &&& 6144#64 = 6144#64 := fun e => by
    obtain ⟨a, b⟩ := (mpp_full m).1 e
    exact h (a.trans b.symm)
  unfold statusOf
  rw [if_neg hf, BitVec.or_zero]
  congr 1
  apply BitVec.eq_of_getLsbD_eq
  intro i hi
  simp only [BitVec.getLsbD_and, BitVec.getLsbD_not, hi, decide_true, Bool.true_and, mask_k i hi, mask_c i hi]
  by_cases h1 : i = 11
  · subst h1; simp [mask_d.1]
  · by_cases h2 : i = 12
    · subst h2; simp [mask_d.2]
    · rw [beq_eq_false_iff_ne.2 h1, beq_eq_false_iff_ne.2 h2]
      simp only [Bool.or_false, Bool.not_false, Bool.and_true]
theorem status_no (m : B64) (h : ¬ ((m &&& 2234504#64) >>> 11 &&& 3#64 = 1#64 ∨ (m &&& 2234504#64) >>> 11 &&& 3#64 = 2#64)) : m &&& 2234504#64 ||| 8589934592#64 = statusOf m := by
  have h := fun e => h ((mpp_bits m).2 e)
  have heq : m.getLsbD 11 = m.getLsbD 12 := Classical.byContradiction h
  unfold statusOf
  congr 1
  apply BitVec.eq_of_getLsbD_eq
  intro i hi
  rw [BitVec.getLsbD_and, BitVec.getLsbD_or, BitVec.getLsbD_and, mask_c i hi]
  by_cases hf : m &&& 6144#64 = 6144#64
  · obtain ⟨a, b⟩ := (mpp_full m).1 hf
    rw [if_pos hf, mask_k i hi]
    by_cases h1 : i = 11
    · subst h1; rw [a, mask_d.1]; rfl
    · by_cases h2 : i = 12
      · subst h2; rw [b, mask_d.2]; rfl
      · rw [beq_eq_false_iff_ne.2 h1, beq_eq_false_iff_ne.2 h2]
        simp only [Bool.or_false]
  · rw [if_neg hf, BitVec.getLsbD_zero, Bool.or_false]
    have ha : m.getLsbD 11 = false := by
      cases hq : m.getLsbD 11 with
      | false => rfl
      | true => exact absurd ((mpp_full m).2 ⟨hq, by rw [← heq]; exact hq⟩) hf
    by_cases h1 : i = 11
    · subst h1; rw [ha]; rfl
    · by_cases h2 : i = 12
      · subst h2; rw [← heq, ha]; rfl
      · rw [beq_eq_false_iff_ne.2 h1, beq_eq_false_iff_ne.2 h2]
        simp only [Bool.or_false]
theorem toNat_ofInt_int {w : Nat} (a : BitVec w) (n : Int) (h0 : 0 ≤ n) (h1 : n < 2 ^ w) : ((a.toNat : Int) = n) ↔ a = BitVec.ofInt w n := by
  have := beq_lit a n h0 h1
  rw [Bool.eq_iff_iff, beq_iff_eq, beq_iff_eq] at this
  exact this
theorem and_low (a : B64) (k : Nat) (hk : k < 64) : a &&& BitVec.ofNat 64 (2 ^ k - 1) = 0#64 ↔ a.toNat % 2 ^ k = 0 := by
  rw [← BitVec.toNat_inj, BitVec.toNat_and, BitVec.toNat_ofNat, Nat.mod_eq_of_lt, Nat.and_two_pow_sub_one_eq_mod]
  · simp
  · have : 2 ^ k ≤ 2 ^ 63 := Nat.pow_le_pow_right (by decide) (by omega)
    have : 0 < 2 ^ k := Nat.two_pow_pos k
    omega
theorem rres_cond (v : Bool) (a : B64) (s : Int) : (bif bif !v then true else bif s != 4 then s != 8 else false then true else bif (a.toNat : Int).tmod 8 != 0 then bif s == 8 then true else (a.toNat : Int).tmod 4 != 0 else false) = !resOk v a s := by
  have e8 : (a.toNat : Int).tmod 8 = ((a.toNat % 8 : Nat) : Int) := rfl
  have e4 : (a.toNat : Int).tmod 4 = ((a.toNat % 4 : Nat) : Int) := rfl
  rw [e8, e4]
  unfold resOk
  cases v
  · rfl
  · by_cases h4 : s = 4
    · subst h4
      by_cases h : a.toNat % 4 = 0
      · simp [h]
      · have h8 : ¬ a.toNat % 8 = 0 := by omega
        have h8' : ¬ (a.toNat : Int) % 8 = 0 := by omega
        have h4' : ¬ (a.toNat : Int) % 4 = 0 := by omega
        simp [h, h8, h8', h4']
    · by_cases h8 : s = 8
      · subst h8
        by_cases h : a.toNat % 8 = 0
        · have h' : (a.toNat : Int) % 8 = 0 := by omega
          simp [h, h']
        · have h' : ¬ (a.toNat : Int) % 8 = 0 := by omega
          simp [h, h']
      · simp [h4, h8]
theorem resOk_valid {v : Bool} {a : B64} {s : Int} (h : resOk v a s = true) : v = true := by
  unfold resOk at h
  simp only [Bool.and_eq_true] at h
  exact h.1
theorem and_3 (a : B64) : a &&& 3#64 = 0#64 ↔ a.toNat % 4 = 0 := and_low a 2 (by decide)
theorem and_7 (a : B64) : a &&& 7#64 = 0#64 ↔ a.toNat % 8 = 0 := and_low a 3 (by decide)
theorem res_cond (v : Bool) (a : B64) (s : Int) : (bif bif !v then true else bif s != 4 then s != 8 else false then true else bitX .and .u64 (a.toNat : Int) (IntKind.u64.wrap (IntKind.i64.wrap (s - 1))) != 0) = !resOk v a s := by
  unfold resOk
  cases v
  · rfl
  · by_cases h4 : s = 4
    · subst h4
      have hw : IntKind.u64.wrap (IntKind.i64.wrap (4 - 1)) = 3 := by decide
      rw [hw, and_u64, ofInt_toNat]
      simp only [BitVec.reduceOfInt, bne_lit, Int.reduceLE, Int.reducePow, Int.reduceLT]
      have := and_3 a
      by_cases h : a.toNat % 4 = 0
      · simp [h, this.2 h]
      · have h' : ¬ a &&& 3#64 = 0#64 := fun e => h (this.1 e)
        simp [h, h']
    · by_cases h8 : s = 8
      · subst h8
        have hw : IntKind.u64.wrap (IntKind.i64.wrap (8 - 1)) = 7 := by decide
        rw [hw, and_u64, ofInt_toNat]
        simp only [BitVec.reduceOfInt, bne_lit, Int.reduceLE, Int.reducePow, Int.reduceLT]
        have := and_7 a
        by_cases h : a.toNat % 8 = 0
        · simp [h, this.2 h]
        · have h' : ¬ a &&& 7#64 = 0#64 := fun e => h (this.1 e)
          simp [h, h']
      · simp [h4, h8]
end Go.Anv
namespace Go.Proofs.YtdlpmbghocabbaaGreatDoor
open Go Go.Anv
theorem byteOf_spec (c : B8) (h : List Blk) : Does TB 48 [.s (.int .u8 c.toNat)] h (fun v h' => v = .s (.int .u8 (cfgOf c).toNat) ∧ h' = h) := by
  refine fnX_pure TB Tryz.func48 rfl (by decide) rfl _ rfl (fun O on => ?_) h
  refine ifB_intro (fun h1 => ?_) (fun h1 => ?_)
  · refine ⟨rfl, ?_⟩
    simp only [and_u8, andNot_u8, ofInt_toNat, BitVec.reduceOfInt, beq_lit, Int.reduceLE, Int.reducePow, Int.reduceLT, beq_iff_eq] at h1 ⊢
    simp only [cfgOf, if_pos h1]
  · refine ⟨rfl, ?_⟩
    simp only [and_u8, andNot_u8, ofInt_toNat, BitVec.reduceOfInt, beq_lit, Int.reduceLE, Int.reducePow, Int.reduceLT, beq_eq_false_iff_ne, ne_eq] at h1 ⊢
    simp only [cfgOf, if_neg h1]
/-- The first i entries made proper. -/
def cfgTo (i : Nat) (cfg : Nat → B8) (j : Nat) : B8 := if j < i then cfgOf (cfg j) else cfg j
def addrTo (i : Nat) (addr : Nat → B64) (j : Nat) : B64 := if j < i then addr j &&& addrBits else addr j
theorem cfgTo_step (i : Nat) (cfg : Nat → B8) (j : Nat) : (if j = i then ((cfgOf (cfgTo i cfg i)).toNat : Int) else bfun (cfgTo i cfg) j) = bfun (cfgTo (i + 1) cfg) j := by
  simp only [bfun, cfgTo]
  rcases Nat.lt_trichotomy j i with hj | hj | hj
  · rw [if_neg (by omega), if_pos hj, if_pos (by omega)]
  · subst hj; rw [if_pos rfl, if_neg (by omega), if_pos (by omega)]
  · rw [if_neg (by omega), if_neg (by omega), if_neg (by omega)]
theorem addrTo_step (i : Nat) (addr : Nat → B64) (j : Nat) : (if j = i then ((addrTo i addr i &&& addrBits).toNat : Int) else wfun (addrTo i addr) j) = wfun (addrTo (i + 1) addr) j := by
  simp only [wfun, addrTo]
  rcases Nat.lt_trichotomy j i with hj | hj | hj
  · rw [if_neg (by omega), if_pos hj, if_pos (by omega)]
  · subst hj; rw [if_pos rfl, if_neg (by omega), if_pos (by omega)]
  · rw [if_neg (by omega), if_neg (by omega), if_neg (by omega)]
theorem properP_spec (cfg : Nat → B8) (addr : Nat → B64) (h : List Blk) : Does TB 28 [.agg (pmpSeg cfg addr)] h (fun v h' => v = .agg (pmpSeg (fun j => cfgOf (cfg j)) (fun j => addr j &&& addrBits)) ∧ h' = h) := by
  refine fnX_pure TB Tryz.func28 rfl (by decide) rfl _ rfl (fun O on => ?_) h
  refine loop_by (A := Nat) on (fun i => [(4, .s (.int .i64 (i : Int)))]) (fun i => [.cells true (pmpSeg (cfgTo i cfg) (addrTo i addr)) 0, .cells true [.ints .u8 16 (fun _ => 0), .ints .u64 16 (fun _ => 0)] 0]) (fun i => i ≤ 16) (fun i => 16 - i) 0 (by omega) ?_ ?_
  · refine ⟨?_, ?_⟩
    · repeat' (first | exact eqvT_nil | refine eqvT_junk ?_ | refine eqvT_same ?_ | refine eqvT_int ?_ ?_)
    · refine ⟨⟨rfl, rfl, ⟨rfl, rfl, fun j _ => ?_⟩, ⟨rfl, rfl, fun j _ => ?_⟩, trivial⟩, eqvB_refl _, trivial⟩ <;> simp [cfgTo, addrTo, bfun, wfun]
  · intro i hi
    refine ifB_intro (fun h1 => ?_) (fun h1 => ?_)
    · have h1 : i < 16 := by have := of_decide_eq_true h1; omega
      refine need_intro (by omega) ?_
      refine need_intro (by omega) ?_
      refine (byteOf_spec _ _).mono ?_
      rintro v h' ⟨rfl, rfl⟩
      refine need_intro (by omega) ?_
      refine need_intro (by omega) ?_
      refine need_intro (by omega) ?_
      refine need_intro (by omega) ?_
      refine need_intro (by omega) ?_
      refine need_intro (by omega) ?_
      refine ⟨i + 1, by omega, by simp only; omega, ?_⟩
      refine ⟨?_, ?_⟩
      · repeat' (first | exact eqvT_nil | refine eqvT_junk ?_ | refine eqvT_same ?_ | refine eqvT_int ?_ ?_)
        rw [i64_in (by omega) (by omega)]; omega
      · refine ⟨⟨rfl, rfl, ⟨rfl, rfl, fun j _ => ?_⟩, ⟨rfl, rfl, fun j _ => ?_⟩, trivial⟩, eqvB_refl _, trivial⟩
        · simp only [Int.toNat_natCast]
          exact cfgTo_step i cfg j
        · simp only [Int.toNat_natCast]
          rw [show wfun (addrTo i addr) i = ((addrTo i addr i).toNat : Int) from rfl, and_u64, ofInt_toNat]
          exact addrTo_step i addr j
    · have h1 : i = 16 := by have := of_decide_eq_false h1; omega
      subst h1
      refine need_intro rfl ?_
      refine ⟨⟨rfl, rfl, fun j hj => ?_⟩, ⟨rfl, rfl, fun j hj => ?_⟩, trivial⟩ <;> simp [cfgTo, addrTo, bfun, wfun, hj]
theorem reservation_spec (v : Bool) (a : B64) (s : Int) (h : List Blk) :
    Does TB 29 [.agg (resSeg v a s)] h (fun r h' => r = .agg (resSeg (resOk v a s) (if resOk v a s then a else 0#64) (if resOk v a s then s else 0)) ∧ h' = h) := by
  refine fnX_pure TB Tryz.func29 rfl (by decide) rfl _ rfl (fun O on => ?_) h
  repeat (refine need_intro (by first | exact fun h => h | (simp; done) | grind) ?_)
  refine ifB_intro (fun h1 => ?_) (fun h1 => ?_)
  · rw [res_cond, Bool.not_eq_true'] at h1
    refine need_intro rfl ?_
    rw [h1]
    exact eqvE_refl _
  · rw [res_cond, Bool.not_eq_false'] at h1
    refine need_intro rfl ?_
    rw [h1]
    have hv : v = true := by
      unfold resOk at h1
      simp only [Bool.and_eq_true] at h1
      exact h1.1
    rw [hv]
    exact eqvE_refl _
theorem zero_first (x : Nat → B64) (j : Nat) : (if j = 0 then (0 : Int) else wfun x j) = wfun (fun j => if j = 0 then 0#64 else x j) j := by
  simp only [wfun]
  split <;> rfl
theorem mpp_nat (m : B64) : ((if m &&& 6144#64 = 6144#64 then (6144 : Int) else 0)) = ((if m &&& 6144#64 = 6144#64 then 6144#64 else 0#64 : B64).toNat : Int) := by split <;> rfl
set_option maxRecDepth 100000 in
theorem proper_spec (c : CpuV) (h : List Blk) : Does TB 11 [.agg c.segs] h (fun v h' => v = .agg c.proper.segs ∧ h' = h) := by
  refine fnX_pure TB Tryz.func11 rfl (by decide) rfl _ rfl (fun O on => ?_) h
  refine need_intro (by decide) ?_
  refine need_intro (by decide) ?_
  have hst : ∀ x : Int, x = (if c.mstatus &&& 6144#64 = 6144#64 then 6144 else 0) → bitX .or .u64 (bitX .or .u64 (bitX .and .u64 (c.mstatus.toNat : Int) 2228360) x) 8589934592 = ((statusOf c.mstatus).toNat : Int) := by
    rintro x rfl
    rw [mpp_nat, and_u64, or_u64]
    simp only [ofInt_toNat, or_u64, BitVec.reduceOfInt]
    rfl
  refine ifB_intro (fun h1 => ?_) (fun h1 => ?_) <;> refine ifB_intro (fun h2 => ?_) (fun h2 => ?_)
  all_goals
    refine (properP_spec c.cfg c.addr _).mono ?_
    rintro _ _ ⟨rfl, rfl⟩
    refine need_intro rfl ?_
    refine (reservation_spec c.rvalid c.raddr c.rsize _).mono ?_
    rintro _ _ ⟨rfl, rfl⟩
    refine need_intro rfl ?_
    refine need_intro rfl ?_
    rw [and_u64, ofInt_toNat] at h2
    simp only [BitVec.reduceOfInt, bne_lit, Int.reduceLE, Int.reducePow, Int.reduceLT, bne_iff_ne, bne_eq_false_iff_eq, ne_eq] at h1 h2
    show eqvS _ _
    repeat' (first | exact eqvS_nil | refine eqvS_same ?_ | refine eqvS_int ?_ ?_ | refine eqvS_ints ?_ ?_)
  all_goals first
    | (simp only [andNot_u64, and_u64, ofInt_toNat, BitVec.reduceOfInt]; rfl)
    | (intro j _; exact zero_first c.x j)
    | (refine hst _ ?_; simp [h2]; done)
    | (refine hst _ ?_; rw [and_u64, ofInt_toNat]; simp [h2]; done)
    | simp [CpuV.proper, h1]
end Go.Proofs.YtdlpmbghocabbaaGreatDoor

/- The engine, part 20: functions that defer one clearing of a map. Plain theorems; no condition. -/
namespace Go.Anv
open Go

section
variable {P : Program}

theorem step_defer_builtin {fr : Frame} {cs : List Frame} {w w2 : World} {d : Deferred} {ds : List Deferred} {b : Builtin} {tys : Array TypeId} {ty : TypeId} {consts : Array Bool} {v : Value}
    (hm : fr.mode = .returning) (hd : fr.defers = d :: ds) (ht : d.target = .builtin b tys ty consts) (hi : (invoke d.target d.args).run P w = .ok (.value v) w2) :
    step P (lone fr cs w) = .next (lone { fr with defers := ds } cs w2) := by
  obtain ⟨t, a⟩ := d
  simp only at ht hi
  subst ht
  refine step_lone_go ?_
  simp [stepG, unwind, callDeferred, hm, hd, hi]

def postB (P : Program) (fn : Func) (R : Ending → World → Prop) : Exit → Act → World → Prop
  | .normal, a, w | .ret, a, w => ∃ d b tys ty consts v w2 r, a.defers = [d] ∧ d.target = .builtin b tys ty consts ∧ (invoke d.target d.args).run P w = .ok (.value v) w2 ∧ (results fn a.tmps).run P w2 = .ok r w2 ∧ R (.returned r) w2
  | _, _, _ => False

theorem calls_of_wp_builtin {f : FuncId} {fn : Func} {c : Code} {args : Array Value} {w : World} {R : Ending → World → Prop}
    (hf : P.funcs[f]? = some fn) (hb : fn.body = some c)
    (h : c.wp P (postB P fn R) { tmps := args ++ Array.replicate (fn.ntmps - args.size) undef, defers := [] } w) : Calls P f args w R := by
  intro cs
  let b : Frame := { (default : Frame) with fn := f, kind := .normal }
  have henter : Frame.enter P f args .normal =
      b.at { tmps := args ++ Array.replicate (fn.ntmps - args.size) undef, defers := [] } [.code c] := by
    simp [Frame.enter, Frame.at, hf, hb, b]
  obtain ⟨e, a', w', hq, harr⟩ := h b [] cs
  rw [← henter] at harr
  have fin : ∀ (todo : List Item) (w' : World), postB P fn R .normal a' w' → Steps P (lone (Frame.enter P f args .normal) cs w) (lone { b.at a' todo with mode := .returning } cs w') →
      ∃ e w'' fr', R e w'' ∧ Comes P (lone (Frame.enter P f args .normal) cs w) (lone fr' cs w'') e ∧ fr'.fn = f ∧ fr'.leaving P w'' e := by
    intro todo w' hq hs
    obtain ⟨d, bb, tys, ty, consts, v, w2, r, h1, h2, h3, h4, h5⟩ := hq
    have hst := step_defer_builtin (fr := { b.at a' todo with mode := .returning }) (cs := cs) rfl h1 h2 h3
    exact ⟨.returned r, w2, _, h5, Steps.trans hs (.one hst), rfl, rfl, rfl, rfl, fn, hf, h4⟩
  cases e with
  | normal => exact fin [] w' hq (Steps.trans harr (.one step_end))
  | ret =>
    obtain ⟨todo, hs₀⟩ := harr
    exact fin todo w' hq hs₀
  | panic chain => exact hq.elim
  | exit id => exact hq.elim
  | goto l => exact hq.elim
  | outgrown => exact hq.elim
end

/-- The operations ahead of a deferred clearing that stands last; the map; its type. -/
def lastB : List Oper → Option (List Oper × Operand × TypeId)
  | [] => none
  | [o] => match o.guard, o.dst, o.op with
    | none, none, .defer { callee := .builtin .clear, args, argTypes } => match args.toList, argTypes.toList with
      | [x], [t] => some ([], x, t)
      | _, _ => none
    | _, _, _ => none
  | o :: r => match lastB r with
    | some (p, x, t) => some (o :: p, x, t)
    | none => none

theorem lastB_spec : ∀ {l pre : List Oper} {x : Operand} {t : TypeId}, lastB l = some (pre, x, t) → ∃ o, l = pre ++ [o] ∧ o.guard = none ∧ o.dst = none ∧ o.op = .defer { callee := .builtin .clear, args := #[x], argTypes := #[t] }
  | [], _, _, _, h => by simp [lastB] at h
  | [o], pre, x, t, h => by
    simp only [lastB] at h
    split at h
    · rename_i args tys hg hd hop
      split at h
      · rename_i x' t' hx ht
        simp only [Option.some.injEq, Prod.mk.injEq] at h
        obtain ⟨rfl, rfl, rfl⟩ := h
        have ex : args = #[x'] := by rw [← Array.toList_inj]; exact hx
        have et : tys = #[t'] := by rw [← Array.toList_inj]; exact ht
        exact ⟨o, rfl, hg, hd, by rw [hop, ex, et]⟩
      · cases h
    · cases h
  | o :: o' :: r, pre, x, t, h => by
    simp only [lastB] at h
    split at h
    · rename_i p x' t' hr
      simp only [Option.some.injEq, Prod.mk.injEq] at h
      obtain ⟨rfl, rfl, rfl⟩ := h
      obtain ⟨y, h1, h2⟩ := lastB_spec (l := o' :: r) hr
      exact ⟨y, by rw [h1]; rfl, h2⟩
    · cases h

/-- The walk as far as the defer; the code behind it. -/
def wpb (T : Tbl) (O : Org) (c : Code) : St → (St → EV → TypeId → Code → Prop) → Prop :=
  Code.rec (motive := fun _ => St → (St → EV → TypeId → Code → Prop) → Prop)
    (fun _ _ => False)
    (fun _ _ _ _ _ => False)
    (fun a b _ wb s k => match a with
      | .region id ops false => match lastB ops.toList with
        | some (pre, x, t) => opsX T ops pre s fun s' => k s' (evT s'.tmps x) t b
        | none => wpx T O (.region id ops false) s (normK fun s' => wb s' k)
      | a => wpx T O a s (normK fun s' => wb s' k))
    (fun _ _ _ _ _ _ _ => False)
    (fun _ _ _ _ _ => False)
    (fun _ _ _ _ => False)
    (fun _ _ _ _ _ _ _ _ => False)
    (fun _ _ _ => False)
    (fun _ _ _ _ => False)
    (fun _ _ _ => False)
    (fun _ _ _ => False)
    (fun _ _ => False)
    (fun _ _ _ => False)
    c

theorem wpb_seq (T : Tbl) (O : Org) (a b : Code) (s : St) (k : St → EV → TypeId → Code → Prop) : wpb T O (.seq a b) s k = (match a with
    | .region id ops false => match lastB ops.toList with
      | some (pre, x, t) => opsX T ops pre s fun s' => k s' (evT s'.tmps x) t b
      | none => wpx T O (.region id ops false) s (normK fun s' => wpb T O b s' k)
    | a => wpx T O a s (normK fun s' => wpb T O b s' k)) := rfl

theorem wpb_snd {T : Tbl} {O : Org} (on : O.E.n = O.h.length) {Q : Exit → Act → World → Prop} {k : St → EV → TypeId → Code → Prop}
    (hk : ∀ E s a w x xv t ty b consts, k s x t b → denE E x xv → Rel O E s a w → Code.wp T.P b Q { a with defers := { target := .builtin .clear #[t] ty consts, args := #[xv] } :: a.defers } w) :
    ∀ (c : Code) {E : Emb} {s : St} {a : Act} {w : World}, wpb T O c s k → Rel O E s a w → c.wp T.P Q a w := by
  have step : ∀ (x y : Code) {E : Emb} {s : St} {a : Act} {w : World} {n : St → Prop}, wpx T O x s (normK n) → Rel O E s a w → (∀ {E s a w}, n s → Rel O E s a w → y.wp T.P Q a w) → (Code.seq x y).wp T.P Q a w := by
    intro x y E s a w n hx R hy
    refine wp_seq (Code.wp_mono ?_ (wpx_snd on x hx R))
    rintro e a' w' ⟨E', s', h1, h2⟩
    cases e <;> first
      | exact hy h1 h2
      | exact h1.elim
  intro c
  induction c with
  | seq x y _ ihy =>
    intro E s a w h R
    rw [wpb_seq] at h
    split at h
    · rename_i id ops _ _
      split at h
      · rename_i pre x t hl
        obtain ⟨o, h1, hg, hd, hop⟩ := lastB_spec hl
        refine wp_seq (wp_region_list ?_)
        rw [h1]
        refine opsX_append on pre [o] R h fun E' s' a' w' hk' R' => ?_
        have hxd := ev_denE R'.fr x
        unfold wpList
        rw [if_pos (by simp [Region.wanted, hg])]
        refine .inl ?_
        unfold Oper.wp
        have hex : ∃ cs, (execOp a'.eval o).run T.P w' = .ok (.defer { target := .builtin .clear #[t] o.type cs, args := #[a'.eval x] }) w' := by
          refine ⟨(#[x] : Array Operand).map (fun y => match y with | .const _ => true | _ => false), ?_⟩
          have em : (#[x] : Array Operand).map a'.eval = #[a'.eval x] := by simp
          unfold execOp
          simp only [hop, resolve, em]
          rfl
        obtain ⟨cs, hex⟩ := hex
        rw [hex, Oper.upon_defer, hd]
        exact hk E' s' a' w' _ _ _ o.type _ cs hk' hxd R'
      · exact step _ _ h R fun h1 h2 => ihy h1 h2
    · exact step _ _ h R fun h1 h2 => ihy h1 h2
  | _ => intro E s a w h R; exact h.elim

/-- What comes behind the code: the map is cleared; what is handed back. -/
def bodyB (T : Tbl) (F : Func) (x : EV) (t : TypeId) (Q : EV → List Blk → Prop) : Exit → St → Prop
  | .normal, s => match T.ty t, x with
    | some { d := .map _ _, .. }, .s (.map b) => match nthB s.heap b with
      | some (.map _) => updBK s.heap b (.map []) fun h => resX T ⟨s.tmps, h⟩ F.results.toList Q
      | _ => False
    | _, _ => False
  | .ret, s => match T.ty t, x with
    | some { d := .map _ _, .. }, .s (.map b) => match nthB s.heap b with
      | some (.map _) => updBK s.heap b (.map []) fun h => resX T ⟨s.tmps, h⟩ F.results.toList Q
      | _ => False
    | _, _ => False
  | _, _ => False

/-- A function's body that defers a clearing, walked. -/
def fnXB (T : Tbl) (O : Org) (F : Func) (args : List EV) (h : List Blk) (Q : EV → List Blk → Prop) : Prop :=
  match F.body with
  | some c => frameK args F.ntmps fun ts => wpb T O c ⟨ts, h⟩ fun s x t rest => ∀ O' : Org, O'.E.n = O'.h.length → O'.E.n = s.heap.length → O.E.n ≤ O'.E.n → wpx T O' rest s (bodyB T F x t Q)
  | none => False

theorem fnXB_call (T : Tbl) {f : FuncId} {F : Func} (hF : T.P.funcs[f]? = some F) {args : List EV} {h : List Blk} {Q : EV → List Blk → Prop}
    (hX : ∀ E w (Z : TabOk E h w), Sim E h w → fnXB T ⟨E, h, w, [], Z⟩ F args h Q) : CallG T f args h Q := by
  intro E w vs S Z hargs
  have hx := hX E w Z S
  unfold fnXB at hx
  split at hx
  · rename_i c hc
    rw [frameK_eq] at hx
    refine calls_of_wp_builtin hF hc ?_
    have hlen : vs.size = args.length := by rw [← Array.length_toList]; exact denT_length hargs
    have R : Rel ⟨E, h, w, [], Z⟩ E { tmps := args ++ junks (F.ntmps - args.length), heap := h } { tmps := vs ++ Array.replicate (F.ntmps - vs.size) undef, defers := [] } w := by
      refine ⟨⟨by simp [length_junks, hlen], fun i v hi => ?_⟩, rfl, S, Since.refl _ _ _⟩
      rw [nth_append_junks]
      split
      · rename_i hlt
        rw [Array.getElem?_append_left (by omega)] at hi
        exact denT_nth hargs (by simpa using hi)
      · simp only [denE]
    refine wpb_snd (O := ⟨E, h, w, [], Z⟩) S.n ?_ c hx R
    intro E1 s1 a1 w1 x0 xv t ty rest consts hk hxd R1
    have hdf : a1.defers = [] := R1.df
    generalize hdd : ({ target := .builtin .clear #[t] ty consts, args := #[xv] } : Deferred) = d
    have Z1 : TabOk E1 s1.heap w1 := Z.since R1.sin
    have hO := hk ⟨E1, s1.heap, w1, [d], Z1⟩ R1.sim.n R1.sim.n (by have h1 := R1.sin.len; have h2 := S.n; have h3 := R1.sim.n; simp only at *; omega)
    have R1' : Rel ⟨E1, s1.heap, w1, [d], Z1⟩ E1 s1 { a1 with defers := d :: a1.defers } w1 := ⟨R1.fr, by simp [hdf], R1.sim, Since.refl _ _ _⟩
    refine Code.wp_mono ?_ (wpx_snd (T := T) (O := ⟨E1, s1.heap, w1, [d], Z1⟩) R1.sim.n rest hO R1')
    have key : ∀ E2 s2 a2 w2, bodyB T F x0 t Q .normal s2 → Rel ⟨E1, s1.heap, w1, [d], Z1⟩ E2 s2 a2 w2 → postB T.P F (Post E h w Q) .normal a2 w2 := by
      intro E2 s2 a2 w2 hb R2
      have hdf2 : a2.defers = [d] := R2.df
      unfold bodyB at hb
      simp only at hb
      split at hb
      · rename_i kt et _ _ _ b ht
        split at hb
        · rename_i es hbk
          rw [updBK_eq, updB_eq] at hb
          have hle2 : E1.le E2 := R2.sin.le R1.sim.n R2.sim.n
          simp only [denE, denV] at hxd
          obtain ⟨hb1, rfl⟩ := hxd
          have hbk' := nthB_get hbk
          obtain ⟨l, clock, hl, _⟩ := R2.sim.ok b _ hbk'
          have hloc : E1.f b = E2.f b := (hle2.2 b hb1).symm
          have S3 := R2.sim.mset (es' := []) hbk' (l' := #[]) (c' := clock) hl (by simp [denM])
          have N3 := Since.mset (E := E2) (h := s2.heap) (es' := []) hbk' (l' := #[]) (c' := clock) hl
          have hfr : frameOk E2 s2.tmps a2.tmps := R2.fr
          obtain ⟨u, v', k1, k2, k3⟩ := resX_snd T (s := ⟨s2.tmps, s2.heap.set b (.map [])⟩) hfr S3 hb
          have hd : T.P.underlying t = some (.map kt et) := (T.tyOk _ _ ht).desc
          refine ⟨d, .clear, #[t], ty, consts, .tuple #[], _, u, hdf2, by rw [← hdd], ?_, k1, u, v', _, E2, rfl, k2, S3, ?_, k3⟩
          · rw [← hdd]
            simp [invoke, builtin, Builtin.clear_, run_underlying hd, hloc, MapKept.run_getObj_map hl, MapKept.run_setObj_map _ hl, Result.andThen]
          · exact ((R1.sin).trans S.n R1.sim.n R2.sin).trans S.n R2.sim.n N3
        · exact hb.elim
      · exact hb.elim
    rintro e a2 w2 ⟨E2, s2, hb, R2⟩
    cases e <;> first
      | exact key E2 s2 a2 w2 hb R2
      | exact hb.elim
  · exact hx.elim

/-- **A function that defers a clearing, walked over a small heap.** -/
theorem fnXB_does (T : Tbl) {f : FuncId} {F : Func} (hF : T.P.funcs[f]? = some F) (hb : F.body.isNone = false) (hname : (F.name == "runtime.NumGoroutine") = false) {args : List EV} {h : List Blk} {Q : EV → List Blk → Prop}
    (hX : ∀ O : Org, O.E.n = O.h.length → O.E.n = h.length → fnXB T O F args h (Ends h.length Q)) : Does T f args h Q := by
  refine ⟨.inl ⟨⟨F, hF, hb, hname⟩, fun E w vs S Z ha => ?_⟩⟩
  have c := fnXB_call T hF (args := args) (h := h) (Q := Ends h.length Q) (fun E w Z S => hX _ S.n S.n) E w vs S Z ha
  refine c.mono ?_
  rintro e w' ⟨v, x, h', E', rfl, hd, S', N', V, H, κ, hq, hnd, hid, hv, hh⟩
  obtain ⟨S'', h1, h2, h3⟩ := S'.renum hnd hh
  refine ⟨v, V, H, _, rfl, ?_, S'', N'.renum S.n S' hnd (by rw [S.n]; exact hid) hh, hq⟩
  exact (denE_ren (E := ⟨H.length, fun i => E'.f (lk κ h'.length i)⟩) h1 (fun b hb => ⟨h2 b hb, rfl⟩) _ _).1 (eqvE_den _ _ _ hv hd)

end Go.Anv

/- A nil slice stands for one that has room for nothing: in what is handed in (Does.ghA), in what comes back (Does.ghR). -/
namespace Go.Anv
open Go
/-- The first nil slice becomes one of block b. -/
def gh1 (b : Nat) : List Seg → List Seg
  | [] => []
  | .one .nilslice :: r => .one (.gs b 0 0 0) :: r
  | x :: r => x :: gh1 b r
def ghE (b : Nat) : EV → EV
  | .agg cs => .agg (gh1 b cs)
  | .s .nilslice => .s (.gs b 0 0 0)
  | x => x
def ghT (b : Nat) : Nat → List EV → List EV
  | _, [] => []
  | 0, x :: r => ghE b x :: r
  | i + 1, x :: r => x :: ghT b i r
theorem gh_nil {E : Emb} {v : Value} (h : denV E .nilslice v) : denV (E.push ⟨0, 0, true⟩) (.gs E.n 0 0 0) v := by
  simp only [denV] at h ⊢
  rw [Emb.push_new]
  exact ⟨by simp [Emb.push], fun _ => ⟨trivial, trivial⟩, by simpa using h⟩
theorem gh1_den {E : Emb} (hm : E.le (E.push ⟨0, 0, true⟩)) : ∀ (cs : List Seg) (l : List Value), denS E cs l → denS (E.push ⟨0, 0, true⟩) (gh1 E.n cs) l
  | [], l, h => h
  | .one v :: r, l, h => by
    obtain ⟨x, l', rfl, h1, h2⟩ := h
    by_cases e : v = .nilslice
    · subst e
      exact ⟨x, l', rfl, gh_nil h1, denS_mono hm _ _ h2⟩
    · have : gh1 E.n (.one v :: r) = .one v :: gh1 E.n r := by
        cases v <;> first | rfl | exact absurd rfl e
      rw [this]
      exact ⟨x, l', rfl, denV_mono hm _ _ h1, gh1_den hm r l' h2⟩
  | .ints k n f :: r, l, h => by
    obtain ⟨l', rfl, h2⟩ := h
    exact ⟨l', rfl, gh1_den hm r l' h2⟩
theorem ghE_den {E : Emb} (hm : E.le (E.push ⟨0, 0, true⟩)) (e : EV) (x : Value) (h : denE E e x) : denE (E.push ⟨0, 0, true⟩) (ghE E.n e) x := by
  cases e with
  | agg cs =>
    simp only [ghE, denE] at h ⊢
    obtain ⟨l, rfl, h1⟩ := h
    exact ⟨l, rfl, gh1_den hm _ _ h1⟩
  | s v =>
    cases v with
    | nilslice =>
      simp only [ghE, denE] at h ⊢
      exact gh_nil h
    | _ => exact denE_mono hm _ _ h
  | _ => exact denE_mono hm _ _ h
theorem ghT_den {E : Emb} (hm : E.le (E.push ⟨0, 0, true⟩)) : ∀ (i : Nat) (es : List EV) (l : List Value), denT E es l → denT (E.push ⟨0, 0, true⟩) (ghT E.n i es) l
  | _, [], l, h => by
    simp only [ghT, denT] at h ⊢
    exact h
  | 0, e :: r, l, h => by
    simp only [ghT, denT] at h ⊢
    obtain ⟨v, l', rfl, h1, h2⟩ := h
    exact ⟨v, l', rfl, ghE_den hm _ _ h1, denT_mono hm _ _ h2⟩
  | i + 1, e :: r, l, h => by
    simp only [ghT, denT] at h ⊢
    obtain ⟨v, l', rfl, h1, h2⟩ := h
    exact ⟨v, l', rfl, denE_mono hm _ _ h1, ghT_den hm i _ _ h2⟩
/-- An argument's first nil slice: one that has room for nothing. -/
theorem Does.ghA {T : Tbl} {f : FuncId} {args : List EV} {h : List Blk} {Q : EV → List Blk → Prop} (k : IntKind) (g : Nat → Int) (i : Nat) (d : Does T f (ghT h.length i args) (h ++ [.cells true [.ints k 0 g] 0]) Q) : Does T f args h Q := by
  have key : ∀ {E : Emb} {w : World} {vs : List Value}, Sim E h w → denT E args vs → ∃ E', Sim E' (h ++ [.cells true [.ints k 0 g] 0]) w ∧ Since E h w E' (h ++ [.cells true [.ints k 0 g] 0]) w ∧ denT E' (ghT h.length i args) vs := fun {E w vs} S ha => by
    obtain ⟨S', N'⟩ := push_nil S (cs := [.ints k 0 g]) ⟨[], rfl, rfl⟩
    refine ⟨_, S', N', ?_⟩
    rw [← S.n]
    exact ghT_den (N'.le S.n S'.n) _ _ _ ha
  have back : ∀ {E E' : Emb} {w w' : World} {e : Ending}, E.n = h.length → E'.n = (h ++ [Blk.cells true [.ints k 0 g] 0]).length → Since E h w E' (h ++ [.cells true [.ints k 0 g] 0]) w → Post E' (h ++ [.cells true [.ints k 0 g] 0]) w Q e w' → Post E h w Q e w' := fun {E E' w w' e} n n' N p => by
    obtain ⟨v, x, h', E'', h1, h2, h3, h4, h5⟩ := p
    exact ⟨v, x, h', E'', h1, h2, h3, N.trans n n' h4, h5⟩
  refine ⟨?_⟩
  rcases d.go with ⟨h1, h2⟩ | h1
  · refine .inl ⟨h1, fun E w vs S Z ha => ?_⟩
    obtain ⟨E', S', N', ha'⟩ := key S ha
    exact (h2 E' w vs S' (Z.since N') ha').mono fun e w' p => back S.n S'.n N' p
  · refine .inr fun E w vs S ha => ?_
    obtain ⟨E', S', N', ha'⟩ := key S ha
    obtain ⟨u, w', h2, h3⟩ := h1 E' w vs S' ha'
    exact ⟨u, w', h2, back S.n S'.n N' h3⟩
/-- A result's first nil slice: one that has room for nothing. -/
theorem Does.ghR {T : Tbl} {f : FuncId} {args : List EV} {h : List Blk} {X : EV} {H : List Blk} (k : IntKind) (g : Nat → Int) (d : Does T f args h (fun v h' => v = X ∧ h' = H)) :
    Does T f args h (fun v h' => v = ghE H.length X ∧ h' = H ++ [.cells true [.ints k 0 g] 0]) := by
  have back : ∀ {E : Emb} {w w' : World} {e : Ending}, Sim E h w → Post E h w (fun v h' => v = X ∧ h' = H) e w' → Post E h w (fun v h' => v = ghE H.length X ∧ h' = H ++ [.cells true [.ints k 0 g] 0]) e w' := fun {E w w' e} S p => by
    obtain ⟨v, x, h', E'', h1, h2, h3, h4, rfl, rfl⟩ := p
    obtain ⟨S', N'⟩ := push_nil h3 (cs := [.ints k 0 g]) ⟨[], rfl, rfl⟩
    refine ⟨v, _, _, _, h1, ?_, S', h4.trans S.n h3.n N', rfl, rfl⟩
    rw [← h3.n]
    exact ghE_den (N'.le h3.n S'.n) _ _ h2
  refine ⟨?_⟩
  rcases d.go with ⟨h1, h2⟩ | h1
  · exact .inl ⟨h1, fun E w vs S Z ha => (h2 E w vs S Z ha).mono fun e w' p => back S p⟩
  · refine .inr fun E w vs S ha => ?_
    obtain ⟨u, w', h2, h3⟩ := h1 E w vs S ha
    exact ⟨u, w', h2, back S h3⟩
/-- A heap that says more. -/
theorem Does.heq {T : Tbl} {f : FuncId} {args : List EV} {h b : List Blk} {Q : EV → List Blk → Prop} (e : eqvH h b) (d : Does T f args b Q) : Does T f args h Q := by
  have back : ∀ {E : Emb} {w w' : World} {x : Ending}, Sim E h w → Post E b w Q x w' → Post E h w Q x w' := fun {E w w' x} S p => by
    obtain ⟨v, y, h', E'', h1, h2, h3, h4, h5⟩ := p
    exact ⟨v, y, h', E'', h1, h2, h3, ((Since.refl E h w).eqv e).trans S.n (S.eqv e).n h4, h5⟩
  refine ⟨?_⟩
  rcases d.go with ⟨h1, h2⟩ | h1
  · exact .inl ⟨h1, fun E w vs S Z ha => (h2 E w vs (S.eqv e) (Z.since ((Since.refl E h w).eqv e)) ha).mono fun x w' p => back S p⟩
  · refine .inr fun E w vs S ha => ?_
    obtain ⟨u, w', h2, h3⟩ := h1 E w vs (S.eqv e) ha
    exact ⟨u, w', h2, back S h3⟩
end Go.Anv

/- The engine, part 15: a call that is handed a part of a block: the part is a block of its own meanwhile. Plain theorems; their condition: what the call leaves of the part. -/
namespace Go.Anv
open Go

/-- A value that points into a part, seen from outside and from inside: the part is k cells behind the begin of block i, and block N. -/
def partV (i N k : Nat) : SV → SV → Prop
  | .ptr b o, .ptr b' o' => (b = b' ∧ o = o') ∨ (b = i ∧ b' = N ∧ o = k + o')
  | .pix b o j, .ptr b' o' => b = i ∧ b' = N ∧ o + j = k + o'
  | .gs b o n c, .gs b' o' n' c' => ((b = b' ∧ o = o') ∨ (b = i ∧ b' = N ∧ o = k + o')) ∧ n = n' ∧ c = c'
  | x, y => x = y

def partS (i N k : Nat) : List Seg → List Seg → Prop
  | [], [] => True
  | .one x :: r, .one y :: r' => partV i N k x y ∧ partS i N k r r'
  | .ints q n f :: r, .ints q' n' f' :: r' => (q = q' ∧ n = n' ∧ f = f') ∧ partS i N k r r'
  | _, _ => False

def partE (i N k : Nat) : EV → EV → Prop
  | .s x, .s y => partV i N k x y
  | .agg x, .agg y => partS i N k x y
  | x, y => x = y

def partT (i N k : Nat) : List EV → List EV → Prop
  | [], [] => True
  | x :: r, y :: r' => partE i N k x y ∧ partT i N k r r'
  | _, _ => False

def partP (E : Emb) (i k : Nat) : Loc := ⟨(E.f i).b, (E.f i).o + k, (E.f i).nl⟩

theorem partV_den {E : Emb} {i k : Nat} {x y : SV} {v : Value} (h : partV i E.n k x y) (hd : denV E x v) : denV (E.push (partP E i k)) y v := by
  have same : x = y → denV (E.push (partP E i k)) y v := fun e => e ▸ denV_mono (Emb.le_push _ _) _ _ hd
  unfold partV at h
  split at h
  · rename_i b o b' o'
    rcases h with ⟨rfl, rfl⟩ | ⟨rfl, rfl, rfl⟩
    · exact same rfl
    · simp only [denV] at hd ⊢
      refine ⟨by simp [Emb.push], ?_⟩
      rw [hd.2]
      simp [Emb.at, Emb.push_new, partP, Nat.add_assoc]
  · rename_i b o j b' o'
    obtain ⟨rfl, rfl, h⟩ := h
    simp only [denV] at hd ⊢
    refine ⟨by simp [Emb.push], ?_⟩
    rw [hd.2]
    simp [Emb.at, Emb.push_new, partP, h, Nat.add_assoc]
  · rename_i b o n c b' o' n' c'
    obtain ⟨h, rfl, rfl⟩ := h
    rcases h with ⟨rfl, rfl⟩ | ⟨rfl, rfl, rfl⟩
    · exact same rfl
    · simp only [denV] at hd ⊢
      refine ⟨by simp [Emb.push], by rw [Emb.push_new]; exact hd.2.1, ?_⟩
      rw [hd.2.2]
      simp [Emb.at, Emb.push_new, partP, Nat.add_assoc]
  · exact same h

theorem partS_den {E : Emb} {i k : Nat} : ∀ {x y : List Seg} {l : List Value}, partS i E.n k x y → denS E x l → denS (E.push (partP E i k)) y l
  | [], [], _, _, hd => hd
  | .one x :: r, .one y :: r', l, h, hd => by
    simp only [denS] at hd ⊢
    obtain ⟨v, l', rfl, h1, h2⟩ := hd
    exact ⟨v, l', rfl, partV_den h.1 h1, partS_den h.2 h2⟩
  | .ints q n f :: r, .ints q' n' f' :: r', l, h, hd => by
    simp only [denS] at hd ⊢
    obtain ⟨l', rfl, h2⟩ := hd
    obtain ⟨⟨rfl, rfl, rfl⟩, h⟩ := h
    exact ⟨l', rfl, partS_den h h2⟩
  | [], _ :: _, _, h, _ => h.elim
  | _ :: _, [], _, h, _ => by simp [partS] at h
  | .one _ :: _, .ints .. :: _, _, h, _ => h.elim
  | .ints .. :: _, .one _ :: _, _, h, _ => h.elim

theorem partE_den {E : Emb} {i k : Nat} {x y : EV} {v : Value} (h : partE i E.n k x y) (hd : denE E x v) : denE (E.push (partP E i k)) y v := by
  have same : x = y → denE (E.push (partP E i k)) y v := fun e => e ▸ denE_mono (Emb.le_push _ _) _ _ hd
  unfold partE at h
  split at h
  · simp only [denE] at hd ⊢
    exact partV_den h hd
  · simp only [denE] at hd ⊢
    obtain ⟨l, rfl, h1⟩ := hd
    exact ⟨l, rfl, partS_den h h1⟩
  · exact same h

theorem partT_den {E : Emb} {i k : Nat} : ∀ {x y : List EV} {v : List Value}, partT i E.n k x y → denT E x v → denT (E.push (partP E i k)) y v
  | [], [], v, _, hd => hd
  | x :: r, y :: r', v, h, hd => by
    simp only [denT] at hd ⊢
    obtain ⟨u, l, rfl, h1, h2⟩ := hd
    exact ⟨u, l, rfl, partE_den h.1 h1, partT_den h.2 h2⟩
  | [], _ :: _, _, h, _ => h.elim
  | _ :: _, [], _, h, _ => h.elim

/-- What a part's call must leave. -/
def PartOk (h1 : List Blk) (i N : Nat) (m : Bool) (a b c : List Seg) (sp : Nat) (K : EV → List Blk → Prop) (v : EV) (h' : List Blk) : Prop :=
  roOk h1 h' ∧ ∃ b' cs', nthB h' N = some (.cells m b' 0) ∧ sizeS b' = sizeS b ∧ (∀ E l, denS E (a ++ (b' ++ c)) l → denS E cs' l) ∧ K v (updB (updB h' N .dead) i (.cells m cs' sp))

theorem denS_split {E : Emb} : ∀ {a b : List Seg} {l : List Value}, denS E (a ++ b) l → ∃ x y, l = x ++ y ∧ denS E a x ∧ denS E b y
  | [], b, l, h => ⟨[], l, rfl, rfl, h⟩
  | .one e :: r, b, l, h => by
    simp only [List.cons_append, denS] at h
    obtain ⟨v, l', rfl, h1, h2⟩ := h
    obtain ⟨x, y, rfl, h3, h4⟩ := denS_split h2
    exact ⟨v :: x, y, rfl, ⟨v, x, rfl, h1, h3⟩, h4⟩
  | .ints k n f :: r, b, l, h => by
    simp only [List.cons_append, denS] at h
    obtain ⟨l', rfl, h2⟩ := h
    obtain ⟨x, y, rfl, h3, h4⟩ := denS_split h2
    exact ⟨intsOf k n f ++ x, y, by simp, ⟨x, rfl, h3⟩, h4⟩

theorem part_sim {E : Emb} {h : List Blk} {w : World} {i : Nat} {m : Bool} {cs a b c : List Seg} {sp : Nat} (S : Sim E h w) (hi : nthB h i = some (.cells m cs sp))
    (hs : ∀ E l, denS E cs l → denS E (a ++ (b ++ c)) l) : Sim (E.push (partP E i (sizeS a))) (updB h i .dead ++ [.cells m b 0]) w := by
  have hi' := nthB_get hi
  have hlt := lt_of_get hi'
  obtain ⟨hp, ⟨l, hl, hc⟩, hm⟩ := S.ok i _ hi'
  obtain ⟨la, lr, rfl, hla, hlr⟩ := denS_split (hs E l hl)
  obtain ⟨lb, lc, rfl, hlb, hlc⟩ := denS_split hlr
  have za := denS_length hla
  have zb := denS_length hlb
  have zc := denS_length hlc
  have zl := denS_length hl
  simp only [List.length_append] at zl
  have hn := S.n
  -- the blocks ahead of the call
  have hU : ∀ {j : Nat} {B : Blk}, (updB h i .dead)[j]? = some B → B = .dead ∨ (h[j]? = some B ∧ j ≠ i) := fun {j B} hj => by
    rw [updB_eq] at hj
    by_cases hij : i = j
    · subst hij
      rw [List.getElem?_set_self hlt] at hj
      simp only [Option.some.injEq] at hj
      exact .inl hj.symm
    · rw [List.getElem?_set_ne hij] at hj; exact .inr ⟨hj, fun e => hij e.symm⟩
  have hUl : (updB h i .dead).length = h.length := by rw [updB_eq, List.length_set]
  have hH : ∀ {j : Nat} {B : Blk}, (updB h i .dead ++ [.cells m b 0])[j]? = some B → B = .dead ∨ (h[j]? = some B ∧ (E.push (partP E i (sizeS a))).f j = E.f j ∧ j ≠ i ∧ j < h.length) ∨ (j = h.length ∧ B = .cells m b 0 ∧ (E.push (partP E i (sizeS a))).f j = partP E i (sizeS a)) := fun {j B} hj => by
    rcases getElem?_push_cases hj with ⟨h1, h2⟩ | ⟨h1, h2⟩
    · rw [hUl] at h2
      rcases hU h1 with h3 | ⟨h3, h4⟩
      · exact .inl h3
      · exact .inr (.inl ⟨h3, Emb.push_old _ _ (by omega), h4, h2⟩)
    · rw [hUl] at h1
      subst h1
      exact .inr (.inr ⟨rfl, h2, by rw [← hn, Emb.push_new]⟩)
  have covP : ∀ {x y : Nat}, cov (partP E i (sizeS a)) (.cells m b 0) x y → cov (E.f i) (.cells m cs sp) x y := fun {x y} hcv => by
    simp only [cov, partP] at hcv ⊢
    omega
  refine ⟨by simp [Emb.push, hUl, hn], fun j B hj => ?_, fun j k A B hjk hj hk hA x y hcj => ?_⟩
  · rcases hH hj with rfl | ⟨h1, h2, _⟩ | ⟨_, rfl, h2⟩
    · trivial
    · rw [h2]; exact okBlk_le (Emb.le_push _ _) (S.ok j B h1)
    · rw [h2]
      refine ⟨?_, ⟨lb, denS_mono (Emb.le_push _ _) _ _ hlb, fun j v hj => ?_⟩, fun hmm j hj => ?_⟩
      · rcases hp with hp | ⟨hp, hp2⟩
        · exact .inl hp
        · exact .inr ⟨hp, by omega⟩
      · have hj2 : j < lb.length := by
          rcases Nat.lt_or_ge j lb.length with h' | h'
          · exact h'
          · rw [List.getElem?_eq_none h'] at hj; cases hj
        have := hc (la.length + j) v (by rw [List.getElem?_append_right (by omega), Nat.add_sub_cancel_left, List.getElem?_append_left hj2]; exact hj)
        rw [za, ← Nat.add_assoc] at this
        exact this
      · have := hm hmm (sizeS a + j) (by omega)
        rw [← Nat.add_assoc] at this
        exact this
  · rcases hH hj with rfl | ⟨h1, h2, h3, _⟩ | ⟨h1, rfl, h2⟩
    · simp [Blk.mut] at hA
    · rw [h2] at hcj
      rcases hH hk with rfl | ⟨k1, k2, _⟩ | ⟨_, rfl, k2⟩
      · intro h'; exact h'
      · rw [k2]; exact S.dis j k A B hjk h1 k1 hA x y hcj
      · rw [k2]; intro hcv; exact S.dis j i A _ h3 h1 hi' hA x y hcj (covP hcv)
    · rw [h2] at hcj
      rcases hH hk with rfl | ⟨k1, k2, k3, _⟩ | ⟨k1, rfl, k2⟩
      · intro h'; exact h'
      · rw [k2]; exact S.dis i k _ B (Ne.symm k3) hi' k1 hA x y (covP hcj)
      · exact absurd (h1.trans k1.symm) hjk

theorem part_post {E : Emb} {h : List Blk} {w w' : World} {i : Nat} {m : Bool} {cs a b c : List Seg} {sp : Nat} {Q K : EV → List Blk → Prop} {e : Ending} (S : Sim E h w) (hi : nthB h i = some (.cells m cs sp))
    (hs : ∀ E l, denS E cs l → denS E (a ++ (b ++ c)) l) (hK : ∀ v h', Q v h' → PartOk (updB h i .dead ++ [.cells m b 0]) i h.length m a b c sp K v h')
    (P : Post (E.push (partP E i (sizeS a))) (updB h i .dead ++ [.cells m b 0]) w Q e w') : Post E h w K e w' := by
  have hi' := nthB_get hi
  have hlt := lt_of_get hi'
  obtain ⟨hp, ⟨l, hl, hc⟩, hm⟩ := S.ok i _ hi'
  obtain ⟨la, lr, rfl, hla, hlr⟩ := denS_split (hs E l hl)
  obtain ⟨lb, lc, rfl, hlb, hlc⟩ := denS_split hlr
  have za := denS_length hla
  have zb := denS_length hlb
  have zc := denS_length hlc
  have zl := denS_length hl
  simp only [List.length_append] at zl
  have hn := S.n
  -- the blocks ahead of the call
  have hU : ∀ {j : Nat} {B : Blk}, (updB h i .dead)[j]? = some B → B = .dead ∨ (h[j]? = some B ∧ j ≠ i) := fun {j B} hj => by
    rw [updB_eq] at hj
    by_cases hij : i = j
    · subst hij
      rw [List.getElem?_set_self hlt] at hj
      simp only [Option.some.injEq] at hj
      exact .inl hj.symm
    · rw [List.getElem?_set_ne hij] at hj; exact .inr ⟨hj, fun e => hij e.symm⟩
  have hUl : (updB h i .dead).length = h.length := by rw [updB_eq, List.length_set]
  have hH : ∀ {j : Nat} {B : Blk}, (updB h i .dead ++ [.cells m b 0])[j]? = some B → B = .dead ∨ (h[j]? = some B ∧ (E.push (partP E i (sizeS a))).f j = E.f j ∧ j ≠ i ∧ j < h.length) ∨ (j = h.length ∧ B = .cells m b 0 ∧ (E.push (partP E i (sizeS a))).f j = partP E i (sizeS a)) := fun {j B} hj => by
    rcases getElem?_push_cases hj with ⟨h1, h2⟩ | ⟨h1, h2⟩
    · rw [hUl] at h2
      rcases hU h1 with h3 | ⟨h3, h4⟩
      · exact .inl h3
      · exact .inr (.inl ⟨h3, Emb.push_old _ _ (by omega), h4, h2⟩)
    · rw [hUl] at h1
      subst h1
      exact .inr (.inr ⟨rfl, h2, by rw [← hn, Emb.push_new]⟩)
  have covP : ∀ {x y : Nat}, cov (partP E i (sizeS a)) (.cells m b 0) x y → cov (E.f i) (.cells m cs sp) x y := fun {x y} hcv => by
    simp only [cov, partP] at hcv ⊢
    omega
  have mut1 : ∀ {x y : Nat}, mutAt (E.push (partP E i (sizeS a))) (updB h i .dead ++ [.cells m b 0]) x y → mutAt E h x y := fun {x y} hm1 => by
    obtain ⟨j, B, hj, hB, hcv⟩ := hm1
    rcases hH hj with rfl | ⟨h1, h2, _⟩ | ⟨_, rfl, h2⟩
    · simp [Blk.mut] at hB
    · rw [h2] at hcv; exact ⟨j, B, h1, hB, hcv⟩
    · rw [h2] at hcv; exact ⟨i, _, hi', hB, covP hcv⟩
  -- cells of the block outside the part are written by nobody
  have out1 : ∀ {y : Nat}, (E.f i).o ≤ y → y < (E.f i).o + (sizeS cs + sp) → ¬ (((E.f i).o + sizeS a) ≤ y ∧ y < (E.f i).o + sizeS a + sizeS b) → ¬ mutAt (E.push (partP E i (sizeS a))) (updB h i .dead ++ [.cells m b 0]) (E.f i).b y := fun {y} h1 h2 h3 hm1 => by
    obtain ⟨j, B, hj, hB, hcv⟩ := hm1
    rcases hH hj with rfl | ⟨k1, k2, k3, _⟩ | ⟨_, rfl, k2⟩
    · simp [Blk.mut] at hB
    · rw [k2] at hcv
      exact S.dis j i B _ k3 k1 hi' hB _ _ hcv ⟨rfl, h1, h2⟩
    · rw [k2] at hcv
      simp only [cov, partP] at hcv
      omega
  obtain ⟨v, x, h', E', rfl, hd, S', N', hq⟩ := P
  obtain ⟨hro, b', cs', hN, hsz, hj', hk⟩ := hK x h' hq
  have hN' := nthB_get hN
  have hNlt := lt_of_get hN'
  have fi : E'.f i = E.f i := by rw [N'.same i (by simp [Emb.push]; omega), Emb.push_old _ _ (by omega)]
  have fN : E'.f h.length = partP E i (sizeS a) := by rw [N'.same h.length (by simp [Emb.push]; omega), ← hn, Emb.push_new]
  obtain ⟨p1, ⟨lb', hlb', hcb'⟩, hmb'⟩ := S'.ok _ _ hN'
  have zb' := denS_length hlb'
  have le' : E.le E' := ⟨by have := N'.len; have h1 := S'.n; simp only [List.length_append, hUl, List.length_singleton] at this; omega, fun j hj => by rw [N'.same j (by simp [Emb.push]; omega), Emb.push_old _ _ hj]⟩
  have hF : ∀ {j : Nat} {B : Blk}, (updB (updB h' h.length .dead) i (.cells m cs' sp))[j]? = some B → B = .dead ∨ (h'[j]? = some B ∧ j ≠ i ∧ j ≠ h.length) ∨ (j = i ∧ B = .cells m cs' sp) := fun {j B} hj => by
    rw [updB_eq, updB_eq] at hj
    by_cases hij : i = j
    · subst hij
      rw [List.getElem?_set_self (by rw [List.length_set]; omega)] at hj
      simp only [Option.some.injEq] at hj
      exact .inr (.inr ⟨rfl, hj.symm⟩)
    · rw [List.getElem?_set_ne hij] at hj
      by_cases hNj : h.length = j
      · subst hNj
        rw [List.getElem?_set_self hNlt] at hj
        simp only [Option.some.injEq] at hj
        exact .inl hj.symm
      · rw [List.getElem?_set_ne hNj] at hj
        exact .inr (.inl ⟨hj, fun e => hij e.symm, fun e => hNj e.symm⟩)
  have dl : denS E' cs' (la ++ (lb' ++ lc)) := hj' E' _ (denS_append (denS_mono le' _ _ hla) (denS_append hlb' (denS_mono le' _ _ hlc)))
  have zcs : sizeS cs' = sizeS cs := by
    have := denS_length dl
    simp only [List.length_append] at this
    omega
  have pnt : ∀ j, j < sizeS cs + sp → (E.f i).b < w.heap.size := fun j hj => by
    rcases hp with h1 | ⟨_, h1⟩
    · exact h1
    · omega
  have keep : ∀ j, j < sizeS cs + sp → ¬ (sizeS a ≤ j ∧ j < sizeS a + sizeS b) → w'.cell? ⟨(E.f i).b, (E.f i).o + j, none⟩ = w.cell? ⟨(E.f i).b, (E.f i).o + j, none⟩ := fun j hj hno =>
    (N'.cells _ _ (pnt j hj) (out1 (by omega) (by omega) (by omega))).1
  refine ⟨v, x, _, E', rfl, hd, ⟨?_, fun j B hj => ?_, fun j k A B hjk hj hk hA y z hcj => ?_⟩, ⟨?_, fun j hj => le'.2 j hj, N'.size, fun y hy hno => N'.frame y hy (fun o hm1 => hno o (mut1 hm1)), fun y z hy hno => N'.cells y z hy (fun hm1 => hno (mut1 hm1)), fun y z hm1 hy => ?_, N'.os, N'.tape, N'.output, N'.rows⟩, hk⟩
  · rw [S'.n]; simp [updB_eq]
  · rcases hF hj with rfl | ⟨h1, _, _⟩ | ⟨rfl, rfl⟩
    · trivial
    · exact S'.ok j B h1
    · rw [fi]
      refine ⟨?_, ⟨_, dl, fun k v hk => ?_⟩, fun hmm k hk => ?_⟩
      · rcases hp with h1 | ⟨h1, h2⟩
        · exact .inl (by have := N'.size; omega)
        · exact .inr ⟨h1, by omega⟩
      · have hkl : k < sizeS cs := by
          rcases Nat.lt_or_ge k (la ++ (lb' ++ lc)).length with h1 | h1
          · simp only [List.length_append] at h1; omega
          · rw [List.getElem?_eq_none h1] at hk; cases hk
        by_cases hin : sizeS a ≤ k ∧ k < sizeS a + sizeS b
        · have h1 := hcb' (k - sizeS a) v (by
            rw [List.getElem?_append_right (by omega), List.getElem?_append_left (by omega), za] at hk
            exact hk)
          rw [fN] at h1
          simp only [partP, Nat.add_assoc] at h1
          rwa [show sizeS a + (k - sizeS a) = k by omega] at h1
        · rw [keep k (by omega) hin]
          refine hc k v ?_
          by_cases h1 : k < sizeS a
          · rw [List.getElem?_append_left (by omega)] at hk ⊢; exact hk
          · rw [List.getElem?_append_right (by omega), List.getElem?_append_right (by omega)] at hk ⊢
            rw [show k - la.length - lb.length = k - la.length - lb'.length by omega]
            exact hk
      · rw [zcs] at hk
        by_cases hin : sizeS a ≤ k ∧ k < sizeS a + sizeS b
        · have h1 := hmb' hmm (k - sizeS a) (by omega)
          rw [fN] at h1
          simp only [partP, Nat.add_assoc] at h1
          rwa [show sizeS a + (k - sizeS a) = k by omega] at h1
        · rw [keep k hk hin]
          obtain ⟨h1, h2⟩ := hm hmm k hk
          exact ⟨h1, N'.rows _ (pnt k hk) h2⟩
  · -- apart
    have one : ∀ {k : Nat} {B : Blk}, h'[k]? = some B → k ≠ i → k ≠ h.length → (m = true ∨ B.mut = true) → ∀ {y z : Nat}, cov (E.f i) (.cells m cs' sp) y z → ¬ cov (E'.f k) B y z := fun {k B} hB hki hkN hmB {y z} hcv hcv' => by
      simp only [cov, zcs] at hcv
      obtain ⟨rfl, hz1, hz2⟩ := hcv
      by_cases hin : (E.f i).o + sizeS a ≤ z ∧ z < (E.f i).o + sizeS a + sizeS b
      · have hcN : cov (E'.f h.length) (.cells m b' 0) (E.f i).b z := by
          rw [fN]; exact ⟨rfl, hin.1, by simp only [partP]; omega⟩
        rcases hmB with hmm | hmm
        · exact S'.dis h.length k _ B (Ne.symm hkN) hN' hB hmm _ _ hcN hcv'
        · exact S'.dis k h.length B _ hkN hB hN' hmm _ _ hcv' hcN
      · have hno := out1 hz1 hz2 hin
        have hbl := pnt 0 (by omega)
        rcases roOk_get hro k B hB with h1 | rfl | h1
        · exact hno (N'.new _ _ ⟨k, B, hB, h1, hcv'⟩ hbl)
        · exact hcv'
        · rcases hH h1 with rfl | ⟨k1, k2, k3, k4⟩ | ⟨k1, _, _⟩
          · exact hcv'
          · rw [N'.same k (by simp [Emb.push]; omega), k2] at hcv'
            rcases hmB with hmm | hmm
            · exact S.dis i k _ B (Ne.symm k3) hi' k1 hmm _ _ ⟨rfl, hz1, hz2⟩ hcv'
            · exact S.dis k i B _ k3 k1 hi' hmm _ _ hcv' ⟨rfl, hz1, hz2⟩
          · exact hkN k1
    rcases hF hj with rfl | ⟨h1, h2, h3⟩ | ⟨rfl, rfl⟩
    · simp [Blk.mut] at hA
    · rcases hF hk with rfl | ⟨k1, k2, k3⟩ | ⟨rfl, rfl⟩
      · intro h'; exact h'
      · exact S'.dis j k A B hjk h1 k1 hA y z hcj
      · rw [fi]; intro hcv; exact one h1 h2 h3 (.inr hA) hcv hcj
    · rcases hF hk with rfl | ⟨k1, k2, k3⟩ | ⟨rfl, rfl⟩
      · intro h'; exact h'
      · rw [fi] at hcj; exact one k1 k2 k3 (.inl hA) hcj
      · exact absurd rfl hjk
  · simp only [updB_eq, List.length_set]
    have := N'.len
    simp only [List.length_append, hUl, List.length_singleton] at this
    omega
  · obtain ⟨k, B, hB, hBm, hcv⟩ := hm1
    rcases hF hB with rfl | ⟨h1, _, _⟩ | ⟨rfl, rfl⟩
    · simp [Blk.mut] at hBm
    · exact mut1 (N'.new y z ⟨k, B, h1, hBm, hcv⟩ hy)
    · rw [fi] at hcv
      refine ⟨_, _, hi', hBm, ?_⟩
      simpa only [cov, zcs] using hcv

theorem part_mut {E : Emb} {h : List Blk} {w : World} {i : Nat} {m : Bool} {cs a b c : List Seg} {sp : Nat} (S : Sim E h w) (hi : nthB h i = some (.cells m cs sp))
    (hs : ∀ E l, denS E cs l → denS E (a ++ (b ++ c)) l) : ∀ x y, mutAt (E.push (partP E i (sizeS a))) (updB h i .dead ++ [.cells m b 0]) x y → mutAt E h x y := by
  rintro x y ⟨j, B, hj, hB, hcv⟩
  have hi' := nthB_get hi
  have hlt := lt_of_get hi'
  obtain ⟨hp, ⟨l, hl, hc⟩, hm⟩ := S.ok i _ hi'
  obtain ⟨la, lr, rfl, hla, hlr⟩ := denS_split (hs E l hl)
  obtain ⟨lb, lc, rfl, hlb, hlc⟩ := denS_split hlr
  have za := denS_length hla
  have zb := denS_length hlb
  have zc := denS_length hlc
  have zl := denS_length hl
  simp only [List.length_append] at zl
  have hn := S.n
  rcases getElem?_push_cases hj with ⟨h1, h2⟩ | ⟨h1, h2⟩
  · rw [updB_eq, List.length_set] at h2
    rw [Emb.push_old _ _ (by omega)] at hcv
    rw [updB_eq] at h1
    by_cases hij : i = j
    · subst hij
      rw [List.getElem?_set_self hlt] at h1
      simp only [Option.some.injEq] at h1
      subst h1
      cases hB
    · rw [List.getElem?_set_ne hij] at h1
      exact ⟨j, B, h1, hB, hcv⟩
  · rw [updB_eq, List.length_set] at h1
    subst h1
    subst h2
    rw [← hn, Emb.push_new] at hcv
    refine ⟨i, _, hi', hB, ?_⟩
    simp only [cov, partP] at hcv ⊢
    omega
/-- **A call that is handed a part of a block.** -/
theorem Does.part {T : Tbl} {f : FuncId} {args args' : List EV} {h : List Blk} {Q K : EV → List Blk → Prop} (i : Nat) {m : Bool} {cs : List Seg} {sp : Nat} (a b c : List Seg) (hi : nthB h i = some (.cells m cs sp))
    (hs : ∀ E l, denS E cs l → denS E (a ++ (b ++ c)) l) (ha : partT i h.length (sizeS a) args args') (d : Does T f args' (updB h i .dead ++ [.cells m b 0]) Q)
    (hK : ∀ v h', Q v h' → PartOk (updB h i .dead ++ [.cells m b 0]) i h.length m a b c sp K v h') : Does T f args h K := by
  refine ⟨?_⟩
  rcases d.go with ⟨h1, h2⟩ | h1
  · refine .inl ⟨h1, fun E w vs S Z hv => ?_⟩
    have hn := S.n
    exact (h2 _ w vs (part_sim S hi hs) (Z.sub (part_mut S hi hs)) (partT_den (by rw [hn]; exact ha) hv)).mono fun e w' p => part_post S hi hs hK p
  · refine .inr fun E w vs S hv => ?_
    have hn := S.n
    obtain ⟨u, w', h2, h3⟩ := h1 _ w vs (part_sim S hi hs) (partT_den (by rw [hn]; exact ha) hv)
    exact ⟨u, w', h2, part_post S hi hs hK h3⟩

end Go.Anv

/- The engine, part 16: contracts that go on: over whatever heap, the answer handed to what follows. Plain theorems, no condition. -/
namespace Go.Anv
open Go

/-- How many blocks there are. -/
def lenK (l : List Blk) : Nat → (Nat → Prop) → Prop :=
  List.rec (motive := fun _ => Nat → (Nat → Prop) → Prop) (fun n k => k n) (fun _ _ ih n k => ih (n + 1) k) l

theorem lenK_eq : ∀ (l : List Blk) (n : Nat) (k : Nat → Prop), lenK l n k = k (n + l.length)
  | [], _, _ => rfl
  | _ :: r, n, k => by
    show lenK r (n + 1) k = _
    rw [lenK_eq r]
    simp only [List.length_cons]
    rw [show n + 1 + r.length = n + (r.length + 1) by omega]

/-- Blocks behind the others. -/
def appBK (l r : List Blk) : (List Blk → Prop) → Prop :=
  List.rec (motive := fun _ => (List Blk → Prop) → Prop) (fun k => k r) (fun x _ ih k => ih fun h => k (x :: h)) l

theorem appBK_eq : ∀ (l r : List Blk) (k : List Blk → Prop), appBK l r k = k (l ++ r)
  | [], _, _ => rfl
  | x :: l, r, k => by
    show (appBK l r fun h => k (x :: h)) = _
    rw [appBK_eq l]
    rfl

/-- A cell of some cells, and what they are with another in its place. -/
def CellAt (cs : List Seg) (o : Nat) (e : SV) (cs' : List Seg) (e' : SV) : Prop :=
  ∃ a c, sizeS a = o ∧ (∀ E l, denS E cs l → denS E (a ++ ([.one e] ++ c)) l) ∧ ∀ E l, denS E (a ++ ([.one e'] ++ c)) l → denS E cs' l

theorem CellAt.cons_one {cs cs' : List Seg} {o : Nat} {e e' v : SV} (h : CellAt cs o e cs' e') : CellAt (.one v :: cs) (o + 1) e (.one v :: cs') e' := by
  obtain ⟨a, c, h1, h2, h3⟩ := h
  refine ⟨.one v :: a, c, by simp [sizeS, h1], fun E l hd => ?_, fun E l hd => ?_⟩
  · simp only [denS, List.cons_append] at hd ⊢
    obtain ⟨u, l', rfl, k1, k2⟩ := hd
    exact ⟨u, l', rfl, k1, h2 E l' k2⟩
  · simp only [denS, List.cons_append] at hd ⊢
    obtain ⟨u, l', rfl, k1, k2⟩ := hd
    exact ⟨u, l', rfl, k1, h3 E l' k2⟩

theorem CellAt.cons_ints {cs cs' : List Seg} {o : Nat} {e e' : SV} {k : IntKind} {n : Nat} {f : Nat → Int} (h : CellAt cs o e cs' e') : CellAt (.ints k n f :: cs) (n + o) e (.ints k n f :: cs') e' := by
  obtain ⟨a, c, h1, h2, h3⟩ := h
  refine ⟨.ints k n f :: a, c, by simp [sizeS, h1], fun E l hd => ?_, fun E l hd => ?_⟩
  · simp only [denS, List.cons_append] at hd ⊢
    obtain ⟨l', rfl, k2⟩ := hd
    exact ⟨l', rfl, h2 E l' k2⟩
  · simp only [denS, List.cons_append] at hd ⊢
    obtain ⟨l', rfl, k2⟩ := hd
    exact ⟨l', rfl, h3 E l' k2⟩

theorem cell_one : ∀ {cs cs' : List Seg} {o : Nat} {e e' : SV}, getS cs o = some e → setS cs o e' = some cs' → CellAt cs o e cs' e'
  | [], _, _, _, _, h, _ => by simp [getS] at h
  | .one v :: r, cs', 0, e, e', h, h' => by
    simp only [getS, Option.some.injEq] at h
    simp only [setS, Option.some.injEq] at h'
    subst h; subst h'
    exact ⟨[], r, rfl, fun _ _ h => h, fun _ _ h => h⟩
  | .one v :: r, cs', o + 1, e, e', h, h' => by
    simp only [getS] at h
    simp only [setS, Option.map_eq_some_iff] at h'
    obtain ⟨c, hc, rfl⟩ := h'
    exact (cell_one h hc).cons_one
  | .ints k n f :: r, cs', o, e, e', h, h' => by
    unfold getS at h
    unfold setS at h'
    split at h
    · rw [if_neg (by omega)] at h'
      cases h'
    · rename_i ho
      rw [if_pos (by omega)] at h'
      simp only [Option.map_eq_some_iff] at h'
      obtain ⟨c, hc, rfl⟩ := h'
      have := (cell_one h hc).cons_ints (k := k) (n := n) (f := f)
      rwa [show n + (o - n) = o by omega] at this

theorem intsOf_split (k : IntKind) {n j : Nat} (f : Nat → Int) (h : j < n) : intsOf k n f = intsOf k j f ++ (.int k (f j) :: intsOf k (n - j - 1) (fun i => f (j + 1 + i))) := by
  obtain ⟨m, rfl⟩ : ∃ m, n = j + (m + 1) := ⟨n - j - 1, by omega⟩
  have e : j + (m + 1) - j - 1 = m := by omega
  rw [e]
  simp only [intsOf]
  rw [List.range_add, List.map_append, List.map_map, List.range_succ_eq_map]
  congr 1
  simp only [List.map_cons, List.map_map, Function.comp_def, Nat.add_zero]
  congr 1
  refine List.map_congr_left fun i _ => ?_
  simp only [Nat.succ_eq_add_one]
  rw [show j + (i + 1) = j + 1 + i by omega]

theorem cell_ints_head (k : IntKind) {n j : Nat} (f g : Nat → Int) (r : List Seg) (hj : j < n) (hg : ∀ i, i < n → i ≠ j → f i = g i) : CellAt (.ints k n f :: r) j (.int k (f j)) (.ints k n g :: r) (.int k (g j)) := by
  refine ⟨[.ints k j f], .ints k (n - j - 1) (fun i => f (j + 1 + i)) :: r, by simp [sizeS], fun E l hd => ?_, fun E l hd => ?_⟩
  · simp only [denS, List.cons_append, List.nil_append, denV] at hd ⊢
    obtain ⟨l', rfl, k2⟩ := hd
    rw [intsOf_split k f hj]
    exact ⟨_, by rw [List.append_assoc, List.cons_append], _, _, rfl, rfl, l', rfl, k2⟩
  · simp only [denS, List.cons_append, List.nil_append, denV] at hd ⊢
    obtain ⟨l1, rfl, v, l2, rfl, rfl, l3, rfl, k2⟩ := hd
    refine ⟨l3, ?_, k2⟩
    rw [intsOf_split k g hj, List.append_assoc, intsOf_congr (f := f) (g := g) (fun i hi => hg i (by omega) (by omega)), intsOf_congr (f := fun i => f (j + 1 + i)) (g := fun i => g (j + 1 + i)) (fun i hi => hg _ (by omega) (by omega))]
    rfl

theorem cell_ints : ∀ {cs : List Seg} {o j : Nat} {k : IntKind} {n : Nat} {f : Nat → Int}, getI cs o = some (k, n, f) → j < n → CellAt cs (o + j) (.int k (f j)) cs (.int k (f j))
  | [], _, _, _, _, _, h, _ => by simp [getI] at h
  | .one v :: r, 0, j, k, n, f, h, hj => by simp [getI] at h
  | .one v :: r, o + 1, j, k, n, f, h, hj => by
    simp only [getI] at h
    have := (cell_ints (j := j) h hj).cons_one (v := v)
    rwa [show o + j + 1 = o + 1 + j by omega] at this
  | .ints q m g :: r, o, j, k, n, f, h, hj => by
    cases o with
    | zero =>
      simp only [getI, Option.some.injEq, Prod.mk.injEq] at h
      obtain ⟨rfl, rfl, rfl⟩ := h
      rw [Nat.zero_add]
      exact cell_ints_head _ _ _ r hj (fun _ _ _ => rfl)
    | succ o =>
      unfold getI at h
      split at h
      · rename_i ho
        have := (cell_ints (j := j) h hj).cons_ints (k := q) (n := m) (f := g)
        rwa [show m + (o + 1 - m + j) = o + 1 + j by omega] at this
      · cases h

theorem cell_setI : ∀ {cs cs' : List Seg} {o j : Nat} {k : IntKind} {n : Nat} {f : Nat → Int} {x : Int}, getI cs o = some (k, n, f) → j < n → setI cs o j k x = some cs' → CellAt cs (o + j) (.int k (f j)) cs' (.int k x)
  | [], _, _, _, _, _, _, _, h, _, _ => by simp [getI] at h
  | .one v :: r, _, 0, j, k, n, f, x, h, hj, _ => by simp [getI] at h
  | .one v :: r, cs', o + 1, j, k, n, f, x, h, hj, h' => by
    simp only [getI] at h
    simp only [setI, Option.map_eq_some_iff] at h'
    obtain ⟨c, hc, rfl⟩ := h'
    have := (cell_setI (j := j) h hj hc).cons_one (v := v)
    rwa [show o + j + 1 = o + 1 + j by omega] at this
  | .ints q m g :: r, cs', o, j, k, n, f, x, h, hj, h' => by
    cases o with
    | zero =>
      simp only [getI, Option.some.injEq, Prod.mk.injEq] at h
      obtain ⟨rfl, rfl, rfl⟩ := h
      simp only [setI, if_true, Option.some.injEq] at h'
      subst h'
      rw [Nat.zero_add]
      have := cell_ints_head q g (fun i => if i = j then x else g i) r hj (fun i _ hi => by simp [hi])
      simpa using this
    | succ o =>
      unfold getI at h
      split at h
      · rename_i ho
        unfold setI at h'
        rw [if_pos ho] at h'
        simp only [Option.map_eq_some_iff] at h'
        obtain ⟨c, hc, rfl⟩ := h'
        have := (cell_setI (j := j) h hj hc).cons_ints (k := q) (n := m) (f := g)
        rwa [show m + (o + 1 - m + j) = o + 1 + j by omega] at this
      · cases h

theorem nthB_app_lt {h r : List Blk} {i : Nat} {B : Blk} (hi : nthB h i = some B) : nthB (h ++ r) i = some B := nthB_app hi
theorem nthB_len : ∀ (h : List Blk) (B : Blk) (r : List Blk), nthB (h ++ B :: r) h.length = some B
  | [], _, _ => rfl
  | _ :: h, B, r => by simp only [List.cons_append, List.length_cons, nthB]; exact nthB_len h B r
theorem nthB_upd_ne : ∀ {h : List Blk} {i j : Nat} {A B : Blk}, nthB h i = some A → i ≠ j → nthB (updB h j B) i = some A
  | [], _, _, _, _, h, _ => by simp [nthB] at h
  | _ :: _, 0, 0, _, _, _, hn => absurd rfl hn
  | _ :: _, 0, j + 1, _, _, h, _ => h
  | _ :: _, i + 1, 0, _, _, h, _ => h
  | _ :: r, i + 1, j + 1, _, _, h, hn => by simp only [nthB, updB] at h ⊢; exact nthB_upd_ne h (fun e => hn (by rw [e]))
theorem nthB_upd_eq : ∀ {h : List Blk} {i : Nat} {A B : Blk}, nthB h i = some A → nthB (updB h i B) i = some B
  | [], _, _, _, h => by simp [nthB] at h
  | _ :: _, 0, _, _, _ => rfl
  | _ :: r, i + 1, _, _, h => by simp only [nthB, updB] at h ⊢; exact nthB_upd_eq h
theorem len_updB : ∀ (h : List Blk) (b : Nat) (B : Blk), (updB h b B).length = h.length
  | [], _, _ => rfl
  | _ :: _, 0, _ => rfl
  | _ :: r, b + 1, B => by simp [updB, len_updB r b B]
theorem nthB_lt {h : List Blk} {i : Nat} {B : Blk} (hi : nthB h i = some B) : i < h.length := lt_of_get (nthB_get hi)

end Go.Anv

/- The engine, part 17: a call that is handed a pointer to one cell of a block, by a contract that is shown of a small heap with that cell alone. Plain theorems; their condition: what the call leaves of the cell. -/
namespace Go.Anv
open Go

theorem roOk_mk : ∀ {h h' : List Blk}, (∀ (i : Nat) (B : Blk), h'[i]? = some B → B.mut = true ∨ B = .dead ∨ h[i]? = some B) → roOk h h'
  | [], [], _ => trivial
  | _ :: _, [], _ => trivial
  | [], B :: r, hk => ⟨by rcases hk 0 B (by simp) with h | h | h
                          · exact .inl h
                          · exact .inr h
                          · simp at h, roOk_mk fun i C hi => by
    rcases hk (i + 1) C (by simpa using hi) with h | h | h
    · exact .inl h
    · exact .inr (.inl h)
    · simp at h⟩
  | A :: s, B :: r, hk => ⟨by rcases hk 0 B (by simp) with h | h | h
                              · exact .inl h
                              · exact .inr (.inl h)
                              · exact .inr (.inr (by simpa using h.symm)), roOk_mk fun i C hi => by
    rcases hk (i + 1) C (by simpa using hi) with h | h | h
    · exact .inl h
    · exact .inr (.inl h)
    · exact .inr (.inr (by simpa using h))⟩

theorem roOk_merge {h hc h' : List Blk} {κ : List Nat} (hnd : κ.Nodup) (hh : subH h κ (renH (lk κ h.length) hc)) (ho : roOk hc h') (hl : κ.length ≤ h'.length) : roOk h (mergeB h κ (renH (lk κ h.length) h')) := by
  obtain ⟨h1, h2⟩ := subH_get hh
  rw [length_renH] at h1
  have hlt : ∀ k ∈ κ, k < h.length := fun k hk => by
    obtain ⟨i, hi⟩ := List.getElem?_of_mem hk
    have hi' : i < hc.length := by
      have : i < κ.length := by
        rcases Nat.lt_or_ge i κ.length with h' | h'
        · exact h'
        · rw [List.getElem?_eq_none h'] at hi; cases hi
      omega
    obtain ⟨k', h3, h4⟩ := h2 i (renB (lk κ h.length) hc[i]) (by rw [renH_get, List.getElem?_eq_getElem hi']; rfl)
    rw [hi] at h3
    cases h3
    exact lt_of_get h4
  refine roOk_mk fun j B hj => ?_
  rcases mergeB_get h κ _ hnd hlt (by rw [length_renH]; exact hl) j B hj with ⟨_, _, h3⟩ | ⟨i, h3, h4⟩
  · exact .inr (.inr h3)
  · rw [renH_get] at h4
    simp only [Option.map_eq_some_iff] at h4
    obtain ⟨B', h5, rfl⟩ := h4
    rcases roOk_get ho i B' h5 with h6 | rfl | h6
    · exact .inl (by rw [mut_ren]; exact h6)
    · exact .inr (.inl rfl)
    · obtain ⟨k, h7, h8⟩ := h2 i (renB (lk κ h.length) B') (by rw [renH_get, h6]; rfl)
      have hi : i < κ.length := by
        rcases Nat.lt_or_ge i κ.length with h' | h'
        · exact h'
        · rw [List.getElem?_eq_none h'] at h7; cases h7
      rw [look_lt κ _ i hi] at h3
      rw [List.getElem?_eq_getElem hi] at h7
      cases h7
      subst h3
      exact .inr (.inr h8)

/-- A cell of some cells; P: what they become with another in its place. -/
def Cell (cs : List Seg) (o : Nat) (e : SV) (P : SV → List Seg → Prop) : Prop :=
  ∃ a c, sizeS a = o ∧ (∀ E l, denS E cs l → denS E (a ++ ([.one e] ++ c)) l) ∧ ∀ e' cs', P e' cs' → ∀ E l, denS E (a ++ ([.one e'] ++ c)) l → denS E cs' l

theorem Cell.cons_one {cs : List Seg} {o : Nat} {e v : SV} {P : SV → List Seg → Prop} (h : Cell cs o e P) : Cell (.one v :: cs) (o + 1) e (fun e' cs' => ∃ c, P e' c ∧ cs' = .one v :: c) := by
  obtain ⟨a, c, h1, h2, h3⟩ := h
  refine ⟨.one v :: a, c, by simp [sizeS, h1], fun E l hd => ?_, fun e' cs' hp E l hd => ?_⟩
  · simp only [denS, List.cons_append] at hd ⊢
    obtain ⟨u, l', rfl, k1, k2⟩ := hd
    exact ⟨u, l', rfl, k1, h2 E l' k2⟩
  · obtain ⟨c', hp, rfl⟩ := hp
    simp only [denS, List.cons_append] at hd ⊢
    obtain ⟨u, l', rfl, k1, k2⟩ := hd
    exact ⟨u, l', rfl, k1, h3 e' c' hp E l' k2⟩

theorem Cell.cons_ints {cs : List Seg} {o : Nat} {e : SV} {P : SV → List Seg → Prop} {k : IntKind} {n : Nat} {f : Nat → Int} (h : Cell cs o e P) : Cell (.ints k n f :: cs) (n + o) e (fun e' cs' => ∃ c, P e' c ∧ cs' = .ints k n f :: c) := by
  obtain ⟨a, c, h1, h2, h3⟩ := h
  refine ⟨.ints k n f :: a, c, by simp [sizeS, h1], fun E l hd => ?_, fun e' cs' hp E l hd => ?_⟩
  · simp only [denS, List.cons_append] at hd ⊢
    obtain ⟨l', rfl, k2⟩ := hd
    exact ⟨l', rfl, h2 E l' k2⟩
  · obtain ⟨c', hp, rfl⟩ := hp
    simp only [denS, List.cons_append] at hd ⊢
    obtain ⟨l', rfl, k2⟩ := hd
    exact ⟨l', rfl, h3 e' c' hp E l' k2⟩

theorem Cell.mono {cs : List Seg} {o : Nat} {e : SV} {P P' : SV → List Seg → Prop} (h : Cell cs o e P) (hp : ∀ e' cs', P' e' cs' → P e' cs') : Cell cs o e P' := by
  obtain ⟨a, c, h1, h2, h3⟩ := h
  exact ⟨a, c, h1, h2, fun e' cs' h => h3 e' cs' (hp e' cs' h)⟩

/-- A cell of its own. -/
theorem Cell.one : ∀ {cs : List Seg} {o : Nat} {e : SV}, getS cs o = some e → (∃ e' cs', setS cs o e' = some cs') → Cell cs o e (fun e' cs' => setS cs o e' = some cs')
  | [], _, _, h, _ => by simp [getS] at h
  | .one v :: r, 0, e, h, _ => by
    simp only [getS, Option.some.injEq] at h
    subst h
    refine ⟨[], r, rfl, fun _ _ h => h, fun e' cs' h' _ _ h => ?_⟩
    simp only [setS, Option.some.injEq] at h'
    subst h'
    exact h
  | .one v :: r, o + 1, e, h, hw => by
    simp only [getS] at h
    obtain ⟨e', cs', hw⟩ := hw
    simp only [setS, Option.map_eq_some_iff] at hw
    obtain ⟨c, hc, _⟩ := hw
    refine (Cell.one h ⟨e', c, hc⟩).cons_one.mono fun e' cs' h' => ?_
    simp only [setS, Option.map_eq_some_iff] at h'
    obtain ⟨c, hc, rfl⟩ := h'
    exact ⟨c, hc, rfl⟩
  | .ints k n f :: r, o, e, h, hw => by
    obtain ⟨e', cs', hw⟩ := hw
    unfold setS at hw
    split at hw
    · rename_i ho
      simp only [Option.map_eq_some_iff] at hw
      obtain ⟨c, hc, _⟩ := hw
      unfold getS at h
      rw [if_neg (by omega)] at h
      have := (Cell.one h ⟨e', c, hc⟩).cons_ints (k := k) (n := n) (f := f)
      rw [show n + (o - n) = o by omega] at this
      refine this.mono fun e' cs' h' => ?_
      unfold setS at h'
      rw [if_pos ho] at h'
      simp only [Option.map_eq_some_iff] at h'
      obtain ⟨c, hc, rfl⟩ := h'
      exact ⟨c, hc, rfl⟩
    · cases hw

/-- A cell among whole numbers of one kind. -/
theorem Cell.ints : ∀ {cs : List Seg} {o j : Nat} {k : IntKind} {n : Nat} {f : Nat → Int}, getI cs o = some (k, n, f) → j < n → Cell cs (o + j) (.int k (f j)) (fun e' cs' => ∃ x, e' = .int k x ∧ setI cs o j k x = some cs')
  | [], _, _, _, _, _, h, _ => by simp [getI] at h
  | .one v :: r, 0, j, k, n, f, h, hj => by simp [getI] at h
  | .one v :: r, o + 1, j, k, n, f, h, hj => by
    simp only [getI] at h
    have := (Cell.ints (j := j) h hj).cons_one (v := v)
    rw [show o + j + 1 = o + 1 + j by omega] at this
    refine this.mono fun e' cs' h' => ?_
    obtain ⟨x, rfl, h'⟩ := h'
    simp only [setI, Option.map_eq_some_iff] at h'
    obtain ⟨c, hc, rfl⟩ := h'
    exact ⟨c, ⟨x, rfl, hc⟩, rfl⟩
  | .ints q m g :: r, o, j, k, n, f, h, hj => by
    cases o with
    | zero =>
      simp only [getI, Option.some.injEq, Prod.mk.injEq] at h
      obtain ⟨rfl, rfl, rfl⟩ := h
      rw [Nat.zero_add]
      refine ⟨[.ints q j g], .ints q (m - j - 1) (fun i => g (j + 1 + i)) :: r, by simp [sizeS], fun E l hd => ?_, fun e' cs' h' E l hd => ?_⟩
      · simp only [denS, List.cons_append, List.nil_append, denV] at hd ⊢
        obtain ⟨l', rfl, k2⟩ := hd
        rw [intsOf_split q g hj]
        exact ⟨_, by rw [List.append_assoc, List.cons_append], _, _, rfl, rfl, l', rfl, k2⟩
      · obtain ⟨x, rfl, h'⟩ := h'
        simp only [setI, if_true, Option.some.injEq] at h'
        subst h'
        simp only [denS, List.cons_append, List.nil_append, denV] at hd ⊢
        obtain ⟨l1, rfl, v, l2, rfl, rfl, l3, rfl, k2⟩ := hd
        refine ⟨l3, ?_, k2⟩
        rw [intsOf_split q (fun i => if i = j then x else g i) hj, List.append_assoc, intsOf_congr (f := g) (g := fun i => if i = j then x else g i) (fun i hi => (if_neg (by omega)).symm), intsOf_congr (f := fun i => g (j + 1 + i)) (g := fun i => if j + 1 + i = j then x else g (j + 1 + i)) (fun i hi => (if_neg (by omega)).symm)]
        simp
    | succ o =>
      unfold getI at h
      split at h
      · rename_i ho
        have := (Cell.ints (j := j) h hj).cons_ints (k := q) (n := m) (f := g)
        rw [show m + (o + 1 - m + j) = o + 1 + j by omega] at this
        refine this.mono fun e' cs' h' => ?_
        obtain ⟨x, rfl, h'⟩ := h'
        unfold setI at h'
        rw [if_pos ho] at h'
        simp only [Option.map_eq_some_iff] at h'
        obtain ⟨c, hc, rfl⟩ := h'
        exact ⟨c, ⟨x, rfl, hc⟩, rfl⟩
      · cases h

/-- A cell that stays as it is. -/
theorem Cell.keep {cs : List Seg} {o : Nat} {e : SV} (h : CellAt cs o e cs e) : Cell cs o e (fun e' cs' => e' = e ∧ cs' = cs) := by
  obtain ⟨a, c, h1, h2, h3⟩ := h
  exact ⟨a, c, h1, h2, fun e' cs' h => by obtain ⟨rfl, rfl⟩ := h; exact h3⟩

/-- **A call that is handed a pointer to a cell, by a contract shown of a small heap with that cell alone.** -/
theorem Does.cell {T : Tbl} {f : FuncId} {args args' : List EV} {hc h : List Blk} {Q K : EV → List Blk → Prop} (d : Does T f args hc Q) (κ : List Nat) (pv k N : Nat) {m : Bool} {sp : Nat} {cs : List Seg} {x : SV} {P : SV → List Seg → Prop} (hN : h.length = N)
    (hv : nthB h pv = some (.cells m cs sp)) (hcell : Cell cs k x P) (hh : subH (updB h pv .dead ++ [.cells m [.one x] 0]) κ (renH (lk κ (N + 1)) hc)) (ha : partT pv N k args' (renT (lk κ (N + 1)) args))
    (hnd : κ.Nodup) (hro : ∀ v h', Q v h' → roOk hc h') (hlen : ∀ v h', Q v h' → κ.length ≤ h'.length)
    (hK : ∀ v h', Q v h' → ∃ x' cs', nthB (mergeB (updB h pv .dead ++ [.cells m [.one x] 0]) κ (renH (lk κ (N + 1)) h')) N = some (.cells m [.one x'] 0) ∧ P x' cs' ∧
      forceH (updB (updB (mergeB (updB h pv .dead ++ [.cells m [.one x] 0]) κ (renH (lk κ (N + 1)) h')) N .dead) pv (.cells m cs' sp)) fun h2 => forceE (renE (lk κ (N + 1)) v) fun v => K v h2) : Does T f args' h K := by
  subst hN
  obtain ⟨a, b, h1, h2, h3⟩ := hcell
  have hl1 : (updB h pv .dead ++ [Blk.cells m [.one x] 0]).length = h.length + 1 := by rw [List.length_append, len_updB]; rfl
  have d' := Does.frame d κ (h := updB h pv .dead ++ [Blk.cells m [.one x] 0]) hnd hro (by rw [hl1]; exact hh)
  refine Does.part pv a [.one x] b hv h2 (by rw [h1]; exact ha) (hl1 ▸ d') ?_
  rintro v h'' ⟨v', h', hq, rfl, rfl⟩
  obtain ⟨x', cs', k1, k2, k3⟩ := hK v' h' hq
  rw [forceH_eq, forceE_eq] at k3
  refine ⟨?_, [.one x'], cs', ?_, rfl, h3 x' cs' k2, ?_⟩
  · have := roOk_merge hnd (by rw [hl1]; exact hh) (hro v' h' hq) (hlen v' h' hq)
    rwa [hl1] at this
  · exact k1
  · exact k3

end Go.Anv

namespace Go.Anv
open Go
structure Box (p : Prop) : Prop where
  go : p

/-- n rounds at most, by the recursor itself. -/
def loopR (T : Tbl) (O : Org) (c : Code) (K : Exit → St → Prop) (n : Nat) : St → Prop :=
  Nat.rec (motive := fun _ => St → Prop) (fun _ => False) (fun _ ih s => Box (wpx T O c s (seqK ih K))) n

theorem loopR_eq (T : Tbl) (O : Org) (c : Code) (K : Exit → St → Prop) : ∀ (n : Nat) (s : St), loopR T O c K n s = loopN T O c n s K
  | 0, _ => rfl
  | n + 1, s => by
    have e : (Box (wpx T O c s (seqK (loopR T O c K n) K)) : Prop) = wpx T O c s (seqK (loopR T O c K n) K) := propext ⟨fun h => h.go, fun h => ⟨h⟩⟩
    show Box (wpx T O c s (seqK (loopR T O c K n) K)) = wpx T O c s (seqK (fun s' => loopN T O c n s' K) K)
    rw [e, show loopR T O c K n = fun s' => loopN T O c n s' K from funext (loopR_eq T O c K n)]

/-- A loop of at most n rounds, each walked by itself. -/
theorem loop_times {T : Tbl} {O : Org} (on : O.E.n = O.h.length) {c : Code} {K : Exit → St → Prop} (n : Nat) {s : St} (h : loopR T O c K n s) : LoopG T O c s K := loop_unroll on n (loopR_eq T O c K n s ▸ h)
end Go.Anv

namespace Go.Anv
open Go
/-- Arguments that say more. -/
theorem Does.args {T : Tbl} {f : FuncId} {a b : List EV} {h : List Blk} {Q : EV → List Blk → Prop} (e : eqvT a b) (d : Does T f b h Q) : Does T f a h Q := by
  refine ⟨?_⟩
  rcases d.go with ⟨h1, h2⟩ | h1
  · exact .inl ⟨h1, fun E w vs S Z ha => h2 E w vs S Z (eqvT_den _ _ _ e ha)⟩
  · exact .inr fun E w vs S ha => h1 E w vs S (eqvT_den _ _ _ e ha)
end Go.Anv

namespace Go.Anv
open Go
/-- Arguments that are wanted. -/
def unG : List EV → List EV → Prop
  | [], [] => True
  | .gd g v :: r, w :: r' => (g = true ∧ v = w) ∧ unG r r'
  | v :: r, w :: r' => v = w ∧ unG r r'
  | _, _ => False
theorem unG_den {E : Emb} : ∀ (a b : List EV) (l : List Value), unG a b → denT E a l → denT E b l
  | [], [], _, _, h => h
  | x :: r, y :: r', l, he, h => by
    have key : (denE E x = denE E y ∨ ∃ g v, x = .gd g v ∧ g = true ∧ v = y) ∧ unG r r' := by
      cases x with
      | gd g v => exact ⟨.inr ⟨g, v, rfl, he.1⟩, he.2⟩
      | s v => exact ⟨.inl (by rw [he.1]), he.2⟩
      | agg v => exact ⟨.inl (by rw [he.1]), he.2⟩
      | tuple v => exact ⟨.inl (by rw [he.1]), he.2⟩
      | junk => exact ⟨.inl (by rw [he.1]), he.2⟩
    simp only [denT] at h ⊢
    obtain ⟨v, l', rfl, h1, h2⟩ := h
    refine ⟨v, l', rfl, ?_, unG_den r r' l' key.2 h2⟩
    rcases key.1 with e | ⟨g, u, rfl, rfl, rfl⟩
    · rw [← e]; exact h1
    · simp only [denE] at h1
      exact h1.1 trivial
  | [], _ :: _, _, he, _ => he.elim
  | x :: _, [], _, he, _ => by cases x <;> exact he.elim
theorem Does.ungd {T : Tbl} {f : FuncId} {a b : List EV} {h : List Blk} {Q : EV → List Blk → Prop} (e : unG a b) (d : Does T f b h Q) : Does T f a h Q := by
  refine ⟨?_⟩
  rcases d.go with ⟨h1, h2⟩ | h1
  · exact .inl ⟨h1, fun E w vs S Z ha => h2 E w vs S Z (unG_den _ _ _ e ha)⟩
  · exact .inr fun E w vs S ha => h1 E w vs S (unG_den _ _ _ e ha)
end Go.Anv

namespace Go.Anv
open Go
/-- **A call that is handed a part of a block, by a contract shown of a small heap with that part as a block.** -/
theorem Does.partAt {T : Tbl} {f : FuncId} {args args' : List EV} {hc h : List Blk} {Q K : EV → List Blk → Prop} (d : Does T f args hc Q) (κ : List Nat) (i N : Nat) {m : Bool} {sp : Nat} {cs : List Seg} (a b c : List Seg) (hN : h.length = N)
    (hi : nthB h i = some (.cells m cs sp)) (hs : ∀ E l, denS E cs l → denS E (a ++ (b ++ c)) l) (hh : subH (updB h i .dead ++ [.cells m b 0]) κ (renH (lk κ (N + 1)) hc)) (ha : partT i N (sizeS a) args' (renT (lk κ (N + 1)) args))
    (hnd : κ.Nodup) (hro : ∀ v h', Q v h' → roOk hc h') (hlen : ∀ v h', Q v h' → κ.length ≤ h'.length)
    (hK : ∀ v h', Q v h' → ∃ b' cs', nthB (mergeB (updB h i .dead ++ [.cells m b 0]) κ (renH (lk κ (N + 1)) h')) N = some (.cells m b' 0) ∧ sizeS b' = sizeS b ∧ (∀ E l, denS E (a ++ (b' ++ c)) l → denS E cs' l) ∧
      forceH (updB (updB (mergeB (updB h i .dead ++ [.cells m b 0]) κ (renH (lk κ (N + 1)) h')) N .dead) i (.cells m cs' sp)) fun h2 => forceE (renE (lk κ (N + 1)) v) fun v => K v h2) : Does T f args' h K := by
  subst hN
  have hl1 : (updB h i .dead ++ [Blk.cells m b 0]).length = h.length + 1 := by rw [List.length_append, len_updB]; rfl
  have d' := Does.frame d κ (h := updB h i .dead ++ [Blk.cells m b 0]) hnd hro (by rw [hl1]; exact hh)
  refine Does.part i a b c hi hs ha (hl1 ▸ d') ?_
  rintro v h'' ⟨v', h', hq, rfl, rfl⟩
  obtain ⟨b', cs', k1, k2, k3, k4⟩ := hK v' h' hq
  rw [forceH_eq, forceE_eq] at k4
  refine ⟨?_, b', cs', ?_, k2, k3, ?_⟩
  · have := roOk_merge hnd (by rw [hl1]; exact hh) (hro v' h' hq) (hlen v' h' hq)
    rwa [hl1] at this
  · exact k1
  · exact k4
end Go.Anv
