/- Part 6 of the texts of this claim, merged: E13, B1, B2, B3, S1, E14, S2, KT, FT, C1, E15, E16. No condition: plain theorems, contracts of functions. -/
import Derived.Test.YtdlpmbghocabbaaGreatDoorZ5
import Derived.Defers
import Derived.Laws.Externs
import Derived.KernelRfl
import Derived.ChangeSlices
import Derived.OpenShut
import Derived.SizedLaws
import Derived.Test.YtdlpmbghocabbaaGreatDoorRows
import Derived.Lib.LaidTab
import Derived.Lib.LaidU8
import Derived.LaidMore
import Derived.Lay
import Derived.ProofKit
import Derived.Test.YtdlpmbghocabbaaGreatDoorProg

set_option linter.unusedSimpArgs false
set_option linter.unusedVariables false
/- The engine, part 13: functions that defer one call. Plain theorems; their condition: the deferred call is a function's that ends well. -/
namespace Go.Anv
open Go

/-! ### the same numbers -/

section same
variable {ρ : Nat → Nat} (hρ : ∀ i, ρ i = i)
include hρ
mutual
theorem renV_same : ∀ e : SV, renV ρ e = e
  | .ptr .. => by simp only [renV, hρ]
  | .pix .. => by simp only [renV, hρ]
  | .rp .. => by simp only [renV, hρ]
  | .slice .. => by simp only [renV, hρ]
  | .gs .. => by simp only [renV, hρ]
  | .map _ => by simp only [renV, hρ]
  | .func fn f c => by simp only [renV, renL_same f, renL_same c]
  | .iface t a cs => by simp only [renV, renL_same cs]
  | .junk => rfl
  | .int .. => rfl
  | .bool _ => rfl
  | .str _ => rfl
  | .nilptr => rfl
  | .nilslice => rfl
  | .nilmap => rfl
  | .nilfunc => rfl
  | .niliface => rfl
theorem renL_same : ∀ l : List SV, renL ρ l = l
  | [] => by
    have _ := hρ
    rfl
  | e :: r => by simp only [renL, renV_same e, renL_same r]
end

theorem renS_same : ∀ cs : List Seg, renS ρ cs = cs
  | [] => rfl
  | .one e :: r => by simp only [renS, renV_same hρ e, renS_same r]
  | .ints .. :: r => by simp only [renS, renS_same r]

mutual
theorem renE_same : ∀ e : EV, renE ρ e = e
  | .s e => by simp only [renE, renV_same hρ e]
  | .agg cs => by simp only [renE, renS_same hρ cs]
  | .tuple vs => by simp only [renE, renT_same vs]
  | .gd g e => by simp only [renE, renE_same e]
  | .junk => rfl
theorem renT_same : ∀ l : List EV, renT ρ l = l
  | [] => by
    have _ := hρ
    rfl
  | e :: r => by simp only [renT, renE_same e, renT_same r]
end

theorem renM_same : ∀ l : List (SV × EV), renM ρ l = l
  | [] => rfl
  | (k, cs) :: r => by simp only [renM, renV_same hρ k, renE_same hρ cs, renM_same r]

theorem renB_same : ∀ B : Blk, renB ρ B = B
  | .cells m cs sp => by simp only [renB, renS_same hρ cs]
  | .recs m n z f sp => by simp only [renB, renL_same hρ]
  | .map es => by simp only [renB, renM_same hρ es]
  | .dead => rfl

theorem renH_same : ∀ h : List Blk, renH ρ h = h
  | [] => rfl
  | B :: r => by simp only [renH, renB_same hρ B, renH_same r]
end same

theorem lk_range (n i : Nat) : lk (List.range n) n i = i := by
  rcases Nat.lt_or_ge i n with h | h
  · rw [look_lt _ _ i (by simpa using h)]
    simp
  · rw [look_ge _ _ i (by simpa using h)]
    simp
    omega

theorem idK_range : ∀ (n m k : Nat), n ≤ m → idK k n (List.range' k m)
  | 0, _, _, _ => trivial
  | n + 1, 0, _, h => by omega
  | n + 1, m + 1, k, h => ⟨rfl, idK_range n m (k + 1) (by omega)⟩

theorem subQ_range (h : List Blk) : ∀ (r : List Blk) (k : Nat), h.drop k = r → subQ h (List.range' k r.length) r
  | [], _, _ => trivial
  | B :: r, k, hk => by
    have h1 : h[k]? = some B := by
      have := congrArg (·[0]?) hk
      simpa using this
    refine ⟨⟨B, get_nthB h1, eqvB_refl B⟩, subQ_range h r (k + 1) ?_⟩
    have := congrArg (List.drop 1) hk
    simpa [List.drop_drop] using this

/-- A function's end, with the numbers as they are. -/
theorem Ends.same {n : Nat} {Q : EV → List Blk → Prop} {v : EV} {h : List Blk} (hq : Q v h) (hn : n ≤ h.length) : Ends n Q v h := by
  have hlk : ∀ i, lk (List.range h.length) h.length i = i := lk_range h.length
  refine ⟨v, h, List.range h.length, hq, List.nodup_range, by rw [List.range_eq_range']; exact idK_range n h.length 0 hn, ?_, ?_⟩
  · rw [renE_same hlk]; exact eqvE_refl v
  · rw [renH_same hlk, List.range_eq_range']
    exact subQ_range h h 0 rfl

theorem denT_svs {E : Emb} : ∀ {l : List SV} {vs : List Value}, denL E l vs → denT E (l.map .s) vs
  | [], vs, h => by simpa only [denL, denT, List.map_nil] using h
  | x :: r, vs, h => by
    simp only [denL] at h
    obtain ⟨v, l', rfl, h3, h4⟩ := h
    simp only [List.map_cons, denT]
    exact ⟨v, l', rfl, h3, denT_svs h4⟩
theorem denT_app {E : Emb} : ∀ {x y : List EV} {p q : List Value}, denT E x p → denT E y q → denT E (x ++ y) (p ++ q)
  | [], y, p, q, h3, h4 => by simp only [denT] at h3; subst h3; exact h4
  | z :: r, y, p, q, h3, h4 => by
    simp only [denT] at h3
    obtain ⟨v, l', rfl, h5, h6⟩ := h3
    exact ⟨v, l' ++ q, rfl, h5, denT_app h6 h4⟩
/-- A function that may be called by a defer. -/
structure DoesD (T : Tbl) (f : FuncId) (args : List EV) (h : List Blk) (Q : EV → List Blk → Prop) : Prop where
  go : isFn T f ∧ ∀ E w vs, Sim E h w → TabOk E h w → denT E args vs.toList → CallsD T.P f vs .returning w fun e u' w' => u' = .returning ∧ Post E h w Q e w'

theorem DoesD.mono {T : Tbl} {f : FuncId} {args : List EV} {h : List Blk} {Q Q' : EV → List Blk → Prop} (c : DoesD T f args h Q) (hq : ∀ v h', Q v h' → Q' v h') : DoesD T f args h Q' :=
  ⟨c.go.1, fun E w vs S Z ha => (c.go.2 E w vs S Z ha).mono fun _ _ _ p => ⟨p.1, p.2.mono hq⟩⟩

theorem fnX_callD (T : Tbl) {f : FuncId} {F : Func} (hF : T.P.funcs[f]? = some F) {args : List EV} {h : List Blk} {Q : EV → List Blk → Prop}
    (hX : ∀ E w (Z : TabOk E h w), Sim E h w → fnX T ⟨E, h, w, [], Z⟩ F args h Q) : ∀ E w vs u, Sim E h w → TabOk E h w → denT E args vs.toList → CallsD T.P f vs u w fun e u' w' => u' = u ∧ Post E h w Q e w' := by
  intro E w vs u S Z hargs
  have hx := hX E w Z S
  unfold fnX at hx
  split at hx
  · rename_i c hc
    rw [frameK_eq] at hx
    refine callsD_of_wp hF hc ?_
    have hlen : vs.size = args.length := by rw [← Array.length_toList]; exact denT_length hargs
    have R : Rel ⟨E, h, w, [], Z⟩ E { tmps := args ++ junks (F.ntmps - args.length), heap := h } { tmps := vs ++ Array.replicate (F.ntmps - vs.size) undef, defers := [] } w := by
      refine ⟨⟨by simp [length_junks, hlen], fun i v hi => ?_⟩, rfl, S, Since.refl _ _ _⟩
      rw [nth_append_junks]
      split
      · rename_i hlt
        rw [Array.getElem?_append_left (by omega)] at hi
        exact denT_nth hargs (by simpa using hi)
      · simp only [denE]
    refine Code.wp_mono ?_ (wpx_snd (T := T) (O := ⟨E, h, w, [], Z⟩) S.n c hx R)
    rintro e a' w' ⟨E', s', hk, R'⟩
    cases e <;> first
      | (obtain ⟨u, v, h1, h2, h3⟩ := resX_snd T R'.fr R'.sim hk
         exact ⟨R'.df, u, h1, u, v, s'.heap, E', rfl, h2, R'.sim, R'.sin, h3⟩)
      | exact hk.elim
  · exact hx.elim

/-- **A function whose body is walked over a small heap, for a defer.** -/
theorem fnX_doesD (T : Tbl) {f : FuncId} {F : Func} (hF : T.P.funcs[f]? = some F) (hb : F.body.isNone = false) (hname : (F.name == "runtime.NumGoroutine") = false) {args : List EV} {h : List Blk} {Q : EV → List Blk → Prop}
    (hX : ∀ O : Org, O.E.n = O.h.length → O.E.n = h.length → fnX T O F args h (Ends h.length Q)) : DoesD T f args h Q := by
  refine ⟨⟨F, hF, hb, hname⟩, fun E w vs S Z ha => ?_⟩
  have c := fnX_callD T hF (args := args) (h := h) (Q := Ends h.length Q) (fun E w Z S => hX _ S.n S.n) E w vs .returning S Z ha
  refine c.mono ?_
  rintro e u' w' ⟨hu, v, x, h', E', rfl, hd, S', N', V, H, κ, hq, hnd, hid, hv, hh⟩
  obtain ⟨S'', h1, h2, h3⟩ := S'.renum hnd hh
  refine ⟨hu, v, V, H, _, rfl, ?_, S'', N'.renum S.n S' hnd (by rw [S.n]; exact hid) hh, hq⟩
  exact (denE_ren (E := ⟨H.length, fun i => E'.f (lk κ h'.length i)⟩) h1 (fun b hb => ⟨h2 b hb, rfl⟩) _ _).1 (eqvE_den _ _ _ hv hd)

/-- The operations ahead of a defer that stands last; what is deferred. -/
def lastD : List Oper → Option (List Oper × Operand × Array Operand)
  | [] => none
  | [o] => match o.guard, o.dst, o.op with
    | none, none, .defer { callee := .value f, args, .. } => some ([], f, args)
    | _, _, _ => none
  | o :: r => match lastD r with
    | some (p, f, a) => some (o :: p, f, a)
    | none => none

def normK (next : St → Prop) : Exit → St → Prop
  | .normal, s => next s
  | _, _ => False

/-- The walk as far as a defer; the code behind it. -/
def wpd (T : Tbl) (O : Org) (c : Code) : St → (St → EV → List EV → Code → Prop) → Prop :=
  Code.rec (motive := fun _ => St → (St → EV → List EV → Code → Prop) → Prop)
    (fun _ _ => False)
    (fun _ _ _ _ _ => False)
    (fun a b _ wb s k => match a with
      | .region id ops false => match lastD ops.toList with
        | some (pre, f, args) => opsX T ops pre s fun s' => k s' (evT s'.tmps f) (args.toList.map (evT s'.tmps)) b
        | none => wpx T O (.region id ops false) s (normK fun s' => wb s' k)
      | a => wpx T O a s (normK fun s' => wb s' k))
    (fun _ _ _ _ _ _ _ => False)
    (fun _ _ _ _ _ => False)
    (fun _ _ _ _ => False)
    (fun _ _ _ _ _ _ _ _ => False)
    (fun _ _ _ => False)
    (fun _ _ _ _ => False)
    (fun _ _ _ => False)
    (fun _ _ _ => False)
    (fun _ _ => False)
    (fun _ _ _ => False)
    c

theorem wpd_seq (T : Tbl) (O : Org) (a b : Code) (s : St) (k : St → EV → List EV → Code → Prop) : wpd T O (.seq a b) s k = (match a with
    | .region id ops false => match lastD ops.toList with
      | some (pre, f, args) => opsX T ops pre s fun s' => k s' (evT s'.tmps f) (args.toList.map (evT s'.tmps)) b
      | none => wpx T O (.region id ops false) s (normK fun s' => wpd T O b s' k)
    | a => wpx T O a s (normK fun s' => wpd T O b s' k)) := rfl

theorem lastD_spec : ∀ {l pre : List Oper} {f : Operand} {args : Array Operand}, lastD l = some (pre, f, args) → ∃ o tys, l = pre ++ [o] ∧ o.guard = none ∧ o.dst = none ∧ o.op = .defer { callee := .value f, args := args, argTypes := tys }
  | [], _, _, _, h => by simp [lastD] at h
  | [o], pre, f, args, h => by
    simp only [lastD] at h
    split at h
    · rename_i f' args' tys hg hd hop
      simp only [Option.some.injEq, Prod.mk.injEq] at h
      obtain ⟨rfl, rfl, rfl⟩ := h
      exact ⟨o, tys, rfl, hg, hd, hop⟩
    · cases h
  | o :: o' :: r, pre, f, args, h => by
    simp only [lastD] at h
    split at h
    · rename_i p f' a' hr
      simp only [Option.some.injEq, Prod.mk.injEq] at h
      obtain ⟨rfl, rfl, rfl⟩ := h
      obtain ⟨x, tys, h1, h2⟩ := lastD_spec (l := o' :: r) hr
      exact ⟨x, tys, by rw [h1]; rfl, h2⟩
    · cases h

theorem opsX_append {T : Tbl} {O : Org} (on : O.E.n = O.h.length) {ops : Array Oper} {Q : Exit → Act → World → Prop} : ∀ (l l2 : List Oper) {E : Emb} {s : St} {a : Act} {w : World}, Rel O E s a w → ∀ {k : St → Prop}, opsX T ops l s k →
    (∀ E' s' a' w', k s' → Rel O E' s' a' w' → wpList T.P ops Q l2 a' w') → wpList T.P ops Q (l ++ l2) a w
  | [], _, _, _, _, _, R, _, hk, hn => hn _ _ _ _ hk R
  | o :: r, l2, _, _, _, _, R, k, hk, hn => by
    have hk : opX T ops _ o (fun s' => opsX T ops r s' k) := hk
    have := opX_snd on R hk (next := wpList T.P ops Q (r ++ l2)) (Q := Q) (fun E' s' a' w' h1 h2 => opsX_append on r l2 h2 h1 hn)
    rw [List.cons_append]
    unfold wpList
    split
    · rename_i hw; rw [if_pos hw] at this; exact .inl this
    · rename_i hw; rw [if_neg hw] at this; exact this

theorem wpd_snd {T : Tbl} {O : Org} (on : O.E.n = O.h.length) {Q : Exit → Act → World → Prop} {k : St → EV → List EV → Code → Prop}
    (hk : ∀ E s a w f args fv vs b, k s f args b → denE E f fv → denT E args vs → Rel O E s a w → ∀ d, (∀ P w', (Deferred.ofValue fv vs.toArray).run P w' = .ok d w') → Code.wp T.P b Q { a with defers := d :: a.defers } w) :
    ∀ (c : Code) {E : Emb} {s : St} {a : Act} {w : World}, wpd T O c s (fun s f args b => (∃ g x y, f = .s (.func g x y)) ∧ k s f args b) → Rel O E s a w → c.wp T.P Q a w := by
  have step : ∀ (x y : Code) {E : Emb} {s : St} {a : Act} {w : World} {n : St → Prop}, wpx T O x s (normK n) → Rel O E s a w → (∀ {E s a w}, n s → Rel O E s a w → y.wp T.P Q a w) → (Code.seq x y).wp T.P Q a w := by
    intro x y E s a w n hx R hy
    refine wp_seq (Code.wp_mono ?_ (wpx_snd on x hx R))
    rintro e a' w' ⟨E', s', h1, h2⟩
    cases e <;> first
      | exact hy h1 h2
      | exact h1.elim
  intro c
  induction c with
  | seq x y _ ihy =>
    intro E s a w h R
    rw [wpd_seq] at h
    split at h
    · rename_i id ops _ _
      split at h
      · rename_i pre f args hl
        obtain ⟨o, tys, h1, hg, hd, hop⟩ := lastD_spec hl
        refine wp_seq (wp_region_list ?_)
        rw [h1]
        refine opsX_append on pre [o] R h fun E' s' a' w' hk' R' => ?_
        obtain ⟨⟨g, x, z, hf⟩, hk'⟩ := hk'
        have hfd := ev_denE R'.fr f
        have hargs := denT_map (E := E') (evT s'.tmps) a'.eval args.toList (fun x _ => ev_denE R'.fr x)
        have hfv : ∃ x' z', a'.eval f = .func g x' z' := by
          have hf' : s'.ev f = .s (.func g x z) := hf
          rw [hf'] at hfd
          simp only [denE, denV] at hfd
          obtain ⟨x', z', h3, _⟩ := hfd
          exact ⟨x', z', h3⟩
        obtain ⟨x', z', hfv⟩ := hfv
        have hrun : ∀ P w', (Deferred.ofValue (a'.eval f) (args.toList.map a'.eval).toArray).run P w' = .ok { target := .fn g z', args := x' ++ (args.toList.map a'.eval).toArray } w' := fun P w' => by
          rw [hfv]; rfl
        have hwp := hk E' s' a' w' _ _ _ _ _ hk' hfd hargs R' _ hrun
        unfold wpList
        rw [if_pos (by simp [Region.wanted, hg])]
        refine .inl ?_
        unfold Oper.wp
        have hex : (execOp a'.eval o).run T.P w' = .ok (.defer { target := .fn g z', args := x' ++ (args.toList.map a'.eval).toArray }) w' := by
          unfold execOp
          simp only [hop, resolve]
          rw [hfv, ← Array.toList_map, Array.toArray_toList]
          rfl
        rw [hex, Oper.upon_defer, hd]
        exact hwp
      · exact step _ _ h R fun h1 h2 => ihy h1 h2
    · exact step _ _ h R fun h1 h2 => ihy h1 h2
  | _ => intro E s a w h R; exact h.elim

/-- What comes behind the code: the deferred call, and what is handed back. -/
def bodyD (T : Tbl) (F : Func) (f : EV) (args : List EV) (Q : EV → List Blk → Prop) : Exit → St → Prop
  | .normal, s => match f with
    | .s (.func (.func g) a c) => argsK a args c fun l => DoesD T g l s.heap fun _ h => resX T ⟨s.tmps, h⟩ F.results.toList Q
    | _ => False
  | .ret, s => match f with
    | .s (.func (.func g) a c) => argsK a args c fun l => DoesD T g l s.heap fun _ h => resX T ⟨s.tmps, h⟩ F.results.toList Q
    | _ => False
  | _, _ => False

/-- A function's body that defers a call, walked. -/
def fnXD (T : Tbl) (O : Org) (F : Func) (args : List EV) (h : List Blk) (Q : EV → List Blk → Prop) : Prop :=
  match F.body with
  | some c => frameK args F.ntmps fun ts => wpd T O c ⟨ts, h⟩ fun s f dargs rest => (∃ g x y, f = .s (.func g x y)) ∧ ∀ O' : Org, O'.E.n = O'.h.length → O'.E.n = s.heap.length → O.E.n ≤ O'.E.n → wpx T O' rest s (bodyD T F f dargs Q)
  | none => False

theorem fnXD_call (T : Tbl) {f : FuncId} {F : Func} (hF : T.P.funcs[f]? = some F) {args : List EV} {h : List Blk} {Q : EV → List Blk → Prop}
    (hX : ∀ E w (Z : TabOk E h w), Sim E h w → fnXD T ⟨E, h, w, [], Z⟩ F args h Q) : CallG T f args h Q := by
  intro E w vs S Z hargs
  have hx := hX E w Z S
  unfold fnXD at hx
  split at hx
  · rename_i c hc
    rw [frameK_eq] at hx
    refine calls_of_wp_defers hF hc ?_
    have hlen : vs.size = args.length := by rw [← Array.length_toList]; exact denT_length hargs
    have R : Rel ⟨E, h, w, [], Z⟩ E { tmps := args ++ junks (F.ntmps - args.length), heap := h } { tmps := vs ++ Array.replicate (F.ntmps - vs.size) undef, defers := [] } w := by
      refine ⟨⟨by simp [length_junks, hlen], fun i v hi => ?_⟩, rfl, S, Since.refl _ _ _⟩
      rw [nth_append_junks]
      split
      · rename_i hlt
        rw [Array.getElem?_append_left (by omega)] at hi
        exact denT_nth hargs (by simpa using hi)
      · simp only [denE]
    refine wpd_snd (O := ⟨E, h, w, [], Z⟩) S.n ?_ c hx R
    intro E1 s1 a1 w1 fv0 dargs fv dvs rest hk hfd hdargs R1 d hd
    have hdf : a1.defers = [] := R1.df
    have Z1 : TabOk E1 s1.heap w1 := Z.since R1.sin
    have hO := hk ⟨E1, s1.heap, w1, [d], Z1⟩ R1.sim.n R1.sim.n (by have h1 := R1.sin.len; have h2 := S.n; have h3 := R1.sim.n; simp only at *; omega)
    have R1' : Rel ⟨E1, s1.heap, w1, [d], Z1⟩ E1 s1 { a1 with defers := d :: a1.defers } w1 := ⟨R1.fr, by simp [hdf], R1.sim, Since.refl _ _ _⟩
    refine Code.wp_mono ?_ (wpx_snd (T := T) (O := ⟨E1, s1.heap, w1, [d], Z1⟩) R1.sim.n rest hO R1')
    have key : ∀ E2 s2 a2 w2, (match fv0 with
        | .s (.func (.func g) a c) => argsK a dargs c fun l => DoesD T g l s2.heap fun _ h => resX T ⟨s2.tmps, h⟩ F.results.toList Q
        | _ => False) → Rel ⟨E1, s1.heap, w1, [d], Z1⟩ E2 s2 a2 w2 → Leaves T.P F a2.tmps (Post E h w Q) a2.defers .returning w2 := by
      intro E2 s2 a2 w2 hb R2
      have hdf2 : a2.defers = [d] := R2.df
      split at hb
      · rename_i g fa fc
        rw [argsK_eq] at hb
        simp only [denE, denV] at hfd
        obtain ⟨f', c', rfl, h1, h2⟩ := hfd
        have hdd : d = { target := .fn (.func g) c', args := f' ++ dvs.toArray } := by
          have h0 : (Deferred.ofValue (.func (.func g) f' c') dvs.toArray).run T.P w = .ok { target := .fn (.func g) c', args := f' ++ dvs.toArray } w := rfl
          have := hd T.P w
          rw [h0] at this
          cases this
          rfl
        rw [hdf2, hdd]
        obtain ⟨hfn, hgo⟩ := hb.go
        obtain ⟨G, hG, hbody, hname⟩ := hfn
        have hle2 : E1.le E2 := R2.sin.le R1.sim.n R2.sim.n
        have hda : denT E2 (fa.map .s ++ dargs ++ fc.map .s) (f'.toList ++ dvs ++ c'.toList) := denT_app (denT_app (denT_svs (denL_mono hle2 _ _ h1)) (denT_mono hle2 _ _ hdargs)) (denT_svs (denL_mono hle2 _ _ h2))
        refine leaves_cons (f := g) (args := f' ++ dvs.toArray ++ c') (by simp) ?_ ?_
        · simp only [invoke, callFunc, Sem.run_bind, run_program, Result.andThen_ok, hG]
          simp [hbody]
          intro hh
          simp [hh] at hname
        · refine (hgo E2 w2 (f' ++ dvs.toArray ++ c') R2.sim (Z1.since R2.sin) (by simpa using hda)).mono ?_
          rintro e u' w3 ⟨rfl, v, x, h3, E3, rfl, _, S3, N3, hq⟩
          have hfr : frameOk E3 s2.tmps a2.tmps := frameOk_mono (N3.le R2.sim.n S3.n) R2.fr
          obtain ⟨u, v', k1, k2, k3⟩ := resX_snd T (s := ⟨s2.tmps, h3⟩) hfr S3 hq
          refine ⟨u, k1, u, v', h3, E3, rfl, k2, S3, ?_, k3⟩
          have n1 := R1.sin
          exact ((n1.trans S.n R1.sim.n R2.sin).trans S.n R2.sim.n N3)
      · exact hb.elim
    rintro e a2 w2 ⟨E2, s2, hb, R2⟩
    cases e <;> first
      | exact key E2 s2 a2 w2 hb R2
      | exact hb.elim
  · exact hx.elim

/-- **A function that defers a call, walked over a small heap.** -/
theorem fnXD_does (T : Tbl) {f : FuncId} {F : Func} (hF : T.P.funcs[f]? = some F) (hb : F.body.isNone = false) (hname : (F.name == "runtime.NumGoroutine") = false) {args : List EV} {h : List Blk} {Q : EV → List Blk → Prop}
    (hX : ∀ O : Org, O.E.n = O.h.length → O.E.n = h.length → fnXD T O F args h (Ends h.length Q)) : Does T f args h Q := by
  refine ⟨.inl ⟨⟨F, hF, hb, hname⟩, fun E w vs S Z ha => ?_⟩⟩
  have c := fnXD_call T hF (args := args) (h := h) (Q := Ends h.length Q) (fun E w Z S => hX _ S.n S.n) E w vs S Z ha
  refine c.mono ?_
  rintro e w' ⟨v, x, h', E', rfl, hd, S', N', V, H, κ, hq, hnd, hid, hv, hh⟩
  obtain ⟨S'', h1, h2, h3⟩ := S'.renum hnd hh
  refine ⟨v, V, H, _, rfl, ?_, S'', N'.renum S.n S' hnd (by rw [S.n]; exact hid) hh, hq⟩
  exact (denE_ren (E := ⟨H.length, fun i => E'.f (lk κ h'.length i)⟩) h1 (fun b hb => ⟨h2 b hb, rfl⟩) _ _).1 (eqvE_den _ _ _ hv hd)

end Go.Anv

/- The bus: its block; the lock of its console. No condition: contracts of functions. -/
namespace Go.Anv
open Go
theorem length_updB : ∀ (h : List Blk) (b : Nat) (B : Blk), (updB h b B).length = h.length
  | [], _, _ => rfl
  | _ :: _, 0, _ => rfl
  | _ :: r, b + 1, B => by simp [updB, length_updB r b B]

theorem nthB_updB : ∀ {h : List Blk} {b : Nat} {A B : Blk}, nthB h b = some A → nthB (updB h b B) b = some B
  | [], _, _, _, h => by simp [nthB] at h
  | _ :: _, 0, _, _, _ => rfl
  | _ :: r, b + 1, _, _, h => by simp only [nthB, updB] at h ⊢; exact nthB_updB h

theorem getS_setS : ∀ {cs cs' : List Seg} {o : Nat} {e : SV}, setS cs o e = some cs' → getS cs' o = some e
  | [], _, _, _, h => by simp [setS] at h
  | .one _ :: r, _, 0, e, h => by simp only [setS, Option.some.injEq] at h; subst h; rfl
  | .one v :: r, _, o + 1, e, h => by
    simp only [setS, Option.map_eq_some_iff] at h
    obtain ⟨c, hc, rfl⟩ := h
    simp only [getS]
    exact getS_setS hc
  | .ints k n f :: r, _, o, e, h => by
    unfold setS at h
    split at h
    · rename_i ho
      simp only [Option.map_eq_some_iff] at h
      obtain ⟨c, hc, rfl⟩ := h
      unfold getS
      rw [if_neg (by omega)]
      exact getS_setS hc
    · cases h

end Go.Anv
namespace Go.Proofs.YtdlpmbghocabbaaGreatDoor
open Go Go.Anv
section lock
variable {h : List Blk} {b o sp : Nat} {cs cs' : List Seg}

theorem set_lock {E : Emb} {w : World} {k y : Int} (S : Sim E h w) (hb : nthB h b = some (.cells true cs sp)) (hg : getS cs o = some (.int .i32 k)) (hs : setS cs o (.int .i32 y) = some cs') :
    w.cell? (E.at b o) = some (.int .i32 k) ∧ w.frozen? (E.at b o) = false ∧ Sim E (updB h b (.cells true cs' sp)) (w.setCell (E.at b o) (.int .i32 y)) ∧ Since E h w E (updB h b (.cells true cs' sp)) (w.setCell (E.at b o) (.int .i32 y)) := by
  have hb' := nthB_get hb
  obtain ⟨l, hl, hw, _⟩ := S.look hb'
  obtain ⟨_, _, hm⟩ := S.ok b _ hb'
  obtain ⟨u, h1, h2⟩ := getS_den hl hg
  simp only [denV] at h2
  subst h2
  have h3 := hw o _ h1
  obtain ⟨k1, k2, k3⟩ := setS_den (E := E) (v := .int .i32 y) hl (by simp only [denV]) hs
  have hd : denS E cs' (l.take o ++ ([Value.int .i32 y] ++ l.drop (o + [Value.int .i32 y].length))) := by
    rw [← list_set_eq _ (by rw [denS_length hl]; exact k3)]
    exact k1
  refine ⟨h3, (hm rfl o (by omega)).2.frozen h3, ?_, ?_⟩
  · rw [updB_eq]; exact S.store (vs := [.int .i32 y]) hb' hl hw hd k2 k3
  · rw [updB_eq]; exact Since.store (vs := [.int .i32 y]) hb' k2 k3

theorem cas_spec {k y : Int} (hb : nthB h b = some (.cells true cs sp)) (hg : getS cs o = some (.int .i32 k)) (hs : setS cs o (.int .i32 y) = some cs') :
    Does TB 132 [.s (.ptr b o), .s (.int .i32 k), .s (.int .i32 y)] h (fun r h' => r = .s (.bool true) ∧ h' = updB h b (.cells true cs' sp)) := by
  refine ⟨.inr fun E w vs S ha => ?_⟩
  simp only [denT, denE, denV] at ha
  obtain ⟨x1, l1, e1, ⟨_, rfl⟩, x2, l2, rfl, rfl, x3, l3, rfl, rfl, rfl⟩ := ha
  have hvs : vs = #[.pointer (some (E.at b o)), .int .i32 k, .int .i32 y] := by rw [← Array.toList_inj]; exact e1
  subst hvs
  obtain ⟨h1, h2, h3, h4⟩ := set_lock S hb hg hs
  have hrun := run_call_cas_hit (P := TB.P) (y := y) Tryz.func132 (by kernel_rfl) (by kernel_rfl) (by kernel_rfl) .i32 (by kernel_rfl) h1 h2
  exact ⟨_, _, hrun, _, _, _, _, rfl, (by simp only [denE, denV] : denE E (.s (.bool true)) _), h3, h4, rfl, rfl⟩

theorem add_spec {k y s : Int} (hw : IntKind.i32.wrap (k + y) = s) (hb : nthB h b = some (.cells true cs sp)) (hg : getS cs o = some (.int .i32 k)) (hs : setS cs o (.int .i32 s) = some cs') :
    Does TB 137 [.s (.ptr b o), .s (.int .i32 y)] h (fun r h' => r = .s (.int .i32 s) ∧ h' = updB h b (.cells true cs' sp)) := by
  refine ⟨.inr fun E w vs S ha => ?_⟩
  simp only [denT, denE, denV] at ha
  obtain ⟨x1, l1, e1, ⟨_, rfl⟩, x2, l2, rfl, rfl, rfl⟩ := ha
  have hvs : vs = #[.pointer (some (E.at b o)), .int .i32 y] := by rw [← Array.toList_inj]; exact e1
  subst hvs
  obtain ⟨h1, h2, h3, h4⟩ := set_lock S hb hg hs
  have hrun := run_call_add (P := TB.P) (y := y) (s := s) Tryz.func137 (by kernel_rfl) (by kernel_rfl) (by kernel_rfl) .i32 (by kernel_rfl) h1 h2 (by simp [Op.intArith, hw])
  exact ⟨_, _, hrun, _, _, _, _, rfl, (by simp only [denE, denV] : denE E (.s (.int .i32 s)) _), h3, h4, rfl, rfl⟩
end lock

theorem mark0_spec {f : FuncId} {fn : Func} {m : Mark} (hf : TB.P.funcs[f]? = some fn) (hname : (fn.name == "runtime.NumGoroutine") = false) (hb : fn.body.isNone = true) (hn : Extern.findNext fn = none)
    (he : Extern.find fn = some (fun _ => do mark m; pure Extern.Race.none_)) (h : List Blk) : Does TB f [] h (fun r h' => r = .tuple [] ∧ h' = h) := by
  refine ⟨.inr fun E w vs S ha => ?_⟩
  simp only [denT] at ha
  have hvs : vs = #[] := by rw [← Array.toList_inj]; exact ha
  subst hvs
  exact ⟨_, _, run_call_mark0 (P := TB.P) hf hname hb hn m he w, _, _, _, _, rfl, (by simp only [denE]; exact ⟨_, rfl, rfl⟩ : denE E (.tuple []) _), S, Since.refl _ _ _, rfl, rfl⟩

theorem marked_spec {f : FuncId} {fn : Func} {m : Addr → Mark} (hf : TB.P.funcs[f]? = some fn) (hname : (fn.name == "runtime.NumGoroutine") = false) (hb : fn.body.isNone = true) (hn : Extern.findNext fn = none)
    (he : Extern.find fn = some (Extern.Race.marked m)) (b o : Nat) (h : List Blk) : Does TB f [.s (.ptr b o)] h (fun r h' => r = .tuple [] ∧ h' = h) := by
  refine ⟨.inr fun E w vs S ha => ?_⟩
  simp only [denT, denE, denV] at ha
  obtain ⟨x1, l1, e1, ⟨hb1, rfl⟩, rfl⟩ := ha
  have hvs : vs = #[.pointer (some (E.at b o))] := by rw [← Array.toList_inj]; exact e1
  subst hvs
  exact ⟨_, _, run_call_marked (P := TB.P) hf hname hb hn m he _ w, _, _, _, _, rfl, (by simp only [denE]; exact ⟨_, rfl, rfl⟩ : denE E (.tuple []) _), S, Since.refl _ _ _, rfl, rfl⟩

theorem disable_spec (h : List Blk) : Does TB 131 [] h (fun r h' => r = .tuple [] ∧ h' = h) := mark0_spec (m := .disable) Tryz.func131 (by kernel_rfl) (by kernel_rfl) (by kernel_rfl) (by kernel_rfl) h
theorem enable_spec (h : List Blk) : Does TB 133 [] h (fun r h' => r = .tuple [] ∧ h' = h) := mark0_spec (m := .enable) Tryz.func133 (by kernel_rfl) (by kernel_rfl) (by kernel_rfl) (by kernel_rfl) h
theorem acquire_spec (b o : Nat) (h : List Blk) : Does TB 134 [.s (.ptr b o)] h (fun r h' => r = .tuple [] ∧ h' = h) := marked_spec (m := .acquire) Tryz.func134 (by kernel_rfl) (by kernel_rfl) (by kernel_rfl) (by kernel_rfl) b o h
theorem release_spec (b o : Nat) (h : List Blk) : Does TB 136 [.s (.ptr b o)] h (fun r h' => r = .tuple [] ∧ h' = h) := marked_spec (m := .releaseMerge) Tryz.func136 (by kernel_rfl) (by kernel_rfl) (by kernel_rfl) (by kernel_rfl) b o h

section lock
variable {h : List Blk} {b o sp : Nat} {cs cs' : List Seg}

theorem ilock_spec (hb : nthB h b = some (.cells true cs sp)) (hg : getS cs o = some (.int .i32 0)) (hs : setS cs o (.int .i32 1) = some cs') :
    Does TB 109 [.s (.ptr b o)] h (fun r h' => r = .tuple [] ∧ h' = updB h b (.cells true cs' sp)) := by
  refine fnX_does TB Tryz.func109 rfl (by decide) (fun O on hO => ?_)
  refine (disable_spec _).mono ?_
  rintro _ _ ⟨rfl, rfl⟩
  refine (cas_spec hb hg hs).mono ?_
  rintro _ _ ⟨rfl, rfl⟩
  refine (enable_spec _).mono ?_
  rintro _ _ ⟨rfl, rfl⟩
  refine need_intro ⟨_, _, _, _, nthB_updB hb, getS_setS hs⟩ ?_
  refine (acquire_spec b o _).mono ?_
  rintro _ _ ⟨rfl, rfl⟩
  exact Ends.same ⟨rfl, rfl⟩ (by rw [length_updB]; exact Nat.le_refl _)

theorem lock_spec (hb : nthB h b = some (.cells true cs sp)) (hg : getS cs o = some (.int .i32 0)) (hs : setS cs o (.int .i32 1) = some cs') :
    Does TB 78 [.s (.ptr b o)] h (fun r h' => r = .tuple [] ∧ h' = updB h b (.cells true cs' sp)) := by
  refine fnX_does TB Tryz.func78 rfl (by decide) (fun O on hO => ?_)
  refine (ilock_spec hb hg hs).mono ?_
  rintro _ _ ⟨rfl, rfl⟩
  exact Ends.same ⟨rfl, rfl⟩ (by rw [length_updB]; exact Nat.le_refl _)

theorem loadX_int (T : Tbl) {t : TypeId} {i : TI} {k : IntKind} {x : Int} (ht : T.ty t = some i) (hd : i.d = .int k) (hb : nthB h b = some (.cells true cs sp)) (hg : getS cs o = some (.int k x)) : loadX T h t (.s (.ptr b o)) = .ok (.s (.int k x)) := by
  have : i.d.agg = false := by rw [hd]; rfl
  simp only [loadX, ht, hb, this, hg]
  simp

theorem iunlock_spec (hb : nthB h b = some (.cells true cs sp)) (hg : getS cs o = some (.int .i32 1)) (hs : setS cs o (.int .i32 0) = some cs') :
    Does TB 110 [.s (.ptr b o)] h (fun r h' => r = .tuple [] ∧ h' = updB h b (.cells true cs' sp)) := by
  refine fnX_does TB Tryz.func110 rfl (by decide) (fun O on hO => ?_)
  have hl : loadX TB h 21 (.s (.ptr b (o + 0))) = .ok (.s (.int .i32 1)) := loadX_int TB rfl rfl hb hg
  show (match loadX TB h 21 (.s (.ptr b (o + 0))) with
    | .ok v => _
    | .need p v => _
    | .fail => _)
  rw [hl]
  refine need_intro ⟨_, _, _, _, hb, hg⟩ ?_
  refine (release_spec b o _).mono ?_
  rintro _ _ ⟨rfl, rfl⟩
  refine (disable_spec _).mono ?_
  rintro _ _ ⟨rfl, rfl⟩
  refine (add_spec (k := 1) (y := -1) (s := 0) (by decide) hb hg hs).mono ?_
  rintro _ _ ⟨rfl, rfl⟩
  refine (enable_spec _).mono ?_
  rintro _ _ ⟨rfl, rfl⟩
  exact Ends.same ⟨rfl, rfl⟩ (by rw [length_updB]; exact Nat.le_refl _)

theorem unlock_spec (hb : nthB h b = some (.cells true cs sp)) (hg : getS cs o = some (.int .i32 1)) (hs : setS cs o (.int .i32 0) = some cs') :
    DoesD TB 79 [.s (.ptr b o)] h (fun r h' => r = .tuple [] ∧ h' = updB h b (.cells true cs' sp)) := by
  refine fnX_doesD TB Tryz.func79 rfl (by decide) (fun O on hO => ?_)
  refine (iunlock_spec hb hg hs).mono ?_
  rintro _ _ ⟨rfl, rfl⟩
  exact Ends.same ⟨rfl, rfl⟩ (by rw [length_updB]; exact Nat.le_refl _)
end lock
end Go.Proofs.YtdlpmbghocabbaaGreatDoor

/- The bus: states, what may be one, a bus of a state. No condition: contracts of functions. -/
namespace Go.Anv
open Go
abbrev B64 := BitVec 64
abbrev B32 := BitVec 32
abbrev B8 := BitVec 8
def bfun (q : Nat → B8) (j : Nat) : Int := ((q j).toNat : Int)
def wfun (q : Nat → B64) (j : Nat) : Int := ((q j).toNat : Int)
/-- A block of bytes. -/
def bblk (m : Bool) (n : Nat) (q : Nat → B8) (sp : Nat) : Blk := .cells m [.ints .u8 n (bfun q)] sp

/-- A bus's plain values: the lists' lengths with them. -/
structure BusV where
  nr : Nat
  msip : B32
  cmp : B64
  now : B64
  ext : Bool
  soft : Bool
  ier : B8
  lcr : B8
  mcr : B8
  scratch : B8
  overrun : Bool
  ni : Nat
  no : Nat
  off : Int
  code : Int

/-- The cells of api.Bus; r, i, o: where its lists lie. -/
def BusV.segs (s : BusV) (r i o : SV) : List Seg :=
  [.one r, .one (.int .u32 s.msip.toNat), .one (.int .u64 s.cmp.toNat), .one (.int .u64 s.now.toNat), .one (.bool s.ext), .one (.bool s.soft), .one (.int .u8 s.ier.toNat), .one (.int .u8 s.lcr.toNat), .one (.int .u8 s.mcr.toNat), .one (.int .u8 s.scratch.toNat),
    .one (.bool s.overrun), .one i, .one o, .one (.int .i64 s.off), .one (.int .i64 s.code)]

/-- The cells of bus.Bus. -/
def BusV.dev (s : BusV) (lock : Int) (r i o : SV) : List Seg :=
  [.one r, .one (.int .i64 s.off), .one (.int .i64 s.code), .one (.int .u32 s.msip.toNat), .one (.int .u64 s.cmp.toNat), .one (.int .u64 s.now.toNat), .one (.int .i32 lock), .one (.int .u32 0), .one i, .one o,
    .one (.int .u8 s.ier.toNat), .one (.int .u8 s.lcr.toNat), .one (.int .u8 s.mcr.toNat), .one (.int .u8 s.scratch.toNat), .one (.bool s.overrun), .one (.bool s.ext), .one (.bool s.soft)]

def fitsB (n : Int) : Bool := decide (8 ≤ n) && decide (n ≤ 65536) && decide (n % 8 = 0)
def BusV.can (s : BusV) : Bool :=
  decide ((8 ≤ s.nr ∧ s.nr ≤ 65536 ∧ s.nr % 8 = 0) ∧ s.msip.toNat ≤ 1 ∧ s.ier.toNat ≤ 15 ∧ s.mcr.toNat ≤ 31 ∧ s.ni ≤ 64 ∧ s.no ≤ 4096 ∧ ((s.off = 0 ∨ s.off = 1) ∧ s.code = 0 ∨ s.off = 2 ∧ 0 ≤ s.code ∧ s.code ≤ 65535))

/-- The lists of a bus lie in three blocks. -/
structure Lists where
  mr : Bool
  sr : Nat
  ram : Nat → B8
  mi : Bool
  si : Nat
  inp : Nat → B8
  mo : Bool
  so : Nat
  out : Nat → B8
def Lists.blks (l : Lists) (s : BusV) : List Blk := [bblk l.mr s.nr l.ram l.sr, bblk l.mi s.ni l.inp l.si, bblk l.mo s.no l.out l.so]
end Go.Anv
namespace Go.Proofs.YtdlpmbghocabbaaGreatDoor
open Go Go.Anv
theorem fits_spec (n : Int) (h : List Blk) : Does TB 47 [.s (.int .i64 n)] h (fun v h' => v = .s (.bool (fitsB n)) ∧ h' = h) := by
  refine fnX_pure TB Tryz.func47 rfl (by decide) rfl _ rfl (fun O on => ?_) h
  repeat (refine need_intro (by simp) ?_)
  show (_ : Bool) = _
  unfold fitsB
  by_cases h1 : 8 ≤ n
  · by_cases h2 : n ≤ 65536
    · have : n.tmod 8 = n % 8 := Int.tmod_eq_emod_of_nonneg (by omega)
      simp [h1, h2, this]
      by_cases h3 : n % 8 = 0 <;> simp [h3]
    · simp [h1, h2]
  · simp [h1]
theorem room5 (k : Nat) (h : k ≤ 140737488355328) : room ti5 k := ⟨⟨rfl, by decide⟩, h, by show k * 1 ≤ _; omega⟩
theorem own_spec (m : Bool) (k o n c sp : Nat) (q : Nat → B8) (p : Nat → B8) (hn : o + n ≤ k) (hk : n ≤ 140737488355328) (hp : ∀ j, j < n → q (o + j) = p j) :
    Does TB 45 [.s (.gs 0 o n c)] [bblk m k q sp] (fun v h' => ∃ cap, n ≤ cap ∧ v = .s (.gs 1 0 n cap) ∧ h' = [bblk m k q sp, bblk true n p (cap - n)]) := by
  refine fnX_does TB Tryz.func45 rfl (by decide) (fun O on hO => ?_)
  refine need_intro ⟨hn, room5 _ hk⟩ ?_
  intro c1 hc1
  refine ⟨_, _, [0, 1], ⟨c1, hc1, rfl, rfl⟩, by decide, ⟨rfl, trivial⟩, eqvE_refl _, ⟨⟨_, rfl, eqvB_refl _⟩, ⟨_, rfl, ⟨rfl, ?_, ⟨⟨rfl, rfl, fun j hj => ?_⟩, trivial⟩⟩⟩, trivial⟩⟩
  · exact Nat.mul_one _
  · show ((q (o + j)).toNat : Int) = ((p j).toNat : Int)
    rw [hp j hj]
theorem can_spec (s : BusV) (l : Lists) (cr ci co : Nat) (hni : s.ni < 2 ^ 62) (hno : s.no < 2 ^ 62) (hnr : s.nr < 2 ^ 62) :
    Does TB 44 [.agg (s.segs (.gs 0 0 s.nr cr) (.gs 1 0 s.ni ci) (.gs 2 0 s.no co))] (l.blks s) (fun v h' => v = .s (.bool s.can) ∧ h' = l.blks s) := by
  refine fnX_does TB Tryz.func44 rfl (by decide) (fun O on hO => ?_)
  refine (fits_spec _ _).mono ?_
  rintro v h' ⟨rfl, rfl⟩
  repeat (refine need_intro (by simp) ?_)
  have fin : ∀ {x : Bool} {b0 b1 b2 b3 : Blk}, x = s.can → b0 = bblk l.mr s.nr l.ram l.sr → b1 = bblk l.mi s.ni l.inp l.si → b2 = bblk l.mo s.no l.out l.so → Anv.Ends (l.blks s).length (fun v h' => v = .s (.bool s.can) ∧ h' = l.blks s) (.s (.bool x)) [b0, b1, b2, b3] := by
    rintro x b0 b1 b2 b3 rfl rfl rfl rfl
    exact ⟨_, _, [0, 1, 2], ⟨rfl, rfl⟩, by decide, ⟨rfl, rfl, rfl, trivial⟩, eqvE_refl _, ⟨⟨_, rfl, eqvB_refl _⟩, ⟨_, rfl, eqvB_refl _⟩, ⟨_, rfl, eqvB_refl _⟩, trivial⟩⟩
  refine ifB_intro (fun h1 => ?_) (fun h1 => ?_)
  · refine fin ?_ rfl rfl rfl
    simp only [Bool.cond_true_left, Bool.or_eq_true, Bool.not_eq_true', fitsB, Bool.and_eq_false_iff, decide_eq_true_eq, decide_eq_false_iff_not] at h1
    symm
    unfold BusV.can
    rw [decide_eq_false_iff_not]
    omega
  · simp only [Bool.cond_true_left, Bool.or_eq_false_iff, Bool.not_eq_false', fitsB, Bool.and_eq_true, decide_eq_true_eq, decide_eq_false_iff_not] at h1
    have leaf : ∀ {x : Bool}, ((x = true ↔ ((s.off = 0 ∨ s.off = 1) ∧ s.code = 0 ∨ s.off = 2 ∧ 0 ≤ s.code ∧ s.code ≤ 65535))) → x = s.can := by
      intro x hx
      rw [Bool.eq_iff_iff, hx]
      unfold BusV.can
      rw [decide_eq_true_eq]
      constructor
      · intro h; omega
      · intro h; omega
    refine ifB_intro (fun h2 => ?_) (fun h2 => ?_)
    · have h2 : s.off = 0 := by simpa using h2
      refine ifB_intro (fun h3 => ?_) (fun h3 => by simp [h2] at h3)
      refine fin (leaf ?_) rfl rfl rfl
      simp [h2]
    · have h2 : ¬ s.off = 0 := by simpa using h2
      refine ifB_intro (fun h3 => ?_) (fun h3 => ?_)
      · have h3 : s.off = 1 := by simpa using h3
        refine fin (leaf ?_) rfl rfl rfl
        simp [h3]
      · have h3 : ¬ s.off = 1 := by simpa using h3
        refine ifB_intro (fun h4 => ?_) (fun h4 => ?_)
        · have h4 : s.off = 2 := by simpa using h4
          repeat (refine need_intro (by simp) ?_)
          refine fin (leaf ?_) rfl rfl rfl
          simp only [Bool.cond_false_right, Bool.and_eq_true, decide_eq_true_eq]
          omega
        · have h4 : ¬ s.off = 2 := by simpa using h4
          refine fin (leaf ?_) rfl rfl rfl
          simp [h2, h3, h4]
end Go.Proofs.YtdlpmbghocabbaaGreatDoor

/- The bus: the bus that a state makes. No condition: contracts of functions. -/
namespace Go.Proofs.YtdlpmbghocabbaaGreatDoor
open Go Go.Anv
theorem canBe_spec (s : BusV) (l : Lists) (cr ci co : Nat) (hni : s.ni < 2 ^ 62) (hno : s.no < 2 ^ 62) (hnr : s.nr < 2 ^ 62) :
    Does TB 23 [.agg (s.segs (.gs 0 0 s.nr cr) (.gs 1 0 s.ni ci) (.gs 2 0 s.no co))] (l.blks s) (fun v h' => v = .s (.bool s.can) ∧ h' = l.blks s) := by
  refine fnX_does TB Tryz.func23 rfl (by decide) (fun O on hO => ?_)
  have hm : (s.nr : Int).tmod 8 = ((s.nr % 8 : Nat) : Int) := rfl
  have fin : ∀ {x : Bool} {b0 b1 b2 b3 : Blk}, x = s.can → b0 = bblk l.mr s.nr l.ram l.sr → b1 = bblk l.mi s.ni l.inp l.si → b2 = bblk l.mo s.no l.out l.so → Anv.Ends (l.blks s).length (fun v h' => v = .s (.bool s.can) ∧ h' = l.blks s) (.s (.bool x)) [b0, b1, b2, b3] := by
    rintro x b0 b1 b2 b3 rfl rfl rfl rfl
    exact ⟨_, _, [0, 1, 2], ⟨rfl, rfl⟩, by decide, ⟨rfl, rfl, rfl, trivial⟩, eqvE_refl _, ⟨⟨_, rfl, eqvB_refl _⟩, ⟨_, rfl, eqvB_refl _⟩, ⟨_, rfl, eqvB_refl _⟩, trivial⟩⟩
  repeat (refine need_intro (by simp) ?_)
  refine ifB_intro (fun h1 => ?_) (fun h1 => ?_)
  · refine fin ?_ rfl rfl rfl
    rw [hm] at h1
    simp only [Bool.cond_true_left, Bool.or_eq_true, decide_eq_true_eq, bne_iff_ne, ne_eq] at h1
    symm
    unfold BusV.can
    rw [decide_eq_false_iff_not]
    omega
  · rw [hm] at h1
    simp only [Bool.cond_true_left, Bool.or_eq_false_iff, decide_eq_false_iff_not, bne_eq_false_iff_eq] at h1
    repeat (refine need_intro (by simp) ?_)
    refine ifB_intro (fun h2 => ?_) (fun h2 => ?_)
    · refine fin ?_ rfl rfl rfl
      simp only [Bool.cond_true_left, Bool.or_eq_true, decide_eq_true_eq] at h2
      symm
      unfold BusV.can
      rw [decide_eq_false_iff_not]
      omega
    · simp only [Bool.cond_true_left, Bool.or_eq_false_iff, decide_eq_false_iff_not] at h2
      have leaf : ∀ {x : Bool}, ((x = true ↔ ((s.off = 0 ∨ s.off = 1) ∧ s.code = 0 ∨ s.off = 2 ∧ 0 ≤ s.code ∧ s.code ≤ 65535))) → x = s.can := by
        intro x hx
        rw [Bool.eq_iff_iff, hx]
        unfold BusV.can
        rw [decide_eq_true_eq]
        constructor
        · intro h; omega
        · intro h; omega
      refine ifB_intro (fun h3 => ?_) (fun h3 => ?_)
      · have h3 : s.off = 2 := by simpa using h3
        repeat (refine need_intro (by simp) ?_)
        refine fin (leaf ?_) rfl rfl rfl
        simp only [Bool.cond_false_right, Bool.and_eq_true, decide_eq_true_eq]
        omega
      · have h3 : ¬ s.off = 2 := by simpa using h3
        refine fin (leaf ?_) rfl rfl rfl
        rw [beq_iff_eq]
        omega
set_option maxRecDepth 100000 in
theorem set_spec (s z : BusV) (l : Lists) (cr ci co c3 sp3 : Nat) (hni : s.ni ≤ 140737488355328) (hno : s.no ≤ 140737488355328) :
    Does TB 46 [.s (.ptr 4 6), .agg (s.segs (.gs 0 0 s.nr cr) (.gs 1 0 s.ni ci) (.gs 2 0 s.no co))] (l.blks s ++ [bblk true s.nr l.ram sp3, .cells true (z.dev 0 (.gs 3 0 s.nr c3) .nilslice .nilslice) 0])
      (fun v h' => ∃ c5 c6, s.ni ≤ c5 ∧ s.no ≤ c6 ∧ v = .tuple [] ∧ h' = l.blks s ++ [bblk true s.nr l.ram sp3,
        .cells true ({ z with ier := s.ier, lcr := s.lcr, mcr := s.mcr, scratch := s.scratch, overrun := s.overrun }.dev 0 (.gs 3 0 s.nr c3) (.gs 5 0 s.ni c5) (.gs 6 0 s.no c6)) 0, bblk true s.ni l.inp (c5 - s.ni), bblk true s.no l.out (c6 - s.no)]) := by
  refine fnXD_does TB Tryz.func46 rfl (by decide) (fun O on hO => ?_)
  refine (lock_spec (b := 4) (o := 6) rfl rfl rfl).mono ?_
  rintro _ h' ⟨rfl, hh⟩
  have hh : h' = [bblk l.mr s.nr l.ram l.sr, bblk l.mi s.ni l.inp l.si, bblk l.mo s.no l.out l.so, bblk true s.nr l.ram sp3, .cells true (z.dev 1 (.gs 3 0 s.nr c3) .nilslice .nilslice) 0, .cells true (s.segs (.gs 0 0 s.nr cr) (.gs 1 0 s.ni ci) (.gs 2 0 s.no co)) 0] := hh
  subst hh
  refine ⟨⟨_, _, _, rfl⟩, fun O' on' hO' hle => ?_⟩
  refine draw_but [4] on' rfl (fun _ _ h => h) ?_
  refine Does.at (own_spec l.mi s.ni 0 s.ni ci l.si l.inp l.inp (by omega) hni (fun j _ => by rw [Nat.zero_add])) [1] rfl ⟨rfl, trivial⟩ (by decide) ?_ ?_
  · rintro v h' ⟨cap, _, _, rfl⟩
    exact ⟨.inr (.inr rfl), .inl rfl, trivial⟩
  · rintro v h' ⟨c5, hc5, rfl, rfl⟩
    repeat (refine need_intro rfl ?_)
    refine Does.at (own_spec l.mo s.no 0 s.no co l.so l.out l.out (by omega) hno (fun j _ => by rw [Nat.zero_add])) [2] rfl ⟨rfl, trivial⟩ (by decide) ?_ ?_
    · rintro v h' ⟨cap, _, _, rfl⟩
      exact ⟨.inr (.inr rfl), .inl rfl, trivial⟩
    · rintro v h' ⟨c6, hc6, rfl, rfl⟩
      repeat (refine need_intro rfl ?_)
      refine draw_but [4] on' rfl (fun _ _ h => h) ?_
      repeat (refine need_intro rfl ?_)
      refine (unlock_spec (b := 4) (o := 6) rfl rfl rfl).mono ?_
      rintro _ h' ⟨_, hh⟩
      have hh : h' = [bblk l.mr s.nr l.ram l.sr, bblk l.mi s.ni l.inp l.si, bblk l.mo s.no l.out l.so, bblk true s.nr l.ram sp3,
        .cells true ({ z with ier := s.ier, lcr := s.lcr, mcr := s.mcr, scratch := s.scratch, overrun := s.overrun }.dev 0 (.gs 3 0 s.nr c3) (.gs 6 0 s.ni c5) (.gs 7 0 s.no c6)) 0,
        .cells true (s.segs (.gs 0 0 s.nr cr) (.gs 1 0 s.ni ci) (.gs 2 0 s.no co)) 0, bblk true s.ni l.inp (c5 - s.ni), bblk true s.no l.out (c6 - s.no)] := hh
      subst hh
      exact ⟨_, _, [0, 1, 2, 3, 4, 6, 7], ⟨c5, c6, hc5, hc6, rfl, rfl⟩, by decide, ⟨rfl, rfl, rfl, rfl, rfl, trivial⟩, trivial,
        ⟨⟨_, rfl, eqvB_refl _⟩, ⟨_, rfl, eqvB_refl _⟩, ⟨_, rfl, eqvB_refl _⟩, ⟨_, rfl, eqvB_refl _⟩, ⟨_, rfl, eqvB_refl _⟩, ⟨_, rfl, eqvB_refl _⟩, ⟨_, rfl, eqvB_refl _⟩, trivial⟩⟩
/-- A bus of a state: its own lists. -/
def devAt (s : BusV) (b : Nat) (cr ci co : Nat) : Blk := .cells true (s.dev 0 (.gs b 0 s.nr cr) (.gs (b + 2) 0 s.ni ci) (.gs (b + 3) 0 s.no co)) 0
theorem from_no (s : BusV) (l : Lists) (cr ci co : Nat) (hni : s.ni < 2 ^ 62) (hno : s.no < 2 ^ 62) (hnr : s.nr < 2 ^ 62) (hc : s.can = false) :
    Does TB 24 [.agg (s.segs (.gs 0 0 s.nr cr) (.gs 1 0 s.ni ci) (.gs 2 0 s.no co))] (l.blks s) (fun v h' => v = .tuple [.s .nilptr, .s (.int .i64 31)] ∧ h' = l.blks s) := by
  refine fnX_does TB Tryz.func24 rfl (by decide) (fun O on hO => ?_)
  refine Does.at (can_spec s l cr ci co hni hno hnr) [0, 1, 2] rfl ⟨rfl, rfl, rfl, trivial⟩ (by decide) ?_ ?_
  · rintro v h' ⟨_, rfl⟩
    exact ⟨.inr (.inr rfl), .inr (.inr rfl), .inr (.inr rfl), trivial⟩
  · rintro v h' ⟨rfl, rfl⟩
    rw [hc]
    exact ⟨_, _, [0, 1, 2], ⟨rfl, rfl⟩, by decide, ⟨rfl, rfl, rfl, trivial⟩, eqvE_refl _, ⟨⟨_, rfl, eqvB_refl _⟩, ⟨_, rfl, eqvB_refl _⟩, ⟨_, rfl, eqvB_refl _⟩, trivial⟩⟩
theorem from_yes (s : BusV) (l : Lists) (cr ci co : Nat) (hc : s.can = true) :
    Does TB 24 [.agg (s.segs (.gs 0 0 s.nr cr) (.gs 1 0 s.ni ci) (.gs 2 0 s.no co))] (l.blks s) (fun v h' => ∃ c3 c4 c5, s.nr ≤ c3 ∧ s.ni ≤ c4 ∧ s.no ≤ c5 ∧ v = .tuple [.s (.ptr 3 0), .s (.int .i64 0)] ∧
      h' = l.blks s ++ [.cells true (s.dev 0 (.gs 4 0 s.nr c3) (.gs 5 0 s.ni c4) (.gs 6 0 s.no c5)) 0, bblk true s.nr l.ram (c3 - s.nr), bblk true s.ni l.inp (c4 - s.ni), bblk true s.no l.out (c5 - s.no)]) := by
  have hcan := hc
  unfold BusV.can at hcan
  rw [decide_eq_true_eq] at hcan
  refine fnX_does TB Tryz.func24 rfl (by decide) (fun O on hO => ?_)
  refine Does.at (can_spec s l cr ci co (by omega) (by omega) (by omega)) [0, 1, 2] rfl ⟨rfl, rfl, rfl, trivial⟩ (by decide) ?_ ?_
  · rintro v h' ⟨_, rfl⟩
    exact ⟨.inr (.inr rfl), .inr (.inr rfl), .inr (.inr rfl), trivial⟩
  · rintro v h' ⟨rfl, rfl⟩
    rw [hc]
    refine Does.at (own_spec l.mr s.nr 0 s.nr cr l.sr l.ram l.ram (by omega) (by omega) (fun j _ => by rw [Nat.zero_add])) [0] rfl ⟨rfl, trivial⟩ (by decide) ?_ ?_
    · rintro v h' ⟨cap, _, _, rfl⟩
      exact ⟨.inr (.inr rfl), .inl rfl, trivial⟩
    · rintro v h' ⟨c3, hc3, rfl, rfl⟩
      refine need_intro rfl ?_
      refine need_intro rfl ?_
      refine draw_but [4] on rfl (fun _ _ h => h) ?_
      refine Does.at (set_spec s { s with ier := 0#8, lcr := 0#8, mcr := 0#8, scratch := 0#8, overrun := false } l cr ci co c3 (c3 - s.nr) (by omega) (by omega)) [0, 1, 2, 5, 4] rfl ⟨rfl, rfl, rfl, rfl, rfl, trivial⟩ (by decide) ?_ ?_
      · rintro v h' ⟨c5, c6, _, _, _, rfl⟩
        exact ⟨.inr (.inr rfl), .inr (.inr rfl), .inr (.inr rfl), .inl rfl, .inl rfl, .inl rfl, .inl rfl, trivial⟩
      · rintro v h' ⟨c5, c6, hc5, hc6, rfl, rfl⟩
        repeat (refine need_intro rfl ?_)
        exact ⟨_, _, [0, 1, 2, 4, 5, 6, 7], ⟨c3, c5, c6, hc3, hc5, hc6, rfl, rfl⟩, by decide, ⟨rfl, rfl, rfl, trivial⟩, eqvE_refl _,
          ⟨⟨_, rfl, eqvB_refl _⟩, ⟨_, rfl, eqvB_refl _⟩, ⟨_, rfl, eqvB_refl _⟩, ⟨_, rfl, eqvB_refl _⟩, ⟨_, rfl, eqvB_refl _⟩, ⟨_, rfl, eqvB_refl _⟩, ⟨_, rfl, eqvB_refl _⟩, trivial⟩⟩
end Go.Proofs.YtdlpmbghocabbaaGreatDoor

/- Check of a whole: the program's and the document's. No condition: contracts of functions. -/
namespace Go.Anv
open Go
/-- A Cpu's plain values. -/
structure CpuV where
  pc : B64
  x : Nat → B64
  mode : Int
  waiting : Bool
  mstatus : B64
  mtvec : B64
  mie : B64
  mcounteren : B64
  mcountinhibit : B64
  menvcfg : B64
  mscratch : B64
  mepc : B64
  mcause : B64
  mtval : B64
  mcycle : B64
  minstret : B64
  cfg : Nat → B8
  addr : Nat → B64
  rvalid : Bool
  raddr : B64
  rsize : Int
def CpuV.segs (c : CpuV) : List Seg :=
  [.one (.int .u64 c.pc.toNat), .ints .u64 32 (wfun c.x), .one (.int .i64 c.mode), .one (.bool c.waiting), .one (.int .u64 c.mstatus.toNat), .one (.int .u64 c.mtvec.toNat), .one (.int .u64 c.mie.toNat), .one (.int .u64 c.mcounteren.toNat),
    .one (.int .u64 c.mcountinhibit.toNat), .one (.int .u64 c.menvcfg.toNat), .one (.int .u64 c.mscratch.toNat), .one (.int .u64 c.mepc.toNat), .one (.int .u64 c.mcause.toNat), .one (.int .u64 c.mtval.toNat), .one (.int .u64 c.mcycle.toNat), .one (.int .u64 c.minstret.toNat),
    .ints .u8 16 (bfun c.cfg), .ints .u64 16 (wfun c.addr), .one (.bool c.rvalid), .one (.int .u64 c.raddr.toNat), .one (.int .i64 c.rsize)]
theorem eqvS_gs {b o n c b' o' n' c' : Nat} {r r' : List Seg} (h1 : b = b' ∧ o = o' ∧ n = n' ∧ c = c') (h : eqvS r r') : eqvS (.one (.gs b o n c) :: r) (.one (.gs b' o' n' c') :: r') := ⟨h1, h⟩
/-- The cells of api.Whole. -/
def wsegs (c : CpuV) (s : BusV) (r i o : SV) : List Seg := c.segs ++ s.segs r i o
end Go.Anv
namespace Go.Proofs.YtdlpmbghocabbaaGreatDoor
open Go Go.Anv
theorem check_spec (c : CpuV) (s : BusV) (l : Lists) (cr ci co : Nat) (hni : s.ni < 2 ^ 62) (hno : s.no < 2 ^ 62) (hnr : s.nr < 2 ^ 62) :
    Does TB 18 [.agg (wsegs c s (.gs 0 0 s.nr cr) (.gs 1 0 s.ni ci) (.gs 2 0 s.no co))] (l.blks s) (fun v h' => v = .s (.int .i64 (if s.can then 0 else 162)) ∧ h' = l.blks s) := by
  refine fnX_does TB Tryz.func18 rfl (by decide) (fun O on hO => ?_)
  cases hc : s.can with
  | false =>
    refine Does.at (from_no s l cr ci co hni hno hnr hc) [0, 1, 2] rfl ⟨rfl, rfl, rfl, trivial⟩ (by decide) ?_ ?_
    · rintro v h' ⟨_, rfl⟩
      exact ⟨.inr (.inr rfl), .inr (.inr rfl), .inr (.inr rfl), trivial⟩
    · rintro v h' ⟨rfl, rfl⟩
      exact ⟨_, _, [0, 1, 2], ⟨rfl, rfl⟩, by decide, ⟨rfl, rfl, rfl, trivial⟩, eqvE_refl _, ⟨⟨_, rfl, eqvB_refl _⟩, ⟨_, rfl, eqvB_refl _⟩, ⟨_, rfl, eqvB_refl _⟩, trivial⟩⟩
  | true =>
    refine Does.at (from_yes s l cr ci co hc) [0, 1, 2] rfl ⟨rfl, rfl, rfl, trivial⟩ (by decide) ?_ ?_
    · rintro v h' ⟨c3, c4, c5, _, _, _, _, rfl⟩
      exact ⟨.inr (.inr rfl), .inr (.inr rfl), .inr (.inr rfl), .inl rfl, .inl rfl, .inl rfl, .inl rfl, trivial⟩
    · rintro v h' ⟨c3, c4, c5, _, _, _, rfl, rfl⟩
      exact ⟨_, _, [0, 1, 2], ⟨rfl, rfl⟩, by decide, ⟨rfl, rfl, rfl, trivial⟩, eqvE_refl _, ⟨⟨_, rfl, eqvB_refl _⟩, ⟨_, rfl, eqvB_refl _⟩, ⟨_, rfl, eqvB_refl _⟩, trivial⟩⟩
theorem num16_spec (e : Int) (h : List Blk) : Does TB 17 [.s (.int .i64 e)] h (fun v h' => v = .s (.int .i64 e) ∧ h' = h) := by
  refine fnX_pure TB Tryz.func17 rfl (by decide) rfl _ rfl (fun O on => ?_) h
  exact eqvE_refl _
theorem cat_zero {n : Nat} (q : Nat → B8) {f : Nat → Int} : ∀ j, j < 0 + n → catF 0 f (shf 0 (bfun q)) j = bfun q j := by
  intro j _
  unfold catF shf
  rw [if_neg (Nat.not_lt_zero j), Nat.sub_zero, Nat.zero_add]
theorem twin_spec (c : CpuV) (s : BusV) (l : Lists) (cr ci co : Nat) (hnr : s.nr ≤ 140737488355328) (hni : s.ni ≤ 140737488355328) (hno : s.no ≤ 140737488355328) :
    Does TB 15 [.agg (wsegs c s (.gs 0 0 s.nr cr) (.gs 1 0 s.ni ci) (.gs 2 0 s.no co))] (l.blks s) (fun v h' => ∃ c3 c4 c5, s.nr ≤ c3 ∧ s.ni ≤ c4 ∧ s.no ≤ c5 ∧ v = .agg (wsegs c s (.gs 3 0 s.nr c3) (.gs 4 0 s.ni c4) (.gs 5 0 s.no c5)) ∧
      h' = l.blks s ++ [bblk true s.nr l.ram (c3 - s.nr), bblk true s.ni l.inp (c4 - s.ni), bblk true s.no l.out (c5 - s.no)]) := by
  refine fnX_does TB Tryz.func15 rfl (by decide) (fun O on hO => ?_)
  refine need_intro ⟨by show 0 + s.nr ≤ s.nr; omega, rfl, rfl, room5 _ (by show 0 + s.nr ≤ _; omega)⟩ ?_
  intro c3 hc3
  have hc3 : 0 + s.nr ≤ c3 := hc3
  refine need_intro ⟨by show 0 + s.ni ≤ s.ni; omega, rfl, rfl, room5 _ (by show 0 + s.ni ≤ _; omega)⟩ ?_
  intro c4 hc4
  have hc4 : 0 + s.ni ≤ c4 := hc4
  refine need_intro ⟨by show 0 + s.no ≤ s.no; omega, rfl, rfl, room5 _ (by show 0 + s.no ≤ _; omega)⟩ ?_
  intro c5 hc5
  have hc5 : 0 + s.no ≤ c5 := hc5
  refine need_intro rfl ?_
  have z : ∀ n : Nat, 0 + n = n := Nat.zero_add
  rw [z] at hc3 hc4 hc5
  refine ⟨_, _, [0, 1, 2, 6, 8, 10], ⟨c3, c4, c5, hc3, hc4, hc5, rfl, rfl⟩, by decide, ⟨rfl, rfl, rfl, trivial⟩, ?_, ⟨⟨_, rfl, eqvB_refl _⟩, ⟨_, rfl, eqvB_refl _⟩, ⟨_, rfl, eqvB_refl _⟩, ⟨_, rfl, ⟨rfl, ?_, ⟨⟨rfl, z _, ?_⟩, trivial⟩⟩⟩, ⟨_, rfl, ⟨rfl, ?_, ⟨⟨rfl, z _, ?_⟩, trivial⟩⟩⟩, ⟨_, rfl, ⟨rfl, ?_, ⟨⟨rfl, z _, ?_⟩, trivial⟩⟩⟩, trivial⟩⟩
  · show eqvS _ _
    repeat' (first | exact eqvS_nil | refine eqvS_same ?_ | refine eqvS_gs ⟨rfl, rfl, z _, rfl⟩ ?_)
  · show (c3 - (0 + s.nr)) * 1 = c3 - s.nr
    rw [z, Nat.mul_one]
  · exact cat_zero l.ram
  · show (c4 - (0 + s.ni)) * 1 = c4 - s.ni
    rw [z, Nat.mul_one]
  · exact cat_zero l.inp
  · show (c5 - (0 + s.no)) * 1 = c5 - s.no
    rw [z, Nat.mul_one]
  · exact cat_zero l.out
end Go.Proofs.YtdlpmbghocabbaaGreatDoor

/- The engine, part 14: the arguments of a statement: from what they read as to a small world. Plain theorems; their condition: what the program's table says of the types. -/
namespace Go.Anv
open Go

/-- What a cell of an argument, or a run of cells, is. -/
inductive FK where
  | int (k : IntKind)
  | bool
  | arr (k : IntKind) (n : Nat)
  | sl (k : IntKind)
  | rows (ks : List IntKind) (b : Nat)

def sizeF : List FK → Nat
  | [] => 0
  | .int _ :: r => sizeF r + 1
  | .bool :: r => sizeF r + 1
  | .arr _ n :: r => n + sizeF r
  | .sl _ :: r => sizeF r + 1
  | .rows _ _ :: r => sizeF r + 1

theorem sizeF_append : ∀ a b : List FK, sizeF (a ++ b) = sizeF a + sizeF b
  | [], b => by simp [sizeF]
  | .int _ :: r, b => by simp only [List.cons_append, sizeF, sizeF_append r b]; omega
  | .bool :: r, b => by simp only [List.cons_append, sizeF, sizeF_append r b]; omega
  | .arr _ _ :: r, b => by simp only [List.cons_append, sizeF, sizeF_append r b]; omega
  | .sl _ :: r, b => by simp only [List.cons_append, sizeF, sizeF_append r b]; omega
  | .rows _ _ :: r, b => by simp only [List.cons_append, sizeF, sizeF_append r b]; omega

/-- A slice of whole numbers as it came in. -/
def slIn (W : World) (k : IntKind) (a : Option Addr) (len cap : Nat) (f : Nat → Int) : Prop :=
  len ≤ 140737488351232 ∧ ((a = none ∧ len = 0 ∧ cap = 0) ∨ ∃ b o, a = some ⟨b, o, none⟩ ∧ b < W.heap.size ∧ len ≤ cap ∧ ∀ j, j < len → W.cell? ⟨b, o + j, none⟩ = some (.int k (f j)) ∧ (Lit.int k (f j)).wf = true)

/-- A slice of structs of whole numbers as it came in. -/
def rowsIn (W : World) (ks : List IntKind) (b : Nat) (a : Option Addr) (len cap : Nat) (f : Nat → Nat → Int) : Prop :=
  len * b ≤ 140737488351232 ∧ ((a = none ∧ len = 0 ∧ cap = 0) ∨ ∃ b o, a = some ⟨b, o, none⟩ ∧ b < W.heap.size ∧ len ≤ cap ∧ ∀ j, j < len → ∀ q k, ks[q]? = some k → W.cell? ⟨b, o + (j * ks.length + q), none⟩ = some (.int k (f j q)) ∧ (Lit.int k (f j q)).wf = true)

def fitF (W : World) : List FK → List Value → Prop
  | [], l => l = []
  | .int k :: r, l => ∃ a l', l = .int k a :: l' ∧ (Lit.int k a).wf = true ∧ fitF W r l'
  | .bool :: r, l => ∃ b l', l = .bool b :: l' ∧ fitF W r l'
  | .arr k n :: r, l => ∃ f l', l = intsOf k n f ++ l' ∧ (∀ j, j < n → (Lit.int k (f j)).wf = true) ∧ fitF W r l'
  | .sl k :: r, l => ∃ a len cap f l', l = .slice a len cap :: l' ∧ slIn W k a len cap f ∧ fitF W r l'
  | .rows ks b :: r, l => ∃ a len cap f l', l = .slice a len cap :: l' ∧ rowsIn W ks b a len cap f ∧ fitF W r l'

theorem fitF_length {W : World} : ∀ {ks : List FK} {l : List Value}, fitF W ks l → l.length = sizeF ks
  | [], _, h => by simp only [fitF] at h; subst h; rfl
  | .int _ :: r, _, h => by simp only [fitF] at h; obtain ⟨a, l', rfl, _, h⟩ := h; simp [sizeF, fitF_length h]
  | .bool :: r, _, h => by simp only [fitF] at h; obtain ⟨a, l', rfl, h⟩ := h; simp [sizeF, fitF_length h]
  | .arr _ _ :: r, _, h => by simp only [fitF] at h; obtain ⟨a, l', rfl, _, h⟩ := h; simp [sizeF, fitF_length h, length_intsOf]
  | .sl _ :: r, _, h => by simp only [fitF] at h; obtain ⟨a, len, cap, f, l', rfl, _, h⟩ := h; simp [sizeF, fitF_length h]
  | .rows _ _ :: r, _, h => by simp only [fitF] at h; obtain ⟨a, len, cap, f, l', rfl, _, h⟩ := h; simp [sizeF, fitF_length h]

theorem fitF_append {W : World} : ∀ {a b : List FK} {x y : List Value}, fitF W a x → fitF W b y → fitF W (a ++ b) (x ++ y)
  | [], b, x, y, h, h' => by simp only [fitF] at h; subst h; exact h'
  | .int k :: r, b, x, y, h, h' => by simp only [fitF] at h; obtain ⟨a, l', rfl, h1, h⟩ := h; exact ⟨a, l' ++ y, rfl, h1, fitF_append h h'⟩
  | .bool :: r, b, x, y, h, h' => by simp only [fitF] at h; obtain ⟨a, l', rfl, h⟩ := h; exact ⟨a, l' ++ y, rfl, fitF_append h h'⟩
  | .arr k n :: r, b, x, y, h, h' => by simp only [fitF] at h; obtain ⟨a, l', rfl, h1, h⟩ := h; exact ⟨a, l' ++ y, by simp, h1, fitF_append h h'⟩
  | .sl k :: r, b, x, y, h, h' => by simp only [fitF] at h; obtain ⟨a, len, cap, f, l', rfl, h1, h⟩ := h; exact ⟨a, len, cap, f, l' ++ y, rfl, h1, fitF_append h h'⟩
  | .rows k _ :: r, b, x, y, h, h' => by simp only [fitF] at h; obtain ⟨a, len, cap, f, l', rfl, h1, h⟩ := h; exact ⟨a, len, cap, f, l' ++ y, rfl, h1, fitF_append h h'⟩

/-- The fields of a struct, one behind the other. -/
def FFn (P : Program) (R : TypeId → List FK → Prop) : Nat → List Field → List FK → Prop
  | _, [], ks => ks = []
  | o, f :: fs, ks => ∃ k1 k2, ks = k1 ++ k2 ∧ f.offset = o ∧ P.cellsOf f.type = sizeF k1 ∧ R f.type k1 ∧ FFn P R (o + sizeF k1) fs k2

/-- The fields of a struct of whole numbers. -/
def RFn (P : Program) : Nat → List Field → List IntKind → Prop
  | _, [], ks => ks = []
  | o, f :: fs, ks => ∃ k ks', ks = k :: ks' ∧ f.offset = o ∧ P.underlying f.type = some (.int k) ∧ P.cellsOf f.type = 1 ∧ RFn P (o + 1) fs ks'
theorem RFn.get {P : Program} : ∀ {fs : List Field} {o : Nat} {ks : List IntKind}, RFn P o fs ks → ∀ q k, ks[q]? = some k → ∃ f, fs[q]? = some f ∧ f.offset = o + q ∧ P.underlying f.type = some (.int k) ∧ P.cellsOf f.type = 1
  | [], o, ks, h, q, k, hk => by simp only [RFn] at h; subst h; simp at hk
  | f :: fs, o, ks, h, q, k, hk => by
    simp only [RFn] at h
    obtain ⟨k0, ks', rfl, h1, h2, h3, h4⟩ := h
    cases q with
    | zero =>
      simp only [List.getElem?_cons_zero, Option.some.injEq] at hk
      subst hk
      exact ⟨f, rfl, by rw [h1]; rfl, h2, h3⟩
    | succ q =>
      obtain ⟨f', k1, k2, k3, k4⟩ := RFn.get h4 q k (by simpa using hk)
      exact ⟨f', by simpa using k1, by rw [k2]; omega, k3, k4⟩
theorem addr_add {a : Addr} (h : a.spot = none) (x : Nat) : a.add x = ⟨a.block, a.off + x, none⟩ := by
  unfold Addr.add
  cases a
  simp only at h
  subst h
  split
  · rename_i h0; subst h0; rfl
  · rfl

/-- A type of whole numbers, truth values, arrays and slices of whole numbers. -/
def FTn (P : Program) : Nat → TypeId → List FK → Prop
  | 0, _, _ => False
  | n + 1, t, ks => (∃ k, P.underlying t = some (.int k) ∧ ks = [.int k]) ∨ (P.underlying t = some .bool ∧ ks = [.bool]) ∨
      (∃ m e k, P.underlying t = some (.array m e) ∧ P.underlying e = some (.int k) ∧ P.cellsOf e = 1 ∧ P.cellsOf t = m ∧ ks = [.arr k m]) ∨
      (∃ e k, P.underlying t = some (.slice e) ∧ P.underlying e = some (.int k) ∧ P.cellsOf e = 1 ∧ 1 ≤ P.bytesOf e ∧ ks = [.sl k]) ∨
      (∃ fs, P.underlying t = some (.struct fs) ∧ P.cellsOf t = sizeF ks ∧ FFn P (FTn P n) 0 fs.toList ks) ∨
      (∃ e fs ks' b, P.underlying t = some (.slice e) ∧ P.underlying e = some (.struct fs) ∧ P.cellsOf e = ks'.length ∧ P.bytesOf e = b ∧ RFn P 0 fs.toList ks' ∧ ks = [.rows ks' b])

/-- A slice's place is in the heap. -/
def placed (W : World) (v : Value) : Prop := ∀ a l c, v = .slice (some a) l c → a.spot = none ∧ a.block < W.heap.size

theorem placed_of_okWide {P : Program} {W : World} {r : Reach} {base : Nat} {u : TypeId} {v : Value} (h : Cell.okWide P W r base u v) : placed W v := by
  rintro a l c rfl
  have h' : Cell.ok P W r base u (.slice (some a) l c) := by
    unfold Cell.okWide at h
    split at h <;> first
      | exact h
      | (rename_i h1 h2; cases h2)
  unfold Cell.ok at h'
  obtain ⟨e, _, _, hhas⟩ : ∃ e, l ≤ c ∧ (c : Int) ≤ IntKind.i64.max ∧ W.has P r base a e c := by
    cases hu : P.underlying u with
    | none => rw [hu] at h'; exact h'.elim
    | some d =>
      rw [hu] at h'
      cases d <;> first
        | exact h'.elim
        | exact ⟨_, h'⟩
  obtain ⟨_, hs, row, cells, hsh, _⟩ := hhas
  refine ⟨hs, ?_⟩
  rcases Nat.lt_or_ge a.block W.heap.size with hlt | hge
  · exact hlt
  · simp [World.shape?, Array.getElem?_eq_none hge] at hsh

theorem FTn.opens {H : Type} {enc : TypeId × Value → H} {P : Program} {W : World} {base : Nat} {held : Bool} : ∀ (n : Nat) {t : TypeId} {ks : List FK}, FTn P n t ks → ∀ {fuel : Nat} {cs : List Value} {x : DataW H × List MemPlace},
    DataW.trod enc P W base (fun _ => true) held fuel t cs = some x → (∀ v ∈ cs, placed W v) → (∀ m ∈ x.1.weights P t, m ≤ reachBytes) → fitF W ks cs
  | 0, _, _, h, _, _, _, _, _, _ => h.elim
  | n + 1, t, ks, h, fuel, cs, x, hx, hp, hw => by
    rcases h with ⟨k, h, rfl⟩ | ⟨h, rfl⟩ | ⟨m, e, k, h, h1, h2, h3, rfl⟩ | ⟨e, k, h, h1, h2, h3, rfl⟩ | ⟨fs, h, h1, h2⟩ | ⟨e, fs, kl, bb, h, he, hc, rfl, hr, rfl⟩
    · obtain ⟨a, rfl, _, hwf⟩ := DataW.trod_int h hx
      exact ⟨a, [], rfl, hwf, rfl⟩
    · obtain ⟨a, rfl, _⟩ := DataW.trod_bool h hx
      exact ⟨a, [], rfl, rfl⟩
    · obtain ⟨xs, m', _, _, hl, hxl, hel⟩ := DataW.trod_array h hx
      have each : ∀ i, i < m → ∃ a, cs[i]? = some (.int k a) ∧ (Lit.int k a).wf = true := fun i hi => by
        have h4 := hel i hi
        rw [h2, Nat.mul_one] at h4
        have h5 : xs[i]? = some xs[i] := List.getElem?_eq_getElem (by omega)
        rw [h5] at h4
        obtain ⟨a, h6, _, hwf⟩ := DataW.trod_int h1 h4
        refine ⟨a, ?_, hwf⟩
        have h7 := congrArg (·[0]?) h6
        simpa using h7
      refine ⟨fun i => match cs[i]? with | some (.int _ a) => a | _ => 0, [], ?_, fun j hj => ?_, rfl⟩
      · rw [List.append_nil]
        apply List.ext_getElem?
        intro i
        rcases Nat.lt_or_ge i m with hi | hi
        · obtain ⟨a, h4, _⟩ := each i hi
          rw [intsOf_get hi, h4]
        · rw [List.getElem?_eq_none (by omega), List.getElem?_eq_none (by rw [length_intsOf]; exact hi)]
      · obtain ⟨a, h4, hwf⟩ := each j hj
        simp only [h4]
        exact hwf
    · rcases ChangeShapes.open_ints h h1 h2 hx with ⟨rfl, _⟩ | ⟨a, l, c, zs, rfl, _, hl, hm, hz, rfl, hcell, hwz⟩
      · exact ⟨none, 0, 0, fun _ => 0, [], rfl, ⟨by omega, .inl ⟨rfl, rfl, rfl⟩⟩, rfl⟩
      · have hz : zs.length = c := by simpa using hz
        obtain ⟨hs, hb⟩ := hp _ List.mem_cons_self a l c rfl
        have hwt := hw ((l + (c - l)) * P.bytesOf e) (by simp [DataW.weights, h, ChangeShapes.lits, hz, hl])
        have hr : reachBytes = 140737488351232 := by decide
        have hle : l + (c - l) ≤ (l + (c - l)) * P.bytesOf e := Nat.le_mul_of_pos_right _ h3
        refine ⟨some a, l, c, fun j => zs.getD j 0, [], rfl, ⟨by omega, .inr ⟨a.block, a.off, ?_, hb, hl, fun j hj => ⟨?_, ?_⟩⟩⟩, rfl⟩
        · cases a; simp only at hs; subst hs; rfl
        · have := hcell j (by omega)
          unfold Addr.add at this
          split at this
          · rename_i h0
            subst h0
            cases a
            simp only at hs
            subst hs
            exact this
          · exact this
        · refine hwz _ ?_
          show zs.getD j 0 ∈ zs
          rw [List.getD_eq_getElem?_getD, List.getElem?_eq_getElem (by omega)]
          exact List.getElem_mem _
    · obtain ⟨xs, m', _, rfl, hl, hxl, hel⟩ := DataW.trod_struct h hx
      have key : ∀ (fl : List Field) (j o : Nat) (ks : List FK), FFn P (FTn P n) o fl ks → (∀ i f, fl[i]? = some f → fs.toList[j + i]? = some f) → o + sizeF ks ≤ cs.length → fitF W ks ((cs.drop o).take (sizeF ks)) := by
        intro fl
        induction fl with
        | nil =>
          intro j o ks hf _ _
          simp only [FFn] at hf
          subst hf
          simp [fitF, sizeF]
        | cons f fl ih =>
          intro j o ks hf hget hlen
          simp only [FFn] at hf
          obtain ⟨k1, k2, rfl, ho, hc, ht, hf⟩ := hf
          have hsz := sizeF_append k1 k2
          rw [hsz] at hlen ⊢
          have hj : fs[j]? = some f := by
            have := hget 0 f rfl
            rwa [Nat.add_zero, Array.getElem?_toList] at this
          have hjl : j < xs.length := by
            rw [hxl]
            rcases Nat.lt_or_ge j fs.size with h' | h'
            · exact h'
            · rw [Array.getElem?_eq_none h'] at hj; cases hj
          have h4 := hel j f hj
          rw [ho, hc, List.getElem?_eq_getElem hjl] at h4
          have h5 := FTn.opens n ht h4 (fun v hv => hp v (List.mem_of_mem_drop (List.mem_of_mem_take hv))) (fun m hm => hw m (by
            simp only [DataW.weights, h]
            refine DataW.weights_mem_each (j := j) (t := f.type) (d := (xs[j]).1) ?_ ?_ m hm
            · simp [hj]
            · simp [hjl]))
          have h6 := ih (j + 1) (o + sizeF k1) k2 hf (fun i f' hi => by
            have := hget (i + 1) f' (by simpa using hi)
            rwa [show j + (i + 1) = j + 1 + i by omega] at this) (by omega)
          have h7 := fitF_append h5 h6
          have h8 : (cs.drop o).take (sizeF k1) ++ (cs.drop (o + sizeF k1)).take (sizeF k2) = (cs.drop o).take (sizeF k1 + sizeF k2) := by
            rw [List.take_add, List.drop_drop]
          rwa [h8] at h7
      have h4 := key fs.toList 0 0 ks h2 (fun i f hi => by simpa using hi) (by rw [hl, h1]; omega)
      rw [List.drop_zero, List.take_of_length_le (by rw [hl, h1]; omega)] at h4
      exact h4
    · rcases DataW.trod_slice h hx with ⟨rfl, _⟩ | ⟨a, l, c, elems, rest, n', _, rfl, rfl, _, hl, _, hlen, hel, _⟩
      · exact ⟨none, 0, 0, fun _ _ => 0, [], rfl, ⟨by omega, .inl ⟨rfl, rfl, rfl⟩⟩, rfl⟩
      · obtain ⟨hs, hb⟩ := hp _ List.mem_cons_self a l c rfl
        have hwt := hw ((elems.length + rest.length) * P.bytesOf e) (by simp [DataW.weights, h])
        have hrb : reachBytes = 140737488351232 := by decide
        have hle : l * P.bytesOf e ≤ (elems.length + rest.length) * P.bytesOf e := Nat.mul_le_mul_right _ (by omega)
        have each : ∀ j, j < l → ∀ q k, kl[q]? = some k → ∃ x, W.cell? ⟨a.block, a.off + (j * kl.length + q), none⟩ = some (.int k x) ∧ (Lit.int k x).wf = true := fun j hj q k hk => by
          have h4 := hel j hj
          rw [List.getElem?_eq_getElem (by omega), Option.bind_eq_some_iff] at h4
          obtain ⟨cs', h5, h6⟩ := h4
          obtain ⟨xs, m', _, _, h7, h8, h9⟩ := DataW.trod_struct he h6
          obtain ⟨f, k1, k2, k3, k4⟩ := RFn.get hr q k hk
          have k1' : fs[q]? = some f := by rwa [Array.getElem?_toList] at k1
          have hq : q < xs.length := by
            rw [h8]
            rcases Nat.lt_or_ge q fs.size with h' | h'
            · exact h'
            · rw [Array.getElem?_eq_none h'] at k1'; cases k1'
          have h10 := h9 q f k1'
          rw [k2, k4, Nat.zero_add, List.getElem?_eq_getElem hq] at h10
          obtain ⟨x, h11, _, hwf⟩ := DataW.trod_int k3 h10
          have h12 : cs'[q]? = some (.int k x) := by
            have := congrArg (·[0]?) h11
            simpa using this
          have hqz : q < P.cellsOf e := by
            rw [hc]
            rcases Nat.lt_or_ge q kl.length with h' | h'
            · exact h'
            · rw [List.getElem?_eq_none h'] at hk; cases hk
          unfold World.cells? at h5
          split at h5
          · have h13 := mapM_some_get h5 q q (by simp [hqz])
            rw [h12, addr_add hs, addr_add rfl, hc] at h13
            refine ⟨x, ?_, hwf⟩
            rw [← Nat.add_assoc]
            exact h13
          · cases h5
        have ch : ∀ j q, ∃ x, j < l → ∀ k, kl[q]? = some k → W.cell? ⟨a.block, a.off + (j * kl.length + q), none⟩ = some (.int k x) ∧ (Lit.int k x).wf = true := fun j q => by
          by_cases hj : j < l
          · cases hk : kl[q]? with
            | none => exact ⟨0, fun _ k hk' => by cases hk'⟩
            | some k =>
              obtain ⟨x, h1⟩ := each j hj q k hk
              exact ⟨x, fun _ k' hk' => by cases hk'; exact h1⟩
          · exact ⟨0, fun h => absurd h hj⟩
        refine ⟨some a, l, c, fun j q => Classical.choose (ch j q), [], rfl, ⟨by omega, .inr ⟨a.block, a.off, ?_, hb, hl, fun j hj q k hk => Classical.choose_spec (ch j q) hj k hk⟩⟩, rfl⟩
        cases a; simp only at hs; subst hs; rfl

theorem struct_placed {P : Program} {W : World} {r : Reach} {base : Nat} {t : TypeId} {fs : Array Field} {v : Value} (ht : P.underlying t = some (.struct fs)) (h : Value.okWide P W r base t v) : ∃ cs, v = .agg cs ∧ ∀ x ∈ cs.toList, placed W x := by
  unfold Value.okWide at h
  rw [ht] at h
  obtain ⟨cs, rfl, _, ts, _, _, hrow⟩ := h
  refine ⟨cs, rfl, fun x hx => ?_⟩
  obtain ⟨i, hi⟩ := List.getElem?_of_mem hx
  obtain ⟨u, _, hu⟩ := hrow i x (by simpa using hi)
  exact placed_of_okWide hu

end Go.Anv

/- A whole as an argument: its plain values, its lists in three blocks. No condition. -/
namespace Go.Anv
open Go
theorem wf8 {n : Int} (h : (Lit.int .u8 n).wf = true) : n = ((BitVec.ofInt 8 n).toNat : Int) := by
  have h0 : 0 ≤ n ∧ n ≤ 255 := by
    simp only [Lit.wf, Bool.and_eq_true, decide_eq_true_eq] at h
    exact h
  rw [BitVec.toNat_ofInt]
  omega
theorem wf32 {n : Int} (h : (Lit.int .u32 n).wf = true) : n = ((BitVec.ofInt 32 n).toNat : Int) := by
  have h0 : 0 ≤ n ∧ n ≤ 4294967295 := by
    simp only [Lit.wf, Bool.and_eq_true, decide_eq_true_eq] at h
    exact h
  rw [BitVec.toNat_ofInt]
  omega
theorem wf64 {n : Int} (h : (Lit.int .u64 n).wf = true) : n = ((BitVec.ofInt 64 n).toNat : Int) := by
  have h0 : 0 ≤ n ∧ n ≤ 18446744073709551615 := by
    simp only [Lit.wf, Bool.and_eq_true, decide_eq_true_eq] at h
    exact h
  rw [BitVec.toNat_ofInt]
  omega
theorem wfi64 {n : Int} (h : (Lit.int .i64 n).wf = true) : -9223372036854775808 ≤ n ∧ n ≤ 9223372036854775807 := by
  simp only [Lit.wf, Bool.and_eq_true, decide_eq_true_eq] at h
  exact h

/-- Where a list of bytes lies that came in. -/
structure SlAt (W : World) (p : Loc) (n cap : Nat) (q : Nat → B8) : Prop where
  le : n ≤ 140737488351232
  cp : n ≤ cap
  lt : p.b < W.heap.size ∨ p.nl = true ∧ n = 0
  nl : p.nl = true → n = 0 ∧ cap = 0
  at_ : ∀ j, j < n → W.cell? ⟨p.b, p.o + j, none⟩ = some (.int .u8 (bfun q j))

def trim (n : Nat) (q : Nat → B8) (j : Nat) : B8 := if j < n then q j else 0#8
theorem ends_trim (n : Nat) (q : Nat → B8) : ∀ j, n ≤ j → trim n q j = 0#8 := fun j h => if_neg (by omega)
/-- Nothing behind the end. -/
theorem SlAt.trim {W : World} {p : Loc} {n cap : Nat} {q : Nat → B8} (h : SlAt W p n cap q) : SlAt W p n cap (trim n q) :=
  ⟨h.le, h.cp, h.lt, h.nl, fun j hj => by rw [h.at_ j hj, bfun, bfun, Anv.trim, if_pos hj]⟩

theorem slIn_at {W : World} {a : Option Addr} {len cap : Nat} {f : Nat → Int} (h : slIn W .u8 a len cap f) : ∃ p : Loc, SlAt W p len cap (fun j => BitVec.ofInt 8 (f j)) ∧ ∀ E : Emb, ∀ b, E.f b = p → b < E.n → denV E (.gs b 0 len cap) (.slice a len cap) := by
  obtain ⟨hle, ⟨rfl, rfl, rfl⟩ | ⟨b, o, rfl, hb, hlc, hc⟩⟩ := h
  · refine ⟨⟨0, 0, true⟩, ⟨hle, Nat.le_refl _, .inr ⟨rfl, rfl⟩, fun _ => ⟨rfl, rfl⟩, fun j hj => by omega⟩, fun E b hE hb => ?_⟩
    simp only [denV, hE]
    exact ⟨hb, fun _ => ⟨trivial, trivial⟩, rfl⟩
  · refine ⟨⟨b, o, false⟩, ⟨hle, hlc, .inl hb, (fun h => by cases h), fun j hj => ?_⟩, fun E b' hE hb' => ?_⟩
    · obtain ⟨h1, h2⟩ := hc j hj
      rw [h1]
      congr 2
      exact wf8 h2
    · simp only [denV, hE]
      refine ⟨hb', (fun h => by cases h), ?_⟩
      simp [Emb.at, hE]

/-- Three lists of bytes that came in, as a small world. -/
theorem sim3 {W : World} {p0 p1 p2 : Loc} {n0 n1 n2 c0 c1 c2 : Nat} {q0 q1 q2 : Nat → B8} (h0 : SlAt W p0 n0 c0 q0) (h1 : SlAt W p1 n1 c1 q1) (h2 : SlAt W p2 n2 c2 q2) :
    Sim ⟨3, fun i => match i with | 0 => p0 | 1 => p1 | _ => p2⟩ [bblk false n0 q0 0, bblk false n1 q1 0, bblk false n2 q2 0] W := by
  have one : ∀ {E : Emb} {p : Loc} {n c : Nat} {q : Nat → B8}, SlAt W p n c q → okBlk E W p (bblk false n q 0) := fun {E p n c q} h => by
    refine ⟨?_, ⟨intsOf .u8 n (bfun q) ++ [], ⟨[], rfl, rfl⟩, fun j v hj => ?_⟩, fun h => by cases h⟩
    · rcases h.lt with h | ⟨h, h'⟩
      · exact .inl h
      · exact .inr ⟨h, by simp [sizeS, h']⟩
    · rw [List.append_nil] at hj
      have hj' : j < n := by
        rcases Nat.lt_or_ge j n with h | h
        · exact h
        · rw [List.getElem?_eq_none (by rw [length_intsOf]; exact h)] at hj; cases hj
      rw [intsOf_get hj'] at hj
      cases hj
      exact h.at_ j hj'
  refine ⟨rfl, fun i B hi => ?_, fun i j A B _ hi _ hA => ?_⟩
  · match i, hi with
    | 0, hi => simp only [List.getElem?_cons_zero, Option.some.injEq] at hi; subst hi; exact one h0
    | 1, hi => simp only [List.getElem?_cons_succ, List.getElem?_cons_zero, Option.some.injEq] at hi; subst hi; exact one h1
    | 2, hi => simp only [List.getElem?_cons_succ, List.getElem?_cons_zero, Option.some.injEq] at hi; subst hi; exact one h2
    | i + 3, hi => simp at hi
  · exfalso
    match i, hi with
    | 0, hi => simp only [List.getElem?_cons_zero, Option.some.injEq] at hi; subst hi; cases hA
    | 1, hi => simp only [List.getElem?_cons_succ, List.getElem?_cons_zero, Option.some.injEq] at hi; subst hi; cases hA
    | 2, hi => simp only [List.getElem?_cons_succ, List.getElem?_cons_zero, Option.some.injEq] at hi; subst hi; cases hA
    | i + 3, hi => simp at hi

/-- The whole that is nothing. -/
def wz : Array Value := (List.replicate 33 (Value.int .u64 0) ++ (([.int .i64 0, .bool false] : List Value) ++ (List.replicate 12 (Value.int .u64 0) ++ (List.replicate 16 (Value.int .u8 0) ++ (List.replicate 16 (Value.int .u64 0) ++ (([.bool false, .int .u64 0, .int .i64 0] : List Value) ++
  ([.slice none 0 0, .int .u32 0, .int .u64 0, .int .u64 0, .bool false, .bool false, .int .u8 0, .int .u8 0, .int .u8 0, .int .u8 0, .bool false, .slice none 0 0, .slice none 0 0, .int .i64 0, .int .i64 0] : List Value))))))).toArray
def cpuF : List FK := [.int .u64, .arr .u64 32, .int .i64, .bool, .int .u64, .int .u64, .int .u64, .int .u64, .int .u64, .int .u64, .int .u64, .int .u64, .int .u64, .int .u64, .int .u64, .int .u64, .arr .u8 16, .arr .u64 16, .bool, .int .u64, .int .i64]
def busF : List FK := [.sl .u8, .int .u32, .int .u64, .int .u64, .bool, .bool, .int .u8, .int .u8, .int .u8, .int .u8, .bool, .sl .u8, .sl .u8, .int .i64, .int .i64]

theorem intsOf_bits8 {n : Nat} {f : Nat → Int} (h : ∀ j, j < n → (Lit.int .u8 (f j)).wf = true) : intsOf .u8 n f = intsOf .u8 n (bfun fun j => BitVec.ofInt 8 (f j)) := intsOf_congr fun j hj => wf8 (h j hj)
theorem intsOf_bits64 {n : Nat} {f : Nat → Int} (h : ∀ j, j < n → (Lit.int .u64 (f j)).wf = true) : intsOf .u64 n f = intsOf .u64 n (wfun fun j => BitVec.ofInt 64 (f j)) := intsOf_congr fun j hj => wf64 (h j hj)

/-- A Cpu that came in, at the head of some cells. -/
theorem cpu_in {W : World} {r : List FK} {l : List Value} (h : fitF W (cpuF ++ r) l) : ∃ (c : CpuV) (x y : List Value), l = x ++ y ∧ (∀ E, denS E c.segs x) ∧ fitF W r y ∧ (-9223372036854775808 ≤ c.mode ∧ c.mode ≤ 9223372036854775807) ∧ (-9223372036854775808 ≤ c.rsize ∧ c.rsize ≤ 9223372036854775807) := by
  simp only [cpuF, List.cons_append, List.nil_append, fitF] at h
  obtain ⟨pc, _, rfl, wpc, x, _, rfl, wx, mode, _, rfl, wmode, wt, _, rfl, h⟩ := h
  obtain ⟨a0, _, rfl, w0, a1, _, rfl, w1, a2, _, rfl, w2, a3, _, rfl, w3, a4, _, rfl, w4, a5, _, rfl, w5, a6, _, rfl, w6, a7, _, rfl, w7, a8, _, rfl, w8, a9, _, rfl, w9, a10, _, rfl, w10, a11, _, rfl, w11, h⟩ := h
  obtain ⟨cfg, _, rfl, wc, ad, _, rfl, wa, rv, _, rfl, ra, _, rfl, wra, rs, y, rfl, wrs, h⟩ := h
  refine ⟨⟨BitVec.ofInt 64 pc, fun j => BitVec.ofInt 64 (x j), mode, wt, BitVec.ofInt 64 a0, BitVec.ofInt 64 a1, BitVec.ofInt 64 a2, BitVec.ofInt 64 a3, BitVec.ofInt 64 a4, BitVec.ofInt 64 a5, BitVec.ofInt 64 a6, BitVec.ofInt 64 a7, BitVec.ofInt 64 a8,
    BitVec.ofInt 64 a9, BitVec.ofInt 64 a10, BitVec.ofInt 64 a11, fun j => BitVec.ofInt 8 (cfg j), fun j => BitVec.ofInt 64 (ad j), rv, BitVec.ofInt 64 ra, rs⟩,
    .int .u64 pc :: (intsOf .u64 32 x ++ .int .i64 mode :: .bool wt :: .int .u64 a0 :: .int .u64 a1 :: .int .u64 a2 :: .int .u64 a3 :: .int .u64 a4 :: .int .u64 a5 :: .int .u64 a6 :: .int .u64 a7 :: .int .u64 a8 :: .int .u64 a9 :: .int .u64 a10 :: .int .u64 a11 ::
      (intsOf .u8 16 cfg ++ (intsOf .u64 16 ad ++ [.bool rv, .int .u64 ra, .int .i64 rs]))), y, by simp, fun E => ?_, h, wfi64 wmode, wfi64 wrs⟩
  rw [intsOf_bits64 wx, intsOf_bits8 wc, intsOf_bits64 wa]
  simp only [CpuV.segs, denS, denV]
  rw [← wf64 wpc, ← wf64 w0, ← wf64 w1, ← wf64 w2, ← wf64 w3, ← wf64 w4, ← wf64 w5, ← wf64 w6, ← wf64 w7, ← wf64 w8, ← wf64 w9, ← wf64 w10, ← wf64 w11, ← wf64 wra]
  exact ⟨_, _, rfl, rfl, _, rfl, _, _, rfl, rfl, _, _, rfl, rfl, _, _, rfl, rfl, _, _, rfl, rfl, _, _, rfl, rfl, _, _, rfl, rfl, _, _, rfl, rfl, _, _, rfl, rfl, _, _, rfl, rfl, _, _, rfl, rfl, _, _, rfl, rfl, _, _, rfl, rfl, _, _, rfl, rfl, _, _, rfl, rfl, _, rfl, _, rfl, _, _, rfl, rfl, _, _, rfl, rfl, _, _, rfl, rfl, rfl⟩

/-- A bus's state that came in, at the head of some cells. -/
theorem bus_in {W : World} {r : List FK} {l : List Value} (h : fitF W (busF ++ r) l) : ∃ (s : BusV) (x y : List Value) (p0 p1 p2 : Loc) (c0 c1 c2 : Nat) (q0 q1 q2 : Nat → B8), l = x ++ y ∧ SlAt W p0 s.nr c0 q0 ∧ SlAt W p1 s.ni c1 q1 ∧ SlAt W p2 s.no c2 q2 ∧
    (∀ (E : Emb) b0 b1 b2, E.f b0 = p0 → b0 < E.n → E.f b1 = p1 → b1 < E.n → E.f b2 = p2 → b2 < E.n → denS E (s.segs (.gs b0 0 s.nr c0) (.gs b1 0 s.ni c1) (.gs b2 0 s.no c2)) x) ∧ fitF W r y := by
  simp only [busF, List.cons_append, List.nil_append, fitF] at h
  obtain ⟨a0, n0, c0, f0, _, rfl, s0, ms, _, rfl, wms, cm, _, rfl, wcm, nw, _, rfl, wnw, ex, _, rfl, so, _, rfl, h⟩ := h
  obtain ⟨ie, _, rfl, wie, lc, _, rfl, wlc, mc, _, rfl, wmc, sc, _, rfl, wsc, ov, _, rfl, h⟩ := h
  obtain ⟨a1, n1, c1, f1, _, rfl, s1, a2, n2, c2, f2, _, rfl, s2, off, _, rfl, woff, code, y, rfl, wcode, h⟩ := h
  obtain ⟨p0, k0, d0⟩ := slIn_at s0
  obtain ⟨p1, k1, d1⟩ := slIn_at s1
  obtain ⟨p2, k2, d2⟩ := slIn_at s2
  refine ⟨⟨n0, BitVec.ofInt 32 ms, BitVec.ofInt 64 cm, BitVec.ofInt 64 nw, ex, so, BitVec.ofInt 8 ie, BitVec.ofInt 8 lc, BitVec.ofInt 8 mc, BitVec.ofInt 8 sc, ov, n1, n2, off, code⟩,
    [.slice a0 n0 c0, .int .u32 ms, .int .u64 cm, .int .u64 nw, .bool ex, .bool so, .int .u8 ie, .int .u8 lc, .int .u8 mc, .int .u8 sc, .bool ov, .slice a1 n1 c1, .slice a2 n2 c2, .int .i64 off, .int .i64 code], y, p0, p1, p2, c0, c1, c2, _, _, _, rfl, k0, k1, k2, fun E b0 b1 b2 e0 l0 e1 l1 e2 l2 => ?_, h⟩
  simp only [BusV.segs, denS]
  have i0 := d0 E b0 e0 l0
  have i1 := d1 E b1 e1 l1
  have i2 := d2 E b2 e2 l2
  refine ⟨_, _, rfl, i0, _, _, rfl, ?_, _, _, rfl, ?_, _, _, rfl, ?_, _, _, rfl, rfl, _, _, rfl, rfl, _, _, rfl, ?_, _, _, rfl, ?_, _, _, rfl, ?_, _, _, rfl, ?_, _, _, rfl, rfl, _, _, rfl, i1, _, _, rfl, i2, _, _, rfl, rfl, _, _, rfl, rfl, rfl⟩ <;> simp only [denV]
  · rw [← wf32 wms]
  · rw [← wf64 wcm]
  · rw [← wf64 wnw]
  · rw [← wf8 wie]
  · rw [← wf8 wlc]
  · rw [← wf8 wmc]
  · rw [← wf8 wsc]
end Go.Anv

/- The call's start where one table is listed (arith.plain): what lies there. Plain theorems. -/
namespace Go.Proofs.YtdlpmbghocabbaaGreatDoor
open Go Go.Anv Go.ChangeShapes Go.WideShapes Go.ChangeAt Go.RowKit
/-- As the kit's 'returnsInHanded_of_change_and', the world's shape handed on too. -/
theorem returns_shaped {H : Type} {enc : TypeId × Value → H} {a : Assume} {C : Checked} {os : Os} {f : FuncId} {fn : Func} {s : ChangeSpec} {conds : List PathCond} {apart fresh handsOn again : Bool} {X : World → Array Value → Prop}
    (hX : ∀ (w w' : World) (args : Array Value), w.heap = w'.heap → X w args → X w' args)
    (own : ownKnob C.prog.godebug = none) (started : os.Started) (noInit : C.prog.inits.idxOf? f = none) (hfn : C.prog.funcs[f]? = some fn)
    (witness : ∃ (w : World) (tape : Tape) (i : Input), w.os = os ∧ (w.forCall tape i).Shaped C.prog ∧ i.vars = [] ∧ Input.okWide C.prog (w.forCall tape i) .any w.heap.size f i ∧
      ((s.pre enc C.prog fn conds apart (w.forCall tape i).memory i.args ∧ X (w.forCall tape i).memory i.args) ∧ sizedMet enc C.prog fn (OpenSpec.ofChange s) apart (w.forCall tape i).memory i.args) ∧ a.holds C.prog (lone (Frame.enter C.prog f i.args .normal) [] (w.forCall tape i)))
    (contract : ∀ (W : World) (base : Nat) (args : Array Value) (ds gs : List (DataW H)) (before : List MemPlace), W.ShapedOpen C.prog →
      (∀ (j : Nat) t v, fn.params[j]? = some t → args[j]? = some v → Value.okWide C.prog W .any base t v) →
      DataW.Whole enc C.prog fn.params.toList s.vars apart W args.toList ds gs before →
      (DataW.weightsEach C.prog (fn.params.toList ++ s.plain.varTypes C.prog) (ds ++ gs)).all (· ≤ reachBytes) = true → X W args →
      Calls C.prog f args W fun e W' => ∃ v, e = .returned v ∧ s.post enc C.prog fn apart fresh handsOn again W args v W') :
    ReturnsInHanded a C os f .any (fun w args => (s.pre enc C.prog fn conds apart w args ∧ X w args) ∧ sizedMet enc C.prog fn (OpenSpec.ofChange s) apart w args) (s.post enc C.prog fn apart fresh handsOn again) := by
  refine returnsInHanded_of_calls own started noInit witness ?_
  intro w tape i _ hsh _ hok hpre _
  obtain ⟨_, _, _, fn', hfn', _, _, _, _, hval⟩ := hok
  have e : fn' = fn := Option.some.inj (hfn'.symm.trans hfn)
  subst e
  obtain ⟨⟨⟨ds, gs, before, hw, hc⟩, hx⟩, hz⟩ := hpre
  have hw' := DataW.Whole.of_heap (w' := w.forCall tape i) (by rfl) hw
  refine (contract (w.forCall tape i) w.heap.size i.args ds gs before hsh hval hw' (hz.weights hw) (hX _ _ _ (by rfl) hx)).mono fun e W' ⟨v, he, hp⟩ => ?_
  subst he
  exact ChangeSpec.post_blind hp
/-- The listed variable. -/
abbrev laidD : List (String × DataW Unit) := [("anvil/arith.plain", Rows.laid_anvil_arith_plain)]
def plainT : List Int := [0, 0, 0, 0, 0, 0, 0, 0, 0, 0, 0, 0, 0, 0, 0, 0, 0, 0, 0, 0, 0, 0, 35, 38, 39, 40, 43, 44, 37, 41, 42, 45, 47, 48, 49, 0, 0, 0, 0, 0, 0, 0, 0, 0, 0, 0, 0, 0, 0, 0, 0, 0, 0, 0, 0, 0, 0, 0, 0, 0, 0, 0, 0, 0, 0, 0, 0, 0, 0, 0, 0, 0, 0, 0, 0, 0, 0, 0, 0, 0, 0, 0, 0, 0, 0, 0, 0, 0, 0, 0, 0, 0, 0, 0, 0, 0, 0]
theorem plain_cells {W : World} (h : laidMetH Tryz.prog laidD W) : ∀ o, o < 97 → W.cell? ⟨0, o, none⟩ = some (.int .i64 (plainT.getD o 0)) := by
  rw [MakeChecks.laidMetH_plain _ _ _ (by kernel_rfl)] at h
  have a := Go.Lib.laidMet.reads h (.head _)
  have ea : (Rows.laid_anvil_arith_plain : DataW Unit) = Go.Lib.tabData .i64 plainT := by kernel_rfl
  rw [ea] at a
  obtain ⟨g, t, cs, fuel, p, hg, hty, hvar, hd⟩ := a
  obtain rfl := Option.some.inj ((show Tryz.prog.globalNamed "anvil/arith.plain" = some 0 by kernel_rfl).symm.trans hg)
  obtain rfl := Option.some.inj ((show (Tryz.prog.globals[0]?).map (·.type) = some 195 by kernel_rfl).symm.trans hty)
  have hcs := Go.Lib.cells_of_tab Tryz.underlying195 Tryz.underlying3 (by kernel_rfl) (by kernel_rfl) hd
  intro o ho
  have := World.var?_cell hg hvar o
  rw [this, ← Array.getElem?_toList, hcs]
  rw [List.getElem?_map, List.getD_eq_getElem?_getD]
  have hl : plainT.length = 97 := by decide
  rw [List.getElem?_eq_getElem (by omega)]
  rfl
theorem tab_ok {E : Emb} {h : List Blk} {W : World} (hr : roAll h) (hl : laidMetH Tryz.prog laidD W) : TabOk E h W := by
  have hT := plain_cells hl
  have nm : ∀ b o, ¬ mutAt E h b o := by
    rintro b o ⟨i, B, hi, hB, _⟩
    rw [roAll_get hr i B hi] at hB
    cases hB
  intro b o P hP
  unfold seatG at hP
  split at hP
  · rename_i h0
    obtain ⟨rfl, h1⟩ := h0
    cases hP
    have hc := hT o h1
    refine ⟨⟨_, hc, rfl⟩, ?_, nm _ _⟩
    rcases Nat.lt_or_ge 0 W.heap.size with h | h
    · exact h
    · rw [show W.cell? ⟨0, o, none⟩ = none from by simp [World.cell?, Array.getElem?_eq_none h]] at hc; cases hc
  · cases hP
end Go.Proofs.YtdlpmbghocabbaaGreatDoor

/- What the arguments of the statements of this seat are made of. Printed by gen_ft.py; no condition. -/
namespace Go.Proofs.YtdlpmbghocabbaaGreatDoor
open Go Go.Anv
set_option maxRecDepth 100000
theorem ft35 (n : Nat) : FTn Tryz.prog (n + 2) 35 [.sl .u8, .int .u32, .int .u64, .int .u64, .bool, .bool, .int .u8, .int .u8, .int .u8, .int .u8, .bool, .sl .u8, .sl .u8, .int .i64, .int .i64] := .inr (.inr (.inr (.inr (.inl ⟨_, Tryz.underlying35, by kernel_rfl, ⟨[.sl .u8], _, rfl, rfl, by kernel_rfl, .inr (.inr (.inr (.inl ⟨_, _, Tryz.underlying32, Tryz.underlying5, by kernel_rfl, of_decide_eq_true (by kernel_rfl), rfl⟩))), ⟨[.int .u32], _, rfl, rfl, by kernel_rfl, .inl ⟨_, Tryz.underlying33, rfl⟩, ⟨[.int .u64], _, rfl, rfl, by kernel_rfl, .inl ⟨_, Tryz.underlying22, rfl⟩, ⟨[.int .u64], _, rfl, rfl, by kernel_rfl, .inl ⟨_, Tryz.underlying22, rfl⟩, ⟨[.bool], _, rfl, rfl, by kernel_rfl, .inr (.inl ⟨Tryz.underlying4, rfl⟩), ⟨[.bool], _, rfl, rfl, by kernel_rfl, .inr (.inl ⟨Tryz.underlying4, rfl⟩), ⟨[.int .u8], _, rfl, rfl, by kernel_rfl, .inl ⟨_, Tryz.underlying5, rfl⟩, ⟨[.int .u8], _, rfl, rfl, by kernel_rfl, .inl ⟨_, Tryz.underlying5, rfl⟩, ⟨[.int .u8], _, rfl, rfl, by kernel_rfl, .inl ⟨_, Tryz.underlying5, rfl⟩, ⟨[.int .u8], _, rfl, rfl, by kernel_rfl, .inl ⟨_, Tryz.underlying5, rfl⟩, ⟨[.bool], _, rfl, rfl, by kernel_rfl, .inr (.inl ⟨Tryz.underlying4, rfl⟩), ⟨[.sl .u8], _, rfl, rfl, by kernel_rfl, .inr (.inr (.inr (.inl ⟨_, _, Tryz.underlying32, Tryz.underlying5, by kernel_rfl, of_decide_eq_true (by kernel_rfl), rfl⟩))), ⟨[.sl .u8], _, rfl, rfl, by kernel_rfl, .inr (.inr (.inr (.inl ⟨_, _, Tryz.underlying32, Tryz.underlying5, by kernel_rfl, of_decide_eq_true (by kernel_rfl), rfl⟩))), ⟨[.int .i64], _, rfl, rfl, by kernel_rfl, .inl ⟨_, Tryz.underlying3, rfl⟩, ⟨[.int .i64], _, rfl, rfl, by kernel_rfl, .inl ⟨_, Tryz.underlying3, rfl⟩, rfl⟩⟩⟩⟩⟩⟩⟩⟩⟩⟩⟩⟩⟩⟩⟩⟩))))
theorem ft29 (n : Nat) : FTn Tryz.prog (n + 2) 29 [.bool, .int .u64, .int .i64] := .inr (.inr (.inr (.inr (.inl ⟨_, Tryz.underlying29, by kernel_rfl, ⟨[.bool], _, rfl, rfl, by kernel_rfl, .inr (.inl ⟨Tryz.underlying4, rfl⟩), ⟨[.int .u64], _, rfl, rfl, by kernel_rfl, .inl ⟨_, Tryz.underlying22, rfl⟩, ⟨[.int .i64], _, rfl, rfl, by kernel_rfl, .inl ⟨_, Tryz.underlying3, rfl⟩, rfl⟩⟩⟩⟩))))
theorem ft27 (n : Nat) : FTn Tryz.prog (n + 2) 27 [.arr .u8 16, .arr .u64 16] := .inr (.inr (.inr (.inr (.inl ⟨_, Tryz.underlying27, by kernel_rfl, ⟨[.arr .u8 16], _, rfl, rfl, by kernel_rfl, .inr (.inr (.inl ⟨_, _, _, Tryz.underlying24, Tryz.underlying5, by kernel_rfl, by kernel_rfl, rfl⟩)), ⟨[.arr .u64 16], _, rfl, rfl, by kernel_rfl, .inr (.inr (.inl ⟨_, _, _, Tryz.underlying25, Tryz.underlying22, by kernel_rfl, by kernel_rfl, rfl⟩)), rfl⟩⟩⟩))))
theorem ft31 (n : Nat) : FTn Tryz.prog (n + 3) 31 [.int .u64, .arr .u64 32, .int .i64, .bool, .int .u64, .int .u64, .int .u64, .int .u64, .int .u64, .int .u64, .int .u64, .int .u64, .int .u64, .int .u64, .int .u64, .int .u64, .arr .u8 16, .arr .u64 16, .bool, .int .u64, .int .i64] := .inr (.inr (.inr (.inr (.inl ⟨_, Tryz.underlying31, by kernel_rfl, ⟨[.int .u64], _, rfl, rfl, by kernel_rfl, .inl ⟨_, Tryz.underlying22, rfl⟩, ⟨[.arr .u64 32], _, rfl, rfl, by kernel_rfl, .inr (.inr (.inl ⟨_, _, _, Tryz.underlying23, Tryz.underlying22, by kernel_rfl, by kernel_rfl, rfl⟩)), ⟨[.int .i64], _, rfl, rfl, by kernel_rfl, .inl ⟨_, Tryz.underlying3, rfl⟩, ⟨[.bool], _, rfl, rfl, by kernel_rfl, .inr (.inl ⟨Tryz.underlying4, rfl⟩), ⟨[.int .u64], _, rfl, rfl, by kernel_rfl, .inl ⟨_, Tryz.underlying22, rfl⟩, ⟨[.int .u64], _, rfl, rfl, by kernel_rfl, .inl ⟨_, Tryz.underlying22, rfl⟩, ⟨[.int .u64], _, rfl, rfl, by kernel_rfl, .inl ⟨_, Tryz.underlying22, rfl⟩, ⟨[.int .u64], _, rfl, rfl, by kernel_rfl, .inl ⟨_, Tryz.underlying22, rfl⟩, ⟨[.int .u64], _, rfl, rfl, by kernel_rfl, .inl ⟨_, Tryz.underlying22, rfl⟩, ⟨[.int .u64], _, rfl, rfl, by kernel_rfl, .inl ⟨_, Tryz.underlying22, rfl⟩, ⟨[.int .u64], _, rfl, rfl, by kernel_rfl, .inl ⟨_, Tryz.underlying22, rfl⟩, ⟨[.int .u64], _, rfl, rfl, by kernel_rfl, .inl ⟨_, Tryz.underlying22, rfl⟩, ⟨[.int .u64], _, rfl, rfl, by kernel_rfl, .inl ⟨_, Tryz.underlying22, rfl⟩, ⟨[.int .u64], _, rfl, rfl, by kernel_rfl, .inl ⟨_, Tryz.underlying22, rfl⟩, ⟨[.int .u64], _, rfl, rfl, by kernel_rfl, .inl ⟨_, Tryz.underlying22, rfl⟩, ⟨[.int .u64], _, rfl, rfl, by kernel_rfl, .inl ⟨_, Tryz.underlying22, rfl⟩, ⟨[.arr .u8 16, .arr .u64 16], _, rfl, rfl, by kernel_rfl, ft27 (n + 0), ⟨[.bool, .int .u64, .int .i64], _, rfl, rfl, by kernel_rfl, ft29 (n + 0), rfl⟩⟩⟩⟩⟩⟩⟩⟩⟩⟩⟩⟩⟩⟩⟩⟩⟩⟩⟩))))
theorem ft51 (n : Nat) : FTn Tryz.prog (n + 4) 51 [.int .u64, .arr .u64 32, .int .i64, .bool, .int .u64, .int .u64, .int .u64, .int .u64, .int .u64, .int .u64, .int .u64, .int .u64, .int .u64, .int .u64, .int .u64, .int .u64, .arr .u8 16, .arr .u64 16, .bool, .int .u64, .int .i64, .sl .u8, .int .u32, .int .u64, .int .u64, .bool, .bool, .int .u8, .int .u8, .int .u8, .int .u8, .bool, .sl .u8, .sl .u8, .int .i64, .int .i64] := .inr (.inr (.inr (.inr (.inl ⟨_, Tryz.underlying51, by kernel_rfl, ⟨[.int .u64, .arr .u64 32, .int .i64, .bool, .int .u64, .int .u64, .int .u64, .int .u64, .int .u64, .int .u64, .int .u64, .int .u64, .int .u64, .int .u64, .int .u64, .int .u64, .arr .u8 16, .arr .u64 16, .bool, .int .u64, .int .i64], _, rfl, rfl, by kernel_rfl, ft31 (n + 0), ⟨[.sl .u8, .int .u32, .int .u64, .int .u64, .bool, .bool, .int .u8, .int .u8, .int .u8, .int .u8, .bool, .sl .u8, .sl .u8, .int .i64, .int .i64], _, rfl, rfl, by kernel_rfl, ft35 (n + 1), rfl⟩⟩⟩))))
end Go.Proofs.YtdlpmbghocabbaaGreatDoor

/- Proper Cpus: the program's and the document's. No condition: contracts of functions. -/
set_option linter.unusedSimpArgs false
namespace Go.Anv
open Go
def cfgOf (c : B8) : B8 := if c &&& 0x9f#8 &&& 1#8 = 0#8 then c &&& 0x9f#8 &&& ~~~2#8 else c &&& 0x9f#8
def addrBits : B64 := 0x3fffffffffffff#64
def pmpSeg (cfg : Nat → B8) (addr : Nat → B64) : List Seg := [.ints .u8 16 (bfun cfg), .ints .u64 16 (wfun addr)]
def resSeg (v : Bool) (a : B64) (s : Int) : List Seg := [.one (.bool v), .one (.int .u64 a.toNat), .one (.int .i64 s)]
/-- May it be a reservation? -/
def resOk (v : Bool) (a : B64) (s : Int) : Bool := v && (decide (s = 4) && decide (a.toNat % 4 = 0) || decide (s = 8) && decide (a.toNat % 8 = 0))
def statusOf (m : B64) : B64 := (m &&& 2228360#64) ||| (if m &&& 6144#64 = 6144#64 then 6144#64 else 0#64) ||| 8589934592#64
def CpuV.proper (c : CpuV) : CpuV :=
  { c with
    pc := c.pc &&& ~~~1#64
    mepc := c.mepc &&& ~~~1#64
    x := fun j => if j = 0 then 0#64 else c.x j
    mode := if c.mode = 3 then 3 else 0
    mstatus := statusOf c.mstatus
    mtvec := c.mtvec &&& ~~~2#64
    mie := c.mie &&& 2184#64
    mcounteren := c.mcounteren &&& 7#64
    mcountinhibit := c.mcountinhibit &&& 5#64
    menvcfg := c.menvcfg &&& 1#64
    cfg := fun j => cfgOf (c.cfg j)
    addr := fun j => c.addr j &&& addrBits
    rvalid := resOk c.rvalid c.raddr c.rsize
    raddr := if resOk c.rvalid c.raddr c.rsize then c.raddr else 0#64
    rsize := if resOk c.rvalid c.raddr c.rsize then c.rsize else 0 }
theorem mask_k : ∀ i, i < 64 → (6144#64).getLsbD i = (i == 11 || i == 12) := by decide
theorem mask_c : ∀ i, i < 64 → (2234504#64).getLsbD i = ((2228360#64).getLsbD i || (i == 11 || i == 12)) := by decide
theorem mask_d : (2228360#64).getLsbD 11 = false ∧ (2228360#64).getLsbD 12 = false := by decide
theorem mpp_bits (m : B64) : ((m &&& 2234504#64) >>> 11 &&& 3#64 = 1#64 ∨ (m &&& 2234504#64) >>> 11 &&& 3#64 = 2#64) ↔ m.getLsbD 11 ≠ m.getLsbD 12 := by
  have h0 : (m &&& 2234504#64) >>> 11 &&& 3#64 = m >>> 11 &&& 3#64 := by
    apply BitVec.eq_of_getLsbD_eq
    intro i hi
    have h3 : ∀ i, i < 64 → (3#64).getLsbD i = true → i = 0 ∨ i = 1 := by decide
    simp only [BitVec.getLsbD_and, BitVec.getLsbD_ushiftRight]
    cases h : (3#64).getLsbD i with
    | false => simp
    | true =>
      rcases h3 i hi h with rfl | rfl
      · have : (2234504#64).getLsbD (11 + 0) = true := by decide
        simp [this]
      · have : (2234504#64).getLsbD (11 + 1) = true := by decide
        simp [this]
  rw [h0]
  have hx : (m >>> 11 &&& 3#64).toNat = m.toNat / 2048 % 4 := by
    rw [BitVec.toNat_and, BitVec.toNat_ushiftRight, Nat.shiftRight_eq_div_pow]
    exact Nat.and_two_pow_sub_one_eq_mod _ 2
  have h11 : m.getLsbD 11 = decide (m.toNat / 2048 % 2 = 1) := by
    show m.toNat.testBit 11 = _
    rw [Nat.testBit_eq_decide_div_mod_eq]
  have h12 : m.getLsbD 12 = decide (m.toNat / 4096 % 2 = 1) := by
    show m.toNat.testBit 12 = _
    rw [Nat.testBit_eq_decide_div_mod_eq]
  rw [h11, h12, ← BitVec.toNat_inj, ← BitVec.toNat_inj, hx]
  have e1 : (1#64).toNat = 1 := rfl
  have e2 : (2#64).toNat = 2 := rfl
  rw [e1, e2, ne_eq, decide_eq_decide]
  omega
theorem mpp_full (m : B64) : m &&& 6144#64 = 6144#64 ↔ (m.getLsbD 11 = true ∧ m.getLsbD 12 = true) := by
  constructor
  · intro h
    have h1 := congrArg (fun x : B64 => x.getLsbD 11) h
    have h2 := congrArg (fun x : B64 => x.getLsbD 12) h
    simp only [BitVec.getLsbD_and, mask_k 11 (by decide), mask_k 12 (by decide)] at h1 h2
    have k1 : (11 == 11 || 11 == 12) = true := by decide
    have k2 : (12 == 11 || 12 == 12) = true := by decide
    rw [k1, Bool.and_true] at h1
    rw [k2, Bool.and_true] at h2
    exact ⟨h1, h2⟩
  · rintro ⟨h1, h2⟩
    apply BitVec.eq_of_getLsbD_eq
    intro i hi
    rw [BitVec.getLsbD_and, mask_k i hi]
    by_cases h : i = 11
    · subst h; simp [h1]
    · by_cases h' : i = 12
      · subst h'; simp [h2]
      · rw [beq_eq_false_iff_ne.2 h, beq_eq_false_iff_ne.2 h']
        simp only [Bool.or_false, Bool.and_false]
theorem status_yes (m : B64) (h : (m &&& 2234504#64) >>> 11 &&& 3#64 = 1#64 ∨ (m &&& 2234504#64) >>> 11 &&& 3#64 = 2#64) : m &&& 2234504#64 &&& ~~~6144#64 ||| 8589934592#64 = statusOf m := by
  have h := (mpp_bits m).1 h
  have hf : ¬ m &&& 6144#64 = 6144#64 := fun e => by
    obtain ⟨a, b⟩ := (mpp_full m).1 e
    exact h (a.trans b.symm)
  unfold statusOf
  rw [if_neg hf, BitVec.or_zero]
  congr 1
  apply BitVec.eq_of_getLsbD_eq
  intro i hi
  simp only [BitVec.getLsbD_and, BitVec.getLsbD_not, hi, decide_true, Bool.true_and, mask_k i hi, mask_c i hi]
  by_cases h1 : i = 11
  · subst h1; simp [mask_d.1]
  · by_cases h2 : i = 12
    · subst h2; simp [mask_d.2]
    · rw [beq_eq_false_iff_ne.2 h1, beq_eq_false_iff_ne.2 h2]
      simp only [Bool.or_false, Bool.not_false, Bool.and_true]
theorem status_no (m : B64) (h : ¬ ((m &&& 2234504#64) >>> 11 &&& 3#64 = 1#64 ∨ (m &&& 2234504#64) >>> 11 &&& 3#64 = 2#64)) : m &&& 2234504#64 ||| 8589934592#64 = statusOf m := by
  have h := fun e => h ((mpp_bits m).2 e)
  have heq : m.getLsbD 11 = m.getLsbD 12 := Classical.byContradiction h
  unfold statusOf
  congr 1
  apply BitVec.eq_of_getLsbD_eq
  intro i hi
  rw [BitVec.getLsbD_and, BitVec.getLsbD_or, BitVec.getLsbD_and, mask_c i hi]
  by_cases hf : m &&& 6144#64 = 6144#64
  · obtain ⟨a, b⟩ := (mpp_full m).1 hf
    rw [if_pos hf, mask_k i hi]
    by_cases h1 : i = 11
    · subst h1; rw [a, mask_d.1]; rfl
    · by_cases h2 : i = 12
      · subst h2; rw [b, mask_d.2]; rfl
      · rw [beq_eq_false_iff_ne.2 h1, beq_eq_false_iff_ne.2 h2]
        simp only [Bool.or_false]
  · rw [if_neg hf, BitVec.getLsbD_zero, Bool.or_false]
    have ha : m.getLsbD 11 = false := by
      cases hq : m.getLsbD 11 with
      | false => rfl
      | true => exact absurd ((mpp_full m).2 ⟨hq, by rw [← heq]; exact hq⟩) hf
    by_cases h1 : i = 11
    · subst h1; rw [ha]; rfl
    · by_cases h2 : i = 12
      · subst h2; rw [← heq, ha]; rfl
      · rw [beq_eq_false_iff_ne.2 h1, beq_eq_false_iff_ne.2 h2]
        simp only [Bool.or_false]
theorem toNat_ofInt_int {w : Nat} (a : BitVec w) (n : Int) (h0 : 0 ≤ n) (h1 : n < 2 ^ w) : ((a.toNat : Int) = n) ↔ a = BitVec.ofInt w n := by
  have := beq_lit a n h0 h1
  rw [Bool.eq_iff_iff, beq_iff_eq, beq_iff_eq] at this
  exact this
theorem and_low (a : B64) (k : Nat) (hk : k < 64) : a &&& BitVec.ofNat 64 (2 ^ k - 1) = 0#64 ↔ a.toNat % 2 ^ k = 0 := by
  rw [← BitVec.toNat_inj, BitVec.toNat_and, BitVec.toNat_ofNat, Nat.mod_eq_of_lt, Nat.and_two_pow_sub_one_eq_mod]
  · simp
  · have : 2 ^ k ≤ 2 ^ 63 := Nat.pow_le_pow_right (by decide) (by omega)
    have : 0 < 2 ^ k := Nat.two_pow_pos k
    omega
theorem rres_cond (v : Bool) (a : B64) (s : Int) : (bif bif !v then true else bif s != 4 then s != 8 else false then true else bif (a.toNat : Int).tmod 8 != 0 then bif s == 8 then true else (a.toNat : Int).tmod 4 != 0 else false) = !resOk v a s := by
  have e8 : (a.toNat : Int).tmod 8 = ((a.toNat % 8 : Nat) : Int) := rfl
  have e4 : (a.toNat : Int).tmod 4 = ((a.toNat % 4 : Nat) : Int) := rfl
  rw [e8, e4]
  unfold resOk
  cases v
  · rfl
  · by_cases h4 : s = 4
    · subst h4
      by_cases h : a.toNat % 4 = 0
      · simp [h]
      · have h8 : ¬ a.toNat % 8 = 0 := by omega
        have h8' : ¬ (a.toNat : Int) % 8 = 0 := by omega
        have h4' : ¬ (a.toNat : Int) % 4 = 0 := by omega
        simp [h, h8, h8', h4']
    · by_cases h8 : s = 8
      · subst h8
        by_cases h : a.toNat % 8 = 0
        · have h' : (a.toNat : Int) % 8 = 0 := by omega
          simp [h, h']
        · have h' : ¬ (a.toNat : Int) % 8 = 0 := by omega
          simp [h, h']
      · simp [h4, h8]
theorem resOk_valid {v : Bool} {a : B64} {s : Int} (h : resOk v a s = true) : v = true := by
  unfold resOk at h
  simp only [Bool.and_eq_true] at h
  exact h.1
theorem and_3 (a : B64) : a &&& 3#64 = 0#64 ↔ a.toNat % 4 = 0 := and_low a 2 (by decide)
theorem and_7 (a : B64) : a &&& 7#64 = 0#64 ↔ a.toNat % 8 = 0 := and_low a 3 (by decide)
theorem res_cond (v : Bool) (a : B64) (s : Int) : (bif bif !v then true else bif s != 4 then s != 8 else false then true else bitX .and .u64 (a.toNat : Int) (IntKind.u64.wrap (IntKind.i64.wrap (s - 1))) != 0) = !resOk v a s := by
  unfold resOk
  cases v
  · rfl
  · by_cases h4 : s = 4
    · subst h4
      have hw : IntKind.u64.wrap (IntKind.i64.wrap (4 - 1)) = 3 := by decide
      rw [hw, and_u64, ofInt_toNat]
      simp only [BitVec.reduceOfInt, bne_lit, Int.reduceLE, Int.reducePow, Int.reduceLT]
      have := and_3 a
      by_cases h : a.toNat % 4 = 0
      · simp [h, this.2 h]
      · have h' : ¬ a &&& 3#64 = 0#64 := fun e => h (this.1 e)
        simp [h, h']
    · by_cases h8 : s = 8
      · subst h8
        have hw : IntKind.u64.wrap (IntKind.i64.wrap (8 - 1)) = 7 := by decide
        rw [hw, and_u64, ofInt_toNat]
        simp only [BitVec.reduceOfInt, bne_lit, Int.reduceLE, Int.reducePow, Int.reduceLT]
        have := and_7 a
        by_cases h : a.toNat % 8 = 0
        · simp [h, this.2 h]
        · have h' : ¬ a &&& 7#64 = 0#64 := fun e => h (this.1 e)
          simp [h, h']
      · simp [h4, h8]
end Go.Anv
namespace Go.Proofs.YtdlpmbghocabbaaGreatDoor
open Go Go.Anv
theorem byteOf_spec (c : B8) (h : List Blk) : Does TB 48 [.s (.int .u8 c.toNat)] h (fun v h' => v = .s (.int .u8 (cfgOf c).toNat) ∧ h' = h) := by
  refine fnX_pure TB Tryz.func48 rfl (by decide) rfl _ rfl (fun O on => ?_) h
  refine ifB_intro (fun h1 => ?_) (fun h1 => ?_)
  · refine ⟨rfl, ?_⟩
    simp only [and_u8, andNot_u8, ofInt_toNat, BitVec.reduceOfInt, beq_lit, Int.reduceLE, Int.reducePow, Int.reduceLT, beq_iff_eq] at h1 ⊢
    simp only [cfgOf, if_pos h1]
  · refine ⟨rfl, ?_⟩
    simp only [and_u8, andNot_u8, ofInt_toNat, BitVec.reduceOfInt, beq_lit, Int.reduceLE, Int.reducePow, Int.reduceLT, beq_eq_false_iff_ne, ne_eq] at h1 ⊢
    simp only [cfgOf, if_neg h1]
/-- The first i entries made proper. -/
def cfgTo (i : Nat) (cfg : Nat → B8) (j : Nat) : B8 := if j < i then cfgOf (cfg j) else cfg j
def addrTo (i : Nat) (addr : Nat → B64) (j : Nat) : B64 := if j < i then addr j &&& addrBits else addr j
theorem cfgTo_step (i : Nat) (cfg : Nat → B8) (j : Nat) : (if j = i then ((cfgOf (cfgTo i cfg i)).toNat : Int) else bfun (cfgTo i cfg) j) = bfun (cfgTo (i + 1) cfg) j := by
  simp only [bfun, cfgTo]
  rcases Nat.lt_trichotomy j i with hj | hj | hj
  · rw [if_neg (by omega), if_pos hj, if_pos (by omega)]
  · subst hj; rw [if_pos rfl, if_neg (by omega), if_pos (by omega)]
  · rw [if_neg (by omega), if_neg (by omega), if_neg (by omega)]
theorem addrTo_step (i : Nat) (addr : Nat → B64) (j : Nat) : (if j = i then ((addrTo i addr i &&& addrBits).toNat : Int) else wfun (addrTo i addr) j) = wfun (addrTo (i + 1) addr) j := by
  simp only [wfun, addrTo]
  rcases Nat.lt_trichotomy j i with hj | hj | hj
  · rw [if_neg (by omega), if_pos hj, if_pos (by omega)]
  · subst hj; rw [if_pos rfl, if_neg (by omega), if_pos (by omega)]
  · rw [if_neg (by omega), if_neg (by omega), if_neg (by omega)]
theorem properP_spec (cfg : Nat → B8) (addr : Nat → B64) (h : List Blk) : Does TB 28 [.agg (pmpSeg cfg addr)] h (fun v h' => v = .agg (pmpSeg (fun j => cfgOf (cfg j)) (fun j => addr j &&& addrBits)) ∧ h' = h) := by
  refine fnX_pure TB Tryz.func28 rfl (by decide) rfl _ rfl (fun O on => ?_) h
  refine loop_by (A := Nat) on (fun i => [(4, .s (.int .i64 (i : Int)))]) (fun i => [.cells true (pmpSeg (cfgTo i cfg) (addrTo i addr)) 0, .cells true [.ints .u8 16 (fun _ => 0), .ints .u64 16 (fun _ => 0)] 0]) (fun i => i ≤ 16) (fun i => 16 - i) 0 (by omega) ?_ ?_
  · refine ⟨?_, ?_⟩
    · repeat' (first | exact eqvT_nil | refine eqvT_junk ?_ | refine eqvT_same ?_ | refine eqvT_int ?_ ?_)
    · refine ⟨⟨rfl, rfl, ⟨rfl, rfl, fun j _ => ?_⟩, ⟨rfl, rfl, fun j _ => ?_⟩, trivial⟩, eqvB_refl _, trivial⟩ <;> simp [cfgTo, addrTo, bfun, wfun]
  · intro i hi
    refine ifB_intro (fun h1 => ?_) (fun h1 => ?_)
    · have h1 : i < 16 := by have := of_decide_eq_true h1; omega
      refine need_intro (by omega) ?_
      refine need_intro (by omega) ?_
      refine (byteOf_spec _ _).mono ?_
      rintro v h' ⟨rfl, rfl⟩
      refine need_intro (by omega) ?_
      refine need_intro (by omega) ?_
      refine need_intro (by omega) ?_
      refine need_intro (by omega) ?_
      refine need_intro (by omega) ?_
      refine need_intro (by omega) ?_
      refine ⟨i + 1, by omega, by simp only; omega, ?_⟩
      refine ⟨?_, ?_⟩
      · repeat' (first | exact eqvT_nil | refine eqvT_junk ?_ | refine eqvT_same ?_ | refine eqvT_int ?_ ?_)
        rw [i64_in (by omega) (by omega)]; omega
      · refine ⟨⟨rfl, rfl, ⟨rfl, rfl, fun j _ => ?_⟩, ⟨rfl, rfl, fun j _ => ?_⟩, trivial⟩, eqvB_refl _, trivial⟩
        · simp only [Int.toNat_natCast]
          exact cfgTo_step i cfg j
        · simp only [Int.toNat_natCast]
          rw [show wfun (addrTo i addr) i = ((addrTo i addr i).toNat : Int) from rfl, and_u64, ofInt_toNat]
          exact addrTo_step i addr j
    · have h1 : i = 16 := by have := of_decide_eq_false h1; omega
      subst h1
      refine need_intro rfl ?_
      refine ⟨⟨rfl, rfl, fun j hj => ?_⟩, ⟨rfl, rfl, fun j hj => ?_⟩, trivial⟩ <;> simp [cfgTo, addrTo, bfun, wfun, hj]
theorem reservation_spec (v : Bool) (a : B64) (s : Int) (h : List Blk) :
    Does TB 29 [.agg (resSeg v a s)] h (fun r h' => r = .agg (resSeg (resOk v a s) (if resOk v a s then a else 0#64) (if resOk v a s then s else 0)) ∧ h' = h) := by
  refine fnX_pure TB Tryz.func29 rfl (by decide) rfl _ rfl (fun O on => ?_) h
  repeat (refine need_intro (by first | exact fun h => h | (simp; done) | grind) ?_)
  refine ifB_intro (fun h1 => ?_) (fun h1 => ?_)
  · rw [res_cond, Bool.not_eq_true'] at h1
    refine need_intro rfl ?_
    rw [h1]
    exact eqvE_refl _
  · rw [res_cond, Bool.not_eq_false'] at h1
    refine need_intro rfl ?_
    rw [h1]
    have hv : v = true := by
      unfold resOk at h1
      simp only [Bool.and_eq_true] at h1
      exact h1.1
    rw [hv]
    exact eqvE_refl _
theorem zero_first (x : Nat → B64) (j : Nat) : (if j = 0 then (0 : Int) else wfun x j) = wfun (fun j => if j = 0 then 0#64 else x j) j := by
  simp only [wfun]
  split <;> rfl
theorem mpp_nat (m : B64) : ((if m &&& 6144#64 = 6144#64 then (6144 : Int) else 0)) = ((if m &&& 6144#64 = 6144#64 then 6144#64 else 0#64 : B64).toNat : Int) := by split <;> rfl
set_option maxRecDepth 100000 in
theorem proper_spec (c : CpuV) (h : List Blk) : Does TB 11 [.agg c.segs] h (fun v h' => v = .agg c.proper.segs ∧ h' = h) := by
  refine fnX_pure TB Tryz.func11 rfl (by decide) rfl _ rfl (fun O on => ?_) h
  refine need_intro (by decide) ?_
  refine need_intro (by decide) ?_
  have hst : ∀ x : Int, x = (if c.mstatus &&& 6144#64 = 6144#64 then 6144 else 0) → bitX .or .u64 (bitX .or .u64 (bitX .and .u64 (c.mstatus.toNat : Int) 2228360) x) 8589934592 = ((statusOf c.mstatus).toNat : Int) := by
    rintro x rfl
    rw [mpp_nat, and_u64, or_u64]
    simp only [ofInt_toNat, or_u64, BitVec.reduceOfInt]
    rfl
  refine ifB_intro (fun h1 => ?_) (fun h1 => ?_) <;> refine ifB_intro (fun h2 => ?_) (fun h2 => ?_)
  all_goals
    refine (properP_spec c.cfg c.addr _).mono ?_
    rintro _ _ ⟨rfl, rfl⟩
    refine need_intro rfl ?_
    refine (reservation_spec c.rvalid c.raddr c.rsize _).mono ?_
    rintro _ _ ⟨rfl, rfl⟩
    refine need_intro rfl ?_
    refine need_intro rfl ?_
    rw [and_u64, ofInt_toNat] at h2
    simp only [BitVec.reduceOfInt, bne_lit, Int.reduceLE, Int.reducePow, Int.reduceLT, bne_iff_ne, bne_eq_false_iff_eq, ne_eq] at h1 h2
    show eqvS _ _
    repeat' (first | exact eqvS_nil | refine eqvS_same ?_ | refine eqvS_int ?_ ?_ | refine eqvS_ints ?_ ?_)
  all_goals first
    | (simp only [andNot_u64, and_u64, ofInt_toNat, BitVec.reduceOfInt]; rfl)
    | (intro j _; exact zero_first c.x j)
    | (refine hst _ ?_; simp [h2]; done)
    | (refine hst _ ?_; rw [and_u64, ofInt_toNat]; simp [h2]; done)
    | simp [CpuV.proper, h1]
end Go.Proofs.YtdlpmbghocabbaaGreatDoor

/- The engine, part 15: a call that is handed a part of a block: the part is a block of its own meanwhile. Plain theorems; their condition: what the call leaves of the part. -/
namespace Go.Anv
open Go

/-- A value that points into a part, seen from outside and from inside: the part is k cells behind the begin of block i, and block N. -/
def partV (i N k : Nat) : SV → SV → Prop
  | .ptr b o, .ptr b' o' => (b = b' ∧ o = o') ∨ (b = i ∧ b' = N ∧ o = k + o')
  | .pix b o j, .ptr b' o' => b = i ∧ b' = N ∧ o + j = k + o'
  | .gs b o n c, .gs b' o' n' c' => ((b = b' ∧ o = o') ∨ (b = i ∧ b' = N ∧ o = k + o')) ∧ n = n' ∧ c = c'
  | x, y => x = y

def partS (i N k : Nat) : List Seg → List Seg → Prop
  | [], [] => True
  | .one x :: r, .one y :: r' => partV i N k x y ∧ partS i N k r r'
  | .ints q n f :: r, .ints q' n' f' :: r' => (q = q' ∧ n = n' ∧ f = f') ∧ partS i N k r r'
  | _, _ => False

def partE (i N k : Nat) : EV → EV → Prop
  | .s x, .s y => partV i N k x y
  | .agg x, .agg y => partS i N k x y
  | x, y => x = y

def partT (i N k : Nat) : List EV → List EV → Prop
  | [], [] => True
  | x :: r, y :: r' => partE i N k x y ∧ partT i N k r r'
  | _, _ => False

def partP (E : Emb) (i k : Nat) : Loc := ⟨(E.f i).b, (E.f i).o + k, (E.f i).nl⟩

theorem partV_den {E : Emb} {i k : Nat} {x y : SV} {v : Value} (h : partV i E.n k x y) (hd : denV E x v) : denV (E.push (partP E i k)) y v := by
  have same : x = y → denV (E.push (partP E i k)) y v := fun e => e ▸ denV_mono (Emb.le_push _ _) _ _ hd
  unfold partV at h
  split at h
  · rename_i b o b' o'
    rcases h with ⟨rfl, rfl⟩ | ⟨rfl, rfl, rfl⟩
    · exact same rfl
    · simp only [denV] at hd ⊢
      refine ⟨by simp [Emb.push], ?_⟩
      rw [hd.2]
      simp [Emb.at, Emb.push_new, partP, Nat.add_assoc]
  · rename_i b o j b' o'
    obtain ⟨rfl, rfl, h⟩ := h
    simp only [denV] at hd ⊢
    refine ⟨by simp [Emb.push], ?_⟩
    rw [hd.2]
    simp [Emb.at, Emb.push_new, partP, h, Nat.add_assoc]
  · rename_i b o n c b' o' n' c'
    obtain ⟨h, rfl, rfl⟩ := h
    rcases h with ⟨rfl, rfl⟩ | ⟨rfl, rfl, rfl⟩
    · exact same rfl
    · simp only [denV] at hd ⊢
      refine ⟨by simp [Emb.push], by rw [Emb.push_new]; exact hd.2.1, ?_⟩
      rw [hd.2.2]
      simp [Emb.at, Emb.push_new, partP, Nat.add_assoc]
  · exact same h

theorem partS_den {E : Emb} {i k : Nat} : ∀ {x y : List Seg} {l : List Value}, partS i E.n k x y → denS E x l → denS (E.push (partP E i k)) y l
  | [], [], _, _, hd => hd
  | .one x :: r, .one y :: r', l, h, hd => by
    simp only [denS] at hd ⊢
    obtain ⟨v, l', rfl, h1, h2⟩ := hd
    exact ⟨v, l', rfl, partV_den h.1 h1, partS_den h.2 h2⟩
  | .ints q n f :: r, .ints q' n' f' :: r', l, h, hd => by
    simp only [denS] at hd ⊢
    obtain ⟨l', rfl, h2⟩ := hd
    obtain ⟨⟨rfl, rfl, rfl⟩, h⟩ := h
    exact ⟨l', rfl, partS_den h h2⟩
  | [], _ :: _, _, h, _ => h.elim
  | _ :: _, [], _, h, _ => by simp [partS] at h
  | .one _ :: _, .ints .. :: _, _, h, _ => h.elim
  | .ints .. :: _, .one _ :: _, _, h, _ => h.elim

theorem partE_den {E : Emb} {i k : Nat} {x y : EV} {v : Value} (h : partE i E.n k x y) (hd : denE E x v) : denE (E.push (partP E i k)) y v := by
  have same : x = y → denE (E.push (partP E i k)) y v := fun e => e ▸ denE_mono (Emb.le_push _ _) _ _ hd
  unfold partE at h
  split at h
  · simp only [denE] at hd ⊢
    exact partV_den h hd
  · simp only [denE] at hd ⊢
    obtain ⟨l, rfl, h1⟩ := hd
    exact ⟨l, rfl, partS_den h h1⟩
  · exact same h

theorem partT_den {E : Emb} {i k : Nat} : ∀ {x y : List EV} {v : List Value}, partT i E.n k x y → denT E x v → denT (E.push (partP E i k)) y v
  | [], [], v, _, hd => hd
  | x :: r, y :: r', v, h, hd => by
    simp only [denT] at hd ⊢
    obtain ⟨u, l, rfl, h1, h2⟩ := hd
    exact ⟨u, l, rfl, partE_den h.1 h1, partT_den h.2 h2⟩
  | [], _ :: _, _, h, _ => h.elim
  | _ :: _, [], _, h, _ => h.elim

/-- What a part's call must leave. -/
def PartOk (h1 : List Blk) (i N : Nat) (m : Bool) (a b c : List Seg) (sp : Nat) (K : EV → List Blk → Prop) (v : EV) (h' : List Blk) : Prop :=
  roOk h1 h' ∧ ∃ b' cs', nthB h' N = some (.cells m b' 0) ∧ sizeS b' = sizeS b ∧ (∀ E l, denS E (a ++ (b' ++ c)) l → denS E cs' l) ∧ K v (updB (updB h' N .dead) i (.cells m cs' sp))

theorem denS_split {E : Emb} : ∀ {a b : List Seg} {l : List Value}, denS E (a ++ b) l → ∃ x y, l = x ++ y ∧ denS E a x ∧ denS E b y
  | [], b, l, h => ⟨[], l, rfl, rfl, h⟩
  | .one e :: r, b, l, h => by
    simp only [List.cons_append, denS] at h
    obtain ⟨v, l', rfl, h1, h2⟩ := h
    obtain ⟨x, y, rfl, h3, h4⟩ := denS_split h2
    exact ⟨v :: x, y, rfl, ⟨v, x, rfl, h1, h3⟩, h4⟩
  | .ints k n f :: r, b, l, h => by
    simp only [List.cons_append, denS] at h
    obtain ⟨l', rfl, h2⟩ := h
    obtain ⟨x, y, rfl, h3, h4⟩ := denS_split h2
    exact ⟨intsOf k n f ++ x, y, by simp, ⟨x, rfl, h3⟩, h4⟩

theorem part_sim {E : Emb} {h : List Blk} {w : World} {i : Nat} {m : Bool} {cs a b c : List Seg} {sp : Nat} (S : Sim E h w) (hi : nthB h i = some (.cells m cs sp))
    (hs : ∀ E l, denS E cs l → denS E (a ++ (b ++ c)) l) : Sim (E.push (partP E i (sizeS a))) (updB h i .dead ++ [.cells m b 0]) w := by
  have hi' := nthB_get hi
  have hlt := lt_of_get hi'
  obtain ⟨hp, ⟨l, hl, hc⟩, hm⟩ := S.ok i _ hi'
  obtain ⟨la, lr, rfl, hla, hlr⟩ := denS_split (hs E l hl)
  obtain ⟨lb, lc, rfl, hlb, hlc⟩ := denS_split hlr
  have za := denS_length hla
  have zb := denS_length hlb
  have zc := denS_length hlc
  have zl := denS_length hl
  simp only [List.length_append] at zl
  have hn := S.n
  -- the blocks ahead of the call
  have hU : ∀ {j : Nat} {B : Blk}, (updB h i .dead)[j]? = some B → B = .dead ∨ (h[j]? = some B ∧ j ≠ i) := fun {j B} hj => by
    rw [updB_eq] at hj
    by_cases hij : i = j
    · subst hij
      rw [List.getElem?_set_self hlt] at hj
      simp only [Option.some.injEq] at hj
      exact .inl hj.symm
    · rw [List.getElem?_set_ne hij] at hj; exact .inr ⟨hj, fun e => hij e.symm⟩
  have hUl : (updB h i .dead).length = h.length := by rw [updB_eq, List.length_set]
  have hH : ∀ {j : Nat} {B : Blk}, (updB h i .dead ++ [.cells m b 0])[j]? = some B → B = .dead ∨ (h[j]? = some B ∧ (E.push (partP E i (sizeS a))).f j = E.f j ∧ j ≠ i ∧ j < h.length) ∨ (j = h.length ∧ B = .cells m b 0 ∧ (E.push (partP E i (sizeS a))).f j = partP E i (sizeS a)) := fun {j B} hj => by
    rcases getElem?_push_cases hj with ⟨h1, h2⟩ | ⟨h1, h2⟩
    · rw [hUl] at h2
      rcases hU h1 with h3 | ⟨h3, h4⟩
      · exact .inl h3
      · exact .inr (.inl ⟨h3, Emb.push_old _ _ (by omega), h4, h2⟩)
    · rw [hUl] at h1
      subst h1
      exact .inr (.inr ⟨rfl, h2, by rw [← hn, Emb.push_new]⟩)
  have covP : ∀ {x y : Nat}, cov (partP E i (sizeS a)) (.cells m b 0) x y → cov (E.f i) (.cells m cs sp) x y := fun {x y} hcv => by
    simp only [cov, partP] at hcv ⊢
    omega
  refine ⟨by simp [Emb.push, hUl, hn], fun j B hj => ?_, fun j k A B hjk hj hk hA x y hcj => ?_⟩
  · rcases hH hj with rfl | ⟨h1, h2, _⟩ | ⟨_, rfl, h2⟩
    · trivial
    · rw [h2]; exact okBlk_le (Emb.le_push _ _) (S.ok j B h1)
    · rw [h2]
      refine ⟨?_, ⟨lb, denS_mono (Emb.le_push _ _) _ _ hlb, fun j v hj => ?_⟩, fun hmm j hj => ?_⟩
      · rcases hp with hp | ⟨hp, hp2⟩
        · exact .inl hp
        · exact .inr ⟨hp, by omega⟩
      · have hj2 : j < lb.length := by
          rcases Nat.lt_or_ge j lb.length with h' | h'
          · exact h'
          · rw [List.getElem?_eq_none h'] at hj; cases hj
        have := hc (la.length + j) v (by rw [List.getElem?_append_right (by omega), Nat.add_sub_cancel_left, List.getElem?_append_left hj2]; exact hj)
        rw [za, ← Nat.add_assoc] at this
        exact this
      · have := hm hmm (sizeS a + j) (by omega)
        rw [← Nat.add_assoc] at this
        exact this
  · rcases hH hj with rfl | ⟨h1, h2, h3, _⟩ | ⟨h1, rfl, h2⟩
    · simp [Blk.mut] at hA
    · rw [h2] at hcj
      rcases hH hk with rfl | ⟨k1, k2, _⟩ | ⟨_, rfl, k2⟩
      · intro h'; exact h'
      · rw [k2]; exact S.dis j k A B hjk h1 k1 hA x y hcj
      · rw [k2]; intro hcv; exact S.dis j i A _ h3 h1 hi' hA x y hcj (covP hcv)
    · rw [h2] at hcj
      rcases hH hk with rfl | ⟨k1, k2, k3, _⟩ | ⟨k1, rfl, k2⟩
      · intro h'; exact h'
      · rw [k2]; exact S.dis i k _ B (Ne.symm k3) hi' k1 hA x y (covP hcj)
      · exact absurd (h1.trans k1.symm) hjk

theorem part_post {E : Emb} {h : List Blk} {w w' : World} {i : Nat} {m : Bool} {cs a b c : List Seg} {sp : Nat} {Q K : EV → List Blk → Prop} {e : Ending} (S : Sim E h w) (hi : nthB h i = some (.cells m cs sp))
    (hs : ∀ E l, denS E cs l → denS E (a ++ (b ++ c)) l) (hK : ∀ v h', Q v h' → PartOk (updB h i .dead ++ [.cells m b 0]) i h.length m a b c sp K v h')
    (P : Post (E.push (partP E i (sizeS a))) (updB h i .dead ++ [.cells m b 0]) w Q e w') : Post E h w K e w' := by
  have hi' := nthB_get hi
  have hlt := lt_of_get hi'
  obtain ⟨hp, ⟨l, hl, hc⟩, hm⟩ := S.ok i _ hi'
  obtain ⟨la, lr, rfl, hla, hlr⟩ := denS_split (hs E l hl)
  obtain ⟨lb, lc, rfl, hlb, hlc⟩ := denS_split hlr
  have za := denS_length hla
  have zb := denS_length hlb
  have zc := denS_length hlc
  have zl := denS_length hl
  simp only [List.length_append] at zl
  have hn := S.n
  -- the blocks ahead of the call
  have hU : ∀ {j : Nat} {B : Blk}, (updB h i .dead)[j]? = some B → B = .dead ∨ (h[j]? = some B ∧ j ≠ i) := fun {j B} hj => by
    rw [updB_eq] at hj
    by_cases hij : i = j
    · subst hij
      rw [List.getElem?_set_self hlt] at hj
      simp only [Option.some.injEq] at hj
      exact .inl hj.symm
    · rw [List.getElem?_set_ne hij] at hj; exact .inr ⟨hj, fun e => hij e.symm⟩
  have hUl : (updB h i .dead).length = h.length := by rw [updB_eq, List.length_set]
  have hH : ∀ {j : Nat} {B : Blk}, (updB h i .dead ++ [.cells m b 0])[j]? = some B → B = .dead ∨ (h[j]? = some B ∧ (E.push (partP E i (sizeS a))).f j = E.f j ∧ j ≠ i ∧ j < h.length) ∨ (j = h.length ∧ B = .cells m b 0 ∧ (E.push (partP E i (sizeS a))).f j = partP E i (sizeS a)) := fun {j B} hj => by
    rcases getElem?_push_cases hj with ⟨h1, h2⟩ | ⟨h1, h2⟩
    · rw [hUl] at h2
      rcases hU h1 with h3 | ⟨h3, h4⟩
      · exact .inl h3
      · exact .inr (.inl ⟨h3, Emb.push_old _ _ (by omega), h4, h2⟩)
    · rw [hUl] at h1
      subst h1
      exact .inr (.inr ⟨rfl, h2, by rw [← hn, Emb.push_new]⟩)
  have covP : ∀ {x y : Nat}, cov (partP E i (sizeS a)) (.cells m b 0) x y → cov (E.f i) (.cells m cs sp) x y := fun {x y} hcv => by
    simp only [cov, partP] at hcv ⊢
    omega
  have mut1 : ∀ {x y : Nat}, mutAt (E.push (partP E i (sizeS a))) (updB h i .dead ++ [.cells m b 0]) x y → mutAt E h x y := fun {x y} hm1 => by
    obtain ⟨j, B, hj, hB, hcv⟩ := hm1
    rcases hH hj with rfl | ⟨h1, h2, _⟩ | ⟨_, rfl, h2⟩
    · simp [Blk.mut] at hB
    · rw [h2] at hcv; exact ⟨j, B, h1, hB, hcv⟩
    · rw [h2] at hcv; exact ⟨i, _, hi', hB, covP hcv⟩
  -- cells of the block outside the part are written by nobody
  have out1 : ∀ {y : Nat}, (E.f i).o ≤ y → y < (E.f i).o + (sizeS cs + sp) → ¬ (((E.f i).o + sizeS a) ≤ y ∧ y < (E.f i).o + sizeS a + sizeS b) → ¬ mutAt (E.push (partP E i (sizeS a))) (updB h i .dead ++ [.cells m b 0]) (E.f i).b y := fun {y} h1 h2 h3 hm1 => by
    obtain ⟨j, B, hj, hB, hcv⟩ := hm1
    rcases hH hj with rfl | ⟨k1, k2, k3, _⟩ | ⟨_, rfl, k2⟩
    · simp [Blk.mut] at hB
    · rw [k2] at hcv
      exact S.dis j i B _ k3 k1 hi' hB _ _ hcv ⟨rfl, h1, h2⟩
    · rw [k2] at hcv
      simp only [cov, partP] at hcv
      omega
  obtain ⟨v, x, h', E', rfl, hd, S', N', hq⟩ := P
  obtain ⟨hro, b', cs', hN, hsz, hj', hk⟩ := hK x h' hq
  have hN' := nthB_get hN
  have hNlt := lt_of_get hN'
  have fi : E'.f i = E.f i := by rw [N'.same i (by simp [Emb.push]; omega), Emb.push_old _ _ (by omega)]
  have fN : E'.f h.length = partP E i (sizeS a) := by rw [N'.same h.length (by simp [Emb.push]; omega), ← hn, Emb.push_new]
  obtain ⟨p1, ⟨lb', hlb', hcb'⟩, hmb'⟩ := S'.ok _ _ hN'
  have zb' := denS_length hlb'
  have le' : E.le E' := ⟨by have := N'.len; have h1 := S'.n; simp only [List.length_append, hUl, List.length_singleton] at this; omega, fun j hj => by rw [N'.same j (by simp [Emb.push]; omega), Emb.push_old _ _ hj]⟩
  have hF : ∀ {j : Nat} {B : Blk}, (updB (updB h' h.length .dead) i (.cells m cs' sp))[j]? = some B → B = .dead ∨ (h'[j]? = some B ∧ j ≠ i ∧ j ≠ h.length) ∨ (j = i ∧ B = .cells m cs' sp) := fun {j B} hj => by
    rw [updB_eq, updB_eq] at hj
    by_cases hij : i = j
    · subst hij
      rw [List.getElem?_set_self (by rw [List.length_set]; omega)] at hj
      simp only [Option.some.injEq] at hj
      exact .inr (.inr ⟨rfl, hj.symm⟩)
    · rw [List.getElem?_set_ne hij] at hj
      by_cases hNj : h.length = j
      · subst hNj
        rw [List.getElem?_set_self hNlt] at hj
        simp only [Option.some.injEq] at hj
        exact .inl hj.symm
      · rw [List.getElem?_set_ne hNj] at hj
        exact .inr (.inl ⟨hj, fun e => hij e.symm, fun e => hNj e.symm⟩)
  have dl : denS E' cs' (la ++ (lb' ++ lc)) := hj' E' _ (denS_append (denS_mono le' _ _ hla) (denS_append hlb' (denS_mono le' _ _ hlc)))
  have zcs : sizeS cs' = sizeS cs := by
    have := denS_length dl
    simp only [List.length_append] at this
    omega
  have pnt : ∀ j, j < sizeS cs + sp → (E.f i).b < w.heap.size := fun j hj => by
    rcases hp with h1 | ⟨_, h1⟩
    · exact h1
    · omega
  have keep : ∀ j, j < sizeS cs + sp → ¬ (sizeS a ≤ j ∧ j < sizeS a + sizeS b) → w'.cell? ⟨(E.f i).b, (E.f i).o + j, none⟩ = w.cell? ⟨(E.f i).b, (E.f i).o + j, none⟩ := fun j hj hno =>
    (N'.cells _ _ (pnt j hj) (out1 (by omega) (by omega) (by omega))).1
  refine ⟨v, x, _, E', rfl, hd, ⟨?_, fun j B hj => ?_, fun j k A B hjk hj hk hA y z hcj => ?_⟩, ⟨?_, fun j hj => le'.2 j hj, N'.size, fun y hy hno => N'.frame y hy (fun o hm1 => hno o (mut1 hm1)), fun y z hy hno => N'.cells y z hy (fun hm1 => hno (mut1 hm1)), fun y z hm1 hy => ?_, N'.os, N'.tape, N'.output, N'.rows⟩, hk⟩
  · rw [S'.n]; simp [updB_eq]
  · rcases hF hj with rfl | ⟨h1, _, _⟩ | ⟨rfl, rfl⟩
    · trivial
    · exact S'.ok j B h1
    · rw [fi]
      refine ⟨?_, ⟨_, dl, fun k v hk => ?_⟩, fun hmm k hk => ?_⟩
      · rcases hp with h1 | ⟨h1, h2⟩
        · exact .inl (by have := N'.size; omega)
        · exact .inr ⟨h1, by omega⟩
      · have hkl : k < sizeS cs := by
          rcases Nat.lt_or_ge k (la ++ (lb' ++ lc)).length with h1 | h1
          · simp only [List.length_append] at h1; omega
          · rw [List.getElem?_eq_none h1] at hk; cases hk
        by_cases hin : sizeS a ≤ k ∧ k < sizeS a + sizeS b
        · have h1 := hcb' (k - sizeS a) v (by
            rw [List.getElem?_append_right (by omega), List.getElem?_append_left (by omega), za] at hk
            exact hk)
          rw [fN] at h1
          simp only [partP, Nat.add_assoc] at h1
          rwa [show sizeS a + (k - sizeS a) = k by omega] at h1
        · rw [keep k (by omega) hin]
          refine hc k v ?_
          by_cases h1 : k < sizeS a
          · rw [List.getElem?_append_left (by omega)] at hk ⊢; exact hk
          · rw [List.getElem?_append_right (by omega), List.getElem?_append_right (by omega)] at hk ⊢
            rw [show k - la.length - lb.length = k - la.length - lb'.length by omega]
            exact hk
      · rw [zcs] at hk
        by_cases hin : sizeS a ≤ k ∧ k < sizeS a + sizeS b
        · have h1 := hmb' hmm (k - sizeS a) (by omega)
          rw [fN] at h1
          simp only [partP, Nat.add_assoc] at h1
          rwa [show sizeS a + (k - sizeS a) = k by omega] at h1
        · rw [keep k hk hin]
          obtain ⟨h1, h2⟩ := hm hmm k hk
          exact ⟨h1, N'.rows _ (pnt k hk) h2⟩
  · -- apart
    have one : ∀ {k : Nat} {B : Blk}, h'[k]? = some B → k ≠ i → k ≠ h.length → (m = true ∨ B.mut = true) → ∀ {y z : Nat}, cov (E.f i) (.cells m cs' sp) y z → ¬ cov (E'.f k) B y z := fun {k B} hB hki hkN hmB {y z} hcv hcv' => by
      simp only [cov, zcs] at hcv
      obtain ⟨rfl, hz1, hz2⟩ := hcv
      by_cases hin : (E.f i).o + sizeS a ≤ z ∧ z < (E.f i).o + sizeS a + sizeS b
      · have hcN : cov (E'.f h.length) (.cells m b' 0) (E.f i).b z := by
          rw [fN]; exact ⟨rfl, hin.1, by simp only [partP]; omega⟩
        rcases hmB with hmm | hmm
        · exact S'.dis h.length k _ B (Ne.symm hkN) hN' hB hmm _ _ hcN hcv'
        · exact S'.dis k h.length B _ hkN hB hN' hmm _ _ hcv' hcN
      · have hno := out1 hz1 hz2 hin
        have hbl := pnt 0 (by omega)
        rcases roOk_get hro k B hB with h1 | rfl | h1
        · exact hno (N'.new _ _ ⟨k, B, hB, h1, hcv'⟩ hbl)
        · exact hcv'
        · rcases hH h1 with rfl | ⟨k1, k2, k3, k4⟩ | ⟨k1, _, _⟩
          · exact hcv'
          · rw [N'.same k (by simp [Emb.push]; omega), k2] at hcv'
            rcases hmB with hmm | hmm
            · exact S.dis i k _ B (Ne.symm k3) hi' k1 hmm _ _ ⟨rfl, hz1, hz2⟩ hcv'
            · exact S.dis k i B _ k3 k1 hi' hmm _ _ hcv' ⟨rfl, hz1, hz2⟩
          · exact hkN k1
    rcases hF hj with rfl | ⟨h1, h2, h3⟩ | ⟨rfl, rfl⟩
    · simp [Blk.mut] at hA
    · rcases hF hk with rfl | ⟨k1, k2, k3⟩ | ⟨rfl, rfl⟩
      · intro h'; exact h'
      · exact S'.dis j k A B hjk h1 k1 hA y z hcj
      · rw [fi]; intro hcv; exact one h1 h2 h3 (.inr hA) hcv hcj
    · rcases hF hk with rfl | ⟨k1, k2, k3⟩ | ⟨rfl, rfl⟩
      · intro h'; exact h'
      · rw [fi] at hcj; exact one k1 k2 k3 (.inl hA) hcj
      · exact absurd rfl hjk
  · simp only [updB_eq, List.length_set]
    have := N'.len
    simp only [List.length_append, hUl, List.length_singleton] at this
    omega
  · obtain ⟨k, B, hB, hBm, hcv⟩ := hm1
    rcases hF hB with rfl | ⟨h1, _, _⟩ | ⟨rfl, rfl⟩
    · simp [Blk.mut] at hBm
    · exact mut1 (N'.new y z ⟨k, B, h1, hBm, hcv⟩ hy)
    · rw [fi] at hcv
      refine ⟨_, _, hi', hBm, ?_⟩
      simpa only [cov, zcs] using hcv

theorem part_mut {E : Emb} {h : List Blk} {w : World} {i : Nat} {m : Bool} {cs a b c : List Seg} {sp : Nat} (S : Sim E h w) (hi : nthB h i = some (.cells m cs sp))
    (hs : ∀ E l, denS E cs l → denS E (a ++ (b ++ c)) l) : ∀ x y, mutAt (E.push (partP E i (sizeS a))) (updB h i .dead ++ [.cells m b 0]) x y → mutAt E h x y := by
  rintro x y ⟨j, B, hj, hB, hcv⟩
  have hi' := nthB_get hi
  have hlt := lt_of_get hi'
  obtain ⟨hp, ⟨l, hl, hc⟩, hm⟩ := S.ok i _ hi'
  obtain ⟨la, lr, rfl, hla, hlr⟩ := denS_split (hs E l hl)
  obtain ⟨lb, lc, rfl, hlb, hlc⟩ := denS_split hlr
  have za := denS_length hla
  have zb := denS_length hlb
  have zc := denS_length hlc
  have zl := denS_length hl
  simp only [List.length_append] at zl
  have hn := S.n
  rcases getElem?_push_cases hj with ⟨h1, h2⟩ | ⟨h1, h2⟩
  · rw [updB_eq, List.length_set] at h2
    rw [Emb.push_old _ _ (by omega)] at hcv
    rw [updB_eq] at h1
    by_cases hij : i = j
    · subst hij
      rw [List.getElem?_set_self hlt] at h1
      simp only [Option.some.injEq] at h1
      subst h1
      cases hB
    · rw [List.getElem?_set_ne hij] at h1
      exact ⟨j, B, h1, hB, hcv⟩
  · rw [updB_eq, List.length_set] at h1
    subst h1
    subst h2
    rw [← hn, Emb.push_new] at hcv
    refine ⟨i, _, hi', hB, ?_⟩
    simp only [cov, partP] at hcv ⊢
    omega
/-- **A call that is handed a part of a block.** -/
theorem Does.part {T : Tbl} {f : FuncId} {args args' : List EV} {h : List Blk} {Q K : EV → List Blk → Prop} (i : Nat) {m : Bool} {cs : List Seg} {sp : Nat} (a b c : List Seg) (hi : nthB h i = some (.cells m cs sp))
    (hs : ∀ E l, denS E cs l → denS E (a ++ (b ++ c)) l) (ha : partT i h.length (sizeS a) args args') (d : Does T f args' (updB h i .dead ++ [.cells m b 0]) Q)
    (hK : ∀ v h', Q v h' → PartOk (updB h i .dead ++ [.cells m b 0]) i h.length m a b c sp K v h') : Does T f args h K := by
  refine ⟨?_⟩
  rcases d.go with ⟨h1, h2⟩ | h1
  · refine .inl ⟨h1, fun E w vs S Z hv => ?_⟩
    have hn := S.n
    exact (h2 _ w vs (part_sim S hi hs) (Z.sub (part_mut S hi hs)) (partT_den (by rw [hn]; exact ha) hv)).mono fun e w' p => part_post S hi hs hK p
  · refine .inr fun E w vs S hv => ?_
    have hn := S.n
    obtain ⟨u, w', h2, h3⟩ := h1 _ w vs (part_sim S hi hs) (partT_den (by rw [hn]; exact ha) hv)
    exact ⟨u, w', h2, part_post S hi hs hK h3⟩

end Go.Anv

/- The engine, part 16: contracts that go on: over whatever heap, the answer handed to what follows. Plain theorems, no condition. -/
namespace Go.Anv
open Go

/-- How many blocks there are. -/
def lenK (l : List Blk) : Nat → (Nat → Prop) → Prop :=
  List.rec (motive := fun _ => Nat → (Nat → Prop) → Prop) (fun n k => k n) (fun _ _ ih n k => ih (n + 1) k) l

theorem lenK_eq : ∀ (l : List Blk) (n : Nat) (k : Nat → Prop), lenK l n k = k (n + l.length)
  | [], _, _ => rfl
  | _ :: r, n, k => by
    show lenK r (n + 1) k = _
    rw [lenK_eq r]
    simp only [List.length_cons]
    rw [show n + 1 + r.length = n + (r.length + 1) by omega]

/-- Blocks behind the others. -/
def appBK (l r : List Blk) : (List Blk → Prop) → Prop :=
  List.rec (motive := fun _ => (List Blk → Prop) → Prop) (fun k => k r) (fun x _ ih k => ih fun h => k (x :: h)) l

theorem appBK_eq : ∀ (l r : List Blk) (k : List Blk → Prop), appBK l r k = k (l ++ r)
  | [], _, _ => rfl
  | x :: l, r, k => by
    show (appBK l r fun h => k (x :: h)) = _
    rw [appBK_eq l]
    rfl

/-- A cell of some cells, and what they are with another in its place. -/
def CellAt (cs : List Seg) (o : Nat) (e : SV) (cs' : List Seg) (e' : SV) : Prop :=
  ∃ a c, sizeS a = o ∧ (∀ E l, denS E cs l → denS E (a ++ ([.one e] ++ c)) l) ∧ ∀ E l, denS E (a ++ ([.one e'] ++ c)) l → denS E cs' l

theorem CellAt.cons_one {cs cs' : List Seg} {o : Nat} {e e' v : SV} (h : CellAt cs o e cs' e') : CellAt (.one v :: cs) (o + 1) e (.one v :: cs') e' := by
  obtain ⟨a, c, h1, h2, h3⟩ := h
  refine ⟨.one v :: a, c, by simp [sizeS, h1], fun E l hd => ?_, fun E l hd => ?_⟩
  · simp only [denS, List.cons_append] at hd ⊢
    obtain ⟨u, l', rfl, k1, k2⟩ := hd
    exact ⟨u, l', rfl, k1, h2 E l' k2⟩
  · simp only [denS, List.cons_append] at hd ⊢
    obtain ⟨u, l', rfl, k1, k2⟩ := hd
    exact ⟨u, l', rfl, k1, h3 E l' k2⟩

theorem CellAt.cons_ints {cs cs' : List Seg} {o : Nat} {e e' : SV} {k : IntKind} {n : Nat} {f : Nat → Int} (h : CellAt cs o e cs' e') : CellAt (.ints k n f :: cs) (n + o) e (.ints k n f :: cs') e' := by
  obtain ⟨a, c, h1, h2, h3⟩ := h
  refine ⟨.ints k n f :: a, c, by simp [sizeS, h1], fun E l hd => ?_, fun E l hd => ?_⟩
  · simp only [denS, List.cons_append] at hd ⊢
    obtain ⟨l', rfl, k2⟩ := hd
    exact ⟨l', rfl, h2 E l' k2⟩
  · simp only [denS, List.cons_append] at hd ⊢
    obtain ⟨l', rfl, k2⟩ := hd
    exact ⟨l', rfl, h3 E l' k2⟩

theorem cell_one : ∀ {cs cs' : List Seg} {o : Nat} {e e' : SV}, getS cs o = some e → setS cs o e' = some cs' → CellAt cs o e cs' e'
  | [], _, _, _, _, h, _ => by simp [getS] at h
  | .one v :: r, cs', 0, e, e', h, h' => by
    simp only [getS, Option.some.injEq] at h
    simp only [setS, Option.some.injEq] at h'
    subst h; subst h'
    exact ⟨[], r, rfl, fun _ _ h => h, fun _ _ h => h⟩
  | .one v :: r, cs', o + 1, e, e', h, h' => by
    simp only [getS] at h
    simp only [setS, Option.map_eq_some_iff] at h'
    obtain ⟨c, hc, rfl⟩ := h'
    exact (cell_one h hc).cons_one
  | .ints k n f :: r, cs', o, e, e', h, h' => by
    unfold getS at h
    unfold setS at h'
    split at h
    · rw [if_neg (by omega)] at h'
      cases h'
    · rename_i ho
      rw [if_pos (by omega)] at h'
      simp only [Option.map_eq_some_iff] at h'
      obtain ⟨c, hc, rfl⟩ := h'
      have := (cell_one h hc).cons_ints (k := k) (n := n) (f := f)
      rwa [show n + (o - n) = o by omega] at this

theorem intsOf_split (k : IntKind) {n j : Nat} (f : Nat → Int) (h : j < n) : intsOf k n f = intsOf k j f ++ (.int k (f j) :: intsOf k (n - j - 1) (fun i => f (j + 1 + i))) := by
  obtain ⟨m, rfl⟩ : ∃ m, n = j + (m + 1) := ⟨n - j - 1, by omega⟩
  have e : j + (m + 1) - j - 1 = m := by omega
  rw [e]
  simp only [intsOf]
  rw [List.range_add, List.map_append, List.map_map, List.range_succ_eq_map]
  congr 1
  simp only [List.map_cons, List.map_map, Function.comp_def, Nat.add_zero]
  congr 1
  refine List.map_congr_left fun i _ => ?_
  simp only [Nat.succ_eq_add_one]
  rw [show j + (i + 1) = j + 1 + i by omega]

theorem cell_ints_head (k : IntKind) {n j : Nat} (f g : Nat → Int) (r : List Seg) (hj : j < n) (hg : ∀ i, i < n → i ≠ j → f i = g i) : CellAt (.ints k n f :: r) j (.int k (f j)) (.ints k n g :: r) (.int k (g j)) := by
  refine ⟨[.ints k j f], .ints k (n - j - 1) (fun i => f (j + 1 + i)) :: r, by simp [sizeS], fun E l hd => ?_, fun E l hd => ?_⟩
  · simp only [denS, List.cons_append, List.nil_append, denV] at hd ⊢
    obtain ⟨l', rfl, k2⟩ := hd
    rw [intsOf_split k f hj]
    exact ⟨_, by rw [List.append_assoc, List.cons_append], _, _, rfl, rfl, l', rfl, k2⟩
  · simp only [denS, List.cons_append, List.nil_append, denV] at hd ⊢
    obtain ⟨l1, rfl, v, l2, rfl, rfl, l3, rfl, k2⟩ := hd
    refine ⟨l3, ?_, k2⟩
    rw [intsOf_split k g hj, List.append_assoc, intsOf_congr (f := f) (g := g) (fun i hi => hg i (by omega) (by omega)), intsOf_congr (f := fun i => f (j + 1 + i)) (g := fun i => g (j + 1 + i)) (fun i hi => hg _ (by omega) (by omega))]
    rfl

theorem cell_ints : ∀ {cs : List Seg} {o j : Nat} {k : IntKind} {n : Nat} {f : Nat → Int}, getI cs o = some (k, n, f) → j < n → CellAt cs (o + j) (.int k (f j)) cs (.int k (f j))
  | [], _, _, _, _, _, h, _ => by simp [getI] at h
  | .one v :: r, 0, j, k, n, f, h, hj => by simp [getI] at h
  | .one v :: r, o + 1, j, k, n, f, h, hj => by
    simp only [getI] at h
    have := (cell_ints (j := j) h hj).cons_one (v := v)
    rwa [show o + j + 1 = o + 1 + j by omega] at this
  | .ints q m g :: r, o, j, k, n, f, h, hj => by
    cases o with
    | zero =>
      simp only [getI, Option.some.injEq, Prod.mk.injEq] at h
      obtain ⟨rfl, rfl, rfl⟩ := h
      rw [Nat.zero_add]
      exact cell_ints_head _ _ _ r hj (fun _ _ _ => rfl)
    | succ o =>
      unfold getI at h
      split at h
      · rename_i ho
        have := (cell_ints (j := j) h hj).cons_ints (k := q) (n := m) (f := g)
        rwa [show m + (o + 1 - m + j) = o + 1 + j by omega] at this
      · cases h

theorem cell_setI : ∀ {cs cs' : List Seg} {o j : Nat} {k : IntKind} {n : Nat} {f : Nat → Int} {x : Int}, getI cs o = some (k, n, f) → j < n → setI cs o j k x = some cs' → CellAt cs (o + j) (.int k (f j)) cs' (.int k x)
  | [], _, _, _, _, _, _, _, h, _, _ => by simp [getI] at h
  | .one v :: r, _, 0, j, k, n, f, x, h, hj, _ => by simp [getI] at h
  | .one v :: r, cs', o + 1, j, k, n, f, x, h, hj, h' => by
    simp only [getI] at h
    simp only [setI, Option.map_eq_some_iff] at h'
    obtain ⟨c, hc, rfl⟩ := h'
    have := (cell_setI (j := j) h hj hc).cons_one (v := v)
    rwa [show o + j + 1 = o + 1 + j by omega] at this
  | .ints q m g :: r, cs', o, j, k, n, f, x, h, hj, h' => by
    cases o with
    | zero =>
      simp only [getI, Option.some.injEq, Prod.mk.injEq] at h
      obtain ⟨rfl, rfl, rfl⟩ := h
      simp only [setI, if_true, Option.some.injEq] at h'
      subst h'
      rw [Nat.zero_add]
      have := cell_ints_head q g (fun i => if i = j then x else g i) r hj (fun i _ hi => by simp [hi])
      simpa using this
    | succ o =>
      unfold getI at h
      split at h
      · rename_i ho
        unfold setI at h'
        rw [if_pos ho] at h'
        simp only [Option.map_eq_some_iff] at h'
        obtain ⟨c, hc, rfl⟩ := h'
        have := (cell_setI (j := j) h hj hc).cons_ints (k := q) (n := m) (f := g)
        rwa [show m + (o + 1 - m + j) = o + 1 + j by omega] at this
      · cases h

theorem nthB_app_lt {h r : List Blk} {i : Nat} {B : Blk} (hi : nthB h i = some B) : nthB (h ++ r) i = some B := nthB_app hi
theorem nthB_len : ∀ (h : List Blk) (B : Blk) (r : List Blk), nthB (h ++ B :: r) h.length = some B
  | [], _, _ => rfl
  | _ :: h, B, r => by simp only [List.cons_append, List.length_cons, nthB]; exact nthB_len h B r
theorem nthB_upd_ne : ∀ {h : List Blk} {i j : Nat} {A B : Blk}, nthB h i = some A → i ≠ j → nthB (updB h j B) i = some A
  | [], _, _, _, _, h, _ => by simp [nthB] at h
  | _ :: _, 0, 0, _, _, _, hn => absurd rfl hn
  | _ :: _, 0, j + 1, _, _, h, _ => h
  | _ :: _, i + 1, 0, _, _, h, _ => h
  | _ :: r, i + 1, j + 1, _, _, h, hn => by simp only [nthB, updB] at h ⊢; exact nthB_upd_ne h (fun e => hn (by rw [e]))
theorem nthB_upd_eq : ∀ {h : List Blk} {i : Nat} {A B : Blk}, nthB h i = some A → nthB (updB h i B) i = some B
  | [], _, _, _, h => by simp [nthB] at h
  | _ :: _, 0, _, _, _ => rfl
  | _ :: r, i + 1, _, _, h => by simp only [nthB, updB] at h ⊢; exact nthB_upd_eq h
theorem len_updB : ∀ (h : List Blk) (b : Nat) (B : Blk), (updB h b B).length = h.length
  | [], _, _ => rfl
  | _ :: _, 0, _ => rfl
  | _ :: r, b + 1, B => by simp [updB, len_updB r b B]
theorem nthB_lt {h : List Blk} {i : Nat} {B : Blk} (hi : nthB h i = some B) : i < h.length := lt_of_get (nthB_get hi)

end Go.Anv
