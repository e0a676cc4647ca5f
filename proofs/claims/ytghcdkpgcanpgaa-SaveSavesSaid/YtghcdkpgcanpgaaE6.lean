/- The engine, part 6: the operations with an effect, and the walker as a whole. Plain theorems; their conditions are the table's own facts. -/
import Derived.Test.YtghcdkpgcanpgaaE5c
import Derived.Laws.Tables
namespace Go.Anv
open Go

/-! ### frames -/

theorem nth_upd : ∀ (ts : List EV) (d i : Nat) (v : EV), nth (upd ts d v) i = if i = d ∧ d < ts.length then v else nth ts i
  | [], d, i, v => by simp [upd, nth]
  | x :: r, 0, 0, v => by simp [upd, nth]
  | x :: r, 0, i + 1, v => by simp [upd, nth]
  | x :: r, d + 1, 0, v => by simp [upd, nth]
  | x :: r, d + 1, i + 1, v => by simp [upd, nth, nth_upd r d i v]

theorem length_upd : ∀ (ts : List EV) (d : Nat) (v : EV), (upd ts d v).length = ts.length
  | [], _, _ => rfl
  | x :: r, 0, v => by simp [upd]
  | x :: r, d + 1, v => by simp [upd, length_upd r d v]

theorem frameOk_mono {E E' : Emb} (h : E.le E') {ts : List EV} {a : Array Value} (f : frameOk E ts a) : frameOk E' ts a :=
  ⟨f.1, fun i v hi => denE_mono h _ _ (f.2 i v hi)⟩

theorem frameOk_put {E : Emb} {s : St} {a : Act} (f : frameOk E s.tmps a.tmps) (dst : Option Tmp) {v : EV} {u : Value} (hv : denE E v u) :
    frameOk E (s.put dst v).tmps (a.put dst u).tmps := by
  cases dst with
  | none => exact f
  | some d =>
    refine ⟨by simp [St.put, Act.put, length_upd, f.1], fun i x hi => ?_⟩
    simp only [St.put, Act.put] at hi ⊢
    rw [nth_upd]
    rw [Array.getElem?_setIfInBounds] at hi
    by_cases hid : d = i
    · subst hid
      rw [if_pos rfl] at hi
      split at hi
      · rename_i hlt
        simp only [Option.some.injEq] at hi
        subst hi
        rw [if_pos ⟨rfl, by rw [← f.1]; exact hlt⟩]
        exact hv
      · cases hi
    · rw [if_neg hid] at hi
      rw [if_neg (fun e => hid e.1.symm)]
      exact f.2 i x hi

theorem put_heap (s : St) (dst : Option Tmp) (v : EV) : (s.put dst v).heap = s.heap := by cases dst <;> rfl
theorem put_tmps (s : St) (h : List Blk) (dst : Option Tmp) (v : EV) : (({ s with heap := h } : St).put dst v).tmps = (s.put dst v).tmps := by cases dst <;> rfl
theorem put_defers (a : Act) (dst : Option Tmp) (v : Value) : (a.put dst v).defers = a.defers := by cases dst <;> rfl

theorem ev_den {E : Emb} {s : St} {a : Act} (f : frameOk E s.tmps a.tmps) (x : Operand) : denE E (s.ev x) (a.eval x) ∨ s.ev x = .junk := by
  cases x with
  | tmp t =>
    simp only [St.ev, evT, Act.eval]
    rcases Nat.lt_or_ge t a.tmps.size with h | h
    · left
      have := f.2 t _ (Array.getElem?_eq_getElem h)
      simpa [Array.getElem?_eq_getElem h] using this
    · right
      have hl : s.tmps.length ≤ t := by rw [← f.1]; exact h
      have key : ∀ (l : List EV) (t : Nat), l.length ≤ t → nth l t = .junk := fun l => by
        induction l with
        | nil => intro t _; rfl
        | cons x r ih =>
          intro t ht
          cases t with
          | zero => simp at ht
          | succ t => simp only [nth]; exact ih t (by simpa using ht)
      exact key _ _ hl
  | const v =>
    simp only [St.ev, evT, Act.eval]
    split
    · rename_i e he
      left
      unfold constV at he
      split at he <;> first
        | (cases he; done)
        | (simp only [Option.some.injEq] at he; subst he; simp only [denE, denV]; done)
        | (simp only [Option.some.injEq] at he; subst he; simp only [denE, denV])
    · right; rfl
  | global g => right; rfl
  | func f =>
    left
    simp only [St.ev, evT, Act.eval, denE, denV]
    exact ⟨_, _, rfl, by simp [denL], by simp [denL]⟩

theorem ev_denE {E : Emb} {s : St} {a : Act} (f : frameOk E s.tmps a.tmps) (x : Operand) : denE E (s.ev x) (a.eval x) := by
  rcases ev_den f x with h | h
  · exact h
  · rw [h]; simp only [denE]

/-! ### a state goes on -/

theorem Rel.put {O : Org} {E : Emb} {s : St} {a : Act} {w : World} (R : Rel O E s a w) (dst : Option Tmp) {v : EV} {u : Value} (hv : denE E v u) : Rel O E (s.put dst v) (a.put dst u) w :=
  ⟨frameOk_put R.fr dst hv, by rw [put_defers]; exact R.df, by rw [put_heap]; exact R.sim, by rw [put_heap]; exact R.sin⟩

/-- To a later world. -/
theorem Rel.on {O : Org} (on : O.E.n = O.h.length) {E E' : Emb} {s : St} {h' : List Blk} {a : Act} {w w' : World} (R : Rel O E s a w) (S : Sim E' h' w') (N : Since E s.heap w E' h' w') : Rel O E' { s with heap := h' } a w' :=
  ⟨frameOk_mono (N.le R.sim.n S.n) R.fr, R.df, S, R.sin.trans on R.sim.n N⟩

/-- Cells are stored into a block that may be written. -/
theorem run_storeAt (T : Tbl) {E : Emb} {h : List Blk} {w : World} (S : Sim E h w) {t : TypeId} {i : TI} (ht : T.ty t = some i) {b o : Nat} {cs cs' : List Seg} {sp : Nat} (hb : h[b]? = some (.cells true cs sp))
    {v : Value} (hsz : v.cells.size = i.size)
    (hput : ∀ l, denS E cs l → denS E cs' (l.take o ++ (v.cells.toList ++ l.drop (o + v.cells.toList.length))) ∧ sizeS cs' = sizeS cs ∧ o + v.cells.toList.length ≤ sizeS cs)
    (hone : ∀ x ∈ v.cells.toList, x.oneCell' = true) :
    ∃ w', (Instr.storeAt t (.pointer (some (E.at b o))) v).run T.P w = .ok () w' ∧ Sim E (h.set b (.cells true cs' sp)) w' ∧ Since E h w E (h.set b (.cells true cs' sp)) w' := by
  obtain ⟨l, hl, hw, _⟩ := S.look hb
  obtain ⟨h1, h2, h3⟩ := hput l hl
  obtain ⟨_, _, hm⟩ := S.ok b _ hb
  have hm := hm rfl
  have h4 := run_sizeOf_ti T ht w
  refine ⟨_, ?_, S.store hb hl hw h1 h2 h3, Since.store hb h2 h3⟩
  have h5 := run_storeCells_cells (P := T.P) (E.f b).1 ((E.f b).2 + o) v.cells.toList 0 w (fun j hj => by
      obtain ⟨⟨x, hx⟩, _⟩ := hm (o + j) (by omega)
      rw [Nat.add_zero, Nat.add_assoc, hx]; rfl) (fun j hj => by
      obtain ⟨⟨x, hx⟩, hr⟩ := hm (o + j) (by omega)
      rw [Nat.add_zero, Nat.add_assoc]; exact hr.frozen hx) hone
  simp only [Nat.add_zero] at h5
  simp only [Instr.storeAt, Instr.sureAddr, pure_bind, storeVar, Sem.run_bind, h4, Result.andThen_ok, hsz, ne_eq, not_true_eq_false, if_false]
  exact h5


theorem list_set_eq {l : List Value} {o : Nat} (v : Value) (h : o < l.length) : l.set o v = l.take o ++ ([v] ++ l.drop (o + [v].length)) := by
  rw [List.set_eq_take_append_cons_drop, if_pos h]
  rfl

theorem storeX_snd (T : Tbl) {E : Emb} {w : World} {h : List Blk} (S : Sim E h w) {t : TypeId} {x v : EV} {xv vv : Value} (hx : denE E x xv) (hv : denE E v vv) {k : List Blk → Prop} (hk : storeX T t x v h k) :
    ∃ h' w', (Instr.storeAt t xv vv).run T.P w = .ok () w' ∧ k h' ∧ Sim E h' w' ∧ Since E h w E h' w' := by
  unfold storeX at hk
  simp only [forceS_eq, updBK_eq] at hk
  split at hk
  · rename_i i b o ht
    simp only [denE, denV] at hx
    obtain ⟨_, rfl⟩ := hx
    split at hk
    · rename_i cs sp u h1 h2
      have hcells := segsOf_den hv h2
      split at hk
      · rename_i cs' hsz hset
        simp only [denS] at hcells
        obtain ⟨z, l', hz, hzd, rfl⟩ := hcells
        have hb := nthB_get h1
        rw [updB_eq] at hk
        obtain ⟨w', h3, h4, h5⟩ := run_storeAt T S ht (o := o) (cs' := cs') hb (v := vv) (by rw [← Array.length_toList, hz, hsz]; rfl) (fun l hl => by
          rw [hz]
          obtain ⟨k1, k2, k3⟩ := setS_den hl hzd hset
          refine ⟨?_, k2, k3⟩
          rw [← list_set_eq z (by rw [denS_length hl]; exact k3)]
          exact k1) (fun y hy => by rw [hz] at hy; simp at hy; subst hy; exact denV_oneCell hzd)
        exact ⟨_, w', h3, hk, h4, h5⟩
      · exact hk.elim
    · rename_i cs sp new hnot h1 h2
      have hcells := segsOf_den hv h2
      split at hk
      · rename_i cs' hput
        obtain ⟨hsz, hk⟩ := hk
        have hb := nthB_get h1
        rw [updB_eq] at hk
        obtain ⟨w', h3, h4, h5⟩ := run_storeAt T S ht (o := o) (cs' := cs') hb (v := vv) (by rw [← hsz, ← denS_length hcells]; simp) (fun l hl => putS_den hl hcells hput)
          (fun y hy => denS_oneCell hcells y hy)
        exact ⟨_, w', h3, hk, h4, h5⟩
      · exact hk.elim
    · exact hk.elim
  · rename_i i b o j ht
    simp only [denE, denV] at hx
    obtain ⟨_, rfl⟩ := hx
    split at hk
    · rename_i q x cs sp h1
      simp only [denE, denV] at hv
      subst hv
      split at hk
      · rename_i q' n f cs' hsz hget hset
        obtain ⟨hj, hk⟩ := hk
        have hb := nthB_get h1
        rw [updB_eq] at hk
        obtain ⟨w', h3, h4, h5⟩ := run_storeAt T S ht (o := o + j) (cs' := cs') hb (v := .int q x) (by rw [hsz]; rfl) (fun l hl => by
          obtain ⟨k1, k2, k3⟩ := setI_den hl hset (fun k' n' f' hg => by rw [hg] at hget; simp only [Option.some.injEq, Prod.mk.injEq] at hget; rw [hget.2.1]; exact hj)
          refine ⟨?_, k2, k3⟩
          have := list_set_eq (Value.int q x) (show o + j < l.length by rw [denS_length hl]; exact k3)
          simp only [Value.cells] at *
          rw [← this]
          exact k1) (fun y hy => by simp [Value.cells] at hy; subst hy; rfl)
        exact ⟨_, w', h3, hk, h4, h5⟩
      · exact hk.elim
    · exact hk.elim
  · exact hk.elim

/-! ### new blocks, built values -/

theorem new_snd {E : Emb} {h : List Blk} {w : World} (S : Sim E h w) (t : TypeId) {cs : List Seg} {v : Value} (hd : denS E cs v.cells.toList) :
    Sim (E.push ⟨w.heap.size, 0, false⟩) (h ++ [Blk.cells true cs 0]) (w.alloc (.cells v.cells t)) ∧ Since E h w (E.push ⟨w.heap.size, 0, false⟩) (h ++ [Blk.cells true cs 0]) (w.alloc (.cells v.cells t)) := by
  have hN := okBlk_new (E := E) (w := w) (m := true) t hd
  rw [Array.toArray_toList] at hN
  exact ⟨S.push _ _ hN, Since.push S _ _⟩

theorem push_at (E : Emb) (w : World) : (E.push ⟨w.heap.size, 0, false⟩).at E.n 0 = ⟨w.heap.size, 0, none⟩ := by
  simp [Emb.at, Emb.push_new]

theorem places_spec (T : Tbl) (w : World) : ∀ {fs : List Field} {ps : List (Nat × Nat)}, places T (fs.map fun f => (f.type, f.offset)) = some ps →
    (fs.mapM fun f => Prod.mk f.offset <$> sizeOf f.type).run T.P w = .ok ps w
  | [], ps, h => by
    simp only [List.map_nil, places, Option.some.injEq] at h
    subst h
    rfl
  | f :: fs, ps, h => by
    simp only [List.map_cons, places] at h
    split at h
    · rename_i ti qs h1 h2
      simp only [Option.some.injEq] at h
      subst h
      have ih := places_spec T w h2
      have hs := run_sizeOf_ti T h1 w
      simp [List.mapM_cons, hs, ih]
    · cases h

theorem nthP_get : ∀ {ps : List (Nat × Nat)} {i : Nat}, nthP ps i = ps[i]?
  | [], i => by simp [nthP]
  | x :: r, 0 => by simp [nthP]
  | x :: r, i + 1 => by simp [nthP, nthP_get (ps := r) (i := i)]

/-- The parts of a struct or an array, laid over its cells. -/
theorem foldl_set (l : List Value) : ∀ (vs : List Value) (o n : Nat) (cs : Array Value), cs.toList = l → o + n + vs.length ≤ l.length →
    ((vs.zipIdx n).foldl (fun cs (p : Value × Nat) => cs.setIfInBounds (o + p.2) p.1) cs).toList = l.take (o + n) ++ (vs ++ l.drop (o + n + vs.length))
  | [], o, n, cs, h, _ => by simp [h]
  | v :: vs, o, n, cs, h, hl => by
    simp only [List.zipIdx_cons, List.foldl_cons]
    have hlt : o + n < l.length := by simp at hl; omega
    have hset : (cs.setIfInBounds (o + n) v).toList = l.set (o + n) v := by simp [h]
    rw [foldl_set (l.set (o + n) v) vs o (n + 1) _ hset (by simp at hl ⊢; omega)]
    rw [show o + (n + 1) = o + n + 1 by omega, List.take_add_one, List.getElem?_set_self hlt, List.take_set_of_le (by omega), List.drop_set_of_lt (by omega)]
    simp
    congr 1
    omega

theorem fill_snd {E : Emb} (place : Nat → Option (Nat × Nat)) : ∀ {parts : List (Nat × EV)} {vals : List (Nat × Value)} {cs cs' : List Seg} {arr : Array Value},
    denS E cs arr.toList → (vals.map (·.1) = parts.map (·.1)) → denT E (parts.map (·.2)) (vals.map (·.2)) → fillX place cs parts = some cs' →
    ∃ arr', Instr.fill place arr vals = some arr' ∧ denS E cs' arr'.toList
  | [], vals, cs, cs', arr, hd, hv, _, h => by
    cases vals with
    | nil =>
      simp only [fillX, Option.some.injEq] at h
      subst h
      exact ⟨arr, rfl, hd⟩
    | cons x r => simp at hv
  | (i, e) :: parts, vals, cs, cs', arr, hd, hv, ht, h => by
    cases vals with
    | nil => simp at hv
    | cons x vals =>
      obtain ⟨i', v⟩ := x
      simp only [List.map_cons, List.cons.injEq] at hv
      obtain ⟨hi, hv⟩ := hv
      subst hi
      simp only [List.map_cons, denT] at ht
      obtain ⟨v', l', heq, he, ht⟩ := ht
      simp only [List.cons.injEq] at heq
      obtain ⟨rfl, rfl⟩ := heq
      unfold fillX at h
      cases hp : place i' with
      | none => rw [hp] at h; cases h
      | some p =>
        obtain ⟨off, size⟩ := p
        rw [hp] at h
        simp only at h
        have hlen := denS_length hd
        -- a step: the cells of v over the row
        have step : ∀ c, sizeS c = sizeS cs → off + v.cells.toList.length ≤ sizeS cs → v.cells.toList.length = size →
            denS E c (arr.toList.take off ++ (v.cells.toList ++ arr.toList.drop (off + v.cells.toList.length))) → fillX place c parts = some cs' →
            ∃ arr', Instr.fill place arr ((i', v) :: vals) = some arr' ∧ denS E cs' arr'.toList := fun c hc1 hc2 hc3 hc4 hc5 => by
          have hf := foldl_set arr.toList v.cells.toList off 0 arr rfl (by omega)
          have hrow : (v.cells.zipIdx.foldl (fun cs (c, j) => cs.setIfInBounds (off + j) c) arr).toList = arr.toList.take off ++ (v.cells.toList ++ arr.toList.drop (off + v.cells.toList.length)) := by
            rw [← Array.foldl_toList, Array.toList_zipIdx]
            simpa using hf
          obtain ⟨arr', h1, h2⟩ := fill_snd place (parts := parts) (vals := vals) (cs := c) (cs' := cs') (arr := v.cells.zipIdx.foldl (fun cs (c, j) => cs.setIfInBounds (off + j) c) arr)
            (by rw [hrow]; exact hc4) hv ht hc5
          refine ⟨arr', ?_, h2⟩
          simp only [Instr.fill, hp]
          rw [if_neg]
          · exact h1
          · simp only [Array.length_toList] at hc2 hc3 hlen
            simp only [ne_eq, gt_iff_lt, Bool.or_eq_true, decide_eq_true_eq, not_or, Decidable.not_not]
            omega
        have one : ∀ z : Value, z.oneCell' = true → z.cells.toList = [z] := fun z hz => by cases z <;> first | rfl | (simp [Value.oneCell'] at hz)
        have hset : ∀ u c, denV E u v → setS cs off u = some c → size = 1 → fillX place c parts = some cs' → ∃ arr', Instr.fill place arr ((i', v) :: vals) = some arr' ∧ denS E cs' arr'.toList := fun u c hu hc hs hf => by
          obtain ⟨k1, k2, k3⟩ := setS_den hd hu hc
          have h1 := one v (denV_oneCell hu)
          refine step c k2 (by rw [h1]; simp; omega) (by rw [h1, hs]; rfl) ?_ hf
          rw [h1, ← list_set_eq v (by omega)]
          exact k1
        cases e with
        | s u =>
          simp only [denE] at he
          cases u with
          | int k q =>
            simp only at h
            split at h
            · split at h
              · rename_i c hc
                exact hset _ c he hc rfl h
              · split at h
                · rename_i n0 f0 c hg0 hc
                  simp only [denV] at he
                  have hn : ∀ k' n f, getI cs off = some (k', n, f) → 0 < n := fun k' n f hg => by
                    rw [hg] at hg0
                    simp only [Option.some.injEq, Prod.mk.injEq] at hg0
                    omega
                  obtain ⟨k1, k2, k3⟩ := setI_den hd hc hn
                  simp only [Nat.add_zero] at k1 k3
                  subst he
                  refine step c k2 (by simp [Value.cells]; omega) rfl ?_ h
                  have := list_set_eq (Value.int k q) (show off < arr.toList.length by omega)
                  simp only [Value.cells] at *
                  rw [← this]
                  exact k1
                · cases h
            · cases h
          | _ =>
            simp only at h
            split at h
            · rename_i c hc
              exact hset _ c he hc rfl h
            · cases h
        | agg new =>
          simp only at h
          split at h
          · rename_i hsz
            split at h
            · rename_i c hc
              simp only [denE] at he
              obtain ⟨l, rfl, hl⟩ := he
              obtain ⟨k1, k2, k3⟩ := putS_den hd hl hc
              exact step c k2 k3 (by simp only [Value.cells]; rw [denS_length hl, hsz]) k1 h
            · cases h
          · cases h
        | tuple _ => simp at h
        | gd _ _ => simp at h
        | junk => simp at h


theorem buildX_snd (T : Tbl) {E : Emb} (w : World) {t : TypeId} {parts : Array (Nat × Operand)} {cs : List Seg} (ev : Operand → EV) (ρ : Operand → Value) (hev : ∀ x, denE E (ev x) (ρ x))
    (h : buildX T t (parts.toList.map fun p => (p.1, ev p.2)) = some cs) :
    ∃ arr, (Instr.build t (parts.map fun (i, x) => (i, ρ x))).run T.P w = .ok (.agg arr) w ∧ denS E cs arr.toList := by
  have hvals : ((parts.map fun (i, x) => (i, ρ x)).toList.map (·.1)) = ((parts.toList.map fun p => (p.1, ev p.2)).map (·.1)) := by simp
  have hden : denT E ((parts.toList.map fun p => (p.1, ev p.2)).map (·.2)) ((parts.map fun (i, x) => (i, ρ x)).toList.map (·.2)) := by
    simp only [Array.toList_map, List.map_map]
    have key : ∀ l : List (Nat × Operand), denT E (l.map ((fun x => x.2) ∘ fun p => (p.1, ev p.2))) (l.map ((fun x => x.2) ∘ fun x => (x.1, ρ x.2))) := fun l => by
      induction l with
      | nil => simp [denT]
      | cons p l ih => simp only [List.map_cons, denT, Function.comp]; exact ⟨_, _, rfl, hev p.2, ih⟩
    exact key _
  unfold buildX at h
  split at h
  · rename_i fs sz by_ z ht
    have hd := (T.tyOk _ _ ht).desc
    obtain ⟨a, ha, hm⟩ := hd
    obtain ⟨zv, hz, hzd⟩ := run_zero_ti T ht w
    split at h
    · rename_i ps hps
      have hzz := hzd E
      simp only [denE] at hzz
      obtain ⟨zl, rfl, hzl⟩ := hzz
      rw [← hm] at hps
      have hpl := places_spec T w hps
      obtain ⟨arr, h1, h2⟩ := fill_snd (nthP ps) (parts := parts.toList.map fun p => (p.1, ev p.2)) (vals := (parts.map fun (i, x) => (i, ρ x)).toList) (arr := zl) hzl hvals hden h
      refine ⟨arr, ?_, h2⟩
      have hfun : nthP ps = fun i => ps.toArray[i]? := by funext i; rw [nthP_get]; simp
      rw [hfun] at h1
      simp [Instr.build, hz, run_underlying ha, Array.mapM_eq_mapM_toList, hpl, Value.cells]
      simp at h1
      simp [h1]
    · cases h
  · rename_i n e sz by_ z ht
    have hd : T.P.underlying t = some (.array n e) := (T.tyOk _ _ ht).desc
    obtain ⟨zv, hz, hzd⟩ := run_zero_ti T ht w
    split at h
    · rename_i te hte
      have hzz := hzd E
      simp only [denE] at hzz
      obtain ⟨zl, rfl, hzl⟩ := hzz
      have hs := run_sizeOf_ti T hte w
      obtain ⟨arr, h1, h2⟩ := fill_snd (fun i => some (i * te.size, te.size)) (parts := parts.toList.map fun p => (p.1, ev p.2)) (vals := (parts.map fun (i, x) => (i, ρ x)).toList) (arr := zl) hzl hvals hden h
      refine ⟨arr, ?_, h2⟩
      simp at h1
      simp [Instr.build, hz, run_underlying hd, hs, Value.cells, h1]
    · cases h
  · cases h

end Go.Anv
