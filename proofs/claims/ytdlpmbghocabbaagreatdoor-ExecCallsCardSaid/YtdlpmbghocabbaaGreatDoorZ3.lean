/- Part 3 of the texts of this claim, merged: E6, E5d, E6b, E6c, E7. No condition: plain theorems, contracts of functions. -/
import Derived.Test.YtdlpmbghocabbaaGreatDoorZ2
import Derived.Laws.Tables
import Derived.MapKept
import Derived.Laws.MakeOwn
import Derived.Scope
import Derived.Deep.LoopGhost
import Derived.LoopN

set_option linter.unusedSimpArgs false
set_option linter.unusedVariables false
/- The engine, part 6: the operations with an effect, and the walker as a whole. Plain theorems; their conditions are the table's own facts. -/
namespace Go.Anv
open Go

/-! ### frames -/

theorem nth_upd : ∀ (ts : List EV) (d i : Nat) (v : EV), nth (upd ts d v) i = if i = d ∧ d < ts.length then v else nth ts i
  | [], d, i, v => by simp [upd, nth]
  | x :: r, 0, 0, v => by simp [upd, nth]
  | x :: r, 0, i + 1, v => by simp [upd, nth]
  | x :: r, d + 1, 0, v => by simp [upd, nth]
  | x :: r, d + 1, i + 1, v => by simp [upd, nth, nth_upd r d i v]

theorem length_upd : ∀ (ts : List EV) (d : Nat) (v : EV), (upd ts d v).length = ts.length
  | [], _, _ => rfl
  | x :: r, 0, v => by simp [upd]
  | x :: r, d + 1, v => by simp [upd, length_upd r d v]

theorem frameOk_mono {E E' : Emb} (h : E.le E') {ts : List EV} {a : Array Value} (f : frameOk E ts a) : frameOk E' ts a :=
  ⟨f.1, fun i v hi => denE_mono h _ _ (f.2 i v hi)⟩

theorem frameOk_put {E : Emb} {s : St} {a : Act} (f : frameOk E s.tmps a.tmps) (dst : Option Tmp) {v : EV} {u : Value} (hv : denE E v u) :
    frameOk E (s.put dst v).tmps (a.put dst u).tmps := by
  cases dst with
  | none => exact f
  | some d =>
    refine ⟨by simp [St.put, Act.put, length_upd, f.1], fun i x hi => ?_⟩
    simp only [St.put, Act.put] at hi ⊢
    rw [nth_upd]
    rw [Array.getElem?_setIfInBounds] at hi
    by_cases hid : d = i
    · subst hid
      rw [if_pos rfl] at hi
      split at hi
      · rename_i hlt
        simp only [Option.some.injEq] at hi
        subst hi
        rw [if_pos ⟨rfl, by rw [← f.1]; exact hlt⟩]
        exact hv
      · cases hi
    · rw [if_neg hid] at hi
      rw [if_neg (fun e => hid e.1.symm)]
      exact f.2 i x hi

theorem put_heap (s : St) (dst : Option Tmp) (v : EV) : (s.put dst v).heap = s.heap := by cases dst <;> rfl
theorem put_tmps (s : St) (h : List Blk) (dst : Option Tmp) (v : EV) : (({ s with heap := h } : St).put dst v).tmps = (s.put dst v).tmps := by cases dst <;> rfl
theorem put_defers (a : Act) (dst : Option Tmp) (v : Value) : (a.put dst v).defers = a.defers := by cases dst <;> rfl

theorem ev_den {E : Emb} {s : St} {a : Act} (f : frameOk E s.tmps a.tmps) (x : Operand) : denE E (s.ev x) (a.eval x) ∨ s.ev x = .junk := by
  cases x with
  | tmp t =>
    simp only [St.ev, evT, Act.eval]
    rcases Nat.lt_or_ge t a.tmps.size with h | h
    · left
      have := f.2 t _ (Array.getElem?_eq_getElem h)
      simpa [Array.getElem?_eq_getElem h] using this
    · right
      have hl : s.tmps.length ≤ t := by rw [← f.1]; exact h
      have key : ∀ (l : List EV) (t : Nat), l.length ≤ t → nth l t = .junk := fun l => by
        induction l with
        | nil => intro t _; rfl
        | cons x r ih =>
          intro t ht
          cases t with
          | zero => simp at ht
          | succ t => simp only [nth]; exact ih t (by simpa using ht)
      exact key _ _ hl
  | const v =>
    simp only [St.ev, evT, Act.eval]
    split
    · rename_i e he
      left
      unfold constV at he
      split at he <;> first
        | (cases he; done)
        | (simp only [Option.some.injEq] at he; subst he; simp only [denE, denV]; done)
        | (simp only [Option.some.injEq] at he; subst he; simp only [denE, denV])
    · right; rfl
  | global g => right; rfl
  | func f =>
    left
    simp only [St.ev, evT, Act.eval, denE, denV]
    exact ⟨_, _, rfl, by simp [denL], by simp [denL]⟩

theorem ev_denE {E : Emb} {s : St} {a : Act} (f : frameOk E s.tmps a.tmps) (x : Operand) : denE E (s.ev x) (a.eval x) := by
  rcases ev_den f x with h | h
  · exact h
  · rw [h]; simp only [denE]

/-! ### a state goes on -/

theorem Rel.put {O : Org} {E : Emb} {s : St} {a : Act} {w : World} (R : Rel O E s a w) (dst : Option Tmp) {v : EV} {u : Value} (hv : denE E v u) : Rel O E (s.put dst v) (a.put dst u) w :=
  ⟨frameOk_put R.fr dst hv, by rw [put_defers]; exact R.df, by rw [put_heap]; exact R.sim, by rw [put_heap]; exact R.sin⟩

/-- To a later world. -/
theorem Rel.on {O : Org} (on : O.E.n = O.h.length) {E E' : Emb} {s : St} {h' : List Blk} {a : Act} {w w' : World} (R : Rel O E s a w) (S : Sim E' h' w') (N : Since E s.heap w E' h' w') : Rel O E' { s with heap := h' } a w' :=
  ⟨frameOk_mono (N.le R.sim.n S.n) R.fr, R.df, S, R.sin.trans on R.sim.n N⟩

/-- Cells are stored into a block that may be written. -/
theorem run_storeAt (T : Tbl) {E : Emb} {h : List Blk} {w : World} (S : Sim E h w) {t : TypeId} {i : TI} (ht : T.ty t = some i) {b o : Nat} {cs cs' : List Seg} {sp : Nat} (hb : h[b]? = some (.cells true cs sp))
    {v : Value} (hsz : v.cells.size = i.size)
    (hput : ∀ l, denS E cs l → denS E cs' (l.take o ++ (v.cells.toList ++ l.drop (o + v.cells.toList.length))) ∧ sizeS cs' = sizeS cs ∧ o + v.cells.toList.length ≤ sizeS cs)
    (hone : ∀ x ∈ v.cells.toList, x.oneCell' = true) :
    ∃ w', (Instr.storeAt t (.pointer (some (E.at b o))) v).run T.P w = .ok () w' ∧ Sim E (h.set b (.cells true cs' sp)) w' ∧ Since E h w E (h.set b (.cells true cs' sp)) w' := by
  obtain ⟨l, hl, hw, _⟩ := S.look hb
  obtain ⟨h1, h2, h3⟩ := hput l hl
  obtain ⟨_, _, hm⟩ := S.ok b _ hb
  have hm := hm rfl
  have h4 := run_sizeOf_ti T ht w
  refine ⟨_, ?_, S.store hb hl hw h1 h2 h3, Since.store hb h2 h3⟩
  have h5 := run_storeCells_cells (P := T.P) (E.f b).1 ((E.f b).2 + o) v.cells.toList 0 w (fun j hj => by
      obtain ⟨⟨x, hx⟩, _⟩ := hm (o + j) (by omega)
      rw [Nat.add_zero, Nat.add_assoc, hx]; rfl) (fun j hj => by
      obtain ⟨⟨x, hx⟩, hr⟩ := hm (o + j) (by omega)
      rw [Nat.add_zero, Nat.add_assoc]; exact hr.frozen hx) hone
  simp only [Nat.add_zero] at h5
  simp only [Instr.storeAt, Instr.sureAddr, pure_bind, storeVar, Sem.run_bind, h4, Result.andThen_ok, hsz, ne_eq, not_true_eq_false, if_false]
  exact h5


theorem list_set_eq {l : List Value} {o : Nat} (v : Value) (h : o < l.length) : l.set o v = l.take o ++ ([v] ++ l.drop (o + [v].length)) := by
  rw [List.set_eq_take_append_cons_drop, if_pos h]
  rfl

theorem putL_den {E : Emb} : ∀ {r : List SV} {o : Nat} {new l' : List SV} {y vs : List Value}, putL r o new = some l' → denL E r y → denL E new vs →
    denL E l' (y.take o ++ (vs ++ y.drop (o + vs.length))) ∧ l'.length = r.length ∧ o + new.length ≤ r.length
  | r, 0, [], l', y, vs, h, hr, hn => by
    unfold putL at h
    simp only [Option.some.injEq] at h
    subst h
    simp only [denL] at hn
    subst hn
    exact ⟨by simpa using hr, rfl, by simp⟩
  | x :: r, 0, v :: new, l', y, vs, h, hr, hn => by
    unfold putL at h
    split at h
    · rename_i l hl
      simp only [Option.some.injEq] at h
      subst h
      simp only [denL] at hr hn
      obtain ⟨x', y', rfl, h1, h2⟩ := hr
      obtain ⟨v', vs', rfl, h3, h4⟩ := hn
      obtain ⟨k1, k2, k3⟩ := putL_den hl h2 h4
      refine ⟨⟨v', vs' ++ y'.drop vs'.length, by simp, h3, by simpa using k1⟩, by simp [k2], by simp at k3 ⊢; omega⟩
    · cases h
  | [], 0, _ :: _, _, _, _, h, _, _ => by simp [putL] at h
  | x :: r, o + 1, new, l', y, vs, h, hr, hn => by
    unfold putL at h
    split at h
    · rename_i l hl
      simp only [Option.some.injEq] at h
      subst h
      simp only [denL] at hr
      obtain ⟨x', y', rfl, h1, h2⟩ := hr
      obtain ⟨k1, k2, k3⟩ := putL_den hl h2 hn
      refine ⟨⟨x', y'.take o ++ (vs ++ y'.drop (o + vs.length)), by simp [Nat.add_right_comm], h1, k1⟩, by simp [k2], by simp; omega⟩
    · cases h
  | [], _ + 1, _, _, _, _, h, _, _ => by simp [putL] at h

theorem recS_cong {f g : Nat → List SV} : ∀ {n : Nat}, (∀ i, i < n → f i = g i) → recS n f = recS n g
  | 0, _ => rfl
  | n + 1, h => by rw [recS, recS, recS_cong fun i hi => h i (by omega), h n (by omega)]

theorem recS_put {E : Emb} {f : Nat → List SV} {z j o : Nat} {new l' : List SV} {vs : List Value} (hp : putL (f j) o new = some l') (hv : denL E new vs) : ∀ {n : Nat} {l : List Value}, (∀ i, i < n → (f i).length = z) → j < n → denS E (recS n f) l →
    denS E (recS n fun q => if q = j then l' else f q) (l.take (o + j * z) ++ (vs ++ l.drop (o + j * z + vs.length))) ∧ o + j * z + vs.length ≤ n * z
  | 0, _, _, h, _ => by omega
  | n + 1, l, hf, hj, h => by
    rw [recS] at h
    obtain ⟨x, y, rfl, h1, h2⟩ := denS_append_inv h
    have hx := denS_length h1
    rw [sizeS_recS fun i hi => hf i (by omega)] at hx
    have hvl := denL_length hv
    rw [recS]
    rcases Nat.lt_or_ge j n with h' | h'
    · obtain ⟨k1, k2⟩ := recS_put hp hv (fun i hi => hf i (by omega)) h' h1
      rw [if_neg (by omega)]
      refine ⟨?_, by rw [Nat.succ_mul]; omega⟩
      rw [List.take_append_of_le_length (by omega), List.drop_append_of_le_length (by omega)]
      have := denS_append k1 h2
      simpa only [List.append_assoc] using this
    · obtain rfl : j = n := by omega
      rw [if_pos rfl]
      obtain ⟨k1, k2, k3⟩ := putL_den hp (denS_ones.1 h2) hv
      rw [hf j (by omega)] at k3
      refine ⟨?_, by rw [Nat.succ_mul]; omega⟩
      rw [recS_cong (g := f) fun i hi => if_neg (by omega)]
      have e1 : (x ++ y).take (o + j * z) = x ++ y.take o := by
        rw [List.take_append, List.take_of_length_le (by omega), show o + j * z - x.length = o by omega]
      have e2 : (x ++ y).drop (o + j * z + vs.length) = y.drop (o + vs.length) := by
        rw [List.drop_append, List.drop_eq_nil_of_le (by omega), List.nil_append, show o + j * z + vs.length - x.length = o + vs.length by omega]
      rw [e1, e2, List.append_assoc]
      exact denS_append h1 (denS_ones.2 k1)

theorem putL_len {r : List SV} {o : Nat} {new l' : List SV} (h : putL r o new = some l') : l'.length = r.length := by
  induction r generalizing o new l' with
  | nil =>
    cases o with
    | zero =>
      cases new with
      | nil => simp [putL] at h; subst h; rfl
      | cons => simp [putL] at h
    | succ o => simp [putL] at h
  | cons x r ih =>
    cases o with
    | zero =>
      cases new with
      | nil => unfold putL at h; simp only [Option.some.injEq] at h; subst h; rfl
      | cons v new =>
        unfold putL at h
        split at h
        · rename_i l hl
          simp only [Option.some.injEq] at h
          subst h
          simp [ih hl]
        · cases h
    | succ o =>
      unfold putL at h
      split at h
      · rename_i l hl
        simp only [Option.some.injEq] at h
        subst h
        simp [ih hl]
      · cases h

/-- A store into a record. -/
theorem turnH_one {E : Emb} {w : World} {h : List Blk} (S : Sim E h w) {b : Nat} {A B : Blk} (hAB : turnB A B) : turnH ((allC h).set b A) (h.set b B) := by
  refine ⟨by simp [allC], fun i X Y hX hY => ?_⟩
  by_cases hib : b = i
  · subst hib
    rw [List.getElem?_set] at hX hY
    simp only [if_true] at hX hY
    split at hX
    · split at hY
      · simp only [Option.some.injEq] at hX hY
        subst hX; subst hY
        exact hAB
      · cases hY
    · cases hX
  · rw [List.getElem?_set_ne hib] at hX hY
    rw [allC, List.getElem?_map, hY] at hX
    simp only [Option.map_some, Option.some.injEq] at hX
    subst hX
    exact turnB_back (S.ok i Y hY)

theorem storeX_snd (T : Tbl) {E : Emb} {w : World} {h : List Blk} (S : Sim E h w) {t : TypeId} {x v : EV} {xv vv : Value} (hx : denE E x xv) (hv : denE E v vv) {k : List Blk → Prop} (hk : storeX T t x v h k) :
    ∃ h' w', (Instr.storeAt t xv vv).run T.P w = .ok () w' ∧ k h' ∧ Sim E h' w' ∧ Since E h w E h' w' := by
  unfold storeX at hk
  simp only [forceS_eq, updBK_eq] at hk
  split at hk
  · rename_i i b o ht
    simp only [denE, denV] at hx
    obtain ⟨_, rfl⟩ := hx
    split at hk
    · rename_i cs sp u h1 h2
      have hcells := segsOf_den hv h2
      split at hk
      · rename_i cs' hsz hset
        simp only [denS] at hcells
        obtain ⟨z, l', hz, hzd, rfl⟩ := hcells
        have hb := nthB_get h1
        rw [updB_eq] at hk
        obtain ⟨w', h3, h4, h5⟩ := run_storeAt T S ht (o := o) (cs' := cs') hb (v := vv) (by rw [← Array.length_toList, hz, hsz]; rfl) (fun l hl => by
          rw [hz]
          obtain ⟨k1, k2, k3⟩ := setS_den hl hzd hset
          refine ⟨?_, k2, k3⟩
          rw [← list_set_eq z (by rw [denS_length hl]; exact k3)]
          exact k1) (fun y hy => by rw [hz] at hy; simp at hy; subst hy; exact denV_oneCell hzd)
        exact ⟨_, w', h3, hk, h4, h5⟩
      · exact hk.elim
    · rename_i cs sp new hnot h1 h2
      have hcells := segsOf_den hv h2
      split at hk
      · rename_i cs' hput
        obtain ⟨hsz, hk⟩ := hk
        have hb := nthB_get h1
        rw [updB_eq] at hk
        obtain ⟨w', h3, h4, h5⟩ := run_storeAt T S ht (o := o) (cs' := cs') hb (v := vv) (by rw [← hsz, ← denS_length hcells]; simp) (fun l hl => putS_den hl hcells hput)
          (fun y hy => denS_oneCell hcells y hy)
        exact ⟨_, w', h3, hk, h4, h5⟩
      · exact hk.elim
    · exact hk.elim
  · rename_i i b o j ht
    simp only [denE, denV] at hx
    obtain ⟨_, rfl⟩ := hx
    split at hk
    · rename_i q x cs sp h1
      simp only [denE, denV] at hv
      subst hv
      split at hk
      · rename_i q' n f cs' hsz hget hset
        obtain ⟨hj, hk⟩ := hk
        have hb := nthB_get h1
        rw [updB_eq] at hk
        obtain ⟨w', h3, h4, h5⟩ := run_storeAt T S ht (o := o + j) (cs' := cs') hb (v := .int q x) (by rw [hsz]; rfl) (fun l hl => by
          obtain ⟨k1, k2, k3⟩ := setI_den hl hset (fun k' n' f' hg => by rw [hg] at hget; simp only [Option.some.injEq, Prod.mk.injEq] at hget; rw [hget.2.1]; exact hj)
          refine ⟨?_, k2, k3⟩
          have := list_set_eq (Value.int q x) (show o + j < l.length by rw [denS_length hl]; exact k3)
          simp only [Value.cells] at *
          rw [← this]
          exact k1) (fun y hy => by simp [Value.cells] at hy; subst hy; rfl)
        exact ⟨_, w', h3, hk, h4, h5⟩
      · exact hk.elim
    · exact hk.elim
  · rename_i i b o j z ht
    simp only [denE, denV] at hx
    obtain ⟨_, rfl⟩ := hx
    split at hk
    · rename_i n z' f sp new h1 h2
      have hcells := segsOf_den hv h2
      split at hk
      · rename_i l hz hl
        have hz := Nat.eq_of_beq_eq_true hz
        subst hz
        split at hk
        · rename_i l' hput
          obtain ⟨⟨hj, hsz⟩, hk⟩ := hk
          have hb := nthB_get h1
          have hlen := (S.ok b _ hb).1
          rw [updB_eq] at hk
          have e1 := onesOf_map hl
          rw [e1] at hcells
          have hcl := denS_ones.1 hcells
          have hb' : (allC h)[b]? = some (.cells true (recS n f) sp) := by rw [allC, List.getElem?_map, hb]; rfl
          have hlen' : ∀ i, i < n → ((fun q => if q = j then l' else f q) i).length = z := fun q hq => by
            simp only
            split
            · rename_i e
              subst e
              rw [putL_len hput, hlen _ hq]
            · exact hlen q hq
          obtain ⟨w', h3, h4, h5⟩ := run_storeAt T (S.turnH (turnH_all h)) ht (o := o + j * z) (cs' := recS n fun q => if q = j then l' else f q) hb' (v := vv) (by rw [← Array.length_toList, denL_length hcl, hsz]) (fun lv hlv => by
            obtain ⟨k1, k2⟩ := recS_put hput hcl hlen hj hlv
            exact ⟨k1, by rw [sizeS_recS hlen, sizeS_recS hlen'], by rw [sizeS_recS hlen]; exact k2⟩) (fun y hy => denS_oneCell hcells y hy)
          have hT := turnH_one S (b := b) (A := .cells true (recS n fun q => if q = j then l' else f q) sp) (B := .recs true n z (fun q => if q = j then l' else f q) sp) (turnB_recs hlen')
          exact ⟨_, w', h3, hk, h4.turnH hT, (h5.from_all).turnH hT⟩
        · exact hk.elim
      · exact hk.elim
    · exact hk.elim
  · exact hk.elim

/-! ### new blocks, built values -/

theorem new_snd {E : Emb} {h : List Blk} {w : World} (S : Sim E h w) (t : TypeId) {cs : List Seg} {v : Value} (hd : denS E cs v.cells.toList) :
    Sim (E.push ⟨w.heap.size, 0, false⟩) (h ++ [Blk.cells true cs 0]) (w.alloc (.cells v.cells t)) ∧ Since E h w (E.push ⟨w.heap.size, 0, false⟩) (h ++ [Blk.cells true cs 0]) (w.alloc (.cells v.cells t)) := by
  have hN := okBlk_new (E := E) (w := w) (m := true) t hd
  rw [Array.toArray_toList] at hN
  exact ⟨S.push _ _ hN, Since.push S _ _⟩

theorem push_at (E : Emb) (w : World) : (E.push ⟨w.heap.size, 0, false⟩).at E.n 0 = ⟨w.heap.size, 0, none⟩ := by
  simp [Emb.at, Emb.push_new]

theorem places_spec (T : Tbl) (w : World) : ∀ {fs : List Field} {ps : List (Nat × Nat)}, places T (fs.map fun f => (f.type, f.offset)) = some ps →
    (fs.mapM fun f => Prod.mk f.offset <$> sizeOf f.type).run T.P w = .ok ps w
  | [], ps, h => by
    simp only [List.map_nil, places, Option.some.injEq] at h
    subst h
    rfl
  | f :: fs, ps, h => by
    simp only [List.map_cons, places] at h
    split at h
    · rename_i ti qs h1 h2
      simp only [Option.some.injEq] at h
      subst h
      have ih := places_spec T w h2
      have hs := run_sizeOf_ti T h1 w
      simp [List.mapM_cons, hs, ih]
    · cases h

theorem nthP_get : ∀ {ps : List (Nat × Nat)} {i : Nat}, nthP ps i = ps[i]?
  | [], i => by simp [nthP]
  | x :: r, 0 => by simp [nthP]
  | x :: r, i + 1 => by simp [nthP, nthP_get (ps := r) (i := i)]

/-- The parts of a struct or an array, laid over its cells. -/
theorem foldl_set (l : List Value) : ∀ (vs : List Value) (o n : Nat) (cs : Array Value), cs.toList = l → o + n + vs.length ≤ l.length →
    ((vs.zipIdx n).foldl (fun cs (p : Value × Nat) => cs.setIfInBounds (o + p.2) p.1) cs).toList = l.take (o + n) ++ (vs ++ l.drop (o + n + vs.length))
  | [], o, n, cs, h, _ => by simp [h]
  | v :: vs, o, n, cs, h, hl => by
    simp only [List.zipIdx_cons, List.foldl_cons]
    have hlt : o + n < l.length := by simp at hl; omega
    have hset : (cs.setIfInBounds (o + n) v).toList = l.set (o + n) v := by simp [h]
    rw [foldl_set (l.set (o + n) v) vs o (n + 1) _ hset (by simp at hl ⊢; omega)]
    rw [show o + (n + 1) = o + n + 1 by omega, List.take_add_one, List.getElem?_set_self hlt, List.take_set_of_le (by omega), List.drop_set_of_lt (by omega)]
    simp
    congr 1
    omega

theorem setJ_den {E : Emb} : ∀ {cs cs' : List Seg} {l : List Value} {o : Nat} {k : IntKind} {x : Int}, denS E cs l → setJ cs o k x = some cs' → denS E cs' (l.set o (.int k x)) ∧ sizeS cs' = sizeS cs ∧ o < sizeS cs
  | [], _, _, _, _, _, _, h => by simp [setJ] at h
  | .one y :: r, cs', l, 0, k, x, hd, h => by simp [setJ] at h
  | .one y :: r, cs', l, o + 1, k, x, hd, h => by
    simp only [setJ, Option.map_eq_some_iff] at h
    obtain ⟨c, hc, rfl⟩ := h
    simp only [denS] at hd
    obtain ⟨v, l', rfl, h1, h3⟩ := hd
    obtain ⟨h4, h5, h6⟩ := setJ_den h3 hc
    exact ⟨⟨v, _, rfl, h1, h4⟩, by simp only [sizeS]; omega, by simp only [sizeS]; omega⟩
  | .ints k' n f :: r, cs', l, o, k, x, hd, h => by
    simp only [denS] at hd
    obtain ⟨l', rfl, h3⟩ := hd
    simp only [setJ] at h
    by_cases ho : o < n
    · rw [if_pos ho] at h
      split at h
      · rename_i hk
        subst hk
        simp only [Option.some.injEq] at h
        subst h
        refine ⟨⟨l', ?_, h3⟩, rfl, by simp only [sizeS]; omega⟩
        rw [List.set_append_left _ _ (by rw [length_intsOf]; exact ho)]
        congr 1
        apply List.ext_getElem?
        intro j
        rw [List.getElem?_set, length_intsOf]
        rcases Nat.lt_or_ge j n with h1 | h1
        · rw [intsOf_get h1, intsOf_get h1]
          by_cases h2 : o = j
          · subst h2; simp [h1]
          · rw [if_neg h2, if_neg (fun e => h2 e.symm)]
        · rw [List.getElem?_eq_none (by rw [length_intsOf]; exact h1), if_neg (by omega), List.getElem?_eq_none (by rw [length_intsOf]; exact h1)]
      · cases h
    · rw [if_neg ho, Option.map_eq_some_iff] at h
      obtain ⟨c, hc, rfl⟩ := h
      obtain ⟨h4, h5, h6⟩ := setJ_den h3 hc
      refine ⟨⟨_, ?_, h4⟩, by simp only [sizeS]; omega, by simp only [sizeS]; omega⟩
      rw [List.set_append_right _ _ (by rw [length_intsOf]; omega), length_intsOf]

theorem fill_snd {E : Emb} (place : Nat → Option (Nat × Nat)) : ∀ {parts : List (Nat × EV)} {vals : List (Nat × Value)} {cs cs' : List Seg} {arr : Array Value},
    denS E cs arr.toList → (vals.map (·.1) = parts.map (·.1)) → denT E (parts.map (·.2)) (vals.map (·.2)) → fillX place cs parts = some cs' →
    ∃ arr', Instr.fill place arr vals = some arr' ∧ denS E cs' arr'.toList
  | [], vals, cs, cs', arr, hd, hv, _, h => by
    cases vals with
    | nil =>
      simp only [fillX, Option.some.injEq] at h
      subst h
      exact ⟨arr, rfl, hd⟩
    | cons x r => simp at hv
  | (i, e) :: parts, vals, cs, cs', arr, hd, hv, ht, h => by
    cases vals with
    | nil => simp at hv
    | cons x vals =>
      obtain ⟨i', v⟩ := x
      simp only [List.map_cons, List.cons.injEq] at hv
      obtain ⟨hi, hv⟩ := hv
      subst hi
      simp only [List.map_cons, denT] at ht
      obtain ⟨v', l', heq, he, ht⟩ := ht
      simp only [List.cons.injEq] at heq
      obtain ⟨rfl, rfl⟩ := heq
      unfold fillX at h
      cases hp : place i' with
      | none => rw [hp] at h; cases h
      | some p =>
        obtain ⟨off, size⟩ := p
        rw [hp] at h
        simp only at h
        have hlen := denS_length hd
        -- a step: the cells of v over the row
        have step : ∀ c, sizeS c = sizeS cs → off + v.cells.toList.length ≤ sizeS cs → v.cells.toList.length = size →
            denS E c (arr.toList.take off ++ (v.cells.toList ++ arr.toList.drop (off + v.cells.toList.length))) → fillX place c parts = some cs' →
            ∃ arr', Instr.fill place arr ((i', v) :: vals) = some arr' ∧ denS E cs' arr'.toList := fun c hc1 hc2 hc3 hc4 hc5 => by
          have hf := foldl_set arr.toList v.cells.toList off 0 arr rfl (by omega)
          have hrow : (v.cells.zipIdx.foldl (fun cs (c, j) => cs.setIfInBounds (off + j) c) arr).toList = arr.toList.take off ++ (v.cells.toList ++ arr.toList.drop (off + v.cells.toList.length)) := by
            rw [← Array.foldl_toList, Array.toList_zipIdx]
            simpa using hf
          obtain ⟨arr', h1, h2⟩ := fill_snd place (parts := parts) (vals := vals) (cs := c) (cs' := cs') (arr := v.cells.zipIdx.foldl (fun cs (c, j) => cs.setIfInBounds (off + j) c) arr)
            (by rw [hrow]; exact hc4) hv ht hc5
          refine ⟨arr', ?_, h2⟩
          simp only [Instr.fill, hp]
          rw [if_neg]
          · exact h1
          · simp only [Array.length_toList] at hc2 hc3 hlen
            simp only [ne_eq, gt_iff_lt, Bool.or_eq_true, decide_eq_true_eq, not_or, Decidable.not_not]
            omega
        have one : ∀ z : Value, z.oneCell' = true → z.cells.toList = [z] := fun z hz => by cases z <;> first | rfl | (simp [Value.oneCell'] at hz)
        have hset : ∀ u c, denV E u v → setS cs off u = some c → size = 1 → fillX place c parts = some cs' → ∃ arr', Instr.fill place arr ((i', v) :: vals) = some arr' ∧ denS E cs' arr'.toList := fun u c hu hc hs hf => by
          obtain ⟨k1, k2, k3⟩ := setS_den hd hu hc
          have h1 := one v (denV_oneCell hu)
          refine step c k2 (by rw [h1]; simp; omega) (by rw [h1, hs]; rfl) ?_ hf
          rw [h1, ← list_set_eq v (by omega)]
          exact k1
        cases e with
        | s u =>
          simp only [denE] at he
          cases u with
          | int k q =>
            simp only at h
            split at h
            · split at h
              · rename_i c hc
                exact hset _ c he hc rfl h
              · split at h
                · rename_i c hc
                  simp only [denE, denV] at he
                  obtain ⟨k1, k2, k3⟩ := setJ_den hd hc
                  subst he
                  refine step c k2 (by simp [Value.cells]; omega) rfl ?_ h
                  have := list_set_eq (Value.int k q) (show off < arr.toList.length by omega)
                  simp only [Value.cells] at *
                  rw [← this]
                  exact k1
                · cases h
            · cases h
          | _ =>
            simp only at h
            split at h
            · rename_i c hc
              exact hset _ c he hc rfl h
            · cases h
        | agg new =>
          simp only at h
          split at h
          · rename_i hsz
            split at h
            · rename_i c hc
              simp only [denE] at he
              obtain ⟨l, rfl, hl⟩ := he
              obtain ⟨k1, k2, k3⟩ := putS_den hd hl hc
              exact step c k2 k3 (by simp only [Value.cells]; rw [denS_length hl, hsz]) k1 h
            · cases h
          · cases h
        | tuple _ => simp at h
        | gd _ _ => simp at h
        | junk => simp at h


theorem buildX_snd (T : Tbl) {E : Emb} (w : World) {t : TypeId} {parts : Array (Nat × Operand)} {cs : List Seg} (ev : Operand → EV) (ρ : Operand → Value) (hev : ∀ x, denE E (ev x) (ρ x))
    (h : buildX T t (parts.toList.map fun p => (p.1, ev p.2)) = some cs) :
    ∃ arr, (Instr.build t (parts.map fun (i, x) => (i, ρ x))).run T.P w = .ok (.agg arr) w ∧ denS E cs arr.toList := by
  have hvals : ((parts.map fun (i, x) => (i, ρ x)).toList.map (·.1)) = ((parts.toList.map fun p => (p.1, ev p.2)).map (·.1)) := by simp
  have hden : denT E ((parts.toList.map fun p => (p.1, ev p.2)).map (·.2)) ((parts.map fun (i, x) => (i, ρ x)).toList.map (·.2)) := by
    simp only [Array.toList_map, List.map_map]
    have key : ∀ l : List (Nat × Operand), denT E (l.map ((fun x => x.2) ∘ fun p => (p.1, ev p.2))) (l.map ((fun x => x.2) ∘ fun x => (x.1, ρ x.2))) := fun l => by
      induction l with
      | nil => simp [denT]
      | cons p l ih => simp only [List.map_cons, denT, Function.comp]; exact ⟨_, _, rfl, hev p.2, ih⟩
    exact key _
  unfold buildX at h
  split at h
  · rename_i fs sz by_ z ht
    have hd := (T.tyOk _ _ ht).desc
    obtain ⟨a, ha, hm⟩ := hd
    obtain ⟨zv, hz, hzd⟩ := run_zero_ti T ht w
    split at h
    · rename_i ps hps
      have hzz := hzd E
      simp only [denE] at hzz
      obtain ⟨zl, rfl, hzl⟩ := hzz
      rw [← hm] at hps
      have hpl := places_spec T w hps
      obtain ⟨arr, h1, h2⟩ := fill_snd (nthP ps) (parts := parts.toList.map fun p => (p.1, ev p.2)) (vals := (parts.map fun (i, x) => (i, ρ x)).toList) (arr := zl) hzl hvals hden h
      refine ⟨arr, ?_, h2⟩
      have hfun : nthP ps = fun i => ps.toArray[i]? := by funext i; rw [nthP_get]; simp
      rw [hfun] at h1
      simp [Instr.build, hz, run_underlying ha, Array.mapM_eq_mapM_toList, hpl, Value.cells]
      simp at h1
      simp [h1]
    · cases h
  · rename_i n e sz by_ z ht
    have hd : T.P.underlying t = some (.array n e) := (T.tyOk _ _ ht).desc
    obtain ⟨zv, hz, hzd⟩ := run_zero_ti T ht w
    split at h
    · rename_i te hte
      have hzz := hzd E
      simp only [denE] at hzz
      obtain ⟨zl, rfl, hzl⟩ := hzz
      have hs := run_sizeOf_ti T hte w
      obtain ⟨arr, h1, h2⟩ := fill_snd (fun i => some (i * te.size, te.size)) (parts := parts.toList.map fun p => (p.1, ev p.2)) (vals := (parts.map fun (i, x) => (i, ρ x)).toList) (arr := zl) hzl hvals hden h
      refine ⟨arr, ?_, h2⟩
      simp at h1
      simp [Instr.build, hz, run_underlying hd, hs, Value.cells, h1]
    · cases h
  · cases h

end Go.Anv

/- The engine: maps whose keys are whole numbers, strings or truth values. Plain theorems, no condition. -/
namespace Go.Anv
open Go

/-! ### a map in a world -/

theorem mset_other {w : World} {r k : Nat} {o : Obj} (h : k ≠ r) : ({ w with heap := w.heap.setIfInBounds r o } : World).heap[k]? = w.heap[k]? := by
  simp [Ne.symm h]

theorem mset_cell {w : World} {r : Nat} {l l' : Array MapEntry} {c c' : Nat} (hb : w.heap[r]? = some (.map l c)) (a : Addr) : ({ w with heap := w.heap.setIfInBounds r (.map l' c') } : World).cell? a = w.cell? a := by
  by_cases h : a.block = r
  · have h1 := (MapKept.heap_set (o' := .map l' c') hb).1
    simp only [World.cell?, h, h1, hb]
  · have h1 := mset_other (w := w) (o := .map l' c') h
    simp only [World.cell?, h1]

theorem mset_frozen {w : World} {r : Nat} {l l' : Array MapEntry} {c c' : Nat} (hb : w.heap[r]? = some (.map l c)) (a : Addr) : ({ w with heap := w.heap.setIfInBounds r (.map l' c') } : World).frozen? a = w.frozen? a := by
  by_cases h : a.block = r
  · have h1 := (MapKept.heap_set (o' := .map l' c') hb).1
    simp only [World.frozen?, h, h1, hb]
  · have h1 := mset_other (w := w) (o := .map l' c') h
    simp only [World.frozen?, h1]

theorem mset_row {w : World} {r k : Nat} {l l' : Array MapEntry} {c c' : Nat} (hb : w.heap[r]? = some (.map l c)) (h : rowOk w k) : rowOk { w with heap := w.heap.setIfInBounds r (.map l' c') } k := by
  refine h.of_block (mset_other ?_)
  rintro rfl
  obtain ⟨c, e, lo, hi, h1, _⟩ := h
  rw [hb] at h1
  cases h1

theorem Sim.mset {E : Emb} {h : List Blk} {w : World} (S : Sim E h w) {i : Nat} {es es' : List (SV × EV)} (hi : h[i]? = some (.map es)) {l l' : Array MapEntry} {c c' : Nat} (hb : w.heap[(E.f i).1]? = some (.map l c)) (hd : denM E es' l'.toList) :
    Sim E (h.set i (.map es')) { w with heap := w.heap.setIfInBounds (E.f i).1 (.map l' c') } := by
  have hlt : i < h.length := by
    rcases Nat.lt_or_ge i h.length with h' | h'
    · exact h'
    · rw [List.getElem?_eq_none h'] at hi; cases hi
  refine ⟨by simp [S.n], fun j B hj => ?_, fun j k A B hjk hj hk hA b o => ?_⟩
  · by_cases hji : i = j
    · subst hji
      rw [List.getElem?_set_self hlt] at hj
      simp only [Option.some.injEq] at hj
      subst hj
      exact ⟨l', c', (MapKept.heap_set hb).1, hd⟩
    · rw [List.getElem?_set_ne hji] at hj
      have hB := S.ok j B hj
      cases B with
      | cells m cs sp =>
        obtain ⟨h1, ⟨q, h2, h3⟩, h4⟩ := hB
        refine ⟨by simpa using h1, ⟨q, h2, fun x v hx => by rw [mset_cell hb]; exact h3 x v hx⟩, fun hm x hx => ?_⟩
        rw [mset_cell hb]
        exact ⟨(h4 hm x hx).1, mset_row hb (h4 hm x hx).2⟩
      | recs m n z f sp =>
        obtain ⟨h0, h1, ⟨q, h2, h3⟩, h4⟩ := hB
        refine ⟨h0, by simpa using h1, ⟨q, h2, fun x v hx => by rw [mset_cell hb]; exact h3 x v hx⟩, fun hm x hx => ?_⟩
        rw [mset_cell hb]
        exact ⟨(h4 hm x hx).1, mset_row hb (h4 hm x hx).2⟩
      | map es2 =>
        obtain ⟨q, d, h1, h2⟩ := hB
        refine ⟨q, d, ?_, h2⟩
        rw [mset_other]
        · exact h1
        · intro e
          exact S.dis i j _ _ hji hi hj rfl (E.f i).1 0 rfl e.symm
      | dead => trivial
  · by_cases h1 : i = j <;> by_cases h2 : i = k
    · exact absurd (h1.symm.trans h2) hjk
    · subst h1
      rw [List.getElem?_set_self hlt] at hj
      simp only [Option.some.injEq] at hj
      subst hj
      rw [List.getElem?_set_ne h2] at hk
      exact S.dis i k _ _ hjk hi hk rfl b o
    · subst h2
      rw [List.getElem?_set_self hlt] at hk
      simp only [Option.some.injEq] at hk
      subst hk
      rw [List.getElem?_set_ne h1] at hj
      exact S.dis j i _ _ hjk hj hi hA b o
    · rw [List.getElem?_set_ne h1] at hj
      rw [List.getElem?_set_ne h2] at hk
      exact S.dis j k _ _ hjk hj hk hA b o

theorem Since.mset {E : Emb} {h : List Blk} {w : World} {i : Nat} {es es' : List (SV × EV)} (hi : h[i]? = some (.map es)) {l l' : Array MapEntry} {c c' : Nat} (hb : w.heap[(E.f i).1]? = some (.map l c)) :
    Since E h w E (h.set i (.map es')) { w with heap := w.heap.setIfInBounds (E.f i).1 (.map l' c') } := by
  have hlt : i < h.length := by
    rcases Nat.lt_or_ge i h.length with h' | h'
    · exact h'
    · rw [List.getElem?_eq_none h'] at hi; cases hi
  refine ⟨by simp, fun _ _ => rfl, by simp, fun b hb2 hm => ?_, fun b x hb2 hm => ⟨mset_cell hb _, fun _ => mset_frozen hb _⟩, fun b x hm _ => ?_, rfl, rfl, rfl, fun b hb2 hr => mset_row hb hr⟩
  · refine mset_other ?_
    rintro rfl
    exact hm 0 ⟨i, _, hi, rfl, rfl⟩
  · obtain ⟨j, B, hj, hB, hc⟩ := hm
    by_cases hji : i = j
    · subst hji
      rw [List.getElem?_set_self hlt] at hj
      simp only [Option.some.injEq] at hj
      subst hj
      exact ⟨i, _, hi, rfl, hc⟩
    · rw [List.getElem?_set_ne hji] at hj
      exact ⟨j, B, hj, hB, hc⟩

/-! ### keys -/

theorem tkey_isKey {E : Emb} {P : Program} {kt : TypeId} {d : TD} {key : SV} {kv : Value} (hd : descOk P kt d) (ht : tkey d key = true) (hk : denV E key kv) : ∃ D, P.underlying kt = some D ∧ MapKept.IsKey D kv := by
  unfold tkey at ht
  split at ht
  · simp only [denV] at hk
    subst hk
    exact ⟨_, hd, (sameK_eq ht).symm⟩
  · simp only [denV] at hk
    subst hk
    exact ⟨_, hd, trivial⟩
  · simp only [denV] at hk
    subst hk
    exact ⟨_, hd, trivial⟩
  · cases ht

theorem keyX_now {E : Emb} {D : TypeDesc} {a b : SV} {u v : Value} {t : Bool} (ha : denV E a u) (hb : denV E b v) (hk : MapKept.IsKey D u) (h : keyX a b = some t) : Instr.sameNow D u v = some t ∧ (t = true → u = v) := by
  unfold keyX at h
  split at h
  · rename_i q x q' y
    split at h
    · rename_i hs
      have hs := sameK_eq hs
      subst hs
      simp only [Option.some.injEq] at h
      simp only [denV] at ha hb
      subst ha hb h
      cases D <;> simp only [MapKept.IsKey] at hk
      subst hk
      refine ⟨by simp [Instr.sameNow], fun e => ?_⟩
      rw [eq_of_beq e]
    · cases h
  · simp only [Option.some.injEq] at h
    simp only [denV] at ha hb
    subst ha hb h
    cases D <;> simp only [MapKept.IsKey] at hk
    refine ⟨rfl, fun e => ?_⟩
    rw [(MapKept.bytes_beq _ _).1 e]
  · simp only [Option.some.injEq] at h
    simp only [denV] at ha hb
    subst ha hb h
    cases D <;> simp only [MapKept.IsKey] at hk
    refine ⟨rfl, fun e => ?_⟩
    rw [eq_of_beq e]
  · cases h

theorem lookK_snd {E : Emb} {D : TypeDesc} {key : SV} {kv : Value} (hk : denV E key kv) (hD : MapKept.IsKey D kv) {k : Option EV → Prop} : ∀ {es : List (SV × EV)} {l : List MapEntry} (i : Nat), denM E es l → lookK key es k →
    (Instr.findNow D kv l i = some none ∧ k none) ∨ ∃ j v e, Instr.findNow D kv l i = some (some (j, v)) ∧ denE E e v ∧ k (some e)
  | [], l, i, hm, h => by
    simp only [denM] at hm
    subst hm
    exact .inl ⟨rfl, h⟩
  | (q, e) :: r, l, i, hm, h => by
    simp only [denM] at hm
    obtain ⟨x, l', rfl, h1, h2, h3⟩ := hm
    have h : (match keyX key q with
      | some t => ifB t (k (some e)) (lookK key r k)
      | none => False) := h
    cases hx : keyX key q with
    | none => rw [hx] at h; exact h.elim
    | some t =>
      rw [hx] at h
      obtain ⟨h4, _⟩ := keyX_now hk h1 hD hx
      cases t with
      | true => exact .inr ⟨i, x.val, e, by simp [Instr.findNow, h4], h2, h⟩
      | false =>
        rcases lookK_snd hk hD (i + 1) h3 h with ⟨a1, a2⟩ | ⟨j, v, e', a1, a2, a3⟩
        · exact .inl ⟨by simp [Instr.findNow, h4, a1], a2⟩
        · exact .inr ⟨j, v, e', by simp [Instr.findNow, h4, a1], a2, a3⟩

theorem putM_snd {E : Emb} {D : TypeDesc} {key : SV} {kv : Value} (hk : denV E key kv) (hD : MapKept.IsKey D kv) {v : EV} {vv : Value} (hv : denE E v vv) (c : Nat) : ∀ {es : List (SV × EV)} {l : List MapEntry} (i : Nat) {k : List (SV × EV) → Prop}, denM E es l → putM key v es k →
    ∃ es', k es' ∧ ((Instr.findNow D kv l i = some none ∧ denM E es' (l ++ [{ key := kv, val := vv, born := c }])) ∨
      ∃ j x, Instr.findNow D kv l i = some (some (i + j, x)) ∧ (∃ e, l[j]? = some e ∧ e.key = kv) ∧ denM E es' (l.modify j fun e => { e with key := kv, val := vv }))
  | [], l, i, k, hm, h => by
    simp only [denM] at hm
    subst hm
    exact ⟨_, h, .inl ⟨rfl, ⟨_, _, rfl, hk, hv, rfl⟩⟩⟩
  | (q, e) :: r, l, i, k, hm, h => by
    simp only [denM] at hm
    obtain ⟨x, l', rfl, h1, h2, h3⟩ := hm
    have h : (match keyX key q with
      | some t => ifB t (k ((key, v) :: r)) (putM key v r fun r' => k ((q, e) :: r'))
      | none => False) := h
    cases hx : keyX key q with
    | none => rw [hx] at h; exact h.elim
    | some t =>
      rw [hx] at h
      obtain ⟨h4, h5⟩ := keyX_now hk h1 hD hx
      cases t with
      | true =>
        refine ⟨_, h, .inr ⟨0, x.val, by simp [Instr.findNow, h4], ⟨x, rfl, (h5 rfl).symm⟩, ?_⟩⟩
        exact ⟨_, _, rfl, hk, hv, h3⟩
      | false =>
        obtain ⟨es', hk', hor⟩ := putM_snd hk hD hv c (i + 1) h3 h
        refine ⟨_, hk', ?_⟩
        rcases hor with ⟨a1, a2⟩ | ⟨j, y, a1, a2, a3⟩
        · exact .inl ⟨by simp [Instr.findNow, h4, a1], ⟨_, _, rfl, h1, h2, a2⟩⟩
        · refine .inr ⟨j + 1, y, by simp [Instr.findNow, h4, a1]; omega, by simpa using a2, ?_⟩
          rw [List.modify_succ_cons]
          exact ⟨_, _, rfl, h1, h2, a3⟩

theorem lookE_den {E : Emb} {z : EV} {zv : Value} (hz : denE E z zv) (ok : Bool) : denE E (lookE z ok none) (if ok = true then .tuple #[zv, .bool false] else zv) := by
  cases ok
  · exact hz
  · exact ⟨_, rfl, _, _, rfl, hz, _, _, rfl, rfl, rfl⟩
theorem lookE_some {E : Emb} {z e : EV} {v : Value} (hz : denE E e v) (ok : Bool) : denE E (lookE z ok (some e)) (if ok = true then .tuple #[v, .bool true] else v) := by
  cases ok
  · exact hz
  · exact ⟨_, rfl, _, _, rfl, hz, _, _, rfl, rfl, rfl⟩

theorem mupX_snd (T : Tbl) {E : Emb} {h : List Blk} {w : World} (S : Sim E h w) {ts : List EV} {t : TypeId} {m key v : EV} {mv kv vv : Value} (hm : denE E m mv) (hkv : denE E key kv) (hv : denE E v vv) {dst : Option Tmp} {k : St → Prop} (hk : mupX T ts h t m key v dst k) :
    ∃ w' h', (Instr.mapUpdate t mv kv vv).run T.P w = .ok () w' ∧ Sim E h' w' ∧ Since E h w E h' w' ∧ k ((⟨ts, h'⟩ : St).put dst .junk) := by
  unfold mupX at hk
  split at hk
  · rename_i kt et _ _ _ b sk ht
    have hd : T.P.underlying t = some (.map kt et) := (T.tyOk _ _ ht).desc
    split at hk
    · rename_i i es hi hb
      split at hk
      · rename_i htk
        rw [forceE_eq] at hk
        simp only [denE] at hm hkv
        simp only [denV] at hm
        obtain ⟨hbn, rfl⟩ := hm
        have hbg := nthB_get hb
        obtain ⟨l, c, hw, hden⟩ := S.ok b _ hbg
        obtain ⟨D, hD, hkey⟩ := tkey_isKey (T.tyOk _ _ hi).desc htk hkv
        obtain ⟨es', hk', hor⟩ := putM_snd hkv hkey hv c 0 hden hk
        rw [updBK_eq, putK_eq, updB_eq] at hk'
        rcases hor with ⟨a1, a2⟩ | ⟨j, x, a1, ⟨e0, a2, a3⟩, a4⟩
        · refine ⟨_, _, ?_, S.mset hbg hw (l' := l.push { key := kv, val := vv, born := c }) (c' := c + 1) (by simpa using a2), Since.mset hbg hw, hk'⟩
          simp [Instr.mapUpdate, run_underlying hd, MapKept.run_getObj_map hw, MapKept.run_checkKey hD hkey, MapKept.run_findKey hD a1, MapKept.run_setObj_map _ hw, Result.andThen]
        · have hj : l[j]? = some e0 := by simpa using a2
          rw [Nat.zero_add] at a1
          refine ⟨_, _, ?_, S.mset hbg hw (l' := l.modify j fun e => { e with key := kv, val := vv }) (c' := c) (by simpa using a4), Since.mset hbg hw, hk'⟩
          simp [Instr.mapUpdate, run_underlying hd, MapKept.run_getObj_map hw, MapKept.run_checkKey hD hkey, MapKept.run_findKey hD a1, hj, a3, MapKept.run_keyThatStays hkey, MapKept.run_setObj_map _ hw, Result.andThen]
      · exact hk.elim
    · exact hk.elim
  · exact hk.elim

/-- **The operations on maps do what the walker says.** -/
theorem eff3_snd (T : Tbl) {E : Emb} {h : List Blk} {w : World} (S : Sim E h w) {ts : List EV} {ρ : Operand → Value} (hev : ∀ x, denE E (evT ts x) (ρ x)) {o : Oper} {k : St → Prop} (hk : eff3 T ts h o k) :
    ∃ u w' E' h' v, (execOp ρ o).run T.P w = .ok (.value u) w' ∧ denE E' v u ∧ Sim E' h' w' ∧ Since E h w E' h' w' ∧ k ((⟨ts, h'⟩ : St).put o.dst v) := by
  unfold eff3 at hk
  unfold execOp
  split at hk
  · rename_i t hop
    rw [pushBK_eq, putK_eq, Nat.zero_add] at hk
    have S' := S.push (.map #[] 0) (.map []) ⟨#[], 0, heap_alloc_new w _, rfl⟩
    refine ⟨.map (some w.heap.size), w.alloc (.map #[] 0), _, _, _, by simp [hop, Instr.makeMap], ?_, S', Since.push S _ _, hk⟩
    simp only [denE, denV, ← S.n, Emb.push_new]
    exact ⟨by simp [Emb.push], trivial⟩
  · rename_i t m key ok hop
    split at hk
    · rename_i kt et _ _ _ sk ht hkey
      have hd : T.P.underlying t = some (.map kt et) := (T.tyOk _ _ ht).desc
      split at hk
      · rename_i i j hi hj
        split at hk
        · rename_i htk
          have hkv := hev key
          rw [hkey] at hkv
          simp only [denE] at hkv
          obtain ⟨D, hD, hK⟩ := tkey_isKey (T.tyOk _ _ hi).desc htk hkv
          obtain ⟨z, hz, hzd⟩ := run_zero_ti T hj w
          split at hk
          · rename_i b hmv
            have hm := hev m
            rw [hmv] at hm
            simp only [denE, denV] at hm
            obtain ⟨hbn, hm⟩ := hm
            split at hk
            · rename_i es hb
              obtain ⟨l, c, hw, hden⟩ := S.ok b _ (nthB_get hb)
              rcases lookK_snd hkv hK 0 hden hk with ⟨a1, a2⟩ | ⟨n, v, e, a1, a2, a3⟩
              · rw [forceE_eq, putK_eq] at a2
                refine ⟨_, w, E, h, _, ?_, lookE_den (hzd E) ok, S, Since.refl _ _ _, a2⟩
                simp [hop, Instr.lookup, hm, run_underlying hd, MapKept.run_getObj_map hw, MapKept.run_checkKey hD hK, MapKept.run_findKey hD a1, hz, Result.andThen]
              · rw [forceE_eq, putK_eq] at a3
                refine ⟨_, w, E, h, _, ?_, lookE_some a2 ok, S, Since.refl _ _ _, a3⟩
                simp [hop, Instr.lookup, hm, run_underlying hd, MapKept.run_getObj_map hw, MapKept.run_checkKey hD hK, MapKept.run_findKey hD a1, Result.andThen]
            · exact hk.elim
          · rename_i hmv
            have hm := hev m
            rw [hmv] at hm
            simp only [denE, denV] at hm
            rw [forceE_eq, putK_eq] at hk
            have a1 : Instr.findNow D (ρ key) ([] : List MapEntry) 0 = some none := rfl
            refine ⟨_, w, E, h, _, ?_, lookE_den (hzd E) ok, S, Since.refl _ _ _, hk⟩
            simp [hop, Instr.lookup, hm, run_underlying hd, MapKept.run_checkKey hD hK, MapKept.run_findKey hD a1, hz, Result.andThen]
          · exact hk.elim
        · exact hk.elim
      · exact hk.elim
    · exact hk.elim
  · exact hk.elim
end Go.Anv

/- The engine, part 6b: slices that are made, built, turned, copied. Plain theorems; their conditions are the table's own facts. -/
namespace Go.Anv
open Go

theorem fill_ints {E : Emb} (k : IntKind) : ∀ {parts : List (Nat × EV)} {vals : List (Nat × Value)} {l : List Int} {n : Nat} {arr : Array Value}, intParts k n parts = some l →
    vals.map (·.1) = parts.map (·.1) → denT E (parts.map (·.2)) (vals.map (·.2)) → n + l.length ≤ arr.size →
    ∃ arr', Instr.fill (fun i => some (i * 1, 1)) arr vals = some arr' ∧ arr'.toList = arr.toList.take n ++ (l.map (Value.int k) ++ arr.toList.drop (n + l.length))
  | [], vals, l, n, arr, hl, hv, _, _ => by
    simp only [intParts, Option.some.injEq] at hl
    subst hl
    cases vals with
    | nil => exact ⟨arr, rfl, by simp⟩
    | cons v r => simp at hv
  | (i, e) :: parts, vals, l, n, arr, hl, hv, hd, hlen => by
    cases vals with
    | nil => simp at hv
    | cons v vals =>
      obtain ⟨i', v⟩ := v
      simp only [List.map_cons, List.cons.injEq] at hv
      obtain ⟨rfl, hv⟩ := hv
      cases e with
      | s u =>
        cases u with
        | int k' x =>
          simp only [intParts] at hl
          split at hl
          · rename_i l' hb hl'
            simp only [Option.some.injEq] at hl
            subst hl
            simp only [Bool.and_eq_true] at hb
            have h1 := Nat.eq_of_beq_eq_true hb.1
            have h2 := sameK_eq hb.2
            subst h1; subst h2
            simp only [List.map_cons, denT] at hd
            obtain ⟨u, ul, hu, hd1, hd2⟩ := hd
            simp only [List.cons.injEq] at hu
            obtain ⟨rfl, rfl⟩ := hu
            simp only [denE, denV] at hd1
            subst hd1
            simp only [List.length_cons] at hlen
            obtain ⟨arr', h3, h4⟩ := fill_ints k (n := n + 1) (arr := arr.setIfInBounds n (.int k x)) hl' hv hd2 (by simp; omega)
            refine ⟨arr', ?_, ?_⟩
            · have hcond : (decide ((Value.int k x).cells.size ≠ 1) || decide (n * 1 + (Value.int k x).cells.size > arr.size)) = false := by
                simp [Value.cells]
                omega
              simp only [Instr.fill]
              rw [hcond]
              simpa [Value.cells] using h3
            · rw [h4]
              simp only [Array.toList_setIfInBounds, List.map_cons, List.length_cons]
              have hlt : n < arr.toList.length := by simp; omega
              rw [List.take_add_one, List.getElem?_set_self hlt, List.take_set_of_le (Nat.le_refl n), List.drop_set_of_lt (by omega)]
              simp only [Option.toList_some, List.append_assoc, List.cons_append, List.nil_append]
              rw [show n + 1 + l'.length = n + (l'.length + 1) by omega]
          · cases hl
        | _ => simp [intParts] at hl
      | _ => simp [intParts] at hl

theorem litF_get : ∀ (l : List Int) (j : Nat), j < l.length → litF l j = l.getD j 0
  | [], _, h => by simp at h
  | x :: r, 0, _ => rfl
  | x :: r, j + 1, h => by simp only [litF]; rw [litF_get r j (by simpa using h)]; simp

theorem ints_lit (k : IntKind) (l : List Int) : l.map (Value.int k) = intsOf k l.length (litF l) := by
  apply List.ext_getElem?
  intro j
  rcases Nat.lt_or_ge j l.length with h | h
  · rw [intsOf_get h, litF_get l j h, List.getElem?_map, List.getElem?_eq_getElem h]
    simp [List.getElem?_eq_getElem h]
  · rw [List.getElem?_eq_none (by simpa using h), List.getElem?_eq_none (by rw [length_intsOf]; exact h)]

theorem rep_list (zl : List Value) : ∀ (n : Nat), (List.range (n * zl.length)).map (fun j => zl.toArray[j % zl.length]!) = (List.replicate n zl).flatten
  | 0 => by simp
  | n + 1 => by
    have ih := rep_list zl n
    rw [List.replicate_succ, List.flatten_cons, ← ih, Nat.succ_mul, Nat.add_comm, List.range_add, List.map_append, List.map_map]
    congr 1
    · apply List.ext_getElem?
      intro j
      rcases Nat.lt_or_ge j zl.length with h | h
      · simp [h, Nat.mod_eq_of_lt h]
      · rw [List.getElem?_eq_none (by simpa using h), List.getElem?_eq_none h]
    · apply List.map_congr_left
      intro j _
      simp

theorem denS_rep {E : Emb} {zs : List Seg} {zl : List Value} (h : denS E zs zl) : ∀ n, denS E (repS n zs) (List.replicate n zl).flatten
  | 0 => by simp [repS, denS]
  | n + 1 => by
    simp only [repS, List.replicate_succ, List.flatten_cons]
    exact denS_append h (denS_rep h n)

theorem bslX_snd (T : Tbl) {E : Emb} (w : World) {t e : TypeId} {te : TI} (ht : T.P.underlying t = some (.slice e)) (he : T.ty e = some te) {n : Nat} {parts : Array (Nat × Operand)} {cs : List Seg} (ev : Operand → EV) (ρ : Operand → Value) (hev : ∀ x, denE E (ev x) (ρ x))
    (hn : n * te.size ≤ 16777216) (h : bslX te n (parts.toList.map fun p => (p.1, ev p.2)) = some cs) :
    ∃ arr, (Instr.buildSlice t n (parts.map fun (i, x) => (i, ρ x))).run T.P w = .ok (.slice (some ⟨w.heap.size, 0, none⟩) n n) (w.alloc (.cells arr e)) ∧ denS E cs arr.toList := by
  have hvals : ((parts.map fun (i, x) => (i, ρ x)).toList.map (·.1)) = ((parts.toList.map fun p => (p.1, ev p.2)).map (·.1)) := by simp
  have hden : denT E ((parts.toList.map fun p => (p.1, ev p.2)).map (·.2)) ((parts.map fun (i, x) => (i, ρ x)).toList.map (·.2)) := by
    simp only [Array.toList_map, List.map_map]
    have key : ∀ l : List (Nat × Operand), denT E (l.map ((fun x => x.2) ∘ fun p => (p.1, ev p.2))) (l.map ((fun x => x.2) ∘ fun x => (x.1, ρ x.2))) := fun l => by
      induction l with
      | nil => simp [denT]
      | cons p l ih => simp only [List.map_cons, denT, Function.comp]; exact ⟨_, _, rfl, hev p.2, ih⟩
    exact key _
  have hsz := run_sizeOf_ti T he w
  obtain ⟨i, z, hi, hisz, hby, hz, hzv⟩ := elem_info T he
  have hzrun : (zeroValue e).run T.P w = .ok z w := by simp [zeroValue, typeInfo, hi, hz]
  have h24 : ¬ (16777216 < n * te.size) := by omega
  -- what the model fills
  have run : ∀ {arr : Array Value}, Instr.fill (fun i => some (i * te.size, te.size)) ((Array.range (n * te.size)).map ((if n * te.size = 0 then #[] else z.cells)[· % (if n * te.size = 0 then #[] else z.cells).size]!)) (parts.map fun (i, x) => (i, ρ x)).toList = some arr →
      (Instr.buildSlice t n (parts.map fun (i, x) => (i, ρ x))).run T.P w = .ok (.slice (some ⟨w.heap.size, 0, none⟩) n n) (w.alloc (.cells arr e)) := fun {arr} hf => by
    by_cases h0 : n * te.size = 0
    · rw [if_pos h0] at hf
      simp only [Instr.buildSlice, Sem.run_bind, run_underlying ht, Result.andThen_ok, hsz, h0, if_true]
      simp only [h0, gt_iff_lt, if_neg (show ¬ (2 ^ 24 < 0) by omega)] at hf ⊢
      simp only [Sem.run_bind, Sem.run_pure, Result.andThen_ok]
      rw [hf]
      rfl
    · rw [if_neg h0] at hf
      simp only [Instr.buildSlice, Sem.run_bind, run_underlying ht, Result.andThen_ok, hsz, h0, if_false, gt_iff_lt]
      rw [if_neg (show ¬ (2 ^ 24 < n * te.size) by omega)]
      simp only [Sem.run_bind, hzrun, Sem.run_pure, Result.andThen_ok]
      rw [hf]
      rfl
  unfold bslX at h
  split at h
  · rename_i k z0 hz1 hs1
    split at h
    · rename_i l hl
      split at h
      · rename_i hln
        have hln := Nat.eq_of_beq_eq_true hln
        simp only [Option.some.injEq] at h
        subst h
        rw [hs1] at run hn
        obtain ⟨arr, h1, h2⟩ := fill_ints (E := E) k (vals := (parts.map fun (i, x) => (i, ρ x)).toList) (n := 0)
          (arr := (Array.range (n * 1)).map ((if n * 1 = 0 then #[] else z.cells)[· % (if n * 1 = 0 then #[] else z.cells).size]!)) hl hvals hden (by simp; omega)
        refine ⟨arr, run h1, ?_⟩
        rw [h2]
        simp only [List.take_zero, List.nil_append, Nat.zero_add]
        refine ⟨[], ?_, rfl⟩
        rw [List.append_nil, List.drop_eq_nil_of_le (by simp; omega), List.append_nil, ints_lit, hln]
      · cases h
    · cases h
  · split at h
    · rename_i zs hzs
      split at h
      · rename_i hbq
        have hbq := Nat.eq_of_beq_eq_true hbq
        have hzd := segsOf_den (valE_den (E := E) hzv) hzs
        have hzl := denS_length hzd
        have hzsz : z.cells.size = te.size := by rw [← Array.length_toList, hzl, hbq]
        obtain ⟨arr, h1, h2⟩ := fill_snd (fun i => some (i * te.size, te.size)) (parts := parts.toList.map fun p => (p.1, ev p.2)) (vals := (parts.map fun (i, x) => (i, ρ x)).toList)
          (arr := (Array.range (n * te.size)).map ((if n * te.size = 0 then #[] else z.cells)[· % (if n * te.size = 0 then #[] else z.cells).size]!)) (cs := repS n zs) (by
            by_cases h0 : n * te.size = 0
            · simp only [h0, if_true]
              have : (List.replicate n z.cells.toList).flatten = [] := by
                apply List.eq_nil_of_length_eq_zero
                simp [hzsz, h0]
              have h3 := denS_rep hzd n
              rw [this] at h3
              simpa using h3
            · simp only [h0, if_false]
              have h3 := denS_rep hzd n
              rw [← rep_list] at h3
              have : z.cells.toList.length = te.size := by rw [hzl, hbq]
              rw [this] at h3
              simp only [Array.toList_map, Array.toList_range, hzsz]
              exact h3) hvals hden h
        exact ⟨arr, run h1, h2⟩
      · cases h
    · cases h


/-- The first cells of what a slice or a string yields. -/
theorem rngX_first (T : Tbl) {E : Emb} {h : List Blk} {w : World} (S : Sim E h w) {y : EV} {v : Value} (hy : denE E y v) {r : Rng} (hr : rngX h 1 y = some r) (hp : r.p) :
    ∃ news, denS E r.cs news ∧ news.length = r.n ∧ (∀ w', (Builtin.lenOf v).run T.P w' = .ok r.n w') ∧ ∀ n, n ≤ r.n → (Builtin.firstCells 1 n v).run T.P w = .ok (news.take n).toArray w := by
  have load : ∀ {a : Addr} {news : List Value} {m c : Nat}, news.length = m → (∀ j u, news[j]? = some u → w.cell? (a.add j) = some u) → ∀ n, n ≤ m → (Builtin.firstCells 1 n (.slice (some a) m c)).run T.P w = .ok (news.take n).toArray w := by
    intro a news m c hl hc n hn
    refine run_firstCells_some w 1 n a m c (news.take n) (by rw [List.length_take, hl, Nat.min_eq_left hn, Nat.mul_one]) (fun j u hj => hc j u ?_)
    rcases Nat.lt_or_ge j n with h' | h'
    · rwa [List.getElem?_take_of_lt h'] at hj
    · rw [List.getElem?_eq_none (by rw [List.length_take]; omega)] at hj; cases hj
  unfold rngX at hr
  split at hr
  · simp only [Option.some.injEq] at hr
    subst hr
    simp only [denE, denV] at hy
    subst hy
    refine ⟨[], rfl, rfl, fun _ => rfl, fun n hn => ?_⟩
    simp only [List.take_nil]
    exact run_firstCells_none w 1 n 0 0
  · rename_i s
    simp only [Option.some.injEq] at hr
    subst hr
    simp only [denE, denV] at hy
    subst hy
    refine ⟨byteCells s, ⟨[], by rw [List.append_nil, byteCells_intsOf], rfl⟩, byteCells_length s, fun _ => rfl, fun n hn => ?_⟩
    simp only [Builtin.firstCells, Sem.run_pure, Result.ok.injEq, and_true, byteCells]
    apply Array.ext'
    simp [ByteArray.data_extract]
  · rename_i b o n c
    simp only [denE, denV] at hy
    obtain ⟨hb, rfl⟩ := hy
    obtain ⟨news, h1, h2, h3, h4⟩ := rngAt_snd S hr hp
    refine ⟨news, h1, by rw [h3]; simpa using h2, fun _ => by rw [h3]; rfl, fun n' hn => ?_⟩
    refine load (by simpa using h2) (fun j u hj => ?_) n' (by rw [← h3]; exact hn)
    rw [Emb.at_add]
    unfold Emb.at
    rw [← Nat.add_assoc]
    exact h4 j u hj
  · rename_i b o n c
    simp only [denE, denV] at hy
    obtain ⟨hb, hnl, rfl⟩ := hy
    obtain ⟨news, h1, h2, h3, h4⟩ := rngAt_snd S hr hp
    refine ⟨news, h1, by rw [h3]; simpa using h2, fun _ => by rw [h3]; rfl, fun n' hn => ?_⟩
    cases hq : (E.f b).nl with
    | true =>
      obtain ⟨rfl, rfl⟩ := hnl hq
      obtain rfl : news = [] := List.eq_nil_of_length_eq_zero (by simpa using h2)
      simp only [List.take_nil, if_true]
      exact run_firstCells_none w 1 n' 0 0
    | false =>
      refine load (by simpa using h2) (fun j u hj => ?_) n' (by rw [← h3]; exact hn)
      rw [Emb.at_add]
      unfold Emb.at
      rw [← Nat.add_assoc]
      exact h4 j u hj
  · cases hr

theorem ints_put (k : IntKind) {m o n rn cnt : Nat} (f g : Nat → Int) (ho : o + n ≤ m) (hc : cnt = min rn n) :
    intsOf k m (putF o cnt g f) = (intsOf k m f).take o ++ ((intsOf k rn g).take cnt ++ (intsOf k m f).drop (o + ((intsOf k rn g).take cnt).length)) := by
  have hl : ((intsOf k rn g).take cnt).length = cnt := by rw [List.length_take, length_intsOf]; omega
  rw [hl]
  apply List.ext_getElem?
  intro j
  rcases Nat.lt_or_ge j o with h | h
  · rw [List.getElem?_append_left (by rw [List.length_take, length_intsOf]; omega), List.getElem?_take_of_lt h, intsOf_get (by omega), intsOf_get (by omega)]
    have : ¬ (o ≤ j ∧ j < o + cnt) := by omega
    simp only [putF, if_neg this]
  · rw [List.getElem?_append_right (by rw [List.length_take, length_intsOf]; omega), List.length_take, length_intsOf, Nat.min_eq_left (by omega)]
    rcases Nat.lt_or_ge (j - o) cnt with h1 | h1
    · rw [List.getElem?_append_left (by rw [hl]; exact h1), List.getElem?_take_of_lt h1, intsOf_get (by omega), intsOf_get (by omega)]
      have : o ≤ j ∧ j < o + cnt := by omega
      simp only [putF, if_pos this]
    · rw [List.getElem?_append_right (by rw [hl]; exact h1), hl, List.getElem?_drop]
      rw [show o + cnt + (j - o - cnt) = j by omega]
      rcases Nat.lt_or_ge j m with h2 | h2
      · rw [intsOf_get h2, intsOf_get h2]
        have : ¬ (o ≤ j ∧ j < o + cnt) := by omega
        simp only [putF, if_neg this]
      · rw [List.getElem?_eq_none (by rw [length_intsOf]; exact h2), List.getElem?_eq_none (by rw [length_intsOf]; exact h2)]

theorem copyX_snd (T : Tbl) {E : Emb} {h : List Blk} {w : World} (S : Sim E h w) {t tx ty : TypeId} {x y : EV} {xv yv : Value} (hx : denE E x xv) (hy : denE E y yv) {ts : List EV} {dst : Option Tmp} {k : St → Prop}
    (hk : copyX T ts h t tx x y dst k) : Goes T E h w (Builtin.copy_ #[t, tx] ty #[xv, yv]) ts dst k := by
  unfold copyX at hk
  split at hk
  · rename_i e _ _ _ ht
    have hd : T.P.underlying t = some (.slice e) := (T.tyOk _ _ ht).desc
    split at hk
    · rename_i te he
      have hsz := run_sizeOf_ti T he w
      split at hk
      · rename_i r hs1 hso hr
        rw [hs1] at hr hsz
        have onto : ∀ {b o n c : Nat}, ontoC ts h b o n r dst k → ((E.f b).nl = true ∧ n = 0 ∧ xv = .slice none n c) ∨ xv = .slice (some (E.at b o)) n c → Goes T E h w (Builtin.copy_ #[t, tx] ty #[xv, yv]) ts dst k := by
          intro b o n c hk hxv
          unfold ontoC at hk
          split at hk
          · rename_i q m f sp p rn q' m' g hbk hk0
            clear hk0
            split at hk
            · rename_i hq
              have := sameK_eq hq
              subst this
              obtain ⟨⟨hp, hom⟩, hk⟩ := hk
              rw [updBK_eq, updB_eq, putK_eq] at hk
              obtain ⟨news, h1, h2, h3, h4⟩ := rngX_first T S hy hr hp
              simp only [denS] at h1
              obtain ⟨l', rfl, rfl⟩ := h1
              rw [List.append_nil] at h2 h4
              rw [length_intsOf] at h2
              subst h2
              obtain ⟨l, hl, hlw, _⟩ := S.look (nthB_get hbk)
              have hl0 := hl
              simp only [denS] at hl
              obtain ⟨l', rfl, rfl⟩ := hl
              rw [List.append_nil] at hlw hl0
              have hput := ints_put q (m := m) (o := o) (n := n) (rn := m') (cnt := min m' n) f g hom rfl
              have hcnt : ((intsOf q m' g).take (min m' n)).length = min m' n := by rw [List.length_take, length_intsOf]; omega
              have S1 := S.write (i := b) (cs' := [.ints q m (putF o (min m' n) g f)]) (sp' := sp) (nthB_get hbk) (o := o) (vs := (intsOf q m' g).take (min m' n)) hl0 hlw
                (by rw [← hput]; exact ⟨[], by rw [List.append_nil], rfl⟩) rfl (by simp only [sizeS]; omega) (by rw [hcnt]; simp only [sizeS]; omega)
              have N1 := Since.write (E := E) (h := h) (w := w) (i := b) (cs' := [.ints q m (putF o (min m' n) g f)]) (sp' := sp) (nthB_get hbk) (o := o) (vs := (intsOf q m' g).take (min m' n)) rfl (by rw [hcnt]; simp only [sizeS]; omega)
              have hfc := h4 (min m' n) (Nat.min_le_left _ _)
              refine ⟨.int .i64 ((min m' n : Nat) : Int), _, E, _, _, ?_, by simp only [denE, denV], S1, N1, hk⟩
              obtain ⟨_, _, hm⟩ := S.ok b _ (nthB_get hbk)
              have hm := hm rfl
              rcases hxv with ⟨_, rfl, rfl⟩ | rfl
              · simp only [Nat.min_zero, List.take_zero] at hfc ⊢
                simp [Builtin.copy_, run_underlying hd, h3, hsz, hfc, World.setCells, goInt]
              · have hst := run_storeCells_cells (P := T.P) (E.f b).1 ((E.f b).2 + o) ((intsOf q m' g).take (min m' n)) 0 w (fun j hj => by
                    rw [hcnt] at hj
                    obtain ⟨⟨v, hv⟩, _⟩ := hm (o + j) (by simp only [sizeS]; omega)
                    rw [Nat.add_zero, Nat.add_assoc, hv]; rfl) (fun j hj => by
                    rw [hcnt] at hj
                    obtain ⟨⟨v, hv⟩, hro⟩ := hm (o + j) (by simp only [sizeS]; omega)
                    rw [Nat.add_zero, Nat.add_assoc]; exact hro.frozen hv) (fun x hx => by
                    have := List.mem_of_mem_take hx
                    simp only [intsOf, List.mem_map] at this
                    obtain ⟨_, _, rfl⟩ := this
                    rfl)
                simp only [Nat.add_zero] at hst
                have hnm : Nat.min m' n = min m' n := rfl
                simp [Builtin.copy_, run_underlying hd, h3, hsz, hnm, hfc, goInt, Emb.at, hst]
            · exact hk.elim
          · rename_i q m f sp p rn hbk hk0
            clear hk0
            obtain ⟨⟨hp, hrn⟩, hk⟩ := hk
            subst hrn
            rw [putK_eq] at hk
            obtain ⟨news, h1, h2, h3, h4⟩ := rngX_first T S hy hr hp
            have hfc := h4 0 (Nat.le_refl _)
            refine ⟨.int .i64 0, w, E, h, _, ?_, by simp only [denE, denV], S, Since.refl _ _ _, hk⟩
            simp only [List.take_zero] at hfc
            have h0 : ∀ n : Nat, Nat.min 0 n = 0 := fun n => Nat.zero_min n
            rcases hxv with ⟨_, rfl, rfl⟩ | rfl <;> simp [Builtin.copy_, run_underlying hd, h3, hsz, hfc, h0, goInt, storeCells]
          · exact hk.elim
        split at hk
        · simp only [denE, denV] at hx
          exact onto hk (.inr hx.2)
        · rename_i b o n c
          simp only [denE, denV] at hx
          obtain ⟨h1, h2, h3⟩ := hx
          refine onto (c := c) hk ?_
          cases hq : (E.f b).nl with
          | true => rw [hq] at h3 h2; exact .inl ⟨rfl, (h2 rfl).1, by simpa using h3⟩
          | false => rw [hq] at h3; exact .inr (by simpa using h3)
        · exact hk.elim
      · exact hk.elim
    · exact hk.elim
  · exact hk.elim


/-- **The operations on slices do what the walker says.** -/
theorem eff2_snd (T : Tbl) {E : Emb} {h : List Blk} {w : World} (S : Sim E h w) {ts : List EV} {ρ : Operand → Value} (hev : ∀ x, denE E (evT ts x) (ρ x)) {o : Oper} {k : St → Prop} (hk : eff2 T ts h o k) :
    ∃ u w' E' h' v, (execOp ρ o).run T.P w = .ok (.value u) w' ∧ denE E' v u ∧ Sim E' h' w' ∧ Since E h w E' h' w' ∧ k ((⟨ts, h'⟩ : St).put o.dst v) := by
  unfold eff2 at hk
  unfold execOp
  split at hk
  · rename_i t n parts hop
    split at hk
    · rename_i e _ _ _ ht
      have hd : T.P.underlying t = some (.slice e) := (T.tyOk _ _ ht).desc
      split at hk
      · rename_i te he
        have hk := ungK_spec (evT ts) parts.toList hk
        split at hk
        · rename_i cs hle hb
          have hle := Nat.le_of_ble_eq_true hle
          rw [forceS_eq, pushBK_eq, putK_eq, Nat.zero_add] at hk
          obtain ⟨arr, h1, h2⟩ := bslX_snd T (E := E) w hd he (fun x => there (evT ts x)) ρ (fun x => there_den (hev x)) hle hb
          obtain ⟨S', N'⟩ := push_row S e (arr := arr) (lo := 0) (hi := 0) (.inl rfl) (sp := 0) (rest := []) h2 (by simp) (by simp)
          refine ⟨_, _, _, _, _, by simp only [hop, Sem.run_bind, h1, Result.andThen_ok, Sem.run_pure]; rfl, ?_, S', N', hk⟩
          simp only [denE, denV, ← S.n, Emb.push_new]
          exact ⟨⟨by simp [Emb.push], trivial⟩, by rw [push_at]⟩
        · exact hk.elim
      · exact hk.elim
    · exact hk.elim
  · rename_i t len cap hop
    split at hk
    · rename_i e _ _ _ kl l kc c ht hl hc
      have hd : T.P.underlying t = some (.slice e) := (T.tyOk _ _ ht).desc
      have dl := hev len
      have dc := hev cap
      rw [hl] at dl
      rw [hc] at dc
      simp only [denE, denV] at dl dc
      split at hk
      · rename_i te he
        split at hk
        · rename_i q z hz1 hs1
          obtain ⟨⟨h0, hlc, hb1, hb2⟩, hk⟩ := hk
          rw [pushBK_eq, putK_eq, Nat.zero_add] at hk
          obtain ⟨i, zv, hi, hisz, hby, hz, hzv⟩ := elem_info T he
          rw [hz1] at hzv
          simp only [valE, valV, Option.some.injEq] at hzv
          subst hzv
          rw [← hby] at hb2
          have hrun := run_make (P := T.P) w t e i (.int q z) hd hi hz kl kc l c h0 hlc (by omega) (by omega)
          have hcells : (madeCells (Value.int q z).cells (c.toNat * i.size)).toList = intsOf q l.toNat (fun _ => z) ++ List.replicate (c.toNat - l.toNat) (.int q z) := by
            rw [hisz, hs1, Nat.mul_one]
            have hmc : madeCells (Value.int q z).cells c.toNat = (Array.range c.toNat).map fun _ => Value.int q z := by
              simp [madeCells, Value.cells, Nat.mod_one]
            rw [hmc]
            simp only [Array.toList_map, Array.toList_range]
            apply List.ext_getElem?
            intro j
            rcases Nat.lt_or_ge j l.toNat with h1 | h1
            · rw [List.getElem?_append_left (by rw [length_intsOf]; exact h1), intsOf_get h1, List.getElem?_map, List.getElem?_range (by omega)]
              rfl
            · rw [List.getElem?_append_right (by rw [length_intsOf]; exact h1), length_intsOf]
              rcases Nat.lt_or_ge j c.toNat with h2 | h2
              · rw [List.getElem?_replicate, if_pos (by omega), List.getElem?_map, List.getElem?_range h2]
                rfl
              · rw [List.getElem?_replicate, if_neg (by omega), List.getElem?_eq_none (by simpa using h2)]
          obtain ⟨S', N'⟩ := push_row S e (arr := madeCells (Value.int q z).cells (c.toNat * i.size)) (lo := 0) (hi := 0) (.inl rfl) (cs := [.ints q l.toNat (fun _ => z)]) (sp := c.toNat - l.toNat)
            (l := intsOf q l.toNat (fun _ => z)) (rest := List.replicate (c.toNat - l.toNat) (.int q z)) ⟨[], by rw [List.append_nil], rfl⟩ hcells (by simp)
          refine ⟨_, _, _, _, _, by simp only [hop, dl, dc, Sem.run_bind, hrun, Result.andThen_ok, Sem.run_pure]; rfl, ?_, S', N', hk⟩
          simp only [denE, denV, ← S.n, Emb.push_new]
          exact ⟨⟨by simp [Emb.push], trivial⟩, by rw [push_at]⟩
        · exact hk.elim
      · exact hk.elim
    · exact hk.elim
  · rename_i src dst x hop
    split at hk
    · rename_i e _ _ _ e' _ _ _ b o' n c h1 h2 hx
      have d1 : T.P.underlying src = some (.slice e) := (T.tyOk _ _ h1).desc
      have d2 : T.P.underlying dst = some (.slice e') := (T.tyOk _ _ h2).desc
      split at hk
      · rename_i cs sp hbq he hbk
        simp only [Bool.and_eq_true] at hbq
        have hq1 := Nat.eq_of_beq_eq_true hbq.1
        have hq2 := Nat.eq_of_beq_eq_true hbq.2
        subst hq1
        subst hq2
        have d3 : T.P.underlying e = some (.int .u8) := (T.tyOk _ _ he).desc
        obtain ⟨hpos, hk⟩ := hk
        rw [putK_eq] at hk
        have dx := hev x
        rw [hx] at dx
        have dx' := dx
        simp only [denE, denV] at dx
        obtain ⟨⟨hb, hnl⟩, hxv⟩ := dx
        obtain ⟨ho, ⟨l, hl, hlw⟩, hm⟩ := S.ok b _ (nthB_get hbk)
        obtain ⟨⟨v0, hv0⟩, arr, te, lo, hi, hbl, hrow⟩ := hm rfl 0 hpos
        refine ⟨_, w.freeze { block := (E.f b).1, off := arr.size } 1, E, h, _, ?_, dx', S.freeze hbl hrow, Since.freeze hbl hrow ⟨(E.f b).2 + 0, b, _, nthB_get hbk, rfl, rfl, by omega, by omega⟩, hk⟩
        have hsh : w.shape? (E.f b).1 = some (te, arr.size) := by simp only [World.shape?, hbl]
        simp [hop, hxv, convert, run_underlying d1, run_underlying d3, markStringish, Emb.at, hsh]
      · exact hk.elim
    · rename_i e _ _ _ s h1 h2 hx
      have d1 : T.P.underlying src = some .string := (T.tyOk _ _ h1).desc
      have d2 : T.P.underlying dst = some (.slice e) := (T.tyOk _ _ h2).desc
      have dx := hev x
      rw [hx] at dx
      simp only [denE, denV] at dx
      split at hk
      · rename_i he
        have d3 : T.P.underlying e = some (.int .u8) := (T.tyOk _ _ he).desc
        have hrun := run_bytes_of_string (P := T.P) w src dst e s d1 d2 d3
        have hge := grownCap_ge w s.size 0 e
        have hk := hk _ hge
        rw [pushBK_eq, putK_eq, Nat.zero_add] at hk
        obtain ⟨S', N'⟩ := push_row S.drew e (arr := bytesRow s (grownCap w s.size 0 e)) (lo := (bytesRow s (grownCap w s.size 0 e)).size) (hi := (bytesRow s (grownCap w s.size 0 e)).size + 1) (.inr (Nat.le_refl _))
          (cs := [.ints .u8 s.size (strF s)]) (sp := grownCap w s.size 0 e - s.size) (l := byteCells s) (rest := List.replicate (grownCap w s.size 0 e - s.size) (.int .u8 0)) ⟨[], by rw [List.append_nil, byteCells_intsOf], rfl⟩
          (by simp [bytesRow, byteCells]) (by simp)
        refine ⟨_, _, _, _, _, by simp only [hop, dx, Sem.run_bind, hrun, Result.andThen_ok, Sem.run_pure]; rfl, ?_, S', (Since.drew E h w).trans S.n S.n N', hk⟩
        simp only [denE, denV, ← S.n, Emb.push_new]
        refine ⟨⟨by simp [Emb.push], trivial⟩, ?_⟩
        have : (E.push ⟨w.drew.heap.size, 0, false⟩).at E.n 0 = ⟨w.heap.size, 0, none⟩ := by
          unfold Emb.at
          rw [Emb.push_new]
          rfl
        rw [this]
      · exact hk.elim
    · rename_i e _ _ _ _ _ _ b o' h1 h2 hx
      have d1 : T.P.underlying src = some (.pointer e) := (T.tyOk _ _ h1).desc
      have d2 : T.P.underlying dst = some .unsafePointer := (T.tyOk _ _ h2).desc
      split at hk
      · rename_i h3
        obtain ⟨⟨m, cs, sp, v, h4, h5⟩, hk⟩ := hk
        rw [putK_eq] at hk
        have dx := hev x
        rw [hx] at dx
        have dx' := dx
        simp only [denE, denV] at dx
        obtain ⟨hb, hxv⟩ := dx
        obtain ⟨l, hl, hw, _⟩ := S.look (nthB_get h4)
        obtain ⟨z, h6, _⟩ := getS_den hl h5
        have h7 : w.cell? (E.at b o') = some z := hw _ _ h6
        have hsz := (T.tyOk _ _ h3).size
        have hsz' : (T.P.info? e).map (fun i => decide (i.size = 0)) = some false := by
          cases hq : T.P.info? e with
          | none => rw [hq] at hsz; cases hsz
          | some y =>
            rw [hq] at hsz
            simp at hsz
            simp [hsz]
        exact ⟨_, _, _, _, _, by simp only [hop, hxv, Sem.run_bind, run_convert_to_unsafe d1 d2 hsz' h7, Result.andThen_ok, Sem.run_pure], dx', S, Since.refl _ _ _, hk⟩
      · exact hk.elim
    · exact hk.elim
  · rename_i args argTypes hop
    split at hk
    · rename_i x y t tx h1 h2
      have e1 : args = #[x, y] := by rw [← Array.toList_inj]; exact h1
      have e2 : argTypes = #[t, tx] := by rw [← Array.toList_inj]; exact h2
      subst e1; subst e2
      split at hk
      · rename_i kn m htx hym
        have hyd := hev y
        rw [hym] at hyd
        simp only [denE, denV] at hyd
        obtain ⟨u, w', E', h', v, k1, k2⟩ := zappX_snd T S (ty := o.type) (kq := kn) (hev x) (T.tyOk _ _ htx).desc hk
        refine ⟨u, w', E', h', v, ?_, k2⟩
        simp [hop, resolve, invoke, builtin, hyd, k1]
      · obtain ⟨u, w', E', h', v, k1, k2⟩ := appX_snd T S (ty := o.type) (hev x) (hev y) hk
        refine ⟨u, w', E', h', v, ?_, k2⟩
        simp [hop, resolve, invoke, builtin, k1]
    · exact hk.elim
  · rename_i args argTypes hop
    split at hk
    · rename_i x y t tx h1 h2
      have e1 : args = #[x, y] := by rw [← Array.toList_inj]; exact h1
      have e2 : argTypes = #[t, tx] := by rw [← Array.toList_inj]; exact h2
      subst e1; subst e2
      obtain ⟨u, w', E', h', v, k1, k2⟩ := copyX_snd T S (ty := o.type) (hev x) (hev y) hk
      refine ⟨u, w', E', h', v, ?_, k2⟩
      simp [hop, resolve, invoke, builtin, k1]
    · exact hk.elim
  · exact eff3_snd T S hev hk

/-- Cells that nobody writes come in as a block that is only read. -/
theorem Sim.ghost {E : Emb} {h : List Blk} {w : World} (S : Sim E h w) {g n : Nat} {k : IntKind} {f : Nat → Int} (hg : g < w.heap.size) (hc : ∀ j, j < n → w.cell? ⟨g, j, none⟩ = some (.int k (f j)) ∧ ¬ mutAt E h g j) :
    Sim (E.push ⟨g, 0, false⟩) (h ++ [.cells false [.ints k n f] 0]) w ∧ Since E h w (E.push ⟨g, 0, false⟩) (h ++ [.cells false [.ints k n f] 0]) w := by
  refine ⟨⟨by simp [Emb.push, S.n], fun i B hi => ?_, fun i j A B hij hi hj hA b o hci hcj => ?_⟩, ⟨by simp, fun i hi => Emb.push_old _ _ hi, Nat.le_refl _, fun _ _ _ => rfl, fun _ _ _ _ => ⟨rfl, fun _ => rfl⟩, fun b o hm _ => ?_, rfl, rfl, rfl, fun _ _ h => h⟩⟩
  · rcases getElem?_push_cases hi with ⟨h1, h2⟩ | ⟨h1, h2⟩
    · rw [Emb.push_old _ _ (by rw [S.n]; exact h2)]
      exact okBlk_le (Emb.le_push _ _) (S.ok i B h1)
    · subst h2; subst h1
      rw [← S.n, Emb.push_new]
      refine ⟨.inl hg, ⟨_, ⟨[], rfl, rfl⟩, fun j v hj => ?_⟩, fun hm => by cases hm⟩
      rw [List.append_nil] at hj
      have hlt : j < n := by
        rcases Nat.lt_or_ge j n with h' | h'
        · exact h'
        · rw [List.getElem?_eq_none (by rw [length_intsOf]; exact h')] at hj; cases hj
      rw [intsOf_get hlt] at hj
      cases hj
      show w.cell? ⟨g, 0 + j, none⟩ = _
      rw [Nat.zero_add]
      exact (hc j hlt).1
  · rcases getElem?_push_cases hi with ⟨h1, h2⟩ | ⟨h1, h2⟩ <;> rcases getElem?_push_cases hj with ⟨h3, h4⟩ | ⟨h3, h4⟩
    · rw [Emb.push_old _ _ (by rw [S.n]; exact h2)] at hci
      rw [Emb.push_old _ _ (by rw [S.n]; exact h4)] at hcj
      exact S.dis i j A B hij h1 h3 hA b o hci hcj
    · rw [Emb.push_old _ _ (by rw [S.n]; exact h2)] at hci
      subst h3; subst h4
      rw [← S.n, Emb.push_new] at hcj
      obtain ⟨rfl, h5, h6⟩ := hcj
      simp only [sizeS, Nat.add_zero, Nat.zero_add] at h6
      exact (hc o h6).2 ⟨i, A, h1, hA, hci⟩
    · subst h2
      cases hA
    · exact hij (h1.trans h3.symm)
  · obtain ⟨i, B, hi, hB, hcv⟩ := hm
    rcases getElem?_push_cases hi with ⟨h1, h2⟩ | ⟨h1, h2⟩
    · rw [Emb.push_old _ _ (by rw [S.n]; exact h2)] at hcv
      exact ⟨i, B, h1, hB, hcv⟩
    · subst h2
      cases hB

end Go.Anv

/- The engine, part 6c: the operations with an effect, and the walker as a whole. Plain theorems; their conditions are the table's own facts. -/
namespace Go.Anv
open Go

/-! ### one operation -/

section walk
variable {T : Tbl} {O : Org} (on : O.E.n = O.h.length) {E : Emb} {s : St} {a : Act} {w : World}
include on

theorem newX_snd (R : Rel O E s a w) (t : TypeId) {cs : List Seg} {v : Value} (hd : denS E cs v.cells.toList) (dst : Option Tmp) {k : St → Prop} (hk : newX s.tmps s.heap cs dst k) {next : Act → World → Prop}
    (hn : ∀ E' s' a' w', k s' → Rel O E' s' a' w' → next a' w') : next (a.put dst (.pointer (some ⟨w.heap.size, 0, none⟩))) (w.alloc (.cells v.cells t)) := by
  obtain ⟨h1, h2⟩ := new_snd R.sim t hd
  simp only [newX, forceS_eq, pushBK_eq, putK_eq] at hk
  refine hn _ _ _ _ hk ((R.on on h1 h2).put dst ?_)
  simp only [denE, denV]
  rw [Nat.zero_add, ← R.sim.n]
  exact ⟨by simp [Emb.push], by rw [push_at]⟩

theorem invD_snd (R : Rel O E s a w) {m : String} {r : EV} {args : List EV} {k : EV → List Blk → Prop} (hk : invD T m r args s.heap k) {rv : Value} {vs : Array Value} (hr : denE E r rv) (ha : denT E args vs.toList)
    {o : Oper} {next : Act → World → Prop} {Q : Exit → Act → World → Prop}
    (hn : ∀ E' v h' u w', k v h' → denE E' v u → Rel O E' { s with heap := h' } a w' → next (a.put o.dst u) w') :
    o.upon T.P a next Q ((invoke (.fn (.method m) #[]) (#[rv] ++ vs) : Sem Next).run T.P w) := by
  unfold invD at hk
  split at hk
  · rename_i t b off
    split at hk
    · rename_i f hf
      simp only [denE, denV, denL] at hr
      obtain ⟨x, rfl, v, _, hx, ⟨hb, rfl⟩, rfl⟩ := hr
      simp only [List.cons.injEq, and_true] at hx
      subst hx
      have hm := (T.mthOk t m f hf (E.at b off) w).1
      have hargs : denT E (.s (.ptr b off) :: args) (#[Value.pointer (some (E.at b off))] ++ vs).toList := by
        simp only [Array.toList_append]
        exact ⟨_, _, rfl, ⟨hb, rfl⟩, ha⟩
      have hinv : ∀ (r : Result Next), (callFunc f (#[Value.pointer (some (E.at b off))] ++ vs)).run T.P w = r → (invoke (.fn (.method m) #[]) (#[Value.iface t (.pointer (some (E.at b off)))] ++ vs) : Sem Next).run T.P w = r := fun r h0 => by
        have h1 : (#[Value.iface t (.pointer (some (E.at b off)))] ++ vs)[0]? = some (.iface t (.pointer (some (E.at b off)))) := by
          rw [Array.getElem?_append_left (by simp)]
          rfl
        have h2 : (#[Value.iface t (.pointer (some (E.at b off)))] ++ vs).extract 1 (#[Value.iface t (.pointer (some (E.at b off)))] ++ vs).size = vs := by
          rw [← Array.toList_inj, Array.toList_extract, List.extract_eq_take_drop]
          simp only [Array.toList_append, List.singleton_append, List.drop_succ_cons, List.drop_zero, Array.size_append, List.size_toArray, List.length_cons, List.length_nil]
          exact List.take_of_length_le (by simp)
        simp only [invoke, h1, callMethod, Sem.run_bind, run_program, Result.andThen_ok, hm, h2]
        exact h0
      rcases hk.go with ⟨⟨F, hF, hbd, hname⟩, hc⟩ | hx
      · have hrun : (callFunc f (#[Value.pointer (some (E.at b off))] ++ vs)).run T.P w = .ok (.enter f (#[Value.pointer (some (E.at b off))] ++ vs)) w := by
          simp only [callFunc, Sem.run_bind, Result.andThen_ok, run_program, hF]
          simp [hbd]
          intro hh
          simp [hh] at hname
        rw [hinv _ hrun, Oper.upon_enter]
        refine (hc E w _ R.sim (O.Z.since R.sin) hargs).mono ?_
        rintro e w' ⟨v, x, h', E', rfl, hd, S', N', hk'⟩
        exact hn E' x h' v w' hk' hd (R.on on S' N')
      · obtain ⟨u, w', hr, v, x, h', E', he, hd, S', N', hk'⟩ := hx E w _ R.sim hargs
        simp only [Ending.returned.injEq] at he
        subst he
        rw [hinv _ hr, Oper.upon_value]
        exact hn E' x h' u w' hk' hd (R.on on S' N')
    · exact hk.elim
  · exact hk.elim

theorem invX_snd (R : Rel O E s a w) {m : String} {r : EV} {args : List EV} {k : EV → List Blk → Prop} (hk : invX T m r args s.heap k) {rv : Value} {vs : Array Value} (hr : denE E r rv) (ha : denT E args vs.toList)
    {o : Oper} {next : Act → World → Prop} {Q : Exit → Act → World → Prop}
    (hn : ∀ E' v h' u w', k v h' → denE E' v u → Rel O E' { s with heap := h' } a w' → next (a.put o.dst u) w') :
    o.upon T.P a next Q ((invoke (.fn (.method m) #[]) (#[rv] ++ vs) : Sem Next).run T.P w) := by
  unfold invX at hk
  rw [evK_eq] at hk
  simp only [List.map_nil, List.append_nil] at hk
  exact invD_snd on R hk hr ha hn

theorem callV_snd (R : Rel O E s a w) {f : EV} {args : List EV} {k : EV → List Blk → Prop} (hk : callV T f args s.heap k) {fv : Value} {vs : Array Value} (hf : denE E f fv) (ha : denT E args vs.toList)
    {o : Oper} {next : Act → World → Prop} {Q : Exit → Act → World → Prop}
    (hn : ∀ E' v h' u w', k v h' → denE E' v u → Rel O E' { s with heap := h' } a w' → next (a.put o.dst u) w') :
    o.upon T.P a next Q ((do let d ← Deferred.ofValue fv vs; invoke d.target d.args : Sem Next).run T.P w) := by
  unfold callV at hk
  split at hk
  · rename_i f a1 c1
    rw [argsK_eq] at hk
    simp only [denE, denV] at hf
    obtain ⟨f', c', rfl, h1, h2⟩ := hf
    have hm : ∀ {l : List SV} {vs : List Value}, denL E l vs → denT E (l.map .s) vs := fun {l} => by
      induction l with
      | nil => intro vs h; simpa only [denL, denT, List.map_nil] using h
      | cons x r ih =>
        intro vs h
        simp only [denL] at h
        obtain ⟨v, l', rfl, h3, h4⟩ := h
        simp only [List.map_cons, denT]
        exact ⟨v, l', rfl, h3, ih h4⟩
    have happ : ∀ {x y : List EV} {p q : List Value}, denT E x p → denT E y q → denT E (x ++ y) (p ++ q) := fun {x} => by
      induction x with
      | nil => intro y p q h3 h4; simp only [denT] at h3; subst h3; exact h4
      | cons z r ih =>
        intro y p q h3 h4
        simp only [denT] at h3
        obtain ⟨v, l', rfl, h5, h6⟩ := h3
        exact ⟨v, l' ++ q, rfl, h5, ih h6 h4⟩
    have hargs : denT E (a1.map .s ++ args ++ c1.map .s) (f' ++ vs ++ c').toList := by simp only [Array.toList_append]; exact happ (happ (hm h1) ha) (hm h2)
    rcases hk.go with ⟨⟨F, hF, hb, hname⟩, hc⟩ | hx
    · have hrun : (do let d ← Deferred.ofValue (.func (.func f) f' c') vs; invoke d.target d.args : Sem Next).run T.P w = .ok (.enter f (f' ++ vs ++ c')) w := by
        simp only [Deferred.ofValue, invoke, callFunc, Sem.run_bind, Result.andThen_ok, pure_bind, run_program, hF]
        simp [hb]
        intro hh
        simp [hh] at hname
      rw [hrun, Oper.upon_enter]
      refine (hc E w (f' ++ vs ++ c') R.sim (O.Z.since R.sin) hargs).mono ?_
      rintro e w' ⟨v, x, h', E', rfl, hd, S', N', hk'⟩
      exact hn E' x h' v w' hk' hd (R.on on S' N')
    · obtain ⟨u, w', hr, v, x, h', E', he, hd, S', N', hk'⟩ := hx E w (f' ++ vs ++ c') R.sim hargs
      simp only [Ending.returned.injEq] at he
      subst he
      have hrun : (do let d ← Deferred.ofValue (.func (.func f) f' c') vs; invoke d.target d.args : Sem Next).run T.P w = .ok (.value u) w' := by
        simp only [Deferred.ofValue, invoke, pure_bind]
        exact hr
      rw [hrun, Oper.upon_value]
      exact hn E' x h' u w' hk' hd (R.on on S' N')
  · rename_i m r a1 c1
    rw [argsK_eq] at hk
    simp only [List.map_nil, List.append_nil] at hk
    simp only [denE, denV, denL] at hf
    obtain ⟨f', c', rfl, ⟨rv, fl, hfl, h1, h2⟩, _⟩ := hf
    have hm : ∀ {l : List SV} {vs : List Value}, denL E l vs → denT E (l.map .s) vs := fun {l} => by
      induction l with
      | nil => intro vs h; simpa only [denL, denT, List.map_nil] using h
      | cons x r ih =>
        intro vs h
        simp only [denL] at h
        obtain ⟨v, l', rfl, h3, h4⟩ := h
        simp only [List.map_cons, denT]
        exact ⟨v, l', rfl, h3, ih h4⟩
    have happ : ∀ {x y : List EV} {p q : List Value}, denT E x p → denT E y q → denT E (x ++ y) (p ++ q) := fun {x} => by
      induction x with
      | nil => intro y p q h3 h4; simp only [denT] at h3; subst h3; exact h4
      | cons z r ih =>
        intro y p q h3 h4
        simp only [denT] at h3
        obtain ⟨v, l', rfl, h5, h6⟩ := h3
        exact ⟨v, l' ++ q, rfl, h5, ih h6 h4⟩
    have hfa : f' = #[rv] ++ fl.toArray := by rw [← Array.toList_inj]; simpa using hfl
    have hargs : denT E (a1.map .s ++ args) (fl.toArray ++ vs).toList := by
      rw [Array.toList_append]
      exact happ (hm h2) ha
    have := invD_snd on R hk (rv := rv) (vs := fl.toArray ++ vs) (r := .s r) (by simp only [denE]; exact h1) hargs (o := o) (next := next) (Q := Q) hn
    have hrun : (do let d ← Deferred.ofValue (.func (.method m) f' c') vs; invoke d.target d.args : Sem Next).run T.P w = (invoke (.fn (.method m) #[]) (#[rv] ++ (fl.toArray ++ vs)) : Sem Next).run T.P w := by
      rw [hfa]
      simp only [Deferred.ofValue, pure_bind, invoke, Array.append_assoc]
    rw [hrun]
    exact this
  · exact hk.elim

theorem callX_snd (R : Rel O E s a w) {f : EV} {args : List EV} {k : EV → List Blk → Prop} (hk : callX T f args s.heap k) {fv : Value} {vs : Array Value} (hf : denE E f fv) (ha : denT E args vs.toList)
    {o : Oper} {next : Act → World → Prop} {Q : Exit → Act → World → Prop}
    (hn : ∀ E' v h' u w', k v h' → denE E' v u → Rel O E' { s with heap := h' } a w' → next (a.put o.dst u) w') :
    o.upon T.P a next Q ((do let d ← Deferred.ofValue fv vs; invoke d.target d.args : Sem Next).run T.P w) := by
  unfold callX at hk
  split at hk
  · obtain ⟨hg, hk⟩ := hk
    simp only [denE] at hf
    exact callV_snd on R hk (hf.1 hg) ha hn
  · exact callV_snd on R hk hf ha hn

theorem opN_snd (R : Rel O E s a w) {o : Oper} {k : St → Prop} (hk : opN T s o k) {next : Act → World → Prop} {Q : Exit → Act → World → Prop}
    (hn : ∀ E' s' a' w', k s' → Rel O E' s' a' w' → next a' w') : o.wp T.P a w next Q := by
  have hpx := px_snd T R.sim s.ev s.ev a.eval o (fun x _ => ev_denE R.fr x) (fun x => ev_denE R.fr x)
  obtain ⟨ts, h⟩ := s
  unfold opN at hk
  simp only [forceE_eq, putK_eq] at hk
  unfold Oper.wp
  have hev : (St.ev ⟨ts, h⟩) = evT ts := rfl
  simp only [hev] at hpx
  split at hk
  · rename_i v hv
    rw [hv] at hpx
    obtain ⟨z, h1, h2⟩ := hpx
    rw [h1, Oper.upon_value]
    exact hn _ _ _ _ hk (R.put o.dst h2)
  · rename_i p v hv
    rw [hv] at hpx
    obtain ⟨hp, hk⟩ := hk
    obtain ⟨z, h1, h2⟩ := hpx hp
    rw [h1, Oper.upon_value]
    exact hn _ _ _ _ hk (R.put o.dst h2)
  · clear hpx
    unfold effX at hk
    simp only [forceE_eq, forceS_eq, putK_eq] at hk
    unfold execOp
    split at hk
    · rename_i t x v hop
      obtain ⟨h', w', h1, h2, h3, h4⟩ := storeX_snd T R.sim (ev_denE R.fr x) (ev_denE R.fr v) hk
      simp only [hop, Sem.run_bind, h1, Result.andThen_ok, Sem.run_pure, Oper.upon_skip]
      exact hn _ _ _ _ h2 ((R.on on h3 h4).put o.dst (by simp only [denE]))
    · rename_i t hop
      split at hk
      · rename_i i hi
        split at hk
        · rename_i cs hcs
          obtain ⟨z, hz, hzd⟩ := run_zero_ti T hi w
          have := newX_snd on R t (segsOf_den (hzd E) hcs) o.dst hk hn
          simpa [hop, Instr.alloc, hz, newVar, newRow, Oper.upon_value] using this
        · exact hk.elim
      · exact hk.elim
    · rename_i t x hop
      split at hk
      · rename_i cs hcs
        have := newX_snd on R t (segsOf_den (ev_denE R.fr x) hcs) o.dst hk hn
        simpa [hop, Instr.box, newVar, newRow, Oper.upon_value] using this
      · exact hk.elim
    · rename_i t parts hop
      have hk := ungK_spec (evT ts) parts.toList hk
      split at hk
      · rename_i cs hcs
        obtain ⟨arr, h1, h2⟩ := buildX_snd T (E := E) w (fun x => there (evT ts x)) a.eval (fun x => there_den (ev_denE R.fr x)) hcs
        simp only [hop, Sem.run_bind, h1, Result.andThen_ok, Sem.run_pure, Oper.upon_value]
        exact hn _ _ _ _ hk (R.put o.dst (by simp only [denE]; exact ⟨arr, rfl, h2⟩))
      · exact hk.elim
    · rename_i f args argTypes hop
      have hargs := denT_map (E := E) (evT ts) a.eval args.toList (fun x _ => ev_denE R.fr x)
      have := callX_snd on R hk (ev_denE R.fr f) (vs := args.map a.eval) (by simpa using hargs) (o := o) (next := next) (Q := Q) (fun E' v h' u w' hk' hd hR => hn _ _ _ _ hk' (hR.put o.dst hd))
      simpa [hop, resolve] using this
    · rename_i r m args argTypes hop
      have hargs := denT_map (E := E) (evT ts) a.eval args.toList (fun x _ => ev_denE R.fr x)
      have := invX_snd on R hk (ev_denE R.fr r) (vs := args.map a.eval) (by simpa using hargs) (o := o) (next := next) (Q := Q) (fun E' v h' u w' hk' hd hR => hn _ _ _ _ hk' (hR.put o.dst hd))
      simpa [hop, resolve] using this
    · rename_i t m key v hop
      obtain ⟨w', h', h1, h2, h3, h4⟩ := mupX_snd T R.sim (ev_denE R.fr m) (ev_denE R.fr key) (ev_denE R.fr v) hk
      simp only [hop, Sem.run_bind, h1, Result.andThen_ok, Sem.run_pure, Oper.upon_skip]
      exact hn _ _ _ _ h4 ((R.on on h2 h3).put o.dst (by simp only [denE]))
    · rename_i t m key v hop
      obtain ⟨w', h', h1, h2, h3, h4⟩ := mupX_snd T R.sim (ev_denE R.fr m) (ev_denE R.fr key) (ev_denE R.fr v) hk
      simp only [hop, Sem.run_bind, h1, Result.andThen_ok, Sem.run_pure, Oper.upon_skip]
      exact hn _ _ _ _ h4 ((R.on on h2 h3).put o.dst (by simp only [denE]))
    · rename_i t g i hop
      unfold globX at hk
      split at hk
      · rename_i n e _ _ _ q x kq m f ht hi hA
        split at hk
        · rename_i te _ _ _ hte
          split at hk
          · rename_i hmn
            have hmn := Nat.eq_of_beq_eq_true hmn
            subst hmn
            obtain ⟨hx, hk⟩ := hk
            rw [pushBK_eq, putK_eq, Nat.zero_add] at hk
            have Z := O.Z.since R.sin
            have hsz := run_sizeOf_ti T hte w
            have hd := (T.tyOk _ _ ht).desc
            simp only [descOk] at hd
            have hiv := ev_denE R.fr i
            simp only [St.ev] at hiv
            rw [hi] at hiv
            simp only [denE, denV] at hiv
            have hc : ∀ j, j < m → w.cell? ⟨g, j, none⟩ = some (.int kq (f j)) ∧ g < w.heap.size ∧ ¬ mutAt E h g j := fun j hj => by
              obtain ⟨⟨v, h1, h2⟩, h3⟩ := Z g j _ (seatA_ok g kq m f hA j hj)
              subst h2
              exact ⟨h1, h3⟩
            obtain ⟨S', N'⟩ := R.sim.ghost (g := g) (n := m) (k := kq) (f := f) (hc 0 (by omega)).2.1 fun j hj => ⟨(hc j hj).1, (hc j hj).2.2⟩
            have hR := (R.on on S' N').put o.dst (v := .s (.pix h.length 0 x.toNat)) (u := .pointer (some ⟨g, x.toNat, none⟩)) (by
              rw [← R.sim.n]
              simp only [denE, denV, Emb.at, Emb.push_new]
              exact ⟨by simp [Emb.push], by simp⟩)
            have hrun : (Instr.indexAt t (a.eval (.global g)) (a.eval i)).run T.P w = .ok (.pointer (some ⟨g, x.toNat, none⟩)) w := by
              rw [hiv]
              simp [Instr.indexAt, Act.eval, asIntOf, run_underlying hd, Instr.sureAddr, hx, hsz, Addr.add]
              intro h0; omega
            simp only [hop, Sem.run_bind, hrun, Result.andThen_ok, Sem.run_pure, Oper.upon_value]
            exact hn _ _ _ _ hk hR
          · exact hk.elim
        · exact hk.elim
      · exact hk.elim
    · obtain ⟨u, w', E', h', v, h1, h2, h3, h4, h5⟩ := eff2_snd T R.sim (ρ := a.eval) (fun x => ev_denE R.fr x) hk
      unfold execOp at h1
      rw [h1, Oper.upon_value]
      have hR := (R.on on h3 h4).put o.dst h2
      exact hn _ _ _ _ h5 hR

theorem opG_snd (R : Rel O E s a w) {o : Oper} {g : Bool} {k : St → Prop} (hk : opG T s o g k) {next : Act → World → Prop} {Q : Exit → Act → World → Prop}
    (hn : ∀ E' s' a' w', k s' → Rel O E' s' a' w' → next a' w') : (g = true → o.wp T.P a w next Q) ∧ (g = false → next (a.put o.dst undef) w) := by
  have hob : ∀ {l : List Operand}, oblig g (l.map s.ev) → g = true → ∀ x ∈ l, denE E (strip (s.ev x)) (a.eval x) := fun {l} => by
    induction l with
    | nil => intro _ _ x hx; cases hx
    | cons y r ih =>
      intro h hg x hx
      have hy := ev_denE R.fr y
      simp only [List.map_cons] at h
      rcases List.mem_cons.1 hx with rfl | hx
      · cases he : s.ev x with
        | gd g' v =>
          rw [he] at h hy
          simp only [oblig] at h
          simp only [denE] at hy
          exact hy.1 (h.1 hg)
        | _ => rw [he] at hy; exact hy
      · refine ih ?_ hg x hx
        cases he : s.ev y with
        | gd g' v => rw [he] at h; exact h.2
        | _ => rw [he] at h; exact h
  have hpx : (g = true → oblig g ((looks o.op).map s.ev) → (px T s.heap (fun x => strip (s.ev x)) s.ev o.op).yl E T.P w (execOp a.eval o)) := fun hg ho =>
    px_snd T R.sim _ s.ev a.eval o (hob ho hg) (fun x => ev_denE R.fr x)
  obtain ⟨ts, h⟩ := s
  have hev : (St.ev ⟨ts, h⟩) = evT ts := rfl
  simp only [hev] at hpx
  unfold opG at hk
  simp only [forceE_eq, putK_eq] at hk
  split at hk
  · rename_i v hv
    obtain ⟨ho, hk⟩ := (obligK_iff _ _ _).1 hk
    refine ⟨fun hg => ?_, fun hg => hn _ _ _ _ hk (R.put o.dst ?_)⟩
    · have := hpx hg ho
      rw [hv] at this
      obtain ⟨z, h1, h2⟩ := this
      unfold Oper.wp
      rw [h1, Oper.upon_value]
      refine hn _ _ _ _ hk (R.put o.dst ?_)
      simp only [denE]
      exact ⟨fun _ => h2, fun hf => absurd (hg.symm.trans hf) (by decide)⟩
    · simp only [denE]
      exact ⟨fun hf => absurd (hg.symm.trans hf) (by decide), fun _ => trivial⟩
  · rename_i p v hv
    obtain ⟨ho, hp, hk⟩ := (obligK_iff _ _ _).1 hk
    refine ⟨fun hg => ?_, fun hg => hn _ _ _ _ hk (R.put o.dst ?_)⟩
    · have := hpx hg ho
      rw [hv] at this
      obtain ⟨z, h1, h2⟩ := this (hp hg)
      unfold Oper.wp
      rw [h1, Oper.upon_value]
      refine hn _ _ _ _ hk (R.put o.dst ?_)
      simp only [denE]
      exact ⟨fun _ => h2, fun hf => absurd (hg.symm.trans hf) (by decide)⟩
    · simp only [denE]
      exact ⟨fun hf => absurd (hg.symm.trans hf) (by decide), fun _ => trivial⟩
  · unfold ifB at hk
    refine ⟨fun hg => ?_, fun hg => ?_⟩
    · subst hg
      exact opN_snd on R hk hn
    · subst hg
      exact hn _ _ _ _ hk (R.put o.dst (by simp only [denE]))

omit on in
theorem guardK_snd (R : Rel O E s a w) {ops : Array Oper} {j : Nat} {want : Bool} {k : Bool → Prop} (h : guardK ops s.tmps j want k) : ∃ g, (yielded ops a.tmps j == some want) = g ∧ k g := by
  unfold guardK at h
  split at h
  · rename_i o ho
    split at h
    · rename_i d hd
      have ho' : ops[j]? = some o := by simpa using ho
      have hev := ev_denE R.fr (.tmp d)
      simp only [St.ev, evT, Act.eval] at hev
      have hy : yielded ops a.tmps j = match a.tmps[d]? with
          | some (.bool b) => some b
          | _ => none := by simp [yielded, ho', hd]; rfl
      have hin : ∀ b, a.tmps.getD d undef = .bool b → a.tmps[d]? = some (.bool b) := fun b hb => by
        cases hq : a.tmps[d]? with
        | none => simp [hq, undef] at hb
        | some v => simp [hq] at hb; rw [hb]
      have hout : a.tmps.getD d undef = undef → (match a.tmps[d]? with
            | some (.bool b) => some b
            | _ => none) = (none : Option Bool) := fun h0 => by
            cases hq : a.tmps[d]? with
            | none => rfl
            | some v => simp [hq] at h0; rw [h0]; rfl
      split at h
      · rename_i t ht
        rw [ht] at hev
        simp only [denE, denV] at hev
        refine ⟨_, ?_, h⟩
        rw [hy, hin t hev]
        cases t <;> rfl
      · rename_i t ht
        rw [ht] at hev
        simp only [denE, denV] at hev
        refine ⟨_, ?_, h⟩
        rw [hy, hin t hev]
        cases t <;> rfl
      · rename_i g' t ht
        rw [ht] at hev
        simp only [denE, denV] at hev
        refine ⟨_, ?_, h⟩
        cases g' with
        | true =>
          rw [hy, hin t (hev.1 rfl)]
          cases t <;> rfl
        | false => rw [hy, hout (hev.2 rfl)]; rfl
      · rename_i g' t ht
        rw [ht] at hev
        simp only [denE, denV] at hev
        refine ⟨_, ?_, h⟩
        cases g' with
        | true =>
          rw [hy, hin t (hev.1 rfl)]
          cases t <;> rfl
        | false => rw [hy, hout (hev.2 rfl)]; rfl
      · rename_i g' v ht _ _
        rw [ht] at hev
        simp only [denE] at hev
        obtain ⟨hg, h⟩ := h
        exact ⟨false, by rw [hy, hout (hev.2 hg)]; rfl, h⟩
      · exact h.elim
    · exact h.elim
  · exact h.elim

/-- One operation: wanted or not. -/
theorem opX_snd (R : Rel O E s a w) {ops : Array Oper} {o : Oper} {k : St → Prop} (hk : opX T ops s o k) {next : Act → World → Prop} {Q : Exit → Act → World → Prop}
    (hn : ∀ E' s' a' w', k s' → Rel O E' s' a' w' → next a' w') :
    if Region.wanted o (yielded ops a.tmps) then o.wp T.P a w next Q else next (a.put o.dst undef) w := by
  unfold opX at hk
  split at hk
  · rename_i hg
    rw [if_pos (by simp [Region.wanted, hg])]
    exact opN_snd on R hk hn
  · rename_i j want hg
    obtain ⟨g, h1, hk⟩ := guardK_snd R hk
    have h2 : Region.wanted o (yielded ops a.tmps) = g := by simp only [Region.wanted, hg]; exact h1
    rw [h2]
    obtain ⟨h3, h4⟩ := opG_snd on R hk hn (Q := Q)
    cases g with
    | true => exact h3 rfl
    | false => exact h4 rfl

theorem opsX_snd {ops : Array Oper} {Q : Exit → Act → World → Prop} : ∀ (l : List Oper) {E : Emb} {s : St} {a : Act} {w : World}, Rel O E s a w → ∀ {k : St → Prop}, opsX T ops l s k →
    (∀ E' s' a' w', k s' → Rel O E' s' a' w' → Q .normal a' w') → wpList T.P ops Q l a w
  | [], _, _, _, _, R, _, hk, hn => hn _ _ _ _ hk R
  | o :: r, _, _, _, _, R, k, hk, hn => by
    have hk : opX T ops _ o (fun s' => opsX T ops r s' k) := hk
    have := opX_snd on R hk (next := wpList T.P ops Q r) (Q := Q) (fun E' s' a' w' h1 h2 => opsX_snd r h2 h1 hn)
    unfold wpList
    split
    · rename_i hw; rw [if_pos hw] at this; exact .inl this
    · rename_i hw; rw [if_neg hw] at this; exact this

/-! ### code -/

omit on in
theorem lift_seq {next : St → Prop} {K : Exit → St → Prop} {b : Code} (hb : ∀ E s a w, next s → Rel O E s a w → b.wp T.P (Lift O K) a w) :
    ∀ e a w, Lift O (seqK next K) e a w → Exit.then (b.wp T.P (Lift O K)) (Lift O K) e a w := by
  rintro e a w ⟨E, s, hk, R⟩
  cases e <;> first
    | exact hb E s a w hk R
    | exact ⟨E, s, hk, R⟩

omit on in
theorem lift_block {id : Nat} {K : Exit → St → Prop} : ∀ e a w, Lift O (blockK id K) e a w → Exit.inBlock id (Lift O K) e a w := by
  rintro e a w ⟨E, s, hk, R⟩
  cases e <;> first
    | exact ⟨E, s, hk, R⟩
    | (simp only [blockK, Exit.inBlock] at *; split <;> rename_i h <;> simp only [h, if_true, if_false] at hk <;> exact ⟨E, s, hk, R⟩)

omit on in
theorem lift_scope {K : Exit → St → Prop} : ∀ e a w, Lift O (scopeK K) e a w → Exit.noGoto (Lift O K) e a w := by
  rintro e a w ⟨E, s, hk, R⟩
  cases e <;> first
    | exact hk.elim
    | exact ⟨E, s, hk, R⟩

theorem wpx_snd : ∀ (c : Code) {E : Emb} {s : St} {a : Act} {w : World} {K : Exit → St → Prop}, wpx T O c s K → Rel O E s a w → c.wp T.P (Lift O K) a w
  | .skip, _, _, _, _, _, h, R => wp_skip ⟨_, _, h, R⟩
  | .label _, _, _, _, _, _, h, R => wp_label ⟨_, _, h, R⟩
  | .region id ops false, _, _, _, _, _, h, R => by
    refine wp_region_list (opsX_snd on ops.toList R (k := fun s => _) h (fun E' s' a' w' h1 h2 => ⟨E', s', h1, h2⟩))
  | .region id ops true, _, _, _, _, _, h, R => h _ _ _ R
  | .seq x y, _, _, _, _, K, h, R => by
    refine wp_seq (Code.wp_mono (lift_seq fun E s a w hn hR => wpx_snd y hn hR) (wpx_snd x h R))
  | .cond c x y, _, s, a, _, K, h, R => by
    change (match evT s.tmps c with
      | .s (.bool t) => ifB t (wpx T O x s K) (wpx T O y s K)
      | _ => False) at h
    split at h
    · rename_i t ht
      have hev := ev_denE R.fr c
      simp only [St.ev] at hev
      rw [ht] at hev
      simp only [denE, denV] at hev
      refine wp_cond hev ?_
      unfold ifB at h
      cases t with
      | true => exact wpx_snd x h R
      | false => exact wpx_snd y h R
    · exact h.elim
  | .block id x, _, _, _, _, K, h, R => wp_block (Code.wp_mono lift_block (wpx_snd x h R))
  | .loop x, _, _, _, _, _, h, R => h _ _ _ R
  | .exit id, _, _, _, _, _, h, R => wp_exit ⟨_, _, h, R⟩
  | .ret, _, _, _, _, _, h, R => wp_ret ⟨_, _, h, R⟩
  | .goto l, _, _, _, _, _, h, R => wp_goto ⟨_, _, h, R⟩
  | .scope x, _, _, _, _, K, h, R => wp_scope_straight (Code.wp_mono lift_scope (wpx_snd x h R))
  | .rangeFunc .., _, _, _, _, _, h, _ => h.elim
  | .refuse _, _, _, _, _, _, h, _ => h.elim

end walk

end Go.Anv

/- The engine, part 7: functions, loops, calls: the rules by which a proof goes on where the walker stops. Plain theorems; their conditions are the table's own facts. -/
namespace Go.Anv
open Go

/-! ### what a function hands back -/

theorem resV_snd (T : Tbl) {E : Emb} {s : St} {a : Act} {w : World} (f : frameOk E s.tmps a.tmps) (S : Sim E s.heap w) {r : ResultVar} {v : EV} (h : resV T s r = some v) :
    ∃ u, (match r with
      | .tmp t => pure (a.tmps.getD t undef)
      | .cell p t => do loadVar t (← asAddr (a.tmps.getD p undef)) : Sem Value).run T.P w = .ok u w ∧ denE E v u := by
  cases r with
  | tmp t =>
    have hev := ev_denE f (.tmp t)
    simp only [St.ev, evT, Act.eval] at hev
    simp only [resV] at h
    refine ⟨_, rfl, ?_⟩
    split at h
    · cases h
    · cases h
    · simp only [Option.some.injEq] at h; subst h; exact hev
  | cell p t =>
    have hev := ev_denE f (.tmp p)
    simp only [St.ev, evT, Act.eval] at hev
    simp only [resV] at h
    split at h
    · rename_i v' hv
      simp only [Option.some.injEq] at h
      subst h
      have := loadX_snd T S t _ _ hev
      rw [hv] at this
      obtain ⟨u, h1, h2⟩ := this
      refine ⟨u, ?_, h2⟩
      have hp : ∃ ad, a.tmps.getD p undef = .pointer (some ad) := by
        unfold loadX at hv
        split at hv
        · rename_i hq
          rw [hq] at hev
          simp only [denE, denV] at hev
          exact ⟨_, hev.2⟩
        · rename_i hq
          rw [hq] at hev
          simp only [denE, denV] at hev
          exact ⟨_, hev.2⟩
        · rename_i hq
          rw [hq] at hev
          simp only [denE, denV] at hev
          exact ⟨_, hev.2⟩
        · cases hv
      obtain ⟨ad, had⟩ := hp
      simp only
      rw [had] at h1 ⊢
      simpa [Instr.loadAt, Instr.sureAddr, asAddr] using h1
    · cases h

theorem resVs_snd (T : Tbl) {E : Emb} {s : St} {a : Act} {w : World} (f : frameOk E s.tmps a.tmps) (S : Sim E s.heap w) : ∀ {rs : List ResultVar} {vs : List EV}, resVs T s rs = some vs →
    ∃ us, (rs.mapM fun r => (match r with
      | .tmp t => pure (a.tmps.getD t undef)
      | .cell p t => do loadVar t (← asAddr (a.tmps.getD p undef)) : Sem Value)).run T.P w = .ok us w ∧ denT E vs us
  | [], vs, h => by
    simp only [resVs, Option.some.injEq] at h
    subst h
    exact ⟨[], rfl, by simp [denT]⟩
  | r :: rs, vs, h => by
    simp only [resVs] at h
    split at h
    · rename_i v vs' h1 h2
      simp only [Option.some.injEq] at h
      subst h
      obtain ⟨u, k1, k2⟩ := resV_snd T f S h1
      obtain ⟨us, k3, k4⟩ := resVs_snd T f S h2
      refine ⟨u :: us, ?_, ⟨u, us, rfl, k2, k4⟩⟩
      rw [List.mapM_cons]
      simp only [Sem.run_bind, k1, Result.andThen_ok, k3, Sem.run_pure]
    · cases h

theorem resX_snd (T : Tbl) {E : Emb} {s : St} {a : Act} {w : World} (f : frameOk E s.tmps a.tmps) (S : Sim E s.heap w) {F : Func} {Q : EV → List Blk → Prop} (h : resX T s F.results.toList Q) :
    ∃ u v, (results F a.tmps).run T.P w = .ok u w ∧ denE E v u ∧ Q v s.heap := by
  have hrun : (results F a.tmps) = (do
      let vs ← (List.toArray <$> F.results.toList.mapM fun r => (match r with
        | .tmp t => pure (a.tmps.getD t undef)
        | .cell p t => do loadVar t (← asAddr (a.tmps.getD p undef)) : Sem Value))
      pure (if h : vs.size = 1 then vs[0] else .tuple vs)) := by
    unfold results
    rw [Array.mapM_eq_mapM_toList]
    rfl
  unfold resX at h
  split at h
  · rename_i r hr
    split at h
    · rename_i v hv
      obtain ⟨u, k1, k2⟩ := resV_snd T f S hv
      refine ⟨u, v, ?_, k2, h⟩
      rw [hrun, hr, List.mapM_cons]
      simp only [List.mapM_nil, Sem.run_bind, Sem.run_map, k1, Result.andThen_ok, Sem.run_pure]
      rfl
    · exact h.elim
  · rename_i rs hne
    split at h
    · rename_i vs hvs
      obtain ⟨us, k1, k2⟩ := resVs_snd T f S hvs
      refine ⟨.tuple us.toArray, .tuple vs, ?_, ⟨_, rfl, by simpa using k2⟩, h⟩
      have hlen : us.length ≠ 1 := by
        have h1 : ∀ {vs : List EV} {us : List Value}, denT E vs us → us.length = vs.length := fun {vs} => by
          induction vs with
          | nil => intro us h; simp only [denT] at h; subst h; rfl
          | cons x r ih => intro us h; simp only [denT] at h; obtain ⟨v, l', rfl, _, h2⟩ := h; simp [ih h2]
        have h2 : ∀ {rs : List ResultVar} {vs : List EV}, resVs T s rs = some vs → vs.length = rs.length := fun {rs} => by
          induction rs with
          | nil => intro vs h; simp only [resVs, Option.some.injEq] at h; subst h; rfl
          | cons x r ih =>
            intro vs h
            simp only [resVs] at h
            split at h
            · rename_i h3 h4; simp only [Option.some.injEq] at h; subst h; simp [ih h4]
            · cases h
        rw [h1 k2, h2 hvs]
        intro h3
        match hq : F.results.toList, h3 with
        | [x], _ => exact hne x hq
      rw [hrun]
      simp only [Sem.run_bind, Sem.run_map, k1, Result.andThen_ok, Sem.run_pure]
      rw [dif_neg (by simpa using hlen)]
    · exact h.elim

theorem nth_append_junks : ∀ (l : List EV) (n i : Nat), nth (l ++ junks n) i = if i < l.length then nth l i else .junk
  | [], n, i => by
    have : ∀ (n i : Nat), nth (junks n) i = .junk := fun n => by
      induction n with
      | zero => intro i; rfl
      | succ n ih => intro i; cases i with
        | zero => rfl
        | succ i => simp only [junks, nth]; exact ih i
    simp [this]
  | x :: l, n, 0 => by simp [nth]
  | x :: l, n, i + 1 => by simp [nth, nth_append_junks l n i]

theorem length_junks : ∀ n, (junks n).length = n
  | 0 => rfl
  | n + 1 => by simp [junks, length_junks n]

theorem denT_length {E : Emb} : ∀ {vs : List EV} {us : List Value}, denT E vs us → us.length = vs.length
  | [], us, h => by simp only [denT] at h; subst h; rfl
  | x :: r, us, h => by simp only [denT] at h; obtain ⟨v, l', rfl, _, h2⟩ := h; simp [denT_length h2]

theorem denT_nth {E : Emb} : ∀ {vs : List EV} {us : List Value} {i : Nat} {u : Value}, denT E vs us → us[i]? = some u → denE E (nth vs i) u
  | [], us, i, u, h, hi => by simp only [denT] at h; subst h; simp at hi
  | x :: r, us, 0, u, h, hi => by
    simp only [denT] at h
    obtain ⟨v, l', rfl, h1, h2⟩ := h
    simp at hi
    subst hi
    exact h1
  | x :: r, us, i + 1, u, h, hi => by
    simp only [denT] at h
    obtain ⟨v, l', rfl, h1, h2⟩ := h
    simp only [nth]
    exact denT_nth h2 (by simpa using hi)

/-- **A function whose body is walked is as the walk says.** -/
theorem fnX_call (T : Tbl) {f : FuncId} {F : Func} (hF : T.P.funcs[f]? = some F) {args : List EV} {h : List Blk} {Q : EV → List Blk → Prop}
    (hX : ∀ E w (Z : TabOk E h w), Sim E h w → fnX T ⟨E, h, w, [], Z⟩ F args h Q) : CallG T f args h Q := by
  intro E w vs S Z hargs
  have hx := hX E w Z S
  unfold fnX at hx
  split at hx
  · rename_i c hc
    rw [frameK_eq] at hx
    refine calls_of_wp hF hc ?_
    have hlen : vs.size = args.length := by rw [← Array.length_toList]; exact denT_length hargs
    have R : Rel ⟨E, h, w, [], Z⟩ E { tmps := args ++ junks (F.ntmps - args.length), heap := h } { tmps := vs ++ Array.replicate (F.ntmps - vs.size) undef, defers := [] } w := by
      refine ⟨⟨by simp [length_junks, hlen], fun i v hi => ?_⟩, rfl, S, Since.refl _ _ _⟩
      rw [nth_append_junks]
      split
      · rename_i hlt
        rw [Array.getElem?_append_left (by omega)] at hi
        exact denT_nth hargs (by simpa using hi)
      · simp only [denE]
    refine Code.wp_mono ?_ (wpx_snd (T := T) (O := ⟨E, h, w, [], Z⟩) S.n c hx R)
    rintro e a' w' ⟨E', s', hk, R'⟩
    cases e <;> first
      | (obtain ⟨u, v, h1, h2, h3⟩ := resX_snd T R'.fr R'.sim hk
         exact ⟨R'.df, u, h1, u, v, s'.heap, E', rfl, h2, R'.sim, R'.sin, h3⟩)
      | exact hk.elim
  · exact hx.elim

theorem Post.mono {E : Emb} {h : List Blk} {w : World} {Q Q' : EV → List Blk → Prop} {e : Ending} {w' : World} (p : Post E h w Q e w') (hq : ∀ v h', Q v h' → Q' v h') : Post E h w Q' e w' := by
  obtain ⟨v, x, h', E', h1, h2, h3, h4, h5⟩ := p
  exact ⟨v, x, h', E', h1, h2, h3, h4, hq _ _ h5⟩

theorem CallG.mono {T : Tbl} {f : FuncId} {args : List EV} {h : List Blk} {Q Q' : EV → List Blk → Prop} (c : CallG T f args h Q) (hq : ∀ v h', Q v h' → Q' v h') : CallG T f args h Q' :=
  fun E w vs S Z ha => (c E w vs S Z ha).mono fun _ _ p => p.mono hq

theorem Does.mono {T : Tbl} {f : FuncId} {args : List EV} {h : List Blk} {Q Q' : EV → List Blk → Prop} (c : Does T f args h Q) (hq : ∀ v h', Q v h' → Q' v h') : Does T f args h Q' := by
  refine ⟨?_⟩
  rcases c.go with ⟨h1, h2⟩ | h1
  · exact .inl ⟨h1, h2.mono hq⟩
  · refine .inr fun E w vs S ha => ?_
    obtain ⟨u, w', h2, h3⟩ := h1 E w vs S ha
    exact ⟨u, w', h2, h3.mono hq⟩

/-! ### values without addresses -/

mutual
def noPtrV : SV → Bool
  | .junk | .int .. | .bool _ | .str _ | .nilptr | .nilslice | .nilmap | .nilfunc | .niliface => true
  | .func _ a c => noPtrL a && noPtrL c
  | .iface _ _ cs => noPtrL cs
  | _ => false
def noPtrL : List SV → Bool
  | [] => true
  | v :: r => noPtrV v && noPtrL r
end

def noPtrS : List Seg → Bool
  | [] => true
  | .one v :: r => noPtrV v && noPtrS r
  | .ints .. :: r => noPtrS r

mutual
def noPtr : EV → Bool
  | .s v => noPtrV v
  | .agg cs => noPtrS cs
  | .tuple vs => noPtrT vs
  | .gd _ v => noPtr v
  | .junk => true
def noPtrT : List EV → Bool
  | [] => true
  | v :: r => noPtr v && noPtrT r
end

mutual
theorem noPtrV_den {E E' : Emb} : ∀ (e : SV) (v : Value), noPtrV e = true → denV E e v → denV E' e v
  | .junk, _, _, h => h
  | .int .., _, _, h => h
  | .bool _, _, _, h => h
  | .str _, _, _, h => h
  | .nilptr, _, _, h => h
  | .nilslice, _, _, h => h
  | .nilmap, _, _, h => h
  | .nilfunc, _, _, h => h
  | .niliface, _, _, h => h
  | .func fn a c, v, hn, h => by
    simp only [noPtrV, Bool.and_eq_true] at hn
    simp only [denV] at h ⊢
    obtain ⟨f', c', rfl, h1, h2⟩ := h
    exact ⟨f', c', rfl, noPtrL_den a _ hn.1 h1, noPtrL_den c _ hn.2 h2⟩
  | .iface t true cs, v, hn, h => by
    simp only [noPtrV] at hn
    simp only [denV] at h ⊢
    obtain ⟨l, rfl, h1⟩ := h
    exact ⟨l, rfl, noPtrL_den cs _ hn h1⟩
  | .iface t false cs, v, hn, h => by
    simp only [noPtrV] at hn
    simp only [denV] at h ⊢
    obtain ⟨l, rfl, h1⟩ := h
    exact ⟨l, rfl, noPtrL_den cs _ hn h1⟩
  | .ptr .., _, hn, _ => by simp [noPtrV] at hn
  | .pix .., _, hn, _ => by simp [noPtrV] at hn
  | .rp .., _, hn, _ => by simp [noPtrV] at hn
  | .slice .., _, hn, _ => by simp [noPtrV] at hn
  | .gs .., _, hn, _ => by simp [noPtrV] at hn
  | .map _, _, hn, _ => by simp [noPtrV] at hn
theorem noPtrL_den {E E' : Emb} : ∀ (l : List SV) (vs : List Value), noPtrL l = true → denL E l vs → denL E' l vs
  | [], _, _, h => h
  | e :: r, vs, hn, h => by
    simp only [noPtrL, Bool.and_eq_true] at hn
    simp only [denL] at h ⊢
    obtain ⟨v, l', rfl, h1, h2⟩ := h
    exact ⟨v, l', rfl, noPtrV_den e v hn.1 h1, noPtrL_den r l' hn.2 h2⟩
end

theorem noPtrS_den {E E' : Emb} : ∀ (cs : List Seg) (l : List Value), noPtrS cs = true → denS E cs l → denS E' cs l
  | [], _, _, h => h
  | .one e :: r, l, hn, h => by
    simp only [noPtrS, Bool.and_eq_true] at hn
    simp only [denS] at h ⊢
    obtain ⟨v, l', rfl, h1, h2⟩ := h
    exact ⟨v, l', rfl, noPtrV_den e v hn.1 h1, noPtrS_den r l' hn.2 h2⟩
  | .ints k n f :: r, l, hn, h => by
    simp only [noPtrS] at hn
    simp only [denS] at h ⊢
    obtain ⟨l', rfl, h2⟩ := h
    exact ⟨l', rfl, noPtrS_den r l' hn h2⟩

mutual
theorem noPtr_den {E E' : Emb} : ∀ (e : EV) (v : Value), noPtr e = true → denE E e v → denE E' e v
  | .s x, v, hn, h => by simp only [noPtr] at hn; simp only [denE] at h ⊢; exact noPtrV_den x v hn h
  | .agg cs, v, hn, h => by
    simp only [noPtr] at hn
    simp only [denE] at h ⊢
    obtain ⟨l, rfl, h1⟩ := h
    exact ⟨l, rfl, noPtrS_den cs _ hn h1⟩
  | .tuple vs, v, hn, h => by
    simp only [noPtr] at hn
    simp only [denE] at h ⊢
    obtain ⟨l, rfl, h1⟩ := h
    exact ⟨l, rfl, noPtrT_den vs _ hn h1⟩
  | .gd g x, v, hn, h => by simp only [noPtr] at hn; simp only [denE] at h ⊢; exact ⟨fun hg => noPtr_den x v hn (h.1 hg), h.2⟩
  | .junk, _, _, _ => by simp only [denE]
theorem noPtrT_den {E E' : Emb} : ∀ (l : List EV) (vs : List Value), noPtrT l = true → denT E l vs → denT E' l vs
  | [], _, _, h => h
  | e :: r, vs, hn, h => by
    simp only [noPtrT, Bool.and_eq_true] at hn
    simp only [denT] at h ⊢
    obtain ⟨v, l', rfl, h1, h2⟩ := h
    exact ⟨v, l', rfl, noPtr_den e v hn.1 h1, noPtrT_den r l' hn.2 h2⟩
end

/-! ### values that stand for the same -/

def eqvV : SV → SV → Prop
  | .int k a, .int k' b => k = k' ∧ a = b
  | .bool a, .bool b => a = b
  | .str a, .str b => a = b
  | .slice b o n c, .gs b' o' n' c' => b = b' ∧ o = o' ∧ n = n' ∧ c = c'
  | .slice b o n c, .slice b' o' n' c' => b = b' ∧ o = o' ∧ n = n' ∧ c = c'
  | .gs b o n c, .gs b' o' n' c' => b = b' ∧ o = o' ∧ n = n' ∧ c = c'
  | _, .junk => True
  | x, y => x = y

def eqvS : List Seg → List Seg → Prop
  | [], [] => True
  | .one a :: r, .one b :: r' => eqvV a b ∧ eqvS r r'
  | .ints k n f :: r, .ints k' m g :: r' => (k = k' ∧ n = m ∧ ∀ j, j < n → f j = g j) ∧ eqvS r r'
  | _, _ => False

mutual
def eqvE : EV → EV → Prop
  | .s a, .s b => eqvV a b
  | .agg a, .agg b => eqvS a b
  | .tuple a, .tuple b => eqvT a b
  | .gd g a, .gd g' b => g = g' ∧ eqvE a b
  | _, .junk => True
  | _, _ => False
def eqvT : List EV → List EV → Prop
  | [], [] => True
  | a :: r, b :: r' => eqvE a b ∧ eqvT r r'
  | _, _ => False
end

theorem eqvV_refl : ∀ a : SV, eqvV a a := fun a => by cases a <;> simp [eqvV]
theorem eqvS_refl : ∀ a : List Seg, eqvS a a
  | [] => trivial
  | .one x :: r => ⟨eqvV_refl x, eqvS_refl r⟩
  | .ints .. :: r => ⟨⟨rfl, rfl, fun _ _ => rfl⟩, eqvS_refl r⟩
mutual
theorem eqvE_refl : ∀ a : EV, eqvE a a
  | .s v => by simp only [eqvE]; exact eqvV_refl v
  | .agg cs => by simp only [eqvE]; exact eqvS_refl cs
  | .tuple vs => by simp only [eqvE]; exact eqvT_refl vs
  | .gd g v => by unfold eqvE; exact ⟨rfl, eqvE_refl v⟩
  | .junk => by simp only [eqvE]
theorem eqvT_refl : ∀ a : List EV, eqvT a a
  | [] => trivial
  | x :: r => ⟨eqvE_refl x, eqvT_refl r⟩
end

theorem eqvV_den {E : Emb} {a b : SV} {v : Value} (h : eqvV a b) (hd : denV E a v) : denV E b v := by
  have key : ∀ {x y : SV}, x = y → denV E x v → denV E y v := fun e h => e ▸ h
  have jk : ∀ {x : SV}, denV E x v → denV E .junk v := fun h => by simp only [denV]; exact denV_oneCell h
  cases a with
  | int k x =>
    cases b with
    | int k' y => obtain ⟨rfl, rfl⟩ := h; exact hd
    | junk => exact jk hd
    | _ => exact key h hd
  | bool x =>
    cases b with
    | bool y => simp only [eqvV] at h; subst h; exact hd
    | junk => exact jk hd
    | _ => exact key h hd
  | str x =>
    cases b with
    | str y => simp only [eqvV] at h; subst h; exact hd
    | junk => exact jk hd
    | _ => exact key h hd
  | slice b0 o n c =>
    cases b with
    | slice b' o' n' c' => obtain ⟨rfl, rfl, rfl, rfl⟩ := h; exact hd
    | gs b' o' n' c' =>
      obtain ⟨rfl, rfl, rfl, rfl⟩ := h
      simp only [denV] at hd ⊢
      rw [hd.1.2]
      exact ⟨hd.1.1, fun h => by simp at h, by simpa using hd.2⟩
    | junk => exact jk hd
    | _ => exact key h hd
  | gs b0 o n c =>
    cases b with
    | gs b' o' n' c' => obtain ⟨rfl, rfl, rfl, rfl⟩ := h; exact hd
    | junk => exact jk hd
    | _ => exact key h hd
  | _ => cases b <;> first | exact key h hd | exact jk hd

theorem intsOf_congr {k : IntKind} {n : Nat} {f g : Nat → Int} (h : ∀ j, j < n → f j = g j) : intsOf k n f = intsOf k n g := by
  unfold intsOf
  apply List.map_congr_left
  intro j hj
  rw [h j (by simpa using hj)]

theorem eqvS_den {E : Emb} : ∀ {a b : List Seg} {l : List Value}, eqvS a b → denS E a l → denS E b l
  | [], [], _, _, h => h
  | .one x :: r, .one y :: r', l, he, h => by
    simp only [eqvS] at he
    simp only [denS] at h ⊢
    obtain ⟨v, l', rfl, h1, h2⟩ := h
    exact ⟨v, l', rfl, eqvV_den he.1 h1, eqvS_den he.2 h2⟩
  | .ints k n f :: r, .ints k' m g :: r', l, he, h => by
    simp only [eqvS] at he
    obtain ⟨⟨rfl, rfl, h1⟩, he⟩ := he
    simp only [denS] at h ⊢
    obtain ⟨l', rfl, h2⟩ := h
    exact ⟨l', by rw [intsOf_congr h1], eqvS_den he h2⟩
  | [], .one _ :: _, _, he, _ => by simp [eqvS] at he
  | [], .ints .. :: _, _, he, _ => by simp [eqvS] at he
  | .one _ :: _, [], _, he, _ => by simp [eqvS] at he
  | .ints .. :: _, [], _, he, _ => by simp [eqvS] at he
  | .one _ :: _, .ints .. :: _, _, he, _ => by simp [eqvS] at he
  | .ints .. :: _, .one _ :: _, _, he, _ => by simp [eqvS] at he

theorem eqvS_size : ∀ {a b : List Seg}, eqvS a b → sizeS a = sizeS b
  | [], [], _ => rfl
  | .one x :: r, .one y :: r', he => by simp only [eqvS] at he; simp only [sizeS, eqvS_size he.2]
  | .ints k n f :: r, .ints k' m g :: r', he => by
    simp only [eqvS] at he
    simp only [sizeS, eqvS_size he.2, he.1.2.1]
  | [], .one _ :: _, he => by simp [eqvS] at he
  | [], .ints .. :: _, he => by simp [eqvS] at he
  | .one _ :: _, [], he => by simp [eqvS] at he
  | .ints .. :: _, [], he => by simp [eqvS] at he
  | .one _ :: _, .ints .. :: _, he => by simp [eqvS] at he
  | .ints .. :: _, .one _ :: _, he => by simp [eqvS] at he

mutual
theorem eqvE_den {E : Emb} : ∀ (a b : EV) (v : Value), eqvE a b → denE E a v → denE E b v
  | .s a, .s b, v, he, h => by simp only [eqvE] at he; simp only [denE] at h ⊢; exact eqvV_den he h
  | .agg a, .agg b, v, he, h => by
    simp only [eqvE] at he
    simp only [denE] at h ⊢
    obtain ⟨l, rfl, h1⟩ := h
    exact ⟨l, rfl, eqvS_den he h1⟩
  | .tuple a, .tuple b, v, he, h => by
    simp only [eqvE] at he
    simp only [denE] at h ⊢
    obtain ⟨l, rfl, h1⟩ := h
    exact ⟨l, rfl, eqvT_den a b _ he h1⟩
  | .gd g a, .gd g' b, v, he, h => by
    simp only [eqvE] at he
    obtain ⟨rfl, he⟩ := he
    simp only [denE] at h ⊢
    exact ⟨fun hg => eqvE_den a b v he (h.1 hg), h.2⟩
  | _, .junk, _, _, _ => by simp only [denE]
  | .s _, .agg _, _, he, _ => by simp [eqvE] at he
  | .s _, .tuple _, _, he, _ => by simp [eqvE] at he
  | .s _, .gd _ _, _, he, _ => by simp [eqvE] at he
  | .agg _, .s _, _, he, _ => by simp [eqvE] at he
  | .agg _, .tuple _, _, he, _ => by simp [eqvE] at he
  | .agg _, .gd _ _, _, he, _ => by simp [eqvE] at he
  | .tuple _, .s _, _, he, _ => by simp [eqvE] at he
  | .tuple _, .agg _, _, he, _ => by simp [eqvE] at he
  | .tuple _, .gd _ _, _, he, _ => by simp [eqvE] at he
  | .gd _ _, .s _, _, he, _ => by simp [eqvE] at he
  | .gd _ _, .agg _, _, he, _ => by simp [eqvE] at he
  | .gd _ _, .tuple _, _, he, _ => by simp [eqvE] at he
  | .junk, .s _, _, he, _ => by simp [eqvE] at he
  | .junk, .agg _, _, he, _ => by simp [eqvE] at he
  | .junk, .tuple _, _, he, _ => by simp [eqvE] at he
  | .junk, .gd _ _, _, he, _ => by simp [eqvE] at he
theorem eqvT_den {E : Emb} : ∀ (a b : List EV) (l : List Value), eqvT a b → denT E a l → denT E b l
  | [], [], _, _, h => h
  | x :: r, y :: r', l, he, h => by
    simp only [eqvT] at he
    simp only [denT] at h ⊢
    obtain ⟨v, l', rfl, h1, h2⟩ := h
    exact ⟨v, l', rfl, eqvE_den x y v he.1 h1, eqvT_den r r' l' he.2 h2⟩
  | [], _ :: _, _, he, _ => by simp [eqvT] at he
  | _ :: _, [], _, he, _ => by simp [eqvT] at he
end

/-- What is known of a world stays so where nothing that was there has turned. -/
theorem Sim.keep {E : Emb} {h : List Blk} {w w' : World} (S : Sim E h w) (hs : w.heap.size ≤ w'.heap.size) (hk : ∀ b, b < w.heap.size → w'.heap[b]? = w.heap[b]?) : Sim E h w' := by
  have hc : ∀ b o, b < w.heap.size → w'.cell? ⟨b, o, none⟩ = w.cell? ⟨b, o, none⟩ := fun b o hb => World.cell?_of_block (w := w) (hk b hb)
  refine ⟨S.n, fun i B hi => ?_, S.dis⟩
  have hb := S.ok i B hi
  have cel : ∀ (m : Bool) (cs : List Seg) (sp : Nat), okCells E w (E.f i) m cs sp → okCells E w' (E.f i) m cs sp := by
    rintro m cs sp ⟨h1, ⟨l, h2, h3⟩, h4⟩
    have hlt : ∀ j, j < sizeS cs + sp → (E.f i).1 < w.heap.size := fun j hj => by
      rcases h1 with h1 | h1
      · exact h1
      · omega
    refine ⟨?_, ⟨l, h2, fun j v hj => ?_⟩, fun hm j hj => ?_⟩
    · rcases h1 with h1 | h1
      · exact .inl (by omega)
      · exact .inr h1
    · have hj' : j < sizeS cs := by
        rw [← denS_length h2]
        rcases Nat.lt_or_ge j l.length with h' | h'
        · exact h'
        · simp [List.getElem?_eq_none h'] at hj
      rw [hc _ _ (hlt j (by omega))]; exact h3 j v hj
    · rw [hc _ _ (hlt j hj)]; exact ⟨(h4 hm j hj).1, (h4 hm j hj).2.of_block (hk _ (hlt j hj))⟩
  cases B with
  | cells m cs sp => exact cel m cs sp hb
  | recs m n z f sp => exact ⟨hb.1, cel m _ sp hb.2⟩
  | map es =>
    obtain ⟨l, c, h1, h2⟩ := hb
    have hlt : (E.f i).1 < w.heap.size := by
      rcases Nat.lt_or_ge (E.f i).1 w.heap.size with h' | h'
      · exact h'
      · simp [Array.getElem?_eq_none h'] at h1
    exact ⟨l, c, by rw [hk _ hlt]; exact h1, h2⟩
  | dead => trivial

/-- **A function of plain values, in whatever state**: walked over the empty small world. -/
theorem fnX_pure (T : Tbl) {f : FuncId} {F : Func} (hF : T.P.funcs[f]? = some F) (hb : F.body.isNone = false) (hname : (F.name == "runtime.NumGoroutine") = false) {args : List EV}
    (hargs : noPtrT args = true) (r : EV) (hr : noPtr r = true) (hX : ∀ O : Org, O.E.n = O.h.length → fnX T O F args [] (fun v _ => eqvE v r)) (h : List Blk) : Does T f args h (fun v h' => v = r ∧ h' = h) := by
  refine ⟨.inl ⟨⟨F, hF, hb, hname⟩, fun E w vs S Z ha => ?_⟩⟩
  let E0 : Emb := ⟨0, fun _ => ⟨0, 0, false⟩⟩
  have S0 : Sim E0 [] w := ⟨rfl, fun i B hi => by simp at hi, fun i j A B _ hi => by simp at hi⟩
  have c := fnX_call T hF (args := args) (h := []) (Q := fun v _ => eqvE v r) (fun E w Z S => hX _ S.n) E0 w vs S0 (Z.sub fun b o ⟨i, B, hi, _⟩ => by simp at hi) (noPtrT_den args _ hargs ha)
  refine c.mono ?_
  rintro e w' ⟨v, x, h', E', rfl, hd, S', N', hq⟩
  have hno : ∀ o b, ¬ mutAt E0 [] b o := fun o b hm => by
    obtain ⟨i, B, hi, _⟩ := hm
    simp at hi
  have hk : ∀ b, b < w.heap.size → w'.heap[b]? = w.heap[b]? := fun b hb => N'.frame b hb (fun o => hno o b)
  exact ⟨v, r, h, E, rfl, noPtr_den r v hr (eqvE_den x r v hq hd), S.keep N'.size hk, ⟨Nat.le_refl _, fun _ _ => rfl, N'.size, fun b hb _ => hk b hb,
    fun b o hb _ => ⟨World.cell?_of_block (w := w) (hk b hb), fun _ => World.frozen?_of_block (w := w) (hk b hb)⟩, fun _ _ hm _ => hm, N'.os, N'.tape, N'.output, N'.rows⟩, rfl, rfl⟩

/-- The same; that there was no block is told. -/
theorem fnX_pur (T : Tbl) {f : FuncId} {F : Func} (hF : T.P.funcs[f]? = some F) (hb : F.body.isNone = false) (hname : (F.name == "runtime.NumGoroutine") = false) {args : List EV}
    (hargs : noPtrT args = true) (r : EV) (hr : noPtr r = true) (hX : ∀ O : Org, O.E.n = O.h.length → O.E.n = 0 → fnX T O F args [] (fun v _ => eqvE v r)) (h : List Blk) : Does T f args h (fun v h' => v = r ∧ h' = h) := by
  refine ⟨.inl ⟨⟨F, hF, hb, hname⟩, fun E w vs S Z ha => ?_⟩⟩
  let E0 : Emb := ⟨0, fun _ => ⟨0, 0, false⟩⟩
  have S0 : Sim E0 [] w := ⟨rfl, fun i B hi => by simp at hi, fun i j A B _ hi => by simp at hi⟩
  have c := fnX_call T hF (args := args) (h := []) (Q := fun v _ => eqvE v r) (fun E w Z S => hX _ S.n S.n) E0 w vs S0 (Z.sub fun b o ⟨i, B, hi, _⟩ => by simp at hi) (noPtrT_den args _ hargs ha)
  refine c.mono ?_
  rintro e w' ⟨v, x, h', E', rfl, hd, S', N', hq⟩
  have hno : ∀ o b, ¬ mutAt E0 [] b o := fun o b hm => by
    obtain ⟨i, B, hi, _⟩ := hm
    simp at hi
  have hk : ∀ b, b < w.heap.size → w'.heap[b]? = w.heap[b]? := fun b hb => N'.frame b hb (fun o => hno o b)
  exact ⟨v, r, h, E, rfl, noPtr_den r v hr (eqvE_den x r v hq hd), S.keep N'.size hk, ⟨Nat.le_refl _, fun _ _ => rfl, N'.size, fun b hb _ => hk b hb,
    fun b o hb _ => ⟨World.cell?_of_block (w := w) (hk b hb), fun _ => World.frozen?_of_block (w := w) (hk b hb)⟩, fun _ _ hm _ => hm, N'.os, N'.tape, N'.output, N'.rows⟩, rfl, rfl⟩

/-! ### loops -/

/-- One state tells no more than another. -/
def eqvB : Blk → Blk → Prop
  | .cells m cs sp, .cells m' cs' sp' => m = m' ∧ sp = sp' ∧ eqvS cs cs'
  | .recs m n z f sp, .recs m' n' z' f' sp' => m = m' ∧ n = n' ∧ z = z' ∧ sp = sp' ∧ ∀ i, i < n → eqvS ((f i).map .one) ((f' i).map .one)
  | .cells m cs sp, .recs m' n z f sp' => m = m' ∧ sp = sp' ∧ (∀ i, i < n → (f i).length = z) ∧ eqvS cs (recS n f)
  | x, y => x = y

def eqvH : List Blk → List Blk → Prop
  | [], [] => True
  | x :: r, y :: r' => eqvB x y ∧ eqvH r r'
  | _, _ => False

theorem eqvB_refl (b : Blk) : eqvB b b := by cases b <;> simp [eqvB, eqvS_refl]

theorem eqvS_append : ∀ {a b c d : List Seg}, eqvS a b → eqvS c d → eqvS (a ++ c) (b ++ d)
  | [], [], _, _, _, h => h
  | .one x :: a, .one y :: b, _, _, h1, h2 => ⟨h1.1, eqvS_append h1.2 h2⟩
  | .ints .. :: a, .ints .. :: b, _, _, h1, h2 => ⟨h1.1, eqvS_append h1.2 h2⟩
  | [], .one _ :: _, _, _, h, _ => by simp [eqvS] at h
  | [], .ints .. :: _, _, _, h, _ => by simp [eqvS] at h
  | .one _ :: _, [], _, _, h, _ => by simp [eqvS] at h
  | .ints .. :: _, [], _, _, h, _ => by simp [eqvS] at h
  | .one _ :: _, .ints .. :: _, _, _, h, _ => by simp [eqvS] at h
  | .ints .. :: _, .one _ :: _, _, _, h, _ => by simp [eqvS] at h

theorem eqvS_recS {f f' : Nat → List SV} : ∀ {n : Nat}, (∀ i, i < n → eqvS ((f i).map .one) ((f' i).map .one)) → eqvS (recS n f) (recS n f')
  | 0, _ => trivial
  | n + 1, h => by
    rw [recS, recS]
    exact eqvS_append (eqvS_recS fun i hi => h i (by omega)) (h n (by omega))

theorem eqvS_ones_len {a b : List SV} (h : eqvS (a.map .one) (b.map .one)) : a.length = b.length := by
  have := eqvS_size h
  rwa [sizeS_ones, sizeS_ones] at this

theorem eqvB_turn {x y : Blk} (h : eqvB x y) : turnB x y := by
  cases x with
  | cells m cs sp =>
    cases y with
    | cells m' cs' sp' =>
      obtain ⟨rfl, rfl, h⟩ := h
      refine ⟨rfl, fun p b o => by simp only [cov, eqvS_size h], fun E w p k => ?_⟩
      obtain ⟨h1, ⟨l, h2, h3⟩, h4⟩ := k
      exact ⟨by rw [← eqvS_size h]; exact h1, ⟨l, eqvS_den h h2, h3⟩, by rw [← eqvS_size h]; exact h4⟩
    | recs m' n z f sp' =>
      obtain ⟨rfl, rfl, hl, h⟩ := h
      refine ⟨rfl, fun p b o => by simp only [cov, eqvS_size h], fun E w p k => ?_⟩
      obtain ⟨h1, ⟨l, h2, h3⟩, h4⟩ := k
      exact ⟨hl, by rw [← eqvS_size h]; exact h1, ⟨l, eqvS_den h h2, h3⟩, by rw [← eqvS_size h]; exact h4⟩
    | map es => simp [eqvB] at h
    | dead => simp [eqvB] at h
  | recs m n z f sp =>
    cases y with
    | recs m' n' z' f' sp' =>
      obtain ⟨rfl, rfl, rfl, rfl, h⟩ := h
      have hs := eqvS_recS h
      refine ⟨rfl, fun p b o => by simp only [cov, eqvS_size hs], fun E w p k => ?_⟩
      obtain ⟨h0, h1, ⟨l, h2, h3⟩, h4⟩ := k
      exact ⟨fun i hi => by rw [← eqvS_ones_len (h i hi)]; exact h0 i hi, by rw [← eqvS_size hs]; exact h1, ⟨l, eqvS_den hs h2, h3⟩, by rw [← eqvS_size hs]; exact h4⟩
    | cells m' cs' sp' => simp [eqvB] at h
    | map es => simp [eqvB] at h
    | dead => simp [eqvB] at h
  | map es =>
    have h' : Blk.map es = y := by cases y <;> exact h
    subst h'
    exact turnB_refl _
  | dead =>
    have h' : Blk.dead = y := by cases y <;> exact h
    subst h'
    exact turnB_refl _

structure St.le (s t : St) : Prop where
  tmps : eqvT s.tmps t.tmps
  heap : eqvH s.heap t.heap

theorem eqvT_nth {E : Emb} : ∀ {x y : List EV}, eqvT x y → x.length = y.length ∧ ∀ i v, denE E (nth x i) v → denE E (nth y i) v
  | [], [], _ => ⟨rfl, fun _ _ h => h⟩
  | a :: r, b :: r', h => by
    simp only [eqvT] at h
    obtain ⟨h1, h2⟩ := eqvT_nth (E := E) h.2
    refine ⟨by simp [h1], fun i v hd => ?_⟩
    cases i with
    | zero => exact eqvE_den a b v h.1 hd
    | succ i => simp only [nth] at hd ⊢; exact h2 i v hd
  | [], _ :: _, h => by simp [eqvT] at h
  | _ :: _, [], h => by simp [eqvT] at h

theorem eqvB_cov {p : Loc} {x y : Blk} (h : eqvB x y) (b o : Nat) : (cov p x b o ↔ cov p y b o) ∧ x.mut = y.mut := ⟨(eqvB_turn h).2.1 p b o, (eqvB_turn h).1⟩

theorem eqvB_ok {E : Emb} {w : World} {p : Loc} {x y : Blk} (h : eqvB x y) (k : okBlk E w p x) : okBlk E w p y := (eqvB_turn h).2.2 E w p k

theorem eqvH_get : ∀ {x y : List Blk} {i : Nat} {B : Blk}, eqvH x y → y[i]? = some B → ∃ A, x[i]? = some A ∧ eqvB A B
  | [], [], i, B, _, h => by simp at h
  | a :: r, b :: r', 0, B, he, h => by simp at h; subst h; exact ⟨a, by simp, he.1⟩
  | a :: r, b :: r', i + 1, B, he, h => by
    obtain ⟨A, h1, h2⟩ := eqvH_get (i := i) he.2 (by simpa using h)
    exact ⟨A, by simpa using h1, h2⟩
  | [], _ :: _, _, _, he, _ => by simp [eqvH] at he
  | _ :: _, [], _, _, he, _ => by simp [eqvH] at he

theorem eqvH_length : ∀ {x y : List Blk}, eqvH x y → x.length = y.length
  | [], [], _ => rfl
  | a :: r, b :: r', he => by simp [eqvH_length he.2]
  | [], _ :: _, he => by simp [eqvH] at he
  | _ :: _, [], he => by simp [eqvH] at he

theorem Sim.eqv {E : Emb} {h h' : List Blk} {w : World} (S : Sim E h w) (he : eqvH h h') : Sim E h' w := by
  refine ⟨by rw [← eqvH_length he]; exact S.n, fun i B hi => ?_, fun i j A B hij hi hj hA b o hc => ?_⟩
  · obtain ⟨A, h1, h2⟩ := eqvH_get he hi
    exact eqvB_ok h2 (S.ok i A h1)
  · obtain ⟨A', h1, h2⟩ := eqvH_get he hi
    obtain ⟨B', h3, h4⟩ := eqvH_get he hj
    rw [← (eqvB_cov h4 b o).1]
    exact S.dis i j A' B' hij h1 h3 (by rw [(eqvB_cov (p := E.f i) h2 b o).2]; exact hA) b o ((eqvB_cov h2 b o).1.2 hc)

theorem Since.eqv {E E' : Emb} {h h1 h2 : List Blk} {w w' : World} (N : Since E h w E' h1 w') (he : eqvH h1 h2) : Since E h w E' h2 w' :=
  ⟨by rw [← eqvH_length he]; exact N.len, N.same, N.size, N.frame, N.cells, fun b o hm hb => by
    obtain ⟨i, B, hi, hB, hc⟩ := hm
    obtain ⟨A, k1, k2⟩ := eqvH_get he hi
    exact N.new b o ⟨i, A, k1, by rw [(eqvB_cov (p := E'.f i) k2 b o).2]; exact hB, (eqvB_cov k2 b o).1.2 hc⟩ hb, N.os, N.tape, N.output, N.rows⟩

theorem Rel.le {O : Org} {E : Emb} {s t : St} {a : Act} {w : World} (R : Rel O E s a w) (h : s.le t) : Rel O E t a w := by
  obtain ⟨h1, h2⟩ := h
  obtain ⟨k1, k2⟩ := eqvT_nth (E := E) h1
  exact ⟨⟨by rw [R.fr.1, k1], fun i v hi => k2 i v (R.fr.2 i v hi)⟩, R.df, R.sim.eqv h2, R.sin.eqv h2⟩

/-- **A loop, by what holds at each round's head.** -/
theorem loop_rule {T : Tbl} {O : Org} (on : O.E.n = O.h.length) {A : Type} {c : Code} {s : St} {K : Exit → St → Prop} (st : A → St) (I : A → Prop) (μ : A → Nat) (x0 : A) (h0 : I x0) (hs : s.le (st x0))
    (round : ∀ x, I x → wpx T O c (st x) (fun e s' => match e with
      | .normal => ∃ y, I y ∧ s'.le (st y) ∧ μ y < μ x
      | e => K e s')) : LoopG T O c s K := by
  intro E a w R
  refine wp_loop_ghost (fun n a w => ∃ E x, I x ∧ Rel O E (st x) a w ∧ μ x = n) (μ x0) ⟨E, x0, h0, R.le hs, rfl⟩ ?_
  rintro n a w ⟨E, x, hI, R, rfl⟩
  refine Code.wp_mono ?_ (wpx_snd on c (round x hI) R)
  rintro e a' w' ⟨E', s', hk, R'⟩
  cases e <;> first
    | (obtain ⟨y, h1, h2, h3⟩ := hk
       exact ⟨μ y, h3, E', y, h1, R'.le h2, rfl⟩)
    | exact ⟨E', s', hk, R'⟩

/-- n rounds, one by one. -/
def loopN (T : Tbl) (O : Org) (c : Code) : Nat → St → (Exit → St → Prop) → Prop
  | 0, _, _ => False
  | n + 1, s, K => wpx T O c s (seqK (fun s' => loopN T O c n s' K) K)

theorem loop_unroll {T : Tbl} {O : Org} (on : O.E.n = O.h.length) {c : Code} {K : Exit → St → Prop} (n : Nat) {s : St} (h : loopN T O c n s K) : LoopG T O c s K := by
  intro E a w R
  refine wp_loop_rounds n ?_
  induction n generalizing s E a w with
  | zero => exact h.elim
  | succ n ih =>
    rw [rounds_succ]
    refine Code.wp_mono ?_ (wpx_snd on c h R)
    rintro e a' w' ⟨E', s', hk, R'⟩
    cases e <;> first
      | exact ih hk E' a' w' R'
      | exact ⟨E', s', hk, R'⟩

theorem ifB_intro {t : Bool} {a b : Prop} (h1 : t = true → a) (h2 : t = false → b) : ifB t a b := by
  cases t
  · exact h2 rfl
  · exact h1 rfl

theorem need_intro {p k : Prop} (h1 : p) (h2 : k) : Need p k := ⟨h1, h2⟩

end Go.Anv
