/- The engine, part 6b: slices that are made, built, turned, copied. Plain theorems; their conditions are the table's own facts. -/
import Derived.Test.YtghcdkpgcanpgaaE6
import Derived.Laws.MakeOwn
namespace Go.Anv
open Go

theorem fill_ints {E : Emb} (k : IntKind) : ∀ {parts : List (Nat × EV)} {vals : List (Nat × Value)} {l : List Int} {n : Nat} {arr : Array Value}, intParts k n parts = some l →
    vals.map (·.1) = parts.map (·.1) → denT E (parts.map (·.2)) (vals.map (·.2)) → n + l.length ≤ arr.size →
    ∃ arr', Instr.fill (fun i => some (i * 1, 1)) arr vals = some arr' ∧ arr'.toList = arr.toList.take n ++ (l.map (Value.int k) ++ arr.toList.drop (n + l.length))
  | [], vals, l, n, arr, hl, hv, _, _ => by
    simp only [intParts, Option.some.injEq] at hl
    subst hl
    cases vals with
    | nil => exact ⟨arr, rfl, by simp⟩
    | cons v r => simp at hv
  | (i, e) :: parts, vals, l, n, arr, hl, hv, hd, hlen => by
    cases vals with
    | nil => simp at hv
    | cons v vals =>
      obtain ⟨i', v⟩ := v
      simp only [List.map_cons, List.cons.injEq] at hv
      obtain ⟨rfl, hv⟩ := hv
      cases e with
      | s u =>
        cases u with
        | int k' x =>
          simp only [intParts] at hl
          split at hl
          · rename_i l' hb hl'
            simp only [Option.some.injEq] at hl
            subst hl
            simp only [Bool.and_eq_true] at hb
            have h1 := Nat.eq_of_beq_eq_true hb.1
            have h2 := sameK_eq hb.2
            subst h1; subst h2
            simp only [List.map_cons, denT] at hd
            obtain ⟨u, ul, hu, hd1, hd2⟩ := hd
            simp only [List.cons.injEq] at hu
            obtain ⟨rfl, rfl⟩ := hu
            simp only [denE, denV] at hd1
            subst hd1
            simp only [List.length_cons] at hlen
            obtain ⟨arr', h3, h4⟩ := fill_ints k (n := n + 1) (arr := arr.setIfInBounds n (.int k x)) hl' hv hd2 (by simp; omega)
            refine ⟨arr', ?_, ?_⟩
            · have hcond : (decide ((Value.int k x).cells.size ≠ 1) || decide (n * 1 + (Value.int k x).cells.size > arr.size)) = false := by
                simp [Value.cells]
                omega
              simp only [Instr.fill]
              rw [hcond]
              simpa [Value.cells] using h3
            · rw [h4]
              simp only [Array.toList_setIfInBounds, List.map_cons, List.length_cons]
              have hlt : n < arr.toList.length := by simp; omega
              rw [List.take_add_one, List.getElem?_set_self hlt, List.take_set_of_le (Nat.le_refl n), List.drop_set_of_lt (by omega)]
              simp only [Option.toList_some, List.append_assoc, List.cons_append, List.nil_append]
              rw [show n + 1 + l'.length = n + (l'.length + 1) by omega]
          · cases hl
        | _ => simp [intParts] at hl
      | _ => simp [intParts] at hl

theorem litF_get : ∀ (l : List Int) (j : Nat), j < l.length → litF l j = l.getD j 0
  | [], _, h => by simp at h
  | x :: r, 0, _ => rfl
  | x :: r, j + 1, h => by simp only [litF]; rw [litF_get r j (by simpa using h)]; simp

theorem ints_lit (k : IntKind) (l : List Int) : l.map (Value.int k) = intsOf k l.length (litF l) := by
  apply List.ext_getElem?
  intro j
  rcases Nat.lt_or_ge j l.length with h | h
  · rw [intsOf_get h, litF_get l j h, List.getElem?_map, List.getElem?_eq_getElem h]
    simp [List.getElem?_eq_getElem h]
  · rw [List.getElem?_eq_none (by simpa using h), List.getElem?_eq_none (by rw [length_intsOf]; exact h)]

theorem rep_list (zl : List Value) : ∀ (n : Nat), (List.range (n * zl.length)).map (fun j => zl.toArray[j % zl.length]!) = (List.replicate n zl).flatten
  | 0 => by simp
  | n + 1 => by
    have ih := rep_list zl n
    rw [List.replicate_succ, List.flatten_cons, ← ih, Nat.succ_mul, Nat.add_comm, List.range_add, List.map_append, List.map_map]
    congr 1
    · apply List.ext_getElem?
      intro j
      rcases Nat.lt_or_ge j zl.length with h | h
      · simp [h, Nat.mod_eq_of_lt h]
      · rw [List.getElem?_eq_none (by simpa using h), List.getElem?_eq_none h]
    · apply List.map_congr_left
      intro j _
      simp

theorem denS_rep {E : Emb} {zs : List Seg} {zl : List Value} (h : denS E zs zl) : ∀ n, denS E (repS n zs) (List.replicate n zl).flatten
  | 0 => by simp [repS, denS]
  | n + 1 => by
    simp only [repS, List.replicate_succ, List.flatten_cons]
    exact denS_append h (denS_rep h n)

theorem bslX_snd (T : Tbl) {E : Emb} (w : World) {t e : TypeId} {te : TI} (ht : T.P.underlying t = some (.slice e)) (he : T.ty e = some te) {n : Nat} {parts : Array (Nat × Operand)} {cs : List Seg} (ev : Operand → EV) (ρ : Operand → Value) (hev : ∀ x, denE E (ev x) (ρ x))
    (hn : n * te.size ≤ 16777216) (h : bslX te n (parts.toList.map fun p => (p.1, ev p.2)) = some cs) :
    ∃ arr, (Instr.buildSlice t n (parts.map fun (i, x) => (i, ρ x))).run T.P w = .ok (.slice (some ⟨w.heap.size, 0, none⟩) n n) (w.alloc (.cells arr e)) ∧ denS E cs arr.toList := by
  have hvals : ((parts.map fun (i, x) => (i, ρ x)).toList.map (·.1)) = ((parts.toList.map fun p => (p.1, ev p.2)).map (·.1)) := by simp
  have hden : denT E ((parts.toList.map fun p => (p.1, ev p.2)).map (·.2)) ((parts.map fun (i, x) => (i, ρ x)).toList.map (·.2)) := by
    simp only [Array.toList_map, List.map_map]
    have key : ∀ l : List (Nat × Operand), denT E (l.map ((fun x => x.2) ∘ fun p => (p.1, ev p.2))) (l.map ((fun x => x.2) ∘ fun x => (x.1, ρ x.2))) := fun l => by
      induction l with
      | nil => simp [denT]
      | cons p l ih => simp only [List.map_cons, denT, Function.comp]; exact ⟨_, _, rfl, hev p.2, ih⟩
    exact key _
  have hsz := run_sizeOf_ti T he w
  obtain ⟨i, z, hi, hisz, hby, hz, hzv⟩ := elem_info T he
  have hzrun : (zeroValue e).run T.P w = .ok z w := by simp [zeroValue, typeInfo, hi, hz]
  have h24 : ¬ (16777216 < n * te.size) := by omega
  -- what the model fills
  have run : ∀ {arr : Array Value}, Instr.fill (fun i => some (i * te.size, te.size)) ((Array.range (n * te.size)).map ((if n * te.size = 0 then #[] else z.cells)[· % (if n * te.size = 0 then #[] else z.cells).size]!)) (parts.map fun (i, x) => (i, ρ x)).toList = some arr →
      (Instr.buildSlice t n (parts.map fun (i, x) => (i, ρ x))).run T.P w = .ok (.slice (some ⟨w.heap.size, 0, none⟩) n n) (w.alloc (.cells arr e)) := fun {arr} hf => by
    by_cases h0 : n * te.size = 0
    · rw [if_pos h0] at hf
      simp only [Instr.buildSlice, Sem.run_bind, run_underlying ht, Result.andThen_ok, hsz, h0, if_true]
      simp only [h0, gt_iff_lt, if_neg (show ¬ (2 ^ 24 < 0) by omega)] at hf ⊢
      simp only [Sem.run_bind, Sem.run_pure, Result.andThen_ok]
      rw [hf]
      rfl
    · rw [if_neg h0] at hf
      simp only [Instr.buildSlice, Sem.run_bind, run_underlying ht, Result.andThen_ok, hsz, h0, if_false, gt_iff_lt]
      rw [if_neg (show ¬ (2 ^ 24 < n * te.size) by omega)]
      simp only [Sem.run_bind, hzrun, Sem.run_pure, Result.andThen_ok]
      rw [hf]
      rfl
  unfold bslX at h
  split at h
  · rename_i k z0 hz1 hs1
    split at h
    · rename_i l hl
      split at h
      · rename_i hln
        have hln := Nat.eq_of_beq_eq_true hln
        simp only [Option.some.injEq] at h
        subst h
        rw [hs1] at run hn
        obtain ⟨arr, h1, h2⟩ := fill_ints (E := E) k (vals := (parts.map fun (i, x) => (i, ρ x)).toList) (n := 0)
          (arr := (Array.range (n * 1)).map ((if n * 1 = 0 then #[] else z.cells)[· % (if n * 1 = 0 then #[] else z.cells).size]!)) hl hvals hden (by simp; omega)
        refine ⟨arr, run h1, ?_⟩
        rw [h2]
        simp only [List.take_zero, List.nil_append, Nat.zero_add]
        refine ⟨[], ?_, rfl⟩
        rw [List.append_nil, List.drop_eq_nil_of_le (by simp; omega), List.append_nil, ints_lit, hln]
      · cases h
    · cases h
  · split at h
    · rename_i zs hzs
      split at h
      · rename_i hbq
        have hbq := Nat.eq_of_beq_eq_true hbq
        have hzd := segsOf_den (valE_den (E := E) hzv) hzs
        have hzl := denS_length hzd
        have hzsz : z.cells.size = te.size := by rw [← Array.length_toList, hzl, hbq]
        obtain ⟨arr, h1, h2⟩ := fill_snd (fun i => some (i * te.size, te.size)) (parts := parts.toList.map fun p => (p.1, ev p.2)) (vals := (parts.map fun (i, x) => (i, ρ x)).toList)
          (arr := (Array.range (n * te.size)).map ((if n * te.size = 0 then #[] else z.cells)[· % (if n * te.size = 0 then #[] else z.cells).size]!)) (cs := repS n zs) (by
            by_cases h0 : n * te.size = 0
            · simp only [h0, if_true]
              have : (List.replicate n z.cells.toList).flatten = [] := by
                apply List.eq_nil_of_length_eq_zero
                simp [hzsz, h0]
              have h3 := denS_rep hzd n
              rw [this] at h3
              simpa using h3
            · simp only [h0, if_false]
              have h3 := denS_rep hzd n
              rw [← rep_list] at h3
              have : z.cells.toList.length = te.size := by rw [hzl, hbq]
              rw [this] at h3
              simp only [Array.toList_map, Array.toList_range, hzsz]
              exact h3) hvals hden h
        exact ⟨arr, run h1, h2⟩
      · cases h
    · cases h


/-- The first cells of what a slice or a string yields. -/
theorem rngX_first (T : Tbl) {E : Emb} {h : List Blk} {w : World} (S : Sim E h w) {y : EV} {v : Value} (hy : denE E y v) {r : Rng} (hr : rngX h 1 y = some r) (hp : r.p) :
    ∃ news, denS E r.cs news ∧ news.length = r.n ∧ (∀ w', (Builtin.lenOf v).run T.P w' = .ok r.n w') ∧ ∀ n, n ≤ r.n → (Builtin.firstCells 1 n v).run T.P w = .ok (news.take n).toArray w := by
  have load : ∀ {a : Addr} {news : List Value} {m c : Nat}, news.length = m → (∀ j u, news[j]? = some u → w.cell? (a.add j) = some u) → ∀ n, n ≤ m → (Builtin.firstCells 1 n (.slice (some a) m c)).run T.P w = .ok (news.take n).toArray w := by
    intro a news m c hl hc n hn
    refine run_firstCells_some w 1 n a m c (news.take n) (by rw [List.length_take, hl, Nat.min_eq_left hn, Nat.mul_one]) (fun j u hj => hc j u ?_)
    rcases Nat.lt_or_ge j n with h' | h'
    · rwa [List.getElem?_take_of_lt h'] at hj
    · rw [List.getElem?_eq_none (by rw [List.length_take]; omega)] at hj; cases hj
  unfold rngX at hr
  split at hr
  · simp only [Option.some.injEq] at hr
    subst hr
    simp only [denE, denV] at hy
    subst hy
    refine ⟨[], rfl, rfl, fun _ => rfl, fun n hn => ?_⟩
    simp only [List.take_nil]
    exact run_firstCells_none w 1 n 0 0
  · rename_i s
    simp only [Option.some.injEq] at hr
    subst hr
    simp only [denE, denV] at hy
    subst hy
    refine ⟨byteCells s, ⟨[], by rw [List.append_nil, byteCells_intsOf], rfl⟩, byteCells_length s, fun _ => rfl, fun n hn => ?_⟩
    simp only [Builtin.firstCells, Sem.run_pure, Result.ok.injEq, and_true, byteCells]
    apply Array.ext'
    simp [ByteArray.data_extract]
  · rename_i b o n c
    simp only [denE, denV] at hy
    obtain ⟨hb, rfl⟩ := hy
    obtain ⟨news, h1, h2, h3, h4⟩ := rngAt_snd S hr hp
    refine ⟨news, h1, by rw [h3]; simpa using h2, fun _ => by rw [h3]; rfl, fun n' hn => ?_⟩
    refine load (by simpa using h2) (fun j u hj => ?_) n' (by rw [← h3]; exact hn)
    rw [Emb.at_add]
    unfold Emb.at
    rw [← Nat.add_assoc]
    exact h4 j u hj
  · rename_i b o n c
    simp only [denE, denV] at hy
    obtain ⟨hb, hnl, rfl⟩ := hy
    obtain ⟨news, h1, h2, h3, h4⟩ := rngAt_snd S hr hp
    refine ⟨news, h1, by rw [h3]; simpa using h2, fun _ => by rw [h3]; rfl, fun n' hn => ?_⟩
    cases hq : (E.f b).nl with
    | true =>
      obtain ⟨rfl, rfl⟩ := hnl hq
      obtain rfl : news = [] := List.eq_nil_of_length_eq_zero (by simpa using h2)
      simp only [List.take_nil, if_true]
      exact run_firstCells_none w 1 n' 0 0
    | false =>
      refine load (by simpa using h2) (fun j u hj => ?_) n' (by rw [← h3]; exact hn)
      rw [Emb.at_add]
      unfold Emb.at
      rw [← Nat.add_assoc]
      exact h4 j u hj
  · cases hr

theorem ints_put (k : IntKind) {m o n rn cnt : Nat} (f g : Nat → Int) (ho : o + n ≤ m) (hc : cnt = min rn n) :
    intsOf k m (putF o cnt g f) = (intsOf k m f).take o ++ ((intsOf k rn g).take cnt ++ (intsOf k m f).drop (o + ((intsOf k rn g).take cnt).length)) := by
  have hl : ((intsOf k rn g).take cnt).length = cnt := by rw [List.length_take, length_intsOf]; omega
  rw [hl]
  apply List.ext_getElem?
  intro j
  rcases Nat.lt_or_ge j o with h | h
  · rw [List.getElem?_append_left (by rw [List.length_take, length_intsOf]; omega), List.getElem?_take_of_lt h, intsOf_get (by omega), intsOf_get (by omega)]
    have : ¬ (o ≤ j ∧ j < o + cnt) := by omega
    simp only [putF, if_neg this]
  · rw [List.getElem?_append_right (by rw [List.length_take, length_intsOf]; omega), List.length_take, length_intsOf, Nat.min_eq_left (by omega)]
    rcases Nat.lt_or_ge (j - o) cnt with h1 | h1
    · rw [List.getElem?_append_left (by rw [hl]; exact h1), List.getElem?_take_of_lt h1, intsOf_get (by omega), intsOf_get (by omega)]
      have : o ≤ j ∧ j < o + cnt := by omega
      simp only [putF, if_pos this]
    · rw [List.getElem?_append_right (by rw [hl]; exact h1), hl, List.getElem?_drop]
      rw [show o + cnt + (j - o - cnt) = j by omega]
      rcases Nat.lt_or_ge j m with h2 | h2
      · rw [intsOf_get h2, intsOf_get h2]
        have : ¬ (o ≤ j ∧ j < o + cnt) := by omega
        simp only [putF, if_neg this]
      · rw [List.getElem?_eq_none (by rw [length_intsOf]; exact h2), List.getElem?_eq_none (by rw [length_intsOf]; exact h2)]

theorem copyX_snd (T : Tbl) {E : Emb} {h : List Blk} {w : World} (S : Sim E h w) {t tx ty : TypeId} {x y : EV} {xv yv : Value} (hx : denE E x xv) (hy : denE E y yv) {ts : List EV} {dst : Option Tmp} {k : St → Prop}
    (hk : copyX T ts h t tx x y dst k) : Goes T E h w (Builtin.copy_ #[t, tx] ty #[xv, yv]) ts dst k := by
  unfold copyX at hk
  split at hk
  · rename_i e _ _ _ ht
    have hd : T.P.underlying t = some (.slice e) := (T.tyOk _ _ ht).desc
    split at hk
    · rename_i te he
      have hsz := run_sizeOf_ti T he w
      split at hk
      · rename_i r hs1 hso hr
        rw [hs1] at hr hsz
        have onto : ∀ {b o n c : Nat}, ontoC ts h b o n r dst k → ((E.f b).nl = true ∧ n = 0 ∧ xv = .slice none n c) ∨ xv = .slice (some (E.at b o)) n c → Goes T E h w (Builtin.copy_ #[t, tx] ty #[xv, yv]) ts dst k := by
          intro b o n c hk hxv
          unfold ontoC at hk
          split at hk
          · rename_i q m f sp p rn q' m' g hbk hk0
            clear hk0
            split at hk
            · rename_i hq
              have := sameK_eq hq
              subst this
              obtain ⟨⟨hp, hom⟩, hk⟩ := hk
              rw [updBK_eq, updB_eq, putK_eq] at hk
              obtain ⟨news, h1, h2, h3, h4⟩ := rngX_first T S hy hr hp
              simp only [denS] at h1
              obtain ⟨l', rfl, rfl⟩ := h1
              rw [List.append_nil] at h2 h4
              rw [length_intsOf] at h2
              subst h2
              obtain ⟨l, hl, hlw, _⟩ := S.look (nthB_get hbk)
              have hl0 := hl
              simp only [denS] at hl
              obtain ⟨l', rfl, rfl⟩ := hl
              rw [List.append_nil] at hlw hl0
              have hput := ints_put q (m := m) (o := o) (n := n) (rn := m') (cnt := min m' n) f g hom rfl
              have hcnt : ((intsOf q m' g).take (min m' n)).length = min m' n := by rw [List.length_take, length_intsOf]; omega
              have S1 := S.write (i := b) (cs' := [.ints q m (putF o (min m' n) g f)]) (sp' := sp) (nthB_get hbk) (o := o) (vs := (intsOf q m' g).take (min m' n)) hl0 hlw
                (by rw [← hput]; exact ⟨[], by rw [List.append_nil], rfl⟩) rfl (by simp only [sizeS]; omega) (by rw [hcnt]; simp only [sizeS]; omega)
              have N1 := Since.write (E := E) (h := h) (w := w) (i := b) (cs' := [.ints q m (putF o (min m' n) g f)]) (sp' := sp) (nthB_get hbk) (o := o) (vs := (intsOf q m' g).take (min m' n)) rfl (by rw [hcnt]; simp only [sizeS]; omega)
              have hfc := h4 (min m' n) (Nat.min_le_left _ _)
              refine ⟨.int .i64 ((min m' n : Nat) : Int), _, E, _, _, ?_, by simp only [denE, denV], S1, N1, hk⟩
              obtain ⟨_, _, hm⟩ := S.ok b _ (nthB_get hbk)
              have hm := hm rfl
              rcases hxv with ⟨_, rfl, rfl⟩ | rfl
              · simp only [Nat.min_zero, List.take_zero] at hfc ⊢
                simp [Builtin.copy_, run_underlying hd, h3, hsz, hfc, World.setCells, goInt]
              · have hst := run_storeCells_cells (P := T.P) (E.f b).1 ((E.f b).2 + o) ((intsOf q m' g).take (min m' n)) 0 w (fun j hj => by
                    rw [hcnt] at hj
                    obtain ⟨⟨v, hv⟩, _⟩ := hm (o + j) (by simp only [sizeS]; omega)
                    rw [Nat.add_zero, Nat.add_assoc, hv]; rfl) (fun j hj => by
                    rw [hcnt] at hj
                    obtain ⟨⟨v, hv⟩, hro⟩ := hm (o + j) (by simp only [sizeS]; omega)
                    rw [Nat.add_zero, Nat.add_assoc]; exact hro.frozen hv) (fun x hx => by
                    have := List.mem_of_mem_take hx
                    simp only [intsOf, List.mem_map] at this
                    obtain ⟨_, _, rfl⟩ := this
                    rfl)
                simp only [Nat.add_zero] at hst
                have hnm : Nat.min m' n = min m' n := rfl
                simp [Builtin.copy_, run_underlying hd, h3, hsz, hnm, hfc, goInt, Emb.at, hst]
            · exact hk.elim
          · rename_i q m f sp p rn hbk hk0
            clear hk0
            obtain ⟨⟨hp, hrn⟩, hk⟩ := hk
            subst hrn
            rw [putK_eq] at hk
            obtain ⟨news, h1, h2, h3, h4⟩ := rngX_first T S hy hr hp
            have hfc := h4 0 (Nat.le_refl _)
            refine ⟨.int .i64 0, w, E, h, _, ?_, by simp only [denE, denV], S, Since.refl _ _ _, hk⟩
            simp only [List.take_zero] at hfc
            have h0 : ∀ n : Nat, Nat.min 0 n = 0 := fun n => Nat.zero_min n
            rcases hxv with ⟨_, rfl, rfl⟩ | rfl <;> simp [Builtin.copy_, run_underlying hd, h3, hsz, hfc, h0, goInt, storeCells]
          · exact hk.elim
        split at hk
        · simp only [denE, denV] at hx
          exact onto hk (.inr hx.2)
        · rename_i b o n c
          simp only [denE, denV] at hx
          obtain ⟨h1, h2, h3⟩ := hx
          refine onto (c := c) hk ?_
          cases hq : (E.f b).nl with
          | true => rw [hq] at h3 h2; exact .inl ⟨rfl, (h2 rfl).1, by simpa using h3⟩
          | false => rw [hq] at h3; exact .inr (by simpa using h3)
        · exact hk.elim
      · exact hk.elim
    · exact hk.elim
  · exact hk.elim


/-- **The operations on slices do what the walker says.** -/
theorem eff2_snd (T : Tbl) {E : Emb} {h : List Blk} {w : World} (S : Sim E h w) {ts : List EV} {ρ : Operand → Value} (hev : ∀ x, denE E (evT ts x) (ρ x)) {o : Oper} {k : St → Prop} (hk : eff2 T ts h o k) :
    ∃ u w' E' h' v, (execOp ρ o).run T.P w = .ok (.value u) w' ∧ denE E' v u ∧ Sim E' h' w' ∧ Since E h w E' h' w' ∧ k ((⟨ts, h'⟩ : St).put o.dst v) := by
  unfold eff2 at hk
  unfold execOp
  split at hk
  · rename_i t n parts hop
    split at hk
    · rename_i e _ _ _ ht
      have hd : T.P.underlying t = some (.slice e) := (T.tyOk _ _ ht).desc
      split at hk
      · rename_i te he
        split at hk
        · rename_i cs hle hb
          have hle := Nat.le_of_ble_eq_true hle
          rw [forceS_eq, pushBK_eq, putK_eq, Nat.zero_add] at hk
          obtain ⟨arr, h1, h2⟩ := bslX_snd T (E := E) w hd he (evT ts) ρ hev hle hb
          obtain ⟨S', N'⟩ := push_row S e (arr := arr) (lo := 0) (hi := 0) (.inl rfl) (sp := 0) (rest := []) h2 (by simp) (by simp)
          refine ⟨_, _, _, _, _, by simp only [hop, Sem.run_bind, h1, Result.andThen_ok, Sem.run_pure]; rfl, ?_, S', N', hk⟩
          simp only [denE, denV, ← S.n, Emb.push_new]
          exact ⟨⟨by simp [Emb.push], trivial⟩, by rw [push_at]⟩
        · exact hk.elim
      · exact hk.elim
    · exact hk.elim
  · rename_i t len cap hop
    split at hk
    · rename_i e _ _ _ kl l kc c ht hl hc
      have hd : T.P.underlying t = some (.slice e) := (T.tyOk _ _ ht).desc
      have dl := hev len
      have dc := hev cap
      rw [hl] at dl
      rw [hc] at dc
      simp only [denE, denV] at dl dc
      split at hk
      · rename_i te he
        split at hk
        · rename_i q z hz1 hs1
          obtain ⟨⟨h0, hlc, hb1, hb2⟩, hk⟩ := hk
          rw [pushBK_eq, putK_eq, Nat.zero_add] at hk
          obtain ⟨i, zv, hi, hisz, hby, hz, hzv⟩ := elem_info T he
          rw [hz1] at hzv
          simp only [valE, valV, Option.some.injEq] at hzv
          subst hzv
          rw [← hby] at hb2
          have hrun := run_make (P := T.P) w t e i (.int q z) hd hi hz kl kc l c h0 hlc (by omega) (by omega)
          have hcells : (madeCells (Value.int q z).cells (c.toNat * i.size)).toList = intsOf q l.toNat (fun _ => z) ++ List.replicate (c.toNat - l.toNat) (.int q z) := by
            rw [hisz, hs1, Nat.mul_one]
            have hmc : madeCells (Value.int q z).cells c.toNat = (Array.range c.toNat).map fun _ => Value.int q z := by
              simp [madeCells, Value.cells, Nat.mod_one]
            rw [hmc]
            simp only [Array.toList_map, Array.toList_range]
            apply List.ext_getElem?
            intro j
            rcases Nat.lt_or_ge j l.toNat with h1 | h1
            · rw [List.getElem?_append_left (by rw [length_intsOf]; exact h1), intsOf_get h1, List.getElem?_map, List.getElem?_range (by omega)]
              rfl
            · rw [List.getElem?_append_right (by rw [length_intsOf]; exact h1), length_intsOf]
              rcases Nat.lt_or_ge j c.toNat with h2 | h2
              · rw [List.getElem?_replicate, if_pos (by omega), List.getElem?_map, List.getElem?_range h2]
                rfl
              · rw [List.getElem?_replicate, if_neg (by omega), List.getElem?_eq_none (by simpa using h2)]
          obtain ⟨S', N'⟩ := push_row S e (arr := madeCells (Value.int q z).cells (c.toNat * i.size)) (lo := 0) (hi := 0) (.inl rfl) (cs := [.ints q l.toNat (fun _ => z)]) (sp := c.toNat - l.toNat)
            (l := intsOf q l.toNat (fun _ => z)) (rest := List.replicate (c.toNat - l.toNat) (.int q z)) ⟨[], by rw [List.append_nil], rfl⟩ hcells (by simp)
          refine ⟨_, _, _, _, _, by simp only [hop, dl, dc, Sem.run_bind, hrun, Result.andThen_ok, Sem.run_pure]; rfl, ?_, S', N', hk⟩
          simp only [denE, denV, ← S.n, Emb.push_new]
          exact ⟨⟨by simp [Emb.push], trivial⟩, by rw [push_at]⟩
        · exact hk.elim
      · exact hk.elim
    · exact hk.elim
  · rename_i src dst x hop
    split at hk
    · rename_i e _ _ _ e' _ _ _ b o' n c h1 h2 hx
      have d1 : T.P.underlying src = some (.slice e) := (T.tyOk _ _ h1).desc
      have d2 : T.P.underlying dst = some (.slice e') := (T.tyOk _ _ h2).desc
      split at hk
      · rename_i cs sp hbq he hbk
        simp only [Bool.and_eq_true] at hbq
        have hq1 := Nat.eq_of_beq_eq_true hbq.1
        have hq2 := Nat.eq_of_beq_eq_true hbq.2
        subst hq1
        subst hq2
        have d3 : T.P.underlying e = some (.int .u8) := (T.tyOk _ _ he).desc
        obtain ⟨hpos, hk⟩ := hk
        rw [putK_eq] at hk
        have dx := hev x
        rw [hx] at dx
        have dx' := dx
        simp only [denE, denV] at dx
        obtain ⟨⟨hb, hnl⟩, hxv⟩ := dx
        obtain ⟨ho, ⟨l, hl, hlw⟩, hm⟩ := S.ok b _ (nthB_get hbk)
        obtain ⟨⟨v0, hv0⟩, arr, te, lo, hi, hbl, hrow⟩ := hm rfl 0 hpos
        refine ⟨_, w.freeze { block := (E.f b).1, off := arr.size } 1, E, h, _, ?_, dx', S.freeze hbl hrow, Since.freeze hbl hrow ⟨(E.f b).2 + 0, b, _, nthB_get hbk, rfl, rfl, by omega, by omega⟩, hk⟩
        have hsh : w.shape? (E.f b).1 = some (te, arr.size) := by simp only [World.shape?, hbl]
        simp [hop, hxv, convert, run_underlying d1, run_underlying d3, markStringish, Emb.at, hsh]
      · exact hk.elim
    · rename_i e _ _ _ s h1 h2 hx
      have d1 : T.P.underlying src = some .string := (T.tyOk _ _ h1).desc
      have d2 : T.P.underlying dst = some (.slice e) := (T.tyOk _ _ h2).desc
      have dx := hev x
      rw [hx] at dx
      simp only [denE, denV] at dx
      split at hk
      · rename_i he
        have d3 : T.P.underlying e = some (.int .u8) := (T.tyOk _ _ he).desc
        have hrun := run_bytes_of_string (P := T.P) w src dst e s d1 d2 d3
        have hge := grownCap_ge w s.size 0 e
        have hk := hk _ hge
        rw [pushBK_eq, putK_eq, Nat.zero_add] at hk
        obtain ⟨S', N'⟩ := push_row S.drew e (arr := bytesRow s (grownCap w s.size 0 e)) (lo := (bytesRow s (grownCap w s.size 0 e)).size) (hi := (bytesRow s (grownCap w s.size 0 e)).size + 1) (.inr (Nat.le_refl _))
          (cs := [.ints .u8 s.size (strF s)]) (sp := grownCap w s.size 0 e - s.size) (l := byteCells s) (rest := List.replicate (grownCap w s.size 0 e - s.size) (.int .u8 0)) ⟨[], by rw [List.append_nil, byteCells_intsOf], rfl⟩
          (by simp [bytesRow, byteCells]) (by simp)
        refine ⟨_, _, _, _, _, by simp only [hop, dx, Sem.run_bind, hrun, Result.andThen_ok, Sem.run_pure]; rfl, ?_, S', (Since.drew E h w).trans S.n S.n N', hk⟩
        simp only [denE, denV, ← S.n, Emb.push_new]
        refine ⟨⟨by simp [Emb.push], trivial⟩, ?_⟩
        have : (E.push ⟨w.drew.heap.size, 0, false⟩).at E.n 0 = ⟨w.heap.size, 0, none⟩ := by
          unfold Emb.at
          rw [Emb.push_new]
          rfl
        rw [this]
      · exact hk.elim
    · rename_i e _ _ _ _ _ _ b o' h1 h2 hx
      have d1 : T.P.underlying src = some (.pointer e) := (T.tyOk _ _ h1).desc
      have d2 : T.P.underlying dst = some .unsafePointer := (T.tyOk _ _ h2).desc
      split at hk
      · rename_i h3
        obtain ⟨⟨m, cs, sp, v, h4, h5⟩, hk⟩ := hk
        rw [putK_eq] at hk
        have dx := hev x
        rw [hx] at dx
        have dx' := dx
        simp only [denE, denV] at dx
        obtain ⟨hb, hxv⟩ := dx
        obtain ⟨l, hl, hw, _⟩ := S.look (nthB_get h4)
        obtain ⟨z, h6, _⟩ := getS_den hl h5
        have h7 : w.cell? (E.at b o') = some z := hw _ _ h6
        have hsz := (T.tyOk _ _ h3).size
        have hsz' : (T.P.info? e).map (fun i => decide (i.size = 0)) = some false := by
          cases hq : T.P.info? e with
          | none => rw [hq] at hsz; cases hsz
          | some y =>
            rw [hq] at hsz
            simp at hsz
            simp [hsz]
        exact ⟨_, _, _, _, _, by simp only [hop, hxv, Sem.run_bind, run_convert_to_unsafe d1 d2 hsz' h7, Result.andThen_ok, Sem.run_pure], dx', S, Since.refl _ _ _, hk⟩
      · exact hk.elim
    · exact hk.elim
  · rename_i args argTypes hop
    split at hk
    · rename_i x y t tx h1 h2
      have e1 : args = #[x, y] := by rw [← Array.toList_inj]; exact h1
      have e2 : argTypes = #[t, tx] := by rw [← Array.toList_inj]; exact h2
      subst e1; subst e2
      split at hk
      · rename_i kn m htx hym
        have hyd := hev y
        rw [hym] at hyd
        simp only [denE, denV] at hyd
        obtain ⟨u, w', E', h', v, k1, k2⟩ := zappX_snd T S (ty := o.type) (kq := kn) (hev x) (T.tyOk _ _ htx).desc hk
        refine ⟨u, w', E', h', v, ?_, k2⟩
        simp [hop, resolve, invoke, builtin, hyd, k1]
      · obtain ⟨u, w', E', h', v, k1, k2⟩ := appX_snd T S (ty := o.type) (hev x) (hev y) hk
        refine ⟨u, w', E', h', v, ?_, k2⟩
        simp [hop, resolve, invoke, builtin, k1]
    · exact hk.elim
  · rename_i args argTypes hop
    split at hk
    · rename_i x y t tx h1 h2
      have e1 : args = #[x, y] := by rw [← Array.toList_inj]; exact h1
      have e2 : argTypes = #[t, tx] := by rw [← Array.toList_inj]; exact h2
      subst e1; subst e2
      obtain ⟨u, w', E', h', v, k1, k2⟩ := copyX_snd T S (ty := o.type) (hev x) (hev y) hk
      refine ⟨u, w', E', h', v, ?_, k2⟩
      simp [hop, resolve, invoke, builtin, k1]
    · exact hk.elim
  · exact hk.elim

end Go.Anv
