/- The engine, part 5b: slices that are made, grown, copied. Plain theorems; their conditions are the table's own facts. -/
import Derived.Test.YtghcdkpgcanpgaaE5
import Derived.Laws.IdiomStrings
namespace Go.Anv
open Go

theorem updB_eq : ∀ (h : List Blk) (i : Nat) (B : Blk), updB h i B = h.set i B
  | [], _, _ => rfl
  | x :: r, 0, B => rfl
  | x :: r, i + 1, B => by simp [updB, updB_eq r i B]

/-! ### stores -/

theorem segsOf_den {E : Emb} {e : EV} {v : Value} {cs : List Seg} (h : denE E e v) (hs : segsOf e = some cs) : denS E cs v.cells.toList := by
  cases e with
  | s x =>
    simp only [segsOf, Option.some.injEq] at hs
    subst hs
    simp only [denE] at h
    have h1 := denV_oneCell h
    have : v.cells = #[v] := by cases v <;> first | rfl | (simp [Value.oneCell'] at h1)
    rw [this]
    simp only [denS]
    exact ⟨v, [], rfl, h, rfl⟩
  | agg c =>
    simp only [segsOf, Option.some.injEq] at hs
    subst hs
    simp only [denE] at h
    obtain ⟨l, rfl, hl⟩ := h
    exact hl
  | tuple _ => simp [segsOf] at hs
  | gd _ _ => simp [segsOf] at hs
  | junk => simp [segsOf] at hs

/-- A new row of cells. -/
theorem push_row {E : Emb} {h : List Blk} {w : World} (S : Sim E h w) {arr : Array Value} (t : TypeId) {lo hi : Nat} (hr : lo = hi ∨ arr.size ≤ lo) {cs : List Seg} {sp : Nat} {l rest : List Value}
    (hd : denS E cs l) (harr : arr.toList = l ++ rest) (hlen : sp ≤ rest.length) :
    Sim (E.push ⟨w.heap.size, 0, false⟩) (h ++ [.cells true cs sp]) (w.alloc (.cells arr t (lo, hi))) ∧ Since E h w (E.push ⟨w.heap.size, 0, false⟩) (h ++ [.cells true cs sp]) (w.alloc (.cells arr t (lo, hi))) := by
  have hcell : ∀ j, (w.alloc (.cells arr t (lo, hi))).cell? ⟨w.heap.size, 0 + j, none⟩ = (l ++ rest)[j]? := fun j => by
    have hn : (w.alloc (.cells arr t (lo, hi))).heap[w.heap.size]? = some (.cells arr t (lo, hi)) := heap_alloc_new w _
    simp only [World.cell?, hn, Nat.zero_add]
    rw [← Array.getElem?_toList, harr]
    rfl
  refine ⟨S.push _ _ ⟨.inl (by simp), ⟨l, denS_mono (Emb.le_push _ _) cs l hd, fun j v hj => ?_⟩, fun _ j hj => ⟨?_, arr, t, lo, hi, heap_alloc_new w _, hr⟩⟩, Since.push S _ _⟩
  · rw [hcell]
    have : j < l.length := by
      rcases Nat.lt_or_ge j l.length with h' | h'
      · exact h'
      · rw [List.getElem?_eq_none h'] at hj; cases hj
    rw [List.getElem?_append_left this]
    exact hj
  · rw [hcell]
    have hl := denS_length hd
    exact ⟨_, List.getElem?_eq_getElem (by simp; omega)⟩

/-- A slice that is nil, as a block without cells. -/
theorem push_nil {E : Emb} {h : List Blk} {w : World} (S : Sim E h w) {cs : List Seg} (hd : denS E cs []) :
    Sim (E.push ⟨0, 0, true⟩) (h ++ [.cells true cs 0]) w ∧ Since E h w (E.push ⟨0, 0, true⟩) (h ++ [.cells true cs 0]) w := by
  have hs : sizeS cs = 0 := by rw [← denS_length hd]; rfl
  have hno : ∀ p b o, ¬ cov p (.cells true cs 0) b o := fun p b o hc => by
    obtain ⟨_, h1, h2⟩ := hc
    omega
  constructor
  · refine ⟨by simp [Emb.push, S.n], fun i B hi => ?_, fun i j A B hij hi hj hA b o hci hcj => ?_⟩
    · rcases getElem?_push_cases hi with ⟨h1, h2⟩ | ⟨h1, h2⟩
      · rw [Emb.push_old _ _ (by rw [S.n]; exact h2)]
        exact okBlk_le (Emb.le_push _ _) (S.ok i B h1)
      · subst h2; subst h1
        rw [← S.n, Emb.push_new]
        exact ⟨.inr ⟨rfl, by omega⟩, ⟨[], denS_mono (Emb.le_push _ _) cs _ hd, fun j v hj => by simp at hj⟩, fun _ j hj => by omega⟩
    · rcases getElem?_push_cases hi with ⟨h1, h2⟩ | ⟨h1, h2⟩
      · rcases getElem?_push_cases hj with ⟨h3, h4⟩ | ⟨h3, h4⟩
        · rw [Emb.push_old _ _ (by rw [S.n]; exact h2)] at hci
          rw [Emb.push_old _ _ (by rw [S.n]; exact h4)] at hcj
          exact S.dis i j A B hij h1 h3 hA b o hci hcj
        · subst h4; exact hno _ _ _ hcj
      · subst h2; exact hno _ _ _ hci
  · refine ⟨by simp, fun i hi => Emb.push_old _ _ hi, Nat.le_refl _, fun _ _ _ => rfl, fun _ _ _ _ => ⟨rfl, fun _ => rfl⟩, fun b o hm _ => ?_, rfl, rfl, rfl, fun _ _ h => h⟩
    obtain ⟨i, B, hi, hB, hc⟩ := hm
    rcases getElem?_push_cases hi with ⟨h1, h2⟩ | ⟨h1, h2⟩
    · rw [Emb.push_old _ _ (by rw [S.n]; exact h2)] at hc
      exact ⟨i, B, h1, hB, hc⟩
    · subst h2; exact absurd hc (hno _ _ _)

/-! ### a row is marked: its last cell's neighbour may not be written -/

theorem cell?_freeze (w : World) (a b : Addr) (n : Nat) : (w.freeze a n).cell? b = w.cell? b := by
  unfold World.freeze
  split
  · rfl
  · by_cases hb : a.block = b.block
    · unfold World.cell?
      simp only [Array.getElem?_modify, if_pos hb]
      cases w.heap[b.block]? with
      | none => rfl
      | some o => cases o <;> rfl
    · unfold World.cell?
      simp only [Array.getElem?_modify, if_neg hb]

theorem size_freeze (w : World) (a : Addr) (n : Nat) : (w.freeze a n).heap.size = w.heap.size := by
  unfold World.freeze
  split <;> simp

theorem other_freeze (w : World) (a : Addr) (n k : Nat) (h : k ≠ a.block) : (w.freeze a n).heap[k]? = w.heap[k]? := by
  unfold World.freeze
  split
  · rfl
  · simp only [Array.getElem?_modify]
    rw [if_neg (Ne.symm h)]

theorem map_freeze (w : World) (a : Addr) (n k : Nat) {l : Array MapEntry} {c : Nat} (h : w.heap[k]? = some (.map l c)) : (w.freeze a n).heap[k]? = some (.map l c) := by
  unfold World.freeze
  split
  · exact h
  · simp only [Array.getElem?_modify]
    split
    · rw [h]; rfl
    · exact h

theorem rowOk_freeze {w : World} {k b : Nat} {c : Array Value} {e lo hi : Nat} (hb : w.heap[b]? = some (.cells c e (lo, hi))) (hr : lo = hi ∨ c.size ≤ lo) (h : rowOk w k) : rowOk (w.freeze { block := b, off := c.size } 1) k := by
  by_cases hk : k = b
  · subst hk
    refine ⟨c, e, (if lo == hi then (c.size, c.size + 1) else (min lo c.size, max hi (c.size + 1))).1, (if lo == hi then (c.size, c.size + 1) else (min lo c.size, max hi (c.size + 1))).2, ?_, .inr ?_⟩
    · unfold World.freeze
      rw [if_neg (by decide)]
      simp only [Array.getElem?_modify, hb]
      rfl
    · split
      · exact Nat.le_refl _
      · rename_i hne
        rcases hr with rfl | hr
        · simp at hne
        · simp only; omega
  · exact h.of_block (other_freeze _ _ _ _ hk)

theorem Sim.freeze {E : Emb} {h : List Blk} {w : World} (S : Sim E h w) {b : Nat} {c : Array Value} {e lo hi : Nat} (hb : w.heap[b]? = some (.cells c e (lo, hi))) (hr : lo = hi ∨ c.size ≤ lo) : Sim E h (w.freeze { block := b, off := c.size } 1) := by
  refine ⟨S.n, fun i B hi => ?_, S.dis⟩
  have hk := S.ok i B hi
  cases B with
  | cells m cs sp =>
    obtain ⟨h1, ⟨l, h2, h3⟩, h4⟩ := hk
    refine ⟨by rw [size_freeze]; exact h1, ⟨l, h2, fun j v hj => by rw [cell?_freeze]; exact h3 j v hj⟩, fun hm j hj => ?_⟩
    rw [cell?_freeze]
    exact ⟨(h4 hm j hj).1, rowOk_freeze hb hr (h4 hm j hj).2⟩
  | map es =>
    obtain ⟨l, c', h1, h2⟩ := hk
    exact ⟨l, c', map_freeze _ _ _ _ h1, h2⟩
  | dead => trivial

theorem Since.freeze {E : Emb} {h : List Blk} {w : World} {b : Nat} {c : Array Value} {e lo hi : Nat} (hb : w.heap[b]? = some (.cells c e (lo, hi))) (hr : lo = hi ∨ c.size ≤ lo) (hm : ∃ o, mutAt E h b o) : Since E h w E h (w.freeze { block := b, off := c.size } 1) := by
  obtain ⟨o0, hm0⟩ := hm
  refine ⟨Nat.le_refl _, fun _ _ => rfl, by rw [size_freeze]; exact Nat.le_refl _, fun k _ hk => other_freeze _ _ _ _ (fun e => ?_), fun k o _ _ => ⟨cell?_freeze _ _ _ _, fun hs => ?_⟩, fun _ _ hm _ => hm, ?_, ?_, ?_, fun _ _ h => rowOk_freeze hb hr h⟩
  · subst e; exact hk o0 hm0
  · obtain ⟨v, hv⟩ := Option.isSome_iff_exists.1 hs
    by_cases hkb : k = b
    · subst hkb
      have r1 : rowOk w k := ⟨c, _, lo, hi, hb, hr⟩
      rw [r1.frozen hv, (rowOk_freeze hb hr r1).frozen (by rw [cell?_freeze]; exact hv)]
    · unfold World.frozen?
      rw [other_freeze _ _ _ _ hkb]
  all_goals (unfold World.freeze; split <;> rfl)

/-! ### the operations -/

/-- What is left of an operation that hands back a value: it goes on in a later small world. -/
def Goes (T : Tbl) (E : Emb) (h : List Blk) (w : World) (m : Sem Value) (ts : List EV) (dst : Option Tmp) (k : St → Prop) : Prop :=
  ∃ u w' E' h' v, m.run T.P w = .ok u w' ∧ denE E' v u ∧ Sim E' h' w' ∧ Since E h w E' h' w' ∧ k ((⟨ts, h'⟩ : St).put dst v)

theorem denS_catS {E : Emb} : ∀ {a b : List Seg} {l m : List Value}, denS E a l → denS E b m → denS E (catS a b) (l ++ m) := by
  intro a b l m h1 h2
  unfold catS
  split
  · simp only [denS] at h1; subst h1; exact h2
  · rename_i k n f k' m' g
    split
    · rename_i hk
      have := sameK_eq hk
      subst this
      simp only [denS] at h1 h2
      obtain ⟨_, rfl, rfl⟩ := h1
      obtain ⟨_, rfl, rfl⟩ := h2
      refine ⟨[], ?_, rfl⟩
      simp only [List.append_nil]
      apply List.ext_getElem?
      intro j
      rcases Nat.lt_or_ge j n with h | h
      · rw [List.getElem?_append_left (by rw [length_intsOf]; exact h), intsOf_get h, intsOf_get (by omega)]
        simp [catF, h]
      · rw [List.getElem?_append_right (by rw [length_intsOf]; exact h), length_intsOf]
        rcases Nat.lt_or_ge (j - n) m' with h' | h'
        · rw [intsOf_get h', intsOf_get (by omega)]
          have : ¬ j < n := by omega
          simp [catF, this]
        · rw [List.getElem?_eq_none (by rw [length_intsOf]; exact h'), List.getElem?_eq_none (by rw [length_intsOf]; omega)]
    · exact denS_append h1 h2
  · exact denS_append h1 h2

theorem growK_eq (ts : List EV) (h : List Blk) (dst : Option Tmp) (n size : Nat) (cs : List Seg) (k : St → Prop) (hk : growK ts h dst n size cs k) (c : Nat) (hc : n ≤ c) :
    k ((⟨ts, h ++ [.cells true cs ((c - n) * size)]⟩ : St).put dst (.s (.gs h.length 0 n c))) := by
  have := hk c hc
  rw [forceS_eq, pushBK_eq, putK_eq, Nat.zero_add] at this
  exact this

theorem srcOk_snd {T : Tbl} {tx : TypeId} {y : EV} (h : srcOk T tx y = true) :
    (∃ s, y = .s (.str s)) ∧ T.P.underlying tx = some .string ∨ (¬ ∃ s, y = .s (.str s)) ∧ ∃ e', T.P.underlying tx = some (.slice e') := by
  unfold srcOk at h
  split at h
  · rename_i h1 h2
    refine .inl ⟨?_, (T.tyOk _ _ h1).desc⟩
    unfold isStr at h2
    split at h2
    · exact ⟨_, rfl⟩
    · cases h2
  · rename_i h1 h2
    refine .inr ⟨?_, _, (T.tyOk _ _ h1).desc⟩
    rintro ⟨s, rfl⟩
    cases h2
  · cases h

/-- What of an element's type the laws on slices ask. -/
theorem elem_info (T : Tbl) {e : TypeId} {te : TI} (h : T.ty e = some te) : ∃ i z, T.P.info? e = some i ∧ i.size = te.size ∧ i.bytes = te.bytes ∧ i.zero = some z ∧ valE te.zero = some z := by
  obtain ⟨_, h1, h2, z, h3, h4⟩ := T.tyOk e te h
  cases hi : T.P.info? e with
  | none => rw [hi] at h1; cases h1
  | some i =>
    rw [hi] at h1 h2 h4
    simp only [Option.map_some, Option.some.injEq] at h1 h2
    simp only [Option.bind_some] at h4
    exact ⟨i, z, rfl, h1, h2, h4, h3⟩

theorem zsz_snd {te : TI} {z : Value} (hz : valE te.zero = some z) (hs : zsz te = te.size) (h0 : 0 < te.size) : z.cells.size = te.size := by
  have E : Emb := ⟨0, fun _ => ⟨0, 0, false⟩⟩
  unfold zsz at hs
  split at hs
  · rename_i zs hq
    have := segsOf_den (valE_den (E := E) hz) hq
    rw [← hs, ← denS_length this, Array.length_toList]
  · omega

/-- A slice grows: whatever its address, what it holds can be read. -/
theorem grow_snd (T : Tbl) {E : Emb} {h h1 : List Blk} {w : World} (n0 : E.n = h.length) (S : Sim E h1 w) (N : Since E h w E h1 w) {t tx ty e : TypeId} {te : TI} (ht : T.P.underlying t = some (.slice e)) (he : T.ty e = some te)
    {base : Option Addr} {n c : Nat} {olds news : List Value} {cs : List Seg} {v : Value} {m : Nat} (hold : (Builtin.firstCells te.size n (.slice base n c)).run T.P w.drew = .ok olds.toArray w.drew)
    (hs : Src T.P te.size tx v m news w) (hd : denS E cs (olds ++ news)) (hg : c < n + m) (hr : room te (n + m)) {ts : List EV} {dst : Option Tmp} {k : St → Prop}
    (hk : growK ts h1 dst (n + m) te.size cs k) : Goes T E h w (Builtin.append_ #[t, tx] ty #[.slice base n c, v]) ts dst k := by
  obtain ⟨i, z, hi, hsz, hby, hz, hzv⟩ := elem_info T he
  obtain ⟨⟨hz1, hz0⟩, hr1, hr2⟩ := hr
  have hzs := zsz_snd hzv hz1 hz0
  rw [← hsz] at hold hs hzs
  rw [← hby] at hr2
  have hrun := run_append_grow_src (P := T.P) w t tx ty e i z ht hi hz base n c olds hold v m news hs hg (by omega) (growslice_fits hg hr2)
  have hge := grownCap_ge w (n + m) c e
  obtain ⟨S', N'⟩ := push_row S.drew e (arr := (olds ++ news).toArray ++ Builtin.zeroCells z.cells (grownCap w (n + m) c e - (n + m))) (lo := 0) (hi := 0) (.inl rfl) (cs := cs) (sp := (grownCap w (n + m) c e - (n + m)) * te.size)
    (l := olds ++ news) (rest := (Builtin.zeroCells z.cells (grownCap w (n + m) c e - (n + m))).toList) hd (by simp) (by
      rw [Array.length_toList, size_zeroCells, hzs, hsz]
      exact Nat.le_refl _)
  refine ⟨_, _, _, _, _, hrun, ?_, S', ((N.trans n0 S.n (Since.drew E h1 w)).trans n0 S.n N'), growK_eq ts h1 dst (n + m) te.size cs k hk _ hge⟩
  simp only [denE, denV]
  refine ⟨by rw [← S.n]; simp [Emb.push], ?_, ?_⟩
  · rw [← S.n, Emb.push_new]
    intro h; cases h
  · rw [← S.n, Emb.push_new]
    simp only [Bool.false_eq_true, if_false]
    have : (E.push ⟨w.drew.heap.size, 0, false⟩).at E.n 0 = ⟨w.heap.size, 0, none⟩ := by
      unfold Emb.at
      rw [Emb.push_new]
      rfl
    rw [this]

theorem appX_snd (T : Tbl) {E : Emb} {h : List Blk} {w : World} (S : Sim E h w) {t tx ty : TypeId} {x y : EV} {xv yv : Value} (hx : denE E x xv) (hy : denE E y yv) {ts : List EV} {dst : Option Tmp} {k : St → Prop}
    (hk : appX T ts h t tx x y dst k) : Goes T E h w (Builtin.append_ #[t, tx] ty #[xv, yv]) ts dst k := by
  unfold appX at hk
  split at hk
  · rename_i e _ _ _ ht
    have hd : T.P.underlying t = some (.slice e) := (T.tyOk _ _ ht).desc
    split at hk
    · rename_i te he
      split at hk
      · rename_i r hso hr
        have hsrc := srcOk_snd hso
        have onto : ∀ {b n c : Nat}, ontoX te ts h b n c r dst k → b < E.n → ((E.f b).nl = true ∧ n = 0 ∧ c = 0 ∧ xv = .slice none n c) ∨ ((E.f b).nl = false ∧ xv = .slice (some (E.at b 0)) n c) → Goes T E h w (Builtin.append_ #[t, tx] ty #[xv, yv]) ts dst k := by
          intro b n c hk hb hxv
          unfold ontoX at hk
          split at hk
          · rename_i cs sp hbk
            obtain ⟨⟨hp, hsz, hc, hroom⟩, hk⟩ := hk
            rw [updBK_eq, updB_eq] at hk
            obtain ⟨news, hdn, hs⟩ := rngX_snd T S hy hr hp hsrc
            obtain ⟨l, hl, hlw, _⟩ := S.look (nthB_get hbk)
            have hll := denS_length hl
            have hcat := denS_catS hl hdn
            have hrm := hroom
            obtain ⟨⟨hz1, hz0⟩, hr1, hr2⟩ := hroom
            obtain ⟨i, z, hi, hisz, hby, hz, hzv⟩ := elem_info T he
            rcases Nat.lt_or_ge c (n + r.n) with hg | hroom'
            · rcases hxv with ⟨_, rfl, rfl, rfl⟩ | ⟨_, rfl⟩
              · have : l = [] := List.eq_nil_of_length_eq_zero (by rw [hll, hsz]; simp)
                subst this
                exact grow_snd T S.n (S.drop b) (Since.drop w b) hd he (olds := []) (run_firstCells_none w.drew te.size 0 0 0) hs hcat hg hrm hk
              · refine grow_snd T S.n (S.drop b) (Since.drop w b) hd he (olds := l) (run_firstCells_some w.drew te.size n (E.at b 0) n c l (by rw [hll]; exact hsz) (fun j v hj => ?_)) hs hcat hg hrm hk
                rw [Emb.at_add]
                unfold Emb.at
                rw [Nat.zero_add]
                exact hlw j v hj
            · have hnl := hs.newsLen
              have hmul : n * te.size + r.n * te.size ≤ c * te.size := by rw [← Nat.add_mul]; exact Nat.mul_le_mul_right _ hroom'
              have hcatl := denS_length hcat
              rw [List.length_append, hll, hnl] at hcatl
              have hsp : sizeS (catS cs r.cs) + (c - (n + r.n)) * te.size = sizeS cs + sp := by
                rw [← hcatl, Nat.sub_mul, Nat.add_mul]
                omega
              have S1 := S.write (i := b) (cs' := catS cs r.cs) (sp' := (c - (n + r.n)) * te.size) (nthB_get hbk) (o := sizeS cs) (vs := news) hl hlw
                (by rw [← hll, List.take_length, List.drop_eq_nil_of_le (by omega), List.append_nil]; exact hcat) hsp (Nat.le_refl _) (by rw [hnl]; omega)
              have N1 := Since.write (E := E) (h := h) (w := w) (i := b) (cs := cs) (cs' := catS cs r.cs) (sp' := (c - (n + r.n)) * te.size) (nthB_get hbk) (o := sizeS cs) (vs := news) hsp (by rw [hnl]; omega)
              have hbl : b < h.length := by rw [← S.n]; exact hb
              have hself : (h.set b (.cells true (catS cs r.cs) ((c - (n + r.n)) * te.size)))[b]? = some (.cells true (catS cs r.cs) ((c - (n + r.n)) * te.size)) := List.getElem?_set_self hbl
              have S2 := S1.move hself
              have N2 := Since.move S1 hself
              rw [List.set_set] at S2 N2
              have hk2 := growK_eq ts _ dst (n + r.n) te.size (catS cs r.cs) k hk c hroom'
              obtain ⟨_, _, hm⟩ := S.ok b _ (nthB_get hbk)
              have hm := hm rfl
              have hlen : (h.set b Blk.dead).length = E.n := by rw [List.length_set]; exact S.n.symm
              rcases hxv with ⟨hq, rfl, rfl, rfl⟩ | ⟨hq, rfl⟩
              · have h0 : r.n = 0 := by omega
                have hn0 : news = [] := List.eq_nil_of_length_eq_zero (by rw [hnl, h0]; simp)
                subst hn0
                refine ⟨.slice none 0 0, w, _, _, _, ?_, ?_, S2, N1.trans S.n S1.n N2, hk2⟩
                · have hcl := hs.len
                  have hcc := hs.cells
                  rw [h0] at hcl hcc
                  rw [← hisz] at hcc
                  rcases hs.kind with ⟨e', hkk⟩ | hkk <;> simp [Builtin.append_, run_underlying hd, run_underlying hkk, sizeOf, typeInfo, hi, hcl, hcc]
                · simp only [denE, denV, hlen, Emb.push_new, hq, if_true]
                  refine ⟨by simp [Emb.push], fun _ => ⟨by omega, trivial⟩, by rw [h0]⟩
              · have hex : ∀ j, j < news.length → (w.cell? ⟨(E.f b).1, (E.f b).2 + n * te.size + j, none⟩).isSome = true ∧ w.frozen? ⟨(E.f b).1, (E.f b).2 + n * te.size + j, none⟩ = false := fun j hj => by
                  obtain ⟨⟨v, hv⟩, hro⟩ := hm (n * te.size + j) (by rw [hsz]; omega)
                  rw [Nat.add_assoc, hv]
                  exact ⟨rfl, hro.frozen hv⟩
                have hat : E.at b 0 = ⟨(E.f b).1, (E.f b).2, none⟩ := rfl
                refine ⟨Value.slice (some (E.at b 0)) (n + r.n) c, _, _, _, _, ?_, ?_, S2, N1.trans S.n S1.n N2, hk2⟩
                · rw [hat, hsz]
                  have := run_append_room_src (P := T.P) w t tx ty e i hd hi (E.f b).1 (E.f b).2 n c yv r.n news (by rw [hisz]; exact hs) hroom' (by rw [hisz]; exact fun j hj => (hex j hj).1) (by rw [hisz]; exact fun j hj => (hex j hj).2)
                  rw [hisz] at this
                  exact this
                · simp only [denE, denV, hlen, Emb.push_new, hq, Bool.false_eq_true, if_false]
                  refine ⟨by simp [Emb.push], fun h => h.elim, ?_⟩
                  unfold Emb.at
                  rw [Emb.push_new]
          · exact hk.elim
        split at hk
        · obtain ⟨⟨hp, hroom⟩, hk⟩ := hk
          obtain ⟨news, hdn, hs⟩ := rngX_snd T S hy hr hp hsrc
          simp only [denE, denV] at hx
          subst hx
          rcases Nat.eq_zero_or_pos r.n with h0 | h0
          · have hn0 : news = [] := List.eq_nil_of_length_eq_zero (by rw [hs.newsLen, h0]; simp)
            subst hn0
            obtain ⟨S', N'⟩ := push_nil S hdn
            have hk2 := growK_eq ts h dst r.n te.size r.cs k hk 0 (by omega)
            rw [h0, Nat.sub_zero, Nat.zero_mul] at hk2
            obtain ⟨i, z, hi, hisz, hby, hz, hzv⟩ := elem_info T he
            refine ⟨.slice none 0 0, w, _, _, _, ?_, ?_, S', N', hk2⟩
            · have hcl := hs.len
              have hcc := hs.cells
              rw [h0] at hcl hcc
              rw [← hisz] at hcc
              rcases hs.kind with ⟨e', hkk⟩ | hkk <;> simp [Builtin.append_, run_underlying hd, run_underlying hkk, sizeOf, typeInfo, hi, hcl, hcc]
            · simp only [denE, denV, ← S.n, Emb.push_new, if_true]
              exact ⟨by simp [Emb.push], fun _ => ⟨trivial, trivial⟩, trivial⟩
          · have hk' : growK ts h dst (0 + r.n) te.size r.cs k := by rw [Nat.zero_add]; exact hk
            exact grow_snd T S.n S (Since.refl _ _ _) hd he (olds := []) (run_firstCells_none w.drew te.size 0 0 0) hs (by simpa using hdn) (by omega) (by rw [Nat.zero_add]; exact hroom) hk'
        · simp only [denE, denV] at hx
          exact onto hk hx.1.1 (.inr ⟨hx.1.2, hx.2⟩)
        · rename_i b n c
          simp only [denE, denV] at hx
          obtain ⟨h1, h2, h3⟩ := hx
          refine onto hk h1 ?_
          cases hq : (E.f b).nl with
          | true => rw [hq] at h3 h2; exact .inl ⟨rfl, (h2 rfl).1, (h2 rfl).2, by simpa using h3⟩
          | false => rw [hq] at h3; exact .inr ⟨rfl, by simpa using h3⟩
        · exact hk.elim
      · exact hk.elim
    · exact hk.elim
  · exact hk.elim

end Go.Anv
