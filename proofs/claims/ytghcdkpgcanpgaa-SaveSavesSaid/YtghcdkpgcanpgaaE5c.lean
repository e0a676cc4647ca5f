/- The engine, part 5c: 'append(x, make([]T, n)...)' of whole numbers: zeros behind a slice. Plain theorems; their conditions are the table's own facts. -/
import Derived.Test.YtghcdkpgcanpgaaE5b
import Derived.Lib.AppendZeros
import Derived.Lib.AppendZerosOnto
namespace Go.Anv
open Go

theorem zeros_ints (q : IntKind) (z : Int) (n : Nat) : (Builtin.zeroCells #[Value.int q z] n).toList = intsOf q n (fun _ => z) := by
  apply List.ext_getElem?
  intro j
  rcases Nat.lt_or_ge j n with h | h
  · rw [intsOf_get h]
    simp [Builtin.zeroCells, h, Nat.mod_one]
  · rw [List.getElem?_eq_none (by simpa [Builtin.zeroCells] using h), List.getElem?_eq_none (by rw [length_intsOf]; exact h)]

/-- zeros into the room of a slice. -/
theorem run_append_room_zeros {P : Program} (w : World) (t tn ty e : TypeId) (i : TypeInfo) (q : IntKind) (z : Int) (kq kn : IntKind) (ht : P.underlying t = some (.slice e)) (htn : P.underlying tn = some (.int kn)) (hi : P.info? e = some i) (hz : i.zero = some (.int q z)) (hs : i.size = 1)
    (b off n c m : Nat) (h63 : m ≤ 140737488355328) (h48 : m * i.bytes ≤ 281474976710656) (hroom : n + m ≤ c)
    (hc : ∀ j, j < m → (w.cell? ⟨b, off + n + j, none⟩).isSome = true) (hf : ∀ j, j < m → w.frozen? ⟨b, off + n + j, none⟩ = false) :
    (Builtin.append_ #[t, tn] ty #[.slice (some ⟨b, off, none⟩) n c, .int kq m]).run P w = .ok (.slice (some ⟨b, off, none⟩) (n + m) c) (w.setCells b (off + n) (intsOf q m (fun _ => z))) := by
  have hw : IntKind.i64.wrap (m : Int) = m := by rw [IntKind.wrap_i64]; omega
  have h48i : ¬ (281474976710656 < (m : Int) * (i.bytes : Int)) := by
    rw [← Int.natCast_mul]
    omega
  have hneg : ¬ ((m : Int) < 0) := by omega
  have hadd : (⟨b, off, none⟩ : Addr).add n = ⟨b, off + n, none⟩ := by
    unfold Addr.add
    split
    · subst_vars; rfl
    · rfl
  have hst := run_storeCells_cells (P := P) b (off + n) (intsOf q m (fun _ => z)) 0 w (fun j hj => by
    rw [length_intsOf] at hj
    rw [Nat.add_zero]; exact hc j hj) (fun j hj => by
    rw [length_intsOf] at hj
    rw [Nat.add_zero]; exact hf j hj) (fun v hv => by
    simp only [intsOf, List.mem_map] at hv
    obtain ⟨_, _, rfl⟩ := hv
    rfl)
  rw [Nat.add_zero] at hst
  rcases Nat.eq_zero_or_pos m with h0 | h0
  · subst h0
    have : intsOf q 0 (fun _ => z) = [] := rfl
    rw [this] at hst ⊢
    have hw0 : IntKind.i64.wrap 0 = 0 := by decide
    have hroom' : n ≤ c := by omega
    have hnil : (w.setCells b (off + n) []) = w := rfl
    rw [hnil] at hst ⊢
    simp [Builtin.append_, run_underlying ht, run_underlying htn, sizeOf, typeInfo, hi, hs, asInt, asIntOf, hw0, hroom', hadd, hst]
  · have hm : ¬ (m = 0) := by omega
    have hzc : (Builtin.zeroCells (Value.int q z).cells m).toList = intsOf q m (fun _ => z) := zeros_ints q z m
    simp [Builtin.append_, run_underlying ht, run_underlying htn, sizeOf, typeInfo, zeroValue, hi, hz, hs, asInt, asIntOf, hw, hm, hneg, h48i, hroom, hadd, hzc]
    rw [hst]
    rfl

/-- A slice has grown, in whatever way its run is known. -/
theorem grow_core (T : Tbl) {E : Emb} {h h1 : List Blk} {w : World} (n0 : E.n = h.length) (S : Sim E h1 w) (N : Since E h w E h1 w) {e : TypeId} {te : TI} {sem : Sem Value} {zc : Array Value}
    {n c m : Nat} {l : List Value} {cs : List Seg} (hrun : sem.run T.P w = .ok (.slice (some ⟨w.heap.size, 0, none⟩) (n + m) (grownCap w (n + m) c e)) (w.drew.alloc (.cells (l.toArray ++ zc) e)))
    (hzc : zc.size = (grownCap w (n + m) c e - (n + m)) * te.size) (hd : denS E cs l) {ts : List EV} {dst : Option Tmp} {k : St → Prop}
    (hk : growK ts h1 dst (n + m) te.size cs k) : Goes T E h w sem ts dst k := by
  have hge := grownCap_ge w (n + m) c e
  obtain ⟨S', N'⟩ := push_row S.drew e (arr := l.toArray ++ zc) (lo := 0) (hi := 0) (.inl rfl) (cs := cs) (sp := (grownCap w (n + m) c e - (n + m)) * te.size)
    (l := l) (rest := zc.toList) hd (by simp) (by rw [Array.length_toList, hzc]; exact Nat.le_refl _)
  refine ⟨_, _, _, _, _, hrun, ?_, S', ((N.trans n0 S.n (Since.drew E h1 w)).trans n0 S.n N'), growK_eq ts h1 dst (n + m) te.size cs k hk _ hge⟩
  simp only [denE, denV]
  refine ⟨by rw [← S.n]; simp [Emb.push], ?_, ?_⟩
  · rw [← S.n, Emb.push_new]
    intro h; cases h
  · rw [← S.n, Emb.push_new]
    simp only [Bool.false_eq_true, if_false]
    have : (E.push ⟨w.drew.heap.size, 0, false⟩).at E.n 0 = ⟨w.heap.size, 0, none⟩ := by
      unfold Emb.at
      rw [Emb.push_new]
      rfl
    rw [this]

theorem zappX_snd (T : Tbl) {E : Emb} {h : List Blk} {w : World} (S : Sim E h w) {t tx ty : TypeId} {kn kq : IntKind} {x : EV} {xv : Value} {m : Int} (hx : denE E x xv) (htn : T.P.underlying tx = some (.int kn)) {ts : List EV} {dst : Option Tmp} {k : St → Prop}
    (hk : zappX T ts h t x m dst k) : Goes T E h w (Builtin.append_ #[t, tx] ty #[xv, .int kq m]) ts dst k := by
  unfold zappX at hk
  split at hk
  · rename_i e _ _ _ ht
    have hd : T.P.underlying t = some (.slice e) := (T.tyOk _ _ ht).desc
    split at hk
    · rename_i te he
      split at hk
      · rename_i q z hz1 hs1
        obtain ⟨i, zv, hi, hisz, hby, hz, hzv⟩ := elem_info T he
        rw [hz1] at hzv
        simp only [valE, valV, Option.some.injEq] at hzv
        subst hzv
        have his : i.size = 1 := by rw [hisz, hs1]
        have hzcs : ∀ n, (Builtin.zeroCells (Value.int q z).cells n).size = n := fun n => by simp [Builtin.zeroCells, Value.cells]
        have grow : ∀ {h1 : List Blk} {base : Option Addr} {n c : Nat} {olds : List Value} {cs : List Seg}, Sim E h1 w → Since E h w E h1 w → (Builtin.firstCells te.size n (.slice base n c)).run T.P w.drew = .ok olds.toArray w.drew → denS E cs (olds ++ intsOf q m.toNat (fun _ => z)) →
            0 ≤ m → 0 < m.toNat → c < n + m.toNat → room te (n + m.toNat) → growK ts h1 dst (n + m.toNat) te.size cs k → Goes T E h w (Builtin.append_ #[t, tx] ty #[.slice base n c, .int kq m]) ts dst k := by
          intro h1 base n c olds cs S1 N1 hold hden hm hpos hg hr hk
          obtain ⟨_, hr1, hr2⟩ := hr
          rw [← hby] at hr2
          rw [← hisz] at hold
          obtain ⟨k', rfl⟩ := Int.eq_ofNat_of_zero_le hm
          rw [Int.toNat_natCast] at *
          have hfit := growslice_fits hg hr2
          have hkb : k' * i.bytes ≤ 281474976710656 := by
            have : k' * i.bytes ≤ (n + k') * i.bytes := Nat.mul_le_mul_right _ (by omega)
            omega
          have hrun := Lib.run_append_grow_zeros (P := T.P) w t tx ty e i (.int q z) kq kn hd htn hi hz base n c olds hold k' hpos (by omega) hg (by omega) hkb hfit
          refine grow_core T S.n S1 N1 (e := e) (zc := Builtin.zeroCells (Value.int q z).cells (grownCap w (n + k') c e - (n + k'))) (l := olds ++ intsOf q k' (fun _ => z)) ?_ (by rw [hzcs, hs1, Nat.mul_one]) hden hk
          rw [hrun]
          have : (olds ++ intsOf q k' fun _ => z).toArray = olds.toArray ++ Builtin.zeroCells (Value.int q z).cells k' := by
            rw [← Array.toList_inj, Array.toList_append, ← zeros_ints q z k']
            rfl
          rw [this]
        have onto : ∀ {b n c : Nat}, ontoX te ts h b n c ⟨0 ≤ m, m.toNat, [.ints q m.toNat (fun _ => z)]⟩ dst k → b < E.n → ((E.f b).nl = true ∧ n = 0 ∧ c = 0 ∧ xv = .slice none n c) ∨ ((E.f b).nl = false ∧ xv = .slice (some (E.at b 0)) n c) →
            Goes T E h w (Builtin.append_ #[t, tx] ty #[xv, .int kq m]) ts dst k := by
          intro b n c hk hb hxv
          unfold ontoX at hk
          split at hk
          · rename_i cs sp hbk
            obtain ⟨⟨hp, hsz, hc, hroom⟩, hk⟩ := hk
            simp only at hp hroom hk
            rw [updBK_eq, updB_eq] at hk
            obtain ⟨l, hl, hlw, _⟩ := S.look (nthB_get hbk)
            have hll := denS_length hl
            have hdn : denS E [Seg.ints q m.toNat (fun _ => z)] (intsOf q m.toNat (fun _ => z)) := ⟨[], by rw [List.append_nil], rfl⟩
            have hcat := denS_catS hl hdn
            have hrm := hroom
            obtain ⟨_, hr1, hr2⟩ := hroom
            rw [hs1, Nat.mul_one] at hsz
            rw [hs1, Nat.mul_one, Nat.mul_one] at hc
            rcases Nat.lt_or_ge c (n + m.toNat) with hg | hroom'
            · have hpos : 0 < m.toNat := by omega
              rcases hxv with ⟨_, rfl, rfl, rfl⟩ | ⟨_, rfl⟩
              · have : l = [] := List.eq_nil_of_length_eq_zero (by rw [hll, hsz])
                subst this
                exact grow (S.drop b) (Since.drop w b) (olds := []) (run_firstCells_none w.drew te.size 0 0 0) hcat hp hpos hg hrm hk
              · refine grow (S.drop b) (Since.drop w b) (olds := l) (run_firstCells_some w.drew te.size n (E.at b 0) n c l (by rw [hll, hsz, hs1, Nat.mul_one]) (fun j v hj => ?_)) hcat hp hpos hg hrm hk
                rw [Emb.at_add]
                unfold Emb.at
                rw [Nat.zero_add]
                exact hlw j v hj
            · have hcatl := denS_length hcat
              rw [List.length_append, hll, length_intsOf] at hcatl
              have hsp : sizeS (catS cs [Seg.ints q m.toNat (fun _ => z)]) + (c - (n + m.toNat)) * te.size = sizeS cs + sp := by
                rw [← hcatl, hs1, Nat.mul_one]
                omega
              have S1 := S.write (i := b) (cs' := catS cs [Seg.ints q m.toNat (fun _ => z)]) (sp' := (c - (n + m.toNat)) * te.size) (nthB_get hbk) (o := sizeS cs) (vs := intsOf q m.toNat (fun _ => z)) hl hlw
                (by rw [← hll, List.take_length, List.drop_eq_nil_of_le (by omega), List.append_nil]; exact hcat) hsp (Nat.le_refl _) (by rw [length_intsOf]; omega)
              have N1 := Since.write (E := E) (h := h) (w := w) (i := b) (cs := cs) (cs' := catS cs [Seg.ints q m.toNat (fun _ => z)]) (sp' := (c - (n + m.toNat)) * te.size) (nthB_get hbk) (o := sizeS cs) (vs := intsOf q m.toNat (fun _ => z)) hsp (by rw [length_intsOf]; omega)
              have hbl : b < h.length := by rw [← S.n]; exact hb
              have hself : (h.set b (.cells true (catS cs [Seg.ints q m.toNat (fun _ => z)]) ((c - (n + m.toNat)) * te.size)))[b]? = some (.cells true (catS cs [Seg.ints q m.toNat (fun _ => z)]) ((c - (n + m.toNat)) * te.size)) := List.getElem?_set_self hbl
              have S2 := S1.move hself
              have N2 := Since.move S1 hself
              rw [List.set_set] at S2 N2
              have hk2 := growK_eq ts _ dst (n + m.toNat) te.size (catS cs [Seg.ints q m.toNat (fun _ => z)]) k hk c hroom'
              obtain ⟨_, _, hm⟩ := S.ok b _ (nthB_get hbk)
              have hm := hm rfl
              have hlen : (h.set b Blk.dead).length = E.n := by rw [List.length_set]; exact S.n.symm
              obtain ⟨k', rfl⟩ := Int.eq_ofNat_of_zero_le hp
              rw [Int.toNat_natCast] at *
              have hkb : k' * i.bytes ≤ 281474976710656 := by
                rw [← hby] at hr2
                have : k' * i.bytes ≤ (n + k') * i.bytes := Nat.mul_le_mul_right _ (by omega)
                omega
              rcases hxv with ⟨hq, rfl, rfl, rfl⟩ | ⟨hq, rfl⟩
              · have h0 : k' = 0 := by omega
                subst h0
                refine ⟨.slice none 0 0, w, _, _, _, ?_, ?_, S2, N1.trans S.n S1.n N2, hk2⟩
                · have hw0 : IntKind.i64.wrap 0 = 0 := by decide
                  simp [Builtin.append_, run_underlying hd, run_underlying htn, sizeOf, typeInfo, hi, asInt, asIntOf, hw0]
                · simp only [denE, denV, hlen, Emb.push_new, hq, if_true]
                  exact ⟨by simp [Emb.push], fun _ => ⟨by omega, trivial⟩, trivial⟩
              · have hex : ∀ j, j < k' → (w.cell? ⟨(E.f b).1, (E.f b).2 + n + j, none⟩).isSome = true ∧ w.frozen? ⟨(E.f b).1, (E.f b).2 + n + j, none⟩ = false := fun j hj => by
                  obtain ⟨⟨v, hv⟩, hro⟩ := hm (n + j) (by omega)
                  rw [Nat.add_assoc, hv]
                  exact ⟨rfl, hro.frozen hv⟩
                have hat : E.at b 0 = ⟨(E.f b).1, (E.f b).2, none⟩ := rfl
                refine ⟨Value.slice (some (E.at b 0)) (n + k') c, _, _, _, _, ?_, ?_, S2, N1.trans S.n S1.n N2, hk2⟩
                · rw [hat, hsz]
                  exact run_append_room_zeros (P := T.P) w t tx ty e i q z kq kn hd htn hi hz his (E.f b).1 (E.f b).2 n c k' (by omega) hkb hroom' (fun j hj => (hex j hj).1) (fun j hj => (hex j hj).2)
                · simp only [denE, denV, hlen, Emb.push_new, hq, Bool.false_eq_true, if_false]
                  refine ⟨by simp [Emb.push], fun h => h.elim, ?_⟩
                  unfold Emb.at
                  rw [Emb.push_new]
          · exact hk.elim
        split at hk
        · obtain ⟨⟨hp, hroom⟩, hk⟩ := hk
          simp only [denE, denV] at hx
          subst hx
          rcases Nat.eq_zero_or_pos m.toNat with h0 | h0
          · have hm0 : m = 0 := by omega
            subst hm0
            obtain ⟨S', N'⟩ := push_nil S (cs := [Seg.ints q (0 : Int).toNat (fun _ => z)]) ⟨[], rfl, rfl⟩
            have hk2 := growK_eq ts h dst (0 : Int).toNat te.size [Seg.ints q (0 : Int).toNat (fun _ => z)] k hk 0 (by simp)
            refine ⟨.slice none 0 0, w, _, _, _, ?_, ?_, S', N', by simpa using hk2⟩
            · have hw0 : IntKind.i64.wrap 0 = 0 := by decide
              simp [Builtin.append_, run_underlying hd, run_underlying htn, sizeOf, typeInfo, hi, asInt, asIntOf, hw0]
            · simp only [denE, denV, ← S.n, Emb.push_new, if_true]
              exact ⟨by simp [Emb.push], by simp, by simp⟩
          · have hk' : growK ts h dst (0 + m.toNat) te.size [Seg.ints q m.toNat (fun _ => z)] k := by rw [Nat.zero_add]; exact hk
            exact grow S (Since.refl _ _ _) (olds := []) (run_firstCells_none w.drew te.size 0 0 0) (show denS E [Seg.ints q m.toNat (fun _ => z)] ([] ++ intsOf q m.toNat (fun _ => z)) from ⟨[], by simp, rfl⟩) hp h0 (by omega) (by rw [Nat.zero_add]; exact hroom) hk'
        · simp only [denE, denV] at hx
          exact onto hk hx.1.1 (.inr ⟨hx.1.2, hx.2⟩)
        · rename_i b n c
          simp only [denE, denV] at hx
          obtain ⟨h1, h2, h3⟩ := hx
          refine onto hk h1 ?_
          cases hq : (E.f b).nl with
          | true => rw [hq] at h3 h2; exact .inl ⟨rfl, (h2 rfl).1, (h2 rfl).2, by simpa using h3⟩
          | false => rw [hq] at h3; exact .inr ⟨rfl, by simpa using h3⟩
        · exact hk.elim
      · exact hk.elim
    · exact hk.elim
  · exact hk.elim

end Go.Anv
