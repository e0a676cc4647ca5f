/- The engine, part 5: the walker is right: a piece of code that is walked does what the walker says. Plain theorems; their conditions are the table's own facts. -/
import Derived.Test.YtghcdkpgcanpgaaE4
import Derived.Laws.IdiomCopy
namespace Go.Anv
open Go

def PR.yl (E : Emb) (P : Program) (w : World) (m : Sem Next) : PR → Prop
  | .fail => True
  | .ok v => ∃ z, m.run P w = .ok (.value z) w ∧ denE E v z
  | .need p v => p → ∃ z, m.run P w = .ok (.value z) w ∧ denE E v z

theorem PR.snd.yl {E : Emb} {P : Program} {w : World} {m : Sem Value} {n : Sem Next} {r : PR} (h : r.snd E P w m) (hn : n = (do pure (.value (← m)))) : r.yl E P w n := by
  subst hn
  cases r with
  | fail => trivial
  | ok v =>
    obtain ⟨z, h1, h2⟩ := h
    exact ⟨z, by simp [h1], h2⟩
  | need p v =>
    intro hp
    obtain ⟨z, h1, h2⟩ := h hp
    exact ⟨z, by simp [h1], h2⟩

theorem nilX_yl (T : Tbl) {E : Emb} (w : World) (e : EV) (v : Value) (hx : denE E e v) : (nilX T e).yl E T.P w (execOp (fun _ => v) { dst := none, op := .nilCheck (.tmp 0), type := 0, pos := "", after := #[], guard := none }) := by
  unfold nilX
  split
  · simp only [denE, denV] at hx
    obtain ⟨h1, h2⟩ := hx
    exact ⟨_, by subst h2; rfl, ⟨h1, rfl⟩⟩
  · simp only [denE, denV] at hx
    obtain ⟨h1, h2⟩ := hx
    exact ⟨_, by subst h2; rfl, ⟨h1, rfl⟩⟩
  · have hx' := hx
    simp only [denE, denV] at hx
    obtain ⟨f', c', h1, _⟩ := hx
    exact ⟨v, by subst h1; rfl, hx'⟩
  · rename_i m t b o a c
    split
    · rename_i f hf
      have hx' := hx
      simp only [denE, denV] at hx
      obtain ⟨f', c', h1, h2, _⟩ := hx
      simp only [denL, denV] at h2
      obtain ⟨rv, l', h3, ⟨x, h4, x', lx, h5, ⟨h6, h7⟩, h8⟩, _⟩ := h2
      subst h8
      simp only [List.cons.injEq, and_true] at h5
      subst h5
      subst h7
      subst h4
      subst h1
      have h9 : f'[0]? = some (.iface t (.pointer (some (E.at b o)))) := by
        rw [← Array.getElem?_toList, h3]; rfl
      have h10 := (T.mthOk t m f hf (E.at b o) w).2
      refine ⟨_, ?_, hx'⟩
      unfold execOp
      simp only [h9, Sem.run_bind, run_program, Result.andThen_ok, h10]
      rfl
    · trivial
  · rename_i t a c
    have hx' := hx
    cases a <;> (simp only [denE, denV] at hx; obtain ⟨y, h1, _⟩ := hx; exact ⟨v, by subst h1; rfl, hx'⟩)
  · trivial

theorem px_snd (T : Tbl) {E : Emb} {h : List Blk} {w : World} (S : Sim E h w) (ev raw : Operand → EV) (ρ : Operand → Value) (o : Oper)
    (hev : ∀ x ∈ looks o.op, denE E (ev x) (ρ x)) (hraw : ∀ x, denE E (raw x) (ρ x)) : (px T h ev raw o.op).yl E T.P w (execOp ρ o) := by
  unfold execOp
  cases hop : o.op with
  | move x =>
    rw [hop] at hev
    exact ⟨_, rfl, hev x (by simp [looks, Op.operands])⟩
  | assign x =>
    rw [hop] at hev
    exact ⟨_, rfl, hev x (by simp [looks, Op.operands])⟩
  | pick c a b =>
    rw [hop] at hev
    have hc := hev c (by simp [looks])
    unfold px
    simp only
    split
    · rename_i t ht
      rw [ht] at hc
      simp only [denE, denV] at hc
      refine (pickX_snd T.P w t (raw a) (raw b) (ρ a) (ρ b) (hraw a) (hraw b) (pure (if t then ρ a else ρ b)) rfl).yl ?_
      simp [hc, asBool]
    · trivial
  | binOp op t x y ty =>
    rw [hop] at hev
    exact (binY_snd T w op t x y _ _ _ _ (hev x (by simp [looks, Op.operands])) (hev y (by simp [looks, Op.operands]))).yl rfl
  | unOp op t x =>
    rw [hop] at hev
    exact (unX_snd T.P w op _ _ (hev x (by simp [looks, Op.operands]))).yl rfl
  | convert src dst x =>
    rw [hop] at hev
    exact (convX_snd T S src dst _ _ (hev x (by simp [looks, Op.operands]))).yl rfl
  | slice t x lo hi mx =>
    rw [hop] at hev
    have hin : ∀ z, z ∈ lo ∨ z ∈ hi ∨ z ∈ mx → denE E (ev z) (ρ z) := fun z hz => hev z (by
      simp only [looks, Op.operands]
      rcases hz with hz | hz | hz <;> (simp only [Option.mem_def] at hz; subst hz; simp))
    refine (sliceX_snd T w t _ (lo.map ev) (hi.map ev) (mx.map ev) _ (lo.map ρ) (hi.map ρ) (mx.map ρ) (hev x (by simp [looks, Op.operands])) ?_ ?_ ?_ ?_ ?_ ?_).yl ?_
    · intro e he
      obtain ⟨z, hz, rfl⟩ := Option.map_eq_some_iff.1 he
      exact ⟨ρ z, by rw [hz]; rfl, hin z (.inl hz)⟩
    · intro e he
      obtain ⟨z, hz, rfl⟩ := Option.map_eq_some_iff.1 he
      exact ⟨ρ z, by rw [hz]; rfl, hin z (.inr (.inl hz))⟩
    · intro h'; cases lo with
      | none => rfl
      | some z => cases h'
    · intro h'; cases hi with
      | none => rfl
      | some z => cases h'
    · intro h'; cases mx with
      | none => rfl
      | some z => cases h'
    · intro e he
      obtain ⟨z, hz, rfl⟩ := Option.map_eq_some_iff.1 he
      exact ⟨ρ z, by rw [hz]; rfl, hin z (.inr (.inr hz))⟩
    · rfl
  | nilCheck x =>
    rw [hop] at hev
    exact nilX_yl T w _ _ (hev x (by simp [looks, Op.operands]))
  | fieldAddr t x i =>
    rw [hop] at hev
    exact (fieldAddrX_snd T w t _ i _ (hev x (by simp [looks, Op.operands]))).yl rfl
  | field t x i =>
    rw [hop] at hev
    exact (fieldX_snd T w t _ i _ (hev x (by simp [looks, Op.operands]))).yl rfl
  | indexAddr t x i =>
    rw [hop] at hev
    exact (indexAddrX_snd T w t _ _ _ _ (hev x (by simp [looks, Op.operands])) (hev i (by simp [looks, Op.operands]))).yl rfl
  | load t x =>
    rw [hop] at hev
    exact (loadX_snd T S t _ _ (hev x (by simp [looks, Op.operands]))).yl rfl
  | index t x i =>
    rw [hop] at hev
    have hx := hev x (by simp [looks, Op.operands])
    have hi := hev i (by simp [looks, Op.operands])
    unfold px
    simp only
    split
    · rename_i s k n hq1 hq2
      rw [hq1] at hx
      rw [hq2] at hi
      simp only [denE, denV] at hx hi
      split
      · rename_i ht
        have hd : T.P.underlying t = some .string := (T.tyOk _ _ ht).desc
        intro hb
        have hlt : n.toNat < s.size := by omega
        refine ⟨.int .u8 (s[n.toNat]).toNat, ?_, ?_⟩
        · rw [hx, hi]
          simp [Instr.index, asIntOf, run_underlying hd, hb.1, hlt]
        · have : (s.data.toList.map UInt8.toNat).getD n.toNat 0 = (s[n.toNat]).toNat := by
            have h2 : n.toNat < s.data.toList.length := by simpa using hlt
            simp [List.getElem?_eq_getElem h2]
            rfl
          simp only [denE, denV, this]
      · trivial
    · rename_i cs k n hq1 hq2
      rw [hq1] at hx
      rw [hq2] at hi
      simp only [denE, denV] at hx hi
      obtain ⟨l, hx, hl⟩ := hx
      split
      · rename_i len e _ _ _ ht
        have hd : T.P.underlying t = some (.array len e) := (T.tyOk _ _ ht).desc
        split
        · rename_i te hte
          have hsz := run_sizeOf_ti T hte w
          have hag := run_isAgg_ti T hte w
          split
          · rename_i k' m f
            split
            · trivial
            · rename_i hg
              split
              · rename_i hs
                intro hb
                simp only [denS] at hl
                obtain ⟨l', hl, hl'⟩ := hl
                have hget : l[n.toNat]? = some (.int k' (f n.toNat)) := by
                  rw [← Array.getElem?_toList, hl, List.getElem?_append_left (by simpa [length_intsOf] using hb.2)]
                  exact intsOf_get hb.2
                refine ⟨.int k' (f n.toNat), ?_, rfl⟩
                rw [hx, hi]
                simp [Instr.index, asIntOf, run_underlying hd, hb.1.1, hb.1.2, hsz, hs, part, hag, hg, hget]
              · trivial
          · rename_i hne
            split
            · rename_i v hv
              intro hb
              have := partX_snd T w e _ (n.toNat * te.size) l hl
              rw [hv] at this
              obtain ⟨z, h1, h2⟩ := this
              refine ⟨z, ?_, h2⟩
              rw [hx, hi]
              simp [Instr.index, asIntOf, run_underlying hd, hb.1, hb.2, hsz, h1]
            · trivial
        · trivial
      · trivial
    · trivial
  | extract x i =>
    rw [hop] at hev
    have hx := hev x (by simp [looks, Op.operands])
    unfold px
    simp only
    split
    · rename_i vs hq
      rw [hq] at hx
      simp only [denE] at hx
      obtain ⟨l, hx, hl⟩ := hx
      split
      · rename_i v hv
        obtain ⟨u, h1, h2⟩ := nthE_den hl hv
        rw [Array.getElem?_toList] at h1
        exact ⟨u, by rw [hx]; simp [Instr.extract, h1], h2⟩
      · trivial
    · trivial
  | makeInterface t x =>
    rw [hop] at hev
    have hx := hev x (by simp [looks, Op.operands])
    unfold px
    simp only
    split
    · trivial
    · rename_i i hi1 hi2
      have hnot : ∀ ms, T.P.underlying t ≠ some (.interface ms) := fun ms e => by
        have hd := (T.tyOk _ _ hi2).desc
        obtain ⟨d, s, b, z⟩ := i
        cases d <;> simp only [descOk] at hd
        case struct fs => obtain ⟨a, ha, _⟩ := hd; rw [ha] at e; cases e
        case iface => exact hi1 _ _ _ rfl
        case other => obtain ⟨a, b', c, ha⟩ := hd; rw [ha] at e; cases e
        all_goals (rw [hd] at e; cases e)
      have hsome : ∃ d, T.P.underlying t = some d := by
        have hd := (T.tyOk _ _ hi2).desc
        cases hdd : i.d <;> rw [hdd] at hd <;> simp only [descOk] at hd
        case struct fs => obtain ⟨a, ha, _⟩ := hd; exact ⟨_, ha⟩
        case iface => obtain ⟨a, ha⟩ := hd; exact ⟨_, ha⟩
        case other => obtain ⟨a, b, c, ha⟩ := hd; exact ⟨_, ha⟩
        all_goals exact ⟨_, hd⟩
      obtain ⟨d, hd⟩ := hsome
      have hrun : ∀ v, (Instr.makeInterface t v).run T.P w = .ok (.iface t v) w := fun v => by
        unfold Instr.makeInterface
        rw [Sem.run_bind, run_underlying hd, Result.andThen_ok]
        cases d <;> first
          | rfl
          | (rename_i ms; exact absurd hd (hnot ms))
      split
      · rename_i v hq
        rw [hq] at hx
        exact ⟨_, by simp [hrun], ⟨ρ x, rfl, by simp only [denL]; exact ⟨_, _, rfl, hx, rfl⟩⟩⟩
      · rename_i cs hq
        rw [hq] at hx
        simp only [denE] at hx
        obtain ⟨l, hx, hl⟩ := hx
        split
        · rename_i vs hvs
          exact ⟨.iface t (ρ x), by simp [hrun], ⟨l, by rw [hx], flat_den hl hvs⟩⟩
        · trivial
      · trivial
    · trivial
  | makeFunc fn a c =>
    rw [hop] at hev
    unfold px
    simp only
    split
    · rename_i x y h1 h2
      have k1 := denT_map (E := E) ev ρ a.toList (fun z hz => hev z (by simp [looks, Op.operands]; exact .inl (by simpa using hz)))
      have k2 := denT_map (E := E) ev ρ c.toList (fun z hz => hev z (by simp [looks, Op.operands]; exact .inr (by simpa using hz)))
      exact ⟨.func fn (a.map ρ) (c.map ρ), rfl, ⟨_, _, rfl, by simpa using svs_den k1 h1, by simpa using svs_den k2 h2⟩⟩
    · trivial
  | call c =>
    rw [hop] at hev
    unfold px
    obtain ⟨callee, args, argTypes⟩ := c
    cases callee with
    | value f => trivial
    | invoke r m => trivial
    | builtin b =>
      have hargs : ∀ x ∈ args.toList, denE E (ev x) (ρ x) := fun x hx => hev x (by simp [looks, Op.operands, Call.operands]; simpa using hx)
      cases b <;> simp only
      case len =>
        split
        · rename_i t x h1 h2
          have hx := hargs x (by rw [h2]; simp)
          have e1 : argTypes = #[t] := by rw [← Array.toList_inj]; exact h1
          have e2 : args = #[x] := by rw [← Array.toList_inj]; exact h2
          subst e1; subst e2
          split
          · rename_i ht hq
            have hd : T.P.underlying t = some (.slice _) := (T.tyOk _ _ ht).desc
            rw [hq] at hx
            simp only [denE, denV] at hx
            exact ⟨_, by simp [resolve, invoke, builtin, Builtin.len_, hx.2, run_underlying hd, goInt], rfl⟩
          · rename_i ht hq
            have hd : T.P.underlying t = some (.slice _) := (T.tyOk _ _ ht).desc
            rw [hq] at hx
            simp only [denE, denV] at hx
            exact ⟨_, by simp [resolve, invoke, builtin, Builtin.len_, hx, run_underlying hd, goInt], rfl⟩
          · rename_i ht hq
            have hd : T.P.underlying t = some (.slice _) := (T.tyOk _ _ ht).desc
            rw [hq] at hx
            simp only [denE, denV] at hx
            exact ⟨_, by simp [resolve, invoke, builtin, Builtin.len_, hx.2.2, run_underlying hd, goInt], rfl⟩
          · rename_i ht hq
            have hd : T.P.underlying t = some .string := (T.tyOk _ _ ht).desc
            rw [hq] at hx
            simp only [denE, denV] at hx
            exact ⟨_, by simp [resolve, invoke, builtin, Builtin.len_, hx, run_underlying hd, goInt], rfl⟩
          · rename_i ht
            have hd : T.P.underlying t = some (.array _ _) := (T.tyOk _ _ ht).desc
            exact ⟨_, by simp [resolve, invoke, builtin, Builtin.len_, run_underlying hd, goInt], rfl⟩
          · trivial
        · trivial
      case min =>
        split
        · rename_i x y h2
          have hx := hargs x (by rw [h2]; simp)
          have hy := hargs y (by rw [h2]; simp)
          have e2 : args = #[x, y] := by rw [← Array.toList_inj]; exact h2
          subst e2
          split
          · rename_i k a k' b hq1 hq2
            rw [hq1] at hx
            rw [hq2] at hy
            simp only [denE, denV] at hx hy
            exact ⟨_, by simp [resolve, invoke, builtin, Builtin.min_, Builtin.min2, hx, hy], rfl⟩
          · trivial
        · trivial
      case max =>
        split
        · rename_i x y h2
          have hx := hargs x (by rw [h2]; simp)
          have hy := hargs y (by rw [h2]; simp)
          have e2 : args = #[x, y] := by rw [← Array.toList_inj]; exact h2
          subst e2
          split
          · rename_i k a k' b hq1 hq2
            rw [hq1] at hx
            rw [hq2] at hy
            simp only [denE, denV] at hx hy
            exact ⟨_, by simp [resolve, invoke, builtin, Builtin.max_, Builtin.max2, hx, hy], rfl⟩
          · trivial
        · trivial
      all_goals trivial
  | _ => trivial

end Go.Anv
