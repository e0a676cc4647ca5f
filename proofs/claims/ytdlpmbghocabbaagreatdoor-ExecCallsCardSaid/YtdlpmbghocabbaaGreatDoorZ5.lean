/- Part 5 of the texts of this claim, merged: E9, E9b, E10, E11, E12. No condition: plain theorems, contracts of functions. -/
import Derived.Test.YtdlpmbghocabbaaGreatDoorZ4

set_option linter.unusedSimpArgs false
set_option linter.unusedVariables false
/- The engine, part 9: a region that draws its order. What yields its value whatever comes first is taken first; all orders of the rest. Plain theorems; their condition: no panic is let through. -/
namespace Go.Anv
open Go

/-! ### values that are told -/

mutual
def detV : SV → Bool
  | .junk => false
  | .func _ a c => detL a && detL c
  | .iface _ _ cs => detL cs
  | _ => true
def detL : List SV → Bool
  | [] => true
  | v :: r => detV v && detL r
end

def detS : List Seg → Bool
  | [] => true
  | .one v :: r => detV v && detS r
  | .ints .. :: r => detS r

mutual
def detE : EV → Bool
  | .s v => detV v
  | .agg cs => detS cs
  | .tuple vs => detT vs
  | .gd _ v => detE v
  | .junk => false
def detT : List EV → Bool
  | [] => true
  | v :: r => detE v && detT r
end

mutual
theorem detV_eq {E : Emb} : ∀ (e : SV) (u v : Value), detV e = true → denV E e u → denV E e v → u = v
  | .junk, _, _, hd, _, _ => by simp [detV] at hd
  | .int .., _, _, _, h, k => by simp only [denV] at h k; rw [h, k]
  | .bool _, _, _, _, h, k => by simp only [denV] at h k; rw [h, k]
  | .str _, _, _, _, h, k => by simp only [denV] at h k; rw [h, k]
  | .ptr .., _, _, _, h, k => by simp only [denV] at h k; rw [h.2, k.2]
  | .pix .., _, _, _, h, k => by simp only [denV] at h k; rw [h.2, k.2]
  | .rp .., _, _, _, h, k => by simp only [denV] at h k; rw [h.2, k.2]
  | .nilptr, _, _, _, h, k => by simp only [denV] at h k; rw [h, k]
  | .slice .., _, _, _, h, k => by simp only [denV] at h k; rw [h.2, k.2]
  | .nilslice, _, _, _, h, k => by simp only [denV] at h k; rw [h, k]
  | .gs .., _, _, _, h, k => by simp only [denV] at h k; rw [h.2.2, k.2.2]
  | .map _, _, _, _, h, k => by simp only [denV] at h k; rw [h.2, k.2]
  | .nilmap, _, _, _, h, k => by simp only [denV] at h k; rw [h, k]
  | .func fn a c, _, _, hd, h, k => by
    simp only [detV, Bool.and_eq_true] at hd
    simp only [denV] at h k
    obtain ⟨f1, c1, rfl, h1, h2⟩ := h
    obtain ⟨f2, c2, rfl, k1, k2⟩ := k
    rw [Array.toList_inj.1 (detL_eq a _ _ hd.1 h1 k1), Array.toList_inj.1 (detL_eq c _ _ hd.2 h2 k2)]
  | .nilfunc, _, _, _, h, k => by simp only [denV] at h k; rw [h, k]
  | .iface t true cs, _, _, hd, h, k => by
    simp only [detV] at hd
    simp only [denV] at h k
    obtain ⟨l, rfl, h1⟩ := h
    obtain ⟨m, rfl, k1⟩ := k
    rw [Array.toList_inj.1 (detL_eq cs _ _ hd h1 k1)]
  | .iface t false cs, _, _, hd, h, k => by
    simp only [detV] at hd
    simp only [denV] at h k
    obtain ⟨l, rfl, h1⟩ := h
    obtain ⟨m, rfl, k1⟩ := k
    have := detL_eq cs _ _ hd h1 k1
    simp only [List.cons.injEq, and_true] at this
    rw [this]
  | .niliface, _, _, _, h, k => by simp only [denV] at h k; rw [h, k]
theorem detL_eq {E : Emb} : ∀ (l : List SV) (u v : List Value), detL l = true → denL E l u → denL E l v → u = v
  | [], _, _, _, h, k => by simp only [denL] at h k; rw [h, k]
  | e :: r, _, _, hd, h, k => by
    simp only [detL, Bool.and_eq_true] at hd
    simp only [denL] at h k
    obtain ⟨v, l, rfl, h1, h2⟩ := h
    obtain ⟨v', l', rfl, k1, k2⟩ := k
    rw [detV_eq e _ _ hd.1 h1 k1, detL_eq r _ _ hd.2 h2 k2]
end

theorem detS_eq {E : Emb} : ∀ (l : List Seg) (u v : List Value), detS l = true → denS E l u → denS E l v → u = v
  | [], _, _, _, h, k => by simp only [denS] at h k; rw [h, k]
  | .one e :: r, _, _, hd, h, k => by
    simp only [detS, Bool.and_eq_true] at hd
    simp only [denS] at h k
    obtain ⟨v, l, rfl, h1, h2⟩ := h
    obtain ⟨v', l', rfl, k1, k2⟩ := k
    rw [detV_eq e _ _ hd.1 h1 k1, detS_eq r _ _ hd.2 h2 k2]
  | .ints q n f :: r, _, _, hd, h, k => by
    simp only [detS] at hd
    simp only [denS] at h k
    obtain ⟨l, rfl, h2⟩ := h
    obtain ⟨l', rfl, k2⟩ := k
    rw [detS_eq r _ _ hd h2 k2]

mutual
theorem detE_eq {E : Emb} : ∀ (e : EV) (u v : Value), detE e = true → denE E e u → denE E e v → u = v
  | .s x, u, v, hd, h, k => by simp only [detE] at hd; simp only [denE] at h k; exact detV_eq x u v hd h k
  | .agg cs, u, v, hd, h, k => by
    simp only [detE] at hd
    simp only [denE] at h k
    obtain ⟨l, rfl, h1⟩ := h
    obtain ⟨m, rfl, k1⟩ := k
    rw [Array.toList_inj.1 (detS_eq cs _ _ hd h1 k1)]
  | .tuple vs, u, v, hd, h, k => by
    simp only [detE] at hd
    simp only [denE] at h k
    obtain ⟨l, rfl, h1⟩ := h
    obtain ⟨m, rfl, k1⟩ := k
    rw [Array.toList_inj.1 (detT_eq vs _ _ hd h1 k1)]
  | .gd g x, u, v, hd, h, k => by
    simp only [detE] at hd
    simp only [denE] at h k
    cases g with
    | true => exact detE_eq x u v hd (h.1 rfl) (k.1 rfl)
    | false => rw [h.2 rfl, k.2 rfl]
  | .junk, _, _, hd, _, _ => by simp [detE] at hd
theorem detT_eq {E : Emb} : ∀ (l : List EV) (u v : List Value), detT l = true → denT E l u → denT E l v → u = v
  | [], _, _, _, h, k => by simp only [denT] at h k; rw [h, k]
  | e :: r, _, _, hd, h, k => by
    simp only [detT, Bool.and_eq_true] at hd
    simp only [denT] at h k
    obtain ⟨v, l, rfl, h1, h2⟩ := h
    obtain ⟨v', l', rfl, k1, k2⟩ := k
    rw [detE_eq e _ _ hd.1 h1 k1, detT_eq r _ _ hd.2 h2 k2]
end

/-! ### the small world of the region's begin, seen from later -/

mutual
theorem denV_back {E E' : Emb} (h : E.le E') : ∀ (e : SV) (u v : Value), denV E e u → denV E' e v → denV E e v
  | .junk, _, _, _, k => k
  | .int .., _, _, _, k => k
  | .bool _, _, _, _, k => k
  | .str _, _, _, _, k => k
  | .ptr b o, _, _, g, k => by simp only [denV] at g k ⊢; exact ⟨g.1, by rw [k.2, Emb.le_at h g.1]⟩
  | .pix b o i, _, _, g, k => by simp only [denV] at g k ⊢; exact ⟨g.1, by rw [k.2, Emb.le_at h g.1]⟩
  | .rp b o i z, _, _, g, k => by simp only [denV] at g k ⊢; exact ⟨g.1, by rw [k.2, Emb.le_at h g.1]⟩
  | .nilptr, _, _, _, k => k
  | .slice .., _, _, g, k => by simp only [denV] at g k ⊢; exact ⟨g.1, by rw [k.2, Emb.le_at h g.1.1]⟩
  | .nilslice, _, _, _, k => k
  | .gs .., _, _, g, k => by simp only [denV] at g k ⊢; exact ⟨g.1, g.2.1, by rw [k.2.2, Emb.le_at h g.1, h.2 _ g.1]⟩
  | .map b, _, _, g, k => by simp only [denV] at g k ⊢; exact ⟨g.1, by rw [k.2, h.2 b g.1]⟩
  | .nilmap, _, _, _, k => k
  | .func fn a c, _, _, g, k => by
    simp only [denV] at g k ⊢
    obtain ⟨f1, c1, _, h1, h2⟩ := g
    obtain ⟨f2, c2, rfl, k1, k2⟩ := k
    exact ⟨f2, c2, rfl, denL_back h a _ _ h1 k1, denL_back h c _ _ h2 k2⟩
  | .nilfunc, _, _, _, k => k
  | .iface t true cs, _, _, g, k => by
    simp only [denV] at g k ⊢
    obtain ⟨l, _, h1⟩ := g
    obtain ⟨m, rfl, k1⟩ := k
    exact ⟨m, rfl, denL_back h cs _ _ h1 k1⟩
  | .iface t false cs, _, _, g, k => by
    simp only [denV] at g k ⊢
    obtain ⟨l, _, h1⟩ := g
    obtain ⟨m, rfl, k1⟩ := k
    exact ⟨m, rfl, denL_back h cs _ _ h1 k1⟩
  | .niliface, _, _, _, k => k
theorem denL_back {E E' : Emb} (h : E.le E') : ∀ (l : List SV) (u v : List Value), denL E l u → denL E' l v → denL E l v
  | [], _, _, _, k => k
  | e :: r, _, _, g, k => by
    simp only [denL] at g k ⊢
    obtain ⟨v, l, _, h1, h2⟩ := g
    obtain ⟨v', l', rfl, k1, k2⟩ := k
    exact ⟨v', l', rfl, denV_back h e _ _ h1 k1, denL_back h r _ _ h2 k2⟩
end

theorem denS_back {E E' : Emb} (h : E.le E') : ∀ (l : List Seg) (u v : List Value), denS E l u → denS E' l v → denS E l v
  | [], _, _, _, k => k
  | .one e :: r, _, _, g, k => by
    simp only [denS] at g k ⊢
    obtain ⟨v, l, _, h1, h2⟩ := g
    obtain ⟨v', l', rfl, k1, k2⟩ := k
    exact ⟨v', l', rfl, denV_back h e _ _ h1 k1, denS_back h r _ _ h2 k2⟩
  | .ints q n f :: r, _, _, g, k => by
    simp only [denS] at g k ⊢
    obtain ⟨l, _, h2⟩ := g
    obtain ⟨l', rfl, k2⟩ := k
    exact ⟨l', rfl, denS_back h r _ _ h2 k2⟩

mutual
theorem denE_back {E E' : Emb} (h : E.le E') : ∀ (e : EV) (u v : Value), denE E e u → denE E' e v → denE E e v
  | .s x, _, _, g, k => by simp only [denE] at g k ⊢; exact denV_back h x _ _ g k
  | .agg cs, _, _, g, k => by
    simp only [denE] at g k ⊢
    obtain ⟨l, _, h1⟩ := g
    obtain ⟨m, rfl, k1⟩ := k
    exact ⟨m, rfl, denS_back h cs _ _ h1 k1⟩
  | .tuple vs, _, _, g, k => by
    simp only [denE] at g k ⊢
    obtain ⟨l, _, h1⟩ := g
    obtain ⟨m, rfl, k1⟩ := k
    exact ⟨m, rfl, denT_back h vs _ _ h1 k1⟩
  | .gd b x, _, _, g, k => by simp only [denE] at g k ⊢; exact ⟨fun hb => denE_back h x _ _ (g.1 hb) (k.1 hb), k.2⟩
  | .junk, _, _, _, _ => by simp only [denE]
theorem denT_back {E E' : Emb} (h : E.le E') : ∀ (l : List EV) (u v : List Value), denT E l u → denT E' l v → denT E l v
  | [], _, _, _, k => by simp only [denT] at k ⊢; exact k
  | e :: r, _, _, g, k => by
    simp only [denT] at g k ⊢
    obtain ⟨v, l, _, h1, h2⟩ := g
    obtain ⟨v', l', rfl, k1, k2⟩ := k
    exact ⟨v', l', rfl, denE_back h e _ _ h1 k1, denT_back h r _ _ h2 k2⟩
end

theorem denM_back {E E' : Emb} (h : E.le E') : ∀ (l : List (SV × EV)) (u v : List MapEntry), denM E l u → denM E' l v → denM E l v
  | [], _, _, _, k => k
  | (q, cs) :: r, _, _, g, k => by
    simp only [denM] at g k ⊢
    obtain ⟨e, l, _, h1, h2, h3⟩ := g
    obtain ⟨e', l', rfl, k1, k2, k3⟩ := k
    exact ⟨e', l', rfl, denV_back h q _ _ h1 k1, denE_back h cs _ _ h2 k2, denM_back h r _ _ h3 k3⟩

theorem okBlk_back {E E' : Emb} (h : E.le E') {w w' : World} {p : Loc} {B : Blk} (g : okBlk E w p B) (k : okBlk E' w' p B) : okBlk E w' p B := by
  cases B with
  | cells m cs sp =>
    obtain ⟨_, ⟨l, h2, _⟩, _⟩ := g
    obtain ⟨k1, ⟨l', k2, k3⟩, k4⟩ := k
    exact ⟨k1, ⟨l', denS_back h cs _ _ h2 k2, k3⟩, k4⟩
  | recs m n z f sp =>
    obtain ⟨_, _, ⟨l, h2, _⟩, _⟩ := g
    obtain ⟨k0, k1, ⟨l', k2, k3⟩, k4⟩ := k
    exact ⟨k0, k1, ⟨l', denS_back h _ _ _ h2 k2, k3⟩, k4⟩
  | map es =>
    obtain ⟨l, c, _, h2⟩ := g
    obtain ⟨l', c', k1, k2⟩ := k
    exact ⟨l', c', k1, denM_back h es _ _ h2 k2⟩
  | dead => trivial

theorem okBlk_mono {E E' : Emb} (h : E.le E') {w : World} {p : Loc} {B : Blk} (k : okBlk E w p B) : okBlk E' w p B := by
  cases B with
  | cells m cs sp =>
    obtain ⟨k1, ⟨l', k2, k3⟩, k4⟩ := k
    exact ⟨k1, ⟨l', denS_mono h cs _ k2, k3⟩, k4⟩
  | recs m n z f sp => exact ⟨k.1, okCells_le h k.2⟩
  | map es =>
    obtain ⟨l', c', k1, k2⟩ := k
    exact ⟨l', c', k1, denM_mono h es _ k2⟩
  | dead => trivial

/-- A later small world that begins as an earlier one: the earlier one still lies there. -/
theorem Sim.restrict {E E' : Emb} {h h' : List Blk} {w w' : World} (S : Sim E h w) (le : E.le E') (S' : Sim E' h' w') (hp : ∀ (i : Nat) (B : Blk), h[i]? = some B → B = .dead ∨ h'[i]? = some B) : Sim E h w' := by
  refine ⟨S.n, fun i B hi => ?_, S.dis⟩
  have hlt : i < E.n := by
    rw [S.n]
    rcases Nat.lt_or_ge i h.length with h1 | h1
    · exact h1
    · simp [List.getElem?_eq_none h1] at hi
  rcases hp i B hi with rfl | hp
  · trivial
  have := S'.ok i B hp
  rw [le.2 i hlt] at this
  exact okBlk_back le (S.ok i B hi) this

/-- An earlier small world, seen with the later one's numbers. -/
theorem Sim.weak {E E' : Emb} {h : List Blk} {w : World} (S : Sim E h w) (le : E.le E') : Sim E' (h ++ List.replicate (E'.n - h.length) .dead) w := by
  have hsplit : ∀ (i : Nat) (B : Blk), (h ++ List.replicate (E'.n - h.length) Blk.dead)[i]? = some B → h[i]? = some B ∨ B = Blk.dead := fun i B hi => by
    rcases Nat.lt_or_ge i h.length with h1 | h1
    · rw [List.getElem?_append_left h1] at hi
      exact .inl hi
    · rw [List.getElem?_append_right h1, List.getElem?_replicate] at hi
      split at hi
      · simp only [Option.some.injEq] at hi; exact .inr hi.symm
      · cases hi
  have hlt : ∀ {i B}, h[i]? = some B → i < E.n := fun {i B} hi => by
    rw [S.n]
    rcases Nat.lt_or_ge i h.length with h1 | h1
    · exact h1
    · simp [List.getElem?_eq_none h1] at hi
  refine ⟨?_, fun i B hi => ?_, fun i j A B hij hi hj hA b o hc => ?_⟩
  · have := S.n
    have := le.1
    simp
    omega
  · rcases hsplit i B hi with h1 | rfl
    · rw [le.2 i (hlt h1)]
      exact okBlk_mono le (S.ok i B h1)
    · trivial
  · rcases hsplit i A hi with h1 | rfl
    · rcases hsplit j B hj with h2 | rfl
      · rw [le.2 i (hlt h1)] at hc
        rw [le.2 j (hlt h2)]
        exact S.dis i j A B hij h1 h2 hA b o hc
      · intro h3; exact h3
    · simp [Blk.mut] at hA

theorem nthB_app {h r : List Blk} {b : Nat} {B : Blk} (hb : nthB h b = some B) : nthB (h ++ r) b = some B := by
  induction h generalizing b with
  | nil => simp [nthB] at hb
  | cons x h ih =>
    cases b with
    | zero => simpa [nthB] using hb
    | succ b => simp only [nthB, List.cons_append] at hb ⊢; exact ih hb

theorem nthB_or (h r : List Blk) (b : Nat) : nthB h b = none ∨ nthB (h ++ r) b = nthB h b := by
  cases hb : nthB h b with
  | none => exact .inl rfl
  | some B => exact .inr (nthB_app hb)

theorem loadX_app (T : Tbl) (h r : List Blk) (t : TypeId) (x : EV) (hne : loadX T h t x ≠ .fail) : loadX T (h ++ r) t x = loadX T h t x := by
  cases hT : T.ty t with
  | none => simp [loadX, hT] at hne
  | some i =>
    cases x with
    | s v =>
      cases v with
      | ptr b o =>
        rcases nthB_or h r b with h0 | h0
        · simp [loadX, hT, h0] at hne
        · simp only [loadX, hT, h0]
      | pix b o j =>
        rcases nthB_or h r b with h0 | h0
        · simp [loadX, hT, h0] at hne
        · simp only [loadX, hT, h0]
      | rp b o j z =>
        rcases nthB_or h r b with h0 | h0
        · simp [loadX, hT, h0] at hne
        · simp only [loadX, hT, h0]
      | _ => simp [loadX, hT] at hne
    | _ => simp [loadX, hT] at hne

theorem indexAddrX_app (T : Tbl) (h r : List Blk) (t : TypeId) (x i : EV) (hne : indexAddrX T h t x i ≠ .fail) : indexAddrX T (h ++ r) t x i = indexAddrX T h t x i := by
  cases hT : T.ty t with
  | none => simp [indexAddrX, hT] at hne
  | some ti =>
    obtain ⟨d, size, bytes, zero⟩ := ti
    cases x with
    | s v =>
      cases i with
      | s iv =>
        cases iv with
        | int k n =>
          cases d with
          | array m e =>
            cases v with
            | ptr b o =>
              rcases nthB_or h r b with h0 | h0
              · simp [indexAddrX, hT, h0] at hne
              · simp only [indexAddrX, hT, h0]
            | _ => simp [indexAddrX, hT] at hne
          | slice e =>
            cases v with
            | slice b o l c =>
              rcases nthB_or h r b with h0 | h0
              · simp [indexAddrX, hT, h0] at hne
              · simp only [indexAddrX, hT, h0]
            | gs b o l c =>
              rcases nthB_or h r b with h0 | h0
              · simp [indexAddrX, hT, h0] at hne
              · simp only [indexAddrX, hT, h0]
            | _ => simp [indexAddrX, hT] at hne
          | _ => simp [indexAddrX, hT] at hne
        | _ => simp [indexAddrX, hT] at hne
      | _ => simp [indexAddrX, hT] at hne
    | _ => simp [indexAddrX, hT] at hne

theorem rngAt_app (h r : List Blk) (size b o n : Nat) (hne : rngAt h size b o n ≠ none) : rngAt (h ++ r) size b o n = rngAt h size b o n := by
  rcases nthB_or h r b with h0 | h0
  · simp [rngAt, h0] at hne
  · unfold rngAt
    rw [h0]

theorem rngX_app (h r : List Blk) (size : Nat) (y : EV) (hne : rngX h size y ≠ none) : rngX (h ++ r) size y = rngX h size y := by
  cases y with
  | s v =>
    cases v with
    | slice b o n c => exact rngAt_app h r size b o n hne
    | gs b o n c => exact rngAt_app h r size b o n hne
    | _ => rfl
  | _ => rfl

theorem convX_app (T : Tbl) (h r : List Blk) (src dst : TypeId) (x : EV) (hne : convX T h src dst x ≠ .fail) : convX T (h ++ r) src dst x = convX T h src dst x := by
  by_cases h0 : rngX h 1 x = none
  · unfold convX at hne ⊢
    split at hne
    · simp only [*]
    · simp only [*] at hne ⊢
      split at hne
      · simp at hne
      · exact absurd rfl hne
    · exact absurd rfl hne
  · have := rngX_app h r 1 x h0
    unfold convX
    rw [this]

/-- What the walker computes of a small world it computes of a larger one too. -/
theorem px_app (T : Tbl) (h r : List Blk) (ev raw : Operand → EV) (op : Op) (hne : px T h ev raw op ≠ .fail) : px T (h ++ r) ev raw op = px T h ev raw op := by
  cases op with
  | indexAddr t x i => exact indexAddrX_app T h r t _ _ hne
  | load t x => exact loadX_app T h r t _ hne
  | convert src dst x => exact convX_app T h r src dst _ hne
  | call c =>
    obtain ⟨callee, args, tys⟩ := c
    cases callee with
    | builtin b => cases b <;> rfl
    | _ => rfl
  | _ => rfl

/-! ### which may come up -/

def bindsL : Ground → Bool
  | .textOnly _ => false
  | .gcOnly _ => false
  | _ => true

theorem bindsL_eq (e : Edge) : bindsL e.ground = Region.binds .any e := by
  unfold bindsL Region.binds
  cases e.ground <;> rfl

def getB : List Bool → Nat → Bool
  | [], _ => false
  | b :: _, 0 => b
  | _ :: r, n + 1 => getB r n

def setB : List Bool → Nat → List Bool
  | [], _ => []
  | _ :: r, 0 => true :: r
  | b :: r, n + 1 => b :: setB r n

def nthO : List Oper → Nat → Option Oper
  | [], _ => none
  | o :: _, 0 => some o
  | _ :: r, n + 1 => nthO r n

def waitB (l : List Bool) : List Edge → Bool
  | [] => true
  | e :: r => (!bindsL e.ground || getB l e.on) && waitB l r

def rdyGo (l0 : List Bool) : Nat → List Oper → List Bool → List Nat
  | _, [], _ => []
  | _, _, [] => []
  | i, o :: r, b :: l => match !b && waitB l0 o.after.toList with
    | true => i :: rdyGo l0 (i + 1) r l
    | false => rdyGo l0 (i + 1) r l

theorem getB_eq : ∀ (l : List Bool) (i : Nat), getB l i = l.toArray.getD i false
  | [], i => by simp [getB]
  | b :: r, 0 => by simp [getB]
  | b :: r, i + 1 => by simp [getB, getB_eq r i]

theorem nthO_eq : ∀ (l : List Oper) (i : Nat), nthO l i = l[i]?
  | [], _ => rfl
  | o :: r, 0 => rfl
  | o :: r, i + 1 => by simp [nthO, nthO_eq r i]

theorem setB_eq : ∀ (l : List Bool) (i : Nat), setB l i = l.set i true
  | [], _ => rfl
  | _ :: _, 0 => rfl
  | b :: r, i + 1 => by simp [setB, setB_eq r i]

theorem waitB_eq (l : List Bool) : ∀ (es : List Edge), waitB l es = es.all fun e => !Region.binds .any e || l.toArray.getD e.on false
  | [] => rfl
  | e :: r => by simp only [waitB, List.all_cons, waitB_eq l r, bindsL_eq, getB_eq]

theorem rdyGo_eq (l0 : List Bool) : ∀ (ops : List Oper) (i : Nat) (l : List Bool), l.length = ops.length →
    rdyGo l0 i ops l = ((List.range ops.length).filter fun j => !l.toArray.getD j true && ((ops[j]?).map (fun o => waitB l0 o.after.toList)).getD false).map (· + i)
  | [], i, l, _ => by cases l <;> simp [rdyGo]
  | o :: r, i, [], h => by simp at h
  | o :: r, i, b :: l, h => by
    have ih := rdyGo_eq l0 r (i + 1) l (by simpa using h)
    simp only [rdyGo, List.length_cons, List.range_succ_eq_map, List.filter_cons, List.filter_map]
    have hmap : ∀ (p : Nat → Bool) (xs : List Nat), (List.filter p xs).map (· + (i + 1)) = ((List.filter p xs).map Nat.succ).map (· + i) := fun p xs => by
      rw [List.map_map]
      congr 1
      funext x
      simp only [Function.comp]
      omega
    rw [ih, hmap]
    have hcomp : ((fun j => !(b :: l).toArray.getD j true && (Option.map (fun o => waitB l0 o.after.toList) (o :: r)[j]?).getD false) ∘ Nat.succ) =
        (fun j => !l.toArray.getD j true && (Option.map (fun o => waitB l0 o.after.toList) r[j]?).getD false) := by
      funext j
      simp [Function.comp]
    rw [hcomp]
    simp only [List.getElem?_cons_zero, Option.map_some, Option.getD_some]
    have h0 : (b :: l).toArray.getD 0 true = b := by simp
    rw [h0]
    by_cases hw : (!b && waitB l0 o.after.toList) = true
    · simp only [hw, if_true, List.map_cons, Nat.zero_add]
    · rw [Bool.not_eq_true] at hw; simp only [hw, Bool.false_eq_true, if_false]

theorem rdy_eq (ops : Array Oper) (l : List Bool) (h : l.length = ops.size) : rdyGo l 0 ops.toList l = Region.ready .any ops l.toArray := by
  rw [rdyGo_eq l ops.toList 0 l (by simpa using h)]
  unfold Region.ready
  simp only [Nat.add_zero, List.map_id', Array.length_toList, Array.getElem?_toList]
  congr 1
  funext j
  cases ops[j]? with
  | none => rfl
  | some o => simp only [Option.map_some, Option.getD_some, waitB_eq, Array.all_toList]


/-! ### apart -/

def tmpsOf : List Operand → List Tmp
  | [] => []
  | .tmp t :: r => t :: tmpsOf r
  | _ :: r => tmpsOf r

theorem tmpsOf_eq : ∀ l : List Operand, tmpsOf l = l.filterMap fun | .tmp t => some t | _ => none
  | [] => rfl
  | .tmp t :: r => by simp [tmpsOf, tmpsOf_eq r]
  | .const _ :: r => by simp [tmpsOf, tmpsOf_eq r]
  | .global _ :: r => by simp [tmpsOf, tmpsOf_eq r]
  | .func _ :: r => by simp [tmpsOf, tmpsOf_eq r]

def looksL (ops : List Oper) (o : Oper) : List Tmp :=
  match o.guard with
  | none => tmpsOf o.op.operands.toList
  | some (g, _) => match nthO ops g with
    | none => tmpsOf o.op.operands.toList
    | some o' => match o'.dst with
      | none => tmpsOf o.op.operands.toList
      | some d => tmpsOf o.op.operands.toList ++ [d]

theorem looksL_eq (ops : Array Oper) (o : Oper) : looksL ops.toList o = o.looksAt ops := by
  unfold looksL Oper.looksAt
  rw [tmpsOf_eq]
  cases o.guard with
  | none => simp only [List.append_nil]; rfl
  | some p =>
    obtain ⟨g, b⟩ := p
    simp only [nthO_eq, Array.getElem?_toList]
    cases ops[g]? with
    | none => simp only [Option.bind_none, Option.toList_none, List.append_nil]; rfl
    | some o' =>
      cases h : o'.dst with
      | none => simp only [Option.bind_some, h, Option.toList_none, List.append_nil]; rfl
      | some d => simp only [Option.bind_some, h, Option.toList_some]; rfl

theorem beqN (a b : Nat) : Nat.beq a b = (a == b) := by
  by_cases h : a = b
  · subst h; simp
  · have h1 : Nat.beq a b = false := by
      cases hq : Nat.beq a b with
      | true => exact absurd (Nat.eq_of_beq_eq_true hq) h
      | false => rfl
    rw [h1]
    exact (beq_eq_false_iff_ne.2 h).symm

def inL (d : Nat) : List Nat → Bool
  | [] => false
  | x :: r => Nat.beq d x || inL d r

theorem inL_eq (d : Nat) : ∀ l : List Nat, inL d l = l.contains d
  | [] => rfl
  | x :: r => by simp only [inL, inL_eq d r, List.contains_cons, beqN]

def isD (d : Nat) : Option Nat → Bool
  | none => false
  | some x => Nat.beq d x

def apartL (ops : List Oper) (x y : Oper) : Bool :=
  (match x.dst with
   | some d => !(inL d (looksL ops y)) && !(isD d y.dst)
   | none => true) &&
  (match y.dst with
   | some d => !(inL d (looksL ops x))
   | none => true)

theorem apartL_eq (ops : Array Oper) (x y : Oper) : apartL ops.toList x y = x.apart ops y := by
  unfold apartL Oper.apart
  simp only [looksL_eq, inL_eq]
  have : ∀ d, (!(isD d y.dst)) = (y.dst != some d) := fun d => by
    cases hy : y.dst with
    | none => rfl
    | some e =>
      simp only [isD, beqN]
      by_cases h : d = e
      · subst h; simp
      · have h1 : (d == e) = false := beq_eq_false_iff_ne.2 h
        have h2 : (some e == some d) = false := by simp; exact fun h' => h h'.symm
        rw [h1]
        simp [bne, h2]
  simp only [this]
  cases x.dst <;> cases y.dst <;> rfl

def waitsOn (i : Nat) : List Edge → Bool
  | [] => false
  | e :: r => (bindsL e.ground && Nat.beq e.on i) || waitsOn i r

theorem waitsOn_eq (i : Nat) : ∀ l : List Edge, waitsOn i l = l.any fun e => Region.binds .any e && e.on == i
  | [] => rfl
  | e :: r => by simp only [waitsOn, List.any_cons, waitsOn_eq i r, bindsL_eq, beqN]

def freeGo (ops : List Oper) (i : Nat) (oi : Oper) : Nat → List Oper → List Bool → Bool
  | _, [], _ => true
  | _, _ :: _, [] => false
  | j, oj :: r, b :: l => (Nat.beq j i || b || waitsOn i oj.after.toList || apartL ops oi oj) && freeGo ops i oi (j + 1) r l

theorem freeGo_spec {ops : List Oper} {i : Nat} {oi : Oper} : ∀ {r : List Oper} {j : Nat} {l : List Bool}, freeGo ops i oi j r l = true → ∀ k ok, r[k]? = some ok →
    ((j + k == i) || l.toArray.getD k true || ok.after.any (fun e => Region.binds .any e && e.on == i) || apartL ops oi ok) = true
  | [], _, _, _, k, ok, hk => by simp at hk
  | o :: r, j, [], h, _, _, _ => by simp [freeGo] at h
  | o :: r, j, b :: l, h, 0, ok, hk => by
    simp only [List.getElem?_cons_zero, Option.some.injEq] at hk
    subst hk
    simp only [freeGo, Bool.and_eq_true, waitsOn_eq, Array.any_toList] at h
    simpa using h.1
  | o :: r, j, b :: l, h, k + 1, ok, hk => by
    simp only [freeGo, Bool.and_eq_true] at h
    have := freeGo_spec (j := j + 1) h.2 k ok (by simpa using hk)
    rw [show j + 1 + k = j + (k + 1) by omega] at this
    simpa using this

theorem free_of {ops : Array Oper} {i : Nat} {oi : Oper} {l : List Bool} (hi : ops[i]? = some oi) (h : freeGo ops.toList i oi 0 ops.toList l = true) : Region.free .any ops l.toArray i = true := by
  unfold Region.free
  simp only [hi, List.all_eq_true, List.mem_range]
  intro j hj
  have hg : ops[j]? = some ops[j] := Array.getElem?_eq_getElem hj
  have := freeGo_spec h j ops[j] (by simp)
  rw [hg]
  simp only [apartL_eq, Nat.zero_add] at this
  simpa [Bool.or_assoc] using this

def noSel : List Oper → Bool
  | [] => true
  | o :: r => match o.op with
    | .select .. => false
    | _ => noSel r

theorem noSel_eq {ops : Array Oper} (h : noSel ops.toList = true) : Region.noSelect ops = true := by
  have : ∀ l : List Oper, noSel l = true → ∀ o ∈ l, (match o.op with | .select .. => false | _ => true) = true := fun l => by
    induction l with
    | nil => intro _ o ho; cases ho
    | cons x r ih =>
      intro h o ho
      simp only [noSel] at h
      rcases List.mem_cons.1 ho with rfl | ho
      · split at h
        · cases h
        · rfl
      · split at h
        · cases h
        · exact ih h o ho
  unfold Region.noSelect
  rw [Array.all_eq_true_iff_forall_mem]
  intro o ho
  exact this _ h o (by simpa using ho)

end Go.Anv

/- The engine, part 9b: stores that no order can tell apart. Plain theorems; their condition: the stores' places are apart. -/
namespace Go.Anv
open Go

theorem modify_comm {α : Type} (h : Array α) (i j : Nat) (f g : α → α) (hc : i ≠ j ∨ ∀ x, f (g x) = g (f x)) : (h.modify i f).modify j g = (h.modify j g).modify i f := by
  apply Array.ext_getElem?
  intro k
  simp only [Array.getElem?_modify]
  by_cases hi : i = k <;> by_cases hj : j = k <;> simp only [hi, hj, if_true, if_false]
  rcases hc with hc | hc
  · exact absurd (hi.trans hj.symm) hc
  · cases h[k]? with
    | none => rfl
    | some x => simp [hc]

theorem setCell_comm (w : World) (x y : Addr) (u v : Value) (h : x.block ≠ y.block ∨ x.off ≠ y.off) : (w.setCell x u).setCell y v = (w.setCell y v).setCell x u := by
  unfold World.setCell
  simp only
  rw [modify_comm]
  rcases h with h | h
  · exact .inl h
  · refine .inr fun o => ?_
    cases o with
    | cells c e fr =>
      simp only
      by_cases hx : x.spot.isSome = true <;> by_cases hy : y.spot.isSome = true <;> simp only [hx, hy, if_true, if_false, Bool.false_eq_true]
      congr 1
      apply Array.ext_getElem?
      intro k
      simp only [Array.getElem?_setIfInBounds, Array.size_setIfInBounds]
      by_cases h1 : x.off = k <;> by_cases h2 : y.off = k <;> simp only [h1, h2, if_true, if_false]
      exact absurd (h1.trans h2.symm) h
    | _ => rfl

theorem setCell_setCells (b : Nat) : ∀ (vs : List Value) (o : Nat) (w : World) (x : Addr) (u : Value), (x.block ≠ b ∨ x.off < o ∨ o + vs.length ≤ x.off) → (w.setCell x u).setCells b o vs = (w.setCells b o vs).setCell x u
  | [], _, _, _, _, _ => rfl
  | v :: r, o, w, x, u, h => by
    simp only [World.setCells]
    rw [setCell_comm w x ⟨b, o, none⟩ u v (by simp only [List.length_cons] at h; simp only; omega)]
    exact setCell_setCells b r (o + 1) _ x u (by simp only [List.length_cons] at h; omega)

/-- A store: where, what. -/
structure Sto where
  B : Nat
  O : Nat
  vs : List Value

def Sto.on (x : Sto) (w : World) : World := w.setCells x.B x.O x.vs

def Sto.off (x y : Sto) : Prop := x.B ≠ y.B ∨ x.O + x.vs.length ≤ y.O ∨ y.O + y.vs.length ≤ x.O

theorem setCells_comm (b' : Nat) (vs' : List Value) (o' : Nat) (b : Nat) : ∀ (vs : List Value) (o : Nat) (w : World), (b ≠ b' ∨ o + vs.length ≤ o' ∨ o' + vs'.length ≤ o) →
    (w.setCells b o vs).setCells b' o' vs' = (w.setCells b' o' vs').setCells b o vs
  | [], _, _, _ => rfl
  | v :: r, o, w, h => by
    simp only [World.setCells]
    rw [setCells_comm b' vs' o' b r (o + 1) _ (by simp only [List.length_cons] at h; omega), setCell_setCells]
    simp only [List.length_cons] at h
    simp only
    by_cases hv : vs'.length = 0
    · right; omega
    · omega

theorem Sto.comm {x y : Sto} (h : x.off y) (w : World) : y.on (x.on w) = x.on (y.on w) := setCells_comm _ _ _ _ _ _ _ h

theorem Sto.off_symm {x y : Sto} (h : x.off y) : y.off x := by
  unfold Sto.off at *
  omega

def Sto.can (x : Sto) (w : World) : Prop := ∀ j, j < x.vs.length → (∃ v, w.cell? ⟨x.B, x.O + j, none⟩ = some v) ∧ w.frozen? ⟨x.B, x.O + j, none⟩ = false

theorem Sto.can_on {x y : Sto} (h : x.off y) {w : World} (hc : x.can w) : x.can (y.on w) := by
  intro j hj
  obtain ⟨h1, h2⟩ := hc j hj
  unfold Sto.on
  refine ⟨?_, by rw [World.frozen?_setCells]; exact h2⟩
  rw [cell?_setCells_out]
  · exact h1
  · simp only
    unfold Sto.off at h
    omega

def allOn (sp : Nat → Sto) : List Nat → World → World
  | [], w => w
  | i :: r, w => allOn sp r ((sp i).on w)

theorem allOn_first (sp : Nat → Sto) : ∀ (l : List Nat) (i : Nat) (w : World), i ∈ l → l.Nodup → (∀ a ∈ l, ∀ b ∈ l, a ≠ b → (sp a).off (sp b)) → allOn sp (l.filter (· != i)) ((sp i).on w) = allOn sp l w
  | [], i, w, h, _, _ => by cases h
  | x :: r, i, w, h, hn, hap => by
    rw [List.nodup_cons] at hn
    by_cases hx : x = i
    · subst hx
      have : (x :: r).filter (· != x) = r := by
        rw [List.filter_cons]
        simp only [bne_self_eq_false, Bool.false_eq_true, if_false]
        rw [List.filter_eq_self]
        intro a ha
        simp only [bne_iff_ne, ne_eq]
        rintro rfl
        exact hn.1 ha
      rw [this]
      rfl
    · have hi : i ∈ r := by
        rcases List.mem_cons.1 h with h | h
        · exact absurd h.symm hx
        · exact h
      have : (x :: r).filter (· != i) = x :: r.filter (· != i) := by
        rw [List.filter_cons]
        simp [hx]
      rw [this]
      simp only [allOn]
      rw [Sto.comm (hap i h x List.mem_cons_self (fun e => hx e.symm))]
      exact allOn_first sp r i _ hi hn.2 fun a ha b hb => hap a (List.mem_cons_of_mem _ ha) b (List.mem_cons_of_mem _ hb)

/-- The operations that have not come up. -/
def unl (ops : Array Oper) (l : Array Bool) : List Nat := (List.range ops.size).filter fun j => !l.getD j true

/-- **Stores at places that are apart, in whatever order.** -/
theorem stores_any {P : Program} {ops : Array Oper} {Q : Exit → Act → World → Prop} {S : World → Prop} (sp : Nat → Sto) (a : Act) :
    ∀ (n : Nat) (l : Array Bool) (w : World), l.size = ops.size → (unl ops l).length ≤ n → S w →
    (∀ i ∈ unl ops l, ∃ o, ops[i]? = some o ∧ Region.wanted o (yielded ops a.tmps) = true ∧ o.dst = none ∧ (∀ e ∈ o.after, Region.binds .any e = true → l.getD e.on false = true) ∧
      ∀ w', (sp i).can w' → (execOp a.eval o).run P w' = .ok .skip ((sp i).on w')) →
    (∀ i ∈ unl ops l, ∀ j ∈ unl ops l, i ≠ j → (sp i).off (sp j)) → (∀ i ∈ unl ops l, (sp i).can w) → (∀ i ∈ unl ops l, ∀ w', S w' → S ((sp i).on w')) →
    Q .normal a (allOn sp (unl ops l) w) → wpAnyH P .any ops Q S n l a w := by
  intro n
  induction n with
  | zero =>
    intro l w hsz hlen hS hop hap hcan hst hq
    have hnil : unl ops l = [] := List.length_eq_zero_iff.1 (by omega)
    refine ⟨?_, ?_⟩
    · unfold Region.ready
      rw [List.filter_eq_nil_iff]
      intro j hj
      have := List.filter_eq_nil_iff.1 hnil j hj
      simp only [Bool.not_eq_true, Bool.not_eq_false'] at this
      simp [this]
    · rw [hnil] at hq; exact hq
  | succ n ih =>
    intro l w hsz hlen hS hop hap hcan hst hq
    have hrdy : Region.ready .any ops l = unl ops l := by
      unfold Region.ready unl
      apply List.filter_congr
      intro j hj
      cases hlj : l.getD j true with
      | true => simp
      | false =>
        have hm : j ∈ unl ops l := List.mem_filter.2 ⟨hj, by simp [hlj]⟩
        obtain ⟨o, ho, _, _, haf, _⟩ := hop j hm
        simp only [ho, Bool.not_false, Bool.true_and, Option.map_some, Option.getD_some]
        rw [Array.all_eq_true_iff_forall_mem]
        intro e he
        cases hb : Region.binds .any e with
        | false => rfl
        | true => simp [haf e he hb]
    rw [wpAnyH.eq_2]
    rw [hrdy]
    refine ⟨fun h => by rw [h] at hq; exact hq, fun i hi => ?_⟩
    obtain ⟨o, ho, hw, hd, haf, hrun⟩ := hop i hi
    unfold wpOp
    simp only [ho, hw, if_true]
    refine .inl ?_
    unfold Oper.wp
    rw [hrun w (hcan i hi), Oper.upon_skip, hd]
    refine ⟨hst i hi w hS, ?_⟩
    have hil : i < l.size := by
      have := (List.mem_filter.1 hi).1
      rw [hsz]
      exact List.mem_range.1 this
    have hunl : unl ops (l.setIfInBounds i true) = (unl ops l).filter (· != i) := by
      unfold unl
      rw [List.filter_filter]
      apply List.filter_congr
      intro j _
      by_cases hji : j = i
      · subst hji
        simp [hil]
      · have : (l.setIfInBounds i true).getD j true = l.getD j true := by
          simp only [Array.getD_eq_getD_getElem?]
          rw [Array.getElem?_setIfInBounds_ne (fun e => hji e.symm)]
        rw [this]
        simp [hji]
    have hmem : ∀ j, j ∈ unl ops (l.setIfInBounds i true) → j ∈ unl ops l ∧ j ≠ i := fun j hj => by
      rw [hunl] at hj
      obtain ⟨h1, h2⟩ := List.mem_filter.1 hj
      exact ⟨h1, by simpa using h2⟩
    refine ih (l.setIfInBounds i true) _ (by simp [hsz]) ?_ (hst i hi w hS) (fun j hj => ?_) (fun j hj k hk hjk => hap j (hmem j hj).1 k (hmem k hk).1 hjk) (fun j hj => ?_) (fun j hj => hst j (hmem j hj).1) ?_
    · rw [hunl]
      have : ((unl ops l).filter (· != i)).length < (unl ops l).length := by
        refine List.length_filter_lt_length_iff_exists.2 ⟨i, hi, by simp⟩
      omega
    · obtain ⟨o', h1, h2, h3, h4, h5⟩ := hop j (hmem j hj).1
      refine ⟨o', h1, h2, h3, fun e he hb => ?_, h5⟩
      have := h4 e he hb
      by_cases hei : e.on = i
      · rw [hei, Array.getD_eq_getD_getElem?, Array.getElem?_setIfInBounds_self_of_lt hil]
        rfl
      · rw [Array.getD_eq_getD_getElem?] at this ⊢
        rw [Array.getElem?_setIfInBounds_ne (fun e => hei e.symm)]
        exact this
    · exact Sto.can_on (hap j (hmem j hj).1 i hi (hmem j hj).2) (hcan j (hmem j hj).1)
    · rw [hunl, allOn_first sp _ i w hi (List.Pairwise.filter _ List.nodup_range) hap]
      exact hq

/-- Stores where no block of a small world lies. -/
theorem Sim.outside {E : Emb} {h : List Blk} {w : World} (S : Sim E h w) (x : Sto) (hx : ∀ j B, h[j]? = some B → ∀ o, x.O ≤ o → o < x.O + x.vs.length → ¬ cov (E.f j) B x.B o) : Sim E h (x.on w) := by
  unfold Sto.on
  have hcov : ∀ j B b o, h[j]? = some B → cov (E.f j) B b o → (w.setCells x.B x.O x.vs).cell? ⟨b, o, none⟩ = w.cell? ⟨b, o, none⟩ := fun j B b o hj hc => by
    apply cell?_setCells_out
    simp only
    by_cases hb : b = x.B
    · subst hb
      have : ¬ (x.O ≤ o ∧ o < x.O + x.vs.length) := fun hh => hx j B hj o hh.1 hh.2 hc
      omega
    · exact .inl hb
  refine ⟨S.n, fun j B hj => ?_, S.dis⟩
  have hb := S.ok j B hj
  have cel : ∀ (m : Bool) (cs : List Seg) (sp : Nat), okCells E w (E.f j) m cs sp → (∀ b o, b = (E.f j).1 ∧ (E.f j).2 ≤ o ∧ o < (E.f j).2 + (sizeS cs + sp) → cov (E.f j) B b o) → okCells E (w.setCells x.B x.O x.vs) (E.f j) m cs sp := by
    rintro m cs sp ⟨h1, ⟨l, h2, h3⟩, h4⟩ hcv
    refine ⟨by rw [size_setCells]; exact h1, ⟨l, h2, fun y v hy => ?_⟩, fun hm y hy => ?_⟩
    · rw [hcov j _ _ _ hj]
      · exact h3 y v hy
      · have := denS_length h2
        have : y < l.length := by
          rcases Nat.lt_or_ge y l.length with h' | h'
          · exact h'
          · rw [List.getElem?_eq_none h'] at hy; cases hy
        exact hcv _ _ ⟨rfl, by omega, by omega⟩
    · rw [hcov j _ _ _ hj (hcv _ _ ⟨rfl, by omega, by omega⟩)]
      exact ⟨(h4 hm y hy).1, rowOk_setCells (h4 hm y hy).2⟩
  cases B with
  | cells m cs sp => exact cel m cs sp hb fun _ _ h => h
  | recs m n z f sp => exact ⟨hb.1, cel m _ sp hb.2 fun _ _ h => h⟩
  | map es =>
    obtain ⟨l, c, h1, h2⟩ := hb
    exact ⟨l, c, map_setCells _ _ _ _ _ _ _ h1, h2⟩
  | dead => trivial

/-! ### the walker's part -/

/-- A store's place: the block, the offset, how many cells. -/
def stoK (T : Tbl) (ts : List EV) (h : List Blk) (o : Oper) : Option (Nat × Nat × Nat) :=
  match o.guard, o.dst, o.op with
  | none, none, .store t x v => match T.ty t, evT ts x, segsOf (evT ts v) with
    | some i, .s (.ptr b off), some new => match Nat.beq (sizeS new) i.size && Nat.ble 1 i.size, nthB h b with
      | true, some (.cells true cs _) => match Nat.ble (off + i.size) (sizeS cs) with
        | true => some (b, off, i.size)
        | false => none
      | _, _ => none
    | _, _, _ => none
  | _, _, _ => none

def offB (x y : Nat × Nat × Nat) : Bool := !(Nat.beq x.1 y.1) || (Nat.ble (x.2.1 + x.2.2) y.2.1 || Nat.ble (y.2.1 + y.2.2) x.2.1)

def offAll (p : Nat × Nat × Nat) : List (Nat × Nat × Nat) → Bool
  | [] => true
  | q :: r => offB p q && offAll p r

def deadAt (h0 : List Blk) (b : Nat) : Bool :=
  match nthB h0 b with
  | some .dead => true
  | none => true
  | _ => false

def tailGo (T : Tbl) (ts : List EV) (h h0 : List Blk) (l0 : List Bool) : List Oper → List Bool → List (Nat × Nat × Nat) → Bool
  | [], _, _ => true
  | _ :: r, true :: l, acc => tailGo T ts h h0 l0 r l acc
  | o :: r, false :: l, acc => match stoK T ts h o with
    | some p => waitB l0 o.after.toList && (offAll p acc && (deadAt h0 p.1 && tailGo T ts h h0 l0 r l (p :: acc)))
    | none => false
  | _ :: _, [], _ => false

def countF : List Bool → Nat
  | [] => 0
  | true :: r => countF r
  | false :: r => countF r + 1

def tailRun (T : Tbl) (ops : Array Oper) (l : List Oper) : List Bool → St → (St → Prop) → Prop :=
  List.rec (motive := fun _ => List Bool → St → (St → Prop) → Prop) (fun _ s k => k s) (fun o _ ih l s k => match l with
    | true :: l => ih l s k
    | false :: l => opX T ops s o fun s' => ih l s' k
    | [] => False) l

theorem offB_spec {x y : Nat × Nat × Nat} (h : offB x y = true) : x.1 ≠ y.1 ∨ x.2.1 + x.2.2 ≤ y.2.1 ∨ y.2.1 + y.2.2 ≤ x.2.1 := by
  simp only [offB, Bool.or_eq_true, Bool.not_eq_true', Nat.ble_eq] at h
  rcases h with h | h | h
  · exact .inl (Nat.ne_of_beq_eq_false h)
  · exact .inr (.inl h)
  · exact .inr (.inr h)

theorem offAll_spec {p : Nat × Nat × Nat} : ∀ {l : List (Nat × Nat × Nat)}, offAll p l = true → ∀ q ∈ l, offB p q = true
  | [], _, q, hq => by cases hq
  | x :: r, h, q, hq => by
    simp only [offAll, Bool.and_eq_true] at h
    rcases List.mem_cons.1 hq with rfl | hq
    · exact h.1
    · exact offAll_spec h.2 q hq

/-- What the look at the tail tells: each one's place; they are apart. -/
theorem tailGo_spec {T : Tbl} {ts : List EV} {h h0 : List Blk} {l0 : List Bool} : ∀ {ops : List Oper} {l : List Bool} {acc : List (Nat × Nat × Nat)}, tailGo T ts h h0 l0 ops l acc = true →
    (∀ (i : Nat) (o : Oper), ops[i]? = some o → l[i]? = some false → ∃ p, stoK T ts h o = some p ∧ waitB l0 o.after.toList = true ∧ deadAt h0 p.1 = true ∧ ∀ q ∈ acc, offB p q = true) ∧
    (∀ (i j : Nat) (o o' : Oper) p p', ops[i]? = some o → l[i]? = some false → ops[j]? = some o' → l[j]? = some false → i < j → stoK T ts h o = some p → stoK T ts h o' = some p' → offB p' p = true)
  | [], _, _, _ => ⟨fun i o ho => by simp at ho, fun i j o o' p p' ho => by simp at ho⟩
  | o0 :: r, true :: l, acc, ht => by
    obtain ⟨h1, h2⟩ := tailGo_spec (ops := r) (l := l) (acc := acc) ht
    refine ⟨fun i o ho hl => ?_, fun i j o o' p p' ho hl ho' hl' hij => ?_⟩
    · cases i with
      | zero => simp at hl
      | succ i => exact h1 i o (by simpa using ho) (by simpa using hl)
    · cases i with
      | zero => simp at hl
      | succ i =>
        cases j with
        | zero => omega
        | succ j => exact h2 i j o o' p p' (by simpa using ho) (by simpa using hl) (by simpa using ho') (by simpa using hl') (by omega)
  | o0 :: r, false :: l, acc, ht => by
    simp only [tailGo] at ht
    split at ht
    · rename_i p0 hp0
      simp only [Bool.and_eq_true] at ht
      obtain ⟨ha, hb, hc, hd⟩ := ht
      obtain ⟨h1, h2⟩ := tailGo_spec (ops := r) (l := l) (acc := p0 :: acc) hd
      refine ⟨fun i o ho hl => ?_, fun i j o o' p p' ho hl ho' hl' hij hp hp' => ?_⟩
      · cases i with
        | zero =>
          simp only [List.getElem?_cons_zero, Option.some.injEq] at ho
          subst ho
          exact ⟨p0, hp0, ha, hc, offAll_spec hb⟩
        | succ i =>
          obtain ⟨p, k1, k2, k3, k4⟩ := h1 i o (by simpa using ho) (by simpa using hl)
          exact ⟨p, k1, k2, k3, fun q hq => k4 q (List.mem_cons_of_mem _ hq)⟩
      · cases j with
        | zero => omega
        | succ j =>
          cases i with
          | zero =>
            simp only [List.getElem?_cons_zero, Option.some.injEq] at ho
            subst ho
            rw [hp0] at hp
            simp only [Option.some.injEq] at hp
            subst hp
            obtain ⟨p, k1, k2, k3, k4⟩ := h1 j o' (by simpa using ho') (by simpa using hl')
            rw [k1] at hp'
            simp only [Option.some.injEq] at hp'
            subst hp'
            exact k4 p0 List.mem_cons_self
          | succ i => exact h2 i j o o' p p' (by simpa using ho) (by simpa using hl) (by simpa using ho') (by simpa using hl') (by omega) hp hp'
    · cases ht
  | _ :: _, [], _, ht => by simp [tailGo] at ht

/-- The store that an operation is, in a world. -/
def stoOf (E : Emb) (T : Tbl) (ts : List EV) (h : List Blk) (a : Act) (o : Oper) : Sto :=
  match stoK T ts h o, o.op with
  | some (b, off, _), .store _ _ v => ⟨(E.f b).1, (E.f b).2 + off, (a.eval v).cells.toList⟩
  | _, _ => ⟨0, 0, []⟩

theorem stoK_spec (T : Tbl) {O : Org} {E : Emb} {s : St} {a : Act} {w : World} (R : Rel O E s a w) {ops : Array Oper} {o : Oper} {b off n : Nat} (h : stoK T s.tmps s.heap o = some (b, off, n)) :
    Region.wanted o (yielded ops a.tmps) = true ∧ o.dst = none ∧ (∃ cs sp, s.heap[b]? = some (.cells true cs sp) ∧ off + n ≤ sizeS cs ∧ 1 ≤ n) ∧ (stoOf E T s.tmps s.heap a o).B = (E.f b).1 ∧ (stoOf E T s.tmps s.heap a o).O = (E.f b).2 + off ∧
      (stoOf E T s.tmps s.heap a o).vs.length = n ∧ (stoOf E T s.tmps s.heap a o).can w ∧ ∀ w', (stoOf E T s.tmps s.heap a o).can w' → (execOp a.eval o).run T.P w' = .ok .skip ((stoOf E T s.tmps s.heap a o).on w') := by
  have h' := h
  unfold stoK at h
  split at h
  · rename_i t x v hg hd hop
    split at h
    · rename_i i b' off' new ht hx hv
      split at h
      · rename_i cs sp hsz hb
        split at h
        · rename_i hle
          simp only [Option.some.injEq, Prod.mk.injEq] at h
          obtain ⟨rfl, rfl, rfl⟩ := h
          simp only [Bool.and_eq_true] at hsz
          obtain ⟨hsz, hpos⟩ := hsz
          have hpos := Nat.le_of_ble_eq_true hpos
          have hsz := Nat.eq_of_beq_eq_true hsz
          have hle := Nat.le_of_ble_eq_true hle
          have hb := nthB_get hb
          have hxd := ev_denE R.fr x
          have hvd := segsOf_den (ev_denE R.fr v) hv
          have hx' : s.ev x = .s (.ptr b' off') := hx
          rw [hx'] at hxd
          simp only [denE, denV] at hxd
          have hlen : (a.eval v).cells.toList.length = i.size := by rw [denS_length hvd, hsz]
          have hst : stoOf E T s.tmps s.heap a o = ⟨(E.f b').1, (E.f b').2 + off', (a.eval v).cells.toList⟩ := by
            unfold stoOf
            rw [h', hop]
          rw [hst]
          refine ⟨by simp [Region.wanted, hg], hd, ⟨cs, sp, hb, hle, hpos⟩, rfl, rfl, hlen, fun j hj => ?_, fun w' hc => ?_⟩
          · simp only at hj ⊢
            obtain ⟨_, _, hm⟩ := R.sim.ok b' _ hb
            obtain ⟨⟨y, hy⟩, hr⟩ := hm rfl (off' + j) (by omega)
            rw [Nat.add_assoc]
            exact ⟨⟨y, hy⟩, hr.frozen hy⟩
          · have h4 := run_sizeOf_ti T ht w'
            have h5 := run_storeCells_cells (P := T.P) (E.f b').1 ((E.f b').2 + off') (a.eval v).cells.toList 0 w' (fun j hj => by
                obtain ⟨⟨y, hy⟩, _⟩ := hc j hj
                simp only at hy
                rw [Nat.add_zero, hy]; rfl) (fun j hj => by
                obtain ⟨_, hf⟩ := hc j hj
                simp only at hf
                rw [Nat.add_zero]; exact hf) (fun y hy => denS_oneCell hvd y hy)
            simp only [Nat.add_zero] at h5
            have hsz2 : (a.eval v).cells.size = i.size := by rw [← Array.length_toList]; exact hlen
            unfold execOp
            simp only [hop, hxd.2, Instr.storeAt, Instr.sureAddr, pure_bind, storeVar, Sem.run_bind, h4, Result.andThen_ok, hsz2, ne_eq, not_true_eq_false, if_false]
            have h6 : ((storeCells (E.at b' off') (a.eval v).cells.toList 0).run T.P w') = _ := h5
            rw [h6]
            rfl
        · cases h
      · cases h
    · cases h
  · cases h

theorem sto_off (T : Tbl) {O : Org} {E : Emb} {s : St} {a : Act} {w : World} (R : Rel O E s a w) (ops : Array Oper) {o o' : Oper} {p p' : Nat × Nat × Nat} (h : stoK T s.tmps s.heap o = some p) (h' : stoK T s.tmps s.heap o' = some p') (hp : offB p' p = true) :
    (stoOf E T s.tmps s.heap a o).off (stoOf E T s.tmps s.heap a o') := by
  obtain ⟨b, off, n⟩ := p
  obtain ⟨b', off', n'⟩ := p'
  obtain ⟨_, _, ⟨cs, sp, k1, k2, k3⟩, k4, k5, k6, _⟩ := stoK_spec T R (ops := ops) h
  obtain ⟨_, _, ⟨cs', sp', q1, q2, q3⟩, q4, q5, q6, _⟩ := stoK_spec T R (ops := ops) h'
  have hp := offB_spec hp
  simp only at hp
  unfold Sto.off
  rw [k4, k5, k6, q4, q5, q6]
  by_cases hb : b = b'
  · subst hb; omega
  · by_cases hB : (E.f b).1 = (E.f b').1
    · refine Classical.byContradiction fun hn => ?_
      have hx : ∃ x, (E.f b).2 + off ≤ x ∧ x < (E.f b).2 + off + n ∧ (E.f b').2 + off' ≤ x ∧ x < (E.f b').2 + off' + n' := by
        by_cases hle : (E.f b).2 + off ≤ (E.f b').2 + off'
        · exact ⟨(E.f b').2 + off', by omega⟩
        · exact ⟨(E.f b).2 + off, by omega⟩
      obtain ⟨x, x1, x2, x3, x4⟩ := hx
      refine R.sim.dis b b' _ _ hb k1 q1 rfl (E.f b).1 x ⟨rfl, by omega, by omega⟩ ⟨hB, by omega, by omega⟩
    · exact .inl hB

theorem unl_suffix (l : List Bool) : ∀ (n : Nat) (r : List Bool), (l = l.take n ++ r ∧ n ≤ l.length) → ((List.range' n r.length).filter fun j => !l.toArray.getD j true).length = countF r
  | n, [], _ => rfl
  | n, b :: r, h => by
    have h1 : l[n]? = some b := by
      rw [h.1, List.getElem?_append_right (by simp; omega)]
      simp [Nat.min_eq_left h.2]
    have hn : n < l.length := by
      rcases Nat.lt_or_ge n l.length with h' | h'
      · exact h'
      · rw [List.getElem?_eq_none h'] at h1; cases h1
    have h2 : l = l.take (n + 1) ++ r := by
      have e : l.drop n = b :: r := by
        have := congrArg (List.drop n) h.1
        rw [List.drop_append, List.length_take, Nat.min_eq_left h.2] at this
        simpa using this
      have e2 : l.drop (n + 1) = r := by
        have := congrArg (List.drop 1) e
        simpa [List.drop_drop] using this
      rw [← e2, List.take_append_drop]
    have ih := unl_suffix l (n + 1) r ⟨h2, hn⟩
    rw [List.length_cons, List.range'_succ, List.filter_cons]
    have h3 : l.toArray.getD n true = b := by simp [h1]
    rw [h3]
    cases b with
    | true => simpa [countF] using ih
    | false => simpa [countF] using ih

theorem unl_length {ops : Array Oper} {l : List Bool} (h : l.length = ops.size) : (unl ops l.toArray).length = countF l := by
  unfold unl
  rw [← h, List.range_eq_range']
  exact unl_suffix l 0 l ⟨by simp, Nat.zero_le _⟩

theorem get_nthB : ∀ {h : List Blk} {b : Nat} {B : Blk}, h[b]? = some B → nthB h b = some B
  | [], _, _, h => by simp at h
  | x :: r, 0, _, h => by simpa [nthB] using h
  | x :: r, b + 1, _, h => by simp only [nthB]; exact get_nthB (by simpa using h)

/-- The store of the operation with this number. -/
def stoN (E : Emb) (T : Tbl) (ts : List EV) (h : List Blk) (a : Act) (ops : Array Oper) (i : Nat) : Sto :=
  match ops[i]? with
  | some o => stoOf E T ts h a o
  | none => ⟨0, 0, []⟩

theorem tail_run {T : Tbl} {O : Org} (on : O.E.n = O.h.length) {ops : Array Oper} {a : Act} {Q : Exit → Act → World → Prop} {k : St → Prop} (sp : Nat → Sto) (hn : ∀ E' s' w', k s' → Rel O E' s' a w' → Q .normal a w')
    (l : List Bool) (hl : l.length = ops.size) : ∀ (r : List Oper) (m : List Bool) (i : Nat) {E : Emb} {s : St} {w : World}, ops.toList = ops.toList.take i ++ r → l = l.take i ++ m → i ≤ l.length → Rel O E s a w → tailRun T ops r m s k →
      (∀ j ∈ (List.range' i m.length).filter (fun j => !l.toArray.getD j true), ∃ o, ops[j]? = some o ∧ Region.wanted o (yielded ops a.tmps) = true ∧ o.dst = none ∧ ∀ w', (sp j).can w' → (execOp a.eval o).run T.P w' = .ok .skip ((sp j).on w')) →
      ((List.range' i m.length).filter (fun j => !l.toArray.getD j true)).Pairwise (fun x y => (sp x).off (sp y)) →
      (∀ j ∈ (List.range' i m.length).filter (fun j => !l.toArray.getD j true), (sp j).can w) →
      Q .normal a (allOn sp ((List.range' i m.length).filter fun j => !l.toArray.getD j true) w)
  | [], m, i, E, s, w, h1, h2, h3, R, hk, hop, hap, hcan => by
    have hm : m = [] := by
      have e1 := congrArg List.length h1
      have e2 := congrArg List.length h2
      simp only [List.length_append, List.length_take, Array.length_toList, List.length_nil] at e1 e2
      exact List.length_eq_zero_iff.1 (by omega)
    subst hm
    exact hn _ _ _ hk R
  | o :: r, [], i, E, s, w, h1, h2, h3, R, hk, hop, hap, hcan => hk.elim
  | o :: r, b :: m, i, E, s, w, h1, h2, h3, R, hk, hop, hap, hcan => by
    have hb : l[i]? = some b := by
      rw [h2, List.getElem?_append_right (by simp; omega)]
      simp [Nat.min_eq_left h3]
    have hil : i < l.length := by
      rcases Nat.lt_or_ge i l.length with h' | h'
      · exact h'
      · rw [List.getElem?_eq_none h'] at hb; cases hb
    have ho : ops[i]? = some o := by
      rw [← Array.getElem?_toList, h1, List.getElem?_append_right (by simp; omega)]
      have : i ≤ ops.toList.length := by rw [Array.length_toList]; omega
      rw [List.length_take, Nat.min_eq_left this, Nat.sub_self]
      rfl
    have next : ∀ {α : Type} {x : List α} {y : α} {z : List α}, x = x.take i ++ y :: z → i ≤ x.length → x = x.take (i + 1) ++ z := fun {α x y z} he hi => by
      have e : x.drop i = y :: z := by
        have := congrArg (List.drop i) he
        rw [List.drop_append, List.length_take, Nat.min_eq_left hi] at this
        simpa using this
      have e2 : x.drop (i + 1) = z := by
        have := congrArg (List.drop 1) e
        simpa [List.drop_drop] using this
      rw [← e2, List.take_append_drop]
    have n1 := next h1 (by rw [Array.length_toList]; omega)
    have n2 := next h2 h3
    rw [List.length_cons, List.range'_succ, List.filter_cons] at hop hap hcan ⊢
    have hg : l.toArray.getD i true = b := by simp [hb]
    rw [hg] at hop hap hcan ⊢
    cases b with
    | true =>
      simp only [Bool.not_true, Bool.false_eq_true, if_false] at hop hap hcan ⊢
      exact tail_run on sp hn l hl r m (i + 1) n1 n2 hil R hk hop hap hcan
    | false =>
      simp only [Bool.not_false, if_true] at hop hap hcan ⊢
      obtain ⟨o', ho', hw, hd, hrun⟩ := hop i List.mem_cons_self
      rw [ho] at ho'
      simp only [Option.some.injEq] at ho'
      subst ho'
      have hk' : opX T ops s o fun s' => tailRun T ops r m s' k := hk
      have h5 := opX_snd on R hk' (next := fun a' w' => ∃ E' s', tailRun T ops r m s' k ∧ Rel O E' s' a' w') (Q := Q) (fun E' s' a' w' h1 h2 => ⟨E', s', h1, h2⟩)
      rw [if_pos hw] at h5
      unfold Oper.wp at h5
      rw [hrun w (hcan i List.mem_cons_self), Oper.upon_skip, hd] at h5
      obtain ⟨E', s', h6, h7⟩ := h5
      rw [List.pairwise_cons] at hap
      simp only [allOn]
      refine tail_run on sp hn l hl r m (i + 1) n1 n2 hil h7 h6 (fun j hj => hop j (List.mem_cons_of_mem _ hj)) hap.2 (fun j hj => ?_)
      exact Sto.can_on (Sto.off_symm (hap.1 j hj)) (hcan j (List.mem_cons_of_mem _ hj))

end Go.Anv

/- The engine, part 10: the walk of a region that draws its order. Plain theorems; their condition: no panic is let through. -/
namespace Go.Anv
open Go

/-- The walk of an operation that may be taken first: 'yes' with its value, or 'no'. -/
def pureK (T : Tbl) (h0 : List Blk) (ops : Array Oper) (ts : List EV) (o : Oper) (yes : EV → Prop) (no : Prop) : Prop :=
  match o.guard with
  | none => match px T h0 (evT ts) (evT ts) o.op with
    | .ok v => match detE v with
      | true => yes v
      | false => no
    | .need p v => match detE v with
      | true => Need p (yes v)
      | false => no
    | .fail => no
  | some (j, want) => guardK ops ts j want fun g => match px T h0 (fun x => strip (evT ts x)) (evT ts) o.op with
    | .ok v => match detE v with
      | true => obligK g ((looks o.op).map (evT ts)) (yes (.gd g v))
      | false => no
    | .need p v => match detE v with
      | true => obligK g ((looks o.op).map (evT ts)) (Need (g = true → p) (yes (.gd g v)))
      | false => no
    | .fail => no

def tryPure (T : Tbl) (h0 : List Blk) (ops : Array Oper) (ts : List EV) (l : List Bool) (yes : Nat → Oper → EV → Prop) (no : Prop) (rs : List Nat) : Prop :=
  List.rec (motive := fun _ => Prop) no (fun i _ ih => match nthO ops.toList i with
    | none => False
    | some o => match freeGo ops.toList i o 0 ops.toList l with
      | true => pureK T h0 ops ts o (yes i o) ih
      | false => ih) rs

/-- The blocks of the begin are as they were. -/
def preK (h0 : List Blk) : List Blk → Prop → Prop :=
  List.rec (motive := fun _ => List Blk → Prop → Prop) (fun _ k => k) (fun x _ ih h k => match h with
    | [] => False
    | y :: r' => match x with
      | .dead => ih r' k
      | .cells m cs sp => Need (Blk.cells m cs sp = y) (ih r' k)
      | .recs m n z f sp => Need (Blk.recs m n z f sp = y) (ih r' k)
      | .map es => Need (Blk.map es = y) (ih r' k)) h0

theorem preK_spec : ∀ {h0 h : List Blk} {k : Prop}, preK h0 h k → (∀ (i : Nat) (B : Blk), h0[i]? = some B → B = .dead ∨ h[i]? = some B) ∧ k
  | [], _, _, hk => ⟨fun i B hi => by simp at hi, hk⟩
  | x :: r, y :: r', k, hk => by
    have hk' : (x = .dead ∨ x = y) ∧ preK r r' k := by
      cases x with
      | dead => exact ⟨.inl rfl, hk⟩
      | cells m cs sp => exact ⟨.inr hk.p, hk.k⟩
      | recs m n z f sp => exact ⟨.inr hk.p, hk.k⟩
      | map es => exact ⟨.inr hk.p, hk.k⟩
    obtain ⟨h1, h2⟩ := preK_spec hk'.2
    refine ⟨fun i B hi => ?_, h2⟩
    cases i with
    | zero =>
      simp only [List.getElem?_cons_zero, Option.some.injEq] at hi ⊢
      subst hi
      exact hk'.1.imp id Eq.symm
    | succ i => simpa using h1 i B (by simpa using hi)
  | .dead :: _, [], _, hk => hk.elim
  | .cells .. :: _, [], _, hk => hk.elim
  | .recs .. :: _, [], _, hk => hk.elim
  | .map _ :: _, [], _, hk => hk.elim

/-- All of them, one behind the other. -/
def allK (f : Nat → Oper → Prop) (ops : List Oper) (rs : List Nat) : Prop :=
  List.rec (motive := fun _ => Prop) True (fun i r ih => match r with
    | [] => match nthO ops i with
      | none => False
      | some o => f i o
    | _ :: _ => (match nthO ops i with
      | none => False
      | some o => f i o) ∧ ih) rs

theorem allK_spec {f : Nat → Oper → Prop} {ops : List Oper} : ∀ {rs : List Nat}, allK f ops rs → ∀ i ∈ rs, ∃ o, ops[i]? = some o ∧ f i o
  | [], _, i, hi => by cases hi
  | [x], h, i, hi => by
    simp only [List.mem_singleton] at hi
    subst hi
    have h : (match nthO ops i with
      | none => False
      | some o => f i o) := h
    split at h
    · exact h.elim
    · rename_i o ho
      rw [nthO_eq] at ho
      exact ⟨o, ho, h⟩
  | x :: y :: r, h, i, hi => by
    have h : (match nthO ops x with
      | none => False
      | some o => f x o) ∧ allK f ops (y :: r) := h
    obtain ⟨h1, h2⟩ := h
    rcases List.mem_cons.1 hi with rfl | hi
    · split at h1
      · exact h1.elim
      · rename_i o ho
        rw [nthO_eq] at ho
        exact ⟨o, ho, h1⟩
    · exact allK_spec h2 i hi

/-- One step of a walk in whatever order; 'ih': the steps behind it. -/
def drawS (T : Tbl) (h0 : List Blk) (ops : Array Oper) (k : St → Prop) (n : Nat) (ih : List Bool → St → Prop) (l : List Bool) (s : St) : Prop :=
  match rdyGo l 0 ops.toList l with
  | [] => k s
  | i :: rs => match s with
    | ⟨ts, h⟩ => tryPure T h0 ops ts l (fun i o v => forceE v fun v => putK ts h o.dst v fun s' => ih (setB l i) s')
      (match tailGo T ts h h0 l ops.toList l [] && Nat.ble (countF l) (n + 1) with
        | true => preK h0 h (tailRun T ops ops.toList l ⟨ts, h⟩ k)
        | false => allK (fun i o => opX T ops ⟨ts, h⟩ o fun s' => preK h0 s'.heap (ih (setB l i) s')) ops.toList (i :: rs)) (i :: rs)

/-- (By the recursor itself: so that the elaborator and the kernel unfold it alike.) -/
def drawX (T : Tbl) (h0 : List Blk) (ops : Array Oper) (k : St → Prop) (n : Nat) : List Bool → St → Prop :=
  Nat.rec (motive := fun _ => List Bool → St → Prop) (fun l s => match rdyGo l 0 ops.toList l with
    | [] => k s
    | _ :: _ => False) (fun n ih l s => drawS T h0 ops k n ih l s) n

theorem drawX_zero (T : Tbl) (h0 : List Blk) (ops : Array Oper) (k : St → Prop) (l : List Bool) (s : St) : drawX T h0 ops k 0 l s = (match rdyGo l 0 ops.toList l with
    | [] => k s
    | _ :: _ => False) := rfl
theorem drawX_succ (T : Tbl) (h0 : List Blk) (ops : Array Oper) (k : St → Prop) (n : Nat) (l : List Bool) (s : St) : drawX T h0 ops k (n + 1) l s = drawS T h0 ops k n (drawX T h0 ops k n) l s := rfl

def falses : List Oper → List Bool
  | [] => []
  | _ :: r => false :: falses r

theorem falses_eq : ∀ l : List Oper, falses l = List.replicate l.length false
  | [] => rfl
  | _ :: r => by simp [falses, falses_eq r, List.replicate_succ]

theorem length_setB (l : List Bool) (i : Nat) : (setB l i).length = l.length := by simp [setB_eq]

section draw
variable {T : Tbl} {E0 : Emb} {hs h0 : List Blk} {w0 : World} {D0 : List Deferred} {Z0 : TabOk E0 hs w0} {E00 : Emb} {ops : Array Oper} {Q : Exit → Act → World → Prop}

theorem px_held {E : Emb} {h : List Blk} {w : World} (S : Sim E00 h w) (le : E00.le E) (ev raw : Operand → EV) (ρ : Operand → Value) (o : Oper)
    (hev : ∀ x ∈ looks o.op, denE E (ev x) (ρ x)) (hraw : ∀ x, denE E (raw x) (ρ x)) (hne : px T h ev raw o.op ≠ .fail) : (px T h ev raw o.op).yl E T.P w (execOp ρ o) := by
  have := px_snd T (S.weak le) ev raw ρ o hev hraw
  rwa [px_app T _ _ _ _ _ hne] at this

theorem pureK_snd {E : Emb} {s : St} {a : Act} {w : World} (R : Rel ⟨E0, hs, w0, D0, Z0⟩ E s a w) (hS : Sim E00 h0 w) (le : E00.le E) {o : Oper} {yes : EV → Prop} {no : Prop}
    (hk : pureK T h0 ops s.tmps o yes no) : no ∨ ∃ v u, denE E v u ∧ yes v ∧ YieldsIf T.P ops (Sim E00 h0) o u a := by
  unfold pureK at hk
  have hev : (St.ev s) = evT s.tmps := rfl
  split at hk
  · rename_i hg
    have hw : Region.wanted o (yielded ops a.tmps) = true := by simp [Region.wanted, hg]
    have hpx : ∀ w', Sim E00 h0 w' → px T h0 (evT s.tmps) (evT s.tmps) o.op ≠ .fail → (px T h0 (evT s.tmps) (evT s.tmps) o.op).yl E T.P w' (execOp a.eval o) := fun w' S' hne =>
      px_held S' le _ _ a.eval o (fun x _ => ev_denE R.fr x) (fun x => ev_denE R.fr x) hne
    split at hk
    · rename_i v hv
      split at hk
      · rename_i hd
        have h1 := hpx w hS (by rw [hv]; simp)
        rw [hv] at h1
        obtain ⟨z, _, h2⟩ := h1
        refine .inr ⟨v, z, h2, hk, .inl ⟨hw, fun w' S' => ?_⟩⟩
        have h3 := hpx w' S' (by rw [hv]; simp)
        rw [hv] at h3
        obtain ⟨z', h4, h5⟩ := h3
        rw [detE_eq v _ _ hd h2 h5]
        exact h4
      · exact .inl hk
    · rename_i p v hv
      split at hk
      · rename_i hd
        obtain ⟨hp, hk⟩ := hk
        have h1 := hpx w hS (by rw [hv]; simp)
        rw [hv] at h1
        obtain ⟨z, _, h2⟩ := h1 hp
        refine .inr ⟨v, z, h2, hk, .inl ⟨hw, fun w' S' => ?_⟩⟩
        have h3 := hpx w' S' (by rw [hv]; simp)
        rw [hv] at h3
        obtain ⟨z', h4, h5⟩ := h3 hp
        rw [detE_eq v _ _ hd h2 h5]
        exact h4
      · exact .inl hk
    · exact .inl hk
  · rename_i j want hg
    obtain ⟨g, h1, hk⟩ := guardK_snd R hk
    have hw : Region.wanted o (yielded ops a.tmps) = g := by simp only [Region.wanted, hg]; exact h1
    have hob : ∀ {l : List Operand}, oblig g (l.map s.ev) → g = true → ∀ x ∈ l, denE E (strip (s.ev x)) (a.eval x) := fun {l} => by
      induction l with
      | nil => intro _ _ x hx; cases hx
      | cons y r ih =>
        intro h hg x hx
        have hy := ev_denE R.fr y
        simp only [List.map_cons] at h
        rcases List.mem_cons.1 hx with rfl | hx
        · cases he : s.ev x with
          | gd g' v =>
            rw [he] at h hy
            simp only [oblig] at h
            simp only [denE] at hy
            exact hy.1 (h.1 hg)
          | _ => rw [he] at hy; exact hy
        · refine ih ?_ hg x hx
          cases he : s.ev y with
          | gd g' v => rw [he] at h; exact h.2
          | _ => rw [he] at h; exact h
    have hpx : g = true → oblig g ((looks o.op).map s.ev) → ∀ w', Sim E00 h0 w' → px T h0 (fun x => strip (evT s.tmps x)) (evT s.tmps) o.op ≠ .fail →
        (px T h0 (fun x => strip (evT s.tmps x)) (evT s.tmps) o.op).yl E T.P w' (execOp a.eval o) := fun hg ho w' S' hne =>
      px_held S' le _ _ a.eval o (hob ho hg) (fun x => ev_denE R.fr x) hne
    split at hk
    · rename_i v hv
      split at hk
      · rename_i hd
        obtain ⟨ho, hk⟩ := (obligK_iff _ _ _).1 hk
        cases g with
        | false => exact .inr ⟨.gd false v, undef, by simp [denE], hk, .inr ⟨hw, rfl⟩⟩
        | true =>
          have h1 := hpx rfl ho w hS (by rw [hv]; simp)
          rw [hv] at h1
          obtain ⟨z, _, h2⟩ := h1
          refine .inr ⟨.gd true v, z, by simp only [denE]; exact ⟨fun _ => h2, fun h => by cases h⟩, hk, .inl ⟨hw, fun w' S' => ?_⟩⟩
          have h3 := hpx rfl ho w' S' (by rw [hv]; simp)
          rw [hv] at h3
          obtain ⟨z', h4, h5⟩ := h3
          rw [detE_eq v _ _ hd h2 h5]
          exact h4
      · exact .inl hk
    · rename_i p v hv
      split at hk
      · rename_i hd
        obtain ⟨ho, hp, hk⟩ := (obligK_iff _ _ _).1 hk
        cases g with
        | false => exact .inr ⟨.gd false v, undef, by simp [denE], hk, .inr ⟨hw, rfl⟩⟩
        | true =>
          have h1 := hpx rfl ho w hS (by rw [hv]; simp)
          rw [hv] at h1
          obtain ⟨z, _, h2⟩ := h1 (hp rfl)
          refine .inr ⟨.gd true v, z, by simp only [denE]; exact ⟨fun _ => h2, fun h => by cases h⟩, hk, .inl ⟨hw, fun w' S' => ?_⟩⟩
          have h3 := hpx rfl ho w' S' (by rw [hv]; simp)
          rw [hv] at h3
          obtain ⟨z', h4, h5⟩ := h3 (hp rfl)
          rw [detE_eq v _ _ hd h2 h5]
          exact h4
      · exact .inl hk
    · exact .inl hk

theorem tryPure_snd {E : Emb} {s : St} {a : Act} {w : World} (R : Rel ⟨E0, hs, w0, D0, Z0⟩ E s a w) (hS : Sim E00 h0 w) (le : E00.le E) {l : List Bool} {yes : Nat → Oper → EV → Prop} {no : Prop} :
    ∀ {rs : List Nat}, tryPure T h0 ops s.tmps l yes no rs → no ∨ ∃ i o v u, i ∈ rs ∧ ops[i]? = some o ∧ freeGo ops.toList i o 0 ops.toList l = true ∧ denE E v u ∧ yes i o v ∧ YieldsIf T.P ops (Sim E00 h0) o u a
  | [], hk => .inl hk
  | i :: r, hk => by
    have hk : (match nthO ops.toList i with
      | none => False
      | some o => match freeGo ops.toList i o 0 ops.toList l with
        | true => pureK T h0 ops s.tmps o (yes i o) (tryPure T h0 ops s.tmps l yes no r)
        | false => tryPure T h0 ops s.tmps l yes no r) := hk
    split at hk
    · exact hk.elim
    · rename_i o ho
      rw [nthO_eq, Array.getElem?_toList] at ho
      have rest : tryPure T h0 ops s.tmps l yes no r → no ∨ ∃ i' o v u, i' ∈ i :: r ∧ ops[i']? = some o ∧ freeGo ops.toList i' o 0 ops.toList l = true ∧ denE E v u ∧ yes i' o v ∧ YieldsIf T.P ops (Sim E00 h0) o u a := fun h => by
        rcases tryPure_snd R hS le h with h | ⟨i', o', v, u, h1, h2⟩
        · exact .inl h
        · exact .inr ⟨i', o', v, u, List.mem_cons_of_mem _ h1, h2⟩
      split at hk
      · rename_i hf
        rcases pureK_snd R hS le hk with h | ⟨v, u, h1, h2, h3⟩
        · exact rest h
        · exact .inr ⟨i, o, v, u, List.mem_cons_self, ho, hf, h1, h2, h3⟩
      · exact rest hk

theorem tail_snd (n0 : E0.n = hs.length) {k : St → Prop} (hn : ∀ E' s' a' w', k s' → Rel ⟨E0, hs, w0, D0, Z0⟩ E' s' a' w' → Q .normal a' w')
    {n : Nat} {l : List Bool} {E : Emb} {s : St} {a : Act} {w : World} (hl : l.length = ops.size) (R : Rel ⟨E0, hs, w0, D0, Z0⟩ E s a w) (hS : Sim E00 h0 w) (le : E00.le E)
    (ht : tailGo T s.tmps s.heap h0 l ops.toList l [] = true) (hc : countF l ≤ n) (hk : preK h0 s.heap (tailRun T ops ops.toList l s k)) : wpAnyH T.P .any ops Q (Sim E00 h0) n l.toArray a w := by
  obtain ⟨hpre, hk⟩ := preK_spec hk
  obtain ⟨t1, t2⟩ := tailGo_spec ht
  have hmem : ∀ i ∈ unl ops l.toArray, ∃ o, ops[i]? = some o ∧ ops.toList[i]? = some o ∧ l[i]? = some false := fun i hi => by
    obtain ⟨h1, h2⟩ := List.mem_filter.1 hi
    have h1 := List.mem_range.1 h1
    have h3 : l[i]? = some l[i] := List.getElem?_eq_getElem (by omega)
    refine ⟨ops[i], Array.getElem?_eq_getElem h1, by rw [Array.getElem?_toList]; exact Array.getElem?_eq_getElem h1, ?_⟩
    simp only [Array.getD_eq_getD_getElem?, List.getElem?_toArray, h3, Option.getD_some, Bool.not_eq_true'] at h2
    rw [h3, h2]
  have hsp : ∀ i o, ops[i]? = some o → stoN E T s.tmps s.heap a ops i = stoOf E T s.tmps s.heap a o := fun i o ho => by unfold stoN; rw [ho]
  have hoff : ∀ i ∈ unl ops l.toArray, ∀ j ∈ unl ops l.toArray, i < j → (stoN E T s.tmps s.heap a ops i).off (stoN E T s.tmps s.heap a ops j) := fun i hi j hj hij => by
    obtain ⟨o, h1, h2, h3⟩ := hmem i hi
    obtain ⟨o', k1, k2, k3⟩ := hmem j hj
    obtain ⟨p, q1, _⟩ := t1 i o h2 h3
    obtain ⟨p', q2, _⟩ := t1 j o' k2 k3
    rw [hsp i o h1, hsp j o' k1]
    exact sto_off T R ops q1 q2 (t2 i j o o' p p' h2 h3 k2 k3 hij q1 q2)
  refine stores_any (stoN E T s.tmps s.heap a ops) a n l.toArray w (by simpa using hl) (by rw [unl_length hl]; exact hc) hS (fun i hi => ?_) (fun i hi j hj hij => ?_) (fun i hi => ?_) (fun i hi w' hS' => ?_) ?_
  · obtain ⟨o, h1, h2, h3⟩ := hmem i hi
    obtain ⟨⟨b, off, m⟩, k1, k2, k3, _⟩ := t1 i o h2 h3
    obtain ⟨q1, q2, q3, q4, q5, q6, q7, q8⟩ := stoK_spec T R (ops := ops) k1
    refine ⟨o, h1, q1, q2, fun e he hb => ?_, by rw [hsp i o h1]; exact q8⟩
    rw [waitB_eq, List.all_eq_true] at k2
    have := k2 e (by simpa using he)
    rw [hb] at this
    simpa using this
  · rcases Nat.lt_or_gt_of_ne hij with h | h
    · exact hoff i hi j hj h
    · exact Sto.off_symm (hoff j hj i hi h)
  · obtain ⟨o, h1, h2, h3⟩ := hmem i hi
    obtain ⟨⟨b, off, m⟩, k1, k2, k3, _⟩ := t1 i o h2 h3
    obtain ⟨q1, q2, q3, q4, q5, q6, q7, q8⟩ := stoK_spec T R (ops := ops) k1
    rw [hsp i o h1]
    exact q7
  · obtain ⟨o, h1, h2, h3⟩ := hmem i hi
    obtain ⟨⟨b, off, m⟩, k1, k2, k3, _⟩ := t1 i o h2 h3
    obtain ⟨q1, q2, ⟨cs, sp, q3, q3', _⟩, q4, q5, q6, q7, q8⟩ := stoK_spec T R (ops := ops) k1
    rw [hsp i o h1]
    refine hS'.outside _ fun j B hj x hx1 hx2 => ?_
    rw [q5] at hx1 hx2
    rw [q6] at hx2
    rw [q4]
    rcases hpre j B hj with rfl | hB
    · intro h; exact h
    · have hjlt : j < E00.n := by
        rw [hS.n]
        rcases Nat.lt_or_ge j h0.length with h' | h'
        · exact h'
        · rw [List.getElem?_eq_none h'] at hj; cases hj
      rw [← le.2 j hjlt]
      refine R.sim.dis b j _ _ ?_ q3 hB rfl _ _ ⟨rfl, by omega, by omega⟩
      rintro rfl
      have hnb : nthB h0 b = some B := get_nthB hj
      simp only [deadAt, hnb] at k3
      cases B with
      | dead => rw [q3] at hB; cases hB
      | cells => cases k3
      | recs => cases k3
      | map => cases k3
  · have hu : unl ops l.toArray = (List.range' 0 l.length).filter fun j => !l.toArray.getD j true := by
      unfold unl
      rw [← hl, List.range_eq_range']
    have hpw : (unl ops l.toArray).Pairwise fun x y => (stoN E T s.tmps s.heap a ops x).off (stoN E T s.tmps s.heap a ops y) := by
      have h1 : (unl ops l.toArray).Pairwise (fun x y => x < y) := List.Pairwise.filter _ List.pairwise_lt_range
      exact List.Pairwise.imp_of_mem (fun {x y} hx hy hxy => hoff x hx y hy hxy) h1
    have hop : ∀ i ∈ unl ops l.toArray, (∃ o, ops[i]? = some o ∧ Region.wanted o (yielded ops a.tmps) = true ∧ o.dst = none ∧ ∀ w', (stoN E T s.tmps s.heap a ops i).can w' → (execOp a.eval o).run T.P w' = .ok .skip ((stoN E T s.tmps s.heap a ops i).on w')) ∧
        (stoN E T s.tmps s.heap a ops i).can w := fun i hi => by
      obtain ⟨o, h1, h2, h3⟩ := hmem i hi
      obtain ⟨⟨b, off, m⟩, k1, k2, k3, _⟩ := t1 i o h2 h3
      obtain ⟨q1, q2, q3, q4, q5, q6, q7, q8⟩ := stoK_spec T R (ops := ops) k1
      rw [hsp i o h1]
      exact ⟨⟨o, h1, q1, q2, q8⟩, q7⟩
    rw [hu] at hpw hop ⊢
    exact tail_run (O := ⟨E0, hs, w0, D0, Z0⟩) n0 _ (fun E' s' w' h1 h2 => hn E' s' _ w' h1 h2) l hl ops.toList l 0 (by simp) (by simp) (Nat.zero_le _) R hk (fun i hi => (hop i hi).1) hpw (fun i hi => (hop i hi).2)

theorem drawX_snd (n0 : E0.n = hs.length) (hsel : noSel ops.toList = true) (hQ : ∀ c a w, ¬ Q (.panic c) a w) (S0 : ∀ i, i < E00.n → E00.f i = E0.f i) (hn0 : E00.n ≤ E0.n) {k : St → Prop}
    (hn : ∀ E' s' a' w', k s' → Rel ⟨E0, hs, w0, D0, Z0⟩ E' s' a' w' → Q .normal a' w') :
    ∀ (n : Nat) (l : List Bool) {E : Emb} {s : St} {a : Act} {w : World}, l.length = ops.size → Rel ⟨E0, hs, w0, D0, Z0⟩ E s a w → Sim E00 h0 w → drawX T h0 ops k n l s → wpAnyH T.P .any ops Q (Sim E00 h0) n l.toArray a w
  | 0, l, E, s, a, w, hl, R, hS, hk => by
    simp only [drawX_zero] at hk
    rw [rdy_eq ops l hl] at hk
    split at hk
    · rename_i hr
      exact ⟨hr, hn _ _ _ _ hk R⟩
    · exact hk.elim
  | n + 1, l, E, s, a, w, hl, R, hS, hk => by
    have hle : ∀ {E s a w}, Rel ⟨E0, hs, w0, D0, Z0⟩ E s a w → E00.le E := fun {E s a w} R => by
      have h1 := R.sin.le n0 R.sim.n
      exact ⟨Nat.le_trans hn0 h1.1, fun i hi => by rw [h1.2 i (Nat.lt_of_lt_of_le hi hn0)]; exact (S0 i hi).symm⟩
    have hset : ∀ i, (setB l i).toArray = l.toArray.setIfInBounds i true := fun i => by simp [setB_eq]
    obtain ⟨ts, h⟩ := s
    simp only [drawX_succ, drawS] at hk
    rw [rdy_eq ops l hl] at hk
    split at hk
    · rename_i hr
      exact wpAnyH_done hr (hn _ _ _ _ hk R) _
    · rename_i i rs hr
      rcases tryPure_snd R hS (hle R) hk with hk | ⟨i', o, v, u, h1, h2, h3, h4, h5, h6⟩
      · split at hk
        · rename_i ht
          simp only [Bool.and_eq_true] at ht
          exact tail_snd n0 hn hl R hS (hle R) ht.1 (Nat.le_of_ble_eq_true ht.2) hk
        refine wpAnyH_all hr (by simp) fun j hj => ?_
        obtain ⟨o, ho, hk⟩ := allK_spec hk j hj
        have ho' : ops[j]? = some o := by simpa using ho
        have := opX_snd (O := ⟨E0, hs, w0, D0, Z0⟩) n0 R hk (next := fun a' w' => Sim E00 h0 w' ∧ wpAnyH T.P .any ops Q (Sim E00 h0) n (l.toArray.setIfInBounds j true) a' w') (Q := Q) (fun E' s' a' w' h1 h2 => by
          obtain ⟨h3, h4⟩ := preK_spec h1
          have hS' : Sim E00 h0 w' := hS.restrict (hle h2) h2.sim h3
          refine ⟨hS', ?_⟩
          rw [← hset]
          exact drawX_snd n0 hsel hQ S0 hn0 hn n (setB l j) (by rw [length_setB]; exact hl) h2 hS' h4)
        unfold wpOp
        simp only [ho']
        split
        · rename_i hw
          rw [if_pos hw] at this
          exact .inl this
        · rename_i hw
          rw [if_neg hw] at this
          exact this
      · simp only [forceE_eq, putK_eq] at h5
        refine wpAnyH_take h2 (noSel_eq hsel) (free_of h2 h3) ?_ (fun c a w h => absurd h (hQ c _ w)) h6 hS ?_
        · rw [hr]
          simpa using h1
        · rw [← hset]
          exact drawX_snd n0 hsel hQ S0 hn0 hn n (setB l i') (by rw [length_setB]; exact hl) (R.put o.dst h4) hS h5

end draw

/-- Some blocks of a small world, from its begin on; the others are let go. -/
def keptK : List Blk → List Blk → Prop
  | [], [] => True
  | .dead :: r, _ :: r' => keptK r r'
  | x :: r, y :: r' => x = y ∧ keptK r r'
  | _, _ => False

theorem keptK_spec : ∀ {h0 h : List Blk}, keptK h0 h → h0.length = h.length ∧ ∀ (i : Nat) (B : Blk), h0[i]? = some B → B = .dead ∨ h[i]? = some B
  | [], [], _ => ⟨rfl, fun i B hi => by simp at hi⟩
  | [], _ :: _, hk => hk.elim
  | x :: r, y :: r', hk => by
    have hk' : (x = .dead ∨ x = y) ∧ keptK r r' := by
      cases x with
      | dead => exact ⟨.inl rfl, hk⟩
      | cells m cs sp => exact ⟨.inr hk.1, hk.2⟩
      | recs m n z f sp => exact ⟨.inr hk.1, hk.2⟩
      | map es => exact ⟨.inr hk.1, hk.2⟩
    obtain ⟨h1, h2⟩ := keptK_spec hk'.2
    refine ⟨by simp; exact h1, fun i B hi => ?_⟩
    cases i with
    | zero =>
      simp only [List.getElem?_cons_zero, Option.some.injEq] at hi ⊢
      subst hi
      exact hk'.1.imp id Eq.symm
    | succ i => simpa using h2 i B (by simpa using hi)
  | .dead :: _, [], hk => hk.elim
  | .cells .. :: _, [], hk => hk.elim
  | .recs .. :: _, [], hk => hk.elim
  | .map _ :: _, [], hk => hk.elim

theorem keptK_refl : ∀ h : List Blk, keptK h h
  | [] => trivial
  | .dead :: r => keptK_refl r
  | .cells .. :: r => ⟨rfl, keptK_refl r⟩
  | .recs .. :: r => ⟨rfl, keptK_refl r⟩
  | .map _ :: r => ⟨rfl, keptK_refl r⟩

theorem Sim.kept {E : Emb} {h h0 : List Blk} {w : World} (S : Sim E h w) (hk : keptK h0 h) : Sim E h0 w := by
  obtain ⟨h1, h2⟩ := keptK_spec hk
  refine ⟨by rw [h1]; exact S.n, fun i B hi => ?_, fun i j A B hij hi hj hA b o hc => ?_⟩
  · rcases h2 i B hi with rfl | h
    · trivial
    · exact S.ok i B h
  · rcases h2 i A hi with rfl | h
    · cases hA
    · rcases h2 j B hj with rfl | h'
      · intro hc'; exact hc'
      · exact S.dis i j A B hij h h' hA b o hc

theorem draw_core {T : Tbl} {O : Org} (on : O.E.n = O.h.length) {id : Nat} {ops : Array Oper} {s : St} {K : Exit → St → Prop} (h0 : List Blk) (hh : h0 = [] ∨ keptK h0 s.heap) (hsel : noSel ops.toList = true) (hQ : ∀ c s, ¬ K (.panic c) s)
    (hk : drawX T h0 ops (K .normal) ops.size (falses ops.toList) s) : DrawG T O id ops s K := by
  intro E a w R
  have RD : Rel O E s a w.drew := ⟨R.fr, R.df, R.sim.drew, R.sin.trans on R.sim.n (Since.drew E s.heap w)⟩
  have fal : (falses ops.toList).toArray = Array.replicate ops.size false := by simp [falses_eq]
  let E00 : Emb := ⟨h0.length, E.f⟩
  have hn0 : E00.n ≤ E.n := by
    rcases hh with rfl | hh
    · exact Nat.zero_le _
    · rw [R.sim.n]; exact Nat.le_of_eq (keptK_spec hh).1
  have hS : Sim E00 h0 w.drew := by
    rcases hh with rfl | hh
    · exact ⟨rfl, fun i B hi => by simp at hi, fun i j A B _ hi => by simp at hi⟩
    · have h1 := R.sim.drew.kept hh
      have : E00 = E := by
        have := R.sim.n
        have := (keptK_spec hh).1
        cases E
        simp only [E00] at *
        simp [*]
      rw [this]
      exact h1
  refine wp_region_held (S := Sim E00 h0) T.mixed ?_
  rw [← fal]
  refine drawX_snd (E00 := E00) (h0 := h0) (E0 := E) (hs := s.heap) (w0 := w.drew) (D0 := O.D) (Z0 := (O.Z.since R.sin).since (Since.drew E s.heap w)) R.sim.n hsel (fun c a w h => ?_) (fun i _ => rfl) hn0 (k := K .normal) (fun E' s' a' w' h1 h2 => ?_) ops.size _ (by simp [falses_eq])
    ⟨R.fr, R.df, R.sim.drew, Since.refl _ _ _⟩ hS hk
  · obtain ⟨E, s, h1, _⟩ := h
    exact hQ c s h1
  · exact ⟨E', s', h1, h2.fr, h2.df, h2.sim, RD.sin.trans on R.sim.n h2.sin⟩

/-- **A region that draws its order: loads may be taken first, for no block that was there is written.** -/
theorem draw_held {T : Tbl} {O : Org} (on : O.E.n = O.h.length) {id : Nat} {ops : Array Oper} {s : St} {K : Exit → St → Prop} (hsel : noSel ops.toList = true) (hQ : ∀ c s, ¬ K (.panic c) s)
    (hk : drawX T s.heap ops (K .normal) ops.size (falses ops.toList) s) : DrawG T O id ops s K := draw_core on s.heap (.inr (keptK_refl _)) hsel hQ hk

/-- Some blocks are let go: those with these numbers. -/
def killK (l : List Nat) : List Blk → (List Blk → Prop) → Prop :=
  List.rec (motive := fun _ => List Blk → (List Blk → Prop) → Prop) (fun h k => k h) (fun i _ ih h k => updBK h i .dead fun h => ih h k) l

theorem keptK_upd : ∀ {h0 h : List Blk} (i : Nat), keptK h0 h → keptK (updB h0 i .dead) h
  | [], [], _, hk => hk
  | [], _ :: _, _, hk => hk.elim
  | .dead :: _, [], _, hk => hk.elim
  | .cells .. :: _, [], _, hk => hk.elim
  | .recs .. :: _, [], _, hk => hk.elim
  | .map _ :: _, [], _, hk => hk.elim
  | x :: r, y :: r', i, hk => by
    have hk' : (x = .dead ∨ x = y) ∧ keptK r r' := by
      cases x with
      | dead => exact ⟨.inl rfl, hk⟩
      | cells m cs sp => exact ⟨.inr hk.1, hk.2⟩
      | recs m n z f sp => exact ⟨.inr hk.1, hk.2⟩
      | map es => exact ⟨.inr hk.1, hk.2⟩
    cases i with
    | zero => exact hk'.2
    | succ i =>
      have := keptK_upd i hk'.2
      rcases hk'.1 with rfl | rfl
      · exact this
      · cases x with
        | dead => exact this
        | cells m cs sp => exact ⟨rfl, this⟩
        | recs m n z f sp => exact ⟨rfl, this⟩
        | map es => exact ⟨rfl, this⟩

theorem killK_spec : ∀ {l : List Nat} {h1 h : List Blk} {k : List Blk → Prop}, keptK h1 h → killK l h1 k → ∃ h0, keptK h0 h ∧ k h0
  | [], h1, h, k, h2, hk => ⟨h1, h2, hk⟩
  | i :: r, h1, h, k, h2, hk => by
    have hk : updBK h1 i .dead (fun h => killK r h k) := hk
    rw [updBK_eq] at hk
    exact killK_spec (keptK_upd i h2) hk

/-- **A region that draws its order: loads may be taken first, out of blocks that are not written; the blocks of these numbers may be written.** -/
theorem draw_but (l : List Nat) {T : Tbl} {O : Org} (on : O.E.n = O.h.length) {id : Nat} {ops : Array Oper} {s : St} {K : Exit → St → Prop} (hsel : noSel ops.toList = true) (hQ : ∀ c s, ¬ K (.panic c) s)
    (hk : killK l s.heap fun h0 => drawX T h0 ops (K .normal) ops.size (falses ops.toList) s) : DrawG T O id ops s K := by
  obtain ⟨h0, h1, h2⟩ := killK_spec (keptK_refl s.heap) hk
  exact draw_core on h0 (.inr h1) hsel hQ h2

/-- **A region that draws its order: what looks at no memory is taken first.** -/
theorem draw_free {T : Tbl} {O : Org} (on : O.E.n = O.h.length) {id : Nat} {ops : Array Oper} {s : St} {K : Exit → St → Prop} (hsel : noSel ops.toList = true) (hQ : ∀ c s, ¬ K (.panic c) s)
    (hk : drawX T [] ops (K .normal) ops.size (falses ops.toList) s) : DrawG T O id ops s K := draw_core on [] (.inl rfl) hsel hQ hk

end Go.Anv

/- The engine, part 11: a call whose arguments point into memory: what is shown of a small heap holds within a larger one. Plain theorems; their condition: no new block that may not be written. -/
namespace Go.Anv
open Go

/-! ### other numbers for the blocks -/

def lk : List Nat → Nat → Nat → Nat
  | [], N, i => N + i
  | x :: _, _, 0 => x
  | _ :: r, N, i + 1 => lk r N i

mutual
def renV (ρ : Nat → Nat) : SV → SV
  | .ptr b o => .ptr (ρ b) o
  | .pix b o i => .pix (ρ b) o i
  | .rp b o i z => .rp (ρ b) o i z
  | .slice b o n c => .slice (ρ b) o n c
  | .gs b o n c => .gs (ρ b) o n c
  | .map b => .map (ρ b)
  | .func f a c => .func f (renL ρ a) (renL ρ c)
  | .iface t a cs => .iface t a (renL ρ cs)
  | .junk => .junk
  | .int k n => .int k n
  | .bool b => .bool b
  | .str s => .str s
  | .nilptr => .nilptr
  | .nilslice => .nilslice
  | .nilmap => .nilmap
  | .nilfunc => .nilfunc
  | .niliface => .niliface
def renL (ρ : Nat → Nat) : List SV → List SV
  | [] => []
  | v :: r => renV ρ v :: renL ρ r
end

def renS (ρ : Nat → Nat) : List Seg → List Seg
  | [] => []
  | .one v :: r => .one (renV ρ v) :: renS ρ r
  | .ints k n f :: r => .ints k n f :: renS ρ r

mutual
def renE (ρ : Nat → Nat) : EV → EV
  | .s v => .s (renV ρ v)
  | .agg cs => .agg (renS ρ cs)
  | .tuple vs => .tuple (renT ρ vs)
  | .gd g v => .gd g (renE ρ v)
  | .junk => .junk
def renT (ρ : Nat → Nat) : List EV → List EV
  | [] => []
  | v :: r => renE ρ v :: renT ρ r
end

def renM (ρ : Nat → Nat) : List (SV × EV) → List (SV × EV)
  | [] => []
  | (k, cs) :: r => (renV ρ k, renE ρ cs) :: renM ρ r

def renB (ρ : Nat → Nat) : Blk → Blk
  | .cells m cs sp => .cells m (renS ρ cs) sp
  | .recs m n z f sp => .recs m n z (fun i => renL ρ (f i)) sp
  | .map es => .map (renM ρ es)
  | .dead => .dead

section ren
variable {E E' : Emb} {ρ : Nat → Nat} (hf : ∀ b, ρ b < E'.n → b < E.n) (hb : ∀ b, b < E.n → ρ b < E'.n ∧ E.f b = E'.f (ρ b))
include hf hb

omit hf in
theorem at_ren {b : Nat} (h : b < E.n) (o : Nat) : E.at b o = E'.at (ρ b) o := by
  unfold Emb.at
  rw [(hb b h).2]

mutual
theorem denV_ren : ∀ (e : SV) (v : Value), denV E' (renV ρ e) v ↔ denV E e v
  | .ptr b o, v => by
    simp only [renV, denV]
    exact ⟨fun ⟨h, k⟩ => ⟨hf b h, by rw [at_ren hb (hf b h)]; exact k⟩, fun ⟨h, k⟩ => ⟨(hb b h).1, by rw [← at_ren hb h]; exact k⟩⟩
  | .pix b o i, v => by
    simp only [renV, denV]
    exact ⟨fun ⟨h, k⟩ => ⟨hf b h, by rw [at_ren hb (hf b h)]; exact k⟩, fun ⟨h, k⟩ => ⟨(hb b h).1, by rw [← at_ren hb h]; exact k⟩⟩
  | .rp b o i z, v => by
    simp only [renV, denV]
    exact ⟨fun ⟨h, k⟩ => ⟨hf b h, by rw [at_ren hb (hf b h)]; exact k⟩, fun ⟨h, k⟩ => ⟨(hb b h).1, by rw [← at_ren hb h]; exact k⟩⟩
  | .slice b o n c, v => by
    simp only [renV, denV]
    exact ⟨fun ⟨⟨h, g⟩, k⟩ => ⟨⟨hf b h, by rw [(hb b (hf b h)).2]; exact g⟩, by rw [at_ren hb (hf b h)]; exact k⟩, fun ⟨⟨h, g⟩, k⟩ => ⟨⟨(hb b h).1, by rw [← (hb b h).2]; exact g⟩, by rw [← at_ren hb h]; exact k⟩⟩
  | .gs b o n c, v => by
    simp only [renV, denV]
    exact ⟨fun ⟨h, g, k⟩ => ⟨hf b h, by rw [(hb b (hf b h)).2]; exact g, by rw [at_ren hb (hf b h), (hb b (hf b h)).2]; exact k⟩, fun ⟨h, g, k⟩ => ⟨(hb b h).1, by rw [← (hb b h).2]; exact g, by rw [← at_ren hb h, ← (hb b h).2]; exact k⟩⟩
  | .map b, v => by
    simp only [renV, denV]
    exact ⟨fun ⟨h, k⟩ => ⟨hf b h, by rw [(hb b (hf b h)).2]; exact k⟩, fun ⟨h, k⟩ => ⟨(hb b h).1, by rw [← (hb b h).2]; exact k⟩⟩
  | .func f a c, v => by
    simp only [renV, denV]
    constructor
    · rintro ⟨f', c', rfl, h1, h2⟩
      exact ⟨f', c', rfl, (denL_ren a _).1 h1, (denL_ren c _).1 h2⟩
    · rintro ⟨f', c', rfl, h1, h2⟩
      exact ⟨f', c', rfl, (denL_ren a _).2 h1, (denL_ren c _).2 h2⟩
  | .iface t true cs, v => by
    simp only [renV, denV]
    constructor
    · rintro ⟨l, rfl, h1⟩; exact ⟨l, rfl, (denL_ren cs _).1 h1⟩
    · rintro ⟨l, rfl, h1⟩; exact ⟨l, rfl, (denL_ren cs _).2 h1⟩
  | .iface t false cs, v => by
    simp only [renV, denV]
    constructor
    · rintro ⟨x, rfl, h1⟩; exact ⟨x, rfl, (denL_ren cs _).1 h1⟩
    · rintro ⟨x, rfl, h1⟩; exact ⟨x, rfl, (denL_ren cs _).2 h1⟩
  | .junk, _ => Iff.rfl
  | .int .., _ => Iff.rfl
  | .bool _, _ => Iff.rfl
  | .str _, _ => Iff.rfl
  | .nilptr, _ => Iff.rfl
  | .nilslice, _ => Iff.rfl
  | .nilmap, _ => Iff.rfl
  | .nilfunc, _ => Iff.rfl
  | .niliface, _ => Iff.rfl
theorem denL_ren : ∀ (l : List SV) (vs : List Value), denL E' (renL ρ l) vs ↔ denL E l vs
  | [], _ => by
    have _ := hf
    have _ := hb
    exact Iff.rfl
  | e :: r, vs => by
    simp only [renL, denL]
    constructor
    · rintro ⟨v, l', rfl, h1, h2⟩; exact ⟨v, l', rfl, (denV_ren e v).1 h1, (denL_ren r l').1 h2⟩
    · rintro ⟨v, l', rfl, h1, h2⟩; exact ⟨v, l', rfl, (denV_ren e v).2 h1, (denL_ren r l').2 h2⟩
end

theorem denS_ren : ∀ (cs : List Seg) (l : List Value), denS E' (renS ρ cs) l ↔ denS E cs l
  | [], _ => Iff.rfl
  | .one e :: r, vs => by
    simp only [renS, denS]
    constructor
    · rintro ⟨v, l', rfl, h1, h2⟩; exact ⟨v, l', rfl, (denV_ren hf hb e v).1 h1, (denS_ren r l').1 h2⟩
    · rintro ⟨v, l', rfl, h1, h2⟩; exact ⟨v, l', rfl, (denV_ren hf hb e v).2 h1, (denS_ren r l').2 h2⟩
  | .ints k n f :: r, vs => by
    simp only [renS, denS]
    constructor
    · rintro ⟨l', rfl, h2⟩; exact ⟨l', rfl, (denS_ren r l').1 h2⟩
    · rintro ⟨l', rfl, h2⟩; exact ⟨l', rfl, (denS_ren r l').2 h2⟩

mutual
theorem denE_ren : ∀ (e : EV) (v : Value), denE E' (renE ρ e) v ↔ denE E e v
  | .s x, v => by simp only [renE, denE]; exact denV_ren hf hb x v
  | .agg cs, v => by
    simp only [renE, denE]
    constructor
    · rintro ⟨l, rfl, h⟩; exact ⟨l, rfl, (denS_ren hf hb cs _).1 h⟩
    · rintro ⟨l, rfl, h⟩; exact ⟨l, rfl, (denS_ren hf hb cs _).2 h⟩
  | .tuple vs, v => by
    simp only [renE, denE]
    constructor
    · rintro ⟨l, rfl, h⟩; exact ⟨l, rfl, (denT_ren vs _).1 h⟩
    · rintro ⟨l, rfl, h⟩; exact ⟨l, rfl, (denT_ren vs _).2 h⟩
  | .gd g x, v => by
    simp only [renE, denE]
    exact ⟨fun ⟨h1, h2⟩ => ⟨fun hg => (denE_ren x v).1 (h1 hg), h2⟩, fun ⟨h1, h2⟩ => ⟨fun hg => (denE_ren x v).2 (h1 hg), h2⟩⟩
  | .junk, _ => by simp only [renE, denE]
theorem denT_ren : ∀ (l : List EV) (vs : List Value), denT E' (renT ρ l) vs ↔ denT E l vs
  | [], _ => by
    have _ := hf
    have _ := hb
    simp only [renT, denT]
  | e :: r, vs => by
    simp only [renT, denT]
    constructor
    · rintro ⟨v, l', rfl, h1, h2⟩; exact ⟨v, l', rfl, (denE_ren e v).1 h1, (denT_ren r l').1 h2⟩
    · rintro ⟨v, l', rfl, h1, h2⟩; exact ⟨v, l', rfl, (denE_ren e v).2 h1, (denT_ren r l').2 h2⟩
end

theorem denM_ren : ∀ (es : List (SV × EV)) (l : List MapEntry), denM E' (renM ρ es) l ↔ denM E es l
  | [], _ => Iff.rfl
  | (k, cs) :: r, vs => by
    simp only [renM, denM]
    constructor
    · rintro ⟨e, l', rfl, h1, h2, h3⟩; exact ⟨e, l', rfl, (denV_ren hf hb k _).1 h1, (denE_ren hf hb cs _).1 h2, (denM_ren r l').1 h3⟩
    · rintro ⟨e, l', rfl, h1, h2, h3⟩; exact ⟨e, l', rfl, (denV_ren hf hb k _).2 h1, (denE_ren hf hb cs _).2 h2, (denM_ren r l').2 h3⟩

omit hf hb in
theorem sizeS_ren : ∀ cs : List Seg, sizeS (renS ρ cs) = sizeS cs
  | [] => rfl
  | .one _ :: r => by simp only [renS, sizeS, sizeS_ren r]
  | .ints .. :: r => by simp only [renS, sizeS, sizeS_ren r]

omit hf hb in
theorem renS_append : ∀ a b : List Seg, renS ρ (a ++ b) = renS ρ a ++ renS ρ b
  | [], _ => rfl
  | .one _ :: r, b => by simp only [List.cons_append, renS, renS_append r b]
  | .ints .. :: r, b => by simp only [List.cons_append, renS, renS_append r b]

omit hf hb in
theorem renS_ones : ∀ l : List SV, renS ρ (l.map .one) = (renL ρ l).map .one
  | [] => rfl
  | e :: r => by simp only [List.map_cons, renS, renL, renS_ones r]

omit hf hb in
theorem renS_recS (f : Nat → List SV) : ∀ n, renS ρ (recS n f) = recS n (fun i => renL ρ (f i))
  | 0 => rfl
  | n + 1 => by rw [recS, recS, renS_append, renS_recS f n, renS_ones]

omit hf hb in
theorem length_renL : ∀ l : List SV, (renL ρ l).length = l.length
  | [] => rfl
  | _ :: r => by simp only [renL, List.length_cons, length_renL r]

omit hf hb in
theorem cov_ren (p : Loc) (B : Blk) (b o : Nat) : cov p (renB ρ B) b o ↔ cov p B b o := by
  cases B <;> simp only [renB, cov, sizeS_ren, ← renS_recS]

omit hf hb in
theorem mut_ren (B : Blk) : (renB ρ B).mut = B.mut := by cases B <;> rfl

theorem okBlk_ren {w : World} {p : Loc} (B : Blk) : okBlk E' w p (renB ρ B) ↔ okBlk E w p B := by
  cases B with
  | cells m cs sp =>
    simp only [renB, okBlk, okCells, sizeS_ren]
    constructor
    · rintro ⟨h1, ⟨l, h2, h3⟩, h4⟩; exact ⟨h1, ⟨l, (denS_ren hf hb cs l).1 h2, h3⟩, h4⟩
    · rintro ⟨h1, ⟨l, h2, h3⟩, h4⟩; exact ⟨h1, ⟨l, (denS_ren hf hb cs l).2 h2, h3⟩, h4⟩
  | recs m n z f sp =>
    simp only [renB, okBlk, okCells, length_renL, ← renS_recS, sizeS_ren]
    constructor
    · rintro ⟨h0, h1, ⟨l, h2, h3⟩, h4⟩; exact ⟨h0, h1, ⟨l, (denS_ren hf hb _ l).1 h2, h3⟩, h4⟩
    · rintro ⟨h0, h1, ⟨l, h2, h3⟩, h4⟩; exact ⟨h0, h1, ⟨l, (denS_ren hf hb _ l).2 h2, h3⟩, h4⟩
  | map es =>
    simp only [renB, okBlk]
    constructor
    · rintro ⟨l, c, h1, h2⟩; exact ⟨l, c, h1, (denM_ren hf hb es _).1 h2⟩
    · rintro ⟨l, c, h1, h2⟩; exact ⟨l, c, h1, (denM_ren hf hb es _).2 h2⟩
  | dead => exact Iff.rfl

end ren

/-! ### the larger heap behind a call -/

/-- Blocks that may not be written are as they were; none is new. -/
def roOk : List Blk → List Blk → Prop
  | B :: r, B' :: r' => (B'.mut = true ∨ B' = .dead ∨ B' = B) ∧ roOk r r'
  | _, [] => True
  | [], B' :: r' => (B'.mut = true ∨ B' = .dead) ∧ roOk [] r'

theorem roOk_get : ∀ {h h' : List Blk}, roOk h h' → ∀ (i : Nat) (B : Blk), h'[i]? = some B → B.mut = true ∨ B = .dead ∨ h[i]? = some B
  | B :: r, B' :: r', hk, 0, C, hi => by
    simp only [List.getElem?_cons_zero, Option.some.injEq] at hi
    subst hi
    rcases hk.1 with h | h | h
    · exact .inl h
    · exact .inr (.inl h)
    · exact .inr (.inr (by simp [h]))
  | B :: r, B' :: r', hk, i + 1, C, hi => by
    simpa using roOk_get hk.2 i C (by simpa using hi)
  | [], [], _, i, C, hi => by simp at hi
  | _ :: _, [], _, i, C, hi => by simp at hi
  | [], B' :: r', hk, 0, C, hi => by
    simp only [List.getElem?_cons_zero, Option.some.injEq] at hi
    subst hi
    rcases hk.1 with h | h
    · exact .inl h
    · exact .inr (.inl h)
  | [], B' :: r', hk, i + 1, C, hi => by
    have := roOk_get hk.2 i C (by simpa using hi)
    simpa using this

/-- The callee's blocks put back. -/
def mergeB : List Blk → List Nat → List Blk → List Blk
  | h, [], h' => h ++ h'
  | h, k :: κ, B :: h' => mergeB (updB h k B) κ h'
  | h, _ :: _, [] => h

def renH (ρ : Nat → Nat) : List Blk → List Blk
  | [] => []
  | B :: r => renB ρ B :: renH ρ r

theorem renH_get (ρ : Nat → Nat) : ∀ (h : List Blk) (i : Nat), (renH ρ h)[i]? = (h[i]?).map (renB ρ)
  | [], i => by simp [renH]
  | B :: r, 0 => by simp [renH]
  | B :: r, i + 1 => by simp [renH, renH_get ρ r i]

theorem length_renH (ρ : Nat → Nat) : ∀ h : List Blk, (renH ρ h).length = h.length
  | [] => rfl
  | _ :: r => by simp [renH, length_renH ρ r]

theorem look_ge : ∀ (κ : List Nat) (N i : Nat), κ.length ≤ i → lk κ N i = N + (i - κ.length)
  | [], N, i, _ => by simp [lk]
  | _ :: r, N, 0, h => by simp at h
  | _ :: r, N, i + 1, h => by simp [lk, look_ge r N i (by simpa using h)]

theorem look_lt : ∀ (κ : List Nat) (N i : Nat) (h : i < κ.length), lk κ N i = κ[i]
  | [], N, i, h => by simp at h
  | _ :: r, N, 0, h => by simp [lk]
  | _ :: r, N, i + 1, h => by simp [lk, look_lt r N i (by simpa using h)]

theorem mergeB_length : ∀ (h : List Blk) (κ : List Nat) (h' : List Blk), κ.length ≤ h'.length → (mergeB h κ h').length = h.length + (h'.length - κ.length)
  | h, [], h', _ => by simp [mergeB]
  | h, k :: κ, B :: h', hl => by
    have := mergeB_length (updB h k B) κ h' (by simpa using hl)
    rw [updB_eq, List.length_set] at this
    simp only [mergeB, updB_eq, this, List.length_cons]
    omega
  | h, _ :: _, [], hl => by simp at hl

/-- What stands at a number of the larger heap. -/
theorem mergeB_get : ∀ (h : List Blk) (κ : List Nat) (h' : List Blk), κ.Nodup → (∀ k ∈ κ, k < h.length) → κ.length ≤ h'.length → ∀ (j : Nat) (B : Blk), (mergeB h κ h')[j]? = some B →
    (j < h.length ∧ j ∉ κ ∧ h[j]? = some B) ∨ ∃ i, lk κ h.length i = j ∧ h'[i]? = some B
  | h, [], h', _, _, _, j, B, hj => by
    simp only [mergeB] at hj
    rcases Nat.lt_or_ge j h.length with h1 | h1
    · rw [List.getElem?_append_left h1] at hj
      exact .inl ⟨h1, by simp, hj⟩
    · rw [List.getElem?_append_right h1] at hj
      exact .inr ⟨j - h.length, by simp [lk]; omega, hj⟩
  | h, k :: κ, B' :: h', hnd, hlt, hl, j, B, hj => by
    simp only [mergeB, updB_eq] at hj
    rw [List.nodup_cons] at hnd
    have ih := mergeB_get (h.set k B') κ h' hnd.2 (fun x hx => by rw [List.length_set]; exact hlt x (List.mem_cons_of_mem _ hx)) (by simpa using hl) j B hj
    rw [List.length_set] at ih
    rcases ih with ⟨h1, h2, h3⟩ | ⟨i, h1, h2⟩
    · by_cases hjk : j = k
      · subst hjk
        rw [List.getElem?_set_self h1] at h3
        exact .inr ⟨0, by simp [lk], by simpa using h3⟩
      · rw [List.getElem?_set_ne (Ne.symm hjk)] at h3
        exact .inl ⟨h1, by simp [hjk, h2], h3⟩
    · exact .inr ⟨i + 1, by simpa [lk] using h1, by simpa using h2⟩
  | h, _ :: _, [], _, _, hl, _, _, _ => by simp at hl


/-- The callee's blocks, where they lie in the larger heap. -/
def subH (h : List Blk) : List Nat → List Blk → Prop
  | [], [] => True
  | k :: κ, B :: r => nthB h k = some B ∧ subH h κ r
  | _, _ => False

theorem subH_get {h : List Blk} : ∀ {κ : List Nat} {r : List Blk}, subH h κ r → κ.length = r.length ∧ ∀ (i : Nat) (B : Blk), r[i]? = some B → ∃ k, κ[i]? = some k ∧ h[k]? = some B
  | [], [], _ => ⟨rfl, fun i B hi => by simp at hi⟩
  | k :: κ, B :: r, hk => by
    obtain ⟨h1, h2⟩ := subH_get hk.2
    refine ⟨by simp [h1], fun i C hi => ?_⟩
    cases i with
    | zero =>
      simp only [List.getElem?_cons_zero, Option.some.injEq] at hi
      subst hi
      exact ⟨k, by simp, nthB_get hk.1⟩
    | succ i => simpa using h2 i C (by simpa using hi)
  | [], _ :: _, hk => hk.elim
  | _ :: _, [], hk => hk.elim

theorem lt_of_get {h : List Blk} {i : Nat} {B : Blk} (hi : h[i]? = some B) : i < h.length := by
  rcases Nat.lt_or_ge i h.length with h' | h'
  · exact h'
  · rw [List.getElem?_eq_none h'] at hi; cases hi

/-- **A call within a larger heap.** -/
theorem frame_core {args : List EV} {hc : List Blk} {Q : EV → List Blk → Prop} (κ : List Nat) {h : List Blk} (hnd : κ.Nodup) (hro : ∀ v h', Q v h' → roOk hc h')
    (hh : subH h κ (renH (lk κ h.length) hc)) {E : Emb} {w : World} {vs : List Value} (S : Sim E h w) (ha : denT E (renT (lk κ h.length) args) vs) :
    ∃ Ec, Sim Ec hc w ∧ (TabOk E h w → TabOk Ec hc w) ∧ denT Ec args vs ∧ ∀ e w', Post Ec hc w Q e w' → Post E h w (fun v h'' => ∃ v' h', Q v' h' ∧ v = renE (lk κ h.length) v' ∧ h'' = mergeB h κ (renH (lk κ h.length) h')) e w' := by
  obtain ⟨hl, hget⟩ := subH_get hh
  rw [length_renH] at hl
  let ρ := lk κ h.length
  let Ec : Emb := ⟨hc.length, fun i => E.f (ρ i)⟩
  have hκ : ∀ i, i < hc.length → ρ i ∈ κ ∧ ρ i < h.length := fun i hi => by
    have hi' : i < κ.length := by omega
    have : i < (renH ρ hc).length := by rw [length_renH]; exact hi
    obtain ⟨k, h1, h2⟩ := hget i _ (List.getElem?_eq_getElem this)
    have h3 : ρ i = k := by
      show lk κ h.length i = k
      rw [look_lt κ _ i hi']
      rw [List.getElem?_eq_getElem hi'] at h1
      exact Option.some.inj h1
    rw [h3]
    exact ⟨List.mem_of_getElem? h1, lt_of_get h2⟩
  have hblk : ∀ (i : Nat) (B : Blk), hc[i]? = some B → h[ρ i]? = some (renB ρ B) := fun i B hi => by
    obtain ⟨k, h1, h2⟩ := hget i (renB ρ B) (by rw [renH_get, hi]; rfl)
    have hi' : i < κ.length := by have := lt_of_get hi; omega
    have h3 : ρ i = k := by
      show lk κ h.length i = k
      rw [look_lt κ _ i hi']
      rw [List.getElem?_eq_getElem hi'] at h1
      exact Option.some.inj h1
    rw [h3]
    exact h2
  have hinj : ∀ i j, ρ i = ρ j → i = j := fun i j hij => by
    have hij' : lk κ h.length i = lk κ h.length j := hij
    rcases Nat.lt_or_ge i κ.length with h1 | h1 <;> rcases Nat.lt_or_ge j κ.length with h2 | h2
    · rw [look_lt κ _ i h1, look_lt κ _ j h2] at hij'
      have hp := List.pairwise_iff_getElem.1 hnd
      rcases Nat.lt_trichotomy i j with h3 | h3 | h3
      · exact absurd hij' (hp i j h1 h2 h3)
      · exact h3
      · exact absurd hij'.symm (hp j i h2 h1 h3)
    · have := (hκ i (by omega)).2
      rw [hij] at this
      have h3 : ρ j = h.length + (j - κ.length) := look_ge κ _ j h2
      omega
    · have := (hκ j (by omega)).2
      rw [← hij] at this
      have h3 : ρ i = h.length + (i - κ.length) := look_ge κ _ i h1
      omega
    · rw [look_ge κ _ i h1, look_ge κ _ j h2] at hij'
      omega
  have hfwd : ∀ b, ρ b < E.n → b < Ec.n := fun b hb => by
    rcases Nat.lt_or_ge b κ.length with h1 | h1
    · show b < hc.length; omega
    · have h3 : ρ b = h.length + (b - κ.length) := look_ge κ _ b h1
      have := S.n
      omega
  have hbwd : ∀ b, b < Ec.n → ρ b < E.n ∧ Ec.f b = E.f (ρ b) := fun b hb => ⟨by rw [S.n]; exact (hκ b hb).2, rfl⟩
  have Sc : Sim Ec hc w := by
    refine ⟨rfl, fun i B hi => ?_, fun i j A B hij hi hj hA b o hcv hcv' => ?_⟩
    · exact (okBlk_ren hfwd hbwd B).1 (S.ok _ _ (hblk i B hi))
    · exact S.dis (ρ i) (ρ j) _ _ (fun e => hij (hinj i j e)) (hblk i A hi) (hblk j B hj) (by rw [mut_ren]; exact hA) b o ((cov_ren _ A b o).2 hcv) ((cov_ren _ B b o).2 hcv')
  refine ⟨Ec, Sc, fun Z => Z.sub fun b o ⟨i, B, h1, h2, h3⟩ => ⟨ρ i, renB ρ B, hblk i B h1, by rw [mut_ren]; exact h2, (cov_ren _ B b o).2 h3⟩, (denT_ren hfwd hbwd args _).1 ha, ?_⟩
  rintro e w' ⟨v, x, h', E', rfl, hd, S', N', hq⟩
  have hroq := hro _ _ hq
  have hlen : hc.length ≤ h'.length := N'.len
  let E1 : Emb := ⟨h.length + (h'.length - hc.length), fun j => if j < h.length then E.f j else E'.f (hc.length + (j - h.length))⟩
  have hfwd1 : ∀ b, ρ b < E1.n → b < E'.n := fun b hb => by
    rw [S'.n]
    rcases Nat.lt_or_ge b κ.length with h1 | h1
    · omega
    · have h3 : ρ b = h.length + (b - κ.length) := look_ge κ _ b h1
      have : ρ b < h.length + (h'.length - hc.length) := hb
      omega
  have hbwd1 : ∀ b, b < E'.n → ρ b < E1.n ∧ E'.f b = E1.f (ρ b) := fun b hb => by
    rw [S'.n] at hb
    rcases Nat.lt_or_ge b κ.length with h1 | h1
    · have h2 := (hκ b (by omega)).2
      refine ⟨Nat.lt_of_lt_of_le h2 (Nat.le_add_right _ _), ?_⟩
      have h3 : E'.f b = Ec.f b := N'.same b (by show b < hc.length; omega)
      have h4 : E1.f (ρ b) = E.f (ρ b) := if_pos h2
      rw [h3, h4]
    · have h3 : ρ b = h.length + (b - κ.length) := look_ge κ _ b h1
      refine ⟨by rw [h3]; show _ < h.length + (h'.length - hc.length); omega, ?_⟩
      have h4 : E1.f (ρ b) = E'.f (hc.length + (ρ b - h.length)) := if_neg (by omega)
      rw [h4, h3]
      congr 1
      omega
  have leE : E.le E1 := ⟨by rw [S.n]; exact Nat.le_add_right _ _, fun i hi => if_pos (by rw [← S.n]; exact hi)⟩
  have hml : ∀ b o, mutAt Ec hc b o → ∃ i B, i ∈ κ ∧ h[i]? = some B ∧ B.mut = true ∧ cov (E.f i) B b o := fun b o ⟨i, B, h1, h2, h3⟩ =>
    ⟨ρ i, renB ρ B, (hκ i (lt_of_get h1)).1, hblk i B h1, by rw [mut_ren]; exact h2, (cov_ren _ B b o).2 h3⟩
  have hm2 : ∀ b o, mutAt Ec hc b o → mutAt E h b o := fun b o hm => by
    obtain ⟨i, B, _, h1, h2, h3⟩ := hml b o hm
    exact ⟨i, B, h1, h2, h3⟩
  -- what stands at a number
  have hcase : ∀ (j : Nat) (B : Blk), (mergeB h κ (renH ρ h'))[j]? = some B → (j < h.length ∧ j ∉ κ ∧ h[j]? = some B ∧ E1.f j = E.f j) ∨ ∃ i B', ρ i = j ∧ h'[i]? = some B' ∧ B = renB ρ B' ∧ E1.f j = E'.f i := fun j B hj => by
    rcases mergeB_get h κ (renH ρ h') hnd (fun k hk => by
      obtain ⟨i, hi⟩ := List.getElem?_of_mem hk
      have hi1 : i < κ.length := by
        rcases Nat.lt_or_ge i κ.length with h' | h'
        · exact h'
        · rw [List.getElem?_eq_none h'] at hi; cases hi
      have := (hκ i (by omega)).2
      have h3 : ρ i = k := by
        show lk κ h.length i = k
        rw [look_lt κ _ i hi1]
        rw [List.getElem?_eq_getElem hi1] at hi
        exact Option.some.inj hi
      rwa [h3] at this) (by rw [length_renH]; omega) j B hj with ⟨h1, h2, h3⟩ | ⟨i, h1, h2⟩
    · exact .inl ⟨h1, h2, h3, if_pos h1⟩
    · rw [renH_get] at h2
      cases hq : h'[i]? with
      | none => rw [hq] at h2; cases h2
      | some B' =>
        rw [hq] at h2
        simp only [Option.map_some, Option.some.injEq] at h2
        refine .inr ⟨i, B', h1, hq, h2.symm, ?_⟩
        have h1' : ρ i = j := h1
        rw [← h1', (hbwd1 i (by rw [S'.n]; exact lt_of_get hq)).2]
  -- an old block outside the call's is as it was
  have hout : ∀ (j : Nat) (B : Blk), j ∉ κ → h[j]? = some B → ∀ b o, cov (E.f j) B b o → ¬ mutAt Ec hc b o := fun j B hjk hj b o hcv hm => by
    obtain ⟨i, A, h1, h2, h3, h4⟩ := hml b o hm
    exact S.dis i j A B (fun e => hjk (e ▸ h1)) h2 hj h3 b o h4 hcv
  have S1 : Sim E1 (mergeB h κ (renH ρ h')) w' := by
    refine ⟨?_, fun j B hj => ?_, fun i j A B hij hi hj hA b o hcv hcv' => ?_⟩
    · rw [mergeB_length h κ _ (by rw [length_renH]; omega), length_renH, hl]
    · rcases hcase j B hj with ⟨h1, h2, h3, h4⟩ | ⟨i, B', h1, h2, rfl, h4⟩
      · rw [h4]
        have hk := S.ok j B h3
        have hno := hout j B h2 h3
        have cel : ∀ (m : Bool) (cs : List Seg) (sp : Nat), okCells E w (E.f j) m cs sp → (∀ b o, b = (E.f j).1 ∧ (E.f j).2 ≤ o ∧ o < (E.f j).2 + (sizeS cs + sp) → ¬ mutAt Ec hc b o) → okCells E1 w' (E.f j) m cs sp := by
          intro m cs sp hk hno
          obtain ⟨k1, ⟨l, k2, k3⟩, k4⟩ := hk
          have hb' : ∀ x, x < sizeS cs + sp → (E.f j).1 < w.heap.size := fun x hx => by
            rcases k1 with k1 | k1
            · exact k1
            · omega
          refine ⟨?_, ⟨l, denS_mono leE cs l k2, fun x v hx => ?_⟩, fun hm x hx => ?_⟩
          · rcases k1 with k1 | k1
            · exact .inl (Nat.lt_of_lt_of_le k1 N'.size)
            · exact .inr k1
          · have hx' : x < sizeS cs := by
              rw [← denS_length k2]
              rcases Nat.lt_or_ge x l.length with h' | h'
              · exact h'
              · rw [List.getElem?_eq_none h'] at hx; cases hx
            rw [(N'.cells _ _ (hb' x (by omega)) (hno _ _ ⟨rfl, by omega, by omega⟩)).1]
            exact k3 x v hx
          · obtain ⟨q1, q2⟩ := k4 hm x hx
            rw [(N'.cells _ _ (hb' x hx) (hno _ _ ⟨rfl, by omega, by omega⟩)).1]
            exact ⟨q1, N'.rows _ (hb' x hx) q2⟩
        cases B with
        | cells m cs sp => exact cel m cs sp hk hno
        | recs m n z f sp => exact ⟨hk.1, cel m _ sp hk.2 hno⟩
        | map es =>
          obtain ⟨l, c', k1, k2⟩ := hk
          have hlt : (E.f j).1 < w.heap.size := S.cov_lt h3 (b := (E.f j).1) (o := 0) rfl
          exact ⟨l, c', by rw [N'.frame _ hlt (fun o => hno _ o rfl)]; exact k1, denM_mono leE es _ k2⟩
        | dead => trivial
      · rw [h4]
        exact (okBlk_ren hfwd1 hbwd1 B').2 (S'.ok i B' h2)
    · rcases hcase i A hi with ⟨a1, a2, a3, a4⟩ | ⟨i', A', a1, a2, rfl, a4⟩ <;> rcases hcase j B hj with ⟨b1, b2, b3, b4⟩ | ⟨j', B', b1, b2, rfl, b4⟩
      · rw [a4] at hcv
        rw [b4] at hcv'
        exact S.dis i j A B hij a3 b3 hA b o hcv hcv'
      · rw [a4] at hcv
        rw [b4, cov_ren] at hcv'
        have hlt := S.cov_lt a3 hcv
        rcases roOk_get hroq j' B' b2 with hm | rfl | hsame
        · exact hout i A a2 a3 b o hcv (N'.new b o ⟨j', B', b2, hm, hcv'⟩ hlt)
        · exact hcv'
        · have h5 : E'.f j' = Ec.f j' := N'.same j' (lt_of_get hsame)
          rw [h5] at hcv'
          exact S.dis i (ρ j') A _ (fun e => a2 (by rw [e]; exact (hκ j' (lt_of_get hsame)).1)) a3 (hblk j' B' hsame) hA b o hcv ((cov_ren _ B' b o).2 hcv')
      · rw [a4, cov_ren] at hcv
        rw [b4] at hcv'
        rw [mut_ren] at hA
        have hlt := S.cov_lt b3 hcv'
        exact hout j B b2 b3 b o hcv' (N'.new b o ⟨i', A', a2, hA, hcv⟩ hlt)
      · rw [a4, cov_ren] at hcv
        rw [b4, cov_ren] at hcv'
        rw [mut_ren] at hA
        exact S'.dis i' j' A' B' (fun e => hij (by rw [← a1, ← b1, e])) a2 b2 hA b o hcv hcv'
  have N1 : Since E h w E1 (mergeB h κ (renH ρ h')) w' := by
    refine ⟨?_, fun i hi => if_pos (by rw [← S.n]; exact hi), N'.size, fun b hb hm => N'.frame b hb (fun o ho => hm o (hm2 b o ho)), fun b o hb hm => N'.cells b o hb (fun ho => hm (hm2 b o ho)), fun b o hm hb => ?_, N'.os, N'.tape, N'.output, N'.rows⟩
    · rw [mergeB_length h κ _ (by rw [length_renH]; omega)]
      exact Nat.le_add_right _ _
    · obtain ⟨j, B, hj, hB, hcv⟩ := hm
      rcases hcase j B hj with ⟨h1, h2, h3, h4⟩ | ⟨i, B', h1, h2, rfl, h4⟩
      · rw [h4] at hcv
        exact ⟨j, B, h3, hB, hcv⟩
      · rw [h4, cov_ren] at hcv
        rw [mut_ren] at hB
        exact hm2 b o (N'.new b o ⟨i, B', h2, hB, hcv⟩ hb)
  exact ⟨v, renE ρ x, mergeB h κ (renH ρ h'), E1, rfl, (denE_ren hfwd1 hbwd1 x v).2 hd, S1, N1, x, h', hq, rfl, rfl⟩

theorem Does.frame {T : Tbl} {f : FuncId} {args : List EV} {hc : List Blk} {Q : EV → List Blk → Prop} (c : Does T f args hc Q) (κ : List Nat) {h : List Blk} (hnd : κ.Nodup) (hro : ∀ v h', Q v h' → roOk hc h')
    (hh : subH h κ (renH (lk κ h.length) hc)) : Does T f (renT (lk κ h.length) args) h (fun v h'' => ∃ v' h', Q v' h' ∧ v = renE (lk κ h.length) v' ∧ h'' = mergeB h κ (renH (lk κ h.length) h')) := by
  refine ⟨?_⟩
  rcases c.go with ⟨h1, h2⟩ | h1
  · refine .inl ⟨h1, fun E w vs S Z ha => ?_⟩
    obtain ⟨Ec, k1, kz, k2, k3⟩ := frame_core κ hnd hro hh S ha
    exact (h2 Ec w vs k1 (kz Z) k2).mono k3
  · refine .inr fun E w vs S ha => ?_
    obtain ⟨Ec, k1, _, k2, k3⟩ := frame_core κ hnd hro hh S ha
    obtain ⟨u, w', h2, h3⟩ := h1 Ec w vs k1 k2
    exact ⟨u, w', h2, k3 _ _ h3⟩

/-! ### for the walker -/

def forceB (B : Blk) (k : Blk → Prop) : Prop :=
  match B with
  | .cells m cs sp => forceS cs fun cs => k (.cells m cs sp)
  | .recs m n z f sp => k (.recs m n z f sp)
  | .map es => k (.map es)
  | .dead => k .dead

def forceH (l : List Blk) : (List Blk → Prop) → Prop :=
  List.rec (motive := fun _ => (List Blk → Prop) → Prop) (fun k => k []) (fun B _ ih k => forceB B fun B => ih fun r => k (B :: r)) l

theorem forceB_eq (B : Blk) (k : Blk → Prop) : forceB B k = k B := by cases B <;> simp only [forceB, forceS_eq]
theorem forceH_eq : ∀ (h : List Blk) (k : List Blk → Prop), forceH h k = k h
  | [], _ => rfl
  | B :: r, k => by
    show (forceB B fun B => forceH r fun r => k (B :: r)) = _
    rw [forceB_eq, forceH_eq r]

/-- **A call by its contract, shown of a small heap.** -/
theorem Does.at {T : Tbl} {f : FuncId} {args : List EV} {hc : List Blk} {Q : EV → List Blk → Prop} (c : Does T f args hc Q) (κ : List Nat) {args' : List EV} {h : List Blk} {K : EV → List Blk → Prop}
    (ha : args' = renT (lk κ h.length) args) (hh : subH h κ (renH (lk κ h.length) hc)) (hnd : κ.Nodup) (hro : ∀ v h', Q v h' → roOk hc h')
    (hK : ∀ v' h', Q v' h' → forceH (mergeB h κ (renH (lk κ h.length) h')) fun h2 => forceE (renE (lk κ h.length) v') fun v => K v h2) : Does T f args' h K := by
  rw [ha]
  refine (c.frame κ hnd hro hh).mono ?_
  rintro v h'' ⟨v', h', hq, rfl, rfl⟩
  have := hK v' h' hq
  rwa [forceH_eq, forceE_eq] at this

end Go.Anv

/- The engine, part 12: states with fewer blocks and other numbers: at a loop's head, at a function's end. Plain theorems; their condition: the blocks that were there at the begin keep their numbers. -/
namespace Go.Anv
open Go

def idK : Nat → Nat → List Nat → Prop
  | _, 0, _ => True
  | k, n + 1, x :: r => x = k ∧ idK (k + 1) n r
  | _, _ + 1, [] => False

theorem idK_get : ∀ {n k : Nat} {κ : List Nat}, idK k n κ → ∀ i, i < n → κ[i]? = some (k + i)
  | 0, _, _, _, i, hi => by omega
  | n + 1, k, x :: r, h, 0, _ => by simp [h.1]
  | n + 1, k, x :: r, h, i + 1, hi => by
    have := idK_get h.2 i (by omega)
    simp only [List.getElem?_cons_succ, this, Option.some.injEq]
    omega
  | n + 1, k, [], h, _, _ => h.elim

/-- Blocks of a small world, by their numbers, stand for others. -/
def subQ (h : List Blk) : List Nat → List Blk → Prop
  | [], [] => True
  | k :: κ, B :: r => (∃ A, nthB h k = some A ∧ eqvB A B) ∧ subQ h κ r
  | _, _ => False

theorem subQ_get {h : List Blk} : ∀ {κ : List Nat} {r : List Blk}, subQ h κ r → κ.length = r.length ∧ ∀ (i : Nat) (B : Blk), r[i]? = some B → ∃ k A, κ[i]? = some k ∧ h[k]? = some A ∧ eqvB A B
  | [], [], _ => ⟨rfl, fun i B hi => by simp at hi⟩
  | k :: κ, B :: r, hk => by
    obtain ⟨h1, h2⟩ := subQ_get hk.2
    refine ⟨by simp [h1], fun i C hi => ?_⟩
    cases i with
    | zero =>
      simp only [List.getElem?_cons_zero, Option.some.injEq] at hi
      subst hi
      obtain ⟨A, h3, h4⟩ := hk.1
      exact ⟨k, A, by simp, nthB_get h3, h4⟩
    | succ i => simpa using h2 i C (by simpa using hi)
  | [], _ :: _, hk => hk.elim
  | _ :: _, [], hk => hk.elim

/-- One small world tells no more than another, with other numbers. -/
theorem Sim.renum {E : Emb} {h H : List Blk} {w : World} (S : Sim E h w) {κ : List Nat} (hnd : κ.Nodup) (hh : subQ h κ (renH (lk κ h.length) H)) :
    Sim ⟨H.length, fun i => E.f (lk κ h.length i)⟩ H w ∧ (∀ b, lk κ h.length b < E.n → b < H.length) ∧ (∀ b, b < H.length → lk κ h.length b < E.n) ∧
      (∀ b o, mutAt ⟨H.length, fun i => E.f (lk κ h.length i)⟩ H b o → mutAt E h b o) := by
  obtain ⟨hl, hget⟩ := subQ_get hh
  rw [length_renH] at hl
  have hblk : ∀ (i : Nat) (B : Blk), H[i]? = some B → ∃ A, h[lk κ h.length i]? = some A ∧ eqvB A (renB (lk κ h.length) B) := fun i B hi => by
    obtain ⟨k, A, h1, h2, h3⟩ := hget i (renB (lk κ h.length) B) (by rw [renH_get, hi]; rfl)
    have hi' : i < κ.length := by have := lt_of_get hi; omega
    have h4 : lk κ h.length i = k := by
      rw [look_lt κ _ i hi']
      rw [List.getElem?_eq_getElem hi'] at h1
      exact Option.some.inj h1
    exact ⟨A, by rw [h4]; exact h2, h3⟩
  have hκ : ∀ i, i < H.length → lk κ h.length i < h.length := fun i hi => by
    obtain ⟨A, h1, _⟩ := hblk i _ (List.getElem?_eq_getElem hi)
    exact lt_of_get h1
  have hinj : ∀ i j, lk κ h.length i = lk κ h.length j → i = j := fun i j hij => by
    rcases Nat.lt_or_ge i κ.length with h1 | h1 <;> rcases Nat.lt_or_ge j κ.length with h2 | h2
    · rw [look_lt κ _ i h1, look_lt κ _ j h2] at hij
      have hp := List.pairwise_iff_getElem.1 hnd
      rcases Nat.lt_trichotomy i j with h3 | h3 | h3
      · exact absurd hij (hp i j h1 h2 h3)
      · exact h3
      · exact absurd hij.symm (hp j i h2 h1 h3)
    · have := hκ i (by omega)
      rw [hij, look_ge κ _ j h2] at this
      omega
    · have := hκ j (by omega)
      rw [← hij, look_ge κ _ i h1] at this
      omega
    · rw [look_ge κ _ i h1, look_ge κ _ j h2] at hij
      omega
  have hfwd : ∀ b, lk κ h.length b < E.n → b < H.length := fun b hb => by
    rcases Nat.lt_or_ge b κ.length with h1 | h1
    · omega
    · rw [look_ge κ _ b h1, S.n] at hb
      omega
  have hbwd : ∀ b, b < H.length → lk κ h.length b < E.n ∧ E.f (lk κ h.length b) = E.f (lk κ h.length b) := fun b hb => ⟨by rw [S.n]; exact hκ b hb, rfl⟩
  refine ⟨⟨rfl, fun i B hi => ?_, fun i j A B hij hi hj hA b o hcv hcv' => ?_⟩, hfwd, fun b hb => (hbwd b hb).1, fun b o hm => ?_⟩
  · obtain ⟨A, h1, h2⟩ := hblk i B hi
    exact (okBlk_ren (E := ⟨H.length, fun i => E.f (lk κ h.length i)⟩) hfwd hbwd B).1 (eqvB_ok h2 (S.ok _ _ h1))
  · obtain ⟨A', h1, h2⟩ := hblk i A hi
    obtain ⟨B', h3, h4⟩ := hblk j B hj
    refine S.dis (lk κ h.length i) (lk κ h.length j) A' B' (fun e => hij (hinj i j e)) h1 h3 ?_ b o ?_ ?_
    · rw [(eqvB_cov (p := E.f (lk κ h.length i)) h2 b o).2, mut_ren]; exact hA
    · exact (eqvB_cov h2 b o).1.2 ((cov_ren _ A b o).2 hcv)
    · exact (eqvB_cov h4 b o).1.2 ((cov_ren _ B b o).2 hcv')
  · obtain ⟨i, B, hi, hB, hcv⟩ := hm
    obtain ⟨A', h1, h2⟩ := hblk i B hi
    exact ⟨_, A', h1, by rw [(eqvB_cov (p := E.f (lk κ h.length i)) h2 b o).2, mut_ren]; exact hB, (eqvB_cov h2 b o).1.2 ((cov_ren _ B b o).2 hcv)⟩

theorem Since.renum {E0 E : Emb} {h0 h H : List Blk} {w0 w : World} (n0 : E0.n = h0.length) (S : Sim E h w) (N : Since E0 h0 w0 E h w) {κ : List Nat} (hnd : κ.Nodup) (hid : idK 0 E0.n κ) (hh : subQ h κ (renH (lk κ h.length) H)) :
    Since E0 h0 w0 ⟨H.length, fun i => E.f (lk κ h.length i)⟩ H w := by
  obtain ⟨S', h1, h2, h3⟩ := S.renum hnd hh
  have hκ : ∀ i, i < E0.n → lk κ h.length i = i := fun i hi => by
    have h4 := idK_get hid i hi
    have h5 : i < κ.length := by
      rcases Nat.lt_or_ge i κ.length with h' | h'
      · exact h'
      · rw [List.getElem?_eq_none h'] at h4; cases h4
    rw [look_lt κ _ i h5]
    rw [List.getElem?_eq_getElem h5] at h4
    simpa using h4
  refine ⟨?_, fun i hi => ?_, N.size, N.frame, N.cells, fun b o hm hb => N.new b o (h3 b o hm) hb, N.os, N.tape, N.output, N.rows⟩
  · rw [← n0]
    rcases Nat.eq_zero_or_pos E0.n with h4 | h4
    · rw [h4]; exact Nat.zero_le _
    · have := h1 (E0.n - 1) (by
        rw [hκ _ (by omega)]
        have := N.len
        rw [S.n]
        omega)
      omega
  · show E.f (lk κ h.length i) = E0.f i
    rw [hκ i hi]
    exact N.same i hi

/-- One state tells no more than another, with other numbers; the first n blocks keep theirs. -/
structure leR (n : Nat) (κ : List Nat) (s t : St) : Prop where
  nd : κ.Nodup
  id : idK 0 n κ
  tmps : eqvT s.tmps (renT (lk κ s.heap.length) t.tmps)
  heap : subQ s.heap κ (renH (lk κ s.heap.length) t.heap)

theorem length_renT (ρ : Nat → Nat) : ∀ l : List EV, (renT ρ l).length = l.length
  | [] => rfl
  | _ :: r => by simp [renT, length_renT ρ r]

theorem nth_renT (ρ : Nat → Nat) : ∀ (l : List EV) (i : Nat), nth (renT ρ l) i = renE ρ (nth l i)
  | [], _ => by simp [renT, nth, renE]
  | _ :: _, 0 => by simp [renT, nth]
  | _ :: r, i + 1 => by simp only [renT, nth]; exact nth_renT ρ r i

theorem Rel.renum {O : Org} (on : O.E.n = O.h.length) {E : Emb} {s t : St} {a : Act} {w : World} (R : Rel O E s a w) {κ : List Nat} (h : leR O.E.n κ s t) : ∃ E', Rel O E' t a w := by
  obtain ⟨S', h1, h2, h3⟩ := R.sim.renum h.nd h.heap
  refine ⟨⟨t.heap.length, fun i => E.f (lk κ s.heap.length i)⟩, ⟨?_, fun i v hi => ?_⟩, R.df, S', R.sin.renum on R.sim h.nd h.id h.heap⟩
  · rw [R.fr.1, (eqvT_nth (E := E) h.tmps).1, length_renT]
  · have := (eqvT_nth (E := E) h.tmps).2 i v (R.fr.2 i v hi)
    rw [nth_renT] at this
    exact (denE_ren (E := ⟨t.heap.length, fun i => E.f (lk κ s.heap.length i)⟩) h1 (fun b hb => ⟨h2 b hb, rfl⟩) _ _).1 this

/-! ### loops -/

def roundR {A : Type} (n : Nat) (c : Code) (s : St) (C : A → List (Nat × EV)) (H : A → List Blk) (I : A → Prop) (μ : A → Nat) (x : A) (K : Exit → St → Prop) : Exit → St → Prop
  | .normal, s' => ∃ y, I y ∧ μ y < μ x ∧ ∃ κ, headK c s (C y) (H y) fun t => leR n κ s' t
  | e, s' => K e s'

/-- **A loop, by what its slots and the heap hold at each round's head; a round may leave blocks behind that are no longer looked at.** -/
theorem loop_in {T : Tbl} {O : Org} {A : Type} {c : Code} {s : St} {K : Exit → St → Prop} (on : O.E.n = O.h.length) (C : A → List (Nat × EV)) (H : A → List Blk) (I : A → Prop) (μ : A → Nat) (x0 : A) (h0 : I x0)
    (κ0 : List Nat) (hs : headK c s (C x0) (H x0) fun t => leR O.E.n κ0 s t)
    (round : ∀ x, I x → headK c s (C x) (H x) fun t => wpx T O c t (roundR O.E.n c s C H I μ x K)) : LoopG T O c s K := by
  intro E a w R
  rw [headK_eq] at hs
  obtain ⟨E, R⟩ := R.renum on hs
  refine wp_loop_ghost (fun n a w => ∃ E x, I x ∧ Rel O E ⟨laterT (C x) (forgetT (writes c) s.tmps), H x⟩ a w ∧ μ x = n) (μ x0) ⟨E, x0, h0, R, rfl⟩ ?_
  rintro n a w ⟨E, x, hI, R, rfl⟩
  have h := round x hI
  rw [headK_eq] at h
  refine Code.wp_mono ?_ (wpx_snd on c h R)
  rintro e a' w' ⟨E', s', hk, R'⟩
  cases e <;> first
    | (obtain ⟨y, h1, h2, κ, h3⟩ := hk
       rw [headK_eq] at h3
       obtain ⟨E'', R''⟩ := R'.renum on h3
       exact ⟨μ y, h2, E'', y, h1, R'', rfl⟩)
    | exact ⟨E', s', hk, R'⟩

/-- A nil slice is a growing one without elements: ahead of a loop that appends. -/
theorem loop_nil {T : Tbl} {O : Org} (on : O.E.n = O.h.length) {c : Code} {s : St} {K : Exit → St → Prop} (d : Nat) (k : IntKind) (f : Nat → Int) (hd : nth s.tmps d = .s .nilslice)
    (hk : pushBK s.heap 0 (.cells true [.ints k 0 f] 0) fun N h => updK s.tmps d (.s (.gs N 0 0 0)) fun ts => LoopG T O c ⟨ts, h⟩ K) : LoopG T O c s K := by
  intro E a w R
  rw [pushBK_eq, updK_eq, Nat.zero_add] at hk
  obtain ⟨S', N'⟩ := push_nil R.sim (cs := [.ints k 0 f]) ⟨[], rfl, rfl⟩
  refine hk _ a w ⟨⟨?_, fun i v hi => ?_⟩, R.df, S', R.sin.trans on R.sim.n N'⟩
  · rw [length_upd]; exact R.fr.1
  · have h1 := R.fr.2 i v hi
    rw [nth_upd]
    split
    · rename_i hc
      obtain ⟨rfl, _⟩ := hc
      rw [hd] at h1
      simp only [denE, denV] at h1 ⊢
      rw [← R.sim.n, Emb.push_new]
      exact ⟨by simp [Emb.push], fun _ => ⟨trivial, trivial⟩, by simpa using h1⟩
    · exact denE_mono (N'.le R.sim.n S'.n) _ _ h1

/-! ### a function's end -/

/-- What a function leaves, with fewer blocks and other numbers. -/
def Ends (n : Nat) (Q : EV → List Blk → Prop) (v : EV) (h : List Blk) : Prop :=
  ∃ V H κ, Q V H ∧ κ.Nodup ∧ idK 0 n κ ∧ eqvE v (renE (lk κ h.length) V) ∧ subQ h κ (renH (lk κ h.length) H)

/-- **A function whose body is walked over a small heap.** -/
theorem fnX_does (T : Tbl) {f : FuncId} {F : Func} (hF : T.P.funcs[f]? = some F) (hb : F.body.isNone = false) (hname : (F.name == "runtime.NumGoroutine") = false) {args : List EV} {h : List Blk} {Q : EV → List Blk → Prop}
    (hX : ∀ O : Org, O.E.n = O.h.length → O.E.n = h.length → fnX T O F args h (Ends h.length Q)) : Does T f args h Q := by
  refine ⟨.inl ⟨⟨F, hF, hb, hname⟩, fun E w vs S Z ha => ?_⟩⟩
  have c := fnX_call T hF (args := args) (h := h) (Q := Ends h.length Q) (fun E w Z S => hX _ S.n S.n) E w vs S Z ha
  refine c.mono ?_
  rintro e w' ⟨v, x, h', E', rfl, hd, S', N', V, H, κ, hq, hnd, hid, hv, hh⟩
  obtain ⟨S'', h1, h2, h3⟩ := S'.renum hnd hh
  refine ⟨v, V, H, _, rfl, ?_, S'', N'.renum S.n S' hnd (by rw [S.n]; exact hid) hh, hq⟩
  exact (denE_ren (E := ⟨H.length, fun i => E'.f (lk κ h'.length i)⟩) h1 (fun b hb => ⟨h2 b hb, rfl⟩) _ _).1 (eqvE_den _ _ _ hv hd)


/-- No block of a small world may be written. -/
def roAll : List Blk → Prop
  | [] => True
  | B :: r => B.mut = false ∧ roAll r

theorem roAll_get : ∀ {h : List Blk}, roAll h → ∀ (i : Nat) (B : Blk), h[i]? = some B → B.mut = false
  | B :: r, hr, 0, C, hi => by simp only [List.getElem?_cons_zero, Option.some.injEq] at hi; subst hi; exact hr.1
  | B :: r, hr, i + 1, C, hi => roAll_get hr.2 i C (by simpa using hi)
  | [], _, i, C, hi => by simp at hi

/-- **A call over memory that may not be written: what was there is as it was.** -/
theorem Does.below {T : Tbl} {f : FuncId} {args : List EV} {h : List Blk} {Q : EV → List Blk → Prop} (d : Does T f args h Q) (hf : isFn T f) {E : Emb} {w : World} {vs : Array Value} (S : Sim E h w) (ha : denT E args vs.toList) (hr : roAll h) (Z : TabOk E h w := by exact fun _ _ P h => absurd (show (none : Option (Value → Prop)) = some P from h) nofun) :
    Calls T.P f vs w fun e w' => (∃ v x h' E', e = .returned v ∧ denE E' x v ∧ Q x h') ∧ RowKit.Below w.heap.size w w' := by
  rcases d.go with ⟨_, c⟩ | c
  · refine (c E w vs S Z ha).mono ?_
    rintro e w' ⟨v, x, h', E', h1, h2, _, N, h5⟩
    refine ⟨⟨v, x, h', E', h1, h2, h5⟩, N.os, N.tape, N.output, N.size, fun k hk => N.frame k hk (fun o hm => ?_)⟩
    obtain ⟨i, B, hi, hB, _⟩ := hm
    rw [roAll_get hr i B hi] at hB
    cases hB
  · obtain ⟨F, hF, hb, hname⟩ := hf
    obtain ⟨u, w', hr, _⟩ := c E w vs S ha
    have : (callFunc f vs).run T.P w = .ok (.enter f vs) w := by
      simp only [callFunc, Sem.run_bind, Result.andThen_ok, run_program, hF]
      simp [hb]
      intro hh
      simp [hh] at hname
    rw [this] at hr
    cases hr

end Go.Anv
