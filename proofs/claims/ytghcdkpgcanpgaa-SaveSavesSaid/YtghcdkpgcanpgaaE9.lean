/- The engine, part 9: a region that draws its order. What yields its value whatever comes first is taken first; all orders of the rest. Plain theorems; their condition: no panic is let through. -/
import Derived.Test.YtghcdkpgcanpgaaE8
namespace Go.Anv
open Go

/-! ### values that are told -/

mutual
def detV : SV → Bool
  | .junk => false
  | .func _ a c => detL a && detL c
  | .iface _ _ cs => detL cs
  | _ => true
def detL : List SV → Bool
  | [] => true
  | v :: r => detV v && detL r
end

def detS : List Seg → Bool
  | [] => true
  | .one v :: r => detV v && detS r
  | .ints .. :: r => detS r

mutual
def detE : EV → Bool
  | .s v => detV v
  | .agg cs => detS cs
  | .tuple vs => detT vs
  | .gd _ v => detE v
  | .junk => false
def detT : List EV → Bool
  | [] => true
  | v :: r => detE v && detT r
end

mutual
theorem detV_eq {E : Emb} : ∀ (e : SV) (u v : Value), detV e = true → denV E e u → denV E e v → u = v
  | .junk, _, _, hd, _, _ => by simp [detV] at hd
  | .int .., _, _, _, h, k => by simp only [denV] at h k; rw [h, k]
  | .bool _, _, _, _, h, k => by simp only [denV] at h k; rw [h, k]
  | .str _, _, _, _, h, k => by simp only [denV] at h k; rw [h, k]
  | .ptr .., _, _, _, h, k => by simp only [denV] at h k; rw [h.2, k.2]
  | .pix .., _, _, _, h, k => by simp only [denV] at h k; rw [h.2, k.2]
  | .nilptr, _, _, _, h, k => by simp only [denV] at h k; rw [h, k]
  | .slice .., _, _, _, h, k => by simp only [denV] at h k; rw [h.2, k.2]
  | .nilslice, _, _, _, h, k => by simp only [denV] at h k; rw [h, k]
  | .gs .., _, _, _, h, k => by simp only [denV] at h k; rw [h.2.2, k.2.2]
  | .map _, _, _, _, h, k => by simp only [denV] at h k; rw [h.2, k.2]
  | .nilmap, _, _, _, h, k => by simp only [denV] at h k; rw [h, k]
  | .func fn a c, _, _, hd, h, k => by
    simp only [detV, Bool.and_eq_true] at hd
    simp only [denV] at h k
    obtain ⟨f1, c1, rfl, h1, h2⟩ := h
    obtain ⟨f2, c2, rfl, k1, k2⟩ := k
    rw [Array.toList_inj.1 (detL_eq a _ _ hd.1 h1 k1), Array.toList_inj.1 (detL_eq c _ _ hd.2 h2 k2)]
  | .nilfunc, _, _, _, h, k => by simp only [denV] at h k; rw [h, k]
  | .iface t true cs, _, _, hd, h, k => by
    simp only [detV] at hd
    simp only [denV] at h k
    obtain ⟨l, rfl, h1⟩ := h
    obtain ⟨m, rfl, k1⟩ := k
    rw [Array.toList_inj.1 (detL_eq cs _ _ hd h1 k1)]
  | .iface t false cs, _, _, hd, h, k => by
    simp only [detV] at hd
    simp only [denV] at h k
    obtain ⟨l, rfl, h1⟩ := h
    obtain ⟨m, rfl, k1⟩ := k
    have := detL_eq cs _ _ hd h1 k1
    simp only [List.cons.injEq, and_true] at this
    rw [this]
  | .niliface, _, _, _, h, k => by simp only [denV] at h k; rw [h, k]
theorem detL_eq {E : Emb} : ∀ (l : List SV) (u v : List Value), detL l = true → denL E l u → denL E l v → u = v
  | [], _, _, _, h, k => by simp only [denL] at h k; rw [h, k]
  | e :: r, _, _, hd, h, k => by
    simp only [detL, Bool.and_eq_true] at hd
    simp only [denL] at h k
    obtain ⟨v, l, rfl, h1, h2⟩ := h
    obtain ⟨v', l', rfl, k1, k2⟩ := k
    rw [detV_eq e _ _ hd.1 h1 k1, detL_eq r _ _ hd.2 h2 k2]
end

theorem detS_eq {E : Emb} : ∀ (l : List Seg) (u v : List Value), detS l = true → denS E l u → denS E l v → u = v
  | [], _, _, _, h, k => by simp only [denS] at h k; rw [h, k]
  | .one e :: r, _, _, hd, h, k => by
    simp only [detS, Bool.and_eq_true] at hd
    simp only [denS] at h k
    obtain ⟨v, l, rfl, h1, h2⟩ := h
    obtain ⟨v', l', rfl, k1, k2⟩ := k
    rw [detV_eq e _ _ hd.1 h1 k1, detS_eq r _ _ hd.2 h2 k2]
  | .ints q n f :: r, _, _, hd, h, k => by
    simp only [detS] at hd
    simp only [denS] at h k
    obtain ⟨l, rfl, h2⟩ := h
    obtain ⟨l', rfl, k2⟩ := k
    rw [detS_eq r _ _ hd h2 k2]

mutual
theorem detE_eq {E : Emb} : ∀ (e : EV) (u v : Value), detE e = true → denE E e u → denE E e v → u = v
  | .s x, u, v, hd, h, k => by simp only [detE] at hd; simp only [denE] at h k; exact detV_eq x u v hd h k
  | .agg cs, u, v, hd, h, k => by
    simp only [detE] at hd
    simp only [denE] at h k
    obtain ⟨l, rfl, h1⟩ := h
    obtain ⟨m, rfl, k1⟩ := k
    rw [Array.toList_inj.1 (detS_eq cs _ _ hd h1 k1)]
  | .tuple vs, u, v, hd, h, k => by
    simp only [detE] at hd
    simp only [denE] at h k
    obtain ⟨l, rfl, h1⟩ := h
    obtain ⟨m, rfl, k1⟩ := k
    rw [Array.toList_inj.1 (detT_eq vs _ _ hd h1 k1)]
  | .gd g x, u, v, hd, h, k => by
    simp only [detE] at hd
    simp only [denE] at h k
    cases g with
    | true => exact detE_eq x u v hd (h.1 rfl) (k.1 rfl)
    | false => rw [h.2 rfl, k.2 rfl]
  | .junk, _, _, hd, _, _ => by simp [detE] at hd
theorem detT_eq {E : Emb} : ∀ (l : List EV) (u v : List Value), detT l = true → denT E l u → denT E l v → u = v
  | [], _, _, _, h, k => by simp only [denT] at h k; rw [h, k]
  | e :: r, _, _, hd, h, k => by
    simp only [detT, Bool.and_eq_true] at hd
    simp only [denT] at h k
    obtain ⟨v, l, rfl, h1, h2⟩ := h
    obtain ⟨v', l', rfl, k1, k2⟩ := k
    rw [detE_eq e _ _ hd.1 h1 k1, detT_eq r _ _ hd.2 h2 k2]
end

/-! ### the small world of the region's begin, seen from later -/

mutual
theorem denV_back {E E' : Emb} (h : E.le E') : ∀ (e : SV) (u v : Value), denV E e u → denV E' e v → denV E e v
  | .junk, _, _, _, k => k
  | .int .., _, _, _, k => k
  | .bool _, _, _, _, k => k
  | .str _, _, _, _, k => k
  | .ptr b o, _, _, g, k => by simp only [denV] at g k ⊢; exact ⟨g.1, by rw [k.2, Emb.le_at h g.1]⟩
  | .pix b o i, _, _, g, k => by simp only [denV] at g k ⊢; exact ⟨g.1, by rw [k.2, Emb.le_at h g.1]⟩
  | .nilptr, _, _, _, k => k
  | .slice .., _, _, g, k => by simp only [denV] at g k ⊢; exact ⟨g.1, by rw [k.2, Emb.le_at h g.1.1]⟩
  | .nilslice, _, _, _, k => k
  | .gs .., _, _, g, k => by simp only [denV] at g k ⊢; exact ⟨g.1, g.2.1, by rw [k.2.2, Emb.le_at h g.1, h.2 _ g.1]⟩
  | .map b, _, _, g, k => by simp only [denV] at g k ⊢; exact ⟨g.1, by rw [k.2, h.2 b g.1]⟩
  | .nilmap, _, _, _, k => k
  | .func fn a c, _, _, g, k => by
    simp only [denV] at g k ⊢
    obtain ⟨f1, c1, _, h1, h2⟩ := g
    obtain ⟨f2, c2, rfl, k1, k2⟩ := k
    exact ⟨f2, c2, rfl, denL_back h a _ _ h1 k1, denL_back h c _ _ h2 k2⟩
  | .nilfunc, _, _, _, k => k
  | .iface t true cs, _, _, g, k => by
    simp only [denV] at g k ⊢
    obtain ⟨l, _, h1⟩ := g
    obtain ⟨m, rfl, k1⟩ := k
    exact ⟨m, rfl, denL_back h cs _ _ h1 k1⟩
  | .iface t false cs, _, _, g, k => by
    simp only [denV] at g k ⊢
    obtain ⟨l, _, h1⟩ := g
    obtain ⟨m, rfl, k1⟩ := k
    exact ⟨m, rfl, denL_back h cs _ _ h1 k1⟩
  | .niliface, _, _, _, k => k
theorem denL_back {E E' : Emb} (h : E.le E') : ∀ (l : List SV) (u v : List Value), denL E l u → denL E' l v → denL E l v
  | [], _, _, _, k => k
  | e :: r, _, _, g, k => by
    simp only [denL] at g k ⊢
    obtain ⟨v, l, _, h1, h2⟩ := g
    obtain ⟨v', l', rfl, k1, k2⟩ := k
    exact ⟨v', l', rfl, denV_back h e _ _ h1 k1, denL_back h r _ _ h2 k2⟩
end

theorem denS_back {E E' : Emb} (h : E.le E') : ∀ (l : List Seg) (u v : List Value), denS E l u → denS E' l v → denS E l v
  | [], _, _, _, k => k
  | .one e :: r, _, _, g, k => by
    simp only [denS] at g k ⊢
    obtain ⟨v, l, _, h1, h2⟩ := g
    obtain ⟨v', l', rfl, k1, k2⟩ := k
    exact ⟨v', l', rfl, denV_back h e _ _ h1 k1, denS_back h r _ _ h2 k2⟩
  | .ints q n f :: r, _, _, g, k => by
    simp only [denS] at g k ⊢
    obtain ⟨l, _, h2⟩ := g
    obtain ⟨l', rfl, k2⟩ := k
    exact ⟨l', rfl, denS_back h r _ _ h2 k2⟩

theorem denM_back {E E' : Emb} (h : E.le E') : ∀ (l : List (SV × List Seg)) (u v : List MapEntry), denM E l u → denM E' l v → denM E l v
  | [], _, _, _, k => k
  | (q, cs) :: r, _, _, g, k => by
    simp only [denM] at g k ⊢
    obtain ⟨e, l, _, h1, h2, h3⟩ := g
    obtain ⟨e', l', rfl, k1, k2, k3⟩ := k
    exact ⟨e', l', rfl, denV_back h q _ _ h1 k1, denS_back h cs _ _ h2 k2, denM_back h r _ _ h3 k3⟩

theorem okBlk_back {E E' : Emb} (h : E.le E') {w w' : World} {p : Loc} {B : Blk} (g : okBlk E w p B) (k : okBlk E' w' p B) : okBlk E w' p B := by
  cases B with
  | cells m cs sp =>
    obtain ⟨_, ⟨l, h2, _⟩, _⟩ := g
    obtain ⟨k1, ⟨l', k2, k3⟩, k4⟩ := k
    exact ⟨k1, ⟨l', denS_back h cs _ _ h2 k2, k3⟩, k4⟩
  | map es =>
    obtain ⟨l, c, _, h2⟩ := g
    obtain ⟨l', c', k1, k2⟩ := k
    exact ⟨l', c', k1, denM_back h es _ _ h2 k2⟩
  | dead => trivial

theorem okBlk_mono {E E' : Emb} (h : E.le E') {w : World} {p : Loc} {B : Blk} (k : okBlk E w p B) : okBlk E' w p B := by
  cases B with
  | cells m cs sp =>
    obtain ⟨k1, ⟨l', k2, k3⟩, k4⟩ := k
    exact ⟨k1, ⟨l', denS_mono h cs _ k2, k3⟩, k4⟩
  | map es =>
    obtain ⟨l', c', k1, k2⟩ := k
    exact ⟨l', c', k1, denM_mono h es _ k2⟩
  | dead => trivial

/-- A later small world that begins as an earlier one: the earlier one still lies there. -/
theorem Sim.restrict {E E' : Emb} {h h' : List Blk} {w w' : World} (S : Sim E h w) (le : E.le E') (S' : Sim E' h' w') (hp : ∀ (i : Nat) (B : Blk), h[i]? = some B → B = .dead ∨ h'[i]? = some B) : Sim E h w' := by
  refine ⟨S.n, fun i B hi => ?_, S.dis⟩
  have hlt : i < E.n := by
    rw [S.n]
    rcases Nat.lt_or_ge i h.length with h1 | h1
    · exact h1
    · simp [List.getElem?_eq_none h1] at hi
  rcases hp i B hi with rfl | hp
  · trivial
  have := S'.ok i B hp
  rw [le.2 i hlt] at this
  exact okBlk_back le (S.ok i B hi) this

/-- An earlier small world, seen with the later one's numbers. -/
theorem Sim.weak {E E' : Emb} {h : List Blk} {w : World} (S : Sim E h w) (le : E.le E') : Sim E' (h ++ List.replicate (E'.n - h.length) .dead) w := by
  have hsplit : ∀ (i : Nat) (B : Blk), (h ++ List.replicate (E'.n - h.length) Blk.dead)[i]? = some B → h[i]? = some B ∨ B = Blk.dead := fun i B hi => by
    rcases Nat.lt_or_ge i h.length with h1 | h1
    · rw [List.getElem?_append_left h1] at hi
      exact .inl hi
    · rw [List.getElem?_append_right h1, List.getElem?_replicate] at hi
      split at hi
      · simp only [Option.some.injEq] at hi; exact .inr hi.symm
      · cases hi
  have hlt : ∀ {i B}, h[i]? = some B → i < E.n := fun {i B} hi => by
    rw [S.n]
    rcases Nat.lt_or_ge i h.length with h1 | h1
    · exact h1
    · simp [List.getElem?_eq_none h1] at hi
  refine ⟨?_, fun i B hi => ?_, fun i j A B hij hi hj hA b o hc => ?_⟩
  · have := S.n
    have := le.1
    simp
    omega
  · rcases hsplit i B hi with h1 | rfl
    · rw [le.2 i (hlt h1)]
      exact okBlk_mono le (S.ok i B h1)
    · trivial
  · rcases hsplit i A hi with h1 | rfl
    · rcases hsplit j B hj with h2 | rfl
      · rw [le.2 i (hlt h1)] at hc
        rw [le.2 j (hlt h2)]
        exact S.dis i j A B hij h1 h2 hA b o hc
      · intro h3; exact h3
    · simp [Blk.mut] at hA

theorem nthB_app {h r : List Blk} {b : Nat} {B : Blk} (hb : nthB h b = some B) : nthB (h ++ r) b = some B := by
  induction h generalizing b with
  | nil => simp [nthB] at hb
  | cons x h ih =>
    cases b with
    | zero => simpa [nthB] using hb
    | succ b => simp only [nthB, List.cons_append] at hb ⊢; exact ih hb

theorem nthB_or (h r : List Blk) (b : Nat) : nthB h b = none ∨ nthB (h ++ r) b = nthB h b := by
  cases hb : nthB h b with
  | none => exact .inl rfl
  | some B => exact .inr (nthB_app hb)

theorem loadX_app (T : Tbl) (h r : List Blk) (t : TypeId) (x : EV) (hne : loadX T h t x ≠ .fail) : loadX T (h ++ r) t x = loadX T h t x := by
  cases hT : T.ty t with
  | none => simp [loadX, hT] at hne
  | some i =>
    cases x with
    | s v =>
      cases v with
      | ptr b o =>
        rcases nthB_or h r b with h0 | h0
        · simp [loadX, hT, h0] at hne
        · simp only [loadX, hT, h0]
      | pix b o j =>
        rcases nthB_or h r b with h0 | h0
        · simp [loadX, hT, h0] at hne
        · simp only [loadX, hT, h0]
      | _ => simp [loadX, hT] at hne
    | _ => simp [loadX, hT] at hne

theorem indexAddrX_app (T : Tbl) (h r : List Blk) (t : TypeId) (x i : EV) (hne : indexAddrX T h t x i ≠ .fail) : indexAddrX T (h ++ r) t x i = indexAddrX T h t x i := by
  cases hT : T.ty t with
  | none => simp [indexAddrX, hT] at hne
  | some ti =>
    obtain ⟨d, size, bytes, zero⟩ := ti
    cases x with
    | s v =>
      cases i with
      | s iv =>
        cases iv with
        | int k n =>
          cases d with
          | array m e =>
            cases v with
            | ptr b o =>
              rcases nthB_or h r b with h0 | h0
              · simp [indexAddrX, hT, h0] at hne
              · simp only [indexAddrX, hT, h0]
            | _ => simp [indexAddrX, hT] at hne
          | slice e =>
            cases v with
            | slice b o l c =>
              rcases nthB_or h r b with h0 | h0
              · simp [indexAddrX, hT, h0] at hne
              · simp only [indexAddrX, hT, h0]
            | gs b o l c =>
              rcases nthB_or h r b with h0 | h0
              · simp [indexAddrX, hT, h0] at hne
              · simp only [indexAddrX, hT, h0]
            | _ => simp [indexAddrX, hT] at hne
          | _ => simp [indexAddrX, hT] at hne
        | _ => simp [indexAddrX, hT] at hne
      | _ => simp [indexAddrX, hT] at hne
    | _ => simp [indexAddrX, hT] at hne

theorem rngAt_app (h r : List Blk) (size b o n : Nat) (hne : rngAt h size b o n ≠ none) : rngAt (h ++ r) size b o n = rngAt h size b o n := by
  rcases nthB_or h r b with h0 | h0
  · simp [rngAt, h0] at hne
  · unfold rngAt
    rw [h0]

theorem rngX_app (h r : List Blk) (size : Nat) (y : EV) (hne : rngX h size y ≠ none) : rngX (h ++ r) size y = rngX h size y := by
  cases y with
  | s v =>
    cases v with
    | slice b o n c => exact rngAt_app h r size b o n hne
    | gs b o n c => exact rngAt_app h r size b o n hne
    | _ => rfl
  | _ => rfl

theorem convX_app (T : Tbl) (h r : List Blk) (src dst : TypeId) (x : EV) (hne : convX T h src dst x ≠ .fail) : convX T (h ++ r) src dst x = convX T h src dst x := by
  by_cases h0 : rngX h 1 x = none
  · unfold convX at hne ⊢
    split at hne
    · simp only [*]
    · simp only [*] at hne ⊢
      split at hne
      · simp at hne
      · exact absurd rfl hne
    · exact absurd rfl hne
  · have := rngX_app h r 1 x h0
    unfold convX
    rw [this]

/-- What the walker computes of a small world it computes of a larger one too. -/
theorem px_app (T : Tbl) (h r : List Blk) (ev raw : Operand → EV) (op : Op) (hne : px T h ev raw op ≠ .fail) : px T (h ++ r) ev raw op = px T h ev raw op := by
  cases op with
  | indexAddr t x i => exact indexAddrX_app T h r t _ _ hne
  | load t x => exact loadX_app T h r t _ hne
  | convert src dst x => exact convX_app T h r src dst _ hne
  | call c =>
    obtain ⟨callee, args, tys⟩ := c
    cases callee with
    | builtin b => cases b <;> rfl
    | _ => rfl
  | _ => rfl

/-! ### which may come up -/

def bindsL : Ground → Bool
  | .textOnly _ => false
  | .gcOnly _ => false
  | _ => true

theorem bindsL_eq (e : Edge) : bindsL e.ground = Region.binds .any e := by
  unfold bindsL Region.binds
  cases e.ground <;> rfl

def getB : List Bool → Nat → Bool
  | [], _ => false
  | b :: _, 0 => b
  | _ :: r, n + 1 => getB r n

def setB : List Bool → Nat → List Bool
  | [], _ => []
  | _ :: r, 0 => true :: r
  | b :: r, n + 1 => b :: setB r n

def nthO : List Oper → Nat → Option Oper
  | [], _ => none
  | o :: _, 0 => some o
  | _ :: r, n + 1 => nthO r n

def waitB (l : List Bool) : List Edge → Bool
  | [] => true
  | e :: r => (!bindsL e.ground || getB l e.on) && waitB l r

def rdyGo (l0 : List Bool) : Nat → List Oper → List Bool → List Nat
  | _, [], _ => []
  | _, _, [] => []
  | i, o :: r, b :: l => match !b && waitB l0 o.after.toList with
    | true => i :: rdyGo l0 (i + 1) r l
    | false => rdyGo l0 (i + 1) r l

theorem getB_eq : ∀ (l : List Bool) (i : Nat), getB l i = l.toArray.getD i false
  | [], i => by simp [getB]
  | b :: r, 0 => by simp [getB]
  | b :: r, i + 1 => by simp [getB, getB_eq r i]

theorem nthO_eq : ∀ (l : List Oper) (i : Nat), nthO l i = l[i]?
  | [], _ => rfl
  | o :: r, 0 => rfl
  | o :: r, i + 1 => by simp [nthO, nthO_eq r i]

theorem setB_eq : ∀ (l : List Bool) (i : Nat), setB l i = l.set i true
  | [], _ => rfl
  | _ :: _, 0 => rfl
  | b :: r, i + 1 => by simp [setB, setB_eq r i]

theorem waitB_eq (l : List Bool) : ∀ (es : List Edge), waitB l es = es.all fun e => !Region.binds .any e || l.toArray.getD e.on false
  | [] => rfl
  | e :: r => by simp only [waitB, List.all_cons, waitB_eq l r, bindsL_eq, getB_eq]

theorem rdyGo_eq (l0 : List Bool) : ∀ (ops : List Oper) (i : Nat) (l : List Bool), l.length = ops.length →
    rdyGo l0 i ops l = ((List.range ops.length).filter fun j => !l.toArray.getD j true && ((ops[j]?).map (fun o => waitB l0 o.after.toList)).getD false).map (· + i)
  | [], i, l, _ => by cases l <;> simp [rdyGo]
  | o :: r, i, [], h => by simp at h
  | o :: r, i, b :: l, h => by
    have ih := rdyGo_eq l0 r (i + 1) l (by simpa using h)
    simp only [rdyGo, List.length_cons, List.range_succ_eq_map, List.filter_cons, List.filter_map]
    have hmap : ∀ (p : Nat → Bool) (xs : List Nat), (List.filter p xs).map (· + (i + 1)) = ((List.filter p xs).map Nat.succ).map (· + i) := fun p xs => by
      rw [List.map_map]
      congr 1
      funext x
      simp only [Function.comp]
      omega
    rw [ih, hmap]
    have hcomp : ((fun j => !(b :: l).toArray.getD j true && (Option.map (fun o => waitB l0 o.after.toList) (o :: r)[j]?).getD false) ∘ Nat.succ) =
        (fun j => !l.toArray.getD j true && (Option.map (fun o => waitB l0 o.after.toList) r[j]?).getD false) := by
      funext j
      simp [Function.comp]
    rw [hcomp]
    simp only [List.getElem?_cons_zero, Option.map_some, Option.getD_some]
    have h0 : (b :: l).toArray.getD 0 true = b := by simp
    rw [h0]
    by_cases hw : (!b && waitB l0 o.after.toList) = true
    · simp only [hw, if_true, List.map_cons, Nat.zero_add]
    · rw [Bool.not_eq_true] at hw; simp only [hw, Bool.false_eq_true, if_false]

theorem rdy_eq (ops : Array Oper) (l : List Bool) (h : l.length = ops.size) : rdyGo l 0 ops.toList l = Region.ready .any ops l.toArray := by
  rw [rdyGo_eq l ops.toList 0 l (by simpa using h)]
  unfold Region.ready
  simp only [Nat.add_zero, List.map_id', Array.length_toList, Array.getElem?_toList]
  congr 1
  funext j
  cases ops[j]? with
  | none => rfl
  | some o => simp only [Option.map_some, Option.getD_some, waitB_eq, Array.all_toList]


/-! ### apart -/

def tmpsOf : List Operand → List Tmp
  | [] => []
  | .tmp t :: r => t :: tmpsOf r
  | _ :: r => tmpsOf r

theorem tmpsOf_eq : ∀ l : List Operand, tmpsOf l = l.filterMap fun | .tmp t => some t | _ => none
  | [] => rfl
  | .tmp t :: r => by simp [tmpsOf, tmpsOf_eq r]
  | .const _ :: r => by simp [tmpsOf, tmpsOf_eq r]
  | .global _ :: r => by simp [tmpsOf, tmpsOf_eq r]
  | .func _ :: r => by simp [tmpsOf, tmpsOf_eq r]

def looksL (ops : List Oper) (o : Oper) : List Tmp :=
  match o.guard with
  | none => tmpsOf o.op.operands.toList
  | some (g, _) => match nthO ops g with
    | none => tmpsOf o.op.operands.toList
    | some o' => match o'.dst with
      | none => tmpsOf o.op.operands.toList
      | some d => tmpsOf o.op.operands.toList ++ [d]

theorem looksL_eq (ops : Array Oper) (o : Oper) : looksL ops.toList o = o.looksAt ops := by
  unfold looksL Oper.looksAt
  rw [tmpsOf_eq]
  cases o.guard with
  | none => simp only [List.append_nil]; rfl
  | some p =>
    obtain ⟨g, b⟩ := p
    simp only [nthO_eq, Array.getElem?_toList]
    cases ops[g]? with
    | none => simp only [Option.bind_none, Option.toList_none, List.append_nil]; rfl
    | some o' =>
      cases h : o'.dst with
      | none => simp only [Option.bind_some, h, Option.toList_none, List.append_nil]; rfl
      | some d => simp only [Option.bind_some, h, Option.toList_some]; rfl

theorem beqN (a b : Nat) : Nat.beq a b = (a == b) := by
  by_cases h : a = b
  · subst h; simp
  · have h1 : Nat.beq a b = false := by
      cases hq : Nat.beq a b with
      | true => exact absurd (Nat.eq_of_beq_eq_true hq) h
      | false => rfl
    rw [h1]
    exact (beq_eq_false_iff_ne.2 h).symm

def inL (d : Nat) : List Nat → Bool
  | [] => false
  | x :: r => Nat.beq d x || inL d r

theorem inL_eq (d : Nat) : ∀ l : List Nat, inL d l = l.contains d
  | [] => rfl
  | x :: r => by simp only [inL, inL_eq d r, List.contains_cons, beqN]

def isD (d : Nat) : Option Nat → Bool
  | none => false
  | some x => Nat.beq d x

def apartL (ops : List Oper) (x y : Oper) : Bool :=
  (match x.dst with
   | some d => !(inL d (looksL ops y)) && !(isD d y.dst)
   | none => true) &&
  (match y.dst with
   | some d => !(inL d (looksL ops x))
   | none => true)

theorem apartL_eq (ops : Array Oper) (x y : Oper) : apartL ops.toList x y = x.apart ops y := by
  unfold apartL Oper.apart
  simp only [looksL_eq, inL_eq]
  have : ∀ d, (!(isD d y.dst)) = (y.dst != some d) := fun d => by
    cases hy : y.dst with
    | none => rfl
    | some e =>
      simp only [isD, beqN]
      by_cases h : d = e
      · subst h; simp
      · have h1 : (d == e) = false := beq_eq_false_iff_ne.2 h
        have h2 : (some e == some d) = false := by simp; exact fun h' => h h'.symm
        rw [h1]
        simp [bne, h2]
  simp only [this]
  cases x.dst <;> cases y.dst <;> rfl

def waitsOn (i : Nat) : List Edge → Bool
  | [] => false
  | e :: r => (bindsL e.ground && Nat.beq e.on i) || waitsOn i r

theorem waitsOn_eq (i : Nat) : ∀ l : List Edge, waitsOn i l = l.any fun e => Region.binds .any e && e.on == i
  | [] => rfl
  | e :: r => by simp only [waitsOn, List.any_cons, waitsOn_eq i r, bindsL_eq, beqN]

def freeGo (ops : List Oper) (i : Nat) (oi : Oper) : Nat → List Oper → List Bool → Bool
  | _, [], _ => true
  | _, _ :: _, [] => false
  | j, oj :: r, b :: l => (Nat.beq j i || b || waitsOn i oj.after.toList || apartL ops oi oj) && freeGo ops i oi (j + 1) r l

theorem freeGo_spec {ops : List Oper} {i : Nat} {oi : Oper} : ∀ {r : List Oper} {j : Nat} {l : List Bool}, freeGo ops i oi j r l = true → ∀ k ok, r[k]? = some ok →
    ((j + k == i) || l.toArray.getD k true || ok.after.any (fun e => Region.binds .any e && e.on == i) || apartL ops oi ok) = true
  | [], _, _, _, k, ok, hk => by simp at hk
  | o :: r, j, [], h, _, _, _ => by simp [freeGo] at h
  | o :: r, j, b :: l, h, 0, ok, hk => by
    simp only [List.getElem?_cons_zero, Option.some.injEq] at hk
    subst hk
    simp only [freeGo, Bool.and_eq_true, waitsOn_eq, Array.any_toList] at h
    simpa using h.1
  | o :: r, j, b :: l, h, k + 1, ok, hk => by
    simp only [freeGo, Bool.and_eq_true] at h
    have := freeGo_spec (j := j + 1) h.2 k ok (by simpa using hk)
    rw [show j + 1 + k = j + (k + 1) by omega] at this
    simpa using this

theorem free_of {ops : Array Oper} {i : Nat} {oi : Oper} {l : List Bool} (hi : ops[i]? = some oi) (h : freeGo ops.toList i oi 0 ops.toList l = true) : Region.free .any ops l.toArray i = true := by
  unfold Region.free
  simp only [hi, List.all_eq_true, List.mem_range]
  intro j hj
  have hg : ops[j]? = some ops[j] := Array.getElem?_eq_getElem hj
  have := freeGo_spec h j ops[j] (by simp)
  rw [hg]
  simp only [apartL_eq, Nat.zero_add] at this
  simpa [Bool.or_assoc] using this

def noSel : List Oper → Bool
  | [] => true
  | o :: r => match o.op with
    | .select .. => false
    | _ => noSel r

theorem noSel_eq {ops : Array Oper} (h : noSel ops.toList = true) : Region.noSelect ops = true := by
  have : ∀ l : List Oper, noSel l = true → ∀ o ∈ l, (match o.op with | .select .. => false | _ => true) = true := fun l => by
    induction l with
    | nil => intro _ o ho; cases ho
    | cons x r ih =>
      intro h o ho
      simp only [noSel] at h
      rcases List.mem_cons.1 ho with rfl | ho
      · split at h
        · cases h
        · rfl
      · split at h
        · cases h
        · exact ih h o ho
  unfold Region.noSelect
  rw [Array.all_eq_true_iff_forall_mem]
  intro o ho
  exact this _ h o (by simpa using ho)

end Go.Anv
