/- The engine, part 4: the operations without an effect do what the walker says. Plain theorems; their conditions are the table's own facts. -/
import Derived.Test.YtghcdkpgcanpgaaE3
import Derived.Laws.LoneSync
import Derived.Deep.AppendSrc
import Derived.Laws.BytesString
import Derived.Laws.StructEq
namespace Go.Anv
open Go

/-- What a small answer says of a piece of the machine. -/
def PR.snd (E : Emb) (P : Program) (w : World) (m : Sem Value) : PR → Prop
  | .fail => True
  | .ok v => ∃ z, m.run P w = .ok z w ∧ denE E v z
  | .need p v => p → ∃ z, m.run P w = .ok z w ∧ denE E v z

theorem sameK_eq {k k' : IntKind} (h : sameK k k' = true) : k = k' := by
  cases k <;> cases k' <;> first | rfl | (exact absurd h (by decide))

theorem sameK_refl (k : IntKind) : sameK k k = true := by cases k <;> rfl

theorem wrap_bit (op : BinOp) (k : IntKind) (a b : Int) (P : Program) (w : World) (h : op = .and ∨ op = .or ∨ op = .xor ∨ op = .andNot) :
    (Op.intBits op k a b).run P w = .ok (.int k (bitX op k a b)) w := by
  rcases h with rfl | rfl | rfl | rfl <;> rfl

theorem intX_snd (E : Emb) (P : Program) (w : World) (op : BinOp) (hs : op ≠ .shl) (hr : op ≠ .shr) (t : TypeId) (k : IntKind) (a b : Int) :
    (intX op k a b).snd E P w (binOp op t (.int k a) (.int k b)) := by
  cases op <;> simp only [intX, PR.snd] <;> first
    | trivial
    | exact absurd rfl hs
    | exact absurd rfl hr
    | (refine ⟨_, ?_, rfl⟩; simp [binOp, Op.intArith, Op.intCmp, Op.intBits, bitX]; done)
    | (intro hb; refine ⟨_, ?_, rfl⟩; simp [binOp, Op.intDiv, hb]; done)
    | skip


theorem eqSeg_cells {E : Emb} : ∀ {a b : List Seg} {l m : List Value} {r : Bool}, denS E a l → denS E b m → eqSeg a b = some r → eqCells l m = some r
  | [], b, l, m, r, h1, h2, h => by
    cases b with
    | nil => simp only [denS] at h1 h2; subst h1; subst h2; exact h
    | cons x y => simp [eqSeg] at h
  | .one x :: a, b, l, m, r, h1, h2, h => by
    cases b with
    | nil => cases x <;> simp [eqSeg] at h
    | cons y b =>
      cases y with
      | ints k n f => cases x <;> simp [eqSeg] at h
      | one y =>
        simp only [denS] at h1 h2
        obtain ⟨u, l', rfl, hu, h3⟩ := h1
        obtain ⟨v, m', rfl, hv, h4⟩ := h2
        cases x with
        | int k p =>
          cases y with
          | int k' q =>
            simp only [denV] at hu hv
            subst hu; subst hv
            simp only [eqSeg] at h
            simp only [eqCells]
            split at h
            · rename_i hk
              rw [if_pos hk]
              simp only [Option.map_eq_some_iff] at h ⊢
              obtain ⟨c, hc, rfl⟩ := h
              exact ⟨c, eqSeg_cells h3 h4 hc, rfl⟩
            · cases h
          | _ => simp [eqSeg] at h
        | bool p =>
          cases y with
          | bool q =>
            simp only [denV] at hu hv
            subst hu; subst hv
            simp only [eqSeg] at h
            simp only [eqCells]
            simp only [Option.map_eq_some_iff] at h ⊢
            obtain ⟨c, hc, rfl⟩ := h
            exact ⟨c, eqSeg_cells h3 h4 hc, rfl⟩
          | _ => simp [eqSeg] at h
        | _ => cases y <;> simp [eqSeg] at h
  | .ints k n f :: a, b, l, m, r, h1, h2, h => by
    cases b with
    | nil => simp [eqSeg] at h
    | cons y b =>
      cases y with
      | one y => simp [eqSeg] at h
      | ints k' n' g =>
        simp only [denS] at h1 h2
        obtain ⟨l', rfl, h3⟩ := h1
        obtain ⟨m', rfl, h4⟩ := h2
        simp only [eqSeg] at h
        split at h
        · rename_i hk
          simp only [Bool.and_eq_true, beq_iff_eq] at hk
          obtain ⟨hk, rfl⟩ := hk
          have hk := sameK_eq hk
          subst hk
          simp only [Option.map_eq_some_iff] at h
          obtain ⟨c, hc, rfl⟩ := h
          have ih := eqSeg_cells h3 h4 hc
          have key : ∀ (js : List Nat), eqCells ((js.map fun j => Value.int k (f j)) ++ l') ((js.map fun j => Value.int k (g j)) ++ m') = some ((js.all fun j => f j == g j) && c) := fun js => by
            induction js with
            | nil => simpa using ih
            | cons j js ihj =>
              simp only [List.map_cons, List.cons_append, eqCells, sameK_refl, if_true, ihj, List.all_cons, Option.map_some, Bool.and_assoc]
          exact key _
        · cases h

theorem run_equal {P : Program} {w : World} {t : TypeId} {x y : Value} {b : Bool} (h : ∀ d, (Op.equalIn (d + 1) t x y).run P w = .ok b w) : (Op.equal t x y).run P w = .ok b w := h 9999

theorem run_eql {P : Program} {w : World} {t : TypeId} {x y : Value} {b : Bool} (h : (Op.equal t x y).run P w = .ok b w)
    (hi : ∀ k n, x ≠ .int k n) (hf : ∀ k n, x ≠ .float k n) (hc : ∀ k n m, x ≠ .complex k n m) (hs : ∀ s, x ≠ .string s) : (binOp .eql t x y).run P w = .ok (.bool b) w := by
  cases x <;> first
    | exact absurd rfl (hi _ _)
    | exact absurd rfl (hf _ _)
    | exact absurd rfl (hc _ _ _)
    | exact absurd rfl (hs _)
    | (simp only [binOp]; simp [h])

theorem run_neq {P : Program} {w : World} {t : TypeId} {x y : Value} {b : Bool} (h : (Op.equal t x y).run P w = .ok b w)
    (hi : ∀ k n, x ≠ .int k n) (hf : ∀ k n, x ≠ .float k n) (hc : ∀ k n m, x ≠ .complex k n m) (hs : ∀ s, x ≠ .string s) : (binOp .neq t x y).run P w = .ok (.bool (!b)) w := by
  cases x <;> first
    | exact absurd rfl (hi _ _)
    | exact absurd rfl (hf _ _)
    | exact absurd rfl (hc _ _ _)
    | exact absurd rfl (hs _)
    | (simp only [binOp]; simp [h])

theorem fitS_den {E : Emb} : ∀ {ks : List KS} {cs : List Seg} {l : List Value}, denS E cs l → fitS ks cs = true → fitV ks l
  | [], [], _, h, _ => h
  | .int k :: r, .one x :: s, l, h, hf => by
    cases x with
    | int k' a =>
      simp only [fitS, Bool.and_eq_true] at hf
      have := sameK_eq hf.1
      subst this
      simp only [denS, denV] at h
      obtain ⟨v, l', rfl, rfl, h⟩ := h
      exact ⟨a, l', rfl, fitS_den h hf.2⟩
    | _ => simp [fitS] at hf
  | .bool :: r, .one x :: s, l, h, hf => by
    cases x with
    | bool b =>
      simp only [fitS] at hf
      simp only [denS, denV] at h
      obtain ⟨v, l', rfl, rfl, h⟩ := h
      exact ⟨b, l', rfl, fitS_den h hf⟩
    | _ => simp [fitS] at hf
  | .arr k n :: r, .ints k' m f :: s, l, h, hf => by
    simp only [fitS, Bool.and_eq_true] at hf
    have := sameK_eq hf.1.1
    subst this
    have := Nat.eq_of_beq_eq_true hf.1.2
    subst this
    simp only [denS] at h
    obtain ⟨l', rfl, h⟩ := h
    exact ⟨f, l', rfl, fitS_den h hf.2⟩
  | [], _ :: _, _, _, hf => by simp [fitS] at hf
  | .int _ :: _, [], _, _, hf => by simp [fitS] at hf
  | .bool :: _, [], _, _, hf => by simp [fitS] at hf
  | .arr _ _ :: _, [], _, _, hf => by simp [fitS] at hf
  | .int _ :: _, .ints .. :: _, _, _, hf => by simp [fitS] at hf
  | .bool :: _, .ints .. :: _, _, _, hf => by simp [fitS] at hf
  | .arr _ _ :: _, .one _ :: _, _, _, hf => by simp [fitS] at hf

theorem cellsEq_of : ∀ {l m : List Value} {r : Bool}, eqCells l m = some r → cellsEq l m = r
  | [], [], r, h => by simpa [eqCells, cellsEq] using h
  | [], _ :: _, _, h => by simp [eqCells] at h
  | x :: l, [], _, h => by cases x <;> simp [eqCells] at h
  | x :: l, y :: m, r, h => by
    cases x with
    | int k a =>
      cases y with
      | int k' b =>
        simp only [eqCells] at h
        split at h
        · simp only [Option.map_eq_some_iff] at h
          obtain ⟨s, h1, h2⟩ := h
          simp only [cellsEq, cellsEq_of h1]
          exact h2
        · cases h
      | _ => simp [eqCells] at h
    | bool a =>
      cases y with
      | bool b =>
        simp only [eqCells, Option.map_eq_some_iff] at h
        obtain ⟨s, h1, h2⟩ := h
        simp only [cellsEq, cellsEq_of h1]
        exact h2
      | _ => simp [eqCells] at h
    | _ => cases y <;> simp [eqCells] at h

theorem binX_snd (T : Tbl) {E : Emb} (w : World) (op : BinOp) (t : TypeId) (ox oy : Operand) (x y : EV) (u v : Value) (hx : denE E x u) (hy : denE E y v) :
    (binX T op t x y).snd E T.P w (do eqGuard op t ox oy u v; binOp op t u v) := by
  unfold binX
  split
  · -- whole numbers
    rename_i k a k' b
    simp only [denE, denV] at hx hy
    subst hx; subst hy
    have hg : (eqGuard op t ox oy (Value.int k a) (Value.int k' b)) = pure () := eqGuard_at_int ..
    rw [hg]
    simp only [pure_bind]
    split
    · intro hb
      refine ⟨_, ?_, rfl⟩
      have : ¬ b < 0 := by omega
      simp [binOp, Op.shift, this]
    · intro hb
      refine ⟨_, ?_, rfl⟩
      have : ¬ b < 0 := by omega
      simp [binOp, Op.shift, this]
    · rename_i h1 h2
      split
      · rename_i hk
        have := sameK_eq hk
        subst this
        exact intX_snd E T.P w op (fun e => h1 e) (fun e => h2 e) t k a b
      · trivial
  · rename_i a b
    simp only [denE, denV] at hx hy
    subst hx; subst hy
    have hg : (eqGuard op t ox oy (Value.bool a) (Value.bool b)) = pure () := eqGuard_at_bool ..
    rw [hg]
    simp only [pure_bind]
    split
    · rename_i h
      have hd := (T.tyOk t _ h).desc
      simp only [descOk] at hd
      exact ⟨.bool (a == b), run_eql (b := (a == b)) (run_equal fun d => by simp [Op.equalIn, run_underlying hd]) (by intros; simp) (by intros; simp) (by intros; simp) (by intros; simp), rfl⟩
    · rename_i h
      have hd := (T.tyOk t _ h).desc
      simp only [descOk] at hd
      exact ⟨.bool (!(a == b)), run_neq (b := (a == b)) (run_equal fun d => by simp [Op.equalIn, run_underlying hd]) (by intros; simp) (by intros; simp) (by intros; simp) (by intros; simp), rfl⟩
    · trivial
  · rename_i a b
    simp only [denE, denV] at hx hy
    subst hx; subst hy
    have hg : (eqGuard op t ox oy (Value.string a) (Value.string b)) = pure () := eqGuard_at_string ..
    rw [hg]
    simp only [pure_bind]
    split
    · exact ⟨.bool (a == b), by rw [beq_toListBytes]; simp [binOp, Op.stringOp], rfl⟩
    · exact ⟨.bool (a != b), by rw [bne, beq_toListBytes]; simp [binOp, Op.stringOp], rfl⟩
    · intro hb
      have hb' : ¬ (9223372036854775807 < (a.size : Int) + (b.size : Int)) := by omega
      exact ⟨.string (a ++ b), by simp [binOp, Op.stringOp, hb'], rfl⟩
    · trivial
  · rename_i a b
    split
    · rename_i ks hks
      obtain ⟨hgt, n, hn, hpt⟩ := T.eqOk t ks hks
      simp only [denE] at hx hy
      obtain ⟨l, rfl, hl⟩ := hx
      obtain ⟨m, rfl, hm⟩ := hy
      have hg : (eqGuard op t ox oy (.agg l) (.agg m)).run T.P w = .ok () w := run_eqGuard_agg w op t ox oy l m hgt
      have heq : ∀ {r : Bool}, (fitS ks a && fitS ks b) = true → eqSeg a b = some r → (Op.equalIn 10000 t (.agg l) (.agg m)).run T.P w = .ok r w := fun {r} hf hr => by
        simp only [Bool.and_eq_true] at hf
        have h1 := fitS_den hl hf.1
        have h2 := fitS_den hm hf.2
        have h3 := PTn.eq n hpt h1 h2 10000 w hn
        rw [cellsEq_of (eqSeg_cells hl hm hr)] at h3
        exact h3
      split
      · rename_i hf hr
        exact ⟨_, by simp only [Sem.run_bind, hg, Result.andThen_ok]; rw [run_eql_struct, heq hf hr]; rfl, rfl⟩
      · rename_i hf hr
        exact ⟨_, by simp only [Sem.run_bind, hg, Result.andThen_ok]; rw [run_neq_struct, heq hf hr]; rfl, rfl⟩
      · trivial
    · trivial
  · simp only [denE, denV] at hx hy
    obtain ⟨_, rfl⟩ := hx
    subst hy
    have hg : ∀ a b, (eqGuard op t ox oy (Value.pointer a) (Value.pointer b)) = pure () := fun a b => eqGuard_at_pointer ..
    rw [hg]
    simp only [pure_bind]
    split
    · rename_i h
      have hd := (T.tyOk t _ h).desc
      simp only [descOk] at hd
      exact ⟨.bool false, run_eql (b := false) (run_equal fun d => by simp [Op.equalIn, run_underlying hd]) (by intros; simp) (by intros; simp) (by intros; simp) (by intros; simp), rfl⟩
    · rename_i h
      have hd := (T.tyOk t _ h).desc
      simp only [descOk] at hd
      exact ⟨.bool (!false), run_neq (b := false) (run_equal fun d => by simp [Op.equalIn, run_underlying hd]) (by intros; simp) (by intros; simp) (by intros; simp) (by intros; simp), rfl⟩
    · trivial
  · simp only [denE, denV] at hx hy
    subst hx; subst hy
    have hg : ∀ a b, (eqGuard op t ox oy (Value.pointer a) (Value.pointer b)) = pure () := fun a b => eqGuard_at_pointer ..
    rw [hg]
    simp only [pure_bind]
    split
    · rename_i h
      have hd := (T.tyOk t _ h).desc
      simp only [descOk] at hd
      exact ⟨.bool true, run_eql (b := true) (run_equal fun d => by simp [Op.equalIn, run_underlying hd]) (by intros; simp) (by intros; simp) (by intros; simp) (by intros; simp), rfl⟩
    · rename_i h
      have hd := (T.tyOk t _ h).desc
      simp only [descOk] at hd
      exact ⟨.bool (!true), run_neq (b := true) (run_equal fun d => by simp [Op.equalIn, run_underlying hd]) (by intros; simp) (by intros; simp) (by intros; simp) (by intros; simp), rfl⟩
    · trivial
  · simp only [denE, denV] at hx hy
    obtain ⟨_, rfl⟩ := hx
    subst hy
    have hg : ∀ a b c d, (eqGuard op t ox oy (Value.slice a b c) d) = pure () := fun a b c d => eqGuard_at_slice ..
    rw [hg]
    simp only [pure_bind]
    split
    · rename_i h
      have hd := (T.tyOk t _ h).desc
      simp only [descOk] at hd
      exact ⟨.bool false, run_eql (b := false) (run_equal fun d => by simp [Op.equalIn, run_underlying hd]) (by intros; simp) (by intros; simp) (by intros; simp) (by intros; simp), rfl⟩
    · rename_i h
      have hd := (T.tyOk t _ h).desc
      simp only [descOk] at hd
      exact ⟨.bool (!false), run_neq (b := false) (run_equal fun d => by simp [Op.equalIn, run_underlying hd]) (by intros; simp) (by intros; simp) (by intros; simp) (by intros; simp), rfl⟩
    · trivial
  · simp only [denE, denV] at hx hy
    subst hx; subst hy
    have hg : ∀ a b c d, (eqGuard op t ox oy (Value.slice a b c) d) = pure () := fun a b c d => eqGuard_at_slice ..
    rw [hg]
    simp only [pure_bind]
    split
    · rename_i h
      have hd := (T.tyOk t _ h).desc
      simp only [descOk] at hd
      exact ⟨.bool true, run_eql (b := true) (run_equal fun d => by simp [Op.equalIn, run_underlying hd]) (by intros; simp) (by intros; simp) (by intros; simp) (by intros; simp), rfl⟩
    · rename_i h
      have hd := (T.tyOk t _ h).desc
      simp only [descOk] at hd
      exact ⟨.bool (!true), run_neq (b := true) (run_equal fun d => by simp [Op.equalIn, run_underlying hd]) (by intros; simp) (by intros; simp) (by intros; simp) (by intros; simp), rfl⟩
    · trivial
  · simp only [denE, denV] at hx hy
    obtain ⟨f', c', rfl, _⟩ := hx
    subst hy
    have hg : ∀ a b c d, (eqGuard op t ox oy (Value.func a b c) d) = pure () := fun a b c d => by cases op <;> rfl
    rw [hg]
    simp only [pure_bind]
    split
    · rename_i h
      obtain ⟨ps, rs, vv, hd⟩ := (T.tyOk t _ h).desc
      exact ⟨.bool false, run_eql (b := false) (run_equal fun d => by simp [Op.equalIn, run_underlying hd]) (by intros; simp) (by intros; simp) (by intros; simp) (by intros; simp), rfl⟩
    · rename_i h
      obtain ⟨ps, rs, vv, hd⟩ := (T.tyOk t _ h).desc
      exact ⟨.bool (!false), run_neq (b := false) (run_equal fun d => by simp [Op.equalIn, run_underlying hd]) (by intros; simp) (by intros; simp) (by intros; simp) (by intros; simp), rfl⟩
    · trivial
  · simp only [denE, denV] at hx hy
    subst hx; subst hy
    have hg : ∀ d, (eqGuard op t ox oy Value.nilFunc d) = pure () := fun d => by cases op <;> rfl
    rw [hg]
    simp only [pure_bind]
    split
    · rename_i h
      obtain ⟨ps, rs, vv, hd⟩ := (T.tyOk t _ h).desc
      exact ⟨.bool true, run_eql (b := true) (run_equal fun d => by simp [Op.equalIn, run_underlying hd]) (by intros; simp) (by intros; simp) (by intros; simp) (by intros; simp), rfl⟩
    · rename_i h
      obtain ⟨ps, rs, vv, hd⟩ := (T.tyOk t _ h).desc
      exact ⟨.bool (!true), run_neq (b := true) (run_equal fun d => by simp [Op.equalIn, run_underlying hd]) (by intros; simp) (by intros; simp) (by intros; simp) (by intros; simp), rfl⟩
    · trivial
  · trivial

theorem binY_snd (T : Tbl) {E : Emb} (w : World) (op : BinOp) (t : TypeId) (ox oy : Operand) (x y : EV) (u v : Value) (hx : denE E x u) (hy : denE E y v) :
    (binY T (cnst ox || cnst oy) op t x y).snd E T.P w (do eqGuard op t ox oy u v; binOp op t u v) := by
  unfold binY
  split
  · rename_i t' ag cs
    have hu : ∃ z, u = .iface t' z := by
      cases ag <;> (simp only [denE, denV] at hx; obtain ⟨z, rfl, _⟩ := hx; exact ⟨_, rfl⟩)
    obtain ⟨z, rfl⟩ := hu
    simp only [denE, denV] at hy
    subst hy
    split
    · rename_i h
      have hd := (T.tyOk t _ h).desc
      simp only [descOk] at hd
      obtain ⟨ms, hd⟩ := hd
      refine ⟨.bool false, ?_, rfl⟩
      have hg : (eqGuard .eql t ox oy (.iface t' z) .nilIface).run T.P w = .ok () w := by simp [eqGuard]
      simp only [Sem.run_bind, hg, Result.andThen_ok]
      exact run_eql (b := false) (run_equal fun d => by simp [Op.equalIn, run_underlying hd]) (by intros; simp) (by intros; simp) (by intros; simp) (by intros; simp)
    · rename_i h
      have hd := (T.tyOk t _ h).desc
      simp only [descOk] at hd
      obtain ⟨ms, hd⟩ := hd
      refine ⟨.bool true, ?_, rfl⟩
      have hg : (eqGuard .neq t ox oy (.iface t' z) .nilIface).run T.P w = .ok () w := by simp [eqGuard]
      simp only [Sem.run_bind, hg, Result.andThen_ok]
      exact run_neq (b := false) (run_equal fun d => by simp [Op.equalIn, run_underlying hd]) (by intros; simp) (by intros; simp) (by intros; simp) (by intros; simp)
    · trivial
  · simp only [denE, denV] at hx hy
    subst hx hy
    have hgo : (cnst ox || cnst oy) = true → ∀ op, (eqGuard op t ox oy .nilIface .nilIface).run T.P w = .ok () w := fun hc op => by
      cases ox <;> cases oy <;> simp [cnst] at hc <;> (simp [eqGuard]; try (cases op <;> simp))
    split
    · rename_i h hc
      have hd := (T.tyOk t _ h).desc
      simp only [descOk] at hd
      obtain ⟨ms, hd⟩ := hd
      refine ⟨.bool true, ?_, rfl⟩
      simp only [Sem.run_bind, hgo hc, Result.andThen_ok]
      exact run_eql (b := true) (run_equal fun d => by simp [Op.equalIn, run_underlying hd]) (by intros; simp) (by intros; simp) (by intros; simp) (by intros; simp)
    · rename_i h hc
      have hd := (T.tyOk t _ h).desc
      simp only [descOk] at hd
      obtain ⟨ms, hd⟩ := hd
      refine ⟨.bool false, ?_, rfl⟩
      simp only [Sem.run_bind, hgo hc, Result.andThen_ok]
      exact run_neq (b := true) (run_equal fun d => by simp [Op.equalIn, run_underlying hd]) (by intros; simp) (by intros; simp) (by intros; simp) (by intros; simp)
    · trivial
  · exact binX_snd T w op t ox oy x y u v hx hy

theorem unX_snd {E : Emb} (P : Program) (w : World) (op : UnOp) (x : EV) (u : Value) (hx : denE E x u) : (unX op x).snd E P w (Op.unary op u) := by
  unfold unX
  split
  · simp only [denE, denV] at hx; subst hx; exact ⟨_, rfl, rfl⟩
  · simp only [denE, denV] at hx; subst hx; exact ⟨_, rfl, rfl⟩
  · simp only [denE, denV] at hx; subst hx; exact ⟨_, rfl, rfl⟩
  · trivial

theorem pickX_snd {E : Emb} (P : Program) (w : World) (t : Bool) (a b : EV) (u v : Value) (ha : denE E a u) (hb : denE E b v) (m : Sem Value) (hm : m = pure (if t then u else v)) : (pickX t a b).snd E P w m := by
  unfold pickX
  split
  · simp only [denE, denV] at ha hb; subst ha; subst hb; exact ⟨_, by rw [hm]; rfl, by cases t <;> rfl⟩
  · simp only [denE, denV] at ha hb
    intro h
    cases t
    · subst hb; exact ⟨_, by rw [hm]; rfl, rfl⟩
    · have := ha.1 (h rfl); subst this; exact ⟨_, by rw [hm]; rfl, rfl⟩
  · simp only [denE, denV] at ha hb
    intro h
    cases t
    · have := hb.1 (h rfl); subst this; exact ⟨_, by rw [hm]; rfl, rfl⟩
    · subst ha; exact ⟨_, by rw [hm]; rfl, rfl⟩
  · split
    · rename_i hk
      have := sameK_eq hk
      subst this
      simp only [denE, denV] at ha hb; subst ha; subst hb; exact ⟨_, by rw [hm]; rfl, by cases t <;> rfl⟩
    · trivial
  · split
    · rename_i hk
      have := sameK_eq hk
      subst this
      simp only [denE, denV] at ha hb
      intro h
      cases t
      · subst hb; exact ⟨_, by rw [hm]; rfl, rfl⟩
      · have := ha.1 (h rfl); subst this; exact ⟨_, by rw [hm]; rfl, rfl⟩
    · trivial
  · split
    · rename_i hk
      have := sameK_eq hk
      subst this
      simp only [denE, denV] at ha hb
      intro h
      cases t
      · have := hb.1 (h rfl); subst this; exact ⟨_, by rw [hm]; rfl, rfl⟩
      · subst ha; exact ⟨_, by rw [hm]; rfl, rfl⟩
    · trivial
  · trivial

theorem fieldOf_get : ∀ {fs : List (TypeId × Nat)} {i : Nat} {r : TypeId × Nat}, fieldOf fs i = some r → fs[i]? = some r
  | [], _, _, h => by simp [fieldOf] at h
  | x :: fs, 0, r, h => by simpa [fieldOf] using h
  | x :: fs, i + 1, r, h => by simp only [fieldOf] at h; simpa using fieldOf_get h

theorem field_of {P : Program} {t : TypeId} {fs : List (TypeId × Nat)} {i : Nat} {ft off : Nat} (hd : descOk P t (.struct fs)) (h : fieldOf fs i = some (ft, off)) :
    ∃ a f, P.underlying t = some (.struct a) ∧ a[i]? = some f ∧ f.type = ft ∧ f.offset = off := by
  obtain ⟨a, ha, hm⟩ := hd
  have h1 := fieldOf_get h
  rw [← hm] at h1
  simp only [List.getElem?_map, Option.map_eq_some_iff, Array.getElem?_toList, Prod.mk.injEq] at h1
  obtain ⟨f, h2, h3, h4⟩ := h1
  exact ⟨a, f, ha, h2, h3, h4⟩

theorem valV_den {E : Emb} {e : SV} {v : Value} (h : valV e = some v) : denV E e v := by
  cases e <;> simp only [valV, Option.some.injEq, reduceCtorEq] at h <;> subst h <;> simp only [denV]

theorem valS_den {E : Emb} : ∀ {cs : List Seg} {l : List Value}, valS cs = some l → denS E cs l
  | [], l, h => by simp only [valS, Option.some.injEq] at h; subst h; rfl
  | .one v :: r, l, h => by
    simp only [valS] at h
    split at h
    · rename_i x l' h1 h2
      simp only [Option.some.injEq] at h
      subst h
      exact ⟨x, l', rfl, valV_den h1, valS_den h2⟩
    · cases h
  | .ints k n f :: r, l, h => by
    simp only [valS] at h
    split at h
    · rename_i l' h2
      simp only [Option.some.injEq] at h
      subst h
      exact ⟨l', rfl, valS_den h2⟩
    · cases h

theorem valE_den {E : Emb} {e : EV} {v : Value} (h : valE e = some v) : denE E e v := by
  cases e with
  | s x => simp only [denE]; exact valV_den h
  | agg cs =>
    simp only [valE] at h
    split at h
    · rename_i l hl
      simp only [Option.some.injEq] at h
      subst h
      exact ⟨_, rfl, by simpa using valS_den hl⟩
    · cases h
  | _ => simp [valE] at h

theorem run_sizeOf_ti (T : Tbl) {t : TypeId} {i : TI} (h : T.ty t = some i) (w : World) : (sizeOf t).run T.P w = .ok i.size w := by
  have h1 := (T.tyOk t i h).size
  cases hq : T.P.info? t with
  | none => rw [hq] at h1; cases h1
  | some x =>
    rw [hq] at h1
    simp at h1
    simp [sizeOf, typeInfo, hq, h1]

theorem run_zero_ti (T : Tbl) {t : TypeId} {i : TI} (h : T.ty t = some i) (w : World) : ∃ z, (zeroValue t).run T.P w = .ok z w ∧ ∀ E, denE E i.zero z := by
  obtain ⟨z, h1, h2⟩ := (T.tyOk t i h).zero
  cases hq : T.P.info? t with
  | none => rw [hq] at h2; cases h2
  | some x =>
    rw [hq] at h2
    simp at h2
    exact ⟨z, by simp [zeroValue, typeInfo, hq, h2], fun E => valE_den h1⟩

theorem run_isAgg_ti (T : Tbl) {t : TypeId} {i : TI} (h : T.ty t = some i) (w : World) : (isAgg t).run T.P w = .ok i.d.agg w := by
  have hd := (T.tyOk t i h).desc
  unfold isAgg
  cases hdd : i.d <;> rw [hdd] at hd <;> simp only [descOk] at hd
  case struct fs => obtain ⟨a, ha, _⟩ := hd; simp [run_underlying ha, TD.agg]
  case iface => obtain ⟨a, ha⟩ := hd; simp [run_underlying ha, TD.agg]
  case other => obtain ⟨a, b, c, ha⟩ := hd; simp [run_underlying ha, TD.agg]
  all_goals simp [run_underlying hd, TD.agg]

theorem fieldAddrX_snd (T : Tbl) {E : Emb} (w : World) (t : TypeId) (x : EV) (i : Nat) (u : Value) (hx : denE E x u) : (fieldAddrX T t x i).snd E T.P w (Instr.fieldAt t u i) := by
  unfold fieldAddrX
  split
  · rename_i fs h1
    split
    · rename_i ft off h2
      obtain ⟨a, f, ha, hf, rfl, rfl⟩ := field_of (T.tyOk _ _ h1).desc h2
      split
      · rename_i h3
        have hsz := run_sizeOf_ti T h3 w
        split
        · simp only [denE, denV] at hx
          obtain ⟨hb, rfl⟩ := hx
          refine ⟨_, ?_, ⟨hb, rfl⟩⟩
          simp [Instr.fieldAt, run_underlying ha, hf, Instr.sureAddr, fieldPlace, hsz, Emb.at_add]
        · simp only [denE, denV] at hx
          obtain ⟨hb, rfl⟩ := hx
          split
          · rename_i ho
            refine ⟨_, ?_, ⟨hb, rfl⟩⟩
            simp [Instr.fieldAt, run_underlying ha, hf, Instr.sureAddr, fieldPlace, hsz, Emb.at_add, ho]
          · trivial
        · trivial
      · trivial
    · trivial
  · trivial

theorem partX_snd (T : Tbl) {E : Emb} (w : World) (t : TypeId) (cs : List Seg) (off : Nat) (l : Array Value) (hl : denS E cs l.toList) : (partX T t cs off).snd E T.P w (part t l off) := by
  unfold partX
  split
  · rename_i i h
    have hag := run_isAgg_ti T h w
    have hsz := run_sizeOf_ti T h w
    split
    · rename_i hg
      split
      · rename_i r hr
        split
        · rename_i c hc
          obtain ⟨h1, h2⟩ := dropS_den hl hr
          obtain ⟨h3, h4, h5⟩ := takeS_den h1 hc
          refine ⟨_, ?_, ⟨l.extract off (off + i.size), rfl, ?_⟩⟩
          · simp [part, hag, hg, hsz]
          · rw [Array.toList_extract]
            simpa [List.extract_eq_take_drop] using h3
        · trivial
      · trivial
    · rename_i hg
      split
      · rename_i v hv
        obtain ⟨u, h1, h2⟩ := getS_den hl hv
        refine ⟨u, ?_, h2⟩
        rw [Array.getElem?_toList] at h1
        simp [part, hag, hg, h1]
      · trivial
  · trivial

theorem fieldX_snd (T : Tbl) {E : Emb} (w : World) (t : TypeId) (x : EV) (i : Nat) (u : Value) (hx : denE E x u) : (fieldX T t x i).snd E T.P w (Instr.field t u i) := by
  unfold fieldX
  split
  · rename_i fs cs h1
    split
    · rename_i ft off h2
      obtain ⟨a, f, ha, hf, rfl, rfl⟩ := field_of (T.tyOk _ _ h1).desc h2
      simp only [denE] at hx
      obtain ⟨l, rfl, hl⟩ := hx
      have := partX_snd T w f.type cs f.offset l hl
      have hr : (Instr.field t (.agg l) i).run T.P w = (part f.type l f.offset).run T.P w := by simp [Instr.field, run_underlying ha, hf, asAgg]
      unfold PR.snd at this ⊢
      split at this <;> simp_all
    · trivial
  · trivial

theorem nthB_get : ∀ {h : List Blk} {b : Nat} {B : Blk}, nthB h b = some B → h[b]? = some B
  | [], _, _, h => by simp [nthB] at h
  | x :: r, 0, B, h => by simpa [nthB] using h
  | x :: r, b + 1, B, h => by simp only [nthB] at h; simpa using nthB_get h

theorem indexAddrX_snd (T : Tbl) {E : Emb} {h : List Blk} (w : World) (t : TypeId) (x i : EV) (u v : Value) (hx : denE E x u) (hv : denE E i v) : (indexAddrX T h t x i).snd E T.P w (Instr.indexAt t u v) := by
  unfold indexAddrX
  split
  · rename_i n e b o k i h1
    have hd := (T.tyOk _ _ h1).desc
    simp only [descOk] at hd
    simp only [denE, denV] at hx hv
    obtain ⟨hb, rfl⟩ := hx
    subst hv
    split
    · rename_i te m cs sp h2 h3
      have hsz := run_sizeOf_ti T h2 w
      split
      · split
        · rename_i hs
          intro hi
          refine ⟨_, ?_, ⟨hb, rfl⟩⟩
          simp [Instr.indexAt, asIntOf, run_underlying hd, Instr.sureAddr, hi, hsz, hs, Emb.at_add]
        · trivial
      · intro hi
        refine ⟨_, ?_, ⟨hb, rfl⟩⟩
        simp [Instr.indexAt, asIntOf, run_underlying hd, Instr.sureAddr, hi, hsz, Emb.at_add]
    · trivial
  · rename_i e b o len cap k i h1
    have hd := (T.tyOk _ _ h1).desc
    simp only [descOk] at hd
    simp only [denE, denV] at hx hv
    obtain ⟨hb, rfl⟩ := hx
    subst hv
    split
    · rename_i te m cs sp h2 h3
      have hsz := run_sizeOf_ti T h2 w
      split
      · split
        · rename_i hs
          intro hi
          refine ⟨_, ?_, ⟨hb.1, rfl⟩⟩
          simp [Instr.indexAt, asIntOf, run_underlying hd, Instr.sureAddr, hi, hsz, hs, Emb.at_add]
        · trivial
      · intro hi
        refine ⟨_, ?_, ⟨hb.1, rfl⟩⟩
        simp [Instr.indexAt, asIntOf, run_underlying hd, Instr.sureAddr, hi, hsz, Emb.at_add]
    · trivial
  · rename_i e b o len cap k i h1
    have hd := (T.tyOk _ _ h1).desc
    simp only [descOk] at hd
    simp only [denE, denV] at hx hv
    obtain ⟨hb, hnl, rfl⟩ := hx
    subst hv
    have hin : 0 ≤ i ∧ i < (len : Int) → (if (E.f b).nl = true then none else some (E.at b o)) = some (E.at b o) := fun hi => by
      cases hq : (E.f b).nl with
      | false => rfl
      | true => have := (hnl hq).1; omega
    generalize (if (E.f b).nl = true then none else some (E.at b o)) = ad at hin ⊢
    split
    · rename_i te m cs sp h2 h3
      have hsz := run_sizeOf_ti T h2 w
      split
      · split
        · rename_i hs
          intro hi
          refine ⟨_, ?_, ⟨hb, rfl⟩⟩
          simp [Instr.indexAt, asIntOf, run_underlying hd, Instr.sureAddr, hi, hsz, hs, Emb.at_add, hin hi]
        · trivial
      · intro hi
        refine ⟨_, ?_, ⟨hb, rfl⟩⟩
        simp [Instr.indexAt, asIntOf, run_underlying hd, Instr.sureAddr, hi, hsz, Emb.at_add, hin hi]
    · trivial
  · trivial

/-- Cells of a row, loaded. -/
theorem run_loadVar_cells (T : Tbl) {t : TypeId} {i : TI} (ht : T.ty t = some i) (hag : i.d.agg = true) (w : World) (a : Addr) (l : List Value) (hl : l.length = i.size)
    (h : ∀ j v, l[j]? = some v → w.cell? (a.add j) = some v) : (loadVar t a).run T.P w = .ok (.agg l.toArray) w := by
  have h1 := run_isAgg_ti T ht w
  have h2 := run_sizeOf_ti T ht w
  have h3 := run_loadCells_list (P := T.P) w a l h
  simp [loadVar, h1, hag, h2, ← hl, h3]

theorem loadX_snd (T : Tbl) {E : Emb} {h : List Blk} {w : World} (S : Sim E h w) (t : TypeId) (x : EV) (u : Value) (hx : denE E x u) : (loadX T h t x).snd E T.P w (Instr.loadAt t u) := by
  unfold loadX
  split
  · rename_i i b o h1
    simp only [denE, denV] at hx
    obtain ⟨hb, rfl⟩ := hx
    split
    · rename_i m cs sp h2
      obtain ⟨l, hl, hw, _⟩ := S.look (nthB_get h2)
      split
      · rename_i hg
        split
        · rename_i r hr
          split
          · rename_i c hc
            obtain ⟨h3, h4⟩ := dropS_den hl hr
            obtain ⟨h5, h6, h7⟩ := takeS_den h3 hc
            refine ⟨_, ?_, ⟨((l.drop o).take i.size).toArray, rfl, by simpa using h5⟩⟩
            simp only [Instr.loadAt, Instr.sureAddr, Sem.run_bind, Sem.run_pure, Result.andThen_ok]
            refine run_loadVar_cells T h1 hg w _ _ (by rw [denS_length h5, h6]) (fun j v hj => ?_)
            rw [Emb.at_add]
            simp only [List.getElem?_take, List.getElem?_drop] at hj
            split at hj
            · have := hw (o + j) v hj
              simpa [Emb.at, Nat.add_assoc] using this
            · cases hj
          · trivial
        · trivial
      · rename_i hg
        split
        · rename_i v hv
          obtain ⟨z, h3, h4⟩ := getS_den hl hv
          refine ⟨z, ?_, h4⟩
          have h5 := run_isAgg_ti T h1 w
          have h6 := hw o z h3
          have h7 : w.cell? (E.at b o) = some z := h6
          simp [Instr.loadAt, Instr.sureAddr, loadVar, h5, hg, h7]
        · trivial
    · trivial
  · rename_i i b o j h1
    simp only [denE, denV] at hx
    obtain ⟨hb, rfl⟩ := hx
    split
    · rename_i m cs sp h2
      obtain ⟨l, hl, hw, _⟩ := S.look (nthB_get h2)
      split
      · trivial
      · rename_i hg
        split
        · rename_i k n f hi
          intro hj
          have h3 := getI_den hl hi j hj
          have h6 := hw _ _ h3
          have h7 : w.cell? (E.at b (o + j)) = some (.int k (f j)) := by simpa [Emb.at] using h6
          have h5 := run_isAgg_ti T h1 w
          exact ⟨_, by simp [Instr.loadAt, Instr.sureAddr, loadVar, h5, hg, h7], rfl⟩
        · trivial
    · trivial
  · trivial

theorem svs_den {E : Emb} : ∀ {l : List EV} {vs : List SV} {us : List Value}, denT E l us → svs l = some vs → denL E vs us
  | [], _, _, hd, h => by
    simp only [svs, Option.some.injEq] at h
    subst h
    simpa only [denL, denT] using hd
  | .s v :: r, vs, us, hd, h => by
    simp only [svs, Option.map_eq_some_iff] at h
    obtain ⟨c, hc, rfl⟩ := h
    simp only [denT] at hd
    obtain ⟨u, l', rfl, h1, h2⟩ := hd
    simp only [denE] at h1
    simp only [denL]
    exact ⟨u, l', rfl, h1, svs_den h2 hc⟩
  | .agg _ :: _, _, _, _, h => by simp [svs] at h
  | .tuple _ :: _, _, _, _, h => by simp [svs] at h
  | .gd _ _ :: _, _, _, _, h => by simp [svs] at h
  | .junk :: _, _, _, _, h => by simp [svs] at h

theorem denT_map {E : Emb} (ev : Operand → EV) (ρ : Operand → Value) : ∀ (l : List Operand), (∀ x ∈ l, denE E (ev x) (ρ x)) → denT E (l.map ev) (l.map ρ)
  | [], _ => by simp [denT]
  | x :: r, h => by
    simp only [List.map_cons, denT]
    exact ⟨_, _, rfl, h x (by simp), denT_map ev ρ r (fun y hy => h y (by simp [hy]))⟩

theorem denL_append {E : Emb} : ∀ {a b : List SV} {l m : List Value}, denL E a l → denL E b m → denL E (a ++ b) (l ++ m)
  | [], b, l, m, h1, h2 => by simp only [denL] at h1; subst h1; exact h2
  | x :: a, b, l, m, h1, h2 => by
    simp only [denL] at h1
    obtain ⟨v, l', rfl, h3, h4⟩ := h1
    exact ⟨v, l' ++ m, rfl, h3, denL_append h4 h2⟩

theorem flat_den {E : Emb} : ∀ {cs : List Seg} {vs : List SV} {l : List Value}, denS E cs l → flat cs = some vs → denL E vs l
  | [], _, _, hd, h => by
    simp only [flat, Option.some.injEq] at h
    subst h
    simpa only [denL, denS] using hd
  | .one v :: r, vs, l, hd, h => by
    simp only [flat, Option.map_eq_some_iff] at h
    obtain ⟨c, hc, rfl⟩ := h
    simp only [denS] at hd
    obtain ⟨u, l', rfl, h1, h2⟩ := hd
    simp only [denL]
    exact ⟨u, l', rfl, h1, flat_den h2 hc⟩
  | .ints k n f :: r, vs, l, hd, h => by
    simp only [flat, Option.map_eq_some_iff] at h
    obtain ⟨c, hc, rfl⟩ := h
    simp only [denS] at hd
    obtain ⟨l', rfl, h2⟩ := hd
    refine denL_append ?_ (flat_den h2 hc)
    have key : ∀ js : List Nat, denL E (js.map fun j => SV.int k (f j)) (js.map fun j => Value.int k (f j)) := fun js => by
      induction js with
      | nil => simp [denL]
      | cons j js ih => simp only [List.map_cons, denL]; exact ⟨_, _, rfl, by simp only [denV], ih⟩
    exact key _

theorem nthE_den {E : Emb} : ∀ {vs : List EV} {l : List Value} {i : Nat} {v : EV}, denT E vs l → nthE vs i = some v → ∃ u, l[i]? = some u ∧ denE E v u
  | [], _, _, _, _, h => by simp [nthE] at h
  | x :: r, l, 0, v, hd, h => by
    simp only [nthE, Option.some.injEq] at h
    subst h
    simp only [denT] at hd
    obtain ⟨u, l', rfl, h1, _⟩ := hd
    exact ⟨u, by simp, h1⟩
  | x :: r, l, i + 1, v, hd, h => by
    simp only [nthE] at h
    simp only [denT] at hd
    obtain ⟨u, l', rfl, _, h2⟩ := hd
    obtain ⟨z, h3, h4⟩ := nthE_den h2 h
    exact ⟨z, by simpa using h3, h4⟩


/-! ### what slices and strings yield -/

theorem byteCells_intsOf (s : ByteArray) : byteCells s = intsOf .u8 s.size (strF s) := by
  apply List.ext_getElem?
  intro j
  have hsz : s.size = s.data.toList.length := by rw [Array.length_toList]; rfl
  rcases Nat.lt_or_ge j s.size with h | h
  · rw [intsOf_get h]
    have h' : j < s.data.toList.length := by rw [← hsz]; exact h
    simp only [byteCells, List.getElem?_map, List.getElem?_eq_getElem h', Option.map_some, strF]
    rw [List.getD_eq_getElem?_getD, List.getElem?_map, List.getElem?_eq_getElem h']
    rfl
  · rw [List.getElem?_eq_none (by rw [byteCells_length]; exact h), List.getElem?_eq_none (by rw [length_intsOf]; exact h)]

/-- Cells that lie behind one another from a place on. -/
def atPlace (w : World) (a : Addr) (l : List Value) : Prop := ∀ j v, l[j]? = some v → w.cell? (a.add j) = some v

theorem intsOf_sub {k : IntKind} {m : Nat} {f : Nat → Int} {w : World} {b off o n : Nat} {l : List Value} (hl : l = intsOf k m f) (h : ∀ j v, l[j]? = some v → w.cell? ⟨b, off + j, none⟩ = some v) (ho : o + n ≤ m) :
    ∀ j v, (intsOf k n (shf o f))[j]? = some v → w.cell? ⟨b, off + o + j, none⟩ = some v := by
  subst hl
  intro j v hj
  rcases Nat.lt_or_ge j n with h1 | h1
  · rw [intsOf_get h1] at hj
    rw [Nat.add_assoc]
    refine h (o + j) v ?_
    rw [intsOf_get (by omega)]
    exact hj
  · rw [List.getElem?_eq_none (by rw [length_intsOf]; exact h1)] at hj
    cases hj

theorem rngAt_snd {E : Emb} {h : List Blk} {w : World} (S : Sim E h w) {size b o n : Nat} {r : Rng} (hr : rngAt h size b o n = some r) (hp : r.p) :
    ∃ news, denS E r.cs news ∧ news.length = n * size ∧ r.n = n ∧ (∀ j v, news[j]? = some v → w.cell? ⟨(E.f b).1, (E.f b).2 + o + j, none⟩ = some v) := by
  unfold rngAt at hr
  split at hr
  · rename_i m k q f sp hb
    obtain ⟨l, h1, h2, _⟩ := S.look (nthB_get hb)
    split at hr
    · simp only [Option.some.injEq] at hr
      subst hr
      simp only [denS] at h1
      obtain ⟨l', h1, rfl⟩ := h1
      rw [List.append_nil] at h1
      exact ⟨intsOf k n (shf o f), ⟨[], by rw [List.append_nil], rfl⟩, by rw [length_intsOf, Nat.mul_one], rfl, intsOf_sub h1 h2 hp⟩
    · cases hr
  · rename_i m cs sp _ hb
    obtain ⟨l, h1, h2, _⟩ := S.look (nthB_get hb)
    split at hr
    · simp only [Option.some.injEq] at hr
      subst hr
      exact ⟨l, h1, by rw [denS_length h1]; exact hp, rfl, by simpa using h2⟩
    · cases hr
  · cases hr

/-- **What a slice or a string yields.** -/
theorem rngX_snd (T : Tbl) {E : Emb} {h : List Blk} {w : World} (S : Sim E h w) {size : Nat} {y : EV} {v : Value} (hy : denE E y v) {r : Rng} (hr : rngX h size y = some r) (hp : r.p) {tx : TypeId}
    (hk : (∃ s, y = .s (.str s)) ∧ T.P.underlying tx = some .string ∨ (¬ ∃ s, y = .s (.str s)) ∧ ∃ e', T.P.underlying tx = some (.slice e')) :
    ∃ news, denS E r.cs news ∧ Src T.P size tx v r.n news w := by
  unfold rngX at hr
  split at hr
  · simp only [Option.some.injEq] at hr
    subst hr
    simp only [denE, denV] at hy
    subst hy
    rcases hk with ⟨⟨s, hs⟩, _⟩ | ⟨_, e', hk⟩
    · cases hs
    · exact ⟨[], rfl, Src.ofNil w hk 0⟩
  · rename_i s
    split at hr
    · simp only [Option.some.injEq] at hr
      subst hr
      simp only [denE, denV] at hy
      subst hy
      rcases hk with ⟨_, hk⟩ | ⟨hk, _⟩
      · exact ⟨byteCells s, ⟨[], by rw [List.append_nil, byteCells_intsOf], rfl⟩, Src.ofString w hk s⟩
      · exact absurd ⟨s, rfl⟩ hk
    · cases hr
  · rename_i b o n c
    simp only [denE, denV] at hy
    obtain ⟨hb, rfl⟩ := hy
    rcases hk with ⟨⟨s, hs⟩, _⟩ | ⟨_, e', hk⟩
    · cases hs
    obtain ⟨news, h1, h2, h3, h4⟩ := rngAt_snd S hr hp
    refine ⟨news, h1, ?_⟩
    rw [h3]
    refine Src.ofSlice w hk _ n c news h2 (fun j u hj => ?_) (denS_oneCell h1)
    rw [Emb.at_add]
    unfold Emb.at
    rw [← Nat.add_assoc]
    exact h4 j u hj
  · rename_i b o n c
    simp only [denE, denV] at hy
    obtain ⟨hb, hnl, rfl⟩ := hy
    rcases hk with ⟨⟨s, hs⟩, _⟩ | ⟨_, e', hk⟩
    · cases hs
    obtain ⟨news, h1, h2, h3, h4⟩ := rngAt_snd S hr hp
    refine ⟨news, h1, ?_⟩
    rw [h3]
    cases hq : (E.f b).nl with
    | true =>
      obtain ⟨rfl, rfl⟩ := hnl hq
      obtain rfl : news = [] := List.eq_nil_of_length_eq_zero (by simpa using h2)
      exact Src.ofNil w hk 0
    | false =>
      refine Src.ofSlice w hk _ n c news h2 (fun j u hj => ?_) (denS_oneCell h1)
      rw [Emb.at_add]
      unfold Emb.at
      rw [← Nat.add_assoc]
      exact h4 j u hj
  · cases hr

theorem convX_snd (T : Tbl) {E : Emb} {h : List Blk} {w : World} (S : Sim E h w) (src dst : TypeId) (x : EV) (u : Value) (hx : denE E x u) : (convX T h src dst x).snd E T.P w (convert src dst u) := by
  unfold convX
  split
  · rename_i h1 h2
    split
    · have d1 : T.P.underlying src = some (.int _) := (T.tyOk _ _ h1).desc
      have d2 : T.P.underlying dst = some (.int _) := (T.tyOk _ _ h2).desc
      simp only [denE, denV] at hx; subst hx
      exact ⟨_, by simp [convert, run_underlying d1, run_underlying d2, Conv.intToInt], rfl⟩
    · trivial
  · rename_i e _ _ _ _ _ _ h1 h2
    have d1 : T.P.underlying src = some (.slice _) := (T.tyOk _ _ h1).desc
    have d2 : T.P.underlying dst = some .string := (T.tyOk _ _ h2).desc
    split
    · rename_i h3
      have d3 : T.P.underlying e = some (.int .u8) := (T.tyOk _ _ h3).desc
      have step : ∀ {r : Rng}, isStr x = false → rngX h 1 x = some r → r.p → ∃ news, denS E r.cs news ∧ news.length = r.n ∧
          (u = .slice none 0 0 ∧ r.n = 0 ∨ ∃ a c, u = .slice (some a) r.n c ∧ (loadCells a r.n).run T.P w = .ok news.toArray w) := fun {r} hs hr hp => by
        obtain ⟨news, k1, k2⟩ := rngX_snd T S hx hr hp (tx := src) (.inr ⟨fun ⟨s, h⟩ => (by rw [h] at hs; cases hs), _, d1⟩)
        refine ⟨news, k1, by simpa using k2.newsLen, ?_⟩
        have hlen := k2.len w
        have hc := k2.cells
        unfold rngX at hr
        split at hr
        · simp only [Option.some.injEq] at hr
          subst hr
          simp only [denE, denV] at hx
          exact .inl ⟨hx, rfl⟩
        · cases hs
        · simp only [denE, denV] at hx
          obtain ⟨_, rfl⟩ := hx
          simp only [Builtin.lenOf, Sem.run_pure, Result.ok.injEq, and_true] at hlen
          rw [hlen]
          simp only [Builtin.firstCells, Nat.mul_one] at hc
          exact .inr ⟨_, _, rfl, hc⟩
        · rename_i b o n c
          simp only [denE, denV] at hx
          obtain ⟨_, hnl, rfl⟩ := hx
          simp only [Builtin.lenOf, Sem.run_pure, Result.ok.injEq, and_true] at hlen
          cases hq : (E.f b).nl with
          | true =>
            obtain ⟨h0, h1⟩ := hnl hq
            rw [← hlen]
            exact .inl ⟨by simp [h0, h1], h0⟩
          | false =>
            simp only [hq, Bool.false_eq_true, if_false] at hc ⊢
            simp only [Builtin.firstCells, Nat.mul_one] at hc
            rw [hlen]
            exact .inr ⟨_, _, rfl, hc⟩
        · cases hr
      have fin : ∀ {n : Nat} {f : Nat → Int}, (u = .slice none 0 0 ∧ n = 0 ∨ ∃ a c, u = .slice (some a) n c ∧ (loadCells a n).run T.P w = .ok (intsOf .u8 n f).toArray w) → (convert src dst u).run T.P w = .ok (.string (bytesOf n f)) w := fun {n f} hu => by
        rcases hu with ⟨rfl, rfl⟩ | ⟨a, c, rfl, hl⟩
        · simp [convert, run_underlying d1, run_underlying d2, run_underlying d3, Conv.bytesToString, bytesOf]
        · have := run_bytesToString (P := T.P) w a n c ((List.range n).map f) (by rw [List.map_map]; exact hl)
          simp [convert, run_underlying d1, run_underlying d2, run_underlying d3, this, bytesOf]
      split
      · rename_i p n hs hr
        rintro ⟨hp, hn0⟩
        subst hn0
        obtain ⟨news, k1, k2, k3⟩ := step hs hr hp
        simp only [denS] at k1
        subst k1
        refine ⟨_, ?_, rfl⟩
        have := fin (n := 0) (f := fun _ => 0) (by simpa [intsOf] using k3)
        simpa [bytesOf] using this
      · rename_i p n k' f hs hr
        intro hp
        obtain ⟨news, k1, k2, k3⟩ := step hs hr hp
        simp only [denS] at k1
        obtain ⟨l', rfl, rfl⟩ := k1
        rw [List.append_nil] at k2 k3
        rw [length_intsOf] at k2
        subst k2
        exact ⟨_, fin k3, rfl⟩
      · trivial
    · trivial
  · trivial

theorem boundX_run {E : Emb} {b : Option EV} {v : Option Value} {d : Nat} {i : Int} (h : boundX b d = some i) (hd : ∀ e ∈ b, ∃ x ∈ v, denE E e x) (hn : b = none → v = none) :
    (v = none ∧ i = d) ∨ ∃ k, v = some (.int k i) := by
  unfold boundX at h
  split at h
  · simp only [Option.some.injEq] at h
    exact .inl ⟨hn rfl, h.symm⟩
  · simp only [Option.some.injEq] at h
    subst h
    obtain ⟨x, hx, hxd⟩ := hd _ rfl
    simp only [denE, denV] at hxd
    subst hxd
    exact .inr ⟨_, by simpa using hx⟩
  · cases h

theorem run_sliceBounds {P : Program} {w : World} (sl : Bool) {n c : Nat} {lo hi : Option Value} {l h : Int} (hl : (lo = none ∧ l = 0) ∨ ∃ k, lo = some (.int k l)) (hh : (hi = none ∧ h = n) ∨ ∃ k, hi = some (.int k h)) (hb : 0 ≤ l ∧ l ≤ h ∧ h ≤ c) :
    (Instr.sliceBounds sl n c lo hi none).run P w = .ok (l.toNat, h.toNat, c) w := by
  have h1 : 0 ≤ h := by omega
  rcases hl with ⟨rfl, rfl⟩ | ⟨k, rfl⟩ <;> rcases hh with ⟨rfl, rfl⟩ | ⟨k', rfl⟩
  · simp [Instr.sliceBounds]
  · simp [Instr.sliceBounds, Instr.sliceBound, asIntOf, h1, hb]
  · have hx : l ≤ ((n : Nat) : Int) := hb.2.1
    simp [Instr.sliceBounds, Instr.sliceBound, asIntOf, hb.1, hx]
  · have hx : l ≤ ((h.toNat : Nat) : Int) := by omega
    have hx' : ¬ (max h 0 < l) := by omega
    simp [Instr.sliceBounds, Instr.sliceBound, asIntOf, hb, h1, hx']

theorem run_sliceBounds3 {P : Program} {w : World} (sl : Bool) {n c : Nat} {lo : Option Value} {l h m : Int} {kh km : IntKind} (hl : (lo = none ∧ l = 0) ∨ ∃ k, lo = some (.int k l)) (hb : 0 ≤ l ∧ l ≤ h ∧ h ≤ m ∧ m ≤ c) :
    (Instr.sliceBounds sl n c lo (some (.int kh h)) (some (.int km m))).run P w = .ok (l.toNat, h.toNat, m.toNat) w := by
  have h0 : 0 ≤ m := by omega
  have h1 : 0 ≤ h := by omega
  have h2 : h ≤ ((m.toNat : Nat) : Int) := by omega
  have h3 : l ≤ ((h.toNat : Nat) : Int) := by omega
  have e1 : (Instr.sliceBound (.int km m) c (if sl then .slice3Acap else .slice3Alen)).run P w = .ok m.toNat w := by
    unfold Instr.sliceBound
    simp only [asIntOf, Sem.run_bind, Sem.run_pure, Result.andThen_ok]
    rw [if_pos ⟨h0, hb.2.2.2⟩]; rfl
  have e2 : (Instr.sliceBound (.int kh h) m.toNat .slice3B).run P w = .ok h.toNat w := by
    unfold Instr.sliceBound
    simp only [asIntOf, Sem.run_bind, Sem.run_pure, Result.andThen_ok]
    rw [if_pos ⟨h1, h2⟩]; rfl
  rcases hl with ⟨rfl, rfl⟩ | ⟨k, rfl⟩
  · simp only [Instr.sliceBounds, Sem.run_bind, e1, e2, Result.andThen_ok, Sem.run_pure]
    rfl
  · have e3 : (Instr.sliceBound (.int k l) h.toNat .slice3C).run P w = .ok l.toNat w := by
      unfold Instr.sliceBound
      simp only [asIntOf, Sem.run_bind, Sem.run_pure, Result.andThen_ok]
      rw [if_pos ⟨hb.1, h3⟩]; rfl
    simp only [Instr.sliceBounds, Sem.run_bind, e1, e2, Result.andThen_ok, Sem.run_pure, Option.isSome, if_true, e3]

theorem sliceMX_snd (T : Tbl) {E : Emb} (w : World) (t : TypeId) (x : EV) (lo hi : Option EV) (mx : EV) (u : Value) (vlo vhi vmx : Option Value) (hx : denE E x u)
    (dlo : ∀ e ∈ lo, ∃ y ∈ vlo, denE E e y) (dhi : ∀ e ∈ hi, ∃ y ∈ vhi, denE E e y) (dmx : ∃ y ∈ vmx, denE E mx y) (nlo : lo = none → vlo = none) :
    (sliceMX T t x lo hi mx).snd E T.P w (Instr.sliceAt t u vlo vhi vmx) := by
  unfold sliceMX
  split
  · rename_i km m kh h
    obtain ⟨y, hy, hyd⟩ := dmx
    obtain ⟨z, hz, hzd⟩ := dhi _ rfl
    simp only [denE, denV] at hyd hzd
    subst hyd; subst hzd
    simp only [Option.mem_def] at hy hz
    subst hy; subst hz
    split
    · rename_i e b o n c h1
      have hd : T.P.underlying t = some (.slice _) := (T.tyOk _ _ h1).desc
      simp only [denE, denV] at hx
      obtain ⟨hbn, rfl⟩ := hx
      split
      · rename_i te l h4 h2
        intro hb
        have hr := run_sliceBounds3 (P := T.P) (w := w) (n := n) (kh := kh) (km := km) true (boundX_run h2 dlo nlo) hb
        have hsz := run_sizeOf_ti T h4 w
        refine ⟨_, by simp [Instr.sliceAt, Instr.slice, run_underlying hd, hr, hsz]; rfl, ?_⟩
        simp only [denE, denV, skip]
        refine ⟨hbn, ?_⟩
        split <;> simp [Emb.at_add]
      · trivial
    · rename_i e b o n c h1
      have hd : T.P.underlying t = some (.slice _) := (T.tyOk _ _ h1).desc
      simp only [denE, denV] at hx
      obtain ⟨hbn, hnl, hu⟩ := hx
      have hu' : ((E.f b).nl = true ∧ n = 0 ∧ c = 0 ∧ u = .slice none n c) ∨ ((E.f b).nl = false ∧ u = .slice (some (E.at b o)) n c) := by
        cases hq : (E.f b).nl with
        | true => rw [hq] at hu hnl; exact .inl ⟨rfl, (hnl rfl).1, (hnl rfl).2, by simpa using hu⟩
        | false => rw [hq] at hu; exact .inr ⟨rfl, by simpa using hu⟩
      clear hu
      split
      · rename_i te l h4 h2
        intro hb
        have hr := run_sliceBounds3 (P := T.P) (w := w) (n := n) (kh := kh) (km := km) true (boundX_run h2 dlo nlo) hb
        have hsz := run_sizeOf_ti T h4 w
        rcases hu' with ⟨hq, rfl, rfl, rfl⟩ | ⟨hq, rfl⟩
        · refine ⟨_, by simp [Instr.sliceAt, Instr.slice, run_underlying hd, hr, hsz]; rfl, ?_⟩
          simp only [denE, denV, skip, hq, if_true]
          refine ⟨hbn, fun _ => by omega, ?_⟩
          simp
        · refine ⟨_, by simp [Instr.sliceAt, Instr.slice, run_underlying hd, hr, hsz]; rfl, ?_⟩
          simp only [denE, denV, skip, hq, Bool.false_eq_true, if_false]
          refine ⟨hbn, fun h' => h'.elim, ?_⟩
          split <;> simp [Emb.at_add]
      · trivial
    · trivial
  · trivial

theorem sliceX_snd (T : Tbl) {E : Emb} (w : World) (t : TypeId) (x : EV) (lo hi mx : Option EV) (u : Value) (vlo vhi vmx : Option Value) (hx : denE E x u)
    (dlo : ∀ e ∈ lo, ∃ y ∈ vlo, denE E e y) (dhi : ∀ e ∈ hi, ∃ y ∈ vhi, denE E e y) (nlo : lo = none → vlo = none) (nhi : hi = none → vhi = none) (nmx : mx = none → vmx = none) (dmx : ∀ e ∈ mx, ∃ y ∈ vmx, denE E e y) :
    (sliceX T t x lo hi mx).snd E T.P w (Instr.sliceAt t u vlo vhi vmx) := by
  unfold sliceX
  split
  · exact sliceMX_snd T w t x lo hi _ u vlo vhi vmx hx dlo dhi (dmx _ rfl) nlo
  · rw [nmx rfl]
    split
    · rename_i s h1
      have hd : T.P.underlying t = some .string := (T.tyOk _ _ h1).desc
      simp only [denE, denV] at hx
      subst hx
      split
      · rename_i l h h2 h3
        intro hb
        have hr := run_sliceBounds (P := T.P) (w := w) false (boundX_run h2 dlo nlo) (boundX_run h3 dhi nhi) hb
        exact ⟨_, by simp [Instr.sliceAt, Instr.slice, run_underlying hd, hr], rfl⟩
      · trivial
    · rename_i e b o n c h1
      have hd : T.P.underlying t = some (.slice _) := (T.tyOk _ _ h1).desc
      simp only [denE, denV] at hx
      obtain ⟨hbn, rfl⟩ := hx
      split
      · rename_i te l h h4 h2 h3
        intro hb
        have hr := run_sliceBounds (P := T.P) (w := w) true (boundX_run h2 dlo nlo) (boundX_run h3 dhi nhi) hb
        have hsz := run_sizeOf_ti T h4 w
        refine ⟨_, by simp [Instr.sliceAt, Instr.slice, run_underlying hd, hr, hsz]; rfl, ?_⟩
        simp only [denE, denV, skip]
        refine ⟨hbn, ?_⟩
        split <;> simp [Emb.at_add]
      · trivial
    · rename_i e b o n c h1
      have hd : T.P.underlying t = some (.slice _) := (T.tyOk _ _ h1).desc
      simp only [denE, denV] at hx
      obtain ⟨hbn, hnl, hu⟩ := hx
      have hu' : ((E.f b).nl = true ∧ n = 0 ∧ c = 0 ∧ u = .slice none n c) ∨ ((E.f b).nl = false ∧ u = .slice (some (E.at b o)) n c) := by
        cases hq : (E.f b).nl with
        | true => rw [hq] at hu hnl; exact .inl ⟨rfl, (hnl rfl).1, (hnl rfl).2, by simpa using hu⟩
        | false => rw [hq] at hu; exact .inr ⟨rfl, by simpa using hu⟩
      clear hu
      split
      · rename_i te l h h4 h2 h3
        intro hb
        have hr := run_sliceBounds (P := T.P) (w := w) true (boundX_run h2 dlo nlo) (boundX_run h3 dhi nhi) hb
        have hsz := run_sizeOf_ti T h4 w
        rcases hu' with ⟨hq, rfl, rfl, rfl⟩ | ⟨hq, rfl⟩
        · refine ⟨_, by simp [Instr.sliceAt, Instr.slice, run_underlying hd, hr, hsz]; rfl, ?_⟩
          simp only [denE, denV, skip, hq, if_true]
          refine ⟨hbn, fun _ => by omega, ?_⟩
          simp
        · refine ⟨_, by simp [Instr.sliceAt, Instr.slice, run_underlying hd, hr, hsz]; rfl, ?_⟩
          simp only [denE, denV, skip, hq, Bool.false_eq_true, if_false]
          refine ⟨hbn, fun h' => h'.elim, ?_⟩
          split <;> simp [Emb.at_add]
      · trivial
    · trivial

end Go.Anv
