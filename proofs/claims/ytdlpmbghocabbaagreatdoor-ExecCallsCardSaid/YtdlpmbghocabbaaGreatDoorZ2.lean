/- Part 2 of the texts of this claim, merged: E4, E5, E5b, E5c. No condition: plain theorems, contracts of functions. -/
import Derived.Test.YtdlpmbghocabbaaGreatDoorZ1
import Derived.Laws.LoneSync
import Derived.Deep.AppendSrc
import Derived.Laws.BytesString
import Derived.Laws.StructEq
import Derived.Laws.IdiomCopy
import Derived.Laws.IdiomStrings
import Derived.Lib.AppendZeros
import Derived.Lib.AppendZerosOnto

set_option linter.unusedSimpArgs false
set_option linter.unusedVariables false
/- The engine, part 4: the operations without an effect do what the walker says. Plain theorems; their conditions are the table's own facts. -/
namespace Go.Anv
open Go

/-- What a small answer says of a piece of the machine. -/
def PR.snd (E : Emb) (P : Program) (w : World) (m : Sem Value) : PR → Prop
  | .fail => True
  | .ok v => ∃ z, m.run P w = .ok z w ∧ denE E v z
  | .need p v => p → ∃ z, m.run P w = .ok z w ∧ denE E v z

theorem sameK_eq {k k' : IntKind} (h : sameK k k' = true) : k = k' := by
  cases k <;> cases k' <;> first | rfl | (exact absurd h (by decide))

theorem sameK_refl (k : IntKind) : sameK k k = true := by cases k <;> rfl

theorem wrap_bit (op : BinOp) (k : IntKind) (a b : Int) (P : Program) (w : World) (h : op = .and ∨ op = .or ∨ op = .xor ∨ op = .andNot) :
    (Op.intBits op k a b).run P w = .ok (.int k (bitX op k a b)) w := by
  rcases h with rfl | rfl | rfl | rfl <;> rfl

theorem intX_snd (E : Emb) (P : Program) (w : World) (op : BinOp) (hs : op ≠ .shl) (hr : op ≠ .shr) (t : TypeId) (k : IntKind) (a b : Int) :
    (intX op k a b).snd E P w (binOp op t (.int k a) (.int k b)) := by
  cases op <;> simp only [intX, PR.snd] <;> first
    | trivial
    | exact absurd rfl hs
    | exact absurd rfl hr
    | (refine ⟨_, ?_, rfl⟩; simp [binOp, Op.intArith, Op.intCmp, Op.intBits, bitX]; done)
    | (intro hb; refine ⟨_, ?_, rfl⟩; simp [binOp, Op.intDiv, hb]; done)
    | skip


theorem eqSeg_cells {E : Emb} : ∀ {a b : List Seg} {l m : List Value} {r : Bool}, denS E a l → denS E b m → eqSeg a b = some r → eqCells l m = some r
  | [], b, l, m, r, h1, h2, h => by
    cases b with
    | nil => simp only [denS] at h1 h2; subst h1; subst h2; exact h
    | cons x y => simp [eqSeg] at h
  | .one x :: a, b, l, m, r, h1, h2, h => by
    cases b with
    | nil => cases x <;> simp [eqSeg] at h
    | cons y b =>
      cases y with
      | ints k n f => cases x <;> simp [eqSeg] at h
      | one y =>
        simp only [denS] at h1 h2
        obtain ⟨u, l', rfl, hu, h3⟩ := h1
        obtain ⟨v, m', rfl, hv, h4⟩ := h2
        cases x with
        | int k p =>
          cases y with
          | int k' q =>
            simp only [denV] at hu hv
            subst hu; subst hv
            simp only [eqSeg] at h
            simp only [eqCells]
            split at h
            · rename_i hk
              rw [if_pos hk]
              simp only [Option.map_eq_some_iff] at h ⊢
              obtain ⟨c, hc, rfl⟩ := h
              exact ⟨c, eqSeg_cells h3 h4 hc, rfl⟩
            · cases h
          | _ => simp [eqSeg] at h
        | bool p =>
          cases y with
          | bool q =>
            simp only [denV] at hu hv
            subst hu; subst hv
            simp only [eqSeg] at h
            simp only [eqCells]
            simp only [Option.map_eq_some_iff] at h ⊢
            obtain ⟨c, hc, rfl⟩ := h
            exact ⟨c, eqSeg_cells h3 h4 hc, rfl⟩
          | _ => simp [eqSeg] at h
        | _ => cases y <;> simp [eqSeg] at h
  | .ints k n f :: a, b, l, m, r, h1, h2, h => by
    cases b with
    | nil => simp [eqSeg] at h
    | cons y b =>
      cases y with
      | one y => simp [eqSeg] at h
      | ints k' n' g =>
        simp only [denS] at h1 h2
        obtain ⟨l', rfl, h3⟩ := h1
        obtain ⟨m', rfl, h4⟩ := h2
        simp only [eqSeg] at h
        split at h
        · rename_i hk
          simp only [Bool.and_eq_true, beq_iff_eq] at hk
          obtain ⟨hk, rfl⟩ := hk
          have hk := sameK_eq hk
          subst hk
          simp only [Option.map_eq_some_iff] at h
          obtain ⟨c, hc, rfl⟩ := h
          have ih := eqSeg_cells h3 h4 hc
          have key : ∀ (js : List Nat), eqCells ((js.map fun j => Value.int k (f j)) ++ l') ((js.map fun j => Value.int k (g j)) ++ m') = some ((js.all fun j => f j == g j) && c) := fun js => by
            induction js with
            | nil => simpa using ih
            | cons j js ihj =>
              simp only [List.map_cons, List.cons_append, eqCells, sameK_refl, if_true, ihj, List.all_cons, Option.map_some, Bool.and_assoc]
          exact key _
        · cases h

theorem run_equal {P : Program} {w : World} {t : TypeId} {x y : Value} {b : Bool} (h : ∀ d, (Op.equalIn (d + 1) t x y).run P w = .ok b w) : (Op.equal t x y).run P w = .ok b w := h 9999

theorem run_eql {P : Program} {w : World} {t : TypeId} {x y : Value} {b : Bool} (h : (Op.equal t x y).run P w = .ok b w)
    (hi : ∀ k n, x ≠ .int k n) (hf : ∀ k n, x ≠ .float k n) (hc : ∀ k n m, x ≠ .complex k n m) (hs : ∀ s, x ≠ .string s) : (binOp .eql t x y).run P w = .ok (.bool b) w := by
  cases x <;> first
    | exact absurd rfl (hi _ _)
    | exact absurd rfl (hf _ _)
    | exact absurd rfl (hc _ _ _)
    | exact absurd rfl (hs _)
    | (simp only [binOp]; simp [h])

theorem run_neq {P : Program} {w : World} {t : TypeId} {x y : Value} {b : Bool} (h : (Op.equal t x y).run P w = .ok b w)
    (hi : ∀ k n, x ≠ .int k n) (hf : ∀ k n, x ≠ .float k n) (hc : ∀ k n m, x ≠ .complex k n m) (hs : ∀ s, x ≠ .string s) : (binOp .neq t x y).run P w = .ok (.bool (!b)) w := by
  cases x <;> first
    | exact absurd rfl (hi _ _)
    | exact absurd rfl (hf _ _)
    | exact absurd rfl (hc _ _ _)
    | exact absurd rfl (hs _)
    | (simp only [binOp]; simp [h])

theorem fitS_den {E : Emb} : ∀ {ks : List KS} {cs : List Seg} {l : List Value}, denS E cs l → fitS ks cs = true → fitV ks l
  | [], [], _, h, _ => h
  | .int k :: r, .one x :: s, l, h, hf => by
    cases x with
    | int k' a =>
      simp only [fitS, Bool.and_eq_true] at hf
      have := sameK_eq hf.1
      subst this
      simp only [denS, denV] at h
      obtain ⟨v, l', rfl, rfl, h⟩ := h
      exact ⟨a, l', rfl, fitS_den h hf.2⟩
    | _ => simp [fitS] at hf
  | .bool :: r, .one x :: s, l, h, hf => by
    cases x with
    | bool b =>
      simp only [fitS] at hf
      simp only [denS, denV] at h
      obtain ⟨v, l', rfl, rfl, h⟩ := h
      exact ⟨b, l', rfl, fitS_den h hf⟩
    | _ => simp [fitS] at hf
  | .arr k n :: r, .ints k' m f :: s, l, h, hf => by
    simp only [fitS, Bool.and_eq_true] at hf
    have := sameK_eq hf.1.1
    subst this
    have := Nat.eq_of_beq_eq_true hf.1.2
    subst this
    simp only [denS] at h
    obtain ⟨l', rfl, h⟩ := h
    exact ⟨f, l', rfl, fitS_den h hf.2⟩
  | [], _ :: _, _, _, hf => by simp [fitS] at hf
  | .int _ :: _, [], _, _, hf => by simp [fitS] at hf
  | .bool :: _, [], _, _, hf => by simp [fitS] at hf
  | .arr _ _ :: _, [], _, _, hf => by simp [fitS] at hf
  | .int _ :: _, .ints .. :: _, _, _, hf => by simp [fitS] at hf
  | .bool :: _, .ints .. :: _, _, _, hf => by simp [fitS] at hf
  | .arr _ _ :: _, .one _ :: _, _, _, hf => by simp [fitS] at hf

theorem cellsEq_of : ∀ {l m : List Value} {r : Bool}, eqCells l m = some r → cellsEq l m = r
  | [], [], r, h => by simpa [eqCells, cellsEq] using h
  | [], _ :: _, _, h => by simp [eqCells] at h
  | x :: l, [], _, h => by cases x <;> simp [eqCells] at h
  | x :: l, y :: m, r, h => by
    cases x with
    | int k a =>
      cases y with
      | int k' b =>
        simp only [eqCells] at h
        split at h
        · simp only [Option.map_eq_some_iff] at h
          obtain ⟨s, h1, h2⟩ := h
          simp only [cellsEq, cellsEq_of h1]
          exact h2
        · cases h
      | _ => simp [eqCells] at h
    | bool a =>
      cases y with
      | bool b =>
        simp only [eqCells, Option.map_eq_some_iff] at h
        obtain ⟨s, h1, h2⟩ := h
        simp only [cellsEq, cellsEq_of h1]
        exact h2
      | _ => simp [eqCells] at h
    | _ => cases y <;> simp [eqCells] at h

theorem binX_snd (T : Tbl) {E : Emb} (w : World) (op : BinOp) (t : TypeId) (ox oy : Operand) (x y : EV) (u v : Value) (hx : denE E x u) (hy : denE E y v) :
    (binX T op t x y).snd E T.P w (do eqGuard op t ox oy u v; binOp op t u v) := by
  unfold binX
  split
  · -- whole numbers
    rename_i k a k' b
    simp only [denE, denV] at hx hy
    subst hx; subst hy
    have hg : (eqGuard op t ox oy (Value.int k a) (Value.int k' b)) = pure () := eqGuard_at_int ..
    rw [hg]
    simp only [pure_bind]
    split
    · intro hb
      refine ⟨_, ?_, rfl⟩
      have : ¬ b < 0 := by omega
      simp [binOp, Op.shift, this]
    · intro hb
      refine ⟨_, ?_, rfl⟩
      have : ¬ b < 0 := by omega
      simp [binOp, Op.shift, this]
    · rename_i h1 h2
      split
      · rename_i hk
        have := sameK_eq hk
        subst this
        exact intX_snd E T.P w op (fun e => h1 e) (fun e => h2 e) t k a b
      · trivial
  · rename_i a b
    simp only [denE, denV] at hx hy
    subst hx; subst hy
    have hg : (eqGuard op t ox oy (Value.bool a) (Value.bool b)) = pure () := eqGuard_at_bool ..
    rw [hg]
    simp only [pure_bind]
    split
    · rename_i h
      have hd := (T.tyOk t _ h).desc
      simp only [descOk] at hd
      exact ⟨.bool (a == b), run_eql (b := (a == b)) (run_equal fun d => by simp [Op.equalIn, run_underlying hd]) (by intros; simp) (by intros; simp) (by intros; simp) (by intros; simp), rfl⟩
    · rename_i h
      have hd := (T.tyOk t _ h).desc
      simp only [descOk] at hd
      exact ⟨.bool (!(a == b)), run_neq (b := (a == b)) (run_equal fun d => by simp [Op.equalIn, run_underlying hd]) (by intros; simp) (by intros; simp) (by intros; simp) (by intros; simp), rfl⟩
    · trivial
  · rename_i a b
    simp only [denE, denV] at hx hy
    subst hx; subst hy
    have hg : (eqGuard op t ox oy (Value.string a) (Value.string b)) = pure () := eqGuard_at_string ..
    rw [hg]
    simp only [pure_bind]
    split
    · exact ⟨.bool (a == b), by rw [beq_toListBytes]; simp [binOp, Op.stringOp], rfl⟩
    · exact ⟨.bool (a != b), by rw [bne, beq_toListBytes]; simp [binOp, Op.stringOp], rfl⟩
    · intro hb
      have hb' : ¬ (9223372036854775807 < (a.size : Int) + (b.size : Int)) := by omega
      exact ⟨.string (a ++ b), by simp [binOp, Op.stringOp, hb'], rfl⟩
    · trivial
  · rename_i a b
    split
    · rename_i ks hks
      obtain ⟨hgt, n, hn, hpt⟩ := T.eqOk t ks hks
      simp only [denE] at hx hy
      obtain ⟨l, rfl, hl⟩ := hx
      obtain ⟨m, rfl, hm⟩ := hy
      have hg : (eqGuard op t ox oy (.agg l) (.agg m)).run T.P w = .ok () w := run_eqGuard_agg w op t ox oy l m hgt
      have heq : ∀ {r : Bool}, (fitS ks a && fitS ks b) = true → eqSeg a b = some r → (Op.equalIn 10000 t (.agg l) (.agg m)).run T.P w = .ok r w := fun {r} hf hr => by
        simp only [Bool.and_eq_true] at hf
        have h1 := fitS_den hl hf.1
        have h2 := fitS_den hm hf.2
        have h3 := PTn.eq n hpt h1 h2 10000 w hn
        rw [cellsEq_of (eqSeg_cells hl hm hr)] at h3
        exact h3
      split
      · rename_i hf hr
        exact ⟨_, by simp only [Sem.run_bind, hg, Result.andThen_ok]; rw [run_eql_struct, heq hf hr]; rfl, rfl⟩
      · rename_i hf hr
        exact ⟨_, by simp only [Sem.run_bind, hg, Result.andThen_ok]; rw [run_neq_struct, heq hf hr]; rfl, rfl⟩
      · trivial
    · trivial
  · simp only [denE, denV] at hx hy
    obtain ⟨_, rfl⟩ := hx
    subst hy
    have hg : ∀ a b, (eqGuard op t ox oy (Value.pointer a) (Value.pointer b)) = pure () := fun a b => eqGuard_at_pointer ..
    rw [hg]
    simp only [pure_bind]
    split
    · rename_i h
      have hd := (T.tyOk t _ h).desc
      simp only [descOk] at hd
      exact ⟨.bool false, run_eql (b := false) (run_equal fun d => by simp [Op.equalIn, run_underlying hd]) (by intros; simp) (by intros; simp) (by intros; simp) (by intros; simp), rfl⟩
    · rename_i h
      have hd := (T.tyOk t _ h).desc
      simp only [descOk] at hd
      exact ⟨.bool (!false), run_neq (b := false) (run_equal fun d => by simp [Op.equalIn, run_underlying hd]) (by intros; simp) (by intros; simp) (by intros; simp) (by intros; simp), rfl⟩
    · trivial
  · simp only [denE, denV] at hx hy
    subst hx; subst hy
    have hg : ∀ a b, (eqGuard op t ox oy (Value.pointer a) (Value.pointer b)) = pure () := fun a b => eqGuard_at_pointer ..
    rw [hg]
    simp only [pure_bind]
    split
    · rename_i h
      have hd := (T.tyOk t _ h).desc
      simp only [descOk] at hd
      exact ⟨.bool true, run_eql (b := true) (run_equal fun d => by simp [Op.equalIn, run_underlying hd]) (by intros; simp) (by intros; simp) (by intros; simp) (by intros; simp), rfl⟩
    · rename_i h
      have hd := (T.tyOk t _ h).desc
      simp only [descOk] at hd
      exact ⟨.bool (!true), run_neq (b := true) (run_equal fun d => by simp [Op.equalIn, run_underlying hd]) (by intros; simp) (by intros; simp) (by intros; simp) (by intros; simp), rfl⟩
    · trivial
  · simp only [denE, denV] at hx hy
    obtain ⟨_, rfl⟩ := hx
    subst hy
    have hg : ∀ a b c d, (eqGuard op t ox oy (Value.slice a b c) d) = pure () := fun a b c d => eqGuard_at_slice ..
    rw [hg]
    simp only [pure_bind]
    split
    · rename_i h
      have hd := (T.tyOk t _ h).desc
      simp only [descOk] at hd
      exact ⟨.bool false, run_eql (b := false) (run_equal fun d => by simp [Op.equalIn, run_underlying hd]) (by intros; simp) (by intros; simp) (by intros; simp) (by intros; simp), rfl⟩
    · rename_i h
      have hd := (T.tyOk t _ h).desc
      simp only [descOk] at hd
      exact ⟨.bool (!false), run_neq (b := false) (run_equal fun d => by simp [Op.equalIn, run_underlying hd]) (by intros; simp) (by intros; simp) (by intros; simp) (by intros; simp), rfl⟩
    · trivial
  · simp only [denE, denV] at hx hy
    subst hx; subst hy
    have hg : ∀ a b c d, (eqGuard op t ox oy (Value.slice a b c) d) = pure () := fun a b c d => eqGuard_at_slice ..
    rw [hg]
    simp only [pure_bind]
    split
    · rename_i h
      have hd := (T.tyOk t _ h).desc
      simp only [descOk] at hd
      exact ⟨.bool true, run_eql (b := true) (run_equal fun d => by simp [Op.equalIn, run_underlying hd]) (by intros; simp) (by intros; simp) (by intros; simp) (by intros; simp), rfl⟩
    · rename_i h
      have hd := (T.tyOk t _ h).desc
      simp only [descOk] at hd
      exact ⟨.bool (!true), run_neq (b := true) (run_equal fun d => by simp [Op.equalIn, run_underlying hd]) (by intros; simp) (by intros; simp) (by intros; simp) (by intros; simp), rfl⟩
    · trivial
  · simp only [denE, denV] at hx hy
    obtain ⟨f', c', rfl, _⟩ := hx
    subst hy
    have hg : ∀ a b c d, (eqGuard op t ox oy (Value.func a b c) d) = pure () := fun a b c d => by cases op <;> rfl
    rw [hg]
    simp only [pure_bind]
    split
    · rename_i h
      obtain ⟨ps, rs, vv, hd⟩ := (T.tyOk t _ h).desc
      exact ⟨.bool false, run_eql (b := false) (run_equal fun d => by simp [Op.equalIn, run_underlying hd]) (by intros; simp) (by intros; simp) (by intros; simp) (by intros; simp), rfl⟩
    · rename_i h
      obtain ⟨ps, rs, vv, hd⟩ := (T.tyOk t _ h).desc
      exact ⟨.bool (!false), run_neq (b := false) (run_equal fun d => by simp [Op.equalIn, run_underlying hd]) (by intros; simp) (by intros; simp) (by intros; simp) (by intros; simp), rfl⟩
    · trivial
  · simp only [denE, denV] at hx hy
    subst hx; subst hy
    have hg : ∀ d, (eqGuard op t ox oy Value.nilFunc d) = pure () := fun d => by cases op <;> rfl
    rw [hg]
    simp only [pure_bind]
    split
    · rename_i h
      obtain ⟨ps, rs, vv, hd⟩ := (T.tyOk t _ h).desc
      exact ⟨.bool true, run_eql (b := true) (run_equal fun d => by simp [Op.equalIn, run_underlying hd]) (by intros; simp) (by intros; simp) (by intros; simp) (by intros; simp), rfl⟩
    · rename_i h
      obtain ⟨ps, rs, vv, hd⟩ := (T.tyOk t _ h).desc
      exact ⟨.bool (!true), run_neq (b := true) (run_equal fun d => by simp [Op.equalIn, run_underlying hd]) (by intros; simp) (by intros; simp) (by intros; simp) (by intros; simp), rfl⟩
    · trivial
  · trivial

theorem binY_snd (T : Tbl) {E : Emb} (w : World) (op : BinOp) (t : TypeId) (ox oy : Operand) (x y : EV) (u v : Value) (hx : denE E x u) (hy : denE E y v) :
    (binY T (cnst ox || cnst oy) op t x y).snd E T.P w (do eqGuard op t ox oy u v; binOp op t u v) := by
  unfold binY
  split
  · rename_i t' ag cs
    have hu : ∃ z, u = .iface t' z := by
      cases ag <;> (simp only [denE, denV] at hx; obtain ⟨z, rfl, _⟩ := hx; exact ⟨_, rfl⟩)
    obtain ⟨z, rfl⟩ := hu
    simp only [denE, denV] at hy
    subst hy
    split
    · rename_i h
      have hd := (T.tyOk t _ h).desc
      simp only [descOk] at hd
      obtain ⟨ms, hd⟩ := hd
      refine ⟨.bool false, ?_, rfl⟩
      have hg : (eqGuard .eql t ox oy (.iface t' z) .nilIface).run T.P w = .ok () w := by simp [eqGuard]
      simp only [Sem.run_bind, hg, Result.andThen_ok]
      exact run_eql (b := false) (run_equal fun d => by simp [Op.equalIn, run_underlying hd]) (by intros; simp) (by intros; simp) (by intros; simp) (by intros; simp)
    · rename_i h
      have hd := (T.tyOk t _ h).desc
      simp only [descOk] at hd
      obtain ⟨ms, hd⟩ := hd
      refine ⟨.bool true, ?_, rfl⟩
      have hg : (eqGuard .neq t ox oy (.iface t' z) .nilIface).run T.P w = .ok () w := by simp [eqGuard]
      simp only [Sem.run_bind, hg, Result.andThen_ok]
      exact run_neq (b := false) (run_equal fun d => by simp [Op.equalIn, run_underlying hd]) (by intros; simp) (by intros; simp) (by intros; simp) (by intros; simp)
    · trivial
  · simp only [denE, denV] at hx hy
    subst hx hy
    have hgo : (cnst ox || cnst oy) = true → ∀ op, (eqGuard op t ox oy .nilIface .nilIface).run T.P w = .ok () w := fun hc op => by
      cases ox <;> cases oy <;> simp [cnst] at hc <;> (simp [eqGuard]; try (cases op <;> simp))
    split
    · rename_i h hc
      have hd := (T.tyOk t _ h).desc
      simp only [descOk] at hd
      obtain ⟨ms, hd⟩ := hd
      refine ⟨.bool true, ?_, rfl⟩
      simp only [Sem.run_bind, hgo hc, Result.andThen_ok]
      exact run_eql (b := true) (run_equal fun d => by simp [Op.equalIn, run_underlying hd]) (by intros; simp) (by intros; simp) (by intros; simp) (by intros; simp)
    · rename_i h hc
      have hd := (T.tyOk t _ h).desc
      simp only [descOk] at hd
      obtain ⟨ms, hd⟩ := hd
      refine ⟨.bool false, ?_, rfl⟩
      simp only [Sem.run_bind, hgo hc, Result.andThen_ok]
      exact run_neq (b := true) (run_equal fun d => by simp [Op.equalIn, run_underlying hd]) (by intros; simp) (by intros; simp) (by intros; simp) (by intros; simp)
    · trivial
  · exact binX_snd T w op t ox oy x y u v hx hy

theorem unX_snd {E : Emb} (P : Program) (w : World) (op : UnOp) (x : EV) (u : Value) (hx : denE E x u) : (unX op x).snd E P w (Op.unary op u) := by
  unfold unX
  split
  · simp only [denE, denV] at hx; subst hx; exact ⟨_, rfl, rfl⟩
  · simp only [denE, denV] at hx; subst hx; exact ⟨_, rfl, rfl⟩
  · simp only [denE, denV] at hx; subst hx; exact ⟨_, rfl, rfl⟩
  · trivial

theorem pickX_snd {E : Emb} (P : Program) (w : World) (t : Bool) (a b : EV) (u v : Value) (ha : denE E a u) (hb : denE E b v) (m : Sem Value) (hm : m = pure (if t then u else v)) : (pickX t a b).snd E P w m := by
  unfold pickX
  split
  · simp only [denE, denV] at ha hb; subst ha; subst hb; exact ⟨_, by rw [hm]; rfl, by cases t <;> rfl⟩
  · simp only [denE, denV] at ha hb
    intro h
    cases t
    · subst hb; exact ⟨_, by rw [hm]; rfl, rfl⟩
    · have := ha.1 (h rfl); subst this; exact ⟨_, by rw [hm]; rfl, rfl⟩
  · simp only [denE, denV] at ha hb
    intro h
    cases t
    · have := hb.1 (h rfl); subst this; exact ⟨_, by rw [hm]; rfl, rfl⟩
    · subst ha; exact ⟨_, by rw [hm]; rfl, rfl⟩
  · split
    · rename_i hk
      have := sameK_eq hk
      subst this
      simp only [denE, denV] at ha hb; subst ha; subst hb; exact ⟨_, by rw [hm]; rfl, by cases t <;> rfl⟩
    · trivial
  · split
    · rename_i hk
      have := sameK_eq hk
      subst this
      simp only [denE, denV] at ha hb
      intro h
      cases t
      · subst hb; exact ⟨_, by rw [hm]; rfl, rfl⟩
      · have := ha.1 (h rfl); subst this; exact ⟨_, by rw [hm]; rfl, rfl⟩
    · trivial
  · split
    · rename_i hk
      have := sameK_eq hk
      subst this
      simp only [denE, denV] at ha hb
      intro h
      cases t
      · have := hb.1 (h rfl); subst this; exact ⟨_, by rw [hm]; rfl, rfl⟩
      · subst ha; exact ⟨_, by rw [hm]; rfl, rfl⟩
    · trivial
  · simp only [denE, denV] at hb
    rintro rfl
    subst hb; exact ⟨_, by rw [hm]; rfl, rfl⟩
  · simp only [denE, denV] at ha
    rintro rfl
    subst ha; exact ⟨_, by rw [hm]; rfl, rfl⟩
  · simp only [denE, denV] at hb
    rintro rfl
    subst hb; exact ⟨_, by rw [hm]; rfl, rfl⟩
  · simp only [denE, denV] at ha
    rintro rfl
    subst ha; exact ⟨_, by rw [hm]; rfl, rfl⟩
  · trivial

theorem fieldOf_get : ∀ {fs : List (TypeId × Nat)} {i : Nat} {r : TypeId × Nat}, fieldOf fs i = some r → fs[i]? = some r
  | [], _, _, h => by simp [fieldOf] at h
  | x :: fs, 0, r, h => by simpa [fieldOf] using h
  | x :: fs, i + 1, r, h => by simp only [fieldOf] at h; simpa using fieldOf_get h

theorem field_of {P : Program} {t : TypeId} {fs : List (TypeId × Nat)} {i : Nat} {ft off : Nat} (hd : descOk P t (.struct fs)) (h : fieldOf fs i = some (ft, off)) :
    ∃ a f, P.underlying t = some (.struct a) ∧ a[i]? = some f ∧ f.type = ft ∧ f.offset = off := by
  obtain ⟨a, ha, hm⟩ := hd
  have h1 := fieldOf_get h
  rw [← hm] at h1
  simp only [List.getElem?_map, Option.map_eq_some_iff, Array.getElem?_toList, Prod.mk.injEq] at h1
  obtain ⟨f, h2, h3, h4⟩ := h1
  exact ⟨a, f, ha, h2, h3, h4⟩

theorem valV_den {E : Emb} {e : SV} {v : Value} (h : valV e = some v) : denV E e v := by
  cases e <;> simp only [valV, Option.some.injEq, reduceCtorEq] at h <;> subst h <;> simp only [denV]

theorem valS_den {E : Emb} : ∀ {cs : List Seg} {l : List Value}, valS cs = some l → denS E cs l
  | [], l, h => by simp only [valS, Option.some.injEq] at h; subst h; rfl
  | .one v :: r, l, h => by
    simp only [valS] at h
    split at h
    · rename_i x l' h1 h2
      simp only [Option.some.injEq] at h
      subst h
      exact ⟨x, l', rfl, valV_den h1, valS_den h2⟩
    · cases h
  | .ints k n f :: r, l, h => by
    simp only [valS] at h
    split at h
    · rename_i l' h2
      simp only [Option.some.injEq] at h
      subst h
      exact ⟨l', rfl, valS_den h2⟩
    · cases h

theorem valE_den {E : Emb} {e : EV} {v : Value} (h : valE e = some v) : denE E e v := by
  cases e with
  | s x => simp only [denE]; exact valV_den h
  | agg cs =>
    simp only [valE] at h
    split at h
    · rename_i l hl
      simp only [Option.some.injEq] at h
      subst h
      exact ⟨_, rfl, by simpa using valS_den hl⟩
    · cases h
  | _ => simp [valE] at h

theorem run_sizeOf_ti (T : Tbl) {t : TypeId} {i : TI} (h : T.ty t = some i) (w : World) : (sizeOf t).run T.P w = .ok i.size w := by
  have h1 := (T.tyOk t i h).size
  cases hq : T.P.info? t with
  | none => rw [hq] at h1; cases h1
  | some x =>
    rw [hq] at h1
    simp at h1
    simp [sizeOf, typeInfo, hq, h1]

theorem run_zero_ti (T : Tbl) {t : TypeId} {i : TI} (h : T.ty t = some i) (w : World) : ∃ z, (zeroValue t).run T.P w = .ok z w ∧ ∀ E, denE E i.zero z := by
  obtain ⟨z, h1, h2⟩ := (T.tyOk t i h).zero
  cases hq : T.P.info? t with
  | none => rw [hq] at h2; cases h2
  | some x =>
    rw [hq] at h2
    simp at h2
    exact ⟨z, by simp [zeroValue, typeInfo, hq, h2], fun E => valE_den h1⟩

theorem run_isAgg_ti (T : Tbl) {t : TypeId} {i : TI} (h : T.ty t = some i) (w : World) : (isAgg t).run T.P w = .ok i.d.agg w := by
  have hd := (T.tyOk t i h).desc
  unfold isAgg
  cases hdd : i.d <;> rw [hdd] at hd <;> simp only [descOk] at hd
  case struct fs => obtain ⟨a, ha, _⟩ := hd; simp [run_underlying ha, TD.agg]
  case iface => obtain ⟨a, ha⟩ := hd; simp [run_underlying ha, TD.agg]
  case other => obtain ⟨a, b, c, ha⟩ := hd; simp [run_underlying ha, TD.agg]
  all_goals simp [run_underlying hd, TD.agg]

theorem fieldAddrX_snd (T : Tbl) {E : Emb} (w : World) (t : TypeId) (x : EV) (i : Nat) (u : Value) (hx : denE E x u) : (fieldAddrX T t x i).snd E T.P w (Instr.fieldAt t u i) := by
  unfold fieldAddrX
  split
  · rename_i fs h1
    split
    · rename_i ft off h2
      obtain ⟨a, f, ha, hf, rfl, rfl⟩ := field_of (T.tyOk _ _ h1).desc h2
      split
      · rename_i h3
        have hsz := run_sizeOf_ti T h3 w
        split
        · simp only [denE, denV] at hx
          obtain ⟨hb, rfl⟩ := hx
          refine ⟨_, ?_, ⟨hb, rfl⟩⟩
          simp [Instr.fieldAt, run_underlying ha, hf, Instr.sureAddr, fieldPlace, hsz, Emb.at_add]
        · simp only [denE, denV] at hx
          obtain ⟨hb, rfl⟩ := hx
          split
          · rename_i ho
            refine ⟨_, ?_, ⟨hb, rfl⟩⟩
            simp [Instr.fieldAt, run_underlying ha, hf, Instr.sureAddr, fieldPlace, hsz, Emb.at_add, ho]
          · trivial
        · simp only [denE, denV] at hx
          obtain ⟨hb, rfl⟩ := hx
          refine ⟨_, ?_, ⟨hb, rfl⟩⟩
          simp [Instr.fieldAt, run_underlying ha, hf, Instr.sureAddr, fieldPlace, hsz, Emb.at_add, Nat.add_right_comm]
        · trivial
      · trivial
    · trivial
  · trivial

theorem partX_snd (T : Tbl) {E : Emb} (w : World) (t : TypeId) (cs : List Seg) (off : Nat) (l : Array Value) (hl : denS E cs l.toList) : (partX T t cs off).snd E T.P w (part t l off) := by
  unfold partX
  split
  · rename_i i h
    have hag := run_isAgg_ti T h w
    have hsz := run_sizeOf_ti T h w
    split
    · rename_i hg
      split
      · rename_i r hr
        split
        · rename_i c hc
          obtain ⟨h1, h2⟩ := dropS_den hl hr
          obtain ⟨h3, h4, h5⟩ := takeS_den h1 hc
          refine ⟨_, ?_, ⟨l.extract off (off + i.size), rfl, ?_⟩⟩
          · simp [part, hag, hg, hsz]
          · rw [Array.toList_extract]
            simpa [List.extract_eq_take_drop] using h3
        · trivial
      · trivial
    · rename_i hg
      split
      · rename_i v hv
        obtain ⟨u, h1, h2⟩ := getS_den hl hv
        refine ⟨u, ?_, h2⟩
        rw [Array.getElem?_toList] at h1
        simp [part, hag, hg, h1]
      · trivial
  · trivial

theorem fieldX_snd (T : Tbl) {E : Emb} (w : World) (t : TypeId) (x : EV) (i : Nat) (u : Value) (hx : denE E x u) : (fieldX T t x i).snd E T.P w (Instr.field t u i) := by
  unfold fieldX
  split
  · rename_i fs cs h1
    split
    · rename_i ft off h2
      obtain ⟨a, f, ha, hf, rfl, rfl⟩ := field_of (T.tyOk _ _ h1).desc h2
      simp only [denE] at hx
      obtain ⟨l, rfl, hl⟩ := hx
      have := partX_snd T w f.type cs f.offset l hl
      have hr : (Instr.field t (.agg l) i).run T.P w = (part f.type l f.offset).run T.P w := by simp [Instr.field, run_underlying ha, hf, asAgg]
      unfold PR.snd at this ⊢
      split at this <;> simp_all
    · trivial
  · trivial

theorem nthB_get : ∀ {h : List Blk} {b : Nat} {B : Blk}, nthB h b = some B → h[b]? = some B
  | [], _, _, h => by simp [nthB] at h
  | x :: r, 0, B, h => by simpa [nthB] using h
  | x :: r, b + 1, B, h => by simp only [nthB] at h; simpa using nthB_get h

theorem indexAddrX_snd (T : Tbl) {E : Emb} {h : List Blk} (w : World) (t : TypeId) (x i : EV) (u v : Value) (hx : denE E x u) (hv : denE E i v) : (indexAddrX T h t x i).snd E T.P w (Instr.indexAt t u v) := by
  unfold indexAddrX
  split
  · rename_i n e b o k i h1
    have hd := (T.tyOk _ _ h1).desc
    simp only [descOk] at hd
    simp only [denE, denV] at hx hv
    obtain ⟨hb, rfl⟩ := hx
    subst hv
    split
    · rename_i te m cs sp h2 h3
      have hsz := run_sizeOf_ti T h2 w
      split
      · split
        · rename_i hs
          intro hi
          refine ⟨_, ?_, ⟨hb, rfl⟩⟩
          simp [Instr.indexAt, asIntOf, run_underlying hd, Instr.sureAddr, hi, hsz, hs, Emb.at_add]
        · trivial
      · intro hi
        refine ⟨_, ?_, ⟨hb, rfl⟩⟩
        simp [Instr.indexAt, asIntOf, run_underlying hd, Instr.sureAddr, hi, hsz, Emb.at_add]
    · trivial
  · rename_i e b o len cap k i h1
    have hd := (T.tyOk _ _ h1).desc
    simp only [descOk] at hd
    simp only [denE, denV] at hx hv
    obtain ⟨hb, rfl⟩ := hx
    subst hv
    split
    · rename_i te m cs sp h2 h3
      have hsz := run_sizeOf_ti T h2 w
      split
      · split
        · rename_i hs
          intro hi
          refine ⟨_, ?_, ⟨hb.1, rfl⟩⟩
          simp [Instr.indexAt, asIntOf, run_underlying hd, Instr.sureAddr, hi, hsz, hs, Emb.at_add]
        · trivial
      · intro hi
        refine ⟨_, ?_, ⟨hb.1, rfl⟩⟩
        simp [Instr.indexAt, asIntOf, run_underlying hd, Instr.sureAddr, hi, hsz, Emb.at_add]
    · rename_i te m n z f sp h2 h3
      have hsz := run_sizeOf_ti T h2 w
      split
      · rename_i hz
        have hz := Nat.eq_of_beq_eq_true hz
        intro hi
        refine ⟨_, ?_, ⟨hb.1, rfl⟩⟩
        simp [Instr.indexAt, asIntOf, run_underlying hd, Instr.sureAddr, hi, hsz, hz, Emb.at_add]
      · trivial
    · trivial
  · rename_i e b o len cap k i h1
    have hd := (T.tyOk _ _ h1).desc
    simp only [descOk] at hd
    simp only [denE, denV] at hx hv
    obtain ⟨hb, hnl, rfl⟩ := hx
    subst hv
    have hin : 0 ≤ i ∧ i < (len : Int) → (if (E.f b).nl = true then none else some (E.at b o)) = some (E.at b o) := fun hi => by
      cases hq : (E.f b).nl with
      | false => rfl
      | true => have := (hnl hq).1; omega
    generalize (if (E.f b).nl = true then none else some (E.at b o)) = ad at hin ⊢
    split
    · rename_i te m cs sp h2 h3
      have hsz := run_sizeOf_ti T h2 w
      split
      · split
        · rename_i hs
          intro hi
          refine ⟨_, ?_, ⟨hb, rfl⟩⟩
          simp [Instr.indexAt, asIntOf, run_underlying hd, Instr.sureAddr, hi, hsz, hs, Emb.at_add, hin hi]
        · trivial
      · intro hi
        refine ⟨_, ?_, ⟨hb, rfl⟩⟩
        simp [Instr.indexAt, asIntOf, run_underlying hd, Instr.sureAddr, hi, hsz, Emb.at_add, hin hi]
    · rename_i te m n z f sp h2 h3
      have hsz := run_sizeOf_ti T h2 w
      split
      · rename_i hz
        have hz := Nat.eq_of_beq_eq_true hz
        intro hi
        refine ⟨_, ?_, ⟨hb, rfl⟩⟩
        simp [Instr.indexAt, asIntOf, run_underlying hd, Instr.sureAddr, hi, hsz, hz, Emb.at_add, hin hi]
      · trivial
    · trivial
  · trivial

/-- Cells of a row, loaded. -/
theorem run_loadVar_cells (T : Tbl) {t : TypeId} {i : TI} (ht : T.ty t = some i) (hag : i.d.agg = true) (w : World) (a : Addr) (l : List Value) (hl : l.length = i.size)
    (h : ∀ j v, l[j]? = some v → w.cell? (a.add j) = some v) : (loadVar t a).run T.P w = .ok (.agg l.toArray) w := by
  have h1 := run_isAgg_ti T ht w
  have h2 := run_sizeOf_ti T ht w
  have h3 := run_loadCells_list (P := T.P) w a l h
  simp [loadVar, h1, hag, h2, ← hl, h3]

theorem nthL_den {E : Emb} : ∀ {l : List SV} {vs : List Value} {o : Nat} {v : SV}, denL E l vs → nthL l o = some v → ∃ u, vs[o]? = some u ∧ denV E v u
  | [], _, _, _, _, h => by simp [nthL] at h
  | x :: _, _, 0, v, hd, h => by
    simp only [nthL, Option.some.injEq] at h
    subst h
    simp only [denL] at hd
    obtain ⟨u, l', rfl, h1, _⟩ := hd
    exact ⟨u, by simp, h1⟩
  | x :: r, _, o + 1, v, hd, h => by
    simp only [nthL] at h
    simp only [denL] at hd
    obtain ⟨u, l', rfl, _, h3⟩ := hd
    obtain ⟨y, h4, h5⟩ := nthL_den h3 h
    exact ⟨y, by simpa using h4, h5⟩

theorem loadX_snd (T : Tbl) {E : Emb} {h : List Blk} {w : World} (S : Sim E h w) (t : TypeId) (x : EV) (u : Value) (hx : denE E x u) : (loadX T h t x).snd E T.P w (Instr.loadAt t u) := by
  unfold loadX
  split
  · rename_i i b o h1
    simp only [denE, denV] at hx
    obtain ⟨hb, rfl⟩ := hx
    split
    · rename_i m cs sp h2
      obtain ⟨l, hl, hw, _⟩ := S.look (nthB_get h2)
      split
      · rename_i hg
        split
        · rename_i r hr
          split
          · rename_i c hc
            obtain ⟨h3, h4⟩ := dropS_den hl hr
            obtain ⟨h5, h6, h7⟩ := takeS_den h3 hc
            refine ⟨_, ?_, ⟨((l.drop o).take i.size).toArray, rfl, by simpa using h5⟩⟩
            simp only [Instr.loadAt, Instr.sureAddr, Sem.run_bind, Sem.run_pure, Result.andThen_ok]
            refine run_loadVar_cells T h1 hg w _ _ (by rw [denS_length h5, h6]) (fun j v hj => ?_)
            rw [Emb.at_add]
            simp only [List.getElem?_take, List.getElem?_drop] at hj
            split at hj
            · have := hw (o + j) v hj
              simpa [Emb.at, Nat.add_assoc] using this
            · cases hj
          · trivial
        · trivial
      · rename_i hg
        split
        · rename_i v hv
          obtain ⟨z, h3, h4⟩ := getS_den hl hv
          refine ⟨z, ?_, h4⟩
          have h5 := run_isAgg_ti T h1 w
          have h6 := hw o z h3
          have h7 : w.cell? (E.at b o) = some z := h6
          simp [Instr.loadAt, Instr.sureAddr, loadVar, h5, hg, h7]
        · trivial
    · trivial
  · rename_i i b o j h1
    simp only [denE, denV] at hx
    obtain ⟨hb, rfl⟩ := hx
    split
    · rename_i m cs sp h2
      obtain ⟨l, hl, hw, _⟩ := S.look (nthB_get h2)
      split
      · trivial
      · rename_i hg
        split
        · rename_i k n f hi
          intro hj
          have h3 := getI_den hl hi j hj
          have h6 := hw _ _ h3
          have h7 : w.cell? (E.at b (o + j)) = some (.int k (f j)) := by simpa [Emb.at] using h6
          have h5 := run_isAgg_ti T h1 w
          exact ⟨_, by simp [Instr.loadAt, Instr.sureAddr, loadVar, h5, hg, h7], rfl⟩
        · trivial
    · trivial
  · rename_i i b o j z h1
    simp only [denE, denV] at hx
    obtain ⟨hb, rfl⟩ := hx
    split
    · rename_i m n z' f sp h2
      split
      · rename_i hz
        have hz := Nat.eq_of_beq_eq_true hz
        subst hz
        split
        · rename_i hg
          split
          · rename_i hs
            have hs := Nat.eq_of_beq_eq_true hs
            intro hj
            obtain ⟨l, h3, h4, h5, _⟩ := S.lookR (nthB_get h2) hj
            refine ⟨_, ?_, ⟨l.toArray, rfl, by simpa using denS_ones.2 h3⟩⟩
            simp only [Instr.loadAt, Instr.sureAddr, Sem.run_bind, Sem.run_pure, Result.andThen_ok]
            refine run_loadVar_cells T h1 hg w _ _ (by rw [h4, hs]) (fun q v hq => ?_)
            rw [Emb.at_add]
            simpa [Emb.at, Nat.add_assoc] using h5 q v hq
          · trivial
        · rename_i hg
          split
          · rename_i v hv
            intro hj
            obtain ⟨l, h3, h4, h5, _⟩ := S.lookR (nthB_get h2) hj
            obtain ⟨u, h6, h7⟩ := nthL_den h3 hv
            refine ⟨u, ?_, h7⟩
            have h8 := run_isAgg_ti T h1 w
            have h9 := h5 _ _ h6
            have h10 : w.cell? (E.at b (o + j * z)) = some u := by
              rw [Nat.add_comm o]
              simpa [Emb.at, Nat.add_assoc] using h9
            simp [Instr.loadAt, Instr.sureAddr, loadVar, h8, hg, h10]
          · trivial
      · trivial
    · trivial
  · trivial

theorem svs_den {E : Emb} : ∀ {l : List EV} {vs : List SV} {us : List Value}, denT E l us → svs l = some vs → denL E vs us
  | [], _, _, hd, h => by
    simp only [svs, Option.some.injEq] at h
    subst h
    simpa only [denL, denT] using hd
  | .s v :: r, vs, us, hd, h => by
    simp only [svs, Option.map_eq_some_iff] at h
    obtain ⟨c, hc, rfl⟩ := h
    simp only [denT] at hd
    obtain ⟨u, l', rfl, h1, h2⟩ := hd
    simp only [denE] at h1
    simp only [denL]
    exact ⟨u, l', rfl, h1, svs_den h2 hc⟩
  | .agg _ :: _, _, _, _, h => by simp [svs] at h
  | .tuple _ :: _, _, _, _, h => by simp [svs] at h
  | .gd _ _ :: _, _, _, _, h => by simp [svs] at h
  | .junk :: _, _, _, _, h => by simp [svs] at h

theorem denT_map {E : Emb} (ev : Operand → EV) (ρ : Operand → Value) : ∀ (l : List Operand), (∀ x ∈ l, denE E (ev x) (ρ x)) → denT E (l.map ev) (l.map ρ)
  | [], _ => by simp [denT]
  | x :: r, h => by
    simp only [List.map_cons, denT]
    exact ⟨_, _, rfl, h x (by simp), denT_map ev ρ r (fun y hy => h y (by simp [hy]))⟩

theorem denL_append {E : Emb} : ∀ {a b : List SV} {l m : List Value}, denL E a l → denL E b m → denL E (a ++ b) (l ++ m)
  | [], b, l, m, h1, h2 => by simp only [denL] at h1; subst h1; exact h2
  | x :: a, b, l, m, h1, h2 => by
    simp only [denL] at h1
    obtain ⟨v, l', rfl, h3, h4⟩ := h1
    exact ⟨v, l' ++ m, rfl, h3, denL_append h4 h2⟩

theorem flat_den {E : Emb} : ∀ {cs : List Seg} {vs : List SV} {l : List Value}, denS E cs l → flat cs = some vs → denL E vs l
  | [], _, _, hd, h => by
    simp only [flat, Option.some.injEq] at h
    subst h
    simpa only [denL, denS] using hd
  | .one v :: r, vs, l, hd, h => by
    simp only [flat, Option.map_eq_some_iff] at h
    obtain ⟨c, hc, rfl⟩ := h
    simp only [denS] at hd
    obtain ⟨u, l', rfl, h1, h2⟩ := hd
    simp only [denL]
    exact ⟨u, l', rfl, h1, flat_den h2 hc⟩
  | .ints k n f :: r, vs, l, hd, h => by
    simp only [flat, Option.map_eq_some_iff] at h
    obtain ⟨c, hc, rfl⟩ := h
    simp only [denS] at hd
    obtain ⟨l', rfl, h2⟩ := hd
    refine denL_append ?_ (flat_den h2 hc)
    have key : ∀ js : List Nat, denL E (js.map fun j => SV.int k (f j)) (js.map fun j => Value.int k (f j)) := fun js => by
      induction js with
      | nil => simp [denL]
      | cons j js ih => simp only [List.map_cons, denL]; exact ⟨_, _, rfl, by simp only [denV], ih⟩
    exact key _

theorem nthE_den {E : Emb} : ∀ {vs : List EV} {l : List Value} {i : Nat} {v : EV}, denT E vs l → nthE vs i = some v → ∃ u, l[i]? = some u ∧ denE E v u
  | [], _, _, _, _, h => by simp [nthE] at h
  | x :: r, l, 0, v, hd, h => by
    simp only [nthE, Option.some.injEq] at h
    subst h
    simp only [denT] at hd
    obtain ⟨u, l', rfl, h1, _⟩ := hd
    exact ⟨u, by simp, h1⟩
  | x :: r, l, i + 1, v, hd, h => by
    simp only [nthE] at h
    simp only [denT] at hd
    obtain ⟨u, l', rfl, _, h2⟩ := hd
    obtain ⟨z, h3, h4⟩ := nthE_den h2 h
    exact ⟨z, by simpa using h3, h4⟩


/-! ### what slices and strings yield -/

theorem byteCells_intsOf (s : ByteArray) : byteCells s = intsOf .u8 s.size (strF s) := by
  apply List.ext_getElem?
  intro j
  have hsz : s.size = s.data.toList.length := by rw [Array.length_toList]; rfl
  rcases Nat.lt_or_ge j s.size with h | h
  · rw [intsOf_get h]
    have h' : j < s.data.toList.length := by rw [← hsz]; exact h
    simp only [byteCells, List.getElem?_map, List.getElem?_eq_getElem h', Option.map_some, strF]
    rw [List.getD_eq_getElem?_getD, List.getElem?_map, List.getElem?_eq_getElem h']
    rfl
  · rw [List.getElem?_eq_none (by rw [byteCells_length]; exact h), List.getElem?_eq_none (by rw [length_intsOf]; exact h)]

/-- Cells that lie behind one another from a place on. -/
def atPlace (w : World) (a : Addr) (l : List Value) : Prop := ∀ j v, l[j]? = some v → w.cell? (a.add j) = some v

theorem intsOf_sub {k : IntKind} {m : Nat} {f : Nat → Int} {w : World} {b off o n : Nat} {l : List Value} (hl : l = intsOf k m f) (h : ∀ j v, l[j]? = some v → w.cell? ⟨b, off + j, none⟩ = some v) (ho : o + n ≤ m) :
    ∀ j v, (intsOf k n (shf o f))[j]? = some v → w.cell? ⟨b, off + o + j, none⟩ = some v := by
  subst hl
  intro j v hj
  rcases Nat.lt_or_ge j n with h1 | h1
  · rw [intsOf_get h1] at hj
    rw [Nat.add_assoc]
    refine h (o + j) v ?_
    rw [intsOf_get (by omega)]
    exact hj
  · rw [List.getElem?_eq_none (by rw [length_intsOf]; exact h1)] at hj
    cases hj

theorem rngAt_snd {E : Emb} {h : List Blk} {w : World} (S : Sim E h w) {size b o n : Nat} {r : Rng} (hr : rngAt h size b o n = some r) (hp : r.p) :
    ∃ news, denS E r.cs news ∧ news.length = n * size ∧ r.n = n ∧ (∀ j v, news[j]? = some v → w.cell? ⟨(E.f b).1, (E.f b).2 + o + j, none⟩ = some v) := by
  unfold rngAt at hr
  split at hr
  · rename_i m k q f sp hb
    obtain ⟨l, h1, h2, _⟩ := S.look (nthB_get hb)
    split at hr
    · simp only [Option.some.injEq] at hr
      subst hr
      simp only [denS] at h1
      obtain ⟨l', h1, rfl⟩ := h1
      rw [List.append_nil] at h1
      exact ⟨intsOf k n (shf o f), ⟨[], by rw [List.append_nil], rfl⟩, by rw [length_intsOf, Nat.mul_one], rfl, intsOf_sub h1 h2 hp⟩
    · cases hr
  · rename_i m cs sp _ hb
    obtain ⟨l, h1, h2, _⟩ := S.look (nthB_get hb)
    split at hr
    · simp only [Option.some.injEq] at hr
      subst hr
      exact ⟨l, h1, by rw [denS_length h1]; exact hp, rfl, by simpa using h2⟩
    · cases hr
  · cases hr

/-- **What a slice or a string yields.** -/
theorem rngX_snd (T : Tbl) {E : Emb} {h : List Blk} {w : World} (S : Sim E h w) {size : Nat} {y : EV} {v : Value} (hy : denE E y v) {r : Rng} (hr : rngX h size y = some r) (hp : r.p) {tx : TypeId}
    (hk : (∃ s, y = .s (.str s)) ∧ T.P.underlying tx = some .string ∨ (¬ ∃ s, y = .s (.str s)) ∧ ∃ e', T.P.underlying tx = some (.slice e')) :
    ∃ news, denS E r.cs news ∧ Src T.P size tx v r.n news w := by
  unfold rngX at hr
  split at hr
  · simp only [Option.some.injEq] at hr
    subst hr
    simp only [denE, denV] at hy
    subst hy
    rcases hk with ⟨⟨s, hs⟩, _⟩ | ⟨_, e', hk⟩
    · cases hs
    · exact ⟨[], rfl, Src.ofNil w hk 0⟩
  · rename_i s
    split at hr
    · simp only [Option.some.injEq] at hr
      subst hr
      simp only [denE, denV] at hy
      subst hy
      rcases hk with ⟨_, hk⟩ | ⟨hk, _⟩
      · exact ⟨byteCells s, ⟨[], by rw [List.append_nil, byteCells_intsOf], rfl⟩, Src.ofString w hk s⟩
      · exact absurd ⟨s, rfl⟩ hk
    · cases hr
  · rename_i b o n c
    simp only [denE, denV] at hy
    obtain ⟨hb, rfl⟩ := hy
    rcases hk with ⟨⟨s, hs⟩, _⟩ | ⟨_, e', hk⟩
    · cases hs
    obtain ⟨news, h1, h2, h3, h4⟩ := rngAt_snd S hr hp
    refine ⟨news, h1, ?_⟩
    rw [h3]
    refine Src.ofSlice w hk _ n c news h2 (fun j u hj => ?_) (denS_oneCell h1)
    rw [Emb.at_add]
    unfold Emb.at
    rw [← Nat.add_assoc]
    exact h4 j u hj
  · rename_i b o n c
    simp only [denE, denV] at hy
    obtain ⟨hb, hnl, rfl⟩ := hy
    rcases hk with ⟨⟨s, hs⟩, _⟩ | ⟨_, e', hk⟩
    · cases hs
    obtain ⟨news, h1, h2, h3, h4⟩ := rngAt_snd S hr hp
    refine ⟨news, h1, ?_⟩
    rw [h3]
    cases hq : (E.f b).nl with
    | true =>
      obtain ⟨rfl, rfl⟩ := hnl hq
      obtain rfl : news = [] := List.eq_nil_of_length_eq_zero (by simpa using h2)
      exact Src.ofNil w hk 0
    | false =>
      refine Src.ofSlice w hk _ n c news h2 (fun j u hj => ?_) (denS_oneCell h1)
      rw [Emb.at_add]
      unfold Emb.at
      rw [← Nat.add_assoc]
      exact h4 j u hj
  · cases hr

theorem convX_snd (T : Tbl) {E : Emb} {h : List Blk} {w : World} (S : Sim E h w) (src dst : TypeId) (x : EV) (u : Value) (hx : denE E x u) : (convX T h src dst x).snd E T.P w (convert src dst u) := by
  unfold convX
  split
  · rename_i h1 h2
    split
    · have d1 : T.P.underlying src = some (.int _) := (T.tyOk _ _ h1).desc
      have d2 : T.P.underlying dst = some (.int _) := (T.tyOk _ _ h2).desc
      simp only [denE, denV] at hx; subst hx
      exact ⟨_, by simp [convert, run_underlying d1, run_underlying d2, Conv.intToInt], rfl⟩
    · trivial
  · rename_i e _ _ _ _ _ _ h1 h2
    have d1 : T.P.underlying src = some (.slice _) := (T.tyOk _ _ h1).desc
    have d2 : T.P.underlying dst = some .string := (T.tyOk _ _ h2).desc
    split
    · rename_i h3
      have d3 : T.P.underlying e = some (.int .u8) := (T.tyOk _ _ h3).desc
      have step : ∀ {r : Rng}, isStr x = false → rngX h 1 x = some r → r.p → ∃ news, denS E r.cs news ∧ news.length = r.n ∧
          (u = .slice none 0 0 ∧ r.n = 0 ∨ ∃ a c, u = .slice (some a) r.n c ∧ (loadCells a r.n).run T.P w = .ok news.toArray w) := fun {r} hs hr hp => by
        obtain ⟨news, k1, k2⟩ := rngX_snd T S hx hr hp (tx := src) (.inr ⟨fun ⟨s, h⟩ => (by rw [h] at hs; cases hs), _, d1⟩)
        refine ⟨news, k1, by simpa using k2.newsLen, ?_⟩
        have hlen := k2.len w
        have hc := k2.cells
        unfold rngX at hr
        split at hr
        · simp only [Option.some.injEq] at hr
          subst hr
          simp only [denE, denV] at hx
          exact .inl ⟨hx, rfl⟩
        · cases hs
        · simp only [denE, denV] at hx
          obtain ⟨_, rfl⟩ := hx
          simp only [Builtin.lenOf, Sem.run_pure, Result.ok.injEq, and_true] at hlen
          rw [hlen]
          simp only [Builtin.firstCells, Nat.mul_one] at hc
          exact .inr ⟨_, _, rfl, hc⟩
        · rename_i b o n c
          simp only [denE, denV] at hx
          obtain ⟨_, hnl, rfl⟩ := hx
          simp only [Builtin.lenOf, Sem.run_pure, Result.ok.injEq, and_true] at hlen
          cases hq : (E.f b).nl with
          | true =>
            obtain ⟨h0, h1⟩ := hnl hq
            rw [← hlen]
            exact .inl ⟨by simp [h0, h1], h0⟩
          | false =>
            simp only [hq, Bool.false_eq_true, if_false] at hc ⊢
            simp only [Builtin.firstCells, Nat.mul_one] at hc
            rw [hlen]
            exact .inr ⟨_, _, rfl, hc⟩
        · cases hr
      have fin : ∀ {n : Nat} {f : Nat → Int}, (u = .slice none 0 0 ∧ n = 0 ∨ ∃ a c, u = .slice (some a) n c ∧ (loadCells a n).run T.P w = .ok (intsOf .u8 n f).toArray w) → (convert src dst u).run T.P w = .ok (.string (bytesOf n f)) w := fun {n f} hu => by
        rcases hu with ⟨rfl, rfl⟩ | ⟨a, c, rfl, hl⟩
        · simp [convert, run_underlying d1, run_underlying d2, run_underlying d3, Conv.bytesToString, bytesOf]
        · have := run_bytesToString (P := T.P) w a n c ((List.range n).map f) (by rw [List.map_map]; exact hl)
          simp [convert, run_underlying d1, run_underlying d2, run_underlying d3, this, bytesOf]
      split
      · rename_i p n hs hr
        rintro ⟨hp, hn0⟩
        subst hn0
        obtain ⟨news, k1, k2, k3⟩ := step hs hr hp
        simp only [denS] at k1
        subst k1
        refine ⟨_, ?_, rfl⟩
        have := fin (n := 0) (f := fun _ => 0) (by simpa [intsOf] using k3)
        simpa [bytesOf] using this
      · rename_i p n k' f hs hr
        intro hp
        obtain ⟨news, k1, k2, k3⟩ := step hs hr hp
        simp only [denS] at k1
        obtain ⟨l', rfl, rfl⟩ := k1
        rw [List.append_nil] at k2 k3
        rw [length_intsOf] at k2
        subst k2
        exact ⟨_, fin k3, rfl⟩
      · trivial
    · trivial
  · trivial

theorem boundX_run {E : Emb} {b : Option EV} {v : Option Value} {d : Nat} {i : Int} (h : boundX b d = some i) (hd : ∀ e ∈ b, ∃ x ∈ v, denE E e x) (hn : b = none → v = none) :
    (v = none ∧ i = d) ∨ ∃ k, v = some (.int k i) := by
  unfold boundX at h
  split at h
  · simp only [Option.some.injEq] at h
    exact .inl ⟨hn rfl, h.symm⟩
  · simp only [Option.some.injEq] at h
    subst h
    obtain ⟨x, hx, hxd⟩ := hd _ rfl
    simp only [denE, denV] at hxd
    subst hxd
    exact .inr ⟨_, by simpa using hx⟩
  · cases h

theorem run_sliceBounds {P : Program} {w : World} (sl : Bool) {n c : Nat} {lo hi : Option Value} {l h : Int} (hl : (lo = none ∧ l = 0) ∨ ∃ k, lo = some (.int k l)) (hh : (hi = none ∧ h = n) ∨ ∃ k, hi = some (.int k h)) (hb : 0 ≤ l ∧ l ≤ h ∧ h ≤ c) :
    (Instr.sliceBounds sl n c lo hi none).run P w = .ok (l.toNat, h.toNat, c) w := by
  have h1 : 0 ≤ h := by omega
  rcases hl with ⟨rfl, rfl⟩ | ⟨k, rfl⟩ <;> rcases hh with ⟨rfl, rfl⟩ | ⟨k', rfl⟩
  · simp [Instr.sliceBounds]
  · simp [Instr.sliceBounds, Instr.sliceBound, asIntOf, h1, hb]
  · have hx : l ≤ ((n : Nat) : Int) := hb.2.1
    simp [Instr.sliceBounds, Instr.sliceBound, asIntOf, hb.1, hx]
  · have hx : l ≤ ((h.toNat : Nat) : Int) := by omega
    have hx' : ¬ (max h 0 < l) := by omega
    simp [Instr.sliceBounds, Instr.sliceBound, asIntOf, hb, h1, hx']

theorem run_sliceBounds3 {P : Program} {w : World} (sl : Bool) {n c : Nat} {lo : Option Value} {l h m : Int} {kh km : IntKind} (hl : (lo = none ∧ l = 0) ∨ ∃ k, lo = some (.int k l)) (hb : 0 ≤ l ∧ l ≤ h ∧ h ≤ m ∧ m ≤ c) :
    (Instr.sliceBounds sl n c lo (some (.int kh h)) (some (.int km m))).run P w = .ok (l.toNat, h.toNat, m.toNat) w := by
  have h0 : 0 ≤ m := by omega
  have h1 : 0 ≤ h := by omega
  have h2 : h ≤ ((m.toNat : Nat) : Int) := by omega
  have h3 : l ≤ ((h.toNat : Nat) : Int) := by omega
  have e1 : (Instr.sliceBound (.int km m) c (if sl then .slice3Acap else .slice3Alen)).run P w = .ok m.toNat w := by
    unfold Instr.sliceBound
    simp only [asIntOf, Sem.run_bind, Sem.run_pure, Result.andThen_ok]
    rw [if_pos ⟨h0, hb.2.2.2⟩]; rfl
  have e2 : (Instr.sliceBound (.int kh h) m.toNat .slice3B).run P w = .ok h.toNat w := by
    unfold Instr.sliceBound
    simp only [asIntOf, Sem.run_bind, Sem.run_pure, Result.andThen_ok]
    rw [if_pos ⟨h1, h2⟩]; rfl
  rcases hl with ⟨rfl, rfl⟩ | ⟨k, rfl⟩
  · simp only [Instr.sliceBounds, Sem.run_bind, e1, e2, Result.andThen_ok, Sem.run_pure]
    rfl
  · have e3 : (Instr.sliceBound (.int k l) h.toNat .slice3C).run P w = .ok l.toNat w := by
      unfold Instr.sliceBound
      simp only [asIntOf, Sem.run_bind, Sem.run_pure, Result.andThen_ok]
      rw [if_pos ⟨hb.1, h3⟩]; rfl
    simp only [Instr.sliceBounds, Sem.run_bind, e1, e2, Result.andThen_ok, Sem.run_pure, Option.isSome, if_true, e3]

theorem sliceMX_snd (T : Tbl) {E : Emb} (w : World) (t : TypeId) (x : EV) (lo hi : Option EV) (mx : EV) (u : Value) (vlo vhi vmx : Option Value) (hx : denE E x u)
    (dlo : ∀ e ∈ lo, ∃ y ∈ vlo, denE E e y) (dhi : ∀ e ∈ hi, ∃ y ∈ vhi, denE E e y) (dmx : ∃ y ∈ vmx, denE E mx y) (nlo : lo = none → vlo = none) :
    (sliceMX T t x lo hi mx).snd E T.P w (Instr.sliceAt t u vlo vhi vmx) := by
  unfold sliceMX
  split
  · rename_i km m kh h
    obtain ⟨y, hy, hyd⟩ := dmx
    obtain ⟨z, hz, hzd⟩ := dhi _ rfl
    simp only [denE, denV] at hyd hzd
    subst hyd; subst hzd
    simp only [Option.mem_def] at hy hz
    subst hy; subst hz
    split
    · rename_i e b o n c h1
      have hd : T.P.underlying t = some (.slice _) := (T.tyOk _ _ h1).desc
      simp only [denE, denV] at hx
      obtain ⟨hbn, rfl⟩ := hx
      split
      · rename_i te l h4 h2
        intro hb
        have hr := run_sliceBounds3 (P := T.P) (w := w) (n := n) (kh := kh) (km := km) true (boundX_run h2 dlo nlo) hb
        have hsz := run_sizeOf_ti T h4 w
        refine ⟨_, by simp [Instr.sliceAt, Instr.slice, run_underlying hd, hr, hsz]; rfl, ?_⟩
        simp only [denE, denV, skip]
        refine ⟨hbn, ?_⟩
        split <;> simp [Emb.at_add]
      · trivial
    · rename_i e b o n c h1
      have hd : T.P.underlying t = some (.slice _) := (T.tyOk _ _ h1).desc
      simp only [denE, denV] at hx
      obtain ⟨hbn, hnl, hu⟩ := hx
      have hu' : ((E.f b).nl = true ∧ n = 0 ∧ c = 0 ∧ u = .slice none n c) ∨ ((E.f b).nl = false ∧ u = .slice (some (E.at b o)) n c) := by
        cases hq : (E.f b).nl with
        | true => rw [hq] at hu hnl; exact .inl ⟨rfl, (hnl rfl).1, (hnl rfl).2, by simpa using hu⟩
        | false => rw [hq] at hu; exact .inr ⟨rfl, by simpa using hu⟩
      clear hu
      split
      · rename_i te l h4 h2
        intro hb
        have hr := run_sliceBounds3 (P := T.P) (w := w) (n := n) (kh := kh) (km := km) true (boundX_run h2 dlo nlo) hb
        have hsz := run_sizeOf_ti T h4 w
        rcases hu' with ⟨hq, rfl, rfl, rfl⟩ | ⟨hq, rfl⟩
        · refine ⟨_, by simp [Instr.sliceAt, Instr.slice, run_underlying hd, hr, hsz]; rfl, ?_⟩
          simp only [denE, denV, skip, hq, if_true]
          refine ⟨hbn, fun _ => by omega, ?_⟩
          simp
        · refine ⟨_, by simp [Instr.sliceAt, Instr.slice, run_underlying hd, hr, hsz]; rfl, ?_⟩
          simp only [denE, denV, skip, hq, Bool.false_eq_true, if_false]
          refine ⟨hbn, fun h' => h'.elim, ?_⟩
          split <;> simp [Emb.at_add]
      · trivial
    · trivial
  · trivial

theorem sliceX_snd (T : Tbl) {E : Emb} (w : World) (t : TypeId) (x : EV) (lo hi mx : Option EV) (u : Value) (vlo vhi vmx : Option Value) (hx : denE E x u)
    (dlo : ∀ e ∈ lo, ∃ y ∈ vlo, denE E e y) (dhi : ∀ e ∈ hi, ∃ y ∈ vhi, denE E e y) (nlo : lo = none → vlo = none) (nhi : hi = none → vhi = none) (nmx : mx = none → vmx = none) (dmx : ∀ e ∈ mx, ∃ y ∈ vmx, denE E e y) :
    (sliceX T t x lo hi mx).snd E T.P w (Instr.sliceAt t u vlo vhi vmx) := by
  unfold sliceX
  split
  · exact sliceMX_snd T w t x lo hi _ u vlo vhi vmx hx dlo dhi (dmx _ rfl) nlo
  · rw [nmx rfl]
    split
    · rename_i s h1
      have hd : T.P.underlying t = some .string := (T.tyOk _ _ h1).desc
      simp only [denE, denV] at hx
      subst hx
      split
      · rename_i l h h2 h3
        intro hb
        have hr := run_sliceBounds (P := T.P) (w := w) false (boundX_run h2 dlo nlo) (boundX_run h3 dhi nhi) hb
        exact ⟨_, by simp [Instr.sliceAt, Instr.slice, run_underlying hd, hr], rfl⟩
      · trivial
    · rename_i e b o n c h1
      have hd : T.P.underlying t = some (.slice _) := (T.tyOk _ _ h1).desc
      simp only [denE, denV] at hx
      obtain ⟨hbn, rfl⟩ := hx
      split
      · rename_i te l h h4 h2 h3
        intro hb
        have hr := run_sliceBounds (P := T.P) (w := w) true (boundX_run h2 dlo nlo) (boundX_run h3 dhi nhi) hb
        have hsz := run_sizeOf_ti T h4 w
        refine ⟨_, by simp [Instr.sliceAt, Instr.slice, run_underlying hd, hr, hsz]; rfl, ?_⟩
        simp only [denE, denV, skip]
        refine ⟨hbn, ?_⟩
        split <;> simp [Emb.at_add]
      · trivial
    · rename_i e b o n c h1
      have hd : T.P.underlying t = some (.slice _) := (T.tyOk _ _ h1).desc
      simp only [denE, denV] at hx
      obtain ⟨hbn, hnl, hu⟩ := hx
      have hu' : ((E.f b).nl = true ∧ n = 0 ∧ c = 0 ∧ u = .slice none n c) ∨ ((E.f b).nl = false ∧ u = .slice (some (E.at b o)) n c) := by
        cases hq : (E.f b).nl with
        | true => rw [hq] at hu hnl; exact .inl ⟨rfl, (hnl rfl).1, (hnl rfl).2, by simpa using hu⟩
        | false => rw [hq] at hu; exact .inr ⟨rfl, by simpa using hu⟩
      clear hu
      split
      · rename_i te l h h4 h2 h3
        intro hb
        have hr := run_sliceBounds (P := T.P) (w := w) true (boundX_run h2 dlo nlo) (boundX_run h3 dhi nhi) hb
        have hsz := run_sizeOf_ti T h4 w
        rcases hu' with ⟨hq, rfl, rfl, rfl⟩ | ⟨hq, rfl⟩
        · refine ⟨_, by simp [Instr.sliceAt, Instr.slice, run_underlying hd, hr, hsz]; rfl, ?_⟩
          simp only [denE, denV, skip, hq, if_true]
          refine ⟨hbn, fun _ => by omega, ?_⟩
          simp
        · refine ⟨_, by simp [Instr.sliceAt, Instr.slice, run_underlying hd, hr, hsz]; rfl, ?_⟩
          simp only [denE, denV, skip, hq, Bool.false_eq_true, if_false]
          refine ⟨hbn, fun h' => h'.elim, ?_⟩
          split <;> simp [Emb.at_add]
      · trivial
    · trivial

end Go.Anv

/- The engine, part 5: the walker is right: a piece of code that is walked does what the walker says. Plain theorems; their conditions are the table's own facts. -/
namespace Go.Anv
open Go

def PR.yl (E : Emb) (P : Program) (w : World) (m : Sem Next) : PR → Prop
  | .fail => True
  | .ok v => ∃ z, m.run P w = .ok (.value z) w ∧ denE E v z
  | .need p v => p → ∃ z, m.run P w = .ok (.value z) w ∧ denE E v z

theorem PR.snd.yl {E : Emb} {P : Program} {w : World} {m : Sem Value} {n : Sem Next} {r : PR} (h : r.snd E P w m) (hn : n = (do pure (.value (← m)))) : r.yl E P w n := by
  subst hn
  cases r with
  | fail => trivial
  | ok v =>
    obtain ⟨z, h1, h2⟩ := h
    exact ⟨z, by simp [h1], h2⟩
  | need p v =>
    intro hp
    obtain ⟨z, h1, h2⟩ := h hp
    exact ⟨z, by simp [h1], h2⟩

theorem nilX_yl (T : Tbl) {E : Emb} (w : World) (e : EV) (v : Value) (hx : denE E e v) : (nilX T e).yl E T.P w (execOp (fun _ => v) { dst := none, op := .nilCheck (.tmp 0), type := 0, pos := "", after := #[], guard := none }) := by
  unfold nilX
  split
  · simp only [denE, denV] at hx
    obtain ⟨h1, h2⟩ := hx
    exact ⟨_, by subst h2; rfl, ⟨h1, rfl⟩⟩
  · simp only [denE, denV] at hx
    obtain ⟨h1, h2⟩ := hx
    exact ⟨_, by subst h2; rfl, ⟨h1, rfl⟩⟩
  · simp only [denE, denV] at hx
    obtain ⟨h1, h2⟩ := hx
    exact ⟨_, by subst h2; rfl, ⟨h1, rfl⟩⟩
  · have hx' := hx
    simp only [denE, denV] at hx
    obtain ⟨f', c', h1, _⟩ := hx
    exact ⟨v, by subst h1; rfl, hx'⟩
  · rename_i m t b o a c
    split
    · rename_i f hf
      have hx' := hx
      simp only [denE, denV] at hx
      obtain ⟨f', c', h1, h2, _⟩ := hx
      simp only [denL, denV] at h2
      obtain ⟨rv, l', h3, ⟨x, h4, x', lx, h5, ⟨h6, h7⟩, h8⟩, _⟩ := h2
      subst h8
      simp only [List.cons.injEq, and_true] at h5
      subst h5
      subst h7
      subst h4
      subst h1
      have h9 : f'[0]? = some (.iface t (.pointer (some (E.at b o)))) := by
        rw [← Array.getElem?_toList, h3]; rfl
      have h10 := (T.mthOk t m f hf (E.at b o) w).2
      refine ⟨_, ?_, hx'⟩
      unfold execOp
      simp only [h9, Sem.run_bind, run_program, Result.andThen_ok, h10]
      rfl
    · trivial
  · rename_i t a c
    have hx' := hx
    cases a <;> (simp only [denE, denV] at hx; obtain ⟨y, h1, _⟩ := hx; exact ⟨v, by subst h1; rfl, hx'⟩)
  · trivial

theorem assertX_snd (T : Tbl) {E : Emb} (w : World) (xt t : TypeId) (ok : Bool) (x : EV) (u : Value) (hx : denE E x u) : (assertX T t ok x).snd E T.P w (Instr.typeAssert u xt t ok) := by
  unfold assertX
  split
  · rename_i i ht
    have hd := (T.tyOk _ _ ht).desc
    obtain ⟨z, hz, hzd⟩ := run_zero_ti T ht w
    have hnot : (∀ ms, T.P.underlying t ≠ some (.interface ms)) ∨ i.d = .iface := by
      by_cases h : i.d = .iface
      · exact .inr h
      · refine .inl fun ms e => ?_
        obtain ⟨d, s, b, z⟩ := i
        cases d <;> simp only [descOk] at hd
        case struct fs => obtain ⟨a, ha, _⟩ := hd; rw [ha] at e; cases e
        case iface => exact h rfl
        case other => obtain ⟨a, b', c, ha⟩ := hd; rw [ha] at e; cases e
        all_goals (rw [hd] at e; cases e)
    have hsome : ∃ d, T.P.underlying t = some d := by
      cases hdd : i.d <;> rw [hdd] at hd <;> simp only [descOk] at hd
      case struct fs => obtain ⟨a, ha, _⟩ := hd; exact ⟨_, ha⟩
      case iface => obtain ⟨a, ha⟩ := hd; exact ⟨_, ha⟩
      case other => obtain ⟨a, b, c, ha⟩ := hd; exact ⟨_, ha⟩
      all_goals exact ⟨_, hd⟩
    split
    · trivial
    · rename_i hni
      obtain ⟨d, hdd⟩ := hsome
      have hn : ∀ ms, d ≠ .interface ms := fun ms e => by
        rcases hnot with h | h
        · exact h ms (by rw [hdd, e])
        · exact hni h
      have hrun : ∀ (v : Nat) (y : Value), (Instr.typeAssert (.iface v y) xt t true).run T.P w = .ok (if v = t then .tuple #[y, .bool true] else .tuple #[z, .bool false]) w := fun v y => by
        unfold Instr.typeAssert
        rw [Sem.run_bind, run_underlying hdd, Result.andThen_ok]
        cases d <;> first
          | (rename_i ms; exact absurd rfl (hn ms))
          | (by_cases hv : v = t <;> simp [hv, hz])
      have hnil : (Instr.typeAssert .nilIface xt t true).run T.P w = .ok (.tuple #[z, .bool false]) w := by
        unfold Instr.typeAssert
        rw [Sem.run_bind, run_underlying hdd, Result.andThen_ok]
        cases d <;> first
          | (rename_i ms; exact absurd rfl (hn ms))
          | simp [hz]
      split
      · rename_i v l
        simp only [denE, denV] at hx
        obtain ⟨a, rfl, ha⟩ := hx
        split
        · rename_i hq
          have hq := Nat.eq_of_beq_eq_true hq
          refine ⟨_, hrun v _, ?_⟩
          rw [if_pos hq]
          exact ⟨_, rfl, ⟨_, _, rfl, ⟨a, rfl, denS_ones.2 ha⟩, ⟨_, _, rfl, rfl, rfl⟩⟩⟩
        · rename_i hq
          have hq := Nat.ne_of_beq_eq_false hq
          refine ⟨_, hrun v _, ?_⟩
          rw [if_neg hq]
          exact ⟨_, rfl, ⟨_, _, rfl, hzd E, ⟨_, _, rfl, rfl, rfl⟩⟩⟩
      · rename_i v c
        simp only [denE, denV, denL] at hx
        obtain ⟨a, rfl, b, l', hb, hc, rfl⟩ := hx
        simp only [List.cons.injEq, and_true] at hb
        subst hb
        split
        · rename_i hq
          have hq := Nat.eq_of_beq_eq_true hq
          refine ⟨_, hrun v _, ?_⟩
          rw [if_pos hq]
          exact ⟨_, rfl, ⟨_, _, rfl, hc, ⟨_, _, rfl, rfl, rfl⟩⟩⟩
        · rename_i hq
          have hq := Nat.ne_of_beq_eq_false hq
          refine ⟨_, hrun v _, ?_⟩
          rw [if_neg hq]
          exact ⟨_, rfl, ⟨_, _, rfl, hzd E, ⟨_, _, rfl, rfl, rfl⟩⟩⟩
      · simp only [denE, denV] at hx
        subst hx
        exact ⟨_, hnil, _, rfl, ⟨_, _, rfl, hzd E, ⟨_, _, rfl, rfl, rfl⟩⟩⟩
      · trivial
  · trivial

theorem px_snd (T : Tbl) {E : Emb} {h : List Blk} {w : World} (S : Sim E h w) (ev raw : Operand → EV) (ρ : Operand → Value) (o : Oper)
    (hev : ∀ x ∈ looks o.op, denE E (ev x) (ρ x)) (hraw : ∀ x, denE E (raw x) (ρ x)) : (px T h ev raw o.op).yl E T.P w (execOp ρ o) := by
  unfold execOp
  cases hop : o.op with
  | move x =>
    rw [hop] at hev
    exact ⟨_, rfl, hev x (by simp [looks, Op.operands])⟩
  | assign x =>
    rw [hop] at hev
    exact ⟨_, rfl, hev x (by simp [looks, Op.operands])⟩
  | pick c a b =>
    rw [hop] at hev
    have hc := hev c (by simp [looks])
    unfold px
    simp only
    split
    · rename_i t ht
      rw [ht] at hc
      simp only [denE, denV] at hc
      refine (pickX_snd T.P w t (raw a) (raw b) (ρ a) (ρ b) (hraw a) (hraw b) (pure (if t then ρ a else ρ b)) rfl).yl ?_
      simp [hc, asBool]
    · trivial
  | binOp op t x y ty =>
    rw [hop] at hev
    exact (binY_snd T w op t x y _ _ _ _ (hev x (by simp [looks, Op.operands])) (hev y (by simp [looks, Op.operands]))).yl rfl
  | unOp op t x =>
    rw [hop] at hev
    exact (unX_snd T.P w op _ _ (hev x (by simp [looks, Op.operands]))).yl rfl
  | convert src dst x =>
    rw [hop] at hev
    exact (convX_snd T S src dst _ _ (hev x (by simp [looks, Op.operands]))).yl rfl
  | slice t x lo hi mx =>
    rw [hop] at hev
    have hin : ∀ z, z ∈ lo ∨ z ∈ hi ∨ z ∈ mx → denE E (ev z) (ρ z) := fun z hz => hev z (by
      simp only [looks, Op.operands]
      rcases hz with hz | hz | hz <;> (simp only [Option.mem_def] at hz; subst hz; simp))
    refine (sliceX_snd T w t _ (lo.map ev) (hi.map ev) (mx.map ev) _ (lo.map ρ) (hi.map ρ) (mx.map ρ) (hev x (by simp [looks, Op.operands])) ?_ ?_ ?_ ?_ ?_ ?_).yl ?_
    · intro e he
      obtain ⟨z, hz, rfl⟩ := Option.map_eq_some_iff.1 he
      exact ⟨ρ z, by rw [hz]; rfl, hin z (.inl hz)⟩
    · intro e he
      obtain ⟨z, hz, rfl⟩ := Option.map_eq_some_iff.1 he
      exact ⟨ρ z, by rw [hz]; rfl, hin z (.inr (.inl hz))⟩
    · intro h'; cases lo with
      | none => rfl
      | some z => cases h'
    · intro h'; cases hi with
      | none => rfl
      | some z => cases h'
    · intro h'; cases mx with
      | none => rfl
      | some z => cases h'
    · intro e he
      obtain ⟨z, hz, rfl⟩ := Option.map_eq_some_iff.1 he
      exact ⟨ρ z, by rw [hz]; rfl, hin z (.inr (.inr hz))⟩
    · rfl
  | nilCheck x =>
    rw [hop] at hev
    exact nilX_yl T w _ _ (hev x (by simp [looks, Op.operands]))
  | fieldAddr t x i =>
    rw [hop] at hev
    exact (fieldAddrX_snd T w t _ i _ (hev x (by simp [looks, Op.operands]))).yl rfl
  | field t x i =>
    rw [hop] at hev
    exact (fieldX_snd T w t _ i _ (hev x (by simp [looks, Op.operands]))).yl rfl
  | indexAddr t x i =>
    rw [hop] at hev
    exact (indexAddrX_snd T w t _ _ _ _ (hev x (by simp [looks, Op.operands])) (hev i (by simp [looks, Op.operands]))).yl rfl
  | load t x =>
    rw [hop] at hev
    exact (loadX_snd T S t _ _ (hev x (by simp [looks, Op.operands]))).yl rfl
  | index t x i =>
    rw [hop] at hev
    have hx := hev x (by simp [looks, Op.operands])
    have hi := hev i (by simp [looks, Op.operands])
    unfold px
    simp only
    split
    · rename_i s k n hq1 hq2
      rw [hq1] at hx
      rw [hq2] at hi
      simp only [denE, denV] at hx hi
      split
      · rename_i ht
        have hd : T.P.underlying t = some .string := (T.tyOk _ _ ht).desc
        intro hb
        have hlt : n.toNat < s.size := by omega
        refine ⟨.int .u8 (s[n.toNat]).toNat, ?_, ?_⟩
        · rw [hx, hi]
          simp [Instr.index, asIntOf, run_underlying hd, hb.1, hlt]
        · have : (s.data.toList.map UInt8.toNat).getD n.toNat 0 = (s[n.toNat]).toNat := by
            have h2 : n.toNat < s.data.toList.length := by simpa using hlt
            simp [List.getElem?_eq_getElem h2]
            rfl
          simp only [denE, denV, this]
      · trivial
    · rename_i cs k n hq1 hq2
      rw [hq1] at hx
      rw [hq2] at hi
      simp only [denE, denV] at hx hi
      obtain ⟨l, hx, hl⟩ := hx
      split
      · rename_i len e _ _ _ ht
        have hd : T.P.underlying t = some (.array len e) := (T.tyOk _ _ ht).desc
        split
        · rename_i te hte
          have hsz := run_sizeOf_ti T hte w
          have hag := run_isAgg_ti T hte w
          split
          · rename_i k' m f
            split
            · trivial
            · rename_i hg
              split
              · rename_i hs
                intro hb
                simp only [denS] at hl
                obtain ⟨l', hl, hl'⟩ := hl
                have hget : l[n.toNat]? = some (.int k' (f n.toNat)) := by
                  rw [← Array.getElem?_toList, hl, List.getElem?_append_left (by simpa [length_intsOf] using hb.2)]
                  exact intsOf_get hb.2
                refine ⟨.int k' (f n.toNat), ?_, rfl⟩
                rw [hx, hi]
                simp [Instr.index, asIntOf, run_underlying hd, hb.1.1, hb.1.2, hsz, hs, part, hag, hg, hget]
              · trivial
          · rename_i hne
            split
            · rename_i v hv
              intro hb
              have := partX_snd T w e _ (n.toNat * te.size) l hl
              rw [hv] at this
              obtain ⟨z, h1, h2⟩ := this
              refine ⟨z, ?_, h2⟩
              rw [hx, hi]
              simp [Instr.index, asIntOf, run_underlying hd, hb.1, hb.2, hsz, h1]
            · trivial
        · trivial
      · trivial
    · trivial
  | extract x i =>
    rw [hop] at hev
    have hx := hev x (by simp [looks, Op.operands])
    unfold px
    simp only
    split
    · rename_i vs hq
      rw [hq] at hx
      simp only [denE] at hx
      obtain ⟨l, hx, hl⟩ := hx
      split
      · rename_i v hv
        obtain ⟨u, h1, h2⟩ := nthE_den hl hv
        rw [Array.getElem?_toList] at h1
        exact ⟨u, by rw [hx]; simp [Instr.extract, h1], h2⟩
      · trivial
    · trivial
  | makeInterface t x =>
    rw [hop] at hev
    have hx := hev x (by simp [looks, Op.operands])
    unfold px
    simp only
    split
    · trivial
    · rename_i i hi1 hi2
      have hnot : ∀ ms, T.P.underlying t ≠ some (.interface ms) := fun ms e => by
        have hd := (T.tyOk _ _ hi2).desc
        obtain ⟨d, s, b, z⟩ := i
        cases d <;> simp only [descOk] at hd
        case struct fs => obtain ⟨a, ha, _⟩ := hd; rw [ha] at e; cases e
        case iface => exact hi1 _ _ _ rfl
        case other => obtain ⟨a, b', c, ha⟩ := hd; rw [ha] at e; cases e
        all_goals (rw [hd] at e; cases e)
      have hsome : ∃ d, T.P.underlying t = some d := by
        have hd := (T.tyOk _ _ hi2).desc
        cases hdd : i.d <;> rw [hdd] at hd <;> simp only [descOk] at hd
        case struct fs => obtain ⟨a, ha, _⟩ := hd; exact ⟨_, ha⟩
        case iface => obtain ⟨a, ha⟩ := hd; exact ⟨_, ha⟩
        case other => obtain ⟨a, b, c, ha⟩ := hd; exact ⟨_, ha⟩
        all_goals exact ⟨_, hd⟩
      obtain ⟨d, hd⟩ := hsome
      have hrun : ∀ v, (Instr.makeInterface t v).run T.P w = .ok (.iface t v) w := fun v => by
        unfold Instr.makeInterface
        rw [Sem.run_bind, run_underlying hd, Result.andThen_ok]
        cases d <;> first
          | rfl
          | (rename_i ms; exact absurd hd (hnot ms))
      split
      · rename_i v hq
        rw [hq] at hx
        exact ⟨_, by simp [hrun], ⟨ρ x, rfl, by simp only [denL]; exact ⟨_, _, rfl, hx, rfl⟩⟩⟩
      · rename_i cs hq
        rw [hq] at hx
        simp only [denE] at hx
        obtain ⟨l, hx, hl⟩ := hx
        split
        · rename_i vs hvs
          exact ⟨.iface t (ρ x), by simp [hrun], ⟨l, by rw [hx], flat_den hl hvs⟩⟩
        · trivial
      · trivial
    · trivial
  | typeAssert x xt t ok =>
    rw [hop] at hev
    exact (assertX_snd T w xt t ok _ _ (hev x (by simp [looks, Op.operands]))).yl rfl
  | makeFunc fn a c =>
    rw [hop] at hev
    unfold px
    simp only
    split
    · rename_i x y h1 h2
      have k1 := denT_map (E := E) ev ρ a.toList (fun z hz => hev z (by simp [looks, Op.operands]; exact .inl (by simpa using hz)))
      have k2 := denT_map (E := E) ev ρ c.toList (fun z hz => hev z (by simp [looks, Op.operands]; exact .inr (by simpa using hz)))
      exact ⟨.func fn (a.map ρ) (c.map ρ), rfl, ⟨_, _, rfl, by simpa using svs_den k1 h1, by simpa using svs_den k2 h2⟩⟩
    · trivial
  | call c =>
    rw [hop] at hev
    unfold px
    obtain ⟨callee, args, argTypes⟩ := c
    cases callee with
    | value f => trivial
    | invoke r m => trivial
    | builtin b =>
      have hargs : ∀ x ∈ args.toList, denE E (ev x) (ρ x) := fun x hx => hev x (by simp [looks, Op.operands, Call.operands]; simpa using hx)
      cases b <;> simp only
      case len =>
        split
        · rename_i t x h1 h2
          have hx := hargs x (by rw [h2]; simp)
          have e1 : argTypes = #[t] := by rw [← Array.toList_inj]; exact h1
          have e2 : args = #[x] := by rw [← Array.toList_inj]; exact h2
          subst e1; subst e2
          split
          · rename_i ht hq
            have hd : T.P.underlying t = some (.slice _) := (T.tyOk _ _ ht).desc
            rw [hq] at hx
            simp only [denE, denV] at hx
            exact ⟨_, by simp [resolve, invoke, builtin, Builtin.len_, hx.2, run_underlying hd, goInt], rfl⟩
          · rename_i ht hq
            have hd : T.P.underlying t = some (.slice _) := (T.tyOk _ _ ht).desc
            rw [hq] at hx
            simp only [denE, denV] at hx
            exact ⟨_, by simp [resolve, invoke, builtin, Builtin.len_, hx, run_underlying hd, goInt], rfl⟩
          · rename_i ht hq
            have hd : T.P.underlying t = some (.slice _) := (T.tyOk _ _ ht).desc
            rw [hq] at hx
            simp only [denE, denV] at hx
            exact ⟨_, by simp [resolve, invoke, builtin, Builtin.len_, hx.2.2, run_underlying hd, goInt], rfl⟩
          · rename_i ht hq
            have hd : T.P.underlying t = some .string := (T.tyOk _ _ ht).desc
            rw [hq] at hx
            simp only [denE, denV] at hx
            exact ⟨_, by simp [resolve, invoke, builtin, Builtin.len_, hx, run_underlying hd, goInt], rfl⟩
          · rename_i ht
            have hd : T.P.underlying t = some (.array _ _) := (T.tyOk _ _ ht).desc
            exact ⟨_, by simp [resolve, invoke, builtin, Builtin.len_, run_underlying hd, goInt], rfl⟩
          · trivial
        · trivial
      case min =>
        split
        · rename_i x y h2
          have hx := hargs x (by rw [h2]; simp)
          have hy := hargs y (by rw [h2]; simp)
          have e2 : args = #[x, y] := by rw [← Array.toList_inj]; exact h2
          subst e2
          split
          · rename_i k a k' b hq1 hq2
            rw [hq1] at hx
            rw [hq2] at hy
            simp only [denE, denV] at hx hy
            exact ⟨_, by simp [resolve, invoke, builtin, Builtin.min_, Builtin.min2, hx, hy], rfl⟩
          · trivial
        · trivial
      case max =>
        split
        · rename_i x y h2
          have hx := hargs x (by rw [h2]; simp)
          have hy := hargs y (by rw [h2]; simp)
          have e2 : args = #[x, y] := by rw [← Array.toList_inj]; exact h2
          subst e2
          split
          · rename_i k a k' b hq1 hq2
            rw [hq1] at hx
            rw [hq2] at hy
            simp only [denE, denV] at hx hy
            exact ⟨_, by simp [resolve, invoke, builtin, Builtin.max_, Builtin.max2, hx, hy], rfl⟩
          · trivial
        · trivial
      all_goals trivial
  | _ => trivial

end Go.Anv

/- The engine, part 5b: slices that are made, grown, copied. Plain theorems; their conditions are the table's own facts. -/
namespace Go.Anv
open Go

theorem updB_eq : ∀ (h : List Blk) (i : Nat) (B : Blk), updB h i B = h.set i B
  | [], _, _ => rfl
  | x :: r, 0, B => rfl
  | x :: r, i + 1, B => by simp [updB, updB_eq r i B]

/-! ### stores -/

theorem segsOf_den {E : Emb} {e : EV} {v : Value} {cs : List Seg} (h : denE E e v) (hs : segsOf e = some cs) : denS E cs v.cells.toList := by
  cases e with
  | s x =>
    simp only [segsOf, Option.some.injEq] at hs
    subst hs
    simp only [denE] at h
    have h1 := denV_oneCell h
    have : v.cells = #[v] := by cases v <;> first | rfl | (simp [Value.oneCell'] at h1)
    rw [this]
    simp only [denS]
    exact ⟨v, [], rfl, h, rfl⟩
  | agg c =>
    simp only [segsOf, Option.some.injEq] at hs
    subst hs
    simp only [denE] at h
    obtain ⟨l, rfl, hl⟩ := h
    exact hl
  | tuple _ => simp [segsOf] at hs
  | gd _ _ => simp [segsOf] at hs
  | junk => simp [segsOf] at hs

/-- A new row of cells. -/
theorem push_row {E : Emb} {h : List Blk} {w : World} (S : Sim E h w) {arr : Array Value} (t : TypeId) {lo hi : Nat} (hr : lo = hi ∨ arr.size ≤ lo) {cs : List Seg} {sp : Nat} {l rest : List Value}
    (hd : denS E cs l) (harr : arr.toList = l ++ rest) (hlen : sp ≤ rest.length) :
    Sim (E.push ⟨w.heap.size, 0, false⟩) (h ++ [.cells true cs sp]) (w.alloc (.cells arr t (lo, hi))) ∧ Since E h w (E.push ⟨w.heap.size, 0, false⟩) (h ++ [.cells true cs sp]) (w.alloc (.cells arr t (lo, hi))) := by
  have hcell : ∀ j, (w.alloc (.cells arr t (lo, hi))).cell? ⟨w.heap.size, 0 + j, none⟩ = (l ++ rest)[j]? := fun j => by
    have hn : (w.alloc (.cells arr t (lo, hi))).heap[w.heap.size]? = some (.cells arr t (lo, hi)) := heap_alloc_new w _
    simp only [World.cell?, hn, Nat.zero_add]
    rw [← Array.getElem?_toList, harr]
    rfl
  refine ⟨S.push _ _ ⟨.inl (by simp), ⟨l, denS_mono (Emb.le_push _ _) cs l hd, fun j v hj => ?_⟩, fun _ j hj => ⟨?_, arr, t, lo, hi, heap_alloc_new w _, hr⟩⟩, Since.push S _ _⟩
  · rw [hcell]
    have : j < l.length := by
      rcases Nat.lt_or_ge j l.length with h' | h'
      · exact h'
      · rw [List.getElem?_eq_none h'] at hj; cases hj
    rw [List.getElem?_append_left this]
    exact hj
  · rw [hcell]
    have hl := denS_length hd
    exact ⟨_, List.getElem?_eq_getElem (by simp; omega)⟩

/-- A slice that is nil, as a block without cells. -/
theorem push_nil {E : Emb} {h : List Blk} {w : World} (S : Sim E h w) {cs : List Seg} (hd : denS E cs []) :
    Sim (E.push ⟨0, 0, true⟩) (h ++ [.cells true cs 0]) w ∧ Since E h w (E.push ⟨0, 0, true⟩) (h ++ [.cells true cs 0]) w := by
  have hs : sizeS cs = 0 := by rw [← denS_length hd]; rfl
  have hno : ∀ p b o, ¬ cov p (.cells true cs 0) b o := fun p b o hc => by
    obtain ⟨_, h1, h2⟩ := hc
    omega
  constructor
  · refine ⟨by simp [Emb.push, S.n], fun i B hi => ?_, fun i j A B hij hi hj hA b o hci hcj => ?_⟩
    · rcases getElem?_push_cases hi with ⟨h1, h2⟩ | ⟨h1, h2⟩
      · rw [Emb.push_old _ _ (by rw [S.n]; exact h2)]
        exact okBlk_le (Emb.le_push _ _) (S.ok i B h1)
      · subst h2; subst h1
        rw [← S.n, Emb.push_new]
        exact ⟨.inr ⟨rfl, by omega⟩, ⟨[], denS_mono (Emb.le_push _ _) cs _ hd, fun j v hj => by simp at hj⟩, fun _ j hj => by omega⟩
    · rcases getElem?_push_cases hi with ⟨h1, h2⟩ | ⟨h1, h2⟩
      · rcases getElem?_push_cases hj with ⟨h3, h4⟩ | ⟨h3, h4⟩
        · rw [Emb.push_old _ _ (by rw [S.n]; exact h2)] at hci
          rw [Emb.push_old _ _ (by rw [S.n]; exact h4)] at hcj
          exact S.dis i j A B hij h1 h3 hA b o hci hcj
        · subst h4; exact hno _ _ _ hcj
      · subst h2; exact hno _ _ _ hci
  · refine ⟨by simp, fun i hi => Emb.push_old _ _ hi, Nat.le_refl _, fun _ _ _ => rfl, fun _ _ _ _ => ⟨rfl, fun _ => rfl⟩, fun b o hm _ => ?_, rfl, rfl, rfl, fun _ _ h => h⟩
    obtain ⟨i, B, hi, hB, hc⟩ := hm
    rcases getElem?_push_cases hi with ⟨h1, h2⟩ | ⟨h1, h2⟩
    · rw [Emb.push_old _ _ (by rw [S.n]; exact h2)] at hc
      exact ⟨i, B, h1, hB, hc⟩
    · subst h2; exact absurd hc (hno _ _ _)

/-! ### a row is marked: its last cell's neighbour may not be written -/

theorem cell?_freeze (w : World) (a b : Addr) (n : Nat) : (w.freeze a n).cell? b = w.cell? b := by
  unfold World.freeze
  split
  · rfl
  · by_cases hb : a.block = b.block
    · unfold World.cell?
      simp only [Array.getElem?_modify, if_pos hb]
      cases w.heap[b.block]? with
      | none => rfl
      | some o => cases o <;> rfl
    · unfold World.cell?
      simp only [Array.getElem?_modify, if_neg hb]

theorem size_freeze (w : World) (a : Addr) (n : Nat) : (w.freeze a n).heap.size = w.heap.size := by
  unfold World.freeze
  split <;> simp

theorem other_freeze (w : World) (a : Addr) (n k : Nat) (h : k ≠ a.block) : (w.freeze a n).heap[k]? = w.heap[k]? := by
  unfold World.freeze
  split
  · rfl
  · simp only [Array.getElem?_modify]
    rw [if_neg (Ne.symm h)]

theorem map_freeze (w : World) (a : Addr) (n k : Nat) {l : Array MapEntry} {c : Nat} (h : w.heap[k]? = some (.map l c)) : (w.freeze a n).heap[k]? = some (.map l c) := by
  unfold World.freeze
  split
  · exact h
  · simp only [Array.getElem?_modify]
    split
    · rw [h]; rfl
    · exact h

theorem rowOk_freeze {w : World} {k b : Nat} {c : Array Value} {e lo hi : Nat} (hb : w.heap[b]? = some (.cells c e (lo, hi))) (hr : lo = hi ∨ c.size ≤ lo) (h : rowOk w k) : rowOk (w.freeze { block := b, off := c.size } 1) k := by
  by_cases hk : k = b
  · subst hk
    refine ⟨c, e, (if lo == hi then (c.size, c.size + 1) else (min lo c.size, max hi (c.size + 1))).1, (if lo == hi then (c.size, c.size + 1) else (min lo c.size, max hi (c.size + 1))).2, ?_, .inr ?_⟩
    · unfold World.freeze
      rw [if_neg (by decide)]
      simp only [Array.getElem?_modify, hb]
      rfl
    · split
      · exact Nat.le_refl _
      · rename_i hne
        rcases hr with rfl | hr
        · simp at hne
        · simp only; omega
  · exact h.of_block (other_freeze _ _ _ _ hk)

theorem Sim.freeze {E : Emb} {h : List Blk} {w : World} (S : Sim E h w) {b : Nat} {c : Array Value} {e lo hi : Nat} (hb : w.heap[b]? = some (.cells c e (lo, hi))) (hr : lo = hi ∨ c.size ≤ lo) : Sim E h (w.freeze { block := b, off := c.size } 1) := by
  refine ⟨S.n, fun i B hi => ?_, S.dis⟩
  have hk := S.ok i B hi
  cases B with
  | cells m cs sp =>
    obtain ⟨h1, ⟨l, h2, h3⟩, h4⟩ := hk
    refine ⟨by rw [size_freeze]; exact h1, ⟨l, h2, fun j v hj => by rw [cell?_freeze]; exact h3 j v hj⟩, fun hm j hj => ?_⟩
    rw [cell?_freeze]
    exact ⟨(h4 hm j hj).1, rowOk_freeze hb hr (h4 hm j hj).2⟩
  | recs m n z f sp =>
    obtain ⟨h0, h1, ⟨l, h2, h3⟩, h4⟩ := hk
    refine ⟨h0, by rw [size_freeze]; exact h1, ⟨l, h2, fun j v hj => by rw [cell?_freeze]; exact h3 j v hj⟩, fun hm j hj => ?_⟩
    rw [cell?_freeze]
    exact ⟨(h4 hm j hj).1, rowOk_freeze hb hr (h4 hm j hj).2⟩
  | map es =>
    obtain ⟨l, c', h1, h2⟩ := hk
    exact ⟨l, c', map_freeze _ _ _ _ h1, h2⟩
  | dead => trivial

theorem Since.freeze {E : Emb} {h : List Blk} {w : World} {b : Nat} {c : Array Value} {e lo hi : Nat} (hb : w.heap[b]? = some (.cells c e (lo, hi))) (hr : lo = hi ∨ c.size ≤ lo) (hm : ∃ o, mutAt E h b o) : Since E h w E h (w.freeze { block := b, off := c.size } 1) := by
  obtain ⟨o0, hm0⟩ := hm
  refine ⟨Nat.le_refl _, fun _ _ => rfl, by rw [size_freeze]; exact Nat.le_refl _, fun k _ hk => other_freeze _ _ _ _ (fun e => ?_), fun k o _ _ => ⟨cell?_freeze _ _ _ _, fun hs => ?_⟩, fun _ _ hm _ => hm, ?_, ?_, ?_, fun _ _ h => rowOk_freeze hb hr h⟩
  · subst e; exact hk o0 hm0
  · obtain ⟨v, hv⟩ := Option.isSome_iff_exists.1 hs
    by_cases hkb : k = b
    · subst hkb
      have r1 : rowOk w k := ⟨c, _, lo, hi, hb, hr⟩
      rw [r1.frozen hv, (rowOk_freeze hb hr r1).frozen (by rw [cell?_freeze]; exact hv)]
    · unfold World.frozen?
      rw [other_freeze _ _ _ _ hkb]
  all_goals (unfold World.freeze; split <;> rfl)

/-! ### the operations -/

/-- What is left of an operation that hands back a value: it goes on in a later small world. -/
def Goes (T : Tbl) (E : Emb) (h : List Blk) (w : World) (m : Sem Value) (ts : List EV) (dst : Option Tmp) (k : St → Prop) : Prop :=
  ∃ u w' E' h' v, m.run T.P w = .ok u w' ∧ denE E' v u ∧ Sim E' h' w' ∧ Since E h w E' h' w' ∧ k ((⟨ts, h'⟩ : St).put dst v)

theorem denS_catS {E : Emb} : ∀ {a b : List Seg} {l m : List Value}, denS E a l → denS E b m → denS E (catS a b) (l ++ m) := by
  intro a b l m h1 h2
  unfold catS
  split
  · simp only [denS] at h1; subst h1; exact h2
  · rename_i k n f k' m' g
    split
    · rename_i hk
      have := sameK_eq hk
      subst this
      simp only [denS] at h1 h2
      obtain ⟨_, rfl, rfl⟩ := h1
      obtain ⟨_, rfl, rfl⟩ := h2
      refine ⟨[], ?_, rfl⟩
      simp only [List.append_nil]
      apply List.ext_getElem?
      intro j
      rcases Nat.lt_or_ge j n with h | h
      · rw [List.getElem?_append_left (by rw [length_intsOf]; exact h), intsOf_get h, intsOf_get (by omega)]
        simp [catF, h]
      · rw [List.getElem?_append_right (by rw [length_intsOf]; exact h), length_intsOf]
        rcases Nat.lt_or_ge (j - n) m' with h' | h'
        · rw [intsOf_get h', intsOf_get (by omega)]
          have : ¬ j < n := by omega
          simp [catF, this]
        · rw [List.getElem?_eq_none (by rw [length_intsOf]; exact h'), List.getElem?_eq_none (by rw [length_intsOf]; omega)]
    · exact denS_append h1 h2
  · exact denS_append h1 h2

theorem growK_eq (ts : List EV) (h : List Blk) (dst : Option Tmp) (n size : Nat) (cs : List Seg) (k : St → Prop) (hk : growK ts h dst n size cs k) (c : Nat) (hc : n ≤ c) :
    k ((⟨ts, h ++ [.cells true cs ((c - n) * size)]⟩ : St).put dst (.s (.gs h.length 0 n c))) := by
  have := hk c hc
  rw [forceS_eq, pushBK_eq, putK_eq, Nat.zero_add] at this
  exact this

theorem srcOk_snd {T : Tbl} {tx : TypeId} {y : EV} (h : srcOk T tx y = true) :
    (∃ s, y = .s (.str s)) ∧ T.P.underlying tx = some .string ∨ (¬ ∃ s, y = .s (.str s)) ∧ ∃ e', T.P.underlying tx = some (.slice e') := by
  unfold srcOk at h
  split at h
  · rename_i h1 h2
    refine .inl ⟨?_, (T.tyOk _ _ h1).desc⟩
    unfold isStr at h2
    split at h2
    · exact ⟨_, rfl⟩
    · cases h2
  · rename_i h1 h2
    refine .inr ⟨?_, _, (T.tyOk _ _ h1).desc⟩
    rintro ⟨s, rfl⟩
    cases h2
  · cases h

/-- What of an element's type the laws on slices ask. -/
theorem elem_info (T : Tbl) {e : TypeId} {te : TI} (h : T.ty e = some te) : ∃ i z, T.P.info? e = some i ∧ i.size = te.size ∧ i.bytes = te.bytes ∧ i.zero = some z ∧ valE te.zero = some z := by
  obtain ⟨_, h1, h2, z, h3, h4⟩ := T.tyOk e te h
  cases hi : T.P.info? e with
  | none => rw [hi] at h1; cases h1
  | some i =>
    rw [hi] at h1 h2 h4
    simp only [Option.map_some, Option.some.injEq] at h1 h2
    simp only [Option.bind_some] at h4
    exact ⟨i, z, rfl, h1, h2, h4, h3⟩

theorem zsz_snd {te : TI} {z : Value} (hz : valE te.zero = some z) (hs : zsz te = te.size) (h0 : 0 < te.size) : z.cells.size = te.size := by
  have E : Emb := ⟨0, fun _ => ⟨0, 0, false⟩⟩
  unfold zsz at hs
  split at hs
  · rename_i zs hq
    have := segsOf_den (valE_den (E := E) hz) hq
    rw [← hs, ← denS_length this, Array.length_toList]
  · omega

/-- A slice grows: whatever its address, what it holds can be read. -/
theorem grow_snd (T : Tbl) {E : Emb} {h h1 : List Blk} {w : World} (n0 : E.n = h.length) (S : Sim E h1 w) (N : Since E h w E h1 w) {t tx ty e : TypeId} {te : TI} (ht : T.P.underlying t = some (.slice e)) (he : T.ty e = some te)
    {base : Option Addr} {n c : Nat} {olds news : List Value} {cs : List Seg} {v : Value} {m : Nat} (hold : (Builtin.firstCells te.size n (.slice base n c)).run T.P w.drew = .ok olds.toArray w.drew)
    (hs : Src T.P te.size tx v m news w) (hd : denS E cs (olds ++ news)) (hg : c < n + m) (hr : room te (n + m)) {ts : List EV} {dst : Option Tmp} {k : St → Prop}
    (hk : growK ts h1 dst (n + m) te.size cs k) : Goes T E h w (Builtin.append_ #[t, tx] ty #[.slice base n c, v]) ts dst k := by
  obtain ⟨i, z, hi, hsz, hby, hz, hzv⟩ := elem_info T he
  obtain ⟨⟨hz1, hz0⟩, hr1, hr2⟩ := hr
  have hzs := zsz_snd hzv hz1 hz0
  rw [← hsz] at hold hs hzs
  rw [← hby] at hr2
  have hrun := run_append_grow_src (P := T.P) w t tx ty e i z ht hi hz base n c olds hold v m news hs hg (by omega) (growslice_fits hg hr2)
  have hge := grownCap_ge w (n + m) c e
  obtain ⟨S', N'⟩ := push_row S.drew e (arr := (olds ++ news).toArray ++ Builtin.zeroCells z.cells (grownCap w (n + m) c e - (n + m))) (lo := 0) (hi := 0) (.inl rfl) (cs := cs) (sp := (grownCap w (n + m) c e - (n + m)) * te.size)
    (l := olds ++ news) (rest := (Builtin.zeroCells z.cells (grownCap w (n + m) c e - (n + m))).toList) hd (by simp) (by
      rw [Array.length_toList, size_zeroCells, hzs, hsz]
      exact Nat.le_refl _)
  refine ⟨_, _, _, _, _, hrun, ?_, S', ((N.trans n0 S.n (Since.drew E h1 w)).trans n0 S.n N'), growK_eq ts h1 dst (n + m) te.size cs k hk _ hge⟩
  simp only [denE, denV]
  refine ⟨by rw [← S.n]; simp [Emb.push], ?_, ?_⟩
  · rw [← S.n, Emb.push_new]
    intro h; cases h
  · rw [← S.n, Emb.push_new]
    simp only [Bool.false_eq_true, if_false]
    have : (E.push ⟨w.drew.heap.size, 0, false⟩).at E.n 0 = ⟨w.heap.size, 0, none⟩ := by
      unfold Emb.at
      rw [Emb.push_new]
      rfl
    rw [this]

theorem appC_snd (T : Tbl) {E : Emb} {h : List Blk} {w : World} (S : Sim E h w) {t tx ty : TypeId} {x y : EV} {xv yv : Value} (hx : denE E x xv) (hy : denE E y yv) {ts : List EV} {dst : Option Tmp} {k : St → Prop}
    (hk : appC T ts h t tx x y dst k) : Goes T E h w (Builtin.append_ #[t, tx] ty #[xv, yv]) ts dst k := by
  unfold appC at hk
  split at hk
  · rename_i e _ _ _ ht
    have hd : T.P.underlying t = some (.slice e) := (T.tyOk _ _ ht).desc
    split at hk
    · rename_i te he
      split at hk
      · rename_i r hso hr
        have hsrc := srcOk_snd hso
        have onto : ∀ {b n c : Nat}, ontoX te ts h b n c r dst k → b < E.n → ((E.f b).nl = true ∧ n = 0 ∧ c = 0 ∧ xv = .slice none n c) ∨ ((E.f b).nl = false ∧ xv = .slice (some (E.at b 0)) n c) → Goes T E h w (Builtin.append_ #[t, tx] ty #[xv, yv]) ts dst k := by
          intro b n c hk hb hxv
          unfold ontoX at hk
          split at hk
          · rename_i cs sp hbk
            obtain ⟨⟨hp, hsz, hc, hroom⟩, hk⟩ := hk
            rw [updBK_eq, updB_eq] at hk
            obtain ⟨news, hdn, hs⟩ := rngX_snd T S hy hr hp hsrc
            obtain ⟨l, hl, hlw, _⟩ := S.look (nthB_get hbk)
            have hll := denS_length hl
            have hcat := denS_catS hl hdn
            have hrm := hroom
            obtain ⟨⟨hz1, hz0⟩, hr1, hr2⟩ := hroom
            obtain ⟨i, z, hi, hisz, hby, hz, hzv⟩ := elem_info T he
            rcases Nat.lt_or_ge c (n + r.n) with hg | hroom'
            · rcases hxv with ⟨_, rfl, rfl, rfl⟩ | ⟨_, rfl⟩
              · have : l = [] := List.eq_nil_of_length_eq_zero (by rw [hll, hsz]; simp)
                subst this
                exact grow_snd T S.n (S.drop b) (Since.drop w b) hd he (olds := []) (run_firstCells_none w.drew te.size 0 0 0) hs hcat hg hrm hk
              · refine grow_snd T S.n (S.drop b) (Since.drop w b) hd he (olds := l) (run_firstCells_some w.drew te.size n (E.at b 0) n c l (by rw [hll]; exact hsz) (fun j v hj => ?_)) hs hcat hg hrm hk
                rw [Emb.at_add]
                unfold Emb.at
                rw [Nat.zero_add]
                exact hlw j v hj
            · have hnl := hs.newsLen
              have hmul : n * te.size + r.n * te.size ≤ c * te.size := by rw [← Nat.add_mul]; exact Nat.mul_le_mul_right _ hroom'
              have hcatl := denS_length hcat
              rw [List.length_append, hll, hnl] at hcatl
              have hsp : sizeS (catS cs r.cs) + (c - (n + r.n)) * te.size = sizeS cs + sp := by
                rw [← hcatl, Nat.sub_mul, Nat.add_mul]
                omega
              have S1 := S.write (i := b) (cs' := catS cs r.cs) (sp' := (c - (n + r.n)) * te.size) (nthB_get hbk) (o := sizeS cs) (vs := news) hl hlw
                (by rw [← hll, List.take_length, List.drop_eq_nil_of_le (by omega), List.append_nil]; exact hcat) hsp (Nat.le_refl _) (by rw [hnl]; omega)
              have N1 := Since.write (E := E) (h := h) (w := w) (i := b) (cs := cs) (cs' := catS cs r.cs) (sp' := (c - (n + r.n)) * te.size) (nthB_get hbk) (o := sizeS cs) (vs := news) hsp (by rw [hnl]; omega)
              have hbl : b < h.length := by rw [← S.n]; exact hb
              have hself : (h.set b (.cells true (catS cs r.cs) ((c - (n + r.n)) * te.size)))[b]? = some (.cells true (catS cs r.cs) ((c - (n + r.n)) * te.size)) := List.getElem?_set_self hbl
              have S2 := S1.move hself
              have N2 := Since.move S1 hself
              rw [List.set_set] at S2 N2
              have hk2 := growK_eq ts _ dst (n + r.n) te.size (catS cs r.cs) k hk c hroom'
              obtain ⟨_, _, hm⟩ := S.ok b _ (nthB_get hbk)
              have hm := hm rfl
              have hlen : (h.set b Blk.dead).length = E.n := by rw [List.length_set]; exact S.n.symm
              rcases hxv with ⟨hq, rfl, rfl, rfl⟩ | ⟨hq, rfl⟩
              · have h0 : r.n = 0 := by omega
                have hn0 : news = [] := List.eq_nil_of_length_eq_zero (by rw [hnl, h0]; simp)
                subst hn0
                refine ⟨.slice none 0 0, w, _, _, _, ?_, ?_, S2, N1.trans S.n S1.n N2, hk2⟩
                · have hcl := hs.len
                  have hcc := hs.cells
                  rw [h0] at hcl hcc
                  rw [← hisz] at hcc
                  rcases hs.kind with ⟨e', hkk⟩ | hkk <;> simp [Builtin.append_, run_underlying hd, run_underlying hkk, sizeOf, typeInfo, hi, hcl, hcc]
                · simp only [denE, denV, hlen, Emb.push_new, hq, if_true]
                  refine ⟨by simp [Emb.push], fun _ => ⟨by omega, trivial⟩, by rw [h0]⟩
              · have hex : ∀ j, j < news.length → (w.cell? ⟨(E.f b).1, (E.f b).2 + n * te.size + j, none⟩).isSome = true ∧ w.frozen? ⟨(E.f b).1, (E.f b).2 + n * te.size + j, none⟩ = false := fun j hj => by
                  obtain ⟨⟨v, hv⟩, hro⟩ := hm (n * te.size + j) (by rw [hsz]; omega)
                  rw [Nat.add_assoc, hv]
                  exact ⟨rfl, hro.frozen hv⟩
                have hat : E.at b 0 = ⟨(E.f b).1, (E.f b).2, none⟩ := rfl
                refine ⟨Value.slice (some (E.at b 0)) (n + r.n) c, _, _, _, _, ?_, ?_, S2, N1.trans S.n S1.n N2, hk2⟩
                · rw [hat, hsz]
                  have := run_append_room_src (P := T.P) w t tx ty e i hd hi (E.f b).1 (E.f b).2 n c yv r.n news (by rw [hisz]; exact hs) hroom' (by rw [hisz]; exact fun j hj => (hex j hj).1) (by rw [hisz]; exact fun j hj => (hex j hj).2)
                  rw [hisz] at this
                  exact this
                · simp only [denE, denV, hlen, Emb.push_new, hq, Bool.false_eq_true, if_false]
                  refine ⟨by simp [Emb.push], fun h => h.elim, ?_⟩
                  unfold Emb.at
                  rw [Emb.push_new]
          · exact hk.elim
        split at hk
        · obtain ⟨⟨hp, hroom⟩, hk⟩ := hk
          obtain ⟨news, hdn, hs⟩ := rngX_snd T S hy hr hp hsrc
          simp only [denE, denV] at hx
          subst hx
          rcases Nat.eq_zero_or_pos r.n with h0 | h0
          · have hn0 : news = [] := List.eq_nil_of_length_eq_zero (by rw [hs.newsLen, h0]; simp)
            subst hn0
            obtain ⟨S', N'⟩ := push_nil S hdn
            have hk2 := growK_eq ts h dst r.n te.size r.cs k hk 0 (by omega)
            rw [h0, Nat.sub_zero, Nat.zero_mul] at hk2
            obtain ⟨i, z, hi, hisz, hby, hz, hzv⟩ := elem_info T he
            refine ⟨.slice none 0 0, w, _, _, _, ?_, ?_, S', N', hk2⟩
            · have hcl := hs.len
              have hcc := hs.cells
              rw [h0] at hcl hcc
              rw [← hisz] at hcc
              rcases hs.kind with ⟨e', hkk⟩ | hkk <;> simp [Builtin.append_, run_underlying hd, run_underlying hkk, sizeOf, typeInfo, hi, hcl, hcc]
            · simp only [denE, denV, ← S.n, Emb.push_new, if_true]
              exact ⟨by simp [Emb.push], fun _ => ⟨trivial, trivial⟩, trivial⟩
          · have hk' : growK ts h dst (0 + r.n) te.size r.cs k := by rw [Nat.zero_add]; exact hk
            exact grow_snd T S.n S (Since.refl _ _ _) hd he (olds := []) (run_firstCells_none w.drew te.size 0 0 0) hs (by simpa using hdn) (by omega) (by rw [Nat.zero_add]; exact hroom) hk'
        · simp only [denE, denV] at hx
          exact onto hk hx.1.1 (.inr ⟨hx.1.2, hx.2⟩)
        · rename_i b n c
          simp only [denE, denV] at hx
          obtain ⟨h1, h2, h3⟩ := hx
          refine onto hk h1 ?_
          cases hq : (E.f b).nl with
          | true => rw [hq] at h3 h2; exact .inl ⟨rfl, (h2 rfl).1, (h2 rfl).2, by simpa using h3⟩
          | false => rw [hq] at h3; exact .inr ⟨rfl, by simpa using h3⟩
        · exact hk.elim
      · exact hk.elim
    · exact hk.elim
  · exact hk.elim

/-! ### records -/

/-- A block seen otherwise. -/
def turnB (A B : Blk) : Prop := A.mut = B.mut ∧ (∀ p b o, cov p A b o ↔ cov p B b o) ∧ ∀ E w p, okBlk E w p A → okBlk E w p B

def turnH (h h' : List Blk) : Prop := h.length = h'.length ∧ ∀ (i : Nat) (A B : Blk), h[i]? = some A → h'[i]? = some B → turnB A B

theorem turnB_refl (A : Blk) : turnB A A := ⟨rfl, fun _ _ _ => Iff.rfl, fun _ _ _ h => h⟩

theorem turnH_get {h h' : List Blk} (H : turnH h h') {i : Nat} {B : Blk} (hi : h'[i]? = some B) : ∃ A, h[i]? = some A ∧ turnB A B := by
  have : i < h'.length := by
    rcases Nat.lt_or_ge i h'.length with h1 | h1
    · exact h1
    · rw [List.getElem?_eq_none h1] at hi; cases hi
  exact ⟨h[i]'(by rw [H.1]; exact this), List.getElem?_eq_getElem _, H.2 i _ B (List.getElem?_eq_getElem _) hi⟩

theorem Sim.turnH {E : Emb} {h h' : List Blk} {w : World} (S : Sim E h w) (H : turnH h h') : Sim E h' w := by
  refine ⟨by rw [← H.1]; exact S.n, fun i B hi => ?_, fun i j A B hij hi hj hA b o hc => ?_⟩
  · obtain ⟨A, h1, h2⟩ := turnH_get H hi
    exact h2.2.2 _ _ _ (S.ok i A h1)
  · obtain ⟨A', h1, h2⟩ := turnH_get H hi
    obtain ⟨B', h3, h4⟩ := turnH_get H hj
    rw [← h4.2.1]
    exact S.dis i j A' B' hij h1 h3 (by rw [h2.1]; exact hA) b o ((h2.2.1 _ _ _).2 hc)

theorem Since.turnH {E E' : Emb} {h h1 h2 : List Blk} {w w' : World} (N : Since E h w E' h1 w') (H : turnH h1 h2) : Since E h w E' h2 w' :=
  ⟨by rw [← H.1]; exact N.len, N.same, N.size, N.frame, N.cells, fun b o hm hb => by
    obtain ⟨i, B, hi, hB, hc⟩ := hm
    obtain ⟨A, k1, k2⟩ := turnH_get H hi
    exact N.new b o ⟨i, A, k1, by rw [k2.1]; exact hB, (k2.2.1 _ _ _).2 hc⟩ hb, N.os, N.tape, N.output, N.rows⟩

/-- Records as cells. -/
def cellsOf : Blk → Blk
  | .recs m n _ f sp => .cells m (recS n f) sp
  | B => B

def allC (h : List Blk) : List Blk := h.map cellsOf

theorem turnB_cells (B : Blk) : turnB B (cellsOf B) := by
  cases B with
  | recs m n z f sp => exact ⟨rfl, fun _ _ _ => Iff.rfl, fun _ _ _ h => h.2⟩
  | _ => exact turnB_refl _

theorem turnB_recs {m : Bool} {n z : Nat} {f : Nat → List SV} {sp : Nat} (hl : ∀ i, i < n → (f i).length = z) : turnB (.cells m (recS n f) sp) (.recs m n z f sp) := ⟨rfl, fun _ _ _ => Iff.rfl, fun _ _ _ h => ⟨hl, h⟩⟩

theorem turnH_all (h : List Blk) : turnH h (allC h) := by
  refine ⟨by simp [allC], fun i A B hA hB => ?_⟩
  rw [allC, List.getElem?_map, hA] at hB
  simp only [Option.map_some, Option.some.injEq] at hB
  subst hB
  exact turnB_cells A

theorem turnB_back {E : Emb} {w : World} {p : Loc} {B : Blk} (k : okBlk E w p B) : turnB (cellsOf B) B := by
  cases B with
  | recs m n z f sp => exact turnB_recs k.1
  | _ => exact turnB_refl _

/-- Back again; a new block stands behind. -/
theorem turnH_back {E : Emb} {w : World} {h : List Blk} (S : Sim E h w) {A B : Blk} (hAB : turnB A B) (d : Option Nat) : turnH ((match d with | some b => (allC h).set b .dead | none => allC h) ++ [A]) ((match d with | some b => h.set b .dead | none => h) ++ [B]) := by
  have one : turnH (match d with | some b => (allC h).set b .dead | none => allC h) (match d with | some b => h.set b .dead | none => h) := by
    cases d with
    | none =>
      refine ⟨by simp [allC], fun i A B hA hB => ?_⟩
      simp only at hA hB
      rw [allC, List.getElem?_map, hB] at hA
      simp only [Option.map_some, Option.some.injEq] at hA
      subst hA
      exact turnB_back (S.ok i B hB)
    | some b =>
      refine ⟨by simp [allC], fun i A B hA hB => ?_⟩
      simp only at hA hB
      by_cases hib : b = i
      · subst hib
        rw [List.getElem?_set] at hA hB
        simp only [if_true] at hA hB
        split at hA
        · split at hB
          · simp only [Option.some.injEq] at hA hB
            subst hA; subst hB
            exact turnB_refl _
          · cases hB
        · cases hA
      · rw [List.getElem?_set_ne hib] at hA hB
        rw [allC, List.getElem?_map, hB] at hA
        simp only [Option.map_some, Option.some.injEq] at hA
        subst hA
        exact turnB_back (S.ok i B hB)
  refine ⟨by simp [one.1], fun i X Y hX hY => ?_⟩
  rcases getElem?_push_cases hX with ⟨h1, h2⟩ | ⟨h1, h2⟩
  · rw [List.getElem?_append_left (by rw [← one.1]; exact h2)] at hY
    exact one.2 i X Y h1 hY
  · rw [h1, one.1, List.getElem?_concat_length] at hY
    simp only [Option.some.injEq] at hY
    subst h2; subst hY
    exact hAB

theorem nthB_all {h : List Blk} {b : Nat} {B : Blk} (hb : nthB h b = some B) : nthB (allC h) b = some (cellsOf B) := by
  induction h generalizing b with
  | nil => simp [nthB] at hb
  | cons x r ih =>
    cases b with
    | zero => simp only [nthB, Option.some.injEq] at hb; subst hb; rfl
    | succ b => simp only [nthB, allC, List.map_cons] at hb ⊢; exact ih hb

theorem recS_ones {k : IntKind} {m : Nat} {g : Nat → Int} {rest : List Seg} : ∀ {n : Nat} {f : Nat → List SV}, (.ints k m g : Seg) ∈ recS n f → False
  | 0, _, h => by cases h
  | n + 1, f, h => by
    rw [recS, List.mem_append] at h
    rcases h with h | h
    · exact recS_ones (rest := rest) h
    · simp at h

theorem onesOf_map : ∀ {cs : List Seg} {l : List SV}, onesOf cs = some l → cs = l.map .one
  | [], l, h => by simp only [onesOf, Option.some.injEq] at h; subst h; rfl
  | .one v :: r, l, h => by
    simp only [onesOf] at h
    split at h
    · rename_i l' hl
      simp only [Option.some.injEq] at h
      subst h
      rw [onesOf_map hl]
      rfl
    · cases h
  | .ints .. :: _, _, h => by simp [onesOf] at h

theorem catS_recs (n n' : Nat) (f g : Nat → List SV) : catS (recS n f) (recS n' g) = recS (n + n') (catR n f g) := by
  have e : ∀ n', recS n f ++ recS n' g = recS (n + n') (catR n f g) := by
    intro n'
    induction n' with
    | zero =>
      rw [recS, List.append_nil, Nat.add_zero]
      have : ∀ m, m ≤ n → recS m f = recS m (catR n f g) := by
        intro m
        induction m with
        | zero => intro _; rfl
        | succ m ih =>
          intro hm
          rw [recS, recS, ih (by omega), catR, if_pos (by omega)]
      exact this n (Nat.le_refl _)
    | succ n' ih =>
      rw [recS, ← List.append_assoc, ih, ← Nat.add_assoc, recS]
      congr 2
      rw [catR, if_neg (by omega), Nat.add_sub_cancel_left]
  rw [← e]
  unfold catS
  split
  · rename_i h1; rw [h1]; rfl
  · rename_i k n f k' m g h1 h2
    exact (recS_ones (rest := []) (by rw [h1]; exact List.mem_singleton.2 rfl)).elim
  · rfl

theorem recAt_spec {h : List Blk} {z n m : Nat} {f : Nat → List SV} {y : EV} (hr : recAt h z y = some (n, m, f)) : isStr y = false ∧ ∃ b c mm sp, (y = .s (.slice b 0 n c) ∨ y = .s (.gs b 0 n c)) ∧ nthB h b = some (.recs mm m z f sp) := by
  unfold recAt at hr
  split at hr
  · split at hr
    · rename_i hb
      split at hr
      · rename_i hz
        have := Nat.eq_of_beq_eq_true hz
        subst this
        simp only [Option.some.injEq, Prod.mk.injEq] at hr
        obtain ⟨rfl, rfl, rfl⟩ := hr
        exact ⟨rfl, _, _, _, _, .inl rfl, hb⟩
      · cases hr
    · cases hr
  · split at hr
    · rename_i hb
      split at hr
      · rename_i hz
        have := Nat.eq_of_beq_eq_true hz
        subst this
        simp only [Option.some.injEq, Prod.mk.injEq] at hr
        obtain ⟨rfl, rfl, rfl⟩ := hr
        exact ⟨rfl, _, _, _, _, .inr rfl, hb⟩
      · cases hr
    · cases hr
  · cases hr

theorem rngAt_all {h : List Blk} {z b o n : Nat} {r : Rng} (hr : rngAt h z b o n = some r) : rngAt (allC h) z b o n = some r := by
  unfold rngAt at hr ⊢
  cases hb : nthB h b with
  | none => rw [hb] at hr; cases hr
  | some B =>
    rw [nthB_all hb]
    rw [hb] at hr
    cases B with
    | recs m n z f sp => cases hr
    | _ => exact hr

theorem rngX_all {h : List Blk} {z : Nat} {y : EV} {r : Rng} (hr : rngX h z y = some r) : rngX (allC h) z y = some r := by
  unfold rngX at hr ⊢
  split at hr
  · exact hr
  · exact hr
  · exact rngAt_all hr
  · exact rngAt_all hr
  · cases hr

/-- What is put behind, seen as cells. -/
theorem recSrc_spec {E : Emb} {w : World} {h : List Blk} (S : Sim E h w) {z : Nat} {y : EV} {p : Prop} {n : Nat} {g : Nat → List SV} (hr : recSrc h z y = some (p, n, g)) (hp : p) :
    isStr y = false ∧ ∃ q, q ∧ rngX (allC h) z y = some ⟨q, n, recS n g⟩ ∧ ∀ i, i < n → (g i).length = z := by
  unfold recSrc at hr
  split at hr
  · rename_i n' m f ha
    simp only [Option.some.injEq, Prod.mk.injEq] at hr
    obtain ⟨rfl, rfl, rfl⟩ := hr
    obtain ⟨h1, b, c, mm, sp, h2, h3⟩ := recAt_spec ha
    have hlen := (S.ok b _ (nthB_get h3)).1
    subst hp
    have h4 : rngAt (allC h) z b 0 n' = some ⟨sizeS (recS n' f) = n' * z, n', recS n' f⟩ := by
      unfold rngAt
      rw [nthB_all h3]
      show (match some (Blk.cells mm (recS n' f) sp) with
        | some (.cells _ [.ints k m f] _) => _
        | some (.cells _ cs _) => _
        | _ => none) = _
      generalize hcs : recS n' f = cs
      split
      · rename_i hq
        simp only [Option.some.injEq, Blk.cells.injEq] at hq
        exact (recS_ones (rest := []) (n := n') (f := f) (by rw [hcs, hq.2.1]; exact List.mem_singleton.2 rfl)).elim
      · rename_i hq
        simp only [Option.some.injEq, Blk.cells.injEq] at hq
        obtain ⟨_, rfl, _⟩ := hq
        rfl
      · rename_i h5 h6
        exact (h6 _ _ _ rfl).elim
    refine ⟨h1, _, sizeS_recS hlen, ?_, hlen⟩
    rcases h2 with rfl | rfl
    · exact h4
    · exact h4
  · split at hr
    · rename_i p0 n0 cs hrg
      split at hr
      · rename_i l hl
        simp only [Option.some.injEq, Prod.mk.injEq] at hr
        obtain ⟨rfl, rfl, rfl⟩ := hr
        obtain ⟨⟨h1, rfl⟩, h2⟩ := hp
        refine ⟨?_, _, h1, ?_, fun _ _ => h2⟩
        · unfold isStr
          split
          · rename_i s
            unfold rngX at hrg
            simp only at hrg
            split at hrg
            · simp only [Option.some.injEq, Rng.mk.injEq] at hrg
              obtain ⟨_, _, rfl⟩ := hrg
              simp [onesOf] at hl
            · cases hrg
          · rfl
        · rw [rngX_all hrg, onesOf_map hl]
          rfl
      · cases hr
    · cases hr

theorem Goes.turn {T : Tbl} {E : Emb} {h h1 : List Blk} {w : World} {m : Sem Value} {ts : List EV} {dst : Option Tmp} {k k1 : St → Prop} (N : ∀ {E' h' w'}, Since E h1 w E' h' w' → Since E h w E' h' w') (g : Goes T E h1 w m ts dst k1)
    (hk : ∀ s, k1 s → ∃ h', turnH s.heap h' ∧ k ⟨s.tmps, h'⟩) : Goes T E h w m ts dst k := by
  obtain ⟨u, w', E', h', v, h2, h3, h4, h5, h6⟩ := g
  obtain ⟨h'', h7, h8⟩ := hk _ h6
  have hp : ((⟨ts, h'⟩ : St).put dst v).heap = h' ∧ (⟨((⟨ts, h'⟩ : St).put dst v).tmps, h''⟩ : St) = (⟨ts, h''⟩ : St).put dst v := by
    cases dst <;> exact ⟨rfl, rfl⟩
  rw [hp.1] at h7
  rw [hp.2] at h8
  exact ⟨u, w', E', h'', v, h2, h3, h4.turnH h7, (N h5).turnH h7, h8⟩

theorem Since.from_all {E E' : Emb} {h h' : List Blk} {w w' : World} (N : Since E (allC h) w E' h' w') : Since E h w E' h' w' := by
  have hm : ∀ b o, mutAt E (allC h) b o ↔ mutAt E h b o := fun b o => by
    constructor
    · rintro ⟨i, B, hi, hB, hc⟩
      obtain ⟨A, k1, k2⟩ := turnH_get (turnH_all h) hi
      exact ⟨i, A, k1, by rw [k2.1]; exact hB, (k2.2.1 _ _ _).2 hc⟩
    · rintro ⟨i, B, hi, hB, hc⟩
      have k2 := turnB_cells B
      exact ⟨i, cellsOf B, by rw [allC, List.getElem?_map, hi]; rfl, by rw [← k2.1]; exact hB, (k2.2.1 _ _ _).1 hc⟩
  exact ⟨by have := N.len; simpa [allC] using this, N.same, N.size, fun b hb h1 => N.frame b hb fun o ho => h1 o ((hm b o).1 ho), fun b o hb h1 => N.cells b o hb fun ho => h1 ((hm b o).1 ho),
    fun b o h1 hb => (hm b o).1 (N.new b o h1 hb), N.os, N.tape, N.output, N.rows⟩

theorem growR_eq (ts : List EV) (h : List Blk) (dst : Option Tmp) (n z : Nat) (f : Nat → List SV) (k : St → Prop) (hk : growR ts h dst n z f k) (c : Nat) (hc : n ≤ c) :
    k ((⟨ts, h ++ [.recs true n z f ((c - n) * z)]⟩ : St).put dst (.s (.gs h.length 0 n c))) := by
  have := hk c hc
  rw [pushBK_eq, putK_eq, Nat.zero_add] at this
  exact this

theorem appR_snd (T : Tbl) {E : Emb} {h : List Blk} {w : World} (S : Sim E h w) {t tx ty e e' : TypeId} {te : TI} {s1 b1 s2 b2 : Nat} {z1 z2 : EV} (ht : T.ty t = some ⟨.slice e, s1, b1, z1⟩) (htx : T.ty tx = some ⟨.slice e', s2, b2, z2⟩) (he : T.ty e = some te) {x y : EV} {xv yv : Value} (hx : denE E x xv) (hy : denE E y yv) {ts : List EV} {dst : Option Tmp} {k : St → Prop}
    (hk : appR te ts h x y dst k) : Goes T E h w (Builtin.append_ #[t, tx] ty #[xv, yv]) ts dst k := by
  have S' : Sim E (allC h) w := S.turnH (turnH_all h)
  unfold appR at hk
  split at hk
  · rename_i p rn g hsrc
    have app : ∀ {p : Prop}, p → True := fun _ => trivial
    have go : ∀ {k1 : St → Prop}, p → (∀ q, rngX (allC h) te.size y = some ⟨q, rn, recS rn g⟩ → q → appC T ts (allC h) t tx x y dst k1) → Goes T E (allC h) w (Builtin.append_ #[t, tx] ty #[xv, yv]) ts dst k1 := fun hp hh => by
      obtain ⟨h1, q, h2, h3, h4⟩ := recSrc_spec S hsrc hp
      exact appC_snd T S' hx hy (hh q h3 h2)
    have open_ : ∀ {x : EV} {q : Prop} {k1 : St → Prop}, isStr y = false → rngX (allC h) te.size y = some ⟨q, rn, recS rn g⟩ → (match x with
        | .s .nilslice => Need (q ∧ room te rn) (growK ts (allC h) dst rn te.size (recS rn g) k1)
        | .s (.slice b 0 n c) => ontoX te ts (allC h) b n c ⟨q, rn, recS rn g⟩ dst k1
        | .s (.gs b 0 n c) => ontoX te ts (allC h) b n c ⟨q, rn, recS rn g⟩ dst k1
        | _ => False) → appC T ts (allC h) t tx x y dst k1 := fun {x q k1} hs hr hh => by
      unfold appC
      simp only [ht, he, srcOk, htx, hs, hr]
      exact hh
    have onto : ∀ {b n c : Nat}, ontoR te ts h b n c p rn g dst k → (x = .s (.slice b 0 n c) ∨ x = .s (.gs b 0 n c)) → Goes T E h w (Builtin.append_ #[t, tx] ty #[xv, yv]) ts dst k := by
      intro b n c hk hxe
      unfold ontoR at hk
      split at hk
      · rename_i m z f sp hb
        obtain ⟨⟨⟨hp, rfl, hz⟩, hc, hroom⟩, hk⟩ := hk
        subst hz
        have hlen := (S.ok b _ (nthB_get hb)).1
        obtain ⟨h1, q, h2, h3, h4⟩ := recSrc_spec S hsrc hp
        rw [updBK_eq, updB_eq] at hk
        refine Goes.turn (h1 := allC h) (fun N => N.from_all) (go (k1 := fun s => ∃ h', turnH s.heap h' ∧ k ⟨s.tmps, h'⟩) hp fun q hq hqq => open_ h1 hq ?_) (fun s hs => hs)
        have hon : ontoX te ts (allC h) b n c ⟨q, rn, recS rn g⟩ dst fun s => ∃ h', turnH s.heap h' ∧ k ⟨s.tmps, h'⟩ := by
          unfold ontoX
          rw [nthB_all hb]
          refine ⟨⟨hqq, sizeS_recS hlen, hc, hroom⟩, ?_⟩
          rw [updBK_eq, updB_eq]
          intro c' hc'
          rw [forceS_eq, pushBK_eq, putK_eq, Nat.zero_add]
          have hk' := growR_eq _ _ _ _ _ _ _ hk c' hc'
          have htl : ∀ i, i < n + rn → (catR n f g i).length = te.size := fun i hi => by
            unfold catR
            split
            · exact hlen i (by assumption)
            · exact h4 _ (by omega)
          have hT := turnH_back S (A := .cells true (catS (recS n f) (recS rn g)) ((c' - (n + rn)) * te.size)) (B := .recs true (n + rn) te.size (catR n f g) ((c' - (n + rn)) * te.size)) (by rw [catS_recs]; exact turnB_recs htl) (some b)
          simp only at hT
          refine ⟨(h.set b .dead) ++ [.recs true (n + rn) te.size (catR n f g) ((c' - (n + rn)) * te.size)], ?_, ?_⟩
          · cases dst <;> exact hT
          · have hl : ((allC h).set b .dead).length = (h.set b .dead).length := by simp [allC]
            rw [hl]
            cases dst <;> exact hk'
        rcases hxe with rfl | rfl
        · exact hon
        · exact hon
      · exact hk.elim
    split at hk
    · obtain ⟨⟨hp, hroom⟩, hk⟩ := hk
      obtain ⟨h1, q, h2, h3, h4⟩ := recSrc_spec S hsrc hp
      refine Goes.turn (h1 := allC h) (fun N => N.from_all) (go (k1 := fun s => ∃ h', turnH s.heap h' ∧ k ⟨s.tmps, h'⟩) hp fun q hq hqq => open_ h1 hq ?_) (fun s hs => hs)
      refine ⟨⟨hqq, hroom⟩, ?_⟩
      intro c' hc'
      rw [forceS_eq, pushBK_eq, putK_eq, Nat.zero_add]
      have hk' := growR_eq _ _ _ _ _ _ _ hk c' hc'
      have hT := turnH_back S (A := .cells true (recS rn g) ((c' - rn) * te.size)) (B := .recs true rn te.size g ((c' - rn) * te.size)) (turnB_recs h4) none
      simp only at hT
      refine ⟨h ++ [.recs true rn te.size g ((c' - rn) * te.size)], ?_, ?_⟩
      · cases dst <;> exact hT
      · have hl : (allC h).length = h.length := by simp [allC]
        rw [hl]
        cases dst <;> exact hk'
    · exact onto hk (.inl rfl)
    · exact onto hk (.inr rfl)
    · exact hk.elim
  · exact hk.elim

theorem appX_snd (T : Tbl) {E : Emb} {h : List Blk} {w : World} (S : Sim E h w) {t tx ty : TypeId} {x y : EV} {xv yv : Value} (hx : denE E x xv) (hy : denE E y yv) {ts : List EV} {dst : Option Tmp} {k : St → Prop}
    (hk : appX T ts h t tx x y dst k) : Goes T E h w (Builtin.append_ #[t, tx] ty #[xv, yv]) ts dst k := by
  unfold appX at hk
  split at hk
  · rename_i ht htx
    split at hk
    · rename_i te he
      split at hk
      · exact appC_snd T S hx hy hk
      · exact appR_snd T S ht htx he hx hy hk
    · exact hk.elim
  · exact appC_snd T S hx hy hk

end Go.Anv

/- The engine, part 5c: 'append(x, make([]T, n)...)' of whole numbers: zeros behind a slice. Plain theorems; their conditions are the table's own facts. -/
namespace Go.Anv
open Go

theorem zeros_ints (q : IntKind) (z : Int) (n : Nat) : (Builtin.zeroCells #[Value.int q z] n).toList = intsOf q n (fun _ => z) := by
  apply List.ext_getElem?
  intro j
  rcases Nat.lt_or_ge j n with h | h
  · rw [intsOf_get h]
    simp [Builtin.zeroCells, h, Nat.mod_one]
  · rw [List.getElem?_eq_none (by simpa [Builtin.zeroCells] using h), List.getElem?_eq_none (by rw [length_intsOf]; exact h)]

/-- zeros into the room of a slice. -/
theorem run_append_room_zeros {P : Program} (w : World) (t tn ty e : TypeId) (i : TypeInfo) (q : IntKind) (z : Int) (kq kn : IntKind) (ht : P.underlying t = some (.slice e)) (htn : P.underlying tn = some (.int kn)) (hi : P.info? e = some i) (hz : i.zero = some (.int q z)) (hs : i.size = 1)
    (b off n c m : Nat) (h63 : m ≤ 140737488355328) (h48 : m * i.bytes ≤ 281474976710656) (hroom : n + m ≤ c)
    (hc : ∀ j, j < m → (w.cell? ⟨b, off + n + j, none⟩).isSome = true) (hf : ∀ j, j < m → w.frozen? ⟨b, off + n + j, none⟩ = false) :
    (Builtin.append_ #[t, tn] ty #[.slice (some ⟨b, off, none⟩) n c, .int kq m]).run P w = .ok (.slice (some ⟨b, off, none⟩) (n + m) c) (w.setCells b (off + n) (intsOf q m (fun _ => z))) := by
  have hw : IntKind.i64.wrap (m : Int) = m := by rw [IntKind.wrap_i64]; omega
  have h48i : ¬ (281474976710656 < (m : Int) * (i.bytes : Int)) := by
    rw [← Int.natCast_mul]
    omega
  have hneg : ¬ ((m : Int) < 0) := by omega
  have hadd : (⟨b, off, none⟩ : Addr).add n = ⟨b, off + n, none⟩ := by
    unfold Addr.add
    split
    · subst_vars; rfl
    · rfl
  have hst := run_storeCells_cells (P := P) b (off + n) (intsOf q m (fun _ => z)) 0 w (fun j hj => by
    rw [length_intsOf] at hj
    rw [Nat.add_zero]; exact hc j hj) (fun j hj => by
    rw [length_intsOf] at hj
    rw [Nat.add_zero]; exact hf j hj) (fun v hv => by
    simp only [intsOf, List.mem_map] at hv
    obtain ⟨_, _, rfl⟩ := hv
    rfl)
  rw [Nat.add_zero] at hst
  rcases Nat.eq_zero_or_pos m with h0 | h0
  · subst h0
    have : intsOf q 0 (fun _ => z) = [] := rfl
    rw [this] at hst ⊢
    have hw0 : IntKind.i64.wrap 0 = 0 := by decide
    have hroom' : n ≤ c := by omega
    have hnil : (w.setCells b (off + n) []) = w := rfl
    rw [hnil] at hst ⊢
    simp [Builtin.append_, run_underlying ht, run_underlying htn, sizeOf, typeInfo, hi, hs, asInt, asIntOf, hw0, hroom', hadd, hst]
  · have hm : ¬ (m = 0) := by omega
    have hzc : (Builtin.zeroCells (Value.int q z).cells m).toList = intsOf q m (fun _ => z) := zeros_ints q z m
    simp [Builtin.append_, run_underlying ht, run_underlying htn, sizeOf, typeInfo, zeroValue, hi, hz, hs, asInt, asIntOf, hw, hm, hneg, h48i, hroom, hadd, hzc]
    rw [hst]
    rfl

/-- A slice has grown, in whatever way its run is known. -/
theorem grow_core (T : Tbl) {E : Emb} {h h1 : List Blk} {w : World} (n0 : E.n = h.length) (S : Sim E h1 w) (N : Since E h w E h1 w) {e : TypeId} {te : TI} {sem : Sem Value} {zc : Array Value}
    {n c m : Nat} {l : List Value} {cs : List Seg} (hrun : sem.run T.P w = .ok (.slice (some ⟨w.heap.size, 0, none⟩) (n + m) (grownCap w (n + m) c e)) (w.drew.alloc (.cells (l.toArray ++ zc) e)))
    (hzc : zc.size = (grownCap w (n + m) c e - (n + m)) * te.size) (hd : denS E cs l) {ts : List EV} {dst : Option Tmp} {k : St → Prop}
    (hk : growK ts h1 dst (n + m) te.size cs k) : Goes T E h w sem ts dst k := by
  have hge := grownCap_ge w (n + m) c e
  obtain ⟨S', N'⟩ := push_row S.drew e (arr := l.toArray ++ zc) (lo := 0) (hi := 0) (.inl rfl) (cs := cs) (sp := (grownCap w (n + m) c e - (n + m)) * te.size)
    (l := l) (rest := zc.toList) hd (by simp) (by rw [Array.length_toList, hzc]; exact Nat.le_refl _)
  refine ⟨_, _, _, _, _, hrun, ?_, S', ((N.trans n0 S.n (Since.drew E h1 w)).trans n0 S.n N'), growK_eq ts h1 dst (n + m) te.size cs k hk _ hge⟩
  simp only [denE, denV]
  refine ⟨by rw [← S.n]; simp [Emb.push], ?_, ?_⟩
  · rw [← S.n, Emb.push_new]
    intro h; cases h
  · rw [← S.n, Emb.push_new]
    simp only [Bool.false_eq_true, if_false]
    have : (E.push ⟨w.drew.heap.size, 0, false⟩).at E.n 0 = ⟨w.heap.size, 0, none⟩ := by
      unfold Emb.at
      rw [Emb.push_new]
      rfl
    rw [this]

theorem zappX_snd (T : Tbl) {E : Emb} {h : List Blk} {w : World} (S : Sim E h w) {t tx ty : TypeId} {kn kq : IntKind} {x : EV} {xv : Value} {m : Int} (hx : denE E x xv) (htn : T.P.underlying tx = some (.int kn)) {ts : List EV} {dst : Option Tmp} {k : St → Prop}
    (hk : zappX T ts h t x m dst k) : Goes T E h w (Builtin.append_ #[t, tx] ty #[xv, .int kq m]) ts dst k := by
  unfold zappX at hk
  split at hk
  · rename_i e _ _ _ ht
    have hd : T.P.underlying t = some (.slice e) := (T.tyOk _ _ ht).desc
    split at hk
    · rename_i te he
      split at hk
      · rename_i q z hz1 hs1
        obtain ⟨i, zv, hi, hisz, hby, hz, hzv⟩ := elem_info T he
        rw [hz1] at hzv
        simp only [valE, valV, Option.some.injEq] at hzv
        subst hzv
        have his : i.size = 1 := by rw [hisz, hs1]
        have hzcs : ∀ n, (Builtin.zeroCells (Value.int q z).cells n).size = n := fun n => by simp [Builtin.zeroCells, Value.cells]
        have grow : ∀ {h1 : List Blk} {base : Option Addr} {n c : Nat} {olds : List Value} {cs : List Seg}, Sim E h1 w → Since E h w E h1 w → (Builtin.firstCells te.size n (.slice base n c)).run T.P w.drew = .ok olds.toArray w.drew → denS E cs (olds ++ intsOf q m.toNat (fun _ => z)) →
            0 ≤ m → 0 < m.toNat → c < n + m.toNat → room te (n + m.toNat) → growK ts h1 dst (n + m.toNat) te.size cs k → Goes T E h w (Builtin.append_ #[t, tx] ty #[.slice base n c, .int kq m]) ts dst k := by
          intro h1 base n c olds cs S1 N1 hold hden hm hpos hg hr hk
          obtain ⟨_, hr1, hr2⟩ := hr
          rw [← hby] at hr2
          rw [← hisz] at hold
          obtain ⟨k', rfl⟩ := Int.eq_ofNat_of_zero_le hm
          rw [Int.toNat_natCast] at *
          have hfit := growslice_fits hg hr2
          have hkb : k' * i.bytes ≤ 281474976710656 := by
            have : k' * i.bytes ≤ (n + k') * i.bytes := Nat.mul_le_mul_right _ (by omega)
            omega
          have hrun := Lib.run_append_grow_zeros (P := T.P) w t tx ty e i (.int q z) kq kn hd htn hi hz base n c olds hold k' hpos (by omega) hg (by omega) hkb hfit
          refine grow_core T S.n S1 N1 (e := e) (zc := Builtin.zeroCells (Value.int q z).cells (grownCap w (n + k') c e - (n + k'))) (l := olds ++ intsOf q k' (fun _ => z)) ?_ (by rw [hzcs, hs1, Nat.mul_one]) hden hk
          rw [hrun]
          have : (olds ++ intsOf q k' fun _ => z).toArray = olds.toArray ++ Builtin.zeroCells (Value.int q z).cells k' := by
            rw [← Array.toList_inj, Array.toList_append, ← zeros_ints q z k']
            rfl
          rw [this]
        have onto : ∀ {b n c : Nat}, ontoX te ts h b n c ⟨0 ≤ m, m.toNat, [.ints q m.toNat (fun _ => z)]⟩ dst k → b < E.n → ((E.f b).nl = true ∧ n = 0 ∧ c = 0 ∧ xv = .slice none n c) ∨ ((E.f b).nl = false ∧ xv = .slice (some (E.at b 0)) n c) →
            Goes T E h w (Builtin.append_ #[t, tx] ty #[xv, .int kq m]) ts dst k := by
          intro b n c hk hb hxv
          unfold ontoX at hk
          split at hk
          · rename_i cs sp hbk
            obtain ⟨⟨hp, hsz, hc, hroom⟩, hk⟩ := hk
            simp only at hp hroom hk
            rw [updBK_eq, updB_eq] at hk
            obtain ⟨l, hl, hlw, _⟩ := S.look (nthB_get hbk)
            have hll := denS_length hl
            have hdn : denS E [Seg.ints q m.toNat (fun _ => z)] (intsOf q m.toNat (fun _ => z)) := ⟨[], by rw [List.append_nil], rfl⟩
            have hcat := denS_catS hl hdn
            have hrm := hroom
            obtain ⟨_, hr1, hr2⟩ := hroom
            rw [hs1, Nat.mul_one] at hsz
            rw [hs1, Nat.mul_one, Nat.mul_one] at hc
            rcases Nat.lt_or_ge c (n + m.toNat) with hg | hroom'
            · have hpos : 0 < m.toNat := by omega
              rcases hxv with ⟨_, rfl, rfl, rfl⟩ | ⟨_, rfl⟩
              · have : l = [] := List.eq_nil_of_length_eq_zero (by rw [hll, hsz])
                subst this
                exact grow (S.drop b) (Since.drop w b) (olds := []) (run_firstCells_none w.drew te.size 0 0 0) hcat hp hpos hg hrm hk
              · refine grow (S.drop b) (Since.drop w b) (olds := l) (run_firstCells_some w.drew te.size n (E.at b 0) n c l (by rw [hll, hsz, hs1, Nat.mul_one]) (fun j v hj => ?_)) hcat hp hpos hg hrm hk
                rw [Emb.at_add]
                unfold Emb.at
                rw [Nat.zero_add]
                exact hlw j v hj
            · have hcatl := denS_length hcat
              rw [List.length_append, hll, length_intsOf] at hcatl
              have hsp : sizeS (catS cs [Seg.ints q m.toNat (fun _ => z)]) + (c - (n + m.toNat)) * te.size = sizeS cs + sp := by
                rw [← hcatl, hs1, Nat.mul_one]
                omega
              have S1 := S.write (i := b) (cs' := catS cs [Seg.ints q m.toNat (fun _ => z)]) (sp' := (c - (n + m.toNat)) * te.size) (nthB_get hbk) (o := sizeS cs) (vs := intsOf q m.toNat (fun _ => z)) hl hlw
                (by rw [← hll, List.take_length, List.drop_eq_nil_of_le (by omega), List.append_nil]; exact hcat) hsp (Nat.le_refl _) (by rw [length_intsOf]; omega)
              have N1 := Since.write (E := E) (h := h) (w := w) (i := b) (cs := cs) (cs' := catS cs [Seg.ints q m.toNat (fun _ => z)]) (sp' := (c - (n + m.toNat)) * te.size) (nthB_get hbk) (o := sizeS cs) (vs := intsOf q m.toNat (fun _ => z)) hsp (by rw [length_intsOf]; omega)
              have hbl : b < h.length := by rw [← S.n]; exact hb
              have hself : (h.set b (.cells true (catS cs [Seg.ints q m.toNat (fun _ => z)]) ((c - (n + m.toNat)) * te.size)))[b]? = some (.cells true (catS cs [Seg.ints q m.toNat (fun _ => z)]) ((c - (n + m.toNat)) * te.size)) := List.getElem?_set_self hbl
              have S2 := S1.move hself
              have N2 := Since.move S1 hself
              rw [List.set_set] at S2 N2
              have hk2 := growK_eq ts _ dst (n + m.toNat) te.size (catS cs [Seg.ints q m.toNat (fun _ => z)]) k hk c hroom'
              obtain ⟨_, _, hm⟩ := S.ok b _ (nthB_get hbk)
              have hm := hm rfl
              have hlen : (h.set b Blk.dead).length = E.n := by rw [List.length_set]; exact S.n.symm
              obtain ⟨k', rfl⟩ := Int.eq_ofNat_of_zero_le hp
              rw [Int.toNat_natCast] at *
              have hkb : k' * i.bytes ≤ 281474976710656 := by
                rw [← hby] at hr2
                have : k' * i.bytes ≤ (n + k') * i.bytes := Nat.mul_le_mul_right _ (by omega)
                omega
              rcases hxv with ⟨hq, rfl, rfl, rfl⟩ | ⟨hq, rfl⟩
              · have h0 : k' = 0 := by omega
                subst h0
                refine ⟨.slice none 0 0, w, _, _, _, ?_, ?_, S2, N1.trans S.n S1.n N2, hk2⟩
                · have hw0 : IntKind.i64.wrap 0 = 0 := by decide
                  simp [Builtin.append_, run_underlying hd, run_underlying htn, sizeOf, typeInfo, hi, asInt, asIntOf, hw0]
                · simp only [denE, denV, hlen, Emb.push_new, hq, if_true]
                  exact ⟨by simp [Emb.push], fun _ => ⟨by omega, trivial⟩, trivial⟩
              · have hex : ∀ j, j < k' → (w.cell? ⟨(E.f b).1, (E.f b).2 + n + j, none⟩).isSome = true ∧ w.frozen? ⟨(E.f b).1, (E.f b).2 + n + j, none⟩ = false := fun j hj => by
                  obtain ⟨⟨v, hv⟩, hro⟩ := hm (n + j) (by omega)
                  rw [Nat.add_assoc, hv]
                  exact ⟨rfl, hro.frozen hv⟩
                have hat : E.at b 0 = ⟨(E.f b).1, (E.f b).2, none⟩ := rfl
                refine ⟨Value.slice (some (E.at b 0)) (n + k') c, _, _, _, _, ?_, ?_, S2, N1.trans S.n S1.n N2, hk2⟩
                · rw [hat, hsz]
                  exact run_append_room_zeros (P := T.P) w t tx ty e i q z kq kn hd htn hi hz his (E.f b).1 (E.f b).2 n c k' (by omega) hkb hroom' (fun j hj => (hex j hj).1) (fun j hj => (hex j hj).2)
                · simp only [denE, denV, hlen, Emb.push_new, hq, Bool.false_eq_true, if_false]
                  refine ⟨by simp [Emb.push], fun h => h.elim, ?_⟩
                  unfold Emb.at
                  rw [Emb.push_new]
          · exact hk.elim
        split at hk
        · obtain ⟨⟨hp, hroom⟩, hk⟩ := hk
          simp only [denE, denV] at hx
          subst hx
          rcases Nat.eq_zero_or_pos m.toNat with h0 | h0
          · have hm0 : m = 0 := by omega
            subst hm0
            obtain ⟨S', N'⟩ := push_nil S (cs := [Seg.ints q (0 : Int).toNat (fun _ => z)]) ⟨[], rfl, rfl⟩
            have hk2 := growK_eq ts h dst (0 : Int).toNat te.size [Seg.ints q (0 : Int).toNat (fun _ => z)] k hk 0 (by simp)
            refine ⟨.slice none 0 0, w, _, _, _, ?_, ?_, S', N', by simpa using hk2⟩
            · have hw0 : IntKind.i64.wrap 0 = 0 := by decide
              simp [Builtin.append_, run_underlying hd, run_underlying htn, sizeOf, typeInfo, hi, asInt, asIntOf, hw0]
            · simp only [denE, denV, ← S.n, Emb.push_new, if_true]
              exact ⟨by simp [Emb.push], by simp, by simp⟩
          · have hk' : growK ts h dst (0 + m.toNat) te.size [Seg.ints q m.toNat (fun _ => z)] k := by rw [Nat.zero_add]; exact hk
            exact grow S (Since.refl _ _ _) (olds := []) (run_firstCells_none w.drew te.size 0 0 0) (show denS E [Seg.ints q m.toNat (fun _ => z)] ([] ++ intsOf q m.toNat (fun _ => z)) from ⟨[], by simp, rfl⟩) hp h0 (by omega) (by rw [Nat.zero_add]; exact hroom) hk'
        · simp only [denE, denV] at hx
          exact onto hk hx.1.1 (.inr ⟨hx.1.2, hx.2⟩)
        · rename_i b n c
          simp only [denE, denV] at hx
          obtain ⟨h1, h2, h3⟩ := hx
          refine onto hk h1 ?_
          cases hq : (E.f b).nl with
          | true => rw [hq] at h3 h2; exact .inl ⟨rfl, (h2 rfl).1, (h2 rfl).2, by simpa using h3⟩
          | false => rw [hq] at h3; exact .inr ⟨rfl, by simpa using h3⟩
        · exact hk.elim
      · exact hk.elim
    · exact hk.elim
  · exact hk.elim

end Go.Anv
