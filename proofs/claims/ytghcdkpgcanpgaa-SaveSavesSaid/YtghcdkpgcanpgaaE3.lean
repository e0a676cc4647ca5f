/- The engine, part 3: how a piece of code is walked over a small world: the walker 'wpx' says what is left to be shown. Definitions alone. -/
import Derived.Test.YtghcdkpgcanpgaaE2b
import Derived.OrdersHeld
namespace Go.Anv
open Go

/-! ### types -/

inductive TD where
  | int (k : IntKind)
  | bool
  | str
  | ptr (e : TypeId)
  | slice (e : TypeId)
  | array (n : Nat) (e : TypeId)
  | struct (fs : List (TypeId × Nat))
  | map (k e : TypeId)
  | iface
  | other
  | uptr

structure TI where
  d : TD
  size : Nat
  bytes : Nat
  zero : EV

def TD.agg : TD → Bool
  | .array .. => true
  | .struct _ => true
  | _ => false

def descOk (P : Program) (t : TypeId) : TD → Prop
  | .int k => P.underlying t = some (.int k)
  | .bool => P.underlying t = some .bool
  | .str => P.underlying t = some .string
  | .ptr e => P.underlying t = some (.pointer e)
  | .slice e => P.underlying t = some (.slice e)
  | .array n e => P.underlying t = some (.array n e)
  | .struct fs => ∃ a, P.underlying t = some (.struct a) ∧ a.toList.map (fun f => (f.type, f.offset)) = fs
  | .map k e => P.underlying t = some (.map k e)
  | .iface => ∃ ms, P.underlying t = some (.interface ms)
  | .uptr => P.underlying t = some .unsafePointer
  | .other => ∃ ps rs v, P.underlying t = some (.func ps rs v)

/-- A value without addresses, written out. -/
def valV : SV → Option Value
  | .int k n => some (.int k n)
  | .bool b => some (.bool b)
  | .str s => some (.string s)
  | .nilptr => some (.pointer none)
  | .nilslice => some (.slice none 0 0)
  | .nilmap => some (.map none)
  | .nilfunc => some .nilFunc
  | .niliface => some .nilIface
  | _ => none

def valS : List Seg → Option (List Value)
  | [] => some []
  | .one v :: r => match valV v, valS r with
    | some x, some l => some (x :: l)
    | _, _ => none
  | .ints k n f :: r => match valS r with
    | some l => some (intsOf k n f ++ l)
    | none => none

def valE : EV → Option Value
  | .s v => valV v
  | .agg cs => match valS cs with
    | some l => some (.agg l.toArray)
    | none => none
  | _ => none

structure TIok (P : Program) (t : TypeId) (i : TI) : Prop where
  desc : descOk P t i.d
  size : (P.info? t).map (·.size) = some i.size
  bytes : (P.info? t).map (·.bytes) = some i.bytes
  zero : ∃ z, valE i.zero = some z ∧ (P.info? t).bind (·.zero) = some z

def sameK : IntKind → IntKind → Bool
  | .i8, .i8 | .i16, .i16 | .i32, .i32 | .i64, .i64 | .u8, .u8 | .u16, .u16 | .u32, .u32 | .u64, .u64 => true
  | _, _ => false

/-- Cell by cell: are they the same? none: not to be told. -/
def eqCells : List Value → List Value → Option Bool
  | [], [] => some true
  | .int k a :: r, .int k' b :: r' => if sameK k k' then (eqCells r r').map ((a == b) && ·) else none
  | .bool a :: r, .bool b :: r' => (eqCells r r').map ((a == b) && ·)
  | _, _ => none

/-- What the walker knows of a program: its types; its methods by name; which types are compared cell by cell. -/
structure Tbl where
  P : Program
  ty : TypeId → Option TI
  mth : TypeId → String → Option FuncId
  eqs : TypeId → Option (List KS)
  mixed : P.follows .mixedOrders = true
  tyOk : ∀ t i, ty t = some i → TIok P t i
  eqOk : ∀ t ks, eqs t = some ks → P.eqGuardType P.depth t = false ∧ ∃ n, n < 10000 ∧ PTn P n t true ks
  mthOk : ∀ t s f, mth t s = some f → ∀ a w, (method (P.types.size + Made.depth) t (.pointer (some a)) s).run P w = .ok (f, .pointer (some a)) w ∧ (nilAhead (P.types.size + Made.depth) t (.pointer (some a)) s).run P w = .ok (some false) w

/-- A table of types, sixteen a row. -/
def rowT : List (List (Option TI)) → Nat → List (Option TI)
  | [], _ => []
  | x :: _, 0 => x
  | _ :: r, n + 1 => rowT r n

def colT : List (Option TI) → Nat → Option TI
  | [], _ => none
  | x :: _, 0 => x
  | _ :: r, n + 1 => colT r n

def tblT (l : List (List (Option TI))) (t : TypeId) : Option TI := colT (rowT l (t / 16)) (t % 16)

def okC (P : Program) : Nat → List (Option TI) → Prop
  | _, [] => True
  | t, none :: r => okC P (t + 1) r
  | t, some i :: r => TIok P t i ∧ okC P (t + 1) r

def okR (P : Program) : Nat → List (List (Option TI)) → Prop
  | _, [] => True
  | n, x :: r => okC P (16 * n) x ∧ okR P (n + 1) r

theorem okC_get {P : Program} : ∀ {l : List (Option TI)} {t j : Nat} {i : TI}, okC P t l → colT l j = some i → TIok P (t + j) i
  | [], _, _, _, _, h => by simp [colT] at h
  | none :: _, _, 0, _, _, h => by simp [colT] at h
  | some x :: _, _, 0, _, h1, h => by simp only [colT, Option.some.injEq] at h; subst h; exact h1.1
  | none :: r, t, j + 1, i, h1, h => by
    have := okC_get (l := r) (t := t + 1) (j := j) (i := i) h1 h
    rwa [show t + (j + 1) = t + 1 + j by omega]
  | some x :: r, t, j + 1, i, h1, h => by
    have := okC_get (l := r) (t := t + 1) (j := j) (i := i) h1.2 h
    rwa [show t + (j + 1) = t + 1 + j by omega]

theorem okR_get {P : Program} : ∀ {l : List (List (Option TI))} {n q j : Nat} {i : TI}, okR P n l → colT (rowT l q) j = some i → TIok P (16 * (n + q) + j) i
  | [], _, _, _, _, _, h => by simp [rowT, colT] at h
  | x :: _, n, 0, j, i, h1, h => okC_get h1.1 h
  | _ :: r, n, q + 1, j, i, h1, h => by
    have := okR_get (l := r) (n := n + 1) (q := q) (j := j) (i := i) h1.2 h
    rwa [show n + (q + 1) = n + 1 + q by omega]

theorem tblT_ok {P : Program} {l : List (List (Option TI))} (h : okR P 0 l) (t : TypeId) (i : TI) (ht : tblT l t = some i) : TIok P t i := by
  have := okR_get h ht
  rwa [Nat.zero_add, Nat.div_add_mod] at this

/-- Which types are compared cell by cell. -/
def eqL : List (Nat × List KS) → TypeId → Option (List KS)
  | [], _ => none
  | (u, ks) :: r, t => bif Nat.beq u t then some ks else eqL r t

def okE (P : Program) : List (Nat × List KS) → Prop
  | [] => True
  | (u, ks) :: r => (P.eqGuardType P.depth u = false ∧ ∃ n, n < 10000 ∧ PTn P n u true ks) ∧ okE P r

theorem eqL_ok {P : Program} : ∀ {l : List (Nat × List KS)}, okE P l → ∀ t ks, eqL l t = some ks → P.eqGuardType P.depth t = false ∧ ∃ n, n < 10000 ∧ PTn P n t true ks
  | [], _, _, _, h => by simp [eqL] at h
  | (u, k) :: r, ho, t, ks, h => by
    simp only [eqL] at h
    cases hb : Nat.beq u t with
    | true =>
      rw [hb] at h
      have := Nat.eq_of_beq_eq_true hb
      subst this
      simp only [cond_true, Option.some.injEq] at h
      subst h
      exact ho.1
    | false =>
      rw [hb] at h
      exact eqL_ok ho.2 t ks h

/-- Methods by type and name: which function. -/
def nameL : List (String × FuncId) → String → Option FuncId
  | [], _ => none
  | (n, f) :: r, s => if n = s then some f else nameL r s

def mthL : List (Nat × List (String × FuncId)) → TypeId → String → Option FuncId
  | [], _, _ => none
  | (u, l) :: r, t, s => bif Nat.beq u t then nameL l s else mthL r t s

def okN (P : Program) (t : TypeId) : List (String × FuncId) → Prop
  | [] => True
  | (n, f) :: r => (∃ m, (P.info? t).bind (fun i => i.methods.find? (·.name == n)) = some m ∧ m.path.toList = [] ∧ m.func = some (f, true)) ∧ okN P t r

def okM (P : Program) : List (Nat × List (String × FuncId)) → Prop
  | [] => True
  | (t, l) :: r => ((∃ e, P.underlying t = some (.pointer e)) ∧ okN P t l) ∧ okM P r

theorem nameL_ok {P : Program} {t : TypeId} : ∀ {l : List (String × FuncId)}, okN P t l → ∀ s f, nameL l s = some f → ∃ m, (P.info? t).bind (fun i => i.methods.find? (·.name == s)) = some m ∧ m.path.toList = [] ∧ m.func = some (f, true)
  | [], _, _, _, h => by simp [nameL] at h
  | (n, f) :: r, ho, s, g, h => by
    simp only [nameL] at h
    split at h
    · rename_i hn
      subst hn
      simp only [Option.some.injEq] at h
      subst h
      exact ho.1
    · exact nameL_ok ho.2 s g h

theorem mthL_ok {P : Program} : ∀ {l : List (Nat × List (String × FuncId))}, okM P l → ∀ t s f, mthL l t s = some f → ∀ a w, (method (P.types.size + Made.depth) t (.pointer (some a)) s).run P w = .ok (f, .pointer (some a)) w ∧ (nilAhead (P.types.size + Made.depth) t (.pointer (some a)) s).run P w = .ok (some false) w
  | [], _, _, _, _, h => by simp [mthL] at h
  | (u, l) :: r, ho, t, s, f, h => by
    simp only [mthL] at h
    cases hb : Nat.beq u t with
    | true =>
      rw [hb] at h
      have := Nat.eq_of_beq_eq_true hb
      subst this
      simp only [cond_true] at h
      obtain ⟨⟨e, hu⟩, hn⟩ := ho.1
      obtain ⟨m, h1, h2, h3⟩ := nameL_ok hn s f h
      intro a w
      obtain ⟨i, hi, hm⟩ := Option.bind_eq_some_iff.1 h1
      show (method ((P.types.size + 99) + 1) u (.pointer (some a)) s).run P w = _ ∧ (nilAhead ((P.types.size + 99) + 1) u (.pointer (some a)) s).run P w = _
      generalize P.types.size + 99 = N
      constructor
      · simp only [method, typeInfo, Sem.run_bind, run_program, Result.andThen_ok, hi, hm, h2, follow, Sem.run_pure, h3, receiverAt, run_underlying hu, Place.get]
      · simp only [nilAhead, typeInfo, Sem.run_bind, run_program, Result.andThen_ok, hi, hm, h2, followBlind, Sem.run_pure, h3]
    | false =>
      rw [hb] at h
      exact mthL_ok ho.2 t s f h

/-! ### states -/

structure St where
  tmps : List EV
  heap : List Blk

def nth : List EV → Nat → EV
  | [], _ => .junk
  | x :: _, 0 => x
  | _ :: r, n + 1 => nth r n

def upd : List EV → Nat → EV → List EV
  | [], _, _ => []
  | _ :: r, 0, v => v :: r
  | x :: r, n + 1, v => x :: upd r n v

def updB : List Blk → Nat → Blk → List Blk
  | [], _, _ => []
  | _ :: r, 0, v => v :: r
  | x :: r, n + 1, v => x :: updB r n v

def nthB : List Blk → Nat → Option Blk
  | [], _ => none
  | x :: _, 0 => some x
  | _ :: r, n + 1 => nthB r n

def St.put (s : St) (dst : Option Tmp) (v : EV) : St :=
  match dst with
  | some d => { s with tmps := upd s.tmps d v }
  | none => s

def constV : Value → Option SV
  | .bool b => some (.bool b)
  | .int k n => some (.int k n)
  | .string s => some (.str s)
  | .pointer none => some .nilptr
  | .slice none 0 0 => some .nilslice
  | .map none => some .nilmap
  | .nilFunc => some .nilfunc
  | .nilIface => some .niliface
  | _ => none

def evT (ts : List EV) : Operand → EV
  | .tmp t => nth ts t
  | .const v => match constV v with
    | some e => .s e
    | none => .junk
  | .global _ => .junk
  | .func f => .s (.func (.func f) [] [])

def St.ev (s : St) (x : Operand) : EV := evT s.tmps x

/-! ### operations without effect -/

inductive PR where
  | fail
  | ok (v : EV)
  | need (p : Prop) (v : EV)

def bitX (op : BinOp) (k : IntKind) (x y : Int) : Int :=
  let a := BitVec.ofInt k.bits x
  let b := BitVec.ofInt k.bits y
  k.wrap (match op with
    | .and => (a &&& b).toNat
    | .or => (a ||| b).toNat
    | .xor => (a ^^^ b).toNat
    | _ => (a &&& ~~~b).toNat)

def intX (op : BinOp) (k : IntKind) (a b : Int) : PR :=
  match op with
  | .add => .ok (.s (.int k (k.wrap (a + b))))
  | .sub => .ok (.s (.int k (k.wrap (a - b))))
  | .mul => .ok (.s (.int k (k.wrap (a * b))))
  | .quo => .need (b ≠ 0) (.s (.int k (k.wrap (a.tdiv b))))
  | .rem => .need (b ≠ 0) (.s (.int k (a.tmod b)))
  | .and => .ok (.s (.int k (bitX .and k a b)))
  | .or => .ok (.s (.int k (bitX .or k a b)))
  | .xor => .ok (.s (.int k (bitX .xor k a b)))
  | .andNot => .ok (.s (.int k (bitX .andNot k a b)))
  | .eql => .ok (.s (.bool (a == b)))
  | .neq => .ok (.s (.bool (a != b)))
  | .lss => .ok (.s (.bool (decide (a < b))))
  | .leq => .ok (.s (.bool (decide (a ≤ b))))
  | .gtr => .ok (.s (.bool (decide (a > b))))
  | .geq => .ok (.s (.bool (decide (a ≥ b))))
  | _ => .fail

/-- Are these cells such as a type has? -/
def fitS : List KS → List Seg → Bool
  | [], [] => true
  | .int k :: r, .one (.int k' _) :: s => sameK k k' && fitS r s
  | .bool :: r, .one (.bool _) :: s => fitS r s
  | .arr k n :: r, .ints k' m _ :: s => (sameK k k' && Nat.beq n m) && fitS r s
  | _, _ => false

/-- Cell by cell: are they the same? none: not to be told. -/
def eqSeg : List Seg → List Seg → Option Bool
  | [], [] => some true
  | .one (.int k a) :: r, .one (.int k' b) :: r' => if sameK k k' then (eqSeg r r').map ((a == b) && ·) else none
  | .one (.bool a) :: r, .one (.bool b) :: r' => (eqSeg r r').map ((a == b) && ·)
  | .ints k n f :: r, .ints k' m g :: r' => if sameK k k' && n == m then (eqSeg r r').map (((List.range n).all fun j => f j == g j) && ·) else none
  | _, _ => none

def binX (T : Tbl) (op : BinOp) (t : TypeId) (x y : EV) : PR :=
  match x, y with
  | .s (.int k a), .s (.int k' b) =>
    match op with
    | .shl => .need (0 ≤ b) (.s (.int k (k.wrap (a * 2 ^ (min b.toNat k.bits)))))
    | .shr => .need (0 ≤ b) (.s (.int k (a.fdiv (2 ^ (min b.toNat k.bits)))))
    | op => if sameK k k' then intX op k a b else .fail
  | .s (.bool a), .s (.bool b) =>
    match op, T.ty t with
    | .eql, some { d := .bool, .. } => .ok (.s (.bool (a == b)))
    | .neq, some { d := .bool, .. } => .ok (.s (.bool (!(a == b))))
    | _, _ => .fail
  | .s (.str a), .s (.str b) =>
    match op with
    | .eql => .ok (.s (.bool (a == b)))
    | .neq => .ok (.s (.bool (a != b)))
    | .add => .need (a.size + b.size ≤ 9223372036854775807) (.s (.str (a ++ b)))
    | _ => .fail
  | .agg a, .agg b =>
    match T.eqs t with
    | some ks => match fitS ks a && fitS ks b, op, eqSeg a b with
      | true, .eql, some r => .ok (.s (.bool r))
      | true, .neq, some r => .ok (.s (.bool (!r)))
      | _, _, _ => .fail
    | none => .fail
  | .s (.ptr _ _), .s .nilptr =>
    match op, T.ty t with
    | .eql, some { d := .ptr _, .. } => .ok (.s (.bool false))
    | .neq, some { d := .ptr _, .. } => .ok (.s (.bool true))
    | _, _ => .fail
  | .s .nilptr, .s .nilptr =>
    match op, T.ty t with
    | .eql, some { d := .ptr _, .. } => .ok (.s (.bool true))
    | .neq, some { d := .ptr _, .. } => .ok (.s (.bool false))
    | _, _ => .fail
  | .s (.slice _ _ _ _), .s .nilslice =>
    match op, T.ty t with
    | .eql, some { d := .slice _, .. } => .ok (.s (.bool false))
    | .neq, some { d := .slice _, .. } => .ok (.s (.bool true))
    | _, _ => .fail
  | .s .nilslice, .s .nilslice =>
    match op, T.ty t with
    | .eql, some { d := .slice _, .. } => .ok (.s (.bool true))
    | .neq, some { d := .slice _, .. } => .ok (.s (.bool false))
    | _, _ => .fail
  | .s (.func _ _ _), .s .nilfunc =>
    match op, T.ty t with
    | .eql, some { d := .other, .. } => .ok (.s (.bool false))
    | .neq, some { d := .other, .. } => .ok (.s (.bool true))
    | _, _ => .fail
  | .s .nilfunc, .s .nilfunc =>
    match op, T.ty t with
    | .eql, some { d := .other, .. } => .ok (.s (.bool true))
    | .neq, some { d := .other, .. } => .ok (.s (.bool false))
    | _, _ => .fail
  | _, _ => .fail

def cnst : Operand → Bool
  | .const _ => true
  | _ => false

/-- Of two values of an interface type, one of them nil. 'c': one is written out. -/
def binY (T : Tbl) (c : Bool) (op : BinOp) (t : TypeId) (x y : EV) : PR :=
  match x, y with
  | .s (.iface _ _ _), .s .niliface =>
    match op, T.ty t with
    | .eql, some { d := .iface, .. } => .ok (.s (.bool false))
    | .neq, some { d := .iface, .. } => .ok (.s (.bool true))
    | _, _ => .fail
  | .s .niliface, .s .niliface =>
    match op, T.ty t, c with
    | .eql, some { d := .iface, .. }, true => .ok (.s (.bool true))
    | .neq, some { d := .iface, .. }, true => .ok (.s (.bool false))
    | _, _, _ => .fail
  | x, y => binX T op t x y

def unX (op : UnOp) (x : EV) : PR :=
  match op, x with
  | .not, .s (.bool b) => .ok (.s (.bool (!b)))
  | .neg, .s (.int k n) => .ok (.s (.int k (k.wrap (0 - n))))
  | .xor, .s (.int k n) => .ok (.s (.int k (bitX .xor k (if k.signed then -1 else k.max) n)))
  | _, _ => .fail

/-- What a slice or a string yields, element by element: under which condition, how many, the cells. -/
structure Rng where
  p : Prop
  n : Nat
  cs : List Seg

def strF (s : ByteArray) (j : Nat) : Int := (((s.data.toList.map UInt8.toNat).getD j 0 : Nat) : Int)

def shf (o : Nat) (f : Nat → Int) (j : Nat) : Int := f (o + j)

def rngAt (h : List Blk) (size b o n : Nat) : Option Rng :=
  match nthB h b with
  | some (.cells _ [.ints k m f] _) => match size with
    | 1 => some ⟨o + n ≤ m, n, [.ints k n (shf o f)]⟩
    | _ => none
  | some (.cells _ cs _) => match o with
    | 0 => some ⟨sizeS cs = n * size, n, cs⟩
    | _ => none
  | _ => none

def rngX (h : List Blk) (size : Nat) : EV → Option Rng
  | .s .nilslice => some ⟨True, 0, []⟩
  | .s (.str s) => match size with
    | 1 => some ⟨True, s.size, [.ints .u8 s.size (strF s)]⟩
    | _ => none
  | .s (.slice b o n _) => rngAt h size b o n
  | .s (.gs b o n _) => rngAt h size b o n
  | _ => none

def isStr : EV → Bool
  | .s (.str _) => true
  | _ => false

/-- The string of some bytes. -/
def bytesOf (n : Nat) (f : Nat → Int) : ByteArray := ((List.range n).map f).foldl (fun r x => r.push (UInt8.ofNat x.toNat)) ByteArray.empty

def convX (T : Tbl) (h : List Blk) (src dst : TypeId) (x : EV) : PR :=
  match T.ty src, T.ty dst with
  | some { d := .int _, .. }, some { d := .int k, .. } => match x with
    | .s (.int _ n) => .ok (.s (.int k (k.wrap n)))
    | _ => .fail
  | some { d := .slice e, .. }, some { d := .str, .. } => match T.ty e with
    | some { d := .int .u8, .. } => match isStr x, rngX h 1 x with
      | false, some ⟨p, n, []⟩ => .need (p ∧ n = 0) (.s (.str ByteArray.empty))
      | false, some ⟨p, n, [.ints .u8 _ f]⟩ => .need p (.s (.str (bytesOf n f)))
      | _, _ => .fail
    | _ => .fail
  | _, _ => .fail

def boundX : Option EV → Nat → Option Int
  | none, d => some d
  | some (.s (.int _ i)), _ => some i
  | _, _ => none

def skip (m l o size : Nat) : Nat := if m = l then o else o + l * size

/-- A slice of a slice, its room told. -/
def sliceMX (T : Tbl) (t : TypeId) (x : EV) (lo hi : Option EV) (mx : EV) : PR :=
  match mx, hi with
  | .s (.int _ m), some (.s (.int _ h)) => match T.ty t, x with
    | some { d := .slice e, .. }, .s (.slice b o _ c) => match T.ty e, boundX lo 0 with
      | some te, some l => .need (0 ≤ l ∧ l ≤ h ∧ h ≤ m ∧ m ≤ c) (.s (.slice b (skip m.toNat l.toNat o te.size) (h.toNat - l.toNat) (m.toNat - l.toNat)))
      | _, _ => .fail
    | some { d := .slice e, .. }, .s (.gs b o _ c) => match T.ty e, boundX lo 0 with
      | some te, some l => .need (0 ≤ l ∧ l ≤ h ∧ h ≤ m ∧ m ≤ c) (.s (.gs b (skip m.toNat l.toNat o te.size) (h.toNat - l.toNat) (m.toNat - l.toNat)))
      | _, _ => .fail
    | _, _ => .fail
  | _, _ => .fail

/-- A slice of a slice or of a string. -/
def sliceX (T : Tbl) (t : TypeId) (x : EV) (lo hi mx : Option EV) : PR :=
  match mx with
  | some m => sliceMX T t x lo hi m
  | none => match T.ty t, x with
    | some { d := .str, .. }, .s (.str s) => match boundX lo 0, boundX hi s.size with
      | some l, some h => .need (0 ≤ l ∧ l ≤ h ∧ h ≤ s.size) (.s (.str (s.extract l.toNat h.toNat)))
      | _, _ => .fail
    | some { d := .slice e, .. }, .s (.slice b o n c) => match T.ty e, boundX lo 0, boundX hi n with
      | some te, some l, some h => .need (0 ≤ l ∧ l ≤ h ∧ h ≤ c) (.s (.slice b (skip c l.toNat o te.size) (h.toNat - l.toNat) (c - l.toNat)))
      | _, _, _ => .fail
    | some { d := .slice e, .. }, .s (.gs b o n c) => match T.ty e, boundX lo 0, boundX hi n with
      | some te, some l, some h => .need (0 ≤ l ∧ l ≤ h ∧ h ≤ c) (.s (.gs b (skip c l.toNat o te.size) (h.toNat - l.toNat) (c - l.toNat)))
      | _, _, _ => .fail
    | _, _ => .fail

/-- A pick of two values that are there (or would be, were they asked for). -/
def pickX (t : Bool) (a b : EV) : PR :=
  match a, b with
  | .s (.bool x), .s (.bool y) => .ok (.s (.bool (bif t then x else y)))
  | .gd g (.s (.bool x)), .s (.bool y) => .need (t = true → g = true) (.s (.bool (bif t then x else y)))
  | .s (.bool x), .gd g (.s (.bool y)) => .need (t = false → g = true) (.s (.bool (bif t then x else y)))
  | .s (.int k x), .s (.int k' y) => if sameK k k' then .ok (.s (.int k (bif t then x else y))) else .fail
  | .gd g (.s (.int k x)), .s (.int k' y) => if sameK k k' then .need (t = true → g = true) (.s (.int k (bif t then x else y))) else .fail
  | .s (.int k x), .gd g (.s (.int k' y)) => if sameK k k' then .need (t = false → g = true) (.s (.int k (bif t then x else y))) else .fail
  | _, _ => .fail

def fieldOf : List (TypeId × Nat) → Nat → Option (TypeId × Nat)
  | [], _ => none
  | x :: _, 0 => some x
  | _ :: r, n + 1 => fieldOf r n

/-- The address of a field. -/
def fieldAddrX (T : Tbl) (t : TypeId) (x : EV) (i : Nat) : PR :=
  match T.ty t with
  | some { d := .struct fs, .. } =>
    match fieldOf fs i with
    | some (ft, off) =>
      match T.ty ft with
      | some { size := _ + 1, .. } =>
        match x with
        | .s (.ptr b o) => .ok (.s (.ptr b (o + off)))
        | .s (.pix b o j) => if off = 0 then .ok (.s (.pix b o j)) else .fail
        | _ => .fail
      | _ => .fail
    | none => .fail
  | _ => .fail

/-- Part of a struct's or an array's cells. -/
def partX (T : Tbl) (t : TypeId) (cs : List Seg) (off : Nat) : PR :=
  match T.ty t with
  | some i => if i.d.agg then
      match dropS cs off with
      | some r => match takeS r i.size with
        | some c => .ok (.agg c)
        | none => .fail
      | none => .fail
    else match getS cs off with
      | some v => .ok (.s v)
      | none => .fail
  | none => .fail

def fieldX (T : Tbl) (t : TypeId) (x : EV) (i : Nat) : PR :=
  match T.ty t, x with
  | some { d := .struct fs, .. }, .agg cs =>
    match fieldOf fs i with
    | some (ft, off) => partX T ft cs off
    | none => .fail
  | _, _ => .fail

/-- The address of an element. -/
def indexAddrX (T : Tbl) (h : List Blk) (t : TypeId) (x i : EV) : PR :=
  match T.ty t, x, i with
  | some { d := .array n e, .. }, .s (.ptr b o), .s (.int _ i) =>
    match T.ty e, nthB h b with
    | some te, some (.cells _ cs _) =>
      match getI cs o with
      | some (_, _, _) => if te.size = 1 then .need (0 ≤ i ∧ i < n) (.s (.pix b o i.toNat)) else .fail
      | none => .need (0 ≤ i ∧ i < n) (.s (.ptr b (o + i.toNat * te.size)))
    | _, _ => .fail
  | some { d := .slice e, .. }, .s (.slice b o len _), .s (.int _ i) =>
    match T.ty e, nthB h b with
    | some te, some (.cells _ cs _) =>
      match getI cs 0 with
      | some (_, _, _) => if te.size = 1 then .need (0 ≤ i ∧ i < len) (.s (.pix b 0 (o + i.toNat))) else .fail
      | none => .need (0 ≤ i ∧ i < len) (.s (.ptr b (o + i.toNat * te.size)))
    | _, _ => .fail
  | some { d := .slice e, .. }, .s (.gs b o len _), .s (.int _ i) =>
    match T.ty e, nthB h b with
    | some te, some (.cells _ cs _) =>
      match getI cs 0 with
      | some (_, _, _) => if te.size = 1 then .need (0 ≤ i ∧ i < len) (.s (.pix b 0 (o + i.toNat))) else .fail
      | none => .need (0 ≤ i ∧ i < len) (.s (.ptr b (o + i.toNat * te.size)))
    | _, _ => .fail
  | _, _, _ => .fail

def loadX (T : Tbl) (h : List Blk) (t : TypeId) (x : EV) : PR :=
  match T.ty t, x with
  | some i, .s (.ptr b o) =>
    match nthB h b with
    | some (.cells _ cs _) => if i.d.agg then
        match dropS cs o with
        | some r => match takeS r i.size with
          | some c => .ok (.agg c)
          | none => .fail
        | none => .fail
      else match getS cs o with
        | some v => .ok (.s v)
        | none => .fail
    | _ => .fail
  | some i, .s (.pix b o j) =>
    match nthB h b with
    | some (.cells _ cs _) => if i.d.agg then .fail else
      match getI cs o with
      | some (k, n, f) => .need (j < n) (.s (.int k (f j)))
      | none => .fail
    | _ => .fail
  | _, _ => .fail

def nthE : List EV → Nat → Option EV
  | [], _ => none
  | x :: _, 0 => some x
  | _ :: r, n + 1 => nthE r n

def svs : List EV → Option (List SV)
  | [] => some []
  | .s v :: r => (svs r).map (v :: ·)
  | _ => none

/-- The cells of segments, one by one (where it is told how many). -/
def flat : List Seg → Option (List SV)
  | [] => some []
  | .one v :: r => (flat r).map (v :: ·)
  | .ints k n f :: r => (flat r).map (((List.range n).map fun j => .int k (f j)) ++ ·)

/-- A value that is surely there. -/
def nilX (T : Tbl) : EV → PR
  | .s (.ptr b o) => .ok (.s (.ptr b o))
  | .s (.pix b o i) => .ok (.s (.pix b o i))
  | .s (.func (.func f) a c) => .ok (.s (.func (.func f) a c))
  | .s (.func (.method m) (.iface t false [.ptr b o] :: a) c) => match T.mth t m with
    | some _ => .ok (.s (.func (.method m) (.iface t false [.ptr b o] :: a) c))
    | none => .fail
  | .s (.iface t a c) => .ok (.s (.iface t a c))
  | _ => .fail

/-- The operations that leave the world alone. 'ev': the operands; 'raw': as they stand, for a pick. -/
def px (T : Tbl) (h : List Blk) (ev raw : Operand → EV) : Op → PR
  | .move x => .ok (ev x)
  | .assign x => .ok (ev x)
  | .pick c a b => match ev c with
    | .s (.bool t) => pickX t (raw a) (raw b)
    | _ => .fail
  | .binOp op t x y _ => binY T (cnst x || cnst y) op t (ev x) (ev y)
  | .unOp op _ x => unX op (ev x)
  | .convert src dst x => convX T h src dst (ev x)
  | .slice t x lo hi mx => sliceX T t (ev x) (lo.map ev) (hi.map ev) (mx.map ev)
  | .nilCheck x => nilX T (ev x)
  | .fieldAddr t x i => fieldAddrX T t (ev x) i
  | .field t x i => fieldX T t (ev x) i
  | .indexAddr t x i => indexAddrX T h t (ev x) (ev i)
  | .index t x i => match ev x, ev i with
    | .s (.str s), .s (.int _ i) => match T.ty t with
      | some { d := .str, .. } => .need (0 ≤ i ∧ i < s.size) (.s (.int .u8 (((s.data.toList.map UInt8.toNat).getD i.toNat 0 : Nat) : Int)))
      | _ => .fail
    | .agg cs, .s (.int _ i) => match T.ty t with
      | some { d := .array n e, .. } => match T.ty e with
        | some te => match cs with
          | [.ints k m f] => if te.d.agg then .fail else if te.size = 1 then .need ((0 ≤ i ∧ i < n) ∧ i.toNat < m) (.s (.int k (f i.toNat))) else .fail
          | cs => match partX T e cs (i.toNat * te.size) with
            | .ok v => .need (0 ≤ i ∧ i < n) v
            | _ => .fail
        | none => .fail
      | _ => .fail
    | _, _ => .fail
  | .load t x => loadX T h t (ev x)
  | .extract x i => match ev x with
    | .tuple vs => match nthE vs i with
      | some v => .ok v
      | none => .fail
    | _ => .fail
  | .makeInterface t x => match T.ty t with
    | some { d := .iface, .. } => .fail
    | some _ => match ev x with
      | .s v => .ok (.s (.iface t false [v]))
      | .agg cs => match flat cs with
        | some l => .ok (.s (.iface t true l))
        | none => .fail
      | _ => .fail
    | none => .fail
  | .makeFunc fn a c => match svs (a.toList.map ev), svs (c.toList.map ev) with
    | some x, some y => .ok (.s (.func fn x y))
    | _, _ => .fail
  | .call { callee := .builtin .len, args, argTypes } =>
    match argTypes.toList, args.toList with
    | [t], [x] => match T.ty t, ev x with
      | some { d := .slice _, .. }, .s (.slice _ _ len _) => .ok (.s (.int .i64 len))
      | some { d := .slice _, .. }, .s .nilslice => .ok (.s (.int .i64 0))
      | some { d := .slice _, .. }, .s (.gs _ _ len _) => .ok (.s (.int .i64 len))
      | some { d := .str, .. }, .s (.str s) => .ok (.s (.int .i64 s.size))
      | some { d := .array n _, .. }, _ => .ok (.s (.int .i64 n))
      | _, _ => .fail
    | _, _ => .fail
  | .call { callee := .builtin .min, args, .. } => match args.toList with
    | [x, y] => match ev x, ev y with
      | .s (.int k a), .s (.int _ b) => .ok (.s (.int k (if b < a then b else a)))
      | _, _ => .fail
    | _ => .fail
  | .call { callee := .builtin .max, args, .. } => match args.toList with
    | [x, y] => match ev x, ev y with
      | .s (.int k a), .s (.int _ b) => .ok (.s (.int k (if b > a then b else a)))
      | _, _ => .fail
    | _ => .fail
  | _ => .fail

/-! ### the walker -/

/-- Where a walk began. -/
structure Org where
  E : Emb
  h : List Blk
  w : World
  D : List Deferred

def frameOk (E : Emb) (ts : List EV) (a : Array Value) : Prop := a.size = ts.length ∧ ∀ i v, a[i]? = some v → denE E (nth ts i) v

/-- A machine's state as the walker sees it. -/
structure Rel (O : Org) (E : Emb) (s : St) (a : Act) (w : World) : Prop where
  fr : frameOk E s.tmps a.tmps
  df : a.defers = O.D
  sim : Sim E s.heap w
  sin : Since O.E O.h O.w E s.heap w

def Lift (O : Org) (K : Exit → St → Prop) (e : Exit) (a : Act) (w : World) : Prop := ∃ E s, K e s ∧ Rel O E s a w

/-- A loop that stands to be walked. -/
def LoopG (T : Tbl) (O : Org) (c : Code) (s : St) (K : Exit → St → Prop) : Prop :=
  ∀ E a w, Rel O E s a w → (Code.loop c).wp T.P (Lift O K) a w

/-- What a call leaves. -/
def Post (E : Emb) (h : List Blk) (w : World) (k : EV → List Blk → Prop) (e : Ending) (w' : World) : Prop :=
  ∃ v x h' E', e = .returned v ∧ denE E' x v ∧ Sim E' h' w' ∧ Since E h w E' h' w' ∧ k x h'

/-- A call that stands to be walked: what it hands back, the world behind it. -/
def CallG (T : Tbl) (f : FuncId) (args : List EV) (h : List Blk) (k : EV → List Blk → Prop) : Prop :=
  ∀ E w vs, Sim E h w → denT E args vs.toList → Calls T.P f vs w (Post E h w k)

/-- A function without a body, which the model answers itself. -/
def ExtG (T : Tbl) (f : FuncId) (args : List EV) (h : List Blk) (k : EV → List Blk → Prop) : Prop :=
  ∀ E w vs, Sim E h w → denT E args vs.toList → ∃ u w', (callFunc f vs).run T.P w = .ok (.value u) w' ∧ Post E h w k (.returned u) w'

def isFn (T : Tbl) (f : FuncId) : Prop := ∃ F, T.P.funcs[f]? = some F ∧ F.body.isNone = false ∧ (F.name == "runtime.NumGoroutine") = false

def ifB (t : Bool) (a b : Prop) : Prop :=
  match t with
  | true => a
  | false => b

structure Need (p k : Prop) : Prop where
  p : p
  k : k

def segsOf : EV → Option (List Seg)
  | .s v => some [.one v]
  | .agg cs => some cs
  | _ => none

/-! What the walker computes it computes at once: each of these is its last argument at its first ('.._eq'). -/

def forceV (v : SV) (k : SV → Prop) : Prop :=
  match v with
  | .junk => k .junk
  | .int q n => k (.int q n)
  | .bool b => k (.bool b)
  | .str s => k (.str s)
  | .ptr b o => k (.ptr b o)
  | .pix b o i => k (.pix b o i)
  | .nilptr => k .nilptr
  | .slice b o l c => k (.slice b o l c)
  | .nilslice => k .nilslice
  | .gs b o l c => k (.gs b o l c)
  | .map b => k (.map b)
  | .nilmap => k .nilmap
  | .func f a c => k (.func f a c)
  | .nilfunc => k .nilfunc
  | .iface t a c => k (.iface t a c)
  | .niliface => k .niliface

/- (These walk by the recursors themselves: so the elaborator and the kernel unfold them alike.) -/
def forceS (l : List Seg) : (List Seg → Prop) → Prop :=
  List.rec (motive := fun _ => (List Seg → Prop) → Prop) (fun k => k []) (fun x _ ih k => match x with
    | .one v => forceV v fun v => ih fun r => k (.one v :: r)
    | .ints q n f => ih fun r => k (.ints q n f :: r)) l

def forceT (l : List EV) : (List EV → Prop) → Prop :=
  List.rec (motive := fun _ => (List EV → Prop) → Prop) (fun k => k []) (fun x _ ih k => ih fun r => k (x :: r)) l

def forceE0 (v : EV) (k : EV → Prop) : Prop :=
  match v with
  | .s v => forceV v fun v => k (.s v)
  | .agg cs => forceS cs fun cs => k (.agg cs)
  | .tuple vs => k (.tuple vs)
  | .gd g v => k (.gd g v)
  | .junk => k .junk

def forceE (v : EV) (k : EV → Prop) : Prop :=
  match v with
  | .s v => forceV v fun v => k (.s v)
  | .agg cs => forceS cs fun cs => k (.agg cs)
  | .tuple vs => forceT vs fun vs => k (.tuple vs)
  | .gd g v => forceE0 v fun v => k (.gd g v)
  | .junk => k .junk

def updK (l : List EV) : Nat → EV → (List EV → Prop) → Prop :=
  List.rec (motive := fun _ => Nat → EV → (List EV → Prop) → Prop) (fun _ _ k => k []) (fun x r ih n v k => match n with
    | 0 => k (v :: r)
    | n + 1 => ih n v fun r => k (x :: r)) l

def updBK (l : List Blk) : Nat → Blk → (List Blk → Prop) → Prop :=
  List.rec (motive := fun _ => Nat → Blk → (List Blk → Prop) → Prop) (fun _ _ k => k []) (fun x r ih n v k => match n with
    | 0 => k (v :: r)
    | n + 1 => ih n v fun r => k (x :: r)) l

/-- A new block behind the others, and its number. -/
def pushBK (l : List Blk) : Nat → Blk → (Nat → List Blk → Prop) → Prop :=
  List.rec (motive := fun _ => Nat → Blk → (Nat → List Blk → Prop) → Prop) (fun n B k => k n [B]) (fun x _ ih n B k => ih (n + 1) B fun n h => k n (x :: h)) l

theorem forceV_eq (v : SV) (k : SV → Prop) : forceV v k = k v := by cases v <;> rfl
theorem forceS_eq : ∀ (cs : List Seg) (k : List Seg → Prop), forceS cs k = k cs
  | [], _ => rfl
  | .one v :: r, k => by
    show (forceV v fun v => forceS r fun r => k (.one v :: r)) = _
    rw [forceV_eq, forceS_eq r]
  | .ints q n f :: r, k => by
    show (forceS r fun r => k (.ints q n f :: r)) = _
    rw [forceS_eq r]
theorem forceT_eq : ∀ (l : List EV) (k : List EV → Prop), forceT l k = k l
  | [], _ => rfl
  | x :: r, k => by
    show (forceT r fun r => k (x :: r)) = _
    rw [forceT_eq r]
theorem forceE0_eq (v : EV) (k : EV → Prop) : forceE0 v k = k v := by cases v <;> simp only [forceE0, forceV_eq, forceS_eq]
theorem forceE_eq (v : EV) (k : EV → Prop) : forceE v k = k v := by cases v <;> simp only [forceE, forceV_eq, forceS_eq, forceE0_eq, forceT_eq]
theorem updK_eq : ∀ (l : List EV) (n : Nat) (v : EV) (k : List EV → Prop), updK l n v k = k (upd l n v)
  | [], _, _, _ => rfl
  | x :: r, 0, v, k => rfl
  | x :: r, n + 1, v, k => by
    show (updK r n v fun r => k (x :: r)) = _
    rw [updK_eq r]
    rfl
theorem updBK_eq : ∀ (l : List Blk) (n : Nat) (v : Blk) (k : List Blk → Prop), updBK l n v k = k (updB l n v)
  | [], _, _, _ => rfl
  | x :: r, 0, v, k => rfl
  | x :: r, n + 1, v, k => by
    show (updBK r n v fun r => k (x :: r)) = _
    rw [updBK_eq r]
    rfl
theorem pushBK_eq : ∀ (l : List Blk) (n : Nat) (B : Blk) (k : Nat → List Blk → Prop), pushBK l n B k = k (n + l.length) (l ++ [B])
  | [], _, _, _ => rfl
  | x :: r, n, B, k => by
    show (pushBK r (n + 1) B fun n h => k n (x :: h)) = _
    rw [pushBK_eq r]
    simp only [List.length_cons, List.cons_append]
    rw [show n + 1 + r.length = n + (r.length + 1) by omega]

/-- A value goes into a slot. -/
def putK (ts : List EV) (h : List Blk) (dst : Option Tmp) (v : EV) (k : St → Prop) : Prop :=
  match dst with
  | some d => updK ts d v fun ts => k ⟨ts, h⟩
  | none => k ⟨ts, h⟩

theorem putK_eq (ts : List EV) (h : List Blk) (dst : Option Tmp) (v : EV) (k : St → Prop) : putK ts h dst v k = k ((⟨ts, h⟩ : St).put dst v) := by
  cases dst with
  | none => rfl
  | some d => simp only [putK, updK_eq]; rfl

/-- A store. -/
def storeX (T : Tbl) (t : TypeId) (x v : EV) (h : List Blk) (k : List Blk → Prop) : Prop :=
  match T.ty t, x with
  | some i, .s (.ptr b o) =>
    match nthB h b, segsOf v with
    | some (.cells true cs sp), some [.one u] =>
      match i.size, setS cs o u with
      | 1, some cs' => forceS cs' fun cs' => updBK h b (.cells true cs' sp) k
      | _, _ => False
    | some (.cells true cs sp), some new =>
      match putS cs o new with
      | some cs' => Need (sizeS new = i.size) (forceS cs' fun cs' => updBK h b (.cells true cs' sp) k)
      | none => False
    | _, _ => False
  | some i, .s (.pix b o j) =>
    match v, nthB h b with
    | .s (.int q x), some (.cells true cs sp) =>
      match i.size, getI cs o, setI cs o j q x with
      | 1, some (_, n, _), some cs' => Need (j < n) (forceS cs' fun cs' => updBK h b (.cells true cs' sp) k)
      | _, _, _ => False
    | _, _ => False
  | _, _ => False

/-- A new block. -/
def newX (ts : List EV) (h : List Blk) (cs : List Seg) (dst : Option Tmp) (k : St → Prop) : Prop :=
  forceS cs fun cs => pushBK h 0 (.cells true cs 0) fun n h => putK ts h dst (.s (.ptr n 0)) k

/-- A struct's or an array's parts, put in one behind the other. -/
def fillX (place : Nat → Option (Nat × Nat)) : List Seg → List (Nat × EV) → Option (List Seg)
  | cs, [] => some cs
  | cs, (i, v) :: r => match place i with
    | none => none
    | some (off, size) => match v with
      | .s (.int k x) => match size with
        | 1 => match setS cs off (.int k x) with
          | some cs' => fillX place cs' r
          | none => match getI cs off, setI cs off 0 k x with
            | some (_, _ + 1, _), some cs' => fillX place cs' r
            | _, _ => none
        | _ => none
      | .s u => match size, setS cs off u with
        | 1, some cs' => fillX place cs' r
        | _, _ => none
      | .agg new => if sizeS new = size then match putS cs off new with
          | some cs' => fillX place cs' r
          | none => none else none
      | _ => none

def places (T : Tbl) : List (TypeId × Nat) → Option (List (Nat × Nat))
  | [] => some []
  | (ft, off) :: r => match T.ty ft, places T r with
    | some ti, some ps => some ((off, ti.size) :: ps)
    | _, _ => none

def nthP : List (Nat × Nat) → Nat → Option (Nat × Nat)
  | [], _ => none
  | x :: _, 0 => some x
  | _ :: r, n + 1 => nthP r n

def buildX (T : Tbl) (t : TypeId) (parts : List (Nat × EV)) : Option (List Seg) :=
  match T.ty t with
  | some { d := .struct fs, zero := .agg z, .. } =>
    match places T fs with
    | some ps => fillX (nthP ps) z parts
    | none => none
  | some { d := .array _ e, zero := .agg z, .. } =>
    match T.ty e with
    | some te => fillX (fun i => some (i * te.size, te.size)) z parts
    | none => none
  | _ => none

/-- The arguments of a call, one behind the other. -/
def svK (c : List SV) : (List EV → Prop) → Prop :=
  List.rec (motive := fun _ => (List EV → Prop) → Prop) (fun k => k []) (fun x _ ih k => ih fun r => k (.s x :: r)) c

def evK (l : List EV) : List SV → (List EV → Prop) → Prop :=
  List.rec (motive := fun _ => List SV → (List EV → Prop) → Prop) (fun c k => svK c k) (fun x _ ih c k => forceE x fun x => ih c fun r => k (x :: r)) l

def argsK (a : List SV) : List EV → List SV → (List EV → Prop) → Prop :=
  List.rec (motive := fun _ => List EV → List SV → (List EV → Prop) → Prop) (fun l c k => evK l c k) (fun x _ ih l c k => ih l c fun r => k (.s x :: r)) a

theorem svK_eq : ∀ (c : List SV) (k : List EV → Prop), svK c k = k (c.map .s)
  | [], k => rfl
  | x :: c, k => by
    show (svK c fun r => k (.s x :: r)) = _
    rw [svK_eq c, List.map_cons]
theorem evK_eq : ∀ (l : List EV) (c : List SV) (k : List EV → Prop), evK l c k = k (l ++ c.map .s)
  | [], c, k => by
    show svK c k = _
    rw [svK_eq, List.nil_append]
  | x :: l, c, k => by
    show (forceE x fun x => evK l c fun r => k (x :: r)) = _
    rw [forceE_eq, evK_eq l, List.cons_append]
theorem argsK_eq : ∀ (a : List SV) (l : List EV) (c : List SV) (k : List EV → Prop), argsK a l c k = k (a.map .s ++ l ++ c.map .s)
  | [], l, c, k => by
    show evK l c k = _
    rw [evK_eq, List.map_nil, List.nil_append]
  | x :: a, l, c, k => by
    show (argsK a l c fun r => k (.s x :: r)) = _
    rw [argsK_eq a, List.map_cons, List.cons_append, List.cons_append]

/-- A function that may be called, and what comes of it. -/
structure Does (T : Tbl) (f : FuncId) (args : List EV) (h : List Blk) (Q : EV → List Blk → Prop) : Prop where
  go : (isFn T f ∧ CallG T f args h Q) ∨ ExtG T f args h Q

/-- A call of an interface's method. -/
def invD (T : Tbl) (m : String) (r : EV) (l : List EV) (h : List Blk) (k : EV → List Blk → Prop) : Prop :=
  match r with
  | .s (.iface t false [.ptr b o]) => match T.mth t m with
    | some f => Does T f (.s (.ptr b o) :: l) h k
    | none => False
  | _ => False

def invX (T : Tbl) (m : String) (r : EV) (args : List EV) (h : List Blk) (k : EV → List Blk → Prop) : Prop := evK args [] fun l => invD T m r l h k

/-- A call of a function value. -/
def callX (T : Tbl) (f : EV) (args : List EV) (h : List Blk) (k : EV → List Blk → Prop) : Prop :=
  match f with
  | .s (.func (.func f) a c) => argsK a args c fun l => Does T f l h k
  | .s (.func (.method m) (r :: a) _) => argsK a args [] fun l => invD T m (.s r) l h k
  | _ => False

/-! ### slices: made, grown, copied -/

def litF : List Int → Nat → Int
  | [], _ => 0
  | x :: _, 0 => x
  | _ :: r, n + 1 => litF r n

def intParts (k : IntKind) : Nat → List (Nat × EV) → Option (List Int)
  | _, [] => some []
  | n, (i, .s (.int k' x)) :: r => match Nat.beq n i && sameK k k', intParts k (n + 1) r with
    | true, some l => some (x :: l)
    | _, _ => none
  | _, _ => none

def repS : Nat → List Seg → List Seg
  | 0, _ => []
  | n + 1, z => z ++ repS n z

/-- The cells of a slice that is built. -/
def bslX (te : TI) (n : Nat) (parts : List (Nat × EV)) : Option (List Seg) :=
  match te.zero, te.size with
  | .s (.int k _), 1 => match intParts k 0 parts with
    | some l => match Nat.beq l.length n with
      | true => some [.ints k n (litF l)]
      | false => none
    | none => none
  | z, sz => match segsOf z with
    | some zs => match Nat.beq (sizeS zs) sz with
      | true => fillX (fun i => some (i * sz, sz)) (repS n zs) parts
      | false => none
    | none => none

def catF (n : Nat) (f g : Nat → Int) (j : Nat) : Int := if j < n then f j else g (j - n)

def catS : List Seg → List Seg → List Seg
  | [], b => b
  | [.ints k n f], [.ints k' m g] => match sameK k k' with
    | true => [.ints k (n + m) (catF n f g)]
    | false => [.ints k n f, .ints k' m g]
  | a, b => a ++ b

def zsz (te : TI) : Nat :=
  match segsOf te.zero with
  | some zs => sizeS zs
  | none => 0

def room (te : TI) (n : Nat) : Prop := (zsz te = te.size ∧ 0 < te.size) ∧ n ≤ 140737488355328 ∧ n * te.bytes ≤ 140737488355328

/-- A slice that has grown: in a block of its own, with room that is not known. -/
def growK (ts : List EV) (h : List Blk) (dst : Option Tmp) (n size : Nat) (cs : List Seg) (k : St → Prop) : Prop :=
  ∀ c, n ≤ c → forceS cs fun cs => pushBK h 0 (.cells true cs ((c - n) * size)) fun N h => putK ts h dst (.s (.gs N 0 n c)) k

def ontoX (te : TI) (ts : List EV) (h : List Blk) (b n c : Nat) (r : Rng) (dst : Option Tmp) (k : St → Prop) : Prop :=
  match nthB h b with
  | some (.cells true cs sp) => Need (r.p ∧ sizeS cs = n * te.size ∧ c * te.size = n * te.size + sp ∧ room te (n + r.n))
      (updBK h b .dead fun h => growK ts h dst (n + r.n) te.size (catS cs r.cs) k)
  | _ => False

def srcOk (T : Tbl) (tx : TypeId) (y : EV) : Bool :=
  match T.ty tx, isStr y with
  | some { d := .str, .. }, true => true
  | some { d := .slice _, .. }, false => true
  | _, _ => false

def appX (T : Tbl) (ts : List EV) (h : List Blk) (t tx : TypeId) (x y : EV) (dst : Option Tmp) (k : St → Prop) : Prop :=
  match T.ty t with
  | some { d := .slice e, .. } => match T.ty e with
    | some te => match srcOk T tx y, rngX h te.size y with
      | true, some r => match x with
        | .s .nilslice => Need (r.p ∧ room te r.n) (growK ts h dst r.n te.size r.cs k)
        | .s (.slice b 0 n c) => ontoX te ts h b n c r dst k
        | .s (.gs b 0 n c) => ontoX te ts h b n c r dst k
        | _ => False
      | _, _ => False
    | none => False
  | _ => False

/-- Zeros behind a slice of whole numbers. -/
def zappX (T : Tbl) (ts : List EV) (h : List Blk) (t : TypeId) (x : EV) (m : Int) (dst : Option Tmp) (k : St → Prop) : Prop :=
  match T.ty t with
  | some { d := .slice e, .. } => match T.ty e with
    | some te => match te.zero, te.size with
      | .s (.int q z), 1 => match x with
        | .s .nilslice => Need (0 ≤ m ∧ room te m.toNat) (growK ts h dst m.toNat te.size [.ints q m.toNat (fun _ => z)] k)
        | .s (.slice b 0 n c) => ontoX te ts h b n c ⟨0 ≤ m, m.toNat, [.ints q m.toNat (fun _ => z)]⟩ dst k
        | .s (.gs b 0 n c) => ontoX te ts h b n c ⟨0 ≤ m, m.toNat, [.ints q m.toNat (fun _ => z)]⟩ dst k
        | _ => False
      | _, _ => False
    | none => False
  | _ => False

def putF (o n : Nat) (g f : Nat → Int) (j : Nat) : Int := if o ≤ j ∧ j < o + n then g (j - o) else f j

def ontoC (ts : List EV) (h : List Blk) (b o n : Nat) (r : Rng) (dst : Option Tmp) (k : St → Prop) : Prop :=
  match nthB h b, r with
  | some (.cells true [.ints q m f] sp), ⟨p, rn, [.ints q' _ g]⟩ => match sameK q q' with
    | true => Need (p ∧ o + n ≤ m) (updBK h b (.cells true [.ints q m (putF o (min rn n) g f)] sp) fun h => putK ts h dst (.s (.int .i64 ((min rn n : Nat) : Int))) k)
    | false => False
  | some (.cells true [.ints _ _ _] _), ⟨p, rn, []⟩ => Need (p ∧ rn = 0) (putK ts h dst (.s (.int .i64 0)) k)
  | _, _ => False

def copyX (T : Tbl) (ts : List EV) (h : List Blk) (t tx : TypeId) (x y : EV) (dst : Option Tmp) (k : St → Prop) : Prop :=
  match T.ty t with
  | some { d := .slice e, .. } => match T.ty e with
    | some te => match te.size, srcOk T tx y, rngX h te.size y with
      | 1, true, some r => match x with
        | .s (.slice b o n _) => ontoC ts h b o n r dst k
        | .s (.gs b o n _) => ontoC ts h b o n r dst k
        | _ => False
      | _, _, _ => False
    | none => False
  | _ => False

/-- A cell is there. -/
def hasCell (h : List Blk) (b o : Nat) : Prop := ∃ m cs sp v, nthB h b = some (.cells m cs sp) ∧ getS cs o = some v

/-- More operations with an effect: on slices; pointers without a type. -/
def eff2 (T : Tbl) (ts : List EV) (h : List Blk) (o : Oper) (k : St → Prop) : Prop :=
  match o.op with
  | .buildSlice t n parts => match T.ty t with
    | some { d := .slice e, .. } => match T.ty e with
      | some te => match Nat.ble (n * te.size) 16777216, bslX te n (parts.toList.map fun p => (p.1, evT ts p.2)) with
        | true, some cs => forceS cs fun cs => pushBK h 0 (.cells true cs 0) fun N h => putK ts h o.dst (.s (.slice N 0 n n)) k
        | _, _ => False
      | none => False
    | _ => False
  | .makeSlice t len cap => match T.ty t, evT ts len, evT ts cap with
    | some { d := .slice e, .. }, .s (.int _ l), .s (.int _ c) => match T.ty e with
      | some te => match te.zero, te.size with
        | .s (.int q z), 1 => Need (0 ≤ l ∧ l ≤ c ∧ c ≤ 140737488355328 ∧ te.bytes * c ≤ 140737488355328)
            (pushBK h 0 (.cells true [.ints q l.toNat (fun _ => z)] (c.toNat - l.toNat)) fun N h => putK ts h o.dst (.s (.slice N 0 l.toNat c.toNat)) k)
        | _, _ => False
      | none => False
    | _, _, _ => False
  | .convert src dst x => match T.ty src, T.ty dst, evT ts x with
    | some { d := .slice e, .. }, some { d := .slice e', .. }, .s (.slice b o' n c) => match Nat.beq src dst && Nat.beq e e', T.ty e, nthB h b with
      | true, some { d := .int .u8, .. }, some (.cells true cs sp) => Need (0 < sizeS cs + sp) (putK ts h o.dst (.s (.slice b o' n c)) k)
      | _, _, _ => False
    | some { d := .str, .. }, some { d := .slice e, .. }, .s (.str s) => match T.ty e with
      | some { d := .int .u8, .. } => ∀ c, s.size ≤ c → pushBK h 0 (.cells true [.ints .u8 s.size (strF s)] (c - s.size)) fun N h => putK ts h o.dst (.s (.slice N 0 s.size c)) k
      | _ => False
    | some { d := .ptr e, .. }, some { d := .uptr, .. }, .s (.ptr b o') => match T.ty e with
      | some { size := _ + 1, .. } => Need (hasCell h b o') (putK ts h o.dst (.s (.ptr b o')) k)
      | _ => False
    | _, _, _ => False
  | .call { callee := .builtin .append, args, argTypes } => match args.toList, argTypes.toList with
    | [x, y], [t, tx] => match T.ty tx, evT ts y with
      | some { d := .int _, .. }, .s (.int _ m) => zappX T ts h t (evT ts x) m o.dst k
      | _, _ => appX T ts h t tx (evT ts x) (evT ts y) o.dst k
    | _, _ => False
  | .call { callee := .builtin .copy, args, argTypes } => match args.toList, argTypes.toList with
    | [x, y], [t, tx] => copyX T ts h t tx (evT ts x) (evT ts y) o.dst k
    | _, _ => False
  | _ => False

/-- The operations with an effect. -/
def effX (T : Tbl) (ts : List EV) (h : List Blk) (o : Oper) (k : St → Prop) : Prop :=
  match o.op with
  | .store t x v => storeX T t (evT ts x) (evT ts v) h fun h => putK ts h o.dst .junk k
  | .alloc t => match T.ty t with
    | some i => match segsOf i.zero with
      | some cs => newX ts h cs o.dst k
      | none => False
    | none => False
  | .box _ x => match segsOf (evT ts x) with
    | some cs => newX ts h cs o.dst k
    | none => False
  | .build t parts => match buildX T t (parts.toList.map fun p => (p.1, evT ts p.2)) with
    | some cs => forceS cs fun cs => putK ts h o.dst (.agg cs) k
    | none => False
  | .call { callee := .value f, args, .. } => callX T (evT ts f) (args.toList.map (evT ts)) h fun v h => forceE v fun v => putK ts h o.dst v k
  | .call { callee := .invoke r m, args, .. } => invX T m (evT ts r) (args.toList.map (evT ts)) h fun v h => forceE v fun v => putK ts h o.dst v k
  | _ => eff2 T ts h o k

/-- One operation without a guard. -/
def opN (T : Tbl) (s : St) (o : Oper) (k : St → Prop) : Prop :=
  match s with
  | ⟨ts, h⟩ => match px T h (evT ts) (evT ts) o.op with
    | .ok v => forceE v fun v => putK ts h o.dst v k
    | .need p v => Need p (forceE v fun v => putK ts h o.dst v k)
    | .fail => effX T ts h o k

def strip : EV → EV
  | .gd _ v => v
  | v => v

def oblig (g : Bool) : List EV → Prop
  | [] => True
  | .gd g' _ :: r => (g = true → g' = true) ∧ oblig g r
  | _ :: r => oblig g r

def obligK (g : Bool) (l : List EV) : Prop → Prop :=
  List.rec (motive := fun _ => Prop → Prop) (fun k => k) (fun x _ ih k => match x with
    | .gd g' _ => Need (g = true → g' = true) (ih k)
    | .s _ => ih k
    | .agg _ => ih k
    | .tuple _ => ih k
    | .junk => ih k) l

theorem obligK_iff (g : Bool) (k : Prop) : ∀ l : List EV, obligK g l k ↔ oblig g l ∧ k
  | [] => by
    show k ↔ True ∧ k
    simp
  | .gd g' _ :: r => by
    show Need (g = true → g' = true) (obligK g r k) ↔ _
    simp only [oblig]
    constructor
    · rintro ⟨h1, h2⟩
      have := (obligK_iff g k r).1 h2
      exact ⟨⟨h1, this.1⟩, this.2⟩
    · rintro ⟨⟨h1, h2⟩, h3⟩
      exact ⟨h1, (obligK_iff g k r).2 ⟨h2, h3⟩⟩
  | .s _ :: r => by simp only [oblig]; exact obligK_iff g k r
  | .agg _ :: r => by simp only [oblig]; exact obligK_iff g k r
  | .tuple _ :: r => by simp only [oblig]; exact obligK_iff g k r
  | .junk :: r => by simp only [oblig]; exact obligK_iff g k r

/-- The operands that an operation's answer hangs on. -/
def looks : Op → List Operand
  | .pick c _ _ => [c]
  | op => op.operands.toList

/-- One operation under a guard. -/
def opG (T : Tbl) (s : St) (o : Oper) (g : Bool) (k : St → Prop) : Prop :=
  match s with
  | ⟨ts, h⟩ => match px T h (fun x => strip (evT ts x)) (evT ts) o.op with
    | .ok v => obligK g ((looks o.op).map (evT ts)) (forceE v fun v => putK ts h o.dst (.gd g v) k)
    | .need p v => obligK g ((looks o.op).map (evT ts)) (Need (g = true → p) (forceE v fun v => putK ts h o.dst (.gd g v) k))
    | .fail => ifB g (opN T ⟨ts, h⟩ o k) (putK ts h o.dst .junk k)

/-- Is an operation wanted? -/
def guardK (ops : Array Oper) (ts : List EV) (j : Nat) (want : Bool) (k : Bool → Prop) : Prop :=
  match ops.toList[j]? with
  | some o => match o.dst with
    | some d => match nth ts d, want with
      | .s (.bool t), true => k t
      | .s (.bool t), false => k (!t)
      | .gd g (.s (.bool t)), true => k (g && t)
      | .gd g (.s (.bool t)), false => k (g && !t)
      | _, _ => False
    | none => False
  | none => False

def opX (T : Tbl) (ops : Array Oper) (s : St) (o : Oper) (k : St → Prop) : Prop :=
  match o.guard with
  | none => opN T s o k
  | some (j, want) => guardK ops s.tmps j want fun g => opG T s o g k

def opsX (T : Tbl) (ops : Array Oper) (l : List Oper) : St → (St → Prop) → Prop :=
  List.rec (motive := fun _ => St → (St → Prop) → Prop) (fun s k => k s) (fun o _ ih s k => opX T ops s o fun s' => ih s' k) l

def seqK (next : St → Prop) (K : Exit → St → Prop) : Exit → St → Prop
  | .normal, s => next s
  | e, s => K e s

def blockK (id : Nat) (K : Exit → St → Prop) : Exit → St → Prop
  | .exit i, s => if i = id then K .normal s else K (.exit i) s
  | e, s => K e s

/-- A region that draws its order: behind a name, to be opened by a rule of its own. -/
def DrawG (T : Tbl) (O : Org) (id : Nat) (ops : Array Oper) (s : St) (K : Exit → St → Prop) : Prop :=
  ∀ E a w, Rel O E s a w → (Code.region id ops true).wp T.P (Lift O K) a w

def wpx (T : Tbl) (O : Org) (c : Code) : St → (Exit → St → Prop) → Prop :=
  Code.rec (motive := fun _ => St → (Exit → St → Prop) → Prop)
    (fun s K => K .normal s)
    (fun id ops draw s K => match draw with
      | false => opsX T ops ops.toList s (K .normal)
      | true => DrawG T O id ops s K)
    (fun _ _ wa wb s K => wa s (seqK (fun s' => wb s' K) K))
    (fun c _ _ wa wb s K => match evT s.tmps c with
      | .s (.bool t) => ifB t (wa s K) (wb s K)
      | _ => False)
    (fun id _ wa s K => wa s (blockK id K))
    (fun a _ s K => LoopG T O a s K)
    (fun _ _ _ _ _ _ _ _ => False)
    (fun id s K => K (.exit id) s)
    (fun _ _ _ _ => False)
    (fun _ s K => K .normal s)
    (fun l s K => K (.goto l) s)
    (fun s K => K .ret s)
    (fun _ _ _ => False)
    c

/-- What a function hands back. -/
def resV (T : Tbl) (s : St) : ResultVar → Option EV
  | .tmp t => match nth s.tmps t with
    | .junk => none
    | .gd _ _ => none
    | v => some v
  | .cell p ty => match loadX T s.heap ty (nth s.tmps p) with
    | .ok v => some v
    | _ => none

def resVs (T : Tbl) (s : St) : List ResultVar → Option (List EV)
  | [] => some []
  | r :: rs => match resV T s r, resVs T s rs with
    | some v, some vs => some (v :: vs)
    | _, _ => none

def resX (T : Tbl) (s : St) (rs : List ResultVar) (Q : EV → List Blk → Prop) : Prop :=
  match rs with
  | [r] => match resV T s r with
    | some v => Q v s.heap
    | none => False
  | rs => match resVs T s rs with
    | some vs => Q (.tuple vs) s.heap
    | none => False

def bodyK (T : Tbl) (F : Func) (Q : EV → List Blk → Prop) : Exit → St → Prop
  | .normal, s => resX T s F.results.toList Q
  | .ret, s => resX T s F.results.toList Q
  | _, _ => False

def junks : Nat → List EV
  | 0 => []
  | n + 1 => .junk :: junks n

/-- The frame at the begin. -/
def junkK (n : Nat) : (List EV → Prop) → Prop :=
  Nat.rec (motive := fun _ => (List EV → Prop) → Prop) (fun k => k []) (fun _ ih k => ih fun r => k (.junk :: r)) n

def frameK (l : List EV) : Nat → (List EV → Prop) → Prop :=
  List.rec (motive := fun _ => Nat → (List EV → Prop) → Prop) (fun n k => junkK n k) (fun x _ ih n k => ih (n - 1) fun r => k (x :: r)) l

theorem junkK_eq : ∀ (n : Nat) (k : List EV → Prop), junkK n k = k (junks n)
  | 0, _ => rfl
  | n + 1, k => by
    show (junkK n fun r => k (.junk :: r)) = _
    rw [junkK_eq n]
    rfl

theorem frameK_eq : ∀ (l : List EV) (n : Nat) (k : List EV → Prop), frameK l n k = k (l ++ junks (n - l.length))
  | [], n, k => by
    show junkK n k = _
    rw [junkK_eq]
    simp
  | x :: r, n, k => by
    show (frameK r (n - 1) fun r => k (x :: r)) = _
    rw [frameK_eq r]
    simp only [List.length_cons, List.cons_append]
    rw [show n - 1 - r.length = n - (r.length + 1) by omega]

/-- A function's body, walked. -/
def fnX (T : Tbl) (O : Org) (F : Func) (args : List EV) (h : List Blk) (Q : EV → List Blk → Prop) : Prop :=
  match F.body with
  | some c => frameK args F.ntmps fun ts => wpx T O c ⟨ts, h⟩ (bodyK T F Q)
  | none => False

end Go.Anv
