/-
  NARROWER THAN 'FOR EVERY INPUT', by the rows' own cells (each row's printed sentence says how): ExecCalls: laid · SaveBack: laid · SaveAgain: laid · SaveTold: laid · SaveApart: laid · SaveOwn: laid.
  DERIVED. THE GIVEN ROWS OF THIS SEAT. 6 by the template 'for every input the law returns true; each argument reads behind the call as it read before'; 0 by the template 'total and deterministic' (their statements: YtdlpmbghocabbaaGreatDoorTotals.lean).
  GIVEN WITH THE SEED: the statements are not yours to turn. If you find one false, say at which input.
  Laid BY PROGRAM, IN A SANDBOX (cutbox-rows.mjs): the forced cells as the released guide's own fill.sh prints them over the translation 715efb1268c5de9c… (all of the seat's roots in one cut). By AI agents, Wed Nov 11 2026. No macro, syntax, notation, axiom, sorry.
-/
import Derived.Test.YtdlpmbghocabbaaGreatDoorChecked
import GoSem.Claim
import GoSem.ClaimJoined
import GoSem.ClaimMapViews
import Derived.JoinedTies
import Derived.KernelRfl
namespace Go.Proofs.YtdlpmbghocabbaaGreatDoor
/- THE CELL 'sum', in the pinned program and in every row, IS THE sha256 OF THE DUMP (.gsa) THAT YtdlpmbghocabbaaGreatDoorProg.lean LOADS. Nothing in Lean hashes anything: it is a label: what it is worth is what the hold of that sum in a sandbox is worth. -/
noncomputable def Tryz.pinned : Pinned := { name := "ytdlpmbghocabbaagreatdoor", sum := "715efb1268c5de9c17697f0035aaec6bd9fae5fe5af70ea3931bf9606279cf3e", checked := Tryz.checked }
namespace Rows
def none {H : Type} : Left H := { results := [], args := [] }

/- WHAT THE LISTED PACKAGE-LEVEL VARIABLES READ AS WHEN THE CALL BEGINS. Each datum BY PROGRAM (the guide's laid-datum.mjs) off the statement by which the dump's own 'gosem.cut.vars' lays the variable. In a bare row this is a premise. The card (YtdlpmbghocabbaaGreatDoorCards.lean) ties it to the program's text. -/
def laid_anvil_arith_plain {H : Type} : DataW H := .agg [.lit (.int .i64 0), .lit (.int .i64 0), .lit (.int .i64 0), .lit (.int .i64 0), .lit (.int .i64 0), .lit (.int .i64 0), .lit (.int .i64 0), .lit (.int .i64 0), .lit (.int .i64 0), .lit (.int .i64 0), .lit (.int .i64 0), .lit (.int .i64 0), .lit (.int .i64 0), .lit (.int .i64 0), .lit (.int .i64 0), .lit (.int .i64 0), .lit (.int .i64 0), .lit (.int .i64 0), .lit (.int .i64 0), .lit (.int .i64 0), .lit (.int .i64 0), .lit (.int .i64 0), .lit (.int .i64 35), .lit (.int .i64 38), .lit (.int .i64 39), .lit (.int .i64 40), .lit (.int .i64 43), .lit (.int .i64 44), .lit (.int .i64 37), .lit (.int .i64 41), .lit (.int .i64 42), .lit (.int .i64 45), .lit (.int .i64 47), .lit (.int .i64 48), .lit (.int .i64 49), .lit (.int .i64 0), .lit (.int .i64 0), .lit (.int .i64 0), .lit (.int .i64 0), .lit (.int .i64 0), .lit (.int .i64 0), .lit (.int .i64 0), .lit (.int .i64 0), .lit (.int .i64 0), .lit (.int .i64 0), .lit (.int .i64 0), .lit (.int .i64 0), .lit (.int .i64 0), .lit (.int .i64 0), .lit (.int .i64 0), .lit (.int .i64 0), .lit (.int .i64 0), .lit (.int .i64 0), .lit (.int .i64 0), .lit (.int .i64 0), .lit (.int .i64 0), .lit (.int .i64 0), .lit (.int .i64 0), .lit (.int .i64 0), .lit (.int .i64 0), .lit (.int .i64 0), .lit (.int .i64 0), .lit (.int .i64 0), .lit (.int .i64 0), .lit (.int .i64 0), .lit (.int .i64 0), .lit (.int .i64 0), .lit (.int .i64 0), .lit (.int .i64 0), .lit (.int .i64 0), .lit (.int .i64 0), .lit (.int .i64 0), .lit (.int .i64 0), .lit (.int .i64 0), .lit (.int .i64 0), .lit (.int .i64 0), .lit (.int .i64 0), .lit (.int .i64 0), .lit (.int .i64 0), .lit (.int .i64 0), .lit (.int .i64 0), .lit (.int .i64 0), .lit (.int .i64 0), .lit (.int .i64 0), .lit (.int .i64 0), .lit (.int .i64 0), .lit (.int .i64 0), .lit (.int .i64 0), .lit (.int .i64 0), .lit (.int .i64 0), .lit (.int .i64 0), .lit (.int .i64 0), .lit (.int .i64 0), .lit (.int .i64 0), .lit (.int .i64 0), .lit (.int .i64 0), .lit (.int .i64 0)]

/-- 'anvillaw12.ExecCalls': WHATEVER THE INPUT: true; the input reads as it did. -/
def execCallsSpec : ChangeSpec := { name := "execCalls", fn := fun _ => fun
  | [d1, d2, d3, d4, d5, d6] => { results := [.lit (.bool true)], args := [d1, d2, d3, d4, d5, d6] }
  | _ => none }
def execCallsRow : OpenClaim := { program := "ytdlpmbghocabbaagreatdoor", sum := "715efb1268c5de9c17697f0035aaec6bd9fae5fe5af70ea3931bf9606279cf3e", func := "anvil/anvillaw12.ExecCalls", spec := "execCalls", inPlace := ["(*internal/sync.Mutex).Lock", "internal/race.Disable", "sync/atomic.CompareAndSwapInt32", "internal/race.Enable", "internal/race.Acquire", "(*internal/sync.Mutex).lockSlow", "internal/sync.runtime_canSpin", "internal/sync.runtime_doSpin", "internal/sync.throw", "internal/sync.runtime_nanotime", "internal/sync.runtime_SemacquireMutex", "sync/atomic.AddInt32", "(*internal/sync.Mutex).Unlock", "internal/race.ReleaseMerge", "(*internal/sync.Mutex).unlockSlow", "internal/sync.fatal", "internal/sync.runtime_Semrelease"], unfollowed := true, recurses := true, named := ["anvil/arith.plain"], apart := false, laid := [("anvil/arith.plain", laid_anvil_arith_plain)] }
def ExecCallsSaid : Prop := execCallsRow.holds Tryz.pinned (OpenSpec.ofChange execCallsSpec)

/-- ITS FALSE NEIGHBOUR: 'it returns false'. Refute it at one input. -/
def execCallsWrong : ChangeSpec := { name := "execCalls", fn := fun _ => fun
  | [d1, d2, d3, d4, d5, d6] => { results := [.lit (.bool false)], args := [d1, d2, d3, d4, d5, d6] }
  | _ => none }
def ExecCallsWrongFalsely : Prop := execCallsRow.holds Tryz.pinned (OpenSpec.ofChange execCallsWrong)

/-- 'anvillaw16.SaveBack': WHATEVER THE INPUT: true; the input reads as it did. -/
def saveBackSpec : ChangeSpec := { name := "saveBack", fn := fun _ => fun
  | [d] => { results := [.lit (.bool true)], args := [d] }
  | _ => none }
def saveBackRow : OpenClaim := { program := "ytdlpmbghocabbaagreatdoor", sum := "715efb1268c5de9c17697f0035aaec6bd9fae5fe5af70ea3931bf9606279cf3e", func := "anvil/anvillaw16.SaveBack", spec := "saveBack", inPlace := ["(*internal/sync.Mutex).Lock", "internal/race.Disable", "sync/atomic.CompareAndSwapInt32", "internal/race.Enable", "internal/race.Acquire", "(*internal/sync.Mutex).lockSlow", "internal/sync.runtime_canSpin", "internal/sync.runtime_doSpin", "internal/sync.throw", "internal/sync.runtime_nanotime", "internal/sync.runtime_SemacquireMutex", "sync/atomic.AddInt32", "(*internal/sync.Mutex).Unlock", "internal/race.ReleaseMerge", "(*internal/sync.Mutex).unlockSlow", "internal/sync.fatal", "internal/sync.runtime_Semrelease"], unfollowed := true, recurses := true, named := ["anvil/arith.plain"], apart := false, laid := [("anvil/arith.plain", laid_anvil_arith_plain)] }
def SaveBackSaid : Prop := saveBackRow.holds Tryz.pinned (OpenSpec.ofChange saveBackSpec)

/-- ITS FALSE NEIGHBOUR: 'it returns false'. Refute it at one input. -/
def saveBackWrong : ChangeSpec := { name := "saveBack", fn := fun _ => fun
  | [d] => { results := [.lit (.bool false)], args := [d] }
  | _ => none }
def SaveBackWrongFalsely : Prop := saveBackRow.holds Tryz.pinned (OpenSpec.ofChange saveBackWrong)

/-- 'anvillaw16.SaveAgain': WHATEVER THE INPUT: true; the input reads as it did. -/
def saveAgainSpec : ChangeSpec := { name := "saveAgain", fn := fun _ => fun
  | [d] => { results := [.lit (.bool true)], args := [d] }
  | _ => none }
def saveAgainRow : OpenClaim := { program := "ytdlpmbghocabbaagreatdoor", sum := "715efb1268c5de9c17697f0035aaec6bd9fae5fe5af70ea3931bf9606279cf3e", func := "anvil/anvillaw16.SaveAgain", spec := "saveAgain", inPlace := ["(*internal/sync.Mutex).Lock", "internal/race.Disable", "sync/atomic.CompareAndSwapInt32", "internal/race.Enable", "internal/race.Acquire", "(*internal/sync.Mutex).lockSlow", "internal/sync.runtime_canSpin", "internal/sync.runtime_doSpin", "internal/sync.throw", "internal/sync.runtime_nanotime", "internal/sync.runtime_SemacquireMutex", "sync/atomic.AddInt32", "(*internal/sync.Mutex).Unlock", "internal/race.ReleaseMerge", "(*internal/sync.Mutex).unlockSlow", "internal/sync.fatal", "internal/sync.runtime_Semrelease"], unfollowed := true, recurses := true, named := ["anvil/arith.plain"], apart := false, laid := [("anvil/arith.plain", laid_anvil_arith_plain)] }
def SaveAgainSaid : Prop := saveAgainRow.holds Tryz.pinned (OpenSpec.ofChange saveAgainSpec)

/-- ITS FALSE NEIGHBOUR: 'it returns false'. Refute it at one input. -/
def saveAgainWrong : ChangeSpec := { name := "saveAgain", fn := fun _ => fun
  | [d] => { results := [.lit (.bool false)], args := [d] }
  | _ => none }
def SaveAgainWrongFalsely : Prop := saveAgainRow.holds Tryz.pinned (OpenSpec.ofChange saveAgainWrong)

/-- 'anvillaw16.SaveTold': WHATEVER THE INPUT: true; the input reads as it did. -/
def saveToldSpec : ChangeSpec := { name := "saveTold", fn := fun _ => fun
  | [d1, d2, d3] => { results := [.lit (.bool true)], args := [d1, d2, d3] }
  | _ => none }
def saveToldRow : OpenClaim := { program := "ytdlpmbghocabbaagreatdoor", sum := "715efb1268c5de9c17697f0035aaec6bd9fae5fe5af70ea3931bf9606279cf3e", func := "anvil/anvillaw16.SaveTold", spec := "saveTold", inPlace := ["(*internal/sync.Mutex).Lock", "internal/race.Disable", "sync/atomic.CompareAndSwapInt32", "internal/race.Enable", "internal/race.Acquire", "(*internal/sync.Mutex).lockSlow", "internal/sync.runtime_canSpin", "internal/sync.runtime_doSpin", "internal/sync.throw", "internal/sync.runtime_nanotime", "internal/sync.runtime_SemacquireMutex", "sync/atomic.AddInt32", "(*internal/sync.Mutex).Unlock", "internal/race.ReleaseMerge", "(*internal/sync.Mutex).unlockSlow", "internal/sync.fatal", "internal/sync.runtime_Semrelease"], unfollowed := true, recurses := true, named := ["anvil/arith.plain"], apart := false, laid := [("anvil/arith.plain", laid_anvil_arith_plain)] }
def SaveToldSaid : Prop := saveToldRow.holds Tryz.pinned (OpenSpec.ofChange saveToldSpec)

/-- ITS FALSE NEIGHBOUR: 'it returns false'. Refute it at one input. -/
def saveToldWrong : ChangeSpec := { name := "saveTold", fn := fun _ => fun
  | [d1, d2, d3] => { results := [.lit (.bool false)], args := [d1, d2, d3] }
  | _ => none }
def SaveToldWrongFalsely : Prop := saveToldRow.holds Tryz.pinned (OpenSpec.ofChange saveToldWrong)

/-- 'anvillaw16.SaveApart': WHATEVER THE INPUT: true; the input reads as it did. -/
def saveApartSpec : ChangeSpec := { name := "saveApart", fn := fun _ => fun
  | [d1, d2] => { results := [.lit (.bool true)], args := [d1, d2] }
  | _ => none }
def saveApartRow : OpenClaim := { program := "ytdlpmbghocabbaagreatdoor", sum := "715efb1268c5de9c17697f0035aaec6bd9fae5fe5af70ea3931bf9606279cf3e", func := "anvil/anvillaw16.SaveApart", spec := "saveApart", inPlace := ["(*internal/sync.Mutex).Lock", "internal/race.Disable", "sync/atomic.CompareAndSwapInt32", "internal/race.Enable", "internal/race.Acquire", "(*internal/sync.Mutex).lockSlow", "internal/sync.runtime_canSpin", "internal/sync.runtime_doSpin", "internal/sync.throw", "internal/sync.runtime_nanotime", "internal/sync.runtime_SemacquireMutex", "sync/atomic.AddInt32", "(*internal/sync.Mutex).Unlock", "internal/race.ReleaseMerge", "(*internal/sync.Mutex).unlockSlow", "internal/sync.fatal", "internal/sync.runtime_Semrelease"], unfollowed := true, recurses := true, named := ["anvil/arith.plain"], apart := false, laid := [("anvil/arith.plain", laid_anvil_arith_plain)] }
def SaveApartSaid : Prop := saveApartRow.holds Tryz.pinned (OpenSpec.ofChange saveApartSpec)

/-- ITS FALSE NEIGHBOUR: 'it returns false'. Refute it at one input. -/
def saveApartWrong : ChangeSpec := { name := "saveApart", fn := fun _ => fun
  | [d1, d2] => { results := [.lit (.bool false)], args := [d1, d2] }
  | _ => none }
def SaveApartWrongFalsely : Prop := saveApartRow.holds Tryz.pinned (OpenSpec.ofChange saveApartWrong)

/-- 'anvillaw16.SaveOwn': WHATEVER THE INPUT: true; the input reads as it did. -/
def saveOwnSpec : ChangeSpec := { name := "saveOwn", fn := fun _ => fun
  | [d] => { results := [.lit (.bool true)], args := [d] }
  | _ => none }
def saveOwnRow : OpenClaim := { program := "ytdlpmbghocabbaagreatdoor", sum := "715efb1268c5de9c17697f0035aaec6bd9fae5fe5af70ea3931bf9606279cf3e", func := "anvil/anvillaw16.SaveOwn", spec := "saveOwn", inPlace := ["(*internal/sync.Mutex).Lock", "internal/race.Disable", "sync/atomic.CompareAndSwapInt32", "internal/race.Enable", "internal/race.Acquire", "(*internal/sync.Mutex).lockSlow", "internal/sync.runtime_canSpin", "internal/sync.runtime_doSpin", "internal/sync.throw", "internal/sync.runtime_nanotime", "internal/sync.runtime_SemacquireMutex", "sync/atomic.AddInt32", "(*internal/sync.Mutex).Unlock", "internal/race.ReleaseMerge", "(*internal/sync.Mutex).unlockSlow", "internal/sync.fatal", "internal/sync.runtime_Semrelease"], unfollowed := true, recurses := true, named := ["anvil/arith.plain"], apart := false, laid := [("anvil/arith.plain", laid_anvil_arith_plain)] }
def SaveOwnSaid : Prop := saveOwnRow.holds Tryz.pinned (OpenSpec.ofChange saveOwnSpec)

/-- ITS FALSE NEIGHBOUR: 'it returns false'. Refute it at one input. -/
def saveOwnWrong : ChangeSpec := { name := "saveOwn", fn := fun _ => fun
  | [d] => { results := [.lit (.bool false)], args := [d] }
  | _ => none }
def SaveOwnWrongFalsely : Prop := saveOwnRow.holds Tryz.pinned (OpenSpec.ofChange saveOwnWrong)

/- THE SECOND FORM. 'bulk': how many values and letters a reading holds, each counted each time it is reached (what is shared counts as often as it is met; a slice's spare places count too). A statement '..UptoSaid' is the law's where the arguments, and the package variables that the reading takes, are together of bulk at most 1048576: NARROWER than '..Said'. Prove '..Said' where nothing that the law and all that it calls make is longer than what came in: it says more and counts as full. Else prove '..UptoSaid'. A law counts once. -/
mutual
def uptoBulk {H : Type} : DataW H → Nat
  | .lit (.string bytes) => bytes.length + 1
  | .lit _ => 1
  | .nil => 1
  | .ptr d => uptoBulk d + 1
  | .slice elems spare => uptoBulkAll elems + uptoBulkAll spare + 1
  | .agg parts => uptoBulkAll parts + 1
  | .iface _ d => uptoBulk d + 1
  | .map entries => uptoBulkEntries entries + 1
  | .held _ => 1
def uptoBulkAll {H : Type} : List (DataW H) → Nat
  | [] => 0
  | d :: r => uptoBulk d + uptoBulkAll r
def uptoBulkEntries {H : Type} : List (Lit × DataW H) → Nat
  | [] => 0
  | x :: r => uptoBulkEntry x + uptoBulkEntries r
def uptoBulkEntry {H : Type} : Lit × DataW H → Nat
  | (.string bytes, d) => bytes.length + uptoBulk d + 1
  | (_, d) => uptoBulk d + 1
 end
def uptoSmall : (H : Type) → List (DataW H) → Bool := fun _ ds => decide (uptoBulkAll ds ≤ 1048576)
def OpenSpec.upto (s : _root_.Go.ChangeSpec) : _root_.Go.OpenSpec := { _root_.Go.OpenSpec.ofChange s with cond := some uptoSmall }

/-- 'anvillaw12.ExecCalls', WHERE WHAT IT READS IS OF BULK AT MOST 1048576: true; the input reads as it did. -/
def execCallsUptoRow : OpenClaim := { program := "ytdlpmbghocabbaagreatdoor", sum := "715efb1268c5de9c17697f0035aaec6bd9fae5fe5af70ea3931bf9606279cf3e", func := "anvil/anvillaw12.ExecCalls", spec := "execCalls", inPlace := ["(*internal/sync.Mutex).Lock", "internal/race.Disable", "sync/atomic.CompareAndSwapInt32", "internal/race.Enable", "internal/race.Acquire", "(*internal/sync.Mutex).lockSlow", "internal/sync.runtime_canSpin", "internal/sync.runtime_doSpin", "internal/sync.throw", "internal/sync.runtime_nanotime", "internal/sync.runtime_SemacquireMutex", "sync/atomic.AddInt32", "(*internal/sync.Mutex).Unlock", "internal/race.ReleaseMerge", "(*internal/sync.Mutex).unlockSlow", "internal/sync.fatal", "internal/sync.runtime_Semrelease"], unfollowed := true, recurses := true, named := ["anvil/arith.plain"], apart := false, laid := [("anvil/arith.plain", laid_anvil_arith_plain)], narrowed := true }
def ExecCallsUptoSaid : Prop := execCallsUptoRow.holds Tryz.pinned (OpenSpec.upto execCallsSpec)

/-- 'anvillaw16.SaveBack', WHERE WHAT IT READS IS OF BULK AT MOST 1048576: true; the input reads as it did. -/
def saveBackUptoRow : OpenClaim := { program := "ytdlpmbghocabbaagreatdoor", sum := "715efb1268c5de9c17697f0035aaec6bd9fae5fe5af70ea3931bf9606279cf3e", func := "anvil/anvillaw16.SaveBack", spec := "saveBack", inPlace := ["(*internal/sync.Mutex).Lock", "internal/race.Disable", "sync/atomic.CompareAndSwapInt32", "internal/race.Enable", "internal/race.Acquire", "(*internal/sync.Mutex).lockSlow", "internal/sync.runtime_canSpin", "internal/sync.runtime_doSpin", "internal/sync.throw", "internal/sync.runtime_nanotime", "internal/sync.runtime_SemacquireMutex", "sync/atomic.AddInt32", "(*internal/sync.Mutex).Unlock", "internal/race.ReleaseMerge", "(*internal/sync.Mutex).unlockSlow", "internal/sync.fatal", "internal/sync.runtime_Semrelease"], unfollowed := true, recurses := true, named := ["anvil/arith.plain"], apart := false, laid := [("anvil/arith.plain", laid_anvil_arith_plain)], narrowed := true }
def SaveBackUptoSaid : Prop := saveBackUptoRow.holds Tryz.pinned (OpenSpec.upto saveBackSpec)

/-- 'anvillaw16.SaveAgain', WHERE WHAT IT READS IS OF BULK AT MOST 1048576: true; the input reads as it did. -/
def saveAgainUptoRow : OpenClaim := { program := "ytdlpmbghocabbaagreatdoor", sum := "715efb1268c5de9c17697f0035aaec6bd9fae5fe5af70ea3931bf9606279cf3e", func := "anvil/anvillaw16.SaveAgain", spec := "saveAgain", inPlace := ["(*internal/sync.Mutex).Lock", "internal/race.Disable", "sync/atomic.CompareAndSwapInt32", "internal/race.Enable", "internal/race.Acquire", "(*internal/sync.Mutex).lockSlow", "internal/sync.runtime_canSpin", "internal/sync.runtime_doSpin", "internal/sync.throw", "internal/sync.runtime_nanotime", "internal/sync.runtime_SemacquireMutex", "sync/atomic.AddInt32", "(*internal/sync.Mutex).Unlock", "internal/race.ReleaseMerge", "(*internal/sync.Mutex).unlockSlow", "internal/sync.fatal", "internal/sync.runtime_Semrelease"], unfollowed := true, recurses := true, named := ["anvil/arith.plain"], apart := false, laid := [("anvil/arith.plain", laid_anvil_arith_plain)], narrowed := true }
def SaveAgainUptoSaid : Prop := saveAgainUptoRow.holds Tryz.pinned (OpenSpec.upto saveAgainSpec)

/-- 'anvillaw16.SaveTold', WHERE WHAT IT READS IS OF BULK AT MOST 1048576: true; the input reads as it did. -/
def saveToldUptoRow : OpenClaim := { program := "ytdlpmbghocabbaagreatdoor", sum := "715efb1268c5de9c17697f0035aaec6bd9fae5fe5af70ea3931bf9606279cf3e", func := "anvil/anvillaw16.SaveTold", spec := "saveTold", inPlace := ["(*internal/sync.Mutex).Lock", "internal/race.Disable", "sync/atomic.CompareAndSwapInt32", "internal/race.Enable", "internal/race.Acquire", "(*internal/sync.Mutex).lockSlow", "internal/sync.runtime_canSpin", "internal/sync.runtime_doSpin", "internal/sync.throw", "internal/sync.runtime_nanotime", "internal/sync.runtime_SemacquireMutex", "sync/atomic.AddInt32", "(*internal/sync.Mutex).Unlock", "internal/race.ReleaseMerge", "(*internal/sync.Mutex).unlockSlow", "internal/sync.fatal", "internal/sync.runtime_Semrelease"], unfollowed := true, recurses := true, named := ["anvil/arith.plain"], apart := false, laid := [("anvil/arith.plain", laid_anvil_arith_plain)], narrowed := true }
def SaveToldUptoSaid : Prop := saveToldUptoRow.holds Tryz.pinned (OpenSpec.upto saveToldSpec)

/-- 'anvillaw16.SaveApart', WHERE WHAT IT READS IS OF BULK AT MOST 1048576: true; the input reads as it did. -/
def saveApartUptoRow : OpenClaim := { program := "ytdlpmbghocabbaagreatdoor", sum := "715efb1268c5de9c17697f0035aaec6bd9fae5fe5af70ea3931bf9606279cf3e", func := "anvil/anvillaw16.SaveApart", spec := "saveApart", inPlace := ["(*internal/sync.Mutex).Lock", "internal/race.Disable", "sync/atomic.CompareAndSwapInt32", "internal/race.Enable", "internal/race.Acquire", "(*internal/sync.Mutex).lockSlow", "internal/sync.runtime_canSpin", "internal/sync.runtime_doSpin", "internal/sync.throw", "internal/sync.runtime_nanotime", "internal/sync.runtime_SemacquireMutex", "sync/atomic.AddInt32", "(*internal/sync.Mutex).Unlock", "internal/race.ReleaseMerge", "(*internal/sync.Mutex).unlockSlow", "internal/sync.fatal", "internal/sync.runtime_Semrelease"], unfollowed := true, recurses := true, named := ["anvil/arith.plain"], apart := false, laid := [("anvil/arith.plain", laid_anvil_arith_plain)], narrowed := true }
def SaveApartUptoSaid : Prop := saveApartUptoRow.holds Tryz.pinned (OpenSpec.upto saveApartSpec)

/-- 'anvillaw16.SaveOwn', WHERE WHAT IT READS IS OF BULK AT MOST 1048576: true; the input reads as it did. -/
def saveOwnUptoRow : OpenClaim := { program := "ytdlpmbghocabbaagreatdoor", sum := "715efb1268c5de9c17697f0035aaec6bd9fae5fe5af70ea3931bf9606279cf3e", func := "anvil/anvillaw16.SaveOwn", spec := "saveOwn", inPlace := ["(*internal/sync.Mutex).Lock", "internal/race.Disable", "sync/atomic.CompareAndSwapInt32", "internal/race.Enable", "internal/race.Acquire", "(*internal/sync.Mutex).lockSlow", "internal/sync.runtime_canSpin", "internal/sync.runtime_doSpin", "internal/sync.throw", "internal/sync.runtime_nanotime", "internal/sync.runtime_SemacquireMutex", "sync/atomic.AddInt32", "(*internal/sync.Mutex).Unlock", "internal/race.ReleaseMerge", "(*internal/sync.Mutex).unlockSlow", "internal/sync.fatal", "internal/sync.runtime_Semrelease"], unfollowed := true, recurses := true, named := ["anvil/arith.plain"], apart := false, laid := [("anvil/arith.plain", laid_anvil_arith_plain)], narrowed := true }
def SaveOwnUptoSaid : Prop := saveOwnUptoRow.holds Tryz.pinned (OpenSpec.upto saveOwnSpec)

end Rows
end Go.Proofs.YtdlpmbghocabbaaGreatDoor
