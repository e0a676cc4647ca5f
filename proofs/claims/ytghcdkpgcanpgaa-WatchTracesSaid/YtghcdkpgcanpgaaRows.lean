/-
  No cell of these rows narrows 'for every input' (looked for: loops, veiled, ifaces, maps, wideKeys, modest, calm, conditions, laid).
  DERIVED. THE GIVEN ROWS OF THIS SEAT. 7 by the template 'for every input the law returns true; each argument reads behind the call as it read before'; 0 by the template 'total and deterministic' (their statements: YtghcdkpgcanpgaaTotals.lean).
  GIVEN WITH THE SEED: the statements are not yours to turn. If you find one false, say at which input.
  Laid BY PROGRAM, IN A SANDBOX (cutbox-rows.mjs): the forced cells as the released guide's own fill.sh prints them over the translation 9804182431146edc… (all of the seat's roots in one cut). By AI agents, Wed Nov 11 2026. No macro, syntax, notation, axiom, sorry.
-/
import Derived.Test.YtghcdkpgcanpgaaChecked
import GoSem.Claim
import GoSem.ClaimJoined
import GoSem.ClaimMapViews
import Derived.JoinedTies
import Derived.KernelRfl
namespace Go.Proofs.Ytghcdkpgcanpgaa
/- THE CELL 'sum', in the pinned program and in every row, IS THE sha256 OF THE DUMP (.gsa) THAT YtghcdkpgcanpgaaProg.lean LOADS. Nothing in Lean hashes anything: it is a label: what it is worth is what the hold of that sum in a sandbox is worth. -/
noncomputable def Try.pinned : Pinned := { name := "ytghcdkpgcanpgaa", sum := "9804182431146edcaca8ffd766a5221f80aaf7376f55895fd117b7a1537c5d0e", checked := Try.checked }
namespace Rows
def none {H : Type} : Left H := { results := [], args := [] }

/-- 'anvillaw18.WatchNames': WHATEVER THE INPUT: true; the input reads as it did. -/
def watchNamesSpec : ChangeSpec := { name := "watchNames", fn := fun _ => fun
  | [] => { results := [.lit (.bool true)], args := [] }
  | _ => none }
def watchNamesRow : OpenClaim := { program := "ytghcdkpgcanpgaa", sum := "9804182431146edcaca8ffd766a5221f80aaf7376f55895fd117b7a1537c5d0e", func := "anvil/anvillaw18.WatchNames", spec := "watchNames", apart := false }
def WatchNamesSaid : Prop := watchNamesRow.holds Try.pinned (OpenSpec.ofChange watchNamesSpec)

/-- ITS FALSE NEIGHBOUR: 'it returns false'. Refute it at one input. -/
def watchNamesWrong : ChangeSpec := { name := "watchNames", fn := fun _ => fun
  | [] => { results := [.lit (.bool false)], args := [] }
  | _ => none }
def WatchNamesWrongFalsely : Prop := watchNamesRow.holds Try.pinned (OpenSpec.ofChange watchNamesWrong)

/-- 'anvillaw17.GdbPacks': WHATEVER THE INPUT: true; the input reads as it did. -/
def gdbPacksSpec : ChangeSpec := { name := "gdbPacks", fn := fun _ => fun
  | [d] => { results := [.lit (.bool true)], args := [d] }
  | _ => none }
def gdbPacksRow : OpenClaim := { program := "ytghcdkpgcanpgaa", sum := "9804182431146edcaca8ffd766a5221f80aaf7376f55895fd117b7a1537c5d0e", func := "anvil/anvillaw17.GdbPacks", spec := "gdbPacks", inPlace := ["internal/bytealg.IndexByte"], recurses := true, apart := false }
def GdbPacksSaid : Prop := gdbPacksRow.holds Try.pinned (OpenSpec.ofChange gdbPacksSpec)

/-- ITS FALSE NEIGHBOUR: 'it returns false'. Refute it at one input. -/
def gdbPacksWrong : ChangeSpec := { name := "gdbPacks", fn := fun _ => fun
  | [d] => { results := [.lit (.bool false)], args := [d] }
  | _ => none }
def GdbPacksWrongFalsely : Prop := gdbPacksRow.holds Try.pinned (OpenSpec.ofChange gdbPacksWrong)

/-- 'anvillaw16.SaveChecks': WHATEVER THE INPUT: true; the input reads as it did. -/
def saveChecksSpec : ChangeSpec := { name := "saveChecks", fn := fun _ => fun
  | [d] => { results := [.lit (.bool true)], args := [d] }
  | _ => none }
def saveChecksRow : OpenClaim := { program := "ytghcdkpgcanpgaa", sum := "9804182431146edcaca8ffd766a5221f80aaf7376f55895fd117b7a1537c5d0e", func := "anvil/anvillaw16.SaveChecks", spec := "saveChecks", inPlace := ["(*internal/sync.Mutex).Lock", "internal/race.Disable", "sync/atomic.CompareAndSwapInt32", "internal/race.Enable", "internal/race.Acquire", "(*internal/sync.Mutex).lockSlow", "internal/sync.runtime_canSpin", "internal/sync.runtime_doSpin", "internal/sync.throw", "internal/sync.runtime_nanotime", "internal/sync.runtime_SemacquireMutex", "sync/atomic.AddInt32", "(*internal/sync.Mutex).Unlock", "internal/race.ReleaseMerge", "(*internal/sync.Mutex).unlockSlow", "internal/sync.fatal", "internal/sync.runtime_Semrelease"], apart := false }
def SaveChecksSaid : Prop := saveChecksRow.holds Try.pinned (OpenSpec.ofChange saveChecksSpec)

/-- ITS FALSE NEIGHBOUR: 'it returns false'. Refute it at one input. -/
def saveChecksWrong : ChangeSpec := { name := "saveChecks", fn := fun _ => fun
  | [d] => { results := [.lit (.bool false)], args := [d] }
  | _ => none }
def SaveChecksWrongFalsely : Prop := saveChecksRow.holds Try.pinned (OpenSpec.ofChange saveChecksWrong)

/-- 'anvillaw16.SaveSaves': WHATEVER THE INPUT: true; the input reads as it did. -/
def saveSavesSpec : ChangeSpec := { name := "saveSaves", fn := fun _ => fun
  | [d] => { results := [.lit (.bool true)], args := [d] }
  | _ => none }
def saveSavesRow : OpenClaim := { program := "ytghcdkpgcanpgaa", sum := "9804182431146edcaca8ffd766a5221f80aaf7376f55895fd117b7a1537c5d0e", func := "anvil/anvillaw16.SaveSaves", spec := "saveSaves", inPlace := ["(*internal/sync.Mutex).Lock", "internal/race.Disable", "sync/atomic.CompareAndSwapInt32", "internal/race.Enable", "internal/race.Acquire", "(*internal/sync.Mutex).lockSlow", "internal/sync.runtime_canSpin", "internal/sync.runtime_doSpin", "internal/sync.throw", "internal/sync.runtime_nanotime", "internal/sync.runtime_SemacquireMutex", "sync/atomic.AddInt32", "(*internal/sync.Mutex).Unlock", "internal/race.ReleaseMerge", "(*internal/sync.Mutex).unlockSlow", "internal/sync.fatal", "internal/sync.runtime_Semrelease"], unfollowed := true, recurses := true, apart := false }
def SaveSavesSaid : Prop := saveSavesRow.holds Try.pinned (OpenSpec.ofChange saveSavesSpec)

/-- ITS FALSE NEIGHBOUR: 'it returns false'. Refute it at one input. -/
def saveSavesWrong : ChangeSpec := { name := "saveSaves", fn := fun _ => fun
  | [d] => { results := [.lit (.bool false)], args := [d] }
  | _ => none }
def SaveSavesWrongFalsely : Prop := saveSavesRow.holds Try.pinned (OpenSpec.ofChange saveSavesWrong)

/-- 'anvillaw16.SaveLoads': WHATEVER THE INPUT: true; the input reads as it did. -/
def saveLoadsSpec : ChangeSpec := { name := "saveLoads", fn := fun _ => fun
  | [d] => { results := [.lit (.bool true)], args := [d] }
  | _ => none }
def saveLoadsRow : OpenClaim := { program := "ytghcdkpgcanpgaa", sum := "9804182431146edcaca8ffd766a5221f80aaf7376f55895fd117b7a1537c5d0e", func := "anvil/anvillaw16.SaveLoads", spec := "saveLoads", inPlace := ["(*internal/sync.Mutex).Lock", "internal/race.Disable", "sync/atomic.CompareAndSwapInt32", "internal/race.Enable", "internal/race.Acquire", "(*internal/sync.Mutex).lockSlow", "internal/sync.runtime_canSpin", "internal/sync.runtime_doSpin", "internal/sync.throw", "internal/sync.runtime_nanotime", "internal/sync.runtime_SemacquireMutex", "sync/atomic.AddInt32", "(*internal/sync.Mutex).Unlock", "internal/race.ReleaseMerge", "(*internal/sync.Mutex).unlockSlow", "internal/sync.fatal", "internal/sync.runtime_Semrelease"], unfollowed := true, recurses := true, apart := false }
def SaveLoadsSaid : Prop := saveLoadsRow.holds Try.pinned (OpenSpec.ofChange saveLoadsSpec)

/-- ITS FALSE NEIGHBOUR: 'it returns false'. Refute it at one input. -/
def saveLoadsWrong : ChangeSpec := { name := "saveLoads", fn := fun _ => fun
  | [d] => { results := [.lit (.bool false)], args := [d] }
  | _ => none }
def SaveLoadsWrongFalsely : Prop := saveLoadsRow.holds Try.pinned (OpenSpec.ofChange saveLoadsWrong)

/-- 'anvillaw18.WatchAgrees': WHATEVER THE INPUT: true; the input reads as it did. -/
def watchAgreesSpec : ChangeSpec := { name := "watchAgrees", fn := fun _ => fun
  | [d1, d2] => { results := [.lit (.bool true)], args := [d1, d2] }
  | _ => none }
def watchAgreesRow : OpenClaim := { program := "ytghcdkpgcanpgaa", sum := "9804182431146edcaca8ffd766a5221f80aaf7376f55895fd117b7a1537c5d0e", func := "anvil/anvillaw18.WatchAgrees", spec := "watchAgrees", unfollowed := true, recurses := true, apart := false }
def WatchAgreesSaid : Prop := watchAgreesRow.holds Try.pinned (OpenSpec.ofChange watchAgreesSpec)

/-- ITS FALSE NEIGHBOUR: 'it returns false'. Refute it at one input. -/
def watchAgreesWrong : ChangeSpec := { name := "watchAgrees", fn := fun _ => fun
  | [d1, d2] => { results := [.lit (.bool false)], args := [d1, d2] }
  | _ => none }
def WatchAgreesWrongFalsely : Prop := watchAgreesRow.holds Try.pinned (OpenSpec.ofChange watchAgreesWrong)

/-- 'anvillaw18.WatchTraces': WHATEVER THE INPUT: true; the input reads as it did. -/
def watchTracesSpec : ChangeSpec := { name := "watchTraces", fn := fun _ => fun
  | [d] => { results := [.lit (.bool true)], args := [d] }
  | _ => none }
def watchTracesRow : OpenClaim := { program := "ytghcdkpgcanpgaa", sum := "9804182431146edcaca8ffd766a5221f80aaf7376f55895fd117b7a1537c5d0e", func := "anvil/anvillaw18.WatchTraces", spec := "watchTraces", unfollowed := true, recurses := true, apart := false }
def WatchTracesSaid : Prop := watchTracesRow.holds Try.pinned (OpenSpec.ofChange watchTracesSpec)

/-- ITS FALSE NEIGHBOUR: 'it returns false'. Refute it at one input. -/
def watchTracesWrong : ChangeSpec := { name := "watchTraces", fn := fun _ => fun
  | [d] => { results := [.lit (.bool false)], args := [d] }
  | _ => none }
def WatchTracesWrongFalsely : Prop := watchTracesRow.holds Try.pinned (OpenSpec.ofChange watchTracesWrong)

/- THE SECOND FORM. 'bulk': how many values and letters a reading holds, each counted each time it is reached (what is shared counts as often as it is met; a slice's spare places count too). A statement '..UptoSaid' is the law's where the arguments, and the package variables that the reading takes, are together of bulk at most 1048576: NARROWER than '..Said'. Prove '..Said' where nothing that the law and all that it calls make is longer than what came in: it says more and counts as full. Else prove '..UptoSaid'. A law counts once. -/
mutual
def uptoBulk {H : Type} : DataW H → Nat
  | .lit (.string bytes) => bytes.length + 1
  | .lit _ => 1
  | .nil => 1
  | .ptr d => uptoBulk d + 1
  | .slice elems spare => uptoBulkAll elems + uptoBulkAll spare + 1
  | .agg parts => uptoBulkAll parts + 1
  | .iface _ d => uptoBulk d + 1
  | .map entries => uptoBulkEntries entries + 1
  | .held _ => 1
def uptoBulkAll {H : Type} : List (DataW H) → Nat
  | [] => 0
  | d :: r => uptoBulk d + uptoBulkAll r
def uptoBulkEntries {H : Type} : List (Lit × DataW H) → Nat
  | [] => 0
  | x :: r => uptoBulkEntry x + uptoBulkEntries r
def uptoBulkEntry {H : Type} : Lit × DataW H → Nat
  | (.string bytes, d) => bytes.length + uptoBulk d + 1
  | (_, d) => uptoBulk d + 1
 end
def uptoSmall : (H : Type) → List (DataW H) → Bool := fun _ ds => decide (uptoBulkAll ds ≤ 1048576)
def OpenSpec.upto (s : _root_.Go.ChangeSpec) : _root_.Go.OpenSpec := { _root_.Go.OpenSpec.ofChange s with cond := some uptoSmall }

/-- 'anvillaw18.WatchNames', WHERE WHAT IT READS IS OF BULK AT MOST 1048576: true; the input reads as it did. -/
def watchNamesUptoRow : OpenClaim := { program := "ytghcdkpgcanpgaa", sum := "9804182431146edcaca8ffd766a5221f80aaf7376f55895fd117b7a1537c5d0e", func := "anvil/anvillaw18.WatchNames", spec := "watchNames", apart := false, narrowed := true }
def WatchNamesUptoSaid : Prop := watchNamesUptoRow.holds Try.pinned (OpenSpec.upto watchNamesSpec)

/-- 'anvillaw17.GdbPacks', WHERE WHAT IT READS IS OF BULK AT MOST 1048576: true; the input reads as it did. -/
def gdbPacksUptoRow : OpenClaim := { program := "ytghcdkpgcanpgaa", sum := "9804182431146edcaca8ffd766a5221f80aaf7376f55895fd117b7a1537c5d0e", func := "anvil/anvillaw17.GdbPacks", spec := "gdbPacks", inPlace := ["internal/bytealg.IndexByte"], recurses := true, apart := false, narrowed := true }
def GdbPacksUptoSaid : Prop := gdbPacksUptoRow.holds Try.pinned (OpenSpec.upto gdbPacksSpec)

/-- 'anvillaw16.SaveChecks', WHERE WHAT IT READS IS OF BULK AT MOST 1048576: true; the input reads as it did. -/
def saveChecksUptoRow : OpenClaim := { program := "ytghcdkpgcanpgaa", sum := "9804182431146edcaca8ffd766a5221f80aaf7376f55895fd117b7a1537c5d0e", func := "anvil/anvillaw16.SaveChecks", spec := "saveChecks", inPlace := ["(*internal/sync.Mutex).Lock", "internal/race.Disable", "sync/atomic.CompareAndSwapInt32", "internal/race.Enable", "internal/race.Acquire", "(*internal/sync.Mutex).lockSlow", "internal/sync.runtime_canSpin", "internal/sync.runtime_doSpin", "internal/sync.throw", "internal/sync.runtime_nanotime", "internal/sync.runtime_SemacquireMutex", "sync/atomic.AddInt32", "(*internal/sync.Mutex).Unlock", "internal/race.ReleaseMerge", "(*internal/sync.Mutex).unlockSlow", "internal/sync.fatal", "internal/sync.runtime_Semrelease"], apart := false, narrowed := true }
def SaveChecksUptoSaid : Prop := saveChecksUptoRow.holds Try.pinned (OpenSpec.upto saveChecksSpec)

/-- 'anvillaw16.SaveSaves', WHERE WHAT IT READS IS OF BULK AT MOST 1048576: true; the input reads as it did. -/
def saveSavesUptoRow : OpenClaim := { program := "ytghcdkpgcanpgaa", sum := "9804182431146edcaca8ffd766a5221f80aaf7376f55895fd117b7a1537c5d0e", func := "anvil/anvillaw16.SaveSaves", spec := "saveSaves", inPlace := ["(*internal/sync.Mutex).Lock", "internal/race.Disable", "sync/atomic.CompareAndSwapInt32", "internal/race.Enable", "internal/race.Acquire", "(*internal/sync.Mutex).lockSlow", "internal/sync.runtime_canSpin", "internal/sync.runtime_doSpin", "internal/sync.throw", "internal/sync.runtime_nanotime", "internal/sync.runtime_SemacquireMutex", "sync/atomic.AddInt32", "(*internal/sync.Mutex).Unlock", "internal/race.ReleaseMerge", "(*internal/sync.Mutex).unlockSlow", "internal/sync.fatal", "internal/sync.runtime_Semrelease"], unfollowed := true, recurses := true, apart := false, narrowed := true }
def SaveSavesUptoSaid : Prop := saveSavesUptoRow.holds Try.pinned (OpenSpec.upto saveSavesSpec)

/-- 'anvillaw16.SaveLoads', WHERE WHAT IT READS IS OF BULK AT MOST 1048576: true; the input reads as it did. -/
def saveLoadsUptoRow : OpenClaim := { program := "ytghcdkpgcanpgaa", sum := "9804182431146edcaca8ffd766a5221f80aaf7376f55895fd117b7a1537c5d0e", func := "anvil/anvillaw16.SaveLoads", spec := "saveLoads", inPlace := ["(*internal/sync.Mutex).Lock", "internal/race.Disable", "sync/atomic.CompareAndSwapInt32", "internal/race.Enable", "internal/race.Acquire", "(*internal/sync.Mutex).lockSlow", "internal/sync.runtime_canSpin", "internal/sync.runtime_doSpin", "internal/sync.throw", "internal/sync.runtime_nanotime", "internal/sync.runtime_SemacquireMutex", "sync/atomic.AddInt32", "(*internal/sync.Mutex).Unlock", "internal/race.ReleaseMerge", "(*internal/sync.Mutex).unlockSlow", "internal/sync.fatal", "internal/sync.runtime_Semrelease"], unfollowed := true, recurses := true, apart := false, narrowed := true }
def SaveLoadsUptoSaid : Prop := saveLoadsUptoRow.holds Try.pinned (OpenSpec.upto saveLoadsSpec)

/-- 'anvillaw18.WatchAgrees', WHERE WHAT IT READS IS OF BULK AT MOST 1048576: true; the input reads as it did. -/
def watchAgreesUptoRow : OpenClaim := { program := "ytghcdkpgcanpgaa", sum := "9804182431146edcaca8ffd766a5221f80aaf7376f55895fd117b7a1537c5d0e", func := "anvil/anvillaw18.WatchAgrees", spec := "watchAgrees", unfollowed := true, recurses := true, apart := false, narrowed := true }
def WatchAgreesUptoSaid : Prop := watchAgreesUptoRow.holds Try.pinned (OpenSpec.upto watchAgreesSpec)

/-- 'anvillaw18.WatchTraces', WHERE WHAT IT READS IS OF BULK AT MOST 1048576: true; the input reads as it did. -/
def watchTracesUptoRow : OpenClaim := { program := "ytghcdkpgcanpgaa", sum := "9804182431146edcaca8ffd766a5221f80aaf7376f55895fd117b7a1537c5d0e", func := "anvil/anvillaw18.WatchTraces", spec := "watchTraces", unfollowed := true, recurses := true, apart := false, narrowed := true }
def WatchTracesUptoSaid : Prop := watchTracesUptoRow.holds Try.pinned (OpenSpec.upto watchTracesSpec)

end Rows
end Go.Proofs.Ytghcdkpgcanpgaa
