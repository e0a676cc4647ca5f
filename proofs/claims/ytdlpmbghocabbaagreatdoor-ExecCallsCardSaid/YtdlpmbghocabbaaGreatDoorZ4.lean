/- Part 4 of the texts of this claim, merged: T, M1, E8. No condition: plain theorems, contracts of functions. -/
import Derived.Test.YtdlpmbghocabbaaGreatDoorZ3
import Derived.Test.YtdlpmbghocabbaaGreatDoorProg
import Derived.KernelRfl

set_option linter.unusedSimpArgs false
set_option linter.unusedVariables false
/- The table of types of this seat, for the engine. Printed by gen_tbl.py; every row is proved here. No condition. -/
namespace Go.Proofs.YtdlpmbghocabbaaGreatDoor
open Go Go.Anv
set_option maxRecDepth 100000
/-- func() -/
def ti1 : TI := { d := .other, size := 1, bytes := 8, zero := .s .nilfunc }
theorem ti1_ok : TIok Tryz.prog 1 ti1 := ⟨⟨_, _, _, Tryz.underlying1⟩, by kernel_rfl, by kernel_rfl, ⟨_, rfl, by kernel_rfl⟩⟩
/-- int64 -/
def ti2 : TI := { d := .int .i64, size := 1, bytes := 8, zero := .s (.int .i64 0) }
theorem ti2_ok : TIok Tryz.prog 2 ti2 := ⟨Tryz.underlying2, by kernel_rfl, by kernel_rfl, ⟨_, rfl, by kernel_rfl⟩⟩
/-- int -/
def ti3 : TI := { d := .int .i64, size := 1, bytes := 8, zero := .s (.int .i64 0) }
theorem ti3_ok : TIok Tryz.prog 3 ti3 := ⟨Tryz.underlying3, by kernel_rfl, by kernel_rfl, ⟨_, rfl, by kernel_rfl⟩⟩
/-- bool -/
def ti4 : TI := { d := .bool, size := 1, bytes := 1, zero := .s (.bool false) }
theorem ti4_ok : TIok Tryz.prog 4 ti4 := ⟨Tryz.underlying4, by kernel_rfl, by kernel_rfl, ⟨_, rfl, by kernel_rfl⟩⟩
/-- uint8 -/
def ti5 : TI := { d := .int .u8, size := 1, bytes := 1, zero := .s (.int .u8 0) }
theorem ti5_ok : TIok Tryz.prog 5 ti5 := ⟨Tryz.underlying5, by kernel_rfl, by kernel_rfl, ⟨_, rfl, by kernel_rfl⟩⟩
/-- abi.BoundsErrorCode -/
def ti6 : TI := { d := .int .u8, size := 1, bytes := 1, zero := .s (.int .u8 0) }
theorem ti6_ok : TIok Tryz.prog 6 ti6 := ⟨Tryz.underlying6, by kernel_rfl, by kernel_rfl, ⟨_, rfl, by kernel_rfl⟩⟩
/-- struct { x int64; y int; signed bool; code abi.BoundsErrorCode } -/
def ti7 : TI := { d := .struct [(2, 0), (3, 1), (4, 2), (6, 3)], size := 4, bytes := 24, zero := .agg [.one (.int .i64 0), .one (.int .i64 0), .one (.bool false), .one (.int .u8 0)] }
theorem ti7_ok : TIok Tryz.prog 7 ti7 := ⟨⟨_, Tryz.underlying7, by rfl⟩, by kernel_rfl, by kernel_rfl, ⟨_, rfl, by kernel_rfl⟩⟩
/-- runtime.boundsError -/
def ti8 : TI := { d := .struct [(2, 0), (3, 1), (4, 2), (6, 3)], size := 4, bytes := 24, zero := .agg [.one (.int .i64 0), .one (.int .i64 0), .one (.bool false), .one (.int .u8 0)] }
theorem ti8_ok : TIok Tryz.prog 8 ti8 := ⟨⟨_, Tryz.underlying8, by rfl⟩, by kernel_rfl, by kernel_rfl, ⟨_, rfl, by kernel_rfl⟩⟩
/-- string -/
def ti9 : TI := { d := .str, size := 1, bytes := 16, zero := .s (.str .empty) }
theorem ti9_ok : TIok Tryz.prog 9 ti9 := ⟨Tryz.underlying9, by kernel_rfl, by kernel_rfl, ⟨_, rfl, by kernel_rfl⟩⟩
/-- runtime.errorString -/
def ti10 : TI := { d := .str, size := 1, bytes := 16, zero := .s (.str .empty) }
theorem ti10_ok : TIok Tryz.prog 10 ti10 := ⟨Tryz.underlying10, by kernel_rfl, by kernel_rfl, ⟨_, rfl, by kernel_rfl⟩⟩
/-- runtime.plainError -/
def ti11 : TI := { d := .str, size := 1, bytes := 16, zero := .s (.str .empty) }
theorem ti11_ok : TIok Tryz.prog 11 ti11 := ⟨Tryz.underlying11, by kernel_rfl, by kernel_rfl, ⟨_, rfl, by kernel_rfl⟩⟩
/-- uintptr -/
def ti12 : TI := { d := .int .u64, size := 1, bytes := 8, zero := .s (.int .u64 0) }
theorem ti12_ok : TIok Tryz.prog 12 ti12 := ⟨Tryz.underlying12, by kernel_rfl, by kernel_rfl, ⟨_, rfl, by kernel_rfl⟩⟩
/-- struct { msg string; addr uintptr } -/
def ti13 : TI := { d := .struct [(9, 0), (12, 1)], size := 2, bytes := 24, zero := .agg [.one (.str .empty), .one (.int .u64 0)] }
theorem ti13_ok : TIok Tryz.prog 13 ti13 := ⟨⟨_, Tryz.underlying13, by rfl⟩, by kernel_rfl, by kernel_rfl, ⟨_, rfl, by kernel_rfl⟩⟩
/-- runtime.errorAddressString -/
def ti14 : TI := { d := .struct [(9, 0), (12, 1)], size := 2, bytes := 24, zero := .agg [.one (.str .empty), .one (.int .u64 0)] }
theorem ti14_ok : TIok Tryz.prog 14 ti14 := ⟨⟨_, Tryz.underlying14, by rfl⟩, by kernel_rfl, by kernel_rfl, ⟨_, rfl, by kernel_rfl⟩⟩
/-- *runtime.TypeAssertionError -/
def ti15 : TI := { d := .ptr 280, size := 1, bytes := 8, zero := .s .nilptr }
theorem ti15_ok : TIok Tryz.prog 15 ti15 := ⟨Tryz.underlying15, by kernel_rfl, by kernel_rfl, ⟨_, rfl, by kernel_rfl⟩⟩
/-- *runtime.PanicNilError -/
def ti16 : TI := { d := .ptr 283, size := 1, bytes := 8, zero := .s .nilptr }
theorem ti16_ok : TIok Tryz.prog 16 ti16 := ⟨Tryz.underlying16, by kernel_rfl, by kernel_rfl, ⟨_, rfl, by kernel_rfl⟩⟩
/-- *abi.Type -/
def ti17 : TI := { d := .ptr 290, size := 1, bytes := 8, zero := .s .nilptr }
theorem ti17_ok : TIok Tryz.prog 17 ti17 := ⟨Tryz.underlying17, by kernel_rfl, by kernel_rfl, ⟨_, rfl, by kernel_rfl⟩⟩
/-- struct { typ *abi.Type } -/
def ti18 : TI := { d := .struct [(17, 0)], size := 1, bytes := 8, zero := .agg [.one .nilptr] }
theorem ti18_ok : TIok Tryz.prog 18 ti18 := ⟨⟨_, Tryz.underlying18, by rfl⟩, by kernel_rfl, by kernel_rfl, ⟨_, rfl, by kernel_rfl⟩⟩
/-- maps.unhashableTypeError -/
def ti19 : TI := { d := .struct [(17, 0)], size := 1, bytes := 8, zero := .agg [.one .nilptr] }
theorem ti19_ok : TIok Tryz.prog 19 ti19 := ⟨⟨_, Tryz.underlying19, by rfl⟩, by kernel_rfl, by kernel_rfl, ⟨_, rfl, by kernel_rfl⟩⟩
/-- interface {} -/
def ti20 : TI := { d := .iface, size := 1, bytes := 16, zero := .s .niliface }
theorem ti20_ok : TIok Tryz.prog 20 ti20 := ⟨⟨_, Tryz.underlying20⟩, by kernel_rfl, by kernel_rfl, ⟨_, rfl, by kernel_rfl⟩⟩
/-- int32 -/
def ti21 : TI := { d := .int .i32, size := 1, bytes := 4, zero := .s (.int .i32 0) }
theorem ti21_ok : TIok Tryz.prog 21 ti21 := ⟨Tryz.underlying21, by kernel_rfl, by kernel_rfl, ⟨_, rfl, by kernel_rfl⟩⟩
/-- uint64 -/
def ti22 : TI := { d := .int .u64, size := 1, bytes := 8, zero := .s (.int .u64 0) }
theorem ti22_ok : TIok Tryz.prog 22 ti22 := ⟨Tryz.underlying22, by kernel_rfl, by kernel_rfl, ⟨_, rfl, by kernel_rfl⟩⟩
/-- [32]uint64 -/
def ti23 : TI := { d := .array 32 22, size := 32, bytes := 256, zero := .agg [.ints .u64 32 (fun _ => 0)] }
theorem ti23_ok : TIok Tryz.prog 23 ti23 := ⟨Tryz.underlying23, by kernel_rfl, by kernel_rfl, ⟨_, rfl, by kernel_rfl⟩⟩
/-- [16]uint8 -/
def ti24 : TI := { d := .array 16 5, size := 16, bytes := 16, zero := .agg [.ints .u8 16 (fun _ => 0)] }
theorem ti24_ok : TIok Tryz.prog 24 ti24 := ⟨Tryz.underlying24, by kernel_rfl, by kernel_rfl, ⟨_, rfl, by kernel_rfl⟩⟩
/-- [16]uint64 -/
def ti25 : TI := { d := .array 16 22, size := 16, bytes := 128, zero := .agg [.ints .u64 16 (fun _ => 0)] }
theorem ti25_ok : TIok Tryz.prog 25 ti25 := ⟨Tryz.underlying25, by kernel_rfl, by kernel_rfl, ⟨_, rfl, by kernel_rfl⟩⟩
/-- struct { Cfg [16]uint8; Addr [16]uint64 } -/
def ti26 : TI := { d := .struct [(24, 0), (25, 16)], size := 32, bytes := 144, zero := .agg [.ints .u8 16 (fun _ => 0), .ints .u64 16 (fun _ => 0)] }
theorem ti26_ok : TIok Tryz.prog 26 ti26 := ⟨⟨_, Tryz.underlying26, by rfl⟩, by kernel_rfl, by kernel_rfl, ⟨_, rfl, by kernel_rfl⟩⟩
/-- api.Pmp -/
def ti27 : TI := { d := .struct [(24, 0), (25, 16)], size := 32, bytes := 144, zero := .agg [.ints .u8 16 (fun _ => 0), .ints .u64 16 (fun _ => 0)] }
theorem ti27_ok : TIok Tryz.prog 27 ti27 := ⟨⟨_, Tryz.underlying27, by rfl⟩, by kernel_rfl, by kernel_rfl, ⟨_, rfl, by kernel_rfl⟩⟩
/-- struct { Valid bool; Addr uint64; Size int } -/
def ti28 : TI := { d := .struct [(4, 0), (22, 1), (3, 2)], size := 3, bytes := 24, zero := .agg [.one (.bool false), .one (.int .u64 0), .one (.int .i64 0)] }
theorem ti28_ok : TIok Tryz.prog 28 ti28 := ⟨⟨_, Tryz.underlying28, by rfl⟩, by kernel_rfl, by kernel_rfl, ⟨_, rfl, by kernel_rfl⟩⟩
/-- api.Res -/
def ti29 : TI := { d := .struct [(4, 0), (22, 1), (3, 2)], size := 3, bytes := 24, zero := .agg [.one (.bool false), .one (.int .u64 0), .one (.int .i64 0)] }
theorem ti29_ok : TIok Tryz.prog 29 ti29 := ⟨⟨_, Tryz.underlying29, by rfl⟩, by kernel_rfl, by kernel_rfl, ⟨_, rfl, by kernel_rfl⟩⟩
/-- struct { Pc uint64; X [32]uint64; Mode int; Waiting bool; Mstatus uint64; Mtvec uint64; Mie uint64; Mcounteren uint64; Mcountinhibit uint64; Menvcfg uint64; Mscratch uint64; Mepc uint64; Mcause uint64; Mtval uint64; Mcycle uint64; Minstret uint64; Pmp api.Pmp; Res api.Res } -/
def ti30 : TI := { d := .struct [(22, 0), (23, 1), (3, 33), (4, 34), (22, 35), (22, 36), (22, 37), (22, 38), (22, 39), (22, 40), (22, 41), (22, 42), (22, 43), (22, 44), (22, 45), (22, 46), (27, 47), (29, 79)], size := 82, bytes := 544, zero := .agg [.one (.int .u64 0), .ints .u64 32 (fun _ => 0), .one (.int .i64 0), .one (.bool false), .one (.int .u64 0), .one (.int .u64 0), .one (.int .u64 0), .one (.int .u64 0), .one (.int .u64 0), .one (.int .u64 0), .one (.int .u64 0), .one (.int .u64 0), .one (.int .u64 0), .one (.int .u64 0), .one (.int .u64 0), .one (.int .u64 0), .ints .u8 16 (fun _ => 0), .ints .u64 16 (fun _ => 0), .one (.bool false), .one (.int .u64 0), .one (.int .i64 0)] }
theorem ti30_ok : TIok Tryz.prog 30 ti30 := ⟨⟨_, Tryz.underlying30, by rfl⟩, by kernel_rfl, by kernel_rfl, ⟨_, rfl, by kernel_rfl⟩⟩
/-- api.Cpu -/
def ti31 : TI := { d := .struct [(22, 0), (23, 1), (3, 33), (4, 34), (22, 35), (22, 36), (22, 37), (22, 38), (22, 39), (22, 40), (22, 41), (22, 42), (22, 43), (22, 44), (22, 45), (22, 46), (27, 47), (29, 79)], size := 82, bytes := 544, zero := .agg [.one (.int .u64 0), .ints .u64 32 (fun _ => 0), .one (.int .i64 0), .one (.bool false), .one (.int .u64 0), .one (.int .u64 0), .one (.int .u64 0), .one (.int .u64 0), .one (.int .u64 0), .one (.int .u64 0), .one (.int .u64 0), .one (.int .u64 0), .one (.int .u64 0), .one (.int .u64 0), .one (.int .u64 0), .one (.int .u64 0), .ints .u8 16 (fun _ => 0), .ints .u64 16 (fun _ => 0), .one (.bool false), .one (.int .u64 0), .one (.int .i64 0)] }
theorem ti31_ok : TIok Tryz.prog 31 ti31 := ⟨⟨_, Tryz.underlying31, by rfl⟩, by kernel_rfl, by kernel_rfl, ⟨_, rfl, by kernel_rfl⟩⟩
/-- []uint8 -/
def ti32 : TI := { d := .slice 5, size := 1, bytes := 24, zero := .s .nilslice }
theorem ti32_ok : TIok Tryz.prog 32 ti32 := ⟨Tryz.underlying32, by kernel_rfl, by kernel_rfl, ⟨_, rfl, by kernel_rfl⟩⟩
/-- uint32 -/
def ti33 : TI := { d := .int .u32, size := 1, bytes := 4, zero := .s (.int .u32 0) }
theorem ti33_ok : TIok Tryz.prog 33 ti33 := ⟨Tryz.underlying33, by kernel_rfl, by kernel_rfl, ⟨_, rfl, by kernel_rfl⟩⟩
/-- struct { Ram []uint8; Msip uint32; Mtimecmp uint64; Mtime uint64; Ext bool; Soft bool; Ier uint8; Lcr uint8; Mcr uint8; Scratch uint8; Overrun bool; Input []uint8; Output []uint8; Off int; Code int } -/
def ti34 : TI := { d := .struct [(32, 0), (33, 1), (22, 2), (22, 3), (4, 4), (4, 5), (5, 6), (5, 7), (5, 8), (5, 9), (4, 10), (32, 11), (32, 12), (3, 13), (3, 14)], size := 15, bytes := 120, zero := .agg [.one .nilslice, .one (.int .u32 0), .one (.int .u64 0), .one (.int .u64 0), .one (.bool false), .one (.bool false), .one (.int .u8 0), .one (.int .u8 0), .one (.int .u8 0), .one (.int .u8 0), .one (.bool false), .one .nilslice, .one .nilslice, .one (.int .i64 0), .one (.int .i64 0)] }
theorem ti34_ok : TIok Tryz.prog 34 ti34 := ⟨⟨_, Tryz.underlying34, by rfl⟩, by kernel_rfl, by kernel_rfl, ⟨_, rfl, by kernel_rfl⟩⟩
/-- api.Bus -/
def ti35 : TI := { d := .struct [(32, 0), (33, 1), (22, 2), (22, 3), (4, 4), (4, 5), (5, 6), (5, 7), (5, 8), (5, 9), (4, 10), (32, 11), (32, 12), (3, 13), (3, 14)], size := 15, bytes := 120, zero := .agg [.one .nilslice, .one (.int .u32 0), .one (.int .u64 0), .one (.int .u64 0), .one (.bool false), .one (.bool false), .one (.int .u8 0), .one (.int .u8 0), .one (.int .u8 0), .one (.int .u8 0), .one (.bool false), .one .nilslice, .one .nilslice, .one (.int .i64 0), .one (.int .i64 0)] }
theorem ti35_ok : TIok Tryz.prog 35 ti35 := ⟨⟨_, Tryz.underlying35, by rfl⟩, by kernel_rfl, by kernel_rfl, ⟨_, rfl, by kernel_rfl⟩⟩
/-- *bus.Bus -/
def ti36 : TI := { d := .ptr 120, size := 1, bytes := 8, zero := .s .nilptr }
theorem ti36_ok : TIok Tryz.prog 36 ti36 := ⟨Tryz.underlying36, by kernel_rfl, by kernel_rfl, ⟨_, rfl, by kernel_rfl⟩⟩
/-- func(api.Bus) (*bus.Bus, bool) -/
def ti38 : TI := { d := .other, size := 1, bytes := 8, zero := .s .nilfunc }
theorem ti38_ok : TIok Tryz.prog 38 ti38 := ⟨⟨_, _, _, Tryz.underlying38⟩, by kernel_rfl, by kernel_rfl, ⟨_, rfl, by kernel_rfl⟩⟩
/-- func() bool -/
def ti39 : TI := { d := .other, size := 1, bytes := 8, zero := .s .nilfunc }
theorem ti39_ok : TIok Tryz.prog 39 ti39 := ⟨⟨_, _, _, Tryz.underlying39⟩, by kernel_rfl, by kernel_rfl, ⟨_, rfl, by kernel_rfl⟩⟩
/-- func(api.Cpu) api.Cpu -/
def ti40 : TI := { d := .other, size := 1, bytes := 8, zero := .s .nilfunc }
theorem ti40_ok : TIok Tryz.prog 40 ti40 := ⟨⟨_, _, _, Tryz.underlying40⟩, by kernel_rfl, by kernel_rfl, ⟨_, rfl, by kernel_rfl⟩⟩
/-- struct { Is bool; Cause uint64; Tval uint64 } -/
def ti41 : TI := { d := .struct [(4, 0), (22, 1), (22, 2)], size := 3, bytes := 24, zero := .agg [.one (.bool false), .one (.int .u64 0), .one (.int .u64 0)] }
theorem ti41_ok : TIok Tryz.prog 41 ti41 := ⟨⟨_, Tryz.underlying41, by rfl⟩, by kernel_rfl, by kernel_rfl, ⟨_, rfl, by kernel_rfl⟩⟩
/-- api.Trap -/
def ti42 : TI := { d := .struct [(4, 0), (22, 1), (22, 2)], size := 3, bytes := 24, zero := .agg [.one (.bool false), .one (.int .u64 0), .one (.int .u64 0)] }
theorem ti42_ok : TIok Tryz.prog 42 ti42 := ⟨⟨_, Tryz.underlying42, by rfl⟩, by kernel_rfl, by kernel_rfl, ⟨_, rfl, by kernel_rfl⟩⟩
/-- struct { Trap api.Trap; Rd int; Val uint64; Mem int; Addr uint64; Size int; Data uint64; WroteCycle bool; WroteCount bool } -/
def ti43 : TI := { d := .struct [(42, 0), (3, 3), (22, 4), (3, 5), (22, 6), (3, 7), (22, 8), (4, 9), (4, 10)], size := 11, bytes := 80, zero := .agg [.one (.bool false), .one (.int .u64 0), .one (.int .u64 0), .one (.int .i64 0), .one (.int .u64 0), .one (.int .i64 0), .one (.int .u64 0), .one (.int .i64 0), .one (.int .u64 0), .one (.bool false), .one (.bool false)] }
theorem ti43_ok : TIok Tryz.prog 43 ti43 := ⟨⟨_, Tryz.underlying43, by rfl⟩, by kernel_rfl, by kernel_rfl, ⟨_, rfl, by kernel_rfl⟩⟩
/-- api.Done -/
def ti44 : TI := { d := .struct [(42, 0), (3, 3), (22, 4), (3, 5), (22, 6), (3, 7), (22, 8), (4, 9), (4, 10)], size := 11, bytes := 80, zero := .agg [.one (.bool false), .one (.int .u64 0), .one (.int .u64 0), .one (.int .i64 0), .one (.int .u64 0), .one (.int .i64 0), .one (.int .u64 0), .one (.int .i64 0), .one (.int .u64 0), .one (.bool false), .one (.bool false)] }
theorem ti44_ok : TIok Tryz.prog 44 ti44 := ⟨⟨_, Tryz.underlying44, by rfl⟩, by kernel_rfl, by kernel_rfl, ⟨_, rfl, by kernel_rfl⟩⟩
/-- func(api.Cpu, *bus.Bus, api.Instr) (api.Cpu, api.Done) -/
def ti46 : TI := { d := .other, size := 1, bytes := 8, zero := .s .nilfunc }
theorem ti46_ok : TIok Tryz.prog 46 ti46 := ⟨⟨_, _, _, Tryz.underlying46⟩, by kernel_rfl, by kernel_rfl, ⟨_, rfl, by kernel_rfl⟩⟩
/-- struct { Op int; Rd int; Rs1 int; Rs2 int; Imm int64; Aq bool; Rl bool; Len int; Raw uint32 } -/
def ti47 : TI := { d := .struct [(3, 0), (3, 1), (3, 2), (3, 3), (2, 4), (4, 5), (4, 6), (3, 7), (33, 8)], size := 9, bytes := 64, zero := .agg [.one (.int .i64 0), .one (.int .i64 0), .one (.int .i64 0), .one (.int .i64 0), .one (.int .i64 0), .one (.bool false), .one (.bool false), .one (.int .i64 0), .one (.int .u32 0)] }
theorem ti47_ok : TIok Tryz.prog 47 ti47 := ⟨⟨_, Tryz.underlying47, by rfl⟩, by kernel_rfl, by kernel_rfl, ⟨_, rfl, by kernel_rfl⟩⟩
/-- api.Instr -/
def ti48 : TI := { d := .struct [(3, 0), (3, 1), (3, 2), (3, 3), (2, 4), (4, 5), (4, 6), (3, 7), (33, 8)], size := 9, bytes := 64, zero := .agg [.one (.int .i64 0), .one (.int .i64 0), .one (.int .i64 0), .one (.int .i64 0), .one (.int .i64 0), .one (.bool false), .one (.bool false), .one (.int .i64 0), .one (.int .u32 0)] }
theorem ti48_ok : TIok Tryz.prog 48 ti48 := ⟨⟨_, Tryz.underlying48, by rfl⟩, by kernel_rfl, by kernel_rfl, ⟨_, rfl, by kernel_rfl⟩⟩
/-- func(api.Cpu, api.Bus, uint64, int, uint64, uint64) bool -/
def ti49 : TI := { d := .other, size := 1, bytes := 8, zero := .s .nilfunc }
theorem ti49_ok : TIok Tryz.prog 49 ti49 := ⟨⟨_, _, _, Tryz.underlying49⟩, by kernel_rfl, by kernel_rfl, ⟨_, rfl, by kernel_rfl⟩⟩
/-- struct { Cpu api.Cpu; Bus api.Bus } -/
def ti50 : TI := { d := .struct [(31, 0), (35, 82)], size := 97, bytes := 664, zero := .agg [.one (.int .u64 0), .ints .u64 32 (fun _ => 0), .one (.int .i64 0), .one (.bool false), .one (.int .u64 0), .one (.int .u64 0), .one (.int .u64 0), .one (.int .u64 0), .one (.int .u64 0), .one (.int .u64 0), .one (.int .u64 0), .one (.int .u64 0), .one (.int .u64 0), .one (.int .u64 0), .one (.int .u64 0), .one (.int .u64 0), .ints .u8 16 (fun _ => 0), .ints .u64 16 (fun _ => 0), .one (.bool false), .one (.int .u64 0), .one (.int .i64 0), .one .nilslice, .one (.int .u32 0), .one (.int .u64 0), .one (.int .u64 0), .one (.bool false), .one (.bool false), .one (.int .u8 0), .one (.int .u8 0), .one (.int .u8 0), .one (.int .u8 0), .one (.bool false), .one .nilslice, .one .nilslice, .one (.int .i64 0), .one (.int .i64 0)] }
theorem ti50_ok : TIok Tryz.prog 50 ti50 := ⟨⟨_, Tryz.underlying50, by rfl⟩, by kernel_rfl, by kernel_rfl, ⟨_, rfl, by kernel_rfl⟩⟩
/-- api.Whole -/
def ti51 : TI := { d := .struct [(31, 0), (35, 82)], size := 97, bytes := 664, zero := .agg [.one (.int .u64 0), .ints .u64 32 (fun _ => 0), .one (.int .i64 0), .one (.bool false), .one (.int .u64 0), .one (.int .u64 0), .one (.int .u64 0), .one (.int .u64 0), .one (.int .u64 0), .one (.int .u64 0), .one (.int .u64 0), .one (.int .u64 0), .one (.int .u64 0), .one (.int .u64 0), .one (.int .u64 0), .one (.int .u64 0), .ints .u8 16 (fun _ => 0), .ints .u64 16 (fun _ => 0), .one (.bool false), .one (.int .u64 0), .one (.int .i64 0), .one .nilslice, .one (.int .u32 0), .one (.int .u64 0), .one (.int .u64 0), .one (.bool false), .one (.bool false), .one (.int .u8 0), .one (.int .u8 0), .one (.int .u8 0), .one (.int .u8 0), .one (.bool false), .one .nilslice, .one .nilslice, .one (.int .i64 0), .one (.int .i64 0)] }
theorem ti51_ok : TIok Tryz.prog 51 ti51 := ⟨⟨_, Tryz.underlying51, by rfl⟩, by kernel_rfl, by kernel_rfl, ⟨_, rfl, by kernel_rfl⟩⟩
/-- api.Errno -/
def ti52 : TI := { d := .int .i64, size := 1, bytes := 8, zero := .s (.int .i64 0) }
theorem ti52_ok : TIok Tryz.prog 52 ti52 := ⟨Tryz.underlying52, by kernel_rfl, by kernel_rfl, ⟨_, rfl, by kernel_rfl⟩⟩
/-- func(api.Whole) ([]uint8, api.Errno) -/
def ti54 : TI := { d := .other, size := 1, bytes := 8, zero := .s .nilfunc }
theorem ti54_ok : TIok Tryz.prog 54 ti54 := ⟨⟨_, _, _, Tryz.underlying54⟩, by kernel_rfl, by kernel_rfl, ⟨_, rfl, by kernel_rfl⟩⟩
/-- func(api.Whole) api.Whole -/
def ti55 : TI := { d := .other, size := 1, bytes := 8, zero := .s .nilfunc }
theorem ti55_ok : TIok Tryz.prog 55 ti55 := ⟨⟨_, _, _, Tryz.underlying55⟩, by kernel_rfl, by kernel_rfl, ⟨_, rfl, by kernel_rfl⟩⟩
/-- func(api.Whole) bool -/
def ti56 : TI := { d := .other, size := 1, bytes := 8, zero := .s .nilfunc }
theorem ti56_ok : TIok Tryz.prog 56 ti56 := ⟨⟨_, _, _, Tryz.underlying56⟩, by kernel_rfl, by kernel_rfl, ⟨_, rfl, by kernel_rfl⟩⟩
/-- func(api.Errno) int -/
def ti57 : TI := { d := .other, size := 1, bytes := 8, zero := .s .nilfunc }
theorem ti57_ok : TIok Tryz.prog 57 ti57 := ⟨⟨_, _, _, Tryz.underlying57⟩, by kernel_rfl, by kernel_rfl, ⟨_, rfl, by kernel_rfl⟩⟩
/-- func(api.Whole) api.Errno -/
def ti58 : TI := { d := .other, size := 1, bytes := 8, zero := .s .nilfunc }
theorem ti58_ok : TIok Tryz.prog 58 ti58 := ⟨⟨_, _, _, Tryz.underlying58⟩, by kernel_rfl, by kernel_rfl, ⟨_, rfl, by kernel_rfl⟩⟩
/-- func([]uint8) (api.Whole, api.Errno) -/
def ti60 : TI := { d := .other, size := 1, bytes := 8, zero := .s .nilfunc }
theorem ti60_ok : TIok Tryz.prog 60 ti60 := ⟨⟨_, _, _, Tryz.underlying60⟩, by kernel_rfl, by kernel_rfl, ⟨_, rfl, by kernel_rfl⟩⟩
/-- func(api.Bus, api.Bus) bool -/
def ti61 : TI := { d := .other, size := 1, bytes := 8, zero := .s .nilfunc }
theorem ti61_ok : TIok Tryz.prog 61 ti61 := ⟨⟨_, _, _, Tryz.underlying61⟩, by kernel_rfl, by kernel_rfl, ⟨_, rfl, by kernel_rfl⟩⟩
/-- func(api.Whole, api.Whole) bool -/
def ti62 : TI := { d := .other, size := 1, bytes := 8, zero := .s .nilfunc }
theorem ti62_ok : TIok Tryz.prog 62 ti62 := ⟨⟨_, _, _, Tryz.underlying62⟩, by kernel_rfl, by kernel_rfl, ⟨_, rfl, by kernel_rfl⟩⟩
/-- func([]uint8, []uint8) bool -/
def ti63 : TI := { d := .other, size := 1, bytes := 8, zero := .s .nilfunc }
theorem ti63_ok : TIok Tryz.prog 63 ti63 := ⟨⟨_, _, _, Tryz.underlying63⟩, by kernel_rfl, by kernel_rfl, ⟨_, rfl, by kernel_rfl⟩⟩
/-- func([]uint8) bool -/
def ti64 : TI := { d := .other, size := 1, bytes := 8, zero := .s .nilfunc }
theorem ti64_ok : TIok Tryz.prog 64 ti64 := ⟨⟨_, _, _, Tryz.underlying64⟩, by kernel_rfl, by kernel_rfl, ⟨_, rfl, by kernel_rfl⟩⟩
/-- uint -/
def ti65 : TI := { d := .int .u64, size := 1, bytes := 8, zero := .s (.int .u64 0) }
theorem ti65_ok : TIok Tryz.prog 65 ti65 := ⟨Tryz.underlying65, by kernel_rfl, by kernel_rfl, ⟨_, rfl, by kernel_rfl⟩⟩
/-- func(api.Whole, int, uint32) bool -/
def ti66 : TI := { d := .other, size := 1, bytes := 8, zero := .s .nilfunc }
theorem ti66_ok : TIok Tryz.prog 66 ti66 := ⟨⟨_, _, _, Tryz.underlying66⟩, by kernel_rfl, by kernel_rfl, ⟨_, rfl, by kernel_rfl⟩⟩
/-- [][]uint8 -/
def ti67 : TI := { d := .slice 32, size := 1, bytes := 24, zero := .s .nilslice }
theorem ti67_ok : TIok Tryz.prog 67 ti67 := ⟨Tryz.underlying67, by kernel_rfl, by kernel_rfl, ⟨_, rfl, by kernel_rfl⟩⟩
/-- func(api.Bus) bool -/
def ti68 : TI := { d := .other, size := 1, bytes := 8, zero := .s .nilfunc }
theorem ti68_ok : TIok Tryz.prog 68 ti68 := ⟨⟨_, _, _, Tryz.underlying68⟩, by kernel_rfl, by kernel_rfl, ⟨_, rfl, by kernel_rfl⟩⟩
/-- func(api.Bus) (*bus.Bus, api.Errno) -/
def ti70 : TI := { d := .other, size := 1, bytes := 8, zero := .s .nilfunc }
theorem ti70_ok : TIok Tryz.prog 70 ti70 := ⟨⟨_, _, _, Tryz.underlying70⟩, by kernel_rfl, by kernel_rfl, ⟨_, rfl, by kernel_rfl⟩⟩
/-- func(api.Bus) api.Bus -/
def ti71 : TI := { d := .other, size := 1, bytes := 8, zero := .s .nilfunc }
theorem ti71_ok : TIok Tryz.prog 71 ti71 := ⟨⟨_, _, _, Tryz.underlying71⟩, by kernel_rfl, by kernel_rfl, ⟨_, rfl, by kernel_rfl⟩⟩
/-- func(int) (*bus.Bus, api.Errno) -/
def ti72 : TI := { d := .other, size := 1, bytes := 8, zero := .s .nilfunc }
theorem ti72_ok : TIok Tryz.prog 72 ti72 := ⟨⟨_, _, _, Tryz.underlying72⟩, by kernel_rfl, by kernel_rfl, ⟨_, rfl, by kernel_rfl⟩⟩
/-- func(api.Pmp) api.Pmp -/
def ti73 : TI := { d := .other, size := 1, bytes := 8, zero := .s .nilfunc }
theorem ti73_ok : TIok Tryz.prog 73 ti73 := ⟨⟨_, _, _, Tryz.underlying73⟩, by kernel_rfl, by kernel_rfl, ⟨_, rfl, by kernel_rfl⟩⟩
/-- func(api.Res) api.Res -/
def ti74 : TI := { d := .other, size := 1, bytes := 8, zero := .s .nilfunc }
theorem ti74_ok : TIok Tryz.prog 74 ti74 := ⟨⟨_, _, _, Tryz.underlying74⟩, by kernel_rfl, by kernel_rfl, ⟨_, rfl, by kernel_rfl⟩⟩
/-- struct { trap api.Trap } -/
def ti75 : TI := { d := .struct [(42, 0)], size := 3, bytes := 24, zero := .agg [.one (.bool false), .one (.int .u64 0), .one (.int .u64 0)] }
theorem ti75_ok : TIok Tryz.prog 75 ti75 := ⟨⟨_, Tryz.underlying75, by rfl⟩, by kernel_rfl, by kernel_rfl, ⟨_, rfl, by kernel_rfl⟩⟩
/-- exec.fault -/
def ti76 : TI := { d := .struct [(42, 0)], size := 3, bytes := 24, zero := .agg [.one (.bool false), .one (.int .u64 0), .one (.int .u64 0)] }
theorem ti76_ok : TIok Tryz.prog 76 ti76 := ⟨⟨_, Tryz.underlying76, by rfl⟩, by kernel_rfl, by kernel_rfl, ⟨_, rfl, by kernel_rfl⟩⟩
/-- *exec.turn -/
def ti78 : TI := { d := .ptr 80, size := 1, bytes := 8, zero := .s .nilptr }
theorem ti78_ok : TIok Tryz.prog 78 ti78 := ⟨Tryz.underlying78, by kernel_rfl, by kernel_rfl, ⟨_, rfl, by kernel_rfl⟩⟩
/-- struct { c api.Cpu; b *bus.Bus; in api.Instr; next uint64; done api.Done } -/
def ti79 : TI := { d := .struct [(31, 0), (36, 82), (48, 83), (22, 92), (44, 93)], size := 104, bytes := 704, zero := .agg [.one (.int .u64 0), .ints .u64 32 (fun _ => 0), .one (.int .i64 0), .one (.bool false), .one (.int .u64 0), .one (.int .u64 0), .one (.int .u64 0), .one (.int .u64 0), .one (.int .u64 0), .one (.int .u64 0), .one (.int .u64 0), .one (.int .u64 0), .one (.int .u64 0), .one (.int .u64 0), .one (.int .u64 0), .one (.int .u64 0), .ints .u8 16 (fun _ => 0), .ints .u64 16 (fun _ => 0), .one (.bool false), .one (.int .u64 0), .one (.int .i64 0), .one .nilptr, .one (.int .i64 0), .one (.int .i64 0), .one (.int .i64 0), .one (.int .i64 0), .one (.int .i64 0), .one (.bool false), .one (.bool false), .one (.int .i64 0), .one (.int .u32 0), .one (.int .u64 0), .one (.bool false), .one (.int .u64 0), .one (.int .u64 0), .one (.int .i64 0), .one (.int .u64 0), .one (.int .i64 0), .one (.int .u64 0), .one (.int .i64 0), .one (.int .u64 0), .one (.bool false), .one (.bool false)] }
theorem ti79_ok : TIok Tryz.prog 79 ti79 := ⟨⟨_, Tryz.underlying79, by rfl⟩, by kernel_rfl, by kernel_rfl, ⟨_, rfl, by kernel_rfl⟩⟩
/-- exec.turn -/
def ti80 : TI := { d := .struct [(31, 0), (36, 82), (48, 83), (22, 92), (44, 93)], size := 104, bytes := 704, zero := .agg [.one (.int .u64 0), .ints .u64 32 (fun _ => 0), .one (.int .i64 0), .one (.bool false), .one (.int .u64 0), .one (.int .u64 0), .one (.int .u64 0), .one (.int .u64 0), .one (.int .u64 0), .one (.int .u64 0), .one (.int .u64 0), .one (.int .u64 0), .one (.int .u64 0), .one (.int .u64 0), .one (.int .u64 0), .one (.int .u64 0), .ints .u8 16 (fun _ => 0), .ints .u64 16 (fun _ => 0), .one (.bool false), .one (.int .u64 0), .one (.int .i64 0), .one .nilptr, .one (.int .i64 0), .one (.int .i64 0), .one (.int .i64 0), .one (.int .i64 0), .one (.int .i64 0), .one (.bool false), .one (.bool false), .one (.int .i64 0), .one (.int .u32 0), .one (.int .u64 0), .one (.bool false), .one (.int .u64 0), .one (.int .u64 0), .one (.int .i64 0), .one (.int .u64 0), .one (.int .i64 0), .one (.int .u64 0), .one (.int .i64 0), .one (.int .u64 0), .one (.bool false), .one (.bool false)] }
theorem ti80_ok : TIok Tryz.prog 80 ti80 := ⟨⟨_, Tryz.underlying80, by rfl⟩, by kernel_rfl, by kernel_rfl, ⟨_, rfl, by kernel_rfl⟩⟩
/-- func(api.Instr) bool -/
def ti81 : TI := { d := .other, size := 1, bytes := 8, zero := .s .nilfunc }
theorem ti81_ok : TIok Tryz.prog 81 ti81 := ⟨⟨_, _, _, Tryz.underlying81⟩, by kernel_rfl, by kernel_rfl, ⟨_, rfl, by kernel_rfl⟩⟩
/-- func(*exec.turn) -/
def ti82 : TI := { d := .other, size := 1, bytes := 8, zero := .s .nilfunc }
theorem ti82_ok : TIok Tryz.prog 82 ti82 := ⟨⟨_, _, _, Tryz.underlying82⟩, by kernel_rfl, by kernel_rfl, ⟨_, rfl, by kernel_rfl⟩⟩
/-- [97]func(*exec.turn) -/
def ti83 : TI := { d := .array 97 82, size := 97, bytes := 776, zero := .agg [.one .nilfunc, .one .nilfunc, .one .nilfunc, .one .nilfunc, .one .nilfunc, .one .nilfunc, .one .nilfunc, .one .nilfunc, .one .nilfunc, .one .nilfunc, .one .nilfunc, .one .nilfunc, .one .nilfunc, .one .nilfunc, .one .nilfunc, .one .nilfunc, .one .nilfunc, .one .nilfunc, .one .nilfunc, .one .nilfunc, .one .nilfunc, .one .nilfunc, .one .nilfunc, .one .nilfunc, .one .nilfunc, .one .nilfunc, .one .nilfunc, .one .nilfunc, .one .nilfunc, .one .nilfunc, .one .nilfunc, .one .nilfunc, .one .nilfunc, .one .nilfunc, .one .nilfunc, .one .nilfunc, .one .nilfunc, .one .nilfunc, .one .nilfunc, .one .nilfunc, .one .nilfunc, .one .nilfunc, .one .nilfunc, .one .nilfunc, .one .nilfunc, .one .nilfunc, .one .nilfunc, .one .nilfunc, .one .nilfunc, .one .nilfunc, .one .nilfunc, .one .nilfunc, .one .nilfunc, .one .nilfunc, .one .nilfunc, .one .nilfunc, .one .nilfunc, .one .nilfunc, .one .nilfunc, .one .nilfunc, .one .nilfunc, .one .nilfunc, .one .nilfunc, .one .nilfunc, .one .nilfunc, .one .nilfunc, .one .nilfunc, .one .nilfunc, .one .nilfunc, .one .nilfunc, .one .nilfunc, .one .nilfunc, .one .nilfunc, .one .nilfunc, .one .nilfunc, .one .nilfunc, .one .nilfunc, .one .nilfunc, .one .nilfunc, .one .nilfunc, .one .nilfunc, .one .nilfunc, .one .nilfunc, .one .nilfunc, .one .nilfunc, .one .nilfunc, .one .nilfunc, .one .nilfunc, .one .nilfunc, .one .nilfunc, .one .nilfunc, .one .nilfunc, .one .nilfunc, .one .nilfunc, .one .nilfunc, .one .nilfunc, .one .nilfunc] }
theorem ti83_ok : TIok Tryz.prog 83 ti83 := ⟨Tryz.underlying83, by kernel_rfl, by kernel_rfl, ⟨_, rfl, by kernel_rfl⟩⟩
/-- func() [97]func(*exec.turn) -/
def ti84 : TI := { d := .other, size := 1, bytes := 8, zero := .s .nilfunc }
theorem ti84_ok : TIok Tryz.prog 84 ti84 := ⟨⟨_, _, _, Tryz.underlying84⟩, by kernel_rfl, by kernel_rfl, ⟨_, rfl, by kernel_rfl⟩⟩
/-- func() api.Whole -/
def ti85 : TI := { d := .other, size := 1, bytes := 8, zero := .s .nilfunc }
theorem ti85_ok : TIok Tryz.prog 85 ti85 := ⟨⟨_, _, _, Tryz.underlying85⟩, by kernel_rfl, by kernel_rfl, ⟨_, rfl, by kernel_rfl⟩⟩
/-- struct { Step int; Kind int; Mode int; Pc uint64; Raw uint32; Len int; Cause uint64; Tval uint64; Rd int; Val uint64; Mem int; Addr uint64; Size int; Data uint64; Next uint64; NextMode int } -/
def ti86 : TI := { d := .struct [(3, 0), (3, 1), (3, 2), (22, 3), (33, 4), (3, 5), (22, 6), (22, 7), (3, 8), (22, 9), (3, 10), (22, 11), (3, 12), (22, 13), (22, 14), (3, 15)], size := 16, bytes := 128, zero := .agg [.one (.int .i64 0), .one (.int .i64 0), .one (.int .i64 0), .one (.int .u64 0), .one (.int .u32 0), .one (.int .i64 0), .one (.int .u64 0), .one (.int .u64 0), .one (.int .i64 0), .one (.int .u64 0), .one (.int .i64 0), .one (.int .u64 0), .one (.int .i64 0), .one (.int .u64 0), .one (.int .u64 0), .one (.int .i64 0)] }
theorem ti86_ok : TIok Tryz.prog 86 ti86 := ⟨⟨_, Tryz.underlying86, by rfl⟩, by kernel_rfl, by kernel_rfl, ⟨_, rfl, by kernel_rfl⟩⟩
/-- api.Row -/
def ti87 : TI := { d := .struct [(3, 0), (3, 1), (3, 2), (22, 3), (33, 4), (3, 5), (22, 6), (22, 7), (3, 8), (22, 9), (3, 10), (22, 11), (3, 12), (22, 13), (22, 14), (3, 15)], size := 16, bytes := 128, zero := .agg [.one (.int .i64 0), .one (.int .i64 0), .one (.int .i64 0), .one (.int .u64 0), .one (.int .u32 0), .one (.int .i64 0), .one (.int .u64 0), .one (.int .u64 0), .one (.int .i64 0), .one (.int .u64 0), .one (.int .i64 0), .one (.int .u64 0), .one (.int .i64 0), .one (.int .u64 0), .one (.int .u64 0), .one (.int .i64 0)] }
theorem ti87_ok : TIok Tryz.prog 87 ti87 := ⟨⟨_, Tryz.underlying87, by rfl⟩, by kernel_rfl, by kernel_rfl, ⟨_, rfl, by kernel_rfl⟩⟩
/-- func(api.Cpu, *bus.Bus, api.World) (api.Cpu, api.Row) -/
def ti89 : TI := { d := .other, size := 1, bytes := 8, zero := .s .nilfunc }
theorem ti89_ok : TIok Tryz.prog 89 ti89 := ⟨⟨_, _, _, Tryz.underlying89⟩, by kernel_rfl, by kernel_rfl, ⟨_, rfl, by kernel_rfl⟩⟩
/-- struct { Tick bool; Ext bool; Soft bool; Input []uint8 } -/
def ti90 : TI := { d := .struct [(4, 0), (4, 1), (4, 2), (32, 3)], size := 4, bytes := 32, zero := .agg [.one (.bool false), .one (.bool false), .one (.bool false), .one .nilslice] }
theorem ti90_ok : TIok Tryz.prog 90 ti90 := ⟨⟨_, Tryz.underlying90, by rfl⟩, by kernel_rfl, by kernel_rfl, ⟨_, rfl, by kernel_rfl⟩⟩
/-- api.World -/
def ti91 : TI := { d := .struct [(4, 0), (4, 1), (4, 2), (32, 3)], size := 4, bytes := 32, zero := .agg [.one (.bool false), .one (.bool false), .one (.bool false), .one .nilslice] }
theorem ti91_ok : TIok Tryz.prog 91 ti91 := ⟨⟨_, Tryz.underlying91, by rfl⟩, by kernel_rfl, by kernel_rfl, ⟨_, rfl, by kernel_rfl⟩⟩
/-- *save.writer -/
def ti92 : TI := { d := .ptr 94, size := 1, bytes := 8, zero := .s .nilptr }
theorem ti92_ok : TIok Tryz.prog 92 ti92 := ⟨Tryz.underlying92, by kernel_rfl, by kernel_rfl, ⟨_, rfl, by kernel_rfl⟩⟩
/-- struct { b []uint8 } -/
def ti93 : TI := { d := .struct [(32, 0)], size := 1, bytes := 24, zero := .agg [.one .nilslice] }
theorem ti93_ok : TIok Tryz.prog 93 ti93 := ⟨⟨_, Tryz.underlying93, by rfl⟩, by kernel_rfl, by kernel_rfl, ⟨_, rfl, by kernel_rfl⟩⟩
/-- save.writer -/
def ti94 : TI := { d := .struct [(32, 0)], size := 1, bytes := 24, zero := .agg [.one .nilslice] }
theorem ti94_ok : TIok Tryz.prog 94 ti94 := ⟨⟨_, Tryz.underlying94, by rfl⟩, by kernel_rfl, by kernel_rfl, ⟨_, rfl, by kernel_rfl⟩⟩
/-- func([]uint8) -/
def ti95 : TI := { d := .other, size := 1, bytes := 8, zero := .s .nilfunc }
theorem ti95_ok : TIok Tryz.prog 95 ti95 := ⟨⟨_, _, _, Tryz.underlying95⟩, by kernel_rfl, by kernel_rfl, ⟨_, rfl, by kernel_rfl⟩⟩
/-- func(save.line, *api.Whole) -/
def ti96 : TI := { d := .other, size := 1, bytes := 8, zero := .s .nilfunc }
theorem ti96_ok : TIok Tryz.prog 96 ti96 := ⟨⟨_, _, _, Tryz.underlying96⟩, by kernel_rfl, by kernel_rfl, ⟨_, rfl, by kernel_rfl⟩⟩
/-- *api.Whole -/
def ti97 : TI := { d := .ptr 51, size := 1, bytes := 8, zero := .s .nilptr }
theorem ti97_ok : TIok Tryz.prog 97 ti97 := ⟨Tryz.underlying97, by kernel_rfl, by kernel_rfl, ⟨_, rfl, by kernel_rfl⟩⟩
/-- func(uint64, int) -/
def ti98 : TI := { d := .other, size := 1, bytes := 8, zero := .s .nilfunc }
theorem ti98_ok : TIok Tryz.prog 98 ti98 := ⟨⟨_, _, _, Tryz.underlying98⟩, by kernel_rfl, by kernel_rfl, ⟨_, rfl, by kernel_rfl⟩⟩
/-- func([]uint8) uint32 -/
def ti99 : TI := { d := .other, size := 1, bytes := 8, zero := .s .nilfunc }
theorem ti99_ok : TIok Tryz.prog 99 ti99 := ⟨⟨_, _, _, Tryz.underlying99⟩, by kernel_rfl, by kernel_rfl, ⟨_, rfl, by kernel_rfl⟩⟩
/-- *save.reader -/
def ti100 : TI := { d := .ptr 102, size := 1, bytes := 8, zero := .s .nilptr }
theorem ti100_ok : TIok Tryz.prog 100 ti100 := ⟨Tryz.underlying100, by kernel_rfl, by kernel_rfl, ⟨_, rfl, by kernel_rfl⟩⟩
/-- struct { b []uint8; bad bool } -/
def ti101 : TI := { d := .struct [(32, 0), (4, 1)], size := 2, bytes := 32, zero := .agg [.one .nilslice, .one (.bool false)] }
theorem ti101_ok : TIok Tryz.prog 101 ti101 := ⟨⟨_, Tryz.underlying101, by rfl⟩, by kernel_rfl, by kernel_rfl, ⟨_, rfl, by kernel_rfl⟩⟩
/-- save.reader -/
def ti102 : TI := { d := .struct [(32, 0), (4, 1)], size := 2, bytes := 32, zero := .agg [.one .nilslice, .one (.bool false)] }
theorem ti102_ok : TIok Tryz.prog 102 ti102 := ⟨⟨_, Tryz.underlying102, by rfl⟩, by kernel_rfl, by kernel_rfl, ⟨_, rfl, by kernel_rfl⟩⟩
/-- func(int) uint64 -/
def ti103 : TI := { d := .other, size := 1, bytes := 8, zero := .s .nilfunc }
theorem ti103_ok : TIok Tryz.prog 103 ti103 := ⟨⟨_, _, _, Tryz.underlying103⟩, by kernel_rfl, by kernel_rfl, ⟨_, rfl, by kernel_rfl⟩⟩
/-- func() []uint8 -/
def ti104 : TI := { d := .other, size := 1, bytes := 8, zero := .s .nilfunc }
theorem ti104_ok : TIok Tryz.prog 104 ti104 := ⟨⟨_, _, _, Tryz.underlying104⟩, by kernel_rfl, by kernel_rfl, ⟨_, rfl, by kernel_rfl⟩⟩
/-- struct { bytes []uint8 } -/
def ti105 : TI := { d := .struct [(32, 0)], size := 1, bytes := 24, zero := .agg [.one .nilslice] }
theorem ti105_ok : TIok Tryz.prog 105 ti105 := ⟨⟨_, Tryz.underlying105, by rfl⟩, by kernel_rfl, by kernel_rfl, ⟨_, rfl, by kernel_rfl⟩⟩
/-- bus.ram -/
def ti106 : TI := { d := .struct [(32, 0)], size := 1, bytes := 24, zero := .agg [.one .nilslice] }
theorem ti106_ok : TIok Tryz.prog 106 ti106 := ⟨⟨_, Tryz.underlying106, by rfl⟩, by kernel_rfl, by kernel_rfl, ⟨_, rfl, by kernel_rfl⟩⟩
/-- struct { off int; code int } -/
def ti107 : TI := { d := .struct [(3, 0), (3, 1)], size := 2, bytes := 16, zero := .agg [.one (.int .i64 0), .one (.int .i64 0)] }
theorem ti107_ok : TIok Tryz.prog 107 ti107 := ⟨⟨_, Tryz.underlying107, by rfl⟩, by kernel_rfl, by kernel_rfl, ⟨_, rfl, by kernel_rfl⟩⟩
/-- bus.finisher -/
def ti108 : TI := { d := .struct [(3, 0), (3, 1)], size := 2, bytes := 16, zero := .agg [.one (.int .i64 0), .one (.int .i64 0)] }
theorem ti108_ok : TIok Tryz.prog 108 ti108 := ⟨⟨_, Tryz.underlying108, by rfl⟩, by kernel_rfl, by kernel_rfl, ⟨_, rfl, by kernel_rfl⟩⟩
/-- struct { msip uint32; cmp uint64; now uint64 } -/
def ti109 : TI := { d := .struct [(33, 0), (22, 1), (22, 2)], size := 3, bytes := 24, zero := .agg [.one (.int .u32 0), .one (.int .u64 0), .one (.int .u64 0)] }
theorem ti109_ok : TIok Tryz.prog 109 ti109 := ⟨⟨_, Tryz.underlying109, by rfl⟩, by kernel_rfl, by kernel_rfl, ⟨_, rfl, by kernel_rfl⟩⟩
/-- bus.clint -/
def ti110 : TI := { d := .struct [(33, 0), (22, 1), (22, 2)], size := 3, bytes := 24, zero := .agg [.one (.int .u32 0), .one (.int .u64 0), .one (.int .u64 0)] }
theorem ti110_ok : TIok Tryz.prog 110 ti110 := ⟨⟨_, Tryz.underlying110, by rfl⟩, by kernel_rfl, by kernel_rfl, ⟨_, rfl, by kernel_rfl⟩⟩
/-- struct { state int32; sema uint32 } -/
def ti113 : TI := { d := .struct [(21, 0), (33, 1)], size := 2, bytes := 8, zero := .agg [.one (.int .i32 0), .one (.int .u32 0)] }
theorem ti113_ok : TIok Tryz.prog 113 ti113 := ⟨⟨_, Tryz.underlying113, by rfl⟩, by kernel_rfl, by kernel_rfl, ⟨_, rfl, by kernel_rfl⟩⟩
/-- sync.Mutex -/
def ti114 : TI := { d := .struct [(21, 0), (33, 1)], size := 2, bytes := 8, zero := .agg [.one (.int .i32 0), .one (.int .u32 0)] }
theorem ti114_ok : TIok Tryz.prog 114 ti114 := ⟨⟨_, Tryz.underlying114, by rfl⟩, by kernel_rfl, by kernel_rfl, ⟨_, rfl, by kernel_rfl⟩⟩
/-- struct { _ sync.noCopy; mu sync.Mutex } -/
def ti115 : TI := { d := .struct [(112, 0), (114, 0)], size := 2, bytes := 8, zero := .agg [.one (.int .i32 0), .one (.int .u32 0)] }
theorem ti115_ok : TIok Tryz.prog 115 ti115 := ⟨⟨_, Tryz.underlying115, by rfl⟩, by kernel_rfl, by kernel_rfl, ⟨_, rfl, by kernel_rfl⟩⟩
/-- sync.Mutex -/
def ti116 : TI := { d := .struct [(112, 0), (114, 0)], size := 2, bytes := 8, zero := .agg [.one (.int .i32 0), .one (.int .u32 0)] }
theorem ti116_ok : TIok Tryz.prog 116 ti116 := ⟨⟨_, Tryz.underlying116, by rfl⟩, by kernel_rfl, by kernel_rfl, ⟨_, rfl, by kernel_rfl⟩⟩
/-- struct { lock sync.Mutex; input []uint8; output []uint8; ier uint8; lcr uint8; mcr uint8; scratch uint8; overrun bool } -/
def ti117 : TI := { d := .struct [(116, 0), (32, 2), (32, 3), (5, 4), (5, 5), (5, 6), (5, 7), (4, 8)], size := 9, bytes := 64, zero := .agg [.one (.int .i32 0), .one (.int .u32 0), .one .nilslice, .one .nilslice, .one (.int .u8 0), .one (.int .u8 0), .one (.int .u8 0), .one (.int .u8 0), .one (.bool false)] }
theorem ti117_ok : TIok Tryz.prog 117 ti117 := ⟨⟨_, Tryz.underlying117, by rfl⟩, by kernel_rfl, by kernel_rfl, ⟨_, rfl, by kernel_rfl⟩⟩
/-- bus.uart -/
def ti118 : TI := { d := .struct [(116, 0), (32, 2), (32, 3), (5, 4), (5, 5), (5, 6), (5, 7), (4, 8)], size := 9, bytes := 64, zero := .agg [.one (.int .i32 0), .one (.int .u32 0), .one .nilslice, .one .nilslice, .one (.int .u8 0), .one (.int .u8 0), .one (.int .u8 0), .one (.int .u8 0), .one (.bool false)] }
theorem ti118_ok : TIok Tryz.prog 118 ti118 := ⟨⟨_, Tryz.underlying118, by rfl⟩, by kernel_rfl, by kernel_rfl, ⟨_, rfl, by kernel_rfl⟩⟩
/-- struct { ram bus.ram; power bus.finisher; timer bus.clint; line bus.uart; ext bool; soft bool } -/
def ti119 : TI := { d := .struct [(106, 0), (108, 1), (110, 3), (118, 6), (4, 15), (4, 16)], size := 17, bytes := 136, zero := .agg [.one .nilslice, .one (.int .i64 0), .one (.int .i64 0), .one (.int .u32 0), .one (.int .u64 0), .one (.int .u64 0), .one (.int .i32 0), .one (.int .u32 0), .one .nilslice, .one .nilslice, .one (.int .u8 0), .one (.int .u8 0), .one (.int .u8 0), .one (.int .u8 0), .one (.bool false), .one (.bool false), .one (.bool false)] }
theorem ti119_ok : TIok Tryz.prog 119 ti119 := ⟨⟨_, Tryz.underlying119, by rfl⟩, by kernel_rfl, by kernel_rfl, ⟨_, rfl, by kernel_rfl⟩⟩
/-- bus.Bus -/
def ti120 : TI := { d := .struct [(106, 0), (108, 1), (110, 3), (118, 6), (4, 15), (4, 16)], size := 17, bytes := 136, zero := .agg [.one .nilslice, .one (.int .i64 0), .one (.int .i64 0), .one (.int .u32 0), .one (.int .u64 0), .one (.int .u64 0), .one (.int .i32 0), .one (.int .u32 0), .one .nilslice, .one .nilslice, .one (.int .u8 0), .one (.int .u8 0), .one (.int .u8 0), .one (.int .u8 0), .one (.bool false), .one (.bool false), .one (.bool false)] }
theorem ti120_ok : TIok Tryz.prog 120 ti120 := ⟨⟨_, Tryz.underlying120, by rfl⟩, by kernel_rfl, by kernel_rfl, ⟨_, rfl, by kernel_rfl⟩⟩
/-- func([]uint8) []uint8 -/
def ti121 : TI := { d := .other, size := 1, bytes := 8, zero := .s .nilfunc }
theorem ti121_ok : TIok Tryz.prog 121 ti121 := ⟨⟨_, _, _, Tryz.underlying121⟩, by kernel_rfl, by kernel_rfl, ⟨_, rfl, by kernel_rfl⟩⟩
/-- func(api.Bus) -/
def ti122 : TI := { d := .other, size := 1, bytes := 8, zero := .s .nilfunc }
theorem ti122_ok : TIok Tryz.prog 122 ti122 := ⟨⟨_, _, _, Tryz.underlying122⟩, by kernel_rfl, by kernel_rfl, ⟨_, rfl, by kernel_rfl⟩⟩
/-- func(int) bool -/
def ti123 : TI := { d := .other, size := 1, bytes := 8, zero := .s .nilfunc }
theorem ti123_ok : TIok Tryz.prog 123 ti123 := ⟨⟨_, _, _, Tryz.underlying123⟩, by kernel_rfl, by kernel_rfl, ⟨_, rfl, by kernel_rfl⟩⟩
/-- func(uint8) uint8 -/
def ti124 : TI := { d := .other, size := 1, bytes := 8, zero := .s .nilfunc }
theorem ti124_ok : TIok Tryz.prog 124 ti124 := ⟨⟨_, _, _, Tryz.underlying124⟩, by kernel_rfl, by kernel_rfl, ⟨_, rfl, by kernel_rfl⟩⟩
/-- func(uint64, uint64) -/
def ti125 : TI := { d := .other, size := 1, bytes := 8, zero := .s .nilfunc }
theorem ti125_ok : TIok Tryz.prog 125 ti125 := ⟨⟨_, _, _, Tryz.underlying125⟩, by kernel_rfl, by kernel_rfl, ⟨_, rfl, by kernel_rfl⟩⟩
/-- *hart.turn -/
def ti126 : TI := { d := .ptr 128, size := 1, bytes := 8, zero := .s .nilptr }
theorem ti126_ok : TIok Tryz.prog 126 ti126 := ⟨Tryz.underlying126, by kernel_rfl, by kernel_rfl, ⟨_, rfl, by kernel_rfl⟩⟩
/-- struct { api.Cpu; *bus.Bus; row api.Row; done api.Done } -/
def ti127 : TI := { d := .struct [(31, 0), (36, 82), (87, 83), (44, 99)], size := 110, bytes := 760, zero := .agg [.one (.int .u64 0), .ints .u64 32 (fun _ => 0), .one (.int .i64 0), .one (.bool false), .one (.int .u64 0), .one (.int .u64 0), .one (.int .u64 0), .one (.int .u64 0), .one (.int .u64 0), .one (.int .u64 0), .one (.int .u64 0), .one (.int .u64 0), .one (.int .u64 0), .one (.int .u64 0), .one (.int .u64 0), .one (.int .u64 0), .ints .u8 16 (fun _ => 0), .ints .u64 16 (fun _ => 0), .one (.bool false), .one (.int .u64 0), .one (.int .i64 0), .one .nilptr, .one (.int .i64 0), .one (.int .i64 0), .one (.int .i64 0), .one (.int .u64 0), .one (.int .u32 0), .one (.int .i64 0), .one (.int .u64 0), .one (.int .u64 0), .one (.int .i64 0), .one (.int .u64 0), .one (.int .i64 0), .one (.int .u64 0), .one (.int .i64 0), .one (.int .u64 0), .one (.int .u64 0), .one (.int .i64 0), .one (.bool false), .one (.int .u64 0), .one (.int .u64 0), .one (.int .i64 0), .one (.int .u64 0), .one (.int .i64 0), .one (.int .u64 0), .one (.int .i64 0), .one (.int .u64 0), .one (.bool false), .one (.bool false)] }
theorem ti127_ok : TIok Tryz.prog 127 ti127 := ⟨⟨_, Tryz.underlying127, by rfl⟩, by kernel_rfl, by kernel_rfl, ⟨_, rfl, by kernel_rfl⟩⟩
/-- hart.turn -/
def ti128 : TI := { d := .struct [(31, 0), (36, 82), (87, 83), (44, 99)], size := 110, bytes := 760, zero := .agg [.one (.int .u64 0), .ints .u64 32 (fun _ => 0), .one (.int .i64 0), .one (.bool false), .one (.int .u64 0), .one (.int .u64 0), .one (.int .u64 0), .one (.int .u64 0), .one (.int .u64 0), .one (.int .u64 0), .one (.int .u64 0), .one (.int .u64 0), .one (.int .u64 0), .one (.int .u64 0), .one (.int .u64 0), .one (.int .u64 0), .ints .u8 16 (fun _ => 0), .ints .u64 16 (fun _ => 0), .one (.bool false), .one (.int .u64 0), .one (.int .i64 0), .one .nilptr, .one (.int .i64 0), .one (.int .i64 0), .one (.int .i64 0), .one (.int .u64 0), .one (.int .u32 0), .one (.int .i64 0), .one (.int .u64 0), .one (.int .u64 0), .one (.int .i64 0), .one (.int .u64 0), .one (.int .i64 0), .one (.int .u64 0), .one (.int .i64 0), .one (.int .u64 0), .one (.int .u64 0), .one (.int .i64 0), .one (.bool false), .one (.int .u64 0), .one (.int .u64 0), .one (.int .i64 0), .one (.int .u64 0), .one (.int .i64 0), .one (.int .u64 0), .one (.int .i64 0), .one (.int .u64 0), .one (.bool false), .one (.bool false)] }
theorem ti128_ok : TIok Tryz.prog 128 ti128 := ⟨⟨_, Tryz.underlying128, by rfl⟩, by kernel_rfl, by kernel_rfl, ⟨_, rfl, by kernel_rfl⟩⟩
/-- func() (int, int) -/
def ti130 : TI := { d := .other, size := 1, bytes := 8, zero := .s .nilfunc }
theorem ti130_ok : TIok Tryz.prog 130 ti130 := ⟨⟨_, _, _, Tryz.underlying130⟩, by kernel_rfl, by kernel_rfl, ⟨_, rfl, by kernel_rfl⟩⟩
/-- func() (api.Cpu, api.Row) -/
def ti131 : TI := { d := .other, size := 1, bytes := 8, zero := .s .nilfunc }
theorem ti131_ok : TIok Tryz.prog 131 ti131 := ⟨⟨_, _, _, Tryz.underlying131⟩, by kernel_rfl, by kernel_rfl, ⟨_, rfl, by kernel_rfl⟩⟩
/-- func(api.World) -/
def ti132 : TI := { d := .other, size := 1, bytes := 8, zero := .s .nilfunc }
theorem ti132_ok : TIok Tryz.prog 132 ti132 := ⟨⟨_, _, _, Tryz.underlying132⟩, by kernel_rfl, by kernel_rfl, ⟨_, rfl, by kernel_rfl⟩⟩
/-- func(api.Cpu, api.Cpu, bool, bool, bool) api.Cpu -/
def ti133 : TI := { d := .other, size := 1, bytes := 8, zero := .s .nilfunc }
theorem ti133_ok : TIok Tryz.prog 133 ti133 := ⟨⟨_, _, _, Tryz.underlying133⟩, by kernel_rfl, by kernel_rfl, ⟨_, rfl, by kernel_rfl⟩⟩
/-- interface { save.double(*uint64); save.flag(*bool); save.list(*[]uint8, int, int); save.octet(*uint8); save.place(*int, int); save.word(*uint32) } -/
def ti134 : TI := { d := .iface, size := 1, bytes := 16, zero := .s .niliface }
theorem ti134_ok : TIok Tryz.prog 134 ti134 := ⟨⟨_, Tryz.underlying134⟩, by kernel_rfl, by kernel_rfl, ⟨_, rfl, by kernel_rfl⟩⟩
/-- save.line -/
def ti135 : TI := { d := .iface, size := 1, bytes := 16, zero := .s .niliface }
theorem ti135_ok : TIok Tryz.prog 135 ti135 := ⟨⟨_, Tryz.underlying135⟩, by kernel_rfl, by kernel_rfl, ⟨_, rfl, by kernel_rfl⟩⟩
/-- *api.Cpu -/
def ti136 : TI := { d := .ptr 31, size := 1, bytes := 8, zero := .s .nilptr }
theorem ti136_ok : TIok Tryz.prog 136 ti136 := ⟨Tryz.underlying136, by kernel_rfl, by kernel_rfl, ⟨_, rfl, by kernel_rfl⟩⟩
/-- func(*uint64) -/
def ti137 : TI := { d := .other, size := 1, bytes := 8, zero := .s .nilfunc }
theorem ti137_ok : TIok Tryz.prog 137 ti137 := ⟨⟨_, _, _, Tryz.underlying137⟩, by kernel_rfl, by kernel_rfl, ⟨_, rfl, by kernel_rfl⟩⟩
/-- *uint64 -/
def ti138 : TI := { d := .ptr 22, size := 1, bytes := 8, zero := .s .nilptr }
theorem ti138_ok : TIok Tryz.prog 138 ti138 := ⟨Tryz.underlying138, by kernel_rfl, by kernel_rfl, ⟨_, rfl, by kernel_rfl⟩⟩
/-- func(*int, int) -/
def ti139 : TI := { d := .other, size := 1, bytes := 8, zero := .s .nilfunc }
theorem ti139_ok : TIok Tryz.prog 139 ti139 := ⟨⟨_, _, _, Tryz.underlying139⟩, by kernel_rfl, by kernel_rfl, ⟨_, rfl, by kernel_rfl⟩⟩
/-- *int -/
def ti140 : TI := { d := .ptr 3, size := 1, bytes := 8, zero := .s .nilptr }
theorem ti140_ok : TIok Tryz.prog 140 ti140 := ⟨Tryz.underlying140, by kernel_rfl, by kernel_rfl, ⟨_, rfl, by kernel_rfl⟩⟩
/-- func(*bool) -/
def ti141 : TI := { d := .other, size := 1, bytes := 8, zero := .s .nilfunc }
theorem ti141_ok : TIok Tryz.prog 141 ti141 := ⟨⟨_, _, _, Tryz.underlying141⟩, by kernel_rfl, by kernel_rfl, ⟨_, rfl, by kernel_rfl⟩⟩
/-- *bool -/
def ti142 : TI := { d := .ptr 4, size := 1, bytes := 8, zero := .s .nilptr }
theorem ti142_ok : TIok Tryz.prog 142 ti142 := ⟨Tryz.underlying142, by kernel_rfl, by kernel_rfl, ⟨_, rfl, by kernel_rfl⟩⟩
/-- []*uint64 -/
def ti143 : TI := { d := .slice 138, size := 1, bytes := 24, zero := .s .nilslice }
theorem ti143_ok : TIok Tryz.prog 143 ti143 := ⟨Tryz.underlying143, by kernel_rfl, by kernel_rfl, ⟨_, rfl, by kernel_rfl⟩⟩
/-- func(*uint8) -/
def ti144 : TI := { d := .other, size := 1, bytes := 8, zero := .s .nilfunc }
theorem ti144_ok : TIok Tryz.prog 144 ti144 := ⟨⟨_, _, _, Tryz.underlying144⟩, by kernel_rfl, by kernel_rfl, ⟨_, rfl, by kernel_rfl⟩⟩
/-- *uint8 -/
def ti145 : TI := { d := .ptr 5, size := 1, bytes := 8, zero := .s .nilptr }
theorem ti145_ok : TIok Tryz.prog 145 ti145 := ⟨Tryz.underlying145, by kernel_rfl, by kernel_rfl, ⟨_, rfl, by kernel_rfl⟩⟩
/-- *api.Bus -/
def ti146 : TI := { d := .ptr 35, size := 1, bytes := 8, zero := .s .nilptr }
theorem ti146_ok : TIok Tryz.prog 146 ti146 := ⟨Tryz.underlying146, by kernel_rfl, by kernel_rfl, ⟨_, rfl, by kernel_rfl⟩⟩
/-- func(*uint32) -/
def ti147 : TI := { d := .other, size := 1, bytes := 8, zero := .s .nilfunc }
theorem ti147_ok : TIok Tryz.prog 147 ti147 := ⟨⟨_, _, _, Tryz.underlying147⟩, by kernel_rfl, by kernel_rfl, ⟨_, rfl, by kernel_rfl⟩⟩
/-- *uint32 -/
def ti148 : TI := { d := .ptr 33, size := 1, bytes := 8, zero := .s .nilptr }
theorem ti148_ok : TIok Tryz.prog 148 ti148 := ⟨Tryz.underlying148, by kernel_rfl, by kernel_rfl, ⟨_, rfl, by kernel_rfl⟩⟩
/-- []*uint8 -/
def ti149 : TI := { d := .slice 145, size := 1, bytes := 24, zero := .s .nilslice }
theorem ti149_ok : TIok Tryz.prog 149 ti149 := ⟨Tryz.underlying149, by kernel_rfl, by kernel_rfl, ⟨_, rfl, by kernel_rfl⟩⟩
/-- func(*[]uint8, int, int) -/
def ti150 : TI := { d := .other, size := 1, bytes := 8, zero := .s .nilfunc }
theorem ti150_ok : TIok Tryz.prog 150 ti150 := ⟨⟨_, _, _, Tryz.underlying150⟩, by kernel_rfl, by kernel_rfl, ⟨_, rfl, by kernel_rfl⟩⟩
/-- *[]uint8 -/
def ti151 : TI := { d := .ptr 32, size := 1, bytes := 8, zero := .s .nilptr }
theorem ti151_ok : TIok Tryz.prog 151 ti151 := ⟨Tryz.underlying151, by kernel_rfl, by kernel_rfl, ⟨_, rfl, by kernel_rfl⟩⟩
/-- func([]uint8, int) []uint8 -/
def ti152 : TI := { d := .other, size := 1, bytes := 8, zero := .s .nilfunc }
theorem ti152_ok : TIok Tryz.prog 152 ti152 := ⟨⟨_, _, _, Tryz.underlying152⟩, by kernel_rfl, by kernel_rfl, ⟨_, rfl, by kernel_rfl⟩⟩
/-- func(int) []uint8 -/
def ti153 : TI := { d := .other, size := 1, bytes := 8, zero := .s .nilfunc }
theorem ti153_ok : TIok Tryz.prog 153 ti153 := ⟨⟨_, _, _, Tryz.underlying153⟩, by kernel_rfl, by kernel_rfl, ⟨_, rfl, by kernel_rfl⟩⟩
/-- *bus.uart -/
def ti154 : TI := { d := .ptr 118, size := 1, bytes := 8, zero := .s .nilptr }
theorem ti154_ok : TIok Tryz.prog 154 ti154 := ⟨Tryz.underlying154, by kernel_rfl, by kernel_rfl, ⟨_, rfl, by kernel_rfl⟩⟩
/-- func(uint64) -/
def ti155 : TI := { d := .other, size := 1, bytes := 8, zero := .s .nilfunc }
theorem ti155_ok : TIok Tryz.prog 155 ti155 := ⟨⟨_, _, _, Tryz.underlying155⟩, by kernel_rfl, by kernel_rfl, ⟨_, rfl, by kernel_rfl⟩⟩
/-- func() uint64 -/
def ti156 : TI := { d := .other, size := 1, bytes := 8, zero := .s .nilfunc }
theorem ti156_ok : TIok Tryz.prog 156 ti156 := ⟨⟨_, _, _, Tryz.underlying156⟩, by kernel_rfl, by kernel_rfl, ⟨_, rfl, by kernel_rfl⟩⟩
/-- func(int, uint64, uint64) (bool, bool) -/
def ti158 : TI := { d := .other, size := 1, bytes := 8, zero := .s .nilfunc }
theorem ti158_ok : TIok Tryz.prog 158 ti158 := ⟨⟨_, _, _, Tryz.underlying158⟩, by kernel_rfl, by kernel_rfl, ⟨_, rfl, by kernel_rfl⟩⟩
/-- map[int]int -/
def ti159 : TI := { d := .map 3 3, size := 1, bytes := 8, zero := .s .nilmap }
theorem ti159_ok : TIok Tryz.prog 159 ti159 := ⟨Tryz.underlying159, by kernel_rfl, by kernel_rfl, ⟨_, rfl, by kernel_rfl⟩⟩
/-- func() map[int]int -/
def ti160 : TI := { d := .other, size := 1, bytes := 8, zero := .s .nilfunc }
theorem ti160_ok : TIok Tryz.prog 160 ti160 := ⟨⟨_, _, _, Tryz.underlying160⟩, by kernel_rfl, by kernel_rfl, ⟨_, rfl, by kernel_rfl⟩⟩
/-- func(api.Cpu, *bus.Bus, uint64, int) (uint64, api.Trap) -/
def ti162 : TI := { d := .other, size := 1, bytes := 8, zero := .s .nilfunc }
theorem ti162_ok : TIok Tryz.prog 162 ti162 := ⟨⟨_, _, _, Tryz.underlying162⟩, by kernel_rfl, by kernel_rfl, ⟨_, rfl, by kernel_rfl⟩⟩
/-- func(api.Trap) -/
def ti163 : TI := { d := .other, size := 1, bytes := 8, zero := .s .nilfunc }
theorem ti163_ok : TIok Tryz.prog 163 ti163 := ⟨⟨_, _, _, Tryz.underlying163⟩, by kernel_rfl, by kernel_rfl, ⟨_, rfl, by kernel_rfl⟩⟩
/-- func(uint64, int) uint64 -/
def ti164 : TI := { d := .other, size := 1, bytes := 8, zero := .s .nilfunc }
theorem ti164_ok : TIok Tryz.prog 164 ti164 := ⟨⟨_, _, _, Tryz.underlying164⟩, by kernel_rfl, by kernel_rfl, ⟨_, rfl, by kernel_rfl⟩⟩
/-- func(int, uint64, int, uint64) -/
def ti165 : TI := { d := .other, size := 1, bytes := 8, zero := .s .nilfunc }
theorem ti165_ok : TIok Tryz.prog 165 ti165 := ⟨⟨_, _, _, Tryz.underlying165⟩, by kernel_rfl, by kernel_rfl, ⟨_, rfl, by kernel_rfl⟩⟩
/-- func(api.Cpu, *bus.Bus, uint64, int, uint64) (api.Cpu, api.Trap) -/
def ti167 : TI := { d := .other, size := 1, bytes := 8, zero := .s .nilfunc }
theorem ti167_ok : TIok Tryz.prog 167 ti167 := ⟨⟨_, _, _, Tryz.underlying167⟩, by kernel_rfl, by kernel_rfl, ⟨_, rfl, by kernel_rfl⟩⟩
/-- func(int, uint64, uint64) (uint64, bool) -/
def ti169 : TI := { d := .other, size := 1, bytes := 8, zero := .s .nilfunc }
theorem ti169_ok : TIok Tryz.prog 169 ti169 := ⟨⟨_, _, _, Tryz.underlying169⟩, by kernel_rfl, by kernel_rfl, ⟨_, rfl, by kernel_rfl⟩⟩
/-- func(api.Cpu) (api.Cpu, bool) -/
def ti171 : TI := { d := .other, size := 1, bytes := 8, zero := .s .nilfunc }
theorem ti171_ok : TIok Tryz.prog 171 ti171 := ⟨⟨_, _, _, Tryz.underlying171⟩, by kernel_rfl, by kernel_rfl, ⟨_, rfl, by kernel_rfl⟩⟩
/-- func(api.Cpu, uint64, uint64, int) (uint64, bool) -/
def ti172 : TI := { d := .other, size := 1, bytes := 8, zero := .s .nilfunc }
theorem ti172_ok : TIok Tryz.prog 172 ti172 := ⟨⟨_, _, _, Tryz.underlying172⟩, by kernel_rfl, by kernel_rfl, ⟨_, rfl, by kernel_rfl⟩⟩
/-- func(api.Cpu, int, uint64) (api.Cpu, bool) -/
def ti173 : TI := { d := .other, size := 1, bytes := 8, zero := .s .nilfunc }
theorem ti173_ok : TIok Tryz.prog 173 ti173 := ⟨⟨_, _, _, Tryz.underlying173⟩, by kernel_rfl, by kernel_rfl, ⟨_, rfl, by kernel_rfl⟩⟩
/-- func() int -/
def ti174 : TI := { d := .other, size := 1, bytes := 8, zero := .s .nilfunc }
theorem ti174_ok : TIok Tryz.prog 174 ti174 := ⟨⟨_, _, _, Tryz.underlying174⟩, by kernel_rfl, by kernel_rfl, ⟨_, rfl, by kernel_rfl⟩⟩
/-- func(api.Cpu, *bus.Bus, uint64, int) (uint64, api.Cpu, api.Trap) -/
def ti176 : TI := { d := .other, size := 1, bytes := 8, zero := .s .nilfunc }
theorem ti176_ok : TIok Tryz.prog 176 ti176 := ⟨⟨_, _, _, Tryz.underlying176⟩, by kernel_rfl, by kernel_rfl, ⟨_, rfl, by kernel_rfl⟩⟩
/-- func(api.Cpu, *bus.Bus, uint64, int, uint64) (bool, api.Cpu, api.Trap) -/
def ti178 : TI := { d := .other, size := 1, bytes := 8, zero := .s .nilfunc }
theorem ti178_ok : TIok Tryz.prog 178 ti178 := ⟨⟨_, _, _, Tryz.underlying178⟩, by kernel_rfl, by kernel_rfl, ⟨_, rfl, by kernel_rfl⟩⟩
/-- func(api.Cpu, *bus.Bus, int, uint64, uint64) (uint64, uint64, api.Cpu, api.Trap) -/
def ti180 : TI := { d := .other, size := 1, bytes := 8, zero := .s .nilfunc }
theorem ti180_ok : TIok Tryz.prog 180 ti180 := ⟨⟨_, _, _, Tryz.underlying180⟩, by kernel_rfl, by kernel_rfl, ⟨_, rfl, by kernel_rfl⟩⟩
/-- func(api.Cpu, uint64) (int, bool) -/
def ti182 : TI := { d := .other, size := 1, bytes := 8, zero := .s .nilfunc }
theorem ti182_ok : TIok Tryz.prog 182 ti182 := ⟨⟨_, _, _, Tryz.underlying182⟩, by kernel_rfl, by kernel_rfl, ⟨_, rfl, by kernel_rfl⟩⟩
/-- func(int, uint64, uint64) -/
def ti183 : TI := { d := .other, size := 1, bytes := 8, zero := .s .nilfunc }
theorem ti183_ok : TIok Tryz.prog 183 ti183 := ⟨⟨_, _, _, Tryz.underlying183⟩, by kernel_rfl, by kernel_rfl, ⟨_, rfl, by kernel_rfl⟩⟩
/-- func(api.Cpu, *bus.Bus) (uint32, int, api.Trap) -/
def ti185 : TI := { d := .other, size := 1, bytes := 8, zero := .s .nilfunc }
theorem ti185_ok : TIok Tryz.prog 185 ti185 := ⟨⟨_, _, _, Tryz.underlying185⟩, by kernel_rfl, by kernel_rfl, ⟨_, rfl, by kernel_rfl⟩⟩
/-- func(uint32) api.Instr -/
def ti186 : TI := { d := .other, size := 1, bytes := 8, zero := .s .nilfunc }
theorem ti186_ok : TIok Tryz.prog 186 ti186 := ⟨⟨_, _, _, Tryz.underlying186⟩, by kernel_rfl, by kernel_rfl, ⟨_, rfl, by kernel_rfl⟩⟩
/-- func(api.Instr) -/
def ti187 : TI := { d := .other, size := 1, bytes := 8, zero := .s .nilfunc }
theorem ti187_ok : TIok Tryz.prog 187 ti187 := ⟨⟨_, _, _, Tryz.underlying187⟩, by kernel_rfl, by kernel_rfl, ⟨_, rfl, by kernel_rfl⟩⟩
/-- *sync.Mutex -/
def ti188 : TI := { d := .ptr 116, size := 1, bytes := 8, zero := .s .nilptr }
theorem ti188_ok : TIok Tryz.prog 188 ti188 := ⟨Tryz.underlying188, by kernel_rfl, by kernel_rfl, ⟨_, rfl, by kernel_rfl⟩⟩
/-- func(api.Cpu, uint64, int, int, bool, uint64, uint64, ...int) api.Trap -/
def ti189 : TI := { d := .other, size := 1, bytes := 8, zero := .s .nilfunc }
theorem ti189_ok : TIok Tryz.prog 189 ti189 := ⟨⟨_, _, _, Tryz.underlying189⟩, by kernel_rfl, by kernel_rfl, ⟨_, rfl, by kernel_rfl⟩⟩
/-- func(uint64, int, int) bool -/
def ti190 : TI := { d := .other, size := 1, bytes := 8, zero := .s .nilfunc }
theorem ti190_ok : TIok Tryz.prog 190 ti190 := ⟨⟨_, _, _, Tryz.underlying190⟩, by kernel_rfl, by kernel_rfl, ⟨_, rfl, by kernel_rfl⟩⟩
/-- func(uint64, int) (uint64, bool) -/
def ti191 : TI := { d := .other, size := 1, bytes := 8, zero := .s .nilfunc }
theorem ti191_ok : TIok Tryz.prog 191 ti191 := ⟨⟨_, _, _, Tryz.underlying191⟩, by kernel_rfl, by kernel_rfl, ⟨_, rfl, by kernel_rfl⟩⟩
/-- func(uint64, int, uint64) bool -/
def ti192 : TI := { d := .other, size := 1, bytes := 8, zero := .s .nilfunc }
theorem ti192_ok : TIok Tryz.prog 192 ti192 := ⟨⟨_, _, _, Tryz.underlying192⟩, by kernel_rfl, by kernel_rfl, ⟨_, rfl, by kernel_rfl⟩⟩
/-- func(api.Cpu, uint64, int) api.Cpu -/
def ti193 : TI := { d := .other, size := 1, bytes := 8, zero := .s .nilfunc }
theorem ti193_ok : TIok Tryz.prog 193 ti193 := ⟨⟨_, _, _, Tryz.underlying193⟩, by kernel_rfl, by kernel_rfl, ⟨_, rfl, by kernel_rfl⟩⟩
/-- func(uint64, int, int) uint64 -/
def ti194 : TI := { d := .other, size := 1, bytes := 8, zero := .s .nilfunc }
theorem ti194_ok : TIok Tryz.prog 194 ti194 := ⟨⟨_, _, _, Tryz.underlying194⟩, by kernel_rfl, by kernel_rfl, ⟨_, rfl, by kernel_rfl⟩⟩
/-- [97]int -/
def ti195 : TI := { d := .array 97 3, size := 97, bytes := 776, zero := .agg [.ints .i64 97 (fun _ => 0)] }
theorem ti195_ok : TIok Tryz.prog 195 ti195 := ⟨Tryz.underlying195, by kernel_rfl, by kernel_rfl, ⟨_, rfl, by kernel_rfl⟩⟩
/-- func(uint64, uint64) uint64 -/
def ti196 : TI := { d := .other, size := 1, bytes := 8, zero := .s .nilfunc }
theorem ti196_ok : TIok Tryz.prog 196 ti196 := ⟨⟨_, _, _, Tryz.underlying196⟩, by kernel_rfl, by kernel_rfl, ⟨_, rfl, by kernel_rfl⟩⟩
/-- func(uint32, uint32) uint32 -/
def ti197 : TI := { d := .other, size := 1, bytes := 8, zero := .s .nilfunc }
theorem ti197_ok : TIok Tryz.prog 197 ti197 := ⟨⟨_, _, _, Tryz.underlying197⟩, by kernel_rfl, by kernel_rfl, ⟨_, rfl, by kernel_rfl⟩⟩
/-- struct { whole func(uint64, uint64) uint64; half func(uint32, uint32) uint32 } -/
def ti198 : TI := { d := .struct [(196, 0), (197, 1)], size := 2, bytes := 16, zero := .agg [.one .nilfunc, .one .nilfunc] }
theorem ti198_ok : TIok Tryz.prog 198 ti198 := ⟨⟨_, Tryz.underlying198, by rfl⟩, by kernel_rfl, by kernel_rfl, ⟨_, rfl, by kernel_rfl⟩⟩
/-- arith.row -/
def ti199 : TI := { d := .struct [(196, 0), (197, 1)], size := 2, bytes := 16, zero := .agg [.one .nilfunc, .one .nilfunc] }
theorem ti199_ok : TIok Tryz.prog 199 ti199 := ⟨⟨_, Tryz.underlying199, by rfl⟩, by kernel_rfl, by kernel_rfl, ⟨_, rfl, by kernel_rfl⟩⟩
/-- [97]arith.row -/
def ti200 : TI := { d := .array 97 199, size := 194, bytes := 1552, zero := .agg [.one .nilfunc, .one .nilfunc, .one .nilfunc, .one .nilfunc, .one .nilfunc, .one .nilfunc, .one .nilfunc, .one .nilfunc, .one .nilfunc, .one .nilfunc, .one .nilfunc, .one .nilfunc, .one .nilfunc, .one .nilfunc, .one .nilfunc, .one .nilfunc, .one .nilfunc, .one .nilfunc, .one .nilfunc, .one .nilfunc, .one .nilfunc, .one .nilfunc, .one .nilfunc, .one .nilfunc, .one .nilfunc, .one .nilfunc, .one .nilfunc, .one .nilfunc, .one .nilfunc, .one .nilfunc, .one .nilfunc, .one .nilfunc, .one .nilfunc, .one .nilfunc, .one .nilfunc, .one .nilfunc, .one .nilfunc, .one .nilfunc, .one .nilfunc, .one .nilfunc, .one .nilfunc, .one .nilfunc, .one .nilfunc, .one .nilfunc, .one .nilfunc, .one .nilfunc, .one .nilfunc, .one .nilfunc, .one .nilfunc, .one .nilfunc, .one .nilfunc, .one .nilfunc, .one .nilfunc, .one .nilfunc, .one .nilfunc, .one .nilfunc, .one .nilfunc, .one .nilfunc, .one .nilfunc, .one .nilfunc, .one .nilfunc, .one .nilfunc, .one .nilfunc, .one .nilfunc, .one .nilfunc, .one .nilfunc, .one .nilfunc, .one .nilfunc, .one .nilfunc, .one .nilfunc, .one .nilfunc, .one .nilfunc, .one .nilfunc, .one .nilfunc, .one .nilfunc, .one .nilfunc, .one .nilfunc, .one .nilfunc, .one .nilfunc, .one .nilfunc, .one .nilfunc, .one .nilfunc, .one .nilfunc, .one .nilfunc, .one .nilfunc, .one .nilfunc, .one .nilfunc, .one .nilfunc, .one .nilfunc, .one .nilfunc, .one .nilfunc, .one .nilfunc, .one .nilfunc, .one .nilfunc, .one .nilfunc, .one .nilfunc, .one .nilfunc, .one .nilfunc, .one .nilfunc, .one .nilfunc, .one .nilfunc, .one .nilfunc, .one .nilfunc, .one .nilfunc, .one .nilfunc, .one .nilfunc, .one .nilfunc, .one .nilfunc, .one .nilfunc, .one .nilfunc, .one .nilfunc, .one .nilfunc, .one .nilfunc, .one .nilfunc, .one .nilfunc, .one .nilfunc, .one .nilfunc, .one .nilfunc, .one .nilfunc, .one .nilfunc, .one .nilfunc, .one .nilfunc, .one .nilfunc, .one .nilfunc, .one .nilfunc, .one .nilfunc, .one .nilfunc, .one .nilfunc, .one .nilfunc, .one .nilfunc, .one .nilfunc, .one .nilfunc, .one .nilfunc, .one .nilfunc, .one .nilfunc, .one .nilfunc, .one .nilfunc, .one .nilfunc, .one .nilfunc, .one .nilfunc, .one .nilfunc, .one .nilfunc, .one .nilfunc, .one .nilfunc, .one .nilfunc, .one .nilfunc, .one .nilfunc, .one .nilfunc, .one .nilfunc, .one .nilfunc, .one .nilfunc, .one .nilfunc, .one .nilfunc, .one .nilfunc, .one .nilfunc, .one .nilfunc, .one .nilfunc, .one .nilfunc, .one .nilfunc, .one .nilfunc, .one .nilfunc, .one .nilfunc, .one .nilfunc, .one .nilfunc, .one .nilfunc, .one .nilfunc, .one .nilfunc, .one .nilfunc, .one .nilfunc, .one .nilfunc, .one .nilfunc, .one .nilfunc, .one .nilfunc, .one .nilfunc, .one .nilfunc, .one .nilfunc, .one .nilfunc, .one .nilfunc, .one .nilfunc, .one .nilfunc, .one .nilfunc, .one .nilfunc, .one .nilfunc, .one .nilfunc, .one .nilfunc, .one .nilfunc, .one .nilfunc, .one .nilfunc, .one .nilfunc, .one .nilfunc, .one .nilfunc, .one .nilfunc, .one .nilfunc, .one .nilfunc] }
theorem ti200_ok : TIok Tryz.prog 200 ti200 := ⟨Tryz.underlying200, by kernel_rfl, by kernel_rfl, ⟨_, rfl, by kernel_rfl⟩⟩
/-- func() [97]arith.row -/
def ti201 : TI := { d := .other, size := 1, bytes := 8, zero := .s .nilfunc }
theorem ti201_ok : TIok Tryz.prog 201 ti201 := ⟨⟨_, _, _, Tryz.underlying201⟩, by kernel_rfl, by kernel_rfl, ⟨_, rfl, by kernel_rfl⟩⟩
/-- func(uint32) uint64 -/
def ti202 : TI := { d := .other, size := 1, bytes := 8, zero := .s .nilfunc }
theorem ti202_ok : TIok Tryz.prog 202 ti202 := ⟨⟨_, _, _, Tryz.underlying202⟩, by kernel_rfl, by kernel_rfl, ⟨_, rfl, by kernel_rfl⟩⟩
/-- *csr.file -/
def ti203 : TI := { d := .ptr 205, size := 1, bytes := 8, zero := .s .nilptr }
theorem ti203_ok : TIok Tryz.prog 203 ti203 := ⟨Tryz.underlying203, by kernel_rfl, by kernel_rfl, ⟨_, rfl, by kernel_rfl⟩⟩
/-- struct { c api.Cpu; mip uint64; time uint64 } -/
def ti204 : TI := { d := .struct [(31, 0), (22, 82), (22, 83)], size := 84, bytes := 560, zero := .agg [.one (.int .u64 0), .ints .u64 32 (fun _ => 0), .one (.int .i64 0), .one (.bool false), .one (.int .u64 0), .one (.int .u64 0), .one (.int .u64 0), .one (.int .u64 0), .one (.int .u64 0), .one (.int .u64 0), .one (.int .u64 0), .one (.int .u64 0), .one (.int .u64 0), .one (.int .u64 0), .one (.int .u64 0), .one (.int .u64 0), .ints .u8 16 (fun _ => 0), .ints .u64 16 (fun _ => 0), .one (.bool false), .one (.int .u64 0), .one (.int .i64 0), .one (.int .u64 0), .one (.int .u64 0)] }
theorem ti204_ok : TIok Tryz.prog 204 ti204 := ⟨⟨_, Tryz.underlying204, by rfl⟩, by kernel_rfl, by kernel_rfl, ⟨_, rfl, by kernel_rfl⟩⟩
/-- csr.file -/
def ti205 : TI := { d := .struct [(31, 0), (22, 82), (22, 83)], size := 84, bytes := 560, zero := .agg [.one (.int .u64 0), .ints .u64 32 (fun _ => 0), .one (.int .i64 0), .one (.bool false), .one (.int .u64 0), .one (.int .u64 0), .one (.int .u64 0), .one (.int .u64 0), .one (.int .u64 0), .one (.int .u64 0), .one (.int .u64 0), .one (.int .u64 0), .one (.int .u64 0), .one (.int .u64 0), .one (.int .u64 0), .one (.int .u64 0), .ints .u8 16 (fun _ => 0), .ints .u64 16 (fun _ => 0), .one (.bool false), .one (.int .u64 0), .one (.int .i64 0), .one (.int .u64 0), .one (.int .u64 0)] }
theorem ti205_ok : TIok Tryz.prog 205 ti205 := ⟨⟨_, Tryz.underlying205, by rfl⟩, by kernel_rfl, by kernel_rfl, ⟨_, rfl, by kernel_rfl⟩⟩
/-- struct { read func() uint64; write func(uint64) } -/
def ti206 : TI := { d := .struct [(156, 0), (155, 1)], size := 2, bytes := 16, zero := .agg [.one .nilfunc, .one .nilfunc] }
theorem ti206_ok : TIok Tryz.prog 206 ti206 := ⟨⟨_, Tryz.underlying206, by rfl⟩, by kernel_rfl, by kernel_rfl, ⟨_, rfl, by kernel_rfl⟩⟩
/-- csr.access -/
def ti207 : TI := { d := .struct [(156, 0), (155, 1)], size := 2, bytes := 16, zero := .agg [.one .nilfunc, .one .nilfunc] }
theorem ti207_ok : TIok Tryz.prog 207 ti207 := ⟨⟨_, Tryz.underlying207, by rfl⟩, by kernel_rfl, by kernel_rfl, ⟨_, rfl, by kernel_rfl⟩⟩
/-- map[int]csr.access -/
def ti209 : TI := { d := .map 3 207, size := 1, bytes := 8, zero := .s .nilmap }
theorem ti209_ok : TIok Tryz.prog 209 ti209 := ⟨Tryz.underlying209, by kernel_rfl, by kernel_rfl, ⟨_, rfl, by kernel_rfl⟩⟩
/-- func() map[int]csr.access -/
def ti210 : TI := { d := .other, size := 1, bytes := 8, zero := .s .nilfunc }
theorem ti210_ok : TIok Tryz.prog 210 ti210 := ⟨⟨_, _, _, Tryz.underlying210⟩, by kernel_rfl, by kernel_rfl, ⟨_, rfl, by kernel_rfl⟩⟩
/-- func(uint64, int) bool -/
def ti211 : TI := { d := .other, size := 1, bytes := 8, zero := .s .nilfunc }
theorem ti211_ok : TIok Tryz.prog 211 ti211 := ⟨⟨_, _, _, Tryz.underlying211⟩, by kernel_rfl, by kernel_rfl, ⟨_, rfl, by kernel_rfl⟩⟩
/-- func(int) int -/
def ti212 : TI := { d := .other, size := 1, bytes := 8, zero := .s .nilfunc }
theorem ti212_ok : TIok Tryz.prog 212 ti212 := ⟨⟨_, _, _, Tryz.underlying212⟩, by kernel_rfl, by kernel_rfl, ⟨_, rfl, by kernel_rfl⟩⟩
/-- func(uint64, uint64) api.Trap -/
def ti213 : TI := { d := .other, size := 1, bytes := 8, zero := .s .nilfunc }
theorem ti213_ok : TIok Tryz.prog 213 ti213 := ⟨⟨_, _, _, Tryz.underlying213⟩, by kernel_rfl, by kernel_rfl, ⟨_, rfl, by kernel_rfl⟩⟩
/-- [3]int -/
def ti214 : TI := { d := .array 3 3, size := 3, bytes := 24, zero := .agg [.ints .i64 3 (fun _ => 0)] }
theorem ti214_ok : TIok Tryz.prog 214 ti214 := ⟨Tryz.underlying214, by kernel_rfl, by kernel_rfl, ⟨_, rfl, by kernel_rfl⟩⟩
/-- func(api.Cpu, uint64, uint64) api.Cpu -/
def ti215 : TI := { d := .other, size := 1, bytes := 8, zero := .s .nilfunc }
theorem ti215_ok : TIok Tryz.prog 215 ti215 := ⟨⟨_, _, _, Tryz.underlying215⟩, by kernel_rfl, by kernel_rfl, ⟨_, rfl, by kernel_rfl⟩⟩
/-- func(api.Cpu, *bus.Bus, uint64) (uint32, bool) -/
def ti217 : TI := { d := .other, size := 1, bytes := 8, zero := .s .nilfunc }
theorem ti217_ok : TIok Tryz.prog 217 ti217 := ⟨⟨_, _, _, Tryz.underlying217⟩, by kernel_rfl, by kernel_rfl, ⟨_, rfl, by kernel_rfl⟩⟩
/-- func(uint32) int -/
def ti218 : TI := { d := .other, size := 1, bytes := 8, zero := .s .nilfunc }
theorem ti218_ok : TIok Tryz.prog 218 ti218 := ⟨⟨_, _, _, Tryz.underlying218⟩, by kernel_rfl, by kernel_rfl, ⟨_, rfl, by kernel_rfl⟩⟩
/-- func(uint16) (uint32, bool) -/
def ti219 : TI := { d := .other, size := 1, bytes := 8, zero := .s .nilfunc }
theorem ti219_ok : TIok Tryz.prog 219 ti219 := ⟨⟨_, _, _, Tryz.underlying219⟩, by kernel_rfl, by kernel_rfl, ⟨_, rfl, by kernel_rfl⟩⟩
/-- uint16 -/
def ti220 : TI := { d := .int .u16, size := 1, bytes := 2, zero := .s (.int .u16 0) }
theorem ti220_ok : TIok Tryz.prog 220 ti220 := ⟨Tryz.underlying220, by kernel_rfl, by kernel_rfl, ⟨_, rfl, by kernel_rfl⟩⟩
/-- []decode.form -/
def ti221 : TI := { d := .slice 224, size := 1, bytes := 24, zero := .s .nilslice }
theorem ti221_ok : TIok Tryz.prog 221 ti221 := ⟨Tryz.underlying221, by kernel_rfl, by kernel_rfl, ⟨_, rfl, by kernel_rfl⟩⟩
/-- func() []decode.form -/
def ti222 : TI := { d := .other, size := 1, bytes := 8, zero := .s .nilfunc }
theorem ti222_ok : TIok Tryz.prog 222 ti222 := ⟨⟨_, _, _, Tryz.underlying222⟩, by kernel_rfl, by kernel_rfl, ⟨_, rfl, by kernel_rfl⟩⟩
/-- struct { op int; mask uint32; match uint32; shape int } -/
def ti223 : TI := { d := .struct [(3, 0), (33, 1), (33, 2), (3, 3)], size := 4, bytes := 24, zero := .agg [.one (.int .i64 0), .one (.int .u32 0), .one (.int .u32 0), .one (.int .i64 0)] }
theorem ti223_ok : TIok Tryz.prog 223 ti223 := ⟨⟨_, Tryz.underlying223, by rfl⟩, by kernel_rfl, by kernel_rfl, ⟨_, rfl, by kernel_rfl⟩⟩
/-- decode.form -/
def ti224 : TI := { d := .struct [(3, 0), (33, 1), (33, 2), (3, 3)], size := 4, bytes := 24, zero := .agg [.one (.int .i64 0), .one (.int .u32 0), .one (.int .u32 0), .one (.int .i64 0)] }
theorem ti224_ok : TIok Tryz.prog 224 ti224 := ⟨⟨_, Tryz.underlying224, by rfl⟩, by kernel_rfl, by kernel_rfl, ⟨_, rfl, by kernel_rfl⟩⟩
/-- func(*api.Instr, uint32, int) -/
def ti225 : TI := { d := .other, size := 1, bytes := 8, zero := .s .nilfunc }
theorem ti225_ok : TIok Tryz.prog 225 ti225 := ⟨⟨_, _, _, Tryz.underlying225⟩, by kernel_rfl, by kernel_rfl, ⟨_, rfl, by kernel_rfl⟩⟩
/-- *api.Instr -/
def ti226 : TI := { d := .ptr 48, size := 1, bytes := 8, zero := .s .nilptr }
theorem ti226_ok : TIok Tryz.prog 226 ti226 := ⟨Tryz.underlying226, by kernel_rfl, by kernel_rfl, ⟨_, rfl, by kernel_rfl⟩⟩
/-- *sync.Mutex -/
def ti227 : TI := { d := .ptr 114, size := 1, bytes := 8, zero := .s .nilptr }
theorem ti227_ok : TIok Tryz.prog 227 ti227 := ⟨Tryz.underlying227, by kernel_rfl, by kernel_rfl, ⟨_, rfl, by kernel_rfl⟩⟩
/-- func(*int32, int32, int32) bool -/
def ti228 : TI := { d := .other, size := 1, bytes := 8, zero := .s .nilfunc }
theorem ti228_ok : TIok Tryz.prog 228 ti228 := ⟨⟨_, _, _, Tryz.underlying228⟩, by kernel_rfl, by kernel_rfl, ⟨_, rfl, by kernel_rfl⟩⟩
/-- *int32 -/
def ti229 : TI := { d := .ptr 21, size := 1, bytes := 8, zero := .s .nilptr }
theorem ti229_ok : TIok Tryz.prog 229 ti229 := ⟨Tryz.underlying229, by kernel_rfl, by kernel_rfl, ⟨_, rfl, by kernel_rfl⟩⟩
/-- func(unsafe.Pointer) -/
def ti230 : TI := { d := .other, size := 1, bytes := 8, zero := .s .nilfunc }
theorem ti230_ok : TIok Tryz.prog 230 ti230 := ⟨⟨_, _, _, Tryz.underlying230⟩, by kernel_rfl, by kernel_rfl, ⟨_, rfl, by kernel_rfl⟩⟩
/-- unsafe.Pointer -/
def ti231 : TI := { d := .uptr, size := 1, bytes := 8, zero := .s .nilptr }
theorem ti231_ok : TIok Tryz.prog 231 ti231 := ⟨Tryz.underlying231, by kernel_rfl, by kernel_rfl, ⟨_, rfl, by kernel_rfl⟩⟩
/-- func(*int32, int32) int32 -/
def ti232 : TI := { d := .other, size := 1, bytes := 8, zero := .s .nilfunc }
theorem ti232_ok : TIok Tryz.prog 232 ti232 := ⟨⟨_, _, _, Tryz.underlying232⟩, by kernel_rfl, by kernel_rfl, ⟨_, rfl, by kernel_rfl⟩⟩
/-- func(int32) -/
def ti233 : TI := { d := .other, size := 1, bytes := 8, zero := .s .nilfunc }
theorem ti233_ok : TIok Tryz.prog 233 ti233 := ⟨⟨_, _, _, Tryz.underlying233⟩, by kernel_rfl, by kernel_rfl, ⟨_, rfl, by kernel_rfl⟩⟩
/-- []int -/
def ti234 : TI := { d := .slice 3, size := 1, bytes := 24, zero := .s .nilslice }
theorem ti234_ok : TIok Tryz.prog 234 ti234 := ⟨Tryz.underlying234, by kernel_rfl, by kernel_rfl, ⟨_, rfl, by kernel_rfl⟩⟩
/-- func(uint64, int, ...int) bool -/
def ti235 : TI := { d := .other, size := 1, bytes := 8, zero := .s .nilfunc }
theorem ti235_ok : TIok Tryz.prog 235 ti235 := ⟨⟨_, _, _, Tryz.underlying235⟩, by kernel_rfl, by kernel_rfl, ⟨_, rfl, by kernel_rfl⟩⟩
/-- func(api.Pmp, int, uint64, int, int) bool -/
def ti236 : TI := { d := .other, size := 1, bytes := 8, zero := .s .nilfunc }
theorem ti236_ok : TIok Tryz.prog 236 ti236 := ⟨⟨_, _, _, Tryz.underlying236⟩, by kernel_rfl, by kernel_rfl, ⟨_, rfl, by kernel_rfl⟩⟩
/-- func(api.Cpu) int -/
def ti237 : TI := { d := .other, size := 1, bytes := 8, zero := .s .nilfunc }
theorem ti237_ok : TIok Tryz.prog 237 ti237 := ⟨⟨_, _, _, Tryz.underlying237⟩, by kernel_rfl, by kernel_rfl, ⟨_, rfl, by kernel_rfl⟩⟩
/-- interface { bus.here(uint64, int) bool; bus.load(uint64, int) uint64; bus.store(uint64, int, uint64) } -/
def ti238 : TI := { d := .iface, size := 1, bytes := 16, zero := .s .niliface }
theorem ti238_ok : TIok Tryz.prog 238 ti238 := ⟨⟨_, Tryz.underlying238⟩, by kernel_rfl, by kernel_rfl, ⟨_, rfl, by kernel_rfl⟩⟩
/-- bus.device -/
def ti239 : TI := { d := .iface, size := 1, bytes := 16, zero := .s .niliface }
theorem ti239_ok : TIok Tryz.prog 239 ti239 := ⟨⟨_, Tryz.underlying239⟩, by kernel_rfl, by kernel_rfl, ⟨_, rfl, by kernel_rfl⟩⟩
/-- func(uint64, int) bus.device -/
def ti240 : TI := { d := .other, size := 1, bytes := 8, zero := .s .nilfunc }
theorem ti240_ok : TIok Tryz.prog 240 ti240 := ⟨⟨_, _, _, Tryz.underlying240⟩, by kernel_rfl, by kernel_rfl, ⟨_, rfl, by kernel_rfl⟩⟩
/-- func(uint64, int, uint64) -/
def ti241 : TI := { d := .other, size := 1, bytes := 8, zero := .s .nilfunc }
theorem ti241_ok : TIok Tryz.prog 241 ti241 := ⟨⟨_, _, _, Tryz.underlying241⟩, by kernel_rfl, by kernel_rfl, ⟨_, rfl, by kernel_rfl⟩⟩
/-- func(bool) uint64 -/
def ti242 : TI := { d := .other, size := 1, bytes := 8, zero := .s .nilfunc }
theorem ti242_ok : TIok Tryz.prog 242 ti242 := ⟨⟨_, _, _, Tryz.underlying242⟩, by kernel_rfl, by kernel_rfl, ⟨_, rfl, by kernel_rfl⟩⟩
/-- func(uint64, uint64) (uint64, uint64) -/
def ti244 : TI := { d := .other, size := 1, bytes := 8, zero := .s .nilfunc }
theorem ti244_ok : TIok Tryz.prog 244 ti244 := ⟨⟨_, _, _, Tryz.underlying244⟩, by kernel_rfl, by kernel_rfl, ⟨_, rfl, by kernel_rfl⟩⟩
/-- func(*uint64) csr.access -/
def ti245 : TI := { d := .other, size := 1, bytes := 8, zero := .s .nilfunc }
theorem ti245_ok : TIok Tryz.prog 245 ti245 := ⟨⟨_, _, _, Tryz.underlying245⟩, by kernel_rfl, by kernel_rfl, ⟨_, rfl, by kernel_rfl⟩⟩
/-- func(api.Pmp, int) uint64 -/
def ti246 : TI := { d := .other, size := 1, bytes := 8, zero := .s .nilfunc }
theorem ti246_ok : TIok Tryz.prog 246 ti246 := ⟨⟨_, _, _, Tryz.underlying246⟩, by kernel_rfl, by kernel_rfl, ⟨_, rfl, by kernel_rfl⟩⟩
/-- func(api.Pmp, int, uint64) api.Pmp -/
def ti247 : TI := { d := .other, size := 1, bytes := 8, zero := .s .nilfunc }
theorem ti247_ok : TIok Tryz.prog 247 ti247 := ⟨⟨_, _, _, Tryz.underlying247⟩, by kernel_rfl, by kernel_rfl, ⟨_, rfl, by kernel_rfl⟩⟩
/-- func(uint64, trap.reason) uint64 -/
def ti248 : TI := { d := .other, size := 1, bytes := 8, zero := .s .nilfunc }
theorem ti248_ok : TIok Tryz.prog 248 ti248 := ⟨⟨_, _, _, Tryz.underlying248⟩, by kernel_rfl, by kernel_rfl, ⟨_, rfl, by kernel_rfl⟩⟩
/-- trap.reason -/
def ti249 : TI := { d := .iface, size := 1, bytes := 16, zero := .s .niliface }
theorem ti249_ok : TIok Tryz.prog 249 ti249 := ⟨⟨_, Tryz.underlying249⟩, by kernel_rfl, by kernel_rfl, ⟨_, rfl, by kernel_rfl⟩⟩
/-- func(uint64) trap.reason -/
def ti250 : TI := { d := .other, size := 1, bytes := 8, zero := .s .nilfunc }
theorem ti250_ok : TIok Tryz.prog 250 ti250 := ⟨⟨_, _, _, Tryz.underlying250⟩, by kernel_rfl, by kernel_rfl, ⟨_, rfl, by kernel_rfl⟩⟩
/-- func() (uint32, bool) -/
def ti251 : TI := { d := .other, size := 1, bytes := 8, zero := .s .nilfunc }
theorem ti251_ok : TIok Tryz.prog 251 ti251 := ⟨⟨_, _, _, Tryz.underlying251⟩, by kernel_rfl, by kernel_rfl, ⟨_, rfl, by kernel_rfl⟩⟩
/-- func(uint32) (uint32, bool) -/
def ti252 : TI := { d := .other, size := 1, bytes := 8, zero := .s .nilfunc }
theorem ti252_ok : TIok Tryz.prog 252 ti252 := ⟨⟨_, _, _, Tryz.underlying252⟩, by kernel_rfl, by kernel_rfl, ⟨_, rfl, by kernel_rfl⟩⟩
/-- func(uint32, int, int) int -/
def ti253 : TI := { d := .other, size := 1, bytes := 8, zero := .s .nilfunc }
theorem ti253_ok : TIok Tryz.prog 253 ti253 := ⟨⟨_, _, _, Tryz.underlying253⟩, by kernel_rfl, by kernel_rfl, ⟨_, rfl, by kernel_rfl⟩⟩
/-- func(int, int) int64 -/
def ti254 : TI := { d := .other, size := 1, bytes := 8, zero := .s .nilfunc }
theorem ti254_ok : TIok Tryz.prog 254 ti254 := ⟨⟨_, _, _, Tryz.underlying254⟩, by kernel_rfl, by kernel_rfl, ⟨_, rfl, by kernel_rfl⟩⟩
/-- func(uint32, int, int, int) int -/
def ti255 : TI := { d := .other, size := 1, bytes := 8, zero := .s .nilfunc }
theorem ti255_ok : TIok Tryz.prog 255 ti255 := ⟨⟨_, _, _, Tryz.underlying255⟩, by kernel_rfl, by kernel_rfl, ⟨_, rfl, by kernel_rfl⟩⟩
/-- func(string) -/
def ti256 : TI := { d := .other, size := 1, bytes := 8, zero := .s .nilfunc }
theorem ti256_ok : TIok Tryz.prog 256 ti256 := ⟨⟨_, _, _, Tryz.underlying256⟩, by kernel_rfl, by kernel_rfl, ⟨_, rfl, by kernel_rfl⟩⟩
/-- func() int64 -/
def ti257 : TI := { d := .other, size := 1, bytes := 8, zero := .s .nilfunc }
theorem ti257_ok : TIok Tryz.prog 257 ti257 := ⟨⟨_, _, _, Tryz.underlying257⟩, by kernel_rfl, by kernel_rfl, ⟨_, rfl, by kernel_rfl⟩⟩
/-- func(*uint32, bool, int) -/
def ti258 : TI := { d := .other, size := 1, bytes := 8, zero := .s .nilfunc }
theorem ti258_ok : TIok Tryz.prog 258 ti258 := ⟨⟨_, _, _, Tryz.underlying258⟩, by kernel_rfl, by kernel_rfl, ⟨_, rfl, by kernel_rfl⟩⟩
/-- func(api.Pmp, uint64, int) (int, bool) -/
def ti259 : TI := { d := .other, size := 1, bytes := 8, zero := .s .nilfunc }
theorem ti259_ok : TIok Tryz.prog 259 ti259 := ⟨⟨_, _, _, Tryz.underlying259⟩, by kernel_rfl, by kernel_rfl, ⟨_, rfl, by kernel_rfl⟩⟩
/-- []bus.device -/
def ti260 : TI := { d := .slice 239, size := 1, bytes := 24, zero := .s .nilslice }
theorem ti260_ok : TIok Tryz.prog 260 ti260 := ⟨Tryz.underlying260, by kernel_rfl, by kernel_rfl, ⟨_, rfl, by kernel_rfl⟩⟩
/-- func() []bus.device -/
def ti261 : TI := { d := .other, size := 1, bytes := 8, zero := .s .nilfunc }
theorem ti261_ok : TIok Tryz.prog 261 ti261 := ⟨⟨_, _, _, Tryz.underlying261⟩, by kernel_rfl, by kernel_rfl, ⟨_, rfl, by kernel_rfl⟩⟩
/-- func(int) (int, bool) -/
def ti262 : TI := { d := .other, size := 1, bytes := 8, zero := .s .nilfunc }
theorem ti262_ok : TIok Tryz.prog 262 ti262 := ⟨⟨_, _, _, Tryz.underlying262⟩, by kernel_rfl, by kernel_rfl, ⟨_, rfl, by kernel_rfl⟩⟩
/-- func(api.Pmp, int) (bool, bool) -/
def ti263 : TI := { d := .other, size := 1, bytes := 8, zero := .s .nilfunc }
theorem ti263_ok : TIok Tryz.prog 263 ti263 := ⟨⟨_, _, _, Tryz.underlying263⟩, by kernel_rfl, by kernel_rfl, ⟨_, rfl, by kernel_rfl⟩⟩
/-- *bus.ram -/
def ti264 : TI := { d := .ptr 106, size := 1, bytes := 8, zero := .s .nilptr }
theorem ti264_ok : TIok Tryz.prog 264 ti264 := ⟨Tryz.underlying264, by kernel_rfl, by kernel_rfl, ⟨_, rfl, by kernel_rfl⟩⟩
/-- trap.interrupt -/
def ti265 : TI := { d := .int .u64, size := 1, bytes := 8, zero := .s (.int .u64 0) }
theorem ti265_ok : TIok Tryz.prog 265 ti265 := ⟨Tryz.underlying265, by kernel_rfl, by kernel_rfl, ⟨_, rfl, by kernel_rfl⟩⟩
/-- trap.exception -/
def ti266 : TI := { d := .int .u64, size := 1, bytes := 8, zero := .s (.int .u64 0) }
theorem ti266_ok : TIok Tryz.prog 266 ti266 := ⟨Tryz.underlying266, by kernel_rfl, by kernel_rfl, ⟨_, rfl, by kernel_rfl⟩⟩
/-- func(api.Pmp, int) (uint64, uint64, bool) -/
def ti268 : TI := { d := .other, size := 1, bytes := 8, zero := .s .nilfunc }
theorem ti268_ok : TIok Tryz.prog 268 ti268 := ⟨⟨_, _, _, Tryz.underlying268⟩, by kernel_rfl, by kernel_rfl, ⟨_, rfl, by kernel_rfl⟩⟩
/-- *bus.finisher -/
def ti269 : TI := { d := .ptr 108, size := 1, bytes := 8, zero := .s .nilptr }
theorem ti269_ok : TIok Tryz.prog 269 ti269 := ⟨Tryz.underlying269, by kernel_rfl, by kernel_rfl, ⟨_, rfl, by kernel_rfl⟩⟩
/-- *bus.clint -/
def ti270 : TI := { d := .ptr 110, size := 1, bytes := 8, zero := .s .nilptr }
theorem ti270_ok : TIok Tryz.prog 270 ti270 := ⟨Tryz.underlying270, by kernel_rfl, by kernel_rfl, ⟨_, rfl, by kernel_rfl⟩⟩
/-- func(uint8) int -/
def ti271 : TI := { d := .other, size := 1, bytes := 8, zero := .s .nilfunc }
theorem ti271_ok : TIok Tryz.prog 271 ti271 := ⟨⟨_, _, _, Tryz.underlying271⟩, by kernel_rfl, by kernel_rfl, ⟨_, rfl, by kernel_rfl⟩⟩
/-- func(uint32, int, int, int) uint32 -/
def ti272 : TI := { d := .other, size := 1, bytes := 8, zero := .s .nilfunc }
theorem ti272_ok : TIok Tryz.prog 272 ti272 := ⟨⟨_, _, _, Tryz.underlying272⟩, by kernel_rfl, by kernel_rfl, ⟨_, rfl, by kernel_rfl⟩⟩
/-- func(uint32, uint32, uint32, uint32, uint32) (uint32, bool) -/
def ti273 : TI := { d := .other, size := 1, bytes := 8, zero := .s .nilfunc }
theorem ti273_ok : TIok Tryz.prog 273 ti273 := ⟨⟨_, _, _, Tryz.underlying273⟩, by kernel_rfl, by kernel_rfl, ⟨_, rfl, by kernel_rfl⟩⟩
/-- func(uint32) uint32 -/
def ti274 : TI := { d := .other, size := 1, bytes := 8, zero := .s .nilfunc }
theorem ti274_ok : TIok Tryz.prog 274 ti274 := ⟨⟨_, _, _, Tryz.underlying274⟩, by kernel_rfl, by kernel_rfl, ⟨_, rfl, by kernel_rfl⟩⟩
/-- func(uint32, uint32, uint32, uint32) (uint32, bool) -/
def ti275 : TI := { d := .other, size := 1, bytes := 8, zero := .s .nilfunc }
theorem ti275_ok : TIok Tryz.prog 275 ti275 := ⟨⟨_, _, _, Tryz.underlying275⟩, by kernel_rfl, by kernel_rfl, ⟨_, rfl, by kernel_rfl⟩⟩
/-- func(uint32, uint32, uint32, uint32, uint32, uint32) (uint32, bool) -/
def ti276 : TI := { d := .other, size := 1, bytes := 8, zero := .s .nilfunc }
theorem ti276_ok : TIok Tryz.prog 276 ti276 := ⟨⟨_, _, _, Tryz.underlying276⟩, by kernel_rfl, by kernel_rfl, ⟨_, rfl, by kernel_rfl⟩⟩
/-- func(uint32, uint32) (uint32, bool) -/
def ti277 : TI := { d := .other, size := 1, bytes := 8, zero := .s .nilfunc }
theorem ti277_ok : TIok Tryz.prog 277 ti277 := ⟨⟨_, _, _, Tryz.underlying277⟩, by kernel_rfl, by kernel_rfl, ⟨_, rfl, by kernel_rfl⟩⟩
/-- func() string -/
def ti278 : TI := { d := .other, size := 1, bytes := 8, zero := .s .nilfunc }
theorem ti278_ok : TIok Tryz.prog 278 ti278 := ⟨⟨_, _, _, Tryz.underlying278⟩, by kernel_rfl, by kernel_rfl, ⟨_, rfl, by kernel_rfl⟩⟩
/-- struct { _interface *abi.Type; concrete *abi.Type; asserted *abi.Type; missingMethod string } -/
def ti279 : TI := { d := .struct [(17, 0), (17, 1), (17, 2), (9, 3)], size := 4, bytes := 40, zero := .agg [.one .nilptr, .one .nilptr, .one .nilptr, .one (.str .empty)] }
theorem ti279_ok : TIok Tryz.prog 279 ti279 := ⟨⟨_, Tryz.underlying279, by rfl⟩, by kernel_rfl, by kernel_rfl, ⟨_, rfl, by kernel_rfl⟩⟩
/-- runtime.TypeAssertionError -/
def ti280 : TI := { d := .struct [(17, 0), (17, 1), (17, 2), (9, 3)], size := 4, bytes := 40, zero := .agg [.one .nilptr, .one .nilptr, .one .nilptr, .one (.str .empty)] }
theorem ti280_ok : TIok Tryz.prog 280 ti280 := ⟨⟨_, Tryz.underlying280, by rfl⟩, by kernel_rfl, by kernel_rfl, ⟨_, rfl, by kernel_rfl⟩⟩
/-- abi.TFlag -/
def ti284 : TI := { d := .int .u8, size := 1, bytes := 1, zero := .s (.int .u8 0) }
theorem ti284_ok : TIok Tryz.prog 284 ti284 := ⟨Tryz.underlying284, by kernel_rfl, by kernel_rfl, ⟨_, rfl, by kernel_rfl⟩⟩
/-- abi.Kind -/
def ti285 : TI := { d := .int .u8, size := 1, bytes := 1, zero := .s (.int .u8 0) }
theorem ti285_ok : TIok Tryz.prog 285 ti285 := ⟨Tryz.underlying285, by kernel_rfl, by kernel_rfl, ⟨_, rfl, by kernel_rfl⟩⟩
/-- func(unsafe.Pointer, unsafe.Pointer) bool -/
def ti286 : TI := { d := .other, size := 1, bytes := 8, zero := .s .nilfunc }
theorem ti286_ok : TIok Tryz.prog 286 ti286 := ⟨⟨_, _, _, Tryz.underlying286⟩, by kernel_rfl, by kernel_rfl, ⟨_, rfl, by kernel_rfl⟩⟩
/-- abi.NameOff -/
def ti287 : TI := { d := .int .i32, size := 1, bytes := 4, zero := .s (.int .i32 0) }
theorem ti287_ok : TIok Tryz.prog 287 ti287 := ⟨Tryz.underlying287, by kernel_rfl, by kernel_rfl, ⟨_, rfl, by kernel_rfl⟩⟩
/-- abi.TypeOff -/
def ti288 : TI := { d := .int .i32, size := 1, bytes := 4, zero := .s (.int .i32 0) }
theorem ti288_ok : TIok Tryz.prog 288 ti288 := ⟨Tryz.underlying288, by kernel_rfl, by kernel_rfl, ⟨_, rfl, by kernel_rfl⟩⟩
/-- struct { Size_ uintptr; PtrBytes uintptr; Hash uint32; TFlag abi.TFlag; Align_ uint8; FieldAlign_ uint8; Kind_ abi.Kind; Equal func(unsafe.Pointer, unsafe.Pointer) bool; GCData *uint8; Str abi.NameOff; PtrToThis abi.TypeOff } -/
def ti289 : TI := { d := .struct [(12, 0), (12, 1), (33, 2), (284, 3), (5, 4), (5, 5), (285, 6), (286, 7), (145, 8), (287, 9), (288, 10)], size := 11, bytes := 48, zero := .agg [.one (.int .u64 0), .one (.int .u64 0), .one (.int .u32 0), .one (.int .u8 0), .one (.int .u8 0), .one (.int .u8 0), .one (.int .u8 0), .one .nilfunc, .one .nilptr, .one (.int .i32 0), .one (.int .i32 0)] }
theorem ti289_ok : TIok Tryz.prog 289 ti289 := ⟨⟨_, Tryz.underlying289, by rfl⟩, by kernel_rfl, by kernel_rfl, ⟨_, rfl, by kernel_rfl⟩⟩
/-- abi.Type -/
def ti290 : TI := { d := .struct [(12, 0), (12, 1), (33, 2), (284, 3), (5, 4), (5, 5), (285, 6), (286, 7), (145, 8), (287, 9), (288, 10)], size := 11, bytes := 48, zero := .agg [.one (.int .u64 0), .one (.int .u64 0), .one (.int .u32 0), .one (.int .u8 0), .one (.int .u8 0), .one (.int .u8 0), .one (.int .u8 0), .one .nilfunc, .one .nilptr, .one (.int .i32 0), .one (.int .i32 0)] }
theorem ti290_ok : TIok Tryz.prog 290 ti290 := ⟨⟨_, Tryz.underlying290, by rfl⟩, by kernel_rfl, by kernel_rfl, ⟨_, rfl, by kernel_rfl⟩⟩
/-- func(uint64, int) *uint64 -/
def ti291 : TI := { d := .other, size := 1, bytes := 8, zero := .s .nilfunc }
theorem ti291_ok : TIok Tryz.prog 291 ti291 := ⟨⟨_, _, _, Tryz.underlying291⟩, by kernel_rfl, by kernel_rfl, ⟨_, rfl, by kernel_rfl⟩⟩
/-- struct { at uint64; v *uint64 } -/
def ti292 : TI := { d := .struct [(22, 0), (138, 1)], size := 2, bytes := 16, zero := .agg [.one (.int .u64 0), .one .nilptr] }
theorem ti292_ok : TIok Tryz.prog 292 ti292 := ⟨⟨_, Tryz.underlying292, by rfl⟩, by kernel_rfl, by kernel_rfl, ⟨_, rfl, by kernel_rfl⟩⟩
/-- []struct { at uint64; v *uint64 } -/
def ti293 : TI := { d := .slice 292, size := 1, bytes := 24, zero := .s .nilslice }
theorem ti293_ok : TIok Tryz.prog 293 ti293 := ⟨Tryz.underlying293, by kernel_rfl, by kernel_rfl, ⟨_, rfl, by kernel_rfl⟩⟩
def tys : List (List (Option TI)) := [
  [none, some ti1, some ti2, some ti3, some ti4, some ti5, some ti6, some ti7, some ti8, some ti9, some ti10, some ti11, some ti12, some ti13, some ti14, some ti15],
  [some ti16, some ti17, some ti18, some ti19, some ti20, some ti21, some ti22, some ti23, some ti24, some ti25, some ti26, some ti27, some ti28, some ti29, some ti30, some ti31],
  [some ti32, some ti33, some ti34, some ti35, some ti36, none, some ti38, some ti39, some ti40, some ti41, some ti42, some ti43, some ti44, none, some ti46, some ti47],
  [some ti48, some ti49, some ti50, some ti51, some ti52, none, some ti54, some ti55, some ti56, some ti57, some ti58, none, some ti60, some ti61, some ti62, some ti63],
  [some ti64, some ti65, some ti66, some ti67, some ti68, none, some ti70, some ti71, some ti72, some ti73, some ti74, some ti75, some ti76, none, some ti78, some ti79],
  [some ti80, some ti81, some ti82, some ti83, some ti84, some ti85, some ti86, some ti87, none, some ti89, some ti90, some ti91, some ti92, some ti93, some ti94, some ti95],
  [some ti96, some ti97, some ti98, some ti99, some ti100, some ti101, some ti102, some ti103, some ti104, some ti105, some ti106, some ti107, some ti108, some ti109, some ti110, none],
  [none, some ti113, some ti114, some ti115, some ti116, some ti117, some ti118, some ti119, some ti120, some ti121, some ti122, some ti123, some ti124, some ti125, some ti126, some ti127],
  [some ti128, none, some ti130, some ti131, some ti132, some ti133, some ti134, some ti135, some ti136, some ti137, some ti138, some ti139, some ti140, some ti141, some ti142, some ti143],
  [some ti144, some ti145, some ti146, some ti147, some ti148, some ti149, some ti150, some ti151, some ti152, some ti153, some ti154, some ti155, some ti156, none, some ti158, some ti159],
  [some ti160, none, some ti162, some ti163, some ti164, some ti165, none, some ti167, none, some ti169, none, some ti171, some ti172, some ti173, some ti174, none],
  [some ti176, none, some ti178, none, some ti180, none, some ti182, some ti183, none, some ti185, some ti186, some ti187, some ti188, some ti189, some ti190, some ti191],
  [some ti192, some ti193, some ti194, some ti195, some ti196, some ti197, some ti198, some ti199, some ti200, some ti201, some ti202, some ti203, some ti204, some ti205, some ti206, some ti207],
  [none, some ti209, some ti210, some ti211, some ti212, some ti213, some ti214, some ti215, none, some ti217, some ti218, some ti219, some ti220, some ti221, some ti222, some ti223],
  [some ti224, some ti225, some ti226, some ti227, some ti228, some ti229, some ti230, some ti231, some ti232, some ti233, some ti234, some ti235, some ti236, some ti237, some ti238, some ti239],
  [some ti240, some ti241, some ti242, none, some ti244, some ti245, some ti246, some ti247, some ti248, some ti249, some ti250, some ti251, some ti252, some ti253, some ti254, some ti255],
  [some ti256, some ti257, some ti258, some ti259, some ti260, some ti261, some ti262, some ti263, some ti264, some ti265, some ti266, none, some ti268, some ti269, some ti270, some ti271],
  [some ti272, some ti273, some ti274, some ti275, some ti276, some ti277, some ti278, some ti279, some ti280, none, none, none, some ti284, some ti285, some ti286, some ti287],
  [some ti288, some ti289, some ti290, some ti291, some ti292, some ti293]]
theorem tys_ok : okR Tryz.prog 0 tys :=
  ⟨⟨ti1_ok, ti2_ok, ti3_ok, ti4_ok, ti5_ok, ti6_ok, ti7_ok, ti8_ok, ti9_ok, ti10_ok, ti11_ok, ti12_ok, ti13_ok, ti14_ok, ti15_ok, trivial⟩,
   ⟨ti16_ok, ti17_ok, ti18_ok, ti19_ok, ti20_ok, ti21_ok, ti22_ok, ti23_ok, ti24_ok, ti25_ok, ti26_ok, ti27_ok, ti28_ok, ti29_ok, ti30_ok, ti31_ok, trivial⟩,
   ⟨ti32_ok, ti33_ok, ti34_ok, ti35_ok, ti36_ok, ti38_ok, ti39_ok, ti40_ok, ti41_ok, ti42_ok, ti43_ok, ti44_ok, ti46_ok, ti47_ok, trivial⟩,
   ⟨ti48_ok, ti49_ok, ti50_ok, ti51_ok, ti52_ok, ti54_ok, ti55_ok, ti56_ok, ti57_ok, ti58_ok, ti60_ok, ti61_ok, ti62_ok, ti63_ok, trivial⟩,
   ⟨ti64_ok, ti65_ok, ti66_ok, ti67_ok, ti68_ok, ti70_ok, ti71_ok, ti72_ok, ti73_ok, ti74_ok, ti75_ok, ti76_ok, ti78_ok, ti79_ok, trivial⟩,
   ⟨ti80_ok, ti81_ok, ti82_ok, ti83_ok, ti84_ok, ti85_ok, ti86_ok, ti87_ok, ti89_ok, ti90_ok, ti91_ok, ti92_ok, ti93_ok, ti94_ok, ti95_ok, trivial⟩,
   ⟨ti96_ok, ti97_ok, ti98_ok, ti99_ok, ti100_ok, ti101_ok, ti102_ok, ti103_ok, ti104_ok, ti105_ok, ti106_ok, ti107_ok, ti108_ok, ti109_ok, ti110_ok, trivial⟩,
   ⟨ti113_ok, ti114_ok, ti115_ok, ti116_ok, ti117_ok, ti118_ok, ti119_ok, ti120_ok, ti121_ok, ti122_ok, ti123_ok, ti124_ok, ti125_ok, ti126_ok, ti127_ok, trivial⟩,
   ⟨ti128_ok, ti130_ok, ti131_ok, ti132_ok, ti133_ok, ti134_ok, ti135_ok, ti136_ok, ti137_ok, ti138_ok, ti139_ok, ti140_ok, ti141_ok, ti142_ok, ti143_ok, trivial⟩,
   ⟨ti144_ok, ti145_ok, ti146_ok, ti147_ok, ti148_ok, ti149_ok, ti150_ok, ti151_ok, ti152_ok, ti153_ok, ti154_ok, ti155_ok, ti156_ok, ti158_ok, ti159_ok, trivial⟩,
   ⟨ti160_ok, ti162_ok, ti163_ok, ti164_ok, ti165_ok, ti167_ok, ti169_ok, ti171_ok, ti172_ok, ti173_ok, ti174_ok, trivial⟩,
   ⟨ti176_ok, ti178_ok, ti180_ok, ti182_ok, ti183_ok, ti185_ok, ti186_ok, ti187_ok, ti188_ok, ti189_ok, ti190_ok, ti191_ok, trivial⟩,
   ⟨ti192_ok, ti193_ok, ti194_ok, ti195_ok, ti196_ok, ti197_ok, ti198_ok, ti199_ok, ti200_ok, ti201_ok, ti202_ok, ti203_ok, ti204_ok, ti205_ok, ti206_ok, ti207_ok, trivial⟩,
   ⟨ti209_ok, ti210_ok, ti211_ok, ti212_ok, ti213_ok, ti214_ok, ti215_ok, ti217_ok, ti218_ok, ti219_ok, ti220_ok, ti221_ok, ti222_ok, ti223_ok, trivial⟩,
   ⟨ti224_ok, ti225_ok, ti226_ok, ti227_ok, ti228_ok, ti229_ok, ti230_ok, ti231_ok, ti232_ok, ti233_ok, ti234_ok, ti235_ok, ti236_ok, ti237_ok, ti238_ok, ti239_ok, trivial⟩,
   ⟨ti240_ok, ti241_ok, ti242_ok, ti244_ok, ti245_ok, ti246_ok, ti247_ok, ti248_ok, ti249_ok, ti250_ok, ti251_ok, ti252_ok, ti253_ok, ti254_ok, ti255_ok, trivial⟩,
   ⟨ti256_ok, ti257_ok, ti258_ok, ti259_ok, ti260_ok, ti261_ok, ti262_ok, ti263_ok, ti264_ok, ti265_ok, ti266_ok, ti268_ok, ti269_ok, ti270_ok, ti271_ok, trivial⟩,
   ⟨ti272_ok, ti273_ok, ti274_ok, ti275_ok, ti276_ok, ti277_ok, ti278_ok, ti279_ok, ti280_ok, ti284_ok, ti285_ok, ti286_ok, ti287_ok, trivial⟩,
   ⟨ti288_ok, ti289_ok, ti290_ok, ti291_ok, ti292_ok, ti293_ok, trivial⟩, trivial⟩
theorem pt23 (n : Nat) : PTn Tryz.prog (n + 1) 23 true [.arr .u64 32] := .inr (.inr (.inl ⟨_, _, _, Tryz.underlying23, Tryz.underlying22, by kernel_rfl, by kernel_rfl, rfl, rfl⟩))
theorem pt24 (n : Nat) : PTn Tryz.prog (n + 1) 24 true [.arr .u8 16] := .inr (.inr (.inl ⟨_, _, _, Tryz.underlying24, Tryz.underlying5, by kernel_rfl, by kernel_rfl, rfl, rfl⟩))
theorem pt25 (n : Nat) : PTn Tryz.prog (n + 1) 25 true [.arr .u64 16] := .inr (.inr (.inl ⟨_, _, _, Tryz.underlying25, Tryz.underlying22, by kernel_rfl, by kernel_rfl, rfl, rfl⟩))
theorem pt27 (n : Nat) : PTn Tryz.prog (n + 2) 27 true [.arr .u8 16, .arr .u64 16] := .inr (.inr (.inr ⟨_, Tryz.underlying27, by kernel_rfl, by kernel_rfl, rfl, ⟨true, [.arr .u8 16], _, rfl, by decide, rfl, pt24 (n + 0), ⟨true, [.arr .u64 16], _, rfl, by decide, rfl, pt25 (n + 0), rfl⟩⟩⟩))
theorem pt29 (n : Nat) : PTn Tryz.prog (n + 2) 29 true [.bool, .int .u64, .int .i64] := .inr (.inr (.inr ⟨_, Tryz.underlying29, by kernel_rfl, by kernel_rfl, rfl, ⟨false, [.bool], _, rfl, by decide, rfl, .inr (.inl ⟨Tryz.underlying4, rfl, rfl⟩), ⟨false, [.int .u64], _, rfl, by decide, rfl, .inl ⟨_, Tryz.underlying22, rfl, rfl⟩, ⟨false, [.int .i64], _, rfl, by decide, rfl, .inl ⟨_, Tryz.underlying3, rfl, rfl⟩, rfl⟩⟩⟩⟩))
theorem pt31 (n : Nat) : PTn Tryz.prog (n + 3) 31 true [.int .u64, .arr .u64 32, .int .i64, .bool, .int .u64, .int .u64, .int .u64, .int .u64, .int .u64, .int .u64, .int .u64, .int .u64, .int .u64, .int .u64, .int .u64, .int .u64, .arr .u8 16, .arr .u64 16, .bool, .int .u64, .int .i64] := .inr (.inr (.inr ⟨_, Tryz.underlying31, by kernel_rfl, by kernel_rfl, rfl, ⟨false, [.int .u64], _, rfl, by decide, rfl, .inl ⟨_, Tryz.underlying22, rfl, rfl⟩, ⟨true, [.arr .u64 32], _, rfl, by decide, rfl, pt23 (n + 1), ⟨false, [.int .i64], _, rfl, by decide, rfl, .inl ⟨_, Tryz.underlying3, rfl, rfl⟩, ⟨false, [.bool], _, rfl, by decide, rfl, .inr (.inl ⟨Tryz.underlying4, rfl, rfl⟩), ⟨false, [.int .u64], _, rfl, by decide, rfl, .inl ⟨_, Tryz.underlying22, rfl, rfl⟩, ⟨false, [.int .u64], _, rfl, by decide, rfl, .inl ⟨_, Tryz.underlying22, rfl, rfl⟩, ⟨false, [.int .u64], _, rfl, by decide, rfl, .inl ⟨_, Tryz.underlying22, rfl, rfl⟩, ⟨false, [.int .u64], _, rfl, by decide, rfl, .inl ⟨_, Tryz.underlying22, rfl, rfl⟩, ⟨false, [.int .u64], _, rfl, by decide, rfl, .inl ⟨_, Tryz.underlying22, rfl, rfl⟩, ⟨false, [.int .u64], _, rfl, by decide, rfl, .inl ⟨_, Tryz.underlying22, rfl, rfl⟩, ⟨false, [.int .u64], _, rfl, by decide, rfl, .inl ⟨_, Tryz.underlying22, rfl, rfl⟩, ⟨false, [.int .u64], _, rfl, by decide, rfl, .inl ⟨_, Tryz.underlying22, rfl, rfl⟩, ⟨false, [.int .u64], _, rfl, by decide, rfl, .inl ⟨_, Tryz.underlying22, rfl, rfl⟩, ⟨false, [.int .u64], _, rfl, by decide, rfl, .inl ⟨_, Tryz.underlying22, rfl, rfl⟩, ⟨false, [.int .u64], _, rfl, by decide, rfl, .inl ⟨_, Tryz.underlying22, rfl, rfl⟩, ⟨false, [.int .u64], _, rfl, by decide, rfl, .inl ⟨_, Tryz.underlying22, rfl, rfl⟩, ⟨true, [.arr .u8 16, .arr .u64 16], _, rfl, by decide, rfl, pt27 (n + 0), ⟨true, [.bool, .int .u64, .int .i64], _, rfl, by decide, rfl, pt29 (n + 0), rfl⟩⟩⟩⟩⟩⟩⟩⟩⟩⟩⟩⟩⟩⟩⟩⟩⟩⟩⟩))
theorem pt42 (n : Nat) : PTn Tryz.prog (n + 2) 42 true [.bool, .int .u64, .int .u64] := .inr (.inr (.inr ⟨_, Tryz.underlying42, by kernel_rfl, by kernel_rfl, rfl, ⟨false, [.bool], _, rfl, by decide, rfl, .inr (.inl ⟨Tryz.underlying4, rfl, rfl⟩), ⟨false, [.int .u64], _, rfl, by decide, rfl, .inl ⟨_, Tryz.underlying22, rfl, rfl⟩, ⟨false, [.int .u64], _, rfl, by decide, rfl, .inl ⟨_, Tryz.underlying22, rfl, rfl⟩, rfl⟩⟩⟩⟩))
theorem pt44 (n : Nat) : PTn Tryz.prog (n + 3) 44 true [.bool, .int .u64, .int .u64, .int .i64, .int .u64, .int .i64, .int .u64, .int .i64, .int .u64, .bool, .bool] := .inr (.inr (.inr ⟨_, Tryz.underlying44, by kernel_rfl, by kernel_rfl, rfl, ⟨true, [.bool, .int .u64, .int .u64], _, rfl, by decide, rfl, pt42 (n + 0), ⟨false, [.int .i64], _, rfl, by decide, rfl, .inl ⟨_, Tryz.underlying3, rfl, rfl⟩, ⟨false, [.int .u64], _, rfl, by decide, rfl, .inl ⟨_, Tryz.underlying22, rfl, rfl⟩, ⟨false, [.int .i64], _, rfl, by decide, rfl, .inl ⟨_, Tryz.underlying3, rfl, rfl⟩, ⟨false, [.int .u64], _, rfl, by decide, rfl, .inl ⟨_, Tryz.underlying22, rfl, rfl⟩, ⟨false, [.int .i64], _, rfl, by decide, rfl, .inl ⟨_, Tryz.underlying3, rfl, rfl⟩, ⟨false, [.int .u64], _, rfl, by decide, rfl, .inl ⟨_, Tryz.underlying22, rfl, rfl⟩, ⟨false, [.bool], _, rfl, by decide, rfl, .inr (.inl ⟨Tryz.underlying4, rfl, rfl⟩), ⟨false, [.bool], _, rfl, by decide, rfl, .inr (.inl ⟨Tryz.underlying4, rfl, rfl⟩), rfl⟩⟩⟩⟩⟩⟩⟩⟩⟩⟩))
theorem pt48 (n : Nat) : PTn Tryz.prog (n + 2) 48 true [.int .i64, .int .i64, .int .i64, .int .i64, .int .i64, .bool, .bool, .int .i64, .int .u32] := .inr (.inr (.inr ⟨_, Tryz.underlying48, by kernel_rfl, by kernel_rfl, rfl, ⟨false, [.int .i64], _, rfl, by decide, rfl, .inl ⟨_, Tryz.underlying3, rfl, rfl⟩, ⟨false, [.int .i64], _, rfl, by decide, rfl, .inl ⟨_, Tryz.underlying3, rfl, rfl⟩, ⟨false, [.int .i64], _, rfl, by decide, rfl, .inl ⟨_, Tryz.underlying3, rfl, rfl⟩, ⟨false, [.int .i64], _, rfl, by decide, rfl, .inl ⟨_, Tryz.underlying3, rfl, rfl⟩, ⟨false, [.int .i64], _, rfl, by decide, rfl, .inl ⟨_, Tryz.underlying2, rfl, rfl⟩, ⟨false, [.bool], _, rfl, by decide, rfl, .inr (.inl ⟨Tryz.underlying4, rfl, rfl⟩), ⟨false, [.bool], _, rfl, by decide, rfl, .inr (.inl ⟨Tryz.underlying4, rfl, rfl⟩), ⟨false, [.int .i64], _, rfl, by decide, rfl, .inl ⟨_, Tryz.underlying3, rfl, rfl⟩, ⟨false, [.int .u32], _, rfl, by decide, rfl, .inl ⟨_, Tryz.underlying33, rfl, rfl⟩, rfl⟩⟩⟩⟩⟩⟩⟩⟩⟩⟩))
theorem pt87 (n : Nat) : PTn Tryz.prog (n + 2) 87 true [.int .i64, .int .i64, .int .i64, .int .u64, .int .u32, .int .i64, .int .u64, .int .u64, .int .i64, .int .u64, .int .i64, .int .u64, .int .i64, .int .u64, .int .u64, .int .i64] := .inr (.inr (.inr ⟨_, Tryz.underlying87, by kernel_rfl, by kernel_rfl, rfl, ⟨false, [.int .i64], _, rfl, by decide, rfl, .inl ⟨_, Tryz.underlying3, rfl, rfl⟩, ⟨false, [.int .i64], _, rfl, by decide, rfl, .inl ⟨_, Tryz.underlying3, rfl, rfl⟩, ⟨false, [.int .i64], _, rfl, by decide, rfl, .inl ⟨_, Tryz.underlying3, rfl, rfl⟩, ⟨false, [.int .u64], _, rfl, by decide, rfl, .inl ⟨_, Tryz.underlying22, rfl, rfl⟩, ⟨false, [.int .u32], _, rfl, by decide, rfl, .inl ⟨_, Tryz.underlying33, rfl, rfl⟩, ⟨false, [.int .i64], _, rfl, by decide, rfl, .inl ⟨_, Tryz.underlying3, rfl, rfl⟩, ⟨false, [.int .u64], _, rfl, by decide, rfl, .inl ⟨_, Tryz.underlying22, rfl, rfl⟩, ⟨false, [.int .u64], _, rfl, by decide, rfl, .inl ⟨_, Tryz.underlying22, rfl, rfl⟩, ⟨false, [.int .i64], _, rfl, by decide, rfl, .inl ⟨_, Tryz.underlying3, rfl, rfl⟩, ⟨false, [.int .u64], _, rfl, by decide, rfl, .inl ⟨_, Tryz.underlying22, rfl, rfl⟩, ⟨false, [.int .i64], _, rfl, by decide, rfl, .inl ⟨_, Tryz.underlying3, rfl, rfl⟩, ⟨false, [.int .u64], _, rfl, by decide, rfl, .inl ⟨_, Tryz.underlying22, rfl, rfl⟩, ⟨false, [.int .i64], _, rfl, by decide, rfl, .inl ⟨_, Tryz.underlying3, rfl, rfl⟩, ⟨false, [.int .u64], _, rfl, by decide, rfl, .inl ⟨_, Tryz.underlying22, rfl, rfl⟩, ⟨false, [.int .u64], _, rfl, by decide, rfl, .inl ⟨_, Tryz.underlying22, rfl, rfl⟩, ⟨false, [.int .i64], _, rfl, by decide, rfl, .inl ⟨_, Tryz.underlying3, rfl, rfl⟩, rfl⟩⟩⟩⟩⟩⟩⟩⟩⟩⟩⟩⟩⟩⟩⟩⟩⟩))
theorem pt195 (n : Nat) : PTn Tryz.prog (n + 1) 195 true [.arr .i64 97] := .inr (.inr (.inl ⟨_, _, _, Tryz.underlying195, Tryz.underlying3, by kernel_rfl, by kernel_rfl, rfl, rfl⟩))
theorem pt214 (n : Nat) : PTn Tryz.prog (n + 1) 214 true [.arr .i64 3] := .inr (.inr (.inl ⟨_, _, _, Tryz.underlying214, Tryz.underlying3, by kernel_rfl, by kernel_rfl, rfl, rfl⟩))
def eqs : List (Nat × List KS) := [(23, [.arr .u64 32]),
  (24, [.arr .u8 16]),
  (25, [.arr .u64 16]),
  (27, [.arr .u8 16, .arr .u64 16]),
  (29, [.bool, .int .u64, .int .i64]),
  (31, [.int .u64, .arr .u64 32, .int .i64, .bool, .int .u64, .int .u64, .int .u64, .int .u64, .int .u64, .int .u64, .int .u64, .int .u64, .int .u64, .int .u64, .int .u64, .int .u64, .arr .u8 16, .arr .u64 16, .bool, .int .u64, .int .i64]),
  (42, [.bool, .int .u64, .int .u64]),
  (44, [.bool, .int .u64, .int .u64, .int .i64, .int .u64, .int .i64, .int .u64, .int .i64, .int .u64, .bool, .bool]),
  (48, [.int .i64, .int .i64, .int .i64, .int .i64, .int .i64, .bool, .bool, .int .i64, .int .u32]),
  (87, [.int .i64, .int .i64, .int .i64, .int .u64, .int .u32, .int .i64, .int .u64, .int .u64, .int .i64, .int .u64, .int .i64, .int .u64, .int .i64, .int .u64, .int .u64, .int .i64]),
  (195, [.arr .i64 97]),
  (214, [.arr .i64 3])]
theorem eqs_ok : okE Tryz.prog eqs := ⟨⟨by kernel_rfl, _, by decide, pt23 0⟩,
  ⟨by kernel_rfl, _, by decide, pt24 0⟩,
  ⟨by kernel_rfl, _, by decide, pt25 0⟩,
  ⟨by kernel_rfl, _, by decide, pt27 0⟩,
  ⟨by kernel_rfl, _, by decide, pt29 0⟩,
  ⟨by kernel_rfl, _, by decide, pt31 0⟩,
  ⟨by kernel_rfl, _, by decide, pt42 0⟩,
  ⟨by kernel_rfl, _, by decide, pt44 0⟩,
  ⟨by kernel_rfl, _, by decide, pt48 0⟩,
  ⟨by kernel_rfl, _, by decide, pt87 0⟩,
  ⟨by kernel_rfl, _, by decide, pt195 0⟩,
  ⟨by kernel_rfl, _, by decide, pt214 0⟩,
  trivial⟩
def mths : List (Nat × List (String × FuncId)) := [(36, [("Begin", 71), ("Can", 112), ("IsRam", 121), ("Load", 113), ("Mip", 96), ("Off", 69), ("Store", 114), ("Time", 97), ("anvil/bus.at", 142), ("anvil/bus.devices", 211)]),
  (78, [("anvil/exec.atomic", 68), ("anvil/exec.auipc", 52), ("anvil/exec.branch", 55), ("anvil/exec.conditional", 67), ("anvil/exec.ebreak", 62), ("anvil/exec.ecall", 61), ("anvil/exec.illegal", 32), ("anvil/exec.imm", 81), ("anvil/exec.immediate", 58), ("anvil/exec.jal", 53), ("anvil/exec.jalr", 54), ("anvil/exec.load", 56), ("anvil/exec.lui", 51), ("anvil/exec.mret", 63), ("anvil/exec.nothing", 60), ("anvil/exec.put", 80), ("anvil/exec.registers", 59), ("anvil/exec.reserve", 66), ("anvil/exec.size", 99), ("anvil/exec.status", 65), ("anvil/exec.store", 57), ("anvil/exec.touched", 89), ("anvil/exec.wfi", 64), ("anvil/exec.x1", 82), ("anvil/exec.x2", 84)]),
  (92, [("anvil/save.bytes", 36), ("anvil/save.double", 267), ("anvil/save.flag", 268), ("anvil/save.list", 269), ("anvil/save.number", 39), ("anvil/save.octet", 270), ("anvil/save.pages", 38), ("anvil/save.place", 271), ("anvil/save.word", 272)]),
  (100, [("anvil/save.double", 273), ("anvil/save.flag", 274), ("anvil/save.list", 275), ("anvil/save.number", 42), ("anvil/save.octet", 276), ("anvil/save.pages", 43), ("anvil/save.place", 277), ("anvil/save.take", 77), ("anvil/save.word", 278)]),
  (154, [("anvil/bus.here", 279), ("anvil/bus.join", 103), ("anvil/bus.load", 280), ("anvil/bus.raised", 192), ("anvil/bus.read", 282), ("anvil/bus.set", 46), ("anvil/bus.status", 283), ("anvil/bus.store", 281), ("anvil/bus.up", 120)]),
  (203, [("anvil/csr.clock", 182), ("anvil/csr.keepNone", 179), ("anvil/csr.misa", 178), ("anvil/csr.one", 184), ("anvil/csr.pending", 181), ("anvil/csr.setStatus", 177), ("anvil/csr.status", 176), ("anvil/csr.table", 119), ("anvil/csr.zero", 183)]),
  (264, [("anvil/bus.here", 284), ("anvil/bus.holds", 193), ("anvil/bus.load", 285), ("anvil/bus.store", 286)]),
  (269, [("anvil/bus.here", 287), ("anvil/bus.load", 288), ("anvil/bus.store", 289)]),
  (270, [("anvil/bus.here", 290), ("anvil/bus.load", 291), ("anvil/bus.store", 292), ("anvil/bus.word", 293)])]
theorem mths_ok : okM Tryz.prog mths := ⟨⟨⟨_, Tryz.underlying36⟩, ⟨⟨{ name := "Begin", sig := 132, path := #[], func := some (71, true) }, by kernel_rfl, rfl, rfl⟩, ⟨{ name := "Can", sig := 190, path := #[], func := some (112, true) }, by kernel_rfl, rfl, rfl⟩, ⟨{ name := "IsRam", sig := 211, path := #[], func := some (121, true) }, by kernel_rfl, rfl, rfl⟩, ⟨{ name := "Load", sig := 191, path := #[], func := some (113, true) }, by kernel_rfl, rfl, rfl⟩, ⟨{ name := "Mip", sig := 156, path := #[], func := some (96, true) }, by kernel_rfl, rfl, rfl⟩, ⟨{ name := "Off", sig := 130, path := #[], func := some (69, true) }, by kernel_rfl, rfl, rfl⟩, ⟨{ name := "Store", sig := 192, path := #[], func := some (114, true) }, by kernel_rfl, rfl, rfl⟩, ⟨{ name := "Time", sig := 156, path := #[], func := some (97, true) }, by kernel_rfl, rfl, rfl⟩, ⟨{ name := "anvil/bus.at", sig := 240, path := #[], func := some (142, true) }, by kernel_rfl, rfl, rfl⟩, ⟨{ name := "anvil/bus.devices", sig := 261, path := #[], func := some (211, true) }, by kernel_rfl, rfl, rfl⟩, trivial⟩⟩,
  ⟨⟨_, Tryz.underlying78⟩, ⟨⟨{ name := "anvil/exec.atomic", sig := 1, path := #[], func := some (68, true) }, by kernel_rfl, rfl, rfl⟩, ⟨{ name := "anvil/exec.auipc", sig := 1, path := #[], func := some (52, true) }, by kernel_rfl, rfl, rfl⟩, ⟨{ name := "anvil/exec.branch", sig := 1, path := #[], func := some (55, true) }, by kernel_rfl, rfl, rfl⟩, ⟨{ name := "anvil/exec.conditional", sig := 1, path := #[], func := some (67, true) }, by kernel_rfl, rfl, rfl⟩, ⟨{ name := "anvil/exec.ebreak", sig := 1, path := #[], func := some (62, true) }, by kernel_rfl, rfl, rfl⟩, ⟨{ name := "anvil/exec.ecall", sig := 1, path := #[], func := some (61, true) }, by kernel_rfl, rfl, rfl⟩, ⟨{ name := "anvil/exec.illegal", sig := 1, path := #[], func := some (32, true) }, by kernel_rfl, rfl, rfl⟩, ⟨{ name := "anvil/exec.imm", sig := 156, path := #[], func := some (81, true) }, by kernel_rfl, rfl, rfl⟩, ⟨{ name := "anvil/exec.immediate", sig := 1, path := #[], func := some (58, true) }, by kernel_rfl, rfl, rfl⟩, ⟨{ name := "anvil/exec.jal", sig := 1, path := #[], func := some (53, true) }, by kernel_rfl, rfl, rfl⟩, ⟨{ name := "anvil/exec.jalr", sig := 1, path := #[], func := some (54, true) }, by kernel_rfl, rfl, rfl⟩, ⟨{ name := "anvil/exec.load", sig := 1, path := #[], func := some (56, true) }, by kernel_rfl, rfl, rfl⟩, ⟨{ name := "anvil/exec.lui", sig := 1, path := #[], func := some (51, true) }, by kernel_rfl, rfl, rfl⟩, ⟨{ name := "anvil/exec.mret", sig := 1, path := #[], func := some (63, true) }, by kernel_rfl, rfl, rfl⟩, ⟨{ name := "anvil/exec.nothing", sig := 1, path := #[], func := some (60, true) }, by kernel_rfl, rfl, rfl⟩, ⟨{ name := "anvil/exec.put", sig := 155, path := #[], func := some (80, true) }, by kernel_rfl, rfl, rfl⟩, ⟨{ name := "anvil/exec.registers", sig := 1, path := #[], func := some (59, true) }, by kernel_rfl, rfl, rfl⟩, ⟨{ name := "anvil/exec.reserve", sig := 1, path := #[], func := some (66, true) }, by kernel_rfl, rfl, rfl⟩, ⟨{ name := "anvil/exec.size", sig := 174, path := #[], func := some (99, true) }, by kernel_rfl, rfl, rfl⟩, ⟨{ name := "anvil/exec.status", sig := 1, path := #[], func := some (65, true) }, by kernel_rfl, rfl, rfl⟩, ⟨{ name := "anvil/exec.store", sig := 1, path := #[], func := some (57, true) }, by kernel_rfl, rfl, rfl⟩, ⟨{ name := "anvil/exec.touched", sig := 165, path := #[], func := some (89, true) }, by kernel_rfl, rfl, rfl⟩, ⟨{ name := "anvil/exec.wfi", sig := 1, path := #[], func := some (64, true) }, by kernel_rfl, rfl, rfl⟩, ⟨{ name := "anvil/exec.x1", sig := 156, path := #[], func := some (82, true) }, by kernel_rfl, rfl, rfl⟩, ⟨{ name := "anvil/exec.x2", sig := 156, path := #[], func := some (84, true) }, by kernel_rfl, rfl, rfl⟩, trivial⟩⟩,
  ⟨⟨_, Tryz.underlying92⟩, ⟨⟨{ name := "anvil/save.bytes", sig := 95, path := #[], func := some (36, true) }, by kernel_rfl, rfl, rfl⟩, ⟨{ name := "anvil/save.double", sig := 137, path := #[], func := some (267, true) }, by kernel_rfl, rfl, rfl⟩, ⟨{ name := "anvil/save.flag", sig := 141, path := #[], func := some (268, true) }, by kernel_rfl, rfl, rfl⟩, ⟨{ name := "anvil/save.list", sig := 150, path := #[], func := some (269, true) }, by kernel_rfl, rfl, rfl⟩, ⟨{ name := "anvil/save.number", sig := 98, path := #[], func := some (39, true) }, by kernel_rfl, rfl, rfl⟩, ⟨{ name := "anvil/save.octet", sig := 144, path := #[], func := some (270, true) }, by kernel_rfl, rfl, rfl⟩, ⟨{ name := "anvil/save.pages", sig := 95, path := #[], func := some (38, true) }, by kernel_rfl, rfl, rfl⟩, ⟨{ name := "anvil/save.place", sig := 139, path := #[], func := some (271, true) }, by kernel_rfl, rfl, rfl⟩, ⟨{ name := "anvil/save.word", sig := 147, path := #[], func := some (272, true) }, by kernel_rfl, rfl, rfl⟩, trivial⟩⟩,
  ⟨⟨_, Tryz.underlying100⟩, ⟨⟨{ name := "anvil/save.double", sig := 137, path := #[], func := some (273, true) }, by kernel_rfl, rfl, rfl⟩, ⟨{ name := "anvil/save.flag", sig := 141, path := #[], func := some (274, true) }, by kernel_rfl, rfl, rfl⟩, ⟨{ name := "anvil/save.list", sig := 150, path := #[], func := some (275, true) }, by kernel_rfl, rfl, rfl⟩, ⟨{ name := "anvil/save.number", sig := 103, path := #[], func := some (42, true) }, by kernel_rfl, rfl, rfl⟩, ⟨{ name := "anvil/save.octet", sig := 144, path := #[], func := some (276, true) }, by kernel_rfl, rfl, rfl⟩, ⟨{ name := "anvil/save.pages", sig := 104, path := #[], func := some (43, true) }, by kernel_rfl, rfl, rfl⟩, ⟨{ name := "anvil/save.place", sig := 139, path := #[], func := some (277, true) }, by kernel_rfl, rfl, rfl⟩, ⟨{ name := "anvil/save.take", sig := 153, path := #[], func := some (77, true) }, by kernel_rfl, rfl, rfl⟩, ⟨{ name := "anvil/save.word", sig := 147, path := #[], func := some (278, true) }, by kernel_rfl, rfl, rfl⟩, trivial⟩⟩,
  ⟨⟨_, Tryz.underlying154⟩, ⟨⟨{ name := "anvil/bus.here", sig := 211, path := #[], func := some (279, true) }, by kernel_rfl, rfl, rfl⟩, ⟨{ name := "anvil/bus.join", sig := 95, path := #[], func := some (103, true) }, by kernel_rfl, rfl, rfl⟩, ⟨{ name := "anvil/bus.load", sig := 164, path := #[], func := some (280, true) }, by kernel_rfl, rfl, rfl⟩, ⟨{ name := "anvil/bus.raised", sig := 39, path := #[], func := some (192, true) }, by kernel_rfl, rfl, rfl⟩, ⟨{ name := "anvil/bus.read", sig := 156, path := #[], func := some (282, true) }, by kernel_rfl, rfl, rfl⟩, ⟨{ name := "anvil/bus.set", sig := 122, path := #[], func := some (46, true) }, by kernel_rfl, rfl, rfl⟩, ⟨{ name := "anvil/bus.status", sig := 156, path := #[], func := some (283, true) }, by kernel_rfl, rfl, rfl⟩, ⟨{ name := "anvil/bus.store", sig := 241, path := #[], func := some (281, true) }, by kernel_rfl, rfl, rfl⟩, ⟨{ name := "anvil/bus.up", sig := 39, path := #[], func := some (120, true) }, by kernel_rfl, rfl, rfl⟩, trivial⟩⟩,
  ⟨⟨_, Tryz.underlying203⟩, ⟨⟨{ name := "anvil/csr.clock", sig := 156, path := #[], func := some (182, true) }, by kernel_rfl, rfl, rfl⟩, ⟨{ name := "anvil/csr.keepNone", sig := 155, path := #[], func := some (179, true) }, by kernel_rfl, rfl, rfl⟩, ⟨{ name := "anvil/csr.misa", sig := 156, path := #[], func := some (178, true) }, by kernel_rfl, rfl, rfl⟩, ⟨{ name := "anvil/csr.one", sig := 156, path := #[], func := some (184, true) }, by kernel_rfl, rfl, rfl⟩, ⟨{ name := "anvil/csr.pending", sig := 156, path := #[], func := some (181, true) }, by kernel_rfl, rfl, rfl⟩, ⟨{ name := "anvil/csr.setStatus", sig := 155, path := #[], func := some (177, true) }, by kernel_rfl, rfl, rfl⟩, ⟨{ name := "anvil/csr.status", sig := 156, path := #[], func := some (176, true) }, by kernel_rfl, rfl, rfl⟩, ⟨{ name := "anvil/csr.table", sig := 210, path := #[], func := some (119, true) }, by kernel_rfl, rfl, rfl⟩, ⟨{ name := "anvil/csr.zero", sig := 156, path := #[], func := some (183, true) }, by kernel_rfl, rfl, rfl⟩, trivial⟩⟩,
  ⟨⟨_, Tryz.underlying264⟩, ⟨⟨{ name := "anvil/bus.here", sig := 211, path := #[], func := some (284, true) }, by kernel_rfl, rfl, rfl⟩, ⟨{ name := "anvil/bus.holds", sig := 211, path := #[], func := some (193, true) }, by kernel_rfl, rfl, rfl⟩, ⟨{ name := "anvil/bus.load", sig := 164, path := #[], func := some (285, true) }, by kernel_rfl, rfl, rfl⟩, ⟨{ name := "anvil/bus.store", sig := 241, path := #[], func := some (286, true) }, by kernel_rfl, rfl, rfl⟩, trivial⟩⟩,
  ⟨⟨_, Tryz.underlying269⟩, ⟨⟨{ name := "anvil/bus.here", sig := 211, path := #[], func := some (287, true) }, by kernel_rfl, rfl, rfl⟩, ⟨{ name := "anvil/bus.load", sig := 164, path := #[], func := some (288, true) }, by kernel_rfl, rfl, rfl⟩, ⟨{ name := "anvil/bus.store", sig := 241, path := #[], func := some (289, true) }, by kernel_rfl, rfl, rfl⟩, trivial⟩⟩,
  ⟨⟨_, Tryz.underlying270⟩, ⟨⟨{ name := "anvil/bus.here", sig := 211, path := #[], func := some (290, true) }, by kernel_rfl, rfl, rfl⟩, ⟨{ name := "anvil/bus.load", sig := 164, path := #[], func := some (291, true) }, by kernel_rfl, rfl, rfl⟩, ⟨{ name := "anvil/bus.store", sig := 241, path := #[], func := some (292, true) }, by kernel_rfl, rfl, rfl⟩, ⟨{ name := "anvil/bus.word", sig := 291, path := #[], func := some (293, true) }, by kernel_rfl, rfl, rfl⟩, trivial⟩⟩,
  trivial⟩
noncomputable def TB : Tbl := { P := Tryz.prog, ty := tblT tys, mth := mthL mths, eqs := eqL eqs, mixed := by kernel_rfl, tyOk := tblT_ok tys_ok, eqOk := eqL_ok eqs_ok, mthOk := mthL_ok mths_ok }
end Go.Proofs.YtdlpmbghocabbaaGreatDoor

/- Machine numbers as bit vectors: what the walker's arithmetic comes to. Plain lemmas, no condition. -/
namespace Go.Anv
open Go

theorem wrap_u8 (x : Int) : IntKind.u8.wrap x = ((BitVec.ofInt 8 x).toNat : Int) := by
  simp [IntKind.wrap, IntKind.bits, IntKind.signed, BitVec.toNat_ofInt]; omega
theorem wrap_u16 (x : Int) : IntKind.u16.wrap x = ((BitVec.ofInt 16 x).toNat : Int) := by
  simp [IntKind.wrap, IntKind.bits, IntKind.signed, BitVec.toNat_ofInt]; omega
theorem wrap_u32 (x : Int) : IntKind.u32.wrap x = ((BitVec.ofInt 32 x).toNat : Int) := by
  simp [IntKind.wrap, IntKind.bits, IntKind.signed, BitVec.toNat_ofInt]; omega
theorem wrap_u64 (x : Int) : IntKind.u64.wrap x = ((BitVec.ofInt 64 x).toNat : Int) := by
  simp [IntKind.wrap, IntKind.bits, IntKind.signed, BitVec.toNat_ofInt]; omega
theorem wrap_i64 (x : Int) : IntKind.i64.wrap x = (BitVec.ofInt 64 x).toInt := by
  simp [IntKind.wrap, IntKind.bits, IntKind.signed, BitVec.toInt_ofInt, Int.bmod]
  split <;> split <;> omega
theorem wrap_i32 (x : Int) : IntKind.i32.wrap x = (BitVec.ofInt 32 x).toInt := by
  simp [IntKind.wrap, IntKind.bits, IntKind.signed, BitVec.toInt_ofInt, Int.bmod]
  split <;> split <;> omega

/-- In range nothing is lost. -/
theorem i64_in {x : Int} (h1 : -9223372036854775808 ≤ x) (h2 : x ≤ 9223372036854775807) : IntKind.i64.wrap x = x := by
  simp [IntKind.wrap, IntKind.bits, IntKind.signed]
  omega

@[simp] theorem ofInt_toNat {w : Nat} (a : BitVec w) : BitVec.ofInt w (a.toNat : Int) = a := by simp

section
variable (x y : Int)
theorem and_u8 : bitX .and .u8 x y = ((BitVec.ofInt 8 x &&& BitVec.ofInt 8 y).toNat : Int) := by show IntKind.u8.wrap _ = _; rw [wrap_u8]; exact congrArg (fun z : BitVec 8 => (z.toNat : Int)) (ofInt_toNat _)
theorem or_u8 : bitX .or .u8 x y = ((BitVec.ofInt 8 x ||| BitVec.ofInt 8 y).toNat : Int) := by show IntKind.u8.wrap _ = _; rw [wrap_u8]; exact congrArg (fun z : BitVec 8 => (z.toNat : Int)) (ofInt_toNat _)
theorem xor_u8 : bitX .xor .u8 x y = ((BitVec.ofInt 8 x ^^^ BitVec.ofInt 8 y).toNat : Int) := by show IntKind.u8.wrap _ = _; rw [wrap_u8]; exact congrArg (fun z : BitVec 8 => (z.toNat : Int)) (ofInt_toNat _)
theorem andNot_u8 : bitX .andNot .u8 x y = ((BitVec.ofInt 8 x &&& ~~~BitVec.ofInt 8 y).toNat : Int) := by show IntKind.u8.wrap _ = _; rw [wrap_u8]; exact congrArg (fun z : BitVec 8 => (z.toNat : Int)) (ofInt_toNat _)
theorem and_u32 : bitX .and .u32 x y = ((BitVec.ofInt 32 x &&& BitVec.ofInt 32 y).toNat : Int) := by show IntKind.u32.wrap _ = _; rw [wrap_u32]; exact congrArg (fun z : BitVec 32 => (z.toNat : Int)) (ofInt_toNat _)
theorem or_u32 : bitX .or .u32 x y = ((BitVec.ofInt 32 x ||| BitVec.ofInt 32 y).toNat : Int) := by show IntKind.u32.wrap _ = _; rw [wrap_u32]; exact congrArg (fun z : BitVec 32 => (z.toNat : Int)) (ofInt_toNat _)
theorem xor_u32 : bitX .xor .u32 x y = ((BitVec.ofInt 32 x ^^^ BitVec.ofInt 32 y).toNat : Int) := by show IntKind.u32.wrap _ = _; rw [wrap_u32]; exact congrArg (fun z : BitVec 32 => (z.toNat : Int)) (ofInt_toNat _)
theorem andNot_u32 : bitX .andNot .u32 x y = ((BitVec.ofInt 32 x &&& ~~~BitVec.ofInt 32 y).toNat : Int) := by show IntKind.u32.wrap _ = _; rw [wrap_u32]; exact congrArg (fun z : BitVec 32 => (z.toNat : Int)) (ofInt_toNat _)
theorem and_u64 : bitX .and .u64 x y = ((BitVec.ofInt 64 x &&& BitVec.ofInt 64 y).toNat : Int) := by show IntKind.u64.wrap _ = _; rw [wrap_u64]; exact congrArg (fun z : BitVec 64 => (z.toNat : Int)) (ofInt_toNat _)
theorem or_u64 : bitX .or .u64 x y = ((BitVec.ofInt 64 x ||| BitVec.ofInt 64 y).toNat : Int) := by show IntKind.u64.wrap _ = _; rw [wrap_u64]; exact congrArg (fun z : BitVec 64 => (z.toNat : Int)) (ofInt_toNat _)
theorem xor_u64 : bitX .xor .u64 x y = ((BitVec.ofInt 64 x ^^^ BitVec.ofInt 64 y).toNat : Int) := by show IntKind.u64.wrap _ = _; rw [wrap_u64]; exact congrArg (fun z : BitVec 64 => (z.toNat : Int)) (ofInt_toNat _)
theorem andNot_u64 : bitX .andNot .u64 x y = ((BitVec.ofInt 64 x &&& ~~~BitVec.ofInt 64 y).toNat : Int) := by show IntKind.u64.wrap _ = _; rw [wrap_u64]; exact congrArg (fun z : BitVec 64 => (z.toNat : Int)) (ofInt_toNat _)
theorem ofInt64_nat (a : BitVec 64) : (BitVec.ofInt 64 (a.toNat : Int)).toInt = a.toInt := by rw [ofInt_toNat]
theorem and_i64 : bitX .and .i64 x y = (BitVec.ofInt 64 x &&& BitVec.ofInt 64 y).toInt := by show IntKind.i64.wrap _ = _; rw [wrap_i64]; exact ofInt64_nat _
theorem or_i64 : bitX .or .i64 x y = (BitVec.ofInt 64 x ||| BitVec.ofInt 64 y).toInt := by show IntKind.i64.wrap _ = _; rw [wrap_i64]; exact ofInt64_nat _
theorem xor_i64 : bitX .xor .i64 x y = (BitVec.ofInt 64 x ^^^ BitVec.ofInt 64 y).toInt := by show IntKind.i64.wrap _ = _; rw [wrap_i64]; exact ofInt64_nat _
theorem andNot_i64 : bitX .andNot .i64 x y = (BitVec.ofInt 64 x &&& ~~~BitVec.ofInt 64 y).toInt := by show IntKind.i64.wrap _ = _; rw [wrap_i64]; exact ofInt64_nat _
end

theorem fdiv_pow {w : Nat} (a : BitVec w) (n : Nat) : ((a.toNat : Int)).fdiv (2 ^ n) = ((a >>> n).toNat : Int) := by
  rw [BitVec.toNat_ushiftRight, Nat.shiftRight_eq_div_pow, Int.fdiv_eq_ediv_of_nonneg _ (by exact Int.le_of_lt (Int.pow_pos (by decide)))]
  simp

theorem mul_pow {w : Nat} (a : BitVec w) (n : Nat) : BitVec.ofInt w ((a.toNat : Int) * 2 ^ n) = a <<< n := by
  apply BitVec.eq_of_toNat_eq
  rw [BitVec.toNat_shiftLeft, Nat.shiftLeft_eq, BitVec.toNat_ofInt]
  have : ((a.toNat : Int) * 2 ^ n) = ((a.toNat * 2 ^ n : Nat) : Int) := by simp
  rw [this]
  have h2 : ((2 ^ w : Nat) : Int) = (2 ^ w : Int) := by simp
  rw [← Int.natCast_emod, Int.toNat_natCast]

theorem beq_nat {w : Nat} (a b : BitVec w) : ((a.toNat : Int) == (b.toNat : Int)) = (a == b) := by
  rw [Bool.eq_iff_iff, beq_iff_eq, beq_iff_eq, ← BitVec.toNat_inj]
  omega

theorem beq_lit {w : Nat} (a : BitVec w) (n : Int) (h0 : 0 ≤ n) (h1 : n < 2 ^ w) : ((a.toNat : Int) == n) = (a == BitVec.ofInt w n) := by
  rw [← beq_nat]
  have : ((BitVec.ofInt w n).toNat : Int) = n := by
    rw [BitVec.toNat_ofInt]
    have h2 : ((2 ^ w : Nat) : Int) = (2 ^ w : Int) := by simp
    rw [h2, Int.emod_eq_of_lt h0 h1, Int.toNat_of_nonneg h0]
  rw [this]

theorem bne_nat {w : Nat} (a b : BitVec w) : ((a.toNat : Int) != (b.toNat : Int)) = (a != b) := by rw [bne, bne, beq_nat]
theorem bne_lit {w : Nat} (a : BitVec w) (n : Int) (h0 : 0 ≤ n) (h1 : n < 2 ^ w) : ((a.toNat : Int) != n) = (a != BitVec.ofInt w n) := by rw [bne, bne, beq_lit a n h0 h1]

theorem lt_nat {w : Nat} (a b : BitVec w) : decide ((a.toNat : Int) < (b.toNat : Int)) = decide (a < b) := decide_eq_decide.2 (by rw [BitVec.lt_def]; omega)
theorem le_nat {w : Nat} (a b : BitVec w) : decide ((a.toNat : Int) ≤ (b.toNat : Int)) = decide (a ≤ b) := decide_eq_decide.2 (by rw [BitVec.le_def]; omega)
theorem gt_nat {w : Nat} (a b : BitVec w) : decide ((a.toNat : Int) > (b.toNat : Int)) = decide (b < a) := decide_eq_decide.2 (by rw [BitVec.lt_def]; omega)
theorem ge_nat {w : Nat} (a b : BitVec w) : decide ((a.toNat : Int) ≥ (b.toNat : Int)) = decide (b ≤ a) := decide_eq_decide.2 (by rw [BitVec.le_def]; omega)

end Go.Anv

/- The engine, part 8: loops, by the slots that they carry. Plain theorems, no condition. -/
namespace Go.Anv
open Go

/-- The slots that a piece of code writes. -/
def writesO : List Oper → List Nat
  | [] => []
  | o :: r => match o.dst with
    | some d => d :: writesO r
    | none => writesO r

def writes : Code → List Nat
  | .region _ ops _ => writesO ops.toList
  | .seq a b => writes a ++ writes b
  | .cond _ a b => writes a ++ writes b
  | .block _ a => writes a
  | .loop a => writes a
  | .scope a => writes a
  | _ => []

def forgetK (l : List Nat) : List EV → (List EV → Prop) → Prop :=
  List.rec (motive := fun _ => List EV → (List EV → Prop) → Prop) (fun ts k => k ts) (fun d _ ih ts k => updK ts d .junk fun ts => ih ts k) l

def laterK (l : List (Nat × EV)) : List EV → (List EV → Prop) → Prop :=
  List.rec (motive := fun _ => List EV → (List EV → Prop) → Prop) (fun ts k => k ts) (fun x _ ih ts k => match x with
    | (d, v) => forceE v fun v => updK ts d v fun ts => ih ts k) l

def forgetT : List Nat → List EV → List EV
  | [], ts => ts
  | d :: r, ts => forgetT r (upd ts d .junk)

def laterT : List (Nat × EV) → List EV → List EV
  | [], ts => ts
  | (d, v) :: r, ts => laterT r (upd ts d v)

theorem forgetK_eq : ∀ (M : List Nat) (ts : List EV) (k : List EV → Prop), forgetK M ts k = k (forgetT M ts)
  | [], _, _ => rfl
  | d :: r, ts, k => by
    show (updK ts d .junk fun ts => forgetK r ts k) = _
    rw [updK_eq, forgetK_eq r]
    rfl

theorem laterK_eq : ∀ (C : List (Nat × EV)) (ts : List EV) (k : List EV → Prop), laterK C ts k = k (laterT C ts)
  | [], _, _ => rfl
  | (d, v) :: r, ts, k => by
    show (forceE v fun v => updK ts d v fun ts => laterK r ts k) = _
    rw [forceE_eq, updK_eq, laterK_eq r]
    rfl

/-- The state at a round's head: the slots C, the heap H; what the round writes besides is not known. -/
def headK (c : Code) (s : St) (C : List (Nat × EV)) (H : List Blk) (k : St → Prop) : Prop :=
  forgetK (writes c) s.tmps fun ts => laterK C ts fun ts => k ⟨ts, H⟩

theorem headK_eq (c : Code) (s : St) (C : List (Nat × EV)) (H : List Blk) (k : St → Prop) : headK c s C H k = k ⟨laterT C (forgetT (writes c) s.tmps), H⟩ := by
  simp only [headK, forgetK_eq, laterK_eq]

def leS (s t : St) : Prop := eqvT s.tmps t.tmps ∧ eqvH s.heap t.heap

theorem leS.le {s t : St} (h : leS s t) : s.le t := ⟨h.1, h.2⟩

def roundK {A : Type} (c : Code) (s : St) (C : A → List (Nat × EV)) (H : A → List Blk) (I : A → Prop) (μ : A → Nat) (x : A) (K : Exit → St → Prop) : Exit → St → Prop
  | .normal, s' => ∃ y, I y ∧ μ y < μ x ∧ headK c s (C y) (H y) fun t => leS s' t
  | e, s' => K e s'

/-- **A loop, by what its slots and the heap hold at each round's head.** -/
theorem loop_by {T : Tbl} {O : Org} {A : Type} {c : Code} {s : St} {K : Exit → St → Prop} (on : O.E.n = O.h.length) (C : A → List (Nat × EV)) (H : A → List Blk) (I : A → Prop) (μ : A → Nat) (x0 : A) (h0 : I x0)
    (hs : headK c s (C x0) (H x0) fun t => leS s t)
    (round : ∀ x, I x → headK c s (C x) (H x) fun t => wpx T O c t (roundK c s C H I μ x K)) : LoopG T O c s K := by
  refine loop_rule on (fun x => ⟨laterT (C x) (forgetT (writes c) s.tmps), H x⟩) I μ x0 h0 ?_ (fun x hx => ?_)
  · rw [headK_eq] at hs
    exact hs.le
  · have h := round x hx
    rw [headK_eq] at h
    have hk : roundK c s C H I μ x K = (fun e s' => match e with
      | .normal => ∃ y, I y ∧ s'.le (⟨laterT (C y) (forgetT (writes c) s.tmps), H y⟩ : St) ∧ μ y < μ x
      | e => K e s') := by
      funext e s'
      cases e <;> simp only [roundK]
      apply propext
      constructor
      · rintro ⟨y, h1, h2, h3⟩
        rw [headK_eq] at h3
        exact ⟨y, h1, h3.le, h2⟩
      · rintro ⟨y, h1, h2, h3⟩
        exact ⟨y, h1, h3, by rw [headK_eq]; exact ⟨h2.1, h2.2⟩⟩
    rw [hk] at h
    exact h

theorem eqvT_nil : eqvT [] [] := trivial
theorem eqvT_junk {x : EV} {r r' : List EV} (h : eqvT r r') : eqvT (x :: r) (.junk :: r') := by
  unfold eqvT
  exact ⟨by unfold eqvE; cases x <;> trivial, h⟩
theorem eqvT_same {x : EV} {r r' : List EV} (h : eqvT r r') : eqvT (x :: r) (x :: r') := ⟨eqvE_refl x, h⟩
theorem eqvT_int {k : IntKind} {a b : Int} {r r' : List EV} (h1 : a = b) (h : eqvT r r') : eqvT (.s (.int k a) :: r) (.s (.int k b) :: r') := ⟨⟨rfl, h1⟩, h⟩
theorem eqvT_bool {a b : Bool} {r r' : List EV} (h1 : a = b) (h : eqvT r r') : eqvT (.s (.bool a) :: r) (.s (.bool b) :: r') := ⟨h1, h⟩
theorem eqvT_agg {a b : List Seg} {r r' : List EV} (h1 : eqvS a b) (h : eqvT r r') : eqvT (.agg a :: r) (.agg b :: r') := ⟨h1, h⟩
theorem eqvT_str {a b : ByteArray} {r r' : List EV} (h1 : a = b) (h : eqvT r r') : eqvT (.s (.str a) :: r) (.s (.str b) :: r') := ⟨h1, h⟩
theorem eqvT_gs {b o n c b' o' n' c' : Nat} {r r' : List EV} (h1 : b = b' ∧ o = o' ∧ n = n' ∧ c = c') (h : eqvT r r') : eqvT (.s (.gs b o n c) :: r) (.s (.gs b' o' n' c') :: r') := ⟨h1, h⟩
theorem eqvT_sgs {b o n c b' o' n' c' : Nat} {r r' : List EV} (h1 : b = b' ∧ o = o' ∧ n = n' ∧ c = c') (h : eqvT r r') : eqvT (.s (.slice b o n c) :: r) (.s (.gs b' o' n' c') :: r') := ⟨h1, h⟩
theorem eqvH_nil : eqvH [] [] := trivial
theorem eqvH_same {x : Blk} {r r' : List Blk} (h : eqvH r r') : eqvH (x :: r) (x :: r') := ⟨eqvB_refl x, h⟩
theorem eqvH_cells {m : Bool} {sp : Nat} {a b : List Seg} {r r' : List Blk} (h1 : eqvS a b) (h : eqvH r r') : eqvH (.cells m a sp :: r) (.cells m b sp :: r') := ⟨⟨rfl, rfl, h1⟩, h⟩
theorem eqvS_junk {x : SV} {r r' : List Seg} (h : eqvS r r') : eqvS (.one x :: r) (.one .junk :: r') := ⟨by cases x <;> trivial, h⟩
theorem eqvS_nil : eqvS [] [] := trivial
theorem eqvS_same {x : Seg} {r r' : List Seg} (h : eqvS r r') : eqvS (x :: r) (x :: r') := by
  cases x with
  | one v => exact ⟨eqvV_refl v, h⟩
  | ints k n f => exact ⟨⟨rfl, rfl, fun _ _ => rfl⟩, h⟩
theorem eqvS_int {k : IntKind} {a b : Int} {r r' : List Seg} (h1 : a = b) (h : eqvS r r') : eqvS (.one (.int k a) :: r) (.one (.int k b) :: r') := ⟨⟨rfl, h1⟩, h⟩
theorem eqvS_bool {a b : Bool} {r r' : List Seg} (h1 : a = b) (h : eqvS r r') : eqvS (.one (.bool a) :: r) (.one (.bool b) :: r') := ⟨h1, h⟩
theorem eqvS_ints {k : IntKind} {n : Nat} {f g : Nat → Int} {r r' : List Seg} (h1 : ∀ j, j < n → f j = g j) (h : eqvS r r') : eqvS (.ints k n f :: r) (.ints k n g :: r') := ⟨⟨rfl, rfl, h1⟩, h⟩

end Go.Anv
