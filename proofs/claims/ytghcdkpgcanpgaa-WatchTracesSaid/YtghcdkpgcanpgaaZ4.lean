/- Part 4 of the texts of this claim, merged: T, M1, E8, E9. No condition: plain theorems, contracts of functions. -/
import Derived.Test.YtghcdkpgcanpgaaZ3
import Derived.Test.YtghcdkpgcanpgaaProg
import Derived.KernelRfl

set_option linter.unusedSimpArgs false
set_option linter.unusedVariables false
/- The table of types of this seat, for the engine. Printed by gen_tbl.py; every row is proved here. No condition. -/
namespace Go.Proofs.Ytghcdkpgcanpgaa
open Go Go.Anv
set_option maxRecDepth 100000
/-- func() -/
def ti1 : TI := { d := .other, size := 1, bytes := 8, zero := .s .nilfunc }
theorem ti1_ok : TIok Try.prog 1 ti1 := ⟨⟨_, _, _, Try.underlying1⟩, by kernel_rfl, by kernel_rfl, ⟨_, rfl, by kernel_rfl⟩⟩
/-- int64 -/
def ti2 : TI := { d := .int .i64, size := 1, bytes := 8, zero := .s (.int .i64 0) }
theorem ti2_ok : TIok Try.prog 2 ti2 := ⟨Try.underlying2, by kernel_rfl, by kernel_rfl, ⟨_, rfl, by kernel_rfl⟩⟩
/-- int -/
def ti3 : TI := { d := .int .i64, size := 1, bytes := 8, zero := .s (.int .i64 0) }
theorem ti3_ok : TIok Try.prog 3 ti3 := ⟨Try.underlying3, by kernel_rfl, by kernel_rfl, ⟨_, rfl, by kernel_rfl⟩⟩
/-- bool -/
def ti4 : TI := { d := .bool, size := 1, bytes := 1, zero := .s (.bool false) }
theorem ti4_ok : TIok Try.prog 4 ti4 := ⟨Try.underlying4, by kernel_rfl, by kernel_rfl, ⟨_, rfl, by kernel_rfl⟩⟩
/-- uint8 -/
def ti5 : TI := { d := .int .u8, size := 1, bytes := 1, zero := .s (.int .u8 0) }
theorem ti5_ok : TIok Try.prog 5 ti5 := ⟨Try.underlying5, by kernel_rfl, by kernel_rfl, ⟨_, rfl, by kernel_rfl⟩⟩
/-- abi.BoundsErrorCode -/
def ti6 : TI := { d := .int .u8, size := 1, bytes := 1, zero := .s (.int .u8 0) }
theorem ti6_ok : TIok Try.prog 6 ti6 := ⟨Try.underlying6, by kernel_rfl, by kernel_rfl, ⟨_, rfl, by kernel_rfl⟩⟩
/-- struct { x int64; y int; signed bool; code abi.BoundsErrorCode } -/
def ti7 : TI := { d := .struct [(2, 0), (3, 1), (4, 2), (6, 3)], size := 4, bytes := 24, zero := .agg [.one (.int .i64 0), .one (.int .i64 0), .one (.bool false), .one (.int .u8 0)] }
theorem ti7_ok : TIok Try.prog 7 ti7 := ⟨⟨_, Try.underlying7, by rfl⟩, by kernel_rfl, by kernel_rfl, ⟨_, rfl, by kernel_rfl⟩⟩
/-- runtime.boundsError -/
def ti8 : TI := { d := .struct [(2, 0), (3, 1), (4, 2), (6, 3)], size := 4, bytes := 24, zero := .agg [.one (.int .i64 0), .one (.int .i64 0), .one (.bool false), .one (.int .u8 0)] }
theorem ti8_ok : TIok Try.prog 8 ti8 := ⟨⟨_, Try.underlying8, by rfl⟩, by kernel_rfl, by kernel_rfl, ⟨_, rfl, by kernel_rfl⟩⟩
/-- string -/
def ti9 : TI := { d := .str, size := 1, bytes := 16, zero := .s (.str .empty) }
theorem ti9_ok : TIok Try.prog 9 ti9 := ⟨Try.underlying9, by kernel_rfl, by kernel_rfl, ⟨_, rfl, by kernel_rfl⟩⟩
/-- runtime.errorString -/
def ti10 : TI := { d := .str, size := 1, bytes := 16, zero := .s (.str .empty) }
theorem ti10_ok : TIok Try.prog 10 ti10 := ⟨Try.underlying10, by kernel_rfl, by kernel_rfl, ⟨_, rfl, by kernel_rfl⟩⟩
/-- runtime.plainError -/
def ti11 : TI := { d := .str, size := 1, bytes := 16, zero := .s (.str .empty) }
theorem ti11_ok : TIok Try.prog 11 ti11 := ⟨Try.underlying11, by kernel_rfl, by kernel_rfl, ⟨_, rfl, by kernel_rfl⟩⟩
/-- uintptr -/
def ti12 : TI := { d := .int .u64, size := 1, bytes := 8, zero := .s (.int .u64 0) }
theorem ti12_ok : TIok Try.prog 12 ti12 := ⟨Try.underlying12, by kernel_rfl, by kernel_rfl, ⟨_, rfl, by kernel_rfl⟩⟩
/-- struct { msg string; addr uintptr } -/
def ti13 : TI := { d := .struct [(9, 0), (12, 1)], size := 2, bytes := 24, zero := .agg [.one (.str .empty), .one (.int .u64 0)] }
theorem ti13_ok : TIok Try.prog 13 ti13 := ⟨⟨_, Try.underlying13, by rfl⟩, by kernel_rfl, by kernel_rfl, ⟨_, rfl, by kernel_rfl⟩⟩
/-- runtime.errorAddressString -/
def ti14 : TI := { d := .struct [(9, 0), (12, 1)], size := 2, bytes := 24, zero := .agg [.one (.str .empty), .one (.int .u64 0)] }
theorem ti14_ok : TIok Try.prog 14 ti14 := ⟨⟨_, Try.underlying14, by rfl⟩, by kernel_rfl, by kernel_rfl, ⟨_, rfl, by kernel_rfl⟩⟩
/-- *runtime.TypeAssertionError -/
def ti15 : TI := { d := .ptr 202, size := 1, bytes := 8, zero := .s .nilptr }
theorem ti15_ok : TIok Try.prog 15 ti15 := ⟨Try.underlying15, by kernel_rfl, by kernel_rfl, ⟨_, rfl, by kernel_rfl⟩⟩
/-- *runtime.PanicNilError -/
def ti16 : TI := { d := .ptr 205, size := 1, bytes := 8, zero := .s .nilptr }
theorem ti16_ok : TIok Try.prog 16 ti16 := ⟨Try.underlying16, by kernel_rfl, by kernel_rfl, ⟨_, rfl, by kernel_rfl⟩⟩
/-- *abi.Type -/
def ti17 : TI := { d := .ptr 213, size := 1, bytes := 8, zero := .s .nilptr }
theorem ti17_ok : TIok Try.prog 17 ti17 := ⟨Try.underlying17, by kernel_rfl, by kernel_rfl, ⟨_, rfl, by kernel_rfl⟩⟩
/-- struct { typ *abi.Type } -/
def ti18 : TI := { d := .struct [(17, 0)], size := 1, bytes := 8, zero := .agg [.one .nilptr] }
theorem ti18_ok : TIok Try.prog 18 ti18 := ⟨⟨_, Try.underlying18, by rfl⟩, by kernel_rfl, by kernel_rfl, ⟨_, rfl, by kernel_rfl⟩⟩
/-- maps.unhashableTypeError -/
def ti19 : TI := { d := .struct [(17, 0)], size := 1, bytes := 8, zero := .agg [.one .nilptr] }
theorem ti19_ok : TIok Try.prog 19 ti19 := ⟨⟨_, Try.underlying19, by rfl⟩, by kernel_rfl, by kernel_rfl, ⟨_, rfl, by kernel_rfl⟩⟩
/-- interface {} -/
def ti20 : TI := { d := .iface, size := 1, bytes := 16, zero := .s .niliface }
theorem ti20_ok : TIok Try.prog 20 ti20 := ⟨⟨_, Try.underlying20⟩, by kernel_rfl, by kernel_rfl, ⟨_, rfl, by kernel_rfl⟩⟩
/-- int32 -/
def ti21 : TI := { d := .int .i32, size := 1, bytes := 4, zero := .s (.int .i32 0) }
theorem ti21_ok : TIok Try.prog 21 ti21 := ⟨Try.underlying21, by kernel_rfl, by kernel_rfl, ⟨_, rfl, by kernel_rfl⟩⟩
/-- func() bool -/
def ti22 : TI := { d := .other, size := 1, bytes := 8, zero := .s .nilfunc }
theorem ti22_ok : TIok Try.prog 22 ti22 := ⟨⟨_, _, _, Try.underlying22⟩, by kernel_rfl, by kernel_rfl, ⟨_, rfl, by kernel_rfl⟩⟩
/-- []uint8 -/
def ti23 : TI := { d := .slice 5, size := 1, bytes := 24, zero := .s .nilslice }
theorem ti23_ok : TIok Try.prog 23 ti23 := ⟨Try.underlying23, by kernel_rfl, by kernel_rfl, ⟨_, rfl, by kernel_rfl⟩⟩
/-- api.Errno -/
def ti24 : TI := { d := .int .i64, size := 1, bytes := 8, zero := .s (.int .i64 0) }
theorem ti24_ok : TIok Try.prog 24 ti24 := ⟨Try.underlying24, by kernel_rfl, by kernel_rfl, ⟨_, rfl, by kernel_rfl⟩⟩
/-- func([]uint8) ([]uint8, api.Errno) -/
def ti26 : TI := { d := .other, size := 1, bytes := 8, zero := .s .nilfunc }
theorem ti26_ok : TIok Try.prog 26 ti26 := ⟨⟨_, _, _, Try.underlying26⟩, by kernel_rfl, by kernel_rfl, ⟨_, rfl, by kernel_rfl⟩⟩
/-- func([]uint8) ([]uint8, int) -/
def ti28 : TI := { d := .other, size := 1, bytes := 8, zero := .s .nilfunc }
theorem ti28_ok : TIok Try.prog 28 ti28 := ⟨⟨_, _, _, Try.underlying28⟩, by kernel_rfl, by kernel_rfl, ⟨_, rfl, by kernel_rfl⟩⟩
/-- func([]uint8) bool -/
def ti29 : TI := { d := .other, size := 1, bytes := 8, zero := .s .nilfunc }
theorem ti29_ok : TIok Try.prog 29 ti29 := ⟨⟨_, _, _, Try.underlying29⟩, by kernel_rfl, by kernel_rfl, ⟨_, rfl, by kernel_rfl⟩⟩
/-- uint64 -/
def ti30 : TI := { d := .int .u64, size := 1, bytes := 8, zero := .s (.int .u64 0) }
theorem ti30_ok : TIok Try.prog 30 ti30 := ⟨Try.underlying30, by kernel_rfl, by kernel_rfl, ⟨_, rfl, by kernel_rfl⟩⟩
/-- [32]uint64 -/
def ti31 : TI := { d := .array 32 30, size := 32, bytes := 256, zero := .agg [.ints .u64 32 (fun _ => 0)] }
theorem ti31_ok : TIok Try.prog 31 ti31 := ⟨Try.underlying31, by kernel_rfl, by kernel_rfl, ⟨_, rfl, by kernel_rfl⟩⟩
/-- [16]uint8 -/
def ti32 : TI := { d := .array 16 5, size := 16, bytes := 16, zero := .agg [.ints .u8 16 (fun _ => 0)] }
theorem ti32_ok : TIok Try.prog 32 ti32 := ⟨Try.underlying32, by kernel_rfl, by kernel_rfl, ⟨_, rfl, by kernel_rfl⟩⟩
/-- [16]uint64 -/
def ti33 : TI := { d := .array 16 30, size := 16, bytes := 128, zero := .agg [.ints .u64 16 (fun _ => 0)] }
theorem ti33_ok : TIok Try.prog 33 ti33 := ⟨Try.underlying33, by kernel_rfl, by kernel_rfl, ⟨_, rfl, by kernel_rfl⟩⟩
/-- struct { Cfg [16]uint8; Addr [16]uint64 } -/
def ti34 : TI := { d := .struct [(32, 0), (33, 16)], size := 32, bytes := 144, zero := .agg [.ints .u8 16 (fun _ => 0), .ints .u64 16 (fun _ => 0)] }
theorem ti34_ok : TIok Try.prog 34 ti34 := ⟨⟨_, Try.underlying34, by rfl⟩, by kernel_rfl, by kernel_rfl, ⟨_, rfl, by kernel_rfl⟩⟩
/-- api.Pmp -/
def ti35 : TI := { d := .struct [(32, 0), (33, 16)], size := 32, bytes := 144, zero := .agg [.ints .u8 16 (fun _ => 0), .ints .u64 16 (fun _ => 0)] }
theorem ti35_ok : TIok Try.prog 35 ti35 := ⟨⟨_, Try.underlying35, by rfl⟩, by kernel_rfl, by kernel_rfl, ⟨_, rfl, by kernel_rfl⟩⟩
/-- struct { Valid bool; Addr uint64; Size int } -/
def ti36 : TI := { d := .struct [(4, 0), (30, 1), (3, 2)], size := 3, bytes := 24, zero := .agg [.one (.bool false), .one (.int .u64 0), .one (.int .i64 0)] }
theorem ti36_ok : TIok Try.prog 36 ti36 := ⟨⟨_, Try.underlying36, by rfl⟩, by kernel_rfl, by kernel_rfl, ⟨_, rfl, by kernel_rfl⟩⟩
/-- api.Res -/
def ti37 : TI := { d := .struct [(4, 0), (30, 1), (3, 2)], size := 3, bytes := 24, zero := .agg [.one (.bool false), .one (.int .u64 0), .one (.int .i64 0)] }
theorem ti37_ok : TIok Try.prog 37 ti37 := ⟨⟨_, Try.underlying37, by rfl⟩, by kernel_rfl, by kernel_rfl, ⟨_, rfl, by kernel_rfl⟩⟩
/-- struct { Pc uint64; X [32]uint64; Mode int; Waiting bool; Mstatus uint64; Mtvec uint64; Mie uint64; Mcounteren uint64; Mcountinhibit uint64; Menvcfg uint64; Mscratch uint64; Mepc uint64; Mcause uint64; Mtval uint64; Mcycle uint64; Minstret uint64; Pmp api.Pmp; Res api.Res } -/
def ti38 : TI := { d := .struct [(30, 0), (31, 1), (3, 33), (4, 34), (30, 35), (30, 36), (30, 37), (30, 38), (30, 39), (30, 40), (30, 41), (30, 42), (30, 43), (30, 44), (30, 45), (30, 46), (35, 47), (37, 79)], size := 82, bytes := 544, zero := .agg [.one (.int .u64 0), .ints .u64 32 (fun _ => 0), .one (.int .i64 0), .one (.bool false), .one (.int .u64 0), .one (.int .u64 0), .one (.int .u64 0), .one (.int .u64 0), .one (.int .u64 0), .one (.int .u64 0), .one (.int .u64 0), .one (.int .u64 0), .one (.int .u64 0), .one (.int .u64 0), .one (.int .u64 0), .one (.int .u64 0), .ints .u8 16 (fun _ => 0), .ints .u64 16 (fun _ => 0), .one (.bool false), .one (.int .u64 0), .one (.int .i64 0)] }
theorem ti38_ok : TIok Try.prog 38 ti38 := ⟨⟨_, Try.underlying38, by rfl⟩, by kernel_rfl, by kernel_rfl, ⟨_, rfl, by kernel_rfl⟩⟩
/-- api.Cpu -/
def ti39 : TI := { d := .struct [(30, 0), (31, 1), (3, 33), (4, 34), (30, 35), (30, 36), (30, 37), (30, 38), (30, 39), (30, 40), (30, 41), (30, 42), (30, 43), (30, 44), (30, 45), (30, 46), (35, 47), (37, 79)], size := 82, bytes := 544, zero := .agg [.one (.int .u64 0), .ints .u64 32 (fun _ => 0), .one (.int .i64 0), .one (.bool false), .one (.int .u64 0), .one (.int .u64 0), .one (.int .u64 0), .one (.int .u64 0), .one (.int .u64 0), .one (.int .u64 0), .one (.int .u64 0), .one (.int .u64 0), .one (.int .u64 0), .one (.int .u64 0), .one (.int .u64 0), .one (.int .u64 0), .ints .u8 16 (fun _ => 0), .ints .u64 16 (fun _ => 0), .one (.bool false), .one (.int .u64 0), .one (.int .i64 0)] }
theorem ti39_ok : TIok Try.prog 39 ti39 := ⟨⟨_, Try.underlying39, by rfl⟩, by kernel_rfl, by kernel_rfl, ⟨_, rfl, by kernel_rfl⟩⟩
/-- uint32 -/
def ti40 : TI := { d := .int .u32, size := 1, bytes := 4, zero := .s (.int .u32 0) }
theorem ti40_ok : TIok Try.prog 40 ti40 := ⟨Try.underlying40, by kernel_rfl, by kernel_rfl, ⟨_, rfl, by kernel_rfl⟩⟩
/-- struct { Ram []uint8; Msip uint32; Mtimecmp uint64; Mtime uint64; Ext bool; Soft bool; Ier uint8; Lcr uint8; Mcr uint8; Scratch uint8; Overrun bool; Input []uint8; Output []uint8; Off int; Code int } -/
def ti41 : TI := { d := .struct [(23, 0), (40, 1), (30, 2), (30, 3), (4, 4), (4, 5), (5, 6), (5, 7), (5, 8), (5, 9), (4, 10), (23, 11), (23, 12), (3, 13), (3, 14)], size := 15, bytes := 120, zero := .agg [.one .nilslice, .one (.int .u32 0), .one (.int .u64 0), .one (.int .u64 0), .one (.bool false), .one (.bool false), .one (.int .u8 0), .one (.int .u8 0), .one (.int .u8 0), .one (.int .u8 0), .one (.bool false), .one .nilslice, .one .nilslice, .one (.int .i64 0), .one (.int .i64 0)] }
theorem ti41_ok : TIok Try.prog 41 ti41 := ⟨⟨_, Try.underlying41, by rfl⟩, by kernel_rfl, by kernel_rfl, ⟨_, rfl, by kernel_rfl⟩⟩
/-- api.Bus -/
def ti42 : TI := { d := .struct [(23, 0), (40, 1), (30, 2), (30, 3), (4, 4), (4, 5), (5, 6), (5, 7), (5, 8), (5, 9), (4, 10), (23, 11), (23, 12), (3, 13), (3, 14)], size := 15, bytes := 120, zero := .agg [.one .nilslice, .one (.int .u32 0), .one (.int .u64 0), .one (.int .u64 0), .one (.bool false), .one (.bool false), .one (.int .u8 0), .one (.int .u8 0), .one (.int .u8 0), .one (.int .u8 0), .one (.bool false), .one .nilslice, .one .nilslice, .one (.int .i64 0), .one (.int .i64 0)] }
theorem ti42_ok : TIok Try.prog 42 ti42 := ⟨⟨_, Try.underlying42, by rfl⟩, by kernel_rfl, by kernel_rfl, ⟨_, rfl, by kernel_rfl⟩⟩
/-- struct { Cpu api.Cpu; Bus api.Bus } -/
def ti43 : TI := { d := .struct [(39, 0), (42, 82)], size := 97, bytes := 664, zero := .agg [.one (.int .u64 0), .ints .u64 32 (fun _ => 0), .one (.int .i64 0), .one (.bool false), .one (.int .u64 0), .one (.int .u64 0), .one (.int .u64 0), .one (.int .u64 0), .one (.int .u64 0), .one (.int .u64 0), .one (.int .u64 0), .one (.int .u64 0), .one (.int .u64 0), .one (.int .u64 0), .one (.int .u64 0), .one (.int .u64 0), .ints .u8 16 (fun _ => 0), .ints .u64 16 (fun _ => 0), .one (.bool false), .one (.int .u64 0), .one (.int .i64 0), .one .nilslice, .one (.int .u32 0), .one (.int .u64 0), .one (.int .u64 0), .one (.bool false), .one (.bool false), .one (.int .u8 0), .one (.int .u8 0), .one (.int .u8 0), .one (.int .u8 0), .one (.bool false), .one .nilslice, .one .nilslice, .one (.int .i64 0), .one (.int .i64 0)] }
theorem ti43_ok : TIok Try.prog 43 ti43 := ⟨⟨_, Try.underlying43, by rfl⟩, by kernel_rfl, by kernel_rfl, ⟨_, rfl, by kernel_rfl⟩⟩
/-- api.Whole -/
def ti44 : TI := { d := .struct [(39, 0), (42, 82)], size := 97, bytes := 664, zero := .agg [.one (.int .u64 0), .ints .u64 32 (fun _ => 0), .one (.int .i64 0), .one (.bool false), .one (.int .u64 0), .one (.int .u64 0), .one (.int .u64 0), .one (.int .u64 0), .one (.int .u64 0), .one (.int .u64 0), .one (.int .u64 0), .one (.int .u64 0), .one (.int .u64 0), .one (.int .u64 0), .one (.int .u64 0), .one (.int .u64 0), .ints .u8 16 (fun _ => 0), .ints .u64 16 (fun _ => 0), .one (.bool false), .one (.int .u64 0), .one (.int .i64 0), .one .nilslice, .one (.int .u32 0), .one (.int .u64 0), .one (.int .u64 0), .one (.bool false), .one (.bool false), .one (.int .u8 0), .one (.int .u8 0), .one (.int .u8 0), .one (.int .u8 0), .one (.bool false), .one .nilslice, .one .nilslice, .one (.int .i64 0), .one (.int .i64 0)] }
theorem ti44_ok : TIok Try.prog 44 ti44 := ⟨⟨_, Try.underlying44, by rfl⟩, by kernel_rfl, by kernel_rfl, ⟨_, rfl, by kernel_rfl⟩⟩
/-- func(api.Errno) int -/
def ti45 : TI := { d := .other, size := 1, bytes := 8, zero := .s .nilfunc }
theorem ti45_ok : TIok Try.prog 45 ti45 := ⟨⟨_, _, _, Try.underlying45⟩, by kernel_rfl, by kernel_rfl, ⟨_, rfl, by kernel_rfl⟩⟩
/-- func(api.Whole) api.Errno -/
def ti46 : TI := { d := .other, size := 1, bytes := 8, zero := .s .nilfunc }
theorem ti46_ok : TIok Try.prog 46 ti46 := ⟨⟨_, _, _, Try.underlying46⟩, by kernel_rfl, by kernel_rfl, ⟨_, rfl, by kernel_rfl⟩⟩
/-- func(api.Whole) api.Whole -/
def ti47 : TI := { d := .other, size := 1, bytes := 8, zero := .s .nilfunc }
theorem ti47_ok : TIok Try.prog 47 ti47 := ⟨⟨_, _, _, Try.underlying47⟩, by kernel_rfl, by kernel_rfl, ⟨_, rfl, by kernel_rfl⟩⟩
/-- func(api.Whole) int -/
def ti48 : TI := { d := .other, size := 1, bytes := 8, zero := .s .nilfunc }
theorem ti48_ok : TIok Try.prog 48 ti48 := ⟨⟨_, _, _, Try.underlying48⟩, by kernel_rfl, by kernel_rfl, ⟨_, rfl, by kernel_rfl⟩⟩
/-- func(api.Whole) bool -/
def ti49 : TI := { d := .other, size := 1, bytes := 8, zero := .s .nilfunc }
theorem ti49_ok : TIok Try.prog 49 ti49 := ⟨⟨_, _, _, Try.underlying49⟩, by kernel_rfl, by kernel_rfl, ⟨_, rfl, by kernel_rfl⟩⟩
/-- func([]uint8) []uint8 -/
def ti50 : TI := { d := .other, size := 1, bytes := 8, zero := .s .nilfunc }
theorem ti50_ok : TIok Try.prog 50 ti50 := ⟨⟨_, _, _, Try.underlying50⟩, by kernel_rfl, by kernel_rfl, ⟨_, rfl, by kernel_rfl⟩⟩
/-- func(api.Whole) ([]uint8, api.Errno) -/
def ti51 : TI := { d := .other, size := 1, bytes := 8, zero := .s .nilfunc }
theorem ti51_ok : TIok Try.prog 51 ti51 := ⟨⟨_, _, _, Try.underlying51⟩, by kernel_rfl, by kernel_rfl, ⟨_, rfl, by kernel_rfl⟩⟩
/-- func(api.Whole) ([]uint8, int) -/
def ti52 : TI := { d := .other, size := 1, bytes := 8, zero := .s .nilfunc }
theorem ti52_ok : TIok Try.prog 52 ti52 := ⟨⟨_, _, _, Try.underlying52⟩, by kernel_rfl, by kernel_rfl, ⟨_, rfl, by kernel_rfl⟩⟩
/-- func([]uint8, []uint8) bool -/
def ti53 : TI := { d := .other, size := 1, bytes := 8, zero := .s .nilfunc }
theorem ti53_ok : TIok Try.prog 53 ti53 := ⟨⟨_, _, _, Try.underlying53⟩, by kernel_rfl, by kernel_rfl, ⟨_, rfl, by kernel_rfl⟩⟩
/-- func(api.Whole, api.Whole) bool -/
def ti54 : TI := { d := .other, size := 1, bytes := 8, zero := .s .nilfunc }
theorem ti54_ok : TIok Try.prog 54 ti54 := ⟨⟨_, _, _, Try.underlying54⟩, by kernel_rfl, by kernel_rfl, ⟨_, rfl, by kernel_rfl⟩⟩
/-- func([]uint8) (api.Whole, api.Errno) -/
def ti56 : TI := { d := .other, size := 1, bytes := 8, zero := .s .nilfunc }
theorem ti56_ok : TIok Try.prog 56 ti56 := ⟨⟨_, _, _, Try.underlying56⟩, by kernel_rfl, by kernel_rfl, ⟨_, rfl, by kernel_rfl⟩⟩
/-- func([]uint8) (api.Whole, int) -/
def ti58 : TI := { d := .other, size := 1, bytes := 8, zero := .s .nilfunc }
theorem ti58_ok : TIok Try.prog 58 ti58 := ⟨⟨_, _, _, Try.underlying58⟩, by kernel_rfl, by kernel_rfl, ⟨_, rfl, by kernel_rfl⟩⟩
/-- []api.Row -/
def ti59 : TI := { d := .slice 102, size := 1, bytes := 24, zero := .s .nilslice }
theorem ti59_ok : TIok Try.prog 59 ti59 := ⟨Try.underlying59, by kernel_rfl, by kernel_rfl, ⟨_, rfl, by kernel_rfl⟩⟩
/-- struct { Rows []api.Row; Cpu api.Cpu; Off int; Code int; Output []uint8 } -/
def ti60 : TI := { d := .struct [(59, 0), (39, 1), (3, 83), (3, 84), (23, 85)], size := 86, bytes := 608, zero := .agg [.one .nilslice, .one (.int .u64 0), .ints .u64 32 (fun _ => 0), .one (.int .i64 0), .one (.bool false), .one (.int .u64 0), .one (.int .u64 0), .one (.int .u64 0), .one (.int .u64 0), .one (.int .u64 0), .one (.int .u64 0), .one (.int .u64 0), .one (.int .u64 0), .one (.int .u64 0), .one (.int .u64 0), .one (.int .u64 0), .one (.int .u64 0), .ints .u8 16 (fun _ => 0), .ints .u64 16 (fun _ => 0), .one (.bool false), .one (.int .u64 0), .one (.int .i64 0), .one (.int .i64 0), .one (.int .i64 0), .one .nilslice] }
theorem ti60_ok : TIok Try.prog 60 ti60 := ⟨⟨_, Try.underlying60, by rfl⟩, by kernel_rfl, by kernel_rfl, ⟨_, rfl, by kernel_rfl⟩⟩
/-- api.Trace -/
def ti61 : TI := { d := .struct [(59, 0), (39, 1), (3, 83), (3, 84), (23, 85)], size := 86, bytes := 608, zero := .agg [.one .nilslice, .one (.int .u64 0), .ints .u64 32 (fun _ => 0), .one (.int .i64 0), .one (.bool false), .one (.int .u64 0), .one (.int .u64 0), .one (.int .u64 0), .one (.int .u64 0), .one (.int .u64 0), .one (.int .u64 0), .one (.int .u64 0), .one (.int .u64 0), .one (.int .u64 0), .one (.int .u64 0), .one (.int .u64 0), .one (.int .u64 0), .ints .u8 16 (fun _ => 0), .ints .u64 16 (fun _ => 0), .one (.bool false), .one (.int .u64 0), .one (.int .i64 0), .one (.int .i64 0), .one (.int .i64 0), .one .nilslice] }
theorem ti61_ok : TIok Try.prog 61 ti61 := ⟨⟨_, Try.underlying61, by rfl⟩, by kernel_rfl, by kernel_rfl, ⟨_, rfl, by kernel_rfl⟩⟩
/-- func(api.Trace) api.Trace -/
def ti62 : TI := { d := .other, size := 1, bytes := 8, zero := .s .nilfunc }
theorem ti62_ok : TIok Try.prog 62 ti62 := ⟨⟨_, _, _, Try.underlying62⟩, by kernel_rfl, by kernel_rfl, ⟨_, rfl, by kernel_rfl⟩⟩
/-- func(api.Trace) (int, int) -/
def ti64 : TI := { d := .other, size := 1, bytes := 8, zero := .s .nilfunc }
theorem ti64_ok : TIok Try.prog 64 ti64 := ⟨⟨_, _, _, Try.underlying64⟩, by kernel_rfl, by kernel_rfl, ⟨_, rfl, by kernel_rfl⟩⟩
/-- func(api.Trace, api.Trace) bool -/
def ti65 : TI := { d := .other, size := 1, bytes := 8, zero := .s .nilfunc }
theorem ti65_ok : TIok Try.prog 65 ti65 := ⟨⟨_, _, _, Try.underlying65⟩, by kernel_rfl, by kernel_rfl, ⟨_, rfl, by kernel_rfl⟩⟩
/-- func(api.Trace) bool -/
def ti66 : TI := { d := .other, size := 1, bytes := 8, zero := .s .nilfunc }
theorem ti66_ok : TIok Try.prog 66 ti66 := ⟨⟨_, _, _, Try.underlying66⟩, by kernel_rfl, by kernel_rfl, ⟨_, rfl, by kernel_rfl⟩⟩
/-- func([]uint8, uint8) int -/
def ti67 : TI := { d := .other, size := 1, bytes := 8, zero := .s .nilfunc }
theorem ti67_ok : TIok Try.prog 67 ti67 := ⟨⟨_, _, _, Try.underlying67⟩, by kernel_rfl, by kernel_rfl, ⟨_, rfl, by kernel_rfl⟩⟩
/-- func([]uint8) uint8 -/
def ti68 : TI := { d := .other, size := 1, bytes := 8, zero := .s .nilfunc }
theorem ti68_ok : TIok Try.prog 68 ti68 := ⟨⟨_, _, _, Try.underlying68⟩, by kernel_rfl, by kernel_rfl, ⟨_, rfl, by kernel_rfl⟩⟩
/-- uint -/
def ti69 : TI := { d := .int .u64, size := 1, bytes := 8, zero := .s (.int .u64 0) }
theorem ti69_ok : TIok Try.prog 69 ti69 := ⟨Try.underlying69, by kernel_rfl, by kernel_rfl, ⟨_, rfl, by kernel_rfl⟩⟩
/-- *bus.Bus -/
def ti70 : TI := { d := .ptr 132, size := 1, bytes := 8, zero := .s .nilptr }
theorem ti70_ok : TIok Try.prog 70 ti70 := ⟨Try.underlying70, by kernel_rfl, by kernel_rfl, ⟨_, rfl, by kernel_rfl⟩⟩
/-- func(api.Bus) (*bus.Bus, api.Errno) -/
def ti72 : TI := { d := .other, size := 1, bytes := 8, zero := .s .nilfunc }
theorem ti72_ok : TIok Try.prog 72 ti72 := ⟨⟨_, _, _, Try.underlying72⟩, by kernel_rfl, by kernel_rfl, ⟨_, rfl, by kernel_rfl⟩⟩
/-- func(api.Bus) bool -/
def ti73 : TI := { d := .other, size := 1, bytes := 8, zero := .s .nilfunc }
theorem ti73_ok : TIok Try.prog 73 ti73 := ⟨⟨_, _, _, Try.underlying73⟩, by kernel_rfl, by kernel_rfl, ⟨_, rfl, by kernel_rfl⟩⟩
/-- func(api.Cpu) api.Cpu -/
def ti74 : TI := { d := .other, size := 1, bytes := 8, zero := .s .nilfunc }
theorem ti74_ok : TIok Try.prog 74 ti74 := ⟨⟨_, _, _, Try.underlying74⟩, by kernel_rfl, by kernel_rfl, ⟨_, rfl, by kernel_rfl⟩⟩
/-- *save.writer -/
def ti75 : TI := { d := .ptr 77, size := 1, bytes := 8, zero := .s .nilptr }
theorem ti75_ok : TIok Try.prog 75 ti75 := ⟨Try.underlying75, by kernel_rfl, by kernel_rfl, ⟨_, rfl, by kernel_rfl⟩⟩
/-- struct { b []uint8 } -/
def ti76 : TI := { d := .struct [(23, 0)], size := 1, bytes := 24, zero := .agg [.one .nilslice] }
theorem ti76_ok : TIok Try.prog 76 ti76 := ⟨⟨_, Try.underlying76, by rfl⟩, by kernel_rfl, by kernel_rfl, ⟨_, rfl, by kernel_rfl⟩⟩
/-- save.writer -/
def ti77 : TI := { d := .struct [(23, 0)], size := 1, bytes := 24, zero := .agg [.one .nilslice] }
theorem ti77_ok : TIok Try.prog 77 ti77 := ⟨⟨_, Try.underlying77, by rfl⟩, by kernel_rfl, by kernel_rfl, ⟨_, rfl, by kernel_rfl⟩⟩
/-- func([]uint8) -/
def ti78 : TI := { d := .other, size := 1, bytes := 8, zero := .s .nilfunc }
theorem ti78_ok : TIok Try.prog 78 ti78 := ⟨⟨_, _, _, Try.underlying78⟩, by kernel_rfl, by kernel_rfl, ⟨_, rfl, by kernel_rfl⟩⟩
/-- func(save.line, *api.Whole) -/
def ti79 : TI := { d := .other, size := 1, bytes := 8, zero := .s .nilfunc }
theorem ti79_ok : TIok Try.prog 79 ti79 := ⟨⟨_, _, _, Try.underlying79⟩, by kernel_rfl, by kernel_rfl, ⟨_, rfl, by kernel_rfl⟩⟩
/-- *api.Whole -/
def ti80 : TI := { d := .ptr 44, size := 1, bytes := 8, zero := .s .nilptr }
theorem ti80_ok : TIok Try.prog 80 ti80 := ⟨Try.underlying80, by kernel_rfl, by kernel_rfl, ⟨_, rfl, by kernel_rfl⟩⟩
/-- func(uint64, int) -/
def ti81 : TI := { d := .other, size := 1, bytes := 8, zero := .s .nilfunc }
theorem ti81_ok : TIok Try.prog 81 ti81 := ⟨⟨_, _, _, Try.underlying81⟩, by kernel_rfl, by kernel_rfl, ⟨_, rfl, by kernel_rfl⟩⟩
/-- func([]uint8) uint32 -/
def ti82 : TI := { d := .other, size := 1, bytes := 8, zero := .s .nilfunc }
theorem ti82_ok : TIok Try.prog 82 ti82 := ⟨⟨_, _, _, Try.underlying82⟩, by kernel_rfl, by kernel_rfl, ⟨_, rfl, by kernel_rfl⟩⟩
/-- func() []uint8 -/
def ti83 : TI := { d := .other, size := 1, bytes := 8, zero := .s .nilfunc }
theorem ti83_ok : TIok Try.prog 83 ti83 := ⟨⟨_, _, _, Try.underlying83⟩, by kernel_rfl, by kernel_rfl, ⟨_, rfl, by kernel_rfl⟩⟩
/-- func([]uint8, api.Cpu) []uint8 -/
def ti84 : TI := { d := .other, size := 1, bytes := 8, zero := .s .nilfunc }
theorem ti84_ok : TIok Try.prog 84 ti84 := ⟨⟨_, _, _, Try.underlying84⟩, by kernel_rfl, by kernel_rfl, ⟨_, rfl, by kernel_rfl⟩⟩
/-- func([]uint8, api.Bus) []uint8 -/
def ti85 : TI := { d := .other, size := 1, bytes := 8, zero := .s .nilfunc }
theorem ti85_ok : TIok Try.prog 85 ti85 := ⟨⟨_, _, _, Try.underlying85⟩, by kernel_rfl, by kernel_rfl, ⟨_, rfl, by kernel_rfl⟩⟩
/-- func([]uint8, []uint8) []uint8 -/
def ti86 : TI := { d := .other, size := 1, bytes := 8, zero := .s .nilfunc }
theorem ti86_ok : TIok Try.prog 86 ti86 := ⟨⟨_, _, _, Try.underlying86⟩, by kernel_rfl, by kernel_rfl, ⟨_, rfl, by kernel_rfl⟩⟩
/-- func([]uint8, uint64, int) []uint8 -/
def ti87 : TI := { d := .other, size := 1, bytes := 8, zero := .s .nilfunc }
theorem ti87_ok : TIok Try.prog 87 ti87 := ⟨⟨_, _, _, Try.underlying87⟩, by kernel_rfl, by kernel_rfl, ⟨_, rfl, by kernel_rfl⟩⟩
/-- func(api.Bus, api.Bus) bool -/
def ti88 : TI := { d := .other, size := 1, bytes := 8, zero := .s .nilfunc }
theorem ti88_ok : TIok Try.prog 88 ti88 := ⟨⟨_, _, _, Try.underlying88⟩, by kernel_rfl, by kernel_rfl, ⟨_, rfl, by kernel_rfl⟩⟩
/-- *save.reader -/
def ti89 : TI := { d := .ptr 91, size := 1, bytes := 8, zero := .s .nilptr }
theorem ti89_ok : TIok Try.prog 89 ti89 := ⟨Try.underlying89, by kernel_rfl, by kernel_rfl, ⟨_, rfl, by kernel_rfl⟩⟩
/-- struct { b []uint8; bad bool } -/
def ti90 : TI := { d := .struct [(23, 0), (4, 1)], size := 2, bytes := 32, zero := .agg [.one .nilslice, .one (.bool false)] }
theorem ti90_ok : TIok Try.prog 90 ti90 := ⟨⟨_, Try.underlying90, by rfl⟩, by kernel_rfl, by kernel_rfl, ⟨_, rfl, by kernel_rfl⟩⟩
/-- save.reader -/
def ti91 : TI := { d := .struct [(23, 0), (4, 1)], size := 2, bytes := 32, zero := .agg [.one .nilslice, .one (.bool false)] }
theorem ti91_ok : TIok Try.prog 91 ti91 := ⟨⟨_, Try.underlying91, by rfl⟩, by kernel_rfl, by kernel_rfl, ⟨_, rfl, by kernel_rfl⟩⟩
/-- func(int) uint64 -/
def ti92 : TI := { d := .other, size := 1, bytes := 8, zero := .s .nilfunc }
theorem ti92_ok : TIok Try.prog 92 ti92 := ⟨⟨_, _, _, Try.underlying92⟩, by kernel_rfl, by kernel_rfl, ⟨_, rfl, by kernel_rfl⟩⟩
/-- *anvilref16.Reader -/
def ti93 : TI := { d := .ptr 95, size := 1, bytes := 8, zero := .s .nilptr }
theorem ti93_ok : TIok Try.prog 93 ti93 := ⟨Try.underlying93, by kernel_rfl, by kernel_rfl, ⟨_, rfl, by kernel_rfl⟩⟩
/-- struct { B []uint8; At int; Bad bool } -/
def ti94 : TI := { d := .struct [(23, 0), (3, 1), (4, 2)], size := 3, bytes := 40, zero := .agg [.one .nilslice, .one (.int .i64 0), .one (.bool false)] }
theorem ti94_ok : TIok Try.prog 94 ti94 := ⟨⟨_, Try.underlying94, by rfl⟩, by kernel_rfl, by kernel_rfl, ⟨_, rfl, by kernel_rfl⟩⟩
/-- anvilref16.Reader -/
def ti95 : TI := { d := .struct [(23, 0), (3, 1), (4, 2)], size := 3, bytes := 40, zero := .agg [.one .nilslice, .one (.int .i64 0), .one (.bool false)] }
theorem ti95_ok : TIok Try.prog 95 ti95 := ⟨⟨_, Try.underlying95, by rfl⟩, by kernel_rfl, by kernel_rfl, ⟨_, rfl, by kernel_rfl⟩⟩
/-- func() api.Cpu -/
def ti96 : TI := { d := .other, size := 1, bytes := 8, zero := .s .nilfunc }
theorem ti96_ok : TIok Try.prog 96 ti96 := ⟨⟨_, _, _, Try.underlying96⟩, by kernel_rfl, by kernel_rfl, ⟨_, rfl, by kernel_rfl⟩⟩
/-- func() api.Bus -/
def ti97 : TI := { d := .other, size := 1, bytes := 8, zero := .s .nilfunc }
theorem ti97_ok : TIok Try.prog 97 ti97 := ⟨⟨_, _, _, Try.underlying97⟩, by kernel_rfl, by kernel_rfl, ⟨_, rfl, by kernel_rfl⟩⟩
/-- func(api.Bus) api.Bus -/
def ti98 : TI := { d := .other, size := 1, bytes := 8, zero := .s .nilfunc }
theorem ti98_ok : TIok Try.prog 98 ti98 := ⟨⟨_, _, _, Try.underlying98⟩, by kernel_rfl, by kernel_rfl, ⟨_, rfl, by kernel_rfl⟩⟩
/-- func(api.Pmp, uint64, int) bool -/
def ti99 : TI := { d := .other, size := 1, bytes := 8, zero := .s .nilfunc }
theorem ti99_ok : TIok Try.prog 99 ti99 := ⟨⟨_, _, _, Try.underlying99⟩, by kernel_rfl, by kernel_rfl, ⟨_, rfl, by kernel_rfl⟩⟩
/-- func() api.Whole -/
def ti100 : TI := { d := .other, size := 1, bytes := 8, zero := .s .nilfunc }
theorem ti100_ok : TIok Try.prog 100 ti100 := ⟨⟨_, _, _, Try.underlying100⟩, by kernel_rfl, by kernel_rfl, ⟨_, rfl, by kernel_rfl⟩⟩
/-- struct { Step int; Kind int; Mode int; Pc uint64; Raw uint32; Len int; Cause uint64; Tval uint64; Rd int; Val uint64; Mem int; Addr uint64; Size int; Data uint64; Next uint64; NextMode int } -/
def ti101 : TI := { d := .struct [(3, 0), (3, 1), (3, 2), (30, 3), (40, 4), (3, 5), (30, 6), (30, 7), (3, 8), (30, 9), (3, 10), (30, 11), (3, 12), (30, 13), (30, 14), (3, 15)], size := 16, bytes := 128, zero := .agg [.one (.int .i64 0), .one (.int .i64 0), .one (.int .i64 0), .one (.int .u64 0), .one (.int .u32 0), .one (.int .i64 0), .one (.int .u64 0), .one (.int .u64 0), .one (.int .i64 0), .one (.int .u64 0), .one (.int .i64 0), .one (.int .u64 0), .one (.int .i64 0), .one (.int .u64 0), .one (.int .u64 0), .one (.int .i64 0)] }
theorem ti101_ok : TIok Try.prog 101 ti101 := ⟨⟨_, Try.underlying101, by rfl⟩, by kernel_rfl, by kernel_rfl, ⟨_, rfl, by kernel_rfl⟩⟩
/-- api.Row -/
def ti102 : TI := { d := .struct [(3, 0), (3, 1), (3, 2), (30, 3), (40, 4), (3, 5), (30, 6), (30, 7), (3, 8), (30, 9), (3, 10), (30, 11), (3, 12), (30, 13), (30, 14), (3, 15)], size := 16, bytes := 128, zero := .agg [.one (.int .i64 0), .one (.int .i64 0), .one (.int .i64 0), .one (.int .u64 0), .one (.int .u32 0), .one (.int .i64 0), .one (.int .u64 0), .one (.int .u64 0), .one (.int .i64 0), .one (.int .u64 0), .one (.int .i64 0), .one (.int .u64 0), .one (.int .i64 0), .one (.int .u64 0), .one (.int .u64 0), .one (.int .i64 0)] }
theorem ti102_ok : TIok Try.prog 102 ti102 := ⟨⟨_, Try.underlying102, by rfl⟩, by kernel_rfl, by kernel_rfl, ⟨_, rfl, by kernel_rfl⟩⟩
/-- func(api.Whole, api.Whole, api.World, api.Row) int -/
def ti103 : TI := { d := .other, size := 1, bytes := 8, zero := .s .nilfunc }
theorem ti103_ok : TIok Try.prog 103 ti103 := ⟨⟨_, _, _, Try.underlying103⟩, by kernel_rfl, by kernel_rfl, ⟨_, rfl, by kernel_rfl⟩⟩
/-- struct { Tick bool; Ext bool; Soft bool; Input []uint8 } -/
def ti104 : TI := { d := .struct [(4, 0), (4, 1), (4, 2), (23, 3)], size := 4, bytes := 32, zero := .agg [.one (.bool false), .one (.bool false), .one (.bool false), .one .nilslice] }
theorem ti104_ok : TIok Try.prog 104 ti104 := ⟨⟨_, Try.underlying104, by rfl⟩, by kernel_rfl, by kernel_rfl, ⟨_, rfl, by kernel_rfl⟩⟩
/-- api.World -/
def ti105 : TI := { d := .struct [(4, 0), (4, 1), (4, 2), (23, 3)], size := 4, bytes := 32, zero := .agg [.one (.bool false), .one (.bool false), .one (.bool false), .one .nilslice] }
theorem ti105_ok : TIok Try.prog 105 ti105 := ⟨⟨_, Try.underlying105, by rfl⟩, by kernel_rfl, by kernel_rfl, ⟨_, rfl, by kernel_rfl⟩⟩
/-- *watch.walk -/
def ti106 : TI := { d := .ptr 109, size := 1, bytes := 8, zero := .s .nilptr }
theorem ti106_ok : TIok Try.prog 106 ti106 := ⟨Try.underlying106, by kernel_rfl, by kernel_rfl, ⟨_, rfl, by kernel_rfl⟩⟩
/-- map[int]int -/
def ti107 : TI := { d := .map 3 3, size := 1, bytes := 8, zero := .s .nilmap }
theorem ti107_ok : TIok Try.prog 107 ti107 := ⟨Try.underlying107, by kernel_rfl, by kernel_rfl, ⟨_, rfl, by kernel_rfl⟩⟩
/-- struct { t api.Trace; seen map[int]int } -/
def ti108 : TI := { d := .struct [(61, 0), (107, 86)], size := 87, bytes := 616, zero := .agg [.one .nilslice, .one (.int .u64 0), .ints .u64 32 (fun _ => 0), .one (.int .i64 0), .one (.bool false), .one (.int .u64 0), .one (.int .u64 0), .one (.int .u64 0), .one (.int .u64 0), .one (.int .u64 0), .one (.int .u64 0), .one (.int .u64 0), .one (.int .u64 0), .one (.int .u64 0), .one (.int .u64 0), .one (.int .u64 0), .one (.int .u64 0), .ints .u8 16 (fun _ => 0), .ints .u64 16 (fun _ => 0), .one (.bool false), .one (.int .u64 0), .one (.int .i64 0), .one (.int .i64 0), .one (.int .i64 0), .one .nilslice, .one .nilmap] }
theorem ti108_ok : TIok Try.prog 108 ti108 := ⟨⟨_, Try.underlying108, by rfl⟩, by kernel_rfl, by kernel_rfl, ⟨_, rfl, by kernel_rfl⟩⟩
/-- watch.walk -/
def ti109 : TI := { d := .struct [(61, 0), (107, 86)], size := 87, bytes := 616, zero := .agg [.one .nilslice, .one (.int .u64 0), .ints .u64 32 (fun _ => 0), .one (.int .i64 0), .one (.bool false), .one (.int .u64 0), .one (.int .u64 0), .one (.int .u64 0), .one (.int .u64 0), .one (.int .u64 0), .one (.int .u64 0), .one (.int .u64 0), .one (.int .u64 0), .one (.int .u64 0), .one (.int .u64 0), .one (.int .u64 0), .one (.int .u64 0), .ints .u8 16 (fun _ => 0), .ints .u64 16 (fun _ => 0), .one (.bool false), .one (.int .u64 0), .one (.int .i64 0), .one (.int .i64 0), .one (.int .i64 0), .one .nilslice, .one .nilmap] }
theorem ti109_ok : TIok Try.prog 109 ti109 := ⟨⟨_, Try.underlying109, by rfl⟩, by kernel_rfl, by kernel_rfl, ⟨_, rfl, by kernel_rfl⟩⟩
/-- func(int, bool) -/
def ti110 : TI := { d := .other, size := 1, bytes := 8, zero := .s .nilfunc }
theorem ti110_ok : TIok Try.prog 110 ti110 := ⟨⟨_, _, _, Try.underlying110⟩, by kernel_rfl, by kernel_rfl, ⟨_, rfl, by kernel_rfl⟩⟩
/-- func(int, int) -/
def ti111 : TI := { d := .other, size := 1, bytes := 8, zero := .s .nilfunc }
theorem ti111_ok : TIok Try.prog 111 ti111 := ⟨⟨_, _, _, Try.underlying111⟩, by kernel_rfl, by kernel_rfl, ⟨_, rfl, by kernel_rfl⟩⟩
/-- func(api.Trace, int, int) bool -/
def ti113 : TI := { d := .other, size := 1, bytes := 8, zero := .s .nilfunc }
theorem ti113_ok : TIok Try.prog 113 ti113 := ⟨⟨_, _, _, Try.underlying113⟩, by kernel_rfl, by kernel_rfl, ⟨_, rfl, by kernel_rfl⟩⟩
/-- func(uint8) bool -/
def ti114 : TI := { d := .other, size := 1, bytes := 8, zero := .s .nilfunc }
theorem ti114_ok : TIok Try.prog 114 ti114 := ⟨⟨_, _, _, Try.underlying114⟩, by kernel_rfl, by kernel_rfl, ⟨_, rfl, by kernel_rfl⟩⟩
/-- func(uint64, int) string -/
def ti115 : TI := { d := .other, size := 1, bytes := 8, zero := .s .nilfunc }
theorem ti115_ok : TIok Try.prog 115 ti115 := ⟨⟨_, _, _, Try.underlying115⟩, by kernel_rfl, by kernel_rfl, ⟨_, rfl, by kernel_rfl⟩⟩
/-- func([]uint8) int -/
def ti116 : TI := { d := .other, size := 1, bytes := 8, zero := .s .nilfunc }
theorem ti116_ok : TIok Try.prog 116 ti116 := ⟨⟨_, _, _, Try.underlying116⟩, by kernel_rfl, by kernel_rfl, ⟨_, rfl, by kernel_rfl⟩⟩
/-- struct { bytes []uint8 } -/
def ti117 : TI := { d := .struct [(23, 0)], size := 1, bytes := 24, zero := .agg [.one .nilslice] }
theorem ti117_ok : TIok Try.prog 117 ti117 := ⟨⟨_, Try.underlying117, by rfl⟩, by kernel_rfl, by kernel_rfl, ⟨_, rfl, by kernel_rfl⟩⟩
/-- bus.ram -/
def ti118 : TI := { d := .struct [(23, 0)], size := 1, bytes := 24, zero := .agg [.one .nilslice] }
theorem ti118_ok : TIok Try.prog 118 ti118 := ⟨⟨_, Try.underlying118, by rfl⟩, by kernel_rfl, by kernel_rfl, ⟨_, rfl, by kernel_rfl⟩⟩
/-- struct { off int; code int } -/
def ti119 : TI := { d := .struct [(3, 0), (3, 1)], size := 2, bytes := 16, zero := .agg [.one (.int .i64 0), .one (.int .i64 0)] }
theorem ti119_ok : TIok Try.prog 119 ti119 := ⟨⟨_, Try.underlying119, by rfl⟩, by kernel_rfl, by kernel_rfl, ⟨_, rfl, by kernel_rfl⟩⟩
/-- bus.finisher -/
def ti120 : TI := { d := .struct [(3, 0), (3, 1)], size := 2, bytes := 16, zero := .agg [.one (.int .i64 0), .one (.int .i64 0)] }
theorem ti120_ok : TIok Try.prog 120 ti120 := ⟨⟨_, Try.underlying120, by rfl⟩, by kernel_rfl, by kernel_rfl, ⟨_, rfl, by kernel_rfl⟩⟩
/-- struct { msip uint32; cmp uint64; now uint64 } -/
def ti121 : TI := { d := .struct [(40, 0), (30, 1), (30, 2)], size := 3, bytes := 24, zero := .agg [.one (.int .u32 0), .one (.int .u64 0), .one (.int .u64 0)] }
theorem ti121_ok : TIok Try.prog 121 ti121 := ⟨⟨_, Try.underlying121, by rfl⟩, by kernel_rfl, by kernel_rfl, ⟨_, rfl, by kernel_rfl⟩⟩
/-- bus.clint -/
def ti122 : TI := { d := .struct [(40, 0), (30, 1), (30, 2)], size := 3, bytes := 24, zero := .agg [.one (.int .u32 0), .one (.int .u64 0), .one (.int .u64 0)] }
theorem ti122_ok : TIok Try.prog 122 ti122 := ⟨⟨_, Try.underlying122, by rfl⟩, by kernel_rfl, by kernel_rfl, ⟨_, rfl, by kernel_rfl⟩⟩
/-- struct { state int32; sema uint32 } -/
def ti125 : TI := { d := .struct [(21, 0), (40, 1)], size := 2, bytes := 8, zero := .agg [.one (.int .i32 0), .one (.int .u32 0)] }
theorem ti125_ok : TIok Try.prog 125 ti125 := ⟨⟨_, Try.underlying125, by rfl⟩, by kernel_rfl, by kernel_rfl, ⟨_, rfl, by kernel_rfl⟩⟩
/-- sync.Mutex -/
def ti126 : TI := { d := .struct [(21, 0), (40, 1)], size := 2, bytes := 8, zero := .agg [.one (.int .i32 0), .one (.int .u32 0)] }
theorem ti126_ok : TIok Try.prog 126 ti126 := ⟨⟨_, Try.underlying126, by rfl⟩, by kernel_rfl, by kernel_rfl, ⟨_, rfl, by kernel_rfl⟩⟩
/-- struct { _ sync.noCopy; mu sync.Mutex } -/
def ti127 : TI := { d := .struct [(124, 0), (126, 0)], size := 2, bytes := 8, zero := .agg [.one (.int .i32 0), .one (.int .u32 0)] }
theorem ti127_ok : TIok Try.prog 127 ti127 := ⟨⟨_, Try.underlying127, by rfl⟩, by kernel_rfl, by kernel_rfl, ⟨_, rfl, by kernel_rfl⟩⟩
/-- sync.Mutex -/
def ti128 : TI := { d := .struct [(124, 0), (126, 0)], size := 2, bytes := 8, zero := .agg [.one (.int .i32 0), .one (.int .u32 0)] }
theorem ti128_ok : TIok Try.prog 128 ti128 := ⟨⟨_, Try.underlying128, by rfl⟩, by kernel_rfl, by kernel_rfl, ⟨_, rfl, by kernel_rfl⟩⟩
/-- struct { lock sync.Mutex; input []uint8; output []uint8; ier uint8; lcr uint8; mcr uint8; scratch uint8; overrun bool } -/
def ti129 : TI := { d := .struct [(128, 0), (23, 2), (23, 3), (5, 4), (5, 5), (5, 6), (5, 7), (4, 8)], size := 9, bytes := 64, zero := .agg [.one (.int .i32 0), .one (.int .u32 0), .one .nilslice, .one .nilslice, .one (.int .u8 0), .one (.int .u8 0), .one (.int .u8 0), .one (.int .u8 0), .one (.bool false)] }
theorem ti129_ok : TIok Try.prog 129 ti129 := ⟨⟨_, Try.underlying129, by rfl⟩, by kernel_rfl, by kernel_rfl, ⟨_, rfl, by kernel_rfl⟩⟩
/-- bus.uart -/
def ti130 : TI := { d := .struct [(128, 0), (23, 2), (23, 3), (5, 4), (5, 5), (5, 6), (5, 7), (4, 8)], size := 9, bytes := 64, zero := .agg [.one (.int .i32 0), .one (.int .u32 0), .one .nilslice, .one .nilslice, .one (.int .u8 0), .one (.int .u8 0), .one (.int .u8 0), .one (.int .u8 0), .one (.bool false)] }
theorem ti130_ok : TIok Try.prog 130 ti130 := ⟨⟨_, Try.underlying130, by rfl⟩, by kernel_rfl, by kernel_rfl, ⟨_, rfl, by kernel_rfl⟩⟩
/-- struct { ram bus.ram; power bus.finisher; timer bus.clint; line bus.uart; ext bool; soft bool } -/
def ti131 : TI := { d := .struct [(118, 0), (120, 1), (122, 3), (130, 6), (4, 15), (4, 16)], size := 17, bytes := 136, zero := .agg [.one .nilslice, .one (.int .i64 0), .one (.int .i64 0), .one (.int .u32 0), .one (.int .u64 0), .one (.int .u64 0), .one (.int .i32 0), .one (.int .u32 0), .one .nilslice, .one .nilslice, .one (.int .u8 0), .one (.int .u8 0), .one (.int .u8 0), .one (.int .u8 0), .one (.bool false), .one (.bool false), .one (.bool false)] }
theorem ti131_ok : TIok Try.prog 131 ti131 := ⟨⟨_, Try.underlying131, by rfl⟩, by kernel_rfl, by kernel_rfl, ⟨_, rfl, by kernel_rfl⟩⟩
/-- bus.Bus -/
def ti132 : TI := { d := .struct [(118, 0), (120, 1), (122, 3), (130, 6), (4, 15), (4, 16)], size := 17, bytes := 136, zero := .agg [.one .nilslice, .one (.int .i64 0), .one (.int .i64 0), .one (.int .u32 0), .one (.int .u64 0), .one (.int .u64 0), .one (.int .i32 0), .one (.int .u32 0), .one .nilslice, .one .nilslice, .one (.int .u8 0), .one (.int .u8 0), .one (.int .u8 0), .one (.int .u8 0), .one (.bool false), .one (.bool false), .one (.bool false)] }
theorem ti132_ok : TIok Try.prog 132 ti132 := ⟨⟨_, Try.underlying132, by rfl⟩, by kernel_rfl, by kernel_rfl, ⟨_, rfl, by kernel_rfl⟩⟩
/-- func(api.Bus) -/
def ti133 : TI := { d := .other, size := 1, bytes := 8, zero := .s .nilfunc }
theorem ti133_ok : TIok Try.prog 133 ti133 := ⟨⟨_, _, _, Try.underlying133⟩, by kernel_rfl, by kernel_rfl, ⟨_, rfl, by kernel_rfl⟩⟩
/-- func(api.Pmp) api.Pmp -/
def ti134 : TI := { d := .other, size := 1, bytes := 8, zero := .s .nilfunc }
theorem ti134_ok : TIok Try.prog 134 ti134 := ⟨⟨_, _, _, Try.underlying134⟩, by kernel_rfl, by kernel_rfl, ⟨_, rfl, by kernel_rfl⟩⟩
/-- func(api.Res) api.Res -/
def ti135 : TI := { d := .other, size := 1, bytes := 8, zero := .s .nilfunc }
theorem ti135_ok : TIok Try.prog 135 ti135 := ⟨⟨_, _, _, Try.underlying135⟩, by kernel_rfl, by kernel_rfl, ⟨_, rfl, by kernel_rfl⟩⟩
/-- interface { save.double(*uint64); save.flag(*bool); save.list(*[]uint8, int, int); save.octet(*uint8); save.place(*int, int); save.word(*uint32) } -/
def ti136 : TI := { d := .iface, size := 1, bytes := 16, zero := .s .niliface }
theorem ti136_ok : TIok Try.prog 136 ti136 := ⟨⟨_, Try.underlying136⟩, by kernel_rfl, by kernel_rfl, ⟨_, rfl, by kernel_rfl⟩⟩
/-- save.line -/
def ti137 : TI := { d := .iface, size := 1, bytes := 16, zero := .s .niliface }
theorem ti137_ok : TIok Try.prog 137 ti137 := ⟨⟨_, Try.underlying137⟩, by kernel_rfl, by kernel_rfl, ⟨_, rfl, by kernel_rfl⟩⟩
/-- *api.Cpu -/
def ti138 : TI := { d := .ptr 39, size := 1, bytes := 8, zero := .s .nilptr }
theorem ti138_ok : TIok Try.prog 138 ti138 := ⟨Try.underlying138, by kernel_rfl, by kernel_rfl, ⟨_, rfl, by kernel_rfl⟩⟩
/-- func(*uint64) -/
def ti139 : TI := { d := .other, size := 1, bytes := 8, zero := .s .nilfunc }
theorem ti139_ok : TIok Try.prog 139 ti139 := ⟨⟨_, _, _, Try.underlying139⟩, by kernel_rfl, by kernel_rfl, ⟨_, rfl, by kernel_rfl⟩⟩
/-- *uint64 -/
def ti140 : TI := { d := .ptr 30, size := 1, bytes := 8, zero := .s .nilptr }
theorem ti140_ok : TIok Try.prog 140 ti140 := ⟨Try.underlying140, by kernel_rfl, by kernel_rfl, ⟨_, rfl, by kernel_rfl⟩⟩
/-- func(*int, int) -/
def ti141 : TI := { d := .other, size := 1, bytes := 8, zero := .s .nilfunc }
theorem ti141_ok : TIok Try.prog 141 ti141 := ⟨⟨_, _, _, Try.underlying141⟩, by kernel_rfl, by kernel_rfl, ⟨_, rfl, by kernel_rfl⟩⟩
/-- *int -/
def ti142 : TI := { d := .ptr 3, size := 1, bytes := 8, zero := .s .nilptr }
theorem ti142_ok : TIok Try.prog 142 ti142 := ⟨Try.underlying142, by kernel_rfl, by kernel_rfl, ⟨_, rfl, by kernel_rfl⟩⟩
/-- func(*bool) -/
def ti143 : TI := { d := .other, size := 1, bytes := 8, zero := .s .nilfunc }
theorem ti143_ok : TIok Try.prog 143 ti143 := ⟨⟨_, _, _, Try.underlying143⟩, by kernel_rfl, by kernel_rfl, ⟨_, rfl, by kernel_rfl⟩⟩
/-- *bool -/
def ti144 : TI := { d := .ptr 4, size := 1, bytes := 8, zero := .s .nilptr }
theorem ti144_ok : TIok Try.prog 144 ti144 := ⟨Try.underlying144, by kernel_rfl, by kernel_rfl, ⟨_, rfl, by kernel_rfl⟩⟩
/-- []*uint64 -/
def ti145 : TI := { d := .slice 140, size := 1, bytes := 24, zero := .s .nilslice }
theorem ti145_ok : TIok Try.prog 145 ti145 := ⟨Try.underlying145, by kernel_rfl, by kernel_rfl, ⟨_, rfl, by kernel_rfl⟩⟩
/-- func(*uint8) -/
def ti146 : TI := { d := .other, size := 1, bytes := 8, zero := .s .nilfunc }
theorem ti146_ok : TIok Try.prog 146 ti146 := ⟨⟨_, _, _, Try.underlying146⟩, by kernel_rfl, by kernel_rfl, ⟨_, rfl, by kernel_rfl⟩⟩
/-- *uint8 -/
def ti147 : TI := { d := .ptr 5, size := 1, bytes := 8, zero := .s .nilptr }
theorem ti147_ok : TIok Try.prog 147 ti147 := ⟨Try.underlying147, by kernel_rfl, by kernel_rfl, ⟨_, rfl, by kernel_rfl⟩⟩
/-- *api.Bus -/
def ti148 : TI := { d := .ptr 42, size := 1, bytes := 8, zero := .s .nilptr }
theorem ti148_ok : TIok Try.prog 148 ti148 := ⟨Try.underlying148, by kernel_rfl, by kernel_rfl, ⟨_, rfl, by kernel_rfl⟩⟩
/-- func(*uint32) -/
def ti149 : TI := { d := .other, size := 1, bytes := 8, zero := .s .nilfunc }
theorem ti149_ok : TIok Try.prog 149 ti149 := ⟨⟨_, _, _, Try.underlying149⟩, by kernel_rfl, by kernel_rfl, ⟨_, rfl, by kernel_rfl⟩⟩
/-- *uint32 -/
def ti150 : TI := { d := .ptr 40, size := 1, bytes := 8, zero := .s .nilptr }
theorem ti150_ok : TIok Try.prog 150 ti150 := ⟨Try.underlying150, by kernel_rfl, by kernel_rfl, ⟨_, rfl, by kernel_rfl⟩⟩
/-- []*uint8 -/
def ti151 : TI := { d := .slice 147, size := 1, bytes := 24, zero := .s .nilslice }
theorem ti151_ok : TIok Try.prog 151 ti151 := ⟨Try.underlying151, by kernel_rfl, by kernel_rfl, ⟨_, rfl, by kernel_rfl⟩⟩
/-- func(*[]uint8, int, int) -/
def ti152 : TI := { d := .other, size := 1, bytes := 8, zero := .s .nilfunc }
theorem ti152_ok : TIok Try.prog 152 ti152 := ⟨⟨_, _, _, Try.underlying152⟩, by kernel_rfl, by kernel_rfl, ⟨_, rfl, by kernel_rfl⟩⟩
/-- *[]uint8 -/
def ti153 : TI := { d := .ptr 23, size := 1, bytes := 8, zero := .s .nilptr }
theorem ti153_ok : TIok Try.prog 153 ti153 := ⟨Try.underlying153, by kernel_rfl, by kernel_rfl, ⟨_, rfl, by kernel_rfl⟩⟩
/-- func([]uint8, int) []uint8 -/
def ti154 : TI := { d := .other, size := 1, bytes := 8, zero := .s .nilfunc }
theorem ti154_ok : TIok Try.prog 154 ti154 := ⟨⟨_, _, _, Try.underlying154⟩, by kernel_rfl, by kernel_rfl, ⟨_, rfl, by kernel_rfl⟩⟩
/-- func(uint64) uint64 -/
def ti155 : TI := { d := .other, size := 1, bytes := 8, zero := .s .nilfunc }
theorem ti155_ok : TIok Try.prog 155 ti155 := ⟨⟨_, _, _, Try.underlying155⟩, by kernel_rfl, by kernel_rfl, ⟨_, rfl, by kernel_rfl⟩⟩
/-- func([]uint8, bool) []uint8 -/
def ti156 : TI := { d := .other, size := 1, bytes := 8, zero := .s .nilfunc }
theorem ti156_ok : TIok Try.prog 156 ti156 := ⟨⟨_, _, _, Try.underlying156⟩, by kernel_rfl, by kernel_rfl, ⟨_, rfl, by kernel_rfl⟩⟩
/-- []uint64 -/
def ti157 : TI := { d := .slice 30, size := 1, bytes := 24, zero := .s .nilslice }
theorem ti157_ok : TIok Try.prog 157 ti157 := ⟨Try.underlying157, by kernel_rfl, by kernel_rfl, ⟨_, rfl, by kernel_rfl⟩⟩
/-- func(int) int -/
def ti158 : TI := { d := .other, size := 1, bytes := 8, zero := .s .nilfunc }
theorem ti158_ok : TIok Try.prog 158 ti158 := ⟨⟨_, _, _, Try.underlying158⟩, by kernel_rfl, by kernel_rfl, ⟨_, rfl, by kernel_rfl⟩⟩
/-- func(int) []uint8 -/
def ti159 : TI := { d := .other, size := 1, bytes := 8, zero := .s .nilfunc }
theorem ti159_ok : TIok Try.prog 159 ti159 := ⟨⟨_, _, _, Try.underlying159⟩, by kernel_rfl, by kernel_rfl, ⟨_, rfl, by kernel_rfl⟩⟩
/-- func(int, int) []uint8 -/
def ti160 : TI := { d := .other, size := 1, bytes := 8, zero := .s .nilfunc }
theorem ti160_ok : TIok Try.prog 160 ti160 := ⟨⟨_, _, _, Try.underlying160⟩, by kernel_rfl, by kernel_rfl, ⟨_, rfl, by kernel_rfl⟩⟩
/-- func(api.Pmp, uint64, int) (int, bool) -/
def ti161 : TI := { d := .other, size := 1, bytes := 8, zero := .s .nilfunc }
theorem ti161_ok : TIok Try.prog 161 ti161 := ⟨⟨_, _, _, Try.underlying161⟩, by kernel_rfl, by kernel_rfl, ⟨_, rfl, by kernel_rfl⟩⟩
/-- *watch.scene -/
def ti162 : TI := { d := .ptr 164, size := 1, bytes := 8, zero := .s .nilptr }
theorem ti162_ok : TIok Try.prog 162 ti162 := ⟨Try.underlying162, by kernel_rfl, by kernel_rfl, ⟨_, rfl, by kernel_rfl⟩⟩
/-- struct { b api.Whole; a api.Whole; w api.World; r api.Row; raw api.Cpu } -/
def ti163 : TI := { d := .struct [(44, 0), (44, 97), (105, 194), (102, 198), (39, 214)], size := 296, bytes := 2032, zero := .agg [.one (.int .u64 0), .ints .u64 32 (fun _ => 0), .one (.int .i64 0), .one (.bool false), .one (.int .u64 0), .one (.int .u64 0), .one (.int .u64 0), .one (.int .u64 0), .one (.int .u64 0), .one (.int .u64 0), .one (.int .u64 0), .one (.int .u64 0), .one (.int .u64 0), .one (.int .u64 0), .one (.int .u64 0), .one (.int .u64 0), .ints .u8 16 (fun _ => 0), .ints .u64 16 (fun _ => 0), .one (.bool false), .one (.int .u64 0), .one (.int .i64 0), .one .nilslice, .one (.int .u32 0), .one (.int .u64 0), .one (.int .u64 0), .one (.bool false), .one (.bool false), .one (.int .u8 0), .one (.int .u8 0), .one (.int .u8 0), .one (.int .u8 0), .one (.bool false), .one .nilslice, .one .nilslice, .one (.int .i64 0), .one (.int .i64 0), .one (.int .u64 0), .ints .u64 32 (fun _ => 0), .one (.int .i64 0), .one (.bool false), .one (.int .u64 0), .one (.int .u64 0), .one (.int .u64 0), .one (.int .u64 0), .one (.int .u64 0), .one (.int .u64 0), .one (.int .u64 0), .one (.int .u64 0), .one (.int .u64 0), .one (.int .u64 0), .one (.int .u64 0), .one (.int .u64 0), .ints .u8 16 (fun _ => 0), .ints .u64 16 (fun _ => 0), .one (.bool false), .one (.int .u64 0), .one (.int .i64 0), .one .nilslice, .one (.int .u32 0), .one (.int .u64 0), .one (.int .u64 0), .one (.bool false), .one (.bool false), .one (.int .u8 0), .one (.int .u8 0), .one (.int .u8 0), .one (.int .u8 0), .one (.bool false), .one .nilslice, .one .nilslice, .one (.int .i64 0), .one (.int .i64 0), .one (.bool false), .one (.bool false), .one (.bool false), .one .nilslice, .one (.int .i64 0), .one (.int .i64 0), .one (.int .i64 0), .one (.int .u64 0), .one (.int .u32 0), .one (.int .i64 0), .one (.int .u64 0), .one (.int .u64 0), .one (.int .i64 0), .one (.int .u64 0), .one (.int .i64 0), .one (.int .u64 0), .one (.int .i64 0), .one (.int .u64 0), .one (.int .u64 0), .one (.int .i64 0), .one (.int .u64 0), .ints .u64 32 (fun _ => 0), .one (.int .i64 0), .one (.bool false), .one (.int .u64 0), .one (.int .u64 0), .one (.int .u64 0), .one (.int .u64 0), .one (.int .u64 0), .one (.int .u64 0), .one (.int .u64 0), .one (.int .u64 0), .one (.int .u64 0), .one (.int .u64 0), .one (.int .u64 0), .one (.int .u64 0), .ints .u8 16 (fun _ => 0), .ints .u64 16 (fun _ => 0), .one (.bool false), .one (.int .u64 0), .one (.int .i64 0)] }
theorem ti163_ok : TIok Try.prog 163 ti163 := ⟨⟨_, Try.underlying163, by rfl⟩, by kernel_rfl, by kernel_rfl, ⟨_, rfl, by kernel_rfl⟩⟩
/-- watch.scene -/
def ti164 : TI := { d := .struct [(44, 0), (44, 97), (105, 194), (102, 198), (39, 214)], size := 296, bytes := 2032, zero := .agg [.one (.int .u64 0), .ints .u64 32 (fun _ => 0), .one (.int .i64 0), .one (.bool false), .one (.int .u64 0), .one (.int .u64 0), .one (.int .u64 0), .one (.int .u64 0), .one (.int .u64 0), .one (.int .u64 0), .one (.int .u64 0), .one (.int .u64 0), .one (.int .u64 0), .one (.int .u64 0), .one (.int .u64 0), .one (.int .u64 0), .ints .u8 16 (fun _ => 0), .ints .u64 16 (fun _ => 0), .one (.bool false), .one (.int .u64 0), .one (.int .i64 0), .one .nilslice, .one (.int .u32 0), .one (.int .u64 0), .one (.int .u64 0), .one (.bool false), .one (.bool false), .one (.int .u8 0), .one (.int .u8 0), .one (.int .u8 0), .one (.int .u8 0), .one (.bool false), .one .nilslice, .one .nilslice, .one (.int .i64 0), .one (.int .i64 0), .one (.int .u64 0), .ints .u64 32 (fun _ => 0), .one (.int .i64 0), .one (.bool false), .one (.int .u64 0), .one (.int .u64 0), .one (.int .u64 0), .one (.int .u64 0), .one (.int .u64 0), .one (.int .u64 0), .one (.int .u64 0), .one (.int .u64 0), .one (.int .u64 0), .one (.int .u64 0), .one (.int .u64 0), .one (.int .u64 0), .ints .u8 16 (fun _ => 0), .ints .u64 16 (fun _ => 0), .one (.bool false), .one (.int .u64 0), .one (.int .i64 0), .one .nilslice, .one (.int .u32 0), .one (.int .u64 0), .one (.int .u64 0), .one (.bool false), .one (.bool false), .one (.int .u8 0), .one (.int .u8 0), .one (.int .u8 0), .one (.int .u8 0), .one (.bool false), .one .nilslice, .one .nilslice, .one (.int .i64 0), .one (.int .i64 0), .one (.bool false), .one (.bool false), .one (.bool false), .one .nilslice, .one (.int .i64 0), .one (.int .i64 0), .one (.int .i64 0), .one (.int .u64 0), .one (.int .u32 0), .one (.int .i64 0), .one (.int .u64 0), .one (.int .u64 0), .one (.int .i64 0), .one (.int .u64 0), .one (.int .i64 0), .one (.int .u64 0), .one (.int .i64 0), .one (.int .u64 0), .one (.int .u64 0), .one (.int .i64 0), .one (.int .u64 0), .ints .u64 32 (fun _ => 0), .one (.int .i64 0), .one (.bool false), .one (.int .u64 0), .one (.int .u64 0), .one (.int .u64 0), .one (.int .u64 0), .one (.int .u64 0), .one (.int .u64 0), .one (.int .u64 0), .one (.int .u64 0), .one (.int .u64 0), .one (.int .u64 0), .one (.int .u64 0), .one (.int .u64 0), .ints .u8 16 (fun _ => 0), .ints .u64 16 (fun _ => 0), .one (.bool false), .one (.int .u64 0), .one (.int .i64 0)] }
theorem ti164_ok : TIok Try.prog 164 ti164 := ⟨⟨_, Try.underlying164, by rfl⟩, by kernel_rfl, by kernel_rfl, ⟨_, rfl, by kernel_rfl⟩⟩
/-- []func() bool -/
def ti165 : TI := { d := .slice 22, size := 1, bytes := 24, zero := .s .nilslice }
theorem ti165_ok : TIok Try.prog 165 ti165 := ⟨Try.underlying165, by kernel_rfl, by kernel_rfl, ⟨_, rfl, by kernel_rfl⟩⟩
/-- func() []func() bool -/
def ti166 : TI := { d := .other, size := 1, bytes := 8, zero := .s .nilfunc }
theorem ti166_ok : TIok Try.prog 166 ti166 := ⟨⟨_, _, _, Try.underlying166⟩, by kernel_rfl, by kernel_rfl, ⟨_, rfl, by kernel_rfl⟩⟩
/-- func(api.Row) bool -/
def ti167 : TI := { d := .other, size := 1, bytes := 8, zero := .s .nilfunc }
theorem ti167_ok : TIok Try.prog 167 ti167 := ⟨⟨_, _, _, Try.underlying167⟩, by kernel_rfl, by kernel_rfl, ⟨_, rfl, by kernel_rfl⟩⟩
/-- func(uint64) string -/
def ti168 : TI := { d := .other, size := 1, bytes := 8, zero := .s .nilfunc }
theorem ti168_ok : TIok Try.prog 168 ti168 := ⟨⟨_, _, _, Try.underlying168⟩, by kernel_rfl, by kernel_rfl, ⟨_, rfl, by kernel_rfl⟩⟩
/-- func(int) bool -/
def ti169 : TI := { d := .other, size := 1, bytes := 8, zero := .s .nilfunc }
theorem ti169_ok : TIok Try.prog 169 ti169 := ⟨⟨_, _, _, Try.underlying169⟩, by kernel_rfl, by kernel_rfl, ⟨_, rfl, by kernel_rfl⟩⟩
/-- *bus.uart -/
def ti170 : TI := { d := .ptr 130, size := 1, bytes := 8, zero := .s .nilptr }
theorem ti170_ok : TIok Try.prog 170 ti170 := ⟨Try.underlying170, by kernel_rfl, by kernel_rfl, ⟨_, rfl, by kernel_rfl⟩⟩
/-- func(uint8) uint8 -/
def ti171 : TI := { d := .other, size := 1, bytes := 8, zero := .s .nilfunc }
theorem ti171_ok : TIok Try.prog 171 ti171 := ⟨⟨_, _, _, Try.underlying171⟩, by kernel_rfl, by kernel_rfl, ⟨_, rfl, by kernel_rfl⟩⟩
/-- func(api.Pmp, int) (uint64, uint64, bool) -/
def ti173 : TI := { d := .other, size := 1, bytes := 8, zero := .s .nilfunc }
theorem ti173_ok : TIok Try.prog 173 ti173 := ⟨⟨_, _, _, Try.underlying173⟩, by kernel_rfl, by kernel_rfl, ⟨_, rfl, by kernel_rfl⟩⟩
/-- func(api.Pmp, int, uint64) bool -/
def ti174 : TI := { d := .other, size := 1, bytes := 8, zero := .s .nilfunc }
theorem ti174_ok : TIok Try.prog 174 ti174 := ⟨⟨_, _, _, Try.underlying174⟩, by kernel_rfl, by kernel_rfl, ⟨_, rfl, by kernel_rfl⟩⟩
/-- func(...uint64) bool -/
def ti175 : TI := { d := .other, size := 1, bytes := 8, zero := .s .nilfunc }
theorem ti175_ok : TIok Try.prog 175 ti175 := ⟨⟨_, _, _, Try.underlying175⟩, by kernel_rfl, by kernel_rfl, ⟨_, rfl, by kernel_rfl⟩⟩
/-- *sync.Mutex -/
def ti176 : TI := { d := .ptr 128, size := 1, bytes := 8, zero := .s .nilptr }
theorem ti176_ok : TIok Try.prog 176 ti176 := ⟨Try.underlying176, by kernel_rfl, by kernel_rfl, ⟨_, rfl, by kernel_rfl⟩⟩
/-- func(uint8) int -/
def ti177 : TI := { d := .other, size := 1, bytes := 8, zero := .s .nilfunc }
theorem ti177_ok : TIok Try.prog 177 ti177 := ⟨⟨_, _, _, Try.underlying177⟩, by kernel_rfl, by kernel_rfl, ⟨_, rfl, by kernel_rfl⟩⟩
/-- *api.Row -/
def ti178 : TI := { d := .ptr 102, size := 1, bytes := 8, zero := .s .nilptr }
theorem ti178_ok : TIok Try.prog 178 ti178 := ⟨Try.underlying178, by kernel_rfl, by kernel_rfl, ⟨_, rfl, by kernel_rfl⟩⟩
/-- func(func(uint64) bool) bool -/
def ti179 : TI := { d := .other, size := 1, bytes := 8, zero := .s .nilfunc }
theorem ti179_ok : TIok Try.prog 179 ti179 := ⟨⟨_, _, _, Try.underlying179⟩, by kernel_rfl, by kernel_rfl, ⟨_, rfl, by kernel_rfl⟩⟩
/-- func(uint64) bool -/
def ti180 : TI := { d := .other, size := 1, bytes := 8, zero := .s .nilfunc }
theorem ti180_ok : TIok Try.prog 180 ti180 := ⟨⟨_, _, _, Try.underlying180⟩, by kernel_rfl, by kernel_rfl, ⟨_, rfl, by kernel_rfl⟩⟩
/-- func(api.Bus) uint64 -/
def ti181 : TI := { d := .other, size := 1, bytes := 8, zero := .s .nilfunc }
theorem ti181_ok : TIok Try.prog 181 ti181 := ⟨⟨_, _, _, Try.underlying181⟩, by kernel_rfl, by kernel_rfl, ⟨_, rfl, by kernel_rfl⟩⟩
/-- func(uint64, int) bool -/
def ti182 : TI := { d := .other, size := 1, bytes := 8, zero := .s .nilfunc }
theorem ti182_ok : TIok Try.prog 182 ti182 := ⟨⟨_, _, _, Try.underlying182⟩, by kernel_rfl, by kernel_rfl, ⟨_, rfl, by kernel_rfl⟩⟩
/-- func(api.Pmp, int, uint64, int, int) bool -/
def ti183 : TI := { d := .other, size := 1, bytes := 8, zero := .s .nilfunc }
theorem ti183_ok : TIok Try.prog 183 ti183 := ⟨⟨_, _, _, Try.underlying183⟩, by kernel_rfl, by kernel_rfl, ⟨_, rfl, by kernel_rfl⟩⟩
/-- func(api.Cpu) int -/
def ti184 : TI := { d := .other, size := 1, bytes := 8, zero := .s .nilfunc }
theorem ti184_ok : TIok Try.prog 184 ti184 := ⟨⟨_, _, _, Try.underlying184⟩, by kernel_rfl, by kernel_rfl, ⟨_, rfl, by kernel_rfl⟩⟩
/-- *sync.Mutex -/
def ti185 : TI := { d := .ptr 126, size := 1, bytes := 8, zero := .s .nilptr }
theorem ti185_ok : TIok Try.prog 185 ti185 := ⟨Try.underlying185, by kernel_rfl, by kernel_rfl, ⟨_, rfl, by kernel_rfl⟩⟩
/-- func(*int32, int32, int32) bool -/
def ti186 : TI := { d := .other, size := 1, bytes := 8, zero := .s .nilfunc }
theorem ti186_ok : TIok Try.prog 186 ti186 := ⟨⟨_, _, _, Try.underlying186⟩, by kernel_rfl, by kernel_rfl, ⟨_, rfl, by kernel_rfl⟩⟩
/-- *int32 -/
def ti187 : TI := { d := .ptr 21, size := 1, bytes := 8, zero := .s .nilptr }
theorem ti187_ok : TIok Try.prog 187 ti187 := ⟨Try.underlying187, by kernel_rfl, by kernel_rfl, ⟨_, rfl, by kernel_rfl⟩⟩
/-- func(unsafe.Pointer) -/
def ti188 : TI := { d := .other, size := 1, bytes := 8, zero := .s .nilfunc }
theorem ti188_ok : TIok Try.prog 188 ti188 := ⟨⟨_, _, _, Try.underlying188⟩, by kernel_rfl, by kernel_rfl, ⟨_, rfl, by kernel_rfl⟩⟩
/-- unsafe.Pointer -/
def ti189 : TI := { d := .uptr, size := 1, bytes := 8, zero := .s .nilptr }
theorem ti189_ok : TIok Try.prog 189 ti189 := ⟨Try.underlying189, by kernel_rfl, by kernel_rfl, ⟨_, rfl, by kernel_rfl⟩⟩
/-- func(*int32, int32) int32 -/
def ti190 : TI := { d := .other, size := 1, bytes := 8, zero := .s .nilfunc }
theorem ti190_ok : TIok Try.prog 190 ti190 := ⟨⟨_, _, _, Try.underlying190⟩, by kernel_rfl, by kernel_rfl, ⟨_, rfl, by kernel_rfl⟩⟩
/-- func(int32) -/
def ti191 : TI := { d := .other, size := 1, bytes := 8, zero := .s .nilfunc }
theorem ti191_ok : TIok Try.prog 191 ti191 := ⟨⟨_, _, _, Try.underlying191⟩, by kernel_rfl, by kernel_rfl, ⟨_, rfl, by kernel_rfl⟩⟩
/-- func(api.Pmp, int) int -/
def ti192 : TI := { d := .other, size := 1, bytes := 8, zero := .s .nilfunc }
theorem ti192_ok : TIok Try.prog 192 ti192 := ⟨⟨_, _, _, Try.underlying192⟩, by kernel_rfl, by kernel_rfl, ⟨_, rfl, by kernel_rfl⟩⟩
/-- func(api.Pmp, int) (bool, bool) -/
def ti194 : TI := { d := .other, size := 1, bytes := 8, zero := .s .nilfunc }
theorem ti194_ok : TIok Try.prog 194 ti194 := ⟨⟨_, _, _, Try.underlying194⟩, by kernel_rfl, by kernel_rfl, ⟨_, rfl, by kernel_rfl⟩⟩
/-- func(uint64, int) uint64 -/
def ti195 : TI := { d := .other, size := 1, bytes := 8, zero := .s .nilfunc }
theorem ti195_ok : TIok Try.prog 195 ti195 := ⟨⟨_, _, _, Try.underlying195⟩, by kernel_rfl, by kernel_rfl, ⟨_, rfl, by kernel_rfl⟩⟩
/-- func(uint64, uint64) uint64 -/
def ti196 : TI := { d := .other, size := 1, bytes := 8, zero := .s .nilfunc }
theorem ti196_ok : TIok Try.prog 196 ti196 := ⟨⟨_, _, _, Try.underlying196⟩, by kernel_rfl, by kernel_rfl, ⟨_, rfl, by kernel_rfl⟩⟩
/-- func(string) -/
def ti197 : TI := { d := .other, size := 1, bytes := 8, zero := .s .nilfunc }
theorem ti197_ok : TIok Try.prog 197 ti197 := ⟨⟨_, _, _, Try.underlying197⟩, by kernel_rfl, by kernel_rfl, ⟨_, rfl, by kernel_rfl⟩⟩
/-- func() int64 -/
def ti198 : TI := { d := .other, size := 1, bytes := 8, zero := .s .nilfunc }
theorem ti198_ok : TIok Try.prog 198 ti198 := ⟨⟨_, _, _, Try.underlying198⟩, by kernel_rfl, by kernel_rfl, ⟨_, rfl, by kernel_rfl⟩⟩
/-- func(*uint32, bool, int) -/
def ti199 : TI := { d := .other, size := 1, bytes := 8, zero := .s .nilfunc }
theorem ti199_ok : TIok Try.prog 199 ti199 := ⟨⟨_, _, _, Try.underlying199⟩, by kernel_rfl, by kernel_rfl, ⟨_, rfl, by kernel_rfl⟩⟩
/-- func() string -/
def ti200 : TI := { d := .other, size := 1, bytes := 8, zero := .s .nilfunc }
theorem ti200_ok : TIok Try.prog 200 ti200 := ⟨⟨_, _, _, Try.underlying200⟩, by kernel_rfl, by kernel_rfl, ⟨_, rfl, by kernel_rfl⟩⟩
/-- struct { _interface *abi.Type; concrete *abi.Type; asserted *abi.Type; missingMethod string } -/
def ti201 : TI := { d := .struct [(17, 0), (17, 1), (17, 2), (9, 3)], size := 4, bytes := 40, zero := .agg [.one .nilptr, .one .nilptr, .one .nilptr, .one (.str .empty)] }
theorem ti201_ok : TIok Try.prog 201 ti201 := ⟨⟨_, Try.underlying201, by rfl⟩, by kernel_rfl, by kernel_rfl, ⟨_, rfl, by kernel_rfl⟩⟩
/-- runtime.TypeAssertionError -/
def ti202 : TI := { d := .struct [(17, 0), (17, 1), (17, 2), (9, 3)], size := 4, bytes := 40, zero := .agg [.one .nilptr, .one .nilptr, .one .nilptr, .one (.str .empty)] }
theorem ti202_ok : TIok Try.prog 202 ti202 := ⟨⟨_, Try.underlying202, by rfl⟩, by kernel_rfl, by kernel_rfl, ⟨_, rfl, by kernel_rfl⟩⟩
/-- func() int -/
def ti206 : TI := { d := .other, size := 1, bytes := 8, zero := .s .nilfunc }
theorem ti206_ok : TIok Try.prog 206 ti206 := ⟨⟨_, _, _, Try.underlying206⟩, by kernel_rfl, by kernel_rfl, ⟨_, rfl, by kernel_rfl⟩⟩
/-- abi.TFlag -/
def ti207 : TI := { d := .int .u8, size := 1, bytes := 1, zero := .s (.int .u8 0) }
theorem ti207_ok : TIok Try.prog 207 ti207 := ⟨Try.underlying207, by kernel_rfl, by kernel_rfl, ⟨_, rfl, by kernel_rfl⟩⟩
/-- abi.Kind -/
def ti208 : TI := { d := .int .u8, size := 1, bytes := 1, zero := .s (.int .u8 0) }
theorem ti208_ok : TIok Try.prog 208 ti208 := ⟨Try.underlying208, by kernel_rfl, by kernel_rfl, ⟨_, rfl, by kernel_rfl⟩⟩
/-- func(unsafe.Pointer, unsafe.Pointer) bool -/
def ti209 : TI := { d := .other, size := 1, bytes := 8, zero := .s .nilfunc }
theorem ti209_ok : TIok Try.prog 209 ti209 := ⟨⟨_, _, _, Try.underlying209⟩, by kernel_rfl, by kernel_rfl, ⟨_, rfl, by kernel_rfl⟩⟩
/-- abi.NameOff -/
def ti210 : TI := { d := .int .i32, size := 1, bytes := 4, zero := .s (.int .i32 0) }
theorem ti210_ok : TIok Try.prog 210 ti210 := ⟨Try.underlying210, by kernel_rfl, by kernel_rfl, ⟨_, rfl, by kernel_rfl⟩⟩
/-- abi.TypeOff -/
def ti211 : TI := { d := .int .i32, size := 1, bytes := 4, zero := .s (.int .i32 0) }
theorem ti211_ok : TIok Try.prog 211 ti211 := ⟨Try.underlying211, by kernel_rfl, by kernel_rfl, ⟨_, rfl, by kernel_rfl⟩⟩
/-- struct { Size_ uintptr; PtrBytes uintptr; Hash uint32; TFlag abi.TFlag; Align_ uint8; FieldAlign_ uint8; Kind_ abi.Kind; Equal func(unsafe.Pointer, unsafe.Pointer) bool; GCData *uint8; Str abi.NameOff; PtrToThis abi.TypeOff } -/
def ti212 : TI := { d := .struct [(12, 0), (12, 1), (40, 2), (207, 3), (5, 4), (5, 5), (208, 6), (209, 7), (147, 8), (210, 9), (211, 10)], size := 11, bytes := 48, zero := .agg [.one (.int .u64 0), .one (.int .u64 0), .one (.int .u32 0), .one (.int .u8 0), .one (.int .u8 0), .one (.int .u8 0), .one (.int .u8 0), .one .nilfunc, .one .nilptr, .one (.int .i32 0), .one (.int .i32 0)] }
theorem ti212_ok : TIok Try.prog 212 ti212 := ⟨⟨_, Try.underlying212, by rfl⟩, by kernel_rfl, by kernel_rfl, ⟨_, rfl, by kernel_rfl⟩⟩
/-- abi.Type -/
def ti213 : TI := { d := .struct [(12, 0), (12, 1), (40, 2), (207, 3), (5, 4), (5, 5), (208, 6), (209, 7), (147, 8), (210, 9), (211, 10)], size := 11, bytes := 48, zero := .agg [.one (.int .u64 0), .one (.int .u64 0), .one (.int .u32 0), .one (.int .u8 0), .one (.int .u8 0), .one (.int .u8 0), .one (.int .u8 0), .one .nilfunc, .one .nilptr, .one (.int .i32 0), .one (.int .i32 0)] }
theorem ti213_ok : TIok Try.prog 213 ti213 := ⟨⟨_, Try.underlying213, by rfl⟩, by kernel_rfl, by kernel_rfl, ⟨_, rfl, by kernel_rfl⟩⟩
/-- func() uint64 -/
def ti214 : TI := { d := .other, size := 1, bytes := 8, zero := .s .nilfunc }
theorem ti214_ok : TIok Try.prog 214 ti214 := ⟨⟨_, _, _, Try.underlying214⟩, by kernel_rfl, by kernel_rfl, ⟨_, rfl, by kernel_rfl⟩⟩
def tys : List (List (Option TI)) := [
  [none, some ti1, some ti2, some ti3, some ti4, some ti5, some ti6, some ti7, some ti8, some ti9, some ti10, some ti11, some ti12, some ti13, some ti14, some ti15],
  [some ti16, some ti17, some ti18, some ti19, some ti20, some ti21, some ti22, some ti23, some ti24, none, some ti26, none, some ti28, some ti29, some ti30, some ti31],
  [some ti32, some ti33, some ti34, some ti35, some ti36, some ti37, some ti38, some ti39, some ti40, some ti41, some ti42, some ti43, some ti44, some ti45, some ti46, some ti47],
  [some ti48, some ti49, some ti50, some ti51, some ti52, some ti53, some ti54, none, some ti56, none, some ti58, some ti59, some ti60, some ti61, some ti62, none],
  [some ti64, some ti65, some ti66, some ti67, some ti68, some ti69, some ti70, none, some ti72, some ti73, some ti74, some ti75, some ti76, some ti77, some ti78, some ti79],
  [some ti80, some ti81, some ti82, some ti83, some ti84, some ti85, some ti86, some ti87, some ti88, some ti89, some ti90, some ti91, some ti92, some ti93, some ti94, some ti95],
  [some ti96, some ti97, some ti98, some ti99, some ti100, some ti101, some ti102, some ti103, some ti104, some ti105, some ti106, some ti107, some ti108, some ti109, some ti110, some ti111],
  [none, some ti113, some ti114, some ti115, some ti116, some ti117, some ti118, some ti119, some ti120, some ti121, some ti122, none, none, some ti125, some ti126, some ti127],
  [some ti128, some ti129, some ti130, some ti131, some ti132, some ti133, some ti134, some ti135, some ti136, some ti137, some ti138, some ti139, some ti140, some ti141, some ti142, some ti143],
  [some ti144, some ti145, some ti146, some ti147, some ti148, some ti149, some ti150, some ti151, some ti152, some ti153, some ti154, some ti155, some ti156, some ti157, some ti158, some ti159],
  [some ti160, some ti161, some ti162, some ti163, some ti164, some ti165, some ti166, some ti167, some ti168, some ti169, some ti170, some ti171, none, some ti173, some ti174, some ti175],
  [some ti176, some ti177, some ti178, some ti179, some ti180, some ti181, some ti182, some ti183, some ti184, some ti185, some ti186, some ti187, some ti188, some ti189, some ti190, some ti191],
  [some ti192, none, some ti194, some ti195, some ti196, some ti197, some ti198, some ti199, some ti200, some ti201, some ti202, none, none, none, some ti206, some ti207],
  [some ti208, some ti209, some ti210, some ti211, some ti212, some ti213, some ti214]]
theorem tys_ok : okR Try.prog 0 tys :=
  ⟨⟨ti1_ok, ti2_ok, ti3_ok, ti4_ok, ti5_ok, ti6_ok, ti7_ok, ti8_ok, ti9_ok, ti10_ok, ti11_ok, ti12_ok, ti13_ok, ti14_ok, ti15_ok, trivial⟩,
   ⟨ti16_ok, ti17_ok, ti18_ok, ti19_ok, ti20_ok, ti21_ok, ti22_ok, ti23_ok, ti24_ok, ti26_ok, ti28_ok, ti29_ok, ti30_ok, ti31_ok, trivial⟩,
   ⟨ti32_ok, ti33_ok, ti34_ok, ti35_ok, ti36_ok, ti37_ok, ti38_ok, ti39_ok, ti40_ok, ti41_ok, ti42_ok, ti43_ok, ti44_ok, ti45_ok, ti46_ok, ti47_ok, trivial⟩,
   ⟨ti48_ok, ti49_ok, ti50_ok, ti51_ok, ti52_ok, ti53_ok, ti54_ok, ti56_ok, ti58_ok, ti59_ok, ti60_ok, ti61_ok, ti62_ok, trivial⟩,
   ⟨ti64_ok, ti65_ok, ti66_ok, ti67_ok, ti68_ok, ti69_ok, ti70_ok, ti72_ok, ti73_ok, ti74_ok, ti75_ok, ti76_ok, ti77_ok, ti78_ok, ti79_ok, trivial⟩,
   ⟨ti80_ok, ti81_ok, ti82_ok, ti83_ok, ti84_ok, ti85_ok, ti86_ok, ti87_ok, ti88_ok, ti89_ok, ti90_ok, ti91_ok, ti92_ok, ti93_ok, ti94_ok, ti95_ok, trivial⟩,
   ⟨ti96_ok, ti97_ok, ti98_ok, ti99_ok, ti100_ok, ti101_ok, ti102_ok, ti103_ok, ti104_ok, ti105_ok, ti106_ok, ti107_ok, ti108_ok, ti109_ok, ti110_ok, ti111_ok, trivial⟩,
   ⟨ti113_ok, ti114_ok, ti115_ok, ti116_ok, ti117_ok, ti118_ok, ti119_ok, ti120_ok, ti121_ok, ti122_ok, ti125_ok, ti126_ok, ti127_ok, trivial⟩,
   ⟨ti128_ok, ti129_ok, ti130_ok, ti131_ok, ti132_ok, ti133_ok, ti134_ok, ti135_ok, ti136_ok, ti137_ok, ti138_ok, ti139_ok, ti140_ok, ti141_ok, ti142_ok, ti143_ok, trivial⟩,
   ⟨ti144_ok, ti145_ok, ti146_ok, ti147_ok, ti148_ok, ti149_ok, ti150_ok, ti151_ok, ti152_ok, ti153_ok, ti154_ok, ti155_ok, ti156_ok, ti157_ok, ti158_ok, ti159_ok, trivial⟩,
   ⟨ti160_ok, ti161_ok, ti162_ok, ti163_ok, ti164_ok, ti165_ok, ti166_ok, ti167_ok, ti168_ok, ti169_ok, ti170_ok, ti171_ok, ti173_ok, ti174_ok, ti175_ok, trivial⟩,
   ⟨ti176_ok, ti177_ok, ti178_ok, ti179_ok, ti180_ok, ti181_ok, ti182_ok, ti183_ok, ti184_ok, ti185_ok, ti186_ok, ti187_ok, ti188_ok, ti189_ok, ti190_ok, ti191_ok, trivial⟩,
   ⟨ti192_ok, ti194_ok, ti195_ok, ti196_ok, ti197_ok, ti198_ok, ti199_ok, ti200_ok, ti201_ok, ti202_ok, ti206_ok, ti207_ok, trivial⟩,
   ⟨ti208_ok, ti209_ok, ti210_ok, ti211_ok, ti212_ok, ti213_ok, ti214_ok, trivial⟩, trivial⟩
theorem pt31 (n : Nat) : PTn Try.prog (n + 1) 31 true [.arr .u64 32] := .inr (.inr (.inl ⟨_, _, _, Try.underlying31, Try.underlying30, by kernel_rfl, by kernel_rfl, rfl, rfl⟩))
theorem pt32 (n : Nat) : PTn Try.prog (n + 1) 32 true [.arr .u8 16] := .inr (.inr (.inl ⟨_, _, _, Try.underlying32, Try.underlying5, by kernel_rfl, by kernel_rfl, rfl, rfl⟩))
theorem pt33 (n : Nat) : PTn Try.prog (n + 1) 33 true [.arr .u64 16] := .inr (.inr (.inl ⟨_, _, _, Try.underlying33, Try.underlying30, by kernel_rfl, by kernel_rfl, rfl, rfl⟩))
theorem pt35 (n : Nat) : PTn Try.prog (n + 2) 35 true [.arr .u8 16, .arr .u64 16] := .inr (.inr (.inr ⟨_, Try.underlying35, by kernel_rfl, by kernel_rfl, rfl, ⟨true, [.arr .u8 16], _, rfl, by decide, rfl, pt32 (n + 0), ⟨true, [.arr .u64 16], _, rfl, by decide, rfl, pt33 (n + 0), rfl⟩⟩⟩))
theorem pt37 (n : Nat) : PTn Try.prog (n + 2) 37 true [.bool, .int .u64, .int .i64] := .inr (.inr (.inr ⟨_, Try.underlying37, by kernel_rfl, by kernel_rfl, rfl, ⟨false, [.bool], _, rfl, by decide, rfl, .inr (.inl ⟨Try.underlying4, rfl, rfl⟩), ⟨false, [.int .u64], _, rfl, by decide, rfl, .inl ⟨_, Try.underlying30, rfl, rfl⟩, ⟨false, [.int .i64], _, rfl, by decide, rfl, .inl ⟨_, Try.underlying3, rfl, rfl⟩, rfl⟩⟩⟩⟩))
theorem pt39 (n : Nat) : PTn Try.prog (n + 3) 39 true [.int .u64, .arr .u64 32, .int .i64, .bool, .int .u64, .int .u64, .int .u64, .int .u64, .int .u64, .int .u64, .int .u64, .int .u64, .int .u64, .int .u64, .int .u64, .int .u64, .arr .u8 16, .arr .u64 16, .bool, .int .u64, .int .i64] := .inr (.inr (.inr ⟨_, Try.underlying39, by kernel_rfl, by kernel_rfl, rfl, ⟨false, [.int .u64], _, rfl, by decide, rfl, .inl ⟨_, Try.underlying30, rfl, rfl⟩, ⟨true, [.arr .u64 32], _, rfl, by decide, rfl, pt31 (n + 1), ⟨false, [.int .i64], _, rfl, by decide, rfl, .inl ⟨_, Try.underlying3, rfl, rfl⟩, ⟨false, [.bool], _, rfl, by decide, rfl, .inr (.inl ⟨Try.underlying4, rfl, rfl⟩), ⟨false, [.int .u64], _, rfl, by decide, rfl, .inl ⟨_, Try.underlying30, rfl, rfl⟩, ⟨false, [.int .u64], _, rfl, by decide, rfl, .inl ⟨_, Try.underlying30, rfl, rfl⟩, ⟨false, [.int .u64], _, rfl, by decide, rfl, .inl ⟨_, Try.underlying30, rfl, rfl⟩, ⟨false, [.int .u64], _, rfl, by decide, rfl, .inl ⟨_, Try.underlying30, rfl, rfl⟩, ⟨false, [.int .u64], _, rfl, by decide, rfl, .inl ⟨_, Try.underlying30, rfl, rfl⟩, ⟨false, [.int .u64], _, rfl, by decide, rfl, .inl ⟨_, Try.underlying30, rfl, rfl⟩, ⟨false, [.int .u64], _, rfl, by decide, rfl, .inl ⟨_, Try.underlying30, rfl, rfl⟩, ⟨false, [.int .u64], _, rfl, by decide, rfl, .inl ⟨_, Try.underlying30, rfl, rfl⟩, ⟨false, [.int .u64], _, rfl, by decide, rfl, .inl ⟨_, Try.underlying30, rfl, rfl⟩, ⟨false, [.int .u64], _, rfl, by decide, rfl, .inl ⟨_, Try.underlying30, rfl, rfl⟩, ⟨false, [.int .u64], _, rfl, by decide, rfl, .inl ⟨_, Try.underlying30, rfl, rfl⟩, ⟨false, [.int .u64], _, rfl, by decide, rfl, .inl ⟨_, Try.underlying30, rfl, rfl⟩, ⟨true, [.arr .u8 16, .arr .u64 16], _, rfl, by decide, rfl, pt35 (n + 0), ⟨true, [.bool, .int .u64, .int .i64], _, rfl, by decide, rfl, pt37 (n + 0), rfl⟩⟩⟩⟩⟩⟩⟩⟩⟩⟩⟩⟩⟩⟩⟩⟩⟩⟩⟩))
theorem pt102 (n : Nat) : PTn Try.prog (n + 2) 102 true [.int .i64, .int .i64, .int .i64, .int .u64, .int .u32, .int .i64, .int .u64, .int .u64, .int .i64, .int .u64, .int .i64, .int .u64, .int .i64, .int .u64, .int .u64, .int .i64] := .inr (.inr (.inr ⟨_, Try.underlying102, by kernel_rfl, by kernel_rfl, rfl, ⟨false, [.int .i64], _, rfl, by decide, rfl, .inl ⟨_, Try.underlying3, rfl, rfl⟩, ⟨false, [.int .i64], _, rfl, by decide, rfl, .inl ⟨_, Try.underlying3, rfl, rfl⟩, ⟨false, [.int .i64], _, rfl, by decide, rfl, .inl ⟨_, Try.underlying3, rfl, rfl⟩, ⟨false, [.int .u64], _, rfl, by decide, rfl, .inl ⟨_, Try.underlying30, rfl, rfl⟩, ⟨false, [.int .u32], _, rfl, by decide, rfl, .inl ⟨_, Try.underlying40, rfl, rfl⟩, ⟨false, [.int .i64], _, rfl, by decide, rfl, .inl ⟨_, Try.underlying3, rfl, rfl⟩, ⟨false, [.int .u64], _, rfl, by decide, rfl, .inl ⟨_, Try.underlying30, rfl, rfl⟩, ⟨false, [.int .u64], _, rfl, by decide, rfl, .inl ⟨_, Try.underlying30, rfl, rfl⟩, ⟨false, [.int .i64], _, rfl, by decide, rfl, .inl ⟨_, Try.underlying3, rfl, rfl⟩, ⟨false, [.int .u64], _, rfl, by decide, rfl, .inl ⟨_, Try.underlying30, rfl, rfl⟩, ⟨false, [.int .i64], _, rfl, by decide, rfl, .inl ⟨_, Try.underlying3, rfl, rfl⟩, ⟨false, [.int .u64], _, rfl, by decide, rfl, .inl ⟨_, Try.underlying30, rfl, rfl⟩, ⟨false, [.int .i64], _, rfl, by decide, rfl, .inl ⟨_, Try.underlying3, rfl, rfl⟩, ⟨false, [.int .u64], _, rfl, by decide, rfl, .inl ⟨_, Try.underlying30, rfl, rfl⟩, ⟨false, [.int .u64], _, rfl, by decide, rfl, .inl ⟨_, Try.underlying30, rfl, rfl⟩, ⟨false, [.int .i64], _, rfl, by decide, rfl, .inl ⟨_, Try.underlying3, rfl, rfl⟩, rfl⟩⟩⟩⟩⟩⟩⟩⟩⟩⟩⟩⟩⟩⟩⟩⟩⟩))
def eqs : List (Nat × List KS) := [(31, [.arr .u64 32]),
  (32, [.arr .u8 16]),
  (33, [.arr .u64 16]),
  (35, [.arr .u8 16, .arr .u64 16]),
  (37, [.bool, .int .u64, .int .i64]),
  (39, [.int .u64, .arr .u64 32, .int .i64, .bool, .int .u64, .int .u64, .int .u64, .int .u64, .int .u64, .int .u64, .int .u64, .int .u64, .int .u64, .int .u64, .int .u64, .int .u64, .arr .u8 16, .arr .u64 16, .bool, .int .u64, .int .i64]),
  (102, [.int .i64, .int .i64, .int .i64, .int .u64, .int .u32, .int .i64, .int .u64, .int .u64, .int .i64, .int .u64, .int .i64, .int .u64, .int .i64, .int .u64, .int .u64, .int .i64])]
theorem eqs_ok : okE Try.prog eqs := ⟨⟨by kernel_rfl, _, by decide, pt31 0⟩,
  ⟨by kernel_rfl, _, by decide, pt32 0⟩,
  ⟨by kernel_rfl, _, by decide, pt33 0⟩,
  ⟨by kernel_rfl, _, by decide, pt35 0⟩,
  ⟨by kernel_rfl, _, by decide, pt37 0⟩,
  ⟨by kernel_rfl, _, by decide, pt39 0⟩,
  ⟨by kernel_rfl, _, by decide, pt102 0⟩,
  trivial⟩
def mths : List (Nat × List (String × FuncId)) := [(75, [("anvil/save.bytes", 39), ("anvil/save.double", 185), ("anvil/save.flag", 186), ("anvil/save.list", 187), ("anvil/save.number", 42), ("anvil/save.octet", 188), ("anvil/save.pages", 41), ("anvil/save.place", 189), ("anvil/save.word", 190)]),
  (89, [("anvil/save.double", 191), ("anvil/save.flag", 192), ("anvil/save.list", 193), ("anvil/save.number", 53), ("anvil/save.octet", 194), ("anvil/save.pages", 54), ("anvil/save.place", 195), ("anvil/save.take", 87), ("anvil/save.word", 196)]),
  (93, [("anvil/anvilref16.cpu", 55), ("anvil/anvilref16.devices", 56), ("anvil/anvilref16.flag", 89), ("anvil/anvilref16.list", 90), ("anvil/anvilref16.num", 88), ("anvil/anvilref16.ram", 57), ("anvil/anvilref16.take", 91)]),
  (106, [("anvil/watch.broken", 67), ("anvil/watch.row", 66)]),
  (162, [("anvil/watch.bytes", 121), ("anvil/watch.counts", 131), ("anvil/watch.first", 108), ("anvil/watch.inRam", 156), ("anvil/watch.kept", 126), ("anvil/watch.locks", 125), ("anvil/watch.memory", 123), ("anvil/watch.output", 137), ("anvil/watch.placed", 167), ("anvil/watch.registers", 119), ("anvil/watch.rules", 95), ("anvil/watch.second", 109), ("anvil/watch.storedAt", 134), ("anvil/watch.stores", 154), ("anvil/watch.trap", 127), ("anvil/watch.trapped", 139), ("anvil/watch.within", 155)]),
  (170, [("anvil/bus.raised", 197), ("anvil/bus.set", 75)])]
theorem mths_ok : okM Try.prog mths := ⟨⟨⟨_, Try.underlying75⟩, ⟨⟨{ name := "anvil/save.bytes", sig := 78, path := #[], func := some (39, true) }, by kernel_rfl, rfl, rfl⟩, ⟨{ name := "anvil/save.double", sig := 139, path := #[], func := some (185, true) }, by kernel_rfl, rfl, rfl⟩, ⟨{ name := "anvil/save.flag", sig := 143, path := #[], func := some (186, true) }, by kernel_rfl, rfl, rfl⟩, ⟨{ name := "anvil/save.list", sig := 152, path := #[], func := some (187, true) }, by kernel_rfl, rfl, rfl⟩, ⟨{ name := "anvil/save.number", sig := 81, path := #[], func := some (42, true) }, by kernel_rfl, rfl, rfl⟩, ⟨{ name := "anvil/save.octet", sig := 146, path := #[], func := some (188, true) }, by kernel_rfl, rfl, rfl⟩, ⟨{ name := "anvil/save.pages", sig := 78, path := #[], func := some (41, true) }, by kernel_rfl, rfl, rfl⟩, ⟨{ name := "anvil/save.place", sig := 141, path := #[], func := some (189, true) }, by kernel_rfl, rfl, rfl⟩, ⟨{ name := "anvil/save.word", sig := 149, path := #[], func := some (190, true) }, by kernel_rfl, rfl, rfl⟩, trivial⟩⟩,
  ⟨⟨_, Try.underlying89⟩, ⟨⟨{ name := "anvil/save.double", sig := 139, path := #[], func := some (191, true) }, by kernel_rfl, rfl, rfl⟩, ⟨{ name := "anvil/save.flag", sig := 143, path := #[], func := some (192, true) }, by kernel_rfl, rfl, rfl⟩, ⟨{ name := "anvil/save.list", sig := 152, path := #[], func := some (193, true) }, by kernel_rfl, rfl, rfl⟩, ⟨{ name := "anvil/save.number", sig := 92, path := #[], func := some (53, true) }, by kernel_rfl, rfl, rfl⟩, ⟨{ name := "anvil/save.octet", sig := 146, path := #[], func := some (194, true) }, by kernel_rfl, rfl, rfl⟩, ⟨{ name := "anvil/save.pages", sig := 83, path := #[], func := some (54, true) }, by kernel_rfl, rfl, rfl⟩, ⟨{ name := "anvil/save.place", sig := 141, path := #[], func := some (195, true) }, by kernel_rfl, rfl, rfl⟩, ⟨{ name := "anvil/save.take", sig := 159, path := #[], func := some (87, true) }, by kernel_rfl, rfl, rfl⟩, ⟨{ name := "anvil/save.word", sig := 149, path := #[], func := some (196, true) }, by kernel_rfl, rfl, rfl⟩, trivial⟩⟩,
  ⟨⟨_, Try.underlying93⟩, ⟨⟨{ name := "anvil/anvilref16.cpu", sig := 96, path := #[], func := some (55, true) }, by kernel_rfl, rfl, rfl⟩, ⟨{ name := "anvil/anvilref16.devices", sig := 97, path := #[], func := some (56, true) }, by kernel_rfl, rfl, rfl⟩, ⟨{ name := "anvil/anvilref16.flag", sig := 22, path := #[], func := some (89, true) }, by kernel_rfl, rfl, rfl⟩, ⟨{ name := "anvil/anvilref16.list", sig := 160, path := #[], func := some (90, true) }, by kernel_rfl, rfl, rfl⟩, ⟨{ name := "anvil/anvilref16.num", sig := 92, path := #[], func := some (88, true) }, by kernel_rfl, rfl, rfl⟩, ⟨{ name := "anvil/anvilref16.ram", sig := 83, path := #[], func := some (57, true) }, by kernel_rfl, rfl, rfl⟩, ⟨{ name := "anvil/anvilref16.take", sig := 159, path := #[], func := some (91, true) }, by kernel_rfl, rfl, rfl⟩, trivial⟩⟩,
  ⟨⟨_, Try.underlying106⟩, ⟨⟨{ name := "anvil/watch.broken", sig := 111, path := #[], func := some (67, true) }, by kernel_rfl, rfl, rfl⟩, ⟨{ name := "anvil/watch.row", sig := 110, path := #[], func := some (66, true) }, by kernel_rfl, rfl, rfl⟩, trivial⟩⟩,
  ⟨⟨_, Try.underlying162⟩, ⟨⟨{ name := "anvil/watch.bytes", sig := 179, path := #[], func := some (121, true) }, by kernel_rfl, rfl, rfl⟩, ⟨{ name := "anvil/watch.counts", sig := 22, path := #[], func := some (131, true) }, by kernel_rfl, rfl, rfl⟩, ⟨{ name := "anvil/watch.first", sig := 166, path := #[], func := some (108, true) }, by kernel_rfl, rfl, rfl⟩, ⟨{ name := "anvil/watch.inRam", sig := 22, path := #[], func := some (156, true) }, by kernel_rfl, rfl, rfl⟩, ⟨{ name := "anvil/watch.kept", sig := 22, path := #[], func := some (126, true) }, by kernel_rfl, rfl, rfl⟩, ⟨{ name := "anvil/watch.locks", sig := 22, path := #[], func := some (125, true) }, by kernel_rfl, rfl, rfl⟩, ⟨{ name := "anvil/watch.memory", sig := 22, path := #[], func := some (123, true) }, by kernel_rfl, rfl, rfl⟩, ⟨{ name := "anvil/watch.output", sig := 22, path := #[], func := some (137, true) }, by kernel_rfl, rfl, rfl⟩, ⟨{ name := "anvil/watch.placed", sig := 22, path := #[], func := some (167, true) }, by kernel_rfl, rfl, rfl⟩, ⟨{ name := "anvil/watch.registers", sig := 22, path := #[], func := some (119, true) }, by kernel_rfl, rfl, rfl⟩, ⟨{ name := "anvil/watch.rules", sig := 166, path := #[], func := some (95, true) }, by kernel_rfl, rfl, rfl⟩, ⟨{ name := "anvil/watch.second", sig := 166, path := #[], func := some (109, true) }, by kernel_rfl, rfl, rfl⟩, ⟨{ name := "anvil/watch.storedAt", sig := 182, path := #[], func := some (134, true) }, by kernel_rfl, rfl, rfl⟩, ⟨{ name := "anvil/watch.stores", sig := 22, path := #[], func := some (154, true) }, by kernel_rfl, rfl, rfl⟩, ⟨{ name := "anvil/watch.trap", sig := 22, path := #[], func := some (127, true) }, by kernel_rfl, rfl, rfl⟩, ⟨{ name := "anvil/watch.trapped", sig := 22, path := #[], func := some (139, true) }, by kernel_rfl, rfl, rfl⟩, ⟨{ name := "anvil/watch.within", sig := 180, path := #[], func := some (155, true) }, by kernel_rfl, rfl, rfl⟩, trivial⟩⟩,
  ⟨⟨_, Try.underlying170⟩, ⟨⟨{ name := "anvil/bus.raised", sig := 22, path := #[], func := some (197, true) }, by kernel_rfl, rfl, rfl⟩, ⟨{ name := "anvil/bus.set", sig := 133, path := #[], func := some (75, true) }, by kernel_rfl, rfl, rfl⟩, trivial⟩⟩,
  trivial⟩
noncomputable def TB : Tbl := { P := Try.prog, ty := tblT tys, mth := mthL mths, eqs := eqL eqs, mixed := by kernel_rfl, tyOk := tblT_ok tys_ok, eqOk := eqL_ok eqs_ok, mthOk := mthL_ok mths_ok }
end Go.Proofs.Ytghcdkpgcanpgaa

/- Machine numbers as bit vectors: what the walker's arithmetic comes to. Plain lemmas, no condition. -/
namespace Go.Anv
open Go

theorem wrap_u8 (x : Int) : IntKind.u8.wrap x = ((BitVec.ofInt 8 x).toNat : Int) := by
  simp [IntKind.wrap, IntKind.bits, IntKind.signed, BitVec.toNat_ofInt]; omega
theorem wrap_u16 (x : Int) : IntKind.u16.wrap x = ((BitVec.ofInt 16 x).toNat : Int) := by
  simp [IntKind.wrap, IntKind.bits, IntKind.signed, BitVec.toNat_ofInt]; omega
theorem wrap_u32 (x : Int) : IntKind.u32.wrap x = ((BitVec.ofInt 32 x).toNat : Int) := by
  simp [IntKind.wrap, IntKind.bits, IntKind.signed, BitVec.toNat_ofInt]; omega
theorem wrap_u64 (x : Int) : IntKind.u64.wrap x = ((BitVec.ofInt 64 x).toNat : Int) := by
  simp [IntKind.wrap, IntKind.bits, IntKind.signed, BitVec.toNat_ofInt]; omega
theorem wrap_i64 (x : Int) : IntKind.i64.wrap x = (BitVec.ofInt 64 x).toInt := by
  simp [IntKind.wrap, IntKind.bits, IntKind.signed, BitVec.toInt_ofInt, Int.bmod]
  split <;> split <;> omega
theorem wrap_i32 (x : Int) : IntKind.i32.wrap x = (BitVec.ofInt 32 x).toInt := by
  simp [IntKind.wrap, IntKind.bits, IntKind.signed, BitVec.toInt_ofInt, Int.bmod]
  split <;> split <;> omega

/-- In range nothing is lost. -/
theorem i64_in {x : Int} (h1 : -9223372036854775808 ≤ x) (h2 : x ≤ 9223372036854775807) : IntKind.i64.wrap x = x := by
  simp [IntKind.wrap, IntKind.bits, IntKind.signed]
  omega

@[simp] theorem ofInt_toNat {w : Nat} (a : BitVec w) : BitVec.ofInt w (a.toNat : Int) = a := by simp

section
variable (x y : Int)
theorem and_u8 : bitX .and .u8 x y = ((BitVec.ofInt 8 x &&& BitVec.ofInt 8 y).toNat : Int) := by show IntKind.u8.wrap _ = _; rw [wrap_u8]; exact congrArg (fun z : BitVec 8 => (z.toNat : Int)) (ofInt_toNat _)
theorem or_u8 : bitX .or .u8 x y = ((BitVec.ofInt 8 x ||| BitVec.ofInt 8 y).toNat : Int) := by show IntKind.u8.wrap _ = _; rw [wrap_u8]; exact congrArg (fun z : BitVec 8 => (z.toNat : Int)) (ofInt_toNat _)
theorem xor_u8 : bitX .xor .u8 x y = ((BitVec.ofInt 8 x ^^^ BitVec.ofInt 8 y).toNat : Int) := by show IntKind.u8.wrap _ = _; rw [wrap_u8]; exact congrArg (fun z : BitVec 8 => (z.toNat : Int)) (ofInt_toNat _)
theorem andNot_u8 : bitX .andNot .u8 x y = ((BitVec.ofInt 8 x &&& ~~~BitVec.ofInt 8 y).toNat : Int) := by show IntKind.u8.wrap _ = _; rw [wrap_u8]; exact congrArg (fun z : BitVec 8 => (z.toNat : Int)) (ofInt_toNat _)
theorem and_u32 : bitX .and .u32 x y = ((BitVec.ofInt 32 x &&& BitVec.ofInt 32 y).toNat : Int) := by show IntKind.u32.wrap _ = _; rw [wrap_u32]; exact congrArg (fun z : BitVec 32 => (z.toNat : Int)) (ofInt_toNat _)
theorem or_u32 : bitX .or .u32 x y = ((BitVec.ofInt 32 x ||| BitVec.ofInt 32 y).toNat : Int) := by show IntKind.u32.wrap _ = _; rw [wrap_u32]; exact congrArg (fun z : BitVec 32 => (z.toNat : Int)) (ofInt_toNat _)
theorem xor_u32 : bitX .xor .u32 x y = ((BitVec.ofInt 32 x ^^^ BitVec.ofInt 32 y).toNat : Int) := by show IntKind.u32.wrap _ = _; rw [wrap_u32]; exact congrArg (fun z : BitVec 32 => (z.toNat : Int)) (ofInt_toNat _)
theorem andNot_u32 : bitX .andNot .u32 x y = ((BitVec.ofInt 32 x &&& ~~~BitVec.ofInt 32 y).toNat : Int) := by show IntKind.u32.wrap _ = _; rw [wrap_u32]; exact congrArg (fun z : BitVec 32 => (z.toNat : Int)) (ofInt_toNat _)
theorem and_u64 : bitX .and .u64 x y = ((BitVec.ofInt 64 x &&& BitVec.ofInt 64 y).toNat : Int) := by show IntKind.u64.wrap _ = _; rw [wrap_u64]; exact congrArg (fun z : BitVec 64 => (z.toNat : Int)) (ofInt_toNat _)
theorem or_u64 : bitX .or .u64 x y = ((BitVec.ofInt 64 x ||| BitVec.ofInt 64 y).toNat : Int) := by show IntKind.u64.wrap _ = _; rw [wrap_u64]; exact congrArg (fun z : BitVec 64 => (z.toNat : Int)) (ofInt_toNat _)
theorem xor_u64 : bitX .xor .u64 x y = ((BitVec.ofInt 64 x ^^^ BitVec.ofInt 64 y).toNat : Int) := by show IntKind.u64.wrap _ = _; rw [wrap_u64]; exact congrArg (fun z : BitVec 64 => (z.toNat : Int)) (ofInt_toNat _)
theorem andNot_u64 : bitX .andNot .u64 x y = ((BitVec.ofInt 64 x &&& ~~~BitVec.ofInt 64 y).toNat : Int) := by show IntKind.u64.wrap _ = _; rw [wrap_u64]; exact congrArg (fun z : BitVec 64 => (z.toNat : Int)) (ofInt_toNat _)
theorem ofInt64_nat (a : BitVec 64) : (BitVec.ofInt 64 (a.toNat : Int)).toInt = a.toInt := by rw [ofInt_toNat]
theorem and_i64 : bitX .and .i64 x y = (BitVec.ofInt 64 x &&& BitVec.ofInt 64 y).toInt := by show IntKind.i64.wrap _ = _; rw [wrap_i64]; exact ofInt64_nat _
theorem or_i64 : bitX .or .i64 x y = (BitVec.ofInt 64 x ||| BitVec.ofInt 64 y).toInt := by show IntKind.i64.wrap _ = _; rw [wrap_i64]; exact ofInt64_nat _
theorem xor_i64 : bitX .xor .i64 x y = (BitVec.ofInt 64 x ^^^ BitVec.ofInt 64 y).toInt := by show IntKind.i64.wrap _ = _; rw [wrap_i64]; exact ofInt64_nat _
theorem andNot_i64 : bitX .andNot .i64 x y = (BitVec.ofInt 64 x &&& ~~~BitVec.ofInt 64 y).toInt := by show IntKind.i64.wrap _ = _; rw [wrap_i64]; exact ofInt64_nat _
end

theorem fdiv_pow {w : Nat} (a : BitVec w) (n : Nat) : ((a.toNat : Int)).fdiv (2 ^ n) = ((a >>> n).toNat : Int) := by
  rw [BitVec.toNat_ushiftRight, Nat.shiftRight_eq_div_pow, Int.fdiv_eq_ediv_of_nonneg _ (by exact Int.le_of_lt (Int.pow_pos (by decide)))]
  simp

theorem mul_pow {w : Nat} (a : BitVec w) (n : Nat) : BitVec.ofInt w ((a.toNat : Int) * 2 ^ n) = a <<< n := by
  apply BitVec.eq_of_toNat_eq
  rw [BitVec.toNat_shiftLeft, Nat.shiftLeft_eq, BitVec.toNat_ofInt]
  have : ((a.toNat : Int) * 2 ^ n) = ((a.toNat * 2 ^ n : Nat) : Int) := by simp
  rw [this]
  have h2 : ((2 ^ w : Nat) : Int) = (2 ^ w : Int) := by simp
  rw [← Int.natCast_emod, Int.toNat_natCast]

theorem beq_nat {w : Nat} (a b : BitVec w) : ((a.toNat : Int) == (b.toNat : Int)) = (a == b) := by
  rw [Bool.eq_iff_iff, beq_iff_eq, beq_iff_eq, ← BitVec.toNat_inj]
  omega

theorem beq_lit {w : Nat} (a : BitVec w) (n : Int) (h0 : 0 ≤ n) (h1 : n < 2 ^ w) : ((a.toNat : Int) == n) = (a == BitVec.ofInt w n) := by
  rw [← beq_nat]
  have : ((BitVec.ofInt w n).toNat : Int) = n := by
    rw [BitVec.toNat_ofInt]
    have h2 : ((2 ^ w : Nat) : Int) = (2 ^ w : Int) := by simp
    rw [h2, Int.emod_eq_of_lt h0 h1, Int.toNat_of_nonneg h0]
  rw [this]

theorem bne_nat {w : Nat} (a b : BitVec w) : ((a.toNat : Int) != (b.toNat : Int)) = (a != b) := by rw [bne, bne, beq_nat]
theorem bne_lit {w : Nat} (a : BitVec w) (n : Int) (h0 : 0 ≤ n) (h1 : n < 2 ^ w) : ((a.toNat : Int) != n) = (a != BitVec.ofInt w n) := by rw [bne, bne, beq_lit a n h0 h1]

theorem lt_nat {w : Nat} (a b : BitVec w) : decide ((a.toNat : Int) < (b.toNat : Int)) = decide (a < b) := decide_eq_decide.2 (by rw [BitVec.lt_def]; omega)
theorem le_nat {w : Nat} (a b : BitVec w) : decide ((a.toNat : Int) ≤ (b.toNat : Int)) = decide (a ≤ b) := decide_eq_decide.2 (by rw [BitVec.le_def]; omega)
theorem gt_nat {w : Nat} (a b : BitVec w) : decide ((a.toNat : Int) > (b.toNat : Int)) = decide (b < a) := decide_eq_decide.2 (by rw [BitVec.lt_def]; omega)
theorem ge_nat {w : Nat} (a b : BitVec w) : decide ((a.toNat : Int) ≥ (b.toNat : Int)) = decide (b ≤ a) := decide_eq_decide.2 (by rw [BitVec.le_def]; omega)

end Go.Anv

/- The engine, part 8: loops, by the slots that they carry. Plain theorems, no condition. -/
namespace Go.Anv
open Go

/-- The slots that a piece of code writes. -/
def writesO : List Oper → List Nat
  | [] => []
  | o :: r => match o.dst with
    | some d => d :: writesO r
    | none => writesO r

def writes : Code → List Nat
  | .region _ ops _ => writesO ops.toList
  | .seq a b => writes a ++ writes b
  | .cond _ a b => writes a ++ writes b
  | .block _ a => writes a
  | .loop a => writes a
  | .scope a => writes a
  | _ => []

def forgetK (l : List Nat) : List EV → (List EV → Prop) → Prop :=
  List.rec (motive := fun _ => List EV → (List EV → Prop) → Prop) (fun ts k => k ts) (fun d _ ih ts k => updK ts d .junk fun ts => ih ts k) l

def laterK (l : List (Nat × EV)) : List EV → (List EV → Prop) → Prop :=
  List.rec (motive := fun _ => List EV → (List EV → Prop) → Prop) (fun ts k => k ts) (fun x _ ih ts k => match x with
    | (d, v) => forceE v fun v => updK ts d v fun ts => ih ts k) l

def forgetT : List Nat → List EV → List EV
  | [], ts => ts
  | d :: r, ts => forgetT r (upd ts d .junk)

def laterT : List (Nat × EV) → List EV → List EV
  | [], ts => ts
  | (d, v) :: r, ts => laterT r (upd ts d v)

theorem forgetK_eq : ∀ (M : List Nat) (ts : List EV) (k : List EV → Prop), forgetK M ts k = k (forgetT M ts)
  | [], _, _ => rfl
  | d :: r, ts, k => by
    show (updK ts d .junk fun ts => forgetK r ts k) = _
    rw [updK_eq, forgetK_eq r]
    rfl

theorem laterK_eq : ∀ (C : List (Nat × EV)) (ts : List EV) (k : List EV → Prop), laterK C ts k = k (laterT C ts)
  | [], _, _ => rfl
  | (d, v) :: r, ts, k => by
    show (forceE v fun v => updK ts d v fun ts => laterK r ts k) = _
    rw [forceE_eq, updK_eq, laterK_eq r]
    rfl

/-- The state at a round's head: the slots C, the heap H; what the round writes besides is not known. -/
def headK (c : Code) (s : St) (C : List (Nat × EV)) (H : List Blk) (k : St → Prop) : Prop :=
  forgetK (writes c) s.tmps fun ts => laterK C ts fun ts => k ⟨ts, H⟩

theorem headK_eq (c : Code) (s : St) (C : List (Nat × EV)) (H : List Blk) (k : St → Prop) : headK c s C H k = k ⟨laterT C (forgetT (writes c) s.tmps), H⟩ := by
  simp only [headK, forgetK_eq, laterK_eq]

def leS (s t : St) : Prop := eqvT s.tmps t.tmps ∧ eqvH s.heap t.heap

theorem leS.le {s t : St} (h : leS s t) : s.le t := ⟨h.1, h.2⟩

def roundK {A : Type} (c : Code) (s : St) (C : A → List (Nat × EV)) (H : A → List Blk) (I : A → Prop) (μ : A → Nat) (x : A) (K : Exit → St → Prop) : Exit → St → Prop
  | .normal, s' => ∃ y, I y ∧ μ y < μ x ∧ headK c s (C y) (H y) fun t => leS s' t
  | e, s' => K e s'

/-- **A loop, by what its slots and the heap hold at each round's head.** -/
theorem loop_by {T : Tbl} {O : Org} {A : Type} {c : Code} {s : St} {K : Exit → St → Prop} (on : O.E.n = O.h.length) (C : A → List (Nat × EV)) (H : A → List Blk) (I : A → Prop) (μ : A → Nat) (x0 : A) (h0 : I x0)
    (hs : headK c s (C x0) (H x0) fun t => leS s t)
    (round : ∀ x, I x → headK c s (C x) (H x) fun t => wpx T O c t (roundK c s C H I μ x K)) : LoopG T O c s K := by
  refine loop_rule on (fun x => ⟨laterT (C x) (forgetT (writes c) s.tmps), H x⟩) I μ x0 h0 ?_ (fun x hx => ?_)
  · rw [headK_eq] at hs
    exact hs.le
  · have h := round x hx
    rw [headK_eq] at h
    have hk : roundK c s C H I μ x K = (fun e s' => match e with
      | .normal => ∃ y, I y ∧ s'.le (⟨laterT (C y) (forgetT (writes c) s.tmps), H y⟩ : St) ∧ μ y < μ x
      | e => K e s') := by
      funext e s'
      cases e <;> simp only [roundK]
      apply propext
      constructor
      · rintro ⟨y, h1, h2, h3⟩
        rw [headK_eq] at h3
        exact ⟨y, h1, h3.le, h2⟩
      · rintro ⟨y, h1, h2, h3⟩
        exact ⟨y, h1, h3, by rw [headK_eq]; exact ⟨h2.1, h2.2⟩⟩
    rw [hk] at h
    exact h

theorem eqvT_nil : eqvT [] [] := trivial
theorem eqvT_junk {x : EV} {r r' : List EV} (h : eqvT r r') : eqvT (x :: r) (.junk :: r') := by
  unfold eqvT
  exact ⟨by unfold eqvE; cases x <;> trivial, h⟩
theorem eqvT_same {x : EV} {r r' : List EV} (h : eqvT r r') : eqvT (x :: r) (x :: r') := ⟨eqvE_refl x, h⟩
theorem eqvT_int {k : IntKind} {a b : Int} {r r' : List EV} (h1 : a = b) (h : eqvT r r') : eqvT (.s (.int k a) :: r) (.s (.int k b) :: r') := ⟨⟨rfl, h1⟩, h⟩
theorem eqvT_bool {a b : Bool} {r r' : List EV} (h1 : a = b) (h : eqvT r r') : eqvT (.s (.bool a) :: r) (.s (.bool b) :: r') := ⟨h1, h⟩
theorem eqvT_agg {a b : List Seg} {r r' : List EV} (h1 : eqvS a b) (h : eqvT r r') : eqvT (.agg a :: r) (.agg b :: r') := ⟨h1, h⟩
theorem eqvT_str {a b : ByteArray} {r r' : List EV} (h1 : a = b) (h : eqvT r r') : eqvT (.s (.str a) :: r) (.s (.str b) :: r') := ⟨h1, h⟩
theorem eqvT_gs {b o n c b' o' n' c' : Nat} {r r' : List EV} (h1 : b = b' ∧ o = o' ∧ n = n' ∧ c = c') (h : eqvT r r') : eqvT (.s (.gs b o n c) :: r) (.s (.gs b' o' n' c') :: r') := ⟨h1, h⟩
theorem eqvT_sgs {b o n c b' o' n' c' : Nat} {r r' : List EV} (h1 : b = b' ∧ o = o' ∧ n = n' ∧ c = c') (h : eqvT r r') : eqvT (.s (.slice b o n c) :: r) (.s (.gs b' o' n' c') :: r') := ⟨h1, h⟩
theorem eqvH_nil : eqvH [] [] := trivial
theorem eqvH_same {x : Blk} {r r' : List Blk} (h : eqvH r r') : eqvH (x :: r) (x :: r') := ⟨eqvB_refl x, h⟩
theorem eqvH_cells {m : Bool} {sp : Nat} {a b : List Seg} {r r' : List Blk} (h1 : eqvS a b) (h : eqvH r r') : eqvH (.cells m a sp :: r) (.cells m b sp :: r') := ⟨⟨rfl, rfl, h1⟩, h⟩
theorem eqvS_junk {x : SV} {r r' : List Seg} (h : eqvS r r') : eqvS (.one x :: r) (.one .junk :: r') := ⟨by cases x <;> trivial, h⟩
theorem eqvS_nil : eqvS [] [] := trivial
theorem eqvS_same {x : Seg} {r r' : List Seg} (h : eqvS r r') : eqvS (x :: r) (x :: r') := by
  cases x with
  | one v => exact ⟨eqvV_refl v, h⟩
  | ints k n f => exact ⟨⟨rfl, rfl, fun _ _ => rfl⟩, h⟩
theorem eqvS_int {k : IntKind} {a b : Int} {r r' : List Seg} (h1 : a = b) (h : eqvS r r') : eqvS (.one (.int k a) :: r) (.one (.int k b) :: r') := ⟨⟨rfl, h1⟩, h⟩
theorem eqvS_bool {a b : Bool} {r r' : List Seg} (h1 : a = b) (h : eqvS r r') : eqvS (.one (.bool a) :: r) (.one (.bool b) :: r') := ⟨h1, h⟩
theorem eqvS_ints {k : IntKind} {n : Nat} {f g : Nat → Int} {r r' : List Seg} (h1 : ∀ j, j < n → f j = g j) (h : eqvS r r') : eqvS (.ints k n f :: r) (.ints k n g :: r') := ⟨⟨rfl, rfl, h1⟩, h⟩

end Go.Anv

/- The engine, part 9: a region that draws its order. What yields its value whatever comes first is taken first; all orders of the rest. Plain theorems; their condition: no panic is let through. -/
namespace Go.Anv
open Go

/-! ### values that are told -/

mutual
def detV : SV → Bool
  | .junk => false
  | .func _ a c => detL a && detL c
  | .iface _ _ cs => detL cs
  | _ => true
def detL : List SV → Bool
  | [] => true
  | v :: r => detV v && detL r
end

def detS : List Seg → Bool
  | [] => true
  | .one v :: r => detV v && detS r
  | .ints .. :: r => detS r

mutual
def detE : EV → Bool
  | .s v => detV v
  | .agg cs => detS cs
  | .tuple vs => detT vs
  | .gd _ v => detE v
  | .junk => false
def detT : List EV → Bool
  | [] => true
  | v :: r => detE v && detT r
end

mutual
theorem detV_eq {E : Emb} : ∀ (e : SV) (u v : Value), detV e = true → denV E e u → denV E e v → u = v
  | .junk, _, _, hd, _, _ => by simp [detV] at hd
  | .int .., _, _, _, h, k => by simp only [denV] at h k; rw [h, k]
  | .bool _, _, _, _, h, k => by simp only [denV] at h k; rw [h, k]
  | .str _, _, _, _, h, k => by simp only [denV] at h k; rw [h, k]
  | .ptr .., _, _, _, h, k => by simp only [denV] at h k; rw [h.2, k.2]
  | .pix .., _, _, _, h, k => by simp only [denV] at h k; rw [h.2, k.2]
  | .rp .., _, _, _, h, k => by simp only [denV] at h k; rw [h.2, k.2]
  | .nilptr, _, _, _, h, k => by simp only [denV] at h k; rw [h, k]
  | .slice .., _, _, _, h, k => by simp only [denV] at h k; rw [h.2, k.2]
  | .nilslice, _, _, _, h, k => by simp only [denV] at h k; rw [h, k]
  | .gs .., _, _, _, h, k => by simp only [denV] at h k; rw [h.2.2, k.2.2]
  | .map _, _, _, _, h, k => by simp only [denV] at h k; rw [h.2, k.2]
  | .nilmap, _, _, _, h, k => by simp only [denV] at h k; rw [h, k]
  | .func fn a c, _, _, hd, h, k => by
    simp only [detV, Bool.and_eq_true] at hd
    simp only [denV] at h k
    obtain ⟨f1, c1, rfl, h1, h2⟩ := h
    obtain ⟨f2, c2, rfl, k1, k2⟩ := k
    rw [Array.toList_inj.1 (detL_eq a _ _ hd.1 h1 k1), Array.toList_inj.1 (detL_eq c _ _ hd.2 h2 k2)]
  | .nilfunc, _, _, _, h, k => by simp only [denV] at h k; rw [h, k]
  | .iface t true cs, _, _, hd, h, k => by
    simp only [detV] at hd
    simp only [denV] at h k
    obtain ⟨l, rfl, h1⟩ := h
    obtain ⟨m, rfl, k1⟩ := k
    rw [Array.toList_inj.1 (detL_eq cs _ _ hd h1 k1)]
  | .iface t false cs, _, _, hd, h, k => by
    simp only [detV] at hd
    simp only [denV] at h k
    obtain ⟨l, rfl, h1⟩ := h
    obtain ⟨m, rfl, k1⟩ := k
    have := detL_eq cs _ _ hd h1 k1
    simp only [List.cons.injEq, and_true] at this
    rw [this]
  | .niliface, _, _, _, h, k => by simp only [denV] at h k; rw [h, k]
theorem detL_eq {E : Emb} : ∀ (l : List SV) (u v : List Value), detL l = true → denL E l u → denL E l v → u = v
  | [], _, _, _, h, k => by simp only [denL] at h k; rw [h, k]
  | e :: r, _, _, hd, h, k => by
    simp only [detL, Bool.and_eq_true] at hd
    simp only [denL] at h k
    obtain ⟨v, l, rfl, h1, h2⟩ := h
    obtain ⟨v', l', rfl, k1, k2⟩ := k
    rw [detV_eq e _ _ hd.1 h1 k1, detL_eq r _ _ hd.2 h2 k2]
end

theorem detS_eq {E : Emb} : ∀ (l : List Seg) (u v : List Value), detS l = true → denS E l u → denS E l v → u = v
  | [], _, _, _, h, k => by simp only [denS] at h k; rw [h, k]
  | .one e :: r, _, _, hd, h, k => by
    simp only [detS, Bool.and_eq_true] at hd
    simp only [denS] at h k
    obtain ⟨v, l, rfl, h1, h2⟩ := h
    obtain ⟨v', l', rfl, k1, k2⟩ := k
    rw [detV_eq e _ _ hd.1 h1 k1, detS_eq r _ _ hd.2 h2 k2]
  | .ints q n f :: r, _, _, hd, h, k => by
    simp only [detS] at hd
    simp only [denS] at h k
    obtain ⟨l, rfl, h2⟩ := h
    obtain ⟨l', rfl, k2⟩ := k
    rw [detS_eq r _ _ hd h2 k2]

mutual
theorem detE_eq {E : Emb} : ∀ (e : EV) (u v : Value), detE e = true → denE E e u → denE E e v → u = v
  | .s x, u, v, hd, h, k => by simp only [detE] at hd; simp only [denE] at h k; exact detV_eq x u v hd h k
  | .agg cs, u, v, hd, h, k => by
    simp only [detE] at hd
    simp only [denE] at h k
    obtain ⟨l, rfl, h1⟩ := h
    obtain ⟨m, rfl, k1⟩ := k
    rw [Array.toList_inj.1 (detS_eq cs _ _ hd h1 k1)]
  | .tuple vs, u, v, hd, h, k => by
    simp only [detE] at hd
    simp only [denE] at h k
    obtain ⟨l, rfl, h1⟩ := h
    obtain ⟨m, rfl, k1⟩ := k
    rw [Array.toList_inj.1 (detT_eq vs _ _ hd h1 k1)]
  | .gd g x, u, v, hd, h, k => by
    simp only [detE] at hd
    simp only [denE] at h k
    cases g with
    | true => exact detE_eq x u v hd (h.1 rfl) (k.1 rfl)
    | false => rw [h.2 rfl, k.2 rfl]
  | .junk, _, _, hd, _, _ => by simp [detE] at hd
theorem detT_eq {E : Emb} : ∀ (l : List EV) (u v : List Value), detT l = true → denT E l u → denT E l v → u = v
  | [], _, _, _, h, k => by simp only [denT] at h k; rw [h, k]
  | e :: r, _, _, hd, h, k => by
    simp only [detT, Bool.and_eq_true] at hd
    simp only [denT] at h k
    obtain ⟨v, l, rfl, h1, h2⟩ := h
    obtain ⟨v', l', rfl, k1, k2⟩ := k
    rw [detE_eq e _ _ hd.1 h1 k1, detT_eq r _ _ hd.2 h2 k2]
end

/-! ### the small world of the region's begin, seen from later -/

mutual
theorem denV_back {E E' : Emb} (h : E.le E') : ∀ (e : SV) (u v : Value), denV E e u → denV E' e v → denV E e v
  | .junk, _, _, _, k => k
  | .int .., _, _, _, k => k
  | .bool _, _, _, _, k => k
  | .str _, _, _, _, k => k
  | .ptr b o, _, _, g, k => by simp only [denV] at g k ⊢; exact ⟨g.1, by rw [k.2, Emb.le_at h g.1]⟩
  | .pix b o i, _, _, g, k => by simp only [denV] at g k ⊢; exact ⟨g.1, by rw [k.2, Emb.le_at h g.1]⟩
  | .rp b o i z, _, _, g, k => by simp only [denV] at g k ⊢; exact ⟨g.1, by rw [k.2, Emb.le_at h g.1]⟩
  | .nilptr, _, _, _, k => k
  | .slice .., _, _, g, k => by simp only [denV] at g k ⊢; exact ⟨g.1, by rw [k.2, Emb.le_at h g.1.1]⟩
  | .nilslice, _, _, _, k => k
  | .gs .., _, _, g, k => by simp only [denV] at g k ⊢; exact ⟨g.1, g.2.1, by rw [k.2.2, Emb.le_at h g.1, h.2 _ g.1]⟩
  | .map b, _, _, g, k => by simp only [denV] at g k ⊢; exact ⟨g.1, by rw [k.2, h.2 b g.1]⟩
  | .nilmap, _, _, _, k => k
  | .func fn a c, _, _, g, k => by
    simp only [denV] at g k ⊢
    obtain ⟨f1, c1, _, h1, h2⟩ := g
    obtain ⟨f2, c2, rfl, k1, k2⟩ := k
    exact ⟨f2, c2, rfl, denL_back h a _ _ h1 k1, denL_back h c _ _ h2 k2⟩
  | .nilfunc, _, _, _, k => k
  | .iface t true cs, _, _, g, k => by
    simp only [denV] at g k ⊢
    obtain ⟨l, _, h1⟩ := g
    obtain ⟨m, rfl, k1⟩ := k
    exact ⟨m, rfl, denL_back h cs _ _ h1 k1⟩
  | .iface t false cs, _, _, g, k => by
    simp only [denV] at g k ⊢
    obtain ⟨l, _, h1⟩ := g
    obtain ⟨m, rfl, k1⟩ := k
    exact ⟨m, rfl, denL_back h cs _ _ h1 k1⟩
  | .niliface, _, _, _, k => k
theorem denL_back {E E' : Emb} (h : E.le E') : ∀ (l : List SV) (u v : List Value), denL E l u → denL E' l v → denL E l v
  | [], _, _, _, k => k
  | e :: r, _, _, g, k => by
    simp only [denL] at g k ⊢
    obtain ⟨v, l, _, h1, h2⟩ := g
    obtain ⟨v', l', rfl, k1, k2⟩ := k
    exact ⟨v', l', rfl, denV_back h e _ _ h1 k1, denL_back h r _ _ h2 k2⟩
end

theorem denS_back {E E' : Emb} (h : E.le E') : ∀ (l : List Seg) (u v : List Value), denS E l u → denS E' l v → denS E l v
  | [], _, _, _, k => k
  | .one e :: r, _, _, g, k => by
    simp only [denS] at g k ⊢
    obtain ⟨v, l, _, h1, h2⟩ := g
    obtain ⟨v', l', rfl, k1, k2⟩ := k
    exact ⟨v', l', rfl, denV_back h e _ _ h1 k1, denS_back h r _ _ h2 k2⟩
  | .ints q n f :: r, _, _, g, k => by
    simp only [denS] at g k ⊢
    obtain ⟨l, _, h2⟩ := g
    obtain ⟨l', rfl, k2⟩ := k
    exact ⟨l', rfl, denS_back h r _ _ h2 k2⟩

mutual
theorem denE_back {E E' : Emb} (h : E.le E') : ∀ (e : EV) (u v : Value), denE E e u → denE E' e v → denE E e v
  | .s x, _, _, g, k => by simp only [denE] at g k ⊢; exact denV_back h x _ _ g k
  | .agg cs, _, _, g, k => by
    simp only [denE] at g k ⊢
    obtain ⟨l, _, h1⟩ := g
    obtain ⟨m, rfl, k1⟩ := k
    exact ⟨m, rfl, denS_back h cs _ _ h1 k1⟩
  | .tuple vs, _, _, g, k => by
    simp only [denE] at g k ⊢
    obtain ⟨l, _, h1⟩ := g
    obtain ⟨m, rfl, k1⟩ := k
    exact ⟨m, rfl, denT_back h vs _ _ h1 k1⟩
  | .gd b x, _, _, g, k => by simp only [denE] at g k ⊢; exact ⟨fun hb => denE_back h x _ _ (g.1 hb) (k.1 hb), k.2⟩
  | .junk, _, _, _, _ => by simp only [denE]
theorem denT_back {E E' : Emb} (h : E.le E') : ∀ (l : List EV) (u v : List Value), denT E l u → denT E' l v → denT E l v
  | [], _, _, _, k => by simp only [denT] at k ⊢; exact k
  | e :: r, _, _, g, k => by
    simp only [denT] at g k ⊢
    obtain ⟨v, l, _, h1, h2⟩ := g
    obtain ⟨v', l', rfl, k1, k2⟩ := k
    exact ⟨v', l', rfl, denE_back h e _ _ h1 k1, denT_back h r _ _ h2 k2⟩
end

theorem denM_back {E E' : Emb} (h : E.le E') : ∀ (l : List (SV × EV)) (u v : List MapEntry), denM E l u → denM E' l v → denM E l v
  | [], _, _, _, k => k
  | (q, cs) :: r, _, _, g, k => by
    simp only [denM] at g k ⊢
    obtain ⟨e, l, _, h1, h2, h3⟩ := g
    obtain ⟨e', l', rfl, k1, k2, k3⟩ := k
    exact ⟨e', l', rfl, denV_back h q _ _ h1 k1, denE_back h cs _ _ h2 k2, denM_back h r _ _ h3 k3⟩

theorem okBlk_back {E E' : Emb} (h : E.le E') {w w' : World} {p : Loc} {B : Blk} (g : okBlk E w p B) (k : okBlk E' w' p B) : okBlk E w' p B := by
  cases B with
  | cells m cs sp =>
    obtain ⟨_, ⟨l, h2, _⟩, _⟩ := g
    obtain ⟨k1, ⟨l', k2, k3⟩, k4⟩ := k
    exact ⟨k1, ⟨l', denS_back h cs _ _ h2 k2, k3⟩, k4⟩
  | recs m n z f sp =>
    obtain ⟨_, _, ⟨l, h2, _⟩, _⟩ := g
    obtain ⟨k0, k1, ⟨l', k2, k3⟩, k4⟩ := k
    exact ⟨k0, k1, ⟨l', denS_back h _ _ _ h2 k2, k3⟩, k4⟩
  | map es =>
    obtain ⟨l, c, _, h2⟩ := g
    obtain ⟨l', c', k1, k2⟩ := k
    exact ⟨l', c', k1, denM_back h es _ _ h2 k2⟩
  | dead => trivial

theorem okBlk_mono {E E' : Emb} (h : E.le E') {w : World} {p : Loc} {B : Blk} (k : okBlk E w p B) : okBlk E' w p B := by
  cases B with
  | cells m cs sp =>
    obtain ⟨k1, ⟨l', k2, k3⟩, k4⟩ := k
    exact ⟨k1, ⟨l', denS_mono h cs _ k2, k3⟩, k4⟩
  | recs m n z f sp => exact ⟨k.1, okCells_le h k.2⟩
  | map es =>
    obtain ⟨l', c', k1, k2⟩ := k
    exact ⟨l', c', k1, denM_mono h es _ k2⟩
  | dead => trivial

/-- A later small world that begins as an earlier one: the earlier one still lies there. -/
theorem Sim.restrict {E E' : Emb} {h h' : List Blk} {w w' : World} (S : Sim E h w) (le : E.le E') (S' : Sim E' h' w') (hp : ∀ (i : Nat) (B : Blk), h[i]? = some B → B = .dead ∨ h'[i]? = some B) : Sim E h w' := by
  refine ⟨S.n, fun i B hi => ?_, S.dis⟩
  have hlt : i < E.n := by
    rw [S.n]
    rcases Nat.lt_or_ge i h.length with h1 | h1
    · exact h1
    · simp [List.getElem?_eq_none h1] at hi
  rcases hp i B hi with rfl | hp
  · trivial
  have := S'.ok i B hp
  rw [le.2 i hlt] at this
  exact okBlk_back le (S.ok i B hi) this

/-- An earlier small world, seen with the later one's numbers. -/
theorem Sim.weak {E E' : Emb} {h : List Blk} {w : World} (S : Sim E h w) (le : E.le E') : Sim E' (h ++ List.replicate (E'.n - h.length) .dead) w := by
  have hsplit : ∀ (i : Nat) (B : Blk), (h ++ List.replicate (E'.n - h.length) Blk.dead)[i]? = some B → h[i]? = some B ∨ B = Blk.dead := fun i B hi => by
    rcases Nat.lt_or_ge i h.length with h1 | h1
    · rw [List.getElem?_append_left h1] at hi
      exact .inl hi
    · rw [List.getElem?_append_right h1, List.getElem?_replicate] at hi
      split at hi
      · simp only [Option.some.injEq] at hi; exact .inr hi.symm
      · cases hi
  have hlt : ∀ {i B}, h[i]? = some B → i < E.n := fun {i B} hi => by
    rw [S.n]
    rcases Nat.lt_or_ge i h.length with h1 | h1
    · exact h1
    · simp [List.getElem?_eq_none h1] at hi
  refine ⟨?_, fun i B hi => ?_, fun i j A B hij hi hj hA b o hc => ?_⟩
  · have := S.n
    have := le.1
    simp
    omega
  · rcases hsplit i B hi with h1 | rfl
    · rw [le.2 i (hlt h1)]
      exact okBlk_mono le (S.ok i B h1)
    · trivial
  · rcases hsplit i A hi with h1 | rfl
    · rcases hsplit j B hj with h2 | rfl
      · rw [le.2 i (hlt h1)] at hc
        rw [le.2 j (hlt h2)]
        exact S.dis i j A B hij h1 h2 hA b o hc
      · intro h3; exact h3
    · simp [Blk.mut] at hA

theorem nthB_app {h r : List Blk} {b : Nat} {B : Blk} (hb : nthB h b = some B) : nthB (h ++ r) b = some B := by
  induction h generalizing b with
  | nil => simp [nthB] at hb
  | cons x h ih =>
    cases b with
    | zero => simpa [nthB] using hb
    | succ b => simp only [nthB, List.cons_append] at hb ⊢; exact ih hb

theorem nthB_or (h r : List Blk) (b : Nat) : nthB h b = none ∨ nthB (h ++ r) b = nthB h b := by
  cases hb : nthB h b with
  | none => exact .inl rfl
  | some B => exact .inr (nthB_app hb)

theorem loadX_app (T : Tbl) (h r : List Blk) (t : TypeId) (x : EV) (hne : loadX T h t x ≠ .fail) : loadX T (h ++ r) t x = loadX T h t x := by
  cases hT : T.ty t with
  | none => simp [loadX, hT] at hne
  | some i =>
    cases x with
    | s v =>
      cases v with
      | ptr b o =>
        rcases nthB_or h r b with h0 | h0
        · simp [loadX, hT, h0] at hne
        · simp only [loadX, hT, h0]
      | pix b o j =>
        rcases nthB_or h r b with h0 | h0
        · simp [loadX, hT, h0] at hne
        · simp only [loadX, hT, h0]
      | rp b o j z =>
        rcases nthB_or h r b with h0 | h0
        · simp [loadX, hT, h0] at hne
        · simp only [loadX, hT, h0]
      | _ => simp [loadX, hT] at hne
    | _ => simp [loadX, hT] at hne

theorem indexAddrX_app (T : Tbl) (h r : List Blk) (t : TypeId) (x i : EV) (hne : indexAddrX T h t x i ≠ .fail) : indexAddrX T (h ++ r) t x i = indexAddrX T h t x i := by
  cases hT : T.ty t with
  | none => simp [indexAddrX, hT] at hne
  | some ti =>
    obtain ⟨d, size, bytes, zero⟩ := ti
    cases x with
    | s v =>
      cases i with
      | s iv =>
        cases iv with
        | int k n =>
          cases d with
          | array m e =>
            cases v with
            | ptr b o =>
              rcases nthB_or h r b with h0 | h0
              · simp [indexAddrX, hT, h0] at hne
              · simp only [indexAddrX, hT, h0]
            | _ => simp [indexAddrX, hT] at hne
          | slice e =>
            cases v with
            | slice b o l c =>
              rcases nthB_or h r b with h0 | h0
              · simp [indexAddrX, hT, h0] at hne
              · simp only [indexAddrX, hT, h0]
            | gs b o l c =>
              rcases nthB_or h r b with h0 | h0
              · simp [indexAddrX, hT, h0] at hne
              · simp only [indexAddrX, hT, h0]
            | _ => simp [indexAddrX, hT] at hne
          | _ => simp [indexAddrX, hT] at hne
        | _ => simp [indexAddrX, hT] at hne
      | _ => simp [indexAddrX, hT] at hne
    | _ => simp [indexAddrX, hT] at hne

theorem rngAt_app (h r : List Blk) (size b o n : Nat) (hne : rngAt h size b o n ≠ none) : rngAt (h ++ r) size b o n = rngAt h size b o n := by
  rcases nthB_or h r b with h0 | h0
  · simp [rngAt, h0] at hne
  · unfold rngAt
    rw [h0]

theorem rngX_app (h r : List Blk) (size : Nat) (y : EV) (hne : rngX h size y ≠ none) : rngX (h ++ r) size y = rngX h size y := by
  cases y with
  | s v =>
    cases v with
    | slice b o n c => exact rngAt_app h r size b o n hne
    | gs b o n c => exact rngAt_app h r size b o n hne
    | _ => rfl
  | _ => rfl

theorem convX_app (T : Tbl) (h r : List Blk) (src dst : TypeId) (x : EV) (hne : convX T h src dst x ≠ .fail) : convX T (h ++ r) src dst x = convX T h src dst x := by
  by_cases h0 : rngX h 1 x = none
  · unfold convX at hne ⊢
    split at hne
    · simp only [*]
    · simp only [*] at hne ⊢
      split at hne
      · simp at hne
      · exact absurd rfl hne
    · exact absurd rfl hne
  · have := rngX_app h r 1 x h0
    unfold convX
    rw [this]

/-- What the walker computes of a small world it computes of a larger one too. -/
theorem px_app (T : Tbl) (h r : List Blk) (ev raw : Operand → EV) (op : Op) (hne : px T h ev raw op ≠ .fail) : px T (h ++ r) ev raw op = px T h ev raw op := by
  cases op with
  | indexAddr t x i => exact indexAddrX_app T h r t _ _ hne
  | load t x => exact loadX_app T h r t _ hne
  | convert src dst x => exact convX_app T h r src dst _ hne
  | call c =>
    obtain ⟨callee, args, tys⟩ := c
    cases callee with
    | builtin b => cases b <;> rfl
    | _ => rfl
  | _ => rfl

/-! ### which may come up -/

def bindsL : Ground → Bool
  | .textOnly _ => false
  | .gcOnly _ => false
  | _ => true

theorem bindsL_eq (e : Edge) : bindsL e.ground = Region.binds .any e := by
  unfold bindsL Region.binds
  cases e.ground <;> rfl

def getB : List Bool → Nat → Bool
  | [], _ => false
  | b :: _, 0 => b
  | _ :: r, n + 1 => getB r n

def setB : List Bool → Nat → List Bool
  | [], _ => []
  | _ :: r, 0 => true :: r
  | b :: r, n + 1 => b :: setB r n

def nthO : List Oper → Nat → Option Oper
  | [], _ => none
  | o :: _, 0 => some o
  | _ :: r, n + 1 => nthO r n

def waitB (l : List Bool) : List Edge → Bool
  | [] => true
  | e :: r => (!bindsL e.ground || getB l e.on) && waitB l r

def rdyGo (l0 : List Bool) : Nat → List Oper → List Bool → List Nat
  | _, [], _ => []
  | _, _, [] => []
  | i, o :: r, b :: l => match !b && waitB l0 o.after.toList with
    | true => i :: rdyGo l0 (i + 1) r l
    | false => rdyGo l0 (i + 1) r l

theorem getB_eq : ∀ (l : List Bool) (i : Nat), getB l i = l.toArray.getD i false
  | [], i => by simp [getB]
  | b :: r, 0 => by simp [getB]
  | b :: r, i + 1 => by simp [getB, getB_eq r i]

theorem nthO_eq : ∀ (l : List Oper) (i : Nat), nthO l i = l[i]?
  | [], _ => rfl
  | o :: r, 0 => rfl
  | o :: r, i + 1 => by simp [nthO, nthO_eq r i]

theorem setB_eq : ∀ (l : List Bool) (i : Nat), setB l i = l.set i true
  | [], _ => rfl
  | _ :: _, 0 => rfl
  | b :: r, i + 1 => by simp [setB, setB_eq r i]

theorem waitB_eq (l : List Bool) : ∀ (es : List Edge), waitB l es = es.all fun e => !Region.binds .any e || l.toArray.getD e.on false
  | [] => rfl
  | e :: r => by simp only [waitB, List.all_cons, waitB_eq l r, bindsL_eq, getB_eq]

theorem rdyGo_eq (l0 : List Bool) : ∀ (ops : List Oper) (i : Nat) (l : List Bool), l.length = ops.length →
    rdyGo l0 i ops l = ((List.range ops.length).filter fun j => !l.toArray.getD j true && ((ops[j]?).map (fun o => waitB l0 o.after.toList)).getD false).map (· + i)
  | [], i, l, _ => by cases l <;> simp [rdyGo]
  | o :: r, i, [], h => by simp at h
  | o :: r, i, b :: l, h => by
    have ih := rdyGo_eq l0 r (i + 1) l (by simpa using h)
    simp only [rdyGo, List.length_cons, List.range_succ_eq_map, List.filter_cons, List.filter_map]
    have hmap : ∀ (p : Nat → Bool) (xs : List Nat), (List.filter p xs).map (· + (i + 1)) = ((List.filter p xs).map Nat.succ).map (· + i) := fun p xs => by
      rw [List.map_map]
      congr 1
      funext x
      simp only [Function.comp]
      omega
    rw [ih, hmap]
    have hcomp : ((fun j => !(b :: l).toArray.getD j true && (Option.map (fun o => waitB l0 o.after.toList) (o :: r)[j]?).getD false) ∘ Nat.succ) =
        (fun j => !l.toArray.getD j true && (Option.map (fun o => waitB l0 o.after.toList) r[j]?).getD false) := by
      funext j
      simp [Function.comp]
    rw [hcomp]
    simp only [List.getElem?_cons_zero, Option.map_some, Option.getD_some]
    have h0 : (b :: l).toArray.getD 0 true = b := by simp
    rw [h0]
    by_cases hw : (!b && waitB l0 o.after.toList) = true
    · simp only [hw, if_true, List.map_cons, Nat.zero_add]
    · rw [Bool.not_eq_true] at hw; simp only [hw, Bool.false_eq_true, if_false]

theorem rdy_eq (ops : Array Oper) (l : List Bool) (h : l.length = ops.size) : rdyGo l 0 ops.toList l = Region.ready .any ops l.toArray := by
  rw [rdyGo_eq l ops.toList 0 l (by simpa using h)]
  unfold Region.ready
  simp only [Nat.add_zero, List.map_id', Array.length_toList, Array.getElem?_toList]
  congr 1
  funext j
  cases ops[j]? with
  | none => rfl
  | some o => simp only [Option.map_some, Option.getD_some, waitB_eq, Array.all_toList]


/-! ### apart -/

def tmpsOf : List Operand → List Tmp
  | [] => []
  | .tmp t :: r => t :: tmpsOf r
  | _ :: r => tmpsOf r

theorem tmpsOf_eq : ∀ l : List Operand, tmpsOf l = l.filterMap fun | .tmp t => some t | _ => none
  | [] => rfl
  | .tmp t :: r => by simp [tmpsOf, tmpsOf_eq r]
  | .const _ :: r => by simp [tmpsOf, tmpsOf_eq r]
  | .global _ :: r => by simp [tmpsOf, tmpsOf_eq r]
  | .func _ :: r => by simp [tmpsOf, tmpsOf_eq r]

def looksL (ops : List Oper) (o : Oper) : List Tmp :=
  match o.guard with
  | none => tmpsOf o.op.operands.toList
  | some (g, _) => match nthO ops g with
    | none => tmpsOf o.op.operands.toList
    | some o' => match o'.dst with
      | none => tmpsOf o.op.operands.toList
      | some d => tmpsOf o.op.operands.toList ++ [d]

theorem looksL_eq (ops : Array Oper) (o : Oper) : looksL ops.toList o = o.looksAt ops := by
  unfold looksL Oper.looksAt
  rw [tmpsOf_eq]
  cases o.guard with
  | none => simp only [List.append_nil]; rfl
  | some p =>
    obtain ⟨g, b⟩ := p
    simp only [nthO_eq, Array.getElem?_toList]
    cases ops[g]? with
    | none => simp only [Option.bind_none, Option.toList_none, List.append_nil]; rfl
    | some o' =>
      cases h : o'.dst with
      | none => simp only [Option.bind_some, h, Option.toList_none, List.append_nil]; rfl
      | some d => simp only [Option.bind_some, h, Option.toList_some]; rfl

theorem beqN (a b : Nat) : Nat.beq a b = (a == b) := by
  by_cases h : a = b
  · subst h; simp
  · have h1 : Nat.beq a b = false := by
      cases hq : Nat.beq a b with
      | true => exact absurd (Nat.eq_of_beq_eq_true hq) h
      | false => rfl
    rw [h1]
    exact (beq_eq_false_iff_ne.2 h).symm

def inL (d : Nat) : List Nat → Bool
  | [] => false
  | x :: r => Nat.beq d x || inL d r

theorem inL_eq (d : Nat) : ∀ l : List Nat, inL d l = l.contains d
  | [] => rfl
  | x :: r => by simp only [inL, inL_eq d r, List.contains_cons, beqN]

def isD (d : Nat) : Option Nat → Bool
  | none => false
  | some x => Nat.beq d x

def apartL (ops : List Oper) (x y : Oper) : Bool :=
  (match x.dst with
   | some d => !(inL d (looksL ops y)) && !(isD d y.dst)
   | none => true) &&
  (match y.dst with
   | some d => !(inL d (looksL ops x))
   | none => true)

theorem apartL_eq (ops : Array Oper) (x y : Oper) : apartL ops.toList x y = x.apart ops y := by
  unfold apartL Oper.apart
  simp only [looksL_eq, inL_eq]
  have : ∀ d, (!(isD d y.dst)) = (y.dst != some d) := fun d => by
    cases hy : y.dst with
    | none => rfl
    | some e =>
      simp only [isD, beqN]
      by_cases h : d = e
      · subst h; simp
      · have h1 : (d == e) = false := beq_eq_false_iff_ne.2 h
        have h2 : (some e == some d) = false := by simp; exact fun h' => h h'.symm
        rw [h1]
        simp [bne, h2]
  simp only [this]
  cases x.dst <;> cases y.dst <;> rfl

def waitsOn (i : Nat) : List Edge → Bool
  | [] => false
  | e :: r => (bindsL e.ground && Nat.beq e.on i) || waitsOn i r

theorem waitsOn_eq (i : Nat) : ∀ l : List Edge, waitsOn i l = l.any fun e => Region.binds .any e && e.on == i
  | [] => rfl
  | e :: r => by simp only [waitsOn, List.any_cons, waitsOn_eq i r, bindsL_eq, beqN]

def freeGo (ops : List Oper) (i : Nat) (oi : Oper) : Nat → List Oper → List Bool → Bool
  | _, [], _ => true
  | _, _ :: _, [] => false
  | j, oj :: r, b :: l => (Nat.beq j i || b || waitsOn i oj.after.toList || apartL ops oi oj) && freeGo ops i oi (j + 1) r l

theorem freeGo_spec {ops : List Oper} {i : Nat} {oi : Oper} : ∀ {r : List Oper} {j : Nat} {l : List Bool}, freeGo ops i oi j r l = true → ∀ k ok, r[k]? = some ok →
    ((j + k == i) || l.toArray.getD k true || ok.after.any (fun e => Region.binds .any e && e.on == i) || apartL ops oi ok) = true
  | [], _, _, _, k, ok, hk => by simp at hk
  | o :: r, j, [], h, _, _, _ => by simp [freeGo] at h
  | o :: r, j, b :: l, h, 0, ok, hk => by
    simp only [List.getElem?_cons_zero, Option.some.injEq] at hk
    subst hk
    simp only [freeGo, Bool.and_eq_true, waitsOn_eq, Array.any_toList] at h
    simpa using h.1
  | o :: r, j, b :: l, h, k + 1, ok, hk => by
    simp only [freeGo, Bool.and_eq_true] at h
    have := freeGo_spec (j := j + 1) h.2 k ok (by simpa using hk)
    rw [show j + 1 + k = j + (k + 1) by omega] at this
    simpa using this

theorem free_of {ops : Array Oper} {i : Nat} {oi : Oper} {l : List Bool} (hi : ops[i]? = some oi) (h : freeGo ops.toList i oi 0 ops.toList l = true) : Region.free .any ops l.toArray i = true := by
  unfold Region.free
  simp only [hi, List.all_eq_true, List.mem_range]
  intro j hj
  have hg : ops[j]? = some ops[j] := Array.getElem?_eq_getElem hj
  have := freeGo_spec h j ops[j] (by simp)
  rw [hg]
  simp only [apartL_eq, Nat.zero_add] at this
  simpa [Bool.or_assoc] using this

def noSel : List Oper → Bool
  | [] => true
  | o :: r => match o.op with
    | .select .. => false
    | _ => noSel r

theorem noSel_eq {ops : Array Oper} (h : noSel ops.toList = true) : Region.noSelect ops = true := by
  have : ∀ l : List Oper, noSel l = true → ∀ o ∈ l, (match o.op with | .select .. => false | _ => true) = true := fun l => by
    induction l with
    | nil => intro _ o ho; cases ho
    | cons x r ih =>
      intro h o ho
      simp only [noSel] at h
      rcases List.mem_cons.1 ho with rfl | ho
      · split at h
        · cases h
        · rfl
      · split at h
        · cases h
        · exact ih h o ho
  unfold Region.noSelect
  rw [Array.all_eq_true_iff_forall_mem]
  intro o ho
  exact this _ h o (by simpa using ho)

end Go.Anv
