/- Part 3 of the texts of this claim, merged: T, M1, E8, E9, E9b, E10, E11, E12, E13, B1, B2, B3, S1. No condition: plain theorems, contracts of functions. -/
import Derived.Test.YtghcdkpgcanpgaaZ2
import Derived.Test.YtghcdkpgcanpgaaProg
import Derived.KernelRfl
import Derived.Defers
import Derived.Laws.Externs

/- The table of types of this seat, for the engine. Printed by gen_tbl.py; every row is proved here. No condition. -/
namespace Go.Proofs.Ytghcdkpgcanpgaa
open Go Go.Anv
set_option maxRecDepth 100000
/-- func() -/
def ti1 : TI := { d := .other, size := 1, bytes := 8, zero := .s .nilfunc }
theorem ti1_ok : TIok Try.prog 1 ti1 := ⟨⟨_, _, _, Try.underlying1⟩, by kernel_rfl, by kernel_rfl, ⟨_, rfl, by kernel_rfl⟩⟩
/-- int64 -/
def ti2 : TI := { d := .int .i64, size := 1, bytes := 8, zero := .s (.int .i64 0) }
theorem ti2_ok : TIok Try.prog 2 ti2 := ⟨Try.underlying2, by kernel_rfl, by kernel_rfl, ⟨_, rfl, by kernel_rfl⟩⟩
/-- int -/
def ti3 : TI := { d := .int .i64, size := 1, bytes := 8, zero := .s (.int .i64 0) }
theorem ti3_ok : TIok Try.prog 3 ti3 := ⟨Try.underlying3, by kernel_rfl, by kernel_rfl, ⟨_, rfl, by kernel_rfl⟩⟩
/-- bool -/
def ti4 : TI := { d := .bool, size := 1, bytes := 1, zero := .s (.bool false) }
theorem ti4_ok : TIok Try.prog 4 ti4 := ⟨Try.underlying4, by kernel_rfl, by kernel_rfl, ⟨_, rfl, by kernel_rfl⟩⟩
/-- uint8 -/
def ti5 : TI := { d := .int .u8, size := 1, bytes := 1, zero := .s (.int .u8 0) }
theorem ti5_ok : TIok Try.prog 5 ti5 := ⟨Try.underlying5, by kernel_rfl, by kernel_rfl, ⟨_, rfl, by kernel_rfl⟩⟩
/-- abi.BoundsErrorCode -/
def ti6 : TI := { d := .int .u8, size := 1, bytes := 1, zero := .s (.int .u8 0) }
theorem ti6_ok : TIok Try.prog 6 ti6 := ⟨Try.underlying6, by kernel_rfl, by kernel_rfl, ⟨_, rfl, by kernel_rfl⟩⟩
/-- struct { x int64; y int; signed bool; code abi.BoundsErrorCode } -/
def ti7 : TI := { d := .struct [(2, 0), (3, 1), (4, 2), (6, 3)], size := 4, bytes := 24, zero := .agg [.one (.int .i64 0), .one (.int .i64 0), .one (.bool false), .one (.int .u8 0)] }
theorem ti7_ok : TIok Try.prog 7 ti7 := ⟨⟨_, Try.underlying7, by rfl⟩, by kernel_rfl, by kernel_rfl, ⟨_, rfl, by kernel_rfl⟩⟩
/-- runtime.boundsError -/
def ti8 : TI := { d := .struct [(2, 0), (3, 1), (4, 2), (6, 3)], size := 4, bytes := 24, zero := .agg [.one (.int .i64 0), .one (.int .i64 0), .one (.bool false), .one (.int .u8 0)] }
theorem ti8_ok : TIok Try.prog 8 ti8 := ⟨⟨_, Try.underlying8, by rfl⟩, by kernel_rfl, by kernel_rfl, ⟨_, rfl, by kernel_rfl⟩⟩
/-- string -/
def ti9 : TI := { d := .str, size := 1, bytes := 16, zero := .s (.str .empty) }
theorem ti9_ok : TIok Try.prog 9 ti9 := ⟨Try.underlying9, by kernel_rfl, by kernel_rfl, ⟨_, rfl, by kernel_rfl⟩⟩
/-- runtime.errorString -/
def ti10 : TI := { d := .str, size := 1, bytes := 16, zero := .s (.str .empty) }
theorem ti10_ok : TIok Try.prog 10 ti10 := ⟨Try.underlying10, by kernel_rfl, by kernel_rfl, ⟨_, rfl, by kernel_rfl⟩⟩
/-- runtime.plainError -/
def ti11 : TI := { d := .str, size := 1, bytes := 16, zero := .s (.str .empty) }
theorem ti11_ok : TIok Try.prog 11 ti11 := ⟨Try.underlying11, by kernel_rfl, by kernel_rfl, ⟨_, rfl, by kernel_rfl⟩⟩
/-- uintptr -/
def ti12 : TI := { d := .int .u64, size := 1, bytes := 8, zero := .s (.int .u64 0) }
theorem ti12_ok : TIok Try.prog 12 ti12 := ⟨Try.underlying12, by kernel_rfl, by kernel_rfl, ⟨_, rfl, by kernel_rfl⟩⟩
/-- struct { msg string; addr uintptr } -/
def ti13 : TI := { d := .struct [(9, 0), (12, 1)], size := 2, bytes := 24, zero := .agg [.one (.str .empty), .one (.int .u64 0)] }
theorem ti13_ok : TIok Try.prog 13 ti13 := ⟨⟨_, Try.underlying13, by rfl⟩, by kernel_rfl, by kernel_rfl, ⟨_, rfl, by kernel_rfl⟩⟩
/-- runtime.errorAddressString -/
def ti14 : TI := { d := .struct [(9, 0), (12, 1)], size := 2, bytes := 24, zero := .agg [.one (.str .empty), .one (.int .u64 0)] }
theorem ti14_ok : TIok Try.prog 14 ti14 := ⟨⟨_, Try.underlying14, by rfl⟩, by kernel_rfl, by kernel_rfl, ⟨_, rfl, by kernel_rfl⟩⟩
/-- *runtime.TypeAssertionError -/
def ti15 : TI := { d := .ptr 202, size := 1, bytes := 8, zero := .s .nilptr }
theorem ti15_ok : TIok Try.prog 15 ti15 := ⟨Try.underlying15, by kernel_rfl, by kernel_rfl, ⟨_, rfl, by kernel_rfl⟩⟩
/-- *runtime.PanicNilError -/
def ti16 : TI := { d := .ptr 205, size := 1, bytes := 8, zero := .s .nilptr }
theorem ti16_ok : TIok Try.prog 16 ti16 := ⟨Try.underlying16, by kernel_rfl, by kernel_rfl, ⟨_, rfl, by kernel_rfl⟩⟩
/-- *abi.Type -/
def ti17 : TI := { d := .ptr 213, size := 1, bytes := 8, zero := .s .nilptr }
theorem ti17_ok : TIok Try.prog 17 ti17 := ⟨Try.underlying17, by kernel_rfl, by kernel_rfl, ⟨_, rfl, by kernel_rfl⟩⟩
/-- struct { typ *abi.Type } -/
def ti18 : TI := { d := .struct [(17, 0)], size := 1, bytes := 8, zero := .agg [.one .nilptr] }
theorem ti18_ok : TIok Try.prog 18 ti18 := ⟨⟨_, Try.underlying18, by rfl⟩, by kernel_rfl, by kernel_rfl, ⟨_, rfl, by kernel_rfl⟩⟩
/-- maps.unhashableTypeError -/
def ti19 : TI := { d := .struct [(17, 0)], size := 1, bytes := 8, zero := .agg [.one .nilptr] }
theorem ti19_ok : TIok Try.prog 19 ti19 := ⟨⟨_, Try.underlying19, by rfl⟩, by kernel_rfl, by kernel_rfl, ⟨_, rfl, by kernel_rfl⟩⟩
/-- interface {} -/
def ti20 : TI := { d := .iface, size := 1, bytes := 16, zero := .s .niliface }
theorem ti20_ok : TIok Try.prog 20 ti20 := ⟨⟨_, Try.underlying20⟩, by kernel_rfl, by kernel_rfl, ⟨_, rfl, by kernel_rfl⟩⟩
/-- int32 -/
def ti21 : TI := { d := .int .i32, size := 1, bytes := 4, zero := .s (.int .i32 0) }
theorem ti21_ok : TIok Try.prog 21 ti21 := ⟨Try.underlying21, by kernel_rfl, by kernel_rfl, ⟨_, rfl, by kernel_rfl⟩⟩
/-- func() bool -/
def ti22 : TI := { d := .other, size := 1, bytes := 8, zero := .s .nilfunc }
theorem ti22_ok : TIok Try.prog 22 ti22 := ⟨⟨_, _, _, Try.underlying22⟩, by kernel_rfl, by kernel_rfl, ⟨_, rfl, by kernel_rfl⟩⟩
/-- []uint8 -/
def ti23 : TI := { d := .slice 5, size := 1, bytes := 24, zero := .s .nilslice }
theorem ti23_ok : TIok Try.prog 23 ti23 := ⟨Try.underlying23, by kernel_rfl, by kernel_rfl, ⟨_, rfl, by kernel_rfl⟩⟩
/-- api.Errno -/
def ti24 : TI := { d := .int .i64, size := 1, bytes := 8, zero := .s (.int .i64 0) }
theorem ti24_ok : TIok Try.prog 24 ti24 := ⟨Try.underlying24, by kernel_rfl, by kernel_rfl, ⟨_, rfl, by kernel_rfl⟩⟩
/-- func([]uint8) ([]uint8, api.Errno) -/
def ti26 : TI := { d := .other, size := 1, bytes := 8, zero := .s .nilfunc }
theorem ti26_ok : TIok Try.prog 26 ti26 := ⟨⟨_, _, _, Try.underlying26⟩, by kernel_rfl, by kernel_rfl, ⟨_, rfl, by kernel_rfl⟩⟩
/-- func([]uint8) ([]uint8, int) -/
def ti28 : TI := { d := .other, size := 1, bytes := 8, zero := .s .nilfunc }
theorem ti28_ok : TIok Try.prog 28 ti28 := ⟨⟨_, _, _, Try.underlying28⟩, by kernel_rfl, by kernel_rfl, ⟨_, rfl, by kernel_rfl⟩⟩
/-- func([]uint8) bool -/
def ti29 : TI := { d := .other, size := 1, bytes := 8, zero := .s .nilfunc }
theorem ti29_ok : TIok Try.prog 29 ti29 := ⟨⟨_, _, _, Try.underlying29⟩, by kernel_rfl, by kernel_rfl, ⟨_, rfl, by kernel_rfl⟩⟩
/-- uint64 -/
def ti30 : TI := { d := .int .u64, size := 1, bytes := 8, zero := .s (.int .u64 0) }
theorem ti30_ok : TIok Try.prog 30 ti30 := ⟨Try.underlying30, by kernel_rfl, by kernel_rfl, ⟨_, rfl, by kernel_rfl⟩⟩
/-- [32]uint64 -/
def ti31 : TI := { d := .array 32 30, size := 32, bytes := 256, zero := .agg [.ints .u64 32 (fun _ => 0)] }
theorem ti31_ok : TIok Try.prog 31 ti31 := ⟨Try.underlying31, by kernel_rfl, by kernel_rfl, ⟨_, rfl, by kernel_rfl⟩⟩
/-- [16]uint8 -/
def ti32 : TI := { d := .array 16 5, size := 16, bytes := 16, zero := .agg [.ints .u8 16 (fun _ => 0)] }
theorem ti32_ok : TIok Try.prog 32 ti32 := ⟨Try.underlying32, by kernel_rfl, by kernel_rfl, ⟨_, rfl, by kernel_rfl⟩⟩
/-- [16]uint64 -/
def ti33 : TI := { d := .array 16 30, size := 16, bytes := 128, zero := .agg [.ints .u64 16 (fun _ => 0)] }
theorem ti33_ok : TIok Try.prog 33 ti33 := ⟨Try.underlying33, by kernel_rfl, by kernel_rfl, ⟨_, rfl, by kernel_rfl⟩⟩
/-- struct { Cfg [16]uint8; Addr [16]uint64 } -/
def ti34 : TI := { d := .struct [(32, 0), (33, 16)], size := 32, bytes := 144, zero := .agg [.ints .u8 16 (fun _ => 0), .ints .u64 16 (fun _ => 0)] }
theorem ti34_ok : TIok Try.prog 34 ti34 := ⟨⟨_, Try.underlying34, by rfl⟩, by kernel_rfl, by kernel_rfl, ⟨_, rfl, by kernel_rfl⟩⟩
/-- api.Pmp -/
def ti35 : TI := { d := .struct [(32, 0), (33, 16)], size := 32, bytes := 144, zero := .agg [.ints .u8 16 (fun _ => 0), .ints .u64 16 (fun _ => 0)] }
theorem ti35_ok : TIok Try.prog 35 ti35 := ⟨⟨_, Try.underlying35, by rfl⟩, by kernel_rfl, by kernel_rfl, ⟨_, rfl, by kernel_rfl⟩⟩
/-- struct { Valid bool; Addr uint64; Size int } -/
def ti36 : TI := { d := .struct [(4, 0), (30, 1), (3, 2)], size := 3, bytes := 24, zero := .agg [.one (.bool false), .one (.int .u64 0), .one (.int .i64 0)] }
theorem ti36_ok : TIok Try.prog 36 ti36 := ⟨⟨_, Try.underlying36, by rfl⟩, by kernel_rfl, by kernel_rfl, ⟨_, rfl, by kernel_rfl⟩⟩
/-- api.Res -/
def ti37 : TI := { d := .struct [(4, 0), (30, 1), (3, 2)], size := 3, bytes := 24, zero := .agg [.one (.bool false), .one (.int .u64 0), .one (.int .i64 0)] }
theorem ti37_ok : TIok Try.prog 37 ti37 := ⟨⟨_, Try.underlying37, by rfl⟩, by kernel_rfl, by kernel_rfl, ⟨_, rfl, by kernel_rfl⟩⟩
/-- struct { Pc uint64; X [32]uint64; Mode int; Waiting bool; Mstatus uint64; Mtvec uint64; Mie uint64; Mcounteren uint64; Mcountinhibit uint64; Menvcfg uint64; Mscratch uint64; Mepc uint64; Mcause uint64; Mtval uint64; Mcycle uint64; Minstret uint64; Pmp api.Pmp; Res api.Res } -/
def ti38 : TI := { d := .struct [(30, 0), (31, 1), (3, 33), (4, 34), (30, 35), (30, 36), (30, 37), (30, 38), (30, 39), (30, 40), (30, 41), (30, 42), (30, 43), (30, 44), (30, 45), (30, 46), (35, 47), (37, 79)], size := 82, bytes := 544, zero := .agg [.one (.int .u64 0), .ints .u64 32 (fun _ => 0), .one (.int .i64 0), .one (.bool false), .one (.int .u64 0), .one (.int .u64 0), .one (.int .u64 0), .one (.int .u64 0), .one (.int .u64 0), .one (.int .u64 0), .one (.int .u64 0), .one (.int .u64 0), .one (.int .u64 0), .one (.int .u64 0), .one (.int .u64 0), .one (.int .u64 0), .ints .u8 16 (fun _ => 0), .ints .u64 16 (fun _ => 0), .one (.bool false), .one (.int .u64 0), .one (.int .i64 0)] }
theorem ti38_ok : TIok Try.prog 38 ti38 := ⟨⟨_, Try.underlying38, by rfl⟩, by kernel_rfl, by kernel_rfl, ⟨_, rfl, by kernel_rfl⟩⟩
/-- api.Cpu -/
def ti39 : TI := { d := .struct [(30, 0), (31, 1), (3, 33), (4, 34), (30, 35), (30, 36), (30, 37), (30, 38), (30, 39), (30, 40), (30, 41), (30, 42), (30, 43), (30, 44), (30, 45), (30, 46), (35, 47), (37, 79)], size := 82, bytes := 544, zero := .agg [.one (.int .u64 0), .ints .u64 32 (fun _ => 0), .one (.int .i64 0), .one (.bool false), .one (.int .u64 0), .one (.int .u64 0), .one (.int .u64 0), .one (.int .u64 0), .one (.int .u64 0), .one (.int .u64 0), .one (.int .u64 0), .one (.int .u64 0), .one (.int .u64 0), .one (.int .u64 0), .one (.int .u64 0), .one (.int .u64 0), .ints .u8 16 (fun _ => 0), .ints .u64 16 (fun _ => 0), .one (.bool false), .one (.int .u64 0), .one (.int .i64 0)] }
theorem ti39_ok : TIok Try.prog 39 ti39 := ⟨⟨_, Try.underlying39, by rfl⟩, by kernel_rfl, by kernel_rfl, ⟨_, rfl, by kernel_rfl⟩⟩
/-- uint32 -/
def ti40 : TI := { d := .int .u32, size := 1, bytes := 4, zero := .s (.int .u32 0) }
theorem ti40_ok : TIok Try.prog 40 ti40 := ⟨Try.underlying40, by kernel_rfl, by kernel_rfl, ⟨_, rfl, by kernel_rfl⟩⟩
/-- struct { Ram []uint8; Msip uint32; Mtimecmp uint64; Mtime uint64; Ext bool; Soft bool; Ier uint8; Lcr uint8; Mcr uint8; Scratch uint8; Overrun bool; Input []uint8; Output []uint8; Off int; Code int } -/
def ti41 : TI := { d := .struct [(23, 0), (40, 1), (30, 2), (30, 3), (4, 4), (4, 5), (5, 6), (5, 7), (5, 8), (5, 9), (4, 10), (23, 11), (23, 12), (3, 13), (3, 14)], size := 15, bytes := 120, zero := .agg [.one .nilslice, .one (.int .u32 0), .one (.int .u64 0), .one (.int .u64 0), .one (.bool false), .one (.bool false), .one (.int .u8 0), .one (.int .u8 0), .one (.int .u8 0), .one (.int .u8 0), .one (.bool false), .one .nilslice, .one .nilslice, .one (.int .i64 0), .one (.int .i64 0)] }
theorem ti41_ok : TIok Try.prog 41 ti41 := ⟨⟨_, Try.underlying41, by rfl⟩, by kernel_rfl, by kernel_rfl, ⟨_, rfl, by kernel_rfl⟩⟩
/-- api.Bus -/
def ti42 : TI := { d := .struct [(23, 0), (40, 1), (30, 2), (30, 3), (4, 4), (4, 5), (5, 6), (5, 7), (5, 8), (5, 9), (4, 10), (23, 11), (23, 12), (3, 13), (3, 14)], size := 15, bytes := 120, zero := .agg [.one .nilslice, .one (.int .u32 0), .one (.int .u64 0), .one (.int .u64 0), .one (.bool false), .one (.bool false), .one (.int .u8 0), .one (.int .u8 0), .one (.int .u8 0), .one (.int .u8 0), .one (.bool false), .one .nilslice, .one .nilslice, .one (.int .i64 0), .one (.int .i64 0)] }
theorem ti42_ok : TIok Try.prog 42 ti42 := ⟨⟨_, Try.underlying42, by rfl⟩, by kernel_rfl, by kernel_rfl, ⟨_, rfl, by kernel_rfl⟩⟩
/-- struct { Cpu api.Cpu; Bus api.Bus } -/
def ti43 : TI := { d := .struct [(39, 0), (42, 82)], size := 97, bytes := 664, zero := .agg [.one (.int .u64 0), .ints .u64 32 (fun _ => 0), .one (.int .i64 0), .one (.bool false), .one (.int .u64 0), .one (.int .u64 0), .one (.int .u64 0), .one (.int .u64 0), .one (.int .u64 0), .one (.int .u64 0), .one (.int .u64 0), .one (.int .u64 0), .one (.int .u64 0), .one (.int .u64 0), .one (.int .u64 0), .one (.int .u64 0), .ints .u8 16 (fun _ => 0), .ints .u64 16 (fun _ => 0), .one (.bool false), .one (.int .u64 0), .one (.int .i64 0), .one .nilslice, .one (.int .u32 0), .one (.int .u64 0), .one (.int .u64 0), .one (.bool false), .one (.bool false), .one (.int .u8 0), .one (.int .u8 0), .one (.int .u8 0), .one (.int .u8 0), .one (.bool false), .one .nilslice, .one .nilslice, .one (.int .i64 0), .one (.int .i64 0)] }
theorem ti43_ok : TIok Try.prog 43 ti43 := ⟨⟨_, Try.underlying43, by rfl⟩, by kernel_rfl, by kernel_rfl, ⟨_, rfl, by kernel_rfl⟩⟩
/-- api.Whole -/
def ti44 : TI := { d := .struct [(39, 0), (42, 82)], size := 97, bytes := 664, zero := .agg [.one (.int .u64 0), .ints .u64 32 (fun _ => 0), .one (.int .i64 0), .one (.bool false), .one (.int .u64 0), .one (.int .u64 0), .one (.int .u64 0), .one (.int .u64 0), .one (.int .u64 0), .one (.int .u64 0), .one (.int .u64 0), .one (.int .u64 0), .one (.int .u64 0), .one (.int .u64 0), .one (.int .u64 0), .one (.int .u64 0), .ints .u8 16 (fun _ => 0), .ints .u64 16 (fun _ => 0), .one (.bool false), .one (.int .u64 0), .one (.int .i64 0), .one .nilslice, .one (.int .u32 0), .one (.int .u64 0), .one (.int .u64 0), .one (.bool false), .one (.bool false), .one (.int .u8 0), .one (.int .u8 0), .one (.int .u8 0), .one (.int .u8 0), .one (.bool false), .one .nilslice, .one .nilslice, .one (.int .i64 0), .one (.int .i64 0)] }
theorem ti44_ok : TIok Try.prog 44 ti44 := ⟨⟨_, Try.underlying44, by rfl⟩, by kernel_rfl, by kernel_rfl, ⟨_, rfl, by kernel_rfl⟩⟩
/-- func(api.Errno) int -/
def ti45 : TI := { d := .other, size := 1, bytes := 8, zero := .s .nilfunc }
theorem ti45_ok : TIok Try.prog 45 ti45 := ⟨⟨_, _, _, Try.underlying45⟩, by kernel_rfl, by kernel_rfl, ⟨_, rfl, by kernel_rfl⟩⟩
/-- func(api.Whole) api.Errno -/
def ti46 : TI := { d := .other, size := 1, bytes := 8, zero := .s .nilfunc }
theorem ti46_ok : TIok Try.prog 46 ti46 := ⟨⟨_, _, _, Try.underlying46⟩, by kernel_rfl, by kernel_rfl, ⟨_, rfl, by kernel_rfl⟩⟩
/-- func(api.Whole) api.Whole -/
def ti47 : TI := { d := .other, size := 1, bytes := 8, zero := .s .nilfunc }
theorem ti47_ok : TIok Try.prog 47 ti47 := ⟨⟨_, _, _, Try.underlying47⟩, by kernel_rfl, by kernel_rfl, ⟨_, rfl, by kernel_rfl⟩⟩
/-- func(api.Whole) int -/
def ti48 : TI := { d := .other, size := 1, bytes := 8, zero := .s .nilfunc }
theorem ti48_ok : TIok Try.prog 48 ti48 := ⟨⟨_, _, _, Try.underlying48⟩, by kernel_rfl, by kernel_rfl, ⟨_, rfl, by kernel_rfl⟩⟩
/-- func(api.Whole) bool -/
def ti49 : TI := { d := .other, size := 1, bytes := 8, zero := .s .nilfunc }
theorem ti49_ok : TIok Try.prog 49 ti49 := ⟨⟨_, _, _, Try.underlying49⟩, by kernel_rfl, by kernel_rfl, ⟨_, rfl, by kernel_rfl⟩⟩
/-- func([]uint8) []uint8 -/
def ti50 : TI := { d := .other, size := 1, bytes := 8, zero := .s .nilfunc }
theorem ti50_ok : TIok Try.prog 50 ti50 := ⟨⟨_, _, _, Try.underlying50⟩, by kernel_rfl, by kernel_rfl, ⟨_, rfl, by kernel_rfl⟩⟩
/-- func(api.Whole) ([]uint8, api.Errno) -/
def ti51 : TI := { d := .other, size := 1, bytes := 8, zero := .s .nilfunc }
theorem ti51_ok : TIok Try.prog 51 ti51 := ⟨⟨_, _, _, Try.underlying51⟩, by kernel_rfl, by kernel_rfl, ⟨_, rfl, by kernel_rfl⟩⟩
/-- func(api.Whole) ([]uint8, int) -/
def ti52 : TI := { d := .other, size := 1, bytes := 8, zero := .s .nilfunc }
theorem ti52_ok : TIok Try.prog 52 ti52 := ⟨⟨_, _, _, Try.underlying52⟩, by kernel_rfl, by kernel_rfl, ⟨_, rfl, by kernel_rfl⟩⟩
/-- func([]uint8, []uint8) bool -/
def ti53 : TI := { d := .other, size := 1, bytes := 8, zero := .s .nilfunc }
theorem ti53_ok : TIok Try.prog 53 ti53 := ⟨⟨_, _, _, Try.underlying53⟩, by kernel_rfl, by kernel_rfl, ⟨_, rfl, by kernel_rfl⟩⟩
/-- func(api.Whole, api.Whole) bool -/
def ti54 : TI := { d := .other, size := 1, bytes := 8, zero := .s .nilfunc }
theorem ti54_ok : TIok Try.prog 54 ti54 := ⟨⟨_, _, _, Try.underlying54⟩, by kernel_rfl, by kernel_rfl, ⟨_, rfl, by kernel_rfl⟩⟩
/-- func([]uint8) (api.Whole, api.Errno) -/
def ti56 : TI := { d := .other, size := 1, bytes := 8, zero := .s .nilfunc }
theorem ti56_ok : TIok Try.prog 56 ti56 := ⟨⟨_, _, _, Try.underlying56⟩, by kernel_rfl, by kernel_rfl, ⟨_, rfl, by kernel_rfl⟩⟩
/-- func([]uint8) (api.Whole, int) -/
def ti58 : TI := { d := .other, size := 1, bytes := 8, zero := .s .nilfunc }
theorem ti58_ok : TIok Try.prog 58 ti58 := ⟨⟨_, _, _, Try.underlying58⟩, by kernel_rfl, by kernel_rfl, ⟨_, rfl, by kernel_rfl⟩⟩
/-- []api.Row -/
def ti59 : TI := { d := .slice 102, size := 1, bytes := 24, zero := .s .nilslice }
theorem ti59_ok : TIok Try.prog 59 ti59 := ⟨Try.underlying59, by kernel_rfl, by kernel_rfl, ⟨_, rfl, by kernel_rfl⟩⟩
/-- struct { Rows []api.Row; Cpu api.Cpu; Off int; Code int; Output []uint8 } -/
def ti60 : TI := { d := .struct [(59, 0), (39, 1), (3, 83), (3, 84), (23, 85)], size := 86, bytes := 608, zero := .agg [.one .nilslice, .one (.int .u64 0), .ints .u64 32 (fun _ => 0), .one (.int .i64 0), .one (.bool false), .one (.int .u64 0), .one (.int .u64 0), .one (.int .u64 0), .one (.int .u64 0), .one (.int .u64 0), .one (.int .u64 0), .one (.int .u64 0), .one (.int .u64 0), .one (.int .u64 0), .one (.int .u64 0), .one (.int .u64 0), .one (.int .u64 0), .ints .u8 16 (fun _ => 0), .ints .u64 16 (fun _ => 0), .one (.bool false), .one (.int .u64 0), .one (.int .i64 0), .one (.int .i64 0), .one (.int .i64 0), .one .nilslice] }
theorem ti60_ok : TIok Try.prog 60 ti60 := ⟨⟨_, Try.underlying60, by rfl⟩, by kernel_rfl, by kernel_rfl, ⟨_, rfl, by kernel_rfl⟩⟩
/-- api.Trace -/
def ti61 : TI := { d := .struct [(59, 0), (39, 1), (3, 83), (3, 84), (23, 85)], size := 86, bytes := 608, zero := .agg [.one .nilslice, .one (.int .u64 0), .ints .u64 32 (fun _ => 0), .one (.int .i64 0), .one (.bool false), .one (.int .u64 0), .one (.int .u64 0), .one (.int .u64 0), .one (.int .u64 0), .one (.int .u64 0), .one (.int .u64 0), .one (.int .u64 0), .one (.int .u64 0), .one (.int .u64 0), .one (.int .u64 0), .one (.int .u64 0), .one (.int .u64 0), .ints .u8 16 (fun _ => 0), .ints .u64 16 (fun _ => 0), .one (.bool false), .one (.int .u64 0), .one (.int .i64 0), .one (.int .i64 0), .one (.int .i64 0), .one .nilslice] }
theorem ti61_ok : TIok Try.prog 61 ti61 := ⟨⟨_, Try.underlying61, by rfl⟩, by kernel_rfl, by kernel_rfl, ⟨_, rfl, by kernel_rfl⟩⟩
/-- func(api.Trace) api.Trace -/
def ti62 : TI := { d := .other, size := 1, bytes := 8, zero := .s .nilfunc }
theorem ti62_ok : TIok Try.prog 62 ti62 := ⟨⟨_, _, _, Try.underlying62⟩, by kernel_rfl, by kernel_rfl, ⟨_, rfl, by kernel_rfl⟩⟩
/-- func(api.Trace) (int, int) -/
def ti64 : TI := { d := .other, size := 1, bytes := 8, zero := .s .nilfunc }
theorem ti64_ok : TIok Try.prog 64 ti64 := ⟨⟨_, _, _, Try.underlying64⟩, by kernel_rfl, by kernel_rfl, ⟨_, rfl, by kernel_rfl⟩⟩
/-- func(api.Trace, api.Trace) bool -/
def ti65 : TI := { d := .other, size := 1, bytes := 8, zero := .s .nilfunc }
theorem ti65_ok : TIok Try.prog 65 ti65 := ⟨⟨_, _, _, Try.underlying65⟩, by kernel_rfl, by kernel_rfl, ⟨_, rfl, by kernel_rfl⟩⟩
/-- func(api.Trace) bool -/
def ti66 : TI := { d := .other, size := 1, bytes := 8, zero := .s .nilfunc }
theorem ti66_ok : TIok Try.prog 66 ti66 := ⟨⟨_, _, _, Try.underlying66⟩, by kernel_rfl, by kernel_rfl, ⟨_, rfl, by kernel_rfl⟩⟩
/-- func([]uint8, uint8) int -/
def ti67 : TI := { d := .other, size := 1, bytes := 8, zero := .s .nilfunc }
theorem ti67_ok : TIok Try.prog 67 ti67 := ⟨⟨_, _, _, Try.underlying67⟩, by kernel_rfl, by kernel_rfl, ⟨_, rfl, by kernel_rfl⟩⟩
/-- func([]uint8) uint8 -/
def ti68 : TI := { d := .other, size := 1, bytes := 8, zero := .s .nilfunc }
theorem ti68_ok : TIok Try.prog 68 ti68 := ⟨⟨_, _, _, Try.underlying68⟩, by kernel_rfl, by kernel_rfl, ⟨_, rfl, by kernel_rfl⟩⟩
/-- uint -/
def ti69 : TI := { d := .int .u64, size := 1, bytes := 8, zero := .s (.int .u64 0) }
theorem ti69_ok : TIok Try.prog 69 ti69 := ⟨Try.underlying69, by kernel_rfl, by kernel_rfl, ⟨_, rfl, by kernel_rfl⟩⟩
/-- *bus.Bus -/
def ti70 : TI := { d := .ptr 132, size := 1, bytes := 8, zero := .s .nilptr }
theorem ti70_ok : TIok Try.prog 70 ti70 := ⟨Try.underlying70, by kernel_rfl, by kernel_rfl, ⟨_, rfl, by kernel_rfl⟩⟩
/-- func(api.Bus) (*bus.Bus, api.Errno) -/
def ti72 : TI := { d := .other, size := 1, bytes := 8, zero := .s .nilfunc }
theorem ti72_ok : TIok Try.prog 72 ti72 := ⟨⟨_, _, _, Try.underlying72⟩, by kernel_rfl, by kernel_rfl, ⟨_, rfl, by kernel_rfl⟩⟩
/-- func(api.Bus) bool -/
def ti73 : TI := { d := .other, size := 1, bytes := 8, zero := .s .nilfunc }
theorem ti73_ok : TIok Try.prog 73 ti73 := ⟨⟨_, _, _, Try.underlying73⟩, by kernel_rfl, by kernel_rfl, ⟨_, rfl, by kernel_rfl⟩⟩
/-- func(api.Cpu) api.Cpu -/
def ti74 : TI := { d := .other, size := 1, bytes := 8, zero := .s .nilfunc }
theorem ti74_ok : TIok Try.prog 74 ti74 := ⟨⟨_, _, _, Try.underlying74⟩, by kernel_rfl, by kernel_rfl, ⟨_, rfl, by kernel_rfl⟩⟩
/-- *save.writer -/
def ti75 : TI := { d := .ptr 77, size := 1, bytes := 8, zero := .s .nilptr }
theorem ti75_ok : TIok Try.prog 75 ti75 := ⟨Try.underlying75, by kernel_rfl, by kernel_rfl, ⟨_, rfl, by kernel_rfl⟩⟩
/-- struct { b []uint8 } -/
def ti76 : TI := { d := .struct [(23, 0)], size := 1, bytes := 24, zero := .agg [.one .nilslice] }
theorem ti76_ok : TIok Try.prog 76 ti76 := ⟨⟨_, Try.underlying76, by rfl⟩, by kernel_rfl, by kernel_rfl, ⟨_, rfl, by kernel_rfl⟩⟩
/-- save.writer -/
def ti77 : TI := { d := .struct [(23, 0)], size := 1, bytes := 24, zero := .agg [.one .nilslice] }
theorem ti77_ok : TIok Try.prog 77 ti77 := ⟨⟨_, Try.underlying77, by rfl⟩, by kernel_rfl, by kernel_rfl, ⟨_, rfl, by kernel_rfl⟩⟩
/-- func([]uint8) -/
def ti78 : TI := { d := .other, size := 1, bytes := 8, zero := .s .nilfunc }
theorem ti78_ok : TIok Try.prog 78 ti78 := ⟨⟨_, _, _, Try.underlying78⟩, by kernel_rfl, by kernel_rfl, ⟨_, rfl, by kernel_rfl⟩⟩
/-- func(save.line, *api.Whole) -/
def ti79 : TI := { d := .other, size := 1, bytes := 8, zero := .s .nilfunc }
theorem ti79_ok : TIok Try.prog 79 ti79 := ⟨⟨_, _, _, Try.underlying79⟩, by kernel_rfl, by kernel_rfl, ⟨_, rfl, by kernel_rfl⟩⟩
/-- *api.Whole -/
def ti80 : TI := { d := .ptr 44, size := 1, bytes := 8, zero := .s .nilptr }
theorem ti80_ok : TIok Try.prog 80 ti80 := ⟨Try.underlying80, by kernel_rfl, by kernel_rfl, ⟨_, rfl, by kernel_rfl⟩⟩
/-- func(uint64, int) -/
def ti81 : TI := { d := .other, size := 1, bytes := 8, zero := .s .nilfunc }
theorem ti81_ok : TIok Try.prog 81 ti81 := ⟨⟨_, _, _, Try.underlying81⟩, by kernel_rfl, by kernel_rfl, ⟨_, rfl, by kernel_rfl⟩⟩
/-- func([]uint8) uint32 -/
def ti82 : TI := { d := .other, size := 1, bytes := 8, zero := .s .nilfunc }
theorem ti82_ok : TIok Try.prog 82 ti82 := ⟨⟨_, _, _, Try.underlying82⟩, by kernel_rfl, by kernel_rfl, ⟨_, rfl, by kernel_rfl⟩⟩
/-- func() []uint8 -/
def ti83 : TI := { d := .other, size := 1, bytes := 8, zero := .s .nilfunc }
theorem ti83_ok : TIok Try.prog 83 ti83 := ⟨⟨_, _, _, Try.underlying83⟩, by kernel_rfl, by kernel_rfl, ⟨_, rfl, by kernel_rfl⟩⟩
/-- func([]uint8, api.Cpu) []uint8 -/
def ti84 : TI := { d := .other, size := 1, bytes := 8, zero := .s .nilfunc }
theorem ti84_ok : TIok Try.prog 84 ti84 := ⟨⟨_, _, _, Try.underlying84⟩, by kernel_rfl, by kernel_rfl, ⟨_, rfl, by kernel_rfl⟩⟩
/-- func([]uint8, api.Bus) []uint8 -/
def ti85 : TI := { d := .other, size := 1, bytes := 8, zero := .s .nilfunc }
theorem ti85_ok : TIok Try.prog 85 ti85 := ⟨⟨_, _, _, Try.underlying85⟩, by kernel_rfl, by kernel_rfl, ⟨_, rfl, by kernel_rfl⟩⟩
/-- func([]uint8, []uint8) []uint8 -/
def ti86 : TI := { d := .other, size := 1, bytes := 8, zero := .s .nilfunc }
theorem ti86_ok : TIok Try.prog 86 ti86 := ⟨⟨_, _, _, Try.underlying86⟩, by kernel_rfl, by kernel_rfl, ⟨_, rfl, by kernel_rfl⟩⟩
/-- func([]uint8, uint64, int) []uint8 -/
def ti87 : TI := { d := .other, size := 1, bytes := 8, zero := .s .nilfunc }
theorem ti87_ok : TIok Try.prog 87 ti87 := ⟨⟨_, _, _, Try.underlying87⟩, by kernel_rfl, by kernel_rfl, ⟨_, rfl, by kernel_rfl⟩⟩
/-- func(api.Bus, api.Bus) bool -/
def ti88 : TI := { d := .other, size := 1, bytes := 8, zero := .s .nilfunc }
theorem ti88_ok : TIok Try.prog 88 ti88 := ⟨⟨_, _, _, Try.underlying88⟩, by kernel_rfl, by kernel_rfl, ⟨_, rfl, by kernel_rfl⟩⟩
/-- *save.reader -/
def ti89 : TI := { d := .ptr 91, size := 1, bytes := 8, zero := .s .nilptr }
theorem ti89_ok : TIok Try.prog 89 ti89 := ⟨Try.underlying89, by kernel_rfl, by kernel_rfl, ⟨_, rfl, by kernel_rfl⟩⟩
/-- struct { b []uint8; bad bool } -/
def ti90 : TI := { d := .struct [(23, 0), (4, 1)], size := 2, bytes := 32, zero := .agg [.one .nilslice, .one (.bool false)] }
theorem ti90_ok : TIok Try.prog 90 ti90 := ⟨⟨_, Try.underlying90, by rfl⟩, by kernel_rfl, by kernel_rfl, ⟨_, rfl, by kernel_rfl⟩⟩
/-- save.reader -/
def ti91 : TI := { d := .struct [(23, 0), (4, 1)], size := 2, bytes := 32, zero := .agg [.one .nilslice, .one (.bool false)] }
theorem ti91_ok : TIok Try.prog 91 ti91 := ⟨⟨_, Try.underlying91, by rfl⟩, by kernel_rfl, by kernel_rfl, ⟨_, rfl, by kernel_rfl⟩⟩
/-- func(int) uint64 -/
def ti92 : TI := { d := .other, size := 1, bytes := 8, zero := .s .nilfunc }
theorem ti92_ok : TIok Try.prog 92 ti92 := ⟨⟨_, _, _, Try.underlying92⟩, by kernel_rfl, by kernel_rfl, ⟨_, rfl, by kernel_rfl⟩⟩
/-- *anvilref16.Reader -/
def ti93 : TI := { d := .ptr 95, size := 1, bytes := 8, zero := .s .nilptr }
theorem ti93_ok : TIok Try.prog 93 ti93 := ⟨Try.underlying93, by kernel_rfl, by kernel_rfl, ⟨_, rfl, by kernel_rfl⟩⟩
/-- struct { B []uint8; At int; Bad bool } -/
def ti94 : TI := { d := .struct [(23, 0), (3, 1), (4, 2)], size := 3, bytes := 40, zero := .agg [.one .nilslice, .one (.int .i64 0), .one (.bool false)] }
theorem ti94_ok : TIok Try.prog 94 ti94 := ⟨⟨_, Try.underlying94, by rfl⟩, by kernel_rfl, by kernel_rfl, ⟨_, rfl, by kernel_rfl⟩⟩
/-- anvilref16.Reader -/
def ti95 : TI := { d := .struct [(23, 0), (3, 1), (4, 2)], size := 3, bytes := 40, zero := .agg [.one .nilslice, .one (.int .i64 0), .one (.bool false)] }
theorem ti95_ok : TIok Try.prog 95 ti95 := ⟨⟨_, Try.underlying95, by rfl⟩, by kernel_rfl, by kernel_rfl, ⟨_, rfl, by kernel_rfl⟩⟩
/-- func() api.Cpu -/
def ti96 : TI := { d := .other, size := 1, bytes := 8, zero := .s .nilfunc }
theorem ti96_ok : TIok Try.prog 96 ti96 := ⟨⟨_, _, _, Try.underlying96⟩, by kernel_rfl, by kernel_rfl, ⟨_, rfl, by kernel_rfl⟩⟩
/-- func() api.Bus -/
def ti97 : TI := { d := .other, size := 1, bytes := 8, zero := .s .nilfunc }
theorem ti97_ok : TIok Try.prog 97 ti97 := ⟨⟨_, _, _, Try.underlying97⟩, by kernel_rfl, by kernel_rfl, ⟨_, rfl, by kernel_rfl⟩⟩
/-- func(api.Bus) api.Bus -/
def ti98 : TI := { d := .other, size := 1, bytes := 8, zero := .s .nilfunc }
theorem ti98_ok : TIok Try.prog 98 ti98 := ⟨⟨_, _, _, Try.underlying98⟩, by kernel_rfl, by kernel_rfl, ⟨_, rfl, by kernel_rfl⟩⟩
/-- func(api.Pmp, uint64, int) bool -/
def ti99 : TI := { d := .other, size := 1, bytes := 8, zero := .s .nilfunc }
theorem ti99_ok : TIok Try.prog 99 ti99 := ⟨⟨_, _, _, Try.underlying99⟩, by kernel_rfl, by kernel_rfl, ⟨_, rfl, by kernel_rfl⟩⟩
/-- func() api.Whole -/
def ti100 : TI := { d := .other, size := 1, bytes := 8, zero := .s .nilfunc }
theorem ti100_ok : TIok Try.prog 100 ti100 := ⟨⟨_, _, _, Try.underlying100⟩, by kernel_rfl, by kernel_rfl, ⟨_, rfl, by kernel_rfl⟩⟩
/-- struct { Step int; Kind int; Mode int; Pc uint64; Raw uint32; Len int; Cause uint64; Tval uint64; Rd int; Val uint64; Mem int; Addr uint64; Size int; Data uint64; Next uint64; NextMode int } -/
def ti101 : TI := { d := .struct [(3, 0), (3, 1), (3, 2), (30, 3), (40, 4), (3, 5), (30, 6), (30, 7), (3, 8), (30, 9), (3, 10), (30, 11), (3, 12), (30, 13), (30, 14), (3, 15)], size := 16, bytes := 128, zero := .agg [.one (.int .i64 0), .one (.int .i64 0), .one (.int .i64 0), .one (.int .u64 0), .one (.int .u32 0), .one (.int .i64 0), .one (.int .u64 0), .one (.int .u64 0), .one (.int .i64 0), .one (.int .u64 0), .one (.int .i64 0), .one (.int .u64 0), .one (.int .i64 0), .one (.int .u64 0), .one (.int .u64 0), .one (.int .i64 0)] }
theorem ti101_ok : TIok Try.prog 101 ti101 := ⟨⟨_, Try.underlying101, by rfl⟩, by kernel_rfl, by kernel_rfl, ⟨_, rfl, by kernel_rfl⟩⟩
/-- api.Row -/
def ti102 : TI := { d := .struct [(3, 0), (3, 1), (3, 2), (30, 3), (40, 4), (3, 5), (30, 6), (30, 7), (3, 8), (30, 9), (3, 10), (30, 11), (3, 12), (30, 13), (30, 14), (3, 15)], size := 16, bytes := 128, zero := .agg [.one (.int .i64 0), .one (.int .i64 0), .one (.int .i64 0), .one (.int .u64 0), .one (.int .u32 0), .one (.int .i64 0), .one (.int .u64 0), .one (.int .u64 0), .one (.int .i64 0), .one (.int .u64 0), .one (.int .i64 0), .one (.int .u64 0), .one (.int .i64 0), .one (.int .u64 0), .one (.int .u64 0), .one (.int .i64 0)] }
theorem ti102_ok : TIok Try.prog 102 ti102 := ⟨⟨_, Try.underlying102, by rfl⟩, by kernel_rfl, by kernel_rfl, ⟨_, rfl, by kernel_rfl⟩⟩
/-- func(api.Whole, api.Whole, api.World, api.Row) int -/
def ti103 : TI := { d := .other, size := 1, bytes := 8, zero := .s .nilfunc }
theorem ti103_ok : TIok Try.prog 103 ti103 := ⟨⟨_, _, _, Try.underlying103⟩, by kernel_rfl, by kernel_rfl, ⟨_, rfl, by kernel_rfl⟩⟩
/-- struct { Tick bool; Ext bool; Soft bool; Input []uint8 } -/
def ti104 : TI := { d := .struct [(4, 0), (4, 1), (4, 2), (23, 3)], size := 4, bytes := 32, zero := .agg [.one (.bool false), .one (.bool false), .one (.bool false), .one .nilslice] }
theorem ti104_ok : TIok Try.prog 104 ti104 := ⟨⟨_, Try.underlying104, by rfl⟩, by kernel_rfl, by kernel_rfl, ⟨_, rfl, by kernel_rfl⟩⟩
/-- api.World -/
def ti105 : TI := { d := .struct [(4, 0), (4, 1), (4, 2), (23, 3)], size := 4, bytes := 32, zero := .agg [.one (.bool false), .one (.bool false), .one (.bool false), .one .nilslice] }
theorem ti105_ok : TIok Try.prog 105 ti105 := ⟨⟨_, Try.underlying105, by rfl⟩, by kernel_rfl, by kernel_rfl, ⟨_, rfl, by kernel_rfl⟩⟩
/-- *watch.walk -/
def ti106 : TI := { d := .ptr 109, size := 1, bytes := 8, zero := .s .nilptr }
theorem ti106_ok : TIok Try.prog 106 ti106 := ⟨Try.underlying106, by kernel_rfl, by kernel_rfl, ⟨_, rfl, by kernel_rfl⟩⟩
/-- map[int]int -/
def ti107 : TI := { d := .map 3 3, size := 1, bytes := 8, zero := .s .nilmap }
theorem ti107_ok : TIok Try.prog 107 ti107 := ⟨Try.underlying107, by kernel_rfl, by kernel_rfl, ⟨_, rfl, by kernel_rfl⟩⟩
/-- struct { t api.Trace; seen map[int]int } -/
def ti108 : TI := { d := .struct [(61, 0), (107, 86)], size := 87, bytes := 616, zero := .agg [.one .nilslice, .one (.int .u64 0), .ints .u64 32 (fun _ => 0), .one (.int .i64 0), .one (.bool false), .one (.int .u64 0), .one (.int .u64 0), .one (.int .u64 0), .one (.int .u64 0), .one (.int .u64 0), .one (.int .u64 0), .one (.int .u64 0), .one (.int .u64 0), .one (.int .u64 0), .one (.int .u64 0), .one (.int .u64 0), .one (.int .u64 0), .ints .u8 16 (fun _ => 0), .ints .u64 16 (fun _ => 0), .one (.bool false), .one (.int .u64 0), .one (.int .i64 0), .one (.int .i64 0), .one (.int .i64 0), .one .nilslice, .one .nilmap] }
theorem ti108_ok : TIok Try.prog 108 ti108 := ⟨⟨_, Try.underlying108, by rfl⟩, by kernel_rfl, by kernel_rfl, ⟨_, rfl, by kernel_rfl⟩⟩
/-- watch.walk -/
def ti109 : TI := { d := .struct [(61, 0), (107, 86)], size := 87, bytes := 616, zero := .agg [.one .nilslice, .one (.int .u64 0), .ints .u64 32 (fun _ => 0), .one (.int .i64 0), .one (.bool false), .one (.int .u64 0), .one (.int .u64 0), .one (.int .u64 0), .one (.int .u64 0), .one (.int .u64 0), .one (.int .u64 0), .one (.int .u64 0), .one (.int .u64 0), .one (.int .u64 0), .one (.int .u64 0), .one (.int .u64 0), .one (.int .u64 0), .ints .u8 16 (fun _ => 0), .ints .u64 16 (fun _ => 0), .one (.bool false), .one (.int .u64 0), .one (.int .i64 0), .one (.int .i64 0), .one (.int .i64 0), .one .nilslice, .one .nilmap] }
theorem ti109_ok : TIok Try.prog 109 ti109 := ⟨⟨_, Try.underlying109, by rfl⟩, by kernel_rfl, by kernel_rfl, ⟨_, rfl, by kernel_rfl⟩⟩
/-- func(int, bool) -/
def ti110 : TI := { d := .other, size := 1, bytes := 8, zero := .s .nilfunc }
theorem ti110_ok : TIok Try.prog 110 ti110 := ⟨⟨_, _, _, Try.underlying110⟩, by kernel_rfl, by kernel_rfl, ⟨_, rfl, by kernel_rfl⟩⟩
/-- func(int, int) -/
def ti111 : TI := { d := .other, size := 1, bytes := 8, zero := .s .nilfunc }
theorem ti111_ok : TIok Try.prog 111 ti111 := ⟨⟨_, _, _, Try.underlying111⟩, by kernel_rfl, by kernel_rfl, ⟨_, rfl, by kernel_rfl⟩⟩
/-- func(api.Trace, int, int) bool -/
def ti113 : TI := { d := .other, size := 1, bytes := 8, zero := .s .nilfunc }
theorem ti113_ok : TIok Try.prog 113 ti113 := ⟨⟨_, _, _, Try.underlying113⟩, by kernel_rfl, by kernel_rfl, ⟨_, rfl, by kernel_rfl⟩⟩
/-- func(uint8) bool -/
def ti114 : TI := { d := .other, size := 1, bytes := 8, zero := .s .nilfunc }
theorem ti114_ok : TIok Try.prog 114 ti114 := ⟨⟨_, _, _, Try.underlying114⟩, by kernel_rfl, by kernel_rfl, ⟨_, rfl, by kernel_rfl⟩⟩
/-- func(uint64, int) string -/
def ti115 : TI := { d := .other, size := 1, bytes := 8, zero := .s .nilfunc }
theorem ti115_ok : TIok Try.prog 115 ti115 := ⟨⟨_, _, _, Try.underlying115⟩, by kernel_rfl, by kernel_rfl, ⟨_, rfl, by kernel_rfl⟩⟩
/-- func([]uint8) int -/
def ti116 : TI := { d := .other, size := 1, bytes := 8, zero := .s .nilfunc }
theorem ti116_ok : TIok Try.prog 116 ti116 := ⟨⟨_, _, _, Try.underlying116⟩, by kernel_rfl, by kernel_rfl, ⟨_, rfl, by kernel_rfl⟩⟩
/-- struct { bytes []uint8 } -/
def ti117 : TI := { d := .struct [(23, 0)], size := 1, bytes := 24, zero := .agg [.one .nilslice] }
theorem ti117_ok : TIok Try.prog 117 ti117 := ⟨⟨_, Try.underlying117, by rfl⟩, by kernel_rfl, by kernel_rfl, ⟨_, rfl, by kernel_rfl⟩⟩
/-- bus.ram -/
def ti118 : TI := { d := .struct [(23, 0)], size := 1, bytes := 24, zero := .agg [.one .nilslice] }
theorem ti118_ok : TIok Try.prog 118 ti118 := ⟨⟨_, Try.underlying118, by rfl⟩, by kernel_rfl, by kernel_rfl, ⟨_, rfl, by kernel_rfl⟩⟩
/-- struct { off int; code int } -/
def ti119 : TI := { d := .struct [(3, 0), (3, 1)], size := 2, bytes := 16, zero := .agg [.one (.int .i64 0), .one (.int .i64 0)] }
theorem ti119_ok : TIok Try.prog 119 ti119 := ⟨⟨_, Try.underlying119, by rfl⟩, by kernel_rfl, by kernel_rfl, ⟨_, rfl, by kernel_rfl⟩⟩
/-- bus.finisher -/
def ti120 : TI := { d := .struct [(3, 0), (3, 1)], size := 2, bytes := 16, zero := .agg [.one (.int .i64 0), .one (.int .i64 0)] }
theorem ti120_ok : TIok Try.prog 120 ti120 := ⟨⟨_, Try.underlying120, by rfl⟩, by kernel_rfl, by kernel_rfl, ⟨_, rfl, by kernel_rfl⟩⟩
/-- struct { msip uint32; cmp uint64; now uint64 } -/
def ti121 : TI := { d := .struct [(40, 0), (30, 1), (30, 2)], size := 3, bytes := 24, zero := .agg [.one (.int .u32 0), .one (.int .u64 0), .one (.int .u64 0)] }
theorem ti121_ok : TIok Try.prog 121 ti121 := ⟨⟨_, Try.underlying121, by rfl⟩, by kernel_rfl, by kernel_rfl, ⟨_, rfl, by kernel_rfl⟩⟩
/-- bus.clint -/
def ti122 : TI := { d := .struct [(40, 0), (30, 1), (30, 2)], size := 3, bytes := 24, zero := .agg [.one (.int .u32 0), .one (.int .u64 0), .one (.int .u64 0)] }
theorem ti122_ok : TIok Try.prog 122 ti122 := ⟨⟨_, Try.underlying122, by rfl⟩, by kernel_rfl, by kernel_rfl, ⟨_, rfl, by kernel_rfl⟩⟩
/-- struct { state int32; sema uint32 } -/
def ti125 : TI := { d := .struct [(21, 0), (40, 1)], size := 2, bytes := 8, zero := .agg [.one (.int .i32 0), .one (.int .u32 0)] }
theorem ti125_ok : TIok Try.prog 125 ti125 := ⟨⟨_, Try.underlying125, by rfl⟩, by kernel_rfl, by kernel_rfl, ⟨_, rfl, by kernel_rfl⟩⟩
/-- sync.Mutex -/
def ti126 : TI := { d := .struct [(21, 0), (40, 1)], size := 2, bytes := 8, zero := .agg [.one (.int .i32 0), .one (.int .u32 0)] }
theorem ti126_ok : TIok Try.prog 126 ti126 := ⟨⟨_, Try.underlying126, by rfl⟩, by kernel_rfl, by kernel_rfl, ⟨_, rfl, by kernel_rfl⟩⟩
/-- struct { _ sync.noCopy; mu sync.Mutex } -/
def ti127 : TI := { d := .struct [(124, 0), (126, 0)], size := 2, bytes := 8, zero := .agg [.one (.int .i32 0), .one (.int .u32 0)] }
theorem ti127_ok : TIok Try.prog 127 ti127 := ⟨⟨_, Try.underlying127, by rfl⟩, by kernel_rfl, by kernel_rfl, ⟨_, rfl, by kernel_rfl⟩⟩
/-- sync.Mutex -/
def ti128 : TI := { d := .struct [(124, 0), (126, 0)], size := 2, bytes := 8, zero := .agg [.one (.int .i32 0), .one (.int .u32 0)] }
theorem ti128_ok : TIok Try.prog 128 ti128 := ⟨⟨_, Try.underlying128, by rfl⟩, by kernel_rfl, by kernel_rfl, ⟨_, rfl, by kernel_rfl⟩⟩
/-- struct { lock sync.Mutex; input []uint8; output []uint8; ier uint8; lcr uint8; mcr uint8; scratch uint8; overrun bool } -/
def ti129 : TI := { d := .struct [(128, 0), (23, 2), (23, 3), (5, 4), (5, 5), (5, 6), (5, 7), (4, 8)], size := 9, bytes := 64, zero := .agg [.one (.int .i32 0), .one (.int .u32 0), .one .nilslice, .one .nilslice, .one (.int .u8 0), .one (.int .u8 0), .one (.int .u8 0), .one (.int .u8 0), .one (.bool false)] }
theorem ti129_ok : TIok Try.prog 129 ti129 := ⟨⟨_, Try.underlying129, by rfl⟩, by kernel_rfl, by kernel_rfl, ⟨_, rfl, by kernel_rfl⟩⟩
/-- bus.uart -/
def ti130 : TI := { d := .struct [(128, 0), (23, 2), (23, 3), (5, 4), (5, 5), (5, 6), (5, 7), (4, 8)], size := 9, bytes := 64, zero := .agg [.one (.int .i32 0), .one (.int .u32 0), .one .nilslice, .one .nilslice, .one (.int .u8 0), .one (.int .u8 0), .one (.int .u8 0), .one (.int .u8 0), .one (.bool false)] }
theorem ti130_ok : TIok Try.prog 130 ti130 := ⟨⟨_, Try.underlying130, by rfl⟩, by kernel_rfl, by kernel_rfl, ⟨_, rfl, by kernel_rfl⟩⟩
/-- struct { ram bus.ram; power bus.finisher; timer bus.clint; line bus.uart; ext bool; soft bool } -/
def ti131 : TI := { d := .struct [(118, 0), (120, 1), (122, 3), (130, 6), (4, 15), (4, 16)], size := 17, bytes := 136, zero := .agg [.one .nilslice, .one (.int .i64 0), .one (.int .i64 0), .one (.int .u32 0), .one (.int .u64 0), .one (.int .u64 0), .one (.int .i32 0), .one (.int .u32 0), .one .nilslice, .one .nilslice, .one (.int .u8 0), .one (.int .u8 0), .one (.int .u8 0), .one (.int .u8 0), .one (.bool false), .one (.bool false), .one (.bool false)] }
theorem ti131_ok : TIok Try.prog 131 ti131 := ⟨⟨_, Try.underlying131, by rfl⟩, by kernel_rfl, by kernel_rfl, ⟨_, rfl, by kernel_rfl⟩⟩
/-- bus.Bus -/
def ti132 : TI := { d := .struct [(118, 0), (120, 1), (122, 3), (130, 6), (4, 15), (4, 16)], size := 17, bytes := 136, zero := .agg [.one .nilslice, .one (.int .i64 0), .one (.int .i64 0), .one (.int .u32 0), .one (.int .u64 0), .one (.int .u64 0), .one (.int .i32 0), .one (.int .u32 0), .one .nilslice, .one .nilslice, .one (.int .u8 0), .one (.int .u8 0), .one (.int .u8 0), .one (.int .u8 0), .one (.bool false), .one (.bool false), .one (.bool false)] }
theorem ti132_ok : TIok Try.prog 132 ti132 := ⟨⟨_, Try.underlying132, by rfl⟩, by kernel_rfl, by kernel_rfl, ⟨_, rfl, by kernel_rfl⟩⟩
/-- func(api.Bus) -/
def ti133 : TI := { d := .other, size := 1, bytes := 8, zero := .s .nilfunc }
theorem ti133_ok : TIok Try.prog 133 ti133 := ⟨⟨_, _, _, Try.underlying133⟩, by kernel_rfl, by kernel_rfl, ⟨_, rfl, by kernel_rfl⟩⟩
/-- func(api.Pmp) api.Pmp -/
def ti134 : TI := { d := .other, size := 1, bytes := 8, zero := .s .nilfunc }
theorem ti134_ok : TIok Try.prog 134 ti134 := ⟨⟨_, _, _, Try.underlying134⟩, by kernel_rfl, by kernel_rfl, ⟨_, rfl, by kernel_rfl⟩⟩
/-- func(api.Res) api.Res -/
def ti135 : TI := { d := .other, size := 1, bytes := 8, zero := .s .nilfunc }
theorem ti135_ok : TIok Try.prog 135 ti135 := ⟨⟨_, _, _, Try.underlying135⟩, by kernel_rfl, by kernel_rfl, ⟨_, rfl, by kernel_rfl⟩⟩
/-- interface { save.double(*uint64); save.flag(*bool); save.list(*[]uint8, int, int); save.octet(*uint8); save.place(*int, int); save.word(*uint32) } -/
def ti136 : TI := { d := .iface, size := 1, bytes := 16, zero := .s .niliface }
theorem ti136_ok : TIok Try.prog 136 ti136 := ⟨⟨_, Try.underlying136⟩, by kernel_rfl, by kernel_rfl, ⟨_, rfl, by kernel_rfl⟩⟩
/-- save.line -/
def ti137 : TI := { d := .iface, size := 1, bytes := 16, zero := .s .niliface }
theorem ti137_ok : TIok Try.prog 137 ti137 := ⟨⟨_, Try.underlying137⟩, by kernel_rfl, by kernel_rfl, ⟨_, rfl, by kernel_rfl⟩⟩
/-- *api.Cpu -/
def ti138 : TI := { d := .ptr 39, size := 1, bytes := 8, zero := .s .nilptr }
theorem ti138_ok : TIok Try.prog 138 ti138 := ⟨Try.underlying138, by kernel_rfl, by kernel_rfl, ⟨_, rfl, by kernel_rfl⟩⟩
/-- func(*uint64) -/
def ti139 : TI := { d := .other, size := 1, bytes := 8, zero := .s .nilfunc }
theorem ti139_ok : TIok Try.prog 139 ti139 := ⟨⟨_, _, _, Try.underlying139⟩, by kernel_rfl, by kernel_rfl, ⟨_, rfl, by kernel_rfl⟩⟩
/-- *uint64 -/
def ti140 : TI := { d := .ptr 30, size := 1, bytes := 8, zero := .s .nilptr }
theorem ti140_ok : TIok Try.prog 140 ti140 := ⟨Try.underlying140, by kernel_rfl, by kernel_rfl, ⟨_, rfl, by kernel_rfl⟩⟩
/-- func(*int, int) -/
def ti141 : TI := { d := .other, size := 1, bytes := 8, zero := .s .nilfunc }
theorem ti141_ok : TIok Try.prog 141 ti141 := ⟨⟨_, _, _, Try.underlying141⟩, by kernel_rfl, by kernel_rfl, ⟨_, rfl, by kernel_rfl⟩⟩
/-- *int -/
def ti142 : TI := { d := .ptr 3, size := 1, bytes := 8, zero := .s .nilptr }
theorem ti142_ok : TIok Try.prog 142 ti142 := ⟨Try.underlying142, by kernel_rfl, by kernel_rfl, ⟨_, rfl, by kernel_rfl⟩⟩
/-- func(*bool) -/
def ti143 : TI := { d := .other, size := 1, bytes := 8, zero := .s .nilfunc }
theorem ti143_ok : TIok Try.prog 143 ti143 := ⟨⟨_, _, _, Try.underlying143⟩, by kernel_rfl, by kernel_rfl, ⟨_, rfl, by kernel_rfl⟩⟩
/-- *bool -/
def ti144 : TI := { d := .ptr 4, size := 1, bytes := 8, zero := .s .nilptr }
theorem ti144_ok : TIok Try.prog 144 ti144 := ⟨Try.underlying144, by kernel_rfl, by kernel_rfl, ⟨_, rfl, by kernel_rfl⟩⟩
/-- []*uint64 -/
def ti145 : TI := { d := .slice 140, size := 1, bytes := 24, zero := .s .nilslice }
theorem ti145_ok : TIok Try.prog 145 ti145 := ⟨Try.underlying145, by kernel_rfl, by kernel_rfl, ⟨_, rfl, by kernel_rfl⟩⟩
/-- func(*uint8) -/
def ti146 : TI := { d := .other, size := 1, bytes := 8, zero := .s .nilfunc }
theorem ti146_ok : TIok Try.prog 146 ti146 := ⟨⟨_, _, _, Try.underlying146⟩, by kernel_rfl, by kernel_rfl, ⟨_, rfl, by kernel_rfl⟩⟩
/-- *uint8 -/
def ti147 : TI := { d := .ptr 5, size := 1, bytes := 8, zero := .s .nilptr }
theorem ti147_ok : TIok Try.prog 147 ti147 := ⟨Try.underlying147, by kernel_rfl, by kernel_rfl, ⟨_, rfl, by kernel_rfl⟩⟩
/-- *api.Bus -/
def ti148 : TI := { d := .ptr 42, size := 1, bytes := 8, zero := .s .nilptr }
theorem ti148_ok : TIok Try.prog 148 ti148 := ⟨Try.underlying148, by kernel_rfl, by kernel_rfl, ⟨_, rfl, by kernel_rfl⟩⟩
/-- func(*uint32) -/
def ti149 : TI := { d := .other, size := 1, bytes := 8, zero := .s .nilfunc }
theorem ti149_ok : TIok Try.prog 149 ti149 := ⟨⟨_, _, _, Try.underlying149⟩, by kernel_rfl, by kernel_rfl, ⟨_, rfl, by kernel_rfl⟩⟩
/-- *uint32 -/
def ti150 : TI := { d := .ptr 40, size := 1, bytes := 8, zero := .s .nilptr }
theorem ti150_ok : TIok Try.prog 150 ti150 := ⟨Try.underlying150, by kernel_rfl, by kernel_rfl, ⟨_, rfl, by kernel_rfl⟩⟩
/-- []*uint8 -/
def ti151 : TI := { d := .slice 147, size := 1, bytes := 24, zero := .s .nilslice }
theorem ti151_ok : TIok Try.prog 151 ti151 := ⟨Try.underlying151, by kernel_rfl, by kernel_rfl, ⟨_, rfl, by kernel_rfl⟩⟩
/-- func(*[]uint8, int, int) -/
def ti152 : TI := { d := .other, size := 1, bytes := 8, zero := .s .nilfunc }
theorem ti152_ok : TIok Try.prog 152 ti152 := ⟨⟨_, _, _, Try.underlying152⟩, by kernel_rfl, by kernel_rfl, ⟨_, rfl, by kernel_rfl⟩⟩
/-- *[]uint8 -/
def ti153 : TI := { d := .ptr 23, size := 1, bytes := 8, zero := .s .nilptr }
theorem ti153_ok : TIok Try.prog 153 ti153 := ⟨Try.underlying153, by kernel_rfl, by kernel_rfl, ⟨_, rfl, by kernel_rfl⟩⟩
/-- func([]uint8, int) []uint8 -/
def ti154 : TI := { d := .other, size := 1, bytes := 8, zero := .s .nilfunc }
theorem ti154_ok : TIok Try.prog 154 ti154 := ⟨⟨_, _, _, Try.underlying154⟩, by kernel_rfl, by kernel_rfl, ⟨_, rfl, by kernel_rfl⟩⟩
/-- func(uint64) uint64 -/
def ti155 : TI := { d := .other, size := 1, bytes := 8, zero := .s .nilfunc }
theorem ti155_ok : TIok Try.prog 155 ti155 := ⟨⟨_, _, _, Try.underlying155⟩, by kernel_rfl, by kernel_rfl, ⟨_, rfl, by kernel_rfl⟩⟩
/-- func([]uint8, bool) []uint8 -/
def ti156 : TI := { d := .other, size := 1, bytes := 8, zero := .s .nilfunc }
theorem ti156_ok : TIok Try.prog 156 ti156 := ⟨⟨_, _, _, Try.underlying156⟩, by kernel_rfl, by kernel_rfl, ⟨_, rfl, by kernel_rfl⟩⟩
/-- []uint64 -/
def ti157 : TI := { d := .slice 30, size := 1, bytes := 24, zero := .s .nilslice }
theorem ti157_ok : TIok Try.prog 157 ti157 := ⟨Try.underlying157, by kernel_rfl, by kernel_rfl, ⟨_, rfl, by kernel_rfl⟩⟩
/-- func(int) int -/
def ti158 : TI := { d := .other, size := 1, bytes := 8, zero := .s .nilfunc }
theorem ti158_ok : TIok Try.prog 158 ti158 := ⟨⟨_, _, _, Try.underlying158⟩, by kernel_rfl, by kernel_rfl, ⟨_, rfl, by kernel_rfl⟩⟩
/-- func(int) []uint8 -/
def ti159 : TI := { d := .other, size := 1, bytes := 8, zero := .s .nilfunc }
theorem ti159_ok : TIok Try.prog 159 ti159 := ⟨⟨_, _, _, Try.underlying159⟩, by kernel_rfl, by kernel_rfl, ⟨_, rfl, by kernel_rfl⟩⟩
/-- func(int, int) []uint8 -/
def ti160 : TI := { d := .other, size := 1, bytes := 8, zero := .s .nilfunc }
theorem ti160_ok : TIok Try.prog 160 ti160 := ⟨⟨_, _, _, Try.underlying160⟩, by kernel_rfl, by kernel_rfl, ⟨_, rfl, by kernel_rfl⟩⟩
/-- func(api.Pmp, uint64, int) (int, bool) -/
def ti161 : TI := { d := .other, size := 1, bytes := 8, zero := .s .nilfunc }
theorem ti161_ok : TIok Try.prog 161 ti161 := ⟨⟨_, _, _, Try.underlying161⟩, by kernel_rfl, by kernel_rfl, ⟨_, rfl, by kernel_rfl⟩⟩
/-- *watch.scene -/
def ti162 : TI := { d := .ptr 164, size := 1, bytes := 8, zero := .s .nilptr }
theorem ti162_ok : TIok Try.prog 162 ti162 := ⟨Try.underlying162, by kernel_rfl, by kernel_rfl, ⟨_, rfl, by kernel_rfl⟩⟩
/-- struct { b api.Whole; a api.Whole; w api.World; r api.Row; raw api.Cpu } -/
def ti163 : TI := { d := .struct [(44, 0), (44, 97), (105, 194), (102, 198), (39, 214)], size := 296, bytes := 2032, zero := .agg [.one (.int .u64 0), .ints .u64 32 (fun _ => 0), .one (.int .i64 0), .one (.bool false), .one (.int .u64 0), .one (.int .u64 0), .one (.int .u64 0), .one (.int .u64 0), .one (.int .u64 0), .one (.int .u64 0), .one (.int .u64 0), .one (.int .u64 0), .one (.int .u64 0), .one (.int .u64 0), .one (.int .u64 0), .one (.int .u64 0), .ints .u8 16 (fun _ => 0), .ints .u64 16 (fun _ => 0), .one (.bool false), .one (.int .u64 0), .one (.int .i64 0), .one .nilslice, .one (.int .u32 0), .one (.int .u64 0), .one (.int .u64 0), .one (.bool false), .one (.bool false), .one (.int .u8 0), .one (.int .u8 0), .one (.int .u8 0), .one (.int .u8 0), .one (.bool false), .one .nilslice, .one .nilslice, .one (.int .i64 0), .one (.int .i64 0), .one (.int .u64 0), .ints .u64 32 (fun _ => 0), .one (.int .i64 0), .one (.bool false), .one (.int .u64 0), .one (.int .u64 0), .one (.int .u64 0), .one (.int .u64 0), .one (.int .u64 0), .one (.int .u64 0), .one (.int .u64 0), .one (.int .u64 0), .one (.int .u64 0), .one (.int .u64 0), .one (.int .u64 0), .one (.int .u64 0), .ints .u8 16 (fun _ => 0), .ints .u64 16 (fun _ => 0), .one (.bool false), .one (.int .u64 0), .one (.int .i64 0), .one .nilslice, .one (.int .u32 0), .one (.int .u64 0), .one (.int .u64 0), .one (.bool false), .one (.bool false), .one (.int .u8 0), .one (.int .u8 0), .one (.int .u8 0), .one (.int .u8 0), .one (.bool false), .one .nilslice, .one .nilslice, .one (.int .i64 0), .one (.int .i64 0), .one (.bool false), .one (.bool false), .one (.bool false), .one .nilslice, .one (.int .i64 0), .one (.int .i64 0), .one (.int .i64 0), .one (.int .u64 0), .one (.int .u32 0), .one (.int .i64 0), .one (.int .u64 0), .one (.int .u64 0), .one (.int .i64 0), .one (.int .u64 0), .one (.int .i64 0), .one (.int .u64 0), .one (.int .i64 0), .one (.int .u64 0), .one (.int .u64 0), .one (.int .i64 0), .one (.int .u64 0), .ints .u64 32 (fun _ => 0), .one (.int .i64 0), .one (.bool false), .one (.int .u64 0), .one (.int .u64 0), .one (.int .u64 0), .one (.int .u64 0), .one (.int .u64 0), .one (.int .u64 0), .one (.int .u64 0), .one (.int .u64 0), .one (.int .u64 0), .one (.int .u64 0), .one (.int .u64 0), .one (.int .u64 0), .ints .u8 16 (fun _ => 0), .ints .u64 16 (fun _ => 0), .one (.bool false), .one (.int .u64 0), .one (.int .i64 0)] }
theorem ti163_ok : TIok Try.prog 163 ti163 := ⟨⟨_, Try.underlying163, by rfl⟩, by kernel_rfl, by kernel_rfl, ⟨_, rfl, by kernel_rfl⟩⟩
/-- watch.scene -/
def ti164 : TI := { d := .struct [(44, 0), (44, 97), (105, 194), (102, 198), (39, 214)], size := 296, bytes := 2032, zero := .agg [.one (.int .u64 0), .ints .u64 32 (fun _ => 0), .one (.int .i64 0), .one (.bool false), .one (.int .u64 0), .one (.int .u64 0), .one (.int .u64 0), .one (.int .u64 0), .one (.int .u64 0), .one (.int .u64 0), .one (.int .u64 0), .one (.int .u64 0), .one (.int .u64 0), .one (.int .u64 0), .one (.int .u64 0), .one (.int .u64 0), .ints .u8 16 (fun _ => 0), .ints .u64 16 (fun _ => 0), .one (.bool false), .one (.int .u64 0), .one (.int .i64 0), .one .nilslice, .one (.int .u32 0), .one (.int .u64 0), .one (.int .u64 0), .one (.bool false), .one (.bool false), .one (.int .u8 0), .one (.int .u8 0), .one (.int .u8 0), .one (.int .u8 0), .one (.bool false), .one .nilslice, .one .nilslice, .one (.int .i64 0), .one (.int .i64 0), .one (.int .u64 0), .ints .u64 32 (fun _ => 0), .one (.int .i64 0), .one (.bool false), .one (.int .u64 0), .one (.int .u64 0), .one (.int .u64 0), .one (.int .u64 0), .one (.int .u64 0), .one (.int .u64 0), .one (.int .u64 0), .one (.int .u64 0), .one (.int .u64 0), .one (.int .u64 0), .one (.int .u64 0), .one (.int .u64 0), .ints .u8 16 (fun _ => 0), .ints .u64 16 (fun _ => 0), .one (.bool false), .one (.int .u64 0), .one (.int .i64 0), .one .nilslice, .one (.int .u32 0), .one (.int .u64 0), .one (.int .u64 0), .one (.bool false), .one (.bool false), .one (.int .u8 0), .one (.int .u8 0), .one (.int .u8 0), .one (.int .u8 0), .one (.bool false), .one .nilslice, .one .nilslice, .one (.int .i64 0), .one (.int .i64 0), .one (.bool false), .one (.bool false), .one (.bool false), .one .nilslice, .one (.int .i64 0), .one (.int .i64 0), .one (.int .i64 0), .one (.int .u64 0), .one (.int .u32 0), .one (.int .i64 0), .one (.int .u64 0), .one (.int .u64 0), .one (.int .i64 0), .one (.int .u64 0), .one (.int .i64 0), .one (.int .u64 0), .one (.int .i64 0), .one (.int .u64 0), .one (.int .u64 0), .one (.int .i64 0), .one (.int .u64 0), .ints .u64 32 (fun _ => 0), .one (.int .i64 0), .one (.bool false), .one (.int .u64 0), .one (.int .u64 0), .one (.int .u64 0), .one (.int .u64 0), .one (.int .u64 0), .one (.int .u64 0), .one (.int .u64 0), .one (.int .u64 0), .one (.int .u64 0), .one (.int .u64 0), .one (.int .u64 0), .one (.int .u64 0), .ints .u8 16 (fun _ => 0), .ints .u64 16 (fun _ => 0), .one (.bool false), .one (.int .u64 0), .one (.int .i64 0)] }
theorem ti164_ok : TIok Try.prog 164 ti164 := ⟨⟨_, Try.underlying164, by rfl⟩, by kernel_rfl, by kernel_rfl, ⟨_, rfl, by kernel_rfl⟩⟩
/-- []func() bool -/
def ti165 : TI := { d := .slice 22, size := 1, bytes := 24, zero := .s .nilslice }
theorem ti165_ok : TIok Try.prog 165 ti165 := ⟨Try.underlying165, by kernel_rfl, by kernel_rfl, ⟨_, rfl, by kernel_rfl⟩⟩
/-- func() []func() bool -/
def ti166 : TI := { d := .other, size := 1, bytes := 8, zero := .s .nilfunc }
theorem ti166_ok : TIok Try.prog 166 ti166 := ⟨⟨_, _, _, Try.underlying166⟩, by kernel_rfl, by kernel_rfl, ⟨_, rfl, by kernel_rfl⟩⟩
/-- func(api.Row) bool -/
def ti167 : TI := { d := .other, size := 1, bytes := 8, zero := .s .nilfunc }
theorem ti167_ok : TIok Try.prog 167 ti167 := ⟨⟨_, _, _, Try.underlying167⟩, by kernel_rfl, by kernel_rfl, ⟨_, rfl, by kernel_rfl⟩⟩
/-- func(uint64) string -/
def ti168 : TI := { d := .other, size := 1, bytes := 8, zero := .s .nilfunc }
theorem ti168_ok : TIok Try.prog 168 ti168 := ⟨⟨_, _, _, Try.underlying168⟩, by kernel_rfl, by kernel_rfl, ⟨_, rfl, by kernel_rfl⟩⟩
/-- func(int) bool -/
def ti169 : TI := { d := .other, size := 1, bytes := 8, zero := .s .nilfunc }
theorem ti169_ok : TIok Try.prog 169 ti169 := ⟨⟨_, _, _, Try.underlying169⟩, by kernel_rfl, by kernel_rfl, ⟨_, rfl, by kernel_rfl⟩⟩
/-- *bus.uart -/
def ti170 : TI := { d := .ptr 130, size := 1, bytes := 8, zero := .s .nilptr }
theorem ti170_ok : TIok Try.prog 170 ti170 := ⟨Try.underlying170, by kernel_rfl, by kernel_rfl, ⟨_, rfl, by kernel_rfl⟩⟩
/-- func(uint8) uint8 -/
def ti171 : TI := { d := .other, size := 1, bytes := 8, zero := .s .nilfunc }
theorem ti171_ok : TIok Try.prog 171 ti171 := ⟨⟨_, _, _, Try.underlying171⟩, by kernel_rfl, by kernel_rfl, ⟨_, rfl, by kernel_rfl⟩⟩
/-- func(api.Pmp, int) (uint64, uint64, bool) -/
def ti173 : TI := { d := .other, size := 1, bytes := 8, zero := .s .nilfunc }
theorem ti173_ok : TIok Try.prog 173 ti173 := ⟨⟨_, _, _, Try.underlying173⟩, by kernel_rfl, by kernel_rfl, ⟨_, rfl, by kernel_rfl⟩⟩
/-- func(api.Pmp, int, uint64) bool -/
def ti174 : TI := { d := .other, size := 1, bytes := 8, zero := .s .nilfunc }
theorem ti174_ok : TIok Try.prog 174 ti174 := ⟨⟨_, _, _, Try.underlying174⟩, by kernel_rfl, by kernel_rfl, ⟨_, rfl, by kernel_rfl⟩⟩
/-- func(...uint64) bool -/
def ti175 : TI := { d := .other, size := 1, bytes := 8, zero := .s .nilfunc }
theorem ti175_ok : TIok Try.prog 175 ti175 := ⟨⟨_, _, _, Try.underlying175⟩, by kernel_rfl, by kernel_rfl, ⟨_, rfl, by kernel_rfl⟩⟩
/-- *sync.Mutex -/
def ti176 : TI := { d := .ptr 128, size := 1, bytes := 8, zero := .s .nilptr }
theorem ti176_ok : TIok Try.prog 176 ti176 := ⟨Try.underlying176, by kernel_rfl, by kernel_rfl, ⟨_, rfl, by kernel_rfl⟩⟩
/-- func(uint8) int -/
def ti177 : TI := { d := .other, size := 1, bytes := 8, zero := .s .nilfunc }
theorem ti177_ok : TIok Try.prog 177 ti177 := ⟨⟨_, _, _, Try.underlying177⟩, by kernel_rfl, by kernel_rfl, ⟨_, rfl, by kernel_rfl⟩⟩
/-- *api.Row -/
def ti178 : TI := { d := .ptr 102, size := 1, bytes := 8, zero := .s .nilptr }
theorem ti178_ok : TIok Try.prog 178 ti178 := ⟨Try.underlying178, by kernel_rfl, by kernel_rfl, ⟨_, rfl, by kernel_rfl⟩⟩
/-- func(func(uint64) bool) bool -/
def ti179 : TI := { d := .other, size := 1, bytes := 8, zero := .s .nilfunc }
theorem ti179_ok : TIok Try.prog 179 ti179 := ⟨⟨_, _, _, Try.underlying179⟩, by kernel_rfl, by kernel_rfl, ⟨_, rfl, by kernel_rfl⟩⟩
/-- func(uint64) bool -/
def ti180 : TI := { d := .other, size := 1, bytes := 8, zero := .s .nilfunc }
theorem ti180_ok : TIok Try.prog 180 ti180 := ⟨⟨_, _, _, Try.underlying180⟩, by kernel_rfl, by kernel_rfl, ⟨_, rfl, by kernel_rfl⟩⟩
/-- func(api.Bus) uint64 -/
def ti181 : TI := { d := .other, size := 1, bytes := 8, zero := .s .nilfunc }
theorem ti181_ok : TIok Try.prog 181 ti181 := ⟨⟨_, _, _, Try.underlying181⟩, by kernel_rfl, by kernel_rfl, ⟨_, rfl, by kernel_rfl⟩⟩
/-- func(uint64, int) bool -/
def ti182 : TI := { d := .other, size := 1, bytes := 8, zero := .s .nilfunc }
theorem ti182_ok : TIok Try.prog 182 ti182 := ⟨⟨_, _, _, Try.underlying182⟩, by kernel_rfl, by kernel_rfl, ⟨_, rfl, by kernel_rfl⟩⟩
/-- func(api.Pmp, int, uint64, int, int) bool -/
def ti183 : TI := { d := .other, size := 1, bytes := 8, zero := .s .nilfunc }
theorem ti183_ok : TIok Try.prog 183 ti183 := ⟨⟨_, _, _, Try.underlying183⟩, by kernel_rfl, by kernel_rfl, ⟨_, rfl, by kernel_rfl⟩⟩
/-- func(api.Cpu) int -/
def ti184 : TI := { d := .other, size := 1, bytes := 8, zero := .s .nilfunc }
theorem ti184_ok : TIok Try.prog 184 ti184 := ⟨⟨_, _, _, Try.underlying184⟩, by kernel_rfl, by kernel_rfl, ⟨_, rfl, by kernel_rfl⟩⟩
/-- *sync.Mutex -/
def ti185 : TI := { d := .ptr 126, size := 1, bytes := 8, zero := .s .nilptr }
theorem ti185_ok : TIok Try.prog 185 ti185 := ⟨Try.underlying185, by kernel_rfl, by kernel_rfl, ⟨_, rfl, by kernel_rfl⟩⟩
/-- func(*int32, int32, int32) bool -/
def ti186 : TI := { d := .other, size := 1, bytes := 8, zero := .s .nilfunc }
theorem ti186_ok : TIok Try.prog 186 ti186 := ⟨⟨_, _, _, Try.underlying186⟩, by kernel_rfl, by kernel_rfl, ⟨_, rfl, by kernel_rfl⟩⟩
/-- *int32 -/
def ti187 : TI := { d := .ptr 21, size := 1, bytes := 8, zero := .s .nilptr }
theorem ti187_ok : TIok Try.prog 187 ti187 := ⟨Try.underlying187, by kernel_rfl, by kernel_rfl, ⟨_, rfl, by kernel_rfl⟩⟩
/-- func(unsafe.Pointer) -/
def ti188 : TI := { d := .other, size := 1, bytes := 8, zero := .s .nilfunc }
theorem ti188_ok : TIok Try.prog 188 ti188 := ⟨⟨_, _, _, Try.underlying188⟩, by kernel_rfl, by kernel_rfl, ⟨_, rfl, by kernel_rfl⟩⟩
/-- unsafe.Pointer -/
def ti189 : TI := { d := .uptr, size := 1, bytes := 8, zero := .s .nilptr }
theorem ti189_ok : TIok Try.prog 189 ti189 := ⟨Try.underlying189, by kernel_rfl, by kernel_rfl, ⟨_, rfl, by kernel_rfl⟩⟩
/-- func(*int32, int32) int32 -/
def ti190 : TI := { d := .other, size := 1, bytes := 8, zero := .s .nilfunc }
theorem ti190_ok : TIok Try.prog 190 ti190 := ⟨⟨_, _, _, Try.underlying190⟩, by kernel_rfl, by kernel_rfl, ⟨_, rfl, by kernel_rfl⟩⟩
/-- func(int32) -/
def ti191 : TI := { d := .other, size := 1, bytes := 8, zero := .s .nilfunc }
theorem ti191_ok : TIok Try.prog 191 ti191 := ⟨⟨_, _, _, Try.underlying191⟩, by kernel_rfl, by kernel_rfl, ⟨_, rfl, by kernel_rfl⟩⟩
/-- func(api.Pmp, int) int -/
def ti192 : TI := { d := .other, size := 1, bytes := 8, zero := .s .nilfunc }
theorem ti192_ok : TIok Try.prog 192 ti192 := ⟨⟨_, _, _, Try.underlying192⟩, by kernel_rfl, by kernel_rfl, ⟨_, rfl, by kernel_rfl⟩⟩
/-- func(api.Pmp, int) (bool, bool) -/
def ti194 : TI := { d := .other, size := 1, bytes := 8, zero := .s .nilfunc }
theorem ti194_ok : TIok Try.prog 194 ti194 := ⟨⟨_, _, _, Try.underlying194⟩, by kernel_rfl, by kernel_rfl, ⟨_, rfl, by kernel_rfl⟩⟩
/-- func(uint64, int) uint64 -/
def ti195 : TI := { d := .other, size := 1, bytes := 8, zero := .s .nilfunc }
theorem ti195_ok : TIok Try.prog 195 ti195 := ⟨⟨_, _, _, Try.underlying195⟩, by kernel_rfl, by kernel_rfl, ⟨_, rfl, by kernel_rfl⟩⟩
/-- func(uint64, uint64) uint64 -/
def ti196 : TI := { d := .other, size := 1, bytes := 8, zero := .s .nilfunc }
theorem ti196_ok : TIok Try.prog 196 ti196 := ⟨⟨_, _, _, Try.underlying196⟩, by kernel_rfl, by kernel_rfl, ⟨_, rfl, by kernel_rfl⟩⟩
/-- func(string) -/
def ti197 : TI := { d := .other, size := 1, bytes := 8, zero := .s .nilfunc }
theorem ti197_ok : TIok Try.prog 197 ti197 := ⟨⟨_, _, _, Try.underlying197⟩, by kernel_rfl, by kernel_rfl, ⟨_, rfl, by kernel_rfl⟩⟩
/-- func() int64 -/
def ti198 : TI := { d := .other, size := 1, bytes := 8, zero := .s .nilfunc }
theorem ti198_ok : TIok Try.prog 198 ti198 := ⟨⟨_, _, _, Try.underlying198⟩, by kernel_rfl, by kernel_rfl, ⟨_, rfl, by kernel_rfl⟩⟩
/-- func(*uint32, bool, int) -/
def ti199 : TI := { d := .other, size := 1, bytes := 8, zero := .s .nilfunc }
theorem ti199_ok : TIok Try.prog 199 ti199 := ⟨⟨_, _, _, Try.underlying199⟩, by kernel_rfl, by kernel_rfl, ⟨_, rfl, by kernel_rfl⟩⟩
/-- func() string -/
def ti200 : TI := { d := .other, size := 1, bytes := 8, zero := .s .nilfunc }
theorem ti200_ok : TIok Try.prog 200 ti200 := ⟨⟨_, _, _, Try.underlying200⟩, by kernel_rfl, by kernel_rfl, ⟨_, rfl, by kernel_rfl⟩⟩
/-- struct { _interface *abi.Type; concrete *abi.Type; asserted *abi.Type; missingMethod string } -/
def ti201 : TI := { d := .struct [(17, 0), (17, 1), (17, 2), (9, 3)], size := 4, bytes := 40, zero := .agg [.one .nilptr, .one .nilptr, .one .nilptr, .one (.str .empty)] }
theorem ti201_ok : TIok Try.prog 201 ti201 := ⟨⟨_, Try.underlying201, by rfl⟩, by kernel_rfl, by kernel_rfl, ⟨_, rfl, by kernel_rfl⟩⟩
/-- runtime.TypeAssertionError -/
def ti202 : TI := { d := .struct [(17, 0), (17, 1), (17, 2), (9, 3)], size := 4, bytes := 40, zero := .agg [.one .nilptr, .one .nilptr, .one .nilptr, .one (.str .empty)] }
theorem ti202_ok : TIok Try.prog 202 ti202 := ⟨⟨_, Try.underlying202, by rfl⟩, by kernel_rfl, by kernel_rfl, ⟨_, rfl, by kernel_rfl⟩⟩
/-- func() int -/
def ti206 : TI := { d := .other, size := 1, bytes := 8, zero := .s .nilfunc }
theorem ti206_ok : TIok Try.prog 206 ti206 := ⟨⟨_, _, _, Try.underlying206⟩, by kernel_rfl, by kernel_rfl, ⟨_, rfl, by kernel_rfl⟩⟩
/-- abi.TFlag -/
def ti207 : TI := { d := .int .u8, size := 1, bytes := 1, zero := .s (.int .u8 0) }
theorem ti207_ok : TIok Try.prog 207 ti207 := ⟨Try.underlying207, by kernel_rfl, by kernel_rfl, ⟨_, rfl, by kernel_rfl⟩⟩
/-- abi.Kind -/
def ti208 : TI := { d := .int .u8, size := 1, bytes := 1, zero := .s (.int .u8 0) }
theorem ti208_ok : TIok Try.prog 208 ti208 := ⟨Try.underlying208, by kernel_rfl, by kernel_rfl, ⟨_, rfl, by kernel_rfl⟩⟩
/-- func(unsafe.Pointer, unsafe.Pointer) bool -/
def ti209 : TI := { d := .other, size := 1, bytes := 8, zero := .s .nilfunc }
theorem ti209_ok : TIok Try.prog 209 ti209 := ⟨⟨_, _, _, Try.underlying209⟩, by kernel_rfl, by kernel_rfl, ⟨_, rfl, by kernel_rfl⟩⟩
/-- abi.NameOff -/
def ti210 : TI := { d := .int .i32, size := 1, bytes := 4, zero := .s (.int .i32 0) }
theorem ti210_ok : TIok Try.prog 210 ti210 := ⟨Try.underlying210, by kernel_rfl, by kernel_rfl, ⟨_, rfl, by kernel_rfl⟩⟩
/-- abi.TypeOff -/
def ti211 : TI := { d := .int .i32, size := 1, bytes := 4, zero := .s (.int .i32 0) }
theorem ti211_ok : TIok Try.prog 211 ti211 := ⟨Try.underlying211, by kernel_rfl, by kernel_rfl, ⟨_, rfl, by kernel_rfl⟩⟩
/-- struct { Size_ uintptr; PtrBytes uintptr; Hash uint32; TFlag abi.TFlag; Align_ uint8; FieldAlign_ uint8; Kind_ abi.Kind; Equal func(unsafe.Pointer, unsafe.Pointer) bool; GCData *uint8; Str abi.NameOff; PtrToThis abi.TypeOff } -/
def ti212 : TI := { d := .struct [(12, 0), (12, 1), (40, 2), (207, 3), (5, 4), (5, 5), (208, 6), (209, 7), (147, 8), (210, 9), (211, 10)], size := 11, bytes := 48, zero := .agg [.one (.int .u64 0), .one (.int .u64 0), .one (.int .u32 0), .one (.int .u8 0), .one (.int .u8 0), .one (.int .u8 0), .one (.int .u8 0), .one .nilfunc, .one .nilptr, .one (.int .i32 0), .one (.int .i32 0)] }
theorem ti212_ok : TIok Try.prog 212 ti212 := ⟨⟨_, Try.underlying212, by rfl⟩, by kernel_rfl, by kernel_rfl, ⟨_, rfl, by kernel_rfl⟩⟩
/-- abi.Type -/
def ti213 : TI := { d := .struct [(12, 0), (12, 1), (40, 2), (207, 3), (5, 4), (5, 5), (208, 6), (209, 7), (147, 8), (210, 9), (211, 10)], size := 11, bytes := 48, zero := .agg [.one (.int .u64 0), .one (.int .u64 0), .one (.int .u32 0), .one (.int .u8 0), .one (.int .u8 0), .one (.int .u8 0), .one (.int .u8 0), .one .nilfunc, .one .nilptr, .one (.int .i32 0), .one (.int .i32 0)] }
theorem ti213_ok : TIok Try.prog 213 ti213 := ⟨⟨_, Try.underlying213, by rfl⟩, by kernel_rfl, by kernel_rfl, ⟨_, rfl, by kernel_rfl⟩⟩
/-- func() uint64 -/
def ti214 : TI := { d := .other, size := 1, bytes := 8, zero := .s .nilfunc }
theorem ti214_ok : TIok Try.prog 214 ti214 := ⟨⟨_, _, _, Try.underlying214⟩, by kernel_rfl, by kernel_rfl, ⟨_, rfl, by kernel_rfl⟩⟩
def tys : List (List (Option TI)) := [
  [none, some ti1, some ti2, some ti3, some ti4, some ti5, some ti6, some ti7, some ti8, some ti9, some ti10, some ti11, some ti12, some ti13, some ti14, some ti15],
  [some ti16, some ti17, some ti18, some ti19, some ti20, some ti21, some ti22, some ti23, some ti24, none, some ti26, none, some ti28, some ti29, some ti30, some ti31],
  [some ti32, some ti33, some ti34, some ti35, some ti36, some ti37, some ti38, some ti39, some ti40, some ti41, some ti42, some ti43, some ti44, some ti45, some ti46, some ti47],
  [some ti48, some ti49, some ti50, some ti51, some ti52, some ti53, some ti54, none, some ti56, none, some ti58, some ti59, some ti60, some ti61, some ti62, none],
  [some ti64, some ti65, some ti66, some ti67, some ti68, some ti69, some ti70, none, some ti72, some ti73, some ti74, some ti75, some ti76, some ti77, some ti78, some ti79],
  [some ti80, some ti81, some ti82, some ti83, some ti84, some ti85, some ti86, some ti87, some ti88, some ti89, some ti90, some ti91, some ti92, some ti93, some ti94, some ti95],
  [some ti96, some ti97, some ti98, some ti99, some ti100, some ti101, some ti102, some ti103, some ti104, some ti105, some ti106, some ti107, some ti108, some ti109, some ti110, some ti111],
  [none, some ti113, some ti114, some ti115, some ti116, some ti117, some ti118, some ti119, some ti120, some ti121, some ti122, none, none, some ti125, some ti126, some ti127],
  [some ti128, some ti129, some ti130, some ti131, some ti132, some ti133, some ti134, some ti135, some ti136, some ti137, some ti138, some ti139, some ti140, some ti141, some ti142, some ti143],
  [some ti144, some ti145, some ti146, some ti147, some ti148, some ti149, some ti150, some ti151, some ti152, some ti153, some ti154, some ti155, some ti156, some ti157, some ti158, some ti159],
  [some ti160, some ti161, some ti162, some ti163, some ti164, some ti165, some ti166, some ti167, some ti168, some ti169, some ti170, some ti171, none, some ti173, some ti174, some ti175],
  [some ti176, some ti177, some ti178, some ti179, some ti180, some ti181, some ti182, some ti183, some ti184, some ti185, some ti186, some ti187, some ti188, some ti189, some ti190, some ti191],
  [some ti192, none, some ti194, some ti195, some ti196, some ti197, some ti198, some ti199, some ti200, some ti201, some ti202, none, none, none, some ti206, some ti207],
  [some ti208, some ti209, some ti210, some ti211, some ti212, some ti213, some ti214]]
theorem tys_ok : okR Try.prog 0 tys :=
  ⟨⟨ti1_ok, ti2_ok, ti3_ok, ti4_ok, ti5_ok, ti6_ok, ti7_ok, ti8_ok, ti9_ok, ti10_ok, ti11_ok, ti12_ok, ti13_ok, ti14_ok, ti15_ok, trivial⟩,
   ⟨ti16_ok, ti17_ok, ti18_ok, ti19_ok, ti20_ok, ti21_ok, ti22_ok, ti23_ok, ti24_ok, ti26_ok, ti28_ok, ti29_ok, ti30_ok, ti31_ok, trivial⟩,
   ⟨ti32_ok, ti33_ok, ti34_ok, ti35_ok, ti36_ok, ti37_ok, ti38_ok, ti39_ok, ti40_ok, ti41_ok, ti42_ok, ti43_ok, ti44_ok, ti45_ok, ti46_ok, ti47_ok, trivial⟩,
   ⟨ti48_ok, ti49_ok, ti50_ok, ti51_ok, ti52_ok, ti53_ok, ti54_ok, ti56_ok, ti58_ok, ti59_ok, ti60_ok, ti61_ok, ti62_ok, trivial⟩,
   ⟨ti64_ok, ti65_ok, ti66_ok, ti67_ok, ti68_ok, ti69_ok, ti70_ok, ti72_ok, ti73_ok, ti74_ok, ti75_ok, ti76_ok, ti77_ok, ti78_ok, ti79_ok, trivial⟩,
   ⟨ti80_ok, ti81_ok, ti82_ok, ti83_ok, ti84_ok, ti85_ok, ti86_ok, ti87_ok, ti88_ok, ti89_ok, ti90_ok, ti91_ok, ti92_ok, ti93_ok, ti94_ok, ti95_ok, trivial⟩,
   ⟨ti96_ok, ti97_ok, ti98_ok, ti99_ok, ti100_ok, ti101_ok, ti102_ok, ti103_ok, ti104_ok, ti105_ok, ti106_ok, ti107_ok, ti108_ok, ti109_ok, ti110_ok, ti111_ok, trivial⟩,
   ⟨ti113_ok, ti114_ok, ti115_ok, ti116_ok, ti117_ok, ti118_ok, ti119_ok, ti120_ok, ti121_ok, ti122_ok, ti125_ok, ti126_ok, ti127_ok, trivial⟩,
   ⟨ti128_ok, ti129_ok, ti130_ok, ti131_ok, ti132_ok, ti133_ok, ti134_ok, ti135_ok, ti136_ok, ti137_ok, ti138_ok, ti139_ok, ti140_ok, ti141_ok, ti142_ok, ti143_ok, trivial⟩,
   ⟨ti144_ok, ti145_ok, ti146_ok, ti147_ok, ti148_ok, ti149_ok, ti150_ok, ti151_ok, ti152_ok, ti153_ok, ti154_ok, ti155_ok, ti156_ok, ti157_ok, ti158_ok, ti159_ok, trivial⟩,
   ⟨ti160_ok, ti161_ok, ti162_ok, ti163_ok, ti164_ok, ti165_ok, ti166_ok, ti167_ok, ti168_ok, ti169_ok, ti170_ok, ti171_ok, ti173_ok, ti174_ok, ti175_ok, trivial⟩,
   ⟨ti176_ok, ti177_ok, ti178_ok, ti179_ok, ti180_ok, ti181_ok, ti182_ok, ti183_ok, ti184_ok, ti185_ok, ti186_ok, ti187_ok, ti188_ok, ti189_ok, ti190_ok, ti191_ok, trivial⟩,
   ⟨ti192_ok, ti194_ok, ti195_ok, ti196_ok, ti197_ok, ti198_ok, ti199_ok, ti200_ok, ti201_ok, ti202_ok, ti206_ok, ti207_ok, trivial⟩,
   ⟨ti208_ok, ti209_ok, ti210_ok, ti211_ok, ti212_ok, ti213_ok, ti214_ok, trivial⟩, trivial⟩
theorem pt31 (n : Nat) : PTn Try.prog (n + 1) 31 true [.arr .u64 32] := .inr (.inr (.inl ⟨_, _, _, Try.underlying31, Try.underlying30, by kernel_rfl, by kernel_rfl, rfl, rfl⟩))
theorem pt32 (n : Nat) : PTn Try.prog (n + 1) 32 true [.arr .u8 16] := .inr (.inr (.inl ⟨_, _, _, Try.underlying32, Try.underlying5, by kernel_rfl, by kernel_rfl, rfl, rfl⟩))
theorem pt33 (n : Nat) : PTn Try.prog (n + 1) 33 true [.arr .u64 16] := .inr (.inr (.inl ⟨_, _, _, Try.underlying33, Try.underlying30, by kernel_rfl, by kernel_rfl, rfl, rfl⟩))
theorem pt35 (n : Nat) : PTn Try.prog (n + 2) 35 true [.arr .u8 16, .arr .u64 16] := .inr (.inr (.inr ⟨_, Try.underlying35, by kernel_rfl, by kernel_rfl, rfl, ⟨true, [.arr .u8 16], _, rfl, by decide, rfl, pt32 (n + 0), ⟨true, [.arr .u64 16], _, rfl, by decide, rfl, pt33 (n + 0), rfl⟩⟩⟩))
theorem pt37 (n : Nat) : PTn Try.prog (n + 2) 37 true [.bool, .int .u64, .int .i64] := .inr (.inr (.inr ⟨_, Try.underlying37, by kernel_rfl, by kernel_rfl, rfl, ⟨false, [.bool], _, rfl, by decide, rfl, .inr (.inl ⟨Try.underlying4, rfl, rfl⟩), ⟨false, [.int .u64], _, rfl, by decide, rfl, .inl ⟨_, Try.underlying30, rfl, rfl⟩, ⟨false, [.int .i64], _, rfl, by decide, rfl, .inl ⟨_, Try.underlying3, rfl, rfl⟩, rfl⟩⟩⟩⟩))
theorem pt39 (n : Nat) : PTn Try.prog (n + 3) 39 true [.int .u64, .arr .u64 32, .int .i64, .bool, .int .u64, .int .u64, .int .u64, .int .u64, .int .u64, .int .u64, .int .u64, .int .u64, .int .u64, .int .u64, .int .u64, .int .u64, .arr .u8 16, .arr .u64 16, .bool, .int .u64, .int .i64] := .inr (.inr (.inr ⟨_, Try.underlying39, by kernel_rfl, by kernel_rfl, rfl, ⟨false, [.int .u64], _, rfl, by decide, rfl, .inl ⟨_, Try.underlying30, rfl, rfl⟩, ⟨true, [.arr .u64 32], _, rfl, by decide, rfl, pt31 (n + 1), ⟨false, [.int .i64], _, rfl, by decide, rfl, .inl ⟨_, Try.underlying3, rfl, rfl⟩, ⟨false, [.bool], _, rfl, by decide, rfl, .inr (.inl ⟨Try.underlying4, rfl, rfl⟩), ⟨false, [.int .u64], _, rfl, by decide, rfl, .inl ⟨_, Try.underlying30, rfl, rfl⟩, ⟨false, [.int .u64], _, rfl, by decide, rfl, .inl ⟨_, Try.underlying30, rfl, rfl⟩, ⟨false, [.int .u64], _, rfl, by decide, rfl, .inl ⟨_, Try.underlying30, rfl, rfl⟩, ⟨false, [.int .u64], _, rfl, by decide, rfl, .inl ⟨_, Try.underlying30, rfl, rfl⟩, ⟨false, [.int .u64], _, rfl, by decide, rfl, .inl ⟨_, Try.underlying30, rfl, rfl⟩, ⟨false, [.int .u64], _, rfl, by decide, rfl, .inl ⟨_, Try.underlying30, rfl, rfl⟩, ⟨false, [.int .u64], _, rfl, by decide, rfl, .inl ⟨_, Try.underlying30, rfl, rfl⟩, ⟨false, [.int .u64], _, rfl, by decide, rfl, .inl ⟨_, Try.underlying30, rfl, rfl⟩, ⟨false, [.int .u64], _, rfl, by decide, rfl, .inl ⟨_, Try.underlying30, rfl, rfl⟩, ⟨false, [.int .u64], _, rfl, by decide, rfl, .inl ⟨_, Try.underlying30, rfl, rfl⟩, ⟨false, [.int .u64], _, rfl, by decide, rfl, .inl ⟨_, Try.underlying30, rfl, rfl⟩, ⟨false, [.int .u64], _, rfl, by decide, rfl, .inl ⟨_, Try.underlying30, rfl, rfl⟩, ⟨true, [.arr .u8 16, .arr .u64 16], _, rfl, by decide, rfl, pt35 (n + 0), ⟨true, [.bool, .int .u64, .int .i64], _, rfl, by decide, rfl, pt37 (n + 0), rfl⟩⟩⟩⟩⟩⟩⟩⟩⟩⟩⟩⟩⟩⟩⟩⟩⟩⟩⟩))
theorem pt102 (n : Nat) : PTn Try.prog (n + 2) 102 true [.int .i64, .int .i64, .int .i64, .int .u64, .int .u32, .int .i64, .int .u64, .int .u64, .int .i64, .int .u64, .int .i64, .int .u64, .int .i64, .int .u64, .int .u64, .int .i64] := .inr (.inr (.inr ⟨_, Try.underlying102, by kernel_rfl, by kernel_rfl, rfl, ⟨false, [.int .i64], _, rfl, by decide, rfl, .inl ⟨_, Try.underlying3, rfl, rfl⟩, ⟨false, [.int .i64], _, rfl, by decide, rfl, .inl ⟨_, Try.underlying3, rfl, rfl⟩, ⟨false, [.int .i64], _, rfl, by decide, rfl, .inl ⟨_, Try.underlying3, rfl, rfl⟩, ⟨false, [.int .u64], _, rfl, by decide, rfl, .inl ⟨_, Try.underlying30, rfl, rfl⟩, ⟨false, [.int .u32], _, rfl, by decide, rfl, .inl ⟨_, Try.underlying40, rfl, rfl⟩, ⟨false, [.int .i64], _, rfl, by decide, rfl, .inl ⟨_, Try.underlying3, rfl, rfl⟩, ⟨false, [.int .u64], _, rfl, by decide, rfl, .inl ⟨_, Try.underlying30, rfl, rfl⟩, ⟨false, [.int .u64], _, rfl, by decide, rfl, .inl ⟨_, Try.underlying30, rfl, rfl⟩, ⟨false, [.int .i64], _, rfl, by decide, rfl, .inl ⟨_, Try.underlying3, rfl, rfl⟩, ⟨false, [.int .u64], _, rfl, by decide, rfl, .inl ⟨_, Try.underlying30, rfl, rfl⟩, ⟨false, [.int .i64], _, rfl, by decide, rfl, .inl ⟨_, Try.underlying3, rfl, rfl⟩, ⟨false, [.int .u64], _, rfl, by decide, rfl, .inl ⟨_, Try.underlying30, rfl, rfl⟩, ⟨false, [.int .i64], _, rfl, by decide, rfl, .inl ⟨_, Try.underlying3, rfl, rfl⟩, ⟨false, [.int .u64], _, rfl, by decide, rfl, .inl ⟨_, Try.underlying30, rfl, rfl⟩, ⟨false, [.int .u64], _, rfl, by decide, rfl, .inl ⟨_, Try.underlying30, rfl, rfl⟩, ⟨false, [.int .i64], _, rfl, by decide, rfl, .inl ⟨_, Try.underlying3, rfl, rfl⟩, rfl⟩⟩⟩⟩⟩⟩⟩⟩⟩⟩⟩⟩⟩⟩⟩⟩⟩))
def eqs : List (Nat × List KS) := [(31, [.arr .u64 32]),
  (32, [.arr .u8 16]),
  (33, [.arr .u64 16]),
  (35, [.arr .u8 16, .arr .u64 16]),
  (37, [.bool, .int .u64, .int .i64]),
  (39, [.int .u64, .arr .u64 32, .int .i64, .bool, .int .u64, .int .u64, .int .u64, .int .u64, .int .u64, .int .u64, .int .u64, .int .u64, .int .u64, .int .u64, .int .u64, .int .u64, .arr .u8 16, .arr .u64 16, .bool, .int .u64, .int .i64]),
  (102, [.int .i64, .int .i64, .int .i64, .int .u64, .int .u32, .int .i64, .int .u64, .int .u64, .int .i64, .int .u64, .int .i64, .int .u64, .int .i64, .int .u64, .int .u64, .int .i64])]
theorem eqs_ok : okE Try.prog eqs := ⟨⟨by kernel_rfl, _, by decide, pt31 0⟩,
  ⟨by kernel_rfl, _, by decide, pt32 0⟩,
  ⟨by kernel_rfl, _, by decide, pt33 0⟩,
  ⟨by kernel_rfl, _, by decide, pt35 0⟩,
  ⟨by kernel_rfl, _, by decide, pt37 0⟩,
  ⟨by kernel_rfl, _, by decide, pt39 0⟩,
  ⟨by kernel_rfl, _, by decide, pt102 0⟩,
  trivial⟩
def mths : List (Nat × List (String × FuncId)) := [(75, [("anvil/save.bytes", 39), ("anvil/save.double", 185), ("anvil/save.flag", 186), ("anvil/save.list", 187), ("anvil/save.number", 42), ("anvil/save.octet", 188), ("anvil/save.pages", 41), ("anvil/save.place", 189), ("anvil/save.word", 190)]),
  (89, [("anvil/save.double", 191), ("anvil/save.flag", 192), ("anvil/save.list", 193), ("anvil/save.number", 53), ("anvil/save.octet", 194), ("anvil/save.pages", 54), ("anvil/save.place", 195), ("anvil/save.take", 87), ("anvil/save.word", 196)]),
  (93, [("anvil/anvilref16.cpu", 55), ("anvil/anvilref16.devices", 56), ("anvil/anvilref16.flag", 89), ("anvil/anvilref16.list", 90), ("anvil/anvilref16.num", 88), ("anvil/anvilref16.ram", 57), ("anvil/anvilref16.take", 91)]),
  (106, [("anvil/watch.broken", 67), ("anvil/watch.row", 66)]),
  (162, [("anvil/watch.bytes", 121), ("anvil/watch.counts", 131), ("anvil/watch.first", 108), ("anvil/watch.inRam", 156), ("anvil/watch.kept", 126), ("anvil/watch.locks", 125), ("anvil/watch.memory", 123), ("anvil/watch.output", 137), ("anvil/watch.placed", 167), ("anvil/watch.registers", 119), ("anvil/watch.rules", 95), ("anvil/watch.second", 109), ("anvil/watch.storedAt", 134), ("anvil/watch.stores", 154), ("anvil/watch.trap", 127), ("anvil/watch.trapped", 139), ("anvil/watch.within", 155)]),
  (170, [("anvil/bus.raised", 197), ("anvil/bus.set", 75)])]
theorem mths_ok : okM Try.prog mths := ⟨⟨⟨_, Try.underlying75⟩, ⟨⟨{ name := "anvil/save.bytes", sig := 78, path := #[], func := some (39, true) }, by kernel_rfl, rfl, rfl⟩, ⟨{ name := "anvil/save.double", sig := 139, path := #[], func := some (185, true) }, by kernel_rfl, rfl, rfl⟩, ⟨{ name := "anvil/save.flag", sig := 143, path := #[], func := some (186, true) }, by kernel_rfl, rfl, rfl⟩, ⟨{ name := "anvil/save.list", sig := 152, path := #[], func := some (187, true) }, by kernel_rfl, rfl, rfl⟩, ⟨{ name := "anvil/save.number", sig := 81, path := #[], func := some (42, true) }, by kernel_rfl, rfl, rfl⟩, ⟨{ name := "anvil/save.octet", sig := 146, path := #[], func := some (188, true) }, by kernel_rfl, rfl, rfl⟩, ⟨{ name := "anvil/save.pages", sig := 78, path := #[], func := some (41, true) }, by kernel_rfl, rfl, rfl⟩, ⟨{ name := "anvil/save.place", sig := 141, path := #[], func := some (189, true) }, by kernel_rfl, rfl, rfl⟩, ⟨{ name := "anvil/save.word", sig := 149, path := #[], func := some (190, true) }, by kernel_rfl, rfl, rfl⟩, trivial⟩⟩,
  ⟨⟨_, Try.underlying89⟩, ⟨⟨{ name := "anvil/save.double", sig := 139, path := #[], func := some (191, true) }, by kernel_rfl, rfl, rfl⟩, ⟨{ name := "anvil/save.flag", sig := 143, path := #[], func := some (192, true) }, by kernel_rfl, rfl, rfl⟩, ⟨{ name := "anvil/save.list", sig := 152, path := #[], func := some (193, true) }, by kernel_rfl, rfl, rfl⟩, ⟨{ name := "anvil/save.number", sig := 92, path := #[], func := some (53, true) }, by kernel_rfl, rfl, rfl⟩, ⟨{ name := "anvil/save.octet", sig := 146, path := #[], func := some (194, true) }, by kernel_rfl, rfl, rfl⟩, ⟨{ name := "anvil/save.pages", sig := 83, path := #[], func := some (54, true) }, by kernel_rfl, rfl, rfl⟩, ⟨{ name := "anvil/save.place", sig := 141, path := #[], func := some (195, true) }, by kernel_rfl, rfl, rfl⟩, ⟨{ name := "anvil/save.take", sig := 159, path := #[], func := some (87, true) }, by kernel_rfl, rfl, rfl⟩, ⟨{ name := "anvil/save.word", sig := 149, path := #[], func := some (196, true) }, by kernel_rfl, rfl, rfl⟩, trivial⟩⟩,
  ⟨⟨_, Try.underlying93⟩, ⟨⟨{ name := "anvil/anvilref16.cpu", sig := 96, path := #[], func := some (55, true) }, by kernel_rfl, rfl, rfl⟩, ⟨{ name := "anvil/anvilref16.devices", sig := 97, path := #[], func := some (56, true) }, by kernel_rfl, rfl, rfl⟩, ⟨{ name := "anvil/anvilref16.flag", sig := 22, path := #[], func := some (89, true) }, by kernel_rfl, rfl, rfl⟩, ⟨{ name := "anvil/anvilref16.list", sig := 160, path := #[], func := some (90, true) }, by kernel_rfl, rfl, rfl⟩, ⟨{ name := "anvil/anvilref16.num", sig := 92, path := #[], func := some (88, true) }, by kernel_rfl, rfl, rfl⟩, ⟨{ name := "anvil/anvilref16.ram", sig := 83, path := #[], func := some (57, true) }, by kernel_rfl, rfl, rfl⟩, ⟨{ name := "anvil/anvilref16.take", sig := 159, path := #[], func := some (91, true) }, by kernel_rfl, rfl, rfl⟩, trivial⟩⟩,
  ⟨⟨_, Try.underlying106⟩, ⟨⟨{ name := "anvil/watch.broken", sig := 111, path := #[], func := some (67, true) }, by kernel_rfl, rfl, rfl⟩, ⟨{ name := "anvil/watch.row", sig := 110, path := #[], func := some (66, true) }, by kernel_rfl, rfl, rfl⟩, trivial⟩⟩,
  ⟨⟨_, Try.underlying162⟩, ⟨⟨{ name := "anvil/watch.bytes", sig := 179, path := #[], func := some (121, true) }, by kernel_rfl, rfl, rfl⟩, ⟨{ name := "anvil/watch.counts", sig := 22, path := #[], func := some (131, true) }, by kernel_rfl, rfl, rfl⟩, ⟨{ name := "anvil/watch.first", sig := 166, path := #[], func := some (108, true) }, by kernel_rfl, rfl, rfl⟩, ⟨{ name := "anvil/watch.inRam", sig := 22, path := #[], func := some (156, true) }, by kernel_rfl, rfl, rfl⟩, ⟨{ name := "anvil/watch.kept", sig := 22, path := #[], func := some (126, true) }, by kernel_rfl, rfl, rfl⟩, ⟨{ name := "anvil/watch.locks", sig := 22, path := #[], func := some (125, true) }, by kernel_rfl, rfl, rfl⟩, ⟨{ name := "anvil/watch.memory", sig := 22, path := #[], func := some (123, true) }, by kernel_rfl, rfl, rfl⟩, ⟨{ name := "anvil/watch.output", sig := 22, path := #[], func := some (137, true) }, by kernel_rfl, rfl, rfl⟩, ⟨{ name := "anvil/watch.placed", sig := 22, path := #[], func := some (167, true) }, by kernel_rfl, rfl, rfl⟩, ⟨{ name := "anvil/watch.registers", sig := 22, path := #[], func := some (119, true) }, by kernel_rfl, rfl, rfl⟩, ⟨{ name := "anvil/watch.rules", sig := 166, path := #[], func := some (95, true) }, by kernel_rfl, rfl, rfl⟩, ⟨{ name := "anvil/watch.second", sig := 166, path := #[], func := some (109, true) }, by kernel_rfl, rfl, rfl⟩, ⟨{ name := "anvil/watch.storedAt", sig := 182, path := #[], func := some (134, true) }, by kernel_rfl, rfl, rfl⟩, ⟨{ name := "anvil/watch.stores", sig := 22, path := #[], func := some (154, true) }, by kernel_rfl, rfl, rfl⟩, ⟨{ name := "anvil/watch.trap", sig := 22, path := #[], func := some (127, true) }, by kernel_rfl, rfl, rfl⟩, ⟨{ name := "anvil/watch.trapped", sig := 22, path := #[], func := some (139, true) }, by kernel_rfl, rfl, rfl⟩, ⟨{ name := "anvil/watch.within", sig := 180, path := #[], func := some (155, true) }, by kernel_rfl, rfl, rfl⟩, trivial⟩⟩,
  ⟨⟨_, Try.underlying170⟩, ⟨⟨{ name := "anvil/bus.raised", sig := 22, path := #[], func := some (197, true) }, by kernel_rfl, rfl, rfl⟩, ⟨{ name := "anvil/bus.set", sig := 133, path := #[], func := some (75, true) }, by kernel_rfl, rfl, rfl⟩, trivial⟩⟩,
  trivial⟩
noncomputable def TB : Tbl := { P := Try.prog, ty := tblT tys, mth := mthL mths, eqs := eqL eqs, mixed := by kernel_rfl, tyOk := tblT_ok tys_ok, eqOk := eqL_ok eqs_ok, mthOk := mthL_ok mths_ok }
end Go.Proofs.Ytghcdkpgcanpgaa

/- Machine numbers as bit vectors: what the walker's arithmetic comes to. Plain lemmas, no condition. -/
namespace Go.Anv
open Go

theorem wrap_u8 (x : Int) : IntKind.u8.wrap x = ((BitVec.ofInt 8 x).toNat : Int) := by
  simp [IntKind.wrap, IntKind.bits, IntKind.signed, BitVec.toNat_ofInt]; omega
theorem wrap_u16 (x : Int) : IntKind.u16.wrap x = ((BitVec.ofInt 16 x).toNat : Int) := by
  simp [IntKind.wrap, IntKind.bits, IntKind.signed, BitVec.toNat_ofInt]; omega
theorem wrap_u32 (x : Int) : IntKind.u32.wrap x = ((BitVec.ofInt 32 x).toNat : Int) := by
  simp [IntKind.wrap, IntKind.bits, IntKind.signed, BitVec.toNat_ofInt]; omega
theorem wrap_u64 (x : Int) : IntKind.u64.wrap x = ((BitVec.ofInt 64 x).toNat : Int) := by
  simp [IntKind.wrap, IntKind.bits, IntKind.signed, BitVec.toNat_ofInt]; omega
theorem wrap_i64 (x : Int) : IntKind.i64.wrap x = (BitVec.ofInt 64 x).toInt := by
  simp [IntKind.wrap, IntKind.bits, IntKind.signed, BitVec.toInt_ofInt, Int.bmod]
  split <;> split <;> omega
theorem wrap_i32 (x : Int) : IntKind.i32.wrap x = (BitVec.ofInt 32 x).toInt := by
  simp [IntKind.wrap, IntKind.bits, IntKind.signed, BitVec.toInt_ofInt, Int.bmod]
  split <;> split <;> omega

/-- In range nothing is lost. -/
theorem i64_in {x : Int} (h1 : -9223372036854775808 ≤ x) (h2 : x ≤ 9223372036854775807) : IntKind.i64.wrap x = x := by
  simp [IntKind.wrap, IntKind.bits, IntKind.signed]
  omega

@[simp] theorem ofInt_toNat {w : Nat} (a : BitVec w) : BitVec.ofInt w (a.toNat : Int) = a := by simp

section
variable (x y : Int)
theorem and_u8 : bitX .and .u8 x y = ((BitVec.ofInt 8 x &&& BitVec.ofInt 8 y).toNat : Int) := by show IntKind.u8.wrap _ = _; rw [wrap_u8]; exact congrArg (fun z : BitVec 8 => (z.toNat : Int)) (ofInt_toNat _)
theorem or_u8 : bitX .or .u8 x y = ((BitVec.ofInt 8 x ||| BitVec.ofInt 8 y).toNat : Int) := by show IntKind.u8.wrap _ = _; rw [wrap_u8]; exact congrArg (fun z : BitVec 8 => (z.toNat : Int)) (ofInt_toNat _)
theorem xor_u8 : bitX .xor .u8 x y = ((BitVec.ofInt 8 x ^^^ BitVec.ofInt 8 y).toNat : Int) := by show IntKind.u8.wrap _ = _; rw [wrap_u8]; exact congrArg (fun z : BitVec 8 => (z.toNat : Int)) (ofInt_toNat _)
theorem andNot_u8 : bitX .andNot .u8 x y = ((BitVec.ofInt 8 x &&& ~~~BitVec.ofInt 8 y).toNat : Int) := by show IntKind.u8.wrap _ = _; rw [wrap_u8]; exact congrArg (fun z : BitVec 8 => (z.toNat : Int)) (ofInt_toNat _)
theorem and_u32 : bitX .and .u32 x y = ((BitVec.ofInt 32 x &&& BitVec.ofInt 32 y).toNat : Int) := by show IntKind.u32.wrap _ = _; rw [wrap_u32]; exact congrArg (fun z : BitVec 32 => (z.toNat : Int)) (ofInt_toNat _)
theorem or_u32 : bitX .or .u32 x y = ((BitVec.ofInt 32 x ||| BitVec.ofInt 32 y).toNat : Int) := by show IntKind.u32.wrap _ = _; rw [wrap_u32]; exact congrArg (fun z : BitVec 32 => (z.toNat : Int)) (ofInt_toNat _)
theorem xor_u32 : bitX .xor .u32 x y = ((BitVec.ofInt 32 x ^^^ BitVec.ofInt 32 y).toNat : Int) := by show IntKind.u32.wrap _ = _; rw [wrap_u32]; exact congrArg (fun z : BitVec 32 => (z.toNat : Int)) (ofInt_toNat _)
theorem andNot_u32 : bitX .andNot .u32 x y = ((BitVec.ofInt 32 x &&& ~~~BitVec.ofInt 32 y).toNat : Int) := by show IntKind.u32.wrap _ = _; rw [wrap_u32]; exact congrArg (fun z : BitVec 32 => (z.toNat : Int)) (ofInt_toNat _)
theorem and_u64 : bitX .and .u64 x y = ((BitVec.ofInt 64 x &&& BitVec.ofInt 64 y).toNat : Int) := by show IntKind.u64.wrap _ = _; rw [wrap_u64]; exact congrArg (fun z : BitVec 64 => (z.toNat : Int)) (ofInt_toNat _)
theorem or_u64 : bitX .or .u64 x y = ((BitVec.ofInt 64 x ||| BitVec.ofInt 64 y).toNat : Int) := by show IntKind.u64.wrap _ = _; rw [wrap_u64]; exact congrArg (fun z : BitVec 64 => (z.toNat : Int)) (ofInt_toNat _)
theorem xor_u64 : bitX .xor .u64 x y = ((BitVec.ofInt 64 x ^^^ BitVec.ofInt 64 y).toNat : Int) := by show IntKind.u64.wrap _ = _; rw [wrap_u64]; exact congrArg (fun z : BitVec 64 => (z.toNat : Int)) (ofInt_toNat _)
theorem andNot_u64 : bitX .andNot .u64 x y = ((BitVec.ofInt 64 x &&& ~~~BitVec.ofInt 64 y).toNat : Int) := by show IntKind.u64.wrap _ = _; rw [wrap_u64]; exact congrArg (fun z : BitVec 64 => (z.toNat : Int)) (ofInt_toNat _)
theorem ofInt64_nat (a : BitVec 64) : (BitVec.ofInt 64 (a.toNat : Int)).toInt = a.toInt := by rw [ofInt_toNat]
theorem and_i64 : bitX .and .i64 x y = (BitVec.ofInt 64 x &&& BitVec.ofInt 64 y).toInt := by show IntKind.i64.wrap _ = _; rw [wrap_i64]; exact ofInt64_nat _
theorem or_i64 : bitX .or .i64 x y = (BitVec.ofInt 64 x ||| BitVec.ofInt 64 y).toInt := by show IntKind.i64.wrap _ = _; rw [wrap_i64]; exact ofInt64_nat _
theorem xor_i64 : bitX .xor .i64 x y = (BitVec.ofInt 64 x ^^^ BitVec.ofInt 64 y).toInt := by show IntKind.i64.wrap _ = _; rw [wrap_i64]; exact ofInt64_nat _
theorem andNot_i64 : bitX .andNot .i64 x y = (BitVec.ofInt 64 x &&& ~~~BitVec.ofInt 64 y).toInt := by show IntKind.i64.wrap _ = _; rw [wrap_i64]; exact ofInt64_nat _
end

theorem fdiv_pow {w : Nat} (a : BitVec w) (n : Nat) : ((a.toNat : Int)).fdiv (2 ^ n) = ((a >>> n).toNat : Int) := by
  rw [BitVec.toNat_ushiftRight, Nat.shiftRight_eq_div_pow, Int.fdiv_eq_ediv_of_nonneg _ (by exact Int.le_of_lt (Int.pow_pos (by decide)))]
  simp

theorem mul_pow {w : Nat} (a : BitVec w) (n : Nat) : BitVec.ofInt w ((a.toNat : Int) * 2 ^ n) = a <<< n := by
  apply BitVec.eq_of_toNat_eq
  rw [BitVec.toNat_shiftLeft, Nat.shiftLeft_eq, BitVec.toNat_ofInt]
  have : ((a.toNat : Int) * 2 ^ n) = ((a.toNat * 2 ^ n : Nat) : Int) := by simp
  rw [this]
  have h2 : ((2 ^ w : Nat) : Int) = (2 ^ w : Int) := by simp
  rw [← Int.natCast_emod, Int.toNat_natCast]

theorem beq_nat {w : Nat} (a b : BitVec w) : ((a.toNat : Int) == (b.toNat : Int)) = (a == b) := by
  rw [Bool.eq_iff_iff, beq_iff_eq, beq_iff_eq, ← BitVec.toNat_inj]
  omega

theorem beq_lit {w : Nat} (a : BitVec w) (n : Int) (h0 : 0 ≤ n) (h1 : n < 2 ^ w) : ((a.toNat : Int) == n) = (a == BitVec.ofInt w n) := by
  rw [← beq_nat]
  have : ((BitVec.ofInt w n).toNat : Int) = n := by
    rw [BitVec.toNat_ofInt]
    have h2 : ((2 ^ w : Nat) : Int) = (2 ^ w : Int) := by simp
    rw [h2, Int.emod_eq_of_lt h0 h1, Int.toNat_of_nonneg h0]
  rw [this]

theorem bne_nat {w : Nat} (a b : BitVec w) : ((a.toNat : Int) != (b.toNat : Int)) = (a != b) := by rw [bne, bne, beq_nat]
theorem bne_lit {w : Nat} (a : BitVec w) (n : Int) (h0 : 0 ≤ n) (h1 : n < 2 ^ w) : ((a.toNat : Int) != n) = (a != BitVec.ofInt w n) := by rw [bne, bne, beq_lit a n h0 h1]

theorem lt_nat {w : Nat} (a b : BitVec w) : decide ((a.toNat : Int) < (b.toNat : Int)) = decide (a < b) := decide_eq_decide.2 (by rw [BitVec.lt_def]; omega)
theorem le_nat {w : Nat} (a b : BitVec w) : decide ((a.toNat : Int) ≤ (b.toNat : Int)) = decide (a ≤ b) := decide_eq_decide.2 (by rw [BitVec.le_def]; omega)
theorem gt_nat {w : Nat} (a b : BitVec w) : decide ((a.toNat : Int) > (b.toNat : Int)) = decide (b < a) := decide_eq_decide.2 (by rw [BitVec.lt_def]; omega)
theorem ge_nat {w : Nat} (a b : BitVec w) : decide ((a.toNat : Int) ≥ (b.toNat : Int)) = decide (b ≤ a) := decide_eq_decide.2 (by rw [BitVec.le_def]; omega)

end Go.Anv

/- The engine, part 8: loops, by the slots that they carry. Plain theorems, no condition. -/
namespace Go.Anv
open Go

/-- The slots that a piece of code writes. -/
def writesO : List Oper → List Nat
  | [] => []
  | o :: r => match o.dst with
    | some d => d :: writesO r
    | none => writesO r

def writes : Code → List Nat
  | .region _ ops _ => writesO ops.toList
  | .seq a b => writes a ++ writes b
  | .cond _ a b => writes a ++ writes b
  | .block _ a => writes a
  | .loop a => writes a
  | .scope a => writes a
  | _ => []

def forgetK (l : List Nat) : List EV → (List EV → Prop) → Prop :=
  List.rec (motive := fun _ => List EV → (List EV → Prop) → Prop) (fun ts k => k ts) (fun d _ ih ts k => updK ts d .junk fun ts => ih ts k) l

def laterK (l : List (Nat × EV)) : List EV → (List EV → Prop) → Prop :=
  List.rec (motive := fun _ => List EV → (List EV → Prop) → Prop) (fun ts k => k ts) (fun x _ ih ts k => match x with
    | (d, v) => forceE v fun v => updK ts d v fun ts => ih ts k) l

def forgetT : List Nat → List EV → List EV
  | [], ts => ts
  | d :: r, ts => forgetT r (upd ts d .junk)

def laterT : List (Nat × EV) → List EV → List EV
  | [], ts => ts
  | (d, v) :: r, ts => laterT r (upd ts d v)

theorem forgetK_eq : ∀ (M : List Nat) (ts : List EV) (k : List EV → Prop), forgetK M ts k = k (forgetT M ts)
  | [], _, _ => rfl
  | d :: r, ts, k => by
    show (updK ts d .junk fun ts => forgetK r ts k) = _
    rw [updK_eq, forgetK_eq r]
    rfl

theorem laterK_eq : ∀ (C : List (Nat × EV)) (ts : List EV) (k : List EV → Prop), laterK C ts k = k (laterT C ts)
  | [], _, _ => rfl
  | (d, v) :: r, ts, k => by
    show (forceE v fun v => updK ts d v fun ts => laterK r ts k) = _
    rw [forceE_eq, updK_eq, laterK_eq r]
    rfl

/-- The state at a round's head: the slots C, the heap H; what the round writes besides is not known. -/
def headK (c : Code) (s : St) (C : List (Nat × EV)) (H : List Blk) (k : St → Prop) : Prop :=
  forgetK (writes c) s.tmps fun ts => laterK C ts fun ts => k ⟨ts, H⟩

theorem headK_eq (c : Code) (s : St) (C : List (Nat × EV)) (H : List Blk) (k : St → Prop) : headK c s C H k = k ⟨laterT C (forgetT (writes c) s.tmps), H⟩ := by
  simp only [headK, forgetK_eq, laterK_eq]

def leS (s t : St) : Prop := eqvT s.tmps t.tmps ∧ eqvH s.heap t.heap

theorem leS.le {s t : St} (h : leS s t) : s.le t := ⟨h.1, h.2⟩

def roundK {A : Type} (c : Code) (s : St) (C : A → List (Nat × EV)) (H : A → List Blk) (I : A → Prop) (μ : A → Nat) (x : A) (K : Exit → St → Prop) : Exit → St → Prop
  | .normal, s' => ∃ y, I y ∧ μ y < μ x ∧ headK c s (C y) (H y) fun t => leS s' t
  | e, s' => K e s'

/-- **A loop, by what its slots and the heap hold at each round's head.** -/
theorem loop_by {T : Tbl} {O : Org} {A : Type} {c : Code} {s : St} {K : Exit → St → Prop} (on : O.E.n = O.h.length) (C : A → List (Nat × EV)) (H : A → List Blk) (I : A → Prop) (μ : A → Nat) (x0 : A) (h0 : I x0)
    (hs : headK c s (C x0) (H x0) fun t => leS s t)
    (round : ∀ x, I x → headK c s (C x) (H x) fun t => wpx T O c t (roundK c s C H I μ x K)) : LoopG T O c s K := by
  refine loop_rule on (fun x => ⟨laterT (C x) (forgetT (writes c) s.tmps), H x⟩) I μ x0 h0 ?_ (fun x hx => ?_)
  · rw [headK_eq] at hs
    exact hs.le
  · have h := round x hx
    rw [headK_eq] at h
    have hk : roundK c s C H I μ x K = (fun e s' => match e with
      | .normal => ∃ y, I y ∧ s'.le (⟨laterT (C y) (forgetT (writes c) s.tmps), H y⟩ : St) ∧ μ y < μ x
      | e => K e s') := by
      funext e s'
      cases e <;> simp only [roundK]
      apply propext
      constructor
      · rintro ⟨y, h1, h2, h3⟩
        rw [headK_eq] at h3
        exact ⟨y, h1, h3.le, h2⟩
      · rintro ⟨y, h1, h2, h3⟩
        exact ⟨y, h1, h3, by rw [headK_eq]; exact ⟨h2.1, h2.2⟩⟩
    rw [hk] at h
    exact h

theorem eqvT_nil : eqvT [] [] := trivial
theorem eqvT_junk {x : EV} {r r' : List EV} (h : eqvT r r') : eqvT (x :: r) (.junk :: r') := by
  unfold eqvT
  exact ⟨by unfold eqvE; cases x <;> trivial, h⟩
theorem eqvT_same {x : EV} {r r' : List EV} (h : eqvT r r') : eqvT (x :: r) (x :: r') := ⟨eqvE_refl x, h⟩
theorem eqvT_int {k : IntKind} {a b : Int} {r r' : List EV} (h1 : a = b) (h : eqvT r r') : eqvT (.s (.int k a) :: r) (.s (.int k b) :: r') := ⟨⟨rfl, h1⟩, h⟩
theorem eqvT_bool {a b : Bool} {r r' : List EV} (h1 : a = b) (h : eqvT r r') : eqvT (.s (.bool a) :: r) (.s (.bool b) :: r') := ⟨h1, h⟩
theorem eqvT_agg {a b : List Seg} {r r' : List EV} (h1 : eqvS a b) (h : eqvT r r') : eqvT (.agg a :: r) (.agg b :: r') := ⟨h1, h⟩
theorem eqvT_str {a b : ByteArray} {r r' : List EV} (h1 : a = b) (h : eqvT r r') : eqvT (.s (.str a) :: r) (.s (.str b) :: r') := ⟨h1, h⟩
theorem eqvT_gs {b o n c b' o' n' c' : Nat} {r r' : List EV} (h1 : b = b' ∧ o = o' ∧ n = n' ∧ c = c') (h : eqvT r r') : eqvT (.s (.gs b o n c) :: r) (.s (.gs b' o' n' c') :: r') := ⟨h1, h⟩
theorem eqvT_sgs {b o n c b' o' n' c' : Nat} {r r' : List EV} (h1 : b = b' ∧ o = o' ∧ n = n' ∧ c = c') (h : eqvT r r') : eqvT (.s (.slice b o n c) :: r) (.s (.gs b' o' n' c') :: r') := ⟨h1, h⟩
theorem eqvH_nil : eqvH [] [] := trivial
theorem eqvH_same {x : Blk} {r r' : List Blk} (h : eqvH r r') : eqvH (x :: r) (x :: r') := ⟨eqvB_refl x, h⟩
theorem eqvH_cells {m : Bool} {sp : Nat} {a b : List Seg} {r r' : List Blk} (h1 : eqvS a b) (h : eqvH r r') : eqvH (.cells m a sp :: r) (.cells m b sp :: r') := ⟨⟨rfl, rfl, h1⟩, h⟩
theorem eqvS_junk {x : SV} {r r' : List Seg} (h : eqvS r r') : eqvS (.one x :: r) (.one .junk :: r') := ⟨by cases x <;> trivial, h⟩
theorem eqvS_nil : eqvS [] [] := trivial
theorem eqvS_same {x : Seg} {r r' : List Seg} (h : eqvS r r') : eqvS (x :: r) (x :: r') := by
  cases x with
  | one v => exact ⟨eqvV_refl v, h⟩
  | ints k n f => exact ⟨⟨rfl, rfl, fun _ _ => rfl⟩, h⟩
theorem eqvS_int {k : IntKind} {a b : Int} {r r' : List Seg} (h1 : a = b) (h : eqvS r r') : eqvS (.one (.int k a) :: r) (.one (.int k b) :: r') := ⟨⟨rfl, h1⟩, h⟩
theorem eqvS_bool {a b : Bool} {r r' : List Seg} (h1 : a = b) (h : eqvS r r') : eqvS (.one (.bool a) :: r) (.one (.bool b) :: r') := ⟨h1, h⟩
theorem eqvS_ints {k : IntKind} {n : Nat} {f g : Nat → Int} {r r' : List Seg} (h1 : ∀ j, j < n → f j = g j) (h : eqvS r r') : eqvS (.ints k n f :: r) (.ints k n g :: r') := ⟨⟨rfl, rfl, h1⟩, h⟩

end Go.Anv

/- The engine, part 9: a region that draws its order. What yields its value whatever comes first is taken first; all orders of the rest. Plain theorems; their condition: no panic is let through. -/
namespace Go.Anv
open Go

/-! ### values that are told -/

mutual
def detV : SV → Bool
  | .junk => false
  | .func _ a c => detL a && detL c
  | .iface _ _ cs => detL cs
  | _ => true
def detL : List SV → Bool
  | [] => true
  | v :: r => detV v && detL r
end

def detS : List Seg → Bool
  | [] => true
  | .one v :: r => detV v && detS r
  | .ints .. :: r => detS r

mutual
def detE : EV → Bool
  | .s v => detV v
  | .agg cs => detS cs
  | .tuple vs => detT vs
  | .gd _ v => detE v
  | .junk => false
def detT : List EV → Bool
  | [] => true
  | v :: r => detE v && detT r
end

mutual
theorem detV_eq {E : Emb} : ∀ (e : SV) (u v : Value), detV e = true → denV E e u → denV E e v → u = v
  | .junk, _, _, hd, _, _ => by simp [detV] at hd
  | .int .., _, _, _, h, k => by simp only [denV] at h k; rw [h, k]
  | .bool _, _, _, _, h, k => by simp only [denV] at h k; rw [h, k]
  | .str _, _, _, _, h, k => by simp only [denV] at h k; rw [h, k]
  | .ptr .., _, _, _, h, k => by simp only [denV] at h k; rw [h.2, k.2]
  | .pix .., _, _, _, h, k => by simp only [denV] at h k; rw [h.2, k.2]
  | .nilptr, _, _, _, h, k => by simp only [denV] at h k; rw [h, k]
  | .slice .., _, _, _, h, k => by simp only [denV] at h k; rw [h.2, k.2]
  | .nilslice, _, _, _, h, k => by simp only [denV] at h k; rw [h, k]
  | .gs .., _, _, _, h, k => by simp only [denV] at h k; rw [h.2.2, k.2.2]
  | .map _, _, _, _, h, k => by simp only [denV] at h k; rw [h.2, k.2]
  | .nilmap, _, _, _, h, k => by simp only [denV] at h k; rw [h, k]
  | .func fn a c, _, _, hd, h, k => by
    simp only [detV, Bool.and_eq_true] at hd
    simp only [denV] at h k
    obtain ⟨f1, c1, rfl, h1, h2⟩ := h
    obtain ⟨f2, c2, rfl, k1, k2⟩ := k
    rw [Array.toList_inj.1 (detL_eq a _ _ hd.1 h1 k1), Array.toList_inj.1 (detL_eq c _ _ hd.2 h2 k2)]
  | .nilfunc, _, _, _, h, k => by simp only [denV] at h k; rw [h, k]
  | .iface t true cs, _, _, hd, h, k => by
    simp only [detV] at hd
    simp only [denV] at h k
    obtain ⟨l, rfl, h1⟩ := h
    obtain ⟨m, rfl, k1⟩ := k
    rw [Array.toList_inj.1 (detL_eq cs _ _ hd h1 k1)]
  | .iface t false cs, _, _, hd, h, k => by
    simp only [detV] at hd
    simp only [denV] at h k
    obtain ⟨l, rfl, h1⟩ := h
    obtain ⟨m, rfl, k1⟩ := k
    have := detL_eq cs _ _ hd h1 k1
    simp only [List.cons.injEq, and_true] at this
    rw [this]
  | .niliface, _, _, _, h, k => by simp only [denV] at h k; rw [h, k]
theorem detL_eq {E : Emb} : ∀ (l : List SV) (u v : List Value), detL l = true → denL E l u → denL E l v → u = v
  | [], _, _, _, h, k => by simp only [denL] at h k; rw [h, k]
  | e :: r, _, _, hd, h, k => by
    simp only [detL, Bool.and_eq_true] at hd
    simp only [denL] at h k
    obtain ⟨v, l, rfl, h1, h2⟩ := h
    obtain ⟨v', l', rfl, k1, k2⟩ := k
    rw [detV_eq e _ _ hd.1 h1 k1, detL_eq r _ _ hd.2 h2 k2]
end

theorem detS_eq {E : Emb} : ∀ (l : List Seg) (u v : List Value), detS l = true → denS E l u → denS E l v → u = v
  | [], _, _, _, h, k => by simp only [denS] at h k; rw [h, k]
  | .one e :: r, _, _, hd, h, k => by
    simp only [detS, Bool.and_eq_true] at hd
    simp only [denS] at h k
    obtain ⟨v, l, rfl, h1, h2⟩ := h
    obtain ⟨v', l', rfl, k1, k2⟩ := k
    rw [detV_eq e _ _ hd.1 h1 k1, detS_eq r _ _ hd.2 h2 k2]
  | .ints q n f :: r, _, _, hd, h, k => by
    simp only [detS] at hd
    simp only [denS] at h k
    obtain ⟨l, rfl, h2⟩ := h
    obtain ⟨l', rfl, k2⟩ := k
    rw [detS_eq r _ _ hd h2 k2]

mutual
theorem detE_eq {E : Emb} : ∀ (e : EV) (u v : Value), detE e = true → denE E e u → denE E e v → u = v
  | .s x, u, v, hd, h, k => by simp only [detE] at hd; simp only [denE] at h k; exact detV_eq x u v hd h k
  | .agg cs, u, v, hd, h, k => by
    simp only [detE] at hd
    simp only [denE] at h k
    obtain ⟨l, rfl, h1⟩ := h
    obtain ⟨m, rfl, k1⟩ := k
    rw [Array.toList_inj.1 (detS_eq cs _ _ hd h1 k1)]
  | .tuple vs, u, v, hd, h, k => by
    simp only [detE] at hd
    simp only [denE] at h k
    obtain ⟨l, rfl, h1⟩ := h
    obtain ⟨m, rfl, k1⟩ := k
    rw [Array.toList_inj.1 (detT_eq vs _ _ hd h1 k1)]
  | .gd g x, u, v, hd, h, k => by
    simp only [detE] at hd
    simp only [denE] at h k
    cases g with
    | true => exact detE_eq x u v hd (h.1 rfl) (k.1 rfl)
    | false => rw [h.2 rfl, k.2 rfl]
  | .junk, _, _, hd, _, _ => by simp [detE] at hd
theorem detT_eq {E : Emb} : ∀ (l : List EV) (u v : List Value), detT l = true → denT E l u → denT E l v → u = v
  | [], _, _, _, h, k => by simp only [denT] at h k; rw [h, k]
  | e :: r, _, _, hd, h, k => by
    simp only [detT, Bool.and_eq_true] at hd
    simp only [denT] at h k
    obtain ⟨v, l, rfl, h1, h2⟩ := h
    obtain ⟨v', l', rfl, k1, k2⟩ := k
    rw [detE_eq e _ _ hd.1 h1 k1, detT_eq r _ _ hd.2 h2 k2]
end

/-! ### the small world of the region's begin, seen from later -/

mutual
theorem denV_back {E E' : Emb} (h : E.le E') : ∀ (e : SV) (u v : Value), denV E e u → denV E' e v → denV E e v
  | .junk, _, _, _, k => k
  | .int .., _, _, _, k => k
  | .bool _, _, _, _, k => k
  | .str _, _, _, _, k => k
  | .ptr b o, _, _, g, k => by simp only [denV] at g k ⊢; exact ⟨g.1, by rw [k.2, Emb.le_at h g.1]⟩
  | .pix b o i, _, _, g, k => by simp only [denV] at g k ⊢; exact ⟨g.1, by rw [k.2, Emb.le_at h g.1]⟩
  | .nilptr, _, _, _, k => k
  | .slice .., _, _, g, k => by simp only [denV] at g k ⊢; exact ⟨g.1, by rw [k.2, Emb.le_at h g.1.1]⟩
  | .nilslice, _, _, _, k => k
  | .gs .., _, _, g, k => by simp only [denV] at g k ⊢; exact ⟨g.1, g.2.1, by rw [k.2.2, Emb.le_at h g.1, h.2 _ g.1]⟩
  | .map b, _, _, g, k => by simp only [denV] at g k ⊢; exact ⟨g.1, by rw [k.2, h.2 b g.1]⟩
  | .nilmap, _, _, _, k => k
  | .func fn a c, _, _, g, k => by
    simp only [denV] at g k ⊢
    obtain ⟨f1, c1, _, h1, h2⟩ := g
    obtain ⟨f2, c2, rfl, k1, k2⟩ := k
    exact ⟨f2, c2, rfl, denL_back h a _ _ h1 k1, denL_back h c _ _ h2 k2⟩
  | .nilfunc, _, _, _, k => k
  | .iface t true cs, _, _, g, k => by
    simp only [denV] at g k ⊢
    obtain ⟨l, _, h1⟩ := g
    obtain ⟨m, rfl, k1⟩ := k
    exact ⟨m, rfl, denL_back h cs _ _ h1 k1⟩
  | .iface t false cs, _, _, g, k => by
    simp only [denV] at g k ⊢
    obtain ⟨l, _, h1⟩ := g
    obtain ⟨m, rfl, k1⟩ := k
    exact ⟨m, rfl, denL_back h cs _ _ h1 k1⟩
  | .niliface, _, _, _, k => k
theorem denL_back {E E' : Emb} (h : E.le E') : ∀ (l : List SV) (u v : List Value), denL E l u → denL E' l v → denL E l v
  | [], _, _, _, k => k
  | e :: r, _, _, g, k => by
    simp only [denL] at g k ⊢
    obtain ⟨v, l, _, h1, h2⟩ := g
    obtain ⟨v', l', rfl, k1, k2⟩ := k
    exact ⟨v', l', rfl, denV_back h e _ _ h1 k1, denL_back h r _ _ h2 k2⟩
end

theorem denS_back {E E' : Emb} (h : E.le E') : ∀ (l : List Seg) (u v : List Value), denS E l u → denS E' l v → denS E l v
  | [], _, _, _, k => k
  | .one e :: r, _, _, g, k => by
    simp only [denS] at g k ⊢
    obtain ⟨v, l, _, h1, h2⟩ := g
    obtain ⟨v', l', rfl, k1, k2⟩ := k
    exact ⟨v', l', rfl, denV_back h e _ _ h1 k1, denS_back h r _ _ h2 k2⟩
  | .ints q n f :: r, _, _, g, k => by
    simp only [denS] at g k ⊢
    obtain ⟨l, _, h2⟩ := g
    obtain ⟨l', rfl, k2⟩ := k
    exact ⟨l', rfl, denS_back h r _ _ h2 k2⟩

theorem denM_back {E E' : Emb} (h : E.le E') : ∀ (l : List (SV × List Seg)) (u v : List MapEntry), denM E l u → denM E' l v → denM E l v
  | [], _, _, _, k => k
  | (q, cs) :: r, _, _, g, k => by
    simp only [denM] at g k ⊢
    obtain ⟨e, l, _, h1, h2, h3⟩ := g
    obtain ⟨e', l', rfl, k1, k2, k3⟩ := k
    exact ⟨e', l', rfl, denV_back h q _ _ h1 k1, denS_back h cs _ _ h2 k2, denM_back h r _ _ h3 k3⟩

theorem okBlk_back {E E' : Emb} (h : E.le E') {w w' : World} {p : Loc} {B : Blk} (g : okBlk E w p B) (k : okBlk E' w' p B) : okBlk E w' p B := by
  cases B with
  | cells m cs sp =>
    obtain ⟨_, ⟨l, h2, _⟩, _⟩ := g
    obtain ⟨k1, ⟨l', k2, k3⟩, k4⟩ := k
    exact ⟨k1, ⟨l', denS_back h cs _ _ h2 k2, k3⟩, k4⟩
  | map es =>
    obtain ⟨l, c, _, h2⟩ := g
    obtain ⟨l', c', k1, k2⟩ := k
    exact ⟨l', c', k1, denM_back h es _ _ h2 k2⟩
  | dead => trivial

theorem okBlk_mono {E E' : Emb} (h : E.le E') {w : World} {p : Loc} {B : Blk} (k : okBlk E w p B) : okBlk E' w p B := by
  cases B with
  | cells m cs sp =>
    obtain ⟨k1, ⟨l', k2, k3⟩, k4⟩ := k
    exact ⟨k1, ⟨l', denS_mono h cs _ k2, k3⟩, k4⟩
  | map es =>
    obtain ⟨l', c', k1, k2⟩ := k
    exact ⟨l', c', k1, denM_mono h es _ k2⟩
  | dead => trivial

/-- A later small world that begins as an earlier one: the earlier one still lies there. -/
theorem Sim.restrict {E E' : Emb} {h h' : List Blk} {w w' : World} (S : Sim E h w) (le : E.le E') (S' : Sim E' h' w') (hp : ∀ (i : Nat) (B : Blk), h[i]? = some B → B = .dead ∨ h'[i]? = some B) : Sim E h w' := by
  refine ⟨S.n, fun i B hi => ?_, S.dis⟩
  have hlt : i < E.n := by
    rw [S.n]
    rcases Nat.lt_or_ge i h.length with h1 | h1
    · exact h1
    · simp [List.getElem?_eq_none h1] at hi
  rcases hp i B hi with rfl | hp
  · trivial
  have := S'.ok i B hp
  rw [le.2 i hlt] at this
  exact okBlk_back le (S.ok i B hi) this

/-- An earlier small world, seen with the later one's numbers. -/
theorem Sim.weak {E E' : Emb} {h : List Blk} {w : World} (S : Sim E h w) (le : E.le E') : Sim E' (h ++ List.replicate (E'.n - h.length) .dead) w := by
  have hsplit : ∀ (i : Nat) (B : Blk), (h ++ List.replicate (E'.n - h.length) Blk.dead)[i]? = some B → h[i]? = some B ∨ B = Blk.dead := fun i B hi => by
    rcases Nat.lt_or_ge i h.length with h1 | h1
    · rw [List.getElem?_append_left h1] at hi
      exact .inl hi
    · rw [List.getElem?_append_right h1, List.getElem?_replicate] at hi
      split at hi
      · simp only [Option.some.injEq] at hi; exact .inr hi.symm
      · cases hi
  have hlt : ∀ {i B}, h[i]? = some B → i < E.n := fun {i B} hi => by
    rw [S.n]
    rcases Nat.lt_or_ge i h.length with h1 | h1
    · exact h1
    · simp [List.getElem?_eq_none h1] at hi
  refine ⟨?_, fun i B hi => ?_, fun i j A B hij hi hj hA b o hc => ?_⟩
  · have := S.n
    have := le.1
    simp
    omega
  · rcases hsplit i B hi with h1 | rfl
    · rw [le.2 i (hlt h1)]
      exact okBlk_mono le (S.ok i B h1)
    · trivial
  · rcases hsplit i A hi with h1 | rfl
    · rcases hsplit j B hj with h2 | rfl
      · rw [le.2 i (hlt h1)] at hc
        rw [le.2 j (hlt h2)]
        exact S.dis i j A B hij h1 h2 hA b o hc
      · intro h3; exact h3
    · simp [Blk.mut] at hA

theorem nthB_app {h r : List Blk} {b : Nat} {B : Blk} (hb : nthB h b = some B) : nthB (h ++ r) b = some B := by
  induction h generalizing b with
  | nil => simp [nthB] at hb
  | cons x h ih =>
    cases b with
    | zero => simpa [nthB] using hb
    | succ b => simp only [nthB, List.cons_append] at hb ⊢; exact ih hb

theorem nthB_or (h r : List Blk) (b : Nat) : nthB h b = none ∨ nthB (h ++ r) b = nthB h b := by
  cases hb : nthB h b with
  | none => exact .inl rfl
  | some B => exact .inr (nthB_app hb)

theorem loadX_app (T : Tbl) (h r : List Blk) (t : TypeId) (x : EV) (hne : loadX T h t x ≠ .fail) : loadX T (h ++ r) t x = loadX T h t x := by
  cases hT : T.ty t with
  | none => simp [loadX, hT] at hne
  | some i =>
    cases x with
    | s v =>
      cases v with
      | ptr b o =>
        rcases nthB_or h r b with h0 | h0
        · simp [loadX, hT, h0] at hne
        · simp only [loadX, hT, h0]
      | pix b o j =>
        rcases nthB_or h r b with h0 | h0
        · simp [loadX, hT, h0] at hne
        · simp only [loadX, hT, h0]
      | _ => simp [loadX, hT] at hne
    | _ => simp [loadX, hT] at hne

theorem indexAddrX_app (T : Tbl) (h r : List Blk) (t : TypeId) (x i : EV) (hne : indexAddrX T h t x i ≠ .fail) : indexAddrX T (h ++ r) t x i = indexAddrX T h t x i := by
  cases hT : T.ty t with
  | none => simp [indexAddrX, hT] at hne
  | some ti =>
    obtain ⟨d, size, bytes, zero⟩ := ti
    cases x with
    | s v =>
      cases i with
      | s iv =>
        cases iv with
        | int k n =>
          cases d with
          | array m e =>
            cases v with
            | ptr b o =>
              rcases nthB_or h r b with h0 | h0
              · simp [indexAddrX, hT, h0] at hne
              · simp only [indexAddrX, hT, h0]
            | _ => simp [indexAddrX, hT] at hne
          | slice e =>
            cases v with
            | slice b o l c =>
              rcases nthB_or h r b with h0 | h0
              · simp [indexAddrX, hT, h0] at hne
              · simp only [indexAddrX, hT, h0]
            | gs b o l c =>
              rcases nthB_or h r b with h0 | h0
              · simp [indexAddrX, hT, h0] at hne
              · simp only [indexAddrX, hT, h0]
            | _ => simp [indexAddrX, hT] at hne
          | _ => simp [indexAddrX, hT] at hne
        | _ => simp [indexAddrX, hT] at hne
      | _ => simp [indexAddrX, hT] at hne
    | _ => simp [indexAddrX, hT] at hne

theorem rngAt_app (h r : List Blk) (size b o n : Nat) (hne : rngAt h size b o n ≠ none) : rngAt (h ++ r) size b o n = rngAt h size b o n := by
  rcases nthB_or h r b with h0 | h0
  · simp [rngAt, h0] at hne
  · unfold rngAt
    rw [h0]

theorem rngX_app (h r : List Blk) (size : Nat) (y : EV) (hne : rngX h size y ≠ none) : rngX (h ++ r) size y = rngX h size y := by
  cases y with
  | s v =>
    cases v with
    | slice b o n c => exact rngAt_app h r size b o n hne
    | gs b o n c => exact rngAt_app h r size b o n hne
    | _ => rfl
  | _ => rfl

theorem convX_app (T : Tbl) (h r : List Blk) (src dst : TypeId) (x : EV) (hne : convX T h src dst x ≠ .fail) : convX T (h ++ r) src dst x = convX T h src dst x := by
  by_cases h0 : rngX h 1 x = none
  · unfold convX at hne ⊢
    split at hne
    · simp only [*]
    · simp only [*] at hne ⊢
      split at hne
      · simp at hne
      · exact absurd rfl hne
    · exact absurd rfl hne
  · have := rngX_app h r 1 x h0
    unfold convX
    rw [this]

/-- What the walker computes of a small world it computes of a larger one too. -/
theorem px_app (T : Tbl) (h r : List Blk) (ev raw : Operand → EV) (op : Op) (hne : px T h ev raw op ≠ .fail) : px T (h ++ r) ev raw op = px T h ev raw op := by
  cases op with
  | indexAddr t x i => exact indexAddrX_app T h r t _ _ hne
  | load t x => exact loadX_app T h r t _ hne
  | convert src dst x => exact convX_app T h r src dst _ hne
  | call c =>
    obtain ⟨callee, args, tys⟩ := c
    cases callee with
    | builtin b => cases b <;> rfl
    | _ => rfl
  | _ => rfl

/-! ### which may come up -/

def bindsL : Ground → Bool
  | .textOnly _ => false
  | .gcOnly _ => false
  | _ => true

theorem bindsL_eq (e : Edge) : bindsL e.ground = Region.binds .any e := by
  unfold bindsL Region.binds
  cases e.ground <;> rfl

def getB : List Bool → Nat → Bool
  | [], _ => false
  | b :: _, 0 => b
  | _ :: r, n + 1 => getB r n

def setB : List Bool → Nat → List Bool
  | [], _ => []
  | _ :: r, 0 => true :: r
  | b :: r, n + 1 => b :: setB r n

def nthO : List Oper → Nat → Option Oper
  | [], _ => none
  | o :: _, 0 => some o
  | _ :: r, n + 1 => nthO r n

def waitB (l : List Bool) : List Edge → Bool
  | [] => true
  | e :: r => (!bindsL e.ground || getB l e.on) && waitB l r

def rdyGo (l0 : List Bool) : Nat → List Oper → List Bool → List Nat
  | _, [], _ => []
  | _, _, [] => []
  | i, o :: r, b :: l => match !b && waitB l0 o.after.toList with
    | true => i :: rdyGo l0 (i + 1) r l
    | false => rdyGo l0 (i + 1) r l

theorem getB_eq : ∀ (l : List Bool) (i : Nat), getB l i = l.toArray.getD i false
  | [], i => by simp [getB]
  | b :: r, 0 => by simp [getB]
  | b :: r, i + 1 => by simp [getB, getB_eq r i]

theorem nthO_eq : ∀ (l : List Oper) (i : Nat), nthO l i = l[i]?
  | [], _ => rfl
  | o :: r, 0 => rfl
  | o :: r, i + 1 => by simp [nthO, nthO_eq r i]

theorem setB_eq : ∀ (l : List Bool) (i : Nat), setB l i = l.set i true
  | [], _ => rfl
  | _ :: _, 0 => rfl
  | b :: r, i + 1 => by simp [setB, setB_eq r i]

theorem waitB_eq (l : List Bool) : ∀ (es : List Edge), waitB l es = es.all fun e => !Region.binds .any e || l.toArray.getD e.on false
  | [] => rfl
  | e :: r => by simp only [waitB, List.all_cons, waitB_eq l r, bindsL_eq, getB_eq]

theorem rdyGo_eq (l0 : List Bool) : ∀ (ops : List Oper) (i : Nat) (l : List Bool), l.length = ops.length →
    rdyGo l0 i ops l = ((List.range ops.length).filter fun j => !l.toArray.getD j true && ((ops[j]?).map (fun o => waitB l0 o.after.toList)).getD false).map (· + i)
  | [], i, l, _ => by cases l <;> simp [rdyGo]
  | o :: r, i, [], h => by simp at h
  | o :: r, i, b :: l, h => by
    have ih := rdyGo_eq l0 r (i + 1) l (by simpa using h)
    simp only [rdyGo, List.length_cons, List.range_succ_eq_map, List.filter_cons, List.filter_map]
    have hmap : ∀ (p : Nat → Bool) (xs : List Nat), (List.filter p xs).map (· + (i + 1)) = ((List.filter p xs).map Nat.succ).map (· + i) := fun p xs => by
      rw [List.map_map]
      congr 1
      funext x
      simp only [Function.comp]
      omega
    rw [ih, hmap]
    have hcomp : ((fun j => !(b :: l).toArray.getD j true && (Option.map (fun o => waitB l0 o.after.toList) (o :: r)[j]?).getD false) ∘ Nat.succ) =
        (fun j => !l.toArray.getD j true && (Option.map (fun o => waitB l0 o.after.toList) r[j]?).getD false) := by
      funext j
      simp [Function.comp]
    rw [hcomp]
    simp only [List.getElem?_cons_zero, Option.map_some, Option.getD_some]
    have h0 : (b :: l).toArray.getD 0 true = b := by simp
    rw [h0]
    by_cases hw : (!b && waitB l0 o.after.toList) = true
    · simp only [hw, if_true, List.map_cons, Nat.zero_add]
    · rw [Bool.not_eq_true] at hw; simp only [hw, Bool.false_eq_true, if_false]

theorem rdy_eq (ops : Array Oper) (l : List Bool) (h : l.length = ops.size) : rdyGo l 0 ops.toList l = Region.ready .any ops l.toArray := by
  rw [rdyGo_eq l ops.toList 0 l (by simpa using h)]
  unfold Region.ready
  simp only [Nat.add_zero, List.map_id', Array.length_toList, Array.getElem?_toList]
  congr 1
  funext j
  cases ops[j]? with
  | none => rfl
  | some o => simp only [Option.map_some, Option.getD_some, waitB_eq, Array.all_toList]


/-! ### apart -/

def tmpsOf : List Operand → List Tmp
  | [] => []
  | .tmp t :: r => t :: tmpsOf r
  | _ :: r => tmpsOf r

theorem tmpsOf_eq : ∀ l : List Operand, tmpsOf l = l.filterMap fun | .tmp t => some t | _ => none
  | [] => rfl
  | .tmp t :: r => by simp [tmpsOf, tmpsOf_eq r]
  | .const _ :: r => by simp [tmpsOf, tmpsOf_eq r]
  | .global _ :: r => by simp [tmpsOf, tmpsOf_eq r]
  | .func _ :: r => by simp [tmpsOf, tmpsOf_eq r]

def looksL (ops : List Oper) (o : Oper) : List Tmp :=
  match o.guard with
  | none => tmpsOf o.op.operands.toList
  | some (g, _) => match nthO ops g with
    | none => tmpsOf o.op.operands.toList
    | some o' => match o'.dst with
      | none => tmpsOf o.op.operands.toList
      | some d => tmpsOf o.op.operands.toList ++ [d]

theorem looksL_eq (ops : Array Oper) (o : Oper) : looksL ops.toList o = o.looksAt ops := by
  unfold looksL Oper.looksAt
  rw [tmpsOf_eq]
  cases o.guard with
  | none => simp only [List.append_nil]; rfl
  | some p =>
    obtain ⟨g, b⟩ := p
    simp only [nthO_eq, Array.getElem?_toList]
    cases ops[g]? with
    | none => simp only [Option.bind_none, Option.toList_none, List.append_nil]; rfl
    | some o' =>
      cases h : o'.dst with
      | none => simp only [Option.bind_some, h, Option.toList_none, List.append_nil]; rfl
      | some d => simp only [Option.bind_some, h, Option.toList_some]; rfl

theorem beqN (a b : Nat) : Nat.beq a b = (a == b) := by
  by_cases h : a = b
  · subst h; simp
  · have h1 : Nat.beq a b = false := by
      cases hq : Nat.beq a b with
      | true => exact absurd (Nat.eq_of_beq_eq_true hq) h
      | false => rfl
    rw [h1]
    exact (beq_eq_false_iff_ne.2 h).symm

def inL (d : Nat) : List Nat → Bool
  | [] => false
  | x :: r => Nat.beq d x || inL d r

theorem inL_eq (d : Nat) : ∀ l : List Nat, inL d l = l.contains d
  | [] => rfl
  | x :: r => by simp only [inL, inL_eq d r, List.contains_cons, beqN]

def isD (d : Nat) : Option Nat → Bool
  | none => false
  | some x => Nat.beq d x

def apartL (ops : List Oper) (x y : Oper) : Bool :=
  (match x.dst with
   | some d => !(inL d (looksL ops y)) && !(isD d y.dst)
   | none => true) &&
  (match y.dst with
   | some d => !(inL d (looksL ops x))
   | none => true)

theorem apartL_eq (ops : Array Oper) (x y : Oper) : apartL ops.toList x y = x.apart ops y := by
  unfold apartL Oper.apart
  simp only [looksL_eq, inL_eq]
  have : ∀ d, (!(isD d y.dst)) = (y.dst != some d) := fun d => by
    cases hy : y.dst with
    | none => rfl
    | some e =>
      simp only [isD, beqN]
      by_cases h : d = e
      · subst h; simp
      · have h1 : (d == e) = false := beq_eq_false_iff_ne.2 h
        have h2 : (some e == some d) = false := by simp; exact fun h' => h h'.symm
        rw [h1]
        simp [bne, h2]
  simp only [this]
  cases x.dst <;> cases y.dst <;> rfl

def waitsOn (i : Nat) : List Edge → Bool
  | [] => false
  | e :: r => (bindsL e.ground && Nat.beq e.on i) || waitsOn i r

theorem waitsOn_eq (i : Nat) : ∀ l : List Edge, waitsOn i l = l.any fun e => Region.binds .any e && e.on == i
  | [] => rfl
  | e :: r => by simp only [waitsOn, List.any_cons, waitsOn_eq i r, bindsL_eq, beqN]

def freeGo (ops : List Oper) (i : Nat) (oi : Oper) : Nat → List Oper → List Bool → Bool
  | _, [], _ => true
  | _, _ :: _, [] => false
  | j, oj :: r, b :: l => (Nat.beq j i || b || waitsOn i oj.after.toList || apartL ops oi oj) && freeGo ops i oi (j + 1) r l

theorem freeGo_spec {ops : List Oper} {i : Nat} {oi : Oper} : ∀ {r : List Oper} {j : Nat} {l : List Bool}, freeGo ops i oi j r l = true → ∀ k ok, r[k]? = some ok →
    ((j + k == i) || l.toArray.getD k true || ok.after.any (fun e => Region.binds .any e && e.on == i) || apartL ops oi ok) = true
  | [], _, _, _, k, ok, hk => by simp at hk
  | o :: r, j, [], h, _, _, _ => by simp [freeGo] at h
  | o :: r, j, b :: l, h, 0, ok, hk => by
    simp only [List.getElem?_cons_zero, Option.some.injEq] at hk
    subst hk
    simp only [freeGo, Bool.and_eq_true, waitsOn_eq, Array.any_toList] at h
    simpa using h.1
  | o :: r, j, b :: l, h, k + 1, ok, hk => by
    simp only [freeGo, Bool.and_eq_true] at h
    have := freeGo_spec (j := j + 1) h.2 k ok (by simpa using hk)
    rw [show j + 1 + k = j + (k + 1) by omega] at this
    simpa using this

theorem free_of {ops : Array Oper} {i : Nat} {oi : Oper} {l : List Bool} (hi : ops[i]? = some oi) (h : freeGo ops.toList i oi 0 ops.toList l = true) : Region.free .any ops l.toArray i = true := by
  unfold Region.free
  simp only [hi, List.all_eq_true, List.mem_range]
  intro j hj
  have hg : ops[j]? = some ops[j] := Array.getElem?_eq_getElem hj
  have := freeGo_spec h j ops[j] (by simp)
  rw [hg]
  simp only [apartL_eq, Nat.zero_add] at this
  simpa [Bool.or_assoc] using this

def noSel : List Oper → Bool
  | [] => true
  | o :: r => match o.op with
    | .select .. => false
    | _ => noSel r

theorem noSel_eq {ops : Array Oper} (h : noSel ops.toList = true) : Region.noSelect ops = true := by
  have : ∀ l : List Oper, noSel l = true → ∀ o ∈ l, (match o.op with | .select .. => false | _ => true) = true := fun l => by
    induction l with
    | nil => intro _ o ho; cases ho
    | cons x r ih =>
      intro h o ho
      simp only [noSel] at h
      rcases List.mem_cons.1 ho with rfl | ho
      · split at h
        · cases h
        · rfl
      · split at h
        · cases h
        · exact ih h o ho
  unfold Region.noSelect
  rw [Array.all_eq_true_iff_forall_mem]
  intro o ho
  exact this _ h o (by simpa using ho)

end Go.Anv

/- The engine, part 9b: stores that no order can tell apart. Plain theorems; their condition: the stores' places are apart. -/
namespace Go.Anv
open Go

theorem modify_comm {α : Type} (h : Array α) (i j : Nat) (f g : α → α) (hc : i ≠ j ∨ ∀ x, f (g x) = g (f x)) : (h.modify i f).modify j g = (h.modify j g).modify i f := by
  apply Array.ext_getElem?
  intro k
  simp only [Array.getElem?_modify]
  by_cases hi : i = k <;> by_cases hj : j = k <;> simp only [hi, hj, if_true, if_false]
  rcases hc with hc | hc
  · exact absurd (hi.trans hj.symm) hc
  · cases h[k]? with
    | none => rfl
    | some x => simp [hc]

theorem setCell_comm (w : World) (x y : Addr) (u v : Value) (h : x.block ≠ y.block ∨ x.off ≠ y.off) : (w.setCell x u).setCell y v = (w.setCell y v).setCell x u := by
  unfold World.setCell
  simp only
  rw [modify_comm]
  rcases h with h | h
  · exact .inl h
  · refine .inr fun o => ?_
    cases o with
    | cells c e fr =>
      simp only
      by_cases hx : x.spot.isSome = true <;> by_cases hy : y.spot.isSome = true <;> simp only [hx, hy, if_true, if_false, Bool.false_eq_true]
      congr 1
      apply Array.ext_getElem?
      intro k
      simp only [Array.getElem?_setIfInBounds, Array.size_setIfInBounds]
      by_cases h1 : x.off = k <;> by_cases h2 : y.off = k <;> simp only [h1, h2, if_true, if_false]
      exact absurd (h1.trans h2.symm) h
    | _ => rfl

theorem setCell_setCells (b : Nat) : ∀ (vs : List Value) (o : Nat) (w : World) (x : Addr) (u : Value), (x.block ≠ b ∨ x.off < o ∨ o + vs.length ≤ x.off) → (w.setCell x u).setCells b o vs = (w.setCells b o vs).setCell x u
  | [], _, _, _, _, _ => rfl
  | v :: r, o, w, x, u, h => by
    simp only [World.setCells]
    rw [setCell_comm w x ⟨b, o, none⟩ u v (by simp only [List.length_cons] at h; simp only; omega)]
    exact setCell_setCells b r (o + 1) _ x u (by simp only [List.length_cons] at h; omega)

/-- A store: where, what. -/
structure Sto where
  B : Nat
  O : Nat
  vs : List Value

def Sto.on (x : Sto) (w : World) : World := w.setCells x.B x.O x.vs

def Sto.off (x y : Sto) : Prop := x.B ≠ y.B ∨ x.O + x.vs.length ≤ y.O ∨ y.O + y.vs.length ≤ x.O

theorem setCells_comm (b' : Nat) (vs' : List Value) (o' : Nat) (b : Nat) : ∀ (vs : List Value) (o : Nat) (w : World), (b ≠ b' ∨ o + vs.length ≤ o' ∨ o' + vs'.length ≤ o) →
    (w.setCells b o vs).setCells b' o' vs' = (w.setCells b' o' vs').setCells b o vs
  | [], _, _, _ => rfl
  | v :: r, o, w, h => by
    simp only [World.setCells]
    rw [setCells_comm b' vs' o' b r (o + 1) _ (by simp only [List.length_cons] at h; omega), setCell_setCells]
    simp only [List.length_cons] at h
    simp only
    by_cases hv : vs'.length = 0
    · right; omega
    · omega

theorem Sto.comm {x y : Sto} (h : x.off y) (w : World) : y.on (x.on w) = x.on (y.on w) := setCells_comm _ _ _ _ _ _ _ h

theorem Sto.off_symm {x y : Sto} (h : x.off y) : y.off x := by
  unfold Sto.off at *
  omega

def Sto.can (x : Sto) (w : World) : Prop := ∀ j, j < x.vs.length → (∃ v, w.cell? ⟨x.B, x.O + j, none⟩ = some v) ∧ w.frozen? ⟨x.B, x.O + j, none⟩ = false

theorem Sto.can_on {x y : Sto} (h : x.off y) {w : World} (hc : x.can w) : x.can (y.on w) := by
  intro j hj
  obtain ⟨h1, h2⟩ := hc j hj
  unfold Sto.on
  refine ⟨?_, by rw [World.frozen?_setCells]; exact h2⟩
  rw [cell?_setCells_out]
  · exact h1
  · simp only
    unfold Sto.off at h
    omega

def allOn (sp : Nat → Sto) : List Nat → World → World
  | [], w => w
  | i :: r, w => allOn sp r ((sp i).on w)

theorem allOn_first (sp : Nat → Sto) : ∀ (l : List Nat) (i : Nat) (w : World), i ∈ l → l.Nodup → (∀ a ∈ l, ∀ b ∈ l, a ≠ b → (sp a).off (sp b)) → allOn sp (l.filter (· != i)) ((sp i).on w) = allOn sp l w
  | [], i, w, h, _, _ => by cases h
  | x :: r, i, w, h, hn, hap => by
    rw [List.nodup_cons] at hn
    by_cases hx : x = i
    · subst hx
      have : (x :: r).filter (· != x) = r := by
        rw [List.filter_cons]
        simp only [bne_self_eq_false, Bool.false_eq_true, if_false]
        rw [List.filter_eq_self]
        intro a ha
        simp only [bne_iff_ne, ne_eq]
        rintro rfl
        exact hn.1 ha
      rw [this]
      rfl
    · have hi : i ∈ r := by
        rcases List.mem_cons.1 h with h | h
        · exact absurd h.symm hx
        · exact h
      have : (x :: r).filter (· != i) = x :: r.filter (· != i) := by
        rw [List.filter_cons]
        simp [hx]
      rw [this]
      simp only [allOn]
      rw [Sto.comm (hap i h x List.mem_cons_self (fun e => hx e.symm))]
      exact allOn_first sp r i _ hi hn.2 fun a ha b hb => hap a (List.mem_cons_of_mem _ ha) b (List.mem_cons_of_mem _ hb)

/-- The operations that have not come up. -/
def unl (ops : Array Oper) (l : Array Bool) : List Nat := (List.range ops.size).filter fun j => !l.getD j true

/-- **Stores at places that are apart, in whatever order.** -/
theorem stores_any {P : Program} {ops : Array Oper} {Q : Exit → Act → World → Prop} {S : World → Prop} (sp : Nat → Sto) (a : Act) :
    ∀ (n : Nat) (l : Array Bool) (w : World), l.size = ops.size → (unl ops l).length ≤ n → S w →
    (∀ i ∈ unl ops l, ∃ o, ops[i]? = some o ∧ Region.wanted o (yielded ops a.tmps) = true ∧ o.dst = none ∧ (∀ e ∈ o.after, Region.binds .any e = true → l.getD e.on false = true) ∧
      ∀ w', (sp i).can w' → (execOp a.eval o).run P w' = .ok .skip ((sp i).on w')) →
    (∀ i ∈ unl ops l, ∀ j ∈ unl ops l, i ≠ j → (sp i).off (sp j)) → (∀ i ∈ unl ops l, (sp i).can w) → (∀ i ∈ unl ops l, ∀ w', S w' → S ((sp i).on w')) →
    Q .normal a (allOn sp (unl ops l) w) → wpAnyH P .any ops Q S n l a w := by
  intro n
  induction n with
  | zero =>
    intro l w hsz hlen hS hop hap hcan hst hq
    have hnil : unl ops l = [] := List.length_eq_zero_iff.1 (by omega)
    refine ⟨?_, ?_⟩
    · unfold Region.ready
      rw [List.filter_eq_nil_iff]
      intro j hj
      have := List.filter_eq_nil_iff.1 hnil j hj
      simp only [Bool.not_eq_true, Bool.not_eq_false'] at this
      simp [this]
    · rw [hnil] at hq; exact hq
  | succ n ih =>
    intro l w hsz hlen hS hop hap hcan hst hq
    have hrdy : Region.ready .any ops l = unl ops l := by
      unfold Region.ready unl
      apply List.filter_congr
      intro j hj
      cases hlj : l.getD j true with
      | true => simp
      | false =>
        have hm : j ∈ unl ops l := List.mem_filter.2 ⟨hj, by simp [hlj]⟩
        obtain ⟨o, ho, _, _, haf, _⟩ := hop j hm
        simp only [ho, Bool.not_false, Bool.true_and, Option.map_some, Option.getD_some]
        rw [Array.all_eq_true_iff_forall_mem]
        intro e he
        cases hb : Region.binds .any e with
        | false => rfl
        | true => simp [haf e he hb]
    rw [wpAnyH.eq_2]
    rw [hrdy]
    refine ⟨fun h => by rw [h] at hq; exact hq, fun i hi => ?_⟩
    obtain ⟨o, ho, hw, hd, haf, hrun⟩ := hop i hi
    unfold wpOp
    simp only [ho, hw, if_true]
    refine .inl ?_
    unfold Oper.wp
    rw [hrun w (hcan i hi), Oper.upon_skip, hd]
    refine ⟨hst i hi w hS, ?_⟩
    have hil : i < l.size := by
      have := (List.mem_filter.1 hi).1
      rw [hsz]
      exact List.mem_range.1 this
    have hunl : unl ops (l.setIfInBounds i true) = (unl ops l).filter (· != i) := by
      unfold unl
      rw [List.filter_filter]
      apply List.filter_congr
      intro j _
      by_cases hji : j = i
      · subst hji
        simp [hil]
      · have : (l.setIfInBounds i true).getD j true = l.getD j true := by
          simp only [Array.getD_eq_getD_getElem?]
          rw [Array.getElem?_setIfInBounds_ne (fun e => hji e.symm)]
        rw [this]
        simp [hji]
    have hmem : ∀ j, j ∈ unl ops (l.setIfInBounds i true) → j ∈ unl ops l ∧ j ≠ i := fun j hj => by
      rw [hunl] at hj
      obtain ⟨h1, h2⟩ := List.mem_filter.1 hj
      exact ⟨h1, by simpa using h2⟩
    refine ih (l.setIfInBounds i true) _ (by simp [hsz]) ?_ (hst i hi w hS) (fun j hj => ?_) (fun j hj k hk hjk => hap j (hmem j hj).1 k (hmem k hk).1 hjk) (fun j hj => ?_) (fun j hj => hst j (hmem j hj).1) ?_
    · rw [hunl]
      have : ((unl ops l).filter (· != i)).length < (unl ops l).length := by
        refine List.length_filter_lt_length_iff_exists.2 ⟨i, hi, by simp⟩
      omega
    · obtain ⟨o', h1, h2, h3, h4, h5⟩ := hop j (hmem j hj).1
      refine ⟨o', h1, h2, h3, fun e he hb => ?_, h5⟩
      have := h4 e he hb
      by_cases hei : e.on = i
      · rw [hei, Array.getD_eq_getD_getElem?, Array.getElem?_setIfInBounds_self_of_lt hil]
        rfl
      · rw [Array.getD_eq_getD_getElem?] at this ⊢
        rw [Array.getElem?_setIfInBounds_ne (fun e => hei e.symm)]
        exact this
    · exact Sto.can_on (hap j (hmem j hj).1 i hi (hmem j hj).2) (hcan j (hmem j hj).1)
    · rw [hunl, allOn_first sp _ i w hi (List.Pairwise.filter _ List.nodup_range) hap]
      exact hq

/-- Stores where no block of a small world lies. -/
theorem Sim.outside {E : Emb} {h : List Blk} {w : World} (S : Sim E h w) (x : Sto) (hx : ∀ j B, h[j]? = some B → ∀ o, x.O ≤ o → o < x.O + x.vs.length → ¬ cov (E.f j) B x.B o) : Sim E h (x.on w) := by
  unfold Sto.on
  have hcov : ∀ j B b o, h[j]? = some B → cov (E.f j) B b o → (w.setCells x.B x.O x.vs).cell? ⟨b, o, none⟩ = w.cell? ⟨b, o, none⟩ := fun j B b o hj hc => by
    apply cell?_setCells_out
    simp only
    by_cases hb : b = x.B
    · subst hb
      have : ¬ (x.O ≤ o ∧ o < x.O + x.vs.length) := fun hh => hx j B hj o hh.1 hh.2 hc
      omega
    · exact .inl hb
  refine ⟨S.n, fun j B hj => ?_, S.dis⟩
  have hb := S.ok j B hj
  cases B with
  | cells m cs sp =>
    obtain ⟨h1, ⟨l, h2, h3⟩, h4⟩ := hb
    refine ⟨by rw [size_setCells]; exact h1, ⟨l, h2, fun y v hy => ?_⟩, fun hm y hy => ?_⟩
    · rw [hcov j _ _ _ hj]
      · exact h3 y v hy
      · have := denS_length h2
        have : y < l.length := by
          rcases Nat.lt_or_ge y l.length with h' | h'
          · exact h'
          · rw [List.getElem?_eq_none h'] at hy; cases hy
        exact ⟨rfl, by omega, by omega⟩
    · rw [hcov j _ _ _ hj ⟨rfl, by omega, by omega⟩]
      exact ⟨(h4 hm y hy).1, rowOk_setCells (h4 hm y hy).2⟩
  | map es =>
    obtain ⟨l, c, h1, h2⟩ := hb
    exact ⟨l, c, map_setCells _ _ _ _ _ _ _ h1, h2⟩
  | dead => trivial

/-! ### the walker's part -/

/-- A store's place: the block, the offset, how many cells. -/
def stoK (T : Tbl) (ts : List EV) (h : List Blk) (o : Oper) : Option (Nat × Nat × Nat) :=
  match o.guard, o.dst, o.op with
  | none, none, .store t x v => match T.ty t, evT ts x, segsOf (evT ts v) with
    | some i, .s (.ptr b off), some new => match Nat.beq (sizeS new) i.size && Nat.ble 1 i.size, nthB h b with
      | true, some (.cells true cs _) => match Nat.ble (off + i.size) (sizeS cs) with
        | true => some (b, off, i.size)
        | false => none
      | _, _ => none
    | _, _, _ => none
  | _, _, _ => none

def offB (x y : Nat × Nat × Nat) : Bool := !(Nat.beq x.1 y.1) || (Nat.ble (x.2.1 + x.2.2) y.2.1 || Nat.ble (y.2.1 + y.2.2) x.2.1)

def offAll (p : Nat × Nat × Nat) : List (Nat × Nat × Nat) → Bool
  | [] => true
  | q :: r => offB p q && offAll p r

def deadAt (h0 : List Blk) (b : Nat) : Bool :=
  match nthB h0 b with
  | some .dead => true
  | none => true
  | _ => false

def tailGo (T : Tbl) (ts : List EV) (h h0 : List Blk) (l0 : List Bool) : List Oper → List Bool → List (Nat × Nat × Nat) → Bool
  | [], _, _ => true
  | _ :: r, true :: l, acc => tailGo T ts h h0 l0 r l acc
  | o :: r, false :: l, acc => match stoK T ts h o with
    | some p => waitB l0 o.after.toList && (offAll p acc && (deadAt h0 p.1 && tailGo T ts h h0 l0 r l (p :: acc)))
    | none => false
  | _ :: _, [], _ => false

def countF : List Bool → Nat
  | [] => 0
  | true :: r => countF r
  | false :: r => countF r + 1

def tailRun (T : Tbl) (ops : Array Oper) (l : List Oper) : List Bool → St → (St → Prop) → Prop :=
  List.rec (motive := fun _ => List Bool → St → (St → Prop) → Prop) (fun _ s k => k s) (fun o _ ih l s k => match l with
    | true :: l => ih l s k
    | false :: l => opX T ops s o fun s' => ih l s' k
    | [] => False) l

theorem offB_spec {x y : Nat × Nat × Nat} (h : offB x y = true) : x.1 ≠ y.1 ∨ x.2.1 + x.2.2 ≤ y.2.1 ∨ y.2.1 + y.2.2 ≤ x.2.1 := by
  simp only [offB, Bool.or_eq_true, Bool.not_eq_true', Nat.ble_eq] at h
  rcases h with h | h | h
  · exact .inl (Nat.ne_of_beq_eq_false h)
  · exact .inr (.inl h)
  · exact .inr (.inr h)

theorem offAll_spec {p : Nat × Nat × Nat} : ∀ {l : List (Nat × Nat × Nat)}, offAll p l = true → ∀ q ∈ l, offB p q = true
  | [], _, q, hq => by cases hq
  | x :: r, h, q, hq => by
    simp only [offAll, Bool.and_eq_true] at h
    rcases List.mem_cons.1 hq with rfl | hq
    · exact h.1
    · exact offAll_spec h.2 q hq

/-- What the look at the tail tells: each one's place; they are apart. -/
theorem tailGo_spec {T : Tbl} {ts : List EV} {h h0 : List Blk} {l0 : List Bool} : ∀ {ops : List Oper} {l : List Bool} {acc : List (Nat × Nat × Nat)}, tailGo T ts h h0 l0 ops l acc = true →
    (∀ (i : Nat) (o : Oper), ops[i]? = some o → l[i]? = some false → ∃ p, stoK T ts h o = some p ∧ waitB l0 o.after.toList = true ∧ deadAt h0 p.1 = true ∧ ∀ q ∈ acc, offB p q = true) ∧
    (∀ (i j : Nat) (o o' : Oper) p p', ops[i]? = some o → l[i]? = some false → ops[j]? = some o' → l[j]? = some false → i < j → stoK T ts h o = some p → stoK T ts h o' = some p' → offB p' p = true)
  | [], _, _, _ => ⟨fun i o ho => by simp at ho, fun i j o o' p p' ho => by simp at ho⟩
  | o0 :: r, true :: l, acc, ht => by
    obtain ⟨h1, h2⟩ := tailGo_spec (ops := r) (l := l) (acc := acc) ht
    refine ⟨fun i o ho hl => ?_, fun i j o o' p p' ho hl ho' hl' hij => ?_⟩
    · cases i with
      | zero => simp at hl
      | succ i => exact h1 i o (by simpa using ho) (by simpa using hl)
    · cases i with
      | zero => simp at hl
      | succ i =>
        cases j with
        | zero => omega
        | succ j => exact h2 i j o o' p p' (by simpa using ho) (by simpa using hl) (by simpa using ho') (by simpa using hl') (by omega)
  | o0 :: r, false :: l, acc, ht => by
    simp only [tailGo] at ht
    split at ht
    · rename_i p0 hp0
      simp only [Bool.and_eq_true] at ht
      obtain ⟨ha, hb, hc, hd⟩ := ht
      obtain ⟨h1, h2⟩ := tailGo_spec (ops := r) (l := l) (acc := p0 :: acc) hd
      refine ⟨fun i o ho hl => ?_, fun i j o o' p p' ho hl ho' hl' hij hp hp' => ?_⟩
      · cases i with
        | zero =>
          simp only [List.getElem?_cons_zero, Option.some.injEq] at ho
          subst ho
          exact ⟨p0, hp0, ha, hc, offAll_spec hb⟩
        | succ i =>
          obtain ⟨p, k1, k2, k3, k4⟩ := h1 i o (by simpa using ho) (by simpa using hl)
          exact ⟨p, k1, k2, k3, fun q hq => k4 q (List.mem_cons_of_mem _ hq)⟩
      · cases j with
        | zero => omega
        | succ j =>
          cases i with
          | zero =>
            simp only [List.getElem?_cons_zero, Option.some.injEq] at ho
            subst ho
            rw [hp0] at hp
            simp only [Option.some.injEq] at hp
            subst hp
            obtain ⟨p, k1, k2, k3, k4⟩ := h1 j o' (by simpa using ho') (by simpa using hl')
            rw [k1] at hp'
            simp only [Option.some.injEq] at hp'
            subst hp'
            exact k4 p0 List.mem_cons_self
          | succ i => exact h2 i j o o' p p' (by simpa using ho) (by simpa using hl) (by simpa using ho') (by simpa using hl') (by omega) hp hp'
    · cases ht
  | _ :: _, [], _, ht => by simp [tailGo] at ht

/-- The store that an operation is, in a world. -/
def stoOf (E : Emb) (T : Tbl) (ts : List EV) (h : List Blk) (a : Act) (o : Oper) : Sto :=
  match stoK T ts h o, o.op with
  | some (b, off, _), .store _ _ v => ⟨(E.f b).1, (E.f b).2 + off, (a.eval v).cells.toList⟩
  | _, _ => ⟨0, 0, []⟩

theorem stoK_spec (T : Tbl) {O : Org} {E : Emb} {s : St} {a : Act} {w : World} (R : Rel O E s a w) {ops : Array Oper} {o : Oper} {b off n : Nat} (h : stoK T s.tmps s.heap o = some (b, off, n)) :
    Region.wanted o (yielded ops a.tmps) = true ∧ o.dst = none ∧ (∃ cs sp, s.heap[b]? = some (.cells true cs sp) ∧ off + n ≤ sizeS cs ∧ 1 ≤ n) ∧ (stoOf E T s.tmps s.heap a o).B = (E.f b).1 ∧ (stoOf E T s.tmps s.heap a o).O = (E.f b).2 + off ∧
      (stoOf E T s.tmps s.heap a o).vs.length = n ∧ (stoOf E T s.tmps s.heap a o).can w ∧ ∀ w', (stoOf E T s.tmps s.heap a o).can w' → (execOp a.eval o).run T.P w' = .ok .skip ((stoOf E T s.tmps s.heap a o).on w') := by
  have h' := h
  unfold stoK at h
  split at h
  · rename_i t x v hg hd hop
    split at h
    · rename_i i b' off' new ht hx hv
      split at h
      · rename_i cs sp hsz hb
        split at h
        · rename_i hle
          simp only [Option.some.injEq, Prod.mk.injEq] at h
          obtain ⟨rfl, rfl, rfl⟩ := h
          simp only [Bool.and_eq_true] at hsz
          obtain ⟨hsz, hpos⟩ := hsz
          have hpos := Nat.le_of_ble_eq_true hpos
          have hsz := Nat.eq_of_beq_eq_true hsz
          have hle := Nat.le_of_ble_eq_true hle
          have hb := nthB_get hb
          have hxd := ev_denE R.fr x
          have hvd := segsOf_den (ev_denE R.fr v) hv
          have hx' : s.ev x = .s (.ptr b' off') := hx
          rw [hx'] at hxd
          simp only [denE, denV] at hxd
          have hlen : (a.eval v).cells.toList.length = i.size := by rw [denS_length hvd, hsz]
          have hst : stoOf E T s.tmps s.heap a o = ⟨(E.f b').1, (E.f b').2 + off', (a.eval v).cells.toList⟩ := by
            unfold stoOf
            rw [h', hop]
          rw [hst]
          refine ⟨by simp [Region.wanted, hg], hd, ⟨cs, sp, hb, hle, hpos⟩, rfl, rfl, hlen, fun j hj => ?_, fun w' hc => ?_⟩
          · simp only at hj ⊢
            obtain ⟨_, _, hm⟩ := R.sim.ok b' _ hb
            obtain ⟨⟨y, hy⟩, hr⟩ := hm rfl (off' + j) (by omega)
            rw [Nat.add_assoc]
            exact ⟨⟨y, hy⟩, hr.frozen hy⟩
          · have h4 := run_sizeOf_ti T ht w'
            have h5 := run_storeCells_cells (P := T.P) (E.f b').1 ((E.f b').2 + off') (a.eval v).cells.toList 0 w' (fun j hj => by
                obtain ⟨⟨y, hy⟩, _⟩ := hc j hj
                simp only at hy
                rw [Nat.add_zero, hy]; rfl) (fun j hj => by
                obtain ⟨_, hf⟩ := hc j hj
                simp only at hf
                rw [Nat.add_zero]; exact hf) (fun y hy => denS_oneCell hvd y hy)
            simp only [Nat.add_zero] at h5
            have hsz2 : (a.eval v).cells.size = i.size := by rw [← Array.length_toList]; exact hlen
            unfold execOp
            simp only [hop, hxd.2, Instr.storeAt, Instr.sureAddr, pure_bind, storeVar, Sem.run_bind, h4, Result.andThen_ok, hsz2, ne_eq, not_true_eq_false, if_false]
            have h6 : ((storeCells (E.at b' off') (a.eval v).cells.toList 0).run T.P w') = _ := h5
            rw [h6]
            rfl
        · cases h
      · cases h
    · cases h
  · cases h

theorem sto_off (T : Tbl) {O : Org} {E : Emb} {s : St} {a : Act} {w : World} (R : Rel O E s a w) (ops : Array Oper) {o o' : Oper} {p p' : Nat × Nat × Nat} (h : stoK T s.tmps s.heap o = some p) (h' : stoK T s.tmps s.heap o' = some p') (hp : offB p' p = true) :
    (stoOf E T s.tmps s.heap a o).off (stoOf E T s.tmps s.heap a o') := by
  obtain ⟨b, off, n⟩ := p
  obtain ⟨b', off', n'⟩ := p'
  obtain ⟨_, _, ⟨cs, sp, k1, k2, k3⟩, k4, k5, k6, _⟩ := stoK_spec T R (ops := ops) h
  obtain ⟨_, _, ⟨cs', sp', q1, q2, q3⟩, q4, q5, q6, _⟩ := stoK_spec T R (ops := ops) h'
  have hp := offB_spec hp
  simp only at hp
  unfold Sto.off
  rw [k4, k5, k6, q4, q5, q6]
  by_cases hb : b = b'
  · subst hb; omega
  · by_cases hB : (E.f b).1 = (E.f b').1
    · refine Classical.byContradiction fun hn => ?_
      have hx : ∃ x, (E.f b).2 + off ≤ x ∧ x < (E.f b).2 + off + n ∧ (E.f b').2 + off' ≤ x ∧ x < (E.f b').2 + off' + n' := by
        by_cases hle : (E.f b).2 + off ≤ (E.f b').2 + off'
        · exact ⟨(E.f b').2 + off', by omega⟩
        · exact ⟨(E.f b).2 + off, by omega⟩
      obtain ⟨x, x1, x2, x3, x4⟩ := hx
      refine R.sim.dis b b' _ _ hb k1 q1 rfl (E.f b).1 x ⟨rfl, by omega, by omega⟩ ⟨hB, by omega, by omega⟩
    · exact .inl hB

theorem unl_suffix (l : List Bool) : ∀ (n : Nat) (r : List Bool), (l = l.take n ++ r ∧ n ≤ l.length) → ((List.range' n r.length).filter fun j => !l.toArray.getD j true).length = countF r
  | n, [], _ => rfl
  | n, b :: r, h => by
    have h1 : l[n]? = some b := by
      rw [h.1, List.getElem?_append_right (by simp; omega)]
      simp [Nat.min_eq_left h.2]
    have hn : n < l.length := by
      rcases Nat.lt_or_ge n l.length with h' | h'
      · exact h'
      · rw [List.getElem?_eq_none h'] at h1; cases h1
    have h2 : l = l.take (n + 1) ++ r := by
      have e : l.drop n = b :: r := by
        have := congrArg (List.drop n) h.1
        rw [List.drop_append, List.length_take, Nat.min_eq_left h.2] at this
        simpa using this
      have e2 : l.drop (n + 1) = r := by
        have := congrArg (List.drop 1) e
        simpa [List.drop_drop] using this
      rw [← e2, List.take_append_drop]
    have ih := unl_suffix l (n + 1) r ⟨h2, hn⟩
    rw [List.length_cons, List.range'_succ, List.filter_cons]
    have h3 : l.toArray.getD n true = b := by simp [h1]
    rw [h3]
    cases b with
    | true => simpa [countF] using ih
    | false => simpa [countF] using ih

theorem unl_length {ops : Array Oper} {l : List Bool} (h : l.length = ops.size) : (unl ops l.toArray).length = countF l := by
  unfold unl
  rw [← h, List.range_eq_range']
  exact unl_suffix l 0 l ⟨by simp, Nat.zero_le _⟩

theorem get_nthB : ∀ {h : List Blk} {b : Nat} {B : Blk}, h[b]? = some B → nthB h b = some B
  | [], _, _, h => by simp at h
  | x :: r, 0, _, h => by simpa [nthB] using h
  | x :: r, b + 1, _, h => by simp only [nthB]; exact get_nthB (by simpa using h)

/-- The store of the operation with this number. -/
def stoN (E : Emb) (T : Tbl) (ts : List EV) (h : List Blk) (a : Act) (ops : Array Oper) (i : Nat) : Sto :=
  match ops[i]? with
  | some o => stoOf E T ts h a o
  | none => ⟨0, 0, []⟩

theorem tail_run {T : Tbl} {O : Org} (on : O.E.n = O.h.length) {ops : Array Oper} {a : Act} {Q : Exit → Act → World → Prop} {k : St → Prop} (sp : Nat → Sto) (hn : ∀ E' s' w', k s' → Rel O E' s' a w' → Q .normal a w')
    (l : List Bool) (hl : l.length = ops.size) : ∀ (r : List Oper) (m : List Bool) (i : Nat) {E : Emb} {s : St} {w : World}, ops.toList = ops.toList.take i ++ r → l = l.take i ++ m → i ≤ l.length → Rel O E s a w → tailRun T ops r m s k →
      (∀ j ∈ (List.range' i m.length).filter (fun j => !l.toArray.getD j true), ∃ o, ops[j]? = some o ∧ Region.wanted o (yielded ops a.tmps) = true ∧ o.dst = none ∧ ∀ w', (sp j).can w' → (execOp a.eval o).run T.P w' = .ok .skip ((sp j).on w')) →
      ((List.range' i m.length).filter (fun j => !l.toArray.getD j true)).Pairwise (fun x y => (sp x).off (sp y)) →
      (∀ j ∈ (List.range' i m.length).filter (fun j => !l.toArray.getD j true), (sp j).can w) →
      Q .normal a (allOn sp ((List.range' i m.length).filter fun j => !l.toArray.getD j true) w)
  | [], m, i, E, s, w, h1, h2, h3, R, hk, hop, hap, hcan => by
    have hm : m = [] := by
      have e1 := congrArg List.length h1
      have e2 := congrArg List.length h2
      simp only [List.length_append, List.length_take, Array.length_toList, List.length_nil] at e1 e2
      exact List.length_eq_zero_iff.1 (by omega)
    subst hm
    exact hn _ _ _ hk R
  | o :: r, [], i, E, s, w, h1, h2, h3, R, hk, hop, hap, hcan => hk.elim
  | o :: r, b :: m, i, E, s, w, h1, h2, h3, R, hk, hop, hap, hcan => by
    have hb : l[i]? = some b := by
      rw [h2, List.getElem?_append_right (by simp; omega)]
      simp [Nat.min_eq_left h3]
    have hil : i < l.length := by
      rcases Nat.lt_or_ge i l.length with h' | h'
      · exact h'
      · rw [List.getElem?_eq_none h'] at hb; cases hb
    have ho : ops[i]? = some o := by
      rw [← Array.getElem?_toList, h1, List.getElem?_append_right (by simp; omega)]
      have : i ≤ ops.toList.length := by rw [Array.length_toList]; omega
      rw [List.length_take, Nat.min_eq_left this, Nat.sub_self]
      rfl
    have next : ∀ {α : Type} {x : List α} {y : α} {z : List α}, x = x.take i ++ y :: z → i ≤ x.length → x = x.take (i + 1) ++ z := fun {α x y z} he hi => by
      have e : x.drop i = y :: z := by
        have := congrArg (List.drop i) he
        rw [List.drop_append, List.length_take, Nat.min_eq_left hi] at this
        simpa using this
      have e2 : x.drop (i + 1) = z := by
        have := congrArg (List.drop 1) e
        simpa [List.drop_drop] using this
      rw [← e2, List.take_append_drop]
    have n1 := next h1 (by rw [Array.length_toList]; omega)
    have n2 := next h2 h3
    rw [List.length_cons, List.range'_succ, List.filter_cons] at hop hap hcan ⊢
    have hg : l.toArray.getD i true = b := by simp [hb]
    rw [hg] at hop hap hcan ⊢
    cases b with
    | true =>
      simp only [Bool.not_true, Bool.false_eq_true, if_false] at hop hap hcan ⊢
      exact tail_run on sp hn l hl r m (i + 1) n1 n2 hil R hk hop hap hcan
    | false =>
      simp only [Bool.not_false, if_true] at hop hap hcan ⊢
      obtain ⟨o', ho', hw, hd, hrun⟩ := hop i List.mem_cons_self
      rw [ho] at ho'
      simp only [Option.some.injEq] at ho'
      subst ho'
      have hk' : opX T ops s o fun s' => tailRun T ops r m s' k := hk
      have h5 := opX_snd on R hk' (next := fun a' w' => ∃ E' s', tailRun T ops r m s' k ∧ Rel O E' s' a' w') (Q := Q) (fun E' s' a' w' h1 h2 => ⟨E', s', h1, h2⟩)
      rw [if_pos hw] at h5
      unfold Oper.wp at h5
      rw [hrun w (hcan i List.mem_cons_self), Oper.upon_skip, hd] at h5
      obtain ⟨E', s', h6, h7⟩ := h5
      rw [List.pairwise_cons] at hap
      simp only [allOn]
      refine tail_run on sp hn l hl r m (i + 1) n1 n2 hil h7 h6 (fun j hj => hop j (List.mem_cons_of_mem _ hj)) hap.2 (fun j hj => ?_)
      exact Sto.can_on (Sto.off_symm (hap.1 j hj)) (hcan j (List.mem_cons_of_mem _ hj))

end Go.Anv

/- The engine, part 10: the walk of a region that draws its order. Plain theorems; their condition: no panic is let through. -/
namespace Go.Anv
open Go

/-- The walk of an operation that may be taken first: 'yes' with its value, or 'no'. -/
def pureK (T : Tbl) (h0 : List Blk) (ops : Array Oper) (ts : List EV) (o : Oper) (yes : EV → Prop) (no : Prop) : Prop :=
  match o.guard with
  | none => match px T h0 (evT ts) (evT ts) o.op with
    | .ok v => match detE v with
      | true => yes v
      | false => no
    | .need p v => match detE v with
      | true => Need p (yes v)
      | false => no
    | .fail => no
  | some (j, want) => guardK ops ts j want fun g => match px T h0 (fun x => strip (evT ts x)) (evT ts) o.op with
    | .ok v => match detE v with
      | true => obligK g ((looks o.op).map (evT ts)) (yes (.gd g v))
      | false => no
    | .need p v => match detE v with
      | true => obligK g ((looks o.op).map (evT ts)) (Need (g = true → p) (yes (.gd g v)))
      | false => no
    | .fail => no

def tryPure (T : Tbl) (h0 : List Blk) (ops : Array Oper) (ts : List EV) (l : List Bool) (yes : Nat → Oper → EV → Prop) (no : Prop) (rs : List Nat) : Prop :=
  List.rec (motive := fun _ => Prop) no (fun i _ ih => match nthO ops.toList i with
    | none => False
    | some o => match freeGo ops.toList i o 0 ops.toList l with
      | true => pureK T h0 ops ts o (yes i o) ih
      | false => ih) rs

/-- The blocks of the begin are as they were. -/
def preK (h0 : List Blk) : List Blk → Prop → Prop :=
  List.rec (motive := fun _ => List Blk → Prop → Prop) (fun _ k => k) (fun x _ ih h k => match h with
    | [] => False
    | y :: r' => match x with
      | .dead => ih r' k
      | .cells m cs sp => Need (Blk.cells m cs sp = y) (ih r' k)
      | .map es => Need (Blk.map es = y) (ih r' k)) h0

theorem preK_spec : ∀ {h0 h : List Blk} {k : Prop}, preK h0 h k → (∀ (i : Nat) (B : Blk), h0[i]? = some B → B = .dead ∨ h[i]? = some B) ∧ k
  | [], _, _, hk => ⟨fun i B hi => by simp at hi, hk⟩
  | x :: r, y :: r', k, hk => by
    have hk' : (x = .dead ∨ x = y) ∧ preK r r' k := by
      cases x with
      | dead => exact ⟨.inl rfl, hk⟩
      | cells m cs sp => exact ⟨.inr hk.p, hk.k⟩
      | map es => exact ⟨.inr hk.p, hk.k⟩
    obtain ⟨h1, h2⟩ := preK_spec hk'.2
    refine ⟨fun i B hi => ?_, h2⟩
    cases i with
    | zero =>
      simp only [List.getElem?_cons_zero, Option.some.injEq] at hi ⊢
      subst hi
      exact hk'.1.imp id Eq.symm
    | succ i => simpa using h1 i B (by simpa using hi)
  | .dead :: _, [], _, hk => hk.elim
  | .cells .. :: _, [], _, hk => hk.elim
  | .map _ :: _, [], _, hk => hk.elim

/-- All of them, one behind the other. -/
def allK (f : Nat → Oper → Prop) (ops : List Oper) (rs : List Nat) : Prop :=
  List.rec (motive := fun _ => Prop) True (fun i r ih => match r with
    | [] => match nthO ops i with
      | none => False
      | some o => f i o
    | _ :: _ => (match nthO ops i with
      | none => False
      | some o => f i o) ∧ ih) rs

theorem allK_spec {f : Nat → Oper → Prop} {ops : List Oper} : ∀ {rs : List Nat}, allK f ops rs → ∀ i ∈ rs, ∃ o, ops[i]? = some o ∧ f i o
  | [], _, i, hi => by cases hi
  | [x], h, i, hi => by
    simp only [List.mem_singleton] at hi
    subst hi
    have h : (match nthO ops i with
      | none => False
      | some o => f i o) := h
    split at h
    · exact h.elim
    · rename_i o ho
      rw [nthO_eq] at ho
      exact ⟨o, ho, h⟩
  | x :: y :: r, h, i, hi => by
    have h : (match nthO ops x with
      | none => False
      | some o => f x o) ∧ allK f ops (y :: r) := h
    obtain ⟨h1, h2⟩ := h
    rcases List.mem_cons.1 hi with rfl | hi
    · split at h1
      · exact h1.elim
      · rename_i o ho
        rw [nthO_eq] at ho
        exact ⟨o, ho, h1⟩
    · exact allK_spec h2 i hi

/-- One step of a walk in whatever order; 'ih': the steps behind it. -/
def drawS (T : Tbl) (h0 : List Blk) (ops : Array Oper) (k : St → Prop) (n : Nat) (ih : List Bool → St → Prop) (l : List Bool) (s : St) : Prop :=
  match rdyGo l 0 ops.toList l with
  | [] => k s
  | i :: rs => match s with
    | ⟨ts, h⟩ => tryPure T h0 ops ts l (fun i o v => forceE v fun v => putK ts h o.dst v fun s' => ih (setB l i) s')
      (match tailGo T ts h h0 l ops.toList l [] && Nat.ble (countF l) (n + 1) with
        | true => preK h0 h (tailRun T ops ops.toList l ⟨ts, h⟩ k)
        | false => allK (fun i o => opX T ops ⟨ts, h⟩ o fun s' => preK h0 s'.heap (ih (setB l i) s')) ops.toList (i :: rs)) (i :: rs)

/-- (By the recursor itself: so that the elaborator and the kernel unfold it alike.) -/
def drawX (T : Tbl) (h0 : List Blk) (ops : Array Oper) (k : St → Prop) (n : Nat) : List Bool → St → Prop :=
  Nat.rec (motive := fun _ => List Bool → St → Prop) (fun l s => match rdyGo l 0 ops.toList l with
    | [] => k s
    | _ :: _ => False) (fun n ih l s => drawS T h0 ops k n ih l s) n

theorem drawX_zero (T : Tbl) (h0 : List Blk) (ops : Array Oper) (k : St → Prop) (l : List Bool) (s : St) : drawX T h0 ops k 0 l s = (match rdyGo l 0 ops.toList l with
    | [] => k s
    | _ :: _ => False) := rfl
theorem drawX_succ (T : Tbl) (h0 : List Blk) (ops : Array Oper) (k : St → Prop) (n : Nat) (l : List Bool) (s : St) : drawX T h0 ops k (n + 1) l s = drawS T h0 ops k n (drawX T h0 ops k n) l s := rfl

def falses : List Oper → List Bool
  | [] => []
  | _ :: r => false :: falses r

theorem falses_eq : ∀ l : List Oper, falses l = List.replicate l.length false
  | [] => rfl
  | _ :: r => by simp [falses, falses_eq r, List.replicate_succ]

theorem length_setB (l : List Bool) (i : Nat) : (setB l i).length = l.length := by simp [setB_eq]

section draw
variable {T : Tbl} {E0 : Emb} {hs h0 : List Blk} {w0 : World} {D0 : List Deferred} {E00 : Emb} {ops : Array Oper} {Q : Exit → Act → World → Prop}

theorem px_held {E : Emb} {h : List Blk} {w : World} (S : Sim E00 h w) (le : E00.le E) (ev raw : Operand → EV) (ρ : Operand → Value) (o : Oper)
    (hev : ∀ x ∈ looks o.op, denE E (ev x) (ρ x)) (hraw : ∀ x, denE E (raw x) (ρ x)) (hne : px T h ev raw o.op ≠ .fail) : (px T h ev raw o.op).yl E T.P w (execOp ρ o) := by
  have := px_snd T (S.weak le) ev raw ρ o hev hraw
  rwa [px_app T _ _ _ _ _ hne] at this

theorem pureK_snd {E : Emb} {s : St} {a : Act} {w : World} (R : Rel ⟨E0, hs, w0, D0⟩ E s a w) (hS : Sim E00 h0 w) (le : E00.le E) {o : Oper} {yes : EV → Prop} {no : Prop}
    (hk : pureK T h0 ops s.tmps o yes no) : no ∨ ∃ v u, denE E v u ∧ yes v ∧ YieldsIf T.P ops (Sim E00 h0) o u a := by
  unfold pureK at hk
  have hev : (St.ev s) = evT s.tmps := rfl
  split at hk
  · rename_i hg
    have hw : Region.wanted o (yielded ops a.tmps) = true := by simp [Region.wanted, hg]
    have hpx : ∀ w', Sim E00 h0 w' → px T h0 (evT s.tmps) (evT s.tmps) o.op ≠ .fail → (px T h0 (evT s.tmps) (evT s.tmps) o.op).yl E T.P w' (execOp a.eval o) := fun w' S' hne =>
      px_held S' le _ _ a.eval o (fun x _ => ev_denE R.fr x) (fun x => ev_denE R.fr x) hne
    split at hk
    · rename_i v hv
      split at hk
      · rename_i hd
        have h1 := hpx w hS (by rw [hv]; simp)
        rw [hv] at h1
        obtain ⟨z, _, h2⟩ := h1
        refine .inr ⟨v, z, h2, hk, .inl ⟨hw, fun w' S' => ?_⟩⟩
        have h3 := hpx w' S' (by rw [hv]; simp)
        rw [hv] at h3
        obtain ⟨z', h4, h5⟩ := h3
        rw [detE_eq v _ _ hd h2 h5]
        exact h4
      · exact .inl hk
    · rename_i p v hv
      split at hk
      · rename_i hd
        obtain ⟨hp, hk⟩ := hk
        have h1 := hpx w hS (by rw [hv]; simp)
        rw [hv] at h1
        obtain ⟨z, _, h2⟩ := h1 hp
        refine .inr ⟨v, z, h2, hk, .inl ⟨hw, fun w' S' => ?_⟩⟩
        have h3 := hpx w' S' (by rw [hv]; simp)
        rw [hv] at h3
        obtain ⟨z', h4, h5⟩ := h3 hp
        rw [detE_eq v _ _ hd h2 h5]
        exact h4
      · exact .inl hk
    · exact .inl hk
  · rename_i j want hg
    obtain ⟨g, h1, hk⟩ := guardK_snd R hk
    have hw : Region.wanted o (yielded ops a.tmps) = g := by simp only [Region.wanted, hg]; exact h1
    have hob : ∀ {l : List Operand}, oblig g (l.map s.ev) → g = true → ∀ x ∈ l, denE E (strip (s.ev x)) (a.eval x) := fun {l} => by
      induction l with
      | nil => intro _ _ x hx; cases hx
      | cons y r ih =>
        intro h hg x hx
        have hy := ev_denE R.fr y
        simp only [List.map_cons] at h
        rcases List.mem_cons.1 hx with rfl | hx
        · cases he : s.ev x with
          | gd g' v =>
            rw [he] at h hy
            simp only [oblig] at h
            simp only [denE] at hy
            exact hy.1 (h.1 hg)
          | _ => rw [he] at hy; exact hy
        · refine ih ?_ hg x hx
          cases he : s.ev y with
          | gd g' v => rw [he] at h; exact h.2
          | _ => rw [he] at h; exact h
    have hpx : g = true → oblig g ((looks o.op).map s.ev) → ∀ w', Sim E00 h0 w' → px T h0 (fun x => strip (evT s.tmps x)) (evT s.tmps) o.op ≠ .fail →
        (px T h0 (fun x => strip (evT s.tmps x)) (evT s.tmps) o.op).yl E T.P w' (execOp a.eval o) := fun hg ho w' S' hne =>
      px_held S' le _ _ a.eval o (hob ho hg) (fun x => ev_denE R.fr x) hne
    split at hk
    · rename_i v hv
      split at hk
      · rename_i hd
        obtain ⟨ho, hk⟩ := (obligK_iff _ _ _).1 hk
        cases g with
        | false => exact .inr ⟨.gd false v, undef, by simp [denE], hk, .inr ⟨hw, rfl⟩⟩
        | true =>
          have h1 := hpx rfl ho w hS (by rw [hv]; simp)
          rw [hv] at h1
          obtain ⟨z, _, h2⟩ := h1
          refine .inr ⟨.gd true v, z, by simp only [denE]; exact ⟨fun _ => h2, fun h => by cases h⟩, hk, .inl ⟨hw, fun w' S' => ?_⟩⟩
          have h3 := hpx rfl ho w' S' (by rw [hv]; simp)
          rw [hv] at h3
          obtain ⟨z', h4, h5⟩ := h3
          rw [detE_eq v _ _ hd h2 h5]
          exact h4
      · exact .inl hk
    · rename_i p v hv
      split at hk
      · rename_i hd
        obtain ⟨ho, hp, hk⟩ := (obligK_iff _ _ _).1 hk
        cases g with
        | false => exact .inr ⟨.gd false v, undef, by simp [denE], hk, .inr ⟨hw, rfl⟩⟩
        | true =>
          have h1 := hpx rfl ho w hS (by rw [hv]; simp)
          rw [hv] at h1
          obtain ⟨z, _, h2⟩ := h1 (hp rfl)
          refine .inr ⟨.gd true v, z, by simp only [denE]; exact ⟨fun _ => h2, fun h => by cases h⟩, hk, .inl ⟨hw, fun w' S' => ?_⟩⟩
          have h3 := hpx rfl ho w' S' (by rw [hv]; simp)
          rw [hv] at h3
          obtain ⟨z', h4, h5⟩ := h3 (hp rfl)
          rw [detE_eq v _ _ hd h2 h5]
          exact h4
      · exact .inl hk
    · exact .inl hk

theorem tryPure_snd {E : Emb} {s : St} {a : Act} {w : World} (R : Rel ⟨E0, hs, w0, D0⟩ E s a w) (hS : Sim E00 h0 w) (le : E00.le E) {l : List Bool} {yes : Nat → Oper → EV → Prop} {no : Prop} :
    ∀ {rs : List Nat}, tryPure T h0 ops s.tmps l yes no rs → no ∨ ∃ i o v u, i ∈ rs ∧ ops[i]? = some o ∧ freeGo ops.toList i o 0 ops.toList l = true ∧ denE E v u ∧ yes i o v ∧ YieldsIf T.P ops (Sim E00 h0) o u a
  | [], hk => .inl hk
  | i :: r, hk => by
    have hk : (match nthO ops.toList i with
      | none => False
      | some o => match freeGo ops.toList i o 0 ops.toList l with
        | true => pureK T h0 ops s.tmps o (yes i o) (tryPure T h0 ops s.tmps l yes no r)
        | false => tryPure T h0 ops s.tmps l yes no r) := hk
    split at hk
    · exact hk.elim
    · rename_i o ho
      rw [nthO_eq, Array.getElem?_toList] at ho
      have rest : tryPure T h0 ops s.tmps l yes no r → no ∨ ∃ i' o v u, i' ∈ i :: r ∧ ops[i']? = some o ∧ freeGo ops.toList i' o 0 ops.toList l = true ∧ denE E v u ∧ yes i' o v ∧ YieldsIf T.P ops (Sim E00 h0) o u a := fun h => by
        rcases tryPure_snd R hS le h with h | ⟨i', o', v, u, h1, h2⟩
        · exact .inl h
        · exact .inr ⟨i', o', v, u, List.mem_cons_of_mem _ h1, h2⟩
      split at hk
      · rename_i hf
        rcases pureK_snd R hS le hk with h | ⟨v, u, h1, h2, h3⟩
        · exact rest h
        · exact .inr ⟨i, o, v, u, List.mem_cons_self, ho, hf, h1, h2, h3⟩
      · exact rest hk

theorem tail_snd (n0 : E0.n = hs.length) {k : St → Prop} (hn : ∀ E' s' a' w', k s' → Rel ⟨E0, hs, w0, D0⟩ E' s' a' w' → Q .normal a' w')
    {n : Nat} {l : List Bool} {E : Emb} {s : St} {a : Act} {w : World} (hl : l.length = ops.size) (R : Rel ⟨E0, hs, w0, D0⟩ E s a w) (hS : Sim E00 h0 w) (le : E00.le E)
    (ht : tailGo T s.tmps s.heap h0 l ops.toList l [] = true) (hc : countF l ≤ n) (hk : preK h0 s.heap (tailRun T ops ops.toList l s k)) : wpAnyH T.P .any ops Q (Sim E00 h0) n l.toArray a w := by
  obtain ⟨hpre, hk⟩ := preK_spec hk
  obtain ⟨t1, t2⟩ := tailGo_spec ht
  have hmem : ∀ i ∈ unl ops l.toArray, ∃ o, ops[i]? = some o ∧ ops.toList[i]? = some o ∧ l[i]? = some false := fun i hi => by
    obtain ⟨h1, h2⟩ := List.mem_filter.1 hi
    have h1 := List.mem_range.1 h1
    have h3 : l[i]? = some l[i] := List.getElem?_eq_getElem (by omega)
    refine ⟨ops[i], Array.getElem?_eq_getElem h1, by rw [Array.getElem?_toList]; exact Array.getElem?_eq_getElem h1, ?_⟩
    simp only [Array.getD_eq_getD_getElem?, List.getElem?_toArray, h3, Option.getD_some, Bool.not_eq_true'] at h2
    rw [h3, h2]
  have hsp : ∀ i o, ops[i]? = some o → stoN E T s.tmps s.heap a ops i = stoOf E T s.tmps s.heap a o := fun i o ho => by unfold stoN; rw [ho]
  have hoff : ∀ i ∈ unl ops l.toArray, ∀ j ∈ unl ops l.toArray, i < j → (stoN E T s.tmps s.heap a ops i).off (stoN E T s.tmps s.heap a ops j) := fun i hi j hj hij => by
    obtain ⟨o, h1, h2, h3⟩ := hmem i hi
    obtain ⟨o', k1, k2, k3⟩ := hmem j hj
    obtain ⟨p, q1, _⟩ := t1 i o h2 h3
    obtain ⟨p', q2, _⟩ := t1 j o' k2 k3
    rw [hsp i o h1, hsp j o' k1]
    exact sto_off T R ops q1 q2 (t2 i j o o' p p' h2 h3 k2 k3 hij q1 q2)
  refine stores_any (stoN E T s.tmps s.heap a ops) a n l.toArray w (by simpa using hl) (by rw [unl_length hl]; exact hc) hS (fun i hi => ?_) (fun i hi j hj hij => ?_) (fun i hi => ?_) (fun i hi w' hS' => ?_) ?_
  · obtain ⟨o, h1, h2, h3⟩ := hmem i hi
    obtain ⟨⟨b, off, m⟩, k1, k2, k3, _⟩ := t1 i o h2 h3
    obtain ⟨q1, q2, q3, q4, q5, q6, q7, q8⟩ := stoK_spec T R (ops := ops) k1
    refine ⟨o, h1, q1, q2, fun e he hb => ?_, by rw [hsp i o h1]; exact q8⟩
    rw [waitB_eq, List.all_eq_true] at k2
    have := k2 e (by simpa using he)
    rw [hb] at this
    simpa using this
  · rcases Nat.lt_or_gt_of_ne hij with h | h
    · exact hoff i hi j hj h
    · exact Sto.off_symm (hoff j hj i hi h)
  · obtain ⟨o, h1, h2, h3⟩ := hmem i hi
    obtain ⟨⟨b, off, m⟩, k1, k2, k3, _⟩ := t1 i o h2 h3
    obtain ⟨q1, q2, q3, q4, q5, q6, q7, q8⟩ := stoK_spec T R (ops := ops) k1
    rw [hsp i o h1]
    exact q7
  · obtain ⟨o, h1, h2, h3⟩ := hmem i hi
    obtain ⟨⟨b, off, m⟩, k1, k2, k3, _⟩ := t1 i o h2 h3
    obtain ⟨q1, q2, ⟨cs, sp, q3, q3', _⟩, q4, q5, q6, q7, q8⟩ := stoK_spec T R (ops := ops) k1
    rw [hsp i o h1]
    refine hS'.outside _ fun j B hj x hx1 hx2 => ?_
    rw [q5] at hx1 hx2
    rw [q6] at hx2
    rw [q4]
    rcases hpre j B hj with rfl | hB
    · intro h; exact h
    · have hjlt : j < E00.n := by
        rw [hS.n]
        rcases Nat.lt_or_ge j h0.length with h' | h'
        · exact h'
        · rw [List.getElem?_eq_none h'] at hj; cases hj
      rw [← le.2 j hjlt]
      refine R.sim.dis b j _ _ ?_ q3 hB rfl _ _ ⟨rfl, by omega, by omega⟩
      rintro rfl
      have hnb : nthB h0 b = some B := get_nthB hj
      simp only [deadAt, hnb] at k3
      cases B with
      | dead => rw [q3] at hB; cases hB
      | cells => cases k3
      | map => cases k3
  · have hu : unl ops l.toArray = (List.range' 0 l.length).filter fun j => !l.toArray.getD j true := by
      unfold unl
      rw [← hl, List.range_eq_range']
    have hpw : (unl ops l.toArray).Pairwise fun x y => (stoN E T s.tmps s.heap a ops x).off (stoN E T s.tmps s.heap a ops y) := by
      have h1 : (unl ops l.toArray).Pairwise (fun x y => x < y) := List.Pairwise.filter _ List.pairwise_lt_range
      exact List.Pairwise.imp_of_mem (fun {x y} hx hy hxy => hoff x hx y hy hxy) h1
    have hop : ∀ i ∈ unl ops l.toArray, (∃ o, ops[i]? = some o ∧ Region.wanted o (yielded ops a.tmps) = true ∧ o.dst = none ∧ ∀ w', (stoN E T s.tmps s.heap a ops i).can w' → (execOp a.eval o).run T.P w' = .ok .skip ((stoN E T s.tmps s.heap a ops i).on w')) ∧
        (stoN E T s.tmps s.heap a ops i).can w := fun i hi => by
      obtain ⟨o, h1, h2, h3⟩ := hmem i hi
      obtain ⟨⟨b, off, m⟩, k1, k2, k3, _⟩ := t1 i o h2 h3
      obtain ⟨q1, q2, q3, q4, q5, q6, q7, q8⟩ := stoK_spec T R (ops := ops) k1
      rw [hsp i o h1]
      exact ⟨⟨o, h1, q1, q2, q8⟩, q7⟩
    rw [hu] at hpw hop ⊢
    exact tail_run (O := ⟨E0, hs, w0, D0⟩) n0 _ (fun E' s' w' h1 h2 => hn E' s' _ w' h1 h2) l hl ops.toList l 0 (by simp) (by simp) (Nat.zero_le _) R hk (fun i hi => (hop i hi).1) hpw (fun i hi => (hop i hi).2)

theorem drawX_snd (n0 : E0.n = hs.length) (hsel : noSel ops.toList = true) (hQ : ∀ c a w, ¬ Q (.panic c) a w) (S0 : ∀ i, i < E00.n → E00.f i = E0.f i) (hn0 : E00.n ≤ E0.n) {k : St → Prop}
    (hn : ∀ E' s' a' w', k s' → Rel ⟨E0, hs, w0, D0⟩ E' s' a' w' → Q .normal a' w') :
    ∀ (n : Nat) (l : List Bool) {E : Emb} {s : St} {a : Act} {w : World}, l.length = ops.size → Rel ⟨E0, hs, w0, D0⟩ E s a w → Sim E00 h0 w → drawX T h0 ops k n l s → wpAnyH T.P .any ops Q (Sim E00 h0) n l.toArray a w
  | 0, l, E, s, a, w, hl, R, hS, hk => by
    simp only [drawX_zero] at hk
    rw [rdy_eq ops l hl] at hk
    split at hk
    · rename_i hr
      exact ⟨hr, hn _ _ _ _ hk R⟩
    · exact hk.elim
  | n + 1, l, E, s, a, w, hl, R, hS, hk => by
    have hle : ∀ {E s a w}, Rel ⟨E0, hs, w0, D0⟩ E s a w → E00.le E := fun {E s a w} R => by
      have h1 := R.sin.le n0 R.sim.n
      exact ⟨Nat.le_trans hn0 h1.1, fun i hi => by rw [h1.2 i (Nat.lt_of_lt_of_le hi hn0)]; exact (S0 i hi).symm⟩
    have hset : ∀ i, (setB l i).toArray = l.toArray.setIfInBounds i true := fun i => by simp [setB_eq]
    obtain ⟨ts, h⟩ := s
    simp only [drawX_succ, drawS] at hk
    rw [rdy_eq ops l hl] at hk
    split at hk
    · rename_i hr
      exact wpAnyH_done hr (hn _ _ _ _ hk R) _
    · rename_i i rs hr
      rcases tryPure_snd R hS (hle R) hk with hk | ⟨i', o, v, u, h1, h2, h3, h4, h5, h6⟩
      · split at hk
        · rename_i ht
          simp only [Bool.and_eq_true] at ht
          exact tail_snd n0 hn hl R hS (hle R) ht.1 (Nat.le_of_ble_eq_true ht.2) hk
        refine wpAnyH_all hr (by simp) fun j hj => ?_
        obtain ⟨o, ho, hk⟩ := allK_spec hk j hj
        have ho' : ops[j]? = some o := by simpa using ho
        have := opX_snd (O := ⟨E0, hs, w0, D0⟩) n0 R hk (next := fun a' w' => Sim E00 h0 w' ∧ wpAnyH T.P .any ops Q (Sim E00 h0) n (l.toArray.setIfInBounds j true) a' w') (Q := Q) (fun E' s' a' w' h1 h2 => by
          obtain ⟨h3, h4⟩ := preK_spec h1
          have hS' : Sim E00 h0 w' := hS.restrict (hle h2) h2.sim h3
          refine ⟨hS', ?_⟩
          rw [← hset]
          exact drawX_snd n0 hsel hQ S0 hn0 hn n (setB l j) (by rw [length_setB]; exact hl) h2 hS' h4)
        unfold wpOp
        simp only [ho']
        split
        · rename_i hw
          rw [if_pos hw] at this
          exact .inl this
        · rename_i hw
          rw [if_neg hw] at this
          exact this
      · simp only [forceE_eq, putK_eq] at h5
        refine wpAnyH_take h2 (noSel_eq hsel) (free_of h2 h3) ?_ (fun c a w h => absurd h (hQ c _ w)) h6 hS ?_
        · rw [hr]
          simpa using h1
        · rw [← hset]
          exact drawX_snd n0 hsel hQ S0 hn0 hn n (setB l i') (by rw [length_setB]; exact hl) (R.put o.dst h4) hS h5

end draw

/-- Some blocks of a small world, from its begin on; the others are let go. -/
def keptK : List Blk → List Blk → Prop
  | [], [] => True
  | .dead :: r, _ :: r' => keptK r r'
  | x :: r, y :: r' => x = y ∧ keptK r r'
  | _, _ => False

theorem keptK_spec : ∀ {h0 h : List Blk}, keptK h0 h → h0.length = h.length ∧ ∀ (i : Nat) (B : Blk), h0[i]? = some B → B = .dead ∨ h[i]? = some B
  | [], [], _ => ⟨rfl, fun i B hi => by simp at hi⟩
  | [], _ :: _, hk => hk.elim
  | x :: r, y :: r', hk => by
    have hk' : (x = .dead ∨ x = y) ∧ keptK r r' := by
      cases x with
      | dead => exact ⟨.inl rfl, hk⟩
      | cells m cs sp => exact ⟨.inr hk.1, hk.2⟩
      | map es => exact ⟨.inr hk.1, hk.2⟩
    obtain ⟨h1, h2⟩ := keptK_spec hk'.2
    refine ⟨by simp; exact h1, fun i B hi => ?_⟩
    cases i with
    | zero =>
      simp only [List.getElem?_cons_zero, Option.some.injEq] at hi ⊢
      subst hi
      exact hk'.1.imp id Eq.symm
    | succ i => simpa using h2 i B (by simpa using hi)
  | .dead :: _, [], hk => hk.elim
  | .cells .. :: _, [], hk => hk.elim
  | .map _ :: _, [], hk => hk.elim

theorem keptK_refl : ∀ h : List Blk, keptK h h
  | [] => trivial
  | .dead :: r => keptK_refl r
  | .cells .. :: r => ⟨rfl, keptK_refl r⟩
  | .map _ :: r => ⟨rfl, keptK_refl r⟩

theorem Sim.kept {E : Emb} {h h0 : List Blk} {w : World} (S : Sim E h w) (hk : keptK h0 h) : Sim E h0 w := by
  obtain ⟨h1, h2⟩ := keptK_spec hk
  refine ⟨by rw [h1]; exact S.n, fun i B hi => ?_, fun i j A B hij hi hj hA b o hc => ?_⟩
  · rcases h2 i B hi with rfl | h
    · trivial
    · exact S.ok i B h
  · rcases h2 i A hi with rfl | h
    · cases hA
    · rcases h2 j B hj with rfl | h'
      · intro hc'; exact hc'
      · exact S.dis i j A B hij h h' hA b o hc

theorem draw_core {T : Tbl} {O : Org} (on : O.E.n = O.h.length) {id : Nat} {ops : Array Oper} {s : St} {K : Exit → St → Prop} (h0 : List Blk) (hh : h0 = [] ∨ keptK h0 s.heap) (hsel : noSel ops.toList = true) (hQ : ∀ c s, ¬ K (.panic c) s)
    (hk : drawX T h0 ops (K .normal) ops.size (falses ops.toList) s) : DrawG T O id ops s K := by
  intro E a w R
  have RD : Rel O E s a w.drew := ⟨R.fr, R.df, R.sim.drew, R.sin.trans on R.sim.n (Since.drew E s.heap w)⟩
  have fal : (falses ops.toList).toArray = Array.replicate ops.size false := by simp [falses_eq]
  let E00 : Emb := ⟨h0.length, E.f⟩
  have hn0 : E00.n ≤ E.n := by
    rcases hh with rfl | hh
    · exact Nat.zero_le _
    · rw [R.sim.n]; exact Nat.le_of_eq (keptK_spec hh).1
  have hS : Sim E00 h0 w.drew := by
    rcases hh with rfl | hh
    · exact ⟨rfl, fun i B hi => by simp at hi, fun i j A B _ hi => by simp at hi⟩
    · have h1 := R.sim.drew.kept hh
      have : E00 = E := by
        have := R.sim.n
        have := (keptK_spec hh).1
        cases E
        simp only [E00] at *
        simp [*]
      rw [this]
      exact h1
  refine wp_region_held (S := Sim E00 h0) T.mixed ?_
  rw [← fal]
  refine drawX_snd (E00 := E00) (h0 := h0) (E0 := E) (hs := s.heap) (w0 := w.drew) (D0 := O.D) R.sim.n hsel (fun c a w h => ?_) (fun i _ => rfl) hn0 (k := K .normal) (fun E' s' a' w' h1 h2 => ?_) ops.size _ (by simp [falses_eq])
    ⟨R.fr, R.df, R.sim.drew, Since.refl _ _ _⟩ hS hk
  · obtain ⟨E, s, h1, _⟩ := h
    exact hQ c s h1
  · exact ⟨E', s', h1, h2.fr, h2.df, h2.sim, RD.sin.trans on R.sim.n h2.sin⟩

/-- **A region that draws its order: loads may be taken first, for no block that was there is written.** -/
theorem draw_held {T : Tbl} {O : Org} (on : O.E.n = O.h.length) {id : Nat} {ops : Array Oper} {s : St} {K : Exit → St → Prop} (hsel : noSel ops.toList = true) (hQ : ∀ c s, ¬ K (.panic c) s)
    (hk : drawX T s.heap ops (K .normal) ops.size (falses ops.toList) s) : DrawG T O id ops s K := draw_core on s.heap (.inr (keptK_refl _)) hsel hQ hk

/-- Some blocks are let go: those with these numbers. -/
def killK (l : List Nat) : List Blk → (List Blk → Prop) → Prop :=
  List.rec (motive := fun _ => List Blk → (List Blk → Prop) → Prop) (fun h k => k h) (fun i _ ih h k => updBK h i .dead fun h => ih h k) l

theorem keptK_upd : ∀ {h0 h : List Blk} (i : Nat), keptK h0 h → keptK (updB h0 i .dead) h
  | [], [], _, hk => hk
  | [], _ :: _, _, hk => hk.elim
  | .dead :: _, [], _, hk => hk.elim
  | .cells .. :: _, [], _, hk => hk.elim
  | .map _ :: _, [], _, hk => hk.elim
  | x :: r, y :: r', i, hk => by
    have hk' : (x = .dead ∨ x = y) ∧ keptK r r' := by
      cases x with
      | dead => exact ⟨.inl rfl, hk⟩
      | cells m cs sp => exact ⟨.inr hk.1, hk.2⟩
      | map es => exact ⟨.inr hk.1, hk.2⟩
    cases i with
    | zero => exact hk'.2
    | succ i =>
      have := keptK_upd i hk'.2
      rcases hk'.1 with rfl | rfl
      · exact this
      · cases x with
        | dead => exact this
        | cells m cs sp => exact ⟨rfl, this⟩
        | map es => exact ⟨rfl, this⟩

theorem killK_spec : ∀ {l : List Nat} {h1 h : List Blk} {k : List Blk → Prop}, keptK h1 h → killK l h1 k → ∃ h0, keptK h0 h ∧ k h0
  | [], h1, h, k, h2, hk => ⟨h1, h2, hk⟩
  | i :: r, h1, h, k, h2, hk => by
    have hk : updBK h1 i .dead (fun h => killK r h k) := hk
    rw [updBK_eq] at hk
    exact killK_spec (keptK_upd i h2) hk

/-- **A region that draws its order: loads may be taken first, out of blocks that are not written; the blocks of these numbers may be written.** -/
theorem draw_but (l : List Nat) {T : Tbl} {O : Org} (on : O.E.n = O.h.length) {id : Nat} {ops : Array Oper} {s : St} {K : Exit → St → Prop} (hsel : noSel ops.toList = true) (hQ : ∀ c s, ¬ K (.panic c) s)
    (hk : killK l s.heap fun h0 => drawX T h0 ops (K .normal) ops.size (falses ops.toList) s) : DrawG T O id ops s K := by
  obtain ⟨h0, h1, h2⟩ := killK_spec (keptK_refl s.heap) hk
  exact draw_core on h0 (.inr h1) hsel hQ h2

/-- **A region that draws its order: what looks at no memory is taken first.** -/
theorem draw_free {T : Tbl} {O : Org} (on : O.E.n = O.h.length) {id : Nat} {ops : Array Oper} {s : St} {K : Exit → St → Prop} (hsel : noSel ops.toList = true) (hQ : ∀ c s, ¬ K (.panic c) s)
    (hk : drawX T [] ops (K .normal) ops.size (falses ops.toList) s) : DrawG T O id ops s K := draw_core on [] (.inl rfl) hsel hQ hk

end Go.Anv

/- The engine, part 11: a call whose arguments point into memory: what is shown of a small heap holds within a larger one. Plain theorems; their condition: no new block that may not be written. -/
namespace Go.Anv
open Go

/-! ### other numbers for the blocks -/

def lk : List Nat → Nat → Nat → Nat
  | [], N, i => N + i
  | x :: _, _, 0 => x
  | _ :: r, N, i + 1 => lk r N i

mutual
def renV (ρ : Nat → Nat) : SV → SV
  | .ptr b o => .ptr (ρ b) o
  | .pix b o i => .pix (ρ b) o i
  | .slice b o n c => .slice (ρ b) o n c
  | .gs b o n c => .gs (ρ b) o n c
  | .map b => .map (ρ b)
  | .func f a c => .func f (renL ρ a) (renL ρ c)
  | .iface t a cs => .iface t a (renL ρ cs)
  | .junk => .junk
  | .int k n => .int k n
  | .bool b => .bool b
  | .str s => .str s
  | .nilptr => .nilptr
  | .nilslice => .nilslice
  | .nilmap => .nilmap
  | .nilfunc => .nilfunc
  | .niliface => .niliface
def renL (ρ : Nat → Nat) : List SV → List SV
  | [] => []
  | v :: r => renV ρ v :: renL ρ r
end

def renS (ρ : Nat → Nat) : List Seg → List Seg
  | [] => []
  | .one v :: r => .one (renV ρ v) :: renS ρ r
  | .ints k n f :: r => .ints k n f :: renS ρ r

mutual
def renE (ρ : Nat → Nat) : EV → EV
  | .s v => .s (renV ρ v)
  | .agg cs => .agg (renS ρ cs)
  | .tuple vs => .tuple (renT ρ vs)
  | .gd g v => .gd g (renE ρ v)
  | .junk => .junk
def renT (ρ : Nat → Nat) : List EV → List EV
  | [] => []
  | v :: r => renE ρ v :: renT ρ r
end

def renM (ρ : Nat → Nat) : List (SV × List Seg) → List (SV × List Seg)
  | [] => []
  | (k, cs) :: r => (renV ρ k, renS ρ cs) :: renM ρ r

def renB (ρ : Nat → Nat) : Blk → Blk
  | .cells m cs sp => .cells m (renS ρ cs) sp
  | .map es => .map (renM ρ es)
  | .dead => .dead

section ren
variable {E E' : Emb} {ρ : Nat → Nat} (hf : ∀ b, ρ b < E'.n → b < E.n) (hb : ∀ b, b < E.n → ρ b < E'.n ∧ E.f b = E'.f (ρ b))
include hf hb

omit hf in
theorem at_ren {b : Nat} (h : b < E.n) (o : Nat) : E.at b o = E'.at (ρ b) o := by
  unfold Emb.at
  rw [(hb b h).2]

mutual
theorem denV_ren : ∀ (e : SV) (v : Value), denV E' (renV ρ e) v ↔ denV E e v
  | .ptr b o, v => by
    simp only [renV, denV]
    exact ⟨fun ⟨h, k⟩ => ⟨hf b h, by rw [at_ren hb (hf b h)]; exact k⟩, fun ⟨h, k⟩ => ⟨(hb b h).1, by rw [← at_ren hb h]; exact k⟩⟩
  | .pix b o i, v => by
    simp only [renV, denV]
    exact ⟨fun ⟨h, k⟩ => ⟨hf b h, by rw [at_ren hb (hf b h)]; exact k⟩, fun ⟨h, k⟩ => ⟨(hb b h).1, by rw [← at_ren hb h]; exact k⟩⟩
  | .slice b o n c, v => by
    simp only [renV, denV]
    exact ⟨fun ⟨⟨h, g⟩, k⟩ => ⟨⟨hf b h, by rw [(hb b (hf b h)).2]; exact g⟩, by rw [at_ren hb (hf b h)]; exact k⟩, fun ⟨⟨h, g⟩, k⟩ => ⟨⟨(hb b h).1, by rw [← (hb b h).2]; exact g⟩, by rw [← at_ren hb h]; exact k⟩⟩
  | .gs b o n c, v => by
    simp only [renV, denV]
    exact ⟨fun ⟨h, g, k⟩ => ⟨hf b h, by rw [(hb b (hf b h)).2]; exact g, by rw [at_ren hb (hf b h), (hb b (hf b h)).2]; exact k⟩, fun ⟨h, g, k⟩ => ⟨(hb b h).1, by rw [← (hb b h).2]; exact g, by rw [← at_ren hb h, ← (hb b h).2]; exact k⟩⟩
  | .map b, v => by
    simp only [renV, denV]
    exact ⟨fun ⟨h, k⟩ => ⟨hf b h, by rw [(hb b (hf b h)).2]; exact k⟩, fun ⟨h, k⟩ => ⟨(hb b h).1, by rw [← (hb b h).2]; exact k⟩⟩
  | .func f a c, v => by
    simp only [renV, denV]
    constructor
    · rintro ⟨f', c', rfl, h1, h2⟩
      exact ⟨f', c', rfl, (denL_ren a _).1 h1, (denL_ren c _).1 h2⟩
    · rintro ⟨f', c', rfl, h1, h2⟩
      exact ⟨f', c', rfl, (denL_ren a _).2 h1, (denL_ren c _).2 h2⟩
  | .iface t true cs, v => by
    simp only [renV, denV]
    constructor
    · rintro ⟨l, rfl, h1⟩; exact ⟨l, rfl, (denL_ren cs _).1 h1⟩
    · rintro ⟨l, rfl, h1⟩; exact ⟨l, rfl, (denL_ren cs _).2 h1⟩
  | .iface t false cs, v => by
    simp only [renV, denV]
    constructor
    · rintro ⟨x, rfl, h1⟩; exact ⟨x, rfl, (denL_ren cs _).1 h1⟩
    · rintro ⟨x, rfl, h1⟩; exact ⟨x, rfl, (denL_ren cs _).2 h1⟩
  | .junk, _ => Iff.rfl
  | .int .., _ => Iff.rfl
  | .bool _, _ => Iff.rfl
  | .str _, _ => Iff.rfl
  | .nilptr, _ => Iff.rfl
  | .nilslice, _ => Iff.rfl
  | .nilmap, _ => Iff.rfl
  | .nilfunc, _ => Iff.rfl
  | .niliface, _ => Iff.rfl
theorem denL_ren : ∀ (l : List SV) (vs : List Value), denL E' (renL ρ l) vs ↔ denL E l vs
  | [], _ => by
    have _ := hf
    have _ := hb
    exact Iff.rfl
  | e :: r, vs => by
    simp only [renL, denL]
    constructor
    · rintro ⟨v, l', rfl, h1, h2⟩; exact ⟨v, l', rfl, (denV_ren e v).1 h1, (denL_ren r l').1 h2⟩
    · rintro ⟨v, l', rfl, h1, h2⟩; exact ⟨v, l', rfl, (denV_ren e v).2 h1, (denL_ren r l').2 h2⟩
end

theorem denS_ren : ∀ (cs : List Seg) (l : List Value), denS E' (renS ρ cs) l ↔ denS E cs l
  | [], _ => Iff.rfl
  | .one e :: r, vs => by
    simp only [renS, denS]
    constructor
    · rintro ⟨v, l', rfl, h1, h2⟩; exact ⟨v, l', rfl, (denV_ren hf hb e v).1 h1, (denS_ren r l').1 h2⟩
    · rintro ⟨v, l', rfl, h1, h2⟩; exact ⟨v, l', rfl, (denV_ren hf hb e v).2 h1, (denS_ren r l').2 h2⟩
  | .ints k n f :: r, vs => by
    simp only [renS, denS]
    constructor
    · rintro ⟨l', rfl, h2⟩; exact ⟨l', rfl, (denS_ren r l').1 h2⟩
    · rintro ⟨l', rfl, h2⟩; exact ⟨l', rfl, (denS_ren r l').2 h2⟩

mutual
theorem denE_ren : ∀ (e : EV) (v : Value), denE E' (renE ρ e) v ↔ denE E e v
  | .s x, v => by simp only [renE, denE]; exact denV_ren hf hb x v
  | .agg cs, v => by
    simp only [renE, denE]
    constructor
    · rintro ⟨l, rfl, h⟩; exact ⟨l, rfl, (denS_ren hf hb cs _).1 h⟩
    · rintro ⟨l, rfl, h⟩; exact ⟨l, rfl, (denS_ren hf hb cs _).2 h⟩
  | .tuple vs, v => by
    simp only [renE, denE]
    constructor
    · rintro ⟨l, rfl, h⟩; exact ⟨l, rfl, (denT_ren vs _).1 h⟩
    · rintro ⟨l, rfl, h⟩; exact ⟨l, rfl, (denT_ren vs _).2 h⟩
  | .gd g x, v => by
    simp only [renE, denE]
    exact ⟨fun ⟨h1, h2⟩ => ⟨fun hg => (denE_ren x v).1 (h1 hg), h2⟩, fun ⟨h1, h2⟩ => ⟨fun hg => (denE_ren x v).2 (h1 hg), h2⟩⟩
  | .junk, _ => by simp only [renE, denE]
theorem denT_ren : ∀ (l : List EV) (vs : List Value), denT E' (renT ρ l) vs ↔ denT E l vs
  | [], _ => by
    have _ := hf
    have _ := hb
    simp only [renT, denT]
  | e :: r, vs => by
    simp only [renT, denT]
    constructor
    · rintro ⟨v, l', rfl, h1, h2⟩; exact ⟨v, l', rfl, (denE_ren e v).1 h1, (denT_ren r l').1 h2⟩
    · rintro ⟨v, l', rfl, h1, h2⟩; exact ⟨v, l', rfl, (denE_ren e v).2 h1, (denT_ren r l').2 h2⟩
end

theorem denM_ren : ∀ (es : List (SV × List Seg)) (l : List MapEntry), denM E' (renM ρ es) l ↔ denM E es l
  | [], _ => Iff.rfl
  | (k, cs) :: r, vs => by
    simp only [renM, denM]
    constructor
    · rintro ⟨e, l', rfl, h1, h2, h3⟩; exact ⟨e, l', rfl, (denV_ren hf hb k _).1 h1, (denS_ren hf hb cs _).1 h2, (denM_ren r l').1 h3⟩
    · rintro ⟨e, l', rfl, h1, h2, h3⟩; exact ⟨e, l', rfl, (denV_ren hf hb k _).2 h1, (denS_ren hf hb cs _).2 h2, (denM_ren r l').2 h3⟩

omit hf hb in
theorem sizeS_ren : ∀ cs : List Seg, sizeS (renS ρ cs) = sizeS cs
  | [] => rfl
  | .one _ :: r => by simp only [renS, sizeS, sizeS_ren r]
  | .ints .. :: r => by simp only [renS, sizeS, sizeS_ren r]

omit hf hb in
theorem cov_ren (p : Loc) (B : Blk) (b o : Nat) : cov p (renB ρ B) b o ↔ cov p B b o := by
  cases B <;> simp only [renB, cov, sizeS_ren]

omit hf hb in
theorem mut_ren (B : Blk) : (renB ρ B).mut = B.mut := by cases B <;> rfl

theorem okBlk_ren {w : World} {p : Loc} (B : Blk) : okBlk E' w p (renB ρ B) ↔ okBlk E w p B := by
  cases B with
  | cells m cs sp =>
    simp only [renB, okBlk, sizeS_ren]
    constructor
    · rintro ⟨h1, ⟨l, h2, h3⟩, h4⟩; exact ⟨h1, ⟨l, (denS_ren hf hb cs l).1 h2, h3⟩, h4⟩
    · rintro ⟨h1, ⟨l, h2, h3⟩, h4⟩; exact ⟨h1, ⟨l, (denS_ren hf hb cs l).2 h2, h3⟩, h4⟩
  | map es =>
    simp only [renB, okBlk]
    constructor
    · rintro ⟨l, c, h1, h2⟩; exact ⟨l, c, h1, (denM_ren hf hb es _).1 h2⟩
    · rintro ⟨l, c, h1, h2⟩; exact ⟨l, c, h1, (denM_ren hf hb es _).2 h2⟩
  | dead => exact Iff.rfl

end ren

/-! ### the larger heap behind a call -/

/-- Blocks that may not be written are as they were; none is new. -/
def roOk : List Blk → List Blk → Prop
  | B :: r, B' :: r' => (B'.mut = true ∨ B' = .dead ∨ B' = B) ∧ roOk r r'
  | _, [] => True
  | [], B' :: r' => (B'.mut = true ∨ B' = .dead) ∧ roOk [] r'

theorem roOk_get : ∀ {h h' : List Blk}, roOk h h' → ∀ (i : Nat) (B : Blk), h'[i]? = some B → B.mut = true ∨ B = .dead ∨ h[i]? = some B
  | B :: r, B' :: r', hk, 0, C, hi => by
    simp only [List.getElem?_cons_zero, Option.some.injEq] at hi
    subst hi
    rcases hk.1 with h | h | h
    · exact .inl h
    · exact .inr (.inl h)
    · exact .inr (.inr (by simp [h]))
  | B :: r, B' :: r', hk, i + 1, C, hi => by
    simpa using roOk_get hk.2 i C (by simpa using hi)
  | [], [], _, i, C, hi => by simp at hi
  | _ :: _, [], _, i, C, hi => by simp at hi
  | [], B' :: r', hk, 0, C, hi => by
    simp only [List.getElem?_cons_zero, Option.some.injEq] at hi
    subst hi
    rcases hk.1 with h | h
    · exact .inl h
    · exact .inr (.inl h)
  | [], B' :: r', hk, i + 1, C, hi => by
    have := roOk_get hk.2 i C (by simpa using hi)
    simpa using this

/-- The callee's blocks put back. -/
def mergeB : List Blk → List Nat → List Blk → List Blk
  | h, [], h' => h ++ h'
  | h, k :: κ, B :: h' => mergeB (updB h k B) κ h'
  | h, _ :: _, [] => h

def renH (ρ : Nat → Nat) : List Blk → List Blk
  | [] => []
  | B :: r => renB ρ B :: renH ρ r

theorem renH_get (ρ : Nat → Nat) : ∀ (h : List Blk) (i : Nat), (renH ρ h)[i]? = (h[i]?).map (renB ρ)
  | [], i => by simp [renH]
  | B :: r, 0 => by simp [renH]
  | B :: r, i + 1 => by simp [renH, renH_get ρ r i]

theorem length_renH (ρ : Nat → Nat) : ∀ h : List Blk, (renH ρ h).length = h.length
  | [] => rfl
  | _ :: r => by simp [renH, length_renH ρ r]

theorem look_ge : ∀ (κ : List Nat) (N i : Nat), κ.length ≤ i → lk κ N i = N + (i - κ.length)
  | [], N, i, _ => by simp [lk]
  | _ :: r, N, 0, h => by simp at h
  | _ :: r, N, i + 1, h => by simp [lk, look_ge r N i (by simpa using h)]

theorem look_lt : ∀ (κ : List Nat) (N i : Nat) (h : i < κ.length), lk κ N i = κ[i]
  | [], N, i, h => by simp at h
  | _ :: r, N, 0, h => by simp [lk]
  | _ :: r, N, i + 1, h => by simp [lk, look_lt r N i (by simpa using h)]

theorem mergeB_length : ∀ (h : List Blk) (κ : List Nat) (h' : List Blk), κ.length ≤ h'.length → (mergeB h κ h').length = h.length + (h'.length - κ.length)
  | h, [], h', _ => by simp [mergeB]
  | h, k :: κ, B :: h', hl => by
    have := mergeB_length (updB h k B) κ h' (by simpa using hl)
    rw [updB_eq, List.length_set] at this
    simp only [mergeB, updB_eq, this, List.length_cons]
    omega
  | h, _ :: _, [], hl => by simp at hl

/-- What stands at a number of the larger heap. -/
theorem mergeB_get : ∀ (h : List Blk) (κ : List Nat) (h' : List Blk), κ.Nodup → (∀ k ∈ κ, k < h.length) → κ.length ≤ h'.length → ∀ (j : Nat) (B : Blk), (mergeB h κ h')[j]? = some B →
    (j < h.length ∧ j ∉ κ ∧ h[j]? = some B) ∨ ∃ i, lk κ h.length i = j ∧ h'[i]? = some B
  | h, [], h', _, _, _, j, B, hj => by
    simp only [mergeB] at hj
    rcases Nat.lt_or_ge j h.length with h1 | h1
    · rw [List.getElem?_append_left h1] at hj
      exact .inl ⟨h1, by simp, hj⟩
    · rw [List.getElem?_append_right h1] at hj
      exact .inr ⟨j - h.length, by simp [lk]; omega, hj⟩
  | h, k :: κ, B' :: h', hnd, hlt, hl, j, B, hj => by
    simp only [mergeB, updB_eq] at hj
    rw [List.nodup_cons] at hnd
    have ih := mergeB_get (h.set k B') κ h' hnd.2 (fun x hx => by rw [List.length_set]; exact hlt x (List.mem_cons_of_mem _ hx)) (by simpa using hl) j B hj
    rw [List.length_set] at ih
    rcases ih with ⟨h1, h2, h3⟩ | ⟨i, h1, h2⟩
    · by_cases hjk : j = k
      · subst hjk
        rw [List.getElem?_set_self h1] at h3
        exact .inr ⟨0, by simp [lk], by simpa using h3⟩
      · rw [List.getElem?_set_ne (Ne.symm hjk)] at h3
        exact .inl ⟨h1, by simp [hjk, h2], h3⟩
    · exact .inr ⟨i + 1, by simpa [lk] using h1, by simpa using h2⟩
  | h, _ :: _, [], _, _, hl, _, _, _ => by simp at hl


/-- The callee's blocks, where they lie in the larger heap. -/
def subH (h : List Blk) : List Nat → List Blk → Prop
  | [], [] => True
  | k :: κ, B :: r => nthB h k = some B ∧ subH h κ r
  | _, _ => False

theorem subH_get {h : List Blk} : ∀ {κ : List Nat} {r : List Blk}, subH h κ r → κ.length = r.length ∧ ∀ (i : Nat) (B : Blk), r[i]? = some B → ∃ k, κ[i]? = some k ∧ h[k]? = some B
  | [], [], _ => ⟨rfl, fun i B hi => by simp at hi⟩
  | k :: κ, B :: r, hk => by
    obtain ⟨h1, h2⟩ := subH_get hk.2
    refine ⟨by simp [h1], fun i C hi => ?_⟩
    cases i with
    | zero =>
      simp only [List.getElem?_cons_zero, Option.some.injEq] at hi
      subst hi
      exact ⟨k, by simp, nthB_get hk.1⟩
    | succ i => simpa using h2 i C (by simpa using hi)
  | [], _ :: _, hk => hk.elim
  | _ :: _, [], hk => hk.elim

theorem lt_of_get {h : List Blk} {i : Nat} {B : Blk} (hi : h[i]? = some B) : i < h.length := by
  rcases Nat.lt_or_ge i h.length with h' | h'
  · exact h'
  · rw [List.getElem?_eq_none h'] at hi; cases hi

/-- **A call within a larger heap.** -/
theorem frame_core {args : List EV} {hc : List Blk} {Q : EV → List Blk → Prop} (κ : List Nat) {h : List Blk} (hnd : κ.Nodup) (hro : ∀ v h', Q v h' → roOk hc h')
    (hh : subH h κ (renH (lk κ h.length) hc)) {E : Emb} {w : World} {vs : List Value} (S : Sim E h w) (ha : denT E (renT (lk κ h.length) args) vs) :
    ∃ Ec, Sim Ec hc w ∧ denT Ec args vs ∧ ∀ e w', Post Ec hc w Q e w' → Post E h w (fun v h'' => ∃ v' h', Q v' h' ∧ v = renE (lk κ h.length) v' ∧ h'' = mergeB h κ (renH (lk κ h.length) h')) e w' := by
  obtain ⟨hl, hget⟩ := subH_get hh
  rw [length_renH] at hl
  let ρ := lk κ h.length
  let Ec : Emb := ⟨hc.length, fun i => E.f (ρ i)⟩
  have hκ : ∀ i, i < hc.length → ρ i ∈ κ ∧ ρ i < h.length := fun i hi => by
    have hi' : i < κ.length := by omega
    have : i < (renH ρ hc).length := by rw [length_renH]; exact hi
    obtain ⟨k, h1, h2⟩ := hget i _ (List.getElem?_eq_getElem this)
    have h3 : ρ i = k := by
      show lk κ h.length i = k
      rw [look_lt κ _ i hi']
      rw [List.getElem?_eq_getElem hi'] at h1
      exact Option.some.inj h1
    rw [h3]
    exact ⟨List.mem_of_getElem? h1, lt_of_get h2⟩
  have hblk : ∀ (i : Nat) (B : Blk), hc[i]? = some B → h[ρ i]? = some (renB ρ B) := fun i B hi => by
    obtain ⟨k, h1, h2⟩ := hget i (renB ρ B) (by rw [renH_get, hi]; rfl)
    have hi' : i < κ.length := by have := lt_of_get hi; omega
    have h3 : ρ i = k := by
      show lk κ h.length i = k
      rw [look_lt κ _ i hi']
      rw [List.getElem?_eq_getElem hi'] at h1
      exact Option.some.inj h1
    rw [h3]
    exact h2
  have hinj : ∀ i j, ρ i = ρ j → i = j := fun i j hij => by
    have hij' : lk κ h.length i = lk κ h.length j := hij
    rcases Nat.lt_or_ge i κ.length with h1 | h1 <;> rcases Nat.lt_or_ge j κ.length with h2 | h2
    · rw [look_lt κ _ i h1, look_lt κ _ j h2] at hij'
      have hp := List.pairwise_iff_getElem.1 hnd
      rcases Nat.lt_trichotomy i j with h3 | h3 | h3
      · exact absurd hij' (hp i j h1 h2 h3)
      · exact h3
      · exact absurd hij'.symm (hp j i h2 h1 h3)
    · have := (hκ i (by omega)).2
      rw [hij] at this
      have h3 : ρ j = h.length + (j - κ.length) := look_ge κ _ j h2
      omega
    · have := (hκ j (by omega)).2
      rw [← hij] at this
      have h3 : ρ i = h.length + (i - κ.length) := look_ge κ _ i h1
      omega
    · rw [look_ge κ _ i h1, look_ge κ _ j h2] at hij'
      omega
  have hfwd : ∀ b, ρ b < E.n → b < Ec.n := fun b hb => by
    rcases Nat.lt_or_ge b κ.length with h1 | h1
    · show b < hc.length; omega
    · have h3 : ρ b = h.length + (b - κ.length) := look_ge κ _ b h1
      have := S.n
      omega
  have hbwd : ∀ b, b < Ec.n → ρ b < E.n ∧ Ec.f b = E.f (ρ b) := fun b hb => ⟨by rw [S.n]; exact (hκ b hb).2, rfl⟩
  have Sc : Sim Ec hc w := by
    refine ⟨rfl, fun i B hi => ?_, fun i j A B hij hi hj hA b o hcv hcv' => ?_⟩
    · exact (okBlk_ren hfwd hbwd B).1 (S.ok _ _ (hblk i B hi))
    · exact S.dis (ρ i) (ρ j) _ _ (fun e => hij (hinj i j e)) (hblk i A hi) (hblk j B hj) (by rw [mut_ren]; exact hA) b o ((cov_ren _ A b o).2 hcv) ((cov_ren _ B b o).2 hcv')
  refine ⟨Ec, Sc, (denT_ren hfwd hbwd args _).1 ha, ?_⟩
  rintro e w' ⟨v, x, h', E', rfl, hd, S', N', hq⟩
  have hroq := hro _ _ hq
  have hlen : hc.length ≤ h'.length := N'.len
  let E1 : Emb := ⟨h.length + (h'.length - hc.length), fun j => if j < h.length then E.f j else E'.f (hc.length + (j - h.length))⟩
  have hfwd1 : ∀ b, ρ b < E1.n → b < E'.n := fun b hb => by
    rw [S'.n]
    rcases Nat.lt_or_ge b κ.length with h1 | h1
    · omega
    · have h3 : ρ b = h.length + (b - κ.length) := look_ge κ _ b h1
      have : ρ b < h.length + (h'.length - hc.length) := hb
      omega
  have hbwd1 : ∀ b, b < E'.n → ρ b < E1.n ∧ E'.f b = E1.f (ρ b) := fun b hb => by
    rw [S'.n] at hb
    rcases Nat.lt_or_ge b κ.length with h1 | h1
    · have h2 := (hκ b (by omega)).2
      refine ⟨Nat.lt_of_lt_of_le h2 (Nat.le_add_right _ _), ?_⟩
      have h3 : E'.f b = Ec.f b := N'.same b (by show b < hc.length; omega)
      have h4 : E1.f (ρ b) = E.f (ρ b) := if_pos h2
      rw [h3, h4]
    · have h3 : ρ b = h.length + (b - κ.length) := look_ge κ _ b h1
      refine ⟨by rw [h3]; show _ < h.length + (h'.length - hc.length); omega, ?_⟩
      have h4 : E1.f (ρ b) = E'.f (hc.length + (ρ b - h.length)) := if_neg (by omega)
      rw [h4, h3]
      congr 1
      omega
  have leE : E.le E1 := ⟨by rw [S.n]; exact Nat.le_add_right _ _, fun i hi => if_pos (by rw [← S.n]; exact hi)⟩
  have hml : ∀ b o, mutAt Ec hc b o → ∃ i B, i ∈ κ ∧ h[i]? = some B ∧ B.mut = true ∧ cov (E.f i) B b o := fun b o ⟨i, B, h1, h2, h3⟩ =>
    ⟨ρ i, renB ρ B, (hκ i (lt_of_get h1)).1, hblk i B h1, by rw [mut_ren]; exact h2, (cov_ren _ B b o).2 h3⟩
  have hm2 : ∀ b o, mutAt Ec hc b o → mutAt E h b o := fun b o hm => by
    obtain ⟨i, B, _, h1, h2, h3⟩ := hml b o hm
    exact ⟨i, B, h1, h2, h3⟩
  -- what stands at a number
  have hcase : ∀ (j : Nat) (B : Blk), (mergeB h κ (renH ρ h'))[j]? = some B → (j < h.length ∧ j ∉ κ ∧ h[j]? = some B ∧ E1.f j = E.f j) ∨ ∃ i B', ρ i = j ∧ h'[i]? = some B' ∧ B = renB ρ B' ∧ E1.f j = E'.f i := fun j B hj => by
    rcases mergeB_get h κ (renH ρ h') hnd (fun k hk => by
      obtain ⟨i, hi⟩ := List.getElem?_of_mem hk
      have hi1 : i < κ.length := by
        rcases Nat.lt_or_ge i κ.length with h' | h'
        · exact h'
        · rw [List.getElem?_eq_none h'] at hi; cases hi
      have := (hκ i (by omega)).2
      have h3 : ρ i = k := by
        show lk κ h.length i = k
        rw [look_lt κ _ i hi1]
        rw [List.getElem?_eq_getElem hi1] at hi
        exact Option.some.inj hi
      rwa [h3] at this) (by rw [length_renH]; omega) j B hj with ⟨h1, h2, h3⟩ | ⟨i, h1, h2⟩
    · exact .inl ⟨h1, h2, h3, if_pos h1⟩
    · rw [renH_get] at h2
      cases hq : h'[i]? with
      | none => rw [hq] at h2; cases h2
      | some B' =>
        rw [hq] at h2
        simp only [Option.map_some, Option.some.injEq] at h2
        refine .inr ⟨i, B', h1, hq, h2.symm, ?_⟩
        have h1' : ρ i = j := h1
        rw [← h1', (hbwd1 i (by rw [S'.n]; exact lt_of_get hq)).2]
  -- an old block outside the call's is as it was
  have hout : ∀ (j : Nat) (B : Blk), j ∉ κ → h[j]? = some B → ∀ b o, cov (E.f j) B b o → ¬ mutAt Ec hc b o := fun j B hjk hj b o hcv hm => by
    obtain ⟨i, A, h1, h2, h3, h4⟩ := hml b o hm
    exact S.dis i j A B (fun e => hjk (e ▸ h1)) h2 hj h3 b o h4 hcv
  have S1 : Sim E1 (mergeB h κ (renH ρ h')) w' := by
    refine ⟨?_, fun j B hj => ?_, fun i j A B hij hi hj hA b o hcv hcv' => ?_⟩
    · rw [mergeB_length h κ _ (by rw [length_renH]; omega), length_renH, hl]
    · rcases hcase j B hj with ⟨h1, h2, h3, h4⟩ | ⟨i, B', h1, h2, rfl, h4⟩
      · rw [h4]
        have hk := S.ok j B h3
        have hno := hout j B h2 h3
        cases B with
        | cells m cs sp =>
          obtain ⟨k1, ⟨l, k2, k3⟩, k4⟩ := hk
          have hb' : ∀ x, x < sizeS cs + sp → (E.f j).1 < w.heap.size := fun x hx => by
            rcases k1 with k1 | k1
            · exact k1
            · omega
          refine ⟨?_, ⟨l, denS_mono leE cs l k2, fun x v hx => ?_⟩, fun hm x hx => ?_⟩
          · rcases k1 with k1 | k1
            · exact .inl (Nat.lt_of_lt_of_le k1 N'.size)
            · exact .inr k1
          · have hx' : x < sizeS cs := by
              rw [← denS_length k2]
              rcases Nat.lt_or_ge x l.length with h' | h'
              · exact h'
              · rw [List.getElem?_eq_none h'] at hx; cases hx
            rw [(N'.cells _ _ (hb' x (by omega)) (hno _ _ ⟨rfl, by omega, by omega⟩)).1]
            exact k3 x v hx
          · obtain ⟨q1, q2⟩ := k4 hm x hx
            rw [(N'.cells _ _ (hb' x hx) (hno _ _ ⟨rfl, by omega, by omega⟩)).1]
            exact ⟨q1, N'.rows _ (hb' x hx) q2⟩
        | map es =>
          obtain ⟨l, c', k1, k2⟩ := hk
          have hlt : (E.f j).1 < w.heap.size := S.cov_lt h3 (b := (E.f j).1) (o := 0) rfl
          exact ⟨l, c', by rw [N'.frame _ hlt (fun o => hno _ o rfl)]; exact k1, denM_mono leE es _ k2⟩
        | dead => trivial
      · rw [h4]
        exact (okBlk_ren hfwd1 hbwd1 B').2 (S'.ok i B' h2)
    · rcases hcase i A hi with ⟨a1, a2, a3, a4⟩ | ⟨i', A', a1, a2, rfl, a4⟩ <;> rcases hcase j B hj with ⟨b1, b2, b3, b4⟩ | ⟨j', B', b1, b2, rfl, b4⟩
      · rw [a4] at hcv
        rw [b4] at hcv'
        exact S.dis i j A B hij a3 b3 hA b o hcv hcv'
      · rw [a4] at hcv
        rw [b4, cov_ren] at hcv'
        have hlt := S.cov_lt a3 hcv
        rcases roOk_get hroq j' B' b2 with hm | rfl | hsame
        · exact hout i A a2 a3 b o hcv (N'.new b o ⟨j', B', b2, hm, hcv'⟩ hlt)
        · exact hcv'
        · have h5 : E'.f j' = Ec.f j' := N'.same j' (lt_of_get hsame)
          rw [h5] at hcv'
          exact S.dis i (ρ j') A _ (fun e => a2 (by rw [e]; exact (hκ j' (lt_of_get hsame)).1)) a3 (hblk j' B' hsame) hA b o hcv ((cov_ren _ B' b o).2 hcv')
      · rw [a4, cov_ren] at hcv
        rw [b4] at hcv'
        rw [mut_ren] at hA
        have hlt := S.cov_lt b3 hcv'
        exact hout j B b2 b3 b o hcv' (N'.new b o ⟨i', A', a2, hA, hcv⟩ hlt)
      · rw [a4, cov_ren] at hcv
        rw [b4, cov_ren] at hcv'
        rw [mut_ren] at hA
        exact S'.dis i' j' A' B' (fun e => hij (by rw [← a1, ← b1, e])) a2 b2 hA b o hcv hcv'
  have N1 : Since E h w E1 (mergeB h κ (renH ρ h')) w' := by
    refine ⟨?_, fun i hi => if_pos (by rw [← S.n]; exact hi), N'.size, fun b hb hm => N'.frame b hb (fun o ho => hm o (hm2 b o ho)), fun b o hb hm => N'.cells b o hb (fun ho => hm (hm2 b o ho)), fun b o hm hb => ?_, N'.os, N'.tape, N'.output, N'.rows⟩
    · rw [mergeB_length h κ _ (by rw [length_renH]; omega)]
      exact Nat.le_add_right _ _
    · obtain ⟨j, B, hj, hB, hcv⟩ := hm
      rcases hcase j B hj with ⟨h1, h2, h3, h4⟩ | ⟨i, B', h1, h2, rfl, h4⟩
      · rw [h4] at hcv
        exact ⟨j, B, h3, hB, hcv⟩
      · rw [h4, cov_ren] at hcv
        rw [mut_ren] at hB
        exact hm2 b o (N'.new b o ⟨i, B', h2, hB, hcv⟩ hb)
  exact ⟨v, renE ρ x, mergeB h κ (renH ρ h'), E1, rfl, (denE_ren hfwd1 hbwd1 x v).2 hd, S1, N1, x, h', hq, rfl, rfl⟩

theorem Does.frame {T : Tbl} {f : FuncId} {args : List EV} {hc : List Blk} {Q : EV → List Blk → Prop} (c : Does T f args hc Q) (κ : List Nat) {h : List Blk} (hnd : κ.Nodup) (hro : ∀ v h', Q v h' → roOk hc h')
    (hh : subH h κ (renH (lk κ h.length) hc)) : Does T f (renT (lk κ h.length) args) h (fun v h'' => ∃ v' h', Q v' h' ∧ v = renE (lk κ h.length) v' ∧ h'' = mergeB h κ (renH (lk κ h.length) h')) := by
  refine ⟨?_⟩
  rcases c.go with ⟨h1, h2⟩ | h1
  · refine .inl ⟨h1, fun E w vs S ha => ?_⟩
    obtain ⟨Ec, k1, k2, k3⟩ := frame_core κ hnd hro hh S ha
    exact (h2 Ec w vs k1 k2).mono k3
  · refine .inr fun E w vs S ha => ?_
    obtain ⟨Ec, k1, k2, k3⟩ := frame_core κ hnd hro hh S ha
    obtain ⟨u, w', h2, h3⟩ := h1 Ec w vs k1 k2
    exact ⟨u, w', h2, k3 _ _ h3⟩

/-! ### for the walker -/

def forceB (B : Blk) (k : Blk → Prop) : Prop :=
  match B with
  | .cells m cs sp => forceS cs fun cs => k (.cells m cs sp)
  | .map es => k (.map es)
  | .dead => k .dead

def forceH (l : List Blk) : (List Blk → Prop) → Prop :=
  List.rec (motive := fun _ => (List Blk → Prop) → Prop) (fun k => k []) (fun B _ ih k => forceB B fun B => ih fun r => k (B :: r)) l

theorem forceB_eq (B : Blk) (k : Blk → Prop) : forceB B k = k B := by cases B <;> simp only [forceB, forceS_eq]
theorem forceH_eq : ∀ (h : List Blk) (k : List Blk → Prop), forceH h k = k h
  | [], _ => rfl
  | B :: r, k => by
    show (forceB B fun B => forceH r fun r => k (B :: r)) = _
    rw [forceB_eq, forceH_eq r]

/-- **A call by its contract, shown of a small heap.** -/
theorem Does.at {T : Tbl} {f : FuncId} {args : List EV} {hc : List Blk} {Q : EV → List Blk → Prop} (c : Does T f args hc Q) (κ : List Nat) {args' : List EV} {h : List Blk} {K : EV → List Blk → Prop}
    (ha : args' = renT (lk κ h.length) args) (hh : subH h κ (renH (lk κ h.length) hc)) (hnd : κ.Nodup) (hro : ∀ v h', Q v h' → roOk hc h')
    (hK : ∀ v' h', Q v' h' → forceH (mergeB h κ (renH (lk κ h.length) h')) fun h2 => forceE (renE (lk κ h.length) v') fun v => K v h2) : Does T f args' h K := by
  rw [ha]
  refine (c.frame κ hnd hro hh).mono ?_
  rintro v h'' ⟨v', h', hq, rfl, rfl⟩
  have := hK v' h' hq
  rwa [forceH_eq, forceE_eq] at this

end Go.Anv

/- The engine, part 12: states with fewer blocks and other numbers: at a loop's head, at a function's end. Plain theorems; their condition: the blocks that were there at the begin keep their numbers. -/
namespace Go.Anv
open Go

def idK : Nat → Nat → List Nat → Prop
  | _, 0, _ => True
  | k, n + 1, x :: r => x = k ∧ idK (k + 1) n r
  | _, _ + 1, [] => False

theorem idK_get : ∀ {n k : Nat} {κ : List Nat}, idK k n κ → ∀ i, i < n → κ[i]? = some (k + i)
  | 0, _, _, _, i, hi => by omega
  | n + 1, k, x :: r, h, 0, _ => by simp [h.1]
  | n + 1, k, x :: r, h, i + 1, hi => by
    have := idK_get h.2 i (by omega)
    simp only [List.getElem?_cons_succ, this, Option.some.injEq]
    omega
  | n + 1, k, [], h, _, _ => h.elim

/-- Blocks of a small world, by their numbers, stand for others. -/
def subQ (h : List Blk) : List Nat → List Blk → Prop
  | [], [] => True
  | k :: κ, B :: r => (∃ A, nthB h k = some A ∧ eqvB A B) ∧ subQ h κ r
  | _, _ => False

theorem subQ_get {h : List Blk} : ∀ {κ : List Nat} {r : List Blk}, subQ h κ r → κ.length = r.length ∧ ∀ (i : Nat) (B : Blk), r[i]? = some B → ∃ k A, κ[i]? = some k ∧ h[k]? = some A ∧ eqvB A B
  | [], [], _ => ⟨rfl, fun i B hi => by simp at hi⟩
  | k :: κ, B :: r, hk => by
    obtain ⟨h1, h2⟩ := subQ_get hk.2
    refine ⟨by simp [h1], fun i C hi => ?_⟩
    cases i with
    | zero =>
      simp only [List.getElem?_cons_zero, Option.some.injEq] at hi
      subst hi
      obtain ⟨A, h3, h4⟩ := hk.1
      exact ⟨k, A, by simp, nthB_get h3, h4⟩
    | succ i => simpa using h2 i C (by simpa using hi)
  | [], _ :: _, hk => hk.elim
  | _ :: _, [], hk => hk.elim

/-- One small world tells no more than another, with other numbers. -/
theorem Sim.renum {E : Emb} {h H : List Blk} {w : World} (S : Sim E h w) {κ : List Nat} (hnd : κ.Nodup) (hh : subQ h κ (renH (lk κ h.length) H)) :
    Sim ⟨H.length, fun i => E.f (lk κ h.length i)⟩ H w ∧ (∀ b, lk κ h.length b < E.n → b < H.length) ∧ (∀ b, b < H.length → lk κ h.length b < E.n) ∧
      (∀ b o, mutAt ⟨H.length, fun i => E.f (lk κ h.length i)⟩ H b o → mutAt E h b o) := by
  obtain ⟨hl, hget⟩ := subQ_get hh
  rw [length_renH] at hl
  have hblk : ∀ (i : Nat) (B : Blk), H[i]? = some B → ∃ A, h[lk κ h.length i]? = some A ∧ eqvB A (renB (lk κ h.length) B) := fun i B hi => by
    obtain ⟨k, A, h1, h2, h3⟩ := hget i (renB (lk κ h.length) B) (by rw [renH_get, hi]; rfl)
    have hi' : i < κ.length := by have := lt_of_get hi; omega
    have h4 : lk κ h.length i = k := by
      rw [look_lt κ _ i hi']
      rw [List.getElem?_eq_getElem hi'] at h1
      exact Option.some.inj h1
    exact ⟨A, by rw [h4]; exact h2, h3⟩
  have hκ : ∀ i, i < H.length → lk κ h.length i < h.length := fun i hi => by
    obtain ⟨A, h1, _⟩ := hblk i _ (List.getElem?_eq_getElem hi)
    exact lt_of_get h1
  have hinj : ∀ i j, lk κ h.length i = lk κ h.length j → i = j := fun i j hij => by
    rcases Nat.lt_or_ge i κ.length with h1 | h1 <;> rcases Nat.lt_or_ge j κ.length with h2 | h2
    · rw [look_lt κ _ i h1, look_lt κ _ j h2] at hij
      have hp := List.pairwise_iff_getElem.1 hnd
      rcases Nat.lt_trichotomy i j with h3 | h3 | h3
      · exact absurd hij (hp i j h1 h2 h3)
      · exact h3
      · exact absurd hij.symm (hp j i h2 h1 h3)
    · have := hκ i (by omega)
      rw [hij, look_ge κ _ j h2] at this
      omega
    · have := hκ j (by omega)
      rw [← hij, look_ge κ _ i h1] at this
      omega
    · rw [look_ge κ _ i h1, look_ge κ _ j h2] at hij
      omega
  have hfwd : ∀ b, lk κ h.length b < E.n → b < H.length := fun b hb => by
    rcases Nat.lt_or_ge b κ.length with h1 | h1
    · omega
    · rw [look_ge κ _ b h1, S.n] at hb
      omega
  have hbwd : ∀ b, b < H.length → lk κ h.length b < E.n ∧ E.f (lk κ h.length b) = E.f (lk κ h.length b) := fun b hb => ⟨by rw [S.n]; exact hκ b hb, rfl⟩
  refine ⟨⟨rfl, fun i B hi => ?_, fun i j A B hij hi hj hA b o hcv hcv' => ?_⟩, hfwd, fun b hb => (hbwd b hb).1, fun b o hm => ?_⟩
  · obtain ⟨A, h1, h2⟩ := hblk i B hi
    exact (okBlk_ren (E := ⟨H.length, fun i => E.f (lk κ h.length i)⟩) hfwd hbwd B).1 (eqvB_ok h2 (S.ok _ _ h1))
  · obtain ⟨A', h1, h2⟩ := hblk i A hi
    obtain ⟨B', h3, h4⟩ := hblk j B hj
    refine S.dis (lk κ h.length i) (lk κ h.length j) A' B' (fun e => hij (hinj i j e)) h1 h3 ?_ b o ?_ ?_
    · rw [(eqvB_cov (p := E.f (lk κ h.length i)) h2 b o).2, mut_ren]; exact hA
    · exact (eqvB_cov h2 b o).1.2 ((cov_ren _ A b o).2 hcv)
    · exact (eqvB_cov h4 b o).1.2 ((cov_ren _ B b o).2 hcv')
  · obtain ⟨i, B, hi, hB, hcv⟩ := hm
    obtain ⟨A', h1, h2⟩ := hblk i B hi
    exact ⟨_, A', h1, by rw [(eqvB_cov (p := E.f (lk κ h.length i)) h2 b o).2, mut_ren]; exact hB, (eqvB_cov h2 b o).1.2 ((cov_ren _ B b o).2 hcv)⟩

theorem Since.renum {E0 E : Emb} {h0 h H : List Blk} {w0 w : World} (n0 : E0.n = h0.length) (S : Sim E h w) (N : Since E0 h0 w0 E h w) {κ : List Nat} (hnd : κ.Nodup) (hid : idK 0 E0.n κ) (hh : subQ h κ (renH (lk κ h.length) H)) :
    Since E0 h0 w0 ⟨H.length, fun i => E.f (lk κ h.length i)⟩ H w := by
  obtain ⟨S', h1, h2, h3⟩ := S.renum hnd hh
  have hκ : ∀ i, i < E0.n → lk κ h.length i = i := fun i hi => by
    have h4 := idK_get hid i hi
    have h5 : i < κ.length := by
      rcases Nat.lt_or_ge i κ.length with h' | h'
      · exact h'
      · rw [List.getElem?_eq_none h'] at h4; cases h4
    rw [look_lt κ _ i h5]
    rw [List.getElem?_eq_getElem h5] at h4
    simpa using h4
  refine ⟨?_, fun i hi => ?_, N.size, N.frame, N.cells, fun b o hm hb => N.new b o (h3 b o hm) hb, N.os, N.tape, N.output, N.rows⟩
  · rw [← n0]
    rcases Nat.eq_zero_or_pos E0.n with h4 | h4
    · rw [h4]; exact Nat.zero_le _
    · have := h1 (E0.n - 1) (by
        rw [hκ _ (by omega)]
        have := N.len
        rw [S.n]
        omega)
      omega
  · show E.f (lk κ h.length i) = E0.f i
    rw [hκ i hi]
    exact N.same i hi

/-- One state tells no more than another, with other numbers; the first n blocks keep theirs. -/
structure leR (n : Nat) (κ : List Nat) (s t : St) : Prop where
  nd : κ.Nodup
  id : idK 0 n κ
  tmps : eqvT s.tmps (renT (lk κ s.heap.length) t.tmps)
  heap : subQ s.heap κ (renH (lk κ s.heap.length) t.heap)

theorem length_renT (ρ : Nat → Nat) : ∀ l : List EV, (renT ρ l).length = l.length
  | [] => rfl
  | _ :: r => by simp [renT, length_renT ρ r]

theorem nth_renT (ρ : Nat → Nat) : ∀ (l : List EV) (i : Nat), nth (renT ρ l) i = renE ρ (nth l i)
  | [], _ => by simp [renT, nth, renE]
  | _ :: _, 0 => by simp [renT, nth]
  | _ :: r, i + 1 => by simp only [renT, nth]; exact nth_renT ρ r i

theorem Rel.renum {O : Org} (on : O.E.n = O.h.length) {E : Emb} {s t : St} {a : Act} {w : World} (R : Rel O E s a w) {κ : List Nat} (h : leR O.E.n κ s t) : ∃ E', Rel O E' t a w := by
  obtain ⟨S', h1, h2, h3⟩ := R.sim.renum h.nd h.heap
  refine ⟨⟨t.heap.length, fun i => E.f (lk κ s.heap.length i)⟩, ⟨?_, fun i v hi => ?_⟩, R.df, S', R.sin.renum on R.sim h.nd h.id h.heap⟩
  · rw [R.fr.1, (eqvT_nth (E := E) h.tmps).1, length_renT]
  · have := (eqvT_nth (E := E) h.tmps).2 i v (R.fr.2 i v hi)
    rw [nth_renT] at this
    exact (denE_ren (E := ⟨t.heap.length, fun i => E.f (lk κ s.heap.length i)⟩) h1 (fun b hb => ⟨h2 b hb, rfl⟩) _ _).1 this

/-! ### loops -/

def roundR {A : Type} (n : Nat) (c : Code) (s : St) (C : A → List (Nat × EV)) (H : A → List Blk) (I : A → Prop) (μ : A → Nat) (x : A) (K : Exit → St → Prop) : Exit → St → Prop
  | .normal, s' => ∃ y, I y ∧ μ y < μ x ∧ ∃ κ, headK c s (C y) (H y) fun t => leR n κ s' t
  | e, s' => K e s'

/-- **A loop, by what its slots and the heap hold at each round's head; a round may leave blocks behind that are no longer looked at.** -/
theorem loop_in {T : Tbl} {O : Org} {A : Type} {c : Code} {s : St} {K : Exit → St → Prop} (on : O.E.n = O.h.length) (C : A → List (Nat × EV)) (H : A → List Blk) (I : A → Prop) (μ : A → Nat) (x0 : A) (h0 : I x0)
    (κ0 : List Nat) (hs : headK c s (C x0) (H x0) fun t => leR O.E.n κ0 s t)
    (round : ∀ x, I x → headK c s (C x) (H x) fun t => wpx T O c t (roundR O.E.n c s C H I μ x K)) : LoopG T O c s K := by
  intro E a w R
  rw [headK_eq] at hs
  obtain ⟨E, R⟩ := R.renum on hs
  refine wp_loop_ghost (fun n a w => ∃ E x, I x ∧ Rel O E ⟨laterT (C x) (forgetT (writes c) s.tmps), H x⟩ a w ∧ μ x = n) (μ x0) ⟨E, x0, h0, R, rfl⟩ ?_
  rintro n a w ⟨E, x, hI, R, rfl⟩
  have h := round x hI
  rw [headK_eq] at h
  refine Code.wp_mono ?_ (wpx_snd on c h R)
  rintro e a' w' ⟨E', s', hk, R'⟩
  cases e <;> first
    | (obtain ⟨y, h1, h2, κ, h3⟩ := hk
       rw [headK_eq] at h3
       obtain ⟨E'', R''⟩ := R'.renum on h3
       exact ⟨μ y, h2, E'', y, h1, R'', rfl⟩)
    | exact ⟨E', s', hk, R'⟩

/-- A nil slice is a growing one without elements: ahead of a loop that appends. -/
theorem loop_nil {T : Tbl} {O : Org} (on : O.E.n = O.h.length) {c : Code} {s : St} {K : Exit → St → Prop} (d : Nat) (k : IntKind) (f : Nat → Int) (hd : nth s.tmps d = .s .nilslice)
    (hk : pushBK s.heap 0 (.cells true [.ints k 0 f] 0) fun N h => updK s.tmps d (.s (.gs N 0 0 0)) fun ts => LoopG T O c ⟨ts, h⟩ K) : LoopG T O c s K := by
  intro E a w R
  rw [pushBK_eq, updK_eq, Nat.zero_add] at hk
  obtain ⟨S', N'⟩ := push_nil R.sim (cs := [.ints k 0 f]) ⟨[], rfl, rfl⟩
  refine hk _ a w ⟨⟨?_, fun i v hi => ?_⟩, R.df, S', R.sin.trans on R.sim.n N'⟩
  · rw [length_upd]; exact R.fr.1
  · have h1 := R.fr.2 i v hi
    rw [nth_upd]
    split
    · rename_i hc
      obtain ⟨rfl, _⟩ := hc
      rw [hd] at h1
      simp only [denE, denV] at h1 ⊢
      rw [← R.sim.n, Emb.push_new]
      exact ⟨by simp [Emb.push], fun _ => ⟨trivial, trivial⟩, by simpa using h1⟩
    · exact denE_mono (N'.le R.sim.n S'.n) _ _ h1

/-! ### a function's end -/

/-- What a function leaves, with fewer blocks and other numbers. -/
def Ends (n : Nat) (Q : EV → List Blk → Prop) (v : EV) (h : List Blk) : Prop :=
  ∃ V H κ, Q V H ∧ κ.Nodup ∧ idK 0 n κ ∧ eqvE v (renE (lk κ h.length) V) ∧ subQ h κ (renH (lk κ h.length) H)

/-- **A function whose body is walked over a small heap.** -/
theorem fnX_does (T : Tbl) {f : FuncId} {F : Func} (hF : T.P.funcs[f]? = some F) (hb : F.body.isNone = false) (hname : (F.name == "runtime.NumGoroutine") = false) {args : List EV} {h : List Blk} {Q : EV → List Blk → Prop}
    (hX : ∀ O : Org, O.E.n = O.h.length → O.E.n = h.length → fnX T O F args h (Ends h.length Q)) : Does T f args h Q := by
  refine ⟨.inl ⟨⟨F, hF, hb, hname⟩, fun E w vs S ha => ?_⟩⟩
  have c := fnX_call T hF (args := args) (h := h) (Q := Ends h.length Q) (fun E w S => hX _ S.n S.n) E w vs S ha
  refine c.mono ?_
  rintro e w' ⟨v, x, h', E', rfl, hd, S', N', V, H, κ, hq, hnd, hid, hv, hh⟩
  obtain ⟨S'', h1, h2, h3⟩ := S'.renum hnd hh
  refine ⟨v, V, H, _, rfl, ?_, S'', N'.renum S.n S' hnd (by rw [S.n]; exact hid) hh, hq⟩
  exact (denE_ren (E := ⟨H.length, fun i => E'.f (lk κ h'.length i)⟩) h1 (fun b hb => ⟨h2 b hb, rfl⟩) _ _).1 (eqvE_den _ _ _ hv hd)


/-- No block of a small world may be written. -/
def roAll : List Blk → Prop
  | [] => True
  | B :: r => B.mut = false ∧ roAll r

theorem roAll_get : ∀ {h : List Blk}, roAll h → ∀ (i : Nat) (B : Blk), h[i]? = some B → B.mut = false
  | B :: r, hr, 0, C, hi => by simp only [List.getElem?_cons_zero, Option.some.injEq] at hi; subst hi; exact hr.1
  | B :: r, hr, i + 1, C, hi => roAll_get hr.2 i C (by simpa using hi)
  | [], _, i, C, hi => by simp at hi

/-- **A call over memory that may not be written: what was there is as it was.** -/
theorem Does.below {T : Tbl} {f : FuncId} {args : List EV} {h : List Blk} {Q : EV → List Blk → Prop} (d : Does T f args h Q) (hf : isFn T f) {E : Emb} {w : World} {vs : Array Value} (S : Sim E h w) (ha : denT E args vs.toList) (hr : roAll h) :
    Calls T.P f vs w fun e w' => (∃ v x h' E', e = .returned v ∧ denE E' x v ∧ Q x h') ∧ RowKit.Below w.heap.size w w' := by
  rcases d.go with ⟨_, c⟩ | c
  · refine (c E w vs S ha).mono ?_
    rintro e w' ⟨v, x, h', E', h1, h2, _, N, h5⟩
    refine ⟨⟨v, x, h', E', h1, h2, h5⟩, N.os, N.tape, N.output, N.size, fun k hk => N.frame k hk (fun o hm => ?_)⟩
    obtain ⟨i, B, hi, hB, _⟩ := hm
    rw [roAll_get hr i B hi] at hB
    cases hB
  · obtain ⟨F, hF, hb, hname⟩ := hf
    obtain ⟨u, w', hr, _⟩ := c E w vs S ha
    have : (callFunc f vs).run T.P w = .ok (.enter f vs) w := by
      simp only [callFunc, Sem.run_bind, Result.andThen_ok, run_program, hF]
      simp [hb]
      intro hh
      simp [hh] at hname
    rw [this] at hr
    cases hr

end Go.Anv

/- The engine, part 13: functions that defer one call. Plain theorems; their condition: the deferred call is a function's that ends well. -/
namespace Go.Anv
open Go

/-! ### the same numbers -/

section same
variable {ρ : Nat → Nat} (hρ : ∀ i, ρ i = i)
include hρ
mutual
theorem renV_same : ∀ e : SV, renV ρ e = e
  | .ptr .. => by simp only [renV, hρ]
  | .pix .. => by simp only [renV, hρ]
  | .slice .. => by simp only [renV, hρ]
  | .gs .. => by simp only [renV, hρ]
  | .map _ => by simp only [renV, hρ]
  | .func fn f c => by simp only [renV, renL_same f, renL_same c]
  | .iface t a cs => by simp only [renV, renL_same cs]
  | .junk => rfl
  | .int .. => rfl
  | .bool _ => rfl
  | .str _ => rfl
  | .nilptr => rfl
  | .nilslice => rfl
  | .nilmap => rfl
  | .nilfunc => rfl
  | .niliface => rfl
theorem renL_same : ∀ l : List SV, renL ρ l = l
  | [] => by
    have _ := hρ
    rfl
  | e :: r => by simp only [renL, renV_same e, renL_same r]
end

theorem renS_same : ∀ cs : List Seg, renS ρ cs = cs
  | [] => rfl
  | .one e :: r => by simp only [renS, renV_same hρ e, renS_same r]
  | .ints .. :: r => by simp only [renS, renS_same r]

mutual
theorem renE_same : ∀ e : EV, renE ρ e = e
  | .s e => by simp only [renE, renV_same hρ e]
  | .agg cs => by simp only [renE, renS_same hρ cs]
  | .tuple vs => by simp only [renE, renT_same vs]
  | .gd g e => by simp only [renE, renE_same e]
  | .junk => rfl
theorem renT_same : ∀ l : List EV, renT ρ l = l
  | [] => by
    have _ := hρ
    rfl
  | e :: r => by simp only [renT, renE_same e, renT_same r]
end

theorem renM_same : ∀ l : List (SV × List Seg), renM ρ l = l
  | [] => rfl
  | (k, cs) :: r => by simp only [renM, renV_same hρ k, renS_same hρ cs, renM_same r]

theorem renB_same : ∀ B : Blk, renB ρ B = B
  | .cells m cs sp => by simp only [renB, renS_same hρ cs]
  | .map es => by simp only [renB, renM_same hρ es]
  | .dead => rfl

theorem renH_same : ∀ h : List Blk, renH ρ h = h
  | [] => rfl
  | B :: r => by simp only [renH, renB_same hρ B, renH_same r]
end same

theorem lk_range (n i : Nat) : lk (List.range n) n i = i := by
  rcases Nat.lt_or_ge i n with h | h
  · rw [look_lt _ _ i (by simpa using h)]
    simp
  · rw [look_ge _ _ i (by simpa using h)]
    simp
    omega

theorem idK_range : ∀ (n m k : Nat), n ≤ m → idK k n (List.range' k m)
  | 0, _, _, _ => trivial
  | n + 1, 0, _, h => by omega
  | n + 1, m + 1, k, h => ⟨rfl, idK_range n m (k + 1) (by omega)⟩

theorem subQ_range (h : List Blk) : ∀ (r : List Blk) (k : Nat), h.drop k = r → subQ h (List.range' k r.length) r
  | [], _, _ => trivial
  | B :: r, k, hk => by
    have h1 : h[k]? = some B := by
      have := congrArg (·[0]?) hk
      simpa using this
    refine ⟨⟨B, get_nthB h1, eqvB_refl B⟩, subQ_range h r (k + 1) ?_⟩
    have := congrArg (List.drop 1) hk
    simpa [List.drop_drop] using this

/-- A function's end, with the numbers as they are. -/
theorem Ends.same {n : Nat} {Q : EV → List Blk → Prop} {v : EV} {h : List Blk} (hq : Q v h) (hn : n ≤ h.length) : Ends n Q v h := by
  have hlk : ∀ i, lk (List.range h.length) h.length i = i := lk_range h.length
  refine ⟨v, h, List.range h.length, hq, List.nodup_range, by rw [List.range_eq_range']; exact idK_range n h.length 0 hn, ?_, ?_⟩
  · rw [renE_same hlk]; exact eqvE_refl v
  · rw [renH_same hlk, List.range_eq_range']
    exact subQ_range h h 0 rfl

/-- A function that may be called by a defer. -/
structure DoesD (T : Tbl) (f : FuncId) (args : List EV) (h : List Blk) (Q : EV → List Blk → Prop) : Prop where
  go : isFn T f ∧ ∀ E w vs u, Sim E h w → denT E args vs.toList → CallsD T.P f vs u w fun e u' w' => u' = u ∧ Post E h w Q e w'

theorem DoesD.mono {T : Tbl} {f : FuncId} {args : List EV} {h : List Blk} {Q Q' : EV → List Blk → Prop} (c : DoesD T f args h Q) (hq : ∀ v h', Q v h' → Q' v h') : DoesD T f args h Q' :=
  ⟨c.go.1, fun E w vs u S ha => (c.go.2 E w vs u S ha).mono fun _ _ _ p => ⟨p.1, p.2.mono hq⟩⟩

theorem fnX_callD (T : Tbl) {f : FuncId} {F : Func} (hF : T.P.funcs[f]? = some F) {args : List EV} {h : List Blk} {Q : EV → List Blk → Prop}
    (hX : ∀ E w, Sim E h w → fnX T ⟨E, h, w, []⟩ F args h Q) : ∀ E w vs u, Sim E h w → denT E args vs.toList → CallsD T.P f vs u w fun e u' w' => u' = u ∧ Post E h w Q e w' := by
  intro E w vs u S hargs
  have hx := hX E w S
  unfold fnX at hx
  split at hx
  · rename_i c hc
    rw [frameK_eq] at hx
    refine callsD_of_wp hF hc ?_
    have hlen : vs.size = args.length := by rw [← Array.length_toList]; exact denT_length hargs
    have R : Rel ⟨E, h, w, []⟩ E { tmps := args ++ junks (F.ntmps - args.length), heap := h } { tmps := vs ++ Array.replicate (F.ntmps - vs.size) undef, defers := [] } w := by
      refine ⟨⟨by simp [length_junks, hlen], fun i v hi => ?_⟩, rfl, S, Since.refl _ _ _⟩
      rw [nth_append_junks]
      split
      · rename_i hlt
        rw [Array.getElem?_append_left (by omega)] at hi
        exact denT_nth hargs (by simpa using hi)
      · simp only [denE]
    refine Code.wp_mono ?_ (wpx_snd (T := T) (O := ⟨E, h, w, []⟩) S.n c hx R)
    rintro e a' w' ⟨E', s', hk, R'⟩
    cases e <;> first
      | (obtain ⟨u, v, h1, h2, h3⟩ := resX_snd T R'.fr R'.sim hk
         exact ⟨R'.df, u, h1, u, v, s'.heap, E', rfl, h2, R'.sim, R'.sin, h3⟩)
      | exact hk.elim
  · exact hx.elim

/-- **A function whose body is walked over a small heap, for a defer.** -/
theorem fnX_doesD (T : Tbl) {f : FuncId} {F : Func} (hF : T.P.funcs[f]? = some F) (hb : F.body.isNone = false) (hname : (F.name == "runtime.NumGoroutine") = false) {args : List EV} {h : List Blk} {Q : EV → List Blk → Prop}
    (hX : ∀ O : Org, O.E.n = O.h.length → O.E.n = h.length → fnX T O F args h (Ends h.length Q)) : DoesD T f args h Q := by
  refine ⟨⟨F, hF, hb, hname⟩, fun E w vs u S ha => ?_⟩
  have c := fnX_callD T hF (args := args) (h := h) (Q := Ends h.length Q) (fun E w S => hX _ S.n S.n) E w vs u S ha
  refine c.mono ?_
  rintro e u' w' ⟨hu, v, x, h', E', rfl, hd, S', N', V, H, κ, hq, hnd, hid, hv, hh⟩
  obtain ⟨S'', h1, h2, h3⟩ := S'.renum hnd hh
  refine ⟨hu, v, V, H, _, rfl, ?_, S'', N'.renum S.n S' hnd (by rw [S.n]; exact hid) hh, hq⟩
  exact (denE_ren (E := ⟨H.length, fun i => E'.f (lk κ h'.length i)⟩) h1 (fun b hb => ⟨h2 b hb, rfl⟩) _ _).1 (eqvE_den _ _ _ hv hd)

/-- The operations ahead of a defer that stands last; what is deferred. -/
def lastD : List Oper → Option (List Oper × Operand × Array Operand)
  | [] => none
  | [o] => match o.guard, o.dst, o.op with
    | none, none, .defer { callee := .value f, args, .. } => some ([], f, args)
    | _, _, _ => none
  | o :: r => match lastD r with
    | some (p, f, a) => some (o :: p, f, a)
    | none => none

def normK (next : St → Prop) : Exit → St → Prop
  | .normal, s => next s
  | _, _ => False

/-- The walk as far as a defer; the code behind it. -/
def wpd (T : Tbl) (O : Org) (c : Code) : St → (St → EV → List EV → Code → Prop) → Prop :=
  Code.rec (motive := fun _ => St → (St → EV → List EV → Code → Prop) → Prop)
    (fun _ _ => False)
    (fun _ _ _ _ _ => False)
    (fun a b _ wb s k => match a with
      | .region id ops false => match lastD ops.toList with
        | some (pre, f, args) => opsX T ops pre s fun s' => k s' (evT s'.tmps f) (args.toList.map (evT s'.tmps)) b
        | none => wpx T O (.region id ops false) s (normK fun s' => wb s' k)
      | a => wpx T O a s (normK fun s' => wb s' k))
    (fun _ _ _ _ _ _ _ => False)
    (fun _ _ _ _ _ => False)
    (fun _ _ _ _ => False)
    (fun _ _ _ _ _ _ _ _ => False)
    (fun _ _ _ => False)
    (fun _ _ _ _ => False)
    (fun _ _ _ => False)
    (fun _ _ _ => False)
    (fun _ _ => False)
    (fun _ _ _ => False)
    c

theorem wpd_seq (T : Tbl) (O : Org) (a b : Code) (s : St) (k : St → EV → List EV → Code → Prop) : wpd T O (.seq a b) s k = (match a with
    | .region id ops false => match lastD ops.toList with
      | some (pre, f, args) => opsX T ops pre s fun s' => k s' (evT s'.tmps f) (args.toList.map (evT s'.tmps)) b
      | none => wpx T O (.region id ops false) s (normK fun s' => wpd T O b s' k)
    | a => wpx T O a s (normK fun s' => wpd T O b s' k)) := rfl

theorem lastD_spec : ∀ {l pre : List Oper} {f : Operand} {args : Array Operand}, lastD l = some (pre, f, args) → ∃ o tys, l = pre ++ [o] ∧ o.guard = none ∧ o.dst = none ∧ o.op = .defer { callee := .value f, args := args, argTypes := tys }
  | [], _, _, _, h => by simp [lastD] at h
  | [o], pre, f, args, h => by
    simp only [lastD] at h
    split at h
    · rename_i f' args' tys hg hd hop
      simp only [Option.some.injEq, Prod.mk.injEq] at h
      obtain ⟨rfl, rfl, rfl⟩ := h
      exact ⟨o, tys, rfl, hg, hd, hop⟩
    · cases h
  | o :: o' :: r, pre, f, args, h => by
    simp only [lastD] at h
    split at h
    · rename_i p f' a' hr
      simp only [Option.some.injEq, Prod.mk.injEq] at h
      obtain ⟨rfl, rfl, rfl⟩ := h
      obtain ⟨x, tys, h1, h2⟩ := lastD_spec (l := o' :: r) hr
      exact ⟨x, tys, by rw [h1]; rfl, h2⟩
    · cases h

theorem opsX_append {T : Tbl} {O : Org} (on : O.E.n = O.h.length) {ops : Array Oper} {Q : Exit → Act → World → Prop} : ∀ (l l2 : List Oper) {E : Emb} {s : St} {a : Act} {w : World}, Rel O E s a w → ∀ {k : St → Prop}, opsX T ops l s k →
    (∀ E' s' a' w', k s' → Rel O E' s' a' w' → wpList T.P ops Q l2 a' w') → wpList T.P ops Q (l ++ l2) a w
  | [], _, _, _, _, _, R, _, hk, hn => hn _ _ _ _ hk R
  | o :: r, l2, _, _, _, _, R, k, hk, hn => by
    have hk : opX T ops _ o (fun s' => opsX T ops r s' k) := hk
    have := opX_snd on R hk (next := wpList T.P ops Q (r ++ l2)) (Q := Q) (fun E' s' a' w' h1 h2 => opsX_append on r l2 h2 h1 hn)
    rw [List.cons_append]
    unfold wpList
    split
    · rename_i hw; rw [if_pos hw] at this; exact .inl this
    · rename_i hw; rw [if_neg hw] at this; exact this

theorem wpd_snd {T : Tbl} {O : Org} (on : O.E.n = O.h.length) {Q : Exit → Act → World → Prop} {k : St → EV → List EV → Code → Prop}
    (hk : ∀ E s a w f args fv vs b, k s f args b → denE E f fv → denT E args vs → Rel O E s a w → ∀ d, (∀ P w', (Deferred.ofValue fv vs.toArray).run P w' = .ok d w') → Code.wp T.P b Q { a with defers := d :: a.defers } w) :
    ∀ (c : Code) {E : Emb} {s : St} {a : Act} {w : World}, wpd T O c s (fun s f args b => (∃ g x y, f = .s (.func g x y)) ∧ k s f args b) → Rel O E s a w → c.wp T.P Q a w := by
  have step : ∀ (x y : Code) {E : Emb} {s : St} {a : Act} {w : World} {n : St → Prop}, wpx T O x s (normK n) → Rel O E s a w → (∀ {E s a w}, n s → Rel O E s a w → y.wp T.P Q a w) → (Code.seq x y).wp T.P Q a w := by
    intro x y E s a w n hx R hy
    refine wp_seq (Code.wp_mono ?_ (wpx_snd on x hx R))
    rintro e a' w' ⟨E', s', h1, h2⟩
    cases e <;> first
      | exact hy h1 h2
      | exact h1.elim
  intro c
  induction c with
  | seq x y _ ihy =>
    intro E s a w h R
    rw [wpd_seq] at h
    split at h
    · rename_i id ops _ _
      split at h
      · rename_i pre f args hl
        obtain ⟨o, tys, h1, hg, hd, hop⟩ := lastD_spec hl
        refine wp_seq (wp_region_list ?_)
        rw [h1]
        refine opsX_append on pre [o] R h fun E' s' a' w' hk' R' => ?_
        obtain ⟨⟨g, x, z, hf⟩, hk'⟩ := hk'
        have hfd := ev_denE R'.fr f
        have hargs := denT_map (E := E') (evT s'.tmps) a'.eval args.toList (fun x _ => ev_denE R'.fr x)
        have hfv : ∃ x' z', a'.eval f = .func g x' z' := by
          have hf' : s'.ev f = .s (.func g x z) := hf
          rw [hf'] at hfd
          simp only [denE, denV] at hfd
          obtain ⟨x', z', h3, _⟩ := hfd
          exact ⟨x', z', h3⟩
        obtain ⟨x', z', hfv⟩ := hfv
        have hrun : ∀ P w', (Deferred.ofValue (a'.eval f) (args.toList.map a'.eval).toArray).run P w' = .ok { target := .fn g z', args := x' ++ (args.toList.map a'.eval).toArray } w' := fun P w' => by
          rw [hfv]; rfl
        have hwp := hk E' s' a' w' _ _ _ _ _ hk' hfd hargs R' _ hrun
        unfold wpList
        rw [if_pos (by simp [Region.wanted, hg])]
        refine .inl ?_
        unfold Oper.wp
        have hex : (execOp a'.eval o).run T.P w' = .ok (.defer { target := .fn g z', args := x' ++ (args.toList.map a'.eval).toArray }) w' := by
          unfold execOp
          simp only [hop, resolve]
          rw [hfv, ← Array.toList_map, Array.toArray_toList]
          rfl
        rw [hex, Oper.upon_defer, hd]
        exact hwp
      · exact step _ _ h R fun h1 h2 => ihy h1 h2
    · exact step _ _ h R fun h1 h2 => ihy h1 h2
  | _ => intro E s a w h R; exact h.elim

/-- What comes behind the code: the deferred call, and what is handed back. -/
def bodyD (T : Tbl) (F : Func) (f : EV) (args : List EV) (Q : EV → List Blk → Prop) : Exit → St → Prop
  | .normal, s => match f with
    | .s (.func (.func g) [] []) => DoesD T g args s.heap fun _ h => resX T ⟨s.tmps, h⟩ F.results.toList Q
    | _ => False
  | .ret, s => match f with
    | .s (.func (.func g) [] []) => DoesD T g args s.heap fun _ h => resX T ⟨s.tmps, h⟩ F.results.toList Q
    | _ => False
  | _, _ => False

/-- A function's body that defers a call, walked. -/
def fnXD (T : Tbl) (O : Org) (F : Func) (args : List EV) (h : List Blk) (Q : EV → List Blk → Prop) : Prop :=
  match F.body with
  | some c => frameK args F.ntmps fun ts => wpd T O c ⟨ts, h⟩ fun s f dargs rest => (∃ g x y, f = .s (.func g x y)) ∧ ∀ O' : Org, O'.E.n = O'.h.length → O'.E.n = s.heap.length → O.E.n ≤ O'.E.n → wpx T O' rest s (bodyD T F f dargs Q)
  | none => False

theorem fnXD_call (T : Tbl) {f : FuncId} {F : Func} (hF : T.P.funcs[f]? = some F) {args : List EV} {h : List Blk} {Q : EV → List Blk → Prop}
    (hX : ∀ E w, Sim E h w → fnXD T ⟨E, h, w, []⟩ F args h Q) : CallG T f args h Q := by
  intro E w vs S hargs
  have hx := hX E w S
  unfold fnXD at hx
  split at hx
  · rename_i c hc
    rw [frameK_eq] at hx
    refine calls_of_wp_defers hF hc ?_
    have hlen : vs.size = args.length := by rw [← Array.length_toList]; exact denT_length hargs
    have R : Rel ⟨E, h, w, []⟩ E { tmps := args ++ junks (F.ntmps - args.length), heap := h } { tmps := vs ++ Array.replicate (F.ntmps - vs.size) undef, defers := [] } w := by
      refine ⟨⟨by simp [length_junks, hlen], fun i v hi => ?_⟩, rfl, S, Since.refl _ _ _⟩
      rw [nth_append_junks]
      split
      · rename_i hlt
        rw [Array.getElem?_append_left (by omega)] at hi
        exact denT_nth hargs (by simpa using hi)
      · simp only [denE]
    refine wpd_snd (O := ⟨E, h, w, []⟩) S.n ?_ c hx R
    intro E1 s1 a1 w1 fv0 dargs fv dvs rest hk hfd hdargs R1 d hd
    have hdf : a1.defers = [] := R1.df
    have hO := hk ⟨E1, s1.heap, w1, [d]⟩ R1.sim.n R1.sim.n (by have h1 := R1.sin.len; have h2 := S.n; have h3 := R1.sim.n; simp only at *; omega)
    have R1' : Rel ⟨E1, s1.heap, w1, [d]⟩ E1 s1 { a1 with defers := d :: a1.defers } w1 := ⟨R1.fr, by simp [hdf], R1.sim, Since.refl _ _ _⟩
    refine Code.wp_mono ?_ (wpx_snd (T := T) (O := ⟨E1, s1.heap, w1, [d]⟩) R1.sim.n rest hO R1')
    have key : ∀ E2 s2 a2 w2, (match fv0 with
        | .s (.func (.func g) [] []) => DoesD T g dargs s2.heap fun _ h => resX T ⟨s2.tmps, h⟩ F.results.toList Q
        | _ => False) → Rel ⟨E1, s1.heap, w1, [d]⟩ E2 s2 a2 w2 → Leaves T.P F a2.tmps (Post E h w Q) a2.defers .returning w2 := by
      intro E2 s2 a2 w2 hb R2
      have hdf2 : a2.defers = [d] := R2.df
      split at hb
      · rename_i g
        simp only [denE, denV, denL] at hfd
        obtain ⟨f', c', rfl, h1, h2⟩ := hfd
        have h1' : f' = #[] := Array.toList_eq_nil_iff.1 h1
        have h2' : c' = #[] := Array.toList_eq_nil_iff.1 h2
        subst h1' h2'
        have hdd : d = { target := .fn (.func g) #[], args := dvs.toArray } := by
          have h0 : (Deferred.ofValue (.func (.func g) #[] #[]) dvs.toArray).run T.P w = .ok { target := .fn (.func g) #[], args := #[] ++ dvs.toArray } w := rfl
          have := hd T.P w
          rw [h0, Array.empty_append] at this
          cases this
          rfl
        rw [hdf2, hdd]
        obtain ⟨hfn, hgo⟩ := hb.go
        obtain ⟨G, hG, hbody, hname⟩ := hfn
        have hle2 : E1.le E2 := R2.sin.le R1.sim.n R2.sim.n
        have hda : denT E2 dargs dvs := denT_mono hle2 _ _ hdargs
        refine leaves_cons (f := g) (args := dvs.toArray) (by simp) ?_ ?_
        · simp only [invoke, callFunc, Sem.run_bind, run_program, Result.andThen_ok, hG, Array.append_empty]
          simp [hbody]
          intro hh
          simp [hh] at hname
        · refine (hgo E2 w2 dvs.toArray .returning R2.sim (by simpa using hda)).mono ?_
          rintro e u' w3 ⟨rfl, v, x, h3, E3, rfl, _, S3, N3, hq⟩
          have hfr : frameOk E3 s2.tmps a2.tmps := frameOk_mono (N3.le R2.sim.n S3.n) R2.fr
          obtain ⟨u, v', k1, k2, k3⟩ := resX_snd T (s := ⟨s2.tmps, h3⟩) hfr S3 hq
          refine ⟨u, k1, u, v', h3, E3, rfl, k2, S3, ?_, k3⟩
          have n1 := R1.sin
          exact ((n1.trans S.n R1.sim.n R2.sin).trans S.n R2.sim.n N3)
      · exact hb.elim
    rintro e a2 w2 ⟨E2, s2, hb, R2⟩
    cases e <;> first
      | exact key E2 s2 a2 w2 hb R2
      | exact hb.elim
  · exact hx.elim

/-- **A function that defers a call, walked over a small heap.** -/
theorem fnXD_does (T : Tbl) {f : FuncId} {F : Func} (hF : T.P.funcs[f]? = some F) (hb : F.body.isNone = false) (hname : (F.name == "runtime.NumGoroutine") = false) {args : List EV} {h : List Blk} {Q : EV → List Blk → Prop}
    (hX : ∀ O : Org, O.E.n = O.h.length → O.E.n = h.length → fnXD T O F args h (Ends h.length Q)) : Does T f args h Q := by
  refine ⟨.inl ⟨⟨F, hF, hb, hname⟩, fun E w vs S ha => ?_⟩⟩
  have c := fnXD_call T hF (args := args) (h := h) (Q := Ends h.length Q) (fun E w S => hX _ S.n S.n) E w vs S ha
  refine c.mono ?_
  rintro e w' ⟨v, x, h', E', rfl, hd, S', N', V, H, κ, hq, hnd, hid, hv, hh⟩
  obtain ⟨S'', h1, h2, h3⟩ := S'.renum hnd hh
  refine ⟨v, V, H, _, rfl, ?_, S'', N'.renum S.n S' hnd (by rw [S.n]; exact hid) hh, hq⟩
  exact (denE_ren (E := ⟨H.length, fun i => E'.f (lk κ h'.length i)⟩) h1 (fun b hb => ⟨h2 b hb, rfl⟩) _ _).1 (eqvE_den _ _ _ hv hd)

end Go.Anv

/- The bus: its block; the lock of its console. No condition: contracts of functions. -/
namespace Go.Anv
open Go
theorem length_updB : ∀ (h : List Blk) (b : Nat) (B : Blk), (updB h b B).length = h.length
  | [], _, _ => rfl
  | _ :: _, 0, _ => rfl
  | _ :: r, b + 1, B => by simp [updB, length_updB r b B]

theorem nthB_updB : ∀ {h : List Blk} {b : Nat} {A B : Blk}, nthB h b = some A → nthB (updB h b B) b = some B
  | [], _, _, _, h => by simp [nthB] at h
  | _ :: _, 0, _, _, _ => rfl
  | _ :: r, b + 1, _, _, h => by simp only [nthB, updB] at h ⊢; exact nthB_updB h

theorem getS_setS : ∀ {cs cs' : List Seg} {o : Nat} {e : SV}, setS cs o e = some cs' → getS cs' o = some e
  | [], _, _, _, h => by simp [setS] at h
  | .one _ :: r, _, 0, e, h => by simp only [setS, Option.some.injEq] at h; subst h; rfl
  | .one v :: r, _, o + 1, e, h => by
    simp only [setS, Option.map_eq_some_iff] at h
    obtain ⟨c, hc, rfl⟩ := h
    simp only [getS]
    exact getS_setS hc
  | .ints k n f :: r, _, o, e, h => by
    unfold setS at h
    split at h
    · rename_i ho
      simp only [Option.map_eq_some_iff] at h
      obtain ⟨c, hc, rfl⟩ := h
      unfold getS
      rw [if_neg (by omega)]
      exact getS_setS hc
    · cases h

end Go.Anv
namespace Go.Proofs.Ytghcdkpgcanpgaa
open Go Go.Anv
section lock
variable {h : List Blk} {b o sp : Nat} {cs cs' : List Seg}

theorem set_lock {E : Emb} {w : World} {k y : Int} (S : Sim E h w) (hb : nthB h b = some (.cells true cs sp)) (hg : getS cs o = some (.int .i32 k)) (hs : setS cs o (.int .i32 y) = some cs') :
    w.cell? (E.at b o) = some (.int .i32 k) ∧ w.frozen? (E.at b o) = false ∧ Sim E (updB h b (.cells true cs' sp)) (w.setCell (E.at b o) (.int .i32 y)) ∧ Since E h w E (updB h b (.cells true cs' sp)) (w.setCell (E.at b o) (.int .i32 y)) := by
  have hb' := nthB_get hb
  obtain ⟨l, hl, hw, _⟩ := S.look hb'
  obtain ⟨_, _, hm⟩ := S.ok b _ hb'
  obtain ⟨u, h1, h2⟩ := getS_den hl hg
  simp only [denV] at h2
  subst h2
  have h3 := hw o _ h1
  obtain ⟨k1, k2, k3⟩ := setS_den (E := E) (v := .int .i32 y) hl (by simp only [denV]) hs
  have hd : denS E cs' (l.take o ++ ([Value.int .i32 y] ++ l.drop (o + [Value.int .i32 y].length))) := by
    rw [← list_set_eq _ (by rw [denS_length hl]; exact k3)]
    exact k1
  refine ⟨h3, (hm rfl o (by omega)).2.frozen h3, ?_, ?_⟩
  · rw [updB_eq]; exact S.store (vs := [.int .i32 y]) hb' hl hw hd k2 k3
  · rw [updB_eq]; exact Since.store (vs := [.int .i32 y]) hb' k2 k3

theorem cas_spec {k y : Int} (hb : nthB h b = some (.cells true cs sp)) (hg : getS cs o = some (.int .i32 k)) (hs : setS cs o (.int .i32 y) = some cs') :
    Does TB 145 [.s (.ptr b o), .s (.int .i32 k), .s (.int .i32 y)] h (fun r h' => r = .s (.bool true) ∧ h' = updB h b (.cells true cs' sp)) := by
  refine ⟨.inr fun E w vs S ha => ?_⟩
  simp only [denT, denE, denV] at ha
  obtain ⟨x1, l1, e1, ⟨_, rfl⟩, x2, l2, rfl, rfl, x3, l3, rfl, rfl, rfl⟩ := ha
  have hvs : vs = #[.pointer (some (E.at b o)), .int .i32 k, .int .i32 y] := by rw [← Array.toList_inj]; exact e1
  subst hvs
  obtain ⟨h1, h2, h3, h4⟩ := set_lock S hb hg hs
  have hrun := run_call_cas_hit (P := TB.P) (y := y) Try.func145 (by kernel_rfl) (by kernel_rfl) (by kernel_rfl) .i32 (by kernel_rfl) h1 h2
  exact ⟨_, _, hrun, _, _, _, _, rfl, (by simp only [denE, denV] : denE E (.s (.bool true)) _), h3, h4, rfl, rfl⟩

theorem add_spec {k y s : Int} (hw : IntKind.i32.wrap (k + y) = s) (hb : nthB h b = some (.cells true cs sp)) (hg : getS cs o = some (.int .i32 k)) (hs : setS cs o (.int .i32 s) = some cs') :
    Does TB 150 [.s (.ptr b o), .s (.int .i32 y)] h (fun r h' => r = .s (.int .i32 s) ∧ h' = updB h b (.cells true cs' sp)) := by
  refine ⟨.inr fun E w vs S ha => ?_⟩
  simp only [denT, denE, denV] at ha
  obtain ⟨x1, l1, e1, ⟨_, rfl⟩, x2, l2, rfl, rfl, rfl⟩ := ha
  have hvs : vs = #[.pointer (some (E.at b o)), .int .i32 y] := by rw [← Array.toList_inj]; exact e1
  subst hvs
  obtain ⟨h1, h2, h3, h4⟩ := set_lock S hb hg hs
  have hrun := run_call_add (P := TB.P) (y := y) (s := s) Try.func150 (by kernel_rfl) (by kernel_rfl) (by kernel_rfl) .i32 (by kernel_rfl) h1 h2 (by simp [Op.intArith, hw])
  exact ⟨_, _, hrun, _, _, _, _, rfl, (by simp only [denE, denV] : denE E (.s (.int .i32 s)) _), h3, h4, rfl, rfl⟩
end lock

theorem mark0_spec {f : FuncId} {fn : Func} {m : Mark} (hf : TB.P.funcs[f]? = some fn) (hname : (fn.name == "runtime.NumGoroutine") = false) (hb : fn.body.isNone = true) (hn : Extern.findNext fn = none)
    (he : Extern.find fn = some (fun _ => do mark m; pure Extern.Race.none_)) (h : List Blk) : Does TB f [] h (fun r h' => r = .tuple [] ∧ h' = h) := by
  refine ⟨.inr fun E w vs S ha => ?_⟩
  simp only [denT] at ha
  have hvs : vs = #[] := by rw [← Array.toList_inj]; exact ha
  subst hvs
  exact ⟨_, _, run_call_mark0 (P := TB.P) hf hname hb hn m he w, _, _, _, _, rfl, (by simp only [denE]; exact ⟨_, rfl, rfl⟩ : denE E (.tuple []) _), S, Since.refl _ _ _, rfl, rfl⟩

theorem marked_spec {f : FuncId} {fn : Func} {m : Addr → Mark} (hf : TB.P.funcs[f]? = some fn) (hname : (fn.name == "runtime.NumGoroutine") = false) (hb : fn.body.isNone = true) (hn : Extern.findNext fn = none)
    (he : Extern.find fn = some (Extern.Race.marked m)) (b o : Nat) (h : List Blk) : Does TB f [.s (.ptr b o)] h (fun r h' => r = .tuple [] ∧ h' = h) := by
  refine ⟨.inr fun E w vs S ha => ?_⟩
  simp only [denT, denE, denV] at ha
  obtain ⟨x1, l1, e1, ⟨hb1, rfl⟩, rfl⟩ := ha
  have hvs : vs = #[.pointer (some (E.at b o))] := by rw [← Array.toList_inj]; exact e1
  subst hvs
  exact ⟨_, _, run_call_marked (P := TB.P) hf hname hb hn m he _ w, _, _, _, _, rfl, (by simp only [denE]; exact ⟨_, rfl, rfl⟩ : denE E (.tuple []) _), S, Since.refl _ _ _, rfl, rfl⟩

theorem disable_spec (h : List Blk) : Does TB 144 [] h (fun r h' => r = .tuple [] ∧ h' = h) := mark0_spec (m := .disable) Try.func144 (by kernel_rfl) (by kernel_rfl) (by kernel_rfl) (by kernel_rfl) h
theorem enable_spec (h : List Blk) : Does TB 146 [] h (fun r h' => r = .tuple [] ∧ h' = h) := mark0_spec (m := .enable) Try.func146 (by kernel_rfl) (by kernel_rfl) (by kernel_rfl) (by kernel_rfl) h
theorem acquire_spec (b o : Nat) (h : List Blk) : Does TB 147 [.s (.ptr b o)] h (fun r h' => r = .tuple [] ∧ h' = h) := marked_spec (m := .acquire) Try.func147 (by kernel_rfl) (by kernel_rfl) (by kernel_rfl) (by kernel_rfl) b o h
theorem release_spec (b o : Nat) (h : List Blk) : Does TB 149 [.s (.ptr b o)] h (fun r h' => r = .tuple [] ∧ h' = h) := marked_spec (m := .releaseMerge) Try.func149 (by kernel_rfl) (by kernel_rfl) (by kernel_rfl) (by kernel_rfl) b o h

section lock
variable {h : List Blk} {b o sp : Nat} {cs cs' : List Seg}

theorem ilock_spec (hb : nthB h b = some (.cells true cs sp)) (hg : getS cs o = some (.int .i32 0)) (hs : setS cs o (.int .i32 1) = some cs') :
    Does TB 111 [.s (.ptr b o)] h (fun r h' => r = .tuple [] ∧ h' = updB h b (.cells true cs' sp)) := by
  refine fnX_does TB Try.func111 rfl (by decide) (fun O on hO => ?_)
  refine (disable_spec _).mono ?_
  rintro _ _ ⟨rfl, rfl⟩
  refine (cas_spec hb hg hs).mono ?_
  rintro _ _ ⟨rfl, rfl⟩
  refine (enable_spec _).mono ?_
  rintro _ _ ⟨rfl, rfl⟩
  refine need_intro ⟨_, _, _, _, nthB_updB hb, getS_setS hs⟩ ?_
  refine (acquire_spec b o _).mono ?_
  rintro _ _ ⟨rfl, rfl⟩
  exact Ends.same ⟨rfl, rfl⟩ (by rw [length_updB]; exact Nat.le_refl _)

theorem lock_spec (hb : nthB h b = some (.cells true cs sp)) (hg : getS cs o = some (.int .i32 0)) (hs : setS cs o (.int .i32 1) = some cs') :
    Does TB 102 [.s (.ptr b o)] h (fun r h' => r = .tuple [] ∧ h' = updB h b (.cells true cs' sp)) := by
  refine fnX_does TB Try.func102 rfl (by decide) (fun O on hO => ?_)
  refine (ilock_spec hb hg hs).mono ?_
  rintro _ _ ⟨rfl, rfl⟩
  exact Ends.same ⟨rfl, rfl⟩ (by rw [length_updB]; exact Nat.le_refl _)

theorem loadX_int (T : Tbl) {t : TypeId} {i : TI} {k : IntKind} {x : Int} (ht : T.ty t = some i) (hd : i.d = .int k) (hb : nthB h b = some (.cells true cs sp)) (hg : getS cs o = some (.int k x)) : loadX T h t (.s (.ptr b o)) = .ok (.s (.int k x)) := by
  have : i.d.agg = false := by rw [hd]; rfl
  simp only [loadX, ht, hb, this, hg]
  simp

theorem iunlock_spec (hb : nthB h b = some (.cells true cs sp)) (hg : getS cs o = some (.int .i32 1)) (hs : setS cs o (.int .i32 0) = some cs') :
    Does TB 112 [.s (.ptr b o)] h (fun r h' => r = .tuple [] ∧ h' = updB h b (.cells true cs' sp)) := by
  refine fnX_does TB Try.func112 rfl (by decide) (fun O on hO => ?_)
  have hl : loadX TB h 21 (.s (.ptr b (o + 0))) = .ok (.s (.int .i32 1)) := loadX_int TB rfl rfl hb hg
  show (match loadX TB h 21 (.s (.ptr b (o + 0))) with
    | .ok v => _
    | .need p v => _
    | .fail => _)
  rw [hl]
  refine need_intro ⟨_, _, _, _, hb, hg⟩ ?_
  refine (release_spec b o _).mono ?_
  rintro _ _ ⟨rfl, rfl⟩
  refine (disable_spec _).mono ?_
  rintro _ _ ⟨rfl, rfl⟩
  refine (add_spec (k := 1) (y := -1) (s := 0) (by decide) hb hg hs).mono ?_
  rintro _ _ ⟨rfl, rfl⟩
  refine (enable_spec _).mono ?_
  rintro _ _ ⟨rfl, rfl⟩
  exact Ends.same ⟨rfl, rfl⟩ (by rw [length_updB]; exact Nat.le_refl _)

theorem unlock_spec (hb : nthB h b = some (.cells true cs sp)) (hg : getS cs o = some (.int .i32 1)) (hs : setS cs o (.int .i32 0) = some cs') :
    DoesD TB 103 [.s (.ptr b o)] h (fun r h' => r = .tuple [] ∧ h' = updB h b (.cells true cs' sp)) := by
  refine fnX_doesD TB Try.func103 rfl (by decide) (fun O on hO => ?_)
  refine (iunlock_spec hb hg hs).mono ?_
  rintro _ _ ⟨rfl, rfl⟩
  exact Ends.same ⟨rfl, rfl⟩ (by rw [length_updB]; exact Nat.le_refl _)
end lock
end Go.Proofs.Ytghcdkpgcanpgaa

/- The bus: states, what may be one, a bus of a state. No condition: contracts of functions. -/
namespace Go.Anv
open Go
abbrev B64 := BitVec 64
abbrev B32 := BitVec 32
abbrev B8 := BitVec 8
def bfun (q : Nat → B8) (j : Nat) : Int := ((q j).toNat : Int)
def wfun (q : Nat → B64) (j : Nat) : Int := ((q j).toNat : Int)
/-- A block of bytes. -/
def bblk (m : Bool) (n : Nat) (q : Nat → B8) (sp : Nat) : Blk := .cells m [.ints .u8 n (bfun q)] sp

/-- A bus's plain values: the lists' lengths with them. -/
structure BusV where
  nr : Nat
  msip : B32
  cmp : B64
  now : B64
  ext : Bool
  soft : Bool
  ier : B8
  lcr : B8
  mcr : B8
  scratch : B8
  overrun : Bool
  ni : Nat
  no : Nat
  off : Int
  code : Int

/-- The cells of api.Bus; r, i, o: where its lists lie. -/
def BusV.segs (s : BusV) (r i o : SV) : List Seg :=
  [.one r, .one (.int .u32 s.msip.toNat), .one (.int .u64 s.cmp.toNat), .one (.int .u64 s.now.toNat), .one (.bool s.ext), .one (.bool s.soft), .one (.int .u8 s.ier.toNat), .one (.int .u8 s.lcr.toNat), .one (.int .u8 s.mcr.toNat), .one (.int .u8 s.scratch.toNat),
    .one (.bool s.overrun), .one i, .one o, .one (.int .i64 s.off), .one (.int .i64 s.code)]

/-- The cells of bus.Bus. -/
def BusV.dev (s : BusV) (lock : Int) (r i o : SV) : List Seg :=
  [.one r, .one (.int .i64 s.off), .one (.int .i64 s.code), .one (.int .u32 s.msip.toNat), .one (.int .u64 s.cmp.toNat), .one (.int .u64 s.now.toNat), .one (.int .i32 lock), .one (.int .u32 0), .one i, .one o,
    .one (.int .u8 s.ier.toNat), .one (.int .u8 s.lcr.toNat), .one (.int .u8 s.mcr.toNat), .one (.int .u8 s.scratch.toNat), .one (.bool s.overrun), .one (.bool s.ext), .one (.bool s.soft)]

def fitsB (n : Int) : Bool := decide (8 ≤ n) && decide (n ≤ 65536) && decide (n % 8 = 0)
def BusV.can (s : BusV) : Bool :=
  decide ((8 ≤ s.nr ∧ s.nr ≤ 65536 ∧ s.nr % 8 = 0) ∧ s.msip.toNat ≤ 1 ∧ s.ier.toNat ≤ 15 ∧ s.mcr.toNat ≤ 31 ∧ s.ni ≤ 64 ∧ s.no ≤ 4096 ∧ ((s.off = 0 ∨ s.off = 1) ∧ s.code = 0 ∨ s.off = 2 ∧ 0 ≤ s.code ∧ s.code ≤ 65535))

/-- The lists of a bus lie in three blocks. -/
structure Lists where
  mr : Bool
  sr : Nat
  ram : Nat → B8
  mi : Bool
  si : Nat
  inp : Nat → B8
  mo : Bool
  so : Nat
  out : Nat → B8
def Lists.blks (l : Lists) (s : BusV) : List Blk := [bblk l.mr s.nr l.ram l.sr, bblk l.mi s.ni l.inp l.si, bblk l.mo s.no l.out l.so]
end Go.Anv
namespace Go.Proofs.Ytghcdkpgcanpgaa
open Go Go.Anv
theorem fits_spec (n : Int) (h : List Blk) : Does TB 101 [.s (.int .i64 n)] h (fun v h' => v = .s (.bool (fitsB n)) ∧ h' = h) := by
  refine fnX_pure TB Try.func101 rfl (by decide) rfl _ rfl (fun O on => ?_) h
  repeat (refine need_intro (by simp) ?_)
  show (_ : Bool) = _
  unfold fitsB
  by_cases h1 : 8 ≤ n
  · by_cases h2 : n ≤ 65536
    · have : n.tmod 8 = n % 8 := Int.tmod_eq_emod_of_nonneg (by omega)
      simp [h1, h2, this]
      by_cases h3 : n % 8 = 0 <;> simp [h3]
    · simp [h1, h2]
  · simp [h1]
theorem room5 (k : Nat) (h : k ≤ 140737488355328) : room ti5 k := ⟨⟨rfl, by decide⟩, h, by show k * 1 ≤ _; omega⟩
theorem own_spec (m : Bool) (k o n c sp : Nat) (q : Nat → B8) (p : Nat → B8) (hn : o + n ≤ k) (hk : n ≤ 140737488355328) (hp : ∀ j, j < n → q (o + j) = p j) :
    Does TB 74 [.s (.gs 0 o n c)] [bblk m k q sp] (fun v h' => ∃ cap, n ≤ cap ∧ v = .s (.gs 1 0 n cap) ∧ h' = [bblk m k q sp, bblk true n p (cap - n)]) := by
  refine fnX_does TB Try.func74 rfl (by decide) (fun O on hO => ?_)
  refine need_intro ⟨hn, room5 _ hk⟩ ?_
  intro c1 hc1
  refine ⟨_, _, [0, 1], ⟨c1, hc1, rfl, rfl⟩, by decide, ⟨rfl, trivial⟩, eqvE_refl _, ⟨⟨_, rfl, eqvB_refl _⟩, ⟨_, rfl, ⟨rfl, ?_, ⟨⟨rfl, rfl, fun j hj => ?_⟩, trivial⟩⟩⟩, trivial⟩⟩
  · exact Nat.mul_one _
  · show ((q (o + j)).toNat : Int) = ((p j).toNat : Int)
    rw [hp j hj]
theorem can_spec (s : BusV) (l : Lists) (cr ci co : Nat) (hni : s.ni < 2 ^ 62) (hno : s.no < 2 ^ 62) (hnr : s.nr < 2 ^ 62) :
    Does TB 73 [.agg (s.segs (.gs 0 0 s.nr cr) (.gs 1 0 s.ni ci) (.gs 2 0 s.no co))] (l.blks s) (fun v h' => v = .s (.bool s.can) ∧ h' = l.blks s) := by
  refine fnX_does TB Try.func73 rfl (by decide) (fun O on hO => ?_)
  refine (fits_spec _ _).mono ?_
  rintro v h' ⟨rfl, rfl⟩
  repeat (refine need_intro (by simp) ?_)
  have fin : ∀ {x : Bool} {b0 b1 b2 b3 : Blk}, x = s.can → b0 = bblk l.mr s.nr l.ram l.sr → b1 = bblk l.mi s.ni l.inp l.si → b2 = bblk l.mo s.no l.out l.so → Anv.Ends (l.blks s).length (fun v h' => v = .s (.bool s.can) ∧ h' = l.blks s) (.s (.bool x)) [b0, b1, b2, b3] := by
    rintro x b0 b1 b2 b3 rfl rfl rfl rfl
    exact ⟨_, _, [0, 1, 2], ⟨rfl, rfl⟩, by decide, ⟨rfl, rfl, rfl, trivial⟩, eqvE_refl _, ⟨⟨_, rfl, eqvB_refl _⟩, ⟨_, rfl, eqvB_refl _⟩, ⟨_, rfl, eqvB_refl _⟩, trivial⟩⟩
  refine ifB_intro (fun h1 => ?_) (fun h1 => ?_)
  · refine fin ?_ rfl rfl rfl
    simp only [Bool.cond_true_left, Bool.or_eq_true, Bool.not_eq_true', fitsB, Bool.and_eq_false_iff, decide_eq_true_eq, decide_eq_false_iff_not] at h1
    symm
    unfold BusV.can
    rw [decide_eq_false_iff_not]
    omega
  · simp only [Bool.cond_true_left, Bool.or_eq_false_iff, Bool.not_eq_false', fitsB, Bool.and_eq_true, decide_eq_true_eq, decide_eq_false_iff_not] at h1
    have leaf : ∀ {x : Bool}, ((x = true ↔ ((s.off = 0 ∨ s.off = 1) ∧ s.code = 0 ∨ s.off = 2 ∧ 0 ≤ s.code ∧ s.code ≤ 65535))) → x = s.can := by
      intro x hx
      rw [Bool.eq_iff_iff, hx]
      unfold BusV.can
      rw [decide_eq_true_eq]
      constructor
      · intro h; omega
      · intro h; omega
    refine ifB_intro (fun h2 => ?_) (fun h2 => ?_)
    · have h2 : s.off = 0 := by simpa using h2
      refine ifB_intro (fun h3 => ?_) (fun h3 => by simp [h2] at h3)
      refine fin (leaf ?_) rfl rfl rfl
      simp [h2]
    · have h2 : ¬ s.off = 0 := by simpa using h2
      refine ifB_intro (fun h3 => ?_) (fun h3 => ?_)
      · have h3 : s.off = 1 := by simpa using h3
        refine fin (leaf ?_) rfl rfl rfl
        simp [h3]
      · have h3 : ¬ s.off = 1 := by simpa using h3
        refine ifB_intro (fun h4 => ?_) (fun h4 => ?_)
        · have h4 : s.off = 2 := by simpa using h4
          repeat (refine need_intro (by simp) ?_)
          refine fin (leaf ?_) rfl rfl rfl
          simp only [Bool.cond_false_right, Bool.and_eq_true, decide_eq_true_eq]
          omega
        · have h4 : ¬ s.off = 2 := by simpa using h4
          refine fin (leaf ?_) rfl rfl rfl
          simp [h2, h3, h4]
end Go.Proofs.Ytghcdkpgcanpgaa

/- The bus: the bus that a state makes. No condition: contracts of functions. -/
namespace Go.Proofs.Ytghcdkpgcanpgaa
open Go Go.Anv
theorem canBe_spec (s : BusV) (l : Lists) (cr ci co : Nat) (hni : s.ni < 2 ^ 62) (hno : s.no < 2 ^ 62) (hnr : s.nr < 2 ^ 62) :
    Does TB 37 [.agg (s.segs (.gs 0 0 s.nr cr) (.gs 1 0 s.ni ci) (.gs 2 0 s.no co))] (l.blks s) (fun v h' => v = .s (.bool s.can) ∧ h' = l.blks s) := by
  refine fnX_does TB Try.func37 rfl (by decide) (fun O on hO => ?_)
  have hm : (s.nr : Int).tmod 8 = ((s.nr % 8 : Nat) : Int) := rfl
  have fin : ∀ {x : Bool} {b0 b1 b2 b3 : Blk}, x = s.can → b0 = bblk l.mr s.nr l.ram l.sr → b1 = bblk l.mi s.ni l.inp l.si → b2 = bblk l.mo s.no l.out l.so → Anv.Ends (l.blks s).length (fun v h' => v = .s (.bool s.can) ∧ h' = l.blks s) (.s (.bool x)) [b0, b1, b2, b3] := by
    rintro x b0 b1 b2 b3 rfl rfl rfl rfl
    exact ⟨_, _, [0, 1, 2], ⟨rfl, rfl⟩, by decide, ⟨rfl, rfl, rfl, trivial⟩, eqvE_refl _, ⟨⟨_, rfl, eqvB_refl _⟩, ⟨_, rfl, eqvB_refl _⟩, ⟨_, rfl, eqvB_refl _⟩, trivial⟩⟩
  repeat (refine need_intro (by simp) ?_)
  refine ifB_intro (fun h1 => ?_) (fun h1 => ?_)
  · refine fin ?_ rfl rfl rfl
    rw [hm] at h1
    simp only [Bool.cond_true_left, Bool.or_eq_true, decide_eq_true_eq, bne_iff_ne, ne_eq] at h1
    symm
    unfold BusV.can
    rw [decide_eq_false_iff_not]
    omega
  · rw [hm] at h1
    simp only [Bool.cond_true_left, Bool.or_eq_false_iff, decide_eq_false_iff_not, bne_eq_false_iff_eq] at h1
    repeat (refine need_intro (by simp) ?_)
    refine ifB_intro (fun h2 => ?_) (fun h2 => ?_)
    · refine fin ?_ rfl rfl rfl
      simp only [Bool.cond_true_left, Bool.or_eq_true, decide_eq_true_eq] at h2
      symm
      unfold BusV.can
      rw [decide_eq_false_iff_not]
      omega
    · simp only [Bool.cond_true_left, Bool.or_eq_false_iff, decide_eq_false_iff_not] at h2
      have leaf : ∀ {x : Bool}, ((x = true ↔ ((s.off = 0 ∨ s.off = 1) ∧ s.code = 0 ∨ s.off = 2 ∧ 0 ≤ s.code ∧ s.code ≤ 65535))) → x = s.can := by
        intro x hx
        rw [Bool.eq_iff_iff, hx]
        unfold BusV.can
        rw [decide_eq_true_eq]
        constructor
        · intro h; omega
        · intro h; omega
      refine ifB_intro (fun h3 => ?_) (fun h3 => ?_)
      · have h3 : s.off = 2 := by simpa using h3
        repeat (refine need_intro (by simp) ?_)
        refine fin (leaf ?_) rfl rfl rfl
        simp only [Bool.cond_false_right, Bool.and_eq_true, decide_eq_true_eq]
        omega
      · have h3 : ¬ s.off = 2 := by simpa using h3
        refine fin (leaf ?_) rfl rfl rfl
        rw [beq_iff_eq]
        omega
set_option maxRecDepth 100000 in
theorem set_spec (s z : BusV) (l : Lists) (cr ci co c3 sp3 : Nat) (hni : s.ni ≤ 140737488355328) (hno : s.no ≤ 140737488355328) :
    Does TB 75 [.s (.ptr 4 6), .agg (s.segs (.gs 0 0 s.nr cr) (.gs 1 0 s.ni ci) (.gs 2 0 s.no co))] (l.blks s ++ [bblk true s.nr l.ram sp3, .cells true (z.dev 0 (.gs 3 0 s.nr c3) .nilslice .nilslice) 0])
      (fun v h' => ∃ c5 c6, s.ni ≤ c5 ∧ s.no ≤ c6 ∧ v = .tuple [] ∧ h' = l.blks s ++ [bblk true s.nr l.ram sp3,
        .cells true ({ z with ier := s.ier, lcr := s.lcr, mcr := s.mcr, scratch := s.scratch, overrun := s.overrun }.dev 0 (.gs 3 0 s.nr c3) (.gs 5 0 s.ni c5) (.gs 6 0 s.no c6)) 0, bblk true s.ni l.inp (c5 - s.ni), bblk true s.no l.out (c6 - s.no)]) := by
  refine fnXD_does TB Try.func75 rfl (by decide) (fun O on hO => ?_)
  refine (lock_spec (b := 4) (o := 6) rfl rfl rfl).mono ?_
  rintro _ h' ⟨rfl, hh⟩
  have hh : h' = [bblk l.mr s.nr l.ram l.sr, bblk l.mi s.ni l.inp l.si, bblk l.mo s.no l.out l.so, bblk true s.nr l.ram sp3, .cells true (z.dev 1 (.gs 3 0 s.nr c3) .nilslice .nilslice) 0, .cells true (s.segs (.gs 0 0 s.nr cr) (.gs 1 0 s.ni ci) (.gs 2 0 s.no co)) 0] := hh
  subst hh
  refine ⟨⟨_, _, _, rfl⟩, fun O' on' hO' hle => ?_⟩
  refine draw_but [4] on' rfl (fun _ _ h => h) ?_
  refine Does.at (own_spec l.mi s.ni 0 s.ni ci l.si l.inp l.inp (by omega) hni (fun j _ => by rw [Nat.zero_add])) [1] rfl ⟨rfl, trivial⟩ (by decide) ?_ ?_
  · rintro v h' ⟨cap, _, _, rfl⟩
    exact ⟨.inr (.inr rfl), .inl rfl, trivial⟩
  · rintro v h' ⟨c5, hc5, rfl, rfl⟩
    repeat (refine need_intro rfl ?_)
    refine Does.at (own_spec l.mo s.no 0 s.no co l.so l.out l.out (by omega) hno (fun j _ => by rw [Nat.zero_add])) [2] rfl ⟨rfl, trivial⟩ (by decide) ?_ ?_
    · rintro v h' ⟨cap, _, _, rfl⟩
      exact ⟨.inr (.inr rfl), .inl rfl, trivial⟩
    · rintro v h' ⟨c6, hc6, rfl, rfl⟩
      repeat (refine need_intro rfl ?_)
      refine draw_but [4] on' rfl (fun _ _ h => h) ?_
      repeat (refine need_intro rfl ?_)
      refine (unlock_spec (b := 4) (o := 6) rfl rfl rfl).mono ?_
      rintro _ h' ⟨_, hh⟩
      have hh : h' = [bblk l.mr s.nr l.ram l.sr, bblk l.mi s.ni l.inp l.si, bblk l.mo s.no l.out l.so, bblk true s.nr l.ram sp3,
        .cells true ({ z with ier := s.ier, lcr := s.lcr, mcr := s.mcr, scratch := s.scratch, overrun := s.overrun }.dev 0 (.gs 3 0 s.nr c3) (.gs 6 0 s.ni c5) (.gs 7 0 s.no c6)) 0,
        .cells true (s.segs (.gs 0 0 s.nr cr) (.gs 1 0 s.ni ci) (.gs 2 0 s.no co)) 0, bblk true s.ni l.inp (c5 - s.ni), bblk true s.no l.out (c6 - s.no)] := hh
      subst hh
      exact ⟨_, _, [0, 1, 2, 3, 4, 6, 7], ⟨c5, c6, hc5, hc6, rfl, rfl⟩, by decide, ⟨rfl, rfl, rfl, rfl, rfl, trivial⟩, trivial,
        ⟨⟨_, rfl, eqvB_refl _⟩, ⟨_, rfl, eqvB_refl _⟩, ⟨_, rfl, eqvB_refl _⟩, ⟨_, rfl, eqvB_refl _⟩, ⟨_, rfl, eqvB_refl _⟩, ⟨_, rfl, eqvB_refl _⟩, ⟨_, rfl, eqvB_refl _⟩, trivial⟩⟩
/-- A bus of a state: its own lists. -/
def devAt (s : BusV) (b : Nat) (cr ci co : Nat) : Blk := .cells true (s.dev 0 (.gs b 0 s.nr cr) (.gs (b + 2) 0 s.ni ci) (.gs (b + 3) 0 s.no co)) 0
theorem from_no (s : BusV) (l : Lists) (cr ci co : Nat) (hni : s.ni < 2 ^ 62) (hno : s.no < 2 ^ 62) (hnr : s.nr < 2 ^ 62) (hc : s.can = false) :
    Does TB 36 [.agg (s.segs (.gs 0 0 s.nr cr) (.gs 1 0 s.ni ci) (.gs 2 0 s.no co))] (l.blks s) (fun v h' => v = .tuple [.s .nilptr, .s (.int .i64 31)] ∧ h' = l.blks s) := by
  refine fnX_does TB Try.func36 rfl (by decide) (fun O on hO => ?_)
  refine Does.at (can_spec s l cr ci co hni hno hnr) [0, 1, 2] rfl ⟨rfl, rfl, rfl, trivial⟩ (by decide) ?_ ?_
  · rintro v h' ⟨_, rfl⟩
    exact ⟨.inr (.inr rfl), .inr (.inr rfl), .inr (.inr rfl), trivial⟩
  · rintro v h' ⟨rfl, rfl⟩
    rw [hc]
    exact ⟨_, _, [0, 1, 2], ⟨rfl, rfl⟩, by decide, ⟨rfl, rfl, rfl, trivial⟩, eqvE_refl _, ⟨⟨_, rfl, eqvB_refl _⟩, ⟨_, rfl, eqvB_refl _⟩, ⟨_, rfl, eqvB_refl _⟩, trivial⟩⟩
theorem from_yes (s : BusV) (l : Lists) (cr ci co : Nat) (hc : s.can = true) :
    Does TB 36 [.agg (s.segs (.gs 0 0 s.nr cr) (.gs 1 0 s.ni ci) (.gs 2 0 s.no co))] (l.blks s) (fun v h' => ∃ c3 c4 c5, s.nr ≤ c3 ∧ s.ni ≤ c4 ∧ s.no ≤ c5 ∧ v = .tuple [.s (.ptr 3 0), .s (.int .i64 0)] ∧
      h' = l.blks s ++ [.cells true (s.dev 0 (.gs 4 0 s.nr c3) (.gs 5 0 s.ni c4) (.gs 6 0 s.no c5)) 0, bblk true s.nr l.ram (c3 - s.nr), bblk true s.ni l.inp (c4 - s.ni), bblk true s.no l.out (c5 - s.no)]) := by
  have hcan := hc
  unfold BusV.can at hcan
  rw [decide_eq_true_eq] at hcan
  refine fnX_does TB Try.func36 rfl (by decide) (fun O on hO => ?_)
  refine Does.at (can_spec s l cr ci co (by omega) (by omega) (by omega)) [0, 1, 2] rfl ⟨rfl, rfl, rfl, trivial⟩ (by decide) ?_ ?_
  · rintro v h' ⟨_, rfl⟩
    exact ⟨.inr (.inr rfl), .inr (.inr rfl), .inr (.inr rfl), trivial⟩
  · rintro v h' ⟨rfl, rfl⟩
    rw [hc]
    refine Does.at (own_spec l.mr s.nr 0 s.nr cr l.sr l.ram l.ram (by omega) (by omega) (fun j _ => by rw [Nat.zero_add])) [0] rfl ⟨rfl, trivial⟩ (by decide) ?_ ?_
    · rintro v h' ⟨cap, _, _, rfl⟩
      exact ⟨.inr (.inr rfl), .inl rfl, trivial⟩
    · rintro v h' ⟨c3, hc3, rfl, rfl⟩
      refine need_intro rfl ?_
      refine need_intro rfl ?_
      refine draw_but [4] on rfl (fun _ _ h => h) ?_
      refine Does.at (set_spec s { s with ier := 0#8, lcr := 0#8, mcr := 0#8, scratch := 0#8, overrun := false } l cr ci co c3 (c3 - s.nr) (by omega) (by omega)) [0, 1, 2, 5, 4] rfl ⟨rfl, rfl, rfl, rfl, rfl, trivial⟩ (by decide) ?_ ?_
      · rintro v h' ⟨c5, c6, _, _, _, rfl⟩
        exact ⟨.inr (.inr rfl), .inr (.inr rfl), .inr (.inr rfl), .inl rfl, .inl rfl, .inl rfl, .inl rfl, trivial⟩
      · rintro v h' ⟨c5, c6, hc5, hc6, rfl, rfl⟩
        repeat (refine need_intro rfl ?_)
        exact ⟨_, _, [0, 1, 2, 4, 5, 6, 7], ⟨c3, c5, c6, hc3, hc5, hc6, rfl, rfl⟩, by decide, ⟨rfl, rfl, rfl, trivial⟩, eqvE_refl _,
          ⟨⟨_, rfl, eqvB_refl _⟩, ⟨_, rfl, eqvB_refl _⟩, ⟨_, rfl, eqvB_refl _⟩, ⟨_, rfl, eqvB_refl _⟩, ⟨_, rfl, eqvB_refl _⟩, ⟨_, rfl, eqvB_refl _⟩, ⟨_, rfl, eqvB_refl _⟩, trivial⟩⟩
end Go.Proofs.Ytghcdkpgcanpgaa

/- Check of a whole: the program's and the document's. No condition: contracts of functions. -/
namespace Go.Anv
open Go
/-- A Cpu's plain values. -/
structure CpuV where
  pc : B64
  x : Nat → B64
  mode : Int
  waiting : Bool
  mstatus : B64
  mtvec : B64
  mie : B64
  mcounteren : B64
  mcountinhibit : B64
  menvcfg : B64
  mscratch : B64
  mepc : B64
  mcause : B64
  mtval : B64
  mcycle : B64
  minstret : B64
  cfg : Nat → B8
  addr : Nat → B64
  rvalid : Bool
  raddr : B64
  rsize : Int
def CpuV.segs (c : CpuV) : List Seg :=
  [.one (.int .u64 c.pc.toNat), .ints .u64 32 (wfun c.x), .one (.int .i64 c.mode), .one (.bool c.waiting), .one (.int .u64 c.mstatus.toNat), .one (.int .u64 c.mtvec.toNat), .one (.int .u64 c.mie.toNat), .one (.int .u64 c.mcounteren.toNat),
    .one (.int .u64 c.mcountinhibit.toNat), .one (.int .u64 c.menvcfg.toNat), .one (.int .u64 c.mscratch.toNat), .one (.int .u64 c.mepc.toNat), .one (.int .u64 c.mcause.toNat), .one (.int .u64 c.mtval.toNat), .one (.int .u64 c.mcycle.toNat), .one (.int .u64 c.minstret.toNat),
    .ints .u8 16 (bfun c.cfg), .ints .u64 16 (wfun c.addr), .one (.bool c.rvalid), .one (.int .u64 c.raddr.toNat), .one (.int .i64 c.rsize)]
theorem eqvS_gs {b o n c b' o' n' c' : Nat} {r r' : List Seg} (h1 : b = b' ∧ o = o' ∧ n = n' ∧ c = c') (h : eqvS r r') : eqvS (.one (.gs b o n c) :: r) (.one (.gs b' o' n' c') :: r') := ⟨h1, h⟩
/-- The cells of api.Whole. -/
def wsegs (c : CpuV) (s : BusV) (r i o : SV) : List Seg := c.segs ++ s.segs r i o
end Go.Anv
namespace Go.Proofs.Ytghcdkpgcanpgaa
open Go Go.Anv
theorem check_spec (c : CpuV) (s : BusV) (l : Lists) (cr ci co : Nat) (hni : s.ni < 2 ^ 62) (hno : s.no < 2 ^ 62) (hnr : s.nr < 2 ^ 62) :
    Does TB 13 [.agg (wsegs c s (.gs 0 0 s.nr cr) (.gs 1 0 s.ni ci) (.gs 2 0 s.no co))] (l.blks s) (fun v h' => v = .s (.int .i64 (if s.can then 0 else 162)) ∧ h' = l.blks s) := by
  refine fnX_does TB Try.func13 rfl (by decide) (fun O on hO => ?_)
  cases hc : s.can with
  | false =>
    refine Does.at (from_no s l cr ci co hni hno hnr hc) [0, 1, 2] rfl ⟨rfl, rfl, rfl, trivial⟩ (by decide) ?_ ?_
    · rintro v h' ⟨_, rfl⟩
      exact ⟨.inr (.inr rfl), .inr (.inr rfl), .inr (.inr rfl), trivial⟩
    · rintro v h' ⟨rfl, rfl⟩
      exact ⟨_, _, [0, 1, 2], ⟨rfl, rfl⟩, by decide, ⟨rfl, rfl, rfl, trivial⟩, eqvE_refl _, ⟨⟨_, rfl, eqvB_refl _⟩, ⟨_, rfl, eqvB_refl _⟩, ⟨_, rfl, eqvB_refl _⟩, trivial⟩⟩
  | true =>
    refine Does.at (from_yes s l cr ci co hc) [0, 1, 2] rfl ⟨rfl, rfl, rfl, trivial⟩ (by decide) ?_ ?_
    · rintro v h' ⟨c3, c4, c5, _, _, _, _, rfl⟩
      exact ⟨.inr (.inr rfl), .inr (.inr rfl), .inr (.inr rfl), .inl rfl, .inl rfl, .inl rfl, .inl rfl, trivial⟩
    · rintro v h' ⟨c3, c4, c5, _, _, _, rfl, rfl⟩
      exact ⟨_, _, [0, 1, 2], ⟨rfl, rfl⟩, by decide, ⟨rfl, rfl, rfl, trivial⟩, eqvE_refl _, ⟨⟨_, rfl, eqvB_refl _⟩, ⟨_, rfl, eqvB_refl _⟩, ⟨_, rfl, eqvB_refl _⟩, trivial⟩⟩
theorem rcheck_spec (c : CpuV) (s : BusV) (l : Lists) (cr ci co : Nat) (hni : s.ni < 2 ^ 62) (hno : s.no < 2 ^ 62) (hnr : s.nr < 2 ^ 62) :
    Does TB 15 [.agg (wsegs c s (.gs 0 0 s.nr cr) (.gs 1 0 s.ni ci) (.gs 2 0 s.no co))] (l.blks s) (fun v h' => v = .s (.int .i64 (if s.can then 0 else 162)) ∧ h' = l.blks s) := by
  refine fnX_does TB Try.func15 rfl (by decide) (fun O on hO => ?_)
  refine Does.at (canBe_spec s l cr ci co hni hno hnr) [0, 1, 2] rfl ⟨rfl, rfl, rfl, trivial⟩ (by decide) ?_ ?_
  · rintro v h' ⟨_, rfl⟩
    exact ⟨.inr (.inr rfl), .inr (.inr rfl), .inr (.inr rfl), trivial⟩
  · rintro v h' ⟨rfl, rfl⟩
    cases hc : s.can <;>
      exact ⟨_, _, [0, 1, 2], ⟨rfl, rfl⟩, by decide, ⟨rfl, rfl, rfl, trivial⟩, eqvE_refl _, ⟨⟨_, rfl, eqvB_refl _⟩, ⟨_, rfl, eqvB_refl _⟩, ⟨_, rfl, eqvB_refl _⟩, trivial⟩⟩
theorem num16_spec (e : Int) (h : List Blk) : Does TB 12 [.s (.int .i64 e)] h (fun v h' => v = .s (.int .i64 e) ∧ h' = h) := by
  refine fnX_pure TB Try.func12 rfl (by decide) rfl _ rfl (fun O on => ?_) h
  exact eqvE_refl _
theorem cat_zero {n : Nat} (q : Nat → B8) {f : Nat → Int} : ∀ j, j < 0 + n → catF 0 f (shf 0 (bfun q)) j = bfun q j := by
  intro j _
  unfold catF shf
  rw [if_neg (Nat.not_lt_zero j), Nat.sub_zero, Nat.zero_add]
theorem twin_spec (c : CpuV) (s : BusV) (l : Lists) (cr ci co : Nat) (hnr : s.nr ≤ 140737488355328) (hni : s.ni ≤ 140737488355328) (hno : s.no ≤ 140737488355328) :
    Does TB 14 [.agg (wsegs c s (.gs 0 0 s.nr cr) (.gs 1 0 s.ni ci) (.gs 2 0 s.no co))] (l.blks s) (fun v h' => ∃ c3 c4 c5, s.nr ≤ c3 ∧ s.ni ≤ c4 ∧ s.no ≤ c5 ∧ v = .agg (wsegs c s (.gs 3 0 s.nr c3) (.gs 4 0 s.ni c4) (.gs 5 0 s.no c5)) ∧
      h' = l.blks s ++ [bblk true s.nr l.ram (c3 - s.nr), bblk true s.ni l.inp (c4 - s.ni), bblk true s.no l.out (c5 - s.no)]) := by
  refine fnX_does TB Try.func14 rfl (by decide) (fun O on hO => ?_)
  refine need_intro ⟨by show 0 + s.nr ≤ s.nr; omega, rfl, rfl, room5 _ (by show 0 + s.nr ≤ _; omega)⟩ ?_
  intro c3 hc3
  have hc3 : 0 + s.nr ≤ c3 := hc3
  refine need_intro ⟨by show 0 + s.ni ≤ s.ni; omega, rfl, rfl, room5 _ (by show 0 + s.ni ≤ _; omega)⟩ ?_
  intro c4 hc4
  have hc4 : 0 + s.ni ≤ c4 := hc4
  refine need_intro ⟨by show 0 + s.no ≤ s.no; omega, rfl, rfl, room5 _ (by show 0 + s.no ≤ _; omega)⟩ ?_
  intro c5 hc5
  have hc5 : 0 + s.no ≤ c5 := hc5
  refine need_intro rfl ?_
  have z : ∀ n : Nat, 0 + n = n := Nat.zero_add
  rw [z] at hc3 hc4 hc5
  refine ⟨_, _, [0, 1, 2, 6, 8, 10], ⟨c3, c4, c5, hc3, hc4, hc5, rfl, rfl⟩, by decide, ⟨rfl, rfl, rfl, trivial⟩, ?_, ⟨⟨_, rfl, eqvB_refl _⟩, ⟨_, rfl, eqvB_refl _⟩, ⟨_, rfl, eqvB_refl _⟩, ⟨_, rfl, ⟨rfl, ?_, ⟨⟨rfl, z _, ?_⟩, trivial⟩⟩⟩, ⟨_, rfl, ⟨rfl, ?_, ⟨⟨rfl, z _, ?_⟩, trivial⟩⟩⟩, ⟨_, rfl, ⟨rfl, ?_, ⟨⟨rfl, z _, ?_⟩, trivial⟩⟩⟩, trivial⟩⟩
  · show eqvS _ _
    repeat' (first | exact eqvS_nil | refine eqvS_same ?_ | refine eqvS_gs ⟨rfl, rfl, z _, rfl⟩ ?_)
  · show (c3 - (0 + s.nr)) * 1 = c3 - s.nr
    rw [z, Nat.mul_one]
  · exact cat_zero l.ram
  · show (c4 - (0 + s.ni)) * 1 = c4 - s.ni
    rw [z, Nat.mul_one]
  · exact cat_zero l.inp
  · show (c5 - (0 + s.no)) * 1 = c5 - s.no
    rw [z, Nat.mul_one]
  · exact cat_zero l.out
theorem saveChecks_law (c : CpuV) (s : BusV) (l : Lists) (cr ci co : Nat) (hnr : s.nr ≤ 140737488355328) (hni : s.ni ≤ 140737488355328) (hno : s.no ≤ 140737488355328) :
    Does TB 5 [.agg (wsegs c s (.gs 0 0 s.nr cr) (.gs 1 0 s.ni ci) (.gs 2 0 s.no co))] (l.blks s) (fun v h' => v = .s (.bool true) ∧ h' = l.blks s) := by
  refine fnX_does TB Try.func5 rfl (by decide) (fun O on hO => ?_)
  refine draw_held on rfl (fun _ _ h => h) ?_
  refine Does.at (twin_spec c s l cr ci co hnr hni hno) [0, 1, 2] rfl ⟨rfl, rfl, rfl, trivial⟩ (by decide) ?_ ?_
  · rintro v h' ⟨c3, c4, c5, _, _, _, _, rfl⟩
    exact ⟨.inr (.inr rfl), .inr (.inr rfl), .inr (.inr rfl), .inl rfl, .inl rfl, .inl rfl, trivial⟩
  · rintro v h' ⟨c3, c4, c5, _, _, _, rfl, rfl⟩
    repeat (refine need_intro rfl ?_)
    refine Does.at (check_spec c s { l with mr := true, sr := c3 - s.nr, mi := true, si := c4 - s.ni, mo := true, so := c5 - s.no } c3 c4 c5 (by omega) (by omega) (by omega)) [4, 5, 6] rfl ⟨rfl, rfl, rfl, trivial⟩ (by decide) ?_ ?_
    · rintro v h' ⟨_, rfl⟩
      exact ⟨.inr (.inr rfl), .inr (.inr rfl), .inr (.inr rfl), trivial⟩
    · rintro v h' ⟨rfl, rfl⟩
      repeat (refine need_intro rfl ?_)
      refine (num16_spec _ _).mono ?_
      rintro v h' ⟨rfl, rfl⟩
      repeat (refine need_intro rfl ?_)
      refine Does.at (rcheck_spec c s l cr ci co (by omega) (by omega) (by omega)) [0, 1, 2] rfl ⟨rfl, rfl, rfl, trivial⟩ (by decide) ?_ ?_
      · rintro v h' ⟨_, rfl⟩
        exact ⟨.inr (.inr rfl), .inr (.inr rfl), .inr (.inr rfl), trivial⟩
      · rintro v h' ⟨rfl, rfl⟩
        repeat (refine need_intro rfl ?_)
        exact ⟨_, _, [0, 1, 2], ⟨rfl, rfl⟩, by decide, ⟨rfl, rfl, rfl, trivial⟩, (by show ((_ : Int) == _) = true; simp), ⟨⟨_, rfl, eqvB_refl _⟩, ⟨_, rfl, eqvB_refl _⟩, ⟨_, rfl, eqvB_refl _⟩, trivial⟩⟩
end Go.Proofs.Ytghcdkpgcanpgaa
