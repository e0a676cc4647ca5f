/- The table of types of this seat, for the engine. Printed by gen_tbl.py; every row is proved here. No condition. -/
import Derived.Test.YtghcdkpgcanpgaaE7
import Derived.Test.YtghcdkpgcanpgaaProg
import Derived.KernelRfl
namespace Go.Proofs.Ytghcdkpgcanpgaa
open Go Go.Anv
set_option maxRecDepth 100000
/-- func() -/
def ti1 : TI := { d := .other, size := 1, bytes := 8, zero := .s .nilfunc }
theorem ti1_ok : TIok Try.prog 1 ti1 := ⟨⟨_, _, _, Try.underlying1⟩, by kernel_rfl, by kernel_rfl, ⟨_, rfl, by kernel_rfl⟩⟩
/-- int64 -/
def ti2 : TI := { d := .int .i64, size := 1, bytes := 8, zero := .s (.int .i64 0) }
theorem ti2_ok : TIok Try.prog 2 ti2 := ⟨Try.underlying2, by kernel_rfl, by kernel_rfl, ⟨_, rfl, by kernel_rfl⟩⟩
/-- int -/
def ti3 : TI := { d := .int .i64, size := 1, bytes := 8, zero := .s (.int .i64 0) }
theorem ti3_ok : TIok Try.prog 3 ti3 := ⟨Try.underlying3, by kernel_rfl, by kernel_rfl, ⟨_, rfl, by kernel_rfl⟩⟩
/-- bool -/
def ti4 : TI := { d := .bool, size := 1, bytes := 1, zero := .s (.bool false) }
theorem ti4_ok : TIok Try.prog 4 ti4 := ⟨Try.underlying4, by kernel_rfl, by kernel_rfl, ⟨_, rfl, by kernel_rfl⟩⟩
/-- uint8 -/
def ti5 : TI := { d := .int .u8, size := 1, bytes := 1, zero := .s (.int .u8 0) }
theorem ti5_ok : TIok Try.prog 5 ti5 := ⟨Try.underlying5, by kernel_rfl, by kernel_rfl, ⟨_, rfl, by kernel_rfl⟩⟩
/-- abi.BoundsErrorCode -/
def ti6 : TI := { d := .int .u8, size := 1, bytes := 1, zero := .s (.int .u8 0) }
theorem ti6_ok : TIok Try.prog 6 ti6 := ⟨Try.underlying6, by kernel_rfl, by kernel_rfl, ⟨_, rfl, by kernel_rfl⟩⟩
/-- struct { x int64; y int; signed bool; code abi.BoundsErrorCode } -/
def ti7 : TI := { d := .struct [(2, 0), (3, 1), (4, 2), (6, 3)], size := 4, bytes := 24, zero := .agg [.one (.int .i64 0), .one (.int .i64 0), .one (.bool false), .one (.int .u8 0)] }
theorem ti7_ok : TIok Try.prog 7 ti7 := ⟨⟨_, Try.underlying7, by rfl⟩, by kernel_rfl, by kernel_rfl, ⟨_, rfl, by kernel_rfl⟩⟩
/-- runtime.boundsError -/
def ti8 : TI := { d := .struct [(2, 0), (3, 1), (4, 2), (6, 3)], size := 4, bytes := 24, zero := .agg [.one (.int .i64 0), .one (.int .i64 0), .one (.bool false), .one (.int .u8 0)] }
theorem ti8_ok : TIok Try.prog 8 ti8 := ⟨⟨_, Try.underlying8, by rfl⟩, by kernel_rfl, by kernel_rfl, ⟨_, rfl, by kernel_rfl⟩⟩
/-- string -/
def ti9 : TI := { d := .str, size := 1, bytes := 16, zero := .s (.str .empty) }
theorem ti9_ok : TIok Try.prog 9 ti9 := ⟨Try.underlying9, by kernel_rfl, by kernel_rfl, ⟨_, rfl, by kernel_rfl⟩⟩
/-- runtime.errorString -/
def ti10 : TI := { d := .str, size := 1, bytes := 16, zero := .s (.str .empty) }
theorem ti10_ok : TIok Try.prog 10 ti10 := ⟨Try.underlying10, by kernel_rfl, by kernel_rfl, ⟨_, rfl, by kernel_rfl⟩⟩
/-- runtime.plainError -/
def ti11 : TI := { d := .str, size := 1, bytes := 16, zero := .s (.str .empty) }
theorem ti11_ok : TIok Try.prog 11 ti11 := ⟨Try.underlying11, by kernel_rfl, by kernel_rfl, ⟨_, rfl, by kernel_rfl⟩⟩
/-- uintptr -/
def ti12 : TI := { d := .int .u64, size := 1, bytes := 8, zero := .s (.int .u64 0) }
theorem ti12_ok : TIok Try.prog 12 ti12 := ⟨Try.underlying12, by kernel_rfl, by kernel_rfl, ⟨_, rfl, by kernel_rfl⟩⟩
/-- struct { msg string; addr uintptr } -/
def ti13 : TI := { d := .struct [(9, 0), (12, 1)], size := 2, bytes := 24, zero := .agg [.one (.str .empty), .one (.int .u64 0)] }
theorem ti13_ok : TIok Try.prog 13 ti13 := ⟨⟨_, Try.underlying13, by rfl⟩, by kernel_rfl, by kernel_rfl, ⟨_, rfl, by kernel_rfl⟩⟩
/-- runtime.errorAddressString -/
def ti14 : TI := { d := .struct [(9, 0), (12, 1)], size := 2, bytes := 24, zero := .agg [.one (.str .empty), .one (.int .u64 0)] }
theorem ti14_ok : TIok Try.prog 14 ti14 := ⟨⟨_, Try.underlying14, by rfl⟩, by kernel_rfl, by kernel_rfl, ⟨_, rfl, by kernel_rfl⟩⟩
/-- *runtime.TypeAssertionError -/
def ti15 : TI := { d := .ptr 202, size := 1, bytes := 8, zero := .s .nilptr }
theorem ti15_ok : TIok Try.prog 15 ti15 := ⟨Try.underlying15, by kernel_rfl, by kernel_rfl, ⟨_, rfl, by kernel_rfl⟩⟩
/-- *runtime.PanicNilError -/
def ti16 : TI := { d := .ptr 205, size := 1, bytes := 8, zero := .s .nilptr }
theorem ti16_ok : TIok Try.prog 16 ti16 := ⟨Try.underlying16, by kernel_rfl, by kernel_rfl, ⟨_, rfl, by kernel_rfl⟩⟩
/-- *abi.Type -/
def ti17 : TI := { d := .ptr 213, size := 1, bytes := 8, zero := .s .nilptr }
theorem ti17_ok : TIok Try.prog 17 ti17 := ⟨Try.underlying17, by kernel_rfl, by kernel_rfl, ⟨_, rfl, by kernel_rfl⟩⟩
/-- struct { typ *abi.Type } -/
def ti18 : TI := { d := .struct [(17, 0)], size := 1, bytes := 8, zero := .agg [.one .nilptr] }
theorem ti18_ok : TIok Try.prog 18 ti18 := ⟨⟨_, Try.underlying18, by rfl⟩, by kernel_rfl, by kernel_rfl, ⟨_, rfl, by kernel_rfl⟩⟩
/-- maps.unhashableTypeError -/
def ti19 : TI := { d := .struct [(17, 0)], size := 1, bytes := 8, zero := .agg [.one .nilptr] }
theorem ti19_ok : TIok Try.prog 19 ti19 := ⟨⟨_, Try.underlying19, by rfl⟩, by kernel_rfl, by kernel_rfl, ⟨_, rfl, by kernel_rfl⟩⟩
/-- interface {} -/
def ti20 : TI := { d := .iface, size := 1, bytes := 16, zero := .s .niliface }
theorem ti20_ok : TIok Try.prog 20 ti20 := ⟨⟨_, Try.underlying20⟩, by kernel_rfl, by kernel_rfl, ⟨_, rfl, by kernel_rfl⟩⟩
/-- int32 -/
def ti21 : TI := { d := .int .i32, size := 1, bytes := 4, zero := .s (.int .i32 0) }
theorem ti21_ok : TIok Try.prog 21 ti21 := ⟨Try.underlying21, by kernel_rfl, by kernel_rfl, ⟨_, rfl, by kernel_rfl⟩⟩
/-- func() bool -/
def ti22 : TI := { d := .other, size := 1, bytes := 8, zero := .s .nilfunc }
theorem ti22_ok : TIok Try.prog 22 ti22 := ⟨⟨_, _, _, Try.underlying22⟩, by kernel_rfl, by kernel_rfl, ⟨_, rfl, by kernel_rfl⟩⟩
/-- []uint8 -/
def ti23 : TI := { d := .slice 5, size := 1, bytes := 24, zero := .s .nilslice }
theorem ti23_ok : TIok Try.prog 23 ti23 := ⟨Try.underlying23, by kernel_rfl, by kernel_rfl, ⟨_, rfl, by kernel_rfl⟩⟩
/-- api.Errno -/
def ti24 : TI := { d := .int .i64, size := 1, bytes := 8, zero := .s (.int .i64 0) }
theorem ti24_ok : TIok Try.prog 24 ti24 := ⟨Try.underlying24, by kernel_rfl, by kernel_rfl, ⟨_, rfl, by kernel_rfl⟩⟩
/-- func([]uint8) ([]uint8, api.Errno) -/
def ti26 : TI := { d := .other, size := 1, bytes := 8, zero := .s .nilfunc }
theorem ti26_ok : TIok Try.prog 26 ti26 := ⟨⟨_, _, _, Try.underlying26⟩, by kernel_rfl, by kernel_rfl, ⟨_, rfl, by kernel_rfl⟩⟩
/-- func([]uint8) ([]uint8, int) -/
def ti28 : TI := { d := .other, size := 1, bytes := 8, zero := .s .nilfunc }
theorem ti28_ok : TIok Try.prog 28 ti28 := ⟨⟨_, _, _, Try.underlying28⟩, by kernel_rfl, by kernel_rfl, ⟨_, rfl, by kernel_rfl⟩⟩
/-- func([]uint8) bool -/
def ti29 : TI := { d := .other, size := 1, bytes := 8, zero := .s .nilfunc }
theorem ti29_ok : TIok Try.prog 29 ti29 := ⟨⟨_, _, _, Try.underlying29⟩, by kernel_rfl, by kernel_rfl, ⟨_, rfl, by kernel_rfl⟩⟩
/-- uint64 -/
def ti30 : TI := { d := .int .u64, size := 1, bytes := 8, zero := .s (.int .u64 0) }
theorem ti30_ok : TIok Try.prog 30 ti30 := ⟨Try.underlying30, by kernel_rfl, by kernel_rfl, ⟨_, rfl, by kernel_rfl⟩⟩
/-- [32]uint64 -/
def ti31 : TI := { d := .array 32 30, size := 32, bytes := 256, zero := .agg [.ints .u64 32 (fun _ => 0)] }
theorem ti31_ok : TIok Try.prog 31 ti31 := ⟨Try.underlying31, by kernel_rfl, by kernel_rfl, ⟨_, rfl, by kernel_rfl⟩⟩
/-- [16]uint8 -/
def ti32 : TI := { d := .array 16 5, size := 16, bytes := 16, zero := .agg [.ints .u8 16 (fun _ => 0)] }
theorem ti32_ok : TIok Try.prog 32 ti32 := ⟨Try.underlying32, by kernel_rfl, by kernel_rfl, ⟨_, rfl, by kernel_rfl⟩⟩
/-- [16]uint64 -/
def ti33 : TI := { d := .array 16 30, size := 16, bytes := 128, zero := .agg [.ints .u64 16 (fun _ => 0)] }
theorem ti33_ok : TIok Try.prog 33 ti33 := ⟨Try.underlying33, by kernel_rfl, by kernel_rfl, ⟨_, rfl, by kernel_rfl⟩⟩
/-- struct { Cfg [16]uint8; Addr [16]uint64 } -/
def ti34 : TI := { d := .struct [(32, 0), (33, 16)], size := 32, bytes := 144, zero := .agg [.ints .u8 16 (fun _ => 0), .ints .u64 16 (fun _ => 0)] }
theorem ti34_ok : TIok Try.prog 34 ti34 := ⟨⟨_, Try.underlying34, by rfl⟩, by kernel_rfl, by kernel_rfl, ⟨_, rfl, by kernel_rfl⟩⟩
/-- api.Pmp -/
def ti35 : TI := { d := .struct [(32, 0), (33, 16)], size := 32, bytes := 144, zero := .agg [.ints .u8 16 (fun _ => 0), .ints .u64 16 (fun _ => 0)] }
theorem ti35_ok : TIok Try.prog 35 ti35 := ⟨⟨_, Try.underlying35, by rfl⟩, by kernel_rfl, by kernel_rfl, ⟨_, rfl, by kernel_rfl⟩⟩
/-- struct { Valid bool; Addr uint64; Size int } -/
def ti36 : TI := { d := .struct [(4, 0), (30, 1), (3, 2)], size := 3, bytes := 24, zero := .agg [.one (.bool false), .one (.int .u64 0), .one (.int .i64 0)] }
theorem ti36_ok : TIok Try.prog 36 ti36 := ⟨⟨_, Try.underlying36, by rfl⟩, by kernel_rfl, by kernel_rfl, ⟨_, rfl, by kernel_rfl⟩⟩
/-- api.Res -/
def ti37 : TI := { d := .struct [(4, 0), (30, 1), (3, 2)], size := 3, bytes := 24, zero := .agg [.one (.bool false), .one (.int .u64 0), .one (.int .i64 0)] }
theorem ti37_ok : TIok Try.prog 37 ti37 := ⟨⟨_, Try.underlying37, by rfl⟩, by kernel_rfl, by kernel_rfl, ⟨_, rfl, by kernel_rfl⟩⟩
/-- struct { Pc uint64; X [32]uint64; Mode int; Waiting bool; Mstatus uint64; Mtvec uint64; Mie uint64; Mcounteren uint64; Mcountinhibit uint64; Menvcfg uint64; Mscratch uint64; Mepc uint64; Mcause uint64; Mtval uint64; Mcycle uint64; Minstret uint64; Pmp api.Pmp; Res api.Res } -/
def ti38 : TI := { d := .struct [(30, 0), (31, 1), (3, 33), (4, 34), (30, 35), (30, 36), (30, 37), (30, 38), (30, 39), (30, 40), (30, 41), (30, 42), (30, 43), (30, 44), (30, 45), (30, 46), (35, 47), (37, 79)], size := 82, bytes := 544, zero := .agg [.one (.int .u64 0), .ints .u64 32 (fun _ => 0), .one (.int .i64 0), .one (.bool false), .one (.int .u64 0), .one (.int .u64 0), .one (.int .u64 0), .one (.int .u64 0), .one (.int .u64 0), .one (.int .u64 0), .one (.int .u64 0), .one (.int .u64 0), .one (.int .u64 0), .one (.int .u64 0), .one (.int .u64 0), .one (.int .u64 0), .ints .u8 16 (fun _ => 0), .ints .u64 16 (fun _ => 0), .one (.bool false), .one (.int .u64 0), .one (.int .i64 0)] }
theorem ti38_ok : TIok Try.prog 38 ti38 := ⟨⟨_, Try.underlying38, by rfl⟩, by kernel_rfl, by kernel_rfl, ⟨_, rfl, by kernel_rfl⟩⟩
/-- api.Cpu -/
def ti39 : TI := { d := .struct [(30, 0), (31, 1), (3, 33), (4, 34), (30, 35), (30, 36), (30, 37), (30, 38), (30, 39), (30, 40), (30, 41), (30, 42), (30, 43), (30, 44), (30, 45), (30, 46), (35, 47), (37, 79)], size := 82, bytes := 544, zero := .agg [.one (.int .u64 0), .ints .u64 32 (fun _ => 0), .one (.int .i64 0), .one (.bool false), .one (.int .u64 0), .one (.int .u64 0), .one (.int .u64 0), .one (.int .u64 0), .one (.int .u64 0), .one (.int .u64 0), .one (.int .u64 0), .one (.int .u64 0), .one (.int .u64 0), .one (.int .u64 0), .one (.int .u64 0), .one (.int .u64 0), .ints .u8 16 (fun _ => 0), .ints .u64 16 (fun _ => 0), .one (.bool false), .one (.int .u64 0), .one (.int .i64 0)] }
theorem ti39_ok : TIok Try.prog 39 ti39 := ⟨⟨_, Try.underlying39, by rfl⟩, by kernel_rfl, by kernel_rfl, ⟨_, rfl, by kernel_rfl⟩⟩
/-- uint32 -/
def ti40 : TI := { d := .int .u32, size := 1, bytes := 4, zero := .s (.int .u32 0) }
theorem ti40_ok : TIok Try.prog 40 ti40 := ⟨Try.underlying40, by kernel_rfl, by kernel_rfl, ⟨_, rfl, by kernel_rfl⟩⟩
/-- struct { Ram []uint8; Msip uint32; Mtimecmp uint64; Mtime uint64; Ext bool; Soft bool; Ier uint8; Lcr uint8; Mcr uint8; Scratch uint8; Overrun bool; Input []uint8; Output []uint8; Off int; Code int } -/
def ti41 : TI := { d := .struct [(23, 0), (40, 1), (30, 2), (30, 3), (4, 4), (4, 5), (5, 6), (5, 7), (5, 8), (5, 9), (4, 10), (23, 11), (23, 12), (3, 13), (3, 14)], size := 15, bytes := 120, zero := .agg [.one .nilslice, .one (.int .u32 0), .one (.int .u64 0), .one (.int .u64 0), .one (.bool false), .one (.bool false), .one (.int .u8 0), .one (.int .u8 0), .one (.int .u8 0), .one (.int .u8 0), .one (.bool false), .one .nilslice, .one .nilslice, .one (.int .i64 0), .one (.int .i64 0)] }
theorem ti41_ok : TIok Try.prog 41 ti41 := ⟨⟨_, Try.underlying41, by rfl⟩, by kernel_rfl, by kernel_rfl, ⟨_, rfl, by kernel_rfl⟩⟩
/-- api.Bus -/
def ti42 : TI := { d := .struct [(23, 0), (40, 1), (30, 2), (30, 3), (4, 4), (4, 5), (5, 6), (5, 7), (5, 8), (5, 9), (4, 10), (23, 11), (23, 12), (3, 13), (3, 14)], size := 15, bytes := 120, zero := .agg [.one .nilslice, .one (.int .u32 0), .one (.int .u64 0), .one (.int .u64 0), .one (.bool false), .one (.bool false), .one (.int .u8 0), .one (.int .u8 0), .one (.int .u8 0), .one (.int .u8 0), .one (.bool false), .one .nilslice, .one .nilslice, .one (.int .i64 0), .one (.int .i64 0)] }
theorem ti42_ok : TIok Try.prog 42 ti42 := ⟨⟨_, Try.underlying42, by rfl⟩, by kernel_rfl, by kernel_rfl, ⟨_, rfl, by kernel_rfl⟩⟩
/-- struct { Cpu api.Cpu; Bus api.Bus } -/
def ti43 : TI := { d := .struct [(39, 0), (42, 82)], size := 97, bytes := 664, zero := .agg [.one (.int .u64 0), .ints .u64 32 (fun _ => 0), .one (.int .i64 0), .one (.bool false), .one (.int .u64 0), .one (.int .u64 0), .one (.int .u64 0), .one (.int .u64 0), .one (.int .u64 0), .one (.int .u64 0), .one (.int .u64 0), .one (.int .u64 0), .one (.int .u64 0), .one (.int .u64 0), .one (.int .u64 0), .one (.int .u64 0), .ints .u8 16 (fun _ => 0), .ints .u64 16 (fun _ => 0), .one (.bool false), .one (.int .u64 0), .one (.int .i64 0), .one .nilslice, .one (.int .u32 0), .one (.int .u64 0), .one (.int .u64 0), .one (.bool false), .one (.bool false), .one (.int .u8 0), .one (.int .u8 0), .one (.int .u8 0), .one (.int .u8 0), .one (.bool false), .one .nilslice, .one .nilslice, .one (.int .i64 0), .one (.int .i64 0)] }
theorem ti43_ok : TIok Try.prog 43 ti43 := ⟨⟨_, Try.underlying43, by rfl⟩, by kernel_rfl, by kernel_rfl, ⟨_, rfl, by kernel_rfl⟩⟩
/-- api.Whole -/
def ti44 : TI := { d := .struct [(39, 0), (42, 82)], size := 97, bytes := 664, zero := .agg [.one (.int .u64 0), .ints .u64 32 (fun _ => 0), .one (.int .i64 0), .one (.bool false), .one (.int .u64 0), .one (.int .u64 0), .one (.int .u64 0), .one (.int .u64 0), .one (.int .u64 0), .one (.int .u64 0), .one (.int .u64 0), .one (.int .u64 0), .one (.int .u64 0), .one (.int .u64 0), .one (.int .u64 0), .one (.int .u64 0), .ints .u8 16 (fun _ => 0), .ints .u64 16 (fun _ => 0), .one (.bool false), .one (.int .u64 0), .one (.int .i64 0), .one .nilslice, .one (.int .u32 0), .one (.int .u64 0), .one (.int .u64 0), .one (.bool false), .one (.bool false), .one (.int .u8 0), .one (.int .u8 0), .one (.int .u8 0), .one (.int .u8 0), .one (.bool false), .one .nilslice, .one .nilslice, .one (.int .i64 0), .one (.int .i64 0)] }
theorem ti44_ok : TIok Try.prog 44 ti44 := ⟨⟨_, Try.underlying44, by rfl⟩, by kernel_rfl, by kernel_rfl, ⟨_, rfl, by kernel_rfl⟩⟩
/-- func(api.Errno) int -/
def ti45 : TI := { d := .other, size := 1, bytes := 8, zero := .s .nilfunc }
theorem ti45_ok : TIok Try.prog 45 ti45 := ⟨⟨_, _, _, Try.underlying45⟩, by kernel_rfl, by kernel_rfl, ⟨_, rfl, by kernel_rfl⟩⟩
/-- func(api.Whole) api.Errno -/
def ti46 : TI := { d := .other, size := 1, bytes := 8, zero := .s .nilfunc }
theorem ti46_ok : TIok Try.prog 46 ti46 := ⟨⟨_, _, _, Try.underlying46⟩, by kernel_rfl, by kernel_rfl, ⟨_, rfl, by kernel_rfl⟩⟩
/-- func(api.Whole) api.Whole -/
def ti47 : TI := { d := .other, size := 1, bytes := 8, zero := .s .nilfunc }
theorem ti47_ok : TIok Try.prog 47 ti47 := ⟨⟨_, _, _, Try.underlying47⟩, by kernel_rfl, by kernel_rfl, ⟨_, rfl, by kernel_rfl⟩⟩
/-- func(api.Whole) int -/
def ti48 : TI := { d := .other, size := 1, bytes := 8, zero := .s .nilfunc }
theorem ti48_ok : TIok Try.prog 48 ti48 := ⟨⟨_, _, _, Try.underlying48⟩, by kernel_rfl, by kernel_rfl, ⟨_, rfl, by kernel_rfl⟩⟩
/-- func(api.Whole) bool -/
def ti49 : TI := { d := .other, size := 1, bytes := 8, zero := .s .nilfunc }
theorem ti49_ok : TIok Try.prog 49 ti49 := ⟨⟨_, _, _, Try.underlying49⟩, by kernel_rfl, by kernel_rfl, ⟨_, rfl, by kernel_rfl⟩⟩
/-- func([]uint8) []uint8 -/
def ti50 : TI := { d := .other, size := 1, bytes := 8, zero := .s .nilfunc }
theorem ti50_ok : TIok Try.prog 50 ti50 := ⟨⟨_, _, _, Try.underlying50⟩, by kernel_rfl, by kernel_rfl, ⟨_, rfl, by kernel_rfl⟩⟩
/-- func(api.Whole) ([]uint8, api.Errno) -/
def ti51 : TI := { d := .other, size := 1, bytes := 8, zero := .s .nilfunc }
theorem ti51_ok : TIok Try.prog 51 ti51 := ⟨⟨_, _, _, Try.underlying51⟩, by kernel_rfl, by kernel_rfl, ⟨_, rfl, by kernel_rfl⟩⟩
/-- func(api.Whole) ([]uint8, int) -/
def ti52 : TI := { d := .other, size := 1, bytes := 8, zero := .s .nilfunc }
theorem ti52_ok : TIok Try.prog 52 ti52 := ⟨⟨_, _, _, Try.underlying52⟩, by kernel_rfl, by kernel_rfl, ⟨_, rfl, by kernel_rfl⟩⟩
/-- func([]uint8, []uint8) bool -/
def ti53 : TI := { d := .other, size := 1, bytes := 8, zero := .s .nilfunc }
theorem ti53_ok : TIok Try.prog 53 ti53 := ⟨⟨_, _, _, Try.underlying53⟩, by kernel_rfl, by kernel_rfl, ⟨_, rfl, by kernel_rfl⟩⟩
/-- func(api.Whole, api.Whole) bool -/
def ti54 : TI := { d := .other, size := 1, bytes := 8, zero := .s .nilfunc }
theorem ti54_ok : TIok Try.prog 54 ti54 := ⟨⟨_, _, _, Try.underlying54⟩, by kernel_rfl, by kernel_rfl, ⟨_, rfl, by kernel_rfl⟩⟩
/-- func([]uint8) (api.Whole, api.Errno) -/
def ti56 : TI := { d := .other, size := 1, bytes := 8, zero := .s .nilfunc }
theorem ti56_ok : TIok Try.prog 56 ti56 := ⟨⟨_, _, _, Try.underlying56⟩, by kernel_rfl, by kernel_rfl, ⟨_, rfl, by kernel_rfl⟩⟩
/-- func([]uint8) (api.Whole, int) -/
def ti58 : TI := { d := .other, size := 1, bytes := 8, zero := .s .nilfunc }
theorem ti58_ok : TIok Try.prog 58 ti58 := ⟨⟨_, _, _, Try.underlying58⟩, by kernel_rfl, by kernel_rfl, ⟨_, rfl, by kernel_rfl⟩⟩
/-- []api.Row -/
def ti59 : TI := { d := .slice 102, size := 1, bytes := 24, zero := .s .nilslice }
theorem ti59_ok : TIok Try.prog 59 ti59 := ⟨Try.underlying59, by kernel_rfl, by kernel_rfl, ⟨_, rfl, by kernel_rfl⟩⟩
/-- struct { Rows []api.Row; Cpu api.Cpu; Off int; Code int; Output []uint8 } -/
def ti60 : TI := { d := .struct [(59, 0), (39, 1), (3, 83), (3, 84), (23, 85)], size := 86, bytes := 608, zero := .agg [.one .nilslice, .one (.int .u64 0), .ints .u64 32 (fun _ => 0), .one (.int .i64 0), .one (.bool false), .one (.int .u64 0), .one (.int .u64 0), .one (.int .u64 0), .one (.int .u64 0), .one (.int .u64 0), .one (.int .u64 0), .one (.int .u64 0), .one (.int .u64 0), .one (.int .u64 0), .one (.int .u64 0), .one (.int .u64 0), .one (.int .u64 0), .ints .u8 16 (fun _ => 0), .ints .u64 16 (fun _ => 0), .one (.bool false), .one (.int .u64 0), .one (.int .i64 0), .one (.int .i64 0), .one (.int .i64 0), .one .nilslice] }
theorem ti60_ok : TIok Try.prog 60 ti60 := ⟨⟨_, Try.underlying60, by rfl⟩, by kernel_rfl, by kernel_rfl, ⟨_, rfl, by kernel_rfl⟩⟩
/-- api.Trace -/
def ti61 : TI := { d := .struct [(59, 0), (39, 1), (3, 83), (3, 84), (23, 85)], size := 86, bytes := 608, zero := .agg [.one .nilslice, .one (.int .u64 0), .ints .u64 32 (fun _ => 0), .one (.int .i64 0), .one (.bool false), .one (.int .u64 0), .one (.int .u64 0), .one (.int .u64 0), .one (.int .u64 0), .one (.int .u64 0), .one (.int .u64 0), .one (.int .u64 0), .one (.int .u64 0), .one (.int .u64 0), .one (.int .u64 0), .one (.int .u64 0), .one (.int .u64 0), .ints .u8 16 (fun _ => 0), .ints .u64 16 (fun _ => 0), .one (.bool false), .one (.int .u64 0), .one (.int .i64 0), .one (.int .i64 0), .one (.int .i64 0), .one .nilslice] }
theorem ti61_ok : TIok Try.prog 61 ti61 := ⟨⟨_, Try.underlying61, by rfl⟩, by kernel_rfl, by kernel_rfl, ⟨_, rfl, by kernel_rfl⟩⟩
/-- func(api.Trace) api.Trace -/
def ti62 : TI := { d := .other, size := 1, bytes := 8, zero := .s .nilfunc }
theorem ti62_ok : TIok Try.prog 62 ti62 := ⟨⟨_, _, _, Try.underlying62⟩, by kernel_rfl, by kernel_rfl, ⟨_, rfl, by kernel_rfl⟩⟩
/-- func(api.Trace) (int, int) -/
def ti64 : TI := { d := .other, size := 1, bytes := 8, zero := .s .nilfunc }
theorem ti64_ok : TIok Try.prog 64 ti64 := ⟨⟨_, _, _, Try.underlying64⟩, by kernel_rfl, by kernel_rfl, ⟨_, rfl, by kernel_rfl⟩⟩
/-- func(api.Trace, api.Trace) bool -/
def ti65 : TI := { d := .other, size := 1, bytes := 8, zero := .s .nilfunc }
theorem ti65_ok : TIok Try.prog 65 ti65 := ⟨⟨_, _, _, Try.underlying65⟩, by kernel_rfl, by kernel_rfl, ⟨_, rfl, by kernel_rfl⟩⟩
/-- func(api.Trace) bool -/
def ti66 : TI := { d := .other, size := 1, bytes := 8, zero := .s .nilfunc }
theorem ti66_ok : TIok Try.prog 66 ti66 := ⟨⟨_, _, _, Try.underlying66⟩, by kernel_rfl, by kernel_rfl, ⟨_, rfl, by kernel_rfl⟩⟩
/-- func([]uint8, uint8) int -/
def ti67 : TI := { d := .other, size := 1, bytes := 8, zero := .s .nilfunc }
theorem ti67_ok : TIok Try.prog 67 ti67 := ⟨⟨_, _, _, Try.underlying67⟩, by kernel_rfl, by kernel_rfl, ⟨_, rfl, by kernel_rfl⟩⟩
/-- func([]uint8) uint8 -/
def ti68 : TI := { d := .other, size := 1, bytes := 8, zero := .s .nilfunc }
theorem ti68_ok : TIok Try.prog 68 ti68 := ⟨⟨_, _, _, Try.underlying68⟩, by kernel_rfl, by kernel_rfl, ⟨_, rfl, by kernel_rfl⟩⟩
/-- uint -/
def ti69 : TI := { d := .int .u64, size := 1, bytes := 8, zero := .s (.int .u64 0) }
theorem ti69_ok : TIok Try.prog 69 ti69 := ⟨Try.underlying69, by kernel_rfl, by kernel_rfl, ⟨_, rfl, by kernel_rfl⟩⟩
/-- *bus.Bus -/
def ti70 : TI := { d := .ptr 132, size := 1, bytes := 8, zero := .s .nilptr }
theorem ti70_ok : TIok Try.prog 70 ti70 := ⟨Try.underlying70, by kernel_rfl, by kernel_rfl, ⟨_, rfl, by kernel_rfl⟩⟩
/-- func(api.Bus) (*bus.Bus, api.Errno) -/
def ti72 : TI := { d := .other, size := 1, bytes := 8, zero := .s .nilfunc }
theorem ti72_ok : TIok Try.prog 72 ti72 := ⟨⟨_, _, _, Try.underlying72⟩, by kernel_rfl, by kernel_rfl, ⟨_, rfl, by kernel_rfl⟩⟩
/-- func(api.Bus) bool -/
def ti73 : TI := { d := .other, size := 1, bytes := 8, zero := .s .nilfunc }
theorem ti73_ok : TIok Try.prog 73 ti73 := ⟨⟨_, _, _, Try.underlying73⟩, by kernel_rfl, by kernel_rfl, ⟨_, rfl, by kernel_rfl⟩⟩
/-- func(api.Cpu) api.Cpu -/
def ti74 : TI := { d := .other, size := 1, bytes := 8, zero := .s .nilfunc }
theorem ti74_ok : TIok Try.prog 74 ti74 := ⟨⟨_, _, _, Try.underlying74⟩, by kernel_rfl, by kernel_rfl, ⟨_, rfl, by kernel_rfl⟩⟩
/-- *save.writer -/
def ti75 : TI := { d := .ptr 77, size := 1, bytes := 8, zero := .s .nilptr }
theorem ti75_ok : TIok Try.prog 75 ti75 := ⟨Try.underlying75, by kernel_rfl, by kernel_rfl, ⟨_, rfl, by kernel_rfl⟩⟩
/-- struct { b []uint8 } -/
def ti76 : TI := { d := .struct [(23, 0)], size := 1, bytes := 24, zero := .agg [.one .nilslice] }
theorem ti76_ok : TIok Try.prog 76 ti76 := ⟨⟨_, Try.underlying76, by rfl⟩, by kernel_rfl, by kernel_rfl, ⟨_, rfl, by kernel_rfl⟩⟩
/-- save.writer -/
def ti77 : TI := { d := .struct [(23, 0)], size := 1, bytes := 24, zero := .agg [.one .nilslice] }
theorem ti77_ok : TIok Try.prog 77 ti77 := ⟨⟨_, Try.underlying77, by rfl⟩, by kernel_rfl, by kernel_rfl, ⟨_, rfl, by kernel_rfl⟩⟩
/-- func([]uint8) -/
def ti78 : TI := { d := .other, size := 1, bytes := 8, zero := .s .nilfunc }
theorem ti78_ok : TIok Try.prog 78 ti78 := ⟨⟨_, _, _, Try.underlying78⟩, by kernel_rfl, by kernel_rfl, ⟨_, rfl, by kernel_rfl⟩⟩
/-- func(save.line, *api.Whole) -/
def ti79 : TI := { d := .other, size := 1, bytes := 8, zero := .s .nilfunc }
theorem ti79_ok : TIok Try.prog 79 ti79 := ⟨⟨_, _, _, Try.underlying79⟩, by kernel_rfl, by kernel_rfl, ⟨_, rfl, by kernel_rfl⟩⟩
/-- *api.Whole -/
def ti80 : TI := { d := .ptr 44, size := 1, bytes := 8, zero := .s .nilptr }
theorem ti80_ok : TIok Try.prog 80 ti80 := ⟨Try.underlying80, by kernel_rfl, by kernel_rfl, ⟨_, rfl, by kernel_rfl⟩⟩
/-- func(uint64, int) -/
def ti81 : TI := { d := .other, size := 1, bytes := 8, zero := .s .nilfunc }
theorem ti81_ok : TIok Try.prog 81 ti81 := ⟨⟨_, _, _, Try.underlying81⟩, by kernel_rfl, by kernel_rfl, ⟨_, rfl, by kernel_rfl⟩⟩
/-- func([]uint8) uint32 -/
def ti82 : TI := { d := .other, size := 1, bytes := 8, zero := .s .nilfunc }
theorem ti82_ok : TIok Try.prog 82 ti82 := ⟨⟨_, _, _, Try.underlying82⟩, by kernel_rfl, by kernel_rfl, ⟨_, rfl, by kernel_rfl⟩⟩
/-- func() []uint8 -/
def ti83 : TI := { d := .other, size := 1, bytes := 8, zero := .s .nilfunc }
theorem ti83_ok : TIok Try.prog 83 ti83 := ⟨⟨_, _, _, Try.underlying83⟩, by kernel_rfl, by kernel_rfl, ⟨_, rfl, by kernel_rfl⟩⟩
/-- func([]uint8, api.Cpu) []uint8 -/
def ti84 : TI := { d := .other, size := 1, bytes := 8, zero := .s .nilfunc }
theorem ti84_ok : TIok Try.prog 84 ti84 := ⟨⟨_, _, _, Try.underlying84⟩, by kernel_rfl, by kernel_rfl, ⟨_, rfl, by kernel_rfl⟩⟩
/-- func([]uint8, api.Bus) []uint8 -/
def ti85 : TI := { d := .other, size := 1, bytes := 8, zero := .s .nilfunc }
theorem ti85_ok : TIok Try.prog 85 ti85 := ⟨⟨_, _, _, Try.underlying85⟩, by kernel_rfl, by kernel_rfl, ⟨_, rfl, by kernel_rfl⟩⟩
/-- func([]uint8, []uint8) []uint8 -/
def ti86 : TI := { d := .other, size := 1, bytes := 8, zero := .s .nilfunc }
theorem ti86_ok : TIok Try.prog 86 ti86 := ⟨⟨_, _, _, Try.underlying86⟩, by kernel_rfl, by kernel_rfl, ⟨_, rfl, by kernel_rfl⟩⟩
/-- func([]uint8, uint64, int) []uint8 -/
def ti87 : TI := { d := .other, size := 1, bytes := 8, zero := .s .nilfunc }
theorem ti87_ok : TIok Try.prog 87 ti87 := ⟨⟨_, _, _, Try.underlying87⟩, by kernel_rfl, by kernel_rfl, ⟨_, rfl, by kernel_rfl⟩⟩
/-- func(api.Bus, api.Bus) bool -/
def ti88 : TI := { d := .other, size := 1, bytes := 8, zero := .s .nilfunc }
theorem ti88_ok : TIok Try.prog 88 ti88 := ⟨⟨_, _, _, Try.underlying88⟩, by kernel_rfl, by kernel_rfl, ⟨_, rfl, by kernel_rfl⟩⟩
/-- *save.reader -/
def ti89 : TI := { d := .ptr 91, size := 1, bytes := 8, zero := .s .nilptr }
theorem ti89_ok : TIok Try.prog 89 ti89 := ⟨Try.underlying89, by kernel_rfl, by kernel_rfl, ⟨_, rfl, by kernel_rfl⟩⟩
/-- struct { b []uint8; bad bool } -/
def ti90 : TI := { d := .struct [(23, 0), (4, 1)], size := 2, bytes := 32, zero := .agg [.one .nilslice, .one (.bool false)] }
theorem ti90_ok : TIok Try.prog 90 ti90 := ⟨⟨_, Try.underlying90, by rfl⟩, by kernel_rfl, by kernel_rfl, ⟨_, rfl, by kernel_rfl⟩⟩
/-- save.reader -/
def ti91 : TI := { d := .struct [(23, 0), (4, 1)], size := 2, bytes := 32, zero := .agg [.one .nilslice, .one (.bool false)] }
theorem ti91_ok : TIok Try.prog 91 ti91 := ⟨⟨_, Try.underlying91, by rfl⟩, by kernel_rfl, by kernel_rfl, ⟨_, rfl, by kernel_rfl⟩⟩
/-- func(int) uint64 -/
def ti92 : TI := { d := .other, size := 1, bytes := 8, zero := .s .nilfunc }
theorem ti92_ok : TIok Try.prog 92 ti92 := ⟨⟨_, _, _, Try.underlying92⟩, by kernel_rfl, by kernel_rfl, ⟨_, rfl, by kernel_rfl⟩⟩
/-- *anvilref16.Reader -/
def ti93 : TI := { d := .ptr 95, size := 1, bytes := 8, zero := .s .nilptr }
theorem ti93_ok : TIok Try.prog 93 ti93 := ⟨Try.underlying93, by kernel_rfl, by kernel_rfl, ⟨_, rfl, by kernel_rfl⟩⟩
/-- struct { B []uint8; At int; Bad bool } -/
def ti94 : TI := { d := .struct [(23, 0), (3, 1), (4, 2)], size := 3, bytes := 40, zero := .agg [.one .nilslice, .one (.int .i64 0), .one (.bool false)] }
theorem ti94_ok : TIok Try.prog 94 ti94 := ⟨⟨_, Try.underlying94, by rfl⟩, by kernel_rfl, by kernel_rfl, ⟨_, rfl, by kernel_rfl⟩⟩
/-- anvilref16.Reader -/
def ti95 : TI := { d := .struct [(23, 0), (3, 1), (4, 2)], size := 3, bytes := 40, zero := .agg [.one .nilslice, .one (.int .i64 0), .one (.bool false)] }
theorem ti95_ok : TIok Try.prog 95 ti95 := ⟨⟨_, Try.underlying95, by rfl⟩, by kernel_rfl, by kernel_rfl, ⟨_, rfl, by kernel_rfl⟩⟩
/-- func() api.Cpu -/
def ti96 : TI := { d := .other, size := 1, bytes := 8, zero := .s .nilfunc }
theorem ti96_ok : TIok Try.prog 96 ti96 := ⟨⟨_, _, _, Try.underlying96⟩, by kernel_rfl, by kernel_rfl, ⟨_, rfl, by kernel_rfl⟩⟩
/-- func() api.Bus -/
def ti97 : TI := { d := .other, size := 1, bytes := 8, zero := .s .nilfunc }
theorem ti97_ok : TIok Try.prog 97 ti97 := ⟨⟨_, _, _, Try.underlying97⟩, by kernel_rfl, by kernel_rfl, ⟨_, rfl, by kernel_rfl⟩⟩
/-- func(api.Bus) api.Bus -/
def ti98 : TI := { d := .other, size := 1, bytes := 8, zero := .s .nilfunc }
theorem ti98_ok : TIok Try.prog 98 ti98 := ⟨⟨_, _, _, Try.underlying98⟩, by kernel_rfl, by kernel_rfl, ⟨_, rfl, by kernel_rfl⟩⟩
/-- func(api.Pmp, uint64, int) bool -/
def ti99 : TI := { d := .other, size := 1, bytes := 8, zero := .s .nilfunc }
theorem ti99_ok : TIok Try.prog 99 ti99 := ⟨⟨_, _, _, Try.underlying99⟩, by kernel_rfl, by kernel_rfl, ⟨_, rfl, by kernel_rfl⟩⟩
/-- func() api.Whole -/
def ti100 : TI := { d := .other, size := 1, bytes := 8, zero := .s .nilfunc }
theorem ti100_ok : TIok Try.prog 100 ti100 := ⟨⟨_, _, _, Try.underlying100⟩, by kernel_rfl, by kernel_rfl, ⟨_, rfl, by kernel_rfl⟩⟩
/-- struct { Step int; Kind int; Mode int; Pc uint64; Raw uint32; Len int; Cause uint64; Tval uint64; Rd int; Val uint64; Mem int; Addr uint64; Size int; Data uint64; Next uint64; NextMode int } -/
def ti101 : TI := { d := .struct [(3, 0), (3, 1), (3, 2), (30, 3), (40, 4), (3, 5), (30, 6), (30, 7), (3, 8), (30, 9), (3, 10), (30, 11), (3, 12), (30, 13), (30, 14), (3, 15)], size := 16, bytes := 128, zero := .agg [.one (.int .i64 0), .one (.int .i64 0), .one (.int .i64 0), .one (.int .u64 0), .one (.int .u32 0), .one (.int .i64 0), .one (.int .u64 0), .one (.int .u64 0), .one (.int .i64 0), .one (.int .u64 0), .one (.int .i64 0), .one (.int .u64 0), .one (.int .i64 0), .one (.int .u64 0), .one (.int .u64 0), .one (.int .i64 0)] }
theorem ti101_ok : TIok Try.prog 101 ti101 := ⟨⟨_, Try.underlying101, by rfl⟩, by kernel_rfl, by kernel_rfl, ⟨_, rfl, by kernel_rfl⟩⟩
/-- api.Row -/
def ti102 : TI := { d := .struct [(3, 0), (3, 1), (3, 2), (30, 3), (40, 4), (3, 5), (30, 6), (30, 7), (3, 8), (30, 9), (3, 10), (30, 11), (3, 12), (30, 13), (30, 14), (3, 15)], size := 16, bytes := 128, zero := .agg [.one (.int .i64 0), .one (.int .i64 0), .one (.int .i64 0), .one (.int .u64 0), .one (.int .u32 0), .one (.int .i64 0), .one (.int .u64 0), .one (.int .u64 0), .one (.int .i64 0), .one (.int .u64 0), .one (.int .i64 0), .one (.int .u64 0), .one (.int .i64 0), .one (.int .u64 0), .one (.int .u64 0), .one (.int .i64 0)] }
theorem ti102_ok : TIok Try.prog 102 ti102 := ⟨⟨_, Try.underlying102, by rfl⟩, by kernel_rfl, by kernel_rfl, ⟨_, rfl, by kernel_rfl⟩⟩
/-- func(api.Whole, api.Whole, api.World, api.Row) int -/
def ti103 : TI := { d := .other, size := 1, bytes := 8, zero := .s .nilfunc }
theorem ti103_ok : TIok Try.prog 103 ti103 := ⟨⟨_, _, _, Try.underlying103⟩, by kernel_rfl, by kernel_rfl, ⟨_, rfl, by kernel_rfl⟩⟩
/-- struct { Tick bool; Ext bool; Soft bool; Input []uint8 } -/
def ti104 : TI := { d := .struct [(4, 0), (4, 1), (4, 2), (23, 3)], size := 4, bytes := 32, zero := .agg [.one (.bool false), .one (.bool false), .one (.bool false), .one .nilslice] }
theorem ti104_ok : TIok Try.prog 104 ti104 := ⟨⟨_, Try.underlying104, by rfl⟩, by kernel_rfl, by kernel_rfl, ⟨_, rfl, by kernel_rfl⟩⟩
/-- api.World -/
def ti105 : TI := { d := .struct [(4, 0), (4, 1), (4, 2), (23, 3)], size := 4, bytes := 32, zero := .agg [.one (.bool false), .one (.bool false), .one (.bool false), .one .nilslice] }
theorem ti105_ok : TIok Try.prog 105 ti105 := ⟨⟨_, Try.underlying105, by rfl⟩, by kernel_rfl, by kernel_rfl, ⟨_, rfl, by kernel_rfl⟩⟩
/-- *watch.walk -/
def ti106 : TI := { d := .ptr 109, size := 1, bytes := 8, zero := .s .nilptr }
theorem ti106_ok : TIok Try.prog 106 ti106 := ⟨Try.underlying106, by kernel_rfl, by kernel_rfl, ⟨_, rfl, by kernel_rfl⟩⟩
/-- map[int]int -/
def ti107 : TI := { d := .map 3 3, size := 1, bytes := 8, zero := .s .nilmap }
theorem ti107_ok : TIok Try.prog 107 ti107 := ⟨Try.underlying107, by kernel_rfl, by kernel_rfl, ⟨_, rfl, by kernel_rfl⟩⟩
/-- struct { t api.Trace; seen map[int]int } -/
def ti108 : TI := { d := .struct [(61, 0), (107, 86)], size := 87, bytes := 616, zero := .agg [.one .nilslice, .one (.int .u64 0), .ints .u64 32 (fun _ => 0), .one (.int .i64 0), .one (.bool false), .one (.int .u64 0), .one (.int .u64 0), .one (.int .u64 0), .one (.int .u64 0), .one (.int .u64 0), .one (.int .u64 0), .one (.int .u64 0), .one (.int .u64 0), .one (.int .u64 0), .one (.int .u64 0), .one (.int .u64 0), .one (.int .u64 0), .ints .u8 16 (fun _ => 0), .ints .u64 16 (fun _ => 0), .one (.bool false), .one (.int .u64 0), .one (.int .i64 0), .one (.int .i64 0), .one (.int .i64 0), .one .nilslice, .one .nilmap] }
theorem ti108_ok : TIok Try.prog 108 ti108 := ⟨⟨_, Try.underlying108, by rfl⟩, by kernel_rfl, by kernel_rfl, ⟨_, rfl, by kernel_rfl⟩⟩
/-- watch.walk -/
def ti109 : TI := { d := .struct [(61, 0), (107, 86)], size := 87, bytes := 616, zero := .agg [.one .nilslice, .one (.int .u64 0), .ints .u64 32 (fun _ => 0), .one (.int .i64 0), .one (.bool false), .one (.int .u64 0), .one (.int .u64 0), .one (.int .u64 0), .one (.int .u64 0), .one (.int .u64 0), .one (.int .u64 0), .one (.int .u64 0), .one (.int .u64 0), .one (.int .u64 0), .one (.int .u64 0), .one (.int .u64 0), .one (.int .u64 0), .ints .u8 16 (fun _ => 0), .ints .u64 16 (fun _ => 0), .one (.bool false), .one (.int .u64 0), .one (.int .i64 0), .one (.int .i64 0), .one (.int .i64 0), .one .nilslice, .one .nilmap] }
theorem ti109_ok : TIok Try.prog 109 ti109 := ⟨⟨_, Try.underlying109, by rfl⟩, by kernel_rfl, by kernel_rfl, ⟨_, rfl, by kernel_rfl⟩⟩
/-- func(int, bool) -/
def ti110 : TI := { d := .other, size := 1, bytes := 8, zero := .s .nilfunc }
theorem ti110_ok : TIok Try.prog 110 ti110 := ⟨⟨_, _, _, Try.underlying110⟩, by kernel_rfl, by kernel_rfl, ⟨_, rfl, by kernel_rfl⟩⟩
/-- func(int, int) -/
def ti111 : TI := { d := .other, size := 1, bytes := 8, zero := .s .nilfunc }
theorem ti111_ok : TIok Try.prog 111 ti111 := ⟨⟨_, _, _, Try.underlying111⟩, by kernel_rfl, by kernel_rfl, ⟨_, rfl, by kernel_rfl⟩⟩
/-- func(api.Trace, int, int) bool -/
def ti113 : TI := { d := .other, size := 1, bytes := 8, zero := .s .nilfunc }
theorem ti113_ok : TIok Try.prog 113 ti113 := ⟨⟨_, _, _, Try.underlying113⟩, by kernel_rfl, by kernel_rfl, ⟨_, rfl, by kernel_rfl⟩⟩
/-- func(uint8) bool -/
def ti114 : TI := { d := .other, size := 1, bytes := 8, zero := .s .nilfunc }
theorem ti114_ok : TIok Try.prog 114 ti114 := ⟨⟨_, _, _, Try.underlying114⟩, by kernel_rfl, by kernel_rfl, ⟨_, rfl, by kernel_rfl⟩⟩
/-- func(uint64, int) string -/
def ti115 : TI := { d := .other, size := 1, bytes := 8, zero := .s .nilfunc }
theorem ti115_ok : TIok Try.prog 115 ti115 := ⟨⟨_, _, _, Try.underlying115⟩, by kernel_rfl, by kernel_rfl, ⟨_, rfl, by kernel_rfl⟩⟩
/-- func([]uint8) int -/
def ti116 : TI := { d := .other, size := 1, bytes := 8, zero := .s .nilfunc }
theorem ti116_ok : TIok Try.prog 116 ti116 := ⟨⟨_, _, _, Try.underlying116⟩, by kernel_rfl, by kernel_rfl, ⟨_, rfl, by kernel_rfl⟩⟩
/-- struct { bytes []uint8 } -/
def ti117 : TI := { d := .struct [(23, 0)], size := 1, bytes := 24, zero := .agg [.one .nilslice] }
theorem ti117_ok : TIok Try.prog 117 ti117 := ⟨⟨_, Try.underlying117, by rfl⟩, by kernel_rfl, by kernel_rfl, ⟨_, rfl, by kernel_rfl⟩⟩
/-- bus.ram -/
def ti118 : TI := { d := .struct [(23, 0)], size := 1, bytes := 24, zero := .agg [.one .nilslice] }
theorem ti118_ok : TIok Try.prog 118 ti118 := ⟨⟨_, Try.underlying118, by rfl⟩, by kernel_rfl, by kernel_rfl, ⟨_, rfl, by kernel_rfl⟩⟩
/-- struct { off int; code int } -/
def ti119 : TI := { d := .struct [(3, 0), (3, 1)], size := 2, bytes := 16, zero := .agg [.one (.int .i64 0), .one (.int .i64 0)] }
theorem ti119_ok : TIok Try.prog 119 ti119 := ⟨⟨_, Try.underlying119, by rfl⟩, by kernel_rfl, by kernel_rfl, ⟨_, rfl, by kernel_rfl⟩⟩
/-- bus.finisher -/
def ti120 : TI := { d := .struct [(3, 0), (3, 1)], size := 2, bytes := 16, zero := .agg [.one (.int .i64 0), .one (.int .i64 0)] }
theorem ti120_ok : TIok Try.prog 120 ti120 := ⟨⟨_, Try.underlying120, by rfl⟩, by kernel_rfl, by kernel_rfl, ⟨_, rfl, by kernel_rfl⟩⟩
/-- struct { msip uint32; cmp uint64; now uint64 } -/
def ti121 : TI := { d := .struct [(40, 0), (30, 1), (30, 2)], size := 3, bytes := 24, zero := .agg [.one (.int .u32 0), .one (.int .u64 0), .one (.int .u64 0)] }
theorem ti121_ok : TIok Try.prog 121 ti121 := ⟨⟨_, Try.underlying121, by rfl⟩, by kernel_rfl, by kernel_rfl, ⟨_, rfl, by kernel_rfl⟩⟩
/-- bus.clint -/
def ti122 : TI := { d := .struct [(40, 0), (30, 1), (30, 2)], size := 3, bytes := 24, zero := .agg [.one (.int .u32 0), .one (.int .u64 0), .one (.int .u64 0)] }
theorem ti122_ok : TIok Try.prog 122 ti122 := ⟨⟨_, Try.underlying122, by rfl⟩, by kernel_rfl, by kernel_rfl, ⟨_, rfl, by kernel_rfl⟩⟩
/-- struct { state int32; sema uint32 } -/
def ti125 : TI := { d := .struct [(21, 0), (40, 1)], size := 2, bytes := 8, zero := .agg [.one (.int .i32 0), .one (.int .u32 0)] }
theorem ti125_ok : TIok Try.prog 125 ti125 := ⟨⟨_, Try.underlying125, by rfl⟩, by kernel_rfl, by kernel_rfl, ⟨_, rfl, by kernel_rfl⟩⟩
/-- sync.Mutex -/
def ti126 : TI := { d := .struct [(21, 0), (40, 1)], size := 2, bytes := 8, zero := .agg [.one (.int .i32 0), .one (.int .u32 0)] }
theorem ti126_ok : TIok Try.prog 126 ti126 := ⟨⟨_, Try.underlying126, by rfl⟩, by kernel_rfl, by kernel_rfl, ⟨_, rfl, by kernel_rfl⟩⟩
/-- struct { _ sync.noCopy; mu sync.Mutex } -/
def ti127 : TI := { d := .struct [(124, 0), (126, 0)], size := 2, bytes := 8, zero := .agg [.one (.int .i32 0), .one (.int .u32 0)] }
theorem ti127_ok : TIok Try.prog 127 ti127 := ⟨⟨_, Try.underlying127, by rfl⟩, by kernel_rfl, by kernel_rfl, ⟨_, rfl, by kernel_rfl⟩⟩
/-- sync.Mutex -/
def ti128 : TI := { d := .struct [(124, 0), (126, 0)], size := 2, bytes := 8, zero := .agg [.one (.int .i32 0), .one (.int .u32 0)] }
theorem ti128_ok : TIok Try.prog 128 ti128 := ⟨⟨_, Try.underlying128, by rfl⟩, by kernel_rfl, by kernel_rfl, ⟨_, rfl, by kernel_rfl⟩⟩
/-- struct { lock sync.Mutex; input []uint8; output []uint8; ier uint8; lcr uint8; mcr uint8; scratch uint8; overrun bool } -/
def ti129 : TI := { d := .struct [(128, 0), (23, 2), (23, 3), (5, 4), (5, 5), (5, 6), (5, 7), (4, 8)], size := 9, bytes := 64, zero := .agg [.one (.int .i32 0), .one (.int .u32 0), .one .nilslice, .one .nilslice, .one (.int .u8 0), .one (.int .u8 0), .one (.int .u8 0), .one (.int .u8 0), .one (.bool false)] }
theorem ti129_ok : TIok Try.prog 129 ti129 := ⟨⟨_, Try.underlying129, by rfl⟩, by kernel_rfl, by kernel_rfl, ⟨_, rfl, by kernel_rfl⟩⟩
/-- bus.uart -/
def ti130 : TI := { d := .struct [(128, 0), (23, 2), (23, 3), (5, 4), (5, 5), (5, 6), (5, 7), (4, 8)], size := 9, bytes := 64, zero := .agg [.one (.int .i32 0), .one (.int .u32 0), .one .nilslice, .one .nilslice, .one (.int .u8 0), .one (.int .u8 0), .one (.int .u8 0), .one (.int .u8 0), .one (.bool false)] }
theorem ti130_ok : TIok Try.prog 130 ti130 := ⟨⟨_, Try.underlying130, by rfl⟩, by kernel_rfl, by kernel_rfl, ⟨_, rfl, by kernel_rfl⟩⟩
/-- struct { ram bus.ram; power bus.finisher; timer bus.clint; line bus.uart; ext bool; soft bool } -/
def ti131 : TI := { d := .struct [(118, 0), (120, 1), (122, 3), (130, 6), (4, 15), (4, 16)], size := 17, bytes := 136, zero := .agg [.one .nilslice, .one (.int .i64 0), .one (.int .i64 0), .one (.int .u32 0), .one (.int .u64 0), .one (.int .u64 0), .one (.int .i32 0), .one (.int .u32 0), .one .nilslice, .one .nilslice, .one (.int .u8 0), .one (.int .u8 0), .one (.int .u8 0), .one (.int .u8 0), .one (.bool false), .one (.bool false), .one (.bool false)] }
theorem ti131_ok : TIok Try.prog 131 ti131 := ⟨⟨_, Try.underlying131, by rfl⟩, by kernel_rfl, by kernel_rfl, ⟨_, rfl, by kernel_rfl⟩⟩
/-- bus.Bus -/
def ti132 : TI := { d := .struct [(118, 0), (120, 1), (122, 3), (130, 6), (4, 15), (4, 16)], size := 17, bytes := 136, zero := .agg [.one .nilslice, .one (.int .i64 0), .one (.int .i64 0), .one (.int .u32 0), .one (.int .u64 0), .one (.int .u64 0), .one (.int .i32 0), .one (.int .u32 0), .one .nilslice, .one .nilslice, .one (.int .u8 0), .one (.int .u8 0), .one (.int .u8 0), .one (.int .u8 0), .one (.bool false), .one (.bool false), .one (.bool false)] }
theorem ti132_ok : TIok Try.prog 132 ti132 := ⟨⟨_, Try.underlying132, by rfl⟩, by kernel_rfl, by kernel_rfl, ⟨_, rfl, by kernel_rfl⟩⟩
/-- func(api.Bus) -/
def ti133 : TI := { d := .other, size := 1, bytes := 8, zero := .s .nilfunc }
theorem ti133_ok : TIok Try.prog 133 ti133 := ⟨⟨_, _, _, Try.underlying133⟩, by kernel_rfl, by kernel_rfl, ⟨_, rfl, by kernel_rfl⟩⟩
/-- func(api.Pmp) api.Pmp -/
def ti134 : TI := { d := .other, size := 1, bytes := 8, zero := .s .nilfunc }
theorem ti134_ok : TIok Try.prog 134 ti134 := ⟨⟨_, _, _, Try.underlying134⟩, by kernel_rfl, by kernel_rfl, ⟨_, rfl, by kernel_rfl⟩⟩
/-- func(api.Res) api.Res -/
def ti135 : TI := { d := .other, size := 1, bytes := 8, zero := .s .nilfunc }
theorem ti135_ok : TIok Try.prog 135 ti135 := ⟨⟨_, _, _, Try.underlying135⟩, by kernel_rfl, by kernel_rfl, ⟨_, rfl, by kernel_rfl⟩⟩
/-- interface { save.double(*uint64); save.flag(*bool); save.list(*[]uint8, int, int); save.octet(*uint8); save.place(*int, int); save.word(*uint32) } -/
def ti136 : TI := { d := .iface, size := 1, bytes := 16, zero := .s .niliface }
theorem ti136_ok : TIok Try.prog 136 ti136 := ⟨⟨_, Try.underlying136⟩, by kernel_rfl, by kernel_rfl, ⟨_, rfl, by kernel_rfl⟩⟩
/-- save.line -/
def ti137 : TI := { d := .iface, size := 1, bytes := 16, zero := .s .niliface }
theorem ti137_ok : TIok Try.prog 137 ti137 := ⟨⟨_, Try.underlying137⟩, by kernel_rfl, by kernel_rfl, ⟨_, rfl, by kernel_rfl⟩⟩
/-- *api.Cpu -/
def ti138 : TI := { d := .ptr 39, size := 1, bytes := 8, zero := .s .nilptr }
theorem ti138_ok : TIok Try.prog 138 ti138 := ⟨Try.underlying138, by kernel_rfl, by kernel_rfl, ⟨_, rfl, by kernel_rfl⟩⟩
/-- func(*uint64) -/
def ti139 : TI := { d := .other, size := 1, bytes := 8, zero := .s .nilfunc }
theorem ti139_ok : TIok Try.prog 139 ti139 := ⟨⟨_, _, _, Try.underlying139⟩, by kernel_rfl, by kernel_rfl, ⟨_, rfl, by kernel_rfl⟩⟩
/-- *uint64 -/
def ti140 : TI := { d := .ptr 30, size := 1, bytes := 8, zero := .s .nilptr }
theorem ti140_ok : TIok Try.prog 140 ti140 := ⟨Try.underlying140, by kernel_rfl, by kernel_rfl, ⟨_, rfl, by kernel_rfl⟩⟩
/-- func(*int, int) -/
def ti141 : TI := { d := .other, size := 1, bytes := 8, zero := .s .nilfunc }
theorem ti141_ok : TIok Try.prog 141 ti141 := ⟨⟨_, _, _, Try.underlying141⟩, by kernel_rfl, by kernel_rfl, ⟨_, rfl, by kernel_rfl⟩⟩
/-- *int -/
def ti142 : TI := { d := .ptr 3, size := 1, bytes := 8, zero := .s .nilptr }
theorem ti142_ok : TIok Try.prog 142 ti142 := ⟨Try.underlying142, by kernel_rfl, by kernel_rfl, ⟨_, rfl, by kernel_rfl⟩⟩
/-- func(*bool) -/
def ti143 : TI := { d := .other, size := 1, bytes := 8, zero := .s .nilfunc }
theorem ti143_ok : TIok Try.prog 143 ti143 := ⟨⟨_, _, _, Try.underlying143⟩, by kernel_rfl, by kernel_rfl, ⟨_, rfl, by kernel_rfl⟩⟩
/-- *bool -/
def ti144 : TI := { d := .ptr 4, size := 1, bytes := 8, zero := .s .nilptr }
theorem ti144_ok : TIok Try.prog 144 ti144 := ⟨Try.underlying144, by kernel_rfl, by kernel_rfl, ⟨_, rfl, by kernel_rfl⟩⟩
/-- []*uint64 -/
def ti145 : TI := { d := .slice 140, size := 1, bytes := 24, zero := .s .nilslice }
theorem ti145_ok : TIok Try.prog 145 ti145 := ⟨Try.underlying145, by kernel_rfl, by kernel_rfl, ⟨_, rfl, by kernel_rfl⟩⟩
/-- func(*uint8) -/
def ti146 : TI := { d := .other, size := 1, bytes := 8, zero := .s .nilfunc }
theorem ti146_ok : TIok Try.prog 146 ti146 := ⟨⟨_, _, _, Try.underlying146⟩, by kernel_rfl, by kernel_rfl, ⟨_, rfl, by kernel_rfl⟩⟩
/-- *uint8 -/
def ti147 : TI := { d := .ptr 5, size := 1, bytes := 8, zero := .s .nilptr }
theorem ti147_ok : TIok Try.prog 147 ti147 := ⟨Try.underlying147, by kernel_rfl, by kernel_rfl, ⟨_, rfl, by kernel_rfl⟩⟩
/-- *api.Bus -/
def ti148 : TI := { d := .ptr 42, size := 1, bytes := 8, zero := .s .nilptr }
theorem ti148_ok : TIok Try.prog 148 ti148 := ⟨Try.underlying148, by kernel_rfl, by kernel_rfl, ⟨_, rfl, by kernel_rfl⟩⟩
/-- func(*uint32) -/
def ti149 : TI := { d := .other, size := 1, bytes := 8, zero := .s .nilfunc }
theorem ti149_ok : TIok Try.prog 149 ti149 := ⟨⟨_, _, _, Try.underlying149⟩, by kernel_rfl, by kernel_rfl, ⟨_, rfl, by kernel_rfl⟩⟩
/-- *uint32 -/
def ti150 : TI := { d := .ptr 40, size := 1, bytes := 8, zero := .s .nilptr }
theorem ti150_ok : TIok Try.prog 150 ti150 := ⟨Try.underlying150, by kernel_rfl, by kernel_rfl, ⟨_, rfl, by kernel_rfl⟩⟩
/-- []*uint8 -/
def ti151 : TI := { d := .slice 147, size := 1, bytes := 24, zero := .s .nilslice }
theorem ti151_ok : TIok Try.prog 151 ti151 := ⟨Try.underlying151, by kernel_rfl, by kernel_rfl, ⟨_, rfl, by kernel_rfl⟩⟩
/-- func(*[]uint8, int, int) -/
def ti152 : TI := { d := .other, size := 1, bytes := 8, zero := .s .nilfunc }
theorem ti152_ok : TIok Try.prog 152 ti152 := ⟨⟨_, _, _, Try.underlying152⟩, by kernel_rfl, by kernel_rfl, ⟨_, rfl, by kernel_rfl⟩⟩
/-- *[]uint8 -/
def ti153 : TI := { d := .ptr 23, size := 1, bytes := 8, zero := .s .nilptr }
theorem ti153_ok : TIok Try.prog 153 ti153 := ⟨Try.underlying153, by kernel_rfl, by kernel_rfl, ⟨_, rfl, by kernel_rfl⟩⟩
/-- func([]uint8, int) []uint8 -/
def ti154 : TI := { d := .other, size := 1, bytes := 8, zero := .s .nilfunc }
theorem ti154_ok : TIok Try.prog 154 ti154 := ⟨⟨_, _, _, Try.underlying154⟩, by kernel_rfl, by kernel_rfl, ⟨_, rfl, by kernel_rfl⟩⟩
/-- func(uint64) uint64 -/
def ti155 : TI := { d := .other, size := 1, bytes := 8, zero := .s .nilfunc }
theorem ti155_ok : TIok Try.prog 155 ti155 := ⟨⟨_, _, _, Try.underlying155⟩, by kernel_rfl, by kernel_rfl, ⟨_, rfl, by kernel_rfl⟩⟩
/-- func([]uint8, bool) []uint8 -/
def ti156 : TI := { d := .other, size := 1, bytes := 8, zero := .s .nilfunc }
theorem ti156_ok : TIok Try.prog 156 ti156 := ⟨⟨_, _, _, Try.underlying156⟩, by kernel_rfl, by kernel_rfl, ⟨_, rfl, by kernel_rfl⟩⟩
/-- []uint64 -/
def ti157 : TI := { d := .slice 30, size := 1, bytes := 24, zero := .s .nilslice }
theorem ti157_ok : TIok Try.prog 157 ti157 := ⟨Try.underlying157, by kernel_rfl, by kernel_rfl, ⟨_, rfl, by kernel_rfl⟩⟩
/-- func(int) int -/
def ti158 : TI := { d := .other, size := 1, bytes := 8, zero := .s .nilfunc }
theorem ti158_ok : TIok Try.prog 158 ti158 := ⟨⟨_, _, _, Try.underlying158⟩, by kernel_rfl, by kernel_rfl, ⟨_, rfl, by kernel_rfl⟩⟩
/-- func(int) []uint8 -/
def ti159 : TI := { d := .other, size := 1, bytes := 8, zero := .s .nilfunc }
theorem ti159_ok : TIok Try.prog 159 ti159 := ⟨⟨_, _, _, Try.underlying159⟩, by kernel_rfl, by kernel_rfl, ⟨_, rfl, by kernel_rfl⟩⟩
/-- func(int, int) []uint8 -/
def ti160 : TI := { d := .other, size := 1, bytes := 8, zero := .s .nilfunc }
theorem ti160_ok : TIok Try.prog 160 ti160 := ⟨⟨_, _, _, Try.underlying160⟩, by kernel_rfl, by kernel_rfl, ⟨_, rfl, by kernel_rfl⟩⟩
/-- func(api.Pmp, uint64, int) (int, bool) -/
def ti161 : TI := { d := .other, size := 1, bytes := 8, zero := .s .nilfunc }
theorem ti161_ok : TIok Try.prog 161 ti161 := ⟨⟨_, _, _, Try.underlying161⟩, by kernel_rfl, by kernel_rfl, ⟨_, rfl, by kernel_rfl⟩⟩
/-- *watch.scene -/
def ti162 : TI := { d := .ptr 164, size := 1, bytes := 8, zero := .s .nilptr }
theorem ti162_ok : TIok Try.prog 162 ti162 := ⟨Try.underlying162, by kernel_rfl, by kernel_rfl, ⟨_, rfl, by kernel_rfl⟩⟩
/-- struct { b api.Whole; a api.Whole; w api.World; r api.Row; raw api.Cpu } -/
def ti163 : TI := { d := .struct [(44, 0), (44, 97), (105, 194), (102, 198), (39, 214)], size := 296, bytes := 2032, zero := .agg [.one (.int .u64 0), .ints .u64 32 (fun _ => 0), .one (.int .i64 0), .one (.bool false), .one (.int .u64 0), .one (.int .u64 0), .one (.int .u64 0), .one (.int .u64 0), .one (.int .u64 0), .one (.int .u64 0), .one (.int .u64 0), .one (.int .u64 0), .one (.int .u64 0), .one (.int .u64 0), .one (.int .u64 0), .one (.int .u64 0), .ints .u8 16 (fun _ => 0), .ints .u64 16 (fun _ => 0), .one (.bool false), .one (.int .u64 0), .one (.int .i64 0), .one .nilslice, .one (.int .u32 0), .one (.int .u64 0), .one (.int .u64 0), .one (.bool false), .one (.bool false), .one (.int .u8 0), .one (.int .u8 0), .one (.int .u8 0), .one (.int .u8 0), .one (.bool false), .one .nilslice, .one .nilslice, .one (.int .i64 0), .one (.int .i64 0), .one (.int .u64 0), .ints .u64 32 (fun _ => 0), .one (.int .i64 0), .one (.bool false), .one (.int .u64 0), .one (.int .u64 0), .one (.int .u64 0), .one (.int .u64 0), .one (.int .u64 0), .one (.int .u64 0), .one (.int .u64 0), .one (.int .u64 0), .one (.int .u64 0), .one (.int .u64 0), .one (.int .u64 0), .one (.int .u64 0), .ints .u8 16 (fun _ => 0), .ints .u64 16 (fun _ => 0), .one (.bool false), .one (.int .u64 0), .one (.int .i64 0), .one .nilslice, .one (.int .u32 0), .one (.int .u64 0), .one (.int .u64 0), .one (.bool false), .one (.bool false), .one (.int .u8 0), .one (.int .u8 0), .one (.int .u8 0), .one (.int .u8 0), .one (.bool false), .one .nilslice, .one .nilslice, .one (.int .i64 0), .one (.int .i64 0), .one (.bool false), .one (.bool false), .one (.bool false), .one .nilslice, .one (.int .i64 0), .one (.int .i64 0), .one (.int .i64 0), .one (.int .u64 0), .one (.int .u32 0), .one (.int .i64 0), .one (.int .u64 0), .one (.int .u64 0), .one (.int .i64 0), .one (.int .u64 0), .one (.int .i64 0), .one (.int .u64 0), .one (.int .i64 0), .one (.int .u64 0), .one (.int .u64 0), .one (.int .i64 0), .one (.int .u64 0), .ints .u64 32 (fun _ => 0), .one (.int .i64 0), .one (.bool false), .one (.int .u64 0), .one (.int .u64 0), .one (.int .u64 0), .one (.int .u64 0), .one (.int .u64 0), .one (.int .u64 0), .one (.int .u64 0), .one (.int .u64 0), .one (.int .u64 0), .one (.int .u64 0), .one (.int .u64 0), .one (.int .u64 0), .ints .u8 16 (fun _ => 0), .ints .u64 16 (fun _ => 0), .one (.bool false), .one (.int .u64 0), .one (.int .i64 0)] }
theorem ti163_ok : TIok Try.prog 163 ti163 := ⟨⟨_, Try.underlying163, by rfl⟩, by kernel_rfl, by kernel_rfl, ⟨_, rfl, by kernel_rfl⟩⟩
/-- watch.scene -/
def ti164 : TI := { d := .struct [(44, 0), (44, 97), (105, 194), (102, 198), (39, 214)], size := 296, bytes := 2032, zero := .agg [.one (.int .u64 0), .ints .u64 32 (fun _ => 0), .one (.int .i64 0), .one (.bool false), .one (.int .u64 0), .one (.int .u64 0), .one (.int .u64 0), .one (.int .u64 0), .one (.int .u64 0), .one (.int .u64 0), .one (.int .u64 0), .one (.int .u64 0), .one (.int .u64 0), .one (.int .u64 0), .one (.int .u64 0), .one (.int .u64 0), .ints .u8 16 (fun _ => 0), .ints .u64 16 (fun _ => 0), .one (.bool false), .one (.int .u64 0), .one (.int .i64 0), .one .nilslice, .one (.int .u32 0), .one (.int .u64 0), .one (.int .u64 0), .one (.bool false), .one (.bool false), .one (.int .u8 0), .one (.int .u8 0), .one (.int .u8 0), .one (.int .u8 0), .one (.bool false), .one .nilslice, .one .nilslice, .one (.int .i64 0), .one (.int .i64 0), .one (.int .u64 0), .ints .u64 32 (fun _ => 0), .one (.int .i64 0), .one (.bool false), .one (.int .u64 0), .one (.int .u64 0), .one (.int .u64 0), .one (.int .u64 0), .one (.int .u64 0), .one (.int .u64 0), .one (.int .u64 0), .one (.int .u64 0), .one (.int .u64 0), .one (.int .u64 0), .one (.int .u64 0), .one (.int .u64 0), .ints .u8 16 (fun _ => 0), .ints .u64 16 (fun _ => 0), .one (.bool false), .one (.int .u64 0), .one (.int .i64 0), .one .nilslice, .one (.int .u32 0), .one (.int .u64 0), .one (.int .u64 0), .one (.bool false), .one (.bool false), .one (.int .u8 0), .one (.int .u8 0), .one (.int .u8 0), .one (.int .u8 0), .one (.bool false), .one .nilslice, .one .nilslice, .one (.int .i64 0), .one (.int .i64 0), .one (.bool false), .one (.bool false), .one (.bool false), .one .nilslice, .one (.int .i64 0), .one (.int .i64 0), .one (.int .i64 0), .one (.int .u64 0), .one (.int .u32 0), .one (.int .i64 0), .one (.int .u64 0), .one (.int .u64 0), .one (.int .i64 0), .one (.int .u64 0), .one (.int .i64 0), .one (.int .u64 0), .one (.int .i64 0), .one (.int .u64 0), .one (.int .u64 0), .one (.int .i64 0), .one (.int .u64 0), .ints .u64 32 (fun _ => 0), .one (.int .i64 0), .one (.bool false), .one (.int .u64 0), .one (.int .u64 0), .one (.int .u64 0), .one (.int .u64 0), .one (.int .u64 0), .one (.int .u64 0), .one (.int .u64 0), .one (.int .u64 0), .one (.int .u64 0), .one (.int .u64 0), .one (.int .u64 0), .one (.int .u64 0), .ints .u8 16 (fun _ => 0), .ints .u64 16 (fun _ => 0), .one (.bool false), .one (.int .u64 0), .one (.int .i64 0)] }
theorem ti164_ok : TIok Try.prog 164 ti164 := ⟨⟨_, Try.underlying164, by rfl⟩, by kernel_rfl, by kernel_rfl, ⟨_, rfl, by kernel_rfl⟩⟩
/-- []func() bool -/
def ti165 : TI := { d := .slice 22, size := 1, bytes := 24, zero := .s .nilslice }
theorem ti165_ok : TIok Try.prog 165 ti165 := ⟨Try.underlying165, by kernel_rfl, by kernel_rfl, ⟨_, rfl, by kernel_rfl⟩⟩
/-- func() []func() bool -/
def ti166 : TI := { d := .other, size := 1, bytes := 8, zero := .s .nilfunc }
theorem ti166_ok : TIok Try.prog 166 ti166 := ⟨⟨_, _, _, Try.underlying166⟩, by kernel_rfl, by kernel_rfl, ⟨_, rfl, by kernel_rfl⟩⟩
/-- func(api.Row) bool -/
def ti167 : TI := { d := .other, size := 1, bytes := 8, zero := .s .nilfunc }
theorem ti167_ok : TIok Try.prog 167 ti167 := ⟨⟨_, _, _, Try.underlying167⟩, by kernel_rfl, by kernel_rfl, ⟨_, rfl, by kernel_rfl⟩⟩
/-- func(uint64) string -/
def ti168 : TI := { d := .other, size := 1, bytes := 8, zero := .s .nilfunc }
theorem ti168_ok : TIok Try.prog 168 ti168 := ⟨⟨_, _, _, Try.underlying168⟩, by kernel_rfl, by kernel_rfl, ⟨_, rfl, by kernel_rfl⟩⟩
/-- func(int) bool -/
def ti169 : TI := { d := .other, size := 1, bytes := 8, zero := .s .nilfunc }
theorem ti169_ok : TIok Try.prog 169 ti169 := ⟨⟨_, _, _, Try.underlying169⟩, by kernel_rfl, by kernel_rfl, ⟨_, rfl, by kernel_rfl⟩⟩
/-- *bus.uart -/
def ti170 : TI := { d := .ptr 130, size := 1, bytes := 8, zero := .s .nilptr }
theorem ti170_ok : TIok Try.prog 170 ti170 := ⟨Try.underlying170, by kernel_rfl, by kernel_rfl, ⟨_, rfl, by kernel_rfl⟩⟩
/-- func(uint8) uint8 -/
def ti171 : TI := { d := .other, size := 1, bytes := 8, zero := .s .nilfunc }
theorem ti171_ok : TIok Try.prog 171 ti171 := ⟨⟨_, _, _, Try.underlying171⟩, by kernel_rfl, by kernel_rfl, ⟨_, rfl, by kernel_rfl⟩⟩
/-- func(api.Pmp, int) (uint64, uint64, bool) -/
def ti173 : TI := { d := .other, size := 1, bytes := 8, zero := .s .nilfunc }
theorem ti173_ok : TIok Try.prog 173 ti173 := ⟨⟨_, _, _, Try.underlying173⟩, by kernel_rfl, by kernel_rfl, ⟨_, rfl, by kernel_rfl⟩⟩
/-- func(api.Pmp, int, uint64) bool -/
def ti174 : TI := { d := .other, size := 1, bytes := 8, zero := .s .nilfunc }
theorem ti174_ok : TIok Try.prog 174 ti174 := ⟨⟨_, _, _, Try.underlying174⟩, by kernel_rfl, by kernel_rfl, ⟨_, rfl, by kernel_rfl⟩⟩
/-- func(...uint64) bool -/
def ti175 : TI := { d := .other, size := 1, bytes := 8, zero := .s .nilfunc }
theorem ti175_ok : TIok Try.prog 175 ti175 := ⟨⟨_, _, _, Try.underlying175⟩, by kernel_rfl, by kernel_rfl, ⟨_, rfl, by kernel_rfl⟩⟩
/-- *sync.Mutex -/
def ti176 : TI := { d := .ptr 128, size := 1, bytes := 8, zero := .s .nilptr }
theorem ti176_ok : TIok Try.prog 176 ti176 := ⟨Try.underlying176, by kernel_rfl, by kernel_rfl, ⟨_, rfl, by kernel_rfl⟩⟩
/-- func(uint8) int -/
def ti177 : TI := { d := .other, size := 1, bytes := 8, zero := .s .nilfunc }
theorem ti177_ok : TIok Try.prog 177 ti177 := ⟨⟨_, _, _, Try.underlying177⟩, by kernel_rfl, by kernel_rfl, ⟨_, rfl, by kernel_rfl⟩⟩
/-- *api.Row -/
def ti178 : TI := { d := .ptr 102, size := 1, bytes := 8, zero := .s .nilptr }
theorem ti178_ok : TIok Try.prog 178 ti178 := ⟨Try.underlying178, by kernel_rfl, by kernel_rfl, ⟨_, rfl, by kernel_rfl⟩⟩
/-- func(func(uint64) bool) bool -/
def ti179 : TI := { d := .other, size := 1, bytes := 8, zero := .s .nilfunc }
theorem ti179_ok : TIok Try.prog 179 ti179 := ⟨⟨_, _, _, Try.underlying179⟩, by kernel_rfl, by kernel_rfl, ⟨_, rfl, by kernel_rfl⟩⟩
/-- func(uint64) bool -/
def ti180 : TI := { d := .other, size := 1, bytes := 8, zero := .s .nilfunc }
theorem ti180_ok : TIok Try.prog 180 ti180 := ⟨⟨_, _, _, Try.underlying180⟩, by kernel_rfl, by kernel_rfl, ⟨_, rfl, by kernel_rfl⟩⟩
/-- func(api.Bus) uint64 -/
def ti181 : TI := { d := .other, size := 1, bytes := 8, zero := .s .nilfunc }
theorem ti181_ok : TIok Try.prog 181 ti181 := ⟨⟨_, _, _, Try.underlying181⟩, by kernel_rfl, by kernel_rfl, ⟨_, rfl, by kernel_rfl⟩⟩
/-- func(uint64, int) bool -/
def ti182 : TI := { d := .other, size := 1, bytes := 8, zero := .s .nilfunc }
theorem ti182_ok : TIok Try.prog 182 ti182 := ⟨⟨_, _, _, Try.underlying182⟩, by kernel_rfl, by kernel_rfl, ⟨_, rfl, by kernel_rfl⟩⟩
/-- func(api.Pmp, int, uint64, int, int) bool -/
def ti183 : TI := { d := .other, size := 1, bytes := 8, zero := .s .nilfunc }
theorem ti183_ok : TIok Try.prog 183 ti183 := ⟨⟨_, _, _, Try.underlying183⟩, by kernel_rfl, by kernel_rfl, ⟨_, rfl, by kernel_rfl⟩⟩
/-- func(api.Cpu) int -/
def ti184 : TI := { d := .other, size := 1, bytes := 8, zero := .s .nilfunc }
theorem ti184_ok : TIok Try.prog 184 ti184 := ⟨⟨_, _, _, Try.underlying184⟩, by kernel_rfl, by kernel_rfl, ⟨_, rfl, by kernel_rfl⟩⟩
/-- *sync.Mutex -/
def ti185 : TI := { d := .ptr 126, size := 1, bytes := 8, zero := .s .nilptr }
theorem ti185_ok : TIok Try.prog 185 ti185 := ⟨Try.underlying185, by kernel_rfl, by kernel_rfl, ⟨_, rfl, by kernel_rfl⟩⟩
/-- func(*int32, int32, int32) bool -/
def ti186 : TI := { d := .other, size := 1, bytes := 8, zero := .s .nilfunc }
theorem ti186_ok : TIok Try.prog 186 ti186 := ⟨⟨_, _, _, Try.underlying186⟩, by kernel_rfl, by kernel_rfl, ⟨_, rfl, by kernel_rfl⟩⟩
/-- *int32 -/
def ti187 : TI := { d := .ptr 21, size := 1, bytes := 8, zero := .s .nilptr }
theorem ti187_ok : TIok Try.prog 187 ti187 := ⟨Try.underlying187, by kernel_rfl, by kernel_rfl, ⟨_, rfl, by kernel_rfl⟩⟩
/-- func(unsafe.Pointer) -/
def ti188 : TI := { d := .other, size := 1, bytes := 8, zero := .s .nilfunc }
theorem ti188_ok : TIok Try.prog 188 ti188 := ⟨⟨_, _, _, Try.underlying188⟩, by kernel_rfl, by kernel_rfl, ⟨_, rfl, by kernel_rfl⟩⟩
/-- unsafe.Pointer -/
def ti189 : TI := { d := .uptr, size := 1, bytes := 8, zero := .s .nilptr }
theorem ti189_ok : TIok Try.prog 189 ti189 := ⟨Try.underlying189, by kernel_rfl, by kernel_rfl, ⟨_, rfl, by kernel_rfl⟩⟩
/-- func(*int32, int32) int32 -/
def ti190 : TI := { d := .other, size := 1, bytes := 8, zero := .s .nilfunc }
theorem ti190_ok : TIok Try.prog 190 ti190 := ⟨⟨_, _, _, Try.underlying190⟩, by kernel_rfl, by kernel_rfl, ⟨_, rfl, by kernel_rfl⟩⟩
/-- func(int32) -/
def ti191 : TI := { d := .other, size := 1, bytes := 8, zero := .s .nilfunc }
theorem ti191_ok : TIok Try.prog 191 ti191 := ⟨⟨_, _, _, Try.underlying191⟩, by kernel_rfl, by kernel_rfl, ⟨_, rfl, by kernel_rfl⟩⟩
/-- func(api.Pmp, int) int -/
def ti192 : TI := { d := .other, size := 1, bytes := 8, zero := .s .nilfunc }
theorem ti192_ok : TIok Try.prog 192 ti192 := ⟨⟨_, _, _, Try.underlying192⟩, by kernel_rfl, by kernel_rfl, ⟨_, rfl, by kernel_rfl⟩⟩
/-- func(api.Pmp, int) (bool, bool) -/
def ti194 : TI := { d := .other, size := 1, bytes := 8, zero := .s .nilfunc }
theorem ti194_ok : TIok Try.prog 194 ti194 := ⟨⟨_, _, _, Try.underlying194⟩, by kernel_rfl, by kernel_rfl, ⟨_, rfl, by kernel_rfl⟩⟩
/-- func(uint64, int) uint64 -/
def ti195 : TI := { d := .other, size := 1, bytes := 8, zero := .s .nilfunc }
theorem ti195_ok : TIok Try.prog 195 ti195 := ⟨⟨_, _, _, Try.underlying195⟩, by kernel_rfl, by kernel_rfl, ⟨_, rfl, by kernel_rfl⟩⟩
/-- func(uint64, uint64) uint64 -/
def ti196 : TI := { d := .other, size := 1, bytes := 8, zero := .s .nilfunc }
theorem ti196_ok : TIok Try.prog 196 ti196 := ⟨⟨_, _, _, Try.underlying196⟩, by kernel_rfl, by kernel_rfl, ⟨_, rfl, by kernel_rfl⟩⟩
/-- func(string) -/
def ti197 : TI := { d := .other, size := 1, bytes := 8, zero := .s .nilfunc }
theorem ti197_ok : TIok Try.prog 197 ti197 := ⟨⟨_, _, _, Try.underlying197⟩, by kernel_rfl, by kernel_rfl, ⟨_, rfl, by kernel_rfl⟩⟩
/-- func() int64 -/
def ti198 : TI := { d := .other, size := 1, bytes := 8, zero := .s .nilfunc }
theorem ti198_ok : TIok Try.prog 198 ti198 := ⟨⟨_, _, _, Try.underlying198⟩, by kernel_rfl, by kernel_rfl, ⟨_, rfl, by kernel_rfl⟩⟩
/-- func(*uint32, bool, int) -/
def ti199 : TI := { d := .other, size := 1, bytes := 8, zero := .s .nilfunc }
theorem ti199_ok : TIok Try.prog 199 ti199 := ⟨⟨_, _, _, Try.underlying199⟩, by kernel_rfl, by kernel_rfl, ⟨_, rfl, by kernel_rfl⟩⟩
/-- func() string -/
def ti200 : TI := { d := .other, size := 1, bytes := 8, zero := .s .nilfunc }
theorem ti200_ok : TIok Try.prog 200 ti200 := ⟨⟨_, _, _, Try.underlying200⟩, by kernel_rfl, by kernel_rfl, ⟨_, rfl, by kernel_rfl⟩⟩
/-- struct { _interface *abi.Type; concrete *abi.Type; asserted *abi.Type; missingMethod string } -/
def ti201 : TI := { d := .struct [(17, 0), (17, 1), (17, 2), (9, 3)], size := 4, bytes := 40, zero := .agg [.one .nilptr, .one .nilptr, .one .nilptr, .one (.str .empty)] }
theorem ti201_ok : TIok Try.prog 201 ti201 := ⟨⟨_, Try.underlying201, by rfl⟩, by kernel_rfl, by kernel_rfl, ⟨_, rfl, by kernel_rfl⟩⟩
/-- runtime.TypeAssertionError -/
def ti202 : TI := { d := .struct [(17, 0), (17, 1), (17, 2), (9, 3)], size := 4, bytes := 40, zero := .agg [.one .nilptr, .one .nilptr, .one .nilptr, .one (.str .empty)] }
theorem ti202_ok : TIok Try.prog 202 ti202 := ⟨⟨_, Try.underlying202, by rfl⟩, by kernel_rfl, by kernel_rfl, ⟨_, rfl, by kernel_rfl⟩⟩
/-- func() int -/
def ti206 : TI := { d := .other, size := 1, bytes := 8, zero := .s .nilfunc }
theorem ti206_ok : TIok Try.prog 206 ti206 := ⟨⟨_, _, _, Try.underlying206⟩, by kernel_rfl, by kernel_rfl, ⟨_, rfl, by kernel_rfl⟩⟩
/-- abi.TFlag -/
def ti207 : TI := { d := .int .u8, size := 1, bytes := 1, zero := .s (.int .u8 0) }
theorem ti207_ok : TIok Try.prog 207 ti207 := ⟨Try.underlying207, by kernel_rfl, by kernel_rfl, ⟨_, rfl, by kernel_rfl⟩⟩
/-- abi.Kind -/
def ti208 : TI := { d := .int .u8, size := 1, bytes := 1, zero := .s (.int .u8 0) }
theorem ti208_ok : TIok Try.prog 208 ti208 := ⟨Try.underlying208, by kernel_rfl, by kernel_rfl, ⟨_, rfl, by kernel_rfl⟩⟩
/-- func(unsafe.Pointer, unsafe.Pointer) bool -/
def ti209 : TI := { d := .other, size := 1, bytes := 8, zero := .s .nilfunc }
theorem ti209_ok : TIok Try.prog 209 ti209 := ⟨⟨_, _, _, Try.underlying209⟩, by kernel_rfl, by kernel_rfl, ⟨_, rfl, by kernel_rfl⟩⟩
/-- abi.NameOff -/
def ti210 : TI := { d := .int .i32, size := 1, bytes := 4, zero := .s (.int .i32 0) }
theorem ti210_ok : TIok Try.prog 210 ti210 := ⟨Try.underlying210, by kernel_rfl, by kernel_rfl, ⟨_, rfl, by kernel_rfl⟩⟩
/-- abi.TypeOff -/
def ti211 : TI := { d := .int .i32, size := 1, bytes := 4, zero := .s (.int .i32 0) }
theorem ti211_ok : TIok Try.prog 211 ti211 := ⟨Try.underlying211, by kernel_rfl, by kernel_rfl, ⟨_, rfl, by kernel_rfl⟩⟩
/-- struct { Size_ uintptr; PtrBytes uintptr; Hash uint32; TFlag abi.TFlag; Align_ uint8; FieldAlign_ uint8; Kind_ abi.Kind; Equal func(unsafe.Pointer, unsafe.Pointer) bool; GCData *uint8; Str abi.NameOff; PtrToThis abi.TypeOff } -/
def ti212 : TI := { d := .struct [(12, 0), (12, 1), (40, 2), (207, 3), (5, 4), (5, 5), (208, 6), (209, 7), (147, 8), (210, 9), (211, 10)], size := 11, bytes := 48, zero := .agg [.one (.int .u64 0), .one (.int .u64 0), .one (.int .u32 0), .one (.int .u8 0), .one (.int .u8 0), .one (.int .u8 0), .one (.int .u8 0), .one .nilfunc, .one .nilptr, .one (.int .i32 0), .one (.int .i32 0)] }
theorem ti212_ok : TIok Try.prog 212 ti212 := ⟨⟨_, Try.underlying212, by rfl⟩, by kernel_rfl, by kernel_rfl, ⟨_, rfl, by kernel_rfl⟩⟩
/-- abi.Type -/
def ti213 : TI := { d := .struct [(12, 0), (12, 1), (40, 2), (207, 3), (5, 4), (5, 5), (208, 6), (209, 7), (147, 8), (210, 9), (211, 10)], size := 11, bytes := 48, zero := .agg [.one (.int .u64 0), .one (.int .u64 0), .one (.int .u32 0), .one (.int .u8 0), .one (.int .u8 0), .one (.int .u8 0), .one (.int .u8 0), .one .nilfunc, .one .nilptr, .one (.int .i32 0), .one (.int .i32 0)] }
theorem ti213_ok : TIok Try.prog 213 ti213 := ⟨⟨_, Try.underlying213, by rfl⟩, by kernel_rfl, by kernel_rfl, ⟨_, rfl, by kernel_rfl⟩⟩
/-- func() uint64 -/
def ti214 : TI := { d := .other, size := 1, bytes := 8, zero := .s .nilfunc }
theorem ti214_ok : TIok Try.prog 214 ti214 := ⟨⟨_, _, _, Try.underlying214⟩, by kernel_rfl, by kernel_rfl, ⟨_, rfl, by kernel_rfl⟩⟩
def tys : List (List (Option TI)) := [
  [none, some ti1, some ti2, some ti3, some ti4, some ti5, some ti6, some ti7, some ti8, some ti9, some ti10, some ti11, some ti12, some ti13, some ti14, some ti15],
  [some ti16, some ti17, some ti18, some ti19, some ti20, some ti21, some ti22, some ti23, some ti24, none, some ti26, none, some ti28, some ti29, some ti30, some ti31],
  [some ti32, some ti33, some ti34, some ti35, some ti36, some ti37, some ti38, some ti39, some ti40, some ti41, some ti42, some ti43, some ti44, some ti45, some ti46, some ti47],
  [some ti48, some ti49, some ti50, some ti51, some ti52, some ti53, some ti54, none, some ti56, none, some ti58, some ti59, some ti60, some ti61, some ti62, none],
  [some ti64, some ti65, some ti66, some ti67, some ti68, some ti69, some ti70, none, some ti72, some ti73, some ti74, some ti75, some ti76, some ti77, some ti78, some ti79],
  [some ti80, some ti81, some ti82, some ti83, some ti84, some ti85, some ti86, some ti87, some ti88, some ti89, some ti90, some ti91, some ti92, some ti93, some ti94, some ti95],
  [some ti96, some ti97, some ti98, some ti99, some ti100, some ti101, some ti102, some ti103, some ti104, some ti105, some ti106, some ti107, some ti108, some ti109, some ti110, some ti111],
  [none, some ti113, some ti114, some ti115, some ti116, some ti117, some ti118, some ti119, some ti120, some ti121, some ti122, none, none, some ti125, some ti126, some ti127],
  [some ti128, some ti129, some ti130, some ti131, some ti132, some ti133, some ti134, some ti135, some ti136, some ti137, some ti138, some ti139, some ti140, some ti141, some ti142, some ti143],
  [some ti144, some ti145, some ti146, some ti147, some ti148, some ti149, some ti150, some ti151, some ti152, some ti153, some ti154, some ti155, some ti156, some ti157, some ti158, some ti159],
  [some ti160, some ti161, some ti162, some ti163, some ti164, some ti165, some ti166, some ti167, some ti168, some ti169, some ti170, some ti171, none, some ti173, some ti174, some ti175],
  [some ti176, some ti177, some ti178, some ti179, some ti180, some ti181, some ti182, some ti183, some ti184, some ti185, some ti186, some ti187, some ti188, some ti189, some ti190, some ti191],
  [some ti192, none, some ti194, some ti195, some ti196, some ti197, some ti198, some ti199, some ti200, some ti201, some ti202, none, none, none, some ti206, some ti207],
  [some ti208, some ti209, some ti210, some ti211, some ti212, some ti213, some ti214]]
theorem tys_ok : okR Try.prog 0 tys :=
  ⟨⟨ti1_ok, ti2_ok, ti3_ok, ti4_ok, ti5_ok, ti6_ok, ti7_ok, ti8_ok, ti9_ok, ti10_ok, ti11_ok, ti12_ok, ti13_ok, ti14_ok, ti15_ok, trivial⟩,
   ⟨ti16_ok, ti17_ok, ti18_ok, ti19_ok, ti20_ok, ti21_ok, ti22_ok, ti23_ok, ti24_ok, ti26_ok, ti28_ok, ti29_ok, ti30_ok, ti31_ok, trivial⟩,
   ⟨ti32_ok, ti33_ok, ti34_ok, ti35_ok, ti36_ok, ti37_ok, ti38_ok, ti39_ok, ti40_ok, ti41_ok, ti42_ok, ti43_ok, ti44_ok, ti45_ok, ti46_ok, ti47_ok, trivial⟩,
   ⟨ti48_ok, ti49_ok, ti50_ok, ti51_ok, ti52_ok, ti53_ok, ti54_ok, ti56_ok, ti58_ok, ti59_ok, ti60_ok, ti61_ok, ti62_ok, trivial⟩,
   ⟨ti64_ok, ti65_ok, ti66_ok, ti67_ok, ti68_ok, ti69_ok, ti70_ok, ti72_ok, ti73_ok, ti74_ok, ti75_ok, ti76_ok, ti77_ok, ti78_ok, ti79_ok, trivial⟩,
   ⟨ti80_ok, ti81_ok, ti82_ok, ti83_ok, ti84_ok, ti85_ok, ti86_ok, ti87_ok, ti88_ok, ti89_ok, ti90_ok, ti91_ok, ti92_ok, ti93_ok, ti94_ok, ti95_ok, trivial⟩,
   ⟨ti96_ok, ti97_ok, ti98_ok, ti99_ok, ti100_ok, ti101_ok, ti102_ok, ti103_ok, ti104_ok, ti105_ok, ti106_ok, ti107_ok, ti108_ok, ti109_ok, ti110_ok, ti111_ok, trivial⟩,
   ⟨ti113_ok, ti114_ok, ti115_ok, ti116_ok, ti117_ok, ti118_ok, ti119_ok, ti120_ok, ti121_ok, ti122_ok, ti125_ok, ti126_ok, ti127_ok, trivial⟩,
   ⟨ti128_ok, ti129_ok, ti130_ok, ti131_ok, ti132_ok, ti133_ok, ti134_ok, ti135_ok, ti136_ok, ti137_ok, ti138_ok, ti139_ok, ti140_ok, ti141_ok, ti142_ok, ti143_ok, trivial⟩,
   ⟨ti144_ok, ti145_ok, ti146_ok, ti147_ok, ti148_ok, ti149_ok, ti150_ok, ti151_ok, ti152_ok, ti153_ok, ti154_ok, ti155_ok, ti156_ok, ti157_ok, ti158_ok, ti159_ok, trivial⟩,
   ⟨ti160_ok, ti161_ok, ti162_ok, ti163_ok, ti164_ok, ti165_ok, ti166_ok, ti167_ok, ti168_ok, ti169_ok, ti170_ok, ti171_ok, ti173_ok, ti174_ok, ti175_ok, trivial⟩,
   ⟨ti176_ok, ti177_ok, ti178_ok, ti179_ok, ti180_ok, ti181_ok, ti182_ok, ti183_ok, ti184_ok, ti185_ok, ti186_ok, ti187_ok, ti188_ok, ti189_ok, ti190_ok, ti191_ok, trivial⟩,
   ⟨ti192_ok, ti194_ok, ti195_ok, ti196_ok, ti197_ok, ti198_ok, ti199_ok, ti200_ok, ti201_ok, ti202_ok, ti206_ok, ti207_ok, trivial⟩,
   ⟨ti208_ok, ti209_ok, ti210_ok, ti211_ok, ti212_ok, ti213_ok, ti214_ok, trivial⟩, trivial⟩
theorem pt31 (n : Nat) : PTn Try.prog (n + 1) 31 true [.arr .u64 32] := .inr (.inr (.inl ⟨_, _, _, Try.underlying31, Try.underlying30, by kernel_rfl, by kernel_rfl, rfl, rfl⟩))
theorem pt32 (n : Nat) : PTn Try.prog (n + 1) 32 true [.arr .u8 16] := .inr (.inr (.inl ⟨_, _, _, Try.underlying32, Try.underlying5, by kernel_rfl, by kernel_rfl, rfl, rfl⟩))
theorem pt33 (n : Nat) : PTn Try.prog (n + 1) 33 true [.arr .u64 16] := .inr (.inr (.inl ⟨_, _, _, Try.underlying33, Try.underlying30, by kernel_rfl, by kernel_rfl, rfl, rfl⟩))
theorem pt35 (n : Nat) : PTn Try.prog (n + 2) 35 true [.arr .u8 16, .arr .u64 16] := .inr (.inr (.inr ⟨_, Try.underlying35, by kernel_rfl, by kernel_rfl, rfl, ⟨true, [.arr .u8 16], _, rfl, by decide, rfl, pt32 (n + 0), ⟨true, [.arr .u64 16], _, rfl, by decide, rfl, pt33 (n + 0), rfl⟩⟩⟩))
theorem pt37 (n : Nat) : PTn Try.prog (n + 2) 37 true [.bool, .int .u64, .int .i64] := .inr (.inr (.inr ⟨_, Try.underlying37, by kernel_rfl, by kernel_rfl, rfl, ⟨false, [.bool], _, rfl, by decide, rfl, .inr (.inl ⟨Try.underlying4, rfl, rfl⟩), ⟨false, [.int .u64], _, rfl, by decide, rfl, .inl ⟨_, Try.underlying30, rfl, rfl⟩, ⟨false, [.int .i64], _, rfl, by decide, rfl, .inl ⟨_, Try.underlying3, rfl, rfl⟩, rfl⟩⟩⟩⟩))
theorem pt39 (n : Nat) : PTn Try.prog (n + 3) 39 true [.int .u64, .arr .u64 32, .int .i64, .bool, .int .u64, .int .u64, .int .u64, .int .u64, .int .u64, .int .u64, .int .u64, .int .u64, .int .u64, .int .u64, .int .u64, .int .u64, .arr .u8 16, .arr .u64 16, .bool, .int .u64, .int .i64] := .inr (.inr (.inr ⟨_, Try.underlying39, by kernel_rfl, by kernel_rfl, rfl, ⟨false, [.int .u64], _, rfl, by decide, rfl, .inl ⟨_, Try.underlying30, rfl, rfl⟩, ⟨true, [.arr .u64 32], _, rfl, by decide, rfl, pt31 (n + 1), ⟨false, [.int .i64], _, rfl, by decide, rfl, .inl ⟨_, Try.underlying3, rfl, rfl⟩, ⟨false, [.bool], _, rfl, by decide, rfl, .inr (.inl ⟨Try.underlying4, rfl, rfl⟩), ⟨false, [.int .u64], _, rfl, by decide, rfl, .inl ⟨_, Try.underlying30, rfl, rfl⟩, ⟨false, [.int .u64], _, rfl, by decide, rfl, .inl ⟨_, Try.underlying30, rfl, rfl⟩, ⟨false, [.int .u64], _, rfl, by decide, rfl, .inl ⟨_, Try.underlying30, rfl, rfl⟩, ⟨false, [.int .u64], _, rfl, by decide, rfl, .inl ⟨_, Try.underlying30, rfl, rfl⟩, ⟨false, [.int .u64], _, rfl, by decide, rfl, .inl ⟨_, Try.underlying30, rfl, rfl⟩, ⟨false, [.int .u64], _, rfl, by decide, rfl, .inl ⟨_, Try.underlying30, rfl, rfl⟩, ⟨false, [.int .u64], _, rfl, by decide, rfl, .inl ⟨_, Try.underlying30, rfl, rfl⟩, ⟨false, [.int .u64], _, rfl, by decide, rfl, .inl ⟨_, Try.underlying30, rfl, rfl⟩, ⟨false, [.int .u64], _, rfl, by decide, rfl, .inl ⟨_, Try.underlying30, rfl, rfl⟩, ⟨false, [.int .u64], _, rfl, by decide, rfl, .inl ⟨_, Try.underlying30, rfl, rfl⟩, ⟨false, [.int .u64], _, rfl, by decide, rfl, .inl ⟨_, Try.underlying30, rfl, rfl⟩, ⟨false, [.int .u64], _, rfl, by decide, rfl, .inl ⟨_, Try.underlying30, rfl, rfl⟩, ⟨true, [.arr .u8 16, .arr .u64 16], _, rfl, by decide, rfl, pt35 (n + 0), ⟨true, [.bool, .int .u64, .int .i64], _, rfl, by decide, rfl, pt37 (n + 0), rfl⟩⟩⟩⟩⟩⟩⟩⟩⟩⟩⟩⟩⟩⟩⟩⟩⟩⟩⟩))
theorem pt102 (n : Nat) : PTn Try.prog (n + 2) 102 true [.int .i64, .int .i64, .int .i64, .int .u64, .int .u32, .int .i64, .int .u64, .int .u64, .int .i64, .int .u64, .int .i64, .int .u64, .int .i64, .int .u64, .int .u64, .int .i64] := .inr (.inr (.inr ⟨_, Try.underlying102, by kernel_rfl, by kernel_rfl, rfl, ⟨false, [.int .i64], _, rfl, by decide, rfl, .inl ⟨_, Try.underlying3, rfl, rfl⟩, ⟨false, [.int .i64], _, rfl, by decide, rfl, .inl ⟨_, Try.underlying3, rfl, rfl⟩, ⟨false, [.int .i64], _, rfl, by decide, rfl, .inl ⟨_, Try.underlying3, rfl, rfl⟩, ⟨false, [.int .u64], _, rfl, by decide, rfl, .inl ⟨_, Try.underlying30, rfl, rfl⟩, ⟨false, [.int .u32], _, rfl, by decide, rfl, .inl ⟨_, Try.underlying40, rfl, rfl⟩, ⟨false, [.int .i64], _, rfl, by decide, rfl, .inl ⟨_, Try.underlying3, rfl, rfl⟩, ⟨false, [.int .u64], _, rfl, by decide, rfl, .inl ⟨_, Try.underlying30, rfl, rfl⟩, ⟨false, [.int .u64], _, rfl, by decide, rfl, .inl ⟨_, Try.underlying30, rfl, rfl⟩, ⟨false, [.int .i64], _, rfl, by decide, rfl, .inl ⟨_, Try.underlying3, rfl, rfl⟩, ⟨false, [.int .u64], _, rfl, by decide, rfl, .inl ⟨_, Try.underlying30, rfl, rfl⟩, ⟨false, [.int .i64], _, rfl, by decide, rfl, .inl ⟨_, Try.underlying3, rfl, rfl⟩, ⟨false, [.int .u64], _, rfl, by decide, rfl, .inl ⟨_, Try.underlying30, rfl, rfl⟩, ⟨false, [.int .i64], _, rfl, by decide, rfl, .inl ⟨_, Try.underlying3, rfl, rfl⟩, ⟨false, [.int .u64], _, rfl, by decide, rfl, .inl ⟨_, Try.underlying30, rfl, rfl⟩, ⟨false, [.int .u64], _, rfl, by decide, rfl, .inl ⟨_, Try.underlying30, rfl, rfl⟩, ⟨false, [.int .i64], _, rfl, by decide, rfl, .inl ⟨_, Try.underlying3, rfl, rfl⟩, rfl⟩⟩⟩⟩⟩⟩⟩⟩⟩⟩⟩⟩⟩⟩⟩⟩⟩))
def eqs : List (Nat × List KS) := [(31, [.arr .u64 32]),
  (32, [.arr .u8 16]),
  (33, [.arr .u64 16]),
  (35, [.arr .u8 16, .arr .u64 16]),
  (37, [.bool, .int .u64, .int .i64]),
  (39, [.int .u64, .arr .u64 32, .int .i64, .bool, .int .u64, .int .u64, .int .u64, .int .u64, .int .u64, .int .u64, .int .u64, .int .u64, .int .u64, .int .u64, .int .u64, .int .u64, .arr .u8 16, .arr .u64 16, .bool, .int .u64, .int .i64]),
  (102, [.int .i64, .int .i64, .int .i64, .int .u64, .int .u32, .int .i64, .int .u64, .int .u64, .int .i64, .int .u64, .int .i64, .int .u64, .int .i64, .int .u64, .int .u64, .int .i64])]
theorem eqs_ok : okE Try.prog eqs := ⟨⟨by kernel_rfl, _, by decide, pt31 0⟩,
  ⟨by kernel_rfl, _, by decide, pt32 0⟩,
  ⟨by kernel_rfl, _, by decide, pt33 0⟩,
  ⟨by kernel_rfl, _, by decide, pt35 0⟩,
  ⟨by kernel_rfl, _, by decide, pt37 0⟩,
  ⟨by kernel_rfl, _, by decide, pt39 0⟩,
  ⟨by kernel_rfl, _, by decide, pt102 0⟩,
  trivial⟩
def mths : List (Nat × List (String × FuncId)) := [(75, [("anvil/save.bytes", 39), ("anvil/save.double", 185), ("anvil/save.flag", 186), ("anvil/save.list", 187), ("anvil/save.number", 42), ("anvil/save.octet", 188), ("anvil/save.pages", 41), ("anvil/save.place", 189), ("anvil/save.word", 190)]),
  (89, [("anvil/save.double", 191), ("anvil/save.flag", 192), ("anvil/save.list", 193), ("anvil/save.number", 53), ("anvil/save.octet", 194), ("anvil/save.pages", 54), ("anvil/save.place", 195), ("anvil/save.take", 87), ("anvil/save.word", 196)]),
  (93, [("anvil/anvilref16.cpu", 55), ("anvil/anvilref16.devices", 56), ("anvil/anvilref16.flag", 89), ("anvil/anvilref16.list", 90), ("anvil/anvilref16.num", 88), ("anvil/anvilref16.ram", 57), ("anvil/anvilref16.take", 91)]),
  (106, [("anvil/watch.broken", 67), ("anvil/watch.row", 66)]),
  (162, [("anvil/watch.bytes", 121), ("anvil/watch.counts", 131), ("anvil/watch.first", 108), ("anvil/watch.inRam", 156), ("anvil/watch.kept", 126), ("anvil/watch.locks", 125), ("anvil/watch.memory", 123), ("anvil/watch.output", 137), ("anvil/watch.placed", 167), ("anvil/watch.registers", 119), ("anvil/watch.rules", 95), ("anvil/watch.second", 109), ("anvil/watch.storedAt", 134), ("anvil/watch.stores", 154), ("anvil/watch.trap", 127), ("anvil/watch.trapped", 139), ("anvil/watch.within", 155)]),
  (170, [("anvil/bus.raised", 197), ("anvil/bus.set", 75)])]
theorem mths_ok : okM Try.prog mths := ⟨⟨⟨_, Try.underlying75⟩, ⟨⟨{ name := "anvil/save.bytes", sig := 78, path := #[], func := some (39, true) }, by kernel_rfl, rfl, rfl⟩, ⟨{ name := "anvil/save.double", sig := 139, path := #[], func := some (185, true) }, by kernel_rfl, rfl, rfl⟩, ⟨{ name := "anvil/save.flag", sig := 143, path := #[], func := some (186, true) }, by kernel_rfl, rfl, rfl⟩, ⟨{ name := "anvil/save.list", sig := 152, path := #[], func := some (187, true) }, by kernel_rfl, rfl, rfl⟩, ⟨{ name := "anvil/save.number", sig := 81, path := #[], func := some (42, true) }, by kernel_rfl, rfl, rfl⟩, ⟨{ name := "anvil/save.octet", sig := 146, path := #[], func := some (188, true) }, by kernel_rfl, rfl, rfl⟩, ⟨{ name := "anvil/save.pages", sig := 78, path := #[], func := some (41, true) }, by kernel_rfl, rfl, rfl⟩, ⟨{ name := "anvil/save.place", sig := 141, path := #[], func := some (189, true) }, by kernel_rfl, rfl, rfl⟩, ⟨{ name := "anvil/save.word", sig := 149, path := #[], func := some (190, true) }, by kernel_rfl, rfl, rfl⟩, trivial⟩⟩,
  ⟨⟨_, Try.underlying89⟩, ⟨⟨{ name := "anvil/save.double", sig := 139, path := #[], func := some (191, true) }, by kernel_rfl, rfl, rfl⟩, ⟨{ name := "anvil/save.flag", sig := 143, path := #[], func := some (192, true) }, by kernel_rfl, rfl, rfl⟩, ⟨{ name := "anvil/save.list", sig := 152, path := #[], func := some (193, true) }, by kernel_rfl, rfl, rfl⟩, ⟨{ name := "anvil/save.number", sig := 92, path := #[], func := some (53, true) }, by kernel_rfl, rfl, rfl⟩, ⟨{ name := "anvil/save.octet", sig := 146, path := #[], func := some (194, true) }, by kernel_rfl, rfl, rfl⟩, ⟨{ name := "anvil/save.pages", sig := 83, path := #[], func := some (54, true) }, by kernel_rfl, rfl, rfl⟩, ⟨{ name := "anvil/save.place", sig := 141, path := #[], func := some (195, true) }, by kernel_rfl, rfl, rfl⟩, ⟨{ name := "anvil/save.take", sig := 159, path := #[], func := some (87, true) }, by kernel_rfl, rfl, rfl⟩, ⟨{ name := "anvil/save.word", sig := 149, path := #[], func := some (196, true) }, by kernel_rfl, rfl, rfl⟩, trivial⟩⟩,
  ⟨⟨_, Try.underlying93⟩, ⟨⟨{ name := "anvil/anvilref16.cpu", sig := 96, path := #[], func := some (55, true) }, by kernel_rfl, rfl, rfl⟩, ⟨{ name := "anvil/anvilref16.devices", sig := 97, path := #[], func := some (56, true) }, by kernel_rfl, rfl, rfl⟩, ⟨{ name := "anvil/anvilref16.flag", sig := 22, path := #[], func := some (89, true) }, by kernel_rfl, rfl, rfl⟩, ⟨{ name := "anvil/anvilref16.list", sig := 160, path := #[], func := some (90, true) }, by kernel_rfl, rfl, rfl⟩, ⟨{ name := "anvil/anvilref16.num", sig := 92, path := #[], func := some (88, true) }, by kernel_rfl, rfl, rfl⟩, ⟨{ name := "anvil/anvilref16.ram", sig := 83, path := #[], func := some (57, true) }, by kernel_rfl, rfl, rfl⟩, ⟨{ name := "anvil/anvilref16.take", sig := 159, path := #[], func := some (91, true) }, by kernel_rfl, rfl, rfl⟩, trivial⟩⟩,
  ⟨⟨_, Try.underlying106⟩, ⟨⟨{ name := "anvil/watch.broken", sig := 111, path := #[], func := some (67, true) }, by kernel_rfl, rfl, rfl⟩, ⟨{ name := "anvil/watch.row", sig := 110, path := #[], func := some (66, true) }, by kernel_rfl, rfl, rfl⟩, trivial⟩⟩,
  ⟨⟨_, Try.underlying162⟩, ⟨⟨{ name := "anvil/watch.bytes", sig := 179, path := #[], func := some (121, true) }, by kernel_rfl, rfl, rfl⟩, ⟨{ name := "anvil/watch.counts", sig := 22, path := #[], func := some (131, true) }, by kernel_rfl, rfl, rfl⟩, ⟨{ name := "anvil/watch.first", sig := 166, path := #[], func := some (108, true) }, by kernel_rfl, rfl, rfl⟩, ⟨{ name := "anvil/watch.inRam", sig := 22, path := #[], func := some (156, true) }, by kernel_rfl, rfl, rfl⟩, ⟨{ name := "anvil/watch.kept", sig := 22, path := #[], func := some (126, true) }, by kernel_rfl, rfl, rfl⟩, ⟨{ name := "anvil/watch.locks", sig := 22, path := #[], func := some (125, true) }, by kernel_rfl, rfl, rfl⟩, ⟨{ name := "anvil/watch.memory", sig := 22, path := #[], func := some (123, true) }, by kernel_rfl, rfl, rfl⟩, ⟨{ name := "anvil/watch.output", sig := 22, path := #[], func := some (137, true) }, by kernel_rfl, rfl, rfl⟩, ⟨{ name := "anvil/watch.placed", sig := 22, path := #[], func := some (167, true) }, by kernel_rfl, rfl, rfl⟩, ⟨{ name := "anvil/watch.registers", sig := 22, path := #[], func := some (119, true) }, by kernel_rfl, rfl, rfl⟩, ⟨{ name := "anvil/watch.rules", sig := 166, path := #[], func := some (95, true) }, by kernel_rfl, rfl, rfl⟩, ⟨{ name := "anvil/watch.second", sig := 166, path := #[], func := some (109, true) }, by kernel_rfl, rfl, rfl⟩, ⟨{ name := "anvil/watch.storedAt", sig := 182, path := #[], func := some (134, true) }, by kernel_rfl, rfl, rfl⟩, ⟨{ name := "anvil/watch.stores", sig := 22, path := #[], func := some (154, true) }, by kernel_rfl, rfl, rfl⟩, ⟨{ name := "anvil/watch.trap", sig := 22, path := #[], func := some (127, true) }, by kernel_rfl, rfl, rfl⟩, ⟨{ name := "anvil/watch.trapped", sig := 22, path := #[], func := some (139, true) }, by kernel_rfl, rfl, rfl⟩, ⟨{ name := "anvil/watch.within", sig := 180, path := #[], func := some (155, true) }, by kernel_rfl, rfl, rfl⟩, trivial⟩⟩,
  ⟨⟨_, Try.underlying170⟩, ⟨⟨{ name := "anvil/bus.raised", sig := 22, path := #[], func := some (197, true) }, by kernel_rfl, rfl, rfl⟩, ⟨{ name := "anvil/bus.set", sig := 133, path := #[], func := some (75, true) }, by kernel_rfl, rfl, rfl⟩, trivial⟩⟩,
  trivial⟩
noncomputable def TB : Tbl := { P := Try.prog, ty := tblT tys, mth := mthL mths, eqs := eqL eqs, mixed := by kernel_rfl, tyOk := tblT_ok tys_ok, eqOk := eqL_ok eqs_ok, mthOk := mthL_ok mths_ok }
end Go.Proofs.Ytghcdkpgcanpgaa
