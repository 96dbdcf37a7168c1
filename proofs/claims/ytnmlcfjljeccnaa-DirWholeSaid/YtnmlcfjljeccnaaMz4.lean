/- What the laws of this seat need, part 4. -/
import Derived.Test.YtnmlcfjljeccnaaMz3
import Derived.Test.YtnmlcfjljeccnaaProg
import Derived.Lib.Hide
import Derived.Shelf.SlGeneric
import Derived.Shelf.SortM.Plain
import Derived.Shelf.SortM.SortNone
import Derived.Ground.SlgmProg
import Derived.Lib.OwnBridge
import Derived.Sort.OwnSorted
import Derived.Maps.Range
/- The table of types. Written by wip/tools/tt.py. -/
namespace Go.Proofs.Ytnmlcfjljeccnaa.A
open Go
def ti1 : TI := { desc := (Go.TypeDesc.func #[] #[] false), size := 1, bytes := 8, zero := .nilFunc, cells := [.raw] }
def ti2 : TI := { desc := (Go.TypeDesc.int Go.IntKind.i64), size := 1, bytes := 8, zero := .int .i64 0, cells := [.int .i64] }
def ti3 : TI := { desc := (Go.TypeDesc.int Go.IntKind.i64), size := 1, bytes := 8, zero := .int .i64 0, cells := [.int .i64] }
def ti4 : TI := { desc := Go.TypeDesc.bool, size := 1, bytes := 1, zero := .bool false, cells := [.bool] }
def ti5 : TI := { desc := (Go.TypeDesc.int Go.IntKind.u8), size := 1, bytes := 1, zero := .int .u8 0, cells := [.int .u8] }
def ti6 : TI := { desc := (Go.TypeDesc.int Go.IntKind.u8), size := 1, bytes := 1, zero := .int .u8 0, cells := [.int .u8] }
def ti7 : TI := { desc := (Go.TypeDesc.struct #[{ name := "x", type := 2, offset := 0, embedded := false, tag := "", pkgPath := "runtime", byteOffset := 0 }, { name := "y", type := 3, offset := 1, embedded := false, tag := "", pkgPath := "runtime", byteOffset := 8 }, { name := "signed", type := 4, offset := 2, embedded := false, tag := "", pkgPath := "runtime", byteOffset := 16 }, { name := "code", type := 6, offset := 3, embedded := false, tag := "", pkgPath := "runtime", byteOffset := 17 }]), size := 4, bytes := 24, zero := .agg #[.int .i64 0, .int .i64 0, .bool false, .int .u8 0], cells := [.int .i64, .int .i64, .bool, .int .u8] }
def ti8 : TI := { desc := (Go.TypeDesc.struct #[{ name := "x", type := 2, offset := 0, embedded := false, tag := "", pkgPath := "runtime", byteOffset := 0 }, { name := "y", type := 3, offset := 1, embedded := false, tag := "", pkgPath := "runtime", byteOffset := 8 }, { name := "signed", type := 4, offset := 2, embedded := false, tag := "", pkgPath := "runtime", byteOffset := 16 }, { name := "code", type := 6, offset := 3, embedded := false, tag := "", pkgPath := "runtime", byteOffset := 17 }]), size := 4, bytes := 24, zero := .agg #[.int .i64 0, .int .i64 0, .bool false, .int .u8 0], cells := [.int .i64, .int .i64, .bool, .int .u8] }
def ti9 : TI := { desc := Go.TypeDesc.string, size := 1, bytes := 16, zero := .string ByteArray.empty, cells := [.str] }
def ti10 : TI := { desc := Go.TypeDesc.string, size := 1, bytes := 16, zero := .string ByteArray.empty, cells := [.str] }
def ti11 : TI := { desc := Go.TypeDesc.string, size := 1, bytes := 16, zero := .string ByteArray.empty, cells := [.str] }
def ti12 : TI := { desc := (Go.TypeDesc.int Go.IntKind.u64), size := 1, bytes := 8, zero := .int .u64 0, cells := [.int .u64] }
def ti13 : TI := { desc := (Go.TypeDesc.struct #[{ name := "msg", type := 9, offset := 0, embedded := false, tag := "", pkgPath := "runtime", byteOffset := 0 }, { name := "addr", type := 12, offset := 1, embedded := false, tag := "", pkgPath := "runtime", byteOffset := 16 }]), size := 2, bytes := 24, zero := .agg #[.string ByteArray.empty, .int .u64 0], cells := [.str, .int .u64] }
def ti14 : TI := { desc := (Go.TypeDesc.struct #[{ name := "msg", type := 9, offset := 0, embedded := false, tag := "", pkgPath := "runtime", byteOffset := 0 }, { name := "addr", type := 12, offset := 1, embedded := false, tag := "", pkgPath := "runtime", byteOffset := 16 }]), size := 2, bytes := 24, zero := .agg #[.string ByteArray.empty, .int .u64 0], cells := [.str, .int .u64] }
def ti15 : TI := { desc := (Go.TypeDesc.pointer 155), size := 1, bytes := 8, zero := .pointer none, cells := [.raw] }
def ti16 : TI := { desc := (Go.TypeDesc.pointer 158), size := 1, bytes := 8, zero := .pointer none, cells := [.raw] }
def ti17 : TI := { desc := (Go.TypeDesc.pointer 166), size := 1, bytes := 8, zero := .pointer none, cells := [.raw] }
def ti18 : TI := { desc := (Go.TypeDesc.struct #[{ name := "typ", type := 17, offset := 0, embedded := false, tag := "", pkgPath := "internal/runtime/maps", byteOffset := 0 }]), size := 1, bytes := 8, zero := .agg #[.pointer none], cells := [.raw] }
def ti19 : TI := { desc := (Go.TypeDesc.struct #[{ name := "typ", type := 17, offset := 0, embedded := false, tag := "", pkgPath := "internal/runtime/maps", byteOffset := 0 }]), size := 1, bytes := 8, zero := .agg #[.pointer none], cells := [.raw] }
def ti20 : TI := { desc := (Go.TypeDesc.interface #[]), size := 1, bytes := 16, zero := .nilIface, cells := [.raw] }
def ti21 : TI := { desc := (Go.TypeDesc.int Go.IntKind.i32), size := 1, bytes := 4, zero := .int .i32 0, cells := [.int .i32] }
def ti22 : TI := { desc := (Go.TypeDesc.slice 28), size := 1, bytes := 24, zero := .slice none 0 0, cells := [.sl] }
def ti23 : TI := { desc := (Go.TypeDesc.func #[] #[4] false), size := 1, bytes := 8, zero := .nilFunc, cells := [.raw] }
def ti24 : TI := { desc := (Go.TypeDesc.pointer 95), size := 1, bytes := 8, zero := .pointer none, cells := [.raw] }
def ti25 : TI := { desc := (Go.TypeDesc.func #[] #[24] false), size := 1, bytes := 8, zero := .nilFunc, cells := [.raw] }
def ti26 : TI := { desc := (Go.TypeDesc.slice 31), size := 1, bytes := 24, zero := .slice none 0 0, cells := [.sl] }
def ti27 : TI := { desc := (Go.TypeDesc.struct #[{ name := "Kind", type := 3, offset := 0, embedded := false, tag := "", pkgPath := "", byteOffset := 0 }, { name := "Faults", type := 26, offset := 1, embedded := false, tag := "", pkgPath := "", byteOffset := 8 }]), size := 2, bytes := 32, zero := .agg #[.int .i64 0, .slice none 0 0], cells := [.int .i64, .sl] }
def ti28 : TI := { desc := (Go.TypeDesc.struct #[{ name := "Kind", type := 3, offset := 0, embedded := false, tag := "", pkgPath := "", byteOffset := 0 }, { name := "Faults", type := 26, offset := 1, embedded := false, tag := "", pkgPath := "", byteOffset := 8 }]), size := 2, bytes := 32, zero := .agg #[.int .i64 0, .slice none 0 0], cells := [.int .i64, .sl] }
def ti29 : TI := { desc := (Go.TypeDesc.int Go.IntKind.i64), size := 1, bytes := 8, zero := .int .i64 0, cells := [.int .i64] }
def ti30 : TI := { desc := (Go.TypeDesc.struct #[{ name := "At", type := 3, offset := 0, embedded := false, tag := "", pkgPath := "", byteOffset := 0 }, { name := "Kind", type := 3, offset := 1, embedded := false, tag := "", pkgPath := "", byteOffset := 8 }]), size := 2, bytes := 16, zero := .agg #[.int .i64 0, .int .i64 0], cells := [.int .i64, .int .i64] }
def ti31 : TI := { desc := (Go.TypeDesc.struct #[{ name := "At", type := 3, offset := 0, embedded := false, tag := "", pkgPath := "", byteOffset := 0 }, { name := "Kind", type := 3, offset := 1, embedded := false, tag := "", pkgPath := "", byteOffset := 8 }]), size := 2, bytes := 16, zero := .agg #[.int .i64 0, .int .i64 0], cells := [.int .i64, .int .i64] }
def ti32 : TI := { desc := (Go.TypeDesc.func #[] #[29] false), size := 1, bytes := 8, zero := .nilFunc, cells := [.raw] }
def ti33 : TI := { desc := (Go.TypeDesc.func #[31] #[4] false), size := 1, bytes := 8, zero := .nilFunc, cells := [.raw] }
def ti34 : TI := { desc := (Go.TypeDesc.func #[26] #[3] true), size := 1, bytes := 8, zero := .nilFunc, cells := [.raw] }
def ti35 : TI := { desc := (Go.TypeDesc.func #[] #[26] false), size := 1, bytes := 8, zero := .nilFunc, cells := [.raw] }
def ti36 : TI := { desc := (Go.TypeDesc.func #[] #[3] false), size := 1, bytes := 8, zero := .nilFunc, cells := [.raw] }
def ti37 : TI := { desc := (Go.TypeDesc.func #[22] #[4] false), size := 1, bytes := 8, zero := .nilFunc, cells := [.raw] }
def ti38 : TI := { desc := (Go.TypeDesc.slice 5), size := 1, bytes := 24, zero := .slice none 0 0, cells := [.sl] }
def ti39 : TI := { desc := (Go.TypeDesc.slice 49), size := 1, bytes := 24, zero := .slice none 0 0, cells := [.sl] }
def ti40 : TI := { desc := (Go.TypeDesc.func #[39] #[4] false), size := 1, bytes := 8, zero := .nilFunc, cells := [.raw] }
def ti41 : TI := { desc := (Go.TypeDesc.pointer 100), size := 1, bytes := 8, zero := .pointer none, cells := [.raw] }
def ti42 : TI := { desc := (Go.TypeDesc.func #[38] #[41] true), size := 1, bytes := 8, zero := .nilFunc, cells := [.raw] }
def ti43 : TI := { desc := (Go.TypeDesc.struct #[{ name := "Now", type := 38, offset := 0, embedded := false, tag := "", pkgPath := "", byteOffset := 0 }, { name := "Safe", type := 38, offset := 1, embedded := false, tag := "", pkgPath := "", byteOffset := 24 }]), size := 2, bytes := 48, zero := .agg #[.slice none 0 0, .slice none 0 0], cells := [.sl, .sl] }
def ti44 : TI := { desc := (Go.TypeDesc.struct #[{ name := "Now", type := 38, offset := 0, embedded := false, tag := "", pkgPath := "", byteOffset := 0 }, { name := "Safe", type := 38, offset := 1, embedded := false, tag := "", pkgPath := "", byteOffset := 24 }]), size := 2, bytes := 48, zero := .agg #[.slice none 0 0, .slice none 0 0], cells := [.sl, .sl] }
def ti46 : TI := { desc := (Go.TypeDesc.func #[41, 44, 49] #[44, 4] false), size := 1, bytes := 8, zero := .nilFunc, cells := [.raw] }
def ti47 : TI := { desc := (Go.TypeDesc.slice 3), size := 1, bytes := 24, zero := .slice none 0 0, cells := [.sl] }
def ti48 : TI := { desc := (Go.TypeDesc.struct #[{ name := "Kind", type := 3, offset := 0, embedded := false, tag := "", pkgPath := "", byteOffset := 0 }, { name := "B", type := 38, offset := 1, embedded := false, tag := "", pkgPath := "", byteOffset := 8 }, { name := "N", type := 3, offset := 2, embedded := false, tag := "", pkgPath := "", byteOffset := 32 }, { name := "Cuts", type := 47, offset := 3, embedded := false, tag := "", pkgPath := "", byteOffset := 40 }]), size := 4, bytes := 64, zero := .agg #[.int .i64 0, .slice none 0 0, .int .i64 0, .slice none 0 0], cells := [.int .i64, .sl, .int .i64, .sl] }
def ti49 : TI := { desc := (Go.TypeDesc.struct #[{ name := "Kind", type := 3, offset := 0, embedded := false, tag := "", pkgPath := "", byteOffset := 0 }, { name := "B", type := 38, offset := 1, embedded := false, tag := "", pkgPath := "", byteOffset := 8 }, { name := "N", type := 3, offset := 2, embedded := false, tag := "", pkgPath := "", byteOffset := 32 }, { name := "Cuts", type := 47, offset := 3, embedded := false, tag := "", pkgPath := "", byteOffset := 40 }]), size := 4, bytes := 64, zero := .agg #[.int .i64 0, .slice none 0 0, .int .i64 0, .slice none 0 0], cells := [.int .i64, .sl, .int .i64, .sl] }
def ti50 : TI := { desc := (Go.TypeDesc.func #[] #[38] false), size := 1, bytes := 8, zero := .nilFunc, cells := [.raw] }
def ti51 : TI := { desc := (Go.TypeDesc.func #[44] #[3] false), size := 1, bytes := 8, zero := .nilFunc, cells := [.raw] }
def ti52 : TI := { desc := (Go.TypeDesc.func #[38, 39] #[4] false), size := 1, bytes := 8, zero := .nilFunc, cells := [.raw] }
def ti53 : TI := { desc := (Go.TypeDesc.slice 65), size := 1, bytes := 24, zero := .slice none 0 0, cells := [.sl] }
def ti54 : TI := { desc := (Go.TypeDesc.func #[53] #[4] false), size := 1, bytes := 8, zero := .nilFunc, cells := [.raw] }
def ti55 : TI := { desc := (Go.TypeDesc.pointer 111), size := 1, bytes := 8, zero := .pointer none, cells := [.raw] }
def ti56 : TI := { desc := (Go.TypeDesc.func #[] #[55] false), size := 1, bytes := 8, zero := .nilFunc, cells := [.raw] }
def ti57 : TI := { desc := (Go.TypeDesc.slice 71), size := 1, bytes := 24, zero := .slice none 0 0, cells := [.sl] }
def ti58 : TI := { desc := (Go.TypeDesc.slice 114), size := 1, bytes := 24, zero := .slice none 0 0, cells := [.sl] }
def ti59 : TI := { desc := (Go.TypeDesc.struct #[{ name := "Now", type := 57, offset := 0, embedded := false, tag := "", pkgPath := "", byteOffset := 0 }, { name := "Safe", type := 57, offset := 1, embedded := false, tag := "", pkgPath := "", byteOffset := 24 }, { name := "Ops", type := 58, offset := 2, embedded := false, tag := "", pkgPath := "", byteOffset := 48 }]), size := 3, bytes := 72, zero := .agg #[.slice none 0 0, .slice none 0 0, .slice none 0 0], cells := [.sl, .sl, .sl] }
def ti60 : TI := { desc := (Go.TypeDesc.struct #[{ name := "Now", type := 57, offset := 0, embedded := false, tag := "", pkgPath := "", byteOffset := 0 }, { name := "Safe", type := 57, offset := 1, embedded := false, tag := "", pkgPath := "", byteOffset := 24 }, { name := "Ops", type := 58, offset := 2, embedded := false, tag := "", pkgPath := "", byteOffset := 48 }]), size := 3, bytes := 72, zero := .agg #[.slice none 0 0, .slice none 0 0, .slice none 0 0], cells := [.sl, .sl, .sl] }
def ti62 : TI := { desc := (Go.TypeDesc.func #[55, 60, 65] #[60, 4] false), size := 1, bytes := 8, zero := .nilFunc, cells := [.raw] }
def ti63 : TI := { desc := (Go.TypeDesc.slice 4), size := 1, bytes := 24, zero := .slice none 0 0, cells := [.sl] }
def ti64 : TI := { desc := (Go.TypeDesc.struct #[{ name := "Kind", type := 3, offset := 0, embedded := false, tag := "", pkgPath := "", byteOffset := 0 }, { name := "A", type := 9, offset := 1, embedded := false, tag := "", pkgPath := "", byteOffset := 8 }, { name := "B", type := 9, offset := 2, embedded := false, tag := "", pkgPath := "", byteOffset := 24 }, { name := "N", type := 3, offset := 3, embedded := false, tag := "", pkgPath := "", byteOffset := 40 }, { name := "Keep", type := 63, offset := 4, embedded := false, tag := "", pkgPath := "", byteOffset := 48 }]), size := 5, bytes := 72, zero := .agg #[.int .i64 0, .string ByteArray.empty, .string ByteArray.empty, .int .i64 0, .slice none 0 0], cells := [.int .i64, .str, .str, .int .i64, .sl] }
def ti65 : TI := { desc := (Go.TypeDesc.struct #[{ name := "Kind", type := 3, offset := 0, embedded := false, tag := "", pkgPath := "", byteOffset := 0 }, { name := "A", type := 9, offset := 1, embedded := false, tag := "", pkgPath := "", byteOffset := 8 }, { name := "B", type := 9, offset := 2, embedded := false, tag := "", pkgPath := "", byteOffset := 24 }, { name := "N", type := 3, offset := 3, embedded := false, tag := "", pkgPath := "", byteOffset := 40 }, { name := "Keep", type := 63, offset := 4, embedded := false, tag := "", pkgPath := "", byteOffset := 48 }]), size := 5, bytes := 72, zero := .agg #[.int .i64 0, .string ByteArray.empty, .string ByteArray.empty, .int .i64 0, .slice none 0 0], cells := [.int .i64, .str, .str, .int .i64, .sl] }
def ti66 : TI := { desc := (Go.TypeDesc.slice 9), size := 1, bytes := 24, zero := .slice none 0 0, cells := [.sl] }
def ti67 : TI := { desc := (Go.TypeDesc.func #[] #[66] false), size := 1, bytes := 8, zero := .nilFunc, cells := [.raw] }
def ti69 : TI := { desc := (Go.TypeDesc.func #[9] #[3, 4] false), size := 1, bytes := 8, zero := .nilFunc, cells := [.raw] }
def ti70 : TI := { desc := (Go.TypeDesc.struct #[{ name := "Name", type := 9, offset := 0, embedded := false, tag := "", pkgPath := "", byteOffset := 0 }, { name := "N", type := 3, offset := 1, embedded := false, tag := "", pkgPath := "", byteOffset := 16 }]), size := 2, bytes := 24, zero := .agg #[.string ByteArray.empty, .int .i64 0], cells := [.str, .int .i64] }
def ti71 : TI := { desc := (Go.TypeDesc.struct #[{ name := "Name", type := 9, offset := 0, embedded := false, tag := "", pkgPath := "", byteOffset := 0 }, { name := "N", type := 3, offset := 1, embedded := false, tag := "", pkgPath := "", byteOffset := 16 }]), size := 2, bytes := 24, zero := .agg #[.string ByteArray.empty, .int .i64 0], cells := [.str, .int .i64] }
def ti72 : TI := { desc := (Go.TypeDesc.func #[57, 9] #[3] false), size := 1, bytes := 8, zero := .nilFunc, cells := [.raw] }
def ti73 : TI := { desc := (Go.TypeDesc.func #[53, 9] #[4] false), size := 1, bytes := 8, zero := .nilFunc, cells := [.raw] }
def ti74 : TI := { desc := (Go.TypeDesc.func #[63] #[] true), size := 1, bytes := 8, zero := .nilFunc, cells := [.raw] }
def ti75 : TI := { desc := (Go.TypeDesc.func #[9] #[4] false), size := 1, bytes := 8, zero := .nilFunc, cells := [.raw] }
def ti76 : TI := { desc := (Go.TypeDesc.slice 85), size := 1, bytes := 24, zero := .slice none 0 0, cells := [.sl] }
def ti77 : TI := { desc := (Go.TypeDesc.struct #[{ name := "Keep", type := 63, offset := 0, embedded := false, tag := "", pkgPath := "", byteOffset := 0 }, { name := "Sizes", type := 47, offset := 1, embedded := false, tag := "", pkgPath := "", byteOffset := 24 }, { name := "Cuts", type := 47, offset := 2, embedded := false, tag := "", pkgPath := "", byteOffset := 48 }]), size := 3, bytes := 72, zero := .agg #[.slice none 0 0, .slice none 0 0, .slice none 0 0], cells := [.sl, .sl, .sl] }
def ti78 : TI := { desc := (Go.TypeDesc.struct #[{ name := "Keep", type := 63, offset := 0, embedded := false, tag := "", pkgPath := "", byteOffset := 0 }, { name := "Sizes", type := 47, offset := 1, embedded := false, tag := "", pkgPath := "", byteOffset := 24 }, { name := "Cuts", type := 47, offset := 2, embedded := false, tag := "", pkgPath := "", byteOffset := 48 }]), size := 3, bytes := 72, zero := .agg #[.slice none 0 0, .slice none 0 0, .slice none 0 0], cells := [.sl, .sl, .sl] }
def ti79 : TI := { desc := (Go.TypeDesc.func #[76] #[3] false), size := 1, bytes := 8, zero := .nilFunc, cells := [.raw] }
def ti80 : TI := { desc := (Go.TypeDesc.pointer 92), size := 1, bytes := 8, zero := .pointer none, cells := [.raw] }
def ti81 : TI := { desc := (Go.TypeDesc.func #[3] #[80] false), size := 1, bytes := 8, zero := .nilFunc, cells := [.raw] }
def ti82 : TI := { desc := (Go.TypeDesc.func #[9] #[29] false), size := 1, bytes := 8, zero := .nilFunc, cells := [.raw] }
def ti83 : TI := { desc := (Go.TypeDesc.func #[9, 123] #[29] true), size := 1, bytes := 8, zero := .nilFunc, cells := [.raw] }
def ti84 : TI := { desc := (Go.TypeDesc.struct #[{ name := "Kind", type := 3, offset := 0, embedded := false, tag := "", pkgPath := "", byteOffset := 0 }, { name := "A", type := 9, offset := 1, embedded := false, tag := "", pkgPath := "", byteOffset := 8 }, { name := "B", type := 9, offset := 2, embedded := false, tag := "", pkgPath := "", byteOffset := 24 }, { name := "Data", type := 38, offset := 3, embedded := false, tag := "", pkgPath := "", byteOffset := 40 }, { name := "N", type := 3, offset := 4, embedded := false, tag := "", pkgPath := "", byteOffset := 64 }, { name := "Kept", type := 63, offset := 5, embedded := false, tag := "", pkgPath := "", byteOffset := 72 }, { name := "Sizes", type := 47, offset := 6, embedded := false, tag := "", pkgPath := "", byteOffset := 96 }, { name := "Cuts", type := 47, offset := 7, embedded := false, tag := "", pkgPath := "", byteOffset := 120 }]), size := 8, bytes := 144, zero := .agg #[.int .i64 0, .string ByteArray.empty, .string ByteArray.empty, .slice none 0 0, .int .i64 0, .slice none 0 0, .slice none 0 0, .slice none 0 0], cells := [.int .i64, .str, .str, .sl, .int .i64, .sl, .sl, .sl] }
def ti85 : TI := { desc := (Go.TypeDesc.struct #[{ name := "Kind", type := 3, offset := 0, embedded := false, tag := "", pkgPath := "", byteOffset := 0 }, { name := "A", type := 9, offset := 1, embedded := false, tag := "", pkgPath := "", byteOffset := 8 }, { name := "B", type := 9, offset := 2, embedded := false, tag := "", pkgPath := "", byteOffset := 24 }, { name := "Data", type := 38, offset := 3, embedded := false, tag := "", pkgPath := "", byteOffset := 40 }, { name := "N", type := 3, offset := 4, embedded := false, tag := "", pkgPath := "", byteOffset := 64 }, { name := "Kept", type := 63, offset := 5, embedded := false, tag := "", pkgPath := "", byteOffset := 72 }, { name := "Sizes", type := 47, offset := 6, embedded := false, tag := "", pkgPath := "", byteOffset := 96 }, { name := "Cuts", type := 47, offset := 7, embedded := false, tag := "", pkgPath := "", byteOffset := 120 }]), size := 8, bytes := 144, zero := .agg #[.int .i64 0, .string ByteArray.empty, .string ByteArray.empty, .slice none 0 0, .int .i64 0, .slice none 0 0, .slice none 0 0, .slice none 0 0], cells := [.int .i64, .str, .str, .sl, .int .i64, .sl, .sl, .sl] }
def ti86 : TI := { desc := (Go.TypeDesc.func #[80, 85] #[3] false), size := 1, bytes := 8, zero := .nilFunc, cells := [.raw] }
def ti87 : TI := { desc := (Go.TypeDesc.func #[78] #[] false), size := 1, bytes := 8, zero := .nilFunc, cells := [.raw] }
def ti89 : TI := { desc := (Go.TypeDesc.func #[9] #[38, 29] false), size := 1, bytes := 8, zero := .nilFunc, cells := [.raw] }
def ti90 : TI := { desc := (Go.TypeDesc.map 3 41), size := 1, bytes := 8, zero := .map none, cells := [.raw] }
def ti91 : TI := { desc := (Go.TypeDesc.struct #[{ name := "Meter", type := 24, offset := 0, embedded := true, tag := "", pkgPath := "", byteOffset := 0 }, { name := "names", type := 55, offset := 1, embedded := false, tag := "", pkgPath := "repertory/disk", byteOffset := 8 }, { name := "files", type := 90, offset := 2, embedded := false, tag := "", pkgPath := "repertory/disk", byteOffset := 16 }, { name := "next", type := 3, offset := 3, embedded := false, tag := "", pkgPath := "repertory/disk", byteOffset := 24 }, { name := "room", type := 3, offset := 4, embedded := false, tag := "", pkgPath := "repertory/disk", byteOffset := 32 }]), size := 5, bytes := 40, zero := .agg #[.pointer none, .pointer none, .map none, .int .i64 0, .int .i64 0], cells := [.raw, .raw, .raw, .int .i64, .int .i64] }
def ti92 : TI := { desc := (Go.TypeDesc.struct #[{ name := "Meter", type := 24, offset := 0, embedded := true, tag := "", pkgPath := "", byteOffset := 0 }, { name := "names", type := 55, offset := 1, embedded := false, tag := "", pkgPath := "repertory/disk", byteOffset := 8 }, { name := "files", type := 90, offset := 2, embedded := false, tag := "", pkgPath := "repertory/disk", byteOffset := 16 }, { name := "next", type := 3, offset := 3, embedded := false, tag := "", pkgPath := "repertory/disk", byteOffset := 24 }, { name := "room", type := 3, offset := 4, embedded := false, tag := "", pkgPath := "repertory/disk", byteOffset := 32 }]), size := 5, bytes := 40, zero := .agg #[.pointer none, .pointer none, .map none, .int .i64 0, .int .i64 0], cells := [.raw, .raw, .raw, .int .i64, .int .i64] }
def ti93 : TI := { desc := (Go.TypeDesc.func #[38, 76, 78] #[4] false), size := 1, bytes := 8, zero := .nilFunc, cells := [.raw] }
def ti94 : TI := { desc := (Go.TypeDesc.struct #[{ name := "steps", type := 3, offset := 0, embedded := false, tag := "", pkgPath := "repertory/fault", byteOffset := 0 }, { name := "down", type := 4, offset := 1, embedded := false, tag := "", pkgPath := "repertory/fault", byteOffset := 8 }, { name := "armed", type := 26, offset := 2, embedded := false, tag := "", pkgPath := "repertory/fault", byteOffset := 16 }]), size := 3, bytes := 40, zero := .agg #[.int .i64 0, .bool false, .slice none 0 0], cells := [.int .i64, .bool, .sl] }
def ti95 : TI := { desc := (Go.TypeDesc.struct #[{ name := "steps", type := 3, offset := 0, embedded := false, tag := "", pkgPath := "repertory/fault", byteOffset := 0 }, { name := "down", type := 4, offset := 1, embedded := false, tag := "", pkgPath := "repertory/fault", byteOffset := 8 }, { name := "armed", type := 26, offset := 2, embedded := false, tag := "", pkgPath := "repertory/fault", byteOffset := 16 }]), size := 3, bytes := 40, zero := .agg #[.int .i64 0, .bool false, .slice none 0 0], cells := [.int .i64, .bool, .sl] }
def ti96 : TI := { desc := (Go.TypeDesc.func #[26, 33] #[3] false), size := 1, bytes := 8, zero := .nilFunc, cells := [.raw] }
def ti97 : TI := { desc := (Go.TypeDesc.func #[38] #[4] true), size := 1, bytes := 8, zero := .nilFunc, cells := [.raw] }
def ti98 : TI := { desc := (Go.TypeDesc.func #[3, 47] #[3] true), size := 1, bytes := 8, zero := .nilFunc, cells := [.raw] }
def ti99 : TI := { desc := (Go.TypeDesc.struct #[{ name := "b", type := 38, offset := 0, embedded := false, tag := "", pkgPath := "repertory/inode", byteOffset := 0 }, { name := "safe", type := 3, offset := 1, embedded := false, tag := "", pkgPath := "repertory/inode", byteOffset := 24 }]), size := 2, bytes := 32, zero := .agg #[.slice none 0 0, .int .i64 0], cells := [.sl, .int .i64] }
def ti100 : TI := { desc := (Go.TypeDesc.struct #[{ name := "b", type := 38, offset := 0, embedded := false, tag := "", pkgPath := "repertory/inode", byteOffset := 0 }, { name := "safe", type := 3, offset := 1, embedded := false, tag := "", pkgPath := "repertory/inode", byteOffset := 24 }]), size := 2, bytes := 32, zero := .agg #[.slice none 0 0, .int .i64 0], cells := [.sl, .int .i64] }
def ti101 : TI := { desc := (Go.TypeDesc.func #[44, 3, 47] #[38] false), size := 1, bytes := 8, zero := .nilFunc, cells := [.raw] }
def ti102 : TI := { desc := (Go.TypeDesc.func #[44, 49] #[3] false), size := 1, bytes := 8, zero := .nilFunc, cells := [.raw] }
def ti103 : TI := { desc := (Go.TypeDesc.func #[38, 3] #[38] false), size := 1, bytes := 8, zero := .nilFunc, cells := [.raw] }
def ti104 : TI := { desc := (Go.TypeDesc.func #[3] #[4] false), size := 1, bytes := 8, zero := .nilFunc, cells := [.raw] }
def ti105 : TI := { desc := (Go.TypeDesc.func #[3] #[3] false), size := 1, bytes := 8, zero := .nilFunc, cells := [.raw] }
def ti106 : TI := { desc := (Go.TypeDesc.func #[9, 3] #[4] false), size := 1, bytes := 8, zero := .nilFunc, cells := [.raw] }
def ti107 : TI := { desc := (Go.TypeDesc.func #[9, 9] #[4] false), size := 1, bytes := 8, zero := .nilFunc, cells := [.raw] }
def ti108 : TI := { desc := (Go.TypeDesc.map 9 3), size := 1, bytes := 8, zero := .map none, cells := [.raw] }
def ti109 : TI := { desc := (Go.TypeDesc.slice 119), size := 1, bytes := 24, zero := .slice none 0 0, cells := [.sl] }
def ti110 : TI := { desc := (Go.TypeDesc.struct #[{ name := "now", type := 108, offset := 0, embedded := false, tag := "", pkgPath := "repertory/dir", byteOffset := 0 }, { name := "safe", type := 108, offset := 1, embedded := false, tag := "", pkgPath := "repertory/dir", byteOffset := 8 }, { name := "ops", type := 109, offset := 2, embedded := false, tag := "", pkgPath := "repertory/dir", byteOffset := 16 }]), size := 3, bytes := 40, zero := .agg #[.map none, .map none, .slice none 0 0], cells := [.raw, .raw, .sl] }
def ti111 : TI := { desc := (Go.TypeDesc.struct #[{ name := "now", type := 108, offset := 0, embedded := false, tag := "", pkgPath := "repertory/dir", byteOffset := 0 }, { name := "safe", type := 108, offset := 1, embedded := false, tag := "", pkgPath := "repertory/dir", byteOffset := 8 }, { name := "ops", type := 109, offset := 2, embedded := false, tag := "", pkgPath := "repertory/dir", byteOffset := 16 }]), size := 3, bytes := 40, zero := .agg #[.map none, .map none, .slice none 0 0], cells := [.raw, .raw, .sl] }
def ti112 : TI := { desc := (Go.TypeDesc.func #[60, 63] #[60] false), size := 1, bytes := 8, zero := .nilFunc, cells := [.raw] }
def ti113 : TI := { desc := (Go.TypeDesc.struct #[{ name := "Kind", type := 3, offset := 0, embedded := false, tag := "", pkgPath := "", byteOffset := 0 }, { name := "A", type := 9, offset := 1, embedded := false, tag := "", pkgPath := "", byteOffset := 8 }, { name := "B", type := 9, offset := 2, embedded := false, tag := "", pkgPath := "", byteOffset := 24 }, { name := "N", type := 3, offset := 3, embedded := false, tag := "", pkgPath := "", byteOffset := 40 }]), size := 4, bytes := 48, zero := .agg #[.int .i64 0, .string ByteArray.empty, .string ByteArray.empty, .int .i64 0], cells := [.int .i64, .str, .str, .int .i64] }
def ti114 : TI := { desc := (Go.TypeDesc.struct #[{ name := "Kind", type := 3, offset := 0, embedded := false, tag := "", pkgPath := "", byteOffset := 0 }, { name := "A", type := 9, offset := 1, embedded := false, tag := "", pkgPath := "", byteOffset := 8 }, { name := "B", type := 9, offset := 2, embedded := false, tag := "", pkgPath := "", byteOffset := 24 }, { name := "N", type := 3, offset := 3, embedded := false, tag := "", pkgPath := "", byteOffset := 40 }]), size := 4, bytes := 48, zero := .agg #[.int .i64 0, .string ByteArray.empty, .string ByteArray.empty, .int .i64 0], cells := [.int .i64, .str, .str, .int .i64] }
def ti115 : TI := { desc := (Go.TypeDesc.func #[57, 114] #[4] false), size := 1, bytes := 8, zero := .nilFunc, cells := [.raw] }
def ti116 : TI := { desc := (Go.TypeDesc.func #[60, 114] #[60] false), size := 1, bytes := 8, zero := .nilFunc, cells := [.raw] }
def ti117 : TI := { desc := (Go.TypeDesc.func #[66] #[] false), size := 1, bytes := 8, zero := .nilFunc, cells := [.raw] }
def ti118 : TI := { desc := (Go.TypeDesc.struct #[{ name := "kind", type := 3, offset := 0, embedded := false, tag := "", pkgPath := "repertory/dir", byteOffset := 0 }, { name := "a", type := 9, offset := 1, embedded := false, tag := "", pkgPath := "repertory/dir", byteOffset := 8 }, { name := "b", type := 9, offset := 2, embedded := false, tag := "", pkgPath := "repertory/dir", byteOffset := 24 }, { name := "n", type := 3, offset := 3, embedded := false, tag := "", pkgPath := "repertory/dir", byteOffset := 40 }]), size := 4, bytes := 48, zero := .agg #[.int .i64 0, .string ByteArray.empty, .string ByteArray.empty, .int .i64 0], cells := [.int .i64, .str, .str, .int .i64] }
def ti119 : TI := { desc := (Go.TypeDesc.struct #[{ name := "kind", type := 3, offset := 0, embedded := false, tag := "", pkgPath := "repertory/dir", byteOffset := 0 }, { name := "a", type := 9, offset := 1, embedded := false, tag := "", pkgPath := "repertory/dir", byteOffset := 8 }, { name := "b", type := 9, offset := 2, embedded := false, tag := "", pkgPath := "repertory/dir", byteOffset := 24 }, { name := "n", type := 3, offset := 3, embedded := false, tag := "", pkgPath := "repertory/dir", byteOffset := 40 }]), size := 4, bytes := 48, zero := .agg #[.int .i64 0, .string ByteArray.empty, .string ByteArray.empty, .int .i64 0], cells := [.int .i64, .str, .str, .int .i64] }
def ti120 : TI := { desc := (Go.TypeDesc.func #[108, 119] #[] false), size := 1, bytes := 8, zero := .nilFunc, cells := [.raw] }
def ti121 : TI := { desc := (Go.TypeDesc.func #[108] #[108] false), size := 1, bytes := 8, zero := .nilFunc, cells := [.raw] }
def ti122 : TI := { desc := (Go.TypeDesc.func #[9] #[41] false), size := 1, bytes := 8, zero := .nilFunc, cells := [.raw] }
def ti123 : TI := { desc := (Go.TypeDesc.slice 38), size := 1, bytes := 24, zero := .slice none 0 0, cells := [.sl] }
def ti124 : TI := { desc := (Go.TypeDesc.func #[9, 9] #[29] false), size := 1, bytes := 8, zero := .nilFunc, cells := [.raw] }
def ti125 : TI := { desc := (Go.TypeDesc.func #[119] #[4] false), size := 1, bytes := 8, zero := .nilFunc, cells := [.raw] }
def ti126 : TI := { desc := (Go.TypeDesc.func #[57, 114] #[57] false), size := 1, bytes := 8, zero := .nilFunc, cells := [.raw] }
def ti127 : TI := { desc := (Go.TypeDesc.func #[66, 3, 3, 3] #[] false), size := 1, bytes := 8, zero := .nilFunc, cells := [.raw] }
def ti128 : TI := { desc := (Go.TypeDesc.func #[129] #[3] false), size := 1, bytes := 8, zero := .nilFunc, cells := [.raw] }
def ti129 : TI := { desc := (Go.TypeDesc.int Go.IntKind.u64), size := 1, bytes := 8, zero := .int .u64 0, cells := [.int .u64] }
def ti130 : TI := { desc := (Go.TypeDesc.func #[20] #[20] false), size := 1, bytes := 8, zero := .nilFunc, cells := [.raw] }
def ti131 : TI := { desc := (Go.TypeDesc.func #[57, 9, 3] #[57] false), size := 1, bytes := 8, zero := .nilFunc, cells := [.raw] }
def ti132 : TI := { desc := (Go.TypeDesc.func #[57, 9] #[57] false), size := 1, bytes := 8, zero := .nilFunc, cells := [.raw] }
def ti133 : TI := { desc := (Go.TypeDesc.func #[66, 3, 3] #[] false), size := 1, bytes := 8, zero := .nilFunc, cells := [.raw] }
def ti134 : TI := { desc := (Go.TypeDesc.int Go.IntKind.i64), size := 1, bytes := 8, zero := .int .i64 0, cells := [.int .i64] }
def ti136 : TI := { desc := (Go.TypeDesc.func #[66, 3, 3] #[3, 134] false), size := 1, bytes := 8, zero := .nilFunc, cells := [.raw] }
def ti137 : TI := { desc := (Go.TypeDesc.func #[66, 3, 3] #[4] false), size := 1, bytes := 8, zero := .nilFunc, cells := [.raw] }
def ti138 : TI := { desc := (Go.TypeDesc.func #[66, 3, 3, 3] #[3] false), size := 1, bytes := 8, zero := .nilFunc, cells := [.raw] }
def ti139 : TI := { desc := (Go.TypeDesc.func #[66, 3, 3, 3] #[3, 4] false), size := 1, bytes := 8, zero := .nilFunc, cells := [.raw] }
def ti140 : TI := { desc := (Go.TypeDesc.func #[141] #[3] false), size := 1, bytes := 8, zero := .nilFunc, cells := [.raw] }
def ti141 : TI := { desc := (Go.TypeDesc.int Go.IntKind.u32), size := 1, bytes := 4, zero := .int .u32 0, cells := [.int .u32] }
def ti142 : TI := { desc := (Go.TypeDesc.func #[143] #[3] false), size := 1, bytes := 8, zero := .nilFunc, cells := [.raw] }
def ti143 : TI := { desc := (Go.TypeDesc.int Go.IntKind.u64), size := 1, bytes := 8, zero := .int .u64 0, cells := [.int .u64] }
def ti144 : TI := { desc := (Go.TypeDesc.int Go.IntKind.u64), size := 1, bytes := 8, zero := .int .u64 0, cells := [.int .u64] }
def ti145 : TI := { desc := (Go.TypeDesc.func #[3] #[129] false), size := 1, bytes := 8, zero := .nilFunc, cells := [.raw] }
def ti146 : TI := { desc := (Go.TypeDesc.func #[] #[143] false), size := 1, bytes := 8, zero := .nilFunc, cells := [.raw] }
def ti147 : TI := { desc := (Go.TypeDesc.func #[66, 3, 148] #[3] false), size := 1, bytes := 8, zero := .nilFunc, cells := [.raw] }
def ti148 : TI := { desc := (Go.TypeDesc.pointer 3), size := 1, bytes := 8, zero := .pointer none, cells := [.raw] }
def ti149 : TI := { desc := (Go.TypeDesc.func #[66, 3, 3, 3, 148] #[3] false), size := 1, bytes := 8, zero := .nilFunc, cells := [.raw] }
def ti150 : TI := { desc := (Go.TypeDesc.pointer 144), size := 1, bytes := 8, zero := .pointer none, cells := [.raw] }
def ti152 : TI := { desc := (Go.TypeDesc.func #[66, 3, 3, 148] #[3, 3] false), size := 1, bytes := 8, zero := .nilFunc, cells := [.raw] }
def ti153 : TI := { desc := (Go.TypeDesc.func #[] #[9] false), size := 1, bytes := 8, zero := .nilFunc, cells := [.raw] }
def ti154 : TI := { desc := (Go.TypeDesc.struct #[{ name := "_interface", type := 17, offset := 0, embedded := false, tag := "", pkgPath := "runtime", byteOffset := 0 }, { name := "concrete", type := 17, offset := 1, embedded := false, tag := "", pkgPath := "runtime", byteOffset := 8 }, { name := "asserted", type := 17, offset := 2, embedded := false, tag := "", pkgPath := "runtime", byteOffset := 16 }, { name := "missingMethod", type := 9, offset := 3, embedded := false, tag := "", pkgPath := "runtime", byteOffset := 24 }]), size := 4, bytes := 40, zero := .agg #[.pointer none, .pointer none, .pointer none, .string ByteArray.empty], cells := [.raw, .raw, .raw, .str] }
def ti155 : TI := { desc := (Go.TypeDesc.struct #[{ name := "_interface", type := 17, offset := 0, embedded := false, tag := "", pkgPath := "runtime", byteOffset := 0 }, { name := "concrete", type := 17, offset := 1, embedded := false, tag := "", pkgPath := "runtime", byteOffset := 8 }, { name := "asserted", type := 17, offset := 2, embedded := false, tag := "", pkgPath := "runtime", byteOffset := 16 }, { name := "missingMethod", type := 9, offset := 3, embedded := false, tag := "", pkgPath := "runtime", byteOffset := 24 }]), size := 4, bytes := 40, zero := .agg #[.pointer none, .pointer none, .pointer none, .string ByteArray.empty], cells := [.raw, .raw, .raw, .str] }
def ti156 : TI := { desc := (Go.TypeDesc.array 0 16), size := 0, bytes := 0, zero := .agg #[], cells := [] }
def ti157 : TI := { desc := (Go.TypeDesc.struct #[{ name := "_", type := 156, offset := 0, embedded := false, tag := "", pkgPath := "runtime", byteOffset := 0 }]), size := 0, bytes := 0, zero := .agg #[], cells := [] }
def ti158 : TI := { desc := (Go.TypeDesc.struct #[{ name := "_", type := 156, offset := 0, embedded := false, tag := "", pkgPath := "runtime", byteOffset := 0 }]), size := 0, bytes := 0, zero := .agg #[], cells := [] }
def ti159 : TI := { desc := (Go.TypeDesc.int Go.IntKind.u8), size := 1, bytes := 1, zero := .int .u8 0, cells := [.int .u8] }
def ti160 : TI := { desc := (Go.TypeDesc.int Go.IntKind.u8), size := 1, bytes := 1, zero := .int .u8 0, cells := [.int .u8] }
def ti161 : TI := { desc := (Go.TypeDesc.func #[167, 167] #[4] false), size := 1, bytes := 8, zero := .nilFunc, cells := [.raw] }
def ti162 : TI := { desc := (Go.TypeDesc.pointer 5), size := 1, bytes := 8, zero := .pointer none, cells := [.raw] }
def ti163 : TI := { desc := (Go.TypeDesc.int Go.IntKind.i32), size := 1, bytes := 4, zero := .int .i32 0, cells := [.int .i32] }
def ti164 : TI := { desc := (Go.TypeDesc.int Go.IntKind.i32), size := 1, bytes := 4, zero := .int .i32 0, cells := [.int .i32] }
def ti165 : TI := { desc := (Go.TypeDesc.struct #[{ name := "Size_", type := 12, offset := 0, embedded := false, tag := "", pkgPath := "", byteOffset := 0 }, { name := "PtrBytes", type := 12, offset := 1, embedded := false, tag := "", pkgPath := "", byteOffset := 8 }, { name := "Hash", type := 141, offset := 2, embedded := false, tag := "", pkgPath := "", byteOffset := 16 }, { name := "TFlag", type := 159, offset := 3, embedded := false, tag := "", pkgPath := "", byteOffset := 20 }, { name := "Align_", type := 5, offset := 4, embedded := false, tag := "", pkgPath := "", byteOffset := 21 }, { name := "FieldAlign_", type := 5, offset := 5, embedded := false, tag := "", pkgPath := "", byteOffset := 22 }, { name := "Kind_", type := 160, offset := 6, embedded := false, tag := "", pkgPath := "", byteOffset := 23 }, { name := "Equal", type := 161, offset := 7, embedded := false, tag := "", pkgPath := "", byteOffset := 24 }, { name := "GCData", type := 162, offset := 8, embedded := false, tag := "", pkgPath := "", byteOffset := 32 }, { name := "Str", type := 163, offset := 9, embedded := false, tag := "", pkgPath := "", byteOffset := 40 }, { name := "PtrToThis", type := 164, offset := 10, embedded := false, tag := "", pkgPath := "", byteOffset := 44 }]), size := 11, bytes := 48, zero := .agg #[.int .u64 0, .int .u64 0, .int .u32 0, .int .u8 0, .int .u8 0, .int .u8 0, .int .u8 0, .nilFunc, .pointer none, .int .i32 0, .int .i32 0], cells := [.int .u64, .int .u64, .int .u32, .int .u8, .int .u8, .int .u8, .int .u8, .raw, .raw, .int .i32, .int .i32] }
def ti166 : TI := { desc := (Go.TypeDesc.struct #[{ name := "Size_", type := 12, offset := 0, embedded := false, tag := "", pkgPath := "", byteOffset := 0 }, { name := "PtrBytes", type := 12, offset := 1, embedded := false, tag := "", pkgPath := "", byteOffset := 8 }, { name := "Hash", type := 141, offset := 2, embedded := false, tag := "", pkgPath := "", byteOffset := 16 }, { name := "TFlag", type := 159, offset := 3, embedded := false, tag := "", pkgPath := "", byteOffset := 20 }, { name := "Align_", type := 5, offset := 4, embedded := false, tag := "", pkgPath := "", byteOffset := 21 }, { name := "FieldAlign_", type := 5, offset := 5, embedded := false, tag := "", pkgPath := "", byteOffset := 22 }, { name := "Kind_", type := 160, offset := 6, embedded := false, tag := "", pkgPath := "", byteOffset := 23 }, { name := "Equal", type := 161, offset := 7, embedded := false, tag := "", pkgPath := "", byteOffset := 24 }, { name := "GCData", type := 162, offset := 8, embedded := false, tag := "", pkgPath := "", byteOffset := 32 }, { name := "Str", type := 163, offset := 9, embedded := false, tag := "", pkgPath := "", byteOffset := 40 }, { name := "PtrToThis", type := 164, offset := 10, embedded := false, tag := "", pkgPath := "", byteOffset := 44 }]), size := 11, bytes := 48, zero := .agg #[.int .u64 0, .int .u64 0, .int .u32 0, .int .u8 0, .int .u8 0, .int .u8 0, .int .u8 0, .nilFunc, .pointer none, .int .i32 0, .int .i32 0], cells := [.int .u64, .int .u64, .int .u32, .int .u8, .int .u8, .int .u8, .int .u8, .raw, .raw, .int .i32, .int .i32] }
def ti167 : TI := { desc := Go.TypeDesc.unsafePointer, size := 1, bytes := 8, zero := .pointer none, cells := [.raw] }
def T_0 : TT
 | 1 => some ti1
 | 2 => some ti2
 | 3 => some ti3
 | 4 => some ti4
 | 5 => some ti5
 | 6 => some ti6
 | 7 => some ti7
 | 8 => some ti8
 | 9 => some ti9
 | 10 => some ti10
 | 11 => some ti11
 | 12 => some ti12
 | 13 => some ti13
 | 14 => some ti14
 | 15 => some ti15
 | 16 => some ti16
 | 17 => some ti17
 | 18 => some ti18
 | 19 => some ti19
 | 20 => some ti20
 | 21 => some ti21
 | 22 => some ti22
 | 23 => some ti23
 | 24 => some ti24
 | _ => none
def T_1 : TT
 | 25 => some ti25
 | 26 => some ti26
 | 27 => some ti27
 | 28 => some ti28
 | 29 => some ti29
 | 30 => some ti30
 | 31 => some ti31
 | 32 => some ti32
 | 33 => some ti33
 | 34 => some ti34
 | 35 => some ti35
 | 36 => some ti36
 | 37 => some ti37
 | 38 => some ti38
 | 39 => some ti39
 | 40 => some ti40
 | 41 => some ti41
 | 42 => some ti42
 | 43 => some ti43
 | 44 => some ti44
 | 46 => some ti46
 | 47 => some ti47
 | 48 => some ti48
 | 49 => some ti49
 | _ => none
def T_2 : TT
 | 50 => some ti50
 | 51 => some ti51
 | 52 => some ti52
 | 53 => some ti53
 | 54 => some ti54
 | 55 => some ti55
 | 56 => some ti56
 | 57 => some ti57
 | 58 => some ti58
 | 59 => some ti59
 | 60 => some ti60
 | 62 => some ti62
 | 63 => some ti63
 | 64 => some ti64
 | 65 => some ti65
 | 66 => some ti66
 | 67 => some ti67
 | 69 => some ti69
 | 70 => some ti70
 | 71 => some ti71
 | 72 => some ti72
 | 73 => some ti73
 | 74 => some ti74
 | 75 => some ti75
 | _ => none
def T_3 : TT
 | 76 => some ti76
 | 77 => some ti77
 | 78 => some ti78
 | 79 => some ti79
 | 80 => some ti80
 | 81 => some ti81
 | 82 => some ti82
 | 83 => some ti83
 | 84 => some ti84
 | 85 => some ti85
 | 86 => some ti86
 | 87 => some ti87
 | 89 => some ti89
 | 90 => some ti90
 | 91 => some ti91
 | 92 => some ti92
 | 93 => some ti93
 | 94 => some ti94
 | 95 => some ti95
 | 96 => some ti96
 | 97 => some ti97
 | 98 => some ti98
 | 99 => some ti99
 | 100 => some ti100
 | _ => none
def T_4 : TT
 | 101 => some ti101
 | 102 => some ti102
 | 103 => some ti103
 | 104 => some ti104
 | 105 => some ti105
 | 106 => some ti106
 | 107 => some ti107
 | 108 => some ti108
 | 109 => some ti109
 | 110 => some ti110
 | 111 => some ti111
 | 112 => some ti112
 | 113 => some ti113
 | 114 => some ti114
 | 115 => some ti115
 | 116 => some ti116
 | 117 => some ti117
 | 118 => some ti118
 | 119 => some ti119
 | 120 => some ti120
 | 121 => some ti121
 | 122 => some ti122
 | 123 => some ti123
 | 124 => some ti124
 | _ => none
def T_5 : TT
 | 125 => some ti125
 | 126 => some ti126
 | 127 => some ti127
 | 128 => some ti128
 | 129 => some ti129
 | 130 => some ti130
 | 131 => some ti131
 | 132 => some ti132
 | 133 => some ti133
 | 134 => some ti134
 | 136 => some ti136
 | 137 => some ti137
 | 138 => some ti138
 | 139 => some ti139
 | 140 => some ti140
 | 141 => some ti141
 | 142 => some ti142
 | 143 => some ti143
 | 144 => some ti144
 | 145 => some ti145
 | 146 => some ti146
 | 147 => some ti147
 | 148 => some ti148
 | 149 => some ti149
 | _ => none
def T_6 : TT
 | 150 => some ti150
 | 152 => some ti152
 | 153 => some ti153
 | 154 => some ti154
 | 155 => some ti155
 | 156 => some ti156
 | 157 => some ti157
 | 158 => some ti158
 | 159 => some ti159
 | 160 => some ti160
 | 161 => some ti161
 | 162 => some ti162
 | 163 => some ti163
 | 164 => some ti164
 | 165 => some ti165
 | 166 => some ti166
 | 167 => some ti167
 | _ => none
def T : TT := fun t => if t ≤ 24 then T_0 t else if t ≤ 49 then T_1 t else if t ≤ 75 then T_2 t else if t ≤ 100 then T_3 t else if t ≤ 124 then T_4 t else if t ≤ 149 then T_5 t else T_6 t
theorem tok_0 : TOk Try.prog T_0 := by
 intro t ti h
 unfold T_0 at h
 split at h
 ·cases h; exact tok1 (by kernel_rfl) (by kernel_rfl) (by kernel_rfl)
 ·cases h; exact tok1 (by kernel_rfl) (by kernel_rfl) (by kernel_rfl)
 ·cases h; exact tok1 (by kernel_rfl) (by kernel_rfl) (by kernel_rfl)
 ·cases h; exact tok1 (by kernel_rfl) (by kernel_rfl) (by kernel_rfl)
 ·cases h; exact tok1 (by kernel_rfl) (by kernel_rfl) (by kernel_rfl)
 ·cases h; exact tok1 (by kernel_rfl) (by kernel_rfl) (by kernel_rfl)
 ·cases h; exact tok1 (by kernel_rfl) (by kernel_rfl) (by kernel_rfl)
 ·cases h; exact tok1 (by kernel_rfl) (by kernel_rfl) (by kernel_rfl)
 ·cases h; exact tok1 (by kernel_rfl) (by kernel_rfl) (by kernel_rfl)
 ·cases h; exact tok1 (by kernel_rfl) (by kernel_rfl) (by kernel_rfl)
 ·cases h; exact tok1 (by kernel_rfl) (by kernel_rfl) (by kernel_rfl)
 ·cases h; exact tok1 (by kernel_rfl) (by kernel_rfl) (by kernel_rfl)
 ·cases h; exact tok1 (by kernel_rfl) (by kernel_rfl) (by kernel_rfl)
 ·cases h; exact tok1 (by kernel_rfl) (by kernel_rfl) (by kernel_rfl)
 ·cases h; exact tok1 (by kernel_rfl) (by kernel_rfl) (by kernel_rfl)
 ·cases h; exact tok1 (by kernel_rfl) (by kernel_rfl) (by kernel_rfl)
 ·cases h; exact tok1 (by kernel_rfl) (by kernel_rfl) (by kernel_rfl)
 ·cases h; exact tok1 (by kernel_rfl) (by kernel_rfl) (by kernel_rfl)
 ·cases h; exact tok1 (by kernel_rfl) (by kernel_rfl) (by kernel_rfl)
 ·cases h; exact tok1 (by kernel_rfl) (by kernel_rfl) (by kernel_rfl)
 ·cases h; exact tok1 (by kernel_rfl) (by kernel_rfl) (by kernel_rfl)
 ·cases h; exact tok1 (by kernel_rfl) (by kernel_rfl) (by kernel_rfl)
 ·cases h; exact tok1 (by kernel_rfl) (by kernel_rfl) (by kernel_rfl)
 ·cases h; exact tok1 (by kernel_rfl) (by kernel_rfl) (by kernel_rfl)
 ·cases h
theorem tok_1 : TOk Try.prog T_1 := by
 intro t ti h
 unfold T_1 at h
 split at h
 ·cases h; exact tok1 (by kernel_rfl) (by kernel_rfl) (by kernel_rfl)
 ·cases h; exact tok1 (by kernel_rfl) (by kernel_rfl) (by kernel_rfl)
 ·cases h; exact tok1 (by kernel_rfl) (by kernel_rfl) (by kernel_rfl)
 ·cases h; exact tok1 (by kernel_rfl) (by kernel_rfl) (by kernel_rfl)
 ·cases h; exact tok1 (by kernel_rfl) (by kernel_rfl) (by kernel_rfl)
 ·cases h; exact tok1 (by kernel_rfl) (by kernel_rfl) (by kernel_rfl)
 ·cases h; exact tok1 (by kernel_rfl) (by kernel_rfl) (by kernel_rfl)
 ·cases h; exact tok1 (by kernel_rfl) (by kernel_rfl) (by kernel_rfl)
 ·cases h; exact tok1 (by kernel_rfl) (by kernel_rfl) (by kernel_rfl)
 ·cases h; exact tok1 (by kernel_rfl) (by kernel_rfl) (by kernel_rfl)
 ·cases h; exact tok1 (by kernel_rfl) (by kernel_rfl) (by kernel_rfl)
 ·cases h; exact tok1 (by kernel_rfl) (by kernel_rfl) (by kernel_rfl)
 ·cases h; exact tok1 (by kernel_rfl) (by kernel_rfl) (by kernel_rfl)
 ·cases h; exact tok1 (by kernel_rfl) (by kernel_rfl) (by kernel_rfl)
 ·cases h; exact tok1 (by kernel_rfl) (by kernel_rfl) (by kernel_rfl)
 ·cases h; exact tok1 (by kernel_rfl) (by kernel_rfl) (by kernel_rfl)
 ·cases h; exact tok1 (by kernel_rfl) (by kernel_rfl) (by kernel_rfl)
 ·cases h; exact tok1 (by kernel_rfl) (by kernel_rfl) (by kernel_rfl)
 ·cases h; exact tok1 (by kernel_rfl) (by kernel_rfl) (by kernel_rfl)
 ·cases h; exact tok1 (by kernel_rfl) (by kernel_rfl) (by kernel_rfl)
 ·cases h; exact tok1 (by kernel_rfl) (by kernel_rfl) (by kernel_rfl)
 ·cases h; exact tok1 (by kernel_rfl) (by kernel_rfl) (by kernel_rfl)
 ·cases h; exact tok1 (by kernel_rfl) (by kernel_rfl) (by kernel_rfl)
 ·cases h; exact tok1 (by kernel_rfl) (by kernel_rfl) (by kernel_rfl)
 ·cases h
theorem tok_2 : TOk Try.prog T_2 := by
 intro t ti h
 unfold T_2 at h
 split at h
 ·cases h; exact tok1 (by kernel_rfl) (by kernel_rfl) (by kernel_rfl)
 ·cases h; exact tok1 (by kernel_rfl) (by kernel_rfl) (by kernel_rfl)
 ·cases h; exact tok1 (by kernel_rfl) (by kernel_rfl) (by kernel_rfl)
 ·cases h; exact tok1 (by kernel_rfl) (by kernel_rfl) (by kernel_rfl)
 ·cases h; exact tok1 (by kernel_rfl) (by kernel_rfl) (by kernel_rfl)
 ·cases h; exact tok1 (by kernel_rfl) (by kernel_rfl) (by kernel_rfl)
 ·cases h; exact tok1 (by kernel_rfl) (by kernel_rfl) (by kernel_rfl)
 ·cases h; exact tok1 (by kernel_rfl) (by kernel_rfl) (by kernel_rfl)
 ·cases h; exact tok1 (by kernel_rfl) (by kernel_rfl) (by kernel_rfl)
 ·cases h; exact tok1 (by kernel_rfl) (by kernel_rfl) (by kernel_rfl)
 ·cases h; exact tok1 (by kernel_rfl) (by kernel_rfl) (by kernel_rfl)
 ·cases h; exact tok1 (by kernel_rfl) (by kernel_rfl) (by kernel_rfl)
 ·cases h; exact tok1 (by kernel_rfl) (by kernel_rfl) (by kernel_rfl)
 ·cases h; exact tok1 (by kernel_rfl) (by kernel_rfl) (by kernel_rfl)
 ·cases h; exact tok1 (by kernel_rfl) (by kernel_rfl) (by kernel_rfl)
 ·cases h; exact tok1 (by kernel_rfl) (by kernel_rfl) (by kernel_rfl)
 ·cases h; exact tok1 (by kernel_rfl) (by kernel_rfl) (by kernel_rfl)
 ·cases h; exact tok1 (by kernel_rfl) (by kernel_rfl) (by kernel_rfl)
 ·cases h; exact tok1 (by kernel_rfl) (by kernel_rfl) (by kernel_rfl)
 ·cases h; exact tok1 (by kernel_rfl) (by kernel_rfl) (by kernel_rfl)
 ·cases h; exact tok1 (by kernel_rfl) (by kernel_rfl) (by kernel_rfl)
 ·cases h; exact tok1 (by kernel_rfl) (by kernel_rfl) (by kernel_rfl)
 ·cases h; exact tok1 (by kernel_rfl) (by kernel_rfl) (by kernel_rfl)
 ·cases h; exact tok1 (by kernel_rfl) (by kernel_rfl) (by kernel_rfl)
 ·cases h
theorem tok_3 : TOk Try.prog T_3 := by
 intro t ti h
 unfold T_3 at h
 split at h
 ·cases h; exact tok1 (by kernel_rfl) (by kernel_rfl) (by kernel_rfl)
 ·cases h; exact tok1 (by kernel_rfl) (by kernel_rfl) (by kernel_rfl)
 ·cases h; exact tok1 (by kernel_rfl) (by kernel_rfl) (by kernel_rfl)
 ·cases h; exact tok1 (by kernel_rfl) (by kernel_rfl) (by kernel_rfl)
 ·cases h; exact tok1 (by kernel_rfl) (by kernel_rfl) (by kernel_rfl)
 ·cases h; exact tok1 (by kernel_rfl) (by kernel_rfl) (by kernel_rfl)
 ·cases h; exact tok1 (by kernel_rfl) (by kernel_rfl) (by kernel_rfl)
 ·cases h; exact tok1 (by kernel_rfl) (by kernel_rfl) (by kernel_rfl)
 ·cases h; exact tok1 (by kernel_rfl) (by kernel_rfl) (by kernel_rfl)
 ·cases h; exact tok1 (by kernel_rfl) (by kernel_rfl) (by kernel_rfl)
 ·cases h; exact tok1 (by kernel_rfl) (by kernel_rfl) (by kernel_rfl)
 ·cases h; exact tok1 (by kernel_rfl) (by kernel_rfl) (by kernel_rfl)
 ·cases h; exact tok1 (by kernel_rfl) (by kernel_rfl) (by kernel_rfl)
 ·cases h; exact tok1 (by kernel_rfl) (by kernel_rfl) (by kernel_rfl)
 ·cases h; exact tok1 (by kernel_rfl) (by kernel_rfl) (by kernel_rfl)
 ·cases h; exact tok1 (by kernel_rfl) (by kernel_rfl) (by kernel_rfl)
 ·cases h; exact tok1 (by kernel_rfl) (by kernel_rfl) (by kernel_rfl)
 ·cases h; exact tok1 (by kernel_rfl) (by kernel_rfl) (by kernel_rfl)
 ·cases h; exact tok1 (by kernel_rfl) (by kernel_rfl) (by kernel_rfl)
 ·cases h; exact tok1 (by kernel_rfl) (by kernel_rfl) (by kernel_rfl)
 ·cases h; exact tok1 (by kernel_rfl) (by kernel_rfl) (by kernel_rfl)
 ·cases h; exact tok1 (by kernel_rfl) (by kernel_rfl) (by kernel_rfl)
 ·cases h; exact tok1 (by kernel_rfl) (by kernel_rfl) (by kernel_rfl)
 ·cases h; exact tok1 (by kernel_rfl) (by kernel_rfl) (by kernel_rfl)
 ·cases h
theorem tok_4 : TOk Try.prog T_4 := by
 intro t ti h
 unfold T_4 at h
 split at h
 ·cases h; exact tok1 (by kernel_rfl) (by kernel_rfl) (by kernel_rfl)
 ·cases h; exact tok1 (by kernel_rfl) (by kernel_rfl) (by kernel_rfl)
 ·cases h; exact tok1 (by kernel_rfl) (by kernel_rfl) (by kernel_rfl)
 ·cases h; exact tok1 (by kernel_rfl) (by kernel_rfl) (by kernel_rfl)
 ·cases h; exact tok1 (by kernel_rfl) (by kernel_rfl) (by kernel_rfl)
 ·cases h; exact tok1 (by kernel_rfl) (by kernel_rfl) (by kernel_rfl)
 ·cases h; exact tok1 (by kernel_rfl) (by kernel_rfl) (by kernel_rfl)
 ·cases h; exact tok1 (by kernel_rfl) (by kernel_rfl) (by kernel_rfl)
 ·cases h; exact tok1 (by kernel_rfl) (by kernel_rfl) (by kernel_rfl)
 ·cases h; exact tok1 (by kernel_rfl) (by kernel_rfl) (by kernel_rfl)
 ·cases h; exact tok1 (by kernel_rfl) (by kernel_rfl) (by kernel_rfl)
 ·cases h; exact tok1 (by kernel_rfl) (by kernel_rfl) (by kernel_rfl)
 ·cases h; exact tok1 (by kernel_rfl) (by kernel_rfl) (by kernel_rfl)
 ·cases h; exact tok1 (by kernel_rfl) (by kernel_rfl) (by kernel_rfl)
 ·cases h; exact tok1 (by kernel_rfl) (by kernel_rfl) (by kernel_rfl)
 ·cases h; exact tok1 (by kernel_rfl) (by kernel_rfl) (by kernel_rfl)
 ·cases h; exact tok1 (by kernel_rfl) (by kernel_rfl) (by kernel_rfl)
 ·cases h; exact tok1 (by kernel_rfl) (by kernel_rfl) (by kernel_rfl)
 ·cases h; exact tok1 (by kernel_rfl) (by kernel_rfl) (by kernel_rfl)
 ·cases h; exact tok1 (by kernel_rfl) (by kernel_rfl) (by kernel_rfl)
 ·cases h; exact tok1 (by kernel_rfl) (by kernel_rfl) (by kernel_rfl)
 ·cases h; exact tok1 (by kernel_rfl) (by kernel_rfl) (by kernel_rfl)
 ·cases h; exact tok1 (by kernel_rfl) (by kernel_rfl) (by kernel_rfl)
 ·cases h; exact tok1 (by kernel_rfl) (by kernel_rfl) (by kernel_rfl)
 ·cases h
theorem tok_5 : TOk Try.prog T_5 := by
 intro t ti h
 unfold T_5 at h
 split at h
 ·cases h; exact tok1 (by kernel_rfl) (by kernel_rfl) (by kernel_rfl)
 ·cases h; exact tok1 (by kernel_rfl) (by kernel_rfl) (by kernel_rfl)
 ·cases h; exact tok1 (by kernel_rfl) (by kernel_rfl) (by kernel_rfl)
 ·cases h; exact tok1 (by kernel_rfl) (by kernel_rfl) (by kernel_rfl)
 ·cases h; exact tok1 (by kernel_rfl) (by kernel_rfl) (by kernel_rfl)
 ·cases h; exact tok1 (by kernel_rfl) (by kernel_rfl) (by kernel_rfl)
 ·cases h; exact tok1 (by kernel_rfl) (by kernel_rfl) (by kernel_rfl)
 ·cases h; exact tok1 (by kernel_rfl) (by kernel_rfl) (by kernel_rfl)
 ·cases h; exact tok1 (by kernel_rfl) (by kernel_rfl) (by kernel_rfl)
 ·cases h; exact tok1 (by kernel_rfl) (by kernel_rfl) (by kernel_rfl)
 ·cases h; exact tok1 (by kernel_rfl) (by kernel_rfl) (by kernel_rfl)
 ·cases h; exact tok1 (by kernel_rfl) (by kernel_rfl) (by kernel_rfl)
 ·cases h; exact tok1 (by kernel_rfl) (by kernel_rfl) (by kernel_rfl)
 ·cases h; exact tok1 (by kernel_rfl) (by kernel_rfl) (by kernel_rfl)
 ·cases h; exact tok1 (by kernel_rfl) (by kernel_rfl) (by kernel_rfl)
 ·cases h; exact tok1 (by kernel_rfl) (by kernel_rfl) (by kernel_rfl)
 ·cases h; exact tok1 (by kernel_rfl) (by kernel_rfl) (by kernel_rfl)
 ·cases h; exact tok1 (by kernel_rfl) (by kernel_rfl) (by kernel_rfl)
 ·cases h; exact tok1 (by kernel_rfl) (by kernel_rfl) (by kernel_rfl)
 ·cases h; exact tok1 (by kernel_rfl) (by kernel_rfl) (by kernel_rfl)
 ·cases h; exact tok1 (by kernel_rfl) (by kernel_rfl) (by kernel_rfl)
 ·cases h; exact tok1 (by kernel_rfl) (by kernel_rfl) (by kernel_rfl)
 ·cases h; exact tok1 (by kernel_rfl) (by kernel_rfl) (by kernel_rfl)
 ·cases h; exact tok1 (by kernel_rfl) (by kernel_rfl) (by kernel_rfl)
 ·cases h
theorem tok_6 : TOk Try.prog T_6 := by
 intro t ti h
 unfold T_6 at h
 split at h
 ·cases h; exact tok1 (by kernel_rfl) (by kernel_rfl) (by kernel_rfl)
 ·cases h; exact tok1 (by kernel_rfl) (by kernel_rfl) (by kernel_rfl)
 ·cases h; exact tok1 (by kernel_rfl) (by kernel_rfl) (by kernel_rfl)
 ·cases h; exact tok1 (by kernel_rfl) (by kernel_rfl) (by kernel_rfl)
 ·cases h; exact tok1 (by kernel_rfl) (by kernel_rfl) (by kernel_rfl)
 ·cases h; exact tok1 (by kernel_rfl) (by kernel_rfl) (by kernel_rfl)
 ·cases h; exact tok1 (by kernel_rfl) (by kernel_rfl) (by kernel_rfl)
 ·cases h; exact tok1 (by kernel_rfl) (by kernel_rfl) (by kernel_rfl)
 ·cases h; exact tok1 (by kernel_rfl) (by kernel_rfl) (by kernel_rfl)
 ·cases h; exact tok1 (by kernel_rfl) (by kernel_rfl) (by kernel_rfl)
 ·cases h; exact tok1 (by kernel_rfl) (by kernel_rfl) (by kernel_rfl)
 ·cases h; exact tok1 (by kernel_rfl) (by kernel_rfl) (by kernel_rfl)
 ·cases h; exact tok1 (by kernel_rfl) (by kernel_rfl) (by kernel_rfl)
 ·cases h; exact tok1 (by kernel_rfl) (by kernel_rfl) (by kernel_rfl)
 ·cases h; exact tok1 (by kernel_rfl) (by kernel_rfl) (by kernel_rfl)
 ·cases h; exact tok1 (by kernel_rfl) (by kernel_rfl) (by kernel_rfl)
 ·cases h; exact tok1 (by kernel_rfl) (by kernel_rfl) (by kernel_rfl)
 ·cases h
theorem tok : TOk Try.prog T := by
 intro t ti h
 unfold T at h
 split at h
 ·exact tok_0 t ti h
 split at h
 ·exact tok_1 t ti h
 split at h
 ·exact tok_2 t ti h
 split at h
 ·exact tok_3 t ti h
 split at h
 ·exact tok_4 t ti h
 split at h
 ·exact tok_5 t ti h
 exact tok_6 t ti h
end Go.Proofs.Ytnmlcfjljeccnaa.A
/- The ghost machine at this program: a contract with no roots; the empty book. -/
set_option linter.unusedSimpArgs false
set_option linter.unusedVariables false
set_option maxRecDepth 100000
set_option maxHeartbeats 4000000
namespace Go.Proofs.Ytnmlcfjljeccnaa.A
open Go
def pc (f : FuncId) (args : List Arg) (ret : RV) : Prop := (std Try.prog T).pc f args ret []
def book0 : Book := fun _ _ => none
end Go.Proofs.Ytnmlcfjljeccnaa.A
/- The directory of layer 9: what is applied to a map, by hand. -/
set_option linter.unusedSimpArgs false
set_option linter.unusedVariables false
set_option maxRecDepth 100000
set_option maxHeartbeats 4000000
namespace Go.Proofs.Ytnmlcfjljeccnaa.A
open Go
def apM (m : GM) (kd : Int) (x y : ByteArray) (n : Int) : GM :=
 if kd = 0 then m.set (.string x) (vI n) else if kd = 1 then m.del (.string x) else if kd = 2 then (if mhasC m.ks (.string x) = true then (m.del (.string x)).set (.string y) (mgetC m.ks m.vs (.string x) (vI 0)) else m) else m
theorem map_ty : ∃ te, mapTy T 108 = some (.str, te) ∧ te.zero = .int .i64 0 := ⟨_, by rfl, by rfl⟩
end Go.Proofs.Ytnmlcfjljeccnaa.A
namespace Go.Proofs.Ytnmlcfjljeccnaa
open Go Go.RowKit Go.Proofs
set_option maxHeartbeats 4000000 in
set_option maxRecDepth 100000 in
theorem apply_any (b : Nat) (kd n : Int) (x y : ByteArray) (m : A.GM) (es : Array MapEntry) (w : World) (S : Nat → Prop) (hb : w.heap[b]? = some (.map es m.clock)) (h : A.MEs w S .str m es) (hS : ∀ k, S k → k < w.heap.size) (hSb : ¬ S b) (hv : ∀ c ∈ m.vs, ∃ q, c = A.vI q) :
  Calls Try.prog 68 #[.map (some b), .agg #[.int .i64 kd, .string x, .string y, .int .i64 n]] w fun e w' => e = .returned (.tuple #[]) ∧ Chg (fun k => k = b) w w' ∧ A.MRep w' S b .str (A.apM m kd x y n) := by
 have lb := lt_of_block hb
 obtain ⟨te, hty, hz⟩ := A.map_ty
 obtain ⟨w1, hw1⟩ : ∃ w1, w1 = w.alloc (.cells #[.int .i64 kd, .string x, .string y, .int .i64 n] 119) := ⟨_, rfl⟩
 have k1 : Chg (fun k => k = b) w w1 := by rw [hw1]; exact Chg.alloc _ w _
 have hb1 : w1.heap[b]? = some (.map es m.clock) := by rw [hw1]; exact (Below.heap_alloc w _ b lb).trans hb
 have fS : ∀ (w' : World), Chg (fun k => k = b) w w' → ∀ k, S k → w'.heap[k]? = w.heap[k]? := fun w' hc k hk => hc.block k (hS k hk) fun e => hSb (e ▸ hk)
 have h1 : A.MEs w1 S .str m es := h.frame (fS _ k1)
 have c0 : w1.cell? ⟨w.heap.size, 0, none⟩ = some (.int .i64 kd) := by rw [hw1, cell_of_row _ _ 0 _ _ _ (heap_alloc_new w _)]; rfl
 have c1 : w1.cell? ⟨w.heap.size, 1, none⟩ = some (.string x) := by rw [hw1, cell_of_row _ _ 1 _ _ _ (heap_alloc_new w _)]; rfl
 have c2 : w1.cell? ⟨w.heap.size, 2, none⟩ = some (.string y) := by rw [hw1, cell_of_row _ _ 2 _ _ _ (heap_alloc_new w _)]; rfl
 have c3 : w1.cell? ⟨w.heap.size, 3, none⟩ = some (.int .i64 n) := by rw [hw1, cell_of_row _ _ 3 _ _ _ (heap_alloc_new w _)]; rfl
 have hne : ¬ w.heap.size = b := by omega
 have z1 : w.heap.size < w1.heap.size := by rw [hw1]; simp
 have fin : ∀ (w' : World) (m' : A.GM) (es' : Array MapEntry), A.MEs w1 S .str m' es' → w' = A.setBlk w1 b (.map es' m'.clock) → Chg (fun k => k = b) w w' ∧ A.MRep w' S b .str m' := fun w' m' es' hm e => by
  subst e
  have k2 := k1.trans (A.setBlk_chg w1 b (.map es' m'.clock))
  refine ⟨k2, A.map_mrep (A.setBlk_at _ hb1) (hm.frame fun k hk => ?_)⟩
  exact (fS _ k2 k hk).trans (fS _ k1 k hk).symm
 have FIN := Lib.hid fin
 have H1 := Lib.hid h1
 have HB1 := Lib.hid hb1
 have K1 := Lib.hid k1
 have FS := Lib.hid fS
 clear fin h1 hb1 k1 fS hb h hS hSb
 go_enter Try.func68, Try.ntmps68
 by_cases q0 : kd = 0
 ·subst q0
  obtain ⟨es', r1, r2⟩ := A.run_mapUpdate (S := S) A.tok hty HB1.out H1.out (k := .string x) (v := .int .i64 n) rfl (c := A.vI n) (.val rfl)
  have R2 := Lib.hid r2
  clear r2
  go_wp2_with fail
  rw [← hw1, r1]
  clear hw1
  go_wp2_with fail
  go_end0
  obtain ⟨g1, g2⟩ := FIN.out _ _ _ R2.out rfl
  exact ⟨rfl, g1, g2⟩
 ·by_cases q1 : kd = 1
  ·subst q1
   obtain ⟨es', r1, r2⟩ := A.run_delete (S := S) (kt := 9) (ty := 0) A.tok hty HB1.out H1.out (k := .string x) rfl
   have R2 := Lib.hid r2
   clear r2
   go_wp2_with fail
   rw [← hw1, r1]
   clear hw1
   go_wp2_with fail
   go_end0
   obtain ⟨g1, g2⟩ := FIN.out _ _ _ R2.out rfl
   exact ⟨rfl, g1, g2⟩
  ·by_cases q2 : kd = 2
   ·subst q2
    have hl := A.run_lookup (ks := m.ks) A.tok hty HB1.out H1.out.keys H1.out.ok (k := .string x) rfl true
    rw [if_pos rfl] at hl
    have hap : A.apM m 2 x y n = if A.mhasC m.ks (.string x) = true then (m.del (.string x)).set (.string y) (A.mgetC m.ks m.vs (.string x) (A.vI 0)) else m := rfl
    rw [hap]
    clear hap
    cases hh : A.kidx m.ks (.string x) with
    | none =>
     have hm : A.mhasC m.ks (.string x) = false := by unfold A.mhasC; rw [hh]; rfl
     rw [hh, hm] at hl
     rw [hm, if_neg (by simp)]
     go_wp2_with fail
     rw [← hw1, hl]
     clear hw1
     go_wp2_with fail
     go_end0
     exact ⟨rfl, K1.out, A.map_mrep HB1.out H1.out⟩
    | some i =>
     have hm : A.mhasC m.ks (.string x) = true := by unfold A.mhasC; rw [hh]; rfl
     have hi := A.kidx_at H1.out.ok rfl hh
     obtain ⟨hi, _⟩ := hi
     have hi2 : i < m.vs.length := by rw [m.l1]; exact hi
     have hi3 : i < es.size := by rw [H1.out.size]; exact hi
     obtain ⟨q, hq⟩ := hv m.vs[i] (List.getElem_mem hi2)
     have hve : es[i].val = .int .i64 q := by
      have := H1.out.val i hi3 hi2
      rw [hq] at this
      exact (A.crep_val this).1
     have hg : A.mgetC m.ks m.vs (.string x) (A.vI 0) = A.vI q := by
      unfold A.mgetC; rw [hh]; dsimp only; rw [List.getD_eq_getElem?_getD, List.getElem?_eq_getElem hi2]; exact hq
     rw [hh, hm] at hl
     have e5 : ((es.toList[i]?).map (·.val)).getD undef = .int .i64 q := by rw [Array.getElem?_toList, Array.getElem?_eq_getElem hi3]; exact hve
     dsimp only at hl
     rw [e5] at hl
     rw [hm, if_pos rfl, hg]
     obtain ⟨es1, r1, r2⟩ := A.run_delete (S := S) (kt := 9) (ty := 0) A.tok hty HB1.out H1.out (k := .string x) rfl
     obtain ⟨w2, hw2⟩ : ∃ w2, w2 = A.setBlk w1 b (.map es1 (m.del (.string x)).clock) := ⟨_, rfl⟩
     have hb2 : w2.heap[b]? = some (.map es1 (m.del (.string x)).clock) := by rw [hw2]; exact A.setBlk_at _ HB1.out
     have k12 : Chg (fun k => k = b) w1 w2 := by rw [hw2]; exact A.setBlk_chg w1 b _
     have d2 : w2.cell? ⟨w.heap.size, 2, none⟩ = some (.string y) := (k12.cell (p := ⟨w.heap.size, 2, none⟩) z1 hne).trans c2
     have k2 := K1.out.trans k12
     have h2 : A.MEs w2 S .str (m.del (.string x)) es1 := r2.frame fun k hk => (FS.out _ k2 k hk).trans (FS.out _ K1.out k hk).symm
     obtain ⟨es2, r3, r4⟩ := A.run_mapUpdate (S := S) A.tok hty hb2 h2 (k := .string y) (v := .int .i64 q) rfl (c := A.vI q) (.val rfl)
     have R4 := Lib.hid r4
     have R1 := Lib.hid r1
     have R3 := Lib.hid r3
     have HW2 := Lib.hid hw2
     clear r1 r3 hw2
     have HB2 := Lib.hid hb2
     have K2 := Lib.hid k2
     clear r2 h2 r4 hb2 k12 k2 hve hq hg hh e5 hv
     go_wp2_with fail
     rw [← hw1, hl]
     clear hw1 hl
     go_wp2_with fail
     rw [R1.out, ← HW2.out]
     go_wp2_with fail
     rw [R3.out]
     go_wp2_with fail
     go_end0
     have k3 := K2.out.trans (A.setBlk_chg w2 b (.map es2 ((m.del (.string x)).set (.string y) (A.vI q)).clock))
     exact ⟨rfl, k3, A.map_mrep (A.setBlk_at _ HB2.out) (R4.out.frame fun k hk => (FS.out _ k3 k hk).trans (FS.out _ K2.out k hk).symm)⟩
   ·have hap : A.apM m kd x y n = m := by unfold A.apM; rw [if_neg q0, if_neg q1, if_neg q2]
    rw [hap]
    go_wp2_with fail
    go_end0
    rw [← hw1]
    exact ⟨rfl, K1.out, A.map_mrep HB1.out H1.out⟩
namespace A
theorem pcm_apply (m : GM) (kd n : Int) (x y : ByteArray) (hv : ∀ c ∈ m.vs, ∃ q, c = vI q) : PCM Try.prog T 68 .str m [.v true [vI kd, vS x, vS y, vI n]] (apM m kd x y n) := by
 intro w S v vs hlow hr hf hl ha
 obtain ⟨b, hb, es, e1, e2, e3, e4, e5⟩ := hr
 have hb' : v = .map (some b) := hb
 subst hb'
 match vs, hl with
 | [u], _ =>
  have h0 := ha 0 (by simp) (by simp)
  obtain ⟨us, hu, h1, h2⟩ := h0
  have hu' : u = .agg us := hu
  subst hu'
  have h1' : us.size = 4 := h1
  have g0 := (crep_val (h2 0 (by simp) (by omega))).1
  have g1 := (crep_val (h2 1 (by simp) (by omega))).1
  have g2 := (crep_val (h2 2 (by simp) (by omega))).1
  have g3 := (crep_val (h2 3 (by simp) (by omega))).1
  have hus : us = #[.int .i64 kd, .string x, .string y, .int .i64 n] := by
   apply Array.ext
   ·exact h1'
   ·intro k hk hk2
    have hk3 : k < 4 := by omega
    match k, hk3 with
    | 0, _ => exact g0
    | 1, _ => exact g1
    | 2, _ => exact g2
    | 3, _ => exact g3
  subst hus
  refine (apply_any b kd n x y m es w S e1 ⟨e2, e3, e4, e5⟩ hlow (hf b rfl).1 hv).mono fun e w' ⟨q1, q2, q3⟩ => ⟨q1, q2.mono fun k _ hk => ?_, b, rfl, q3⟩
  subst hk; rfl
end A
end Go.Proofs.Ytnmlcfjljeccnaa
/- Layer 9: a map cloned, by hand. -/
set_option linter.unusedSimpArgs false
set_option linter.unusedVariables false
set_option maxRecDepth 100000
set_option maxHeartbeats 4000000
namespace Go.Proofs.Ytnmlcfjljeccnaa
open Go Go.RowKit Go.Proofs
set_option maxHeartbeats 4000000 in
set_option maxRecDepth 100000 in
theorem clone_any (b : Nat) (es : Array MapEntry) (ck : Nat) (w : World) (hb : w.heap[b]? = some (.map es ck)) :
    Calls Try.prog 69 #[.map (some b)] w fun e w' => e = .returned (.map (some w.heap.size)) ∧ w' = w.alloc (.map es ck) := by
  go_enter Try.func69, Try.ntmps69
  have hq : ∀ w' : World, (binOp .eql 108 (.map (some b)) (.map none)).run Try.prog w' = .ok (.bool false) w' := fun w' => A.binOp_nil ⟨rfl, fun w' => A.run_equal1 Try.underlying108 _ _ false w' rfl⟩
  have hcall : (callFunc 82 #[.iface 108 (.map (some b))]).run Try.prog w = .ok (.value (.iface 108 (.map (some w.heap.size)))) (w.alloc (.map es ck)) := by
    have e : Extern.MapsClone.clone #[.iface 108 (.map (some b))] = (getObj b >>= fun o => match o with
      | .map entries clock => newObj (.map entries clock) >>= fun r => pure (.iface 108 (.map (some r)))
      | _ => stuck "maps.clone: a map expected") := rfl
    have hr : (Extern.MapsClone.clone #[.iface 108 (.map (some b))]).run Try.prog w = .ok (.iface 108 (.map (some w.heap.size))) (w.alloc (.map es ck)) := by
      rw [e]
      simp [Sem.run_bind, A.run_gm hb]
    rw [run_callFunc_extern Try.func82 (by kernel_rfl) (by kernel_rfl) (by kernel_rfl) (e := Extern.MapsClone.clone) (by kernel_rfl), hr]
    rfl
  have hta : ∀ w' : World, (Instr.typeAssert (.iface 108 (.map (some w.heap.size))) 20 108 false).run Try.prog w' = .ok (.map (some w.heap.size)) w' := fun w' => by
    simp [Instr.typeAssert, run_underlying Try.underlying108, go_sem, Result.andThen]
  go_wp2_with fail
  go_ret
  exact ⟨rfl, rfl⟩
theorem A.pcl_Clone (m : A.GM) : A.PCL Try.prog T 69 .str m m := by
 intro w S v hlow hr hf
 obtain ⟨b, hb, es, e1, e2, e3, e4, e5⟩ := hr
 have hb' : v = .map (some b) := hb
 subst hb'
 refine (clone_any b es m.clock w e1).mono fun en w' ⟨he, hw⟩ => ?_
 subst hw
 have k1 : Chg (fun _ => False) w (w.alloc (.map es m.clock)) := Chg.alloc _ w _
 exact ⟨w.heap.size, he, Nat.le_refl _, by simp, k1, w.heap.size, rfl, es, heap_alloc_new w _, e2, e3, fun i h h2 => (e4 i h h2).frame (fun k hk => k1.block k (hlow k hk) (fun e => e)) (fun _ h => h), e5⟩
end Go.Proofs.Ytnmlcfjljeccnaa
/- The directory of layer 9 as a box: its small functions. -/
set_option linter.unusedSimpArgs false
set_option linter.unusedVariables false
set_option maxRecDepth 100000
set_option maxHeartbeats 4000000
namespace Go.Proofs.Ytnmlcfjljeccnaa.A
open Go
abbrev oT : TypeId := 119
def MI (m : GM) : Prop := ∀ c ∈ m.vs, ∃ q, c = vI q
def hasD (m : GM) (x : ByteArray) : Bool := mhasC m.ks (.string x)
def getD (m : GM) (x : ByteArray) : Int := gi (mgetC m.ks m.vs (.string x) (vI 0))
theorem mget_int {m : GM} (h : MI m) (x : ByteArray) : mgetC m.ks m.vs (.string x) (vI 0) = vI (getD m x) := by
 have : ∃ q, mgetC m.ks m.vs (.string x) (vI 0) = vI q := by
  unfold mgetC
  split
  ·rename_i i _
   rcases Nat.lt_or_ge i m.vs.length with hi | hi
   ·rw [List.getD_eq_getElem?_getD, List.getElem?_eq_getElem hi]; exact h _ (List.getElem_mem hi)
   ·rw [List.getD_eq_getElem?_getD, List.getElem?_eq_none hi]; exact ⟨0, rfl⟩
  ·exact ⟨0, rfl⟩
 obtain ⟨q, hq⟩ := this
 unfold getD; rw [hq]; rfl
theorem MI.new : MI GM.new := fun c hc => absurd hc (by simp [GM.new])
theorem MI.set {m : GM} (h : MI m) (k : Value) (n : Int) : MI (m.set k (vI n)) := by
 unfold GM.set
 split
 ·intro c hc
  rcases List.mem_or_eq_of_mem_set hc with hc | hc
  ·exact h c hc
  ·exact ⟨n, hc⟩
 ·intro c hc
  rcases List.mem_append.1 hc with hc | hc
  ·exact h c hc
  ·exact ⟨n, by simpa using hc⟩
theorem MI.del {m : GM} (h : MI m) (k : Value) : MI (m.del k) := by
 unfold GM.del
 split
 ·exact fun c hc => h c (List.mem_of_mem_eraseIdx hc)
 ·exact h
theorem MI.ap {m : GM} (h : MI m) (kd : Int) (x y : ByteArray) (n : Int) : MI (apM m kd x y n) := by
 unfold apM
 split
 ·exact h.set _ _
 ·split
  ·exact h.del _
  ·split
   ·split
    ·rw [mget_int h]; exact (h.del _).set _ _
    ·exact h
   ·exact h
abbrev dBox (m1 m2 : GM) (n : Nat) (os : List C) : Root := .box [.map .str m1, .map .str m2, .own oT n os]
def okD (m : GM) (kd : Int) (x : ByteArray) : Bool := !decide (hasD m x = (kd == 0))
def bookD1 (x_apM : GM → Int → ByteArray → ByteArray → Int → GM) (x_hasD : GM → ByteArray → Bool) (x_getD : GM → ByteArray → Int) : Book := fun f xs => match f, xs with
 | 68, [.root (.loose [.map kk m]), .v true [.val (.int _ kd), .val (.string x), .val (.string y), .val (.int _ n)]] => some (⟨true, []⟩, [.loose [.map kk (x_apM m kd x y n)]])
 | 69, [.root (.loose [.map kk m])] => some (⟨false, [(false, [.map kk m])]⟩, [])
 | 34, [.root (.box [.map k1 m1, .map k2 m2, .own _ n os]), .v false [.val (.string x)]] => some (⟨true, [(false, [.st (vI (x_getD m1 x))]), (false, [.st (vB (x_hasD m1 x))])]⟩, [.box [.map k1 m1, .map k2 m2, .own oT n os], .none])
 | _, _ => none
theorem pcn_NewD : PCN Try.prog T 30 [] [.map .str GM.new, .map .str GM.new, .own oT 0 []] := by
 refine pcn_of tok Try.func30 rfl (by rfl) rfl ?_
 obtain ⟨j, hj⟩ : ∃ j : J, j = std Try.prog T := ⟨_, rfl⟩
 have hm : Try.prog.follows .mixedOrders = true := by kernel_rfl
 generalize y_apM : @apM = x_apM at *
 generalize y_hasD : @hasD = x_hasD at *
 generalize y_getD : @getD = x_getD at *
 (repeat' first | ((refine aw_ret ⟨.inr rfl, ?_⟩)) | ((first | with_reducible refine tr_cut (fun h => ?_) (fun h => ?_) | refine aw_condj (by cbv) (fun h => ?_) (fun h => ?_)) <;> (try simp (disch := omega) only [hj, std, cmpI, cmpB, satB, Bool.not_eq_true, Bool.not_eq_false, decide_eq_true_eq, decide_eq_false_iff_not, beq_iff_eq, bne_iff_ne, bne_eq_false_iff_eq, beq_eq_false_iff_ne, ne_eq, reduceCtorEq, not_true_eq_false, not_false_eq_true, pl0, if_true, cmpS_eq, cmpS_neq, Bool.not_eq_eq_eq_not, Bool.not_true, Bool.not_false, Bool.not_eq_true', add64, sub64] at h) <;> (try (exfalso; omega))) | (with_reducible refine tr_alt (fun h => ?_) ?_ <;> (try (exfalso; omega))) | (with_reducible first | refine tr_ob ?_ ?_ | refine tr_done ?_) | (refine aw_tr hj tok (bookD1 x_apM x_hasD x_getD) (by cbv) ?_) | (refine aw_seq fun K hK => ?_) | (refine aw_tr1 hj tok (bookD1 x_apM x_hasD x_getD) (by cbv) ?_) | (refine aw_skip ?_) | (refine aw_block ?_) | (refine aw_exit ?_) | (refine aw_ret ⟨.inr rfl, ret_okj hj (by cbv) ?_ ?_⟩) | (refine aw_ret ?_) | (with_reducible first | refine th_n ?_ | refine th_r ?_ | refine th_x ?_ | refine blk_n ?_ | refine blk_r ?_ | refine blk_x ?_ | refine blk_y rfl ?_) | (refine ⟨.inr rfl, ret_okj hj (by cbv) ?_ ?_⟩) | (refine ⟨.inl rfl, ret_okj hj (by cbv) ?_ ?_⟩) | (with_reducible apply_assumption -symm -exfalso only [*]))
 all_goals ((try subst y_apM); (try subst y_hasD); (try subst y_getD))
 all_goals (try (repeat' first | with_reducible exact obl0 | with_reducible refine obl1 ?_ ?_))
 all_goals (try first | with_reducible exact True.intro | ((first | refine ob_le hj ?_ | refine ob_lei hj ?_ | refine ob_inb hj ?_ | refine ob_pos hj ?_ | refine ob_ne0 hj ?_ | refine ob_eqb hj ?_); (first | rfl | first | omega | (simp only [hj, std]; split <;> omega) | (simp (disch := omega) only [hj, std, cmpI, cmpB, satB, add64, sub64, ite0, pl0, pl2, pl3, sb0, if_true, if_false, eq_self] <;> omega) | (simp (disch := omega) [hj, std, cmpI, cmpB, satB, add64, sub64, ite0, pl0, pl2, pl3, sb0, if_true, if_false, eq_self] <;> omega))))
 refine new_ok (s := 0) (t := 4) rfl rfl rfl (by simp) (.cons ?_ (.cons ?_ (.cons (.nil_own _) .nil)))
 ·rw [hj]; exact .refl _
 ·rw [hj]; exact .refl _
theorem pc_PendD (m1 m2 : GM) (n : Nat) (os : List C) : PC Try.prog T 33 [.root (dBox m1 m2 n os)] (ret1 (.st (vI n))) [dBox m1 m2 n os] := by
 refine pc_of tok Try.func33 rfl (by rfl) ?_
 obtain ⟨j, hj⟩ : ∃ j : J, j = std Try.prog T := ⟨_, rfl⟩
 have hm : Try.prog.follows .mixedOrders = true := by kernel_rfl
 generalize y_apM : @apM = x_apM at *
 generalize y_hasD : @hasD = x_hasD at *
 generalize y_getD : @getD = x_getD at *
 (repeat' first | (refine ⟨.inr rfl, ret_oku hj (by cbv) (by cbv) rfl ?_ ?_ (upd_of ?_)⟩) | (refine ⟨.inl rfl, ret_oku hj (by cbv) (by cbv) rfl ?_ ?_ (upd_of ?_)⟩) | ((first | with_reducible refine tr_cut (fun h => ?_) (fun h => ?_) | refine aw_condj (by cbv) (fun h => ?_) (fun h => ?_)) <;> (try simp (disch := omega) only [hj, std, cmpI, cmpB, satB, Bool.not_eq_true, Bool.not_eq_false, decide_eq_true_eq, decide_eq_false_iff_not, beq_iff_eq, bne_iff_ne, bne_eq_false_iff_eq, beq_eq_false_iff_ne, ne_eq, reduceCtorEq, not_true_eq_false, not_false_eq_true, pl0, if_true, cmpS_eq, cmpS_neq, Bool.not_eq_eq_eq_not, Bool.not_true, Bool.not_false, Bool.not_eq_true', add64, sub64] at h) <;> (try (exfalso; omega))) | (with_reducible refine tr_alt (fun h => ?_) ?_ <;> (try (exfalso; omega))) | (with_reducible first | refine tr_ob ?_ ?_ | refine tr_done ?_) | (refine aw_tr hj tok (bookD1 x_apM x_hasD x_getD) (by cbv) ?_) | (refine aw_seq fun K hK => ?_) | (refine aw_tr1 hj tok (bookD1 x_apM x_hasD x_getD) (by cbv) ?_) | (refine aw_skip ?_) | (refine aw_block ?_) | (refine aw_exit ?_) | (refine aw_ret ⟨.inr rfl, ret_okj hj (by cbv) ?_ ?_⟩) | (refine aw_ret ?_) | (with_reducible first | refine th_n ?_ | refine th_r ?_ | refine th_x ?_ | refine blk_n ?_ | refine blk_r ?_ | refine blk_x ?_ | refine blk_y rfl ?_) | (refine ⟨.inr rfl, ret_okj hj (by cbv) ?_ ?_⟩) | (refine ⟨.inl rfl, ret_okj hj (by cbv) ?_ ?_⟩) | (with_reducible apply_assumption -symm -exfalso only [*]))
 all_goals ((try subst y_apM); (try subst y_hasD); (try subst y_getD))
 all_goals (try (repeat' first | with_reducible exact obl0 | with_reducible refine obl1 ?_ ?_))
 all_goals (try first | with_reducible exact True.intro | ((first | refine ob_le hj ?_ | refine ob_lei hj ?_ | refine ob_inb hj ?_ | refine ob_pos hj ?_ | refine ob_ne0 hj ?_ | refine ob_eqb hj ?_); (first | rfl | first | omega | (simp only [hj, std]; split <;> omega) | (simp (disch := omega) only [hj, std, cmpI, cmpB, satB, add64, sub64, ite0, pl0, pl2, pl3, sb0, if_true, if_false, eq_self] <;> omega) | (simp (disch := omega) [hj, std, cmpI, cmpB, satB, add64, sub64, ite0, pl0, pl2, pl3, sb0, if_true, if_false, eq_self] <;> omega))) | ((rw [hj]; exact rfl)) | ((refine upd_box ?_ (upd_nil _); rfl)))
theorem pc_GetD (m1 m2 : GM) (n : Nat) (os : List C) (x : ByteArray) (h1 : MI m1) : PC Try.prog T 34 [.root (dBox m1 m2 n os), .v false [vS x]] ⟨true, [(false, [.st (vI (getD m1 x))]), (false, [.st (vB (hasD m1 x))])]⟩ [dBox m1 m2 n os, .none] := by
 have hg := mget_int h1 x
 refine pc_of tok Try.func34 rfl (by rfl) ?_
 obtain ⟨j, hj⟩ : ∃ j : J, j = std Try.prog T := ⟨_, rfl⟩
 have hm : Try.prog.follows .mixedOrders = true := by kernel_rfl
 generalize y_apM : @apM = x_apM at *
 generalize y_hasD : @hasD = x_hasD at *
 generalize y_getD : @getD = x_getD at *
 (repeat' first | (refine ⟨.inr rfl, ret_oku hj (by cbv) (by cbv) rfl ?_ ?_ (upd_of ?_)⟩) | (refine ⟨.inl rfl, ret_oku hj (by cbv) (by cbv) rfl ?_ ?_ (upd_of ?_)⟩) | ((first | with_reducible refine tr_cut (fun h => ?_) (fun h => ?_) | refine aw_condj (by cbv) (fun h => ?_) (fun h => ?_)) <;> (try simp (disch := omega) only [hj, std, cmpI, cmpB, satB, Bool.not_eq_true, Bool.not_eq_false, decide_eq_true_eq, decide_eq_false_iff_not, beq_iff_eq, bne_iff_ne, bne_eq_false_iff_eq, beq_eq_false_iff_ne, ne_eq, reduceCtorEq, not_true_eq_false, not_false_eq_true, pl0, if_true, cmpS_eq, cmpS_neq, Bool.not_eq_eq_eq_not, Bool.not_true, Bool.not_false, Bool.not_eq_true', add64, sub64] at h) <;> (try (exfalso; omega))) | (with_reducible refine tr_alt (fun h => ?_) ?_ <;> (try (exfalso; omega))) | (with_reducible first | refine tr_ob ?_ ?_ | refine tr_done ?_) | (refine aw_tr hj tok (bookD1 x_apM x_hasD x_getD) (by cbv) ?_) | (refine aw_seq fun K hK => ?_) | (refine aw_tr1 hj tok (bookD1 x_apM x_hasD x_getD) (by cbv) ?_) | (refine aw_skip ?_) | (refine aw_block ?_) | (refine aw_exit ?_) | (refine aw_ret ⟨.inr rfl, ret_okj hj (by cbv) ?_ ?_⟩) | (refine aw_ret ?_) | (with_reducible first | refine th_n ?_ | refine th_r ?_ | refine th_x ?_ | refine blk_n ?_ | refine blk_r ?_ | refine blk_x ?_ | refine blk_y rfl ?_) | (refine ⟨.inr rfl, ret_okj hj (by cbv) ?_ ?_⟩) | (refine ⟨.inl rfl, ret_okj hj (by cbv) ?_ ?_⟩) | (with_reducible apply_assumption -symm -exfalso only [*]))
 all_goals ((try subst y_apM); (try subst y_hasD); (try subst y_getD))
 all_goals (try (repeat' first | with_reducible exact obl0 | with_reducible refine obl1 ?_ ?_))
 all_goals (try first | with_reducible exact True.intro | ((first | refine ob_le hj ?_ | refine ob_lei hj ?_ | refine ob_inb hj ?_ | refine ob_pos hj ?_ | refine ob_ne0 hj ?_ | refine ob_eqb hj ?_); (first | rfl | first | omega | (simp only [hj, std]; split <;> omega) | (simp (disch := omega) only [hj, std, cmpI, cmpB, satB, add64, sub64, ite0, pl0, pl2, pl3, sb0, if_true, if_false, eq_self] <;> omega) | (simp (disch := omega) [hj, std, cmpI, cmpB, satB, add64, sub64, ite0, pl0, pl2, pl3, sb0, if_true, if_false, eq_self] <;> omega))) | ((refine ob_ok hj ?_; rw [hj]; exact ⟨getD m1 x, hg⟩)) | ((rw [hj]; exact rfl)) | ((refine upd_box ?_ (upd_none (upd_nil _)); rfl)))
theorem c_Apply (m : GM) (kd n : Int) (x y : ByteArray) (h : MI m) : (std Try.prog T).pcm 68 .str m [.v true [vI kd, vS x, vS y, vI n]] (apM m kd x y n) := ⟨enters Try.func68 (by kernel_rfl) (by kernel_rfl), pcm_apply m kd n x y h⟩
theorem c_Clone (m : GM) : (std Try.prog T).pcl 69 .str m m := ⟨enters Try.func69 (by kernel_rfl) (by kernel_rfl), pcl_Clone m⟩
theorem c_GetD (m1 m2 : GM) (n : Nat) (os : List C) (x : ByteArray) (h1 : MI m1) : (std Try.prog T).pc 34 [.root (dBox m1 m2 n os), .v false [vS x]] ⟨true, [(false, [.st (vI (getD m1 x))]), (false, [.st (vB (hasD m1 x))])]⟩ [dBox m1 m2 n os, .none] := ⟨enters Try.func34 (by kernel_rfl) (by kernel_rfl), pc_GetD m1 m2 n os x h1⟩
theorem pc_SyncD (m1 m2 : GM) (n : Nat) (os : List C) : PC Try.prog T 61 [.root (dBox m1 m2 n os)] ⟨true, []⟩ [dBox m1 m1 0 []] := by
 refine pc_of tok Try.func61 rfl (by rfl) ?_
 obtain ⟨j, hj⟩ : ∃ j : J, j = std Try.prog T := ⟨_, rfl⟩
 have hm : Try.prog.follows .mixedOrders = true := by kernel_rfl
 generalize y_apM : @apM = x_apM at *
 generalize y_hasD : @hasD = x_hasD at *
 generalize y_getD : @getD = x_getD at *
 (repeat' first | (refine ⟨.inr rfl, ret_oku hj (by cbv) (by cbv) rfl ?_ ?_ (upd_of ?_)⟩) | (refine ⟨.inl rfl, ret_oku hj (by cbv) (by cbv) rfl ?_ ?_ (upd_of ?_)⟩) | ((first | with_reducible refine tr_cut (fun h => ?_) (fun h => ?_) | refine aw_condj (by cbv) (fun h => ?_) (fun h => ?_)) <;> (try simp (disch := omega) only [hj, std, cmpI, cmpB, satB, Bool.not_eq_true, Bool.not_eq_false, decide_eq_true_eq, decide_eq_false_iff_not, beq_iff_eq, bne_iff_ne, bne_eq_false_iff_eq, beq_eq_false_iff_ne, ne_eq, reduceCtorEq, not_true_eq_false, not_false_eq_true, pl0, if_true, cmpS_eq, cmpS_neq, Bool.not_eq_eq_eq_not, Bool.not_true, Bool.not_false, Bool.not_eq_true', add64, sub64] at h) <;> (try (exfalso; omega))) | (with_reducible refine tr_alt (fun h => ?_) ?_ <;> (try (exfalso; omega))) | (with_reducible first | refine tr_ob ?_ ?_ | refine tr_done ?_) | (refine aw_tr hj tok (bookD1 x_apM x_hasD x_getD) (by cbv) ?_) | (refine aw_seq fun K hK => ?_) | (refine aw_tr1 hj tok (bookD1 x_apM x_hasD x_getD) (by cbv) ?_) | (refine aw_skip ?_) | (refine aw_block ?_) | (refine aw_exit ?_) | (refine aw_ret ⟨.inr rfl, ret_okj hj (by cbv) ?_ ?_⟩) | (refine aw_ret ?_) | (with_reducible first | refine th_n ?_ | refine th_r ?_ | refine th_x ?_ | refine blk_n ?_ | refine blk_r ?_ | refine blk_x ?_ | refine blk_y rfl ?_) | (refine ⟨.inr rfl, ret_okj hj (by cbv) ?_ ?_⟩) | (refine ⟨.inl rfl, ret_okj hj (by cbv) ?_ ?_⟩) | (with_reducible apply_assumption -symm -exfalso only [*]))
 all_goals ((try subst y_apM); (try subst y_hasD); (try subst y_getD))
 all_goals (try (repeat' first | with_reducible exact obl0 | with_reducible refine obl1 ?_ ?_))
 all_goals (try first | with_reducible exact True.intro | ((first | refine ob_le hj ?_ | refine ob_lei hj ?_ | refine ob_inb hj ?_ | refine ob_pos hj ?_ | refine ob_ne0 hj ?_ | refine ob_eqb hj ?_); (first | rfl | first | omega | (simp only [hj, std]; split <;> omega) | (simp (disch := omega) only [hj, std, cmpI, cmpB, satB, add64, sub64, ite0, pl0, pl2, pl3, sb0, if_true, if_false, eq_self] <;> omega) | (simp (disch := omega) [hj, std, cmpI, cmpB, satB, add64, sub64, ite0, pl0, pl2, pl3, sb0, if_true, if_false, eq_self] <;> omega))) | ((rw [hj]; exact c_Clone _)) | (exact rfl) | ((refine upd_le rfl (.cons (.refl _) (.cons (.refl _) (.cons (.nil_own _) .nil))) (upd_nil _))))
theorem pc_doD (m1 m2 : GM) (n : Nat) (os : List C) (kd q : Int) (x y : ByteArray) (h1 : MI m1) (hb : n < 1000) : PC Try.prog T 78 [.root (dBox m1 m2 n os), .v true [vI kd, vS x, vS y, vI q]] (ret1 (.st (vB (okD m1 kd x)))) [if okD m1 kd x = true then dBox (apM m1 kd x y q) m2 (n + 1) (os ++ [vI kd, vS x, vS y, vI q]) else dBox m1 m2 n os, .none] := by
 have eo : okD m1 kd x = (!decide (hasD m1 x = (kd == 0))) := rfl
 rcases Decidable.em (okD m1 kd x = true) with ho | ho
 ·rw [if_pos ho]
  rw [ho] at eo ⊢
  clear ho
  have ho : ¬ hasD m1 x = (kd == 0) := by simpa using eo
  have e1 : (if n = 0 then 1 else n + 1) = n + 1 := by split <;> omega
  clear eo
  refine pc_of tok Try.func78 rfl (by rfl) ?_
  obtain ⟨j, hj⟩ : ∃ j : J, j = std Try.prog T := ⟨_, rfl⟩
  have hm : Try.prog.follows .mixedOrders = true := by kernel_rfl
  generalize y_apM : @apM = x_apM at *
  generalize y_hasD : @hasD = x_hasD at *
  generalize y_getD : @getD = x_getD at *
  generalize y_okD : @okD = x_okD at *
  (repeat' first | (refine ⟨.inr rfl, ret_oku hj (by cbv) (by cbv) rfl ?_ ?_ (upd_of ?_)⟩) | (refine ⟨.inl rfl, ret_oku hj (by cbv) (by cbv) rfl ?_ ?_ (upd_of ?_)⟩) | ((first | with_reducible refine tr_cut (fun h => ?_) (fun h => ?_) | refine aw_condj (by cbv) (fun h => ?_) (fun h => ?_)) <;> (try simp (disch := omega) only [hj, std, cmpI, cmpB, satB, Bool.not_eq_true, Bool.not_eq_false, decide_eq_true_eq, decide_eq_false_iff_not, beq_iff_eq, bne_iff_ne, bne_eq_false_iff_eq, beq_eq_false_iff_ne, ne_eq, reduceCtorEq, not_true_eq_false, not_false_eq_true, pl0, if_true, cmpS_eq, cmpS_neq, Bool.not_eq_eq_eq_not, Bool.not_true, Bool.not_false, Bool.not_eq_true', add64, sub64] at h) <;> (try (exfalso; omega))) | (with_reducible refine tr_alt (fun h => ?_) ?_ <;> (try (exfalso; omega))) | (with_reducible first | refine tr_ob ?_ ?_ | refine tr_done ?_) | (refine aw_tr hj tok (bookD1 x_apM x_hasD x_getD) (by cbv) ?_) | (refine aw_seq fun K hK => ?_) | (refine aw_tr1 hj tok (bookD1 x_apM x_hasD x_getD) (by cbv) ?_) | (refine aw_skip ?_) | (refine aw_block ?_) | (refine aw_exit ?_) | (refine aw_ret ⟨.inr rfl, ret_okj hj (by cbv) ?_ ?_⟩) | (refine aw_ret ?_) | (with_reducible first | refine th_n ?_ | refine th_r ?_ | refine th_x ?_ | refine blk_n ?_ | refine blk_r ?_ | refine blk_x ?_ | refine blk_y rfl ?_) | (refine ⟨.inr rfl, ret_okj hj (by cbv) ?_ ?_⟩) | (refine ⟨.inl rfl, ret_okj hj (by cbv) ?_ ?_⟩) | (with_reducible apply_assumption -symm -exfalso only [*]))
  all_goals ((try subst y_apM); (try subst y_hasD); (try subst y_getD); (try subst y_okD))
  all_goals (try (repeat' first | with_reducible exact obl0 | (with_reducible refine obl1 ?_ ?_)))
  all_goals (try first | with_reducible exact True.intro | ((first | refine ob_pc hj ?_ | refine ob_pcn hj ?_); (try rw [hj]); first | exact c_GetD _ _ _ _ _ h1) | ((first | refine ob_le hj ?_ | refine ob_lei hj ?_ | refine ob_inb hj ?_ | refine ob_pos hj ?_ | refine ob_ne0 hj ?_ | refine ob_eqb hj ?_); (first | rfl | first | omega | (simp only [hj, std]; split <;> omega) | (simp (disch := omega) only [hj, std, cmpI, cmpB, satB, add64, sub64, ite0, pl0, pl2, pl3, sb0, if_true, if_false, eq_self] <;> omega) | (simp (disch := omega) [hj, std, cmpI, cmpB, satB, add64, sub64, ite0, pl0, pl2, pl3, sb0, if_true, if_false, eq_self] <;> omega))) | ((exact absurd (by assumption) ho)))
  generalize y_apM : @apM = x_apM at *
  generalize y_hasD : @hasD = x_hasD at *
  generalize y_getD : @getD = x_getD at *
  generalize y_okD : @okD = x_okD at *
  (repeat' first | (refine aw_frz 3 (by cbv) ?_) | (refine ⟨.inr rfl, ret_oku hj (by cbv) (by cbv) rfl ?_ ?_ (upd_of ?_)⟩) | (refine ⟨.inl rfl, ret_oku hj (by cbv) (by cbv) rfl ?_ ?_ (upd_of ?_)⟩) | ((first | with_reducible refine tr_cut (fun h => ?_) (fun h => ?_) | refine aw_condj (by cbv) (fun h => ?_) (fun h => ?_)) <;> (try simp (disch := omega) only [hj, std, cmpI, cmpB, satB, Bool.not_eq_true, Bool.not_eq_false, decide_eq_true_eq, decide_eq_false_iff_not, beq_iff_eq, bne_iff_ne, bne_eq_false_iff_eq, beq_eq_false_iff_ne, ne_eq, reduceCtorEq, not_true_eq_false, not_false_eq_true, pl0, if_true, cmpS_eq, cmpS_neq, Bool.not_eq_eq_eq_not, Bool.not_true, Bool.not_false, Bool.not_eq_true', add64, sub64] at h) <;> (try (exfalso; omega))) | (with_reducible refine tr_alt (fun h => ?_) ?_ <;> (try (exfalso; omega))) | (with_reducible first | refine tr_ob ?_ ?_ | refine tr_done ?_) | (refine aw_dc1 (id := 5) hj tok hm (bookD1 x_apM x_hasD x_getD) [0, 1, 2, 3, 5] (.alt 4 (.last 6 (.last 7 (.take 8 (.take 9 (.last 10 .done))))) (.last 6 (.last 4 (.last 7 (.take 8 (.take 9 (.last 10 .done))))))) (by kernel_rfl) (by cbv) ?_) | (refine aw_dc (id := 5) hj tok hm (bookD1 x_apM x_hasD x_getD) [0, 1, 2, 3, 5] (.alt 4 (.last 6 (.last 7 (.take 8 (.take 9 (.last 10 .done))))) (.last 6 (.last 4 (.last 7 (.take 8 (.take 9 (.last 10 .done))))))) (by kernel_rfl) (by cbv) ?_) | (refine aw_dc1 (id := 4) hj tok hm (bookD1 x_apM x_hasD x_getD) [0, 1, 2, 4] (.last 3 (.last 5 .done)) (by kernel_rfl) (by cbv) ?_) | (refine aw_dc (id := 4) hj tok hm (bookD1 x_apM x_hasD x_getD) [0, 1, 2, 4] (.last 3 (.last 5 .done)) (by kernel_rfl) (by cbv) ?_) | (refine aw_tr hj tok (bookD1 x_apM x_hasD x_getD) (by cbv) ?_) | (refine aw_seq fun K hK => ?_) | (refine aw_tr1 hj tok (bookD1 x_apM x_hasD x_getD) (by cbv) ?_) | (refine aw_skip ?_) | (refine aw_block ?_) | (refine aw_exit ?_) | (refine aw_ret ⟨.inr rfl, ret_okj hj (by cbv) ?_ ?_⟩) | (refine aw_ret ?_) | (with_reducible first | refine th_n ?_ | refine th_r ?_ | refine th_x ?_ | refine blk_n ?_ | refine blk_r ?_ | refine blk_x ?_ | refine blk_y rfl ?_) | (refine ⟨.inr rfl, ret_okj hj (by cbv) ?_ ?_⟩) | (refine ⟨.inl rfl, ret_okj hj (by cbv) ?_ ?_⟩) | (with_reducible apply_assumption -symm -exfalso only [*]))
  all_goals ((try subst y_apM); (try subst y_hasD); (try subst y_getD); (try subst y_okD))
  all_goals (try (repeat' first | with_reducible exact obl0 | (with_reducible refine obl1 ?_ ?_)))
  all_goals (try first | with_reducible exact True.intro | ((first | refine ob_le hj ?_ | refine ob_lei hj ?_ | refine ob_inb hj ?_ | refine ob_pos hj ?_ | refine ob_ne0 hj ?_ | refine ob_eqb hj ?_); (first | rfl | first | omega | (simp only [hj, std]; split <;> omega) | (simp (disch := omega) only [hj, std, cmpI, cmpB, satB, add64, sub64, ite0, pl0, pl2, pl3, sb0, if_true, if_false, eq_self] <;> omega) | (simp (disch := omega) [hj, std, cmpI, cmpB, satB, add64, sub64, ite0, pl0, pl2, pl3, sb0, if_true, if_false, eq_self] <;> omega))) | ((exact absurd (by assumption) ho)) | ((refine ob_ok hj ?_; rw [hj]; exact ⟨_, rfl⟩)) | ((rw [hj]; exact c_Apply _ _ _ _ _ h1)) | (exact rfl) | ((refine upd_box ?_ (upd_none (upd_nil _)); simp only [hj, std, e1]; first | done | exact rfl)))
 ·rw [if_neg ho]
  rw [Bool.not_eq_true] at ho
  rw [ho] at eo ⊢
  clear ho
  have ho : hasD m1 x = (kd == 0) := by simpa using eo
  clear eo
  refine pc_of tok Try.func78 rfl (by rfl) ?_
  obtain ⟨j, hj⟩ : ∃ j : J, j = std Try.prog T := ⟨_, rfl⟩
  have hm : Try.prog.follows .mixedOrders = true := by kernel_rfl
  generalize y_apM : @apM = x_apM at *
  generalize y_hasD : @hasD = x_hasD at *
  generalize y_getD : @getD = x_getD at *
  generalize y_okD : @okD = x_okD at *
  (repeat' first | (refine ⟨.inr rfl, ret_oku hj (by cbv) (by cbv) rfl ?_ ?_ (upd_of ?_)⟩) | (refine ⟨.inl rfl, ret_oku hj (by cbv) (by cbv) rfl ?_ ?_ (upd_of ?_)⟩) | ((first | with_reducible refine tr_cut (fun h => ?_) (fun h => ?_) | refine aw_condj (by cbv) (fun h => ?_) (fun h => ?_)) <;> (try simp (disch := omega) only [hj, std, cmpI, cmpB, satB, Bool.not_eq_true, Bool.not_eq_false, decide_eq_true_eq, decide_eq_false_iff_not, beq_iff_eq, bne_iff_ne, bne_eq_false_iff_eq, beq_eq_false_iff_ne, ne_eq, reduceCtorEq, not_true_eq_false, not_false_eq_true, pl0, if_true, cmpS_eq, cmpS_neq, Bool.not_eq_eq_eq_not, Bool.not_true, Bool.not_false, Bool.not_eq_true', add64, sub64] at h) <;> (try (exfalso; omega))) | (with_reducible refine tr_alt (fun h => ?_) ?_ <;> (try (exfalso; omega))) | (with_reducible first | refine tr_ob ?_ ?_ | refine tr_done ?_) | (refine aw_tr hj tok (bookD1 x_apM x_hasD x_getD) (by cbv) ?_) | (refine aw_seq fun K hK => ?_) | (refine aw_tr1 hj tok (bookD1 x_apM x_hasD x_getD) (by cbv) ?_) | (refine aw_skip ?_) | (refine aw_block ?_) | (refine aw_exit ?_) | (refine aw_ret ⟨.inr rfl, ret_okj hj (by cbv) ?_ ?_⟩) | (refine aw_ret ?_) | (with_reducible first | refine th_n ?_ | refine th_r ?_ | refine th_x ?_ | refine blk_n ?_ | refine blk_r ?_ | refine blk_x ?_ | refine blk_y rfl ?_) | (refine ⟨.inr rfl, ret_okj hj (by cbv) ?_ ?_⟩) | (refine ⟨.inl rfl, ret_okj hj (by cbv) ?_ ?_⟩) | (with_reducible apply_assumption -symm -exfalso only [*]))
  all_goals ((try subst y_apM); (try subst y_hasD); (try subst y_getD); (try subst y_okD))
  all_goals (try (repeat' first | with_reducible exact obl0 | with_reducible refine obl1 ?_ ?_))
  all_goals (try first | with_reducible exact True.intro | ((first | refine ob_pc hj ?_ | refine ob_pcn hj ?_); (try rw [hj]); first | exact c_GetD _ _ _ _ _ h1) | ((first | refine ob_le hj ?_ | refine ob_lei hj ?_ | refine ob_inb hj ?_ | refine ob_pos hj ?_ | refine ob_ne0 hj ?_ | refine ob_eqb hj ?_); (first | rfl | first | omega | (simp only [hj, std]; split <;> omega) | (simp (disch := omega) only [hj, std, cmpI, cmpB, satB, add64, sub64, ite0, pl0, pl2, pl3, sb0, if_true, if_false, eq_self] <;> omega) | (simp (disch := omega) [hj, std, cmpI, cmpB, satB, add64, sub64, ite0, pl0, pl2, pl3, sb0, if_true, if_false, eq_self] <;> omega))) | ((exact absurd ho (by assumption))) | (exact rfl) | ((refine upd_box ?_ (upd_none (upd_nil _)); rfl)))
end Go.Proofs.Ytnmlcfjljeccnaa.A
/- The directory of layer 9: put, drop, move, crash. -/
set_option linter.unusedSimpArgs false
set_option linter.unusedVariables false
set_option maxRecDepth 100000
set_option maxHeartbeats 4000000
namespace Go.Proofs.Ytnmlcfjljeccnaa.A
open Go
def nmD (m : GM) (kd : Int) (x y : ByteArray) (q : Int) : GM := if okD m kd x = true then apM m kd x y q else m
def nnD (m : GM) (kd : Int) (x : ByteArray) (n : Nat) : Nat := if okD m kd x = true then n + 1 else n
def noD (m : GM) (kd : Int) (x y : ByteArray) (q : Int) (os : List C) : List C := if okD m kd x = true then os ++ [vI kd, vS x, vS y, vI q] else os
theorem c_doD (m1 m2 : GM) (n : Nat) (os : List C) (kd q : Int) (x y : ByteArray) (h1 : MI m1) (hb : n < 1000) : (std Try.prog T).pc 78 [.root (dBox m1 m2 n os), .v true [vI kd, vS x, vS y, vI q]] (ret1 (.st (vB (okD m1 kd x)))) [dBox (nmD m1 kd x y q) m2 (nnD m1 kd x n) (noD m1 kd x y q os), .none] := by
 refine ⟨enters Try.func78 (by kernel_rfl) (by kernel_rfl), ?_⟩
 have h := pc_doD m1 m2 n os kd q x y h1 hb
 unfold nmD nnD noD
 rcases Decidable.em (okD m1 kd x = true) with ho | ho
 ·rw [if_pos ho] at h ⊢
  rw [if_pos ho, if_pos ho]; exact h
 ·rw [if_neg ho] at h ⊢
  rw [if_neg ho, if_neg ho]; exact h
def bookD2 (x_hasD : GM → ByteArray → Bool) (x_getD : GM → ByteArray → Int) (x_okD : GM → Int → ByteArray → Bool) (x_nmD : GM → Int → ByteArray → ByteArray → Int → GM) (x_nnD : GM → Int → ByteArray → Nat → Nat) (x_noD : GM → Int → ByteArray → ByteArray → Int → List C → List C) : Book := fun f xs => match f, xs with
 | 78, [.root (.box [.map k1 m1, .map k2 m2, .own _ n os]), .v true [.val (.int _ kd), .val (.string x), .val (.string y), .val (.int _ q)]] => some (ret1 (.st (vB (x_okD m1 kd x))), [.box [.map k1 (x_nmD m1 kd x y q), .map k2 m2, .own oT (x_nnD m1 kd x n) (x_noD m1 kd x y q os)], .none])
 | 34, [.root (.box [.map k1 m1, .map k2 m2, .own _ n os]), .v false [.val (.string x)]] => some (⟨true, [(false, [.st (vI (x_getD m1 x))]), (false, [.st (vB (x_hasD m1 x))])]⟩, [.box [.map k1 m1, .map k2 m2, .own oT n os], .none])
 | _, _ => none
theorem pc_PutD (m1 m2 : GM) (n : Nat) (os : List C) (x : ByteArray) (q : Int) (h1 : MI m1) (hb : n < 1000) : PC Try.prog T 60 [.root (dBox m1 m2 n os), .v false [vS x], .v false [vI q]] (ret1 (.st (vB (okD m1 0 x)))) [dBox (nmD m1 0 x ByteArray.empty q) m2 (nnD m1 0 x n) (noD m1 0 x ByteArray.empty q os), .none, .none] := by
 refine pc_of tok Try.func60 rfl (by rfl) ?_
 obtain ⟨j, hj⟩ : ∃ j : J, j = std Try.prog T := ⟨_, rfl⟩
 have hm : Try.prog.follows .mixedOrders = true := by kernel_rfl
 generalize y_hasD : @hasD = x_hasD at *
 generalize y_getD : @getD = x_getD at *
 generalize y_okD : @okD = x_okD at *
 generalize y_nmD : @nmD = x_nmD at *
 generalize y_nnD : @nnD = x_nnD at *
 generalize y_noD : @noD = x_noD at *
 (repeat' first | (refine ⟨.inr rfl, ret_oku hj (by cbv) (by cbv) rfl ?_ ?_ (upd_of ?_)⟩) | (refine ⟨.inl rfl, ret_oku hj (by cbv) (by cbv) rfl ?_ ?_ (upd_of ?_)⟩) | ((first | with_reducible refine tr_cut (fun h => ?_) (fun h => ?_) | refine aw_condj (by cbv) (fun h => ?_) (fun h => ?_)) <;> (try simp (disch := omega) only [hj, std, cmpI, cmpB, satB, Bool.not_eq_true, Bool.not_eq_false, decide_eq_true_eq, decide_eq_false_iff_not, beq_iff_eq, bne_iff_ne, bne_eq_false_iff_eq, beq_eq_false_iff_ne, ne_eq, reduceCtorEq, not_true_eq_false, not_false_eq_true, pl0, if_true, cmpS_eq, cmpS_neq, Bool.not_eq_eq_eq_not, Bool.not_true, Bool.not_false, Bool.not_eq_true', add64, sub64] at h) <;> (try (exfalso; omega))) | (with_reducible refine tr_alt (fun h => ?_) ?_ <;> (try (exfalso; omega))) | (with_reducible first | refine tr_ob ?_ ?_ | refine tr_done ?_) | (refine aw_tr hj tok (bookD2 x_hasD x_getD x_okD x_nmD x_nnD x_noD) (by cbv) ?_) | (refine aw_seq fun K hK => ?_) | (refine aw_tr1 hj tok (bookD2 x_hasD x_getD x_okD x_nmD x_nnD x_noD) (by cbv) ?_) | (refine aw_skip ?_) | (refine aw_block ?_) | (refine aw_exit ?_) | (refine aw_ret ⟨.inr rfl, ret_okj hj (by cbv) ?_ ?_⟩) | (refine aw_ret ?_) | (with_reducible first | refine th_n ?_ | refine th_r ?_ | refine th_x ?_ | refine blk_n ?_ | refine blk_r ?_ | refine blk_x ?_ | refine blk_y rfl ?_) | (refine ⟨.inr rfl, ret_okj hj (by cbv) ?_ ?_⟩) | (refine ⟨.inl rfl, ret_okj hj (by cbv) ?_ ?_⟩) | (with_reducible apply_assumption -symm -exfalso only [*]))
 all_goals ((try subst y_hasD); (try subst y_getD); (try subst y_okD); (try subst y_nmD); (try subst y_nnD); (try subst y_noD))
 all_goals (try (repeat' first | with_reducible exact obl0 | with_reducible refine obl1 ?_ ?_))
 all_goals (try first | with_reducible exact True.intro | ((first | refine ob_pc hj ?_ | refine ob_pcn hj ?_); (try rw [hj]); first | exact c_doD _ _ _ _ _ _ _ _ h1 hb) | ((first | refine ob_le hj ?_ | refine ob_lei hj ?_ | refine ob_inb hj ?_ | refine ob_pos hj ?_ | refine ob_ne0 hj ?_ | refine ob_eqb hj ?_); (first | rfl | first | omega | (simp only [hj, std]; split <;> omega) | (simp (disch := omega) only [hj, std, cmpI, cmpB, satB, add64, sub64, ite0, pl0, pl2, pl3, sb0, if_true, if_false, eq_self] <;> omega) | (simp (disch := omega) [hj, std, cmpI, cmpB, satB, add64, sub64, ite0, pl0, pl2, pl3, sb0, if_true, if_false, eq_self] <;> omega))) | (exact rfl) | ((refine upd_box ?_ (upd_none (upd_none (upd_nil _))); exact rfl)))
theorem pc_DropD (m1 m2 : GM) (n : Nat) (os : List C) (x : ByteArray) (h1 : MI m1) (hb : n < 1000) : PC Try.prog T 64 [.root (dBox m1 m2 n os), .v false [vS x]] (ret1 (.st (vB (okD m1 1 x)))) [dBox (nmD m1 1 x ByteArray.empty 0) m2 (nnD m1 1 x n) (noD m1 1 x ByteArray.empty 0 os), .none] := by
 refine pc_of tok Try.func64 rfl (by rfl) ?_
 obtain ⟨j, hj⟩ : ∃ j : J, j = std Try.prog T := ⟨_, rfl⟩
 have hm : Try.prog.follows .mixedOrders = true := by kernel_rfl
 generalize y_hasD : @hasD = x_hasD at *
 generalize y_getD : @getD = x_getD at *
 generalize y_okD : @okD = x_okD at *
 generalize y_nmD : @nmD = x_nmD at *
 generalize y_nnD : @nnD = x_nnD at *
 generalize y_noD : @noD = x_noD at *
 (repeat' first | (refine ⟨.inr rfl, ret_oku hj (by cbv) (by cbv) rfl ?_ ?_ (upd_of ?_)⟩) | (refine ⟨.inl rfl, ret_oku hj (by cbv) (by cbv) rfl ?_ ?_ (upd_of ?_)⟩) | ((first | with_reducible refine tr_cut (fun h => ?_) (fun h => ?_) | refine aw_condj (by cbv) (fun h => ?_) (fun h => ?_)) <;> (try simp (disch := omega) only [hj, std, cmpI, cmpB, satB, Bool.not_eq_true, Bool.not_eq_false, decide_eq_true_eq, decide_eq_false_iff_not, beq_iff_eq, bne_iff_ne, bne_eq_false_iff_eq, beq_eq_false_iff_ne, ne_eq, reduceCtorEq, not_true_eq_false, not_false_eq_true, pl0, if_true, cmpS_eq, cmpS_neq, Bool.not_eq_eq_eq_not, Bool.not_true, Bool.not_false, Bool.not_eq_true', add64, sub64] at h) <;> (try (exfalso; omega))) | (with_reducible refine tr_alt (fun h => ?_) ?_ <;> (try (exfalso; omega))) | (with_reducible first | refine tr_ob ?_ ?_ | refine tr_done ?_) | (refine aw_tr hj tok (bookD2 x_hasD x_getD x_okD x_nmD x_nnD x_noD) (by cbv) ?_) | (refine aw_seq fun K hK => ?_) | (refine aw_tr1 hj tok (bookD2 x_hasD x_getD x_okD x_nmD x_nnD x_noD) (by cbv) ?_) | (refine aw_skip ?_) | (refine aw_block ?_) | (refine aw_exit ?_) | (refine aw_ret ⟨.inr rfl, ret_okj hj (by cbv) ?_ ?_⟩) | (refine aw_ret ?_) | (with_reducible first | refine th_n ?_ | refine th_r ?_ | refine th_x ?_ | refine blk_n ?_ | refine blk_r ?_ | refine blk_x ?_ | refine blk_y rfl ?_) | (refine ⟨.inr rfl, ret_okj hj (by cbv) ?_ ?_⟩) | (refine ⟨.inl rfl, ret_okj hj (by cbv) ?_ ?_⟩) | (with_reducible apply_assumption -symm -exfalso only [*]))
 all_goals ((try subst y_hasD); (try subst y_getD); (try subst y_okD); (try subst y_nmD); (try subst y_nnD); (try subst y_noD))
 all_goals (try (repeat' first | with_reducible exact obl0 | with_reducible refine obl1 ?_ ?_))
 all_goals (try first | with_reducible exact True.intro | ((first | refine ob_pc hj ?_ | refine ob_pcn hj ?_); (try rw [hj]); first | exact c_doD _ _ _ _ _ _ _ _ h1 hb) | ((first | refine ob_le hj ?_ | refine ob_lei hj ?_ | refine ob_inb hj ?_ | refine ob_pos hj ?_ | refine ob_ne0 hj ?_ | refine ob_eqb hj ?_); (first | rfl | first | omega | (simp only [hj, std]; split <;> omega) | (simp (disch := omega) only [hj, std, cmpI, cmpB, satB, add64, sub64, ite0, pl0, pl2, pl3, sb0, if_true, if_false, eq_self] <;> omega) | (simp (disch := omega) [hj, std, cmpI, cmpB, satB, add64, sub64, ite0, pl0, pl2, pl3, sb0, if_true, if_false, eq_self] <;> omega))) | (exact rfl) | ((refine upd_box ?_ (upd_none (upd_nil _)); exact rfl)))
theorem pc_MoveD (m1 m2 : GM) (n : Nat) (os : List C) (x y : ByteArray) (h1 : MI m1) (hb : n < 1000) (hxy : x ≠ y) : PC Try.prog T 62 [.root (dBox m1 m2 n os), .v false [vS x], .v false [vS y]] (ret1 (.st (vB (okD m1 2 x)))) [dBox (nmD m1 2 x y 0) m2 (nnD m1 2 x n) (noD m1 2 x y 0 os), .none, .none] := by
 refine pc_of tok Try.func62 rfl (by rfl) ?_
 obtain ⟨j, hj⟩ : ∃ j : J, j = std Try.prog T := ⟨_, rfl⟩
 have hm : Try.prog.follows .mixedOrders = true := by kernel_rfl
 generalize y_hasD : @hasD = x_hasD at *
 generalize y_getD : @getD = x_getD at *
 generalize y_okD : @okD = x_okD at *
 generalize y_nmD : @nmD = x_nmD at *
 generalize y_nnD : @nnD = x_nnD at *
 generalize y_noD : @noD = x_noD at *
 (repeat' first | (refine ⟨.inr rfl, ret_oku hj (by cbv) (by cbv) rfl ?_ ?_ (upd_of ?_)⟩) | (refine ⟨.inl rfl, ret_oku hj (by cbv) (by cbv) rfl ?_ ?_ (upd_of ?_)⟩) | ((first | with_reducible refine tr_cut (fun h => ?_) (fun h => ?_) | refine aw_condj (by cbv) (fun h => ?_) (fun h => ?_)) <;> (try simp (disch := omega) only [hj, std, cmpI, cmpB, satB, Bool.not_eq_true, Bool.not_eq_false, decide_eq_true_eq, decide_eq_false_iff_not, beq_iff_eq, bne_iff_ne, bne_eq_false_iff_eq, beq_eq_false_iff_ne, ne_eq, reduceCtorEq, not_true_eq_false, not_false_eq_true, pl0, if_true, cmpS_eq, cmpS_neq, Bool.not_eq_eq_eq_not, Bool.not_true, Bool.not_false, Bool.not_eq_true', add64, sub64] at h) <;> (try (exfalso; omega))) | (with_reducible refine tr_alt (fun h => ?_) ?_ <;> (try (exfalso; omega))) | (with_reducible first | refine tr_ob ?_ ?_ | refine tr_done ?_) | (refine aw_tr hj tok (bookD2 x_hasD x_getD x_okD x_nmD x_nnD x_noD) (by cbv) ?_) | (refine aw_seq fun K hK => ?_) | (refine aw_tr1 hj tok (bookD2 x_hasD x_getD x_okD x_nmD x_nnD x_noD) (by cbv) ?_) | (refine aw_skip ?_) | (refine aw_block ?_) | (refine aw_exit ?_) | (refine aw_ret ⟨.inr rfl, ret_okj hj (by cbv) ?_ ?_⟩) | (refine aw_ret ?_) | (with_reducible first | refine th_n ?_ | refine th_r ?_ | refine th_x ?_ | refine blk_n ?_ | refine blk_r ?_ | refine blk_x ?_ | refine blk_y rfl ?_) | (refine ⟨.inr rfl, ret_okj hj (by cbv) ?_ ?_⟩) | (refine ⟨.inl rfl, ret_okj hj (by cbv) ?_ ?_⟩) | (with_reducible apply_assumption -symm -exfalso only [*]))
 all_goals ((try subst y_hasD); (try subst y_getD); (try subst y_okD); (try subst y_nmD); (try subst y_nnD); (try subst y_noD))
 all_goals (try (repeat' first | with_reducible exact obl0 | with_reducible refine obl1 ?_ ?_))
 all_goals (try first | with_reducible exact True.intro | ((first | refine ob_pc hj ?_ | refine ob_pcn hj ?_); (try rw [hj]); first | exact c_doD _ _ _ _ _ _ _ _ h1 hb) | ((first | refine ob_le hj ?_ | refine ob_lei hj ?_ | refine ob_inb hj ?_ | refine ob_pos hj ?_ | refine ob_ne0 hj ?_ | refine ob_eqb hj ?_); (first | rfl | first | omega | (simp only [hj, std]; split <;> omega) | (simp (disch := omega) only [hj, std, cmpI, cmpB, satB, add64, sub64, ite0, pl0, pl2, pl3, sb0, if_true, if_false, eq_self] <;> omega) | (simp (disch := omega) [hj, std, cmpI, cmpB, satB, add64, sub64, ite0, pl0, pl2, pl3, sb0, if_true, if_false, eq_self] <;> omega))) | ((exact absurd (by assumption) hxy)) | (exact rfl) | ((refine upd_box ?_ (upd_none (upd_none (upd_nil _))); exact rfl)))
theorem pc_MoveE (m1 m2 : GM) (n : Nat) (os : List C) (x : ByteArray) (h1 : MI m1) : PC Try.prog T 62 [.root (dBox m1 m2 n os), .v false [vS x], .v false [vS x]] (ret1 (.st (vB (hasD m1 x)))) [dBox m1 m2 n os, .none, .none] := by
 refine pc_of tok Try.func62 rfl (by rfl) ?_
 obtain ⟨j, hj⟩ : ∃ j : J, j = std Try.prog T := ⟨_, rfl⟩
 have hm : Try.prog.follows .mixedOrders = true := by kernel_rfl
 generalize y_hasD : @hasD = x_hasD at *
 generalize y_getD : @getD = x_getD at *
 generalize y_okD : @okD = x_okD at *
 generalize y_nmD : @nmD = x_nmD at *
 generalize y_nnD : @nnD = x_nnD at *
 generalize y_noD : @noD = x_noD at *
 (repeat' first | (refine ⟨.inr rfl, ret_oku hj (by cbv) (by cbv) rfl ?_ ?_ (upd_of ?_)⟩) | (refine ⟨.inl rfl, ret_oku hj (by cbv) (by cbv) rfl ?_ ?_ (upd_of ?_)⟩) | ((first | with_reducible refine tr_cut (fun h => ?_) (fun h => ?_) | refine aw_condj (by cbv) (fun h => ?_) (fun h => ?_)) <;> (try simp (disch := omega) only [hj, std, cmpI, cmpB, satB, Bool.not_eq_true, Bool.not_eq_false, decide_eq_true_eq, decide_eq_false_iff_not, beq_iff_eq, bne_iff_ne, bne_eq_false_iff_eq, beq_eq_false_iff_ne, ne_eq, reduceCtorEq, not_true_eq_false, not_false_eq_true, pl0, if_true, cmpS_eq, cmpS_neq, Bool.not_eq_eq_eq_not, Bool.not_true, Bool.not_false, Bool.not_eq_true', add64, sub64] at h) <;> (try (exfalso; omega))) | (with_reducible refine tr_alt (fun h => ?_) ?_ <;> (try (exfalso; omega))) | (with_reducible first | refine tr_ob ?_ ?_ | refine tr_done ?_) | (refine aw_tr hj tok (bookD2 x_hasD x_getD x_okD x_nmD x_nnD x_noD) (by cbv) ?_) | (refine aw_seq fun K hK => ?_) | (refine aw_tr1 hj tok (bookD2 x_hasD x_getD x_okD x_nmD x_nnD x_noD) (by cbv) ?_) | (refine aw_skip ?_) | (refine aw_block ?_) | (refine aw_exit ?_) | (refine aw_ret ⟨.inr rfl, ret_okj hj (by cbv) ?_ ?_⟩) | (refine aw_ret ?_) | (with_reducible first | refine th_n ?_ | refine th_r ?_ | refine th_x ?_ | refine blk_n ?_ | refine blk_r ?_ | refine blk_x ?_ | refine blk_y rfl ?_) | (refine ⟨.inr rfl, ret_okj hj (by cbv) ?_ ?_⟩) | (refine ⟨.inl rfl, ret_okj hj (by cbv) ?_ ?_⟩) | (with_reducible apply_assumption -symm -exfalso only [*]))
 all_goals ((try subst y_hasD); (try subst y_getD); (try subst y_okD); (try subst y_nmD); (try subst y_nnD); (try subst y_noD))
 all_goals (try (repeat' first | with_reducible exact obl0 | with_reducible refine obl1 ?_ ?_))
 all_goals (try first | with_reducible exact True.intro | ((first | refine ob_pc hj ?_ | refine ob_pcn hj ?_); (try rw [hj]); first | exact c_GetD _ _ _ _ _ h1) | ((first | refine ob_le hj ?_ | refine ob_lei hj ?_ | refine ob_inb hj ?_ | refine ob_pos hj ?_ | refine ob_ne0 hj ?_ | refine ob_eqb hj ?_); (first | rfl | first | omega | (simp only [hj, std]; split <;> omega) | (simp (disch := omega) only [hj, std, cmpI, cmpB, satB, add64, sub64, ite0, pl0, pl2, pl3, sb0, if_true, if_false, eq_self] <;> omega) | (simp (disch := omega) [hj, std, cmpI, cmpB, satB, add64, sub64, ite0, pl0, pl2, pl3, sb0, if_true, if_false, eq_self] <;> omega))) | (exact rfl) | ((refine upd_box ?_ (upd_none (upd_none (upd_nil _))); exact rfl)))
def crM (m : GM) (os : List C) : Nat → GM
 | 0 => m
 | i + 1 => apM (crM m os i) (gi (cellAt os (i * 4))) (gs (cellAt os (i * 4 + 1))) (gs (cellAt os (i * 4 + 2))) (gi (cellAt os (i * 4 + 3)))
theorem MI.cr {m : GM} (h : MI m) (os : List C) (i : Nat) : MI (crM m os i) := by
 induction i with
 | zero => exact h
 | succ i ih => exact ih.ap _ _ _ _
def opOk (n : Nat) (os : List C) : Prop := os.length = n * 4 ∧ ∀ i, i < n → okK (.int .i64) (cellAt os (i * 4)) ∧ okK .str (cellAt os (i * 4 + 1)) ∧ okK .str (cellAt os (i * 4 + 2)) ∧ okK (.int .i64) (cellAt os (i * 4 + 3))
end Go.Proofs.Ytnmlcfjljeccnaa.A
/- The directory of layer 9: a crash. -/
set_option linter.unusedSimpArgs false
set_option linter.unusedVariables false
set_option maxRecDepth 100000
set_option maxHeartbeats 4000000
namespace Go.Proofs.Ytnmlcfjljeccnaa.A
open Go
theorem pc_CrashD (m1 m2 : GM) (n kn kp : Nat) (os ks : List C) (h2 : MI m2) (hn : n < 1000) (ho : opOk n os) (hb : kn ≤ 140737488355328) (hk : ks.length = kn) (hkb : ∀ i, i < kn → okK .bool (cellAt ks i)) (p1 : kp ≤ n) (p2 : ∀ i, i < kp → i < kn ∧ gb (cellAt ks i) = true) (p3 : kp = n ∨ ¬ (kp < kn ∧ gb (cellAt ks kp) = true)) :
  PC Try.prog T 36 [.root (dBox m1 m2 n os), .v false [.sl kn ks]] ⟨true, []⟩ [dBox (crM m2 os kp) (crM m2 os kp) 0 [], .none] := by
 have hl := ho.1
 refine pc_of tok Try.func36 rfl (by rfl) ?_
 obtain ⟨j, hj⟩ : ∃ j : J, j = std Try.prog T := ⟨_, rfl⟩
 have hm : Try.prog.follows .mixedOrders = true := by kernel_rfl
 generalize y_apM : @apM = x_apM at *
 generalize y_hasD : @hasD = x_hasD at *
 generalize y_getD : @getD = x_getD at *
 (repeat' first | (refine ⟨.inr rfl, ret_oku hj (by cbv) (by cbv) rfl ?_ ?_ (upd_of ?_)⟩) | (refine ⟨.inl rfl, ret_oku hj (by cbv) (by cbv) rfl ?_ ?_ (upd_of ?_)⟩) | ((first | with_reducible refine tr_cut (fun h => ?_) (fun h => ?_) | refine aw_condj (by cbv) (fun h => ?_) (fun h => ?_)) <;> (try simp (disch := omega) only [hj, std, cmpI, cmpB, satB, Bool.not_eq_true, Bool.not_eq_false, decide_eq_true_eq, decide_eq_false_iff_not, beq_iff_eq, bne_iff_ne, bne_eq_false_iff_eq, beq_eq_false_iff_ne, ne_eq, reduceCtorEq, not_true_eq_false, not_false_eq_true, pl0, if_true, cmpS_eq, cmpS_neq, Bool.not_eq_eq_eq_not, Bool.not_true, Bool.not_false, Bool.not_eq_true', add64, sub64] at h) <;> (try (exfalso; omega))) | (with_reducible refine tr_alt (fun h => ?_) ?_ <;> (try (exfalso; omega))) | (with_reducible first | refine tr_ob ?_ ?_ | refine tr_done ?_) | (refine aw_tr hj tok (bookD1 x_apM x_hasD x_getD) (by cbv) ?_) | (refine aw_seq fun K hK => ?_) | (refine aw_tr1 hj tok (bookD1 x_apM x_hasD x_getD) (by cbv) ?_) | (refine aw_skip ?_) | (refine aw_block ?_) | (refine aw_exit ?_) | (refine aw_ret ⟨.inr rfl, ret_okj hj (by cbv) ?_ ?_⟩) | (refine aw_ret ?_) | (with_reducible first | refine th_n ?_ | refine th_r ?_ | refine th_x ?_ | refine blk_n ?_ | refine blk_r ?_ | refine blk_x ?_ | refine blk_y rfl ?_) | (refine ⟨.inr rfl, ret_okj hj (by cbv) ?_ ?_⟩) | (refine ⟨.inl rfl, ret_okj hj (by cbv) ?_ ?_⟩) | (with_reducible first | refine ⟨(_, _), by cbv, ?_, ?_⟩ | refine ⟨_, by cbv, ?_, ?_⟩) | (with_reducible apply_assumption -symm -exfalso only [*]))
 all_goals ((try subst y_apM); (try subst y_hasD); (try subst y_getD))
 all_goals (try (repeat' first | with_reducible exact obl0 | (with_reducible refine obl1 ?_ ?_)))
 all_goals (try first | with_reducible exact True.intro | ((first | refine ob_le hj ?_ | refine ob_lei hj ?_ | refine ob_inb hj ?_ | refine ob_pos hj ?_ | refine ob_ne0 hj ?_ | refine ob_eqb hj ?_); (first | rfl | first | omega | (simp only [hj, std]; split <;> omega) | (simp (disch := omega) only [hj, std, cmpI, cmpB, satB, add64, sub64, ite0, pl0, pl2, pl3, sb0, if_true, if_false, eq_self] <;> omega) | (simp (disch := omega) [hj, std, cmpI, cmpB, satB, add64, sub64, ite0, pl0, pl2, pl3, sb0, if_true, if_false, eq_self] <;> omega))))
 refine aw_lpj hj [(0, .keep), (1, .keep), (11, .keep), (12, .keep), (13, .keep)] [] (fun (⟨i, M⟩ : Int × GM) => stOfR 47 [(0, .one (.ptr 48 0)), (1, .one (.c (.sl kn ks))), (11, .one (.view 48 2)), (12, .one (.c (vI (j.ofNat n)))), (13, .one (.c (vI i)))] [] [.box [.map .str m1, .map .str M, .own oT n os], .none]) (fun (⟨i, M⟩ : Int × GM) => n - i.toNat) (fun (⟨i, M⟩ : Int × GM) => 0 ≤ i ∧ i ≤ kp ∧ M = crM m2 os i.toNat) ((_, _)) (by generalize @apM = x_apM; generalize @hasD = x_hasD; generalize @getD = x_getD; cbv) ?_ (fun ⟨i, M⟩ hI => ?_)
 ·exact ⟨by omega, by omega, rfl⟩
 obtain ⟨i1, i2, hM⟩ := hI
 have hMI : MI M := by rw [hM]; exact h2.cr _ _
 rcases Decidable.em (i < (kp : Int)) with hi | hi
 ·obtain ⟨q1, q2⟩ := p2 i.toNat (by omega)
  obtain ⟨o0, o1, o2, o3⟩ := ho.2 i.toNat (by omega)
  have hkk := hkb i.toNat q1
  have f1 : (i + 1).toNat = i.toNat + 1 := by omega
  have hs : crM m2 os (i + 1).toNat = apM M (gi (cellAt os (i.toNat * 4))) (gs (cellAt os (i.toNat * 4 + 1))) (gs (cellAt os (i.toNat * 4 + 2))) (gi (cellAt os (i.toNat * 4 + 3))) := by rw [f1, hM]; rfl
  generalize y_apM : @apM = x_apM at *
  generalize y_hasD : @hasD = x_hasD at *
  generalize y_getD : @getD = x_getD at *
  (repeat' first | (refine ⟨.inr rfl, ret_oku hj (by cbv) (by cbv) rfl ?_ ?_ (upd_of ?_)⟩) | (refine ⟨.inl rfl, ret_oku hj (by cbv) (by cbv) rfl ?_ ?_ (upd_of ?_)⟩) | ((first | with_reducible refine tr_cut (fun h => ?_) (fun h => ?_) | refine aw_condj (by cbv) (fun h => ?_) (fun h => ?_)) <;> (try simp (disch := omega) only [hj, std, cmpI, cmpB, satB, Bool.not_eq_true, Bool.not_eq_false, decide_eq_true_eq, decide_eq_false_iff_not, beq_iff_eq, bne_iff_ne, bne_eq_false_iff_eq, beq_eq_false_iff_ne, ne_eq, reduceCtorEq, not_true_eq_false, not_false_eq_true, pl0, if_true, cmpS_eq, cmpS_neq, Bool.not_eq_eq_eq_not, Bool.not_true, Bool.not_false, Bool.not_eq_true', q2, add64, sub64] at h) <;> (try (exfalso; omega))) | (with_reducible refine tr_alt (fun h => ?_) ?_ <;> (try (exfalso; omega))) | (with_reducible first | refine tr_ob ?_ ?_ | refine tr_done ?_) | (refine aw_dc1 (id := 5) hj tok hm (bookD1 x_apM x_hasD x_getD) [0, 1, 2] (.alt 3 (.last 4 (.last 5 .done)) (.last 4 (.last 3 (.last 5 .done)))) (by kernel_rfl) (by cbv) ?_) | (refine aw_dc (id := 5) hj tok hm (bookD1 x_apM x_hasD x_getD) [0, 1, 2] (.alt 3 (.last 4 (.last 5 .done)) (.last 4 (.last 3 (.last 5 .done)))) (by kernel_rfl) (by cbv) ?_) | (refine aw_tr hj tok (bookD1 x_apM x_hasD x_getD) (by cbv) ?_) | (refine aw_seq fun K hK => ?_) | (refine aw_tr1 hj tok (bookD1 x_apM x_hasD x_getD) (by cbv) ?_) | (refine aw_skip ?_) | (refine aw_block ?_) | (refine aw_exit ?_) | (refine aw_ret ⟨.inr rfl, ret_okj hj (by cbv) ?_ ?_⟩) | (refine aw_ret ?_) | (with_reducible first | refine th_n ?_ | refine th_r ?_ | refine th_x ?_ | refine blk_n ?_ | refine blk_r ?_ | refine blk_x ?_ | refine blk_y rfl ?_) | (refine ⟨.inr rfl, ret_okj hj (by cbv) ?_ ?_⟩) | (refine ⟨.inl rfl, ret_okj hj (by cbv) ?_ ?_⟩) | (with_reducible first | refine ⟨(_, _), by cbv, ?_, ?_⟩ | refine ⟨_, by cbv, ?_, ?_⟩) | (with_reducible apply_assumption -symm -exfalso only [*]))
  all_goals ((try subst y_apM); (try subst y_hasD); (try subst y_getD))
  all_goals (try (repeat' first | with_reducible exact obl0 | (with_reducible refine obl1 ?_ ?_)))
  all_goals (try first | with_reducible exact True.intro | ((first | refine ob_le hj ?_ | refine ob_lei hj ?_ | refine ob_inb hj ?_ | refine ob_pos hj ?_ | refine ob_ne0 hj ?_ | refine ob_eqb hj ?_); (first | rfl | first | omega | (simp only [hj, std]; split <;> omega) | (simp (disch := omega) only [hj, std, cmpI, cmpB, satB, add64, sub64, ite0, pl0, pl2, pl3, sb0, if_true, if_false, eq_self, hk, hl, q2] <;> omega) | (simp (disch := omega) [hj, std, cmpI, cmpB, satB, add64, sub64, ite0, pl0, pl2, pl3, sb0, if_true, if_false, eq_self, hk, hl, q2] <;> omega))) | ((rw [hj]; exact c_Apply _ _ _ _ _ hMI)) | ((refine ob_ok hj ?_; (try rw [hj]); first | exact hkk | exact o0 | exact o1 | exact o2 | exact o3 | exact ⟨_, rfl⟩)) | ((simp (disch := omega) only [hj, std, add64]; first | omega | exact ⟨by omega, by omega, hs.symm⟩)))
 ·have e : i.toNat = kp := by omega
  rw [e] at hM
  rcases Decidable.em (i < (n : Int)) with hin | hin
  ·have p3 := p3.resolve_left (by omega)
   obtain ⟨o0, o1, o2, o3⟩ := ho.2 i.toNat (by omega)
   rcases Decidable.em (i < (kn : Int)) with hik | hik
   ·have q2 : gb (cellAt ks i.toNat) = false := by
     rw [e]; rcases hb : gb (cellAt ks kp) with _ | _
     ·rfl
     ·exact absurd ⟨by omega, hb⟩ p3
    have hkk := hkb i.toNat (by omega)
    generalize y_apM : @apM = x_apM at *
    generalize y_hasD : @hasD = x_hasD at *
    generalize y_getD : @getD = x_getD at *
    (repeat' first | (refine ⟨.inr rfl, ret_oku hj (by cbv) (by cbv) rfl ?_ ?_ (upd_of ?_)⟩) | (refine ⟨.inl rfl, ret_oku hj (by cbv) (by cbv) rfl ?_ ?_ (upd_of ?_)⟩) | ((first | with_reducible refine tr_cut (fun h => ?_) (fun h => ?_) | refine aw_condj (by cbv) (fun h => ?_) (fun h => ?_)) <;> (try simp (disch := omega) only [hj, std, cmpI, cmpB, satB, Bool.not_eq_true, Bool.not_eq_false, decide_eq_true_eq, decide_eq_false_iff_not, beq_iff_eq, bne_iff_ne, bne_eq_false_iff_eq, beq_eq_false_iff_ne, ne_eq, reduceCtorEq, not_true_eq_false, not_false_eq_true, pl0, if_true, cmpS_eq, cmpS_neq, Bool.not_eq_eq_eq_not, Bool.not_true, Bool.not_false, Bool.not_eq_true', q2, add64, sub64] at h) <;> (try (exfalso; omega))) | (with_reducible refine tr_alt (fun h => ?_) ?_ <;> (try (exfalso; omega))) | (with_reducible first | refine tr_ob ?_ ?_ | refine tr_done ?_) | (refine aw_dc1 (id := 5) hj tok hm (bookD1 x_apM x_hasD x_getD) [0, 1, 2] (.alt 3 (.last 4 (.last 5 .done)) (.last 4 (.last 3 (.last 5 .done)))) (by kernel_rfl) (by cbv) ?_) | (refine aw_dc (id := 5) hj tok hm (bookD1 x_apM x_hasD x_getD) [0, 1, 2] (.alt 3 (.last 4 (.last 5 .done)) (.last 4 (.last 3 (.last 5 .done)))) (by kernel_rfl) (by cbv) ?_) | (refine aw_tr hj tok (bookD1 x_apM x_hasD x_getD) (by cbv) ?_) | (refine aw_seq fun K hK => ?_) | (refine aw_tr1 hj tok (bookD1 x_apM x_hasD x_getD) (by cbv) ?_) | (refine aw_skip ?_) | (refine aw_block ?_) | (refine aw_exit ?_) | (refine aw_ret ⟨.inr rfl, ret_okj hj (by cbv) ?_ ?_⟩) | (refine aw_ret ?_) | (with_reducible first | refine th_n ?_ | refine th_r ?_ | refine th_x ?_ | refine blk_n ?_ | refine blk_r ?_ | refine blk_x ?_ | refine blk_y rfl ?_) | (refine ⟨.inr rfl, ret_okj hj (by cbv) ?_ ?_⟩) | (refine ⟨.inl rfl, ret_okj hj (by cbv) ?_ ?_⟩) | (with_reducible first | refine ⟨(_, _), by cbv, ?_, ?_⟩ | refine ⟨_, by cbv, ?_, ?_⟩) | (with_reducible apply_assumption -symm -exfalso only [*]))
    all_goals ((try subst y_apM); (try subst y_hasD); (try subst y_getD))
    all_goals (try (repeat' first | with_reducible exact obl0 | (with_reducible refine obl1 ?_ ?_)))
    all_goals (try first | with_reducible exact True.intro | ((first | refine ob_le hj ?_ | refine ob_lei hj ?_ | refine ob_inb hj ?_ | refine ob_pos hj ?_ | refine ob_ne0 hj ?_ | refine ob_eqb hj ?_); (first | rfl | first | omega | (simp only [hj, std]; split <;> omega) | (simp (disch := omega) only [hj, std, cmpI, cmpB, satB, add64, sub64, ite0, pl0, pl2, pl3, sb0, if_true, if_false, eq_self, hk, hl, q2] <;> omega) | (simp (disch := omega) [hj, std, cmpI, cmpB, satB, add64, sub64, ite0, pl0, pl2, pl3, sb0, if_true, if_false, eq_self, hk, hl, q2] <;> omega))) | ((rw [hj]; exact c_Clone _)) | (exact rfl) | ((rw [← hM]; refine upd_le rfl (.cons (.refl _) (.cons (.refl _) (.cons (.nil_own _) .nil))) (upd_none (upd_nil _)))) | ((refine ob_ok hj ?_; (try rw [hj]); first | exact hkk | exact o0 | exact o1 | exact o2 | exact o3)))
   ·generalize y_apM : @apM = x_apM at *
    generalize y_hasD : @hasD = x_hasD at *
    generalize y_getD : @getD = x_getD at *
    (repeat' first | (refine ⟨.inr rfl, ret_oku hj (by cbv) (by cbv) rfl ?_ ?_ (upd_of ?_)⟩) | (refine ⟨.inl rfl, ret_oku hj (by cbv) (by cbv) rfl ?_ ?_ (upd_of ?_)⟩) | ((first | with_reducible refine tr_cut (fun h => ?_) (fun h => ?_) | refine aw_condj (by cbv) (fun h => ?_) (fun h => ?_)) <;> (try simp (disch := omega) only [hj, std, cmpI, cmpB, satB, Bool.not_eq_true, Bool.not_eq_false, decide_eq_true_eq, decide_eq_false_iff_not, beq_iff_eq, bne_iff_ne, bne_eq_false_iff_eq, beq_eq_false_iff_ne, ne_eq, reduceCtorEq, not_true_eq_false, not_false_eq_true, pl0, if_true, cmpS_eq, cmpS_neq, Bool.not_eq_eq_eq_not, Bool.not_true, Bool.not_false, Bool.not_eq_true', add64, sub64] at h) <;> (try (exfalso; omega))) | (with_reducible refine tr_alt (fun h => ?_) ?_ <;> (try (exfalso; omega))) | (with_reducible first | refine tr_ob ?_ ?_ | refine tr_done ?_) | (refine aw_dc1 (id := 5) hj tok hm (bookD1 x_apM x_hasD x_getD) [0, 1, 2] (.alt 3 (.last 4 (.last 5 .done)) (.last 4 (.last 3 (.last 5 .done)))) (by kernel_rfl) (by cbv) ?_) | (refine aw_dc (id := 5) hj tok hm (bookD1 x_apM x_hasD x_getD) [0, 1, 2] (.alt 3 (.last 4 (.last 5 .done)) (.last 4 (.last 3 (.last 5 .done)))) (by kernel_rfl) (by cbv) ?_) | (refine aw_tr hj tok (bookD1 x_apM x_hasD x_getD) (by cbv) ?_) | (refine aw_seq fun K hK => ?_) | (refine aw_tr1 hj tok (bookD1 x_apM x_hasD x_getD) (by cbv) ?_) | (refine aw_skip ?_) | (refine aw_block ?_) | (refine aw_exit ?_) | (refine aw_ret ⟨.inr rfl, ret_okj hj (by cbv) ?_ ?_⟩) | (refine aw_ret ?_) | (with_reducible first | refine th_n ?_ | refine th_r ?_ | refine th_x ?_ | refine blk_n ?_ | refine blk_r ?_ | refine blk_x ?_ | refine blk_y rfl ?_) | (refine ⟨.inr rfl, ret_okj hj (by cbv) ?_ ?_⟩) | (refine ⟨.inl rfl, ret_okj hj (by cbv) ?_ ?_⟩) | (with_reducible first | refine ⟨(_, _), by cbv, ?_, ?_⟩ | refine ⟨_, by cbv, ?_, ?_⟩) | (with_reducible apply_assumption -symm -exfalso only [*]))
    all_goals ((try subst y_apM); (try subst y_hasD); (try subst y_getD))
    all_goals (try (repeat' first | with_reducible exact obl0 | (with_reducible refine obl1 ?_ ?_)))
    all_goals (try first | with_reducible exact True.intro | ((first | refine ob_le hj ?_ | refine ob_lei hj ?_ | refine ob_inb hj ?_ | refine ob_pos hj ?_ | refine ob_ne0 hj ?_ | refine ob_eqb hj ?_); (first | rfl | first | omega | (simp only [hj, std]; split <;> omega) | (simp (disch := omega) only [hj, std, cmpI, cmpB, satB, add64, sub64, ite0, pl0, pl2, pl3, sb0, if_true, if_false, eq_self, hk, hl] <;> omega) | (simp (disch := omega) [hj, std, cmpI, cmpB, satB, add64, sub64, ite0, pl0, pl2, pl3, sb0, if_true, if_false, eq_self, hk, hl] <;> omega))) | ((refine ob_ok hj ?_; (try rw [hj]); first | exact o0 | exact o1 | exact o2 | exact o3)) | ((rw [hj]; exact c_Clone _)) | (exact rfl) | ((rw [← hM]; refine upd_le rfl (.cons (.refl _) (.cons (.refl _) (.cons (.nil_own _) .nil))) (upd_none (upd_nil _)))))
  ·generalize y_apM : @apM = x_apM at *
   generalize y_hasD : @hasD = x_hasD at *
   generalize y_getD : @getD = x_getD at *
   (repeat' first | (refine ⟨.inr rfl, ret_oku hj (by cbv) (by cbv) rfl ?_ ?_ (upd_of ?_)⟩) | (refine ⟨.inl rfl, ret_oku hj (by cbv) (by cbv) rfl ?_ ?_ (upd_of ?_)⟩) | ((first | with_reducible refine tr_cut (fun h => ?_) (fun h => ?_) | refine aw_condj (by cbv) (fun h => ?_) (fun h => ?_)) <;> (try simp (disch := omega) only [hj, std, cmpI, cmpB, satB, Bool.not_eq_true, Bool.not_eq_false, decide_eq_true_eq, decide_eq_false_iff_not, beq_iff_eq, bne_iff_ne, bne_eq_false_iff_eq, beq_eq_false_iff_ne, ne_eq, reduceCtorEq, not_true_eq_false, not_false_eq_true, pl0, if_true, cmpS_eq, cmpS_neq, Bool.not_eq_eq_eq_not, Bool.not_true, Bool.not_false, Bool.not_eq_true', add64, sub64] at h) <;> (try (exfalso; omega))) | (with_reducible refine tr_alt (fun h => ?_) ?_ <;> (try (exfalso; omega))) | (with_reducible first | refine tr_ob ?_ ?_ | refine tr_done ?_) | (refine aw_dc1 (id := 5) hj tok hm (bookD1 x_apM x_hasD x_getD) [0, 1, 2] (.alt 3 (.last 4 (.last 5 .done)) (.last 4 (.last 3 (.last 5 .done)))) (by kernel_rfl) (by cbv) ?_) | (refine aw_dc (id := 5) hj tok hm (bookD1 x_apM x_hasD x_getD) [0, 1, 2] (.alt 3 (.last 4 (.last 5 .done)) (.last 4 (.last 3 (.last 5 .done)))) (by kernel_rfl) (by cbv) ?_) | (refine aw_tr hj tok (bookD1 x_apM x_hasD x_getD) (by cbv) ?_) | (refine aw_seq fun K hK => ?_) | (refine aw_tr1 hj tok (bookD1 x_apM x_hasD x_getD) (by cbv) ?_) | (refine aw_skip ?_) | (refine aw_block ?_) | (refine aw_exit ?_) | (refine aw_ret ⟨.inr rfl, ret_okj hj (by cbv) ?_ ?_⟩) | (refine aw_ret ?_) | (with_reducible first | refine th_n ?_ | refine th_r ?_ | refine th_x ?_ | refine blk_n ?_ | refine blk_r ?_ | refine blk_x ?_ | refine blk_y rfl ?_) | (refine ⟨.inr rfl, ret_okj hj (by cbv) ?_ ?_⟩) | (refine ⟨.inl rfl, ret_okj hj (by cbv) ?_ ?_⟩) | (with_reducible first | refine ⟨(_, _), by cbv, ?_, ?_⟩ | refine ⟨_, by cbv, ?_, ?_⟩) | (with_reducible apply_assumption -symm -exfalso only [*]))
   all_goals ((try subst y_apM); (try subst y_hasD); (try subst y_getD))
   all_goals (try (repeat' first | with_reducible exact obl0 | with_reducible refine obl1 ?_ ?_))
   all_goals (try first | with_reducible exact True.intro | ((first | refine ob_le hj ?_ | refine ob_lei hj ?_ | refine ob_inb hj ?_ | refine ob_pos hj ?_ | refine ob_ne0 hj ?_ | refine ob_eqb hj ?_); (first | rfl | first | omega | (simp only [hj, std]; split <;> omega) | (simp (disch := omega) only [hj, std, cmpI, cmpB, satB, add64, sub64, ite0, pl0, pl2, pl3, sb0, if_true, if_false, eq_self, hk, hl] <;> omega) | (simp (disch := omega) [hj, std, cmpI, cmpB, satB, add64, sub64, ite0, pl0, pl2, pl3, sb0, if_true, if_false, eq_self, hk, hl] <;> omega))) | ((rw [hj]; exact c_Clone _)) | (exact rfl) | ((rw [← hM]; refine upd_le rfl (.cons (.refl _) (.cons (.refl _) (.cons (.nil_own _) .nil))) (upd_none (upd_nil _)))))
end Go.Proofs.Ytnmlcfjljeccnaa.A
/-
 DERIVED: THE SHELF's CONTRACTS AT THIS DUMP, IN PLAIN WORDS (tools/lay-plain.mjs out of 'YtnmlcfjljeccnaaShelfD.lean', which tools/lay-shelf.mjs wrote): THE SAME DECLARATIONS UNDER THE SAME NAMES: 'import', 'namespace', 'open', 'def', 'theorem' AND NOTHING ELSE: no command of the shelf's: FOR A HAND-IN. Each laying: the table of numbers ('.._ren') and one theorem, a field a fact of the dump's own or the kernel's comparison; each contract: ONE APPLICATION.
-/
namespace Go.Proofs
open Go.Shelf
def Ytnmlcfjljeccnaa.sortS_ren : Go.Shelf.Ren := ⟨fun | 6 => 67 | 8 => 81 | 9 => 80 | 19 => 94 | 20 => 95 | 21 => 85 | 22 => 86 | 23 => 87 | 24 => 88 | 25 => 89 | 26 => 90 | 27 => 91 | 28 => 92 | 29 => 93 | 36 => 97 | 31 => 98 | 32 => 99 | 37 => 100 | 38 => 101 | 39 => 102 | 41 => 103 | n => n, fun | 27 => 66 | 29 => 9 | 3 => 3 | 32 => 129 | 26 => 66 | 0 => 0 | 44 => 141 | 46 => 143 | 4 => 4 | 36 => 135 | 35 => 134 | 41 => 68 | 5 => 5 | 9 => 9 | 53 => 144 | 57 => 148 | 63 => 150 | 64 => 151 | n => n, fun | n => n⟩
theorem Ytnmlcfjljeccnaa.sortS : Go.Proofs.SlLaysM.n6 Try.prog Ytnmlcfjljeccnaa.sortS_ren := {
 mixed := by kernel_rfl
 f6 := ⟨Try.f67.name, by decide, Try.func67.trans (congrArg some (by kernel_rfl))⟩
 f8 := Try.func81.trans (congrArg some (by kernel_rfl))
 f9 := ⟨Try.f80.name, by decide, Try.func80.trans (congrArg some (by kernel_rfl))⟩
 f19 := Try.func94.trans (congrArg some (by kernel_rfl))
 f20 := Try.func95.trans (congrArg some (by kernel_rfl))
 f21 := ⟨Try.f85.name, by decide, Try.func85.trans (congrArg some (by kernel_rfl))⟩
 f22 := ⟨Try.f86.name, by decide, Try.func86.trans (congrArg some (by kernel_rfl))⟩
 f23 := ⟨Try.f87.name, by decide, Try.func87.trans (congrArg some (by kernel_rfl))⟩
 f24 := ⟨Try.f88.name, by decide, Try.func88.trans (congrArg some (by kernel_rfl))⟩
 f25 := ⟨Try.f89.name, by decide, Try.func89.trans (congrArg some (by kernel_rfl))⟩
 f26 := ⟨Try.f90.name, by decide, Try.func90.trans (congrArg some (by kernel_rfl))⟩
 f27 := ⟨Try.f91.name, by decide, Try.func91.trans (congrArg some (by kernel_rfl))⟩
 f28 := ⟨Try.f92.name, by decide, Try.func92.trans (congrArg some (by kernel_rfl))⟩
 f29 := ⟨Try.f93.name, by decide, Try.func93.trans (congrArg some (by kernel_rfl))⟩
 f31 := Try.func98.trans (congrArg some (by kernel_rfl))
 f32 := Try.func99.trans (congrArg some (by kernel_rfl))
 f36 := ⟨Try.f97.name, by decide, Try.func97.trans (congrArg some (by kernel_rfl))⟩
 f37 := ⟨Try.f100.name, by decide, Try.func100.trans (congrArg some (by kernel_rfl))⟩
 f38 := ⟨Try.f101.name, by decide, Try.func101.trans (congrArg some (by kernel_rfl))⟩
 f39 := ⟨Try.f102.name, by decide, Try.func102.trans (congrArg some (by kernel_rfl))⟩
 f41 := ⟨Try.f103.name, by decide, Try.func103.trans (congrArg some (by kernel_rfl))⟩
 t0 := Try.underlying0
 a0 := Try.isAgg0
 z0 := Try.sizeOf0
 v0 := Try.zeroValue0
 t3 := Try.underlying3
 a3 := Try.isAgg3
 z3 := Try.sizeOf3
 v3 := Try.zeroValue3
 t4 := Try.underlying4
 a4 := Try.isAgg4
 z4 := Try.sizeOf4
 v4 := Try.zeroValue4
 t5 := Try.underlying5
 a5 := Try.isAgg5
 z5 := Try.sizeOf5
 v5 := Try.zeroValue5
 t9 := Try.underlying9
 a9 := Try.isAgg9
 z9 := Try.sizeOf9
 v9 := Try.zeroValue9
 t26 := Try.underlying66
 a26 := Try.isAgg66
 z26 := Try.sizeOf66
 v26 := Try.zeroValue66
 t27 := Try.underlying66
 a27 := Try.isAgg66
 z27 := Try.sizeOf66
 v27 := Try.zeroValue66
 t29 := Try.underlying9
 a29 := Try.isAgg9
 z29 := Try.sizeOf9
 v29 := Try.zeroValue9
 t32 := Try.underlying129
 a32 := Try.isAgg129
 z32 := Try.sizeOf129
 v32 := Try.zeroValue129
 t35 := Try.underlying134
 a35 := Try.isAgg134
 z35 := Try.sizeOf134
 v35 := Try.zeroValue134
 t36 := Try.underlying135
 a36 := Try.isAgg135
 z36 := Try.sizeOf135
 v36 := Try.zeroValue135
 t41 := Try.underlying68
 a41 := Try.isAgg68
 z41 := Try.sizeOf68
 v41 := Try.zeroValue68
 t44 := Try.underlying141
 a44 := Try.isAgg141
 z44 := Try.sizeOf141
 v44 := Try.zeroValue141
 t46 := Try.underlying143
 a46 := Try.isAgg143
 z46 := Try.sizeOf143
 v46 := Try.zeroValue143
 t53 := Try.underlying144
 a53 := Try.isAgg144
 z53 := Try.sizeOf144
 v53 := Try.zeroValue144
 t57 := Try.underlying148
 a57 := Try.isAgg148
 z57 := Try.sizeOf148
 v57 := Try.zeroValue148
 t63 := Try.underlying150
 a63 := Try.isAgg150
 z63 := Try.sizeOf150
 v63 := Try.zeroValue150
 t64 := Try.underlying151
 a64 := Try.isAgg151
 z64 := Try.sizeOf151
 v64 := Try.zeroValue151 }
end Go.Proofs
/- Sort of strings in place (without Compact): the library's contract as a PCO. Taken over from WsSort. -/
set_option linter.unusedSimpArgs false
set_option linter.unusedVariables false
set_option maxRecDepth 100000
set_option maxHeartbeats 4000000
namespace Go.Proofs.Ytnmlcfjljeccnaa.A
open Go Go.RowKit Go.Sort
def bL (s : ByteArray) : List UInt8 := s.data.toList
def ofL (l : List UInt8) : ByteArray := ⟨l.toArray⟩
theorem ofL_bL (s : ByteArray) : ofL (bL s) = s := rfl
def srtS (l : List ByteArray) : List ByteArray := ((l.map bL).mergeSort fun x y => decide (x ≤ y)).map ofL
variable {w : World} {S : Nat → Prop}
theorem crep_vS {v : Value} {s : ByteArray} (h : CRep w S v (vS s)) : v = .string s := by cases h; rfl
theorem own_strs {v : Value} {n : Nat} {l : List ByteArray} (h : RCRep T w S (.of v) (.own 9 n (sC l))) : w.ownsRow 0 9 1 v n ((l.map bL).map encStr) := by
 obtain ⟨xs, h1, h2, h3⟩ := h
 have hx : xs = (l.map bL).map encStr := by
  rw [show (l.map bL).map encStr = l.map Value.string from Lib.map_encStr l]
  apply List.ext_getElem
  ·rw [h2, sC_len, List.length_map, nS_eq]
  ·intro k hk hk2
   have hk3 : k < (sC l).length := by omega
   have := h3 k hk3 hk
   have e : (sC l)[k] = vS (l[k]'(by simpa using hk2)) := by simp [sC]
   rw [e] at this
   rw [crep_vS this, List.getElem_map]
 rw [← hx]; exact h1
theorem strs_own {v : Value} {n : Nat} {zs : List (List UInt8)} (h : w.ownsRow 0 9 1 v n (zs.map encStr)) : RCRep T w S (.of v) (.own 9 n (sC (zs.map ofL))) := by
 refine ⟨_, h, by simp [sC_len, nS_eq], fun k hk hk2 => ?_⟩
 have e : (sC (zs.map ofL))[k] = vS (ofL (zs[k]'(by simpa using hk2))) := by simp [sC]
 rw [e, List.getElem_map]
 exact .val rfl
theorem pco_sort (l : List ByteArray) (n : Nat) (hl : n < 4611686018427387904) : PCO Try.prog T 67 9 n (sC l) [] false n (sC (srtS l)) := by
 intro w S v hS hv hb
 have h0 := own_strs hv
 have hlen : (l.map bL).length = n := by simpa using h0.1
 by_cases hz : v = .slice none 0 0
 ·subst hz
  have hn : n = 0 := by
   rcases h0.2 with ⟨_, h⟩ | ⟨_, _, _, h, _⟩
   ·exact h
   ·cases h
  subst hn
  have hl0 : l = [] := by simpa using hlen
  subst hl0
  refine (AnyM.slices_Sort_string_none Ytnmlcfjljeccnaa.sortS none 0 w).mono ?_
  rintro e w' ⟨rfl, rfl⟩
  refine ⟨_, rfl, Chg.refl _ _, ?_⟩
  rw [if_neg (by simp)]
  refine ⟨rfl, ?_⟩
  have e : srtS [] = [] := by simp [srtS]
  rw [e]; exact hv
 ·obtain ⟨g, cap, rfl, -, hgl, hnc, hcm, -, hH⟩ := Lib.holds_of_ownsRow h0 hz
  have hs := AnyM.slices_Sort_string Ytnmlcfjljeccnaa.sortS g 0 cap (l.map bL) w hH hgl (by omega)
  rw [hlen] at hs
  refine hs.mono ?_
  rintro e w' ⟨rfl, nn, os, rfl⟩
  refine ⟨_, rfl, (Chg.of_grown (grownBy_sorted _)).mono fun k _ hk => ?_, ?_⟩
  ·exact hk
  ·rw [if_neg (by simp)]
   refine ⟨rfl, ?_⟩
   rcases h0.2 with ⟨h, _⟩ | ⟨g', cap', cur, hv', hbase, hheap, h1, h2, h3, h4⟩
   ·cases h
   cases hv'
   have hs := ownsRow_sorted (n := nn) (os := os) (ss := l.map bL) (ts := (l.map bL).mergeSort fun x y => decide (x ≤ y)) (List.length_mergeSort _) hbase hheap (by omega) h2 h3
   rw [hlen] at hs
   exact strs_own hs
end Go.Proofs.Ytnmlcfjljeccnaa.A
/- Words in order: taken over from Wl1, without what speaks of Compact. -/
set_option linter.unusedSimpArgs false
set_option linter.unusedVariables false
set_option maxRecDepth 100000
set_option maxHeartbeats 4000000
namespace Go.Proofs.Ytnmlcfjljeccnaa.A
open Go
def ltS (a b : ByteArray) : Bool := decide (bL a < bL b)
theorem bL_inj {a b : ByteArray} (h : bL a = bL b) : a = b := by rw [← ofL_bL a, ← ofL_bL b, h]
theorem ltS_iff {a b : ByteArray} : ltS a b = true ↔ bL a < bL b := by unfold ltS; simp
theorem ltS_no {a b : ByteArray} : ltS a b = false ↔ bL b ≤ bL a := by unfold ltS; simp
theorem ltS_trans {a b c : ByteArray} (h : ltS a b = true) (k : ltS b c = true) : ltS a c = true := ltS_iff.2 (List.lt_trans (ltS_iff.1 h) (ltS_iff.1 k))
theorem ltS_irr (a : ByteArray) : ltS a a = false := ltS_no.2 (List.le_refl _)
theorem ltS_tri {a b : ByteArray} (h : ltS a b = false) (hn : a ≠ b) : ltS b a = true := by
 cases h2 : ltS b a with
 | true => rfl
 | false => exact absurd (bL_inj (List.le_antisymm (ltS_no.1 h2) (ltS_no.1 h))) hn
abbrev Set' (l : List ByteArray) : Prop := l.Pairwise fun a b => ltS a b = true
/-! ### the order, byte by byte -/
theorem lt_at : ∀ (x y : List UInt8) (i : Nat), (∀ n, n < i → x.getD n 0 = y.getD n 0) → i ≤ x.length → i ≤ y.length → (decide (x < y) = decide (x.drop i < y.drop i))
 | _, _, 0, _, _, _ => rfl
 | [], y, i + 1, _, h, _ => by simp at h
 | a :: x, [], i + 1, _, _, h => by simp at h
 | a :: x, b :: y, i + 1, h, h1, h2 => by
  have e : a = b := by simpa using h 0 (by omega)
  subst e
  rw [List.drop_succ_cons, List.drop_succ_cons, ← lt_at x y i (fun n hn => by simpa using h (n + 1) (by omega)) (by simpa using h1) (by simpa using h2)]
  simp
theorem lt_head {a b : UInt8} {x y : List UInt8} (h : a ≠ b) : decide (a :: x < b :: y) = decide (a < b) := by
 simp [List.cons_lt_cons_iff, h]
theorem bt_bL (s : ByteArray) (n : Nat) : bt s n = ((bL s).getD n 0).toNat := bt_data s n
theorem size_bL (s : ByteArray) : (bL s).length = s.size := by simp [bL]
theorem ltS_at {a b : ByteArray} {i : Int} (h0 : 0 ≤ i) (h1 : i < a.size) (h2 : i < b.size) (h : ∀ n : Nat, (n : Int) < i → bt a n = bt b n) (hn : ¬ satB a i.toNat = satB b i.toNat) : ltS a b = decide (satB a i.toNat < satB b i.toNat) := by
 unfold ltS satB at *
 have ha := size_bL a; have hb := size_bL b
 rw [lt_at (bL a) (bL b) i.toNat (fun n hn => UInt8.toNat_inj.1 (by rw [← bt_bL, ← bt_bL]; exact h n (by omega))) (by omega) (by omega)]
 rw [bt_bL, bt_bL] at hn ⊢
 rw [List.drop_eq_getElem_cons (show i.toNat < (bL a).length by omega), List.drop_eq_getElem_cons (show i.toNat < (bL b).length by omega)]
 rw [List.getD_eq_getElem?_getD, List.getD_eq_getElem?_getD, List.getElem?_eq_getElem (show i.toNat < (bL a).length by omega), List.getElem?_eq_getElem (show i.toNat < (bL b).length by omega)] at hn ⊢
 simp only [Option.getD_some] at hn ⊢
 rw [lt_head (fun e => hn (by rw [e]))]
 congr 1
 rw [UInt8.lt_iff_toNat_lt]
 exact propext ⟨fun h => by omega, fun h => by omega⟩
theorem ltS_fin {a b : ByteArray} {i : Int} (h0 : 0 ≤ i) (h1 : i ≤ a.size) (h2 : i ≤ b.size) (h3 : ¬ i < a.size ∨ ¬ i < b.size) (h : ∀ n : Nat, (n : Int) < i → bt a n = bt b n) : ltS a b = decide ((a.size : Int) < b.size) := by
 unfold ltS
 have ha := size_bL a; have hb := size_bL b
 rw [lt_at (bL a) (bL b) i.toNat (fun n hn => UInt8.toNat_inj.1 (by rw [← bt_bL, ← bt_bL]; exact h n (by omega))) (by omega) (by omega)]
 by_cases e : (a.size : Int) < b.size
 ·rw [List.drop_eq_nil_of_le (by omega), List.drop_eq_getElem_cons (show i.toNat < (bL b).length by omega)]
  rw [decide_eq_decide]
  exact ⟨fun _ => e, fun _ => List.nil_lt_cons _ _⟩
 ·rw [List.drop_eq_nil_of_le (show (bL b).length ≤ i.toNat by omega)]
  simp [e]
end Go.Proofs.Ytnmlcfjljeccnaa.A
/- The directory of layer 9: its names, by hand. -/
set_option linter.unusedSimpArgs false
set_option linter.unusedVariables false
set_option maxRecDepth 100000
set_option maxHeartbeats 4000000
namespace Go.Proofs.Ytnmlcfjljeccnaa.A
open Go
abbrev sT : TypeId := 9
theorem born_split {e : MapEntry} : ∀ (l : List MapEntry), (l.map (·.born)).Nodup → e ∈ l → l.Perm (e :: l.filter fun x => !(x.born == e.born))
 | x :: l, hn, he => by
  obtain ⟨h1, h2⟩ := List.nodup_cons.1 hn
  rcases List.mem_cons.1 he with rfl | h
  ·have hf : (l.filter fun x => !(x.born == e.born)) = l := List.filter_eq_self.2 fun y hy => by
    have : y.born ≠ e.born := fun hc => h1 (List.mem_map.2 ⟨y, hy, hc⟩)
    simpa using this
   rw [List.filter_cons_of_neg (by simp), hf]
  ·have hx : (x.born == e.born) = false := by
    cases hc : x.born == e.born with
    | false => rfl
    | true => exact absurd (List.mem_map.2 ⟨e, h, (beq_iff_eq.1 hc).symm⟩) h1
   rw [List.filter_cons_of_pos (by rw [hx]; rfl)]
   exact ((born_split l h2 h).cons x).trans (List.Perm.swap _ _ _)
theorem left_step {es : Array MapEntry} {seen : Array Nat} {e : MapEntry} (hn : (es.toList.map (·.born)).Nodup) (he : e ∈ (leftOf es seen).toList) : (leftOf es seen).toList.Perm (e :: (leftOf es (seen.push e.born)).toList) := by
 have h1 : (leftOf es seen).toList = es.toList.filter fun x => !seen.contains x.born := by unfold leftOf; rw [Array.toList_filter]
 have h2 : (leftOf es (seen.push e.born)).toList = (leftOf es seen).toList.filter fun x => !(x.born == e.born) := by
  unfold leftOf
  rw [Array.toList_filter, Array.toList_filter, List.filter_filter]
  refine List.filter_congr fun x _ => ?_
  rw [contains_push]
  cases seen.contains x.born <;> cases (x.born == e.born) <;> rfl
 have h3 : ((leftOf es seen).toList.map (·.born)).Nodup := by
  rw [h1]
  exact (List.filter_sublist.map _).nodup hn
 rw [h2]
 exact born_split _ h3 he
def unS : Value → ByteArray
 | .string s => s
 | _ => ByteArray.empty
theorem setBlock_chg (w : World) (b : Nat) (o : Obj) : Chg (fun k => k = b) w (ChangeMaps.setBlock w b o) := ⟨rfl, rfl, rfl, by simp [ChangeMaps.setBlock], fun k _ hk => by
 show (w.heap.setIfInBounds b o)[k]? = _
 rw [Array.getElem?_setIfInBounds, if_neg (fun e => hk e.symm)]⟩
theorem strs_rc {w : World} {S : Nat → Prop} {v : Value} {l : List ByteArray} (h : w.ownsRow 0 sT 1 v l.length (l.map Value.string)) : RCRep T w S (.of v) (.own sT l.length (sC l)) := by
 have e1 : (l.map bL).map encStr = l.map Value.string := Lib.map_encStr l
 have e2 : (l.map bL).map ofL = l := by rw [List.map_map]; simp [Function.comp_def, ofL_bL]
 rw [← e1] at h
 have := strs_own (S := S) h
 rw [e2] at this
 exact this
theorem srtS_perm {l m : List ByteArray} (h : l.Perm m) : srtS l = srtS m := by
 unfold srtS
 congr 1
 have hp : ((l.map bL).mergeSort fun x y => decide (x ≤ y)).Perm ((m.map bL).mergeSort fun x y => decide (x ≤ y)) := ((List.mergeSort_perm _ _).trans (h.map _)).trans (List.mergeSort_perm _ _).symm
 have hs : ∀ k : List (List UInt8), (k.mergeSort fun x y => decide (x ≤ y)).Pairwise fun x y => x ≤ y := fun k => by
  have := List.pairwise_mergeSort (le := fun x y : List UInt8 => decide (x ≤ y)) (fun a b c => by simpa using fun h1 h2 => List.le_trans h1 h2) (fun a b => by simpa using List.le_total a b) k
  exact this.imp fun h => by simpa using h
 exact hp.eq_of_pairwise (fun a b _ _ h1 h2 => List.le_antisymm h1 h2) (hs _) (hs _)
end Go.Proofs.Ytnmlcfjljeccnaa.A
namespace Go.Proofs.Ytnmlcfjljeccnaa
open Go Go.RowKit Go.Proofs
theorem infoS : (Try.prog.info? 9).map (fun i => (i.zero, i.size, i.bytes)) = some (some (.string ByteArray.empty), 1, 16) := by kernel_rfl
set_option maxHeartbeats 4000000 in
set_option maxRecDepth 100000 in
theorem names_any (F b : Nat) (m : A.GM) (es : Array MapEntry) (w : World) (l : List ByteArray) (hF : w.cell? ⟨F, 0, none⟩ = some (.map (some b))) (lF : F < w.heap.size) (hb : w.heap[b]? = some (.map es m.clock)) (hk : es.toList.map MapEntry.key = l.map Value.string) (hbn : es.toList.map MapEntry.born = m.born) (hl : l.length ≤ 1000) :
  Calls Try.prog 32 #[.pointer (some ⟨F, 0, none⟩)] w fun e w' => ∃ v, e = .returned v ∧ Below w.heap.size w w' ∧ A.RCRep A.T w' (fun _ => False) (.of v) (.own A.sT l.length (A.sC (A.srtS l))) ∧ ∀ g, v.ownBlock = some g → w.heap.size ≤ g ∧ g < w'.heap.size := by
 have lb := lt_of_block hb
 obtain ⟨i0, hi, hz0, hz1, hz2⟩ := info_parts infoS
 have hold : ∀ x ∈ es.toList, x.born < m.clock := fun x hx => m.lt _ (by rw [← hbn]; exact List.mem_map.2 ⟨x, hx, rfl⟩)
 have hnd : (es.toList.map (·.born)).Nodup := by rw [hbn]; exact m.nd
 have hrg := run_range_map (P := Try.prog) w 108 _ _ b es m.clock Try.underlying108 hb
 obtain ⟨r, hr⟩ : ∃ r, r = w.heap.size := ⟨_, rfl⟩
 have HOLD := Lib.hid hold
 have HND := Lib.hid hnd
 have HK := Lib.hid hk
 have HB := Lib.hid hb
 have HL := Lib.hid hl
 have HR := Lib.hid hr
 clear hold hnd hk hl hbn
 obtain ⟨w1, hw1⟩ : ∃ w1, w1 = w.alloc (.mapIter (some b) m.clock #[] m.clock) := ⟨_, rfl⟩
 have k1 : Below w.heap.size w w1 := by rw [hw1]; exact (Below.refl _ w).alloc (Nat.le_refl _) _
 have q1 : w1.heap[r]? = some (.mapIter (some b) m.clock #[] m.clock) := by rw [hw1, hr]; exact heap_alloc_new w _
 have z1 : w1.heap.size = r + 1 := by rw [hw1, hr]; simp
 have K1 := Lib.hid k1
 have Q1 := Lib.hid q1
 have Z1 := Lib.hid z1
 clear k1 q1 z1 hb
 go_enter Try.func32, Try.ntmps32
 go_wp2_with fail
 rw [← hw1, ← hr]
 clear hrg hw1 hr
 go_loopw [3, 4] (fun v _ wr => ∃ (v0 : Value) (l' : List ByteArray) (seen : Array Nat) (c0 : Nat), v0 = v ∧ Below w.heap.size w wr ∧ wr.heap[r]? = some (.mapIter (some b) m.clock seen c0) ∧ m.clock ≤ c0 ∧ wr.ownsRow (r + 1) A.sT 1 v l'.length (l'.map Value.string) ∧ (l'.map Value.string ++ (leftOf es seen).toList.map MapEntry.key).Perm (l.map Value.string)) (fun _ _ wr => wr.rangeLeft b r)
 case atStart =>
  refine ⟨_, [], #[], m.clock, rfl, K1.out, Q1.out, Nat.le_refl _, ⟨rfl, .inl ⟨rfl, rfl⟩⟩, ?_⟩
  rw [← HK.out]
  show (List.map MapEntry.key (leftOf es #[]).toList).Perm _
  have e : (leftOf es #[]).toList = es.toList := by unfold leftOf; rw [Array.toList_filter]; exact List.filter_eq_self.2 fun _ _ => by simp
  rw [e]
 case round =>
  obtain ⟨v, l', seen, c0, rfl, hbw, hit, hc0, hown, hperm⟩ := hrel
  have hwb : wr.heap[b]? = some (.map es m.clock) := (hbw.block b lb).trans HB.out
  have hmz : wr.rangeLeft b r = (leftOf es seen).size := by unfold World.rangeLeft; rw [hwb, hit]
  have HMZ := Lib.hid hmz
  rcases run_next_at (P := Try.prog) wr 0 r b m.clock c0 seen es m.clock hit hwb HOLD.out hc0 with ⟨h0, hrun⟩ | ⟨e, he, w1, hal, hrun⟩
  ·have hnil : (leftOf es seen).toList = [] := by
    apply List.eq_nil_of_length_eq_zero
    rw [Array.length_toList]; exact h0
   have hpl : l'.Perm l := by
    rw [hnil, List.map_nil, List.append_nil] at hperm
    have := hperm.map A.unS
    rw [List.map_map, List.map_map] at this
    simpa [Function.comp_def, A.unS] using this
   have hle : l'.length = l.length := hpl.length_eq
   have hsort : Calls Try.prog 67 #[v] wr _ := A.pco_sort l' l'.length (by have := HL.out; omega) wr (fun _ => False) v (fun _ h => h.elim) (A.strs_rc (owns_mono hown (Nat.zero_le _))) (fun g hg => ⟨fun h => h, (hown.lt g hg).2⟩)
   have HO := Lib.hid hown
   have HP := Lib.hid hpl
   have HE := Lib.hid hle
   have HW := Lib.hid hbw
   clear hown hpl hle hbw hperm hnil h0 hit hwb hmz
   go_wp2_with fail
   refine hsort.mono ?_
   rintro e w2 ⟨z, rfl, hc, hz⟩
   rw [if_neg (by simp)] at hz
   obtain ⟨rfl, hz⟩ := hz
   have HC := Lib.hid hc
   have HZ := Lib.hid hz
   clear hc hz hsort
   go_wp2_with fail
   go_ret
   have hlt := HO.out.lt
   have hr := HR.out
   refine ⟨_, rfl, HW.out.trans (HC.out.below HW.out.size fun k _ hk => by have := (hlt k hk).1; omega), ?_, fun g hg => ⟨by have := (hlt g hg).1; omega, Nat.lt_of_lt_of_le (hlt g hg).2 HC.out.size⟩⟩
   have := HZ.out
   rw [A.srtS_perm HP.out, HE.out] at this
   exact this
  ·have hst := A.left_step HND.out he
   have hem : e ∈ es.toList := by have := he; unfold leftOf at this; rw [Array.toList_filter] at this; exact (List.mem_filter.1 this).1
   obtain ⟨x, hx, hxe⟩ : ∃ x, x ∈ l ∧ Value.string x = e.key := by
    have h1 : e.key ∈ es.toList.map MapEntry.key := List.mem_map.2 ⟨e, hem, rfl⟩
    rw [HK.out] at h1
    exact List.mem_map.1 h1
   obtain ⟨w2, hw2⟩ : ∃ w2, w2 = ChangeMaps.setBlock w1 r (.mapIter (some b) m.clock (seen.push e.born) m.clock) := ⟨_, rfl⟩
   have k0 : Chg (fun k => k = r) wr w2 := by
    rw [hw2]
    rcases hal with rfl | rfl
    ·exact A.setBlock_chg _ r _
    ·exact (Chg.drew _ wr).trans (A.setBlock_chg _ r _)
   have r1 : w1.heap[r]? = some (.mapIter (some b) m.clock seen c0) := by rcases hal with rfl | rfl <;> exact hit
   have g2 : w2.heap[r]? = some (.mapIter (some b) m.clock (seen.push e.born) m.clock) := by rw [hw2]; exact (MapKept.heap_set r1).1
   have lr : r < wr.heap.size := lt_of_block hit
   have hr := HR.out
   have hb2 : Below w.heap.size w w2 := hbw.trans (k0.below hbw.size fun k _ hk => by subst hk; omega)
   have g3 : w2.heap[b]? = some (.map es m.clock) := (hb2.block b lb).trans HB.out
   have o2 : w2.ownsRow (r + 1) A.sT 1 v l'.length (l'.map Value.string) := k0.owns hown fun k hk e => by have := (hown.lt k hk).1; omega
   have hent := run_entry_at (P := Try.prog) w2 r b m.clock seen es m.clock e g2 g3 hem HND.out
   have hlen : l'.length < l.length := by
    have h1 := hperm.length_eq
    rw [List.length_append, List.length_map, List.length_map, List.length_map, hst.length_eq, List.length_cons] at h1
    omega
   have hnp : ((l' ++ [x]).map Value.string ++ (leftOf es (seen.push e.born)).toList.map MapEntry.key).Perm (l.map Value.string) := by
    refine List.Perm.trans ?_ hperm
    rw [List.map_append, List.append_assoc]
    refine List.Perm.append_left _ ?_
    have := hst.symm.map MapEntry.key
    rw [List.map_cons, ← hxe] at this
    exact this
   have hms : (leftOf es (seen.push e.born)).size < (leftOf es seen).size := by
    have := hst.length_eq
    rw [List.length_cons, Array.length_toList, Array.length_toList] at this
    omega
   rw [← hw2] at hrun
   rw [← hxe] at hrun hent
   have HNP := Lib.hid hnp
   have HB2 := Lib.hid hb2
   have HG2 := Lib.hid g2
   have HO := Lib.hid o2
   have HLE := Lib.hid hlen
   have HMS := Lib.hid hms
   have hsz2 : w.heap.size < w2.heap.size := by have := k0.size; omega
   generalize e.val = ev at hrun hent
   generalize seen.push e.born = seen2 at HNP HG2 HMS g2
   clear hnp hb2 g2 g3 hlen hms hst hem hx hxe hw2 k0 r1 hit hal hown hperm hbw hwb hmz he lr hr
   go_wp2_with (at_builtin; refine wpList_append_own _ rfl (.tmp 16) (.tmp 18) 66 rfl (r + 1) 9 i0 (.string ByteArray.empty) 1 16 Try.underlying66 hi hz0 hz1 hz2 rfl (by decide) _ _ _ rfl (HO.out.alloc _) ⟨w2.heap.size, 0, none⟩ 1 1 [.string x] rfl rfl ?c1 ?c2 ?c3 ?c4 ?c5 ?_)
   case c1 => exact cell_new1 _ _ _ _ (by simp)
   case c2 => exact one_cell1 rfl
   case c3 => have := HLE.out; have := HL.out; unfold maxLen; omega
   case c4 => have := HLE.out; have := HL.out; omega
   case c5 => have := HR.out; simp; omega
   intro v' w3 hown' hgrow _
   have k3 : Chg (fun k => v.ownBlock = some k) w2 w3 := ((Chg.alloc _ w2 _).trans (Chg.of_grown hgrow))
   have h3 : v.ownBlock ≠ some r := fun h => by have := (o2.lt r h).1; omega
   have hb3 : Below w.heap.size w w3 := HB2.out.trans (k3.below HB2.out.size fun k _ hk => by have := (o2.lt k hk).1; have := HR.out; omega)
   have g4 : w3.heap[r]? = some (.mapIter (some b) m.clock seen2 m.clock) := (k3.block r (by have := HR.out; omega) h3).trans HG2.out
   have g5 : w3.heap[b]? = some (.map es m.clock) := (hb3.block b lb).trans HB.out
   have HB3 := Lib.hid hb3
   have HG4 := Lib.hid g4
   have HG5 := Lib.hid g5
   have HO3 := Lib.hid hown'
   clear hb3 g4 g5 hown' hgrow k3
   go_wp2_with fail
   go_roundw
   case rel => exact ⟨v', l' ++ [x], seen2, m.clock, rfl, HB3.out, HG4.out, Nat.le_refl _, by rw [List.length_append, List.map_append]; exact HO3.out, HNP.out⟩
   case measure =>
    rw [HMZ.out]
    unfold World.rangeLeft
    rw [HG5.out, HG4.out]
    exact HMS.out
end Go.Proofs.Ytnmlcfjljeccnaa
/- The directory of layer 9: the contract of its names. -/
set_option linter.unusedSimpArgs false
set_option linter.unusedVariables false
set_option maxRecDepth 100000
set_option maxHeartbeats 4000000
namespace Go.Proofs.Ytnmlcfjljeccnaa.A
open Go Go.RowKit
theorem pc_fresh {P : Program} {T : TT} {f : FuncId} {args : List Arg} {e : TypeId} {n : Nat} {cells : List C}
    (h : ∀ (w : World) (S : Nat → Prop) (bx : Nat → Nat) (ph : Nat → Nat → Pv) (vs : List Value), Heap T w S (args.map Arg.asRoot) bx ph → vs.length = reals args → (∀ i (h : i < args.length) (h2 : i < vs.length), ArgRep w S bx (bx i) vs[i] args[i]) →
      Calls P f vs.toArray w fun en w' => ∃ v, en = .returned v ∧ Below w.heap.size w w' ∧ RCRep T w' S (.of v) (.own e n cells) ∧ ∀ g, v.ownBlock = some g → w.heap.size ≤ g ∧ g < w'.heap.size) :
    PC P T f args (ret1 (.own e n cells)) (args.map Arg.asRoot) := by
  intro w S bx ph vs hh hl ha
  refine (h w S bx ph vs hh hl ha).mono ?_
  rintro en w' ⟨v, rfl, hb, hr, hg⟩
  have hc : Chg (fun _ => False) w w' := Chg.of_below hb _
  have hSb : ∀ b, S b → w'.heap[b]? = w.heap[b]? := fun b hb => hc.block b (hh.low.1 b hb) id
  have hob : ∀ t κ b, owns (args.map Arg.asRoot) bx ph t κ b → w'.heap[b]? = w.heap[b]? := fun t κ b h => hc.block b (hh.free t κ b h).2 id
  let bx2 : Nat → Nat := fun n => match n with | 0 => 0 | i + 1 => bx i
  let ph2 : Nat → Nat → Pv := fun n => match n with | 0 => fun _ => Pv.of v | i + 1 => ph i
  have hno : ∀ t κ b, owns (.loose [.own e n cells] :: args.map Arg.asRoot) bx2 ph2 t κ b → (t = 0 ∧ κ = some 0 ∧ v.ownBlock = some b) ∨ ∃ i, t = i + 1 ∧ owns (args.map Arg.asRoot) bx ph i κ b := by
    intro t κ b ho
    match t with
    | 0 =>
      cases κ with
      | none => exact ho.elim
      | some o =>
        cases o with
        | zero => exact .inl ⟨rfl, rfl, ho⟩
        | succ o => exact ho.elim
    | i + 1 =>
      refine .inr ⟨i, rfl, ?_⟩
      cases κ with
      | none => exact ho
      | some o => exact ho
  refine ⟨v, S, bx2, ph2, rfl, ?_⟩
  constructor
  · refine ⟨fun t => ?_, fun t κ t' κ' b b1 b2 => ?_, fun t κ b b1 => ?_, ⟨fun b hb2 => Nat.lt_of_lt_of_le (hh.low.1 b hb2) hc.size, hh.low.2.frame hSb fun _ h => h⟩⟩
    · match t with
      | 0 =>
        intro o ho
        obtain rfl : o = 0 := by have : o < 1 := ho; omega
        exact hr
      | i + 1 =>
        refine (hh.root i).frame2 hSb (fun _ h => h) (fun row hrow => ?_) fun o rc b hrc hbl => hob i (some o) b (own_blk hrc hbl)
        refine hob i none _ ?_
        show (match (args.map Arg.asRoot).getD i .none with | .box _ => bx i = bx i | _ => False)
        have : (args.map Arg.asRoot).getD i .none = .box row := hrow
        rw [this]
    · rcases hno _ _ _ b1 with ⟨e1, e2, e3⟩ | ⟨i, e1, e2⟩
      · rcases hno _ _ _ b2 with ⟨g1, g2, g3⟩ | ⟨i', g1, g2⟩
        · exact ⟨e1.trans g1.symm, e2.trans g2.symm⟩
        · have := (hg b e3).1; have := (hh.free _ _ _ g2).2; omega
      · rcases hno _ _ _ b2 with ⟨g1, g2, g3⟩ | ⟨i', g1, g2⟩
        · have := (hg b g3).1; have := (hh.free _ _ _ e2).2; omega
        · obtain ⟨q1, q2⟩ := hh.inj _ _ _ _ _ e2 g2
          exact ⟨by rw [e1, g1, q1], q2⟩
    · rcases hno _ _ _ b1 with ⟨e1, e2, e3⟩ | ⟨i, e1, e2⟩
      · obtain ⟨q1, q2⟩ := hg b e3
        exact ⟨fun hS => by have := hh.low.1 b hS; omega, q2⟩
      · obtain ⟨q1, q2⟩ := hh.free _ _ _ e2
        exact ⟨q1, Nat.lt_of_lt_of_le q2 hc.size⟩
  · exact ⟨⟨rfl, rfl⟩, trivial⟩
  · exact fun _ => rfl
  · exact fun _ h => h
  · exact fun b h => .inl h
  · intro t κ b h
    rcases hno _ _ _ h with ⟨_, _, e3⟩ | ⟨i, _, e2⟩
    · exact .inl (hg b e3).1
    · exact .inr ⟨i, κ, e2⟩
  · exact hc.mono fun _ _ h => h.elim
def kS (m : GM) : List ByteArray := m.ks.map unS
def nsN (m : GM) : Nat := (kS m).length
def nsC (m : GM) : List C := sC (srtS (kS m))
theorem pc_NamesD (m1 m2 : GM) (n : Nat) (os : List C) (hl : m1.ks.length ≤ 1000) : PC Try.prog T 32 [.root (dBox m1 m2 n os)] (ret1 (.own sT (nsN m1) (nsC m1))) [dBox m1 m2 n os] := by
 refine pc_fresh ?_
 intro w S bx ph vs hh hl1 ha
 have hl2 : vs.length = 1 := hl1
 match vs, hl2 with
 | [v], _ =>
  obtain ⟨_, hv⟩ : (∃ r, dBox m1 m2 n os = .box r ∧ 0 < r.length) ∧ v = .pointer (some ⟨bx 0, 0, none⟩) := ha 0 (by simp) (by simp)
  subst hv
  obtain ⟨⟨arr, e0, h1, h2, h3⟩, h4, _⟩ : RootRep T w S (bx 0) (ph 0) (dBox m1 m2 n os) := hh.root 0
  have a0 := h3 0 (by simp)
  obtain ⟨b, hb, es, g1, g2, g3, g4, g5⟩ : ∃ b, (ph 0 0).v = .map (some b) ∧ MRep w S b .str m1 := h4 0 (by simp)
  rw [hb] at a0
  have hk : es.toList.map MapEntry.key = (kS m1).map Value.string := by
   rw [g2]
   unfold kS
   rw [List.map_map]
   refine (List.map_id' _).symm.trans (List.map_congr_left fun k hk => ?_)
   have := g5 k hk
   cases k <;> first | rfl | cases this
  have hF : w.cell? ⟨bx 0, 0, none⟩ = some (.map (some b)) := by rw [cell_of_row w (bx 0) 0 _ _ _ h1]; exact a0
  refine (names_any (bx 0) b m1 es w (kS m1) hF (lt_of_block h1) g1 hk g3 (by unfold kS; rw [List.length_map]; exact hl)).mono ?_
  rintro en w' ⟨v, rfl, q1, q2, q3⟩
  refine ⟨v, rfl, q1, ?_, q3⟩
  unfold nsN nsC
  obtain ⟨xs, r1, r2, r3⟩ := q2
  exact ⟨xs, r1, r2, fun j h h2 => (r3 j h h2).frame (fun _ h => h.elim) (fun _ h => h.elim)⟩
theorem c_NamesD (m1 m2 : GM) (n : Nat) (os : List C) (hl : m1.ks.length ≤ 1000) : (std Try.prog T).pc 32 [.root (dBox m1 m2 n os)] (ret1 (.own sT (nsN m1) (nsC m1))) [dBox m1 m2 n os] := ⟨enters Try.func32 (by kernel_rfl) (by kernel_rfl), pc_NamesD m1 m2 n os hl⟩
end Go.Proofs.Ytnmlcfjljeccnaa.A
/- The reference of layer 9: lists of names. -/
set_option linter.unusedSimpArgs false
set_option linter.unusedVariables false
set_option maxRecDepth 100000
set_option maxHeartbeats 4000000
namespace Go.Proofs.Ytnmlcfjljeccnaa.A
open Go
abbrev Nm := ByteArray × Int
abbrev nT : TypeId := 71
def nC (l : List Nm) : List C := l.flatMap fun f => [vS f.1, vI f.2]
def nN (l : List Nm) : Nat := l.foldr (fun _ n => n + 1) 0
theorem nN_eq (l : List Nm) : nN l = l.length := by unfold nN; induction l with | nil => rfl | cons x l ih => rw [List.foldr_cons, ih]; rfl
abbrev nAt (l : List Nm) (k : Nat) : Nm := l.getD k (ByteArray.empty, 0)
theorem nC_cons (f : Nm) (l : List Nm) : nC (f :: l) = vS f.1 :: vI f.2 :: nC l := rfl
theorem nC_len (l : List Nm) : (nC l).length = nN l * 2 := by
 rw [nN_eq]
 induction l with
 | nil => rfl
 | cons r l ih => rw [nC_cons, List.length_cons, List.length_cons, ih, List.length_cons]; omega
theorem nC_at : ∀ (l : List Nm) (k : Nat), k < l.length → cellAt (nC l) (k * 2) = vS (nAt l k).1 ∧ cellAt (nC l) (k * 2 + 1) = vI (nAt l k).2 := by
 intro l
 induction l with
 | nil => intro k h; exact absurd h (by simp)
 | cons r l ih =>
  intro k h
  cases k with
  | zero => exact ⟨rfl, rfl⟩
  | succ k =>
   have := ih k (by simpa using h)
   rw [show (k + 1) * 2 = k * 2 + 1 + 1 by omega, nC_cons]
   exact this
theorem nC_snoc (l : List Nm) (a : ByteArray) (b : Int) : nC l ++ [vS a, vI b] = nC (l ++ [(a, b)]) := by simp [nC]
def nmsGo : List C → List Nm
 | a :: b :: r => (gs a, gi b) :: nmsGo r
 | _ => []
def nmsOf (cs : List C) : List Nm := nmsGo cs
theorem nmsOf_nC (l : List Nm) : nmsOf (nC l) = l := by
 unfold nmsOf
 induction l with
 | nil => rfl
 | cons r l ih => rw [nC_cons, nmsGo, ih]; rfl
theorem nAt_get {l : List Nm} {k : Nat} (h : k < l.length) : nAt l k = l[k] := by
 show l.getD k _ = _
 rw [List.getD_eq_getElem?_getD, List.getElem?_eq_getElem h]; rfl
/-! ### what the reference does with lists of names -/
def findL (l : List Nm) (x : ByteArray) : Int := match l.findIdx? fun p => decide (p.1 = x) with | some i => (i : Nat) | none => -1
def wonL (l : List Nm) (x : ByteArray) : List Nm := l.filter fun p => decide (p.1 ≠ x)
def putSt (x : ByteArray) (n : Int) (s : List Nm × Bool) (p : Nm) : List Nm × Bool := if s.2 = false ∧ ltS x p.1 = true then (s.1 ++ [(x, n), p], true) else (s.1 ++ [p], s.2)
def putL (l : List Nm) (x : ByteArray) (n : Int) : List Nm × Bool := l.foldl (putSt x n) ([], false)
def wiL (l : List Nm) (x : ByteArray) (n : Int) : List Nm := if (putL (wonL l x) x n).2 = true then (putL (wonL l x) x n).1 else (putL (wonL l x) x n).1 ++ [(x, n)]
theorem findL_yes {l : List Nm} {x : ByteArray} {k : Nat} (hk : k < l.length) (h : (nAt l k).1 = x) (hb : ∀ q, q < k → (nAt l q).1 ≠ x) : findL l x = k := by
 have e : (l.findIdx? fun p => decide (p.1 = x)) = some k := by
  rw [List.findIdx?_eq_some_iff_getElem]
  refine ⟨hk, ?_, fun q hq => ?_⟩
  ·rw [nAt_get hk] at h; simpa using h
  ·have := hb q hq
   rw [nAt_get (by omega)] at this; simpa using this
 unfold findL; rw [e]
theorem findL_no {l : List Nm} {x : ByteArray} (hb : ∀ q, q < l.length → (nAt l q).1 ≠ x) : findL l x = -1 := by
 have e : (l.findIdx? fun p => decide (p.1 = x)) = none := by
  rw [List.findIdx?_eq_none_iff]
  intro p hp
  obtain ⟨q, hq, rfl⟩ := List.mem_iff_getElem.1 hp
  have := hb q hq
  rw [nAt_get hq] at this; simpa using this
 unfold findL; rw [e]
theorem take_nm {l : List Nm} {k : Nat} (h : k < l.length) : l.take (k + 1) = l.take k ++ [nAt l k] := by
 rw [List.take_add_one, List.getElem?_eq_getElem h, nAt_get h]; rfl
theorem pc_Find9 (l : List Nm) (x : ByteArray) (h : l.length ≤ 1000) : PC Try.prog T 35 [.v false [.sl (nN l) (nC l)], .v false [vS x]] (ret1 (.st (vI (findL l x)))) [] := by
 have hl := nC_len l
 have hn := nN_eq l
 have ha := nC_at l
 have hy := fun k h1 h2 h3 => findL_yes (l := l) (x := x) (k := k) h1 h2 h3
 have hno := fun h => findL_no (l := l) (x := x) h
 generalize nN l = m at *
 generalize nC l = es at *
 generalize findL l x = r at *
 refine pc_of tok Try.func35 rfl (by rfl) ?_
 obtain ⟨j, hj⟩ : ∃ j : J, j = std Try.prog T := ⟨_, rfl⟩
 have hm : Try.prog.follows .mixedOrders = true := by kernel_rfl
 generalize y_nC : @nC = x_nC at *
 generalize y_nN : @nN = x_nN at *
 (repeat' first | ((first | with_reducible refine tr_cut (fun h => ?_) (fun h => ?_) | refine aw_condj (by cbv) (fun h => ?_) (fun h => ?_)) <;> (try simp (disch := omega) only [hj, std, cmpI, cmpB, satB, Bool.not_eq_true, Bool.not_eq_false, decide_eq_true_eq, decide_eq_false_iff_not, beq_iff_eq, bne_iff_ne, bne_eq_false_iff_eq, beq_eq_false_iff_ne, ne_eq, reduceCtorEq, not_true_eq_false, not_false_eq_true, pl0, if_true, cmpS_eq, cmpS_neq, Bool.not_eq_eq_eq_not, Bool.not_true, Bool.not_false, Bool.not_eq_true', add64, sub64] at h) <;> (try (exfalso; omega))) | (with_reducible refine tr_alt (fun h => ?_) ?_ <;> (try (exfalso; omega))) | (with_reducible first | refine tr_ob ?_ ?_ | refine tr_done ?_) | (refine aw_tr hj tok book0 (by cbv) ?_) | (refine aw_seq fun K hK => ?_) | (refine aw_tr1 hj tok book0 (by cbv) ?_) | (refine aw_skip ?_) | (refine aw_block ?_) | (refine aw_exit ?_) | (refine aw_ret ⟨.inr rfl, ret_okj hj (by cbv) ?_ ?_⟩) | (refine aw_ret ?_) | (with_reducible first | refine th_n ?_ | refine th_r ?_ | refine th_x ?_ | refine blk_n ?_ | refine blk_r ?_ | refine blk_x ?_ | refine blk_y rfl ?_) | (refine ⟨.inr rfl, ret_okj hj (by cbv) ?_ ?_⟩) | (refine ⟨.inl rfl, ret_okj hj (by cbv) ?_ ?_⟩) | (with_reducible refine ⟨_, by cbv, ?_, ?_⟩) | (with_reducible apply_assumption -symm -exfalso only [*]))
 all_goals ((try subst y_nC); (try subst y_nN))
 all_goals (try (repeat' first | with_reducible exact obl0 | (with_reducible refine obl1 ?_ ?_)))
 all_goals (try first | with_reducible exact True.intro | ((first | refine ob_le hj ?_ | refine ob_lei hj ?_ | refine ob_inb hj ?_ | refine ob_pos hj ?_ | refine ob_ne0 hj ?_ | refine ob_eqb hj ?_); (first | rfl | first | omega | (simp only [hj, std]; split <;> omega) | (simp (disch := omega) only [hj, std, cmpI, cmpB, satB, add64, sub64, ite0, pl0, pl2, pl3, sb0, if_true, if_false, eq_self] <;> omega) | (simp (disch := omega) [hj, std, cmpI, cmpB, satB, add64, sub64, ite0, pl0, pl2, pl3, sb0, if_true, if_false, eq_self] <;> omega))))
 refine aw_lpj hj [(0, .keep), (1, .keep), (5, .keep)] [] (fun (i : Int) => stOf 20 [(0, .one (.c (.sl m es))), (1, .one (.c (vS x))), (5, .one (.c (vI i)))] []) (fun (i : Int) => m - i.toNat) (fun (i : Int) => 0 ≤ i ∧ i ≤ m ∧ ∀ q : Nat, q < i.toNat → (nAt l q).1 ≠ x) (_) (by generalize @nC = x_nC; generalize @nN = x_nN; cbv) ?_ (fun i hI => ?_)
 ·exact ⟨by omega, by omega, fun q hq => by omega⟩
 obtain ⟨i1, i2, i3⟩ := hI
 rcases Decidable.em (i < (m : Int)) with hi | hi
 ·obtain ⟨a0, a1⟩ := ha i.toNat (by omega)
  have hy := hy i.toNat (by omega)
  have f1 : (i + 1).toNat = i.toNat + 1 := by omega
  rcases Decidable.em ((nAt l i.toNat).1 = x) with hx | hx
  ·have hr := hy hx i3
   have g0 : gs (cellAt es (i.toNat * 2)) = x := by rw [a0]; exact hx
   clear hy hno ha i3
   generalize y_nC : @nC = x_nC at *
   generalize y_nN : @nN = x_nN at *
   (repeat' first | ((first | with_reducible refine tr_cut (fun h => ?_) (fun h => ?_) | refine aw_condj (by cbv) (fun h => ?_) (fun h => ?_)) <;> (try simp (disch := omega) only [hj, std, cmpI, cmpB, satB, Bool.not_eq_true, Bool.not_eq_false, decide_eq_true_eq, decide_eq_false_iff_not, beq_iff_eq, bne_iff_ne, bne_eq_false_iff_eq, beq_eq_false_iff_ne, ne_eq, reduceCtorEq, not_true_eq_false, not_false_eq_true, pl0, if_true, cmpS_eq, cmpS_neq, Bool.not_eq_eq_eq_not, Bool.not_true, Bool.not_false, Bool.not_eq_true', g0, add64, sub64] at h) <;> (try (exfalso; omega))) | (with_reducible refine tr_alt (fun h => ?_) ?_ <;> (try (exfalso; omega))) | (with_reducible first | refine tr_ob ?_ ?_ | refine tr_done ?_) | (refine aw_tr hj tok book0 (by cbv) ?_) | (refine aw_seq fun K hK => ?_) | (refine aw_tr1 hj tok book0 (by cbv) ?_) | (refine aw_skip ?_) | (refine aw_block ?_) | (refine aw_exit ?_) | (refine aw_ret ⟨.inr rfl, ret_okj hj (by cbv) ?_ ?_⟩) | (refine aw_ret ?_) | (with_reducible first | refine th_n ?_ | refine th_r ?_ | refine th_x ?_ | refine blk_n ?_ | refine blk_r ?_ | refine blk_x ?_ | refine blk_y rfl ?_) | (refine ⟨.inr rfl, ret_okj hj (by cbv) ?_ ?_⟩) | (refine ⟨.inl rfl, ret_okj hj (by cbv) ?_ ?_⟩) | (with_reducible refine ⟨_, by cbv, ?_, ?_⟩) | (with_reducible apply_assumption -symm -exfalso only [*]))
   all_goals ((try subst y_nC); (try subst y_nN))
   all_goals (try (repeat' first | with_reducible exact obl0 | (with_reducible refine obl1 ?_ ?_)))
   all_goals (try first | with_reducible exact True.intro | ((first | refine ob_le hj ?_ | refine ob_lei hj ?_ | refine ob_inb hj ?_ | refine ob_pos hj ?_ | refine ob_ne0 hj ?_ | refine ob_eqb hj ?_); (first | rfl | first | omega | (simp only [hj, std]; split <;> omega) | (simp (disch := omega) only [hj, std, cmpI, cmpB, satB, add64, sub64, ite0, pl0, pl2, pl3, sb0, if_true, if_false, eq_self, hl, g0] <;> omega) | (simp (disch := omega) [hj, std, cmpI, cmpB, satB, add64, sub64, ite0, pl0, pl2, pl3, sb0, if_true, if_false, eq_self, hl, g0] <;> omega))) | ((refine ob_ok hj ?_; (try rw [hj]); simp only [std]; exact ⟨_, a0⟩)) | ((rw [hr, show ((i.toNat : Nat) : Int) = i by omega]; exact rfl)))
  ·have g0 : gs (cellAt es (i.toNat * 2)) = (nAt l i.toNat).1 := by rw [a0]; rfl
   have i4 : ∀ q : Nat, q < (i + 1).toNat → (nAt l q).1 ≠ x := fun q hq => by
    rcases Decidable.em (q < i.toNat) with h | h
    ·exact i3 q h
    ·rw [show q = i.toNat by omega]; exact hx
   rw [← g0] at hx
   clear hy hno ha i3
   generalize y_nC : @nC = x_nC at *
   generalize y_nN : @nN = x_nN at *
   (repeat' first | ((first | with_reducible refine tr_cut (fun h => ?_) (fun h => ?_) | refine aw_condj (by cbv) (fun h => ?_) (fun h => ?_)) <;> (try simp (disch := omega) only [hj, std, cmpI, cmpB, satB, Bool.not_eq_true, Bool.not_eq_false, decide_eq_true_eq, decide_eq_false_iff_not, beq_iff_eq, bne_iff_ne, bne_eq_false_iff_eq, beq_eq_false_iff_ne, ne_eq, reduceCtorEq, not_true_eq_false, not_false_eq_true, pl0, if_true, cmpS_eq, cmpS_neq, Bool.not_eq_eq_eq_not, Bool.not_true, Bool.not_false, Bool.not_eq_true', add64, sub64] at h) <;> (try (exfalso; omega))) | (with_reducible refine tr_alt (fun h => ?_) ?_ <;> (try (exfalso; omega))) | (with_reducible first | refine tr_ob ?_ ?_ | refine tr_done ?_) | (refine aw_tr hj tok book0 (by cbv) ?_) | (refine aw_seq fun K hK => ?_) | (refine aw_tr1 hj tok book0 (by cbv) ?_) | (refine aw_skip ?_) | (refine aw_block ?_) | (refine aw_exit ?_) | (refine aw_ret ⟨.inr rfl, ret_okj hj (by cbv) ?_ ?_⟩) | (refine aw_ret ?_) | (with_reducible first | refine th_n ?_ | refine th_r ?_ | refine th_x ?_ | refine blk_n ?_ | refine blk_r ?_ | refine blk_x ?_ | refine blk_y rfl ?_) | (refine ⟨.inr rfl, ret_okj hj (by cbv) ?_ ?_⟩) | (refine ⟨.inl rfl, ret_okj hj (by cbv) ?_ ?_⟩) | (with_reducible refine ⟨_, by cbv, ?_, ?_⟩) | (with_reducible apply_assumption -symm -exfalso only [*]))
   all_goals ((try subst y_nC); (try subst y_nN))
   all_goals (try (repeat' first | with_reducible exact obl0 | (with_reducible refine obl1 ?_ ?_)))
   all_goals (try first | with_reducible exact True.intro | ((first | refine ob_le hj ?_ | refine ob_lei hj ?_ | refine ob_inb hj ?_ | refine ob_pos hj ?_ | refine ob_ne0 hj ?_ | refine ob_eqb hj ?_); (first | rfl | first | omega | (simp only [hj, std]; split <;> omega) | (simp (disch := omega) only [hj, std, cmpI, cmpB, satB, add64, sub64, ite0, pl0, pl2, pl3, sb0, if_true, if_false, eq_self, hl] <;> omega) | (simp (disch := omega) [hj, std, cmpI, cmpB, satB, add64, sub64, ite0, pl0, pl2, pl3, sb0, if_true, if_false, eq_self, hl] <;> omega))) | ((exact absurd (by assumption) hx)) | ((refine ob_ok hj ?_; (try rw [hj]); simp only [std]; exact ⟨_, a0⟩)) | ((simp (disch := omega) only [hj, std, add64]; first | omega | exact ⟨by omega, by omega, i4⟩)))
 ·have hr := hno fun q hq => i3 q (by omega)
  clear hy hno ha i3
  generalize y_nC : @nC = x_nC at *
  generalize y_nN : @nN = x_nN at *
  (repeat' first | ((first | with_reducible refine tr_cut (fun h => ?_) (fun h => ?_) | refine aw_condj (by cbv) (fun h => ?_) (fun h => ?_)) <;> (try simp (disch := omega) only [hj, std, cmpI, cmpB, satB, Bool.not_eq_true, Bool.not_eq_false, decide_eq_true_eq, decide_eq_false_iff_not, beq_iff_eq, bne_iff_ne, bne_eq_false_iff_eq, beq_eq_false_iff_ne, ne_eq, reduceCtorEq, not_true_eq_false, not_false_eq_true, pl0, if_true, cmpS_eq, cmpS_neq, Bool.not_eq_eq_eq_not, Bool.not_true, Bool.not_false, Bool.not_eq_true', add64, sub64] at h) <;> (try (exfalso; omega))) | (with_reducible refine tr_alt (fun h => ?_) ?_ <;> (try (exfalso; omega))) | (with_reducible first | refine tr_ob ?_ ?_ | refine tr_done ?_) | (refine aw_tr hj tok book0 (by cbv) ?_) | (refine aw_seq fun K hK => ?_) | (refine aw_tr1 hj tok book0 (by cbv) ?_) | (refine aw_skip ?_) | (refine aw_block ?_) | (refine aw_exit ?_) | (refine aw_ret ⟨.inr rfl, ret_okj hj (by cbv) ?_ ?_⟩) | (refine aw_ret ?_) | (with_reducible first | refine th_n ?_ | refine th_r ?_ | refine th_x ?_ | refine blk_n ?_ | refine blk_r ?_ | refine blk_x ?_ | refine blk_y rfl ?_) | (refine ⟨.inr rfl, ret_okj hj (by cbv) ?_ ?_⟩) | (refine ⟨.inl rfl, ret_okj hj (by cbv) ?_ ?_⟩) | (with_reducible refine ⟨_, by cbv, ?_, ?_⟩) | (with_reducible apply_assumption -symm -exfalso only [*]))
  all_goals ((try subst y_nC); (try subst y_nN))
  all_goals (try (repeat' first | with_reducible exact obl0 | with_reducible refine obl1 ?_ ?_))
  all_goals (try first | with_reducible exact True.intro | ((first | refine ob_le hj ?_ | refine ob_lei hj ?_ | refine ob_inb hj ?_ | refine ob_pos hj ?_ | refine ob_ne0 hj ?_ | refine ob_eqb hj ?_); (first | rfl | first | omega | (simp only [hj, std]; split <;> omega) | (simp (disch := omega) only [hj, std, cmpI, cmpB, satB, add64, sub64, ite0, pl0, pl2, pl3, sb0, if_true, if_false, eq_self] <;> omega) | (simp (disch := omega) [hj, std, cmpI, cmpB, satB, add64, sub64, ite0, pl0, pl2, pl3, sb0, if_true, if_false, eq_self] <;> omega))) | ((rw [hr]; exact rfl)))
theorem won_step {l : List Nm} {x : ByteArray} {k : Nat} (h : k < l.length) : wonL (l.take (k + 1)) x = if (nAt l k).1 = x then wonL (l.take k) x else wonL (l.take k) x ++ [nAt l k] := by
 unfold wonL
 rw [take_nm h, List.filter_append]
 by_cases hx : (nAt l k).1 = x
 ·rw [if_pos hx, List.filter_cons_of_neg (by simpa using hx)]; simp
 ·rw [if_neg hx, List.filter_cons_of_pos (by simpa using hx)]; simp
theorem won_le (l : List Nm) (x : ByteArray) : (wonL l x).length ≤ l.length := List.length_filter_le ..
theorem pc_won9 (l : List Nm) (x : ByteArray) (h : l.length ≤ 1000) : PC Try.prog T 84 [.v false [.sl (nN l) (nC l)], .v false [vS x]] (ret1 (.own nT (nN (wonL l x)) (nC (wonL l x)))) [] := by
 have hl := nC_len l
 have hn := nN_eq l
 have ha := nC_at l
 have hend : wonL (l.take (nN l)) x = wonL l x := by rw [List.take_of_length_le (by omega)]
 generalize nN l = m at *
 generalize nC l = es at *
 refine pc_of tok Try.func84 rfl (by rfl) ?_
 obtain ⟨j, hj⟩ : ∃ j : J, j = std Try.prog T := ⟨_, rfl⟩
 have hm : Try.prog.follows .mixedOrders = true := by kernel_rfl
 generalize y_nC : @nC = x_nC at *
 generalize y_nN : @nN = x_nN at *
 (repeat' first | (refine aw_ret ⟨.inr rfl, ret_oknil hj nT (by cbv) ?_ ?_⟩) | (refine ⟨.inr rfl, ret_oknil hj nT (by cbv) ?_ ?_⟩) | ((first | with_reducible refine tr_cut (fun h => ?_) (fun h => ?_) | refine aw_condj (by cbv) (fun h => ?_) (fun h => ?_)) <;> (try simp (disch := omega) only [hj, std, cmpI, cmpB, satB, Bool.not_eq_true, Bool.not_eq_false, decide_eq_true_eq, decide_eq_false_iff_not, beq_iff_eq, bne_iff_ne, bne_eq_false_iff_eq, beq_eq_false_iff_ne, ne_eq, reduceCtorEq, not_true_eq_false, not_false_eq_true, pl0, if_true, cmpS_eq, cmpS_neq, Bool.not_eq_eq_eq_not, Bool.not_true, Bool.not_false, Bool.not_eq_true', add64, sub64] at h) <;> (try (exfalso; omega))) | (with_reducible refine tr_alt (fun h => ?_) ?_ <;> (try (exfalso; omega))) | (with_reducible first | refine tr_ob ?_ ?_ | refine tr_done ?_) | (refine aw_tr hj tok book0 (by cbv) ?_) | (refine aw_seq fun K hK => ?_) | (refine aw_tr1 hj tok book0 (by cbv) ?_) | (refine aw_skip ?_) | (refine aw_block ?_) | (refine aw_exit ?_) | (refine aw_ret ⟨.inr rfl, ret_okj hj (by cbv) ?_ ?_⟩) | (refine aw_ret ?_) | (with_reducible first | refine th_n ?_ | refine th_r ?_ | refine th_x ?_ | refine blk_n ?_ | refine blk_r ?_ | refine blk_x ?_ | refine blk_y rfl ?_) | (refine ⟨.inr rfl, ret_okj hj (by cbv) ?_ ?_⟩) | (refine ⟨.inl rfl, ret_okj hj (by cbv) ?_ ?_⟩) | (with_reducible first | refine ⟨(_, _, _), by cbv, ?_, ?_⟩ | refine ⟨_, by cbv, ?_, ?_⟩) | (with_reducible apply_assumption -symm -exfalso only [*]))
 all_goals ((try subst y_nC); (try subst y_nN))
 all_goals (try (repeat' first | with_reducible exact obl0 | (with_reducible refine obl1 ?_ ?_)))
 all_goals (try first | with_reducible exact True.intro | ((first | refine ob_le hj ?_ | refine ob_lei hj ?_ | refine ob_inb hj ?_ | refine ob_pos hj ?_ | refine ob_ne0 hj ?_ | refine ob_eqb hj ?_); (first | rfl | first | omega | (simp only [hj, std]; split <;> omega) | (simp (disch := omega) only [hj, std, cmpI, cmpB, satB, add64, sub64, ite0, pl0, pl2, pl3, sb0, if_true, if_false, eq_self] <;> omega) | (simp (disch := omega) [hj, std, cmpI, cmpB, satB, add64, sub64, ite0, pl0, pl2, pl3, sb0, if_true, if_false, eq_self] <;> omega))))
 refine aw_lpj hj [(0, .keep), (1, .keep), (5, .own nT), (6, .keep)] [] (fun (⟨i, N, D⟩ : Int × Nat × (List C)) => stOf 28 [(0, .one (.c (.sl m es))), (1, .one (.c (vS x))), (5, .one (.view 5 0)), (6, .one (.c (vI i)))] [(5, .loose [.own nT N D])]) (fun (⟨i, N, D⟩ : Int × Nat × (List C)) => m - i.toNat) (fun (⟨i, N, D⟩ : Int × Nat × (List C)) => 0 ≤ i ∧ i ≤ m ∧ N = nN (wonL (l.take i.toNat) x) ∧ D = nC (wonL (l.take i.toNat) x)) ((0, 0, [])) (by generalize @nC = x_nC; generalize @nN = x_nN; cbv) ?_ (fun ⟨i, N, D⟩ hI => ?_)
 ·exact ⟨by omega, by omega, by simp [wonL, nN], by simp [wonL, nC]⟩
 obtain ⟨i1, i2, hN, hD⟩ := hI
 have hle := won_le (l.take i.toNat) x
 have hlt : (l.take i.toNat).length ≤ l.length := by rw [List.length_take]; omega
 rw [nN_eq] at hN
 rcases Decidable.em (i < (m : Int)) with hi | hi
 ·obtain ⟨a0, a1⟩ := ha i.toNat (by omega)
  have f1 : (i + 1).toNat = i.toNat + 1 := by omega
  have hs := won_step (l := l) (x := x) (k := i.toNat) (by omega)
  have g0 : gs (cellAt es (i.toNat * 2)) = (nAt l i.toNat).1 := by rw [a0]; rfl
  have g1 : gi (cellAt es (i.toNat * 2 + 1)) = (nAt l i.toNat).2 := by rw [a1]; rfl
  rcases Decidable.em ((nAt l i.toNat).1 = x) with hx | hx
  ·rw [if_pos hx, ← f1] at hs
   rw [← g0] at hx
   clear ha
   generalize y_nC : @nC = x_nC at *
   generalize y_nN : @nN = x_nN at *
   (repeat' first | ((first | with_reducible refine tr_cut (fun h => ?_) (fun h => ?_) | refine aw_condj (by cbv) (fun h => ?_) (fun h => ?_)) <;> (try simp (disch := omega) only [hj, std, cmpI, cmpB, satB, Bool.not_eq_true, Bool.not_eq_false, decide_eq_true_eq, decide_eq_false_iff_not, beq_iff_eq, bne_iff_ne, bne_eq_false_iff_eq, beq_eq_false_iff_ne, ne_eq, reduceCtorEq, not_true_eq_false, not_false_eq_true, pl0, if_true, cmpS_eq, cmpS_neq, Bool.not_eq_eq_eq_not, Bool.not_true, Bool.not_false, Bool.not_eq_true', add64, sub64] at h) <;> (try (exfalso; omega))) | (with_reducible refine tr_alt (fun h => ?_) ?_ <;> (try (exfalso; omega))) | (with_reducible first | refine tr_ob ?_ ?_ | refine tr_done ?_) | (refine aw_tr hj tok book0 (by cbv) ?_) | (refine aw_seq fun K hK => ?_) | (refine aw_tr1 hj tok book0 (by cbv) ?_) | (refine aw_skip ?_) | (refine aw_block ?_) | (refine aw_exit ?_) | (refine aw_ret ⟨.inr rfl, ret_okj hj (by cbv) ?_ ?_⟩) | (refine aw_ret ?_) | (with_reducible first | refine th_n ?_ | refine th_r ?_ | refine th_x ?_ | refine blk_n ?_ | refine blk_r ?_ | refine blk_x ?_ | refine blk_y rfl ?_) | (refine ⟨.inr rfl, ret_okj hj (by cbv) ?_ ?_⟩) | (refine ⟨.inl rfl, ret_okj hj (by cbv) ?_ ?_⟩) | (with_reducible first | refine ⟨(_, _, _), by cbv, ?_, ?_⟩ | refine ⟨_, by cbv, ?_, ?_⟩) | (with_reducible apply_assumption -symm -exfalso only [*]))
   all_goals ((try subst y_nC); (try subst y_nN))
   all_goals (try (repeat' first | with_reducible exact obl0 | (with_reducible refine obl1 ?_ ?_)))
   all_goals (try first | with_reducible exact True.intro | ((first | refine ob_le hj ?_ | refine ob_lei hj ?_ | refine ob_inb hj ?_ | refine ob_pos hj ?_ | refine ob_ne0 hj ?_ | refine ob_eqb hj ?_); (first | rfl | first | omega | (simp only [hj, std]; split <;> omega) | (simp (disch := omega) only [hj, std, cmpI, cmpB, satB, add64, sub64, ite0, pl0, pl2, pl3, sb0, if_true, if_false, eq_self, hl] <;> omega) | (simp (disch := omega) [hj, std, cmpI, cmpB, satB, add64, sub64, ite0, pl0, pl2, pl3, sb0, if_true, if_false, eq_self, hl] <;> omega))) | ((exact absurd hx (by assumption))) | ((refine ob_ok hj ?_; (try rw [hj]); simp only [std]; first | exact ⟨_, a0⟩ | exact ⟨_, a1⟩)) | ((simp (disch := omega) only [hj, std, add64]; first | omega | (rw [hs, nN_eq]; exact ⟨by omega, by omega, hN, hD⟩))))
  ·rw [if_neg hx, ← f1] at hs
   rw [← g0] at hx
   clear ha
   generalize y_nC : @nC = x_nC at *
   generalize y_nN : @nN = x_nN at *
   (repeat' first | ((first | with_reducible refine tr_cut (fun h => ?_) (fun h => ?_) | refine aw_condj (by cbv) (fun h => ?_) (fun h => ?_)) <;> (try simp (disch := omega) only [hj, std, cmpI, cmpB, satB, Bool.not_eq_true, Bool.not_eq_false, decide_eq_true_eq, decide_eq_false_iff_not, beq_iff_eq, bne_iff_ne, bne_eq_false_iff_eq, beq_eq_false_iff_ne, ne_eq, reduceCtorEq, not_true_eq_false, not_false_eq_true, pl0, if_true, cmpS_eq, cmpS_neq, Bool.not_eq_eq_eq_not, Bool.not_true, Bool.not_false, Bool.not_eq_true', add64, sub64] at h) <;> (try (exfalso; omega))) | (with_reducible refine tr_alt (fun h => ?_) ?_ <;> (try (exfalso; omega))) | (with_reducible first | refine tr_ob ?_ ?_ | refine tr_done ?_) | (refine aw_tr hj tok book0 (by cbv) ?_) | (refine aw_seq fun K hK => ?_) | (refine aw_tr1 hj tok book0 (by cbv) ?_) | (refine aw_skip ?_) | (refine aw_block ?_) | (refine aw_exit ?_) | (refine aw_ret ⟨.inr rfl, ret_okj hj (by cbv) ?_ ?_⟩) | (refine aw_ret ?_) | (with_reducible first | refine th_n ?_ | refine th_r ?_ | refine th_x ?_ | refine blk_n ?_ | refine blk_r ?_ | refine blk_x ?_ | refine blk_y rfl ?_) | (refine ⟨.inr rfl, ret_okj hj (by cbv) ?_ ?_⟩) | (refine ⟨.inl rfl, ret_okj hj (by cbv) ?_ ?_⟩) | (with_reducible first | refine ⟨(_, _, _), by cbv, ?_, ?_⟩ | refine ⟨_, by cbv, ?_, ?_⟩) | (with_reducible apply_assumption -symm -exfalso only [*]))
   all_goals ((try subst y_nC); (try subst y_nN))
   all_goals (try (repeat' first | with_reducible exact obl0 | (with_reducible refine obl1 ?_ ?_)))
   all_goals (try first | with_reducible exact True.intro | ((first | refine ob_le hj ?_ | refine ob_lei hj ?_ | refine ob_inb hj ?_ | refine ob_pos hj ?_ | refine ob_ne0 hj ?_ | refine ob_eqb hj ?_); (first | rfl | first | omega | (simp only [hj, std]; split <;> omega) | (simp (disch := omega) only [hj, std, cmpI, cmpB, satB, add64, sub64, ite0, pl0, pl2, pl3, sb0, if_true, if_false, eq_self, hl] <;> omega) | (simp (disch := omega) [hj, std, cmpI, cmpB, satB, add64, sub64, ite0, pl0, pl2, pl3, sb0, if_true, if_false, eq_self, hl] <;> omega))) | ((exact absurd (by assumption) hx)) | ((refine ob_ok hj ?_; (try rw [hj]); simp only [std]; first | exact ⟨_, a0⟩ | exact ⟨_, a1⟩)) | ((simp (disch := omega) only [hj, std, add64]; first | omega | (rw [hs, nN_eq, List.length_append, List.length_singleton]; refine ⟨by omega, by omega, by split <;> omega, ?_⟩; rw [hD, g0, g1, nC_snoc]))))
 ·have e : i.toNat = m := by omega
  rw [e, hend] at hN hD
  generalize y_nC : @nC = x_nC at *
  generalize y_nN : @nN = x_nN at *
  (repeat' first | ((first | with_reducible refine tr_cut (fun h => ?_) (fun h => ?_) | refine aw_condj (by cbv) (fun h => ?_) (fun h => ?_)) <;> (try simp (disch := omega) only [hj, std, cmpI, cmpB, satB, Bool.not_eq_true, Bool.not_eq_false, decide_eq_true_eq, decide_eq_false_iff_not, beq_iff_eq, bne_iff_ne, bne_eq_false_iff_eq, beq_eq_false_iff_ne, ne_eq, reduceCtorEq, not_true_eq_false, not_false_eq_true, pl0, if_true, cmpS_eq, cmpS_neq, Bool.not_eq_eq_eq_not, Bool.not_true, Bool.not_false, Bool.not_eq_true', add64, sub64] at h) <;> (try (exfalso; omega))) | (with_reducible refine tr_alt (fun h => ?_) ?_ <;> (try (exfalso; omega))) | (with_reducible first | refine tr_ob ?_ ?_ | refine tr_done ?_) | (refine aw_tr hj tok book0 (by cbv) ?_) | (refine aw_seq fun K hK => ?_) | (refine aw_tr1 hj tok book0 (by cbv) ?_) | (refine aw_skip ?_) | (refine aw_block ?_) | (refine aw_exit ?_) | (refine aw_ret ⟨.inr rfl, ret_okj hj (by cbv) ?_ ?_⟩) | (refine aw_ret ?_) | (with_reducible first | refine th_n ?_ | refine th_r ?_ | refine th_x ?_ | refine blk_n ?_ | refine blk_r ?_ | refine blk_x ?_ | refine blk_y rfl ?_) | (refine ⟨.inr rfl, ret_okj hj (by cbv) ?_ ?_⟩) | (refine ⟨.inl rfl, ret_okj hj (by cbv) ?_ ?_⟩) | (with_reducible first | refine ⟨(_, _, _), by cbv, ?_, ?_⟩ | refine ⟨_, by cbv, ?_, ?_⟩) | (with_reducible apply_assumption -symm -exfalso only [*]))
  all_goals ((try subst y_nC); (try subst y_nN))
  all_goals (try (repeat' first | with_reducible exact obl0 | with_reducible refine obl1 ?_ ?_))
  all_goals (try first | with_reducible exact True.intro | ((first | refine ob_le hj ?_ | refine ob_lei hj ?_ | refine ob_inb hj ?_ | refine ob_pos hj ?_ | refine ob_ne0 hj ?_ | refine ob_eqb hj ?_); (first | rfl | first | omega | (simp only [hj, std]; split <;> omega) | (simp (disch := omega) only [hj, std, cmpI, cmpB, satB, add64, sub64, ite0, pl0, pl2, pl3, sb0, if_true, if_false, eq_self] <;> omega) | (simp (disch := omega) [hj, std, cmpI, cmpB, satB, add64, sub64, ite0, pl0, pl2, pl3, sb0, if_true, if_false, eq_self] <;> omega))) | ((rw [nN_eq, ← hN, ← hD]; exact rfl)))
end Go.Proofs.Ytnmlcfjljeccnaa.A
/- The reference of layer 9: order; a name is put into a list. -/
set_option linter.unusedSimpArgs false
set_option linter.unusedVariables false
set_option maxRecDepth 100000
set_option maxHeartbeats 4000000
namespace Go.Proofs.Ytnmlcfjljeccnaa.A
open Go
theorem pc_Less9 (a b : ByteArray) (ha : a.size < 4611686018427387904) (hb : b.size < 4611686018427387904) : PC Try.prog T 96 [.v false [vS a], .v false [vS b]] (ret1 (.st (vB (ltS a b)))) [] := by
 refine pc_of tok Try.func96 rfl (by rfl) ?_
 obtain ⟨j, hj⟩ : ∃ j : J, j = std Try.prog T := ⟨_, rfl⟩
 have hm : Try.prog.follows .mixedOrders = true := by kernel_rfl
 generalize y_ltS : @ltS = x_ltS at *
 (repeat' first | ((first | with_reducible refine tr_cut (fun h => ?_) (fun h => ?_) | refine aw_condj (by cbv) (fun h => ?_) (fun h => ?_)) <;> (try simp (disch := omega) only [hj, std, cmpI, cmpB, satB, Bool.not_eq_true, Bool.not_eq_false, decide_eq_true_eq, decide_eq_false_iff_not, beq_iff_eq, bne_iff_ne, bne_eq_false_iff_eq, beq_eq_false_iff_ne, ne_eq, reduceCtorEq, not_true_eq_false, not_false_eq_true, pl0, if_true, cmpS_eq, cmpS_neq, Bool.not_eq_eq_eq_not, Bool.not_true, Bool.not_false, Bool.not_eq_true', add64, sub64] at h) <;> (try (exfalso; omega))) | (with_reducible refine tr_alt (fun h => ?_) ?_ <;> (try (exfalso; omega))) | (with_reducible first | refine tr_ob ?_ ?_ | refine tr_done ?_) | (refine aw_tr hj tok book0 (by cbv) ?_) | (refine aw_seq fun K hK => ?_) | (refine aw_tr1 hj tok book0 (by cbv) ?_) | (refine aw_skip ?_) | (refine aw_block ?_) | (refine aw_exit ?_) | (refine aw_ret ⟨.inr rfl, ret_okj hj (by cbv) ?_ ?_⟩) | (refine aw_ret ?_) | (with_reducible first | refine th_n ?_ | refine th_r ?_ | refine th_x ?_ | refine blk_n ?_ | refine blk_r ?_ | refine blk_x ?_ | refine blk_y rfl ?_) | (refine ⟨.inr rfl, ret_okj hj (by cbv) ?_ ?_⟩) | (refine ⟨.inl rfl, ret_okj hj (by cbv) ?_ ?_⟩) | (with_reducible refine ⟨_, by cbv, ?_, ?_⟩) | (with_reducible apply_assumption -symm -exfalso only [*]))
 all_goals ((try subst y_ltS))
 refine aw_lpj hj [(0, .keep), (1, .keep), (5, .keep)] [] (fun (i : Int) => stOf 37 [(0, .one (.c (vS a))), (1, .one (.c (vS b))), (5, .one (.c (vI i)))] []) (fun (i : Int) => a.size - i.toNat) (fun (i : Int) => 0 ≤ i ∧ i ≤ a.size ∧ i ≤ b.size ∧ ∀ n : Nat, (n : Int) < i → bt a n = bt b n) (0) (by generalize @ltS = x_ltS; cbv) ?_ (fun i hI => ?_)
 ·exact ⟨by omega, by omega, by omega, fun n h => by omega⟩
 obtain ⟨i1, i2, i3, i4⟩ := hI
 generalize y_ltS : @ltS = x_ltS at *
 (repeat' first | ((first | with_reducible refine tr_cut (fun h => ?_) (fun h => ?_) | refine aw_condj (by cbv) (fun h => ?_) (fun h => ?_)) <;> (try simp (disch := omega) only [hj, std, cmpI, cmpB, satB, Bool.not_eq_true, Bool.not_eq_false, decide_eq_true_eq, decide_eq_false_iff_not, beq_iff_eq, bne_iff_ne, bne_eq_false_iff_eq, beq_eq_false_iff_ne, ne_eq, reduceCtorEq, not_true_eq_false, not_false_eq_true, pl0, if_true, cmpS_eq, cmpS_neq, Bool.not_eq_eq_eq_not, Bool.not_true, Bool.not_false, Bool.not_eq_true', add64, sub64] at h) <;> (try (exfalso; omega))) | (with_reducible refine tr_alt (fun h => ?_) ?_ <;> (try (exfalso; omega))) | (with_reducible first | refine tr_ob ?_ ?_ | refine tr_done ?_) | (refine aw_dr1 (id := 5) hj tok hm book0 true [(0, false), (1, false), (2, false), (3, false), (4, true), (5, true), (6, true), (7, true)] (by kernel_rfl) (by cbv) ?_) | (refine aw_dr (id := 5) hj tok hm book0 true [(0, false), (1, false), (2, false), (3, false), (4, true), (5, true), (6, true), (7, true)] (by kernel_rfl) (by cbv) ?_) | (refine aw_dr1 (id := 4) hj tok hm book0 true [(0, false), (1, false), (2, false), (3, false), (4, true), (5, true), (6, true)] (by kernel_rfl) (by cbv) ?_) | (refine aw_dr (id := 4) hj tok hm book0 true [(0, false), (1, false), (2, false), (3, false), (4, true), (5, true), (6, true)] (by kernel_rfl) (by cbv) ?_) | (refine aw_tr hj tok book0 (by cbv) ?_) | (refine aw_seq fun K hK => ?_) | (refine aw_tr1 hj tok book0 (by cbv) ?_) | (refine aw_skip ?_) | (refine aw_block ?_) | (refine aw_exit ?_) | (refine aw_ret ⟨.inr rfl, ret_okj hj (by cbv) ?_ ?_⟩) | (refine aw_ret ?_) | (with_reducible first | refine th_n ?_ | refine th_r ?_ | refine th_x ?_ | refine blk_n ?_ | refine blk_r ?_ | refine blk_x ?_ | refine blk_y rfl ?_) | (refine ⟨.inr rfl, ret_okj hj (by cbv) ?_ ?_⟩) | (refine ⟨.inl rfl, ret_okj hj (by cbv) ?_ ?_⟩) | (with_reducible refine ⟨_, by cbv, ?_, ?_⟩) | (with_reducible apply_assumption -symm -exfalso only [*]))
 all_goals ((try subst y_ltS))
 all_goals (try (repeat' first | with_reducible exact obl0 | with_reducible refine obl1 ?_ ?_))
 all_goals (try first | with_reducible exact True.intro | ((first | refine ob_le hj ?_ | refine ob_lei hj ?_ | refine ob_inb hj ?_ | refine ob_pos hj ?_ | refine ob_ne0 hj ?_ | refine ob_eqb hj ?_); (first | rfl | first | omega | (simp only [hj, std]; split <;> omega) | (simp (disch := omega) only [hj, std, cmpI, cmpB, satB, add64, sub64, ite0, pl0, pl2, pl3, sb0, if_true, if_false, eq_self] <;> omega) | (simp (disch := omega) [hj, std, cmpI, cmpB, satB, add64, sub64, ite0, pl0, pl2, pl3, sb0, if_true, if_false, eq_self] <;> omega))) | ((refine r1b ?_; rw [ltS_at i1 (by assumption) (by assumption) i4 (by assumption)]; simp [hj, std, cmpI])) | ((refine r1b ?_; rw [ltS_fin i1 i2 i3 (by omega) i4]; simp [hj, std, cmpI])) | ((simp (disch := omega) only [hj, std, add64]; first | omega | (refine ⟨by omega, by omega, by omega, fun n hn => ?_⟩; by_cases e : (n : Int) < i; exact i4 n e; obtain rfl : n = i.toNat := (by omega); have q := ‹((bt a _ : Nat) : Int) = ((bt b _ : Nat) : Int)›; omega))))
theorem c_Less9 (a b : ByteArray) (ha : a.size < 4611686018427387904) (hb : b.size < 4611686018427387904) : pc 96 [.v false [vS a], .v false [vS b]] (ret1 (.st (vB (ltS a b)))) := ⟨enters Try.func96 (by kernel_rfl) (by kernel_rfl), pc_Less9 a b ha hb⟩
def wnN (cs : List C) (x : ByteArray) : Nat := nN (wonL (nmsOf cs) x)
def wnC (cs : List C) (x : ByteArray) : List C := nC (wonL (nmsOf cs) x)
def wiN (cs : List C) (x : ByteArray) (n : Int) : Nat := nN (wiL (nmsOf cs) x n)
def wiC (cs : List C) (x : ByteArray) (n : Int) : List C := nC (wiL (nmsOf cs) x n)
def fiC (cs : List C) (x : ByteArray) : Int := findL (nmsOf cs) x
def bookNm (x_wnN : List C → ByteArray → Nat) (x_wnC : List C → ByteArray → List C) (x_wiN : List C → ByteArray → Int → Nat) (x_wiC : List C → ByteArray → Int → List C) (x_fiC : List C → ByteArray → Int) (x_ltS : ByteArray → ByteArray → Bool) : Book := fun f xs => match f, xs with
 | 96, [.v false [.val (.string a)], .v false [.val (.string b)]] => some (ret1 (.st (vB (x_ltS a b))), [])
 | 35, [.v false [.sl n cs], .v false [.val (.string x)]] => some (ret1 (.st (vI (x_fiC cs x))), [])
 | 84, [.v false [.sl n cs], .v false [.val (.string x)]] => some (ret1 (.own nT (x_wnN cs x) (x_wnC cs x)), [])
 | 83, [.v false [.sl n cs], .v false [.val (.string x)], .v false [.val (.int _ q)]] => some (ret1 (.own nT (x_wiN cs x q) (x_wiC cs x q)), [])
 | _, _ => none
theorem c_won9 (l : List Nm) (x : ByteArray) (h : l.length ≤ 1000) : pc 84 [.v false [.sl (nN l) (nC l)], .v false [vS x]] (ret1 (.own nT (wnN (nC l) x) (wnC (nC l) x))) := by
 refine ⟨enters Try.func84 (by kernel_rfl) (by kernel_rfl), ?_⟩
 unfold wnN wnC
 rw [nmsOf_nC]; exact pc_won9 l x h
theorem c_Find9 (l : List Nm) (x : ByteArray) (h : l.length ≤ 1000) : pc 35 [.v false [.sl (nN l) (nC l)], .v false [vS x]] (ret1 (.st (vI (fiC (nC l) x)))) := by
 refine ⟨enters Try.func35 (by kernel_rfl) (by kernel_rfl), ?_⟩
 unfold fiC
 rw [nmsOf_nC]; exact pc_Find9 l x h
theorem put_step {l : List Nm} {x : ByteArray} {n : Int} {k : Nat} (h : k < l.length) : putL (l.take (k + 1)) x n = putSt x n (putL (l.take k) x n) (nAt l k) := by
 unfold putL
 rw [take_nm h, List.foldl_append]; rfl
theorem put_le (x : ByteArray) (n : Int) : ∀ (l : List Nm) (s : List Nm × Bool), (l.foldl (putSt x n) s).1.length ≤ s.1.length + l.length + (if s.2 = true then 0 else 1)
 | [], s => by simp
 | p :: l, s => by
  have := put_le x n l (putSt x n s p)
  rw [List.foldl_cons]
  refine Nat.le_trans this ?_
  unfold putSt
  split
  ·next h => rw [h.1]; simp; omega
  ·simp; omega
theorem nC_vals (l : List Nm) : ∀ c ∈ nC l, ∃ v, c = .val v := by
 intro c hc
 obtain ⟨p, _, hp⟩ := List.mem_flatMap.1 hc
 rcases List.mem_cons.1 hp with rfl | hp
 ·exact ⟨_, rfl⟩
 ·rcases List.mem_singleton.1 hp with rfl
  exact ⟨_, rfl⟩
theorem pc_with9 (l : List Nm) (x : ByteArray) (n : Int) (h : l.length ≤ 1000) (hx : x.size ≤ 1000) (hs : ∀ k, k < l.length → (nAt l k).1.size ≤ 1000) : PC Try.prog T 83 [.v false [.sl (nN l) (nC l)], .v false [vS x], .v false [vI n]] (ret1 (.own nT (nN (wiL l x n)) (nC (wiL l x n)))) [] := by
 have cw := c_won9 l x h
 have ewN : wnN (nC l) x = nN (wonL l x) := by unfold wnN; rw [nmsOf_nC]
 have ewC : wnC (nC l) x = nC (wonL l x) := by unfold wnC; rw [nmsOf_nC]
 have hW : ∀ p ∈ wonL l x, p.1.size ≤ 1000 := fun p hp => by
  obtain ⟨q, hq, rfl⟩ := List.mem_iff_getElem.1 (List.mem_filter.1 hp).1
  have := hs q hq
  rw [nAt_get hq] at this; exact this
 have hWl := won_le l x
 have hwi : wiL l x n = if (putL (wonL l x) x n).2 = true then (putL (wonL l x) x n).1 else (putL (wonL l x) x n).1 ++ [(x, n)] := rfl
 have hl := nC_len l
 have hn := nN_eq l
 rw [ewN, ewC] at cw
 generalize wonL l x = W at *
 have hWn := nN_eq W
 have hWc := nC_len W
 have ha := nC_at W
 generalize eWN : nN W = WN at *
 generalize eWC : nC W = WC at *
 generalize nN l = m at *
 generalize eEs : nC l = es at *
 refine pc_of tok Try.func83 rfl (by rfl) ?_
 obtain ⟨j, hj⟩ : ∃ j : J, j = std Try.prog T := ⟨_, rfl⟩
 have hm : Try.prog.follows .mixedOrders = true := by kernel_rfl
 generalize y_wnN : @wnN = x_wnN at *
 generalize y_wnC : @wnC = x_wnC at *
 generalize y_wiN : @wiN = x_wiN at *
 generalize y_wiC : @wiC = x_wiC at *
 generalize y_fiC : @fiC = x_fiC at *
 generalize y_ltS : @ltS = x_ltS at *
 generalize y_nC : @nC = x_nC at *
 generalize y_nN : @nN = x_nN at *
 (repeat' first | ((first | with_reducible refine tr_cut (fun h => ?_) (fun h => ?_) | refine aw_condj (by cbv) (fun h => ?_) (fun h => ?_)) <;> (try simp (disch := omega) only [hj, std, cmpI, cmpB, satB, Bool.not_eq_true, Bool.not_eq_false, decide_eq_true_eq, decide_eq_false_iff_not, beq_iff_eq, bne_iff_ne, bne_eq_false_iff_eq, beq_eq_false_iff_ne, ne_eq, reduceCtorEq, not_true_eq_false, not_false_eq_true, pl0, if_true, cmpS_eq, cmpS_neq, Bool.not_eq_eq_eq_not, Bool.not_true, Bool.not_false, Bool.not_eq_true', add64, sub64] at h) <;> (try (exfalso; omega))) | (with_reducible refine tr_alt (fun h => ?_) ?_ <;> (try (exfalso; omega))) | (with_reducible first | refine tr_ob ?_ ?_ | refine tr_done ?_) | (refine aw_tr hj tok (bookNm x_wnN x_wnC x_wiN x_wiC x_fiC x_ltS) (by cbv) ?_) | (refine aw_seq fun K hK => ?_) | (refine aw_tr1 hj tok (bookNm x_wnN x_wnC x_wiN x_wiC x_fiC x_ltS) (by cbv) ?_) | (refine aw_skip ?_) | (refine aw_block ?_) | (refine aw_exit ?_) | (refine aw_ret ⟨.inr rfl, ret_okj hj (by cbv) ?_ ?_⟩) | (refine aw_ret ?_) | (with_reducible first | refine th_n ?_ | refine th_r ?_ | refine th_x ?_ | refine blk_n ?_ | refine blk_r ?_ | refine blk_x ?_ | refine blk_y rfl ?_) | (refine ⟨.inr rfl, ret_okj hj (by cbv) ?_ ?_⟩) | (refine ⟨.inl rfl, ret_okj hj (by cbv) ?_ ?_⟩) | (with_reducible first | refine ⟨(_, _, _, _), by cbv, ?_, ?_⟩ | refine ⟨_, by cbv, ?_, ?_⟩) | (with_reducible apply_assumption -symm -exfalso only [*]))
 all_goals ((try subst y_wnN); (try subst y_wnC); (try subst y_wiN); (try subst y_wiC); (try subst y_fiC); (try subst y_ltS); (try subst y_nC); (try subst y_nN))
 all_goals (try (repeat' first | with_reducible exact obl0 | (with_reducible refine obl1 ?_ ?_)))
 all_goals (try first | with_reducible exact True.intro | ((first | refine ob_pc hj ?_ | refine ob_pcn hj ?_); (try rw [hj]); first | exact (by rw [ewN, ewC]; exact cw)) | ((first | refine ob_le hj ?_ | refine ob_lei hj ?_ | refine ob_inb hj ?_ | refine ob_pos hj ?_ | refine ob_ne0 hj ?_ | refine ob_eqb hj ?_); (first | rfl | first | omega | (simp only [hj, std]; split <;> omega) | (simp (disch := omega) only [hj, std, cmpI, cmpB, satB, add64, sub64, ite0, pl0, pl2, pl3, sb0, if_true, if_false, eq_self] <;> omega) | (simp (disch := omega) [hj, std, cmpI, cmpB, satB, add64, sub64, ite0, pl0, pl2, pl3, sb0, if_true, if_false, eq_self] <;> omega))) | ((refine ob_vals hj ?_; rw [ewC, ← eWC]; exact nC_vals W)))
 rw [ewN, ewC]
 have eP : ∀ q : Nat, (if q = 0 then 1 else q + 1) = q + 1 := fun q => by split <;> omega
 clear eWN eWC eEs ewN ewC cw
 refine aw_lpj hj [(1, .keep), (2, .keep), (7, .own nT), (8, .own nT), (9, .keep), (10, .keep)] [] (fun (⟨i, N, D, d⟩ : Int × Nat × (List C) × Bool) => stOf 53 [(1, .one (.c (vS x))), (2, .one (.c (vI n))), (7, .one (.view 7 0)), (8, .one (.view 8 0)), (9, .one (.c (vB d))), (10, .one (.c (vI i)))] [(7, .loose [.own nT WN WC]), (8, .loose [.own nT N D])]) (fun (⟨i, N, D, d⟩ : Int × Nat × (List C) × Bool) => WN - i.toNat) (fun (⟨i, N, D, d⟩ : Int × Nat × (List C) × Bool) => 0 ≤ i ∧ i ≤ WN ∧ N = nN (putL (W.take i.toNat) x n).1 ∧ D = nC (putL (W.take i.toNat) x n).1 ∧ d = (putL (W.take i.toNat) x n).2) ((0, 0, [], false)) (by generalize @wnN = x_wnN; generalize @wnC = x_wnC; generalize @wiN = x_wiN; generalize @wiC = x_wiC; generalize @fiC = x_fiC; generalize @ltS = x_ltS; generalize @nC = x_nC; generalize @nN = x_nN; cbv) ?_ (fun ⟨i, N, D, d⟩ hI => ?_)
 ·exact ⟨by omega, by omega, by simp [putL, nN], by simp [putL, nC], by simp [putL]⟩
 obtain ⟨i1, i2, hN, hD, hd⟩ := hI
 have hle := put_le x n (W.take i.toNat) ([], false)
 have hlt : (W.take i.toNat).length ≤ W.length := by rw [List.length_take]; omega
 have hle : (putL (W.take i.toNat) x n).1.length ≤ 0 + (W.take i.toNat).length + 1 := hle
 rw [nN_eq] at hN
 rcases Decidable.em (i < (WN : Int)) with hi | hi
 ·obtain ⟨a0, a1⟩ := ha i.toNat (by omega)
  have f1 : (i + 1).toNat = i.toNat + 1 := by omega
  have hst := put_step (l := W) (x := x) (n := n) (k := i.toNat) (by omega)
  rw [← f1] at hst
  have g0 : gs (cellAt WC (i.toNat * 2)) = (nAt W i.toNat).1 := by rw [a0]; rfl
  have g1 : gi (cellAt WC (i.toNat * 2 + 1)) = (nAt W i.toNat).2 := by rw [a1]; rfl
  have hpz : (nAt W i.toNat).1.size ≤ 1000 := by rw [nAt_get (by omega)]; exact hW _ (List.getElem_mem _)
  generalize nAt W i.toNat = p at *
  obtain ⟨px, pn⟩ := p
  generalize putL (W.take i.toNat) x n = Y at *
  obtain ⟨Y, Yd⟩ := Y
  dsimp only at hN hD hd g0 g1 hle hpz
  have cL := c_Less9 x (gs (cellAt WC (i.toNat * 2))) (by omega) (by rw [g0]; omega)
  subst hd
  clear ha
  rcases d with _ | _
  ·rcases Decidable.em (ltS x px = true) with hx | hx
   ·have hz : putL (W.take (i + 1).toNat) x n = (Y ++ [(x, n)] ++ [(px, pn)], true) := by rw [hst]; unfold putSt; rw [if_pos ⟨rfl, hx⟩]; simp
    clear hst
    rw [← g0] at hx
    generalize y_wnN : @wnN = x_wnN at *
    generalize y_wnC : @wnC = x_wnC at *
    generalize y_wiN : @wiN = x_wiN at *
    generalize y_wiC : @wiC = x_wiC at *
    generalize y_fiC : @fiC = x_fiC at *
    generalize y_ltS : @ltS = x_ltS at *
    generalize y_nC : @nC = x_nC at *
    generalize y_nN : @nN = x_nN at *
    (repeat' first | ((first | with_reducible refine tr_cut (fun h => ?_) (fun h => ?_) | refine aw_condj (by cbv) (fun h => ?_) (fun h => ?_)) <;> (try simp (disch := omega) only [hj, std, cmpI, cmpB, satB, Bool.not_eq_true, Bool.not_eq_false, decide_eq_true_eq, decide_eq_false_iff_not, beq_iff_eq, bne_iff_ne, bne_eq_false_iff_eq, beq_eq_false_iff_ne, ne_eq, reduceCtorEq, not_true_eq_false, not_false_eq_true, pl0, if_true, cmpS_eq, cmpS_neq, Bool.not_eq_eq_eq_not, Bool.not_true, Bool.not_false, Bool.not_eq_true', hx, add64, sub64] at h) <;> (try (exfalso; omega))) | (with_reducible refine tr_alt (fun h => ?_) ?_ <;> (try (exfalso; omega))) | (with_reducible first | refine tr_ob ?_ ?_ | refine tr_done ?_) | (refine aw_tr hj tok (bookNm x_wnN x_wnC x_wiN x_wiC x_fiC x_ltS) (by cbv) ?_) | (refine aw_seq fun K hK => ?_) | (refine aw_tr1 hj tok (bookNm x_wnN x_wnC x_wiN x_wiC x_fiC x_ltS) (by cbv) ?_) | (refine aw_skip ?_) | (refine aw_block ?_) | (refine aw_exit ?_) | (refine aw_ret ⟨.inr rfl, ret_okj hj (by cbv) ?_ ?_⟩) | (refine aw_ret ?_) | (with_reducible first | refine th_n ?_ | refine th_r ?_ | refine th_x ?_ | refine blk_n ?_ | refine blk_r ?_ | refine blk_x ?_ | refine blk_y rfl ?_) | (refine ⟨.inr rfl, ret_okj hj (by cbv) ?_ ?_⟩) | (refine ⟨.inl rfl, ret_okj hj (by cbv) ?_ ?_⟩) | (with_reducible first | refine ⟨(_, _, _, _), by cbv, ?_, ?_⟩ | refine ⟨_, by cbv, ?_, ?_⟩) | (with_reducible apply_assumption -symm -exfalso only [*]))
    all_goals ((try subst y_wnN); (try subst y_wnC); (try subst y_wiN); (try subst y_wiC); (try subst y_fiC); (try subst y_ltS); (try subst y_nC); (try subst y_nN))
    all_goals (try (repeat' first | with_reducible exact obl0 | (with_reducible refine obl1 ?_ ?_)))
    all_goals (try first | with_reducible exact True.intro | ((first | refine ob_pc hj ?_ | refine ob_pcn hj ?_); (try rw [hj]); first | exact cL) | ((first | refine ob_le hj ?_ | refine ob_lei hj ?_ | refine ob_inb hj ?_ | refine ob_pos hj ?_ | refine ob_ne0 hj ?_ | refine ob_eqb hj ?_); (first | rfl | first | omega | (simp only [hj, std]; split <;> omega) | (simp (disch := omega) only [hj, std, cmpI, cmpB, satB, add64, sub64, ite0, pl0, pl2, pl3, sb0, if_true, if_false, eq_self, hWc, hx] <;> omega) | (simp (disch := omega) [hj, std, cmpI, cmpB, satB, add64, sub64, ite0, pl0, pl2, pl3, sb0, if_true, if_false, eq_self, hWc, hx] <;> omega))) | ((exact absurd hx (by assumption))) | ((refine ob_ok hj ?_; (try rw [hj]); simp only [std]; first | exact ⟨_, a0⟩ | exact ⟨_, a1⟩)) | ((simp (disch := omega) only [hj, std, add64, eP]; first | omega | (rw [hz, nN_eq]; refine ⟨by omega, by omega, by simp only [List.length_append, List.length_singleton]; omega, ?_, by trivial⟩; rw [hD, nC_snoc, g0, g1, nC_snoc]))))
   ·have hz : putL (W.take (i + 1).toNat) x n = (Y ++ [(px, pn)], false) := by rw [hst]; unfold putSt; rw [if_neg (fun h => hx h.2)]
    clear hst
    rw [← g0] at hx
    generalize y_wnN : @wnN = x_wnN at *
    generalize y_wnC : @wnC = x_wnC at *
    generalize y_wiN : @wiN = x_wiN at *
    generalize y_wiC : @wiC = x_wiC at *
    generalize y_fiC : @fiC = x_fiC at *
    generalize y_ltS : @ltS = x_ltS at *
    generalize y_nC : @nC = x_nC at *
    generalize y_nN : @nN = x_nN at *
    (repeat' first | ((first | with_reducible refine tr_cut (fun h => ?_) (fun h => ?_) | refine aw_condj (by cbv) (fun h => ?_) (fun h => ?_)) <;> (try simp (disch := omega) only [hj, std, cmpI, cmpB, satB, Bool.not_eq_true, Bool.not_eq_false, decide_eq_true_eq, decide_eq_false_iff_not, beq_iff_eq, bne_iff_ne, bne_eq_false_iff_eq, beq_eq_false_iff_ne, ne_eq, reduceCtorEq, not_true_eq_false, not_false_eq_true, pl0, if_true, cmpS_eq, cmpS_neq, Bool.not_eq_eq_eq_not, Bool.not_true, Bool.not_false, Bool.not_eq_true', hx, add64, sub64] at h) <;> (try (exfalso; omega))) | (with_reducible refine tr_alt (fun h => ?_) ?_ <;> (try (exfalso; omega))) | (with_reducible first | refine tr_ob ?_ ?_ | refine tr_done ?_) | (refine aw_tr hj tok (bookNm x_wnN x_wnC x_wiN x_wiC x_fiC x_ltS) (by cbv) ?_) | (refine aw_seq fun K hK => ?_) | (refine aw_tr1 hj tok (bookNm x_wnN x_wnC x_wiN x_wiC x_fiC x_ltS) (by cbv) ?_) | (refine aw_skip ?_) | (refine aw_block ?_) | (refine aw_exit ?_) | (refine aw_ret ⟨.inr rfl, ret_okj hj (by cbv) ?_ ?_⟩) | (refine aw_ret ?_) | (with_reducible first | refine th_n ?_ | refine th_r ?_ | refine th_x ?_ | refine blk_n ?_ | refine blk_r ?_ | refine blk_x ?_ | refine blk_y rfl ?_) | (refine ⟨.inr rfl, ret_okj hj (by cbv) ?_ ?_⟩) | (refine ⟨.inl rfl, ret_okj hj (by cbv) ?_ ?_⟩) | (with_reducible first | refine ⟨(_, _, _, _), by cbv, ?_, ?_⟩ | refine ⟨_, by cbv, ?_, ?_⟩) | (with_reducible apply_assumption -symm -exfalso only [*]))
    all_goals ((try subst y_wnN); (try subst y_wnC); (try subst y_wiN); (try subst y_wiC); (try subst y_fiC); (try subst y_ltS); (try subst y_nC); (try subst y_nN))
    all_goals (try (repeat' first | with_reducible exact obl0 | (with_reducible refine obl1 ?_ ?_)))
    all_goals (try first | with_reducible exact True.intro | ((first | refine ob_pc hj ?_ | refine ob_pcn hj ?_); (try rw [hj]); first | exact cL) | ((first | refine ob_le hj ?_ | refine ob_lei hj ?_ | refine ob_inb hj ?_ | refine ob_pos hj ?_ | refine ob_ne0 hj ?_ | refine ob_eqb hj ?_); (first | rfl | first | omega | (simp only [hj, std]; split <;> omega) | (simp (disch := omega) only [hj, std, cmpI, cmpB, satB, add64, sub64, ite0, pl0, pl2, pl3, sb0, if_true, if_false, eq_self, hWc, hx] <;> omega) | (simp (disch := omega) [hj, std, cmpI, cmpB, satB, add64, sub64, ite0, pl0, pl2, pl3, sb0, if_true, if_false, eq_self, hWc, hx] <;> omega))) | ((exact absurd (by assumption) hx)) | ((refine ob_ok hj ?_; (try rw [hj]); simp only [std]; first | exact ⟨_, a0⟩ | exact ⟨_, a1⟩)) | ((simp (disch := omega) only [hj, std, add64, eP]; first | omega | (rw [hz, nN_eq]; refine ⟨by omega, by omega, by simp only [List.length_append, List.length_singleton]; omega, ?_, by trivial⟩; rw [hD, g0, g1, nC_snoc]))))
  ·have hz : putL (W.take (i + 1).toNat) x n = (Y ++ [(px, pn)], true) := by rw [hst]; unfold putSt; rw [if_neg (by simp)]
   clear hst
   generalize y_wnN : @wnN = x_wnN at *
   generalize y_wnC : @wnC = x_wnC at *
   generalize y_wiN : @wiN = x_wiN at *
   generalize y_wiC : @wiC = x_wiC at *
   generalize y_fiC : @fiC = x_fiC at *
   generalize y_ltS : @ltS = x_ltS at *
   generalize y_nC : @nC = x_nC at *
   generalize y_nN : @nN = x_nN at *
   (repeat' first | ((first | with_reducible refine tr_cut (fun h => ?_) (fun h => ?_) | refine aw_condj (by cbv) (fun h => ?_) (fun h => ?_)) <;> (try simp (disch := omega) only [hj, std, cmpI, cmpB, satB, Bool.not_eq_true, Bool.not_eq_false, decide_eq_true_eq, decide_eq_false_iff_not, beq_iff_eq, bne_iff_ne, bne_eq_false_iff_eq, beq_eq_false_iff_ne, ne_eq, reduceCtorEq, not_true_eq_false, not_false_eq_true, pl0, if_true, cmpS_eq, cmpS_neq, Bool.not_eq_eq_eq_not, Bool.not_true, Bool.not_false, Bool.not_eq_true', add64, sub64] at h) <;> (try (exfalso; omega))) | (with_reducible refine tr_alt (fun h => ?_) ?_ <;> (try (exfalso; omega))) | (with_reducible first | refine tr_ob ?_ ?_ | refine tr_done ?_) | (refine aw_tr hj tok (bookNm x_wnN x_wnC x_wiN x_wiC x_fiC x_ltS) (by cbv) ?_) | (refine aw_seq fun K hK => ?_) | (refine aw_tr1 hj tok (bookNm x_wnN x_wnC x_wiN x_wiC x_fiC x_ltS) (by cbv) ?_) | (refine aw_skip ?_) | (refine aw_block ?_) | (refine aw_exit ?_) | (refine aw_ret ⟨.inr rfl, ret_okj hj (by cbv) ?_ ?_⟩) | (refine aw_ret ?_) | (with_reducible first | refine th_n ?_ | refine th_r ?_ | refine th_x ?_ | refine blk_n ?_ | refine blk_r ?_ | refine blk_x ?_ | refine blk_y rfl ?_) | (refine ⟨.inr rfl, ret_okj hj (by cbv) ?_ ?_⟩) | (refine ⟨.inl rfl, ret_okj hj (by cbv) ?_ ?_⟩) | (with_reducible first | refine ⟨(_, _, _, _), by cbv, ?_, ?_⟩ | refine ⟨_, by cbv, ?_, ?_⟩) | (with_reducible apply_assumption -symm -exfalso only [*]))
   all_goals ((try subst y_wnN); (try subst y_wnC); (try subst y_wiN); (try subst y_wiC); (try subst y_fiC); (try subst y_ltS); (try subst y_nC); (try subst y_nN))
   all_goals (try (repeat' first | with_reducible exact obl0 | (with_reducible refine obl1 ?_ ?_)))
   all_goals (try first | with_reducible exact True.intro | ((first | refine ob_pc hj ?_ | refine ob_pcn hj ?_); (try rw [hj]); first | exact cL) | ((first | refine ob_le hj ?_ | refine ob_lei hj ?_ | refine ob_inb hj ?_ | refine ob_pos hj ?_ | refine ob_ne0 hj ?_ | refine ob_eqb hj ?_); (first | rfl | first | omega | (simp only [hj, std]; split <;> omega) | (simp (disch := omega) only [hj, std, cmpI, cmpB, satB, add64, sub64, ite0, pl0, pl2, pl3, sb0, if_true, if_false, eq_self, hWc] <;> omega) | (simp (disch := omega) [hj, std, cmpI, cmpB, satB, add64, sub64, ite0, pl0, pl2, pl3, sb0, if_true, if_false, eq_self, hWc] <;> omega))) | ((refine ob_ok hj ?_; (try rw [hj]); simp only [std]; first | exact ⟨_, a0⟩ | exact ⟨_, a1⟩)) | ((simp (disch := omega) only [hj, std, add64, eP]; first | omega | (rw [hz, nN_eq]; refine ⟨by omega, by omega, by simp only [List.length_append, List.length_singleton]; omega, ?_, by trivial⟩; rw [hD, g0, g1, nC_snoc]))))
 ·have e : W.take i.toNat = W := List.take_of_length_le (by omega)
  rw [e] at hN hD hd hle
  rw [← hd] at hwi
  generalize putL W x n = Y at *
  rcases d with _ | _
  ·generalize y_wnN : @wnN = x_wnN at *
   generalize y_wnC : @wnC = x_wnC at *
   generalize y_wiN : @wiN = x_wiN at *
   generalize y_wiC : @wiC = x_wiC at *
   generalize y_fiC : @fiC = x_fiC at *
   generalize y_ltS : @ltS = x_ltS at *
   generalize y_nC : @nC = x_nC at *
   generalize y_nN : @nN = x_nN at *
   (repeat' first | ((first | with_reducible refine tr_cut (fun h => ?_) (fun h => ?_) | refine aw_condj (by cbv) (fun h => ?_) (fun h => ?_)) <;> (try simp (disch := omega) only [hj, std, cmpI, cmpB, satB, Bool.not_eq_true, Bool.not_eq_false, decide_eq_true_eq, decide_eq_false_iff_not, beq_iff_eq, bne_iff_ne, bne_eq_false_iff_eq, beq_eq_false_iff_ne, ne_eq, reduceCtorEq, not_true_eq_false, not_false_eq_true, pl0, if_true, cmpS_eq, cmpS_neq, Bool.not_eq_eq_eq_not, Bool.not_true, Bool.not_false, Bool.not_eq_true', add64, sub64] at h) <;> (try (exfalso; omega))) | (with_reducible refine tr_alt (fun h => ?_) ?_ <;> (try (exfalso; omega))) | (with_reducible first | refine tr_ob ?_ ?_ | refine tr_done ?_) | (refine aw_tr hj tok (bookNm x_wnN x_wnC x_wiN x_wiC x_fiC x_ltS) (by cbv) ?_) | (refine aw_seq fun K hK => ?_) | (refine aw_tr1 hj tok (bookNm x_wnN x_wnC x_wiN x_wiC x_fiC x_ltS) (by cbv) ?_) | (refine aw_skip ?_) | (refine aw_block ?_) | (refine aw_exit ?_) | (refine aw_ret ⟨.inr rfl, ret_okj hj (by cbv) ?_ ?_⟩) | (refine aw_ret ?_) | (with_reducible first | refine th_n ?_ | refine th_r ?_ | refine th_x ?_ | refine blk_n ?_ | refine blk_r ?_ | refine blk_x ?_ | refine blk_y rfl ?_) | (refine ⟨.inr rfl, ret_okj hj (by cbv) ?_ ?_⟩) | (refine ⟨.inl rfl, ret_okj hj (by cbv) ?_ ?_⟩) | (with_reducible first | refine ⟨(_, _, _, _), by cbv, ?_, ?_⟩ | refine ⟨_, by cbv, ?_, ?_⟩) | (with_reducible apply_assumption -symm -exfalso only [*]))
   all_goals ((try subst y_wnN); (try subst y_wnC); (try subst y_wiN); (try subst y_wiC); (try subst y_fiC); (try subst y_ltS); (try subst y_nC); (try subst y_nN))
   all_goals (try (repeat' first | with_reducible exact obl0 | (with_reducible refine obl1 ?_ ?_)))
   all_goals (try first | with_reducible exact True.intro | ((first | refine ob_le hj ?_ | refine ob_lei hj ?_ | refine ob_inb hj ?_ | refine ob_pos hj ?_ | refine ob_ne0 hj ?_ | refine ob_eqb hj ?_); (first | rfl | first | omega | (simp only [hj, std]; split <;> omega) | (simp (disch := omega) only [hj, std, cmpI, cmpB, satB, add64, sub64, ite0, pl0, pl2, pl3, sb0, if_true, if_false, eq_self] <;> omega) | (simp (disch := omega) [hj, std, cmpI, cmpB, satB, add64, sub64, ite0, pl0, pl2, pl3, sb0, if_true, if_false, eq_self] <;> omega))) | ((rw [if_neg (by simp)] at hwi; simp only [hj, std, eP]; rw [hwi, nN_eq, List.length_append, List.length_singleton, ← hN, ← nC_snoc, ← hD]; exact rfl)))
  ·generalize y_wnN : @wnN = x_wnN at *
   generalize y_wnC : @wnC = x_wnC at *
   generalize y_wiN : @wiN = x_wiN at *
   generalize y_wiC : @wiC = x_wiC at *
   generalize y_fiC : @fiC = x_fiC at *
   generalize y_ltS : @ltS = x_ltS at *
   generalize y_nC : @nC = x_nC at *
   generalize y_nN : @nN = x_nN at *
   (repeat' first | ((first | with_reducible refine tr_cut (fun h => ?_) (fun h => ?_) | refine aw_condj (by cbv) (fun h => ?_) (fun h => ?_)) <;> (try simp (disch := omega) only [hj, std, cmpI, cmpB, satB, Bool.not_eq_true, Bool.not_eq_false, decide_eq_true_eq, decide_eq_false_iff_not, beq_iff_eq, bne_iff_ne, bne_eq_false_iff_eq, beq_eq_false_iff_ne, ne_eq, reduceCtorEq, not_true_eq_false, not_false_eq_true, pl0, if_true, cmpS_eq, cmpS_neq, Bool.not_eq_eq_eq_not, Bool.not_true, Bool.not_false, Bool.not_eq_true', add64, sub64] at h) <;> (try (exfalso; omega))) | (with_reducible refine tr_alt (fun h => ?_) ?_ <;> (try (exfalso; omega))) | (with_reducible first | refine tr_ob ?_ ?_ | refine tr_done ?_) | (refine aw_tr hj tok (bookNm x_wnN x_wnC x_wiN x_wiC x_fiC x_ltS) (by cbv) ?_) | (refine aw_seq fun K hK => ?_) | (refine aw_tr1 hj tok (bookNm x_wnN x_wnC x_wiN x_wiC x_fiC x_ltS) (by cbv) ?_) | (refine aw_skip ?_) | (refine aw_block ?_) | (refine aw_exit ?_) | (refine aw_ret ⟨.inr rfl, ret_okj hj (by cbv) ?_ ?_⟩) | (refine aw_ret ?_) | (with_reducible first | refine th_n ?_ | refine th_r ?_ | refine th_x ?_ | refine blk_n ?_ | refine blk_r ?_ | refine blk_x ?_ | refine blk_y rfl ?_) | (refine ⟨.inr rfl, ret_okj hj (by cbv) ?_ ?_⟩) | (refine ⟨.inl rfl, ret_okj hj (by cbv) ?_ ?_⟩) | (with_reducible first | refine ⟨(_, _, _, _), by cbv, ?_, ?_⟩ | refine ⟨_, by cbv, ?_, ?_⟩) | (with_reducible apply_assumption -symm -exfalso only [*]))
   all_goals ((try subst y_wnN); (try subst y_wnC); (try subst y_wiN); (try subst y_wiC); (try subst y_fiC); (try subst y_ltS); (try subst y_nC); (try subst y_nN))
   all_goals (try (repeat' first | with_reducible exact obl0 | with_reducible refine obl1 ?_ ?_))
   all_goals (try first | with_reducible exact True.intro | ((first | refine ob_le hj ?_ | refine ob_lei hj ?_ | refine ob_inb hj ?_ | refine ob_pos hj ?_ | refine ob_ne0 hj ?_ | refine ob_eqb hj ?_); (first | rfl | first | omega | (simp only [hj, std]; split <;> omega) | (simp (disch := omega) only [hj, std, cmpI, cmpB, satB, add64, sub64, ite0, pl0, pl2, pl3, sb0, if_true, if_false, eq_self] <;> omega) | (simp (disch := omega) [hj, std, cmpI, cmpB, satB, add64, sub64, ite0, pl0, pl2, pl3, sb0, if_true, if_false, eq_self] <;> omega))) | ((rw [if_pos rfl] at hwi; rw [hwi, nN_eq, ← hN, ← hD]; exact rfl)))
end Go.Proofs.Ytnmlcfjljeccnaa.A
/- The reference of layer 9: something is done to a list of names. -/
set_option linter.unusedSimpArgs false
set_option linter.unusedVariables false
set_option maxRecDepth 100000
set_option maxHeartbeats 4000000
namespace Go.Proofs.Ytnmlcfjljeccnaa.A
open Go
def apL (l : List Nm) (kd : Int) (x y : ByteArray) (q : Int) : List Nm := if kd = 0 then wiL l x q else if kd = 1 then wonL l x else if findL l x < 0 then l else wiL (wonL l x) y (nAt l (findL l x).toNat).2
theorem c_with9 (l : List Nm) (x : ByteArray) (n : Int) (h : l.length ≤ 1000) (hx : x.size ≤ 1000) (hs : ∀ k, k < l.length → (nAt l k).1.size ≤ 1000) : pc 83 [.v false [.sl (nN l) (nC l)], .v false [vS x], .v false [vI n]] (ret1 (.own nT (wiN (nC l) x n) (wiC (nC l) x n))) := by
 refine ⟨enters Try.func83 (by kernel_rfl) (by kernel_rfl), ?_⟩
 unfold wiN wiC
 rw [nmsOf_nC]; exact pc_with9 l x n h hx hs
theorem findL_le (l : List Nm) (x : ByteArray) : -1 ≤ findL l x ∧ findL l x < l.length := by
 unfold findL
 split
 ·rename_i i hi
  have := (List.findIdx?_eq_some_iff_getElem.1 hi).1
  omega
 ·omega
theorem pc_Ap0 (l : List Nm) (x y : ByteArray) (q : Int) (h : l.length ≤ 999) (hx : x.size ≤ 1000) (hs : ∀ k, k < l.length → (nAt l k).1.size ≤ 1000) : PC Try.prog T 79 [.v false [.sl (nN l) (nC l)], .v true [vI 0, vS x, vS y, vI q]] (ret1 (.st (.sl (nN (wiL l x q)) (nC (wiL l x q))))) [] := by
 have cw := c_with9 l x q (by omega) hx hs
 have e1 : wiN (nC l) x q = nN (wiL l x q) := by unfold wiN; rw [nmsOf_nC]
 have e2 : wiC (nC l) x q = nC (wiL l x q) := by unfold wiC; rw [nmsOf_nC]
 have hv := nC_vals (wiL l x q)
 generalize nN (wiL l x q) = rn at *
 generalize nC (wiL l x q) = rc at *
 generalize nN l = m at *
 generalize nC l = es at *
 refine pc_of tok Try.func79 rfl (by rfl) ?_
 obtain ⟨j, hj⟩ : ∃ j : J, j = std Try.prog T := ⟨_, rfl⟩
 have hm : Try.prog.follows .mixedOrders = true := by kernel_rfl
 generalize y_wnN : @wnN = x_wnN at *
 generalize y_wnC : @wnC = x_wnC at *
 generalize y_wiN : @wiN = x_wiN at *
 generalize y_wiC : @wiC = x_wiC at *
 generalize y_fiC : @fiC = x_fiC at *
 generalize y_ltS : @ltS = x_ltS at *
 generalize y_nC : @nC = x_nC at *
 generalize y_nN : @nN = x_nN at *
 (repeat' first | (refine aw_retf hj [(4, .fz)] [] (by cbv) ?_) | ((first | with_reducible refine tr_cut (fun h => ?_) (fun h => ?_) | refine aw_condj (by cbv) (fun h => ?_) (fun h => ?_)) <;> (try simp (disch := omega) only [hj, std, cmpI, cmpB, satB, Bool.not_eq_true, Bool.not_eq_false, decide_eq_true_eq, decide_eq_false_iff_not, beq_iff_eq, bne_iff_ne, bne_eq_false_iff_eq, beq_eq_false_iff_ne, ne_eq, reduceCtorEq, not_true_eq_false, not_false_eq_true, pl0, if_true, cmpS_eq, cmpS_neq, Bool.not_eq_eq_eq_not, Bool.not_true, Bool.not_false, Bool.not_eq_true', add64, sub64] at h) <;> (try (exfalso; omega))) | (with_reducible refine tr_alt (fun h => ?_) ?_ <;> (try (exfalso; omega))) | (with_reducible first | refine tr_ob ?_ ?_ | refine tr_done ?_) | (refine aw_tr hj tok (bookNm x_wnN x_wnC x_wiN x_wiC x_fiC x_ltS) (by cbv) ?_) | (refine aw_seq fun K hK => ?_) | (refine aw_tr1 hj tok (bookNm x_wnN x_wnC x_wiN x_wiC x_fiC x_ltS) (by cbv) ?_) | (refine aw_skip ?_) | (refine aw_block ?_) | (refine aw_exit ?_) | (refine aw_ret ⟨.inr rfl, ret_okj hj (by cbv) ?_ ?_⟩) | (refine aw_ret ?_) | (with_reducible first | refine th_n ?_ | refine th_r ?_ | refine th_x ?_ | refine blk_n ?_ | refine blk_r ?_ | refine blk_x ?_ | refine blk_y rfl ?_) | (refine ⟨.inr rfl, ret_okj hj (by cbv) ?_ ?_⟩) | (refine ⟨.inl rfl, ret_okj hj (by cbv) ?_ ?_⟩) | (with_reducible apply_assumption -symm -exfalso only [*]))
 all_goals ((try subst y_wnN); (try subst y_wnC); (try subst y_wiN); (try subst y_wiC); (try subst y_fiC); (try subst y_ltS); (try subst y_nC); (try subst y_nN))
 all_goals (try (repeat' first | with_reducible exact obl0 | with_reducible refine obl1 ?_ ?_))
 all_goals (try first | with_reducible exact True.intro | ((first | refine ob_pc hj ?_ | refine ob_pcn hj ?_); (try rw [hj]); first | exact cw) | ((first | refine ob_le hj ?_ | refine ob_lei hj ?_ | refine ob_inb hj ?_ | refine ob_pos hj ?_ | refine ob_ne0 hj ?_ | refine ob_eqb hj ?_); (first | rfl | first | omega | (simp only [hj, std]; split <;> omega) | (simp (disch := omega) only [hj, std, cmpI, cmpB, satB, add64, sub64, ite0, pl0, pl2, pl3, sb0, if_true, if_false, eq_self] <;> omega) | (simp (disch := omega) [hj, std, cmpI, cmpB, satB, add64, sub64, ite0, pl0, pl2, pl3, sb0, if_true, if_false, eq_self] <;> omega))) | ((refine ob_vals hj ?_; rw [e2]; exact hv)) | ((rw [e1, e2]; exact rfl)))
theorem pc_Ap1 (l : List Nm) (x y : ByteArray) (q : Int) (h : l.length ≤ 999) : PC Try.prog T 79 [.v false [.sl (nN l) (nC l)], .v true [vI 1, vS x, vS y, vI q]] (ret1 (.st (.sl (nN (wonL l x)) (nC (wonL l x))))) [] := by
 have cw := c_won9 l x (by omega)
 have e1 : wnN (nC l) x = nN (wonL l x) := by unfold wnN; rw [nmsOf_nC]
 have e2 : wnC (nC l) x = nC (wonL l x) := by unfold wnC; rw [nmsOf_nC]
 have hv := nC_vals (wonL l x)
 generalize nN (wonL l x) = rn at *
 generalize nC (wonL l x) = rc at *
 generalize nN l = m at *
 generalize nC l = es at *
 refine pc_of tok Try.func79 rfl (by rfl) ?_
 obtain ⟨j, hj⟩ : ∃ j : J, j = std Try.prog T := ⟨_, rfl⟩
 have hm : Try.prog.follows .mixedOrders = true := by kernel_rfl
 generalize y_wnN : @wnN = x_wnN at *
 generalize y_wnC : @wnC = x_wnC at *
 generalize y_wiN : @wiN = x_wiN at *
 generalize y_wiC : @wiC = x_wiC at *
 generalize y_fiC : @fiC = x_fiC at *
 generalize y_ltS : @ltS = x_ltS at *
 generalize y_nC : @nC = x_nC at *
 generalize y_nN : @nN = x_nN at *
 (repeat' first | (refine aw_retf hj [(4, .fz)] [] (by cbv) ?_) | ((first | with_reducible refine tr_cut (fun h => ?_) (fun h => ?_) | refine aw_condj (by cbv) (fun h => ?_) (fun h => ?_)) <;> (try simp (disch := omega) only [hj, std, cmpI, cmpB, satB, Bool.not_eq_true, Bool.not_eq_false, decide_eq_true_eq, decide_eq_false_iff_not, beq_iff_eq, bne_iff_ne, bne_eq_false_iff_eq, beq_eq_false_iff_ne, ne_eq, reduceCtorEq, not_true_eq_false, not_false_eq_true, pl0, if_true, cmpS_eq, cmpS_neq, Bool.not_eq_eq_eq_not, Bool.not_true, Bool.not_false, Bool.not_eq_true', add64, sub64] at h) <;> (try (exfalso; omega))) | (with_reducible refine tr_alt (fun h => ?_) ?_ <;> (try (exfalso; omega))) | (with_reducible first | refine tr_ob ?_ ?_ | refine tr_done ?_) | (refine aw_tr hj tok (bookNm x_wnN x_wnC x_wiN x_wiC x_fiC x_ltS) (by cbv) ?_) | (refine aw_seq fun K hK => ?_) | (refine aw_tr1 hj tok (bookNm x_wnN x_wnC x_wiN x_wiC x_fiC x_ltS) (by cbv) ?_) | (refine aw_skip ?_) | (refine aw_block ?_) | (refine aw_exit ?_) | (refine aw_ret ⟨.inr rfl, ret_okj hj (by cbv) ?_ ?_⟩) | (refine aw_ret ?_) | (with_reducible first | refine th_n ?_ | refine th_r ?_ | refine th_x ?_ | refine blk_n ?_ | refine blk_r ?_ | refine blk_x ?_ | refine blk_y rfl ?_) | (refine ⟨.inr rfl, ret_okj hj (by cbv) ?_ ?_⟩) | (refine ⟨.inl rfl, ret_okj hj (by cbv) ?_ ?_⟩) | (with_reducible apply_assumption -symm -exfalso only [*]))
 all_goals ((try subst y_wnN); (try subst y_wnC); (try subst y_wiN); (try subst y_wiC); (try subst y_fiC); (try subst y_ltS); (try subst y_nC); (try subst y_nN))
 all_goals (try (repeat' first | with_reducible exact obl0 | with_reducible refine obl1 ?_ ?_))
 all_goals (try first | with_reducible exact True.intro | ((first | refine ob_pc hj ?_ | refine ob_pcn hj ?_); (try rw [hj]); first | exact cw) | ((first | refine ob_le hj ?_ | refine ob_lei hj ?_ | refine ob_inb hj ?_ | refine ob_pos hj ?_ | refine ob_ne0 hj ?_ | refine ob_eqb hj ?_); (first | rfl | first | omega | (simp only [hj, std]; split <;> omega) | (simp (disch := omega) only [hj, std, cmpI, cmpB, satB, add64, sub64, ite0, pl0, pl2, pl3, sb0, if_true, if_false, eq_self] <;> omega) | (simp (disch := omega) [hj, std, cmpI, cmpB, satB, add64, sub64, ite0, pl0, pl2, pl3, sb0, if_true, if_false, eq_self] <;> omega))) | ((refine ob_vals hj ?_; rw [e2]; exact hv)) | ((rw [e1, e2]; exact rfl)))
def mayL (l : List Nm) (kd : Int) (x : ByteArray) : Bool := cmpB .eql (cmpI .geq (findL l x) 0) (cmpI .neq kd 0)
theorem pc_May9 (l : List Nm) (kd q : Int) (x y : ByteArray) (h : l.length ≤ 1000) : PC Try.prog T 65 [.v false [.sl (nN l) (nC l)], .v true [vI kd, vS x, vS y, vI q]] (ret1 (.st (vB (mayL l kd x)))) [] := by
 have cw := c_Find9 l x h
 have e1 : fiC (nC l) x = findL l x := by unfold fiC; rw [nmsOf_nC]
 generalize nN l = m at *
 generalize nC l = es at *
 refine pc_of tok Try.func65 rfl (by rfl) ?_
 obtain ⟨j, hj⟩ : ∃ j : J, j = std Try.prog T := ⟨_, rfl⟩
 have hm : Try.prog.follows .mixedOrders = true := by kernel_rfl
 generalize y_wnN : @wnN = x_wnN at *
 generalize y_wnC : @wnC = x_wnC at *
 generalize y_wiN : @wiN = x_wiN at *
 generalize y_wiC : @wiC = x_wiC at *
 generalize y_fiC : @fiC = x_fiC at *
 generalize y_ltS : @ltS = x_ltS at *
 generalize y_nC : @nC = x_nC at *
 generalize y_nN : @nN = x_nN at *
 (repeat' first | (refine aw_frz 3 (by cbv) ?_) | ((first | with_reducible refine tr_cut (fun h => ?_) (fun h => ?_) | refine aw_condj (by cbv) (fun h => ?_) (fun h => ?_)) <;> (try simp (disch := omega) only [hj, std, cmpI, cmpB, satB, Bool.not_eq_true, Bool.not_eq_false, decide_eq_true_eq, decide_eq_false_iff_not, beq_iff_eq, bne_iff_ne, bne_eq_false_iff_eq, beq_eq_false_iff_ne, ne_eq, reduceCtorEq, not_true_eq_false, not_false_eq_true, pl0, if_true, cmpS_eq, cmpS_neq, Bool.not_eq_eq_eq_not, Bool.not_true, Bool.not_false, Bool.not_eq_true', add64, sub64] at h) <;> (try (exfalso; omega))) | (with_reducible refine tr_alt (fun h => ?_) ?_ <;> (try (exfalso; omega))) | (with_reducible first | refine tr_ob ?_ ?_ | refine tr_done ?_) | (refine aw_dc1 (id := 1) hj tok hm (bookNm x_wnN x_wnC x_wiN x_wiC x_fiC x_ltS) [0, 1, 2, 5, 6, 7] (.last 3 (.take 4 (.take 8 (.take 9 .done)))) (by kernel_rfl) (by cbv) ?_) | (refine aw_dc (id := 1) hj tok hm (bookNm x_wnN x_wnC x_wiN x_wiC x_fiC x_ltS) [0, 1, 2, 5, 6, 7] (.last 3 (.take 4 (.take 8 (.take 9 .done)))) (by kernel_rfl) (by cbv) ?_) | (refine aw_tr hj tok (bookNm x_wnN x_wnC x_wiN x_wiC x_fiC x_ltS) (by cbv) ?_) | (refine aw_seq fun K hK => ?_) | (refine aw_tr1 hj tok (bookNm x_wnN x_wnC x_wiN x_wiC x_fiC x_ltS) (by cbv) ?_) | (refine aw_skip ?_) | (refine aw_block ?_) | (refine aw_exit ?_) | (refine aw_ret ⟨.inr rfl, ret_okj hj (by cbv) ?_ ?_⟩) | (refine aw_ret ?_) | (with_reducible first | refine th_n ?_ | refine th_r ?_ | refine th_x ?_ | refine blk_n ?_ | refine blk_r ?_ | refine blk_x ?_ | refine blk_y rfl ?_) | (refine ⟨.inr rfl, ret_okj hj (by cbv) ?_ ?_⟩) | (refine ⟨.inl rfl, ret_okj hj (by cbv) ?_ ?_⟩) | (with_reducible apply_assumption -symm -exfalso only [*]))
 all_goals ((try subst y_wnN); (try subst y_wnC); (try subst y_wiN); (try subst y_wiC); (try subst y_fiC); (try subst y_ltS); (try subst y_nC); (try subst y_nN))
 all_goals (try (repeat' first | with_reducible exact obl0 | with_reducible refine obl1 ?_ ?_))
 all_goals (try first | with_reducible exact True.intro | ((first | refine ob_pc hj ?_ | refine ob_pcn hj ?_); (try rw [hj]); first | exact cw) | ((first | refine ob_le hj ?_ | refine ob_lei hj ?_ | refine ob_inb hj ?_ | refine ob_pos hj ?_ | refine ob_ne0 hj ?_ | refine ob_eqb hj ?_); (first | rfl | first | omega | (simp only [hj, std]; split <;> omega) | (simp (disch := omega) only [hj, std, cmpI, cmpB, satB, add64, sub64, ite0, pl0, pl2, pl3, sb0, if_true, if_false, eq_self] <;> omega) | (simp (disch := omega) [hj, std, cmpI, cmpB, satB, add64, sub64, ite0, pl0, pl2, pl3, sb0, if_true, if_false, eq_self] <;> omega))) | ((refine ob_ok hj ?_; rw [hj]; exact ⟨_, rfl⟩)) | ((unfold mayL; rw [hj, ← e1]; first | done | exact rfl)))
theorem pc_Ap2 (l : List Nm) (kd : Int) (x y : ByteArray) (q : Int) (k0 : kd ≠ 0) (k1 : kd ≠ 1) (h : l.length ≤ 999) (hx : x.size ≤ 1000) (hy : y.size ≤ 1000) (hs : ∀ k, k < l.length → (nAt l k).1.size ≤ 1000) : PC Try.prog T 79 [.v false [.sl (nN l) (nC l)], .v true [vI kd, vS x, vS y, vI q]] (ret1 (.st (.sl (nN (apL l kd x y q)) (nC (apL l kd x y q))))) [] := by
  have hap : apL l kd x y q = if findL l x < 0 then l else wiL (wonL l x) y (nAt l (findL l x).toNat).2 := by unfold apL; rw [if_neg k0, if_neg k1]
  have cf := c_Find9 l x (by omega)
  have cw := c_won9 l x (by omega)
  have hwl := won_le l x
  have ci := c_with9 (wonL l x) y (nAt l (findL l x).toNat).2 (by omega) hy (fun k hk => by
    rw [nAt_get hk]
    have hp := (List.mem_filter.1 (List.getElem_mem hk)).1
    obtain ⟨i, hi, he⟩ := List.mem_iff_getElem.1 hp
    rw [← he, ← nAt_get hi]; exact hs i hi)
  have e0 : fiC (nC l) x = findL l x := by unfold fiC; rw [nmsOf_nC]
  have e1 : wnN (nC l) x = nN (wonL l x) := by unfold wnN; rw [nmsOf_nC]
  have e2 : wnC (nC l) x = nC (wonL l x) := by unfold wnC; rw [nmsOf_nC]
  have e3 : wiN (nC (wonL l x)) y (nAt l (findL l x).toNat).2 = nN (wiL (wonL l x) y (nAt l (findL l x).toNat).2) := by unfold wiN; rw [nmsOf_nC]
  have e4 : wiC (nC (wonL l x)) y (nAt l (findL l x).toNat).2 = nC (wiL (wonL l x) y (nAt l (findL l x).toNat).2) := by unfold wiC; rw [nmsOf_nC]
  have hv := nC_vals (wiL (wonL l x) y (nAt l (findL l x).toNat).2)
  have hv2 := nC_vals (wonL l x)
  have hl := nC_len l
  have hn := nN_eq l
  have hf := findL_le l x
  have ha := nC_at l (findL l x).toNat
  rcases Decidable.em (findL l x < 0) with hn0 | hn0
  · rw [hap, if_pos hn0]
    clear ci e3 e4 hv hv2 ha hap
    generalize nN l = m at *
    generalize nC l = es at *
    refine pc_of tok Try.func79 rfl (by rfl) ?_
    obtain ⟨j, hj⟩ : ∃ j : J, j = std Try.prog T := ⟨_, rfl⟩
    have hm : Try.prog.follows .mixedOrders = true := by kernel_rfl
    generalize y_wnN : @wnN = x_wnN at *
    generalize y_wnC : @wnC = x_wnC at *
    generalize y_wiN : @wiN = x_wiN at *
    generalize y_wiC : @wiC = x_wiC at *
    generalize y_fiC : @fiC = x_fiC at *
    generalize y_ltS : @ltS = x_ltS at *
    generalize y_nC : @nC = x_nC at *
    generalize y_nN : @nN = x_nN at *
    (repeat' first | (refine aw_retf hj [(4, .keep)] [] (by cbv) ?_) | ((first | with_reducible refine tr_cut (fun h => ?_) (fun h => ?_) | refine aw_condj (by cbv) (fun h => ?_) (fun h => ?_)) <;> (try simp (disch := omega) only [hj, std, cmpI, cmpB, satB, Bool.not_eq_true, Bool.not_eq_false, decide_eq_true_eq, decide_eq_false_iff_not, beq_iff_eq, bne_iff_ne, bne_eq_false_iff_eq, beq_eq_false_iff_ne, ne_eq, reduceCtorEq, not_true_eq_false, not_false_eq_true, pl0, if_true, cmpS_eq, cmpS_neq, Bool.not_eq_eq_eq_not, Bool.not_true, Bool.not_false, Bool.not_eq_true', add64, sub64] at h) <;> (try (exfalso; omega))) | (with_reducible refine tr_alt (fun h => ?_) ?_ <;> (try (exfalso; omega))) | (with_reducible first | refine tr_ob ?_ ?_ | refine tr_done ?_) | (refine aw_dc1 (id := 8) hj tok hm (bookNm x_wnN x_wnC x_wiN x_wiC x_fiC x_ltS) [0, 1, 2, 4, 5, 6, 7, 8, 9, 10] (.last 3 (.last 11 (.take 12 .done))) (by kernel_rfl) (by cbv) ?_) | (refine aw_dc (id := 8) hj tok hm (bookNm x_wnN x_wnC x_wiN x_wiC x_fiC x_ltS) [0, 1, 2, 4, 5, 6, 7, 8, 9, 10] (.last 3 (.last 11 (.take 12 .done))) (by kernel_rfl) (by cbv) ?_) | (refine aw_tr hj tok (bookNm x_wnN x_wnC x_wiN x_wiC x_fiC x_ltS) (by cbv) ?_) | (refine aw_seq fun K hK => ?_) | (refine aw_tr1 hj tok (bookNm x_wnN x_wnC x_wiN x_wiC x_fiC x_ltS) (by cbv) ?_) | (refine aw_skip ?_) | (refine aw_block ?_) | (refine aw_exit ?_) | (refine aw_ret ⟨.inr rfl, ret_okj hj (by cbv) ?_ ?_⟩) | (refine aw_ret ?_) | (with_reducible first | refine th_n ?_ | refine th_r ?_ | refine th_x ?_ | refine blk_n ?_ | refine blk_r ?_ | refine blk_x ?_ | refine blk_y rfl ?_) | (refine ⟨.inr rfl, ret_okj hj (by cbv) ?_ ?_⟩) | (refine ⟨.inl rfl, ret_okj hj (by cbv) ?_ ?_⟩) | (with_reducible apply_assumption -symm -exfalso only [*]))
    all_goals ((try subst y_wnN); (try subst y_wnC); (try subst y_wiN); (try subst y_wiC); (try subst y_fiC); (try subst y_ltS); (try subst y_nC); (try subst y_nN))
    all_goals (try (repeat' first | with_reducible exact obl0 | (with_reducible refine obl1 ?_ ?_)))
    all_goals (try first | with_reducible exact True.intro | ((first | refine ob_pc hj ?_ | refine ob_pcn hj ?_); (try rw [hj]); first | exact cf) | ((first | refine ob_le hj ?_ | refine ob_lei hj ?_ | refine ob_inb hj ?_ | refine ob_pos hj ?_ | refine ob_ne0 hj ?_ | refine ob_eqb hj ?_); (first | rfl | first | omega | (simp only [hj, std]; split <;> omega) | (simp (disch := omega) only [hj, std, cmpI, cmpB, satB, add64, sub64, ite0, pl0, pl2, pl3, sb0, if_true, if_false, eq_self, e0] <;> omega) | (simp (disch := omega) [hj, std, cmpI, cmpB, satB, add64, sub64, ite0, pl0, pl2, pl3, sb0, if_true, if_false, eq_self, e0] <;> omega))) | (exact rfl))
  · rw [hap, if_neg hn0]
    obtain ⟨a0, a1⟩ := ha (by omega)
    clear hap hs ha
    refine pc_of tok Try.func79 rfl (by rfl) ?_
    obtain ⟨j, hj⟩ : ∃ j : J, j = std Try.prog T := ⟨_, rfl⟩
    have hm : Try.prog.follows .mixedOrders = true := by kernel_rfl
    generalize y_wnN : @wnN = x_wnN at *
    generalize y_wnC : @wnC = x_wnC at *
    generalize y_wiN : @wiN = x_wiN at *
    generalize y_wiC : @wiC = x_wiC at *
    generalize y_fiC : @fiC = x_fiC at *
    generalize y_ltS : @ltS = x_ltS at *
    generalize y_nC : @nC = x_nC at *
    generalize y_nN : @nN = x_nN at *
    (repeat' first | ((first | with_reducible refine tr_cut (fun h => ?_) (fun h => ?_) | refine aw_condj (by cbv) (fun h => ?_) (fun h => ?_)) <;> (try simp (disch := omega) only [hj, std, cmpI, cmpB, satB, Bool.not_eq_true, Bool.not_eq_false, decide_eq_true_eq, decide_eq_false_iff_not, beq_iff_eq, bne_iff_ne, bne_eq_false_iff_eq, beq_eq_false_iff_ne, ne_eq, reduceCtorEq, not_true_eq_false, not_false_eq_true, pl0, if_true, cmpS_eq, cmpS_neq, Bool.not_eq_eq_eq_not, Bool.not_true, Bool.not_false, Bool.not_eq_true', add64, sub64] at h) <;> (try (exfalso; omega))) | (with_reducible refine tr_alt (fun h => ?_) ?_ <;> (try (exfalso; omega))) | (with_reducible first | refine tr_ob ?_ ?_ | refine tr_done ?_) | (refine aw_tr hj tok (bookNm x_wnN x_wnC x_wiN x_wiC x_fiC x_ltS) (by cbv) ?_) | (refine aw_seq fun K hK => ?_) | (refine aw_tr1 hj tok (bookNm x_wnN x_wnC x_wiN x_wiC x_fiC x_ltS) (by cbv) ?_) | (refine aw_skip ?_) | (refine aw_block ?_) | (refine aw_exit ?_) | (refine aw_ret ⟨.inr rfl, ret_okj hj (by cbv) ?_ ?_⟩) | (refine aw_ret ?_) | (with_reducible first | refine th_n ?_ | refine th_r ?_ | refine th_x ?_ | refine blk_n ?_ | refine blk_r ?_ | refine blk_x ?_ | refine blk_y rfl ?_) | (refine ⟨.inr rfl, ret_okj hj (by cbv) ?_ ?_⟩) | (refine ⟨.inl rfl, ret_okj hj (by cbv) ?_ ?_⟩) | (with_reducible apply_assumption -symm -exfalso only [*]))
    all_goals ((try subst y_wnN); (try subst y_wnC); (try subst y_wiN); (try subst y_wiC); (try subst y_fiC); (try subst y_ltS); (try subst y_nC); (try subst y_nN))
    all_goals (try (repeat' first | with_reducible exact obl0 | (with_reducible refine obl1 ?_ ?_)))
    all_goals (try first | with_reducible exact True.intro | ((first | refine ob_pc hj ?_ | refine ob_pcn hj ?_); (try rw [hj]); first | exact cf) | ((first | refine ob_le hj ?_ | refine ob_lei hj ?_ | refine ob_inb hj ?_ | refine ob_pos hj ?_ | refine ob_ne0 hj ?_ | refine ob_eqb hj ?_); (first | rfl | first | omega | (simp only [hj, std]; split <;> omega) | (simp (disch := omega) only [hj, std, cmpI, cmpB, satB, add64, sub64, ite0, pl0, pl2, pl3, sb0, if_true, if_false, eq_self, e0] <;> omega) | (simp (disch := omega) [hj, std, cmpI, cmpB, satB, add64, sub64, ite0, pl0, pl2, pl3, sb0, if_true, if_false, eq_self, e0] <;> omega))))
    rw [e0]
    generalize nC (wonL l x) = wc at *
    generalize nN (wonL l x) = wn at *
    generalize wiL (wonL l x) y (nAt l (findL l x).toNat).2 = R at *
    generalize nAt l (findL l x).toNat = p at *
    generalize nC l = es at *
    generalize nN l = m at *
    generalize findL l x = fi at *
    have eP : ∀ q : Nat, (if q = 0 then 1 else q + 1) = q + 1 := fun q => by split <;> omega
    have g1 : gi (cellAt es (fi.toNat * 2 + 1)) = p.2 := by rw [a1]; rfl
    rw [← g1] at ci e3 e4
    rw [← e2] at hv2
    rw [← e1, ← e2] at ci
    rw [← e2] at e3 e4
    rw [← e4] at hv
    clear e1 e2
    generalize y_wnN : @wnN = x_wnN at *
    generalize y_wnC : @wnC = x_wnC at *
    generalize y_wiN : @wiN = x_wiN at *
    generalize y_wiC : @wiC = x_wiC at *
    generalize y_fiC : @fiC = x_fiC at *
    generalize y_ltS : @ltS = x_ltS at *
    generalize y_nC : @nC = x_nC at *
    generalize y_nN : @nN = x_nN at *
    (repeat' first | (refine aw_frz 3 (by cbv) ?_) | (refine aw_retf hj [(4, .fz)] [] (by cbv) ?_) | ((first | with_reducible refine tr_cut (fun h => ?_) (fun h => ?_) | refine aw_condj (by cbv) (fun h => ?_) (fun h => ?_)) <;> (try simp (disch := omega) only [hj, std, cmpI, cmpB, satB, Bool.not_eq_true, Bool.not_eq_false, decide_eq_true_eq, decide_eq_false_iff_not, beq_iff_eq, bne_iff_ne, bne_eq_false_iff_eq, beq_eq_false_iff_ne, ne_eq, reduceCtorEq, not_true_eq_false, not_false_eq_true, pl0, if_true, cmpS_eq, cmpS_neq, Bool.not_eq_eq_eq_not, Bool.not_true, Bool.not_false, Bool.not_eq_true', add64, sub64] at h) <;> (try (exfalso; omega))) | (with_reducible refine tr_alt (fun h => ?_) ?_ <;> (try (exfalso; omega))) | (with_reducible first | refine tr_ob ?_ ?_ | refine tr_done ?_) | (refine aw_dc1 (id := 8) hj tok hm (bookNm x_wnN x_wnC x_wiN x_wiC x_fiC x_ltS) [0, 1, 2, 4, 5, 6, 7, 8, 9, 10] (.last 3 (.last 11 (.take 12 .done))) (by kernel_rfl) (by cbv) ?_) | (refine aw_dc (id := 8) hj tok hm (bookNm x_wnN x_wnC x_wiN x_wiC x_fiC x_ltS) [0, 1, 2, 4, 5, 6, 7, 8, 9, 10] (.last 3 (.last 11 (.take 12 .done))) (by kernel_rfl) (by cbv) ?_) | (refine aw_tr hj tok (bookNm x_wnN x_wnC x_wiN x_wiC x_fiC x_ltS) (by cbv) ?_) | (refine aw_seq fun K hK => ?_) | (refine aw_tr1 hj tok (bookNm x_wnN x_wnC x_wiN x_wiC x_fiC x_ltS) (by cbv) ?_) | (refine aw_skip ?_) | (refine aw_block ?_) | (refine aw_exit ?_) | (refine aw_ret ⟨.inr rfl, ret_okj hj (by cbv) ?_ ?_⟩) | (refine aw_ret ?_) | (with_reducible first | refine th_n ?_ | refine th_r ?_ | refine th_x ?_ | refine blk_n ?_ | refine blk_r ?_ | refine blk_x ?_ | refine blk_y rfl ?_) | (refine ⟨.inr rfl, ret_okj hj (by cbv) ?_ ?_⟩) | (refine ⟨.inl rfl, ret_okj hj (by cbv) ?_ ?_⟩) | (with_reducible apply_assumption -symm -exfalso only [*]))
    all_goals ((try subst y_wnN); (try subst y_wnC); (try subst y_wiN); (try subst y_wiC); (try subst y_fiC); (try subst y_ltS); (try subst y_nC); (try subst y_nN))
    all_goals (try (repeat' first | with_reducible exact obl0 | with_reducible refine obl1 ?_ ?_))
    all_goals (try first | with_reducible exact True.intro | ((first | refine ob_pc hj ?_ | refine ob_pcn hj ?_); (try rw [hj]); first | exact cw | (simp only [std, eP]; exact ci)) | ((first | refine ob_le hj ?_ | refine ob_lei hj ?_ | refine ob_inb hj ?_ | refine ob_pos hj ?_ | refine ob_ne0 hj ?_ | refine ob_eqb hj ?_); (first | rfl | first | omega | (simp only [hj, std]; split <;> omega) | (simp (disch := omega) only [hj, std, cmpI, cmpB, satB, add64, sub64, ite0, pl0, pl2, pl3, sb0, if_true, if_false, eq_self, e0, hl, hn] <;> omega) | (simp (disch := omega) [hj, std, cmpI, cmpB, satB, add64, sub64, ite0, pl0, pl2, pl3, sb0, if_true, if_false, eq_self, e0, hl, hn] <;> omega))) | ((refine ob_ok hj ?_; (try rw [hj]); first | exact ⟨_, a0⟩ | exact ⟨_, a1⟩ | exact ⟨_, rfl⟩ | (simp only [std, eP]; exact ⟨_, a1⟩))) | ((refine ob_vals hj ?_; rw [hj]; simp only [std, eP]; first | exact hv2 | exact hv)) | ((rw [hj, ← e3, ← e4]; simp only [std, eP]; first | done | exact rfl)))
    · refine ob_ok hj ?_
      rw [hj]
      show okK (.int .i64) (cellAt es (if fi.toNat * 2 = 0 then 1 else fi.toNat * 2 + 1))
      rw [eP]
      exact ⟨_, a1⟩
    · have ci2 : pc 83 [.v false [.sl (wnN es x) (wnC es x)], .v false [vS y], .v false [vI (gi (cellAt es (if fi.toNat * 2 = 0 then 1 else fi.toNat * 2 + 1)))]] (ret1 (.own nT (wiN (wnC es x) y (gi (cellAt es (if fi.toNat * 2 = 0 then 1 else fi.toNat * 2 + 1)))) (wiC (wnC es x) y (gi (cellAt es (if fi.toNat * 2 = 0 then 1 else fi.toNat * 2 + 1)))))) := by rw [eP]; exact ci
      refine ob_pc hj ?_
      rw [hj]
      exact ci2
    · have hv3 : ∀ c ∈ wiC (wnC es x) y (gi (cellAt es (if fi.toNat * 2 = 0 then 1 else fi.toNat * 2 + 1))), ∃ v, c = C.val v := by rw [eP]; exact hv
      refine ob_vals hj ?_
      rw [hj]
      exact hv3
    · have e5 : wiN (wnC es x) y (gi (cellAt es (if fi.toNat * 2 = 0 then 1 else fi.toNat * 2 + 1))) = nN R := by rw [eP]; exact e3
      have e6 : wiC (wnC es x) y (gi (cellAt es (if fi.toNat * 2 = 0 then 1 else fi.toNat * 2 + 1))) = nC R := by rw [eP]; exact e4
      rw [hj, ← e5, ← e6]
      exact rfl
end Go.Proofs.Ytnmlcfjljeccnaa.A
/- The reference of layer 9: Apply for every kind; how great a list becomes. -/
set_option linter.unusedSimpArgs false
set_option linter.unusedVariables false
set_option maxRecDepth 100000
set_option maxHeartbeats 4000000
namespace Go.Proofs.Ytnmlcfjljeccnaa.A
open Go
theorem put_mem {x : ByteArray} {n : Int} {p : Nm} : ∀ (l : List Nm) (s : List Nm × Bool), p ∈ (l.foldl (putSt x n) s).1 → p ∈ s.1 ∨ p ∈ l ∨ p = (x, n)
 | [], s, h => .inl h
 | a :: l, s, h => by
  rw [List.foldl_cons] at h
  rcases put_mem l _ h with h | h | h
  ·unfold putSt at h
   split at h
   ·rcases List.mem_append.1 h with h | h
    ·exact .inl h
    ·rcases List.mem_cons.1 h with h | h
     ·exact .inr (.inr h)
     ·exact .inr (.inl (by rw [List.mem_singleton.1 h]; exact List.mem_cons_self ..))
   ·rcases List.mem_append.1 h with h | h
    ·exact .inl h
    ·exact .inr (.inl (by rw [List.mem_singleton.1 h]; exact List.mem_cons_self ..))
  ·exact .inr (.inl (List.mem_cons_of_mem _ h))
  ·exact .inr (.inr h)
theorem wi_mem {l : List Nm} {x : ByteArray} {n : Int} {p : Nm} (h : p ∈ wiL l x n) : p ∈ l ∨ p = (x, n) := by
 have hw : ∀ q ∈ wonL l x, q ∈ l := fun q hq => (List.mem_filter.1 hq).1
 have hp : ∀ q, q ∈ (putL (wonL l x) x n).1 → q ∈ l ∨ q = (x, n) := fun q hq => by
  rcases put_mem _ _ hq with h | h | h
  ·exact absurd h (by simp)
  ·exact .inl (hw _ h)
  ·exact .inr h
 unfold wiL at h
 split at h
 ·exact hp _ h
 ·rcases List.mem_append.1 h with h | h
  ·exact hp _ h
  ·exact .inr (List.mem_singleton.1 h)
theorem wi_len (l : List Nm) (x : ByteArray) (n : Int) : (wiL l x n).length ≤ l.length + 2 := by
 have h1 : (putL (wonL l x) x n).1.length ≤ 0 + (wonL l x).length + 1 := put_le x n (wonL l x) ([], false)
 have h2 := won_le l x
 unfold wiL
 split
 ·omega
 ·rw [List.length_append, List.length_singleton]; omega
theorem ap_len (l : List Nm) (kd : Int) (x y : ByteArray) (q : Int) : (apL l kd x y q).length ≤ l.length + 2 := by
 unfold apL
 split
 ·exact wi_len ..
 ·split
  ·have := won_le l x; omega
  ·split
   ·omega
   ·have := wi_len (wonL l x) y (nAt l (findL l x).toNat).2
    have := won_le l x; omega
theorem ap_mem {l : List Nm} {kd : Int} {x y : ByteArray} {q : Int} {p : Nm} (h : p ∈ apL l kd x y q) : p ∈ l ∨ p.1 = x ∨ p.1 = y := by
 unfold apL at h
 split at h
 ·rcases wi_mem h with h | h
  ·exact .inl h
  ·exact .inr (.inl (by rw [h]))
 ·split at h
  ·exact .inl (List.mem_filter.1 h).1
  ·split at h
   ·exact .inl h
   ·rcases wi_mem h with h | h
    ·exact .inl (List.mem_filter.1 h).1
    ·exact .inr (.inr (by rw [h]))
def SzN (l : List Nm) : Prop := ∀ p ∈ l, p.1.size ≤ 1000
theorem SzN.ap {l : List Nm} (h : SzN l) {kd : Int} {x y : ByteArray} {q : Int} (hx : x.size ≤ 1000) (hy : y.size ≤ 1000) : SzN (apL l kd x y q) := fun p hp => by
 rcases ap_mem hp with h1 | h1 | h1
 ·exact h p h1
 ·rw [h1]; exact hx
 ·rw [h1]; exact hy
def aqN (cs : List C) (kd : Int) (x y : ByteArray) (q : Int) : Nat := nN (apL (nmsOf cs) kd x y q)
def aqC (cs : List C) (kd : Int) (x y : ByteArray) (q : Int) : List C := nC (apL (nmsOf cs) kd x y q)
theorem c_Apply9 (l : List Nm) (kd : Int) (x y : ByteArray) (q : Int) (h : l.length ≤ 999) (hx : x.size ≤ 1000) (hy : y.size ≤ 1000) (hs : SzN l) : pc 79 [.v false [.sl (nN l) (nC l)], .v true [vI kd, vS x, vS y, vI q]] (ret1 (.st (.sl (aqN (nC l) kd x y q) (aqC (nC l) kd x y q)))) := by
 refine ⟨enters Try.func79 (by kernel_rfl) (by kernel_rfl), ?_⟩
 have hs2 : ∀ k, k < l.length → (nAt l k).1.size ≤ 1000 := fun k hk => by rw [nAt_get hk]; exact hs _ (List.getElem_mem hk)
 unfold aqN aqC
 rw [nmsOf_nC]
 rcases Decidable.em (kd = 0) with k0 | k0
 ·subst k0
  have e : apL l 0 x y q = wiL l x q := by unfold apL; rw [if_pos rfl]
  rw [e]; exact pc_Ap0 l x y q h hx hs2
 ·rcases Decidable.em (kd = 1) with k1 | k1
  ·subst k1
   have e : apL l 1 x y q = wonL l x := by unfold apL; rw [if_neg (by decide), if_pos rfl]
   rw [e]; exact pc_Ap1 l x y q h
  ·exact pc_Ap2 l kd x y q k0 k1 h hx hy hs2
end Go.Proofs.Ytnmlcfjljeccnaa.A
/- The reference of layer 9: a crash. -/
set_option linter.unusedSimpArgs false
set_option linter.unusedVariables false
set_option maxRecDepth 100000
set_option maxHeartbeats 4000000
namespace Go.Proofs.Ytnmlcfjljeccnaa.A
open Go
def crN9 (l : List Nm) (os : List C) : Nat → List Nm
 | 0 => l
 | i + 1 => apL (crN9 l os i) (gi (cellAt os (i * 4))) (gs (cellAt os (i * 4 + 1))) (gs (cellAt os (i * 4 + 2))) (gi (cellAt os (i * 4 + 3)))
def opSz (n : Nat) (os : List C) : Prop := ∀ i, i < n → (gs (cellAt os (i * 4 + 1))).size ≤ 1000 ∧ (gs (cellAt os (i * 4 + 2))).size ≤ 1000
theorem crN9_len (l : List Nm) (os : List C) (i : Nat) : (crN9 l os i).length ≤ l.length + 2 * i := by
 induction i with
 | zero => exact Nat.le_refl _
 | succ i ih => exact Nat.le_trans (ap_len ..) (by omega)
theorem crN9_sz {l : List Nm} {os : List C} {n : Nat} (h : SzN l) (ho : opSz n os) (i : Nat) (hi : i ≤ n) : SzN (crN9 l os i) := by
 induction i with
 | zero => exact h
 | succ i ih => exact (ih (by omega)).ap (ho i (by omega)).1 (ho i (by omega)).2
def bookCr (x_aqN : List C → Int → ByteArray → ByteArray → Int → Nat) (x_aqC : List C → Int → ByteArray → ByteArray → Int → List C) : Book := fun f xs => match f, xs with
 | 79, [.v false [.sl n cs], .v true [.val (.int _ kd), .val (.string x), .val (.string y), .val (.int _ q)]] => some (ret1 (.st (.sl (x_aqN cs kd x y q) (x_aqC cs kd x y q))), [])
 | _, _ => none
theorem pc_RCrash9 (n kn kp n0 : Nat) (cs0 os ks : List C) (l : List Nm) (hn : n ≤ 100) (hl5 : l.length ≤ 500) (hz : SzN l) (ho : opOk n os) (hoz : opSz n os) (hb : kn ≤ 140737488355328) (hk : ks.length = kn) (hkb : ∀ i, i < kn → okK .bool (cellAt ks i)) (p1 : kp ≤ n) (p2 : ∀ i, i < kp → i < kn ∧ gb (cellAt ks i) = true) (p3 : kp = n ∨ ¬ (kp < kn ∧ gb (cellAt ks kp) = true)) :
  PC Try.prog T 63 [.v true [.sl n0 cs0, .sl (nN l) (nC l), .sl n os], .v false [.sl kn ks]] ⟨false, [(true, [.st (.sl (nN (crN9 l os kp)) (nC (crN9 l os kp))), .st (.sl (nN (crN9 l os kp)) (nC (crN9 l os kp))), .st .nil])]⟩ [] := by
 have hl := ho.1
 refine pc_of tok Try.func63 rfl (by rfl) ?_
 obtain ⟨j, hj⟩ : ∃ j : J, j = std Try.prog T := ⟨_, rfl⟩
 have hm : Try.prog.follows .mixedOrders = true := by kernel_rfl
 generalize y_aqN : @aqN = x_aqN at *
 generalize y_aqC : @aqC = x_aqC at *
 generalize y_nC : @nC = x_nC at *
 generalize y_nN : @nN = x_nN at *
 (repeat' first | ((first | with_reducible refine tr_cut (fun h => ?_) (fun h => ?_) | refine aw_condj (by cbv) (fun h => ?_) (fun h => ?_)) <;> (try simp (disch := omega) only [hj, std, cmpI, cmpB, satB, Bool.not_eq_true, Bool.not_eq_false, decide_eq_true_eq, decide_eq_false_iff_not, beq_iff_eq, bne_iff_ne, bne_eq_false_iff_eq, beq_eq_false_iff_ne, ne_eq, reduceCtorEq, not_true_eq_false, not_false_eq_true, pl0, if_true, cmpS_eq, cmpS_neq, Bool.not_eq_eq_eq_not, Bool.not_true, Bool.not_false, Bool.not_eq_true', add64, sub64] at h) <;> (try (exfalso; omega))) | (with_reducible refine tr_alt (fun h => ?_) ?_ <;> (try (exfalso; omega))) | (with_reducible first | refine tr_ob ?_ ?_ | refine tr_done ?_) | (refine aw_tr hj tok (bookCr x_aqN x_aqC) (by cbv) ?_) | (refine aw_seq fun K hK => ?_) | (refine aw_tr1 hj tok (bookCr x_aqN x_aqC) (by cbv) ?_) | (refine aw_skip ?_) | (refine aw_block ?_) | (refine aw_exit ?_) | (refine aw_ret ⟨.inr rfl, ret_okj hj (by cbv) ?_ ?_⟩) | (refine aw_ret ?_) | (with_reducible first | refine th_n ?_ | refine th_r ?_ | refine th_x ?_ | refine blk_n ?_ | refine blk_r ?_ | refine blk_x ?_ | refine blk_y rfl ?_) | (refine ⟨.inr rfl, ret_okj hj (by cbv) ?_ ?_⟩) | (refine ⟨.inl rfl, ret_okj hj (by cbv) ?_ ?_⟩) | (with_reducible first | refine ⟨(_, _, _), by cbv, ?_, ?_⟩ | refine ⟨_, by cbv, ?_, ?_⟩) | (with_reducible apply_assumption -symm -exfalso only [*]))
 all_goals ((try subst y_aqN); (try subst y_aqC); (try subst y_nC); (try subst y_nN))
 all_goals (try (repeat' first | with_reducible exact obl0 | (with_reducible refine obl1 ?_ ?_)))
 all_goals (try first | with_reducible exact True.intro | ((first | refine ob_le hj ?_ | refine ob_lei hj ?_ | refine ob_inb hj ?_ | refine ob_pos hj ?_ | refine ob_ne0 hj ?_ | refine ob_eqb hj ?_); (first | rfl | first | omega | (simp only [hj, std]; split <;> omega) | (simp (disch := omega) only [hj, std, cmpI, cmpB, satB, add64, sub64, ite0, pl0, pl2, pl3, sb0, if_true, if_false, eq_self] <;> omega) | (simp (disch := omega) [hj, std, cmpI, cmpB, satB, add64, sub64, ite0, pl0, pl2, pl3, sb0, if_true, if_false, eq_self] <;> omega))))
 refine aw_lpj hj [(1, .keep), (2, .keep), (4, .keep), (5, .keep), (6, .keep)] [2, 4] (fun (⟨M, E, i⟩ : Nat × (List C) × Int) => stOf 38 [(1, .one (.c (.sl kn ks))), (2, .one (.ptr 2 0)), (4, .one (.ptr 4 0)), (5, .one (.c (.sl M E))), (6, .one (.c (vI i)))] [(2, .box [.st (.sl n0 cs0), .st (.sl (nN l) (nC l)), .st (.sl n os)]), (4, .box [.st .nil, .st .nil, .st .nil])]) (fun (⟨M, E, i⟩ : Nat × (List C) × Int) => n - i.toNat) (fun (⟨M, E, i⟩ : Nat × (List C) × Int) => 0 ≤ i ∧ i ≤ kp ∧ M = nN (crN9 l os i.toNat) ∧ E = nC (crN9 l os i.toNat)) ((nN l, nC l, 0)) (by generalize @aqN = x_aqN; generalize @aqC = x_aqC; generalize @nC = x_nC; generalize @nN = x_nN; cbv) ?_ (fun ⟨M, E, i⟩ hI => ?_)
 ·exact ⟨by omega, by omega, rfl, rfl⟩
 obtain ⟨i1, i2, hM, hE⟩ := hI
 rcases Decidable.em (i < (kp : Int)) with hi | hi
 ·obtain ⟨q1, q2⟩ := p2 i.toNat (by omega)
  obtain ⟨o0, o1, o2, o3⟩ := ho.2 i.toNat (by omega)
  obtain ⟨z1, z2⟩ := hoz i.toNat (by omega)
  have hkk := hkb i.toNat q1
  have f1 : (i + 1).toNat = i.toNat + 1 := by omega
  have hlen := crN9_len l os i.toNat
  have cA := c_Apply9 (crN9 l os i.toNat) (gi (cellAt os (i.toNat * 4))) (gs (cellAt os (i.toNat * 4 + 1))) (gs (cellAt os (i.toNat * 4 + 2))) (gi (cellAt os (i.toNat * 4 + 3))) (by omega) z1 z2 (crN9_sz hz hoz _ (by omega))
  have e1 : aqN (nC (crN9 l os i.toNat)) (gi (cellAt os (i.toNat * 4))) (gs (cellAt os (i.toNat * 4 + 1))) (gs (cellAt os (i.toNat * 4 + 2))) (gi (cellAt os (i.toNat * 4 + 3))) = nN (crN9 l os (i + 1).toNat) := by unfold aqN; rw [nmsOf_nC, f1]; rfl
  have e2 : aqC (nC (crN9 l os i.toNat)) (gi (cellAt os (i.toNat * 4))) (gs (cellAt os (i.toNat * 4 + 1))) (gs (cellAt os (i.toNat * 4 + 2))) (gi (cellAt os (i.toNat * 4 + 3))) = nC (crN9 l os (i + 1).toNat) := by unfold aqC; rw [nmsOf_nC, f1]; rfl
  rw [← hE] at cA e1 e2
  rw [← hM] at cA
  generalize y_aqN : @aqN = x_aqN at *
  generalize y_aqC : @aqC = x_aqC at *
  generalize y_nC : @nC = x_nC at *
  generalize y_nN : @nN = x_nN at *
  (repeat' first | ((first | with_reducible refine tr_cut (fun h => ?_) (fun h => ?_) | refine aw_condj (by cbv) (fun h => ?_) (fun h => ?_)) <;> (try simp (disch := omega) only [hj, std, cmpI, cmpB, satB, Bool.not_eq_true, Bool.not_eq_false, decide_eq_true_eq, decide_eq_false_iff_not, beq_iff_eq, bne_iff_ne, bne_eq_false_iff_eq, beq_eq_false_iff_ne, ne_eq, reduceCtorEq, not_true_eq_false, not_false_eq_true, pl0, if_true, cmpS_eq, cmpS_neq, Bool.not_eq_eq_eq_not, Bool.not_true, Bool.not_false, Bool.not_eq_true', q2, add64, sub64] at h) <;> (try (exfalso; omega))) | (with_reducible refine tr_alt (fun h => ?_) ?_ <;> (try (exfalso; omega))) | (with_reducible first | refine tr_ob ?_ ?_ | refine tr_done ?_) | (refine aw_tr hj tok (bookCr x_aqN x_aqC) (by cbv) ?_) | (refine aw_seq fun K hK => ?_) | (refine aw_tr1 hj tok (bookCr x_aqN x_aqC) (by cbv) ?_) | (refine aw_skip ?_) | (refine aw_block ?_) | (refine aw_exit ?_) | (refine aw_ret ⟨.inr rfl, ret_okj hj (by cbv) ?_ ?_⟩) | (refine aw_ret ?_) | (with_reducible first | refine th_n ?_ | refine th_r ?_ | refine th_x ?_ | refine blk_n ?_ | refine blk_r ?_ | refine blk_x ?_ | refine blk_y rfl ?_) | (refine ⟨.inr rfl, ret_okj hj (by cbv) ?_ ?_⟩) | (refine ⟨.inl rfl, ret_okj hj (by cbv) ?_ ?_⟩) | (with_reducible first | refine ⟨(_, _, _), by cbv, ?_, ?_⟩ | refine ⟨_, by cbv, ?_, ?_⟩) | (with_reducible apply_assumption -symm -exfalso only [*]))
  all_goals ((try subst y_aqN); (try subst y_aqC); (try subst y_nC); (try subst y_nN))
  all_goals (try (repeat' first | with_reducible exact obl0 | (with_reducible refine obl1 ?_ ?_)))
  all_goals (try first | with_reducible exact True.intro | ((first | refine ob_pc hj ?_ | refine ob_pcn hj ?_); (try rw [hj]); first | exact cA) | ((first | refine ob_le hj ?_ | refine ob_lei hj ?_ | refine ob_inb hj ?_ | refine ob_pos hj ?_ | refine ob_ne0 hj ?_ | refine ob_eqb hj ?_); (first | rfl | first | omega | (simp only [hj, std]; split <;> omega) | (simp (disch := omega) only [hj, std, cmpI, cmpB, satB, add64, sub64, ite0, pl0, pl2, pl3, sb0, if_true, if_false, eq_self, hk, hl, q2] <;> omega) | (simp (disch := omega) [hj, std, cmpI, cmpB, satB, add64, sub64, ite0, pl0, pl2, pl3, sb0, if_true, if_false, eq_self, hk, hl, q2] <;> omega))) | ((refine ob_ok hj ?_; (try rw [hj]); first | exact hkk | exact o0 | exact o1 | exact o2 | exact o3 | exact ⟨_, rfl⟩)) | ((simp (disch := omega) only [hj, std, add64]; first | omega | exact ⟨by omega, by omega, e1, e2⟩)))
 ·have e : i.toNat = kp := by omega
  rw [e] at hM hE
  have hex : ¬ (i < (n : Int) ∧ i < (kn : Int) ∧ gb (cellAt ks i.toNat) = true) := by
   rw [e]
   rintro ⟨a, b, c⟩
   rcases p3 with h | h
   ·omega
   ·exact h ⟨by omega, c⟩
  have hkk : i < (kn : Int) → okK .bool (cellAt ks i.toNat) := fun h => hkb _ (by omega)
  generalize y_aqN : @aqN = x_aqN at *
  generalize y_aqC : @aqC = x_aqC at *
  generalize y_nC : @nC = x_nC at *
  generalize y_nN : @nN = x_nN at *
  (repeat' first | ((first | with_reducible refine tr_cut (fun h => ?_) (fun h => ?_) | refine aw_condj (by cbv) (fun h => ?_) (fun h => ?_)) <;> (try simp (disch := omega) only [hj, std, cmpI, cmpB, satB, Bool.not_eq_true, Bool.not_eq_false, decide_eq_true_eq, decide_eq_false_iff_not, beq_iff_eq, bne_iff_ne, bne_eq_false_iff_eq, beq_eq_false_iff_ne, ne_eq, reduceCtorEq, not_true_eq_false, not_false_eq_true, pl0, if_true, cmpS_eq, cmpS_neq, Bool.not_eq_eq_eq_not, Bool.not_true, Bool.not_false, Bool.not_eq_true', add64, sub64] at h) <;> (try (exfalso; omega))) | (with_reducible refine tr_alt (fun h => ?_) ?_ <;> (try (exfalso; omega))) | (with_reducible first | refine tr_ob ?_ ?_ | refine tr_done ?_) | (refine aw_tr hj tok (bookCr x_aqN x_aqC) (by cbv) ?_) | (refine aw_seq fun K hK => ?_) | (refine aw_tr1 hj tok (bookCr x_aqN x_aqC) (by cbv) ?_) | (refine aw_skip ?_) | (refine aw_block ?_) | (refine aw_exit ?_) | (refine aw_ret ⟨.inr rfl, ret_okj hj (by cbv) ?_ ?_⟩) | (refine aw_ret ?_) | (with_reducible first | refine th_n ?_ | refine th_r ?_ | refine th_x ?_ | refine blk_n ?_ | refine blk_r ?_ | refine blk_x ?_ | refine blk_y rfl ?_) | (refine ⟨.inr rfl, ret_okj hj (by cbv) ?_ ?_⟩) | (refine ⟨.inl rfl, ret_okj hj (by cbv) ?_ ?_⟩) | (with_reducible first | refine ⟨(_, _, _), by cbv, ?_, ?_⟩ | refine ⟨_, by cbv, ?_, ?_⟩) | (with_reducible apply_assumption -symm -exfalso only [*]))
  all_goals ((try subst y_aqN); (try subst y_aqC); (try subst y_nC); (try subst y_nN))
  all_goals (try (repeat' first | with_reducible exact obl0 | with_reducible refine obl1 ?_ ?_))
  all_goals (try first | with_reducible exact True.intro | ((first | refine ob_le hj ?_ | refine ob_lei hj ?_ | refine ob_inb hj ?_ | refine ob_pos hj ?_ | refine ob_ne0 hj ?_ | refine ob_eqb hj ?_); (first | rfl | first | omega | (simp only [hj, std]; split <;> omega) | (simp (disch := omega) only [hj, std, cmpI, cmpB, satB, add64, sub64, ite0, pl0, pl2, pl3, sb0, if_true, if_false, eq_self, hk, hl] <;> omega) | (simp (disch := omega) [hj, std, cmpI, cmpB, satB, add64, sub64, ite0, pl0, pl2, pl3, sb0, if_true, if_false, eq_self, hk, hl] <;> omega))) | ((refine ob_ok hj ?_; (try rw [hj]); exact hkk (by assumption))) | ((exact absurd ⟨by assumption, by assumption, by assumption⟩ hex)) | ((rw [← hM, ← hE]; exact rfl)))
end Go.Proofs.Ytnmlcfjljeccnaa.A
/- The reference of layer 9: Do. -/
set_option linter.unusedSimpArgs false
set_option linter.unusedVariables false
set_option maxRecDepth 100000
set_option maxHeartbeats 4000000
namespace Go.Proofs.Ytnmlcfjljeccnaa.A
open Go
theorem pc_RDo0 (n1 n : Nat) (cs1 os : List C) (l : List Nm) (x : ByteArray) (q : Int) : PC Try.prog T 66 [.v true [.sl (nN l) (nC l), .sl n1 cs1, .sl n os], .v true [vI 2, vS x, vS x, vI q]] ⟨false, [(true, [.st (.sl (nN l) (nC l)), .st (.sl n1 cs1), .st (.sl n os)])]⟩ [] := by
 refine pc_of tok Try.func66 rfl (by rfl) ?_
 obtain ⟨j, hj⟩ : ∃ j : J, j = std Try.prog T := ⟨_, rfl⟩
 have hm : Try.prog.follows .mixedOrders = true := by kernel_rfl
 generalize y_aqN : @aqN = x_aqN at *
 generalize y_aqC : @aqC = x_aqC at *
 generalize y_nC : @nC = x_nC at *
 generalize y_nN : @nN = x_nN at *
 (repeat' first | ((first | with_reducible refine tr_cut (fun h => ?_) (fun h => ?_) | refine aw_condj (by cbv) (fun h => ?_) (fun h => ?_)) <;> (try simp (disch := omega) only [hj, std, cmpI, cmpB, satB, Bool.not_eq_true, Bool.not_eq_false, decide_eq_true_eq, decide_eq_false_iff_not, beq_iff_eq, bne_iff_ne, bne_eq_false_iff_eq, beq_eq_false_iff_ne, ne_eq, reduceCtorEq, not_true_eq_false, not_false_eq_true, pl0, if_true, cmpS_eq, cmpS_neq, Bool.not_eq_eq_eq_not, Bool.not_true, Bool.not_false, Bool.not_eq_true', add64, sub64] at h) <;> (try (exfalso; omega))) | (with_reducible refine tr_alt (fun h => ?_) ?_ <;> (try (exfalso; omega))) | (with_reducible first | refine tr_ob ?_ ?_ | refine tr_done ?_) | (refine aw_tr hj tok (bookCr x_aqN x_aqC) (by cbv) ?_) | (refine aw_seq fun K hK => ?_) | (refine aw_tr1 hj tok (bookCr x_aqN x_aqC) (by cbv) ?_) | (refine aw_skip ?_) | (refine aw_block ?_) | (refine aw_exit ?_) | (refine aw_ret ⟨.inr rfl, ret_okj hj (by cbv) ?_ ?_⟩) | (refine aw_ret ?_) | (with_reducible first | refine th_n ?_ | refine th_r ?_ | refine th_x ?_ | refine blk_n ?_ | refine blk_r ?_ | refine blk_x ?_ | refine blk_y rfl ?_) | (refine ⟨.inr rfl, ret_okj hj (by cbv) ?_ ?_⟩) | (refine ⟨.inl rfl, ret_okj hj (by cbv) ?_ ?_⟩) | (with_reducible apply_assumption -symm -exfalso only [*]))
 all_goals ((try subst y_aqN); (try subst y_aqC); (try subst y_nC); (try subst y_nN))
 all_goals (try (repeat' first | with_reducible exact obl0 | with_reducible refine obl1 ?_ ?_))
 all_goals (try first | with_reducible exact True.intro | ((first | refine ob_le hj ?_ | refine ob_lei hj ?_ | refine ob_inb hj ?_ | refine ob_pos hj ?_ | refine ob_ne0 hj ?_ | refine ob_eqb hj ?_); (first | rfl | first | omega | (simp only [hj, std]; split <;> omega) | (simp (disch := omega) only [hj, std, cmpI, cmpB, satB, add64, sub64, ite0, pl0, pl2, pl3, sb0, if_true, if_false, eq_self] <;> omega) | (simp (disch := omega) [hj, std, cmpI, cmpB, satB, add64, sub64, ite0, pl0, pl2, pl3, sb0, if_true, if_false, eq_self] <;> omega))) | (exact rfl))
theorem pc_RDo1 (n1 n : Nat) (cs1 os : List C) (l : List Nm) (kd : Int) (x y : ByteArray) (q : Int) (hk : ¬ (kd = 2 ∧ x = y)) (hn : n ≤ 100) (ho : os.length = n * 4) (hl : l.length ≤ 999) (hx : x.size ≤ 1000) (hy : y.size ≤ 1000) (hs : SzN l) (hv : ∀ c ∈ os, ∃ v, c = .val v) :
  PC Try.prog T 66 [.v true [.sl (nN l) (nC l), .sl n1 cs1, .sl n os], .v true [vI kd, vS x, vS y, vI q]] ⟨false, [(true, [.st (.sl (nN (apL l kd x y q)) (nC (apL l kd x y q))), .st (.sl n1 cs1), .st (.sl (n + 1) (os ++ [vI kd, vS x, vS y, vI q]))])]⟩ [] := by
 have cA := c_Apply9 l kd x y q hl hx hy hs
 refine pc_of tok Try.func66 rfl (by rfl) ?_
 obtain ⟨j, hj⟩ : ∃ j : J, j = std Try.prog T := ⟨_, rfl⟩
 have hm : Try.prog.follows .mixedOrders = true := by kernel_rfl
 generalize y_aqN : @aqN = x_aqN at *
 generalize y_aqC : @aqC = x_aqC at *
 generalize y_nC : @nC = x_nC at *
 generalize y_nN : @nN = x_nN at *
 (repeat' first | ((first | with_reducible refine tr_cut (fun h => ?_) (fun h => ?_) | refine aw_condj (by cbv) (fun h => ?_) (fun h => ?_)) <;> (try simp (disch := omega) only [hj, std, cmpI, cmpB, satB, Bool.not_eq_true, Bool.not_eq_false, decide_eq_true_eq, decide_eq_false_iff_not, beq_iff_eq, bne_iff_ne, bne_eq_false_iff_eq, beq_eq_false_iff_ne, ne_eq, reduceCtorEq, not_true_eq_false, not_false_eq_true, pl0, if_true, cmpS_eq, cmpS_neq, Bool.not_eq_eq_eq_not, Bool.not_true, Bool.not_false, Bool.not_eq_true', add64, sub64] at h) <;> (try (exfalso; omega))) | (with_reducible refine tr_alt (fun h => ?_) ?_ <;> (try (exfalso; omega))) | (with_reducible first | refine tr_ob ?_ ?_ | refine tr_done ?_) | (refine aw_tr hj tok (bookCr x_aqN x_aqC) (by cbv) ?_) | (refine aw_seq fun K hK => ?_) | (refine aw_tr1 hj tok (bookCr x_aqN x_aqC) (by cbv) ?_) | (refine aw_skip ?_) | (refine aw_block ?_) | (refine aw_exit ?_) | (refine aw_ret ⟨.inr rfl, ret_okj hj (by cbv) ?_ ?_⟩) | (refine aw_ret ?_) | (with_reducible first | refine th_n ?_ | refine th_r ?_ | refine th_x ?_ | refine blk_n ?_ | refine blk_r ?_ | refine blk_x ?_ | refine blk_y rfl ?_) | (refine ⟨.inr rfl, ret_okj hj (by cbv) ?_ ?_⟩) | (refine ⟨.inl rfl, ret_okj hj (by cbv) ?_ ?_⟩) | (with_reducible apply_assumption -symm -exfalso only [*]))
 all_goals ((try subst y_aqN); (try subst y_aqC); (try subst y_nC); (try subst y_nN))
 all_goals (try (repeat' first | with_reducible exact obl0 | (with_reducible refine obl1 ?_ ?_)))
 all_goals (try first | with_reducible exact True.intro | ((first | refine ob_le hj ?_ | refine ob_lei hj ?_ | refine ob_inb hj ?_ | refine ob_pos hj ?_ | refine ob_ne0 hj ?_ | refine ob_eqb hj ?_); (first | rfl | first | omega | (simp only [hj, std]; split <;> omega) | (simp (disch := omega) only [hj, std, cmpI, cmpB, satB, add64, sub64, ite0, pl0, pl2, pl3, sb0, if_true, if_false, eq_self] <;> omega) | (simp (disch := omega) [hj, std, cmpI, cmpB, satB, add64, sub64, ite0, pl0, pl2, pl3, sb0, if_true, if_false, eq_self] <;> omega))) | ((exact absurd ⟨by assumption, by assumption⟩ hk)))
 all_goals
  generalize y_aqN : @aqN = x_aqN at *
  generalize y_aqC : @aqC = x_aqC at *
  generalize y_nC : @nC = x_nC at *
  generalize y_nN : @nN = x_nN at *
  (repeat' first | (refine aw_frz 2 (by cbv) ?_) | (refine aw_frz 3 (by cbv) ?_) | (refine aw_retf hj [(4, .keep), (4, .bfz 2)] [4] (by cbv) ?_) | ((first | with_reducible refine tr_cut (fun h => ?_) (fun h => ?_) | refine aw_condj (by cbv) (fun h => ?_) (fun h => ?_)) <;> (try simp (disch := omega) only [hj, std, cmpI, cmpB, satB, Bool.not_eq_true, Bool.not_eq_false, decide_eq_true_eq, decide_eq_false_iff_not, beq_iff_eq, bne_iff_ne, bne_eq_false_iff_eq, beq_eq_false_iff_ne, ne_eq, reduceCtorEq, not_true_eq_false, not_false_eq_true, pl0, if_true, cmpS_eq, cmpS_neq, Bool.not_eq_eq_eq_not, Bool.not_true, Bool.not_false, Bool.not_eq_true', add64, sub64] at h) <;> (try (exfalso; omega))) | (with_reducible refine tr_alt (fun h => ?_) ?_ <;> (try (exfalso; omega))) | (with_reducible first | refine tr_ob ?_ ?_ | refine tr_done ?_) | (refine aw_dc1 (id := 3) hj tok hm (bookCr x_aqN x_aqC) [0, 1, 2, 4, 5, 7, 8, 10] (.alt 3 (.alt 6 (.alt 9 (.last 11 (.last 12 (.take 13 (.last 14 .done)))) (.last 11 (.last 9 (.last 12 (.take 13 (.last 14 .done)))))) (.last 11 (.last 6 (.last 9 (.last 12 (.take 13 (.last 14 .done))))))) (.alt 6 (.alt 3 (.alt 9 (.last 11 (.last 12 (.take 13 (.last 14 .done)))) (.last 11 (.last 9 (.last 12 (.take 13 (.last 14 .done)))))) (.last 11 (.last 3 (.last 9 (.last 12 (.take 13 (.last 14 .done))))))) (.last 11 (.alt 3 (.last 6 (.last 9 (.last 12 (.take 13 (.last 14 .done))))) (.last 6 (.last 3 (.last 9 (.last 12 (.take 13 (.last 14 .done)))))))))) (by kernel_rfl) (by cbv) ?_) | (refine aw_dc (id := 3) hj tok hm (bookCr x_aqN x_aqC) [0, 1, 2, 4, 5, 7, 8, 10] (.alt 3 (.alt 6 (.alt 9 (.last 11 (.last 12 (.take 13 (.last 14 .done)))) (.last 11 (.last 9 (.last 12 (.take 13 (.last 14 .done)))))) (.last 11 (.last 6 (.last 9 (.last 12 (.take 13 (.last 14 .done))))))) (.alt 6 (.alt 3 (.alt 9 (.last 11 (.last 12 (.take 13 (.last 14 .done)))) (.last 11 (.last 9 (.last 12 (.take 13 (.last 14 .done)))))) (.last 11 (.last 3 (.last 9 (.last 12 (.take 13 (.last 14 .done))))))) (.last 11 (.alt 3 (.last 6 (.last 9 (.last 12 (.take 13 (.last 14 .done))))) (.last 6 (.last 3 (.last 9 (.last 12 (.take 13 (.last 14 .done)))))))))) (by kernel_rfl) (by cbv) ?_) | (refine aw_tr hj tok (bookCr x_aqN x_aqC) (by cbv) ?_) | (refine aw_seq fun K hK => ?_) | (refine aw_tr1 hj tok (bookCr x_aqN x_aqC) (by cbv) ?_) | (refine aw_skip ?_) | (refine aw_block ?_) | (refine aw_exit ?_) | (refine aw_ret ⟨.inr rfl, ret_okj hj (by cbv) ?_ ?_⟩) | (refine aw_ret ?_) | (with_reducible first | refine th_n ?_ | refine th_r ?_ | refine th_x ?_ | refine blk_n ?_ | refine blk_r ?_ | refine blk_x ?_ | refine blk_y rfl ?_) | (refine ⟨.inr rfl, ret_okj hj (by cbv) ?_ ?_⟩) | (refine ⟨.inl rfl, ret_okj hj (by cbv) ?_ ?_⟩) | (with_reducible apply_assumption -symm -exfalso only [*]))
  all_goals ((try subst y_aqN); (try subst y_aqC); (try subst y_nC); (try subst y_nN))
  all_goals (try (repeat' first | with_reducible exact obl0 | with_reducible refine obl1 ?_ ?_))
  all_goals (try first | with_reducible exact True.intro | ((first | refine ob_pc hj ?_ | refine ob_pcn hj ?_); (try rw [hj]); first | exact cA) | ((first | refine ob_le hj ?_ | refine ob_lei hj ?_ | refine ob_inb hj ?_ | refine ob_pos hj ?_ | refine ob_ne0 hj ?_ | refine ob_eqb hj ?_); (first | rfl | first | omega | (simp only [hj, std]; split <;> omega) | (simp (disch := omega) only [hj, std, cmpI, cmpB, satB, add64, sub64, ite0, pl0, pl2, pl3, sb0, if_true, if_false, eq_self, ho] <;> omega) | (simp (disch := omega) [hj, std, cmpI, cmpB, satB, add64, sub64, ite0, pl0, pl2, pl3, sb0, if_true, if_false, eq_self, ho] <;> omega))) | ((refine ob_ok hj ?_; (try rw [hj]); first | exact ⟨_, rfl⟩ | exact .inr ⟨_, _, rfl⟩)))
 all_goals
  have eN : (if n = 0 then 0 else if (0 : Nat) = 0 then n else 0 + n) = n := by split <;> simp_all
  have eM : (if (if n = 0 then 0 else if (0 : Nat) = 0 then n else 0 + n) = 0 then 1 else (if n = 0 then 0 else if (0 : Nat) = 0 then n else 0 + n) + 1) = n + 1 := by rw [eN]; split <;> omega
  have a1 : aqN (nC l) kd x y q = nN (apL l kd x y q) := by unfold aqN; rw [nmsOf_nC]
  have a2 : aqC (nC l) kd x y q = nC (apL l kd x y q) := by unfold aqC; rw [nmsOf_nC]
  rw [hj]
  first
  | (show (if n = 0 then 0 else if (0 : Nat) = 0 then n else 0 + n) * 48 ≤ 140737488355328; rw [eN]; omega)
  | (show n * 4 ≤ os.length; omega)
  | (show os.length ≤ n * 4; omega)
  | (show (if (if n = 0 then 0 else if (0 : Nat) = 0 then n else 0 + n) = 0 then 1 else (if n = 0 then 0 else if (0 : Nat) = 0 then n else 0 + n) + 1) * 48 ≤ 140737488355328; rw [eM]; omega)
  | (rw [← a1, ← a2]; cases n <;> exact rfl)
end Go.Proofs.Ytnmlcfjljeccnaa.A
/- Layer 9's law: few; what an act does, kind by kind. -/
set_option linter.unusedSimpArgs false
set_option linter.unusedVariables false
set_option maxRecDepth 100000
set_option maxHeartbeats 4000000
namespace Go.Proofs.Ytnmlcfjljeccnaa.A
open Go
def fewA (n : Nat) (cs : List C) : Bool := decide (n ≤ 40 ∧ ∀ k, k < n → (gs (cellAt cs (k * 5 + 1))).size ≤ 20 ∧ (gs (cellAt cs (k * 5 + 2))).size ≤ 20 ∧ gn (cellAt cs (k * 5 + 4)) ≤ 40)
theorem pc_fewA (n : Nat) (cs : List C) (hl : cs.length = n * 5) (hok : ∀ k, k < n → okK .str (cellAt cs (k * 5 + 1)) ∧ okK .str (cellAt cs (k * 5 + 2)) ∧ okK .sl (cellAt cs (k * 5 + 4))) :
  PC Try.prog T 28 [.v false [.sl n cs]] (ret1 (.st (vB (fewA n cs)))) [] := by
 have eF : fewA n cs = decide (n ≤ 40 ∧ ∀ k, k < n → (gs (cellAt cs (k * 5 + 1))).size ≤ 20 ∧ (gs (cellAt cs (k * 5 + 2))).size ≤ 20 ∧ gn (cellAt cs (k * 5 + 4)) ≤ 40) := rfl
 refine pc_of tok Try.func28 rfl (by rfl) ?_
 obtain ⟨j, hj⟩ : ∃ j : J, j = std Try.prog T := ⟨_, rfl⟩
 have hm : Try.prog.follows .mixedOrders = true := by kernel_rfl
 generalize y_fewA : @fewA = x_fewA at *
 (repeat' first | ((first | with_reducible refine tr_cut (fun h => ?_) (fun h => ?_) | refine aw_condj (by cbv) (fun h => ?_) (fun h => ?_)) <;> (try simp (disch := omega) only [hj, std, cmpI, cmpB, satB, Bool.not_eq_true, Bool.not_eq_false, decide_eq_true_eq, decide_eq_false_iff_not, beq_iff_eq, bne_iff_ne, bne_eq_false_iff_eq, beq_eq_false_iff_ne, ne_eq, reduceCtorEq, not_true_eq_false, not_false_eq_true, pl0, if_true, cmpS_eq, cmpS_neq, Bool.not_eq_eq_eq_not, Bool.not_true, Bool.not_false, Bool.not_eq_true', add64, sub64] at h) <;> (try (exfalso; omega))) | (with_reducible refine tr_alt (fun h => ?_) ?_ <;> (try (exfalso; omega))) | (with_reducible first | refine tr_ob ?_ ?_ | refine tr_done ?_) | (refine aw_tr hj tok book0 (by cbv) ?_) | (refine aw_seq fun K hK => ?_) | (refine aw_tr1 hj tok book0 (by cbv) ?_) | (refine aw_skip ?_) | (refine aw_block ?_) | (refine aw_exit ?_) | (refine aw_ret ⟨.inr rfl, ret_okj hj (by cbv) ?_ ?_⟩) | (refine aw_ret ?_) | (with_reducible first | refine th_n ?_ | refine th_r ?_ | refine th_x ?_ | refine blk_n ?_ | refine blk_r ?_ | refine blk_x ?_ | refine blk_y rfl ?_) | (refine ⟨.inr rfl, ret_okj hj (by cbv) ?_ ?_⟩) | (refine ⟨.inl rfl, ret_okj hj (by cbv) ?_ ?_⟩) | (with_reducible refine ⟨_, by cbv, ?_, ?_⟩) | (with_reducible apply_assumption -symm -exfalso only [*]))
 all_goals ((try subst y_fewA))
 all_goals (try (repeat' first | with_reducible exact obl0 | (with_reducible refine obl1 ?_ ?_)))
 all_goals (try first | with_reducible exact True.intro | ((first | refine ob_le hj ?_ | refine ob_lei hj ?_ | refine ob_inb hj ?_ | refine ob_pos hj ?_ | refine ob_ne0 hj ?_ | refine ob_eqb hj ?_); (first | rfl | first | omega | (simp only [hj, std]; split <;> omega) | (simp (disch := omega) only [hj, std, cmpI, cmpB, satB, add64, sub64, ite0, pl0, pl2, pl3, sb0, if_true, if_false, eq_self] <;> omega) | (simp (disch := omega) [hj, std, cmpI, cmpB, satB, add64, sub64, ite0, pl0, pl2, pl3, sb0, if_true, if_false, eq_self] <;> omega))) | ((rw [eF, decide_eq_false (by omega)]; first | done | exact rfl)))
 refine aw_lpj hj [(0, .keep), (3, .keep)] [] (fun (i : Int) => stOf 38 [(0, .one (.c (.sl n cs))), (3, .one (.c (vI i)))] []) (fun (i : Int) => n - i.toNat) (fun (i : Int) => 0 ≤ i ∧ i ≤ n ∧ n ≤ 40 ∧ ∀ k, k < i.toNat → (gs (cellAt cs (k * 5 + 1))).size ≤ 20 ∧ (gs (cellAt cs (k * 5 + 2))).size ≤ 20 ∧ gn (cellAt cs (k * 5 + 4)) ≤ 40) (_) (by generalize @fewA = x_fewA; cbv) ?_ (fun i hI => ?_)
 ·exact ⟨by omega, by omega, by omega, fun k h => absurd h (by simp)⟩
 obtain ⟨i1, i2, i3, hall⟩ := hI
 rcases Decidable.em (i < (n : Int)) with hi | hi
 ·obtain ⟨o1, o2, o3⟩ := hok i.toNat (by omega)
  have f1 : (i + 1).toNat = i.toNat + 1 := by omega
  have hno : ¬ ((gs (cellAt cs (i.toNat * 5 + 1))).size ≤ 20 ∧ (gs (cellAt cs (i.toNat * 5 + 2))).size ≤ 20 ∧ gn (cellAt cs (i.toNat * 5 + 4)) ≤ 40) → fewA n cs = false := fun h => by
   rw [eF]; exact decide_eq_false fun hh => h (hh.2 i.toNat (by omega))
  have hyes : ((gs (cellAt cs (i.toNat * 5 + 1))).size ≤ 20 ∧ (gs (cellAt cs (i.toNat * 5 + 2))).size ≤ 20 ∧ gn (cellAt cs (i.toNat * 5 + 4)) ≤ 40) → ∀ k, k < i.toNat + 1 → (gs (cellAt cs (k * 5 + 1))).size ≤ 20 ∧ (gs (cellAt cs (k * 5 + 2))).size ≤ 20 ∧ gn (cellAt cs (k * 5 + 4)) ≤ 40 := fun h k hk => by
   by_cases e : k = i.toNat
   ·subst e; exact h
   ·exact hall k (by omega)
  clear hall
  generalize y_fewA : @fewA = x_fewA at *
  (repeat' first | ((first | with_reducible refine tr_cut (fun h => ?_) (fun h => ?_) | refine aw_condj (by cbv) (fun h => ?_) (fun h => ?_)) <;> (try simp (disch := omega) only [hj, std, cmpI, cmpB, satB, Bool.not_eq_true, Bool.not_eq_false, decide_eq_true_eq, decide_eq_false_iff_not, beq_iff_eq, bne_iff_ne, bne_eq_false_iff_eq, beq_eq_false_iff_ne, ne_eq, reduceCtorEq, not_true_eq_false, not_false_eq_true, pl0, if_true, cmpS_eq, cmpS_neq, Bool.not_eq_eq_eq_not, Bool.not_true, Bool.not_false, Bool.not_eq_true', ite0, add64, sub64] at h) <;> (try (exfalso; omega))) | (with_reducible refine tr_alt (fun h => ?_) ?_ <;> (try (exfalso; omega))) | (with_reducible first | refine tr_ob ?_ ?_ | refine tr_done ?_) | (refine aw_tr hj tok book0 (by cbv) ?_) | (refine aw_seq fun K hK => ?_) | (refine aw_tr1 hj tok book0 (by cbv) ?_) | (refine aw_skip ?_) | (refine aw_block ?_) | (refine aw_exit ?_) | (refine aw_ret ⟨.inr rfl, ret_okj hj (by cbv) ?_ ?_⟩) | (refine aw_ret ?_) | (with_reducible first | refine th_n ?_ | refine th_r ?_ | refine th_x ?_ | refine blk_n ?_ | refine blk_r ?_ | refine blk_x ?_ | refine blk_y rfl ?_) | (refine ⟨.inr rfl, ret_okj hj (by cbv) ?_ ?_⟩) | (refine ⟨.inl rfl, ret_okj hj (by cbv) ?_ ?_⟩) | (with_reducible refine ⟨_, by cbv, ?_, ?_⟩) | (with_reducible apply_assumption -symm -exfalso only [*]))
  all_goals ((try subst y_fewA))
  all_goals (try (repeat' first | with_reducible exact obl0 | (with_reducible refine obl1 ?_ ?_)))
  all_goals (try first | with_reducible exact True.intro | ((first | refine ob_le hj ?_ | refine ob_lei hj ?_ | refine ob_inb hj ?_ | refine ob_pos hj ?_ | refine ob_ne0 hj ?_ | refine ob_eqb hj ?_); (first | rfl | first | omega | (simp only [hj, std]; split <;> omega) | (simp (disch := omega) only [hj, std, cmpI, cmpB, satB, add64, sub64, ite0, pl0, pl2, pl3, sb0, if_true, if_false, eq_self, hl] <;> omega) | (simp (disch := omega) [hj, std, cmpI, cmpB, satB, add64, sub64, ite0, pl0, pl2, pl3, sb0, if_true, if_false, eq_self, hl] <;> omega))) | ((refine ob_ok hj ?_; (try rw [hj]); simp only [std, ite0]; first | exact o1 | exact o2 | exact o3)) | ((rw [hno (by omega)]; first | done | exact rfl)) | ((simp (disch := omega) only [hj, std, add64, ite0, f1]; first | omega | exact ⟨by omega, by omega, by omega, hyes (by omega)⟩)))
 ·have e : i.toNat = n := by omega
  rw [e] at hall
  generalize y_fewA : @fewA = x_fewA at *
  (repeat' first | ((first | with_reducible refine tr_cut (fun h => ?_) (fun h => ?_) | refine aw_condj (by cbv) (fun h => ?_) (fun h => ?_)) <;> (try simp (disch := omega) only [hj, std, cmpI, cmpB, satB, Bool.not_eq_true, Bool.not_eq_false, decide_eq_true_eq, decide_eq_false_iff_not, beq_iff_eq, bne_iff_ne, bne_eq_false_iff_eq, beq_eq_false_iff_ne, ne_eq, reduceCtorEq, not_true_eq_false, not_false_eq_true, pl0, if_true, cmpS_eq, cmpS_neq, Bool.not_eq_eq_eq_not, Bool.not_true, Bool.not_false, Bool.not_eq_true', add64, sub64] at h) <;> (try (exfalso; omega))) | (with_reducible refine tr_alt (fun h => ?_) ?_ <;> (try (exfalso; omega))) | (with_reducible first | refine tr_ob ?_ ?_ | refine tr_done ?_) | (refine aw_tr hj tok book0 (by cbv) ?_) | (refine aw_seq fun K hK => ?_) | (refine aw_tr1 hj tok book0 (by cbv) ?_) | (refine aw_skip ?_) | (refine aw_block ?_) | (refine aw_exit ?_) | (refine aw_ret ⟨.inr rfl, ret_okj hj (by cbv) ?_ ?_⟩) | (refine aw_ret ?_) | (with_reducible first | refine th_n ?_ | refine th_r ?_ | refine th_x ?_ | refine blk_n ?_ | refine blk_r ?_ | refine blk_x ?_ | refine blk_y rfl ?_) | (refine ⟨.inr rfl, ret_okj hj (by cbv) ?_ ?_⟩) | (refine ⟨.inl rfl, ret_okj hj (by cbv) ?_ ?_⟩) | (with_reducible refine ⟨_, by cbv, ?_, ?_⟩) | (with_reducible apply_assumption -symm -exfalso only [*]))
  all_goals ((try subst y_fewA))
  all_goals (try (repeat' first | with_reducible exact obl0 | with_reducible refine obl1 ?_ ?_))
  all_goals (try first | with_reducible exact True.intro | ((first | refine ob_le hj ?_ | refine ob_lei hj ?_ | refine ob_inb hj ?_ | refine ob_pos hj ?_ | refine ob_ne0 hj ?_ | refine ob_eqb hj ?_); (first | rfl | first | omega | (simp only [hj, std]; split <;> omega) | (simp (disch := omega) only [hj, std, cmpI, cmpB, satB, add64, sub64, ite0, pl0, pl2, pl3, sb0, if_true, if_false, eq_self] <;> omega) | (simp (disch := omega) [hj, std, cmpI, cmpB, satB, add64, sub64, ite0, pl0, pl2, pl3, sb0, if_true, if_false, eq_self] <;> omega))) | ((rw [eF, decide_eq_true ⟨i3, hall⟩]; first | done | exact rfl)))
def bookDA (b my : Bool) (m1 m2 : GM) (n : Nat) (os : List C) (N1 : Nat) (D1 : List C) (N2 : Nat) (D2 : List C) (N3 : Nat) (D3 : List C) : Book := fun f _ => match f with
 | 61 => some (⟨true, []⟩, [dBox m1 m2 n os])
 | 36 => some (⟨true, []⟩, [dBox m1 m2 n os, .none])
 | 63 => some (⟨false, [(true, [.st (.sl N1 D1), .st (.sl N2 D2), .st .nil])]⟩, [])
 | 60 => some (ret1 (.st (vB b)), [dBox m1 m2 n os, .none, .none])
 | 64 => some (ret1 (.st (vB b)), [dBox m1 m2 n os, .none])
 | 62 => some (ret1 (.st (vB b)), [dBox m1 m2 n os, .none, .none])
 | 65 => some (ret1 (.st (vB my)), [])
 | 66 => some (⟨false, [(true, [.st (.sl N1 D1), .st (.sl N2 D2), .st (.sl N3 D3)])]⟩, [])
 | _ => none
abbrev doRet (N1 : Nat) (D1 : List C) (N2 : Nat) (D2 : List C) (N3 : Nat) (D3 : List C) (b : Bool) : RV := rets [(true, [.st (.sl N1 D1), .st (.sl N2 D2), .st (.sl N3 D3)]), (false, [.st (vB b)])]
theorem pc_do3 (m1 m2 : GM) (n : Nat) (os : List C) (N1 N2 N3 : Nat) (D1 D2 D3 : List C) (x y : ByteArray) (q : Int) (kn : Nat) (ks : List C) :
  PC Try.prog T 31 [.root (dBox m1 m2 n os), .v true [.sl N1 D1, .sl N2 D2, .sl N3 D3], .v true [vI 3, vS x, vS y, vI q, .sl kn ks]] (doRet N1 D1 N1 D1 0 [] true) [dBox m1 m1 0 [], .none, .none] := by
 have cS : (std Try.prog T).pc 61 [.root (dBox m1 m2 n os)] ⟨true, []⟩ [dBox m1 m1 0 []] := ⟨enters Try.func61 (by kernel_rfl) (by kernel_rfl), pc_SyncD m1 m2 n os⟩
 refine pc_of tok Try.func31 rfl (by rfl) ?_
 obtain ⟨j, hj⟩ : ∃ j : J, j = std Try.prog T := ⟨_, rfl⟩
 have hm : Try.prog.follows .mixedOrders = true := by kernel_rfl
 (repeat' first | (refine ⟨.inr rfl, ret_oku3 hj (by cbv) (by cbv) rfl ?_ ?_ (upd_of ?_)⟩) | ((first | with_reducible refine tr_cut (fun h => ?_) (fun h => ?_) | refine aw_condj (by cbv) (fun h => ?_) (fun h => ?_)) <;> (try simp (disch := omega) only [hj, std, cmpI, cmpB, satB, Bool.not_eq_true, Bool.not_eq_false, decide_eq_true_eq, decide_eq_false_iff_not, beq_iff_eq, bne_iff_ne, bne_eq_false_iff_eq, beq_eq_false_iff_ne, ne_eq, reduceCtorEq, not_true_eq_false, not_false_eq_true, pl0, if_true, cmpS_eq, cmpS_neq, Bool.not_eq_eq_eq_not, Bool.not_true, Bool.not_false, Bool.not_eq_true', add64, sub64] at h) <;> (try (exfalso; omega))) | (with_reducible refine tr_alt (fun h => ?_) ?_ <;> (try (exfalso; omega))) | (with_reducible first | refine tr_ob ?_ ?_ | refine tr_done ?_) | (refine aw_tr hj tok (bookDA true true m1 m1 0 [] N1 D1 N1 D1 0 []) (by cbv) ?_) | (refine aw_seq fun K hK => ?_) | (refine aw_tr1 hj tok (bookDA true true m1 m1 0 [] N1 D1 N1 D1 0 []) (by cbv) ?_) | (refine aw_skip ?_) | (refine aw_block ?_) | (refine aw_exit ?_) | (refine aw_ret ⟨.inr rfl, ret_okj hj (by cbv) ?_ ?_⟩) | (refine aw_ret ?_) | (with_reducible first | refine th_n ?_ | refine th_r ?_ | refine th_x ?_ | refine blk_n ?_ | refine blk_r ?_ | refine blk_x ?_ | refine blk_y rfl ?_) | (refine ⟨.inr rfl, ret_okj hj (by cbv) ?_ ?_⟩) | (refine ⟨.inl rfl, ret_okj hj (by cbv) ?_ ?_⟩) | (with_reducible apply_assumption -symm -exfalso only [*]))
 all_goals (try (repeat' first | with_reducible exact obl0 | with_reducible refine obl1 ?_ ?_))
 all_goals (try first | with_reducible exact True.intro | ((first | refine ob_pc hj ?_ | refine ob_pcn hj ?_); (try rw [hj]); first | exact cS) | ((first | refine ob_le hj ?_ | refine ob_lei hj ?_ | refine ob_inb hj ?_ | refine ob_pos hj ?_ | refine ob_ne0 hj ?_ | refine ob_eqb hj ?_); (first | rfl | first | omega | (simp only [hj, std]; split <;> omega) | (simp (disch := omega) only [hj, std, cmpI, cmpB, satB, add64, sub64, ite0, pl0, pl2, pl3, sb0, if_true, if_false, eq_self] <;> omega) | (simp (disch := omega) [hj, std, cmpI, cmpB, satB, add64, sub64, ite0, pl0, pl2, pl3, sb0, if_true, if_false, eq_self] <;> omega))) | (exact rfl) | ((refine upd_box ?_ (upd_none (upd_none (upd_nil _))); exact rfl)))
end Go.Proofs.Ytnmlcfjljeccnaa.A
