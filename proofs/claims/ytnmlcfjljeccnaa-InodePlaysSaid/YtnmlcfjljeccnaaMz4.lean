/- What the laws of this seat need, part 4. -/
import Derived.Test.YtnmlcfjljeccnaaMz3
import Derived.Test.YtnmlcfjljeccnaaProg
import Derived.WalkKit
import Derived.BigCall
import Derived.BigRegion
import Derived.BigQuiet
import Derived.Deep.QuietTactic
/- The table of types. Written by wip/tools/tt.py. -/
namespace Go.Proofs.Ytnmlcfjljeccnaa.A
open Go
def ti1 : TI := { desc := (Go.TypeDesc.func #[] #[] false), size := 1, bytes := 8, zero := .nilFunc, cells := [.raw] }
def ti2 : TI := { desc := (Go.TypeDesc.int Go.IntKind.i64), size := 1, bytes := 8, zero := .int .i64 0, cells := [.int .i64] }
def ti3 : TI := { desc := (Go.TypeDesc.int Go.IntKind.i64), size := 1, bytes := 8, zero := .int .i64 0, cells := [.int .i64] }
def ti4 : TI := { desc := Go.TypeDesc.bool, size := 1, bytes := 1, zero := .bool false, cells := [.bool] }
def ti5 : TI := { desc := (Go.TypeDesc.int Go.IntKind.u8), size := 1, bytes := 1, zero := .int .u8 0, cells := [.int .u8] }
def ti6 : TI := { desc := (Go.TypeDesc.int Go.IntKind.u8), size := 1, bytes := 1, zero := .int .u8 0, cells := [.int .u8] }
def ti7 : TI := { desc := (Go.TypeDesc.struct #[{ name := "x", type := 2, offset := 0, embedded := false, tag := "", pkgPath := "runtime", byteOffset := 0 }, { name := "y", type := 3, offset := 1, embedded := false, tag := "", pkgPath := "runtime", byteOffset := 8 }, { name := "signed", type := 4, offset := 2, embedded := false, tag := "", pkgPath := "runtime", byteOffset := 16 }, { name := "code", type := 6, offset := 3, embedded := false, tag := "", pkgPath := "runtime", byteOffset := 17 }]), size := 4, bytes := 24, zero := .agg #[.int .i64 0, .int .i64 0, .bool false, .int .u8 0], cells := [.int .i64, .int .i64, .bool, .int .u8] }
def ti8 : TI := { desc := (Go.TypeDesc.struct #[{ name := "x", type := 2, offset := 0, embedded := false, tag := "", pkgPath := "runtime", byteOffset := 0 }, { name := "y", type := 3, offset := 1, embedded := false, tag := "", pkgPath := "runtime", byteOffset := 8 }, { name := "signed", type := 4, offset := 2, embedded := false, tag := "", pkgPath := "runtime", byteOffset := 16 }, { name := "code", type := 6, offset := 3, embedded := false, tag := "", pkgPath := "runtime", byteOffset := 17 }]), size := 4, bytes := 24, zero := .agg #[.int .i64 0, .int .i64 0, .bool false, .int .u8 0], cells := [.int .i64, .int .i64, .bool, .int .u8] }
def ti9 : TI := { desc := Go.TypeDesc.string, size := 1, bytes := 16, zero := .string ByteArray.empty, cells := [.str] }
def ti10 : TI := { desc := Go.TypeDesc.string, size := 1, bytes := 16, zero := .string ByteArray.empty, cells := [.str] }
def ti11 : TI := { desc := Go.TypeDesc.string, size := 1, bytes := 16, zero := .string ByteArray.empty, cells := [.str] }
def ti12 : TI := { desc := (Go.TypeDesc.int Go.IntKind.u64), size := 1, bytes := 8, zero := .int .u64 0, cells := [.int .u64] }
def ti13 : TI := { desc := (Go.TypeDesc.struct #[{ name := "msg", type := 9, offset := 0, embedded := false, tag := "", pkgPath := "runtime", byteOffset := 0 }, { name := "addr", type := 12, offset := 1, embedded := false, tag := "", pkgPath := "runtime", byteOffset := 16 }]), size := 2, bytes := 24, zero := .agg #[.string ByteArray.empty, .int .u64 0], cells := [.str, .int .u64] }
def ti14 : TI := { desc := (Go.TypeDesc.struct #[{ name := "msg", type := 9, offset := 0, embedded := false, tag := "", pkgPath := "runtime", byteOffset := 0 }, { name := "addr", type := 12, offset := 1, embedded := false, tag := "", pkgPath := "runtime", byteOffset := 16 }]), size := 2, bytes := 24, zero := .agg #[.string ByteArray.empty, .int .u64 0], cells := [.str, .int .u64] }
def ti15 : TI := { desc := (Go.TypeDesc.pointer 155), size := 1, bytes := 8, zero := .pointer none, cells := [.raw] }
def ti16 : TI := { desc := (Go.TypeDesc.pointer 158), size := 1, bytes := 8, zero := .pointer none, cells := [.raw] }
def ti17 : TI := { desc := (Go.TypeDesc.pointer 166), size := 1, bytes := 8, zero := .pointer none, cells := [.raw] }
def ti18 : TI := { desc := (Go.TypeDesc.struct #[{ name := "typ", type := 17, offset := 0, embedded := false, tag := "", pkgPath := "internal/runtime/maps", byteOffset := 0 }]), size := 1, bytes := 8, zero := .agg #[.pointer none], cells := [.raw] }
def ti19 : TI := { desc := (Go.TypeDesc.struct #[{ name := "typ", type := 17, offset := 0, embedded := false, tag := "", pkgPath := "internal/runtime/maps", byteOffset := 0 }]), size := 1, bytes := 8, zero := .agg #[.pointer none], cells := [.raw] }
def ti20 : TI := { desc := (Go.TypeDesc.interface #[]), size := 1, bytes := 16, zero := .nilIface, cells := [.raw] }
def ti21 : TI := { desc := (Go.TypeDesc.int Go.IntKind.i32), size := 1, bytes := 4, zero := .int .i32 0, cells := [.int .i32] }
def ti22 : TI := { desc := (Go.TypeDesc.slice 28), size := 1, bytes := 24, zero := .slice none 0 0, cells := [.sl] }
def ti23 : TI := { desc := (Go.TypeDesc.func #[] #[4] false), size := 1, bytes := 8, zero := .nilFunc, cells := [.raw] }
def ti24 : TI := { desc := (Go.TypeDesc.pointer 95), size := 1, bytes := 8, zero := .pointer none, cells := [.raw] }
def ti25 : TI := { desc := (Go.TypeDesc.func #[] #[24] false), size := 1, bytes := 8, zero := .nilFunc, cells := [.raw] }
def ti26 : TI := { desc := (Go.TypeDesc.slice 31), size := 1, bytes := 24, zero := .slice none 0 0, cells := [.sl] }
def ti27 : TI := { desc := (Go.TypeDesc.struct #[{ name := "Kind", type := 3, offset := 0, embedded := false, tag := "", pkgPath := "", byteOffset := 0 }, { name := "Faults", type := 26, offset := 1, embedded := false, tag := "", pkgPath := "", byteOffset := 8 }]), size := 2, bytes := 32, zero := .agg #[.int .i64 0, .slice none 0 0], cells := [.int .i64, .sl] }
def ti28 : TI := { desc := (Go.TypeDesc.struct #[{ name := "Kind", type := 3, offset := 0, embedded := false, tag := "", pkgPath := "", byteOffset := 0 }, { name := "Faults", type := 26, offset := 1, embedded := false, tag := "", pkgPath := "", byteOffset := 8 }]), size := 2, bytes := 32, zero := .agg #[.int .i64 0, .slice none 0 0], cells := [.int .i64, .sl] }
def ti29 : TI := { desc := (Go.TypeDesc.int Go.IntKind.i64), size := 1, bytes := 8, zero := .int .i64 0, cells := [.int .i64] }
def ti30 : TI := { desc := (Go.TypeDesc.struct #[{ name := "At", type := 3, offset := 0, embedded := false, tag := "", pkgPath := "", byteOffset := 0 }, { name := "Kind", type := 3, offset := 1, embedded := false, tag := "", pkgPath := "", byteOffset := 8 }]), size := 2, bytes := 16, zero := .agg #[.int .i64 0, .int .i64 0], cells := [.int .i64, .int .i64] }
def ti31 : TI := { desc := (Go.TypeDesc.struct #[{ name := "At", type := 3, offset := 0, embedded := false, tag := "", pkgPath := "", byteOffset := 0 }, { name := "Kind", type := 3, offset := 1, embedded := false, tag := "", pkgPath := "", byteOffset := 8 }]), size := 2, bytes := 16, zero := .agg #[.int .i64 0, .int .i64 0], cells := [.int .i64, .int .i64] }
def ti32 : TI := { desc := (Go.TypeDesc.func #[] #[29] false), size := 1, bytes := 8, zero := .nilFunc, cells := [.raw] }
def ti33 : TI := { desc := (Go.TypeDesc.func #[31] #[4] false), size := 1, bytes := 8, zero := .nilFunc, cells := [.raw] }
def ti34 : TI := { desc := (Go.TypeDesc.func #[26] #[3] true), size := 1, bytes := 8, zero := .nilFunc, cells := [.raw] }
def ti35 : TI := { desc := (Go.TypeDesc.func #[] #[26] false), size := 1, bytes := 8, zero := .nilFunc, cells := [.raw] }
def ti36 : TI := { desc := (Go.TypeDesc.func #[] #[3] false), size := 1, bytes := 8, zero := .nilFunc, cells := [.raw] }
def ti37 : TI := { desc := (Go.TypeDesc.func #[22] #[4] false), size := 1, bytes := 8, zero := .nilFunc, cells := [.raw] }
def ti38 : TI := { desc := (Go.TypeDesc.slice 5), size := 1, bytes := 24, zero := .slice none 0 0, cells := [.sl] }
def ti39 : TI := { desc := (Go.TypeDesc.slice 49), size := 1, bytes := 24, zero := .slice none 0 0, cells := [.sl] }
def ti40 : TI := { desc := (Go.TypeDesc.func #[39] #[4] false), size := 1, bytes := 8, zero := .nilFunc, cells := [.raw] }
def ti41 : TI := { desc := (Go.TypeDesc.pointer 100), size := 1, bytes := 8, zero := .pointer none, cells := [.raw] }
def ti42 : TI := { desc := (Go.TypeDesc.func #[38] #[41] true), size := 1, bytes := 8, zero := .nilFunc, cells := [.raw] }
def ti43 : TI := { desc := (Go.TypeDesc.struct #[{ name := "Now", type := 38, offset := 0, embedded := false, tag := "", pkgPath := "", byteOffset := 0 }, { name := "Safe", type := 38, offset := 1, embedded := false, tag := "", pkgPath := "", byteOffset := 24 }]), size := 2, bytes := 48, zero := .agg #[.slice none 0 0, .slice none 0 0], cells := [.sl, .sl] }
def ti44 : TI := { desc := (Go.TypeDesc.struct #[{ name := "Now", type := 38, offset := 0, embedded := false, tag := "", pkgPath := "", byteOffset := 0 }, { name := "Safe", type := 38, offset := 1, embedded := false, tag := "", pkgPath := "", byteOffset := 24 }]), size := 2, bytes := 48, zero := .agg #[.slice none 0 0, .slice none 0 0], cells := [.sl, .sl] }
def ti46 : TI := { desc := (Go.TypeDesc.func #[41, 44, 49] #[44, 4] false), size := 1, bytes := 8, zero := .nilFunc, cells := [.raw] }
def ti47 : TI := { desc := (Go.TypeDesc.slice 3), size := 1, bytes := 24, zero := .slice none 0 0, cells := [.sl] }
def ti48 : TI := { desc := (Go.TypeDesc.struct #[{ name := "Kind", type := 3, offset := 0, embedded := false, tag := "", pkgPath := "", byteOffset := 0 }, { name := "B", type := 38, offset := 1, embedded := false, tag := "", pkgPath := "", byteOffset := 8 }, { name := "N", type := 3, offset := 2, embedded := false, tag := "", pkgPath := "", byteOffset := 32 }, { name := "Cuts", type := 47, offset := 3, embedded := false, tag := "", pkgPath := "", byteOffset := 40 }]), size := 4, bytes := 64, zero := .agg #[.int .i64 0, .slice none 0 0, .int .i64 0, .slice none 0 0], cells := [.int .i64, .sl, .int .i64, .sl] }
def ti49 : TI := { desc := (Go.TypeDesc.struct #[{ name := "Kind", type := 3, offset := 0, embedded := false, tag := "", pkgPath := "", byteOffset := 0 }, { name := "B", type := 38, offset := 1, embedded := false, tag := "", pkgPath := "", byteOffset := 8 }, { name := "N", type := 3, offset := 2, embedded := false, tag := "", pkgPath := "", byteOffset := 32 }, { name := "Cuts", type := 47, offset := 3, embedded := false, tag := "", pkgPath := "", byteOffset := 40 }]), size := 4, bytes := 64, zero := .agg #[.int .i64 0, .slice none 0 0, .int .i64 0, .slice none 0 0], cells := [.int .i64, .sl, .int .i64, .sl] }
def ti50 : TI := { desc := (Go.TypeDesc.func #[] #[38] false), size := 1, bytes := 8, zero := .nilFunc, cells := [.raw] }
def ti51 : TI := { desc := (Go.TypeDesc.func #[44] #[3] false), size := 1, bytes := 8, zero := .nilFunc, cells := [.raw] }
def ti52 : TI := { desc := (Go.TypeDesc.func #[38, 39] #[4] false), size := 1, bytes := 8, zero := .nilFunc, cells := [.raw] }
def ti53 : TI := { desc := (Go.TypeDesc.slice 65), size := 1, bytes := 24, zero := .slice none 0 0, cells := [.sl] }
def ti54 : TI := { desc := (Go.TypeDesc.func #[53] #[4] false), size := 1, bytes := 8, zero := .nilFunc, cells := [.raw] }
def ti55 : TI := { desc := (Go.TypeDesc.pointer 111), size := 1, bytes := 8, zero := .pointer none, cells := [.raw] }
def ti56 : TI := { desc := (Go.TypeDesc.func #[] #[55] false), size := 1, bytes := 8, zero := .nilFunc, cells := [.raw] }
def ti57 : TI := { desc := (Go.TypeDesc.slice 71), size := 1, bytes := 24, zero := .slice none 0 0, cells := [.sl] }
def ti58 : TI := { desc := (Go.TypeDesc.slice 114), size := 1, bytes := 24, zero := .slice none 0 0, cells := [.sl] }
def ti59 : TI := { desc := (Go.TypeDesc.struct #[{ name := "Now", type := 57, offset := 0, embedded := false, tag := "", pkgPath := "", byteOffset := 0 }, { name := "Safe", type := 57, offset := 1, embedded := false, tag := "", pkgPath := "", byteOffset := 24 }, { name := "Ops", type := 58, offset := 2, embedded := false, tag := "", pkgPath := "", byteOffset := 48 }]), size := 3, bytes := 72, zero := .agg #[.slice none 0 0, .slice none 0 0, .slice none 0 0], cells := [.sl, .sl, .sl] }
def ti60 : TI := { desc := (Go.TypeDesc.struct #[{ name := "Now", type := 57, offset := 0, embedded := false, tag := "", pkgPath := "", byteOffset := 0 }, { name := "Safe", type := 57, offset := 1, embedded := false, tag := "", pkgPath := "", byteOffset := 24 }, { name := "Ops", type := 58, offset := 2, embedded := false, tag := "", pkgPath := "", byteOffset := 48 }]), size := 3, bytes := 72, zero := .agg #[.slice none 0 0, .slice none 0 0, .slice none 0 0], cells := [.sl, .sl, .sl] }
def ti62 : TI := { desc := (Go.TypeDesc.func #[55, 60, 65] #[60, 4] false), size := 1, bytes := 8, zero := .nilFunc, cells := [.raw] }
def ti63 : TI := { desc := (Go.TypeDesc.slice 4), size := 1, bytes := 24, zero := .slice none 0 0, cells := [.sl] }
def ti64 : TI := { desc := (Go.TypeDesc.struct #[{ name := "Kind", type := 3, offset := 0, embedded := false, tag := "", pkgPath := "", byteOffset := 0 }, { name := "A", type := 9, offset := 1, embedded := false, tag := "", pkgPath := "", byteOffset := 8 }, { name := "B", type := 9, offset := 2, embedded := false, tag := "", pkgPath := "", byteOffset := 24 }, { name := "N", type := 3, offset := 3, embedded := false, tag := "", pkgPath := "", byteOffset := 40 }, { name := "Keep", type := 63, offset := 4, embedded := false, tag := "", pkgPath := "", byteOffset := 48 }]), size := 5, bytes := 72, zero := .agg #[.int .i64 0, .string ByteArray.empty, .string ByteArray.empty, .int .i64 0, .slice none 0 0], cells := [.int .i64, .str, .str, .int .i64, .sl] }
def ti65 : TI := { desc := (Go.TypeDesc.struct #[{ name := "Kind", type := 3, offset := 0, embedded := false, tag := "", pkgPath := "", byteOffset := 0 }, { name := "A", type := 9, offset := 1, embedded := false, tag := "", pkgPath := "", byteOffset := 8 }, { name := "B", type := 9, offset := 2, embedded := false, tag := "", pkgPath := "", byteOffset := 24 }, { name := "N", type := 3, offset := 3, embedded := false, tag := "", pkgPath := "", byteOffset := 40 }, { name := "Keep", type := 63, offset := 4, embedded := false, tag := "", pkgPath := "", byteOffset := 48 }]), size := 5, bytes := 72, zero := .agg #[.int .i64 0, .string ByteArray.empty, .string ByteArray.empty, .int .i64 0, .slice none 0 0], cells := [.int .i64, .str, .str, .int .i64, .sl] }
def ti66 : TI := { desc := (Go.TypeDesc.slice 9), size := 1, bytes := 24, zero := .slice none 0 0, cells := [.sl] }
def ti67 : TI := { desc := (Go.TypeDesc.func #[] #[66] false), size := 1, bytes := 8, zero := .nilFunc, cells := [.raw] }
def ti69 : TI := { desc := (Go.TypeDesc.func #[9] #[3, 4] false), size := 1, bytes := 8, zero := .nilFunc, cells := [.raw] }
def ti70 : TI := { desc := (Go.TypeDesc.struct #[{ name := "Name", type := 9, offset := 0, embedded := false, tag := "", pkgPath := "", byteOffset := 0 }, { name := "N", type := 3, offset := 1, embedded := false, tag := "", pkgPath := "", byteOffset := 16 }]), size := 2, bytes := 24, zero := .agg #[.string ByteArray.empty, .int .i64 0], cells := [.str, .int .i64] }
def ti71 : TI := { desc := (Go.TypeDesc.struct #[{ name := "Name", type := 9, offset := 0, embedded := false, tag := "", pkgPath := "", byteOffset := 0 }, { name := "N", type := 3, offset := 1, embedded := false, tag := "", pkgPath := "", byteOffset := 16 }]), size := 2, bytes := 24, zero := .agg #[.string ByteArray.empty, .int .i64 0], cells := [.str, .int .i64] }
def ti72 : TI := { desc := (Go.TypeDesc.func #[57, 9] #[3] false), size := 1, bytes := 8, zero := .nilFunc, cells := [.raw] }
def ti73 : TI := { desc := (Go.TypeDesc.func #[53, 9] #[4] false), size := 1, bytes := 8, zero := .nilFunc, cells := [.raw] }
def ti74 : TI := { desc := (Go.TypeDesc.func #[63] #[] true), size := 1, bytes := 8, zero := .nilFunc, cells := [.raw] }
def ti75 : TI := { desc := (Go.TypeDesc.func #[9] #[4] false), size := 1, bytes := 8, zero := .nilFunc, cells := [.raw] }
def ti76 : TI := { desc := (Go.TypeDesc.slice 85), size := 1, bytes := 24, zero := .slice none 0 0, cells := [.sl] }
def ti77 : TI := { desc := (Go.TypeDesc.struct #[{ name := "Keep", type := 63, offset := 0, embedded := false, tag := "", pkgPath := "", byteOffset := 0 }, { name := "Sizes", type := 47, offset := 1, embedded := false, tag := "", pkgPath := "", byteOffset := 24 }, { name := "Cuts", type := 47, offset := 2, embedded := false, tag := "", pkgPath := "", byteOffset := 48 }]), size := 3, bytes := 72, zero := .agg #[.slice none 0 0, .slice none 0 0, .slice none 0 0], cells := [.sl, .sl, .sl] }
def ti78 : TI := { desc := (Go.TypeDesc.struct #[{ name := "Keep", type := 63, offset := 0, embedded := false, tag := "", pkgPath := "", byteOffset := 0 }, { name := "Sizes", type := 47, offset := 1, embedded := false, tag := "", pkgPath := "", byteOffset := 24 }, { name := "Cuts", type := 47, offset := 2, embedded := false, tag := "", pkgPath := "", byteOffset := 48 }]), size := 3, bytes := 72, zero := .agg #[.slice none 0 0, .slice none 0 0, .slice none 0 0], cells := [.sl, .sl, .sl] }
def ti79 : TI := { desc := (Go.TypeDesc.func #[76] #[3] false), size := 1, bytes := 8, zero := .nilFunc, cells := [.raw] }
def ti80 : TI := { desc := (Go.TypeDesc.pointer 92), size := 1, bytes := 8, zero := .pointer none, cells := [.raw] }
def ti81 : TI := { desc := (Go.TypeDesc.func #[3] #[80] false), size := 1, bytes := 8, zero := .nilFunc, cells := [.raw] }
def ti82 : TI := { desc := (Go.TypeDesc.func #[9] #[29] false), size := 1, bytes := 8, zero := .nilFunc, cells := [.raw] }
def ti83 : TI := { desc := (Go.TypeDesc.func #[9, 123] #[29] true), size := 1, bytes := 8, zero := .nilFunc, cells := [.raw] }
def ti84 : TI := { desc := (Go.TypeDesc.struct #[{ name := "Kind", type := 3, offset := 0, embedded := false, tag := "", pkgPath := "", byteOffset := 0 }, { name := "A", type := 9, offset := 1, embedded := false, tag := "", pkgPath := "", byteOffset := 8 }, { name := "B", type := 9, offset := 2, embedded := false, tag := "", pkgPath := "", byteOffset := 24 }, { name := "Data", type := 38, offset := 3, embedded := false, tag := "", pkgPath := "", byteOffset := 40 }, { name := "N", type := 3, offset := 4, embedded := false, tag := "", pkgPath := "", byteOffset := 64 }, { name := "Kept", type := 63, offset := 5, embedded := false, tag := "", pkgPath := "", byteOffset := 72 }, { name := "Sizes", type := 47, offset := 6, embedded := false, tag := "", pkgPath := "", byteOffset := 96 }, { name := "Cuts", type := 47, offset := 7, embedded := false, tag := "", pkgPath := "", byteOffset := 120 }]), size := 8, bytes := 144, zero := .agg #[.int .i64 0, .string ByteArray.empty, .string ByteArray.empty, .slice none 0 0, .int .i64 0, .slice none 0 0, .slice none 0 0, .slice none 0 0], cells := [.int .i64, .str, .str, .sl, .int .i64, .sl, .sl, .sl] }
def ti85 : TI := { desc := (Go.TypeDesc.struct #[{ name := "Kind", type := 3, offset := 0, embedded := false, tag := "", pkgPath := "", byteOffset := 0 }, { name := "A", type := 9, offset := 1, embedded := false, tag := "", pkgPath := "", byteOffset := 8 }, { name := "B", type := 9, offset := 2, embedded := false, tag := "", pkgPath := "", byteOffset := 24 }, { name := "Data", type := 38, offset := 3, embedded := false, tag := "", pkgPath := "", byteOffset := 40 }, { name := "N", type := 3, offset := 4, embedded := false, tag := "", pkgPath := "", byteOffset := 64 }, { name := "Kept", type := 63, offset := 5, embedded := false, tag := "", pkgPath := "", byteOffset := 72 }, { name := "Sizes", type := 47, offset := 6, embedded := false, tag := "", pkgPath := "", byteOffset := 96 }, { name := "Cuts", type := 47, offset := 7, embedded := false, tag := "", pkgPath := "", byteOffset := 120 }]), size := 8, bytes := 144, zero := .agg #[.int .i64 0, .string ByteArray.empty, .string ByteArray.empty, .slice none 0 0, .int .i64 0, .slice none 0 0, .slice none 0 0, .slice none 0 0], cells := [.int .i64, .str, .str, .sl, .int .i64, .sl, .sl, .sl] }
def ti86 : TI := { desc := (Go.TypeDesc.func #[80, 85] #[3] false), size := 1, bytes := 8, zero := .nilFunc, cells := [.raw] }
def ti87 : TI := { desc := (Go.TypeDesc.func #[78] #[] false), size := 1, bytes := 8, zero := .nilFunc, cells := [.raw] }
def ti89 : TI := { desc := (Go.TypeDesc.func #[9] #[38, 29] false), size := 1, bytes := 8, zero := .nilFunc, cells := [.raw] }
def ti90 : TI := { desc := (Go.TypeDesc.map 3 41), size := 1, bytes := 8, zero := .map none, cells := [.raw] }
def ti91 : TI := { desc := (Go.TypeDesc.struct #[{ name := "Meter", type := 24, offset := 0, embedded := true, tag := "", pkgPath := "", byteOffset := 0 }, { name := "names", type := 55, offset := 1, embedded := false, tag := "", pkgPath := "repertory/disk", byteOffset := 8 }, { name := "files", type := 90, offset := 2, embedded := false, tag := "", pkgPath := "repertory/disk", byteOffset := 16 }, { name := "next", type := 3, offset := 3, embedded := false, tag := "", pkgPath := "repertory/disk", byteOffset := 24 }, { name := "room", type := 3, offset := 4, embedded := false, tag := "", pkgPath := "repertory/disk", byteOffset := 32 }]), size := 5, bytes := 40, zero := .agg #[.pointer none, .pointer none, .map none, .int .i64 0, .int .i64 0], cells := [.raw, .raw, .raw, .int .i64, .int .i64] }
def ti92 : TI := { desc := (Go.TypeDesc.struct #[{ name := "Meter", type := 24, offset := 0, embedded := true, tag := "", pkgPath := "", byteOffset := 0 }, { name := "names", type := 55, offset := 1, embedded := false, tag := "", pkgPath := "repertory/disk", byteOffset := 8 }, { name := "files", type := 90, offset := 2, embedded := false, tag := "", pkgPath := "repertory/disk", byteOffset := 16 }, { name := "next", type := 3, offset := 3, embedded := false, tag := "", pkgPath := "repertory/disk", byteOffset := 24 }, { name := "room", type := 3, offset := 4, embedded := false, tag := "", pkgPath := "repertory/disk", byteOffset := 32 }]), size := 5, bytes := 40, zero := .agg #[.pointer none, .pointer none, .map none, .int .i64 0, .int .i64 0], cells := [.raw, .raw, .raw, .int .i64, .int .i64] }
def ti93 : TI := { desc := (Go.TypeDesc.func #[38, 76, 78] #[4] false), size := 1, bytes := 8, zero := .nilFunc, cells := [.raw] }
def ti94 : TI := { desc := (Go.TypeDesc.struct #[{ name := "steps", type := 3, offset := 0, embedded := false, tag := "", pkgPath := "repertory/fault", byteOffset := 0 }, { name := "down", type := 4, offset := 1, embedded := false, tag := "", pkgPath := "repertory/fault", byteOffset := 8 }, { name := "armed", type := 26, offset := 2, embedded := false, tag := "", pkgPath := "repertory/fault", byteOffset := 16 }]), size := 3, bytes := 40, zero := .agg #[.int .i64 0, .bool false, .slice none 0 0], cells := [.int .i64, .bool, .sl] }
def ti95 : TI := { desc := (Go.TypeDesc.struct #[{ name := "steps", type := 3, offset := 0, embedded := false, tag := "", pkgPath := "repertory/fault", byteOffset := 0 }, { name := "down", type := 4, offset := 1, embedded := false, tag := "", pkgPath := "repertory/fault", byteOffset := 8 }, { name := "armed", type := 26, offset := 2, embedded := false, tag := "", pkgPath := "repertory/fault", byteOffset := 16 }]), size := 3, bytes := 40, zero := .agg #[.int .i64 0, .bool false, .slice none 0 0], cells := [.int .i64, .bool, .sl] }
def ti96 : TI := { desc := (Go.TypeDesc.func #[26, 33] #[3] false), size := 1, bytes := 8, zero := .nilFunc, cells := [.raw] }
def ti97 : TI := { desc := (Go.TypeDesc.func #[38] #[4] true), size := 1, bytes := 8, zero := .nilFunc, cells := [.raw] }
def ti98 : TI := { desc := (Go.TypeDesc.func #[3, 47] #[3] true), size := 1, bytes := 8, zero := .nilFunc, cells := [.raw] }
def ti99 : TI := { desc := (Go.TypeDesc.struct #[{ name := "b", type := 38, offset := 0, embedded := false, tag := "", pkgPath := "repertory/inode", byteOffset := 0 }, { name := "safe", type := 3, offset := 1, embedded := false, tag := "", pkgPath := "repertory/inode", byteOffset := 24 }]), size := 2, bytes := 32, zero := .agg #[.slice none 0 0, .int .i64 0], cells := [.sl, .int .i64] }
def ti100 : TI := { desc := (Go.TypeDesc.struct #[{ name := "b", type := 38, offset := 0, embedded := false, tag := "", pkgPath := "repertory/inode", byteOffset := 0 }, { name := "safe", type := 3, offset := 1, embedded := false, tag := "", pkgPath := "repertory/inode", byteOffset := 24 }]), size := 2, bytes := 32, zero := .agg #[.slice none 0 0, .int .i64 0], cells := [.sl, .int .i64] }
def ti101 : TI := { desc := (Go.TypeDesc.func #[44, 3, 47] #[38] false), size := 1, bytes := 8, zero := .nilFunc, cells := [.raw] }
def ti102 : TI := { desc := (Go.TypeDesc.func #[44, 49] #[3] false), size := 1, bytes := 8, zero := .nilFunc, cells := [.raw] }
def ti103 : TI := { desc := (Go.TypeDesc.func #[38, 3] #[38] false), size := 1, bytes := 8, zero := .nilFunc, cells := [.raw] }
def ti104 : TI := { desc := (Go.TypeDesc.func #[3] #[4] false), size := 1, bytes := 8, zero := .nilFunc, cells := [.raw] }
def ti105 : TI := { desc := (Go.TypeDesc.func #[3] #[3] false), size := 1, bytes := 8, zero := .nilFunc, cells := [.raw] }
def ti106 : TI := { desc := (Go.TypeDesc.func #[9, 3] #[4] false), size := 1, bytes := 8, zero := .nilFunc, cells := [.raw] }
def ti107 : TI := { desc := (Go.TypeDesc.func #[9, 9] #[4] false), size := 1, bytes := 8, zero := .nilFunc, cells := [.raw] }
def ti108 : TI := { desc := (Go.TypeDesc.map 9 3), size := 1, bytes := 8, zero := .map none, cells := [.raw] }
def ti109 : TI := { desc := (Go.TypeDesc.slice 119), size := 1, bytes := 24, zero := .slice none 0 0, cells := [.sl] }
def ti110 : TI := { desc := (Go.TypeDesc.struct #[{ name := "now", type := 108, offset := 0, embedded := false, tag := "", pkgPath := "repertory/dir", byteOffset := 0 }, { name := "safe", type := 108, offset := 1, embedded := false, tag := "", pkgPath := "repertory/dir", byteOffset := 8 }, { name := "ops", type := 109, offset := 2, embedded := false, tag := "", pkgPath := "repertory/dir", byteOffset := 16 }]), size := 3, bytes := 40, zero := .agg #[.map none, .map none, .slice none 0 0], cells := [.raw, .raw, .sl] }
def ti111 : TI := { desc := (Go.TypeDesc.struct #[{ name := "now", type := 108, offset := 0, embedded := false, tag := "", pkgPath := "repertory/dir", byteOffset := 0 }, { name := "safe", type := 108, offset := 1, embedded := false, tag := "", pkgPath := "repertory/dir", byteOffset := 8 }, { name := "ops", type := 109, offset := 2, embedded := false, tag := "", pkgPath := "repertory/dir", byteOffset := 16 }]), size := 3, bytes := 40, zero := .agg #[.map none, .map none, .slice none 0 0], cells := [.raw, .raw, .sl] }
def ti112 : TI := { desc := (Go.TypeDesc.func #[60, 63] #[60] false), size := 1, bytes := 8, zero := .nilFunc, cells := [.raw] }
def ti113 : TI := { desc := (Go.TypeDesc.struct #[{ name := "Kind", type := 3, offset := 0, embedded := false, tag := "", pkgPath := "", byteOffset := 0 }, { name := "A", type := 9, offset := 1, embedded := false, tag := "", pkgPath := "", byteOffset := 8 }, { name := "B", type := 9, offset := 2, embedded := false, tag := "", pkgPath := "", byteOffset := 24 }, { name := "N", type := 3, offset := 3, embedded := false, tag := "", pkgPath := "", byteOffset := 40 }]), size := 4, bytes := 48, zero := .agg #[.int .i64 0, .string ByteArray.empty, .string ByteArray.empty, .int .i64 0], cells := [.int .i64, .str, .str, .int .i64] }
def ti114 : TI := { desc := (Go.TypeDesc.struct #[{ name := "Kind", type := 3, offset := 0, embedded := false, tag := "", pkgPath := "", byteOffset := 0 }, { name := "A", type := 9, offset := 1, embedded := false, tag := "", pkgPath := "", byteOffset := 8 }, { name := "B", type := 9, offset := 2, embedded := false, tag := "", pkgPath := "", byteOffset := 24 }, { name := "N", type := 3, offset := 3, embedded := false, tag := "", pkgPath := "", byteOffset := 40 }]), size := 4, bytes := 48, zero := .agg #[.int .i64 0, .string ByteArray.empty, .string ByteArray.empty, .int .i64 0], cells := [.int .i64, .str, .str, .int .i64] }
def ti115 : TI := { desc := (Go.TypeDesc.func #[57, 114] #[4] false), size := 1, bytes := 8, zero := .nilFunc, cells := [.raw] }
def ti116 : TI := { desc := (Go.TypeDesc.func #[60, 114] #[60] false), size := 1, bytes := 8, zero := .nilFunc, cells := [.raw] }
def ti117 : TI := { desc := (Go.TypeDesc.func #[66] #[] false), size := 1, bytes := 8, zero := .nilFunc, cells := [.raw] }
def ti118 : TI := { desc := (Go.TypeDesc.struct #[{ name := "kind", type := 3, offset := 0, embedded := false, tag := "", pkgPath := "repertory/dir", byteOffset := 0 }, { name := "a", type := 9, offset := 1, embedded := false, tag := "", pkgPath := "repertory/dir", byteOffset := 8 }, { name := "b", type := 9, offset := 2, embedded := false, tag := "", pkgPath := "repertory/dir", byteOffset := 24 }, { name := "n", type := 3, offset := 3, embedded := false, tag := "", pkgPath := "repertory/dir", byteOffset := 40 }]), size := 4, bytes := 48, zero := .agg #[.int .i64 0, .string ByteArray.empty, .string ByteArray.empty, .int .i64 0], cells := [.int .i64, .str, .str, .int .i64] }
def ti119 : TI := { desc := (Go.TypeDesc.struct #[{ name := "kind", type := 3, offset := 0, embedded := false, tag := "", pkgPath := "repertory/dir", byteOffset := 0 }, { name := "a", type := 9, offset := 1, embedded := false, tag := "", pkgPath := "repertory/dir", byteOffset := 8 }, { name := "b", type := 9, offset := 2, embedded := false, tag := "", pkgPath := "repertory/dir", byteOffset := 24 }, { name := "n", type := 3, offset := 3, embedded := false, tag := "", pkgPath := "repertory/dir", byteOffset := 40 }]), size := 4, bytes := 48, zero := .agg #[.int .i64 0, .string ByteArray.empty, .string ByteArray.empty, .int .i64 0], cells := [.int .i64, .str, .str, .int .i64] }
def ti120 : TI := { desc := (Go.TypeDesc.func #[108, 119] #[] false), size := 1, bytes := 8, zero := .nilFunc, cells := [.raw] }
def ti121 : TI := { desc := (Go.TypeDesc.func #[108] #[108] false), size := 1, bytes := 8, zero := .nilFunc, cells := [.raw] }
def ti122 : TI := { desc := (Go.TypeDesc.func #[9] #[41] false), size := 1, bytes := 8, zero := .nilFunc, cells := [.raw] }
def ti123 : TI := { desc := (Go.TypeDesc.slice 38), size := 1, bytes := 24, zero := .slice none 0 0, cells := [.sl] }
def ti124 : TI := { desc := (Go.TypeDesc.func #[9, 9] #[29] false), size := 1, bytes := 8, zero := .nilFunc, cells := [.raw] }
def ti125 : TI := { desc := (Go.TypeDesc.func #[119] #[4] false), size := 1, bytes := 8, zero := .nilFunc, cells := [.raw] }
def ti126 : TI := { desc := (Go.TypeDesc.func #[57, 114] #[57] false), size := 1, bytes := 8, zero := .nilFunc, cells := [.raw] }
def ti127 : TI := { desc := (Go.TypeDesc.func #[66, 3, 3, 3] #[] false), size := 1, bytes := 8, zero := .nilFunc, cells := [.raw] }
def ti128 : TI := { desc := (Go.TypeDesc.func #[129] #[3] false), size := 1, bytes := 8, zero := .nilFunc, cells := [.raw] }
def ti129 : TI := { desc := (Go.TypeDesc.int Go.IntKind.u64), size := 1, bytes := 8, zero := .int .u64 0, cells := [.int .u64] }
def ti130 : TI := { desc := (Go.TypeDesc.func #[20] #[20] false), size := 1, bytes := 8, zero := .nilFunc, cells := [.raw] }
def ti131 : TI := { desc := (Go.TypeDesc.func #[57, 9, 3] #[57] false), size := 1, bytes := 8, zero := .nilFunc, cells := [.raw] }
def ti132 : TI := { desc := (Go.TypeDesc.func #[57, 9] #[57] false), size := 1, bytes := 8, zero := .nilFunc, cells := [.raw] }
def ti133 : TI := { desc := (Go.TypeDesc.func #[66, 3, 3] #[] false), size := 1, bytes := 8, zero := .nilFunc, cells := [.raw] }
def ti134 : TI := { desc := (Go.TypeDesc.int Go.IntKind.i64), size := 1, bytes := 8, zero := .int .i64 0, cells := [.int .i64] }
def ti136 : TI := { desc := (Go.TypeDesc.func #[66, 3, 3] #[3, 134] false), size := 1, bytes := 8, zero := .nilFunc, cells := [.raw] }
def ti137 : TI := { desc := (Go.TypeDesc.func #[66, 3, 3] #[4] false), size := 1, bytes := 8, zero := .nilFunc, cells := [.raw] }
def ti138 : TI := { desc := (Go.TypeDesc.func #[66, 3, 3, 3] #[3] false), size := 1, bytes := 8, zero := .nilFunc, cells := [.raw] }
def ti139 : TI := { desc := (Go.TypeDesc.func #[66, 3, 3, 3] #[3, 4] false), size := 1, bytes := 8, zero := .nilFunc, cells := [.raw] }
def ti140 : TI := { desc := (Go.TypeDesc.func #[141] #[3] false), size := 1, bytes := 8, zero := .nilFunc, cells := [.raw] }
def ti141 : TI := { desc := (Go.TypeDesc.int Go.IntKind.u32), size := 1, bytes := 4, zero := .int .u32 0, cells := [.int .u32] }
def ti142 : TI := { desc := (Go.TypeDesc.func #[143] #[3] false), size := 1, bytes := 8, zero := .nilFunc, cells := [.raw] }
def ti143 : TI := { desc := (Go.TypeDesc.int Go.IntKind.u64), size := 1, bytes := 8, zero := .int .u64 0, cells := [.int .u64] }
def ti144 : TI := { desc := (Go.TypeDesc.int Go.IntKind.u64), size := 1, bytes := 8, zero := .int .u64 0, cells := [.int .u64] }
def ti145 : TI := { desc := (Go.TypeDesc.func #[3] #[129] false), size := 1, bytes := 8, zero := .nilFunc, cells := [.raw] }
def ti146 : TI := { desc := (Go.TypeDesc.func #[] #[143] false), size := 1, bytes := 8, zero := .nilFunc, cells := [.raw] }
def ti147 : TI := { desc := (Go.TypeDesc.func #[66, 3, 148] #[3] false), size := 1, bytes := 8, zero := .nilFunc, cells := [.raw] }
def ti148 : TI := { desc := (Go.TypeDesc.pointer 3), size := 1, bytes := 8, zero := .pointer none, cells := [.raw] }
def ti149 : TI := { desc := (Go.TypeDesc.func #[66, 3, 3, 3, 148] #[3] false), size := 1, bytes := 8, zero := .nilFunc, cells := [.raw] }
def ti150 : TI := { desc := (Go.TypeDesc.pointer 144), size := 1, bytes := 8, zero := .pointer none, cells := [.raw] }
def ti152 : TI := { desc := (Go.TypeDesc.func #[66, 3, 3, 148] #[3, 3] false), size := 1, bytes := 8, zero := .nilFunc, cells := [.raw] }
def ti153 : TI := { desc := (Go.TypeDesc.func #[] #[9] false), size := 1, bytes := 8, zero := .nilFunc, cells := [.raw] }
def ti154 : TI := { desc := (Go.TypeDesc.struct #[{ name := "_interface", type := 17, offset := 0, embedded := false, tag := "", pkgPath := "runtime", byteOffset := 0 }, { name := "concrete", type := 17, offset := 1, embedded := false, tag := "", pkgPath := "runtime", byteOffset := 8 }, { name := "asserted", type := 17, offset := 2, embedded := false, tag := "", pkgPath := "runtime", byteOffset := 16 }, { name := "missingMethod", type := 9, offset := 3, embedded := false, tag := "", pkgPath := "runtime", byteOffset := 24 }]), size := 4, bytes := 40, zero := .agg #[.pointer none, .pointer none, .pointer none, .string ByteArray.empty], cells := [.raw, .raw, .raw, .str] }
def ti155 : TI := { desc := (Go.TypeDesc.struct #[{ name := "_interface", type := 17, offset := 0, embedded := false, tag := "", pkgPath := "runtime", byteOffset := 0 }, { name := "concrete", type := 17, offset := 1, embedded := false, tag := "", pkgPath := "runtime", byteOffset := 8 }, { name := "asserted", type := 17, offset := 2, embedded := false, tag := "", pkgPath := "runtime", byteOffset := 16 }, { name := "missingMethod", type := 9, offset := 3, embedded := false, tag := "", pkgPath := "runtime", byteOffset := 24 }]), size := 4, bytes := 40, zero := .agg #[.pointer none, .pointer none, .pointer none, .string ByteArray.empty], cells := [.raw, .raw, .raw, .str] }
def ti156 : TI := { desc := (Go.TypeDesc.array 0 16), size := 0, bytes := 0, zero := .agg #[], cells := [] }
def ti157 : TI := { desc := (Go.TypeDesc.struct #[{ name := "_", type := 156, offset := 0, embedded := false, tag := "", pkgPath := "runtime", byteOffset := 0 }]), size := 0, bytes := 0, zero := .agg #[], cells := [] }
def ti158 : TI := { desc := (Go.TypeDesc.struct #[{ name := "_", type := 156, offset := 0, embedded := false, tag := "", pkgPath := "runtime", byteOffset := 0 }]), size := 0, bytes := 0, zero := .agg #[], cells := [] }
def ti159 : TI := { desc := (Go.TypeDesc.int Go.IntKind.u8), size := 1, bytes := 1, zero := .int .u8 0, cells := [.int .u8] }
def ti160 : TI := { desc := (Go.TypeDesc.int Go.IntKind.u8), size := 1, bytes := 1, zero := .int .u8 0, cells := [.int .u8] }
def ti161 : TI := { desc := (Go.TypeDesc.func #[167, 167] #[4] false), size := 1, bytes := 8, zero := .nilFunc, cells := [.raw] }
def ti162 : TI := { desc := (Go.TypeDesc.pointer 5), size := 1, bytes := 8, zero := .pointer none, cells := [.raw] }
def ti163 : TI := { desc := (Go.TypeDesc.int Go.IntKind.i32), size := 1, bytes := 4, zero := .int .i32 0, cells := [.int .i32] }
def ti164 : TI := { desc := (Go.TypeDesc.int Go.IntKind.i32), size := 1, bytes := 4, zero := .int .i32 0, cells := [.int .i32] }
def ti165 : TI := { desc := (Go.TypeDesc.struct #[{ name := "Size_", type := 12, offset := 0, embedded := false, tag := "", pkgPath := "", byteOffset := 0 }, { name := "PtrBytes", type := 12, offset := 1, embedded := false, tag := "", pkgPath := "", byteOffset := 8 }, { name := "Hash", type := 141, offset := 2, embedded := false, tag := "", pkgPath := "", byteOffset := 16 }, { name := "TFlag", type := 159, offset := 3, embedded := false, tag := "", pkgPath := "", byteOffset := 20 }, { name := "Align_", type := 5, offset := 4, embedded := false, tag := "", pkgPath := "", byteOffset := 21 }, { name := "FieldAlign_", type := 5, offset := 5, embedded := false, tag := "", pkgPath := "", byteOffset := 22 }, { name := "Kind_", type := 160, offset := 6, embedded := false, tag := "", pkgPath := "", byteOffset := 23 }, { name := "Equal", type := 161, offset := 7, embedded := false, tag := "", pkgPath := "", byteOffset := 24 }, { name := "GCData", type := 162, offset := 8, embedded := false, tag := "", pkgPath := "", byteOffset := 32 }, { name := "Str", type := 163, offset := 9, embedded := false, tag := "", pkgPath := "", byteOffset := 40 }, { name := "PtrToThis", type := 164, offset := 10, embedded := false, tag := "", pkgPath := "", byteOffset := 44 }]), size := 11, bytes := 48, zero := .agg #[.int .u64 0, .int .u64 0, .int .u32 0, .int .u8 0, .int .u8 0, .int .u8 0, .int .u8 0, .nilFunc, .pointer none, .int .i32 0, .int .i32 0], cells := [.int .u64, .int .u64, .int .u32, .int .u8, .int .u8, .int .u8, .int .u8, .raw, .raw, .int .i32, .int .i32] }
def ti166 : TI := { desc := (Go.TypeDesc.struct #[{ name := "Size_", type := 12, offset := 0, embedded := false, tag := "", pkgPath := "", byteOffset := 0 }, { name := "PtrBytes", type := 12, offset := 1, embedded := false, tag := "", pkgPath := "", byteOffset := 8 }, { name := "Hash", type := 141, offset := 2, embedded := false, tag := "", pkgPath := "", byteOffset := 16 }, { name := "TFlag", type := 159, offset := 3, embedded := false, tag := "", pkgPath := "", byteOffset := 20 }, { name := "Align_", type := 5, offset := 4, embedded := false, tag := "", pkgPath := "", byteOffset := 21 }, { name := "FieldAlign_", type := 5, offset := 5, embedded := false, tag := "", pkgPath := "", byteOffset := 22 }, { name := "Kind_", type := 160, offset := 6, embedded := false, tag := "", pkgPath := "", byteOffset := 23 }, { name := "Equal", type := 161, offset := 7, embedded := false, tag := "", pkgPath := "", byteOffset := 24 }, { name := "GCData", type := 162, offset := 8, embedded := false, tag := "", pkgPath := "", byteOffset := 32 }, { name := "Str", type := 163, offset := 9, embedded := false, tag := "", pkgPath := "", byteOffset := 40 }, { name := "PtrToThis", type := 164, offset := 10, embedded := false, tag := "", pkgPath := "", byteOffset := 44 }]), size := 11, bytes := 48, zero := .agg #[.int .u64 0, .int .u64 0, .int .u32 0, .int .u8 0, .int .u8 0, .int .u8 0, .int .u8 0, .nilFunc, .pointer none, .int .i32 0, .int .i32 0], cells := [.int .u64, .int .u64, .int .u32, .int .u8, .int .u8, .int .u8, .int .u8, .raw, .raw, .int .i32, .int .i32] }
def ti167 : TI := { desc := Go.TypeDesc.unsafePointer, size := 1, bytes := 8, zero := .pointer none, cells := [.raw] }
def T_0 : TT
  | 1 => some ti1
  | 2 => some ti2
  | 3 => some ti3
  | 4 => some ti4
  | 5 => some ti5
  | 6 => some ti6
  | 7 => some ti7
  | 8 => some ti8
  | 9 => some ti9
  | 10 => some ti10
  | 11 => some ti11
  | 12 => some ti12
  | 13 => some ti13
  | 14 => some ti14
  | 15 => some ti15
  | 16 => some ti16
  | 17 => some ti17
  | 18 => some ti18
  | 19 => some ti19
  | 20 => some ti20
  | 21 => some ti21
  | 22 => some ti22
  | 23 => some ti23
  | 24 => some ti24
  | _ => none
def T_1 : TT
  | 25 => some ti25
  | 26 => some ti26
  | 27 => some ti27
  | 28 => some ti28
  | 29 => some ti29
  | 30 => some ti30
  | 31 => some ti31
  | 32 => some ti32
  | 33 => some ti33
  | 34 => some ti34
  | 35 => some ti35
  | 36 => some ti36
  | 37 => some ti37
  | 38 => some ti38
  | 39 => some ti39
  | 40 => some ti40
  | 41 => some ti41
  | 42 => some ti42
  | 43 => some ti43
  | 44 => some ti44
  | 46 => some ti46
  | 47 => some ti47
  | 48 => some ti48
  | 49 => some ti49
  | _ => none
def T_2 : TT
  | 50 => some ti50
  | 51 => some ti51
  | 52 => some ti52
  | 53 => some ti53
  | 54 => some ti54
  | 55 => some ti55
  | 56 => some ti56
  | 57 => some ti57
  | 58 => some ti58
  | 59 => some ti59
  | 60 => some ti60
  | 62 => some ti62
  | 63 => some ti63
  | 64 => some ti64
  | 65 => some ti65
  | 66 => some ti66
  | 67 => some ti67
  | 69 => some ti69
  | 70 => some ti70
  | 71 => some ti71
  | 72 => some ti72
  | 73 => some ti73
  | 74 => some ti74
  | 75 => some ti75
  | _ => none
def T_3 : TT
  | 76 => some ti76
  | 77 => some ti77
  | 78 => some ti78
  | 79 => some ti79
  | 80 => some ti80
  | 81 => some ti81
  | 82 => some ti82
  | 83 => some ti83
  | 84 => some ti84
  | 85 => some ti85
  | 86 => some ti86
  | 87 => some ti87
  | 89 => some ti89
  | 90 => some ti90
  | 91 => some ti91
  | 92 => some ti92
  | 93 => some ti93
  | 94 => some ti94
  | 95 => some ti95
  | 96 => some ti96
  | 97 => some ti97
  | 98 => some ti98
  | 99 => some ti99
  | 100 => some ti100
  | _ => none
def T_4 : TT
  | 101 => some ti101
  | 102 => some ti102
  | 103 => some ti103
  | 104 => some ti104
  | 105 => some ti105
  | 106 => some ti106
  | 107 => some ti107
  | 108 => some ti108
  | 109 => some ti109
  | 110 => some ti110
  | 111 => some ti111
  | 112 => some ti112
  | 113 => some ti113
  | 114 => some ti114
  | 115 => some ti115
  | 116 => some ti116
  | 117 => some ti117
  | 118 => some ti118
  | 119 => some ti119
  | 120 => some ti120
  | 121 => some ti121
  | 122 => some ti122
  | 123 => some ti123
  | 124 => some ti124
  | _ => none
def T_5 : TT
  | 125 => some ti125
  | 126 => some ti126
  | 127 => some ti127
  | 128 => some ti128
  | 129 => some ti129
  | 130 => some ti130
  | 131 => some ti131
  | 132 => some ti132
  | 133 => some ti133
  | 134 => some ti134
  | 136 => some ti136
  | 137 => some ti137
  | 138 => some ti138
  | 139 => some ti139
  | 140 => some ti140
  | 141 => some ti141
  | 142 => some ti142
  | 143 => some ti143
  | 144 => some ti144
  | 145 => some ti145
  | 146 => some ti146
  | 147 => some ti147
  | 148 => some ti148
  | 149 => some ti149
  | _ => none
def T_6 : TT
  | 150 => some ti150
  | 152 => some ti152
  | 153 => some ti153
  | 154 => some ti154
  | 155 => some ti155
  | 156 => some ti156
  | 157 => some ti157
  | 158 => some ti158
  | 159 => some ti159
  | 160 => some ti160
  | 161 => some ti161
  | 162 => some ti162
  | 163 => some ti163
  | 164 => some ti164
  | 165 => some ti165
  | 166 => some ti166
  | 167 => some ti167
  | _ => none
def T : TT := fun t => if t ≤ 24 then T_0 t else if t ≤ 49 then T_1 t else if t ≤ 75 then T_2 t else if t ≤ 100 then T_3 t else if t ≤ 124 then T_4 t else if t ≤ 149 then T_5 t else T_6 t
theorem tok_0 : TOk Try.prog T_0 := by
  intro t ti h
  unfold T_0 at h
  split at h
  · cases h; exact tok1 (by kernel_rfl) (by kernel_rfl) (by kernel_rfl)
  · cases h; exact tok1 (by kernel_rfl) (by kernel_rfl) (by kernel_rfl)
  · cases h; exact tok1 (by kernel_rfl) (by kernel_rfl) (by kernel_rfl)
  · cases h; exact tok1 (by kernel_rfl) (by kernel_rfl) (by kernel_rfl)
  · cases h; exact tok1 (by kernel_rfl) (by kernel_rfl) (by kernel_rfl)
  · cases h; exact tok1 (by kernel_rfl) (by kernel_rfl) (by kernel_rfl)
  · cases h; exact tok1 (by kernel_rfl) (by kernel_rfl) (by kernel_rfl)
  · cases h; exact tok1 (by kernel_rfl) (by kernel_rfl) (by kernel_rfl)
  · cases h; exact tok1 (by kernel_rfl) (by kernel_rfl) (by kernel_rfl)
  · cases h; exact tok1 (by kernel_rfl) (by kernel_rfl) (by kernel_rfl)
  · cases h; exact tok1 (by kernel_rfl) (by kernel_rfl) (by kernel_rfl)
  · cases h; exact tok1 (by kernel_rfl) (by kernel_rfl) (by kernel_rfl)
  · cases h; exact tok1 (by kernel_rfl) (by kernel_rfl) (by kernel_rfl)
  · cases h; exact tok1 (by kernel_rfl) (by kernel_rfl) (by kernel_rfl)
  · cases h; exact tok1 (by kernel_rfl) (by kernel_rfl) (by kernel_rfl)
  · cases h; exact tok1 (by kernel_rfl) (by kernel_rfl) (by kernel_rfl)
  · cases h; exact tok1 (by kernel_rfl) (by kernel_rfl) (by kernel_rfl)
  · cases h; exact tok1 (by kernel_rfl) (by kernel_rfl) (by kernel_rfl)
  · cases h; exact tok1 (by kernel_rfl) (by kernel_rfl) (by kernel_rfl)
  · cases h; exact tok1 (by kernel_rfl) (by kernel_rfl) (by kernel_rfl)
  · cases h; exact tok1 (by kernel_rfl) (by kernel_rfl) (by kernel_rfl)
  · cases h; exact tok1 (by kernel_rfl) (by kernel_rfl) (by kernel_rfl)
  · cases h; exact tok1 (by kernel_rfl) (by kernel_rfl) (by kernel_rfl)
  · cases h; exact tok1 (by kernel_rfl) (by kernel_rfl) (by kernel_rfl)
  · cases h
theorem tok_1 : TOk Try.prog T_1 := by
  intro t ti h
  unfold T_1 at h
  split at h
  · cases h; exact tok1 (by kernel_rfl) (by kernel_rfl) (by kernel_rfl)
  · cases h; exact tok1 (by kernel_rfl) (by kernel_rfl) (by kernel_rfl)
  · cases h; exact tok1 (by kernel_rfl) (by kernel_rfl) (by kernel_rfl)
  · cases h; exact tok1 (by kernel_rfl) (by kernel_rfl) (by kernel_rfl)
  · cases h; exact tok1 (by kernel_rfl) (by kernel_rfl) (by kernel_rfl)
  · cases h; exact tok1 (by kernel_rfl) (by kernel_rfl) (by kernel_rfl)
  · cases h; exact tok1 (by kernel_rfl) (by kernel_rfl) (by kernel_rfl)
  · cases h; exact tok1 (by kernel_rfl) (by kernel_rfl) (by kernel_rfl)
  · cases h; exact tok1 (by kernel_rfl) (by kernel_rfl) (by kernel_rfl)
  · cases h; exact tok1 (by kernel_rfl) (by kernel_rfl) (by kernel_rfl)
  · cases h; exact tok1 (by kernel_rfl) (by kernel_rfl) (by kernel_rfl)
  · cases h; exact tok1 (by kernel_rfl) (by kernel_rfl) (by kernel_rfl)
  · cases h; exact tok1 (by kernel_rfl) (by kernel_rfl) (by kernel_rfl)
  · cases h; exact tok1 (by kernel_rfl) (by kernel_rfl) (by kernel_rfl)
  · cases h; exact tok1 (by kernel_rfl) (by kernel_rfl) (by kernel_rfl)
  · cases h; exact tok1 (by kernel_rfl) (by kernel_rfl) (by kernel_rfl)
  · cases h; exact tok1 (by kernel_rfl) (by kernel_rfl) (by kernel_rfl)
  · cases h; exact tok1 (by kernel_rfl) (by kernel_rfl) (by kernel_rfl)
  · cases h; exact tok1 (by kernel_rfl) (by kernel_rfl) (by kernel_rfl)
  · cases h; exact tok1 (by kernel_rfl) (by kernel_rfl) (by kernel_rfl)
  · cases h; exact tok1 (by kernel_rfl) (by kernel_rfl) (by kernel_rfl)
  · cases h; exact tok1 (by kernel_rfl) (by kernel_rfl) (by kernel_rfl)
  · cases h; exact tok1 (by kernel_rfl) (by kernel_rfl) (by kernel_rfl)
  · cases h; exact tok1 (by kernel_rfl) (by kernel_rfl) (by kernel_rfl)
  · cases h
theorem tok_2 : TOk Try.prog T_2 := by
  intro t ti h
  unfold T_2 at h
  split at h
  · cases h; exact tok1 (by kernel_rfl) (by kernel_rfl) (by kernel_rfl)
  · cases h; exact tok1 (by kernel_rfl) (by kernel_rfl) (by kernel_rfl)
  · cases h; exact tok1 (by kernel_rfl) (by kernel_rfl) (by kernel_rfl)
  · cases h; exact tok1 (by kernel_rfl) (by kernel_rfl) (by kernel_rfl)
  · cases h; exact tok1 (by kernel_rfl) (by kernel_rfl) (by kernel_rfl)
  · cases h; exact tok1 (by kernel_rfl) (by kernel_rfl) (by kernel_rfl)
  · cases h; exact tok1 (by kernel_rfl) (by kernel_rfl) (by kernel_rfl)
  · cases h; exact tok1 (by kernel_rfl) (by kernel_rfl) (by kernel_rfl)
  · cases h; exact tok1 (by kernel_rfl) (by kernel_rfl) (by kernel_rfl)
  · cases h; exact tok1 (by kernel_rfl) (by kernel_rfl) (by kernel_rfl)
  · cases h; exact tok1 (by kernel_rfl) (by kernel_rfl) (by kernel_rfl)
  · cases h; exact tok1 (by kernel_rfl) (by kernel_rfl) (by kernel_rfl)
  · cases h; exact tok1 (by kernel_rfl) (by kernel_rfl) (by kernel_rfl)
  · cases h; exact tok1 (by kernel_rfl) (by kernel_rfl) (by kernel_rfl)
  · cases h; exact tok1 (by kernel_rfl) (by kernel_rfl) (by kernel_rfl)
  · cases h; exact tok1 (by kernel_rfl) (by kernel_rfl) (by kernel_rfl)
  · cases h; exact tok1 (by kernel_rfl) (by kernel_rfl) (by kernel_rfl)
  · cases h; exact tok1 (by kernel_rfl) (by kernel_rfl) (by kernel_rfl)
  · cases h; exact tok1 (by kernel_rfl) (by kernel_rfl) (by kernel_rfl)
  · cases h; exact tok1 (by kernel_rfl) (by kernel_rfl) (by kernel_rfl)
  · cases h; exact tok1 (by kernel_rfl) (by kernel_rfl) (by kernel_rfl)
  · cases h; exact tok1 (by kernel_rfl) (by kernel_rfl) (by kernel_rfl)
  · cases h; exact tok1 (by kernel_rfl) (by kernel_rfl) (by kernel_rfl)
  · cases h; exact tok1 (by kernel_rfl) (by kernel_rfl) (by kernel_rfl)
  · cases h
theorem tok_3 : TOk Try.prog T_3 := by
  intro t ti h
  unfold T_3 at h
  split at h
  · cases h; exact tok1 (by kernel_rfl) (by kernel_rfl) (by kernel_rfl)
  · cases h; exact tok1 (by kernel_rfl) (by kernel_rfl) (by kernel_rfl)
  · cases h; exact tok1 (by kernel_rfl) (by kernel_rfl) (by kernel_rfl)
  · cases h; exact tok1 (by kernel_rfl) (by kernel_rfl) (by kernel_rfl)
  · cases h; exact tok1 (by kernel_rfl) (by kernel_rfl) (by kernel_rfl)
  · cases h; exact tok1 (by kernel_rfl) (by kernel_rfl) (by kernel_rfl)
  · cases h; exact tok1 (by kernel_rfl) (by kernel_rfl) (by kernel_rfl)
  · cases h; exact tok1 (by kernel_rfl) (by kernel_rfl) (by kernel_rfl)
  · cases h; exact tok1 (by kernel_rfl) (by kernel_rfl) (by kernel_rfl)
  · cases h; exact tok1 (by kernel_rfl) (by kernel_rfl) (by kernel_rfl)
  · cases h; exact tok1 (by kernel_rfl) (by kernel_rfl) (by kernel_rfl)
  · cases h; exact tok1 (by kernel_rfl) (by kernel_rfl) (by kernel_rfl)
  · cases h; exact tok1 (by kernel_rfl) (by kernel_rfl) (by kernel_rfl)
  · cases h; exact tok1 (by kernel_rfl) (by kernel_rfl) (by kernel_rfl)
  · cases h; exact tok1 (by kernel_rfl) (by kernel_rfl) (by kernel_rfl)
  · cases h; exact tok1 (by kernel_rfl) (by kernel_rfl) (by kernel_rfl)
  · cases h; exact tok1 (by kernel_rfl) (by kernel_rfl) (by kernel_rfl)
  · cases h; exact tok1 (by kernel_rfl) (by kernel_rfl) (by kernel_rfl)
  · cases h; exact tok1 (by kernel_rfl) (by kernel_rfl) (by kernel_rfl)
  · cases h; exact tok1 (by kernel_rfl) (by kernel_rfl) (by kernel_rfl)
  · cases h; exact tok1 (by kernel_rfl) (by kernel_rfl) (by kernel_rfl)
  · cases h; exact tok1 (by kernel_rfl) (by kernel_rfl) (by kernel_rfl)
  · cases h; exact tok1 (by kernel_rfl) (by kernel_rfl) (by kernel_rfl)
  · cases h; exact tok1 (by kernel_rfl) (by kernel_rfl) (by kernel_rfl)
  · cases h
theorem tok_4 : TOk Try.prog T_4 := by
  intro t ti h
  unfold T_4 at h
  split at h
  · cases h; exact tok1 (by kernel_rfl) (by kernel_rfl) (by kernel_rfl)
  · cases h; exact tok1 (by kernel_rfl) (by kernel_rfl) (by kernel_rfl)
  · cases h; exact tok1 (by kernel_rfl) (by kernel_rfl) (by kernel_rfl)
  · cases h; exact tok1 (by kernel_rfl) (by kernel_rfl) (by kernel_rfl)
  · cases h; exact tok1 (by kernel_rfl) (by kernel_rfl) (by kernel_rfl)
  · cases h; exact tok1 (by kernel_rfl) (by kernel_rfl) (by kernel_rfl)
  · cases h; exact tok1 (by kernel_rfl) (by kernel_rfl) (by kernel_rfl)
  · cases h; exact tok1 (by kernel_rfl) (by kernel_rfl) (by kernel_rfl)
  · cases h; exact tok1 (by kernel_rfl) (by kernel_rfl) (by kernel_rfl)
  · cases h; exact tok1 (by kernel_rfl) (by kernel_rfl) (by kernel_rfl)
  · cases h; exact tok1 (by kernel_rfl) (by kernel_rfl) (by kernel_rfl)
  · cases h; exact tok1 (by kernel_rfl) (by kernel_rfl) (by kernel_rfl)
  · cases h; exact tok1 (by kernel_rfl) (by kernel_rfl) (by kernel_rfl)
  · cases h; exact tok1 (by kernel_rfl) (by kernel_rfl) (by kernel_rfl)
  · cases h; exact tok1 (by kernel_rfl) (by kernel_rfl) (by kernel_rfl)
  · cases h; exact tok1 (by kernel_rfl) (by kernel_rfl) (by kernel_rfl)
  · cases h; exact tok1 (by kernel_rfl) (by kernel_rfl) (by kernel_rfl)
  · cases h; exact tok1 (by kernel_rfl) (by kernel_rfl) (by kernel_rfl)
  · cases h; exact tok1 (by kernel_rfl) (by kernel_rfl) (by kernel_rfl)
  · cases h; exact tok1 (by kernel_rfl) (by kernel_rfl) (by kernel_rfl)
  · cases h; exact tok1 (by kernel_rfl) (by kernel_rfl) (by kernel_rfl)
  · cases h; exact tok1 (by kernel_rfl) (by kernel_rfl) (by kernel_rfl)
  · cases h; exact tok1 (by kernel_rfl) (by kernel_rfl) (by kernel_rfl)
  · cases h; exact tok1 (by kernel_rfl) (by kernel_rfl) (by kernel_rfl)
  · cases h
theorem tok_5 : TOk Try.prog T_5 := by
  intro t ti h
  unfold T_5 at h
  split at h
  · cases h; exact tok1 (by kernel_rfl) (by kernel_rfl) (by kernel_rfl)
  · cases h; exact tok1 (by kernel_rfl) (by kernel_rfl) (by kernel_rfl)
  · cases h; exact tok1 (by kernel_rfl) (by kernel_rfl) (by kernel_rfl)
  · cases h; exact tok1 (by kernel_rfl) (by kernel_rfl) (by kernel_rfl)
  · cases h; exact tok1 (by kernel_rfl) (by kernel_rfl) (by kernel_rfl)
  · cases h; exact tok1 (by kernel_rfl) (by kernel_rfl) (by kernel_rfl)
  · cases h; exact tok1 (by kernel_rfl) (by kernel_rfl) (by kernel_rfl)
  · cases h; exact tok1 (by kernel_rfl) (by kernel_rfl) (by kernel_rfl)
  · cases h; exact tok1 (by kernel_rfl) (by kernel_rfl) (by kernel_rfl)
  · cases h; exact tok1 (by kernel_rfl) (by kernel_rfl) (by kernel_rfl)
  · cases h; exact tok1 (by kernel_rfl) (by kernel_rfl) (by kernel_rfl)
  · cases h; exact tok1 (by kernel_rfl) (by kernel_rfl) (by kernel_rfl)
  · cases h; exact tok1 (by kernel_rfl) (by kernel_rfl) (by kernel_rfl)
  · cases h; exact tok1 (by kernel_rfl) (by kernel_rfl) (by kernel_rfl)
  · cases h; exact tok1 (by kernel_rfl) (by kernel_rfl) (by kernel_rfl)
  · cases h; exact tok1 (by kernel_rfl) (by kernel_rfl) (by kernel_rfl)
  · cases h; exact tok1 (by kernel_rfl) (by kernel_rfl) (by kernel_rfl)
  · cases h; exact tok1 (by kernel_rfl) (by kernel_rfl) (by kernel_rfl)
  · cases h; exact tok1 (by kernel_rfl) (by kernel_rfl) (by kernel_rfl)
  · cases h; exact tok1 (by kernel_rfl) (by kernel_rfl) (by kernel_rfl)
  · cases h; exact tok1 (by kernel_rfl) (by kernel_rfl) (by kernel_rfl)
  · cases h; exact tok1 (by kernel_rfl) (by kernel_rfl) (by kernel_rfl)
  · cases h; exact tok1 (by kernel_rfl) (by kernel_rfl) (by kernel_rfl)
  · cases h; exact tok1 (by kernel_rfl) (by kernel_rfl) (by kernel_rfl)
  · cases h
theorem tok_6 : TOk Try.prog T_6 := by
  intro t ti h
  unfold T_6 at h
  split at h
  · cases h; exact tok1 (by kernel_rfl) (by kernel_rfl) (by kernel_rfl)
  · cases h; exact tok1 (by kernel_rfl) (by kernel_rfl) (by kernel_rfl)
  · cases h; exact tok1 (by kernel_rfl) (by kernel_rfl) (by kernel_rfl)
  · cases h; exact tok1 (by kernel_rfl) (by kernel_rfl) (by kernel_rfl)
  · cases h; exact tok1 (by kernel_rfl) (by kernel_rfl) (by kernel_rfl)
  · cases h; exact tok1 (by kernel_rfl) (by kernel_rfl) (by kernel_rfl)
  · cases h; exact tok1 (by kernel_rfl) (by kernel_rfl) (by kernel_rfl)
  · cases h; exact tok1 (by kernel_rfl) (by kernel_rfl) (by kernel_rfl)
  · cases h; exact tok1 (by kernel_rfl) (by kernel_rfl) (by kernel_rfl)
  · cases h; exact tok1 (by kernel_rfl) (by kernel_rfl) (by kernel_rfl)
  · cases h; exact tok1 (by kernel_rfl) (by kernel_rfl) (by kernel_rfl)
  · cases h; exact tok1 (by kernel_rfl) (by kernel_rfl) (by kernel_rfl)
  · cases h; exact tok1 (by kernel_rfl) (by kernel_rfl) (by kernel_rfl)
  · cases h; exact tok1 (by kernel_rfl) (by kernel_rfl) (by kernel_rfl)
  · cases h; exact tok1 (by kernel_rfl) (by kernel_rfl) (by kernel_rfl)
  · cases h; exact tok1 (by kernel_rfl) (by kernel_rfl) (by kernel_rfl)
  · cases h; exact tok1 (by kernel_rfl) (by kernel_rfl) (by kernel_rfl)
  · cases h
theorem tok : TOk Try.prog T := by
  intro t ti h
  unfold T at h
  split at h
  · exact tok_0 t ti h
  split at h
  · exact tok_1 t ti h
  split at h
  · exact tok_2 t ti h
  split at h
  · exact tok_3 t ti h
  split at h
  · exact tok_4 t ti h
  split at h
  · exact tok_5 t ti h
  exact tok_6 t ti h
end Go.Proofs.Ytnmlcfjljeccnaa.A
/- Faults as cells; the meter's small functions. -/
set_option linter.unusedSimpArgs false
set_option linter.unusedVariables false
set_option maxRecDepth 100000
set_option maxHeartbeats 4000000
namespace Go.Proofs.Ytnmlcfjljeccnaa.A
open Go
abbrev Fl := Int × Int
abbrev fT : TypeId := 31
def fC (l : List Fl) : List C := l.flatMap fun f => [vI f.1, vI f.2]
def nF (l : List Fl) : Nat := l.foldr (fun _ n => n + 1) 0
theorem nF_eq (l : List Fl) : nF l = l.length := by unfold nF; induction l with | nil => rfl | cons x l ih => rw [List.foldr_cons, ih]; rfl
abbrev fAt (l : List Fl) (k : Nat) : Fl := l.getD k (0, 0)
theorem fC_cons (f : Fl) (l : List Fl) : fC (f :: l) = vI f.1 :: vI f.2 :: fC l := rfl
theorem fC_len (l : List Fl) : (fC l).length = nF l * 2 := by
  rw [nF_eq]
  induction l with
  | nil => rfl
  | cons r l ih => rw [fC_cons, List.length_cons, List.length_cons, ih, List.length_cons]; omega
theorem fC_at : ∀ (l : List Fl) (k : Nat), k < l.length → cellAt (fC l) (k * 2) = vI (fAt l k).1 ∧ cellAt (fC l) (k * 2 + 1) = vI (fAt l k).2 := by
  intro l
  induction l with
  | nil => intro k h; exact absurd h (by simp)
  | cons r l ih =>
    intro k h
    cases k with
    | zero => exact ⟨rfl, rfl⟩
    | succ k =>
      have := ih k (by simpa using h)
      rw [show (k + 1) * 2 = k * 2 + 1 + 1 by omega, fC_cons]
      exact this
theorem fC_out {l : List Fl} {k : Nat} (h : ¬ k < l.length) : cellAt (fC l) (k * 2) = .nil ∧ cellAt (fC l) (k * 2 + 1) = .nil := by
  have hl := fC_len l
  have hn := nF_eq l
  unfold cellAt
  rw [List.getD_eq_getElem?_getD, List.getD_eq_getElem?_getD, List.getElem?_eq_none (by omega), List.getElem?_eq_none (by omega)]
  exact ⟨rfl, rfl⟩
theorem fAt_out {l : List Fl} {k : Nat} (h : ¬ k < l.length) : fAt l k = (0, 0) := by
  rw [fAt, List.getD_eq_getElem?_getD, List.getElem?_eq_none (by omega)]; rfl
theorem gi_fC0 (l : List Fl) (k : Nat) : gi (cellAt (fC l) (k * 2)) = (fAt l k).1 := by
  by_cases h : k < l.length
  · rw [(fC_at l k h).1]; rfl
  · rw [(fC_out h).1, fAt_out h]; rfl
theorem gi_fC1 (l : List Fl) (k : Nat) : gi (cellAt (fC l) (k * 2 + 1)) = (fAt l k).2 := by
  by_cases h : k < l.length
  · rw [(fC_at l k h).2]; rfl
  · rw [(fC_out h).2, fAt_out h]; rfl
theorem ok_fC0 {l : List Fl} {k : Nat} (h : k < l.length) : okK (.int .i64) (cellAt (fC l) (k * 2)) := by rw [(fC_at l k h).1]; exact ⟨_, rfl⟩
theorem ok_fC1 {l : List Fl} {k : Nat} (h : k < l.length) : okK (.int .i64) (cellAt (fC l) (k * 2 + 1)) := by rw [(fC_at l k h).2]; exact ⟨_, rfl⟩
theorem fC_snoc (l : List Fl) (a b : Int) : fC l ++ [vI a, vI b] = fC (l ++ [(a, b)]) := by simp [fC]
theorem fC_app (l r : List Fl) : fC l ++ fC r = fC (l ++ r) := by simp [fC]
def flsGo : List C → List Fl
  | a :: b :: r => (gi a, gi b) :: flsGo r
  | _ => []
def flsOf (cs : List C) : List Fl := flsGo cs
theorem flsOf_fC (l : List Fl) : flsOf (fC l) = l := by
  unfold flsOf
  induction l with
  | nil => rfl
  | cons r l ih => rw [fC_cons, flsGo, ih]; rfl
/-! ### what the meter does -/
def mayF (f : Fl) : Bool := decide (1 ≤ f.2 ∧ f.2 ≤ 3 ∧ 1 ≤ f.1 ∧ f.1 ≤ 1099511627776)
def armF (s : Int) (l : List Fl) : List Fl := (l.filter mayF).map fun f => (s + f.1, f.2)
def gotF (s : Int) (l : List Fl) : List Fl := (l.filter fun f => decide (s < f.1)).map fun f => (f.1 - s, f.2)
def firstF (s : Int) : List Fl → Int
  | [] => 0
  | f :: l => if f.1 = s then f.2 else firstF s l
def stS (s : Int) (d : Bool) : Int := if d = true then s else s + 1
def stK (s : Int) (cs : List C) : Int := firstF (s + 1) (flsOf cs)
def stE (s : Int) (d : Bool) (cs : List C) : Int := if d = true then 11 else if stK s cs = 0 then 0 else if stK s cs = 2 then 9 else if stK s cs = 3 then 10 else 11
def stD (s : Int) (d : Bool) (cs : List C) : Bool := d || decide (stE s d cs = 11)
def mayV (a k : Int) : Bool := mayF (a, k)
def amU (s : Int) (n : Nat) (es : List C) : Nat := n + nF (armF s (flsOf es))
def amC (s : Int) (cs es : List C) : List C := cs ++ fC (armF s (flsOf es))
def amN (es : List C) : Int := ((flsOf es).filter mayF).length
def gtN (s : Int) (cs : List C) : Nat := nF (gotF s (flsOf cs))
def gtC (s : Int) (cs : List C) : List C := fC (gotF s (flsOf cs))
theorem armF_snoc (s : Int) (l : List Fl) (f : Fl) : armF s (l ++ [f]) = if mayF f = true then armF s l ++ [(s + f.1, f.2)] else armF s l := by
  unfold armF; rw [List.filter_append]
  by_cases h : mayF f = true
  · rw [if_pos h, List.filter_cons_of_pos h]; simp
  · rw [if_neg h, List.filter_cons_of_neg h]; simp
theorem armF_len (s : Int) (l : List Fl) : (armF s l).length = (l.filter mayF).length := by unfold armF; simp
theorem armF_le (s : Int) (l : List Fl) : (armF s l).length ≤ l.length := by rw [armF_len]; exact List.length_filter_le ..
theorem gotF_snoc (s : Int) (l : List Fl) (f : Fl) : gotF s (l ++ [f]) = if s < f.1 then gotF s l ++ [(f.1 - s, f.2)] else gotF s l := by
  unfold gotF; rw [List.filter_append]
  by_cases h : s < f.1
  · rw [if_pos h, List.filter_cons_of_pos (by simpa using h)]; simp
  · rw [if_neg h, List.filter_cons_of_neg (by simpa using h)]; simp
theorem gotF_le (s : Int) (l : List Fl) : (gotF s l).length ≤ l.length := by unfold gotF; rw [List.length_map]; exact List.length_filter_le ..
def bookF0 : Book := fun _ _ => none
theorem pc_may (a k : Int) : PC Try.prog T 12 [.v true [vI a, vI k]] (ret1 (.st (vB (mayV a k)))) [] := by
  have h : mayV a k = decide (1 ≤ k ∧ k ≤ 3 ∧ 1 ≤ a ∧ a ≤ 1099511627776) := rfl
  refine pc_of tok Try.func12 rfl (by rfl) ?_
  obtain ⟨j, hj⟩ : ∃ j : J, j = std Try.prog T := ⟨_, rfl⟩
  have hm : Try.prog.follows .mixedOrders = true := by kernel_rfl
  generalize y_mayV : @mayV = x_mayV at *
  (repeat' first | ((first | with_reducible refine tr_cut (fun h => ?_) (fun h => ?_) | refine aw_condj (by cbv) (fun h => ?_) (fun h => ?_)) <;> (try simp (disch := omega) only [hj, std, cmpI, cmpB, satB, Bool.not_eq_true, Bool.not_eq_false, decide_eq_true_eq, decide_eq_false_iff_not, beq_iff_eq, bne_iff_ne, bne_eq_false_iff_eq, beq_eq_false_iff_ne, ne_eq, reduceCtorEq, not_true_eq_false, not_false_eq_true, pl0, if_true, cmpS_eq, cmpS_neq, Bool.not_eq_eq_eq_not, Bool.not_true, Bool.not_false, Bool.not_eq_true', add64, sub64] at h) <;> (try (exfalso; omega))) | (with_reducible refine tr_alt (fun h => ?_) ?_ <;> (try (exfalso; omega))) | (with_reducible refine tr_ob ?_ ?_) | (with_reducible refine tr_done ?_) | (refine aw_tr hj tok bookF0 (by cbv) ?_) | (refine aw_seq fun K hK => ?_) | (refine aw_tr1 hj tok bookF0 (by cbv) ?_) | (refine aw_skip ?_) | (refine aw_block ?_) | (refine aw_exit ?_) | (refine aw_ret ⟨.inr rfl, ret_okj hj (by cbv) ?_ ?_⟩) | (refine aw_ret ?_) | (with_reducible refine th_n ?_) | (with_reducible refine th_r ?_) | (with_reducible refine th_x ?_) | (with_reducible refine blk_n ?_) | (with_reducible refine blk_r ?_) | (with_reducible refine blk_x ?_) | (with_reducible refine blk_y rfl ?_) | (refine ⟨.inr rfl, ret_okj hj (by cbv) ?_ ?_⟩) | (refine ⟨.inl rfl, ret_okj hj (by cbv) ?_ ?_⟩) | (with_reducible apply_assumption -symm -exfalso only [*]))
  all_goals ((try subst y_mayV))
  all_goals (try (repeat' first | with_reducible exact obl0 | with_reducible refine obl1 ?_ ?_))
  all_goals (try first | with_reducible exact True.intro | ((first | refine ob_le hj ?_ | refine ob_lei hj ?_ | refine ob_inb hj ?_ | refine ob_pos hj ?_ | refine ob_ne0 hj ?_ | refine ob_eqb hj ?_); (first | rfl | first | omega | (simp only [hj, std]; split <;> omega) | (simp (disch := omega) only [hj, std, cmpI, cmpB, satB, add64, sub64, ite0, pl0, pl2, pl3, sb0, if_true, if_false, eq_self] <;> omega) | (simp (disch := omega) [hj, std, cmpI, cmpB, satB, add64, sub64, ite0, pl0, pl2, pl3, sb0, if_true, if_false, eq_self] <;> omega))) | ((have e : mayV a k = false := (by rw [h]; exact decide_eq_false (by omega)); rw [e]; exact rfl)) | ((have e : mayV a k = decide (a ≤ 1099511627776) := (by rw [h, Bool.eq_iff_iff, decide_eq_true_eq, decide_eq_true_eq]; omega); rw [e, hj]; exact rfl)))
theorem pc_Steps (s : Int) (d : Bool) (n : Nat) (cs : List C) : PC Try.prog T 17 [.root (.box [.st (vI s), .st (vB d), .own fT n cs])] (ret1 (.st (vI s))) [.box [.st (vI s), .st (vB d), .own fT n cs]] := by
  refine pc_of tok Try.func17 rfl (by rfl) ?_
  obtain ⟨j, hj⟩ : ∃ j : J, j = std Try.prog T := ⟨_, rfl⟩
  have hm : Try.prog.follows .mixedOrders = true := by kernel_rfl
  (repeat' first | (refine ⟨.inr rfl, ret_oku hj (by cbv) (by cbv) rfl ?_ ?_ (upd_of ?_)⟩) | (refine ⟨.inl rfl, ret_oku hj (by cbv) (by cbv) rfl ?_ ?_ (upd_of ?_)⟩) | ((first | with_reducible refine tr_cut (fun h => ?_) (fun h => ?_) | refine aw_condj (by cbv) (fun h => ?_) (fun h => ?_)) <;> (try simp (disch := omega) only [hj, std, cmpI, cmpB, satB, Bool.not_eq_true, Bool.not_eq_false, decide_eq_true_eq, decide_eq_false_iff_not, beq_iff_eq, bne_iff_ne, bne_eq_false_iff_eq, beq_eq_false_iff_ne, ne_eq, reduceCtorEq, not_true_eq_false, not_false_eq_true, pl0, if_true, cmpS_eq, cmpS_neq, Bool.not_eq_eq_eq_not, Bool.not_true, Bool.not_false, Bool.not_eq_true', add64, sub64] at h) <;> (try (exfalso; omega))) | (with_reducible refine tr_alt (fun h => ?_) ?_ <;> (try (exfalso; omega))) | (with_reducible refine tr_ob ?_ ?_) | (with_reducible refine tr_done ?_) | (refine aw_tr hj tok bookF0 (by cbv) ?_) | (refine aw_seq fun K hK => ?_) | (refine aw_tr1 hj tok bookF0 (by cbv) ?_) | (refine aw_skip ?_) | (refine aw_block ?_) | (refine aw_exit ?_) | (refine aw_ret ⟨.inr rfl, ret_okj hj (by cbv) ?_ ?_⟩) | (refine aw_ret ?_) | (with_reducible refine th_n ?_) | (with_reducible refine th_r ?_) | (with_reducible refine th_x ?_) | (with_reducible refine blk_n ?_) | (with_reducible refine blk_r ?_) | (with_reducible refine blk_x ?_) | (with_reducible refine blk_y rfl ?_) | (refine ⟨.inr rfl, ret_okj hj (by cbv) ?_ ?_⟩) | (refine ⟨.inl rfl, ret_okj hj (by cbv) ?_ ?_⟩) | (with_reducible apply_assumption -symm -exfalso only [*]))
  all_goals (try (repeat' first | with_reducible exact obl0 | with_reducible refine obl1 ?_ ?_))
  all_goals (try first | with_reducible exact True.intro | ((first | refine ob_le hj ?_ | refine ob_lei hj ?_ | refine ob_inb hj ?_ | refine ob_pos hj ?_ | refine ob_ne0 hj ?_ | refine ob_eqb hj ?_); (first | rfl | first | omega | (simp only [hj, std]; split <;> omega) | (simp (disch := omega) only [hj, std, cmpI, cmpB, satB, add64, sub64, ite0, pl0, pl2, pl3, sb0, if_true, if_false, eq_self] <;> omega) | (simp (disch := omega) [hj, std, cmpI, cmpB, satB, add64, sub64, ite0, pl0, pl2, pl3, sb0, if_true, if_false, eq_self] <;> omega))) | (exact rfl) | ((refine upd_box ?_ (upd_nil _); rfl)))
theorem pc_Down (s : Int) (d : Bool) (n : Nat) (cs : List C) : PC Try.prog T 18 [.root (.box [.st (vI s), .st (vB d), .own fT n cs])] (ret1 (.st (vB d))) [.box [.st (vI s), .st (vB d), .own fT n cs]] := by
  refine pc_of tok Try.func18 rfl (by rfl) ?_
  obtain ⟨j, hj⟩ : ∃ j : J, j = std Try.prog T := ⟨_, rfl⟩
  have hm : Try.prog.follows .mixedOrders = true := by kernel_rfl
  (repeat' first | (refine ⟨.inr rfl, ret_oku hj (by cbv) (by cbv) rfl ?_ ?_ (upd_of ?_)⟩) | (refine ⟨.inl rfl, ret_oku hj (by cbv) (by cbv) rfl ?_ ?_ (upd_of ?_)⟩) | ((first | with_reducible refine tr_cut (fun h => ?_) (fun h => ?_) | refine aw_condj (by cbv) (fun h => ?_) (fun h => ?_)) <;> (try simp (disch := omega) only [hj, std, cmpI, cmpB, satB, Bool.not_eq_true, Bool.not_eq_false, decide_eq_true_eq, decide_eq_false_iff_not, beq_iff_eq, bne_iff_ne, bne_eq_false_iff_eq, beq_eq_false_iff_ne, ne_eq, reduceCtorEq, not_true_eq_false, not_false_eq_true, pl0, if_true, cmpS_eq, cmpS_neq, Bool.not_eq_eq_eq_not, Bool.not_true, Bool.not_false, Bool.not_eq_true', add64, sub64] at h) <;> (try (exfalso; omega))) | (with_reducible refine tr_alt (fun h => ?_) ?_ <;> (try (exfalso; omega))) | (with_reducible refine tr_ob ?_ ?_) | (with_reducible refine tr_done ?_) | (refine aw_tr hj tok bookF0 (by cbv) ?_) | (refine aw_seq fun K hK => ?_) | (refine aw_tr1 hj tok bookF0 (by cbv) ?_) | (refine aw_skip ?_) | (refine aw_block ?_) | (refine aw_exit ?_) | (refine aw_ret ⟨.inr rfl, ret_okj hj (by cbv) ?_ ?_⟩) | (refine aw_ret ?_) | (with_reducible refine th_n ?_) | (with_reducible refine th_r ?_) | (with_reducible refine th_x ?_) | (with_reducible refine blk_n ?_) | (with_reducible refine blk_r ?_) | (with_reducible refine blk_x ?_) | (with_reducible refine blk_y rfl ?_) | (refine ⟨.inr rfl, ret_okj hj (by cbv) ?_ ?_⟩) | (refine ⟨.inl rfl, ret_okj hj (by cbv) ?_ ?_⟩) | (with_reducible apply_assumption -symm -exfalso only [*]))
  all_goals (try (repeat' first | with_reducible exact obl0 | with_reducible refine obl1 ?_ ?_))
  all_goals (try first | with_reducible exact True.intro | ((first | refine ob_le hj ?_ | refine ob_lei hj ?_ | refine ob_inb hj ?_ | refine ob_pos hj ?_ | refine ob_ne0 hj ?_ | refine ob_eqb hj ?_); (first | rfl | first | omega | (simp only [hj, std]; split <;> omega) | (simp (disch := omega) only [hj, std, cmpI, cmpB, satB, add64, sub64, ite0, pl0, pl2, pl3, sb0, if_true, if_false, eq_self] <;> omega) | (simp (disch := omega) [hj, std, cmpI, cmpB, satB, add64, sub64, ite0, pl0, pl2, pl3, sb0, if_true, if_false, eq_self] <;> omega))) | (exact rfl) | ((refine upd_box ?_ (upd_nil _); rfl)))
theorem pc_Fall (s : Int) (d : Bool) (n : Nat) (cs : List C) : PC Try.prog T 14 [.root (.box [.st (vI s), .st (vB d), .own fT n cs])] ⟨true, []⟩ [.box [.st (vI s), .st (vB true), .own fT n cs]] := by
  refine pc_of tok Try.func14 rfl (by rfl) ?_
  obtain ⟨j, hj⟩ : ∃ j : J, j = std Try.prog T := ⟨_, rfl⟩
  have hm : Try.prog.follows .mixedOrders = true := by kernel_rfl
  (repeat' first | (refine ⟨.inr rfl, ret_oku hj (by cbv) (by cbv) rfl ?_ ?_ (upd_of ?_)⟩) | (refine ⟨.inl rfl, ret_oku hj (by cbv) (by cbv) rfl ?_ ?_ (upd_of ?_)⟩) | ((first | with_reducible refine tr_cut (fun h => ?_) (fun h => ?_) | refine aw_condj (by cbv) (fun h => ?_) (fun h => ?_)) <;> (try simp (disch := omega) only [hj, std, cmpI, cmpB, satB, Bool.not_eq_true, Bool.not_eq_false, decide_eq_true_eq, decide_eq_false_iff_not, beq_iff_eq, bne_iff_ne, bne_eq_false_iff_eq, beq_eq_false_iff_ne, ne_eq, reduceCtorEq, not_true_eq_false, not_false_eq_true, pl0, if_true, cmpS_eq, cmpS_neq, Bool.not_eq_eq_eq_not, Bool.not_true, Bool.not_false, Bool.not_eq_true', add64, sub64] at h) <;> (try (exfalso; omega))) | (with_reducible refine tr_alt (fun h => ?_) ?_ <;> (try (exfalso; omega))) | (with_reducible refine tr_ob ?_ ?_) | (with_reducible refine tr_done ?_) | (refine aw_tr hj tok bookF0 (by cbv) ?_) | (refine aw_seq fun K hK => ?_) | (refine aw_tr1 hj tok bookF0 (by cbv) ?_) | (refine aw_skip ?_) | (refine aw_block ?_) | (refine aw_exit ?_) | (refine aw_ret ⟨.inr rfl, ret_okj hj (by cbv) ?_ ?_⟩) | (refine aw_ret ?_) | (with_reducible refine th_n ?_) | (with_reducible refine th_r ?_) | (with_reducible refine th_x ?_) | (with_reducible refine blk_n ?_) | (with_reducible refine blk_r ?_) | (with_reducible refine blk_x ?_) | (with_reducible refine blk_y rfl ?_) | (refine ⟨.inr rfl, ret_okj hj (by cbv) ?_ ?_⟩) | (refine ⟨.inl rfl, ret_okj hj (by cbv) ?_ ?_⟩) | (with_reducible apply_assumption -symm -exfalso only [*]))
  all_goals (try (repeat' first | with_reducible exact obl0 | with_reducible refine obl1 ?_ ?_))
  all_goals (try first | with_reducible exact True.intro | ((first | refine ob_le hj ?_ | refine ob_lei hj ?_ | refine ob_inb hj ?_ | refine ob_pos hj ?_ | refine ob_ne0 hj ?_ | refine ob_eqb hj ?_); (first | rfl | first | omega | (simp only [hj, std]; split <;> omega) | (simp (disch := omega) only [hj, std, cmpI, cmpB, satB, add64, sub64, ite0, pl0, pl2, pl3, sb0, if_true, if_false, eq_self] <;> omega) | (simp (disch := omega) [hj, std, cmpI, cmpB, satB, add64, sub64, ite0, pl0, pl2, pl3, sb0, if_true, if_false, eq_self] <;> omega))) | (exact rfl) | ((refine upd_box ?_ (upd_nil _); rfl)))
theorem pc_Rise (s : Int) (d : Bool) (n : Nat) (cs : List C) : PC Try.prog T 15 [.root (.box [.st (vI s), .st (vB d), .own fT n cs])] ⟨true, []⟩ [.box [.st (vI s), .st (vB false), .own fT 0 []]] := by
  refine pc_of tok Try.func15 rfl (by rfl) ?_
  obtain ⟨j, hj⟩ : ∃ j : J, j = std Try.prog T := ⟨_, rfl⟩
  have hm : Try.prog.follows .mixedOrders = true := by kernel_rfl
  (repeat' first | (refine ⟨.inr rfl, ret_oku hj (by cbv) (by cbv) rfl ?_ ?_ (upd_of ?_)⟩) | (refine ⟨.inl rfl, ret_oku hj (by cbv) (by cbv) rfl ?_ ?_ (upd_of ?_)⟩) | ((first | with_reducible refine tr_cut (fun h => ?_) (fun h => ?_) | refine aw_condj (by cbv) (fun h => ?_) (fun h => ?_)) <;> (try simp (disch := omega) only [hj, std, cmpI, cmpB, satB, Bool.not_eq_true, Bool.not_eq_false, decide_eq_true_eq, decide_eq_false_iff_not, beq_iff_eq, bne_iff_ne, bne_eq_false_iff_eq, beq_eq_false_iff_ne, ne_eq, reduceCtorEq, not_true_eq_false, not_false_eq_true, pl0, if_true, cmpS_eq, cmpS_neq, Bool.not_eq_eq_eq_not, Bool.not_true, Bool.not_false, Bool.not_eq_true', add64, sub64] at h) <;> (try (exfalso; omega))) | (with_reducible refine tr_alt (fun h => ?_) ?_ <;> (try (exfalso; omega))) | (with_reducible refine tr_ob ?_ ?_) | (with_reducible refine tr_done ?_) | (refine aw_tr hj tok bookF0 (by cbv) ?_) | (refine aw_seq fun K hK => ?_) | (refine aw_tr1 hj tok bookF0 (by cbv) ?_) | (refine aw_skip ?_) | (refine aw_block ?_) | (refine aw_exit ?_) | (refine aw_ret ⟨.inr rfl, ret_okj hj (by cbv) ?_ ?_⟩) | (refine aw_ret ?_) | (with_reducible refine th_n ?_) | (with_reducible refine th_r ?_) | (with_reducible refine th_x ?_) | (with_reducible refine blk_n ?_) | (with_reducible refine blk_r ?_) | (with_reducible refine blk_x ?_) | (with_reducible refine blk_y rfl ?_) | (refine ⟨.inr rfl, ret_okj hj (by cbv) ?_ ?_⟩) | (refine ⟨.inl rfl, ret_okj hj (by cbv) ?_ ?_⟩) | (with_reducible apply_assumption -symm -exfalso only [*]))
  all_goals (try (repeat' first | with_reducible exact obl0 | with_reducible refine obl1 ?_ ?_))
  all_goals (try first | with_reducible exact True.intro | ((first | refine ob_le hj ?_ | refine ob_lei hj ?_ | refine ob_inb hj ?_ | refine ob_pos hj ?_ | refine ob_ne0 hj ?_ | refine ob_eqb hj ?_); (first | rfl | first | omega | (simp only [hj, std]; split <;> omega) | (simp (disch := omega) only [hj, std, cmpI, cmpB, satB, add64, sub64, ite0, pl0, pl2, pl3, sb0, if_true, if_false, eq_self] <;> omega) | (simp (disch := omega) [hj, std, cmpI, cmpB, satB, add64, sub64, ite0, pl0, pl2, pl3, sb0, if_true, if_false, eq_self] <;> omega))) | (exact rfl) | ((refine upd_le ?_ (.cons (.refl _) (.cons (.refl _) (.cons (.nil_own _) .nil))) (upd_nil _); rfl)))
theorem pcn_New : PCN Try.prog T 10 [] [.st (vI 0), .st (vB false), .own fT 0 []] := by
  refine pcn_of tok Try.func10 rfl (by rfl) rfl ?_
  obtain ⟨j, hj⟩ : ∃ j : J, j = std Try.prog T := ⟨_, rfl⟩
  have hm : Try.prog.follows .mixedOrders = true := by kernel_rfl
  (repeat' first | ((refine aw_ret ⟨.inr rfl, ?_⟩)) | ((first | with_reducible refine tr_cut (fun h => ?_) (fun h => ?_) | refine aw_condj (by cbv) (fun h => ?_) (fun h => ?_)) <;> (try simp (disch := omega) only [hj, std, cmpI, cmpB, satB, Bool.not_eq_true, Bool.not_eq_false, decide_eq_true_eq, decide_eq_false_iff_not, beq_iff_eq, bne_iff_ne, bne_eq_false_iff_eq, beq_eq_false_iff_ne, ne_eq, reduceCtorEq, not_true_eq_false, not_false_eq_true, pl0, if_true, cmpS_eq, cmpS_neq, Bool.not_eq_eq_eq_not, Bool.not_true, Bool.not_false, Bool.not_eq_true', add64, sub64] at h) <;> (try (exfalso; omega))) | (with_reducible refine tr_alt (fun h => ?_) ?_ <;> (try (exfalso; omega))) | (with_reducible refine tr_ob ?_ ?_) | (with_reducible refine tr_done ?_) | (refine aw_tr hj tok bookF0 (by cbv) ?_) | (refine aw_seq fun K hK => ?_) | (refine aw_tr1 hj tok bookF0 (by cbv) ?_) | (refine aw_skip ?_) | (refine aw_block ?_) | (refine aw_exit ?_) | (refine aw_ret ⟨.inr rfl, ret_okj hj (by cbv) ?_ ?_⟩) | (refine aw_ret ?_) | (with_reducible refine th_n ?_) | (with_reducible refine th_r ?_) | (with_reducible refine th_x ?_) | (with_reducible refine blk_n ?_) | (with_reducible refine blk_r ?_) | (with_reducible refine blk_x ?_) | (with_reducible refine blk_y rfl ?_) | (refine ⟨.inr rfl, ret_okj hj (by cbv) ?_ ?_⟩) | (refine ⟨.inl rfl, ret_okj hj (by cbv) ?_ ?_⟩) | (with_reducible apply_assumption -symm -exfalso only [*]))
  exact new_ok (s := 0) (t := 2) rfl rfl rfl (by simp) (.cons (.refl _) (.cons (.refl _) (.cons (.nil_own _) .nil)))
end Go.Proofs.Ytnmlcfjljeccnaa.A
/- The meter: a step, by hand. -/
set_option linter.unusedSimpArgs false
set_option linter.unusedVariables false
set_option maxRecDepth 100000
set_option maxHeartbeats 4000000
namespace Go.Proofs.Ytnmlcfjljeccnaa
open Go Go.RowKit Go.Proofs
open A (Fl fAt firstF)
def FlsAt (w : World) (a : Option Addr) (L : List Fl) : Prop := 0 < L.length → ∃ b off, a = some ⟨b, off, none⟩ ∧ b < w.heap.size ∧ ∀ q, q < L.length → w.cell? ⟨b, off + q * 2, none⟩ = some (.int .i64 (fAt L q).1) ∧ w.cell? ⟨b, off + q * 2 + 1, none⟩ = some (.int .i64 (fAt L q).2)
def idxF (s : Int) : List Fl → Int → Int
  | [], _ => -1
  | f :: l, k => if f.1 = s then k else idxF s l (k + 1)
theorem below_drewN {k : Nat} {w w' : World} (h : Below k w w') (n : Nat) : Below k w (w'.drewN n) := by
  first | exact h | exact ⟨h.1, h.2, h.3⟩ | exact ⟨h.1, h.2, h.3, h.4⟩ | (induction n with | zero => exact h | succ n ih => exact ih.drew)
set_option maxHeartbeats 4000000 in
set_option maxRecDepth 100000 in
theorem clo_any (B F : Nat) (x k s : Int) (w : World) (hB : w.cell? ⟨B, 0, none⟩ = some (.pointer (some ⟨F, 0, none⟩))) (hF : w.cell? ⟨F, 0, none⟩ = some (.int .i64 s)) (lB : B < w.heap.size) (lF : F < w.heap.size) :
    Calls Try.prog 51 #[.agg #[.int .i64 x, .int .i64 k], .pointer (some ⟨B, 0, none⟩)] w fun e w' => e = .returned (.bool (decide (x = s))) ∧ Below w.heap.size w w' := by
  have b1 : Below w.heap.size w (w.alloc (.cells #[.int .i64 x, .int .i64 k] 31)) := (Below.refl _ w).alloc (Nat.le_refl _) _
  have hB1 := (b1.cell (p := ⟨B, 0, none⟩) lB).trans hB
  have hF1 := (b1.cell (p := ⟨F, 0, none⟩) lF).trans hF
  go_enter Try.func51, Try.ntmps51
  go_wp2
  go_quiet (fail)
  go_wp2
  go_ret
  exact ⟨rfl, below_drewN b1 _⟩
set_option maxHeartbeats 4000000 in
set_option maxRecDepth 100000 in
theorem idx_any (a : Option Addr) (cap : Nat) (L : List Fl) (B F : Nat) (s : Int) (w : World) (hL : FlsAt w a L) (hn : L.length ≤ 1000000) (hB : w.cell? ⟨B, 0, none⟩ = some (.pointer (some ⟨F, 0, none⟩))) (hF : w.cell? ⟨F, 0, none⟩ = some (.int .i64 s)) (lB : B < w.heap.size) (lF : F < w.heap.size) :
    Calls Try.prog 50 #[.slice a L.length cap, .func (.func 51) #[] #[.pointer (some ⟨B, 0, none⟩)]] w fun e w' => e = .returned (.int .i64 (idxF s L 0)) ∧ Below w.heap.size w w' := by
  have HL := Lib.hid hL
  clear hL
  go_enter Try.func50, Try.ntmps50
  go_wp2_with fail
  go_loopw [8] (fun i wr => ∃ (k : Nat), k ≤ L.length ∧ i = .int .i64 k ∧ Below w.heap.size w wr ∧ idxF s (L.drop k) k = idxF s L 0) (fun i _ => L.length - (intOf i).toNat)
  case atStart => exact ⟨0, Nat.zero_le _, rfl, Below.refl _ w, rfl⟩
  case round =>
    obtain ⟨k, hk, rfl, hb, hI⟩ := hrel
    by_cases hkl : k < L.length
    · obtain ⟨lb, lo, rfl, hlb, hlc⟩ := HL.out (by omega)
      obtain ⟨c0, c1⟩ := hlc k hkl
      have d0 := (hb.cell (p := ⟨lb, lo + k * 2, none⟩) hlb).trans c0
      have d1 := (hb.cell (p := ⟨lb, lo + k * 2 + 1, none⟩) hlb).trans c1
      have hd : L.drop k = fAt L k :: L.drop (k + 1) := A.drop_cons (0, 0) hkl
      rw [hd] at hI
      have hB2 := (hb.cell (p := ⟨B, 0, none⟩) lB).trans hB
      have hF2 := (hb.cell (p := ⟨F, 0, none⟩) lF).trans hF
      generalize fAt L k = X at *
      obtain ⟨xa, xk⟩ := X
      dsimp only at d0 d1 hI
      have hI2 : (if xa = s then (k : Int) else idxF s (L.drop (k + 1)) (k + 1)) = idxF s L 0 := hI
      have hcall := clo_any B F xa xk s wr hB2 hF2 (Nat.lt_of_lt_of_le lB hb.size) (Nat.lt_of_lt_of_le lF hb.size)
      have HI := Lib.hid hI2
      have HB := Lib.hid hb
      clear hlc hI hI2 hd hb hB2 hF2 c0 c1
      by_cases hs : xa = s
      · rw [decide_eq_true hs] at hcall
        have HS := Lib.hid hs
        clear hs
        go_wp2_with fail
        refine hcall.mono ?_
        rintro e w' ⟨rfl, hb'⟩
        go_wp2_with fail
        go_ret
        exact ⟨by have h3 := HI.out; rw [if_pos HS.out] at h3; rw [h3]; rfl, HB.out.trans (hb'.mono HB.out.size)⟩
      · rw [decide_eq_false hs] at hcall
        have HS := Lib.hid hs
        clear hs
        go_wp2_with fail
        refine hcall.mono ?_
        rintro e w' ⟨rfl, hb'⟩
        go_wp2_with fail
        go_roundw
        case rel => exact ⟨k + 1, by omega, by go_num, HB.out.trans (hb'.mono HB.out.size), by have h3 := HI.out; rw [if_neg HS.out] at h3; rw [← h3]; rfl⟩
        case measure => simp [intOf]; omega
    · go_wp2_with fail
      go_ret
      exact ⟨by rw [← hI, List.drop_eq_nil_of_le (by omega)]; rfl, hb⟩
set_option maxHeartbeats 4000000 in
set_option maxRecDepth 100000 in
theorem down_any (F : Nat) (d : Bool) (w : World) (h : w.cell? ⟨F, 1, none⟩ = some (.bool d)) : Calls Try.prog 18 #[.pointer (some ⟨F, 0, none⟩)] w fun e w' => e = .returned (.bool d) ∧ w' = w := by
  go_enter Try.func18, Try.ntmps18
  go_wp2_with fail
  go_ret
  exact ⟨rfl, rfl⟩
set_option maxHeartbeats 4000000 in
set_option maxRecDepth 100000 in
theorem fall_any (F : Nat) (w : World) (d : Bool) (h : w.cell? ⟨F, 1, none⟩ = some (.bool d)) (hf : w.frozen? ⟨F, 1, none⟩ = false) : Calls Try.prog 14 #[.pointer (some ⟨F, 0, none⟩)] w fun e w' => e = .returned (.tuple #[]) ∧ w' = w.setCell ⟨F, 1, none⟩ (.bool true) := by
  go_enter Try.func14, Try.ntmps14
  go_wp2_with fail
  go_end0
  exact ⟨rfl, rfl⟩
theorem FlsAt.keep {w w' : World} {a : Option Addr} {L : List Fl} {F : Nat} (h : FlsAt w a L) (hF : ∀ x, a = some x → x.block ≠ F) (hc : Chg (fun b => b = F) w w') : FlsAt w' a L := fun h0 => by
  obtain ⟨b, off, rfl, hb, h1⟩ := h h0
  have hne := hF _ rfl
  refine ⟨b, off, rfl, Nat.lt_of_lt_of_le hb hc.size, fun q hq => ?_⟩
  obtain ⟨c0, c1⟩ := h1 q hq
  exact ⟨(hc.cell (p := ⟨b, off + q * 2, none⟩) hb hne).trans c0, (hc.cell (p := ⟨b, off + q * 2 + 1, none⟩) hb hne).trans c1⟩
end Go.Proofs.Ytnmlcfjljeccnaa
/- The meter: a step, by hand, and its contract. -/
set_option linter.unusedSimpArgs false
set_option linter.unusedVariables false
set_option maxRecDepth 100000
set_option maxHeartbeats 4000000
namespace Go.Proofs.Ytnmlcfjljeccnaa
open Go Go.RowKit Go.Proofs
open A (Fl fAt firstF)
theorem idx_law (s : Int) : ∀ (L : List Fl) (i : Int), (idxF s L i = -1 ∧ firstF s L = 0) ∨ ∃ k : Nat, k < L.length ∧ idxF s L i = i + k ∧ firstF s L = (fAt L k).2 := by
  intro L
  induction L with
  | nil => intro i; exact .inl ⟨rfl, rfl⟩
  | cons f l ih =>
    intro i
    by_cases h : f.1 = s
    · refine .inr ⟨0, by simp, ?_, ?_⟩
      · show (if f.1 = s then i else _) = _
        rw [if_pos h]; simp
      · show (if f.1 = s then f.2 else _) = _
        rw [if_pos h]; rfl
    · have e1 : idxF s (f :: l) i = idxF s l (i + 1) := by show (if f.1 = s then i else _) = _; rw [if_neg h]
      have e2 : firstF s (f :: l) = firstF s l := by show (if f.1 = s then f.2 else _) = _; rw [if_neg h]
      rw [e1, e2]
      rcases ih (i + 1) with ⟨h1, h2⟩ | ⟨k, h0, h1, h2⟩
      · exact .inl ⟨h1, h2⟩
      · exact .inr ⟨k + 1, by simp; omega, by rw [h1]; omega, h2⟩
theorem st_of {s k : Int} {L : List Fl} (h : firstF (s + 1) L = k) : A.stE s false (A.fC L) = (if k = 0 then 0 else if k = 2 then 9 else if k = 3 then 10 else 11) ∧ A.stS s false = s + 1 ∧ A.stD s false (A.fC L) = decide ((if k = 0 then 0 else if k = 2 then 9 else if k = 3 then 10 else 11 : Int) = 11) := by
  have e : A.stE s false (A.fC L) = (if k = 0 then 0 else if k = 2 then 9 else if k = 3 then 10 else 11) := by
    unfold A.stE A.stK; rw [A.flsOf_fC, h, if_neg (by simp)]
  refine ⟨e, rfl, ?_⟩
  unfold A.stD; rw [e, Bool.false_or]
set_option maxHeartbeats 4000000 in
set_option maxRecDepth 100000 in
theorem step_any (F : Nat) (s : Int) (d : Bool) (a : Option Addr) (cap : Nat) (L : List Fl) (e0 : TypeId) (w : World) (hs : 0 ≤ s ∧ s ≤ 1000000) (hn : L.length ≤ 1000000) (hkd : ∀ f ∈ L, 1 ≤ f.2 ∧ f.2 ≤ 3)
    (hrow : w.heap[F]? = some (.cells #[.int .i64 s, .bool d, .slice a L.length cap] e0 (0, 0))) (hL : FlsAt w a L) (hF : ∀ x, a = some x → x.block ≠ F) :
    Calls Try.prog 11 #[.pointer (some ⟨F, 0, none⟩)] w fun e w' => e = .returned (.int .i64 (A.stE s d (A.fC L))) ∧ w'.heap[F]? = some (.cells #[.int .i64 (A.stS s d), .bool (A.stD s d (A.fC L)), .slice a L.length cap] e0 (0, 0)) ∧ Chg (fun b => b = F) w w' := by
  have lF := lt_of_block hrow
  obtain ⟨w1, hw1⟩ : ∃ w1, w1 = w.alloc (.cells #[.pointer (some ⟨F, 0, none⟩)] 24) := ⟨_, rfl⟩
  have k1 : Chg (fun b => b = F) w w1 := by rw [hw1]; exact Chg.alloc _ w _
  have r1 : w1.heap[F]? = some (.cells #[.int .i64 s, .bool d, .slice a L.length cap] e0 (0, 0)) := by rw [hw1]; exact (Below.heap_alloc w _ F lF).trans hrow
  have cB : w1.cell? ⟨w.heap.size, 0, none⟩ = some (.pointer (some ⟨F, 0, none⟩)) := by rw [hw1, cell_of_row _ _ 0 _ _ _ (heap_alloc_new w _)]; rfl
  have z1 : w.heap.size < w1.heap.size := by rw [hw1]; simp
  have c0 : w1.cell? ⟨F, 0, none⟩ = some (.int .i64 s) := by rw [cell_of_row _ F 0 _ _ _ r1]; rfl
  have c1 : w1.cell? ⟨F, 1, none⟩ = some (.bool d) := by rw [cell_of_row _ F 1 _ _ _ r1]; rfl
  have c2 : w1.cell? ⟨F, 2, none⟩ = some (.slice a L.length cap) := by rw [cell_of_row _ F 2 _ _ _ r1]; rfl
  have f0 : w1.frozen? ⟨F, 0, none⟩ = false := frozen_of_row _ F 0 _ _ r1
  have r2 : (w1.setCell ⟨F, 0, none⟩ (.int .i64 (s + 1))).heap[F]? = some (.cells #[.int .i64 (s + 1), .bool d, .slice a L.length cap] e0 (0, 0)) := by rw [heap_setCell_same _ F 0 _ _ _ r1]; rfl
  have k12 : Chg (fun b => b = F) w1 (w1.setCell ⟨F, 0, none⟩ (.int .i64 (s + 1))) := Chg.of_setCell w1 ⟨F, 0, none⟩ _
  obtain ⟨w2, hw2⟩ : ∃ w2, w2 = w1.setCell ⟨F, 0, none⟩ (.int .i64 (s + 1)) := ⟨_, rfl⟩
  rw [← hw2] at r2 k12
  have k2 : Chg (fun b => b = F) w w2 := k1.trans k12
  have hne : ¬ w.heap.size = F := by omega
  have z2 : w.heap.size < w2.heap.size := Nat.lt_of_lt_of_le z1 k12.size
  have hL2 := hL.keep hF k2
  have cB2 : w2.cell? ⟨w.heap.size, 0, none⟩ = some (.pointer (some ⟨F, 0, none⟩)) := (k12.cell (p := ⟨w.heap.size, 0, none⟩) z1 hne).trans cB
  have c02 : w2.cell? ⟨F, 0, none⟩ = some (.int .i64 (s + 1)) := by rw [cell_of_row _ F 0 _ _ _ r2]; rfl
  have c22 : w2.cell? ⟨F, 2, none⟩ = some (.slice a L.length cap) := by rw [cell_of_row _ F 2 _ _ _ r2]; rfl
  have hidx := idx_any a cap L w.heap.size F (s + 1) w2 hL2 hn cB2 c02 z2 (by omega)
  have hdown := down_any F d w1 c1
  have K2 := Lib.hid k2
  have K1 := Lib.hid k1
  have R1 := Lib.hid r1
  have R2 := Lib.hid r2
  have HL := Lib.hid hL2
  have HI := Lib.hid hidx
  have HW2 := Lib.hid hw2
  clear hrow hL k1 k2 r1 r2 hL2 c1 hidx c02 k12 hw2 c22
  go_enter Try.func11, Try.ntmps11
  go_wp2_with fail
  rw [← hw1]
  clear hw1
  refine hdown.mono ?_
  rintro e w' ⟨rfl, rfl⟩
  clear hdown
  cases d with
  | true =>
    go_wp2_with fail
    go_ret
    exact ⟨rfl, R1.out, K1.out⟩
  | false =>
    go_wp2_with fail
    rw [← HW2.out]
    refine HI.out.mono ?_
    rintro e w3 ⟨rfl, hb3⟩
    have k3 : Chg (fun b => b = F) w w3 := K2.out.trans (Chg.of_below hb3 _)
    have r3 : w3.heap[F]? = some (.cells #[.int .i64 (s + 1), .bool false, .slice a L.length cap] e0 (0, 0)) := (hb3.block F (by omega)).trans R2.out
    have c23 : w3.cell? ⟨F, 2, none⟩ = some (.slice a L.length cap) := by rw [cell_of_row _ F 2 _ _ _ r3]; rfl
    have cB3 : w3.cell? ⟨w.heap.size, 0, none⟩ = some (.pointer (some ⟨F, 0, none⟩)) := (hb3.cell (p := ⟨w.heap.size, 0, none⟩) z2).trans cB2
    have hL3 := HL.out.keep hF (Chg.of_below hb3 _)
    have c13 : w3.cell? ⟨F, 1, none⟩ = some (.bool false) := by rw [cell_of_row _ F 1 _ _ _ r3]; rfl
    have f13 : w3.frozen? ⟨F, 1, none⟩ = false := frozen_of_row _ F 1 _ _ r3
    have hfall := fall_any F w3 false c13 f13
    have r4 : (w3.setCell ⟨F, 1, none⟩ (.bool true)).heap[F]? = some (.cells #[.int .i64 (s + 1), .bool true, .slice a L.length cap] e0 (0, 0)) := by rw [heap_setCell_same _ F 1 _ _ _ r3]; rfl
    have k4 : Chg (fun b => b = F) w (w3.setCell ⟨F, 1, none⟩ (.bool true)) := k3.trans (Chg.of_setCell w3 ⟨F, 1, none⟩ _)
    have K3 := Lib.hid k3
    have K4 := Lib.hid k4
    have R3 := Lib.hid r3
    have R4 := Lib.hid r4
    have HF := Lib.hid hfall
    clear hb3 k3 r3 k4 r4 c13 f13 hfall
    have hlaw := idx_law (s + 1) L 0
    generalize idxF (s + 1) L 0 = ix at *
    rcases hlaw with ⟨rfl, h2⟩ | ⟨k, hk, h1, h2⟩
    · have T := Lib.hid (st_of h2)
      clear h2
      go_wp2_with fail
      go_ret
      exact ⟨by rw [T.out.1]; rfl, by rw [T.out.2.1, T.out.2.2]; exact R3.out, K3.out⟩
    · obtain ⟨b, off, rfl, hb, hc⟩ := hL3 (by omega)
      obtain ⟨g0, g1⟩ := hc k hk
      have t := st_of h2
      have hkk : 1 ≤ (fAt L k).2 ∧ (fAt L k).2 ≤ 3 := hkd _ (A.getD_mem (0, 0) hk)
      obtain rfl : ix = (k : Int) := by omega
      generalize fAt L k = X at *
      obtain ⟨xa, xk⟩ := X
      dsimp only at g0 g1 t hkk
      have T := Lib.hid t
      clear t h2 h1 hc hkd hL3
      have hq : xk = 1 ∨ xk = 2 ∨ xk = 3 := by omega
      rcases hq with rfl | rfl | rfl
      · go_wp2_with fail
        refine HF.out.mono ?_
        rintro e w4 ⟨rfl, rfl⟩
        go_wp2_with fail
        go_ret
        exact ⟨by rw [T.out.1]; rfl, by rw [T.out.2.1, T.out.2.2]; exact R4.out, K4.out⟩
      · go_wp2_with fail
        go_ret
        exact ⟨by rw [T.out.1]; rfl, by rw [T.out.2.1, T.out.2.2]; exact R3.out, K3.out⟩
      · go_wp2_with fail
        go_ret
        exact ⟨by rw [T.out.1]; rfl, by rw [T.out.2.1, T.out.2.2]; exact R3.out, K3.out⟩
end Go.Proofs.Ytnmlcfjljeccnaa
/- The meter: faults are armed; what is armed. -/
set_option linter.unusedSimpArgs false
set_option linter.unusedVariables false
set_option maxRecDepth 100000
set_option maxHeartbeats 4000000
namespace Go.Proofs.Ytnmlcfjljeccnaa.A
open Go
theorem pc_ArmG (s : Int) (d : Bool) (n : Nat) (cs : List C) (L : List Fl) (h1 : 0 ≤ s ∧ s ≤ 1000000) (h2 : n ≤ 1000000) (h3 : L.length ≤ 1000000) :
    PC Try.prog T 13 [.root (.box [.st (vI s), .st (vB d), .own fT n cs]), .v false [.sl (nF L) (fC L)]] (ret1 (.st (vI (amN (fC L))))) [.box [.st (vI s), .st (vB d), .own fT (amU s n (fC L)) (amC s cs (fC L))], .none] := by
  have u1 : amU s n (fC L) = n + (armF s L).length := by unfold amU; rw [flsOf_fC, nF_eq]
  have u2 : amC s cs (fC L) = cs ++ fC (armF s L) := by unfold amC; rw [flsOf_fC]
  have u3 : amN (fC L) = ((armF s L).length : Int) := by unfold amN; rw [flsOf_fC, armF_len]
  rw [u1, u2, u3]
  have hl := fC_len L
  have hn := nF_eq L
  have e0 := gi_fC0 L
  have e1 := gi_fC1 L
  have o0 := fun k h => ok_fC0 (l := L) (k := k) h
  have o1 := fun k h => ok_fC1 (l := L) (k := k) h
  generalize nF L = m at *
  generalize fC L = es at *
  refine pc_of tok Try.func13 rfl (by rfl) ?_
  obtain ⟨j, hj⟩ : ∃ j : J, j = std Try.prog T := ⟨_, rfl⟩
  have hm : Try.prog.follows .mixedOrders = true := by kernel_rfl
  generalize y_fC : @fC = x_fC at *
  generalize y_nF : @nF = x_nF at *
  generalize y_amU : @amU = x_amU at *
  generalize y_amC : @amC = x_amC at *
  generalize y_amN : @amN = x_amN at *
  (repeat' first | (refine ⟨.inr rfl, ret_oku hj (by cbv) (by cbv) rfl ?_ ?_ (upd_of ?_)⟩) | (refine ⟨.inl rfl, ret_oku hj (by cbv) (by cbv) rfl ?_ ?_ (upd_of ?_)⟩) | ((first | with_reducible refine tr_cut (fun h => ?_) (fun h => ?_) | refine aw_condj (by cbv) (fun h => ?_) (fun h => ?_)) <;> (try simp (disch := omega) only [hj, std, cmpI, cmpB, satB, Bool.not_eq_true, Bool.not_eq_false, decide_eq_true_eq, decide_eq_false_iff_not, beq_iff_eq, bne_iff_ne, bne_eq_false_iff_eq, beq_eq_false_iff_ne, ne_eq, reduceCtorEq, not_true_eq_false, not_false_eq_true, pl0, if_true, cmpS_eq, cmpS_neq, Bool.not_eq_eq_eq_not, Bool.not_true, Bool.not_false, Bool.not_eq_true', add64, sub64] at h) <;> (try (exfalso; omega))) | (with_reducible refine tr_alt (fun h => ?_) ?_ <;> (try (exfalso; omega))) | (with_reducible refine tr_ob ?_ ?_) | (with_reducible refine tr_done ?_) | (refine aw_tr hj tok bookF0 (by cbv) ?_) | (refine aw_seq fun K hK => ?_) | (refine aw_tr1 hj tok bookF0 (by cbv) ?_) | (refine aw_skip ?_) | (refine aw_block ?_) | (refine aw_exit ?_) | (refine aw_ret ⟨.inr rfl, ret_okj hj (by cbv) ?_ ?_⟩) | (refine aw_ret ?_) | (with_reducible refine th_n ?_) | (with_reducible refine th_r ?_) | (with_reducible refine th_x ?_) | (with_reducible refine blk_n ?_) | (with_reducible refine blk_r ?_) | (with_reducible refine blk_x ?_) | (with_reducible refine blk_y rfl ?_) | (refine ⟨.inr rfl, ret_okj hj (by cbv) ?_ ?_⟩) | (refine ⟨.inl rfl, ret_okj hj (by cbv) ?_ ?_⟩) | ((with_reducible refine ⟨(_, _, _, _), by cbv, ?_, ?_⟩)) | ((with_reducible refine ⟨_, by cbv, ?_, ?_⟩)) | (with_reducible apply_assumption -symm -exfalso only [*]))
  all_goals ((try subst y_fC); (try subst y_nF); (try subst y_amU); (try subst y_amC); (try subst y_amN))
  all_goals (try (repeat' first | with_reducible exact obl0 | with_reducible refine obl1 ?_ ?_))
  all_goals (try first | with_reducible exact True.intro | ((first | refine ob_le hj ?_ | refine ob_lei hj ?_ | refine ob_inb hj ?_ | refine ob_pos hj ?_ | refine ob_ne0 hj ?_ | refine ob_eqb hj ?_); (first | rfl | first | omega | (simp only [hj, std]; split <;> omega) | (simp (disch := omega) only [hj, std, cmpI, cmpB, satB, add64, sub64, ite0, pl0, pl2, pl3, sb0, if_true, if_false, eq_self] <;> omega) | (simp (disch := omega) [hj, std, cmpI, cmpB, satB, add64, sub64, ite0, pl0, pl2, pl3, sb0, if_true, if_false, eq_self] <;> omega))))
  refine aw_lpj hj [(0, .keep), (5, .keep), (10, .keep), (11, .keep), (12, .keep)] [] (fun (⟨i, g, N, D⟩ : Int × Int × Nat × (List C)) => stOfR 57 [(0, .one (.ptr 58 0)), (5, .one (.c (vI g))), (10, .one (.c (.sl m es))), (11, .one (.c (vI (j.ofNat m)))), (12, .one (.c (vI i)))] [] [.box [.st (vI s), .st (vB d), .own fT N D], .none]) (fun (⟨i, g, N, D⟩ : Int × Int × Nat × (List C)) => m - i.toNat) (fun (⟨i, g, N, D⟩ : Int × Int × Nat × (List C)) => 0 ≤ i ∧ i ≤ m ∧ N = n + (armF s (L.take i.toNat)).length ∧ D = cs ++ fC (armF s (L.take i.toNat)) ∧ g = (armF s (L.take i.toNat)).length) ((0, 0, n, cs)) (by generalize @fC = x_fC; generalize @nF = x_nF; generalize @amU = x_amU; generalize @amC = x_amC; generalize @amN = x_amN; cbv) ?_ (fun ⟨i, g, N, D⟩ hI => ?_)
  · exact ⟨by omega, by omega, rfl, by simp [armF, fC], rfl⟩
  obtain ⟨i1, i2, hN, hD, hg⟩ := hI
  have hle := armF_le s (L.take i.toNat)
  have hle2 : (L.take i.toNat).length ≤ L.length := by rw [List.length_take]; omega
  rcases Decidable.em (i < (m : Int)) with hi | hi
  · have a0 := e0 i.toNat
    have a1 := e1 i.toNat
    have b0 := o0 i.toNat (by omega)
    have b1 := o1 i.toNat (by omega)
    have hs := armF_snoc s (L.take i.toNat) (fAt L i.toNat)
    rw [← take_snoc (0, 0) (by omega : i.toNat < L.length)] at hs
    have f0 : (i + 1).toNat = i.toNat + 1 := by omega
    have hm : mayF (fAt L i.toNat) = decide (1 ≤ (fAt L i.toNat).2 ∧ (fAt L i.toNat).2 ≤ 3 ∧ 1 ≤ (fAt L i.toNat).1 ∧ (fAt L i.toNat).1 ≤ 1099511627776) := rfl
    generalize fAt L i.toNat = X at *
    obtain ⟨xa, xk⟩ := X
    dsimp only at a0 a1 hs hm
    clear e0 e1 o0 o1
    have hm' := hm
    clear hm
    have hm : Try.prog.follows .mixedOrders = true := by kernel_rfl
    have hy : (1 ≤ xk ∧ xk ≤ 3 ∧ 1 ≤ xa ∧ xa ≤ 1099511627776) → armF s (L.take (i.toNat + 1)) = armF s (L.take i.toNat) ++ [(s + xa, xk)] := fun h => by rw [hs, if_pos (by rw [hm']; exact decide_eq_true h)]
    have hno : ¬ (1 ≤ xk ∧ xk ≤ 3 ∧ 1 ≤ xa ∧ xa ≤ 1099511627776) → armF s (L.take (i.toNat + 1)) = armF s (L.take i.toNat) := fun h => by rw [hs, if_neg (by rw [hm']; simpa using h)]
    clear hs hm'
    generalize y_fC : @fC = x_fC at *
    generalize y_nF : @nF = x_nF at *
    generalize y_amU : @amU = x_amU at *
    generalize y_amC : @amC = x_amC at *
    generalize y_amN : @amN = x_amN at *
    (repeat' first | (refine ⟨.inr rfl, ret_oku hj (by cbv) (by cbv) rfl ?_ ?_ (upd_of ?_)⟩) | (refine ⟨.inl rfl, ret_oku hj (by cbv) (by cbv) rfl ?_ ?_ (upd_of ?_)⟩) | ((first | with_reducible refine tr_cut (fun h => ?_) (fun h => ?_) | refine aw_condj (by cbv) (fun h => ?_) (fun h => ?_)) <;> (try simp (disch := omega) only [hj, std, cmpI, cmpB, satB, Bool.not_eq_true, Bool.not_eq_false, decide_eq_true_eq, decide_eq_false_iff_not, beq_iff_eq, bne_iff_ne, bne_eq_false_iff_eq, beq_eq_false_iff_ne, ne_eq, reduceCtorEq, not_true_eq_false, not_false_eq_true, pl0, if_true, cmpS_eq, cmpS_neq, Bool.not_eq_eq_eq_not, Bool.not_true, Bool.not_false, Bool.not_eq_true', a0, a1, add64, sub64] at h) <;> (try (exfalso; omega))) | (with_reducible refine tr_alt (fun h => ?_) ?_ <;> (try (exfalso; omega))) | (with_reducible refine tr_ob ?_ ?_) | (with_reducible refine tr_done ?_) | (with_reducible refine dr_go (by cbv) ?_) | (refine aw_dw1 (id := 8) hj tok hm bookF0 [(0, false), (1, false), (2, false), (3, false), (4, false), (5, false), (6, false), (7, false), (8, false), (9, false), (10, false), (11, false), (12, true), (13, true), (14, true), (15, true)] [(16, true), (17, true), (18, true), (19, true)] [1, 2, 3, 4, 5, 6, 7, 8, 9, 10, 11] (by kernel_rfl) (by cbv) ?_) | (refine aw_dw (id := 8) hj tok hm bookF0 [(0, false), (1, false), (2, false), (3, false), (4, false), (5, false), (6, false), (7, false), (8, false), (9, false), (10, false), (11, false), (12, true), (13, true), (14, true), (15, true)] [(16, true), (17, true), (18, true), (19, true)] [1, 2, 3, 4, 5, 6, 7, 8, 9, 10, 11] (by kernel_rfl) (by cbv) ?_) | (refine aw_tr hj tok bookF0 (by cbv) ?_) | (refine aw_seq fun K hK => ?_) | (refine aw_tr1 hj tok bookF0 (by cbv) ?_) | (refine aw_skip ?_) | (refine aw_block ?_) | (refine aw_exit ?_) | (refine aw_ret ⟨.inr rfl, ret_okj hj (by cbv) ?_ ?_⟩) | (refine aw_ret ?_) | (with_reducible refine th_n ?_) | (with_reducible refine th_r ?_) | (with_reducible refine th_x ?_) | (with_reducible refine blk_n ?_) | (with_reducible refine blk_r ?_) | (with_reducible refine blk_x ?_) | (with_reducible refine blk_y rfl ?_) | (refine ⟨.inr rfl, ret_okj hj (by cbv) ?_ ?_⟩) | (refine ⟨.inl rfl, ret_okj hj (by cbv) ?_ ?_⟩) | ((with_reducible refine ⟨(_, _, _, _), by cbv, ?_, ?_⟩)) | ((with_reducible refine ⟨_, by cbv, ?_, ?_⟩)) | (with_reducible apply_assumption -symm -exfalso only [*]))
    all_goals ((try subst y_fC); (try subst y_nF); (try subst y_amU); (try subst y_amC); (try subst y_amN))
    all_goals (try (repeat' first | with_reducible exact obl0 | with_reducible refine obl1 ?_ ?_))
    all_goals (try first | with_reducible exact True.intro | ((first | refine ob_le hj ?_ | refine ob_lei hj ?_ | refine ob_inb hj ?_ | refine ob_pos hj ?_ | refine ob_ne0 hj ?_ | refine ob_eqb hj ?_); (first | rfl | first | omega | (simp only [hj, std]; split <;> omega) | (simp (disch := omega) only [hj, std, cmpI, cmpB, satB, add64, sub64, ite0, pl0, pl2, pl3, sb0, if_true, if_false, eq_self, hl, a0, a1] <;> omega) | (simp (disch := omega) [hj, std, cmpI, cmpB, satB, add64, sub64, ite0, pl0, pl2, pl3, sb0, if_true, if_false, eq_self, hl, a0, a1] <;> omega))) | ((refine ob_ok hj ?_; simp only [hj, std, ite0]; first | exact b0 | exact b1)) | ((simp (disch := omega) only [hj, std, add64, ite0]; first | omega | (rw [f0, hno (by omega)]; exact ⟨by omega, by omega, hN, hD, hg⟩) | (rw [f0, hy (by omega)]; refine ⟨by omega, by omega, by rw [List.length_append, List.length_singleton]; omega, ?_, by rw [List.length_append, List.length_singleton]; omega⟩; rw [hD, List.append_assoc, fC_snoc, a0, a1]))))
  · rw [take_end (by omega : ¬ i.toNat < L.length)] at hN hD hg
    generalize y_fC : @fC = x_fC at *
    generalize y_nF : @nF = x_nF at *
    generalize y_amU : @amU = x_amU at *
    generalize y_amC : @amC = x_amC at *
    generalize y_amN : @amN = x_amN at *
    (repeat' first | (refine ⟨.inr rfl, ret_oku hj (by cbv) (by cbv) rfl ?_ ?_ (upd_of ?_)⟩) | (refine ⟨.inl rfl, ret_oku hj (by cbv) (by cbv) rfl ?_ ?_ (upd_of ?_)⟩) | ((first | with_reducible refine tr_cut (fun h => ?_) (fun h => ?_) | refine aw_condj (by cbv) (fun h => ?_) (fun h => ?_)) <;> (try simp (disch := omega) only [hj, std, cmpI, cmpB, satB, Bool.not_eq_true, Bool.not_eq_false, decide_eq_true_eq, decide_eq_false_iff_not, beq_iff_eq, bne_iff_ne, bne_eq_false_iff_eq, beq_eq_false_iff_ne, ne_eq, reduceCtorEq, not_true_eq_false, not_false_eq_true, pl0, if_true, cmpS_eq, cmpS_neq, Bool.not_eq_eq_eq_not, Bool.not_true, Bool.not_false, Bool.not_eq_true', add64, sub64] at h) <;> (try (exfalso; omega))) | (with_reducible refine tr_alt (fun h => ?_) ?_ <;> (try (exfalso; omega))) | (with_reducible refine tr_ob ?_ ?_) | (with_reducible refine tr_done ?_) | (refine aw_tr hj tok bookF0 (by cbv) ?_) | (refine aw_seq fun K hK => ?_) | (refine aw_tr1 hj tok bookF0 (by cbv) ?_) | (refine aw_skip ?_) | (refine aw_block ?_) | (refine aw_exit ?_) | (refine aw_ret ⟨.inr rfl, ret_okj hj (by cbv) ?_ ?_⟩) | (refine aw_ret ?_) | (with_reducible refine th_n ?_) | (with_reducible refine th_r ?_) | (with_reducible refine th_x ?_) | (with_reducible refine blk_n ?_) | (with_reducible refine blk_r ?_) | (with_reducible refine blk_x ?_) | (with_reducible refine blk_y rfl ?_) | (refine ⟨.inr rfl, ret_okj hj (by cbv) ?_ ?_⟩) | (refine ⟨.inl rfl, ret_okj hj (by cbv) ?_ ?_⟩) | ((with_reducible refine ⟨(_, _, _, _), by cbv, ?_, ?_⟩)) | ((with_reducible refine ⟨_, by cbv, ?_, ?_⟩)) | (with_reducible apply_assumption -symm -exfalso only [*]))
    all_goals ((try subst y_fC); (try subst y_nF); (try subst y_amU); (try subst y_amC); (try subst y_amN))
    all_goals (try (repeat' first | with_reducible exact obl0 | with_reducible refine obl1 ?_ ?_))
    all_goals (try first | with_reducible exact True.intro | ((first | refine ob_le hj ?_ | refine ob_lei hj ?_ | refine ob_inb hj ?_ | refine ob_pos hj ?_ | refine ob_ne0 hj ?_ | refine ob_eqb hj ?_); (first | rfl | first | omega | (simp only [hj, std]; split <;> omega) | (simp (disch := omega) only [hj, std, cmpI, cmpB, satB, add64, sub64, ite0, pl0, pl2, pl3, sb0, if_true, if_false, eq_self] <;> omega) | (simp (disch := omega) [hj, std, cmpI, cmpB, satB, add64, sub64, ite0, pl0, pl2, pl3, sb0, if_true, if_false, eq_self] <;> omega))) | ((rw [hg]; exact rfl)) | ((refine upd_box ?_ (upd_none (upd_nil _)); rw [← hN, ← hD]; rfl)))
theorem pc_ArmedG (s : Int) (d : Bool) (L : List Fl) (h1 : 0 ≤ s ∧ s ≤ 1000000) (h3 : L.length ≤ 1000000) (h4 : ∀ f ∈ L, 0 ≤ f.1 ∧ f.1 ≤ 1099512627776) :
    PC Try.prog T 16 [.root (.box [.st (vI s), .st (vB d), .own fT (nF L) (fC L)])] (ret1 (.own fT (gtN s (fC L)) (gtC s (fC L)))) [.box [.st (vI s), .st (vB d), .own fT (nF L) (fC L)]] := by
  have u1 : gtN s (fC L) = nF (gotF s L) := by unfold gtN; rw [flsOf_fC]
  have u2 : gtC s (fC L) = fC (gotF s L) := by unfold gtC; rw [flsOf_fC]
  rw [u1, u2]
  have hl := fC_len L
  have hn := nF_eq L
  have e0 := gi_fC0 L
  have e1 := gi_fC1 L
  have o0 := fun k h => ok_fC0 (l := L) (k := k) h
  have o1 := fun k h => ok_fC1 (l := L) (k := k) h
  have hr := fun (k : Nat) (h : k < L.length) => h4 (fAt L k) (getD_mem (0, 0) h)
  generalize nF L = m at *
  generalize fC L = es at *
  refine pc_of tok Try.func16 rfl (by rfl) ?_
  obtain ⟨j, hj⟩ : ∃ j : J, j = std Try.prog T := ⟨_, rfl⟩
  have hm : Try.prog.follows .mixedOrders = true := by kernel_rfl
  generalize y_fC : @fC = x_fC at *
  generalize y_nF : @nF = x_nF at *
  generalize y_gtN : @gtN = x_gtN at *
  generalize y_gtC : @gtC = x_gtC at *
  (repeat' first | (refine ⟨.inr rfl, ret_oku hj (by cbv) (by cbv) rfl ?_ ?_ (upd_of ?_)⟩) | (refine ⟨.inl rfl, ret_oku hj (by cbv) (by cbv) rfl ?_ ?_ (upd_of ?_)⟩) | (refine aw_ret ⟨.inr rfl, ret_oknil hj fT (by cbv) ?_ ?_⟩) | (refine ⟨.inr rfl, ret_oknil hj fT (by cbv) ?_ ?_⟩) | ((first | with_reducible refine tr_cut (fun h => ?_) (fun h => ?_) | refine aw_condj (by cbv) (fun h => ?_) (fun h => ?_)) <;> (try simp (disch := omega) only [hj, std, cmpI, cmpB, satB, Bool.not_eq_true, Bool.not_eq_false, decide_eq_true_eq, decide_eq_false_iff_not, beq_iff_eq, bne_iff_ne, bne_eq_false_iff_eq, beq_eq_false_iff_ne, ne_eq, reduceCtorEq, not_true_eq_false, not_false_eq_true, pl0, if_true, cmpS_eq, cmpS_neq, Bool.not_eq_eq_eq_not, Bool.not_true, Bool.not_false, Bool.not_eq_true', add64, sub64] at h) <;> (try (exfalso; omega))) | (with_reducible refine tr_alt (fun h => ?_) ?_ <;> (try (exfalso; omega))) | (with_reducible refine tr_ob ?_ ?_) | (with_reducible refine tr_done ?_) | (refine aw_tr hj tok bookF0 (by cbv) ?_) | (refine aw_seq fun K hK => ?_) | (refine aw_tr1 hj tok bookF0 (by cbv) ?_) | (refine aw_skip ?_) | (refine aw_block ?_) | (refine aw_exit ?_) | (refine aw_ret ⟨.inr rfl, ret_okj hj (by cbv) ?_ ?_⟩) | (refine aw_ret ?_) | (with_reducible refine th_n ?_) | (with_reducible refine th_r ?_) | (with_reducible refine th_x ?_) | (with_reducible refine blk_n ?_) | (with_reducible refine blk_r ?_) | (with_reducible refine blk_x ?_) | (with_reducible refine blk_y rfl ?_) | (refine ⟨.inr rfl, ret_okj hj (by cbv) ?_ ?_⟩) | (refine ⟨.inl rfl, ret_okj hj (by cbv) ?_ ?_⟩) | ((with_reducible refine ⟨(_, _, _), by cbv, ?_, ?_⟩)) | ((with_reducible refine ⟨_, by cbv, ?_, ?_⟩)) | (with_reducible apply_assumption -symm -exfalso only [*]))
  all_goals ((try subst y_fC); (try subst y_nF); (try subst y_gtN); (try subst y_gtC))
  all_goals (try (repeat' first | with_reducible exact obl0 | with_reducible refine obl1 ?_ ?_))
  all_goals (try first | with_reducible exact True.intro | ((first | refine ob_le hj ?_ | refine ob_lei hj ?_ | refine ob_inb hj ?_ | refine ob_pos hj ?_ | refine ob_ne0 hj ?_ | refine ob_eqb hj ?_); (first | rfl | first | omega | (simp only [hj, std]; split <;> omega) | (simp (disch := omega) only [hj, std, cmpI, cmpB, satB, add64, sub64, ite0, pl0, pl2, pl3, sb0, if_true, if_false, eq_self] <;> omega) | (simp (disch := omega) [hj, std, cmpI, cmpB, satB, add64, sub64, ite0, pl0, pl2, pl3, sb0, if_true, if_false, eq_self] <;> omega))))
  refine aw_lpj hj [(0, .keep), (3, .own fT), (11, .keep), (12, .keep), (13, .keep)] [] (fun (⟨i, N, D⟩ : Int × Nat × (List C)) => stOfR 39 [(0, .one (.ptr 40 0)), (3, .one (.view 3 0)), (11, .one (.view 40 2)), (12, .one (.c (vI (j.ofNat m)))), (13, .one (.c (vI i)))] [(3, .loose [.own fT N D])] [.box [.st (vI s), .st (vB d), .own fT m es]]) (fun (⟨i, N, D⟩ : Int × Nat × (List C)) => m - i.toNat) (fun (⟨i, N, D⟩ : Int × Nat × (List C)) => 0 ≤ i ∧ i ≤ m ∧ N = nF (gotF s (L.take i.toNat)) ∧ D = fC (gotF s (L.take i.toNat))) ((0, 0, [])) (by generalize @fC = x_fC; generalize @nF = x_nF; generalize @gtN = x_gtN; generalize @gtC = x_gtC; cbv) ?_ (fun ⟨i, N, D⟩ hI => ?_)
  · exact ⟨by omega, by omega, by simp [gotF, nF], by simp [gotF, fC]⟩
  obtain ⟨i1, i2, hN, hD⟩ := hI
  rw [nF_eq] at hN
  have hle := gotF_le s (L.take i.toNat)
  have hle2 : (L.take i.toNat).length ≤ L.length := by rw [List.length_take]; omega
  rcases Decidable.em (i < (m : Int)) with hi | hi
  · have a0 := e0 i.toNat
    have a1 := e1 i.toNat
    have b0 := o0 i.toNat (by omega)
    have b1 := o1 i.toNat (by omega)
    have hrX := hr i.toNat (by omega)
    have hs := gotF_snoc s (L.take i.toNat) (fAt L i.toNat)
    rw [← take_snoc (0, 0) (by omega : i.toNat < L.length)] at hs
    have f0 : (i + 1).toNat = i.toNat + 1 := by omega
    generalize fAt L i.toNat = X at *
    obtain ⟨xa, xk⟩ := X
    dsimp only at a0 a1 hs hrX
    clear e0 e1 o0 o1 hr
    have hy : s < xa → gotF s (L.take (i.toNat + 1)) = gotF s (L.take i.toNat) ++ [(xa - s, xk)] := fun h => by rw [hs, if_pos h]
    have hno : ¬ s < xa → gotF s (L.take (i.toNat + 1)) = gotF s (L.take i.toNat) := fun h => by rw [hs, if_neg h]
    clear hs
    generalize y_fC : @fC = x_fC at *
    generalize y_nF : @nF = x_nF at *
    generalize y_gtN : @gtN = x_gtN at *
    generalize y_gtC : @gtC = x_gtC at *
    (repeat' first | (refine ⟨.inr rfl, ret_oku hj (by cbv) (by cbv) rfl ?_ ?_ (upd_of ?_)⟩) | (refine ⟨.inl rfl, ret_oku hj (by cbv) (by cbv) rfl ?_ ?_ (upd_of ?_)⟩) | ((first | with_reducible refine tr_cut (fun h => ?_) (fun h => ?_) | refine aw_condj (by cbv) (fun h => ?_) (fun h => ?_)) <;> (try simp (disch := omega) only [hj, std, cmpI, cmpB, satB, Bool.not_eq_true, Bool.not_eq_false, decide_eq_true_eq, decide_eq_false_iff_not, beq_iff_eq, bne_iff_ne, bne_eq_false_iff_eq, beq_eq_false_iff_ne, ne_eq, reduceCtorEq, not_true_eq_false, not_false_eq_true, pl0, if_true, cmpS_eq, cmpS_neq, Bool.not_eq_eq_eq_not, Bool.not_true, Bool.not_false, Bool.not_eq_true', a0, a1, add64, sub64] at h) <;> (try (exfalso; omega))) | (with_reducible refine tr_alt (fun h => ?_) ?_ <;> (try (exfalso; omega))) | (with_reducible refine tr_ob ?_ ?_) | (with_reducible refine tr_done ?_) | (with_reducible refine dr_go (by cbv) ?_) | (refine aw_dw1 (id := 8) hj tok hm bookF0 [(0, false), (1, false), (2, false), (3, false), (4, false), (5, false), (6, false), (7, false), (8, true), (9, true), (10, true), (11, true)] [(12, true), (13, true)] [0, 1, 2, 3, 4, 5, 6, 7] (by kernel_rfl) (by cbv) ?_) | (refine aw_dw (id := 8) hj tok hm bookF0 [(0, false), (1, false), (2, false), (3, false), (4, false), (5, false), (6, false), (7, false), (8, true), (9, true), (10, true), (11, true)] [(12, true), (13, true)] [0, 1, 2, 3, 4, 5, 6, 7] (by kernel_rfl) (by cbv) ?_) | (refine aw_dr1 (id := 7) hj tok hm bookF0 true [(0, false), (1, false), (2, true), (3, true), (4, true), (5, true), (6, true)] (by kernel_rfl) (by cbv) ?_) | (refine aw_dr (id := 7) hj tok hm bookF0 true [(0, false), (1, false), (2, true), (3, true), (4, true), (5, true), (6, true)] (by kernel_rfl) (by cbv) ?_) | (refine aw_tr hj tok bookF0 (by cbv) ?_) | (refine aw_seq fun K hK => ?_) | (refine aw_tr1 hj tok bookF0 (by cbv) ?_) | (refine aw_skip ?_) | (refine aw_block ?_) | (refine aw_exit ?_) | (refine aw_ret ⟨.inr rfl, ret_okj hj (by cbv) ?_ ?_⟩) | (refine aw_ret ?_) | (with_reducible refine th_n ?_) | (with_reducible refine th_r ?_) | (with_reducible refine th_x ?_) | (with_reducible refine blk_n ?_) | (with_reducible refine blk_r ?_) | (with_reducible refine blk_x ?_) | (with_reducible refine blk_y rfl ?_) | (refine ⟨.inr rfl, ret_okj hj (by cbv) ?_ ?_⟩) | (refine ⟨.inl rfl, ret_okj hj (by cbv) ?_ ?_⟩) | ((with_reducible refine ⟨(_, _, _), by cbv, ?_, ?_⟩)) | ((with_reducible refine ⟨_, by cbv, ?_, ?_⟩)) | (with_reducible apply_assumption -symm -exfalso only [*]))
    all_goals ((try subst y_fC); (try subst y_nF); (try subst y_gtN); (try subst y_gtC))
    all_goals (try (repeat' first | with_reducible exact obl0 | with_reducible refine obl1 ?_ ?_))
    all_goals (try first | with_reducible exact True.intro | ((first | refine ob_le hj ?_ | refine ob_lei hj ?_ | refine ob_inb hj ?_ | refine ob_pos hj ?_ | refine ob_ne0 hj ?_ | refine ob_eqb hj ?_); (first | rfl | first | omega | (simp only [hj, std]; split <;> omega) | (simp (disch := omega) only [hj, std, cmpI, cmpB, satB, add64, sub64, ite0, pl0, pl2, pl3, sb0, if_true, if_false, eq_self, hl, a0, a1] <;> omega) | (simp (disch := omega) [hj, std, cmpI, cmpB, satB, add64, sub64, ite0, pl0, pl2, pl3, sb0, if_true, if_false, eq_self, hl, a0, a1] <;> omega))) | ((refine ob_ok hj ?_; simp only [hj, std, ite0]; first | exact b0 | exact b1)) | ((simp (disch := omega) only [hj, std, add64, sub64, ite0]; first | omega | (rw [f0, hno (by omega), nF_eq]; exact ⟨by omega, by omega, hN, hD⟩) | (rw [f0, hy (by omega), nF_eq]; refine ⟨by omega, by omega, by rw [List.length_append, List.length_singleton]; omega, ?_⟩; rw [hD, fC_snoc, a0, a1]))))
  · rw [take_end (by omega : ¬ i.toNat < L.length)] at hN hD
    generalize y_fC : @fC = x_fC at *
    generalize y_nF : @nF = x_nF at *
    generalize y_gtN : @gtN = x_gtN at *
    generalize y_gtC : @gtC = x_gtC at *
    (repeat' first | (refine ⟨.inr rfl, ret_oku hj (by cbv) (by cbv) rfl ?_ ?_ (upd_of ?_)⟩) | (refine ⟨.inl rfl, ret_oku hj (by cbv) (by cbv) rfl ?_ ?_ (upd_of ?_)⟩) | ((first | with_reducible refine tr_cut (fun h => ?_) (fun h => ?_) | refine aw_condj (by cbv) (fun h => ?_) (fun h => ?_)) <;> (try simp (disch := omega) only [hj, std, cmpI, cmpB, satB, Bool.not_eq_true, Bool.not_eq_false, decide_eq_true_eq, decide_eq_false_iff_not, beq_iff_eq, bne_iff_ne, bne_eq_false_iff_eq, beq_eq_false_iff_ne, ne_eq, reduceCtorEq, not_true_eq_false, not_false_eq_true, pl0, if_true, cmpS_eq, cmpS_neq, Bool.not_eq_eq_eq_not, Bool.not_true, Bool.not_false, Bool.not_eq_true', add64, sub64] at h) <;> (try (exfalso; omega))) | (with_reducible refine tr_alt (fun h => ?_) ?_ <;> (try (exfalso; omega))) | (with_reducible refine tr_ob ?_ ?_) | (with_reducible refine tr_done ?_) | (refine aw_tr hj tok bookF0 (by cbv) ?_) | (refine aw_seq fun K hK => ?_) | (refine aw_tr1 hj tok bookF0 (by cbv) ?_) | (refine aw_skip ?_) | (refine aw_block ?_) | (refine aw_exit ?_) | (refine aw_ret ⟨.inr rfl, ret_okj hj (by cbv) ?_ ?_⟩) | (refine aw_ret ?_) | (with_reducible refine th_n ?_) | (with_reducible refine th_r ?_) | (with_reducible refine th_x ?_) | (with_reducible refine blk_n ?_) | (with_reducible refine blk_r ?_) | (with_reducible refine blk_x ?_) | (with_reducible refine blk_y rfl ?_) | (refine ⟨.inr rfl, ret_okj hj (by cbv) ?_ ?_⟩) | (refine ⟨.inl rfl, ret_okj hj (by cbv) ?_ ?_⟩) | ((with_reducible refine ⟨(_, _, _), by cbv, ?_, ?_⟩)) | ((with_reducible refine ⟨_, by cbv, ?_, ?_⟩)) | (with_reducible apply_assumption -symm -exfalso only [*]))
    all_goals ((try subst y_fC); (try subst y_nF); (try subst y_gtN); (try subst y_gtC))
    all_goals (try (repeat' first | with_reducible exact obl0 | with_reducible refine obl1 ?_ ?_))
    all_goals (try first | with_reducible exact True.intro | ((first | refine ob_le hj ?_ | refine ob_lei hj ?_ | refine ob_inb hj ?_ | refine ob_pos hj ?_ | refine ob_ne0 hj ?_ | refine ob_eqb hj ?_); (first | rfl | first | omega | (simp only [hj, std]; split <;> omega) | (simp (disch := omega) only [hj, std, cmpI, cmpB, satB, add64, sub64, ite0, pl0, pl2, pl3, sb0, if_true, if_false, eq_self] <;> omega) | (simp (disch := omega) [hj, std, cmpI, cmpB, satB, add64, sub64, ite0, pl0, pl2, pl3, sb0, if_true, if_false, eq_self] <;> omega))) | ((rw [nF_eq, ← hN, ← hD]; exact rfl)) | ((refine upd_box ?_ (upd_nil _); rfl)))
end Go.Proofs.Ytnmlcfjljeccnaa.A
/- The meter's Step: the contract. -/
set_option linter.unusedSimpArgs false
set_option linter.unusedVariables false
set_option maxRecDepth 100000
set_option maxHeartbeats 4000000
namespace Go.Proofs.Ytnmlcfjljeccnaa.A
open Go Go.RowKit
theorem fls_read {w : World} {S : Nat → Prop} {v : Value} {e : TypeId} {xs : List Value} {L : List Fl} {a : Option Addr} {cap : Nat} (ho : w.ownsRow 0 e 2 v (nF L) xs) (hl : xs.length = (fC L).length)
    (hx : ∀ j (h : j < (fC L).length) (h2 : j < xs.length), CRep w S xs[j] (fC L)[j]) (hv : v = .slice a (nF L) cap) : FlsAt w a L := fun h0 => by
  have hn := nF_eq L
  have hfl := fC_len L
  obtain ⟨h1, h2 | ⟨g, cap', cur, rfl, _, hg, h3, h4, h5, h6⟩⟩ := ho
  · omega
  · cases hv
    refine ⟨g, 0, rfl, lt_of_block hg, fun q hq => ?_⟩
    have hc : ∀ j (h : j < (fC L).length), ∀ u, (fC L)[j] = .val u → w.cell? ⟨g, 0 + j, none⟩ = some u := fun j hj u hu => by
      have hj2 : j < xs.length := by omega
      have k := hx j hj hj2
      rw [hu] at k
      rw [cell_of_row w g (0 + j) _ _ _ hg, Nat.zero_add, ← (crep_val k).1]
      have e2 : cur.toList[j]? = xs[j]? := by rw [← h6, List.getElem?_take, if_pos (by omega)]
      rw [← Array.getElem?_toList, e2]
      exact List.getElem?_eq_getElem hj2
    obtain ⟨q0, q1⟩ := fC_at L q hq
    rw [cellAt, List.getD_eq_getElem?_getD, List.getElem?_eq_getElem (by omega)] at q0 q1
    exact ⟨hc _ _ _ q0, hc (q * 2 + 1) _ _ q1⟩
theorem pc_StepG (s : Int) (d : Bool) (L : List Fl) (hs : 0 ≤ s ∧ s ≤ 1000000) (hn : L.length ≤ 1000000) (hkd : ∀ f ∈ L, 1 ≤ f.2 ∧ f.2 ≤ 3) :
    PC Try.prog T 11 [.root (.box [.st (vI s), .st (vB d), .own fT (nF L) (fC L)])] (ret1 (.st (vI (stE s d (fC L))))) [.box [.st (vI (stS s d)), .st (vB (stD s d (fC L))), .own fT (nF L) (fC L)]] := by
  refine pc_boxed rfl rfl ?_
  intro w S F ph arr e0 hS hrow hsz harr hrep hblk
  have k0 : (ph 0).v = .int .i64 s := (crep_val (show CRep w S (ph 0).v (.val (.int .i64 s)) from hrep 0 (by simp))).1
  have k1 : (ph 1).v = .bool d := (crep_val (show CRep w S (ph 1).v (.val (.bool d)) from hrep 1 (by simp))).1
  obtain ⟨xs, ho, hl, hx⟩ : RCRep T w S (ph 2) (.own fT (nF L) (fC L)) := hrep 2 (by simp)
  have hz : szOf T fT = 2 := by kernel_rfl
  rw [hz] at ho
  obtain ⟨a, cap, hv, _, _, _⟩ := owns_form ho
  have hF : ∀ x, a = some x → x.block ≠ F := fun x hx => by
    refine (hblk 2 (.own fT (nF L) (fC L)) rfl x.block ?_).1
    show (ph 2).v.ownBlock = some x.block
    rw [hv, hx]; rfl
  have a0 := harr 0 (by simp)
  have a1 := harr 1 (by simp)
  have a2 := harr 2 (by simp)
  rw [k0] at a0; rw [k1] at a1; rw [hv] at a2
  have hsz3 : arr.size = 3 := hsz
  have e : arr = #[.int .i64 s, .bool d, .slice a (nF L) cap] := by
    apply Array.ext
    · exact hsz3
    · intro i h1 h2
      have h3 : i < 3 := h2
      rw [Array.getElem?_eq_getElem (by omega)] at a0 a1 a2
      match i, h3 with
      | 0, _ => exact Option.some.inj a0
      | 1, _ => exact Option.some.inj a1
      | 2, _ => exact Option.some.inj a2
  subst e
  have hnf := nF_eq L
  have hL := fls_read ho hl hx hv
  rw [hnf] at hrow
  refine (step_any F s d a cap L e0 w hs hn hkd hrow hL hF).mono ?_
  rintro en w' ⟨rfl, h1, h2⟩
  refine ⟨rfl, h2, _, h1, rfl, fun o rc hr => ?_⟩
  match o, hr with
  | 0, hr => cases hr; exact .inr ⟨_, rfl, rfl, rfl⟩
  | 1, hr => cases hr; exact .inr ⟨_, rfl, rfl, rfl⟩
  | 2, hr => cases hr; exact .inl ⟨rfl, congrArg (fun n => some (Value.slice a n cap)) hnf.symm⟩
  | o + 3, hr => simp at hr
end Go.Proofs.Ytnmlcfjljeccnaa.A
/- The ghost machine at this program: a contract with no roots; the empty book. -/
set_option linter.unusedSimpArgs false
set_option linter.unusedVariables false
set_option maxRecDepth 100000
set_option maxHeartbeats 4000000
namespace Go.Proofs.Ytnmlcfjljeccnaa.A
open Go
def pc (f : FuncId) (args : List Arg) (ret : RV) : Prop := (std Try.prog T).pc f args ret []
end Go.Proofs.Ytnmlcfjljeccnaa.A
/- The law of the meter: the chapter's example; contracts in the books' words. -/
set_option linter.unusedSimpArgs false
set_option linter.unusedVariables false
set_option maxRecDepth 100000
set_option maxHeartbeats 4000000
namespace Go.Proofs.Ytnmlcfjljeccnaa.A
open Go
theorem fC_vals (l : List Fl) : ∀ c ∈ fC l, ∃ v, c = .val v := by
  induction l with
  | nil => intro c h; exact absurd h (by simp [fC])
  | cons f l ih =>
    intro c h
    rw [fC_cons] at h
    rcases List.mem_cons.1 h with rfl | h
    · exact ⟨_, rfl⟩
    · rcases List.mem_cons.1 h with rfl | h
      · exact ⟨_, rfl⟩
      · exact ih c h
abbrev mBox (s : Int) (d : Bool) (n : Nat) (cs : List C) : Root := .box [.st (vI s), .st (vB d), .own fT n cs]
theorem c_may (a k : Int) : pc 12 [.v true [vI a, vI k]] (ret1 (.st (vB (mayV a k)))) := ⟨enters Try.func12 (by kernel_rfl) (by kernel_rfl), pc_may a k⟩
theorem c_New : (std Try.prog T).pcn 10 [] [.st (vI 0), .st (vB false), .own fT 0 []] := ⟨enters Try.func10 (by kernel_rfl) (by kernel_rfl), pcn_New⟩
theorem c_Steps (s : Int) (d : Bool) (n : Nat) (cs : List C) : (std Try.prog T).pc 17 [.root (mBox s d n cs)] (ret1 (.st (vI s))) [mBox s d n cs] := ⟨enters Try.func17 (by kernel_rfl) (by kernel_rfl), pc_Steps s d n cs⟩
theorem c_Down (s : Int) (d : Bool) (n : Nat) (cs : List C) : (std Try.prog T).pc 18 [.root (mBox s d n cs)] (ret1 (.st (vB d))) [mBox s d n cs] := ⟨enters Try.func18 (by kernel_rfl) (by kernel_rfl), pc_Down s d n cs⟩
theorem c_Fall (s : Int) (d : Bool) (n : Nat) (cs : List C) : (std Try.prog T).pc 14 [.root (mBox s d n cs)] ⟨true, []⟩ [mBox s true n cs] := ⟨enters Try.func14 (by kernel_rfl) (by kernel_rfl), pc_Fall s d n cs⟩
theorem c_Rise (s : Int) (d : Bool) (n : Nat) (cs : List C) : (std Try.prog T).pc 15 [.root (mBox s d n cs)] ⟨true, []⟩ [mBox s false 0 []] := ⟨enters Try.func15 (by kernel_rfl) (by kernel_rfl), pc_Rise s d n cs⟩
theorem c_Step {s : Int} {d : Bool} {n : Nat} {cs : List C} (L : List Fl) (e1 : n = nF L) (e2 : cs = fC L) (hs : 0 ≤ s ∧ s ≤ 1000000) (hn : L.length ≤ 1000000) (hkd : ∀ f ∈ L, 1 ≤ f.2 ∧ f.2 ≤ 3) :
    (std Try.prog T).pc 11 [.root (mBox s d n cs)] (ret1 (.st (vI (stE s d cs)))) [mBox (stS s d) (stD s d cs) n cs] := by
  subst e1; subst e2; exact ⟨enters Try.func11 (by kernel_rfl) (by kernel_rfl), pc_StepG s d L hs hn hkd⟩
theorem c_Arm {s : Int} {d : Bool} {n m : Nat} {cs es : List C} (L : List Fl) (e1 : m = nF L) (e2 : es = fC L) (h1 : 0 ≤ s ∧ s ≤ 1000000) (h2 : n ≤ 1000000) (h3 : L.length ≤ 1000000) :
    (std Try.prog T).pc 13 [.root (mBox s d n cs), .v false [.sl m es]] (ret1 (.st (vI (amN es)))) [mBox s d (amU s n es) (amC s cs es), .none] := by
  subst e1; subst e2; exact ⟨enters Try.func13 (by kernel_rfl) (by kernel_rfl), pc_ArmG s d n cs L h1 h2 h3⟩
theorem c_Armed {s : Int} {d : Bool} {n : Nat} {cs : List C} (L : List Fl) (e1 : n = nF L) (e2 : cs = fC L) (h1 : 0 ≤ s ∧ s ≤ 1000000) (h3 : L.length ≤ 1000000) (h4 : ∀ f ∈ L, 0 ≤ f.1 ∧ f.1 ≤ 1099512627776) :
    (std Try.prog T).pc 16 [.root (mBox s d n cs)] (ret1 (.own fT (gtN s cs) (gtC s cs))) [mBox s d n cs] := by
  subst e1; subst e2; exact ⟨enters Try.func16 (by kernel_rfl) (by kernel_rfl), pc_ArmedG s d L h1 h3 h4⟩
def bookF (x_stS : Int → Bool → Int) (x_stE : Int → Bool → List C → Int) (x_stD : Int → Bool → List C → Bool) (x_mayV : Int → Int → Bool) (x_amU : Int → Nat → List C → Nat) (x_amC : Int → List C → List C → List C) (x_amN : List C → Int) (x_gtN : Int → List C → Nat) (x_gtC : Int → List C → List C) : Book := fun f xs => match f, xs with
  | 10, _ => some (⟨false, []⟩, [.box [.st (vI 0), .st (vB false), .own fT 0 []]])
  | 11, [.root (.box [.st (.val (.int _ s)), .st (.val (.bool d)), .own _ n cs])] => some (ret1 (.st (vI (x_stE s d cs))), [.box [.st (vI (x_stS s d)), .st (vB (x_stD s d cs)), .own fT n cs]])
  | 13, [.root (.box [.st (.val (.int _ s)), .st (.val (.bool d)), .own _ n cs]), .v false [.sl _ es]] => some (ret1 (.st (vI (x_amN es))), [.box [.st (vI s), .st (vB d), .own fT (x_amU s n es) (x_amC s cs es)], .none])
  | 16, [.root (.box [.st (.val (.int _ s)), .st (.val (.bool d)), .own _ n cs])] => some (ret1 (.own fT (x_gtN s cs) (x_gtC s cs)), [.box [.st (vI s), .st (vB d), .own fT n cs]])
  | 17, [.root (.box [.st (.val (.int _ s)), .st (.val (.bool d)), .own _ n cs])] => some (ret1 (.st (vI s)), [.box [.st (vI s), .st (vB d), .own fT n cs]])
  | 18, [.root (.box [.st (.val (.int _ s)), .st (.val (.bool d)), .own _ n cs])] => some (ret1 (.st (vB d)), [.box [.st (vI s), .st (vB d), .own fT n cs]])
  | 14, [.root (.box [.st (.val (.int _ s)), .st (.val (.bool _)), .own _ n cs])] => some (⟨true, []⟩, [.box [.st (vI s), .st (vB true), .own fT n cs]])
  | 15, [.root (.box [.st (.val (.int _ s)), .st (.val (.bool _)), .own _ _ _])] => some (⟨true, []⟩, [.box [.st (vI s), .st (vB false), .own fT 0 []]])
  | 12, [.v true [.val (.int _ a), .val (.int _ k)]] => some (ret1 (.st (vB (x_mayV a k))))
  | 9, _ => some (ret1 (.st (vB true)))
  | _, _ => none
def xfL : List Fl := [(2, 3), (3, 1)]
def xfC : List C := fC xfL
def xfE : List Fl := [(2, 3), (3, 1), (0, 1)]
def bookG (x_stS : Int → Bool → Int) (x_stE : Int → Bool → List C → Int) (x_stD : Int → Bool → List C → Bool) (x_xfC : List C) : Book := fun f xs => match f, xs with
  | 13, _ => some (ret1 (.st (vI 2)), [.box [.st (vI 0), .st (vB false), .own fT 2 x_xfC], .none])
  | 10, _ => some (⟨false, []⟩, [.box [.st (vI 0), .st (vB false), .own fT 0 []]])
  | 11, [.root (.box [.st (.val (.int _ s)), .st (.val (.bool d)), .own _ n cs])] => some (ret1 (.st (vI (x_stE s d cs))), [.box [.st (vI (x_stS s d)), .st (vB (x_stD s d cs)), .own fT n cs]])
  | 17, [.root (.box [.st (.val (.int _ s)), .st (.val (.bool d)), .own _ n cs])] => some (ret1 (.st (vI s)), [.box [.st (vI s), .st (vB d), .own fT n cs]])
  | 18, [.root (.box [.st (.val (.int _ s)), .st (.val (.bool d)), .own _ n cs])] => some (ret1 (.st (vB d)), [.box [.st (vI s), .st (vB d), .own fT n cs]])
  | _, _ => none
theorem pc_awake10 : PC Try.prog T 9 [] (ret1 (.st (vB true))) [] := by
  have cA : (std Try.prog T).pc 13 [.root (mBox 0 false 0 []), .v false [.sl 3 [vI 2, vI 3, vI 3, vI 1, vI 0, vI 1]]] (ret1 (.st (vI 2))) [mBox 0 false 2 xfC, .none] := c_Arm (s := 0) (d := false) (n := 0) (cs := []) xfE rfl rfl (by decide) (by decide) (by decide)
  have k : ∀ f ∈ xfL, 1 ≤ f.2 ∧ f.2 ≤ 3 := by decide
  have c1 := c_Step (s := 0) (d := false) (n := 2) (cs := xfC) xfL rfl rfl (by decide) (by decide) k
  have c2 := c_Step (s := stS 0 false) (d := stD 0 false xfC) (n := 2) (cs := xfC) xfL rfl rfl (by decide) (by decide) k
  have c3 := c_Step (s := stS (stS 0 false) (stD 0 false xfC)) (d := stD (stS 0 false) (stD 0 false xfC) xfC) (n := 2) (cs := xfC) xfL rfl rfl (by decide) (by decide) k
  have z1 : stE 0 false xfC = 0 := by decide
  have z2 : stE (stS 0 false) (stD 0 false xfC) xfC = 10 := by decide
  have z3 : stE (stS (stS 0 false) (stD 0 false xfC)) (stD (stS 0 false) (stD 0 false xfC) xfC) xfC = 11 := by decide
  have z4 : stD (stS (stS 0 false) (stD 0 false xfC)) (stD (stS 0 false) (stD 0 false xfC) xfC) xfC = true := by decide
  have z5 : stS (stS (stS 0 false) (stD 0 false xfC)) (stD (stS 0 false) (stD 0 false xfC) xfC) = 3 := by decide
  refine pc_of tok Try.func9 rfl (by rfl) ?_
  obtain ⟨j, hj⟩ : ∃ j : J, j = std Try.prog T := ⟨_, rfl⟩
  have hm : Try.prog.follows .mixedOrders = true := by kernel_rfl
  generalize y_stS : @stS = x_stS at *
  generalize y_stE : @stE = x_stE at *
  generalize y_stD : @stD = x_stD at *
  generalize y_xfC : @xfC = x_xfC at *
  (repeat' first | ((first | with_reducible refine tr_cut (fun h => ?_) (fun h => ?_) | refine aw_condj (by cbv) (fun h => ?_) (fun h => ?_)) <;> (try simp (disch := omega) only [hj, std, cmpI, cmpB, satB, Bool.not_eq_true, Bool.not_eq_false, decide_eq_true_eq, decide_eq_false_iff_not, beq_iff_eq, bne_iff_ne, bne_eq_false_iff_eq, beq_eq_false_iff_ne, ne_eq, reduceCtorEq, not_true_eq_false, not_false_eq_true, pl0, if_true, cmpS_eq, cmpS_neq, Bool.not_eq_eq_eq_not, Bool.not_true, Bool.not_false, Bool.not_eq_true', z1, z2, z3, z4, z5, add64, sub64] at h) <;> (try (exfalso; omega))) | (with_reducible refine tr_alt (fun h => ?_) ?_ <;> (try (exfalso; omega))) | (with_reducible refine tr_ob ?_ ?_) | (with_reducible refine tr_done ?_) | (refine aw_tr hj tok (bookG x_stS x_stE x_stD x_xfC) (by cbv) ?_) | (refine aw_seq fun K hK => ?_) | (refine aw_tr1 hj tok (bookG x_stS x_stE x_stD x_xfC) (by cbv) ?_) | (refine aw_skip ?_) | (refine aw_block ?_) | (refine aw_exit ?_) | (refine aw_ret ⟨.inr rfl, ret_okj hj (by cbv) ?_ ?_⟩) | (refine aw_ret ?_) | (with_reducible refine th_n ?_) | (with_reducible refine th_r ?_) | (with_reducible refine th_x ?_) | (with_reducible refine blk_n ?_) | (with_reducible refine blk_r ?_) | (with_reducible refine blk_x ?_) | (with_reducible refine blk_y rfl ?_) | (refine ⟨.inr rfl, ret_okj hj (by cbv) ?_ ?_⟩) | (refine ⟨.inl rfl, ret_okj hj (by cbv) ?_ ?_⟩) | (with_reducible apply_assumption -symm -exfalso only [*]))
  all_goals ((try subst y_stS); (try subst y_stE); (try subst y_stD); (try subst y_xfC))
  all_goals (try (repeat' first | with_reducible exact obl0 | with_reducible refine obl1 ?_ ?_))
  all_goals (try first | with_reducible exact True.intro | (refine ob_pc hj ?_; (try rw [hj]); first | exact c_New | exact cA | exact c1 | exact c2 | exact c3 | exact c_Down _ _ _ _ | exact c_Steps _ _ _ _) | (refine ob_pcn hj ?_; (try rw [hj]); first | exact c_New | exact cA | exact c1 | exact c2 | exact c3 | exact c_Down _ _ _ _ | exact c_Steps _ _ _ _) | ((first | refine ob_le hj ?_ | refine ob_lei hj ?_ | refine ob_inb hj ?_ | refine ob_pos hj ?_ | refine ob_ne0 hj ?_ | refine ob_eqb hj ?_); (first | rfl | first | omega | (simp only [hj, std]; split <;> omega) | (simp (disch := omega) only [hj, std, cmpI, cmpB, satB, add64, sub64, ite0, pl0, pl2, pl3, sb0, if_true, if_false, eq_self, z1, z2, z3, z4, z5] <;> omega) | (simp (disch := omega) [hj, std, cmpI, cmpB, satB, add64, sub64, ite0, pl0, pl2, pl3, sb0, if_true, if_false, eq_self, z1, z2, z3, z4, z5] <;> omega))) | ((refine ob_vals hj ?_; exact fC_vals xfL)) | ((rw [hj, z5]; exact rfl)) | ((have q := ‹¬ stE 0 false xfC = 0›; exact absurd z1 q)))
theorem c_awake10 : pc 9 [] (ret1 (.st (vB true))) := ⟨enters Try.func9 (by kernel_rfl) (by kernel_rfl), pc_awake10⟩
end Go.Proofs.Ytnmlcfjljeccnaa.A
/- The law of the meter: acts as cells; the plain law. -/
set_option linter.unusedSimpArgs false
set_option linter.unusedVariables false
set_option maxRecDepth 100000
set_option maxHeartbeats 4000000
namespace Go.Proofs.Ytnmlcfjljeccnaa.A
open Go
abbrev Ac := Int × List Fl
def acC (l : List Ac) : List C := l.flatMap fun a => [vI a.1, .sl (nF a.2) (fC a.2)]
def nAc (l : List Ac) : Nat := l.foldr (fun _ n => n + 1) 0
theorem nAc_eq (l : List Ac) : nAc l = l.length := by unfold nAc; induction l with | nil => rfl | cons x l ih => rw [List.foldr_cons, ih]; rfl
abbrev acAt (l : List Ac) (k : Nat) : Ac := l.getD k (0, [])
theorem acC_cons (a : Ac) (l : List Ac) : acC (a :: l) = vI a.1 :: .sl (nF a.2) (fC a.2) :: acC l := rfl
theorem acC_len (l : List Ac) : (acC l).length = nAc l * 2 := by
  rw [nAc_eq]
  induction l with
  | nil => rfl
  | cons r l ih => rw [acC_cons, List.length_cons, List.length_cons, ih, List.length_cons]; omega
theorem acC_at : ∀ (l : List Ac) (k : Nat), k < l.length → cellAt (acC l) (k * 2) = vI (acAt l k).1 ∧ cellAt (acC l) (k * 2 + 1) = .sl (nF (acAt l k).2) (fC (acAt l k).2) := by
  intro l
  induction l with
  | nil => intro k h; exact absurd h (by simp)
  | cons r l ih =>
    intro k h
    cases k with
    | zero => exact ⟨rfl, rfl⟩
    | succ k =>
      have := ih k (by simpa using h)
      rw [show (k + 1) * 2 = k * 2 + 1 + 1 by omega, acC_cons]
      exact this
def wantG (t : Int) : List Fl → Int
  | [] => 0
  | f :: l => if f.1 = t then (if f.2 = 1 then 11 else f.2 + 7) else wantG t l
theorem wantG_drop (t : Int) {A : List Fl} {k : Nat} (h : k < A.length) : wantG t (A.drop k) = if (fAt A k).1 = t then (if (fAt A k).2 = 1 then 11 else (fAt A k).2 + 7) else wantG t (A.drop (k + 1)) := by
  rw [drop_cons (0, 0) h]; rfl
theorem wantG_end (t : Int) {A : List Fl} {k : Nat} (h : ¬ k < A.length) : wantG t (A.drop k) = 0 := by rw [drop_end h]; rfl
theorem want_first (t : Int) : ∀ A : List Fl, (∀ f ∈ A, 1 ≤ f.2 ∧ f.2 ≤ 3) → wantG t A = (if firstF t A = 0 then 0 else if firstF t A = 2 then 9 else if firstF t A = 3 then 10 else 11) := by
  intro A
  induction A with
  | nil => intro _; rfl
  | cons f l ih =>
    intro h
    have hf := h f (List.mem_cons_self ..)
    have h2 := ih fun g hg => h g (List.mem_cons_of_mem _ hg)
    unfold wantG firstF
    split
    · have : f.2 = 1 ∨ f.2 = 2 ∨ f.2 = 3 := by omega
      rcases this with e | e | e <;> rw [e] <;> rfl
    · exact h2
theorem stE_want {s : Int} {A : List Fl} (h : ∀ f ∈ A, 1 ≤ f.2 ∧ f.2 ≤ 3) : stE s false (fC A) = wantG (s + 1) A ∧ stD s false (fC A) = decide (wantG (s + 1) A = 11) := by
  obtain ⟨t1, _, t3⟩ := st_of (s := s) (L := A) rfl
  rw [t1, t3, want_first _ A h]; exact ⟨rfl, rfl⟩
theorem gotF_app (s : Int) (l r : List Fl) : gotF s (l ++ r) = gotF s l ++ gotF s r := by unfold gotF; rw [List.filter_append, List.map_append]
theorem gotF_at {s : Int} {A : List Fl} {k : Nat} (h : k < A.length) (hs : s < (fAt A k).1) :
    (gotF s (A.take k)).length < (gotF s A).length ∧ fAt (gotF s A) (gotF s (A.take k)).length = ((fAt A k).1 - s, (fAt A k).2) ∧ (gotF s (A.take (k + 1))).length = (gotF s (A.take k)).length + 1 := by
  have e : gotF s A = gotF s (A.take k) ++ ((fAt A k).1 - s, (fAt A k).2) :: gotF s (A.drop (k + 1)) := by
    conv => lhs; rw [← List.take_append_drop k A, gotF_app, drop_cons (0, 0) h]
    congr 1
    unfold gotF
    rw [List.filter_cons_of_pos (by simpa using hs)]; rfl
  refine ⟨by rw [e]; simp, ?_, ?_⟩
  · rw [e, fAt, List.getD_eq_getElem?_getD, List.getElem?_append_right (Nat.le_refl _)]; simp
  · rw [take_snoc (0, 0) h, gotF_snoc, if_pos hs]; simp
theorem gotF_no {s : Int} {A : List Fl} {k : Nat} (h : k < A.length) (hs : ¬ s < (fAt A k).1) : (gotF s (A.take (k + 1))).length = (gotF s (A.take k)).length := by
  rw [take_snoc (0, 0) h, gotF_snoc, if_neg hs]
structure FpI (i s : Int) (A : List Fl) : Prop where
  s0 : 0 ≤ s ∧ s ≤ i
  n : (A.length : Int) ≤ 20 * i
  k : ∀ f ∈ A, 1 ≤ f.2 ∧ f.2 ≤ 3
  a : ∀ f ∈ A, 0 ≤ f.1 ∧ f.1 ≤ 1099512627776
theorem FpI.arm {i s : Int} {A L : List Fl} (h : FpI i s A) (hi : i ≤ 40) (hL : L.length ≤ 20) : FpI (i + 1) s (A ++ armF s L) := by
  have hs := h.s0
  refine ⟨by omega, ?_, fun f hf => ?_, fun f hf => ?_⟩
  · have := h.n; have := armF_le s L; rw [List.length_append]; omega
  · rcases List.mem_append.1 hf with hf | hf
    · exact h.k f hf
    · unfold armF at hf
      obtain ⟨g, hg, rfl⟩ := List.mem_map.1 hf
      have := (List.mem_filter.1 hg).2
      unfold mayF at this
      have := of_decide_eq_true this
      exact ⟨this.1, this.2.1⟩
  · rcases List.mem_append.1 hf with hf | hf
    · exact h.a f hf
    · unfold armF at hf
      obtain ⟨g, hg, rfl⟩ := List.mem_map.1 hf
      have := (List.mem_filter.1 hg).2
      unfold mayF at this
      have := of_decide_eq_true this
      exact ⟨by show 0 ≤ s + g.1; omega, by show s + g.1 ≤ _; omega⟩
theorem FpI.step {i s s' : Int} {A : List Fl} (h : FpI i s A) (hs : s' = s ∨ s' = s + 1) : FpI (i + 1) s' A := ⟨by have := h.s0; omega, by have := h.n; omega, h.k, h.a⟩
theorem FpI.rise {i s : Int} {A : List Fl} (h : FpI i s A) : FpI (i + 1) s [] := ⟨by have := h.s0; omega, by have := h.s0; simp; omega, by simp, by simp⟩
end Go.Proofs.Ytnmlcfjljeccnaa.A
/- The law of the meter: the walk. -/
set_option linter.unusedSimpArgs false
set_option linter.unusedVariables false
set_option maxRecDepth 100000
set_option maxHeartbeats 4000000
namespace Go.Proofs.Ytnmlcfjljeccnaa.A
open Go
theorem pc_FaultPlaysL (l : List Ac) (hn : l.length ≤ 140737488351232) (hf : ∀ a ∈ l, a.2.length ≤ 140737488351232) : PC Try.prog T 3 [.v false [.sl (nAc l) (acC l)]] (ret1 (.st (vB true))) [] := by
  have hl := acC_len l
  have hnn := nAc_eq l
  have a1 := fun k h => acC_at l k h
  have a2 := fun k (h : k < l.length) => hf (acAt l k) (getD_mem (0, []) h)
  clear hf
  generalize nAc l = m at *
  generalize acC l = ac at *
  refine pc_of tok Try.func3 rfl (by rfl) ?_
  obtain ⟨j, hj⟩ : ∃ j : J, j = std Try.prog T := ⟨_, rfl⟩
  have hm : Try.prog.follows .mixedOrders = true := by kernel_rfl
  generalize y_stS : @stS = x_stS at *
  generalize y_stE : @stE = x_stE at *
  generalize y_stD : @stD = x_stD at *
  generalize y_mayV : @mayV = x_mayV at *
  generalize y_amU : @amU = x_amU at *
  generalize y_amC : @amC = x_amC at *
  generalize y_amN : @amN = x_amN at *
  generalize y_gtN : @gtN = x_gtN at *
  generalize y_gtC : @gtC = x_gtC at *
  generalize y_fC : @fC = x_fC at *
  generalize y_nF : @nF = x_nF at *
  generalize y_acC : @acC = x_acC at *
  generalize y_nAc : @nAc = x_nAc at *
  (repeat' first | ((first | with_reducible refine tr_cut (fun h => ?_) (fun h => ?_) | refine aw_condj (by cbv) (fun h => ?_) (fun h => ?_)) <;> (try simp (disch := omega) only [hj, std, cmpI, cmpB, satB, Bool.not_eq_true, Bool.not_eq_false, decide_eq_true_eq, decide_eq_false_iff_not, beq_iff_eq, bne_iff_ne, bne_eq_false_iff_eq, beq_eq_false_iff_ne, ne_eq, reduceCtorEq, not_true_eq_false, not_false_eq_true, pl0, if_true, cmpS_eq, cmpS_neq, Bool.not_eq_eq_eq_not, Bool.not_true, Bool.not_false, Bool.not_eq_true', add64, sub64] at h) <;> (try (exfalso; omega))) | (with_reducible refine tr_alt (fun h => ?_) ?_ <;> (try (exfalso; omega))) | (with_reducible refine tr_ob ?_ ?_) | (with_reducible refine tr_done ?_) | (refine aw_tr hj tok (bookF x_stS x_stE x_stD x_mayV x_amU x_amC x_amN x_gtN x_gtC) (by cbv) ?_) | (refine aw_seq fun K hK => ?_) | (refine aw_tr1 hj tok (bookF x_stS x_stE x_stD x_mayV x_amU x_amC x_amN x_gtN x_gtC) (by cbv) ?_) | (refine aw_skip ?_) | (refine aw_block ?_) | (refine aw_exit ?_) | (refine aw_ret ⟨.inr rfl, ret_okj hj (by cbv) ?_ ?_⟩) | (refine aw_ret ?_) | (with_reducible refine th_n ?_) | (with_reducible refine th_r ?_) | (with_reducible refine th_x ?_) | (with_reducible refine blk_n ?_) | (with_reducible refine blk_r ?_) | (with_reducible refine blk_x ?_) | (with_reducible refine blk_y rfl ?_) | (refine ⟨.inr rfl, ret_okj hj (by cbv) ?_ ?_⟩) | (refine ⟨.inl rfl, ret_okj hj (by cbv) ?_ ?_⟩) | ((with_reducible refine ⟨(_, _, _, _, _, _, _, _, _), by cbv, ?_, ?_⟩)) | ((with_reducible refine ⟨(_, _, _, _, _, _, _, _), by cbv, ?_, ?_⟩)) | ((with_reducible refine ⟨(_, _, _, _), by cbv, ?_, ?_⟩)) | ((with_reducible refine ⟨(_, _, _), by cbv, ?_, ?_⟩)) | ((with_reducible refine ⟨(_, _), by cbv, ?_, ?_⟩)) | ((with_reducible refine ⟨_, by cbv, ?_, ?_⟩)) | (with_reducible apply_assumption -symm -exfalso only [*]))
  all_goals ((try subst y_stS); (try subst y_stE); (try subst y_stD); (try subst y_mayV); (try subst y_amU); (try subst y_amC); (try subst y_amN); (try subst y_gtN); (try subst y_gtC); (try subst y_fC); (try subst y_nF); (try subst y_acC); (try subst y_nAc))
  all_goals (try (repeat' first | with_reducible exact obl0 | with_reducible refine obl1 ?_ ?_))
  all_goals (try first | with_reducible exact True.intro | (refine ob_pc hj ?_; (try rw [hj]); first | exact c_awake10 | exact c_New) | (refine ob_pcn hj ?_; (try rw [hj]); first | exact c_awake10 | exact c_New) | ((first | refine ob_le hj ?_ | refine ob_lei hj ?_ | refine ob_inb hj ?_ | refine ob_pos hj ?_ | refine ob_ne0 hj ?_ | refine ob_eqb hj ?_); (first | rfl | first | omega | (simp only [hj, std]; split <;> omega) | (simp (disch := omega) only [hj, std, cmpI, cmpB, satB, add64, sub64, ite0, pl0, pl2, pl3, sb0, if_true, if_false, eq_self] <;> omega) | (simp (disch := omega) [hj, std, cmpI, cmpB, satB, add64, sub64, ite0, pl0, pl2, pl3, sb0, if_true, if_false, eq_self] <;> omega))) | (exact rfl))
  refine aw_lpj hj [(0, .keep), (3, .keep), (4, .keep), (5, .keep), (6, .own fT), (7, .keep)] [20] (fun (⟨i, s, d, N, D, s1, d1, N1, D1⟩ : Int × Int × Bool × Nat × (List C) × Int × Bool × Nat × (List C)) => stOf 199 [(0, .one (.c (.sl m ac))), (3, .one (.ptr 20 0)), (4, .one (.c (vI s))), (5, .one (.c (vB d))), (6, .one (.view 6 0)), (7, .one (.c (vI i)))] [(6, .loose [.own fT N D]), (20, .box [.st (vI s1), .st (vB d1), .own fT N1 D1])]) (fun (⟨i, s, d, N, D, s1, d1, N1, D1⟩ : Int × Int × Bool × Nat × (List C) × Int × Bool × Nat × (List C)) => m - i.toNat) (fun (⟨i, s, d, N, D, s1, d1, N1, D1⟩ : Int × Int × Bool × Nat × (List C) × Int × Bool × Nat × (List C)) => 0 ≤ i ∧ i ≤ m ∧ m ≤ 40 ∧ s = s1 ∧ d = d1 ∧ N = N1 ∧ D = D1 ∧ ∃ A, N = nF A ∧ D = fC A ∧ FpI i s A) ((0, 0, false, 0, [], 0, false, 0, [])) (by generalize @stS = x_stS; generalize @stE = x_stE; generalize @stD = x_stD; generalize @mayV = x_mayV; generalize @amU = x_amU; generalize @amC = x_amC; generalize @amN = x_amN; generalize @gtN = x_gtN; generalize @gtC = x_gtC; generalize @fC = x_fC; generalize @nF = x_nF; generalize @acC = x_acC; generalize @nAc = x_nAc; cbv) ?_ (fun ⟨i, s, d, N, D, s1, d1, N1, D1⟩ hI => ?_)
  · exact ⟨by omega, by omega, by omega, rfl, rfl, rfl, rfl, [], rfl, rfl, ⟨by omega, by simp, by simp, by simp⟩⟩
  obtain ⟨i1, i2, i3, rfl, rfl, rfl, rfl, A, hN, hD, hI⟩ := hI
  have nA := nF_eq A
  have hIs := hI.s0
  have hIn := hI.n
  rcases Decidable.em (i < (m : Int)) with hi | hi
  · obtain ⟨q0, q1⟩ := a1 i.toNat (by omega)
    have hfl := a2 i.toNat (by omega)
    have e0 : gi (cellAt ac (i.toNat * 2)) = (acAt l i.toNat).1 := by rw [q0]; rfl
    have e1 : gn (cellAt ac (i.toNat * 2 + 1)) = nF (acAt l i.toNat).2 := by rw [q1]; rfl
    have e2 : gc (cellAt ac (i.toNat * 2 + 1)) = fC (acAt l i.toNat).2 := by rw [q1]; rfl
    have o0 : okK (.int .i64) (cellAt ac (i.toNat * 2)) := by rw [q0]; exact ⟨_, rfl⟩
    have o1 : okK .sl (cellAt ac (i.toNat * 2 + 1)) := by rw [q1]; exact .inr ⟨_, _, rfl⟩
    have f0 : (i + 1).toNat = i.toNat + 1 := by omega
    generalize acAt l i.toNat = X at *
    obtain ⟨kd, F⟩ := X
    dsimp only at e0 e1 e2 hfl
    have nFe := nF_eq F
    have hFl := fC_len F
    clear q0 q1 a1 a2
    have u0 : ∀ k : Nat, gi (cellAt D (k * 2)) = (fAt A k).1 := fun k => by rw [hD]; exact gi_fC0 A k
    have u1 : ∀ k : Nat, gi (cellAt D (k * 2 + 1)) = (fAt A k).2 := fun k => by rw [hD]; exact gi_fC1 A k
    have w0 : ∀ k : Nat, k < A.length → okK (.int .i64) (cellAt D (k * 2)) := fun k h => by rw [hD]; exact ok_fC0 h
    have w1 : ∀ k : Nat, k < A.length → okK (.int .i64) (cellAt D (k * 2 + 1)) := fun k h => by rw [hD]; exact ok_fC1 h
    have hDl : D.length = N * 2 := by rw [hD, hN]; exact fC_len A
    have cV1 : ∀ c ∈ D, ∃ v, c = .val v := by rw [hD]; exact fC_vals A
    have hIa := hI
    have hIk := hI.k
    rcases Decidable.em (nF F ≤ 20) with hF20 | hF20
    · generalize y_stS : @stS = x_stS at *
      generalize y_stE : @stE = x_stE at *
      generalize y_stD : @stD = x_stD at *
      generalize y_mayV : @mayV = x_mayV at *
      generalize y_amU : @amU = x_amU at *
      generalize y_amC : @amC = x_amC at *
      generalize y_amN : @amN = x_amN at *
      generalize y_gtN : @gtN = x_gtN at *
      generalize y_gtC : @gtC = x_gtC at *
      generalize y_fC : @fC = x_fC at *
      generalize y_nF : @nF = x_nF at *
      generalize y_acC : @acC = x_acC at *
      generalize y_nAc : @nAc = x_nAc at *
      (repeat' first | (with_reducible refine aw_stop (id := 44) ?_) | (with_reducible refine aw_stop1 (id := 44) ?_) | (with_reducible refine aw_stop2 (id := 44) ?_) | ((first | with_reducible refine tr_cut (fun h => ?_) (fun h => ?_) | refine aw_condj (by cbv) (fun h => ?_) (fun h => ?_)) <;> (try simp (disch := omega) only [hj, std, cmpI, cmpB, satB, Bool.not_eq_true, Bool.not_eq_false, decide_eq_true_eq, decide_eq_false_iff_not, beq_iff_eq, bne_iff_ne, bne_eq_false_iff_eq, beq_eq_false_iff_ne, ne_eq, reduceCtorEq, not_true_eq_false, not_false_eq_true, pl0, if_true, cmpS_eq, cmpS_neq, Bool.not_eq_eq_eq_not, Bool.not_true, Bool.not_false, Bool.not_eq_true', ite0, e0, e1, add64, sub64] at h) <;> (try (exfalso; omega))) | (with_reducible refine tr_alt (fun h => ?_) ?_ <;> (try (exfalso; omega))) | (with_reducible refine tr_ob ?_ ?_) | (with_reducible refine tr_done ?_) | (refine aw_tr hj tok (bookF x_stS x_stE x_stD x_mayV x_amU x_amC x_amN x_gtN x_gtC) (by cbv) ?_) | (refine aw_seq fun K hK => ?_) | (refine aw_tr1 hj tok (bookF x_stS x_stE x_stD x_mayV x_amU x_amC x_amN x_gtN x_gtC) (by cbv) ?_) | (refine aw_skip ?_) | (refine aw_block ?_) | (refine aw_exit ?_) | (refine aw_ret ⟨.inr rfl, ret_okj hj (by cbv) ?_ ?_⟩) | (refine aw_ret ?_) | (with_reducible refine th_n ?_) | (with_reducible refine th_r ?_) | (with_reducible refine th_x ?_) | (with_reducible refine blk_n ?_) | (with_reducible refine blk_r ?_) | (with_reducible refine blk_x ?_) | (with_reducible refine blk_y rfl ?_) | (refine ⟨.inr rfl, ret_okj hj (by cbv) ?_ ?_⟩) | (refine ⟨.inl rfl, ret_okj hj (by cbv) ?_ ?_⟩) | ((with_reducible refine ⟨(_, _, _, _, _, _, _, _, _), by cbv, ?_, ?_⟩)) | ((with_reducible refine ⟨(_, _, _, _, _, _, _, _), by cbv, ?_, ?_⟩)) | ((with_reducible refine ⟨(_, _, _, _), by cbv, ?_, ?_⟩)) | ((with_reducible refine ⟨(_, _, _), by cbv, ?_, ?_⟩)) | ((with_reducible refine ⟨(_, _), by cbv, ?_, ?_⟩)) | ((with_reducible refine ⟨_, by cbv, ?_, ?_⟩)) | (with_reducible apply_assumption -symm -exfalso only [*]))
      all_goals ((try subst y_stS); (try subst y_stE); (try subst y_stD); (try subst y_mayV); (try subst y_amU); (try subst y_amC); (try subst y_amN); (try subst y_gtN); (try subst y_gtC); (try subst y_fC); (try subst y_nF); (try subst y_acC); (try subst y_nAc))
      all_goals (try (repeat' first | with_reducible exact obl0 | with_reducible refine obl1 ?_ ?_))
      all_goals (try first | with_reducible exact True.intro | ((first | refine ob_le hj ?_ | refine ob_lei hj ?_ | refine ob_inb hj ?_ | refine ob_pos hj ?_ | refine ob_ne0 hj ?_ | refine ob_eqb hj ?_); (first | rfl | first | omega | (simp only [hj, std]; split <;> omega) | (simp (disch := omega) only [hj, std, cmpI, cmpB, satB, add64, sub64, ite0, pl0, pl2, pl3, sb0, if_true, if_false, eq_self, hl, e1] <;> omega) | (simp (disch := omega) [hj, std, cmpI, cmpB, satB, add64, sub64, ite0, pl0, pl2, pl3, sb0, if_true, if_false, eq_self, hl, e1] <;> omega))) | ((refine ob_ok hj ?_; simp only [hj, std, ite0]; first | exact o0 | exact o1)))
      refine stop_go ?_; refine aw_joinj hj [(0, .keep), (3, .keep), (4, .keep), (5, .keep), (6, .own fT), (7, .keep)] [20] (fun (⟨s, d, N, D, s1, d1, N1, D1⟩ : Int × Bool × Nat × (List C) × Int × Bool × Nat × (List C)) => stOf 199 [(0, .one (.c (.sl m ac))), (3, .one (.ptr 20 0)), (4, .one (.c (vI s))), (5, .one (.c (vB d))), (6, .one (.view 6 0)), (7, .one (.c (vI i)))] [(6, .loose [.own fT N D]), (20, .box [.st (vI s1), .st (vB d1), .own fT N1 D1])]) (fun (⟨s, d, N, D, s1, d1, N1, D1⟩ : Int × Bool × Nat × (List C) × Int × Bool × Nat × (List C)) => s = s1 ∧ d = d1 ∧ N = N1 ∧ D = D1 ∧ ∃ A, N = nF A ∧ D = fC A ∧ FpI (i + 1) s A) ?_ (fun ⟨s, d, N, D, s1, d1, N1, D1⟩ hI => ?_)
      · rcases Decidable.em (kd = 0) with hk0 | hk0
        · cases d with
          | true =>
            have z1 : stE s true D = 11 := rfl
            have cS : (std Try.prog T).pc 11 [.root (mBox s true N D)] (ret1 (.st (vI (stE s true D)))) [mBox (stS s true) (stD s true D) N D] := c_Step A hN hD (by omega) (by omega) hI.k
            generalize y_stS : @stS = x_stS at *
            generalize y_stE : @stE = x_stE at *
            generalize y_stD : @stD = x_stD at *
            generalize y_mayV : @mayV = x_mayV at *
            generalize y_amU : @amU = x_amU at *
            generalize y_amC : @amC = x_amC at *
            generalize y_amN : @amN = x_amN at *
            generalize y_gtN : @gtN = x_gtN at *
            generalize y_gtC : @gtC = x_gtC at *
            generalize y_fC : @fC = x_fC at *
            generalize y_nF : @nF = x_nF at *
            generalize y_acC : @acC = x_acC at *
            generalize y_nAc : @nAc = x_nAc at *
            (repeat' first | ((first | with_reducible refine tr_cut (fun h => ?_) (fun h => ?_) | refine aw_condj (by cbv) (fun h => ?_) (fun h => ?_)) <;> (try simp (disch := omega) only [hj, std, cmpI, cmpB, satB, Bool.not_eq_true, Bool.not_eq_false, decide_eq_true_eq, decide_eq_false_iff_not, beq_iff_eq, bne_iff_ne, bne_eq_false_iff_eq, beq_eq_false_iff_ne, ne_eq, reduceCtorEq, not_true_eq_false, not_false_eq_true, pl0, if_true, cmpS_eq, cmpS_neq, Bool.not_eq_eq_eq_not, Bool.not_true, Bool.not_false, Bool.not_eq_true', ite0, e0, e1, z1, add64, sub64] at h) <;> (try (exfalso; omega))) | (with_reducible refine tr_alt (fun h => ?_) ?_ <;> (try (exfalso; omega))) | (with_reducible refine tr_ob ?_ ?_) | (with_reducible refine tr_done ?_) | (refine aw_tr hj tok (bookF x_stS x_stE x_stD x_mayV x_amU x_amC x_amN x_gtN x_gtC) (by cbv) ?_) | (refine aw_seq fun K hK => ?_) | (refine aw_tr1 hj tok (bookF x_stS x_stE x_stD x_mayV x_amU x_amC x_amN x_gtN x_gtC) (by cbv) ?_) | (refine aw_skip ?_) | (refine aw_block ?_) | (refine aw_exit ?_) | (refine aw_ret ⟨.inr rfl, ret_okj hj (by cbv) ?_ ?_⟩) | (refine aw_ret ?_) | (with_reducible refine th_n ?_) | (with_reducible refine th_r ?_) | (with_reducible refine th_x ?_) | (with_reducible refine blk_n ?_) | (with_reducible refine blk_r ?_) | (with_reducible refine blk_x ?_) | (with_reducible refine blk_y rfl ?_) | (refine ⟨.inr rfl, ret_okj hj (by cbv) ?_ ?_⟩) | (refine ⟨.inl rfl, ret_okj hj (by cbv) ?_ ?_⟩) | ((with_reducible refine ⟨(_, _, _, _, _, _, _, _, _), by cbv, ?_, ?_⟩)) | ((with_reducible refine ⟨(_, _, _, _, _, _, _, _), by cbv, ?_, ?_⟩)) | ((with_reducible refine ⟨(_, _, _, _), by cbv, ?_, ?_⟩)) | ((with_reducible refine ⟨(_, _, _), by cbv, ?_, ?_⟩)) | ((with_reducible refine ⟨(_, _), by cbv, ?_, ?_⟩)) | ((with_reducible refine ⟨_, by cbv, ?_, ?_⟩)) | (with_reducible apply_assumption -symm -exfalso only [*]))
            all_goals ((try subst y_stS); (try subst y_stE); (try subst y_stD); (try subst y_mayV); (try subst y_amU); (try subst y_amC); (try subst y_amN); (try subst y_gtN); (try subst y_gtC); (try subst y_fC); (try subst y_nF); (try subst y_acC); (try subst y_nAc))
            all_goals (try (repeat' first | with_reducible exact obl0 | with_reducible refine obl1 ?_ ?_))
            all_goals (try first | with_reducible exact True.intro | (refine ob_pc hj ?_; (try rw [hj]); first | exact cS) | (refine ob_pcn hj ?_; (try rw [hj]); first | exact cS) | ((first | refine ob_le hj ?_ | refine ob_lei hj ?_ | refine ob_inb hj ?_ | refine ob_pos hj ?_ | refine ob_ne0 hj ?_ | refine ob_eqb hj ?_); (first | rfl | first | omega | (simp only [hj, std]; split <;> omega) | (simp (disch := omega) only [hj, std, cmpI, cmpB, satB, add64, sub64, ite0, pl0, pl2, pl3, sb0, if_true, if_false, eq_self, hl, e1, z1] <;> omega) | (simp (disch := omega) [hj, std, cmpI, cmpB, satB, add64, sub64, ite0, pl0, pl2, pl3, sb0, if_true, if_false, eq_self, hl, e1, z1] <;> omega))) | ((refine ob_ok hj ?_; simp only [hj, std, ite0]; first | exact o0 | exact o1)) | ((refine ob_vals hj ?_; exact cV1)) | (exact ⟨rfl, rfl, rfl, rfl, A, hN, hD, hI.step (.inl rfl)⟩))
          | false =>
            have z0 := stE_want (s := s) hI.k
            rw [← hD] at z0
            have cS : (std Try.prog T).pc 11 [.root (mBox s false N D)] (ret1 (.st (vI (stE s false D)))) [mBox (stS s false) (stD s false D) N D] := c_Step A hN hD (by omega) (by omega) hI.k
            generalize y_stS : @stS = x_stS at *
            generalize y_stE : @stE = x_stE at *
            generalize y_stD : @stD = x_stD at *
            generalize y_mayV : @mayV = x_mayV at *
            generalize y_amU : @amU = x_amU at *
            generalize y_amC : @amC = x_amC at *
            generalize y_amN : @amN = x_amN at *
            generalize y_gtN : @gtN = x_gtN at *
            generalize y_gtC : @gtC = x_gtC at *
            generalize y_fC : @fC = x_fC at *
            generalize y_nF : @nF = x_nF at *
            generalize y_acC : @acC = x_acC at *
            generalize y_nAc : @nAc = x_nAc at *
            (repeat' first | ((first | with_reducible refine tr_cut (fun h => ?_) (fun h => ?_) | refine aw_condj (by cbv) (fun h => ?_) (fun h => ?_)) <;> (try simp (disch := omega) only [hj, std, cmpI, cmpB, satB, Bool.not_eq_true, Bool.not_eq_false, decide_eq_true_eq, decide_eq_false_iff_not, beq_iff_eq, bne_iff_ne, bne_eq_false_iff_eq, beq_eq_false_iff_ne, ne_eq, reduceCtorEq, not_true_eq_false, not_false_eq_true, pl0, if_true, cmpS_eq, cmpS_neq, Bool.not_eq_eq_eq_not, Bool.not_true, Bool.not_false, Bool.not_eq_true', ite0, e0, e1, add64, sub64] at h) <;> (try (exfalso; omega))) | (with_reducible refine tr_alt (fun h => ?_) ?_ <;> (try (exfalso; omega))) | (with_reducible refine tr_ob ?_ ?_) | (with_reducible refine tr_done ?_) | (refine aw_tr hj tok (bookF x_stS x_stE x_stD x_mayV x_amU x_amC x_amN x_gtN x_gtC) (by cbv) ?_) | (refine aw_seq fun K hK => ?_) | (refine aw_tr1 hj tok (bookF x_stS x_stE x_stD x_mayV x_amU x_amC x_amN x_gtN x_gtC) (by cbv) ?_) | (refine aw_skip ?_) | (refine aw_block ?_) | (refine aw_exit ?_) | (refine aw_ret ⟨.inr rfl, ret_okj hj (by cbv) ?_ ?_⟩) | (refine aw_ret ?_) | (with_reducible refine th_n ?_) | (with_reducible refine th_r ?_) | (with_reducible refine th_x ?_) | (with_reducible refine blk_n ?_) | (with_reducible refine blk_r ?_) | (with_reducible refine blk_x ?_) | (with_reducible refine blk_y rfl ?_) | (refine ⟨.inr rfl, ret_okj hj (by cbv) ?_ ?_⟩) | (refine ⟨.inl rfl, ret_okj hj (by cbv) ?_ ?_⟩) | ((with_reducible refine ⟨(_, _, _, _, _, _, _, _, _), by cbv, ?_, ?_⟩)) | ((with_reducible refine ⟨(_, _, _, _, _, _, _, _), by cbv, ?_, ?_⟩)) | ((with_reducible refine ⟨(_, _, _, _), by cbv, ?_, ?_⟩)) | ((with_reducible refine ⟨(_, _, _), by cbv, ?_, ?_⟩)) | ((with_reducible refine ⟨(_, _), by cbv, ?_, ?_⟩)) | ((with_reducible refine ⟨_, by cbv, ?_, ?_⟩)) | (with_reducible apply_assumption -symm -exfalso only [*]))
            all_goals ((try subst y_stS); (try subst y_stE); (try subst y_stD); (try subst y_mayV); (try subst y_amU); (try subst y_amC); (try subst y_amN); (try subst y_gtN); (try subst y_gtC); (try subst y_fC); (try subst y_nF); (try subst y_acC); (try subst y_nAc))
            all_goals (try (repeat' first | with_reducible exact obl0 | with_reducible refine obl1 ?_ ?_))
            all_goals (try first | with_reducible exact True.intro | ((first | refine ob_le hj ?_ | refine ob_lei hj ?_ | refine ob_inb hj ?_ | refine ob_pos hj ?_ | refine ob_ne0 hj ?_ | refine ob_eqb hj ?_); (first | rfl | first | omega | (simp only [hj, std]; split <;> omega) | (simp (disch := omega) only [hj, std, cmpI, cmpB, satB, add64, sub64, ite0, pl0, pl2, pl3, sb0, if_true, if_false, eq_self, hl, e1] <;> omega) | (simp (disch := omega) [hj, std, cmpI, cmpB, satB, add64, sub64, ite0, pl0, pl2, pl3, sb0, if_true, if_false, eq_self, hl, e1] <;> omega))) | ((refine ob_ok hj ?_; simp only [hj, std, ite0]; first | exact o0 | exact o1)) | ((refine ob_vals hj ?_; exact cV1)))
            refine aw_lpj hj [(0, .keep), (3, .keep), (4, .keep), (5, .keep), (6, .own fT), (7, .keep), (8, .keep), (9, .keep)] [20] (fun (⟨s2, w, k⟩ : Int × Int × Int) => stOf 199 [(0, .one (.c (.sl m ac))), (3, .one (.ptr 20 0)), (4, .one (.c (vI s2))), (5, .one (.c (vB false))), (6, .one (.view 6 0)), (7, .one (.c (vI i))), (8, .one (.c (vI w))), (9, .one (.c (vI k)))] [(6, .loose [.own fT N D]), (20, .box [.st (vI s), .st (vB false), .own fT N D])]) (fun (⟨s2, w, k⟩ : Int × Int × Int) => (k + 1).toNat) (fun (⟨s2, w, k⟩ : Int × Int × Int) => s2 = s + 1 ∧ -1 ≤ k ∧ k < N ∧ w = wantG (s + 1) (A.drop (k + 1).toNat)) ((_, _, _)) (by generalize @stS = x_stS; generalize @stE = x_stE; generalize @stD = x_stD; generalize @mayV = x_mayV; generalize @amU = x_amU; generalize @amC = x_amC; generalize @amN = x_amN; generalize @gtN = x_gtN; generalize @gtC = x_gtC; generalize @fC = x_fC; generalize @nF = x_nF; generalize @acC = x_acC; generalize @nAc = x_nAc; cbv) ?_ (fun ⟨s2, w, k⟩ hI => ?_)
            · simp (disch := omega) only [hj, std, add64, sub64]
              exact ⟨by trivial, by omega, by omega, (wantG_end _ (by omega)).symm⟩
            obtain ⟨hs2, k1, k2, hw⟩ := hI
            rcases Decidable.em (0 ≤ k) with hk | hk
            · have v0 := u0 k.toNat
              have v1 := u1 k.toNat
              have x0 := w0 k.toNat (by omega)
              have x1 := w1 k.toNat (by omega)
              have hd := wantG_drop (s + 1) (A := A) (k := k.toNat) (by omega)
              have f1 : (k - 1 + 1).toNat = k.toNat := by omega
              have f2 : (k + 1).toNat = k.toNat + 1 := by omega
              have hrk := hIk (fAt A k.toNat) (getD_mem (0, 0) (by omega))
              rw [f2] at hw
              generalize fAt A k.toNat = Y at *
              obtain ⟨ya, yk⟩ := Y
              dsimp only at v0 v1 hd hrk
              clear u0 u1 w0 w1 z0
              generalize y_stS : @stS = x_stS at *
              generalize y_stE : @stE = x_stE at *
              generalize y_stD : @stD = x_stD at *
              generalize y_mayV : @mayV = x_mayV at *
              generalize y_amU : @amU = x_amU at *
              generalize y_amC : @amC = x_amC at *
              generalize y_amN : @amN = x_amN at *
              generalize y_gtN : @gtN = x_gtN at *
              generalize y_gtC : @gtC = x_gtC at *
              generalize y_fC : @fC = x_fC at *
              generalize y_nF : @nF = x_nF at *
              generalize y_acC : @acC = x_acC at *
              generalize y_nAc : @nAc = x_nAc at *
              (repeat' first | ((first | with_reducible refine tr_cut (fun h => ?_) (fun h => ?_) | refine aw_condj (by cbv) (fun h => ?_) (fun h => ?_)) <;> (try simp (disch := omega) only [hj, std, cmpI, cmpB, satB, Bool.not_eq_true, Bool.not_eq_false, decide_eq_true_eq, decide_eq_false_iff_not, beq_iff_eq, bne_iff_ne, bne_eq_false_iff_eq, beq_eq_false_iff_ne, ne_eq, reduceCtorEq, not_true_eq_false, not_false_eq_true, pl0, if_true, cmpS_eq, cmpS_neq, Bool.not_eq_eq_eq_not, Bool.not_true, Bool.not_false, Bool.not_eq_true', ite0, v0, v1, add64, sub64] at h) <;> (try (exfalso; omega))) | (with_reducible refine tr_alt (fun h => ?_) ?_ <;> (try (exfalso; omega))) | (with_reducible refine tr_ob ?_ ?_) | (with_reducible refine tr_done ?_) | (refine aw_tr hj tok (bookF x_stS x_stE x_stD x_mayV x_amU x_amC x_amN x_gtN x_gtC) (by cbv) ?_) | (refine aw_seq fun K hK => ?_) | (refine aw_tr1 hj tok (bookF x_stS x_stE x_stD x_mayV x_amU x_amC x_amN x_gtN x_gtC) (by cbv) ?_) | (refine aw_skip ?_) | (refine aw_block ?_) | (refine aw_exit ?_) | (refine aw_ret ⟨.inr rfl, ret_okj hj (by cbv) ?_ ?_⟩) | (refine aw_ret ?_) | (with_reducible refine th_n ?_) | (with_reducible refine th_r ?_) | (with_reducible refine th_x ?_) | (with_reducible refine blk_n ?_) | (with_reducible refine blk_r ?_) | (with_reducible refine blk_x ?_) | (with_reducible refine blk_y rfl ?_) | (refine ⟨.inr rfl, ret_okj hj (by cbv) ?_ ?_⟩) | (refine ⟨.inl rfl, ret_okj hj (by cbv) ?_ ?_⟩) | ((with_reducible refine ⟨(_, _, _, _, _, _, _, _, _), by cbv, ?_, ?_⟩)) | ((with_reducible refine ⟨(_, _, _, _, _, _, _, _), by cbv, ?_, ?_⟩)) | ((with_reducible refine ⟨(_, _, _, _), by cbv, ?_, ?_⟩)) | ((with_reducible refine ⟨(_, _, _), by cbv, ?_, ?_⟩)) | ((with_reducible refine ⟨(_, _), by cbv, ?_, ?_⟩)) | ((with_reducible refine ⟨_, by cbv, ?_, ?_⟩)) | (with_reducible apply_assumption -symm -exfalso only [*]))
              all_goals ((try subst y_stS); (try subst y_stE); (try subst y_stD); (try subst y_mayV); (try subst y_amU); (try subst y_amC); (try subst y_amN); (try subst y_gtN); (try subst y_gtC); (try subst y_fC); (try subst y_nF); (try subst y_acC); (try subst y_nAc))
              all_goals (try (repeat' first | with_reducible exact obl0 | with_reducible refine obl1 ?_ ?_))
              all_goals (try first | with_reducible exact True.intro | ((first | refine ob_le hj ?_ | refine ob_lei hj ?_ | refine ob_inb hj ?_ | refine ob_pos hj ?_ | refine ob_ne0 hj ?_ | refine ob_eqb hj ?_); (first | rfl | first | omega | (simp only [hj, std]; split <;> omega) | (simp (disch := omega) only [hj, std, cmpI, cmpB, satB, add64, sub64, ite0, pl0, pl2, pl3, sb0, if_true, if_false, eq_self, hDl, v0, v1] <;> omega) | (simp (disch := omega) [hj, std, cmpI, cmpB, satB, add64, sub64, ite0, pl0, pl2, pl3, sb0, if_true, if_false, eq_self, hDl, v0, v1] <;> omega))) | ((refine ob_ok hj ?_; simp only [hj, std, ite0]; first | exact x0 | exact x1)) | ((simp (disch := omega) only [hj, std, add64, sub64, v0, v1, ite0]; first | omega | exact ⟨by first | trivial | omega, by omega, by omega, by rw [f1, hd, if_pos (by omega), if_pos (by omega)]⟩ | exact ⟨by first | trivial | omega, by omega, by omega, by rw [f1, hd, if_pos (by omega), if_neg (by omega)]⟩ | exact ⟨by first | trivial | omega, by omega, by omega, by rw [f1, hd, if_neg (by omega)]; exact hw⟩)))
            · have f2 : (k + 1).toNat = 0 := by omega
              rw [f2, List.drop_zero] at hw
              rw [← hw] at z0
              obtain ⟨z1, z2⟩ := z0
              generalize y_stS : @stS = x_stS at *
              generalize y_stE : @stE = x_stE at *
              generalize y_stD : @stD = x_stD at *
              generalize y_mayV : @mayV = x_mayV at *
              generalize y_amU : @amU = x_amU at *
              generalize y_amC : @amC = x_amC at *
              generalize y_amN : @amN = x_amN at *
              generalize y_gtN : @gtN = x_gtN at *
              generalize y_gtC : @gtC = x_gtC at *
              generalize y_fC : @fC = x_fC at *
              generalize y_nF : @nF = x_nF at *
              generalize y_acC : @acC = x_acC at *
              generalize y_nAc : @nAc = x_nAc at *
              (repeat' first | ((first | with_reducible refine tr_cut (fun h => ?_) (fun h => ?_) | refine aw_condj (by cbv) (fun h => ?_) (fun h => ?_)) <;> (try simp (disch := omega) only [hj, std, cmpI, cmpB, satB, Bool.not_eq_true, Bool.not_eq_false, decide_eq_true_eq, decide_eq_false_iff_not, beq_iff_eq, bne_iff_ne, bne_eq_false_iff_eq, beq_eq_false_iff_ne, ne_eq, reduceCtorEq, not_true_eq_false, not_false_eq_true, pl0, if_true, cmpS_eq, cmpS_neq, Bool.not_eq_eq_eq_not, Bool.not_true, Bool.not_false, Bool.not_eq_true', ite0, z1, add64, sub64] at h) <;> (try (exfalso; omega))) | (with_reducible refine tr_alt (fun h => ?_) ?_ <;> (try (exfalso; omega))) | (with_reducible refine tr_ob ?_ ?_) | (with_reducible refine tr_done ?_) | (refine aw_tr hj tok (bookF x_stS x_stE x_stD x_mayV x_amU x_amC x_amN x_gtN x_gtC) (by cbv) ?_) | (refine aw_seq fun K hK => ?_) | (refine aw_tr1 hj tok (bookF x_stS x_stE x_stD x_mayV x_amU x_amC x_amN x_gtN x_gtC) (by cbv) ?_) | (refine aw_skip ?_) | (refine aw_block ?_) | (refine aw_exit ?_) | (refine aw_ret ⟨.inr rfl, ret_okj hj (by cbv) ?_ ?_⟩) | (refine aw_ret ?_) | (with_reducible refine th_n ?_) | (with_reducible refine th_r ?_) | (with_reducible refine th_x ?_) | (with_reducible refine blk_n ?_) | (with_reducible refine blk_r ?_) | (with_reducible refine blk_x ?_) | (with_reducible refine blk_y rfl ?_) | (refine ⟨.inr rfl, ret_okj hj (by cbv) ?_ ?_⟩) | (refine ⟨.inl rfl, ret_okj hj (by cbv) ?_ ?_⟩) | ((with_reducible refine ⟨(_, _, _, _, _, _, _, _, _), by cbv, ?_, ?_⟩)) | ((with_reducible refine ⟨(_, _, _, _, _, _, _, _), by cbv, ?_, ?_⟩)) | ((with_reducible refine ⟨(_, _, _, _), by cbv, ?_, ?_⟩)) | ((with_reducible refine ⟨(_, _, _), by cbv, ?_, ?_⟩)) | ((with_reducible refine ⟨(_, _), by cbv, ?_, ?_⟩)) | ((with_reducible refine ⟨_, by cbv, ?_, ?_⟩)) | (with_reducible apply_assumption -symm -exfalso only [*]))
              all_goals ((try subst y_stS); (try subst y_stE); (try subst y_stD); (try subst y_mayV); (try subst y_amU); (try subst y_amC); (try subst y_amN); (try subst y_gtN); (try subst y_gtC); (try subst y_fC); (try subst y_nF); (try subst y_acC); (try subst y_nAc))
              all_goals (try (repeat' first | with_reducible exact obl0 | with_reducible refine obl1 ?_ ?_))
              all_goals (try first | with_reducible exact True.intro | (refine ob_pc hj ?_; (try rw [hj]); first | exact cS) | (refine ob_pcn hj ?_; (try rw [hj]); first | exact cS) | ((first | refine ob_le hj ?_ | refine ob_lei hj ?_ | refine ob_inb hj ?_ | refine ob_pos hj ?_ | refine ob_ne0 hj ?_ | refine ob_eqb hj ?_); (first | rfl | first | omega | (simp only [hj, std]; split <;> omega) | (simp (disch := omega) only [hj, std, cmpI, cmpB, satB, add64, sub64, ite0, pl0, pl2, pl3, sb0, if_true, if_false, eq_self, hDl, z1] <;> omega) | (simp (disch := omega) [hj, std, cmpI, cmpB, satB, add64, sub64, ite0, pl0, pl2, pl3, sb0, if_true, if_false, eq_self, hDl, z1] <;> omega))) | ((refine ob_vals hj ?_; exact cV1)) | (exact ⟨hs2, by rw [z2, hj]; rfl, rfl, rfl, A, hN, hD, hIa.step (.inr hs2)⟩))
        · rcases Decidable.em (kd = 1) with hk1 | hk1
          · generalize y_stS : @stS = x_stS at *
            generalize y_stE : @stE = x_stE at *
            generalize y_stD : @stD = x_stD at *
            generalize y_mayV : @mayV = x_mayV at *
            generalize y_amU : @amU = x_amU at *
            generalize y_amC : @amC = x_amC at *
            generalize y_amN : @amN = x_amN at *
            generalize y_gtN : @gtN = x_gtN at *
            generalize y_gtC : @gtC = x_gtC at *
            generalize y_fC : @fC = x_fC at *
            generalize y_nF : @nF = x_nF at *
            generalize y_acC : @acC = x_acC at *
            generalize y_nAc : @nAc = x_nAc at *
            (repeat' first | ((first | with_reducible refine tr_cut (fun h => ?_) (fun h => ?_) | refine aw_condj (by cbv) (fun h => ?_) (fun h => ?_)) <;> (try simp (disch := omega) only [hj, std, cmpI, cmpB, satB, Bool.not_eq_true, Bool.not_eq_false, decide_eq_true_eq, decide_eq_false_iff_not, beq_iff_eq, bne_iff_ne, bne_eq_false_iff_eq, beq_eq_false_iff_ne, ne_eq, reduceCtorEq, not_true_eq_false, not_false_eq_true, pl0, if_true, cmpS_eq, cmpS_neq, Bool.not_eq_eq_eq_not, Bool.not_true, Bool.not_false, Bool.not_eq_true', ite0, e0, e1, add64, sub64] at h) <;> (try (exfalso; omega))) | (with_reducible refine tr_alt (fun h => ?_) ?_ <;> (try (exfalso; omega))) | (with_reducible refine tr_ob ?_ ?_) | (with_reducible refine tr_done ?_) | (refine aw_tr hj tok (bookF x_stS x_stE x_stD x_mayV x_amU x_amC x_amN x_gtN x_gtC) (by cbv) ?_) | (refine aw_seq fun K hK => ?_) | (refine aw_tr1 hj tok (bookF x_stS x_stE x_stD x_mayV x_amU x_amC x_amN x_gtN x_gtC) (by cbv) ?_) | (refine aw_skip ?_) | (refine aw_block ?_) | (refine aw_exit ?_) | (refine aw_ret ⟨.inr rfl, ret_okj hj (by cbv) ?_ ?_⟩) | (refine aw_ret ?_) | (with_reducible refine th_n ?_) | (with_reducible refine th_r ?_) | (with_reducible refine th_x ?_) | (with_reducible refine blk_n ?_) | (with_reducible refine blk_r ?_) | (with_reducible refine blk_x ?_) | (with_reducible refine blk_y rfl ?_) | (refine ⟨.inr rfl, ret_okj hj (by cbv) ?_ ?_⟩) | (refine ⟨.inl rfl, ret_okj hj (by cbv) ?_ ?_⟩) | ((with_reducible refine ⟨(_, _, _, _, _, _, _, _, _), by cbv, ?_, ?_⟩)) | ((with_reducible refine ⟨(_, _, _, _, _, _, _, _), by cbv, ?_, ?_⟩)) | ((with_reducible refine ⟨(_, _, _, _), by cbv, ?_, ?_⟩)) | ((with_reducible refine ⟨(_, _, _), by cbv, ?_, ?_⟩)) | ((with_reducible refine ⟨(_, _), by cbv, ?_, ?_⟩)) | ((with_reducible refine ⟨_, by cbv, ?_, ?_⟩)) | (with_reducible apply_assumption -symm -exfalso only [*]))
            all_goals ((try subst y_stS); (try subst y_stE); (try subst y_stD); (try subst y_mayV); (try subst y_amU); (try subst y_amC); (try subst y_amN); (try subst y_gtN); (try subst y_gtC); (try subst y_fC); (try subst y_nF); (try subst y_acC); (try subst y_nAc))
            all_goals (try (repeat' first | with_reducible exact obl0 | with_reducible refine obl1 ?_ ?_))
            all_goals (try first | with_reducible exact True.intro | ((first | refine ob_le hj ?_ | refine ob_lei hj ?_ | refine ob_inb hj ?_ | refine ob_pos hj ?_ | refine ob_ne0 hj ?_ | refine ob_eqb hj ?_); (first | rfl | first | omega | (simp only [hj, std]; split <;> omega) | (simp (disch := omega) only [hj, std, cmpI, cmpB, satB, add64, sub64, ite0, pl0, pl2, pl3, sb0, if_true, if_false, eq_self, hl, e1] <;> omega) | (simp (disch := omega) [hj, std, cmpI, cmpB, satB, add64, sub64, ite0, pl0, pl2, pl3, sb0, if_true, if_false, eq_self, hl, e1] <;> omega))) | ((refine ob_ok hj ?_; simp only [hj, std, ite0]; first | exact o0 | exact o1)) | ((refine ob_vals hj ?_; exact cV1)))
            refine aw_lpj hj [(0, .keep), (3, .keep), (4, .keep), (5, .keep), (6, .own fT), (7, .keep), (10, .keep), (11, .keep)] [20] (fun (⟨k, g, N1, D1⟩ : Int × Int × Nat × (List C)) => stOf 199 [(0, .one (.c (.sl m ac))), (3, .one (.ptr 20 0)), (4, .one (.c (vI s))), (5, .one (.c (vB d))), (6, .one (.view 6 0)), (7, .one (.c (vI i))), (10, .one (.c (vI g))), (11, .one (.c (vI k)))] [(6, .loose [.own fT N1 D1]), (20, .box [.st (vI s), .st (vB d), .own fT N D])]) (fun (⟨k, g, N1, D1⟩ : Int × Int × Nat × (List C)) => nF F - k.toNat) (fun (⟨k, g, N1, D1⟩ : Int × Int × Nat × (List C)) => 0 ≤ k ∧ k ≤ nF F ∧ N1 = N + (armF s (F.take k.toNat)).length ∧ D1 = D ++ fC (armF s (F.take k.toNat)) ∧ g = (armF s (F.take k.toNat)).length) ((_, _, _, _)) (by generalize @stS = x_stS; generalize @stE = x_stE; generalize @stD = x_stD; generalize @mayV = x_mayV; generalize @amU = x_amU; generalize @amC = x_amC; generalize @amN = x_amN; generalize @gtN = x_gtN; generalize @gtC = x_gtC; generalize @fC = x_fC; generalize @nF = x_nF; generalize @acC = x_acC; generalize @nAc = x_nAc; cbv) ?_ (fun ⟨k, g, N1, D1⟩ hI => ?_)
            · exact ⟨by omega, by omega, rfl, by simp [armF, fC], rfl⟩
            obtain ⟨k1, k2, hN1, hD1, hg⟩ := hI
            have hle := armF_le s (F.take k.toNat)
            have hle2 : (F.take k.toNat).length ≤ F.length := by rw [List.length_take]; omega
            have hes : (gc (cellAt ac (i.toNat * 2 + 1))).length = nF F * 2 := by rw [e2]; exact hFl
            rcases Decidable.em (k < (nF F : Int)) with hk | hk
            · have y0 := gi_fC0 F k.toNat
              have y1 := gi_fC1 F k.toNat
              rw [← e2] at y0 y1
              have x0 := ok_fC0 (l := F) (k := k.toNat) (by omega)
              have x1 := ok_fC1 (l := F) (k := k.toNat) (by omega)
              rw [← e2] at x0 x1
              have hs := armF_snoc s (F.take k.toNat) (fAt F k.toNat)
              rw [← take_snoc (0, 0) (by omega : k.toNat < F.length)] at hs
              have f1 : (k + 1).toNat = k.toNat + 1 := by omega
              generalize fAt F k.toNat = Y at *
              obtain ⟨xa, xk⟩ := Y
              dsimp only at y0 y1 hs
              have hmf : mayF (xa, xk) = mayV xa xk := rfl
              rw [hmf] at hs
              have hra : mayV xa xk = true → 1 ≤ xk ∧ xk ≤ 3 ∧ 1 ≤ xa ∧ xa ≤ 1099511627776 := fun h => of_decide_eq_true h
              clear u0 u1 w0 w1 hmf
              rcases Bool.eq_false_or_eq_true (mayV xa xk) with hv | hv
              · have hra := hra hv
                rw [if_pos hv] at hs
                generalize y_stS : @stS = x_stS at *
                generalize y_stE : @stE = x_stE at *
                generalize y_stD : @stD = x_stD at *
                generalize y_mayV : @mayV = x_mayV at *
                generalize y_amU : @amU = x_amU at *
                generalize y_amC : @amC = x_amC at *
                generalize y_amN : @amN = x_amN at *
                generalize y_gtN : @gtN = x_gtN at *
                generalize y_gtC : @gtC = x_gtC at *
                generalize y_fC : @fC = x_fC at *
                generalize y_nF : @nF = x_nF at *
                generalize y_acC : @acC = x_acC at *
                generalize y_nAc : @nAc = x_nAc at *
                (repeat' first | ((first | with_reducible refine tr_cut (fun h => ?_) (fun h => ?_) | refine aw_condj (by cbv) (fun h => ?_) (fun h => ?_)) <;> (try simp (disch := omega) only [hj, std, cmpI, cmpB, satB, Bool.not_eq_true, Bool.not_eq_false, decide_eq_true_eq, decide_eq_false_iff_not, beq_iff_eq, bne_iff_ne, bne_eq_false_iff_eq, beq_eq_false_iff_ne, ne_eq, reduceCtorEq, not_true_eq_false, not_false_eq_true, pl0, if_true, cmpS_eq, cmpS_neq, Bool.not_eq_eq_eq_not, Bool.not_true, Bool.not_false, Bool.not_eq_true', ite0, e0, e1, y0, y1, hv, add64, sub64] at h) <;> (try (exfalso; omega))) | (with_reducible refine tr_alt (fun h => ?_) ?_ <;> (try (exfalso; omega))) | (with_reducible refine tr_ob ?_ ?_) | (with_reducible refine tr_done ?_) | (refine aw_tr hj tok (bookF x_stS x_stE x_stD x_mayV x_amU x_amC x_amN x_gtN x_gtC) (by cbv) ?_) | (refine aw_seq fun K hK => ?_) | (refine aw_tr1 hj tok (bookF x_stS x_stE x_stD x_mayV x_amU x_amC x_amN x_gtN x_gtC) (by cbv) ?_) | (refine aw_skip ?_) | (refine aw_block ?_) | (refine aw_exit ?_) | (refine aw_ret ⟨.inr rfl, ret_okj hj (by cbv) ?_ ?_⟩) | (refine aw_ret ?_) | (with_reducible refine th_n ?_) | (with_reducible refine th_r ?_) | (with_reducible refine th_x ?_) | (with_reducible refine blk_n ?_) | (with_reducible refine blk_r ?_) | (with_reducible refine blk_x ?_) | (with_reducible refine blk_y rfl ?_) | (refine ⟨.inr rfl, ret_okj hj (by cbv) ?_ ?_⟩) | (refine ⟨.inl rfl, ret_okj hj (by cbv) ?_ ?_⟩) | ((with_reducible refine ⟨(_, _, _, _, _, _, _, _, _), by cbv, ?_, ?_⟩)) | ((with_reducible refine ⟨(_, _, _, _, _, _, _, _), by cbv, ?_, ?_⟩)) | ((with_reducible refine ⟨(_, _, _, _), by cbv, ?_, ?_⟩)) | ((with_reducible refine ⟨(_, _, _), by cbv, ?_, ?_⟩)) | ((with_reducible refine ⟨(_, _), by cbv, ?_, ?_⟩)) | ((with_reducible refine ⟨_, by cbv, ?_, ?_⟩)) | (with_reducible apply_assumption -symm -exfalso only [*]))
                all_goals ((try subst y_stS); (try subst y_stE); (try subst y_stD); (try subst y_mayV); (try subst y_amU); (try subst y_amC); (try subst y_amN); (try subst y_gtN); (try subst y_gtC); (try subst y_fC); (try subst y_nF); (try subst y_acC); (try subst y_nAc))
                all_goals (try (repeat' first | with_reducible exact obl0 | with_reducible refine obl1 ?_ ?_))
                all_goals (try first | with_reducible exact True.intro | (refine ob_pc hj ?_; (try rw [hj]); first | exact c_may _ _) | (refine ob_pcn hj ?_; (try rw [hj]); first | exact c_may _ _) | ((first | refine ob_le hj ?_ | refine ob_lei hj ?_ | refine ob_inb hj ?_ | refine ob_pos hj ?_ | refine ob_ne0 hj ?_ | refine ob_eqb hj ?_); (first | rfl | first | omega | (simp only [hj, std]; split <;> omega) | (simp (disch := omega) only [hj, std, cmpI, cmpB, satB, add64, sub64, ite0, pl0, pl2, pl3, sb0, if_true, if_false, eq_self, hl, e1, hes, hD1l, y0, y1] <;> omega) | (simp (disch := omega) [hj, std, cmpI, cmpB, satB, add64, sub64, ite0, pl0, pl2, pl3, sb0, if_true, if_false, eq_self, hl, e1, hes, hD1l, y0, y1] <;> omega))) | ((refine ob_ok hj ?_; simp only [hj, std, ite0]; first | exact o0 | exact o1)) | ((refine ob_ok hj ?_; simp only [hj, std, ite0]; first | exact x0 | exact x1)) | ((simp (disch := omega) only [hj, std, add64, sub64, y0, y1, ite0]; first | omega | (rw [f1, hs]; refine ⟨by omega, by omega, by rw [List.length_append, List.length_singleton]; omega, ?_, by rw [List.length_append, List.length_singleton]; omega⟩; rw [hD1, List.append_assoc, fC_snoc]))))
              · rw [if_neg (by rw [hv]; simp)] at hs
                clear hra
                generalize y_stS : @stS = x_stS at *
                generalize y_stE : @stE = x_stE at *
                generalize y_stD : @stD = x_stD at *
                generalize y_mayV : @mayV = x_mayV at *
                generalize y_amU : @amU = x_amU at *
                generalize y_amC : @amC = x_amC at *
                generalize y_amN : @amN = x_amN at *
                generalize y_gtN : @gtN = x_gtN at *
                generalize y_gtC : @gtC = x_gtC at *
                generalize y_fC : @fC = x_fC at *
                generalize y_nF : @nF = x_nF at *
                generalize y_acC : @acC = x_acC at *
                generalize y_nAc : @nAc = x_nAc at *
                (repeat' first | ((first | with_reducible refine tr_cut (fun h => ?_) (fun h => ?_) | refine aw_condj (by cbv) (fun h => ?_) (fun h => ?_)) <;> (try simp (disch := omega) only [hj, std, cmpI, cmpB, satB, Bool.not_eq_true, Bool.not_eq_false, decide_eq_true_eq, decide_eq_false_iff_not, beq_iff_eq, bne_iff_ne, bne_eq_false_iff_eq, beq_eq_false_iff_ne, ne_eq, reduceCtorEq, not_true_eq_false, not_false_eq_true, pl0, if_true, cmpS_eq, cmpS_neq, Bool.not_eq_eq_eq_not, Bool.not_true, Bool.not_false, Bool.not_eq_true', ite0, e0, e1, y0, y1, hv, add64, sub64] at h) <;> (try (exfalso; omega))) | (with_reducible refine tr_alt (fun h => ?_) ?_ <;> (try (exfalso; omega))) | (with_reducible refine tr_ob ?_ ?_) | (with_reducible refine tr_done ?_) | (refine aw_tr hj tok (bookF x_stS x_stE x_stD x_mayV x_amU x_amC x_amN x_gtN x_gtC) (by cbv) ?_) | (refine aw_seq fun K hK => ?_) | (refine aw_tr1 hj tok (bookF x_stS x_stE x_stD x_mayV x_amU x_amC x_amN x_gtN x_gtC) (by cbv) ?_) | (refine aw_skip ?_) | (refine aw_block ?_) | (refine aw_exit ?_) | (refine aw_ret ⟨.inr rfl, ret_okj hj (by cbv) ?_ ?_⟩) | (refine aw_ret ?_) | (with_reducible refine th_n ?_) | (with_reducible refine th_r ?_) | (with_reducible refine th_x ?_) | (with_reducible refine blk_n ?_) | (with_reducible refine blk_r ?_) | (with_reducible refine blk_x ?_) | (with_reducible refine blk_y rfl ?_) | (refine ⟨.inr rfl, ret_okj hj (by cbv) ?_ ?_⟩) | (refine ⟨.inl rfl, ret_okj hj (by cbv) ?_ ?_⟩) | ((with_reducible refine ⟨(_, _, _, _, _, _, _, _, _), by cbv, ?_, ?_⟩)) | ((with_reducible refine ⟨(_, _, _, _, _, _, _, _), by cbv, ?_, ?_⟩)) | ((with_reducible refine ⟨(_, _, _, _), by cbv, ?_, ?_⟩)) | ((with_reducible refine ⟨(_, _, _), by cbv, ?_, ?_⟩)) | ((with_reducible refine ⟨(_, _), by cbv, ?_, ?_⟩)) | ((with_reducible refine ⟨_, by cbv, ?_, ?_⟩)) | (with_reducible apply_assumption -symm -exfalso only [*]))
                all_goals ((try subst y_stS); (try subst y_stE); (try subst y_stD); (try subst y_mayV); (try subst y_amU); (try subst y_amC); (try subst y_amN); (try subst y_gtN); (try subst y_gtC); (try subst y_fC); (try subst y_nF); (try subst y_acC); (try subst y_nAc))
                all_goals (try (repeat' first | with_reducible exact obl0 | with_reducible refine obl1 ?_ ?_))
                all_goals (try first | with_reducible exact True.intro | (refine ob_pc hj ?_; (try rw [hj]); first | exact c_may _ _) | (refine ob_pcn hj ?_; (try rw [hj]); first | exact c_may _ _) | ((first | refine ob_le hj ?_ | refine ob_lei hj ?_ | refine ob_inb hj ?_ | refine ob_pos hj ?_ | refine ob_ne0 hj ?_ | refine ob_eqb hj ?_); (first | rfl | first | omega | (simp only [hj, std]; split <;> omega) | (simp (disch := omega) only [hj, std, cmpI, cmpB, satB, add64, sub64, ite0, pl0, pl2, pl3, sb0, if_true, if_false, eq_self, hl, e1, hes, hD1l, y0, y1] <;> omega) | (simp (disch := omega) [hj, std, cmpI, cmpB, satB, add64, sub64, ite0, pl0, pl2, pl3, sb0, if_true, if_false, eq_self, hl, e1, hes, hD1l, y0, y1] <;> omega))) | ((refine ob_ok hj ?_; simp only [hj, std, ite0]; first | exact o0 | exact o1)) | ((refine ob_ok hj ?_; simp only [hj, std, ite0]; first | exact x0 | exact x1)) | ((simp (disch := omega) only [hj, std, add64, sub64, y0, y1, ite0]; first | omega | (rw [f1, hs]; exact ⟨by omega, by omega, hN1, hD1, hg⟩))))
            · rw [take_end (by omega : ¬ k.toNat < F.length)] at hN1 hD1 hg
              have za : amN (gc (cellAt ac (i.toNat * 2 + 1))) = (armF s F).length := by rw [e2]; unfold amN; rw [flsOf_fC, armF_len]
              have zu : amU s N (gc (cellAt ac (i.toNat * 2 + 1))) = N1 := by rw [e2, hN1]; unfold amU; rw [flsOf_fC, nF_eq]
              have zc : amC s D (gc (cellAt ac (i.toNat * 2 + 1))) = D1 := by rw [e2, hD1]; unfold amC; rw [flsOf_fC]
              rw [← hg] at za
              have cV3 : ∀ c ∈ amC s D (gc (cellAt ac (i.toNat * 2 + 1))), ∃ v, c = .val v := by rw [zc, hD1, hD, fC_app]; exact fC_vals _
              have cA := c_Arm (s := s) (d := d) (n := N) (cs := D) F e1 e2 (by omega) (by omega) (by omega)
              generalize y_stS : @stS = x_stS at *
              generalize y_stE : @stE = x_stE at *
              generalize y_stD : @stD = x_stD at *
              generalize y_mayV : @mayV = x_mayV at *
              generalize y_amU : @amU = x_amU at *
              generalize y_amC : @amC = x_amC at *
              generalize y_amN : @amN = x_amN at *
              generalize y_gtN : @gtN = x_gtN at *
              generalize y_gtC : @gtC = x_gtC at *
              generalize y_fC : @fC = x_fC at *
              generalize y_nF : @nF = x_nF at *
              generalize y_acC : @acC = x_acC at *
              generalize y_nAc : @nAc = x_nAc at *
              (repeat' first | ((first | with_reducible refine tr_cut (fun h => ?_) (fun h => ?_) | refine aw_condj (by cbv) (fun h => ?_) (fun h => ?_)) <;> (try simp (disch := omega) only [hj, std, cmpI, cmpB, satB, Bool.not_eq_true, Bool.not_eq_false, decide_eq_true_eq, decide_eq_false_iff_not, beq_iff_eq, bne_iff_ne, bne_eq_false_iff_eq, beq_eq_false_iff_ne, ne_eq, reduceCtorEq, not_true_eq_false, not_false_eq_true, pl0, if_true, cmpS_eq, cmpS_neq, Bool.not_eq_eq_eq_not, Bool.not_true, Bool.not_false, Bool.not_eq_true', ite0, e0, e1, za, add64, sub64] at h) <;> (try (exfalso; omega))) | (with_reducible refine tr_alt (fun h => ?_) ?_ <;> (try (exfalso; omega))) | (with_reducible refine tr_ob ?_ ?_) | (with_reducible refine tr_done ?_) | (refine aw_tr hj tok (bookF x_stS x_stE x_stD x_mayV x_amU x_amC x_amN x_gtN x_gtC) (by cbv) ?_) | (refine aw_seq fun K hK => ?_) | (refine aw_tr1 hj tok (bookF x_stS x_stE x_stD x_mayV x_amU x_amC x_amN x_gtN x_gtC) (by cbv) ?_) | (refine aw_skip ?_) | (refine aw_block ?_) | (refine aw_exit ?_) | (refine aw_ret ⟨.inr rfl, ret_okj hj (by cbv) ?_ ?_⟩) | (refine aw_ret ?_) | (with_reducible refine th_n ?_) | (with_reducible refine th_r ?_) | (with_reducible refine th_x ?_) | (with_reducible refine blk_n ?_) | (with_reducible refine blk_r ?_) | (with_reducible refine blk_x ?_) | (with_reducible refine blk_y rfl ?_) | (refine ⟨.inr rfl, ret_okj hj (by cbv) ?_ ?_⟩) | (refine ⟨.inl rfl, ret_okj hj (by cbv) ?_ ?_⟩) | ((with_reducible refine ⟨(_, _, _, _, _, _, _, _, _), by cbv, ?_, ?_⟩)) | ((with_reducible refine ⟨(_, _, _, _, _, _, _, _), by cbv, ?_, ?_⟩)) | ((with_reducible refine ⟨(_, _, _, _), by cbv, ?_, ?_⟩)) | ((with_reducible refine ⟨(_, _, _), by cbv, ?_, ?_⟩)) | ((with_reducible refine ⟨(_, _), by cbv, ?_, ?_⟩)) | ((with_reducible refine ⟨_, by cbv, ?_, ?_⟩)) | (with_reducible apply_assumption -symm -exfalso only [*]))
              all_goals ((try subst y_stS); (try subst y_stE); (try subst y_stD); (try subst y_mayV); (try subst y_amU); (try subst y_amC); (try subst y_amN); (try subst y_gtN); (try subst y_gtC); (try subst y_fC); (try subst y_nF); (try subst y_acC); (try subst y_nAc))
              all_goals (try (repeat' first | with_reducible exact obl0 | with_reducible refine obl1 ?_ ?_))
              all_goals (try first | with_reducible exact True.intro | (refine ob_pc hj ?_; (try rw [hj]); first | exact cA) | (refine ob_pcn hj ?_; (try rw [hj]); first | exact cA) | ((first | refine ob_le hj ?_ | refine ob_lei hj ?_ | refine ob_inb hj ?_ | refine ob_pos hj ?_ | refine ob_ne0 hj ?_ | refine ob_eqb hj ?_); (first | rfl | first | omega | (simp only [hj, std]; split <;> omega) | (simp (disch := omega) only [hj, std, cmpI, cmpB, satB, add64, sub64, ite0, pl0, pl2, pl3, sb0, if_true, if_false, eq_self, hl, e1, hes, za] <;> omega) | (simp (disch := omega) [hj, std, cmpI, cmpB, satB, add64, sub64, ite0, pl0, pl2, pl3, sb0, if_true, if_false, eq_self, hl, e1, hes, za] <;> omega))) | ((refine ob_ok hj ?_; simp only [hj, std, ite0]; first | exact o0 | exact o1)) | ((refine ob_vals hj ?_; exact cV1)) | ((simp only [hj, std, ite0]; exact ⟨by trivial, by trivial, zu.symm, zc.symm, A ++ armF s F, by rw [hN1, hN, nF_eq, nF_eq, List.length_append], by rw [hD1, hD, fC_app], hIa.arm (by omega) (by omega)⟩)) | ((refine ob_pc hj ?_; simp only [hj, std, ite0]; exact cA)) | ((refine ob_vals hj ?_; simp only [hj, std, ite0]; exact cV3)))
          · rcases Decidable.em (kd = 2) with hk2 | hk2
            · generalize y_stS : @stS = x_stS at *
              generalize y_stE : @stE = x_stE at *
              generalize y_stD : @stD = x_stD at *
              generalize y_mayV : @mayV = x_mayV at *
              generalize y_amU : @amU = x_amU at *
              generalize y_amC : @amC = x_amC at *
              generalize y_amN : @amN = x_amN at *
              generalize y_gtN : @gtN = x_gtN at *
              generalize y_gtC : @gtC = x_gtC at *
              generalize y_fC : @fC = x_fC at *
              generalize y_nF : @nF = x_nF at *
              generalize y_acC : @acC = x_acC at *
              generalize y_nAc : @nAc = x_nAc at *
              (repeat' first | ((first | with_reducible refine tr_cut (fun h => ?_) (fun h => ?_) | refine aw_condj (by cbv) (fun h => ?_) (fun h => ?_)) <;> (try simp (disch := omega) only [hj, std, cmpI, cmpB, satB, Bool.not_eq_true, Bool.not_eq_false, decide_eq_true_eq, decide_eq_false_iff_not, beq_iff_eq, bne_iff_ne, bne_eq_false_iff_eq, beq_eq_false_iff_ne, ne_eq, reduceCtorEq, not_true_eq_false, not_false_eq_true, pl0, if_true, cmpS_eq, cmpS_neq, Bool.not_eq_eq_eq_not, Bool.not_true, Bool.not_false, Bool.not_eq_true', ite0, e0, e1, add64, sub64] at h) <;> (try (exfalso; omega))) | (with_reducible refine tr_alt (fun h => ?_) ?_ <;> (try (exfalso; omega))) | (with_reducible refine tr_ob ?_ ?_) | (with_reducible refine tr_done ?_) | (refine aw_tr hj tok (bookF x_stS x_stE x_stD x_mayV x_amU x_amC x_amN x_gtN x_gtC) (by cbv) ?_) | (refine aw_seq fun K hK => ?_) | (refine aw_tr1 hj tok (bookF x_stS x_stE x_stD x_mayV x_amU x_amC x_amN x_gtN x_gtC) (by cbv) ?_) | (refine aw_skip ?_) | (refine aw_block ?_) | (refine aw_exit ?_) | (refine aw_ret ⟨.inr rfl, ret_okj hj (by cbv) ?_ ?_⟩) | (refine aw_ret ?_) | (with_reducible refine th_n ?_) | (with_reducible refine th_r ?_) | (with_reducible refine th_x ?_) | (with_reducible refine blk_n ?_) | (with_reducible refine blk_r ?_) | (with_reducible refine blk_x ?_) | (with_reducible refine blk_y rfl ?_) | (refine ⟨.inr rfl, ret_okj hj (by cbv) ?_ ?_⟩) | (refine ⟨.inl rfl, ret_okj hj (by cbv) ?_ ?_⟩) | ((with_reducible refine ⟨(_, _, _, _, _, _, _, _, _), by cbv, ?_, ?_⟩)) | ((with_reducible refine ⟨(_, _, _, _, _, _, _, _), by cbv, ?_, ?_⟩)) | ((with_reducible refine ⟨(_, _, _, _), by cbv, ?_, ?_⟩)) | ((with_reducible refine ⟨(_, _, _), by cbv, ?_, ?_⟩)) | ((with_reducible refine ⟨(_, _), by cbv, ?_, ?_⟩)) | ((with_reducible refine ⟨_, by cbv, ?_, ?_⟩)) | (with_reducible apply_assumption -symm -exfalso only [*]))
              all_goals ((try subst y_stS); (try subst y_stE); (try subst y_stD); (try subst y_mayV); (try subst y_amU); (try subst y_amC); (try subst y_amN); (try subst y_gtN); (try subst y_gtC); (try subst y_fC); (try subst y_nF); (try subst y_acC); (try subst y_nAc))
              all_goals (try (repeat' first | with_reducible exact obl0 | with_reducible refine obl1 ?_ ?_))
              all_goals (try first | with_reducible exact True.intro | (refine ob_pc hj ?_; (try rw [hj]); first | exact c_Fall _ _ _ _) | (refine ob_pcn hj ?_; (try rw [hj]); first | exact c_Fall _ _ _ _) | ((first | refine ob_le hj ?_ | refine ob_lei hj ?_ | refine ob_inb hj ?_ | refine ob_pos hj ?_ | refine ob_ne0 hj ?_ | refine ob_eqb hj ?_); (first | rfl | first | omega | (simp only [hj, std]; split <;> omega) | (simp (disch := omega) only [hj, std, cmpI, cmpB, satB, add64, sub64, ite0, pl0, pl2, pl3, sb0, if_true, if_false, eq_self, hl, e1] <;> omega) | (simp (disch := omega) [hj, std, cmpI, cmpB, satB, add64, sub64, ite0, pl0, pl2, pl3, sb0, if_true, if_false, eq_self, hl, e1] <;> omega))) | ((refine ob_ok hj ?_; simp only [hj, std, ite0]; first | exact o0 | exact o1)) | ((refine ob_vals hj ?_; exact cV1)) | (exact ⟨rfl, rfl, rfl, rfl, A, hN, hD, hI.step (.inl rfl)⟩))
            · generalize y_stS : @stS = x_stS at *
              generalize y_stE : @stE = x_stE at *
              generalize y_stD : @stD = x_stD at *
              generalize y_mayV : @mayV = x_mayV at *
              generalize y_amU : @amU = x_amU at *
              generalize y_amC : @amC = x_amC at *
              generalize y_amN : @amN = x_amN at *
              generalize y_gtN : @gtN = x_gtN at *
              generalize y_gtC : @gtC = x_gtC at *
              generalize y_fC : @fC = x_fC at *
              generalize y_nF : @nF = x_nF at *
              generalize y_acC : @acC = x_acC at *
              generalize y_nAc : @nAc = x_nAc at *
              (repeat' first | ((first | with_reducible refine tr_cut (fun h => ?_) (fun h => ?_) | refine aw_condj (by cbv) (fun h => ?_) (fun h => ?_)) <;> (try simp (disch := omega) only [hj, std, cmpI, cmpB, satB, Bool.not_eq_true, Bool.not_eq_false, decide_eq_true_eq, decide_eq_false_iff_not, beq_iff_eq, bne_iff_ne, bne_eq_false_iff_eq, beq_eq_false_iff_ne, ne_eq, reduceCtorEq, not_true_eq_false, not_false_eq_true, pl0, if_true, cmpS_eq, cmpS_neq, Bool.not_eq_eq_eq_not, Bool.not_true, Bool.not_false, Bool.not_eq_true', ite0, e0, e1, add64, sub64] at h) <;> (try (exfalso; omega))) | (with_reducible refine tr_alt (fun h => ?_) ?_ <;> (try (exfalso; omega))) | (with_reducible refine tr_ob ?_ ?_) | (with_reducible refine tr_done ?_) | (refine aw_tr hj tok (bookF x_stS x_stE x_stD x_mayV x_amU x_amC x_amN x_gtN x_gtC) (by cbv) ?_) | (refine aw_seq fun K hK => ?_) | (refine aw_tr1 hj tok (bookF x_stS x_stE x_stD x_mayV x_amU x_amC x_amN x_gtN x_gtC) (by cbv) ?_) | (refine aw_skip ?_) | (refine aw_block ?_) | (refine aw_exit ?_) | (refine aw_ret ⟨.inr rfl, ret_okj hj (by cbv) ?_ ?_⟩) | (refine aw_ret ?_) | (with_reducible refine th_n ?_) | (with_reducible refine th_r ?_) | (with_reducible refine th_x ?_) | (with_reducible refine blk_n ?_) | (with_reducible refine blk_r ?_) | (with_reducible refine blk_x ?_) | (with_reducible refine blk_y rfl ?_) | (refine ⟨.inr rfl, ret_okj hj (by cbv) ?_ ?_⟩) | (refine ⟨.inl rfl, ret_okj hj (by cbv) ?_ ?_⟩) | ((with_reducible refine ⟨(_, _, _, _, _, _, _, _, _), by cbv, ?_, ?_⟩)) | ((with_reducible refine ⟨(_, _, _, _, _, _, _, _), by cbv, ?_, ?_⟩)) | ((with_reducible refine ⟨(_, _, _, _), by cbv, ?_, ?_⟩)) | ((with_reducible refine ⟨(_, _, _), by cbv, ?_, ?_⟩)) | ((with_reducible refine ⟨(_, _), by cbv, ?_, ?_⟩)) | ((with_reducible refine ⟨_, by cbv, ?_, ?_⟩)) | (with_reducible apply_assumption -symm -exfalso only [*]))
              all_goals ((try subst y_stS); (try subst y_stE); (try subst y_stD); (try subst y_mayV); (try subst y_amU); (try subst y_amC); (try subst y_amN); (try subst y_gtN); (try subst y_gtC); (try subst y_fC); (try subst y_nF); (try subst y_acC); (try subst y_nAc))
              all_goals (try (repeat' first | with_reducible exact obl0 | with_reducible refine obl1 ?_ ?_))
              all_goals (try first | with_reducible exact True.intro | (refine ob_pc hj ?_; (try rw [hj]); first | exact c_Rise _ _ _ _) | (refine ob_pcn hj ?_; (try rw [hj]); first | exact c_Rise _ _ _ _) | ((first | refine ob_le hj ?_ | refine ob_lei hj ?_ | refine ob_inb hj ?_ | refine ob_pos hj ?_ | refine ob_ne0 hj ?_ | refine ob_eqb hj ?_); (first | rfl | first | omega | (simp only [hj, std]; split <;> omega) | (simp (disch := omega) only [hj, std, cmpI, cmpB, satB, add64, sub64, ite0, pl0, pl2, pl3, sb0, if_true, if_false, eq_self, hl, e1] <;> omega) | (simp (disch := omega) [hj, std, cmpI, cmpB, satB, add64, sub64, ite0, pl0, pl2, pl3, sb0, if_true, if_false, eq_self, hl, e1] <;> omega))) | ((refine ob_ok hj ?_; simp only [hj, std, ite0]; first | exact o0 | exact o1)) | ((refine ob_vals hj ?_; first | exact cV1 | exact fun c h => absurd h (by simp))) | (exact ⟨rfl, rfl, rfl, rfl, [], rfl, rfl, hI.rise⟩))
      · clear u0 u1 w0 w1 hDl cV1
        have hI' := hI
        clear hI hN hD hIa hIs hIn nA hIk
        obtain ⟨rfl, rfl, rfl, rfl, A, hN, hD, hI⟩ := hI'
        have nA := nF_eq A
        have hIs := hI.s0
        have hIn := hI.n
        have hI0 := hI
        have hIa := hI.a
        have u0 : ∀ k : Nat, gi (cellAt D (k * 2)) = (fAt A k).1 := fun k => by rw [hD]; exact gi_fC0 A k
        have u1 : ∀ k : Nat, gi (cellAt D (k * 2 + 1)) = (fAt A k).2 := fun k => by rw [hD]; exact gi_fC1 A k
        have w0 : ∀ k : Nat, k < A.length → okK (.int .i64) (cellAt D (k * 2)) := fun k h => by rw [hD]; exact ok_fC0 h
        have w1 : ∀ k : Nat, k < A.length → okK (.int .i64) (cellAt D (k * 2 + 1)) := fun k h => by rw [hD]; exact ok_fC1 h
        have hDl : D.length = N * 2 := by rw [hD, hN]; exact fC_len A
        have cV1 : ∀ c ∈ D, ∃ v, c = .val v := by rw [hD]; exact fC_vals A
        have cAd : (std Try.prog T).pc 16 [.root (mBox s d N D)] (ret1 (.own fT (gtN s D) (gtC s D))) [mBox s d N D] := c_Armed A hN hD (by omega) (by omega) hI.a
        have cGC : gtC s D = fC (gotF s A) := by unfold gtC; rw [hD, flsOf_fC]
        have cGN : gtN s D = nF (gotF s A) := by unfold gtN; rw [hD, flsOf_fC]
        have hGn : gtN s D = (gotF s A).length := by rw [cGN, nF_eq]
        have hGl : (gtC s D).length = gtN s D * 2 := by rw [cGC, cGN]; exact fC_len _
        have cV2 : ∀ c ∈ gtC s D, ∃ v, c = .val v := by rw [cGC]; exact fC_vals _
        generalize y_stS : @stS = x_stS at *
        generalize y_stE : @stE = x_stE at *
        generalize y_stD : @stD = x_stD at *
        generalize y_mayV : @mayV = x_mayV at *
        generalize y_amU : @amU = x_amU at *
        generalize y_amC : @amC = x_amC at *
        generalize y_amN : @amN = x_amN at *
        generalize y_gtN : @gtN = x_gtN at *
        generalize y_gtC : @gtC = x_gtC at *
        generalize y_fC : @fC = x_fC at *
        generalize y_nF : @nF = x_nF at *
        generalize y_acC : @acC = x_acC at *
        generalize y_nAc : @nAc = x_nAc at *
        (repeat' first | ((first | with_reducible refine tr_cut (fun h => ?_) (fun h => ?_) | refine aw_condj (by cbv) (fun h => ?_) (fun h => ?_)) <;> (try simp (disch := omega) only [hj, std, cmpI, cmpB, satB, Bool.not_eq_true, Bool.not_eq_false, decide_eq_true_eq, decide_eq_false_iff_not, beq_iff_eq, bne_iff_ne, bne_eq_false_iff_eq, beq_eq_false_iff_ne, ne_eq, reduceCtorEq, not_true_eq_false, not_false_eq_true, pl0, if_true, cmpS_eq, cmpS_neq, Bool.not_eq_eq_eq_not, Bool.not_true, Bool.not_false, Bool.not_eq_true', ite0, add64, sub64] at h) <;> (try (exfalso; omega))) | (with_reducible refine tr_alt (fun h => ?_) ?_ <;> (try (exfalso; omega))) | (with_reducible refine tr_ob ?_ ?_) | (with_reducible refine tr_done ?_) | (refine aw_tr hj tok (bookF x_stS x_stE x_stD x_mayV x_amU x_amC x_amN x_gtN x_gtC) (by cbv) ?_) | (refine aw_seq fun K hK => ?_) | (refine aw_tr1 hj tok (bookF x_stS x_stE x_stD x_mayV x_amU x_amC x_amN x_gtN x_gtC) (by cbv) ?_) | (refine aw_skip ?_) | (refine aw_block ?_) | (refine aw_exit ?_) | (refine aw_ret ⟨.inr rfl, ret_okj hj (by cbv) ?_ ?_⟩) | (refine aw_ret ?_) | (with_reducible refine th_n ?_) | (with_reducible refine th_r ?_) | (with_reducible refine th_x ?_) | (with_reducible refine blk_n ?_) | (with_reducible refine blk_r ?_) | (with_reducible refine blk_x ?_) | (with_reducible refine blk_y rfl ?_) | (refine ⟨.inr rfl, ret_okj hj (by cbv) ?_ ?_⟩) | (refine ⟨.inl rfl, ret_okj hj (by cbv) ?_ ?_⟩) | ((with_reducible refine ⟨(_, _, _, _, _, _, _, _, _), by cbv, ?_, ?_⟩)) | ((with_reducible refine ⟨(_, _, _, _, _, _, _, _), by cbv, ?_, ?_⟩)) | ((with_reducible refine ⟨(_, _, _, _), by cbv, ?_, ?_⟩)) | ((with_reducible refine ⟨(_, _, _), by cbv, ?_, ?_⟩)) | ((with_reducible refine ⟨(_, _), by cbv, ?_, ?_⟩)) | ((with_reducible refine ⟨_, by cbv, ?_, ?_⟩)) | (with_reducible apply_assumption -symm -exfalso only [*]))
        all_goals ((try subst y_stS); (try subst y_stE); (try subst y_stD); (try subst y_mayV); (try subst y_amU); (try subst y_amC); (try subst y_amN); (try subst y_gtN); (try subst y_gtC); (try subst y_fC); (try subst y_nF); (try subst y_acC); (try subst y_nAc))
        all_goals (try (repeat' first | with_reducible exact obl0 | with_reducible refine obl1 ?_ ?_))
        all_goals (try first | with_reducible exact True.intro | (refine ob_pc hj ?_; (try rw [hj]); first | exact cAd) | (refine ob_pcn hj ?_; (try rw [hj]); first | exact cAd) | ((first | refine ob_le hj ?_ | refine ob_lei hj ?_ | refine ob_inb hj ?_ | refine ob_pos hj ?_ | refine ob_ne0 hj ?_ | refine ob_eqb hj ?_); (first | rfl | first | omega | (simp only [hj, std]; split <;> omega) | (simp (disch := omega) only [hj, std, cmpI, cmpB, satB, add64, sub64, ite0, pl0, pl2, pl3, sb0, if_true, if_false, eq_self] <;> omega) | (simp (disch := omega) [hj, std, cmpI, cmpB, satB, add64, sub64, ite0, pl0, pl2, pl3, sb0, if_true, if_false, eq_self] <;> omega))) | ((refine ob_vals hj ?_; first | exact cV1 | exact cV2)))
        refine aw_lpj hj [(0, .keep), (3, .keep), (4, .keep), (5, .keep), (6, .own fT), (7, .keep), (13, .own fT), (14, .keep), (15, .keep)] [20] (fun (⟨k, n⟩ : Int × Int) => stOf 199 [(0, .one (.c (.sl m ac))), (3, .one (.ptr 20 0)), (4, .one (.c (vI s))), (5, .one (.c (vB d))), (6, .one (.view 6 0)), (7, .one (.c (vI i))), (13, .one (.view 13 0)), (14, .one (.c (vI n))), (15, .one (.c (vI k)))] [(6, .loose [.own fT N D]), (13, .loose [.own fT (gtN s D) (gtC s D)]), (20, .box [.st (vI s), .st (vB d), .own fT N D])]) (fun (⟨k, n⟩ : Int × Int) => N - k.toNat) (fun (⟨k, n⟩ : Int × Int) => 0 ≤ k ∧ k ≤ N ∧ n = (gotF s (A.take k.toNat)).length) ((_, _)) (by generalize @stS = x_stS; generalize @stE = x_stE; generalize @stD = x_stD; generalize @mayV = x_mayV; generalize @amU = x_amU; generalize @amC = x_amC; generalize @amN = x_amN; generalize @gtN = x_gtN; generalize @gtC = x_gtC; generalize @fC = x_fC; generalize @nF = x_nF; generalize @acC = x_acC; generalize @nAc = x_nAc; cbv) ?_ (fun ⟨k, n⟩ hI => ?_)
        · exact ⟨by omega, by omega, rfl⟩
        obtain ⟨k1, k2, hkn⟩ := hI
        rcases Decidable.em (k < (N : Int)) with hk | hk
        · have v0 := u0 k.toNat
          have v1 := u1 k.toNat
          have x0 := w0 k.toNat (by omega)
          have x1 := w1 k.toNat (by omega)
          have y1 := gotF_at (s := s) (A := A) (k := k.toNat) (by omega)
          have y2 := gotF_no (s := s) (A := A) (k := k.toNat) (by omega)
          have z0 : ∀ q : Nat, gi (cellAt (gtC s D) (q * 2)) = (fAt (gotF s A) q).1 := fun q => by rw [cGC]; exact gi_fC0 _ q
          have z1 : ∀ q : Nat, gi (cellAt (gtC s D) (q * 2 + 1)) = (fAt (gotF s A) q).2 := fun q => by rw [cGC]; exact gi_fC1 _ q
          have g0 := z0 n.toNat
          have g1 := z1 n.toNat
          have p0 : n.toNat < (gotF s A).length → okK (.int .i64) (cellAt (gtC s D) (n.toNat * 2)) := fun h => by rw [cGC]; exact ok_fC0 h
          have p1 : n.toNat < (gotF s A).length → okK (.int .i64) (cellAt (gtC s D) (n.toNat * 2 + 1)) := fun h => by rw [cGC]; exact ok_fC1 h
          have f1 : (k + 1).toNat = k.toNat + 1 := by omega
          have nt : n.toNat = (gotF s (A.take k.toNat)).length := by omega
          rw [← nt] at y1 y2
          clear z0 z1 u0 u1 w0 w1
          have ra : 0 ≤ (fAt A k.toNat).1 ∧ (fAt A k.toNat).1 ≤ 1099512627776 := hIa _ (getD_mem (0, 0) (by omega))
          have hgl := gotF_le s A
          generalize fAt A k.toNat = Y at *
          obtain ⟨ya, yk⟩ := Y
          dsimp only at v0 v1 y1 y2 ra
          rcases Decidable.em (s < ya) with hs | hs
          · obtain ⟨y1, y3, y4⟩ := y1 hs
            have p0 := p0 y1
            have p1 := p1 y1
            rw [y3] at g0 g1
            dsimp only at g0 g1
            clear y3 y2
            generalize y_stS : @stS = x_stS at *
            generalize y_stE : @stE = x_stE at *
            generalize y_stD : @stD = x_stD at *
            generalize y_mayV : @mayV = x_mayV at *
            generalize y_amU : @amU = x_amU at *
            generalize y_amC : @amC = x_amC at *
            generalize y_amN : @amN = x_amN at *
            generalize y_gtN : @gtN = x_gtN at *
            generalize y_gtC : @gtC = x_gtC at *
            generalize y_fC : @fC = x_fC at *
            generalize y_nF : @nF = x_nF at *
            generalize y_acC : @acC = x_acC at *
            generalize y_nAc : @nAc = x_nAc at *
            (repeat' first | ((first | with_reducible refine tr_cut (fun h => ?_) (fun h => ?_) | refine aw_condj (by cbv) (fun h => ?_) (fun h => ?_)) <;> (try simp (disch := omega) only [hj, std, cmpI, cmpB, satB, Bool.not_eq_true, Bool.not_eq_false, decide_eq_true_eq, decide_eq_false_iff_not, beq_iff_eq, bne_iff_ne, bne_eq_false_iff_eq, beq_eq_false_iff_ne, ne_eq, reduceCtorEq, not_true_eq_false, not_false_eq_true, pl0, if_true, cmpS_eq, cmpS_neq, Bool.not_eq_eq_eq_not, Bool.not_true, Bool.not_false, Bool.not_eq_true', ite0, v0, v1, g0, g1, add64, sub64] at h) <;> (try (exfalso; omega))) | (with_reducible refine tr_alt (fun h => ?_) ?_ <;> (try (exfalso; omega))) | (with_reducible refine tr_ob ?_ ?_) | (with_reducible refine tr_done ?_) | (refine aw_dr1 (id := 50) hj tok hm (bookF x_stS x_stE x_stD x_mayV x_amU x_amC x_amN x_gtN x_gtC) true [(0, false), (1, true), (2, true), (3, true), (4, true), (5, false), (6, false), (7, false), (8, false), (9, false), (10, false), (11, false), (12, false), (13, false), (14, false), (15, true), (16, true), (17, true), (18, true), (19, true), (20, false), (21, false), (22, false), (23, false), (24, false), (25, false), (26, true), (27, true), (28, true), (29, true), (30, true), (31, true)] (by kernel_rfl) (by cbv) ?_) | (refine aw_dr (id := 50) hj tok hm (bookF x_stS x_stE x_stD x_mayV x_amU x_amC x_amN x_gtN x_gtC) true [(0, false), (1, true), (2, true), (3, true), (4, true), (5, false), (6, false), (7, false), (8, false), (9, false), (10, false), (11, false), (12, false), (13, false), (14, false), (15, true), (16, true), (17, true), (18, true), (19, true), (20, false), (21, false), (22, false), (23, false), (24, false), (25, false), (26, true), (27, true), (28, true), (29, true), (30, true), (31, true)] (by kernel_rfl) (by cbv) ?_) | (refine aw_tr hj tok (bookF x_stS x_stE x_stD x_mayV x_amU x_amC x_amN x_gtN x_gtC) (by cbv) ?_) | (refine aw_seq fun K hK => ?_) | (refine aw_tr1 hj tok (bookF x_stS x_stE x_stD x_mayV x_amU x_amC x_amN x_gtN x_gtC) (by cbv) ?_) | (refine aw_skip ?_) | (refine aw_block ?_) | (refine aw_exit ?_) | (refine aw_ret ⟨.inr rfl, ret_okj hj (by cbv) ?_ ?_⟩) | (refine aw_ret ?_) | (with_reducible refine th_n ?_) | (with_reducible refine th_r ?_) | (with_reducible refine th_x ?_) | (with_reducible refine blk_n ?_) | (with_reducible refine blk_r ?_) | (with_reducible refine blk_x ?_) | (with_reducible refine blk_y rfl ?_) | (refine ⟨.inr rfl, ret_okj hj (by cbv) ?_ ?_⟩) | (refine ⟨.inl rfl, ret_okj hj (by cbv) ?_ ?_⟩) | ((with_reducible refine ⟨(_, _, _, _, _, _, _, _, _), by cbv, ?_, ?_⟩)) | ((with_reducible refine ⟨(_, _, _, _, _, _, _, _), by cbv, ?_, ?_⟩)) | ((with_reducible refine ⟨(_, _, _, _), by cbv, ?_, ?_⟩)) | ((with_reducible refine ⟨(_, _, _), by cbv, ?_, ?_⟩)) | ((with_reducible refine ⟨(_, _), by cbv, ?_, ?_⟩)) | ((with_reducible refine ⟨_, by cbv, ?_, ?_⟩)) | (with_reducible apply_assumption -symm -exfalso only [*]))
            all_goals ((try subst y_stS); (try subst y_stE); (try subst y_stD); (try subst y_mayV); (try subst y_amU); (try subst y_amC); (try subst y_amN); (try subst y_gtN); (try subst y_gtC); (try subst y_fC); (try subst y_nF); (try subst y_acC); (try subst y_nAc))
            all_goals (try (repeat' first | with_reducible exact obl0 | with_reducible refine obl1 ?_ ?_))
            all_goals (try first | with_reducible exact True.intro | ((first | refine ob_le hj ?_ | refine ob_lei hj ?_ | refine ob_inb hj ?_ | refine ob_pos hj ?_ | refine ob_ne0 hj ?_ | refine ob_eqb hj ?_); (first | rfl | first | omega | (simp only [hj, std]; split <;> omega) | (simp (disch := omega) only [hj, std, cmpI, cmpB, satB, add64, sub64, ite0, pl0, pl2, pl3, sb0, if_true, if_false, eq_self, hDl, hGl, v0, v1, g0, g1] <;> omega) | (simp (disch := omega) [hj, std, cmpI, cmpB, satB, add64, sub64, ite0, pl0, pl2, pl3, sb0, if_true, if_false, eq_self, hDl, hGl, v0, v1, g0, g1] <;> omega))) | ((refine ob_ok hj ?_; simp only [hj, std, ite0]; first | exact x0 | exact x1 | exact p0 | exact p1)) | ((simp (disch := omega) only [hj, std, add64, sub64, ite0, f1]; first | omega | exact ⟨by omega, by omega, by omega⟩)))
          · have y2 := y2 hs
            clear y1 p0 p1
            generalize y_stS : @stS = x_stS at *
            generalize y_stE : @stE = x_stE at *
            generalize y_stD : @stD = x_stD at *
            generalize y_mayV : @mayV = x_mayV at *
            generalize y_amU : @amU = x_amU at *
            generalize y_amC : @amC = x_amC at *
            generalize y_amN : @amN = x_amN at *
            generalize y_gtN : @gtN = x_gtN at *
            generalize y_gtC : @gtC = x_gtC at *
            generalize y_fC : @fC = x_fC at *
            generalize y_nF : @nF = x_nF at *
            generalize y_acC : @acC = x_acC at *
            generalize y_nAc : @nAc = x_nAc at *
            (repeat' first | ((first | with_reducible refine tr_cut (fun h => ?_) (fun h => ?_) | refine aw_condj (by cbv) (fun h => ?_) (fun h => ?_)) <;> (try simp (disch := omega) only [hj, std, cmpI, cmpB, satB, Bool.not_eq_true, Bool.not_eq_false, decide_eq_true_eq, decide_eq_false_iff_not, beq_iff_eq, bne_iff_ne, bne_eq_false_iff_eq, beq_eq_false_iff_ne, ne_eq, reduceCtorEq, not_true_eq_false, not_false_eq_true, pl0, if_true, cmpS_eq, cmpS_neq, Bool.not_eq_eq_eq_not, Bool.not_true, Bool.not_false, Bool.not_eq_true', ite0, v0, v1, g0, g1, add64, sub64] at h) <;> (try (exfalso; omega))) | (with_reducible refine tr_alt (fun h => ?_) ?_ <;> (try (exfalso; omega))) | (with_reducible refine tr_ob ?_ ?_) | (with_reducible refine tr_done ?_) | (refine aw_dr1 (id := 50) hj tok hm (bookF x_stS x_stE x_stD x_mayV x_amU x_amC x_amN x_gtN x_gtC) true [(0, false), (1, true), (2, true), (3, true), (4, true), (5, false), (6, false), (7, false), (8, false), (9, false), (10, false), (11, false), (12, false), (13, false), (14, false), (15, true), (16, true), (17, true), (18, true), (19, true), (20, false), (21, false), (22, false), (23, false), (24, false), (25, false), (26, true), (27, true), (28, true), (29, true), (30, true), (31, true)] (by kernel_rfl) (by cbv) ?_) | (refine aw_dr (id := 50) hj tok hm (bookF x_stS x_stE x_stD x_mayV x_amU x_amC x_amN x_gtN x_gtC) true [(0, false), (1, true), (2, true), (3, true), (4, true), (5, false), (6, false), (7, false), (8, false), (9, false), (10, false), (11, false), (12, false), (13, false), (14, false), (15, true), (16, true), (17, true), (18, true), (19, true), (20, false), (21, false), (22, false), (23, false), (24, false), (25, false), (26, true), (27, true), (28, true), (29, true), (30, true), (31, true)] (by kernel_rfl) (by cbv) ?_) | (refine aw_tr hj tok (bookF x_stS x_stE x_stD x_mayV x_amU x_amC x_amN x_gtN x_gtC) (by cbv) ?_) | (refine aw_seq fun K hK => ?_) | (refine aw_tr1 hj tok (bookF x_stS x_stE x_stD x_mayV x_amU x_amC x_amN x_gtN x_gtC) (by cbv) ?_) | (refine aw_skip ?_) | (refine aw_block ?_) | (refine aw_exit ?_) | (refine aw_ret ⟨.inr rfl, ret_okj hj (by cbv) ?_ ?_⟩) | (refine aw_ret ?_) | (with_reducible refine th_n ?_) | (with_reducible refine th_r ?_) | (with_reducible refine th_x ?_) | (with_reducible refine blk_n ?_) | (with_reducible refine blk_r ?_) | (with_reducible refine blk_x ?_) | (with_reducible refine blk_y rfl ?_) | (refine ⟨.inr rfl, ret_okj hj (by cbv) ?_ ?_⟩) | (refine ⟨.inl rfl, ret_okj hj (by cbv) ?_ ?_⟩) | ((with_reducible refine ⟨(_, _, _, _, _, _, _, _, _), by cbv, ?_, ?_⟩)) | ((with_reducible refine ⟨(_, _, _, _, _, _, _, _), by cbv, ?_, ?_⟩)) | ((with_reducible refine ⟨(_, _, _, _), by cbv, ?_, ?_⟩)) | ((with_reducible refine ⟨(_, _, _), by cbv, ?_, ?_⟩)) | ((with_reducible refine ⟨(_, _), by cbv, ?_, ?_⟩)) | ((with_reducible refine ⟨_, by cbv, ?_, ?_⟩)) | (with_reducible apply_assumption -symm -exfalso only [*]))
            all_goals ((try subst y_stS); (try subst y_stE); (try subst y_stD); (try subst y_mayV); (try subst y_amU); (try subst y_amC); (try subst y_amN); (try subst y_gtN); (try subst y_gtC); (try subst y_fC); (try subst y_nF); (try subst y_acC); (try subst y_nAc))
            all_goals (try (repeat' first | with_reducible exact obl0 | with_reducible refine obl1 ?_ ?_))
            all_goals (try first | with_reducible exact True.intro | ((first | refine ob_le hj ?_ | refine ob_lei hj ?_ | refine ob_inb hj ?_ | refine ob_pos hj ?_ | refine ob_ne0 hj ?_ | refine ob_eqb hj ?_); (first | rfl | first | omega | (simp only [hj, std]; split <;> omega) | (simp (disch := omega) only [hj, std, cmpI, cmpB, satB, add64, sub64, ite0, pl0, pl2, pl3, sb0, if_true, if_false, eq_self, hDl, hGl, v0, v1, g0, g1] <;> omega) | (simp (disch := omega) [hj, std, cmpI, cmpB, satB, add64, sub64, ite0, pl0, pl2, pl3, sb0, if_true, if_false, eq_self, hDl, hGl, v0, v1, g0, g1] <;> omega))) | ((refine ob_ok hj ?_; simp only [hj, std, ite0]; first | exact x0 | exact x1)) | ((simp (disch := omega) only [hj, std, add64, sub64, ite0, f1]; first | omega | exact ⟨by omega, by omega, by omega⟩)))
        · rw [take_end (by omega : ¬ k.toNat < A.length)] at hkn
          have ei : j.arith .add .i64 i 1 = i + 1 := by rw [hj]; exact add64 (by omega) (by omega)
          generalize y_stS : @stS = x_stS at *
          generalize y_stE : @stE = x_stE at *
          generalize y_stD : @stD = x_stD at *
          generalize y_mayV : @mayV = x_mayV at *
          generalize y_amU : @amU = x_amU at *
          generalize y_amC : @amC = x_amC at *
          generalize y_amN : @amN = x_amN at *
          generalize y_gtN : @gtN = x_gtN at *
          generalize y_gtC : @gtC = x_gtC at *
          generalize y_fC : @fC = x_fC at *
          generalize y_nF : @nF = x_nF at *
          generalize y_acC : @acC = x_acC at *
          generalize y_nAc : @nAc = x_nAc at *
          (repeat' first | ((first | with_reducible refine tr_cut (fun h => ?_) (fun h => ?_) | refine aw_condj (by cbv) (fun h => ?_) (fun h => ?_)) <;> (try simp (disch := omega) only [hj, std, cmpI, cmpB, satB, Bool.not_eq_true, Bool.not_eq_false, decide_eq_true_eq, decide_eq_false_iff_not, beq_iff_eq, bne_iff_ne, bne_eq_false_iff_eq, beq_eq_false_iff_ne, ne_eq, reduceCtorEq, not_true_eq_false, not_false_eq_true, pl0, if_true, cmpS_eq, cmpS_neq, Bool.not_eq_eq_eq_not, Bool.not_true, Bool.not_false, Bool.not_eq_true', ite0, add64, sub64] at h) <;> (try (exfalso; omega))) | (with_reducible refine tr_alt (fun h => ?_) ?_ <;> (try (exfalso; omega))) | (with_reducible refine tr_ob ?_ ?_) | (with_reducible refine tr_done ?_) | (refine aw_dr1 (id := 50) hj tok hm (bookF x_stS x_stE x_stD x_mayV x_amU x_amC x_amN x_gtN x_gtC) true [(0, false), (1, true), (2, true), (3, true), (4, true), (5, false), (6, false), (7, false), (8, false), (9, false), (10, false), (11, false), (12, false), (13, false), (14, false), (15, true), (16, true), (17, true), (18, true), (19, true), (20, false), (21, false), (22, false), (23, false), (24, false), (25, false), (26, true), (27, true), (28, true), (29, true), (30, true), (31, true)] (by kernel_rfl) (by cbv) ?_) | (refine aw_dr (id := 50) hj tok hm (bookF x_stS x_stE x_stD x_mayV x_amU x_amC x_amN x_gtN x_gtC) true [(0, false), (1, true), (2, true), (3, true), (4, true), (5, false), (6, false), (7, false), (8, false), (9, false), (10, false), (11, false), (12, false), (13, false), (14, false), (15, true), (16, true), (17, true), (18, true), (19, true), (20, false), (21, false), (22, false), (23, false), (24, false), (25, false), (26, true), (27, true), (28, true), (29, true), (30, true), (31, true)] (by kernel_rfl) (by cbv) ?_) | (refine aw_tr hj tok (bookF x_stS x_stE x_stD x_mayV x_amU x_amC x_amN x_gtN x_gtC) (by cbv) ?_) | (refine aw_seq fun K hK => ?_) | (refine aw_tr1 hj tok (bookF x_stS x_stE x_stD x_mayV x_amU x_amC x_amN x_gtN x_gtC) (by cbv) ?_) | (refine aw_skip ?_) | (refine aw_block ?_) | (refine aw_exit ?_) | (refine aw_ret ⟨.inr rfl, ret_okj hj (by cbv) ?_ ?_⟩) | (refine aw_ret ?_) | (with_reducible refine th_n ?_) | (with_reducible refine th_r ?_) | (with_reducible refine th_x ?_) | (with_reducible refine blk_n ?_) | (with_reducible refine blk_r ?_) | (with_reducible refine blk_x ?_) | (with_reducible refine blk_y rfl ?_) | (refine ⟨.inr rfl, ret_okj hj (by cbv) ?_ ?_⟩) | (refine ⟨.inl rfl, ret_okj hj (by cbv) ?_ ?_⟩) | ((with_reducible refine ⟨(_, _, _, _, _, _, _, _, _), by cbv, ?_, ?_⟩)) | ((with_reducible refine ⟨(_, _, _, _, _, _, _, _), by cbv, ?_, ?_⟩)) | ((with_reducible refine ⟨(_, _, _, _), by cbv, ?_, ?_⟩)) | ((with_reducible refine ⟨(_, _, _), by cbv, ?_, ?_⟩)) | ((with_reducible refine ⟨(_, _), by cbv, ?_, ?_⟩)) | ((with_reducible refine ⟨_, by cbv, ?_, ?_⟩)) | (with_reducible apply_assumption -symm -exfalso only [*]))
          all_goals ((try subst y_stS); (try subst y_stE); (try subst y_stD); (try subst y_mayV); (try subst y_amU); (try subst y_amC); (try subst y_amN); (try subst y_gtN); (try subst y_gtC); (try subst y_fC); (try subst y_nF); (try subst y_acC); (try subst y_nAc))
          all_goals (try (repeat' first | with_reducible exact obl0 | with_reducible refine obl1 ?_ ?_))
          all_goals (try first | with_reducible exact True.intro | (refine ob_pc hj ?_; (try rw [hj]); first | exact c_Steps _ _ _ _ | exact c_Down _ _ _ _) | (refine ob_pcn hj ?_; (try rw [hj]); first | exact c_Steps _ _ _ _ | exact c_Down _ _ _ _) | ((first | refine ob_le hj ?_ | refine ob_lei hj ?_ | refine ob_inb hj ?_ | refine ob_pos hj ?_ | refine ob_ne0 hj ?_ | refine ob_eqb hj ?_); (first | rfl | first | omega | (simp only [hj, std]; split <;> omega) | (simp (disch := omega) only [hj, std, cmpI, cmpB, satB, add64, sub64, ite0, pl0, pl2, pl3, sb0, if_true, if_false, eq_self, hDl, hGl] <;> omega) | (simp (disch := omega) [hj, std, cmpI, cmpB, satB, add64, sub64, ite0, pl0, pl2, pl3, sb0, if_true, if_false, eq_self, hDl, hGl] <;> omega))) | ((simp (disch := omega) only [hj, std, add64]; exact ⟨by omega, by omega, i3, by trivial, by trivial, by trivial, by trivial, A, hN, hD, hI0⟩)) | ((simp (disch := omega) only [hj, std, add64, sub64, ite0, f0]; omega)) | ((refine ob_vals hj ?_; first | exact cV1 | exact cV2)))
    · generalize y_stS : @stS = x_stS at *
      generalize y_stE : @stE = x_stE at *
      generalize y_stD : @stD = x_stD at *
      generalize y_mayV : @mayV = x_mayV at *
      generalize y_amU : @amU = x_amU at *
      generalize y_amC : @amC = x_amC at *
      generalize y_amN : @amN = x_amN at *
      generalize y_gtN : @gtN = x_gtN at *
      generalize y_gtC : @gtC = x_gtC at *
      generalize y_fC : @fC = x_fC at *
      generalize y_nF : @nF = x_nF at *
      generalize y_acC : @acC = x_acC at *
      generalize y_nAc : @nAc = x_nAc at *
      (repeat' first | ((first | with_reducible refine tr_cut (fun h => ?_) (fun h => ?_) | refine aw_condj (by cbv) (fun h => ?_) (fun h => ?_)) <;> (try simp (disch := omega) only [hj, std, cmpI, cmpB, satB, Bool.not_eq_true, Bool.not_eq_false, decide_eq_true_eq, decide_eq_false_iff_not, beq_iff_eq, bne_iff_ne, bne_eq_false_iff_eq, beq_eq_false_iff_ne, ne_eq, reduceCtorEq, not_true_eq_false, not_false_eq_true, pl0, if_true, cmpS_eq, cmpS_neq, Bool.not_eq_eq_eq_not, Bool.not_true, Bool.not_false, Bool.not_eq_true', ite0, e0, e1, add64, sub64] at h) <;> (try (exfalso; omega))) | (with_reducible refine tr_alt (fun h => ?_) ?_ <;> (try (exfalso; omega))) | (with_reducible refine tr_ob ?_ ?_) | (with_reducible refine tr_done ?_) | (refine aw_tr hj tok (bookF x_stS x_stE x_stD x_mayV x_amU x_amC x_amN x_gtN x_gtC) (by cbv) ?_) | (refine aw_seq fun K hK => ?_) | (refine aw_tr1 hj tok (bookF x_stS x_stE x_stD x_mayV x_amU x_amC x_amN x_gtN x_gtC) (by cbv) ?_) | (refine aw_skip ?_) | (refine aw_block ?_) | (refine aw_exit ?_) | (refine aw_ret ⟨.inr rfl, ret_okj hj (by cbv) ?_ ?_⟩) | (refine aw_ret ?_) | (with_reducible refine th_n ?_) | (with_reducible refine th_r ?_) | (with_reducible refine th_x ?_) | (with_reducible refine blk_n ?_) | (with_reducible refine blk_r ?_) | (with_reducible refine blk_x ?_) | (with_reducible refine blk_y rfl ?_) | (refine ⟨.inr rfl, ret_okj hj (by cbv) ?_ ?_⟩) | (refine ⟨.inl rfl, ret_okj hj (by cbv) ?_ ?_⟩) | ((with_reducible refine ⟨(_, _, _, _, _, _, _, _, _), by cbv, ?_, ?_⟩)) | ((with_reducible refine ⟨(_, _, _, _, _, _, _, _), by cbv, ?_, ?_⟩)) | ((with_reducible refine ⟨(_, _, _, _), by cbv, ?_, ?_⟩)) | ((with_reducible refine ⟨(_, _, _), by cbv, ?_, ?_⟩)) | ((with_reducible refine ⟨(_, _), by cbv, ?_, ?_⟩)) | ((with_reducible refine ⟨_, by cbv, ?_, ?_⟩)) | (with_reducible apply_assumption -symm -exfalso only [*]))
      all_goals ((try subst y_stS); (try subst y_stE); (try subst y_stD); (try subst y_mayV); (try subst y_amU); (try subst y_amC); (try subst y_amN); (try subst y_gtN); (try subst y_gtC); (try subst y_fC); (try subst y_nF); (try subst y_acC); (try subst y_nAc))
      all_goals (try (repeat' first | with_reducible exact obl0 | with_reducible refine obl1 ?_ ?_))
      all_goals (try first | with_reducible exact True.intro | (refine ob_pc hj ?_; (try rw [hj]); first | exact c_awake10) | (refine ob_pcn hj ?_; (try rw [hj]); first | exact c_awake10) | ((first | refine ob_le hj ?_ | refine ob_lei hj ?_ | refine ob_inb hj ?_ | refine ob_pos hj ?_ | refine ob_ne0 hj ?_ | refine ob_eqb hj ?_); (first | rfl | first | omega | (simp only [hj, std]; split <;> omega) | (simp (disch := omega) only [hj, std, cmpI, cmpB, satB, add64, sub64, ite0, pl0, pl2, pl3, sb0, if_true, if_false, eq_self, hl, e1] <;> omega) | (simp (disch := omega) [hj, std, cmpI, cmpB, satB, add64, sub64, ite0, pl0, pl2, pl3, sb0, if_true, if_false, eq_self, hl, e1] <;> omega))) | (exact rfl) | ((refine ob_ok hj ?_; simp only [hj, std, ite0]; first | exact o0 | exact o1)))
  · generalize y_stS : @stS = x_stS at *
    generalize y_stE : @stE = x_stE at *
    generalize y_stD : @stD = x_stD at *
    generalize y_mayV : @mayV = x_mayV at *
    generalize y_amU : @amU = x_amU at *
    generalize y_amC : @amC = x_amC at *
    generalize y_amN : @amN = x_amN at *
    generalize y_gtN : @gtN = x_gtN at *
    generalize y_gtC : @gtC = x_gtC at *
    generalize y_fC : @fC = x_fC at *
    generalize y_nF : @nF = x_nF at *
    generalize y_acC : @acC = x_acC at *
    generalize y_nAc : @nAc = x_nAc at *
    (repeat' first | ((first | with_reducible refine tr_cut (fun h => ?_) (fun h => ?_) | refine aw_condj (by cbv) (fun h => ?_) (fun h => ?_)) <;> (try simp (disch := omega) only [hj, std, cmpI, cmpB, satB, Bool.not_eq_true, Bool.not_eq_false, decide_eq_true_eq, decide_eq_false_iff_not, beq_iff_eq, bne_iff_ne, bne_eq_false_iff_eq, beq_eq_false_iff_ne, ne_eq, reduceCtorEq, not_true_eq_false, not_false_eq_true, pl0, if_true, cmpS_eq, cmpS_neq, Bool.not_eq_eq_eq_not, Bool.not_true, Bool.not_false, Bool.not_eq_true', add64, sub64] at h) <;> (try (exfalso; omega))) | (with_reducible refine tr_alt (fun h => ?_) ?_ <;> (try (exfalso; omega))) | (with_reducible refine tr_ob ?_ ?_) | (with_reducible refine tr_done ?_) | (refine aw_tr hj tok (bookF x_stS x_stE x_stD x_mayV x_amU x_amC x_amN x_gtN x_gtC) (by cbv) ?_) | (refine aw_seq fun K hK => ?_) | (refine aw_tr1 hj tok (bookF x_stS x_stE x_stD x_mayV x_amU x_amC x_amN x_gtN x_gtC) (by cbv) ?_) | (refine aw_skip ?_) | (refine aw_block ?_) | (refine aw_exit ?_) | (refine aw_ret ⟨.inr rfl, ret_okj hj (by cbv) ?_ ?_⟩) | (refine aw_ret ?_) | (with_reducible refine th_n ?_) | (with_reducible refine th_r ?_) | (with_reducible refine th_x ?_) | (with_reducible refine blk_n ?_) | (with_reducible refine blk_r ?_) | (with_reducible refine blk_x ?_) | (with_reducible refine blk_y rfl ?_) | (refine ⟨.inr rfl, ret_okj hj (by cbv) ?_ ?_⟩) | (refine ⟨.inl rfl, ret_okj hj (by cbv) ?_ ?_⟩) | ((with_reducible refine ⟨(_, _, _, _, _, _, _, _, _), by cbv, ?_, ?_⟩)) | ((with_reducible refine ⟨(_, _, _, _, _, _, _, _), by cbv, ?_, ?_⟩)) | ((with_reducible refine ⟨(_, _, _, _), by cbv, ?_, ?_⟩)) | ((with_reducible refine ⟨(_, _, _), by cbv, ?_, ?_⟩)) | ((with_reducible refine ⟨(_, _), by cbv, ?_, ?_⟩)) | ((with_reducible refine ⟨_, by cbv, ?_, ?_⟩)) | (with_reducible apply_assumption -symm -exfalso only [*]))
    all_goals ((try subst y_stS); (try subst y_stE); (try subst y_stD); (try subst y_mayV); (try subst y_amU); (try subst y_amC); (try subst y_amN); (try subst y_gtN); (try subst y_gtC); (try subst y_fC); (try subst y_nF); (try subst y_acC); (try subst y_nAc))
    all_goals (try (repeat' first | with_reducible exact obl0 | with_reducible refine obl1 ?_ ?_))
    all_goals (try first | with_reducible exact True.intro | (refine ob_pc hj ?_; (try rw [hj]); first | exact c_awake10) | (refine ob_pcn hj ?_; (try rw [hj]); first | exact c_awake10) | ((first | refine ob_le hj ?_ | refine ob_lei hj ?_ | refine ob_inb hj ?_ | refine ob_pos hj ?_ | refine ob_ne0 hj ?_ | refine ob_eqb hj ?_); (first | rfl | first | omega | (simp only [hj, std]; split <;> omega) | (simp (disch := omega) only [hj, std, cmpI, cmpB, satB, add64, sub64, ite0, pl0, pl2, pl3, sb0, if_true, if_false, eq_self] <;> omega) | (simp (disch := omega) [hj, std, cmpI, cmpB, satB, add64, sub64, ite0, pl0, pl2, pl3, sb0, if_true, if_false, eq_self] <;> omega))) | (exact rfl))
end Go.Proofs.Ytnmlcfjljeccnaa.A
/- FaultPlays: the walk, as the row's step asks for it. -/
set_option linter.unusedSimpArgs false
set_option linter.unusedVariables false
set_option maxRecDepth 100000
set_option maxHeartbeats 4000000
namespace Go.Proofs.Ytnmlcfjljeccnaa.A
open Go
abbrev RFault : Rd Fl := RRec2 RInt RInt
abbrev RAct : Rd Ac := RRec2 RInt (RSl 2 16 RFault)
theorem rdc_faults : RdC (RSl 2 16 RFault) fun l => [.sl (nF l) (fC l)] :=
  rdc_to' (rdc_sl (f := fun r : Fl => [vI r.1] ++ [vI r.2]) (rdc_rec2 rdc_int rdc_int) (fun _ => rfl)) fun l => by show [C.sl l.length _] = _; rw [nF_eq]; rfl
theorem rdc_act : RdC RAct fun a => [vI a.1] ++ [.sl (nF a.2) (fC a.2)] := rdc_rec2 rdc_int rdc_faults
end Go.Proofs.Ytnmlcfjljeccnaa.A
namespace Go.Proofs.Ytnmlcfjljeccnaa
open Go Go.RowKit
theorem faultPlays_walk (w : World) (a0 : Option Addr) (len0 cap0 : Nat) (x0 : List A.Ac) (R0 : RSl 2 32 A.RAct w [.slice a0 len0 cap0] x0) :
    Calls Try.prog 3 #[.slice a0 len0 cap0] w fun e w' => e = .returned (.bool true) ∧ Below w.heap.size w w' := by
  have hb := A.sl_bound' R0
  have hf : ∀ a ∈ x0, a.2.length ≤ 140737488351232 := fun a ha => by
    obtain ⟨cs', d0, d1, _, _, h3⟩ := A.sl_mem' R0 a ha
    have := A.sl_bound' h3
    omega
  exact A.walk_of_pc (vs := [.slice a0 len0 cap0]) (A.pc_FaultPlaysL x0 (by omega) hf) (by simp [A.Arg.asRoot]) (fun b => b < w.heap.size) (fun _ h => h) rfl (fun i h h2 => by
    have h3 : i < 1 := h
    obtain rfl : i = 0 := by omega
    obtain ⟨n, rfl, hc⟩ := A.arg_sl A.rdc_act (fun _ => rfl) R0
    exact ⟨_, rfl, by rw [A.nAc_eq]; exact hc⟩)
end Go.Proofs.Ytnmlcfjljeccnaa
