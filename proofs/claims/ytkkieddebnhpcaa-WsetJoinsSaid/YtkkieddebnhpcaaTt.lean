/- The table of types. Written by wip/tools/tt.py. -/
import Derived.Test.YtkkieddebnhpcaaProg
import Derived.Test.YtkkieddebnhpcaaAm26
namespace Go.Proofs.Ytkkieddebnhpcaa.A
open Go
def ti1 : TI := { desc := (Go.TypeDesc.func #[] #[] false), size := 1, bytes := 8, zero := .nilFunc, cells := [.raw] }
def ti2 : TI := { desc := (Go.TypeDesc.int Go.IntKind.i64), size := 1, bytes := 8, zero := .int .i64 0, cells := [.int .i64] }
def ti3 : TI := { desc := (Go.TypeDesc.int Go.IntKind.i64), size := 1, bytes := 8, zero := .int .i64 0, cells := [.int .i64] }
def ti4 : TI := { desc := Go.TypeDesc.bool, size := 1, bytes := 1, zero := .bool false, cells := [.bool] }
def ti5 : TI := { desc := (Go.TypeDesc.int Go.IntKind.u8), size := 1, bytes := 1, zero := .int .u8 0, cells := [.int .u8] }
def ti6 : TI := { desc := (Go.TypeDesc.int Go.IntKind.u8), size := 1, bytes := 1, zero := .int .u8 0, cells := [.int .u8] }
def ti7 : TI := { desc := (Go.TypeDesc.struct #[{ name := "x", type := 2, offset := 0, embedded := false, tag := "", pkgPath := "runtime", byteOffset := 0 }, { name := "y", type := 3, offset := 1, embedded := false, tag := "", pkgPath := "runtime", byteOffset := 8 }, { name := "signed", type := 4, offset := 2, embedded := false, tag := "", pkgPath := "runtime", byteOffset := 16 }, { name := "code", type := 6, offset := 3, embedded := false, tag := "", pkgPath := "runtime", byteOffset := 17 }]), size := 4, bytes := 24, zero := .agg #[.int .i64 0, .int .i64 0, .bool false, .int .u8 0], cells := [.int .i64, .int .i64, .bool, .int .u8] }
def ti8 : TI := { desc := (Go.TypeDesc.struct #[{ name := "x", type := 2, offset := 0, embedded := false, tag := "", pkgPath := "runtime", byteOffset := 0 }, { name := "y", type := 3, offset := 1, embedded := false, tag := "", pkgPath := "runtime", byteOffset := 8 }, { name := "signed", type := 4, offset := 2, embedded := false, tag := "", pkgPath := "runtime", byteOffset := 16 }, { name := "code", type := 6, offset := 3, embedded := false, tag := "", pkgPath := "runtime", byteOffset := 17 }]), size := 4, bytes := 24, zero := .agg #[.int .i64 0, .int .i64 0, .bool false, .int .u8 0], cells := [.int .i64, .int .i64, .bool, .int .u8] }
def ti9 : TI := { desc := Go.TypeDesc.string, size := 1, bytes := 16, zero := .string ByteArray.empty, cells := [.str] }
def ti10 : TI := { desc := Go.TypeDesc.string, size := 1, bytes := 16, zero := .string ByteArray.empty, cells := [.str] }
def ti11 : TI := { desc := Go.TypeDesc.string, size := 1, bytes := 16, zero := .string ByteArray.empty, cells := [.str] }
def ti12 : TI := { desc := (Go.TypeDesc.int Go.IntKind.u64), size := 1, bytes := 8, zero := .int .u64 0, cells := [.int .u64] }
def ti13 : TI := { desc := (Go.TypeDesc.struct #[{ name := "msg", type := 9, offset := 0, embedded := false, tag := "", pkgPath := "runtime", byteOffset := 0 }, { name := "addr", type := 12, offset := 1, embedded := false, tag := "", pkgPath := "runtime", byteOffset := 16 }]), size := 2, bytes := 24, zero := .agg #[.string ByteArray.empty, .int .u64 0], cells := [.str, .int .u64] }
def ti14 : TI := { desc := (Go.TypeDesc.struct #[{ name := "msg", type := 9, offset := 0, embedded := false, tag := "", pkgPath := "runtime", byteOffset := 0 }, { name := "addr", type := 12, offset := 1, embedded := false, tag := "", pkgPath := "runtime", byteOffset := 16 }]), size := 2, bytes := 24, zero := .agg #[.string ByteArray.empty, .int .u64 0], cells := [.str, .int .u64] }
def ti15 : TI := { desc := (Go.TypeDesc.pointer 158), size := 1, bytes := 8, zero := .pointer none, cells := [.raw] }
def ti16 : TI := { desc := (Go.TypeDesc.pointer 161), size := 1, bytes := 8, zero := .pointer none, cells := [.raw] }
def ti17 : TI := { desc := (Go.TypeDesc.pointer 169), size := 1, bytes := 8, zero := .pointer none, cells := [.raw] }
def ti18 : TI := { desc := (Go.TypeDesc.struct #[{ name := "typ", type := 17, offset := 0, embedded := false, tag := "", pkgPath := "internal/runtime/maps", byteOffset := 0 }]), size := 1, bytes := 8, zero := .agg #[.pointer none], cells := [.raw] }
def ti19 : TI := { desc := (Go.TypeDesc.struct #[{ name := "typ", type := 17, offset := 0, embedded := false, tag := "", pkgPath := "internal/runtime/maps", byteOffset := 0 }]), size := 1, bytes := 8, zero := .agg #[.pointer none], cells := [.raw] }
def ti20 : TI := { desc := (Go.TypeDesc.interface #[]), size := 1, bytes := 16, zero := .nilIface, cells := [.raw] }
def ti21 : TI := { desc := (Go.TypeDesc.int Go.IntKind.i32), size := 1, bytes := 4, zero := .int .i32 0, cells := [.int .i32] }
def ti22 : TI := { desc := (Go.TypeDesc.slice 9), size := 1, bytes := 24, zero := .slice none 0 0, cells := [.sl] }
def ti23 : TI := { desc := (Go.TypeDesc.func #[22] #[4] false), size := 1, bytes := 8, zero := .nilFunc, cells := [.raw] }
def ti24 : TI := { desc := (Go.TypeDesc.func #[] #[4] false), size := 1, bytes := 8, zero := .nilFunc, cells := [.raw] }
def ti25 : TI := { desc := (Go.TypeDesc.func #[22] #[22] false), size := 1, bytes := 8, zero := .nilFunc, cells := [.raw] }
def ti27 : TI := { desc := (Go.TypeDesc.func #[3, 22, 22] #[22, 4] false), size := 1, bytes := 8, zero := .nilFunc, cells := [.raw] }
def ti28 : TI := { desc := (Go.TypeDesc.func #[22, 22] #[4] false), size := 1, bytes := 8, zero := .nilFunc, cells := [.raw] }
def ti29 : TI := { desc := (Go.TypeDesc.func #[3, 22, 22] #[22] false), size := 1, bytes := 8, zero := .nilFunc, cells := [.raw] }
def ti30 : TI := { desc := (Go.TypeDesc.func #[3, 22, 22] #[4] false), size := 1, bytes := 8, zero := .nilFunc, cells := [.raw] }
def ti31 : TI := { desc := (Go.TypeDesc.slice 5), size := 1, bytes := 24, zero := .slice none 0 0, cells := [.sl] }
def ti32 : TI := { desc := (Go.TypeDesc.func #[3, 3] #[4] false), size := 1, bytes := 8, zero := .nilFunc, cells := [.raw] }
def ti33 : TI := { desc := (Go.TypeDesc.func #[22] #[22] true), size := 1, bytes := 8, zero := .nilFunc, cells := [.raw] }
def ti34 : TI := { desc := (Go.TypeDesc.func #[22, 9] #[4] false), size := 1, bytes := 8, zero := .nilFunc, cells := [.raw] }
def ti35 : TI := { desc := (Go.TypeDesc.func #[22, 22, 9] #[4] false), size := 1, bytes := 8, zero := .nilFunc, cells := [.raw] }
def ti36 : TI := { desc := (Go.TypeDesc.func #[92] #[22] true), size := 1, bytes := 8, zero := .nilFunc, cells := [.raw] }
def ti37 : TI := { desc := (Go.TypeDesc.func #[22, 22] #[22] false), size := 1, bytes := 8, zero := .nilFunc, cells := [.raw] }
def ti38 : TI := { desc := (Go.TypeDesc.func #[22, 22, 22] #[4] false), size := 1, bytes := 8, zero := .nilFunc, cells := [.raw] }
def ti39 : TI := { desc := (Go.TypeDesc.slice 51), size := 1, bytes := 24, zero := .slice none 0 0, cells := [.sl] }
def ti40 : TI := { desc := (Go.TypeDesc.func #[39] #[4] false), size := 1, bytes := 8, zero := .nilFunc, cells := [.raw] }
def ti41 : TI := { desc := (Go.TypeDesc.pointer 96), size := 1, bytes := 8, zero := .pointer none, cells := [.raw] }
def ti42 : TI := { desc := (Go.TypeDesc.func #[] #[41] false), size := 1, bytes := 8, zero := .nilFunc, cells := [.raw] }
def ti43 : TI := { desc := (Go.TypeDesc.slice 57), size := 1, bytes := 24, zero := .slice none 0 0, cells := [.sl] }
def ti44 : TI := { desc := (Go.TypeDesc.slice 99), size := 1, bytes := 24, zero := .slice none 0 0, cells := [.sl] }
def ti45 : TI := { desc := (Go.TypeDesc.struct #[{ name := "Now", type := 43, offset := 0, embedded := false, tag := "", pkgPath := "", byteOffset := 0 }, { name := "Safe", type := 43, offset := 1, embedded := false, tag := "", pkgPath := "", byteOffset := 24 }, { name := "Ops", type := 44, offset := 2, embedded := false, tag := "", pkgPath := "", byteOffset := 48 }]), size := 3, bytes := 72, zero := .agg #[.slice none 0 0, .slice none 0 0, .slice none 0 0], cells := [.sl, .sl, .sl] }
def ti46 : TI := { desc := (Go.TypeDesc.struct #[{ name := "Now", type := 43, offset := 0, embedded := false, tag := "", pkgPath := "", byteOffset := 0 }, { name := "Safe", type := 43, offset := 1, embedded := false, tag := "", pkgPath := "", byteOffset := 24 }, { name := "Ops", type := 44, offset := 2, embedded := false, tag := "", pkgPath := "", byteOffset := 48 }]), size := 3, bytes := 72, zero := .agg #[.slice none 0 0, .slice none 0 0, .slice none 0 0], cells := [.sl, .sl, .sl] }
def ti48 : TI := { desc := (Go.TypeDesc.func #[41, 46, 51] #[46, 4] false), size := 1, bytes := 8, zero := .nilFunc, cells := [.raw] }
def ti49 : TI := { desc := (Go.TypeDesc.slice 4), size := 1, bytes := 24, zero := .slice none 0 0, cells := [.sl] }
def ti50 : TI := { desc := (Go.TypeDesc.struct #[{ name := "Kind", type := 3, offset := 0, embedded := false, tag := "", pkgPath := "", byteOffset := 0 }, { name := "A", type := 9, offset := 1, embedded := false, tag := "", pkgPath := "", byteOffset := 8 }, { name := "B", type := 9, offset := 2, embedded := false, tag := "", pkgPath := "", byteOffset := 24 }, { name := "N", type := 3, offset := 3, embedded := false, tag := "", pkgPath := "", byteOffset := 40 }, { name := "Keep", type := 49, offset := 4, embedded := false, tag := "", pkgPath := "", byteOffset := 48 }]), size := 5, bytes := 72, zero := .agg #[.int .i64 0, .string ByteArray.empty, .string ByteArray.empty, .int .i64 0, .slice none 0 0], cells := [.int .i64, .str, .str, .int .i64, .sl] }
def ti51 : TI := { desc := (Go.TypeDesc.struct #[{ name := "Kind", type := 3, offset := 0, embedded := false, tag := "", pkgPath := "", byteOffset := 0 }, { name := "A", type := 9, offset := 1, embedded := false, tag := "", pkgPath := "", byteOffset := 8 }, { name := "B", type := 9, offset := 2, embedded := false, tag := "", pkgPath := "", byteOffset := 24 }, { name := "N", type := 3, offset := 3, embedded := false, tag := "", pkgPath := "", byteOffset := 40 }, { name := "Keep", type := 49, offset := 4, embedded := false, tag := "", pkgPath := "", byteOffset := 48 }]), size := 5, bytes := 72, zero := .agg #[.int .i64 0, .string ByteArray.empty, .string ByteArray.empty, .int .i64 0, .slice none 0 0], cells := [.int .i64, .str, .str, .int .i64, .sl] }
def ti52 : TI := { desc := (Go.TypeDesc.func #[] #[22] false), size := 1, bytes := 8, zero := .nilFunc, cells := [.raw] }
def ti53 : TI := { desc := (Go.TypeDesc.func #[] #[3] false), size := 1, bytes := 8, zero := .nilFunc, cells := [.raw] }
def ti55 : TI := { desc := (Go.TypeDesc.func #[9] #[3, 4] false), size := 1, bytes := 8, zero := .nilFunc, cells := [.raw] }
def ti56 : TI := { desc := (Go.TypeDesc.struct #[{ name := "Name", type := 9, offset := 0, embedded := false, tag := "", pkgPath := "", byteOffset := 0 }, { name := "N", type := 3, offset := 1, embedded := false, tag := "", pkgPath := "", byteOffset := 16 }]), size := 2, bytes := 24, zero := .agg #[.string ByteArray.empty, .int .i64 0], cells := [.str, .int .i64] }
def ti57 : TI := { desc := (Go.TypeDesc.struct #[{ name := "Name", type := 9, offset := 0, embedded := false, tag := "", pkgPath := "", byteOffset := 0 }, { name := "N", type := 3, offset := 1, embedded := false, tag := "", pkgPath := "", byteOffset := 16 }]), size := 2, bytes := 24, zero := .agg #[.string ByteArray.empty, .int .i64 0], cells := [.str, .int .i64] }
def ti58 : TI := { desc := (Go.TypeDesc.func #[43, 9] #[3] false), size := 1, bytes := 8, zero := .nilFunc, cells := [.raw] }
def ti59 : TI := { desc := (Go.TypeDesc.func #[39, 9] #[4] false), size := 1, bytes := 8, zero := .nilFunc, cells := [.raw] }
def ti60 : TI := { desc := (Go.TypeDesc.func #[49] #[] true), size := 1, bytes := 8, zero := .nilFunc, cells := [.raw] }
def ti61 : TI := { desc := (Go.TypeDesc.func #[9] #[4] false), size := 1, bytes := 8, zero := .nilFunc, cells := [.raw] }
def ti62 : TI := { desc := (Go.TypeDesc.slice 74), size := 1, bytes := 24, zero := .slice none 0 0, cells := [.sl] }
def ti63 : TI := { desc := (Go.TypeDesc.slice 3), size := 1, bytes := 24, zero := .slice none 0 0, cells := [.sl] }
def ti64 : TI := { desc := (Go.TypeDesc.struct #[{ name := "Keep", type := 49, offset := 0, embedded := false, tag := "", pkgPath := "", byteOffset := 0 }, { name := "Sizes", type := 63, offset := 1, embedded := false, tag := "", pkgPath := "", byteOffset := 24 }, { name := "Cuts", type := 63, offset := 2, embedded := false, tag := "", pkgPath := "", byteOffset := 48 }]), size := 3, bytes := 72, zero := .agg #[.slice none 0 0, .slice none 0 0, .slice none 0 0], cells := [.sl, .sl, .sl] }
def ti65 : TI := { desc := (Go.TypeDesc.struct #[{ name := "Keep", type := 49, offset := 0, embedded := false, tag := "", pkgPath := "", byteOffset := 0 }, { name := "Sizes", type := 63, offset := 1, embedded := false, tag := "", pkgPath := "", byteOffset := 24 }, { name := "Cuts", type := 63, offset := 2, embedded := false, tag := "", pkgPath := "", byteOffset := 48 }]), size := 3, bytes := 72, zero := .agg #[.slice none 0 0, .slice none 0 0, .slice none 0 0], cells := [.sl, .sl, .sl] }
def ti66 : TI := { desc := (Go.TypeDesc.func #[62] #[3] false), size := 1, bytes := 8, zero := .nilFunc, cells := [.raw] }
def ti67 : TI := { desc := (Go.TypeDesc.pointer 82), size := 1, bytes := 8, zero := .pointer none, cells := [.raw] }
def ti68 : TI := { desc := (Go.TypeDesc.func #[3] #[67] false), size := 1, bytes := 8, zero := .nilFunc, cells := [.raw] }
def ti69 : TI := { desc := (Go.TypeDesc.int Go.IntKind.i64), size := 1, bytes := 8, zero := .int .i64 0, cells := [.int .i64] }
def ti70 : TI := { desc := (Go.TypeDesc.func #[9] #[69] false), size := 1, bytes := 8, zero := .nilFunc, cells := [.raw] }
def ti71 : TI := { desc := (Go.TypeDesc.func #[9, 110] #[69] true), size := 1, bytes := 8, zero := .nilFunc, cells := [.raw] }
def ti72 : TI := { desc := (Go.TypeDesc.func #[] #[69] false), size := 1, bytes := 8, zero := .nilFunc, cells := [.raw] }
def ti73 : TI := { desc := (Go.TypeDesc.struct #[{ name := "Kind", type := 3, offset := 0, embedded := false, tag := "", pkgPath := "", byteOffset := 0 }, { name := "A", type := 9, offset := 1, embedded := false, tag := "", pkgPath := "", byteOffset := 8 }, { name := "B", type := 9, offset := 2, embedded := false, tag := "", pkgPath := "", byteOffset := 24 }, { name := "Data", type := 31, offset := 3, embedded := false, tag := "", pkgPath := "", byteOffset := 40 }, { name := "N", type := 3, offset := 4, embedded := false, tag := "", pkgPath := "", byteOffset := 64 }, { name := "Kept", type := 49, offset := 5, embedded := false, tag := "", pkgPath := "", byteOffset := 72 }, { name := "Sizes", type := 63, offset := 6, embedded := false, tag := "", pkgPath := "", byteOffset := 96 }, { name := "Cuts", type := 63, offset := 7, embedded := false, tag := "", pkgPath := "", byteOffset := 120 }]), size := 8, bytes := 144, zero := .agg #[.int .i64 0, .string ByteArray.empty, .string ByteArray.empty, .slice none 0 0, .int .i64 0, .slice none 0 0, .slice none 0 0, .slice none 0 0], cells := [.int .i64, .str, .str, .sl, .int .i64, .sl, .sl, .sl] }
def ti74 : TI := { desc := (Go.TypeDesc.struct #[{ name := "Kind", type := 3, offset := 0, embedded := false, tag := "", pkgPath := "", byteOffset := 0 }, { name := "A", type := 9, offset := 1, embedded := false, tag := "", pkgPath := "", byteOffset := 8 }, { name := "B", type := 9, offset := 2, embedded := false, tag := "", pkgPath := "", byteOffset := 24 }, { name := "Data", type := 31, offset := 3, embedded := false, tag := "", pkgPath := "", byteOffset := 40 }, { name := "N", type := 3, offset := 4, embedded := false, tag := "", pkgPath := "", byteOffset := 64 }, { name := "Kept", type := 49, offset := 5, embedded := false, tag := "", pkgPath := "", byteOffset := 72 }, { name := "Sizes", type := 63, offset := 6, embedded := false, tag := "", pkgPath := "", byteOffset := 96 }, { name := "Cuts", type := 63, offset := 7, embedded := false, tag := "", pkgPath := "", byteOffset := 120 }]), size := 8, bytes := 144, zero := .agg #[.int .i64 0, .string ByteArray.empty, .string ByteArray.empty, .slice none 0 0, .int .i64 0, .slice none 0 0, .slice none 0 0, .slice none 0 0], cells := [.int .i64, .str, .str, .sl, .int .i64, .sl, .sl, .sl] }
def ti75 : TI := { desc := (Go.TypeDesc.func #[67, 74] #[3] false), size := 1, bytes := 8, zero := .nilFunc, cells := [.raw] }
def ti76 : TI := { desc := (Go.TypeDesc.func #[65] #[] false), size := 1, bytes := 8, zero := .nilFunc, cells := [.raw] }
def ti78 : TI := { desc := (Go.TypeDesc.func #[9] #[31, 69] false), size := 1, bytes := 8, zero := .nilFunc, cells := [.raw] }
def ti79 : TI := { desc := (Go.TypeDesc.pointer 119), size := 1, bytes := 8, zero := .pointer none, cells := [.raw] }
def ti80 : TI := { desc := (Go.TypeDesc.map 3 107), size := 1, bytes := 8, zero := .map none, cells := [.raw] }
def ti81 : TI := { desc := (Go.TypeDesc.struct #[{ name := "Meter", type := 79, offset := 0, embedded := true, tag := "", pkgPath := "", byteOffset := 0 }, { name := "names", type := 41, offset := 1, embedded := false, tag := "", pkgPath := "repertory/disk", byteOffset := 8 }, { name := "files", type := 80, offset := 2, embedded := false, tag := "", pkgPath := "repertory/disk", byteOffset := 16 }, { name := "next", type := 3, offset := 3, embedded := false, tag := "", pkgPath := "repertory/disk", byteOffset := 24 }, { name := "room", type := 3, offset := 4, embedded := false, tag := "", pkgPath := "repertory/disk", byteOffset := 32 }]), size := 5, bytes := 40, zero := .agg #[.pointer none, .pointer none, .map none, .int .i64 0, .int .i64 0], cells := [.raw, .raw, .raw, .int .i64, .int .i64] }
def ti82 : TI := { desc := (Go.TypeDesc.struct #[{ name := "Meter", type := 79, offset := 0, embedded := true, tag := "", pkgPath := "", byteOffset := 0 }, { name := "names", type := 41, offset := 1, embedded := false, tag := "", pkgPath := "repertory/disk", byteOffset := 8 }, { name := "files", type := 80, offset := 2, embedded := false, tag := "", pkgPath := "repertory/disk", byteOffset := 16 }, { name := "next", type := 3, offset := 3, embedded := false, tag := "", pkgPath := "repertory/disk", byteOffset := 24 }, { name := "room", type := 3, offset := 4, embedded := false, tag := "", pkgPath := "repertory/disk", byteOffset := 32 }]), size := 5, bytes := 40, zero := .agg #[.pointer none, .pointer none, .map none, .int .i64 0, .int .i64 0], cells := [.raw, .raw, .raw, .int .i64, .int .i64] }
def ti83 : TI := { desc := (Go.TypeDesc.slice 115), size := 1, bytes := 24, zero := .slice none 0 0, cells := [.sl] }
def ti84 : TI := { desc := (Go.TypeDesc.func #[] #[83] false), size := 1, bytes := 8, zero := .nilFunc, cells := [.raw] }
def ti85 : TI := { desc := (Go.TypeDesc.func #[31, 62, 65] #[4] false), size := 1, bytes := 8, zero := .nilFunc, cells := [.raw] }
def ti86 : TI := { desc := (Go.TypeDesc.func #[22, 9] #[22] false), size := 1, bytes := 8, zero := .nilFunc, cells := [.raw] }
def ti87 : TI := { desc := (Go.TypeDesc.map 9 3), size := 1, bytes := 8, zero := .map none, cells := [.raw] }
def ti88 : TI := { desc := (Go.TypeDesc.func #[3, 22] #[9] true), size := 1, bytes := 8, zero := .nilFunc, cells := [.raw] }
def ti89 : TI := { desc := (Go.TypeDesc.func #[9, 3] #[9] false), size := 1, bytes := 8, zero := .nilFunc, cells := [.raw] }
def ti90 : TI := { desc := (Go.TypeDesc.func #[22] #[] false), size := 1, bytes := 8, zero := .nilFunc, cells := [.raw] }
def ti91 : TI := { desc := (Go.TypeDesc.func #[9, 9] #[4] false), size := 1, bytes := 8, zero := .nilFunc, cells := [.raw] }
def ti92 : TI := { desc := (Go.TypeDesc.slice 22), size := 1, bytes := 24, zero := .slice none 0 0, cells := [.sl] }
def ti93 : TI := { desc := (Go.TypeDesc.func #[9, 3] #[4] false), size := 1, bytes := 8, zero := .nilFunc, cells := [.raw] }
def ti94 : TI := { desc := (Go.TypeDesc.slice 103), size := 1, bytes := 24, zero := .slice none 0 0, cells := [.sl] }
def ti95 : TI := { desc := (Go.TypeDesc.struct #[{ name := "now", type := 87, offset := 0, embedded := false, tag := "", pkgPath := "repertory/dir", byteOffset := 0 }, { name := "safe", type := 87, offset := 1, embedded := false, tag := "", pkgPath := "repertory/dir", byteOffset := 8 }, { name := "ops", type := 94, offset := 2, embedded := false, tag := "", pkgPath := "repertory/dir", byteOffset := 16 }]), size := 3, bytes := 40, zero := .agg #[.map none, .map none, .slice none 0 0], cells := [.raw, .raw, .sl] }
def ti96 : TI := { desc := (Go.TypeDesc.struct #[{ name := "now", type := 87, offset := 0, embedded := false, tag := "", pkgPath := "repertory/dir", byteOffset := 0 }, { name := "safe", type := 87, offset := 1, embedded := false, tag := "", pkgPath := "repertory/dir", byteOffset := 8 }, { name := "ops", type := 94, offset := 2, embedded := false, tag := "", pkgPath := "repertory/dir", byteOffset := 16 }]), size := 3, bytes := 40, zero := .agg #[.map none, .map none, .slice none 0 0], cells := [.raw, .raw, .sl] }
def ti97 : TI := { desc := (Go.TypeDesc.func #[46, 49] #[46] false), size := 1, bytes := 8, zero := .nilFunc, cells := [.raw] }
def ti98 : TI := { desc := (Go.TypeDesc.struct #[{ name := "Kind", type := 3, offset := 0, embedded := false, tag := "", pkgPath := "", byteOffset := 0 }, { name := "A", type := 9, offset := 1, embedded := false, tag := "", pkgPath := "", byteOffset := 8 }, { name := "B", type := 9, offset := 2, embedded := false, tag := "", pkgPath := "", byteOffset := 24 }, { name := "N", type := 3, offset := 3, embedded := false, tag := "", pkgPath := "", byteOffset := 40 }]), size := 4, bytes := 48, zero := .agg #[.int .i64 0, .string ByteArray.empty, .string ByteArray.empty, .int .i64 0], cells := [.int .i64, .str, .str, .int .i64] }
def ti99 : TI := { desc := (Go.TypeDesc.struct #[{ name := "Kind", type := 3, offset := 0, embedded := false, tag := "", pkgPath := "", byteOffset := 0 }, { name := "A", type := 9, offset := 1, embedded := false, tag := "", pkgPath := "", byteOffset := 8 }, { name := "B", type := 9, offset := 2, embedded := false, tag := "", pkgPath := "", byteOffset := 24 }, { name := "N", type := 3, offset := 3, embedded := false, tag := "", pkgPath := "", byteOffset := 40 }]), size := 4, bytes := 48, zero := .agg #[.int .i64 0, .string ByteArray.empty, .string ByteArray.empty, .int .i64 0], cells := [.int .i64, .str, .str, .int .i64] }
def ti100 : TI := { desc := (Go.TypeDesc.func #[43, 99] #[4] false), size := 1, bytes := 8, zero := .nilFunc, cells := [.raw] }
def ti101 : TI := { desc := (Go.TypeDesc.func #[46, 99] #[46] false), size := 1, bytes := 8, zero := .nilFunc, cells := [.raw] }
def ti102 : TI := { desc := (Go.TypeDesc.struct #[{ name := "kind", type := 3, offset := 0, embedded := false, tag := "", pkgPath := "repertory/dir", byteOffset := 0 }, { name := "a", type := 9, offset := 1, embedded := false, tag := "", pkgPath := "repertory/dir", byteOffset := 8 }, { name := "b", type := 9, offset := 2, embedded := false, tag := "", pkgPath := "repertory/dir", byteOffset := 24 }, { name := "n", type := 3, offset := 3, embedded := false, tag := "", pkgPath := "repertory/dir", byteOffset := 40 }]), size := 4, bytes := 48, zero := .agg #[.int .i64 0, .string ByteArray.empty, .string ByteArray.empty, .int .i64 0], cells := [.int .i64, .str, .str, .int .i64] }
def ti103 : TI := { desc := (Go.TypeDesc.struct #[{ name := "kind", type := 3, offset := 0, embedded := false, tag := "", pkgPath := "repertory/dir", byteOffset := 0 }, { name := "a", type := 9, offset := 1, embedded := false, tag := "", pkgPath := "repertory/dir", byteOffset := 8 }, { name := "b", type := 9, offset := 2, embedded := false, tag := "", pkgPath := "repertory/dir", byteOffset := 24 }, { name := "n", type := 3, offset := 3, embedded := false, tag := "", pkgPath := "repertory/dir", byteOffset := 40 }]), size := 4, bytes := 48, zero := .agg #[.int .i64 0, .string ByteArray.empty, .string ByteArray.empty, .int .i64 0], cells := [.int .i64, .str, .str, .int .i64] }
def ti104 : TI := { desc := (Go.TypeDesc.func #[87, 103] #[] false), size := 1, bytes := 8, zero := .nilFunc, cells := [.raw] }
def ti105 : TI := { desc := (Go.TypeDesc.func #[87] #[87] false), size := 1, bytes := 8, zero := .nilFunc, cells := [.raw] }
def ti106 : TI := { desc := (Go.TypeDesc.func #[] #[79] false), size := 1, bytes := 8, zero := .nilFunc, cells := [.raw] }
def ti107 : TI := { desc := (Go.TypeDesc.pointer 129), size := 1, bytes := 8, zero := .pointer none, cells := [.raw] }
def ti108 : TI := { desc := (Go.TypeDesc.func #[9] #[107] false), size := 1, bytes := 8, zero := .nilFunc, cells := [.raw] }
def ti109 : TI := { desc := (Go.TypeDesc.func #[31] #[107] true), size := 1, bytes := 8, zero := .nilFunc, cells := [.raw] }
def ti110 : TI := { desc := (Go.TypeDesc.slice 31), size := 1, bytes := 24, zero := .slice none 0 0, cells := [.sl] }
def ti111 : TI := { desc := (Go.TypeDesc.func #[31] #[4] true), size := 1, bytes := 8, zero := .nilFunc, cells := [.raw] }
def ti112 : TI := { desc := (Go.TypeDesc.func #[9, 9] #[69] false), size := 1, bytes := 8, zero := .nilFunc, cells := [.raw] }
def ti113 : TI := { desc := (Go.TypeDesc.func #[83] #[3] true), size := 1, bytes := 8, zero := .nilFunc, cells := [.raw] }
def ti114 : TI := { desc := (Go.TypeDesc.struct #[{ name := "At", type := 3, offset := 0, embedded := false, tag := "", pkgPath := "", byteOffset := 0 }, { name := "Kind", type := 3, offset := 1, embedded := false, tag := "", pkgPath := "", byteOffset := 8 }]), size := 2, bytes := 16, zero := .agg #[.int .i64 0, .int .i64 0], cells := [.int .i64, .int .i64] }
def ti115 : TI := { desc := (Go.TypeDesc.struct #[{ name := "At", type := 3, offset := 0, embedded := false, tag := "", pkgPath := "", byteOffset := 0 }, { name := "Kind", type := 3, offset := 1, embedded := false, tag := "", pkgPath := "", byteOffset := 8 }]), size := 2, bytes := 16, zero := .agg #[.int .i64 0, .int .i64 0], cells := [.int .i64, .int .i64] }
def ti116 : TI := { desc := (Go.TypeDesc.func #[3, 63] #[3] true), size := 1, bytes := 8, zero := .nilFunc, cells := [.raw] }
def ti117 : TI := { desc := (Go.TypeDesc.func #[] #[31] false), size := 1, bytes := 8, zero := .nilFunc, cells := [.raw] }
def ti118 : TI := { desc := (Go.TypeDesc.struct #[{ name := "steps", type := 3, offset := 0, embedded := false, tag := "", pkgPath := "repertory/fault", byteOffset := 0 }, { name := "down", type := 4, offset := 1, embedded := false, tag := "", pkgPath := "repertory/fault", byteOffset := 8 }, { name := "armed", type := 83, offset := 2, embedded := false, tag := "", pkgPath := "repertory/fault", byteOffset := 16 }]), size := 3, bytes := 40, zero := .agg #[.int .i64 0, .bool false, .slice none 0 0], cells := [.int .i64, .bool, .sl] }
def ti119 : TI := { desc := (Go.TypeDesc.struct #[{ name := "steps", type := 3, offset := 0, embedded := false, tag := "", pkgPath := "repertory/fault", byteOffset := 0 }, { name := "down", type := 4, offset := 1, embedded := false, tag := "", pkgPath := "repertory/fault", byteOffset := 8 }, { name := "armed", type := 83, offset := 2, embedded := false, tag := "", pkgPath := "repertory/fault", byteOffset := 16 }]), size := 3, bytes := 40, zero := .agg #[.int .i64 0, .bool false, .slice none 0 0], cells := [.int .i64, .bool, .sl] }
def ti120 : TI := { desc := (Go.TypeDesc.func #[22, 3, 3, 3] #[] false), size := 1, bytes := 8, zero := .nilFunc, cells := [.raw] }
def ti121 : TI := { desc := (Go.TypeDesc.func #[122] #[3] false), size := 1, bytes := 8, zero := .nilFunc, cells := [.raw] }
def ti122 : TI := { desc := (Go.TypeDesc.int Go.IntKind.u64), size := 1, bytes := 8, zero := .int .u64 0, cells := [.int .u64] }
def ti123 : TI := { desc := (Go.TypeDesc.func #[22, 9] #[3] false), size := 1, bytes := 8, zero := .nilFunc, cells := [.raw] }
def ti124 : TI := { desc := (Go.TypeDesc.func #[22, 3] #[22] false), size := 1, bytes := 8, zero := .nilFunc, cells := [.raw] }
def ti125 : TI := { desc := (Go.TypeDesc.func #[103] #[4] false), size := 1, bytes := 8, zero := .nilFunc, cells := [.raw] }
def ti126 : TI := { desc := (Go.TypeDesc.func #[43, 99] #[43] false), size := 1, bytes := 8, zero := .nilFunc, cells := [.raw] }
def ti127 : TI := { desc := (Go.TypeDesc.func #[20] #[20] false), size := 1, bytes := 8, zero := .nilFunc, cells := [.raw] }
def ti128 : TI := { desc := (Go.TypeDesc.struct #[{ name := "b", type := 31, offset := 0, embedded := false, tag := "", pkgPath := "repertory/inode", byteOffset := 0 }, { name := "safe", type := 3, offset := 1, embedded := false, tag := "", pkgPath := "repertory/inode", byteOffset := 24 }]), size := 2, bytes := 32, zero := .agg #[.slice none 0 0, .int .i64 0], cells := [.sl, .int .i64] }
def ti129 : TI := { desc := (Go.TypeDesc.struct #[{ name := "b", type := 31, offset := 0, embedded := false, tag := "", pkgPath := "repertory/inode", byteOffset := 0 }, { name := "safe", type := 3, offset := 1, embedded := false, tag := "", pkgPath := "repertory/inode", byteOffset := 24 }]), size := 2, bytes := 32, zero := .agg #[.slice none 0 0, .int .i64 0], cells := [.sl, .int .i64] }
def ti130 : TI := { desc := (Go.TypeDesc.func #[3] #[4] false), size := 1, bytes := 8, zero := .nilFunc, cells := [.raw] }
def ti131 : TI := { desc := (Go.TypeDesc.func #[3] #[3] false), size := 1, bytes := 8, zero := .nilFunc, cells := [.raw] }
def ti132 : TI := { desc := (Go.TypeDesc.func #[22, 3, 3] #[] false), size := 1, bytes := 8, zero := .nilFunc, cells := [.raw] }
def ti133 : TI := { desc := (Go.TypeDesc.int Go.IntKind.i64), size := 1, bytes := 8, zero := .int .i64 0, cells := [.int .i64] }
def ti135 : TI := { desc := (Go.TypeDesc.func #[22, 3, 3] #[3, 133] false), size := 1, bytes := 8, zero := .nilFunc, cells := [.raw] }
def ti136 : TI := { desc := (Go.TypeDesc.func #[22, 3, 3] #[4] false), size := 1, bytes := 8, zero := .nilFunc, cells := [.raw] }
def ti137 : TI := { desc := (Go.TypeDesc.func #[22, 3, 3, 3] #[3] false), size := 1, bytes := 8, zero := .nilFunc, cells := [.raw] }
def ti138 : TI := { desc := (Go.TypeDesc.func #[22, 3, 3, 3] #[3, 4] false), size := 1, bytes := 8, zero := .nilFunc, cells := [.raw] }
def ti139 : TI := { desc := (Go.TypeDesc.func #[140] #[3] false), size := 1, bytes := 8, zero := .nilFunc, cells := [.raw] }
def ti140 : TI := { desc := (Go.TypeDesc.int Go.IntKind.u32), size := 1, bytes := 4, zero := .int .u32 0, cells := [.int .u32] }
def ti141 : TI := { desc := (Go.TypeDesc.func #[142] #[3] false), size := 1, bytes := 8, zero := .nilFunc, cells := [.raw] }
def ti142 : TI := { desc := (Go.TypeDesc.int Go.IntKind.u64), size := 1, bytes := 8, zero := .int .u64 0, cells := [.int .u64] }
def ti143 : TI := { desc := (Go.TypeDesc.func #[43, 9, 3] #[43] false), size := 1, bytes := 8, zero := .nilFunc, cells := [.raw] }
def ti144 : TI := { desc := (Go.TypeDesc.func #[43, 9] #[43] false), size := 1, bytes := 8, zero := .nilFunc, cells := [.raw] }
def ti145 : TI := { desc := (Go.TypeDesc.func #[83, 146] #[3] false), size := 1, bytes := 8, zero := .nilFunc, cells := [.raw] }
def ti146 : TI := { desc := (Go.TypeDesc.func #[115] #[4] false), size := 1, bytes := 8, zero := .nilFunc, cells := [.raw] }
def ti147 : TI := { desc := (Go.TypeDesc.int Go.IntKind.u64), size := 1, bytes := 8, zero := .int .u64 0, cells := [.int .u64] }
def ti148 : TI := { desc := (Go.TypeDesc.func #[3] #[122] false), size := 1, bytes := 8, zero := .nilFunc, cells := [.raw] }
def ti149 : TI := { desc := (Go.TypeDesc.func #[] #[142] false), size := 1, bytes := 8, zero := .nilFunc, cells := [.raw] }
def ti150 : TI := { desc := (Go.TypeDesc.func #[22, 3, 151] #[3] false), size := 1, bytes := 8, zero := .nilFunc, cells := [.raw] }
def ti151 : TI := { desc := (Go.TypeDesc.pointer 3), size := 1, bytes := 8, zero := .pointer none, cells := [.raw] }
def ti152 : TI := { desc := (Go.TypeDesc.func #[22, 3, 3, 3, 151] #[3] false), size := 1, bytes := 8, zero := .nilFunc, cells := [.raw] }
def ti153 : TI := { desc := (Go.TypeDesc.pointer 147), size := 1, bytes := 8, zero := .pointer none, cells := [.raw] }
def ti155 : TI := { desc := (Go.TypeDesc.func #[22, 3, 3, 151] #[3, 3] false), size := 1, bytes := 8, zero := .nilFunc, cells := [.raw] }
def ti156 : TI := { desc := (Go.TypeDesc.func #[] #[9] false), size := 1, bytes := 8, zero := .nilFunc, cells := [.raw] }
def ti157 : TI := { desc := (Go.TypeDesc.struct #[{ name := "_interface", type := 17, offset := 0, embedded := false, tag := "", pkgPath := "runtime", byteOffset := 0 }, { name := "concrete", type := 17, offset := 1, embedded := false, tag := "", pkgPath := "runtime", byteOffset := 8 }, { name := "asserted", type := 17, offset := 2, embedded := false, tag := "", pkgPath := "runtime", byteOffset := 16 }, { name := "missingMethod", type := 9, offset := 3, embedded := false, tag := "", pkgPath := "runtime", byteOffset := 24 }]), size := 4, bytes := 40, zero := .agg #[.pointer none, .pointer none, .pointer none, .string ByteArray.empty], cells := [.raw, .raw, .raw, .str] }
def ti158 : TI := { desc := (Go.TypeDesc.struct #[{ name := "_interface", type := 17, offset := 0, embedded := false, tag := "", pkgPath := "runtime", byteOffset := 0 }, { name := "concrete", type := 17, offset := 1, embedded := false, tag := "", pkgPath := "runtime", byteOffset := 8 }, { name := "asserted", type := 17, offset := 2, embedded := false, tag := "", pkgPath := "runtime", byteOffset := 16 }, { name := "missingMethod", type := 9, offset := 3, embedded := false, tag := "", pkgPath := "runtime", byteOffset := 24 }]), size := 4, bytes := 40, zero := .agg #[.pointer none, .pointer none, .pointer none, .string ByteArray.empty], cells := [.raw, .raw, .raw, .str] }
def ti159 : TI := { desc := (Go.TypeDesc.array 0 16), size := 0, bytes := 0, zero := .agg #[], cells := [] }
def ti160 : TI := { desc := (Go.TypeDesc.struct #[{ name := "_", type := 159, offset := 0, embedded := false, tag := "", pkgPath := "runtime", byteOffset := 0 }]), size := 0, bytes := 0, zero := .agg #[], cells := [] }
def ti161 : TI := { desc := (Go.TypeDesc.struct #[{ name := "_", type := 159, offset := 0, embedded := false, tag := "", pkgPath := "runtime", byteOffset := 0 }]), size := 0, bytes := 0, zero := .agg #[], cells := [] }
def ti162 : TI := { desc := (Go.TypeDesc.int Go.IntKind.u8), size := 1, bytes := 1, zero := .int .u8 0, cells := [.int .u8] }
def ti163 : TI := { desc := (Go.TypeDesc.int Go.IntKind.u8), size := 1, bytes := 1, zero := .int .u8 0, cells := [.int .u8] }
def ti164 : TI := { desc := (Go.TypeDesc.func #[170, 170] #[4] false), size := 1, bytes := 8, zero := .nilFunc, cells := [.raw] }
def ti165 : TI := { desc := (Go.TypeDesc.pointer 5), size := 1, bytes := 8, zero := .pointer none, cells := [.raw] }
def ti166 : TI := { desc := (Go.TypeDesc.int Go.IntKind.i32), size := 1, bytes := 4, zero := .int .i32 0, cells := [.int .i32] }
def ti167 : TI := { desc := (Go.TypeDesc.int Go.IntKind.i32), size := 1, bytes := 4, zero := .int .i32 0, cells := [.int .i32] }
def ti168 : TI := { desc := (Go.TypeDesc.struct #[{ name := "Size_", type := 12, offset := 0, embedded := false, tag := "", pkgPath := "", byteOffset := 0 }, { name := "PtrBytes", type := 12, offset := 1, embedded := false, tag := "", pkgPath := "", byteOffset := 8 }, { name := "Hash", type := 140, offset := 2, embedded := false, tag := "", pkgPath := "", byteOffset := 16 }, { name := "TFlag", type := 162, offset := 3, embedded := false, tag := "", pkgPath := "", byteOffset := 20 }, { name := "Align_", type := 5, offset := 4, embedded := false, tag := "", pkgPath := "", byteOffset := 21 }, { name := "FieldAlign_", type := 5, offset := 5, embedded := false, tag := "", pkgPath := "", byteOffset := 22 }, { name := "Kind_", type := 163, offset := 6, embedded := false, tag := "", pkgPath := "", byteOffset := 23 }, { name := "Equal", type := 164, offset := 7, embedded := false, tag := "", pkgPath := "", byteOffset := 24 }, { name := "GCData", type := 165, offset := 8, embedded := false, tag := "", pkgPath := "", byteOffset := 32 }, { name := "Str", type := 166, offset := 9, embedded := false, tag := "", pkgPath := "", byteOffset := 40 }, { name := "PtrToThis", type := 167, offset := 10, embedded := false, tag := "", pkgPath := "", byteOffset := 44 }]), size := 11, bytes := 48, zero := .agg #[.int .u64 0, .int .u64 0, .int .u32 0, .int .u8 0, .int .u8 0, .int .u8 0, .int .u8 0, .nilFunc, .pointer none, .int .i32 0, .int .i32 0], cells := [.int .u64, .int .u64, .int .u32, .int .u8, .int .u8, .int .u8, .int .u8, .raw, .raw, .int .i32, .int .i32] }
def ti169 : TI := { desc := (Go.TypeDesc.struct #[{ name := "Size_", type := 12, offset := 0, embedded := false, tag := "", pkgPath := "", byteOffset := 0 }, { name := "PtrBytes", type := 12, offset := 1, embedded := false, tag := "", pkgPath := "", byteOffset := 8 }, { name := "Hash", type := 140, offset := 2, embedded := false, tag := "", pkgPath := "", byteOffset := 16 }, { name := "TFlag", type := 162, offset := 3, embedded := false, tag := "", pkgPath := "", byteOffset := 20 }, { name := "Align_", type := 5, offset := 4, embedded := false, tag := "", pkgPath := "", byteOffset := 21 }, { name := "FieldAlign_", type := 5, offset := 5, embedded := false, tag := "", pkgPath := "", byteOffset := 22 }, { name := "Kind_", type := 163, offset := 6, embedded := false, tag := "", pkgPath := "", byteOffset := 23 }, { name := "Equal", type := 164, offset := 7, embedded := false, tag := "", pkgPath := "", byteOffset := 24 }, { name := "GCData", type := 165, offset := 8, embedded := false, tag := "", pkgPath := "", byteOffset := 32 }, { name := "Str", type := 166, offset := 9, embedded := false, tag := "", pkgPath := "", byteOffset := 40 }, { name := "PtrToThis", type := 167, offset := 10, embedded := false, tag := "", pkgPath := "", byteOffset := 44 }]), size := 11, bytes := 48, zero := .agg #[.int .u64 0, .int .u64 0, .int .u32 0, .int .u8 0, .int .u8 0, .int .u8 0, .int .u8 0, .nilFunc, .pointer none, .int .i32 0, .int .i32 0], cells := [.int .u64, .int .u64, .int .u32, .int .u8, .int .u8, .int .u8, .int .u8, .raw, .raw, .int .i32, .int .i32] }
def ti170 : TI := { desc := Go.TypeDesc.unsafePointer, size := 1, bytes := 8, zero := .pointer none, cells := [.raw] }
def T : TT
  | 1 => some ti1
  | 2 => some ti2
  | 3 => some ti3
  | 4 => some ti4
  | 5 => some ti5
  | 6 => some ti6
  | 7 => some ti7
  | 8 => some ti8
  | 9 => some ti9
  | 10 => some ti10
  | 11 => some ti11
  | 12 => some ti12
  | 13 => some ti13
  | 14 => some ti14
  | 15 => some ti15
  | 16 => some ti16
  | 17 => some ti17
  | 18 => some ti18
  | 19 => some ti19
  | 20 => some ti20
  | 21 => some ti21
  | 22 => some ti22
  | 23 => some ti23
  | 24 => some ti24
  | 25 => some ti25
  | 27 => some ti27
  | 28 => some ti28
  | 29 => some ti29
  | 30 => some ti30
  | 31 => some ti31
  | 32 => some ti32
  | 33 => some ti33
  | 34 => some ti34
  | 35 => some ti35
  | 36 => some ti36
  | 37 => some ti37
  | 38 => some ti38
  | 39 => some ti39
  | 40 => some ti40
  | 41 => some ti41
  | 42 => some ti42
  | 43 => some ti43
  | 44 => some ti44
  | 45 => some ti45
  | 46 => some ti46
  | 48 => some ti48
  | 49 => some ti49
  | 50 => some ti50
  | 51 => some ti51
  | 52 => some ti52
  | 53 => some ti53
  | 55 => some ti55
  | 56 => some ti56
  | 57 => some ti57
  | 58 => some ti58
  | 59 => some ti59
  | 60 => some ti60
  | 61 => some ti61
  | 62 => some ti62
  | 63 => some ti63
  | 64 => some ti64
  | 65 => some ti65
  | 66 => some ti66
  | 67 => some ti67
  | 68 => some ti68
  | 69 => some ti69
  | 70 => some ti70
  | 71 => some ti71
  | 72 => some ti72
  | 73 => some ti73
  | 74 => some ti74
  | 75 => some ti75
  | 76 => some ti76
  | 78 => some ti78
  | 79 => some ti79
  | 80 => some ti80
  | 81 => some ti81
  | 82 => some ti82
  | 83 => some ti83
  | 84 => some ti84
  | 85 => some ti85
  | 86 => some ti86
  | 87 => some ti87
  | 88 => some ti88
  | 89 => some ti89
  | 90 => some ti90
  | 91 => some ti91
  | 92 => some ti92
  | 93 => some ti93
  | 94 => some ti94
  | 95 => some ti95
  | 96 => some ti96
  | 97 => some ti97
  | 98 => some ti98
  | 99 => some ti99
  | 100 => some ti100
  | 101 => some ti101
  | 102 => some ti102
  | 103 => some ti103
  | 104 => some ti104
  | 105 => some ti105
  | 106 => some ti106
  | 107 => some ti107
  | 108 => some ti108
  | 109 => some ti109
  | 110 => some ti110
  | 111 => some ti111
  | 112 => some ti112
  | 113 => some ti113
  | 114 => some ti114
  | 115 => some ti115
  | 116 => some ti116
  | 117 => some ti117
  | 118 => some ti118
  | 119 => some ti119
  | 120 => some ti120
  | 121 => some ti121
  | 122 => some ti122
  | 123 => some ti123
  | 124 => some ti124
  | 125 => some ti125
  | 126 => some ti126
  | 127 => some ti127
  | 128 => some ti128
  | 129 => some ti129
  | 130 => some ti130
  | 131 => some ti131
  | 132 => some ti132
  | 133 => some ti133
  | 135 => some ti135
  | 136 => some ti136
  | 137 => some ti137
  | 138 => some ti138
  | 139 => some ti139
  | 140 => some ti140
  | 141 => some ti141
  | 142 => some ti142
  | 143 => some ti143
  | 144 => some ti144
  | 145 => some ti145
  | 146 => some ti146
  | 147 => some ti147
  | 148 => some ti148
  | 149 => some ti149
  | 150 => some ti150
  | 151 => some ti151
  | 152 => some ti152
  | 153 => some ti153
  | 155 => some ti155
  | 156 => some ti156
  | 157 => some ti157
  | 158 => some ti158
  | 159 => some ti159
  | 160 => some ti160
  | 161 => some ti161
  | 162 => some ti162
  | 163 => some ti163
  | 164 => some ti164
  | 165 => some ti165
  | 166 => some ti166
  | 167 => some ti167
  | 168 => some ti168
  | 169 => some ti169
  | 170 => some ti170
  | _ => none
theorem tok : TOk Try.prog T := by
  intro t ti h
  unfold T at h
  split at h
  · cases h; exact tok1 (by kernel_rfl) (by kernel_rfl) (by kernel_rfl)
  · cases h; exact tok1 (by kernel_rfl) (by kernel_rfl) (by kernel_rfl)
  · cases h; exact tok1 (by kernel_rfl) (by kernel_rfl) (by kernel_rfl)
  · cases h; exact tok1 (by kernel_rfl) (by kernel_rfl) (by kernel_rfl)
  · cases h; exact tok1 (by kernel_rfl) (by kernel_rfl) (by kernel_rfl)
  · cases h; exact tok1 (by kernel_rfl) (by kernel_rfl) (by kernel_rfl)
  · cases h; exact tok1 (by kernel_rfl) (by kernel_rfl) (by kernel_rfl)
  · cases h; exact tok1 (by kernel_rfl) (by kernel_rfl) (by kernel_rfl)
  · cases h; exact tok1 (by kernel_rfl) (by kernel_rfl) (by kernel_rfl)
  · cases h; exact tok1 (by kernel_rfl) (by kernel_rfl) (by kernel_rfl)
  · cases h; exact tok1 (by kernel_rfl) (by kernel_rfl) (by kernel_rfl)
  · cases h; exact tok1 (by kernel_rfl) (by kernel_rfl) (by kernel_rfl)
  · cases h; exact tok1 (by kernel_rfl) (by kernel_rfl) (by kernel_rfl)
  · cases h; exact tok1 (by kernel_rfl) (by kernel_rfl) (by kernel_rfl)
  · cases h; exact tok1 (by kernel_rfl) (by kernel_rfl) (by kernel_rfl)
  · cases h; exact tok1 (by kernel_rfl) (by kernel_rfl) (by kernel_rfl)
  · cases h; exact tok1 (by kernel_rfl) (by kernel_rfl) (by kernel_rfl)
  · cases h; exact tok1 (by kernel_rfl) (by kernel_rfl) (by kernel_rfl)
  · cases h; exact tok1 (by kernel_rfl) (by kernel_rfl) (by kernel_rfl)
  · cases h; exact tok1 (by kernel_rfl) (by kernel_rfl) (by kernel_rfl)
  · cases h; exact tok1 (by kernel_rfl) (by kernel_rfl) (by kernel_rfl)
  · cases h; exact tok1 (by kernel_rfl) (by kernel_rfl) (by kernel_rfl)
  · cases h; exact tok1 (by kernel_rfl) (by kernel_rfl) (by kernel_rfl)
  · cases h; exact tok1 (by kernel_rfl) (by kernel_rfl) (by kernel_rfl)
  · cases h; exact tok1 (by kernel_rfl) (by kernel_rfl) (by kernel_rfl)
  · cases h; exact tok1 (by kernel_rfl) (by kernel_rfl) (by kernel_rfl)
  · cases h; exact tok1 (by kernel_rfl) (by kernel_rfl) (by kernel_rfl)
  · cases h; exact tok1 (by kernel_rfl) (by kernel_rfl) (by kernel_rfl)
  · cases h; exact tok1 (by kernel_rfl) (by kernel_rfl) (by kernel_rfl)
  · cases h; exact tok1 (by kernel_rfl) (by kernel_rfl) (by kernel_rfl)
  · cases h; exact tok1 (by kernel_rfl) (by kernel_rfl) (by kernel_rfl)
  · cases h; exact tok1 (by kernel_rfl) (by kernel_rfl) (by kernel_rfl)
  · cases h; exact tok1 (by kernel_rfl) (by kernel_rfl) (by kernel_rfl)
  · cases h; exact tok1 (by kernel_rfl) (by kernel_rfl) (by kernel_rfl)
  · cases h; exact tok1 (by kernel_rfl) (by kernel_rfl) (by kernel_rfl)
  · cases h; exact tok1 (by kernel_rfl) (by kernel_rfl) (by kernel_rfl)
  · cases h; exact tok1 (by kernel_rfl) (by kernel_rfl) (by kernel_rfl)
  · cases h; exact tok1 (by kernel_rfl) (by kernel_rfl) (by kernel_rfl)
  · cases h; exact tok1 (by kernel_rfl) (by kernel_rfl) (by kernel_rfl)
  · cases h; exact tok1 (by kernel_rfl) (by kernel_rfl) (by kernel_rfl)
  · cases h; exact tok1 (by kernel_rfl) (by kernel_rfl) (by kernel_rfl)
  · cases h; exact tok1 (by kernel_rfl) (by kernel_rfl) (by kernel_rfl)
  · cases h; exact tok1 (by kernel_rfl) (by kernel_rfl) (by kernel_rfl)
  · cases h; exact tok1 (by kernel_rfl) (by kernel_rfl) (by kernel_rfl)
  · cases h; exact tok1 (by kernel_rfl) (by kernel_rfl) (by kernel_rfl)
  · cases h; exact tok1 (by kernel_rfl) (by kernel_rfl) (by kernel_rfl)
  · cases h; exact tok1 (by kernel_rfl) (by kernel_rfl) (by kernel_rfl)
  · cases h; exact tok1 (by kernel_rfl) (by kernel_rfl) (by kernel_rfl)
  · cases h; exact tok1 (by kernel_rfl) (by kernel_rfl) (by kernel_rfl)
  · cases h; exact tok1 (by kernel_rfl) (by kernel_rfl) (by kernel_rfl)
  · cases h; exact tok1 (by kernel_rfl) (by kernel_rfl) (by kernel_rfl)
  · cases h; exact tok1 (by kernel_rfl) (by kernel_rfl) (by kernel_rfl)
  · cases h; exact tok1 (by kernel_rfl) (by kernel_rfl) (by kernel_rfl)
  · cases h; exact tok1 (by kernel_rfl) (by kernel_rfl) (by kernel_rfl)
  · cases h; exact tok1 (by kernel_rfl) (by kernel_rfl) (by kernel_rfl)
  · cases h; exact tok1 (by kernel_rfl) (by kernel_rfl) (by kernel_rfl)
  · cases h; exact tok1 (by kernel_rfl) (by kernel_rfl) (by kernel_rfl)
  · cases h; exact tok1 (by kernel_rfl) (by kernel_rfl) (by kernel_rfl)
  · cases h; exact tok1 (by kernel_rfl) (by kernel_rfl) (by kernel_rfl)
  · cases h; exact tok1 (by kernel_rfl) (by kernel_rfl) (by kernel_rfl)
  · cases h; exact tok1 (by kernel_rfl) (by kernel_rfl) (by kernel_rfl)
  · cases h; exact tok1 (by kernel_rfl) (by kernel_rfl) (by kernel_rfl)
  · cases h; exact tok1 (by kernel_rfl) (by kernel_rfl) (by kernel_rfl)
  · cases h; exact tok1 (by kernel_rfl) (by kernel_rfl) (by kernel_rfl)
  · cases h; exact tok1 (by kernel_rfl) (by kernel_rfl) (by kernel_rfl)
  · cases h; exact tok1 (by kernel_rfl) (by kernel_rfl) (by kernel_rfl)
  · cases h; exact tok1 (by kernel_rfl) (by kernel_rfl) (by kernel_rfl)
  · cases h; exact tok1 (by kernel_rfl) (by kernel_rfl) (by kernel_rfl)
  · cases h; exact tok1 (by kernel_rfl) (by kernel_rfl) (by kernel_rfl)
  · cases h; exact tok1 (by kernel_rfl) (by kernel_rfl) (by kernel_rfl)
  · cases h; exact tok1 (by kernel_rfl) (by kernel_rfl) (by kernel_rfl)
  · cases h; exact tok1 (by kernel_rfl) (by kernel_rfl) (by kernel_rfl)
  · cases h; exact tok1 (by kernel_rfl) (by kernel_rfl) (by kernel_rfl)
  · cases h; exact tok1 (by kernel_rfl) (by kernel_rfl) (by kernel_rfl)
  · cases h; exact tok1 (by kernel_rfl) (by kernel_rfl) (by kernel_rfl)
  · cases h; exact tok1 (by kernel_rfl) (by kernel_rfl) (by kernel_rfl)
  · cases h; exact tok1 (by kernel_rfl) (by kernel_rfl) (by kernel_rfl)
  · cases h; exact tok1 (by kernel_rfl) (by kernel_rfl) (by kernel_rfl)
  · cases h; exact tok1 (by kernel_rfl) (by kernel_rfl) (by kernel_rfl)
  · cases h; exact tok1 (by kernel_rfl) (by kernel_rfl) (by kernel_rfl)
  · cases h; exact tok1 (by kernel_rfl) (by kernel_rfl) (by kernel_rfl)
  · cases h; exact tok1 (by kernel_rfl) (by kernel_rfl) (by kernel_rfl)
  · cases h; exact tok1 (by kernel_rfl) (by kernel_rfl) (by kernel_rfl)
  · cases h; exact tok1 (by kernel_rfl) (by kernel_rfl) (by kernel_rfl)
  · cases h; exact tok1 (by kernel_rfl) (by kernel_rfl) (by kernel_rfl)
  · cases h; exact tok1 (by kernel_rfl) (by kernel_rfl) (by kernel_rfl)
  · cases h; exact tok1 (by kernel_rfl) (by kernel_rfl) (by kernel_rfl)
  · cases h; exact tok1 (by kernel_rfl) (by kernel_rfl) (by kernel_rfl)
  · cases h; exact tok1 (by kernel_rfl) (by kernel_rfl) (by kernel_rfl)
  · cases h; exact tok1 (by kernel_rfl) (by kernel_rfl) (by kernel_rfl)
  · cases h; exact tok1 (by kernel_rfl) (by kernel_rfl) (by kernel_rfl)
  · cases h; exact tok1 (by kernel_rfl) (by kernel_rfl) (by kernel_rfl)
  · cases h; exact tok1 (by kernel_rfl) (by kernel_rfl) (by kernel_rfl)
  · cases h; exact tok1 (by kernel_rfl) (by kernel_rfl) (by kernel_rfl)
  · cases h; exact tok1 (by kernel_rfl) (by kernel_rfl) (by kernel_rfl)
  · cases h; exact tok1 (by kernel_rfl) (by kernel_rfl) (by kernel_rfl)
  · cases h; exact tok1 (by kernel_rfl) (by kernel_rfl) (by kernel_rfl)
  · cases h; exact tok1 (by kernel_rfl) (by kernel_rfl) (by kernel_rfl)
  · cases h; exact tok1 (by kernel_rfl) (by kernel_rfl) (by kernel_rfl)
  · cases h; exact tok1 (by kernel_rfl) (by kernel_rfl) (by kernel_rfl)
  · cases h; exact tok1 (by kernel_rfl) (by kernel_rfl) (by kernel_rfl)
  · cases h; exact tok1 (by kernel_rfl) (by kernel_rfl) (by kernel_rfl)
  · cases h; exact tok1 (by kernel_rfl) (by kernel_rfl) (by kernel_rfl)
  · cases h; exact tok1 (by kernel_rfl) (by kernel_rfl) (by kernel_rfl)
  · cases h; exact tok1 (by kernel_rfl) (by kernel_rfl) (by kernel_rfl)
  · cases h; exact tok1 (by kernel_rfl) (by kernel_rfl) (by kernel_rfl)
  · cases h; exact tok1 (by kernel_rfl) (by kernel_rfl) (by kernel_rfl)
  · cases h; exact tok1 (by kernel_rfl) (by kernel_rfl) (by kernel_rfl)
  · cases h; exact tok1 (by kernel_rfl) (by kernel_rfl) (by kernel_rfl)
  · cases h; exact tok1 (by kernel_rfl) (by kernel_rfl) (by kernel_rfl)
  · cases h; exact tok1 (by kernel_rfl) (by kernel_rfl) (by kernel_rfl)
  · cases h; exact tok1 (by kernel_rfl) (by kernel_rfl) (by kernel_rfl)
  · cases h; exact tok1 (by kernel_rfl) (by kernel_rfl) (by kernel_rfl)
  · cases h; exact tok1 (by kernel_rfl) (by kernel_rfl) (by kernel_rfl)
  · cases h; exact tok1 (by kernel_rfl) (by kernel_rfl) (by kernel_rfl)
  · cases h; exact tok1 (by kernel_rfl) (by kernel_rfl) (by kernel_rfl)
  · cases h; exact tok1 (by kernel_rfl) (by kernel_rfl) (by kernel_rfl)
  · cases h; exact tok1 (by kernel_rfl) (by kernel_rfl) (by kernel_rfl)
  · cases h; exact tok1 (by kernel_rfl) (by kernel_rfl) (by kernel_rfl)
  · cases h; exact tok1 (by kernel_rfl) (by kernel_rfl) (by kernel_rfl)
  · cases h; exact tok1 (by kernel_rfl) (by kernel_rfl) (by kernel_rfl)
  · cases h; exact tok1 (by kernel_rfl) (by kernel_rfl) (by kernel_rfl)
  · cases h; exact tok1 (by kernel_rfl) (by kernel_rfl) (by kernel_rfl)
  · cases h; exact tok1 (by kernel_rfl) (by kernel_rfl) (by kernel_rfl)
  · cases h; exact tok1 (by kernel_rfl) (by kernel_rfl) (by kernel_rfl)
  · cases h; exact tok1 (by kernel_rfl) (by kernel_rfl) (by kernel_rfl)
  · cases h; exact tok1 (by kernel_rfl) (by kernel_rfl) (by kernel_rfl)
  · cases h; exact tok1 (by kernel_rfl) (by kernel_rfl) (by kernel_rfl)
  · cases h; exact tok1 (by kernel_rfl) (by kernel_rfl) (by kernel_rfl)
  · cases h; exact tok1 (by kernel_rfl) (by kernel_rfl) (by kernel_rfl)
  · cases h; exact tok1 (by kernel_rfl) (by kernel_rfl) (by kernel_rfl)
  · cases h; exact tok1 (by kernel_rfl) (by kernel_rfl) (by kernel_rfl)
  · cases h; exact tok1 (by kernel_rfl) (by kernel_rfl) (by kernel_rfl)
  · cases h; exact tok1 (by kernel_rfl) (by kernel_rfl) (by kernel_rfl)
  · cases h; exact tok1 (by kernel_rfl) (by kernel_rfl) (by kernel_rfl)
  · cases h; exact tok1 (by kernel_rfl) (by kernel_rfl) (by kernel_rfl)
  · cases h; exact tok1 (by kernel_rfl) (by kernel_rfl) (by kernel_rfl)
  · cases h; exact tok1 (by kernel_rfl) (by kernel_rfl) (by kernel_rfl)
  · cases h; exact tok1 (by kernel_rfl) (by kernel_rfl) (by kernel_rfl)
  · cases h; exact tok1 (by kernel_rfl) (by kernel_rfl) (by kernel_rfl)
  · cases h; exact tok1 (by kernel_rfl) (by kernel_rfl) (by kernel_rfl)
  · cases h; exact tok1 (by kernel_rfl) (by kernel_rfl) (by kernel_rfl)
  · cases h; exact tok1 (by kernel_rfl) (by kernel_rfl) (by kernel_rfl)
  · cases h; exact tok1 (by kernel_rfl) (by kernel_rfl) (by kernel_rfl)
  · cases h; exact tok1 (by kernel_rfl) (by kernel_rfl) (by kernel_rfl)
  · cases h; exact tok1 (by kernel_rfl) (by kernel_rfl) (by kernel_rfl)
  · cases h; exact tok1 (by kernel_rfl) (by kernel_rfl) (by kernel_rfl)
  · cases h; exact tok1 (by kernel_rfl) (by kernel_rfl) (by kernel_rfl)
  · cases h; exact tok1 (by kernel_rfl) (by kernel_rfl) (by kernel_rfl)
  · cases h; exact tok1 (by kernel_rfl) (by kernel_rfl) (by kernel_rfl)
  · cases h; exact tok1 (by kernel_rfl) (by kernel_rfl) (by kernel_rfl)
  · cases h; exact tok1 (by kernel_rfl) (by kernel_rfl) (by kernel_rfl)
  · cases h; exact tok1 (by kernel_rfl) (by kernel_rfl) (by kernel_rfl)
  · cases h; exact tok1 (by kernel_rfl) (by kernel_rfl) (by kernel_rfl)
  · cases h; exact tok1 (by kernel_rfl) (by kernel_rfl) (by kernel_rfl)
  · cases h; exact tok1 (by kernel_rfl) (by kernel_rfl) (by kernel_rfl)
  · cases h; exact tok1 (by kernel_rfl) (by kernel_rfl) (by kernel_rfl)
  · cases h; exact tok1 (by kernel_rfl) (by kernel_rfl) (by kernel_rfl)
  · cases h; exact tok1 (by kernel_rfl) (by kernel_rfl) (by kernel_rfl)
  · cases h; exact tok1 (by kernel_rfl) (by kernel_rfl) (by kernel_rfl)
  · cases h; exact tok1 (by kernel_rfl) (by kernel_rfl) (by kernel_rfl)
  · cases h; exact tok1 (by kernel_rfl) (by kernel_rfl) (by kernel_rfl)
  · cases h; exact tok1 (by kernel_rfl) (by kernel_rfl) (by kernel_rfl)
  · cases h; exact tok1 (by kernel_rfl) (by kernel_rfl) (by kernel_rfl)
  · cases h
end Go.Proofs.Ytkkieddebnhpcaa.A
