/- What the laws of this seat need, part 4. -/
import Derived.Test.YtcpcghnpoekhpaaDoorMz3
import Derived.Test.YtcpcghnpoekhpaaDoorProg
import Derived.Shelf.Strconv.Itoa0
import Derived.Shelf.Strconv.Itoa1
import Derived.Shelf.Strconv.Itoa2
import Derived.Shelf.Strconv.Itoa3
import Derived.Shelf.LaysM
import Derived.Lib.ItoaNum
import Derived.Laws.StructEq
/- The table of types. Written by wip/tools/tt.py. -/
namespace Go.Proofs.YtcpcghnpoekhpaaDoor.A
open Go
def ti1 : TI := { desc := (Go.TypeDesc.func #[] #[] false), size := 1, bytes := 8, zero := .nilFunc, cells := [.raw] }
def ti2 : TI := { desc := (Go.TypeDesc.int Go.IntKind.i64), size := 1, bytes := 8, zero := .int .i64 0, cells := [.int .i64] }
def ti3 : TI := { desc := (Go.TypeDesc.int Go.IntKind.i64), size := 1, bytes := 8, zero := .int .i64 0, cells := [.int .i64] }
def ti4 : TI := { desc := Go.TypeDesc.bool, size := 1, bytes := 1, zero := .bool false, cells := [.bool] }
def ti5 : TI := { desc := (Go.TypeDesc.int Go.IntKind.u8), size := 1, bytes := 1, zero := .int .u8 0, cells := [.int .u8] }
def ti6 : TI := { desc := (Go.TypeDesc.int Go.IntKind.u8), size := 1, bytes := 1, zero := .int .u8 0, cells := [.int .u8] }
def ti7 : TI := { desc := (Go.TypeDesc.struct #[{ name := "x", type := 2, offset := 0, embedded := false, tag := "", pkgPath := "runtime", byteOffset := 0 }, { name := "y", type := 3, offset := 1, embedded := false, tag := "", pkgPath := "runtime", byteOffset := 8 }, { name := "signed", type := 4, offset := 2, embedded := false, tag := "", pkgPath := "runtime", byteOffset := 16 }, { name := "code", type := 6, offset := 3, embedded := false, tag := "", pkgPath := "runtime", byteOffset := 17 }]), size := 4, bytes := 24, zero := .agg #[.int .i64 0, .int .i64 0, .bool false, .int .u8 0], cells := [.int .i64, .int .i64, .bool, .int .u8] }
def ti8 : TI := { desc := (Go.TypeDesc.struct #[{ name := "x", type := 2, offset := 0, embedded := false, tag := "", pkgPath := "runtime", byteOffset := 0 }, { name := "y", type := 3, offset := 1, embedded := false, tag := "", pkgPath := "runtime", byteOffset := 8 }, { name := "signed", type := 4, offset := 2, embedded := false, tag := "", pkgPath := "runtime", byteOffset := 16 }, { name := "code", type := 6, offset := 3, embedded := false, tag := "", pkgPath := "runtime", byteOffset := 17 }]), size := 4, bytes := 24, zero := .agg #[.int .i64 0, .int .i64 0, .bool false, .int .u8 0], cells := [.int .i64, .int .i64, .bool, .int .u8] }
def ti9 : TI := { desc := Go.TypeDesc.string, size := 1, bytes := 16, zero := .string ByteArray.empty, cells := [.str] }
def ti10 : TI := { desc := Go.TypeDesc.string, size := 1, bytes := 16, zero := .string ByteArray.empty, cells := [.str] }
def ti11 : TI := { desc := Go.TypeDesc.string, size := 1, bytes := 16, zero := .string ByteArray.empty, cells := [.str] }
def ti12 : TI := { desc := (Go.TypeDesc.int Go.IntKind.u64), size := 1, bytes := 8, zero := .int .u64 0, cells := [.int .u64] }
def ti13 : TI := { desc := (Go.TypeDesc.struct #[{ name := "msg", type := 9, offset := 0, embedded := false, tag := "", pkgPath := "runtime", byteOffset := 0 }, { name := "addr", type := 12, offset := 1, embedded := false, tag := "", pkgPath := "runtime", byteOffset := 16 }]), size := 2, bytes := 24, zero := .agg #[.string ByteArray.empty, .int .u64 0], cells := [.str, .int .u64] }
def ti14 : TI := { desc := (Go.TypeDesc.struct #[{ name := "msg", type := 9, offset := 0, embedded := false, tag := "", pkgPath := "runtime", byteOffset := 0 }, { name := "addr", type := 12, offset := 1, embedded := false, tag := "", pkgPath := "runtime", byteOffset := 16 }]), size := 2, bytes := 24, zero := .agg #[.string ByteArray.empty, .int .u64 0], cells := [.str, .int .u64] }
def ti15 : TI := { desc := (Go.TypeDesc.pointer 75), size := 1, bytes := 8, zero := .pointer none, cells := [.raw] }
def ti16 : TI := { desc := (Go.TypeDesc.pointer 78), size := 1, bytes := 8, zero := .pointer none, cells := [.raw] }
def ti17 : TI := { desc := (Go.TypeDesc.pointer 87), size := 1, bytes := 8, zero := .pointer none, cells := [.raw] }
def ti18 : TI := { desc := (Go.TypeDesc.struct #[{ name := "typ", type := 17, offset := 0, embedded := false, tag := "", pkgPath := "internal/runtime/maps", byteOffset := 0 }]), size := 1, bytes := 8, zero := .agg #[.pointer none], cells := [.raw] }
def ti19 : TI := { desc := (Go.TypeDesc.struct #[{ name := "typ", type := 17, offset := 0, embedded := false, tag := "", pkgPath := "internal/runtime/maps", byteOffset := 0 }]), size := 1, bytes := 8, zero := .agg #[.pointer none], cells := [.raw] }
def ti20 : TI := { desc := (Go.TypeDesc.interface #[]), size := 1, bytes := 16, zero := .nilIface, cells := [.raw] }
def ti21 : TI := { desc := (Go.TypeDesc.int Go.IntKind.i32), size := 1, bytes := 4, zero := .int .i32 0, cells := [.int .i32] }
def ti22 : TI := { desc := (Go.TypeDesc.slice 35), size := 1, bytes := 24, zero := .slice none 0 0, cells := [.sl] }
def ti23 : TI := { desc := (Go.TypeDesc.func #[22] #[22] false), size := 1, bytes := 8, zero := .nilFunc, cells := [.raw] }
def ti24 : TI := { desc := (Go.TypeDesc.func #[22] #[4] false), size := 1, bytes := 8, zero := .nilFunc, cells := [.raw] }
def ti25 : TI := { desc := (Go.TypeDesc.slice 4), size := 1, bytes := 24, zero := .slice none 0 0, cells := [.sl], kids := [.sl 4 [.st]] }
def ti26 : TI := { desc := (Go.TypeDesc.func #[22] #[25] false), size := 1, bytes := 8, zero := .nilFunc, cells := [.raw] }
def ti27 : TI := { desc := (Go.TypeDesc.func #[] #[4] false), size := 1, bytes := 8, zero := .nilFunc, cells := [.raw] }
def ti28 : TI := { desc := (Go.TypeDesc.func #[22, 3] #[4] false), size := 1, bytes := 8, zero := .nilFunc, cells := [.raw] }
def ti29 : TI := { desc := (Go.TypeDesc.func #[22, 22, 3] #[4] false), size := 1, bytes := 8, zero := .nilFunc, cells := [.raw] }
def ti30 : TI := { desc := (Go.TypeDesc.func #[22, 22] #[4] false), size := 1, bytes := 8, zero := .nilFunc, cells := [.raw] }
def ti31 : TI := { desc := (Go.TypeDesc.slice 25), size := 1, bytes := 24, zero := .slice none 0 0, cells := [.sl] }
def ti32 : TI := { desc := (Go.TypeDesc.func #[22, 22, 3] #[31] false), size := 1, bytes := 8, zero := .nilFunc, cells := [.raw] }
def ti33 : TI := { desc := (Go.TypeDesc.slice 40), size := 1, bytes := 24, zero := .slice none 0 0, cells := [.sl] }
def ti34 : TI := { desc := (Go.TypeDesc.struct #[{ name := "Out", type := 3, offset := 0, embedded := false, tag := "", pkgPath := "", byteOffset := 0 }, { name := "Next", type := 33, offset := 1, embedded := false, tag := "", pkgPath := "", byteOffset := 8 }]), size := 2, bytes := 32, zero := .agg #[.int .i64 0, .slice none 0 0], cells := [.int .i64, .sl] }
def ti35 : TI := { desc := (Go.TypeDesc.struct #[{ name := "Out", type := 3, offset := 0, embedded := false, tag := "", pkgPath := "", byteOffset := 0 }, { name := "Next", type := 33, offset := 1, embedded := false, tag := "", pkgPath := "", byteOffset := 8 }]), size := 2, bytes := 32, zero := .agg #[.int .i64 0, .slice none 0 0], cells := [.int .i64, .sl], kids := [.st, .sl 40 [.st, .st]] }
def ti36 : TI := { desc := (Go.TypeDesc.slice 3), size := 1, bytes := 24, zero := .slice none 0 0, cells := [.sl] }
def ti37 : TI := { desc := (Go.TypeDesc.func #[22, 25] #[36] false), size := 1, bytes := 8, zero := .nilFunc, cells := [.raw] }
def ti38 : TI := { desc := (Go.TypeDesc.map 3 3), size := 1, bytes := 8, zero := .map none, cells := [.raw] }
def ti39 : TI := { desc := (Go.TypeDesc.struct #[{ name := "Term", type := 3, offset := 0, embedded := false, tag := "", pkgPath := "", byteOffset := 0 }, { name := "To", type := 3, offset := 1, embedded := false, tag := "", pkgPath := "", byteOffset := 8 }]), size := 2, bytes := 16, zero := .agg #[.int .i64 0, .int .i64 0], cells := [.int .i64, .int .i64] }
def ti40 : TI := { desc := (Go.TypeDesc.struct #[{ name := "Term", type := 3, offset := 0, embedded := false, tag := "", pkgPath := "", byteOffset := 0 }, { name := "To", type := 3, offset := 1, embedded := false, tag := "", pkgPath := "", byteOffset := 8 }]), size := 2, bytes := 16, zero := .agg #[.int .i64 0, .int .i64 0], cells := [.int .i64, .int .i64] }
def ti42 : TI := { desc := (Go.TypeDesc.func #[25, 3, 4] #[4] false), size := 1, bytes := 8, zero := .nilFunc, cells := [.raw] }
def ti43 : TI := { desc := (Go.TypeDesc.func #[22, 25, 44] #[25] false), size := 1, bytes := 8, zero := .nilFunc, cells := [.raw] }
def ti44 : TI := { desc := (Go.TypeDesc.func #[3, 3] #[4] false), size := 1, bytes := 8, zero := .nilFunc, cells := [.raw] }
def ti45 : TI := { desc := (Go.TypeDesc.func #[22] #[3] false), size := 1, bytes := 8, zero := .nilFunc, cells := [.raw] }
def ti46 : TI := { desc := (Go.TypeDesc.func #[22, 22, 48] #[4] false), size := 1, bytes := 8, zero := .nilFunc, cells := [.raw] }
def ti47 : TI := { desc := (Go.TypeDesc.func #[33, 33] #[4] false), size := 1, bytes := 8, zero := .nilFunc, cells := [.raw] }
def ti48 : TI := { desc := (Go.TypeDesc.func #[35, 35] #[4] false), size := 1, bytes := 8, zero := .nilFunc, cells := [.raw] }
def ti49 : TI := { desc := (Go.TypeDesc.func #[22, 3] #[3] false), size := 1, bytes := 8, zero := .nilFunc, cells := [.raw] }
def ti50 : TI := { desc := (Go.TypeDesc.func #[22, 3, 3] #[3] false), size := 1, bytes := 8, zero := .nilFunc, cells := [.raw] }
def ti51 : TI := { desc := (Go.TypeDesc.map 9 3), size := 1, bytes := 8, zero := .map none, cells := [.raw] }
def ti52 : TI := { desc := (Go.TypeDesc.func #[3] #[9] false), size := 1, bytes := 8, zero := .nilFunc, cells := [.raw] }
def ti53 : TI := { desc := (Go.TypeDesc.func #[33, 3, 3] #[4] false), size := 1, bytes := 8, zero := .nilFunc, cells := [.raw] }
def ti54 : TI := { desc := (Go.TypeDesc.func #[2, 3] #[9] false), size := 1, bytes := 8, zero := .nilFunc, cells := [.raw] }
def ti55 : TI := { desc := (Go.TypeDesc.array 24 5), size := 24, bytes := 24, zero := .agg #[.int .u8 0, .int .u8 0, .int .u8 0, .int .u8 0, .int .u8 0, .int .u8 0, .int .u8 0, .int .u8 0, .int .u8 0, .int .u8 0, .int .u8 0, .int .u8 0, .int .u8 0, .int .u8 0, .int .u8 0, .int .u8 0, .int .u8 0, .int .u8 0, .int .u8 0, .int .u8 0, .int .u8 0, .int .u8 0, .int .u8 0, .int .u8 0], cells := [.int .u8, .int .u8, .int .u8, .int .u8, .int .u8, .int .u8, .int .u8, .int .u8, .int .u8, .int .u8, .int .u8, .int .u8, .int .u8, .int .u8, .int .u8, .int .u8, .int .u8, .int .u8, .int .u8, .int .u8, .int .u8, .int .u8, .int .u8, .int .u8] }
def ti56 : TI := { desc := (Go.TypeDesc.int Go.IntKind.u64), size := 1, bytes := 8, zero := .int .u64 0, cells := [.int .u64] }
def ti57 : TI := { desc := (Go.TypeDesc.func #[56] #[3] false), size := 1, bytes := 8, zero := .nilFunc, cells := [.raw] }
def ti58 : TI := { desc := (Go.TypeDesc.func #[59, 56] #[] false), size := 1, bytes := 8, zero := .nilFunc, cells := [.raw] }
def ti59 : TI := { desc := (Go.TypeDesc.slice 5), size := 1, bytes := 24, zero := .slice none 0 0, cells := [.sl] }
def ti61 : TI := { desc := (Go.TypeDesc.func #[59, 56, 3, 4, 4] #[59, 9] false), size := 1, bytes := 8, zero := .nilFunc, cells := [.raw] }
def ti62 : TI := { desc := (Go.TypeDesc.func #[3] #[3] false), size := 1, bytes := 8, zero := .nilFunc, cells := [.raw] }
def ti63 : TI := { desc := (Go.TypeDesc.func #[4] #[3] false), size := 1, bytes := 8, zero := .nilFunc, cells := [.raw] }
def ti64 : TI := { desc := (Go.TypeDesc.array 20 56), size := 20, bytes := 160, zero := .agg #[.int .u64 0, .int .u64 0, .int .u64 0, .int .u64 0, .int .u64 0, .int .u64 0, .int .u64 0, .int .u64 0, .int .u64 0, .int .u64 0, .int .u64 0, .int .u64 0, .int .u64 0, .int .u64 0, .int .u64 0, .int .u64 0, .int .u64 0, .int .u64 0, .int .u64 0, .int .u64 0], cells := [.int .u64, .int .u64, .int .u64, .int .u64, .int .u64, .int .u64, .int .u64, .int .u64, .int .u64, .int .u64, .int .u64, .int .u64, .int .u64, .int .u64, .int .u64, .int .u64, .int .u64, .int .u64, .int .u64, .int .u64] }
def ti65 : TI := { desc := (Go.TypeDesc.int Go.IntKind.u32), size := 1, bytes := 4, zero := .int .u32 0, cells := [.int .u32] }
def ti66 : TI := { desc := (Go.TypeDesc.array 65 5), size := 65, bytes := 65, zero := .agg #[.int .u8 0, .int .u8 0, .int .u8 0, .int .u8 0, .int .u8 0, .int .u8 0, .int .u8 0, .int .u8 0, .int .u8 0, .int .u8 0, .int .u8 0, .int .u8 0, .int .u8 0, .int .u8 0, .int .u8 0, .int .u8 0, .int .u8 0, .int .u8 0, .int .u8 0, .int .u8 0, .int .u8 0, .int .u8 0, .int .u8 0, .int .u8 0, .int .u8 0, .int .u8 0, .int .u8 0, .int .u8 0, .int .u8 0, .int .u8 0, .int .u8 0, .int .u8 0, .int .u8 0, .int .u8 0, .int .u8 0, .int .u8 0, .int .u8 0, .int .u8 0, .int .u8 0, .int .u8 0, .int .u8 0, .int .u8 0, .int .u8 0, .int .u8 0, .int .u8 0, .int .u8 0, .int .u8 0, .int .u8 0, .int .u8 0, .int .u8 0, .int .u8 0, .int .u8 0, .int .u8 0, .int .u8 0, .int .u8 0, .int .u8 0, .int .u8 0, .int .u8 0, .int .u8 0, .int .u8 0, .int .u8 0, .int .u8 0, .int .u8 0, .int .u8 0, .int .u8 0], cells := [.int .u8, .int .u8, .int .u8, .int .u8, .int .u8, .int .u8, .int .u8, .int .u8, .int .u8, .int .u8, .int .u8, .int .u8, .int .u8, .int .u8, .int .u8, .int .u8, .int .u8, .int .u8, .int .u8, .int .u8, .int .u8, .int .u8, .int .u8, .int .u8, .int .u8, .int .u8, .int .u8, .int .u8, .int .u8, .int .u8, .int .u8, .int .u8, .int .u8, .int .u8, .int .u8, .int .u8, .int .u8, .int .u8, .int .u8, .int .u8, .int .u8, .int .u8, .int .u8, .int .u8, .int .u8, .int .u8, .int .u8, .int .u8, .int .u8, .int .u8, .int .u8, .int .u8, .int .u8, .int .u8, .int .u8, .int .u8, .int .u8, .int .u8, .int .u8, .int .u8, .int .u8, .int .u8, .int .u8, .int .u8, .int .u8] }
def ti67 : TI := { desc := (Go.TypeDesc.func #[3] #[4] false), size := 1, bytes := 8, zero := .nilFunc, cells := [.raw] }
def ti68 : TI := { desc := (Go.TypeDesc.int Go.IntKind.u64), size := 1, bytes := 8, zero := .int .u64 0, cells := [.int .u64] }
def ti69 : TI := { desc := (Go.TypeDesc.func #[68] #[3] false), size := 1, bytes := 8, zero := .nilFunc, cells := [.raw] }
def ti70 : TI := { desc := (Go.TypeDesc.func #[65] #[3] false), size := 1, bytes := 8, zero := .nilFunc, cells := [.raw] }
def ti71 : TI := { desc := (Go.TypeDesc.array 32 5), size := 32, bytes := 32, zero := .agg #[.int .u8 0, .int .u8 0, .int .u8 0, .int .u8 0, .int .u8 0, .int .u8 0, .int .u8 0, .int .u8 0, .int .u8 0, .int .u8 0, .int .u8 0, .int .u8 0, .int .u8 0, .int .u8 0, .int .u8 0, .int .u8 0, .int .u8 0, .int .u8 0, .int .u8 0, .int .u8 0, .int .u8 0, .int .u8 0, .int .u8 0, .int .u8 0, .int .u8 0, .int .u8 0, .int .u8 0, .int .u8 0, .int .u8 0, .int .u8 0, .int .u8 0, .int .u8 0], cells := [.int .u8, .int .u8, .int .u8, .int .u8, .int .u8, .int .u8, .int .u8, .int .u8, .int .u8, .int .u8, .int .u8, .int .u8, .int .u8, .int .u8, .int .u8, .int .u8, .int .u8, .int .u8, .int .u8, .int .u8, .int .u8, .int .u8, .int .u8, .int .u8, .int .u8, .int .u8, .int .u8, .int .u8, .int .u8, .int .u8, .int .u8, .int .u8] }
def ti72 : TI := { desc := (Go.TypeDesc.array 64 5), size := 64, bytes := 64, zero := .agg #[.int .u8 0, .int .u8 0, .int .u8 0, .int .u8 0, .int .u8 0, .int .u8 0, .int .u8 0, .int .u8 0, .int .u8 0, .int .u8 0, .int .u8 0, .int .u8 0, .int .u8 0, .int .u8 0, .int .u8 0, .int .u8 0, .int .u8 0, .int .u8 0, .int .u8 0, .int .u8 0, .int .u8 0, .int .u8 0, .int .u8 0, .int .u8 0, .int .u8 0, .int .u8 0, .int .u8 0, .int .u8 0, .int .u8 0, .int .u8 0, .int .u8 0, .int .u8 0, .int .u8 0, .int .u8 0, .int .u8 0, .int .u8 0, .int .u8 0, .int .u8 0, .int .u8 0, .int .u8 0, .int .u8 0, .int .u8 0, .int .u8 0, .int .u8 0, .int .u8 0, .int .u8 0, .int .u8 0, .int .u8 0, .int .u8 0, .int .u8 0, .int .u8 0, .int .u8 0, .int .u8 0, .int .u8 0, .int .u8 0, .int .u8 0, .int .u8 0, .int .u8 0, .int .u8 0, .int .u8 0, .int .u8 0, .int .u8 0, .int .u8 0, .int .u8 0], cells := [.int .u8, .int .u8, .int .u8, .int .u8, .int .u8, .int .u8, .int .u8, .int .u8, .int .u8, .int .u8, .int .u8, .int .u8, .int .u8, .int .u8, .int .u8, .int .u8, .int .u8, .int .u8, .int .u8, .int .u8, .int .u8, .int .u8, .int .u8, .int .u8, .int .u8, .int .u8, .int .u8, .int .u8, .int .u8, .int .u8, .int .u8, .int .u8, .int .u8, .int .u8, .int .u8, .int .u8, .int .u8, .int .u8, .int .u8, .int .u8, .int .u8, .int .u8, .int .u8, .int .u8, .int .u8, .int .u8, .int .u8, .int .u8, .int .u8, .int .u8, .int .u8, .int .u8, .int .u8, .int .u8, .int .u8, .int .u8, .int .u8, .int .u8, .int .u8, .int .u8, .int .u8, .int .u8, .int .u8, .int .u8] }
def ti73 : TI := { desc := (Go.TypeDesc.func #[] #[9] false), size := 1, bytes := 8, zero := .nilFunc, cells := [.raw] }
def ti74 : TI := { desc := (Go.TypeDesc.struct #[{ name := "_interface", type := 17, offset := 0, embedded := false, tag := "", pkgPath := "runtime", byteOffset := 0 }, { name := "concrete", type := 17, offset := 1, embedded := false, tag := "", pkgPath := "runtime", byteOffset := 8 }, { name := "asserted", type := 17, offset := 2, embedded := false, tag := "", pkgPath := "runtime", byteOffset := 16 }, { name := "missingMethod", type := 9, offset := 3, embedded := false, tag := "", pkgPath := "runtime", byteOffset := 24 }]), size := 4, bytes := 40, zero := .agg #[.pointer none, .pointer none, .pointer none, .string ByteArray.empty], cells := [.raw, .raw, .raw, .str] }
def ti75 : TI := { desc := (Go.TypeDesc.struct #[{ name := "_interface", type := 17, offset := 0, embedded := false, tag := "", pkgPath := "runtime", byteOffset := 0 }, { name := "concrete", type := 17, offset := 1, embedded := false, tag := "", pkgPath := "runtime", byteOffset := 8 }, { name := "asserted", type := 17, offset := 2, embedded := false, tag := "", pkgPath := "runtime", byteOffset := 16 }, { name := "missingMethod", type := 9, offset := 3, embedded := false, tag := "", pkgPath := "runtime", byteOffset := 24 }]), size := 4, bytes := 40, zero := .agg #[.pointer none, .pointer none, .pointer none, .string ByteArray.empty], cells := [.raw, .raw, .raw, .str] }
def ti76 : TI := { desc := (Go.TypeDesc.array 0 16), size := 0, bytes := 0, zero := .agg #[], cells := [] }
def ti77 : TI := { desc := (Go.TypeDesc.struct #[{ name := "_", type := 76, offset := 0, embedded := false, tag := "", pkgPath := "runtime", byteOffset := 0 }]), size := 0, bytes := 0, zero := .agg #[], cells := [] }
def ti78 : TI := { desc := (Go.TypeDesc.struct #[{ name := "_", type := 76, offset := 0, embedded := false, tag := "", pkgPath := "runtime", byteOffset := 0 }]), size := 0, bytes := 0, zero := .agg #[], cells := [] }
def ti79 : TI := { desc := (Go.TypeDesc.func #[] #[3] false), size := 1, bytes := 8, zero := .nilFunc, cells := [.raw] }
def ti80 : TI := { desc := (Go.TypeDesc.int Go.IntKind.u8), size := 1, bytes := 1, zero := .int .u8 0, cells := [.int .u8] }
def ti81 : TI := { desc := (Go.TypeDesc.int Go.IntKind.u8), size := 1, bytes := 1, zero := .int .u8 0, cells := [.int .u8] }
def ti82 : TI := { desc := (Go.TypeDesc.func #[88, 88] #[4] false), size := 1, bytes := 8, zero := .nilFunc, cells := [.raw] }
def ti83 : TI := { desc := (Go.TypeDesc.pointer 5), size := 1, bytes := 8, zero := .pointer none, cells := [.raw] }
def ti84 : TI := { desc := (Go.TypeDesc.int Go.IntKind.i32), size := 1, bytes := 4, zero := .int .i32 0, cells := [.int .i32] }
def ti85 : TI := { desc := (Go.TypeDesc.int Go.IntKind.i32), size := 1, bytes := 4, zero := .int .i32 0, cells := [.int .i32] }
def ti86 : TI := { desc := (Go.TypeDesc.struct #[{ name := "Size_", type := 12, offset := 0, embedded := false, tag := "", pkgPath := "", byteOffset := 0 }, { name := "PtrBytes", type := 12, offset := 1, embedded := false, tag := "", pkgPath := "", byteOffset := 8 }, { name := "Hash", type := 65, offset := 2, embedded := false, tag := "", pkgPath := "", byteOffset := 16 }, { name := "TFlag", type := 80, offset := 3, embedded := false, tag := "", pkgPath := "", byteOffset := 20 }, { name := "Align_", type := 5, offset := 4, embedded := false, tag := "", pkgPath := "", byteOffset := 21 }, { name := "FieldAlign_", type := 5, offset := 5, embedded := false, tag := "", pkgPath := "", byteOffset := 22 }, { name := "Kind_", type := 81, offset := 6, embedded := false, tag := "", pkgPath := "", byteOffset := 23 }, { name := "Equal", type := 82, offset := 7, embedded := false, tag := "", pkgPath := "", byteOffset := 24 }, { name := "GCData", type := 83, offset := 8, embedded := false, tag := "", pkgPath := "", byteOffset := 32 }, { name := "Str", type := 84, offset := 9, embedded := false, tag := "", pkgPath := "", byteOffset := 40 }, { name := "PtrToThis", type := 85, offset := 10, embedded := false, tag := "", pkgPath := "", byteOffset := 44 }]), size := 11, bytes := 48, zero := .agg #[.int .u64 0, .int .u64 0, .int .u32 0, .int .u8 0, .int .u8 0, .int .u8 0, .int .u8 0, .nilFunc, .pointer none, .int .i32 0, .int .i32 0], cells := [.int .u64, .int .u64, .int .u32, .int .u8, .int .u8, .int .u8, .int .u8, .raw, .raw, .int .i32, .int .i32] }
def ti87 : TI := { desc := (Go.TypeDesc.struct #[{ name := "Size_", type := 12, offset := 0, embedded := false, tag := "", pkgPath := "", byteOffset := 0 }, { name := "PtrBytes", type := 12, offset := 1, embedded := false, tag := "", pkgPath := "", byteOffset := 8 }, { name := "Hash", type := 65, offset := 2, embedded := false, tag := "", pkgPath := "", byteOffset := 16 }, { name := "TFlag", type := 80, offset := 3, embedded := false, tag := "", pkgPath := "", byteOffset := 20 }, { name := "Align_", type := 5, offset := 4, embedded := false, tag := "", pkgPath := "", byteOffset := 21 }, { name := "FieldAlign_", type := 5, offset := 5, embedded := false, tag := "", pkgPath := "", byteOffset := 22 }, { name := "Kind_", type := 81, offset := 6, embedded := false, tag := "", pkgPath := "", byteOffset := 23 }, { name := "Equal", type := 82, offset := 7, embedded := false, tag := "", pkgPath := "", byteOffset := 24 }, { name := "GCData", type := 83, offset := 8, embedded := false, tag := "", pkgPath := "", byteOffset := 32 }, { name := "Str", type := 84, offset := 9, embedded := false, tag := "", pkgPath := "", byteOffset := 40 }, { name := "PtrToThis", type := 85, offset := 10, embedded := false, tag := "", pkgPath := "", byteOffset := 44 }]), size := 11, bytes := 48, zero := .agg #[.int .u64 0, .int .u64 0, .int .u32 0, .int .u8 0, .int .u8 0, .int .u8 0, .int .u8 0, .nilFunc, .pointer none, .int .i32 0, .int .i32 0], cells := [.int .u64, .int .u64, .int .u32, .int .u8, .int .u8, .int .u8, .int .u8, .raw, .raw, .int .i32, .int .i32] }
def ti88 : TI := { desc := Go.TypeDesc.unsafePointer, size := 1, bytes := 8, zero := .pointer none, cells := [.raw] }
def T_0 : TT
 | 1 => some ti1
 | 2 => some ti2
 | 3 => some ti3
 | 4 => some ti4
 | 5 => some ti5
 | 6 => some ti6
 | 7 => some ti7
 | 8 => some ti8
 | 9 => some ti9
 | 10 => some ti10
 | 11 => some ti11
 | 12 => some ti12
 | 13 => some ti13
 | 14 => some ti14
 | 15 => some ti15
 | 16 => some ti16
 | 17 => some ti17
 | 18 => some ti18
 | 19 => some ti19
 | 20 => some ti20
 | 21 => some ti21
 | 22 => some ti22
 | 23 => some ti23
 | 24 => some ti24
 | _ => none
def T_1 : TT
 | 25 => some ti25
 | 26 => some ti26
 | 27 => some ti27
 | 28 => some ti28
 | 29 => some ti29
 | 30 => some ti30
 | 31 => some ti31
 | 32 => some ti32
 | 33 => some ti33
 | 34 => some ti34
 | 35 => some ti35
 | 36 => some ti36
 | 37 => some ti37
 | 38 => some ti38
 | 39 => some ti39
 | 40 => some ti40
 | 42 => some ti42
 | 43 => some ti43
 | 44 => some ti44
 | 45 => some ti45
 | 46 => some ti46
 | 47 => some ti47
 | 48 => some ti48
 | 49 => some ti49
 | _ => none
def T_2 : TT
 | 50 => some ti50
 | 51 => some ti51
 | 52 => some ti52
 | 53 => some ti53
 | 54 => some ti54
 | 55 => some ti55
 | 56 => some ti56
 | 57 => some ti57
 | 58 => some ti58
 | 59 => some ti59
 | 61 => some ti61
 | 62 => some ti62
 | 63 => some ti63
 | 64 => some ti64
 | 65 => some ti65
 | 66 => some ti66
 | 67 => some ti67
 | 68 => some ti68
 | 69 => some ti69
 | 70 => some ti70
 | 71 => some ti71
 | 72 => some ti72
 | 73 => some ti73
 | 74 => some ti74
 | _ => none
def T_3 : TT
 | 75 => some ti75
 | 76 => some ti76
 | 77 => some ti77
 | 78 => some ti78
 | 79 => some ti79
 | 80 => some ti80
 | 81 => some ti81
 | 82 => some ti82
 | 83 => some ti83
 | 84 => some ti84
 | 85 => some ti85
 | 86 => some ti86
 | 87 => some ti87
 | 88 => some ti88
 | _ => none
def T : TT := fun t => if t ≤ 24 then T_0 t else if t ≤ 49 then T_1 t else if t ≤ 74 then T_2 t else T_3 t
theorem tok_0 : TOk Tryd.prog T_0 := by
 intro t ti h
 unfold T_0 at h
 split at h
 ·cases h; exact tok1 (by kernel_rfl) (by kernel_rfl) (by kernel_rfl)
 ·cases h; exact tok1 (by kernel_rfl) (by kernel_rfl) (by kernel_rfl)
 ·cases h; exact tok1 (by kernel_rfl) (by kernel_rfl) (by kernel_rfl)
 ·cases h; exact tok1 (by kernel_rfl) (by kernel_rfl) (by kernel_rfl)
 ·cases h; exact tok1 (by kernel_rfl) (by kernel_rfl) (by kernel_rfl)
 ·cases h; exact tok1 (by kernel_rfl) (by kernel_rfl) (by kernel_rfl)
 ·cases h; exact tok1 (by kernel_rfl) (by kernel_rfl) (by kernel_rfl)
 ·cases h; exact tok1 (by kernel_rfl) (by kernel_rfl) (by kernel_rfl)
 ·cases h; exact tok1 (by kernel_rfl) (by kernel_rfl) (by kernel_rfl)
 ·cases h; exact tok1 (by kernel_rfl) (by kernel_rfl) (by kernel_rfl)
 ·cases h; exact tok1 (by kernel_rfl) (by kernel_rfl) (by kernel_rfl)
 ·cases h; exact tok1 (by kernel_rfl) (by kernel_rfl) (by kernel_rfl)
 ·cases h; exact tok1 (by kernel_rfl) (by kernel_rfl) (by kernel_rfl)
 ·cases h; exact tok1 (by kernel_rfl) (by kernel_rfl) (by kernel_rfl)
 ·cases h; exact tok1 (by kernel_rfl) (by kernel_rfl) (by kernel_rfl)
 ·cases h; exact tok1 (by kernel_rfl) (by kernel_rfl) (by kernel_rfl)
 ·cases h; exact tok1 (by kernel_rfl) (by kernel_rfl) (by kernel_rfl)
 ·cases h; exact tok1 (by kernel_rfl) (by kernel_rfl) (by kernel_rfl)
 ·cases h; exact tok1 (by kernel_rfl) (by kernel_rfl) (by kernel_rfl)
 ·cases h; exact tok1 (by kernel_rfl) (by kernel_rfl) (by kernel_rfl)
 ·cases h; exact tok1 (by kernel_rfl) (by kernel_rfl) (by kernel_rfl)
 ·cases h; exact tok1 (by kernel_rfl) (by kernel_rfl) (by kernel_rfl)
 ·cases h; exact tok1 (by kernel_rfl) (by kernel_rfl) (by kernel_rfl)
 ·cases h; exact tok1 (by kernel_rfl) (by kernel_rfl) (by kernel_rfl)
 ·cases h
theorem tok_1 : TOk Tryd.prog T_1 := by
 intro t ti h
 unfold T_1 at h
 split at h
 ·cases h; exact tok1 (by kernel_rfl) (by kernel_rfl) (by kernel_rfl)
 ·cases h; exact tok1 (by kernel_rfl) (by kernel_rfl) (by kernel_rfl)
 ·cases h; exact tok1 (by kernel_rfl) (by kernel_rfl) (by kernel_rfl)
 ·cases h; exact tok1 (by kernel_rfl) (by kernel_rfl) (by kernel_rfl)
 ·cases h; exact tok1 (by kernel_rfl) (by kernel_rfl) (by kernel_rfl)
 ·cases h; exact tok1 (by kernel_rfl) (by kernel_rfl) (by kernel_rfl)
 ·cases h; exact tok1 (by kernel_rfl) (by kernel_rfl) (by kernel_rfl)
 ·cases h; exact tok1 (by kernel_rfl) (by kernel_rfl) (by kernel_rfl)
 ·cases h; exact tok1 (by kernel_rfl) (by kernel_rfl) (by kernel_rfl)
 ·cases h; exact tok1 (by kernel_rfl) (by kernel_rfl) (by kernel_rfl)
 ·cases h; exact tok1 (by kernel_rfl) (by kernel_rfl) (by kernel_rfl)
 ·cases h; exact tok1 (by kernel_rfl) (by kernel_rfl) (by kernel_rfl)
 ·cases h; exact tok1 (by kernel_rfl) (by kernel_rfl) (by kernel_rfl)
 ·cases h; exact tok1 (by kernel_rfl) (by kernel_rfl) (by kernel_rfl)
 ·cases h; exact tok1 (by kernel_rfl) (by kernel_rfl) (by kernel_rfl)
 ·cases h; exact tok1 (by kernel_rfl) (by kernel_rfl) (by kernel_rfl)
 ·cases h; exact tok1 (by kernel_rfl) (by kernel_rfl) (by kernel_rfl)
 ·cases h; exact tok1 (by kernel_rfl) (by kernel_rfl) (by kernel_rfl)
 ·cases h; exact tok1 (by kernel_rfl) (by kernel_rfl) (by kernel_rfl)
 ·cases h; exact tok1 (by kernel_rfl) (by kernel_rfl) (by kernel_rfl)
 ·cases h; exact tok1 (by kernel_rfl) (by kernel_rfl) (by kernel_rfl)
 ·cases h; exact tok1 (by kernel_rfl) (by kernel_rfl) (by kernel_rfl)
 ·cases h; exact tok1 (by kernel_rfl) (by kernel_rfl) (by kernel_rfl)
 ·cases h; exact tok1 (by kernel_rfl) (by kernel_rfl) (by kernel_rfl)
 ·cases h
theorem tok_2 : TOk Tryd.prog T_2 := by
 intro t ti h
 unfold T_2 at h
 split at h
 ·cases h; exact tok1 (by kernel_rfl) (by kernel_rfl) (by kernel_rfl)
 ·cases h; exact tok1 (by kernel_rfl) (by kernel_rfl) (by kernel_rfl)
 ·cases h; exact tok1 (by kernel_rfl) (by kernel_rfl) (by kernel_rfl)
 ·cases h; exact tok1 (by kernel_rfl) (by kernel_rfl) (by kernel_rfl)
 ·cases h; exact tok1 (by kernel_rfl) (by kernel_rfl) (by kernel_rfl)
 ·cases h; exact tok1 (by kernel_rfl) (by kernel_rfl) (by kernel_rfl)
 ·cases h; exact tok1 (by kernel_rfl) (by kernel_rfl) (by kernel_rfl)
 ·cases h; exact tok1 (by kernel_rfl) (by kernel_rfl) (by kernel_rfl)
 ·cases h; exact tok1 (by kernel_rfl) (by kernel_rfl) (by kernel_rfl)
 ·cases h; exact tok1 (by kernel_rfl) (by kernel_rfl) (by kernel_rfl)
 ·cases h; exact tok1 (by kernel_rfl) (by kernel_rfl) (by kernel_rfl)
 ·cases h; exact tok1 (by kernel_rfl) (by kernel_rfl) (by kernel_rfl)
 ·cases h; exact tok1 (by kernel_rfl) (by kernel_rfl) (by kernel_rfl)
 ·cases h; exact tok1 (by kernel_rfl) (by kernel_rfl) (by kernel_rfl)
 ·cases h; exact tok1 (by kernel_rfl) (by kernel_rfl) (by kernel_rfl)
 ·cases h; exact tok1 (by kernel_rfl) (by kernel_rfl) (by kernel_rfl)
 ·cases h; exact tok1 (by kernel_rfl) (by kernel_rfl) (by kernel_rfl)
 ·cases h; exact tok1 (by kernel_rfl) (by kernel_rfl) (by kernel_rfl)
 ·cases h; exact tok1 (by kernel_rfl) (by kernel_rfl) (by kernel_rfl)
 ·cases h; exact tok1 (by kernel_rfl) (by kernel_rfl) (by kernel_rfl)
 ·cases h; exact tok1 (by kernel_rfl) (by kernel_rfl) (by kernel_rfl)
 ·cases h; exact tok1 (by kernel_rfl) (by kernel_rfl) (by kernel_rfl)
 ·cases h; exact tok1 (by kernel_rfl) (by kernel_rfl) (by kernel_rfl)
 ·cases h; exact tok1 (by kernel_rfl) (by kernel_rfl) (by kernel_rfl)
 ·cases h
theorem tok_3 : TOk Tryd.prog T_3 := by
 intro t ti h
 unfold T_3 at h
 split at h
 ·cases h; exact tok1 (by kernel_rfl) (by kernel_rfl) (by kernel_rfl)
 ·cases h; exact tok1 (by kernel_rfl) (by kernel_rfl) (by kernel_rfl)
 ·cases h; exact tok1 (by kernel_rfl) (by kernel_rfl) (by kernel_rfl)
 ·cases h; exact tok1 (by kernel_rfl) (by kernel_rfl) (by kernel_rfl)
 ·cases h; exact tok1 (by kernel_rfl) (by kernel_rfl) (by kernel_rfl)
 ·cases h; exact tok1 (by kernel_rfl) (by kernel_rfl) (by kernel_rfl)
 ·cases h; exact tok1 (by kernel_rfl) (by kernel_rfl) (by kernel_rfl)
 ·cases h; exact tok1 (by kernel_rfl) (by kernel_rfl) (by kernel_rfl)
 ·cases h; exact tok1 (by kernel_rfl) (by kernel_rfl) (by kernel_rfl)
 ·cases h; exact tok1 (by kernel_rfl) (by kernel_rfl) (by kernel_rfl)
 ·cases h; exact tok1 (by kernel_rfl) (by kernel_rfl) (by kernel_rfl)
 ·cases h; exact tok1 (by kernel_rfl) (by kernel_rfl) (by kernel_rfl)
 ·cases h; exact tok1 (by kernel_rfl) (by kernel_rfl) (by kernel_rfl)
 ·cases h; exact tok1 (by kernel_rfl) (by kernel_rfl) (by kernel_rfl)
 ·cases h
theorem tok : TOk Tryd.prog T := by
 intro t ti h
 unfold T at h
 split at h
 ·exact tok_0 t ti h
 split at h
 ·exact tok_1 t ti h
 split at h
 ·exact tok_2 t ti h
 exact tok_3 t ti h
end Go.Proofs.YtcpcghnpoekhpaaDoor.A
/- The ghost machine at this program: a contract with no roots; the empty book. -/
set_option linter.unusedSimpArgs false
set_option linter.unusedVariables false
set_option maxRecDepth 100000
set_option maxHeartbeats 4000000
namespace Go.Proofs.YtcpcghnpoekhpaaDoor.A
open Go
def pc (f : FuncId) (args : List Arg) (ret : RV) : Prop := (std Tryd.prog T).pc f args ret []
def book0 : Book := fun _ _ => none
end Go.Proofs.YtcpcghnpoekhpaaDoor.A
/- Machines as cells: states with their edges. -/
set_option linter.unusedSimpArgs false
set_option linter.unusedVariables false
set_option maxRecDepth 100000
set_option maxHeartbeats 4000000
namespace Go.Proofs.YtcpcghnpoekhpaaDoor.A
open Go
abbrev Eg := Int × Int
abbrev Sta := Int × List Eg
def eC (l : List Eg) : List C := l.flatMap fun e => [vI e.1, vI e.2]
def nE (l : List Eg) : Nat := l.foldr (fun _ n => n + 1) 0
def mC (l : List Sta) : List C := l.flatMap fun s => [vI s.1, .sl (nE s.2) (eC s.2)]
def nM (l : List Sta) : Nat := l.foldr (fun _ n => n + 1) 0
theorem nE_eq (l : List Eg) : nE l = l.length := by unfold nE; induction l with | nil => rfl | cons x l ih => rw [List.foldr_cons, ih]; rfl
theorem nM_eq (l : List Sta) : nM l = l.length := by unfold nM; induction l with | nil => rfl | cons x l ih => rw [List.foldr_cons, ih]; rfl
abbrev eAt (l : List Eg) (k : Nat) : Eg := l.getD k (0, 0)
abbrev mAt (l : List Sta) (k : Nat) : Sta := l.getD k (0, [])
theorem eC_cons (f : Eg) (l : List Eg) : eC (f :: l) = vI f.1 :: vI f.2 :: eC l := rfl
theorem mC_cons (f : Sta) (l : List Sta) : mC (f :: l) = vI f.1 :: .sl (nE f.2) (eC f.2) :: mC l := rfl
theorem eC_len (l : List Eg) : (eC l).length = nE l * 2 := by
 rw [nE_eq]
 induction l with
 | nil => rfl
 | cons r l ih => rw [eC_cons, List.length_cons, List.length_cons, ih, List.length_cons]; omega
theorem mC_len (l : List Sta) : (mC l).length = nM l * 2 := by
 rw [nM_eq]
 induction l with
 | nil => rfl
 | cons r l ih => rw [mC_cons, List.length_cons, List.length_cons, ih, List.length_cons]; omega
theorem eC_at : ∀ (l : List Eg) (k : Nat), k < l.length → cellAt (eC l) (k * 2) = vI (eAt l k).1 ∧ cellAt (eC l) (k * 2 + 1) = vI (eAt l k).2 := by
 intro l
 induction l with
 | nil => intro k h; exact absurd h (by simp)
 | cons r l ih =>
  intro k h
  cases k with
  | zero => exact ⟨rfl, rfl⟩
  | succ k =>
   have := ih k (by simpa using h)
   rw [show (k + 1) * 2 = k * 2 + 1 + 1 by omega, eC_cons]
   exact this
theorem mC_at : ∀ (l : List Sta) (k : Nat), k < l.length → cellAt (mC l) (k * 2) = vI (mAt l k).1 ∧ cellAt (mC l) (k * 2 + 1) = .sl (nE (mAt l k).2) (eC (mAt l k).2) := by
 intro l
 induction l with
 | nil => intro k h; exact absurd h (by simp)
 | cons r l ih =>
  intro k h
  cases k with
  | zero => exact ⟨rfl, rfl⟩
  | succ k =>
   have := ih k (by simpa using h)
   rw [show (k + 1) * 2 = k * 2 + 1 + 1 by omega, mC_cons]
   exact this
theorem eC_snoc (l : List Eg) (a b : Int) : eC l ++ [vI a, vI b] = eC (l ++ [(a, b)]) := by simp [eC]
theorem mC_snoc (l : List Sta) (a : Int) (b : List Eg) : mC l ++ [vI a, .sl (nE b) (eC b)] = mC (l ++ [(a, b)]) := by simp [mC]
def egsGo : List C → List Eg
 | a :: b :: r => (gi a, gi b) :: egsGo r
 | _ => []
def egsOf (cs : List C) : List Eg := egsGo cs
theorem egsOf_eC (l : List Eg) : egsOf (eC l) = l := by
 unfold egsOf
 induction l with
 | nil => rfl
 | cons r l ih => rw [eC_cons, egsGo, ih]; rfl
def stsGo : List C → List Sta
 | a :: b :: r => (gi a, egsOf (gc b)) :: stsGo r
 | _ => []
def stsOf (cs : List C) : List Sta := stsGo cs
theorem stsOf_mC (l : List Sta) : stsOf (mC l) = l := by
 unfold stsOf
 induction l with
 | nil => rfl
 | cons r l ih =>
  rw [mC_cons, stsGo, ih]
  show (r.1, egsOf (eC r.2)) :: l = _
  rw [egsOf_eC]
theorem eAt_get {l : List Eg} {k : Nat} (h : k < l.length) : eAt l k = l[k] := by
 show l.getD k _ = _
 rw [List.getD_eq_getElem?_getD, List.getElem?_eq_getElem h]; rfl
theorem mAt_get {l : List Sta} {k : Nat} (h : k < l.length) : mAt l k = l[k] := by
 show l.getD k _ = _
 rw [List.getD_eq_getElem?_getD, List.getElem?_eq_getElem h]; rfl
theorem drop_eg {l : List Eg} {k : Nat} (h : k < l.length) : l.drop k = eAt l k :: l.drop (k + 1) := by rw [eAt_get h, List.drop_eq_getElem_cons h]
theorem drop_st {l : List Sta} {k : Nat} (h : k < l.length) : l.drop k = mAt l k :: l.drop (k + 1) := by rw [mAt_get h, List.drop_eq_getElem_cons h]
/-! ### which machines may be -/
def riseG (terms n : Int) : Int → List Eg → Bool
 | _, [] => true
 | last, e :: l => if last < e.1 ∧ e.1 < terms ∧ 0 ≤ e.2 ∧ e.2 < n then riseG terms n e.1 l else false
def riseM (l : List Eg) (terms n : Int) : Bool := riseG terms n (-1) l
def validG (terms n : Int) : List Sta → Bool
 | [] => true
 | s :: l => if -1 ≤ s.1 ∧ riseM s.2 terms n = true then validG terms n l else false
def validM (m : List Sta) (terms : Int) : Bool := validG terms m.length m && decide (0 < m.length)
def SzM (m : List Sta) : Prop := m.length ≤ 1000000000 ∧ ∀ s ∈ m, s.2.length ≤ 1000000000
theorem SzM.at {m : List Sta} (h : SzM m) {k : Nat} (hk : k < m.length) : (mAt m k).2.length ≤ 1000000000 := by rw [mAt_get hk]; exact h.2 _ (List.getElem_mem hk)
theorem pc_rising (l : List Eg) (terms n : Int) (hl : l.length ≤ 1000000000) : PC Tryd.prog T 35 [.v false [.sl (nE l) (eC l)], .v false [vI terms], .v false [vI n]] (ret1 (.st (vB (riseM l terms n)))) [] := by
 have hn := nE_eq l
 have hc := eC_len l
 have ha := eC_at l
 have hd := @drop_eg l
 have hr0 : riseM l terms n = riseG terms n (-1) l := rfl
 generalize riseM l terms n = R at hr0
 refine pc_of tok Tryd.func35 rfl (by rfl) ?_
 obtain ⟨j, hj⟩ : ∃ j : J, j = std Tryd.prog T := ⟨_, rfl⟩
 have hm : Tryd.prog.follows .mixedOrders = true := by kernel_rfl
 generalize y_eC : @eC = x_eC at *
 generalize y_nE : @nE = x_nE at *
 (repeat' first | ((first | with_reducible refine tr_cut (fun h => ?_) (fun h => ?_) | refine aw_condj (by cbv) (fun h => ?_) (fun h => ?_)) <;> (try simp (disch := omega) only [hj, std, cmpI, cmpB, satB, Bool.not_eq_true, Bool.not_eq_false, decide_eq_true_eq, decide_eq_false_iff_not, beq_iff_eq, bne_iff_ne, bne_eq_false_iff_eq, beq_eq_false_iff_ne, ne_eq, reduceCtorEq, not_true_eq_false, not_false_eq_true, pl0, if_true, cmpS_eq, cmpS_neq, Bool.not_eq_eq_eq_not, Bool.not_true, Bool.not_false, Bool.not_eq_true', add64, sub64] at h) <;> (try (exfalso; omega))) | (with_reducible refine tr_alt (fun h => ?_) ?_ <;> (try (exfalso; omega))) | (with_reducible first | refine tr_ob ?_ ?_ | refine tr_done ?_) | (refine aw_tr hj tok book0 (by cbv) ?_) | (refine aw_seq fun K hK => ?_) | (refine aw_tr1 hj tok book0 (by cbv) ?_) | (refine aw_skip ?_) | (refine aw_block ?_) | (refine aw_exit ?_) | (refine aw_ret ⟨.inr rfl, ret_okj hj (by cbv) ?_ ?_⟩) | (refine aw_ret ?_) | (with_reducible first | refine th_n ?_ | refine th_r ?_ | refine th_x ?_ | refine blk_n ?_ | refine blk_r ?_ | refine blk_x ?_ | refine blk_y rfl ?_) | (refine ⟨.inr rfl, ret_okj hj (by cbv) ?_ ?_⟩) | (refine ⟨.inl rfl, ret_okj hj (by cbv) ?_ ?_⟩) | (with_reducible first | refine ⟨(_, _), by cbv, ?_, ?_⟩ | refine ⟨_, by cbv, ?_, ?_⟩) | (with_reducible apply_assumption -symm -exfalso only [*]))
 all_goals ((try subst y_eC); (try subst y_nE))
 all_goals (try (repeat' first | with_reducible exact obl0 | (with_reducible refine obl1 ?_ ?_)))
 all_goals (try first | with_reducible exact True.intro | ((first | refine ob_le hj ?_ | refine ob_lei hj ?_ | refine ob_inb hj ?_ | refine ob_pos hj ?_ | refine ob_ne0 hj ?_ | refine ob_eqb hj ?_); (first | rfl | first | omega | (simp only [hj, std]; split <;> omega) | (simp (disch := omega) only [hj, std, cmpI, cmpB, satB, add64, sub64, ite0, pl0, pl2, pl3, sb0, if_true, if_false, eq_self] <;> omega) | (simp (disch := omega) [hj, std, cmpI, cmpB, satB, add64, sub64, ite0, pl0, pl2, pl3, sb0, if_true, if_false, eq_self] <;> omega))))
 refine aw_lpj hj [(0, .keep), (1, .keep), (2, .keep), (7, .keep), (10, .keep), (11, .keep), (12, .keep)] [] (fun (⟨k, q⟩ : Int × Int) => stOf 40 [(0, .one (.c (.sl (nE l) (eC l)))), (1, .one (.c (vI terms))), (2, .one (.c (vI n))), (7, .one (.c (vI q))), (10, .one (.c (.sl (nE l) (eC l)))), (11, .one (.c (vI (j.ofNat (nE l))))), (12, .one (.c (vI k)))] []) (fun (⟨k, q⟩ : Int × Int) => nE l - k.toNat) (fun (⟨k, q⟩ : Int × Int) => 0 ≤ k ∧ k ≤ nE l ∧ R = riseG terms n q (l.drop k.toNat)) ((0, -1)) (by generalize @eC = x_eC; generalize @nE = x_nE; cbv) ?_ (fun ⟨k, q⟩ hI => ?_)
 ·exact ⟨by omega, by omega, hr0⟩
 obtain ⟨i1, i2, hI⟩ := hI
 rcases Decidable.em (k < (nE l : Int)) with hk | hk
 ·obtain ⟨c0, c1⟩ := ha k.toNat (by omega)
  have f1 : (k + 1).toNat = k.toNat + 1 := by omega
  rw [hd (k := k.toNat) (by omega), ← f1] at hI
  have g0 : gi (cellAt (eC l) (k.toNat * 2)) = (eAt l k.toNat).1 := by rw [c0]; rfl
  have g1 : gi (cellAt (eC l) (k.toNat * 2 + 1)) = (eAt l k.toNat).2 := by rw [c1]; rfl
  generalize eAt l k.toNat = X at *
  obtain ⟨a, b⟩ := X
  dsimp only at c0 c1 g0 g1
  have hI2 : R = if q < a ∧ a < terms ∧ 0 ≤ b ∧ b < n then riseG terms n a (l.drop (k + 1).toNat) else false := hI
  have hyes : (q < a ∧ a < terms ∧ 0 ≤ b ∧ b < n) → R = riseG terms n a (l.drop (k + 1).toNat) := fun h => by rw [hI2, if_pos h]
  have hno : ¬ (q < a ∧ a < terms ∧ 0 ≤ b ∧ b < n) → R = false := fun h => by rw [hI2, if_neg h]
  clear hI hI2 ha hd
  generalize y_eC : @eC = x_eC at *
  generalize y_nE : @nE = x_nE at *
  (repeat' first | ((first | with_reducible refine tr_cut (fun h => ?_) (fun h => ?_) | refine aw_condj (by cbv) (fun h => ?_) (fun h => ?_)) <;> (try simp (disch := omega) only [hj, std, cmpI, cmpB, satB, Bool.not_eq_true, Bool.not_eq_false, decide_eq_true_eq, decide_eq_false_iff_not, beq_iff_eq, bne_iff_ne, bne_eq_false_iff_eq, beq_eq_false_iff_ne, ne_eq, reduceCtorEq, not_true_eq_false, not_false_eq_true, pl0, if_true, cmpS_eq, cmpS_neq, Bool.not_eq_eq_eq_not, Bool.not_true, Bool.not_false, Bool.not_eq_true', g0, g1, ite0, add64, sub64] at h) <;> (try (exfalso; omega))) | (with_reducible refine tr_alt (fun h => ?_) ?_ <;> (try (exfalso; omega))) | (with_reducible first | refine tr_ob ?_ ?_ | refine tr_done ?_) | (refine aw_tr hj tok book0 (by cbv) ?_) | (refine aw_seq fun K hK => ?_) | (refine aw_tr1 hj tok book0 (by cbv) ?_) | (refine aw_skip ?_) | (refine aw_block ?_) | (refine aw_exit ?_) | (refine aw_ret ⟨.inr rfl, ret_okj hj (by cbv) ?_ ?_⟩) | (refine aw_ret ?_) | (with_reducible first | refine th_n ?_ | refine th_r ?_ | refine th_x ?_ | refine blk_n ?_ | refine blk_r ?_ | refine blk_x ?_ | refine blk_y rfl ?_) | (refine ⟨.inr rfl, ret_okj hj (by cbv) ?_ ?_⟩) | (refine ⟨.inl rfl, ret_okj hj (by cbv) ?_ ?_⟩) | (with_reducible first | refine ⟨(_, _), by cbv, ?_, ?_⟩ | refine ⟨_, by cbv, ?_, ?_⟩) | (with_reducible apply_assumption -symm -exfalso only [*]))
  all_goals ((try subst y_eC); (try subst y_nE))
  all_goals (try (repeat' first | with_reducible exact obl0 | (with_reducible refine obl1 ?_ ?_)))
  all_goals (try first | with_reducible exact True.intro | ((first | refine ob_le hj ?_ | refine ob_lei hj ?_ | refine ob_inb hj ?_ | refine ob_pos hj ?_ | refine ob_ne0 hj ?_ | refine ob_eqb hj ?_); (first | rfl | first | omega | (simp only [hj, std]; split <;> omega) | (simp (disch := omega) only [hj, std, cmpI, cmpB, satB, add64, sub64, ite0, pl0, pl2, pl3, sb0, if_true, if_false, eq_self, hc, g0, g1] <;> omega) | (simp (disch := omega) [hj, std, cmpI, cmpB, satB, add64, sub64, ite0, pl0, pl2, pl3, sb0, if_true, if_false, eq_self, hc, g0, g1] <;> omega))) | ((refine ob_ok hj ?_; (try rw [hj]); simp only [std, ite0]; first | exact ⟨_, c0⟩ | exact ⟨_, c1⟩)) | ((rw [hno (by omega)]; exact rfl)) | ((simp (disch := omega) only [hj, std, add64, ite0, g0, g1]; first | omega | exact ⟨by omega, by omega, hyes (by omega)⟩)))
 ·have e : k.toNat = l.length := by omega
  rw [e, List.drop_length] at hI
  have hI : R = true := hI
  generalize y_eC : @eC = x_eC at *
  generalize y_nE : @nE = x_nE at *
  (repeat' first | ((first | with_reducible refine tr_cut (fun h => ?_) (fun h => ?_) | refine aw_condj (by cbv) (fun h => ?_) (fun h => ?_)) <;> (try simp (disch := omega) only [hj, std, cmpI, cmpB, satB, Bool.not_eq_true, Bool.not_eq_false, decide_eq_true_eq, decide_eq_false_iff_not, beq_iff_eq, bne_iff_ne, bne_eq_false_iff_eq, beq_eq_false_iff_ne, ne_eq, reduceCtorEq, not_true_eq_false, not_false_eq_true, pl0, if_true, cmpS_eq, cmpS_neq, Bool.not_eq_eq_eq_not, Bool.not_true, Bool.not_false, Bool.not_eq_true', add64, sub64] at h) <;> (try (exfalso; omega))) | (with_reducible refine tr_alt (fun h => ?_) ?_ <;> (try (exfalso; omega))) | (with_reducible first | refine tr_ob ?_ ?_ | refine tr_done ?_) | (refine aw_tr hj tok book0 (by cbv) ?_) | (refine aw_seq fun K hK => ?_) | (refine aw_tr1 hj tok book0 (by cbv) ?_) | (refine aw_skip ?_) | (refine aw_block ?_) | (refine aw_exit ?_) | (refine aw_ret ⟨.inr rfl, ret_okj hj (by cbv) ?_ ?_⟩) | (refine aw_ret ?_) | (with_reducible first | refine th_n ?_ | refine th_r ?_ | refine th_x ?_ | refine blk_n ?_ | refine blk_r ?_ | refine blk_x ?_ | refine blk_y rfl ?_) | (refine ⟨.inr rfl, ret_okj hj (by cbv) ?_ ?_⟩) | (refine ⟨.inl rfl, ret_okj hj (by cbv) ?_ ?_⟩) | (with_reducible first | refine ⟨(_, _), by cbv, ?_, ?_⟩ | refine ⟨_, by cbv, ?_, ?_⟩) | (with_reducible apply_assumption -symm -exfalso only [*]))
  all_goals ((try subst y_eC); (try subst y_nE))
  all_goals (try (repeat' first | with_reducible exact obl0 | with_reducible refine obl1 ?_ ?_))
  all_goals (try first | with_reducible exact True.intro | ((first | refine ob_le hj ?_ | refine ob_lei hj ?_ | refine ob_inb hj ?_ | refine ob_pos hj ?_ | refine ob_ne0 hj ?_ | refine ob_eqb hj ?_); (first | rfl | first | omega | (simp only [hj, std]; split <;> omega) | (simp (disch := omega) only [hj, std, cmpI, cmpB, satB, add64, sub64, ite0, pl0, pl2, pl3, sb0, if_true, if_false, eq_self] <;> omega) | (simp (disch := omega) [hj, std, cmpI, cmpB, satB, add64, sub64, ite0, pl0, pl2, pl3, sb0, if_true, if_false, eq_self] <;> omega))) | ((rw [hI]; exact rfl)))
end Go.Proofs.YtcpcghnpoekhpaaDoor.A
/- Maps of one's own that give each key of a list its place. -/
set_option linter.unusedSimpArgs false
set_option linter.unusedVariables false
set_option maxRecDepth 100000
set_option maxHeartbeats 4000000
namespace Go.Proofs.YtcpcghnpoekhpaaDoor.A
open Go
set_option linter.unusedSectionVars false
section
variable {α : Type} [DecidableEq α]
def inL (l : List α) (a : α) : Bool := l.any fun x => decide (x = a)
def ixL (l : List α) (a : α) : Nat := l.findIdx fun x => decide (x = a)
theorem inL_iff {l : List α} {a : α} : inL l a = true ↔ a ∈ l := by unfold inL; simp
theorem inL_not {l : List α} {a : α} : inL l a = false ↔ a ∉ l := by rw [← inL_iff]; simp
theorem ixL_lt {l : List α} {a : α} (h : inL l a = true) : ixL l a < l.length := by
 unfold ixL; exact List.findIdx_lt_length_of_exists (by obtain ⟨x, h1, h2⟩ := List.any_eq_true.1 h; exact ⟨x, h1, h2⟩)
theorem ixL_get {l : List α} {a : α} (h : inL l a = true) : l[ixL l a]'(ixL_lt h) = a := of_decide_eq_true (List.findIdx_getElem (w := ixL_lt h))
theorem inL_app (l : List α) (a b : α) : inL (l ++ [a]) b = (inL l b || decide (a = b)) := by unfold inL; simp
theorem ixL_app1 {l : List α} {b : α} (h : inL l b = true) (a : α) : ixL (l ++ [a]) b = ixL l b := by
 have := ixL_lt h
 unfold ixL at this ⊢
 rw [List.findIdx_append, if_pos this]
theorem ixL_app2 {l : List α} {a : α} (h : inL l a = false) : ixL (l ++ [a]) a = l.length := by
 have : ¬ ixL l a < l.length := fun q => by
  have h1 := List.findIdx_getElem (w := q)
  have h2 : a ∈ l := by
   have : l[ixL l a] = a := of_decide_eq_true h1
   rw [← this]; exact List.getElem_mem q
  rw [inL_not] at h; exact h h2
 unfold ixL at this ⊢
 rw [List.findIdx_append, if_neg this]
 simp
theorem ixL_inj {l : List α} {a b : α} (ha : inL l a = true) (hb : inL l b = true) (h : ixL l a = ixL l b) : a = b := by
 have h1 := ixL_get ha
 have h2 := ixL_get hb
 rw [← h1, ← h2]
 simp only [h]
structure MapA (f : α → Value) (m : GM) (l : List α) : Prop where
 ks : m.ks = l.map f
 vs : m.vs = (List.range l.length).map fun i : Nat => vI i
theorem MapA.new (f : α → Value) : MapA f GM.new [] := ⟨rfl, rfl⟩
variable {f : α → Value} (hf : ∀ a b, keq (f a) (f b) = decide (a = b))
include hf
theorem kidx_map (l : List α) (a : α) : kidx (l.map f) (f a) = if inL l a = true then some (ixL l a) else none := by
 unfold kidx
 have e : (List.findIdx? (keq (f a)) (l.map f)) = l.findIdx? fun x => decide (x = a) := by
  rw [List.findIdx?_map]
  congr 1
  funext x
  show keq (f a) (f x) = _
  rw [hf]
  exact decide_eq_decide.2 eq_comm
 rw [e]
 split
 ·rename_i h
  exact List.findIdx?_eq_some_of_exists (by obtain ⟨x, h1, h2⟩ := List.any_eq_true.1 h; exact ⟨x, h1, h2⟩)
 ·rename_i h
  rw [List.findIdx?_eq_none_iff]
  intro x hx
  exact decide_eq_false fun e => h (inL_iff.2 (e ▸ hx))
theorem MapA.has {m : GM} {l : List α} (h : MapA f m l) (a : α) : mhasC m.ks (f a) = inL l a := by
 unfold mhasC
 rw [h.ks, kidx_map hf]
 cases inL l a <;> rfl
theorem MapA.get {m : GM} {l : List α} (h : MapA f m l) {a : α} (ha : inL l a = true) : mgetC m.ks m.vs (f a) (vI 0) = vI (ixL l a : Nat) := by
 have hl := ixL_lt ha
 unfold mgetC
 rw [h.ks, h.vs, kidx_map hf, if_pos ha]
 show List.getD _ _ _ = _
 rw [List.getD_eq_getElem?_getD, List.getElem?_map, List.getElem?_range hl]; rfl
theorem MapA.got {m : GM} {l : List α} (h : MapA f m l) (a : α) : ∃ n : Int, mgetC m.ks m.vs (f a) (vI 0) = vI n ∧ (inL l a = true → n = ixL l a) := by
 cases ha : inL l a with
 | true => exact ⟨_, h.get hf ha, fun _ => rfl⟩
 | false =>
  refine ⟨0, ?_, fun h => by cases h⟩
  unfold mgetC
  rw [h.ks, kidx_map hf, ha]; rfl
theorem MapA.add {m : GM} {l : List α} (h : MapA f m l) {a : α} (ha : inL l a = false) {n : Int} (hn : n = l.length) : MapA f (m.set (f a) (vI n)) (l ++ [a]) := by
 have hk : kidx m.ks (f a) = none := by rw [h.ks, kidx_map hf, ha]; rfl
 have e : m.set (f a) (vI n) = m.put (f a) (vI n) := by unfold GM.set; rw [hk]
 rw [e]
 refine ⟨?_, ?_⟩
 ·show m.ks ++ [f a] = _
  rw [h.ks]; simp
 ·show m.vs ++ [vI n] = _
  rw [h.vs, List.length_append, List.length_singleton, List.range_succ, List.map_append, hn]; rfl
omit hf in
theorem MapA.len {m : GM} {l : List α} (h : MapA f m l) : m.ks.length = l.length := by rw [h.ks, List.length_map]
end
theorem keqA_str (a b : ByteArray) : keq (.string a) (.string b) = decide (a = b) := rfl
theorem keqA_i64 (a b : Int) : keq (.int .i64 a) (.int .i64 b) = decide (a = b) := rfl
end Go.Proofs.YtcpcghnpoekhpaaDoor.A
/-
 DERIVED: THE SHELF's CONTRACTS AT THIS DUMP, IN PLAIN WORDS (tools/lay-plain.mjs out of 'YtcpcghnpoekhpaaDoorShelfM.lean', which tools/lay-shelf.mjs wrote): THE SAME DECLARATIONS UNDER THE SAME NAMES: 'import', 'namespace', 'open', 'def', 'theorem' AND NOTHING ELSE: no command of the shelf's: FOR A HAND-IN. Each laying: the table of numbers ('.._ren') and one theorem, a field a fact of the dump's own or the kernel's comparison; each contract: ONE APPLICATION.
-/
namespace Go.Proofs
open Go.Shelf
def Tryd.laysM171_ren : Go.Shelf.Ren := ⟨fun | 171 => 34 | 243 => 36 | 246 => 37 | 283 => 38 | 284 => 39 | 285 => 40 | 286 => 41 | 129 => 43 | 317 => 42 | 318 => 44 | 319 => 45 | 320 => 46 | 337 => 47 | 338 => 48 | n => n, fun | 3 => 3 | 9 => 9 | 2 => 2 | 4 => 4 | 171 => 55 | 0 => 0 | 53 => 56 | 37 => 59 | 5 => 5 | 173 => 60 | 212 => 64 | 51 => 65 | 20 => 20 | 213 => 66 | 46 => 68 | 232 => 71 | 233 => 72 | n => n, fun | 17 => 0 | 18 => 1 | 19 => 2 | n => n⟩
theorem Tryd.laysM171 : Go.Proofs.LaysM.n171 Tryd.prog Tryd.laysM171_ren := {
 mixed := by kernel_rfl
 f129 := Tryd.func43.trans (congrArg some (by kernel_rfl))
 f171 := Tryd.func34.trans (congrArg some (by kernel_rfl))
 f243 := Tryd.func36.trans (congrArg some (by kernel_rfl))
 f246 := Tryd.func37.trans (congrArg some (by kernel_rfl))
 f283 := Tryd.func38.trans (congrArg some (by kernel_rfl))
 f284 := Tryd.func39.trans (congrArg some (by kernel_rfl))
 f285 := Tryd.func40.trans (congrArg some (by kernel_rfl))
 f286 := Tryd.func41.trans (congrArg some (by kernel_rfl))
 f317 := Tryd.func42.trans (congrArg some (by kernel_rfl))
 f318 := Tryd.func44.trans (congrArg some (by kernel_rfl))
 f319 := Tryd.func45.trans (congrArg some (by kernel_rfl))
 f320 := Tryd.func46.trans (congrArg some (by kernel_rfl))
 f337 := Tryd.func47.trans (congrArg some (by kernel_rfl))
 f338 := Tryd.func48.trans (congrArg some (by kernel_rfl))
 t0 := Tryd.underlying0
 a0 := Tryd.isAgg0
 z0 := Tryd.sizeOf0
 v0 := Tryd.zeroValue0
 t2 := Tryd.underlying2
 a2 := Tryd.isAgg2
 z2 := Tryd.sizeOf2
 v2 := Tryd.zeroValue2
 t3 := Tryd.underlying3
 a3 := Tryd.isAgg3
 z3 := Tryd.sizeOf3
 v3 := Tryd.zeroValue3
 t4 := Tryd.underlying4
 a4 := Tryd.isAgg4
 z4 := Tryd.sizeOf4
 v4 := Tryd.zeroValue4
 t5 := Tryd.underlying5
 a5 := Tryd.isAgg5
 z5 := Tryd.sizeOf5
 v5 := Tryd.zeroValue5
 t9 := Tryd.underlying9
 a9 := Tryd.isAgg9
 z9 := Tryd.sizeOf9
 v9 := Tryd.zeroValue9
 t20 := Tryd.underlying20
 a20 := Tryd.isAgg20
 z20 := Tryd.sizeOf20
 v20 := Tryd.zeroValue20
 t37 := Tryd.underlying59
 a37 := Tryd.isAgg59
 z37 := Tryd.sizeOf59
 v37 := Tryd.zeroValue59
 t46 := Tryd.underlying68
 a46 := Tryd.isAgg68
 z46 := Tryd.sizeOf68
 v46 := Tryd.zeroValue68
 t51 := Tryd.underlying65
 a51 := Tryd.isAgg65
 z51 := Tryd.sizeOf65
 v51 := Tryd.zeroValue65
 t53 := Tryd.underlying56
 a53 := Tryd.isAgg56
 z53 := Tryd.sizeOf56
 v53 := Tryd.zeroValue56
 t171 := Tryd.underlying55
 a171 := Tryd.isAgg55
 z171 := Tryd.sizeOf55
 v171 := Tryd.zeroValue55
 t173 := Tryd.underlying60
 a173 := Tryd.isAgg60
 z173 := Tryd.sizeOf60
 v173 := Tryd.zeroValue60
 t212 := Tryd.underlying64
 a212 := Tryd.isAgg64
 z212 := Tryd.sizeOf64
 v212 := Tryd.zeroValue64
 t213 := Tryd.underlying66
 a213 := Tryd.isAgg66
 z213 := Tryd.sizeOf66
 t232 := Tryd.underlying71
 a232 := Tryd.isAgg71
 z232 := Tryd.sizeOf71
 v232 := Tryd.zeroValue71
 t233 := Tryd.underlying72
 a233 := Tryd.isAgg72
 z233 := Tryd.sizeOf72
 v233 := Tryd.zeroValue72
 g17 := by kernel_rfl
 g18 := by kernel_rfl
 g19 := by kernel_rfl
 i0 := by kernel_rfl
 i2 := by kernel_rfl
 i3 := by kernel_rfl
 i4 := by kernel_rfl
 i5 := by kernel_rfl
 i9 := by kernel_rfl
 i20 := by kernel_rfl
 i37 := by kernel_rfl
 i46 := by kernel_rfl
 i51 := by kernel_rfl
 i53 := by kernel_rfl
 i171 := by kernel_rfl
 i173 := by kernel_rfl
 i212 := by kernel_rfl
 i232 := by kernel_rfl
 i233 := by kernel_rfl
 m17 := by kernel_rfl
 m18 := by kernel_rfl
 m19 := by kernel_rfl }
end Go.Proofs
/- Machines: numbers as texts (strconv.Itoa), and that a state's sign tells what it is made of. -/
set_option linter.unusedSimpArgs false
set_option linter.unusedVariables false
set_option maxRecDepth 100000
set_option maxHeartbeats 4000000
namespace Go.Proofs.YtcpcghnpoekhpaaDoor.A
open Go Go.RowKit
def itoaS (n : Int) : ByteArray := ⟨(Lib.itoa n).toArray⟩
set_option linter.unusedVariables false
theorem tab_of {name : String} (hn : Tryd.prog.globalNamed name = some 0) {w : World} {S : Nat → Prop} (h : Gnd w S) : Lib.TabIs Tryd.prog w name .u64 Lib.pow10Tab := by
 obtain ⟨_, e, z, hh⟩ := h
 unfold Lib.TabIs World.var?
 rw [hn]
 show (match w.heap[0]? with | some (.cells cs _ _) => some cs | _ => none) = _
 rw [hh]
 rfl
theorem c_Itoa (n : Int) (h0 : -9223372036854775808 ≤ n) (h1 : n ≤ 9223372036854775807) : pc 34 [.v false [vI n]] (ret1 (.st (vS (itoaS n)))) := by
 refine ⟨enters Tryd.func34 (by kernel_rfl) (by kernel_rfl), pc_of_calls rfl fun w S bx vs hlow hl ha => ?_⟩
 have hv : vs = [.int .i64 n] := by
  match vs, hl, ha with
  | [v], _, ha =>
   obtain ⟨c, hc, hr⟩ := ha 0 (by simp) (by simp)
   cases hc
   rw [show v = .int .i64 n from (crep_val hr).1]
  | [], hl, _ => cases hl
  | _ :: _ :: _, hl, _ => cases hl
 subst hv
 refine (Any.strconv_Itoa Tryd.laysM171 n h0 h1 w (tab_of (by kernel_rfl) hlow.2)).mono ?_
 rintro e w' ⟨rfl, k, os, rfl⟩
 exact ⟨rfl, ⟨rfl, rfl, rfl, by simp [Go.Sort.grow], fun b hb _ => by simp [Go.Sort.grow, Array.getElem?_append_left hb]⟩⟩
/-! ### a text of digits tells its number -/
def isSep (c : UInt8) : Bool := c = 32 || c = 58
def valD : List UInt8 → Nat := fun l => l.foldl (fun a c => 10 * a + (c.toNat - 48)) 0
theorem digs_val (n : Nat) : valD (Lib.decDigits n) = n := by
 induction n using Nat.strongRecOn with
 | ind n ih =>
  rw [Lib.decDigits]
  split
  ·rename_i h
   show 10 * 0 + ((UInt8.ofNat (48 + n)).toNat - 48) = n
   rw [UInt8.toNat_ofNat_of_lt' (by show 48 + n < 256; omega)]; omega
  ·rename_i h
   unfold valD at ih ⊢
   rw [List.foldl_append, ih (n / 10) (by omega)]
   show 10 * (n / 10) + ((UInt8.ofNat (48 + n % 10)).toNat - 48) = n
   rw [UInt8.toNat_ofNat_of_lt' (by show 48 + n % 10 < 256; omega)]; omega
theorem digs_ok (n : Nat) : ∀ c ∈ Lib.decDigits n, 48 ≤ c.toNat ∧ c.toNat ≤ 57 := by
 induction n using Nat.strongRecOn with
 | ind n ih =>
  rw [Lib.decDigits]
  split
  ·rename_i h
   intro c hc
   rw [List.mem_singleton.1 hc, UInt8.toNat_ofNat_of_lt' (by show 48 + n < 256; omega)]; omega
  ·rename_i h
   intro c hc
   rcases List.mem_append.1 hc with hc | hc
   ·exact ih (n / 10) (by omega) c hc
   ·rw [List.mem_singleton.1 hc, UInt8.toNat_ofNat_of_lt' (by show 48 + n % 10 < 256; omega)]; omega
theorem itoa_nosep (n : Int) : ∀ c ∈ Lib.itoa n, isSep c = false := by
 have key : ∀ c : UInt8, (48 ≤ c.toNat ∧ c.toNat ≤ 57) ∨ c = 45 → isSep c = false := fun c h => by
  unfold isSep
  rw [Bool.or_eq_false_iff]
  constructor
  ·refine decide_eq_false fun e => ?_
   subst e
   rcases h with h | h
   ·exact absurd h.1 (by decide)
   ·exact absurd h (by decide)
  ·refine decide_eq_false fun e => ?_
   subst e
   rcases h with h | h
   ·exact absurd h.2 (by decide)
   ·exact absurd h (by decide)
 intro c hc
 unfold Lib.itoa at hc
 split at hc
 ·rcases List.mem_cons.1 hc with h | h
  ·exact key c (.inr h)
  ·exact key c (.inl (digs_ok _ c h))
 ·exact key c (.inl (digs_ok _ c hc))
theorem itoa_inj {a b : Int} (h : Lib.itoa a = Lib.itoa b) : a = b := by
 unfold Lib.itoa at h
 have hne : ∀ n (l : List UInt8), Lib.decDigits n = 45 :: l → False := fun n l e => by
  have := digs_ok n 45 (by rw [e]; exact List.mem_cons_self ..)
  exact absurd this.1 (by decide)
 split at h <;> split at h
 ·have h := congrArg valD (List.cons.inj h).2
  rw [digs_val, digs_val] at h; omega
 ·exact absurd h.symm (fun e => hne _ _ e)
 ·exact absurd h (fun e => hne _ _ e)
 ·have h := congrArg valD h
  rw [digs_val, digs_val] at h; omega
def enc2 : List (UInt8 × Int) → List UInt8
 | [] => []
 | x :: l => x.1 :: (Lib.itoa x.2 ++ enc2 l)
theorem split_sep : ∀ {l l' r r' : List UInt8}, (∀ c ∈ l, isSep c = false) → (∀ c ∈ l', isSep c = false) → (∀ c t, r = c :: t → isSep c = true) → (∀ c t, r' = c :: t → isSep c = true) → l ++ r = l' ++ r' → l = l' ∧ r = r'
 | [], [], _, _, _, _, _, _, h => ⟨rfl, h⟩
 | [], c :: l', r, r', _, h2, h3, _, h => by
  have := h3 c (l' ++ r') h
  rw [h2 c (List.mem_cons_self ..)] at this; cases this
 | c :: l, [], r, r', h1, _, _, h4, h => by
  have := h4 c (l ++ r) h.symm
  rw [h1 c (List.mem_cons_self ..)] at this; cases this
 | c :: l, d :: l', r, r', h1, h2, h3, h4, h => by
  obtain ⟨e1, e2⟩ := List.cons.inj h
  obtain ⟨g1, g2⟩ := split_sep (fun x hx => h1 x (List.mem_cons_of_mem _ hx)) (fun x hx => h2 x (List.mem_cons_of_mem _ hx)) h3 h4 e2
  exact ⟨by rw [e1, g1], g2⟩
theorem enc2_head {L : List (UInt8 × Int)} (hL : ∀ x ∈ L, isSep x.1 = true) : ∀ c t, enc2 L = c :: t → isSep c = true := by
 intro c t h
 cases L with
 | nil => cases h
 | cons x L => rw [← (List.cons.inj h).1]; exact hL x (List.mem_cons_self ..)
theorem enc2_inj : ∀ {L L' : List (UInt8 × Int)} {a a' : Int}, (∀ x ∈ L, isSep x.1 = true) → (∀ x ∈ L', isSep x.1 = true) → Lib.itoa a ++ enc2 L = Lib.itoa a' ++ enc2 L' → a = a' ∧ L = L' := by
 intro L
 induction L with
 | nil =>
  intro L' a a' h1 h2 h
  obtain ⟨e1, e2⟩ := split_sep (itoa_nosep a) (itoa_nosep a') (enc2_head h1) (enc2_head h2) h
  refine ⟨itoa_inj e1, ?_⟩
  cases L' with
  | nil => rfl
  | cons x L' => cases e2
 | cons x L ih =>
  intro L' a a' h1 h2 h
  obtain ⟨e1, e2⟩ := split_sep (itoa_nosep a) (itoa_nosep a') (enc2_head h1) (enc2_head h2) h
  refine ⟨itoa_inj e1, ?_⟩
  cases L' with
  | nil => cases e2
  | cons y L' =>
   obtain ⟨g1, g2⟩ := List.cons.inj e2
   obtain ⟨q1, q2⟩ := ih (fun z hz => h1 z (List.mem_cons_of_mem _ hz)) (fun z hz => h2 z (List.mem_cons_of_mem _ hz)) g2
   rw [q2, show x = y from Prod.ext g1 q1]
end Go.Proofs.YtcpcghnpoekhpaaDoor.A
/- Machines: which may be; the small functions of the reference. -/
set_option linter.unusedSimpArgs false
set_option linter.unusedVariables false
set_option maxRecDepth 100000
set_option maxHeartbeats 4000000
namespace Go.Proofs.YtcpcghnpoekhpaaDoor.A
open Go
def riseC (cs : List C) (terms n : Int) : Bool := riseM (egsOf cs) terms n
def bookM1 (x_riseC : List C → Int → Int → Bool) : Book := fun f xs => match f, xs with
 | 35, [.v false [.sl _ cs], .v false [.val (.int _ t)], .v false [.val (.int _ q)]] => some (ret1 (.st (vB (x_riseC cs t q))), [])
 | _, _ => none
theorem c_rising (l : List Eg) (terms n : Int) (hl : l.length ≤ 1000000000) : pc 35 [.v false [.sl (nE l) (eC l)], .v false [vI terms], .v false [vI n]] (ret1 (.st (vB (riseC (eC l) terms n)))) := by
 refine ⟨enters Tryd.func35 (by kernel_rfl) (by kernel_rfl), ?_⟩
 unfold riseC; rw [egsOf_eC]; exact pc_rising l terms n hl
theorem pc_ValidT (m : List Sta) (terms : Int) (hs : SzM m) : PC Tryd.prog T 33 [.v false [.sl (nM m) (mC m)], .v false [vI terms]] (ret1 (.st (vB (validM m terms)))) [] := by
 have hn := nM_eq m
 have hc := mC_len m
 have ha := mC_at m
 have hd := @drop_st m
 have hz := @SzM.at m hs
 have hm := hs.1
 have hr0 : validM m terms = (validG terms (nM m) m && decide (0 < nM m)) := by rw [hn]; rfl
 generalize hR : validM m terms = R at hr0
 clear hR
 refine pc_of tok Tryd.func33 rfl (by rfl) ?_
 obtain ⟨j, hj⟩ : ∃ j : J, j = std Tryd.prog T := ⟨_, rfl⟩
 have hm : Tryd.prog.follows .mixedOrders = true := by kernel_rfl
 generalize y_riseC : @riseC = x_riseC at *
 generalize y_validG : @validG = x_validG at *
 generalize y_eC : @eC = x_eC at *
 generalize y_nE : @nE = x_nE at *
 generalize y_mC : @mC = x_mC at *
 generalize y_nM : @nM = x_nM at *
 (repeat' first | ((first | with_reducible refine tr_cut (fun h => ?_) (fun h => ?_) | refine aw_condj (by cbv) (fun h => ?_) (fun h => ?_)) <;> (try simp (disch := omega) only [hj, std, cmpI, cmpB, satB, Bool.not_eq_true, Bool.not_eq_false, decide_eq_true_eq, decide_eq_false_iff_not, beq_iff_eq, bne_iff_ne, bne_eq_false_iff_eq, beq_eq_false_iff_ne, ne_eq, reduceCtorEq, not_true_eq_false, not_false_eq_true, pl0, if_true, cmpS_eq, cmpS_neq, Bool.not_eq_eq_eq_not, Bool.not_true, Bool.not_false, Bool.not_eq_true', add64, sub64] at h) <;> (try (exfalso; omega))) | (with_reducible refine tr_alt (fun h => ?_) ?_ <;> (try (exfalso; omega))) | (with_reducible first | refine tr_ob ?_ ?_ | refine tr_done ?_) | (refine aw_tr hj tok (bookM1 x_riseC) (by cbv) ?_) | (refine aw_seq fun K hK => ?_) | (refine aw_tr1 hj tok (bookM1 x_riseC) (by cbv) ?_) | (refine aw_skip ?_) | (refine aw_block ?_) | (refine aw_exit ?_) | (refine aw_ret ⟨.inr rfl, ret_okj hj (by cbv) ?_ ?_⟩) | (refine aw_ret ?_) | (with_reducible first | refine th_n ?_ | refine th_r ?_ | refine th_x ?_ | refine blk_n ?_ | refine blk_r ?_ | refine blk_x ?_ | refine blk_y rfl ?_) | (refine ⟨.inr rfl, ret_okj hj (by cbv) ?_ ?_⟩) | (refine ⟨.inl rfl, ret_okj hj (by cbv) ?_ ?_⟩) | (with_reducible refine ⟨_, by cbv, ?_, ?_⟩) | (with_reducible apply_assumption -symm -exfalso only [*]))
 all_goals ((try subst y_riseC); (try subst y_validG); (try subst y_eC); (try subst y_nE); (try subst y_mC); (try subst y_nM))
 all_goals (try (repeat' first | with_reducible exact obl0 | (with_reducible refine obl1 ?_ ?_)))
 all_goals (try first | with_reducible exact True.intro | ((first | refine ob_le hj ?_ | refine ob_lei hj ?_ | refine ob_inb hj ?_ | refine ob_pos hj ?_ | refine ob_ne0 hj ?_ | refine ob_eqb hj ?_); (first | rfl | first | omega | (simp only [hj, std]; split <;> omega) | (simp (disch := omega) only [hj, std, cmpI, cmpB, satB, add64, sub64, ite0, pl0, pl2, pl3, sb0, if_true, if_false, eq_self] <;> omega) | (simp (disch := omega) [hj, std, cmpI, cmpB, satB, add64, sub64, ite0, pl0, pl2, pl3, sb0, if_true, if_false, eq_self] <;> omega))))
 refine aw_lpj hj [(0, .keep), (1, .keep), (7, .keep), (8, .keep), (9, .keep)] [] (fun (k : Int) => stOf 29 [(0, .one (.c (.sl (nM m) (mC m)))), (1, .one (.c (vI terms))), (7, .one (.c (.sl (nM m) (mC m)))), (8, .one (.c (vI (j.ofNat (nM m))))), (9, .one (.c (vI k)))] []) (fun (k : Int) => nM m - k.toNat) (fun (k : Int) => 0 ≤ k ∧ k ≤ nM m ∧ R = (validG terms (nM m) (m.drop k.toNat) && decide (0 < nM m))) (0) (by generalize @riseC = x_riseC; generalize @validG = x_validG; generalize @eC = x_eC; generalize @nE = x_nE; generalize @mC = x_mC; generalize @nM = x_nM; cbv) ?_ (fun k hI => ?_)
 ·exact ⟨by omega, by omega, hr0⟩
 obtain ⟨i1, i2, hI⟩ := hI
 rcases Decidable.em (k < (nM m : Int)) with hk | hk
 ·obtain ⟨c0, c1⟩ := ha k.toNat (by omega)
  have hz := hz (k := k.toNat) (by omega)
  have f1 : (k + 1).toNat = k.toNat + 1 := by omega
  rw [hd (k := k.toNat) (by omega), ← f1] at hI
  have cR := c_rising (mAt m k.toNat).2 terms (nM m) hz
  have g0 : gi (cellAt (mC m) (k.toNat * 2)) = (mAt m k.toNat).1 := by rw [c0]; rfl
  have g1 : gn (cellAt (mC m) (k.toNat * 2 + 1)) = nE (mAt m k.toNat).2 := by rw [c1]; rfl
  have g2 : gc (cellAt (mC m) (k.toNat * 2 + 1)) = eC (mAt m k.toNat).2 := by rw [c1]; rfl
  have e1 : riseC (eC (mAt m k.toNat).2) terms (nM m) = riseM (mAt m k.toNat).2 terms (nM m) := by unfold riseC; rw [egsOf_eC]
  generalize mAt m k.toNat = X at *
  obtain ⟨a, b⟩ := X
  dsimp only at c0 c1 g0 g1 g2 e1 cR
  have hI2 : R = ((if -1 ≤ a ∧ riseM b terms (nM m) = true then validG terms (nM m) (m.drop (k + 1).toNat) else false) && decide (0 < nM m)) := hI
  rw [← e1] at hI2
  have hyes : -1 ≤ a → riseC (eC b) terms (nM m) = true → R = (validG terms (nM m) (m.drop (k + 1).toNat) && decide (0 < nM m)) := fun h h2 => by rw [hI2, if_pos ⟨h, h2⟩]
  have hno : a < -1 → R = false := fun h => by rw [hI2, if_neg (fun h2 => by omega)]; rfl
  have hno2 : riseC (eC b) terms (nM m) = false → R = false := fun h => by rw [hI2, if_neg (fun h2 => by rw [h] at h2; cases h2.2)]; rfl
  clear hI hI2 ha hd e1
  generalize y_riseC : @riseC = x_riseC at *
  generalize y_validG : @validG = x_validG at *
  generalize y_eC : @eC = x_eC at *
  generalize y_nE : @nE = x_nE at *
  generalize y_mC : @mC = x_mC at *
  generalize y_nM : @nM = x_nM at *
  (repeat' first | ((first | with_reducible refine tr_cut (fun h => ?_) (fun h => ?_) | refine aw_condj (by cbv) (fun h => ?_) (fun h => ?_)) <;> (try simp (disch := omega) only [hj, std, cmpI, cmpB, satB, Bool.not_eq_true, Bool.not_eq_false, decide_eq_true_eq, decide_eq_false_iff_not, beq_iff_eq, bne_iff_ne, bne_eq_false_iff_eq, beq_eq_false_iff_ne, ne_eq, reduceCtorEq, not_true_eq_false, not_false_eq_true, pl0, if_true, cmpS_eq, cmpS_neq, Bool.not_eq_eq_eq_not, Bool.not_true, Bool.not_false, Bool.not_eq_true', g0, g1, g2, ite0, add64, sub64] at h) <;> (try (exfalso; omega))) | (with_reducible refine tr_alt (fun h => ?_) ?_ <;> (try (exfalso; omega))) | (with_reducible first | refine tr_ob ?_ ?_ | refine tr_done ?_) | (refine aw_tr hj tok (bookM1 x_riseC) (by cbv) ?_) | (refine aw_seq fun K hK => ?_) | (refine aw_tr1 hj tok (bookM1 x_riseC) (by cbv) ?_) | (refine aw_skip ?_) | (refine aw_block ?_) | (refine aw_exit ?_) | (refine aw_ret ⟨.inr rfl, ret_okj hj (by cbv) ?_ ?_⟩) | (refine aw_ret ?_) | (with_reducible first | refine th_n ?_ | refine th_r ?_ | refine th_x ?_ | refine blk_n ?_ | refine blk_r ?_ | refine blk_x ?_ | refine blk_y rfl ?_) | (refine ⟨.inr rfl, ret_okj hj (by cbv) ?_ ?_⟩) | (refine ⟨.inl rfl, ret_okj hj (by cbv) ?_ ?_⟩) | (with_reducible refine ⟨_, by cbv, ?_, ?_⟩) | (with_reducible apply_assumption -symm -exfalso only [*]))
  all_goals ((try subst y_riseC); (try subst y_validG); (try subst y_eC); (try subst y_nE); (try subst y_mC); (try subst y_nM))
  all_goals (try (repeat' first | with_reducible exact obl0 | (with_reducible refine obl1 ?_ ?_)))
  all_goals (try first | with_reducible exact True.intro | ((first | refine ob_pc hj ?_ | refine ob_pcn hj ?_); (try rw [hj]); first | exact cR | (simp only [std, g1, g2]; exact cR)) | ((first | refine ob_le hj ?_ | refine ob_lei hj ?_ | refine ob_inb hj ?_ | refine ob_pos hj ?_ | refine ob_ne0 hj ?_ | refine ob_eqb hj ?_); (first | rfl | first | omega | (simp only [hj, std]; split <;> omega) | (simp (disch := omega) only [hj, std, cmpI, cmpB, satB, add64, sub64, ite0, pl0, pl2, pl3, sb0, if_true, if_false, eq_self, hc, g0, g1, g2] <;> omega) | (simp (disch := omega) [hj, std, cmpI, cmpB, satB, add64, sub64, ite0, pl0, pl2, pl3, sb0, if_true, if_false, eq_self, hc, g0, g1, g2] <;> omega))) | ((refine ob_ok hj ?_; (try rw [hj]); simp only [std, ite0]; first | exact ⟨_, c0⟩ | exact .inr ⟨_, _, c1⟩)) | ((rw [hno (by omega)]; exact rfl)) | ((rw [hno2 (by assumption)]; exact rfl)) | ((simp (disch := omega) only [hj, std, add64, ite0, g0, g1]; first | omega | exact ⟨by omega, by omega, hyes (by omega) (by assumption)⟩)))
 ·have e : k.toNat = m.length := by omega
  rw [e, List.drop_length] at hI
  have hE : R = decide (0 < nM m) := hI
  generalize y_riseC : @riseC = x_riseC at *
  generalize y_validG : @validG = x_validG at *
  generalize y_eC : @eC = x_eC at *
  generalize y_nE : @nE = x_nE at *
  generalize y_mC : @mC = x_mC at *
  generalize y_nM : @nM = x_nM at *
  (repeat' first | ((first | with_reducible refine tr_cut (fun h => ?_) (fun h => ?_) | refine aw_condj (by cbv) (fun h => ?_) (fun h => ?_)) <;> (try simp (disch := omega) only [hj, std, cmpI, cmpB, satB, Bool.not_eq_true, Bool.not_eq_false, decide_eq_true_eq, decide_eq_false_iff_not, beq_iff_eq, bne_iff_ne, bne_eq_false_iff_eq, beq_eq_false_iff_ne, ne_eq, reduceCtorEq, not_true_eq_false, not_false_eq_true, pl0, if_true, cmpS_eq, cmpS_neq, Bool.not_eq_eq_eq_not, Bool.not_true, Bool.not_false, Bool.not_eq_true', add64, sub64] at h) <;> (try (exfalso; omega))) | (with_reducible refine tr_alt (fun h => ?_) ?_ <;> (try (exfalso; omega))) | (with_reducible first | refine tr_ob ?_ ?_ | refine tr_done ?_) | (refine aw_tr hj tok (bookM1 x_riseC) (by cbv) ?_) | (refine aw_seq fun K hK => ?_) | (refine aw_tr1 hj tok (bookM1 x_riseC) (by cbv) ?_) | (refine aw_skip ?_) | (refine aw_block ?_) | (refine aw_exit ?_) | (refine aw_ret ⟨.inr rfl, ret_okj hj (by cbv) ?_ ?_⟩) | (refine aw_ret ?_) | (with_reducible first | refine th_n ?_ | refine th_r ?_ | refine th_x ?_ | refine blk_n ?_ | refine blk_r ?_ | refine blk_x ?_ | refine blk_y rfl ?_) | (refine ⟨.inr rfl, ret_okj hj (by cbv) ?_ ?_⟩) | (refine ⟨.inl rfl, ret_okj hj (by cbv) ?_ ?_⟩) | (with_reducible refine ⟨_, by cbv, ?_, ?_⟩) | (with_reducible apply_assumption -symm -exfalso only [*]))
  all_goals ((try subst y_riseC); (try subst y_validG); (try subst y_eC); (try subst y_nE); (try subst y_mC); (try subst y_nM))
  all_goals (try (repeat' first | with_reducible exact obl0 | with_reducible refine obl1 ?_ ?_))
  all_goals (try first | with_reducible exact True.intro | ((first | refine ob_le hj ?_ | refine ob_lei hj ?_ | refine ob_inb hj ?_ | refine ob_pos hj ?_ | refine ob_ne0 hj ?_ | refine ob_eqb hj ?_); (first | rfl | first | omega | (simp only [hj, std]; split <;> omega) | (simp (disch := omega) only [hj, std, cmpI, cmpB, satB, add64, sub64, ite0, pl0, pl2, pl3, sb0, if_true, if_false, eq_self] <;> omega) | (simp (disch := omega) [hj, std, cmpI, cmpB, satB, add64, sub64, ite0, pl0, pl2, pl3, sb0, if_true, if_false, eq_self] <;> omega))) | ((refine r1b ?_; rw [hE]; simp [hj, std, cmpI])))
/-! ### the reference: small, Valid, fits -/
def fewM (m : List Sta) : Bool := decide (m.length ≤ 12 ∧ ∀ s ∈ m, s.2.length ≤ 6)
end Go.Proofs.YtcpcghnpoekhpaaDoor.A
/- Machines, the reference: Valid, Out, Go, fits. -/
set_option linter.unusedSimpArgs false
set_option linter.unusedVariables false
set_option maxRecDepth 100000
set_option maxHeartbeats 4000000
namespace Go.Proofs.YtcpcghnpoekhpaaDoor.A
open Go
theorem rise_step {l : List Eg} {terms n q : Int} {k : Nat} (h : k < l.length) : riseG terms n q (l.drop k) = if q < (eAt l k).1 ∧ (eAt l k).1 < terms ∧ 0 ≤ (eAt l k).2 ∧ (eAt l k).2 < n then riseG terms n (eAt l k).1 (l.drop (k + 1)) else false := by
 rw [drop_eg h]; rfl
def preE (l : List Eg) (k : Nat) : Int := if k = 0 then -1 else (eAt l (k - 1)).1
theorem pc_Valid24 (m : List Sta) (terms : Int) (hs : SzM m) : PC Tryd.prog T 12 [.v false [.sl (nM m) (mC m)], .v false [vI terms]] (ret1 (.st (vB (validM m terms)))) [] := by
 have hn := nM_eq m
 have hc := mC_len m
 have ha := mC_at m
 have hd := @drop_st m
 have hz := @SzM.at m hs
 have hm1 := hs.1
 have hr0 : validM m terms = (validG terms (nM m) m && decide (0 < nM m)) := by rw [hn]; rfl
 generalize hR : validM m terms = R at hr0
 clear hR
 refine pc_of tok Tryd.func12 rfl (by rfl) ?_
 obtain ⟨j, hj⟩ : ∃ j : J, j = std Tryd.prog T := ⟨_, rfl⟩
 have hm : Tryd.prog.follows .mixedOrders = true := by kernel_rfl
 rcases Nat.eq_zero_or_pos (nM m) with h0 | h0
 ·have hE : R = false := by rw [hr0, decide_eq_false (by omega), Bool.and_false]
  generalize y_validG : @validG = x_validG at *
  generalize y_eC : @eC = x_eC at *
  generalize y_nE : @nE = x_nE at *
  generalize y_mC : @mC = x_mC at *
  generalize y_nM : @nM = x_nM at *
  (repeat' first | ((first | with_reducible refine tr_cut (fun h => ?_) (fun h => ?_) | refine aw_condj (by cbv) (fun h => ?_) (fun h => ?_)) <;> (try simp (disch := omega) only [hj, std, cmpI, cmpB, satB, Bool.not_eq_true, Bool.not_eq_false, decide_eq_true_eq, decide_eq_false_iff_not, beq_iff_eq, bne_iff_ne, bne_eq_false_iff_eq, beq_eq_false_iff_ne, ne_eq, reduceCtorEq, not_true_eq_false, not_false_eq_true, pl0, if_true, cmpS_eq, cmpS_neq, Bool.not_eq_eq_eq_not, Bool.not_true, Bool.not_false, Bool.not_eq_true', Int.ofNat_eq_natCast, add64, sub64] at h) <;> (try (exfalso; omega))) | (with_reducible refine tr_alt (fun h => ?_) ?_ <;> (try (exfalso; omega))) | (with_reducible first | refine tr_ob ?_ ?_ | refine tr_done ?_) | (refine aw_tr hj tok book0 (by cbv) ?_) | (refine aw_seq fun K hK => ?_) | (refine aw_tr1 hj tok book0 (by cbv) ?_) | (refine aw_skip ?_) | (refine aw_block ?_) | (refine aw_exit ?_) | (refine aw_ret ⟨.inr rfl, ret_okj hj (by cbv) ?_ ?_⟩) | (refine aw_ret ?_) | (with_reducible first | refine th_n ?_ | refine th_r ?_ | refine th_x ?_ | refine blk_n ?_ | refine blk_r ?_ | refine blk_x ?_ | refine blk_y rfl ?_) | (refine ⟨.inr rfl, ret_okj hj (by cbv) ?_ ?_⟩) | (refine ⟨.inl rfl, ret_okj hj (by cbv) ?_ ?_⟩) | (with_reducible refine ⟨_, by cbv, ?_, ?_⟩) | (with_reducible apply_assumption -symm -exfalso only [*]))
  all_goals ((try subst y_validG); (try subst y_eC); (try subst y_nE); (try subst y_mC); (try subst y_nM))
  all_goals (try (repeat' first | with_reducible exact obl0 | (with_reducible refine obl1 ?_ ?_)))
  all_goals (try first | with_reducible exact True.intro | ((first | refine ob_le hj ?_ | refine ob_lei hj ?_ | refine ob_inb hj ?_ | refine ob_pos hj ?_ | refine ob_ne0 hj ?_ | refine ob_eqb hj ?_); (first | rfl | first | omega | (simp only [hj, std]; split <;> omega) | (simp (disch := omega) only [hj, std, cmpI, cmpB, satB, add64, sub64, ite0, pl0, pl2, pl3, sb0, if_true, if_false, eq_self] <;> omega) | (simp (disch := omega) [hj, std, cmpI, cmpB, satB, add64, sub64, ite0, pl0, pl2, pl3, sb0, if_true, if_false, eq_self] <;> omega))) | ((rw [hE]; exact rfl)))
 have hr0 : R = validG terms (nM m) m := by rw [hr0, decide_eq_true h0, Bool.and_true]
 generalize y_validG : @validG = x_validG at *
 generalize y_eC : @eC = x_eC at *
 generalize y_nE : @nE = x_nE at *
 generalize y_mC : @mC = x_mC at *
 generalize y_nM : @nM = x_nM at *
 (repeat' first | ((first | with_reducible refine tr_cut (fun h => ?_) (fun h => ?_) | refine aw_condj (by cbv) (fun h => ?_) (fun h => ?_)) <;> (try simp (disch := omega) only [hj, std, cmpI, cmpB, satB, Bool.not_eq_true, Bool.not_eq_false, decide_eq_true_eq, decide_eq_false_iff_not, beq_iff_eq, bne_iff_ne, bne_eq_false_iff_eq, beq_eq_false_iff_ne, ne_eq, reduceCtorEq, not_true_eq_false, not_false_eq_true, pl0, if_true, cmpS_eq, cmpS_neq, Bool.not_eq_eq_eq_not, Bool.not_true, Bool.not_false, Bool.not_eq_true', Int.ofNat_eq_natCast, add64, sub64] at h) <;> (try (exfalso; omega))) | (with_reducible refine tr_alt (fun h => ?_) ?_ <;> (try (exfalso; omega))) | (with_reducible first | refine tr_ob ?_ ?_ | refine tr_done ?_) | (refine aw_tr hj tok book0 (by cbv) ?_) | (refine aw_seq fun K hK => ?_) | (refine aw_tr1 hj tok book0 (by cbv) ?_) | (refine aw_skip ?_) | (refine aw_block ?_) | (refine aw_exit ?_) | (refine aw_ret ⟨.inr rfl, ret_okj hj (by cbv) ?_ ?_⟩) | (refine aw_ret ?_) | (with_reducible first | refine th_n ?_ | refine th_r ?_ | refine th_x ?_ | refine blk_n ?_ | refine blk_r ?_ | refine blk_x ?_ | refine blk_y rfl ?_) | (refine ⟨.inr rfl, ret_okj hj (by cbv) ?_ ?_⟩) | (refine ⟨.inl rfl, ret_okj hj (by cbv) ?_ ?_⟩) | (with_reducible refine ⟨_, by cbv, ?_, ?_⟩) | (with_reducible apply_assumption -symm -exfalso only [*]))
 all_goals ((try subst y_validG); (try subst y_eC); (try subst y_nE); (try subst y_mC); (try subst y_nM))
 all_goals (try (repeat' first | with_reducible exact obl0 | (with_reducible refine obl1 ?_ ?_)))
 all_goals (try first | with_reducible exact True.intro | ((first | refine ob_le hj ?_ | refine ob_lei hj ?_ | refine ob_inb hj ?_ | refine ob_pos hj ?_ | refine ob_ne0 hj ?_ | refine ob_eqb hj ?_); (first | rfl | first | omega | (simp only [hj, std]; split <;> omega) | (simp (disch := omega) only [hj, std, cmpI, cmpB, satB, add64, sub64, ite0, pl0, pl2, pl3, sb0, if_true, if_false, eq_self] <;> omega) | (simp (disch := omega) [hj, std, cmpI, cmpB, satB, add64, sub64, ite0, pl0, pl2, pl3, sb0, if_true, if_false, eq_self] <;> omega))))
 refine aw_lpj hj [(0, .keep), (1, .keep), (5, .keep)] [] (fun (k : Int) => stOf 81 [(0, .one (.c (.sl (nM m) (mC m)))), (1, .one (.c (vI terms))), (5, .one (.c (vI k)))] []) (fun (k : Int) => nM m - k.toNat) (fun (k : Int) => 0 ≤ k ∧ k ≤ nM m ∧ R = validG terms (nM m) (m.drop k.toNat)) (0) (by generalize @validG = x_validG; generalize @eC = x_eC; generalize @nE = x_nE; generalize @mC = x_mC; generalize @nM = x_nM; cbv) ?_ (fun k hI => ?_)
 ·exact ⟨by omega, by omega, hr0⟩
 obtain ⟨i1, i2, hI⟩ := hI
 rcases Decidable.em (k < (nM m : Int)) with hk | hk
 ·obtain ⟨c0, c1⟩ := ha k.toNat (by omega)
  have hz := hz (k := k.toNat) (by omega)
  have f1 : (k + 1).toNat = k.toNat + 1 := by omega
  rw [hd (k := k.toNat) (by omega), ← f1] at hI
  have g0 : gi (cellAt (mC m) (k.toNat * 2)) = (mAt m k.toNat).1 := by rw [c0]; rfl
  have g1 : gn (cellAt (mC m) (k.toNat * 2 + 1)) = nE (mAt m k.toNat).2 := by rw [c1]; rfl
  have g2 : gc (cellAt (mC m) (k.toNat * 2 + 1)) = eC (mAt m k.toNat).2 := by rw [c1]; rfl
  generalize mAt m k.toNat = X at *
  obtain ⟨a, b⟩ := X
  dsimp only at c0 c1 g0 g1 g2 hz
  have hI2 : R = (if -1 ≤ a ∧ riseG terms (nM m) (-1) b = true then validG terms (nM m) (m.drop (k + 1).toNat) else false) := hI
  have hyes : -1 ≤ a → riseG terms (nM m) (-1) b = true → R = validG terms (nM m) (m.drop (k + 1).toNat) := fun h h2 => by rw [hI2, if_pos ⟨h, h2⟩]
  have hno : a < -1 → R = false := fun h => by rw [hI2, if_neg (fun h2 => by omega)]
  have hno2 : riseG terms (nM m) (-1) b = false → R = false := fun h => by rw [hI2, if_neg (fun h2 => by rw [h] at h2; cases h2.2)]
  have hbn := nE_eq b
  have hbc := eC_len b
  have hba := eC_at b
  clear hI hI2 ha hd
  generalize y_validG : @validG = x_validG at *
  generalize y_eC : @eC = x_eC at *
  generalize y_nE : @nE = x_nE at *
  generalize y_mC : @mC = x_mC at *
  generalize y_nM : @nM = x_nM at *
  (repeat' first | ((first | with_reducible refine tr_cut (fun h => ?_) (fun h => ?_) | refine aw_condj (by cbv) (fun h => ?_) (fun h => ?_)) <;> (try simp (disch := omega) only [hj, std, cmpI, cmpB, satB, Bool.not_eq_true, Bool.not_eq_false, decide_eq_true_eq, decide_eq_false_iff_not, beq_iff_eq, bne_iff_ne, bne_eq_false_iff_eq, beq_eq_false_iff_ne, ne_eq, reduceCtorEq, not_true_eq_false, not_false_eq_true, pl0, if_true, cmpS_eq, cmpS_neq, Bool.not_eq_eq_eq_not, Bool.not_true, Bool.not_false, Bool.not_eq_true', g0, ite0, Int.ofNat_eq_natCast, add64, sub64] at h) <;> (try (exfalso; omega))) | (with_reducible refine tr_alt (fun h => ?_) ?_ <;> (try (exfalso; omega))) | (with_reducible first | refine tr_ob ?_ ?_ | refine tr_done ?_) | (refine aw_tr hj tok book0 (by cbv) ?_) | (refine aw_seq fun K hK => ?_) | (refine aw_tr1 hj tok book0 (by cbv) ?_) | (refine aw_skip ?_) | (refine aw_block ?_) | (refine aw_exit ?_) | (refine aw_ret ⟨.inr rfl, ret_okj hj (by cbv) ?_ ?_⟩) | (refine aw_ret ?_) | (with_reducible first | refine th_n ?_ | refine th_r ?_ | refine th_x ?_ | refine blk_n ?_ | refine blk_r ?_ | refine blk_x ?_ | refine blk_y rfl ?_) | (refine ⟨.inr rfl, ret_okj hj (by cbv) ?_ ?_⟩) | (refine ⟨.inl rfl, ret_okj hj (by cbv) ?_ ?_⟩) | (with_reducible refine ⟨_, by cbv, ?_, ?_⟩) | (with_reducible apply_assumption -symm -exfalso only [*]))
  all_goals ((try subst y_validG); (try subst y_eC); (try subst y_nE); (try subst y_mC); (try subst y_nM))
  all_goals (try (repeat' first | with_reducible exact obl0 | (with_reducible refine obl1 ?_ ?_)))
  all_goals (try first | with_reducible exact True.intro | ((first | refine ob_le hj ?_ | refine ob_lei hj ?_ | refine ob_inb hj ?_ | refine ob_pos hj ?_ | refine ob_ne0 hj ?_ | refine ob_eqb hj ?_); (first | rfl | first | omega | (simp only [hj, std]; split <;> omega) | (simp (disch := omega) only [hj, std, cmpI, cmpB, satB, add64, sub64, ite0, pl0, pl2, pl3, sb0, if_true, if_false, eq_self, hc, g0] <;> omega) | (simp (disch := omega) [hj, std, cmpI, cmpB, satB, add64, sub64, ite0, pl0, pl2, pl3, sb0, if_true, if_false, eq_self, hc, g0] <;> omega))) | ((refine ob_ok hj ?_; simp only [hj, std, ite0]; first | exact ⟨_, c0⟩ | exact .inr ⟨_, _, c1⟩)) | ((rw [hno (by omega)]; exact rfl)))
  refine aw_lpj hj [(0, .keep), (1, .keep), (5, .keep), (6, .keep)] [] (fun (i : Int) => stOf 81 [(0, .one (.c (.sl (nM m) (mC m)))), (1, .one (.c (vI terms))), (5, .one (.c (vI k))), (6, .one (.c (vI i)))] []) (fun (i : Int) => nE b - i.toNat) (fun (i : Int) => 0 ≤ i ∧ i ≤ nE b ∧ riseG terms (nM m) (-1) b = riseG terms (nM m) (preE b i.toNat) (b.drop i.toNat) ∧ (0 < i → 0 ≤ preE b i.toNat)) (0) (by generalize @validG = x_validG; generalize @eC = x_eC; generalize @nE = x_nE; generalize @mC = x_mC; generalize @nM = x_nM; cbv) ?_ (fun i hI => ?_)
  ·exact ⟨by omega, by omega, rfl, fun h => absurd h (by omega)⟩
  obtain ⟨q1, q2, hQ, hQ0⟩ := hI
  rcases Decidable.em (i < (nE b : Int)) with hi | hi
  ·obtain ⟨d0, d1⟩ := hba i.toNat (by omega)
   have f2 : (i + 1).toNat = i.toNat + 1 := by omega
   rw [rise_step (by omega)] at hQ
   have u0 : gi (cellAt (eC b) (i.toNat * 2)) = (eAt b i.toNat).1 := by rw [d0]; rfl
   have u1 : gi (cellAt (eC b) (i.toNat * 2 + 1)) = (eAt b i.toNat).2 := by rw [d1]; rfl
   have f3 : preE b (i.toNat + 1) = (eAt b i.toNat).1 := by unfold preE; rw [if_neg (by omega)]; rfl
   have hp0 : i = 0 → preE b i.toNat = -1 := fun h => by subst h; rfl
   have hp1 : 0 < i → okK (.int .i64) (cellAt (eC b) ((i - 1).toNat * 2)) ∧ gi (cellAt (eC b) ((i - 1).toNat * 2)) = preE b i.toNat := fun h => by
    obtain ⟨d2, _⟩ := hba (i - 1).toNat (by omega)
    refine ⟨⟨_, d2⟩, ?_⟩
    rw [d2]
    unfold preE
    rw [if_neg (by omega), show i.toNat - 1 = (i - 1).toNat by omega]; rfl
   rw [← f3, ← f2] at hQ
   generalize eAt b i.toNat = X at *
   obtain ⟨s, t⟩ := X
   dsimp only at d0 d1 u0 u1 f3 hQ
   generalize preE b i.toNat = pq at *
   rw [← f2] at f3
   have f4 : preE b (i + 1).toNat = s := f3
   rw [f3] at hQ
   clear f3
   obtain ⟨pr, rfl⟩ : ∃ pr, pr = s := ⟨_, rfl⟩
   have hq1 : (pq < pr ∧ pr < terms ∧ 0 ≤ t ∧ t < (nM m : Int)) → riseG terms (nM m) (-1) b = riseG terms (nM m) pr (b.drop (i + 1).toNat) := fun h => by rw [hQ, if_pos h]
   have hq2 : ¬ (pq < pr ∧ pr < terms ∧ 0 ≤ t ∧ t < (nM m : Int)) → R = false := fun h => hno2 (by rw [hQ, if_neg h])
   clear hQ hba hyes hno hno2
   rcases Decidable.em (0 < i) with hip | hip
   ·obtain ⟨p1, p2⟩ := hp1 hip
    have hQ0 := hQ0 hip
    clear hp0 hp1
    generalize y_validG : @validG = x_validG at *
    generalize y_eC : @eC = x_eC at *
    generalize y_nE : @nE = x_nE at *
    generalize y_mC : @mC = x_mC at *
    generalize y_nM : @nM = x_nM at *
    (repeat' first | ((first | with_reducible refine tr_cut (fun h => ?_) (fun h => ?_) | refine aw_condj (by cbv) (fun h => ?_) (fun h => ?_)) <;> (try simp (disch := omega) only [hj, std, cmpI, cmpB, satB, Bool.not_eq_true, Bool.not_eq_false, decide_eq_true_eq, decide_eq_false_iff_not, beq_iff_eq, bne_iff_ne, bne_eq_false_iff_eq, beq_eq_false_iff_ne, ne_eq, reduceCtorEq, not_true_eq_false, not_false_eq_true, pl0, if_true, cmpS_eq, cmpS_neq, Bool.not_eq_eq_eq_not, Bool.not_true, Bool.not_false, Bool.not_eq_true', g0, g1, g2, u0, u1, p2, ite0, sub64, Int.ofNat_eq_natCast, add64, sub64] at h) <;> (try (exfalso; omega))) | (with_reducible refine tr_alt (fun h => ?_) ?_ <;> (try (exfalso; omega))) | (with_reducible first | refine tr_ob ?_ ?_ | refine tr_done ?_) | (refine aw_dr1 (id := 12) hj tok hm book0 true [(0, true), (1, true), (2, true), (3, true), (4, false), (5, false), (6, true), (7, true), (8, true), (9, true), (10, true), (11, true), (12, true), (13, true), (14, true), (15, false), (16, false), (17, true), (18, true), (19, true), (20, true), (21, true), (22, true), (23, true), (24, true), (25, false), (26, false), (27, false), (28, false), (29, false), (30, false), (31, false), (32, true), (33, true), (34, true), (35, true), (36, true), (37, true), (38, true), (39, true)] (by kernel_rfl) (by cbv) ?_) | (refine aw_dr (id := 12) hj tok hm book0 true [(0, true), (1, true), (2, true), (3, true), (4, false), (5, false), (6, true), (7, true), (8, true), (9, true), (10, true), (11, true), (12, true), (13, true), (14, true), (15, false), (16, false), (17, true), (18, true), (19, true), (20, true), (21, true), (22, true), (23, true), (24, true), (25, false), (26, false), (27, false), (28, false), (29, false), (30, false), (31, false), (32, true), (33, true), (34, true), (35, true), (36, true), (37, true), (38, true), (39, true)] (by kernel_rfl) (by cbv) ?_) | (refine aw_tr hj tok book0 (by cbv) ?_) | (refine aw_seq fun K hK => ?_) | (refine aw_tr1 hj tok book0 (by cbv) ?_) | (refine aw_skip ?_) | (refine aw_block ?_) | (refine aw_exit ?_) | (refine aw_ret ⟨.inr rfl, ret_okj hj (by cbv) ?_ ?_⟩) | (refine aw_ret ?_) | (with_reducible first | refine th_n ?_ | refine th_r ?_ | refine th_x ?_ | refine blk_n ?_ | refine blk_r ?_ | refine blk_x ?_ | refine blk_y rfl ?_) | (refine ⟨.inr rfl, ret_okj hj (by cbv) ?_ ?_⟩) | (refine ⟨.inl rfl, ret_okj hj (by cbv) ?_ ?_⟩) | (with_reducible refine ⟨_, by cbv, ?_, ?_⟩) | (with_reducible apply_assumption -symm -exfalso only [*]))
    all_goals ((try subst y_validG); (try subst y_eC); (try subst y_nE); (try subst y_mC); (try subst y_nM))
    all_goals (try (repeat' first | with_reducible exact obl0 | (with_reducible refine obl1 ?_ ?_)))
    all_goals (try first | with_reducible exact True.intro | ((first | refine ob_le hj ?_ | refine ob_lei hj ?_ | refine ob_inb hj ?_ | refine ob_pos hj ?_ | refine ob_ne0 hj ?_ | refine ob_eqb hj ?_); (first | rfl | first | omega | (simp only [hj, std]; split <;> omega) | (simp (disch := omega) only [hj, std, cmpI, cmpB, satB, add64, sub64, ite0, pl0, pl2, pl3, sb0, if_true, if_false, eq_self, hc, hbc, g0, g1, g2, u0, u1, p2] <;> omega) | (simp (disch := omega) [hj, std, cmpI, cmpB, satB, add64, sub64, ite0, pl0, pl2, pl3, sb0, if_true, if_false, eq_self, hc, hbc, g0, g1, g2, u0, u1, p2] <;> omega))) | ((refine ob_ok hj ?_; simp (disch := omega) only [hj, std, sub64, ite0, g1, g2]; first | exact ⟨_, c0⟩ | exact .inr ⟨_, _, c1⟩ | exact ⟨_, d0⟩ | exact ⟨_, d1⟩ | exact p1)) | ((rw [hq2 (by omega)]; exact rfl)) | ((simp (disch := omega) only [hj, std, add64, ite0]; first | omega | (rw [f4]; exact ⟨by omega, by omega, hq1 (by omega), fun _ => by omega⟩))))
   ·have hp0 := hp0 (by omega)
    clear hp1 hQ0
    generalize y_validG : @validG = x_validG at *
    generalize y_eC : @eC = x_eC at *
    generalize y_nE : @nE = x_nE at *
    generalize y_mC : @mC = x_mC at *
    generalize y_nM : @nM = x_nM at *
    (repeat' first | ((first | with_reducible refine tr_cut (fun h => ?_) (fun h => ?_) | refine aw_condj (by cbv) (fun h => ?_) (fun h => ?_)) <;> (try simp (disch := omega) only [hj, std, cmpI, cmpB, satB, Bool.not_eq_true, Bool.not_eq_false, decide_eq_true_eq, decide_eq_false_iff_not, beq_iff_eq, bne_iff_ne, bne_eq_false_iff_eq, beq_eq_false_iff_ne, ne_eq, reduceCtorEq, not_true_eq_false, not_false_eq_true, pl0, if_true, cmpS_eq, cmpS_neq, Bool.not_eq_eq_eq_not, Bool.not_true, Bool.not_false, Bool.not_eq_true', g0, g1, g2, u0, u1, ite0, Int.ofNat_eq_natCast, add64, sub64] at h) <;> (try (exfalso; omega))) | (with_reducible refine tr_alt (fun h => ?_) ?_ <;> (try (exfalso; omega))) | (with_reducible first | refine tr_ob ?_ ?_ | refine tr_done ?_) | (refine aw_dr1 (id := 12) hj tok hm book0 true [(0, true), (1, true), (2, true), (3, true), (4, false), (5, false), (6, true), (7, true), (8, true), (9, true), (10, true), (11, true), (12, true), (13, true), (14, true), (15, false), (16, false), (17, true), (18, true), (19, true), (20, true), (21, true), (22, true), (23, true), (24, true), (25, false), (26, false), (27, false), (28, false), (29, false), (30, false), (31, false), (32, true), (33, true), (34, true), (35, true), (36, true), (37, true), (38, true), (39, true)] (by kernel_rfl) (by cbv) ?_) | (refine aw_dr (id := 12) hj tok hm book0 true [(0, true), (1, true), (2, true), (3, true), (4, false), (5, false), (6, true), (7, true), (8, true), (9, true), (10, true), (11, true), (12, true), (13, true), (14, true), (15, false), (16, false), (17, true), (18, true), (19, true), (20, true), (21, true), (22, true), (23, true), (24, true), (25, false), (26, false), (27, false), (28, false), (29, false), (30, false), (31, false), (32, true), (33, true), (34, true), (35, true), (36, true), (37, true), (38, true), (39, true)] (by kernel_rfl) (by cbv) ?_) | (refine aw_tr hj tok book0 (by cbv) ?_) | (refine aw_seq fun K hK => ?_) | (refine aw_tr1 hj tok book0 (by cbv) ?_) | (refine aw_skip ?_) | (refine aw_block ?_) | (refine aw_exit ?_) | (refine aw_ret ⟨.inr rfl, ret_okj hj (by cbv) ?_ ?_⟩) | (refine aw_ret ?_) | (with_reducible first | refine th_n ?_ | refine th_r ?_ | refine th_x ?_ | refine blk_n ?_ | refine blk_r ?_ | refine blk_x ?_ | refine blk_y rfl ?_) | (refine ⟨.inr rfl, ret_okj hj (by cbv) ?_ ?_⟩) | (refine ⟨.inl rfl, ret_okj hj (by cbv) ?_ ?_⟩) | (with_reducible refine ⟨_, by cbv, ?_, ?_⟩) | (with_reducible apply_assumption -symm -exfalso only [*]))
    all_goals ((try subst y_validG); (try subst y_eC); (try subst y_nE); (try subst y_mC); (try subst y_nM))
    all_goals (try (repeat' first | with_reducible exact obl0 | (with_reducible refine obl1 ?_ ?_)))
    all_goals (try first | with_reducible exact True.intro | ((first | refine ob_le hj ?_ | refine ob_lei hj ?_ | refine ob_inb hj ?_ | refine ob_pos hj ?_ | refine ob_ne0 hj ?_ | refine ob_eqb hj ?_); (first | rfl | first | omega | (simp only [hj, std]; split <;> omega) | (simp (disch := omega) only [hj, std, cmpI, cmpB, satB, add64, sub64, ite0, pl0, pl2, pl3, sb0, if_true, if_false, eq_self, hc, hbc, g0, g1, g2, u0, u1] <;> omega) | (simp (disch := omega) [hj, std, cmpI, cmpB, satB, add64, sub64, ite0, pl0, pl2, pl3, sb0, if_true, if_false, eq_self, hc, hbc, g0, g1, g2, u0, u1] <;> omega))) | ((refine ob_ok hj ?_; simp only [hj, std, ite0, g1, g2]; first | exact ⟨_, c0⟩ | exact .inr ⟨_, _, c1⟩ | exact ⟨_, d0⟩ | exact ⟨_, d1⟩)) | ((rw [hq2 (by omega)]; exact rfl)) | ((simp (disch := omega) only [hj, std, add64, ite0]; first | omega | (rw [f4]; exact ⟨by omega, by omega, hq1 (by omega), fun _ => by omega⟩))))
  ·have e : i.toNat = b.length := by omega
   rw [e, List.drop_length] at hQ
   have hQ : riseG terms (nM m) (-1) b = true := hQ
   have hyes := fun h => hyes h hQ
   generalize y_validG : @validG = x_validG at *
   generalize y_eC : @eC = x_eC at *
   generalize y_nE : @nE = x_nE at *
   generalize y_mC : @mC = x_mC at *
   generalize y_nM : @nM = x_nM at *
   (repeat' first | ((first | with_reducible refine tr_cut (fun h => ?_) (fun h => ?_) | refine aw_condj (by cbv) (fun h => ?_) (fun h => ?_)) <;> (try simp (disch := omega) only [hj, std, cmpI, cmpB, satB, Bool.not_eq_true, Bool.not_eq_false, decide_eq_true_eq, decide_eq_false_iff_not, beq_iff_eq, bne_iff_ne, bne_eq_false_iff_eq, beq_eq_false_iff_ne, ne_eq, reduceCtorEq, not_true_eq_false, not_false_eq_true, pl0, if_true, cmpS_eq, cmpS_neq, Bool.not_eq_eq_eq_not, Bool.not_true, Bool.not_false, Bool.not_eq_true', g1, ite0, Int.ofNat_eq_natCast, add64, sub64] at h) <;> (try (exfalso; omega))) | (with_reducible refine tr_alt (fun h => ?_) ?_ <;> (try (exfalso; omega))) | (with_reducible first | refine tr_ob ?_ ?_ | refine tr_done ?_) | (refine aw_tr hj tok book0 (by cbv) ?_) | (refine aw_seq fun K hK => ?_) | (refine aw_tr1 hj tok book0 (by cbv) ?_) | (refine aw_skip ?_) | (refine aw_block ?_) | (refine aw_exit ?_) | (refine aw_ret ⟨.inr rfl, ret_okj hj (by cbv) ?_ ?_⟩) | (refine aw_ret ?_) | (with_reducible first | refine th_n ?_ | refine th_r ?_ | refine th_x ?_ | refine blk_n ?_ | refine blk_r ?_ | refine blk_x ?_ | refine blk_y rfl ?_) | (refine ⟨.inr rfl, ret_okj hj (by cbv) ?_ ?_⟩) | (refine ⟨.inl rfl, ret_okj hj (by cbv) ?_ ?_⟩) | (with_reducible refine ⟨_, by cbv, ?_, ?_⟩) | (with_reducible apply_assumption -symm -exfalso only [*]))
   all_goals ((try subst y_validG); (try subst y_eC); (try subst y_nE); (try subst y_mC); (try subst y_nM))
   all_goals (try (repeat' first | with_reducible exact obl0 | (with_reducible refine obl1 ?_ ?_)))
   all_goals (try first | with_reducible exact True.intro | ((first | refine ob_le hj ?_ | refine ob_lei hj ?_ | refine ob_inb hj ?_ | refine ob_pos hj ?_ | refine ob_ne0 hj ?_ | refine ob_eqb hj ?_); (first | rfl | first | omega | (simp only [hj, std]; split <;> omega) | (simp (disch := omega) only [hj, std, cmpI, cmpB, satB, add64, sub64, ite0, pl0, pl2, pl3, sb0, if_true, if_false, eq_self, hc, g1] <;> omega) | (simp (disch := omega) [hj, std, cmpI, cmpB, satB, add64, sub64, ite0, pl0, pl2, pl3, sb0, if_true, if_false, eq_self, hc, g1] <;> omega))) | ((refine ob_ok hj ?_; simp only [hj, std, ite0, g1, g2]; first | exact ⟨_, c0⟩ | exact .inr ⟨_, _, c1⟩)) | ((simp (disch := omega) only [hj, std, add64, ite0]; first | omega | exact ⟨by omega, by omega, hyes (by omega)⟩)))
 ·have e : k.toNat = m.length := by omega
  rw [e, List.drop_length] at hI
  have hE : R = true := hI
  generalize y_validG : @validG = x_validG at *
  generalize y_eC : @eC = x_eC at *
  generalize y_nE : @nE = x_nE at *
  generalize y_mC : @mC = x_mC at *
  generalize y_nM : @nM = x_nM at *
  (repeat' first | ((first | with_reducible refine tr_cut (fun h => ?_) (fun h => ?_) | refine aw_condj (by cbv) (fun h => ?_) (fun h => ?_)) <;> (try simp (disch := omega) only [hj, std, cmpI, cmpB, satB, Bool.not_eq_true, Bool.not_eq_false, decide_eq_true_eq, decide_eq_false_iff_not, beq_iff_eq, bne_iff_ne, bne_eq_false_iff_eq, beq_eq_false_iff_ne, ne_eq, reduceCtorEq, not_true_eq_false, not_false_eq_true, pl0, if_true, cmpS_eq, cmpS_neq, Bool.not_eq_eq_eq_not, Bool.not_true, Bool.not_false, Bool.not_eq_true', Int.ofNat_eq_natCast, add64, sub64] at h) <;> (try (exfalso; omega))) | (with_reducible refine tr_alt (fun h => ?_) ?_ <;> (try (exfalso; omega))) | (with_reducible first | refine tr_ob ?_ ?_ | refine tr_done ?_) | (refine aw_tr hj tok book0 (by cbv) ?_) | (refine aw_seq fun K hK => ?_) | (refine aw_tr1 hj tok book0 (by cbv) ?_) | (refine aw_skip ?_) | (refine aw_block ?_) | (refine aw_exit ?_) | (refine aw_ret ⟨.inr rfl, ret_okj hj (by cbv) ?_ ?_⟩) | (refine aw_ret ?_) | (with_reducible first | refine th_n ?_ | refine th_r ?_ | refine th_x ?_ | refine blk_n ?_ | refine blk_r ?_ | refine blk_x ?_ | refine blk_y rfl ?_) | (refine ⟨.inr rfl, ret_okj hj (by cbv) ?_ ?_⟩) | (refine ⟨.inl rfl, ret_okj hj (by cbv) ?_ ?_⟩) | (with_reducible refine ⟨_, by cbv, ?_, ?_⟩) | (with_reducible apply_assumption -symm -exfalso only [*]))
  all_goals ((try subst y_validG); (try subst y_eC); (try subst y_nE); (try subst y_mC); (try subst y_nM))
  all_goals (try (repeat' first | with_reducible exact obl0 | with_reducible refine obl1 ?_ ?_))
  all_goals (try first | with_reducible exact True.intro | ((first | refine ob_le hj ?_ | refine ob_lei hj ?_ | refine ob_inb hj ?_ | refine ob_pos hj ?_ | refine ob_ne0 hj ?_ | refine ob_eqb hj ?_); (first | rfl | first | omega | (simp only [hj, std]; split <;> omega) | (simp (disch := omega) only [hj, std, cmpI, cmpB, satB, add64, sub64, ite0, pl0, pl2, pl3, sb0, if_true, if_false, eq_self] <;> omega) | (simp (disch := omega) [hj, std, cmpI, cmpB, satB, add64, sub64, ite0, pl0, pl2, pl3, sb0, if_true, if_false, eq_self] <;> omega))) | ((rw [hE]; exact rfl)))
end Go.Proofs.YtcpcghnpoekhpaaDoor.A
/- Machines, the reference: Out, Go, fits. -/
set_option linter.unusedSimpArgs false
set_option linter.unusedVariables false
set_option maxRecDepth 100000
set_option maxHeartbeats 4000000
namespace Go.Proofs.YtcpcghnpoekhpaaDoor.A
open Go
def outM (m : List Sta) (s : Int) : Int := if 0 ≤ s ∧ s < m.length then (mAt m s.toNat).1 else -1
def goE (n : Int) (t : Int) : List Eg → Int
 | [] => -1
 | e :: l => if e.1 = t ∧ 0 ≤ e.2 ∧ e.2 < n then e.2 else goE n t l
def goM (m : List Sta) (s t : Int) : Int := if 0 ≤ s ∧ s < m.length then goE m.length t (mAt m s.toNat).2 else -1
theorem pc_Out24 (m : List Sta) (s : Int) (hs : SzM m) : PC Tryd.prog T 31 [.v false [.sl (nM m) (mC m)], .v false [vI s]] (ret1 (.st (vI (outM m s)))) [] := by
 have hn := nM_eq m
 have hc := mC_len m
 have hm1 := hs.1
 have hno : ¬ (0 ≤ s ∧ s < m.length) → outM m s = -1 := fun h => by unfold outM; rw [if_neg h]
 have hyes : (0 ≤ s ∧ s < m.length) → outM m s = (mAt m s.toNat).1 ∧ cellAt (mC m) (s.toNat * 2) = vI (mAt m s.toNat).1 := fun h => ⟨by unfold outM; rw [if_pos h], (mC_at m s.toNat (by omega)).1⟩
 generalize outM m s = R at *
 refine pc_of tok Tryd.func31 rfl (by rfl) ?_
 obtain ⟨j, hj⟩ : ∃ j : J, j = std Tryd.prog T := ⟨_, rfl⟩
 have hm : Tryd.prog.follows .mixedOrders = true := by kernel_rfl
 rcases Decidable.em (0 ≤ s ∧ s < (m.length : Int)) with h | h
 ·obtain ⟨r1, r2⟩ := hyes h
  have g0 : gi (cellAt (mC m) (s.toNat * 2)) = (mAt m s.toNat).1 := by rw [r2]; rfl
  obtain ⟨h1, h2⟩ := h
  clear hno hyes
  generalize y_mC : @mC = x_mC at *
  generalize y_nM : @nM = x_nM at *
  (repeat' first | ((first | with_reducible refine tr_cut (fun h => ?_) (fun h => ?_) | refine aw_condj (by cbv) (fun h => ?_) (fun h => ?_)) <;> (try simp (disch := omega) only [hj, std, cmpI, cmpB, satB, Bool.not_eq_true, Bool.not_eq_false, decide_eq_true_eq, decide_eq_false_iff_not, beq_iff_eq, bne_iff_ne, bne_eq_false_iff_eq, beq_eq_false_iff_ne, ne_eq, reduceCtorEq, not_true_eq_false, not_false_eq_true, pl0, if_true, cmpS_eq, cmpS_neq, Bool.not_eq_eq_eq_not, Bool.not_true, Bool.not_false, Bool.not_eq_true', Int.ofNat_eq_natCast, add64, sub64] at h) <;> (try (exfalso; omega))) | (with_reducible refine tr_alt (fun h => ?_) ?_ <;> (try (exfalso; omega))) | (with_reducible first | refine tr_ob ?_ ?_ | refine tr_done ?_) | (refine aw_tr hj tok book0 (by cbv) ?_) | (refine aw_seq fun K hK => ?_) | (refine aw_tr1 hj tok book0 (by cbv) ?_) | (refine aw_skip ?_) | (refine aw_block ?_) | (refine aw_exit ?_) | (refine aw_ret ⟨.inr rfl, ret_okj hj (by cbv) ?_ ?_⟩) | (refine aw_ret ?_) | (with_reducible first | refine th_n ?_ | refine th_r ?_ | refine th_x ?_ | refine blk_n ?_ | refine blk_r ?_ | refine blk_x ?_ | refine blk_y rfl ?_) | (refine ⟨.inr rfl, ret_okj hj (by cbv) ?_ ?_⟩) | (refine ⟨.inl rfl, ret_okj hj (by cbv) ?_ ?_⟩) | (with_reducible apply_assumption -symm -exfalso only [*]))
  all_goals ((try subst y_mC); (try subst y_nM))
  all_goals (try (repeat' first | with_reducible exact obl0 | (with_reducible refine obl1 ?_ ?_)))
  all_goals (try first | with_reducible exact True.intro | ((first | refine ob_le hj ?_ | refine ob_lei hj ?_ | refine ob_inb hj ?_ | refine ob_pos hj ?_ | refine ob_ne0 hj ?_ | refine ob_eqb hj ?_); (first | rfl | first | omega | (simp only [hj, std]; split <;> omega) | (simp (disch := omega) only [hj, std, cmpI, cmpB, satB, add64, sub64, ite0, pl0, pl2, pl3, sb0, if_true, if_false, eq_self, hc, g0] <;> omega) | (simp (disch := omega) [hj, std, cmpI, cmpB, satB, add64, sub64, ite0, pl0, pl2, pl3, sb0, if_true, if_false, eq_self, hc, g0] <;> omega))) | ((refine ob_ok hj ?_; simp only [hj, std, ite0]; exact ⟨_, r2⟩)) | ((refine r1i ?_; simp only [hj, std, ite0, g0, r1])))
 ·have hE := hno h
  clear hno hyes
  generalize y_mC : @mC = x_mC at *
  generalize y_nM : @nM = x_nM at *
  (repeat' first | ((first | with_reducible refine tr_cut (fun h => ?_) (fun h => ?_) | refine aw_condj (by cbv) (fun h => ?_) (fun h => ?_)) <;> (try simp (disch := omega) only [hj, std, cmpI, cmpB, satB, Bool.not_eq_true, Bool.not_eq_false, decide_eq_true_eq, decide_eq_false_iff_not, beq_iff_eq, bne_iff_ne, bne_eq_false_iff_eq, beq_eq_false_iff_ne, ne_eq, reduceCtorEq, not_true_eq_false, not_false_eq_true, pl0, if_true, cmpS_eq, cmpS_neq, Bool.not_eq_eq_eq_not, Bool.not_true, Bool.not_false, Bool.not_eq_true', Int.ofNat_eq_natCast, add64, sub64] at h) <;> (try (exfalso; omega))) | (with_reducible refine tr_alt (fun h => ?_) ?_ <;> (try (exfalso; omega))) | (with_reducible first | refine tr_ob ?_ ?_ | refine tr_done ?_) | (refine aw_tr hj tok book0 (by cbv) ?_) | (refine aw_seq fun K hK => ?_) | (refine aw_tr1 hj tok book0 (by cbv) ?_) | (refine aw_skip ?_) | (refine aw_block ?_) | (refine aw_exit ?_) | (refine aw_ret ⟨.inr rfl, ret_okj hj (by cbv) ?_ ?_⟩) | (refine aw_ret ?_) | (with_reducible first | refine th_n ?_ | refine th_r ?_ | refine th_x ?_ | refine blk_n ?_ | refine blk_r ?_ | refine blk_x ?_ | refine blk_y rfl ?_) | (refine ⟨.inr rfl, ret_okj hj (by cbv) ?_ ?_⟩) | (refine ⟨.inl rfl, ret_okj hj (by cbv) ?_ ?_⟩) | (with_reducible apply_assumption -symm -exfalso only [*]))
  all_goals ((try subst y_mC); (try subst y_nM))
  all_goals (try (repeat' first | with_reducible exact obl0 | with_reducible refine obl1 ?_ ?_))
  all_goals (try first | with_reducible exact True.intro | ((first | refine ob_le hj ?_ | refine ob_lei hj ?_ | refine ob_inb hj ?_ | refine ob_pos hj ?_ | refine ob_ne0 hj ?_ | refine ob_eqb hj ?_); (first | rfl | first | omega | (simp only [hj, std]; split <;> omega) | (simp (disch := omega) only [hj, std, cmpI, cmpB, satB, add64, sub64, ite0, pl0, pl2, pl3, sb0, if_true, if_false, eq_self, hc] <;> omega) | (simp (disch := omega) [hj, std, cmpI, cmpB, satB, add64, sub64, ite0, pl0, pl2, pl3, sb0, if_true, if_false, eq_self, hc] <;> omega))) | ((rw [hE]; exact rfl)))
theorem pc_Go24 (m : List Sta) (s t : Int) (hs : SzM m) : PC Tryd.prog T 32 [.v false [.sl (nM m) (mC m)], .v false [vI s], .v false [vI t]] (ret1 (.st (vI (goM m s t)))) [] := by
 have hn := nM_eq m
 have hc := mC_len m
 have hm1 := hs.1
 have hno : ¬ (0 ≤ s ∧ s < m.length) → goM m s t = -1 := fun h => by unfold goM; rw [if_neg h]
 have hyes : (0 ≤ s ∧ s < m.length) → goM m s t = goE (nM m) t (mAt m s.toNat).2 ∧ cellAt (mC m) (s.toNat * 2 + 1) = .sl (nE (mAt m s.toNat).2) (eC (mAt m s.toNat).2) ∧ (mAt m s.toNat).2.length ≤ 1000000000 := fun h => ⟨by unfold goM; rw [if_pos h, hn], (mC_at m s.toNat (by omega)).2, hs.at (by omega)⟩
 generalize goM m s t = R at *
 refine pc_of tok Tryd.func32 rfl (by rfl) ?_
 obtain ⟨j, hj⟩ : ∃ j : J, j = std Tryd.prog T := ⟨_, rfl⟩
 have hm : Tryd.prog.follows .mixedOrders = true := by kernel_rfl
 rcases Decidable.em (0 ≤ s ∧ s < (m.length : Int)) with h | h
 ·obtain ⟨r1, r2, r3⟩ := hyes h
  generalize (mAt m s.toNat).2 = b at *
  have g1 : gn (cellAt (mC m) (s.toNat * 2 + 1)) = nE b := by rw [r2]; rfl
  have g2 : gc (cellAt (mC m) (s.toNat * 2 + 1)) = eC b := by rw [r2]; rfl
  have hbn := nE_eq b
  have hbc := eC_len b
  have hba := eC_at b
  have hbd := @drop_eg b
  obtain ⟨h1, h2⟩ := h
  clear hno hyes
  generalize y_eC : @eC = x_eC at *
  generalize y_nE : @nE = x_nE at *
  generalize y_mC : @mC = x_mC at *
  generalize y_nM : @nM = x_nM at *
  (repeat' first | ((first | with_reducible refine tr_cut (fun h => ?_) (fun h => ?_) | refine aw_condj (by cbv) (fun h => ?_) (fun h => ?_)) <;> (try simp (disch := omega) only [hj, std, cmpI, cmpB, satB, Bool.not_eq_true, Bool.not_eq_false, decide_eq_true_eq, decide_eq_false_iff_not, beq_iff_eq, bne_iff_ne, bne_eq_false_iff_eq, beq_eq_false_iff_ne, ne_eq, reduceCtorEq, not_true_eq_false, not_false_eq_true, pl0, if_true, cmpS_eq, cmpS_neq, Bool.not_eq_eq_eq_not, Bool.not_true, Bool.not_false, Bool.not_eq_true', Int.ofNat_eq_natCast, add64, sub64] at h) <;> (try (exfalso; omega))) | (with_reducible refine tr_alt (fun h => ?_) ?_ <;> (try (exfalso; omega))) | (with_reducible first | refine tr_ob ?_ ?_ | refine tr_done ?_) | (refine aw_tr hj tok book0 (by cbv) ?_) | (refine aw_seq fun K hK => ?_) | (refine aw_tr1 hj tok book0 (by cbv) ?_) | (refine aw_skip ?_) | (refine aw_block ?_) | (refine aw_exit ?_) | (refine aw_ret ⟨.inr rfl, ret_okj hj (by cbv) ?_ ?_⟩) | (refine aw_ret ?_) | (with_reducible first | refine th_n ?_ | refine th_r ?_ | refine th_x ?_ | refine blk_n ?_ | refine blk_r ?_ | refine blk_x ?_ | refine blk_y rfl ?_) | (refine ⟨.inr rfl, ret_okj hj (by cbv) ?_ ?_⟩) | (refine ⟨.inl rfl, ret_okj hj (by cbv) ?_ ?_⟩) | (with_reducible refine ⟨_, by cbv, ?_, ?_⟩) | (with_reducible apply_assumption -symm -exfalso only [*]))
  all_goals ((try subst y_eC); (try subst y_nE); (try subst y_mC); (try subst y_nM))
  all_goals (try (repeat' first | with_reducible exact obl0 | (with_reducible refine obl1 ?_ ?_)))
  all_goals (try first | with_reducible exact True.intro | ((first | refine ob_le hj ?_ | refine ob_lei hj ?_ | refine ob_inb hj ?_ | refine ob_pos hj ?_ | refine ob_ne0 hj ?_ | refine ob_eqb hj ?_); (first | rfl | first | omega | (simp only [hj, std]; split <;> omega) | (simp (disch := omega) only [hj, std, cmpI, cmpB, satB, add64, sub64, ite0, pl0, pl2, pl3, sb0, if_true, if_false, eq_self] <;> omega) | (simp (disch := omega) [hj, std, cmpI, cmpB, satB, add64, sub64, ite0, pl0, pl2, pl3, sb0, if_true, if_false, eq_self] <;> omega))))
  refine aw_lpj hj [(0, .keep), (1, .keep), (2, .keep), (7, .keep)] [] (fun (k : Int) => stOf 58 [(0, .one (.c (.sl (nM m) (mC m)))), (1, .one (.c (vI s))), (2, .one (.c (vI t))), (7, .one (.c (vI k)))] []) (fun (k : Int) => nE b - k.toNat) (fun (k : Int) => 0 ≤ k ∧ k ≤ nE b ∧ R = goE (nM m) t (b.drop k.toNat)) (0) (by generalize @eC = x_eC; generalize @nE = x_nE; generalize @mC = x_mC; generalize @nM = x_nM; cbv) ?_ (fun k hI => ?_)
  ·exact ⟨by omega, by omega, r1⟩
  obtain ⟨i1, i2, hI⟩ := hI
  rcases Decidable.em (k < (nE b : Int)) with hk | hk
  ·obtain ⟨d0, d1⟩ := hba k.toNat (by omega)
   have f1 : (k + 1).toNat = k.toNat + 1 := by omega
   rw [hbd (k := k.toNat) (by omega), ← f1] at hI
   have u0 : gi (cellAt (eC b) (k.toNat * 2)) = (eAt b k.toNat).1 := by rw [d0]; rfl
   have u1 : gi (cellAt (eC b) (k.toNat * 2 + 1)) = (eAt b k.toNat).2 := by rw [d1]; rfl
   generalize eAt b k.toNat = X at *
   obtain ⟨x, y⟩ := X
   dsimp only at d0 d1 u0 u1
   have hI2 : R = if x = t ∧ 0 ≤ y ∧ y < (nM m : Int) then y else goE (nM m) t (b.drop (k + 1).toNat) := hI
   have hq1 : (x = t ∧ 0 ≤ y ∧ y < (nM m : Int)) → R = y := fun h => by rw [hI2, if_pos h]
   have hq2 : ¬ (x = t ∧ 0 ≤ y ∧ y < (nM m : Int)) → R = goE (nM m) t (b.drop (k + 1).toNat) := fun h => by rw [hI2, if_neg h]
   clear hI hI2 hba hbd
   generalize y_eC : @eC = x_eC at *
   generalize y_nE : @nE = x_nE at *
   generalize y_mC : @mC = x_mC at *
   generalize y_nM : @nM = x_nM at *
   (repeat' first | ((first | with_reducible refine tr_cut (fun h => ?_) (fun h => ?_) | refine aw_condj (by cbv) (fun h => ?_) (fun h => ?_)) <;> (try simp (disch := omega) only [hj, std, cmpI, cmpB, satB, Bool.not_eq_true, Bool.not_eq_false, decide_eq_true_eq, decide_eq_false_iff_not, beq_iff_eq, bne_iff_ne, bne_eq_false_iff_eq, beq_eq_false_iff_ne, ne_eq, reduceCtorEq, not_true_eq_false, not_false_eq_true, pl0, if_true, cmpS_eq, cmpS_neq, Bool.not_eq_eq_eq_not, Bool.not_true, Bool.not_false, Bool.not_eq_true', g1, g2, u0, u1, ite0, Int.ofNat_eq_natCast, add64, sub64] at h) <;> (try (exfalso; omega))) | (with_reducible refine tr_alt (fun h => ?_) ?_ <;> (try (exfalso; omega))) | (with_reducible first | refine tr_ob ?_ ?_ | refine tr_done ?_) | (refine aw_tr hj tok book0 (by cbv) ?_) | (refine aw_seq fun K hK => ?_) | (refine aw_tr1 hj tok book0 (by cbv) ?_) | (refine aw_skip ?_) | (refine aw_block ?_) | (refine aw_exit ?_) | (refine aw_ret ⟨.inr rfl, ret_okj hj (by cbv) ?_ ?_⟩) | (refine aw_ret ?_) | (with_reducible first | refine th_n ?_ | refine th_r ?_ | refine th_x ?_ | refine blk_n ?_ | refine blk_r ?_ | refine blk_x ?_ | refine blk_y rfl ?_) | (refine ⟨.inr rfl, ret_okj hj (by cbv) ?_ ?_⟩) | (refine ⟨.inl rfl, ret_okj hj (by cbv) ?_ ?_⟩) | (with_reducible refine ⟨_, by cbv, ?_, ?_⟩) | (with_reducible apply_assumption -symm -exfalso only [*]))
   all_goals ((try subst y_eC); (try subst y_nE); (try subst y_mC); (try subst y_nM))
   all_goals (try (repeat' first | with_reducible exact obl0 | (with_reducible refine obl1 ?_ ?_)))
   all_goals (try first | with_reducible exact True.intro | ((first | refine ob_le hj ?_ | refine ob_lei hj ?_ | refine ob_inb hj ?_ | refine ob_pos hj ?_ | refine ob_ne0 hj ?_ | refine ob_eqb hj ?_); (first | rfl | first | omega | (simp only [hj, std]; split <;> omega) | (simp (disch := omega) only [hj, std, cmpI, cmpB, satB, add64, sub64, ite0, pl0, pl2, pl3, sb0, if_true, if_false, eq_self, hc, hbc, g1, g2, u0, u1] <;> omega) | (simp (disch := omega) [hj, std, cmpI, cmpB, satB, add64, sub64, ite0, pl0, pl2, pl3, sb0, if_true, if_false, eq_self, hc, hbc, g1, g2, u0, u1] <;> omega))) | ((refine ob_ok hj ?_; simp only [hj, std, ite0, g1, g2]; first | exact .inr ⟨_, _, r2⟩ | exact ⟨_, d0⟩ | exact ⟨_, d1⟩)) | ((refine r1i ?_; simp only [hj, std, ite0, g1, g2, u1]; exact hq1 (by omega))) | ((simp (disch := omega) only [hj, std, add64, ite0]; first | omega | exact ⟨by omega, by omega, hq2 (by omega)⟩)))
  ·have e : k.toNat = b.length := by omega
   rw [e, List.drop_length] at hI
   have hE : R = -1 := hI
   generalize y_eC : @eC = x_eC at *
   generalize y_nE : @nE = x_nE at *
   generalize y_mC : @mC = x_mC at *
   generalize y_nM : @nM = x_nM at *
   (repeat' first | ((first | with_reducible refine tr_cut (fun h => ?_) (fun h => ?_) | refine aw_condj (by cbv) (fun h => ?_) (fun h => ?_)) <;> (try simp (disch := omega) only [hj, std, cmpI, cmpB, satB, Bool.not_eq_true, Bool.not_eq_false, decide_eq_true_eq, decide_eq_false_iff_not, beq_iff_eq, bne_iff_ne, bne_eq_false_iff_eq, beq_eq_false_iff_ne, ne_eq, reduceCtorEq, not_true_eq_false, not_false_eq_true, pl0, if_true, cmpS_eq, cmpS_neq, Bool.not_eq_eq_eq_not, Bool.not_true, Bool.not_false, Bool.not_eq_true', g1, ite0, Int.ofNat_eq_natCast, add64, sub64] at h) <;> (try (exfalso; omega))) | (with_reducible refine tr_alt (fun h => ?_) ?_ <;> (try (exfalso; omega))) | (with_reducible first | refine tr_ob ?_ ?_ | refine tr_done ?_) | (refine aw_tr hj tok book0 (by cbv) ?_) | (refine aw_seq fun K hK => ?_) | (refine aw_tr1 hj tok book0 (by cbv) ?_) | (refine aw_skip ?_) | (refine aw_block ?_) | (refine aw_exit ?_) | (refine aw_ret ⟨.inr rfl, ret_okj hj (by cbv) ?_ ?_⟩) | (refine aw_ret ?_) | (with_reducible first | refine th_n ?_ | refine th_r ?_ | refine th_x ?_ | refine blk_n ?_ | refine blk_r ?_ | refine blk_x ?_ | refine blk_y rfl ?_) | (refine ⟨.inr rfl, ret_okj hj (by cbv) ?_ ?_⟩) | (refine ⟨.inl rfl, ret_okj hj (by cbv) ?_ ?_⟩) | (with_reducible refine ⟨_, by cbv, ?_, ?_⟩) | (with_reducible apply_assumption -symm -exfalso only [*]))
   all_goals ((try subst y_eC); (try subst y_nE); (try subst y_mC); (try subst y_nM))
   all_goals (try (repeat' first | with_reducible exact obl0 | (with_reducible refine obl1 ?_ ?_)))
   all_goals (try first | with_reducible exact True.intro | ((first | refine ob_le hj ?_ | refine ob_lei hj ?_ | refine ob_inb hj ?_ | refine ob_pos hj ?_ | refine ob_ne0 hj ?_ | refine ob_eqb hj ?_); (first | rfl | first | omega | (simp only [hj, std]; split <;> omega) | (simp (disch := omega) only [hj, std, cmpI, cmpB, satB, add64, sub64, ite0, pl0, pl2, pl3, sb0, if_true, if_false, eq_self, hc, g1] <;> omega) | (simp (disch := omega) [hj, std, cmpI, cmpB, satB, add64, sub64, ite0, pl0, pl2, pl3, sb0, if_true, if_false, eq_self, hc, g1] <;> omega))) | ((refine ob_ok hj ?_; simp only [hj, std, ite0, g1, g2]; exact .inr ⟨_, _, r2⟩)) | ((rw [hE]; exact rfl)))
 ·have hE := hno h
  clear hno hyes
  generalize y_eC : @eC = x_eC at *
  generalize y_nE : @nE = x_nE at *
  generalize y_mC : @mC = x_mC at *
  generalize y_nM : @nM = x_nM at *
  (repeat' first | ((first | with_reducible refine tr_cut (fun h => ?_) (fun h => ?_) | refine aw_condj (by cbv) (fun h => ?_) (fun h => ?_)) <;> (try simp (disch := omega) only [hj, std, cmpI, cmpB, satB, Bool.not_eq_true, Bool.not_eq_false, decide_eq_true_eq, decide_eq_false_iff_not, beq_iff_eq, bne_iff_ne, bne_eq_false_iff_eq, beq_eq_false_iff_ne, ne_eq, reduceCtorEq, not_true_eq_false, not_false_eq_true, pl0, if_true, cmpS_eq, cmpS_neq, Bool.not_eq_eq_eq_not, Bool.not_true, Bool.not_false, Bool.not_eq_true', Int.ofNat_eq_natCast, add64, sub64] at h) <;> (try (exfalso; omega))) | (with_reducible refine tr_alt (fun h => ?_) ?_ <;> (try (exfalso; omega))) | (with_reducible first | refine tr_ob ?_ ?_ | refine tr_done ?_) | (refine aw_tr hj tok book0 (by cbv) ?_) | (refine aw_seq fun K hK => ?_) | (refine aw_tr1 hj tok book0 (by cbv) ?_) | (refine aw_skip ?_) | (refine aw_block ?_) | (refine aw_exit ?_) | (refine aw_ret ⟨.inr rfl, ret_okj hj (by cbv) ?_ ?_⟩) | (refine aw_ret ?_) | (with_reducible first | refine th_n ?_ | refine th_r ?_ | refine th_x ?_ | refine blk_n ?_ | refine blk_r ?_ | refine blk_x ?_ | refine blk_y rfl ?_) | (refine ⟨.inr rfl, ret_okj hj (by cbv) ?_ ?_⟩) | (refine ⟨.inl rfl, ret_okj hj (by cbv) ?_ ?_⟩) | (with_reducible refine ⟨_, by cbv, ?_, ?_⟩) | (with_reducible apply_assumption -symm -exfalso only [*]))
  all_goals ((try subst y_eC); (try subst y_nE); (try subst y_mC); (try subst y_nM))
  all_goals (try (repeat' first | with_reducible exact obl0 | with_reducible refine obl1 ?_ ?_))
  all_goals (try first | with_reducible exact True.intro | ((first | refine ob_le hj ?_ | refine ob_lei hj ?_ | refine ob_inb hj ?_ | refine ob_pos hj ?_ | refine ob_ne0 hj ?_ | refine ob_eqb hj ?_); (first | rfl | first | omega | (simp only [hj, std]; split <;> omega) | (simp (disch := omega) only [hj, std, cmpI, cmpB, satB, add64, sub64, ite0, pl0, pl2, pl3, sb0, if_true, if_false, eq_self, hc] <;> omega) | (simp (disch := omega) [hj, std, cmpI, cmpB, satB, add64, sub64, ite0, pl0, pl2, pl3, sb0, if_true, if_false, eq_self, hc] <;> omega))) | ((rw [hE]; exact rfl)))
end Go.Proofs.YtcpcghnpoekhpaaDoor.A
/- Two edges held against each other. -/
set_option linter.unusedSimpArgs false
set_option linter.unusedVariables false
set_option maxRecDepth 100000
set_option maxHeartbeats 4000000
namespace Go.Proofs.YtcpcghnpoekhpaaDoor.A
open Go
theorem seqE : (std Tryd.prog T).seq 40 2 := by
 intro xs ys hx hy w
 match xs, hx, ys, hy with
 | [a, b], _, [c, d], _ =>
  have hu := Tryd.underlying40
  have hi := Tryd.underlying3
  have ht : Tryd.prog.underlying 40 = some (.struct (Tryd.prog.fieldsOf 40)) := by unfold Program.fieldsOf; rw [hu]
  have hp : Tryd.prog.stoodInHeld 40 = false := by kernel_rfl
  have hg : Tryd.prog.eqGuardType Tryd.prog.depth 40 = false := by kernel_rfl
  obtain ⟨fs, hfs1, hfs2⟩ : ∃ fs, Tryd.prog.fieldsOf 40 = fs ∧ fs = #[{ name := "Term", type := 3, offset := 0, embedded := false, tag := "", pkgPath := "", byteOffset := 0 }, { name := "To", type := 3, offset := 1, embedded := false, tag := "", pkgPath := "", byteOffset := 8 }] := ⟨_, rfl, by unfold Program.fieldsOf; rw [hu]⟩
  have hE : (Op.equalIn 10000 40 (.agg #[.int .i64 a, .int .i64 b]) (.agg #[.int .i64 c, .int .i64 d])).run Tryd.prog w = .ok (decide ([a, b] = [c, d])) w := by
   rw [run_equalIn_struct w 9999 _ _ _ ht hp, hfs1, hfs2]
   have pk : Tryd.prog.plainKey 3 = true := by kernel_rfl
   have hq : ∀ x y : Int, (Op.equalIn 9999 3 (.int .i64 x) (.int .i64 y)).run Tryd.prog w = .ok (x == y) w := fun x y => run_equalIn_int w 9998 _ _ _ x y hi
   have r0 : ∀ x y : Int, (part 3 #[.int .i64 x, .int .i64 y] 0).run Tryd.prog w = .ok (.int .i64 x) w := fun x y => run_part_plain w pk rfl
   have r1 : ∀ x y : Int, (part 3 #[.int .i64 x, .int .i64 y] 1).run Tryd.prog w = .ok (.int .i64 y) w := fun x y => run_part_plain w pk rfl
   simp only [Op.eqFields, Sem.run_bind]
   by_cases h1 : a = c <;> by_cases h2 : b = d <;> simp [Sem.run_bind, r0, r1, hq, h1, h2, Result.andThen]
  exact ⟨by show (binOp .eql _ (.agg #[.int .i64 a, .int .i64 b]) (.agg #[.int .i64 c, .int .i64 d])).run _ w = _; rw [run_eql_struct, hE]; rfl, by show (binOp .neq _ (.agg #[.int .i64 a, .int .i64 b]) (.agg #[.int .i64 c, .int .i64 d])).run _ w = _; rw [run_neq_struct, hE]; rfl, fun op x y => run_eqGuard_agg w op _ x y _ _ hg⟩
end Go.Proofs.YtcpcghnpoekhpaaDoor.A
/- Machines: fits; two machines are the same: the reference. -/
set_option linter.unusedSimpArgs false
set_option linter.unusedVariables false
set_option maxRecDepth 100000
set_option maxHeartbeats 4000000
namespace Go.Proofs.YtcpcghnpoekhpaaDoor.A
open Go
def fewC (cs : List C) : Int := if fewM (stsOf cs) = true then 1 else 0
def valC (cs : List C) (t : Int) : Bool := validM (stsOf cs) t
def outC (cs : List C) (s : Int) : Int := outM (stsOf cs) s
def goC (cs : List C) (s t : Int) : Int := goM (stsOf cs) s t
def bookM2 (x_fewC : List C → Int) (x_valC : List C → Int → Bool) (x_outC : List C → Int → Int) (x_goC : List C → Int → Int → Int) : Book := fun f xs => match f, xs with
 | 27, [.v false [.sl _ cs]] => some (ret1 (.st (vI (x_fewC cs))), [])
 | 12, [.v false [.sl _ cs], .v false [.val (.int _ t)]] => some (ret1 (.st (vB (x_valC cs t))), [])
 | 33, [.v false [.sl _ cs], .v false [.val (.int _ t)]] => some (ret1 (.st (vB (x_valC cs t))), [])
 | 31, [.v false [.sl _ cs], .v false [.val (.int _ s)]] => some (ret1 (.st (vI (x_outC cs s))), [])
 | 32, [.v false [.sl _ cs], .v false [.val (.int _ s)], .v false [.val (.int _ t)]] => some (ret1 (.st (vI (x_goC cs s t))), [])
 | _, _ => none
theorem c_Valid24 (m : List Sta) (t : Int) (hs : SzM m) : pc 12 [.v false [.sl (nM m) (mC m)], .v false [vI t]] (ret1 (.st (vB (valC (mC m) t)))) := by
 refine ⟨enters Tryd.func12 (by kernel_rfl) (by kernel_rfl), ?_⟩
 unfold valC; rw [stsOf_mC]; exact pc_Valid24 m t hs
theorem c_ValidT (m : List Sta) (t : Int) (hs : SzM m) : pc 33 [.v false [.sl (nM m) (mC m)], .v false [vI t]] (ret1 (.st (vB (valC (mC m) t)))) := by
 refine ⟨enters Tryd.func33 (by kernel_rfl) (by kernel_rfl), ?_⟩
 unfold valC; rw [stsOf_mC]; exact pc_ValidT m t hs
theorem c_Out24 (m : List Sta) (s : Int) (hs : SzM m) : pc 31 [.v false [.sl (nM m) (mC m)], .v false [vI s]] (ret1 (.st (vI (outC (mC m) s)))) := by
 refine ⟨enters Tryd.func31 (by kernel_rfl) (by kernel_rfl), ?_⟩
 unfold outC; rw [stsOf_mC]; exact pc_Out24 m s hs
theorem c_Go24 (m : List Sta) (s t : Int) (hs : SzM m) : pc 32 [.v false [.sl (nM m) (mC m)], .v false [vI s], .v false [vI t]] (ret1 (.st (vI (goC (mC m) s t)))) := by
 refine ⟨enters Tryd.func32 (by kernel_rfl) (by kernel_rfl), ?_⟩
 unfold goC; rw [stsOf_mC]; exact pc_Go24 m s t hs
def fitsM (m : List Sta) : Bool := fewM m && validM m 6
def sameM (a b : List Sta) : Bool := decide (a = b)
theorem take_eg {l : List Eg} {k : Nat} (h : k < l.length) : l.take (k + 1) = l.take k ++ [eAt l k] := by rw [eAt_get h, List.take_succ_eq_append_getElem h]
theorem take_st {l : List Sta} {k : Nat} (h : k < l.length) : l.take (k + 1) = l.take k ++ [mAt l k] := by rw [mAt_get h, List.take_succ_eq_append_getElem h]
end Go.Proofs.YtcpcghnpoekhpaaDoor.A
/- Machines, the reference: which pairs of states some word tells apart: rows as cells, the plain part. -/
set_option linter.unusedSimpArgs false
set_option linter.unusedVariables false
set_option maxRecDepth 100000
set_option maxHeartbeats 4000000
namespace Go.Proofs.YtcpcghnpoekhpaaDoor.A
open Go
/-! ### rows of bools as cells -/
def rwAt (M : List (List Bool)) (i : Nat) : List Bool := M.getD i []
def mtC (l : List (List Bool)) : List C := l.map fun r => .sl (nB r) (bC r)
def nMt (l : List (List Bool)) : Nat := l.foldr (fun _ n => n + 1) 0
theorem nMt_eq (l : List (List Bool)) : nMt l = l.length := by unfold nMt; induction l with | nil => rfl | cons x l ih => rw [List.foldr_cons, ih]; rfl
theorem mtC_len (l : List (List Bool)) : (mtC l).length = nMt l := by simp [mtC, nMt_eq]
theorem mtC_cell {l : List (List Bool)} {k : Nat} (h : k < l.length) : cellAt (mtC l) k = .sl (nB (rwAt l k)) (bC (rwAt l k)) := by
 unfold mtC; rw [map_at, List.getElem?_eq_getElem h, rwAt, List.getD_eq_getElem?_getD, List.getElem?_eq_getElem h]; rfl
theorem mtC_snoc (l : List (List Bool)) (r : List Bool) : mtC l ++ [.sl (nB r) (bC r)] = mtC (l ++ [r]) := by simp [mtC]
theorem mtC_set (l : List (List Bool)) {k : Nat} (r : List Bool) (h : k < l.length) : setC (mtC l) k [.sl (nB r) (bC r)] = mtC (l.set k r) := map_set (fun r => C.sl (nB r) (bC r)) l r h
theorem mtC_set1 {l : List (List Bool)} {k n : Nat} {b : Bool} (h : k < l.length) (hn : n < (rwAt l k).length) : setC (mtC l) k [.sl (nB (rwAt l k)) (setC (bC (rwAt l k)) n [vB b])] = mtC (l.set k ((rwAt l k).set n b)) := by
 rw [bC_set _ b hn, ← mtC_set l _ h]
 congr 3
 rw [nB_eq, nB_eq, List.length_set]
theorem rwAt_set {M : List (List Bool)} {k i : Nat} {v : List Bool} (h : k < M.length) : rwAt (M.set k v) i = if k = i then v else rwAt M i := by
 unfold rwAt
 rw [List.getD_eq_getElem?_getD, List.getElem?_set]
 split
 ·rename_i e; subst e; first | rfl | (rw [if_pos h]; rfl)
 ·rw [List.getD_eq_getElem?_getD]
theorem bAt_set24 {l : List Bool} {k i : Nat} {b : Bool} (h : k < l.length) : bAt (l.set k b) i = if k = i then b else bAt l i := by
 show (l.set k b).getD i false = _
 rw [List.getD_eq_getElem?_getD, List.getElem?_set]
 split
 ·rename_i e; subst e; first | rfl | (rw [if_pos h]; rfl)
 ·show _ = l.getD i false; rw [List.getD_eq_getElem?_getD]
def Rect (p q : Nat) (M : List (List Bool)) : Prop := M.length = p ∧ ∀ i, i < p → (rwAt M i).length = q
abbrev xAt (x : List (List Bool)) (i k : Nat) : Bool := bAt (rwAt x i) k
def xSet (x : List (List Bool)) (i k : Nat) : List (List Bool) := x.set i ((rwAt x i).set k true)
theorem Rect.set {p q : Nat} {M : List (List Bool)} (h : Rect p q M) (i k : Nat) : Rect p q (xSet M i k) := by
 unfold xSet
 refine ⟨by rw [List.length_set]; exact h.1, fun j hj => ?_⟩
 rcases Nat.lt_or_ge i M.length with h1 | h1
 ·rw [rwAt_set h1]
  split
  ·rw [List.length_set]; exact h.2 i (by rw [← h.1]; exact h1)
  ·exact h.2 j hj
 ·rw [List.set_eq_of_length_le h1]; exact h.2 j hj
theorem xAt_set {p q : Nat} {M : List (List Bool)} (h : Rect p q M) {i k a b : Nat} (hi : i < p) (hk : k < q) : xAt (xSet M i k) a b = if a = i ∧ b = k then true else xAt M a b := by
 have h1 : i < M.length := by rw [h.1]; exact hi
 show bAt (rwAt (M.set i _) a) b = _
 rw [rwAt_set h1]
 by_cases e : i = a
 ·subst e
  rw [if_pos rfl, bAt_set24 (by rw [h.2 i hi]; exact hk)]
  by_cases e2 : k = b
  ·subst e2; rw [if_pos rfl, if_pos ⟨rfl, rfl⟩]
  ·rw [if_neg e2, if_neg (fun hh => e2 hh.2.symm)]
 ·rw [if_neg e, if_neg (fun hh => e hh.1.symm)]
def plM (m : List Sta) (s : Int) : Nat := if s < 0 then m.length else s.toNat
def apT (a b : List Sta) (i k : Nat) (s : List (List Bool) × Bool) (t : Nat) : List (List Bool) × Bool :=
 if xAt s.1 i k = true then s else if xAt s.1 (plM a (goM a i t)) (plM b (goM b k t)) = true then (xSet s.1 i k, true) else s
def apK (a b : List Sta) (n : Nat) (i : Nat) (s : List (List Bool) × Bool) (k : Nat) : List (List Bool) × Bool := (List.range n).foldl (apT a b i k) s
def apI (a b : List Sta) (n : Nat) (s : List (List Bool) × Bool) (i : Nat) : List (List Bool) × Bool := (List.range (b.length + 1)).foldl (apK a b n i) s
def apR (a b : List Sta) (n : Nat) (x : List (List Bool)) : List (List Bool) × Bool := (List.range (a.length + 1)).foldl (apI a b n) (x, false)
def ap0 (a b : List Sta) : List (List Bool) := (List.range (a.length + 1)).map fun i : Nat => (List.range (b.length + 1)).map fun k : Nat => decide (outM a i ≠ outM b k)
def apIt (a b : List Sta) (n : Nat) : Nat → List (List Bool)
 | 0 => ap0 a b
 | d + 1 => (apR a b n (apIt a b n d)).1
def cntR (r : List Bool) : Nat := r.countP (· = true)
def cntX (x : List (List Bool)) : Nat := (x.map cntR).sum
def apF (a b : List Sta) (n : Nat) : List (List Bool) := apIt a b n ((a.length + 1) * (b.length + 1) + 1)
theorem cntR_le (r : List Bool) : cntR r ≤ r.length := List.countP_le_length
theorem cntR_set : ∀ (r : List Bool) (k : Nat), k < r.length → bAt r k = false → cntR (r.set k true) = cntR r + 1
 | [], k, h, _ => absurd h (by simp)
 | b :: r, 0, _, hb => by
  have hb : b = false := hb
  subst hb
  simp [cntR]
 | b :: r, k + 1, h, hb => by
  have := cntR_set r k (by simpa using h) hb
  unfold cntR at this ⊢
  rw [List.set_cons_succ, List.countP_cons, List.countP_cons, this]; omega
theorem cntX_set : ∀ (x : List (List Bool)) (i k : Nat), i < x.length → k < (rwAt x i).length → xAt x i k = false → cntX (xSet x i k) = cntX x + 1
 | [], i, k, h, _, _ => absurd h (by simp)
 | r :: x, 0, k, _, hk, hb => by
  show (cntR (r.set k true) :: x.map cntR).sum = (cntR r :: x.map cntR).sum + 1
  rw [List.sum_cons, List.sum_cons, cntR_set r k hk hb]; omega
 | r :: x, i + 1, k, h, hk, hb => by
  have := cntX_set x i k (by simpa using h) hk hb
  show (cntR r :: (xSet x i k).map cntR).sum = (cntR r :: x.map cntR).sum + 1
  rw [List.sum_cons, List.sum_cons]
  have e : ((xSet x i k).map cntR).sum = (x.map cntR).sum + 1 := this
  rw [e]; omega
theorem cntX_le {p q : Nat} {x : List (List Bool)} (h : Rect p q x) : cntX x ≤ p * q := by
 have key : ∀ (x : List (List Bool)), (∀ r ∈ x, r.length = q) → (x.map cntR).sum ≤ x.length * q := by
  intro x
  induction x with
  | nil => intro _; simp
  | cons r x ih =>
   intro h
   rw [List.map_cons, List.sum_cons, List.length_cons, Nat.succ_mul]
   have h1 := cntR_le r
   have h2 := h r (List.mem_cons_self ..)
   have h3 := ih fun s hs => h s (List.mem_cons_of_mem _ hs)
   omega
 have := key x fun r hr => by
  obtain ⟨i, hi, rfl⟩ := List.mem_iff_getElem.1 hr
  have := h.2 i (by rw [← h.1]; exact hi)
  unfold rwAt at this
  rwa [List.getD_eq_getElem?_getD, List.getElem?_eq_getElem hi] at this
 rw [h.1] at this
 exact this
structure Pass (p q : Nat) (s s' : List (List Bool) × Bool) : Prop where
 rect : Rect p q s.1 → Rect p q s'.1
 more : s.2 = true → s'.2 = true
 cnt : Rect p q s.1 → cntX s.1 ≤ cntX s'.1
 rise : Rect p q s.1 → s.2 = false → s'.2 = true → cntX s.1 < cntX s'.1
 same : s'.2 = false → s'.1 = s.1
theorem Pass.refl (p q : Nat) (s : List (List Bool) × Bool) : Pass p q s s := ⟨id, id, fun _ => Nat.le_refl _, fun _ h h' => (by rw [h] at h'; cases h'), fun _ => rfl⟩
theorem Pass.trans {p q : Nat} {s t u : List (List Bool) × Bool} (h : Pass p q s t) (k : Pass p q t u) : Pass p q s u := by
 refine ⟨fun r => k.rect (h.rect r), fun m => k.more (h.more m), fun r => Nat.le_trans (h.cnt r) (k.cnt (h.rect r)), fun r m m' => ?_, fun m => ?_⟩
 ·rcases Bool.eq_false_or_eq_true t.2 with e | e
  ·exact Nat.lt_of_lt_of_le (h.rise r m e) (k.cnt (h.rect r))
  ·exact Nat.lt_of_le_of_lt (h.cnt r) (k.rise (h.rect r) e m')
 ·have e : t.2 = false := by
   rcases Bool.eq_false_or_eq_true t.2 with e | e
   ·rw [k.more e] at m; cases m
   ·exact e
  rw [k.same m, h.same e]
theorem Pass.fold {p q : Nat} {α : Type} {f : List (List Bool) × Bool → α → List (List Bool) × Bool} : ∀ (l : List α), (∀ x ∈ l, ∀ s, Pass p q s (f s x)) → ∀ s, Pass p q s (l.foldl f s)
 | [], _, s => Pass.refl p q s
 | x :: l, h, s => by rw [List.foldl_cons]; exact (h x (List.mem_cons_self ..) s).trans (Pass.fold l (fun y hy => h y (List.mem_cons_of_mem _ hy)) _)
theorem apT_pass {a b : List Sta} {i k : Nat} (hi : i < a.length + 1) (hk : k < b.length + 1) (s : List (List Bool) × Bool) (t : Nat) : Pass (a.length + 1) (b.length + 1) s (apT a b i k s t) := by
 unfold apT
 split
 ·exact Pass.refl ..
 ·rename_i h1
  split
  ·have h1 : xAt s.1 i k = false := by simpa using h1
   have hc : Rect (a.length + 1) (b.length + 1) s.1 → cntX (xSet s.1 i k) = cntX s.1 + 1 := fun r => cntX_set _ _ _ (by rw [r.1]; exact hi) (by rw [r.2 i hi]; exact hk) h1
   exact ⟨fun r => r.set i k, fun _ => rfl, fun r => by show _ ≤ cntX (xSet s.1 i k); rw [hc r]; omega, fun r _ _ => by show _ < cntX (xSet s.1 i k); rw [hc r]; omega, fun h => by cases h⟩
  ·exact Pass.refl ..
theorem apK_pass {a b : List Sta} {n i k : Nat} (hi : i < a.length + 1) (hk : k < b.length + 1) (s : List (List Bool) × Bool) : Pass (a.length + 1) (b.length + 1) s (apK a b n i s k) := Pass.fold _ (fun t _ s => apT_pass hi hk s t) s
theorem apI_pass {a b : List Sta} {n i : Nat} (hi : i < a.length + 1) (s : List (List Bool) × Bool) : Pass (a.length + 1) (b.length + 1) s (apI a b n s i) := Pass.fold _ (fun k hk s => apK_pass hi (List.mem_range.1 hk) s) s
theorem apR_pass (a b : List Sta) (n : Nat) (x : List (List Bool)) : Pass (a.length + 1) (b.length + 1) (x, false) (apR a b n x) := Pass.fold _ (fun i hi s => apI_pass (List.mem_range.1 hi) s) _
theorem ap0_rect (a b : List Sta) : Rect (a.length + 1) (b.length + 1) (ap0 a b) := by
 refine ⟨by simp [ap0], fun i hi => ?_⟩
 unfold rwAt ap0
 rw [List.getD_eq_getElem?_getD, List.getElem?_map, List.getElem?_range hi]
 simp
theorem apIt_rect (a b : List Sta) (n : Nat) : ∀ d, Rect (a.length + 1) (b.length + 1) (apIt a b n d)
 | 0 => ap0_rect a b
 | d + 1 => (apR_pass a b n _).rect (apIt_rect a b n d)
theorem apIt_stay {a b : List Sta} {n d : Nat} (h : (apR a b n (apIt a b n d)).2 = false) : ∀ e, apIt a b n (d + e) = apIt a b n d
 | 0 => rfl
 | e + 1 => by
  show (apR a b n (apIt a b n (d + e))).1 = _
  rw [apIt_stay h e]
  exact (apR_pass a b n _).same h
theorem apF_of {a b : List Sta} {n d : Nat} (h : (apR a b n (apIt a b n d)).2 = false) (hd : d ≤ (a.length + 1) * (b.length + 1) + 1) : apF a b n = apIt a b n d := by
 have := apIt_stay h ((a.length + 1) * (b.length + 1) + 1 - d)
 rw [show d + ((a.length + 1) * (b.length + 1) + 1 - d) = (a.length + 1) * (b.length + 1) + 1 by omega] at this
 exact this
end Go.Proofs.YtcpcghnpoekhpaaDoor.A
/- Machines: what told apart means: words. The plain law. -/
set_option linter.unusedSimpArgs false
set_option linter.unusedVariables false
set_option maxRecDepth 100000
set_option maxHeartbeats 4000000
namespace Go.Proofs.YtcpcghnpoekhpaaDoor.A
open Go
def runW (m : List Sta) : Int → List Int → Int
 | s, [] => s
 | s, c :: w => runW m (goM m s c) w
def tellS (m : List Sta) (s : Int) (w : List Int) : Int := outM m (runW m s w)
def Lt (n : Int) (w : List Int) : Prop := ∀ c ∈ w, 0 ≤ c ∧ c < n
theorem goE_lt (n t : Int) : ∀ l : List Eg, goE n t l = -1 ∨ (0 ≤ goE n t l ∧ goE n t l < n)
 | [] => .inl rfl
 | e :: l => by
  unfold goE
  split
  ·rename_i h; exact .inr ⟨h.2.1, h.2.2⟩
  ·exact goE_lt n t l
theorem goM_no {m : List Sta} {s t : Int} (h : ¬ (0 ≤ s ∧ s < m.length)) : goM m s t = -1 := by unfold goM; rw [if_neg h]
theorem outM_no {m : List Sta} {s : Int} (h : ¬ (0 ≤ s ∧ s < m.length)) : outM m s = -1 := by unfold outM; rw [if_neg h]
theorem goM_lt (m : List Sta) (s t : Int) : -1 ≤ goM m s t ∧ goM m s t < m.length := by
 unfold goM
 split
 ·rcases goE_lt m.length t (mAt m s.toNat).2 with h | h
  ·rw [h]; omega
  ·omega
 ·omega
theorem tell_cons (m : List Sta) (s c : Int) (w : List Int) : tellS m s (c :: w) = tellS m (goM m s c) w := rfl
theorem tell_no {m : List Sta} : ∀ (w : List Int) {s : Int}, ¬ (0 ≤ s ∧ s < m.length) → tellS m s w = -1
 | [], s, h => outM_no h
 | c :: w, s, h => by rw [tell_cons, goM_no h]; exact tell_no w (by omega)
theorem tell_pl {m : List Sta} {s : Int} (h : -1 ≤ s ∧ s < m.length) (w : List Int) : tellS m (plM m s) w = tellS m s w := by
 unfold plM
 split
 ·rw [tell_no w (by omega), tell_no w (by omega)]
 ·rw [show ((s.toNat : Nat) : Int) = s by omega]
theorem pl_lt {m : List Sta} {s : Int} (h : -1 ≤ s ∧ s < m.length) : plM m s < m.length + 1 := by unfold plM; split <;> omega
theorem fold_inv {α β : Type} {P : β → Prop} {f : β → α → β} : ∀ (l : List α), (∀ x ∈ l, ∀ s, P s → P (f s x)) → ∀ s, P s → P (l.foldl f s)
 | [], _, _, h => h
 | x :: l, hf, s, h => fold_inv l (fun y hy => hf y (List.mem_cons_of_mem _ hy)) _ (hf x (List.mem_cons_self ..) s h)
theorem Pass.none {p q : Nat} {α : Type} {f : List (List Bool) × Bool → α → List (List Bool) × Bool} : ∀ (l : List α), (∀ x ∈ l, ∀ s, Pass p q s (f s x)) → ∀ s, s.2 = false → (l.foldl f s).2 = false → ∀ x ∈ l, f s x = s
 | x :: l, hf, s, h0, h, y, hy => by
  have h1 := hf x (List.mem_cons_self ..) s
  have hl : ∀ x ∈ l, ∀ s, Pass p q s (f s x) := fun z hz => hf z (List.mem_cons_of_mem _ hz)
  rw [List.foldl_cons] at h
  have h2 : (f s x).2 = false := by
   cases e : (f s x).2 with
   | false => rfl
   | true =>
    have h9 := (Pass.fold l hl (f s x)).more e
    exact h9.symm.trans h
  have h3 : f s x = s := Prod.ext (h1.same h2) (h2.trans h0.symm)
  rcases List.mem_cons.1 hy with rfl | hy
  ·exact h3
  ·rw [h3] at h
   exact Pass.none l hl s h0 h y hy
theorem ap_closed {a b : List Sta} {n : Nat} {X : List (List Bool)} (h : (apR a b n X).2 = false) {i k t : Nat} (hi : i < a.length + 1) (hk : k < b.length + 1) (ht : t < n) (hs : xAt X (plM a (goM a i t)) (plM b (goM b k t)) = true) : xAt X i k = true := by
 have h1 : apI a b n (X, false) i = (X, false) := Pass.none (p := a.length + 1) (q := b.length + 1) _ (fun i hi s => apI_pass (List.mem_range.1 hi) s) (X, false) rfl h i (List.mem_range.2 hi)
 have h2 : apK a b n i (X, false) k = (X, false) := Pass.none (p := a.length + 1) (q := b.length + 1) _ (fun k hk s => apK_pass hi (List.mem_range.1 hk) s) (X, false) rfl (congrArg Prod.snd h1) k (List.mem_range.2 hk)
 have h3 : apT a b i k (X, false) t = (X, false) := Pass.none (p := a.length + 1) (q := b.length + 1) _ (fun t _ s => apT_pass hi hk s t) (X, false) rfl (congrArg Prod.snd h2) t (List.mem_range.2 ht)
 unfold apT at h3
 split at h3
 ·assumption
 ·exact absurd (congrArg Prod.snd h3) (by simp [hs])
structure Snd (a b : List Sta) (n : Nat) (X : List (List Bool)) : Prop where
 rect : Rect (a.length + 1) (b.length + 1) X
 yes : ∀ i k, i < a.length + 1 → k < b.length + 1 → xAt X i k = true → ∃ w, Lt n w ∧ tellS a i w ≠ tellS b k w
 zero : ∀ i k, i < a.length + 1 → k < b.length + 1 → outM a i ≠ outM b k → xAt X i k = true
theorem snd_T {a b : List Sta} {n i k t : Nat} (hi : i < a.length + 1) (hk : k < b.length + 1) (ht : t < n) (s : List (List Bool) × Bool) (h : Snd a b n s.1) : Snd a b n (apT a b i k s t).1 := by
 unfold apT
 split
 ·exact h
 ·split
  ·rename_i h2
   have ga := goM_lt a i t
   have gb := goM_lt b k t
   obtain ⟨w, hw, hne⟩ := h.yes _ _ (pl_lt ga) (pl_lt gb) h2
   rw [tell_pl ga, tell_pl gb] at hne
   refine ⟨h.rect.set i k, fun x y hx hy hxy => ?_, fun x y hx hy hxy => ?_⟩
   ·have hxy : xAt (xSet s.1 i k) x y = true := hxy
    rw [xAt_set h.rect hi hk] at hxy
    split at hxy
    ·rename_i e
     obtain ⟨rfl, rfl⟩ := e
     exact ⟨(t : Int) :: w, fun c hc => by
      rcases List.mem_cons.1 hc with rfl | hc
      ·omega
      ·exact hw c hc, by rw [tell_cons, tell_cons]; exact hne⟩
    ·exact h.yes x y hx hy hxy
   ·show xAt (xSet s.1 i k) x y = true
    rw [xAt_set h.rect hi hk]
    split
    ·rfl
    ·exact h.zero x y hx hy hxy
  ·exact h
theorem ap0_at {a b : List Sta} {i k : Nat} (hi : i < a.length + 1) (hk : k < b.length + 1) : xAt (ap0 a b) i k = decide (outM a i ≠ outM b k) := by
 have e : rwAt (ap0 a b) i = (List.range (b.length + 1)).map fun k : Nat => decide (outM a i ≠ outM b k) := by
  unfold rwAt ap0; rw [List.getD_eq_getElem?_getD, List.getElem?_map, List.getElem?_range hi]; rfl
 show bAt (rwAt (ap0 a b) i) k = _
 rw [e]
 show ((List.range (b.length + 1)).map _).getD k false = _
 rw [List.getD_eq_getElem?_getD, List.getElem?_map, List.getElem?_range hk]; rfl
theorem snd_It (a b : List Sta) (n : Nat) : ∀ d, Snd a b n (apIt a b n d)
 | 0 => by
  refine ⟨ap0_rect a b, fun i k hi hk h => ⟨[], fun c hc => (by cases hc), ?_⟩, fun i k hi hk h => ?_⟩
  ·have h : xAt (ap0 a b) i k = true := h
   rw [ap0_at hi hk] at h
   have h : outM a i ≠ outM b k := of_decide_eq_true h
   exact h
  ·show xAt (ap0 a b) i k = true
   rw [ap0_at hi hk]
   exact decide_eq_true h
 | d + 1 => by
  show Snd a b n (apR a b n (apIt a b n d)).1
  exact fold_inv (P := fun s : List (List Bool) × Bool => Snd a b n s.1) _ (fun i hi s hs => fold_inv (P := fun s : List (List Bool) × Bool => Snd a b n s.1) _ (fun k hk s hs => fold_inv (P := fun s : List (List Bool) × Bool => Snd a b n s.1) _ (fun t ht s hs => snd_T (List.mem_range.1 hi) (List.mem_range.1 hk) (List.mem_range.1 ht) s hs) s hs) s hs) _ (snd_It a b n d)
theorem ap_fix (a b : List Sta) (n : Nat) : ∃ d, d ≤ (a.length + 1) * (b.length + 1) + 1 ∧ (apR a b n (apIt a b n d)).2 = false := by
 apply Classical.byContradiction
 intro hno
 have key : ∀ d, d ≤ (a.length + 1) * (b.length + 1) + 1 → d ≤ cntX (apIt a b n d) := by
  intro d
  induction d with
  | zero => intro _; exact Nat.zero_le _
  | succ d ih =>
   intro hd
   have h1 := ih (by omega)
   have h2 : (apR a b n (apIt a b n d)).2 = true := by
    cases e : (apR a b n (apIt a b n d)).2 with
    | true => rfl
    | false => exact absurd ⟨d, by omega, e⟩ hno
   have h3 : cntX (apIt a b n d) < cntX (apIt a b n (d + 1)) := (apR_pass a b n (apIt a b n d)).rise (apIt_rect a b n d) rfl h2
   omega
 have h1 := key _ (Nat.le_refl _)
 have h2 := cntX_le (apIt_rect a b n ((a.length + 1) * (b.length + 1) + 1))
 omega
theorem apF_iff {a b : List Sta} {n i k : Nat} (hi : i < a.length + 1) (hk : k < b.length + 1) : xAt (apF a b n) i k = true ↔ ∃ w, Lt n w ∧ tellS a i w ≠ tellS b k w := by
 obtain ⟨d, hd, hfix⟩ := ap_fix a b n
 rw [apF_of hfix hd]
 have hs := snd_It a b n d
 have key : ∀ w, Lt n w → ∀ i k : Nat, i < a.length + 1 → k < b.length + 1 → tellS a i w ≠ tellS b k w → xAt (apIt a b n d) i k = true := by
  intro w
  induction w with
  | nil => intro _ i k hi hk hne; exact hs.zero i k hi hk hne
  | cons c w ih =>
   intro hw i k hi hk hne
   have hc := hw c (List.mem_cons_self ..)
   rw [tell_cons, tell_cons] at hne
   have ga := goM_lt a i c
   have gb := goM_lt b k c
   rw [← tell_pl ga, ← tell_pl gb] at hne
   have := ih (fun x hx => hw x (List.mem_cons_of_mem _ hx)) _ _ (pl_lt ga) (pl_lt gb) hne
   have e : ((c.toNat : Nat) : Int) = c := by omega
   exact ap_closed hfix (t := c.toNat) hi hk (by omega) (by rw [e]; exact this)
 exact ⟨hs.yes i k hi hk, fun ⟨w, hw, hne⟩ => key w hw i k hi hk hne⟩
theorem apF_rect (a b : List Sta) (n : Nat) : Rect (a.length + 1) (b.length + 1) (apF a b n) := apIt_rect a b n _
end Go.Proofs.YtcpcghnpoekhpaaDoor.A
/- Machines: the classes of states, round by round: what is computed. -/
set_option linter.unusedSimpArgs false
set_option linter.unusedVariables false
set_option maxRecDepth 100000
set_option maxHeartbeats 4000000
namespace Go.Proofs.YtcpcghnpoekhpaaDoor.A
open Go
abbrev spB : ByteArray := ⟨⟨[32]⟩⟩
abbrev coB : ByteArray := ⟨⟨[58]⟩⟩
def sg0 (a b : Int) : ByteArray := (itoaS a ++ spB) ++ itoaS b
def sgAdd (use : List Bool) (out : List Int) (acc : ByteArray) (e : Eg) : ByteArray := if bAt use e.2.toNat = true then acc ++ (((spB ++ itoaS e.1) ++ coB) ++ itoaS (iAt out e.2.toNat)) else acc
def sgB (m : List Sta) (use : List Bool) (out : List Int) (i : Nat) : ByteArray := (mAt m i).2.foldl (sgAdd use out) (sg0 (iAt out i) (mAt m i).1)
def seenL (m : List Sta) (use : List Bool) (out : List Int) : Nat → List ByteArray
 | 0 => []
 | i + 1 => if bAt use i = true ∧ inL (seenL m use out i) (sgB m use out i) = false then seenL m use out i ++ [sgB m use out i] else seenL m use out i
def nxtV (m : List Sta) (use : List Bool) (out : List Int) (i q : Nat) : Int := if q < i then (if bAt use q = true then (ixL (seenL m use out i) (sgB m use out q) : Int) else -1) else 0
def nxtL (m : List Sta) (use : List Bool) (out : List Int) (i : Nat) : List Int := (List.range m.length).map (nxtV m use out i)
def clsL (m : List Sta) (use : List Bool) (out : List Int) : List Int := nxtL m use out m.length
def clGo (m : List Sta) (use : List Bool) : Nat → List Int → Int → List Int
 | 0, out, _ => clsL m use out
 | f + 1, out, cnt => if ((seenL m use out m.length).length : Int) = cnt then clsL m use out else clGo m use f (clsL m use out) (seenL m use out m.length).length
def clF (m : List Sta) (use : List Bool) : List Int := clGo m use (m.length + 1) (List.replicate m.length (-1)) (-1)
section
variable {m : List Sta} {use : List Bool} {out : List Int}
theorem seen_in : ∀ {i q : Nat}, q < i → bAt use q = true → inL (seenL m use out i) (sgB m use out q) = true := by
 intro i
 induction i with
 | zero => intro q h; exact absurd h (by omega)
 | succ i ih =>
  intro q h hu
  unfold seenL
  rcases Nat.lt_or_ge q i with h1 | h1
  ·have := ih h1 hu
   split
   ·rw [inL_app, this]; rfl
   ·exact this
  ·obtain rfl : q = i := by omega
   split
   ·rw [inL_app, decide_eq_true rfl, Bool.or_true]
   ·rename_i hn
    cases e : inL (seenL m use out q) (sgB m use out q) with
    | true => rfl
    | false => exact absurd ⟨hu, e⟩ hn
theorem seen_mem : ∀ {i : Nat} {s : ByteArray}, s ∈ seenL m use out i → ∃ q, q < i ∧ bAt use q = true ∧ s = sgB m use out q := by
 intro i
 induction i with
 | zero => intro s h; cases h
 | succ i ih =>
  intro s h
  unfold seenL at h
  split at h
  ·rename_i hh
   rcases List.mem_append.1 h with h | h
   ·obtain ⟨q, h1, h2⟩ := ih h; exact ⟨q, by omega, h2⟩
   ·exact ⟨i, by omega, hh.1, List.mem_singleton.1 h⟩
  ·obtain ⟨q, h1, h2⟩ := ih h; exact ⟨q, by omega, h2⟩
theorem seen_le : ∀ i : Nat, (seenL m use out i).length ≤ i
 | 0 => Nat.le_refl _
 | i + 1 => by
  have := seen_le i
  unfold seenL
  split
  ·rw [List.length_append]; simp; omega
  ·omega
theorem seen_ix {i q : Nat} (h : q < i) (hu : bAt use q = true) : ixL (seenL m use out (i + 1)) (sgB m use out q) = ixL (seenL m use out i) (sgB m use out q) := by
 rw [seenL.eq_2]
 split
 ·exact ixL_app1 (seen_in h hu) _
 ·rfl
theorem seen_ixn {q : Nat} (hu : bAt use q = true) : ∀ {i k : Nat}, q < i → i ≤ k → ixL (seenL m use out k) (sgB m use out q) = ixL (seenL m use out i) (sgB m use out q) := by
 intro i k h hk
 obtain ⟨d, rfl⟩ : ∃ d, k = i + d := ⟨k - i, by omega⟩
 clear hk
 induction d with
 | zero => rfl
 | succ d ih => rw [← Nat.add_assoc, seen_ix (by omega) hu]; exact ih
theorem nxt_len (i : Nat) : (nxtL m use out i).length = m.length := by simp [nxtL]
theorem nxt_at {i q : Nat} (hq : q < m.length) : iAt (nxtL m use out i) q = nxtV m use out i q := by
 show (nxtL m use out i).getD q 0 = _
 unfold nxtL
 rw [List.getD_eq_getElem?_getD, List.getElem?_map, List.getElem?_range hq]; rfl
theorem iAt_set {l : List Int} {k i : Nat} {x : Int} (h : k < l.length) : iAt (l.set k x) i = if k = i then x else iAt l i := by
 show (l.set k x).getD i 0 = _
 rw [List.getD_eq_getElem?_getD, List.getElem?_set]
 split
 ·rename_i e; subst e; first | rfl | (rw [if_pos h]; rfl)
 ·show _ = l.getD i 0; rw [List.getD_eq_getElem?_getD]
theorem list_ext_i {o u : List Int} (hl : o.length = u.length) (h : ∀ i, i < o.length → iAt o i = iAt u i) : o = u := by
 apply List.ext_getElem hl
 intro i h1 h2
 have := h i h1
 have e1 : iAt o i = o[i] := by show o.getD i 0 = _; rw [List.getD_eq_getElem?_getD, List.getElem?_eq_getElem h1]; rfl
 have e2 : iAt u i = u[i] := by show u.getD i 0 = _; rw [List.getD_eq_getElem?_getD, List.getElem?_eq_getElem h2]; rfl
 rw [← e1, this, e2]
theorem nxt_set {i : Nat} (hi : i < m.length) {v : Int} (hv : v = if bAt use i = true then (ixL (seenL m use out (i + 1)) (sgB m use out i) : Int) else -1) : (nxtL m use out i).set i v = nxtL m use out (i + 1) := by
 refine list_ext_i (by simp [nxtL]) fun q hq => ?_
 have hq : q < m.length := by simpa [nxtL] using hq
 rw [iAt_set (by rw [nxt_len]; exact hi), nxt_at hq, nxt_at hq]
 unfold nxtV
 split
 ·rename_i e; subst e
  rw [if_pos (by omega)]; exact hv
 ·by_cases h : q < i
  ·have h' : q < i + 1 := by omega
   rw [if_pos h, if_pos h']
   by_cases hu : bAt use q = true
   ·rw [if_pos hu, if_pos hu, seen_ix h hu]
   ·rw [if_neg hu, if_neg hu]
  ·have h' : ¬ q < i + 1 := by omega
   rw [if_neg h, if_neg h']
theorem nxt_zero : nxtL m use out 0 = List.replicate m.length 0 := by
 refine list_ext_i (by simp [nxtL]) fun q hq => ?_
 have hq : q < m.length := by simpa [nxtL] using hq
 rw [nxt_at hq]
 show _ = (List.replicate m.length (0 : Int)).getD q 0
 rw [List.getD_eq_getElem?_getD, List.getElem?_replicate, if_pos hq]; rfl
theorem cls_at {q : Nat} (hq : q < m.length) : iAt (clsL m use out) q = if bAt use q = true then (ixL (seenL m use out m.length) (sgB m use out q) : Int) else -1 := by
 unfold clsL
 rw [nxt_at hq]
 unfold nxtV
 rw [if_pos hq]
theorem cls_len : (clsL m use out).length = m.length := nxt_len _
end
/-! ### what a sign is, byte by byte -/
def byL (b : ByteArray) : List UInt8 := b.data.toList
theorem byL_app (a b : ByteArray) : byL (a ++ b) = byL a ++ byL b := by unfold byL; rw [ByteArray.data_append]; simp
theorem byL_itoa (n : Int) : byL (itoaS n) = Lib.itoa n := by unfold byL itoaS; simp
theorem byL_inj {a b : ByteArray} (h : byL a = byL b) : a = b := by
 apply ByteArray.ext
 exact Array.toList_inj.1 h
def sgP (use : List Bool) (out : List Int) (l : List Eg) : List (Int × Int) := l.filterMap fun e => if bAt use e.2.toNat = true then some (e.1, iAt out e.2.toNat) else none
def enP (l : List (Int × Int)) : List (UInt8 × Int) := l.flatMap fun p => [(32, p.1), (58, p.2)]
theorem sg_fold (use : List Bool) (out : List Int) : ∀ (l : List Eg) (acc : ByteArray), byL (l.foldl (sgAdd use out) acc) = byL acc ++ enc2 (enP (sgP use out l))
 | [], acc => by simp [sgP, enP, enc2]
 | e :: l, acc => by
  rw [List.foldl_cons, sg_fold use out l]
  unfold sgAdd
  by_cases h : bAt use e.2.toNat = true
  ·rw [if_pos h]
   have e1 : sgP use out (e :: l) = (e.1, iAt out e.2.toNat) :: sgP use out l := by unfold sgP; rw [List.filterMap_cons, if_pos h]
   rw [e1]
   show _ = byL acc ++ enc2 ((32, e.1) :: (58, iAt out e.2.toNat) :: enP (sgP use out l))
   rw [byL_app, byL_app, byL_app, byL_app, byL_itoa, byL_itoa]
   show byL acc ++ ((([32] ++ Lib.itoa e.1) ++ [58]) ++ Lib.itoa (iAt out e.2.toNat)) ++ _ = _
   simp [enc2]
  ·rw [if_neg h]
   have e1 : sgP use out (e :: l) = sgP use out l := by unfold sgP; rw [List.filterMap_cons, if_neg h]
   rw [e1]
theorem enP_sep (l : List (Int × Int)) : ∀ x ∈ enP l, isSep x.1 = true := by
 intro x hx
 unfold enP at hx
 obtain ⟨p, _, hp⟩ := List.mem_flatMap.1 hx
 rcases List.mem_cons.1 hp with h | h
 ·rw [h]; rfl
 ·rw [List.mem_singleton.1 h]; rfl
theorem enP_inj : ∀ {l l' : List (Int × Int)}, enP l = enP l' → l = l'
 | [], [], _ => rfl
 | [], p :: l', h => by cases h
 | p :: l, [], h => by cases h
 | p :: l, q :: l', h => by
  have h : (32, p.1) :: (58, p.2) :: enP l = (32, q.1) :: (58, q.2) :: enP l' := h
  obtain ⟨h1, h2⟩ := List.cons.inj h
  obtain ⟨h3, h4⟩ := List.cons.inj h2
  have h5 : p.1 = q.1 := (Prod.mk.inj h1).2
  have h6 : p.2 = q.2 := (Prod.mk.inj h3).2
  rw [enP_inj h4, show p = q from Prod.ext h5 h6]
theorem sgB_by (m : List Sta) (use : List Bool) (out : List Int) (i : Nat) : byL (sgB m use out i) = Lib.itoa (iAt out i) ++ enc2 ((32, (mAt m i).1) :: enP (sgP use out (mAt m i).2)) := by
 unfold sgB
 rw [sg_fold]
 unfold sg0
 rw [byL_app, byL_app, byL_itoa, byL_itoa]
 show ((Lib.itoa _ ++ [32]) ++ Lib.itoa _) ++ _ = _
 simp [enc2]
theorem sgB_iff {m m' : List Sta} {use use' : List Bool} {out out' : List Int} {i i' : Nat} : sgB m use out i = sgB m' use' out' i' ↔ iAt out i = iAt out' i' ∧ (mAt m i).1 = (mAt m' i').1 ∧ sgP use out (mAt m i).2 = sgP use' out' (mAt m' i').2 := by
 constructor
 ·intro h
  have h := congrArg byL h
  rw [sgB_by, sgB_by] at h
  have hs : ∀ (a : Int) (l : List (Int × Int)), ∀ x ∈ (32, a) :: enP l, isSep x.1 = true := fun a l x hx => by
   rcases List.mem_cons.1 hx with h | h
   ·rw [h]; rfl
   ·exact enP_sep l x h
  obtain ⟨h1, h2⟩ := enc2_inj (hs _ _) (hs _ _) h
  obtain ⟨h3, h4⟩ := List.cons.inj h2
  exact ⟨h1, congrArg Prod.snd h3, enP_inj h4⟩
 ·rintro ⟨h1, h2, h3⟩
  apply byL_inj
  rw [sgB_by, sgB_by, h1, h2, h3]
theorem cls_mono (m : List Sta) (use : List Bool) (out : List Int) : ∀ i, i ≤ m.length → (seenL m use out i).length ≤ (seenL m use (clsL m use out) i).length
 | 0, _ => Nat.le_refl _
 | i + 1, hi => by
  have ih := cls_mono m use out i (by omega)
  rw [seenL.eq_2, seenL.eq_2]
  by_cases h : bAt use i = true ∧ inL (seenL m use out i) (sgB m use out i) = false
  ·rw [if_pos h]
   have h2 : inL (seenL m use (clsL m use out) i) (sgB m use (clsL m use out) i) = false := by
    rw [inL_not]
    intro hm
    obtain ⟨q, hq, hu, he⟩ := seen_mem hm
    have h3 := (sgB_iff.1 he).1
    rw [cls_at (by omega), cls_at (by omega), if_pos h.1, if_pos hu] at h3
    have h4 : sgB m use out i = sgB m use out q := ixL_inj (l := seenL m use out m.length) (seen_in (by omega) h.1) (seen_in (by omega) hu) (by omega)
    have h5 := seen_in (m := m) (out := out) hq hu
    rw [← h4, h.2] at h5; cases h5
   rw [if_pos ⟨h.1, h2⟩, List.length_append, List.length_append]; simp; omega
  ·rw [if_neg h]
   split
   ·rw [List.length_append]; omega
   ·exact ih
end Go.Proofs.YtcpcghnpoekhpaaDoor.A
/- Machines: two are the same: the program. -/
set_option linter.unusedSimpArgs false
set_option linter.unusedVariables false
set_option maxRecDepth 100000
set_option maxHeartbeats 4000000
namespace Go.Proofs.YtcpcghnpoekhpaaDoor.A
open Go
def sameE (a b : List Eg) : Bool := decide (a = b)
theorem pc_EqE (p q : List Eg) (z1 : p.length ≤ 1000000000) (z2 : q.length ≤ 1000000000) : PC Tryd.prog T 30 [.v false [.sl (nE p) (eC p)], .v false [.sl (nE q) (eC q)]] (ret1 (.st (vB (sameE p q)))) [] := by
  have m1 := nE_eq p
  have m2 := nE_eq q
  have m3 := eC_len p
  have m4 := eC_len q
  have m5 := eC_at p
  have m6 := eC_at q
  have k3 := @take_eg p
  have k4 := @take_eg q
  have hlen : nE p ≠ nE q → sameE p q = false := fun h => decide_eq_false fun hh => h (by rw [hh])
  have hno : ∀ k, eAt p k ≠ eAt q k → sameE p q = false := fun k h => decide_eq_false fun hh => h (by rw [hh])
  have hyes : p = q → sameE p q = true := fun h => decide_eq_true h
  generalize sameE p q = R at *
  refine pc_of tok Tryd.func30 rfl (by rfl) ?_
  obtain ⟨j, hj⟩ : ∃ j : J, j = std Tryd.prog T := ⟨_, rfl⟩
  have hm : Tryd.prog.follows .mixedOrders = true := by kernel_rfl
  rcases Decidable.em (nE p = nE q) with h0 | h0
  rotate_left
  · have hE := hlen h0
    generalize y_eC : @eC = x_eC at *
    generalize y_nE : @nE = x_nE at *
    (repeat' first | ((first | with_reducible refine tr_cut (fun h => ?_) (fun h => ?_) | refine aw_condj (by cbv) (fun h => ?_) (fun h => ?_)) <;> (try simp (disch := omega) only [hj, std, cmpI, cmpB, satB, Bool.not_eq_true, Bool.not_eq_false, decide_eq_true_eq, decide_eq_false_iff_not, beq_iff_eq, bne_iff_ne, bne_eq_false_iff_eq, beq_eq_false_iff_ne, ne_eq, reduceCtorEq, not_true_eq_false, not_false_eq_true, pl0, if_true, cmpS_eq, cmpS_neq, Bool.not_eq_eq_eq_not, Bool.not_true, Bool.not_false, Bool.not_eq_true', Int.ofNat_eq_natCast, add64, sub64] at h) <;> (try (exfalso; omega))) | (with_reducible refine tr_alt (fun h => ?_) ?_ <;> (try (exfalso; omega))) | (with_reducible first | refine tr_ob ?_ ?_ | refine tr_done ?_) | (refine aw_tr hj tok book0 (by cbv) ?_) | (refine aw_seq fun K hK => ?_) | (refine aw_tr1 hj tok book0 (by cbv) ?_) | (refine aw_skip ?_) | (refine aw_block ?_) | (refine aw_exit ?_) | (refine aw_ret ⟨.inr rfl, ret_okj hj (by cbv) ?_ ?_⟩) | (refine aw_ret ?_) | (with_reducible first | refine th_n ?_ | refine th_r ?_ | refine th_x ?_ | refine blk_n ?_ | refine blk_r ?_ | refine blk_x ?_ | refine blk_y rfl ?_) | (refine ⟨.inr rfl, ret_okj hj (by cbv) ?_ ?_⟩) | (refine ⟨.inl rfl, ret_okj hj (by cbv) ?_ ?_⟩) | (with_reducible refine ⟨_, by cbv, ?_, ?_⟩) | (with_reducible apply_assumption -symm -exfalso only [*]))
    all_goals ((try subst y_eC); (try subst y_nE))
    all_goals (try (repeat' first | with_reducible exact obl0 | (with_reducible refine obl1 ?_ ?_)))
    all_goals (try first | with_reducible exact True.intro | ((first | refine ob_le hj ?_ | refine ob_lei hj ?_ | refine ob_inb hj ?_ | refine ob_pos hj ?_ | refine ob_ne0 hj ?_ | refine ob_eqb hj ?_); (first | rfl | first | omega | (simp only [hj, std]; split <;> omega) | (simp (disch := omega) only [hj, std, cmpI, cmpB, satB, add64, sub64, ite0, pl0, pl2, pl3, sb0, if_true, if_false, eq_self] <;> omega) | (simp (disch := omega) [hj, std, cmpI, cmpB, satB, add64, sub64, ite0, pl0, pl2, pl3, sb0, if_true, if_false, eq_self] <;> omega))) | ((rw [hE]; exact rfl)))
  generalize y_eC : @eC = x_eC at *
  generalize y_nE : @nE = x_nE at *
  (repeat' first | ((first | with_reducible refine tr_cut (fun h => ?_) (fun h => ?_) | refine aw_condj (by cbv) (fun h => ?_) (fun h => ?_)) <;> (try simp (disch := omega) only [hj, std, cmpI, cmpB, satB, Bool.not_eq_true, Bool.not_eq_false, decide_eq_true_eq, decide_eq_false_iff_not, beq_iff_eq, bne_iff_ne, bne_eq_false_iff_eq, beq_eq_false_iff_ne, ne_eq, reduceCtorEq, not_true_eq_false, not_false_eq_true, pl0, if_true, cmpS_eq, cmpS_neq, Bool.not_eq_eq_eq_not, Bool.not_true, Bool.not_false, Bool.not_eq_true', Int.ofNat_eq_natCast, add64, sub64] at h) <;> (try (exfalso; omega))) | (with_reducible refine tr_alt (fun h => ?_) ?_ <;> (try (exfalso; omega))) | (with_reducible first | refine tr_ob ?_ ?_ | refine tr_done ?_) | (refine aw_tr hj tok book0 (by cbv) ?_) | (refine aw_seq fun K hK => ?_) | (refine aw_tr1 hj tok book0 (by cbv) ?_) | (refine aw_skip ?_) | (refine aw_block ?_) | (refine aw_exit ?_) | (refine aw_ret ⟨.inr rfl, ret_okj hj (by cbv) ?_ ?_⟩) | (refine aw_ret ?_) | (with_reducible first | refine th_n ?_ | refine th_r ?_ | refine th_x ?_ | refine blk_n ?_ | refine blk_r ?_ | refine blk_x ?_ | refine blk_y rfl ?_) | (refine ⟨.inr rfl, ret_okj hj (by cbv) ?_ ?_⟩) | (refine ⟨.inl rfl, ret_okj hj (by cbv) ?_ ?_⟩) | (with_reducible refine ⟨_, by cbv, ?_, ?_⟩) | (with_reducible apply_assumption -symm -exfalso only [*]))
  all_goals ((try subst y_eC); (try subst y_nE))
  all_goals (try (repeat' first | with_reducible exact obl0 | (with_reducible refine obl1 ?_ ?_)))
  all_goals (try first | with_reducible exact True.intro | ((first | refine ob_le hj ?_ | refine ob_lei hj ?_ | refine ob_inb hj ?_ | refine ob_pos hj ?_ | refine ob_ne0 hj ?_ | refine ob_eqb hj ?_); (first | rfl | first | omega | (simp only [hj, std]; split <;> omega) | (simp (disch := omega) only [hj, std, cmpI, cmpB, satB, add64, sub64, ite0, pl0, pl2, pl3, sb0, if_true, if_false, eq_self] <;> omega) | (simp (disch := omega) [hj, std, cmpI, cmpB, satB, add64, sub64, ite0, pl0, pl2, pl3, sb0, if_true, if_false, eq_self] <;> omega))))
  refine aw_lpj hj [(0, .keep), (1, .keep), (12, .keep), (13, .keep)] [] (fun (i : Int) => stOf 26 [(0, .one (.c (.sl (nE p) (eC p)))), (1, .one (.c (.sl (nE q) (eC q)))), (12, .one (.c (vI (j.ofNat (nE p))))), (13, .one (.c (vI i)))] []) (fun (i : Int) => nE p - i.toNat) (fun (i : Int) => 0 ≤ i ∧ i ≤ nE p ∧ p.take i.toNat = q.take i.toNat) (0) (by generalize @eC = x_eC; generalize @nE = x_nE; cbv) ?_ (fun i hI => ?_)
  · exact ⟨by omega, by omega, rfl⟩
  obtain ⟨q1, q2, hQ⟩ := hI
  rcases Decidable.em (i < (nE p : Int)) with hi | hi
  · obtain ⟨c0, c1⟩ := m5 i.toNat (by omega)
    obtain ⟨d0, d1⟩ := m6 i.toNat (by omega)
    have hpe := hno i.toNat
    have f2 : (i + 1).toNat = i.toNat + 1 := by omega
    have hst2 : eAt p i.toNat = eAt q i.toNat → p.take (i + 1).toNat = q.take (i + 1).toNat := fun h => by rw [f2, k3 (by omega), k4 (by omega), hQ, h]
    generalize eAt p i.toNat = X at *
    generalize eAt q i.toNat = Y at *
    obtain ⟨u, v⟩ := X
    obtain ⟨s, t⟩ := Y
    dsimp only at c0 c1 d0 d1
    have u0 : gi (cellAt (eC p) (i.toNat * 2)) = u := by rw [c0]; rfl
    have u1 : gi (cellAt (eC p) (i.toNat * 2 + 1)) = v := by rw [c1]; rfl
    have v0 : gi (cellAt (eC q) (i.toNat * 2)) = s := by rw [d0]; rfl
    have v1 : gi (cellAt (eC q) (i.toNat * 2 + 1)) = t := by rw [d1]; rfl
    have hu : ¬ (u = s ∧ v = t) → R = false := fun h => hpe fun e => h ⟨congrArg Prod.fst e, congrArg Prod.snd e⟩
    have hst2 : u = s → v = t → p.take (i + 1).toNat = q.take (i + 1).toNat := fun h h' => hst2 (by rw [h, h'])
    clear hpe k3 k4 hQ m5 m6 hno hyes hlen
    generalize y_eC : @eC = x_eC at *
    generalize y_nE : @nE = x_nE at *
    (repeat' first | ((first | with_reducible refine tr_cut (fun h => ?_) (fun h => ?_) | refine aw_condj (by cbv) (fun h => ?_) (fun h => ?_)) <;> (try simp (disch := omega) only [hj, std, cmpI, cmpB, satB, Bool.not_eq_true, Bool.not_eq_false, decide_eq_true_eq, decide_eq_false_iff_not, beq_iff_eq, bne_iff_ne, bne_eq_false_iff_eq, beq_eq_false_iff_ne, ne_eq, reduceCtorEq, not_true_eq_false, not_false_eq_true, pl0, if_true, cmpS_eq, cmpS_neq, Bool.not_eq_eq_eq_not, Bool.not_true, Bool.not_false, Bool.not_eq_true', u0, u1, v0, v1, ite0, Int.ofNat_eq_natCast, List.cons.injEq, and_true, add64, sub64] at h) <;> (try (exfalso; omega))) | (with_reducible refine tr_alt (fun h => ?_) ?_ <;> (try (exfalso; omega))) | (with_reducible first | refine tr_ob ?_ ?_ | refine tr_done ?_) | (refine aw_dr1 (id := 6) hj tok hm book0 true [(0, false), (1, false), (2, false), (3, false), (4, false), (5, true), (6, true), (7, true), (8, true)] (by kernel_rfl) (by cbv) ?_) | (refine aw_dr (id := 6) hj tok hm book0 true [(0, false), (1, false), (2, false), (3, false), (4, false), (5, true), (6, true), (7, true), (8, true)] (by kernel_rfl) (by cbv) ?_) | (refine aw_tr hj tok book0 (by cbv) ?_) | (refine aw_seq fun K hK => ?_) | (refine aw_tr1 hj tok book0 (by cbv) ?_) | (refine aw_skip ?_) | (refine aw_block ?_) | (refine aw_exit ?_) | (refine aw_ret ⟨.inr rfl, ret_okj hj (by cbv) ?_ ?_⟩) | (refine aw_ret ?_) | (with_reducible first | refine th_n ?_ | refine th_r ?_ | refine th_x ?_ | refine blk_n ?_ | refine blk_r ?_ | refine blk_x ?_ | refine blk_y rfl ?_) | (refine ⟨.inr rfl, ret_okj hj (by cbv) ?_ ?_⟩) | (refine ⟨.inl rfl, ret_okj hj (by cbv) ?_ ?_⟩) | (with_reducible refine ⟨_, by cbv, ?_, ?_⟩) | (with_reducible apply_assumption -symm -exfalso only [*]))
    all_goals ((try subst y_eC); (try subst y_nE))
    all_goals (try (repeat' first | with_reducible exact obl0 | (with_reducible refine obl1 ?_ ?_)))
    all_goals (try first | with_reducible exact True.intro | ((first | refine ob_le hj ?_ | refine ob_lei hj ?_ | refine ob_inb hj ?_ | refine ob_pos hj ?_ | refine ob_ne0 hj ?_ | refine ob_eqb hj ?_); (first | rfl | first | omega | (simp only [hj, std]; split <;> omega) | (simp (disch := omega) only [hj, std, cmpI, cmpB, satB, add64, sub64, ite0, pl0, pl2, pl3, sb0, if_true, if_false, eq_self, m3, m4, u0, u1, v0, v1] <;> omega) | (simp (disch := omega) [hj, std, cmpI, cmpB, satB, add64, sub64, ite0, pl0, pl2, pl3, sb0, if_true, if_false, eq_self, m3, m4, u0, u1, v0, v1] <;> omega))) | ((refine ob_ok hj ?_; simp only [hj, std, ite0]; first | exact ⟨_, c0⟩ | exact ⟨_, c1⟩ | exact ⟨_, d0⟩ | exact ⟨_, d1⟩)) | ((rw [hj]; exact seqE)) | ((rw [hu (by assumption)]; exact rfl)) | ((rw [hu (by omega)]; exact rfl)) | ((simp (disch := omega) only [hj, std, add64, ite0]; first | omega | exact ⟨by omega, by omega, hst2 (by omega) (by omega)⟩)))
  · have e : i.toNat = nE p := by omega
    have hE : R = true := hyes (by
      rw [e, List.take_of_length_le (by omega), List.take_of_length_le (by omega)] at hQ
      exact hQ)
    generalize y_eC : @eC = x_eC at *
    generalize y_nE : @nE = x_nE at *
    (repeat' first | ((first | with_reducible refine tr_cut (fun h => ?_) (fun h => ?_) | refine aw_condj (by cbv) (fun h => ?_) (fun h => ?_)) <;> (try simp (disch := omega) only [hj, std, cmpI, cmpB, satB, Bool.not_eq_true, Bool.not_eq_false, decide_eq_true_eq, decide_eq_false_iff_not, beq_iff_eq, bne_iff_ne, bne_eq_false_iff_eq, beq_eq_false_iff_ne, ne_eq, reduceCtorEq, not_true_eq_false, not_false_eq_true, pl0, if_true, cmpS_eq, cmpS_neq, Bool.not_eq_eq_eq_not, Bool.not_true, Bool.not_false, Bool.not_eq_true', Int.ofNat_eq_natCast, add64, sub64] at h) <;> (try (exfalso; omega))) | (with_reducible refine tr_alt (fun h => ?_) ?_ <;> (try (exfalso; omega))) | (with_reducible first | refine tr_ob ?_ ?_ | refine tr_done ?_) | (refine aw_tr hj tok book0 (by cbv) ?_) | (refine aw_seq fun K hK => ?_) | (refine aw_tr1 hj tok book0 (by cbv) ?_) | (refine aw_skip ?_) | (refine aw_block ?_) | (refine aw_exit ?_) | (refine aw_ret ⟨.inr rfl, ret_okj hj (by cbv) ?_ ?_⟩) | (refine aw_ret ?_) | (with_reducible first | refine th_n ?_ | refine th_r ?_ | refine th_x ?_ | refine blk_n ?_ | refine blk_r ?_ | refine blk_x ?_ | refine blk_y rfl ?_) | (refine ⟨.inr rfl, ret_okj hj (by cbv) ?_ ?_⟩) | (refine ⟨.inl rfl, ret_okj hj (by cbv) ?_ ?_⟩) | (with_reducible refine ⟨_, by cbv, ?_, ?_⟩) | (with_reducible apply_assumption -symm -exfalso only [*]))
    all_goals ((try subst y_eC); (try subst y_nE))
    all_goals (try (repeat' first | with_reducible exact obl0 | with_reducible refine obl1 ?_ ?_))
    all_goals (try first | with_reducible exact True.intro | ((first | refine ob_le hj ?_ | refine ob_lei hj ?_ | refine ob_inb hj ?_ | refine ob_pos hj ?_ | refine ob_ne0 hj ?_ | refine ob_eqb hj ?_); (first | rfl | first | omega | (simp only [hj, std]; split <;> omega) | (simp (disch := omega) only [hj, std, cmpI, cmpB, satB, add64, sub64, ite0, pl0, pl2, pl3, sb0, if_true, if_false, eq_self] <;> omega) | (simp (disch := omega) [hj, std, cmpI, cmpB, satB, add64, sub64, ite0, pl0, pl2, pl3, sb0, if_true, if_false, eq_self] <;> omega))) | ((rw [hE]; exact rfl)))
set_option linter.unusedVariables false
def eqEC (cs ds : List C) : Bool := sameE (egsOf cs) (egsOf ds)
def bookM3 (x_eqEC : List C → List C → Bool) : Book := fun f xs => match f, xs with
 | 30, [.v false [.sl _ cs], .v false [.sl _ ds]] => some (ret1 (.st (vB (x_eqEC cs ds))), [])
 | _, _ => none
theorem c_EqE (p q : List Eg) (z1 : p.length ≤ 1000000000) (z2 : q.length ≤ 1000000000) : pc 30 [.v false [.sl (nE p) (eC p)], .v false [.sl (nE q) (eC q)]] (ret1 (.st (vB (eqEC (eC p) (eC q))))) := by
 refine ⟨enters Tryd.func30 (by kernel_rfl) (by kernel_rfl), ?_⟩
 unfold eqEC; rw [egsOf_eC, egsOf_eC]; exact pc_EqE p q z1 z2
set_option linter.unusedVariables false
def eqSt (x : Int) (cs : List C) (y : Int) (ds : List C) : Bool := decide (x = y) && eqEC cs ds
theorem pc_Same1 (x y : Int) (p q : List Eg) (z1 : p.length ≤ 1000000000) (z2 : q.length ≤ 1000000000) : PC Tryd.prog T 29 [.v true [vI x, .sl (nE p) (eC p)], .v true [vI y, .sl (nE q) (eC q)]] (ret1 (.st (vB (eqSt x (eC p) y (eC q))))) [] := by
 have c1 := c_EqE p q z1 z2
 have e1 : x = y → eqSt x (eC p) y (eC q) = eqEC (eC p) (eC q) := fun h => by unfold eqSt; rw [decide_eq_true h, Bool.true_and]
 have e2 : ¬ x = y → eqSt x (eC p) y (eC q) = false := fun h => by unfold eqSt; rw [decide_eq_false h, Bool.false_and]
 generalize eqSt x (eC p) y (eC q) = R at *
 refine pc_of tok Tryd.func29 rfl (by rfl) ?_
 obtain ⟨j, hj⟩ : ∃ j : J, j = std Tryd.prog T := ⟨_, rfl⟩
 have hm : Tryd.prog.follows .mixedOrders = true := by kernel_rfl
 generalize y_eqEC : @eqEC = x_eqEC at *
 generalize y_eC : @eC = x_eC at *
 generalize y_nE : @nE = x_nE at *
 generalize y_eqSt : @eqSt = x_eqSt at *
 (repeat' first | ((first | with_reducible refine tr_cut (fun h => ?_) (fun h => ?_) | refine aw_condj (by cbv) (fun h => ?_) (fun h => ?_)) <;> (try simp (disch := omega) only [hj, std, cmpI, cmpB, satB, Bool.not_eq_true, Bool.not_eq_false, decide_eq_true_eq, decide_eq_false_iff_not, beq_iff_eq, bne_iff_ne, bne_eq_false_iff_eq, beq_eq_false_iff_ne, ne_eq, reduceCtorEq, not_true_eq_false, not_false_eq_true, pl0, if_true, cmpS_eq, cmpS_neq, Bool.not_eq_eq_eq_not, Bool.not_true, Bool.not_false, Bool.not_eq_true', add64, sub64] at h) <;> (try (exfalso; omega))) | (with_reducible refine tr_alt (fun h => ?_) ?_ <;> (try (exfalso; omega))) | (with_reducible first | refine tr_ob ?_ ?_ | refine tr_done ?_) | (refine aw_tr hj tok (bookM3 x_eqEC) (by cbv) ?_) | (refine aw_seq fun K hK => ?_) | (refine aw_tr1 hj tok (bookM3 x_eqEC) (by cbv) ?_) | (refine aw_skip ?_) | (refine aw_block ?_) | (refine aw_exit ?_) | (refine aw_ret ⟨.inr rfl, ret_okj hj (by cbv) ?_ ?_⟩) | (refine aw_ret ?_) | (with_reducible first | refine th_n ?_ | refine th_r ?_ | refine th_x ?_ | refine blk_n ?_ | refine blk_r ?_ | refine blk_x ?_ | refine blk_y rfl ?_) | (refine ⟨.inr rfl, ret_okj hj (by cbv) ?_ ?_⟩) | (refine ⟨.inl rfl, ret_okj hj (by cbv) ?_ ?_⟩) | (with_reducible apply_assumption -symm -exfalso only [*]))
 all_goals ((try subst y_eqEC); (try subst y_eC); (try subst y_nE); (try subst y_eqSt))
 all_goals (try (repeat' first | with_reducible exact obl0 | with_reducible refine obl1 ?_ ?_))
 all_goals (try first | with_reducible exact True.intro | ((first | refine ob_pc hj ?_ | refine ob_pcn hj ?_); (try rw [hj]); first | exact c1) | ((first | refine ob_le hj ?_ | refine ob_lei hj ?_ | refine ob_inb hj ?_ | refine ob_pos hj ?_ | refine ob_ne0 hj ?_ | refine ob_eqb hj ?_); (first | rfl | first | omega | (simp only [hj, std]; split <;> omega) | (simp (disch := omega) only [hj, std, cmpI, cmpB, satB, add64, sub64, ite0, pl0, pl2, pl3, sb0, if_true, if_false, eq_self] <;> omega) | (simp (disch := omega) [hj, std, cmpI, cmpB, satB, add64, sub64, ite0, pl0, pl2, pl3, sb0, if_true, if_false, eq_self] <;> omega))) | ((refine ob_ok hj ?_; (try rw [hj]); first | exact ⟨_, rfl⟩ | exact .inr ⟨_, _, rfl⟩)) | ((rw [e1 (by assumption)]; exact rfl)) | ((rw [e2 (by assumption)]; exact rfl)))
theorem c_Same1 (x y : Int) (p q : List Eg) (z1 : p.length ≤ 1000000000) (z2 : q.length ≤ 1000000000) : pc 29 [.v true [vI x, .sl (nE p) (eC p)], .v true [vI y, .sl (nE q) (eC q)]] (ret1 (.st (vB (eqSt x (eC p) y (eC q))))) := ⟨enters Tryd.func29 (by kernel_rfl) (by kernel_rfl), pc_Same1 x y p q z1 z2⟩
def bookM4 (x_eqSt : Int → List C → Int → List C → Bool) : Book := fun f xs => match f, xs with
 | 29, [.v true [.val (.int _ x), .sl _ cs], .v true [.val (.int _ y), .sl _ ds]] => some (ret1 (.st (vB (x_eqSt x cs y ds))), [])
 | _, _ => none
abbrev fS1 : FuncId := 29
theorem pc_EqF (a b : List Sta) (ha : SzM a) (hb : SzM b) : PC Tryd.prog T 28 [.v false [.sl (nM a) (mC a)], .v false [.sl (nM b) (mC b)], .fn 29] (ret1 (.st (vB (sameM a b)))) [] := by
  have n1 := nM_eq a
  have n2 := nM_eq b
  have l1 := mC_len a
  have l2 := mC_len b
  have t1 := mC_at a
  have t2 := mC_at b
  have z1 := @SzM.at a ha
  have z2 := @SzM.at b hb
  have s1 := ha.1
  have s2 := hb.1
  have hlen : nM a ≠ nM b → sameM a b = false := fun h => decide_eq_false fun hh => h (by rw [hh])
  have hno : ∀ k, mAt a k ≠ mAt b k → sameM a b = false := fun k h => decide_eq_false fun hh => h (by rw [hh])
  have hyes : a = b → sameM a b = true := fun h => decide_eq_true h
  have k1 := @take_st a
  have k2 := @take_st b
  generalize sameM a b = R at *
  refine pc_of tok Tryd.func28 rfl (by rfl) ?_
  obtain ⟨j, hj⟩ : ∃ j : J, j = std Tryd.prog T := ⟨_, rfl⟩
  have hm : Tryd.prog.follows .mixedOrders = true := by kernel_rfl
  rcases Decidable.em (nM a = nM b) with h0 | h0
  rotate_left
  · have hE := hlen h0
    generalize y_eqSt : @eqSt = x_eqSt at *
    generalize y_eC : @eC = x_eC at *
    generalize y_nE : @nE = x_nE at *
    generalize y_mC : @mC = x_mC at *
    generalize y_nM : @nM = x_nM at *
    generalize y_eqEC : @eqEC = x_eqEC at *
    (repeat' first | ((first | with_reducible refine tr_cut (fun h => ?_) (fun h => ?_) | refine aw_condj (by cbv) (fun h => ?_) (fun h => ?_)) <;> (try simp (disch := omega) only [hj, std, cmpI, cmpB, satB, Bool.not_eq_true, Bool.not_eq_false, decide_eq_true_eq, decide_eq_false_iff_not, beq_iff_eq, bne_iff_ne, bne_eq_false_iff_eq, beq_eq_false_iff_ne, ne_eq, reduceCtorEq, not_true_eq_false, not_false_eq_true, pl0, if_true, cmpS_eq, cmpS_neq, Bool.not_eq_eq_eq_not, Bool.not_true, Bool.not_false, Bool.not_eq_true', Int.ofNat_eq_natCast, add64, sub64] at h) <;> (try (exfalso; omega))) | (with_reducible refine tr_alt (fun h => ?_) ?_ <;> (try (exfalso; omega))) | (with_reducible first | refine tr_ob ?_ ?_ | refine tr_done ?_) | (refine aw_tr hj tok (bookM4 x_eqSt) (by cbv) ?_) | (refine aw_seq fun K hK => ?_) | (refine aw_tr1 hj tok (bookM4 x_eqSt) (by cbv) ?_) | (refine aw_skip ?_) | (refine aw_block ?_) | (refine aw_exit ?_) | (refine aw_ret ⟨.inr rfl, ret_okj hj (by cbv) ?_ ?_⟩) | (refine aw_ret ?_) | (with_reducible first | refine th_n ?_ | refine th_r ?_ | refine th_x ?_ | refine blk_n ?_ | refine blk_r ?_ | refine blk_x ?_ | refine blk_y rfl ?_) | (refine ⟨.inr rfl, ret_okj hj (by cbv) ?_ ?_⟩) | (refine ⟨.inl rfl, ret_okj hj (by cbv) ?_ ?_⟩) | (with_reducible refine ⟨_, by cbv, ?_, ?_⟩) | (with_reducible apply_assumption -symm -exfalso only [*]))
    all_goals ((try subst y_eqSt); (try subst y_eC); (try subst y_nE); (try subst y_mC); (try subst y_nM); (try subst y_eqEC))
    all_goals (try (repeat' first | with_reducible exact obl0 | (with_reducible refine obl1 ?_ ?_)))
    all_goals (try first | with_reducible exact True.intro | ((first | refine ob_le hj ?_ | refine ob_lei hj ?_ | refine ob_inb hj ?_ | refine ob_pos hj ?_ | refine ob_ne0 hj ?_ | refine ob_eqb hj ?_); (first | rfl | first | omega | (simp only [hj, std]; split <;> omega) | (simp (disch := omega) only [hj, std, cmpI, cmpB, satB, add64, sub64, ite0, pl0, pl2, pl3, sb0, if_true, if_false, eq_self] <;> omega) | (simp (disch := omega) [hj, std, cmpI, cmpB, satB, add64, sub64, ite0, pl0, pl2, pl3, sb0, if_true, if_false, eq_self] <;> omega))) | ((rw [hE]; exact rfl)))
  generalize y_eqSt : @eqSt = x_eqSt at *
  generalize y_eC : @eC = x_eC at *
  generalize y_nE : @nE = x_nE at *
  generalize y_mC : @mC = x_mC at *
  generalize y_nM : @nM = x_nM at *
  generalize y_eqEC : @eqEC = x_eqEC at *
  (repeat' first | ((first | with_reducible refine tr_cut (fun h => ?_) (fun h => ?_) | refine aw_condj (by cbv) (fun h => ?_) (fun h => ?_)) <;> (try simp (disch := omega) only [hj, std, cmpI, cmpB, satB, Bool.not_eq_true, Bool.not_eq_false, decide_eq_true_eq, decide_eq_false_iff_not, beq_iff_eq, bne_iff_ne, bne_eq_false_iff_eq, beq_eq_false_iff_ne, ne_eq, reduceCtorEq, not_true_eq_false, not_false_eq_true, pl0, if_true, cmpS_eq, cmpS_neq, Bool.not_eq_eq_eq_not, Bool.not_true, Bool.not_false, Bool.not_eq_true', Int.ofNat_eq_natCast, add64, sub64] at h) <;> (try (exfalso; omega))) | (with_reducible refine tr_alt (fun h => ?_) ?_ <;> (try (exfalso; omega))) | (with_reducible first | refine tr_ob ?_ ?_ | refine tr_done ?_) | (refine aw_tr hj tok (bookM4 x_eqSt) (by cbv) ?_) | (refine aw_seq fun K hK => ?_) | (refine aw_tr1 hj tok (bookM4 x_eqSt) (by cbv) ?_) | (refine aw_skip ?_) | (refine aw_block ?_) | (refine aw_exit ?_) | (refine aw_ret ⟨.inr rfl, ret_okj hj (by cbv) ?_ ?_⟩) | (refine aw_ret ?_) | (with_reducible first | refine th_n ?_ | refine th_r ?_ | refine th_x ?_ | refine blk_n ?_ | refine blk_r ?_ | refine blk_x ?_ | refine blk_y rfl ?_) | (refine ⟨.inr rfl, ret_okj hj (by cbv) ?_ ?_⟩) | (refine ⟨.inl rfl, ret_okj hj (by cbv) ?_ ?_⟩) | (with_reducible refine ⟨_, by cbv, ?_, ?_⟩) | (with_reducible apply_assumption -symm -exfalso only [*]))
  all_goals ((try subst y_eqSt); (try subst y_eC); (try subst y_nE); (try subst y_mC); (try subst y_nM); (try subst y_eqEC))
  all_goals (try (repeat' first | with_reducible exact obl0 | (with_reducible refine obl1 ?_ ?_)))
  all_goals (try first | with_reducible exact True.intro | ((first | refine ob_le hj ?_ | refine ob_lei hj ?_ | refine ob_inb hj ?_ | refine ob_pos hj ?_ | refine ob_ne0 hj ?_ | refine ob_eqb hj ?_); (first | rfl | first | omega | (simp only [hj, std]; split <;> omega) | (simp (disch := omega) only [hj, std, cmpI, cmpB, satB, add64, sub64, ite0, pl0, pl2, pl3, sb0, if_true, if_false, eq_self] <;> omega) | (simp (disch := omega) [hj, std, cmpI, cmpB, satB, add64, sub64, ite0, pl0, pl2, pl3, sb0, if_true, if_false, eq_self] <;> omega))))
  refine aw_lpj hj [(0, .keep), (1, .keep), (2, .keep), (15, .keep), (16, .keep), (17, .keep)] [] (fun (k : Int) => stOf 32 [(0, .one (.c (.sl (nM a) (mC a)))), (1, .one (.c (.sl (nM b) (mC b)))), (2, .one (.fn fS1 [])), (15, .one (.c (.sl (nM a) (mC a)))), (16, .one (.c (vI (j.ofNat (nM a))))), (17, .one (.c (vI k)))] []) (fun (k : Int) => nM a - k.toNat) (fun (k : Int) => 0 ≤ k ∧ k ≤ nM a ∧ a.take k.toNat = b.take k.toNat) (0) (by generalize @eqSt = x_eqSt; generalize @eC = x_eC; generalize @nE = x_nE; generalize @mC = x_mC; generalize @nM = x_nM; generalize @eqEC = x_eqEC; cbv) ?_ (fun k hI => ?_)
  · exact ⟨by omega, by omega, rfl⟩
  obtain ⟨i1, i2, hI⟩ := hI
  rcases Decidable.em (k < (nM a : Int)) with hk | hk
  · obtain ⟨a0, a1⟩ := t1 k.toNat (by omega)
    obtain ⟨b0, b1⟩ := t2 k.toNat (by omega)
    have z1 := z1 (k := k.toNat) (by omega)
    have z2 := z2 (k := k.toNat) (by omega)
    have hno := hno k.toNat
    have f1 : (k + 1).toNat = k.toNat + 1 := by omega
    have hst : mAt a k.toNat = mAt b k.toNat → a.take (k + 1).toNat = b.take (k + 1).toNat := fun h => by rw [f1, k1 (by omega), k2 (by omega), hI, h]
    have g0 : gi (cellAt (mC a) (k.toNat * 2)) = (mAt a k.toNat).1 := by rw [a0]; rfl
    have g1 : gn (cellAt (mC a) (k.toNat * 2 + 1)) = nE (mAt a k.toNat).2 := by rw [a1]; rfl
    have g2 : gc (cellAt (mC a) (k.toNat * 2 + 1)) = eC (mAt a k.toNat).2 := by rw [a1]; rfl
    have w0 : gi (cellAt (mC b) (k.toNat * 2)) = (mAt b k.toNat).1 := by rw [b0]; rfl
    have w1 : gn (cellAt (mC b) (k.toNat * 2 + 1)) = nE (mAt b k.toNat).2 := by rw [b1]; rfl
    have w2 : gc (cellAt (mC b) (k.toNat * 2 + 1)) = eC (mAt b k.toNat).2 := by rw [b1]; rfl
    generalize mAt a k.toNat = X at *
    generalize mAt b k.toNat = Y at *
    obtain ⟨x, p⟩ := X
    obtain ⟨y, q⟩ := Y
    dsimp only at z1 z2 a0 a1 b0 b1 g0 g1 g2 w0 w1 w2
    have cS := c_Same1 x y p q z1 z2
    have he : eqSt x (eC p) y (eC q) = decide (x = y ∧ p = q) := by
      unfold eqSt eqEC
      rw [egsOf_eC, egsOf_eC]
      unfold sameE
      rw [Bool.decide_and]
    have hyy : eqSt x (eC p) y (eC q) = true → a.take (k + 1).toNat = b.take (k + 1).toNat := fun h => by
      rw [he] at h
      obtain ⟨h1, h2⟩ := of_decide_eq_true h
      exact hst (by rw [h1, h2])
    have hnn : eqSt x (eC p) y (eC q) = false → R = false := fun h => hno fun e => by
      rw [he] at h
      exact of_decide_eq_false h ⟨congrArg Prod.fst e, congrArg Prod.snd e⟩
    clear hno hI k1 k2 t1 t2 hlen hyes he hst
    generalize y_eqSt : @eqSt = x_eqSt at *
    generalize y_eC : @eC = x_eC at *
    generalize y_nE : @nE = x_nE at *
    generalize y_mC : @mC = x_mC at *
    generalize y_nM : @nM = x_nM at *
    generalize y_eqEC : @eqEC = x_eqEC at *
    (repeat' first | ((first | with_reducible refine tr_cut (fun h => ?_) (fun h => ?_) | refine aw_condj (by cbv) (fun h => ?_) (fun h => ?_)) <;> (try simp (disch := omega) only [hj, std, cmpI, cmpB, satB, Bool.not_eq_true, Bool.not_eq_false, decide_eq_true_eq, decide_eq_false_iff_not, beq_iff_eq, bne_iff_ne, bne_eq_false_iff_eq, beq_eq_false_iff_ne, ne_eq, reduceCtorEq, not_true_eq_false, not_false_eq_true, pl0, if_true, cmpS_eq, cmpS_neq, Bool.not_eq_eq_eq_not, Bool.not_true, Bool.not_false, Bool.not_eq_true', g0, g1, g2, w0, w1, w2, ite0, Int.ofNat_eq_natCast, add64, sub64] at h) <;> (try (exfalso; omega))) | (with_reducible refine tr_alt (fun h => ?_) ?_ <;> (try (exfalso; omega))) | (with_reducible first | refine tr_ob ?_ ?_ | refine tr_done ?_) | (refine aw_tr hj tok (bookM4 x_eqSt) (by cbv) ?_) | (refine aw_seq fun K hK => ?_) | (refine aw_tr1 hj tok (bookM4 x_eqSt) (by cbv) ?_) | (refine aw_skip ?_) | (refine aw_block ?_) | (refine aw_exit ?_) | (refine aw_ret ⟨.inr rfl, ret_okj hj (by cbv) ?_ ?_⟩) | (refine aw_ret ?_) | (with_reducible first | refine th_n ?_ | refine th_r ?_ | refine th_x ?_ | refine blk_n ?_ | refine blk_r ?_ | refine blk_x ?_ | refine blk_y rfl ?_) | (refine ⟨.inr rfl, ret_okj hj (by cbv) ?_ ?_⟩) | (refine ⟨.inl rfl, ret_okj hj (by cbv) ?_ ?_⟩) | (with_reducible refine ⟨_, by cbv, ?_, ?_⟩) | (with_reducible apply_assumption -symm -exfalso only [*]))
    all_goals ((try subst y_eqSt); (try subst y_eC); (try subst y_nE); (try subst y_mC); (try subst y_nM); (try subst y_eqEC))
    all_goals (try (repeat' first | with_reducible exact obl0 | (with_reducible refine obl1 ?_ ?_)))
    all_goals (try first | with_reducible exact True.intro | ((first | refine ob_pc hj ?_ | refine ob_pcn hj ?_); (try rw [hj]); first | exact cS | (simp only [std, g0, g1, g2, w0, w1, w2]; exact cS)) | ((first | refine ob_le hj ?_ | refine ob_lei hj ?_ | refine ob_inb hj ?_ | refine ob_pos hj ?_ | refine ob_ne0 hj ?_ | refine ob_eqb hj ?_); (first | rfl | first | omega | (simp only [hj, std]; split <;> omega) | (simp (disch := omega) only [hj, std, cmpI, cmpB, satB, add64, sub64, ite0, pl0, pl2, pl3, sb0, if_true, if_false, eq_self, l1, l2, g0, g1, w0, w1] <;> omega) | (simp (disch := omega) [hj, std, cmpI, cmpB, satB, add64, sub64, ite0, pl0, pl2, pl3, sb0, if_true, if_false, eq_self, l1, l2, g0, g1, w0, w1] <;> omega))) | ((refine ob_ok hj ?_; simp only [hj, std, ite0]; first | exact ⟨_, a0⟩ | exact .inr ⟨_, _, a1⟩ | exact ⟨_, b0⟩ | exact .inr ⟨_, _, b1⟩ | exact ⟨_, rfl⟩ | exact .inr ⟨_, _, rfl⟩)) | ((rw [hnn (by assumption)]; exact rfl)) | ((simp (disch := omega) only [hj, std, add64, ite0]; first | omega | exact ⟨by omega, by omega, hyy (by assumption)⟩)))
  · have e : k.toNat = nM a := by omega
    have hE : R = true := hyes (by
      rw [e, List.take_of_length_le (by omega), List.take_of_length_le (by omega)] at hI
      exact hI)
    generalize y_eqSt : @eqSt = x_eqSt at *
    generalize y_eC : @eC = x_eC at *
    generalize y_nE : @nE = x_nE at *
    generalize y_mC : @mC = x_mC at *
    generalize y_nM : @nM = x_nM at *
    generalize y_eqEC : @eqEC = x_eqEC at *
    (repeat' first | ((first | with_reducible refine tr_cut (fun h => ?_) (fun h => ?_) | refine aw_condj (by cbv) (fun h => ?_) (fun h => ?_)) <;> (try simp (disch := omega) only [hj, std, cmpI, cmpB, satB, Bool.not_eq_true, Bool.not_eq_false, decide_eq_true_eq, decide_eq_false_iff_not, beq_iff_eq, bne_iff_ne, bne_eq_false_iff_eq, beq_eq_false_iff_ne, ne_eq, reduceCtorEq, not_true_eq_false, not_false_eq_true, pl0, if_true, cmpS_eq, cmpS_neq, Bool.not_eq_eq_eq_not, Bool.not_true, Bool.not_false, Bool.not_eq_true', Int.ofNat_eq_natCast, add64, sub64] at h) <;> (try (exfalso; omega))) | (with_reducible refine tr_alt (fun h => ?_) ?_ <;> (try (exfalso; omega))) | (with_reducible first | refine tr_ob ?_ ?_ | refine tr_done ?_) | (refine aw_tr hj tok (bookM4 x_eqSt) (by cbv) ?_) | (refine aw_seq fun K hK => ?_) | (refine aw_tr1 hj tok (bookM4 x_eqSt) (by cbv) ?_) | (refine aw_skip ?_) | (refine aw_block ?_) | (refine aw_exit ?_) | (refine aw_ret ⟨.inr rfl, ret_okj hj (by cbv) ?_ ?_⟩) | (refine aw_ret ?_) | (with_reducible first | refine th_n ?_ | refine th_r ?_ | refine th_x ?_ | refine blk_n ?_ | refine blk_r ?_ | refine blk_x ?_ | refine blk_y rfl ?_) | (refine ⟨.inr rfl, ret_okj hj (by cbv) ?_ ?_⟩) | (refine ⟨.inl rfl, ret_okj hj (by cbv) ?_ ?_⟩) | (with_reducible refine ⟨_, by cbv, ?_, ?_⟩) | (with_reducible apply_assumption -symm -exfalso only [*]))
    all_goals ((try subst y_eqSt); (try subst y_eC); (try subst y_nE); (try subst y_mC); (try subst y_nM); (try subst y_eqEC))
    all_goals (try (repeat' first | with_reducible exact obl0 | with_reducible refine obl1 ?_ ?_))
    all_goals (try first | with_reducible exact True.intro | ((first | refine ob_le hj ?_ | refine ob_lei hj ?_ | refine ob_inb hj ?_ | refine ob_pos hj ?_ | refine ob_ne0 hj ?_ | refine ob_eqb hj ?_); (first | rfl | first | omega | (simp only [hj, std]; split <;> omega) | (simp (disch := omega) only [hj, std, cmpI, cmpB, satB, add64, sub64, ite0, pl0, pl2, pl3, sb0, if_true, if_false, eq_self] <;> omega) | (simp (disch := omega) [hj, std, cmpI, cmpB, satB, add64, sub64, ite0, pl0, pl2, pl3, sb0, if_true, if_false, eq_self] <;> omega))) | ((rw [hE]; exact rfl)))
end Go.Proofs.YtcpcghnpoekhpaaDoor.A
/- Machines: the program's Same and right; the reference: which states are reached. -/
set_option linter.unusedSimpArgs false
set_option linter.unusedVariables false
set_option maxRecDepth 100000
set_option maxHeartbeats 4000000
namespace Go.Proofs.YtcpcghnpoekhpaaDoor.A
open Go
set_option linter.unusedVariables false
def sameC (cs ds : List C) : Bool := sameM (stsOf cs) (stsOf ds)
def bookM6 (x_valC : List C → Int → Bool) (x_sameC : List C → List C → Bool) : Book := fun f xs => match f, xs with
 | 28, [.v false [.sl _ cs], .v false [.sl _ ds], .fn _] => some (ret1 (.st (vB (x_sameC cs ds))), [])
 | 33, [.v false [.sl _ cs], .v false [.val (.int _ t)]] => some (ret1 (.st (vB (x_valC cs t))), [])
 | _, _ => none
theorem pc_SameP (a b : List Sta) (ha : SzM a) (hb : SzM b) : PC Tryd.prog T 18 [.v false [.sl (nM a) (mC a)], .v false [.sl (nM b) (mC b)]] (ret1 (.st (vB (sameM a b)))) [] := by
 have cE : pc 28 [.v false [.sl (nM a) (mC a)], .v false [.sl (nM b) (mC b)], .fn 29] (ret1 (.st (vB (sameC (mC a) (mC b))))) := by
  refine ⟨enters Tryd.func28 (by kernel_rfl) (by kernel_rfl), ?_⟩
  unfold sameC; rw [stsOf_mC, stsOf_mC]; exact pc_EqF a b ha hb
 have e1 : sameM a b = sameC (mC a) (mC b) := by unfold sameC; rw [stsOf_mC, stsOf_mC]
 generalize sameM a b = R at *
 refine pc_of tok Tryd.func18 rfl (by rfl) ?_
 obtain ⟨j, hj⟩ : ∃ j : J, j = std Tryd.prog T := ⟨_, rfl⟩
 have hm : Tryd.prog.follows .mixedOrders = true := by kernel_rfl
 generalize y_valC : @valC = x_valC at *
 generalize y_sameC : @sameC = x_sameC at *
 generalize y_mC : @mC = x_mC at *
 generalize y_nM : @nM = x_nM at *
 (repeat' first | ((first | with_reducible refine tr_cut (fun h => ?_) (fun h => ?_) | refine aw_condj (by cbv) (fun h => ?_) (fun h => ?_)) <;> (try simp (disch := omega) only [hj, std, cmpI, cmpB, satB, Bool.not_eq_true, Bool.not_eq_false, decide_eq_true_eq, decide_eq_false_iff_not, beq_iff_eq, bne_iff_ne, bne_eq_false_iff_eq, beq_eq_false_iff_ne, ne_eq, reduceCtorEq, not_true_eq_false, not_false_eq_true, pl0, if_true, cmpS_eq, cmpS_neq, Bool.not_eq_eq_eq_not, Bool.not_true, Bool.not_false, Bool.not_eq_true', add64, sub64] at h) <;> (try (exfalso; omega))) | (with_reducible refine tr_alt (fun h => ?_) ?_ <;> (try (exfalso; omega))) | (with_reducible first | refine tr_ob ?_ ?_ | refine tr_done ?_) | (refine aw_tr hj tok (bookM6 x_valC x_sameC) (by cbv) ?_) | (refine aw_seq fun K hK => ?_) | (refine aw_tr1 hj tok (bookM6 x_valC x_sameC) (by cbv) ?_) | (refine aw_skip ?_) | (refine aw_block ?_) | (refine aw_exit ?_) | (refine aw_ret ⟨.inr rfl, ret_okj hj (by cbv) ?_ ?_⟩) | (refine aw_ret ?_) | (with_reducible first | refine th_n ?_ | refine th_r ?_ | refine th_x ?_ | refine blk_n ?_ | refine blk_r ?_ | refine blk_x ?_ | refine blk_y rfl ?_) | (refine ⟨.inr rfl, ret_okj hj (by cbv) ?_ ?_⟩) | (refine ⟨.inl rfl, ret_okj hj (by cbv) ?_ ?_⟩) | (with_reducible apply_assumption -symm -exfalso only [*]))
 all_goals ((try subst y_valC); (try subst y_sameC); (try subst y_mC); (try subst y_nM))
 all_goals (try (repeat' first | with_reducible exact obl0 | with_reducible refine obl1 ?_ ?_))
 all_goals (try first | with_reducible exact True.intro | ((first | refine ob_pc hj ?_ | refine ob_pcn hj ?_); (try rw [hj]); first | exact cE) | ((first | refine ob_le hj ?_ | refine ob_lei hj ?_ | refine ob_inb hj ?_ | refine ob_pos hj ?_ | refine ob_ne0 hj ?_ | refine ob_eqb hj ?_); (first | rfl | first | omega | (simp only [hj, std]; split <;> omega) | (simp (disch := omega) only [hj, std, cmpI, cmpB, satB, add64, sub64, ite0, pl0, pl2, pl3, sb0, if_true, if_false, eq_self] <;> omega) | (simp (disch := omega) [hj, std, cmpI, cmpB, satB, add64, sub64, ite0, pl0, pl2, pl3, sb0, if_true, if_false, eq_self] <;> omega))) | ((rw [e1]; exact rfl)))
theorem pc_right (m : List Sta) (hs : SzM m) : PC Tryd.prog T 21 [.v false [.sl (nM m) (mC m)]] (ret1 (.st (vB (validM m 9223372036854775807)))) [] := by
 have c1 := c_ValidT m 9223372036854775807 hs
 have e1 : validM m 9223372036854775807 = valC (mC m) 9223372036854775807 := by unfold valC; rw [stsOf_mC]
 generalize validM m 9223372036854775807 = R at *
 refine pc_of tok Tryd.func21 rfl (by rfl) ?_
 obtain ⟨j, hj⟩ : ∃ j : J, j = std Tryd.prog T := ⟨_, rfl⟩
 have hm : Tryd.prog.follows .mixedOrders = true := by kernel_rfl
 generalize y_valC : @valC = x_valC at *
 generalize y_sameC : @sameC = x_sameC at *
 generalize y_mC : @mC = x_mC at *
 generalize y_nM : @nM = x_nM at *
 (repeat' first | ((first | with_reducible refine tr_cut (fun h => ?_) (fun h => ?_) | refine aw_condj (by cbv) (fun h => ?_) (fun h => ?_)) <;> (try simp (disch := omega) only [hj, std, cmpI, cmpB, satB, Bool.not_eq_true, Bool.not_eq_false, decide_eq_true_eq, decide_eq_false_iff_not, beq_iff_eq, bne_iff_ne, bne_eq_false_iff_eq, beq_eq_false_iff_ne, ne_eq, reduceCtorEq, not_true_eq_false, not_false_eq_true, pl0, if_true, cmpS_eq, cmpS_neq, Bool.not_eq_eq_eq_not, Bool.not_true, Bool.not_false, Bool.not_eq_true', add64, sub64] at h) <;> (try (exfalso; omega))) | (with_reducible refine tr_alt (fun h => ?_) ?_ <;> (try (exfalso; omega))) | (with_reducible first | refine tr_ob ?_ ?_ | refine tr_done ?_) | (refine aw_tr hj tok (bookM6 x_valC x_sameC) (by cbv) ?_) | (refine aw_seq fun K hK => ?_) | (refine aw_tr1 hj tok (bookM6 x_valC x_sameC) (by cbv) ?_) | (refine aw_skip ?_) | (refine aw_block ?_) | (refine aw_exit ?_) | (refine aw_ret ⟨.inr rfl, ret_okj hj (by cbv) ?_ ?_⟩) | (refine aw_ret ?_) | (with_reducible first | refine th_n ?_ | refine th_r ?_ | refine th_x ?_ | refine blk_n ?_ | refine blk_r ?_ | refine blk_x ?_ | refine blk_y rfl ?_) | (refine ⟨.inr rfl, ret_okj hj (by cbv) ?_ ?_⟩) | (refine ⟨.inl rfl, ret_okj hj (by cbv) ?_ ?_⟩) | (with_reducible apply_assumption -symm -exfalso only [*]))
 all_goals ((try subst y_valC); (try subst y_sameC); (try subst y_mC); (try subst y_nM))
 all_goals (try (repeat' first | with_reducible exact obl0 | with_reducible refine obl1 ?_ ?_))
 all_goals (try first | with_reducible exact True.intro | ((first | refine ob_pc hj ?_ | refine ob_pcn hj ?_); (try rw [hj]); first | exact c1) | ((first | refine ob_le hj ?_ | refine ob_lei hj ?_ | refine ob_inb hj ?_ | refine ob_pos hj ?_ | refine ob_ne0 hj ?_ | refine ob_eqb hj ?_); (first | rfl | first | omega | (simp only [hj, std]; split <;> omega) | (simp (disch := omega) only [hj, std, cmpI, cmpB, satB, add64, sub64, ite0, pl0, pl2, pl3, sb0, if_true, if_false, eq_self] <;> omega) | (simp (disch := omega) [hj, std, cmpI, cmpB, satB, add64, sub64, ite0, pl0, pl2, pl3, sb0, if_true, if_false, eq_self] <;> omega))) | ((rw [e1]; exact rfl)))
/-! ### the reference: which states are reached -/
abbrev bT24 : TypeId := 4
def setTo (n : Int) (o : List Bool) (e : Eg) : List Bool := if 0 ≤ e.2 ∧ e.2 < n then o.set e.2.toNat true else o
def rSt (m : List Sta) (o : List Bool) (i : Nat) : List Bool := if bAt o i = true then (mAt m i).2.foldl (setTo m.length) o else o
def rRd (m : List Sta) (o : List Bool) : List Bool := (List.range m.length).foldl (rSt m) o
def rIt (m : List Sta) : Nat → List Bool
 | 0 => (List.replicate m.length false).set 0 true
 | n + 1 => rRd m (rIt m n)
def reachM (m : List Sta) : List Bool := rIt m m.length
theorem setTo_len (n : Int) (o : List Bool) (e : Eg) : (setTo n o e).length = o.length := by unfold setTo; split <;> simp
theorem fold_len (n : Int) : ∀ (l : List Eg) (o : List Bool), (l.foldl (setTo n) o).length = o.length
 | [], o => rfl
 | e :: l, o => by rw [List.foldl_cons, fold_len n l, setTo_len]
theorem rSt_len (m : List Sta) (o : List Bool) (i : Nat) : (rSt m o i).length = o.length := by unfold rSt; split; exact fold_len ..; rfl
theorem rRd_go (m : List Sta) : ∀ (l : List Nat) (o : List Bool), (l.foldl (rSt m) o).length = o.length
 | [], o => rfl
 | e :: l, o => by rw [List.foldl_cons, rRd_go m l, rSt_len]
theorem rIt_len (m : List Sta) : ∀ n, (rIt m n).length = m.length
 | 0 => by simp [rIt]
 | n + 1 => by unfold rIt rRd; rw [rRd_go, rIt_len m n]
theorem setTo_mono {n : Int} {o : List Bool} {e : Eg} {i : Nat} (h : bAt o i = true) : bAt (setTo n o e) i = true := by
 unfold setTo
 split
 ·show (o.set e.2.toNat true).getD i false = true
  have hi : i < o.length := by
   rcases Nat.lt_or_ge i o.length with h1 | h1
   ·exact h1
   ·have : bAt o i = false := by show o.getD i false = false; rw [List.getD_eq_getElem?_getD, List.getElem?_eq_none h1]; rfl
    rw [this] at h; cases h
  have h2 : o[i] = true := by have : o.getD i false = true := h; rwa [List.getD_eq_getElem?_getD, List.getElem?_eq_getElem hi] at this
  rw [List.getD_eq_getElem?_getD, List.getElem?_eq_getElem (by simpa using hi), List.getElem_set]
  show (if _ then _ else _) = true
  split
  ·rfl
  ·exact h2
 ·exact h
theorem fold_mono {n : Int} {i : Nat} : ∀ {l : List Eg} {o : List Bool}, bAt o i = true → bAt (l.foldl (setTo n) o) i = true
 | [], _, h => h
 | e :: l, o, h => by rw [List.foldl_cons]; exact fold_mono (setTo_mono h)
theorem pc_Reached (m : List Sta) (hs : SzM m) (h0 : 0 < m.length) : PC Tryd.prog T 19 [.v false [.sl (nM m) (mC m)]] (ret1 (.own bT24 (nM m) (bC (reachM m)))) [] := by
 have hn := nM_eq m
 have hc := mC_len m
 have ha := mC_at m
 have hz := @SzM.at m hs
 have hm1 := hs.1
 have hrl := rIt_len m
 have hrep : setC (repC (nM m) [vB false]) 0 [vB true] = bC (rIt m 0) := by rw [bC_rep, bC_set _ _ (by simp; omega), hn]; rfl
 have hfin : rIt m (nM m) = reachM m := by rw [hn]; rfl
 have hrs : ∀ n, rIt m (n + 1) = (List.range (nM m)).foldl (rSt m) (rIt m n) := fun n => by rw [hn]; rfl
 have hlr : (repC (nM m) [vB false]).length = nM m := by rw [bC_rep, bC_len, nB_eq, List.length_replicate]
 have hbl : ∀ o : List Bool, (bC o).length = o.length := fun o => by rw [bC_len, nB_eq]
 have hgb := gb_bC
 have hok := @ok_bC
 refine pc_of tok Tryd.func19 rfl (by rfl) ?_
 obtain ⟨j, hj⟩ : ∃ j : J, j = std Tryd.prog T := ⟨_, rfl⟩
 have hm : Tryd.prog.follows .mixedOrders = true := by kernel_rfl
 generalize y_bC : @bC = x_bC at *
 generalize y_eC : @eC = x_eC at *
 generalize y_nE : @nE = x_nE at *
 generalize y_mC : @mC = x_mC at *
 generalize y_nM : @nM = x_nM at *
 (repeat' first | ((first | with_reducible refine tr_cut (fun h => ?_) (fun h => ?_) | refine aw_condj (by cbv) (fun h => ?_) (fun h => ?_)) <;> (try simp (disch := omega) only [hj, std, cmpI, cmpB, satB, Bool.not_eq_true, Bool.not_eq_false, decide_eq_true_eq, decide_eq_false_iff_not, beq_iff_eq, bne_iff_ne, bne_eq_false_iff_eq, beq_eq_false_iff_ne, ne_eq, reduceCtorEq, not_true_eq_false, not_false_eq_true, pl0, if_true, cmpS_eq, cmpS_neq, Bool.not_eq_eq_eq_not, Bool.not_true, Bool.not_false, Bool.not_eq_true', Int.ofNat_eq_natCast, add64, sub64] at h) <;> (try (exfalso; omega))) | (with_reducible refine tr_alt (fun h => ?_) ?_ <;> (try (exfalso; omega))) | (with_reducible first | refine tr_ob ?_ ?_ | refine tr_done ?_) | (refine aw_tr hj tok book0 (by cbv) ?_) | (refine aw_seq fun K hK => ?_) | (refine aw_tr1 hj tok book0 (by cbv) ?_) | (refine aw_skip ?_) | (refine aw_block ?_) | (refine aw_exit ?_) | (refine aw_ret ⟨.inr rfl, ret_okj hj (by cbv) ?_ ?_⟩) | (refine aw_ret ?_) | (with_reducible first | refine th_n ?_ | refine th_r ?_ | refine th_x ?_ | refine blk_n ?_ | refine blk_r ?_ | refine blk_x ?_ | refine blk_y rfl ?_) | (refine ⟨.inr rfl, ret_okj hj (by cbv) ?_ ?_⟩) | (refine ⟨.inl rfl, ret_okj hj (by cbv) ?_ ?_⟩) | (with_reducible first | refine ⟨(_, _, _), by cbv, ?_, ?_⟩ | refine ⟨(_, _), by cbv, ?_, ?_⟩ | refine ⟨_, by cbv, ?_, ?_⟩) | (with_reducible apply_assumption -symm -exfalso only [*]))
 all_goals ((try subst y_bC); (try subst y_eC); (try subst y_nE); (try subst y_mC); (try subst y_nM))
 all_goals (try (repeat' first | with_reducible exact obl0 | (with_reducible refine obl1 ?_ ?_)))
 all_goals (try first | with_reducible exact True.intro | ((first | refine ob_le hj ?_ | refine ob_lei hj ?_ | refine ob_inb hj ?_ | refine ob_pos hj ?_ | refine ob_ne0 hj ?_ | refine ob_eqb hj ?_); (first | rfl | first | omega | (simp only [hj, std]; split <;> omega) | (simp (disch := omega) only [hj, std, cmpI, cmpB, satB, add64, sub64, ite0, pl0, pl2, pl3, sb0, if_true, if_false, eq_self, hlr, Int.ofNat_eq_natCast, Int.toNat_natCast] <;> omega) | (simp (disch := omega) [hj, std, cmpI, cmpB, satB, add64, sub64, ite0, pl0, pl2, pl3, sb0, if_true, if_false, eq_self, hlr, Int.ofNat_eq_natCast, Int.toNat_natCast] <;> omega))))
 refine aw_lpj hj [(0, .keep), (3, .own bT24), (4, .keep)] [] (fun (⟨n, N, D⟩ : Int × Nat × (List C)) => stOf 66 [(0, .one (.c (.sl (nM m) (mC m)))), (3, .one (.view 3 0)), (4, .one (.c (vI n)))] [(3, .loose [.own bT24 N D])]) (fun (⟨n, N, D⟩ : Int × Nat × (List C)) => nM m - n.toNat) (fun (⟨n, N, D⟩ : Int × Nat × (List C)) => 0 ≤ n ∧ n ≤ nM m ∧ N = nM m ∧ D = bC (rIt m n.toNat)) ((0, j.toNat (j.ofNat (nM m)), j.set (j.rep (j.toNat (j.ofNat (nM m))) [vB false]) (j.toNat 0) [vB true])) (by generalize @bC = x_bC; generalize @eC = x_eC; generalize @nE = x_nE; generalize @mC = x_mC; generalize @nM = x_nM; cbv) ?_ (fun ⟨n, N, D⟩ hI => ?_)
 ·simp only [hj, std, Int.ofNat_eq_natCast, Int.toNat_natCast]; exact ⟨by omega, by omega, by trivial, hrep⟩
 obtain ⟨n1, n2, hN, hD⟩ := hI
 subst hN
 rcases Decidable.em (n < (nM m : Int)) with hnn | hnn
 ·have f1 : (n + 1).toNat = n.toNat + 1 := by omega
  have hstep := hrs n.toNat
  have hl0 := hrl n.toNat
  rw [← f1] at hstep
  generalize rIt m n.toNat = o0 at *
  clear hrs hfin hrep hrl
  generalize y_bC : @bC = x_bC at *
  generalize y_eC : @eC = x_eC at *
  generalize y_nE : @nE = x_nE at *
  generalize y_mC : @mC = x_mC at *
  generalize y_nM : @nM = x_nM at *
  (repeat' first | ((first | with_reducible refine tr_cut (fun h => ?_) (fun h => ?_) | refine aw_condj (by cbv) (fun h => ?_) (fun h => ?_)) <;> (try simp (disch := omega) only [hj, std, cmpI, cmpB, satB, Bool.not_eq_true, Bool.not_eq_false, decide_eq_true_eq, decide_eq_false_iff_not, beq_iff_eq, bne_iff_ne, bne_eq_false_iff_eq, beq_eq_false_iff_ne, ne_eq, reduceCtorEq, not_true_eq_false, not_false_eq_true, pl0, if_true, cmpS_eq, cmpS_neq, Bool.not_eq_eq_eq_not, Bool.not_true, Bool.not_false, Bool.not_eq_true', Int.ofNat_eq_natCast, add64, sub64] at h) <;> (try (exfalso; omega))) | (with_reducible refine tr_alt (fun h => ?_) ?_ <;> (try (exfalso; omega))) | (with_reducible first | refine tr_ob ?_ ?_ | refine tr_done ?_) | (refine aw_tr hj tok book0 (by cbv) ?_) | (refine aw_seq fun K hK => ?_) | (refine aw_tr1 hj tok book0 (by cbv) ?_) | (refine aw_skip ?_) | (refine aw_block ?_) | (refine aw_exit ?_) | (refine aw_ret ⟨.inr rfl, ret_okj hj (by cbv) ?_ ?_⟩) | (refine aw_ret ?_) | (with_reducible first | refine th_n ?_ | refine th_r ?_ | refine th_x ?_ | refine blk_n ?_ | refine blk_r ?_ | refine blk_x ?_ | refine blk_y rfl ?_) | (refine ⟨.inr rfl, ret_okj hj (by cbv) ?_ ?_⟩) | (refine ⟨.inl rfl, ret_okj hj (by cbv) ?_ ?_⟩) | (with_reducible first | refine ⟨(_, _, _), by cbv, ?_, ?_⟩ | refine ⟨(_, _), by cbv, ?_, ?_⟩ | refine ⟨_, by cbv, ?_, ?_⟩) | (with_reducible apply_assumption -symm -exfalso only [*]))
  all_goals ((try subst y_bC); (try subst y_eC); (try subst y_nE); (try subst y_mC); (try subst y_nM))
  all_goals (try (repeat' first | with_reducible exact obl0 | (with_reducible refine obl1 ?_ ?_)))
  all_goals (try first | with_reducible exact True.intro | ((first | refine ob_le hj ?_ | refine ob_lei hj ?_ | refine ob_inb hj ?_ | refine ob_pos hj ?_ | refine ob_ne0 hj ?_ | refine ob_eqb hj ?_); (first | rfl | first | omega | (simp only [hj, std]; split <;> omega) | (simp (disch := omega) only [hj, std, cmpI, cmpB, satB, add64, sub64, ite0, pl0, pl2, pl3, sb0, if_true, if_false, eq_self] <;> omega) | (simp (disch := omega) [hj, std, cmpI, cmpB, satB, add64, sub64, ite0, pl0, pl2, pl3, sb0, if_true, if_false, eq_self] <;> omega))))
  refine aw_lpj hj [(0, .keep), (3, .own bT24), (4, .keep), (5, .keep)] [] (fun (⟨i, E⟩ : Int × (List C)) => stOf 66 [(0, .one (.c (.sl (nM m) (mC m)))), (3, .one (.view 3 0)), (4, .one (.c (vI n))), (5, .one (.c (vI i)))] [(3, .loose [.own bT24 (nM m) E])]) (fun (⟨i, E⟩ : Int × (List C)) => nM m - i.toNat) (fun (⟨i, E⟩ : Int × (List C)) => 0 ≤ i ∧ i ≤ nM m ∧ ∃ o, E = bC o ∧ o.length = m.length ∧ o = (List.range i.toNat).foldl (rSt m) o0) ((0, D)) (by generalize @bC = x_bC; generalize @eC = x_eC; generalize @nE = x_nE; generalize @mC = x_mC; generalize @nM = x_nM; cbv) ?_ (fun ⟨i, E⟩ hI => ?_)
  ·exact ⟨by omega, by omega, o0, hD, hl0, rfl⟩
  obtain ⟨i1, i2, o, hE, hlo, ho⟩ := hI
  rcases Decidable.em (i < (nM m : Int)) with hi | hi
  ·obtain ⟨c0, c1⟩ := ha i.toNat (by omega)
   have hz := hz (k := i.toNat) (by omega)
   have f2 : (i + 1).toNat = i.toNat + 1 := by omega
   have g1 : gn (cellAt (mC m) (i.toNat * 2 + 1)) = nE (mAt m i.toNat).2 := by rw [c1]; rfl
   have g2 : gc (cellAt (mC m) (i.toNat * 2 + 1)) = eC (mAt m i.toNat).2 := by rw [c1]; rfl
   have hnx : (List.range (i + 1).toNat).foldl (rSt m) o0 = rSt m o i.toNat := by rw [f2, List.range_succ, List.foldl_append, ← ho]; rfl
   have hrr : rSt m o i.toNat = if bAt o i.toNat = true then (mAt m i.toNat).2.foldl (setTo (nM m)) o else o := by rw [hn]; rfl
   generalize rSt m o i.toNat = oz at *
   generalize (mAt m i.toNat).2 = b at *
   have hbn := nE_eq b
   have hbc := eC_len b
   have hba := eC_at b
   clear ha ho
   generalize y_bC : @bC = x_bC at *
   generalize y_eC : @eC = x_eC at *
   generalize y_nE : @nE = x_nE at *
   generalize y_mC : @mC = x_mC at *
   generalize y_nM : @nM = x_nM at *
   (repeat' first | ((first | with_reducible refine tr_cut (fun h => ?_) (fun h => ?_) | refine aw_condj (by cbv) (fun h => ?_) (fun h => ?_)) <;> (try simp (disch := omega) only [hj, std, cmpI, cmpB, satB, Bool.not_eq_true, Bool.not_eq_false, decide_eq_true_eq, decide_eq_false_iff_not, beq_iff_eq, bne_iff_ne, bne_eq_false_iff_eq, beq_eq_false_iff_ne, ne_eq, reduceCtorEq, not_true_eq_false, not_false_eq_true, pl0, if_true, cmpS_eq, cmpS_neq, Bool.not_eq_eq_eq_not, Bool.not_true, Bool.not_false, Bool.not_eq_true', Int.ofNat_eq_natCast, add64, sub64] at h) <;> (try (exfalso; omega))) | (with_reducible refine tr_alt (fun h => ?_) ?_ <;> (try (exfalso; omega))) | (with_reducible first | refine tr_ob ?_ ?_ | refine tr_done ?_) | (refine aw_tr hj tok book0 (by cbv) ?_) | (refine aw_seq fun K hK => ?_) | (refine aw_tr1 hj tok book0 (by cbv) ?_) | (refine aw_skip ?_) | (refine aw_block ?_) | (refine aw_exit ?_) | (refine aw_ret ⟨.inr rfl, ret_okj hj (by cbv) ?_ ?_⟩) | (refine aw_ret ?_) | (with_reducible first | refine th_n ?_ | refine th_r ?_ | refine th_x ?_ | refine blk_n ?_ | refine blk_r ?_ | refine blk_x ?_ | refine blk_y rfl ?_) | (refine ⟨.inr rfl, ret_okj hj (by cbv) ?_ ?_⟩) | (refine ⟨.inl rfl, ret_okj hj (by cbv) ?_ ?_⟩) | (with_reducible first | refine ⟨(_, _, _), by cbv, ?_, ?_⟩ | refine ⟨(_, _), by cbv, ?_, ?_⟩ | refine ⟨_, by cbv, ?_, ?_⟩) | (with_reducible apply_assumption -symm -exfalso only [*]))
   all_goals ((try subst y_bC); (try subst y_eC); (try subst y_nE); (try subst y_mC); (try subst y_nM))
   all_goals (try (repeat' first | with_reducible exact obl0 | (with_reducible refine obl1 ?_ ?_)))
   all_goals (try first | with_reducible exact True.intro | ((first | refine ob_le hj ?_ | refine ob_lei hj ?_ | refine ob_inb hj ?_ | refine ob_pos hj ?_ | refine ob_ne0 hj ?_ | refine ob_eqb hj ?_); (first | rfl | first | omega | (simp only [hj, std]; split <;> omega) | (simp (disch := omega) only [hj, std, cmpI, cmpB, satB, add64, sub64, ite0, pl0, pl2, pl3, sb0, if_true, if_false, eq_self] <;> omega) | (simp (disch := omega) [hj, std, cmpI, cmpB, satB, add64, sub64, ite0, pl0, pl2, pl3, sb0, if_true, if_false, eq_self] <;> omega))))
   refine aw_lpj hj [(0, .keep), (3, .own bT24), (4, .keep), (5, .keep), (6, .keep)] [] (fun (⟨k, G⟩ : Int × (List C)) => stOf 66 [(0, .one (.c (.sl (nM m) (mC m)))), (3, .one (.view 3 0)), (4, .one (.c (vI n))), (5, .one (.c (vI i))), (6, .one (.c (vI k)))] [(3, .loose [.own bT24 (nM m) G])]) (fun (⟨k, G⟩ : Int × (List C)) => nE b - k.toNat) (fun (⟨k, G⟩ : Int × (List C)) => 0 ≤ k ∧ k ≤ nE b ∧ ∃ u, G = bC u ∧ u.length = m.length ∧ u = (b.take k.toNat).foldl (setTo (nM m)) o ∧ (0 < k → bAt o i.toNat = true)) ((0, E)) (by generalize @bC = x_bC; generalize @eC = x_eC; generalize @nE = x_nE; generalize @mC = x_mC; generalize @nM = x_nM; cbv) ?_ (fun ⟨k, G⟩ hI => ?_)
   ·exact ⟨by omega, by omega, o, hE, hlo, rfl, fun h => absurd h (by omega)⟩
   obtain ⟨k1, k2, u, hG, hlu, hu, hk0⟩ := hI
   have ub : gb (cellAt (bC u) i.toNat) = bAt u i.toNat := hgb u i.toNat
   have uo : okK .bool (cellAt (bC u) i.toNat) := hok (by omega)
   have hbu : bAt o i.toNat = true → bAt u i.toNat = true := fun h => by rw [hu]; exact fold_mono h
   have hbo : bAt u i.toNat = true → bAt o i.toNat = true := fun h => by
    rcases Int.lt_or_le 0 k with h2 | h2
    ·exact hk0 h2
    ·have e0 : k.toNat = 0 := by omega
     rw [e0] at hu
     rw [hu] at h; exact h
   rcases Decidable.em (k < (nE b : Int) ∧ bAt u i.toNat = true) with hk | hk
   ·obtain ⟨hk, hbt⟩ := hk
    obtain ⟨d0, d1⟩ := hba k.toNat (by omega)
    have u1 : gi (cellAt (eC b) (k.toNat * 2 + 1)) = (eAt b k.toNat).2 := by rw [d1]; rfl
    have f3 : (k + 1).toNat = k.toNat + 1 := by omega
    have hns : (b.take (k + 1).toNat).foldl (setTo (nM m)) o = setTo (nM m) u (eAt b k.toNat) := by rw [f3, take_eg (by omega), List.foldl_append, ← hu]; rfl
    have hsl := setTo_len (nM m) u (eAt b k.toNat)
    have hs1 : 0 ≤ (eAt b k.toNat).2 → (eAt b k.toNat).2 < (nM m : Int) → setC (bC u) (eAt b k.toNat).2.toNat [vB true] = bC (setTo (nM m) u (eAt b k.toNat)) := fun h1 h2 => by
     unfold setTo; rw [if_pos ⟨h1, h2⟩, bC_set _ _ (by omega)]
    have hs2 : ¬ (0 ≤ (eAt b k.toNat).2 ∧ (eAt b k.toNat).2 < (nM m : Int)) → setTo (nM m) u (eAt b k.toNat) = u := fun h => by unfold setTo; rw [if_neg h]
    generalize setTo (nM m) u (eAt b k.toNat) = v at *
    generalize (eAt b k.toNat).2 = t at *
    rw [← hG] at hs1 ub uo
    have hbl := hbl u
    rw [← hG] at hbl
    clear hnx hrr
    generalize y_bC : @bC = x_bC at *
    generalize y_eC : @eC = x_eC at *
    generalize y_nE : @nE = x_nE at *
    generalize y_mC : @mC = x_mC at *
    generalize y_nM : @nM = x_nM at *
    (repeat' first | ((first | with_reducible refine tr_cut (fun h => ?_) (fun h => ?_) | refine aw_condj (by cbv) (fun h => ?_) (fun h => ?_)) <;> (try simp (disch := omega) only [hj, std, cmpI, cmpB, satB, Bool.not_eq_true, Bool.not_eq_false, decide_eq_true_eq, decide_eq_false_iff_not, beq_iff_eq, bne_iff_ne, bne_eq_false_iff_eq, beq_eq_false_iff_ne, ne_eq, reduceCtorEq, not_true_eq_false, not_false_eq_true, pl0, if_true, cmpS_eq, cmpS_neq, Bool.not_eq_eq_eq_not, Bool.not_true, Bool.not_false, Bool.not_eq_true', g1, g2, ub, hbt, u1, ite0, Int.ofNat_eq_natCast, add64, sub64] at h) <;> (try (exfalso; omega))) | (with_reducible refine tr_alt (fun h => ?_) ?_ <;> (try (exfalso; omega))) | (with_reducible first | refine tr_ob ?_ ?_ | refine tr_done ?_) | (refine aw_tr hj tok book0 (by cbv) ?_) | (refine aw_seq fun K hK => ?_) | (refine aw_tr1 hj tok book0 (by cbv) ?_) | (refine aw_skip ?_) | (refine aw_block ?_) | (refine aw_exit ?_) | (refine aw_ret ⟨.inr rfl, ret_okj hj (by cbv) ?_ ?_⟩) | (refine aw_ret ?_) | (with_reducible first | refine th_n ?_ | refine th_r ?_ | refine th_x ?_ | refine blk_n ?_ | refine blk_r ?_ | refine blk_x ?_ | refine blk_y rfl ?_) | (refine ⟨.inr rfl, ret_okj hj (by cbv) ?_ ?_⟩) | (refine ⟨.inl rfl, ret_okj hj (by cbv) ?_ ?_⟩) | (with_reducible first | refine ⟨(_, _, _), by cbv, ?_, ?_⟩ | refine ⟨(_, _), by cbv, ?_, ?_⟩ | refine ⟨_, by cbv, ?_, ?_⟩) | (with_reducible apply_assumption -symm -exfalso only [*]))
    all_goals ((try subst y_bC); (try subst y_eC); (try subst y_nE); (try subst y_mC); (try subst y_nM))
    all_goals (try (repeat' first | with_reducible exact obl0 | (with_reducible refine obl1 ?_ ?_)))
    all_goals (try first | with_reducible exact True.intro | ((first | refine ob_le hj ?_ | refine ob_lei hj ?_ | refine ob_inb hj ?_ | refine ob_pos hj ?_ | refine ob_ne0 hj ?_ | refine ob_eqb hj ?_); (first | rfl | first | omega | (simp only [hj, std]; split <;> omega) | (simp (disch := omega) only [hj, std, cmpI, cmpB, satB, add64, sub64, ite0, pl0, pl2, pl3, sb0, if_true, if_false, eq_self, hc, hbc, hbl, g1, g2, u1] <;> omega) | (simp (disch := omega) [hj, std, cmpI, cmpB, satB, add64, sub64, ite0, pl0, pl2, pl3, sb0, if_true, if_false, eq_self, hc, hbc, hbl, g1, g2, u1] <;> omega))) | ((refine ob_ok hj ?_; simp only [hj, std, ite0, g1, g2]; first | exact .inr ⟨_, _, c1⟩ | exact uo | exact ⟨_, d1⟩)) | ((simp (disch := omega) only [hj, std, add64, ite0, g1, g2, u1]; first | omega | exact ⟨by omega, by omega, v, hs1 (by omega) (by omega), by omega, hns.symm, fun _ => hbo hbt⟩ | exact ⟨by omega, by omega, v, by rw [hs2 (by omega)]; exact hG, by omega, hns.symm, fun _ => hbo hbt⟩)))
   ·have hex : u = oz := by
     rcases Bool.eq_false_or_eq_true (bAt o i.toNat) with h | h
     ·rw [if_pos h] at hrr
      have h2 : k.toNat = b.length := by
       rcases Decidable.em (k < (nE b : Int)) with h3 | h3
       ·exact absurd ⟨h3, hbu h⟩ hk
       ·omega
      rw [h2, List.take_length] at hu
      rw [hu, hrr]
     ·rw [h, if_neg (by decide)] at hrr
      have h2 : k.toNat = 0 := by
       rcases Int.lt_or_le 0 k with h3 | h3
       ·rw [hk0 h3] at h; cases h
       ·omega
      rw [h2] at hu
      rw [hu, hrr]; rfl
    rw [hex] at hG hlu ub uo
    have hbl := hbl oz
    rw [← hG] at hbl ub uo
    clear hu hk0 hbo hbu hrr
    rcases Decidable.em (k < (nE b : Int)) with hkk | hkk
    ·have hbt : bAt u i.toNat = false := by
      rcases Bool.eq_false_or_eq_true (bAt u i.toNat) with h | h
      ·exact absurd ⟨hkk, h⟩ hk
      ·exact h
     rw [hex] at hbt
     generalize y_bC : @bC = x_bC at *
     generalize y_eC : @eC = x_eC at *
     generalize y_nE : @nE = x_nE at *
     generalize y_mC : @mC = x_mC at *
     generalize y_nM : @nM = x_nM at *
     (repeat' first | ((first | with_reducible refine tr_cut (fun h => ?_) (fun h => ?_) | refine aw_condj (by cbv) (fun h => ?_) (fun h => ?_)) <;> (try simp (disch := omega) only [hj, std, cmpI, cmpB, satB, Bool.not_eq_true, Bool.not_eq_false, decide_eq_true_eq, decide_eq_false_iff_not, beq_iff_eq, bne_iff_ne, bne_eq_false_iff_eq, beq_eq_false_iff_ne, ne_eq, reduceCtorEq, not_true_eq_false, not_false_eq_true, pl0, if_true, cmpS_eq, cmpS_neq, Bool.not_eq_eq_eq_not, Bool.not_true, Bool.not_false, Bool.not_eq_true', g1, g2, ub, hbt, ite0, Int.ofNat_eq_natCast, add64, sub64] at h) <;> (try (exfalso; omega))) | (with_reducible refine tr_alt (fun h => ?_) ?_ <;> (try (exfalso; omega))) | (with_reducible first | refine tr_ob ?_ ?_ | refine tr_done ?_) | (refine aw_tr hj tok book0 (by cbv) ?_) | (refine aw_seq fun K hK => ?_) | (refine aw_tr1 hj tok book0 (by cbv) ?_) | (refine aw_skip ?_) | (refine aw_block ?_) | (refine aw_exit ?_) | (refine aw_ret ⟨.inr rfl, ret_okj hj (by cbv) ?_ ?_⟩) | (refine aw_ret ?_) | (with_reducible first | refine th_n ?_ | refine th_r ?_ | refine th_x ?_ | refine blk_n ?_ | refine blk_r ?_ | refine blk_x ?_ | refine blk_y rfl ?_) | (refine ⟨.inr rfl, ret_okj hj (by cbv) ?_ ?_⟩) | (refine ⟨.inl rfl, ret_okj hj (by cbv) ?_ ?_⟩) | (with_reducible first | refine ⟨(_, _, _), by cbv, ?_, ?_⟩ | refine ⟨(_, _), by cbv, ?_, ?_⟩ | refine ⟨_, by cbv, ?_, ?_⟩) | (with_reducible apply_assumption -symm -exfalso only [*]))
     all_goals ((try subst y_bC); (try subst y_eC); (try subst y_nE); (try subst y_mC); (try subst y_nM))
     all_goals (try (repeat' first | with_reducible exact obl0 | (with_reducible refine obl1 ?_ ?_)))
     all_goals (try first | with_reducible exact True.intro | ((first | refine ob_le hj ?_ | refine ob_lei hj ?_ | refine ob_inb hj ?_ | refine ob_pos hj ?_ | refine ob_ne0 hj ?_ | refine ob_eqb hj ?_); (first | rfl | first | omega | (simp only [hj, std]; split <;> omega) | (simp (disch := omega) only [hj, std, cmpI, cmpB, satB, add64, sub64, ite0, pl0, pl2, pl3, sb0, if_true, if_false, eq_self, hc, hbc, hbl, g1, g2] <;> omega) | (simp (disch := omega) [hj, std, cmpI, cmpB, satB, add64, sub64, ite0, pl0, pl2, pl3, sb0, if_true, if_false, eq_self, hc, hbc, hbl, g1, g2] <;> omega))) | ((refine ob_ok hj ?_; simp only [hj, std, ite0, g1, g2]; first | exact .inr ⟨_, _, c1⟩ | exact uo)) | ((simp (disch := omega) only [hj, std, add64, ite0]; first | omega | exact ⟨by omega, by omega, oz, hG, hlu, hnx.symm⟩)))
    ·generalize y_bC : @bC = x_bC at *
     generalize y_eC : @eC = x_eC at *
     generalize y_nE : @nE = x_nE at *
     generalize y_mC : @mC = x_mC at *
     generalize y_nM : @nM = x_nM at *
     (repeat' first | ((first | with_reducible refine tr_cut (fun h => ?_) (fun h => ?_) | refine aw_condj (by cbv) (fun h => ?_) (fun h => ?_)) <;> (try simp (disch := omega) only [hj, std, cmpI, cmpB, satB, Bool.not_eq_true, Bool.not_eq_false, decide_eq_true_eq, decide_eq_false_iff_not, beq_iff_eq, bne_iff_ne, bne_eq_false_iff_eq, beq_eq_false_iff_ne, ne_eq, reduceCtorEq, not_true_eq_false, not_false_eq_true, pl0, if_true, cmpS_eq, cmpS_neq, Bool.not_eq_eq_eq_not, Bool.not_true, Bool.not_false, Bool.not_eq_true', g1, g2, ite0, Int.ofNat_eq_natCast, add64, sub64] at h) <;> (try (exfalso; omega))) | (with_reducible refine tr_alt (fun h => ?_) ?_ <;> (try (exfalso; omega))) | (with_reducible first | refine tr_ob ?_ ?_ | refine tr_done ?_) | (refine aw_tr hj tok book0 (by cbv) ?_) | (refine aw_seq fun K hK => ?_) | (refine aw_tr1 hj tok book0 (by cbv) ?_) | (refine aw_skip ?_) | (refine aw_block ?_) | (refine aw_exit ?_) | (refine aw_ret ⟨.inr rfl, ret_okj hj (by cbv) ?_ ?_⟩) | (refine aw_ret ?_) | (with_reducible first | refine th_n ?_ | refine th_r ?_ | refine th_x ?_ | refine blk_n ?_ | refine blk_r ?_ | refine blk_x ?_ | refine blk_y rfl ?_) | (refine ⟨.inr rfl, ret_okj hj (by cbv) ?_ ?_⟩) | (refine ⟨.inl rfl, ret_okj hj (by cbv) ?_ ?_⟩) | (with_reducible first | refine ⟨(_, _, _), by cbv, ?_, ?_⟩ | refine ⟨(_, _), by cbv, ?_, ?_⟩ | refine ⟨_, by cbv, ?_, ?_⟩) | (with_reducible apply_assumption -symm -exfalso only [*]))
     all_goals ((try subst y_bC); (try subst y_eC); (try subst y_nE); (try subst y_mC); (try subst y_nM))
     all_goals (try (repeat' first | with_reducible exact obl0 | (with_reducible refine obl1 ?_ ?_)))
     all_goals (try first | with_reducible exact True.intro | ((first | refine ob_le hj ?_ | refine ob_lei hj ?_ | refine ob_inb hj ?_ | refine ob_pos hj ?_ | refine ob_ne0 hj ?_ | refine ob_eqb hj ?_); (first | rfl | first | omega | (simp only [hj, std]; split <;> omega) | (simp (disch := omega) only [hj, std, cmpI, cmpB, satB, add64, sub64, ite0, pl0, pl2, pl3, sb0, if_true, if_false, eq_self, hc, hbc, hbl, g1, g2] <;> omega) | (simp (disch := omega) [hj, std, cmpI, cmpB, satB, add64, sub64, ite0, pl0, pl2, pl3, sb0, if_true, if_false, eq_self, hc, hbc, hbl, g1, g2] <;> omega))) | ((refine ob_ok hj ?_; simp only [hj, std, ite0, g1, g2]; first | exact .inr ⟨_, _, c1⟩ | exact uo)) | ((simp (disch := omega) only [hj, std, add64, ite0]; first | omega | exact ⟨by omega, by omega, oz, hG, hlu, hnx.symm⟩)))
  ·have e : i.toNat = nM m := by omega
   rw [e, ← hstep] at ho
   generalize y_bC : @bC = x_bC at *
   generalize y_eC : @eC = x_eC at *
   generalize y_nE : @nE = x_nE at *
   generalize y_mC : @mC = x_mC at *
   generalize y_nM : @nM = x_nM at *
   (repeat' first | ((first | with_reducible refine tr_cut (fun h => ?_) (fun h => ?_) | refine aw_condj (by cbv) (fun h => ?_) (fun h => ?_)) <;> (try simp (disch := omega) only [hj, std, cmpI, cmpB, satB, Bool.not_eq_true, Bool.not_eq_false, decide_eq_true_eq, decide_eq_false_iff_not, beq_iff_eq, bne_iff_ne, bne_eq_false_iff_eq, beq_eq_false_iff_ne, ne_eq, reduceCtorEq, not_true_eq_false, not_false_eq_true, pl0, if_true, cmpS_eq, cmpS_neq, Bool.not_eq_eq_eq_not, Bool.not_true, Bool.not_false, Bool.not_eq_true', Int.ofNat_eq_natCast, add64, sub64] at h) <;> (try (exfalso; omega))) | (with_reducible refine tr_alt (fun h => ?_) ?_ <;> (try (exfalso; omega))) | (with_reducible first | refine tr_ob ?_ ?_ | refine tr_done ?_) | (refine aw_tr hj tok book0 (by cbv) ?_) | (refine aw_seq fun K hK => ?_) | (refine aw_tr1 hj tok book0 (by cbv) ?_) | (refine aw_skip ?_) | (refine aw_block ?_) | (refine aw_exit ?_) | (refine aw_ret ⟨.inr rfl, ret_okj hj (by cbv) ?_ ?_⟩) | (refine aw_ret ?_) | (with_reducible first | refine th_n ?_ | refine th_r ?_ | refine th_x ?_ | refine blk_n ?_ | refine blk_r ?_ | refine blk_x ?_ | refine blk_y rfl ?_) | (refine ⟨.inr rfl, ret_okj hj (by cbv) ?_ ?_⟩) | (refine ⟨.inl rfl, ret_okj hj (by cbv) ?_ ?_⟩) | (with_reducible first | refine ⟨(_, _, _), by cbv, ?_, ?_⟩ | refine ⟨(_, _), by cbv, ?_, ?_⟩ | refine ⟨_, by cbv, ?_, ?_⟩) | (with_reducible apply_assumption -symm -exfalso only [*]))
   all_goals ((try subst y_bC); (try subst y_eC); (try subst y_nE); (try subst y_mC); (try subst y_nM))
   all_goals (try (repeat' first | with_reducible exact obl0 | (with_reducible refine obl1 ?_ ?_)))
   all_goals (try first | with_reducible exact True.intro | ((first | refine ob_le hj ?_ | refine ob_lei hj ?_ | refine ob_inb hj ?_ | refine ob_pos hj ?_ | refine ob_ne0 hj ?_ | refine ob_eqb hj ?_); (first | rfl | first | omega | (simp only [hj, std]; split <;> omega) | (simp (disch := omega) only [hj, std, cmpI, cmpB, satB, add64, sub64, ite0, pl0, pl2, pl3, sb0, if_true, if_false, eq_self] <;> omega) | (simp (disch := omega) [hj, std, cmpI, cmpB, satB, add64, sub64, ite0, pl0, pl2, pl3, sb0, if_true, if_false, eq_self] <;> omega))) | ((simp (disch := omega) only [hj, std, add64, ite0]; first | omega | exact ⟨by omega, by omega, by trivial, by rw [hE, ho]⟩)))
 ·have e : n.toNat = nM m := by omega
  rw [e, hfin] at hD
  generalize y_bC : @bC = x_bC at *
  generalize y_eC : @eC = x_eC at *
  generalize y_nE : @nE = x_nE at *
  generalize y_mC : @mC = x_mC at *
  generalize y_nM : @nM = x_nM at *
  (repeat' first | ((first | with_reducible refine tr_cut (fun h => ?_) (fun h => ?_) | refine aw_condj (by cbv) (fun h => ?_) (fun h => ?_)) <;> (try simp (disch := omega) only [hj, std, cmpI, cmpB, satB, Bool.not_eq_true, Bool.not_eq_false, decide_eq_true_eq, decide_eq_false_iff_not, beq_iff_eq, bne_iff_ne, bne_eq_false_iff_eq, beq_eq_false_iff_ne, ne_eq, reduceCtorEq, not_true_eq_false, not_false_eq_true, pl0, if_true, cmpS_eq, cmpS_neq, Bool.not_eq_eq_eq_not, Bool.not_true, Bool.not_false, Bool.not_eq_true', Int.ofNat_eq_natCast, add64, sub64] at h) <;> (try (exfalso; omega))) | (with_reducible refine tr_alt (fun h => ?_) ?_ <;> (try (exfalso; omega))) | (with_reducible first | refine tr_ob ?_ ?_ | refine tr_done ?_) | (refine aw_tr hj tok book0 (by cbv) ?_) | (refine aw_seq fun K hK => ?_) | (refine aw_tr1 hj tok book0 (by cbv) ?_) | (refine aw_skip ?_) | (refine aw_block ?_) | (refine aw_exit ?_) | (refine aw_ret ⟨.inr rfl, ret_okj hj (by cbv) ?_ ?_⟩) | (refine aw_ret ?_) | (with_reducible first | refine th_n ?_ | refine th_r ?_ | refine th_x ?_ | refine blk_n ?_ | refine blk_r ?_ | refine blk_x ?_ | refine blk_y rfl ?_) | (refine ⟨.inr rfl, ret_okj hj (by cbv) ?_ ?_⟩) | (refine ⟨.inl rfl, ret_okj hj (by cbv) ?_ ?_⟩) | (with_reducible first | refine ⟨(_, _, _), by cbv, ?_, ?_⟩ | refine ⟨(_, _), by cbv, ?_, ?_⟩ | refine ⟨_, by cbv, ?_, ?_⟩) | (with_reducible apply_assumption -symm -exfalso only [*]))
  all_goals ((try subst y_bC); (try subst y_eC); (try subst y_nE); (try subst y_mC); (try subst y_nM))
  all_goals (try (repeat' first | with_reducible exact obl0 | with_reducible refine obl1 ?_ ?_))
  all_goals (try first | with_reducible exact True.intro | ((first | refine ob_le hj ?_ | refine ob_lei hj ?_ | refine ob_inb hj ?_ | refine ob_pos hj ?_ | refine ob_ne0 hj ?_ | refine ob_eqb hj ?_); (first | rfl | first | omega | (simp only [hj, std]; split <;> omega) | (simp (disch := omega) only [hj, std, cmpI, cmpB, satB, add64, sub64, ite0, pl0, pl2, pl3, sb0, if_true, if_false, eq_self] <;> omega) | (simp (disch := omega) [hj, std, cmpI, cmpB, satB, add64, sub64, ite0, pl0, pl2, pl3, sb0, if_true, if_false, eq_self] <;> omega))) | ((rw [hD]; exact rfl)))
end Go.Proofs.YtcpcghnpoekhpaaDoor.A
/- Machines: which may be, in words; which states are reached. The plain law. -/
set_option linter.unusedSimpArgs false
set_option linter.unusedVariables false
set_option maxRecDepth 100000
set_option maxHeartbeats 4000000
namespace Go.Proofs.YtcpcghnpoekhpaaDoor.A
open Go
structure Vm (t : Int) (m : List Sta) : Prop where
 pos : 0 < m.length
 out : ∀ i, i < m.length → -1 ≤ (mAt m i).1
 edge : ∀ i, i < m.length → ∀ e ∈ (mAt m i).2, 0 ≤ e.1 ∧ e.1 < t ∧ 0 ≤ e.2 ∧ e.2 < m.length
 rise : ∀ i, i < m.length → (mAt m i).2.Pairwise fun a b => a.1 < b.1
theorem riseG_iff (t n : Int) : ∀ (l : List Eg) (q : Int), riseG t n q l = true ↔ (∀ e ∈ l, q < e.1 ∧ e.1 < t ∧ 0 ≤ e.2 ∧ e.2 < n) ∧ l.Pairwise fun a b => a.1 < b.1
 | [], q => by simp [riseG]
 | e :: l, q => by
  unfold riseG
  rw [List.pairwise_cons]
  constructor
  ·intro h
   split at h
   ·rename_i h0
    obtain ⟨h1, h2⟩ := (riseG_iff t n l e.1).1 h
    refine ⟨fun x hx => ?_, fun x hx => (h1 x hx).1, h2⟩
    rcases List.mem_cons.1 hx with rfl | hx
    ·exact h0
    ·have := h1 x hx; omega
   ·cases h
  ·rintro ⟨h1, h2, h3⟩
   rw [if_pos (h1 e (List.mem_cons_self ..))]
   exact (riseG_iff t n l e.1).2 ⟨fun x hx => by have := h1 x (List.mem_cons_of_mem _ hx); have := h2 x hx; omega, h3⟩
theorem riseM_iff (l : List Eg) (t n : Int) : riseM l t n = true ↔ (∀ e ∈ l, 0 ≤ e.1 ∧ e.1 < t ∧ 0 ≤ e.2 ∧ e.2 < n) ∧ l.Pairwise fun a b => a.1 < b.1 := by
 unfold riseM
 rw [riseG_iff]
 refine and_congr_left' ?_
 exact forall_congr' fun e => forall_congr' fun _ => by omega
theorem validG_iff (t n : Int) : ∀ l : List Sta, validG t n l = true ↔ ∀ s ∈ l, -1 ≤ s.1 ∧ riseM s.2 t n = true
 | [] => by simp [validG]
 | s :: l => by
  unfold validG
  constructor
  ·intro h
   split at h
   ·rename_i h0
    intro x hx
    rcases List.mem_cons.1 hx with rfl | hx
    ·exact h0
    ·exact (validG_iff t n l).1 h x hx
   ·cases h
  ·intro h
   rw [if_pos (h s (List.mem_cons_self ..))]
   exact (validG_iff t n l).2 fun x hx => h x (List.mem_cons_of_mem _ hx)
theorem vm_iff {m : List Sta} {t : Int} : validM m t = true ↔ Vm t m := by
 unfold validM
 rw [Bool.and_eq_true, validG_iff, decide_eq_true_eq]
 have key : (∀ s ∈ m, -1 ≤ s.1 ∧ riseM s.2 t m.length = true) ↔ ∀ i, i < m.length → -1 ≤ (mAt m i).1 ∧ riseM (mAt m i).2 t m.length = true := by
  constructor
  ·intro h i hi; rw [mAt_get hi]; exact h _ (List.getElem_mem hi)
  ·intro h s hs
   obtain ⟨i, hi, rfl⟩ := List.mem_iff_getElem.1 hs
   have := h i hi
   rwa [mAt_get hi] at this
 rw [key]
 constructor
 ·rintro ⟨h1, h2⟩
  exact ⟨h2, fun i hi => (h1 i hi).1, fun i hi => ((riseM_iff _ _ _).1 (h1 i hi).2).1, fun i hi => ((riseM_iff _ _ _).1 (h1 i hi).2).2⟩
 ·intro h
  exact ⟨fun i hi => ⟨h.out i hi, (riseM_iff _ _ _).2 ⟨h.edge i hi, h.rise i hi⟩⟩, h.pos⟩
theorem goE_mem (n t : Int) : ∀ l : List Eg, goE n t l = -1 ∨ (t, goE n t l) ∈ l
 | [] => .inl rfl
 | e :: l => by
  unfold goE
  split
  ·rename_i h
   refine .inr ?_
   rw [← h.1]; exact List.mem_cons_self ..
  ·rcases goE_mem n t l with h | h
   ·exact .inl h
   ·exact .inr (List.mem_cons_of_mem _ h)
theorem goE_of {n : Int} : ∀ {l : List Eg}, (∀ e ∈ l, 0 ≤ e.2 ∧ e.2 < n) → (l.Pairwise fun a b => a.1 < b.1) → ∀ {e : Eg}, e ∈ l → goE n e.1 l = e.2
 | x :: l, h, hp, e, he => by
  obtain ⟨h1, h2⟩ := List.pairwise_cons.1 hp
  unfold goE
  rcases List.mem_cons.1 he with rfl | he
  ·rw [if_pos ⟨rfl, h _ (List.mem_cons_self ..)⟩]
  ·have := h1 e he
   rw [if_neg (fun hh => by omega)]
   exact goE_of (fun y hy => h y (List.mem_cons_of_mem _ hy)) h2 he
theorem Vm.go {m : List Sta} {t : Int} (h : Vm t m) {i : Nat} (hi : i < m.length) {e : Eg} (he : e ∈ (mAt m i).2) : goM m i e.1 = e.2 := by
 unfold goM
 rw [if_pos (by omega)]
 show goE _ _ (mAt m ((i : Int).toNat)).2 = _
 rw [Int.toNat_natCast]
 exact goE_of (fun e he => by have := h.edge i hi e he; omega) (h.rise i hi) he
theorem go_mem {m : List Sta} {i : Nat} (hi : i < m.length) {c : Int} (h : 0 ≤ goM m i c) : (c, goM m i c) ∈ (mAt m i).2 := by
 have e : goM m i c = goE m.length c (mAt m i).2 := by
  unfold goM
  rw [if_pos (by omega), Int.toNat_natCast]
 rw [e] at h ⊢
 rcases goE_mem m.length c (mAt m i).2 with h1 | h1
 ·omega
 ·exact h1
theorem Vm.out_at {m : List Sta} {i : Nat} (hi : i < m.length) : outM m i = (mAt m i).1 := by
 unfold outM
 rw [if_pos (by omega), Int.toNat_natCast]
/-! ### which states are reached -/
inductive Rc (m : List Sta) : Nat → Prop
 | zero : Rc m 0
 | step {i : Nat} {e : Eg} : Rc m i → i < m.length → e ∈ (mAt m i).2 → Rc m e.2.toNat
theorem Rc.lt {m : List Sta} {t : Int} (h : Vm t m) {i : Nat} (hr : Rc m i) : i < m.length := by
 cases hr with
 | zero => exact h.pos
 | step _ hi he => have := h.edge _ hi _ he; omega
theorem setTo_at {n : Int} {o : List Bool} {e : Eg} {i : Nat} (hn : n ≤ o.length) : bAt (setTo n o e) i = true ↔ bAt o i = true ∨ (0 ≤ e.2 ∧ e.2 < n ∧ i = e.2.toNat) := by
 unfold setTo
 split
 ·rename_i h
  rw [bAt_set24 (by omega)]
  split
  ·rename_i e'; exact ⟨fun _ => .inr ⟨h.1, h.2, e'.symm⟩, fun _ => rfl⟩
  ·rename_i e'; exact ⟨.inl, fun hh => by rcases hh with hh | hh; exact hh; exact absurd hh.2.2.symm e'⟩
 ·rename_i h
  exact ⟨.inl, fun hh => by rcases hh with hh | hh; exact hh; exact absurd ⟨hh.1, hh.2.1⟩ h⟩
theorem fold_setTo {n : Int} {i : Nat} : ∀ (l : List Eg) {o : List Bool}, n ≤ o.length → (bAt (l.foldl (setTo n) o) i = true ↔ bAt o i = true ∨ ∃ e ∈ l, 0 ≤ e.2 ∧ e.2 < n ∧ i = e.2.toNat)
 | [], o, _ => by simp
 | x :: l, o, h => by
  rw [List.foldl_cons, fold_setTo l (by rw [setTo_len]; exact h), setTo_at h]
  simp only [List.mem_cons, exists_eq_or_imp, or_assoc]
theorem rSt_mono {m : List Sta} {o : List Bool} {i k : Nat} (h : bAt o k = true) : bAt (rSt m o i) k = true := by unfold rSt; split; exact fold_mono h; exact h
theorem rRd_mono {m : List Sta} {k : Nat} : ∀ (l : List Nat) {o : List Bool}, bAt o k = true → bAt (l.foldl (rSt m) o) k = true
 | [], _, h => h
 | x :: l, o, h => by rw [List.foldl_cons]; exact rRd_mono l (rSt_mono h)
def RcA (m : List Sta) (o : List Bool) : Prop := o.length = m.length ∧ bAt o 0 = true ∧ ∀ i, bAt o i = true → Rc m i
theorem bAt_lt {o : List Bool} {i : Nat} (h : bAt o i = true) : i < o.length := by
 rcases Nat.lt_or_ge i o.length with h1 | h1
 ·exact h1
 ·have : bAt o i = false := by show o.getD i false = false; rw [List.getD_eq_getElem?_getD, List.getElem?_eq_none h1]; rfl
  rw [this] at h; cases h
theorem rSt_rc {m : List Sta} {o : List Bool} {i : Nat} (h : RcA m o) : RcA m (rSt m o i) := by
 refine ⟨(rSt_len m o i).trans h.1, rSt_mono h.2.1, fun k hk => ?_⟩
 unfold rSt at hk
 split at hk
 ·rename_i hi
  rcases (fold_setTo _ (by have := h.1; omega)).1 hk with h1 | ⟨e, he, h1, h2, rfl⟩
  ·exact h.2.2 k h1
  ·exact .step (h.2.2 i hi) (by have := bAt_lt hi; have := h.1; omega) he
 ·exact h.2.2 k hk
theorem cntR_cons (x : Bool) (o : List Bool) : cntR (x :: o) = cntR o + (if x = true then 1 else 0) := by unfold cntR; rw [List.countP_cons]; cases x <;> rfl
theorem cntR_mono : ∀ (o u : List Bool), o.length = u.length → (∀ i, bAt o i = true → bAt u i = true) → cntR o ≤ cntR u ∧ (cntR u ≤ cntR o → o = u)
 | [], [], _, _ => ⟨Nat.le_refl _, fun _ => rfl⟩
 | x :: o, y :: u, hl, h => by
  obtain ⟨h1, h2⟩ := cntR_mono o u (by simpa using hl) fun i hi => h (i + 1) hi
  have h0 : x = true → y = true := h 0
  rw [cntR_cons, cntR_cons]
  cases x <;> cases y
  ·exact ⟨h1, fun h3 => by rw [h2 h3]⟩
  ·exact ⟨Nat.le_trans h1 (Nat.le_add_right ..), fun h3 => by exfalso; rw [if_pos rfl, if_neg (by decide)] at h3; omega⟩
  ·exact absurd (h0 rfl) (by decide)
  ·exact ⟨Nat.add_le_add_right h1 _, fun h3 => by rw [h2 (Nat.le_of_add_le_add_right h3)]⟩
theorem rIt_rc {m : List Sta} (h0 : 0 < m.length) : ∀ d, RcA m (rIt m d)
 | 0 => by
  refine ⟨by simp [rIt], ?_, fun i hi => ?_⟩
  ·show bAt ((List.replicate m.length false).set 0 true) 0 = true
   rw [bAt_set24 (by simpa using h0), if_pos rfl]
  ·have hi : bAt ((List.replicate m.length false).set 0 true) i = true := hi
   rw [bAt_set24 (by simpa using h0)] at hi
   split at hi
   ·rename_i e; rw [← e]; exact .zero
   ·exfalso
    have : bAt (List.replicate m.length false) i = false := by
     show (List.replicate m.length false).getD i false = false
     rw [List.getD_eq_getElem?_getD, List.getElem?_replicate]
     split <;> rfl
    rw [this] at hi; cases hi
 | d + 1 => fold_inv (P := RcA m) _ (fun i _ s hs => rSt_rc hs) _ (rIt_rc h0 d)
theorem rRd_fold {m : List Sta} : ∀ (l : List Nat) (o : List Bool), o.length = m.length → l.foldl (rSt m) o = o → ∀ i ∈ l, rSt m o i = o
 | x :: l, o, ho, h, i, hi => by
  rw [List.foldl_cons] at h
  have hl := rSt_len m o x
  have h1 := cntR_mono o (rSt m o x) hl.symm fun k hk => rSt_mono hk
  have h2 := cntR_mono (rSt m o x) (l.foldl (rSt m) (rSt m o x)) (rRd_go m l _).symm fun k hk => rRd_mono l hk
  rw [h] at h2
  have h3 : rSt m o x = o := (h1.2 h2.1).symm
  rcases List.mem_cons.1 hi with rfl | hi
  ·exact h3
  ·rw [h3] at h
   exact rRd_fold l o ho h i hi
theorem rIt_fix {m : List Sta} (h0 : 0 < m.length) : ∃ d, d ≤ m.length ∧ rRd m (rIt m d) = rIt m d := by
 apply Classical.byContradiction
 intro hno
 have key : ∀ d, d ≤ m.length → d < cntR (rIt m d) := by
  intro d
  induction d with
  | zero =>
   intro _
   have h := (rIt_rc h0 0).2.1
   have hl := (rIt_rc h0 0).1
   rcases Nat.eq_zero_or_pos (cntR (rIt m 0)) with e | e
   ·exfalso
    have h1 : ∀ (o : List Bool), cntR o = 0 → bAt o 0 = true → False := by
     intro o ho hb
     cases o with
     | nil => cases hb
     | cons x o =>
      have hb : x = true := hb
      subst hb
      simp [cntR] at ho
    exact h1 _ e h
   ·exact e
  | succ d ih =>
   intro hd
   have h1 := ih (by omega)
   have h2 := cntR_mono (rIt m d) (rIt m (d + 1)) ((rIt_len m d).trans (rIt_len m (d + 1)).symm) fun k hk => rRd_mono _ hk
   rcases Nat.lt_or_ge (cntR (rIt m d)) (cntR (rIt m (d + 1))) with h3 | h3
   ·omega
   ·exact absurd ⟨d, by omega, (h2.2 h3).symm⟩ hno
 have h1 := key _ (Nat.le_refl _)
 have h2 := cntR_le (rIt m m.length)
 rw [rIt_len] at h2
 omega
theorem rIt_stay {m : List Sta} {d : Nat} (h : rRd m (rIt m d) = rIt m d) : ∀ e, rIt m (d + e) = rIt m d
 | 0 => rfl
 | e + 1 => by
  show rRd m (rIt m (d + e)) = _
  rw [rIt_stay h e, h]
theorem rc_of_closed {m : List Sta} {o : List Bool} (h0 : bAt o 0 = true) (hc : ∀ i, i < m.length → bAt o i = true → ∀ e ∈ (mAt m i).2, bAt o e.2.toNat = true) : ∀ {i : Nat}, Rc m i → bAt o i = true := by
 intro i h
 induction h with
 | zero => exact h0
 | step h hi he ih => exact hc _ hi ih _ he
theorem reach_iff {m : List Sta} {t : Int} (hv : Vm t m) {i : Nat} : bAt (reachM m) i = true ↔ Rc m i := by
 obtain ⟨d, hd, hfix⟩ := rIt_fix hv.pos
 have e : reachM m = rIt m d := by
  have := rIt_stay hfix (m.length - d)
  rwa [show d + (m.length - d) = m.length by omega] at this
 have hr := rIt_rc hv.pos d
 rw [e]
 refine ⟨hr.2.2 i, rc_of_closed hr.2.1 fun i hi hb e he => ?_⟩
 have h1 := rRd_fold _ _ hr.1 hfix i (List.mem_range.2 hi)
 unfold rSt at h1
 rw [if_pos hb] at h1
 rw [← h1]
 have := hv.edge i hi e he
 exact (fold_setTo _ (by have := hr.1; omega)).2 (.inr ⟨e, he, by omega, by omega, rfl⟩)
theorem reach_len (m : List Sta) : (reachM m).length = m.length := rIt_len m _
def useM (m : List Sta) : List Bool := (List.range m.length).map fun i => bAt (reachM m) i && xAt (apF m m 6) i m.length
theorem useM_len (m : List Sta) : (useM m).length = m.length := by simp [useM]
theorem useM_at {m : List Sta} {i : Nat} (hi : i < m.length) : bAt (useM m) i = (bAt (reachM m) i && xAt (apF m m 6) i m.length) := by
 show (useM m).getD i false = _
 unfold useM
 rw [List.getD_eq_getElem?_getD, List.getElem?_map, List.getElem?_range hi]; rfl
def Tl (m : List Sta) (i : Nat) : Prop := ∃ w, tellS m i w ≠ -1
theorem tl_letters {m : List Sta} {n : Int} (hv : Vm n m) : ∀ (w : List Int) (s : Int), tellS m s w ≠ -1 → Lt n w
 | [], _, _ => fun c hc => (by cases hc)
 | c :: w, s, h => by
  rw [tell_cons] at h
  have h1 := tl_letters hv w _ h
  by_cases hs : 0 ≤ s ∧ s < m.length
  ·by_cases hg : 0 ≤ goM m s c
   ·have e : s = ((s.toNat : Nat) : Int) := by omega
    have hi : s.toNat < m.length := by omega
    rw [e] at hg h
    have hm := go_mem hi hg
    have := hv.edge _ hi _ hm
    intro x hx
    rcases List.mem_cons.1 hx with rfl | hx
    ·exact ⟨this.1, this.2.1⟩
    ·exact h1 x hx
   ·exact absurd (tell_no w (by omega)) h
  ·rw [goM_no hs] at h
   exact absurd (tell_no w (by omega)) h
theorem apart_no {m : List Sta} {n : Nat} (hv : Vm n m) {i : Nat} (hi : i < m.length) : xAt (apF m m n) i m.length = true ↔ Tl m i := by
 rw [apF_iff (by omega) (by omega)]
 constructor
 ·rintro ⟨w, _, h⟩
  rw [tell_no (m := m) w (s := (m.length : Int)) (by omega)] at h
  exact ⟨w, h⟩
 ·rintro ⟨w, h⟩
  exact ⟨w, tl_letters hv w _ h, by rw [tell_no (m := m) w (s := (m.length : Int)) (by omega)]; exact h⟩
theorem use_iff {m : List Sta} (hv : Vm 6 m) {i : Nat} (hi : i < m.length) : bAt (useM m) i = true ↔ Rc m i ∧ Tl m i := by
 rw [useM_at hi, Bool.and_eq_true, reach_iff hv, apart_no (n := 6) hv hi]
end Go.Proofs.YtcpcghnpoekhpaaDoor.A
/- Machines: the least machine: what is computed. -/
set_option linter.unusedSimpArgs false
set_option linter.unusedVariables false
set_option maxRecDepth 100000
set_option maxHeartbeats 4000000
namespace Go.Proofs.YtcpcghnpoekhpaaDoor.A
open Go
def kyC (cls : List Int) (q : List Int) : List Int := q.map fun s => iAt cls s.toNat
def mkStep (use : List Bool) (cls : List Int) (st : List Int × List Eg) (e : Eg) : List Int × List Eg :=
 if bAt use e.2.toNat = true then (if inL (kyC cls st.1) (iAt cls e.2.toNat) = true then (st.1, st.2 ++ [(e.1, (ixL (kyC cls st.1) (iAt cls e.2.toNat) : Int))]) else (st.1 ++ [e.2], st.2 ++ [(e.1, (st.1.length : Int))])) else st
def mkRow (m : List Sta) (use : List Bool) (cls q : List Int) (s : Nat) : List Int × List Eg := (mAt m s).2.foldl (mkStep use cls) (q, [])
def mkGo (m : List Sta) (use : List Bool) (cls : List Int) : Nat → Nat → List Int → List Sta → List Sta
 | 0, _, _, out => out
 | f + 1, i, q, out => if i < q.length then mkGo m use cls f (i + 1) (mkRow m use cls q (iAt q i).toNat).1 (out ++ [((mAt m (iAt q i).toNat).1, (mkRow m use cls q (iAt q i).toNat).2)]) else out
def makeM (m : List Sta) : List Sta := if bAt (useM m) 0 = true then mkGo m (useM m) (clF m (useM m)) (m.length + 1) 0 [0] [] else [(-1, [])]
theorem nodup_le : ∀ (N : Nat) (l : List Nat), l.Nodup → (∀ c ∈ l, c < N) → l.length ≤ N := by
 intro N
 induction N with
 | zero => intro l _ h; cases l with | nil => simp | cons a l => exact absurd (h a (List.mem_cons_self ..)) (by omega)
 | succ N ih =>
  intro l hd h
  by_cases hm : N ∈ l
  ·have h1 : (l.erase N).Nodup := hd.erase N
   have h2 := ih (l.erase N) h1 fun c hc => by
    have h3 := List.mem_of_mem_erase hc
    have h4 : c ≠ N := fun e => by subst e; exact (hd.not_mem_erase) hc
    have := h c h3; omega
   rw [List.length_erase_of_mem hm] at h2
   omega
  ·have := ih l hd fun c hc => by
    have := h c hc
    have : c ≠ N := fun e => hm (e ▸ hc)
    omega
   omega
structure QOk (n : Nat) (cls q : List Int) : Prop where
 nd : (kyC cls q).Nodup
 lt : ∀ s ∈ q, 0 ≤ s ∧ s < n
theorem QOk.len {n : Nat} {cls q : List Int} (h : QOk n cls q) : q.length ≤ n := by
 have h1 : (q.map Int.toNat).Nodup := by
  have h2 := h.nd
  unfold kyC at h2
  have e : (q.map fun s => iAt cls s.toNat) = (q.map Int.toNat).map fun k => iAt cls k := by rw [List.map_map]; rfl
  rw [e] at h2
  exact List.Pairwise.of_map (fun k : Nat => iAt cls k) (fun a b hab e => hab (by rw [e])) h2
 have := nodup_le n _ h1 fun c hc => by
  obtain ⟨s, hs, rfl⟩ := List.mem_map.1 hc
  have := h.lt s hs; omega
 simpa using this
theorem QOk.add {n : Nat} {cls q : List Int} (h : QOk n cls q) {s : Int} (hs : 0 ≤ s ∧ s < n) (hn : inL (kyC cls q) (iAt cls s.toNat) = false) : QOk n cls (q ++ [s]) := by
 refine ⟨?_, fun x hx => ?_⟩
 ·have e : kyC cls (q ++ [s]) = kyC cls q ++ [iAt cls s.toNat] := by simp [kyC]
  rw [e, List.nodup_append]
  refine ⟨h.nd, by simp, fun a ha b hb e => ?_⟩
  rw [List.mem_singleton.1 hb] at e
  subst e
  rw [inL_not] at hn; exact hn ha
 ·rcases List.mem_append.1 hx with h1 | h1
  ·exact h.lt x h1
  ·rw [List.mem_singleton.1 h1]; exact hs
theorem QOk.step {n : Nat} {use : List Bool} {cls : List Int} {st : List Int × List Eg} {e : Eg} (h : QOk n cls st.1) (he : 0 ≤ e.2 ∧ e.2 < n) : QOk n cls (mkStep use cls st e).1 := by
 unfold mkStep
 split
 ·split
  ·exact h
  ·rename_i h2
   exact h.add he (by simpa using h2)
 ·exact h
theorem mkStep_more (use : List Bool) (cls : List Int) (st : List Int × List Eg) (e : Eg) : ∃ t, (mkStep use cls st e).1 = st.1 ++ t := by
 unfold mkStep
 split
 ·split
  ·exact ⟨[], by simp⟩
  ·exact ⟨[e.2], rfl⟩
 ·exact ⟨[], by simp⟩
theorem mkStep_eln (use : List Bool) (cls : List Int) (st : List Int × List Eg) (e : Eg) : (mkStep use cls st e).2.length ≤ st.2.length + 1 := by
 unfold mkStep
 split
 ·split
  ·show (st.2 ++ [_]).length ≤ _; simp
  ·show (st.2 ++ [_]).length ≤ _; simp
 ·exact Nat.le_add_right ..
theorem mkGo_done {m : List Sta} {use : List Bool} {cls q : List Int} {out : List Sta} {i : Nat} (h : ¬ i < q.length) : ∀ f, mkGo m use cls f i q out = out
 | 0 => rfl
 | f + 1 => by rw [mkGo, if_neg h]
end Go.Proofs.YtcpcghnpoekhpaaDoor.A
/- Machines: the least machine: the walk. -/
set_option linter.unusedSimpArgs false
set_option linter.unusedVariables false
set_option maxRecDepth 100000
set_option maxHeartbeats 4000000
namespace Go.Proofs.YtcpcghnpoekhpaaDoor.A
open Go
set_option linter.unusedVariables false
abbrev stT : TypeId := 35
abbrev egT : TypeId := 40
abbrev iT : TypeId := 3
abbrev bTN : TypeId := 4
abbrev shO : Sh := .sl stT [.st, .sl egT [.st, .st]]
def blsOf (cs : List C) : List Bool := cs.map gb
theorem blsOf_bC (l : List Bool) : blsOf (bC l) = l := by
 unfold blsOf bC
 rw [List.map_map]
 exact (List.map_congr_left fun x _ => rfl).trans (List.map_id' l)
def rgtC (cs : List C) : Bool := validM (stsOf cs) 9223372036854775807
def useC (cs : List C) : List C := bC (useM (stsOf cs))
def clsC (cs us : List C) : List C := iC (clF (stsOf cs) (blsOf us))
def bookMk (x_rgtC : List C → Bool) (x_useC : List C → List C) (x_clsC : List C → List C → List C) : Book := fun f xs => match f, xs with
 | 21, [.v false [.sl _ cs]] => some (ret1 (.st (vB (x_rgtC cs))), [])
 | 9, [.v false [.sl n cs]] => some (ret1 (.own bTN n (x_useC cs)), [])
 | 22, [.v false [.sl n cs], .v false [.sl _ us]] => some (ret1 (.own iT n (x_clsC cs us)), [])
 | _, _ => none
theorem clGo_len (m : List Sta) (use : List Bool) : ∀ (f : Nat) (out : List Int) (cnt : Int), (clGo m use f out cnt).length = m.length
 | 0, out, _ => cls_len
 | f + 1, out, cnt => by
  unfold clGo
  split
  ·exact cls_len
  ·exact clGo_len m use f _ _
theorem pc_Make (m : List Sta) (hs : SzM m) (hv : Vm 6 m) (hn : m.length ≤ 1000) (hz : ∀ k, k < m.length → (mAt m k).2.length ≤ 1000)
    (cR : pc 21 [.v false [.sl (nM m) (mC m)]] (ret1 (.st (vB true))))
    (cU : pc 9 [.v false [.sl (nM m) (mC m)]] (ret1 (.own bTN (nM m) (bC (useM m)))))
    (cC : pc 22 [.v false [.sl (nM m) (mC m)], .v false [.sl (nM m) (bC (useM m))]] (ret1 (.own iT (nM m) (iC (clF m (useM m)))))) :
    PC Tryd.prog T 7 [.v false [.sl (nM m) (mC m)]] (ret1 (.tree shO (.sl (nM (makeM m)) (mC (makeM m))) none)) [] := by
  have n1 := nM_eq m
  have l1 := mC_len m
  have t1 := mC_at m
  have h0 := hv.pos
  have hKl0 : nI (clF m (useM m)) = nM m := by rw [nI_eq, n1]; exact clGo_len _ _ _ _ _
  have er : rgtC (mC m) = true := by
    unfold rgtC; rw [stsOf_mC]
    exact vm_iff.2 ⟨hv.pos, hv.out, fun i hi e he => by have := hv.edge i hi e he; omega, hv.rise⟩
  have eu : useC (mC m) = bC (useM m) := by unfold useC; rw [stsOf_mC]
  have ec : clsC (mC m) (useC (mC m)) = iC (clF m (useM m)) := by unfold clsC; rw [stsOf_mC, eu, blsOf_bC]
  have hU : (useM m).length = m.length := useM_len m
  have hM : makeM m = if bAt (useM m) 0 = true then mkGo m (useM m) (clF m (useM m)) (m.length + 1) 0 [0] [] else [(-1, [])] := rfl
  rw [← eu] at cU cC
  rw [← ec] at cC
  rw [← er] at cR
  generalize makeM m = X at *
  generalize useM m = U at *
  have hKl := hKl0
  generalize clF m U = Kc at *
  have lU : (useC (mC m)).length = nM m := by rw [eu, bC_len, nB_eq]; omega
  have uU := fun k => gb_bC U k
  have oU := fun k (h : k < m.length) => (ok_bC (by omega) : okK .bool (cellAt (bC U) k))
  have vU : ∀ c ∈ useC (mC m), ∃ v, c = .val v := by rw [eu]; exact bC_vals _
  have vK : ∀ c ∈ clsC (mC m) (useC (mC m)), ∃ v, c = .val v := by rw [ec]; exact iC_vals _
  simp only [← eu] at uU oU
  have uU0 := uU 0
  have oU0 := oU 0 h0
  rcases Bool.eq_false_or_eq_true (bAt U 0) with hu0 | hu0
  all_goals rw [hu0] at uU0 hM
  rotate_left
  · have hM : X = [(-1, [])] := hM
    subst hM
    refine pc_lert ?_
    refine pc_of tok Tryd.func7 rfl (by rfl) ?_
    obtain ⟨j, hj⟩ : ∃ j : J, j = std Tryd.prog T := ⟨_, rfl⟩
    have hm : Tryd.prog.follows .mixedOrders = true := by kernel_rfl
    generalize y_rgtC : @rgtC = x_rgtC at *
    generalize y_useC : @useC = x_useC at *
    generalize y_clsC : @clsC = x_clsC at *
    generalize y_iC : @iC = x_iC at *
    generalize y_bC : @bC = x_bC at *
    generalize y_nI : @nI = x_nI at *
    generalize y_eC : @eC = x_eC at *
    generalize y_nE : @nE = x_nE at *
    generalize y_mC : @mC = x_mC at *
    generalize y_nM : @nM = x_nM at *
    (repeat' first | ((first | with_reducible refine tr_cut (fun h => ?_) (fun h => ?_) | refine aw_condj (by cbv) (fun h => ?_) (fun h => ?_)) <;> (try simp (disch := omega) only [hj, std, cmpI, cmpB, satB, Bool.not_eq_true, Bool.not_eq_false, decide_eq_true_eq, decide_eq_false_iff_not, beq_iff_eq, bne_iff_ne, bne_eq_false_iff_eq, beq_eq_false_iff_ne, ne_eq, reduceCtorEq, not_true_eq_false, not_false_eq_true, pl0, if_true, cmpS_eq, cmpS_neq, Bool.not_eq_eq_eq_not, Bool.not_true, Bool.not_false, Bool.not_eq_true', er, uU0, ite0, Int.ofNat_eq_natCast, Int.toNat_zero, add64, sub64] at h) <;> (try (exfalso; omega))) | (with_reducible refine tr_alt (fun h => ?_) ?_ <;> (try (exfalso; omega))) | (with_reducible first | refine tr_ob ?_ ?_ | refine tr_done ?_) | (refine aw_tr hj tok (bookMk x_rgtC x_useC x_clsC) (by cbv) ?_) | (refine aw_seq fun K hK => ?_) | (refine aw_tr1 hj tok (bookMk x_rgtC x_useC x_clsC) (by cbv) ?_) | (refine aw_skip ?_) | (refine aw_block ?_) | (refine aw_exit ?_) | (refine aw_ret ⟨.inr rfl, ret_okj hj (by cbv) ?_ ?_⟩) | (refine aw_ret ?_) | (with_reducible first | refine th_n ?_ | refine th_r ?_ | refine th_x ?_ | refine blk_n ?_ | refine blk_r ?_ | refine blk_x ?_ | refine blk_y rfl ?_) | (refine ⟨.inr rfl, ret_okj hj (by cbv) ?_ ?_⟩) | (refine ⟨.inl rfl, ret_okj hj (by cbv) ?_ ?_⟩) | (with_reducible first | refine ⟨(_, _, _, _, _, _), by cbv, ?_, ?_⟩ | refine ⟨_, by cbv, ?_, ?_⟩) | (with_reducible apply_assumption -symm -exfalso only [*]))
    all_goals ((try subst y_rgtC); (try subst y_useC); (try subst y_clsC); (try subst y_iC); (try subst y_bC); (try subst y_nI); (try subst y_eC); (try subst y_nE); (try subst y_mC); (try subst y_nM))
    all_goals (try (repeat' first | with_reducible exact obl0 | (with_reducible refine obl1 ?_ ?_)))
    all_goals (try first | with_reducible exact True.intro | ((first | refine ob_pc hj ?_ | refine ob_pcn hj ?_); (try rw [hj]); first | exact cR | exact cU) | ((first | refine ob_le hj ?_ | refine ob_lei hj ?_ | refine ob_inb hj ?_ | refine ob_pos hj ?_ | refine ob_ne0 hj ?_ | refine ob_eqb hj ?_); (first | rfl | first | omega | (simp only [hj, std]; split <;> omega) | (simp (disch := omega) only [hj, std, cmpI, cmpB, satB, add64, sub64, ite0, pl0, pl2, pl3, sb0, if_true, if_false, eq_self, lU, Int.toNat_zero] <;> omega) | (simp (disch := omega) [hj, std, cmpI, cmpB, satB, add64, sub64, ite0, pl0, pl2, pl3, sb0, if_true, if_false, eq_self, lU, Int.toNat_zero] <;> omega))) | ((refine ob_vals hj ?_; first | exact vU | exact vK)) | ((refine ob_ok hj ?_; simp only [hj, std, ite0, Int.toNat_zero]; exact oU0)) | (exact rfl))
  have hM : X = mkGo m U Kc (m.length + 1) 0 [0] [] := hM
  have hK : (clsC (mC m) (useC (mC m))).length = nM m := by rw [ec, iC_len]; exact hKl
  have kK := fun k => gi_iC Kc k
  have oK := fun k (h : k < m.length) => (ok_iC (by rw [nI_eq] at hKl; omega) : okK (.int .i64) (cellAt (iC Kc) k))
  simp only [← ec] at kK oK
  have kK0 := kK 0
  have oK0 := oK 0 h0
  clear hs eu ec
  refine pc_of tok Tryd.func7 rfl (by rfl) ?_
  obtain ⟨j, hj⟩ : ∃ j : J, j = std Tryd.prog T := ⟨_, rfl⟩
  have hm : Tryd.prog.follows .mixedOrders = true := by kernel_rfl
  generalize y_rgtC : @rgtC = x_rgtC at *
  generalize y_useC : @useC = x_useC at *
  generalize y_clsC : @clsC = x_clsC at *
  generalize y_iC : @iC = x_iC at *
  generalize y_bC : @bC = x_bC at *
  generalize y_nI : @nI = x_nI at *
  generalize y_eC : @eC = x_eC at *
  generalize y_nE : @nE = x_nE at *
  generalize y_mC : @mC = x_mC at *
  generalize y_nM : @nM = x_nM at *
  (repeat' first | ((first | with_reducible refine tr_cut (fun h => ?_) (fun h => ?_) | refine aw_condj (by cbv) (fun h => ?_) (fun h => ?_)) <;> (try simp (disch := omega) only [hj, std, cmpI, cmpB, satB, Bool.not_eq_true, Bool.not_eq_false, decide_eq_true_eq, decide_eq_false_iff_not, beq_iff_eq, bne_iff_ne, bne_eq_false_iff_eq, beq_eq_false_iff_ne, ne_eq, reduceCtorEq, not_true_eq_false, not_false_eq_true, pl0, if_true, cmpS_eq, cmpS_neq, Bool.not_eq_eq_eq_not, Bool.not_true, Bool.not_false, Bool.not_eq_true', er, uU0, ite0, Int.ofNat_eq_natCast, Int.toNat_zero, add64, sub64] at h) <;> (try (exfalso; omega))) | (with_reducible refine tr_alt (fun h => ?_) ?_ <;> (try (exfalso; omega))) | (with_reducible first | refine tr_ob ?_ ?_ | refine tr_done ?_) | (refine aw_tr hj tok (bookMk x_rgtC x_useC x_clsC) (by cbv) ?_) | (refine aw_seq fun K hK => ?_) | (refine aw_tr1 hj tok (bookMk x_rgtC x_useC x_clsC) (by cbv) ?_) | (refine aw_skip ?_) | (refine aw_block ?_) | (refine aw_exit ?_) | (refine aw_ret ⟨.inr rfl, ret_okj hj (by cbv) ?_ ?_⟩) | (refine aw_ret ?_) | (with_reducible first | refine th_n ?_ | refine th_r ?_ | refine th_x ?_ | refine blk_n ?_ | refine blk_r ?_ | refine blk_x ?_ | refine blk_y rfl ?_) | (refine ⟨.inr rfl, ret_okj hj (by cbv) ?_ ?_⟩) | (refine ⟨.inl rfl, ret_okj hj (by cbv) ?_ ?_⟩) | (with_reducible first | refine ⟨(_, _, _, _, _, _), by cbv, ?_, ?_⟩ | refine ⟨_, by cbv, ?_, ?_⟩) | (with_reducible apply_assumption -symm -exfalso only [*]))
  all_goals ((try subst y_rgtC); (try subst y_useC); (try subst y_clsC); (try subst y_iC); (try subst y_bC); (try subst y_nI); (try subst y_eC); (try subst y_nE); (try subst y_mC); (try subst y_nM))
  all_goals (try (repeat' first | with_reducible exact obl0 | (with_reducible refine obl1 ?_ ?_)))
  all_goals (try first | with_reducible exact True.intro | ((first | refine ob_pc hj ?_ | refine ob_pcn hj ?_); (try rw [hj]); first | exact cR | exact cU | exact cC) | ((first | refine ob_le hj ?_ | refine ob_lei hj ?_ | refine ob_inb hj ?_ | refine ob_pos hj ?_ | refine ob_ne0 hj ?_ | refine ob_eqb hj ?_); (first | rfl | first | omega | (simp only [hj, std]; split <;> omega) | (simp (disch := omega) only [hj, std, cmpI, cmpB, satB, add64, sub64, ite0, pl0, pl2, pl3, sb0, if_true, if_false, eq_self, lU, hK, Int.toNat_zero] <;> omega) | (simp (disch := omega) [hj, std, cmpI, cmpB, satB, add64, sub64, ite0, pl0, pl2, pl3, sb0, if_true, if_false, eq_self, lU, hK, Int.toNat_zero] <;> omega))) | ((refine ob_vals hj ?_; first | exact vU | exact vK)) | ((refine ob_ok hj ?_; simp only [hj, std, ite0, Int.toNat_zero]; first | exact oU0 | exact oK0)))
  refine aw_lpj hj [(0, .keep), (3, .own bTN), (4, .own iT), (5, .map), (6, .own iT), (7, .tree shO), (8, .keep)] [] (fun (⟨i, gm, Nq, Dq, om, oc⟩ : Int × GM × Nat × (List C) × Nat × (List C)) => stOf 105 [(0, .one (.c (.sl (nM m) (mC m)))), (3, .one (.view 3 0)), (4, .one (.view 4 0)), (5, .one (.mv 5 0)), (6, .one (.view 6 0)), (7, .one (.tv 7 0 [])), (8, .one (.c (vI i)))] [(3, .loose [.own bTN (nM m) (useC (mC m))]), (4, .loose [.own iT (nM m) (clsC (mC m) (useC (mC m)))]), (5, .loose [.map (.int .i64) gm]), (6, .loose [.own iT Nq Dq]), (7, .loose [.tree shO ((.sl om oc)) none])]) (fun (⟨i, gm, Nq, Dq, om, oc⟩ : Int × GM × Nat × (List C) × Nat × (List C)) => nM m + 1 - i.toNat) (fun (⟨i, gm, Nq, Dq, om, oc⟩ : Int × GM × Nat × (List C) × Nat × (List C)) => 0 ≤ i ∧ ∃ (q : List Int) (o : List Sta) (f : Nat), Nq = nI q ∧ Dq = iC q ∧ MapA (Value.int .i64) gm (kyC Kc q) ∧ QOk m.length Kc q ∧ om = nM o ∧ oc = mC o ∧ X = mkGo m U Kc f i.toNat q o ∧ i ≤ q.length ∧ (m.length : Int) < f + i ∧ (o.length : Int) = i) ((0, j.mset j.mnew (.int .i64 (j.gi (j.cell (clsC (mC m) (useC (mC m))) (j.toNat 0)))) (vI 0), 1, [vI 0], 0, [])) (by generalize @rgtC = x_rgtC; generalize @useC = x_useC; generalize @clsC = x_clsC; generalize @iC = x_iC; generalize @bC = x_bC; generalize @nI = x_nI; generalize @eC = x_eC; generalize @nE = x_nE; generalize @mC = x_mC; generalize @nM = x_nM; cbv) ?_ (fun ⟨i, gm, Nq, Dq, om, oc⟩ hI => ?_)
  · simp only [hj, std, Int.toNat_zero, kK0]
    refine ⟨by omega, [0], [], m.length + 1, rfl, rfl, (MapA.new _).add keqA_i64 rfl rfl, ⟨by simp [kyC], fun s hs => by rw [List.mem_singleton.1 hs]; omega⟩, rfl, rfl, hM, by omega, by omega, rfl⟩
  obtain ⟨i1, q, o, f, rfl, rfl, hMp, hQ, rfl, rfl, hX, i2, hf, hol⟩ := hI
  have no := nM_eq o
  have lq := iC_len q
  have nq := nI_eq q
  have hql := hQ.len
  rcases Decidable.em (i < (nI q : Int)) with hi | hi
  rotate_left
  · have hE : X = o := by rw [hX]; exact mkGo_done (by omega) _
    subst hE
    clear hX
    generalize y_rgtC : @rgtC = x_rgtC at *
    generalize y_useC : @useC = x_useC at *
    generalize y_clsC : @clsC = x_clsC at *
    generalize y_iC : @iC = x_iC at *
    generalize y_bC : @bC = x_bC at *
    generalize y_nI : @nI = x_nI at *
    generalize y_eC : @eC = x_eC at *
    generalize y_nE : @nE = x_nE at *
    generalize y_mC : @mC = x_mC at *
    generalize y_nM : @nM = x_nM at *
    (repeat' first | ((first | with_reducible refine tr_cut (fun h => ?_) (fun h => ?_) | refine aw_condj (by cbv) (fun h => ?_) (fun h => ?_)) <;> (try simp (disch := omega) only [hj, std, cmpI, cmpB, satB, Bool.not_eq_true, Bool.not_eq_false, decide_eq_true_eq, decide_eq_false_iff_not, beq_iff_eq, bne_iff_ne, bne_eq_false_iff_eq, beq_eq_false_iff_ne, ne_eq, reduceCtorEq, not_true_eq_false, not_false_eq_true, pl0, if_true, cmpS_eq, cmpS_neq, Bool.not_eq_eq_eq_not, Bool.not_true, Bool.not_false, Bool.not_eq_true', Int.ofNat_eq_natCast, add64, sub64] at h) <;> (try (exfalso; omega))) | (with_reducible refine tr_alt (fun h => ?_) ?_ <;> (try (exfalso; omega))) | (with_reducible first | refine tr_ob ?_ ?_ | refine tr_done ?_) | (refine aw_tr hj tok (bookMk x_rgtC x_useC x_clsC) (by cbv) ?_) | (refine aw_seq fun K hK => ?_) | (refine aw_tr1 hj tok (bookMk x_rgtC x_useC x_clsC) (by cbv) ?_) | (refine aw_skip ?_) | (refine aw_block ?_) | (refine aw_exit ?_) | (refine aw_ret ⟨.inr rfl, ret_okj hj (by cbv) ?_ ?_⟩) | (refine aw_ret ?_) | (with_reducible first | refine th_n ?_ | refine th_r ?_ | refine th_x ?_ | refine blk_n ?_ | refine blk_r ?_ | refine blk_x ?_ | refine blk_y rfl ?_) | (refine ⟨.inr rfl, ret_okj hj (by cbv) ?_ ?_⟩) | (refine ⟨.inl rfl, ret_okj hj (by cbv) ?_ ?_⟩) | (with_reducible first | refine ⟨(_, _, _, _, _, _), by cbv, ?_, ?_⟩ | refine ⟨_, by cbv, ?_, ?_⟩) | (with_reducible apply_assumption -symm -exfalso only [*]))
    all_goals ((try subst y_rgtC); (try subst y_useC); (try subst y_clsC); (try subst y_iC); (try subst y_bC); (try subst y_nI); (try subst y_eC); (try subst y_nE); (try subst y_mC); (try subst y_nM))
    all_goals (try (repeat' first | with_reducible exact obl0 | (with_reducible refine obl1 ?_ ?_)))
    all_goals (try first | with_reducible exact True.intro | ((first | refine ob_le hj ?_ | refine ob_lei hj ?_ | refine ob_inb hj ?_ | refine ob_pos hj ?_ | refine ob_ne0 hj ?_ | refine ob_eqb hj ?_); (first | rfl | first | omega | (simp only [hj, std]; split <;> omega) | (simp (disch := omega) only [hj, std, cmpI, cmpB, satB, add64, sub64, ite0, pl0, pl2, pl3, sb0, if_true, if_false, eq_self] <;> omega) | (simp (disch := omega) [hj, std, cmpI, cmpB, satB, add64, sub64, ite0, pl0, pl2, pl3, sb0, if_true, if_false, eq_self] <;> omega))) | (exact rfl))
  obtain ⟨g, rfl⟩ : ∃ g, f = g + 1 := ⟨f - 1, by omega⟩
  have f1 : (i + 1).toNat = i.toNat + 1 := by omega
  rw [mkGo, if_pos (by omega), ← f1] at hX
  have hqs := hQ.lt (iAt q i.toNat) (by
    show q.getD i.toNat 0 ∈ q
    rw [List.getD_eq_getElem?_getD, List.getElem?_eq_getElem (by omega)]; exact List.getElem_mem _)
  have qi := gi_iC q i.toNat
  have qo : okK (.int .i64) (cellAt (iC q) i.toNat) := ok_iC (by omega)
  have hrow : mkRow m U Kc q (iAt q i.toNat).toNat = (mAt m (iAt q i.toNat).toNat).2.foldl (mkStep U Kc) (q, []) := rfl
  generalize mkRow m U Kc q (iAt q i.toNat).toNat = rw9 at *
  generalize iAt q i.toNat = s at *
  obtain ⟨c0, c1⟩ := t1 s.toNat (by omega)
  have hzi := hz s.toNat (by omega)
  have hve := hv.edge s.toNat (by omega)
  have g0 : gi (cellAt (mC m) (s.toNat * 2)) = (mAt m s.toNat).1 := by rw [c0]; rfl
  have g1 : gn (cellAt (mC m) (s.toNat * 2 + 1)) = nE (mAt m s.toNat).2 := by rw [c1]; rfl
  have g2 : gc (cellAt (mC m) (s.toNat * 2 + 1)) = eC (mAt m s.toNat).2 := by rw [c1]; rfl
  generalize (mAt m s.toNat).1 = so at *
  generalize (mAt m s.toNat).2 = b at *
  have hbn := nE_eq b
  have hbc := eC_len b
  have hba := eC_at b
  clear hM t1 hz
  generalize y_rgtC : @rgtC = x_rgtC at *
  generalize y_useC : @useC = x_useC at *
  generalize y_clsC : @clsC = x_clsC at *
  generalize y_iC : @iC = x_iC at *
  generalize y_bC : @bC = x_bC at *
  generalize y_nI : @nI = x_nI at *
  generalize y_eC : @eC = x_eC at *
  generalize y_nE : @nE = x_nE at *
  generalize y_mC : @mC = x_mC at *
  generalize y_nM : @nM = x_nM at *
  (repeat' first | ((first | with_reducible refine tr_cut (fun h => ?_) (fun h => ?_) | refine aw_condj (by cbv) (fun h => ?_) (fun h => ?_)) <;> (try simp (disch := omega) only [hj, std, cmpI, cmpB, satB, Bool.not_eq_true, Bool.not_eq_false, decide_eq_true_eq, decide_eq_false_iff_not, beq_iff_eq, bne_iff_ne, bne_eq_false_iff_eq, beq_eq_false_iff_ne, ne_eq, reduceCtorEq, not_true_eq_false, not_false_eq_true, pl0, if_true, cmpS_eq, cmpS_neq, Bool.not_eq_eq_eq_not, Bool.not_true, Bool.not_false, Bool.not_eq_true', qi, ite0, Int.ofNat_eq_natCast, add64, sub64] at h) <;> (try (exfalso; omega))) | (with_reducible refine tr_alt (fun h => ?_) ?_ <;> (try (exfalso; omega))) | (with_reducible first | refine tr_ob ?_ ?_ | refine tr_done ?_) | (refine aw_tr hj tok (bookMk x_rgtC x_useC x_clsC) (by cbv) ?_) | (refine aw_seq fun K hK => ?_) | (refine aw_tr1 hj tok (bookMk x_rgtC x_useC x_clsC) (by cbv) ?_) | (refine aw_skip ?_) | (refine aw_block ?_) | (refine aw_exit ?_) | (refine aw_ret ⟨.inr rfl, ret_okj hj (by cbv) ?_ ?_⟩) | (refine aw_ret ?_) | (with_reducible first | refine th_n ?_ | refine th_r ?_ | refine th_x ?_ | refine blk_n ?_ | refine blk_r ?_ | refine blk_x ?_ | refine blk_y rfl ?_) | (refine ⟨.inr rfl, ret_okj hj (by cbv) ?_ ?_⟩) | (refine ⟨.inl rfl, ret_okj hj (by cbv) ?_ ?_⟩) | (with_reducible first | refine ⟨(_, _, _, _, _, _), by cbv, ?_, ?_⟩ | refine ⟨_, by cbv, ?_, ?_⟩) | (with_reducible apply_assumption -symm -exfalso only [*]))
  all_goals ((try subst y_rgtC); (try subst y_useC); (try subst y_clsC); (try subst y_iC); (try subst y_bC); (try subst y_nI); (try subst y_eC); (try subst y_nE); (try subst y_mC); (try subst y_nM))
  all_goals (try (repeat' first | with_reducible exact obl0 | (with_reducible refine obl1 ?_ ?_)))
  all_goals (try first | with_reducible exact True.intro | ((first | refine ob_le hj ?_ | refine ob_lei hj ?_ | refine ob_inb hj ?_ | refine ob_pos hj ?_ | refine ob_ne0 hj ?_ | refine ob_eqb hj ?_); (first | rfl | first | omega | (simp only [hj, std]; split <;> omega) | (simp (disch := omega) only [hj, std, cmpI, cmpB, satB, add64, sub64, ite0, pl0, pl2, pl3, sb0, if_true, if_false, eq_self, l1, lq, qi] <;> omega) | (simp (disch := omega) [hj, std, cmpI, cmpB, satB, add64, sub64, ite0, pl0, pl2, pl3, sb0, if_true, if_false, eq_self, l1, lq, qi] <;> omega))) | ((refine ob_ok hj ?_; simp only [hj, std, ite0, qi]; first | exact qo | exact ⟨_, c0⟩ | exact .inr ⟨_, _, c1⟩)))
  refine aw_lpj hj [(0, .keep), (3, .own bTN), (4, .own iT), (5, .map), (6, .own iT), (7, .tree shO), (8, .keep), (10, .keep), (52, .keep), (53, .keep), (54, .keep), (10, .box 1 egT)] [10] (fun (⟨k, gm2, Nq, Dq, xn, xc, bn, bc, bq, so2⟩ : Int × GM × Nat × (List C) × Nat × (List C) × Nat × (List C) × Int × Int) => stOf 105 [(0, .one (.c (.sl (nM m) (mC m)))), (3, .one (.view 3 0)), (4, .one (.view 4 0)), (5, .one (.mv 5 0)), (6, .one (.view 6 0)), (7, .one (.tv 7 0 [])), (8, .one (.c (vI i))), (10, .one (.ptr 10 0)), (52, .one (.c (.sl bn bc))), (53, .one (.c (vI bq))), (54, .one (.c (vI k)))] [(3, .loose [.own bTN (nM m) (useC (mC m))]), (4, .loose [.own iT (nM m) (clsC (mC m) (useC (mC m)))]), (5, .loose [.map (.int .i64) gm2]), (6, .loose [.own iT Nq Dq]), (7, .loose [.tree shO ((.sl (nM o) (mC o))) none]), (10, .box [.st (vI so2), .own egT xn xc])]) (fun (⟨k, gm2, Nq, Dq, xn, xc, bn, bc, bq, so2⟩ : Int × GM × Nat × (List C) × Nat × (List C) × Nat × (List C) × Int × Int) => nE b - k.toNat) (fun (⟨k, gm2, Nq, Dq, xn, xc, bn, bc, bq, so2⟩ : Int × GM × Nat × (List C) × Nat × (List C) × Nat × (List C) × Int × Int) => so2 = so ∧ bn = nE b ∧ bc = eC b ∧ bq = nE b ∧ 0 ≤ k ∧ k ≤ nE b ∧ ∃ (p : List Int) (es : List Eg), Nq = nI p ∧ Dq = iC p ∧ MapA (Value.int .i64) gm2 (kyC Kc p) ∧ QOk m.length Kc p ∧ xn = nE es ∧ xc = eC es ∧ (es.length : Int) ≤ k ∧ (p, es) = (b.take k.toNat).foldl (mkStep U Kc) (q, []) ∧ q.length ≤ p.length) ((0, gm, nI q, iC q, 0, [], j.gn (j.cell (mC m) (j.add (j.mul (j.toNat (j.gi (j.cell (iC q) (j.toNat i)))) 2) 1)), j.gc (j.cell (mC m) (j.add (j.mul (j.toNat (j.gi (j.cell (iC q) (j.toNat i)))) 2) 1)), j.ofNat (j.gn (j.cell (mC m) (j.add (j.mul (j.toNat (j.gi (j.cell (iC q) (j.toNat i)))) 2) 1))), j.gi (j.cell (mC m) (j.mul (j.toNat (j.gi (j.cell (iC q) (j.toNat i)))) 2)))) (by generalize @rgtC = x_rgtC; generalize @useC = x_useC; generalize @clsC = x_clsC; generalize @iC = x_iC; generalize @bC = x_bC; generalize @nI = x_nI; generalize @eC = x_eC; generalize @nE = x_nE; generalize @mC = x_mC; generalize @nM = x_nM; cbv) ?_ (fun ⟨k, gm2, Nq, Dq, xn, xc, bn, bc, bq, so2⟩ hI => ?_)
  · simp only [hj, std, Int.ofNat_eq_natCast, qi, g0, g1, g2]
    exact ⟨by trivial, by trivial, by trivial, by trivial, by omega, by omega, q, [], rfl, rfl, hMp, hQ, rfl, rfl, by simp, rfl, Nat.le_refl _⟩
  obtain ⟨rfl, rfl, rfl, rfl, k1, k2, p, es, rfl, rfl, hMp, hQ, rfl, rfl, hel, hfold, hqp⟩ := hI
  have lp := iC_len p
  have np := nI_eq p
  have hpl := hQ.len
  have hes := nE_eq es
  have les := eC_len es
  rcases Decidable.em (k < (nE b : Int)) with hk | hk
  rotate_left
  · have hfe : rw9 = (p, es) := by rw [hrow, hfold, List.take_of_length_le (by omega)]
    rw [hfe] at hX
    have hsn := mC_snoc o so2 es
    have hnn : nM o + 1 = nM (o ++ [(so2, es)]) := by rw [nM_eq, nM_eq, List.length_append]; rfl
    have lo := mC_len o
    have hol9 : ((o ++ [(so2, es)]).length : Int) = i + 1 := by rw [List.length_append]; simp; omega
    clear hrow hfold hba hve hfe
    generalize y_rgtC : @rgtC = x_rgtC at *
    generalize y_useC : @useC = x_useC at *
    generalize y_clsC : @clsC = x_clsC at *
    generalize y_iC : @iC = x_iC at *
    generalize y_bC : @bC = x_bC at *
    generalize y_nI : @nI = x_nI at *
    generalize y_eC : @eC = x_eC at *
    generalize y_nE : @nE = x_nE at *
    generalize y_mC : @mC = x_mC at *
    generalize y_nM : @nM = x_nM at *
    (repeat' first | (with_reducible refine ⟨(_, _, _, _, _, _), by cbv, ?_, ?_⟩) | ((first | with_reducible refine tr_cut (fun h => ?_) (fun h => ?_) | refine aw_condj (by cbv) (fun h => ?_) (fun h => ?_)) <;> (try simp (disch := omega) only [hj, std, cmpI, cmpB, satB, Bool.not_eq_true, Bool.not_eq_false, decide_eq_true_eq, decide_eq_false_iff_not, beq_iff_eq, bne_iff_ne, bne_eq_false_iff_eq, beq_eq_false_iff_ne, ne_eq, reduceCtorEq, not_true_eq_false, not_false_eq_true, pl0, if_true, cmpS_eq, cmpS_neq, Bool.not_eq_eq_eq_not, Bool.not_true, Bool.not_false, Bool.not_eq_true', g1, ite0, Int.ofNat_eq_natCast, add64, sub64] at h) <;> (try (exfalso; omega))) | (with_reducible refine tr_alt (fun h => ?_) ?_ <;> (try (exfalso; omega))) | (with_reducible first | refine tr_ob ?_ ?_ | refine tr_done ?_) | (refine aw_tr hj tok (bookMk x_rgtC x_useC x_clsC) (by cbv) ?_) | (refine aw_seq fun K hK => ?_) | (refine aw_tr1 hj tok (bookMk x_rgtC x_useC x_clsC) (by cbv) ?_) | (refine aw_skip ?_) | (refine aw_block ?_) | (refine aw_exit ?_) | (refine aw_ret ⟨.inr rfl, ret_okj hj (by cbv) ?_ ?_⟩) | (refine aw_ret ?_) | (with_reducible first | refine th_n ?_ | refine th_r ?_ | refine th_x ?_ | refine blk_n ?_ | refine blk_r ?_ | refine blk_x ?_ | refine blk_y rfl ?_) | (refine ⟨.inr rfl, ret_okj hj (by cbv) ?_ ?_⟩) | (refine ⟨.inl rfl, ret_okj hj (by cbv) ?_ ?_⟩) | (with_reducible first | refine ⟨(_, _, _, _, _, _), by cbv, ?_, ?_⟩ | refine ⟨_, by cbv, ?_, ?_⟩) | (with_reducible apply_assumption -symm -exfalso only [*]))
    all_goals ((try subst y_rgtC); (try subst y_useC); (try subst y_clsC); (try subst y_iC); (try subst y_bC); (try subst y_nI); (try subst y_eC); (try subst y_nE); (try subst y_mC); (try subst y_nM))
    all_goals (try (repeat' first | with_reducible exact obl0 | (with_reducible refine obl1 ?_ ?_)))
    all_goals (try first | with_reducible exact True.intro | ((first | refine ob_le hj ?_ | refine ob_lei hj ?_ | refine ob_inb hj ?_ | refine ob_pos hj ?_ | refine ob_ne0 hj ?_ | refine ob_eqb hj ?_); (first | rfl | first | omega | (simp only [hj, std]; split <;> omega) | (simp (disch := omega) only [hj, std, cmpI, cmpB, satB, add64, sub64, ite0, pl0, pl2, pl3, sb0, if_true, if_false, eq_self, l1, lp, les, lo] <;> omega) | (simp (disch := omega) [hj, std, cmpI, cmpB, satB, add64, sub64, ite0, pl0, pl2, pl3, sb0, if_true, if_false, eq_self, l1, lp, les, lo] <;> omega))) | ((simp (disch := omega) only [hj, std, add64, ite0, hsn]; first | omega | exact ⟨by omega, p, _, g, rfl, rfl, hMp, hQ, hnn, rfl, hX, by omega, by omega, hol9⟩)))
  obtain ⟨d0, d1⟩ := hba k.toNat (by omega)
  have f2 : (k + 1).toNat = k.toNat + 1 := by omega
  have hem : eAt b k.toNat ∈ b := by rw [eAt_get (by omega)]; exact List.getElem_mem _
  have her := hve _ hem
  have hst : (b.take (k + 1).toNat).foldl (mkStep U Kc) (q, []) = mkStep U Kc (p, es) (eAt b k.toNat) := by rw [f2, take_eg (by omega), List.foldl_append, ← hfold]; rfl
  have u0 : gi (cellAt (eC b) (k.toNat * 2)) = (eAt b k.toNat).1 := by rw [d0]; rfl
  have u1 : gi (cellAt (eC b) (k.toNat * 2 + 1)) = (eAt b k.toNat).2 := by rw [d1]; rfl
  generalize eAt b k.toNat = Z at *
  obtain ⟨et, eg⟩ := Z
  dsimp only at her u0 u1 d0 d1
  have hsA : mkStep U Kc (p, es) (et, eg) = if bAt U eg.toNat = true then (if inL (kyC Kc p) (iAt Kc eg.toNat) = true then (p, es ++ [(et, (ixL (kyC Kc p) (iAt Kc eg.toNat) : Int))]) else (p ++ [eg], es ++ [(et, (p.length : Int))])) else (p, es) := rfl
  have hQ2 := hQ.add (s := eg) (by omega)
  have uU1 := uU eg.toNat
  have oU1 := oU eg.toNat (by omega)
  have kK1 := kK eg.toNat
  have oK1 := oK eg.toNat (by omega)
  have giv : ∀ x : Int, gi (vI x) = x := fun _ => rfl
  have ok2 : ∀ x : Int, okK (.int .i64) (vI x) := fun x => ⟨x, rfl⟩
  have hsn : ∀ x : Int, eC es ++ [vI et, vI x] = eC (es ++ [(et, x)]) := fun x => eC_snoc es et x
  have hnn : ∀ x : Int, nE es + 1 = nE (es ++ [(et, x)]) := fun x => by rw [nE_eq, nE_eq, List.length_append]; rfl
  clear hrow hfold hba hve hX uU oU kK oK
  rcases Bool.eq_false_or_eq_true (bAt U eg.toNat) with hue | hue
  all_goals rw [hue] at uU1 hsA
  rotate_left
  · have hsA : mkStep U Kc (p, es) (et, eg) = (p, es) := hsA
    rw [hsA] at hst
    generalize y_rgtC : @rgtC = x_rgtC at *
    generalize y_useC : @useC = x_useC at *
    generalize y_clsC : @clsC = x_clsC at *
    generalize y_iC : @iC = x_iC at *
    generalize y_bC : @bC = x_bC at *
    generalize y_nI : @nI = x_nI at *
    generalize y_eC : @eC = x_eC at *
    generalize y_nE : @nE = x_nE at *
    generalize y_mC : @mC = x_mC at *
    generalize y_nM : @nM = x_nM at *
    (repeat' first | (with_reducible refine ⟨(_, _, _, _, _, _, _, _, _, _), by cbv, ?_, ?_⟩) | ((first | with_reducible refine tr_cut (fun h => ?_) (fun h => ?_) | refine aw_condj (by cbv) (fun h => ?_) (fun h => ?_)) <;> (try simp (disch := omega) only [hj, std, cmpI, cmpB, satB, Bool.not_eq_true, Bool.not_eq_false, decide_eq_true_eq, decide_eq_false_iff_not, beq_iff_eq, bne_iff_ne, bne_eq_false_iff_eq, beq_eq_false_iff_ne, ne_eq, reduceCtorEq, not_true_eq_false, not_false_eq_true, pl0, if_true, cmpS_eq, cmpS_neq, Bool.not_eq_eq_eq_not, Bool.not_true, Bool.not_false, Bool.not_eq_true', g1, u0, u1, uU1, ite0, Int.ofNat_eq_natCast, add64, sub64] at h) <;> (try (exfalso; omega))) | (with_reducible refine tr_alt (fun h => ?_) ?_ <;> (try (exfalso; omega))) | (with_reducible first | refine tr_ob ?_ ?_ | refine tr_done ?_) | (refine aw_tr hj tok (bookMk x_rgtC x_useC x_clsC) (by cbv) ?_) | (refine aw_seq fun K hK => ?_) | (refine aw_tr1 hj tok (bookMk x_rgtC x_useC x_clsC) (by cbv) ?_) | (refine aw_skip ?_) | (refine aw_block ?_) | (refine aw_exit ?_) | (refine aw_ret ⟨.inr rfl, ret_okj hj (by cbv) ?_ ?_⟩) | (refine aw_ret ?_) | (with_reducible first | refine th_n ?_ | refine th_r ?_ | refine th_x ?_ | refine blk_n ?_ | refine blk_r ?_ | refine blk_x ?_ | refine blk_y rfl ?_) | (refine ⟨.inr rfl, ret_okj hj (by cbv) ?_ ?_⟩) | (refine ⟨.inl rfl, ret_okj hj (by cbv) ?_ ?_⟩) | (with_reducible first | refine ⟨(_, _, _, _, _, _), by cbv, ?_, ?_⟩ | refine ⟨_, by cbv, ?_, ?_⟩) | (with_reducible apply_assumption -symm -exfalso only [*]))
    all_goals ((try subst y_rgtC); (try subst y_useC); (try subst y_clsC); (try subst y_iC); (try subst y_bC); (try subst y_nI); (try subst y_eC); (try subst y_nE); (try subst y_mC); (try subst y_nM))
    all_goals (try (repeat' first | with_reducible exact obl0 | (with_reducible refine obl1 ?_ ?_)))
    all_goals (try first | with_reducible exact True.intro | ((first | refine ob_le hj ?_ | refine ob_lei hj ?_ | refine ob_inb hj ?_ | refine ob_pos hj ?_ | refine ob_ne0 hj ?_ | refine ob_eqb hj ?_); (first | rfl | first | omega | (simp only [hj, std]; split <;> omega) | (simp (disch := omega) only [hj, std, cmpI, cmpB, satB, add64, sub64, ite0, pl0, pl2, pl3, sb0, if_true, if_false, eq_self, l1, lU, lp, les, hbc, u1] <;> omega) | (simp (disch := omega) [hj, std, cmpI, cmpB, satB, add64, sub64, ite0, pl0, pl2, pl3, sb0, if_true, if_false, eq_self, l1, lU, lp, les, hbc, u1] <;> omega))) | ((refine ob_ok hj ?_; simp only [hj, std, ite0, u1]; first | exact ⟨_, d0⟩ | exact ⟨_, d1⟩ | exact oU1)) | ((simp (disch := omega) only [hj, std, add64, ite0]; first | omega | exact ⟨by trivial, by trivial, by trivial, by first | trivial | rfl, by omega, by omega, p, es, rfl, rfl, hMp, hQ, rfl, rfl, by omega, hst.symm, hqp⟩)))
  rcases Bool.eq_false_or_eq_true (inL (kyC Kc p) (iAt Kc eg.toNat)) with hin | hin
  all_goals rw [hin] at hsA
  · have hsA : mkStep U Kc (p, es) (et, eg) = (p, es ++ [(et, (ixL (kyC Kc p) (iAt Kc eg.toNat) : Int))]) := hsA
    rw [hsA] at hst
    have hhas : mhasC gm2.ks (.int .i64 (iAt Kc eg.toNat)) = true := by rw [hMp.has keqA_i64]; exact hin
    have hget := hMp.get keqA_i64 hin
    generalize ((ixL (kyC Kc p) (iAt Kc eg.toNat) : Nat) : Int) = cv at *
    have hnv := hnn cv
    have hsv := hsn cv
    clear hnn hsn
    generalize y_rgtC : @rgtC = x_rgtC at *
    generalize y_useC : @useC = x_useC at *
    generalize y_clsC : @clsC = x_clsC at *
    generalize y_iC : @iC = x_iC at *
    generalize y_bC : @bC = x_bC at *
    generalize y_nI : @nI = x_nI at *
    generalize y_eC : @eC = x_eC at *
    generalize y_nE : @nE = x_nE at *
    generalize y_mC : @mC = x_mC at *
    generalize y_nM : @nM = x_nM at *
    (repeat' first | (with_reducible refine ⟨(_, _, _, _, _, _, _, _, _, _), by cbv, ?_, ?_⟩) | ((first | with_reducible refine tr_cut (fun h => ?_) (fun h => ?_) | refine aw_condj (by cbv) (fun h => ?_) (fun h => ?_)) <;> (try simp (disch := omega) only [hj, std, cmpI, cmpB, satB, Bool.not_eq_true, Bool.not_eq_false, decide_eq_true_eq, decide_eq_false_iff_not, beq_iff_eq, bne_iff_ne, bne_eq_false_iff_eq, beq_eq_false_iff_ne, ne_eq, reduceCtorEq, not_true_eq_false, not_false_eq_true, pl0, if_true, cmpS_eq, cmpS_neq, Bool.not_eq_eq_eq_not, Bool.not_true, Bool.not_false, Bool.not_eq_true', g1, u0, u1, uU1, kK1, hhas, ite0, Int.ofNat_eq_natCast, add64, sub64] at h) <;> (try (exfalso; omega))) | (with_reducible refine tr_alt (fun h => ?_) ?_ <;> (try (exfalso; omega))) | (with_reducible first | refine tr_ob ?_ ?_ | refine tr_done ?_) | (refine aw_tr hj tok (bookMk x_rgtC x_useC x_clsC) (by cbv) ?_) | (refine aw_seq fun K hK => ?_) | (refine aw_tr1 hj tok (bookMk x_rgtC x_useC x_clsC) (by cbv) ?_) | (refine aw_skip ?_) | (refine aw_block ?_) | (refine aw_exit ?_) | (refine aw_ret ⟨.inr rfl, ret_okj hj (by cbv) ?_ ?_⟩) | (refine aw_ret ?_) | (with_reducible first | refine th_n ?_ | refine th_r ?_ | refine th_x ?_ | refine blk_n ?_ | refine blk_r ?_ | refine blk_x ?_ | refine blk_y rfl ?_) | (refine ⟨.inr rfl, ret_okj hj (by cbv) ?_ ?_⟩) | (refine ⟨.inl rfl, ret_okj hj (by cbv) ?_ ?_⟩) | (with_reducible first | refine ⟨(_, _, _, _, _, _), by cbv, ?_, ?_⟩ | refine ⟨_, by cbv, ?_, ?_⟩) | (with_reducible apply_assumption -symm -exfalso only [*]))
    all_goals ((try subst y_rgtC); (try subst y_useC); (try subst y_clsC); (try subst y_iC); (try subst y_bC); (try subst y_nI); (try subst y_eC); (try subst y_nE); (try subst y_mC); (try subst y_nM))
    all_goals (try (repeat' first | with_reducible exact obl0 | (with_reducible refine obl1 ?_ ?_)))
    all_goals (try first | with_reducible exact True.intro | ((first | refine ob_le hj ?_ | refine ob_lei hj ?_ | refine ob_inb hj ?_ | refine ob_pos hj ?_ | refine ob_ne0 hj ?_ | refine ob_eqb hj ?_); (first | rfl | first | omega | (simp only [hj, std]; split <;> omega) | (simp (disch := omega) only [hj, std, cmpI, cmpB, satB, add64, sub64, ite0, pl0, pl2, pl3, sb0, if_true, if_false, eq_self, l1, lU, hK, lp, les, hbc, u1] <;> omega) | (simp (disch := omega) [hj, std, cmpI, cmpB, satB, add64, sub64, ite0, pl0, pl2, pl3, sb0, if_true, if_false, eq_self, l1, lU, hK, lp, les, hbc, u1] <;> omega))) | ((refine ob_ok hj ?_; simp only [hj, std, ite0, u1, kK1, hget]; first | exact ⟨_, d0⟩ | exact ⟨_, d1⟩ | exact oU1 | exact oK1 | exact ok2 _)) | ((simp (disch := omega) only [hj, std, add64, ite0, u0, u1, kK1, hget, giv, hsv, Int.ofNat_eq_natCast]; first | omega | exact ⟨by trivial, by trivial, by trivial, by trivial, by omega, by omega, p, _, rfl, rfl, hMp, hQ, hnv, rfl, by (rw [List.length_append]; simp; omega), hst.symm, hqp⟩)))
  · have hsA : mkStep U Kc (p, es) (et, eg) = (p ++ [eg], es ++ [(et, (p.length : Int))]) := hsA
    rw [hsA] at hst
    have hhas : mhasC gm2.ks (.int .i64 (iAt Kc eg.toNat)) = false := by rw [hMp.has keqA_i64]; exact hin
    obtain ⟨w0, hget0, _⟩ := hMp.got keqA_i64 (iAt Kc eg.toNat)
    have hQ3 := hQ2 hin
    have hp1 : p.length + 1 ≤ m.length := by have := hQ3.len; rw [List.length_append] at this; exact this
    have hM2 := hMp.add keqA_i64 hin (n := (nI p : Int)) (by rw [np]; simp [kyC])
    have hky : kyC Kc p ++ [iAt Kc eg.toNat] = kyC Kc (p ++ [eg]) := by simp [kyC]
    rw [hky] at hM2
    have hnv := hnn (nI p : Int)
    have hsv := hsn (nI p : Int)
    rw [← np] at hst
    have hqs9 := iC_snoc p eg
    have hpl9 : nI p + 1 = nI (p ++ [eg]) := by rw [nI_eq, nI_eq]; simp
    clear hnn hsn
    generalize y_rgtC : @rgtC = x_rgtC at *
    generalize y_useC : @useC = x_useC at *
    generalize y_clsC : @clsC = x_clsC at *
    generalize y_iC : @iC = x_iC at *
    generalize y_bC : @bC = x_bC at *
    generalize y_nI : @nI = x_nI at *
    generalize y_eC : @eC = x_eC at *
    generalize y_nE : @nE = x_nE at *
    generalize y_mC : @mC = x_mC at *
    generalize y_nM : @nM = x_nM at *
    (repeat' first | (with_reducible refine ⟨(_, _, _, _, _, _, _, _, _, _), by cbv, ?_, ?_⟩) | ((first | with_reducible refine tr_cut (fun h => ?_) (fun h => ?_) | refine aw_condj (by cbv) (fun h => ?_) (fun h => ?_)) <;> (try simp (disch := omega) only [hj, std, cmpI, cmpB, satB, Bool.not_eq_true, Bool.not_eq_false, decide_eq_true_eq, decide_eq_false_iff_not, beq_iff_eq, bne_iff_ne, bne_eq_false_iff_eq, beq_eq_false_iff_ne, ne_eq, reduceCtorEq, not_true_eq_false, not_false_eq_true, pl0, if_true, cmpS_eq, cmpS_neq, Bool.not_eq_eq_eq_not, Bool.not_true, Bool.not_false, Bool.not_eq_true', g1, u0, u1, uU1, kK1, hhas, ite0, Int.ofNat_eq_natCast, add64, sub64] at h) <;> (try (exfalso; omega))) | (with_reducible refine tr_alt (fun h => ?_) ?_ <;> (try (exfalso; omega))) | (with_reducible first | refine tr_ob ?_ ?_ | refine tr_done ?_) | (refine aw_tr hj tok (bookMk x_rgtC x_useC x_clsC) (by cbv) ?_) | (refine aw_seq fun K hK => ?_) | (refine aw_tr1 hj tok (bookMk x_rgtC x_useC x_clsC) (by cbv) ?_) | (refine aw_skip ?_) | (refine aw_block ?_) | (refine aw_exit ?_) | (refine aw_ret ⟨.inr rfl, ret_okj hj (by cbv) ?_ ?_⟩) | (refine aw_ret ?_) | (with_reducible first | refine th_n ?_ | refine th_r ?_ | refine th_x ?_ | refine blk_n ?_ | refine blk_r ?_ | refine blk_x ?_ | refine blk_y rfl ?_) | (refine ⟨.inr rfl, ret_okj hj (by cbv) ?_ ?_⟩) | (refine ⟨.inl rfl, ret_okj hj (by cbv) ?_ ?_⟩) | (with_reducible first | refine ⟨(_, _, _, _, _, _), by cbv, ?_, ?_⟩ | refine ⟨_, by cbv, ?_, ?_⟩) | (with_reducible apply_assumption -symm -exfalso only [*]))
    all_goals ((try subst y_rgtC); (try subst y_useC); (try subst y_clsC); (try subst y_iC); (try subst y_bC); (try subst y_nI); (try subst y_eC); (try subst y_nE); (try subst y_mC); (try subst y_nM))
    all_goals (try (repeat' first | with_reducible exact obl0 | with_reducible refine obl1 ?_ ?_))
    all_goals (try first | with_reducible exact True.intro | ((first | refine ob_le hj ?_ | refine ob_lei hj ?_ | refine ob_inb hj ?_ | refine ob_pos hj ?_ | refine ob_ne0 hj ?_ | refine ob_eqb hj ?_); (first | rfl | first | omega | (simp only [hj, std]; split <;> omega) | (simp (disch := omega) only [hj, std, cmpI, cmpB, satB, add64, sub64, ite0, pl0, pl2, pl3, sb0, if_true, if_false, eq_self, l1, lU, hK, lp, les, hbc, u1] <;> omega) | (simp (disch := omega) [hj, std, cmpI, cmpB, satB, add64, sub64, ite0, pl0, pl2, pl3, sb0, if_true, if_false, eq_self, l1, lU, hK, lp, les, hbc, u1] <;> omega))) | ((refine ob_ok hj ?_; simp only [hj, std, ite0, u1, kK1, hget0]; first | exact ⟨_, d0⟩ | exact ⟨_, d1⟩ | exact oU1 | exact oK1 | exact ok2 _)) | ((simp (disch := omega) only [hj, std, add64, ite0, u0, u1, kK1, hsv, hqs9, Int.ofNat_eq_natCast]; first | omega | exact ⟨by trivial, by trivial, by trivial, by trivial, by omega, by omega, p ++ [eg], _, hpl9, rfl, hM2, hQ3, hnv, rfl, by (rw [List.length_append]; simp; omega), hst.symm, by (rw [List.length_append]; omega)⟩)))
end Go.Proofs.YtcpcghnpoekhpaaDoor.A
