/- What the laws of this seat need, part 4. -/
import Derived.Test.YtipmpjphjhipjaaDoorMz3
import Derived.Test.YtipmpjphjhipjaaDoorProg
import Derived.Maps.Range
import Derived.Test.YtipmpjphjhipjaaDoorShelfAP
import Derived.Lib.ItoaNum
import Derived.Lib.AtoiAllCases
import Derived.Lib.IndexLaws
import Derived.Lib.DecodeN
import Derived.Laws.StructEq
import Derived.Test.YtipmpjphjhipjaaDoorRows
import Derived.LaidMore
import Derived.ProofKit
import Derived.OpenShut
import Derived.SevenTiedAt
import Derived.Lib.LaidTab
import Derived.MakeChecks
import Derived.Stop.LaidErr
/- The table of types. Written by wip/tools/tt.py. -/
namespace Go.Proofs.YtipmpjphjhipjaaDoor.A
open Go
def ti1 : TI := { desc := (Go.TypeDesc.func #[] #[] false), size := 1, bytes := 8, zero := .nilFunc, cells := [.raw] }
def ti2 : TI := { desc := (Go.TypeDesc.int Go.IntKind.i64), size := 1, bytes := 8, zero := .int .i64 0, cells := [.int .i64] }
def ti3 : TI := { desc := (Go.TypeDesc.int Go.IntKind.i64), size := 1, bytes := 8, zero := .int .i64 0, cells := [.int .i64] }
def ti4 : TI := { desc := Go.TypeDesc.bool, size := 1, bytes := 1, zero := .bool false, cells := [.bool] }
def ti5 : TI := { desc := (Go.TypeDesc.int Go.IntKind.u8), size := 1, bytes := 1, zero := .int .u8 0, cells := [.int .u8] }
def ti6 : TI := { desc := (Go.TypeDesc.int Go.IntKind.u8), size := 1, bytes := 1, zero := .int .u8 0, cells := [.int .u8] }
def ti7 : TI := { desc := (Go.TypeDesc.struct #[{ name := "x", type := 2, offset := 0, embedded := false, tag := "", pkgPath := "runtime", byteOffset := 0 }, { name := "y", type := 3, offset := 1, embedded := false, tag := "", pkgPath := "runtime", byteOffset := 8 }, { name := "signed", type := 4, offset := 2, embedded := false, tag := "", pkgPath := "runtime", byteOffset := 16 }, { name := "code", type := 6, offset := 3, embedded := false, tag := "", pkgPath := "runtime", byteOffset := 17 }]), size := 4, bytes := 24, zero := .agg #[.int .i64 0, .int .i64 0, .bool false, .int .u8 0], cells := [.int .i64, .int .i64, .bool, .int .u8] }
def ti8 : TI := { desc := (Go.TypeDesc.struct #[{ name := "x", type := 2, offset := 0, embedded := false, tag := "", pkgPath := "runtime", byteOffset := 0 }, { name := "y", type := 3, offset := 1, embedded := false, tag := "", pkgPath := "runtime", byteOffset := 8 }, { name := "signed", type := 4, offset := 2, embedded := false, tag := "", pkgPath := "runtime", byteOffset := 16 }, { name := "code", type := 6, offset := 3, embedded := false, tag := "", pkgPath := "runtime", byteOffset := 17 }]), size := 4, bytes := 24, zero := .agg #[.int .i64 0, .int .i64 0, .bool false, .int .u8 0], cells := [.int .i64, .int .i64, .bool, .int .u8] }
def ti9 : TI := { desc := Go.TypeDesc.string, size := 1, bytes := 16, zero := .string ByteArray.empty, cells := [.str] }
def ti10 : TI := { desc := Go.TypeDesc.string, size := 1, bytes := 16, zero := .string ByteArray.empty, cells := [.str] }
def ti11 : TI := { desc := Go.TypeDesc.string, size := 1, bytes := 16, zero := .string ByteArray.empty, cells := [.str] }
def ti12 : TI := { desc := (Go.TypeDesc.int Go.IntKind.u64), size := 1, bytes := 8, zero := .int .u64 0, cells := [.int .u64] }
def ti13 : TI := { desc := (Go.TypeDesc.struct #[{ name := "msg", type := 9, offset := 0, embedded := false, tag := "", pkgPath := "runtime", byteOffset := 0 }, { name := "addr", type := 12, offset := 1, embedded := false, tag := "", pkgPath := "runtime", byteOffset := 16 }]), size := 2, bytes := 24, zero := .agg #[.string ByteArray.empty, .int .u64 0], cells := [.str, .int .u64] }
def ti14 : TI := { desc := (Go.TypeDesc.struct #[{ name := "msg", type := 9, offset := 0, embedded := false, tag := "", pkgPath := "runtime", byteOffset := 0 }, { name := "addr", type := 12, offset := 1, embedded := false, tag := "", pkgPath := "runtime", byteOffset := 16 }]), size := 2, bytes := 24, zero := .agg #[.string ByteArray.empty, .int .u64 0], cells := [.str, .int .u64] }
def ti15 : TI := { desc := (Go.TypeDesc.pointer 97), size := 1, bytes := 8, zero := .pointer none, cells := [.raw] }
def ti16 : TI := { desc := (Go.TypeDesc.pointer 100), size := 1, bytes := 8, zero := .pointer none, cells := [.raw] }
def ti17 : TI := { desc := (Go.TypeDesc.pointer 108), size := 1, bytes := 8, zero := .pointer none, cells := [.raw] }
def ti18 : TI := { desc := (Go.TypeDesc.struct #[{ name := "typ", type := 17, offset := 0, embedded := false, tag := "", pkgPath := "internal/runtime/maps", byteOffset := 0 }]), size := 1, bytes := 8, zero := .agg #[.pointer none], cells := [.raw] }
def ti19 : TI := { desc := (Go.TypeDesc.struct #[{ name := "typ", type := 17, offset := 0, embedded := false, tag := "", pkgPath := "internal/runtime/maps", byteOffset := 0 }]), size := 1, bytes := 8, zero := .agg #[.pointer none], cells := [.raw] }
def ti20 : TI := { desc := (Go.TypeDesc.interface #[]), size := 1, bytes := 16, zero := .nilIface, cells := [.raw] }
def ti21 : TI := { desc := (Go.TypeDesc.int Go.IntKind.i32), size := 1, bytes := 4, zero := .int .i32 0, cells := [.int .i32] }
def ti22 : TI := { desc := (Go.TypeDesc.struct #[{ name := "Kind", type := 3, offset := 0, embedded := false, tag := "", pkgPath := "", byteOffset := 0 }, { name := "K", type := 3, offset := 1, embedded := false, tag := "", pkgPath := "", byteOffset := 8 }, { name := "N", type := 3, offset := 2, embedded := false, tag := "", pkgPath := "", byteOffset := 16 }, { name := "Text", type := 9, offset := 3, embedded := false, tag := "", pkgPath := "", byteOffset := 24 }]), size := 4, bytes := 40, zero := .agg #[.int .i64 0, .int .i64 0, .int .i64 0, .string ByteArray.empty], cells := [.int .i64, .int .i64, .int .i64, .str] }
def ti23 : TI := { desc := (Go.TypeDesc.struct #[{ name := "Kind", type := 3, offset := 0, embedded := false, tag := "", pkgPath := "", byteOffset := 0 }, { name := "K", type := 3, offset := 1, embedded := false, tag := "", pkgPath := "", byteOffset := 8 }, { name := "N", type := 3, offset := 2, embedded := false, tag := "", pkgPath := "", byteOffset := 16 }, { name := "Text", type := 9, offset := 3, embedded := false, tag := "", pkgPath := "", byteOffset := 24 }]), size := 4, bytes := 40, zero := .agg #[.int .i64 0, .int .i64 0, .int .i64 0, .string ByteArray.empty], cells := [.int .i64, .int .i64, .int .i64, .str] }
def ti24 : TI := { desc := (Go.TypeDesc.func #[] #[4] false), size := 1, bytes := 8, zero := .nilFunc, cells := [.raw] }
def ti26 : TI := { desc := (Go.TypeDesc.func #[23] #[9, 4] false), size := 1, bytes := 8, zero := .nilFunc, cells := [.raw] }
def ti27 : TI := { desc := (Go.TypeDesc.func #[28] #[9, 4] false), size := 1, bytes := 8, zero := .nilFunc, cells := [.raw] }
def ti28 : TI := { desc := (Go.TypeDesc.struct #[{ name := "Kind", type := 3, offset := 0, embedded := false, tag := "", pkgPath := "", byteOffset := 0 }, { name := "K", type := 3, offset := 1, embedded := false, tag := "", pkgPath := "", byteOffset := 8 }, { name := "N", type := 3, offset := 2, embedded := false, tag := "", pkgPath := "", byteOffset := 16 }, { name := "Text", type := 9, offset := 3, embedded := false, tag := "", pkgPath := "", byteOffset := 24 }]), size := 4, bytes := 40, zero := .agg #[.int .i64 0, .int .i64 0, .int .i64 0, .string ByteArray.empty], cells := [.int .i64, .int .i64, .int .i64, .str] }
def ti29 : TI := { desc := (Go.TypeDesc.slice 9), size := 1, bytes := 24, zero := .slice none 0 0, cells := [.sl] }
def ti30 : TI := { desc := (Go.TypeDesc.func #[] #[29] false), size := 1, bytes := 8, zero := .nilFunc, cells := [.raw] }
def ti31 : TI := { desc := (Go.TypeDesc.func #[3] #[9] false), size := 1, bytes := 8, zero := .nilFunc, cells := [.raw] }
def ti33 : TI := { desc := (Go.TypeDesc.func #[9] #[23, 4] false), size := 1, bytes := 8, zero := .nilFunc, cells := [.raw] }
def ti34 : TI := { desc := (Go.TypeDesc.func #[23] #[4] false), size := 1, bytes := 8, zero := .nilFunc, cells := [.raw] }
def ti36 : TI := { desc := (Go.TypeDesc.func #[9] #[28, 4] false), size := 1, bytes := 8, zero := .nilFunc, cells := [.raw] }
def ti37 : TI := { desc := (Go.TypeDesc.func #[9] #[4] false), size := 1, bytes := 8, zero := .nilFunc, cells := [.raw] }
def ti39 : TI := { desc := (Go.TypeDesc.func #[3] #[4, 4, 4] false), size := 1, bytes := 8, zero := .nilFunc, cells := [.raw] }
def ti40 : TI := { desc := (Go.TypeDesc.func #[3, 4] #[4] false), size := 1, bytes := 8, zero := .nilFunc, cells := [.raw] }
def ti41 : TI := { desc := (Go.TypeDesc.func #[3] #[3] false), size := 1, bytes := 8, zero := .nilFunc, cells := [.raw] }
def ti42 : TI := { desc := (Go.TypeDesc.map 9 3), size := 1, bytes := 8, zero := .map none, cells := [.raw] }
def ti43 : TI := { desc := (Go.TypeDesc.func #[] #[42] false), size := 1, bytes := 8, zero := .nilFunc, cells := [.raw] }
def ti45 : TI := { desc := (Go.TypeDesc.func #[9, 9] #[9, 9, 4] false), size := 1, bytes := 8, zero := .nilFunc, cells := [.raw] }
def ti46 : TI := { desc := (Go.TypeDesc.interface #[("Error", 95)]), size := 1, bytes := 16, zero := .nilIface, cells := [.raw] }
def ti47 : TI := { desc := (Go.TypeDesc.interface #[("Error", 95)]), size := 1, bytes := 16, zero := .nilIface, cells := [.raw] }
def ti49 : TI := { desc := (Go.TypeDesc.func #[9] #[3, 47] false), size := 1, bytes := 8, zero := .nilFunc, cells := [.raw] }
def ti50 : TI := { desc := (Go.TypeDesc.func #[9] #[9, 9, 4] false), size := 1, bytes := 8, zero := .nilFunc, cells := [.raw] }
def ti51 : TI := { desc := (Go.TypeDesc.func #[9] #[3] false), size := 1, bytes := 8, zero := .nilFunc, cells := [.raw] }
def ti52 : TI := { desc := (Go.TypeDesc.func #[21] #[4] false), size := 1, bytes := 8, zero := .nilFunc, cells := [.raw] }
def ti53 : TI := { desc := (Go.TypeDesc.func #[9, 52] #[3] false), size := 1, bytes := 8, zero := .nilFunc, cells := [.raw] }
def ti54 : TI := { desc := (Go.TypeDesc.func #[9, 9, 3, 3, 47] #[47] false), size := 1, bytes := 8, zero := .nilFunc, cells := [.raw] }
def ti55 : TI := { desc := (Go.TypeDesc.func #[9, 52, 4] #[3] false), size := 1, bytes := 8, zero := .nilFunc, cells := [.raw] }
def ti56 : TI := { desc := (Go.TypeDesc.func #[2, 3] #[9] false), size := 1, bytes := 8, zero := .nilFunc, cells := [.raw] }
def ti57 : TI := { desc := (Go.TypeDesc.func #[9, 9] #[3] false), size := 1, bytes := 8, zero := .nilFunc, cells := [.raw] }
def ti58 : TI := { desc := (Go.TypeDesc.int Go.IntKind.i64), size := 1, bytes := 8, zero := .int .i64 0, cells := [.int .i64] }
def ti59 : TI := { desc := (Go.TypeDesc.slice 5), size := 1, bytes := 24, zero := .slice none 0 0, cells := [.sl] }
def ti61 : TI := { desc := (Go.TypeDesc.func #[9, 3, 3] #[2, 47] false), size := 1, bytes := 8, zero := .nilFunc, cells := [.raw] }
def ti62 : TI := { desc := (Go.TypeDesc.pointer 77), size := 1, bytes := 8, zero := .pointer none, cells := [.raw] }
def ti63 : TI := { desc := (Go.TypeDesc.func #[9, 9] #[62] false), size := 1, bytes := 8, zero := .nilFunc, cells := [.raw] }
def ti64 : TI := { desc := (Go.TypeDesc.func #[9, 9, 3] #[62] false), size := 1, bytes := 8, zero := .nilFunc, cells := [.raw] }
def ti65 : TI := { desc := (Go.TypeDesc.array 24 5), size := 24, bytes := 24, zero := .agg #[.int .u8 0, .int .u8 0, .int .u8 0, .int .u8 0, .int .u8 0, .int .u8 0, .int .u8 0, .int .u8 0, .int .u8 0, .int .u8 0, .int .u8 0, .int .u8 0, .int .u8 0, .int .u8 0, .int .u8 0, .int .u8 0, .int .u8 0, .int .u8 0, .int .u8 0, .int .u8 0, .int .u8 0, .int .u8 0, .int .u8 0, .int .u8 0], cells := [.int .u8, .int .u8, .int .u8, .int .u8, .int .u8, .int .u8, .int .u8, .int .u8, .int .u8, .int .u8, .int .u8, .int .u8, .int .u8, .int .u8, .int .u8, .int .u8, .int .u8, .int .u8, .int .u8, .int .u8, .int .u8, .int .u8, .int .u8, .int .u8] }
def ti66 : TI := { desc := (Go.TypeDesc.int Go.IntKind.u64), size := 1, bytes := 8, zero := .int .u64 0, cells := [.int .u64] }
def ti67 : TI := { desc := (Go.TypeDesc.func #[66] #[3] false), size := 1, bytes := 8, zero := .nilFunc, cells := [.raw] }
def ti68 : TI := { desc := (Go.TypeDesc.func #[59, 66] #[] false), size := 1, bytes := 8, zero := .nilFunc, cells := [.raw] }
def ti70 : TI := { desc := (Go.TypeDesc.func #[59, 66, 3, 4, 4] #[59, 9] false), size := 1, bytes := 8, zero := .nilFunc, cells := [.raw] }
def ti71 : TI := { desc := (Go.TypeDesc.func #[9, 5] #[3] false), size := 1, bytes := 8, zero := .nilFunc, cells := [.raw] }
def ti72 : TI := { desc := (Go.TypeDesc.int Go.IntKind.u64), size := 1, bytes := 8, zero := .int .u64 0, cells := [.int .u64] }
def ti74 : TI := { desc := (Go.TypeDesc.func #[9, 3, 3] #[66, 47] false), size := 1, bytes := 8, zero := .nilFunc, cells := [.raw] }
def ti75 : TI := { desc := (Go.TypeDesc.func #[9] #[9] false), size := 1, bytes := 8, zero := .nilFunc, cells := [.raw] }
def ti76 : TI := { desc := (Go.TypeDesc.struct #[{ name := "Func", type := 9, offset := 0, embedded := false, tag := "", pkgPath := "", byteOffset := 0 }, { name := "Num", type := 9, offset := 1, embedded := false, tag := "", pkgPath := "", byteOffset := 16 }, { name := "Err", type := 47, offset := 2, embedded := false, tag := "", pkgPath := "", byteOffset := 32 }]), size := 3, bytes := 48, zero := .agg #[.string ByteArray.empty, .string ByteArray.empty, .nilIface], cells := [.str, .str, .raw] }
def ti77 : TI := { desc := (Go.TypeDesc.struct #[{ name := "Func", type := 9, offset := 0, embedded := false, tag := "", pkgPath := "", byteOffset := 0 }, { name := "Num", type := 9, offset := 1, embedded := false, tag := "", pkgPath := "", byteOffset := 16 }, { name := "Err", type := 47, offset := 2, embedded := false, tag := "", pkgPath := "", byteOffset := 32 }]), size := 3, bytes := 48, zero := .agg #[.string ByteArray.empty, .string ByteArray.empty, .nilIface], cells := [.str, .str, .raw] }
def ti78 : TI := { desc := (Go.TypeDesc.func #[9] #[47] false), size := 1, bytes := 8, zero := .nilFunc, cells := [.raw] }
def ti79 : TI := { desc := (Go.TypeDesc.func #[4] #[3] false), size := 1, bytes := 8, zero := .nilFunc, cells := [.raw] }
def ti80 : TI := { desc := (Go.TypeDesc.array 20 66), size := 20, bytes := 160, zero := .agg #[.int .u64 0, .int .u64 0, .int .u64 0, .int .u64 0, .int .u64 0, .int .u64 0, .int .u64 0, .int .u64 0, .int .u64 0, .int .u64 0, .int .u64 0, .int .u64 0, .int .u64 0, .int .u64 0, .int .u64 0, .int .u64 0, .int .u64 0, .int .u64 0, .int .u64 0, .int .u64 0], cells := [.int .u64, .int .u64, .int .u64, .int .u64, .int .u64, .int .u64, .int .u64, .int .u64, .int .u64, .int .u64, .int .u64, .int .u64, .int .u64, .int .u64, .int .u64, .int .u64, .int .u64, .int .u64, .int .u64, .int .u64] }
def ti81 : TI := { desc := (Go.TypeDesc.int Go.IntKind.u32), size := 1, bytes := 4, zero := .int .u32 0, cells := [.int .u32] }
def ti82 : TI := { desc := (Go.TypeDesc.array 65 5), size := 65, bytes := 65, zero := .agg #[.int .u8 0, .int .u8 0, .int .u8 0, .int .u8 0, .int .u8 0, .int .u8 0, .int .u8 0, .int .u8 0, .int .u8 0, .int .u8 0, .int .u8 0, .int .u8 0, .int .u8 0, .int .u8 0, .int .u8 0, .int .u8 0, .int .u8 0, .int .u8 0, .int .u8 0, .int .u8 0, .int .u8 0, .int .u8 0, .int .u8 0, .int .u8 0, .int .u8 0, .int .u8 0, .int .u8 0, .int .u8 0, .int .u8 0, .int .u8 0, .int .u8 0, .int .u8 0, .int .u8 0, .int .u8 0, .int .u8 0, .int .u8 0, .int .u8 0, .int .u8 0, .int .u8 0, .int .u8 0, .int .u8 0, .int .u8 0, .int .u8 0, .int .u8 0, .int .u8 0, .int .u8 0, .int .u8 0, .int .u8 0, .int .u8 0, .int .u8 0, .int .u8 0, .int .u8 0, .int .u8 0, .int .u8 0, .int .u8 0, .int .u8 0, .int .u8 0, .int .u8 0, .int .u8 0, .int .u8 0, .int .u8 0, .int .u8 0, .int .u8 0, .int .u8 0, .int .u8 0], cells := [.int .u8, .int .u8, .int .u8, .int .u8, .int .u8, .int .u8, .int .u8, .int .u8, .int .u8, .int .u8, .int .u8, .int .u8, .int .u8, .int .u8, .int .u8, .int .u8, .int .u8, .int .u8, .int .u8, .int .u8, .int .u8, .int .u8, .int .u8, .int .u8, .int .u8, .int .u8, .int .u8, .int .u8, .int .u8, .int .u8, .int .u8, .int .u8, .int .u8, .int .u8, .int .u8, .int .u8, .int .u8, .int .u8, .int .u8, .int .u8, .int .u8, .int .u8, .int .u8, .int .u8, .int .u8, .int .u8, .int .u8, .int .u8, .int .u8, .int .u8, .int .u8, .int .u8, .int .u8, .int .u8, .int .u8, .int .u8, .int .u8, .int .u8, .int .u8, .int .u8, .int .u8, .int .u8, .int .u8, .int .u8, .int .u8] }
def ti83 : TI := { desc := (Go.TypeDesc.func #[3] #[4] false), size := 1, bytes := 8, zero := .nilFunc, cells := [.raw] }
def ti84 : TI := { desc := (Go.TypeDesc.func #[72] #[3] false), size := 1, bytes := 8, zero := .nilFunc, cells := [.raw] }
def ti86 : TI := { desc := (Go.TypeDesc.func #[9] #[81, 81] false), size := 1, bytes := 8, zero := .nilFunc, cells := [.raw] }
def ti87 : TI := { desc := (Go.TypeDesc.func #[5] #[5] false), size := 1, bytes := 8, zero := .nilFunc, cells := [.raw] }
def ti88 : TI := { desc := (Go.TypeDesc.pointer 5), size := 1, bytes := 8, zero := .pointer none, cells := [.raw] }
def ti89 : TI := { desc := (Go.TypeDesc.pointer 91), size := 1, bytes := 8, zero := .pointer none, cells := [.raw] }
def ti90 : TI := { desc := (Go.TypeDesc.struct #[{ name := "s", type := 9, offset := 0, embedded := false, tag := "", pkgPath := "errors", byteOffset := 0 }]), size := 1, bytes := 16, zero := .agg #[.string ByteArray.empty], cells := [.str] }
def ti91 : TI := { desc := (Go.TypeDesc.struct #[{ name := "s", type := 9, offset := 0, embedded := false, tag := "", pkgPath := "errors", byteOffset := 0 }]), size := 1, bytes := 16, zero := .agg #[.string ByteArray.empty], cells := [.str] }
def ti92 : TI := { desc := (Go.TypeDesc.func #[81] #[3] false), size := 1, bytes := 8, zero := .nilFunc, cells := [.raw] }
def ti93 : TI := { desc := (Go.TypeDesc.array 32 5), size := 32, bytes := 32, zero := .agg #[.int .u8 0, .int .u8 0, .int .u8 0, .int .u8 0, .int .u8 0, .int .u8 0, .int .u8 0, .int .u8 0, .int .u8 0, .int .u8 0, .int .u8 0, .int .u8 0, .int .u8 0, .int .u8 0, .int .u8 0, .int .u8 0, .int .u8 0, .int .u8 0, .int .u8 0, .int .u8 0, .int .u8 0, .int .u8 0, .int .u8 0, .int .u8 0, .int .u8 0, .int .u8 0, .int .u8 0, .int .u8 0, .int .u8 0, .int .u8 0, .int .u8 0, .int .u8 0], cells := [.int .u8, .int .u8, .int .u8, .int .u8, .int .u8, .int .u8, .int .u8, .int .u8, .int .u8, .int .u8, .int .u8, .int .u8, .int .u8, .int .u8, .int .u8, .int .u8, .int .u8, .int .u8, .int .u8, .int .u8, .int .u8, .int .u8, .int .u8, .int .u8, .int .u8, .int .u8, .int .u8, .int .u8, .int .u8, .int .u8, .int .u8, .int .u8] }
def ti94 : TI := { desc := (Go.TypeDesc.array 64 5), size := 64, bytes := 64, zero := .agg #[.int .u8 0, .int .u8 0, .int .u8 0, .int .u8 0, .int .u8 0, .int .u8 0, .int .u8 0, .int .u8 0, .int .u8 0, .int .u8 0, .int .u8 0, .int .u8 0, .int .u8 0, .int .u8 0, .int .u8 0, .int .u8 0, .int .u8 0, .int .u8 0, .int .u8 0, .int .u8 0, .int .u8 0, .int .u8 0, .int .u8 0, .int .u8 0, .int .u8 0, .int .u8 0, .int .u8 0, .int .u8 0, .int .u8 0, .int .u8 0, .int .u8 0, .int .u8 0, .int .u8 0, .int .u8 0, .int .u8 0, .int .u8 0, .int .u8 0, .int .u8 0, .int .u8 0, .int .u8 0, .int .u8 0, .int .u8 0, .int .u8 0, .int .u8 0, .int .u8 0, .int .u8 0, .int .u8 0, .int .u8 0, .int .u8 0, .int .u8 0, .int .u8 0, .int .u8 0, .int .u8 0, .int .u8 0, .int .u8 0, .int .u8 0, .int .u8 0, .int .u8 0, .int .u8 0, .int .u8 0, .int .u8 0, .int .u8 0, .int .u8 0, .int .u8 0], cells := [.int .u8, .int .u8, .int .u8, .int .u8, .int .u8, .int .u8, .int .u8, .int .u8, .int .u8, .int .u8, .int .u8, .int .u8, .int .u8, .int .u8, .int .u8, .int .u8, .int .u8, .int .u8, .int .u8, .int .u8, .int .u8, .int .u8, .int .u8, .int .u8, .int .u8, .int .u8, .int .u8, .int .u8, .int .u8, .int .u8, .int .u8, .int .u8, .int .u8, .int .u8, .int .u8, .int .u8, .int .u8, .int .u8, .int .u8, .int .u8, .int .u8, .int .u8, .int .u8, .int .u8, .int .u8, .int .u8, .int .u8, .int .u8, .int .u8, .int .u8, .int .u8, .int .u8, .int .u8, .int .u8, .int .u8, .int .u8, .int .u8, .int .u8, .int .u8, .int .u8, .int .u8, .int .u8, .int .u8, .int .u8] }
def ti95 : TI := { desc := (Go.TypeDesc.func #[] #[9] false), size := 1, bytes := 8, zero := .nilFunc, cells := [.raw] }
def ti96 : TI := { desc := (Go.TypeDesc.struct #[{ name := "_interface", type := 17, offset := 0, embedded := false, tag := "", pkgPath := "runtime", byteOffset := 0 }, { name := "concrete", type := 17, offset := 1, embedded := false, tag := "", pkgPath := "runtime", byteOffset := 8 }, { name := "asserted", type := 17, offset := 2, embedded := false, tag := "", pkgPath := "runtime", byteOffset := 16 }, { name := "missingMethod", type := 9, offset := 3, embedded := false, tag := "", pkgPath := "runtime", byteOffset := 24 }]), size := 4, bytes := 40, zero := .agg #[.pointer none, .pointer none, .pointer none, .string ByteArray.empty], cells := [.raw, .raw, .raw, .str] }
def ti97 : TI := { desc := (Go.TypeDesc.struct #[{ name := "_interface", type := 17, offset := 0, embedded := false, tag := "", pkgPath := "runtime", byteOffset := 0 }, { name := "concrete", type := 17, offset := 1, embedded := false, tag := "", pkgPath := "runtime", byteOffset := 8 }, { name := "asserted", type := 17, offset := 2, embedded := false, tag := "", pkgPath := "runtime", byteOffset := 16 }, { name := "missingMethod", type := 9, offset := 3, embedded := false, tag := "", pkgPath := "runtime", byteOffset := 24 }]), size := 4, bytes := 40, zero := .agg #[.pointer none, .pointer none, .pointer none, .string ByteArray.empty], cells := [.raw, .raw, .raw, .str] }
def ti98 : TI := { desc := (Go.TypeDesc.array 0 16), size := 0, bytes := 0, zero := .agg #[], cells := [] }
def ti99 : TI := { desc := (Go.TypeDesc.struct #[{ name := "_", type := 98, offset := 0, embedded := false, tag := "", pkgPath := "runtime", byteOffset := 0 }]), size := 0, bytes := 0, zero := .agg #[], cells := [] }
def ti100 : TI := { desc := (Go.TypeDesc.struct #[{ name := "_", type := 98, offset := 0, embedded := false, tag := "", pkgPath := "runtime", byteOffset := 0 }]), size := 0, bytes := 0, zero := .agg #[], cells := [] }
def ti101 : TI := { desc := (Go.TypeDesc.func #[] #[3] false), size := 1, bytes := 8, zero := .nilFunc, cells := [.raw] }
def ti102 : TI := { desc := (Go.TypeDesc.int Go.IntKind.u8), size := 1, bytes := 1, zero := .int .u8 0, cells := [.int .u8] }
def ti103 : TI := { desc := (Go.TypeDesc.int Go.IntKind.u8), size := 1, bytes := 1, zero := .int .u8 0, cells := [.int .u8] }
def ti104 : TI := { desc := (Go.TypeDesc.func #[109, 109] #[4] false), size := 1, bytes := 8, zero := .nilFunc, cells := [.raw] }
def ti105 : TI := { desc := (Go.TypeDesc.int Go.IntKind.i32), size := 1, bytes := 4, zero := .int .i32 0, cells := [.int .i32] }
def ti106 : TI := { desc := (Go.TypeDesc.int Go.IntKind.i32), size := 1, bytes := 4, zero := .int .i32 0, cells := [.int .i32] }
def ti107 : TI := { desc := (Go.TypeDesc.struct #[{ name := "Size_", type := 12, offset := 0, embedded := false, tag := "", pkgPath := "", byteOffset := 0 }, { name := "PtrBytes", type := 12, offset := 1, embedded := false, tag := "", pkgPath := "", byteOffset := 8 }, { name := "Hash", type := 81, offset := 2, embedded := false, tag := "", pkgPath := "", byteOffset := 16 }, { name := "TFlag", type := 102, offset := 3, embedded := false, tag := "", pkgPath := "", byteOffset := 20 }, { name := "Align_", type := 5, offset := 4, embedded := false, tag := "", pkgPath := "", byteOffset := 21 }, { name := "FieldAlign_", type := 5, offset := 5, embedded := false, tag := "", pkgPath := "", byteOffset := 22 }, { name := "Kind_", type := 103, offset := 6, embedded := false, tag := "", pkgPath := "", byteOffset := 23 }, { name := "Equal", type := 104, offset := 7, embedded := false, tag := "", pkgPath := "", byteOffset := 24 }, { name := "GCData", type := 88, offset := 8, embedded := false, tag := "", pkgPath := "", byteOffset := 32 }, { name := "Str", type := 105, offset := 9, embedded := false, tag := "", pkgPath := "", byteOffset := 40 }, { name := "PtrToThis", type := 106, offset := 10, embedded := false, tag := "", pkgPath := "", byteOffset := 44 }]), size := 11, bytes := 48, zero := .agg #[.int .u64 0, .int .u64 0, .int .u32 0, .int .u8 0, .int .u8 0, .int .u8 0, .int .u8 0, .nilFunc, .pointer none, .int .i32 0, .int .i32 0], cells := [.int .u64, .int .u64, .int .u32, .int .u8, .int .u8, .int .u8, .int .u8, .raw, .raw, .int .i32, .int .i32] }
def ti108 : TI := { desc := (Go.TypeDesc.struct #[{ name := "Size_", type := 12, offset := 0, embedded := false, tag := "", pkgPath := "", byteOffset := 0 }, { name := "PtrBytes", type := 12, offset := 1, embedded := false, tag := "", pkgPath := "", byteOffset := 8 }, { name := "Hash", type := 81, offset := 2, embedded := false, tag := "", pkgPath := "", byteOffset := 16 }, { name := "TFlag", type := 102, offset := 3, embedded := false, tag := "", pkgPath := "", byteOffset := 20 }, { name := "Align_", type := 5, offset := 4, embedded := false, tag := "", pkgPath := "", byteOffset := 21 }, { name := "FieldAlign_", type := 5, offset := 5, embedded := false, tag := "", pkgPath := "", byteOffset := 22 }, { name := "Kind_", type := 103, offset := 6, embedded := false, tag := "", pkgPath := "", byteOffset := 23 }, { name := "Equal", type := 104, offset := 7, embedded := false, tag := "", pkgPath := "", byteOffset := 24 }, { name := "GCData", type := 88, offset := 8, embedded := false, tag := "", pkgPath := "", byteOffset := 32 }, { name := "Str", type := 105, offset := 9, embedded := false, tag := "", pkgPath := "", byteOffset := 40 }, { name := "PtrToThis", type := 106, offset := 10, embedded := false, tag := "", pkgPath := "", byteOffset := 44 }]), size := 11, bytes := 48, zero := .agg #[.int .u64 0, .int .u64 0, .int .u32 0, .int .u8 0, .int .u8 0, .int .u8 0, .int .u8 0, .nilFunc, .pointer none, .int .i32 0, .int .i32 0], cells := [.int .u64, .int .u64, .int .u32, .int .u8, .int .u8, .int .u8, .int .u8, .raw, .raw, .int .i32, .int .i32] }
def ti109 : TI := { desc := Go.TypeDesc.unsafePointer, size := 1, bytes := 8, zero := .pointer none, cells := [.raw] }
def T_0 : TT
 | 1 => some ti1
 | 2 => some ti2
 | 3 => some ti3
 | 4 => some ti4
 | 5 => some ti5
 | 6 => some ti6
 | 7 => some ti7
 | 8 => some ti8
 | 9 => some ti9
 | 10 => some ti10
 | 11 => some ti11
 | 12 => some ti12
 | 13 => some ti13
 | 14 => some ti14
 | 15 => some ti15
 | 16 => some ti16
 | 17 => some ti17
 | 18 => some ti18
 | 19 => some ti19
 | 20 => some ti20
 | 21 => some ti21
 | 22 => some ti22
 | 23 => some ti23
 | 24 => some ti24
 | _ => none
def T_1 : TT
 | 26 => some ti26
 | 27 => some ti27
 | 28 => some ti28
 | 29 => some ti29
 | 30 => some ti30
 | 31 => some ti31
 | 33 => some ti33
 | 34 => some ti34
 | 36 => some ti36
 | 37 => some ti37
 | 39 => some ti39
 | 40 => some ti40
 | 41 => some ti41
 | 42 => some ti42
 | 43 => some ti43
 | 45 => some ti45
 | 46 => some ti46
 | 47 => some ti47
 | 49 => some ti49
 | 50 => some ti50
 | 51 => some ti51
 | 52 => some ti52
 | 53 => some ti53
 | 54 => some ti54
 | _ => none
def T_2 : TT
 | 55 => some ti55
 | 56 => some ti56
 | 57 => some ti57
 | 58 => some ti58
 | 59 => some ti59
 | 61 => some ti61
 | 62 => some ti62
 | 63 => some ti63
 | 64 => some ti64
 | 65 => some ti65
 | 66 => some ti66
 | 67 => some ti67
 | 68 => some ti68
 | 70 => some ti70
 | 71 => some ti71
 | 72 => some ti72
 | 74 => some ti74
 | 75 => some ti75
 | 76 => some ti76
 | 77 => some ti77
 | 78 => some ti78
 | 79 => some ti79
 | 80 => some ti80
 | 81 => some ti81
 | _ => none
def T_3 : TT
 | 82 => some ti82
 | 83 => some ti83
 | 84 => some ti84
 | 86 => some ti86
 | 87 => some ti87
 | 88 => some ti88
 | 89 => some ti89
 | 90 => some ti90
 | 91 => some ti91
 | 92 => some ti92
 | 93 => some ti93
 | 94 => some ti94
 | 95 => some ti95
 | 96 => some ti96
 | 97 => some ti97
 | 98 => some ti98
 | 99 => some ti99
 | 100 => some ti100
 | 101 => some ti101
 | 102 => some ti102
 | 103 => some ti103
 | 104 => some ti104
 | 105 => some ti105
 | 106 => some ti106
 | _ => none
def T_4 : TT
 | 107 => some ti107
 | 108 => some ti108
 | 109 => some ti109
 | _ => none
def T : TT := fun t => if t ≤ 24 then T_0 t else if t ≤ 54 then T_1 t else if t ≤ 81 then T_2 t else if t ≤ 106 then T_3 t else T_4 t
theorem tok_0 : TOk Tryd.prog T_0 := by
 intro t ti h
 unfold T_0 at h
 split at h
 ·cases h; exact tok1 (by kernel_rfl) (by kernel_rfl) (by kernel_rfl)
 ·cases h; exact tok1 (by kernel_rfl) (by kernel_rfl) (by kernel_rfl)
 ·cases h; exact tok1 (by kernel_rfl) (by kernel_rfl) (by kernel_rfl)
 ·cases h; exact tok1 (by kernel_rfl) (by kernel_rfl) (by kernel_rfl)
 ·cases h; exact tok1 (by kernel_rfl) (by kernel_rfl) (by kernel_rfl)
 ·cases h; exact tok1 (by kernel_rfl) (by kernel_rfl) (by kernel_rfl)
 ·cases h; exact tok1 (by kernel_rfl) (by kernel_rfl) (by kernel_rfl)
 ·cases h; exact tok1 (by kernel_rfl) (by kernel_rfl) (by kernel_rfl)
 ·cases h; exact tok1 (by kernel_rfl) (by kernel_rfl) (by kernel_rfl)
 ·cases h; exact tok1 (by kernel_rfl) (by kernel_rfl) (by kernel_rfl)
 ·cases h; exact tok1 (by kernel_rfl) (by kernel_rfl) (by kernel_rfl)
 ·cases h; exact tok1 (by kernel_rfl) (by kernel_rfl) (by kernel_rfl)
 ·cases h; exact tok1 (by kernel_rfl) (by kernel_rfl) (by kernel_rfl)
 ·cases h; exact tok1 (by kernel_rfl) (by kernel_rfl) (by kernel_rfl)
 ·cases h; exact tok1 (by kernel_rfl) (by kernel_rfl) (by kernel_rfl)
 ·cases h; exact tok1 (by kernel_rfl) (by kernel_rfl) (by kernel_rfl)
 ·cases h; exact tok1 (by kernel_rfl) (by kernel_rfl) (by kernel_rfl)
 ·cases h; exact tok1 (by kernel_rfl) (by kernel_rfl) (by kernel_rfl)
 ·cases h; exact tok1 (by kernel_rfl) (by kernel_rfl) (by kernel_rfl)
 ·cases h; exact tok1 (by kernel_rfl) (by kernel_rfl) (by kernel_rfl)
 ·cases h; exact tok1 (by kernel_rfl) (by kernel_rfl) (by kernel_rfl)
 ·cases h; exact tok1 (by kernel_rfl) (by kernel_rfl) (by kernel_rfl)
 ·cases h; exact tok1 (by kernel_rfl) (by kernel_rfl) (by kernel_rfl)
 ·cases h; exact tok1 (by kernel_rfl) (by kernel_rfl) (by kernel_rfl)
 ·cases h
theorem tok_1 : TOk Tryd.prog T_1 := by
 intro t ti h
 unfold T_1 at h
 split at h
 ·cases h; exact tok1 (by kernel_rfl) (by kernel_rfl) (by kernel_rfl)
 ·cases h; exact tok1 (by kernel_rfl) (by kernel_rfl) (by kernel_rfl)
 ·cases h; exact tok1 (by kernel_rfl) (by kernel_rfl) (by kernel_rfl)
 ·cases h; exact tok1 (by kernel_rfl) (by kernel_rfl) (by kernel_rfl)
 ·cases h; exact tok1 (by kernel_rfl) (by kernel_rfl) (by kernel_rfl)
 ·cases h; exact tok1 (by kernel_rfl) (by kernel_rfl) (by kernel_rfl)
 ·cases h; exact tok1 (by kernel_rfl) (by kernel_rfl) (by kernel_rfl)
 ·cases h; exact tok1 (by kernel_rfl) (by kernel_rfl) (by kernel_rfl)
 ·cases h; exact tok1 (by kernel_rfl) (by kernel_rfl) (by kernel_rfl)
 ·cases h; exact tok1 (by kernel_rfl) (by kernel_rfl) (by kernel_rfl)
 ·cases h; exact tok1 (by kernel_rfl) (by kernel_rfl) (by kernel_rfl)
 ·cases h; exact tok1 (by kernel_rfl) (by kernel_rfl) (by kernel_rfl)
 ·cases h; exact tok1 (by kernel_rfl) (by kernel_rfl) (by kernel_rfl)
 ·cases h; exact tok1 (by kernel_rfl) (by kernel_rfl) (by kernel_rfl)
 ·cases h; exact tok1 (by kernel_rfl) (by kernel_rfl) (by kernel_rfl)
 ·cases h; exact tok1 (by kernel_rfl) (by kernel_rfl) (by kernel_rfl)
 ·cases h; exact tok1 (by kernel_rfl) (by kernel_rfl) (by kernel_rfl)
 ·cases h; exact tok1 (by kernel_rfl) (by kernel_rfl) (by kernel_rfl)
 ·cases h; exact tok1 (by kernel_rfl) (by kernel_rfl) (by kernel_rfl)
 ·cases h; exact tok1 (by kernel_rfl) (by kernel_rfl) (by kernel_rfl)
 ·cases h; exact tok1 (by kernel_rfl) (by kernel_rfl) (by kernel_rfl)
 ·cases h; exact tok1 (by kernel_rfl) (by kernel_rfl) (by kernel_rfl)
 ·cases h; exact tok1 (by kernel_rfl) (by kernel_rfl) (by kernel_rfl)
 ·cases h; exact tok1 (by kernel_rfl) (by kernel_rfl) (by kernel_rfl)
 ·cases h
theorem tok_2 : TOk Tryd.prog T_2 := by
 intro t ti h
 unfold T_2 at h
 split at h
 ·cases h; exact tok1 (by kernel_rfl) (by kernel_rfl) (by kernel_rfl)
 ·cases h; exact tok1 (by kernel_rfl) (by kernel_rfl) (by kernel_rfl)
 ·cases h; exact tok1 (by kernel_rfl) (by kernel_rfl) (by kernel_rfl)
 ·cases h; exact tok1 (by kernel_rfl) (by kernel_rfl) (by kernel_rfl)
 ·cases h; exact tok1 (by kernel_rfl) (by kernel_rfl) (by kernel_rfl)
 ·cases h; exact tok1 (by kernel_rfl) (by kernel_rfl) (by kernel_rfl)
 ·cases h; exact tok1 (by kernel_rfl) (by kernel_rfl) (by kernel_rfl)
 ·cases h; exact tok1 (by kernel_rfl) (by kernel_rfl) (by kernel_rfl)
 ·cases h; exact tok1 (by kernel_rfl) (by kernel_rfl) (by kernel_rfl)
 ·cases h; exact tok1 (by kernel_rfl) (by kernel_rfl) (by kernel_rfl)
 ·cases h; exact tok1 (by kernel_rfl) (by kernel_rfl) (by kernel_rfl)
 ·cases h; exact tok1 (by kernel_rfl) (by kernel_rfl) (by kernel_rfl)
 ·cases h; exact tok1 (by kernel_rfl) (by kernel_rfl) (by kernel_rfl)
 ·cases h; exact tok1 (by kernel_rfl) (by kernel_rfl) (by kernel_rfl)
 ·cases h; exact tok1 (by kernel_rfl) (by kernel_rfl) (by kernel_rfl)
 ·cases h; exact tok1 (by kernel_rfl) (by kernel_rfl) (by kernel_rfl)
 ·cases h; exact tok1 (by kernel_rfl) (by kernel_rfl) (by kernel_rfl)
 ·cases h; exact tok1 (by kernel_rfl) (by kernel_rfl) (by kernel_rfl)
 ·cases h; exact tok1 (by kernel_rfl) (by kernel_rfl) (by kernel_rfl)
 ·cases h; exact tok1 (by kernel_rfl) (by kernel_rfl) (by kernel_rfl)
 ·cases h; exact tok1 (by kernel_rfl) (by kernel_rfl) (by kernel_rfl)
 ·cases h; exact tok1 (by kernel_rfl) (by kernel_rfl) (by kernel_rfl)
 ·cases h; exact tok1 (by kernel_rfl) (by kernel_rfl) (by kernel_rfl)
 ·cases h; exact tok1 (by kernel_rfl) (by kernel_rfl) (by kernel_rfl)
 ·cases h
theorem tok_3 : TOk Tryd.prog T_3 := by
 intro t ti h
 unfold T_3 at h
 split at h
 ·cases h; exact tok1 (by kernel_rfl) (by kernel_rfl) (by kernel_rfl)
 ·cases h; exact tok1 (by kernel_rfl) (by kernel_rfl) (by kernel_rfl)
 ·cases h; exact tok1 (by kernel_rfl) (by kernel_rfl) (by kernel_rfl)
 ·cases h; exact tok1 (by kernel_rfl) (by kernel_rfl) (by kernel_rfl)
 ·cases h; exact tok1 (by kernel_rfl) (by kernel_rfl) (by kernel_rfl)
 ·cases h; exact tok1 (by kernel_rfl) (by kernel_rfl) (by kernel_rfl)
 ·cases h; exact tok1 (by kernel_rfl) (by kernel_rfl) (by kernel_rfl)
 ·cases h; exact tok1 (by kernel_rfl) (by kernel_rfl) (by kernel_rfl)
 ·cases h; exact tok1 (by kernel_rfl) (by kernel_rfl) (by kernel_rfl)
 ·cases h; exact tok1 (by kernel_rfl) (by kernel_rfl) (by kernel_rfl)
 ·cases h; exact tok1 (by kernel_rfl) (by kernel_rfl) (by kernel_rfl)
 ·cases h; exact tok1 (by kernel_rfl) (by kernel_rfl) (by kernel_rfl)
 ·cases h; exact tok1 (by kernel_rfl) (by kernel_rfl) (by kernel_rfl)
 ·cases h; exact tok1 (by kernel_rfl) (by kernel_rfl) (by kernel_rfl)
 ·cases h; exact tok1 (by kernel_rfl) (by kernel_rfl) (by kernel_rfl)
 ·cases h; exact tok1 (by kernel_rfl) (by kernel_rfl) (by kernel_rfl)
 ·cases h; exact tok1 (by kernel_rfl) (by kernel_rfl) (by kernel_rfl)
 ·cases h; exact tok1 (by kernel_rfl) (by kernel_rfl) (by kernel_rfl)
 ·cases h; exact tok1 (by kernel_rfl) (by kernel_rfl) (by kernel_rfl)
 ·cases h; exact tok1 (by kernel_rfl) (by kernel_rfl) (by kernel_rfl)
 ·cases h; exact tok1 (by kernel_rfl) (by kernel_rfl) (by kernel_rfl)
 ·cases h; exact tok1 (by kernel_rfl) (by kernel_rfl) (by kernel_rfl)
 ·cases h; exact tok1 (by kernel_rfl) (by kernel_rfl) (by kernel_rfl)
 ·cases h; exact tok1 (by kernel_rfl) (by kernel_rfl) (by kernel_rfl)
 ·cases h
theorem tok_4 : TOk Tryd.prog T_4 := by
 intro t ti h
 unfold T_4 at h
 split at h
 ·cases h; exact tok1 (by kernel_rfl) (by kernel_rfl) (by kernel_rfl)
 ·cases h; exact tok1 (by kernel_rfl) (by kernel_rfl) (by kernel_rfl)
 ·cases h; exact tok1 (by kernel_rfl) (by kernel_rfl) (by kernel_rfl)
 ·cases h
theorem tok : TOk Tryd.prog T := by
 intro t ti h
 unfold T at h
 split at h
 ·exact tok_0 t ti h
 split at h
 ·exact tok_1 t ti h
 split at h
 ·exact tok_2 t ti h
 split at h
 ·exact tok_3 t ti h
 exact tok_4 t ti h
end Go.Proofs.YtipmpjphjhipjaaDoor.A
/- The ghost machine at this program: a contract with no roots; the empty book. -/
set_option linter.unusedSimpArgs false
set_option linter.unusedVariables false
set_option maxRecDepth 100000
set_option maxHeartbeats 4000000
namespace Go.Proofs.YtipmpjphjhipjaaDoor.A
open Go
def pc (f : FuncId) (args : List Arg) (ret : RV) : Prop := (std Tryd.prog T).pc f args ret []
def book0 : Book := fun _ _ => none
end Go.Proofs.YtipmpjphjhipjaaDoor.A
/- Requests: the kinds' words, and what a kind has. -/
set_option linter.unusedSimpArgs false
set_option linter.unusedVariables false
set_option maxRecDepth 100000
set_option maxHeartbeats 4000000
namespace Go.Proofs.YtipmpjphjhipjaaDoor.A
open Go
def kNames : List ByteArray := [⟨⟨[]⟩⟩, ⟨⟨[99, 111, 109, 112, 105, 108, 101]⟩⟩, ⟨⟨[108, 111, 111, 107, 117, 112]⟩⟩, ⟨⟨[115, 97, 118, 101]⟩⟩, ⟨⟨[98, 101, 103, 105, 110]⟩⟩, ⟨⟨[104, 111, 108, 100]⟩⟩, ⟨⟨[114, 101, 108, 101, 97, 115, 101]⟩⟩, ⟨⟨[102, 105, 110, 105, 115, 104]⟩⟩, ⟨⟨[99, 97, 110, 99, 101, 108]⟩⟩, ⟨⟨[99, 111, 108, 108, 101, 99, 116]⟩⟩, ⟨⟨[116, 105, 100, 121]⟩⟩, ⟨⟨[114, 101, 99, 111, 118, 101, 114]⟩⟩, ⟨⟨[116, 97, 98, 108, 101]⟩⟩, ⟨⟨[109, 97, 99, 104, 105, 110, 101, 115]⟩⟩, ⟨⟨[115, 116, 97, 116, 101, 115]⟩⟩, ⟨⟨[108, 105, 118, 101]⟩⟩, ⟨⟨[112, 105, 110, 115]⟩⟩, ⟨⟨[102, 108, 121, 105, 110, 103]⟩⟩, ⟨⟨[108, 101, 97, 115, 116]⟩⟩]
def wName (k : Nat) : ByteArray := kNames.getD k ⟨⟨[]⟩⟩
def rowW0 : List C := [vS (wName 0), vS (wName 1), vS (wName 2), vS (wName 3), vS (wName 4), vS (wName 5), vS (wName 6), vS (wName 7), vS (wName 8), vS (wName 9), vS (wName 10), vS (wName 11), vS (wName 12), vS (wName 13), vS (wName 14), vS (wName 15), vS (wName 16), vS (wName 17), vS (wName 18)]
theorem rowW_eq : rowW0 = (List.range 19).map fun k => vS (wName k) := rfl
def rowW : List C := rowW0
theorem rowW_at {k : Nat} (h : k < 19) : cellAt rowW k = vS (wName k) := by
 unfold rowW
 rw [rowW_eq, cellAt, List.getD_eq_getElem?_getD, List.getElem?_map, List.getElem?_range h]; rfl
theorem rowW_len : rowW.length = 19 := rfl
theorem rowW_vals : ∀ c ∈ rowW, ∃ v, c = .val v := by
 intro c hc
 unfold rowW at hc
 rw [rowW_eq] at hc
 obtain ⟨k, _, rfl⟩ := List.mem_map.1 hc
 exact ⟨_, rfl⟩
theorem wName_inj {a b : Nat} (ha : a < 19) (hb : b < 19) (h : wName a = wName b) : a = b := by
 have key : ∀ a : Fin 19, ∀ b : Fin 19, wName a.1 = wName b.1 → a = b := by decide +kernel
 have := key ⟨a, ha⟩ ⟨b, hb⟩ h
 exact congrArg Fin.val this
theorem ret1_b {a b : Bool} (h : a = b) : ret1 (.st (vB a)) = ⟨false, [(false, [.st (.val (.bool b))])]⟩ := by rw [h]; rfl
theorem ret1_i {a b : Int} (h : a = b) : ret1 (.st (vI a)) = ⟨false, [(false, [.st (.val (.int .i64 b))])]⟩ := by rw [h]; rfl
theorem ret1_s {a b : ByteArray} (h : a = b) : ret1 (.st (vS a)) = ⟨false, [(false, [.st (.val (.string b))])]⟩ := by rw [h]; rfl
abbrev strT : TypeId := 9
theorem c_Words0 : pc 8 [] (ret1 (.own strT 19 rowW0)) := by
 refine ⟨enters Tryd.func8 (by kernel_rfl) (by kernel_rfl), pc_of tok Tryd.func8 rfl (by rfl) ?_⟩
 obtain ⟨j, hj⟩ : ∃ j : J, j = std Tryd.prog T := ⟨_, rfl⟩
 (repeat' first | ((first | with_reducible refine tr_cut (fun h => ?_) (fun h => ?_) | refine aw_condj (by cbv) (fun h => ?_) (fun h => ?_)) <;> (try simp (disch := omega) only [hj, std, cmpI, cmpB, satB, Bool.not_eq_true, Bool.not_eq_false, decide_eq_true_eq, decide_eq_false_iff_not, beq_iff_eq, bne_iff_ne, bne_eq_false_iff_eq, beq_eq_false_iff_ne, ne_eq, reduceCtorEq, not_true_eq_false, not_false_eq_true, add64, sub64] at h) <;> (try (exfalso; omega))) | (with_reducible refine tr_alt (fun h => ?_) ?_ <;> (try (exfalso; omega))) | (with_reducible first | refine tr_ob ?_ ?_ | refine tr_done ?_) | (refine aw_tr hj tok book0 (by cbv) ?_) | (refine aw_seq fun K hK => ?_) | (refine aw_tr1 hj tok book0 (by cbv) ?_) | (refine aw_skip ?_) | (refine aw_block ?_) | (refine aw_exit ?_) | (refine aw_ret ⟨.inr rfl, ret_okj hj (by cbv) ?_ ?_⟩) | (refine aw_ret ?_) | (with_reducible first | refine th_n ?_ | refine th_r ?_ | refine th_x ?_ | refine blk_n ?_ | refine blk_r ?_ | refine blk_x ?_ | refine blk_y rfl ?_) | (refine ⟨.inr rfl, ret_okj hj (by cbv) ?_ ?_⟩) | (refine ⟨.inl rfl, ret_okj hj (by cbv) ?_ ?_⟩) | (with_reducible apply_assumption -symm -exfalso only [*]))
 all_goals (try (repeat' first | with_reducible exact obl0 | with_reducible refine obl1 ?_ ?_))
 all_goals (try first | with_reducible exact True.intro | ((first | refine ob_le hj ?_ | refine ob_lei hj ?_ | refine ob_inb hj ?_ | refine ob_pos hj ?_ | refine ob_ne0 hj ?_ | refine ob_eqb hj ?_); (first | rfl | first | omega | (simp only [hj, std]; split <;> omega) | (simp (disch := omega) only [hj, std, cmpI, cmpB, satB, add64, sub64, ite0, pl0, pl2, pl3, sb0, if_true, if_false, eq_self] <;> omega) | (simp (disch := omega) [hj, std, cmpI, cmpB, satB, add64, sub64, ite0, pl0, pl2, pl3, sb0, if_true, if_false, eq_self] <;> omega))) | (exact rfl))
theorem c_Words : pc 8 [] (ret1 (.own strT 19 rowW)) := c_Words0
def hasQ (k : Int) : Int := if (1 ≤ k ∧ k ≤ 6) ∨ (12 ≤ k ∧ k ≤ 14) then 2 else if k = 7 ∨ k = 8 then 1 else if (9 ≤ k ∧ k ≤ 11) ∨ (15 ≤ k ∧ k ≤ 17) then 0 else if k = 18 then 3 else -1
def pKk (k : Int) : Bool := decide (hasQ k = 2)
def pM (k : Int) : Bool := decide (hasQ k = 1)
def pTt (k : Int) : Bool := decide (2 ≤ hasQ k)
def mayB (n : Int) (h : Bool) : Bool := decide (0 ≤ n ∧ n ≤ 1000000000 ∧ (h = true ∨ n = 0))
theorem c_Has (k : Int) : pc 16 [.v false [vI k]] (ret1 (.st (vI (hasQ k)))) := by
 refine ⟨enters Tryd.func16 (by kernel_rfl) (by kernel_rfl), pc_of tok Tryd.func16 rfl (by rfl) ?_⟩
 obtain ⟨j, hj⟩ : ∃ j : J, j = std Tryd.prog T := ⟨_, rfl⟩
 have hm : Tryd.prog.follows .mixedOrders = true := by kernel_rfl
 generalize y_hasQ : @hasQ = x_hasQ at *
 (repeat' first | ((first | with_reducible refine tr_cut (fun h => ?_) (fun h => ?_) | refine aw_condj (by cbv) (fun h => ?_) (fun h => ?_)) <;> (try simp (disch := omega) only [hj, std, cmpI, cmpB, satB, Bool.not_eq_true, Bool.not_eq_false, decide_eq_true_eq, decide_eq_false_iff_not, beq_iff_eq, bne_iff_ne, bne_eq_false_iff_eq, beq_eq_false_iff_ne, ne_eq, reduceCtorEq, not_true_eq_false, not_false_eq_true, pl0, if_true, cmpS_eq, cmpS_neq, Bool.not_eq_eq_eq_not, Bool.not_true, Bool.not_false, Bool.not_eq_true', add64, sub64] at h) <;> (try (exfalso; omega))) | (with_reducible refine tr_alt (fun h => ?_) ?_ <;> (try (exfalso; omega))) | (with_reducible first | refine tr_ob ?_ ?_ | refine tr_done ?_) | (refine aw_tr hj tok book0 (by cbv) ?_) | (refine aw_seq fun K hK => ?_) | (refine aw_tr1 hj tok book0 (by cbv) ?_) | (refine aw_skip ?_) | (refine aw_block ?_) | (refine aw_exit ?_) | (refine aw_ret ⟨.inr rfl, ret_okj hj (by cbv) ?_ ?_⟩) | (refine aw_ret ?_) | (with_reducible first | refine th_n ?_ | refine th_r ?_ | refine th_x ?_ | refine blk_n ?_ | refine blk_r ?_ | refine blk_x ?_ | refine blk_y rfl ?_) | (refine ⟨.inr rfl, ret_okj hj (by cbv) ?_ ?_⟩) | (refine ⟨.inl rfl, ret_okj hj (by cbv) ?_ ?_⟩) | (with_reducible apply_assumption -symm -exfalso only [*]))
 all_goals ((try subst y_hasQ))
 all_goals (try (repeat' first | with_reducible exact obl0 | with_reducible refine obl1 ?_ ?_))
 all_goals (try first | with_reducible exact True.intro | ((first | refine ob_le hj ?_ | refine ob_lei hj ?_ | refine ob_inb hj ?_ | refine ob_pos hj ?_ | refine ob_ne0 hj ?_ | refine ob_eqb hj ?_); (first | rfl | first | omega | (simp only [hj, std]; split <;> omega) | (simp (disch := omega) only [hj, std, cmpI, cmpB, satB, add64, sub64, ite0, pl0, pl2, pl3, sb0, if_true, if_false, eq_self] <;> omega) | (simp (disch := omega) [hj, std, cmpI, cmpB, satB, add64, sub64, ite0, pl0, pl2, pl3, sb0, if_true, if_false, eq_self] <;> omega))) | ((refine ret1_i ?_; unfold hasQ; (repeat' split) <;> omega)))
theorem rParts_of {k : Int} {a b c : Bool} (h1 : pKk k = a) (h2 : pM k = b) (h3 : pTt k = c) : rets [(false, [.st (vB (pKk k))]), (false, [.st (vB (pM k))]), (false, [.st (vB (pTt k))])] = ⟨true, [(false, [.st (.val (.bool a))]), (false, [.st (.val (.bool b))]), (false, [.st (.val (.bool c))])]⟩ := by rw [h1, h2, h3]; rfl
theorem c_parts (k : Int) : pc 12 [.v false [vI k]] (rets [(false, [.st (vB (pKk k))]), (false, [.st (vB (pM k))]), (false, [.st (vB (pTt k))])]) := by
 refine ⟨enters Tryd.func12 (by kernel_rfl) (by kernel_rfl), pc_of tok Tryd.func12 rfl (by rfl) ?_⟩
 obtain ⟨j, hj⟩ : ∃ j : J, j = std Tryd.prog T := ⟨_, rfl⟩
 have hm : Tryd.prog.follows .mixedOrders = true := by kernel_rfl
 generalize y_hasQ : @hasQ = x_hasQ at *
 generalize y_pKk : @pKk = x_pKk at *
 generalize y_pM : @pM = x_pM at *
 generalize y_pTt : @pTt = x_pTt at *
 (repeat' first | ((first | with_reducible refine tr_cut (fun h => ?_) (fun h => ?_) | refine aw_condj (by cbv) (fun h => ?_) (fun h => ?_)) <;> (try simp (disch := omega) only [hj, std, cmpI, cmpB, satB, Bool.not_eq_true, Bool.not_eq_false, decide_eq_true_eq, decide_eq_false_iff_not, beq_iff_eq, bne_iff_ne, bne_eq_false_iff_eq, beq_eq_false_iff_ne, ne_eq, reduceCtorEq, not_true_eq_false, not_false_eq_true, pl0, if_true, cmpS_eq, cmpS_neq, Bool.not_eq_eq_eq_not, Bool.not_true, Bool.not_false, Bool.not_eq_true', add64, sub64] at h) <;> (try (exfalso; omega))) | (with_reducible refine tr_alt (fun h => ?_) ?_ <;> (try (exfalso; omega))) | (with_reducible first | refine tr_ob ?_ ?_ | refine tr_done ?_) | (refine aw_tr hj tok book0 (by cbv) ?_) | (refine aw_seq fun K hK => ?_) | (refine aw_tr1 hj tok book0 (by cbv) ?_) | (refine aw_skip ?_) | (refine aw_block ?_) | (refine aw_exit ?_) | (refine aw_ret ⟨.inr rfl, ret_okj hj (by cbv) ?_ ?_⟩) | (refine aw_ret ?_) | (with_reducible first | refine th_n ?_ | refine th_r ?_ | refine th_x ?_ | refine blk_n ?_ | refine blk_r ?_ | refine blk_x ?_ | refine blk_y rfl ?_) | (refine ⟨.inr rfl, ret_okj hj (by cbv) ?_ ?_⟩) | (refine ⟨.inl rfl, ret_okj hj (by cbv) ?_ ?_⟩) | (with_reducible apply_assumption -symm -exfalso only [*]))
 all_goals ((try subst y_hasQ); (try subst y_pKk); (try subst y_pM); (try subst y_pTt))
 all_goals (try (repeat' first | with_reducible exact obl0 | with_reducible refine obl1 ?_ ?_))
 all_goals (try first | with_reducible exact True.intro | ((first | refine ob_le hj ?_ | refine ob_lei hj ?_ | refine ob_inb hj ?_ | refine ob_pos hj ?_ | refine ob_ne0 hj ?_ | refine ob_eqb hj ?_); (first | rfl | first | omega | (simp only [hj, std]; split <;> omega) | (simp (disch := omega) only [hj, std, cmpI, cmpB, satB, add64, sub64, ite0, pl0, pl2, pl3, sb0, if_true, if_false, eq_self] <;> omega) | (simp (disch := omega) [hj, std, cmpI, cmpB, satB, add64, sub64, ite0, pl0, pl2, pl3, sb0, if_true, if_false, eq_self] <;> omega))) | ((refine rParts_of ?_ ?_ ?_ <;> (try rw [hj]) <;> simp only [std, cmpI, pKk, pM, pTt, hasQ] <;> (repeat' split) <;> first | rfl | (exfalso; omega) | (simp only [decide_eq_true_eq, decide_eq_false_iff_not, beq_iff_eq, beq_eq_false_iff_ne]; omega) | (rw [Bool.eq_iff_iff]; simp only [decide_eq_true_eq, beq_iff_eq]; omega))))
theorem c_may (n : Int) (g : Bool) : pc 13 [.v false [vI n], .v false [vB g]] (ret1 (.st (vB (mayB n g)))) := by
 refine ⟨enters Tryd.func13 (by kernel_rfl) (by kernel_rfl), pc_of tok Tryd.func13 rfl (by rfl) ?_⟩
 obtain ⟨j, hj⟩ : ∃ j : J, j = std Tryd.prog T := ⟨_, rfl⟩
 have hm : Tryd.prog.follows .mixedOrders = true := by kernel_rfl
 generalize y_mayB : @mayB = x_mayB at *
 (repeat' first | ((first | with_reducible refine tr_cut (fun h => ?_) (fun h => ?_) | refine aw_condj (by cbv) (fun h => ?_) (fun h => ?_)) <;> (try simp (disch := omega) only [hj, std, cmpI, cmpB, satB, Bool.not_eq_true, Bool.not_eq_false, decide_eq_true_eq, decide_eq_false_iff_not, beq_iff_eq, bne_iff_ne, bne_eq_false_iff_eq, beq_eq_false_iff_ne, ne_eq, reduceCtorEq, not_true_eq_false, not_false_eq_true, pl0, if_true, cmpS_eq, cmpS_neq, Bool.not_eq_eq_eq_not, Bool.not_true, Bool.not_false, Bool.not_eq_true', add64, sub64] at h) <;> (try (exfalso; omega))) | (with_reducible refine tr_alt (fun h => ?_) ?_ <;> (try (exfalso; omega))) | (with_reducible first | refine tr_ob ?_ ?_ | refine tr_done ?_) | (refine aw_tr hj tok book0 (by cbv) ?_) | (refine aw_seq fun K hK => ?_) | (refine aw_tr1 hj tok book0 (by cbv) ?_) | (refine aw_skip ?_) | (refine aw_block ?_) | (refine aw_exit ?_) | (refine aw_ret ⟨.inr rfl, ret_okj hj (by cbv) ?_ ?_⟩) | (refine aw_ret ?_) | (with_reducible first | refine th_n ?_ | refine th_r ?_ | refine th_x ?_ | refine blk_n ?_ | refine blk_r ?_ | refine blk_x ?_ | refine blk_y rfl ?_) | (refine ⟨.inr rfl, ret_okj hj (by cbv) ?_ ?_⟩) | (refine ⟨.inl rfl, ret_okj hj (by cbv) ?_ ?_⟩) | (with_reducible apply_assumption -symm -exfalso only [*]))
 all_goals ((try subst y_mayB))
 all_goals (try (repeat' first | with_reducible exact obl0 | with_reducible refine obl1 ?_ ?_))
 all_goals (try first | with_reducible exact True.intro | ((first | refine ob_le hj ?_ | refine ob_lei hj ?_ | refine ob_inb hj ?_ | refine ob_pos hj ?_ | refine ob_ne0 hj ?_ | refine ob_eqb hj ?_); (first | rfl | first | omega | (simp only [hj, std]; split <;> omega) | (simp (disch := omega) only [hj, std, cmpI, cmpB, satB, add64, sub64, ite0, pl0, pl2, pl3, sb0, if_true, if_false, eq_self] <;> omega) | (simp (disch := omega) [hj, std, cmpI, cmpB, satB, add64, sub64, ite0, pl0, pl2, pl3, sb0, if_true, if_false, eq_self] <;> omega))) | ((refine ret1_b ?_; (try rw [hj]); simp only [std, cmpI]; unfold mayB; rw [Bool.eq_iff_iff, decide_eq_true_eq]; simp_all; try omega)) | ((refine ret1_b ?_; unfold mayB; rw [Bool.eq_iff_iff, decide_eq_true_eq]; simp_all; try omega)))
end Go.Proofs.YtipmpjphjhipjaaDoor.A
/- Requests: the map of the words. -/
set_option linter.unusedSimpArgs false
set_option linter.unusedVariables false
set_option maxRecDepth 100000
set_option maxHeartbeats 4000000
namespace Go.Proofs.YtipmpjphjhipjaaDoor.A
open Go
def mW0 : GM := (List.range 18).foldl (fun m k => m.set (.string (wName (k + 1))) (vI ((k + 1 : Nat) : Int))) GM.new
def mW : GM := mW0
set_option maxRecDepth 100000 in
theorem mW_ks : mW.ks = (List.range 18).map fun k => Value.string (wName (k + 1)) := by kernel_rfl
set_option maxRecDepth 100000 in
theorem mW_vs : mW.vs = (List.range 18).map fun k => vI ((k + 1 : Nat) : Int) := by kernel_rfl
theorem c_words0 : pc 19 [] (ret1 (.map .str mW0)) := by
 refine ⟨enters Tryd.func19 (by kernel_rfl) (by kernel_rfl), pc_of tok Tryd.func19 rfl (by rfl) ?_⟩
 obtain ⟨j, hj⟩ : ∃ j : J, j = std Tryd.prog T := ⟨_, rfl⟩
 have hm : Tryd.prog.follows .mixedOrders = true := by kernel_rfl
 (repeat' first | ((first | with_reducible refine tr_cut (fun h => ?_) (fun h => ?_) | refine aw_condj (by cbv) (fun h => ?_) (fun h => ?_)) <;> (try simp (disch := omega) only [hj, std, cmpI, cmpB, satB, Bool.not_eq_true, Bool.not_eq_false, decide_eq_true_eq, decide_eq_false_iff_not, beq_iff_eq, bne_iff_ne, bne_eq_false_iff_eq, beq_eq_false_iff_ne, ne_eq, reduceCtorEq, not_true_eq_false, not_false_eq_true, pl0, if_true, cmpS_eq, cmpS_neq, Bool.not_eq_eq_eq_not, Bool.not_true, Bool.not_false, Bool.not_eq_true', add64, sub64] at h) <;> (try (exfalso; omega))) | (with_reducible refine tr_alt (fun h => ?_) ?_ <;> (try (exfalso; omega))) | (with_reducible first | refine tr_ob ?_ ?_ | refine tr_done ?_) | (refine aw_tr hj tok book0 (by cbv) ?_) | (refine aw_seq fun K hK => ?_) | (refine aw_tr1 hj tok book0 (by cbv) ?_) | (refine aw_skip ?_) | (refine aw_block ?_) | (refine aw_exit ?_) | (refine aw_ret ⟨.inr rfl, ret_okj hj (by cbv) ?_ ?_⟩) | (refine aw_ret ?_) | (with_reducible first | refine th_n ?_ | refine th_r ?_ | refine th_x ?_ | refine blk_n ?_ | refine blk_r ?_ | refine blk_x ?_ | refine blk_y rfl ?_) | (refine ⟨.inr rfl, ret_okj hj (by cbv) ?_ ?_⟩) | (refine ⟨.inl rfl, ret_okj hj (by cbv) ?_ ?_⟩) | (with_reducible apply_assumption -symm -exfalso only [*]))
 all_goals (try (repeat' first | with_reducible exact obl0 | with_reducible refine obl1 ?_ ?_))
 all_goals (try first | with_reducible exact True.intro | ((first | refine ob_le hj ?_ | refine ob_lei hj ?_ | refine ob_inb hj ?_ | refine ob_pos hj ?_ | refine ob_ne0 hj ?_ | refine ob_eqb hj ?_); (first | rfl | first | omega | (simp only [hj, std]; split <;> omega) | (simp (disch := omega) only [hj, std, cmpI, cmpB, satB, add64, sub64, ite0, pl0, pl2, pl3, sb0, if_true, if_false, eq_self] <;> omega) | (simp (disch := omega) [hj, std, cmpI, cmpB, satB, add64, sub64, ite0, pl0, pl2, pl3, sb0, if_true, if_false, eq_self] <;> omega))) | ((rw [hj]; exact rfl)))
theorem c_words : pc 19 [] (ret1 (.map .str mW)) := c_words0
def kindI (s : ByteArray) : Int := gi (mgetC mW.ks mW.vs (.string s) (vI 0))
theorem kind_both (s : ByteArray) : mgetC mW.ks mW.vs (.string s) (vI 0) = vI (kindI s) ∧ ((kindI s = 0 ∧ ∀ k, 1 ≤ k → k < 19 → wName k ≠ s) ∨ ∃ k : Nat, 1 ≤ k ∧ k < 19 ∧ kindI s = k ∧ wName k = s) := by
 unfold kindI mgetC kidx
 rw [mW_ks, mW_vs]
 cases h : List.findIdx? (keq (Value.string s)) ((List.range 18).map fun k => Value.string (wName (k + 1))) with
 | none =>
  rw [List.findIdx?_eq_none_iff] at h
  refine ⟨rfl, .inl ⟨rfl, fun k h1 h2 he => ?_⟩⟩
  have := h (.string (wName (k - 1 + 1))) (List.mem_map.2 ⟨k - 1, List.mem_range.2 (by omega), rfl⟩)
  rw [show k - 1 + 1 = k by omega, he] at this
  simp [keq] at this
 | some i =>
  obtain ⟨hi, hp, _⟩ := List.findIdx?_eq_some_iff_getElem.1 h
  have hi' : i < 18 := by simpa using hi
  have hs : s = wName (i + 1) := by simpa [keq] using hp
  have hv : ((List.range 18).map fun k => vI ((k + 1 : Nat) : Int)).getD i (vI 0) = vI ((i + 1 : Nat) : Int) := by
   rw [List.getD_eq_getElem?_getD, List.getElem?_map, List.getElem?_range hi']; rfl
  refine ⟨?_, .inr ⟨i + 1, by omega, by omega, ?_, hs.symm⟩⟩
  ·show List.getD _ _ _ = vI (gi (List.getD _ _ _))
   rw [hv]; rfl
  ·show gi (List.getD _ _ _) = _
   rw [hv]; rfl
theorem mget_kind (s : ByteArray) : mgetC mW.ks mW.vs (.string s) (vI 0) = vI (kindI s) := (kind_both s).1
theorem kind_spec (s : ByteArray) : (kindI s = 0 ∧ ∀ k, 1 ≤ k → k < 19 → wName k ≠ s) ∨ ∃ k : Nat, 1 ≤ k ∧ k < 19 ∧ kindI s = k ∧ wName k = s := (kind_both s).2
theorem kind_word {k : Nat} (h1 : 1 ≤ k) (h2 : k < 19) : kindI (wName k) = k := by
 rcases kind_spec (wName k) with ⟨_, h⟩ | ⟨i, q1, q2, q3, q4⟩
 ·exact absurd rfl (h k h1 h2)
 ·rw [q3, wName_inj q2 h2 q4]
theorem kind_iff {s : ByteArray} {k : Nat} (h1 : 1 ≤ k) (h2 : k < 19) : wName k = s ↔ kindI s = k := by
 constructor
 ·intro h; rw [← h]; exact kind_word h1 h2
 ·intro h
  rcases kind_spec s with ⟨q, _⟩ | ⟨i, q1, q2, q3, q4⟩
  ·omega
  ·rw [← q4, show k = i by omega]
theorem kind_lt (s : ByteArray) : 0 ≤ kindI s ∧ kindI s < 19 := by
 rcases kind_spec s with ⟨q, _⟩ | ⟨i, q1, q2, q3, q4⟩ <;> omega
def wordS (n : Int) : ByteArray := if 1 ≤ n ∧ n < 19 then wName n.toNat else ⟨⟨[]⟩⟩
theorem word_has (n : Int) : (0 ≤ hasQ n) ↔ (1 ≤ n ∧ n < 19) := by
 unfold hasQ
 (repeat' split) <;> omega
theorem word_ne {k : Nat} (h1 : 1 ≤ k) (h2 : k < 19) : wName k ≠ ⟨⟨[]⟩⟩ := fun h => by
 have := wName_inj (b := 0) h2 (by omega) h
 omega
theorem word_nil (n : Int) : wordS n = ⟨⟨[]⟩⟩ ↔ hasQ n < 0 := by
 have := word_has n
 unfold wordS
 split
 ·rename_i h
  refine ⟨fun q => absurd q (word_ne (by omega) (by omega)), fun q => by omega⟩
 ·exact ⟨fun _ => by omega, fun _ => rfl⟩
end Go.Proofs.YtipmpjphjhipjaaDoor.A
/- Requests: a kind's word, by hand: the map of the words is ranged over. -/
set_option linter.unusedSimpArgs false
set_option linter.unusedVariables false
set_option maxRecDepth 100000
set_option maxHeartbeats 4000000
namespace Go.Proofs.YtipmpjphjhipjaaDoor.A
open Go Go.RowKit
theorem born_split {e : MapEntry} : ∀ (l : List MapEntry), (l.map (·.born)).Nodup → e ∈ l → l.Perm (e :: l.filter fun x => !(x.born == e.born))
 | x :: l, hn, he => by
  obtain ⟨h1, h2⟩ := List.nodup_cons.1 hn
  rcases List.mem_cons.1 he with rfl | h
  ·have hf : (l.filter fun x => !(x.born == e.born)) = l := List.filter_eq_self.2 fun y hy => by
    have : y.born ≠ e.born := fun hc => h1 (List.mem_map.2 ⟨y, hy, hc⟩)
    simpa using this
   rw [List.filter_cons_of_neg (by simp), hf]
  ·have hx : (x.born == e.born) = false := by
    cases hc : x.born == e.born with
    | false => rfl
    | true => exact absurd (List.mem_map.2 ⟨e, h, (beq_iff_eq.1 hc).symm⟩) h1
   rw [List.filter_cons_of_pos (by rw [hx]; rfl)]
   exact ((born_split l h2 h).cons x).trans (List.Perm.swap _ _ _)
theorem left_step {es : Array MapEntry} {seen : Array Nat} {e : MapEntry} (hn : (es.toList.map (·.born)).Nodup) (he : e ∈ (leftOf es seen).toList) : (leftOf es seen).toList.Perm (e :: (leftOf es (seen.push e.born)).toList) := by
 have h1 : (leftOf es seen).toList = es.toList.filter fun x => !seen.contains x.born := by unfold leftOf; rw [Array.toList_filter]
 have h2 : (leftOf es (seen.push e.born)).toList = (leftOf es seen).toList.filter fun x => !(x.born == e.born) := by
  unfold leftOf
  rw [Array.toList_filter, Array.toList_filter, List.filter_filter]
  refine List.filter_congr fun x _ => ?_
  rw [contains_push]
  cases seen.contains x.born <;> cases (x.born == e.born) <;> rfl
 have h3 : ((leftOf es seen).toList.map (·.born)).Nodup := by
  rw [h1]
  exact (List.filter_sublist.map _).nodup hn
 rw [h2]
 exact born_split _ h3 he
theorem setBlock_chg (w : World) (b : Nat) (o : Obj) : Chg (fun k => k = b) w (ChangeMaps.setBlock w b o) := ⟨rfl, rfl, rfl, by simp [ChangeMaps.setBlock], fun k _ hk => by
 show (w.heap.setIfInBounds b o)[k]? = _
 rw [Array.getElem?_setIfInBounds, if_neg (fun e => hk e.symm)]⟩
theorem words_any (w : World) (S : Nat → Prop) (hlow : LowG w S) : Calls Tryd.prog 19 #[] w fun e w' => ∃ b es, e = .returned (.map (some b)) ∧ Below w.heap.size w w' ∧ w.heap.size ≤ b ∧ w'.heap[b]? = some (.map es mW.clock) ∧ es.toList.map MapEntry.born = mW.born ∧
  (∀ k, 1 ≤ k → k < 19 → ∃ e ∈ es.toList, e.val = .int .i64 (k : Nat)) ∧ ∀ e ∈ es.toList, ∃ k : Nat, 1 ≤ k ∧ k < 19 ∧ e.key = .string (wName k) ∧ e.val = .int .i64 k := by
 have hno : ∀ t κ b, ¬ owns (([] : List Arg).map Arg.asRoot) (fun _ => 0) (fun _ _ => default) t κ b := fun t κ b hb => by exact (owns_none _ _ _ (nones_getD ([] : List Arg) (fun x hx => nomatch hx) t) _ _ hb).elim
 have hh : Heap T w S (([] : List Arg).map Arg.asRoot) (fun _ => 0) (fun _ _ => default) := ⟨fun t => by rw [nones_getD ([] : List Arg) (fun x hx => nomatch hx) t]; trivial, fun t κ t' κ' b h => absurd h (hno t κ b), fun t κ b h => absurd h (hno t κ b), hlow⟩
 refine (c_words.2 w S (fun _ => 0) (fun _ _ => default) [] hh rfl (fun i h => absurd h (by simp))).mono ?_
 rintro e w' ⟨v, S', bx', ph', rfl, g⟩
 have h1 := g.heap.cell (t := 0) (o := 0) (rc := .map .str mW) rfl
 have h3 : v = ph' 0 0 := by
  have := g.val
  unfold RetRep at this
  exact this.1.2
 obtain ⟨b, hb, es, q1, q2, q3, q4, _⟩ := h1
 have hl1 : es.size = 18 := by
  have := congrArg List.length q2
  rw [mW_ks] at this
  simpa using this
 have hat : ∀ i (h : i < es.size), es[i].key = .string (wName (i + 1)) ∧ es[i].val = .int .i64 ((i + 1 : Nat) : Int) := fun i h => by
  constructor
  ·have : (es.toList.map MapEntry.key)[i]'(by simpa using h) = es[i].key := by simp
   rw [← this]
   have e2 : (es.toList.map MapEntry.key)[i]? = ((List.range 18).map fun k => Value.string (wName (k + 1)))[i]? := by rw [q2, mW_ks]
   rw [List.getElem?_eq_getElem (by simpa using h), List.getElem?_map, List.getElem?_range (by omega)] at e2
   exact Option.some.inj e2
  ·have hm : i < mW.vs.length := by rw [mW_vs]; simp; omega
   have := q4 i h hm
   have e2 : mW.vs[i] = vI ((i + 1 : Nat) : Int) := by
    have e3 : mW.vs[i]? = ((List.range 18).map fun k => vI ((k + 1 : Nat) : Int))[i]? := by rw [mW_vs]
    rw [List.getElem?_eq_getElem hm, List.getElem?_map, List.getElem?_range (by omega)] at e3
    exact Option.some.inj e3
   rw [e2] at this
   exact (crep_val this).1
 refine ⟨b, es, by rw [h3, hb], g.chg.below (Nat.le_refl _) fun k _ hk => ?_, ?_, q1, q3, fun k k1 k2 => ?_, fun e he => ?_⟩
 ·obtain ⟨t, κ, hk⟩ := hk
  exact absurd hk (hno t κ k)
 ·rcases g.mine 0 (some 0) b (by show ownB (ph' 0 0).v = some b; rw [hb]; rfl) with h | ⟨t, κ, h⟩
  ·exact h
  ·exact absurd h (hno t κ b)
 ·have hlt : k - 1 < es.size := by omega
  refine ⟨es[k - 1], Array.getElem_mem_toList hlt, ?_⟩
  rw [(hat _ hlt).2, show k - 1 + 1 = k by omega]
 ·obtain ⟨i, hi, rfl⟩ := List.mem_iff_getElem.1 he
  have hlt : i < es.size := by simpa using hi
  exact ⟨i + 1, by omega, by omega, by simpa using (hat i hlt).1, by simpa using (hat i hlt).2⟩
set_option maxHeartbeats 4000000 in
set_option maxRecDepth 100000 in
theorem word_any (k : Int) (w : World) (S : Nat → Prop) (hlow : LowG w S) : Calls Tryd.prog 9 #[.int .i64 k] w fun e w' => e = .returned (.string (wordS k)) ∧ Below w.heap.size w w' := by
 have hwd := words_any w S hlow
 go_enter Tryd.func9, Tryd.ntmps9
 go_wp2_with fail
 refine hwd.mono ?_
 clear hwd
 rintro e W ⟨b, es, rfl, hbl, hbs, hb, hbo, hall, hent0⟩
 have lb := lt_of_block hb
 have hold : ∀ x ∈ es.toList, x.born < mW.clock := fun x hx => mW.lt _ (by rw [← hbo]; exact List.mem_map.2 ⟨x, hx, rfl⟩)
 have hnd : (es.toList.map (·.born)).Nodup := by rw [hbo]; exact mW.nd
 generalize mW.clock = clk at hb hold
 have hrg := run_range_map (P := Tryd.prog) W 42 _ _ b es clk Tryd.underlying42 hb
 obtain ⟨r, hr⟩ : ∃ r, r = W.heap.size := ⟨_, rfl⟩
 obtain ⟨w1, hw1⟩ : ∃ w1, w1 = W.alloc (.mapIter (some b) clk #[] clk) := ⟨_, rfl⟩
 have k1 : Below W.heap.size W w1 := by rw [hw1]; exact (Below.refl _ W).alloc (Nat.le_refl _) _
 have q1 : w1.heap[r]? = some (.mapIter (some b) clk #[] clk) := by rw [hw1, hr]; exact heap_alloc_new W _
 have HOLD := Lib.hid hold
 have HND := Lib.hid hnd
 have HB := Lib.hid hb
 have HR := Lib.hid hr
 have HALL := Lib.hid hall
 have HENT := Lib.hid hent0
 have HBL := Lib.hid hbl
 have K1 := Lib.hid k1
 have Q1 := Lib.hid q1
 clear k1 q1 hb hold hnd hbo hall hent0 hbl hlow
 go_wp2_with fail
 rw [← hw1, ← hr]
 clear hrg hw1 hr
 go_loopw [3, 4] (fun _ _ wr => ∃ (seen : Array Nat) (c0 : Nat), Below W.heap.size W wr ∧ wr.heap[r]? = some (.mapIter (some b) clk seen c0) ∧ clk ≤ c0 ∧ ∀ e ∈ es.toList, e.val = .int .i64 k → e ∈ (leftOf es seen).toList) (fun _ _ wr => wr.rangeLeft b r)
 case atStart =>
  refine ⟨#[], clk, K1.out, Q1.out, Nat.le_refl _, fun e he _ => ?_⟩
  have e2 : (leftOf es #[]).toList = es.toList := by unfold leftOf; rw [Array.toList_filter]; exact List.filter_eq_self.2 fun _ _ => by simp
  rw [e2]; exact he
 case round =>
  obtain ⟨seen, c0, hbw, hit, hc0, hin⟩ := hrel
  have hwb : wr.heap[b]? = some (.map es clk) := (hbw.block b lb).trans HB.out
  have hmz : wr.rangeLeft b r = (leftOf es seen).size := by unfold World.rangeLeft; rw [hwb, hit]
  have HMZ := Lib.hid hmz
  rcases run_next_at (P := Tryd.prog) wr 0 r b clk c0 seen es clk hit hwb HOLD.out hc0 with ⟨h0, hrun⟩ | ⟨e, he, w1, hal, hrun⟩
  ·have hnil : (leftOf es seen).toList = [] := by
    apply List.eq_nil_of_length_eq_zero
    rw [Array.length_toList]; exact h0
   have hws : wordS k = ⟨⟨[]⟩⟩ := by
    unfold wordS
    rw [if_neg]
    intro hk
    obtain ⟨e, he, hv⟩ := HALL.out k.toNat (by omega) (by omega)
    have := hin e he (by rw [hv, Int.toNat_of_nonneg (by omega)])
    rw [hnil] at this; cases this
   have HW := Lib.hid hbw
   have HS := Lib.hid hws
   clear hbw hin hnil h0 hit hwb hmz hws
   go_wp2_with fail
   go_ret
   exact ⟨by rw [HS.out]; rfl, HBL.out.trans (HW.out.mono HBL.out.size)⟩
  ·have hst := left_step HND.out he
   have hem : e ∈ es.toList := by have := he; unfold leftOf at this; rw [Array.toList_filter] at this; exact (List.mem_filter.1 this).1
   obtain ⟨x, x1, x2, hkey, hval⟩ := HENT.out e hem
   obtain ⟨w2, hw2⟩ : ∃ w2, w2 = ChangeMaps.setBlock w1 r (.mapIter (some b) clk (seen.push e.born) clk) := ⟨_, rfl⟩
   have k0 : Chg (fun k => k = r) wr w2 := by
    rw [hw2]
    rcases hal with rfl | rfl
    ·exact setBlock_chg _ r _
    ·exact (Chg.drew _ wr).trans (setBlock_chg _ r _)
   have r1 : w1.heap[r]? = some (.mapIter (some b) clk seen c0) := by rcases hal with rfl | rfl <;> exact hit
   have g2 : w2.heap[r]? = some (.mapIter (some b) clk (seen.push e.born) clk) := by rw [hw2]; exact (MapKept.heap_set r1).1
   have hr := HR.out
   have hb2 : Below W.heap.size W w2 := hbw.trans (k0.below hbw.size fun k _ hk => by subst hk; omega)
   have g3 : w2.heap[b]? = some (.map es clk) := (hb2.block b lb).trans HB.out
   have hent := run_entry_at (P := Tryd.prog) w2 r b clk seen es clk e g2 g3 hem HND.out
   have hms : (leftOf es (seen.push e.born)).size < (leftOf es seen).size := by
    have := hst.length_eq
    rw [List.length_cons, Array.length_toList, Array.length_toList] at this
    omega
   have hnx : (x : Int) ≠ k → ∀ e' ∈ es.toList, e'.val = .int .i64 k → e' ∈ (leftOf es (seen.push e.born)).toList := fun hxk e' he' hv' => by
    rcases List.mem_cons.1 (hst.mem_iff.1 (hin e' he' hv')) with rfl | h
    ·rw [hval] at hv'
     injection hv' with _ hv'
     exact absurd hv' hxk
    ·exact h
   rw [← hw2] at hrun
   rw [hkey, hval] at hent
   rw [hkey] at hrun
   have HNX := Lib.hid hnx
   have HB2 := Lib.hid hb2
   have HG2 := Lib.hid g2
   have HG3 := Lib.hid g3
   have HMS := Lib.hid hms
   generalize seen.push e.born = seen2 at HNX HG2 HMS g2 hnx hms
   clear hnx hb2 g2 g3 hms hst hem hkey hval hw2 k0 r1 hit hal hin hbw hwb hmz he hr
   by_cases hxk : (x : Int) = k
   ·have hws : wordS k = wName x := by unfold wordS; rw [if_pos (by omega), show k.toNat = x by omega]
    have HS := Lib.hid hws
    clear hws
    go_wp2_with fail
    go_ret
    exact ⟨by rw [HS.out]; rfl, HBL.out.trans (HB2.out.mono HBL.out.size)⟩
   ·go_wp2_with fail
    go_roundw
    case rel => exact ⟨seen2, clk, HB2.out, HG2.out, Nat.le_refl _, HNX.out hxk⟩
    case measure =>
     rw [HMZ.out]
     unfold World.rangeLeft
     rw [HG3.out, HG2.out]
     exact HMS.out
theorem c_Word (k : Int) : pc 9 [.v false [vI k]] (ret1 (.st (vS (wordS k)))) := by
 refine ⟨enters Tryd.func9 (by kernel_rfl) (by kernel_rfl), pc_of_calls rfl fun w S bx vs hlow hl ha => ?_⟩
 have hv : vs = [.int .i64 k] := by
  match vs, hl, ha with
  | [v], _, ha =>
   obtain ⟨c, hc, hr⟩ := ha 0 (by simp) (by simp)
   cases hc
   rw [show v = .int .i64 k from (crep_val hr).1]
  | [], hl, _ => cases hl
  | _ :: _ :: _, hl, _ => cases hl
 subst hv
 refine (word_any k w S hlow).mono ?_
 rintro e w' ⟨rfl, hb⟩
 exact ⟨rfl, Chg.of_below hb _⟩
end Go.Proofs.YtipmpjphjhipjaaDoor.A
/- Requests: numbers as texts, and texts as numbers. -/
set_option linter.unusedSimpArgs false
set_option linter.unusedVariables false
set_option maxRecDepth 100000
set_option maxHeartbeats 4000000
namespace Go.Proofs.YtipmpjphjhipjaaDoor.A
open Go Go.RowKit
def itoaS (n : Int) : ByteArray := ⟨(Lib.itoa n).toArray⟩
abbrev digs : ByteArray := ⟨⟨[48, 49, 50, 51, 52, 53, 54, 55, 56, 57]⟩⟩
theorem app_list (a b : List UInt8) : (⟨(a ++ b).toArray⟩ : ByteArray) = ⟨a.toArray⟩ ++ ⟨b.toArray⟩ := by
 apply ByteArray.ext; rw [ByteArray.data_append]; simp
theorem dig_at : ∀ k : Fin 10, digs.extract k.1 (k.1 + 1) = ⟨[UInt8.ofNat (48 + k.1)].toArray⟩ := by decide +kernel
theorem itoa_small {n : Int} (h0 : 0 ≤ n) (h : n < 10) : digs.extract n.toNat (n.toNat + 1) = itoaS n := by
 unfold itoaS Lib.itoa
 rw [if_neg (by omega), Lib.decDigits, dif_pos (by omega)]
 exact dig_at ⟨n.toNat, by omega⟩
theorem itoa_big {n : Int} (h : ¬ n < 10) : itoaS (n / 10) ++ digs.extract (n % 10).toNat ((n % 10).toNat + 1) = itoaS n := by
 unfold itoaS Lib.itoa
 rw [if_neg (by omega), if_neg (by omega)]
 rw [show Lib.decDigits n.toNat = Lib.decDigits (n.toNat / 10) ++ [UInt8.ofNat (48 + n.toNat % 10)] by rw [Lib.decDigits, dif_neg (by omega)]]
 rw [app_list, show (n / 10).toNat = n.toNat / 10 by omega, show (n % 10).toNat = n.toNat % 10 by omega]
 rw [← dig_at ⟨n.toNat % 10, by omega⟩]
theorem itoa_neg {n : Int} (h : n < 0) : (⟨⟨[45]⟩⟩ : ByteArray) ++ itoaS (-n) = itoaS n := by
 unfold itoaS Lib.itoa
 rw [if_neg (by omega), if_pos h, show (-n).toNat = n.natAbs by omega]
 exact (app_list [45] _).symm
theorem itoa_min : (⟨⟨[45, 57, 50, 50, 51, 51, 55, 50, 48, 51, 54, 56, 53, 52, 55, 55, 53, 56, 48, 56]⟩⟩ : ByteArray) = itoaS (-9223372036854775808) := by
 unfold itoaS Lib.itoa
 rw [if_pos (by omega), show (-9223372036854775808 : Int).natAbs = 9223372036854775808 by rfl, Lib.decDigits_eq, Lib.nDigits_unique 18 9223372036854775808 (by decide) (by decide)]
 decide +kernel
theorem itoa_size (n : Int) (h0 : 0 ≤ n) : ∀ k : Nat, n.toNat < 10 ^ (k + 1) → (itoaS n).size ≤ k + 1 := by
 intro k h
 have e : (itoaS n).size = (Lib.decDigits n.toNat).length := by unfold itoaS Lib.itoa; rw [if_neg (by omega)]; simp [ByteArray.size]
 rw [e]
 generalize n.toNat = u at h
 clear e h0
 induction k generalizing u with
 | zero => rw [Lib.decDigits, dif_pos (by omega)]; simp
 | succ k ih =>
  rw [Lib.decDigits]
  split
  ·simp
  ·rw [List.length_append]
   have := ih (u / 10) (by rw [Nat.pow_succ] at h; omega)
   simp only [List.length_cons, List.length_nil]; omega
theorem itoa_few {n : Int} (h0 : 0 ≤ n) (h : n ≤ 9223372036854775807) : (itoaS n).size ≤ 19 := itoa_size n h0 18 (by have : n.toNat ≤ 9223372036854775807 := (by omega); exact Nat.lt_of_le_of_lt this (by decide))
def bookD (x_itoaS : Int → ByteArray) : Book := fun f xs => match f, xs with
 | 18, [.v false [.val (.int .i64 n)]] => some (ret1 (.st (vS (x_itoaS n))))
 | _, _ => none
set_option maxRecDepth 100000 in
theorem c_DecS (n : Int) (h0 : 0 ≤ n) (h1 : n ≤ 9223372036854775807) (hc : ¬ n < 10 → pc 18 [.v false [vI (n / 10)]] (ret1 (.st (vS (itoaS (n / 10)))))) : pc 18 [.v false [vI n]] (ret1 (.st (vS (itoaS n)))) := by
 refine ⟨enters Tryd.func18 (by kernel_rfl) (by kernel_rfl), pc_of tok Tryd.func18 rfl (by rfl) ?_⟩
 obtain ⟨j, hj⟩ : ∃ j : J, j = std Tryd.prog T := ⟨_, rfl⟩
 have hm : Tryd.prog.follows .mixedOrders = true := by kernel_rfl
 have e1 : arithI .quo .i64 n 10 = n / 10 := by
  show IntKind.wrap .i64 (n.tdiv 10) = _
  rw [Int.tdiv_eq_ediv_of_nonneg h0]; exact wrap64 (by omega) (by omega)
 have e2 : arithI .rem .i64 n 10 = n % 10 := by
  show n.tmod 10 = _
  rw [Int.tmod_eq_emod_of_nonneg h0]
 have e4 : arithI .add .i64 (n % 10) 1 = n % 10 + 1 := add64 (by omega) (by omega)
 have hd : (⟨⟨[48, 49, 50, 51, 52, 53, 54, 55, 56, 57]⟩⟩ : ByteArray).size = 10 := rfl
 have hz : ¬ n < 10 → (itoaS (n / 10)).size ≤ 19 := fun h => itoa_few (by omega) (by omega)
 generalize y_itoaS : @itoaS = x_itoaS at *
 (repeat' first | ((first | with_reducible refine tr_cut (fun h => ?_) (fun h => ?_) | refine aw_condj (by cbv) (fun h => ?_) (fun h => ?_)) <;> (try simp (disch := omega) only [hj, std, cmpI, cmpB, satB, Bool.not_eq_true, Bool.not_eq_false, decide_eq_true_eq, decide_eq_false_iff_not, beq_iff_eq, bne_iff_ne, bne_eq_false_iff_eq, beq_eq_false_iff_ne, ne_eq, reduceCtorEq, not_true_eq_false, not_false_eq_true, pl0, if_true, cmpS_eq, cmpS_neq, Bool.not_eq_eq_eq_not, Bool.not_true, Bool.not_false, Bool.not_eq_true', e1, e2, e4, add64, sub64] at h) <;> (try (exfalso; omega))) | (with_reducible refine tr_alt (fun h => ?_) ?_ <;> (try (exfalso; omega))) | (with_reducible first | refine tr_ob ?_ ?_ | refine tr_done ?_) | (refine aw_dr1 (id := 8) hj tok hm (bookD x_itoaS) true [(0, false), (1, false), (3, false), (4, false), (5, false), (6, false), (7, false), (8, false), (9, false), (2, true), (10, true), (11, true)] (by kernel_rfl) (by cbv) ?_) | (refine aw_dr (id := 8) hj tok hm (bookD x_itoaS) true [(0, false), (1, false), (3, false), (4, false), (5, false), (6, false), (7, false), (8, false), (9, false), (2, true), (10, true), (11, true)] (by kernel_rfl) (by cbv) ?_) | (refine aw_tr hj tok (bookD x_itoaS) (by cbv) ?_) | (refine aw_seq fun K hK => ?_) | (refine aw_tr1 hj tok (bookD x_itoaS) (by cbv) ?_) | (refine aw_skip ?_) | (refine aw_block ?_) | (refine aw_exit ?_) | (refine aw_ret ⟨.inr rfl, ret_okj hj (by cbv) ?_ ?_⟩) | (refine aw_ret ?_) | (with_reducible first | refine th_n ?_ | refine th_r ?_ | refine th_x ?_ | refine blk_n ?_ | refine blk_r ?_ | refine blk_x ?_ | refine blk_y rfl ?_) | (refine ⟨.inr rfl, ret_okj hj (by cbv) ?_ ?_⟩) | (refine ⟨.inl rfl, ret_okj hj (by cbv) ?_ ?_⟩) | (with_reducible apply_assumption -symm -exfalso only [*]))
 all_goals ((try subst y_itoaS))
 all_goals (try (repeat' first | with_reducible exact obl0 | with_reducible refine obl1 ?_ ?_))
 all_goals (try first | with_reducible exact True.intro | ((first | refine ob_pc hj ?_ | refine ob_pcn hj ?_); (try rw [hj]); first | exact (by have q := hc (by omega); rw [← e1] at q; exact q)) | ((first | refine ob_le hj ?_ | refine ob_lei hj ?_ | refine ob_inb hj ?_ | refine ob_pos hj ?_ | refine ob_ne0 hj ?_ | refine ob_eqb hj ?_); (first | rfl | first | omega | (simp only [hj, std]; split <;> omega) | (simp (disch := omega) only [hj, std, cmpI, cmpB, satB, add64, sub64, ite0, pl0, pl2, pl3, sb0, if_true, if_false, eq_self, e1, e2, e4, hd] <;> omega) | (simp (disch := omega) [hj, std, cmpI, cmpB, satB, add64, sub64, ite0, pl0, pl2, pl3, sb0, if_true, if_false, eq_self, e1, e2, e4, hd] <;> omega))) | ((refine ob_le hj ?_; simp only [hj, std, e1, e2, e4, ByteArray.size_extract]; have q := hz (by omega); omega)) | ((refine ret1_s ?_; simp (disch := omega) only [hj, std, add64]; rw [show (n + 1).toNat = n.toNat + 1 by omega]; exact (itoa_small h0 (by omega)).symm)) | ((refine ret1_s ?_; simp only [hj, std, e1, e2, e4]; rw [show (n % 10 + 1).toNat = (n % 10).toNat + 1 by omega]; exact (itoa_big (by omega)).symm)))
theorem c_DecN (k : Nat) : ∀ n : Int, 0 ≤ n → n ≤ 9223372036854775807 → n.toNat = k → pc 18 [.v false [vI n]] (ret1 (.st (vS (itoaS n)))) := by
 induction k using Nat.strongRecOn with
 | _ k ih => exact fun n h0 h1 hk => c_DecS n h0 h1 fun h => ih (n / 10).toNat (by omega) (n / 10) (by omega) (by omega) rfl
theorem c_Dec (n : Int) (h0 : -9223372036854775808 ≤ n) (h1 : n ≤ 9223372036854775807) : pc 18 [.v false [vI n]] (ret1 (.st (vS (itoaS n)))) := by
 by_cases hn : 0 ≤ n
 ·exact c_DecN _ n hn h1 rfl
 refine ⟨enters Tryd.func18 (by kernel_rfl) (by kernel_rfl), pc_of tok Tryd.func18 rfl (by rfl) ?_⟩
 obtain ⟨j, hj⟩ : ∃ j : J, j = std Tryd.prog T := ⟨_, rfl⟩
 have hm : Tryd.prog.follows .mixedOrders = true := by kernel_rfl
 have hc : ¬ n = -9223372036854775808 → pc 18 [.v false [vI (-n)]] (ret1 (.st (vS (itoaS (-n))))) := fun h => c_DecN _ (-n) (by omega) (by omega) rfl
 have e5 : ¬ n = -9223372036854775808 → arithI .sub .i64 0 n = -n := fun h => by rw [sub64 (by omega) (by omega)]; omega
 have hz : ¬ n = -9223372036854775808 → (itoaS (-n)).size ≤ 19 := fun h => itoa_few (by omega) (by omega)
 generalize y_itoaS : @itoaS = x_itoaS at *
 (repeat' first | ((first | with_reducible refine tr_cut (fun h => ?_) (fun h => ?_) | refine aw_condj (by cbv) (fun h => ?_) (fun h => ?_)) <;> (try simp (disch := omega) only [hj, std, cmpI, cmpB, satB, Bool.not_eq_true, Bool.not_eq_false, decide_eq_true_eq, decide_eq_false_iff_not, beq_iff_eq, bne_iff_ne, bne_eq_false_iff_eq, beq_eq_false_iff_ne, ne_eq, reduceCtorEq, not_true_eq_false, not_false_eq_true, pl0, if_true, cmpS_eq, cmpS_neq, Bool.not_eq_eq_eq_not, Bool.not_true, Bool.not_false, Bool.not_eq_true', add64, sub64] at h) <;> (try (exfalso; omega))) | (with_reducible refine tr_alt (fun h => ?_) ?_ <;> (try (exfalso; omega))) | (with_reducible first | refine tr_ob ?_ ?_ | refine tr_done ?_) | (refine aw_dr1 (id := 8) hj tok hm (bookD x_itoaS) true [(0, false), (1, false), (3, false), (4, false), (5, false), (6, false), (7, false), (8, false), (9, false), (2, true), (10, true), (11, true)] (by kernel_rfl) (by cbv) ?_) | (refine aw_dr (id := 8) hj tok hm (bookD x_itoaS) true [(0, false), (1, false), (3, false), (4, false), (5, false), (6, false), (7, false), (8, false), (9, false), (2, true), (10, true), (11, true)] (by kernel_rfl) (by cbv) ?_) | (refine aw_tr hj tok (bookD x_itoaS) (by cbv) ?_) | (refine aw_seq fun K hK => ?_) | (refine aw_tr1 hj tok (bookD x_itoaS) (by cbv) ?_) | (refine aw_skip ?_) | (refine aw_block ?_) | (refine aw_exit ?_) | (refine aw_ret ⟨.inr rfl, ret_okj hj (by cbv) ?_ ?_⟩) | (refine aw_ret ?_) | (with_reducible first | refine th_n ?_ | refine th_r ?_ | refine th_x ?_ | refine blk_n ?_ | refine blk_r ?_ | refine blk_x ?_ | refine blk_y rfl ?_) | (refine ⟨.inr rfl, ret_okj hj (by cbv) ?_ ?_⟩) | (refine ⟨.inl rfl, ret_okj hj (by cbv) ?_ ?_⟩) | (with_reducible apply_assumption -symm -exfalso only [*]))
 all_goals ((try subst y_itoaS))
 all_goals (try (repeat' first | with_reducible exact obl0 | with_reducible refine obl1 ?_ ?_))
 all_goals (try first | with_reducible exact True.intro | ((first | refine ob_pc hj ?_ | refine ob_pcn hj ?_); (try rw [hj]); first | exact (by have q := hc (by omega); rw [← e5 (by omega)] at q; exact q)) | ((first | refine ob_le hj ?_ | refine ob_lei hj ?_ | refine ob_inb hj ?_ | refine ob_pos hj ?_ | refine ob_ne0 hj ?_ | refine ob_eqb hj ?_); (first | rfl | first | omega | (simp only [hj, std]; split <;> omega) | (simp (disch := omega) only [hj, std, cmpI, cmpB, satB, add64, sub64, ite0, pl0, pl2, pl3, sb0, if_true, if_false, eq_self] <;> omega) | (simp (disch := omega) [hj, std, cmpI, cmpB, satB, add64, sub64, ite0, pl0, pl2, pl3, sb0, if_true, if_false, eq_self] <;> omega))) | ((refine ob_le hj ?_; simp only [hj, std]; rw [e5 (by omega)]; have q := hz (by omega); have q2 : (⟨⟨[45]⟩⟩ : ByteArray).size = 1 := rfl; omega)) | ((refine ret1_s ?_; have q := ‹n = -9223372036854775808›; rw [q]; exact itoa_min.symm)) | ((refine ret1_s ?_; simp only [hj, std]; rw [e5 (by omega)]; exact (itoa_neg (by omega)).symm)))
theorem tab_of {name : String} (hn : Tryd.prog.globalNamed name = some 3) {w : World} {S : Nat → Prop} (h : Gnd w S) : Lib.TabIs Tryd.prog w name .u64 Lib.pow10Tab := by
 obtain ⟨_, e, z, hh⟩ := h.1
 unfold Lib.TabIs World.var?
 rw [hn]
 show (match w.heap[3]? with | some (.cells cs _ _) => some cs | _ => none) = _
 rw [hh]
 rfl
theorem err_of {g : Nat} (hg : g ∈ gndV) {w : World} {S : Nat → Prop} (h : Gnd w S) : ∃ v, w.cell? ⟨g, 0, none⟩ = some v ∧ (v = .nilIface ∨ ∃ te pe, v = .iface te pe) := by
 obtain ⟨_, v, e, z, hh, hv⟩ := h.2 g hg
 exact ⟨v, by rw [cell_of_row w g 0 _ _ _ hh]; rfl, hv⟩
theorem vs_int {w : World} {S : Nat → Prop} {bx : Nat → Nat} {n : Int} {vs : List Value} (hl : vs.length = reals [Arg.v false [vI n]]) (ha : ∀ i (h : i < [Arg.v false [vI n]].length) (h2 : i < vs.length), ArgRep w S bx (bx i) vs[i] [Arg.v false [vI n]][i]) : vs = [.int .i64 n] := by
 match vs, hl, ha with
 | [v], _, ha =>
  obtain ⟨c, hc, hr⟩ := ha 0 (by simp) (by simp)
  cases hc
  rw [show v = .int .i64 n from (crep_val hr).1]
 | [], hl, _ => cases hl
 | _ :: _ :: _, hl, _ => cases hl
theorem vs_str {w : World} {S : Nat → Prop} {bx : Nat → Nat} {s : ByteArray} {vs : List Value} (hl : vs.length = reals [Arg.v false [vS s]]) (ha : ∀ i (h : i < [Arg.v false [vS s]].length) (h2 : i < vs.length), ArgRep w S bx (bx i) vs[i] [Arg.v false [vS s]][i]) : vs = [.string s] := by
 match vs, hl, ha with
 | [v], _, ha =>
  obtain ⟨c, hc, hr⟩ := ha 0 (by simp) (by simp)
  cases hc
  rw [show v = .string s from (crep_val hr).1]
 | [], hl, _ => cases hl
 | _ :: _ :: _, hl, _ => cases hl
theorem vs_str2 {w : World} {S : Nat → Prop} {bx : Nat → Nat} {s t : ByteArray} {vs : List Value} (hl : vs.length = reals [Arg.v false [vS s], Arg.v false [vS t]]) (ha : ∀ i (h : i < [Arg.v false [vS s], Arg.v false [vS t]].length) (h2 : i < vs.length), ArgRep w S bx (bx i) vs[i] [Arg.v false [vS s], Arg.v false [vS t]][i]) : vs = [.string s, .string t] := by
 match vs, hl, ha with
 | [v, u], _, ha =>
  obtain ⟨c, hc, hr⟩ := ha 0 (by simp) (by simp)
  cases hc
  obtain ⟨c2, hc2, hr2⟩ := ha 1 (by simp) (by simp)
  cases hc2
  rw [show v = .string s from (crep_val hr).1, show u = .string t from (crep_val hr2).1]
 | [], hl, _ => cases hl
 | [_], hl, _ => cases hl
 | _ :: _ :: _ :: _, hl, _ => cases hl
theorem c_Itoa (n : Int) (h0 : -9223372036854775808 ≤ n) (h1 : n ≤ 9223372036854775807) : pc 15 [.v false [vI n]] (ret1 (.st (vS (itoaS n)))) := by
 refine ⟨enters Tryd.func15 (by kernel_rfl) (by kernel_rfl), pc_of_calls rfl fun w S bx vs hlow hl ha => ?_⟩
 cases vs_int hl ha
 refine (Any.strconv_Itoa Tryd.laysM171 n h0 h1 w (tab_of (by kernel_rfl) hlow.2)).mono ?_
 rintro e w' ⟨rfl, k, os, rfl⟩
 exact ⟨rfl, ⟨rfl, rfl, rfl, by simp [Go.Sort.grow], fun b hb _ => by simp [Go.Sort.grow, Array.getElem?_append_left hb]⟩⟩
theorem pc_of_calls2 {P : Program} {T : TT} {f : FuncId} {args : List Arg} {v : Value} (hp : plain v = true) (h : ∀ (w : World) (S : Nat → Prop) (bx : Nat → Nat) (vs : List Value), LowG w S → vs.length = reals args → (∀ i (h : i < args.length) (h2 : i < vs.length), ArgRep w S bx (bx i) vs[i] args[i]) →
  Calls P f vs.toArray w fun e w' => (∃ u, e = .returned (.tuple #[v, u])) ∧ Chg (fun _ => False) w w') : PC P T f args (rets [(false, [.st (.val v)]), (false, [.dead])]) [] := by
 intro w S bx ph vs hheap hl ha
 refine (h w S bx vs hheap.low hl ha).mono ?_
 rintro e w' ⟨⟨u, rfl⟩, hc⟩
 have hS : ∀ b, S b → w'.heap[b]? = w.heap[b]? := fun b hb => hc.block b (hheap.low.1 b hb) id
 have hg : ∀ t, ([Root.loose [.st (.val v), .dead]] : List Root).getD (t + 1) .none = .none := fun t => by simp
 have hno : ∀ (bx : Nat → Nat) (ph : Nat → Nat → Pv) t κ b, ¬ owns (Root.loose [.st (.val v), .dead] :: []) bx ph t κ b := fun bx ph t κ b hb => by
  cases t with
  | succ t => exact (owns_none _ _ _ (hg t) _ _ hb).elim
  | zero =>
   cases κ with
   | none => obtain ⟨row, h1, _⟩ := owns_box hb; cases h1
   | some o =>
    obtain ⟨rc, h1, h2⟩ := owns_cell hb
    match o, h1 with
    | 0, h1 => cases h1; cases h2
    | 1, h1 => cases h1; cases h2
    | o + 2, h1 => cases h1
 refine ⟨.tuple #[v, u], S, fun i => if i = 0 then 0 else bx (i - 1), fun t o => if t = 0 then (if o = 0 then .of v else .of u) else default, rfl, ⟨?_, ?_, fun i => by simp, fun b h => h, fun b h => .inl h, fun t κ b hb => absurd hb (hno _ _ t κ b), ?_⟩⟩
 ·refine ⟨fun t => ?_, fun t κ t' κ' b hb => absurd hb (hno _ _ t κ b), fun t κ b hb => absurd hb (hno _ _ t κ b), ⟨fun b hb => Nat.lt_of_lt_of_le (hheap.low.1 b hb) hc.size, hheap.low.2.frame hS fun _ h => h⟩⟩
  cases t with
  | succ t => show RootRep T w' S _ _ (([Root.loose [.st (.val v), .dead]] : List Root).getD (t + 1) .none); rw [hg]; trivial
  | zero =>
   intro o ho
   match o, ho with
   | 0, _ => exact .val hp
   | 1, _ => exact True.intro
   | o + 2, ho => exact absurd (show o + 2 < 2 from ho) (by omega)
 ·show RetRep _ _ (rets [(false, [.st (.val v)]), (false, [.dead])])
  unfold RetRep
  rw [if_pos (by simp [rets])]
  refine ⟨_, rfl, ⟨?_, ?_, trivial⟩⟩
  ·unfold PartVal; rw [if_neg (by simp)]; exact ⟨rfl, rfl⟩
  ·unfold PartVal; rw [if_neg (by simp)]; exact ⟨rfl, rfl⟩
 ·exact hc.mono fun _ _ h => h.elim
def atoiV (s : ByteArray) : Int := match Lib.atoiAll s.data.toList with | .ok v => v | .range => Lib.atoiSat s.data.toList | _ => 0
theorem c_Atoi (s : ByteArray) (hs : s.size ≤ 281474976710656) : pc 21 [.v false [vS s]] (rets [(false, [.st (vI (atoiV s))]), (false, [.dead])]) := by
 refine ⟨enters Tryd.func21 (by kernel_rfl) (by kernel_rfl), pc_of_calls2 rfl fun w S bx vs hlow hl ha => ?_⟩
 cases vs_str hl ha
 unfold atoiV
 cases h : Lib.atoiAll s.data.toList
 ·rename_i v
  refine (Any.strconv_Atoi_ok Tryd.laysC172 s (by omega) v h w).mono ?_
  rintro e w' ⟨rfl, hw⟩
  have hb : Below w.heap.size w w' := by
   rcases hw with rfl | ⟨t, rfl⟩
   ·exact Below.refl _ _
   ·exact Lib.bytesWorld_below _ _ _
  exact ⟨⟨_, rfl⟩, Chg.of_below hb _⟩
 ·obtain ⟨ev, h1, h2⟩ := err_of (g := 1) (by unfold gndV; simp) hlow.2
  refine (Any.strconv_Atoi_syntax Tryd.laysC172 s hs h ev w h1 h2).mono ?_
  rintro e w' ⟨N, rfl, _, _, hb⟩
  exact ⟨⟨_, rfl⟩, Chg.of_below hb _⟩
 ·obtain ⟨ev, h1, h2⟩ := err_of (g := 2) (by unfold gndV; simp) hlow.2
  refine (Any.strconv_Atoi_range Tryd.laysC172 s hs h ev w h1 h2).mono ?_
  rintro e w' ⟨N, rfl, _, _, hb⟩
  exact ⟨⟨_, rfl⟩, Chg.of_below hb _⟩
def spI (s : ByteArray) : Int := Lib.indexByte s.data.toList 32
theorem c_Index (s : ByteArray) : pc 32 [.v false [vS s], .v false [vS ⟨⟨[32]⟩⟩]] (ret1 (.st (vI (spI s)))) := by
 refine ⟨enters Tryd.func32 (by kernel_rfl) (by kernel_rfl), pc_of_calls rfl fun w S bx vs hlow hl ha => ?_⟩
 cases vs_str2 hl ha
 refine (Any.stringslite_Index_one Tryd.lays219 s 32 w).mono ?_
 rintro e w' ⟨rfl, rfl⟩
 exact ⟨rfl, Chg.refl _ _⟩
end Go.Proofs.YtipmpjphjhipjaaDoor.A
/- Requests: a text up to its first space. -/
set_option linter.unusedSimpArgs false
set_option linter.unusedVariables false
set_option maxRecDepth 100000
set_option maxHeartbeats 4000000
namespace Go.Proofs.YtipmpjphjhipjaaDoor.A
open Go Go.RowKit
theorem bt_list (s : ByteArray) {k : Nat} (h : k < s.size) : s.data.toList[k]? = some (s.data.toList[k]'(by simpa using h)) ∧ bt s k = (s.data.toList[k]'(by simpa using h)).toNat := by
 refine ⟨List.getElem?_eq_getElem _, ?_⟩
 rw [bt_eq h]; rfl
theorem bt_at (s : ByteArray) {k : Nat} (h : k < s.size) : s.data.toList[k]? = some 32 ↔ bt s k = 32 := by
 obtain ⟨h1, h2⟩ := bt_list s h
 rw [h1, h2, Option.some.injEq]
 exact ⟨fun q => by rw [q]; rfl, fun q => UInt8.toNat_inj.1 q⟩
theorem sp_spec (s : ByteArray) : (spI s = -1 ∧ ∀ k, k < s.size → bt s k ≠ 32) ∨ ∃ o : Nat, spI s = o ∧ o < s.size ∧ bt s o = 32 ∧ ∀ k, k < o → bt s k ≠ 32 := by
 unfold spI
 have hge := Lib.indexByte_ge s.data.toList 32
 by_cases h : Lib.indexByte s.data.toList 32 = -1
 ·exact .inl ⟨h, fun k hk => fun q => Lib.indexByte_none h k ((bt_at s hk).2 q)⟩
 ·obtain ⟨o, ho⟩ : ∃ o : Nat, Lib.indexByte s.data.toList 32 = o := ⟨(Lib.indexByte s.data.toList 32).toNat, by omega⟩
  obtain ⟨q1, q2⟩ := Lib.indexByte_some ho
  have hlt : o < s.size := by
   have := (List.getElem?_eq_some_iff.1 q1).1
   simpa using this
  exact .inr ⟨o, ho, hlt, (bt_at s hlt).1 q1, fun k hk q => q2 k hk ((bt_at s (by omega)).2 q)⟩
theorem sp_yes {s : ByteArray} {k : Nat} (h : k < s.size) (hp : bt s k = 32) (hb : ∀ i, i < k → bt s i ≠ 32) : spI s = k := by
 rcases sp_spec s with ⟨_, q⟩ | ⟨o, q1, q2, q3, q4⟩
 ·exact absurd hp (q k h)
 ·rw [q1]
  rcases Nat.lt_trichotomy o k with g | g | g
  ·exact absurd q3 (hb o g)
  ·rw [g]
  ·exact absurd hp (q4 k g)
theorem sp_no {s : ByteArray} (hb : ∀ i, i < s.size → bt s i ≠ 32) : spI s = -1 := by
 rcases sp_spec s with ⟨q, _⟩ | ⟨o, _, q2, q3, _⟩
 ·exact q
 ·exact absurd q3 (hb o q2)
theorem sp_lt (s : ByteArray) : -1 ≤ spI s ∧ spI s < s.size := by
 rcases sp_spec s with ⟨q, _⟩ | ⟨o, q1, q2, _, _⟩ <;> omega
def hdS (s : ByteArray) : ByteArray := if 0 ≤ spI s then s.extract 0 (spI s).toNat else s
def tlS (s : ByteArray) : ByteArray := if 0 ≤ spI s then s.extract ((spI s).toNat + 1) s.size else ⟨⟨[]⟩⟩
def mrB (s : ByteArray) : Bool := decide (0 ≤ spI s)
theorem rCut_of {s a b : ByteArray} {c : Bool} (h1 : hdS s = a) (h2 : tlS s = b) (h3 : mrB s = c) : rets [(false, [.st (vS (hdS s))]), (false, [.st (vS (tlS s))]), (false, [.st (vB (mrB s))])] = ⟨true, [(false, [.st (.val (.string a))]), (false, [.st (.val (.string b))]), (false, [.st (.val (.bool c))])]⟩ := by rw [h1, h2, h3]; rfl
abbrev spS : ByteArray := ⟨⟨[32]⟩⟩
def bookAskC (x_spI : ByteArray → Int) (x_hdS : ByteArray → ByteArray) (x_tlS : ByteArray → ByteArray) (x_mrB : ByteArray → Bool) : Book := fun f xs => match f, xs with
 | 32, [.v false [.val (.string s)], _] => some (ret1 (.st (vI (x_spI s))))
 | 27, [.v false [.val (.string s)], _] => some (rets [(false, [.st (vS (x_hdS s))]), (false, [.st (vS (x_tlS s))]), (false, [.st (vB (x_mrB s))])])
 | _, _ => none
theorem c_lCut (s : ByteArray) (hs : s.size < 4611686018427387904) : pc 27 [.v false [vS s], .v false [vS ⟨⟨[32]⟩⟩]] (rets [(false, [.st (vS (hdS s))]), (false, [.st (vS (tlS s))]), (false, [.st (vB (mrB s))])]) := by
 refine ⟨enters Tryd.func27 (by kernel_rfl) (by kernel_rfl), pc_of tok Tryd.func27 rfl (by rfl) ?_⟩
 obtain ⟨j, hj⟩ : ∃ j : J, j = std Tryd.prog T := ⟨_, rfl⟩
 have hm : Tryd.prog.follows .mixedOrders = true := by kernel_rfl
 have hl := sp_lt s
 have h1 : (⟨⟨[32]⟩⟩ : ByteArray).size = 1 := rfl
 generalize y_spI : @spI = x_spI at *
 generalize y_hdS : @hdS = x_hdS at *
 generalize y_tlS : @tlS = x_tlS at *
 generalize y_mrB : @mrB = x_mrB at *
 (repeat' first | ((first | with_reducible refine tr_cut (fun h => ?_) (fun h => ?_) | refine aw_condj (by cbv) (fun h => ?_) (fun h => ?_)) <;> (try simp (disch := omega) only [hj, std, cmpI, cmpB, satB, Bool.not_eq_true, Bool.not_eq_false, decide_eq_true_eq, decide_eq_false_iff_not, beq_iff_eq, bne_iff_ne, bne_eq_false_iff_eq, beq_eq_false_iff_ne, ne_eq, reduceCtorEq, not_true_eq_false, not_false_eq_true, pl0, if_true, cmpS_eq, cmpS_neq, Bool.not_eq_eq_eq_not, Bool.not_true, Bool.not_false, Bool.not_eq_true', add64, sub64] at h) <;> (try (exfalso; omega))) | (with_reducible refine tr_alt (fun h => ?_) ?_ <;> (try (exfalso; omega))) | (with_reducible first | refine tr_ob ?_ ?_ | refine tr_done ?_) | (refine aw_dr1 (id := 3) hj tok hm (bookAskC x_spI x_hdS x_tlS x_mrB) true [(0, false), (1, false), (2, false), (3, false), (4, false), (5, false), (6, false), (7, false), (8, false), (9, true), (10, true), (11, true)] (by kernel_rfl) (by cbv) ?_) | (refine aw_dr (id := 3) hj tok hm (bookAskC x_spI x_hdS x_tlS x_mrB) true [(0, false), (1, false), (2, false), (3, false), (4, false), (5, false), (6, false), (7, false), (8, false), (9, true), (10, true), (11, true)] (by kernel_rfl) (by cbv) ?_) | (refine aw_tr hj tok (bookAskC x_spI x_hdS x_tlS x_mrB) (by cbv) ?_) | (refine aw_seq fun K hK => ?_) | (refine aw_tr1 hj tok (bookAskC x_spI x_hdS x_tlS x_mrB) (by cbv) ?_) | (refine aw_skip ?_) | (refine aw_block ?_) | (refine aw_exit ?_) | (refine aw_ret ⟨.inr rfl, ret_okj hj (by cbv) ?_ ?_⟩) | (refine aw_ret ?_) | (with_reducible first | refine th_n ?_ | refine th_r ?_ | refine th_x ?_ | refine blk_n ?_ | refine blk_r ?_ | refine blk_x ?_ | refine blk_y rfl ?_) | (refine ⟨.inr rfl, ret_okj hj (by cbv) ?_ ?_⟩) | (refine ⟨.inl rfl, ret_okj hj (by cbv) ?_ ?_⟩) | (with_reducible apply_assumption -symm -exfalso only [*]))
 all_goals ((try subst y_spI); (try subst y_hdS); (try subst y_tlS); (try subst y_mrB))
 all_goals (try (repeat' first | with_reducible exact obl0 | with_reducible refine obl1 ?_ ?_))
 all_goals (try first | with_reducible exact True.intro | ((first | refine ob_pc hj ?_ | refine ob_pcn hj ?_); (try rw [hj]); first | exact c_Index s) | ((first | refine ob_le hj ?_ | refine ob_lei hj ?_ | refine ob_inb hj ?_ | refine ob_pos hj ?_ | refine ob_ne0 hj ?_ | refine ob_eqb hj ?_); (first | rfl | first | omega | (simp only [hj, std]; split <;> omega) | (simp (disch := omega) only [hj, std, cmpI, cmpB, satB, add64, sub64, ite0, pl0, pl2, pl3, sb0, if_true, if_false, eq_self, h1] <;> omega) | (simp (disch := omega) [hj, std, cmpI, cmpB, satB, add64, sub64, ite0, pl0, pl2, pl3, sb0, if_true, if_false, eq_self, h1] <;> omega))) | ((refine rCut_of ?_ ?_ ?_ <;> (try simp only [hj, std, pl0, if_true]) <;> first | (unfold hdS; rw [if_pos (by omega)]) | (unfold tlS; rw [if_pos (by omega), h1, add64 (by omega) (by omega), show (spI s + ((1 : Nat) : Int)).toNat = (spI s).toNat + 1 by omega]) | (exact decide_eq_true (by omega)) | (unfold hdS; rw [if_neg (by omega)]) | (unfold tlS; rw [if_neg (by omega)]) | (exact decide_eq_false (by omega)))))
theorem c_Cut (s : ByteArray) (hs : s.size < 4611686018427387904) : pc 20 [.v false [vS s], .v false [vS ⟨⟨[32]⟩⟩]] (rets [(false, [.st (vS (hdS s))]), (false, [.st (vS (tlS s))]), (false, [.st (vB (mrB s))])]) := by
 refine ⟨enters Tryd.func20 (by kernel_rfl) (by kernel_rfl), pc_of tok Tryd.func20 rfl (by rfl) ?_⟩
 obtain ⟨j, hj⟩ : ∃ j : J, j = std Tryd.prog T := ⟨_, rfl⟩
 have hm : Tryd.prog.follows .mixedOrders = true := by kernel_rfl
 generalize y_spI : @spI = x_spI at *
 generalize y_hdS : @hdS = x_hdS at *
 generalize y_tlS : @tlS = x_tlS at *
 generalize y_mrB : @mrB = x_mrB at *
 (repeat' first | ((first | with_reducible refine tr_cut (fun h => ?_) (fun h => ?_) | refine aw_condj (by cbv) (fun h => ?_) (fun h => ?_)) <;> (try simp (disch := omega) only [hj, std, cmpI, cmpB, satB, Bool.not_eq_true, Bool.not_eq_false, decide_eq_true_eq, decide_eq_false_iff_not, beq_iff_eq, bne_iff_ne, bne_eq_false_iff_eq, beq_eq_false_iff_ne, ne_eq, reduceCtorEq, not_true_eq_false, not_false_eq_true, pl0, if_true, cmpS_eq, cmpS_neq, Bool.not_eq_eq_eq_not, Bool.not_true, Bool.not_false, Bool.not_eq_true', add64, sub64] at h) <;> (try (exfalso; omega))) | (with_reducible refine tr_alt (fun h => ?_) ?_ <;> (try (exfalso; omega))) | (with_reducible first | refine tr_ob ?_ ?_ | refine tr_done ?_) | (refine aw_tr hj tok (bookAskC x_spI x_hdS x_tlS x_mrB) (by cbv) ?_) | (refine aw_seq fun K hK => ?_) | (refine aw_tr1 hj tok (bookAskC x_spI x_hdS x_tlS x_mrB) (by cbv) ?_) | (refine aw_skip ?_) | (refine aw_block ?_) | (refine aw_exit ?_) | (refine aw_ret ⟨.inr rfl, ret_okj hj (by cbv) ?_ ?_⟩) | (refine aw_ret ?_) | (with_reducible first | refine th_n ?_ | refine th_r ?_ | refine th_x ?_ | refine blk_n ?_ | refine blk_r ?_ | refine blk_x ?_ | refine blk_y rfl ?_) | (refine ⟨.inr rfl, ret_okj hj (by cbv) ?_ ?_⟩) | (refine ⟨.inl rfl, ret_okj hj (by cbv) ?_ ?_⟩) | (with_reducible apply_assumption -symm -exfalso only [*]))
 all_goals ((try subst y_spI); (try subst y_hdS); (try subst y_tlS); (try subst y_mrB))
 all_goals (try (repeat' first | with_reducible exact obl0 | with_reducible refine obl1 ?_ ?_))
 all_goals (try first | with_reducible exact True.intro | ((first | refine ob_pc hj ?_ | refine ob_pcn hj ?_); (try rw [hj]); first | exact c_lCut s hs) | ((first | refine ob_le hj ?_ | refine ob_lei hj ?_ | refine ob_inb hj ?_ | refine ob_pos hj ?_ | refine ob_ne0 hj ?_ | refine ob_eqb hj ?_); (first | rfl | first | omega | (simp only [hj, std]; split <;> omega) | (simp (disch := omega) only [hj, std, cmpI, cmpB, satB, add64, sub64, ite0, pl0, pl2, pl3, sb0, if_true, if_false, eq_self] <;> omega) | (simp (disch := omega) [hj, std, cmpI, cmpB, satB, add64, sub64, ite0, pl0, pl2, pl3, sb0, if_true, if_false, eq_self] <;> omega))) | (exact rfl))
theorem c_rCut (s : ByteArray) (hs : s.size < 4611686018427387904) : pc 22 [.v false [vS s]] (rets [(false, [.st (vS (hdS s))]), (false, [.st (vS (tlS s))]), (false, [.st (vB (mrB s))])]) := by
 refine ⟨enters Tryd.func22 (by kernel_rfl) (by kernel_rfl), pc_of tok Tryd.func22 rfl (by rfl) ?_⟩
 obtain ⟨j, hj⟩ : ∃ j : J, j = std Tryd.prog T := ⟨_, rfl⟩
 have hm : Tryd.prog.follows .mixedOrders = true := by kernel_rfl
 generalize y_spI : @spI = x_spI at *
 generalize y_hdS : @hdS = x_hdS at *
 generalize y_tlS : @tlS = x_tlS at *
 generalize y_mrB : @mrB = x_mrB at *
 (repeat' first | ((first | with_reducible refine tr_cut (fun h => ?_) (fun h => ?_) | refine aw_condj (by cbv) (fun h => ?_) (fun h => ?_)) <;> (try simp (disch := omega) only [hj, std, cmpI, cmpB, satB, Bool.not_eq_true, Bool.not_eq_false, decide_eq_true_eq, decide_eq_false_iff_not, beq_iff_eq, bne_iff_ne, bne_eq_false_iff_eq, beq_eq_false_iff_ne, ne_eq, reduceCtorEq, not_true_eq_false, not_false_eq_true, pl0, if_true, cmpS_eq, cmpS_neq, Bool.not_eq_eq_eq_not, Bool.not_true, Bool.not_false, Bool.not_eq_true', add64, sub64] at h) <;> (try (exfalso; omega))) | (with_reducible refine tr_alt (fun h => ?_) ?_ <;> (try (exfalso; omega))) | (with_reducible first | refine tr_ob ?_ ?_ | refine tr_done ?_) | (refine aw_tr hj tok (bookAskC x_spI x_hdS x_tlS x_mrB) (by cbv) ?_) | (refine aw_seq fun K hK => ?_) | (refine aw_tr1 hj tok (bookAskC x_spI x_hdS x_tlS x_mrB) (by cbv) ?_) | (refine aw_skip ?_) | (refine aw_block ?_) | (refine aw_exit ?_) | (refine aw_ret ⟨.inr rfl, ret_okj hj (by cbv) ?_ ?_⟩) | (refine aw_ret ?_) | (with_reducible first | refine th_n ?_ | refine th_r ?_ | refine th_x ?_ | refine blk_n ?_ | refine blk_r ?_ | refine blk_x ?_ | refine blk_y rfl ?_) | (refine ⟨.inr rfl, ret_okj hj (by cbv) ?_ ?_⟩) | (refine ⟨.inl rfl, ret_okj hj (by cbv) ?_ ?_⟩) | (with_reducible first | refine ⟨(_, _, _, _, _, _, _, _, _), by cbv, ?_, ?_⟩ | refine ⟨(_, _, _, _, _, _, _, _), by cbv, ?_, ?_⟩ | refine ⟨(_, _, _, _, _, _, _), by cbv, ?_, ?_⟩ | refine ⟨(_, _, _, _, _, _), by cbv, ?_, ?_⟩ | refine ⟨(_, _, _, _, _), by cbv, ?_, ?_⟩ | refine ⟨(_, _, _, _), by cbv, ?_, ?_⟩ | refine ⟨(_, _, _), by cbv, ?_, ?_⟩ | refine ⟨(_, _), by cbv, ?_, ?_⟩ | refine ⟨_, by cbv, ?_, ?_⟩) | (with_reducible apply_assumption -symm -exfalso only [*]))
 all_goals ((try subst y_spI); (try subst y_hdS); (try subst y_tlS); (try subst y_mrB))
 all_goals (try (repeat' first | with_reducible exact obl0 | (with_reducible refine obl1 ?_ ?_)))
 all_goals (try first | with_reducible exact True.intro | ((first | refine ob_le hj ?_ | refine ob_lei hj ?_ | refine ob_inb hj ?_ | refine ob_pos hj ?_ | refine ob_ne0 hj ?_ | refine ob_eqb hj ?_); (first | rfl | first | omega | (simp only [hj, std]; split <;> omega) | (simp (disch := omega) only [hj, std, cmpI, cmpB, satB, add64, sub64, ite0, pl0, pl2, pl3, sb0, if_true, if_false, eq_self] <;> omega) | (simp (disch := omega) [hj, std, cmpI, cmpB, satB, add64, sub64, ite0, pl0, pl2, pl3, sb0, if_true, if_false, eq_self] <;> omega))))
 refine aw_lpj hj [(0, .keep), (5, .keep)] [] (fun i : Int => stOf 24 [(0, .one (.c (vS s))), (5, .one (.c (vI i)))] []) (fun i => s.size - i.toNat) (fun i => 0 ≤ i ∧ i ≤ s.size ∧ ∀ k : Nat, (k : Int) < i → bt s k ≠ 32) 0 (by generalize @spI = x_spI; generalize @hdS = x_hdS; generalize @tlS = x_tlS; generalize @mrB = x_mrB; cbv) ⟨by omega, by omega, fun k hk => by omega⟩ fun i ⟨i1, i2, i3⟩ => ?_
 change 0 ≤ i at i1
 change i ≤ s.size at i2
 generalize y_spI : @spI = x_spI at *
 generalize y_hdS : @hdS = x_hdS at *
 generalize y_tlS : @tlS = x_tlS at *
 generalize y_mrB : @mrB = x_mrB at *
 (repeat' first | ((first | with_reducible refine tr_cut (fun h => ?_) (fun h => ?_) | refine aw_condj (by cbv) (fun h => ?_) (fun h => ?_)) <;> (try simp (disch := omega) only [hj, std, cmpI, cmpB, satB, Bool.not_eq_true, Bool.not_eq_false, decide_eq_true_eq, decide_eq_false_iff_not, beq_iff_eq, bne_iff_ne, bne_eq_false_iff_eq, beq_eq_false_iff_ne, ne_eq, reduceCtorEq, not_true_eq_false, not_false_eq_true, pl0, if_true, cmpS_eq, cmpS_neq, Bool.not_eq_eq_eq_not, Bool.not_true, Bool.not_false, Bool.not_eq_true', add64, sub64] at h) <;> (try (exfalso; omega))) | (with_reducible refine tr_alt (fun h => ?_) ?_ <;> (try (exfalso; omega))) | (with_reducible first | refine tr_ob ?_ ?_ | refine tr_done ?_) | (refine aw_dr1 (id := 5) hj tok hm (bookAskC x_spI x_hdS x_tlS x_mrB) true [(0, false), (1, false), (2, false), (3, false), (4, false), (5, false), (6, false), (7, true), (8, true), (9, true)] (by kernel_rfl) (by cbv) ?_) | (refine aw_dr (id := 5) hj tok hm (bookAskC x_spI x_hdS x_tlS x_mrB) true [(0, false), (1, false), (2, false), (3, false), (4, false), (5, false), (6, false), (7, true), (8, true), (9, true)] (by kernel_rfl) (by cbv) ?_) | (refine aw_tr hj tok (bookAskC x_spI x_hdS x_tlS x_mrB) (by cbv) ?_) | (refine aw_seq fun K hK => ?_) | (refine aw_tr1 hj tok (bookAskC x_spI x_hdS x_tlS x_mrB) (by cbv) ?_) | (refine aw_skip ?_) | (refine aw_block ?_) | (refine aw_exit ?_) | (refine aw_ret ⟨.inr rfl, ret_okj hj (by cbv) ?_ ?_⟩) | (refine aw_ret ?_) | (with_reducible first | refine th_n ?_ | refine th_r ?_ | refine th_x ?_ | refine blk_n ?_ | refine blk_r ?_ | refine blk_x ?_ | refine blk_y rfl ?_) | (refine ⟨.inr rfl, ret_okj hj (by cbv) ?_ ?_⟩) | (refine ⟨.inl rfl, ret_okj hj (by cbv) ?_ ?_⟩) | (with_reducible first | refine ⟨(_, _, _, _, _, _, _, _, _), by cbv, ?_, ?_⟩ | refine ⟨(_, _, _, _, _, _, _, _), by cbv, ?_, ?_⟩ | refine ⟨(_, _, _, _, _, _, _), by cbv, ?_, ?_⟩ | refine ⟨(_, _, _, _, _, _), by cbv, ?_, ?_⟩ | refine ⟨(_, _, _, _, _), by cbv, ?_, ?_⟩ | refine ⟨(_, _, _, _), by cbv, ?_, ?_⟩ | refine ⟨(_, _, _), by cbv, ?_, ?_⟩ | refine ⟨(_, _), by cbv, ?_, ?_⟩ | refine ⟨_, by cbv, ?_, ?_⟩) | (with_reducible apply_assumption -symm -exfalso only [*]))
 all_goals ((try subst y_spI); (try subst y_hdS); (try subst y_tlS); (try subst y_mrB))
 all_goals (try (have h9 : spI s = i.toNat := sp_yes (k := i.toNat) (by omega) (by omega) (fun k hk => i3 k (by omega))))
 all_goals (try (have h8 : spI s = -1 := sp_no (fun k hk => i3 k (by omega))))
 all_goals (try (repeat' first | with_reducible exact obl0 | with_reducible refine obl1 ?_ ?_))
 all_goals (try first | with_reducible exact True.intro | ((first | refine ob_le hj ?_ | refine ob_lei hj ?_ | refine ob_inb hj ?_ | refine ob_pos hj ?_ | refine ob_ne0 hj ?_ | refine ob_eqb hj ?_); (first | rfl | first | omega | (simp only [hj, std]; split <;> omega) | (simp (disch := omega) only [hj, std, cmpI, cmpB, satB, add64, sub64, ite0, pl0, pl2, pl3, sb0, if_true, if_false, eq_self] <;> omega) | (simp (disch := omega) [hj, std, cmpI, cmpB, satB, add64, sub64, ite0, pl0, pl2, pl3, sb0, if_true, if_false, eq_self] <;> omega))) | ((refine rCut_of ?_ ?_ ?_ <;> (try simp only [hj, std, pl0, if_true]) <;> first | (unfold hdS; rw [if_pos (by omega), show (spI s).toNat = i.toNat by omega]) | (unfold tlS; rw [if_pos (by omega), add64 (by omega) (by omega), show (i + 1).toNat = (spI s).toNat + 1 by omega]) | (exact decide_eq_true (by omega)) | (unfold hdS; rw [if_neg (by omega)]) | (unfold tlS; rw [if_neg (by omega)]) | (exact decide_eq_false (by omega)))) | ((simp (disch := omega) only [hj, std, add64]; first | omega | exact ⟨by omega, by omega, fun k hk => by (rcases Decidable.em ((k : Int) < i) with g | g; exact i3 k g; rw [show k = i.toNat by omega]; omega)⟩)))
end Go.Proofs.YtipmpjphjhipjaaDoor.A
/- Requests: texts that may stand in a line. -/
set_option linter.unusedSimpArgs false
set_option linter.unusedVariables false
set_option maxRecDepth 100000
set_option maxHeartbeats 4000000
namespace Go.Proofs.YtipmpjphjhipjaaDoor.A
open Go Go.RowKit
def goodB (s : ByteArray) : Bool := (List.range s.size).all fun k => decide (32 ≤ bt s k ∧ bt s k ≤ 126)
theorem good_iff (s : ByteArray) : goodB s = true ↔ ∀ k, k < s.size → 32 ≤ bt s k ∧ bt s k ≤ 126 := by
 unfold goodB
 rw [List.all_eq_true]
 exact ⟨fun h k hk => of_decide_eq_true (h k (List.mem_range.2 hk)), fun h k hk => decide_eq_true (h k (List.mem_range.1 hk))⟩
def plainB (s : ByteArray) : Bool := decide (s.size ≤ 4000) && goodB s
theorem plain_iff (s : ByteArray) : plainB s = true ↔ s.size ≤ 4000 ∧ ∀ k, k < s.size → 32 ≤ bt s k ∧ bt s k ≤ 126 := by
 unfold plainB
 rw [Bool.and_eq_true, decide_eq_true_eq, good_iff]
theorem plain_no {s : ByteArray} {k : Nat} (h : k < s.size) (hb : ¬ (32 ≤ bt s k ∧ bt s k ≤ 126)) : plainB s = false := by
 rw [Bool.eq_false_iff]; intro h'
 exact hb (((plain_iff s).1 h').2 k h)
theorem plain_all {s : ByteArray} (h : ∀ k, k < s.size → 32 ≤ bt s k ∧ bt s k ≤ 126) : plainB s = decide (s.size ≤ 4000) := by
 rw [Bool.eq_iff_iff, plain_iff, decide_eq_true_eq]
 exact ⟨fun q => q.1, fun q => ⟨q, h⟩⟩
/-! ### runes -/
def pBad (x : Nat) : Bool := decide (x < 32) || decide (126 < x)
theorem decode_bt (s : ByteArray) {i : Nat} (h : i < s.size) : (bt s i < 128 ∧ Utf8.decode s i = (bt s i, 1)) ∨ (128 ≤ bt s i ∧ 126 < (Utf8.decode s i).1) := by
 have e : (s.get! i).toNat = bt s i := by
  rw [bt_eq h]
  show (s.data[i]!).toNat = _
  rw [getElem!_pos s.data i h]; rfl
 rw [Lib.decode_at, e]
 unfold Lib.decodeN
 (repeat' split) <;> first | (left; exact ⟨by omega, rfl⟩) | (right; refine ⟨by omega, ?_⟩; show 126 < _; omega)
theorem bad_from (s : ByteArray) : ∀ f i, s.size ≤ i + f → (Lib.idxFuncFrom pBad true s f i < 0 ↔ ∀ k, i ≤ k → k < s.size → 32 ≤ bt s k ∧ bt s k ≤ 126) := by
 intro f
 induction f with
 | zero => intro i hi; exact ⟨fun _ k h1 h2 => by omega, fun _ => by show (-1 : Int) < 0; omega⟩
 | succ f ih =>
  intro i hi
  by_cases h : i < s.size
  ·unfold Lib.idxFuncFrom
   rw [if_pos h]
   rcases decode_bt s h with ⟨q1, q2⟩ | ⟨q1, q2⟩
   ·rw [q2]
    by_cases hb : 32 ≤ bt s i ∧ bt s i ≤ 126
    ·have hp : pBad (bt s i, 1).1 = false := by
      unfold pBad
      rw [decide_eq_false (by show ¬ bt s i < 32; omega), decide_eq_false (by show ¬ 126 < bt s i; omega)]; rfl
     rw [hp, if_neg (by simp)]
     rw [ih (i + 1) (by omega)]
     refine ⟨fun g k h1 h2 => ?_, fun g k h1 h2 => g k (by omega) h2⟩
     by_cases e : k = i
     ·rw [e]; exact hb
     ·exact g k (by omega) h2
    ·have hp : pBad (bt s i, 1).1 = true := by
      unfold pBad
      rw [Bool.or_eq_true, decide_eq_true_eq, decide_eq_true_eq]
      show bt s i < 32 ∨ 126 < bt s i
      omega
     rw [hp, if_pos rfl]
     exact ⟨fun g => by omega, fun g => absurd (g i (Nat.le_refl _) h) hb⟩
   ·have hp : pBad (Utf8.decode s i).1 = true := by
     unfold pBad
     rw [Bool.or_eq_true, decide_eq_true_eq, decide_eq_true_eq]
     exact .inr q2
    rw [hp, if_pos rfl]
    exact ⟨fun g => by omega, fun g => by have := g i (Nat.le_refl _) h; omega⟩
  ·rw [Lib.idxFuncFrom_end _ _ _ _ _ h]
   exact ⟨fun _ k h1 h2 => by omega, fun _ => by omega⟩
def idxBadI (s : ByteArray) : Int := Lib.idxFunc pBad true s
theorem bad_plain {s : ByteArray} (h : s.size ≤ 4000) : plainB s = decide (idxBadI s < 0) := by
 rw [Bool.eq_iff_iff, plain_iff, decide_eq_true_eq]
 unfold idxBadI Lib.idxFunc
 rw [bad_from s s.size 0 (by omega)]
 exact ⟨fun q k _ h2 => q.2 k h2, fun q => ⟨h, fun k h2 => q k (Nat.zero_le _) h2⟩⟩
set_option maxHeartbeats 4000000 in
set_option maxRecDepth 100000 in
theorem bad_gives (w : World) : PredAtRunes Tryd.prog 24 #[] pBad w := by
 intro W x hx _
 unfold FnGives
 by_cases h1 : x < 32
 ·have e : pBad x = true := by unfold pBad; rw [decide_eq_true h1]; rfl
  have h2 : (x : Int) < 32 := by omega
  rw [e]
  go_enter Tryd.func24, Tryd.ntmps24
  go_wp2
  go_ret
  exact ⟨rfl, 0, rfl⟩
 ·have h2 : ¬ (x : Int) < 32 := by omega
  by_cases h3 : 126 < x
  ·have e : pBad x = true := by unfold pBad; rw [decide_eq_true h3, Bool.or_true]
   have h4 : (x : Int) > 126 := by omega
   rw [e]
   go_enter Tryd.func24, Tryd.ntmps24
   go_wp2
   go_ret
   exact ⟨rfl, 0, rfl⟩
  ·have e : pBad x = false := by unfold pBad; rw [decide_eq_false h1, decide_eq_false h3]; rfl
   have h4 : ¬ (x : Int) > 126 := by omega
   rw [e]
   go_enter Tryd.func24, Tryd.ntmps24
   go_wp2
   go_ret
   exact ⟨rfl, 0, rfl⟩
set_option maxHeartbeats 4000000 in
set_option maxRecDepth 100000 in
theorem idx_any (s : ByteArray) (w : World) : Calls Tryd.prog 25 #[.string s, .func (.func 24) #[] #[]] w fun e w' => e = .returned (.int .i64 (idxBadI s)) ∧ Below w.heap.size w w' := by
 have cI := Any.strings_indexFunc_runes Tryd.lays315 24 #[] (enters Tryd.func24 (by kernel_rfl) (by kernel_rfl)) pBad true s w (bad_gives w)
 change Calls Tryd.prog 30 _ _ _ at cI
 change Calls Tryd.prog 30 _ w fun e w' => e = .returned (.int .i64 (idxBadI s)) ∧ Below w.heap.size w w' at cI
 generalize idxBadI s = z at cI
 go_enter Tryd.func25, Tryd.ntmps25
 go_wp2_with fail
 refine cI.mono ?_
 rintro e w' ⟨rfl, hb⟩
 go_wp2
 go_ret
 exact ⟨rfl, hb⟩
theorem c_IndexFunc (s : ByteArray) : pc 25 [.v false [vS s], .fn 24] (ret1 (.st (vI (idxBadI s)))) := by
 refine ⟨enters Tryd.func25 (by kernel_rfl) (by kernel_rfl), pc_of_calls rfl fun w S bx vs hlow hl ha => ?_⟩
 have hv : vs = [.string s, .func (.func 24) #[] #[]] := by
  match vs, hl, ha with
  | [v, u], _, ha =>
   obtain ⟨c, hc, hr⟩ := ha 0 (by simp) (by simp)
   cases hc
   have h2 : u = .func (.func 24) #[] #[] := ha 1 (by simp) (by simp)
   rw [show v = .string s from (crep_val hr).1, h2]
  | [], hl, _ => cases hl
  | [_], hl, _ => cases hl
  | _ :: _ :: _ :: _, hl, _ => cases hl
 subst hv
 refine (idx_any s w).mono ?_
 rintro e w' ⟨rfl, hb⟩
 exact ⟨rfl, Chg.of_below hb _⟩
def bookAskI (x_idxBadI : ByteArray → Int) : Book := fun f xs => match f, xs with
 | 25, [.v false [.val (.string s)], _] => some (ret1 (.st (vI (x_idxBadI s))))
 | _, _ => none
theorem c_plain (s : ByteArray) : pc 14 [.v false [vS s]] (ret1 (.st (vB (plainB s)))) := by
 refine ⟨enters Tryd.func14 (by kernel_rfl) (by kernel_rfl), pc_of tok Tryd.func14 rfl (by rfl) ?_⟩
 obtain ⟨j, hj⟩ : ∃ j : J, j = std Tryd.prog T := ⟨_, rfl⟩
 have hm : Tryd.prog.follows .mixedOrders = true := by kernel_rfl
 generalize y_idxBadI : @idxBadI = x_idxBadI at *
 generalize y_plainB : @plainB = x_plainB at *
 (repeat' first | ((first | with_reducible refine tr_cut (fun h => ?_) (fun h => ?_) | refine aw_condj (by cbv) (fun h => ?_) (fun h => ?_)) <;> (try simp (disch := omega) only [hj, std, cmpI, cmpB, satB, Bool.not_eq_true, Bool.not_eq_false, decide_eq_true_eq, decide_eq_false_iff_not, beq_iff_eq, bne_iff_ne, bne_eq_false_iff_eq, beq_eq_false_iff_ne, ne_eq, reduceCtorEq, not_true_eq_false, not_false_eq_true, pl0, if_true, cmpS_eq, cmpS_neq, Bool.not_eq_eq_eq_not, Bool.not_true, Bool.not_false, Bool.not_eq_true', add64, sub64] at h) <;> (try (exfalso; omega))) | (with_reducible refine tr_alt (fun h => ?_) ?_ <;> (try (exfalso; omega))) | (with_reducible first | refine tr_ob ?_ ?_ | refine tr_done ?_) | (refine aw_tr hj tok (bookAskI x_idxBadI) (by cbv) ?_) | (refine aw_seq fun K hK => ?_) | (refine aw_tr1 hj tok (bookAskI x_idxBadI) (by cbv) ?_) | (refine aw_skip ?_) | (refine aw_block ?_) | (refine aw_exit ?_) | (refine aw_ret ⟨.inr rfl, ret_okj hj (by cbv) ?_ ?_⟩) | (refine aw_ret ?_) | (with_reducible first | refine th_n ?_ | refine th_r ?_ | refine th_x ?_ | refine blk_n ?_ | refine blk_r ?_ | refine blk_x ?_ | refine blk_y rfl ?_) | (refine ⟨.inr rfl, ret_okj hj (by cbv) ?_ ?_⟩) | (refine ⟨.inl rfl, ret_okj hj (by cbv) ?_ ?_⟩) | (with_reducible apply_assumption -symm -exfalso only [*]))
 all_goals ((try subst y_idxBadI); (try subst y_plainB))
 all_goals (try (have h9 : ¬ s.size ≤ 4000 := (by omega); have h8 : plainB s = false := (by rw [Bool.eq_false_iff]; intro h'; exact h9 ((plain_iff s).1 h').1)))
 all_goals (try (repeat' first | with_reducible exact obl0 | with_reducible refine obl1 ?_ ?_))
 all_goals (try first | with_reducible exact True.intro | ((first | refine ob_pc hj ?_ | refine ob_pcn hj ?_); (try rw [hj]); first | exact c_IndexFunc s) | ((first | refine ob_le hj ?_ | refine ob_lei hj ?_ | refine ob_inb hj ?_ | refine ob_pos hj ?_ | refine ob_ne0 hj ?_ | refine ob_eqb hj ?_); (first | rfl | first | omega | (simp only [hj, std]; split <;> omega) | (simp (disch := omega) only [hj, std, cmpI, cmpB, satB, add64, sub64, ite0, pl0, pl2, pl3, sb0, if_true, if_false, eq_self] <;> omega) | (simp (disch := omega) [hj, std, cmpI, cmpB, satB, add64, sub64, ite0, pl0, pl2, pl3, sb0, if_true, if_false, eq_self] <;> omega))) | ((refine ret1_b ?_; (try simp only [hj, std, cmpI]); exact bad_plain (by omega))) | (exact ret1_b h8))
theorem c_rplain (s : ByteArray) (hs : s.size < 4611686018427387904) : pc 17 [.v false [vS s]] (ret1 (.st (vB (plainB s)))) := by
 refine ⟨enters Tryd.func17 (by kernel_rfl) (by kernel_rfl), pc_of tok Tryd.func17 rfl (by rfl) ?_⟩
 obtain ⟨j, hj⟩ : ∃ j : J, j = std Tryd.prog T := ⟨_, rfl⟩
 have hm : Tryd.prog.follows .mixedOrders = true := by kernel_rfl
 generalize y_plainB : @plainB = x_plainB at *
 (repeat' first | ((first | with_reducible refine tr_cut (fun h => ?_) (fun h => ?_) | refine aw_condj (by cbv) (fun h => ?_) (fun h => ?_)) <;> (try simp (disch := omega) only [hj, std, cmpI, cmpB, satB, Bool.not_eq_true, Bool.not_eq_false, decide_eq_true_eq, decide_eq_false_iff_not, beq_iff_eq, bne_iff_ne, bne_eq_false_iff_eq, beq_eq_false_iff_ne, ne_eq, reduceCtorEq, not_true_eq_false, not_false_eq_true, pl0, if_true, cmpS_eq, cmpS_neq, Bool.not_eq_eq_eq_not, Bool.not_true, Bool.not_false, Bool.not_eq_true', add64, sub64] at h) <;> (try (exfalso; omega))) | (with_reducible refine tr_alt (fun h => ?_) ?_ <;> (try (exfalso; omega))) | (with_reducible first | refine tr_ob ?_ ?_ | refine tr_done ?_) | (refine aw_tr hj tok book0 (by cbv) ?_) | (refine aw_seq fun K hK => ?_) | (refine aw_tr1 hj tok book0 (by cbv) ?_) | (refine aw_skip ?_) | (refine aw_block ?_) | (refine aw_exit ?_) | (refine aw_ret ⟨.inr rfl, ret_okj hj (by cbv) ?_ ?_⟩) | (refine aw_ret ?_) | (with_reducible first | refine th_n ?_ | refine th_r ?_ | refine th_x ?_ | refine blk_n ?_ | refine blk_r ?_ | refine blk_x ?_ | refine blk_y rfl ?_) | (refine ⟨.inr rfl, ret_okj hj (by cbv) ?_ ?_⟩) | (refine ⟨.inl rfl, ret_okj hj (by cbv) ?_ ?_⟩) | (with_reducible first | refine ⟨(_, _, _, _, _, _, _, _, _), by cbv, ?_, ?_⟩ | refine ⟨(_, _, _, _, _, _, _, _), by cbv, ?_, ?_⟩ | refine ⟨(_, _, _, _, _, _, _), by cbv, ?_, ?_⟩ | refine ⟨(_, _, _, _, _, _), by cbv, ?_, ?_⟩ | refine ⟨(_, _, _, _, _), by cbv, ?_, ?_⟩ | refine ⟨(_, _, _, _), by cbv, ?_, ?_⟩ | refine ⟨(_, _, _), by cbv, ?_, ?_⟩ | refine ⟨(_, _), by cbv, ?_, ?_⟩ | refine ⟨_, by cbv, ?_, ?_⟩) | (with_reducible apply_assumption -symm -exfalso only [*]))
 all_goals ((try subst y_plainB))
 all_goals (try (repeat' first | with_reducible exact obl0 | (with_reducible refine obl1 ?_ ?_)))
 all_goals (try first | with_reducible exact True.intro | ((first | refine ob_le hj ?_ | refine ob_lei hj ?_ | refine ob_inb hj ?_ | refine ob_pos hj ?_ | refine ob_ne0 hj ?_ | refine ob_eqb hj ?_); (first | rfl | first | omega | (simp only [hj, std]; split <;> omega) | (simp (disch := omega) only [hj, std, cmpI, cmpB, satB, add64, sub64, ite0, pl0, pl2, pl3, sb0, if_true, if_false, eq_self] <;> omega) | (simp (disch := omega) [hj, std, cmpI, cmpB, satB, add64, sub64, ite0, pl0, pl2, pl3, sb0, if_true, if_false, eq_self] <;> omega))))
 refine aw_lpj hj [(0, .keep), (3, .keep)] [] (fun i : Int => stOf 23 [(0, .one (.c (vS s))), (3, .one (.c (vI i)))] []) (fun i => s.size - i.toNat) (fun i => 0 ≤ i ∧ i ≤ s.size ∧ ∀ k : Nat, (k : Int) < i → 32 ≤ bt s k ∧ bt s k ≤ 126) 0 (by generalize @plainB = x_plainB; cbv) ⟨by omega, by omega, fun k hk => by omega⟩ fun i ⟨i1, i2, i3⟩ => ?_
 change 0 ≤ i at i1
 change i ≤ s.size at i2
 generalize y_plainB : @plainB = x_plainB at *
 (repeat' first | ((first | with_reducible refine tr_cut (fun h => ?_) (fun h => ?_) | refine aw_condj (by cbv) (fun h => ?_) (fun h => ?_)) <;> (try simp (disch := omega) only [hj, std, cmpI, cmpB, satB, Bool.not_eq_true, Bool.not_eq_false, decide_eq_true_eq, decide_eq_false_iff_not, beq_iff_eq, bne_iff_ne, bne_eq_false_iff_eq, beq_eq_false_iff_ne, ne_eq, reduceCtorEq, not_true_eq_false, not_false_eq_true, pl0, if_true, cmpS_eq, cmpS_neq, Bool.not_eq_eq_eq_not, Bool.not_true, Bool.not_false, Bool.not_eq_true', add64, sub64] at h) <;> (try (exfalso; omega))) | (with_reducible refine tr_alt (fun h => ?_) ?_ <;> (try (exfalso; omega))) | (with_reducible first | refine tr_ob ?_ ?_ | refine tr_done ?_) | (refine aw_tr hj tok book0 (by cbv) ?_) | (refine aw_seq fun K hK => ?_) | (refine aw_tr1 hj tok book0 (by cbv) ?_) | (refine aw_skip ?_) | (refine aw_block ?_) | (refine aw_exit ?_) | (refine aw_ret ⟨.inr rfl, ret_okj hj (by cbv) ?_ ?_⟩) | (refine aw_ret ?_) | (with_reducible first | refine th_n ?_ | refine th_r ?_ | refine th_x ?_ | refine blk_n ?_ | refine blk_r ?_ | refine blk_x ?_ | refine blk_y rfl ?_) | (refine ⟨.inr rfl, ret_okj hj (by cbv) ?_ ?_⟩) | (refine ⟨.inl rfl, ret_okj hj (by cbv) ?_ ?_⟩) | (with_reducible first | refine ⟨(_, _, _, _, _, _, _, _, _), by cbv, ?_, ?_⟩ | refine ⟨(_, _, _, _, _, _, _, _), by cbv, ?_, ?_⟩ | refine ⟨(_, _, _, _, _, _, _), by cbv, ?_, ?_⟩ | refine ⟨(_, _, _, _, _, _), by cbv, ?_, ?_⟩ | refine ⟨(_, _, _, _, _), by cbv, ?_, ?_⟩ | refine ⟨(_, _, _, _), by cbv, ?_, ?_⟩ | refine ⟨(_, _, _), by cbv, ?_, ?_⟩ | refine ⟨(_, _), by cbv, ?_, ?_⟩ | refine ⟨_, by cbv, ?_, ?_⟩) | (with_reducible apply_assumption -symm -exfalso only [*]))
 all_goals ((try subst y_plainB))
 all_goals (try (have h9 : plainB s = false := plain_no (k := i.toNat) (by omega) (by omega)))
 all_goals (try (have h9 : plainB s = decide (s.size ≤ 4000) := plain_all (fun k hk => i3 k (by omega))))
 all_goals (try (repeat' first | with_reducible exact obl0 | with_reducible refine obl1 ?_ ?_))
 all_goals (try first | with_reducible exact True.intro | ((first | refine ob_le hj ?_ | refine ob_lei hj ?_ | refine ob_inb hj ?_ | refine ob_pos hj ?_ | refine ob_ne0 hj ?_ | refine ob_eqb hj ?_); (first | rfl | first | omega | (simp only [hj, std]; split <;> omega) | (simp (disch := omega) only [hj, std, cmpI, cmpB, satB, add64, sub64, ite0, pl0, pl2, pl3, sb0, if_true, if_false, eq_self] <;> omega) | (simp (disch := omega) [hj, std, cmpI, cmpB, satB, add64, sub64, ite0, pl0, pl2, pl3, sb0, if_true, if_false, eq_self] <;> omega))) | ((refine ret1_b ?_; (try simp only [hj, std, cmpI]); rw [h9]; first | done | rfl | (rw [Bool.eq_iff_iff]; simp only [decide_eq_true_eq]; omega))) | ((simp (disch := omega) only [hj, std, add64]; first | omega | exact ⟨by omega, by omega, fun k hk => by (rcases Decidable.em ((k : Int) < i) with g | g; exact i3 k g; rw [show k = i.toNat by omega]; omega)⟩)))
end Go.Proofs.YtipmpjphjhipjaaDoor.A
/- Requests: the number of a text. -/
set_option linter.unusedSimpArgs false
set_option linter.unusedVariables false
set_option maxRecDepth 100000
set_option maxHeartbeats 4000000
namespace Go.Proofs.YtipmpjphjhipjaaDoor.A
open Go Go.RowKit
theorem digs_ok (n : Nat) : ∀ c ∈ Lib.decDigits n, 48 ≤ c.toNat ∧ c.toNat ≤ 57 := by
 induction n using Nat.strongRecOn with
 | ind n ih =>
  rw [Lib.decDigits]
  split
  ·rename_i h
   intro c hc
   rw [List.mem_singleton.1 hc, UInt8.toNat_ofNat_of_lt' (by show 48 + n < 256; omega)]; omega
  ·rename_i h
   intro c hc
   rcases List.mem_append.1 hc with hc | hc
   ·exact ih (n / 10) (by omega) c hc
   ·rw [List.mem_singleton.1 hc, UInt8.toNat_ofNat_of_lt' (by show 48 + n % 10 < 256; omega)]; omega
theorem digs_ne (n : Nat) : Lib.decDigits n ≠ [] := by
 rw [Lib.decDigits]
 split <;> simp
def stepD (a : Int) (c : UInt8) : Int := 10 * a + (c.toNat : Int) - 48
theorem digs_valI (n : Nat) : (Lib.decDigits n).foldl stepD 0 = n := by
 induction n using Nat.strongRecOn with
 | ind n ih =>
  rw [Lib.decDigits]
  split
  ·rename_i h
   show 10 * 0 + ((UInt8.ofNat (48 + n)).toNat : Int) - 48 = n
   rw [UInt8.toNat_ofNat_of_lt' (by show 48 + n < 256; omega)]; omega
  ·rename_i h
   rw [List.foldl_append, ih (n / 10) (by omega)]
   show 10 * ((n / 10 : Nat) : Int) + ((UInt8.ofNat (48 + n % 10)).toNat : Int) - 48 = n
   rw [UInt8.toNat_ofNat_of_lt' (by show 48 + n % 10 < 256; omega)]; omega
theorem itoa_list {n : Int} (h : 0 ≤ n) : (itoaS n).data.toList = Lib.decDigits n.toNat := by
 unfold itoaS Lib.itoa
 rw [if_neg (by omega)]
def valT (s : ByteArray) : Nat → Int
 | 0 => 0
 | i + 1 => 10 * valT s i + (bt s i : Int) - 48
theorem valT_take (s : ByteArray) : ∀ i, i ≤ s.size → valT s i = (s.data.toList.take i).foldl stepD 0 := by
 intro i
 induction i with
 | zero => intro _; rfl
 | succ i ih =>
  intro h
  obtain ⟨_, q2⟩ := bt_list s (k := i) (by omega)
  rw [List.take_succ_eq_append_getElem (show i < s.data.toList.length by simp; omega), List.foldl_append, ← ih (by omega)]
  show 10 * valT s i + (bt s i : Int) - 48 = stepD (valT s i) _
  rw [q2]; rfl
theorem valT_all (s : ByteArray) : valT s s.size = s.data.toList.foldl stepD 0 := by
 rw [valT_take s s.size (Nat.le_refl _), List.take_of_length_le (by simp)]
theorem valT_lt (s : ByteArray) : ∀ i : Nat, (∀ k, k < i → 48 ≤ bt s k ∧ bt s k ≤ 57) → 0 ≤ valT s i ∧ valT s i < ((10 ^ i : Nat) : Int) := by
 intro i
 induction i with
 | zero => intro _; exact ⟨by show (0 : Int) ≤ 0; omega, by show (0 : Int) < 1; omega⟩
 | succ i ih =>
  intro h
  obtain ⟨q1, q2⟩ := ih (fun k hk => h k (by omega))
  have := h i (by omega)
  have e : valT s (i + 1) = 10 * valT s i + (bt s i : Int) - 48 := rfl
  rw [e, Nat.pow_succ]
  omega
theorem valT_few {s : ByteArray} {i : Nat} (hi : i ≤ 10) (h : ∀ k, k < i → 48 ≤ bt s k ∧ bt s k ≤ 57) : 0 ≤ valT s i ∧ valT s i ≤ 9999999999 := by
 obtain ⟨q1, q2⟩ := valT_lt s i h
 have : 10 ^ i ≤ 10 ^ 10 := Nat.pow_le_pow_right (by omega) hi
 exact ⟨q1, by omega⟩
def numI (s : ByteArray) : Int := if 0 ≤ valT s s.size ∧ valT s s.size ≤ 1000000000 ∧ itoaS (valT s s.size) = s then valT s s.size else -1
theorem num_itoa {n : Int} (h0 : 0 ≤ n) (h1 : n ≤ 1000000000) : numI (itoaS n) = n := by
 have e : valT (itoaS n) (itoaS n).size = n := by
  rw [valT_all, itoa_list h0, digs_valI]; omega
 unfold numI
 rw [e, if_pos ⟨h0, h1, rfl⟩]
theorem itoa_digit {n : Int} (h : 0 ≤ n) {k : Nat} (hk : k < (itoaS n).size) : 48 ≤ bt (itoaS n) k ∧ bt (itoaS n) k ≤ 57 := by
 obtain ⟨q1, q2⟩ := bt_list (itoaS n) hk
 rw [q2]
 refine digs_ok n.toNat _ ?_
 rw [← itoa_list h]
 exact List.getElem_mem _
theorem itoa_pos {n : Int} (h : 0 ≤ n) : 1 ≤ (itoaS n).size := by
 have e : (itoaS n).size = (itoaS n).data.toList.length := by simp
 rw [e, itoa_list h]
 exact List.length_pos_iff.2 (digs_ne _)
theorem itoa_ten {n : Int} (h : 0 ≤ n) (h1 : n ≤ 1000000000) : (itoaS n).size ≤ 10 := itoa_size n h 9 (by have : n.toNat ≤ 1000000000 := (by omega); exact Nat.lt_of_le_of_lt this (by decide))
theorem num_len {s : ByteArray} (h : s.size < 1 ∨ 10 < s.size) : numI s = -1 := by
 unfold numI
 rw [if_neg]
 rintro ⟨q1, q2, q3⟩
 have h1 := itoa_pos q1
 have h2 := itoa_ten q1 q2
 rw [q3] at h1 h2
 omega
theorem num_dig {s : ByteArray} {k : Nat} (hk : k < s.size) (h : ¬ (48 ≤ bt s k ∧ bt s k ≤ 57)) : numI s = -1 := by
 unfold numI
 rw [if_neg]
 rintro ⟨q1, q2, q3⟩
 have := itoa_digit q1 (k := k) (by rw [q3]; exact hk)
 rw [q3] at this
 exact h this
theorem num_spec (s : ByteArray) : numI s = -1 ∨ (0 ≤ numI s ∧ numI s ≤ 1000000000 ∧ itoaS (numI s) = s) := by
 unfold numI
 split
 ·rename_i h; exact .inr h
 ·exact .inl rfl
def bookAskN (x_itoaS : Int → ByteArray) : Book := fun f xs => match f, xs with
 | 18, [.v false [.val (.int .i64 n)]] => some (ret1 (.st (vS (x_itoaS n))))
 | _, _ => none
theorem c_Number (s : ByteArray) : pc 23 [.v false [vS s]] (ret1 (.st (vI (numI s)))) := by
 refine ⟨enters Tryd.func23 (by kernel_rfl) (by kernel_rfl), pc_of tok Tryd.func23 rfl (by rfl) ?_⟩
 obtain ⟨j, hj⟩ : ∃ j : J, j = std Tryd.prog T := ⟨_, rfl⟩
 have hm : Tryd.prog.follows .mixedOrders = true := by kernel_rfl
 generalize y_itoaS : @itoaS = x_itoaS at *
 generalize y_numI : @numI = x_numI at *
 (repeat' first | ((first | with_reducible refine tr_cut (fun h => ?_) (fun h => ?_) | refine aw_condj (by cbv) (fun h => ?_) (fun h => ?_)) <;> (try simp (disch := omega) only [hj, std, cmpI, cmpB, satB, Bool.not_eq_true, Bool.not_eq_false, decide_eq_true_eq, decide_eq_false_iff_not, beq_iff_eq, bne_iff_ne, bne_eq_false_iff_eq, beq_eq_false_iff_ne, ne_eq, reduceCtorEq, not_true_eq_false, not_false_eq_true, pl0, if_true, cmpS_eq, cmpS_neq, Bool.not_eq_eq_eq_not, Bool.not_true, Bool.not_false, Bool.not_eq_true', add64, sub64] at h) <;> (try (exfalso; omega))) | (with_reducible refine tr_alt (fun h => ?_) ?_ <;> (try (exfalso; omega))) | (with_reducible first | refine tr_ob ?_ ?_ | refine tr_done ?_) | (refine aw_tr hj tok (bookAskN x_itoaS) (by cbv) ?_) | (refine aw_seq fun K hK => ?_) | (refine aw_tr1 hj tok (bookAskN x_itoaS) (by cbv) ?_) | (refine aw_skip ?_) | (refine aw_block ?_) | (refine aw_exit ?_) | (refine aw_ret ⟨.inr rfl, ret_okj hj (by cbv) ?_ ?_⟩) | (refine aw_ret ?_) | (with_reducible first | refine th_n ?_ | refine th_r ?_ | refine th_x ?_ | refine blk_n ?_ | refine blk_r ?_ | refine blk_x ?_ | refine blk_y rfl ?_) | (refine ⟨.inr rfl, ret_okj hj (by cbv) ?_ ?_⟩) | (refine ⟨.inl rfl, ret_okj hj (by cbv) ?_ ?_⟩) | (with_reducible first | refine ⟨(_, _, _, _, _, _, _, _, _), by cbv, ?_, ?_⟩ | refine ⟨(_, _, _, _, _, _, _, _), by cbv, ?_, ?_⟩ | refine ⟨(_, _, _, _, _, _, _), by cbv, ?_, ?_⟩ | refine ⟨(_, _, _, _, _, _), by cbv, ?_, ?_⟩ | refine ⟨(_, _, _, _, _), by cbv, ?_, ?_⟩ | refine ⟨(_, _, _, _), by cbv, ?_, ?_⟩ | refine ⟨(_, _, _), by cbv, ?_, ?_⟩ | refine ⟨(_, _), by cbv, ?_, ?_⟩ | refine ⟨_, by cbv, ?_, ?_⟩) | (with_reducible apply_assumption -symm -exfalso only [*]))
 all_goals ((try subst y_itoaS); (try subst y_numI))
 all_goals (try (repeat' first | with_reducible exact obl0 | (with_reducible refine obl1 ?_ ?_)))
 all_goals (try first | with_reducible exact True.intro | ((first | refine ob_le hj ?_ | refine ob_lei hj ?_ | refine ob_inb hj ?_ | refine ob_pos hj ?_ | refine ob_ne0 hj ?_ | refine ob_eqb hj ?_); (first | rfl | first | omega | (simp only [hj, std]; split <;> omega) | (simp (disch := omega) only [hj, std, cmpI, cmpB, satB, add64, sub64, ite0, pl0, pl2, pl3, sb0, if_true, if_false, eq_self] <;> omega) | (simp (disch := omega) [hj, std, cmpI, cmpB, satB, add64, sub64, ite0, pl0, pl2, pl3, sb0, if_true, if_false, eq_self] <;> omega))) | ((refine ret1_i ?_; exact num_len (by omega))))
 refine aw_lpj hj [(0, .keep), (3, .keep), (4, .keep)] [] (fun a : Int × Int => stOf 46 [(0, .one (.c (vS s))), (3, .one (.c (vI a.1))), (4, .one (.c (vI a.2)))] []) (fun a => s.size - a.2.toNat) (fun a => 0 ≤ a.2 ∧ a.2 ≤ s.size ∧ s.size ≤ 10 ∧ a.1 = valT s a.2.toNat ∧ ∀ k : Nat, (k : Int) < a.2 → 48 ≤ bt s k ∧ bt s k ≤ 57) (0, 0) (by generalize @itoaS = x_itoaS; generalize @numI = x_numI; cbv) ⟨by omega, by omega, by omega, rfl, fun k hk => by omega⟩ fun ⟨n, i⟩ ⟨i1, i2, i3, i4, i5⟩ => ?_
 change 0 ≤ i at i1
 change i ≤ s.size at i2
 change n = valT s i.toNat at i4
 change ∀ k : Nat, (k : Int) < i → 48 ≤ bt s k ∧ bt s k ≤ 57 at i5
 obtain ⟨n0, n1⟩ := valT_few (s := s) (i := i.toNat) (by omega) (fun k hk => i5 k (by omega))
 rw [← i4] at n0 n1
 have hw : IntKind.wrap .i64 (bt s i.toNat : Int) = (bt s i.toNat : Int) := wrap64 (by omega) (by have := bt_lt s i.toNat; omega)
 have hm10 : arithI .mul .i64 10 n = 10 * n := wrap64 (by omega) (by omega)
 have hb2 := bt_lt s i.toNat
 have hst : (i + 1).toNat = i.toNat + 1 := by omega
 have hv1 : valT s (i.toNat + 1) = 10 * n + (bt s i.toNat : Int) - 48 := by rw [i4]; rfl
 generalize y_itoaS : @itoaS = x_itoaS at *
 generalize y_numI : @numI = x_numI at *
 (repeat' first | ((first | with_reducible refine tr_cut (fun h => ?_) (fun h => ?_) | refine aw_condj (by cbv) (fun h => ?_) (fun h => ?_)) <;> (try simp (disch := omega) only [hj, std, cmpI, cmpB, satB, Bool.not_eq_true, Bool.not_eq_false, decide_eq_true_eq, decide_eq_false_iff_not, beq_iff_eq, bne_iff_ne, bne_eq_false_iff_eq, beq_eq_false_iff_ne, ne_eq, reduceCtorEq, not_true_eq_false, not_false_eq_true, pl0, if_true, cmpS_eq, cmpS_neq, Bool.not_eq_eq_eq_not, Bool.not_true, Bool.not_false, Bool.not_eq_true', add64, sub64] at h) <;> (try (exfalso; omega))) | (with_reducible refine tr_alt (fun h => ?_) ?_ <;> (try (exfalso; omega))) | (with_reducible first | refine tr_ob ?_ ?_ | refine tr_done ?_) | (refine aw_tr hj tok (bookAskN x_itoaS) (by cbv) ?_) | (refine aw_seq fun K hK => ?_) | (refine aw_tr1 hj tok (bookAskN x_itoaS) (by cbv) ?_) | (refine aw_skip ?_) | (refine aw_block ?_) | (refine aw_exit ?_) | (refine aw_ret ⟨.inr rfl, ret_okj hj (by cbv) ?_ ?_⟩) | (refine aw_ret ?_) | (with_reducible first | refine th_n ?_ | refine th_r ?_ | refine th_x ?_ | refine blk_n ?_ | refine blk_r ?_ | refine blk_x ?_ | refine blk_y rfl ?_) | (refine ⟨.inr rfl, ret_okj hj (by cbv) ?_ ?_⟩) | (refine ⟨.inl rfl, ret_okj hj (by cbv) ?_ ?_⟩) | (with_reducible first | refine ⟨(_, _, _, _, _, _, _, _, _), by cbv, ?_, ?_⟩ | refine ⟨(_, _, _, _, _, _, _, _), by cbv, ?_, ?_⟩ | refine ⟨(_, _, _, _, _, _, _), by cbv, ?_, ?_⟩ | refine ⟨(_, _, _, _, _, _), by cbv, ?_, ?_⟩ | refine ⟨(_, _, _, _, _), by cbv, ?_, ?_⟩ | refine ⟨(_, _, _, _), by cbv, ?_, ?_⟩ | refine ⟨(_, _, _), by cbv, ?_, ?_⟩ | refine ⟨(_, _), by cbv, ?_, ?_⟩ | refine ⟨_, by cbv, ?_, ?_⟩) | (with_reducible apply_assumption -symm -exfalso only [*]))
 all_goals ((try subst y_itoaS); (try subst y_numI))
 all_goals (try (have h9 : numI s = -1 := num_dig (k := i.toNat) (by omega) (by omega)))
 all_goals (try (have h7 : i.toNat = s.size := (by omega); rw [h7] at i4))
 all_goals (try (have h9 : numI s = -1 := (by unfold numI; rw [if_neg]; rintro ⟨q1, q2, q3⟩; omega)))
 all_goals (try (have hx : j.arith .sub .i64 (j.arith .add .i64 (j.arith .mul .i64 10 n) (j.wrap .i64 (j.sat s (j.toNat i)))) 48 = valT s (i.toNat + 1) := (by rw [hj]; show arithI .sub .i64 (arithI .add .i64 (arithI .mul .i64 10 n) (IntKind.wrap .i64 (bt s i.toNat : Int))) 48 = _; rw [hw, hm10, add64 (by omega) (by omega), sub64 (by omega) (by omega), hv1]); have hi : j.arith .add .i64 i 1 = i + 1 := (by rw [hj]; exact add64 (by omega) (by omega))))
 all_goals (try (repeat' first | with_reducible exact obl0 | with_reducible refine obl1 ?_ ?_))
 all_goals (try first | with_reducible exact True.intro | ((first | refine ob_pc hj ?_ | refine ob_pcn hj ?_); (try rw [hj]); first | exact c_Dec n (by omega) (by omega)) | ((first | refine ob_le hj ?_ | refine ob_lei hj ?_ | refine ob_inb hj ?_ | refine ob_pos hj ?_ | refine ob_ne0 hj ?_ | refine ob_eqb hj ?_); (first | rfl | first | omega | (simp only [hj, std]; split <;> omega) | (simp (disch := omega) only [hj, std, cmpI, cmpB, satB, add64, sub64, ite0, pl0, pl2, pl3, sb0, if_true, if_false, eq_self] <;> omega) | (simp (disch := omega) [hj, std, cmpI, cmpB, satB, add64, sub64, ite0, pl0, pl2, pl3, sb0, if_true, if_false, eq_self] <;> omega))) | ((refine ret1_i ?_; exact h9)) | ((refine ret1_i ?_; unfold numI; rw [if_neg]; rintro ⟨q1, q2, q3⟩; rw [← i4] at q3; simp_all)) | ((refine ret1_i ?_; unfold numI; rw [← i4, if_pos]; exact ⟨by omega, by omega, by simp_all⟩)) | ((show s.size - (j.arith .add .i64 i 1).toNat < s.size - i.toNat; omega)) | (exact ⟨(show 0 ≤ j.arith .add .i64 i 1 by omega), (show j.arith .add .i64 i 1 ≤ s.size by omega), i3, (show j.arith .sub .i64 (j.arith .add .i64 (j.arith .mul .i64 10 n) (j.wrap .i64 (j.sat s (j.toNat i)))) 48 = valT s (j.arith .add .i64 i 1).toNat by rw [hx, hi, hst]), fun k (hk : (k : Int) < j.arith .add .i64 i 1) => by (rcases Decidable.em ((k : Int) < i) with g | g; exact i5 k g; rw [show k = i.toNat by omega]; omega)⟩))
end Go.Proofs.YtipmpjphjhipjaaDoor.A
/- Requests: a request's line; what is computed. -/
set_option linter.unusedSimpArgs false
set_option linter.unusedVariables false
set_option maxRecDepth 100000
set_option maxHeartbeats 4000000
namespace Go.Proofs.YtipmpjphjhipjaaDoor.A
open Go
def lineB (kd k n : Int) (t : ByteArray) : Bool := decide (0 ≤ hasQ kd) && mayB k (pKk kd) && mayB n (pM kd) && (pTt kd || decide (t = ⟨⟨[]⟩⟩)) && plainB t
def lineS (kd k n : Int) (t : ByteArray) : ByteArray :=
 if lineB kd k n t = false then ⟨⟨[]⟩⟩ else if hasQ kd = 0 then wordS kd else if hasQ kd = 1 then wordS kd ++ (spS ++ itoaS n) else if hasQ kd = 3 then wordS kd ++ (spS ++ t) else wordS kd ++ (spS ++ itoaS k) ++ (spS ++ t)
theorem has_lt (kd : Int) : -1 ≤ hasQ kd ∧ hasQ kd ≤ 3 := by
 unfold hasQ
 (repeat' split) <;> omega
theorem line_iff (kd k n : Int) (t : ByteArray) : lineB kd k n t = true ↔ 0 ≤ hasQ kd ∧ (0 ≤ k ∧ k ≤ 1000000000 ∧ (hasQ kd = 2 ∨ k = 0)) ∧ (0 ≤ n ∧ n ≤ 1000000000 ∧ (hasQ kd = 1 ∨ n = 0)) ∧ (2 ≤ hasQ kd ∨ t = ⟨⟨[]⟩⟩) ∧ plainB t = true := by
 unfold lineB mayB pKk pM pTt
 simp only [Bool.and_eq_true, Bool.or_eq_true, decide_eq_true_eq]
 exact ⟨fun ⟨⟨⟨⟨a, b⟩, c⟩, d⟩, e⟩ => ⟨a, b, c, d, e⟩, fun ⟨a, b, c, d, e⟩ => ⟨⟨⟨⟨a, b⟩, c⟩, d⟩, e⟩⟩
theorem line_no {kd k n : Int} {t : ByteArray} (h : wordS kd = ⟨⟨[]⟩⟩ ∨ mayB k (pKk kd) = false ∨ mayB n (pM kd) = false ∨ (pTt kd = false ∧ ¬ t = ⟨⟨[]⟩⟩) ∨ plainB t = false) : lineB kd k n t = false := by
 unfold lineB
 rcases h with h | h | h | h | h
 ·rw [decide_eq_false (by have := (word_nil kd).1 h; omega)]; rfl
 ·rw [h]; simp
 ·rw [h]; simp
 ·rw [h.1, decide_eq_false h.2]; simp
 ·rw [h]; simp
theorem line_yes {kd k n : Int} {t : ByteArray} (h0 : ¬ wordS kd = ⟨⟨[]⟩⟩) (h1 : mayB k (pKk kd) = true) (h2 : mayB n (pM kd) = true) (h3 : pTt kd = true ∨ t = ⟨⟨[]⟩⟩) (h4 : plainB t = true) : lineB kd k n t = true := by
 unfold lineB
 rw [decide_eq_true (by have := mt (word_nil kd).2 h0; omega), h1, h2, h4]
 rcases h3 with h | h
 ·rw [h]; rfl
 ·rw [decide_eq_true h, Bool.or_true]; rfl
theorem lineS_no {kd k n : Int} {t : ByteArray} (h : lineB kd k n t = false) : lineS kd k n t = ⟨⟨[]⟩⟩ := if_pos h
theorem lineS_0 {kd k n : Int} {t : ByteArray} (h : lineB kd k n t = true) (h2 : hasQ kd = 0) : lineS kd k n t = wordS kd := by
 unfold lineS; rw [if_neg (by rw [h]; simp), if_pos h2]
theorem lineS_1 {kd k n : Int} {t : ByteArray} (h : lineB kd k n t = true) (h2 : hasQ kd = 1) : lineS kd k n t = wordS kd ++ (spS ++ itoaS n) := by
 unfold lineS; rw [if_neg (by rw [h]; simp), if_neg (by omega), if_pos h2]
theorem lineS_3 {kd k n : Int} {t : ByteArray} (h : lineB kd k n t = true) (h2 : hasQ kd = 3) : lineS kd k n t = wordS kd ++ (spS ++ t) := by
 unfold lineS; rw [if_neg (by rw [h]; simp), if_neg (by omega), if_neg (by omega), if_pos h2]
theorem lineS_2 {kd k n : Int} {t : ByteArray} (h : lineB kd k n t = true) (h2 : hasQ kd = 2) : lineS kd k n t = wordS kd ++ (spS ++ itoaS k) ++ (spS ++ t) := by
 unfold lineS; rw [if_neg (by rw [h]; simp), if_neg (by omega), if_neg (by omega), if_neg (by omega)]
theorem rLine_of {kd k n : Int} {t : ByteArray} {a : ByteArray} {b : Bool} (h1 : lineS kd k n t = a) (h2 : lineB kd k n t = b) : rets [(false, [.st (vS (lineS kd k n t))]), (false, [.st (vB (lineB kd k n t))])] = ⟨true, [(false, [.st (.val (.string a))]), (false, [.st (.val (.bool b))])]⟩ := by rw [h1, h2]; rfl
theorem rLine_no {kd k n : Int} {t : ByteArray} (h : lineB kd k n t = false) : rets [(false, [.st (vS (lineS kd k n t))]), (false, [.st (vB (lineB kd k n t))])] = ⟨true, [(false, [.st (.val (.string ⟨⟨[]⟩⟩))]), (false, [.st (.val (.bool false))])]⟩ := rLine_of (lineS_no h) h
/-! ### how long -/
theorem wName_few : ∀ k : Fin 19, (wName k.1).size ≤ 8 := by decide +kernel
theorem wordS_few (n : Int) : (wordS n).size ≤ 8 := by
 unfold wordS
 split
 ·exact wName_few ⟨n.toNat, by omega⟩
 ·exact Nat.zero_le _
theorem line_parts {kd k n : Int} {t : ByteArray} (h : lineB kd k n t = true) : 0 ≤ hasQ kd ∧ (0 ≤ k ∧ k ≤ 1000000000) ∧ (0 ≤ n ∧ n ≤ 1000000000) ∧ t.size ≤ 4000 := by
 obtain ⟨a, b, c, d, e⟩ := (line_iff kd k n t).1 h
 exact ⟨a, ⟨b.1, b.2.1⟩, ⟨c.1, c.2.1⟩, ((plain_iff t).1 e).1⟩
theorem may_range {n : Int} {g : Bool} (h : mayB n g = true) : 0 ≤ n ∧ n ≤ 1000000000 := by
 unfold mayB at h
 have := of_decide_eq_true h
 exact ⟨this.1, this.2.1⟩
theorem plain_few {t : ByteArray} (h : plainB t = true) : t.size ≤ 4000 := ((plain_iff t).1 h).1
end Go.Proofs.YtipmpjphjhipjaaDoor.A
/- Requests: a request's line, of the reference. -/
set_option linter.unusedSimpArgs false
set_option linter.unusedVariables false
set_option maxRecDepth 100000
set_option maxHeartbeats 4000000
namespace Go.Proofs.YtipmpjphjhipjaaDoor.A
open Go
def bookAskR (x_rowW : List C) (x_hasQ : Int → Int) (x_itoaS : Int → ByteArray) (x_plainB : ByteArray → Bool) : Book := fun f xs => match f, xs with
 | 8, [] => some (ret1 (.own strT 19 x_rowW))
 | 16, [.v false [.val (.int .i64 k)]] => some (ret1 (.st (vI (x_hasQ k))))
 | 17, [.v false [.val (.string s)]] => some (ret1 (.st (vB (x_plainB s))))
 | 18, [.v false [.val (.int .i64 n)]] => some (ret1 (.st (vS (x_itoaS n))))
 | _, _ => none
theorem lineR_no {kd k n : Int} {t : ByteArray} (h : hasQ kd < 0 ∨ (¬ hasQ kd = 2 ∧ ¬ k = 0) ∨ (¬ hasQ kd = 1 ∧ ¬ n = 0) ∨ (hasQ kd < 2 ∧ ¬ t = ⟨⟨[]⟩⟩) ∨ k < 0 ∨ n < 0 ∨ k > 1000000000 ∨ n > 1000000000 ∨ plainB t = false) : lineB kd k n t = false := by
 rw [Bool.eq_false_iff]
 intro h'
 obtain ⟨a, b, c, d, e⟩ := (line_iff kd k n t).1 h'
 rcases h with h | h | h | h | h | h | h | h | h
 ·omega
 ·omega
 ·omega
 ·rcases d with d | d
  ·omega
  ·exact h.2 d
 ·omega
 ·omega
 ·omega
 ·omega
 ·rw [h] at e; cases e
theorem lineR_yes {kd k n : Int} {t : ByteArray} (h0 : 0 ≤ hasQ kd) (h1 : 0 ≤ k ∧ k ≤ 1000000000 ∧ (hasQ kd = 2 ∨ k = 0)) (h2 : 0 ≤ n ∧ n ≤ 1000000000 ∧ (hasQ kd = 1 ∨ n = 0)) (h3 : 2 ≤ hasQ kd ∨ t = ⟨⟨[]⟩⟩) (h4 : plainB t = true) : lineB kd k n t = true := (line_iff kd k n t).2 ⟨h0, h1, h2, h3, h4⟩
theorem app_assoc4 (a b c d e : ByteArray) : a ++ b ++ c ++ d ++ e = a ++ (b ++ c) ++ (d ++ e) := by simp only [ByteArray.append_assoc]
set_option cbv.maxSteps 3000000 in
theorem c_rLine (kd k n : Int) (t : ByteArray) (ht : t.size < 4611686018427387904) (rk : -9223372036854775808 ≤ k ∧ k ≤ 9223372036854775807) (rn : -9223372036854775808 ≤ n ∧ n ≤ 9223372036854775807) : pc 7 [.v true [vI kd, vI k, vI n, vS t]] (rets [(false, [.st (vS (lineS kd k n t))]), (false, [.st (vB (lineB kd k n t))])]) := by
 refine ⟨enters Tryd.func7 (by kernel_rfl) (by kernel_rfl), pc_of tok Tryd.func7 rfl (by rfl) ?_⟩
 obtain ⟨j, hj⟩ : ∃ j : J, j = std Tryd.prog T := ⟨_, rfl⟩
 have hm : Tryd.prog.follows .mixedOrders = true := by kernel_rfl
 have hq := has_lt kd
 have hwf := wordS_few kd
 have hww := word_has kd
 have hat : 0 ≤ hasQ kd → cellAt rowW kd.toNat = vS (wordS kd) := fun h => by
  have := (word_has kd).1 h
  rw [rowW_at (by omega)]; unfold wordS; rw [if_pos (by omega)]
 generalize y_rowW : @rowW = x_rowW at *
 generalize y_hasQ : @hasQ = x_hasQ at *
 generalize y_itoaS : @itoaS = x_itoaS at *
 generalize y_plainB : @plainB = x_plainB at *
 generalize y_wordS : @wordS = x_wordS at *
 generalize y_lineB : @lineB = x_lineB at *
 generalize y_lineS : @lineS = x_lineS at *
 (repeat' first | ((first | with_reducible refine tr_cut (fun h => ?_) (fun h => ?_) | refine aw_condj (by cbv) (fun h => ?_) (fun h => ?_)) <;> (try simp (disch := omega) only [hj, std, cmpI, cmpB, satB, Bool.not_eq_true, Bool.not_eq_false, decide_eq_true_eq, decide_eq_false_iff_not, beq_iff_eq, bne_iff_ne, bne_eq_false_iff_eq, beq_eq_false_iff_ne, ne_eq, reduceCtorEq, not_true_eq_false, not_false_eq_true, pl0, if_true, cmpS_eq, cmpS_neq, Bool.not_eq_eq_eq_not, Bool.not_true, Bool.not_false, Bool.not_eq_true', add64, sub64] at h) <;> (try (exfalso; omega))) | (with_reducible refine tr_alt (fun h => ?_) ?_ <;> (try (exfalso; omega))) | (with_reducible first | refine tr_ob ?_ ?_ | refine tr_done ?_) | (refine aw_dr1 (id := 16) hj tok hm (bookAskR x_rowW x_hasQ x_itoaS x_plainB) true [(0, false), (1, false), (2, false), (3, false), (7, false), (8, false), (4, true), (5, true), (6, true), (9, true), (10, true), (11, true)] (by kernel_rfl) (by cbv) ?_) | (refine aw_dr (id := 16) hj tok hm (bookAskR x_rowW x_hasQ x_itoaS x_plainB) true [(0, false), (1, false), (2, false), (3, false), (7, false), (8, false), (4, true), (5, true), (6, true), (9, true), (10, true), (11, true)] (by kernel_rfl) (by cbv) ?_) | (refine aw_dr1 (id := 4) hj tok hm (bookAskR x_rowW x_hasQ x_itoaS x_plainB) true [(1, false), (2, false), (0, true), (3, true), (4, true), (5, true)] (by kernel_rfl) (by cbv) ?_) | (refine aw_dr (id := 4) hj tok hm (bookAskR x_rowW x_hasQ x_itoaS x_plainB) true [(1, false), (2, false), (0, true), (3, true), (4, true), (5, true)] (by kernel_rfl) (by cbv) ?_) | (refine aw_tr hj tok (bookAskR x_rowW x_hasQ x_itoaS x_plainB) (by cbv) ?_) | (refine aw_seq fun K hK => ?_) | (refine aw_tr1 hj tok (bookAskR x_rowW x_hasQ x_itoaS x_plainB) (by cbv) ?_) | (refine aw_skip ?_) | (refine aw_block ?_) | (refine aw_exit ?_) | (refine aw_ret ⟨.inr rfl, ret_okj hj (by cbv) ?_ ?_⟩) | (refine aw_ret ?_) | (with_reducible first | refine th_n ?_ | refine th_r ?_ | refine th_x ?_ | refine blk_n ?_ | refine blk_r ?_ | refine blk_x ?_ | refine blk_y rfl ?_) | (refine ⟨.inr rfl, ret_okj hj (by cbv) ?_ ?_⟩) | (refine ⟨.inl rfl, ret_okj hj (by cbv) ?_ ?_⟩) | (with_reducible apply_assumption -symm -exfalso only [*]))
 all_goals ((try subst y_rowW); (try subst y_hasQ); (try subst y_itoaS); (try subst y_plainB); (try subst y_wordS); (try subst y_lineB); (try subst y_lineS))
 all_goals (have hats : 0 ≤ hasQ kd → (gs (cellAt rowW kd.toNat)).size ≤ 8 := fun h => by rw [hat h]; exact hwf)
 all_goals (have h32 : (⟨⟨[32]⟩⟩ : ByteArray).size = 1 := rfl)
 all_goals (try (have hy : lineB kd k n t = true := lineR_yes (by omega) (by omega) (by omega) (by first | exact .inl (by omega) | exact .inr (by assumption)) (by assumption)))
 all_goals (try (have hzk := itoa_ten (n := k) (by omega) (by omega)))
 all_goals (try (have hzn := itoa_ten (n := n) (by omega) (by omega)))
 all_goals (try (have hpt := plain_few (t := t) (by assumption)))
 all_goals (try (have hal := hats (by omega)))
 all_goals (try (repeat' first | with_reducible exact obl0 | with_reducible refine obl1 ?_ ?_))
 all_goals (try first | with_reducible exact True.intro | ((first | refine ob_pc hj ?_ | refine ob_pcn hj ?_); (try rw [hj]); first | exact c_Words | exact c_Has _ | exact c_rplain _ ht | exact c_Dec _ (by omega) (by omega)) | ((first | refine ob_le hj ?_ | refine ob_lei hj ?_ | refine ob_inb hj ?_ | refine ob_pos hj ?_ | refine ob_ne0 hj ?_ | refine ob_eqb hj ?_); (first | rfl | first | omega | (simp only [hj, std]; split <;> omega) | (simp (disch := omega) only [hj, std, cmpI, cmpB, satB, add64, sub64, ite0, pl0, pl2, pl3, sb0, if_true, if_false, eq_self, rowW_len] <;> omega) | (simp (disch := omega) [hj, std, cmpI, cmpB, satB, add64, sub64, ite0, pl0, pl2, pl3, sb0, if_true, if_false, eq_self, rowW_len] <;> omega))) | ((refine ob_vals hj ?_; exact rowW_vals)) | ((refine ob_ok hj ?_; rw [hj]; exact ⟨_, hat (by omega)⟩)) | ((refine ob_le hj ?_; simp only [hj, std, ByteArray.size_append]; omega)) | ((refine rLine_no (lineR_no (.inl ?_)); omega)) | ((refine rLine_no (lineR_no (.inr (.inl ?_))); omega)) | ((refine rLine_no (lineR_no (.inr (.inr (.inl ?_)))); omega)) | ((refine rLine_no (lineR_no (.inr (.inr (.inr (.inl ⟨?_, ?_⟩))))); omega; assumption)) | ((refine rLine_no (lineR_no (.inr (.inr (.inr (.inr (.inl ?_)))))); omega)) | ((refine rLine_no (lineR_no (.inr (.inr (.inr (.inr (.inr (.inl ?_))))))); omega)) | ((refine rLine_no (lineR_no (.inr (.inr (.inr (.inr (.inr (.inr (.inl ?_)))))))); omega)) | ((refine rLine_no (lineR_no (.inr (.inr (.inr (.inr (.inr (.inr (.inr (.inl ?_))))))))); omega)) | ((refine rLine_no (lineR_no (.inr (.inr (.inr (.inr (.inr (.inr (.inr (.inr ?_))))))))); assumption)) | ((refine rLine_of ?_ hy; (try rw [hj]); first | (rw [lineS_0 hy (by omega)]; show _ = gs (cellAt rowW kd.toNat); rw [hat (by omega)]; rfl) | (rw [lineS_1 hy (by omega)]; show _ = gs (cellAt rowW kd.toNat) ++ spS ++ itoaS n; rw [hat (by omega), ByteArray.append_assoc]; rfl) | (rw [lineS_3 hy (by omega)]; show _ = gs (cellAt rowW kd.toNat) ++ spS ++ t; rw [hat (by omega), ByteArray.append_assoc]; rfl) | (rw [lineS_2 hy (by omega)]; show _ = gs (cellAt rowW kd.toNat) ++ spS ++ itoaS k ++ spS ++ t; rw [hat (by omega), app_assoc4]; rfl))))
end Go.Proofs.YtipmpjphjhipjaaDoor.A
/- Requests: a request's line, of the program. -/
set_option linter.unusedSimpArgs false
set_option linter.unusedVariables false
set_option maxRecDepth 100000
set_option maxHeartbeats 4000000
namespace Go.Proofs.YtipmpjphjhipjaaDoor.A
open Go
def bookAskL (x_pKk : Int → Bool) (x_pM : Int → Bool) (x_pTt : Int → Bool) (x_mayB : Int → Bool → Bool) (x_wordS : Int → ByteArray) (x_itoaS : Int → ByteArray) (x_plainB : ByteArray → Bool) : Book := fun f xs => match f, xs with
 | 9, [.v false [.val (.int .i64 k)]] => some (ret1 (.st (vS (x_wordS k))))
 | 12, [.v false [.val (.int .i64 k)]] => some (rets [(false, [.st (vB (x_pKk k))]), (false, [.st (vB (x_pM k))]), (false, [.st (vB (x_pTt k))])])
 | 13, [.v false [.val (.int .i64 n)], .v false [.val (.bool g)]] => some (ret1 (.st (vB (x_mayB n g))))
 | 14, [.v false [.val (.string s)]] => some (ret1 (.st (vB (x_plainB s))))
 | 15, [.v false [.val (.int .i64 n)]] => some (ret1 (.st (vS (x_itoaS n))))
 | _, _ => none
theorem c_Line (kd k n : Int) (t : ByteArray) : pc 6 [.v true [vI kd, vI k, vI n, vS t]] (rets [(false, [.st (vS (lineS kd k n t))]), (false, [.st (vB (lineB kd k n t))])]) := by
 refine ⟨enters Tryd.func6 (by kernel_rfl) (by kernel_rfl), pc_of tok Tryd.func6 rfl (by rfl) ?_⟩
 obtain ⟨j, hj⟩ : ∃ j : J, j = std Tryd.prog T := ⟨_, rfl⟩
 have hm : Tryd.prog.follows .mixedOrders = true := by kernel_rfl
 generalize y_pKk : @pKk = x_pKk at *
 generalize y_pM : @pM = x_pM at *
 generalize y_pTt : @pTt = x_pTt at *
 generalize y_mayB : @mayB = x_mayB at *
 generalize y_wordS : @wordS = x_wordS at *
 generalize y_itoaS : @itoaS = x_itoaS at *
 generalize y_plainB : @plainB = x_plainB at *
 generalize y_hasQ : @hasQ = x_hasQ at *
 generalize y_lineB : @lineB = x_lineB at *
 generalize y_lineS : @lineS = x_lineS at *
 (repeat' first | ((first | with_reducible refine tr_cut (fun h => ?_) (fun h => ?_) | refine aw_condj (by cbv) (fun h => ?_) (fun h => ?_)) <;> (try simp (disch := omega) only [hj, std, cmpI, cmpB, satB, Bool.not_eq_true, Bool.not_eq_false, decide_eq_true_eq, decide_eq_false_iff_not, beq_iff_eq, bne_iff_ne, bne_eq_false_iff_eq, beq_eq_false_iff_ne, ne_eq, reduceCtorEq, not_true_eq_false, not_false_eq_true, pl0, if_true, cmpS_eq, cmpS_neq, Bool.not_eq_eq_eq_not, Bool.not_true, Bool.not_false, Bool.not_eq_true', add64, sub64] at h) <;> (try (exfalso; omega))) | (with_reducible refine tr_alt (fun h => ?_) ?_ <;> (try (exfalso; omega))) | (with_reducible first | refine tr_ob ?_ ?_ | refine tr_done ?_) | (refine aw_tr hj tok (bookAskL x_pKk x_pM x_pTt x_mayB x_wordS x_itoaS x_plainB) (by cbv) ?_) | (refine aw_seq fun K hK => ?_) | (refine aw_tr1 hj tok (bookAskL x_pKk x_pM x_pTt x_mayB x_wordS x_itoaS x_plainB) (by cbv) ?_) | (refine aw_skip ?_) | (refine aw_block ?_) | (refine aw_exit ?_) | (refine aw_ret ⟨.inr rfl, ret_okj hj (by cbv) ?_ ?_⟩) | (refine aw_ret ?_) | (with_reducible first | refine th_n ?_ | refine th_r ?_ | refine th_x ?_ | refine blk_n ?_ | refine blk_r ?_ | refine blk_x ?_ | refine blk_y rfl ?_) | (refine ⟨.inr rfl, ret_okj hj (by cbv) ?_ ?_⟩) | (refine ⟨.inl rfl, ret_okj hj (by cbv) ?_ ?_⟩) | (with_reducible apply_assumption -symm -exfalso only [*]))
 all_goals ((try subst y_pKk); (try subst y_pM); (try subst y_pTt); (try subst y_mayB); (try subst y_wordS); (try subst y_itoaS); (try subst y_plainB); (try subst y_hasQ); (try subst y_lineB); (try subst y_lineS))
 all_goals (try (have f1 : hasQ kd = 2 := of_decide_eq_true ‹pKk kd = true›))
 all_goals (try (have f1 : ¬ hasQ kd = 2 := of_decide_eq_false ‹pKk kd = false›))
 all_goals (try (have f2 : hasQ kd = 1 := of_decide_eq_true ‹pM kd = true›))
 all_goals (try (have f2 : ¬ hasQ kd = 1 := of_decide_eq_false ‹pM kd = false›))
 all_goals (try (have f3 : 2 ≤ hasQ kd := of_decide_eq_true ‹pTt kd = true›))
 all_goals (try (have f3 : ¬ 2 ≤ hasQ kd := of_decide_eq_false ‹pTt kd = false›))
 all_goals (try (exfalso; omega))
 all_goals (try (have hy : lineB kd k n t = true := line_yes (by assumption) (by assumption) (by assumption) (by first | exact .inl (by assumption) | exact .inr (by assumption)) (by assumption)))
 all_goals (have hq := has_lt kd)
 all_goals (have hwf := wordS_few kd)
 all_goals (have h32 : (⟨⟨[32]⟩⟩ : ByteArray).size = 1 := rfl)
 all_goals (try (have h0q : 0 ≤ hasQ kd := (by have := mt (word_nil kd).2 (by assumption); omega)))
 all_goals (try (have hrk := may_range (n := k) (by assumption); have hzk := itoa_ten hrk.1 hrk.2))
 all_goals (try (have hrn := may_range (n := n) (by assumption); have hzn := itoa_ten hrn.1 hrn.2))
 all_goals (try (have hpt := plain_few (t := t) (by assumption)))
 all_goals (try (repeat' first | with_reducible exact obl0 | with_reducible refine obl1 ?_ ?_))
 all_goals (try first | with_reducible exact True.intro | ((first | refine ob_pc hj ?_ | refine ob_pcn hj ?_); (try rw [hj]); first | exact c_Word _ | exact c_parts _ | exact c_may _ _ | exact c_plain _ | exact c_Itoa _ (by omega) (by omega)) | ((first | refine ob_le hj ?_ | refine ob_lei hj ?_ | refine ob_inb hj ?_ | refine ob_pos hj ?_ | refine ob_ne0 hj ?_ | refine ob_eqb hj ?_); (first | rfl | first | omega | (simp only [hj, std]; split <;> omega) | (simp (disch := omega) only [hj, std, cmpI, cmpB, satB, add64, sub64, ite0, pl0, pl2, pl3, sb0, if_true, if_false, eq_self] <;> omega) | (simp (disch := omega) [hj, std, cmpI, cmpB, satB, add64, sub64, ite0, pl0, pl2, pl3, sb0, if_true, if_false, eq_self] <;> omega))) | ((refine ob_le hj ?_; simp only [hj, std, ByteArray.size_append]; omega)) | (exact rLine_no (line_no (.inl (by assumption)))) | (exact rLine_no (line_no (.inr (.inl (by assumption))))) | (exact rLine_no (line_no (.inr (.inr (.inl (by assumption)))))) | (exact rLine_no (line_no (.inr (.inr (.inr (.inl ⟨by assumption, by assumption⟩)))))) | (exact rLine_no (line_no (.inr (.inr (.inr (.inr (by assumption))))))) | ((refine rLine_of ?_ hy; (try rw [hj]); first | exact lineS_2 hy (by omega) | exact lineS_1 hy (by omega) | exact lineS_3 hy (by omega) | exact lineS_0 hy (by omega))))
end Go.Proofs.YtipmpjphjhipjaaDoor.A
/- Requests: a line tells its request. No program in sight. -/
set_option linter.unusedSimpArgs false
set_option linter.unusedVariables false
set_option maxRecDepth 100000
set_option maxHeartbeats 4000000
namespace Go.Proofs.YtipmpjphjhipjaaDoor.A
open Go
/-! ### a text that is cut -/
def nosp (a : ByteArray) : Prop := ∀ k, k < a.size → bt a k ≠ 32
theorem ext_left (a t : ByteArray) : (a ++ t).extract 0 a.size = a := by
 apply ByteArray.ext
 rw [ByteArray.data_extract, ByteArray.data_append]
 apply Array.ext'
 simp
 exact List.take_of_length_le (by simp)
theorem ext_right (a t : ByteArray) : (a ++ t).extract a.size (a ++ t).size = t := by
 apply ByteArray.ext
 rw [ByteArray.data_extract, ByteArray.data_append]
 apply Array.ext'
 simp
 rw [List.drop_of_length_le (by simp), List.take_of_length_le (l := t.data.toList) (by simp)]
 simp
theorem sp_size (x : ByteArray) : (spS ++ x).size = x.size + 1 := by
 rw [ByteArray.size_append, show spS.size = 1 from rfl]
 omega
theorem bt_sp (x : ByteArray) : bt (spS ++ x) 0 = 32 := by
 rw [bt_append_left (by decide)]; rfl
theorem cut_some {w x : ByteArray} (hw : nosp w) : spI (w ++ (spS ++ x)) = w.size ∧ hdS (w ++ (spS ++ x)) = w ∧ tlS (w ++ (spS ++ x)) = x ∧ mrB (w ++ (spS ++ x)) = true := by
 have hz : (w ++ (spS ++ x)).size = w.size + x.size + 1 := by rw [ByteArray.size_append, sp_size]; omega
 have h1 : spI (w ++ (spS ++ x)) = w.size := by
  refine sp_yes (by omega) ?_ (fun i hi => ?_)
  ·rw [bt_append_right (Nat.le_refl _), Nat.sub_self, bt_sp]
  ·rw [bt_append_left hi]; exact hw i hi
 refine ⟨h1, ?_, ?_, ?_⟩
 ·unfold hdS
  rw [h1, if_pos (by omega), Int.toNat_natCast, ext_left]
 ·unfold tlS
  rw [h1, if_pos (by omega), Int.toNat_natCast]
  have e : (w ++ spS).size = w.size + 1 := by
   rw [ByteArray.size_append]; rfl
  rw [← e, ← ByteArray.append_assoc, ext_right]
 ·unfold mrB
  rw [h1]; exact decide_eq_true (by omega)
theorem cut_none {w : ByteArray} (hw : nosp w) : hdS w = w ∧ tlS w = ⟨⟨[]⟩⟩ ∧ mrB w = false := by
 have h1 : spI w = -1 := sp_no hw
 unfold hdS tlS mrB
 rw [h1]
 exact ⟨if_neg (by omega), if_neg (by omega), decide_eq_false (by omega)⟩
theorem wName_nosp : ∀ k : Fin 19, ∀ i : Fin 8, bt (wName k.1) i.1 ≠ 32 := by decide +kernel
theorem word_nosp (n : Int) : nosp (wordS n) := by
 intro k hk
 have hf := wordS_few n
 unfold wordS at hk hf ⊢
 split at hk
 ·rename_i h
  rw [if_pos h] at hf ⊢
  exact wName_nosp ⟨n.toNat, by omega⟩ ⟨k, by omega⟩
 ·exact absurd hk (by exact Nat.not_lt_zero k)
theorem itoa_nosp {n : Int} (h : 0 ≤ n) : nosp (itoaS n) := fun k hk => by
 have := itoa_digit h hk
 omega
/-! ### a number that is read -/
theorem digs_val (n : Nat) : (Lib.decDigits n).foldl (fun a c => a * 10 + (c.toNat - 48)) 0 = n := by
 induction n using Nat.strongRecOn with
 | ind n ih =>
  rw [Lib.decDigits]
  split
  ·rename_i h
   show 0 * 10 + ((UInt8.ofNat (48 + n)).toNat - 48) = n
   rw [UInt8.toNat_ofNat_of_lt' (by show 48 + n < 256; omega)]; omega
  ·rename_i h
   rw [List.foldl_append, ih (n / 10) (by omega)]
   show (n / 10) * 10 + ((UInt8.ofNat (48 + n % 10)).toNat - 48) = n
   rw [UInt8.toNat_ofNat_of_lt' (by show 48 + n % 10 < 256; omega)]; omega
theorem fold_ge : ∀ (l : List UInt8) (a : Nat), a ≤ l.foldl (fun a c => a * 10 + (c.toNat - 48)) a
 | [], a => Nat.le_refl _
 | c :: l, a => by
  have := fold_ge l (a * 10 + (c.toNat - 48))
  rw [List.foldl_cons]; omega
theorem parse_digs : ∀ (l : List UInt8) (a : Nat), (∀ c ∈ l, 48 ≤ c.toNat ∧ c.toNat ≤ 57) → l.foldl (fun a c => a * 10 + (c.toNat - 48)) a ≤ 1000000000 → Lib.parseUint10 a l = .ok (l.foldl (fun a c => a * 10 + (c.toNat - 48)) a)
 | [], a, _, _ => rfl
 | c :: l, a, hd, hb => by
  have hc := hd c (List.mem_cons_self ..)
  rw [List.foldl_cons] at hb ⊢
  have hg := fold_ge l (a * 10 + (c.toNat - 48))
  unfold Lib.parseUint10
  rw [if_pos hc, if_neg (by omega), if_neg (by omega)]
  exact parse_digs l _ (fun x hx => hd x (List.mem_cons_of_mem _ hx)) hb
theorem atoi_itoa {n : Int} (h0 : 0 ≤ n) (h1 : n ≤ 1000000000) : atoiV (itoaS n) = n := by
 have hp : Lib.parseUint10 0 (Lib.decDigits n.toNat) = .ok n.toNat := by
  have := parse_digs (Lib.decDigits n.toNat) 0 (digs_ok _) (by rw [digs_val]; omega)
  rw [digs_val] at this
  exact this
 unfold atoiV
 rw [itoa_list h0]
 have hd := digs_ok n.toNat
 have hne := digs_ne n.toNat
 have hall : Lib.atoiAll (Lib.decDigits n.toNat) = .ok n := by
  cases hl : Lib.decDigits n.toNat with
  | nil => exact absurd hl hne
  | cons c r =>
   rw [hl] at hp hd
   have hc := hd c (List.mem_cons_self ..)
   rw [Lib.atoiAll_plain c r (by omega) (by omega)]
   unfold Lib.parseMag
   rw [if_neg (by simp), hp]
   show (if 9223372036854775808 ≤ n.toNat then Lib.NumEnd.range else Lib.NumEnd.ok ((n.toNat : Nat) : Int)) = _
   rw [if_neg (by omega), Int.toNat_of_nonneg h0]
 rw [hall]
/-! ### what is read of a line -/
def gKd (s : ByteArray) : Int := kindI (hdS s)
def gRs (s : ByteArray) : ByteArray := if pKk (gKd s) = true then tlS (tlS s) else tlS s
def gKq (s : ByteArray) : Int := if pKk (gKd s) = true then atoiV (hdS (tlS s)) else 0
def gNq (s : ByteArray) : Int := if pM (gKd s) = true then atoiV (gRs s) else 0
def gTq (s : ByteArray) : ByteArray := if pTt (gKd s) = true then gRs s else ⟨⟨[]⟩⟩
def gOk (s : ByteArray) : Bool := lineB (gKd s) (gKq s) (gNq s) (gTq s) && decide (lineS (gKd s) (gKq s) (gNq s) (gTq s) = s)
def reqA (s : ByteArray) : Int := if gOk s = true then gKd s else 0
def reqB (s : ByteArray) : Int := if gOk s = true then gKq s else 0
def reqC (s : ByteArray) : Int := if gOk s = true then gNq s else 0
def reqD (s : ByteArray) : ByteArray := if gOk s = true then gTq s else ⟨⟨[]⟩⟩
theorem word_kind {kd : Int} (h : 0 ≤ hasQ kd) : kindI (wordS kd) = kd := by
 have := (word_has kd).1 h
 unfold wordS
 rw [if_pos (by omega), kind_word (by omega) (by omega)]
 omega
theorem line_tells {kd k n : Int} {t : ByteArray} (h : lineB kd k n t = true) :
  hdS (lineS kd k n t) = wordS kd ∧ (mrB (lineS kd k n t) = decide (0 < hasQ kd)) ∧ (hasQ kd = 0 → tlS (lineS kd k n t) = ⟨⟨[]⟩⟩) ∧ (hasQ kd = 1 → tlS (lineS kd k n t) = itoaS n) ∧ (hasQ kd = 3 → tlS (lineS kd k n t) = t) ∧
  (hasQ kd = 2 → tlS (lineS kd k n t) = itoaS k ++ (spS ++ t) ∧ hdS (tlS (lineS kd k n t)) = itoaS k ∧ tlS (tlS (lineS kd k n t)) = t ∧ mrB (tlS (lineS kd k n t)) = true) := by
 obtain ⟨a, ⟨b0, b1⟩, ⟨c0, c1⟩, d⟩ := line_parts h
 have hq := has_lt kd
 have hw := word_nosp kd
 rcases Decidable.em (hasQ kd = 0) with e | e
 ·rw [lineS_0 h e]
  obtain ⟨x1, x2, x3⟩ := cut_none hw
  exact ⟨x1, by rw [x3]; exact (decide_eq_false (by omega)).symm, fun _ => x2, fun _ => by omega, fun _ => by omega, fun _ => by omega⟩
 rcases Decidable.em (hasQ kd = 1) with e1 | e1
 ·rw [lineS_1 h e1]
  obtain ⟨x0, x1, x2, x3⟩ := cut_some (x := itoaS n) hw
  exact ⟨x1, by rw [x3]; exact (decide_eq_true (by omega)).symm, fun _ => by omega, fun _ => x2, fun _ => by omega, fun _ => by omega⟩
 rcases Decidable.em (hasQ kd = 3) with e3 | e3
 ·rw [lineS_3 h e3]
  obtain ⟨x0, x1, x2, x3⟩ := cut_some (x := t) hw
  exact ⟨x1, by rw [x3]; exact (decide_eq_true (by omega)).symm, fun _ => by omega, fun _ => by omega, fun _ => x2, fun _ => by omega⟩
 ·have e2 : hasQ kd = 2 := by omega
  rw [lineS_2 h e2, show wordS kd ++ (spS ++ itoaS k) ++ (spS ++ t) = wordS kd ++ (spS ++ (itoaS k ++ (spS ++ t))) by simp only [ByteArray.append_assoc]]
  obtain ⟨x0, x1, x2, x3⟩ := cut_some (x := itoaS k ++ (spS ++ t)) hw
  rw [x2]
  obtain ⟨y0, y1, y2, y3⟩ := cut_some (x := t) (itoa_nosp b0)
  exact ⟨x1, by rw [x3]; exact (decide_eq_true (by omega)).symm, fun _ => by omega, fun _ => by omega, fun _ => by omega, fun _ => ⟨rfl, y1, y2, y3⟩⟩
theorem read_line {kd k n : Int} {t : ByteArray} (h : lineB kd k n t = true) : gKd (lineS kd k n t) = kd ∧ gKq (lineS kd k n t) = k ∧ gNq (lineS kd k n t) = n ∧ gTq (lineS kd k n t) = t ∧ gOk (lineS kd k n t) = true := by
 obtain ⟨a, b, c, d, e⟩ := (line_iff kd k n t).1 h
 obtain ⟨h1, h2, h3, h4, h5, h6⟩ := line_tells h
 have hq := has_lt kd
 have g0 : gKd (lineS kd k n t) = kd := by unfold gKd; rw [h1, word_kind a]
 have g4 : gRs (lineS kd k n t) = if hasQ kd = 2 then t else if hasQ kd = 1 then itoaS n else if hasQ kd = 3 then t else ⟨⟨[]⟩⟩ := by
  unfold gRs
  rw [g0]
  unfold pKk
  simp only [decide_eq_true_eq]
  split
  ·rename_i e; rw [(h6 e).2.2.1]
  ·rename_i e
   split
   ·rename_i e1; exact h4 e1
   ·split
    ·rename_i e3; exact h5 e3
    ·exact h3 (by omega)
 have g1 : gKq (lineS kd k n t) = k := by
  unfold gKq
  rw [g0]
  unfold pKk
  simp only [decide_eq_true_eq]
  split
  ·rename_i e; rw [(h6 e).2.1, atoi_itoa b.1 b.2.1]
  ·omega
 have g2 : gNq (lineS kd k n t) = n := by
  unfold gNq
  rw [g0, g4]
  unfold pM
  simp only [decide_eq_true_eq]
  split
  ·rename_i e; rw [if_neg (by omega), atoi_itoa c.1 c.2.1]
  ·omega
 have g3 : gTq (lineS kd k n t) = t := by
  unfold gTq
  rw [g0, g4]
  unfold pTt
  simp only [decide_eq_true_eq]
  split
  ·rename_i e
   by_cases e2 : hasQ kd = 2
   ·rw [if_pos e2]
   ·rw [if_neg e2, if_neg (by omega), if_pos (by omega)]
  ·rename_i e
   rcases d with d | d
   ·exact absurd d e
   ·exact d.symm
 refine ⟨g0, g1, g2, g3, ?_⟩
 unfold gOk
 rw [g0, g1, g2, g3, h, decide_eq_true rfl]; rfl
theorem ok_line {s : ByteArray} (h : gOk s = true) : lineB (gKd s) (gKq s) (gNq s) (gTq s) = true ∧ lineS (gKd s) (gKq s) (gNq s) (gTq s) = s := by
 unfold gOk at h
 rw [Bool.and_eq_true, decide_eq_true_eq] at h
 exact h
theorem q_yes {s : ByteArray} (h : gOk s = true) : reqA s = gKd s ∧ reqB s = gKq s ∧ reqC s = gNq s ∧ reqD s = gTq s := ⟨if_pos h, if_pos h, if_pos h, if_pos h⟩
theorem q_no {s : ByteArray} (h : gOk s = false) : reqA s = 0 ∧ reqB s = 0 ∧ reqC s = 0 ∧ reqD s = ⟨⟨[]⟩⟩ := by
 have h' : ¬ gOk s = true := by rw [h]; simp
 exact ⟨if_neg h', if_neg h', if_neg h', if_neg h'⟩
theorem q_line {kd k n : Int} {t s : ByteArray} (h : lineB kd k n t = true) (hs : lineS kd k n t = s) : gOk s = true ∧ reqA s = kd ∧ reqB s = k ∧ reqC s = n ∧ reqD s = t := by
 obtain ⟨g0, g1, g2, g3, g4⟩ := read_line h
 rw [hs] at g0 g1 g2 g3 g4
 obtain ⟨r0, r1, r2, r3⟩ := q_yes g4
 exact ⟨g4, r0.trans g0, r1.trans g1, r2.trans g2, r3.trans g3⟩
theorem tl_few (s : ByteArray) : (tlS s).size ≤ s.size := by
 unfold tlS
 split
 ·rw [ByteArray.size_extract]; omega
 ·exact Nat.zero_le _
theorem hd_few (s : ByteArray) : (hdS s).size ≤ s.size := by
 unfold hdS
 split
 ·rw [ByteArray.size_extract]; omega
 ·exact Nat.le_refl _
end Go.Proofs.YtipmpjphjhipjaaDoor.A
/- Requests: the request of a line, of the program. -/
set_option linter.unusedSimpArgs false
set_option linter.unusedVariables false
set_option maxRecDepth 100000
set_option maxHeartbeats 4000000
namespace Go.Proofs.YtipmpjphjhipjaaDoor.A
open Go
theorem rParse_of {s t : ByteArray} {a b c : Int} {d : Bool} (h0 : gOk s = d) (h1 : reqA s = a) (h2 : reqB s = b) (h3 : reqC s = c) (h4 : reqD s = t) : rets [(true, [.st (vI (reqA s)), .st (vI (reqB s)), .st (vI (reqC s)), .st (vS (reqD s))]), (false, [.st (vB (gOk s))])] = ⟨true, [(true, [.st (.val (.int .i64 a)), .st (.val (.int .i64 b)), .st (.val (.int .i64 c)), .st (.val (.string t))]), (false, [.st (.val (.bool d))])]⟩ := by rw [h0, h1, h2, h3, h4]; rfl
theorem rParse_no {s : ByteArray} (h : gOk s = false) : rets [(true, [.st (vI (reqA s)), .st (vI (reqB s)), .st (vI (reqC s)), .st (vS (reqD s))]), (false, [.st (vB (gOk s))])] = ⟨true, [(true, [.st (.val (.int .i64 0)), .st (.val (.int .i64 0)), .st (.val (.int .i64 0)), .st (.val (.string ⟨⟨[]⟩⟩))]), (false, [.st (.val (.bool false))])]⟩ := by
 obtain ⟨h1, h2, h3, h4⟩ := q_no h
 exact rParse_of h h1 h2 h3 h4
theorem rParse_yes {s t : ByteArray} {a b c : Int} (hl : lineB a b c t = true) (hs : lineS a b c t = s) : rets [(true, [.st (vI (reqA s)), .st (vI (reqB s)), .st (vI (reqC s)), .st (vS (reqD s))]), (false, [.st (vB (gOk s))])] = ⟨true, [(true, [.st (.val (.int .i64 a)), .st (.val (.int .i64 b)), .st (.val (.int .i64 c)), .st (.val (.string t))]), (false, [.st (.val (.bool true))])]⟩ := by
 obtain ⟨h0, h1, h2, h3, h4⟩ := q_line hl hs
 exact rParse_of h0 h1 h2 h3 h4
theorem ok_no {s t : ByteArray} {k n : Int} (h1 : gKq s = k) (h2 : gNq s = n) (h3 : gTq s = t) (h : lineB (gKd s) k n t = false ∨ ¬ lineS (gKd s) k n t = s) : gOk s = false := by
 unfold gOk
 rw [h1, h2, h3]
 rcases h with h | h
 ·rw [h]; rfl
 ·rw [decide_eq_false h, Bool.and_false]
def bookAskP (x_pKk : Int → Bool) (x_pM : Int → Bool) (x_pTt : Int → Bool) (x_mW : GM) (x_atoiV : ByteArray → Int) (x_hdS : ByteArray → ByteArray) (x_tlS : ByteArray → ByteArray) (x_mrB : ByteArray → Bool) (x_lineB : Int → Int → Int → ByteArray → Bool) (x_lineS : Int → Int → Int → ByteArray → ByteArray) : Book := fun f xs => match f, xs with
 | 19, [] => some (ret1 (.map .str x_mW))
 | 12, [.v false [.val (.int .i64 k)]] => some (rets [(false, [.st (vB (x_pKk k))]), (false, [.st (vB (x_pM k))]), (false, [.st (vB (x_pTt k))])])
 | 20, [.v false [.val (.string s)], _] => some (rets [(false, [.st (vS (x_hdS s))]), (false, [.st (vS (x_tlS s))]), (false, [.st (vB (x_mrB s))])])
 | 21, [.v false [.val (.string s)]] => some (rets [(false, [.st (vI (x_atoiV s))]), (false, [.dead])])
 | 6, [.v true [.val (.int .i64 a), .val (.int .i64 b), .val (.int .i64 c), .val (.string t)]] => some (rets [(false, [.st (vS (x_lineS a b c t))]), (false, [.st (vB (x_lineB a b c t))])])
 | _, _ => none
theorem c_Parse (s : ByteArray) (hs : s.size ≤ 1000000) : pc 10 [.v false [vS s]] (rets [(true, [.st (vI (reqA s)), .st (vI (reqB s)), .st (vI (reqC s)), .st (vS (reqD s))]), (false, [.st (vB (gOk s))])]) := by
 refine ⟨enters Tryd.func10 (by kernel_rfl) (by kernel_rfl), pc_of tok Tryd.func10 rfl (by rfl) ?_⟩
 obtain ⟨j, hj⟩ : ∃ j : J, j = std Tryd.prog T := ⟨_, rfl⟩
 have hm : Tryd.prog.follows .mixedOrders = true := by kernel_rfl
 have z1 := tl_few s
 have z2 := hd_few (tlS s)
 have z3 := tl_few (tlS s)
 have hkd : gi (mgetC mW.ks mW.vs (.string (hdS s)) (.val (.int .i64 0))) = gKd s := rfl
 generalize y_pKk : @pKk = x_pKk at *
 generalize y_pM : @pM = x_pM at *
 generalize y_pTt : @pTt = x_pTt at *
 generalize y_mW : @mW = x_mW at *
 generalize y_atoiV : @atoiV = x_atoiV at *
 generalize y_hdS : @hdS = x_hdS at *
 generalize y_tlS : @tlS = x_tlS at *
 generalize y_mrB : @mrB = x_mrB at *
 generalize y_lineB : @lineB = x_lineB at *
 generalize y_lineS : @lineS = x_lineS at *
 generalize y_hasQ : @hasQ = x_hasQ at *
 generalize y_gKd : @gKd = x_gKd at *
 generalize y_gRs : @gRs = x_gRs at *
 generalize y_gKq : @gKq = x_gKq at *
 generalize y_gNq : @gNq = x_gNq at *
 generalize y_gTq : @gTq = x_gTq at *
 generalize y_gOk : @gOk = x_gOk at *
 generalize y_reqA : @reqA = x_reqA at *
 generalize y_reqB : @reqB = x_reqB at *
 generalize y_reqC : @reqC = x_reqC at *
 generalize y_reqD : @reqD = x_reqD at *
 (repeat' first | ((first | with_reducible refine tr_cut (fun h => ?_) (fun h => ?_) | refine aw_condj (by cbv) (fun h => ?_) (fun h => ?_)) <;> (try simp (disch := omega) only [hj, std, cmpI, cmpB, satB, Bool.not_eq_true, Bool.not_eq_false, decide_eq_true_eq, decide_eq_false_iff_not, beq_iff_eq, bne_iff_ne, bne_eq_false_iff_eq, beq_eq_false_iff_ne, ne_eq, reduceCtorEq, not_true_eq_false, not_false_eq_true, pl0, if_true, cmpS_eq, cmpS_neq, Bool.not_eq_eq_eq_not, Bool.not_true, Bool.not_false, Bool.not_eq_true', hkd, add64, sub64] at h) <;> (try (exfalso; omega))) | (with_reducible refine tr_alt (fun h => ?_) ?_ <;> (try (exfalso; omega))) | (with_reducible first | refine tr_ob ?_ ?_ | refine tr_done ?_) | (refine aw_tr hj tok (bookAskP x_pKk x_pM x_pTt x_mW x_atoiV x_hdS x_tlS x_mrB x_lineB x_lineS) (by cbv) ?_) | (refine aw_seq fun K hK => ?_) | (refine aw_tr1 hj tok (bookAskP x_pKk x_pM x_pTt x_mW x_atoiV x_hdS x_tlS x_mrB x_lineB x_lineS) (by cbv) ?_) | (refine aw_skip ?_) | (refine aw_block ?_) | (refine aw_exit ?_) | (refine aw_ret ⟨.inr rfl, ret_okj hj (by cbv) ?_ ?_⟩) | (refine aw_ret ?_) | (with_reducible first | refine th_n ?_ | refine th_r ?_ | refine th_x ?_ | refine blk_n ?_ | refine blk_r ?_ | refine blk_x ?_ | refine blk_y rfl ?_) | (refine ⟨.inr rfl, ret_okj hj (by cbv) ?_ ?_⟩) | (refine ⟨.inl rfl, ret_okj hj (by cbv) ?_ ?_⟩) | (with_reducible apply_assumption -symm -exfalso only [*]))
 all_goals ((try subst y_pKk); (try subst y_pM); (try subst y_pTt); (try subst y_mW); (try subst y_atoiV); (try subst y_hdS); (try subst y_tlS); (try subst y_mrB); (try subst y_lineB); (try subst y_lineS); (try subst y_hasQ); (try subst y_gKd); (try subst y_gRs); (try subst y_gKq); (try subst y_gNq); (try subst y_gTq); (try subst y_gOk); (try subst y_reqA); (try subst y_reqB); (try subst y_reqC); (try subst y_reqD))
 all_goals (try (have f1 : hasQ (gKd s) = 2 := of_decide_eq_true ‹pKk (gKd s) = true›; have e1 : gKq s = atoiV (hdS (tlS s)) := if_pos ‹pKk (gKd s) = true›; have e0 : gRs s = tlS (tlS s) := if_pos ‹pKk (gKd s) = true›))
 all_goals (try (have f1 : ¬ hasQ (gKd s) = 2 := of_decide_eq_false ‹pKk (gKd s) = false›; have e1 : gKq s = 0 := if_neg (by rw [‹pKk (gKd s) = false›]; simp); have e0 : gRs s = tlS s := if_neg (by rw [‹pKk (gKd s) = false›]; simp)))
 all_goals (try (have f2 : hasQ (gKd s) = 1 := of_decide_eq_true ‹pM (gKd s) = true›; have e2 : gNq s = atoiV (gRs s) := if_pos ‹pM (gKd s) = true›; rw [e0] at e2))
 all_goals (try (have f2 : ¬ hasQ (gKd s) = 1 := of_decide_eq_false ‹pM (gKd s) = false›; have e2 : gNq s = 0 := if_neg (by rw [‹pM (gKd s) = false›]; simp)))
 all_goals (try (have f3 : 2 ≤ hasQ (gKd s) := of_decide_eq_true ‹pTt (gKd s) = true›; have e3 : gTq s = gRs s := if_pos ‹pTt (gKd s) = true›; rw [e0] at e3))
 all_goals (try (have f3 : ¬ 2 ≤ hasQ (gKd s) := of_decide_eq_false ‹pTt (gKd s) = false›; have e3 : gTq s = ⟨⟨[]⟩⟩ := if_neg (by rw [‹pTt (gKd s) = false›]; simp)))
 all_goals (try (exfalso; omega))
 all_goals (try (repeat' first | with_reducible exact obl0 | with_reducible refine obl1 ?_ ?_))
 all_goals (try first | with_reducible exact True.intro | ((first | refine ob_pc hj ?_ | refine ob_pcn hj ?_); (try rw [hj]); first | exact c_words | exact c_parts _ | exact c_Cut _ (by omega) | exact c_Atoi _ (by omega) | exact c_Line _ _ _ _) | ((first | refine ob_le hj ?_ | refine ob_lei hj ?_ | refine ob_inb hj ?_ | refine ob_pos hj ?_ | refine ob_ne0 hj ?_ | refine ob_eqb hj ?_); (first | rfl | first | omega | (simp only [hj, std]; split <;> omega) | (simp (disch := omega) only [hj, std, cmpI, cmpB, satB, add64, sub64, ite0, pl0, pl2, pl3, sb0, if_true, if_false, eq_self] <;> omega) | (simp (disch := omega) [hj, std, cmpI, cmpB, satB, add64, sub64, ite0, pl0, pl2, pl3, sb0, if_true, if_false, eq_self] <;> omega))) | ((refine ob_ok hj ?_; rw [hj]; exact ⟨_, mget_kind _⟩)) | ((refine rParse_no ?_; exact ok_no e1 e2 e3 (.inl (by assumption)))) | ((refine rParse_no ?_; exact ok_no e1 e2 e3 (.inr (by assumption)))) | ((rw [hj]; refine rParse_yes ?_ ?_ <;> assumption)))
end Go.Proofs.YtipmpjphjhipjaaDoor.A
/- Requests: the request of a line, of the reference. -/
set_option linter.unusedSimpArgs false
set_option linter.unusedVariables false
set_option maxRecDepth 100000
set_option maxHeartbeats 4000000
namespace Go.Proofs.YtipmpjphjhipjaaDoor.A
open Go
theorem ref_ok {s : ByteArray} (h : gOk s = true) : 0 ≤ hasQ (gKd s) ∧ mrB s = decide (0 < hasQ (gKd s)) ∧ (hasQ (gKd s) = 1 → numI (tlS s) = gNq s) ∧ (hasQ (gKd s) = 2 → mrB (tlS s) = true ∧ numI (hdS (tlS s)) = gKq s ∧ tlS (tlS s) = gTq s) ∧ (hasQ (gKd s) = 3 → tlS s = gTq s) ∧ (¬ hasQ (gKd s) = 2 → gKq s = 0) ∧ (¬ hasQ (gKd s) = 1 → gNq s = 0) ∧ (hasQ (gKd s) < 2 → gTq s = ⟨⟨[]⟩⟩) := by
 obtain ⟨hl, hs⟩ := ok_line h
 obtain ⟨a, b, c, d, _⟩ := (line_iff _ _ _ _).1 hl
 obtain ⟨h1, h2, h3, h4, h5, h6⟩ := line_tells hl
 rw [hs] at h1 h2 h3 h4 h5 h6
 refine ⟨a, h2, fun e => ?_, fun e => ?_, h5, fun e => by omega, fun e => by omega, fun e => ?_⟩
 ·rw [h4 e, num_itoa c.1 c.2.1]
 ·obtain ⟨_, y1, y2, y3⟩ := h6 e
  exact ⟨y3, by rw [y1, num_itoa b.1 b.2.1], y2⟩
 ·rcases d with d | d
  ·omega
  ·exact d
theorem ref_no {s t : ByteArray} {k n : Int} (hk : hasQ (gKd s) = 2 → k = numI (hdS (tlS s))) (hk2 : ¬ hasQ (gKd s) = 2 → k = 0) (hn : hasQ (gKd s) = 1 → n = numI (tlS s)) (hn2 : ¬ hasQ (gKd s) = 1 → n = 0)
  (ht : hasQ (gKd s) = 2 → t = tlS (tlS s)) (ht3 : hasQ (gKd s) = 3 → t = tlS s) (ht2 : hasQ (gKd s) < 2 → t = ⟨⟨[]⟩⟩) (h : lineB (gKd s) k n t = false ∨ ¬ lineS (gKd s) k n t = s) : gOk s = false := by
 rw [Bool.eq_false_iff]
 intro hok
 obtain ⟨a, _, b1, b2, b3, c1, c2, c3⟩ := ref_ok hok
 obtain ⟨hl, hs⟩ := ok_line hok
 have hq := has_lt (gKd s)
 have ek : gKq s = k := by
  by_cases e : hasQ (gKd s) = 2
  ·rw [hk e, (b2 e).2.1]
  ·rw [hk2 e, c1 e]
 have en : gNq s = n := by
  by_cases e : hasQ (gKd s) = 1
  ·rw [hn e, b1 e]
  ·rw [hn2 e, c2 e]
 have et : gTq s = t := by
  by_cases e : hasQ (gKd s) = 2
  ·rw [ht e, (b2 e).2.2]
  ·by_cases e3 : hasQ (gKd s) = 3
   ·rw [ht3 e3, b3 e3]
   ·rw [ht2 (by omega), c3 (by omega)]
 rw [ek, en, et] at hl hs
 rcases h with h | h
 ·rw [hl] at h; cases h
 ·exact h hs
theorem ref_no1 {s : ByteArray} (h : hasQ (gKd s) < 0 ∨ ¬ mrB s = decide (hasQ (gKd s) > 0) ∨ (hasQ (gKd s) = 2 ∧ mrB (tlS s) = false)) : gOk s = false := by
 rw [Bool.eq_false_iff]
 intro hok
 obtain ⟨a, b, _, c, _⟩ := ref_ok hok
 rcases h with h | h | h
 ·omega
 ·exact h b
 ·rw [(c h.1).1] at h; cases h.2
def bookAskQ (x_rowW : List C) (x_hasQ : Int → Int) (x_hdS : ByteArray → ByteArray) (x_tlS : ByteArray → ByteArray) (x_mrB : ByteArray → Bool) (x_numI : ByteArray → Int) (x_lineB : Int → Int → Int → ByteArray → Bool) (x_lineS : Int → Int → Int → ByteArray → ByteArray) : Book := fun f xs => match f, xs with
 | 8, [] => some (ret1 (.own strT 19 x_rowW))
 | 16, [.v false [.val (.int .i64 k)]] => some (ret1 (.st (vI (x_hasQ k))))
 | 22, [.v false [.val (.string s)]] => some (rets [(false, [.st (vS (x_hdS s))]), (false, [.st (vS (x_tlS s))]), (false, [.st (vB (x_mrB s))])])
 | 23, [.v false [.val (.string s)]] => some (ret1 (.st (vI (x_numI s))))
 | 7, [.v true [.val (.int .i64 a), .val (.int .i64 b), .val (.int .i64 c), .val (.string t)]] => some (rets [(false, [.st (vS (x_lineS a b c t))]), (false, [.st (vB (x_lineB a b c t))])])
 | _, _ => none
theorem num_range (s : ByteArray) : -1 ≤ numI s ∧ numI s ≤ 1000000000 := by
 rcases num_spec s with h | h <;> omega
def seenK (x i : Int) : Int := if 0 < x ∧ x < i then x else 0
set_option cbv.maxSteps 3000000 in
theorem c_rParse (s : ByteArray) (hs : s.size ≤ 1000000) : pc 11 [.v false [vS s]] (rets [(true, [.st (vI (reqA s)), .st (vI (reqB s)), .st (vI (reqC s)), .st (vS (reqD s))]), (false, [.st (vB (gOk s))])]) := by
 refine ⟨enters Tryd.func11 (by kernel_rfl) (by kernel_rfl), pc_of tok Tryd.func11 rfl (by rfl) ?_⟩
 obtain ⟨j, hj⟩ : ∃ j : J, j = std Tryd.prog T := ⟨_, rfl⟩
 have hm : Tryd.prog.follows .mixedOrders = true := by kernel_rfl
 have z1 := tl_few s
 have z2 := hd_few (tlS s)
 have z3 := tl_few (tlS s)
 have hkl := kind_lt (hdS s)
 generalize y_rowW : @rowW = x_rowW at *
 generalize y_hasQ : @hasQ = x_hasQ at *
 generalize y_hdS : @hdS = x_hdS at *
 generalize y_tlS : @tlS = x_tlS at *
 generalize y_mrB : @mrB = x_mrB at *
 generalize y_numI : @numI = x_numI at *
 generalize y_lineB : @lineB = x_lineB at *
 generalize y_lineS : @lineS = x_lineS at *
 generalize y_wName : @wName = x_wName at *
 generalize y_kindI : @kindI = x_kindI at *
 generalize y_gKd : @gKd = x_gKd at *
 generalize y_gOk : @gOk = x_gOk at *
 generalize y_reqA : @reqA = x_reqA at *
 generalize y_reqB : @reqB = x_reqB at *
 generalize y_reqC : @reqC = x_reqC at *
 generalize y_reqD : @reqD = x_reqD at *
 (repeat' first | ((first | with_reducible refine tr_cut (fun h => ?_) (fun h => ?_) | refine aw_condj (by cbv) (fun h => ?_) (fun h => ?_)) <;> (try simp (disch := omega) only [hj, std, cmpI, cmpB, satB, Bool.not_eq_true, Bool.not_eq_false, decide_eq_true_eq, decide_eq_false_iff_not, beq_iff_eq, bne_iff_ne, bne_eq_false_iff_eq, beq_eq_false_iff_ne, ne_eq, reduceCtorEq, not_true_eq_false, not_false_eq_true, pl0, if_true, cmpS_eq, cmpS_neq, Bool.not_eq_eq_eq_not, Bool.not_true, Bool.not_false, Bool.not_eq_true', add64, sub64] at h) <;> (try (exfalso; omega))) | (with_reducible refine tr_alt (fun h => ?_) ?_ <;> (try (exfalso; omega))) | (with_reducible first | refine tr_ob ?_ ?_ | refine tr_done ?_) | (refine aw_tr hj tok (bookAskQ x_rowW x_hasQ x_hdS x_tlS x_mrB x_numI x_lineB x_lineS) (by cbv) ?_) | (refine aw_seq fun K hK => ?_) | (refine aw_tr1 hj tok (bookAskQ x_rowW x_hasQ x_hdS x_tlS x_mrB x_numI x_lineB x_lineS) (by cbv) ?_) | (refine aw_skip ?_) | (refine aw_block ?_) | (refine aw_exit ?_) | (refine aw_ret ⟨.inr rfl, ret_okj hj (by cbv) ?_ ?_⟩) | (refine aw_ret ?_) | (with_reducible first | refine th_n ?_ | refine th_r ?_ | refine th_x ?_ | refine blk_n ?_ | refine blk_r ?_ | refine blk_x ?_ | refine blk_y rfl ?_) | (refine ⟨.inr rfl, ret_okj hj (by cbv) ?_ ?_⟩) | (refine ⟨.inl rfl, ret_okj hj (by cbv) ?_ ?_⟩) | (with_reducible first | refine ⟨(_, _), by cbv, ?_, ?_⟩ | refine ⟨_, by cbv, ?_, ?_⟩) | (with_reducible apply_assumption -symm -exfalso only [*]))
 all_goals ((try subst y_rowW); (try subst y_hasQ); (try subst y_hdS); (try subst y_tlS); (try subst y_mrB); (try subst y_numI); (try subst y_lineB); (try subst y_lineS); (try subst y_wName); (try subst y_kindI); (try subst y_gKd); (try subst y_gOk); (try subst y_reqA); (try subst y_reqB); (try subst y_reqC); (try subst y_reqD))
 all_goals (try (repeat' first | with_reducible exact obl0 | (with_reducible refine obl1 ?_ ?_)))
 all_goals (try first | with_reducible exact True.intro | ((first | refine ob_pc hj ?_ | refine ob_pcn hj ?_); (try rw [hj]); first | exact c_rCut _ (by omega) | exact c_Words) | ((first | refine ob_le hj ?_ | refine ob_lei hj ?_ | refine ob_inb hj ?_ | refine ob_pos hj ?_ | refine ob_ne0 hj ?_ | refine ob_eqb hj ?_); (first | rfl | first | omega | (simp only [hj, std]; split <;> omega) | (simp (disch := omega) only [hj, std, cmpI, cmpB, satB, add64, sub64, ite0, pl0, pl2, pl3, sb0, if_true, if_false, eq_self] <;> omega) | (simp (disch := omega) [hj, std, cmpI, cmpB, satB, add64, sub64, ite0, pl0, pl2, pl3, sb0, if_true, if_false, eq_self] <;> omega))) | ((refine ob_vals hj ?_; exact rowW_vals)))
 refine aw_lpj hj [(0, .keep), (2, .keep), (3, .keep), (4, .keep), (5, .keep), (6, .keep), (7, .keep), (8, .own strT), (9, .keep)] [2, 7] (fun (⟨i, v⟩ : Int × Int) => stOf 89 [(0, .one (.c (vS s))), (2, .one (.ptr 2 0)), (3, .one (.c (vB false))), (4, .one (.c (vS (hdS s)))), (5, .one (.c (vS (tlS s)))), (6, .one (.c (vB (mrB s)))), (7, .one (.ptr 7 0)), (8, .one (.view 8 0)), (9, .one (.c (vI i)))] [(8, .loose [.own strT 19 rowW]), (2, .box [.st (vI 0), .st (vI 0), .st (vI 0), .st (vS ⟨⟨[]⟩⟩)]), (7, .box [.st (vI v), .st (vI 0), .st (vI 0), .st (vS ⟨⟨[]⟩⟩)])]) (fun (⟨i, v⟩ : Int × Int) => 19 - i.toNat) (fun (⟨i, v⟩ : Int × Int) => 1 ≤ i ∧ i ≤ 19 ∧ v = seenK (kindI (hdS s)) i) ((1, 0)) (by generalize @rowW = x_rowW; generalize @hasQ = x_hasQ; generalize @hdS = x_hdS; generalize @tlS = x_tlS; generalize @mrB = x_mrB; generalize @numI = x_numI; generalize @lineB = x_lineB; generalize @lineS = x_lineS; generalize @wName = x_wName; generalize @kindI = x_kindI; generalize @gKd = x_gKd; generalize @gOk = x_gOk; generalize @reqA = x_reqA; generalize @reqB = x_reqB; generalize @reqC = x_reqC; generalize @reqD = x_reqD; cbv) ?_ (fun ⟨i, v⟩ hI => ?_)
 ·exact ⟨by omega, by omega, by unfold seenK; rw [if_neg (by omega)]⟩
 obtain ⟨i1, i2, i3⟩ := hI
 change 1 ≤ i at i1
 change i ≤ 19 at i2
 change v = seenK (kindI (hdS s)) i at i3
 have hend : ¬ i < 19 → v = gKd s := fun h => by
  rw [i3]; unfold seenK gKd
  split <;> omega
 have hat : i < 19 → cellAt rowW i.toNat = vS (wName i.toNat) := fun h => rowW_at (by omega)
 have hyes : i < 19 → gs (cellAt rowW i.toNat) = hdS s → i = seenK (kindI (hdS s)) (i + 1) := fun h e => by
  rw [hat h] at e
  have := (kind_iff (k := i.toNat) (by omega) (by omega)).1 e
  unfold seenK; rw [if_pos (by omega)]; omega
 have hno : i < 19 → ¬ gs (cellAt rowW i.toNat) = hdS s → v = seenK (kindI (hdS s)) (i + 1) := fun h e => by
  rw [hat h] at e
  have := mt (kind_iff (s := hdS s) (k := i.toNat) (by omega) (by omega)).2 e
  rw [i3]; unfold seenK
  split <;> split <;> omega
 have hi1 : i < 19 → j.arith .add .i64 i 1 = i + 1 := fun h => by rw [hj]; exact add64 (by omega) (by omega)
 by_cases hlt : i < 19
 ·clear hend
  generalize y_rowW : @rowW = x_rowW at *
  generalize y_hasQ : @hasQ = x_hasQ at *
  generalize y_hdS : @hdS = x_hdS at *
  generalize y_tlS : @tlS = x_tlS at *
  generalize y_mrB : @mrB = x_mrB at *
  generalize y_numI : @numI = x_numI at *
  generalize y_lineB : @lineB = x_lineB at *
  generalize y_lineS : @lineS = x_lineS at *
  generalize y_wName : @wName = x_wName at *
  generalize y_kindI : @kindI = x_kindI at *
  generalize y_gKd : @gKd = x_gKd at *
  generalize y_gOk : @gOk = x_gOk at *
  generalize y_reqA : @reqA = x_reqA at *
  generalize y_reqB : @reqB = x_reqB at *
  generalize y_reqC : @reqC = x_reqC at *
  generalize y_reqD : @reqD = x_reqD at *
  (repeat' first | ((first | with_reducible refine tr_cut (fun h => ?_) (fun h => ?_) | refine aw_condj (by cbv) (fun h => ?_) (fun h => ?_)) <;> (try simp (disch := omega) only [hj, std, cmpI, cmpB, satB, Bool.not_eq_true, Bool.not_eq_false, decide_eq_true_eq, decide_eq_false_iff_not, beq_iff_eq, bne_iff_ne, bne_eq_false_iff_eq, beq_eq_false_iff_ne, ne_eq, reduceCtorEq, not_true_eq_false, not_false_eq_true, pl0, if_true, cmpS_eq, cmpS_neq, Bool.not_eq_eq_eq_not, Bool.not_true, Bool.not_false, Bool.not_eq_true', add64, sub64] at h) <;> (try (exfalso; omega))) | (with_reducible refine tr_alt (fun h => ?_) ?_ <;> (try (exfalso; omega))) | (with_reducible first | refine tr_ob ?_ ?_ | refine tr_done ?_) | (refine aw_tr hj tok (bookAskQ x_rowW x_hasQ x_hdS x_tlS x_mrB x_numI x_lineB x_lineS) (by cbv) ?_) | (refine aw_seq fun K hK => ?_) | (refine aw_tr1 hj tok (bookAskQ x_rowW x_hasQ x_hdS x_tlS x_mrB x_numI x_lineB x_lineS) (by cbv) ?_) | (refine aw_skip ?_) | (refine aw_block ?_) | (refine aw_exit ?_) | (refine aw_ret ⟨.inr rfl, ret_okj hj (by cbv) ?_ ?_⟩) | (refine aw_ret ?_) | (with_reducible first | refine th_n ?_ | refine th_r ?_ | refine th_x ?_ | refine blk_n ?_ | refine blk_r ?_ | refine blk_x ?_ | refine blk_y rfl ?_) | (refine ⟨.inr rfl, ret_okj hj (by cbv) ?_ ?_⟩) | (refine ⟨.inl rfl, ret_okj hj (by cbv) ?_ ?_⟩) | (with_reducible first | refine ⟨(_, _), by cbv, ?_, ?_⟩ | refine ⟨_, by cbv, ?_, ?_⟩) | (with_reducible apply_assumption -symm -exfalso only [*]))
  all_goals ((try subst y_rowW); (try subst y_hasQ); (try subst y_hdS); (try subst y_tlS); (try subst y_mrB); (try subst y_numI); (try subst y_lineB); (try subst y_lineS); (try subst y_wName); (try subst y_kindI); (try subst y_gKd); (try subst y_gOk); (try subst y_reqA); (try subst y_reqB); (try subst y_reqC); (try subst y_reqD))
  all_goals (try (repeat' first | with_reducible exact obl0 | (with_reducible refine obl1 ?_ ?_)))
  all_goals (try first | with_reducible exact True.intro | ((first | refine ob_le hj ?_ | refine ob_lei hj ?_ | refine ob_inb hj ?_ | refine ob_pos hj ?_ | refine ob_ne0 hj ?_ | refine ob_eqb hj ?_); (first | rfl | first | omega | (simp only [hj, std]; split <;> omega) | (simp (disch := omega) only [hj, std, cmpI, cmpB, satB, add64, sub64, ite0, pl0, pl2, pl3, sb0, if_true, if_false, eq_self, rowW_len] <;> omega) | (simp (disch := omega) [hj, std, cmpI, cmpB, satB, add64, sub64, ite0, pl0, pl2, pl3, sb0, if_true, if_false, eq_self, rowW_len] <;> omega))) | ((refine ob_ok hj ?_; rw [hj]; exact ⟨_, hat (by omega)⟩)) | (exact ⟨(show 1 ≤ j.arith .add .i64 i 1 by rw [hi1 hlt]; omega), (show j.arith .add .i64 i 1 ≤ 19 by rw [hi1 hlt]; omega), (show i = seenK (kindI (hdS s)) (j.arith .add .i64 i 1) by rw [hi1 hlt]; exact hyes hlt (by assumption))⟩) | (exact ⟨(show 1 ≤ j.arith .add .i64 i 1 by rw [hi1 hlt]; omega), (show j.arith .add .i64 i 1 ≤ 19 by rw [hi1 hlt]; omega), (show v = seenK (kindI (hdS s)) (j.arith .add .i64 i 1) by rw [hi1 hlt]; exact hno hlt (by assumption))⟩) | ((show 19 - (j.arith .add .i64 i 1).toNat < 19 - i.toNat; rw [hi1 hlt]; omega)))
 ·have hv := hend hlt
  clear hend hyes hno hi1 hat i3
  subst hv
  have hq := has_lt (gKd s)
  have hn1 := num_range (tlS s)
  have hn2 := num_range (hdS (tlS s))
  generalize y_rowW : @rowW = x_rowW at *
  generalize y_hasQ : @hasQ = x_hasQ at *
  generalize y_hdS : @hdS = x_hdS at *
  generalize y_tlS : @tlS = x_tlS at *
  generalize y_mrB : @mrB = x_mrB at *
  generalize y_numI : @numI = x_numI at *
  generalize y_lineB : @lineB = x_lineB at *
  generalize y_lineS : @lineS = x_lineS at *
  generalize y_wName : @wName = x_wName at *
  generalize y_kindI : @kindI = x_kindI at *
  generalize y_gKd : @gKd = x_gKd at *
  generalize y_gOk : @gOk = x_gOk at *
  generalize y_reqA : @reqA = x_reqA at *
  generalize y_reqB : @reqB = x_reqB at *
  generalize y_reqC : @reqC = x_reqC at *
  generalize y_reqD : @reqD = x_reqD at *
  (repeat' first | ((first | with_reducible refine tr_cut (fun h => ?_) (fun h => ?_) | refine aw_condj (by cbv) (fun h => ?_) (fun h => ?_)) <;> (try simp (disch := omega) only [hj, std, cmpI, cmpB, satB, Bool.not_eq_true, Bool.not_eq_false, decide_eq_true_eq, decide_eq_false_iff_not, beq_iff_eq, bne_iff_ne, bne_eq_false_iff_eq, beq_eq_false_iff_ne, ne_eq, reduceCtorEq, not_true_eq_false, not_false_eq_true, pl0, if_true, cmpS_eq, cmpS_neq, Bool.not_eq_eq_eq_not, Bool.not_true, Bool.not_false, Bool.not_eq_true', add64, sub64] at h) <;> (try (exfalso; omega))) | (with_reducible refine tr_alt (fun h => ?_) ?_ <;> (try (exfalso; omega))) | (with_reducible first | refine tr_ob ?_ ?_ | refine tr_done ?_) | (refine aw_tr hj tok (bookAskQ x_rowW x_hasQ x_hdS x_tlS x_mrB x_numI x_lineB x_lineS) (by cbv) ?_) | (refine aw_seq fun K hK => ?_) | (refine aw_tr1 hj tok (bookAskQ x_rowW x_hasQ x_hdS x_tlS x_mrB x_numI x_lineB x_lineS) (by cbv) ?_) | (refine aw_skip ?_) | (refine aw_block ?_) | (refine aw_exit ?_) | (refine aw_ret ⟨.inr rfl, ret_okj hj (by cbv) ?_ ?_⟩) | (refine aw_ret ?_) | (with_reducible first | refine th_n ?_ | refine th_r ?_ | refine th_x ?_ | refine blk_n ?_ | refine blk_r ?_ | refine blk_x ?_ | refine blk_y rfl ?_) | (refine ⟨.inr rfl, ret_okj hj (by cbv) ?_ ?_⟩) | (refine ⟨.inl rfl, ret_okj hj (by cbv) ?_ ?_⟩) | (with_reducible first | refine ⟨(_, _), by cbv, ?_, ?_⟩ | refine ⟨_, by cbv, ?_, ?_⟩) | (with_reducible apply_assumption -symm -exfalso only [*]))
  all_goals ((try subst y_rowW); (try subst y_hasQ); (try subst y_hdS); (try subst y_tlS); (try subst y_mrB); (try subst y_numI); (try subst y_lineB); (try subst y_lineS); (try subst y_wName); (try subst y_kindI); (try subst y_gKd); (try subst y_gOk); (try subst y_reqA); (try subst y_reqB); (try subst y_reqC); (try subst y_reqD))
  all_goals (try (repeat' first | with_reducible exact obl0 | with_reducible refine obl1 ?_ ?_))
  all_goals (try first | with_reducible exact True.intro | ((first | refine ob_pc hj ?_ | refine ob_pcn hj ?_); (try rw [hj]); first | exact c_Has _ | exact c_Number _ | exact c_rCut _ (by omega) | exact c_rLine _ _ _ _ (by first | omega | exact (by decide : (0 : Nat) < 4611686018427387904)) (by omega) (by omega)) | ((first | refine ob_le hj ?_ | refine ob_lei hj ?_ | refine ob_inb hj ?_ | refine ob_pos hj ?_ | refine ob_ne0 hj ?_ | refine ob_eqb hj ?_); (first | rfl | first | omega | (simp only [hj, std]; split <;> omega) | (simp (disch := omega) only [hj, std, cmpI, cmpB, satB, add64, sub64, ite0, pl0, pl2, pl3, sb0, if_true, if_false, eq_self, rowW_len] <;> omega) | (simp (disch := omega) [hj, std, cmpI, cmpB, satB, add64, sub64, ite0, pl0, pl2, pl3, sb0, if_true, if_false, eq_self, rowW_len] <;> omega))) | ((exfalso; omega)) | ((refine rParse_no (ref_no1 (.inl ?_)); omega)) | ((refine rParse_no (ref_no1 (.inr (.inl ?_))); assumption)) | ((refine rParse_no (ref_no1 (.inr (.inr ⟨?_, ?_⟩))); assumption; assumption)) | ((refine rParse_no (ref_no (k := numI (hdS (tlS s))) (n := 0) (t := tlS (tlS s)) (fun _ => rfl) (fun _ => by omega) (fun _ => by omega) (fun _ => rfl) (fun _ => rfl) (fun _ => by omega) (fun _ => by omega) ?_); first | exact .inl (by assumption) | exact .inr (by assumption))) | ((refine rParse_no (ref_no (k := 0) (n := numI (tlS s)) (t := ⟨⟨[]⟩⟩) (fun _ => by omega) (fun _ => rfl) (fun _ => rfl) (fun _ => by omega) (fun _ => by omega) (fun _ => by omega) (fun _ => rfl) ?_); first | exact .inl (by assumption) | exact .inr (by assumption))) | ((refine rParse_no (ref_no (k := 0) (n := 0) (t := tlS s) (fun _ => by omega) (fun _ => rfl) (fun _ => by omega) (fun _ => rfl) (fun _ => by omega) (fun _ => rfl) (fun _ => by omega) ?_); first | exact .inl (by assumption) | exact .inr (by assumption))) | ((refine rParse_no (ref_no (k := 0) (n := 0) (t := ⟨⟨[]⟩⟩) (fun _ => by omega) (fun _ => rfl) (fun _ => by omega) (fun _ => rfl) (fun _ => by omega) (fun _ => by omega) (fun _ => rfl) ?_); first | exact .inl (by assumption) | exact .inr (by assumption))) | ((refine rParse_yes ?_ ?_ <;> assumption)))
end Go.Proofs.YtipmpjphjhipjaaDoor.A
/- Requests held against each other. -/
set_option linter.unusedSimpArgs false
set_option linter.unusedVariables false
set_option maxRecDepth 100000
set_option maxHeartbeats 4000000
namespace Go.Proofs.YtipmpjphjhipjaaDoor.A
open Go
theorem mseqA : (std Tryd.prog T).mseq 23 3 := by
 intro xs s ys u hx hy w
 match xs, hx, ys, hy with
 | [a, b, c], _, [d, e, f], _ =>
  have hu := Tryd.underlying23
  have hi := Tryd.underlying3
  have hs := Tryd.underlying9
  have ht : Tryd.prog.underlying 23 = some (.struct (Tryd.prog.fieldsOf 23)) := by unfold Program.fieldsOf; rw [hu]
  have hp : Tryd.prog.stoodInHeld 23 = false := by kernel_rfl
  have hg : Tryd.prog.eqGuardType Tryd.prog.depth 23 = false := by kernel_rfl
  obtain ⟨fs, hfs1, hfs2⟩ : ∃ fs, Tryd.prog.fieldsOf 23 = fs ∧ fs = #[{ name := "Kind", type := 3, offset := 0, embedded := false, tag := "", pkgPath := "", byteOffset := 0 }, { name := "K", type := 3, offset := 1, embedded := false, tag := "", pkgPath := "", byteOffset := 8 }, { name := "N", type := 3, offset := 2, embedded := false, tag := "", pkgPath := "", byteOffset := 16 }, { name := "Text", type := 9, offset := 3, embedded := false, tag := "", pkgPath := "", byteOffset := 24 }] := ⟨_, rfl, by unfold Program.fieldsOf; rw [hu]⟩
  have hE : (Op.equalIn 10000 23 (.agg #[.int .i64 a, .int .i64 b, .int .i64 c, .string s]) (.agg #[.int .i64 d, .int .i64 e, .int .i64 f, .string u])).run Tryd.prog w = .ok (decide ([a, b, c] = [d, e, f] ∧ s = u)) w := by
   rw [run_equalIn_struct w 9999 _ _ _ ht hp, hfs1, hfs2]
   have pk : Tryd.prog.plainKey 3 = true := by kernel_rfl
   have pks : Tryd.prog.plainKey 9 = true := by kernel_rfl
   have hq : ∀ x y : Int, (Op.equalIn 9999 3 (.int .i64 x) (.int .i64 y)).run Tryd.prog w = .ok (x == y) w := fun x y => run_equalIn_int w 9998 _ _ _ x y hi
   have hqs : ∀ x y : ByteArray, (Op.equalIn 9999 9 (.string x) (.string y)).run Tryd.prog w = .ok (decide (x = y)) w := fun x y => by rw [run_equalIn_string w 9998 _ x y hs, ← cmpS_eq]; rfl
   have r0 : ∀ x y z s, (part 3 #[.int .i64 x, .int .i64 y, .int .i64 z, .string s] 0).run Tryd.prog w = .ok (.int .i64 x) w := fun x y z s => run_part_plain w pk rfl
   have r1 : ∀ x y z s, (part 3 #[.int .i64 x, .int .i64 y, .int .i64 z, .string s] 1).run Tryd.prog w = .ok (.int .i64 y) w := fun x y z s => run_part_plain w pk rfl
   have r2 : ∀ x y z s, (part 3 #[.int .i64 x, .int .i64 y, .int .i64 z, .string s] 2).run Tryd.prog w = .ok (.int .i64 z) w := fun x y z s => run_part_plain w pk rfl
   have r3 : ∀ x y z s, (part 9 #[.int .i64 x, .int .i64 y, .int .i64 z, .string s] 3).run Tryd.prog w = .ok (.string s) w := fun x y z s => run_part_plain w pks rfl
   simp only [Op.eqFields, Sem.run_bind]
   by_cases h1 : a = d <;> by_cases h2 : b = e <;> by_cases h3 : c = f <;> by_cases h4 : s = u <;> simp [Sem.run_bind, r0, r1, r2, r3, hq, hqs, h1, h2, h3, h4, Result.andThen]
  exact ⟨by show (binOp .eql _ (.agg #[.int .i64 a, .int .i64 b, .int .i64 c, .string s]) (.agg #[.int .i64 d, .int .i64 e, .int .i64 f, .string u])).run _ w = _; rw [run_eql_struct, hE]; rfl, by show (binOp .neq _ (.agg #[.int .i64 a, .int .i64 b, .int .i64 c, .string s]) (.agg #[.int .i64 d, .int .i64 e, .int .i64 f, .string u])).run _ w = _; rw [run_neq_struct, hE]; rfl, fun op x y => run_eqGuard_agg w op _ x y _ _ hg⟩
theorem mseqL : (std Tryd.prog T).mseq 28 3 := by
 intro xs s ys u hx hy w
 match xs, hx, ys, hy with
 | [a, b, c], _, [d, e, f], _ =>
  have hu := Tryd.underlying28
  have hi := Tryd.underlying3
  have hs := Tryd.underlying9
  have ht : Tryd.prog.underlying 28 = some (.struct (Tryd.prog.fieldsOf 28)) := by unfold Program.fieldsOf; rw [hu]
  have hp : Tryd.prog.stoodInHeld 28 = false := by kernel_rfl
  have hg : Tryd.prog.eqGuardType Tryd.prog.depth 28 = false := by kernel_rfl
  obtain ⟨fs, hfs1, hfs2⟩ : ∃ fs, Tryd.prog.fieldsOf 28 = fs ∧ fs = #[{ name := "Kind", type := 3, offset := 0, embedded := false, tag := "", pkgPath := "", byteOffset := 0 }, { name := "K", type := 3, offset := 1, embedded := false, tag := "", pkgPath := "", byteOffset := 8 }, { name := "N", type := 3, offset := 2, embedded := false, tag := "", pkgPath := "", byteOffset := 16 }, { name := "Text", type := 9, offset := 3, embedded := false, tag := "", pkgPath := "", byteOffset := 24 }] := ⟨_, rfl, by unfold Program.fieldsOf; rw [hu]⟩
  have hE : (Op.equalIn 10000 28 (.agg #[.int .i64 a, .int .i64 b, .int .i64 c, .string s]) (.agg #[.int .i64 d, .int .i64 e, .int .i64 f, .string u])).run Tryd.prog w = .ok (decide ([a, b, c] = [d, e, f] ∧ s = u)) w := by
   rw [run_equalIn_struct w 9999 _ _ _ ht hp, hfs1, hfs2]
   have pk : Tryd.prog.plainKey 3 = true := by kernel_rfl
   have pks : Tryd.prog.plainKey 9 = true := by kernel_rfl
   have hq : ∀ x y : Int, (Op.equalIn 9999 3 (.int .i64 x) (.int .i64 y)).run Tryd.prog w = .ok (x == y) w := fun x y => run_equalIn_int w 9998 _ _ _ x y hi
   have hqs : ∀ x y : ByteArray, (Op.equalIn 9999 9 (.string x) (.string y)).run Tryd.prog w = .ok (decide (x = y)) w := fun x y => by rw [run_equalIn_string w 9998 _ x y hs, ← cmpS_eq]; rfl
   have r0 : ∀ x y z s, (part 3 #[.int .i64 x, .int .i64 y, .int .i64 z, .string s] 0).run Tryd.prog w = .ok (.int .i64 x) w := fun x y z s => run_part_plain w pk rfl
   have r1 : ∀ x y z s, (part 3 #[.int .i64 x, .int .i64 y, .int .i64 z, .string s] 1).run Tryd.prog w = .ok (.int .i64 y) w := fun x y z s => run_part_plain w pk rfl
   have r2 : ∀ x y z s, (part 3 #[.int .i64 x, .int .i64 y, .int .i64 z, .string s] 2).run Tryd.prog w = .ok (.int .i64 z) w := fun x y z s => run_part_plain w pk rfl
   have r3 : ∀ x y z s, (part 9 #[.int .i64 x, .int .i64 y, .int .i64 z, .string s] 3).run Tryd.prog w = .ok (.string s) w := fun x y z s => run_part_plain w pks rfl
   simp only [Op.eqFields, Sem.run_bind]
   by_cases h1 : a = d <;> by_cases h2 : b = e <;> by_cases h3 : c = f <;> by_cases h4 : s = u <;> simp [Sem.run_bind, r0, r1, r2, r3, hq, hqs, h1, h2, h3, h4, Result.andThen]
  exact ⟨by show (binOp .eql _ (.agg #[.int .i64 a, .int .i64 b, .int .i64 c, .string s]) (.agg #[.int .i64 d, .int .i64 e, .int .i64 f, .string u])).run _ w = _; rw [run_eql_struct, hE]; rfl, by show (binOp .neq _ (.agg #[.int .i64 a, .int .i64 b, .int .i64 c, .string s]) (.agg #[.int .i64 d, .int .i64 e, .int .i64 f, .string u])).run _ w = _; rw [run_neq_struct, hE]; rfl, fun op x y => run_eqGuard_agg w op _ x y _ _ hg⟩
end Go.Proofs.YtipmpjphjhipjaaDoor.A
/- Requests: the chapter's example. -/
set_option linter.unusedSimpArgs false
set_option linter.unusedVariables false
set_option maxRecDepth 100000
set_option maxHeartbeats 4000000
namespace Go.Proofs.YtipmpjphjhipjaaDoor.A
open Go
def lnA : ByteArray := ⟨⟨[99, 111, 109, 112, 105, 108, 101, 32, 50, 32, 83, 32, 58, 32, 39, 97, 39, 32, 59]⟩⟩
def txA : ByteArray := ⟨⟨[83, 32, 58, 32, 39, 97, 39, 32, 59]⟩⟩
def lnB : ByteArray := ⟨⟨[102, 105, 110, 105, 115, 104, 32, 48, 55]⟩⟩
theorem itoa_2 : itoaS 2 = ⟨⟨[50]⟩⟩ := (itoa_small (n := 2) (by omega) (by omega)).symm
theorem itoa_7 : itoaS 7 = ⟨⟨[55]⟩⟩ := (itoa_small (n := 7) (by omega) (by omega)).symm
theorem lnA_b : lineB 1 2 0 txA = true := by
 rw [line_iff]
 refine ⟨by decide, by decide, by decide, .inl (by decide), by decide +kernel⟩
theorem lnA_s : lineS 1 2 0 txA = lnA := by
 rw [lineS_2 lnA_b (by decide), itoa_2]
 decide +kernel
theorem readA : gOk lnA = true ∧ reqA lnA = 1 ∧ reqB lnA = 2 ∧ reqC lnA = 0 ∧ reqD lnA = txA := q_line lnA_b lnA_s
theorem lnB_cut : hdS lnB = wName 7 ∧ tlS lnB = ⟨⟨[48, 55]⟩⟩ := by
  have h := cut_some (w := wName 7) (x := ⟨⟨[48, 55]⟩⟩) (fun k hk => by
    have h6 : (wName 7).size = 6 := by decide +kernel
    exact wName_nosp 7 ⟨k, by omega⟩)
  have e : wName 7 ++ (spS ++ ⟨⟨[48, 55]⟩⟩) = lnB := by decide +kernel
  rw [e] at h
  exact ⟨h.2.1, h.2.2.1⟩
theorem readB : gOk lnB = false := by
 rw [Bool.eq_false_iff]
 intro h
 obtain ⟨hl, hs⟩ := ok_line h
 have hk : gKd lnB = 7 := by unfold gKd; rw [lnB_cut.1]; exact kind_word (by omega) (by omega)
 have hq : hasQ (gKd lnB) = 1 := by rw [hk]; decide
 obtain ⟨_, _, ⟨c0, c1⟩, _⟩ := line_parts hl
 obtain ⟨_, _, _, h4, _⟩ := line_tells hl
 have h5 := h4 hq
 rw [hs, lnB_cut.2] at h5
 have h6 := num_itoa c0 c1
 rw [← h5] at h6
 have h7 : valT ⟨⟨[48, 55]⟩⟩ 2 = 7 := by decide +kernel
 have h8 : gNq lnB = 7 := by
  rw [← h6]
  unfold numI
  rw [show (⟨⟨[48, 55]⟩⟩ : ByteArray).size = 2 from rfl, h7, itoa_7]
  rw [if_neg (by decide)] at *
  exfalso
  unfold numI at h6
  rw [show (⟨⟨[48, 55]⟩⟩ : ByteArray).size = 2 from rfl, h7, itoa_7, if_neg (by decide)] at h6
  omega
 rw [h8, itoa_7] at h5
 exact absurd h5 (by decide)
theorem word11 : wordS 11 = ⟨⟨[114, 101, 99, 111, 118, 101, 114]⟩⟩ := by decide +kernel
def bookAskA (x_wordS : Int → ByteArray) (x_gOk : ByteArray → Bool) (x_reqA : ByteArray → Int) (x_reqB : ByteArray → Int) (x_reqC : ByteArray → Int) (x_reqD : ByteArray → ByteArray) : Book := fun f xs => match f, xs with
 | 9, [.v false [.val (.int .i64 k)]] => some (ret1 (.st (vS (x_wordS k))))
 | 10, [.v false [.val (.string s)]] => some (rets [(true, [.st (vI (x_reqA s)), .st (vI (x_reqB s)), .st (vI (x_reqC s)), .st (vS (x_reqD s))]), (false, [.st (vB (x_gOk s))])])
 | _, _ => none
theorem c_awake : pc 5 [] (ret1 (.st (vB true))) := by
 refine ⟨enters Tryd.func5 (by kernel_rfl) (by kernel_rfl), pc_of tok Tryd.func5 rfl (by rfl) ?_⟩
 obtain ⟨j, hj⟩ : ∃ j : J, j = std Tryd.prog T := ⟨_, rfl⟩
 have hm : Tryd.prog.follows .mixedOrders = true := by kernel_rfl
 obtain ⟨a0, a1, a2, a3, a4⟩ := readA
 have b0 := readB
 have w0 := word11
 unfold lnA at a0 a1 a2 a3 a4
 unfold lnB at b0
 unfold txA at a4
 generalize y_wordS : @wordS = x_wordS at *
 generalize y_gOk : @gOk = x_gOk at *
 generalize y_reqA : @reqA = x_reqA at *
 generalize y_reqB : @reqB = x_reqB at *
 generalize y_reqC : @reqC = x_reqC at *
 generalize y_reqD : @reqD = x_reqD at *
 generalize y_lnA : @lnA = x_lnA at *
 generalize y_txA : @txA = x_txA at *
 generalize y_lnB : @lnB = x_lnB at *
 (repeat' first | ((first | with_reducible refine tr_cut (fun h => ?_) (fun h => ?_) | refine aw_condj (by cbv) (fun h => ?_) (fun h => ?_)) <;> (try simp (disch := omega) only [hj, std, cmpI, cmpB, satB, Bool.not_eq_true, Bool.not_eq_false, decide_eq_true_eq, decide_eq_false_iff_not, beq_iff_eq, bne_iff_ne, bne_eq_false_iff_eq, beq_eq_false_iff_ne, ne_eq, reduceCtorEq, not_true_eq_false, not_false_eq_true, pl0, if_true, cmpS_eq, cmpS_neq, Bool.not_eq_eq_eq_not, Bool.not_true, Bool.not_false, Bool.not_eq_true', a0, a1, a2, a3, a4, b0, and_self, add64, sub64] at h) <;> (try (exfalso; omega))) | (with_reducible refine tr_alt (fun h => ?_) ?_ <;> (try (exfalso; omega))) | (with_reducible first | refine tr_ob ?_ ?_ | refine tr_done ?_) | (refine aw_tr hj tok (bookAskA x_wordS x_gOk x_reqA x_reqB x_reqC x_reqD) (by cbv) ?_) | (refine aw_seq fun K hK => ?_) | (refine aw_tr1 hj tok (bookAskA x_wordS x_gOk x_reqA x_reqB x_reqC x_reqD) (by cbv) ?_) | (refine aw_skip ?_) | (refine aw_block ?_) | (refine aw_exit ?_) | (refine aw_ret ⟨.inr rfl, ret_okj hj (by cbv) ?_ ?_⟩) | (refine aw_ret ?_) | (with_reducible first | refine th_n ?_ | refine th_r ?_ | refine th_x ?_ | refine blk_n ?_ | refine blk_r ?_ | refine blk_x ?_ | refine blk_y rfl ?_) | (refine ⟨.inr rfl, ret_okj hj (by cbv) ?_ ?_⟩) | (refine ⟨.inl rfl, ret_okj hj (by cbv) ?_ ?_⟩) | (with_reducible apply_assumption -symm -exfalso only [*]))
 all_goals ((try subst y_wordS); (try subst y_gOk); (try subst y_reqA); (try subst y_reqB); (try subst y_reqC); (try subst y_reqD); (try subst y_lnA); (try subst y_txA); (try subst y_lnB))
 all_goals (try (repeat' first | with_reducible exact obl0 | with_reducible refine obl1 ?_ ?_))
 all_goals (try first | with_reducible exact True.intro | ((first | refine ob_pc hj ?_ | refine ob_pcn hj ?_); (try rw [hj]); first | exact c_Parse _ (by decide) | exact c_Word _) | ((first | refine ob_le hj ?_ | refine ob_lei hj ?_ | refine ob_inb hj ?_ | refine ob_pos hj ?_ | refine ob_ne0 hj ?_ | refine ob_eqb hj ?_); (first | rfl | first | omega | (simp only [hj, std]; split <;> omega) | (simp (disch := omega) only [hj, std, cmpI, cmpB, satB, add64, sub64, ite0, pl0, pl2, pl3, sb0, if_true, if_false, eq_self] <;> omega) | (simp (disch := omega) [hj, std, cmpI, cmpB, satB, add64, sub64, ite0, pl0, pl2, pl3, sb0, if_true, if_false, eq_self] <;> omega))) | ((rw [hj]; exact mseqA)) | ((refine ret1_b ?_; rw [hj]; show true = cmpS .eql (wordS 11) _; rw [cmpS_eq, w0]; rfl)) | ((exfalso; simp_all)))
end Go.Proofs.YtipmpjphjhipjaaDoor.A
/- Requests: the laws' walks. -/
set_option linter.unusedSimpArgs false
set_option linter.unusedVariables false
set_option maxRecDepth 100000
set_option maxHeartbeats 4000000
namespace Go.Proofs.YtipmpjphjhipjaaDoor.A
open Go
theorem req_back {s : ByteArray} (h : gOk s = true) : lineB (reqA s) (reqB s) (reqC s) (reqD s) = true ∧ lineS (reqA s) (reqB s) (reqC s) (reqD s) = s := by
 obtain ⟨h0, h1, h2, h3⟩ := q_yes h
 rw [h0, h1, h2, h3]
 exact ok_line h
def bookAskW (x_rowW : List C) (x_wordS : Int → ByteArray) (x_gOk : ByteArray → Bool) (x_reqA : ByteArray → Int) (x_reqB : ByteArray → Int) (x_reqC : ByteArray → Int) (x_reqD : ByteArray → ByteArray) (x_lineB : Int → Int → Int → ByteArray → Bool) (x_lineS : Int → Int → Int → ByteArray → ByteArray) : Book := fun f xs => match f, xs with
 | 8, [] => some (ret1 (.own strT 19 x_rowW))
 | 9, [.v false [.val (.int .i64 k)]] => some (ret1 (.st (vS (x_wordS k))))
 | 10, [.v false [.val (.string s)]] => some (rets [(true, [.st (vI (x_reqA s)), .st (vI (x_reqB s)), .st (vI (x_reqC s)), .st (vS (x_reqD s))]), (false, [.st (vB (x_gOk s))])])
 | 11, [.v false [.val (.string s)]] => some (rets [(true, [.st (vI (x_reqA s)), .st (vI (x_reqB s)), .st (vI (x_reqC s)), .st (vS (x_reqD s))]), (false, [.st (vB (x_gOk s))])])
 | 6, [.v true [.val (.int .i64 a), .val (.int .i64 b), .val (.int .i64 c), .val (.string t)]] => some (rets [(false, [.st (vS (x_lineS a b c t))]), (false, [.st (vB (x_lineB a b c t))])])
 | 7, [.v true [.val (.int .i64 a), .val (.int .i64 b), .val (.int .i64 c), .val (.string t)]] => some (rets [(false, [.st (vS (x_lineS a b c t))]), (false, [.st (vB (x_lineB a b c t))])])
 | 5, [] => some (ret1 (.st (vB true)))
 | _, _ => none
theorem pc_AskParses (s : ByteArray) : PC Tryd.prog T 4 [.v false [vS s]] (ret1 (.st (vB true))) [] := by
 refine pc_of tok Tryd.func4 rfl (by rfl) ?_
 obtain ⟨j, hj⟩ : ∃ j : J, j = std Tryd.prog T := ⟨_, rfl⟩
 have hm : Tryd.prog.follows .mixedOrders = true := by kernel_rfl
 have hb := fun h : gOk s = true => req_back h
 generalize y_rowW : @rowW = x_rowW at *
 generalize y_wordS : @wordS = x_wordS at *
 generalize y_gOk : @gOk = x_gOk at *
 generalize y_reqA : @reqA = x_reqA at *
 generalize y_reqB : @reqB = x_reqB at *
 generalize y_reqC : @reqC = x_reqC at *
 generalize y_reqD : @reqD = x_reqD at *
 generalize y_lineB : @lineB = x_lineB at *
 generalize y_lineS : @lineS = x_lineS at *
 (repeat' first | ((first | with_reducible refine tr_cut (fun h => ?_) (fun h => ?_) | refine aw_condj (by cbv) (fun h => ?_) (fun h => ?_)) <;> (try simp (disch := omega) only [hj, std, cmpI, cmpB, satB, Bool.not_eq_true, Bool.not_eq_false, decide_eq_true_eq, decide_eq_false_iff_not, beq_iff_eq, bne_iff_ne, bne_eq_false_iff_eq, beq_eq_false_iff_ne, ne_eq, reduceCtorEq, not_true_eq_false, not_false_eq_true, pl0, if_true, cmpS_eq, cmpS_neq, Bool.not_eq_eq_eq_not, Bool.not_true, Bool.not_false, Bool.not_eq_true', eq_self, and_self, add64, sub64] at h) <;> (try (exfalso; omega))) | (with_reducible refine tr_alt (fun h => ?_) ?_ <;> (try (exfalso; omega))) | (with_reducible first | refine tr_ob ?_ ?_ | refine tr_done ?_) | (refine aw_tr hj tok (bookAskW x_rowW x_wordS x_gOk x_reqA x_reqB x_reqC x_reqD x_lineB x_lineS) (by cbv) ?_) | (refine aw_seq fun K hK => ?_) | (refine aw_tr1 hj tok (bookAskW x_rowW x_wordS x_gOk x_reqA x_reqB x_reqC x_reqD x_lineB x_lineS) (by cbv) ?_) | (refine aw_skip ?_) | (refine aw_block ?_) | (refine aw_exit ?_) | (refine aw_ret ⟨.inr rfl, ret_okj hj (by cbv) ?_ ?_⟩) | (refine aw_ret ?_) | (with_reducible first | refine th_n ?_ | refine th_r ?_ | refine th_x ?_ | refine blk_n ?_ | refine blk_r ?_ | refine blk_x ?_ | refine blk_y rfl ?_) | (refine ⟨.inr rfl, ret_okj hj (by cbv) ?_ ?_⟩) | (refine ⟨.inl rfl, ret_okj hj (by cbv) ?_ ?_⟩) | (with_reducible apply_assumption -symm -exfalso only [*]))
 all_goals ((try subst y_rowW); (try subst y_wordS); (try subst y_gOk); (try subst y_reqA); (try subst y_reqB); (try subst y_reqC); (try subst y_reqD); (try subst y_lineB); (try subst y_lineS))
 all_goals (try (have hb1 := (hb (by assumption)).1))
 all_goals (try (have hb2 := (hb (by assumption)).2))
 all_goals (try (repeat' first | with_reducible exact obl0 | with_reducible refine obl1 ?_ ?_))
 all_goals (try first | with_reducible exact True.intro | ((first | refine ob_pc hj ?_ | refine ob_pcn hj ?_); (try rw [hj]); first | exact c_awake | exact c_Parse _ (by omega) | exact c_rParse _ (by omega) | exact c_Line _ _ _ _) | ((first | refine ob_le hj ?_ | refine ob_lei hj ?_ | refine ob_inb hj ?_ | refine ob_pos hj ?_ | refine ob_ne0 hj ?_ | refine ob_eqb hj ?_); (first | rfl | first | omega | (simp only [hj, std]; split <;> omega) | (simp (disch := omega) only [hj, std, cmpI, cmpB, satB, add64, sub64, ite0, pl0, pl2, pl3, sb0, if_true, if_false, eq_self] <;> omega) | (simp (disch := omega) [hj, std, cmpI, cmpB, satB, add64, sub64, ite0, pl0, pl2, pl3, sb0, if_true, if_false, eq_self] <;> omega))) | (exact rfl) | ((rw [hj]; first | exact mseqA | exact mseqL)) | ((exfalso; simp_all <;> fail "no")))
end Go.Proofs.YtipmpjphjhipjaaDoor.A
/- Requests: what the row lists of the program's variables: strconv's table, and its two errors. -/
set_option linter.unusedSimpArgs false
set_option linter.unusedVariables false
set_option maxRecDepth 100000
set_option maxHeartbeats 4000000
namespace Go.Proofs.YtipmpjphjhipjaaDoor
open Go Go.RowKit
theorem heap_of_var {P : Program} {W : World} {n : String} {g : Nat} {cs : Array Value} (hg : P.globalNamed n = some g) (h : W.var? P n = some cs) : ∃ e z, W.heap[g]? = some (.cells cs e z) ∧ g < W.heap.size := by
 unfold World.var? at h
 rw [hg] at h
 change (match W.heap[g]? with | some (.cells cs _ _) => some cs | _ => none) = _ at h
 split at h
 ·rename_i cs' e z hh
  cases h
  refine ⟨e, z, hh, ?_⟩
  rcases Nat.lt_or_ge g W.heap.size with h' | h'
  ·exact h'
  ·rw [Array.getElem?_eq_none h'] at hh; cases hh
 ·cases h
theorem star : "*" ++ "errors.errorString" = "*errors.errorString" := by decide
theorem row_err (u : TypeId) (h : Tryd.prog.typeName? 3 u = some "*errors.errorString") : u = 89 :=
 typeName_ptr_named (nm := "errors.errorString") (by rw [star]; kernel_rfl) (by kernel_rfl) (by decide) u (by rw [star]; exact h)
theorem err_met {n : String} {g : Nat} {text : List UInt8} {r : List (String × DataW Unit)} {W : World} (hg : Tryd.prog.globalNamed n = some g) (ht : (Tryd.prog.globals[g]?).map (·.type) = some 47) (h : laidMet Tryd.prog ((n, .iface "*errors.errorString" (.ptr (.agg [.lit (.string text)]))) :: r) W) :
  g < W.heap.size ∧ ∃ v e z, W.heap[g]? = some (.cells #[v] e z) ∧ A.errV v := by
 obtain ⟨a, s, hv, _⟩ := laid_sentinel h hg ht Tryd.underlying47 row_err Tryd.underlying89 Tryd.underlying91 rfl rfl Tryd.underlying9 (by kernel_rfl) (by kernel_rfl)
 obtain ⟨e, z, h1, h2⟩ := heap_of_var hg hv
 exact ⟨h2, _, e, z, h1, .inr ⟨_, _, rfl⟩⟩
theorem gnd_of {W : World} (h : laidMetH Tryd.prog Rows.askLinesRow.laid W) : A.Gnd W (fun b => b < W.heap.size) := by
 rw [Go.MakeChecks.laidMetH_plain _ _ _ (by kernel_rfl)] at h
 have h2 := h.tail.tail
 have h3 := h2.tail
 have h4 := h3.tail
 have ht := Lib.tabIs_of_head (g := 3) (t := 80) (e := 66) (n := 20) (by kernel_rfl) (by kernel_rfl) (by kernel_rfl) (by kernel_rfl) (by kernel_rfl) (by kernel_rfl) (show laidMet Tryd.prog (("internal/strconv.uint64pow10", Lib.tabData .u64 Lib.pow10Tab) :: _) W from h2)
 obtain ⟨e, z, q1, q2⟩ := heap_of_var (g := 3) (by kernel_rfl) ht
 have hr := err_met (n := "strconv.ErrRange") (g := 2) (by kernel_rfl) (by kernel_rfl) h3
 have hs := err_met (n := "strconv.ErrSyntax") (g := 1) (by kernel_rfl) (by kernel_rfl) h4
 refine ⟨⟨q2, e, z, ?_⟩, fun g hg => ?_⟩
 ·rw [q1]; rfl
 ·have : g = 1 ∨ g = 2 := by simpa [A.gndV] using hg
  rcases this with rfl | rfl
  ·exact hs
  ·exact hr
end Go.Proofs.YtipmpjphjhipjaaDoor
/- AskParses: the walk, as the row's step asks for it. -/
set_option linter.unusedSimpArgs false
set_option linter.unusedVariables false
set_option maxRecDepth 100000
set_option maxHeartbeats 4000000
namespace Go.Proofs.YtipmpjphjhipjaaDoor
open Go Go.RowKit
theorem askParses_walk (w : World) (s : ByteArray) (_ : s.size ≤ 140737488351232) (htab : A.Gnd w (fun b => b < w.heap.size)) : Calls Tryd.prog 4 #[.string s] w fun e w' => e = .returned (.bool true) ∧ Below w.heap.size w w' :=
  A.walk_of_pc (vs := [.string s]) (A.pc_AskParses s) (by simp [A.Arg.asRoot]) (fun b => b < w.heap.size) (fun _ h => h) rfl (fun i h h2 => by
    have h3 : i < 1 := h
    obtain rfl : i = 0 := by omega
    exact ⟨_, rfl, .val rfl⟩) rfl htab
end Go.Proofs.YtipmpjphjhipjaaDoor
