/- What the laws of this seat need, part 4. -/
import Derived.Test.YtcpcghnpoekhpaaMz3
import Derived.Test.YtcpcghnpoekhpaaProg
import Derived.RangeFuncBound
import Derived.RangeFuncCalls
import Derived.Shelf.Abstract
import Derived.Shelf.RegionOpen
import Derived.WalkKit
import Derived.OwnWalkIn
import Derived.TacticsInMore
import Derived.LoopNIn
import Derived.LoopIn
import Derived.Lib.Bytealg
import Derived.Lib.Small
import Derived.Sort.Statements
import Derived.Shelf.SlGeneric
import Derived.Shelf.Small.Strs
import Derived.Shelf.Small.Wraps
import Derived.Shelf.SlSortCmp.NoneTotal
import Derived.Ground.SlsfProg
import Derived.Lib.OwnBridge
/- The table of types. Written by wip/tools/tt.py. -/
namespace Go.Proofs.Ytcpcghnpoekhpaa.A
open Go
def ti1 : TI := { desc := (Go.TypeDesc.func #[] #[] false), size := 1, bytes := 8, zero := .nilFunc, cells := [.raw] }
def ti2 : TI := { desc := (Go.TypeDesc.int Go.IntKind.i64), size := 1, bytes := 8, zero := .int .i64 0, cells := [.int .i64] }
def ti3 : TI := { desc := (Go.TypeDesc.int Go.IntKind.i64), size := 1, bytes := 8, zero := .int .i64 0, cells := [.int .i64] }
def ti4 : TI := { desc := Go.TypeDesc.bool, size := 1, bytes := 1, zero := .bool false, cells := [.bool] }
def ti5 : TI := { desc := (Go.TypeDesc.int Go.IntKind.u8), size := 1, bytes := 1, zero := .int .u8 0, cells := [.int .u8] }
def ti6 : TI := { desc := (Go.TypeDesc.int Go.IntKind.u8), size := 1, bytes := 1, zero := .int .u8 0, cells := [.int .u8] }
def ti7 : TI := { desc := (Go.TypeDesc.struct #[{ name := "x", type := 2, offset := 0, embedded := false, tag := "", pkgPath := "runtime", byteOffset := 0 }, { name := "y", type := 3, offset := 1, embedded := false, tag := "", pkgPath := "runtime", byteOffset := 8 }, { name := "signed", type := 4, offset := 2, embedded := false, tag := "", pkgPath := "runtime", byteOffset := 16 }, { name := "code", type := 6, offset := 3, embedded := false, tag := "", pkgPath := "runtime", byteOffset := 17 }]), size := 4, bytes := 24, zero := .agg #[.int .i64 0, .int .i64 0, .bool false, .int .u8 0], cells := [.int .i64, .int .i64, .bool, .int .u8] }
def ti8 : TI := { desc := (Go.TypeDesc.struct #[{ name := "x", type := 2, offset := 0, embedded := false, tag := "", pkgPath := "runtime", byteOffset := 0 }, { name := "y", type := 3, offset := 1, embedded := false, tag := "", pkgPath := "runtime", byteOffset := 8 }, { name := "signed", type := 4, offset := 2, embedded := false, tag := "", pkgPath := "runtime", byteOffset := 16 }, { name := "code", type := 6, offset := 3, embedded := false, tag := "", pkgPath := "runtime", byteOffset := 17 }]), size := 4, bytes := 24, zero := .agg #[.int .i64 0, .int .i64 0, .bool false, .int .u8 0], cells := [.int .i64, .int .i64, .bool, .int .u8] }
def ti9 : TI := { desc := Go.TypeDesc.string, size := 1, bytes := 16, zero := .string ByteArray.empty, cells := [.str] }
def ti10 : TI := { desc := Go.TypeDesc.string, size := 1, bytes := 16, zero := .string ByteArray.empty, cells := [.str] }
def ti11 : TI := { desc := Go.TypeDesc.string, size := 1, bytes := 16, zero := .string ByteArray.empty, cells := [.str] }
def ti12 : TI := { desc := (Go.TypeDesc.int Go.IntKind.u64), size := 1, bytes := 8, zero := .int .u64 0, cells := [.int .u64] }
def ti13 : TI := { desc := (Go.TypeDesc.struct #[{ name := "msg", type := 9, offset := 0, embedded := false, tag := "", pkgPath := "runtime", byteOffset := 0 }, { name := "addr", type := 12, offset := 1, embedded := false, tag := "", pkgPath := "runtime", byteOffset := 16 }]), size := 2, bytes := 24, zero := .agg #[.string ByteArray.empty, .int .u64 0], cells := [.str, .int .u64] }
def ti14 : TI := { desc := (Go.TypeDesc.struct #[{ name := "msg", type := 9, offset := 0, embedded := false, tag := "", pkgPath := "runtime", byteOffset := 0 }, { name := "addr", type := 12, offset := 1, embedded := false, tag := "", pkgPath := "runtime", byteOffset := 16 }]), size := 2, bytes := 24, zero := .agg #[.string ByteArray.empty, .int .u64 0], cells := [.str, .int .u64] }
def ti15 : TI := { desc := (Go.TypeDesc.pointer 92), size := 1, bytes := 8, zero := .pointer none, cells := [.raw] }
def ti16 : TI := { desc := (Go.TypeDesc.pointer 95), size := 1, bytes := 8, zero := .pointer none, cells := [.raw] }
def ti17 : TI := { desc := (Go.TypeDesc.pointer 104), size := 1, bytes := 8, zero := .pointer none, cells := [.raw] }
def ti18 : TI := { desc := (Go.TypeDesc.struct #[{ name := "typ", type := 17, offset := 0, embedded := false, tag := "", pkgPath := "internal/runtime/maps", byteOffset := 0 }]), size := 1, bytes := 8, zero := .agg #[.pointer none], cells := [.raw] }
def ti19 : TI := { desc := (Go.TypeDesc.struct #[{ name := "typ", type := 17, offset := 0, embedded := false, tag := "", pkgPath := "internal/runtime/maps", byteOffset := 0 }]), size := 1, bytes := 8, zero := .agg #[.pointer none], cells := [.raw] }
def ti20 : TI := { desc := (Go.TypeDesc.interface #[]), size := 1, bytes := 16, zero := .nilIface, cells := [.raw] }
def ti21 : TI := { desc := (Go.TypeDesc.int Go.IntKind.i32), size := 1, bytes := 4, zero := .int .i32 0, cells := [.int .i32] }
def ti22 : TI := { desc := (Go.TypeDesc.slice 46), size := 1, bytes := 24, zero := .slice none 0 0, cells := [.sl] }
def ti23 : TI := { desc := (Go.TypeDesc.func #[22] #[4] false), size := 1, bytes := 8, zero := .nilFunc, cells := [.raw] }
def ti24 : TI := { desc := (Go.TypeDesc.func #[] #[4] false), size := 1, bytes := 8, zero := .nilFunc, cells := [.raw] }
def ti25 : TI := { desc := (Go.TypeDesc.slice 36), size := 1, bytes := 24, zero := .slice none 0 0, cells := [.sl] }
def ti26 : TI := { desc := (Go.TypeDesc.func #[22] #[25] true), size := 1, bytes := 8, zero := .nilFunc, cells := [.raw] }
def ti27 : TI := { desc := (Go.TypeDesc.slice 9), size := 1, bytes := 24, zero := .slice none 0 0, cells := [.sl] }
def ti28 : TI := { desc := (Go.TypeDesc.func #[22] #[27] false), size := 1, bytes := 8, zero := .nilFunc, cells := [.raw] }
def ti29 : TI := { desc := (Go.TypeDesc.func #[25, 3] #[4] false), size := 1, bytes := 8, zero := .nilFunc, cells := [.raw] }
def ti30 : TI := { desc := (Go.TypeDesc.func #[25] #[4] false), size := 1, bytes := 8, zero := .nilFunc, cells := [.raw] }
def ti31 : TI := { desc := (Go.TypeDesc.func #[25, 9] #[3] false), size := 1, bytes := 8, zero := .nilFunc, cells := [.raw] }
def ti32 : TI := { desc := (Go.TypeDesc.func #[22, 9] #[3] false), size := 1, bytes := 8, zero := .nilFunc, cells := [.raw] }
def ti33 : TI := { desc := (Go.TypeDesc.func #[22, 9] #[4] false), size := 1, bytes := 8, zero := .nilFunc, cells := [.raw] }
def ti34 : TI := { desc := (Go.TypeDesc.slice 39), size := 1, bytes := 24, zero := .slice none 0 0, cells := [.sl] }
def ti35 : TI := { desc := (Go.TypeDesc.struct #[{ name := "Out", type := 3, offset := 0, embedded := false, tag := "", pkgPath := "", byteOffset := 0 }, { name := "Next", type := 34, offset := 1, embedded := false, tag := "", pkgPath := "", byteOffset := 8 }]), size := 2, bytes := 32, zero := .agg #[.int .i64 0, .slice none 0 0], cells := [.int .i64, .sl] }
def ti36 : TI := { desc := (Go.TypeDesc.struct #[{ name := "Out", type := 3, offset := 0, embedded := false, tag := "", pkgPath := "", byteOffset := 0 }, { name := "Next", type := 34, offset := 1, embedded := false, tag := "", pkgPath := "", byteOffset := 8 }]), size := 2, bytes := 32, zero := .agg #[.int .i64 0, .slice none 0 0], cells := [.int .i64, .sl] }
def ti37 : TI := { desc := (Go.TypeDesc.func #[27, 9] #[3] false), size := 1, bytes := 8, zero := .nilFunc, cells := [.raw] }
def ti38 : TI := { desc := (Go.TypeDesc.struct #[{ name := "Term", type := 3, offset := 0, embedded := false, tag := "", pkgPath := "", byteOffset := 0 }, { name := "To", type := 3, offset := 1, embedded := false, tag := "", pkgPath := "", byteOffset := 8 }]), size := 2, bytes := 16, zero := .agg #[.int .i64 0, .int .i64 0], cells := [.int .i64, .int .i64] }
def ti39 : TI := { desc := (Go.TypeDesc.struct #[{ name := "Term", type := 3, offset := 0, embedded := false, tag := "", pkgPath := "", byteOffset := 0 }, { name := "To", type := 3, offset := 1, embedded := false, tag := "", pkgPath := "", byteOffset := 8 }]), size := 2, bytes := 16, zero := .agg #[.int .i64 0, .int .i64 0], cells := [.int .i64, .int .i64] }
def ti40 : TI := { desc := (Go.TypeDesc.func #[25] #[3] false), size := 1, bytes := 8, zero := .nilFunc, cells := [.raw] }
def ti42 : TI := { desc := (Go.TypeDesc.func #[25, 3, 3] #[3, 4] false), size := 1, bytes := 8, zero := .nilFunc, cells := [.raw] }
def ti43 : TI := { desc := (Go.TypeDesc.func #[25, 3, 3] #[3] false), size := 1, bytes := 8, zero := .nilFunc, cells := [.raw] }
def ti44 : TI := { desc := (Go.TypeDesc.func #[25, 3, 3, 3, 9] #[4] false), size := 1, bytes := 8, zero := .nilFunc, cells := [.raw] }
def ti45 : TI := { desc := (Go.TypeDesc.struct #[{ name := "Left", type := 3, offset := 0, embedded := false, tag := "", pkgPath := "", byteOffset := 0 }, { name := "Word", type := 9, offset := 1, embedded := false, tag := "", pkgPath := "", byteOffset := 8 }, { name := "Rule", type := 3, offset := 2, embedded := false, tag := "", pkgPath := "", byteOffset := 24 }]), size := 3, bytes := 32, zero := .agg #[.int .i64 0, .string ByteArray.empty, .int .i64 0], cells := [.int .i64, .str, .int .i64] }
def ti46 : TI := { desc := (Go.TypeDesc.struct #[{ name := "Left", type := 3, offset := 0, embedded := false, tag := "", pkgPath := "", byteOffset := 0 }, { name := "Word", type := 9, offset := 1, embedded := false, tag := "", pkgPath := "", byteOffset := 8 }, { name := "Rule", type := 3, offset := 2, embedded := false, tag := "", pkgPath := "", byteOffset := 24 }]), size := 3, bytes := 32, zero := .agg #[.int .i64 0, .string ByteArray.empty, .int .i64 0], cells := [.int .i64, .str, .int .i64] }
def ti47 : TI := { desc := (Go.TypeDesc.map 9 3), size := 1, bytes := 8, zero := .map none, cells := [.raw] }
def ti48 : TI := { desc := (Go.TypeDesc.func #[63] #[] false), size := 1, bytes := 8, zero := .nilFunc, cells := [.raw] }
def ti49 : TI := { desc := (Go.TypeDesc.func #[63] #[] false), size := 1, bytes := 8, zero := .nilFunc, cells := [.raw] }
def ti50 : TI := { desc := (Go.TypeDesc.func #[22] #[49] false), size := 1, bytes := 8, zero := .nilFunc, cells := [.raw] }
def ti51 : TI := { desc := (Go.TypeDesc.func #[27, 53] #[] false), size := 1, bytes := 8, zero := .nilFunc, cells := [.raw] }
def ti52 : TI := { desc := (Go.TypeDesc.func #[3, 3] #[3] false), size := 1, bytes := 8, zero := .nilFunc, cells := [.raw] }
def ti53 : TI := { desc := (Go.TypeDesc.func #[9, 9] #[3] false), size := 1, bytes := 8, zero := .nilFunc, cells := [.raw] }
def ti54 : TI := { desc := (Go.TypeDesc.pointer 36), size := 1, bytes := 8, zero := .pointer none, cells := [.raw] }
def ti55 : TI := { desc := (Go.TypeDesc.func #[27, 9] #[27] false), size := 1, bytes := 8, zero := .nilFunc, cells := [.raw] }
def ti56 : TI := { desc := (Go.TypeDesc.slice 5), size := 1, bytes := 24, zero := .slice none 0 0, cells := [.sl] }
def ti57 : TI := { desc := (Go.TypeDesc.func #[9, 9] #[4] false), size := 1, bytes := 8, zero := .nilFunc, cells := [.raw] }
def ti58 : TI := { desc := (Go.TypeDesc.func #[34, 3, 3] #[4] false), size := 1, bytes := 8, zero := .nilFunc, cells := [.raw] }
def ti59 : TI := { desc := (Go.TypeDesc.func #[34, 60] #[3] false), size := 1, bytes := 8, zero := .nilFunc, cells := [.raw] }
def ti60 : TI := { desc := (Go.TypeDesc.func #[39] #[4] false), size := 1, bytes := 8, zero := .nilFunc, cells := [.raw] }
def ti61 : TI := { desc := (Go.TypeDesc.func #[25, 3] #[3] false), size := 1, bytes := 8, zero := .nilFunc, cells := [.raw] }
def ti62 : TI := { desc := (Go.TypeDesc.map 3 3), size := 1, bytes := 8, zero := .map none, cells := [.raw] }
def ti63 : TI := { desc := (Go.TypeDesc.func #[46, 9] #[4] false), size := 1, bytes := 8, zero := .nilFunc, cells := [.raw] }
def ti64 : TI := { desc := (Go.TypeDesc.func #[9, 3] #[9] false), size := 1, bytes := 8, zero := .nilFunc, cells := [.raw] }
def ti65 : TI := { desc := (Go.TypeDesc.func #[27, 3, 3, 3, 53] #[] false), size := 1, bytes := 8, zero := .nilFunc, cells := [.raw] }
def ti66 : TI := { desc := (Go.TypeDesc.func #[67] #[3] false), size := 1, bytes := 8, zero := .nilFunc, cells := [.raw] }
def ti67 : TI := { desc := (Go.TypeDesc.int Go.IntKind.u64), size := 1, bytes := 8, zero := .int .u64 0, cells := [.int .u64] }
def ti68 : TI := { desc := (Go.TypeDesc.func #[3] #[4] false), size := 1, bytes := 8, zero := .nilFunc, cells := [.raw] }
def ti69 : TI := { desc := (Go.TypeDesc.func #[27, 9] #[4] false), size := 1, bytes := 8, zero := .nilFunc, cells := [.raw] }
def ti70 : TI := { desc := (Go.TypeDesc.func #[27, 3, 3, 53] #[] false), size := 1, bytes := 8, zero := .nilFunc, cells := [.raw] }
def ti71 : TI := { desc := (Go.TypeDesc.int Go.IntKind.i64), size := 1, bytes := 8, zero := .int .i64 0, cells := [.int .i64] }
def ti73 : TI := { desc := (Go.TypeDesc.func #[27, 3, 3, 53] #[3, 71] false), size := 1, bytes := 8, zero := .nilFunc, cells := [.raw] }
def ti74 : TI := { desc := (Go.TypeDesc.func #[27, 3, 3, 53] #[4] false), size := 1, bytes := 8, zero := .nilFunc, cells := [.raw] }
def ti75 : TI := { desc := (Go.TypeDesc.func #[27, 3, 3, 3, 53] #[3] false), size := 1, bytes := 8, zero := .nilFunc, cells := [.raw] }
def ti76 : TI := { desc := (Go.TypeDesc.func #[27, 3, 3, 3, 53] #[3, 4] false), size := 1, bytes := 8, zero := .nilFunc, cells := [.raw] }
def ti77 : TI := { desc := (Go.TypeDesc.func #[78] #[3] false), size := 1, bytes := 8, zero := .nilFunc, cells := [.raw] }
def ti78 : TI := { desc := (Go.TypeDesc.int Go.IntKind.u32), size := 1, bytes := 4, zero := .int .u32 0, cells := [.int .u32] }
def ti79 : TI := { desc := (Go.TypeDesc.func #[80] #[3] false), size := 1, bytes := 8, zero := .nilFunc, cells := [.raw] }
def ti80 : TI := { desc := (Go.TypeDesc.int Go.IntKind.u64), size := 1, bytes := 8, zero := .int .u64 0, cells := [.int .u64] }
def ti81 : TI := { desc := (Go.TypeDesc.int Go.IntKind.u64), size := 1, bytes := 8, zero := .int .u64 0, cells := [.int .u64] }
def ti82 : TI := { desc := (Go.TypeDesc.func #[3] #[67] false), size := 1, bytes := 8, zero := .nilFunc, cells := [.raw] }
def ti83 : TI := { desc := (Go.TypeDesc.func #[] #[80] false), size := 1, bytes := 8, zero := .nilFunc, cells := [.raw] }
def ti84 : TI := { desc := (Go.TypeDesc.func #[27, 3, 85, 53] #[3] false), size := 1, bytes := 8, zero := .nilFunc, cells := [.raw] }
def ti85 : TI := { desc := (Go.TypeDesc.pointer 3), size := 1, bytes := 8, zero := .pointer none, cells := [.raw] }
def ti86 : TI := { desc := (Go.TypeDesc.func #[27, 3, 3, 3, 85, 53] #[3] false), size := 1, bytes := 8, zero := .nilFunc, cells := [.raw] }
def ti87 : TI := { desc := (Go.TypeDesc.pointer 81), size := 1, bytes := 8, zero := .pointer none, cells := [.raw] }
def ti89 : TI := { desc := (Go.TypeDesc.func #[27, 3, 3, 85, 53] #[3, 3] false), size := 1, bytes := 8, zero := .nilFunc, cells := [.raw] }
def ti90 : TI := { desc := (Go.TypeDesc.func #[] #[9] false), size := 1, bytes := 8, zero := .nilFunc, cells := [.raw] }
def ti91 : TI := { desc := (Go.TypeDesc.struct #[{ name := "_interface", type := 17, offset := 0, embedded := false, tag := "", pkgPath := "runtime", byteOffset := 0 }, { name := "concrete", type := 17, offset := 1, embedded := false, tag := "", pkgPath := "runtime", byteOffset := 8 }, { name := "asserted", type := 17, offset := 2, embedded := false, tag := "", pkgPath := "runtime", byteOffset := 16 }, { name := "missingMethod", type := 9, offset := 3, embedded := false, tag := "", pkgPath := "runtime", byteOffset := 24 }]), size := 4, bytes := 40, zero := .agg #[.pointer none, .pointer none, .pointer none, .string ByteArray.empty], cells := [.raw, .raw, .raw, .str] }
def ti92 : TI := { desc := (Go.TypeDesc.struct #[{ name := "_interface", type := 17, offset := 0, embedded := false, tag := "", pkgPath := "runtime", byteOffset := 0 }, { name := "concrete", type := 17, offset := 1, embedded := false, tag := "", pkgPath := "runtime", byteOffset := 8 }, { name := "asserted", type := 17, offset := 2, embedded := false, tag := "", pkgPath := "runtime", byteOffset := 16 }, { name := "missingMethod", type := 9, offset := 3, embedded := false, tag := "", pkgPath := "runtime", byteOffset := 24 }]), size := 4, bytes := 40, zero := .agg #[.pointer none, .pointer none, .pointer none, .string ByteArray.empty], cells := [.raw, .raw, .raw, .str] }
def ti93 : TI := { desc := (Go.TypeDesc.array 0 16), size := 0, bytes := 0, zero := .agg #[], cells := [] }
def ti94 : TI := { desc := (Go.TypeDesc.struct #[{ name := "_", type := 93, offset := 0, embedded := false, tag := "", pkgPath := "runtime", byteOffset := 0 }]), size := 0, bytes := 0, zero := .agg #[], cells := [] }
def ti95 : TI := { desc := (Go.TypeDesc.struct #[{ name := "_", type := 93, offset := 0, embedded := false, tag := "", pkgPath := "runtime", byteOffset := 0 }]), size := 0, bytes := 0, zero := .agg #[], cells := [] }
def ti96 : TI := { desc := (Go.TypeDesc.func #[] #[3] false), size := 1, bytes := 8, zero := .nilFunc, cells := [.raw] }
def ti97 : TI := { desc := (Go.TypeDesc.int Go.IntKind.u8), size := 1, bytes := 1, zero := .int .u8 0, cells := [.int .u8] }
def ti98 : TI := { desc := (Go.TypeDesc.int Go.IntKind.u8), size := 1, bytes := 1, zero := .int .u8 0, cells := [.int .u8] }
def ti99 : TI := { desc := (Go.TypeDesc.func #[105, 105] #[4] false), size := 1, bytes := 8, zero := .nilFunc, cells := [.raw] }
def ti100 : TI := { desc := (Go.TypeDesc.pointer 5), size := 1, bytes := 8, zero := .pointer none, cells := [.raw] }
def ti101 : TI := { desc := (Go.TypeDesc.int Go.IntKind.i32), size := 1, bytes := 4, zero := .int .i32 0, cells := [.int .i32] }
def ti102 : TI := { desc := (Go.TypeDesc.int Go.IntKind.i32), size := 1, bytes := 4, zero := .int .i32 0, cells := [.int .i32] }
def ti103 : TI := { desc := (Go.TypeDesc.struct #[{ name := "Size_", type := 12, offset := 0, embedded := false, tag := "", pkgPath := "", byteOffset := 0 }, { name := "PtrBytes", type := 12, offset := 1, embedded := false, tag := "", pkgPath := "", byteOffset := 8 }, { name := "Hash", type := 78, offset := 2, embedded := false, tag := "", pkgPath := "", byteOffset := 16 }, { name := "TFlag", type := 97, offset := 3, embedded := false, tag := "", pkgPath := "", byteOffset := 20 }, { name := "Align_", type := 5, offset := 4, embedded := false, tag := "", pkgPath := "", byteOffset := 21 }, { name := "FieldAlign_", type := 5, offset := 5, embedded := false, tag := "", pkgPath := "", byteOffset := 22 }, { name := "Kind_", type := 98, offset := 6, embedded := false, tag := "", pkgPath := "", byteOffset := 23 }, { name := "Equal", type := 99, offset := 7, embedded := false, tag := "", pkgPath := "", byteOffset := 24 }, { name := "GCData", type := 100, offset := 8, embedded := false, tag := "", pkgPath := "", byteOffset := 32 }, { name := "Str", type := 101, offset := 9, embedded := false, tag := "", pkgPath := "", byteOffset := 40 }, { name := "PtrToThis", type := 102, offset := 10, embedded := false, tag := "", pkgPath := "", byteOffset := 44 }]), size := 11, bytes := 48, zero := .agg #[.int .u64 0, .int .u64 0, .int .u32 0, .int .u8 0, .int .u8 0, .int .u8 0, .int .u8 0, .nilFunc, .pointer none, .int .i32 0, .int .i32 0], cells := [.int .u64, .int .u64, .int .u32, .int .u8, .int .u8, .int .u8, .int .u8, .raw, .raw, .int .i32, .int .i32] }
def ti104 : TI := { desc := (Go.TypeDesc.struct #[{ name := "Size_", type := 12, offset := 0, embedded := false, tag := "", pkgPath := "", byteOffset := 0 }, { name := "PtrBytes", type := 12, offset := 1, embedded := false, tag := "", pkgPath := "", byteOffset := 8 }, { name := "Hash", type := 78, offset := 2, embedded := false, tag := "", pkgPath := "", byteOffset := 16 }, { name := "TFlag", type := 97, offset := 3, embedded := false, tag := "", pkgPath := "", byteOffset := 20 }, { name := "Align_", type := 5, offset := 4, embedded := false, tag := "", pkgPath := "", byteOffset := 21 }, { name := "FieldAlign_", type := 5, offset := 5, embedded := false, tag := "", pkgPath := "", byteOffset := 22 }, { name := "Kind_", type := 98, offset := 6, embedded := false, tag := "", pkgPath := "", byteOffset := 23 }, { name := "Equal", type := 99, offset := 7, embedded := false, tag := "", pkgPath := "", byteOffset := 24 }, { name := "GCData", type := 100, offset := 8, embedded := false, tag := "", pkgPath := "", byteOffset := 32 }, { name := "Str", type := 101, offset := 9, embedded := false, tag := "", pkgPath := "", byteOffset := 40 }, { name := "PtrToThis", type := 102, offset := 10, embedded := false, tag := "", pkgPath := "", byteOffset := 44 }]), size := 11, bytes := 48, zero := .agg #[.int .u64 0, .int .u64 0, .int .u32 0, .int .u8 0, .int .u8 0, .int .u8 0, .int .u8 0, .nilFunc, .pointer none, .int .i32 0, .int .i32 0], cells := [.int .u64, .int .u64, .int .u32, .int .u8, .int .u8, .int .u8, .int .u8, .raw, .raw, .int .i32, .int .i32] }
def ti105 : TI := { desc := Go.TypeDesc.unsafePointer, size := 1, bytes := 8, zero := .pointer none, cells := [.raw] }
def T_0 : TT
 | 1 => some ti1
 | 2 => some ti2
 | 3 => some ti3
 | 4 => some ti4
 | 5 => some ti5
 | 6 => some ti6
 | 7 => some ti7
 | 8 => some ti8
 | 9 => some ti9
 | 10 => some ti10
 | 11 => some ti11
 | 12 => some ti12
 | 13 => some ti13
 | 14 => some ti14
 | 15 => some ti15
 | 16 => some ti16
 | 17 => some ti17
 | 18 => some ti18
 | 19 => some ti19
 | 20 => some ti20
 | 21 => some ti21
 | 22 => some ti22
 | 23 => some ti23
 | 24 => some ti24
 | _ => none
def T_1 : TT
 | 25 => some ti25
 | 26 => some ti26
 | 27 => some ti27
 | 28 => some ti28
 | 29 => some ti29
 | 30 => some ti30
 | 31 => some ti31
 | 32 => some ti32
 | 33 => some ti33
 | 34 => some ti34
 | 35 => some ti35
 | 36 => some ti36
 | 37 => some ti37
 | 38 => some ti38
 | 39 => some ti39
 | 40 => some ti40
 | 42 => some ti42
 | 43 => some ti43
 | 44 => some ti44
 | 45 => some ti45
 | 46 => some ti46
 | 47 => some ti47
 | 48 => some ti48
 | 49 => some ti49
 | _ => none
def T_2 : TT
 | 50 => some ti50
 | 51 => some ti51
 | 52 => some ti52
 | 53 => some ti53
 | 54 => some ti54
 | 55 => some ti55
 | 56 => some ti56
 | 57 => some ti57
 | 58 => some ti58
 | 59 => some ti59
 | 60 => some ti60
 | 61 => some ti61
 | 62 => some ti62
 | 63 => some ti63
 | 64 => some ti64
 | 65 => some ti65
 | 66 => some ti66
 | 67 => some ti67
 | 68 => some ti68
 | 69 => some ti69
 | 70 => some ti70
 | 71 => some ti71
 | 73 => some ti73
 | 74 => some ti74
 | _ => none
def T_3 : TT
 | 75 => some ti75
 | 76 => some ti76
 | 77 => some ti77
 | 78 => some ti78
 | 79 => some ti79
 | 80 => some ti80
 | 81 => some ti81
 | 82 => some ti82
 | 83 => some ti83
 | 84 => some ti84
 | 85 => some ti85
 | 86 => some ti86
 | 87 => some ti87
 | 89 => some ti89
 | 90 => some ti90
 | 91 => some ti91
 | 92 => some ti92
 | 93 => some ti93
 | 94 => some ti94
 | 95 => some ti95
 | 96 => some ti96
 | 97 => some ti97
 | 98 => some ti98
 | 99 => some ti99
 | _ => none
def T_4 : TT
 | 100 => some ti100
 | 101 => some ti101
 | 102 => some ti102
 | 103 => some ti103
 | 104 => some ti104
 | 105 => some ti105
 | _ => none
def T : TT := fun t => if t ≤ 24 then T_0 t else if t ≤ 49 then T_1 t else if t ≤ 74 then T_2 t else if t ≤ 99 then T_3 t else T_4 t
theorem tok_0 : TOk Try.prog T_0 := by
 intro t ti h
 unfold T_0 at h
 split at h
 ·cases h; exact tok1 (by kernel_rfl) (by kernel_rfl) (by kernel_rfl)
 ·cases h; exact tok1 (by kernel_rfl) (by kernel_rfl) (by kernel_rfl)
 ·cases h; exact tok1 (by kernel_rfl) (by kernel_rfl) (by kernel_rfl)
 ·cases h; exact tok1 (by kernel_rfl) (by kernel_rfl) (by kernel_rfl)
 ·cases h; exact tok1 (by kernel_rfl) (by kernel_rfl) (by kernel_rfl)
 ·cases h; exact tok1 (by kernel_rfl) (by kernel_rfl) (by kernel_rfl)
 ·cases h; exact tok1 (by kernel_rfl) (by kernel_rfl) (by kernel_rfl)
 ·cases h; exact tok1 (by kernel_rfl) (by kernel_rfl) (by kernel_rfl)
 ·cases h; exact tok1 (by kernel_rfl) (by kernel_rfl) (by kernel_rfl)
 ·cases h; exact tok1 (by kernel_rfl) (by kernel_rfl) (by kernel_rfl)
 ·cases h; exact tok1 (by kernel_rfl) (by kernel_rfl) (by kernel_rfl)
 ·cases h; exact tok1 (by kernel_rfl) (by kernel_rfl) (by kernel_rfl)
 ·cases h; exact tok1 (by kernel_rfl) (by kernel_rfl) (by kernel_rfl)
 ·cases h; exact tok1 (by kernel_rfl) (by kernel_rfl) (by kernel_rfl)
 ·cases h; exact tok1 (by kernel_rfl) (by kernel_rfl) (by kernel_rfl)
 ·cases h; exact tok1 (by kernel_rfl) (by kernel_rfl) (by kernel_rfl)
 ·cases h; exact tok1 (by kernel_rfl) (by kernel_rfl) (by kernel_rfl)
 ·cases h; exact tok1 (by kernel_rfl) (by kernel_rfl) (by kernel_rfl)
 ·cases h; exact tok1 (by kernel_rfl) (by kernel_rfl) (by kernel_rfl)
 ·cases h; exact tok1 (by kernel_rfl) (by kernel_rfl) (by kernel_rfl)
 ·cases h; exact tok1 (by kernel_rfl) (by kernel_rfl) (by kernel_rfl)
 ·cases h; exact tok1 (by kernel_rfl) (by kernel_rfl) (by kernel_rfl)
 ·cases h; exact tok1 (by kernel_rfl) (by kernel_rfl) (by kernel_rfl)
 ·cases h; exact tok1 (by kernel_rfl) (by kernel_rfl) (by kernel_rfl)
 ·cases h
theorem tok_1 : TOk Try.prog T_1 := by
 intro t ti h
 unfold T_1 at h
 split at h
 ·cases h; exact tok1 (by kernel_rfl) (by kernel_rfl) (by kernel_rfl)
 ·cases h; exact tok1 (by kernel_rfl) (by kernel_rfl) (by kernel_rfl)
 ·cases h; exact tok1 (by kernel_rfl) (by kernel_rfl) (by kernel_rfl)
 ·cases h; exact tok1 (by kernel_rfl) (by kernel_rfl) (by kernel_rfl)
 ·cases h; exact tok1 (by kernel_rfl) (by kernel_rfl) (by kernel_rfl)
 ·cases h; exact tok1 (by kernel_rfl) (by kernel_rfl) (by kernel_rfl)
 ·cases h; exact tok1 (by kernel_rfl) (by kernel_rfl) (by kernel_rfl)
 ·cases h; exact tok1 (by kernel_rfl) (by kernel_rfl) (by kernel_rfl)
 ·cases h; exact tok1 (by kernel_rfl) (by kernel_rfl) (by kernel_rfl)
 ·cases h; exact tok1 (by kernel_rfl) (by kernel_rfl) (by kernel_rfl)
 ·cases h; exact tok1 (by kernel_rfl) (by kernel_rfl) (by kernel_rfl)
 ·cases h; exact tok1 (by kernel_rfl) (by kernel_rfl) (by kernel_rfl)
 ·cases h; exact tok1 (by kernel_rfl) (by kernel_rfl) (by kernel_rfl)
 ·cases h; exact tok1 (by kernel_rfl) (by kernel_rfl) (by kernel_rfl)
 ·cases h; exact tok1 (by kernel_rfl) (by kernel_rfl) (by kernel_rfl)
 ·cases h; exact tok1 (by kernel_rfl) (by kernel_rfl) (by kernel_rfl)
 ·cases h; exact tok1 (by kernel_rfl) (by kernel_rfl) (by kernel_rfl)
 ·cases h; exact tok1 (by kernel_rfl) (by kernel_rfl) (by kernel_rfl)
 ·cases h; exact tok1 (by kernel_rfl) (by kernel_rfl) (by kernel_rfl)
 ·cases h; exact tok1 (by kernel_rfl) (by kernel_rfl) (by kernel_rfl)
 ·cases h; exact tok1 (by kernel_rfl) (by kernel_rfl) (by kernel_rfl)
 ·cases h; exact tok1 (by kernel_rfl) (by kernel_rfl) (by kernel_rfl)
 ·cases h; exact tok1 (by kernel_rfl) (by kernel_rfl) (by kernel_rfl)
 ·cases h; exact tok1 (by kernel_rfl) (by kernel_rfl) (by kernel_rfl)
 ·cases h
theorem tok_2 : TOk Try.prog T_2 := by
 intro t ti h
 unfold T_2 at h
 split at h
 ·cases h; exact tok1 (by kernel_rfl) (by kernel_rfl) (by kernel_rfl)
 ·cases h; exact tok1 (by kernel_rfl) (by kernel_rfl) (by kernel_rfl)
 ·cases h; exact tok1 (by kernel_rfl) (by kernel_rfl) (by kernel_rfl)
 ·cases h; exact tok1 (by kernel_rfl) (by kernel_rfl) (by kernel_rfl)
 ·cases h; exact tok1 (by kernel_rfl) (by kernel_rfl) (by kernel_rfl)
 ·cases h; exact tok1 (by kernel_rfl) (by kernel_rfl) (by kernel_rfl)
 ·cases h; exact tok1 (by kernel_rfl) (by kernel_rfl) (by kernel_rfl)
 ·cases h; exact tok1 (by kernel_rfl) (by kernel_rfl) (by kernel_rfl)
 ·cases h; exact tok1 (by kernel_rfl) (by kernel_rfl) (by kernel_rfl)
 ·cases h; exact tok1 (by kernel_rfl) (by kernel_rfl) (by kernel_rfl)
 ·cases h; exact tok1 (by kernel_rfl) (by kernel_rfl) (by kernel_rfl)
 ·cases h; exact tok1 (by kernel_rfl) (by kernel_rfl) (by kernel_rfl)
 ·cases h; exact tok1 (by kernel_rfl) (by kernel_rfl) (by kernel_rfl)
 ·cases h; exact tok1 (by kernel_rfl) (by kernel_rfl) (by kernel_rfl)
 ·cases h; exact tok1 (by kernel_rfl) (by kernel_rfl) (by kernel_rfl)
 ·cases h; exact tok1 (by kernel_rfl) (by kernel_rfl) (by kernel_rfl)
 ·cases h; exact tok1 (by kernel_rfl) (by kernel_rfl) (by kernel_rfl)
 ·cases h; exact tok1 (by kernel_rfl) (by kernel_rfl) (by kernel_rfl)
 ·cases h; exact tok1 (by kernel_rfl) (by kernel_rfl) (by kernel_rfl)
 ·cases h; exact tok1 (by kernel_rfl) (by kernel_rfl) (by kernel_rfl)
 ·cases h; exact tok1 (by kernel_rfl) (by kernel_rfl) (by kernel_rfl)
 ·cases h; exact tok1 (by kernel_rfl) (by kernel_rfl) (by kernel_rfl)
 ·cases h; exact tok1 (by kernel_rfl) (by kernel_rfl) (by kernel_rfl)
 ·cases h; exact tok1 (by kernel_rfl) (by kernel_rfl) (by kernel_rfl)
 ·cases h
theorem tok_3 : TOk Try.prog T_3 := by
 intro t ti h
 unfold T_3 at h
 split at h
 ·cases h; exact tok1 (by kernel_rfl) (by kernel_rfl) (by kernel_rfl)
 ·cases h; exact tok1 (by kernel_rfl) (by kernel_rfl) (by kernel_rfl)
 ·cases h; exact tok1 (by kernel_rfl) (by kernel_rfl) (by kernel_rfl)
 ·cases h; exact tok1 (by kernel_rfl) (by kernel_rfl) (by kernel_rfl)
 ·cases h; exact tok1 (by kernel_rfl) (by kernel_rfl) (by kernel_rfl)
 ·cases h; exact tok1 (by kernel_rfl) (by kernel_rfl) (by kernel_rfl)
 ·cases h; exact tok1 (by kernel_rfl) (by kernel_rfl) (by kernel_rfl)
 ·cases h; exact tok1 (by kernel_rfl) (by kernel_rfl) (by kernel_rfl)
 ·cases h; exact tok1 (by kernel_rfl) (by kernel_rfl) (by kernel_rfl)
 ·cases h; exact tok1 (by kernel_rfl) (by kernel_rfl) (by kernel_rfl)
 ·cases h; exact tok1 (by kernel_rfl) (by kernel_rfl) (by kernel_rfl)
 ·cases h; exact tok1 (by kernel_rfl) (by kernel_rfl) (by kernel_rfl)
 ·cases h; exact tok1 (by kernel_rfl) (by kernel_rfl) (by kernel_rfl)
 ·cases h; exact tok1 (by kernel_rfl) (by kernel_rfl) (by kernel_rfl)
 ·cases h; exact tok1 (by kernel_rfl) (by kernel_rfl) (by kernel_rfl)
 ·cases h; exact tok1 (by kernel_rfl) (by kernel_rfl) (by kernel_rfl)
 ·cases h; exact tok1 (by kernel_rfl) (by kernel_rfl) (by kernel_rfl)
 ·cases h; exact tok1 (by kernel_rfl) (by kernel_rfl) (by kernel_rfl)
 ·cases h; exact tok1 (by kernel_rfl) (by kernel_rfl) (by kernel_rfl)
 ·cases h; exact tok1 (by kernel_rfl) (by kernel_rfl) (by kernel_rfl)
 ·cases h; exact tok1 (by kernel_rfl) (by kernel_rfl) (by kernel_rfl)
 ·cases h; exact tok1 (by kernel_rfl) (by kernel_rfl) (by kernel_rfl)
 ·cases h; exact tok1 (by kernel_rfl) (by kernel_rfl) (by kernel_rfl)
 ·cases h; exact tok1 (by kernel_rfl) (by kernel_rfl) (by kernel_rfl)
 ·cases h
theorem tok_4 : TOk Try.prog T_4 := by
 intro t ti h
 unfold T_4 at h
 split at h
 ·cases h; exact tok1 (by kernel_rfl) (by kernel_rfl) (by kernel_rfl)
 ·cases h; exact tok1 (by kernel_rfl) (by kernel_rfl) (by kernel_rfl)
 ·cases h; exact tok1 (by kernel_rfl) (by kernel_rfl) (by kernel_rfl)
 ·cases h; exact tok1 (by kernel_rfl) (by kernel_rfl) (by kernel_rfl)
 ·cases h; exact tok1 (by kernel_rfl) (by kernel_rfl) (by kernel_rfl)
 ·cases h; exact tok1 (by kernel_rfl) (by kernel_rfl) (by kernel_rfl)
 ·cases h
theorem tok : TOk Try.prog T := by
 intro t ti h
 unfold T at h
 split at h
 ·exact tok_0 t ti h
 split at h
 ·exact tok_1 t ti h
 split at h
 ·exact tok_2 t ti h
 split at h
 ·exact tok_3 t ti h
 exact tok_4 t ti h
end Go.Proofs.Ytcpcghnpoekhpaa.A
/- The ghost machine at this program: a contract with no roots; the empty book. -/
set_option linter.unusedSimpArgs false
set_option linter.unusedVariables false
set_option maxRecDepth 100000
set_option maxHeartbeats 4000000
namespace Go.Proofs.Ytcpcghnpoekhpaa.A
open Go
def pc (f : FuncId) (args : List Arg) (ret : RV) : Prop := (std Try.prog T).pc f args ret []
def book0 : Book := fun _ _ => none
end Go.Proofs.Ytcpcghnpoekhpaa.A
/- Tries: the iterator over the beginnings of rows, by hand. -/
set_option linter.unusedSimpArgs false
set_option linter.unusedVariables false
set_option maxRecDepth 100000
set_option maxHeartbeats 4000000
namespace Go.Proofs.Ytcpcghnpoekhpaa.A
open Go
abbrev Rw := Int × ByteArray × Int
def begsK (x : Rw) (k : Nat) : List (Rw × ByteArray) := (List.range k).map fun j => (x, x.2.1.extract 0 j)
def begsL (l : List Rw) : List (Rw × ByteArray) := l.flatMap fun x => begsK x (x.2.1.size + 1)
theorem begsK_succ (x : Rw) (k : Nat) : begsK x (k + 1) = begsK x k ++ [(x, x.2.1.extract 0 k)] := by unfold begsK; rw [List.range_succ, List.map_append]; rfl
theorem begsL_succ (l : List Rw) {i : Nat} (h : i < l.length) : begsL (l.take (i + 1)) = begsL (l.take i) ++ begsK l[i] (l[i].2.1.size + 1) := by
 unfold begsL
 rw [List.take_succ_eq_append_getElem h, List.flatMap_append]; simp
theorem begsK_split (x : Rw) {k n : Nat} (h : k < n) : ∃ rest, begsK x n = begsK x k ++ (x, x.2.1.extract 0 k) :: rest := by
 refine ⟨(begsK x n).drop (k + 1), ?_⟩
 have e : begsK x (k + 1) = (begsK x n).take (k + 1) := by
  unfold begsK
  rw [← List.map_take, List.take_range, Nat.min_eq_left (by omega)]
 have e2 := List.take_append_drop (k + 1) (begsK x n)
 rw [← e, begsK_succ, List.append_assoc] at e2
 exact e2.symm
theorem begsL_split (l : List Rw) {i k : Nat} (h : i < l.length) (hk : k < l[i].2.1.size + 1) : ∃ rest, begsL l = (begsL (l.take i) ++ begsK l[i] k) ++ (l[i], l[i].2.1.extract 0 k) :: rest := by
 obtain ⟨r1, e1⟩ := begsK_split l[i] hk
 refine ⟨r1 ++ begsL (l.drop (i + 1)), ?_⟩
 have e2 : begsL l = begsL (l.take (i + 1)) ++ begsL (l.drop (i + 1)) := by
  unfold begsL
  rw [← List.flatMap_append, List.take_append_drop]
 rw [e2, begsL_succ l h, e1]
 simp
abbrev encB (y : Rw × ByteArray) : Array Value := #[.agg #[.int .i64 y.1.1, .string y.1.2.1, .int .i64 y.1.2.2], .string y.2]
def RowsAt (W : World) (Bs : Nat) (a : Option Addr) (cap : Nat) (l : List Rw) : Prop :=
 W.cell? ⟨Bs, 0, none⟩ = some (.slice a l.length cap) ∧ ∀ i (h : i < l.length), ∃ b off, a = some ⟨b, off, none⟩ ∧ W.cell? ⟨b, off + i * 3, none⟩ = some (.int .i64 l[i].1) ∧ W.cell? ⟨b, off + i * 3 + 1, none⟩ = some (.string l[i].2.1) ∧ W.cell? ⟨b, off + i * 3 + 2, none⟩ = some (.int .i64 l[i].2.2)
end Go.Proofs.Ytcpcghnpoekhpaa.A
namespace Go.Proofs.Ytcpcghnpoekhpaa
open Go Go.RowKit Go.Proofs Go.Shelf
attribute [local go_sem] Oper.semAt_some
set_option maxHeartbeats 4000000 in
set_option maxRecDepth 100000 in
theorem cut_any (s : ByteArray) (k : Nat) (hk : k ≤ s.size) (hs : s.size ≤ 1000) (w : World) : Calls Try.prog 33 #[.string s, .int .i64 k] w fun e w' => e = .returned (.string (s.extract 0 k)) ∧ w' = w := by
  have h1 : min (k : Int) (s.size : Int) = k := by omega
  have h2 : max (0 : Int) (k : Int) = k := by omega
  go_enter Try.func33, Try.ntmps33
  go_wp2_with fail
  all_goals go_ret
  all_goals first | exact ⟨rfl, rfl⟩ | skip
  all_goals (
    have hk0 : k = 0 := (by omega)
    subst hk0
    refine ⟨?_, rfl⟩
    have e : s.extract 0 0 = ByteArray.empty := (by apply ByteArray.ext; rw [ByteArray.data_extract]; simp)
    rw [e]; rfl)
set_option maxHeartbeats 4000000 in
set_option maxRecDepth 100000 in
theorem begs_all (l : List A.Rw) (hl : l.length ≤ 1000) (hw : ∀ x ∈ l, x.2.1.size ≤ 1000) (Bs : Nat) (a : Option Addr) (cap : Nat) : A.SeqAll Try.prog 32 #[.pointer (some ⟨Bs, 0, none⟩)] A.encB (A.begsL l) (fun W => A.RowsAt W Bs a cap l) := by
  intro lp J W hrd hch hY h0
  refine callsIn_of_wp Try.func32 rfl trivial ?_ rfl
  simp only [Try.ntmps32, List.size_toArray, List.length_cons, List.length_nil, Nat.reduceAdd, Nat.reduceSub, Array.replicate_succ, Array.replicate_zero, List.push_toArray, List.append_toArray, List.nil_append, List.cons_append]
  have hmx : Try.prog.follows .mixedOrders = true := by kernel_rfl
  have hb := (hrd _ _ _ h0).1
  gi_wp2
  gi_loopw [8] (fun i wr => ∃ (k : Nat) (Pn : Nat → Prop), k ≤ l.length ∧ i = .int .i64 k ∧ J Pn (A.begsL (l.take k)) wr) (fun i _ => l.length - (intOf i).toNat)
  case atStart => exact ⟨0, _, Nat.zero_le _, rfl, h0⟩
  case round =>
    obtain ⟨i, Pn, hi, rfl, hJ⟩ := hrel
    by_cases hlt : i < l.length
    · obtain ⟨hb2, hrows⟩ := hrd _ _ _ hJ
      obtain ⟨b, off, ha, hc0, hc1, hc2⟩ := hrows i hlt
      have hx := hw l[i] (List.getElem_mem hlt)
      have hsp := fun k => A.begsL_split l (k := k) hlt
      have hsn := A.begsL_succ l hlt
      generalize l[i] = x at hc0 hc1 hc2 hx hsp hsn
      obtain ⟨N, hN⟩ : ∃ N, N = x.2.1.size + 1 := ⟨_, rfl⟩
      have hwr : wrap64 ((x.2.1.size : Int) + 1) = (N : Int) := by unfold wrap64; omega
      have hJ1 := hch Pn (fun b => b = wr.heap.size) _ wr (wr.alloc (.cells #[.int .i64 x.1, .string x.2.1, .int .i64 x.2.2] 46)) (Chg.alloc _ wr _) (fun b hb => .inr ⟨by omega, by simp; omega⟩) hJ
      have HSP := Lib.hid hsp
      have HSN := Lib.hid hsn
      have HN := Lib.hid hN
      have HRD := Lib.hid hrd
      have HCH := Lib.hid hch
      have HY := Lib.hid hY
      have HJ1 := Lib.hid hJ1
      have HX := Lib.hid hx
      clear hrd hY hch hrows hsp hsn hN hJ1 hJ hx
      subst ha
      gi_wp2
      rw [hwr]
      obtain ⟨W2, hW2⟩ : ∃ W2, wr.alloc (.cells #[.int .i64 x.1, .string x.2.1, .int .i64 x.2.2] 46) = W2 := ⟨_, rfl⟩
      have hb4 : W2.heap[wr.heap.size]? = some (.cells #[.int .i64 x.1, .string x.2.1, .int .i64 x.2.2] 46 (0, 0)) := by rw [← hW2]; exact heap_alloc_new wr _
      have hj1 := HJ1.out
      rw [hW2] at hj1 ⊢
      clear HJ1 hW2
      generalize wr.heap.size = B4 at hb4 hj1 ⊢
      gi_loopw [16] (fun u wr2 => ∃ k : Nat, k ≤ N ∧ u = .int .i64 k ∧ J (fun b => b = B4) (A.begsL (l.take i) ++ A.begsK x k) wr2 ∧ wr2.heap[B4]? = some (.cells #[.int .i64 x.1, .string x.2.1, .int .i64 x.2.2] 46 (0, 0))) (fun u _ => N - (intOf u).toNat)
      case atStart => exact ⟨0, Nat.zero_le _, rfl, by simpa [A.begsK] using hj1, hb4⟩
      case round =>
        obtain ⟨k, hk, rfl, hJ2, hbx⟩ := hrel
        by_cases hlt2 : k < N
        · obtain ⟨rest, hxs⟩ := HSP.out k (by have := HN.out; omega)
          have hJd := HCH.out _ (fun b => b = B4) _ wr wr.drew (Chg.drew _ wr) (fun b hb => .inl hb) hJ2
          obtain ⟨fn, tmps, assign, body, hy, hR⟩ := HY.out _ _ _ _ wr.drew hxs hJd
          dsimp only [A.encB] at hy
          have d0 : wr.cell? ⟨B4, 0, none⟩ = some (.int .i64 x.1) := by rw [cell_of_row wr B4 0 _ _ _ hbx]; rfl
          have d1 : wr.cell? ⟨B4, 1, none⟩ = some (.string x.2.1) := by rw [cell_of_row wr B4 1 _ _ _ hbx]; rfl
          have d2 : wr.cell? ⟨B4, 2, none⟩ = some (.int .i64 x.2.2) := by rw [cell_of_row wr B4 2 _ _ _ hbx]; rfl
          have hkz : k ≤ x.2.1.size := by have := HN.out; omega
          have HXS := Lib.hid hxs
          have HJ2 := Lib.hid hJ2
          have HBX := Lib.hid hbx
          clear hJd hJ2 hbx hxs
          gi_wp2
          gi_region_with_o (first | (refine ⟨trivial, rfl, ?_⟩; refine (callsIn_wide.2 (cut_any x.2.1 k hkz HX.out _)).mono ?_; rintro e w' ⟨rfl, rfl⟩) | (refine hR.mono ?_; rintro e W3 ⟨rfl, hJ3, hk3⟩) | (refine ⟨trivial, rfl, ?_⟩; refine hR.mono ?_; rintro e W3 ⟨rfl, hJ3, hk3⟩) | (refine ⟨fun _ _ => trivial, rfl, ?_⟩; refine hR.mono ?_; rintro e W3 ⟨rfl, hJ3, hk3⟩) | (refine ⟨rfl, ?_⟩; refine hR.mono ?_; rintro e W3 ⟨rfl, hJ3, hk3⟩))
          all_goals (try gi_wp2)
          all_goals (
            have hzx := HX.out
            have hwk : wrap64 ((k : Int) + 1) = ((k + 1 : Nat) : Int) := (by unfold wrap64; omega)
            rw [hwk]
            refine ⟨⟨k + 1, by omega, rfl, ?_, (hk3 B4 rfl).trans HBX.out⟩, ?_⟩
            · rw [A.begsK_succ, ← List.append_assoc]; exact hJ3
            · simp [intOf]; omega)
        · obtain rfl : k = N := by omega
          gi_wp2
          refine ⟨⟨i + 1, fun b => b = B4, by omega, by simp, ?_⟩, ?_⟩
          · rw [HSN.out, ← HN.out]; exact hJ2
          · simp [intOf]; omega
    · obtain rfl : i = l.length := by omega
      gi_wp2
      go_end0
      rw [List.take_length] at hJ
      exact ⟨⟨_, rfl⟩, _, hJ⟩
end Go.Proofs.Ytcpcghnpoekhpaa
/- Tries: the first round of Make. -/
set_option linter.unusedSimpArgs false
set_option linter.unusedVariables false
set_option maxRecDepth 100000
set_option maxHeartbeats 4000000
namespace Go.Proofs.Ytcpcghnpoekhpaa.A
open Go Go.RowKit
abbrev strT : TypeId := 9
def undefs (n : Nat) : List V := List.replicate n .undef
def slM (x : Rw × ByteArray) : List V := ((((undefs 112).set 3 (.one (.ptr 113 0))).set 4 (.one (.ptr 114 0))).set 22 (.agg [.c (vI x.1.1), .c (vS x.1.2.1), .c (vI x.1.2.2)])).set 23 (.one (.c (vS x.2)))
def rrM (m : GM) (n : Nat) (c : List C) : List Root := [.box [.map .str m], .box [.own strT n c]]
noncomputable def bodyAt (k : Nat) : Code → Option (Code × Code)
 | .seq x y => match bodyAt k x with | some c => some c | none => bodyAt k y
 | .block _ c => bodyAt k c
 | .cond _ x y => match bodyAt k x with | some c => some c | none => bodyAt k y
 | .loop c => bodyAt k c
 | .rangeFunc (.tmp t) _ a b => if t = k then some (a, b) else none
 | _ => none
noncomputable def body1 : Code := match Try.f8.body with | some c => (match bodyAt 21 c with | some p => p.2 | none => .skip) | none => .skip
noncomputable def assign1 : Code := match Try.f8.body with | some c => (match bodyAt 21 c with | some p => p.1 | none => .skip) | none => .skip
def bookM0 : Book := fun _ _ => none
theorem round1_old (l : Nat) (x : Rw × ByteArray) (m : GM) (n : Nat) (c : List C) (hok : ∃ z, mgetC m.ks m.vs (.string x.2) (vI 0) = vI z) (hh : mhasC m.ks (.string x.2) = true) : RoundTo l Try.prog T assign1 body1 (slM x) (rrM m n c) (rrM m n c) := by
 obtain ⟨⟨x1, x2, x3⟩, b⟩ := x
 obtain ⟨j, hj⟩ : ∃ j : J, j = std Try.prog T := ⟨_, rfl⟩
 unfold RoundTo
 conv => arg 4; whnf
 refine ai_tr1 hj tok bookM0 (by rfl) (fun st h => by cases h.1) (by cbv) ?_
 with_reducible refine tr_done ?_
 refine ⟨rfl, ?_⟩
 conv => arg 4; whnf
 have hh : mhasC m.1 (.string b) = true := hh
 (repeat' first | ((first | with_reducible refine tr_cut (fun h => ?_) (fun h => ?_) | refine ai_condj (by cbv) (fun h => ?_) (fun h => ?_)) <;> (try simp (disch := omega) only [hj, std, cmpI, cmpB, satB, Bool.not_eq_true, Bool.not_eq_false, decide_eq_true_eq, decide_eq_false_iff_not, beq_iff_eq, bne_iff_ne, bne_eq_false_iff_eq, beq_eq_false_iff_ne, ne_eq, reduceCtorEq, not_true_eq_false, not_false_eq_true, pl0, if_true, cmpS_eq, cmpS_neq, Bool.not_eq_eq_eq_not, Bool.not_true, Bool.not_false, Bool.not_eq_true', hh, add64, sub64] at h) <;> (try (exfalso; omega))) | (with_reducible refine tr_alt (fun h => ?_) ?_ <;> (try (exfalso; omega))) | (with_reducible first | refine tr_ob ?_ ?_ | refine tr_done ?_) | (refine ai_tr hj tok bookM0 (by rfl) (by (repeat' first | (intro st h; exact absurd h.1 (by simp)) | refine no_th ?_ | refine no_blk ?_)) (by cbv) ?_) | (refine ai_seq fun K hK => ?_) | (refine ai_tr1 hj tok bookM0 (by rfl) (by (repeat' first | (intro st h; exact absurd h.1 (by simp)) | refine no_th ?_ | refine no_blk ?_)) (by cbv) ?_) | (refine ai_skip ?_) | (refine ai_block ?_) | (refine ai_exit ?_) | (refine aw_ret ⟨.inr rfl, ret_okj hj (by cbv) ?_ ?_⟩) | (refine aw_ret ?_) | (with_reducible first | refine th_n ?_ | refine th_r ?_ | refine th_x ?_ | refine blk_n ?_ | refine blk_r ?_ | refine blk_x ?_ | refine blk_y rfl ?_) | (refine ⟨.inr rfl, ret_okj hj (by cbv) ?_ ?_⟩) | (refine ⟨.inl rfl, ret_okj hj (by cbv) ?_ ?_⟩) | (with_reducible apply_assumption -symm -exfalso only [*]))
 all_goals (try (repeat' first | with_reducible exact obl0 | with_reducible refine obl1 ?_ ?_))
 all_goals first | (refine ob_ok hj ?_; rw [hj]; exact hok) | exact ⟨rfl, _, Le.refl _ _, rfl, rfl⟩ | skip
theorem round1_new (l : Nat) (x : Rw × ByteArray) (m : GM) (n : Nat) (c : List C) (hn : n ≤ 100000) (hok : ∃ z, mgetC m.ks m.vs (.string x.2) (vI 0) = vI z) (hh : mhasC m.ks (.string x.2) = false) :
  RoundTo l Try.prog T assign1 body1 (slM x) (rrM m n c) (rrM (m.set (.string x.2) (vI 0)) (n + 1) (c ++ [vS x.2])) := by
 obtain ⟨⟨x1, x2, x3⟩, b⟩ := x
 obtain ⟨j, hj⟩ : ∃ j : J, j = std Try.prog T := ⟨_, rfl⟩
 unfold RoundTo
 conv => arg 4; whnf
 refine ai_tr1 hj tok bookM0 (by rfl) (fun st h => by cases h.1) (by cbv) ?_
 with_reducible refine tr_done ?_
 refine ⟨rfl, ?_⟩
 conv => arg 4; whnf
 have hp : (if n = 0 then 1 else j.add n 1) = n + 1 := by rw [hj]; show (if n = 0 then 1 else n + 1) = n + 1; split <;> omega
 have hh : mhasC m.1 (.string b) = false := hh
 (repeat' first | ((first | with_reducible refine tr_cut (fun h => ?_) (fun h => ?_) | refine ai_condj (by cbv) (fun h => ?_) (fun h => ?_)) <;> (try simp (disch := omega) only [hj, std, cmpI, cmpB, satB, Bool.not_eq_true, Bool.not_eq_false, decide_eq_true_eq, decide_eq_false_iff_not, beq_iff_eq, bne_iff_ne, bne_eq_false_iff_eq, beq_eq_false_iff_ne, ne_eq, reduceCtorEq, not_true_eq_false, not_false_eq_true, pl0, if_true, cmpS_eq, cmpS_neq, Bool.not_eq_eq_eq_not, Bool.not_true, Bool.not_false, Bool.not_eq_true', hh, add64, sub64] at h) <;> (try (exfalso; omega))) | (with_reducible refine tr_alt (fun h => ?_) ?_ <;> (try (exfalso; omega))) | (with_reducible first | refine tr_ob ?_ ?_ | refine tr_done ?_) | (refine ai_tr hj tok bookM0 (by rfl) (by (repeat' first | (intro st h; exact absurd h.1 (by simp)) | refine no_th ?_ | refine no_blk ?_)) (by cbv) ?_) | (refine ai_seq fun K hK => ?_) | (refine ai_tr1 hj tok bookM0 (by rfl) (by (repeat' first | (intro st h; exact absurd h.1 (by simp)) | refine no_th ?_ | refine no_blk ?_)) (by cbv) ?_) | (refine ai_skip ?_) | (refine ai_block ?_) | (refine ai_exit ?_) | (refine aw_ret ⟨.inr rfl, ret_okj hj (by cbv) ?_ ?_⟩) | (refine aw_ret ?_) | (with_reducible first | refine th_n ?_ | refine th_r ?_ | refine th_x ?_ | refine blk_n ?_ | refine blk_r ?_ | refine blk_x ?_ | refine blk_y rfl ?_) | (refine ⟨.inr rfl, ret_okj hj (by cbv) ?_ ?_⟩) | (refine ⟨.inl rfl, ret_okj hj (by cbv) ?_ ?_⟩) | (with_reducible apply_assumption -symm -exfalso only [*]))
 all_goals (try (repeat' first | with_reducible exact obl0 | with_reducible refine obl1 ?_ ?_))
 all_goals first | (refine ob_ok hj ?_; rw [hj]; exact hok) | (refine ob_le hj ?_; rw [hj]; show (if n = 0 then 1 else n + 1) * 16 ≤ _; split <;> omega) | (refine ob_le hj ?_; rw [hj]; show (if n = 0 then 1 else n + 1) ≤ _; split <;> omega) | skip
 refine ⟨rfl, _, Le.refl _ _, rfl, ?_⟩
 rw [← hp]
 subst hj
 rfl
end Go.Proofs.Ytcpcghnpoekhpaa.A
/- Tries: the rounds of Make's last loop. -/
set_option linter.unusedSimpArgs false
set_option linter.unusedVariables false
set_option maxRecDepth 100000
set_option maxHeartbeats 4000000
namespace Go.Proofs.Ytcpcghnpoekhpaa.A
open Go Go.RowKit
noncomputable def body2 : Code := match Try.f8.body with | some c => (match bodyAt 87 c with | some p => p.2 | none => .skip) | none => .skip
noncomputable def assign2 : Code := match Try.f8.body with | some c => (match bodyAt 87 c with | some p => p.1 | none => .skip) | none => .skip
abbrev egT : TypeId := 39
abbrev shO : Sh := .sl 36 [.st, .sl 39 [.st, .st]]
def slN (x : Rw × ByteArray) : List V := ((((undefs 112).set 3 (.one (.ptr 113 0))).set 9 (.one (.ptr 114 0))).set 88 (.agg [.c (vI x.1.1), .c (vS x.1.2.1), .c (vI x.1.2.2)])).set 89 (.one (.c (vS x.2)))
def rrN (m : GM) (n : Nat) (c : List C) : List Root := [.box [.map .str m], .box [.tree shO (.sl n c) none]]
set_option cbv.maxSteps 3000000 in
theorem round2_set (l : Nat) (x : Rw × ByteArray) (m : GM) (n : Nat) (c : List C) (k : Nat) (o : Int) (hk : k < n) (hc : c.length = n * 2) (hget : mgetC m.ks m.vs (.string x.2) (vI 0) = vI k) (ho : cellAt c (k * 2) = vI o) (h1 : x.2 = x.1.2.1) (h2 : o < 0) : RoundTo l Try.prog T assign2 body2 (slN x) (rrN m n c) (rrN m n (setC c (k * 2) [vI x.1.2.2])) := by
  obtain ⟨⟨x1, x2, x3⟩, b⟩ := x
  obtain ⟨j, hj⟩ : ∃ j : J, j = std Try.prog T := ⟨_, rfl⟩
  have hget : mgetC m.ks m.vs (.string b) (.val (.int .i64 0)) = vI k := hget
  have hgk : gi (mgetC m.ks m.vs (.string b) (.val (.int .i64 0))) = k := by rw [hget]; rfl
  have ho2 : cellAt c ((gi (mgetC m.ks m.vs (.string b) (.val (.int .i64 0)))).toNat * 2) = vI o := by rw [hgk, Int.toNat_natCast]; exact ho
  have hgo : gi (cellAt c ((gi (mgetC m.ks m.vs (.string b) (.val (.int .i64 0)))).toNat * 2)) = o := by rw [ho2]; rfl
  unfold RoundTo
  conv => arg 4; whnf
  (repeat' first | ((first | with_reducible refine tr_cut (fun h => ?_) (fun h => ?_) | refine ai_condj (by cbv) (fun h => ?_) (fun h => ?_)) <;> (try simp (disch := omega) only [hj, std, cmpI, cmpB, satB, Bool.not_eq_true, Bool.not_eq_false, decide_eq_true_eq, decide_eq_false_iff_not, beq_iff_eq, bne_iff_ne, bne_eq_false_iff_eq, beq_eq_false_iff_ne, ne_eq, reduceCtorEq, not_true_eq_false, not_false_eq_true, pl0, if_true, cmpS_eq, cmpS_neq, Bool.not_eq_eq_eq_not, Bool.not_true, Bool.not_false, Bool.not_eq_true', add64, sub64] at h) <;> (try (exfalso; omega))) | (with_reducible refine tr_alt (fun h => ?_) ?_ <;> (try (exfalso; omega))) | (with_reducible first | refine tr_ob ?_ ?_ | refine tr_done ?_) | (refine ai_tr hj tok bookM0 (by rfl) (by (repeat' first | (intro st h; exact absurd h.1 (by simp)) | refine no_th ?_ | refine no_blk ?_)) (by cbv) ?_) | (refine ai_seq fun K hK => ?_) | (refine ai_tr1 hj tok bookM0 (by rfl) (by (repeat' first | (intro st h; exact absurd h.1 (by simp)) | refine no_th ?_ | refine no_blk ?_)) (by cbv) ?_) | (refine ai_skip ?_) | (refine ai_block ?_) | (refine ai_exit ?_) | (refine aw_ret ⟨.inr rfl, ret_okj hj (by cbv) ?_ ?_⟩) | (refine aw_ret ?_) | (with_reducible first | refine th_n ?_ | refine th_r ?_ | refine th_x ?_ | refine blk_n ?_ | refine blk_r ?_ | refine blk_x ?_ | refine blk_y rfl ?_) | (refine ⟨.inr rfl, ret_okj hj (by cbv) ?_ ?_⟩) | (refine ⟨.inl rfl, ret_okj hj (by cbv) ?_ ?_⟩) | (with_reducible apply_assumption -symm -exfalso only [*]))
  all_goals (try exact ⟨rfl, _, Le.refl _ _, rfl, rfl⟩)
  refine ⟨rfl, ?_⟩
  conv => arg 4; whnf
  (repeat' first | ((first | with_reducible refine tr_cut (fun h => ?_) (fun h => ?_) | refine ai_condj (by cbv) (fun h => ?_) (fun h => ?_)) <;> (try simp (disch := omega) only [hj, std, cmpI, cmpB, satB, Bool.not_eq_true, Bool.not_eq_false, decide_eq_true_eq, decide_eq_false_iff_not, beq_iff_eq, bne_iff_ne, bne_eq_false_iff_eq, beq_eq_false_iff_ne, ne_eq, reduceCtorEq, not_true_eq_false, not_false_eq_true, pl0, if_true, cmpS_eq, cmpS_neq, Bool.not_eq_eq_eq_not, Bool.not_true, Bool.not_false, Bool.not_eq_true', hgo, add64, sub64] at h) <;> (try (exfalso; omega))) | (with_reducible refine tr_alt (fun h => ?_) ?_ <;> (try (exfalso; omega))) | (with_reducible first | refine tr_ob ?_ ?_ | refine tr_done ?_) | (refine ai_tr hj tok bookM0 (by rfl) (by (repeat' first | (intro st h; exact absurd h.1 (by simp)) | refine no_th ?_ | refine no_blk ?_)) (by cbv) ?_) | (refine ai_seq fun K hK => ?_) | (refine ai_tr1 hj tok bookM0 (by rfl) (by (repeat' first | (intro st h; exact absurd h.1 (by simp)) | refine no_th ?_ | refine no_blk ?_)) (by cbv) ?_) | (refine ai_skip ?_) | (refine ai_block ?_) | (refine ai_exit ?_) | (refine aw_ret ⟨.inr rfl, ret_okj hj (by cbv) ?_ ?_⟩) | (refine aw_ret ?_) | (with_reducible first | refine th_n ?_ | refine th_r ?_ | refine th_x ?_ | refine blk_n ?_ | refine blk_r ?_ | refine blk_x ?_ | refine blk_y rfl ?_) | (refine ⟨.inr rfl, ret_okj hj (by cbv) ?_ ?_⟩) | (refine ⟨.inl rfl, ret_okj hj (by cbv) ?_ ?_⟩) | (with_reducible apply_assumption -symm -exfalso only [*]))
  all_goals (try (repeat' first | with_reducible exact obl0 | with_reducible refine obl1 ?_ ?_))
  all_goals (try first
    | (refine ob_ok hj ?_; rw [hj]; exact ⟨_, hget⟩)
    | (refine ob_ok hj ?_; rw [hj]; exact ⟨_, ho2⟩)
    | (refine ob_inb hj ?_; rw [hj]; show 0 ≤ gi (mgetC m.ks m.vs (.string b) (.val (.int .i64 0))) ∧ gi (mgetC m.ks m.vs (.string b) (.val (.int .i64 0))) < n; rw [hgk]; omega)
    | (refine ob_le hj ?_; rw [hj]; show (if (gi (mgetC m.ks m.vs (.string b) (.val (.int .i64 0)))).toNat * 2 = 0 then 1 else (gi (mgetC m.ks m.vs (.string b) (.val (.int .i64 0)))).toNat * 2 + 1) ≤ c.length; rw [hgk]; split <;> omega))
  all_goals (try (exfalso; first | omega | (exact absurd h1 (by assumption)) | (exact absurd (by assumption) (by omega))))
  refine ⟨rfl, _, Le.refl _ _, rfl, ?_⟩
  rw [show setC c (k * 2) [vI x3] = setC c ((gi (mgetC m.ks m.vs (.string b) (.val (.int .i64 0)))).toNat * 2) [vI x3] by rw [hgk, Int.toNat_natCast]]
  subst hj
  rfl
set_option cbv.maxSteps 3000000 in
theorem round2_keep (l : Nat) (x : Rw × ByteArray) (m : GM) (n : Nat) (c : List C) (k : Nat) (o : Int) (hk : k < n) (hc : c.length = n * 2) (hget : mgetC m.ks m.vs (.string x.2) (vI 0) = vI k) (ho : cellAt c (k * 2) = vI o) (hkeep : ¬ (x.2 = x.1.2.1 ∧ o < 0)) : RoundTo l Try.prog T assign2 body2 (slN x) (rrN m n c) (rrN m n c) := by
  obtain ⟨⟨x1, x2, x3⟩, b⟩ := x
  obtain ⟨j, hj⟩ : ∃ j : J, j = std Try.prog T := ⟨_, rfl⟩
  have hget : mgetC m.ks m.vs (.string b) (.val (.int .i64 0)) = vI k := hget
  have hgk : gi (mgetC m.ks m.vs (.string b) (.val (.int .i64 0))) = k := by rw [hget]; rfl
  have ho2 : cellAt c ((gi (mgetC m.ks m.vs (.string b) (.val (.int .i64 0)))).toNat * 2) = vI o := by rw [hgk, Int.toNat_natCast]; exact ho
  have hgo : gi (cellAt c ((gi (mgetC m.ks m.vs (.string b) (.val (.int .i64 0)))).toNat * 2)) = o := by rw [ho2]; rfl
  unfold RoundTo
  conv => arg 4; whnf
  (repeat' first | ((first | with_reducible refine tr_cut (fun h => ?_) (fun h => ?_) | refine ai_condj (by cbv) (fun h => ?_) (fun h => ?_)) <;> (try simp (disch := omega) only [hj, std, cmpI, cmpB, satB, Bool.not_eq_true, Bool.not_eq_false, decide_eq_true_eq, decide_eq_false_iff_not, beq_iff_eq, bne_iff_ne, bne_eq_false_iff_eq, beq_eq_false_iff_ne, ne_eq, reduceCtorEq, not_true_eq_false, not_false_eq_true, pl0, if_true, cmpS_eq, cmpS_neq, Bool.not_eq_eq_eq_not, Bool.not_true, Bool.not_false, Bool.not_eq_true', add64, sub64] at h) <;> (try (exfalso; omega))) | (with_reducible refine tr_alt (fun h => ?_) ?_ <;> (try (exfalso; omega))) | (with_reducible first | refine tr_ob ?_ ?_ | refine tr_done ?_) | (refine ai_tr hj tok bookM0 (by rfl) (by (repeat' first | (intro st h; exact absurd h.1 (by simp)) | refine no_th ?_ | refine no_blk ?_)) (by cbv) ?_) | (refine ai_seq fun K hK => ?_) | (refine ai_tr1 hj tok bookM0 (by rfl) (by (repeat' first | (intro st h; exact absurd h.1 (by simp)) | refine no_th ?_ | refine no_blk ?_)) (by cbv) ?_) | (refine ai_skip ?_) | (refine ai_block ?_) | (refine ai_exit ?_) | (refine aw_ret ⟨.inr rfl, ret_okj hj (by cbv) ?_ ?_⟩) | (refine aw_ret ?_) | (with_reducible first | refine th_n ?_ | refine th_r ?_ | refine th_x ?_ | refine blk_n ?_ | refine blk_r ?_ | refine blk_x ?_ | refine blk_y rfl ?_) | (refine ⟨.inr rfl, ret_okj hj (by cbv) ?_ ?_⟩) | (refine ⟨.inl rfl, ret_okj hj (by cbv) ?_ ?_⟩) | (with_reducible apply_assumption -symm -exfalso only [*]))
  all_goals (try exact ⟨rfl, _, Le.refl _ _, rfl, rfl⟩)
  refine ⟨rfl, ?_⟩
  conv => arg 4; whnf
  (repeat' first | ((first | with_reducible refine tr_cut (fun h => ?_) (fun h => ?_) | refine ai_condj (by cbv) (fun h => ?_) (fun h => ?_)) <;> (try simp (disch := omega) only [hj, std, cmpI, cmpB, satB, Bool.not_eq_true, Bool.not_eq_false, decide_eq_true_eq, decide_eq_false_iff_not, beq_iff_eq, bne_iff_ne, bne_eq_false_iff_eq, beq_eq_false_iff_ne, ne_eq, reduceCtorEq, not_true_eq_false, not_false_eq_true, pl0, if_true, cmpS_eq, cmpS_neq, Bool.not_eq_eq_eq_not, Bool.not_true, Bool.not_false, Bool.not_eq_true', hgo, add64, sub64] at h) <;> (try (exfalso; omega))) | (with_reducible refine tr_alt (fun h => ?_) ?_ <;> (try (exfalso; omega))) | (with_reducible first | refine tr_ob ?_ ?_ | refine tr_done ?_) | (refine ai_tr hj tok bookM0 (by rfl) (by (repeat' first | (intro st h; exact absurd h.1 (by simp)) | refine no_th ?_ | refine no_blk ?_)) (by cbv) ?_) | (refine ai_seq fun K hK => ?_) | (refine ai_tr1 hj tok bookM0 (by rfl) (by (repeat' first | (intro st h; exact absurd h.1 (by simp)) | refine no_th ?_ | refine no_blk ?_)) (by cbv) ?_) | (refine ai_skip ?_) | (refine ai_block ?_) | (refine ai_exit ?_) | (refine aw_ret ⟨.inr rfl, ret_okj hj (by cbv) ?_ ?_⟩) | (refine aw_ret ?_) | (with_reducible first | refine th_n ?_ | refine th_r ?_ | refine th_x ?_ | refine blk_n ?_ | refine blk_r ?_ | refine blk_x ?_ | refine blk_y rfl ?_) | (refine ⟨.inr rfl, ret_okj hj (by cbv) ?_ ?_⟩) | (refine ⟨.inl rfl, ret_okj hj (by cbv) ?_ ?_⟩) | (with_reducible apply_assumption -symm -exfalso only [*]))
  all_goals (try (repeat' first | with_reducible exact obl0 | with_reducible refine obl1 ?_ ?_))
  all_goals (try first
    | (refine ob_ok hj ?_; rw [hj]; exact ⟨_, hget⟩)
    | (refine ob_ok hj ?_; rw [hj]; exact ⟨_, ho2⟩)
    | (refine ob_inb hj ?_; rw [hj]; show 0 ≤ gi (mgetC m.ks m.vs (.string b) (.val (.int .i64 0))) ∧ gi (mgetC m.ks m.vs (.string b) (.val (.int .i64 0))) < n; rw [hgk]; omega)
    | (refine ob_le hj ?_; rw [hj]; show (if (gi (mgetC m.ks m.vs (.string b) (.val (.int .i64 0)))).toNat * 2 = 0 then 1 else (gi (mgetC m.ks m.vs (.string b) (.val (.int .i64 0)))).toNat * 2 + 1) ≤ c.length; rw [hgk]; split <;> omega))
  all_goals (try (exfalso; exact hkeep ⟨by assumption, by omega⟩))
  all_goals (try exact ⟨rfl, _, Le.refl _ _, rfl, rfl⟩)
end Go.Proofs.Ytcpcghnpoekhpaa.A
/- Tries: the iterator is made; the comparison of fronts. -/
set_option linter.unusedSimpArgs false
set_option linter.unusedVariables false
set_option maxRecDepth 100000
set_option maxHeartbeats 4000000
namespace Go.Proofs.Ytcpcghnpoekhpaa
open Go Go.RowKit Go.Proofs
set_option maxHeartbeats 4000000 in
set_option maxRecDepth 100000 in
theorem beg_any (a : Option Addr) (n cap : Nat) (w : World) : Calls Try.prog 21 #[.slice a n cap] w fun e w' => e = .returned (.func (.func 32) #[] #[.pointer (some ⟨w.heap.size, 0, none⟩)]) ∧ w' = w.alloc (.cells #[.slice a n cap] 22) := by
 go_enter Try.func21, Try.ntmps21
 go_wp2_with fail
 go_ret
 exact ⟨rfl, rfl⟩
end Go.Proofs.Ytcpcghnpoekhpaa
/- Tries: the order of fronts, by length and then by bytes. No program in sight. -/
set_option linter.unusedSimpArgs false
set_option linter.unusedVariables false
set_option maxRecDepth 100000
set_option maxHeartbeats 4000000
namespace Go.Proofs.Ytcpcghnpoekhpaa.A
open Go Go.Sort
def cmpF (a b : ByteArray) : Int := if a.size = b.size then Lib.compareBytes a.data.toList b.data.toList else Lib.compareInt a.size b.size
def ltF (a b : ByteArray) : Bool := decide (a.size < b.size ∨ (a.size = b.size ∧ a.data.toList < b.data.toList))
theorem cb_lt : ∀ a b : List UInt8, Lib.compareBytes a b < 0 ↔ a < b
 | [], [] => by simp [Lib.compareBytes]
 | [], _ :: _ => by simp [Lib.compareBytes]
 | _ :: _, [] => by simp [Lib.compareBytes]
 | a :: r, b :: s => by
  have ih := cb_lt r s
  unfold Lib.compareBytes
  rw [List.cons_lt_cons_iff]
  split
  ·rename_i h; simp [h]
  ·rename_i h
   split
   ·rename_i h2
    constructor
    ·intro h3; omega
    ·rintro (h3 | ⟨h3, _⟩)
     ·exact absurd h3 h
     ·rw [h3] at h2; exact absurd h2 (UInt8.lt_irrefl _)
   ·rename_i h2
    have e : a = b := by
     have h3 := UInt8.not_lt.1 h
     have h4 := UInt8.not_lt.1 h2
     exact UInt8.le_antisymm h4 h3
    rw [ih]
    constructor
    ·intro h3; exact .inr ⟨e, h3⟩
    ·rintro (h3 | ⟨_, h3⟩)
     ·exact absurd h3 h
     ·exact h3
theorem lt_cmpF (a b : ByteArray) : decide (cmpF a b < 0) = ltF a b := by
 unfold cmpF ltF
 rw [Bool.eq_iff_iff, decide_eq_true_eq, decide_eq_true_eq]
 split
 ·rename_i h
  rw [cb_lt]
  constructor
  ·intro q; exact .inr ⟨h, q⟩
  ·rintro (q | ⟨_, q⟩)
   ·omega
   ·exact q
 ·rename_i h
  unfold Lib.compareInt
  constructor
  ·intro q
   (repeat' split at q) <;> first | omega | (left; omega)
  ·rintro (q | ⟨q, _⟩)
   ·rw [if_pos (by omega)]; omega
   ·exact absurd q h
theorem ltF_iff {a b : ByteArray} : ltF a b = true ↔ a.size < b.size ∨ (a.size = b.size ∧ a.data.toList < b.data.toList) := by unfold ltF; rw [decide_eq_true_eq]
theorem ltF_no {a b : ByteArray} : ltF a b = false ↔ b.size < a.size ∨ (a.size = b.size ∧ b.data.toList ≤ a.data.toList) := by
 rw [← Bool.not_eq_true, ltF_iff]
 constructor
 ·intro h
  rcases Nat.lt_trichotomy a.size b.size with q | q | q
  ·exact absurd (.inl q) h
  ·exact .inr ⟨q, List.not_lt.1 fun k => h (.inr ⟨q, k⟩)⟩
  ·exact .inl q
 ·rintro (q | ⟨q, k⟩) (h | ⟨h, g⟩)
  ·omega
  ·omega
  ·omega
  ·exact absurd g (List.not_lt.2 k)
theorem ltF_total {a b : ByteArray} (h1 : ltF a b = false) (h2 : ltF b a = false) : a = b := by
 rw [ltF_no] at h1 h2
 rcases h1 with q | ⟨q, k⟩ <;> rcases h2 with r | ⟨r, g⟩
 ·omega
 ·omega
 ·omega
 ·exact ByteArray.ext (Array.toList_inj.1 (List.le_antisymm g k))
theorem swoF : SWO (fun a b => decide (cmpF a b < 0)) := by
 refine ⟨fun x => ?_, fun x y z h1 h2 => ?_, fun x y z h1 h2 => ?_⟩
 ·rw [lt_cmpF, ltF_no]; exact .inr ⟨rfl, List.le_refl _⟩
 ·rw [lt_cmpF, ltF_iff] at h1 h2 ⊢
  rcases h1 with q | ⟨q, k⟩ <;> rcases h2 with r | ⟨r, g⟩
  ·left; omega
  ·left; omega
  ·left; omega
  ·exact .inr ⟨q.trans r, List.lt_trans k g⟩
 ·rw [lt_cmpF, ltF_no] at h1 h2 ⊢
  rcases h1 with q | ⟨q, k⟩ <;> rcases h2 with r | ⟨r, g⟩
  ·left; omega
  ·left; omega
  ·left; omega
  ·exact .inr ⟨q.trans r, List.le_trans g k⟩
end Go.Proofs.Ytcpcghnpoekhpaa.A
/-
 DERIVED: THE SHELF's CONTRACTS AT THIS DUMP, IN PLAIN WORDS (tools/lay-plain.mjs out of 'YtcpcghnpoekhpaaShelfT.lean', which tools/lay-shelf.mjs wrote): THE SAME DECLARATIONS UNDER THE SAME NAMES: 'import', 'namespace', 'open', 'def', 'theorem' AND NOTHING ELSE: no command of the shelf's: FOR A HAND-IN. Each laying: the table of numbers ('.._ren') and one theorem, a field a fact of the dump's own or the kernel's comparison; each contract: ONE APPLICATION.
-/
namespace Go.Proofs
open Go.Shelf
def Ytcpcghnpoekhpaa.cmpS_ren : Go.Shelf.Ren := ⟨fun | 106 => 25 | 213 => 37 | 265 => 49 | n => n, fun | 9 => 9 | 3 => 3 | n => n, fun | n => n⟩
theorem Ytcpcghnpoekhpaa.cmpS : Go.Proofs.Lays.n106 Try.prog Ytcpcghnpoekhpaa.cmpS_ren := {
 mixed := by kernel_rfl
 f106 := Try.func25.trans (congrArg some (by kernel_rfl))
 f213 := Try.func37.trans (congrArg some (by kernel_rfl))
 f265 := Try.func49.trans (congrArg some (by kernel_rfl))
 t3 := Try.underlying3
 a3 := Try.isAgg3
 z3 := Try.sizeOf3
 v3 := Try.zeroValue3
 t9 := Try.underlying9
 a9 := Try.isAgg9
 z9 := Try.sizeOf9
 v9 := Try.zeroValue9 }
def Ytcpcghnpoekhpaa.cmpI_ren : Go.Shelf.Ren := ⟨fun | 122 => 24 | 215 => 36 | n => n, fun | 3 => 3 | 4 => 4 | n => n, fun | n => n⟩
theorem Ytcpcghnpoekhpaa.cmpI : Go.Proofs.Lays.n122 Try.prog Ytcpcghnpoekhpaa.cmpI_ren := {
 mixed := by kernel_rfl
 f122 := Try.func24.trans (congrArg some (by kernel_rfl))
 f215 := Try.func36.trans (congrArg some (by kernel_rfl))
 t3 := Try.underlying3
 a3 := Try.isAgg3
 z3 := Try.sizeOf3
 v3 := Try.zeroValue3
 t4 := Try.underlying4
 a4 := Try.isAgg4
 z4 := Try.sizeOf4
 v4 := Try.zeroValue4 }
def Ytcpcghnpoekhpaa.sortF_ren : Go.Shelf.Ren := ⟨fun | 6 => 22 | 15 => 35 | 14 => 34 | 28 => 47 | 29 => 48 | 20 => 39 | 21 => 40 | 22 => 41 | 23 => 42 | 24 => 43 | 25 => 44 | 26 => 45 | 27 => 46 | 46 => 50 | 47 => 51 | 48 => 52 | 49 => 53 | 50 => 54 | 57 => 55 | n => n, fun | 22 => 27 | 24 => 9 | 25 => 53 | 3 => 3 | 39 => 67 | 0 => 0 | 53 => 78 | 55 => 80 | 4 => 4 | 46 => 72 | 45 => 71 | 50 => 41 | 5 => 5 | 9 => 9 | 66 => 81 | 70 => 85 | 76 => 87 | 77 => 88 | n => n, fun | n => n⟩
theorem Ytcpcghnpoekhpaa.sortF : Go.Proofs.SlLaysF.n6 Try.prog Ytcpcghnpoekhpaa.sortF_ren := {
 mixed := by kernel_rfl
 f6 := ⟨Try.f22.name, by decide, Try.func22.trans (congrArg some (by kernel_rfl))⟩
 f14 := ⟨Try.f34.name, by decide, Try.func34.trans (congrArg some (by kernel_rfl))⟩
 f15 := Try.func35.trans (congrArg some (by kernel_rfl))
 f20 := ⟨Try.f39.name, by decide, Try.func39.trans (congrArg some (by kernel_rfl))⟩
 f21 := ⟨Try.f40.name, by decide, Try.func40.trans (congrArg some (by kernel_rfl))⟩
 f22 := ⟨Try.f41.name, by decide, Try.func41.trans (congrArg some (by kernel_rfl))⟩
 f23 := ⟨Try.f42.name, by decide, Try.func42.trans (congrArg some (by kernel_rfl))⟩
 f24 := ⟨Try.f43.name, by decide, Try.func43.trans (congrArg some (by kernel_rfl))⟩
 f25 := ⟨Try.f44.name, by decide, Try.func44.trans (congrArg some (by kernel_rfl))⟩
 f26 := ⟨Try.f45.name, by decide, Try.func45.trans (congrArg some (by kernel_rfl))⟩
 f27 := ⟨Try.f46.name, by decide, Try.func46.trans (congrArg some (by kernel_rfl))⟩
 f28 := Try.func47.trans (congrArg some (by kernel_rfl))
 f29 := Try.func48.trans (congrArg some (by kernel_rfl))
 f46 := ⟨Try.f50.name, by decide, Try.func50.trans (congrArg some (by kernel_rfl))⟩
 f47 := Try.func51.trans (congrArg some (by kernel_rfl))
 f48 := Try.func52.trans (congrArg some (by kernel_rfl))
 f49 := ⟨Try.f53.name, by decide, Try.func53.trans (congrArg some (by kernel_rfl))⟩
 f50 := ⟨Try.f54.name, by decide, Try.func54.trans (congrArg some (by kernel_rfl))⟩
 f57 := ⟨Try.f55.name, by decide, Try.func55.trans (congrArg some (by kernel_rfl))⟩
 t0 := Try.underlying0
 a0 := Try.isAgg0
 z0 := Try.sizeOf0
 v0 := Try.zeroValue0
 t3 := Try.underlying3
 a3 := Try.isAgg3
 z3 := Try.sizeOf3
 v3 := Try.zeroValue3
 t4 := Try.underlying4
 a4 := Try.isAgg4
 z4 := Try.sizeOf4
 v4 := Try.zeroValue4
 t5 := Try.underlying5
 a5 := Try.isAgg5
 z5 := Try.sizeOf5
 v5 := Try.zeroValue5
 t9 := Try.underlying9
 a9 := Try.isAgg9
 z9 := Try.sizeOf9
 v9 := Try.zeroValue9
 t22 := Try.underlying27
 a22 := Try.isAgg27
 z22 := Try.sizeOf27
 v22 := Try.zeroValue27
 a24 := Try.isAgg9
 z24 := Try.sizeOf9
 t25 := Try.underlying53
 a25 := Try.isAgg53
 z25 := Try.sizeOf53
 v25 := Try.zeroValue53
 t39 := Try.underlying67
 a39 := Try.isAgg67
 z39 := Try.sizeOf67
 v39 := Try.zeroValue67
 t45 := Try.underlying71
 a45 := Try.isAgg71
 z45 := Try.sizeOf71
 v45 := Try.zeroValue71
 t46 := Try.underlying72
 a46 := Try.isAgg72
 z46 := Try.sizeOf72
 v46 := Try.zeroValue72
 t50 := Try.underlying41
 a50 := Try.isAgg41
 z50 := Try.sizeOf41
 v50 := Try.zeroValue41
 t53 := Try.underlying78
 a53 := Try.isAgg78
 z53 := Try.sizeOf78
 v53 := Try.zeroValue78
 t55 := Try.underlying80
 a55 := Try.isAgg80
 z55 := Try.sizeOf80
 v55 := Try.zeroValue80
 t66 := Try.underlying81
 a66 := Try.isAgg81
 z66 := Try.sizeOf81
 v66 := Try.zeroValue81
 t70 := Try.underlying85
 a70 := Try.isAgg85
 z70 := Try.sizeOf85
 v70 := Try.zeroValue85
 t76 := Try.underlying87
 a76 := Try.isAgg87
 z76 := Try.sizeOf87
 v76 := Try.zeroValue87
 t77 := Try.underlying88
 a77 := Try.isAgg88
 z77 := Try.sizeOf88
 v77 := Try.zeroValue88 }
end Go.Proofs
/- Tries: fronts are sorted. -/
set_option linter.unusedSimpArgs false
set_option linter.unusedVariables false
set_option maxRecDepth 100000
set_option maxHeartbeats 4000000
namespace Go.Proofs.Ytcpcghnpoekhpaa
open Go Go.RowKit Go.Proofs
set_option maxHeartbeats 4000000 in
set_option maxRecDepth 100000 in
theorem cmp_any (a b : ByteArray) (w : World) : Calls Try.prog 23 #[.string a, .string b] w fun e w' => e = .returned (.int .i64 (A.cmpF a b)) ∧ w' = w := by
 have hS : Calls Try.prog 25 #[.string a, .string b] w _ := Any.strings_Compare Ytcpcghnpoekhpaa.cmpS a b w
 have hI : Calls Try.prog 24 #[.int .i64 a.size, .int .i64 b.size] w _ := Any.cmp_Compare_int Ytcpcghnpoekhpaa.cmpI a.size b.size w
 by_cases h : a.size = b.size
 ·have e : A.cmpF a b = Lib.compareBytes a.data.toList b.data.toList := if_pos h
  have hz : (a.size : Int) = b.size := by omega
  rw [e]
  clear hI e
  go_enter Try.func23, Try.ntmps23
  go_wp2_with fail
  refine hS.mono ?_
  rintro e w' ⟨rfl, rfl⟩
  go_wp2
  go_ret
  exact ⟨rfl, rfl⟩
 ·have e : A.cmpF a b = Lib.compareInt a.size b.size := if_neg h
  have hz : ¬ (a.size : Int) = b.size := by omega
  rw [e]
  clear hS e
  go_enter Try.func23, Try.ntmps23
  go_wp2_with fail
  refine hI.mono ?_
  rintro e w' ⟨rfl, rfl⟩
  go_wp2
  go_ret
  exact ⟨rfl, rfl⟩
open Go.Sort in
theorem sort_any (d : Array ByteArray) (blk off cap : Nat) (w : World) (hH : Holds Value.string w blk off d) (hblk : blk < w.heap.size) (hsz : d.size < 4611686018427387904) :
  Calls Try.prog 22 #[.slice (some ⟨blk, off, none⟩) d.size cap, .func (.func 23) #[] #[]] w fun e w' =>
   e = .returned (.tuple #[]) ∧ ∃ n os, w' = sortWorld Value.string w blk off n (d.toList.mergeSort fun x y => !(A.ltF y x)).toArray os := by
 have h := Any.slices_SortFunc_total Ytcpcghnpoekhpaa.sortF Value.string (fun _ => rfl) A.cmpF A.swoF 23 #[] blk off cap d w (A.enters Try.func23 (by kernel_rfl) (by kernel_rfl))
  (fun m os dk _ x y => (cmp_any x y _).mono fun e w' ⟨he, hw⟩ => ⟨he, 0, #[], by rw [hw, grow_empty]; rfl⟩) hH hblk hsz (fun x y h1 h2 => A.ltF_total (by rw [← A.lt_cmpF]; exact h1) (by rw [← A.lt_cmpF]; exact h2))
 refine h.mono ?_
 rintro e w' ⟨he, n, os, hw⟩
 refine ⟨he, n, os, ?_⟩
 rw [hw]
 congr 3
 funext x y
 exact congrArg (!·) (A.lt_cmpF y x)
end Go.Proofs.Ytcpcghnpoekhpaa
/- Machines as9 cells: states with their edges. -/
set_option linter.unusedSimpArgs false
set_option linter.unusedVariables false
set_option maxRecDepth 100000
set_option maxHeartbeats 4000000
namespace Go.Proofs.Ytcpcghnpoekhpaa.A
open Go
abbrev Eg := Int × Int
abbrev Sta := Int × List Eg
def eC (l : List Eg) : List C := l.flatMap fun e => [vI e.1, vI e.2]
def nE (l : List Eg) : Nat := l.foldr (fun _ n => n + 1) 0
def mC (l : List Sta) : List C := l.flatMap fun s => [vI s.1, .sl (nE s.2) (eC s.2)]
def nM (l : List Sta) : Nat := l.foldr (fun _ n => n + 1) 0
theorem nE_eq (l : List Eg) : nE l = l.length := by unfold nE; induction l with | nil => rfl | cons x l ih => rw [List.foldr_cons, ih]; rfl
theorem nM_eq (l : List Sta) : nM l = l.length := by unfold nM; induction l with | nil => rfl | cons x l ih => rw [List.foldr_cons, ih]; rfl
abbrev eAt (l : List Eg) (k : Nat) : Eg := l.getD k (0, 0)
abbrev mAt (l : List Sta) (k : Nat) : Sta := l.getD k (0, [])
theorem eC_cons (f : Eg) (l : List Eg) : eC (f :: l) = vI f.1 :: vI f.2 :: eC l := rfl
theorem mC_cons (f : Sta) (l : List Sta) : mC (f :: l) = vI f.1 :: .sl (nE f.2) (eC f.2) :: mC l := rfl
theorem eC_len (l : List Eg) : (eC l).length = nE l * 2 := by
 rw [nE_eq]
 induction l with
 | nil => rfl
 | cons r l ih => rw [eC_cons, List.length_cons, List.length_cons, ih, List.length_cons]; omega
theorem mC_len (l : List Sta) : (mC l).length = nM l * 2 := by
 rw [nM_eq]
 induction l with
 | nil => rfl
 | cons r l ih => rw [mC_cons, List.length_cons, List.length_cons, ih, List.length_cons]; omega
theorem eC_at : ∀ (l : List Eg) (k : Nat), k < l.length → cellAt (eC l) (k * 2) = vI (eAt l k).1 ∧ cellAt (eC l) (k * 2 + 1) = vI (eAt l k).2 := by
 intro l
 induction l with
 | nil => intro k h; exact absurd h (by simp)
 | cons r l ih =>
  intro k h
  cases k with
  | zero => exact ⟨rfl, rfl⟩
  | succ k =>
   have := ih k (by simpa using h)
   rw [show (k + 1) * 2 = k * 2 + 1 + 1 by omega, eC_cons]
   exact this
theorem mC_at : ∀ (l : List Sta) (k : Nat), k < l.length → cellAt (mC l) (k * 2) = vI (mAt l k).1 ∧ cellAt (mC l) (k * 2 + 1) = .sl (nE (mAt l k).2) (eC (mAt l k).2) := by
 intro l
 induction l with
 | nil => intro k h; exact absurd h (by simp)
 | cons r l ih =>
  intro k h
  cases k with
  | zero => exact ⟨rfl, rfl⟩
  | succ k =>
   have := ih k (by simpa using h)
   rw [show (k + 1) * 2 = k * 2 + 1 + 1 by omega, mC_cons]
   exact this
theorem eC_snoc (l : List Eg) (a b : Int) : eC l ++ [vI a, vI b] = eC (l ++ [(a, b)]) := by simp [eC]
def egsGo : List C → List Eg
 | a :: b :: r => (gi a, gi b) :: egsGo r
 | _ => []
def egsOf (cs : List C) : List Eg := egsGo cs
theorem egsOf_eC (l : List Eg) : egsOf (eC l) = l := by
 unfold egsOf
 induction l with
 | nil => rfl
 | cons r l ih => rw [eC_cons, egsGo, ih]; rfl
def stsGo : List C → List Sta
 | a :: b :: r => (gi a, egsOf (gc b)) :: stsGo r
 | _ => []
def stsOf (cs : List C) : List Sta := stsGo cs
theorem stsOf_mC (l : List Sta) : stsOf (mC l) = l := by
 unfold stsOf
 induction l with
 | nil => rfl
 | cons r l ih =>
  rw [mC_cons, stsGo, ih]
  show (r.1, egsOf (eC r.2)) :: l = _
  rw [egsOf_eC]
theorem eAt_get {l : List Eg} {k : Nat} (h : k < l.length) : eAt l k = l[k] := by
 show l.getD k _ = _
 rw [List.getD_eq_getElem?_getD, List.getElem?_eq_getElem h]; rfl
theorem mAt_get {l : List Sta} {k : Nat} (h : k < l.length) : mAt l k = l[k] := by
 show l.getD k _ = _
 rw [List.getD_eq_getElem?_getD, List.getElem?_eq_getElem h]; rfl
theorem drop_eg {l : List Eg} {k : Nat} (h : k < l.length) : l.drop k = eAt l k :: l.drop (k + 1) := by rw [eAt_get h, List.drop_eq_getElem_cons h]
theorem drop_st {l : List Sta} {k : Nat} (h : k < l.length) : l.drop k = mAt l k :: l.drop (k + 1) := by rw [mAt_get h, List.drop_eq_getElem_cons h]
/-! ### which machines may be -/
def riseG (terms n : Int) : Int → List Eg → Bool
 | _, [] => true
 | last, e :: l => if last < e.1 ∧ e.1 < terms ∧ 0 ≤ e.2 ∧ e.2 < n then riseG terms n e.1 l else false
def riseM (l : List Eg) (terms n : Int) : Bool := riseG terms n (-1) l
def validG (terms n : Int) : List Sta → Bool
 | [] => true
 | s :: l => if -1 ≤ s.1 ∧ riseM s.2 terms n = true then validG terms n l else false
def validM (m : List Sta) (terms : Int) : Bool := validG terms m.length m && decide (0 < m.length)
def SzM (m : List Sta) : Prop := m.length ≤ 1000000000 ∧ ∀ s ∈ m, s.2.length ≤ 1000000000
theorem SzM.at {m : List Sta} (h : SzM m) {k : Nat} (hk : k < m.length) : (mAt m k).2.length ≤ 1000000000 := by rw [mAt_get hk]; exact h.2 _ (List.getElem_mem hk)
end Go.Proofs.Ytcpcghnpoekhpaa.A
/- Machines, the reference: Out, Go, fits. -/
set_option linter.unusedSimpArgs false
set_option linter.unusedVariables false
set_option maxRecDepth 100000
set_option maxHeartbeats 4000000
namespace Go.Proofs.Ytcpcghnpoekhpaa.A
open Go
def outM (m : List Sta) (s : Int) : Int := if 0 ≤ s ∧ s < m.length then (mAt m s.toNat).1 else -1
def goE (n : Int) (t : Int) : List Eg → Int
 | [] => -1
 | e :: l => if e.1 = t ∧ 0 ≤ e.2 ∧ e.2 < n then e.2 else goE n t l
def goM (m : List Sta) (s t : Int) : Int := if 0 ≤ s ∧ s < m.length then goE m.length t (mAt m s.toNat).2 else -1
end Go.Proofs.Ytcpcghnpoekhpaa.A
/- Tries: where a state goes. -/
set_option linter.unusedSimpArgs false
set_option linter.unusedVariables false
set_option maxRecDepth 100000
set_option maxHeartbeats 4000000
namespace Go.Proofs.Ytcpcghnpoekhpaa.A
open Go
def eqIt (a t : Int) : Bool := decide (a = t)
def idxEGo (t : Int) : List Eg → Int → Int
 | [], _ => -1
 | e :: l, i => if e.1 = t then i else idxEGo t l (i + 1)
def idxE (l : List Eg) (t : Int) : Int := idxEGo t l 0
def bookSt (x_egsOf : List C → List Eg) (x_eqIt : Int → Int → Bool) (x_idxE : List Eg → Int → Int) : Book := fun f xs => match f, xs with
 | 30, [.v true [.val (.int .i64 x), .val (.int .i64 y)], .root (.box [.st (.val (.int .i64 t))])] => some (ret1 (.st (vB (x_eqIt x t))), [.none, .box [.st (vI t)]])
 | 29, [.v false [.sl _ cs], .clo 30 [2], .virt (.box [.st (.val (.int .i64 t))])] => some (ret1 (.st (vI (x_idxE (x_egsOf cs) t))), [.none, .none, .box [.st (vI t)]])
 | _, _ => none
theorem pc_st1 (x y t : Int) : PC Try.prog T 30 [.v true [vI x, vI y], .root (.box [.st (vI t)])] (ret1 (.st (vB (eqIt x t)))) [.none, .box [.st (vI t)]] := by
 refine pc_of tok Try.func30 rfl (by rfl) ?_
 obtain ⟨j, hj⟩ : ∃ j : J, j = std Try.prog T := ⟨_, rfl⟩
 have hm : Try.prog.follows .mixedOrders = true := by kernel_rfl
 generalize y_egsOf : @egsOf = x_egsOf at *
 generalize y_eqIt : @eqIt = x_eqIt at *
 generalize y_idxE : @idxE = x_idxE at *
 (repeat' first | (refine ⟨.inr rfl, ret_oku hj (by cbv) (by cbv) rfl ?_ ?_ (upd_of ?_)⟩) | ((first | with_reducible refine tr_cut (fun h => ?_) (fun h => ?_) | refine aw_condj (by cbv) (fun h => ?_) (fun h => ?_)) <;> (try simp (disch := omega) only [hj, std, cmpI, cmpB, satB, Bool.not_eq_true, Bool.not_eq_false, decide_eq_true_eq, decide_eq_false_iff_not, beq_iff_eq, bne_iff_ne, bne_eq_false_iff_eq, beq_eq_false_iff_ne, ne_eq, reduceCtorEq, not_true_eq_false, not_false_eq_true, pl0, if_true, cmpS_eq, cmpS_neq, Bool.not_eq_eq_eq_not, Bool.not_true, Bool.not_false, Bool.not_eq_true', add64, sub64] at h) <;> (try (exfalso; omega))) | (with_reducible refine tr_alt (fun h => ?_) ?_ <;> (try (exfalso; omega))) | (with_reducible first | refine tr_ob ?_ ?_ | refine tr_done ?_) | (refine aw_tr hj tok (bookSt x_egsOf x_eqIt x_idxE) (by cbv) ?_) | (refine aw_seq fun K hK => ?_) | (refine aw_tr1 hj tok (bookSt x_egsOf x_eqIt x_idxE) (by cbv) ?_) | (refine aw_skip ?_) | (refine aw_block ?_) | (refine aw_exit ?_) | (refine aw_ret ⟨.inr rfl, ret_okj hj (by cbv) ?_ ?_⟩) | (refine aw_ret ?_) | (with_reducible first | refine th_n ?_ | refine th_r ?_ | refine th_x ?_ | refine blk_n ?_ | refine blk_r ?_ | refine blk_x ?_ | refine blk_y rfl ?_) | (refine ⟨.inr rfl, ret_okj hj (by cbv) ?_ ?_⟩) | (refine ⟨.inl rfl, ret_okj hj (by cbv) ?_ ?_⟩) | (with_reducible apply_assumption -symm -exfalso only [*]))
 all_goals ((try subst y_egsOf); (try subst y_eqIt); (try subst y_idxE))
 all_goals (try (repeat' first | with_reducible exact obl0 | with_reducible refine obl1 ?_ ?_))
 all_goals (try first | with_reducible exact True.intro | ((first | refine ob_le hj ?_ | refine ob_lei hj ?_ | refine ob_inb hj ?_ | refine ob_pos hj ?_ | refine ob_ne0 hj ?_ | refine ob_eqb hj ?_); (first | rfl | first | omega | (simp only [hj, std]; split <;> omega) | (simp (disch := omega) only [hj, std, cmpI, cmpB, satB, add64, sub64, ite0, pl0, pl2, pl3, sb0, if_true, if_false, eq_self] <;> omega) | (simp (disch := omega) [hj, std, cmpI, cmpB, satB, add64, sub64, ite0, pl0, pl2, pl3, sb0, if_true, if_false, eq_self] <;> omega))) | ((refine r1b ?_; rw [hj]; show eqIt x t = (x == t); unfold eqIt; rw [Bool.eq_iff_iff]; simp)) | ((refine upd_none (upd_box ?_ (upd_nil _)); exact rfl)))
theorem c_st1 (x y t : Int) : (std Try.prog T).pc 30 [.v true [vI x, vI y], .root (.box [.st (vI t)])] (ret1 (.st (vB (eqIt x t)))) [.none, .box [.st (vI t)]] := ⟨enters Try.func30 (by kernel_rfl) (by kernel_rfl), pc_st1 x y t⟩
abbrev fnSt : FuncId := 30
theorem pc_IndexE (l : List Eg) (t : Int) (hl : l.length ≤ 1000000000) :
  PC Try.prog T 29 [.v false [.sl (nE l) (eC l)], .clo fnSt [2], .virt (.box [.st (vI t)])] (ret1 (.st (vI (idxE l t)))) [.none, .none, .box [.st (vI t)]] := by
 have nl := nE_eq l
 have hec := eC_len l
 refine pc_of tok Try.func29 rfl (by rfl) ?_
 obtain ⟨j, hj⟩ : ∃ j : J, j = std Try.prog T := ⟨_, rfl⟩
 have hm : Try.prog.follows .mixedOrders = true := by kernel_rfl
 generalize y_egsOf : @egsOf = x_egsOf at *
 generalize y_eqIt : @eqIt = x_eqIt at *
 generalize y_idxE : @idxE = x_idxE at *
 generalize y_eC : @eC = x_eC at *
 generalize y_nE : @nE = x_nE at *
 (repeat' first | (refine ⟨.inr rfl, ret_oku hj (by cbv) (by cbv) rfl ?_ ?_ (upd_of ?_)⟩) | ((first | with_reducible refine tr_cut (fun h => ?_) (fun h => ?_) | refine aw_condj (by cbv) (fun h => ?_) (fun h => ?_)) <;> (try simp (disch := omega) only [hj, std, cmpI, cmpB, satB, Bool.not_eq_true, Bool.not_eq_false, decide_eq_true_eq, decide_eq_false_iff_not, beq_iff_eq, bne_iff_ne, bne_eq_false_iff_eq, beq_eq_false_iff_ne, ne_eq, reduceCtorEq, not_true_eq_false, not_false_eq_true, pl0, if_true, cmpS_eq, cmpS_neq, Bool.not_eq_eq_eq_not, Bool.not_true, Bool.not_false, Bool.not_eq_true', add64, sub64] at h) <;> (try (exfalso; omega))) | (with_reducible refine tr_alt (fun h => ?_) ?_ <;> (try (exfalso; omega))) | (with_reducible first | refine tr_ob ?_ ?_ | refine tr_done ?_) | (refine aw_tr hj tok (bookSt x_egsOf x_eqIt x_idxE) (by cbv) ?_) | (refine aw_seq fun K hK => ?_) | (refine aw_tr1 hj tok (bookSt x_egsOf x_eqIt x_idxE) (by cbv) ?_) | (refine aw_skip ?_) | (refine aw_block ?_) | (refine aw_exit ?_) | (refine aw_ret ⟨.inr rfl, ret_okj hj (by cbv) ?_ ?_⟩) | (refine aw_ret ?_) | (with_reducible first | refine th_n ?_ | refine th_r ?_ | refine th_x ?_ | refine blk_n ?_ | refine blk_r ?_ | refine blk_x ?_ | refine blk_y rfl ?_) | (refine ⟨.inr rfl, ret_okj hj (by cbv) ?_ ?_⟩) | (refine ⟨.inl rfl, ret_okj hj (by cbv) ?_ ?_⟩) | (with_reducible refine ⟨_, by cbv, ?_, ?_⟩) | (with_reducible apply_assumption -symm -exfalso only [*]))
 all_goals ((try subst y_egsOf); (try subst y_eqIt); (try subst y_idxE); (try subst y_eC); (try subst y_nE))
 refine aw_lpj hj [(0, .keep), (1, .keep), (7, .keep), (8, .keep)] [] (fun (i : Int) => stOfR 19 [(0, .one (.c (.sl (nE l) (eC l)))), (1, .one (.fn fnSt [22])), (7, .one (.c (vI (j.ofNat (nE l))))), (8, .one (.c (vI i)))] [] [.none, .none, .box [.st (vI t)]]) (fun (i : Int) => nE l - i.toNat) (fun (i : Int) => 0 ≤ i ∧ i ≤ nE l ∧ idxE l t = idxEGo t (l.drop i.toNat) i) (0) (by generalize @egsOf = x_egsOf; generalize @eqIt = x_eqIt; generalize @idxE = x_idxE; generalize @eC = x_eC; generalize @nE = x_nE; cbv) ?_ (fun i hI => ?_)
 ·exact ⟨by omega, by omega, rfl⟩
 obtain ⟨i1, i2, i3⟩ := hI
 have i4 : ¬ i < nE l → idxE l t = -1 := fun h => by rw [i3, List.drop_of_length_le (by omega)]; rfl
 have i5 : i < nE l → (eAt l i.toNat).1 = t → idxE l t = i := fun h e => by rw [i3, drop_eg (by omega), idxEGo, if_pos e]
 have i6 : i < nE l → ¬ (eAt l i.toNat).1 = t → idxE l t = idxEGo t (l.drop (i + 1).toNat) (i + 1) := fun h e => by rw [i3, drop_eg (by omega), idxEGo, if_neg e, show (i + 1).toNat = i.toNat + 1 by omega]
 have hat : i < nE l → cellAt (eC l) (i.toNat * 2) = vI (eAt l i.toNat).1 ∧ cellAt (eC l) (i.toNat * 2 + 1) = vI (eAt l i.toNat).2 := fun h => eC_at l i.toNat (by omega)
 clear i3
 generalize y_egsOf : @egsOf = x_egsOf at *
 generalize y_eqIt : @eqIt = x_eqIt at *
 generalize y_idxE : @idxE = x_idxE at *
 generalize y_eC : @eC = x_eC at *
 generalize y_nE : @nE = x_nE at *
 (repeat' first | (refine ⟨.inr rfl, ret_oku hj (by cbv) (by cbv) rfl ?_ ?_ (upd_of ?_)⟩) | ((first | with_reducible refine tr_cut (fun h => ?_) (fun h => ?_) | refine aw_condj (by cbv) (fun h => ?_) (fun h => ?_)) <;> (try simp (disch := omega) only [hj, std, cmpI, cmpB, satB, Bool.not_eq_true, Bool.not_eq_false, decide_eq_true_eq, decide_eq_false_iff_not, beq_iff_eq, bne_iff_ne, bne_eq_false_iff_eq, beq_eq_false_iff_ne, ne_eq, reduceCtorEq, not_true_eq_false, not_false_eq_true, pl0, if_true, cmpS_eq, cmpS_neq, Bool.not_eq_eq_eq_not, Bool.not_true, Bool.not_false, Bool.not_eq_true', add64, sub64] at h) <;> (try (exfalso; omega))) | (with_reducible refine tr_alt (fun h => ?_) ?_ <;> (try (exfalso; omega))) | (with_reducible first | refine tr_ob ?_ ?_ | refine tr_done ?_) | (refine aw_tr hj tok (bookSt x_egsOf x_eqIt x_idxE) (by cbv) ?_) | (refine aw_seq fun K hK => ?_) | (refine aw_tr1 hj tok (bookSt x_egsOf x_eqIt x_idxE) (by cbv) ?_) | (refine aw_skip ?_) | (refine aw_block ?_) | (refine aw_exit ?_) | (refine aw_ret ⟨.inr rfl, ret_okj hj (by cbv) ?_ ?_⟩) | (refine aw_ret ?_) | (with_reducible first | refine th_n ?_ | refine th_r ?_ | refine th_x ?_ | refine blk_n ?_ | refine blk_r ?_ | refine blk_x ?_ | refine blk_y rfl ?_) | (refine ⟨.inr rfl, ret_okj hj (by cbv) ?_ ?_⟩) | (refine ⟨.inl rfl, ret_okj hj (by cbv) ?_ ?_⟩) | (with_reducible refine ⟨_, by cbv, ?_, ?_⟩) | (with_reducible apply_assumption -symm -exfalso only [*]))
 all_goals ((try subst y_egsOf); (try subst y_eqIt); (try subst y_idxE); (try subst y_eC); (try subst y_nE))
 all_goals (try (have hg := (hat (by omega)).1; have hg1 := (hat (by omega)).2; have hgi : gi (cellAt (eC l) (i.toNat * 2)) = (eAt l i.toNat).1 := (by rw [hg]; rfl)))
 all_goals (try (have q := ‹eqIt _ _ = true›; simp only [ite0, hgi, eqIt, decide_eq_true_eq] at q))
 all_goals (try (have q := ‹eqIt _ _ = false›; simp only [ite0, hgi, eqIt, decide_eq_false_iff_not] at q))
 all_goals (try (repeat' first | with_reducible exact obl0 | with_reducible refine obl1 ?_ ?_))
 all_goals (try first | with_reducible exact True.intro | ((first | refine ob_pc hj ?_ | refine ob_pcn hj ?_); (try rw [hj]); first | exact c_st1 _ _ _) | ((first | refine ob_le hj ?_ | refine ob_lei hj ?_ | refine ob_inb hj ?_ | refine ob_pos hj ?_ | refine ob_ne0 hj ?_ | refine ob_eqb hj ?_); (first | rfl | first | omega | (simp only [hj, std]; split <;> omega) | (simp (disch := omega) only [hj, std, cmpI, cmpB, satB, add64, sub64, ite0, pl0, pl2, pl3, sb0, if_true, if_false, eq_self, hec] <;> omega) | (simp (disch := omega) [hj, std, cmpI, cmpB, satB, add64, sub64, ite0, pl0, pl2, pl3, sb0, if_true, if_false, eq_self, hec] <;> omega))) | ((refine ob_ok hj ?_; simp only [hj, std, ite0]; first | exact ⟨_, hg⟩ | exact ⟨_, hg1⟩)) | ((refine upd_none (upd_none (upd_box ?_ (upd_nil _))); exact rfl)) | ((refine r1i ?_; exact i4 (by omega))) | ((refine r1i ?_; exact i5 (by omega) q)) | ((simp (disch := omega) only [hj, std, add64]; first | omega | exact ⟨by omega, by omega, i6 (by omega) q⟩)))
end Go.Proofs.Ytcpcghnpoekhpaa.A
/- Tries: Step, of machines whose edges lead to states. -/
set_option linter.unusedSimpArgs false
set_option linter.unusedVariables false
set_option maxRecDepth 100000
set_option maxHeartbeats 4000000
namespace Go.Proofs.Ytcpcghnpoekhpaa.A
open Go
theorem idxE_facts (n t : Int) : ∀ (l : List Eg) (i : Int), 0 ≤ i → (∀ e ∈ l, 0 ≤ e.2 ∧ e.2 < n) →
  (idxEGo t l i = -1 ∧ goE n t l = -1) ∨ ∃ k : Nat, k < l.length ∧ idxEGo t l i = i + k ∧ goE n t l = (eAt l k).2 ∧ (eAt l k).1 = t := by
 intro l
 induction l with
 | nil => intro i _ _; exact .inl ⟨rfl, rfl⟩
 | cons e l ih =>
  intro i hi hv
  have h0 := hv e (List.mem_cons_self ..)
  by_cases h : e.1 = t
  ·exact .inr ⟨0, by simp, by rw [idxEGo, if_pos h]; simp, by rw [goE, if_pos ⟨h, h0.1, h0.2⟩]; rfl, h⟩
  ·rcases ih (i + 1) (by omega) (fun x hx => hv x (List.mem_cons_of_mem _ hx)) with ⟨q1, q2⟩ | ⟨k, q0, q1, q2, q3⟩
   ·exact .inl ⟨by rw [idxEGo, if_neg h, q1], by rw [goE, if_neg (fun q => h q.1), q2]⟩
   ·exact .inr ⟨k + 1, by simpa using q0, by rw [idxEGo, if_neg h, q1]; push_cast; omega, by rw [goE, if_neg (fun q => h q.1), q2]; rfl, q3⟩
def stepI (m : List Sta) (s t : Int) : Int := if 0 ≤ goM m s t then goM m s t else 0
def stepB (m : List Sta) (s t : Int) : Bool := decide (0 ≤ goM m s t)
theorem rStep_of {m : List Sta} {s t a : Int} {b : Bool} (h1 : stepI m s t = a) (h2 : stepB m s t = b) : rets [(false, [.st (vI (stepI m s t))]), (false, [.st (vB (stepB m s t))])] = ⟨true, [(false, [.st (.val (.int .i64 a))]), (false, [.st (.val (.bool b))])]⟩ := by rw [h1, h2]; rfl
theorem step_no {m : List Sta} {s t : Int} (h : goM m s t = -1) : rets [(false, [.st (vI (stepI m s t))]), (false, [.st (vB (stepB m s t))])] = ⟨true, [(false, [.st (.val (.int .i64 0))]), (false, [.st (.val (.bool false))])]⟩ := rStep_of (by unfold stepI; rw [h, if_neg (by omega)]) (by unfold stepB; rw [h]; exact decide_eq_false (by omega))
theorem step_yes {m : List Sta} {s t a : Int} (h : goM m s t = a) (h0 : 0 ≤ a) : rets [(false, [.st (vI (stepI m s t))]), (false, [.st (vB (stepB m s t))])] = ⟨true, [(false, [.st (.val (.int .i64 a))]), (false, [.st (.val (.bool true))])]⟩ := rStep_of (by unfold stepI; rw [h, if_pos h0]) (by unfold stepB; rw [h]; exact decide_eq_true h0)
set_option cbv.maxSteps 3000000 in
theorem pc_Step (m : List Sta) (s t : Int) (hs : SzM m) (hv : ∀ i, i < m.length → ∀ e ∈ (mAt m i).2, 0 ≤ e.2 ∧ e.2 < m.length) :
  PC Try.prog T 17 [.v false [.sl (nM m) (mC m)], .v false [vI s], .v false [vI t]] (rets [(false, [.st (vI (stepI m s t))]), (false, [.st (vB (stepB m s t))])]) [] := by
 have hn := nM_eq m
 have hc := mC_len m
 have hm1 := hs.1
 have hno : ¬ (0 ≤ s ∧ s < m.length) → goM m s t = -1 := fun h => by unfold goM; rw [if_neg h]
 have hyes : (0 ≤ s ∧ s < m.length) → goM m s t = goE m.length t (mAt m s.toNat).2 ∧ cellAt (mC m) (s.toNat * 2 + 1) = .sl (nE (mAt m s.toNat).2) (eC (mAt m s.toNat).2) ∧ (mAt m s.toNat).2.length ≤ 1000000000 := fun h => ⟨by unfold goM; rw [if_pos h], (mC_at m s.toNat (by omega)).2, hs.at (by omega)⟩
 refine pc_of tok Try.func17 rfl (by rfl) ?_
 obtain ⟨j, hj⟩ : ∃ j : J, j = std Try.prog T := ⟨_, rfl⟩
 have hm : Try.prog.follows .mixedOrders = true := by kernel_rfl
 rcases Decidable.em (0 ≤ s ∧ s < (m.length : Int)) with h | h
 ·obtain ⟨r1, r2, r3⟩ := hyes h
  have hvs := hv s.toNat (by omega)
  have hfa := idxE_facts m.length t (mAt m s.toNat).2 0 (by omega) hvs
  rw [← r1] at hfa
  change (idxE (mAt m s.toNat).2 t = -1 ∧ goM m s t = -1) ∨ ∃ k : Nat, k < (mAt m s.toNat).2.length ∧ idxE (mAt m s.toNat).2 t = 0 + k ∧ goM m s t = (eAt (mAt m s.toNat).2 k).2 ∧ _ at hfa
  generalize (mAt m s.toNat).2 = b at *
  have g1 : gn (cellAt (mC m) (s.toNat * 2 + 1)) = nE b := by rw [r2]; rfl
  have g2 : gc (cellAt (mC m) (s.toNat * 2 + 1)) = eC b := by rw [r2]; rfl
  have hbn := nE_eq b
  have hbc := eC_len b
  have hba := eC_at b
  have ebc := egsOf_eC b
  have hcI : (std Try.prog T).pc 29 [.v false [.sl (gn (cellAt (mC m) (s.toNat * 2 + 1))) (gc (cellAt (mC m) (s.toNat * 2 + 1)))], .clo 30 [2], .virt (.box [.st (vI t)])] (ret1 (.st (vI (idxE (egsOf (gc (cellAt (mC m) (s.toNat * 2 + 1)))) t)))) [.none, .none, .box [.st (vI t)]] := by
   rw [g1, g2, ebc]; exact ⟨enters Try.func29 (by kernel_rfl) (by kernel_rfl), pc_IndexE b t r3⟩
  have eI : idxE (egsOf (gc (cellAt (mC m) (s.toNat * 2 + 1)))) t = idxE b t := by rw [g2, ebc]
  obtain ⟨h1, h2⟩ := h
  clear hno hyes r1
  rcases hfa with ⟨f1, f2⟩ | ⟨k, f0, f1, f2, f3⟩
  ·rw [f1] at eI
   have e5 := True.intro
   generalize y_egsOf : @egsOf = x_egsOf at *
   generalize y_eqIt : @eqIt = x_eqIt at *
   generalize y_idxE : @idxE = x_idxE at *
   generalize y_eC : @eC = x_eC at *
   generalize y_nE : @nE = x_nE at *
   generalize y_mC : @mC = x_mC at *
   generalize y_nM : @nM = x_nM at *
   generalize y_stepI : @stepI = x_stepI at *
   generalize y_stepB : @stepB = x_stepB at *
   (repeat' first | ((first | with_reducible refine tr_cut (fun h => ?_) (fun h => ?_) | refine aw_condj (by cbv) (fun h => ?_) (fun h => ?_)) <;> (try simp (disch := omega) only [hj, std, cmpI, cmpB, satB, Bool.not_eq_true, Bool.not_eq_false, decide_eq_true_eq, decide_eq_false_iff_not, beq_iff_eq, bne_iff_ne, bne_eq_false_iff_eq, beq_eq_false_iff_ne, ne_eq, reduceCtorEq, not_true_eq_false, not_false_eq_true, pl0, if_true, cmpS_eq, cmpS_neq, Bool.not_eq_eq_eq_not, Bool.not_true, Bool.not_false, Bool.not_eq_true', Int.ofNat_eq_natCast, ite0, eI, add64, sub64] at h) <;> (try (exfalso; omega))) | (with_reducible refine tr_alt (fun h => ?_) ?_ <;> (try (exfalso; omega))) | (with_reducible first | refine tr_ob ?_ ?_ | refine tr_done ?_) | (refine aw_tr hj tok (bookSt x_egsOf x_eqIt x_idxE) (by cbv) ?_) | (refine aw_seq fun K hK => ?_) | (refine aw_tr1 hj tok (bookSt x_egsOf x_eqIt x_idxE) (by cbv) ?_) | (refine aw_skip ?_) | (refine aw_block ?_) | (refine aw_exit ?_) | (refine aw_ret ⟨.inr rfl, ret_okj hj (by cbv) ?_ ?_⟩) | (refine aw_ret ?_) | (with_reducible first | refine th_n ?_ | refine th_r ?_ | refine th_x ?_ | refine blk_n ?_ | refine blk_r ?_ | refine blk_x ?_ | refine blk_y rfl ?_) | (refine ⟨.inr rfl, ret_okj hj (by cbv) ?_ ?_⟩) | (refine ⟨.inl rfl, ret_okj hj (by cbv) ?_ ?_⟩) | (with_reducible apply_assumption -symm -exfalso only [*]))
   all_goals ((try subst y_egsOf); (try subst y_eqIt); (try subst y_idxE); (try subst y_eC); (try subst y_nE); (try subst y_mC); (try subst y_nM); (try subst y_stepI); (try subst y_stepB))
   all_goals (try (repeat' first | with_reducible exact obl0 | (with_reducible refine obl1 ?_ ?_)))
   all_goals (try first | with_reducible exact True.intro | ((first | refine ob_le hj ?_ | refine ob_lei hj ?_ | refine ob_inb hj ?_ | refine ob_pos hj ?_ | refine ob_ne0 hj ?_ | refine ob_eqb hj ?_); (first | rfl | first | omega | (simp only [hj, std]; split <;> omega) | (simp (disch := omega) only [hj, std, cmpI, cmpB, satB, add64, sub64, ite0, pl0, pl2, pl3, sb0, if_true, if_false, eq_self, hc] <;> omega) | (simp (disch := omega) [hj, std, cmpI, cmpB, satB, add64, sub64, ite0, pl0, pl2, pl3, sb0, if_true, if_false, eq_self, hc] <;> omega))) | ((refine ob_pc hj ?_; simp only [hj, std, ite0]; exact hcI)) | ((refine ob_ok hj ?_; simp only [hj, std, ite0]; first | exact .inr ⟨_, _, r2⟩ | (rw [g2, eI]; exact ⟨_, e5⟩))) | ((refine ob_inb hj ?_; simp only [hj, std, ite0, g1, eI]; omega)) | ((refine ob_le hj ?_; simp only [hj, std, ite0, g1, g2, eI, hbc, hc]; omega)) | (exact step_no f2) | ((exfalso; omega)))
  ·rw [f1] at eI
   have eI2 : (0 + (k : Int)).toNat = k := by omega
   have e5 : cellAt (eC b) ((0 + (k : Int)).toNat * 2 + 1) = vI (eAt b k).2 := by rw [eI2]; exact (hba k f0).2
   have hr := hvs (eAt b k) (by rw [eAt_get f0]; exact List.getElem_mem f0)
   have e6 : gi (cellAt (gc (cellAt (mC m) (s.toNat * 2 + 1))) ((0 + (k : Int)).toNat * 2 + 1)) = (eAt b k).2 := by rw [g2, e5]; rfl
   generalize (eAt b k).2 = to at *
   generalize y_egsOf : @egsOf = x_egsOf at *
   generalize y_eqIt : @eqIt = x_eqIt at *
   generalize y_idxE : @idxE = x_idxE at *
   generalize y_eC : @eC = x_eC at *
   generalize y_nE : @nE = x_nE at *
   generalize y_mC : @mC = x_mC at *
   generalize y_nM : @nM = x_nM at *
   generalize y_stepI : @stepI = x_stepI at *
   generalize y_stepB : @stepB = x_stepB at *
   (repeat' first | ((first | with_reducible refine tr_cut (fun h => ?_) (fun h => ?_) | refine aw_condj (by cbv) (fun h => ?_) (fun h => ?_)) <;> (try simp (disch := omega) only [hj, std, cmpI, cmpB, satB, Bool.not_eq_true, Bool.not_eq_false, decide_eq_true_eq, decide_eq_false_iff_not, beq_iff_eq, bne_iff_ne, bne_eq_false_iff_eq, beq_eq_false_iff_ne, ne_eq, reduceCtorEq, not_true_eq_false, not_false_eq_true, pl0, if_true, cmpS_eq, cmpS_neq, Bool.not_eq_eq_eq_not, Bool.not_true, Bool.not_false, Bool.not_eq_true', Int.ofNat_eq_natCast, ite0, eI, e6, add64, sub64] at h) <;> (try (exfalso; omega))) | (with_reducible refine tr_alt (fun h => ?_) ?_ <;> (try (exfalso; omega))) | (with_reducible first | refine tr_ob ?_ ?_ | refine tr_done ?_) | (refine aw_tr hj tok (bookSt x_egsOf x_eqIt x_idxE) (by cbv) ?_) | (refine aw_seq fun K hK => ?_) | (refine aw_tr1 hj tok (bookSt x_egsOf x_eqIt x_idxE) (by cbv) ?_) | (refine aw_skip ?_) | (refine aw_block ?_) | (refine aw_exit ?_) | (refine aw_ret ⟨.inr rfl, ret_okj hj (by cbv) ?_ ?_⟩) | (refine aw_ret ?_) | (with_reducible first | refine th_n ?_ | refine th_r ?_ | refine th_x ?_ | refine blk_n ?_ | refine blk_r ?_ | refine blk_x ?_ | refine blk_y rfl ?_) | (refine ⟨.inr rfl, ret_okj hj (by cbv) ?_ ?_⟩) | (refine ⟨.inl rfl, ret_okj hj (by cbv) ?_ ?_⟩) | (with_reducible apply_assumption -symm -exfalso only [*]))
   all_goals ((try subst y_egsOf); (try subst y_eqIt); (try subst y_idxE); (try subst y_eC); (try subst y_nE); (try subst y_mC); (try subst y_nM); (try subst y_stepI); (try subst y_stepB))
   all_goals (try (repeat' first | with_reducible exact obl0 | (with_reducible refine obl1 ?_ ?_)))
   all_goals (try first | with_reducible exact True.intro | ((first | refine ob_le hj ?_ | refine ob_lei hj ?_ | refine ob_inb hj ?_ | refine ob_pos hj ?_ | refine ob_ne0 hj ?_ | refine ob_eqb hj ?_); (first | rfl | first | omega | (simp only [hj, std]; split <;> omega) | (simp (disch := omega) only [hj, std, cmpI, cmpB, satB, add64, sub64, ite0, pl0, pl2, pl3, sb0, if_true, if_false, eq_self, hc] <;> omega) | (simp (disch := omega) [hj, std, cmpI, cmpB, satB, add64, sub64, ite0, pl0, pl2, pl3, sb0, if_true, if_false, eq_self, hc] <;> omega))) | ((refine ob_pc hj ?_; simp only [hj, std, ite0]; exact hcI)) | ((refine ob_ok hj ?_; simp only [hj, std, ite0]; first | exact .inr ⟨_, _, r2⟩ | (simp only [g2, ebc, f1]; exact ⟨_, e5⟩))) | ((refine ob_inb hj ?_; simp only [hj, std, ite0, g1, g2, ebc, f1]; omega)) | ((refine ob_le hj ?_; simp only [hj, std, ite0, g1, g2, ebc, f1, hbc, hc]; omega)) | ((refine step_yes ?_ ?_ <;> (simp only [hj, std, ite0, g2, ebc, f1, e5]; first | exact f2 | exact hr.1))) | ((exfalso; omega)))
 ·have hE := hno h
  clear hno hyes
  generalize y_egsOf : @egsOf = x_egsOf at *
  generalize y_eqIt : @eqIt = x_eqIt at *
  generalize y_idxE : @idxE = x_idxE at *
  generalize y_eC : @eC = x_eC at *
  generalize y_nE : @nE = x_nE at *
  generalize y_mC : @mC = x_mC at *
  generalize y_nM : @nM = x_nM at *
  generalize y_stepI : @stepI = x_stepI at *
  generalize y_stepB : @stepB = x_stepB at *
  (repeat' first | ((first | with_reducible refine tr_cut (fun h => ?_) (fun h => ?_) | refine aw_condj (by cbv) (fun h => ?_) (fun h => ?_)) <;> (try simp (disch := omega) only [hj, std, cmpI, cmpB, satB, Bool.not_eq_true, Bool.not_eq_false, decide_eq_true_eq, decide_eq_false_iff_not, beq_iff_eq, bne_iff_ne, bne_eq_false_iff_eq, beq_eq_false_iff_ne, ne_eq, reduceCtorEq, not_true_eq_false, not_false_eq_true, pl0, if_true, cmpS_eq, cmpS_neq, Bool.not_eq_eq_eq_not, Bool.not_true, Bool.not_false, Bool.not_eq_true', Int.ofNat_eq_natCast, add64, sub64] at h) <;> (try (exfalso; omega))) | (with_reducible refine tr_alt (fun h => ?_) ?_ <;> (try (exfalso; omega))) | (with_reducible first | refine tr_ob ?_ ?_ | refine tr_done ?_) | (refine aw_tr hj tok (bookSt x_egsOf x_eqIt x_idxE) (by cbv) ?_) | (refine aw_seq fun K hK => ?_) | (refine aw_tr1 hj tok (bookSt x_egsOf x_eqIt x_idxE) (by cbv) ?_) | (refine aw_skip ?_) | (refine aw_block ?_) | (refine aw_exit ?_) | (refine aw_ret ⟨.inr rfl, ret_okj hj (by cbv) ?_ ?_⟩) | (refine aw_ret ?_) | (with_reducible first | refine th_n ?_ | refine th_r ?_ | refine th_x ?_ | refine blk_n ?_ | refine blk_r ?_ | refine blk_x ?_ | refine blk_y rfl ?_) | (refine ⟨.inr rfl, ret_okj hj (by cbv) ?_ ?_⟩) | (refine ⟨.inl rfl, ret_okj hj (by cbv) ?_ ?_⟩) | (with_reducible apply_assumption -symm -exfalso only [*]))
  all_goals ((try subst y_egsOf); (try subst y_eqIt); (try subst y_idxE); (try subst y_eC); (try subst y_nE); (try subst y_mC); (try subst y_nM); (try subst y_stepI); (try subst y_stepB))
  all_goals (try (repeat' first | with_reducible exact obl0 | with_reducible refine obl1 ?_ ?_))
  all_goals (try first | with_reducible exact True.intro | ((first | refine ob_le hj ?_ | refine ob_lei hj ?_ | refine ob_inb hj ?_ | refine ob_pos hj ?_ | refine ob_ne0 hj ?_ | refine ob_eqb hj ?_); (first | rfl | first | omega | (simp only [hj, std]; split <;> omega) | (simp (disch := omega) only [hj, std, cmpI, cmpB, satB, add64, sub64, ite0, pl0, pl2, pl3, sb0, if_true, if_false, eq_self, hc] <;> omega) | (simp (disch := omega) [hj, std, cmpI, cmpB, satB, add64, sub64, ite0, pl0, pl2, pl3, sb0, if_true, if_false, eq_self, hc] <;> omega))) | (exact step_no hE))
end Go.Proofs.Ytcpcghnpoekhpaa.A
/- Tries: what a machine tells of a word. -/
set_option linter.unusedSimpArgs false
set_option linter.unusedVariables false
set_option maxRecDepth 100000
set_option maxHeartbeats 4000000
namespace Go.Proofs.Ytcpcghnpoekhpaa.A
open Go
def runW (m : List Sta) (w : ByteArray) : Nat → Int
 | 0 => 0
 | i + 1 => if runW m w i < 0 then -1 else goM m (runW m w i) (bt w i)
def runMw (m : List Sta) (w : ByteArray) : Int := outM m (runW m w w.size)
theorem goE_ge (n t : Int) : ∀ l : List Eg, goE n t l = -1 ∨ (0 ≤ goE n t l ∧ goE n t l < n)
 | [] => .inl rfl
 | e :: l => by
  unfold goE
  split
  ·rename_i h; exact .inr ⟨h.2.1, h.2.2⟩
  ·exact goE_ge n t l
theorem goM_ge (m : List Sta) (s t : Int) : goM m s t = -1 ∨ (0 ≤ goM m s t ∧ goM m s t < m.length) := by
 unfold goM
 split
 ·exact goE_ge _ _ _
 ·exact .inl rfl
theorem runW_neg (m : List Sta) (w : ByteArray) {i : Nat} (h : runW m w i < 0) : ∀ k, runW m w (i + k) < 0
 | 0 => h
 | k + 1 => by
  have := runW_neg m w h k
  show runW m w (i + k + 1) < 0
  unfold runW
  rw [if_pos this]; omega
theorem outM_neg {m : List Sta} {s : Int} (h : s < 0) : outM m s = -1 := by unfold outM; rw [if_neg (by omega)]
theorem runMw_neg (m : List Sta) (w : ByteArray) {i : Nat} (hi : i ≤ w.size) (h : runW m w i < 0) : runMw m w = -1 := by
 unfold runMw
 have := runW_neg m w h (w.size - i)
 rw [show i + (w.size - i) = w.size by omega] at this
 exact outM_neg this
theorem runW_step (m : List Sta) (w : ByteArray) {i : Nat} (h : ¬ runW m w i < 0) : runW m w (i + 1) = goM m (runW m w i) (bt w i) := by
 conv => lhs; unfold runW
 rw [if_neg h]
end Go.Proofs.Ytcpcghnpoekhpaa.A
/- Maps of one's own that give each key of a list its place. -/
set_option linter.unusedSimpArgs false
set_option linter.unusedVariables false
set_option maxRecDepth 100000
set_option maxHeartbeats 4000000
namespace Go.Proofs.Ytcpcghnpoekhpaa.A
open Go
set_option linter.unusedSectionVars false
section
variable {α : Type} [DecidableEq α]
def inL (l : List α) (a : α) : Bool := l.any fun x => decide (x = a)
def ixL (l : List α) (a : α) : Nat := l.findIdx fun x => decide (x = a)
theorem inL_iff {l : List α} {a : α} : inL l a = true ↔ a ∈ l := by unfold inL; simp
theorem ixL_lt {l : List α} {a : α} (h : inL l a = true) : ixL l a < l.length := by
 unfold ixL; exact List.findIdx_lt_length_of_exists (by obtain ⟨x, h1, h2⟩ := List.any_eq_true.1 h; exact ⟨x, h1, h2⟩)
theorem inL_app (l : List α) (a b : α) : inL (l ++ [a]) b = (inL l b || decide (a = b)) := by unfold inL; simp
structure MapA (f : α → Value) (m : GM) (l : List α) : Prop where
 ks : m.ks = l.map f
 vs : m.vs = (List.range l.length).map fun i : Nat => vI i
theorem MapA.new (f : α → Value) : MapA f GM.new [] := ⟨rfl, rfl⟩
variable {f : α → Value} (hf : ∀ a b, keq (f a) (f b) = decide (a = b))
include hf
theorem kidx_map (l : List α) (a : α) : kidx (l.map f) (f a) = if inL l a = true then some (ixL l a) else none := by
 unfold kidx
 have e : (List.findIdx? (keq (f a)) (l.map f)) = l.findIdx? fun x => decide (x = a) := by
  rw [List.findIdx?_map]
  congr 1
  funext x
  show keq (f a) (f x) = _
  rw [hf]
  exact decide_eq_decide.2 eq_comm
 rw [e]
 split
 ·rename_i h
  exact List.findIdx?_eq_some_of_exists (by obtain ⟨x, h1, h2⟩ := List.any_eq_true.1 h; exact ⟨x, h1, h2⟩)
 ·rename_i h
  rw [List.findIdx?_eq_none_iff]
  intro x hx
  exact decide_eq_false fun e => h (inL_iff.2 (e ▸ hx))
theorem MapA.has {m : GM} {l : List α} (h : MapA f m l) (a : α) : mhasC m.ks (f a) = inL l a := by
 unfold mhasC
 rw [h.ks, kidx_map hf]
 cases inL l a <;> rfl
theorem MapA.get {m : GM} {l : List α} (h : MapA f m l) {a : α} (ha : inL l a = true) : mgetC m.ks m.vs (f a) (vI 0) = vI (ixL l a : Nat) := by
 have hl := ixL_lt ha
 unfold mgetC
 rw [h.ks, h.vs, kidx_map hf, if_pos ha]
 show List.getD _ _ _ = _
 rw [List.getD_eq_getElem?_getD, List.getElem?_map, List.getElem?_range hl]; rfl
theorem MapA.add {m : GM} {l : List α} (h : MapA f m l) {a : α} (ha : inL l a = false) {n : Int} (hn : n = l.length) : MapA f (m.set (f a) (vI n)) (l ++ [a]) := by
 have hk : kidx m.ks (f a) = none := by rw [h.ks, kidx_map hf, ha]; rfl
 have e : m.set (f a) (vI n) = m.put (f a) (vI n) := by unfold GM.set; rw [hk]
 rw [e]
 refine ⟨?_, ?_⟩
 ·show m.ks ++ [f a] = _
  rw [h.ks]; simp
 ·show m.vs ++ [vI n] = _
  rw [h.vs, List.length_append, List.length_singleton, List.range_succ, List.map_append, hn]; rfl
omit hf in
theorem MapA.len {m : GM} {l : List α} (h : MapA f m l) : m.ks.length = l.length := by rw [h.ks, List.length_map]
end
end Go.Proofs.Ytcpcghnpoekhpaa.A
/- Tries: the reference's Ordered (as9 in Mi9). -/
set_option linter.unusedSimpArgs false
set_option linter.unusedVariables false
set_option maxRecDepth 100000
set_option maxHeartbeats 4000000
namespace Go.Proofs.Ytcpcghnpoekhpaa.A
open Go
/-! ### Ordered -/
def ordE : Int → List Eg → Option Int
 | nx, [] => some nx
 | nx, e :: l => if nx < e.2 then none else ordE (if e.2 = nx then nx + 1 else nx) l
def ordG : Int → Int → List Sta → Bool
 | _, _, [] => true
 | i, nx, s :: l => if 0 < i ∧ nx ≤ i then false else match ordE nx s.2 with
  | none => false
  | some nx' => ordG (i + 1) nx' l
def orderedR (m : List Sta) : Bool := ordG 0 1 m
theorem pc_Ordered (m : List Sta) (hm : m.length ≤ 1000) (hz : ∀ k, k < m.length → (mAt m k).2.length ≤ 1000) : PC Try.prog T 11 [.v false [.sl (nM m) (mC m)]] (ret1 (.st (vB (orderedR m)))) [] := by
 have hn := nM_eq m
 have hc := mC_len m
 have ha := mC_at m
 have hd := @drop_st m
 have hr0 : orderedR m = ordG 0 1 m := rfl
 generalize orderedR m = R at hr0
 refine pc_of tok Try.func11 rfl (by rfl) ?_
 obtain ⟨j, hj⟩ : ∃ j : J, j = std Try.prog T := ⟨_, rfl⟩
 have hm : Try.prog.follows .mixedOrders = true := by kernel_rfl
 generalize y_ordG : @ordG = x_ordG at *
 generalize y_eC : @eC = x_eC at *
 generalize y_nE : @nE = x_nE at *
 generalize y_mC : @mC = x_mC at *
 generalize y_nM : @nM = x_nM at *
 (repeat' first | ((first | with_reducible refine tr_cut (fun h => ?_) (fun h => ?_) | refine aw_condj (by cbv) (fun h => ?_) (fun h => ?_)) <;> (try simp (disch := omega) only [hj, std, cmpI, cmpB, satB, Bool.not_eq_true, Bool.not_eq_false, decide_eq_true_eq, decide_eq_false_iff_not, beq_iff_eq, bne_iff_ne, bne_eq_false_iff_eq, beq_eq_false_iff_ne, ne_eq, reduceCtorEq, not_true_eq_false, not_false_eq_true, pl0, if_true, cmpS_eq, cmpS_neq, Bool.not_eq_eq_eq_not, Bool.not_true, Bool.not_false, Bool.not_eq_true', add64, sub64] at h) <;> (try (exfalso; omega))) | (with_reducible refine tr_alt (fun h => ?_) ?_ <;> (try (exfalso; omega))) | (with_reducible first | refine tr_ob ?_ ?_ | refine tr_done ?_) | (refine aw_tr hj tok book0 (by cbv) ?_) | (refine aw_seq fun K hK => ?_) | (refine aw_tr1 hj tok book0 (by cbv) ?_) | (refine aw_skip ?_) | (refine aw_block ?_) | (refine aw_exit ?_) | (refine aw_ret ⟨.inr rfl, ret_okj hj (by cbv) ?_ ?_⟩) | (refine aw_ret ?_) | (with_reducible first | refine th_n ?_ | refine th_r ?_ | refine th_x ?_ | refine blk_n ?_ | refine blk_r ?_ | refine blk_x ?_ | refine blk_y rfl ?_) | (refine ⟨.inr rfl, ret_okj hj (by cbv) ?_ ?_⟩) | (refine ⟨.inl rfl, ret_okj hj (by cbv) ?_ ?_⟩) | (with_reducible first | refine ⟨(_, _), by cbv, ?_, ?_⟩ | refine ⟨_, by cbv, ?_, ?_⟩) | (with_reducible apply_assumption -symm -exfalso only [*]))
 all_goals ((try subst y_ordG); (try subst y_eC); (try subst y_nE); (try subst y_mC); (try subst y_nM))
 all_goals (try (repeat' first | with_reducible exact obl0 | (with_reducible refine obl1 ?_ ?_)))
 all_goals (try first | with_reducible exact True.intro | ((first | refine ob_le hj ?_ | refine ob_lei hj ?_ | refine ob_inb hj ?_ | refine ob_pos hj ?_ | refine ob_ne0 hj ?_ | refine ob_eqb hj ?_); (first | rfl | first | omega | (simp only [hj, std]; split <;> omega) | (simp (disch := omega) only [hj, std, cmpI, cmpB, satB, add64, sub64, ite0, pl0, pl2, pl3, sb0, if_true, if_false, eq_self] <;> omega) | (simp (disch := omega) [hj, std, cmpI, cmpB, satB, add64, sub64, ite0, pl0, pl2, pl3, sb0, if_true, if_false, eq_self] <;> omega))))
 refine aw_lpj hj [(0, .keep), (3, .keep), (4, .keep)] [] (fun (⟨i, nx⟩ : Int × Int) => stOf 53 [(0, .one (.c (.sl (nM m) (mC m)))), (3, .one (.c (vI nx))), (4, .one (.c (vI i)))] []) (fun (⟨i, nx⟩ : Int × Int) => nM m - i.toNat) (fun (⟨i, nx⟩ : Int × Int) => 0 ≤ i ∧ i ≤ nM m ∧ 1 ≤ nx ∧ nx ≤ 1 + i * 1000 ∧ R = ordG i nx (m.drop i.toNat)) ((0, 1)) (by generalize @ordG = x_ordG; generalize @eC = x_eC; generalize @nE = x_nE; generalize @mC = x_mC; generalize @nM = x_nM; cbv) ?_ (fun ⟨i, nx⟩ hI => ?_)
 ·exact ⟨by omega, by omega, by omega, by omega, hr0⟩
 obtain ⟨i1, i2, x1, x2, hI⟩ := hI
 rcases Decidable.em (i < (nM m : Int)) with hi | hi
 ·obtain ⟨c0, c1⟩ := ha i.toNat (by omega)
  have hz := hz i.toNat (by omega)
  have f1 : (i + 1).toNat = i.toNat + 1 := by omega
  rw [hd (k := i.toNat) (by omega), ← f1] at hI
  have g1 : gn (cellAt (mC m) (i.toNat * 2 + 1)) = nE (mAt m i.toNat).2 := by rw [c1]; rfl
  have g2 : gc (cellAt (mC m) (i.toNat * 2 + 1)) = eC (mAt m i.toNat).2 := by rw [c1]; rfl
  have hI2 : R = if 0 < i ∧ nx ≤ i then false else match ordE nx (mAt m i.toNat).2 with
   | none => false
   | some nx' => ordG (i + 1) nx' (m.drop (i + 1).toNat) := hI
  generalize (mAt m i.toNat).2 = b at *
  have hbn := nE_eq b
  have hbc := eC_len b
  have hba := eC_at b
  have hbd := @drop_eg b
  have hno : 0 < i ∧ nx ≤ i → R = false := fun h => by rw [hI2, if_pos h]
  have hgo : ¬ (0 < i ∧ nx ≤ i) → R = match ordE nx b with
   | none => false
   | some nx' => ordG (i + 1) nx' (m.drop (i + 1).toNat) := fun h => by rw [hI2, if_neg h]
  clear hI hI2 ha hd
  rcases Decidable.em (0 < i ∧ nx ≤ i) with hq | hq
  ·have hE := hno hq
   clear hno hgo
   generalize y_ordG : @ordG = x_ordG at *
   generalize y_eC : @eC = x_eC at *
   generalize y_nE : @nE = x_nE at *
   generalize y_mC : @mC = x_mC at *
   generalize y_nM : @nM = x_nM at *
   (repeat' first | ((first | with_reducible refine tr_cut (fun h => ?_) (fun h => ?_) | refine aw_condj (by cbv) (fun h => ?_) (fun h => ?_)) <;> (try simp (disch := omega) only [hj, std, cmpI, cmpB, satB, Bool.not_eq_true, Bool.not_eq_false, decide_eq_true_eq, decide_eq_false_iff_not, beq_iff_eq, bne_iff_ne, bne_eq_false_iff_eq, beq_eq_false_iff_ne, ne_eq, reduceCtorEq, not_true_eq_false, not_false_eq_true, pl0, if_true, cmpS_eq, cmpS_neq, Bool.not_eq_eq_eq_not, Bool.not_true, Bool.not_false, Bool.not_eq_true', Int.ofNat_eq_natCast, add64, sub64] at h) <;> (try (exfalso; omega))) | (with_reducible refine tr_alt (fun h => ?_) ?_ <;> (try (exfalso; omega))) | (with_reducible first | refine tr_ob ?_ ?_ | refine tr_done ?_) | (refine aw_tr hj tok book0 (by cbv) ?_) | (refine aw_seq fun K hK => ?_) | (refine aw_tr1 hj tok book0 (by cbv) ?_) | (refine aw_skip ?_) | (refine aw_block ?_) | (refine aw_exit ?_) | (refine aw_ret ⟨.inr rfl, ret_okj hj (by cbv) ?_ ?_⟩) | (refine aw_ret ?_) | (with_reducible first | refine th_n ?_ | refine th_r ?_ | refine th_x ?_ | refine blk_n ?_ | refine blk_r ?_ | refine blk_x ?_ | refine blk_y rfl ?_) | (refine ⟨.inr rfl, ret_okj hj (by cbv) ?_ ?_⟩) | (refine ⟨.inl rfl, ret_okj hj (by cbv) ?_ ?_⟩) | (with_reducible first | refine ⟨(_, _), by cbv, ?_, ?_⟩ | refine ⟨_, by cbv, ?_, ?_⟩) | (with_reducible apply_assumption -symm -exfalso only [*]))
   all_goals ((try subst y_ordG); (try subst y_eC); (try subst y_nE); (try subst y_mC); (try subst y_nM))
   all_goals (try (repeat' first | with_reducible exact obl0 | (with_reducible refine obl1 ?_ ?_)))
   all_goals (try first | with_reducible exact True.intro | ((first | refine ob_le hj ?_ | refine ob_lei hj ?_ | refine ob_inb hj ?_ | refine ob_pos hj ?_ | refine ob_ne0 hj ?_ | refine ob_eqb hj ?_); (first | rfl | first | omega | (simp only [hj, std]; split <;> omega) | (simp (disch := omega) only [hj, std, cmpI, cmpB, satB, add64, sub64, ite0, pl0, pl2, pl3, sb0, if_true, if_false, eq_self] <;> omega) | (simp (disch := omega) [hj, std, cmpI, cmpB, satB, add64, sub64, ite0, pl0, pl2, pl3, sb0, if_true, if_false, eq_self] <;> omega))) | ((rw [hE]; exact rfl)))
  have hgo := hgo hq
  clear hno
  generalize y_ordG : @ordG = x_ordG at *
  generalize y_eC : @eC = x_eC at *
  generalize y_nE : @nE = x_nE at *
  generalize y_mC : @mC = x_mC at *
  generalize y_nM : @nM = x_nM at *
  (repeat' first | (with_reducible first | refine aw_stop (id := 7) ?_ | refine aw_stop1 (id := 7) ?_ | refine aw_stop2 (id := 7) ?_) | ((first | with_reducible refine tr_cut (fun h => ?_) (fun h => ?_) | refine aw_condj (by cbv) (fun h => ?_) (fun h => ?_)) <;> (try simp (disch := omega) only [hj, std, cmpI, cmpB, satB, Bool.not_eq_true, Bool.not_eq_false, decide_eq_true_eq, decide_eq_false_iff_not, beq_iff_eq, bne_iff_ne, bne_eq_false_iff_eq, beq_eq_false_iff_ne, ne_eq, reduceCtorEq, not_true_eq_false, not_false_eq_true, pl0, if_true, cmpS_eq, cmpS_neq, Bool.not_eq_eq_eq_not, Bool.not_true, Bool.not_false, Bool.not_eq_true', Int.ofNat_eq_natCast, add64, sub64] at h) <;> (try (exfalso; omega))) | (with_reducible refine tr_alt (fun h => ?_) ?_ <;> (try (exfalso; omega))) | (with_reducible first | refine tr_ob ?_ ?_ | refine tr_done ?_) | (refine aw_tr hj tok book0 (by cbv) ?_) | (refine aw_seq fun K hK => ?_) | (refine aw_tr1 hj tok book0 (by cbv) ?_) | (refine aw_skip ?_) | (refine aw_block ?_) | (refine aw_exit ?_) | (refine aw_ret ⟨.inr rfl, ret_okj hj (by cbv) ?_ ?_⟩) | (refine aw_ret ?_) | (with_reducible first | refine th_n ?_ | refine th_r ?_ | refine th_x ?_ | refine blk_n ?_ | refine blk_r ?_ | refine blk_x ?_ | refine blk_y rfl ?_) | (refine ⟨.inr rfl, ret_okj hj (by cbv) ?_ ?_⟩) | (refine ⟨.inl rfl, ret_okj hj (by cbv) ?_ ?_⟩) | (with_reducible first | refine ⟨(_, _), by cbv, ?_, ?_⟩ | refine ⟨_, by cbv, ?_, ?_⟩) | (with_reducible apply_assumption -symm -exfalso only [*]))
  all_goals ((try subst y_ordG); (try subst y_eC); (try subst y_nE); (try subst y_mC); (try subst y_nM))
  all_goals (try (repeat' first | with_reducible exact obl0 | (with_reducible refine obl1 ?_ ?_)))
  all_goals (try first | with_reducible exact True.intro | ((first | refine ob_le hj ?_ | refine ob_lei hj ?_ | refine ob_inb hj ?_ | refine ob_pos hj ?_ | refine ob_ne0 hj ?_ | refine ob_eqb hj ?_); (first | rfl | first | omega | (simp only [hj, std]; split <;> omega) | (simp (disch := omega) only [hj, std, cmpI, cmpB, satB, add64, sub64, ite0, pl0, pl2, pl3, sb0, if_true, if_false, eq_self] <;> omega) | (simp (disch := omega) [hj, std, cmpI, cmpB, satB, add64, sub64, ite0, pl0, pl2, pl3, sb0, if_true, if_false, eq_self] <;> omega))))
  refine stop_go ?_; refine aw_joinj hj [(0, .keep), (3, .keep), (4, .keep)] [] (fun (z : Int) => stOf 53 [(0, .one (.c (.sl (nM m) (mC m)))), (3, .one (.c (vI z))), (4, .one (.c (vI i)))] []) (fun (z : Int) => nx = z) ?_ (fun z hI => ?_)
  ·generalize y_ordG : @ordG = x_ordG at *
   generalize y_eC : @eC = x_eC at *
   generalize y_nE : @nE = x_nE at *
   generalize y_mC : @mC = x_mC at *
   generalize y_nM : @nM = x_nM at *
   (repeat' first | ((first | with_reducible refine tr_cut (fun h => ?_) (fun h => ?_) | refine aw_condj (by cbv) (fun h => ?_) (fun h => ?_)) <;> (try simp (disch := omega) only [hj, std, cmpI, cmpB, satB, Bool.not_eq_true, Bool.not_eq_false, decide_eq_true_eq, decide_eq_false_iff_not, beq_iff_eq, bne_iff_ne, bne_eq_false_iff_eq, beq_eq_false_iff_ne, ne_eq, reduceCtorEq, not_true_eq_false, not_false_eq_true, pl0, if_true, cmpS_eq, cmpS_neq, Bool.not_eq_eq_eq_not, Bool.not_true, Bool.not_false, Bool.not_eq_true', Int.ofNat_eq_natCast, add64, sub64] at h) <;> (try (exfalso; omega))) | (with_reducible refine tr_alt (fun h => ?_) ?_ <;> (try (exfalso; omega))) | (with_reducible first | refine tr_ob ?_ ?_ | refine tr_done ?_) | (refine aw_tr hj tok book0 (by cbv) ?_) | (refine aw_seq fun K hK => ?_) | (refine aw_tr1 hj tok book0 (by cbv) ?_) | (refine aw_skip ?_) | (refine aw_block ?_) | (refine aw_exit ?_) | (refine aw_ret ⟨.inr rfl, ret_okj hj (by cbv) ?_ ?_⟩) | (refine aw_ret ?_) | (with_reducible first | refine th_n ?_ | refine th_r ?_ | refine th_x ?_ | refine blk_n ?_ | refine blk_r ?_ | refine blk_x ?_ | refine blk_y rfl ?_) | (refine ⟨.inr rfl, ret_okj hj (by cbv) ?_ ?_⟩) | (refine ⟨.inl rfl, ret_okj hj (by cbv) ?_ ?_⟩) | (with_reducible first | refine ⟨(_, _), by cbv, ?_, ?_⟩ | refine ⟨_, by cbv, ?_, ?_⟩) | (with_reducible apply_assumption -symm -exfalso only [*]))
   all_goals ((try subst y_ordG); (try subst y_eC); (try subst y_nE); (try subst y_mC); (try subst y_nM))
   all_goals (try (repeat' first | with_reducible exact obl0 | (with_reducible refine obl1 ?_ ?_)))
   all_goals (try first | with_reducible exact True.intro | ((first | refine ob_le hj ?_ | refine ob_lei hj ?_ | refine ob_inb hj ?_ | refine ob_pos hj ?_ | refine ob_ne0 hj ?_ | refine ob_eqb hj ?_); (first | rfl | first | omega | (simp only [hj, std]; split <;> omega) | (simp (disch := omega) only [hj, std, cmpI, cmpB, satB, add64, sub64, ite0, pl0, pl2, pl3, sb0, if_true, if_false, eq_self] <;> omega) | (simp (disch := omega) [hj, std, cmpI, cmpB, satB, add64, sub64, ite0, pl0, pl2, pl3, sb0, if_true, if_false, eq_self] <;> omega))) | (exact rfl))
  subst hI
  generalize y_ordG : @ordG = x_ordG at *
  generalize y_eC : @eC = x_eC at *
  generalize y_nE : @nE = x_nE at *
  generalize y_mC : @mC = x_mC at *
  generalize y_nM : @nM = x_nM at *
  (repeat' first | ((first | with_reducible refine tr_cut (fun h => ?_) (fun h => ?_) | refine aw_condj (by cbv) (fun h => ?_) (fun h => ?_)) <;> (try simp (disch := omega) only [hj, std, cmpI, cmpB, satB, Bool.not_eq_true, Bool.not_eq_false, decide_eq_true_eq, decide_eq_false_iff_not, beq_iff_eq, bne_iff_ne, bne_eq_false_iff_eq, beq_eq_false_iff_ne, ne_eq, reduceCtorEq, not_true_eq_false, not_false_eq_true, pl0, if_true, cmpS_eq, cmpS_neq, Bool.not_eq_eq_eq_not, Bool.not_true, Bool.not_false, Bool.not_eq_true', Int.ofNat_eq_natCast, add64, sub64] at h) <;> (try (exfalso; omega))) | (with_reducible refine tr_alt (fun h => ?_) ?_ <;> (try (exfalso; omega))) | (with_reducible first | refine tr_ob ?_ ?_ | refine tr_done ?_) | (refine aw_tr hj tok book0 (by cbv) ?_) | (refine aw_seq fun K hK => ?_) | (refine aw_tr1 hj tok book0 (by cbv) ?_) | (refine aw_skip ?_) | (refine aw_block ?_) | (refine aw_exit ?_) | (refine aw_ret ⟨.inr rfl, ret_okj hj (by cbv) ?_ ?_⟩) | (refine aw_ret ?_) | (with_reducible first | refine th_n ?_ | refine th_r ?_ | refine th_x ?_ | refine blk_n ?_ | refine blk_r ?_ | refine blk_x ?_ | refine blk_y rfl ?_) | (refine ⟨.inr rfl, ret_okj hj (by cbv) ?_ ?_⟩) | (refine ⟨.inl rfl, ret_okj hj (by cbv) ?_ ?_⟩) | (with_reducible first | refine ⟨(_, _), by cbv, ?_, ?_⟩ | refine ⟨_, by cbv, ?_, ?_⟩) | (with_reducible apply_assumption -symm -exfalso only [*]))
  all_goals ((try subst y_ordG); (try subst y_eC); (try subst y_nE); (try subst y_mC); (try subst y_nM))
  all_goals (try (repeat' first | with_reducible exact obl0 | (with_reducible refine obl1 ?_ ?_)))
  all_goals (try first | with_reducible exact True.intro | ((first | refine ob_le hj ?_ | refine ob_lei hj ?_ | refine ob_inb hj ?_ | refine ob_pos hj ?_ | refine ob_ne0 hj ?_ | refine ob_eqb hj ?_); (first | rfl | first | omega | (simp only [hj, std]; split <;> omega) | (simp (disch := omega) only [hj, std, cmpI, cmpB, satB, add64, sub64, ite0, pl0, pl2, pl3, sb0, if_true, if_false, eq_self] <;> omega) | (simp (disch := omega) [hj, std, cmpI, cmpB, satB, add64, sub64, ite0, pl0, pl2, pl3, sb0, if_true, if_false, eq_self] <;> omega))))
  refine aw_lpj hj [(0, .keep), (3, .keep), (4, .keep), (5, .keep)] [] (fun (⟨k, ny⟩ : Int × Int) => stOf 53 [(0, .one (.c (.sl (nM m) (mC m)))), (3, .one (.c (vI ny))), (4, .one (.c (vI i))), (5, .one (.c (vI k)))] []) (fun (⟨k, ny⟩ : Int × Int) => nE b - k.toNat) (fun (⟨k, ny⟩ : Int × Int) => 0 ≤ k ∧ k ≤ nE b ∧ 1 ≤ ny ∧ ny ≤ 1 + i * 1000 + k ∧ R = (match ordE ny (b.drop k.toNat) with | none => false | some nx' => ordG (i + 1) nx' (m.drop (i + 1).toNat))) ((0, nx)) (by generalize @ordG = x_ordG; generalize @eC = x_eC; generalize @nE = x_nE; generalize @mC = x_mC; generalize @nM = x_nM; cbv) ?_ (fun ⟨k, ny⟩ hI => ?_)
  ·exact ⟨by omega, by omega, by omega, by omega, hgo⟩
  obtain ⟨k1, k2, y1, y2, hK9⟩ := hI
  rcases Decidable.em (k < (nE b : Int)) with hk | hk
  ·obtain ⟨d0, d1⟩ := hba k.toNat (by omega)
   have f2 : (k + 1).toNat = k.toNat + 1 := by omega
   rw [hbd (k := k.toNat) (by omega), ← f2] at hK9
   have u1 : gi (cellAt (eC b) (k.toNat * 2 + 1)) = (eAt b k.toNat).2 := by rw [d1]; rfl
   have hK2 : R = (match (if ny < (eAt b k.toNat).2 then none else ordE (if (eAt b k.toNat).2 = ny then ny + 1 else ny) (b.drop (k + 1).toNat)) with | none => false | some nx' => ordG (i + 1) nx' (m.drop (i + 1).toNat)) := hK9
   generalize (eAt b k.toNat).2 = t at *
   have hn1 : ny < t → R = false := fun h => by rw [hK2, if_pos h]
   have hn2 : t = ny → R = (match ordE (ny + 1) (b.drop (k + 1).toNat) with | none => false | some nx' => ordG (i + 1) nx' (m.drop (i + 1).toNat)) := fun h => by rw [hK2, if_neg (by omega), if_pos h]
   have hn3 : t < ny → R = (match ordE ny (b.drop (k + 1).toNat) with | none => false | some nx' => ordG (i + 1) nx' (m.drop (i + 1).toNat)) := fun h => by rw [hK2, if_neg (by omega), if_neg (by omega)]
   clear hK9 hK2 hba hbd hgo
   generalize y_ordG : @ordG = x_ordG at *
   generalize y_eC : @eC = x_eC at *
   generalize y_nE : @nE = x_nE at *
   generalize y_mC : @mC = x_mC at *
   generalize y_nM : @nM = x_nM at *
   (repeat' first | ((first | with_reducible refine tr_cut (fun h => ?_) (fun h => ?_) | refine aw_condj (by cbv) (fun h => ?_) (fun h => ?_)) <;> (try simp (disch := omega) only [hj, std, cmpI, cmpB, satB, Bool.not_eq_true, Bool.not_eq_false, decide_eq_true_eq, decide_eq_false_iff_not, beq_iff_eq, bne_iff_ne, bne_eq_false_iff_eq, beq_eq_false_iff_ne, ne_eq, reduceCtorEq, not_true_eq_false, not_false_eq_true, pl0, if_true, cmpS_eq, cmpS_neq, Bool.not_eq_eq_eq_not, Bool.not_true, Bool.not_false, Bool.not_eq_true', g1, g2, u1, ite0, Int.ofNat_eq_natCast, add64, sub64] at h) <;> (try (exfalso; omega))) | (with_reducible refine tr_alt (fun h => ?_) ?_ <;> (try (exfalso; omega))) | (with_reducible first | refine tr_ob ?_ ?_ | refine tr_done ?_) | (refine aw_tr hj tok book0 (by cbv) ?_) | (refine aw_seq fun K hK => ?_) | (refine aw_tr1 hj tok book0 (by cbv) ?_) | (refine aw_skip ?_) | (refine aw_block ?_) | (refine aw_exit ?_) | (refine aw_ret ⟨.inr rfl, ret_okj hj (by cbv) ?_ ?_⟩) | (refine aw_ret ?_) | (with_reducible first | refine th_n ?_ | refine th_r ?_ | refine th_x ?_ | refine blk_n ?_ | refine blk_r ?_ | refine blk_x ?_ | refine blk_y rfl ?_) | (refine ⟨.inr rfl, ret_okj hj (by cbv) ?_ ?_⟩) | (refine ⟨.inl rfl, ret_okj hj (by cbv) ?_ ?_⟩) | (with_reducible first | refine ⟨(_, _), by cbv, ?_, ?_⟩ | refine ⟨_, by cbv, ?_, ?_⟩) | (with_reducible apply_assumption -symm -exfalso only [*]))
   all_goals ((try subst y_ordG); (try subst y_eC); (try subst y_nE); (try subst y_mC); (try subst y_nM))
   all_goals (try (repeat' first | with_reducible exact obl0 | (with_reducible refine obl1 ?_ ?_)))
   all_goals (try first | with_reducible exact True.intro | ((first | refine ob_le hj ?_ | refine ob_lei hj ?_ | refine ob_inb hj ?_ | refine ob_pos hj ?_ | refine ob_ne0 hj ?_ | refine ob_eqb hj ?_); (first | rfl | first | omega | (simp only [hj, std]; split <;> omega) | (simp (disch := omega) only [hj, std, cmpI, cmpB, satB, add64, sub64, ite0, pl0, pl2, pl3, sb0, if_true, if_false, eq_self, hc, hbc, g1, g2, u1] <;> omega) | (simp (disch := omega) [hj, std, cmpI, cmpB, satB, add64, sub64, ite0, pl0, pl2, pl3, sb0, if_true, if_false, eq_self, hc, hbc, g1, g2, u1] <;> omega))) | ((refine ob_ok hj ?_; simp only [hj, std, ite0, g1, g2]; first | exact .inr ⟨_, _, c1⟩ | exact ⟨_, d1⟩)) | ((rw [hn1 (by omega)]; exact rfl)) | ((simp (disch := omega) only [hj, std, add64, ite0]; first | omega | exact ⟨by omega, by omega, by omega, by omega, hn2 (by omega)⟩ | exact ⟨by omega, by omega, by omega, by omega, hn3 (by omega)⟩)))
  ·have e : k.toNat = b.length := by omega
   rw [e, List.drop_length] at hK9
   have hE : R = ordG (i + 1) ny (m.drop (i + 1).toNat) := hK9
   generalize y_ordG : @ordG = x_ordG at *
   generalize y_eC : @eC = x_eC at *
   generalize y_nE : @nE = x_nE at *
   generalize y_mC : @mC = x_mC at *
   generalize y_nM : @nM = x_nM at *
   (repeat' first | ((first | with_reducible refine tr_cut (fun h => ?_) (fun h => ?_) | refine aw_condj (by cbv) (fun h => ?_) (fun h => ?_)) <;> (try simp (disch := omega) only [hj, std, cmpI, cmpB, satB, Bool.not_eq_true, Bool.not_eq_false, decide_eq_true_eq, decide_eq_false_iff_not, beq_iff_eq, bne_iff_ne, bne_eq_false_iff_eq, beq_eq_false_iff_ne, ne_eq, reduceCtorEq, not_true_eq_false, not_false_eq_true, pl0, if_true, cmpS_eq, cmpS_neq, Bool.not_eq_eq_eq_not, Bool.not_true, Bool.not_false, Bool.not_eq_true', g1, ite0, Int.ofNat_eq_natCast, add64, sub64] at h) <;> (try (exfalso; omega))) | (with_reducible refine tr_alt (fun h => ?_) ?_ <;> (try (exfalso; omega))) | (with_reducible first | refine tr_ob ?_ ?_ | refine tr_done ?_) | (refine aw_tr hj tok book0 (by cbv) ?_) | (refine aw_seq fun K hK => ?_) | (refine aw_tr1 hj tok book0 (by cbv) ?_) | (refine aw_skip ?_) | (refine aw_block ?_) | (refine aw_exit ?_) | (refine aw_ret ⟨.inr rfl, ret_okj hj (by cbv) ?_ ?_⟩) | (refine aw_ret ?_) | (with_reducible first | refine th_n ?_ | refine th_r ?_ | refine th_x ?_ | refine blk_n ?_ | refine blk_r ?_ | refine blk_x ?_ | refine blk_y rfl ?_) | (refine ⟨.inr rfl, ret_okj hj (by cbv) ?_ ?_⟩) | (refine ⟨.inl rfl, ret_okj hj (by cbv) ?_ ?_⟩) | (with_reducible first | refine ⟨(_, _), by cbv, ?_, ?_⟩ | refine ⟨_, by cbv, ?_, ?_⟩) | (with_reducible apply_assumption -symm -exfalso only [*]))
   all_goals ((try subst y_ordG); (try subst y_eC); (try subst y_nE); (try subst y_mC); (try subst y_nM))
   all_goals (try (repeat' first | with_reducible exact obl0 | (with_reducible refine obl1 ?_ ?_)))
   all_goals (try first | with_reducible exact True.intro | ((first | refine ob_le hj ?_ | refine ob_lei hj ?_ | refine ob_inb hj ?_ | refine ob_pos hj ?_ | refine ob_ne0 hj ?_ | refine ob_eqb hj ?_); (first | rfl | first | omega | (simp only [hj, std]; split <;> omega) | (simp (disch := omega) only [hj, std, cmpI, cmpB, satB, add64, sub64, ite0, pl0, pl2, pl3, sb0, if_true, if_false, eq_self, hc, g1] <;> omega) | (simp (disch := omega) [hj, std, cmpI, cmpB, satB, add64, sub64, ite0, pl0, pl2, pl3, sb0, if_true, if_false, eq_self, hc, g1] <;> omega))) | ((refine ob_ok hj ?_; simp only [hj, std, ite0, g1]; exact .inr ⟨_, _, c1⟩)) | ((simp (disch := omega) only [hj, std, add64, ite0]; first | omega | exact ⟨by omega, by omega, by omega, by omega, hE⟩)))
 ·have e : i.toNat = m.length := by omega
  rw [e, List.drop_length] at hI
  have hE : R = true := hI
  generalize y_ordG : @ordG = x_ordG at *
  generalize y_eC : @eC = x_eC at *
  generalize y_nE : @nE = x_nE at *
  generalize y_mC : @mC = x_mC at *
  generalize y_nM : @nM = x_nM at *
  (repeat' first | ((first | with_reducible refine tr_cut (fun h => ?_) (fun h => ?_) | refine aw_condj (by cbv) (fun h => ?_) (fun h => ?_)) <;> (try simp (disch := omega) only [hj, std, cmpI, cmpB, satB, Bool.not_eq_true, Bool.not_eq_false, decide_eq_true_eq, decide_eq_false_iff_not, beq_iff_eq, bne_iff_ne, bne_eq_false_iff_eq, beq_eq_false_iff_ne, ne_eq, reduceCtorEq, not_true_eq_false, not_false_eq_true, pl0, if_true, cmpS_eq, cmpS_neq, Bool.not_eq_eq_eq_not, Bool.not_true, Bool.not_false, Bool.not_eq_true', add64, sub64] at h) <;> (try (exfalso; omega))) | (with_reducible refine tr_alt (fun h => ?_) ?_ <;> (try (exfalso; omega))) | (with_reducible first | refine tr_ob ?_ ?_ | refine tr_done ?_) | (refine aw_tr hj tok book0 (by cbv) ?_) | (refine aw_seq fun K hK => ?_) | (refine aw_tr1 hj tok book0 (by cbv) ?_) | (refine aw_skip ?_) | (refine aw_block ?_) | (refine aw_exit ?_) | (refine aw_ret ⟨.inr rfl, ret_okj hj (by cbv) ?_ ?_⟩) | (refine aw_ret ?_) | (with_reducible first | refine th_n ?_ | refine th_r ?_ | refine th_x ?_ | refine blk_n ?_ | refine blk_r ?_ | refine blk_x ?_ | refine blk_y rfl ?_) | (refine ⟨.inr rfl, ret_okj hj (by cbv) ?_ ?_⟩) | (refine ⟨.inl rfl, ret_okj hj (by cbv) ?_ ?_⟩) | (with_reducible first | refine ⟨(_, _), by cbv, ?_, ?_⟩ | refine ⟨_, by cbv, ?_, ?_⟩) | (with_reducible apply_assumption -symm -exfalso only [*]))
  all_goals ((try subst y_ordG); (try subst y_eC); (try subst y_nE); (try subst y_mC); (try subst y_nM))
  all_goals (try (repeat' first | with_reducible exact obl0 | with_reducible refine obl1 ?_ ?_))
  all_goals (try first | with_reducible exact True.intro | ((first | refine ob_le hj ?_ | refine ob_lei hj ?_ | refine ob_inb hj ?_ | refine ob_pos hj ?_ | refine ob_ne0 hj ?_ | refine ob_eqb hj ?_); (first | rfl | first | omega | (simp only [hj, std]; split <;> omega) | (simp (disch := omega) only [hj, std, cmpI, cmpB, satB, add64, sub64, ite0, pl0, pl2, pl3, sb0, if_true, if_false, eq_self] <;> omega) | (simp (disch := omega) [hj, std, cmpI, cmpB, satB, add64, sub64, ite0, pl0, pl2, pl3, sb0, if_true, if_false, eq_self] <;> omega))) | ((rw [hE]; exact rfl)))
end Go.Proofs.Ytcpcghnpoekhpaa.A
/- Tries: the plain law: fronts in order, their tree, what it tells, how its states stand; the reference's fronts. No program in sight. -/
set_option linter.unusedSimpArgs false
set_option linter.unusedVariables false
set_option maxRecDepth 100000
set_option maxHeartbeats 4000000
namespace Go.Proofs.Ytcpcghnpoekhpaa.A
open Go
/-! ### words and their beginnings -/
theorem gD {α : Type} (l : List α) (d : α) {k : Nat} (h : k < l.length) : l.getD k d = l[k] := by rw [List.getD_eq_getElem?_getD, List.getElem?_eq_getElem h]; rfl
def dl (x : ByteArray) : ByteArray := x.extract 0 (x.size - 1)
def la (x : ByteArray) : Int := bt x (x.size - 1)
theorem dl_size (x : ByteArray) : (dl x).size = x.size - 1 := by unfold dl; rw [ByteArray.size_extract]; omega
theorem dl_list (x : ByteArray) (h : 0 < x.size) : x.data.toList = (dl x).data.toList ++ [x.data.toList.getD (x.size - 1) 0] := by
 unfold dl
 rw [ByteArray.data_extract]
 have hz : x.data.toList.length = x.size := by rw [Array.length_toList]; rfl
 generalize x.size = n at *
 rw [Array.toList_extract]
 obtain ⟨m, rfl⟩ : ∃ m, n = m + 1 := ⟨n - 1, by omega⟩
 generalize x.data.toList = l at *
 simp only [Nat.add_sub_cancel, List.drop_zero, Nat.sub_zero, List.extract_eq_take_drop]
 rw [gD _ _ (by omega), ← List.take_succ_eq_append_getElem (by omega), List.take_of_length_le (by omega)]
theorem ba_ext {x y : ByteArray} (h : x.data.toList = y.data.toList) : x = y := ByteArray.ext (Array.toList_inj.1 h)
theorem la_eq {x y : ByteArray} (h : la x = la y) : x.data.toList.getD (x.size - 1) 0 = y.data.toList.getD (y.size - 1) 0 := by
 unfold la at h
 rw [bt_data, bt_data] at h
 exact UInt8.toNat_inj.1 (by omega)
theorem dl_la {x y : ByteArray} (hx : 0 < x.size) (hy : 0 < y.size) (h1 : dl x = dl y) (h2 : la x = la y) : x = y := by
 apply ba_ext
 rw [dl_list x hx, dl_list y hy, h1, la_eq h2]
theorem ltF_irr (x : ByteArray) : ltF x x = false := by rw [ltF_no]; exact .inr ⟨rfl, List.le_refl _⟩
theorem ltF_trans {x y z : ByteArray} (h1 : ltF x y = true) (h2 : ltF y z = true) : ltF x z = true := by
 rw [ltF_iff] at h1 h2 ⊢
 rcases h1 with q | ⟨q, k⟩ <;> rcases h2 with r | ⟨r, g⟩
 ·left; omega
 ·left; omega
 ·left; omega
 ·exact .inr ⟨q.trans r, List.lt_trans k g⟩
theorem ltF_asym {x y : ByteArray} (h : ltF x y = true) : ltF y x = false := by
 cases h2 : ltF y x with
 | false => rfl
 | true => have := ltF_trans h h2; rw [ltF_irr] at this; cases this
theorem ltF_kid {x y : ByteArray} (hx : 0 < x.size) (hy : 0 < y.size) : ltF x y = true ↔ ltF (dl x) (dl y) = true ∨ (dl x = dl y ∧ la x < la y) := by
 have hlx := dl_list x hx
 have hly := dl_list y hy
 have sx := dl_size x
 have sy := dl_size y
 have lx : (dl x).data.toList.length = x.size - 1 := by rw [Array.length_toList]; exact sx
 have ly : (dl y).data.toList.length = y.size - 1 := by rw [Array.length_toList]; exact sy
 have hla : la x < la y ↔ x.data.toList.getD (x.size - 1) 0 < y.data.toList.getD (y.size - 1) 0 := by
  unfold la; rw [bt_data, bt_data, UInt8.lt_iff_toNat_lt]; omega
 rw [hla, ltF_iff, ltF_iff, sx, sy]
 have key : ∀ (a b : List UInt8) (c d : UInt8), a.length = b.length → (a ++ [c] < b ++ [d] ↔ a < b ∨ (a = b ∧ c < d)) := by
  intro a
  induction a with
  | nil =>
   intro b c d h
   cases b with
   | nil => simp [List.cons_lt_cons_iff]
   | cons _ _ => simp at h
  | cons p a ih =>
   intro b c d h
   cases b with
   | nil => simp at h
   | cons q b =>
    rw [List.cons_append, List.cons_append, List.cons_lt_cons_iff, List.cons_lt_cons_iff, ih b c d (by simpa using h)]
    constructor
    ·rintro (h1 | ⟨h1, h2 | ⟨h2, h3⟩⟩)
     ·exact .inl (.inl h1)
     ·exact .inl (.inr ⟨h1, h2⟩)
     ·exact .inr ⟨by rw [h1, h2], h3⟩
    ·rintro ((h1 | ⟨h1, h2⟩) | ⟨h1, h2⟩)
     ·exact .inl h1
     ·exact .inr ⟨h1, .inl h2⟩
     ·injection h1 with h1 h3; exact .inr ⟨h1, .inr ⟨h3, h2⟩⟩
 by_cases hs : x.size = y.size
 ·rw [hlx, hly, key _ _ _ _ (by omega)]
  constructor
  ·rintro (h | ⟨_, h | ⟨h1, h2⟩⟩)
   ·omega
   ·exact .inl (.inr ⟨by omega, h⟩)
   ·refine .inr ⟨ba_ext h1, ?_⟩
    rw [← hlx, ← hly] at *; exact h2
  ·rintro ((h | ⟨_, h⟩) | ⟨h1, h2⟩)
   ·omega
   ·exact .inr ⟨hs, .inl h⟩
   ·refine .inr ⟨hs, .inr ⟨by rw [h1], ?_⟩⟩
    rw [← hlx, ← hly] at *; exact h2
 ·constructor
  ·rintro (h | ⟨h, _⟩)
   ·exact .inl (.inl (by omega))
   ·exact absurd h hs
  ·rintro ((h | ⟨h, _⟩) | ⟨h1, h2⟩)
   ·exact .inl (by omega)
   ·exact absurd (by omega : x.size = y.size) hs
   ·have : (dl x).size = (dl y).size := by rw [h1]
    exact absurd (by omega : x.size = y.size) hs
/-! ### fronts: sorted, each once, with all their beginnings -/
structure FG (gs : List ByteArray) : Prop where
 so : gs.Pairwise fun a b => ltF a b = true
 pre : ∀ x ∈ gs, 0 < x.size → dl x ∈ gs
 emp : ∃ x ∈ gs, x.size = 0
variable {gs : List ByteArray}
theorem FG.lt (h : FG gs) {i j : Nat} (hi : i < gs.length) (hj : j < gs.length) : ltF gs[i] gs[j] = true ↔ i < j := by
 have hp := List.pairwise_iff_getElem.1 h.so
 constructor
 ·intro q
  rcases Nat.lt_trichotomy i j with r | r | r
  ·exact r
  ·subst r; rw [ltF_irr] at q; cases q
  ·have := ltF_trans q (hp _ _ hj hi r); rw [ltF_irr] at this; cases this
 ·exact hp _ _ hi hj
theorem FG.inj (h : FG gs) {i j : Nat} (hi : i < gs.length) (hj : j < gs.length) (e : gs[i] = gs[j]) : i = j := by
 have h1 := h.lt hi hj
 have h2 := h.lt hj hi
 rw [e, ltF_irr] at h1
 rw [e, ltF_irr] at h2
 simp at h1 h2
 omega
theorem FG.zero (h : FG gs) : ∃ h0 : 0 < gs.length, gs[0].size = 0 := by
 obtain ⟨x, hx, hz⟩ := h.emp
 obtain ⟨k, hk, rfl⟩ := List.getElem_of_mem hx
 refine ⟨by omega, ?_⟩
 rcases Nat.eq_zero_or_pos k with q | q
 ·subst q; exact hz
 ·have := (h.lt (by omega : 0 < gs.length) hk).2 q
  rw [ltF_iff] at this
  omega
theorem size0_eq {x y : ByteArray} (hx : x.size = 0) (hy : y.size = 0) : x = y := by
 rw [ByteArray.size_eq_zero_iff] at hx hy
 rw [hx, hy]
theorem FG.pos (h : FG gs) {k : Nat} (hk : k < gs.length) (h0 : 0 < k) : 0 < gs[k].size := by
 obtain ⟨hl, hz⟩ := h.zero
 rcases Nat.eq_zero_or_pos gs[k].size with q | q
 ·have := h.inj hl hk (size0_eq hz q); omega
 ·exact q
theorem FG.ix (h : FG gs) {k : Nat} (hk : k < gs.length) : ixL gs gs[k] = k := by
 have hl : ixL gs gs[k] < gs.length := List.findIdx_lt_length_of_exists ⟨gs[k], List.getElem_mem hk, by simp⟩
 have := of_decide_eq_true (List.findIdx_getElem (w := hl))
 exact h.inj hl hk this
theorem FG.par (h : FG gs) {k : Nat} (hk : k < gs.length) (h0 : 0 < gs[k].size) : ∃ p, ∃ hp : p < gs.length, gs[p] = dl gs[k] ∧ p < k := by
 obtain ⟨p, hp, e⟩ := List.getElem_of_mem (h.pre _ (List.getElem_mem hk) h0)
 refine ⟨p, hp, e, (h.lt hp hk).1 ?_⟩
 rw [e, ltF_iff, dl_size]; left; omega
/-! ### children -/
def chilG (b : ByteArray) : Nat → List ByteArray → List Eg
 | _, [] => []
 | i, x :: l => if 0 < x.size ∧ dl x = b then (la x, (i : Int)) :: chilG b (i + 1) l else chilG b (i + 1) l
theorem chilG_app (b : ByteArray) : ∀ (l r : List ByteArray) (i : Nat), chilG b i (l ++ r) = chilG b i l ++ chilG b (i + l.length) r := by
 intro l
 induction l with
 | nil => intro r i; rfl
 | cons x l ih =>
  intro r i
  rw [List.cons_append]
  rw [chilG, chilG, ih r (i + 1), List.length_cons, show i + 1 + l.length = i + (l.length + 1) by omega]
  split <;> rfl
theorem chilG_mem (b : ByteArray) (e : Eg) : ∀ (l : List ByteArray) (i : Nat), e ∈ chilG b i l → ∃ k, ∃ h : k < l.length, 0 < l[k].size ∧ dl l[k] = b ∧ e = (la l[k], ((i + k : Nat) : Int)) := by
 intro l
 induction l with
 | nil => intro i h; cases h
 | cons x l ih =>
  intro i h
  unfold chilG at h
  split at h
  ·rename_i hk
   rcases List.mem_cons.1 h with rfl | h
   ·exact ⟨0, by simp, hk.1, hk.2, rfl⟩
   ·obtain ⟨k, h1, h2, h3, h4⟩ := ih (i + 1) h
    exact ⟨k + 1, by simpa using h1, h2, h3, by rw [h4, show i + 1 + k = i + (k + 1) by omega]; rfl⟩
  ·obtain ⟨k, h1, h2, h3, h4⟩ := ih (i + 1) h
   exact ⟨k + 1, by simpa using h1, h2, h3, by rw [h4, show i + 1 + k = i + (k + 1) by omega]; rfl⟩
theorem chilG_len (b : ByteArray) : ∀ (l : List ByteArray) (i : Nat), (chilG b i l).length ≤ l.length := by
 intro l
 induction l with
 | nil => intro i; exact Nat.le_refl _
 | cons x l ih =>
  intro i
  unfold chilG
  have := ih (i + 1)
  split <;> simp <;> omega
def treeI (gs : List ByteArray) (i : Nat) : List Sta := (List.range gs.length).map fun j => (if j < i then -1 else 0, chilG (gs.getD j ByteArray.empty) 0 (gs.take i))
theorem treeI_len (gs : List ByteArray) (i : Nat) : (treeI gs i).length = gs.length := by unfold treeI; simp
theorem treeI_get (gs : List ByteArray) (i : Nat) {j : Nat} (h : j < gs.length) : mAt (treeI gs i) j = (if j < i then -1 else 0, chilG gs[j] 0 (gs.take i)) := by
 show List.getD _ _ _ = _
 unfold treeI
 rw [List.getD_eq_getElem?_getD, List.getElem?_map, List.getElem?_range h]
 show (_, chilG (gs.getD j ByteArray.empty) 0 _) = _
 rw [gD _ _ h]
theorem treeI_zero (gs : List ByteArray) : treeI gs 0 = List.replicate gs.length (0, []) := by
 unfold treeI
 apply List.ext_getElem
 ·simp
 ·intro k h1 h2; simp [chilG]
theorem treeI_first {i : Nat} (hi : i < gs.length) (hz : gs[i].size = 0) : (treeI gs i).set i (-1, (mAt (treeI gs i) i).2) = treeI gs (i + 1) := by
 have hS := treeI_get gs i hi
 rw [hS]
 apply List.ext_getElem
 ·rw [List.length_set, treeI_len, treeI_len]
 ·intro k h1 h2
  rw [List.length_set, treeI_len] at h1
  rw [List.getElem_set]
  have g1 : (treeI gs i)[k]'(by rw [treeI_len]; exact h1) = mAt (treeI gs i) k := by show _ = List.getD _ _ _; rw [gD _ _ (by rw [treeI_len]; exact h1)]
  have g2 : (treeI gs (i + 1))[k]'h2 = mAt (treeI gs (i + 1)) k := by show _ = List.getD _ _ _; rw [gD _ _ h2]
  rw [g1, g2, treeI_get _ _ h1, treeI_get _ _ h1, List.take_succ_eq_append_getElem hi, chilG_app]
  have e0 : ∀ b, chilG b (0 + (gs.take i).length) [gs[i]] = [] := fun b => by unfold chilG; rw [if_neg (fun q => by omega)]; rfl
  rw [e0, List.append_nil]
  split
  ·rename_i e; subst e; simp
  ·rename_i e
   have : (k < i) = (k < i + 1) := propext ⟨fun _ => by omega, fun _ => by omega⟩
   simp only [this]
theorem treeI_next (h : FG gs) {i p : Nat} (hi : i < gs.length) (hp : p < gs.length) (hz : 0 < gs[i].size) (he : gs[p] = dl gs[i]) (hpi : p < i) :
  ((treeI gs i).set i (-1, (mAt (treeI gs i) i).2)).set p (-1, (mAt (treeI gs i) p).2 ++ [(la gs[i], (i : Int))]) = treeI gs (i + 1) := by
 rw [treeI_get gs i hi, treeI_get gs i hp]
 apply List.ext_getElem
 ·rw [List.length_set, List.length_set, treeI_len, treeI_len]
 ·intro k h1 h2
  rw [List.length_set, List.length_set, treeI_len] at h1
  rw [List.getElem_set, List.getElem_set]
  have g1 : (treeI gs i)[k]'(by rw [treeI_len]; exact h1) = mAt (treeI gs i) k := by show _ = List.getD _ _ _; rw [gD _ _ (by rw [treeI_len]; exact h1)]
  have g2 : (treeI gs (i + 1))[k]'h2 = mAt (treeI gs (i + 1)) k := by show _ = List.getD _ _ _; rw [gD _ _ h2]
  rw [g1, g2, treeI_get _ _ h1, treeI_get _ _ h1, List.take_succ_eq_append_getElem hi, chilG_app]
  have hl : 0 + (gs.take i).length = i := by rw [List.length_take]; omega
  rw [hl]
  by_cases hkp : p = k
  ·subst hkp
   have e1 : chilG gs[p] i [gs[i]] = [(la gs[i], (i : Int))] := by unfold chilG; rw [if_pos ⟨hz, he.symm⟩]; rfl
   rw [if_pos rfl, e1, if_pos (by omega), if_pos (by omega)]
  ·have e1 : chilG gs[k] i [gs[i]] = [] := by
    unfold chilG
    rw [if_neg (fun q => hkp (h.inj hp h1 (he.trans q.2)))]; rfl
   rw [if_neg hkp, e1, List.append_nil]
   split
   ·rename_i e; subst e; simp
   ·rename_i e
    have : (k < i) = (k < i + 1) := propext ⟨fun _ => by omega, fun _ => by omega⟩
    simp only [this]
/-! ### the tree, when the rows' rules are laid, too -/
def outY (ys : List (Rw × ByteArray)) (b : ByteArray) : Int := ys.foldl (fun o y => if y.2 = b ∧ y.2 = y.1.2.1 ∧ o < 0 then y.1.2.2 else o) (-1)
def treeY (gs : List ByteArray) (ys : List (Rw × ByteArray)) : List Sta := gs.map fun b => (outY ys b, chilG b 0 gs)
theorem outY_snoc (ys : List (Rw × ByteArray)) (y : Rw × ByteArray) (b : ByteArray) : outY (ys ++ [y]) b = if y.2 = b ∧ y.2 = y.1.2.1 ∧ outY ys b < 0 then y.1.2.2 else outY ys b := by
 unfold outY; rw [List.foldl_append]; rfl
theorem treeI_done (gs : List ByteArray) : treeI gs gs.length = treeY gs [] := by
 unfold treeI treeY
 apply List.ext_getElem
 ·simp
 ·intro k h1 h2
  have hk : k < gs.length := by simpa using h1
  rw [List.getElem_map, List.getElem_map, List.getElem_range, if_pos hk, gD _ _ hk, List.take_length]; rfl
theorem treeY_len (gs : List ByteArray) (ys : List (Rw × ByteArray)) : (treeY gs ys).length = gs.length := by unfold treeY; simp
theorem treeY_get (gs : List ByteArray) (ys : List (Rw × ByteArray)) {k : Nat} (h : k < gs.length) : mAt (treeY gs ys) k = (outY ys gs[k], chilG gs[k] 0 gs) := by
 show List.getD _ _ _ = _
 rw [gD _ _ (by rw [treeY_len]; exact h)]
 unfold treeY
 rw [List.getElem_map]
theorem treeY_set (h : FG gs) (ys : List (Rw × ByteArray)) (y : Rw × ByteArray) {k : Nat} (hk : k < gs.length) (he : gs[k] = y.2) (h1 : y.2 = y.1.2.1) (h2 : outY ys gs[k] < 0) : (treeY gs ys).set k (y.1.2.2, (mAt (treeY gs ys) k).2) = treeY gs (ys ++ [y]) := by
 rw [treeY_get _ _ hk]
 unfold treeY
 apply List.ext_getElem
 ·simp
 ·intro j q1 q2
  have hj : j < gs.length := by simpa using q2
  rw [List.getElem_set, List.getElem_map, List.getElem_map]
  by_cases e : k = j
  ·subst e; rw [if_pos rfl, outY_snoc, if_pos ⟨he.symm, h1, h2⟩]
  ·rw [if_neg e, outY_snoc, if_neg (fun q => e (h.inj hk hj (he.trans q.1)))]
theorem treeY_keep (ys : List (Rw × ByteArray)) (y : Rw × ByteArray) {k : Nat} (hk : k < gs.length) (he : gs[k] = y.2) (hn : ¬ (y.2 = y.1.2.1 ∧ outY ys gs[k] < 0)) : treeY gs ys = treeY gs (ys ++ [y]) := by
 unfold treeY
 apply List.map_congr_left
 intro b _
 rw [outY_snoc]
 by_cases e : y.2 = b
 ·rw [if_neg (fun q => hn ⟨q.2.1, by rw [he, e]; exact q.2.2⟩)]
 ·rw [if_neg (fun q => e q.1)]
def ruleL : List Rw → ByteArray → Int
 | [], _ => -1
 | x :: l, b => if x.2.1 = b then x.2.2 else ruleL l b
theorem extract_all (x : ByteArray) : x.extract 0 x.size = x := by simp
theorem extract_ne {x : ByteArray} {k : Nat} (h : k < x.size) : x.extract 0 k ≠ x := fun e => by
 have := congrArg ByteArray.size e
 rw [ByteArray.size_extract] at this
 omega
theorem outY_begsK (x : Rw) (b : ByteArray) (o : Int) : (begsK x (x.2.1.size + 1)).foldl (fun o y => if y.2 = b ∧ y.2 = y.1.2.1 ∧ o < 0 then y.1.2.2 else o) o = if x.2.1 = b ∧ o < 0 then x.2.2 else o := by
 have h0 : ∀ k, k ≤ x.2.1.size → (begsK x k).foldl (fun o y => if y.2 = b ∧ y.2 = y.1.2.1 ∧ o < 0 then y.1.2.2 else o) o = o := by
  intro k
  induction k with
  | zero => intro _; rfl
  | succ k ih =>
   intro hk
   unfold begsK at ih ⊢
   rw [List.range_succ, List.map_append, List.foldl_append, ih (by omega)]
   exact if_neg (fun q => extract_ne (by omega) q.2.1)
 have e : begsK x (x.2.1.size + 1) = begsK x x.2.1.size ++ [(x, x.2.1.extract 0 x.2.1.size)] := by unfold begsK; rw [List.range_succ, List.map_append]; rfl
 rw [e, List.foldl_append, h0 _ (Nat.le_refl _), extract_all]
 show (if x.2.1 = b ∧ x.2.1 = x.2.1 ∧ o < 0 then x.2.2 else o) = _
 by_cases hh : x.2.1 = b ∧ o < 0
 ·rw [if_pos hh, if_pos ⟨hh.1, rfl, hh.2⟩]
 ·rw [if_neg hh, if_neg (fun q => hh ⟨q.1, q.2.2⟩)]
theorem outY_rule (rows : List Rw) (b : ByteArray) (hr : ∀ x ∈ rows, 0 ≤ x.2.2) : outY (begsL rows) b = ruleL rows b := by
 unfold outY begsL
 have key : ∀ (l : List Rw) (o : Int), (∀ x ∈ l, 0 ≤ x.2.2) → (l.flatMap fun x => begsK x (x.2.1.size + 1)).foldl (fun o y => if y.2 = b ∧ y.2 = y.1.2.1 ∧ o < 0 then y.1.2.2 else o) o = if o < 0 then (if ruleL l b = -1 then o else ruleL l b) else o := by
  intro l
  induction l with
  | nil => intro o _; simp [ruleL]
  | cons x l ih =>
   intro o hl
   rw [List.flatMap_cons, List.foldl_append, outY_begsK, ih _ (fun y hy => hl y (List.mem_cons_of_mem _ hy))]
   have hx := hl x (List.mem_cons_self ..)
   have hR : ruleL (x :: l) b = if x.2.1 = b then x.2.2 else ruleL l b := rfl
   rw [hR]
   by_cases h1 : x.2.1 = b
   ·by_cases h2 : o < 0
    ·have e : (if x.2.1 = b ∧ o < 0 then x.2.2 else o) = x.2.2 := if_pos ⟨h1, h2⟩
     rw [e, if_neg (by omega), if_pos h2, if_pos h1, if_neg (by omega)]
    ·have e : (if x.2.1 = b ∧ o < 0 then x.2.2 else o) = o := if_neg (fun q => h2 q.2)
     rw [e, if_neg h2, if_neg h2]
   ·have e : (if x.2.1 = b ∧ o < 0 then x.2.2 else o) = o := if_neg (fun q => h1 q.1)
    rw [e, if_neg h1]
 rw [key rows (-1) hr, if_pos (by omega)]
 split
 ·rename_i h; exact h.symm
 ·rfl
theorem ruleL_ge (rows : List Rw) (b : ByteArray) (hr : ∀ x ∈ rows, 0 ≤ x.2.2) : -1 ≤ ruleL rows b := by
 induction rows with
 | nil => exact Int.le_refl _
 | cons x l ih =>
  unfold ruleL
  have := hr x (List.mem_cons_self ..)
  split
  ·omega
  ·exact ih fun y hy => hr y (List.mem_cons_of_mem _ hy)
theorem ruleL_none (rows : List Rw) (b : ByteArray) (h : ∀ x ∈ rows, x.2.1 ≠ b) : ruleL rows b = -1 := by
 induction rows with
 | nil => rfl
 | cons x l ih => unfold ruleL; rw [if_neg (h x (List.mem_cons_self ..))]; exact ih fun y hy => h y (List.mem_cons_of_mem _ hy)
/-! ### its edges rise -/
theorem la_lt (x : ByteArray) : la x < 256 ∧ 0 ≤ la x := by
 unfold la
 have : bt x (x.size - 1) < 256 := bt_lt _ _
 omega
theorem chilG_rise (b : ByteArray) (n : Nat) : ∀ (l : List ByteArray) (i : Nat) (q : Int), (l.Pairwise fun a b => ltF a b = true) → i + l.length ≤ n → q < 256 → (∀ x ∈ l, 0 < x.size → dl x = b → q < la x) → riseG 256 n q (chilG b i l) = true := by
 intro l
 induction l with
 | nil => intro i q _ _ _ _; rfl
 | cons x l ih =>
  intro i q hp hn hq hl
  rw [List.pairwise_cons] at hp
  rw [List.length_cons] at hn
  unfold chilG
  split
  ·rename_i hk
   unfold riseG
   have h1 := la_lt x
   have h2 := hl x (List.mem_cons_self ..) hk.1 hk.2
   rw [if_pos ⟨h2, h1.1, by show (0 : Int) ≤ (i : Int); omega, by show (i : Int) < n; omega⟩]
   refine ih (i + 1) (la x) hp.2 (by omega) h1.1 fun y hy hs hd => ?_
   rcases (ltF_kid hk.1 hs).1 (hp.1 y hy) with q | q
   ·rw [hk.2, hd, ltF_irr] at q; cases q
   ·exact q.2
  ·exact ih (i + 1) q hp.2 (by omega) hq fun y hy => hl y (List.mem_cons_of_mem _ hy)
/-! ### where it goes -/
theorem chilG_go (b : ByteArray) (c : Int) (n : Nat) : ∀ (l : List ByteArray) (i : Nat), gs.drop i = l → i + l.length ≤ n →
  (∃ k, ∃ hk : k < gs.length, i ≤ k ∧ 0 < gs[k].size ∧ dl gs[k] = b ∧ la gs[k] = c ∧ goE n c (chilG b i l) = k) ∨ ((∀ k, ∀ hk : k < gs.length, i ≤ k → ¬ (0 < gs[k].size ∧ dl gs[k] = b ∧ la gs[k] = c)) ∧ goE n c (chilG b i l) = -1) := by
 intro l
 induction l with
 | nil =>
  intro i he _
  refine .inr ⟨fun k hk hik => ?_, rfl⟩
  have := congrArg List.length he
  rw [List.length_drop, List.length_nil] at this
  omega
 | cons x l ih =>
  intro i he hn
  have hi : i < gs.length := by
   have := congrArg List.length he
   rw [List.length_drop, List.length_cons] at this
   omega
  rw [List.drop_eq_getElem_cons hi] at he
  injection he with hx hl
  rw [List.length_cons] at hn
  unfold chilG
  by_cases hk : 0 < x.size ∧ dl x = b
  ·rw [if_pos hk]
   unfold goE
   by_cases hc : la x = c
   ·rw [if_pos ⟨hc, by show (0 : Int) ≤ (i : Int); omega, by show (i : Int) < n; omega⟩]
    exact .inl ⟨i, hi, Nat.le_refl _, by rw [hx]; exact hk.1, by rw [hx]; exact hk.2, by rw [hx]; exact hc, rfl⟩
   ·rw [if_neg (fun q => hc q.1)]
    rcases ih (i + 1) hl (by omega) with ⟨k, q0, q1, q2, q3, q4, q5⟩ | ⟨q1, q2⟩
    ·exact .inl ⟨k, q0, by omega, q2, q3, q4, q5⟩
    ·refine .inr ⟨fun k q0 q3 => ?_, q2⟩
     rcases Nat.eq_or_lt_of_le q3 with e | e
     ·subst e; rw [hx]; exact fun q => hc q.2.2
     ·exact q1 k q0 (by omega)
  ·rw [if_neg hk]
   rcases ih (i + 1) hl (by omega) with ⟨k, q0, q1, q2, q3, q4, q5⟩ | ⟨q1, q2⟩
   ·exact .inl ⟨k, q0, by omega, q2, q3, q4, q5⟩
   ·refine .inr ⟨fun k q0 q3 => ?_, q2⟩
    rcases Nat.eq_or_lt_of_le q3 with e | e
    ·subst e; rw [hx]; exact fun q => hk ⟨q.1, q.2.1⟩
    ·exact q1 k q0 (by omega)
def numG (gs : List ByteArray) (b : ByteArray) : Int := if inL gs b = true then ixL gs b else -1
theorem numG_get (h : FG gs) {k : Nat} (hk : k < gs.length) : numG gs gs[k] = k := by
 unfold numG; rw [if_pos (inL_iff.2 (List.getElem_mem hk)), h.ix hk]
theorem go_tree (h : FG gs) (ys : List (Rw × ByteArray)) {k : Nat} (hk : k < gs.length) (x : ByteArray) (hx : 0 < x.size) (hd : dl x = gs[k]) : goM (treeY gs ys) k (la x) = numG gs x := by
 unfold goM
 rw [if_pos ⟨by omega, by rw [treeY_len]; omega⟩, show ((k : Nat) : Int).toNat = k by omega, treeY_get _ _ hk, treeY_len]
 show goE gs.length (la x) (chilG gs[k] 0 gs) = _
 rcases chilG_go gs[k] (la x) gs.length gs 0 rfl (by omega) with ⟨t, q0, q1, q2, q3, q4, q5⟩ | ⟨q1, q2⟩
 ·rw [q5]
  have e : gs[t] = x := dl_la q2 hx (q3.trans hd.symm) q4
  rw [← e, numG_get h q0]
 ·rw [q2]
  unfold numG
  rw [if_neg]
  intro hin
  obtain ⟨t, ht, e⟩ := List.getElem_of_mem (inL_iff.1 hin)
  exact q1 t ht (by omega) ⟨by rw [e]; exact hx, by rw [e]; exact hd, by rw [e]⟩
theorem dl_extract (w : ByteArray) {i : Nat} (h : i < w.size) : dl (w.extract 0 (i + 1)) = w.extract 0 i ∧ la (w.extract 0 (i + 1)) = bt w i := by
 have hs : (w.extract 0 (i + 1)).size = i + 1 := by rw [ByteArray.size_extract]; omega
 constructor
 ·unfold dl
  rw [hs]
  apply ByteArray.ext
  rw [ByteArray.data_extract, ByteArray.data_extract, ByteArray.data_extract]
  apply Array.toList_inj.1
  simp [Array.toList_extract, List.take_take]
 ·unfold la
  rw [hs, bt_data, bt_data, ByteArray.data_extract, Array.toList_extract]
  simp [List.extract_eq_take_drop, List.getD_eq_getElem?_getD, List.getElem?_take]
theorem run_tree (h : FG gs) (ys : List (Rw × ByteArray)) (w : ByteArray) : ∀ i, i ≤ w.size → runW (treeY gs ys) w i = numG gs (w.extract 0 i) ∧ (0 ≤ runW (treeY gs ys) w i → w.extract 0 i ∈ gs) := by
 intro i
 induction i with
 | zero =>
  intro _
  obtain ⟨hl, hz⟩ := h.zero
  have e : w.extract 0 0 = gs[0] := size0_eq (by rw [ByteArray.size_extract]; omega) hz
  rw [e, numG_get h hl]
  exact ⟨rfl, fun _ => List.getElem_mem hl⟩
 | succ i ih =>
  intro hi
  obtain ⟨h1, h2⟩ := ih (by omega)
  obtain ⟨d1, d2⟩ := dl_extract w (i := i) (by omega)
  have hs : (w.extract 0 (i + 1)).size = i + 1 := by rw [ByteArray.size_extract]; omega
  have hnum : numG gs (w.extract 0 (i + 1)) < 0 ∨ w.extract 0 (i + 1) ∈ gs := by
   unfold numG
   split
   ·rename_i q; exact .inr (inL_iff.1 q)
   ·left; omega
  have hmain : runW (treeY gs ys) w (i + 1) = numG gs (w.extract 0 (i + 1)) := by
   conv => lhs; unfold runW
   by_cases hneg : runW (treeY gs ys) w i < 0
   ·rw [if_pos hneg]
    unfold numG
    rw [if_neg]
    intro hin
    have := h.pre _ (inL_iff.1 hin) (by omega)
    rw [d1] at this
    rw [h1] at hneg
    unfold numG at hneg
    rw [if_pos (inL_iff.2 this)] at hneg
    omega
   ·rw [if_neg hneg]
    obtain ⟨k, hk, e⟩ := List.getElem_of_mem (h2 (by omega))
    rw [h1, ← e, numG_get h hk, ← d2]
    exact go_tree h ys hk _ (by omega) (d1.trans e.symm)
  refine ⟨hmain, fun q => ?_⟩
  rw [hmain] at q
  rcases hnum with r | r
  ·omega
  ·exact r
/-! ### its states stand in the order of their being met -/
theorem ordE_run (b : ByteArray) : ∀ (l : List ByteArray) (j : Nat), (∀ k, ∀ hk : k < l.length, 0 < l[k].size) → (∀ k, ∀ hk : k < l.length, ∀ i, ∀ hi : i < k, dl l[k] = b → dl (l[i]'(by omega)) = b) →
  ∃ c, c ≤ l.length ∧ ordE (j : Int) (chilG b j l) = some ((j + c : Nat) : Int) ∧ (∀ k, ∀ hk : k < l.length, dl l[k] = b ↔ k < c) := by
 intro l
 induction l with
 | nil => intro j _ _; exact ⟨0, Nat.le_refl _, rfl, fun k hk => absurd hk (by simp)⟩
 | cons x l ih =>
  intro j hz hp
  have h0 : 0 < x.size := hz 0 (by simp)
  have hz' : ∀ k, ∀ hk : k < l.length, 0 < l[k].size := fun k hk => hz (k + 1) (by simpa using hk)
  unfold chilG
  by_cases hd : dl x = b
  ·obtain ⟨c, c1, c2, c3⟩ := ih (j + 1) hz' fun k hk i hi e => hp (k + 1) (by simpa using hk) (i + 1) (by omega) e
   rw [if_pos ⟨h0, hd⟩]
   unfold ordE
   rw [if_neg (by show ¬ ((j : Int) < (j : Int)); omega)]
   show ∃ c, _ ∧ ordE (if (j : Int) = j then (j : Int) + 1 else j) _ = _ ∧ _
   rw [if_pos rfl, show (j : Int) + 1 = ((j + 1 : Nat) : Int) by omega, c2]
   refine ⟨c + 1, by simp; omega, by congr 2; omega, fun k hk => ?_⟩
   cases k with
   | zero => exact ⟨fun _ => by omega, fun _ => hd⟩
   | succ k => rw [List.getElem_cons_succ, c3 k (by simpa using hk)]; omega
  ·have hno : ∀ k, ∀ hk : k < (x :: l).length, dl (x :: l)[k] ≠ b := fun k hk e => by
    cases k with
    | zero => exact hd e
    | succ k => exact hd (hp (k + 1) hk 0 (by omega) e)
   have hnil : chilG b (j + 1) l = [] := by
    cases hc : chilG b (j + 1) l with
    | nil => rfl
    | cons e r =>
     obtain ⟨k, h1, h2, h3, _⟩ := chilG_mem b e l (j + 1) (by rw [hc]; exact List.mem_cons_self ..)
     exact absurd h3 (hno (k + 1) (by simpa using h1))
   rw [if_neg (fun q => hd q.2), hnil]
   exact ⟨0, by omega, by simp [ordE], fun k hk => ⟨fun e => absurd e (hno k hk), fun q => by omega⟩⟩
theorem chilG_none (b : ByteArray) : ∀ (l : List ByteArray) (i : Nat), (∀ x ∈ l, ¬ (0 < x.size ∧ dl x = b)) → chilG b i l = [] := by
 intro l
 induction l with
 | nil => intro i _; rfl
 | cons x l ih =>
  intro i h
  unfold chilG
  rw [if_neg (h x (List.mem_cons_self ..))]
  exact ih (i + 1) fun y hy => h y (List.mem_cons_of_mem _ hy)
theorem ord_tree (h : FG gs) (ys : List (Rw × ByteArray)) : orderedR (treeY gs ys) = true := by
 obtain ⟨hl0, hz0⟩ := h.zero
 have key : ∀ (n i nx : Nat), n = gs.length - i → i ≤ gs.length → 1 ≤ nx → nx ≤ gs.length → (∀ hi : i < gs.length, ∀ t, ∀ ht : t < gs.length, 0 < t → (t < nx ↔ ltF (dl gs[t]) gs[i] = true)) → ordG i nx ((treeY gs ys).drop i) = true := by
  intro n
  induction n with
  | zero =>
   intro i nx hn hi _ _ _
   rw [List.drop_of_length_le (by rw [treeY_len]; omega)]; rfl
  | succ n ih =>
   intro i nx hn hi0 h1 h2 hnx
   have hi : i < gs.length := by omega
   have hnx := hnx hi
   rw [List.drop_eq_getElem_cons (by rw [treeY_len]; exact hi)]
   have g1 : (treeY gs ys)[i]'(by rw [treeY_len]; exact hi) = (outY ys gs[i], chilG gs[i] 0 gs) := by
    rw [← treeY_get gs ys hi]; show _ = List.getD _ _ _; rw [gD _ _ (by rw [treeY_len]; exact hi)]
   rw [g1]
   unfold ordG
   have hin : 0 < i → i < nx := fun q => by
    rw [hnx i hi q]
    have := h.pos hi q
    rw [ltF_iff, dl_size]; left; omega
   rw [if_neg (by omega)]
   -- the first nx fronts are no children, those behind begin with the children
   have hsplit : chilG gs[i] 0 gs = chilG gs[i] nx (gs.drop nx) := by
    have e := chilG_app gs[i] (gs.take nx) (gs.drop nx) 0
    rw [List.take_append_drop, chilG_none gs[i] (gs.take nx) 0 fun x hx q => ?_, List.nil_append, List.length_take] at e
    ·rw [e]; congr 1; omega
    ·obtain ⟨t, ht, rfl⟩ := List.getElem_of_mem hx
     rw [List.length_take] at ht
     rw [List.getElem_take] at q
     rcases Nat.eq_zero_or_pos t with r | r
     ·subst r; omega
     ·have := (hnx t (by omega) r).1 (by omega)
      rw [q.2, ltF_irr] at this; cases this
   have hdrop : ∀ k, ∀ hk : k < (gs.drop nx).length, (gs.drop nx)[k] = gs[nx + k]'(by rw [List.length_drop] at hk; omega) := fun k hk => List.getElem_drop ..
   have hlen : (gs.drop nx).length = gs.length - nx := List.length_drop ..
   obtain ⟨c, c1, c2, c3⟩ := ordE_run gs[i] (gs.drop nx) nx (fun k hk => by rw [hdrop k hk]; exact h.pos _ (by omega)) fun k hk t ht e => by
    rw [hdrop] at e ⊢
    have q1 := h.pos (k := nx + k) (by omega) (by omega)
    have q2 := h.pos (k := nx + t) (by omega) (by omega)
    have q3 := (ltF_kid q2 q1).1 ((h.lt (i := nx + t) (j := nx + k) (by omega) (by omega)).2 (by omega))
    rcases q3 with q3 | q3
    ·rw [e] at q3
     have := (hnx (nx + t) (by omega) (by omega)).2 q3
     omega
    ·exact q3.1.trans e
   show (match ordE nx (chilG gs[i] 0 gs) with | none => false | some nx' => ordG (i + 1) nx' ((treeY gs ys).drop (i + 1))) = true
   rw [hsplit, c2]
   show ordG ((i : Int) + 1) ((nx + c : Nat) : Int) _ = true
   rw [show (i : Int) + 1 = ((i + 1 : Nat) : Int) by omega]
   refine ih (i + 1) (nx + c) (by omega) (by omega) (by omega) (by omega) fun hi1 t ht h0 => ?_
   have hsucc := (h.lt hi hi1).2 (by omega)
   constructor
   ·intro q
    by_cases q2 : t < nx
    ·exact ltF_trans ((hnx t ht h0).1 q2) hsucc
    ·have := (c3 (t - nx) (by omega)).2 (by omega)
     rw [hdrop] at this
     simp only [show nx + (t - nx) = t by omega] at this
     rw [this]; exact hsucc
   ·intro q
    refine Decidable.byContradiction fun hn2 => ?_
    have q1 : ¬ t < nx := by omega
    have q2 : dl gs[t] ≠ gs[i] := fun e => by
     have := (c3 (t - nx) (by omega)).1 (by rw [hdrop]; simp only [show nx + (t - nx) = t by omega]; exact e)
     omega
    obtain ⟨p, hp, e, _⟩ := h.par ht (h.pos ht h0)
    rw [← e] at q q2
    have r1 := (h.lt hp hi1).1 q
    have r2 : ¬ p < i := fun r => q1 ((hnx t ht h0).2 (by rw [← e]; exact (h.lt hp hi).2 r))
    have r3 : p = i := by omega
    subst r3
    exact q2 rfl
 have := key gs.length 0 1 (by omega) (by omega) (by omega) (by omega) fun hi t ht h0 => ⟨fun q => by omega, fun q => by
  rw [ltF_iff, hz0] at q
  rcases q with q | ⟨q, r⟩
  ·omega
  ·have hr : gs[0].data.toList = [] := List.length_eq_zero_iff.1 (by rw [Array.length_toList]; exact hz0)
   rw [hr] at r
   exact absurd r (List.not_lt_nil _)⟩
 rw [List.drop_zero] at this
 exact this
/-! ### the fronts: each beginning once, as9 it is first met; then sorted -/
def addF (l : List ByteArray) (y : Rw × ByteArray) : List ByteArray := if inL l y.2 = true then l else l ++ [y.2]
def frsY (ys : List (Rw × ByteArray)) : List ByteArray := ys.foldl addF [ByteArray.empty]
theorem frsY_snoc (ys : List (Rw × ByteArray)) (y : Rw × ByteArray) : frsY (ys ++ [y]) = addF (frsY ys) y := by unfold frsY; rw [List.foldl_append]; rfl
theorem frs_fold (ys : List (Rw × ByteArray)) (l : List ByteArray) (h : l.Nodup) : (ys.foldl addF l).Nodup ∧ ∀ x, x ∈ ys.foldl addF l ↔ x ∈ l ∨ ∃ y ∈ ys, y.2 = x := by
 induction ys generalizing l with
 | nil => exact ⟨h, fun x => by simp⟩
 | cons y ys ih =>
  have hn : (addF l y).Nodup := by
   unfold addF
   split
   ·exact h
   ·rename_i hy
    rw [List.nodup_append]
    exact ⟨h, by simp, fun a ha b hb e => hy (inL_iff.2 (by rw [List.mem_singleton.1 hb] at e; rw [← e]; exact ha))⟩
  have hm : ∀ x, x ∈ addF l y ↔ x ∈ l ∨ y.2 = x := fun x => by
   unfold addF
   split
   ·rename_i hy
    exact ⟨.inl, fun q => q.elim id fun e => e ▸ inL_iff.1 hy⟩
   ·rw [List.mem_append, List.mem_singleton]
    exact ⟨fun q => q.imp id Eq.symm, fun q => q.imp id Eq.symm⟩
  obtain ⟨h1, h2⟩ := ih (addF l y) hn
  refine ⟨h1, fun x => ?_⟩
  rw [List.foldl_cons, h2, hm]
  simp only [List.mem_cons]
  constructor
  ·rintro ((q | q) | ⟨z, q, r⟩)
   ·exact .inl q
   ·exact .inr ⟨y, .inl rfl, q⟩
   ·exact .inr ⟨z, .inr q, r⟩
  ·rintro (q | ⟨z, q | q, r⟩)
   ·exact .inl (.inl q)
   ·subst q; exact .inl (.inr r)
   ·exact .inr ⟨z, q, r⟩
theorem mem_frs (ys : List (Rw × ByteArray)) (x : ByteArray) : x ∈ frsY ys ↔ x = ByteArray.empty ∨ ∃ y ∈ ys, y.2 = x := by
 have := (frs_fold ys [ByteArray.empty] (by simp)).2 x
 unfold frsY
 rw [this, List.mem_singleton]
theorem mem_begsL (l : List Rw) (b : ByteArray) : (∃ y ∈ begsL l, y.2 = b) ↔ ∃ x ∈ l, ∃ k, k ≤ x.2.1.size ∧ b = x.2.1.extract 0 k := by
 unfold begsL begsK
 simp only [List.mem_flatMap, List.mem_map, List.mem_range]
 constructor
 ·rintro ⟨y, ⟨x, hx, k, hk, rfl⟩, rfl⟩
  exact ⟨x, hx, k, by omega, rfl⟩
 ·rintro ⟨x, hx, k, hk, rfl⟩
  exact ⟨_, ⟨x, hx, k, by omega, rfl⟩, rfl⟩
def gsR (rows : List Rw) : List ByteArray := (frsY (begsL rows)).mergeSort fun x y => !(ltF y x)
theorem gsR_perm (rows : List Rw) : (gsR rows).Perm (frsY (begsL rows)) := List.mergeSort_perm _ _
theorem mem_gsR (rows : List Rw) (x : ByteArray) : x ∈ gsR rows ↔ x = ByteArray.empty ∨ ∃ r ∈ rows, ∃ k, k ≤ r.2.1.size ∧ x = r.2.1.extract 0 k := by
 rw [(gsR_perm rows).mem_iff, mem_frs, mem_begsL]
theorem size_ext0 (w : ByteArray) {k : Nat} (h : k ≤ w.size) : (w.extract 0 k).size = k := by rw [ByteArray.size_extract]; omega
theorem FG_gsR (rows : List Rw) : FG (gsR rows) := by
  refine ⟨?_, fun x hx h0 => ?_, ByteArray.empty, ?_, rfl⟩
  · have hs := List.pairwise_mergeSort (le := fun x y : ByteArray => !(ltF y x)) (fun a b c h k => by
      simp only [Bool.not_eq_true'] at *
      cases e : ltF c a with
      | false => rfl
      | true =>
        by_cases hbc : b = c
        · subst hbc; rw [h] at e; cases e
        · have : ltF b c = true := by
            cases e2 : ltF b c with
            | true => rfl
            | false => exact absurd (ltF_total e2 k) hbc
          have := ltF_trans this e
          rw [h] at this; cases this) (fun a b => by
      simp only [Bool.or_eq_true, Bool.not_eq_true']
      cases e : ltF b a with
      | false => exact .inl rfl
      | true => exact .inr (ltF_asym e)) (frsY (begsL rows))
    have hn : (gsR rows).Nodup := (gsR_perm rows).nodup_iff.2 (frs_fold _ [ByteArray.empty] (by simp)).1
    refine List.pairwise_iff_getElem.2 fun i j hi hj hij => ?_
    have h1 := List.pairwise_iff_getElem.1 hs i j hi hj hij
    simp only [Bool.not_eq_true'] at h1
    have h2 : (gsR rows)[i] ≠ (gsR rows)[j] := List.pairwise_iff_getElem.1 hn i j hi hj hij
    cases e : ltF (gsR rows)[i] (gsR rows)[j] with
    | true => rfl
    | false => exact absurd (ltF_total e h1) h2
  · rw [mem_gsR] at hx ⊢
    rcases hx with rfl | ⟨r, hr, k, hk, rfl⟩
    · exact absurd h0 (by simp)
    · rw [size_ext0 _ hk] at h0
      refine .inr ⟨r, hr, k - 1, by omega, ?_⟩
      have := (dl_extract r.2.1 (i := k - 1) (by omega)).1
      rw [show k - 1 + 1 = k by omega] at this
      exact this
  · rw [mem_gsR]; exact .inl rfl
/-! ### the reference's fronts -/
def frontR : List Rw → List ByteArray → List ByteArray
 | [], l => l
 | x :: r, l => frontR r (((List.range x.2.1.size).map fun k => x.2.1.extract 0 (k + 1)).foldl putS l)
def fronts (rows : List Rw) : List ByteArray := frontR rows [ByteArray.empty]
theorem fold_putS (l m : List ByteArray) (h : Set' m) : Set' (l.foldl putS m) ∧ ∀ x, x ∈ l.foldl putS m ↔ x ∈ m ∨ x ∈ l := by
 induction l generalizing m with
 | nil => exact ⟨h, fun x => by simp⟩
 | cons y l ih =>
  obtain ⟨h1, h2⟩ := ih (putS m y) (putS_set h)
  refine ⟨h1, fun x => ?_⟩
  rw [List.foldl_cons, h2, mem_putS]
  simp only [List.mem_cons]
  constructor
  ·rintro ((h | h) | h) <;> simp [h]
  ·rintro (h | h | h) <;> simp [h]
theorem frontR_facts (rows : List Rw) : ∀ l, Set' l → Set' (frontR rows l) ∧ ∀ x, x ∈ frontR rows l ↔ x ∈ l ∨ ∃ r ∈ rows, ∃ k, 1 ≤ k ∧ k ≤ r.2.1.size ∧ x = r.2.1.extract 0 k := by
 induction rows with
 | nil => intro l h; exact ⟨h, fun x => by simp [frontR]⟩
 | cons r rows ih =>
  intro l h
  obtain ⟨h1, h2⟩ := fold_putS ((List.range r.2.1.size).map fun k => r.2.1.extract 0 (k + 1)) l h
  obtain ⟨h3, h4⟩ := ih _ h1
  refine ⟨h3, fun x => ?_⟩
  show x ∈ frontR rows _ ↔ _
  rw [h4, h2]
  simp only [List.mem_map, List.mem_range, List.mem_cons]
  constructor
  ·rintro ((q | ⟨k, q, rfl⟩) | ⟨s, q, k, q1, q2, q3⟩)
   ·exact .inl q
   ·exact .inr ⟨r, .inl rfl, k + 1, by omega, by omega, rfl⟩
   ·exact .inr ⟨s, .inr q, k, q1, q2, q3⟩
  ·rintro (q | ⟨s, q | q, k, q1, q2, q3⟩)
   ·exact .inl (.inl q)
   ·subst q; exact .inl (.inr ⟨k - 1, by omega, by rw [show k - 1 + 1 = k by omega, q3]⟩)
   ·exact .inr ⟨s, q, k, q1, q2, q3⟩
theorem fronts_set (rows : List Rw) : Set' (fronts rows) := (frontR_facts rows _ (by simp [Set'])).1
theorem mem_fronts (rows : List Rw) (x : ByteArray) : x ∈ fronts rows ↔ x ∈ gsR rows := by
 unfold fronts
 rw [(frontR_facts rows [ByteArray.empty] (by simp [Set'])).2, mem_gsR, List.mem_singleton]
 constructor
 ·rintro (q | ⟨r, q, k, q1, q2, q3⟩)
  ·exact .inl q
  ·exact .inr ⟨r, q, k, q2, q3⟩
 ·rintro (q | ⟨r, q, k, q2, q3⟩)
  ·exact .inl q
  ·rcases Nat.eq_zero_or_pos k with e | e
   ·subst e; exact .inl (q3.trans (size0_eq (size_ext0 _ (Nat.zero_le _)) rfl))
   ·exact .inr ⟨r, q, k, e, q2, q3⟩
theorem ltS_ne {a b : ByteArray} (h : ltS a b = true) : a ≠ b := fun e => by subst e; exact List.lt_irrefl _ (ltS_iff.1 h)
theorem fronts_nodup (rows : List Rw) : (fronts rows).Nodup := (fronts_set rows).imp fun h => ltS_ne h
theorem ltF_ne {a b : ByteArray} (h : ltF a b = true) : a ≠ b := fun e => by subst e; rw [ltF_irr] at h; cases h
theorem gsR_nodup (rows : List Rw) : (gsR rows).Nodup := (FG_gsR rows).so.imp fun h => ltF_ne h
theorem fronts_perm (rows : List Rw) : (fronts rows).Perm (gsR rows) := (List.perm_ext_iff_of_nodup (fronts_nodup rows) (gsR_nodup rows)).2 fun x => mem_fronts rows x
theorem fronts_len (rows : List Rw) : (fronts rows).length = (gsR rows).length := (fronts_perm rows).length_eq
/-! ### the children of a front, as9 the reference lists them -/
end Go.Proofs.Ytcpcghnpoekhpaa.A
/- Tries: rows as9 cells. -/
set_option linter.unusedSimpArgs false
set_option linter.unusedVariables false
set_option maxRecDepth 100000
set_option maxHeartbeats 4000000
namespace Go.Proofs.Ytcpcghnpoekhpaa.A
open Go
def rwC (l : List Rw) : List C := l.flatMap fun x => [vI x.1, vS x.2.1, vI x.2.2]
def nRw (l : List Rw) : Nat := l.foldr (fun _ n => n + 1) 0
theorem nRw_eq (l : List Rw) : nRw l = l.length := by unfold nRw; induction l with | nil => rfl | cons x l ih => rw [List.foldr_cons, ih]; rfl
abbrev rwAt (l : List Rw) (k : Nat) : Rw := l.getD k (0, ByteArray.empty, 0)
theorem rwAt_get {l : List Rw} {k : Nat} (h : k < l.length) : rwAt l k = l[k] := by
 show List.getD _ _ _ = _
 rw [List.getD_eq_getElem?_getD, List.getElem?_eq_getElem h]; rfl
theorem rwC_len (l : List Rw) : (rwC l).length = nRw l * 3 := by
 rw [nRw_eq]
 unfold rwC
 induction l with
 | nil => rfl
 | cons x l ih => rw [List.flatMap_cons, List.length_append, ih]; simp; omega
theorem rwC_at : ∀ (l : List Rw) (k : Nat), k < l.length → cellAt (rwC l) (k * 3) = vI (rwAt l k).1 ∧ cellAt (rwC l) (k * 3 + 1) = vS (rwAt l k).2.1 ∧ cellAt (rwC l) (k * 3 + 2) = vI (rwAt l k).2.2 := by
 intro l
 induction l with
 | nil => intro k h; simp at h
 | cons f l ih =>
  intro k h
  cases k with
  | zero => exact ⟨rfl, rfl, rfl⟩
  | succ k =>
   have := ih k (by simpa using h)
   have e : rwC (f :: l) = vI f.1 :: vS f.2.1 :: vI f.2.2 :: rwC l := rfl
   rw [e, show (k + 1) * 3 = k * 3 + 1 + 1 + 1 by omega]
   exact this
def rwsGo : List C → List Rw
 | a :: b :: c :: l => (gi a, gs b, gi c) :: rwsGo l
 | _ => []
def rwsOfC (cs : List C) : List Rw := rwsGo cs
theorem rwsOfC_rwC (l : List Rw) : rwsOfC (rwC l) = l := by
 unfold rwsOfC
 induction l with
 | nil => rfl
 | cons x l ih =>
  have e : rwC (x :: l) = vI x.1 :: vS x.2.1 :: vI x.2.2 :: rwC l := rfl
  rw [e]
  show (x.1, x.2.1, x.2.2) :: rwsGo (rwC l) = _
  rw [ih]
variable {w : World} {S : Nat → Prop}
theorem crep_vI {v : Value} {n : Int} (h : CRep w S v (vI n)) : v = .int .i64 n := by cases h; rfl
theorem crep_vSt {v : Value} {s : ByteArray} (h : CRep w S v (vS s)) : v = .string s := by cases h; rfl
theorem rows_at {v : Value} {l : List Rw} (h : CRep w S v (.sl (nRw l) (rwC l))) : ∃ a cap, v = .slice a l.length cap ∧ ∀ (w' : World) (S' : Nat → Prop) (Bs : Nat), CRep w' S' (.slice a l.length cap) (.sl (nRw l) (rwC l)) → w'.cell? ⟨Bs, 0, none⟩ = some (.slice a l.length cap) → RowsAt w' Bs a cap l := by
 have hn := nRw_eq l
 have key : ∀ a n cap, CRep w S (.slice a n cap) (.sl (nRw l) (rwC l)) → n = l.length := by
  intro a n cap h
  rw [hn] at h
  generalize rwC l = cs at h
  generalize l.length = m at h
  cases h <;> rfl
 have hv : ∃ a n cap, v = .slice a n cap := by
  generalize rwC l = cs at h
  generalize nRw l = m at h
  cases h
  ·exact ⟨_, _, _, rfl⟩
  ·exact ⟨_, _, _, rfl⟩
 obtain ⟨a, n, cap, rfl⟩ := hv
 obtain rfl := key a n cap h
 refine ⟨a, cap, rfl, fun w' S' Bs h' hc => ⟨hc, fun i hi => ?_⟩⟩
 have hlen := rwC_len l
 obtain ⟨c0, c1, c2⟩ := rwC_at l i hi
 rw [rwAt_get hi] at c0 c1 c2
 rw [hn] at h' hlen
 generalize rwC l = cs at h' c0 c1 c2 hlen
 cases hm : l.length with
 | zero => omega
 | succ m =>
  rw [hm] at h'
  cases h' with
  | sl vs hs hc2 hcell hrep =>
   rename_i b off
   have get : ∀ k (hk : k < cs.length), cellAt cs k = cs[k] := fun k hk => by show List.getD _ _ _ = _; rw [List.getD_eq_getElem?_getD, List.getElem?_eq_getElem hk]; rfl
   rw [get _ (by omega)] at c0 c1 c2
   refine ⟨b, off, rfl, ?_, ?_, ?_⟩
   ·rw [hcell (i * 3) (by omega)]
    have := hrep (i * 3) (by omega)
    rw [c0] at this
    rw [crep_vI this]
   ·rw [show off + i * 3 + 1 = off + (i * 3 + 1) by omega, hcell (i * 3 + 1) (by omega)]
    have := hrep (i * 3 + 1) (by omega)
    rw [c1] at this
    rw [crep_vSt this]
   ·rw [show off + i * 3 + 2 = off + (i * 3 + 2) by omega, hcell (i * 3 + 2) (by omega)]
    have := hrep (i * 3 + 2) (by omega)
    rw [c2] at this
    rw [crep_vI this]
end Go.Proofs.Ytcpcghnpoekhpaa.A
/- Tries: SortFunc of fronts, as9 a contract of a slice of one's own. -/
set_option linter.unusedSimpArgs false
set_option linter.unusedVariables false
set_option maxRecDepth 100000
set_option maxHeartbeats 4000000
namespace Go.Proofs.Ytcpcghnpoekhpaa.A
open Go Go.RowKit Go.Sort
variable {w : World} {S : Nat → Prop}
theorem heapS {g n : Nat} {os : Array Obj} {cur : Array Value} {e : TypeId} {fr : Nat × Nat} (d : Array ByteArray) (hb : w.heap[g]? = some (.cells cur e fr)) :
  (grow (putRow Value.string (Sort.ahead w n) g 0 d) os).heap[g]? = some (.cells (putCells Value.string 0 d cur) e fr) := by
 have hg : g < w.heap.size := (Array.getElem?_eq_some_iff.1 hb).1
 rw [heap_grow_old _ _ (by simpa using hg)]
 simp [putRow, mapBlock, Sort.ahead, Array.getElem?_modify, hb, onCells]
theorem grownS {g n : Nat} {os : Array Obj} (d : Array ByteArray) : w.grownBy (grow (putRow Value.string (Sort.ahead w n) g 0 d) os) (some g) := by
 refine ⟨rfl, rfl, rfl, by simp, fun k hk hne => ?_⟩
 rw [heap_grow_old _ _ (by simpa using hk)]
 have : g ≠ k := fun e => hne (by rw [e])
 simp [putRow, mapBlock, Sort.ahead, Array.getElem?_modify, this]
theorem takeS (cur : Array Value) (ts : List ByteArray) (h : ts.length ≤ cur.size) : (putCells Value.string 0 ts.toArray cur).toList.take ts.length = ts.map Value.string := by
 apply List.ext_getElem?
 intro j
 by_cases hj : j < ts.length
 ·rw [List.getElem?_take_of_lt hj, Array.getElem?_toList]
  simp [putCells, hj, show j < cur.size by omega]
 ·rw [List.getElem?_take_eq_none (by omega), List.getElem?_eq_none (by simp; omega)]
theorem own_sC {v : Value} {n : Nat} {l : List ByteArray} (h : RCRep T w S (.of v) (.own strT n (sC l))) : w.ownsRow 0 strT 1 v n (l.map Value.string) := by
 obtain ⟨xs, h1, h2, h3⟩ := h
 have hx : xs = l.map Value.string := by
  apply List.ext_getElem
  ·rw [h2, sC_len, List.length_map, nS_eq]
  ·intro k hk hk2
   have hk3 : k < (sC l).length := by omega
   have := h3 k hk3 hk
   have e : (sC l)[k] = vS (l[k]'(by simpa using hk2)) := by simp [sC]
   rw [e] at this
   rw [crep_vSt this, List.getElem_map]
 rw [← hx]; exact h1
theorem sC_own {v : Value} {n : Nat} {l : List ByteArray} (h : w.ownsRow 0 strT 1 v n (l.map Value.string)) : RCRep T w S (.of v) (.own strT n (sC l)) := by
 refine ⟨_, h, by simp [sC_len, nS_eq], fun k hk hk2 => ?_⟩
 have e : (sC l)[k] = vS (l[k]'(by simpa using hk2)) := by simp [sC]
 rw [e, List.getElem_map]
 exact .val rfl
def srtF (l : List ByteArray) : List ByteArray := l.mergeSort fun x y => !(ltF y x)
theorem pco_sortF (l : List ByteArray) (n : Nat) (hl : n < 4611686018427387904) (h0 : 0 < n) : PCO Try.prog T 22 strT n (sC l) [23] false n (sC (srtF l)) := by
 intro w S v hS hv hb
 have h1 := own_sC hv
 have hlen : l.length = n := by simpa using h1.1
 have hz : v ≠ .slice none 0 0 := fun e => by
  subst e
  rcases h1.2 with ⟨_, h⟩ | ⟨_, _, _, h, _⟩
  ·omega
  ·cases h
 obtain ⟨g, cap, rfl, -, hgl, hnc, hcm, -, hH⟩ := Lib.holds_of_ownsRow h1 hz
 have hs := sort_any l.toArray g 0 cap w hH hgl (by simp; omega)
 simp only [List.size_toArray] at hs
 rw [hlen] at hs
 refine hs.mono ?_
 rintro e w' ⟨rfl, nn, os, rfl⟩
 refine ⟨_, rfl, (Chg.of_grown (grownS _)).mono fun k _ hk => ?_, ?_⟩
 ·exact hk
 ·rw [if_neg (by simp)]
  refine ⟨rfl, ?_⟩
  rcases h1.2 with ⟨h, _⟩ | ⟨g', cap', cur, hv', hbase, hheap, q1, q2, q3, q4⟩
  ·cases h
  cases hv'
  refine sC_own ⟨by unfold srtF; rw [List.length_map, List.length_mergeSort, Nat.mul_one]; exact hlen, .inr ⟨g, cap, _, rfl, hbase, heapS _ hheap, q1, q2, by simp [putCells, q3], ?_⟩⟩
  have ht := takeS cur (srtF l) (by unfold srtF; rw [List.length_mergeSort]; omega)
  have hl2 : (srtF l).length = n := by unfold srtF; rw [List.length_mergeSort]; exact hlen
  rw [hl2] at ht
  rw [Nat.mul_one]
  exact ht
end Go.Proofs.Ytcpcghnpoekhpaa.A
/- Tries: the pieces of Make, by the machine. -/
set_option linter.unusedSimpArgs false
set_option linter.unusedVariables false
set_option maxRecDepth 100000
set_option maxHeartbeats 4000000
namespace Go.Proofs.Ytcpcghnpoekhpaa.A
open Go Go.RowKit
def cL : Code → Code
 | .seq x _ => x
 | c => c
def cR : Code → Code
 | .seq _ y => y
 | c => c
noncomputable def mkB : Code := match Try.f8.body with | some c => c | none => .skip
noncomputable def mkR : Code := cR (cR (cR (cR mkB)))
noncomputable def mk0 : Code := cL mkB
noncomputable def mk1 : Code := cL (cR mkB)
noncomputable def mk2 : Code := cL (cR (cR mkB))
noncomputable def mk3 : Code := cL (cR (cR (cR mkB)))
noncomputable def mk9 : Code := cL mkR
noncomputable def mk10 : Code := cL (cR mkR)
noncomputable def mk11 : Code := cL (cR (cR mkR))
noncomputable def mk20 : Code := cL (cR (cR (cR mkR)))
noncomputable def mk26 : Code := cR (cR (cR (cR mkR)))
def ToS (T : TT) (S : St) (e : Exit) (st : St) : Prop := e = .normal ∧ Le T st S
theorem toS {P : Program} {T : TT} {j : J} (hj : j = std P T) (ks : List (Nat × KS)) (bs : List Nat) {st S' S : St} (h : canon T j ks bs st = some S') (e : S' = S) : ToS T S .normal st := by
 rw [hj] at h
 rw [← e]
 exact ⟨rfl, canon_le h⟩
def stK (n : Nat) (cells : List C) (l : List (Nat × V)) (rs : List (Nat × Root)) : St := stOf 112 ((0, .one (.c (.sl n cells))) :: l) rs
theorem mk_0 (n : Nat) (cells : List C) : Aw Try.prog T mk0 (ToS T (stK n cells [] [])) (entry 112 [.v false [.sl n cells]]) := by
 obtain ⟨j, hj⟩ : ∃ j : J, j = std Try.prog T := ⟨_, rfl⟩
 have hm : Try.prog.follows .mixedOrders = true := by kernel_rfl
 conv => arg 3; whnf
 (repeat' first | ((first | with_reducible refine tr_cut (fun h => ?_) (fun h => ?_) | refine aw_condj (by cbv) (fun h => ?_) (fun h => ?_)) <;> (try simp (disch := omega) only [hj, std, cmpI, cmpB, satB, Bool.not_eq_true, Bool.not_eq_false, decide_eq_true_eq, decide_eq_false_iff_not, beq_iff_eq, bne_iff_ne, bne_eq_false_iff_eq, beq_eq_false_iff_ne, ne_eq, reduceCtorEq, not_true_eq_false, not_false_eq_true, pl0, if_true, cmpS_eq, cmpS_neq, Bool.not_eq_eq_eq_not, Bool.not_true, Bool.not_false, Bool.not_eq_true', add64, sub64] at h) <;> (try (exfalso; omega))) | (with_reducible refine tr_alt (fun h => ?_) ?_ <;> (try (exfalso; omega))) | (with_reducible first | refine tr_ob ?_ ?_ | refine tr_done ?_) | (refine aw_tr hj tok bookM0 (by cbv) ?_) | (refine aw_seq fun K hK => ?_) | (refine aw_tr1 hj tok bookM0 (by cbv) ?_) | (refine aw_skip ?_) | (refine aw_block ?_) | (refine aw_exit ?_) | (refine aw_ret ⟨.inr rfl, ret_okj hj (by cbv) ?_ ?_⟩) | (refine aw_ret ?_) | (with_reducible first | refine th_n ?_ | refine th_r ?_ | refine th_x ?_ | refine blk_n ?_ | refine blk_r ?_ | refine blk_x ?_ | refine blk_y rfl ?_) | (refine ⟨.inr rfl, ret_okj hj (by cbv) ?_ ?_⟩) | (refine ⟨.inl rfl, ret_okj hj (by cbv) ?_ ?_⟩) | (with_reducible apply_assumption -symm -exfalso only [*]))
 exact toS hj [(0, .keep)] [] (by cbv) rfl
theorem mk_1 (n : Nat) (cells : List C) : Aw Try.prog T mk1 (ToS T (stK n cells [(3, .one (.ptr 3 0))] [(3, .box [.map .str (GM.new.set (.string ByteArray.empty) (vI 0))])])) (stK n cells [] []) := by
 obtain ⟨j, hj⟩ : ∃ j : J, j = std Try.prog T := ⟨_, rfl⟩
 have hm : Try.prog.follows .mixedOrders = true := by kernel_rfl
 conv => arg 3; whnf
 (repeat' first | ((first | with_reducible refine tr_cut (fun h => ?_) (fun h => ?_) | refine aw_condj (by cbv) (fun h => ?_) (fun h => ?_)) <;> (try simp (disch := omega) only [hj, std, cmpI, cmpB, satB, Bool.not_eq_true, Bool.not_eq_false, decide_eq_true_eq, decide_eq_false_iff_not, beq_iff_eq, bne_iff_ne, bne_eq_false_iff_eq, beq_eq_false_iff_ne, ne_eq, reduceCtorEq, not_true_eq_false, not_false_eq_true, pl0, if_true, cmpS_eq, cmpS_neq, Bool.not_eq_eq_eq_not, Bool.not_true, Bool.not_false, Bool.not_eq_true', add64, sub64] at h) <;> (try (exfalso; omega))) | (with_reducible refine tr_alt (fun h => ?_) ?_ <;> (try (exfalso; omega))) | (with_reducible first | refine tr_ob ?_ ?_ | refine tr_done ?_) | (refine aw_tr hj tok bookM0 (by cbv) ?_) | (refine aw_seq fun K hK => ?_) | (refine aw_tr1 hj tok bookM0 (by cbv) ?_) | (refine aw_skip ?_) | (refine aw_block ?_) | (refine aw_exit ?_) | (refine aw_ret ⟨.inr rfl, ret_okj hj (by cbv) ?_ ?_⟩) | (refine aw_ret ?_) | (with_reducible first | refine th_n ?_ | refine th_r ?_ | refine th_x ?_ | refine blk_n ?_ | refine blk_r ?_ | refine blk_x ?_ | refine blk_y rfl ?_) | (refine ⟨.inr rfl, ret_okj hj (by cbv) ?_ ?_⟩) | (refine ⟨.inl rfl, ret_okj hj (by cbv) ?_ ?_⟩) | (with_reducible apply_assumption -symm -exfalso only [*]))
 all_goals (try (repeat' first | with_reducible exact obl0 | with_reducible refine obl1 ?_ ?_))
 all_goals (try first | with_reducible exact True.intro | ((first | refine ob_le hj ?_ | refine ob_lei hj ?_ | refine ob_inb hj ?_ | refine ob_pos hj ?_ | refine ob_ne0 hj ?_ | refine ob_eqb hj ?_); (first | rfl | first | omega | (simp only [hj, std]; split <;> omega) | (simp (disch := omega) only [hj, std, cmpI, cmpB, satB, add64, sub64, ite0, pl0, pl2, pl3, sb0, if_true, if_false, eq_self] <;> omega) | (simp (disch := omega) [hj, std, cmpI, cmpB, satB, add64, sub64, ite0, pl0, pl2, pl3, sb0, if_true, if_false, eq_self] <;> omega))))
 exact toS hj [(0, .keep), (3, .keep)] [3] (by cbv) (by subst hj; rfl)
def stA (n : Nat) (cells : List C) (m : GM) (k : Nat) (c : List C) : St := stK n cells [(3, .one (.ptr 3 0)), (4, .one (.ptr 4 0))] [(3, .box [.map .str m]), (4, .box [.own strT k c])]
theorem mk_2 (n : Nat) (cells : List C) (m : GM) : Aw Try.prog T mk2 (ToS T (stA n cells m 1 [vS ByteArray.empty])) (stK n cells [(3, .one (.ptr 3 0))] [(3, .box [.map .str m])]) := by
 obtain ⟨j, hj⟩ : ∃ j : J, j = std Try.prog T := ⟨_, rfl⟩
 have hm : Try.prog.follows .mixedOrders = true := by kernel_rfl
 conv => arg 3; whnf
 (repeat' first | ((first | with_reducible refine tr_cut (fun h => ?_) (fun h => ?_) | refine aw_condj (by cbv) (fun h => ?_) (fun h => ?_)) <;> (try simp (disch := omega) only [hj, std, cmpI, cmpB, satB, Bool.not_eq_true, Bool.not_eq_false, decide_eq_true_eq, decide_eq_false_iff_not, beq_iff_eq, bne_iff_ne, bne_eq_false_iff_eq, beq_eq_false_iff_ne, ne_eq, reduceCtorEq, not_true_eq_false, not_false_eq_true, pl0, if_true, cmpS_eq, cmpS_neq, Bool.not_eq_eq_eq_not, Bool.not_true, Bool.not_false, Bool.not_eq_true', add64, sub64] at h) <;> (try (exfalso; omega))) | (with_reducible refine tr_alt (fun h => ?_) ?_ <;> (try (exfalso; omega))) | (with_reducible first | refine tr_ob ?_ ?_ | refine tr_done ?_) | (refine aw_tr hj tok bookM0 (by cbv) ?_) | (refine aw_seq fun K hK => ?_) | (refine aw_tr1 hj tok bookM0 (by cbv) ?_) | (refine aw_skip ?_) | (refine aw_block ?_) | (refine aw_exit ?_) | (refine aw_ret ⟨.inr rfl, ret_okj hj (by cbv) ?_ ?_⟩) | (refine aw_ret ?_) | (with_reducible first | refine th_n ?_ | refine th_r ?_ | refine th_x ?_ | refine blk_n ?_ | refine blk_r ?_ | refine blk_x ?_ | refine blk_y rfl ?_) | (refine ⟨.inr rfl, ret_okj hj (by cbv) ?_ ?_⟩) | (refine ⟨.inl rfl, ret_okj hj (by cbv) ?_ ?_⟩) | (with_reducible apply_assumption -symm -exfalso only [*]))
 all_goals (try (repeat' first | with_reducible exact obl0 | with_reducible refine obl1 ?_ ?_))
 all_goals (try first | with_reducible exact True.intro | ((first | refine ob_le hj ?_ | refine ob_lei hj ?_ | refine ob_inb hj ?_ | refine ob_pos hj ?_ | refine ob_ne0 hj ?_ | refine ob_eqb hj ?_); (first | rfl | first | omega | (simp only [hj, std]; split <;> omega) | (simp (disch := omega) only [hj, std, cmpI, cmpB, satB, add64, sub64, ite0, pl0, pl2, pl3, sb0, if_true, if_false, eq_self] <;> omega) | (simp (disch := omega) [hj, std, cmpI, cmpB, satB, add64, sub64, ite0, pl0, pl2, pl3, sb0, if_true, if_false, eq_self] <;> omega))))
 exact toS hj [(0, .keep), (3, .keep), (4, .keep)] [3, 4] (by cbv) (by subst hj; rfl)
def bookSo (D : List C) : Book := fun f xs => match f, xs with
 | 22, [.v false [.sl n cs], .fn 23] => some (⟨false, []⟩, [.loose [.own strT n D]])
 | _, _ => none
theorem e_SF : Enters Try.prog 22 := enters Try.func22 (by kernel_rfl) (by kernel_rfl)
theorem ob_pcoT {P : Program} {T : TT} {j : J} (hj : j = std P T) {f : FuncId} {e : TypeId} {n : Nat} {cells : List C} {gs : List FuncId} {ret : Bool} {n' : Nat} {cells' : List C} (h : Enters P f) (k : PCO P T f e n cells gs ret n' cells') : j.pco f e n cells gs ret n' cells' := by rw [hj]; exact ⟨h, k⟩
def stB (n : Nat) (cells : List C) (m : GM) (k : Nat) (c : List C) : St := stK n cells [(3, .one (.ptr 3 0)), (4, .one (.ptr 4 0))] [(3, .box [.map .str m]), (4, .box [.st (.sl k c)])]
theorem mk_9 (n : Nat) (cells : List C) (m : GM) (k : Nat) (c D : List C) (hv : ∀ c ∈ D, ∃ v, c = .val v) (hs : PCO Try.prog T 22 strT k c [23] false k D) : Aw Try.prog T mk9 (ToS T (stB n cells m k D)) (stA n cells m k c) := by
 obtain ⟨j, hj⟩ : ∃ j : J, j = std Try.prog T := ⟨_, rfl⟩
 have hm : Try.prog.follows .mixedOrders = true := by kernel_rfl
 conv => arg 3; whnf
 (repeat' first | ((first | with_reducible refine tr_cut (fun h => ?_) (fun h => ?_) | refine aw_condj (by cbv) (fun h => ?_) (fun h => ?_)) <;> (try simp (disch := omega) only [hj, std, cmpI, cmpB, satB, Bool.not_eq_true, Bool.not_eq_false, decide_eq_true_eq, decide_eq_false_iff_not, beq_iff_eq, bne_iff_ne, bne_eq_false_iff_eq, beq_eq_false_iff_ne, ne_eq, reduceCtorEq, not_true_eq_false, not_false_eq_true, pl0, if_true, cmpS_eq, cmpS_neq, Bool.not_eq_eq_eq_not, Bool.not_true, Bool.not_false, Bool.not_eq_true', add64, sub64] at h) <;> (try (exfalso; omega))) | (with_reducible refine tr_alt (fun h => ?_) ?_ <;> (try (exfalso; omega))) | (with_reducible first | refine tr_ob ?_ ?_ | refine tr_done ?_) | (refine aw_tr hj tok (bookSo D) (by cbv) ?_) | (refine aw_seq fun K hK => ?_) | (refine aw_tr1 hj tok (bookSo D) (by cbv) ?_) | (refine aw_skip ?_) | (refine aw_block ?_) | (refine aw_exit ?_) | (refine aw_ret ⟨.inr rfl, ret_okj hj (by cbv) ?_ ?_⟩) | (refine aw_ret ?_) | (with_reducible first | refine th_n ?_ | refine th_r ?_ | refine th_x ?_ | refine blk_n ?_ | refine blk_r ?_ | refine blk_x ?_ | refine blk_y rfl ?_) | (refine ⟨.inr rfl, ret_okj hj (by cbv) ?_ ?_⟩) | (refine ⟨.inl rfl, ret_okj hj (by cbv) ?_ ?_⟩) | (with_reducible apply_assumption -symm -exfalso only [*]))
 all_goals (try (repeat' first | with_reducible exact obl0 | with_reducible refine obl1 ?_ ?_))
 all_goals (try first | with_reducible exact True.intro | ((first | refine ob_le hj ?_ | refine ob_lei hj ?_ | refine ob_inb hj ?_ | refine ob_pos hj ?_ | refine ob_ne0 hj ?_ | refine ob_eqb hj ?_); (first | rfl | first | omega | (simp only [hj, std]; split <;> omega) | (simp (disch := omega) only [hj, std, cmpI, cmpB, satB, add64, sub64, ite0, pl0, pl2, pl3, sb0, if_true, if_false, eq_self] <;> omega) | (simp (disch := omega) [hj, std, cmpI, cmpB, satB, add64, sub64, ite0, pl0, pl2, pl3, sb0, if_true, if_false, eq_self] <;> omega))) | ((exact ob_pcoT hj e_SF hs)))
 exact toS hj [(0, .keep), (3, .keep), (4, .keep), (4, .bfz 0)] [3, 4] (by cbv) (by subst hj; rfl)
abbrev stO : TypeId := 36
def stC (n : Nat) (cells : List C) (m : GM) (k : Nat) (c : List C) (o : Nat) (d : List C) : St := stK n cells [(3, .one (.ptr 3 0)), (4, .one (.ptr 4 0)), (9, .one (.ptr 9 0))] [(3, .box [.map .str m]), (4, .box [.st (.sl k c)]), (9, .box [.tree shO (.sl o d) none])]
def stC0 (n : Nat) (cells : List C) (m : GM) (k : Nat) (c : List C) (o : Nat) (d : List C) : St := stK n cells [(3, .one (.ptr 3 0)), (4, .one (.ptr 4 0)), (9, .one (.ptr 9 0))] [(3, .box [.map .str m]), (4, .box [.st (.sl k c)]), (9, .box [.own stO o d])]
theorem mC_rep : ∀ k, (repC k [vI 0, .nil]).length = (mC (List.replicate k (0, []))).length ∧ ∀ i (h1 : i < (repC k [vI 0, C.nil]).length) (h2 : i < (mC (List.replicate k (0, []))).length), (i % 2 = 0 ∧ (mC (List.replicate k (0, [])))[i] = (repC k [vI 0, C.nil])[i]) ∨ (i % 2 = 1 ∧ (repC k [vI 0, C.nil])[i] = .nil ∧ (mC (List.replicate k (0, [])))[i] = .sl 0 [])
 | 0 => ⟨rfl, fun i h1 => absurd h1 (by simp [repC])⟩
 | k + 1 => by
  obtain ⟨h1, h2⟩ := mC_rep k
  have e1 : repC (k + 1) [vI 0, C.nil] = vI 0 :: .nil :: repC k [vI 0, .nil] := by unfold repC; rw [List.replicate_succ, List.flatten_cons]; rfl
  have e2 : mC (List.replicate (k + 1) (0, [])) = vI 0 :: .sl 0 [] :: mC (List.replicate k (0, [])) := rfl
  rw [e1, e2]
  refine ⟨by simp [h1], fun i q1 q2 => ?_⟩
  match i with
  | 0 => exact .inl ⟨rfl, rfl⟩
  | 1 => exact .inr ⟨rfl, rfl, rfl⟩
  | i + 2 =>
   have := h2 i (by simpa using q1) (by simpa using q2)
   simp only [List.getElem_cons_succ, Nat.add_mod_right]
   exact this
theorem le_stC (n : Nat) (cells : List C) (m : GM) (k : Nat) (c : List C) : Le T (stC0 n cells m k c k (repC k [vI 0, .nil])) (stC n cells m k c k (mC (List.replicate k (0, [])))) := by
 obtain ⟨h1, h2⟩ := mC_rep k
 refine le_tree (t := 9) (e := stO) (ks := [.st, .sl egT [.st, .st]]) (ds := mC (List.replicate k (0, []))) rfl rfl h1 (fun i q1 q2 => ?_) (fun h => by subst h; rfl) (fun h => by have h2 : (9 : Nat) = 112 := h; omega)
 have hz : szOf T stO = 2 := by rfl
 rw [hz]
 rcases h2 i q1 q2 with ⟨r1, r2⟩ | ⟨r1, r2, r3⟩
 ·exact .inl ⟨by rw [r1]; rfl, r2⟩
 ·exact .inr ⟨⟨_, _, by rw [r1]; rfl⟩, r2, r3⟩
theorem mk_10 (n : Nat) (cells : List C) (m : GM) (k : Nat) (c : List C) (hk : k ≤ 100000) : Aw Try.prog T mk10 (ToS T (stC0 n cells m k c k (repC k [vI 0, .nil]))) (stB n cells m k c) := by
 obtain ⟨j, hj⟩ : ∃ j : J, j = std Try.prog T := ⟨_, rfl⟩
 have hm : Try.prog.follows .mixedOrders = true := by kernel_rfl
 conv => arg 3; whnf
 (repeat' first | ((first | with_reducible refine tr_cut (fun h => ?_) (fun h => ?_) | refine aw_condj (by cbv) (fun h => ?_) (fun h => ?_)) <;> (try simp (disch := omega) only [hj, std, cmpI, cmpB, satB, Bool.not_eq_true, Bool.not_eq_false, decide_eq_true_eq, decide_eq_false_iff_not, beq_iff_eq, bne_iff_ne, bne_eq_false_iff_eq, beq_eq_false_iff_ne, ne_eq, reduceCtorEq, not_true_eq_false, not_false_eq_true, pl0, if_true, cmpS_eq, cmpS_neq, Bool.not_eq_eq_eq_not, Bool.not_true, Bool.not_false, Bool.not_eq_true', add64, sub64] at h) <;> (try (exfalso; omega))) | (with_reducible refine tr_alt (fun h => ?_) ?_ <;> (try (exfalso; omega))) | (with_reducible first | refine tr_ob ?_ ?_ | refine tr_done ?_) | (refine aw_tr hj tok bookM0 (by cbv) ?_) | (refine aw_seq fun K hK => ?_) | (refine aw_tr1 hj tok bookM0 (by cbv) ?_) | (refine aw_skip ?_) | (refine aw_block ?_) | (refine aw_exit ?_) | (refine aw_ret ⟨.inr rfl, ret_okj hj (by cbv) ?_ ?_⟩) | (refine aw_ret ?_) | (with_reducible first | refine th_n ?_ | refine th_r ?_ | refine th_x ?_ | refine blk_n ?_ | refine blk_r ?_ | refine blk_x ?_ | refine blk_y rfl ?_) | (refine ⟨.inr rfl, ret_okj hj (by cbv) ?_ ?_⟩) | (refine ⟨.inl rfl, ret_okj hj (by cbv) ?_ ?_⟩) | (with_reducible apply_assumption -symm -exfalso only [*]))
 all_goals (try (repeat' first | with_reducible exact obl0 | with_reducible refine obl1 ?_ ?_))
 all_goals (try first | with_reducible exact True.intro | ((first | refine ob_le hj ?_ | refine ob_lei hj ?_ | refine ob_inb hj ?_ | refine ob_pos hj ?_ | refine ob_ne0 hj ?_ | refine ob_eqb hj ?_); (first | rfl | first | omega | (simp only [hj, std]; split <;> omega) | (simp (disch := omega) only [hj, std, cmpI, cmpB, satB, add64, sub64, ite0, pl0, pl2, pl3, sb0, if_true, if_false, eq_self] <;> omega) | (simp (disch := omega) [hj, std, cmpI, cmpB, satB, add64, sub64, ite0, pl0, pl2, pl3, sb0, if_true, if_false, eq_self] <;> omega))))
 exact toS hj [(0, .keep), (3, .keep), (4, .keep), (9, .keep)] [3, 4, 9] (by cbv) (by subst hj; rfl)
end Go.Proofs.Ytcpcghnpoekhpaa.A
/- Tries: Make's loop over the fronts, by the machine. -/
set_option linter.unusedSimpArgs false
set_option linter.unusedVariables false
set_option maxRecDepth 100000
set_option maxHeartbeats 4000000
namespace Go.Proofs.Ytcpcghnpoekhpaa.A
open Go Go.RowKit
def posI (G : List ByteArray) (i : Nat) (b : ByteArray) : Int := if inL (G.take i) b = true then ixL G b else 0
theorem posI_set {G : List ByteArray} (h : FG G) {i : Nat} (hi : i < G.length) (b : ByteArray) : (if G[i] = b then (i : Int) else posI G i b) = posI G (i + 1) b := by
 unfold posI
 rw [List.take_succ_eq_append_getElem hi, inL_app]
 by_cases e : G[i] = b
 ·rw [if_pos e, decide_eq_true e, Bool.or_true, if_pos rfl, ← e, h.ix hi]
 ·rw [if_neg e, decide_eq_false e, Bool.or_false]
theorem posI_get {G : List ByteArray} (h : FG G) {i p : Nat} (hp : p < G.length) (hi : p < i) : posI G i G[p] = p := by
 unfold posI
 rw [if_pos (inL_iff.2 ?_), h.ix hp]
 exact List.mem_take_iff_getElem.2 ⟨p, by omega, rfl⟩
theorem setC_1 {cs : List C} {k : Nat} (h : k < cs.length) (c : C) : setC cs k [c] = cs.set k c := by
 unfold setC
 rw [List.set_eq_take_append_cons_drop, if_pos h]; simp
theorem mC_setA : ∀ (S : List Sta) (k : Nat) (v : Int), k < S.length → (mC S).set (k * 2) (vI v) = mC (S.set k (v, (mAt S k).2))
 | [], k, v, h => by simp at h
 | s :: S, 0, v, _ => rfl
 | s :: S, k + 1, v, h => by
  have := mC_setA S k v (by simpa using h)
  rw [mC_cons, show (k + 1) * 2 = k * 2 + 1 + 1 by omega, List.set_cons_succ, List.set_cons_succ, this]; rfl
theorem mC_setB : ∀ (S : List Sta) (k : Nat) (l : List Eg), k < S.length → (mC S).set (k * 2 + 1) (.sl (nE l) (eC l)) = mC (S.set k ((mAt S k).1, l))
 | [], k, l, h => by simp at h
 | s :: S, 0, l, _ => rfl
 | s :: S, k + 1, l, h => by
  have := mC_setB S k l (by simpa using h)
  rw [mC_cons, show (k + 1) * 2 + 1 = k * 2 + 1 + 1 + 1 by omega, List.set_cons_succ, List.set_cons_succ, this]; rfl
theorem mC_set {S : List Sta} {k : Nat} (v : Int) (h : k < S.length) : setC (mC S) (k * 2) [vI v] = mC (S.set k (v, (mAt S k).2)) := by
 rw [setC_1 (by rw [mC_len, nM_eq]; omega), mC_setA S k v h]
theorem mC_set2 {S : List Sta} {k : Nat} (l : List Eg) (h : k < S.length) : setC (mC S) (k * 2 + 1) [.sl (nE l) (eC l)] = mC (S.set k ((mAt S k).1, l)) := by
 rw [setC_1 (by rw [mC_len, nM_eq]; omega), mC_setB S k l h]
def stMk (n : Nat) (cells : List C) (m : GM) (o : Nat) (d : List C) : St := stK n cells [(3, .one (.ptr 3 0)), (9, .one (.ptr 9 0))] [(3, .box [.map .str m]), (9, .box [.tree shO (.sl o d) none])]
theorem mk_11 (n : Nat) (cells : List C) (m : GM) (G : List ByteArray) (hF : FG G) (hn : G.length ≤ 100000) (hm0 : ∀ b, mgetC m.ks m.vs (.string b) (vI 0) = vI 0) (hw : ∀ b ∈ G, b.size ≤ 1000) :
  Aw Try.prog T mk11 (fun e st => e = .normal ∧ ∃ m', (∀ b, mgetC m'.ks m'.vs (.string b) (vI 0) = vI (posI G G.length b)) ∧ Le T st (stMk n cells m' (nM (treeI G G.length)) (mC (treeI G G.length)))) (stC n cells m (nS G) (sC G) (nM (treeI G 0)) (mC (treeI G 0))) := by
 have ng := nS_eq G
 have lg := sC_len G
 have hlen := fun i => (nM_eq (treeI G i)).trans (treeI_len G i)
 have mlen := fun i => mC_len (treeI G i)
 obtain ⟨j, hj⟩ : ∃ j : J, j = std Try.prog T := ⟨_, rfl⟩
 have hm : Try.prog.follows .mixedOrders = true := by kernel_rfl
 conv => arg 3; whnf
 generalize y_sC : @sC = x_sC at *
 generalize y_nS : @nS = x_nS at *
 generalize y_eC : @eC = x_eC at *
 generalize y_nE : @nE = x_nE at *
 generalize y_mC : @mC = x_mC at *
 generalize y_nM : @nM = x_nM at *
 (repeat' first | ((first | with_reducible refine tr_cut (fun h => ?_) (fun h => ?_) | refine aw_condj (by cbv) (fun h => ?_) (fun h => ?_)) <;> (try simp (disch := omega) only [hj, std, cmpI, cmpB, satB, Bool.not_eq_true, Bool.not_eq_false, decide_eq_true_eq, decide_eq_false_iff_not, beq_iff_eq, bne_iff_ne, bne_eq_false_iff_eq, beq_eq_false_iff_ne, ne_eq, reduceCtorEq, not_true_eq_false, not_false_eq_true, pl0, if_true, cmpS_eq, cmpS_neq, Bool.not_eq_eq_eq_not, Bool.not_true, Bool.not_false, Bool.not_eq_true', add64, sub64] at h) <;> (try (exfalso; omega))) | (with_reducible refine tr_alt (fun h => ?_) ?_ <;> (try (exfalso; omega))) | (with_reducible first | refine tr_ob ?_ ?_ | refine tr_done ?_) | (refine aw_tr hj tok bookM0 (by cbv) ?_) | (refine aw_seq fun K hK => ?_) | (refine aw_tr1 hj tok bookM0 (by cbv) ?_) | (refine aw_skip ?_) | (refine aw_block ?_) | (refine aw_exit ?_) | (refine aw_ret ⟨.inr rfl, ret_okj hj (by cbv) ?_ ?_⟩) | (refine aw_ret ?_) | (with_reducible first | refine th_n ?_ | refine th_r ?_ | refine th_x ?_ | refine blk_n ?_ | refine blk_r ?_ | refine blk_x ?_ | refine blk_y rfl ?_) | (refine ⟨.inr rfl, ret_okj hj (by cbv) ?_ ?_⟩) | (refine ⟨.inl rfl, ret_okj hj (by cbv) ?_ ?_⟩) | (with_reducible first | refine ⟨(_, _, _, _), by cbv, ?_, ?_⟩ | refine ⟨(_, _), by cbv, ?_, ?_⟩ | refine ⟨_, by cbv, ?_, ?_⟩) | (with_reducible apply_assumption -symm -exfalso only [*]))
 all_goals ((try subst y_sC); (try subst y_nS); (try subst y_eC); (try subst y_nE); (try subst y_mC); (try subst y_nM))
 all_goals (try (repeat' first | with_reducible exact obl0 | (with_reducible refine obl1 ?_ ?_)))
 all_goals (try first | with_reducible exact True.intro | ((first | refine ob_le hj ?_ | refine ob_lei hj ?_ | refine ob_inb hj ?_ | refine ob_pos hj ?_ | refine ob_ne0 hj ?_ | refine ob_eqb hj ?_); (first | rfl | first | omega | (simp only [hj, std]; split <;> omega) | (simp (disch := omega) only [hj, std, cmpI, cmpB, satB, add64, sub64, ite0, pl0, pl2, pl3, sb0, if_true, if_false, eq_self] <;> omega) | (simp (disch := omega) [hj, std, cmpI, cmpB, satB, add64, sub64, ite0, pl0, pl2, pl3, sb0, if_true, if_false, eq_self] <;> omega))))
 refine aw_lpj hj [(0, .keep), (3, .keep), (9, .keep), (43, .keep), (44, .keep), (45, .keep)] [3, 9] (fun (⟨i, m1, o, d⟩ : Int × GM × Nat × (List C)) => stOf 112 [(0, .one (.c (.sl n cells))), (3, .one (.ptr 3 0)), (9, .one (.ptr 9 0)), (43, .one (.c (.sl (nS G) (sC G)))), (44, .one (.c (vI (j.ofNat (nS G))))), (45, .one (.c (vI i)))] [(3, .box [.map .str m1]), (9, .box [.tree shO (.sl o d) none])]) (fun (⟨i, m1, o, d⟩ : Int × GM × Nat × (List C)) => nS G - i.toNat) (fun (⟨i, m1, o, d⟩ : Int × GM × Nat × (List C)) => 0 ≤ i ∧ i ≤ nS G ∧ o = nM (treeI G i.toNat) ∧ d = mC (treeI G i.toNat) ∧ ∀ b, mgetC m1.ks m1.vs (.string b) (vI 0) = vI (posI G i.toNat b)) ((0, m, nM (treeI G 0), mC (treeI G 0))) (by generalize @sC = x_sC; generalize @nS = x_nS; generalize @eC = x_eC; generalize @nE = x_nE; generalize @mC = x_mC; generalize @nM = x_nM; cbv) ?_ (fun ⟨i, m1, o, d⟩ hI => ?_)
 ·exact ⟨by omega, by omega, rfl, rfl, fun b => by rw [hm0]; unfold posI; simp [inL]⟩
 obtain ⟨i1, i2, rfl, rfl, hmi⟩ := hI
 generalize y_sC : @sC = x_sC at *
 generalize y_nS : @nS = x_nS at *
 generalize y_eC : @eC = x_eC at *
 generalize y_nE : @nE = x_nE at *
 generalize y_mC : @mC = x_mC at *
 generalize y_nM : @nM = x_nM at *
 (repeat' first | (with_reducible first | refine aw_stop (id := 15) ?_ | refine aw_stop1 (id := 15) ?_ | refine aw_stop2 (id := 15) ?_) | ((first | with_reducible refine tr_cut (fun h => ?_) (fun h => ?_) | refine aw_condj (by cbv) (fun h => ?_) (fun h => ?_)) <;> (try simp (disch := omega) only [hj, std, cmpI, cmpB, satB, Bool.not_eq_true, Bool.not_eq_false, decide_eq_true_eq, decide_eq_false_iff_not, beq_iff_eq, bne_iff_ne, bne_eq_false_iff_eq, beq_eq_false_iff_ne, ne_eq, reduceCtorEq, not_true_eq_false, not_false_eq_true, pl0, if_true, cmpS_eq, cmpS_neq, Bool.not_eq_eq_eq_not, Bool.not_true, Bool.not_false, Bool.not_eq_true', gs_sC, add64, sub64] at h) <;> (try (exfalso; omega))) | (with_reducible refine tr_alt (fun h => ?_) ?_ <;> (try (exfalso; omega))) | (with_reducible first | refine tr_ob ?_ ?_ | refine tr_done ?_) | (refine aw_tr hj tok bookM0 (by cbv) ?_) | (refine aw_seq fun K hK => ?_) | (refine aw_tr1 hj tok bookM0 (by cbv) ?_) | (refine aw_skip ?_) | (refine aw_block ?_) | (refine aw_exit ?_) | (refine aw_ret ⟨.inr rfl, ret_okj hj (by cbv) ?_ ?_⟩) | (refine aw_ret ?_) | (with_reducible first | refine th_n ?_ | refine th_r ?_ | refine th_x ?_ | refine blk_n ?_ | refine blk_r ?_ | refine blk_x ?_ | refine blk_y rfl ?_) | (refine ⟨.inr rfl, ret_okj hj (by cbv) ?_ ?_⟩) | (refine ⟨.inl rfl, ret_okj hj (by cbv) ?_ ?_⟩) | (with_reducible first | refine ⟨(_, _, _, _), by cbv, ?_, ?_⟩ | refine ⟨(_, _), by cbv, ?_, ?_⟩ | refine ⟨_, by cbv, ?_, ?_⟩) | (with_reducible apply_assumption -symm -exfalso only [*]))
 all_goals ((try subst y_sC); (try subst y_nS); (try subst y_eC); (try subst y_nE); (try subst y_mC); (try subst y_nM))
 all_goals (try (repeat' first | with_reducible exact obl0 | (with_reducible refine obl1 ?_ ?_)))
 all_goals (try first | with_reducible exact True.intro | ((first | refine ob_le hj ?_ | refine ob_lei hj ?_ | refine ob_inb hj ?_ | refine ob_pos hj ?_ | refine ob_ne0 hj ?_ | refine ob_eqb hj ?_); (first | rfl | first | omega | (simp only [hj, std]; split <;> omega) | (simp (disch := omega) only [hj, std, cmpI, cmpB, satB, add64, sub64, ite0, pl0, pl2, pl3, sb0, if_true, if_false, eq_self, lg, gs_sC] <;> omega) | (simp (disch := omega) [hj, std, cmpI, cmpB, satB, add64, sub64, ite0, pl0, pl2, pl3, sb0, if_true, if_false, eq_self, lg, gs_sC] <;> omega))) | ((refine ob_ok hj ?_; simp only [hj, std]; exact ok_sC (by omega))))
 rotate_left
 ·have hie : i.toNat = G.length := by omega
  rw [hie] at hmi ⊢
  generalize nM (treeI G G.length) = o9
  generalize mC (treeI G G.length) = d9
  exact ⟨rfl, m1, hmi, (toS hj [(0, .keep), (3, .keep), (9, .keep)] [3, 9] (by cbv) rfl).2⟩
 refine stop_go ?_; refine aw_joinj hj [(0, .keep), (3, .keep), (9, .keep), (10, .keep), (11, .keep), (43, .keep), (44, .keep), (45, .keep)] [3, 9] (fun (⟨w, m2, o, d⟩ : ByteArray × GM × Nat × (List C)) => stOf 112 [(0, .one (.c (.sl n cells))), (3, .one (.ptr 3 0)), (9, .one (.ptr 9 0)), (10, .one (.c (vI i))), (11, .one (.c (vS w))), (43, .one (.c (.sl (nS G) (sC G)))), (44, .one (.c (vI (j.ofNat (nS G))))), (45, .one (.c (vI i)))] [(3, .box [.map .str m2]), (9, .box [.tree shO (.sl o d) none])]) (fun (⟨w, m2, o, d⟩ : ByteArray × GM × Nat × (List C)) => w = sAt G i.toNat ∧ m2 = m1.set (.string w) (vI i) ∧ o = nM (treeI G i.toNat) ∧ d = setC (mC (treeI G i.toNat)) (i.toNat * 2) [vI (-1)]) ?_ (fun ⟨w, m2, o, d⟩ hI => ?_)
 ·generalize y_sC : @sC = x_sC at *
  generalize y_nS : @nS = x_nS at *
  generalize y_eC : @eC = x_eC at *
  generalize y_nE : @nE = x_nE at *
  generalize y_mC : @mC = x_mC at *
  generalize y_nM : @nM = x_nM at *
  (repeat' first | ((first | with_reducible refine tr_cut (fun h => ?_) (fun h => ?_) | refine aw_condj (by cbv) (fun h => ?_) (fun h => ?_)) <;> (try simp (disch := omega) only [hj, std, cmpI, cmpB, satB, Bool.not_eq_true, Bool.not_eq_false, decide_eq_true_eq, decide_eq_false_iff_not, beq_iff_eq, bne_iff_ne, bne_eq_false_iff_eq, beq_eq_false_iff_ne, ne_eq, reduceCtorEq, not_true_eq_false, not_false_eq_true, pl0, if_true, cmpS_eq, cmpS_neq, Bool.not_eq_eq_eq_not, Bool.not_true, Bool.not_false, Bool.not_eq_true', gs_sC, add64, sub64] at h) <;> (try (exfalso; omega))) | (with_reducible refine tr_alt (fun h => ?_) ?_ <;> (try (exfalso; omega))) | (with_reducible first | refine tr_ob ?_ ?_ | refine tr_done ?_) | (refine aw_dc1 (id := 14) hj tok hm bookM0 [1, 3, 4] (.alt 0 (.alt 2 (.last 5 (.take 6 (.take 7 (.last 8 .done)))) (.last 5 (.last 2 (.take 6 (.take 7 (.last 8 .done)))))) (.last 2 (.last 0 (.last 5 (.take 6 (.take 7 (.last 8 .done))))))) (by kernel_rfl) (by cbv) ?_) | (refine aw_dc (id := 14) hj tok hm bookM0 [1, 3, 4] (.alt 0 (.alt 2 (.last 5 (.take 6 (.take 7 (.last 8 .done)))) (.last 5 (.last 2 (.take 6 (.take 7 (.last 8 .done)))))) (.last 2 (.last 0 (.last 5 (.take 6 (.take 7 (.last 8 .done))))))) (by kernel_rfl) (by cbv) ?_) | (refine aw_tr hj tok bookM0 (by cbv) ?_) | (refine aw_seq fun K hK => ?_) | (refine aw_tr1 hj tok bookM0 (by cbv) ?_) | (refine aw_skip ?_) | (refine aw_block ?_) | (refine aw_exit ?_) | (refine aw_ret ⟨.inr rfl, ret_okj hj (by cbv) ?_ ?_⟩) | (refine aw_ret ?_) | (with_reducible first | refine th_n ?_ | refine th_r ?_ | refine th_x ?_ | refine blk_n ?_ | refine blk_r ?_ | refine blk_x ?_ | refine blk_y rfl ?_) | (refine ⟨.inr rfl, ret_okj hj (by cbv) ?_ ?_⟩) | (refine ⟨.inl rfl, ret_okj hj (by cbv) ?_ ?_⟩) | (with_reducible first | refine ⟨(_, _, _, _), by cbv, ?_, ?_⟩ | refine ⟨(_, _), by cbv, ?_, ?_⟩ | refine ⟨_, by cbv, ?_, ?_⟩) | (with_reducible apply_assumption -symm -exfalso only [*]))
  all_goals ((try subst y_sC); (try subst y_nS); (try subst y_eC); (try subst y_nE); (try subst y_mC); (try subst y_nM))
  all_goals (try (repeat' first | with_reducible exact obl0 | (with_reducible refine obl1 ?_ ?_)))
  all_goals (try first | with_reducible exact True.intro | ((first | refine ob_le hj ?_ | refine ob_lei hj ?_ | refine ob_inb hj ?_ | refine ob_pos hj ?_ | refine ob_ne0 hj ?_ | refine ob_eqb hj ?_); (first | rfl | first | omega | (simp only [hj, std]; split <;> omega) | (simp (disch := omega) only [hj, std, cmpI, cmpB, satB, add64, sub64, ite0, pl0, pl2, pl3, sb0, if_true, if_false, eq_self, mlen, hlen] <;> omega) | (simp (disch := omega) [hj, std, cmpI, cmpB, satB, add64, sub64, ite0, pl0, pl2, pl3, sb0, if_true, if_false, eq_self, mlen, hlen] <;> omega))) | ((refine ob_inb hj ?_; simp only [hj, std, hlen]; omega)) | ((subst hj; exact ⟨gs_sC G _, rfl, rfl, rfl⟩)) | (exact True.intro))
 obtain ⟨hw1, hm2, rfl, hd⟩ := hI
 have f1 : (i + 1).toNat = i.toNat + 1 := by omega
 have hil : i.toNat < G.length := by omega
 have hwG : G[i.toNat] = w := by rw [hw1]; show _ = List.getD _ _ _; rw [gD _ _ hil]
 have hws : w.size ≤ 1000 := hw w (by rw [← hwG]; exact List.getElem_mem hil)
 have hg2 : ∀ b, mgetC m2.ks m2.vs (.string b) (vI 0) = vI (posI G (i.toNat + 1) b) := fun b => by
  have := mget_set m1 w b (vI i) (vI 0)
  unfold mgetS at this
  rw [hm2, this, hmi, ← posI_set hF hil b, hwG]
  split
  ·rw [Int.toNat_of_nonneg i1]
  ·rfl
 have hdl : d.length = nM (treeI G i.toNat) * 2 := by rw [hd, mC_set _ (by rw [treeI_len]; exact hil), mC_len, nM_eq, nM_eq, List.length_set]
 have hz0 : ¬ 0 < w.size → d = mC (treeI G (i.toNat + 1)) := fun hz => by
  rw [hd, mC_set _ (by rw [treeI_len]; exact hil), treeI_first hil (by rw [hwG]; omega)]
 have hzp : 0 < w.size → ∃ p, p < G.length ∧ p < i.toNat ∧ w.extract 0 (w.size - 1) = sAt G p ∧ posI G (i.toNat + 1) (w.extract 0 (w.size - 1)) = p ∧ ∃ es : List Eg, es.length ≤ 100000 ∧ cellAt d (p * 2 + 1) = .sl (nE es) (eC es) ∧ setC d (p * 2 + 1) [.sl (nE es + 1) (eC es ++ [vI (bt w (w.size - 1)), vI i])] = mC (treeI G (i.toNat + 1)) := fun hz => by
  obtain ⟨p, hp, he, hpi⟩ := hF.par hil (by rw [hwG]; exact hz)
  rw [hwG] at he
  have hdw : w.extract 0 (w.size - 1) = dl w := rfl
  have hbt : ((bt w (w.size - 1) : Nat) : Int) = la w := rfl
  have hgt := treeI_get G i.toNat hp
  have hm9 : mAt ((treeI G i.toNat).set i.toNat (-1, (mAt (treeI G i.toNat) i.toNat).2)) p = mAt (treeI G i.toNat) p := by
   show List.getD _ _ _ = List.getD _ _ _
   rw [List.getD_eq_getElem?_getD, List.getD_eq_getElem?_getD, List.getElem?_set, if_neg (by omega)]
  have hlen9 : p < ((treeI G i.toNat).set i.toNat (-1, (mAt (treeI G i.toNat) i.toNat).2)).length := by rw [List.length_set, treeI_len]; exact hp
  refine ⟨p, hp, hpi, by rw [hdw, ← he]; exact (gD _ _ hp).symm, by rw [hdw, ← he]; exact posI_get hF hp (by omega), (mAt (treeI G i.toNat) p).2, ?_, ?_, ?_⟩
  ·rw [hgt]
   refine Nat.le_trans (chilG_len _ _ _) ?_
   rw [List.length_take]; omega
  ·rw [hd, mC_set _ (by rw [treeI_len]; exact hil), (mC_at _ p hlen9).2, hm9]
  ·have hnx := treeI_next hF hil hp (by rw [hwG]; exact hz) (he.trans (by rw [hwG])) hpi
   rw [hwG] at hnx
   rw [← hnx, hd, mC_set _ (by rw [treeI_len]; exact hil), eC_snoc, show ∀ (l : List Eg) (e : Eg), nE l + 1 = nE (l ++ [e]) from fun l e => by rw [nE_eq, nE_eq, List.length_append]; rfl, mC_set2 _ hlen9, hm9, hbt, Int.toNat_of_nonneg i1]
   congr 3
   rw [hgt]; exact if_pos hpi
 clear hw1 hm2 hd hmi
 rcases Decidable.em (0 < w.size) with hz | hz
 rotate_left
 ·have hdd := hz0 hz
  clear hz0 hzp
  generalize y_sC : @sC = x_sC at *
  generalize y_nS : @nS = x_nS at *
  generalize y_eC : @eC = x_eC at *
  generalize y_nE : @nE = x_nE at *
  generalize y_mC : @mC = x_mC at *
  generalize y_nM : @nM = x_nM at *
  (repeat' first | ((first | with_reducible refine tr_cut (fun h => ?_) (fun h => ?_) | refine aw_condj (by cbv) (fun h => ?_) (fun h => ?_)) <;> (try simp (disch := omega) only [hj, std, cmpI, cmpB, satB, Bool.not_eq_true, Bool.not_eq_false, decide_eq_true_eq, decide_eq_false_iff_not, beq_iff_eq, bne_iff_ne, bne_eq_false_iff_eq, beq_eq_false_iff_ne, ne_eq, reduceCtorEq, not_true_eq_false, not_false_eq_true, pl0, if_true, cmpS_eq, cmpS_neq, Bool.not_eq_eq_eq_not, Bool.not_true, Bool.not_false, Bool.not_eq_true', gs_sC, add64, sub64] at h) <;> (try (exfalso; omega))) | (with_reducible refine tr_alt (fun h => ?_) ?_ <;> (try (exfalso; omega))) | (with_reducible first | refine tr_ob ?_ ?_ | refine tr_done ?_) | (refine aw_tr hj tok bookM0 (by cbv) ?_) | (refine aw_seq fun K hK => ?_) | (refine aw_tr1 hj tok bookM0 (by cbv) ?_) | (refine aw_skip ?_) | (refine aw_block ?_) | (refine aw_exit ?_) | (refine aw_ret ⟨.inr rfl, ret_okj hj (by cbv) ?_ ?_⟩) | (refine aw_ret ?_) | (with_reducible first | refine th_n ?_ | refine th_r ?_ | refine th_x ?_ | refine blk_n ?_ | refine blk_r ?_ | refine blk_x ?_ | refine blk_y rfl ?_) | (refine ⟨.inr rfl, ret_okj hj (by cbv) ?_ ?_⟩) | (refine ⟨.inl rfl, ret_okj hj (by cbv) ?_ ?_⟩) | (with_reducible first | refine ⟨(_, _, _, _), by cbv, ?_, ?_⟩ | refine ⟨(_, _), by cbv, ?_, ?_⟩ | refine ⟨_, by cbv, ?_, ?_⟩) | (with_reducible apply_assumption -symm -exfalso only [*]))
  all_goals ((try subst y_sC); (try subst y_nS); (try subst y_eC); (try subst y_nE); (try subst y_mC); (try subst y_nM))
  all_goals (try (repeat' first | with_reducible exact obl0 | (with_reducible refine obl1 ?_ ?_)))
  all_goals (try first | with_reducible exact True.intro | ((first | refine ob_le hj ?_ | refine ob_lei hj ?_ | refine ob_inb hj ?_ | refine ob_pos hj ?_ | refine ob_ne0 hj ?_ | refine ob_eqb hj ?_); (first | rfl | first | omega | (simp only [hj, std]; split <;> omega) | (simp (disch := omega) only [hj, std, cmpI, cmpB, satB, add64, sub64, ite0, pl0, pl2, pl3, sb0, if_true, if_false, eq_self] <;> omega) | (simp (disch := omega) [hj, std, cmpI, cmpB, satB, add64, sub64, ite0, pl0, pl2, pl3, sb0, if_true, if_false, eq_self] <;> omega))) | ((simp (disch := omega) only [hj, std, add64]; first | omega | exact ⟨by omega, by omega, by rw [f1, hlen, hlen], by rw [f1]; exact hdd, by rw [f1]; exact hg2⟩)))
 obtain ⟨p, p1, p2, p3, p4, es, e1, e2, e3⟩ := hzp hz
 have hgp := hg2 (w.extract 0 (w.size - 1))
 rw [p4] at hgp
 clear hz0 hzp
 generalize y_sC : @sC = x_sC at *
 generalize y_nS : @nS = x_nS at *
 generalize y_eC : @eC = x_eC at *
 generalize y_nE : @nE = x_nE at *
 generalize y_mC : @mC = x_mC at *
 generalize y_nM : @nM = x_nM at *
 (repeat' first | (with_reducible first | refine aw_stop (id := 18) ?_ | refine aw_stop1 (id := 18) ?_ | refine aw_stop2 (id := 18) ?_) | ((first | with_reducible refine tr_cut (fun h => ?_) (fun h => ?_) | refine aw_condj (by cbv) (fun h => ?_) (fun h => ?_)) <;> (try simp (disch := omega) only [hj, std, cmpI, cmpB, satB, Bool.not_eq_true, Bool.not_eq_false, decide_eq_true_eq, decide_eq_false_iff_not, beq_iff_eq, bne_iff_ne, bne_eq_false_iff_eq, beq_eq_false_iff_ne, ne_eq, reduceCtorEq, not_true_eq_false, not_false_eq_true, pl0, if_true, cmpS_eq, cmpS_neq, Bool.not_eq_eq_eq_not, Bool.not_true, Bool.not_false, Bool.not_eq_true', gs_sC, add64, sub64] at h) <;> (try (exfalso; omega))) | (with_reducible refine tr_alt (fun h => ?_) ?_ <;> (try (exfalso; omega))) | (with_reducible first | refine tr_ob ?_ ?_ | refine tr_done ?_) | (refine aw_tr hj tok bookM0 (by cbv) ?_) | (refine aw_seq fun K hK => ?_) | (refine aw_tr1 hj tok bookM0 (by cbv) ?_) | (refine aw_skip ?_) | (refine aw_block ?_) | (refine aw_exit ?_) | (refine aw_ret ⟨.inr rfl, ret_okj hj (by cbv) ?_ ?_⟩) | (refine aw_ret ?_) | (with_reducible first | refine th_n ?_ | refine th_r ?_ | refine th_x ?_ | refine blk_n ?_ | refine blk_r ?_ | refine blk_x ?_ | refine blk_y rfl ?_) | (refine ⟨.inr rfl, ret_okj hj (by cbv) ?_ ?_⟩) | (refine ⟨.inl rfl, ret_okj hj (by cbv) ?_ ?_⟩) | (with_reducible first | refine ⟨(_, _, _, _), by cbv, ?_, ?_⟩ | refine ⟨(_, _), by cbv, ?_, ?_⟩ | refine ⟨_, by cbv, ?_, ?_⟩) | (with_reducible apply_assumption -symm -exfalso only [*]))
 all_goals ((try subst y_sC); (try subst y_nS); (try subst y_eC); (try subst y_nE); (try subst y_mC); (try subst y_nM))
 all_goals (try (repeat' first | with_reducible exact obl0 | (with_reducible refine obl1 ?_ ?_)))
 all_goals (try first | with_reducible exact True.intro | ((first | refine ob_le hj ?_ | refine ob_lei hj ?_ | refine ob_inb hj ?_ | refine ob_pos hj ?_ | refine ob_ne0 hj ?_ | refine ob_eqb hj ?_); (first | rfl | first | omega | (simp only [hj, std]; split <;> omega) | (simp (disch := omega) only [hj, std, cmpI, cmpB, satB, add64, sub64, ite0, pl0, pl2, pl3, sb0, if_true, if_false, eq_self] <;> omega) | (simp (disch := omega) [hj, std, cmpI, cmpB, satB, add64, sub64, ite0, pl0, pl2, pl3, sb0, if_true, if_false, eq_self] <;> omega))))
 refine stop_go ?_; refine aw_joinj hj [(0, .keep), (3, .keep), (9, .keep), (10, .keep), (11, .keep), (12, .keep), (13, .keep), (43, .keep), (44, .keep), (45, .keep)] [3, 9] (fun (⟨q, z⟩ : Nat × Int) => stOf 112 [(0, .one (.c (.sl n cells))), (3, .one (.ptr 3 0)), (9, .one (.ptr 9 0)), (10, .one (.c (vI i))), (11, .one (.c (vS w))), (12, .one (.c (vI z))), (13, .one (.tp 9 0 [] q 0)), (43, .one (.c (.sl (nS G) (sC G)))), (44, .one (.c (vI (j.ofNat (nS G))))), (45, .one (.c (vI i)))] [(3, .box [.map .str m2]), (9, .box [.tree shO (.sl (nM (treeI G i.toNat)) d) none])]) (fun (⟨q, z⟩ : Nat × Int) => q = p * 2 ∧ z = w.size) ?_ (fun ⟨q, z⟩ hI => ?_)
 ·have e9 : (arithI .sub .i64 (w.size : Int) 1).toNat = w.size - 1 := by rw [sub64 (by omega) (by omega)]; omega
  have e8 : arithI .sub .i64 (w.size : Int) 1 = (w.size : Int) - 1 := sub64 (by omega) (by omega)
  generalize y_sC : @sC = x_sC at *
  generalize y_nS : @nS = x_nS at *
  generalize y_eC : @eC = x_eC at *
  generalize y_nE : @nE = x_nE at *
  generalize y_mC : @mC = x_mC at *
  generalize y_nM : @nM = x_nM at *
  (repeat' first | ((first | with_reducible refine tr_cut (fun h => ?_) (fun h => ?_) | refine aw_condj (by cbv) (fun h => ?_) (fun h => ?_)) <;> (try simp (disch := omega) only [hj, std, cmpI, cmpB, satB, Bool.not_eq_true, Bool.not_eq_false, decide_eq_true_eq, decide_eq_false_iff_not, beq_iff_eq, bne_iff_ne, bne_eq_false_iff_eq, beq_eq_false_iff_ne, ne_eq, reduceCtorEq, not_true_eq_false, not_false_eq_true, pl0, if_true, cmpS_eq, cmpS_neq, Bool.not_eq_eq_eq_not, Bool.not_true, Bool.not_false, Bool.not_eq_true', gs_sC, add64, sub64] at h) <;> (try (exfalso; omega))) | (with_reducible refine tr_alt (fun h => ?_) ?_ <;> (try (exfalso; omega))) | (with_reducible first | refine tr_ob ?_ ?_ | refine tr_done ?_) | (refine aw_dc1 (id := 17) hj tok hm bookM0 [2, 3, 4, 5] (.alt 0 (.last 1 (.last 6 (.take 7 (.take 8 .done)))) (.last 1 (.alt 0 (.last 6 (.take 7 (.take 8 .done))) (.last 6 (.last 0 (.take 7 (.take 8 .done))))))) (by kernel_rfl) (by cbv) ?_) | (refine aw_dc (id := 17) hj tok hm bookM0 [2, 3, 4, 5] (.alt 0 (.last 1 (.last 6 (.take 7 (.take 8 .done)))) (.last 1 (.alt 0 (.last 6 (.take 7 (.take 8 .done))) (.last 6 (.last 0 (.take 7 (.take 8 .done))))))) (by kernel_rfl) (by cbv) ?_) | (refine aw_tr hj tok bookM0 (by cbv) ?_) | (refine aw_seq fun K hK => ?_) | (refine aw_tr1 hj tok bookM0 (by cbv) ?_) | (refine aw_skip ?_) | (refine aw_block ?_) | (refine aw_exit ?_) | (refine aw_ret ⟨.inr rfl, ret_okj hj (by cbv) ?_ ?_⟩) | (refine aw_ret ?_) | (with_reducible first | refine th_n ?_ | refine th_r ?_ | refine th_x ?_ | refine blk_n ?_ | refine blk_r ?_ | refine blk_x ?_ | refine blk_y rfl ?_) | (refine ⟨.inr rfl, ret_okj hj (by cbv) ?_ ?_⟩) | (refine ⟨.inl rfl, ret_okj hj (by cbv) ?_ ?_⟩) | (with_reducible first | refine ⟨(_, _, _, _), by cbv, ?_, ?_⟩ | refine ⟨(_, _), by cbv, ?_, ?_⟩ | refine ⟨_, by cbv, ?_, ?_⟩) | (with_reducible apply_assumption -symm -exfalso only [*]))
  all_goals ((try subst y_sC); (try subst y_nS); (try subst y_eC); (try subst y_nE); (try subst y_mC); (try subst y_nM))
  all_goals (try (repeat' first | with_reducible exact obl0 | (with_reducible refine obl1 ?_ ?_)))
  all_goals (try first | with_reducible exact True.intro | ((first | refine ob_le hj ?_ | refine ob_lei hj ?_ | refine ob_inb hj ?_ | refine ob_pos hj ?_ | refine ob_ne0 hj ?_ | refine ob_eqb hj ?_); (first | rfl | first | omega | (simp only [hj, std]; split <;> omega) | (simp (disch := omega) only [hj, std, cmpI, cmpB, satB, add64, sub64, ite0, pl0, pl2, pl3, sb0, if_true, if_false, eq_self, e8] <;> omega) | (simp (disch := omega) [hj, std, cmpI, cmpB, satB, add64, sub64, ite0, pl0, pl2, pl3, sb0, if_true, if_false, eq_self, e8] <;> omega))) | ((refine ob_le hj ?_; simp only [hj, std, Int.ofNat_eq_natCast, e8]; omega)) | ((refine ob_lei hj ?_; simp only [hj, std, Int.ofNat_eq_natCast, e8]; omega)) | ((refine ob_ok hj ?_; simp only [hj, std, Int.ofNat_eq_natCast, e9, hgp]; exact ⟨_, rfl⟩)) | ((refine ob_inb hj ?_; simp only [hj, std, Int.ofNat_eq_natCast, e9, hgp, hlen]; show 0 ≤ (p : Int) ∧ (p : Int) < (G.length : Int); omega)) | ((simp only [hj, std, Int.ofNat_eq_natCast, e9, hgp]; exact ⟨rfl, rfl⟩)) | (exact True.intro))
  all_goals (simp only [hj, std, Int.ofNat_eq_natCast, e9, hgp]; exact ⟨(by show (p : Int).toNat * 2 = p * 2; rw [Int.toNat_natCast]), trivial⟩)
 obtain ⟨hq, hz9⟩ := hI
 have e8 : arithI .sub .i64 z 1 = z - 1 := sub64 (by omega) (by omega)
 have e7 : (z - 1).toNat = w.size - 1 := by omega
 rw [← hq] at e2 e3
 have hne := nE_eq es
 have hce := eC_len es
 have hqd : q + 1 < d.length := by rw [hdl, hlen]; omega
 have hset : ∀ x, setC (setC d (q + 1) [C.mem [] 0]) (q + 1) [x] = setC d (q + 1) [x] := fun x => by rw [setC_1 hqd, setC_1 (by simpa using hqd), setC_1 hqd, List.set_set]
 have hln : (setC d (q + 1) [C.mem [] 0]).length = d.length := by rw [setC_1 hqd, List.length_set]
 have hbl := bt_lt w (w.size - 1)
 have hwr : IntKind.wrap .i64 (bt w (w.size - 1) : Int) = (bt w (w.size - 1) : Int) := wrap64 (by omega) (by omega)
 generalize y_sC : @sC = x_sC at *
 generalize y_nS : @nS = x_nS at *
 generalize y_eC : @eC = x_eC at *
 generalize y_nE : @nE = x_nE at *
 generalize y_mC : @mC = x_mC at *
 generalize y_nM : @nM = x_nM at *
 (repeat' first | ((first | with_reducible refine tr_cut (fun h => ?_) (fun h => ?_) | refine aw_condj (by cbv) (fun h => ?_) (fun h => ?_)) <;> (try simp (disch := omega) only [hj, std, cmpI, cmpB, satB, Bool.not_eq_true, Bool.not_eq_false, decide_eq_true_eq, decide_eq_false_iff_not, beq_iff_eq, bne_iff_ne, bne_eq_false_iff_eq, beq_eq_false_iff_ne, ne_eq, reduceCtorEq, not_true_eq_false, not_false_eq_true, pl0, if_true, cmpS_eq, cmpS_neq, Bool.not_eq_eq_eq_not, Bool.not_true, Bool.not_false, Bool.not_eq_true', gs_sC, add64, sub64] at h) <;> (try (exfalso; omega))) | (with_reducible refine tr_alt (fun h => ?_) ?_ <;> (try (exfalso; omega))) | (with_reducible first | refine tr_ob ?_ ?_ | refine tr_done ?_) | (refine aw_dc1 (id := 18) hj tok hm bookM0 [0, 1, 2, 3, 5, 6, 7, 8, 9, 10, 11] (.alt 4 (.last 12 (.last 13 (.take 14 (.take 15 (.last 16 .done))))) (.last 12 (.last 4 (.last 13 (.take 14 (.take 15 (.last 16 .done))))))) (by kernel_rfl) (by cbv) ?_) | (refine aw_dc (id := 18) hj tok hm bookM0 [0, 1, 2, 3, 5, 6, 7, 8, 9, 10, 11] (.alt 4 (.last 12 (.last 13 (.take 14 (.take 15 (.last 16 .done))))) (.last 12 (.last 4 (.last 13 (.take 14 (.take 15 (.last 16 .done))))))) (by kernel_rfl) (by cbv) ?_) | (refine aw_tr hj tok bookM0 (by cbv) ?_) | (refine aw_seq fun K hK => ?_) | (refine aw_tr1 hj tok bookM0 (by cbv) ?_) | (refine aw_skip ?_) | (refine aw_block ?_) | (refine aw_exit ?_) | (refine aw_ret ⟨.inr rfl, ret_okj hj (by cbv) ?_ ?_⟩) | (refine aw_ret ?_) | (with_reducible first | refine th_n ?_ | refine th_r ?_ | refine th_x ?_ | refine blk_n ?_ | refine blk_r ?_ | refine blk_x ?_ | refine blk_y rfl ?_) | (refine ⟨.inr rfl, ret_okj hj (by cbv) ?_ ?_⟩) | (refine ⟨.inl rfl, ret_okj hj (by cbv) ?_ ?_⟩) | (with_reducible first | refine ⟨(_, _, _, _), by cbv, ?_, ?_⟩ | refine ⟨(_, _), by cbv, ?_, ?_⟩ | refine ⟨_, by cbv, ?_, ?_⟩) | (with_reducible apply_assumption -symm -exfalso only [*]))
 all_goals ((try subst y_sC); (try subst y_nS); (try subst y_eC); (try subst y_nE); (try subst y_mC); (try subst y_nM))
 all_goals (try (repeat' first | with_reducible exact obl0 | with_reducible refine obl1 ?_ ?_))
 all_goals (try first | with_reducible exact True.intro | ((first | refine ob_le hj ?_ | refine ob_lei hj ?_ | refine ob_inb hj ?_ | refine ob_pos hj ?_ | refine ob_ne0 hj ?_ | refine ob_eqb hj ?_); (first | rfl | first | omega | (simp only [hj, std]; split <;> omega) | (simp (disch := omega) only [hj, std, cmpI, cmpB, satB, add64, sub64, ite0, pl0, pl2, pl3, sb0, if_true, if_false, eq_self, e8, e2, hset, hln] <;> omega) | (simp (disch := omega) [hj, std, cmpI, cmpB, satB, add64, sub64, ite0, pl0, pl2, pl3, sb0, if_true, if_false, eq_self, e8, e2, hset, hln] <;> omega))) | ((refine ob_inb hj ?_; simp only [hj, std, Int.ofNat_eq_natCast, e8]; omega)) | ((refine ob_ok hj ?_; simp only [hj, std, ite0]; exact .inr ⟨_, _, e2⟩)) | ((refine ob_le hj ?_; simp only [hj, std, ite0, e2, hln]; omega)) | ((simp (disch := omega) only [hj, std, add64, ite0, e2, e8, e7, hset]; first | omega | exact ⟨by omega, by omega, by rw [f1, hlen, hlen], by rw [f1, ← e3]; rfl, by rw [f1]; exact hg2⟩)))
 all_goals (simp (disch := omega) only [hj, std, add64, ite0, e2, e8, e7, hset]; exact ⟨by omega, by omega, by rw [f1, hlen, hlen], by rw [f1, ← e3, ← hwr]; rfl, by rw [f1]; exact hg2⟩)
end Go.Proofs.Ytcpcghnpoekhpaa.A
/- Tries: a loop of Make over the beginnings: what it makes of the frame. -/
set_option linter.unusedSimpArgs false
set_option linter.unusedVariables false
set_option maxRecDepth 100000
set_option maxHeartbeats 4000000
namespace Go.Proofs.Ytcpcghnpoekhpaa.A
open Go Go.RowKit
variable {w0 w : World} {S0 S : Nat → Prop} {F : Fr} {st : St} {a : Act} {bx : Nat → Nat} {ph : Nat → Nat → Pv}
def slG (p q r1 r2 : Nat) (x : Rw × ByteArray) : List V := ((((undefs 112).set p (.one (.ptr 113 0))).set q (.one (.ptr 114 0))).set r1 (.agg [.c (vI x.1.1), .c (vS x.1.2.1), .c (vI x.1.2.2)])).set r2 (.one (.c (vS x.2)))
theorem slG_len (p q r1 r2 : Nat) (x : Rw × ByteArray) : (slG p q r1 r2 x).length = 112 := by simp [slG, undefs]
def okS (p q : Nat) : V → Bool
 | .undef | .one (.c _) => true
 | .one (.ptr t 0) => t == p || t == q
 | _ => false
theorem getD_setV (l : List V) (d i : Nat) (v : V) (h : d < l.length) : (l.set d v).getD i .undef = if d = i then v else l.getD i .undef := by
 rw [List.getD_eq_getElem?_getD, List.getElem?_set]
 by_cases e : d = i
 ·rw [if_pos e, if_pos e, if_pos h]; rfl
 ·rw [if_neg e, if_neg e, ← List.getD_eq_getElem?_getD]
theorem getD_setT (l : Array Value) (d i : Nat) (v : Value) (h : d < l.size) : (l.setIfInBounds d v).getD i undef = if d = i then v else l.getD i undef := by
 simp only [Array.getD_eq_getD_getElem?, Array.getElem?_setIfInBounds]
 by_cases e : d = i
 ·rw [if_pos e, if_pos e, if_pos h]; rfl
 ·rw [if_neg e, if_neg e]
theorem slG_get {p q r1 r2 : Nat} (hp : p < 112) (hq : q < 112) (h1 : r1 < 112) (h2 : r2 < 112) (x : Rw × ByteArray) (i : Nat) : (slG p q r1 r2 x).getD i .undef = if r2 = i then .one (.c (vS x.2)) else if r1 = i then .agg [.c (vI x.1.1), .c (vS x.1.2.1), .c (vI x.1.2.2)] else if q = i then .one (.ptr 114 0) else if p = i then .one (.ptr 113 0) else .undef := by
 unfold slG
 rw [getD_setV _ _ _ _ (by simp [undefs]; exact h2), getD_setV _ _ _ _ (by simp [undefs]; exact h1), getD_setV _ _ _ _ (by simp [undefs]; exact hq), getD_setV _ _ _ _ (by simp [undefs]; exact hp)]
 have : (undefs 112).getD i .undef = .undef := by
  unfold undefs
  rw [List.getD_eq_getElem?_getD, List.getElem?_replicate]; split <;> rfl
 rw [this]
theorem enters_b : Enters Try.prog 32 := enters Try.func32 (by kernel_rfl) (by kernel_rfl)
theorem mk_range (h : Rel T w0 S0 F st a w S bx ph) {p q r1 r2 g : Nat} {assign body : Code} {id Bs : Nat} {ty : TypeId} {l : List Rw} {vr : Value} {A B : List (Rw × ByteArray) → List RC}
    (h2 : Two st.r p q (.box (A [])) (.box (B []))) (hA : ∀ pre, 0 < (A pre).length) (hB : ∀ pre, 0 < (B pre).length)
    (hp : st.s.getD p .undef = .one (.ptr p 0)) (hq : st.s.getD q .undef = .one (.ptr q 0)) (hlt : p < 112 ∧ q < 112 ∧ r1 < 112 ∧ r2 < 112) (hne : r2 ≠ r1 ∧ r2 ≠ q ∧ r2 ≠ p ∧ r1 ≠ q ∧ r1 ≠ p) (hs : st.s.length = 112) (hok : st.s.all (okS p q) = true)
    (hg : a.tmps.getD g undef = .func (.func 32) #[] #[.pointer (some ⟨Bs, 0, none⟩)]) (hrow : CRep w S vr (.sl (nRw l) (rwC l))) (hcell : w.heap[Bs]? = some (.cells #[vr] ty (0, 0))) (hoff : ∀ t κ, ¬ owns st.r bx ph t κ Bs)
    (hl : l.length ≤ 1000) (hw : ∀ x ∈ l, x.2.1.size ≤ 1000)
    (hrnd : ∀ lp pre x rest, begsL l = pre ++ x :: rest → RoundTo lp Try.prog T assign body (slG p q r1 r2 x) [.box (A pre), .box (B pre)] [.box (A (pre ++ [x])), .box (B (pre ++ [x]))]) :
    (Code.block id (.rangeFunc (.tmp g) #[r1, r2] assign body)).wp Try.prog (fun e a' w' => e = .normal ∧ a' = { a with defers := { target := .collected w.heap.size, args := #[] } :: a.defers } ∧
      ∃ S' ph', (∀ st' : St, Two st'.r p q (.box (A (begsL l))) (.box (B (begsL l))) → st'.s = st.s → st.s.length + 1 ≤ st'.r.length →
        Rel T w0 S0 { F with df := a'.defers } st' a' w' S' bx ph' ∧ ∀ t κ, ¬ owns st'.r bx ph' t κ w.heap.size) ∧ ¬ S' w.heap.size ∧ w'.heap[w.heap.size]? = some (.deferred (some []))) a w := by
  obtain ⟨ad, cap, rfl, hat⟩ := rows_at hrow
  have hBs : Bs < w.heap.size := (Array.getElem?_eq_some_iff.1 hcell).1
  have hh := h.heap.two h2
  refine wp_block ?_
  refine wp_mono (range_go (gf := 32) (lb := #[.pointer (some ⟨Bs, 0, none⟩)]) (encs := encB) (xs := begsL l) (Rd := fun W => RowsAt W Bs ad cap l) (show a.eval (.tmp g) = _ from hg) enters_b (begs_all l hl hw Bs ad cap) (fun _ => rfl)
    (fun pre => [.box (A pre), .box (B pre)]) (slG p q r1 r2) hh (fun rr W S' bx' ph' hp' => ?_) (fun x => by rw [slG_len, h.size, hs]) (fun pre x rest W S' bx' ph' hxs hp' i hi => ?_) hrnd) ?_
  · have hof : ¬ ((fun _ => False) Bs ∨ ∃ t κ, owns [.box (A []), .box (B [])] (at2 p q bx) (at2 p q ph) t κ Bs) := fun hq => by
      rcases hq with hq | ⟨t, κ, hq⟩
      · exact hq
      · exact hoff _ _ (owns_two h2 hq).1
    refine hat W S' Bs (hrow.frame (fun b hb => hp'.chg.block b (h.heap.low.1 b hb) fun hq => ?_) hp'.keep) ?_
    · rcases hq with hq | ⟨t, κ, hq⟩
      · exact hq
      · exact (h.heap.free _ _ _ (owns_two h2 hq).1).1 hb
    · rw [cell_of_row W Bs 0 _ _ _ ((hp'.chg.block Bs hBs hof).trans hcell)]; rfl
  · rw [slG_len] at hi
    obtain ⟨l1, l2, l3, l4⟩ := hlt
    have hsz : a.tmps.size = 112 := by rw [h.size, hs]
    have e1 : ((#[r1, r2].zip (encB x)).foldl (fun t (p, v) => t.setIfInBounds p v) a.tmps) = (a.tmps.setIfInBounds r1 (.agg #[.int .i64 x.1.1, .string x.1.2.1, .int .i64 x.1.2.2])).setIfInBounds r2 (.string x.2) := by simp [encB]
    rw [e1, getD_setT _ _ _ _ (by simp; omega), getD_setT _ _ _ _ (by omega), slG_get l1 l2 l3 l4]
    by_cases c1 : r2 = i
    · rw [if_pos c1, if_pos c1]; exact .val rfl
    rw [if_neg c1, if_neg c1]
    by_cases c2 : r1 = i
    · rw [if_pos c2, if_pos c2]
      refine ⟨_, rfl, rfl, fun k k1 k2 => ?_⟩
      match k, k1 with
      | 0, _ => exact .val rfl
      | 1, _ => exact .val rfl
      | 2, _ => exact .val rfl
    rw [if_neg c2, if_neg c2]
    by_cases c3 : q = i
    · rw [if_pos c3]
      subst c3
      have hv := h.slot q (by omega)
      rw [hq] at hv
      obtain ⟨row, v1, v2, v3⟩ := hv
      refine ⟨B pre, by rw [stR_get, slG_len]; rfl, hB pre, ?_⟩
      rw [v3, slG_len]
      show _ = Value.pointer (some ⟨bx' 1, 0, none⟩)
      rw [hp'.same 1]; rfl
    rw [if_neg c3]
    by_cases c4 : p = i
    · rw [if_pos c4]
      subst c4
      have hv := h.slot p (by omega)
      rw [hp] at hv
      obtain ⟨row, v1, v2, v3⟩ := hv
      refine ⟨A pre, by rw [stR_get, slG_len]; rfl, hA pre, ?_⟩
      rw [v3, slG_len]
      show _ = Value.pointer (some ⟨bx' 0, 0, none⟩)
      rw [hp'.same 0]; rfl
    rw [if_neg c4]
    trivial
  · rintro e a' w' ⟨rfl, rfl, S', bx', ph', hp', hof, hD⟩
    show Exit.normal = .normal ∧ _
    have hb : bx p = bx' 0 ∧ bx q = bx' 1 := ⟨(hp'.same 0).symm, (hp'.same 1).symm⟩
    refine ⟨rfl, rfl, S', fun t => if t = p then ph' 0 else ph' 1, fun st' h3 hs3 hr3 => ⟨Rel.two h h2 hp' h3 (by rw [hs3]) (by rw [hs3]; exact hr3) rfl fun hf i hi => ?_, fun t κ ho => ?_⟩, hof.1, hD⟩
    · rw [hs3] at hi ⊢
      have hv := h.slot i hi
      have hpv : okS p q (st.s.getD i .undef) = true := by
        rw [List.getD_eq_getElem?_getD, List.getElem?_eq_getElem hi]
        exact List.all_eq_true.1 hok _ (List.getElem_mem hi)
      show VRep T w' S' st'.r bx _ (a.tmps.getD i undef) (st.s.getD i .undef)
      generalize st.s.getD i .undef = v at hv hpv ⊢
      match v, hpv, hv with
      | .undef, _, _ => trivial
      | .one (.c c), _, hv => exact hf _ _ hv
      | .one (.ptr u 0), hpv, hv =>
        obtain ⟨row, v1, v2, v3⟩ := hv
        have hu : u = p ∨ u = q := by simpa [okS] using hpv
        rcases hu with rfl | rfl
        · exact ⟨A (begsL l), by rw [h3.all, if_pos rfl], hA _, v3⟩
        · exact ⟨B (begsL l), by rw [h3.all, if_neg (Ne.symm h3.ne), if_pos rfl], hB _, v3⟩
    · have hph : (fun t => if t = p then ph' 0 else ph' 1) p = ph' 0 ∧ (fun t => if t = p then ph' 0 else ph' 1) q = ph' 1 := ⟨if_pos rfl, if_neg (Ne.symm h2.ne)⟩
      rcases owns_untwo h3 hb hph ho with ⟨_, d⟩ | ⟨_, d⟩
      · exact hof.2 _ _ d
      · exact hof.2 _ _ d
end Go.Proofs.Ytcpcghnpoekhpaa.A
/- Tries: what Make's two loops over the beginnings make; Make's end. -/
set_option linter.unusedSimpArgs false
set_option linter.unusedVariables false
set_option maxRecDepth 100000
set_option maxHeartbeats 4000000
namespace Go.Proofs.Ytcpcghnpoekhpaa.A
open Go Go.RowKit
theorem mhas_setT (m : GM) (a b : ByteArray) (v : C) : mhasC (m.set (.string a) v).ks (.string b) = (decide (a = b) || mhasC m.ks (.string b)) := by
 unfold GM.set
 cases hk : kidx m.ks (.string a) with
 | some i =>
  show mhasC m.ks (.string b) = _
  by_cases e : a = b
  ·subst e; unfold mhasC; rw [hk]; simp
  ·rw [decide_eq_false e, Bool.false_or]
 | none =>
  show mhasC (m.ks ++ [.string a]) (.string b) = _
  unfold mhasC kidx
  rw [List.findIdx?_append]
  cases List.findIdx? (keq (.string b)) m.ks with
  | some i => simp
  | none =>
   by_cases e : a = b
   ·subst e; simp [keq]
   ·simp [keq, e]; exact fun h => e h.symm
def mF (ys : List (Rw × ByteArray)) : GM := (ys.foldl (fun s y => if inL s.2 y.2 = true then s else (s.1.set (.string y.2) (vI 0), s.2 ++ [y.2])) (GM.new.set (.string ByteArray.empty) (vI 0), [ByteArray.empty])).1
theorem mF_snd (ys : List (Rw × ByteArray)) : ∀ (m : GM) (l : List ByteArray), (ys.foldl (fun s y => if inL s.2 y.2 = true then s else (s.1.set (.string y.2) (vI 0), s.2 ++ [y.2])) (m, l)).2 = ys.foldl addF l := by
 induction ys with
 | nil => intro m l; rfl
 | cons y ys ih =>
  intro m l
  rw [List.foldl_cons, List.foldl_cons]
  unfold addF
  dsimp only
  by_cases h : inL l y.2 = true
  ·rw [if_pos h, if_pos h]; exact ih m l
  ·rw [if_neg h, if_neg h]; exact ih _ _
theorem mF_snoc (ys : List (Rw × ByteArray)) (y : Rw × ByteArray) : mF (ys ++ [y]) = if inL (frsY ys) y.2 = true then mF ys else (mF ys).set (.string y.2) (vI 0) := by
 have h2 := mF_snd ys (GM.new.set (.string ByteArray.empty) (vI 0)) [ByteArray.empty]
 unfold mF frsY
 rw [List.foldl_append]
 show (if inL _ y.2 = true then _ else _ : GM × List ByteArray).1 = _
 rw [h2]
 split <;> rfl
theorem mF_get (ys : List (Rw × ByteArray)) (b : ByteArray) : mgetC (mF ys).ks (mF ys).vs (.string b) (vI 0) = vI 0 ∧ mhasC (mF ys).ks (.string b) = inL (frsY ys) b := by
 have hstep : ∀ (m : GM) (a b : ByteArray), mgetC m.ks m.vs (.string b) (vI 0) = vI 0 → mgetC (m.set (.string a) (vI 0)).ks (m.set (.string a) (vI 0)).vs (.string b) (vI 0) = vI 0 := fun m a b h => by
  have := mget_set m a b (vI 0) (vI 0)
  unfold mgetS at this
  rw [this]
  split
  ·rfl
  ·exact h
 have key : ∀ (r p : List (Rw × ByteArray)), ys = p ++ r → mgetC (mF p).ks (mF p).vs (.string b) (vI 0) = vI 0 ∧ mhasC (mF p).ks (.string b) = inL (frsY p) b → mgetC (mF ys).ks (mF ys).vs (.string b) (vI 0) = vI 0 ∧ mhasC (mF ys).ks (.string b) = inL (frsY ys) b := by
  intro r
  induction r with
  | nil => intro p e h; rw [List.append_nil] at e; subst e; exact h
  | cons y r ih =>
   intro p e h
   refine ih (p ++ [y]) (by rw [e]; simp) ?_
   rw [mF_snoc, frsY_snoc]
   unfold addF
   by_cases hi : inL (frsY p) y.2 = true
   ·rw [if_pos hi, if_pos hi]; exact h
   ·rw [if_neg hi, if_neg hi, mhas_setT, inL_app, h.2]
    exact ⟨hstep _ _ _ h.1, Bool.or_comm _ _⟩
 refine key ys [] rfl ⟨?_, ?_⟩
 ·exact hstep _ _ _ rfl
 ·show mhasC (GM.new.set (.string ByteArray.empty) (vI 0)).ks _ = _
  rw [mhas_setT]
  show (decide (ByteArray.empty = b) || mhasC GM.new.ks (.string b)) = _
  simp [inL, frsY, GM.new, mhasC, kidx]
theorem frsY_len (ys : List (Rw × ByteArray)) : (frsY ys).length ≤ ys.length + 1 := by
 have key : ∀ (ys : List (Rw × ByteArray)) (l : List ByteArray), (ys.foldl addF l).length ≤ l.length + ys.length := by
  intro ys
  induction ys with
  | nil => intro l; exact Nat.le_refl _
  | cons y ys ih =>
   intro l
   rw [List.foldl_cons, List.length_cons]
   refine Nat.le_trans (ih _) ?_
   unfold addF
   split
   ·omega
   ·rw [List.length_append, List.length_singleton]; omega
 have := key ys [ByteArray.empty]
 rw [List.length_singleton] at this
 unfold frsY
 omega
theorem begsL_len (l : List Rw) (h : ∀ x ∈ l, x.2.1.size ≤ 100) : (begsL l).length ≤ l.length * 101 := by
 induction l with
 | nil => simp [begsL]
 | cons x l ih =>
  have h1 := h x (List.mem_cons_self ..)
  have h2 := ih fun y hy => h y (List.mem_cons_of_mem _ hy)
  unfold begsL at h2 ⊢
  rw [List.flatMap_cons, List.length_append, List.length_cons]
  have : (begsK x (x.2.1.size + 1)).length = x.2.1.size + 1 := by unfold begsK; simp
  omega
theorem round_1 (l : List Rw) (hl : l.length ≤ 100) (hw : ∀ x ∈ l, x.2.1.size ≤ 100) (lp : Nat) (pre : List (Rw × ByteArray)) (x : Rw × ByteArray) (rest : List (Rw × ByteArray)) (hx : begsL l = pre ++ x :: rest) :
  RoundTo lp Try.prog T assign1 body1 (slG 3 4 22 23 x) [.box [.map .str (mF pre)], .box [.own strT (frsY pre).length (sC (frsY pre))]] [.box [.map .str (mF (pre ++ [x]))], .box [.own strT (frsY (pre ++ [x])).length (sC (frsY (pre ++ [x])))]] := by
 obtain ⟨h1, h2⟩ := mF_get pre x.2
 have hn : (frsY pre).length ≤ 100000 := by
  have e1 := frsY_len pre
  have e2 := begsL_len l hw
  have e3 := congrArg List.length hx
  rw [List.length_append, List.length_cons] at e3
  omega
 rw [mF_snoc, frsY_snoc]
 unfold addF
 by_cases hi : inL (frsY pre) x.2 = true
 ·rw [if_pos hi, if_pos hi]
  exact round1_old lp x _ _ _ ⟨0, h1⟩ (h2.trans hi)
 ·rw [if_neg hi, if_neg hi, ← sC_snoc, List.length_append]
  exact round1_new lp x _ _ _ hn ⟨0, h1⟩ (h2.trans (by simpa using hi))
theorem round_2 (l : List Rw) (m : GM) (hm : ∀ b, mgetC m.ks m.vs (.string b) (vI 0) = vI (posI (gsR l) (gsR l).length b)) (lp : Nat) (pre : List (Rw × ByteArray)) (x : Rw × ByteArray) (rest : List (Rw × ByteArray)) (hx : begsL l = pre ++ x :: rest) :
  RoundTo lp Try.prog T assign2 body2 (slG 3 9 88 89 x) [.box [.map .str m], .box [.tree shO (.sl (nM (treeY (gsR l) pre)) (mC (treeY (gsR l) pre))) none]] [.box [.map .str m], .box [.tree shO (.sl (nM (treeY (gsR l) (pre ++ [x]))) (mC (treeY (gsR l) (pre ++ [x])))) none]] := by
 have hF := FG_gsR l
 have hin : x.2 ∈ gsR l := by
  rw [(gsR_perm l).mem_iff, mem_frs]
  exact .inr ⟨x, by rw [hx]; simp, rfl⟩
 obtain ⟨k, hk, he⟩ := List.getElem_of_mem hin
 have hget := hm x.2
 rw [← he, posI_get hF hk hk, he] at hget
 have hlen := fun ys => (nM_eq (treeY (gsR l) ys)).trans (treeY_len (gsR l) ys)
 have hcell := (mC_at (treeY (gsR l) pre) k (by rw [treeY_len]; exact hk)).1
 rw [treeY_get _ _ hk] at hcell
 by_cases hc : x.2 = x.1.2.1 ∧ outY pre (gsR l)[k] < 0
 ·have := round2_set lp x m (nM (treeY (gsR l) pre)) (mC (treeY (gsR l) pre)) k _ (by rw [hlen]; exact hk) (mC_len _) hget hcell hc.1 hc.2
  rw [mC_set _ (by rw [treeY_len]; exact hk), treeY_set hF pre x hk he hc.1 hc.2] at this
  rw [hlen] at this ⊢
  rw [hlen]
  exact this
 ·have := round2_keep lp x m (nM (treeY (gsR l) pre)) (mC (treeY (gsR l) pre)) k _ (by rw [hlen]; exact hk) (mC_len _) hget hcell hc
  rw [← treeY_keep pre x hk he hc]
  exact this
theorem mk_26 (n : Nat) (cells : List C) (m : GM) (o : Nat) (d : List C) : Aw Try.prog T mk26 (fun e st => (e = .normal ∨ e = .ret) ∧ RetOk Try.prog T Try.f8 st (ret1 (.tree shO (.sl o d) none)) [] 112) (stMk n cells m o d) := by
 obtain ⟨j, hj⟩ : ∃ j : J, j = std Try.prog T := ⟨_, rfl⟩
 have hm : Try.prog.follows .mixedOrders = true := by kernel_rfl
 conv => arg 3; whnf
 (repeat' first | ((first | with_reducible refine tr_cut (fun h => ?_) (fun h => ?_) | refine aw_condj (by cbv) (fun h => ?_) (fun h => ?_)) <;> (try simp (disch := omega) only [hj, std, cmpI, cmpB, satB, Bool.not_eq_true, Bool.not_eq_false, decide_eq_true_eq, decide_eq_false_iff_not, beq_iff_eq, bne_iff_ne, bne_eq_false_iff_eq, beq_eq_false_iff_ne, ne_eq, reduceCtorEq, not_true_eq_false, not_false_eq_true, pl0, if_true, cmpS_eq, cmpS_neq, Bool.not_eq_eq_eq_not, Bool.not_true, Bool.not_false, Bool.not_eq_true', add64, sub64] at h) <;> (try (exfalso; omega))) | (with_reducible refine tr_alt (fun h => ?_) ?_ <;> (try (exfalso; omega))) | (with_reducible first | refine tr_ob ?_ ?_ | refine tr_done ?_) | (refine aw_tr hj tok bookM0 (by cbv) ?_) | (refine aw_seq fun K hK => ?_) | (refine aw_tr1 hj tok bookM0 (by cbv) ?_) | (refine aw_skip ?_) | (refine aw_block ?_) | (refine aw_exit ?_) | (refine aw_ret ⟨.inr rfl, ret_okj hj (by cbv) ?_ ?_⟩) | (refine aw_ret ?_) | (with_reducible first | refine th_n ?_ | refine th_r ?_ | refine th_x ?_ | refine blk_n ?_ | refine blk_r ?_ | refine blk_x ?_ | refine blk_y rfl ?_) | (refine ⟨.inr rfl, ret_okj hj (by cbv) ?_ ?_⟩) | (refine ⟨.inl rfl, ret_okj hj (by cbv) ?_ ?_⟩) | (with_reducible apply_assumption -symm -exfalso only [*]))
 all_goals (try (repeat' first | with_reducible exact obl0 | with_reducible refine obl1 ?_ ?_))
 all_goals (try first | with_reducible exact True.intro | ((first | refine ob_le hj ?_ | refine ob_lei hj ?_ | refine ob_inb hj ?_ | refine ob_pos hj ?_ | refine ob_ne0 hj ?_ | refine ob_eqb hj ?_); (first | rfl | first | omega | (simp only [hj, std]; split <;> omega) | (simp (disch := omega) only [hj, std, cmpI, cmpB, satB, add64, sub64, ite0, pl0, pl2, pl3, sb0, if_true, if_false, eq_self] <;> omega) | (simp (disch := omega) [hj, std, cmpI, cmpB, satB, add64, sub64, ite0, pl0, pl2, pl3, sb0, if_true, if_false, eq_self] <;> omega))) | (exact rfl))
end Go.Proofs.Ytcpcghnpoekhpaa.A
/- Tries: Make: the tree of rows. -/
set_option linter.unusedSimpArgs false
set_option linter.unusedVariables false
set_option maxRecDepth 100000
set_option maxHeartbeats 4000000
namespace Go.Proofs.Ytcpcghnpoekhpaa
open Go Go.RowKit Go.Proofs
theorem reg_3 {a : Act} {w : World} {Q : Exit → Act → World → Prop} {ad : Option Addr} {n cap : Nat} (hs : a.tmps.size = 112) (h0 : a.tmps.getD 0 undef = .slice ad n cap)
  (hk : Q .normal ((a.put (some 20) (.slice ad n cap)).put (some 21) (.func (.func 32) #[] #[.pointer (some ⟨w.heap.size, 0, none⟩)])) (w.alloc (.cells #[.slice ad n cap] 22))) : (A.cL A.mk3).wp Try.prog Q a w := by
 conv => arg 2; whnf
 have hb := beg_any ad n cap w
 obtain ⟨tm, df⟩ := a
 dsimp only at h0 hk hs
 have hs2 : 20 < tm.size := by omega
 go_wp2_with fail
 rename_i K hK
 refine hb.mono ?_
 rintro e w' ⟨rfl, rfl⟩
 exact hK _ _ hk
theorem reg_20 {a : Act} {w : World} {Q : Exit → Act → World → Prop} {ad : Option Addr} {n cap : Nat} (hs : a.tmps.size = 112) (h0 : a.tmps.getD 0 undef = .slice ad n cap)
  (hk : Q .normal ((a.put (some 86) (.slice ad n cap)).put (some 87) (.func (.func 32) #[] #[.pointer (some ⟨w.heap.size, 0, none⟩)])) (w.alloc (.cells #[.slice ad n cap] 22))) : (A.cL A.mk20).wp Try.prog Q a w := by
 conv => arg 2; whnf
 have hb := beg_any ad n cap w
 obtain ⟨tm, df⟩ := a
 dsimp only at h0 hk hs
 have hs2 : 86 < tm.size := by omega
 go_wp2_with fail
 rename_i K hK
 refine hb.mono ?_
 rintro e w' ⟨rfl, rfl⟩
 exact hK _ _ hk
end Go.Proofs.Ytcpcghnpoekhpaa
namespace Go.Proofs.Ytcpcghnpoekhpaa.A
open Go Go.RowKit
variable {w0 w : World} {S0 S : Nat → Prop} {F : Fr} {st : St} {a : Act} {bx : Nat → Nat} {ph : Nat → Nat → Pv}
theorem put_undef {d : Nat} (h : st.s.getD d .undef = .undef) : put st (some d) .undef = st := by
 show ({ st with s := st.s.set d .undef } : St) = st
 have e : st.s.set d .undef = st.s := by
  apply List.ext_getElem?
  intro i
  rw [List.getElem?_set]
  by_cases e : d = i
  ·subst e
   rw [if_pos rfl]
   split
   ·rename_i hlt
    rw [List.getD_eq_getElem?_getD, List.getElem?_eq_getElem hlt] at h
    rw [List.getElem?_eq_getElem hlt]
    exact congrArg some h.symm
   ·rename_i hlt
    rw [List.getElem?_eq_none (by omega)]
  ·rw [if_neg e]
 rw [e]
theorem Rel.iter (h : Rel T w0 S0 F st a w S bx ph) {d1 d2 : Nat} {v1 v2 : Value} {o : Obj} (h1 : st.s.getD d1 .undef = .undef) (h2 : st.s.getD d2 .undef = .undef) : Rel T w0 S0 F st ((a.put (some d1) v1).put (some d2) v2) (w.alloc o) S bx ph := by
 have r1 := h.put d1 (z := v1) (V := .undef) trivial
 rw [put_undef h1] at r1
 have r2 := r1.put d2 (z := v2) (V := .undef) trivial
 rw [put_undef h2] at r2
 exact r2.world (Chg.alloc (fun _ => False) w o) fun b _ hf => hf.elim
theorem look2 {p q : Nat} (A B : Root) (hpq : p ≠ q) (t : Nat) : (look [(p, A), (q, B)] t).getD .none = if t = p then A else if t = q then B else .none := by
 by_cases e1 : t = p
 ·rw [if_pos e1]; subst e1; simp [look]
 ·rw [if_neg e1]
  by_cases e2 : t = q
  ·rw [if_pos e2]; subst e2; simp [look, Ne.symm e1]
  ·rw [if_neg e2]; simp [look, Ne.symm e1, Ne.symm e2]
theorem two_of {p q : Nat} (hp : p < 113) (hq : q < 113) (hpq : p ≠ q) (n : Nat) (cells : List C) (l : List (Nat × V)) (A B : Root) : Two (stK n cells l [(p, A), (q, B)]).r p q A B := by
 refine ⟨hpq, fun t => ?_⟩
 show ((List.range 113).map fun i => (look [(p, A), (q, B)] i).getD Root.none).getD t .none = _
 by_cases ht : t < 113
 ·rw [List.getD_eq_getElem?_getD, List.getElem?_map, List.getElem?_range ht]
  exact look2 A B hpq t
 ·rw [List.getD_eq_getElem?_getD, List.getElem?_eq_none (by simp; omega), if_neg (by omega), if_neg (by omega)]; rfl
end Go.Proofs.Ytcpcghnpoekhpaa.A
/- Tries: Make gives the tree of rows. -/
set_option linter.unusedSimpArgs false
set_option linter.unusedVariables false
set_option maxRecDepth 100000
set_option maxHeartbeats 4000000
namespace Go.Proofs.Ytcpcghnpoekhpaa.A
open Go Go.RowKit
variable {w0 w : World} {S0 S : Nat → Prop} {F : Fr} {st : St} {a : Act} {bx : Nat → Nat} {ph : Nat → Nat → Pv}
theorem fall_aw {c : Code} {st S1 : St} {Post : Exit → Act → World → Prop} (h : Aw Try.prog T c (ToS T S1) st) (hr : Rels T w0 S0 F st a w) (k : ∀ a' w', Rels T w0 S0 F S1 a' w' → Post .normal a' w') : c.wp Try.prog Post a w := by
 refine wp_mono (h w0 S0 F a w hr) ?_
 rintro e a' w' ⟨st', ⟨rfl, hle⟩, hr'⟩
 exact k a' w' (hle _ _ _ _ _ hr')
theorem mk_body : Try.f8.body = some (.seq mk0 (.seq mk1 (.seq mk2 (.seq (.seq (cL mk3) (.block 0 (.rangeFunc (.tmp 21) #[22, 23] assign1 body1))) (.seq mk9 (.seq mk10 (.seq mk11 (.seq (.seq (cL mk20) (.block 4 (.rangeFunc (.tmp 87) #[88, 89] assign2 body2))) mk26)))))))) := rfl
theorem srt_gs (rows : List Rw) : srtF (frsY (begsL rows)) = gsR rows := rfl
theorem pc_Make24 (rows : List Rw) (hl : rows.length ≤ 100) (hw : ∀ x ∈ rows, x.2.1.size ≤ 100) :
    PC Try.prog T 8 [.v false [.sl (nRw rows) (rwC rows)]] (ret1 (.tree shO (.sl (nM (treeY (gsR rows) (begsL rows))) (mC (treeY (gsR rows) (begsL rows)))) none)) [] := by
  intro w S bx ph vs hheap hlv ha
  have hr0 := entry_rels (n := 112) hheap hlv rfl ha
  refine (callsIn_wide (n := 0)).1 (callsIn_of_wp_marks Try.func8 mk_body trivial ?_ rfl)
  refine (wpIn_wide (n := 0)).2 ?_
  change Rels T w S (entF 112 [.v false [.sl (nRw rows) (rwC rows)]] bx ph) _ { tmps := vs.toArray ++ Array.replicate (Try.f8.ntmps - vs.toArray.size) undef, defers := [] } w at hr0
  generalize ({ tmps := vs.toArray ++ Array.replicate (Try.f8.ntmps - vs.toArray.size) undef, defers := [] } : Act) = a0 at hr0
  refine wp_seq (fall_aw (mk_0 _ _) hr0 fun a1 w1 hr1 => ?_)
  refine wp_seq (fall_aw (mk_1 _ _) hr1 fun a2 w2 hr2 => ?_)
  refine wp_seq (fall_aw (mk_2 _ _ _) hr2 fun a3 w3 hr3 => ?_)
  clear hr0 hr1 hr2
  obtain ⟨S3, bx3, ph3, h3, _⟩ := hr3
  have hsz3 : a3.tmps.size = 112 := h3.size
  have hrow3 : CRep w3 S3 (a3.tmps.getD 0 undef) (.sl (nRw rows) (rwC rows)) := h3.slot 0 (by show 0 < 112; omega)
  obtain ⟨ad, cap, hv3, _⟩ := rows_at hrow3
  refine wp_seq (wp_seq (reg_3 hsz3 hv3 ?_))
  have h4 := h3.iter (o := .cells #[.slice ad rows.length cap] 22) (d1 := 20) (d2 := 21) (v1 := .slice ad rows.length cap) (v2 := .func (.func 32) #[] #[.pointer (some ⟨w3.heap.size, 0, none⟩)]) rfl rfl
  have hrow4 : CRep (w3.alloc (.cells #[.slice ad rows.length cap] 22)) S3 (.slice ad rows.length cap) (.sl (nRw rows) (rwC rows)) := by
    have := h4.slot 0 (by show 0 < 112; omega)
    have e : (((a3.put (some 20) (.slice ad rows.length cap)).put (some 21) (.func (.func 32) #[] #[.pointer (some ⟨w3.heap.size, 0, none⟩)])).tmps.getD 0 undef) = .slice ad rows.length cap := by
      show ((a3.tmps.setIfInBounds 20 _).setIfInBounds 21 _).getD 0 undef = _
      rw [getD_setT _ _ _ _ (by simp; omega), if_neg (by omega), getD_setT _ _ _ _ (by omega), if_neg (by omega), hv3]
    rw [e] at this
    exact this
  have hg4 : ((a3.put (some 20) (.slice ad rows.length cap)).put (some 21) (.func (.func 32) #[] #[.pointer (some ⟨w3.heap.size, 0, none⟩)])).tmps.getD 21 undef = .func (.func 32) #[] #[.pointer (some ⟨w3.heap.size, 0, none⟩)] := by
    show ((a3.tmps.setIfInBounds 20 _).setIfInBounds 21 _).getD 21 undef = _
    rw [getD_setT _ _ _ _ (by simp; omega), if_pos rfl]
  have hoff4 : ∀ t κ, ¬ owns (stA (nRw rows) (rwC rows) (GM.new.set (.string ByteArray.empty) (vI 0)) 1 [vS ByteArray.empty]).r bx3 ph3 t κ w3.heap.size := fun t κ hb => Nat.lt_irrefl _ (h3.heap.free t κ _ hb).2
  have hB4 : (w3.alloc (.cells #[.slice ad rows.length cap] 22)).heap[w3.heap.size]? = some (.cells #[.slice ad rows.length cap] 22 (0, 0)) := World.alloc_heap_new _ _
  generalize hBs : w3.heap.size = Bs at hg4 hoff4 hB4 h4
  generalize ((a3.put (some 20) (.slice ad rows.length cap)).put (some 21) (.func (.func 32) #[] #[.pointer (some ⟨Bs, 0, none⟩)])) = a4 at h4 hg4 ⊢
  generalize w3.alloc (.cells #[.slice ad rows.length cap] 22) = w4 at h4 hB4 hrow4 ⊢
  clear hrow3 hv3 hsz3 h3 hBs
  refine wp_mono (mk_range h4 (p := 3) (q := 4) (r1 := 22) (r2 := 23) (g := 21) (l := rows) (A := fun pre => [.map .str (mF pre)]) (B := fun pre => [.own strT (frsY pre).length (sC (frsY pre))]) (two_of (by omega) (by omega) (by omega) _ _ _ _ _) (fun _ => Nat.one_pos) (fun _ => Nat.one_pos) rfl rfl (by omega) (by omega) rfl rfl
    hg4 hrow4 hB4 hoff4 (by omega) (fun x hx => Nat.le_trans (hw x hx) (by omega)) (round_1 rows hl hw)) ?_
  rintro e a5 w5 ⟨rfl, ha5, S5, ph5, hk5, hn5, hD5⟩
  obtain ⟨h5, ho5⟩ := hk5 (stA (nRw rows) (rwC rows) (mF (begsL rows)) (frsY (begsL rows)).length (sC (frsY (begsL rows)))) (two_of (by omega) (by omega) (by omega) _ _ _ _ _) rfl (Nat.le_refl _)
  have hd4 : a4.defers = [] := h4.defers
  have hz1 : w4.heap.size < w5.heap.size := (Array.getElem?_eq_some_iff.1 hD5).1
  have hw4 : w.heap.size ≤ w4.heap.size := h4.chg.size
  generalize hD1 : w4.heap.size = D1 at ha5 hn5 hD5 ho5 hz1 hw4
  have hdf5 : a5.defers = [{ target := .collected D1, args := #[] }] := by rw [ha5]; show _ :: a4.defers = _; rw [hd4]
  clear hk5 hg4 hrow4 hB4 hoff4 ha5 hD1 h4 hd4
  -- the part between the loops, from here on
  obtain ⟨F1, hF1⟩ : ∃ F1 : Fr, F1 = ⟨fun b => ∃ t κ, owns (stA (nRw rows) (rwC rows) (mF (begsL rows)) (frsY (begsL rows)).length (sC (frsY (begsL rows)))).r bx3 ph5 t κ b, (entF 112 [.v false [.sl (nRw rows) (rwC rows)]] bx ph).pin, a5.defers⟩ := ⟨_, rfl⟩
  have hr5 : Rels T w5 S5 F1 (stA (nRw rows) (rwC rows) (mF (begsL rows)) (frsY (begsL rows)).length (sC (frsY (begsL rows)))) a5 w5 := by rw [hF1]; exact ⟨S5, bx3, ph5, h5.here, rfl⟩
  have hn1 : ¬ F1.on D1 := by rw [hF1]; exact fun ⟨t, κ, hb⟩ => ho5 t κ hb
  have hb1 := begsL_len rows hw
  have hb2 := frsY_len (begsL rows)
  have hFG := FG_gsR rows
  have hGs := srt_gs rows
  have hGl : (gsR rows).length = (frsY (begsL rows)).length := (gsR_perm rows).length_eq
  have hGn : nS (gsR rows) = (frsY (begsL rows)).length := (nS_eq _).trans hGl
  have hGw : ∀ b ∈ gsR rows, b.size ≤ 100 := fun b hb => by
    rcases (mem_gsR rows b).1 hb with rfl | ⟨r, hr, k, hk, rfl⟩
    · exact Nat.zero_le _
    · rw [size_ext0 _ hk]; exact Nat.le_trans hk (hw r hr)
  have hpos : 0 < (frsY (begsL rows)).length := by rw [← hGl]; obtain ⟨h0, _⟩ := hFG.zero; exact h0
  have hso := pco_sortF (frsY (begsL rows)) (frsY (begsL rows)).length (by omega) hpos
  rw [hGs] at hso
  refine wp_seq (fall_aw (mk_9 _ _ _ _ _ _ (sC_vals _) hso) hr5 fun a6 w6 hr6 => ?_)
  refine wp_seq (fall_aw (mk_10 _ _ _ _ _ (by omega)) hr6 fun a7 w7 hr7 => ?_)
  have hr8 := le_stC _ _ _ _ _ _ _ _ _ _ hr7
  have hti : (frsY (begsL rows)).length = nM (treeI (gsR rows) 0) := by rw [nM_eq, treeI_len, hGl]
  have htc : List.replicate (frsY (begsL rows)).length (0, []) = treeI (gsR rows) 0 := by rw [treeI_zero, hGl]
  rw [htc] at hr8
  clear hr5 hr6 hr7
  have hcong : ∀ k1 k2, k1 = nS (gsR rows) → k2 = nM (treeI (gsR rows) 0) → stC (nRw rows) (rwC rows) (mF (begsL rows)) k1 (sC (gsR rows)) k2 (mC (treeI (gsR rows) 0)) = stC (nRw rows) (rwC rows) (mF (begsL rows)) (nS (gsR rows)) (sC (gsR rows)) (nM (treeI (gsR rows) 0)) (mC (treeI (gsR rows) 0)) := fun k1 k2 e1 e2 => by rw [e1, e2]
  rw [hcong _ _ hGn.symm hti] at hr8
  refine wp_seq (wp_mono (mk_11 (nRw rows) (rwC rows) (mF (begsL rows)) (gsR rows) hFG (by omega) (fun b => (mF_get (begsL rows) b).1) (fun b hb => Nat.le_trans (hGw b hb) (by omega)) w5 S5 F1 a7 w7 hr8) ?_)
  rintro e a8 w8 ⟨st8, ⟨rfl, m8, hm8, hle8⟩, hr8'⟩
  obtain ⟨S8, bx8, ph8, h8, _⟩ := hle8 _ _ _ _ _ hr8'
  rw [treeI_done] at h8
  clear hr8 hr8' hle8 hcong
  have hsz8 : a8.tmps.size = 112 := h8.size
  have hrow8 : CRep w8 S8 (a8.tmps.getD 0 undef) (.sl (nRw rows) (rwC rows)) := h8.slot 0 (by show 0 < 112; omega)
  obtain ⟨ad8, cap8, hv8, _⟩ := rows_at hrow8
  refine wp_seq (wp_seq (reg_20 hsz8 hv8 ?_))
  have h9 := h8.iter (o := .cells #[.slice ad8 rows.length cap8] 22) (d1 := 86) (d2 := 87) (v1 := .slice ad8 rows.length cap8) (v2 := .func (.func 32) #[] #[.pointer (some ⟨w8.heap.size, 0, none⟩)]) rfl rfl
  have hrow9 : CRep (w8.alloc (.cells #[.slice ad8 rows.length cap8] 22)) S8 (.slice ad8 rows.length cap8) (.sl (nRw rows) (rwC rows)) := by
    have := h9.slot 0 (by show 0 < 112; omega)
    have e : (((a8.put (some 86) (.slice ad8 rows.length cap8)).put (some 87) (.func (.func 32) #[] #[.pointer (some ⟨w8.heap.size, 0, none⟩)])).tmps.getD 0 undef) = .slice ad8 rows.length cap8 := by
      show ((a8.tmps.setIfInBounds 86 _).setIfInBounds 87 _).getD 0 undef = _
      rw [getD_setT _ _ _ _ (by simp; omega), if_neg (by omega), getD_setT _ _ _ _ (by omega), if_neg (by omega), hv8]
    rw [e] at this
    exact this
  have hg9 : ((a8.put (some 86) (.slice ad8 rows.length cap8)).put (some 87) (.func (.func 32) #[] #[.pointer (some ⟨w8.heap.size, 0, none⟩)])).tmps.getD 87 undef = .func (.func 32) #[] #[.pointer (some ⟨w8.heap.size, 0, none⟩)] := by
    show ((a8.tmps.setIfInBounds 86 _).setIfInBounds 87 _).getD 87 undef = _
    rw [getD_setT _ _ _ _ (by simp; omega), if_pos rfl]
  have hoff9 : ∀ t κ, ¬ owns (stMk (nRw rows) (rwC rows) m8 (nM (treeY (gsR rows) [])) (mC (treeY (gsR rows) []))).r bx8 ph8 t κ w8.heap.size := fun t κ hb => Nat.lt_irrefl _ (h8.heap.free t κ _ hb).2
  have hB9 : (w8.alloc (.cells #[.slice ad8 rows.length cap8] 22)).heap[w8.heap.size]? = some (.cells #[.slice ad8 rows.length cap8] 22 (0, 0)) := World.alloc_heap_new _ _
  generalize hBs : w8.heap.size = Bs at hg9 hoff9 hB9 h9
  generalize ((a8.put (some 86) (.slice ad8 rows.length cap8)).put (some 87) (.func (.func 32) #[] #[.pointer (some ⟨Bs, 0, none⟩)])) = a9 at h9 hg9 ⊢
  generalize w8.alloc (.cells #[.slice ad8 rows.length cap8] 22) = w9 at h9 hB9 hrow9 ⊢
  clear hrow8 hv8 hsz8 h8 hBs
  refine wp_mono (mk_range h9 (p := 3) (q := 9) (r1 := 88) (r2 := 89) (g := 87) (l := rows) (A := fun pre => [.map .str m8]) (B := fun pre => [.tree shO (.sl (nM (treeY (gsR rows) pre)) (mC (treeY (gsR rows) pre))) none]) (two_of (by omega) (by omega) (by omega) _ _ _ _ _) (fun _ => Nat.one_pos) (fun _ => Nat.one_pos) rfl rfl (by omega) (by omega) rfl rfl
    hg9 hrow9 hB9 hoff9 (by omega) (fun x hx => Nat.le_trans (hw x hx) (by omega)) (round_2 rows m8 hm8)) ?_
  rintro e a10 w10 ⟨rfl, ha10, S10, ph10, hk10, hn10, hD10⟩
  obtain ⟨h10, ho10⟩ := hk10 (stMk (nRw rows) (rwC rows) m8 (nM (treeY (gsR rows) (begsL rows))) (mC (treeY (gsR rows) (begsL rows)))) (two_of (by omega) (by omega) (by omega) _ _ _ _ _) rfl (Nat.le_refl _)
  have hz2 : w9.heap.size < w10.heap.size := (Array.getElem?_eq_some_iff.1 hD10).1
  have hw9 : w5.heap.size ≤ w9.heap.size := h9.chg.size
  have hd9 : a9.defers = F1.df := h9.defers
  generalize hD2 : w9.heap.size = D2 at ha10 hn10 hD10 ho10 hz2 hw9
  have hdf10 : a10.defers = [{ target := .collected D2, args := #[] }, { target := .collected D1, args := #[] }] := by
    rw [ha10]; show _ :: a9.defers = _
    rw [hd9, hF1]; show _ :: a5.defers = _
    rw [hdf5]
  clear hk10 hg9 hrow9 hB9 hoff9 hD2 h9 hd9 ha10
  -- the first mark's block is as9 it was
  have q1 : w10.heap[D1]? = some (.deferred (some [])) := (h10.chg.block D1 hz1 hn1).trans hD5
  have q2 : ¬ S10 D1 := fun hs => by
    rcases h10.new D1 hs with q | q | q
    · exact hn5 q
    · omega
    · exact hn1 q
  have q3 : ∀ t κ, ¬ owns (stMk (nRw rows) (rwC rows) m8 (nM (treeY (gsR rows) (begsL rows))) (mC (treeY (gsR rows) (begsL rows)))).r bx8 ph10 t κ D1 := fun t κ hb => by
    rcases h10.mine t κ D1 hb with q | q
    · omega
    · exact hn1 q
  have hz3 : D1 < w10.heap.size := (Array.getElem?_eq_some_iff.1 q1).1
  refine wp_mono (mk_26 (nRw rows) (rwC rows) m8 _ _ w10 S10 ⟨fun b => ∃ t κ, owns (stMk (nRw rows) (rwC rows) m8 (nM (treeY (gsR rows) (begsL rows))) (mC (treeY (gsR rows) (begsL rows)))).r bx8 ph10 t κ b, F1.pin, a10.defers⟩ a10 w10 ⟨S10, bx8, ph10, h10.here, rfl⟩) ?_
  rintro e a11 w11 ⟨st11, ⟨he, hok⟩, S11, bx11, ph11, h11, hsp11⟩
  have off11 : ∀ D, D < w10.heap.size → ¬ S10 D → (∀ t κ, ¬ owns (stMk (nRw rows) (rwC rows) m8 (nM (treeY (gsR rows) (begsL rows))) (mC (treeY (gsR rows) (begsL rows)))).r bx8 ph10 t κ D) → ¬ S11 D ∧ (∀ t κ, ¬ owns st11.r bx11 ph11 t κ D) ∧ w11.heap[D]? = w10.heap[D]? := fun D d1 d2 d3 => by
    refine ⟨fun hs => ?_, fun t κ hb => ?_, h11.chg.block D d1 fun ⟨t, κ, hb⟩ => d3 t κ hb⟩
    · rcases h11.new D hs with q | q | ⟨t, κ, q⟩
      · exact d2 q
      · omega
      · exact d3 t κ q
    · rcases h11.mine t κ D hb with q | ⟨t', κ', q⟩
      · omega
      · exact d3 t' κ' q
  obtain ⟨r1, r2, r3⟩ := off11 D1 hz3 q2 q3
  obtain ⟨u1, u2, u3⟩ := off11 D2 hz2 hn10 ho10
  rw [q1] at r3
  rw [hD10] at u3
  have hdf11 : a11.defers = a10.defers := h11.defers
  have h12 := h10.back h11
  subst hF1
  have h13 := h5.back h12
  have hne : D1 ≠ D2 := by omega
  have hD1' : (w11.putObj D2 (.deferred none)).heap[D1]? = some (.deferred (some [])) := (World.putObj_heap_other hne).trans r3
  have hch : Chg (fun b => b = D2 ∨ b = D1) w11 ((w11.putObj D2 (.deferred none)).putObj D1 (.deferred none)) := ((putObj_chg w11 D2 _).mono fun _ _ h => .inl h).trans ((putObj_chg _ D1 _).mono fun _ _ h => .inr h)
  have h14 := h13.world hch fun b _ hb => by
    rcases hb with rfl | rfl
    · exact ⟨u1, u2, .inl (by omega)⟩
    · exact ⟨r1, r2, .inl (by omega)⟩
  have hfin := ret_go (fn := Try.f8) (args := [.v false [.sl (nRw rows) (rwC rows)]]) (bx := bx) (ph := ph) (df := a10.defers) tok hok h14 hsp11
  have hL : LeavesInM Fence.wide 0 Try.prog Try.f8 a11.tmps (fun e w' => ∃ v S' bx' ph', e = .returned v ∧ Gives T w S ([Arg.v false [.sl (nRw rows) (rwC rows)]].map Arg.asRoot) bx ph (ret1 (.tree shO (.sl (nM (treeY (gsR rows) (begsL rows))) (mC (treeY (gsR rows) (begsL rows)))) none)) [] v w' S' bx' ph') a11.defers .returning w11 := by
    rw [hdf11, hdf10]
    exact ⟨by simp, .inl ⟨_, _, rfl, run_takeDeferred u3, by simp, .inl ⟨_, _, rfl, run_takeDeferred hD1', hfin⟩⟩⟩
  rcases he with rfl | rfl
  · exact hL
  · exact hL
end Go.Proofs.Ytcpcghnpoekhpaa.A
/- Tries: Run, of machines whose edges lead to states. -/
set_option linter.unusedSimpArgs false
set_option linter.unusedVariables false
set_option maxRecDepth 100000
set_option maxHeartbeats 4000000
namespace Go.Proofs.Ytcpcghnpoekhpaa.A
open Go
def stepIQ (m : List Sta) (s t : Int) : Int := stepI m s t
def stepBQ (m : List Sta) (s t : Int) : Bool := stepB m s t
def bookRt (x_stsOf : List C → List Sta) (x_stepIQ : List Sta → Int → Int → Int) (x_stepBQ : List Sta → Int → Int → Bool) : Book := fun f xs => match f, xs with
 | 17, [.v false [.sl _ cs], .v false [.val (.int .i64 s)], .v false [.val (.int .i64 t)]] => some (rets [(false, [.st (vI (x_stepIQ (x_stsOf cs) s t))]), (false, [.st (vB (x_stepBQ (x_stsOf cs) s t))])], [])
 | _, _ => none
theorem ofB_at (w : ByteArray) {i : Nat} (h : i < w.size) : cellAt (ofBytesC w) i = .val (.int .u8 (bt w i)) := by
 unfold ofBytesC
 have hl : i < w.data.toList.length := by simpa using h
 show List.getD _ _ _ = _
 rw [List.getD_eq_getElem?_getD, List.getElem?_map, List.getElem?_eq_getElem hl, bt_data, List.getD_eq_getElem?_getD, List.getElem?_eq_getElem hl]; rfl
theorem ofB_len (w : ByteArray) : (ofBytesC w).length = w.size := by unfold ofBytesC; rw [List.length_map]; exact Array.length_toList
theorem runMw_nil {m : List Sta} (h : m.length = 0) (w : ByteArray) : runMw m w = -1 := by
 unfold runMw outM
 rw [if_neg (by omega)]
set_option cbv.maxSteps 3000000 in
theorem pc_RunT (m : List Sta) (w : ByteArray) (hs : SzM m) (hw : w.size < 4611686018427387904) (hv : ∀ i, i < m.length → ∀ e ∈ (mAt m i).2, 0 ≤ e.2 ∧ e.2 < m.length) :
  PC Try.prog T 12 [.v false [.sl (nM m) (mC m)], .v false [vS w]] (ret1 (.st (vI (runMw m w)))) [] := by
 have em := stsOf_mC m
 have nm := nM_eq m
 have lm := mC_len m
 have cS : ∀ s t, (std Try.prog T).pc 17 [.v false [.sl (nM m) (mC m)], .v false [vI s], .v false [vI t]] (rets [(false, [.st (vI (stepIQ (stsOf (mC m)) s t))]), (false, [.st (vB (stepBQ (stsOf (mC m)) s t))])]) [] := fun s t => by
  rw [em]; exact ⟨enters Try.func17 (by kernel_rfl) (by kernel_rfl), pc_Step m s t hs hv⟩
 have hb := fun i (h : i < w.size) => ofB_at w h
 have lb := ofB_len w
 have hm0 : m.length = 0 → runMw m w = -1 := fun h => runMw_nil h w
 refine pc_of tok Try.func12 rfl (by rfl) ?_
 obtain ⟨j, hj⟩ : ∃ j : J, j = std Try.prog T := ⟨_, rfl⟩
 have hm : Try.prog.follows .mixedOrders = true := by kernel_rfl
 rcases Decidable.em (m.length = 0) with h0 | h0
 ·have hE := hm0 h0
  generalize y_stsOf : @stsOf = x_stsOf at *
  generalize y_stepIQ : @stepIQ = x_stepIQ at *
  generalize y_stepBQ : @stepBQ = x_stepBQ at *
  generalize y_mC : @mC = x_mC at *
  generalize y_nM : @nM = x_nM at *
  generalize y_runMw : @runMw = x_runMw at *
  (repeat' first | ((first | with_reducible refine tr_cut (fun h => ?_) (fun h => ?_) | refine aw_condj (by cbv) (fun h => ?_) (fun h => ?_)) <;> (try simp (disch := omega) only [hj, std, cmpI, cmpB, satB, Bool.not_eq_true, Bool.not_eq_false, decide_eq_true_eq, decide_eq_false_iff_not, beq_iff_eq, bne_iff_ne, bne_eq_false_iff_eq, beq_eq_false_iff_ne, ne_eq, reduceCtorEq, not_true_eq_false, not_false_eq_true, pl0, if_true, cmpS_eq, cmpS_neq, Bool.not_eq_eq_eq_not, Bool.not_true, Bool.not_false, Bool.not_eq_true', add64, sub64] at h) <;> (try (exfalso; omega))) | (with_reducible refine tr_alt (fun h => ?_) ?_ <;> (try (exfalso; omega))) | (with_reducible first | refine tr_ob ?_ ?_ | refine tr_done ?_) | (refine aw_tr hj tok (bookRt x_stsOf x_stepIQ x_stepBQ) (by cbv) ?_) | (refine aw_seq fun K hK => ?_) | (refine aw_tr1 hj tok (bookRt x_stsOf x_stepIQ x_stepBQ) (by cbv) ?_) | (refine aw_skip ?_) | (refine aw_block ?_) | (refine aw_exit ?_) | (refine aw_ret ⟨.inr rfl, ret_okj hj (by cbv) ?_ ?_⟩) | (refine aw_ret ?_) | (with_reducible first | refine th_n ?_ | refine th_r ?_ | refine th_x ?_ | refine blk_n ?_ | refine blk_r ?_ | refine blk_x ?_ | refine blk_y rfl ?_) | (refine ⟨.inr rfl, ret_okj hj (by cbv) ?_ ?_⟩) | (refine ⟨.inl rfl, ret_okj hj (by cbv) ?_ ?_⟩) | (with_reducible first | refine ⟨(_, _), by cbv, ?_, ?_⟩ | refine ⟨_, by cbv, ?_, ?_⟩) | (with_reducible apply_assumption -symm -exfalso only [*]))
  all_goals ((try subst y_stsOf); (try subst y_stepIQ); (try subst y_stepBQ); (try subst y_mC); (try subst y_nM); (try subst y_runMw))
  all_goals (try (repeat' first | with_reducible exact obl0 | (with_reducible refine obl1 ?_ ?_)))
  all_goals (try first | with_reducible exact True.intro | ((first | refine ob_le hj ?_ | refine ob_lei hj ?_ | refine ob_inb hj ?_ | refine ob_pos hj ?_ | refine ob_ne0 hj ?_ | refine ob_eqb hj ?_); (first | rfl | first | omega | (simp only [hj, std]; split <;> omega) | (simp (disch := omega) only [hj, std, cmpI, cmpB, satB, add64, sub64, ite0, pl0, pl2, pl3, sb0, if_true, if_false, eq_self] <;> omega) | (simp (disch := omega) [hj, std, cmpI, cmpB, satB, add64, sub64, ite0, pl0, pl2, pl3, sb0, if_true, if_false, eq_self] <;> omega))) | ((rw [hE]; exact rfl)))
 generalize y_stsOf : @stsOf = x_stsOf at *
 generalize y_stepIQ : @stepIQ = x_stepIQ at *
 generalize y_stepBQ : @stepBQ = x_stepBQ at *
 generalize y_mC : @mC = x_mC at *
 generalize y_nM : @nM = x_nM at *
 generalize y_runMw : @runMw = x_runMw at *
 (repeat' first | ((first | with_reducible refine tr_cut (fun h => ?_) (fun h => ?_) | refine aw_condj (by cbv) (fun h => ?_) (fun h => ?_)) <;> (try simp (disch := omega) only [hj, std, cmpI, cmpB, satB, Bool.not_eq_true, Bool.not_eq_false, decide_eq_true_eq, decide_eq_false_iff_not, beq_iff_eq, bne_iff_ne, bne_eq_false_iff_eq, beq_eq_false_iff_ne, ne_eq, reduceCtorEq, not_true_eq_false, not_false_eq_true, pl0, if_true, cmpS_eq, cmpS_neq, Bool.not_eq_eq_eq_not, Bool.not_true, Bool.not_false, Bool.not_eq_true', add64, sub64] at h) <;> (try (exfalso; omega))) | (with_reducible refine tr_alt (fun h => ?_) ?_ <;> (try (exfalso; omega))) | (with_reducible first | refine tr_ob ?_ ?_ | refine tr_done ?_) | (refine aw_tr hj tok (bookRt x_stsOf x_stepIQ x_stepBQ) (by cbv) ?_) | (refine aw_seq fun K hK => ?_) | (refine aw_tr1 hj tok (bookRt x_stsOf x_stepIQ x_stepBQ) (by cbv) ?_) | (refine aw_skip ?_) | (refine aw_block ?_) | (refine aw_exit ?_) | (refine aw_ret ⟨.inr rfl, ret_okj hj (by cbv) ?_ ?_⟩) | (refine aw_ret ?_) | (with_reducible first | refine th_n ?_ | refine th_r ?_ | refine th_x ?_ | refine blk_n ?_ | refine blk_r ?_ | refine blk_x ?_ | refine blk_y rfl ?_) | (refine ⟨.inr rfl, ret_okj hj (by cbv) ?_ ?_⟩) | (refine ⟨.inl rfl, ret_okj hj (by cbv) ?_ ?_⟩) | (with_reducible first | refine ⟨(_, _), by cbv, ?_, ?_⟩ | refine ⟨_, by cbv, ?_, ?_⟩) | (with_reducible apply_assumption -symm -exfalso only [*]))
 all_goals ((try subst y_stsOf); (try subst y_stepIQ); (try subst y_stepBQ); (try subst y_mC); (try subst y_nM); (try subst y_runMw))
 all_goals (try (repeat' first | with_reducible exact obl0 | (with_reducible refine obl1 ?_ ?_)))
 all_goals (try first | with_reducible exact True.intro | ((first | refine ob_le hj ?_ | refine ob_lei hj ?_ | refine ob_inb hj ?_ | refine ob_pos hj ?_ | refine ob_ne0 hj ?_ | refine ob_eqb hj ?_); (first | rfl | first | omega | (simp only [hj, std]; split <;> omega) | (simp (disch := omega) only [hj, std, cmpI, cmpB, satB, add64, sub64, ite0, pl0, pl2, pl3, sb0, if_true, if_false, eq_self] <;> omega) | (simp (disch := omega) [hj, std, cmpI, cmpB, satB, add64, sub64, ite0, pl0, pl2, pl3, sb0, if_true, if_false, eq_self] <;> omega))))
 refine aw_lpj hj [(0, .keep), (5, .keep), (13, .keep), (14, .keep), (15, .keep)] [] (fun (⟨i, s⟩ : Int × Int) => stOf 35 [(0, .one (.c (.sl (nM m) (mC m)))), (5, .one (.c (vI s))), (13, .one (.c (.sl (j.ssize w) (j.ofBytes w)))), (14, .one (.c (vI (j.ofNat (j.ssize w))))), (15, .one (.c (vI i)))] []) (fun (⟨i, s⟩ : Int × Int) => w.size - i.toNat) (fun (⟨i, s⟩ : Int × Int) => 0 ≤ i ∧ i ≤ w.size ∧ 0 ≤ s ∧ s < m.length ∧ s = runW m w i.toNat) ((0, 0)) (by generalize @stsOf = x_stsOf; generalize @stepIQ = x_stepIQ; generalize @stepBQ = x_stepBQ; generalize @mC = x_mC; generalize @nM = x_nM; generalize @runMw = x_runMw; cbv) ?_ (fun ⟨i, s⟩ hI => ?_)
 ·exact ⟨by omega, by omega, by omega, by omega, rfl⟩
 obtain ⟨i1, i2, s1, s2, i3⟩ := hI
 have hE : ¬ i < w.size → runMw m w = (mAt m s.toNat).1 := fun h => by
  unfold runMw outM
  rw [show w.size = i.toNat by omega, ← i3, if_pos ⟨s1, s2⟩]
 have hB : i < w.size → runW m w (i.toNat + 1) = goM m s (bt w i.toNat) := fun h => by rw [runW_step m w (by rw [← i3]; omega), ← i3]
 have hgo := goM_ge m s (bt w i.toNat)
 have hno : i < w.size → goM m s (bt w i.toNat) < 0 → runMw m w = -1 := fun h1 h2 => runMw_neg m w (i := i.toNat + 1) (by omega) (by rw [hB h1]; exact h2)
 obtain ⟨c0, _⟩ := mC_at m s.toNat (by omega)
 have hbw := bt_lt w i.toNat
 have hwr : IntKind.wrap .i64 (bt w i.toNat : Int) = (bt w i.toNat : Int) := wrap64 (by omega) (by omega)
 rcases Decidable.em (i < (w.size : Int)) with hi | hi
 rotate_left
 ·have hE := hE hi
  clear hB hno hgo
  generalize y_stsOf : @stsOf = x_stsOf at *
  generalize y_stepIQ : @stepIQ = x_stepIQ at *
  generalize y_stepBQ : @stepBQ = x_stepBQ at *
  generalize y_mC : @mC = x_mC at *
  generalize y_nM : @nM = x_nM at *
  generalize y_runMw : @runMw = x_runMw at *
  (repeat' first | ((first | with_reducible refine tr_cut (fun h => ?_) (fun h => ?_) | refine aw_condj (by cbv) (fun h => ?_) (fun h => ?_)) <;> (try simp (disch := omega) only [hj, std, cmpI, cmpB, satB, Bool.not_eq_true, Bool.not_eq_false, decide_eq_true_eq, decide_eq_false_iff_not, beq_iff_eq, bne_iff_ne, bne_eq_false_iff_eq, beq_eq_false_iff_ne, ne_eq, reduceCtorEq, not_true_eq_false, not_false_eq_true, pl0, if_true, cmpS_eq, cmpS_neq, Bool.not_eq_eq_eq_not, Bool.not_true, Bool.not_false, Bool.not_eq_true', Int.ofNat_eq_natCast, add64, sub64] at h) <;> (try (exfalso; omega))) | (with_reducible refine tr_alt (fun h => ?_) ?_ <;> (try (exfalso; omega))) | (with_reducible first | refine tr_ob ?_ ?_ | refine tr_done ?_) | (refine aw_tr hj tok (bookRt x_stsOf x_stepIQ x_stepBQ) (by cbv) ?_) | (refine aw_seq fun K hK => ?_) | (refine aw_tr1 hj tok (bookRt x_stsOf x_stepIQ x_stepBQ) (by cbv) ?_) | (refine aw_skip ?_) | (refine aw_block ?_) | (refine aw_exit ?_) | (refine aw_ret ⟨.inr rfl, ret_okj hj (by cbv) ?_ ?_⟩) | (refine aw_ret ?_) | (with_reducible first | refine th_n ?_ | refine th_r ?_ | refine th_x ?_ | refine blk_n ?_ | refine blk_r ?_ | refine blk_x ?_ | refine blk_y rfl ?_) | (refine ⟨.inr rfl, ret_okj hj (by cbv) ?_ ?_⟩) | (refine ⟨.inl rfl, ret_okj hj (by cbv) ?_ ?_⟩) | (with_reducible first | refine ⟨(_, _), by cbv, ?_, ?_⟩ | refine ⟨_, by cbv, ?_, ?_⟩) | (with_reducible apply_assumption -symm -exfalso only [*]))
  all_goals ((try subst y_stsOf); (try subst y_stepIQ); (try subst y_stepBQ); (try subst y_mC); (try subst y_nM); (try subst y_runMw))
  all_goals (try (repeat' first | with_reducible exact obl0 | (with_reducible refine obl1 ?_ ?_)))
  all_goals (try first | with_reducible exact True.intro | ((first | refine ob_le hj ?_ | refine ob_lei hj ?_ | refine ob_inb hj ?_ | refine ob_pos hj ?_ | refine ob_ne0 hj ?_ | refine ob_eqb hj ?_); (first | rfl | first | omega | (simp only [hj, std]; split <;> omega) | (simp (disch := omega) only [hj, std, cmpI, cmpB, satB, add64, sub64, ite0, pl0, pl2, pl3, sb0, if_true, if_false, eq_self, lm] <;> omega) | (simp (disch := omega) [hj, std, cmpI, cmpB, satB, add64, sub64, ite0, pl0, pl2, pl3, sb0, if_true, if_false, eq_self, lm] <;> omega))) | ((refine ob_ok hj ?_; simp only [hj, std, ite0]; exact ⟨_, c0⟩)) | ((refine r1i ?_; rw [hE]; simp only [hj, std, ite0, c0]; rfl)))
 have hq := hb i.toNat (by omega)
 have hqg : gi (cellAt (ofBytesC w) i.toNat) = (bt w i.toNat : Int) := by rw [hq]; rfl
 have hi1 : j.arith .add .i64 i 1 = i + 1 := by rw [hj]; exact add64 (by omega) (by omega)
 have f1 : (i + 1).toNat = i.toNat + 1 := by omega
 have hsB : stepBQ (stsOf (mC m)) s (bt w i.toNat) = decide (0 ≤ goM m s (bt w i.toNat)) := by rw [em]; rfl
 have hsI : 0 ≤ goM m s (bt w i.toNat) → stepIQ (stsOf (mC m)) s (bt w i.toNat) = runW m w (i.toNat + 1) := fun h => by rw [em, hB hi]; exact if_pos h
 clear hE
 generalize y_stsOf : @stsOf = x_stsOf at *
 generalize y_stepIQ : @stepIQ = x_stepIQ at *
 generalize y_stepBQ : @stepBQ = x_stepBQ at *
 generalize y_mC : @mC = x_mC at *
 generalize y_nM : @nM = x_nM at *
 generalize y_runMw : @runMw = x_runMw at *
 (repeat' first | ((first | with_reducible refine tr_cut (fun h => ?_) (fun h => ?_) | refine aw_condj (by cbv) (fun h => ?_) (fun h => ?_)) <;> (try simp (disch := omega) only [hj, std, cmpI, cmpB, satB, Bool.not_eq_true, Bool.not_eq_false, decide_eq_true_eq, decide_eq_false_iff_not, beq_iff_eq, bne_iff_ne, bne_eq_false_iff_eq, beq_eq_false_iff_ne, ne_eq, reduceCtorEq, not_true_eq_false, not_false_eq_true, pl0, if_true, cmpS_eq, cmpS_neq, Bool.not_eq_eq_eq_not, Bool.not_true, Bool.not_false, Bool.not_eq_true', Int.ofNat_eq_natCast, hqg, hwr, ite0, add64, sub64] at h) <;> (try (exfalso; omega))) | (with_reducible refine tr_alt (fun h => ?_) ?_ <;> (try (exfalso; omega))) | (with_reducible first | refine tr_ob ?_ ?_ | refine tr_done ?_) | (refine aw_tr hj tok (bookRt x_stsOf x_stepIQ x_stepBQ) (by cbv) ?_) | (refine aw_seq fun K hK => ?_) | (refine aw_tr1 hj tok (bookRt x_stsOf x_stepIQ x_stepBQ) (by cbv) ?_) | (refine aw_skip ?_) | (refine aw_block ?_) | (refine aw_exit ?_) | (refine aw_ret ⟨.inr rfl, ret_okj hj (by cbv) ?_ ?_⟩) | (refine aw_ret ?_) | (with_reducible first | refine th_n ?_ | refine th_r ?_ | refine th_x ?_ | refine blk_n ?_ | refine blk_r ?_ | refine blk_x ?_ | refine blk_y rfl ?_) | (refine ⟨.inr rfl, ret_okj hj (by cbv) ?_ ?_⟩) | (refine ⟨.inl rfl, ret_okj hj (by cbv) ?_ ?_⟩) | (with_reducible first | refine ⟨(_, _), by cbv, ?_, ?_⟩ | refine ⟨_, by cbv, ?_, ?_⟩) | (with_reducible apply_assumption -symm -exfalso only [*]))
 all_goals ((try subst y_stsOf); (try subst y_stepIQ); (try subst y_stepBQ); (try subst y_mC); (try subst y_nM); (try subst y_runMw))
 all_goals (try have hx := ‹stepBQ (stsOf (mC m)) s (bt w i.toNat) = true›)
 all_goals (try have hx := ‹stepBQ (stsOf (mC m)) s (bt w i.toNat) = false›)
 all_goals (try rw [hsB, decide_eq_true_eq] at hx)
 all_goals (try rw [hsB, decide_eq_false_iff_not] at hx)
 all_goals (try (repeat' first | with_reducible exact obl0 | with_reducible refine obl1 ?_ ?_))
 all_goals (try first | with_reducible exact True.intro | ((first | refine ob_pc hj ?_ | refine ob_pcn hj ?_); (try rw [hj]); first | exact cS _ _) | ((first | refine ob_le hj ?_ | refine ob_lei hj ?_ | refine ob_inb hj ?_ | refine ob_pos hj ?_ | refine ob_ne0 hj ?_ | refine ob_eqb hj ?_); (first | rfl | first | omega | (simp only [hj, std]; split <;> omega) | (simp (disch := omega) only [hj, std, cmpI, cmpB, satB, add64, sub64, ite0, pl0, pl2, pl3, sb0, if_true, if_false, eq_self, lb] <;> omega) | (simp (disch := omega) [hj, std, cmpI, cmpB, satB, add64, sub64, ite0, pl0, pl2, pl3, sb0, if_true, if_false, eq_self, lb] <;> omega))) | ((refine ob_ok hj ?_; simp only [hj, std, ite0]; exact ⟨_, hq⟩)) | ((refine r1i ?_; rw [hno hi (by omega)])) | ((show w.size - (j.arith .add .i64 i 1).toNat < w.size - i.toNat; rw [hi1]; omega)) | ((simp (disch := omega) only [hj, std, add64, f1, hqg, hwr]; rw [hsI hx, hB hi]; exact ⟨by omega, by omega, by omega, by omega, rfl⟩)))
end Go.Proofs.Ytcpcghnpoekhpaa.A
