/- The table of types. Written by wip/tools/tt.py. -/
import Derived.Test.YtljnfejcdadjpaaDoorProg
import Derived.Test.YtljnfejcdadjpaaDoorAm26
namespace Go.Proofs.YtljnfejcdadjpaaDoor.A
open Go
def ti1 : TI := { desc := (Go.TypeDesc.func #[] #[] false), size := 1, bytes := 8, zero := .nilFunc, cells := [.raw] }
def ti2 : TI := { desc := (Go.TypeDesc.int Go.IntKind.i64), size := 1, bytes := 8, zero := .int .i64 0, cells := [.int .i64] }
def ti3 : TI := { desc := (Go.TypeDesc.int Go.IntKind.i64), size := 1, bytes := 8, zero := .int .i64 0, cells := [.int .i64] }
def ti4 : TI := { desc := Go.TypeDesc.bool, size := 1, bytes := 1, zero := .bool false, cells := [.bool] }
def ti5 : TI := { desc := (Go.TypeDesc.int Go.IntKind.u8), size := 1, bytes := 1, zero := .int .u8 0, cells := [.int .u8] }
def ti6 : TI := { desc := (Go.TypeDesc.int Go.IntKind.u8), size := 1, bytes := 1, zero := .int .u8 0, cells := [.int .u8] }
def ti7 : TI := { desc := (Go.TypeDesc.struct #[{ name := "x", type := 2, offset := 0, embedded := false, tag := "", pkgPath := "runtime", byteOffset := 0 }, { name := "y", type := 3, offset := 1, embedded := false, tag := "", pkgPath := "runtime", byteOffset := 8 }, { name := "signed", type := 4, offset := 2, embedded := false, tag := "", pkgPath := "runtime", byteOffset := 16 }, { name := "code", type := 6, offset := 3, embedded := false, tag := "", pkgPath := "runtime", byteOffset := 17 }]), size := 4, bytes := 24, zero := .agg #[.int .i64 0, .int .i64 0, .bool false, .int .u8 0], cells := [.int .i64, .int .i64, .bool, .int .u8] }
def ti8 : TI := { desc := (Go.TypeDesc.struct #[{ name := "x", type := 2, offset := 0, embedded := false, tag := "", pkgPath := "runtime", byteOffset := 0 }, { name := "y", type := 3, offset := 1, embedded := false, tag := "", pkgPath := "runtime", byteOffset := 8 }, { name := "signed", type := 4, offset := 2, embedded := false, tag := "", pkgPath := "runtime", byteOffset := 16 }, { name := "code", type := 6, offset := 3, embedded := false, tag := "", pkgPath := "runtime", byteOffset := 17 }]), size := 4, bytes := 24, zero := .agg #[.int .i64 0, .int .i64 0, .bool false, .int .u8 0], cells := [.int .i64, .int .i64, .bool, .int .u8] }
def ti9 : TI := { desc := Go.TypeDesc.string, size := 1, bytes := 16, zero := .string ByteArray.empty, cells := [.str] }
def ti10 : TI := { desc := Go.TypeDesc.string, size := 1, bytes := 16, zero := .string ByteArray.empty, cells := [.str] }
def ti11 : TI := { desc := Go.TypeDesc.string, size := 1, bytes := 16, zero := .string ByteArray.empty, cells := [.str] }
def ti12 : TI := { desc := (Go.TypeDesc.int Go.IntKind.u64), size := 1, bytes := 8, zero := .int .u64 0, cells := [.int .u64] }
def ti13 : TI := { desc := (Go.TypeDesc.struct #[{ name := "msg", type := 9, offset := 0, embedded := false, tag := "", pkgPath := "runtime", byteOffset := 0 }, { name := "addr", type := 12, offset := 1, embedded := false, tag := "", pkgPath := "runtime", byteOffset := 16 }]), size := 2, bytes := 24, zero := .agg #[.string ByteArray.empty, .int .u64 0], cells := [.str, .int .u64] }
def ti14 : TI := { desc := (Go.TypeDesc.struct #[{ name := "msg", type := 9, offset := 0, embedded := false, tag := "", pkgPath := "runtime", byteOffset := 0 }, { name := "addr", type := 12, offset := 1, embedded := false, tag := "", pkgPath := "runtime", byteOffset := 16 }]), size := 2, bytes := 24, zero := .agg #[.string ByteArray.empty, .int .u64 0], cells := [.str, .int .u64] }
def ti15 : TI := { desc := (Go.TypeDesc.pointer 61), size := 1, bytes := 8, zero := .pointer none, cells := [.raw] }
def ti16 : TI := { desc := (Go.TypeDesc.pointer 64), size := 1, bytes := 8, zero := .pointer none, cells := [.raw] }
def ti17 : TI := { desc := (Go.TypeDesc.pointer 73), size := 1, bytes := 8, zero := .pointer none, cells := [.raw] }
def ti18 : TI := { desc := (Go.TypeDesc.struct #[{ name := "typ", type := 17, offset := 0, embedded := false, tag := "", pkgPath := "internal/runtime/maps", byteOffset := 0 }]), size := 1, bytes := 8, zero := .agg #[.pointer none], cells := [.raw] }
def ti19 : TI := { desc := (Go.TypeDesc.struct #[{ name := "typ", type := 17, offset := 0, embedded := false, tag := "", pkgPath := "internal/runtime/maps", byteOffset := 0 }]), size := 1, bytes := 8, zero := .agg #[.pointer none], cells := [.raw] }
def ti20 : TI := { desc := (Go.TypeDesc.interface #[]), size := 1, bytes := 16, zero := .nilIface, cells := [.raw] }
def ti21 : TI := { desc := (Go.TypeDesc.int Go.IntKind.i32), size := 1, bytes := 4, zero := .int .i32 0, cells := [.int .i32] }
def ti22 : TI := { desc := (Go.TypeDesc.slice 9), size := 1, bytes := 24, zero := .slice none 0 0, cells := [.sl] }
def ti23 : TI := { desc := (Go.TypeDesc.func #[] #[22] false), size := 1, bytes := 8, zero := .nilFunc, cells := [.raw] }
def ti24 : TI := { desc := (Go.TypeDesc.int Go.IntKind.i64), size := 1, bytes := 8, zero := .int .i64 0, cells := [.int .i64] }
def ti26 : TI := { desc := (Go.TypeDesc.func #[9] #[24, 4] false), size := 1, bytes := 8, zero := .nilFunc, cells := [.raw] }
def ti27 : TI := { desc := (Go.TypeDesc.func #[] #[4] false), size := 1, bytes := 8, zero := .nilFunc, cells := [.raw] }
def ti28 : TI := { desc := (Go.TypeDesc.func #[9] #[4] false), size := 1, bytes := 8, zero := .nilFunc, cells := [.raw] }
def ti29 : TI := { desc := (Go.TypeDesc.slice 24), size := 1, bytes := 24, zero := .slice none 0 0, cells := [.sl] }
def ti30 : TI := { desc := (Go.TypeDesc.func #[29] #[24] true), size := 1, bytes := 8, zero := .nilFunc, cells := [.raw] }
def ti31 : TI := { desc := (Go.TypeDesc.func #[29] #[4] false), size := 1, bytes := 8, zero := .nilFunc, cells := [.raw] }
def ti32 : TI := { desc := (Go.TypeDesc.func #[24] #[9] false), size := 1, bytes := 8, zero := .nilFunc, cells := [.raw] }
def ti33 : TI := { desc := (Go.TypeDesc.func #[3] #[9] false), size := 1, bytes := 8, zero := .nilFunc, cells := [.raw] }
def ti34 : TI := { desc := (Go.TypeDesc.int Go.IntKind.i64), size := 1, bytes := 8, zero := .int .i64 0, cells := [.int .i64] }
def ti35 : TI := { desc := (Go.TypeDesc.func #[24] #[34] false), size := 1, bytes := 8, zero := .nilFunc, cells := [.raw] }
def ti36 : TI := { desc := (Go.TypeDesc.func #[3] #[4] false), size := 1, bytes := 8, zero := .nilFunc, cells := [.raw] }
def ti37 : TI := { desc := (Go.TypeDesc.array 25 9), size := 25, bytes := 400, zero := .agg #[.string ByteArray.empty, .string ByteArray.empty, .string ByteArray.empty, .string ByteArray.empty, .string ByteArray.empty, .string ByteArray.empty, .string ByteArray.empty, .string ByteArray.empty, .string ByteArray.empty, .string ByteArray.empty, .string ByteArray.empty, .string ByteArray.empty, .string ByteArray.empty, .string ByteArray.empty, .string ByteArray.empty, .string ByteArray.empty, .string ByteArray.empty, .string ByteArray.empty, .string ByteArray.empty, .string ByteArray.empty, .string ByteArray.empty, .string ByteArray.empty, .string ByteArray.empty, .string ByteArray.empty, .string ByteArray.empty], cells := [.str, .str, .str, .str, .str, .str, .str, .str, .str, .str, .str, .str, .str, .str, .str, .str, .str, .str, .str, .str, .str, .str, .str, .str, .str] }
def ti38 : TI := { desc := (Go.TypeDesc.func #[] #[37] false), size := 1, bytes := 8, zero := .nilFunc, cells := [.raw] }
def ti39 : TI := { desc := (Go.TypeDesc.func #[29, 40] #[3] false), size := 1, bytes := 8, zero := .nilFunc, cells := [.raw] }
def ti40 : TI := { desc := (Go.TypeDesc.func #[24] #[4] false), size := 1, bytes := 8, zero := .nilFunc, cells := [.raw] }
def ti41 : TI := { desc := (Go.TypeDesc.func #[2, 3] #[9] false), size := 1, bytes := 8, zero := .nilFunc, cells := [.raw] }
def ti42 : TI := { desc := (Go.TypeDesc.array 24 5), size := 24, bytes := 24, zero := .agg #[.int .u8 0, .int .u8 0, .int .u8 0, .int .u8 0, .int .u8 0, .int .u8 0, .int .u8 0, .int .u8 0, .int .u8 0, .int .u8 0, .int .u8 0, .int .u8 0, .int .u8 0, .int .u8 0, .int .u8 0, .int .u8 0, .int .u8 0, .int .u8 0, .int .u8 0, .int .u8 0, .int .u8 0, .int .u8 0, .int .u8 0, .int .u8 0], cells := [.int .u8, .int .u8, .int .u8, .int .u8, .int .u8, .int .u8, .int .u8, .int .u8, .int .u8, .int .u8, .int .u8, .int .u8, .int .u8, .int .u8, .int .u8, .int .u8, .int .u8, .int .u8, .int .u8, .int .u8, .int .u8, .int .u8, .int .u8, .int .u8] }
def ti43 : TI := { desc := (Go.TypeDesc.int Go.IntKind.u64), size := 1, bytes := 8, zero := .int .u64 0, cells := [.int .u64] }
def ti44 : TI := { desc := (Go.TypeDesc.func #[43] #[3] false), size := 1, bytes := 8, zero := .nilFunc, cells := [.raw] }
def ti45 : TI := { desc := (Go.TypeDesc.func #[46, 43] #[] false), size := 1, bytes := 8, zero := .nilFunc, cells := [.raw] }
def ti46 : TI := { desc := (Go.TypeDesc.slice 5), size := 1, bytes := 24, zero := .slice none 0 0, cells := [.sl] }
def ti48 : TI := { desc := (Go.TypeDesc.func #[46, 43, 3, 4, 4] #[46, 9] false), size := 1, bytes := 8, zero := .nilFunc, cells := [.raw] }
def ti49 : TI := { desc := (Go.TypeDesc.func #[3] #[3] false), size := 1, bytes := 8, zero := .nilFunc, cells := [.raw] }
def ti50 : TI := { desc := (Go.TypeDesc.func #[4] #[3] false), size := 1, bytes := 8, zero := .nilFunc, cells := [.raw] }
def ti51 : TI := { desc := (Go.TypeDesc.array 20 43), size := 20, bytes := 160, zero := .agg #[.int .u64 0, .int .u64 0, .int .u64 0, .int .u64 0, .int .u64 0, .int .u64 0, .int .u64 0, .int .u64 0, .int .u64 0, .int .u64 0, .int .u64 0, .int .u64 0, .int .u64 0, .int .u64 0, .int .u64 0, .int .u64 0, .int .u64 0, .int .u64 0, .int .u64 0, .int .u64 0], cells := [.int .u64, .int .u64, .int .u64, .int .u64, .int .u64, .int .u64, .int .u64, .int .u64, .int .u64, .int .u64, .int .u64, .int .u64, .int .u64, .int .u64, .int .u64, .int .u64, .int .u64, .int .u64, .int .u64, .int .u64] }
def ti52 : TI := { desc := (Go.TypeDesc.int Go.IntKind.u32), size := 1, bytes := 4, zero := .int .u32 0, cells := [.int .u32] }
def ti53 : TI := { desc := (Go.TypeDesc.array 65 5), size := 65, bytes := 65, zero := .agg #[.int .u8 0, .int .u8 0, .int .u8 0, .int .u8 0, .int .u8 0, .int .u8 0, .int .u8 0, .int .u8 0, .int .u8 0, .int .u8 0, .int .u8 0, .int .u8 0, .int .u8 0, .int .u8 0, .int .u8 0, .int .u8 0, .int .u8 0, .int .u8 0, .int .u8 0, .int .u8 0, .int .u8 0, .int .u8 0, .int .u8 0, .int .u8 0, .int .u8 0, .int .u8 0, .int .u8 0, .int .u8 0, .int .u8 0, .int .u8 0, .int .u8 0, .int .u8 0, .int .u8 0, .int .u8 0, .int .u8 0, .int .u8 0, .int .u8 0, .int .u8 0, .int .u8 0, .int .u8 0, .int .u8 0, .int .u8 0, .int .u8 0, .int .u8 0, .int .u8 0, .int .u8 0, .int .u8 0, .int .u8 0, .int .u8 0, .int .u8 0, .int .u8 0, .int .u8 0, .int .u8 0, .int .u8 0, .int .u8 0, .int .u8 0, .int .u8 0, .int .u8 0, .int .u8 0, .int .u8 0, .int .u8 0, .int .u8 0, .int .u8 0, .int .u8 0, .int .u8 0], cells := [.int .u8, .int .u8, .int .u8, .int .u8, .int .u8, .int .u8, .int .u8, .int .u8, .int .u8, .int .u8, .int .u8, .int .u8, .int .u8, .int .u8, .int .u8, .int .u8, .int .u8, .int .u8, .int .u8, .int .u8, .int .u8, .int .u8, .int .u8, .int .u8, .int .u8, .int .u8, .int .u8, .int .u8, .int .u8, .int .u8, .int .u8, .int .u8, .int .u8, .int .u8, .int .u8, .int .u8, .int .u8, .int .u8, .int .u8, .int .u8, .int .u8, .int .u8, .int .u8, .int .u8, .int .u8, .int .u8, .int .u8, .int .u8, .int .u8, .int .u8, .int .u8, .int .u8, .int .u8, .int .u8, .int .u8, .int .u8, .int .u8, .int .u8, .int .u8, .int .u8, .int .u8, .int .u8, .int .u8, .int .u8, .int .u8] }
def ti54 : TI := { desc := (Go.TypeDesc.int Go.IntKind.u64), size := 1, bytes := 8, zero := .int .u64 0, cells := [.int .u64] }
def ti55 : TI := { desc := (Go.TypeDesc.func #[54] #[3] false), size := 1, bytes := 8, zero := .nilFunc, cells := [.raw] }
def ti56 : TI := { desc := (Go.TypeDesc.func #[52] #[3] false), size := 1, bytes := 8, zero := .nilFunc, cells := [.raw] }
def ti57 : TI := { desc := (Go.TypeDesc.array 32 5), size := 32, bytes := 32, zero := .agg #[.int .u8 0, .int .u8 0, .int .u8 0, .int .u8 0, .int .u8 0, .int .u8 0, .int .u8 0, .int .u8 0, .int .u8 0, .int .u8 0, .int .u8 0, .int .u8 0, .int .u8 0, .int .u8 0, .int .u8 0, .int .u8 0, .int .u8 0, .int .u8 0, .int .u8 0, .int .u8 0, .int .u8 0, .int .u8 0, .int .u8 0, .int .u8 0, .int .u8 0, .int .u8 0, .int .u8 0, .int .u8 0, .int .u8 0, .int .u8 0, .int .u8 0, .int .u8 0], cells := [.int .u8, .int .u8, .int .u8, .int .u8, .int .u8, .int .u8, .int .u8, .int .u8, .int .u8, .int .u8, .int .u8, .int .u8, .int .u8, .int .u8, .int .u8, .int .u8, .int .u8, .int .u8, .int .u8, .int .u8, .int .u8, .int .u8, .int .u8, .int .u8, .int .u8, .int .u8, .int .u8, .int .u8, .int .u8, .int .u8, .int .u8, .int .u8] }
def ti58 : TI := { desc := (Go.TypeDesc.array 64 5), size := 64, bytes := 64, zero := .agg #[.int .u8 0, .int .u8 0, .int .u8 0, .int .u8 0, .int .u8 0, .int .u8 0, .int .u8 0, .int .u8 0, .int .u8 0, .int .u8 0, .int .u8 0, .int .u8 0, .int .u8 0, .int .u8 0, .int .u8 0, .int .u8 0, .int .u8 0, .int .u8 0, .int .u8 0, .int .u8 0, .int .u8 0, .int .u8 0, .int .u8 0, .int .u8 0, .int .u8 0, .int .u8 0, .int .u8 0, .int .u8 0, .int .u8 0, .int .u8 0, .int .u8 0, .int .u8 0, .int .u8 0, .int .u8 0, .int .u8 0, .int .u8 0, .int .u8 0, .int .u8 0, .int .u8 0, .int .u8 0, .int .u8 0, .int .u8 0, .int .u8 0, .int .u8 0, .int .u8 0, .int .u8 0, .int .u8 0, .int .u8 0, .int .u8 0, .int .u8 0, .int .u8 0, .int .u8 0, .int .u8 0, .int .u8 0, .int .u8 0, .int .u8 0, .int .u8 0, .int .u8 0, .int .u8 0, .int .u8 0, .int .u8 0, .int .u8 0, .int .u8 0, .int .u8 0], cells := [.int .u8, .int .u8, .int .u8, .int .u8, .int .u8, .int .u8, .int .u8, .int .u8, .int .u8, .int .u8, .int .u8, .int .u8, .int .u8, .int .u8, .int .u8, .int .u8, .int .u8, .int .u8, .int .u8, .int .u8, .int .u8, .int .u8, .int .u8, .int .u8, .int .u8, .int .u8, .int .u8, .int .u8, .int .u8, .int .u8, .int .u8, .int .u8, .int .u8, .int .u8, .int .u8, .int .u8, .int .u8, .int .u8, .int .u8, .int .u8, .int .u8, .int .u8, .int .u8, .int .u8, .int .u8, .int .u8, .int .u8, .int .u8, .int .u8, .int .u8, .int .u8, .int .u8, .int .u8, .int .u8, .int .u8, .int .u8, .int .u8, .int .u8, .int .u8, .int .u8, .int .u8, .int .u8, .int .u8, .int .u8] }
def ti59 : TI := { desc := (Go.TypeDesc.func #[] #[9] false), size := 1, bytes := 8, zero := .nilFunc, cells := [.raw] }
def ti60 : TI := { desc := (Go.TypeDesc.struct #[{ name := "_interface", type := 17, offset := 0, embedded := false, tag := "", pkgPath := "runtime", byteOffset := 0 }, { name := "concrete", type := 17, offset := 1, embedded := false, tag := "", pkgPath := "runtime", byteOffset := 8 }, { name := "asserted", type := 17, offset := 2, embedded := false, tag := "", pkgPath := "runtime", byteOffset := 16 }, { name := "missingMethod", type := 9, offset := 3, embedded := false, tag := "", pkgPath := "runtime", byteOffset := 24 }]), size := 4, bytes := 40, zero := .agg #[.pointer none, .pointer none, .pointer none, .string ByteArray.empty], cells := [.raw, .raw, .raw, .str] }
def ti61 : TI := { desc := (Go.TypeDesc.struct #[{ name := "_interface", type := 17, offset := 0, embedded := false, tag := "", pkgPath := "runtime", byteOffset := 0 }, { name := "concrete", type := 17, offset := 1, embedded := false, tag := "", pkgPath := "runtime", byteOffset := 8 }, { name := "asserted", type := 17, offset := 2, embedded := false, tag := "", pkgPath := "runtime", byteOffset := 16 }, { name := "missingMethod", type := 9, offset := 3, embedded := false, tag := "", pkgPath := "runtime", byteOffset := 24 }]), size := 4, bytes := 40, zero := .agg #[.pointer none, .pointer none, .pointer none, .string ByteArray.empty], cells := [.raw, .raw, .raw, .str] }
def ti62 : TI := { desc := (Go.TypeDesc.array 0 16), size := 0, bytes := 0, zero := .agg #[], cells := [] }
def ti63 : TI := { desc := (Go.TypeDesc.struct #[{ name := "_", type := 62, offset := 0, embedded := false, tag := "", pkgPath := "runtime", byteOffset := 0 }]), size := 0, bytes := 0, zero := .agg #[], cells := [] }
def ti64 : TI := { desc := (Go.TypeDesc.struct #[{ name := "_", type := 62, offset := 0, embedded := false, tag := "", pkgPath := "runtime", byteOffset := 0 }]), size := 0, bytes := 0, zero := .agg #[], cells := [] }
def ti65 : TI := { desc := (Go.TypeDesc.func #[] #[3] false), size := 1, bytes := 8, zero := .nilFunc, cells := [.raw] }
def ti66 : TI := { desc := (Go.TypeDesc.int Go.IntKind.u8), size := 1, bytes := 1, zero := .int .u8 0, cells := [.int .u8] }
def ti67 : TI := { desc := (Go.TypeDesc.int Go.IntKind.u8), size := 1, bytes := 1, zero := .int .u8 0, cells := [.int .u8] }
def ti68 : TI := { desc := (Go.TypeDesc.func #[74, 74] #[4] false), size := 1, bytes := 8, zero := .nilFunc, cells := [.raw] }
def ti69 : TI := { desc := (Go.TypeDesc.pointer 5), size := 1, bytes := 8, zero := .pointer none, cells := [.raw] }
def ti70 : TI := { desc := (Go.TypeDesc.int Go.IntKind.i32), size := 1, bytes := 4, zero := .int .i32 0, cells := [.int .i32] }
def ti71 : TI := { desc := (Go.TypeDesc.int Go.IntKind.i32), size := 1, bytes := 4, zero := .int .i32 0, cells := [.int .i32] }
def ti72 : TI := { desc := (Go.TypeDesc.struct #[{ name := "Size_", type := 12, offset := 0, embedded := false, tag := "", pkgPath := "", byteOffset := 0 }, { name := "PtrBytes", type := 12, offset := 1, embedded := false, tag := "", pkgPath := "", byteOffset := 8 }, { name := "Hash", type := 52, offset := 2, embedded := false, tag := "", pkgPath := "", byteOffset := 16 }, { name := "TFlag", type := 66, offset := 3, embedded := false, tag := "", pkgPath := "", byteOffset := 20 }, { name := "Align_", type := 5, offset := 4, embedded := false, tag := "", pkgPath := "", byteOffset := 21 }, { name := "FieldAlign_", type := 5, offset := 5, embedded := false, tag := "", pkgPath := "", byteOffset := 22 }, { name := "Kind_", type := 67, offset := 6, embedded := false, tag := "", pkgPath := "", byteOffset := 23 }, { name := "Equal", type := 68, offset := 7, embedded := false, tag := "", pkgPath := "", byteOffset := 24 }, { name := "GCData", type := 69, offset := 8, embedded := false, tag := "", pkgPath := "", byteOffset := 32 }, { name := "Str", type := 70, offset := 9, embedded := false, tag := "", pkgPath := "", byteOffset := 40 }, { name := "PtrToThis", type := 71, offset := 10, embedded := false, tag := "", pkgPath := "", byteOffset := 44 }]), size := 11, bytes := 48, zero := .agg #[.int .u64 0, .int .u64 0, .int .u32 0, .int .u8 0, .int .u8 0, .int .u8 0, .int .u8 0, .nilFunc, .pointer none, .int .i32 0, .int .i32 0], cells := [.int .u64, .int .u64, .int .u32, .int .u8, .int .u8, .int .u8, .int .u8, .raw, .raw, .int .i32, .int .i32] }
def ti73 : TI := { desc := (Go.TypeDesc.struct #[{ name := "Size_", type := 12, offset := 0, embedded := false, tag := "", pkgPath := "", byteOffset := 0 }, { name := "PtrBytes", type := 12, offset := 1, embedded := false, tag := "", pkgPath := "", byteOffset := 8 }, { name := "Hash", type := 52, offset := 2, embedded := false, tag := "", pkgPath := "", byteOffset := 16 }, { name := "TFlag", type := 66, offset := 3, embedded := false, tag := "", pkgPath := "", byteOffset := 20 }, { name := "Align_", type := 5, offset := 4, embedded := false, tag := "", pkgPath := "", byteOffset := 21 }, { name := "FieldAlign_", type := 5, offset := 5, embedded := false, tag := "", pkgPath := "", byteOffset := 22 }, { name := "Kind_", type := 67, offset := 6, embedded := false, tag := "", pkgPath := "", byteOffset := 23 }, { name := "Equal", type := 68, offset := 7, embedded := false, tag := "", pkgPath := "", byteOffset := 24 }, { name := "GCData", type := 69, offset := 8, embedded := false, tag := "", pkgPath := "", byteOffset := 32 }, { name := "Str", type := 70, offset := 9, embedded := false, tag := "", pkgPath := "", byteOffset := 40 }, { name := "PtrToThis", type := 71, offset := 10, embedded := false, tag := "", pkgPath := "", byteOffset := 44 }]), size := 11, bytes := 48, zero := .agg #[.int .u64 0, .int .u64 0, .int .u32 0, .int .u8 0, .int .u8 0, .int .u8 0, .int .u8 0, .nilFunc, .pointer none, .int .i32 0, .int .i32 0], cells := [.int .u64, .int .u64, .int .u32, .int .u8, .int .u8, .int .u8, .int .u8, .raw, .raw, .int .i32, .int .i32] }
def ti74 : TI := { desc := Go.TypeDesc.unsafePointer, size := 1, bytes := 8, zero := .pointer none, cells := [.raw] }
def T : TT
  | 1 => some ti1
  | 2 => some ti2
  | 3 => some ti3
  | 4 => some ti4
  | 5 => some ti5
  | 6 => some ti6
  | 7 => some ti7
  | 8 => some ti8
  | 9 => some ti9
  | 10 => some ti10
  | 11 => some ti11
  | 12 => some ti12
  | 13 => some ti13
  | 14 => some ti14
  | 15 => some ti15
  | 16 => some ti16
  | 17 => some ti17
  | 18 => some ti18
  | 19 => some ti19
  | 20 => some ti20
  | 21 => some ti21
  | 22 => some ti22
  | 23 => some ti23
  | 24 => some ti24
  | 26 => some ti26
  | 27 => some ti27
  | 28 => some ti28
  | 29 => some ti29
  | 30 => some ti30
  | 31 => some ti31
  | 32 => some ti32
  | 33 => some ti33
  | 34 => some ti34
  | 35 => some ti35
  | 36 => some ti36
  | 37 => some ti37
  | 38 => some ti38
  | 39 => some ti39
  | 40 => some ti40
  | 41 => some ti41
  | 42 => some ti42
  | 43 => some ti43
  | 44 => some ti44
  | 45 => some ti45
  | 46 => some ti46
  | 48 => some ti48
  | 49 => some ti49
  | 50 => some ti50
  | 51 => some ti51
  | 52 => some ti52
  | 53 => some ti53
  | 54 => some ti54
  | 55 => some ti55
  | 56 => some ti56
  | 57 => some ti57
  | 58 => some ti58
  | 59 => some ti59
  | 60 => some ti60
  | 61 => some ti61
  | 62 => some ti62
  | 63 => some ti63
  | 64 => some ti64
  | 65 => some ti65
  | 66 => some ti66
  | 67 => some ti67
  | 68 => some ti68
  | 69 => some ti69
  | 70 => some ti70
  | 71 => some ti71
  | 72 => some ti72
  | 73 => some ti73
  | 74 => some ti74
  | _ => none
theorem tok : TOk Tryd.prog T := by
  intro t ti h
  unfold T at h
  split at h
  · cases h; exact tok1 (by kernel_rfl) (by kernel_rfl) (by kernel_rfl)
  · cases h; exact tok1 (by kernel_rfl) (by kernel_rfl) (by kernel_rfl)
  · cases h; exact tok1 (by kernel_rfl) (by kernel_rfl) (by kernel_rfl)
  · cases h; exact tok1 (by kernel_rfl) (by kernel_rfl) (by kernel_rfl)
  · cases h; exact tok1 (by kernel_rfl) (by kernel_rfl) (by kernel_rfl)
  · cases h; exact tok1 (by kernel_rfl) (by kernel_rfl) (by kernel_rfl)
  · cases h; exact tok1 (by kernel_rfl) (by kernel_rfl) (by kernel_rfl)
  · cases h; exact tok1 (by kernel_rfl) (by kernel_rfl) (by kernel_rfl)
  · cases h; exact tok1 (by kernel_rfl) (by kernel_rfl) (by kernel_rfl)
  · cases h; exact tok1 (by kernel_rfl) (by kernel_rfl) (by kernel_rfl)
  · cases h; exact tok1 (by kernel_rfl) (by kernel_rfl) (by kernel_rfl)
  · cases h; exact tok1 (by kernel_rfl) (by kernel_rfl) (by kernel_rfl)
  · cases h; exact tok1 (by kernel_rfl) (by kernel_rfl) (by kernel_rfl)
  · cases h; exact tok1 (by kernel_rfl) (by kernel_rfl) (by kernel_rfl)
  · cases h; exact tok1 (by kernel_rfl) (by kernel_rfl) (by kernel_rfl)
  · cases h; exact tok1 (by kernel_rfl) (by kernel_rfl) (by kernel_rfl)
  · cases h; exact tok1 (by kernel_rfl) (by kernel_rfl) (by kernel_rfl)
  · cases h; exact tok1 (by kernel_rfl) (by kernel_rfl) (by kernel_rfl)
  · cases h; exact tok1 (by kernel_rfl) (by kernel_rfl) (by kernel_rfl)
  · cases h; exact tok1 (by kernel_rfl) (by kernel_rfl) (by kernel_rfl)
  · cases h; exact tok1 (by kernel_rfl) (by kernel_rfl) (by kernel_rfl)
  · cases h; exact tok1 (by kernel_rfl) (by kernel_rfl) (by kernel_rfl)
  · cases h; exact tok1 (by kernel_rfl) (by kernel_rfl) (by kernel_rfl)
  · cases h; exact tok1 (by kernel_rfl) (by kernel_rfl) (by kernel_rfl)
  · cases h; exact tok1 (by kernel_rfl) (by kernel_rfl) (by kernel_rfl)
  · cases h; exact tok1 (by kernel_rfl) (by kernel_rfl) (by kernel_rfl)
  · cases h; exact tok1 (by kernel_rfl) (by kernel_rfl) (by kernel_rfl)
  · cases h; exact tok1 (by kernel_rfl) (by kernel_rfl) (by kernel_rfl)
  · cases h; exact tok1 (by kernel_rfl) (by kernel_rfl) (by kernel_rfl)
  · cases h; exact tok1 (by kernel_rfl) (by kernel_rfl) (by kernel_rfl)
  · cases h; exact tok1 (by kernel_rfl) (by kernel_rfl) (by kernel_rfl)
  · cases h; exact tok1 (by kernel_rfl) (by kernel_rfl) (by kernel_rfl)
  · cases h; exact tok1 (by kernel_rfl) (by kernel_rfl) (by kernel_rfl)
  · cases h; exact tok1 (by kernel_rfl) (by kernel_rfl) (by kernel_rfl)
  · cases h; exact tok1 (by kernel_rfl) (by kernel_rfl) (by kernel_rfl)
  · cases h; exact tok1 (by kernel_rfl) (by kernel_rfl) (by kernel_rfl)
  · cases h; exact tok1 (by kernel_rfl) (by kernel_rfl) (by kernel_rfl)
  · cases h; exact tok1 (by kernel_rfl) (by kernel_rfl) (by kernel_rfl)
  · cases h; exact tok1 (by kernel_rfl) (by kernel_rfl) (by kernel_rfl)
  · cases h; exact tok1 (by kernel_rfl) (by kernel_rfl) (by kernel_rfl)
  · cases h; exact tok1 (by kernel_rfl) (by kernel_rfl) (by kernel_rfl)
  · cases h; exact tok1 (by kernel_rfl) (by kernel_rfl) (by kernel_rfl)
  · cases h; exact tok1 (by kernel_rfl) (by kernel_rfl) (by kernel_rfl)
  · cases h; exact tok1 (by kernel_rfl) (by kernel_rfl) (by kernel_rfl)
  · cases h; exact tok1 (by kernel_rfl) (by kernel_rfl) (by kernel_rfl)
  · cases h; exact tok1 (by kernel_rfl) (by kernel_rfl) (by kernel_rfl)
  · cases h; exact tok1 (by kernel_rfl) (by kernel_rfl) (by kernel_rfl)
  · cases h; exact tok1 (by kernel_rfl) (by kernel_rfl) (by kernel_rfl)
  · cases h; exact tok1 (by kernel_rfl) (by kernel_rfl) (by kernel_rfl)
  · cases h; exact tok1 (by kernel_rfl) (by kernel_rfl) (by kernel_rfl)
  · cases h; exact tok1 (by kernel_rfl) (by kernel_rfl) (by kernel_rfl)
  · cases h; exact tok1 (by kernel_rfl) (by kernel_rfl) (by kernel_rfl)
  · cases h; exact tok1 (by kernel_rfl) (by kernel_rfl) (by kernel_rfl)
  · cases h; exact tok1 (by kernel_rfl) (by kernel_rfl) (by kernel_rfl)
  · cases h; exact tok1 (by kernel_rfl) (by kernel_rfl) (by kernel_rfl)
  · cases h; exact tok1 (by kernel_rfl) (by kernel_rfl) (by kernel_rfl)
  · cases h; exact tok1 (by kernel_rfl) (by kernel_rfl) (by kernel_rfl)
  · cases h; exact tok1 (by kernel_rfl) (by kernel_rfl) (by kernel_rfl)
  · cases h; exact tok1 (by kernel_rfl) (by kernel_rfl) (by kernel_rfl)
  · cases h; exact tok1 (by kernel_rfl) (by kernel_rfl) (by kernel_rfl)
  · cases h; exact tok1 (by kernel_rfl) (by kernel_rfl) (by kernel_rfl)
  · cases h; exact tok1 (by kernel_rfl) (by kernel_rfl) (by kernel_rfl)
  · cases h; exact tok1 (by kernel_rfl) (by kernel_rfl) (by kernel_rfl)
  · cases h; exact tok1 (by kernel_rfl) (by kernel_rfl) (by kernel_rfl)
  · cases h; exact tok1 (by kernel_rfl) (by kernel_rfl) (by kernel_rfl)
  · cases h; exact tok1 (by kernel_rfl) (by kernel_rfl) (by kernel_rfl)
  · cases h; exact tok1 (by kernel_rfl) (by kernel_rfl) (by kernel_rfl)
  · cases h; exact tok1 (by kernel_rfl) (by kernel_rfl) (by kernel_rfl)
  · cases h; exact tok1 (by kernel_rfl) (by kernel_rfl) (by kernel_rfl)
  · cases h; exact tok1 (by kernel_rfl) (by kernel_rfl) (by kernel_rfl)
  · cases h; exact tok1 (by kernel_rfl) (by kernel_rfl) (by kernel_rfl)
  · cases h; exact tok1 (by kernel_rfl) (by kernel_rfl) (by kernel_rfl)
  · cases h
end Go.Proofs.YtljnfejcdadjpaaDoor.A
