/- What ParseAll needs, part 4. -/
import Derived.Test.YtljnfejcdadjpaaMz3
import Derived.Test.YtljnfejcdadjpaaProg
/- The table of types. Written by wip/tools/tt.py. -/
namespace Go.Proofs.Ytljnfejcdadjpaa.A
open Go
def ti1 : TI := { desc := (Go.TypeDesc.func #[] #[] false), size := 1, bytes := 8, zero := .nilFunc, cells := [.raw] }
def ti2 : TI := { desc := (Go.TypeDesc.int Go.IntKind.i64), size := 1, bytes := 8, zero := .int .i64 0, cells := [.int .i64] }
def ti3 : TI := { desc := (Go.TypeDesc.int Go.IntKind.i64), size := 1, bytes := 8, zero := .int .i64 0, cells := [.int .i64] }
def ti4 : TI := { desc := Go.TypeDesc.bool, size := 1, bytes := 1, zero := .bool false, cells := [.bool] }
def ti5 : TI := { desc := (Go.TypeDesc.int Go.IntKind.u8), size := 1, bytes := 1, zero := .int .u8 0, cells := [.int .u8] }
def ti6 : TI := { desc := (Go.TypeDesc.int Go.IntKind.u8), size := 1, bytes := 1, zero := .int .u8 0, cells := [.int .u8] }
def ti7 : TI := { desc := (Go.TypeDesc.struct #[{ name := "x", type := 2, offset := 0, embedded := false, tag := "", pkgPath := "runtime", byteOffset := 0 }, { name := "y", type := 3, offset := 1, embedded := false, tag := "", pkgPath := "runtime", byteOffset := 8 }, { name := "signed", type := 4, offset := 2, embedded := false, tag := "", pkgPath := "runtime", byteOffset := 16 }, { name := "code", type := 6, offset := 3, embedded := false, tag := "", pkgPath := "runtime", byteOffset := 17 }]), size := 4, bytes := 24, zero := .agg #[.int .i64 0, .int .i64 0, .bool false, .int .u8 0], cells := [.int .i64, .int .i64, .bool, .int .u8] }
def ti8 : TI := { desc := (Go.TypeDesc.struct #[{ name := "x", type := 2, offset := 0, embedded := false, tag := "", pkgPath := "runtime", byteOffset := 0 }, { name := "y", type := 3, offset := 1, embedded := false, tag := "", pkgPath := "runtime", byteOffset := 8 }, { name := "signed", type := 4, offset := 2, embedded := false, tag := "", pkgPath := "runtime", byteOffset := 16 }, { name := "code", type := 6, offset := 3, embedded := false, tag := "", pkgPath := "runtime", byteOffset := 17 }]), size := 4, bytes := 24, zero := .agg #[.int .i64 0, .int .i64 0, .bool false, .int .u8 0], cells := [.int .i64, .int .i64, .bool, .int .u8] }
def ti9 : TI := { desc := Go.TypeDesc.string, size := 1, bytes := 16, zero := .string ByteArray.empty, cells := [.str] }
def ti10 : TI := { desc := Go.TypeDesc.string, size := 1, bytes := 16, zero := .string ByteArray.empty, cells := [.str] }
def ti11 : TI := { desc := Go.TypeDesc.string, size := 1, bytes := 16, zero := .string ByteArray.empty, cells := [.str] }
def ti12 : TI := { desc := (Go.TypeDesc.int Go.IntKind.u64), size := 1, bytes := 8, zero := .int .u64 0, cells := [.int .u64] }
def ti13 : TI := { desc := (Go.TypeDesc.struct #[{ name := "msg", type := 9, offset := 0, embedded := false, tag := "", pkgPath := "runtime", byteOffset := 0 }, { name := "addr", type := 12, offset := 1, embedded := false, tag := "", pkgPath := "runtime", byteOffset := 16 }]), size := 2, bytes := 24, zero := .agg #[.string ByteArray.empty, .int .u64 0], cells := [.str, .int .u64] }
def ti14 : TI := { desc := (Go.TypeDesc.struct #[{ name := "msg", type := 9, offset := 0, embedded := false, tag := "", pkgPath := "runtime", byteOffset := 0 }, { name := "addr", type := 12, offset := 1, embedded := false, tag := "", pkgPath := "runtime", byteOffset := 16 }]), size := 2, bytes := 24, zero := .agg #[.string ByteArray.empty, .int .u64 0], cells := [.str, .int .u64] }
def ti15 : TI := { desc := (Go.TypeDesc.pointer 85), size := 1, bytes := 8, zero := .pointer none, cells := [.raw] }
def ti16 : TI := { desc := (Go.TypeDesc.pointer 88), size := 1, bytes := 8, zero := .pointer none, cells := [.raw] }
def ti17 : TI := { desc := (Go.TypeDesc.pointer 97), size := 1, bytes := 8, zero := .pointer none, cells := [.raw] }
def ti18 : TI := { desc := (Go.TypeDesc.struct #[{ name := "typ", type := 17, offset := 0, embedded := false, tag := "", pkgPath := "internal/runtime/maps", byteOffset := 0 }]), size := 1, bytes := 8, zero := .agg #[.pointer none], cells := [.raw] }
def ti19 : TI := { desc := (Go.TypeDesc.struct #[{ name := "typ", type := 17, offset := 0, embedded := false, tag := "", pkgPath := "internal/runtime/maps", byteOffset := 0 }]), size := 1, bytes := 8, zero := .agg #[.pointer none], cells := [.raw] }
def ti20 : TI := { desc := (Go.TypeDesc.interface #[]), size := 1, bytes := 16, zero := .nilIface, cells := [.raw] }
def ti21 : TI := { desc := (Go.TypeDesc.int Go.IntKind.i32), size := 1, bytes := 4, zero := .int .i32 0, cells := [.int .i32] }
def ti22 : TI := { desc := (Go.TypeDesc.func #[] #[4] false), size := 1, bytes := 8, zero := .nilFunc, cells := [.raw] }
def ti23 : TI := { desc := (Go.TypeDesc.slice 31), size := 1, bytes := 24, zero := .slice none 0 0, cells := [.sl] }
def ti24 : TI := { desc := (Go.TypeDesc.int Go.IntKind.i64), size := 1, bytes := 8, zero := .int .i64 0, cells := [.int .i64] }
def ti26 : TI := { desc := (Go.TypeDesc.func #[9] #[23, 3, 24] false), size := 1, bytes := 8, zero := .nilFunc, cells := [.raw] }
def ti27 : TI := { desc := (Go.TypeDesc.slice 32), size := 1, bytes := 24, zero := .slice none 0 0, cells := [.sl] }
def ti29 : TI := { desc := (Go.TypeDesc.func #[9] #[27, 3, 3] false), size := 1, bytes := 8, zero := .nilFunc, cells := [.raw] }
def ti30 : TI := { desc := (Go.TypeDesc.struct #[{ name := "Kind", type := 3, offset := 0, embedded := false, tag := "", pkgPath := "", byteOffset := 0 }, { name := "Text", type := 9, offset := 1, embedded := false, tag := "", pkgPath := "", byteOffset := 8 }, { name := "At", type := 3, offset := 2, embedded := false, tag := "", pkgPath := "", byteOffset := 24 }]), size := 3, bytes := 32, zero := .agg #[.int .i64 0, .string ByteArray.empty, .int .i64 0], cells := [.int .i64, .str, .int .i64] }
def ti31 : TI := { desc := (Go.TypeDesc.struct #[{ name := "Kind", type := 3, offset := 0, embedded := false, tag := "", pkgPath := "", byteOffset := 0 }, { name := "Text", type := 9, offset := 1, embedded := false, tag := "", pkgPath := "", byteOffset := 8 }, { name := "At", type := 3, offset := 2, embedded := false, tag := "", pkgPath := "", byteOffset := 24 }]), size := 3, bytes := 32, zero := .agg #[.int .i64 0, .string ByteArray.empty, .int .i64 0], cells := [.int .i64, .str, .int .i64] }
def ti32 : TI := { desc := (Go.TypeDesc.struct #[{ name := "Kind", type := 3, offset := 0, embedded := false, tag := "", pkgPath := "", byteOffset := 0 }, { name := "Text", type := 9, offset := 1, embedded := false, tag := "", pkgPath := "", byteOffset := 8 }, { name := "At", type := 3, offset := 2, embedded := false, tag := "", pkgPath := "", byteOffset := 24 }]), size := 3, bytes := 32, zero := .agg #[.int .i64 0, .string ByteArray.empty, .int .i64 0], cells := [.int .i64, .str, .int .i64] }
def ti33 : TI := { desc := (Go.TypeDesc.func #[9] #[4] false), size := 1, bytes := 8, zero := .nilFunc, cells := [.raw] }
def ti34 : TI := { desc := (Go.TypeDesc.func #[9, 9, 9] #[4] false), size := 1, bytes := 8, zero := .nilFunc, cells := [.raw] }
def ti35 : TI := { desc := (Go.TypeDesc.slice 44), size := 1, bytes := 24, zero := .slice none 0 0, cells := [.sl] }
def ti37 : TI := { desc := (Go.TypeDesc.func #[9] #[35, 3, 24] false), size := 1, bytes := 8, zero := .nilFunc, cells := [.raw] }
def ti38 : TI := { desc := (Go.TypeDesc.slice 62), size := 1, bytes := 24, zero := .slice none 0 0, cells := [.sl] }
def ti40 : TI := { desc := (Go.TypeDesc.func #[9] #[38, 3, 3] false), size := 1, bytes := 8, zero := .nilFunc, cells := [.raw] }
def ti41 : TI := { desc := (Go.TypeDesc.func #[35, 38] #[4] false), size := 1, bytes := 8, zero := .nilFunc, cells := [.raw] }
def ti42 : TI := { desc := (Go.TypeDesc.slice 45), size := 1, bytes := 24, zero := .slice none 0 0, cells := [.sl] }
def ti43 : TI := { desc := (Go.TypeDesc.struct #[{ name := "Name", type := 9, offset := 0, embedded := false, tag := "", pkgPath := "", byteOffset := 0 }, { name := "Alts", type := 42, offset := 1, embedded := false, tag := "", pkgPath := "", byteOffset := 16 }]), size := 2, bytes := 40, zero := .agg #[.string ByteArray.empty, .slice none 0 0], cells := [.str, .sl] }
def ti44 : TI := { desc := (Go.TypeDesc.struct #[{ name := "Name", type := 9, offset := 0, embedded := false, tag := "", pkgPath := "", byteOffset := 0 }, { name := "Alts", type := 42, offset := 1, embedded := false, tag := "", pkgPath := "", byteOffset := 16 }]), size := 2, bytes := 40, zero := .agg #[.string ByteArray.empty, .slice none 0 0], cells := [.str, .sl], kids := [.st, .sl 45 [.sl 67 [.st, .st]]] }
def ti45 : TI := { desc := (Go.TypeDesc.slice 67), size := 1, bytes := 24, zero := .slice none 0 0, cells := [.sl], kids := [.sl 67 [.st, .st]] }
def ti46 : TI := { desc := (Go.TypeDesc.func #[35] #[9] true), size := 1, bytes := 8, zero := .nilFunc, cells := [.raw] }
def ti47 : TI := { desc := (Go.TypeDesc.func #[35] #[9] false), size := 1, bytes := 8, zero := .nilFunc, cells := [.raw] }
def ti48 : TI := { desc := (Go.TypeDesc.func #[35] #[4] false), size := 1, bytes := 8, zero := .nilFunc, cells := [.raw] }
def ti49 : TI := { desc := (Go.TypeDesc.func #[9] #[3] false), size := 1, bytes := 8, zero := .nilFunc, cells := [.raw] }
def ti51 : TI := { desc := (Go.TypeDesc.func #[9] #[31, 3, 24] false), size := 1, bytes := 8, zero := .nilFunc, cells := [.raw] }
def ti53 : TI := { desc := (Go.TypeDesc.func #[9, 3] #[32, 3, 3] false), size := 1, bytes := 8, zero := .nilFunc, cells := [.raw] }
def ti54 : TI := { desc := (Go.TypeDesc.func #[5] #[4] false), size := 1, bytes := 8, zero := .nilFunc, cells := [.raw] }
def ti55 : TI := { desc := (Go.TypeDesc.func #[9, 54] #[3] false), size := 1, bytes := 8, zero := .nilFunc, cells := [.raw] }
def ti56 : TI := { desc := (Go.TypeDesc.pointer 59), size := 1, bytes := 8, zero := .pointer none, cells := [.raw] }
def ti57 : TI := { desc := (Go.TypeDesc.func #[31] #[4] false), size := 1, bytes := 8, zero := .nilFunc, cells := [.raw] }
def ti58 : TI := { desc := (Go.TypeDesc.struct #[{ name := "lines", type := 35, offset := 0, embedded := false, tag := "", pkgPath := "repertory/parse", byteOffset := 0 }, { name := "want", type := 57, offset := 1, embedded := false, tag := "", pkgPath := "repertory/parse", byteOffset := 24 }, { name := "open", type := 4, offset := 2, embedded := false, tag := "", pkgPath := "repertory/parse", byteOffset := 32 }]), size := 3, bytes := 40, zero := .agg #[.slice none 0 0, .nilFunc, .bool false], cells := [.sl, .raw, .bool] }
def ti59 : TI := { desc := (Go.TypeDesc.struct #[{ name := "lines", type := 35, offset := 0, embedded := false, tag := "", pkgPath := "repertory/parse", byteOffset := 0 }, { name := "want", type := 57, offset := 1, embedded := false, tag := "", pkgPath := "repertory/parse", byteOffset := 24 }, { name := "open", type := 4, offset := 2, embedded := false, tag := "", pkgPath := "repertory/parse", byteOffset := 32 }]), size := 3, bytes := 40, zero := .agg #[.slice none 0 0, .nilFunc, .bool false], cells := [.sl, .raw, .bool] }
def ti60 : TI := { desc := (Go.TypeDesc.slice 65), size := 1, bytes := 24, zero := .slice none 0 0, cells := [.sl] }
def ti61 : TI := { desc := (Go.TypeDesc.struct #[{ name := "Name", type := 9, offset := 0, embedded := false, tag := "", pkgPath := "", byteOffset := 0 }, { name := "Alts", type := 60, offset := 1, embedded := false, tag := "", pkgPath := "", byteOffset := 16 }]), size := 2, bytes := 40, zero := .agg #[.string ByteArray.empty, .slice none 0 0], cells := [.str, .sl] }
def ti62 : TI := { desc := (Go.TypeDesc.struct #[{ name := "Name", type := 9, offset := 0, embedded := false, tag := "", pkgPath := "", byteOffset := 0 }, { name := "Alts", type := 60, offset := 1, embedded := false, tag := "", pkgPath := "", byteOffset := 16 }]), size := 2, bytes := 40, zero := .agg #[.string ByteArray.empty, .slice none 0 0], cells := [.str, .sl] }
def ti64 : TI := { desc := (Go.TypeDesc.func #[27, 3] #[62, 3, 4] false), size := 1, bytes := 8, zero := .nilFunc, cells := [.raw] }
def ti65 : TI := { desc := (Go.TypeDesc.slice 68), size := 1, bytes := 24, zero := .slice none 0 0, cells := [.sl] }
def ti66 : TI := { desc := (Go.TypeDesc.struct #[{ name := "Term", type := 4, offset := 0, embedded := false, tag := "", pkgPath := "", byteOffset := 0 }, { name := "Text", type := 9, offset := 1, embedded := false, tag := "", pkgPath := "", byteOffset := 8 }]), size := 2, bytes := 24, zero := .agg #[.bool false, .string ByteArray.empty], cells := [.bool, .str] }
def ti67 : TI := { desc := (Go.TypeDesc.struct #[{ name := "Term", type := 4, offset := 0, embedded := false, tag := "", pkgPath := "", byteOffset := 0 }, { name := "Text", type := 9, offset := 1, embedded := false, tag := "", pkgPath := "", byteOffset := 8 }]), size := 2, bytes := 24, zero := .agg #[.bool false, .string ByteArray.empty], cells := [.bool, .str] }
def ti68 : TI := { desc := (Go.TypeDesc.struct #[{ name := "Term", type := 4, offset := 0, embedded := false, tag := "", pkgPath := "", byteOffset := 0 }, { name := "Text", type := 9, offset := 1, embedded := false, tag := "", pkgPath := "", byteOffset := 8 }]), size := 2, bytes := 24, zero := .agg #[.bool false, .string ByteArray.empty], cells := [.bool, .str] }
def ti69 : TI := { desc := (Go.TypeDesc.pointer 72), size := 1, bytes := 8, zero := .pointer none, cells := [.raw] }
def ti70 : TI := { desc := (Go.TypeDesc.slice 5), size := 1, bytes := 24, zero := .slice none 0 0, cells := [.sl] }
def ti71 : TI := { desc := (Go.TypeDesc.struct #[{ name := "addr", type := 69, offset := 0, embedded := false, tag := "", pkgPath := "strings", byteOffset := 0 }, { name := "buf", type := 70, offset := 1, embedded := false, tag := "", pkgPath := "strings", byteOffset := 8 }]), size := 2, bytes := 32, zero := .agg #[.pointer none, .slice none 0 0], cells := [.raw, .sl] }
def ti72 : TI := { desc := (Go.TypeDesc.struct #[{ name := "addr", type := 69, offset := 0, embedded := false, tag := "", pkgPath := "strings", byteOffset := 0 }, { name := "buf", type := 70, offset := 1, embedded := false, tag := "", pkgPath := "strings", byteOffset := 8 }]), size := 2, bytes := 32, zero := .agg #[.pointer none, .slice none 0 0], cells := [.raw, .sl] }
def ti73 : TI := { desc := (Go.TypeDesc.interface #[("Error", 77)]), size := 1, bytes := 16, zero := .nilIface, cells := [.raw] }
def ti74 : TI := { desc := (Go.TypeDesc.interface #[("Error", 77)]), size := 1, bytes := 16, zero := .nilIface, cells := [.raw] }
def ti76 : TI := { desc := (Go.TypeDesc.func #[9] #[3, 74] false), size := 1, bytes := 8, zero := .nilFunc, cells := [.raw] }
def ti77 : TI := { desc := (Go.TypeDesc.func #[] #[9] false), size := 1, bytes := 8, zero := .nilFunc, cells := [.raw] }
def ti78 : TI := { desc := (Go.TypeDesc.func #[31, 3] #[31, 3, 24] false), size := 1, bytes := 8, zero := .nilFunc, cells := [.raw] }
def ti79 : TI := { desc := (Go.TypeDesc.pointer 5), size := 1, bytes := 8, zero := .pointer none, cells := [.raw] }
def ti80 : TI := { desc := Go.TypeDesc.unsafePointer, size := 1, bytes := 8, zero := .pointer none, cells := [.raw] }
def ti81 : TI := { desc := (Go.TypeDesc.func #[80] #[80] false), size := 1, bytes := 8, zero := .nilFunc, cells := [.raw] }
def ti82 : TI := { desc := (Go.TypeDesc.pointer 44), size := 1, bytes := 8, zero := .pointer none, cells := [.raw] }
def ti83 : TI := { desc := (Go.TypeDesc.pointer 45), size := 1, bytes := 8, zero := .pointer none, cells := [.raw] }
def ti84 : TI := { desc := (Go.TypeDesc.struct #[{ name := "_interface", type := 17, offset := 0, embedded := false, tag := "", pkgPath := "runtime", byteOffset := 0 }, { name := "concrete", type := 17, offset := 1, embedded := false, tag := "", pkgPath := "runtime", byteOffset := 8 }, { name := "asserted", type := 17, offset := 2, embedded := false, tag := "", pkgPath := "runtime", byteOffset := 16 }, { name := "missingMethod", type := 9, offset := 3, embedded := false, tag := "", pkgPath := "runtime", byteOffset := 24 }]), size := 4, bytes := 40, zero := .agg #[.pointer none, .pointer none, .pointer none, .string ByteArray.empty], cells := [.raw, .raw, .raw, .str] }
def ti85 : TI := { desc := (Go.TypeDesc.struct #[{ name := "_interface", type := 17, offset := 0, embedded := false, tag := "", pkgPath := "runtime", byteOffset := 0 }, { name := "concrete", type := 17, offset := 1, embedded := false, tag := "", pkgPath := "runtime", byteOffset := 8 }, { name := "asserted", type := 17, offset := 2, embedded := false, tag := "", pkgPath := "runtime", byteOffset := 16 }, { name := "missingMethod", type := 9, offset := 3, embedded := false, tag := "", pkgPath := "runtime", byteOffset := 24 }]), size := 4, bytes := 40, zero := .agg #[.pointer none, .pointer none, .pointer none, .string ByteArray.empty], cells := [.raw, .raw, .raw, .str] }
def ti86 : TI := { desc := (Go.TypeDesc.array 0 16), size := 0, bytes := 0, zero := .agg #[], cells := [] }
def ti87 : TI := { desc := (Go.TypeDesc.struct #[{ name := "_", type := 86, offset := 0, embedded := false, tag := "", pkgPath := "runtime", byteOffset := 0 }]), size := 0, bytes := 0, zero := .agg #[], cells := [] }
def ti88 : TI := { desc := (Go.TypeDesc.struct #[{ name := "_", type := 86, offset := 0, embedded := false, tag := "", pkgPath := "runtime", byteOffset := 0 }]), size := 0, bytes := 0, zero := .agg #[], cells := [] }
def ti89 : TI := { desc := (Go.TypeDesc.func #[] #[3] false), size := 1, bytes := 8, zero := .nilFunc, cells := [.raw] }
def ti90 : TI := { desc := (Go.TypeDesc.int Go.IntKind.u32), size := 1, bytes := 4, zero := .int .u32 0, cells := [.int .u32] }
def ti91 : TI := { desc := (Go.TypeDesc.int Go.IntKind.u8), size := 1, bytes := 1, zero := .int .u8 0, cells := [.int .u8] }
def ti92 : TI := { desc := (Go.TypeDesc.int Go.IntKind.u8), size := 1, bytes := 1, zero := .int .u8 0, cells := [.int .u8] }
def ti93 : TI := { desc := (Go.TypeDesc.func #[80, 80] #[4] false), size := 1, bytes := 8, zero := .nilFunc, cells := [.raw] }
def ti94 : TI := { desc := (Go.TypeDesc.int Go.IntKind.i32), size := 1, bytes := 4, zero := .int .i32 0, cells := [.int .i32] }
def ti95 : TI := { desc := (Go.TypeDesc.int Go.IntKind.i32), size := 1, bytes := 4, zero := .int .i32 0, cells := [.int .i32] }
def ti96 : TI := { desc := (Go.TypeDesc.struct #[{ name := "Size_", type := 12, offset := 0, embedded := false, tag := "", pkgPath := "", byteOffset := 0 }, { name := "PtrBytes", type := 12, offset := 1, embedded := false, tag := "", pkgPath := "", byteOffset := 8 }, { name := "Hash", type := 90, offset := 2, embedded := false, tag := "", pkgPath := "", byteOffset := 16 }, { name := "TFlag", type := 91, offset := 3, embedded := false, tag := "", pkgPath := "", byteOffset := 20 }, { name := "Align_", type := 5, offset := 4, embedded := false, tag := "", pkgPath := "", byteOffset := 21 }, { name := "FieldAlign_", type := 5, offset := 5, embedded := false, tag := "", pkgPath := "", byteOffset := 22 }, { name := "Kind_", type := 92, offset := 6, embedded := false, tag := "", pkgPath := "", byteOffset := 23 }, { name := "Equal", type := 93, offset := 7, embedded := false, tag := "", pkgPath := "", byteOffset := 24 }, { name := "GCData", type := 79, offset := 8, embedded := false, tag := "", pkgPath := "", byteOffset := 32 }, { name := "Str", type := 94, offset := 9, embedded := false, tag := "", pkgPath := "", byteOffset := 40 }, { name := "PtrToThis", type := 95, offset := 10, embedded := false, tag := "", pkgPath := "", byteOffset := 44 }]), size := 11, bytes := 48, zero := .agg #[.int .u64 0, .int .u64 0, .int .u32 0, .int .u8 0, .int .u8 0, .int .u8 0, .int .u8 0, .nilFunc, .pointer none, .int .i32 0, .int .i32 0], cells := [.int .u64, .int .u64, .int .u32, .int .u8, .int .u8, .int .u8, .int .u8, .raw, .raw, .int .i32, .int .i32] }
def ti97 : TI := { desc := (Go.TypeDesc.struct #[{ name := "Size_", type := 12, offset := 0, embedded := false, tag := "", pkgPath := "", byteOffset := 0 }, { name := "PtrBytes", type := 12, offset := 1, embedded := false, tag := "", pkgPath := "", byteOffset := 8 }, { name := "Hash", type := 90, offset := 2, embedded := false, tag := "", pkgPath := "", byteOffset := 16 }, { name := "TFlag", type := 91, offset := 3, embedded := false, tag := "", pkgPath := "", byteOffset := 20 }, { name := "Align_", type := 5, offset := 4, embedded := false, tag := "", pkgPath := "", byteOffset := 21 }, { name := "FieldAlign_", type := 5, offset := 5, embedded := false, tag := "", pkgPath := "", byteOffset := 22 }, { name := "Kind_", type := 92, offset := 6, embedded := false, tag := "", pkgPath := "", byteOffset := 23 }, { name := "Equal", type := 93, offset := 7, embedded := false, tag := "", pkgPath := "", byteOffset := 24 }, { name := "GCData", type := 79, offset := 8, embedded := false, tag := "", pkgPath := "", byteOffset := 32 }, { name := "Str", type := 94, offset := 9, embedded := false, tag := "", pkgPath := "", byteOffset := 40 }, { name := "PtrToThis", type := 95, offset := 10, embedded := false, tag := "", pkgPath := "", byteOffset := 44 }]), size := 11, bytes := 48, zero := .agg #[.int .u64 0, .int .u64 0, .int .u32 0, .int .u8 0, .int .u8 0, .int .u8 0, .int .u8 0, .nilFunc, .pointer none, .int .i32 0, .int .i32 0], cells := [.int .u64, .int .u64, .int .u32, .int .u8, .int .u8, .int .u8, .int .u8, .raw, .raw, .int .i32, .int .i32] }
def T_0 : TT
  | 1 => some ti1
  | 2 => some ti2
  | 3 => some ti3
  | 4 => some ti4
  | 5 => some ti5
  | 6 => some ti6
  | 7 => some ti7
  | 8 => some ti8
  | 9 => some ti9
  | 10 => some ti10
  | 11 => some ti11
  | 12 => some ti12
  | 13 => some ti13
  | 14 => some ti14
  | 15 => some ti15
  | 16 => some ti16
  | 17 => some ti17
  | 18 => some ti18
  | 19 => some ti19
  | 20 => some ti20
  | 21 => some ti21
  | 22 => some ti22
  | 23 => some ti23
  | 24 => some ti24
  | _ => none
def T_1 : TT
  | 26 => some ti26
  | 27 => some ti27
  | 29 => some ti29
  | 30 => some ti30
  | 31 => some ti31
  | 32 => some ti32
  | 33 => some ti33
  | 34 => some ti34
  | 35 => some ti35
  | 37 => some ti37
  | 38 => some ti38
  | 40 => some ti40
  | 41 => some ti41
  | 42 => some ti42
  | 43 => some ti43
  | 44 => some ti44
  | 45 => some ti45
  | 46 => some ti46
  | 47 => some ti47
  | 48 => some ti48
  | 49 => some ti49
  | 51 => some ti51
  | 53 => some ti53
  | 54 => some ti54
  | _ => none
def T_2 : TT
  | 55 => some ti55
  | 56 => some ti56
  | 57 => some ti57
  | 58 => some ti58
  | 59 => some ti59
  | 60 => some ti60
  | 61 => some ti61
  | 62 => some ti62
  | 64 => some ti64
  | 65 => some ti65
  | 66 => some ti66
  | 67 => some ti67
  | 68 => some ti68
  | 69 => some ti69
  | 70 => some ti70
  | 71 => some ti71
  | 72 => some ti72
  | 73 => some ti73
  | 74 => some ti74
  | 76 => some ti76
  | 77 => some ti77
  | 78 => some ti78
  | 79 => some ti79
  | 80 => some ti80
  | _ => none
def T_3 : TT
  | 81 => some ti81
  | 82 => some ti82
  | 83 => some ti83
  | 84 => some ti84
  | 85 => some ti85
  | 86 => some ti86
  | 87 => some ti87
  | 88 => some ti88
  | 89 => some ti89
  | 90 => some ti90
  | 91 => some ti91
  | 92 => some ti92
  | 93 => some ti93
  | 94 => some ti94
  | 95 => some ti95
  | 96 => some ti96
  | 97 => some ti97
  | _ => none
def T : TT := fun t => if t ≤ 24 then T_0 t else if t ≤ 54 then T_1 t else if t ≤ 80 then T_2 t else T_3 t
theorem tok_0 : TOk Try.prog T_0 := by
  intro t ti h
  unfold T_0 at h
  split at h
  · cases h; exact tok1 (by kernel_rfl) (by kernel_rfl) (by kernel_rfl)
  · cases h; exact tok1 (by kernel_rfl) (by kernel_rfl) (by kernel_rfl)
  · cases h; exact tok1 (by kernel_rfl) (by kernel_rfl) (by kernel_rfl)
  · cases h; exact tok1 (by kernel_rfl) (by kernel_rfl) (by kernel_rfl)
  · cases h; exact tok1 (by kernel_rfl) (by kernel_rfl) (by kernel_rfl)
  · cases h; exact tok1 (by kernel_rfl) (by kernel_rfl) (by kernel_rfl)
  · cases h; exact tok1 (by kernel_rfl) (by kernel_rfl) (by kernel_rfl)
  · cases h; exact tok1 (by kernel_rfl) (by kernel_rfl) (by kernel_rfl)
  · cases h; exact tok1 (by kernel_rfl) (by kernel_rfl) (by kernel_rfl)
  · cases h; exact tok1 (by kernel_rfl) (by kernel_rfl) (by kernel_rfl)
  · cases h; exact tok1 (by kernel_rfl) (by kernel_rfl) (by kernel_rfl)
  · cases h; exact tok1 (by kernel_rfl) (by kernel_rfl) (by kernel_rfl)
  · cases h; exact tok1 (by kernel_rfl) (by kernel_rfl) (by kernel_rfl)
  · cases h; exact tok1 (by kernel_rfl) (by kernel_rfl) (by kernel_rfl)
  · cases h; exact tok1 (by kernel_rfl) (by kernel_rfl) (by kernel_rfl)
  · cases h; exact tok1 (by kernel_rfl) (by kernel_rfl) (by kernel_rfl)
  · cases h; exact tok1 (by kernel_rfl) (by kernel_rfl) (by kernel_rfl)
  · cases h; exact tok1 (by kernel_rfl) (by kernel_rfl) (by kernel_rfl)
  · cases h; exact tok1 (by kernel_rfl) (by kernel_rfl) (by kernel_rfl)
  · cases h; exact tok1 (by kernel_rfl) (by kernel_rfl) (by kernel_rfl)
  · cases h; exact tok1 (by kernel_rfl) (by kernel_rfl) (by kernel_rfl)
  · cases h; exact tok1 (by kernel_rfl) (by kernel_rfl) (by kernel_rfl)
  · cases h; exact tok1 (by kernel_rfl) (by kernel_rfl) (by kernel_rfl)
  · cases h; exact tok1 (by kernel_rfl) (by kernel_rfl) (by kernel_rfl)
  · cases h
theorem tok_1 : TOk Try.prog T_1 := by
  intro t ti h
  unfold T_1 at h
  split at h
  · cases h; exact tok1 (by kernel_rfl) (by kernel_rfl) (by kernel_rfl)
  · cases h; exact tok1 (by kernel_rfl) (by kernel_rfl) (by kernel_rfl)
  · cases h; exact tok1 (by kernel_rfl) (by kernel_rfl) (by kernel_rfl)
  · cases h; exact tok1 (by kernel_rfl) (by kernel_rfl) (by kernel_rfl)
  · cases h; exact tok1 (by kernel_rfl) (by kernel_rfl) (by kernel_rfl)
  · cases h; exact tok1 (by kernel_rfl) (by kernel_rfl) (by kernel_rfl)
  · cases h; exact tok1 (by kernel_rfl) (by kernel_rfl) (by kernel_rfl)
  · cases h; exact tok1 (by kernel_rfl) (by kernel_rfl) (by kernel_rfl)
  · cases h; exact tok1 (by kernel_rfl) (by kernel_rfl) (by kernel_rfl)
  · cases h; exact tok1 (by kernel_rfl) (by kernel_rfl) (by kernel_rfl)
  · cases h; exact tok1 (by kernel_rfl) (by kernel_rfl) (by kernel_rfl)
  · cases h; exact tok1 (by kernel_rfl) (by kernel_rfl) (by kernel_rfl)
  · cases h; exact tok1 (by kernel_rfl) (by kernel_rfl) (by kernel_rfl)
  · cases h; exact tok1 (by kernel_rfl) (by kernel_rfl) (by kernel_rfl)
  · cases h; exact tok1 (by kernel_rfl) (by kernel_rfl) (by kernel_rfl)
  · cases h; exact tok1 (by kernel_rfl) (by kernel_rfl) (by kernel_rfl)
  · cases h; exact tok1 (by kernel_rfl) (by kernel_rfl) (by kernel_rfl)
  · cases h; exact tok1 (by kernel_rfl) (by kernel_rfl) (by kernel_rfl)
  · cases h; exact tok1 (by kernel_rfl) (by kernel_rfl) (by kernel_rfl)
  · cases h; exact tok1 (by kernel_rfl) (by kernel_rfl) (by kernel_rfl)
  · cases h; exact tok1 (by kernel_rfl) (by kernel_rfl) (by kernel_rfl)
  · cases h; exact tok1 (by kernel_rfl) (by kernel_rfl) (by kernel_rfl)
  · cases h; exact tok1 (by kernel_rfl) (by kernel_rfl) (by kernel_rfl)
  · cases h; exact tok1 (by kernel_rfl) (by kernel_rfl) (by kernel_rfl)
  · cases h
theorem tok_2 : TOk Try.prog T_2 := by
  intro t ti h
  unfold T_2 at h
  split at h
  · cases h; exact tok1 (by kernel_rfl) (by kernel_rfl) (by kernel_rfl)
  · cases h; exact tok1 (by kernel_rfl) (by kernel_rfl) (by kernel_rfl)
  · cases h; exact tok1 (by kernel_rfl) (by kernel_rfl) (by kernel_rfl)
  · cases h; exact tok1 (by kernel_rfl) (by kernel_rfl) (by kernel_rfl)
  · cases h; exact tok1 (by kernel_rfl) (by kernel_rfl) (by kernel_rfl)
  · cases h; exact tok1 (by kernel_rfl) (by kernel_rfl) (by kernel_rfl)
  · cases h; exact tok1 (by kernel_rfl) (by kernel_rfl) (by kernel_rfl)
  · cases h; exact tok1 (by kernel_rfl) (by kernel_rfl) (by kernel_rfl)
  · cases h; exact tok1 (by kernel_rfl) (by kernel_rfl) (by kernel_rfl)
  · cases h; exact tok1 (by kernel_rfl) (by kernel_rfl) (by kernel_rfl)
  · cases h; exact tok1 (by kernel_rfl) (by kernel_rfl) (by kernel_rfl)
  · cases h; exact tok1 (by kernel_rfl) (by kernel_rfl) (by kernel_rfl)
  · cases h; exact tok1 (by kernel_rfl) (by kernel_rfl) (by kernel_rfl)
  · cases h; exact tok1 (by kernel_rfl) (by kernel_rfl) (by kernel_rfl)
  · cases h; exact tok1 (by kernel_rfl) (by kernel_rfl) (by kernel_rfl)
  · cases h; exact tok1 (by kernel_rfl) (by kernel_rfl) (by kernel_rfl)
  · cases h; exact tok1 (by kernel_rfl) (by kernel_rfl) (by kernel_rfl)
  · cases h; exact tok1 (by kernel_rfl) (by kernel_rfl) (by kernel_rfl)
  · cases h; exact tok1 (by kernel_rfl) (by kernel_rfl) (by kernel_rfl)
  · cases h; exact tok1 (by kernel_rfl) (by kernel_rfl) (by kernel_rfl)
  · cases h; exact tok1 (by kernel_rfl) (by kernel_rfl) (by kernel_rfl)
  · cases h; exact tok1 (by kernel_rfl) (by kernel_rfl) (by kernel_rfl)
  · cases h; exact tok1 (by kernel_rfl) (by kernel_rfl) (by kernel_rfl)
  · cases h; exact tok1 (by kernel_rfl) (by kernel_rfl) (by kernel_rfl)
  · cases h
theorem tok_3 : TOk Try.prog T_3 := by
  intro t ti h
  unfold T_3 at h
  split at h
  · cases h; exact tok1 (by kernel_rfl) (by kernel_rfl) (by kernel_rfl)
  · cases h; exact tok1 (by kernel_rfl) (by kernel_rfl) (by kernel_rfl)
  · cases h; exact tok1 (by kernel_rfl) (by kernel_rfl) (by kernel_rfl)
  · cases h; exact tok1 (by kernel_rfl) (by kernel_rfl) (by kernel_rfl)
  · cases h; exact tok1 (by kernel_rfl) (by kernel_rfl) (by kernel_rfl)
  · cases h; exact tok1 (by kernel_rfl) (by kernel_rfl) (by kernel_rfl)
  · cases h; exact tok1 (by kernel_rfl) (by kernel_rfl) (by kernel_rfl)
  · cases h; exact tok1 (by kernel_rfl) (by kernel_rfl) (by kernel_rfl)
  · cases h; exact tok1 (by kernel_rfl) (by kernel_rfl) (by kernel_rfl)
  · cases h; exact tok1 (by kernel_rfl) (by kernel_rfl) (by kernel_rfl)
  · cases h; exact tok1 (by kernel_rfl) (by kernel_rfl) (by kernel_rfl)
  · cases h; exact tok1 (by kernel_rfl) (by kernel_rfl) (by kernel_rfl)
  · cases h; exact tok1 (by kernel_rfl) (by kernel_rfl) (by kernel_rfl)
  · cases h; exact tok1 (by kernel_rfl) (by kernel_rfl) (by kernel_rfl)
  · cases h; exact tok1 (by kernel_rfl) (by kernel_rfl) (by kernel_rfl)
  · cases h; exact tok1 (by kernel_rfl) (by kernel_rfl) (by kernel_rfl)
  · cases h; exact tok1 (by kernel_rfl) (by kernel_rfl) (by kernel_rfl)
  · cases h
theorem tok : TOk Try.prog T := by
  intro t ti h
  unfold T at h
  split at h
  · exact tok_0 t ti h
  split at h
  · exact tok_1 t ti h
  split at h
  · exact tok_2 t ti h
  exact tok_3 t ti h
end Go.Proofs.Ytljnfejcdadjpaa.A
/- The ghost machine at this program: a contract with no roots; the empty book. -/
set_option linter.unusedSimpArgs false
set_option linter.unusedVariables false
set_option maxRecDepth 100000
set_option maxHeartbeats 4000000
namespace Go.Proofs.Ytljnfejcdadjpaa.A
open Go
def pc (f : FuncId) (args : List Arg) (ret : RV) : Prop := (std Try.prog T).pc f args ret []
def book0 : Book := fun _ _ => none
end Go.Proofs.Ytljnfejcdadjpaa.A
/- Lexing: what the functions of the reference, layer 12, give. -/
set_option linter.unusedSimpArgs false
set_option linter.unusedVariables false
set_option maxRecDepth 100000
set_option maxHeartbeats 4000000
namespace Go.Proofs.Ytljnfejcdadjpaa.A
open Go
def isLetI (c : Int) : Bool := decide ((97 ≤ c ∧ c ≤ 122) ∨ (65 ≤ c ∧ c ≤ 90))
def isMoreI (c : Int) : Bool := isLetI c || decide ((48 ≤ c ∧ c ≤ 57) ∨ c = 95)
theorem ret1_b {a b : Bool} (h : a = b) : ret1 (.st (vB a)) = ⟨false, [(false, [.st (.val (.bool b))])]⟩ := by rw [h]; rfl
theorem e_letter12 : Enters Try.prog 25 := enters Try.func25 (by kernel_rfl) (by kernel_rfl)
theorem pc_letter12 (n : Int) : PC Try.prog T 25 [.v false [vU n]] (ret1 (.st (vB (isLetI n)))) [] := by
  refine pc_of tok Try.func25 rfl (by rfl) ?_
  obtain ⟨j, hj⟩ : ∃ j : J, j = std Try.prog T := ⟨_, rfl⟩
  generalize y_isLetI : @isLetI = x_isLetI at *
  (repeat' first | ((first | with_reducible refine tr_cut (fun h => ?_) (fun h => ?_) | refine aw_condj (by cbv) (fun h => ?_) (fun h => ?_)) <;> (try simp (disch := omega) only [hj, std, cmpI, cmpB, satB, Bool.not_eq_true, Bool.not_eq_false, decide_eq_true_eq, decide_eq_false_iff_not, beq_iff_eq, bne_iff_ne, bne_eq_false_iff_eq, beq_eq_false_iff_ne, ne_eq, reduceCtorEq, not_true_eq_false, not_false_eq_true, add64, sub64] at h) <;> (try (exfalso; omega))) | (with_reducible refine tr_alt (fun h => ?_) ?_ <;> (try (exfalso; omega))) | (with_reducible refine tr_ob ?_ ?_) | (with_reducible refine tr_done ?_) | (refine aw_tr hj tok book0 (by cbv) ?_) | (refine aw_seq fun K hK => ?_) | (refine aw_tr1 hj tok book0 (by cbv) ?_) | (refine aw_skip ?_) | (refine aw_block ?_) | (refine aw_exit ?_) | (refine aw_ret ⟨.inr rfl, ret_okj hj (by cbv) ?_ ?_⟩) | (refine aw_ret ?_) | (with_reducible refine th_n ?_) | (with_reducible refine th_r ?_) | (with_reducible refine th_x ?_) | (with_reducible refine blk_n ?_) | (with_reducible refine blk_r ?_) | (with_reducible refine blk_x ?_) | (with_reducible refine blk_y rfl ?_) | (refine ⟨.inr rfl, ret_okj hj (by cbv) ?_ ?_⟩) | (refine ⟨.inl rfl, ret_okj hj (by cbv) ?_ ?_⟩) | ((with_reducible refine ⟨(_, _, _, _, _, _, _), by cbv, ?_, ?_⟩)) | ((with_reducible refine ⟨(_, _, _, _, _, _), by cbv, ?_, ?_⟩)) | ((with_reducible refine ⟨(_, _, _, _, _), by cbv, ?_, ?_⟩)) | ((with_reducible refine ⟨(_, _, _, _), by cbv, ?_, ?_⟩)) | ((with_reducible refine ⟨(_, _, _), by cbv, ?_, ?_⟩)) | ((with_reducible refine ⟨(_, _), by cbv, ?_, ?_⟩)) | ((with_reducible refine ⟨_, by cbv, ?_, ?_⟩)) | (with_reducible apply_assumption -symm -exfalso only [*]))
  all_goals ((try subst y_isLetI))
  all_goals first | exact obl0 | ((repeat (refine obl1 (by first | (simp (disch := omega) only [hj, std, cmpI, cmpB, satB, add64, sub64, isLetI] <;> omega) | (simp (disch := omega) [hj, std, cmpI, cmpB, satB, add64, sub64, isLetI] <;> omega) | (rw [Bool.eq_iff_iff]; simp (disch := omega) [hj, std, cmpI, cmpB, satB, add64, sub64, isLetI] <;> omega) | omega) ?_)); exact obl0) | (refine ret1_b ?_ <;> first | (simp (disch := omega) only [hj, std, cmpI, cmpB, satB, add64, sub64, isLetI] <;> omega) | (simp (disch := omega) [hj, std, cmpI, cmpB, satB, add64, sub64, isLetI] <;> omega) | (rw [Bool.eq_iff_iff]; simp (disch := omega) [hj, std, cmpI, cmpB, satB, add64, sub64, isLetI] <;> omega) | omega)
theorem c_letter12 (n : Int) : (std Try.prog T).pc 25 [.v false [vU n]] (ret1 (.st (vB (isLetI n)))) [] := ⟨e_letter12, pc_letter12 n⟩
def book1 (x_isLetI : Int → Bool) (x_isMoreI : Int → Bool) : Book := fun f xs => match f, xs with
  | 25, [.v false [.val (.int .u8 n)]] => some (ret1 (.st (vB (x_isLetI n))))
  | 28, [.v false [.val (.int .u8 n)]] => some (ret1 (.st (vB (x_isLetI n))))
  | 26, [.v false [.val (.int .u8 n)]] => some (ret1 (.st (vB (x_isMoreI n))))
  | 30, [.v false [.val (.int .u8 n)]] => some (ret1 (.st (vB (x_isMoreI n))))
  | _, _ => none
theorem pc_more12 (n : Int) : PC Try.prog T 26 [.v false [vU n]] (ret1 (.st (vB (isMoreI n)))) [] := by
  refine pc_of tok Try.func26 rfl (by rfl) ?_
  obtain ⟨j, hj⟩ : ∃ j : J, j = std Try.prog T := ⟨_, rfl⟩
  generalize y_isLetI : @isLetI = x_isLetI at *
  generalize y_isMoreI : @isMoreI = x_isMoreI at *
  (repeat' first | ((first | with_reducible refine tr_cut (fun h => ?_) (fun h => ?_) | refine aw_condj (by cbv) (fun h => ?_) (fun h => ?_)) <;> (try simp (disch := omega) only [hj, std, cmpI, cmpB, satB, Bool.not_eq_true, Bool.not_eq_false, decide_eq_true_eq, decide_eq_false_iff_not, beq_iff_eq, bne_iff_ne, bne_eq_false_iff_eq, beq_eq_false_iff_ne, ne_eq, reduceCtorEq, not_true_eq_false, not_false_eq_true, add64, sub64] at h) <;> (try (exfalso; omega))) | (with_reducible refine tr_alt (fun h => ?_) ?_ <;> (try (exfalso; omega))) | (with_reducible refine tr_ob ?_ ?_) | (with_reducible refine tr_done ?_) | (refine aw_tr hj tok (book1 x_isLetI x_isMoreI) (by cbv) ?_) | (refine aw_seq fun K hK => ?_) | (refine aw_tr1 hj tok (book1 x_isLetI x_isMoreI) (by cbv) ?_) | (refine aw_skip ?_) | (refine aw_block ?_) | (refine aw_exit ?_) | (refine aw_ret ⟨.inr rfl, ret_okj hj (by cbv) ?_ ?_⟩) | (refine aw_ret ?_) | (with_reducible refine th_n ?_) | (with_reducible refine th_r ?_) | (with_reducible refine th_x ?_) | (with_reducible refine blk_n ?_) | (with_reducible refine blk_r ?_) | (with_reducible refine blk_x ?_) | (with_reducible refine blk_y rfl ?_) | (refine ⟨.inr rfl, ret_okj hj (by cbv) ?_ ?_⟩) | (refine ⟨.inl rfl, ret_okj hj (by cbv) ?_ ?_⟩) | ((with_reducible refine ⟨(_, _, _, _, _, _, _), by cbv, ?_, ?_⟩)) | ((with_reducible refine ⟨(_, _, _, _, _, _), by cbv, ?_, ?_⟩)) | ((with_reducible refine ⟨(_, _, _, _, _), by cbv, ?_, ?_⟩)) | ((with_reducible refine ⟨(_, _, _, _), by cbv, ?_, ?_⟩)) | ((with_reducible refine ⟨(_, _, _), by cbv, ?_, ?_⟩)) | ((with_reducible refine ⟨(_, _), by cbv, ?_, ?_⟩)) | ((with_reducible refine ⟨_, by cbv, ?_, ?_⟩)) | (with_reducible apply_assumption -symm -exfalso only [*]))
  all_goals ((try subst y_isLetI); (try subst y_isMoreI))
  all_goals first | exact obl0 | ((repeat (refine obl1 (by first | (rw [hj]; exact c_letter12 _) | (simp (disch := omega) only [hj, std, cmpI, cmpB, satB, add64, sub64, isMoreI, *] <;> omega) | (simp (disch := omega) [hj, std, cmpI, cmpB, satB, add64, sub64, isMoreI, *] <;> omega) | (rw [Bool.eq_iff_iff]; simp (disch := omega) [hj, std, cmpI, cmpB, satB, add64, sub64, isMoreI, *] <;> omega) | omega) ?_)); exact obl0) | (refine ret1_b ?_ <;> first | (rw [hj]; exact c_letter12 _) | (simp (disch := omega) only [hj, std, cmpI, cmpB, satB, add64, sub64, isMoreI, *] <;> omega) | (simp (disch := omega) [hj, std, cmpI, cmpB, satB, add64, sub64, isMoreI, *] <;> omega) | (rw [Bool.eq_iff_iff]; simp (disch := omega) [hj, std, cmpI, cmpB, satB, add64, sub64, isMoreI, *] <;> omega) | omega)
end Go.Proofs.Ytljnfejcdadjpaa.A
/- Lexing: run. -/
set_option linter.unusedSimpArgs false
set_option linter.unusedVariables false
set_option maxRecDepth 100000
set_option maxHeartbeats 4000000
namespace Go.Proofs.Ytljnfejcdadjpaa.A
open Go
theorem ret1_i {a b : Int} (h : a = b) : ret1 (.st (vI a)) = ⟨false, [(false, [.st (.val (.int .i64 b))])]⟩ := by rw [h]; rfl
def spanI (p : Int → Bool) (s : ByteArray) (i : Int) : Int := (span (fun c => p (c : Int)) s i.toNat : Nat)
theorem spanI_step {p : Int → Bool} {s : ByteArray} {i : Int} (h0 : 0 ≤ i) (h : i < s.size) (hp : p (bt s i.toNat : Int) = true) : spanI p s (i + 1) = spanI p s i := by
  unfold spanI
  rw [span_step (i := i.toNat) (by omega) hp, show (i + 1).toNat = i.toNat + 1 by omega]
theorem spanI_end {p : Int → Bool} {s : ByteArray} {i : Int} (h0 : 0 ≤ i) (h : ¬ i < s.size) : spanI p s i = i := by
  unfold spanI
  rw [span_stop (i := i.toNat) (by omega)]; omega
theorem spanI_stop {p : Int → Bool} {s : ByteArray} {i : Int} (h0 : 0 ≤ i) (hp : p (bt s i.toNat : Int) = false) : spanI p s i = i := by
  unfold spanI
  rw [span_stop (i := i.toNat) (by simp [hp])]; omega
def bookR (p : Int → Bool) : Book := fun _ xs => match xs with | [.v false [.val (.int .u8 n)]] => some (ret1 (.st (vB (p n)))) | _ => none
theorem pc_run (s : ByteArray) (f : FuncId) (p : Int → Bool) (hs : s.size < 4611686018427387904) (hp : ∀ n, (std Try.prog T).pc f [.v false [vU n]] (ret1 (.st (vB (p n)))) []) :
    PC Try.prog T 29 [.v false [vS s], .fn f] (ret1 (.st (vI (spanI p s 0)))) [] := by
  refine pc_of tok Try.func29 rfl (by rfl) ?_
  obtain ⟨j, hj⟩ : ∃ j : J, j = std Try.prog T := ⟨_, rfl⟩
  generalize y_spanI : @spanI = x_spanI at *
  (repeat' first | ((first | with_reducible refine tr_cut (fun h => ?_) (fun h => ?_) | refine aw_condj (by cbv) (fun h => ?_) (fun h => ?_)) <;> (try simp (disch := omega) only [hj, std, cmpI, cmpB, satB, Bool.not_eq_true, Bool.not_eq_false, decide_eq_true_eq, decide_eq_false_iff_not, beq_iff_eq, bne_iff_ne, bne_eq_false_iff_eq, beq_eq_false_iff_ne, ne_eq, reduceCtorEq, not_true_eq_false, not_false_eq_true, add64, sub64] at h) <;> (try (exfalso; omega))) | (with_reducible refine tr_alt (fun h => ?_) ?_ <;> (try (exfalso; omega))) | (with_reducible refine tr_ob ?_ ?_) | (with_reducible refine tr_done ?_) | (refine aw_tr hj tok (bookR p) (by cbv) ?_) | (refine aw_seq fun K hK => ?_) | (refine aw_tr1 hj tok (bookR p) (by cbv) ?_) | (refine aw_skip ?_) | (refine aw_block ?_) | (refine aw_exit ?_) | (refine aw_ret ⟨.inr rfl, ret_okj hj (by cbv) ?_ ?_⟩) | (refine aw_ret ?_) | (with_reducible refine th_n ?_) | (with_reducible refine th_r ?_) | (with_reducible refine th_x ?_) | (with_reducible refine blk_n ?_) | (with_reducible refine blk_r ?_) | (with_reducible refine blk_x ?_) | (with_reducible refine blk_y rfl ?_) | (refine ⟨.inr rfl, ret_okj hj (by cbv) ?_ ?_⟩) | (refine ⟨.inl rfl, ret_okj hj (by cbv) ?_ ?_⟩) | ((with_reducible refine ⟨(_, _, _, _, _, _, _), by cbv, ?_, ?_⟩)) | ((with_reducible refine ⟨(_, _, _, _, _, _), by cbv, ?_, ?_⟩)) | ((with_reducible refine ⟨(_, _, _, _, _), by cbv, ?_, ?_⟩)) | ((with_reducible refine ⟨(_, _, _, _), by cbv, ?_, ?_⟩)) | ((with_reducible refine ⟨(_, _, _), by cbv, ?_, ?_⟩)) | ((with_reducible refine ⟨(_, _), by cbv, ?_, ?_⟩)) | ((with_reducible refine ⟨_, by cbv, ?_, ?_⟩)) | (with_reducible apply_assumption -symm -exfalso only [*]))
  all_goals ((try subst y_spanI))
  refine aw_lpj hj [(0, .keep), (1, .keep), (5, .keep)] [] (fun i : Int => stOf 20 [(0, .one (.c (vS s))), (1, .one (.fn f [])), (5, .one (.c (vI i)))] []) (fun i => s.size - i.toNat) (fun i => 0 ≤ i ∧ i ≤ s.size ∧ spanI p s i = spanI p s 0) 0 (by generalize @spanI = x_spanI; cbv) ⟨by omega, by omega, rfl⟩ fun i ⟨i1, i2, i3⟩ => ?_
  generalize y_spanI : @spanI = x_spanI at *
  (repeat' first | ((first | with_reducible refine tr_cut (fun h => ?_) (fun h => ?_) | refine aw_condj (by cbv) (fun h => ?_) (fun h => ?_)) <;> (try simp (disch := omega) only [hj, std, cmpI, cmpB, satB, Bool.not_eq_true, Bool.not_eq_false, decide_eq_true_eq, decide_eq_false_iff_not, beq_iff_eq, bne_iff_ne, bne_eq_false_iff_eq, beq_eq_false_iff_ne, ne_eq, reduceCtorEq, not_true_eq_false, not_false_eq_true, add64, sub64] at h) <;> (try (exfalso; omega))) | (with_reducible refine tr_alt (fun h => ?_) ?_ <;> (try (exfalso; omega))) | (with_reducible refine tr_ob ?_ ?_) | (with_reducible refine tr_done ?_) | (refine aw_tr hj tok (bookR p) (by cbv) ?_) | (refine aw_seq fun K hK => ?_) | (refine aw_tr1 hj tok (bookR p) (by cbv) ?_) | (refine aw_skip ?_) | (refine aw_block ?_) | (refine aw_exit ?_) | (refine aw_ret ⟨.inr rfl, ret_okj hj (by cbv) ?_ ?_⟩) | (refine aw_ret ?_) | (with_reducible refine th_n ?_) | (with_reducible refine th_r ?_) | (with_reducible refine th_x ?_) | (with_reducible refine blk_n ?_) | (with_reducible refine blk_r ?_) | (with_reducible refine blk_x ?_) | (with_reducible refine blk_y rfl ?_) | (refine ⟨.inr rfl, ret_okj hj (by cbv) ?_ ?_⟩) | (refine ⟨.inl rfl, ret_okj hj (by cbv) ?_ ?_⟩) | ((with_reducible refine ⟨(_, _, _, _, _, _, _), by cbv, ?_, ?_⟩)) | ((with_reducible refine ⟨(_, _, _, _, _, _), by cbv, ?_, ?_⟩)) | ((with_reducible refine ⟨(_, _, _, _, _), by cbv, ?_, ?_⟩)) | ((with_reducible refine ⟨(_, _, _, _), by cbv, ?_, ?_⟩)) | ((with_reducible refine ⟨(_, _, _), by cbv, ?_, ?_⟩)) | ((with_reducible refine ⟨(_, _), by cbv, ?_, ?_⟩)) | ((with_reducible refine ⟨_, by cbv, ?_, ?_⟩)) | (with_reducible apply_assumption -symm -exfalso only [*]))
  all_goals ((try subst y_spanI))
  all_goals first | exact obl0 | ((repeat (refine obl1 (by first | (rw [← i3]; exact (spanI_stop i1 ‹_›).symm ▸ rfl) | (rw [← i3]; exact spanI_stop i1 ‹_›) | (rw [← i3]; exact spanI_end i1 ‹_›) | (rw [hj]; exact hp _) | (rw [hj]; simp only [std]; rw [add64 (by omega) (by omega), spanI_step i1 ‹_› ‹_›]; exact i3) | (simp (disch := omega) only [hj, std, cmpI, cmpB, satB, add64, sub64] <;> omega) | (simp (disch := omega) [hj, std, cmpI, cmpB, satB, add64, sub64] <;> omega) | (rw [Bool.eq_iff_iff]; simp (disch := omega) [hj, std, cmpI, cmpB, satB, add64, sub64] <;> omega) | omega) ?_)); exact obl0) | (refine ret1_i ?_ <;> first | (rw [← i3]; exact (spanI_stop i1 ‹_›).symm ▸ rfl) | (rw [← i3]; exact spanI_stop i1 ‹_›) | (rw [← i3]; exact spanI_end i1 ‹_›) | (rw [hj]; exact hp _) | (rw [hj]; simp only [std]; rw [add64 (by omega) (by omega), spanI_step i1 ‹_› ‹_›]; exact i3) | (simp (disch := omega) only [hj, std, cmpI, cmpB, satB, add64, sub64] <;> omega) | (simp (disch := omega) [hj, std, cmpI, cmpB, satB, add64, sub64] <;> omega) | (rw [Bool.eq_iff_iff]; simp (disch := omega) [hj, std, cmpI, cmpB, satB, add64, sub64] <;> omega) | omega) | (and_intros <;> first | (rw [← i3]; exact (spanI_stop i1 ‹_›).symm ▸ rfl) | (rw [← i3]; exact spanI_stop i1 ‹_›) | (rw [← i3]; exact spanI_end i1 ‹_›) | (rw [hj]; exact hp _) | (rw [hj]; simp only [std]; rw [add64 (by omega) (by omega), spanI_step i1 ‹_› ‹_›]; exact i3) | (simp (disch := omega) only [hj, std, cmpI, cmpB, satB, add64, sub64] <;> omega) | (simp (disch := omega) [hj, std, cmpI, cmpB, satB, add64, sub64] <;> omega) | (rw [Bool.eq_iff_iff]; simp (disch := omega) [hj, std, cmpI, cmpB, satB, add64, sub64] <;> omega) | omega) | (refine ret1_b ?_ <;> first | (rw [← i3]; exact (spanI_stop i1 ‹_›).symm ▸ rfl) | (rw [← i3]; exact spanI_stop i1 ‹_›) | (rw [← i3]; exact spanI_end i1 ‹_›) | (rw [hj]; exact hp _) | (rw [hj]; simp only [std]; rw [add64 (by omega) (by omega), spanI_step i1 ‹_› ‹_›]; exact i3) | (simp (disch := omega) only [hj, std, cmpI, cmpB, satB, add64, sub64] <;> omega) | (simp (disch := omega) [hj, std, cmpI, cmpB, satB, add64, sub64] <;> omega) | (rw [Bool.eq_iff_iff]; simp (disch := omega) [hj, std, cmpI, cmpB, satB, add64, sub64] <;> omega) | omega)
end Go.Proofs.Ytljnfejcdadjpaa.A
/- Lexing: letter, goes, spells, blank$1, blank of lex. -/
set_option linter.unusedSimpArgs false
set_option linter.unusedVariables false
set_option maxRecDepth 100000
set_option maxHeartbeats 4000000
namespace Go.Proofs.Ytljnfejcdadjpaa.A
open Go
def isSpelI (c : Int) : Bool := decide (32 ≤ c ∧ c ≤ 126 ∧ c ≠ 39 ∧ c ≠ 92)
def notNl (c : Int) : Bool := !decide (c = 10)
theorem c_letter (n : Int) : pc 28 [.v false [vU n]] (ret1 (.st (vB (isLetI n)))) := by
  refine ⟨enters Try.func28 (by kernel_rfl) (by kernel_rfl), pc_of tok Try.func28 rfl (by rfl) ?_⟩
  obtain ⟨j, hj⟩ : ∃ j : J, j = std Try.prog T := ⟨_, rfl⟩
  generalize y_isLetI : @isLetI = x_isLetI at *
  (repeat' first | ((first | with_reducible refine tr_cut (fun h => ?_) (fun h => ?_) | refine aw_condj (by cbv) (fun h => ?_) (fun h => ?_)) <;> (try simp (disch := omega) only [hj, std, cmpI, cmpB, satB, Bool.not_eq_true, Bool.not_eq_false, decide_eq_true_eq, decide_eq_false_iff_not, beq_iff_eq, bne_iff_ne, bne_eq_false_iff_eq, beq_eq_false_iff_ne, ne_eq, reduceCtorEq, not_true_eq_false, not_false_eq_true, add64, sub64] at h) <;> (try (exfalso; omega))) | (with_reducible refine tr_alt (fun h => ?_) ?_ <;> (try (exfalso; omega))) | (with_reducible refine tr_ob ?_ ?_) | (with_reducible refine tr_done ?_) | (refine aw_tr hj tok book0 (by cbv) ?_) | (refine aw_seq fun K hK => ?_) | (refine aw_tr1 hj tok book0 (by cbv) ?_) | (refine aw_skip ?_) | (refine aw_block ?_) | (refine aw_exit ?_) | (refine aw_ret ⟨.inr rfl, ret_okj hj (by cbv) ?_ ?_⟩) | (refine aw_ret ?_) | (with_reducible refine th_n ?_) | (with_reducible refine th_r ?_) | (with_reducible refine th_x ?_) | (with_reducible refine blk_n ?_) | (with_reducible refine blk_r ?_) | (with_reducible refine blk_x ?_) | (with_reducible refine blk_y rfl ?_) | (refine ⟨.inr rfl, ret_okj hj (by cbv) ?_ ?_⟩) | (refine ⟨.inl rfl, ret_okj hj (by cbv) ?_ ?_⟩) | ((with_reducible refine ⟨(_, _, _, _, _, _, _), by cbv, ?_, ?_⟩)) | ((with_reducible refine ⟨(_, _, _, _, _, _), by cbv, ?_, ?_⟩)) | ((with_reducible refine ⟨(_, _, _, _, _), by cbv, ?_, ?_⟩)) | ((with_reducible refine ⟨(_, _, _, _), by cbv, ?_, ?_⟩)) | ((with_reducible refine ⟨(_, _, _), by cbv, ?_, ?_⟩)) | ((with_reducible refine ⟨(_, _), by cbv, ?_, ?_⟩)) | ((with_reducible refine ⟨_, by cbv, ?_, ?_⟩)) | (with_reducible apply_assumption -symm -exfalso only [*]))
  all_goals ((try subst y_isLetI))
  all_goals first | exact obl0 | ((repeat (refine obl1 (by first | (simp (disch := omega) only [hj, std, cmpI, cmpB, satB, add64, sub64, isLetI] <;> omega) | (simp (disch := omega) [hj, std, cmpI, cmpB, satB, add64, sub64, isLetI] <;> omega) | (rw [Bool.eq_iff_iff]; simp (disch := omega) [hj, std, cmpI, cmpB, satB, add64, sub64, isLetI] <;> omega) | omega) ?_)); exact obl0) | (refine ret1_b ?_ <;> first | (simp (disch := omega) only [hj, std, cmpI, cmpB, satB, add64, sub64, isLetI] <;> omega) | (simp (disch := omega) [hj, std, cmpI, cmpB, satB, add64, sub64, isLetI] <;> omega) | (rw [Bool.eq_iff_iff]; simp (disch := omega) [hj, std, cmpI, cmpB, satB, add64, sub64, isLetI] <;> omega) | omega)
theorem c_goes (n : Int) : pc 30 [.v false [vU n]] (ret1 (.st (vB (isMoreI n)))) := by
  refine ⟨enters Try.func30 (by kernel_rfl) (by kernel_rfl), pc_of tok Try.func30 rfl (by rfl) ?_⟩
  obtain ⟨j, hj⟩ : ∃ j : J, j = std Try.prog T := ⟨_, rfl⟩
  generalize y_isLetI : @isLetI = x_isLetI at *
  generalize y_isMoreI : @isMoreI = x_isMoreI at *
  (repeat' first | ((first | with_reducible refine tr_cut (fun h => ?_) (fun h => ?_) | refine aw_condj (by cbv) (fun h => ?_) (fun h => ?_)) <;> (try simp (disch := omega) only [hj, std, cmpI, cmpB, satB, Bool.not_eq_true, Bool.not_eq_false, decide_eq_true_eq, decide_eq_false_iff_not, beq_iff_eq, bne_iff_ne, bne_eq_false_iff_eq, beq_eq_false_iff_ne, ne_eq, reduceCtorEq, not_true_eq_false, not_false_eq_true, add64, sub64] at h) <;> (try (exfalso; omega))) | (with_reducible refine tr_alt (fun h => ?_) ?_ <;> (try (exfalso; omega))) | (with_reducible refine tr_ob ?_ ?_) | (with_reducible refine tr_done ?_) | (refine aw_tr hj tok (book1 x_isLetI x_isMoreI) (by cbv) ?_) | (refine aw_seq fun K hK => ?_) | (refine aw_tr1 hj tok (book1 x_isLetI x_isMoreI) (by cbv) ?_) | (refine aw_skip ?_) | (refine aw_block ?_) | (refine aw_exit ?_) | (refine aw_ret ⟨.inr rfl, ret_okj hj (by cbv) ?_ ?_⟩) | (refine aw_ret ?_) | (with_reducible refine th_n ?_) | (with_reducible refine th_r ?_) | (with_reducible refine th_x ?_) | (with_reducible refine blk_n ?_) | (with_reducible refine blk_r ?_) | (with_reducible refine blk_x ?_) | (with_reducible refine blk_y rfl ?_) | (refine ⟨.inr rfl, ret_okj hj (by cbv) ?_ ?_⟩) | (refine ⟨.inl rfl, ret_okj hj (by cbv) ?_ ?_⟩) | ((with_reducible refine ⟨(_, _, _, _, _, _, _), by cbv, ?_, ?_⟩)) | ((with_reducible refine ⟨(_, _, _, _, _, _), by cbv, ?_, ?_⟩)) | ((with_reducible refine ⟨(_, _, _, _, _), by cbv, ?_, ?_⟩)) | ((with_reducible refine ⟨(_, _, _, _), by cbv, ?_, ?_⟩)) | ((with_reducible refine ⟨(_, _, _), by cbv, ?_, ?_⟩)) | ((with_reducible refine ⟨(_, _), by cbv, ?_, ?_⟩)) | ((with_reducible refine ⟨_, by cbv, ?_, ?_⟩)) | (with_reducible apply_assumption -symm -exfalso only [*]))
  all_goals ((try subst y_isLetI); (try subst y_isMoreI))
  all_goals first | exact obl0 | ((repeat (refine obl1 (by first | (rw [hj]; exact c_letter _) | (simp (disch := omega) only [hj, std, cmpI, cmpB, satB, add64, sub64, isMoreI, *] <;> omega) | (simp (disch := omega) [hj, std, cmpI, cmpB, satB, add64, sub64, isMoreI, *] <;> omega) | (rw [Bool.eq_iff_iff]; simp (disch := omega) [hj, std, cmpI, cmpB, satB, add64, sub64, isMoreI, *] <;> omega) | omega) ?_)); exact obl0) | (refine ret1_b ?_ <;> first | (rw [hj]; exact c_letter _) | (simp (disch := omega) only [hj, std, cmpI, cmpB, satB, add64, sub64, isMoreI, *] <;> omega) | (simp (disch := omega) [hj, std, cmpI, cmpB, satB, add64, sub64, isMoreI, *] <;> omega) | (rw [Bool.eq_iff_iff]; simp (disch := omega) [hj, std, cmpI, cmpB, satB, add64, sub64, isMoreI, *] <;> omega) | omega)
theorem c_spells (n : Int) : pc 31 [.v false [vU n]] (ret1 (.st (vB (isSpelI n)))) := by
  refine ⟨enters Try.func31 (by kernel_rfl) (by kernel_rfl), pc_of tok Try.func31 rfl (by rfl) ?_⟩
  obtain ⟨j, hj⟩ : ∃ j : J, j = std Try.prog T := ⟨_, rfl⟩
  generalize y_isSpelI : @isSpelI = x_isSpelI at *
  (repeat' first | ((first | with_reducible refine tr_cut (fun h => ?_) (fun h => ?_) | refine aw_condj (by cbv) (fun h => ?_) (fun h => ?_)) <;> (try simp (disch := omega) only [hj, std, cmpI, cmpB, satB, Bool.not_eq_true, Bool.not_eq_false, decide_eq_true_eq, decide_eq_false_iff_not, beq_iff_eq, bne_iff_ne, bne_eq_false_iff_eq, beq_eq_false_iff_ne, ne_eq, reduceCtorEq, not_true_eq_false, not_false_eq_true, add64, sub64] at h) <;> (try (exfalso; omega))) | (with_reducible refine tr_alt (fun h => ?_) ?_ <;> (try (exfalso; omega))) | (with_reducible refine tr_ob ?_ ?_) | (with_reducible refine tr_done ?_) | (refine aw_tr hj tok book0 (by cbv) ?_) | (refine aw_seq fun K hK => ?_) | (refine aw_tr1 hj tok book0 (by cbv) ?_) | (refine aw_skip ?_) | (refine aw_block ?_) | (refine aw_exit ?_) | (refine aw_ret ⟨.inr rfl, ret_okj hj (by cbv) ?_ ?_⟩) | (refine aw_ret ?_) | (with_reducible refine th_n ?_) | (with_reducible refine th_r ?_) | (with_reducible refine th_x ?_) | (with_reducible refine blk_n ?_) | (with_reducible refine blk_r ?_) | (with_reducible refine blk_x ?_) | (with_reducible refine blk_y rfl ?_) | (refine ⟨.inr rfl, ret_okj hj (by cbv) ?_ ?_⟩) | (refine ⟨.inl rfl, ret_okj hj (by cbv) ?_ ?_⟩) | ((with_reducible refine ⟨(_, _, _, _, _, _, _), by cbv, ?_, ?_⟩)) | ((with_reducible refine ⟨(_, _, _, _, _, _), by cbv, ?_, ?_⟩)) | ((with_reducible refine ⟨(_, _, _, _, _), by cbv, ?_, ?_⟩)) | ((with_reducible refine ⟨(_, _, _, _), by cbv, ?_, ?_⟩)) | ((with_reducible refine ⟨(_, _, _), by cbv, ?_, ?_⟩)) | ((with_reducible refine ⟨(_, _), by cbv, ?_, ?_⟩)) | ((with_reducible refine ⟨_, by cbv, ?_, ?_⟩)) | (with_reducible apply_assumption -symm -exfalso only [*]))
  all_goals ((try subst y_isSpelI))
  all_goals first | exact obl0 | ((repeat (refine obl1 (by first | (simp (disch := omega) only [hj, std, cmpI, cmpB, satB, add64, sub64, isSpelI] <;> omega) | (simp (disch := omega) [hj, std, cmpI, cmpB, satB, add64, sub64, isSpelI] <;> omega) | (rw [Bool.eq_iff_iff]; simp (disch := omega) [hj, std, cmpI, cmpB, satB, add64, sub64, isSpelI] <;> omega) | omega) ?_)); exact obl0) | (refine ret1_b ?_ <;> first | (simp (disch := omega) only [hj, std, cmpI, cmpB, satB, add64, sub64, isSpelI] <;> omega) | (simp (disch := omega) [hj, std, cmpI, cmpB, satB, add64, sub64, isSpelI] <;> omega) | (rw [Bool.eq_iff_iff]; simp (disch := omega) [hj, std, cmpI, cmpB, satB, add64, sub64, isSpelI] <;> omega) | omega)
theorem c_notNl (n : Int) : pc 36 [.v false [vU n]] (ret1 (.st (vB (notNl n)))) := by
  refine ⟨enters Try.func36 (by kernel_rfl) (by kernel_rfl), pc_of tok Try.func36 rfl (by rfl) ?_⟩
  obtain ⟨j, hj⟩ : ∃ j : J, j = std Try.prog T := ⟨_, rfl⟩
  generalize y_notNl : @notNl = x_notNl at *
  (repeat' first | ((first | with_reducible refine tr_cut (fun h => ?_) (fun h => ?_) | refine aw_condj (by cbv) (fun h => ?_) (fun h => ?_)) <;> (try simp (disch := omega) only [hj, std, cmpI, cmpB, satB, Bool.not_eq_true, Bool.not_eq_false, decide_eq_true_eq, decide_eq_false_iff_not, beq_iff_eq, bne_iff_ne, bne_eq_false_iff_eq, beq_eq_false_iff_ne, ne_eq, reduceCtorEq, not_true_eq_false, not_false_eq_true, add64, sub64] at h) <;> (try (exfalso; omega))) | (with_reducible refine tr_alt (fun h => ?_) ?_ <;> (try (exfalso; omega))) | (with_reducible refine tr_ob ?_ ?_) | (with_reducible refine tr_done ?_) | (refine aw_tr hj tok book0 (by cbv) ?_) | (refine aw_seq fun K hK => ?_) | (refine aw_tr1 hj tok book0 (by cbv) ?_) | (refine aw_skip ?_) | (refine aw_block ?_) | (refine aw_exit ?_) | (refine aw_ret ⟨.inr rfl, ret_okj hj (by cbv) ?_ ?_⟩) | (refine aw_ret ?_) | (with_reducible refine th_n ?_) | (with_reducible refine th_r ?_) | (with_reducible refine th_x ?_) | (with_reducible refine blk_n ?_) | (with_reducible refine blk_r ?_) | (with_reducible refine blk_x ?_) | (with_reducible refine blk_y rfl ?_) | (refine ⟨.inr rfl, ret_okj hj (by cbv) ?_ ?_⟩) | (refine ⟨.inl rfl, ret_okj hj (by cbv) ?_ ?_⟩) | ((with_reducible refine ⟨(_, _, _, _, _, _, _), by cbv, ?_, ?_⟩)) | ((with_reducible refine ⟨(_, _, _, _, _, _), by cbv, ?_, ?_⟩)) | ((with_reducible refine ⟨(_, _, _, _, _), by cbv, ?_, ?_⟩)) | ((with_reducible refine ⟨(_, _, _, _), by cbv, ?_, ?_⟩)) | ((with_reducible refine ⟨(_, _, _), by cbv, ?_, ?_⟩)) | ((with_reducible refine ⟨(_, _), by cbv, ?_, ?_⟩)) | ((with_reducible refine ⟨_, by cbv, ?_, ?_⟩)) | (with_reducible apply_assumption -symm -exfalso only [*]))
  all_goals ((try subst y_notNl))
  all_goals first | exact obl0 | ((repeat (refine obl1 (by first | (simp (disch := omega) only [hj, std, cmpI, cmpB, satB, add64, sub64, notNl, *] <;> omega) | (simp (disch := omega) [hj, std, cmpI, cmpB, satB, add64, sub64, notNl, *] <;> omega) | (rw [Bool.eq_iff_iff]; simp (disch := omega) [hj, std, cmpI, cmpB, satB, add64, sub64, notNl, *] <;> omega) | omega) ?_)); exact obl0) | (refine ret1_b ?_ <;> first | (simp (disch := omega) only [hj, std, cmpI, cmpB, satB, add64, sub64, notNl, *] <;> omega) | (simp (disch := omega) [hj, std, cmpI, cmpB, satB, add64, sub64, notNl, *] <;> omega) | (rw [Bool.eq_iff_iff]; simp (disch := omega) [hj, std, cmpI, cmpB, satB, add64, sub64, notNl, *] <;> omega) | omega)
theorem c_run {s : ByteArray} {f : FuncId} {p : Int → Bool} (hs : s.size < 4611686018427387904) (hp : ∀ n, pc f [.v false [vU n]] (ret1 (.st (vB (p n))))) :
    pc 29 [.v false [vS s], .fn f] (ret1 (.st (vI (spanI p s 0)))) :=
  ⟨enters Try.func29 (by kernel_rfl) (by kernel_rfl), pc_run s f p hs hp⟩
def skipI (s : ByteArray) (i : Int) : Int := (skip s i.toNat : Nat)
def book2 (x_isLetI : Int → Bool) (x_isMoreI : Int → Bool) (x_spanI : (Int → Bool) → ByteArray → Int → Int) (x_isSpelI : Int → Bool) (x_notNl : Int → Bool) (x_skipI : ByteArray → Int → Int) : Book := fun f xs => match f, xs with
  | 28, [.v false [.val (.int .u8 n)]] => some (ret1 (.st (vB (x_isLetI n))))
  | 29, [.v false [.val (.string s)], .fn 30] => some (ret1 (.st (vI (x_spanI x_isMoreI s 0))))
  | 29, [.v false [.val (.string s)], .fn 31] => some (ret1 (.st (vI (x_spanI x_isSpelI s 0))))
  | 29, [.v false [.val (.string s)], .fn 36] => some (ret1 (.st (vI (x_spanI x_notNl s 0))))
  | 22, [.v false [.val (.string s)]] => some (ret1 (.st (vI (x_skipI s 0))))
  | _, _ => none
/- a cut to the end -/
theorem bt_tail (s : ByteArray) (i k : Nat) (h : i ≤ s.size) : bt (s.extract i s.size) k = bt s (i + k) := by
  unfold bt
  by_cases hk : i + k < s.size
  · rw [dif_pos (by rw [ByteArray.size_extract]; omega), dif_pos hk, ByteArray.getElem_extract]
  · rw [dif_neg (by rw [ByteArray.size_extract]; omega), dif_neg hk]
theorem size_tail (s : ByteArray) (i : Nat) : (s.extract i s.size).size = s.size - i := by rw [ByteArray.size_extract]; omega
theorem span_tail (p : Nat → Bool) (s : ByteArray) (i k : Nat) (h : i ≤ s.size) : span p (s.extract i s.size) k + i = span p s (i + k) := by
  rw [span, span.eq_1 p s (i + k), size_tail, bt_tail s i k h]
  by_cases hk : k < s.size - i ∧ p (bt s (i + k)) = true
  · rw [dif_pos hk, dif_pos ⟨by omega, hk.2⟩, span_tail p s i (k + 1) h, Nat.add_assoc]
  · rw [dif_neg hk, dif_neg (fun hh => hk ⟨by omega, hh.2⟩)]; omega
termination_by s.size - i - k
theorem spanI_tail (p : Int → Bool) (s : ByteArray) {i : Int} (h0 : 0 ≤ i) (h : i ≤ s.size) : i + spanI p (s.extract i.toNat s.size) 0 = spanI p s i := by
  unfold spanI
  have := span_tail (fun c => p (c : Int)) s i.toNat 0 (by omega)
  simp only [Nat.add_zero] at this
  simp only [Int.toNat_zero]
  omega
theorem spanI_ge (p : Int → Bool) (s : ByteArray) {i : Int} (h0 : 0 ≤ i) : i ≤ spanI p s i := by
  unfold spanI; have := span_ge (fun c => p (c : Int)) s i.toNat; omega
theorem spanI_le (p : Int → Bool) (s : ByteArray) {i : Int} (h0 : 0 ≤ i) (h : i ≤ s.size) : spanI p s i ≤ s.size := by
  unfold spanI; have := span_le (fun c => p (c : Int)) s i.toNat (by omega); omega
theorem spanI_gt {p : Int → Bool} {s : ByteArray} {i : Int} (h0 : 0 ≤ i) (h : i < s.size) (hp : p (bt s i.toNat : Int) = true) : i < spanI p s i := by
  unfold spanI; have := span_gt (p := fun c => p (c : Int)) (s := s) (i := i.toNat) (by omega) hp; omega
theorem add_span {p : Int → Bool} {s : ByteArray} {i : Int} (hs : s.size < 4611686018427387904) (h0 : 0 ≤ i) (h : i ≤ s.size) : arithI .add .i64 i (spanI p (s.extract i.toNat s.size) 0) = spanI p s i := by
  have h1 := spanI_le p s h0 h
  have h2 := spanI_ge p s h0
  have h3 := spanI_tail p s h0 h
  rw [add64 (by omega) (by omega), h3]
theorem tail_lt {s : ByteArray} {a : Nat} (hs : s.size < 4611686018427387904) : (s.extract a s.size).size < 4611686018427387904 := by rw [size_tail]; omega
theorem skipI_blank {s : ByteArray} {i : Int} (h0 : 0 ≤ i) (h : i < s.size) (hb : bt s i.toNat = 32 ∨ bt s i.toNat = 9 ∨ bt s i.toNat = 13 ∨ bt s i.toNat = 10) : skipI s (i + 1) = skipI s i := by
  unfold skipI
  rw [skip.eq_1 s i.toNat, dif_pos (by omega), if_pos (by simp [isBlankN]; omega), show (i + 1).toNat = i.toNat + 1 by omega]
theorem notNl_eq : (fun c : Nat => notNl (c : Int)) = fun c => !decide (c = 10) := by
  funext c; simp [notNl]; omega
theorem skipI_hash {s : ByteArray} {i : Int} (h0 : 0 ≤ i) (h : i < s.size) (hb : bt s i.toNat = 35) : skipI s (spanI notNl s i) = skipI s i := by
  unfold skipI spanI
  rw [skip.eq_1 s i.toNat, dif_pos (by omega), if_neg (by simp [isBlankN, hb]), dif_pos hb, notNl_eq, Int.toNat_natCast]
theorem skipI_stop {s : ByteArray} {i : Int} (h0 : 0 ≤ i) (hb : ¬ (bt s i.toNat = 32 ∨ bt s i.toNat = 9 ∨ bt s i.toNat = 13 ∨ bt s i.toNat = 10 ∨ bt s i.toNat = 35)) : skipI s i = i := by
  unfold skipI
  rw [skip.eq_1 s i.toNat]
  split
  · rw [if_neg (by simp [isBlankN]; omega), dif_neg (by omega)]; omega
  · omega
theorem skipI_end {s : ByteArray} {i : Int} (h0 : 0 ≤ i) (h : ¬ i < s.size) : skipI s i = i := by
  unfold skipI
  rw [skip.eq_1 s i.toNat, dif_neg (by omega)]; omega
theorem pc_blank (s : ByteArray) (hs : s.size < 4611686018427387904) : PC Try.prog T 22 [.v false [vS s]] (ret1 (.st (vI (skipI s 0)))) [] := by
  refine pc_of tok Try.func22 rfl (by rfl) ?_
  obtain ⟨j, hj⟩ : ∃ j : J, j = std Try.prog T := ⟨_, rfl⟩
  generalize y_isLetI : @isLetI = x_isLetI at *
  generalize y_isMoreI : @isMoreI = x_isMoreI at *
  generalize y_spanI : @spanI = x_spanI at *
  generalize y_isSpelI : @isSpelI = x_isSpelI at *
  generalize y_notNl : @notNl = x_notNl at *
  generalize y_skipI : @skipI = x_skipI at *
  (repeat' first | ((first | with_reducible refine tr_cut (fun h => ?_) (fun h => ?_) | refine aw_condj (by cbv) (fun h => ?_) (fun h => ?_)) <;> (try simp (disch := omega) only [hj, std, cmpI, cmpB, satB, Bool.not_eq_true, Bool.not_eq_false, decide_eq_true_eq, decide_eq_false_iff_not, beq_iff_eq, bne_iff_ne, bne_eq_false_iff_eq, beq_eq_false_iff_ne, ne_eq, reduceCtorEq, not_true_eq_false, not_false_eq_true, add64, sub64] at h) <;> (try (exfalso; omega))) | (with_reducible refine tr_alt (fun h => ?_) ?_ <;> (try (exfalso; omega))) | (with_reducible refine tr_ob ?_ ?_) | (with_reducible refine tr_done ?_) | (refine aw_tr hj tok (book2 x_isLetI x_isMoreI x_spanI x_isSpelI x_notNl x_skipI) (by cbv) ?_) | (refine aw_seq fun K hK => ?_) | (refine aw_tr1 hj tok (book2 x_isLetI x_isMoreI x_spanI x_isSpelI x_notNl x_skipI) (by cbv) ?_) | (refine aw_skip ?_) | (refine aw_block ?_) | (refine aw_exit ?_) | (refine aw_ret ⟨.inr rfl, ret_okj hj (by cbv) ?_ ?_⟩) | (refine aw_ret ?_) | (with_reducible refine th_n ?_) | (with_reducible refine th_r ?_) | (with_reducible refine th_x ?_) | (with_reducible refine blk_n ?_) | (with_reducible refine blk_r ?_) | (with_reducible refine blk_x ?_) | (with_reducible refine blk_y rfl ?_) | (refine ⟨.inr rfl, ret_okj hj (by cbv) ?_ ?_⟩) | (refine ⟨.inl rfl, ret_okj hj (by cbv) ?_ ?_⟩) | ((with_reducible refine ⟨(_, _, _, _, _, _, _), by cbv, ?_, ?_⟩)) | ((with_reducible refine ⟨(_, _, _, _, _, _), by cbv, ?_, ?_⟩)) | ((with_reducible refine ⟨(_, _, _, _, _), by cbv, ?_, ?_⟩)) | ((with_reducible refine ⟨(_, _, _, _), by cbv, ?_, ?_⟩)) | ((with_reducible refine ⟨(_, _, _), by cbv, ?_, ?_⟩)) | ((with_reducible refine ⟨(_, _), by cbv, ?_, ?_⟩)) | ((with_reducible refine ⟨_, by cbv, ?_, ?_⟩)) | (with_reducible apply_assumption -symm -exfalso only [*]))
  all_goals ((try subst y_isLetI); (try subst y_isMoreI); (try subst y_spanI); (try subst y_isSpelI); (try subst y_notNl); (try subst y_skipI))
  refine aw_lpj hj [(0, .keep), (3, .keep)] [] (fun i : Int => stOf 31 [(0, .one (.c (vS s))), (3, .one (.c (vI i)))] []) (fun i => s.size - i.toNat) (fun i => 0 ≤ i ∧ i ≤ s.size ∧ skipI s i = skipI s 0) 0 (by generalize @isLetI = x_isLetI; generalize @isMoreI = x_isMoreI; generalize @spanI = x_spanI; generalize @isSpelI = x_isSpelI; generalize @notNl = x_notNl; generalize @skipI = x_skipI; cbv) ⟨by omega, by omega, rfl⟩ fun i ⟨i1, i2, i3⟩ => ?_
  generalize y_isLetI : @isLetI = x_isLetI at *
  generalize y_isMoreI : @isMoreI = x_isMoreI at *
  generalize y_spanI : @spanI = x_spanI at *
  generalize y_isSpelI : @isSpelI = x_isSpelI at *
  generalize y_notNl : @notNl = x_notNl at *
  generalize y_skipI : @skipI = x_skipI at *
  (repeat' first | ((first | with_reducible refine tr_cut (fun h => ?_) (fun h => ?_) | refine aw_condj (by cbv) (fun h => ?_) (fun h => ?_)) <;> (try simp (disch := omega) only [hj, std, cmpI, cmpB, satB, Bool.not_eq_true, Bool.not_eq_false, decide_eq_true_eq, decide_eq_false_iff_not, beq_iff_eq, bne_iff_ne, bne_eq_false_iff_eq, beq_eq_false_iff_ne, ne_eq, reduceCtorEq, not_true_eq_false, not_false_eq_true, add64, sub64] at h) <;> (try (exfalso; omega))) | (with_reducible refine tr_alt (fun h => ?_) ?_ <;> (try (exfalso; omega))) | (with_reducible refine tr_ob ?_ ?_) | (with_reducible refine tr_done ?_) | (refine aw_tr hj tok (book2 x_isLetI x_isMoreI x_spanI x_isSpelI x_notNl x_skipI) (by cbv) ?_) | (refine aw_seq fun K hK => ?_) | (refine aw_tr1 hj tok (book2 x_isLetI x_isMoreI x_spanI x_isSpelI x_notNl x_skipI) (by cbv) ?_) | (refine aw_skip ?_) | (refine aw_block ?_) | (refine aw_exit ?_) | (refine aw_ret ⟨.inr rfl, ret_okj hj (by cbv) ?_ ?_⟩) | (refine aw_ret ?_) | (with_reducible refine th_n ?_) | (with_reducible refine th_r ?_) | (with_reducible refine th_x ?_) | (with_reducible refine blk_n ?_) | (with_reducible refine blk_r ?_) | (with_reducible refine blk_x ?_) | (with_reducible refine blk_y rfl ?_) | (refine ⟨.inr rfl, ret_okj hj (by cbv) ?_ ?_⟩) | (refine ⟨.inl rfl, ret_okj hj (by cbv) ?_ ?_⟩) | ((with_reducible refine ⟨(_, _, _, _, _, _, _), by cbv, ?_, ?_⟩)) | ((with_reducible refine ⟨(_, _, _, _, _, _), by cbv, ?_, ?_⟩)) | ((with_reducible refine ⟨(_, _, _, _, _), by cbv, ?_, ?_⟩)) | ((with_reducible refine ⟨(_, _, _, _), by cbv, ?_, ?_⟩)) | ((with_reducible refine ⟨(_, _, _), by cbv, ?_, ?_⟩)) | ((with_reducible refine ⟨(_, _), by cbv, ?_, ?_⟩)) | ((with_reducible refine ⟨_, by cbv, ?_, ?_⟩)) | (with_reducible apply_assumption -symm -exfalso only [*]))
  all_goals ((try subst y_isLetI); (try subst y_isMoreI); (try subst y_spanI); (try subst y_isSpelI); (try subst y_notNl); (try subst y_skipI))
  all_goals first | exact obl0 | ((repeat (refine obl1 (by first | (rw [hj]; exact c_run (tail_lt hs) c_notNl) | (rw [← i3]; exact skipI_stop i1 (by omega)) | (rw [← i3]; exact skipI_end i1 ‹_›) | ((simp (disch := omega) only [hj, std, add64]; rw [skipI_blank i1 ‹_› (by omega)]; exact i3)) | ((simp (disch := omega) only [hj, std, add_span]; rw [skipI_hash i1 ‹_› (by omega)]; exact i3)) | ((simp (disch := omega) only [hj, std, add_span]; have f1 := spanI_ge notNl s i1; have f2 := spanI_le notNl s i1 i2; have f3 := spanI_gt (p := notNl) i1 ‹_› (by rw [‹(bt s i.toNat : Int) = 35›]; rfl); omega)) | (simp (disch := omega) only [hj, std, cmpI, cmpB, satB, add64, sub64, add_span] <;> omega) | (simp (disch := omega) [hj, std, cmpI, cmpB, satB, add64, sub64, add_span] <;> omega) | (rw [Bool.eq_iff_iff]; simp (disch := omega) [hj, std, cmpI, cmpB, satB, add64, sub64, add_span] <;> omega) | omega) ?_)); exact obl0) | (refine ret1_i ?_ <;> first | (rw [hj]; exact c_run (tail_lt hs) c_notNl) | (rw [← i3]; exact skipI_stop i1 (by omega)) | (rw [← i3]; exact skipI_end i1 ‹_›) | ((simp (disch := omega) only [hj, std, add64]; rw [skipI_blank i1 ‹_› (by omega)]; exact i3)) | ((simp (disch := omega) only [hj, std, add_span]; rw [skipI_hash i1 ‹_› (by omega)]; exact i3)) | ((simp (disch := omega) only [hj, std, add_span]; have f1 := spanI_ge notNl s i1; have f2 := spanI_le notNl s i1 i2; have f3 := spanI_gt (p := notNl) i1 ‹_› (by rw [‹(bt s i.toNat : Int) = 35›]; rfl); omega)) | (simp (disch := omega) only [hj, std, cmpI, cmpB, satB, add64, sub64, add_span] <;> omega) | (simp (disch := omega) [hj, std, cmpI, cmpB, satB, add64, sub64, add_span] <;> omega) | (rw [Bool.eq_iff_iff]; simp (disch := omega) [hj, std, cmpI, cmpB, satB, add64, sub64, add_span] <;> omega) | omega) | (and_intros <;> first | (rw [hj]; exact c_run (tail_lt hs) c_notNl) | (rw [← i3]; exact skipI_stop i1 (by omega)) | (rw [← i3]; exact skipI_end i1 ‹_›) | ((simp (disch := omega) only [hj, std, add64]; rw [skipI_blank i1 ‹_› (by omega)]; exact i3)) | ((simp (disch := omega) only [hj, std, add_span]; rw [skipI_hash i1 ‹_› (by omega)]; exact i3)) | ((simp (disch := omega) only [hj, std, add_span]; have f1 := spanI_ge notNl s i1; have f2 := spanI_le notNl s i1 i2; have f3 := spanI_gt (p := notNl) i1 ‹_› (by rw [‹(bt s i.toNat : Int) = 35›]; rfl); omega)) | (simp (disch := omega) only [hj, std, cmpI, cmpB, satB, add64, sub64, add_span] <;> omega) | (simp (disch := omega) [hj, std, cmpI, cmpB, satB, add64, sub64, add_span] <;> omega) | (rw [Bool.eq_iff_iff]; simp (disch := omega) [hj, std, cmpI, cmpB, satB, add64, sub64, add_span] <;> omega) | omega) | (refine ret1_b ?_ <;> first | (rw [hj]; exact c_run (tail_lt hs) c_notNl) | (rw [← i3]; exact skipI_stop i1 (by omega)) | (rw [← i3]; exact skipI_end i1 ‹_›) | ((simp (disch := omega) only [hj, std, add64]; rw [skipI_blank i1 ‹_› (by omega)]; exact i3)) | ((simp (disch := omega) only [hj, std, add_span]; rw [skipI_hash i1 ‹_› (by omega)]; exact i3)) | ((simp (disch := omega) only [hj, std, add_span]; have f1 := spanI_ge notNl s i1; have f2 := spanI_le notNl s i1 i2; have f3 := spanI_gt (p := notNl) i1 ‹_› (by rw [‹(bt s i.toNat : Int) = 35›]; rfl); omega)) | (simp (disch := omega) only [hj, std, cmpI, cmpB, satB, add64, sub64, add_span] <;> omega) | (simp (disch := omega) [hj, std, cmpI, cmpB, satB, add64, sub64, add_span] <;> omega) | (rw [Bool.eq_iff_iff]; simp (disch := omega) [hj, std, cmpI, cmpB, satB, add64, sub64, add_span] <;> omega) | omega)
end Go.Proofs.Ytljnfejcdadjpaa.A
/- Lexing: long and first of lex. -/
set_option linter.unusedSimpArgs false
set_option linter.unusedVariables false
set_option maxRecDepth 100000
set_option maxHeartbeats 4000000
namespace Go.Proofs.Ytljnfejcdadjpaa.A
open Go
def lgI (t : ByteArray) (x : Int) : Int := if 32 < t.size then 0 else x
def lgS (t : ByteArray) : ByteArray := if 32 < t.size then ByteArray.empty else t
def lgE (t : ByteArray) : Int := if 32 < t.size then 19 else 0
def tkK (s : ByteArray) (i : Int) : Int := (tokAt s i.toNat).1.1
def tkT (s : ByteArray) (i : Int) : ByteArray := (tokAt s i.toNat).1.2.1
def tkW (s : ByteArray) (i : Int) : Int := (tokAt s i.toNat).1.2.2
def tkN (s : ByteArray) (i : Int) : Int := ((tokAt s i.toNat).2.1 : Nat)
def tkE (s : ByteArray) (i : Int) : Int := (tokAt s i.toNat).2.2
def rTok (k : Int) (t : ByteArray) (w n e : Int) : RV := rets [(true, [.st (vI k), .st (vS t), .st (vI w)]), (false, [.st (vI n)]), (false, [.st (vI e)])]
theorem rTok_eq {k k' : Int} {t t' : ByteArray} {w w' n n' e e' : Int} (h1 : k = k') (h2 : t = t') (h3 : w = w') (h4 : n = n') (h5 : e = e') :
    rTok k t w n e = ⟨true, [(true, [.st (.val (.int .i64 k')), .st (.val (.string t')), .st (.val (.int .i64 w'))]), (false, [.st (.val (.int .i64 n'))]), (false, [.st (.val (.int .i64 e'))])]⟩ := by
  rw [h1, h2, h3, h4, h5]; rfl
theorem c_long (k : Int) (t : ByteArray) (w n : Int) : pc 37 [.v true [vI k, vS t, vI w], .v false [vI n]] (rTok (lgI t k) (lgS t) (lgI t w) (lgI t n) (lgE t)) := by
  refine ⟨enters Try.func37 (by kernel_rfl) (by kernel_rfl), pc_of tok Try.func37 rfl (by rfl) ?_⟩
  obtain ⟨j, hj⟩ : ∃ j : J, j = std Try.prog T := ⟨_, rfl⟩
  generalize y_lgI : @lgI = x_lgI at *
  generalize y_lgS : @lgS = x_lgS at *
  generalize y_lgE : @lgE = x_lgE at *
  (repeat' first | ((first | with_reducible refine tr_cut (fun h => ?_) (fun h => ?_) | refine aw_condj (by cbv) (fun h => ?_) (fun h => ?_)) <;> (try simp (disch := omega) only [hj, std, cmpI, cmpB, satB, Bool.not_eq_true, Bool.not_eq_false, decide_eq_true_eq, decide_eq_false_iff_not, beq_iff_eq, bne_iff_ne, bne_eq_false_iff_eq, beq_eq_false_iff_ne, ne_eq, reduceCtorEq, not_true_eq_false, not_false_eq_true, add64, sub64] at h) <;> (try (exfalso; omega))) | (with_reducible refine tr_alt (fun h => ?_) ?_ <;> (try (exfalso; omega))) | (with_reducible refine tr_ob ?_ ?_) | (with_reducible refine tr_done ?_) | (refine aw_tr hj tok book0 (by cbv) ?_) | (refine aw_seq fun K hK => ?_) | (refine aw_tr1 hj tok book0 (by cbv) ?_) | (refine aw_skip ?_) | (refine aw_block ?_) | (refine aw_exit ?_) | (refine aw_ret ⟨.inr rfl, ret_okj hj (by cbv) ?_ ?_⟩) | (refine aw_ret ?_) | (with_reducible refine th_n ?_) | (with_reducible refine th_r ?_) | (with_reducible refine th_x ?_) | (with_reducible refine blk_n ?_) | (with_reducible refine blk_r ?_) | (with_reducible refine blk_x ?_) | (with_reducible refine blk_y rfl ?_) | (refine ⟨.inr rfl, ret_okj hj (by cbv) ?_ ?_⟩) | (refine ⟨.inl rfl, ret_okj hj (by cbv) ?_ ?_⟩) | ((with_reducible refine ⟨(_, _, _, _, _, _, _), by cbv, ?_, ?_⟩)) | ((with_reducible refine ⟨(_, _, _, _, _, _), by cbv, ?_, ?_⟩)) | ((with_reducible refine ⟨(_, _, _, _, _), by cbv, ?_, ?_⟩)) | ((with_reducible refine ⟨(_, _, _, _), by cbv, ?_, ?_⟩)) | ((with_reducible refine ⟨(_, _, _), by cbv, ?_, ?_⟩)) | ((with_reducible refine ⟨(_, _), by cbv, ?_, ?_⟩)) | ((with_reducible refine ⟨_, by cbv, ?_, ?_⟩)) | (with_reducible apply_assumption -symm -exfalso only [*]))
  all_goals ((try subst y_lgI); (try subst y_lgS); (try subst y_lgE))
  all_goals first | exact obl0 | ((repeat (refine obl1 (by first | ((simp only [lgI, lgS, lgE]; split <;> first | rfl | (exfalso; omega))) | (rfl) | (simp (disch := omega) only [hj, std, cmpI, cmpB, satB, add64, sub64] <;> omega) | (simp (disch := omega) [hj, std, cmpI, cmpB, satB, add64, sub64] <;> omega) | (rw [Bool.eq_iff_iff]; simp (disch := omega) [hj, std, cmpI, cmpB, satB, add64, sub64] <;> omega) | omega) ?_)); exact obl0) | (refine rTok_eq ?_ ?_ ?_ ?_ ?_ <;> first | ((simp only [lgI, lgS, lgE]; split <;> first | rfl | (exfalso; omega))) | (rfl) | (simp (disch := omega) only [hj, std, cmpI, cmpB, satB, add64, sub64] <;> omega) | (simp (disch := omega) [hj, std, cmpI, cmpB, satB, add64, sub64] <;> omega) | (rw [Bool.eq_iff_iff]; simp (disch := omega) [hj, std, cmpI, cmpB, satB, add64, sub64] <;> omega) | omega) | (refine ret1_b ?_ <;> first | ((simp only [lgI, lgS, lgE]; split <;> first | rfl | (exfalso; omega))) | (rfl) | (simp (disch := omega) only [hj, std, cmpI, cmpB, satB, add64, sub64] <;> omega) | (simp (disch := omega) [hj, std, cmpI, cmpB, satB, add64, sub64] <;> omega) | (rw [Bool.eq_iff_iff]; simp (disch := omega) [hj, std, cmpI, cmpB, satB, add64, sub64] <;> omega) | omega)
theorem isMoreN_eq : (fun c : Nat => isMoreI (c : Int)) = isMoreN := by
  funext c; simp only [isMoreI, isLetI, isMoreN, isLetN]; rw [Bool.eq_iff_iff]; simp; omega
theorem isSpelN_eq : (fun c : Nat => isSpelI (c : Int)) = isSpelN := by
  funext c; simp only [isSpelI, isSpelN]; rw [Bool.eq_iff_iff]; simp; omega
theorem isLetN_eq (c : Nat) : isLetI (c : Int) = isLetN c := by
  simp only [isLetI, isLetN]; rw [Bool.eq_iff_iff]; simp; omega
theorem moreI (s : ByteArray) (i : Int) : (spanI isMoreI s i).toNat = span isMoreN s i.toNat := by unfold spanI; rw [isMoreN_eq]; omega
theorem spelI (s : ByteArray) (i : Int) : (spanI isSpelI s i).toNat = span isSpelN s i.toNat := by unfold spanI; rw [isSpelN_eq]; omega
theorem tok_p {s : ByteArray} {i : Int} {c k : Nat} (hk : (c = 58 ∧ k = 3) ∨ (c = 124 ∧ k = 4) ∨ (c = 59 ∧ k = 5)) (h : (bt s i.toNat : Int) = c) : tokAt s i.toNat = (((k : Int), ⟨#[UInt8.ofNat c]⟩, (i.toNat : Int)), i.toNat + 1, 0) := by
  have h' : bt s i.toNat = c := by omega
  unfold tokAt
  dsimp only
  rw [h']
  rcases hk with ⟨rfl, rfl⟩ | ⟨rfl, rfl⟩ | ⟨rfl, rfl⟩ <;> rfl
theorem tok_let {s : ByteArray} {i : Int} (a : ¬ (bt s i.toNat : Int) = 58) (b : ¬ (bt s i.toNat : Int) = 124) (c : ¬ (bt s i.toNat : Int) = 59) (d : isLetI (bt s i.toNat) = true) :
    tokAt s i.toNat = if 32 < (spanI isMoreI s i).toNat - i.toNat then (tk0, i.toNat, 19) else ((1, s.extract i.toNat (spanI isMoreI s i).toNat, i.toNat), (spanI isMoreI s i).toNat, 0) := by
  unfold tokAt
  dsimp only
  rw [if_neg (by omega), if_neg (by omega), if_neg (by omega), if_pos (by rw [← isLetN_eq]; exact d), moreI]
theorem tok_q {s : ByteArray} {i : Int} (h0 : 0 ≤ i) (a : (bt s i.toNat : Int) = 39) :
    tokAt s i.toNat = if s.size ≤ (spanI isSpelI s (i + 1)).toNat ∨ bt s (spanI isSpelI s (i + 1)).toNat ≠ 39 ∨ (spanI isSpelI s (i + 1)).toNat = i.toNat + 1 then (tk0, i.toNat, 13)
      else if 32 < (spanI isSpelI s (i + 1)).toNat - i.toNat - 1 then (tk0, i.toNat, 19) else ((2, s.extract (i.toNat + 1) (spanI isSpelI s (i + 1)).toNat, i.toNat), (spanI isSpelI s (i + 1)).toNat + 1, 0) := by
  have a' : bt s i.toNat = 39 := by omega
  unfold tokAt
  dsimp only
  rw [if_neg (by omega), if_neg (by omega), if_neg (by omega), if_neg (by rw [a']; decide), if_pos a', spelI, show (i + 1).toNat = i.toNat + 1 by omega]
theorem tok_bad {s : ByteArray} {i : Int} (a : ¬ (bt s i.toNat : Int) = 58) (b : ¬ (bt s i.toNat : Int) = 124) (c : ¬ (bt s i.toNat : Int) = 59) (d : isLetI (bt s i.toNat) = false) (e : ¬ (bt s i.toNat : Int) = 39) : tokAt s i.toNat = (tk0, i.toNat, 13) := by
  unfold tokAt
  dsimp only
  rw [if_neg (by omega), if_neg (by omega), if_neg (by omega), if_neg (by rw [← isLetN_eq, d]; simp), if_neg (by omega)]
def Firsts (s : ByteArray) (k : Int) (t : ByteArray) (w n e : Int) : Prop := tkK s 0 = k ∧ tkT s 0 = t ∧ tkW s 0 = w ∧ tkN s 0 = n ∧ tkE s 0 = e
theorem firsts_of {s : ByteArray} {k : Int} {t : ByteArray} {w : Int} {n : Nat} {e : Int} (h : tokAt s (Int.toNat 0) = ((k, t, w), n, e)) : Firsts s k t w n e := by
  refine ⟨?_, ?_, ?_, ?_, ?_⟩ <;> simp only [tkK, tkT, tkW, tkN, tkE] <;> rw [h]
theorem first_let {s : ByteArray} (a : ¬ (bt s (Int.toNat 0) : Int) = 58) (b : ¬ (bt s (Int.toNat 0) : Int) = 124) (c : ¬ (bt s (Int.toNat 0) : Int) = 59) (d : isLetI (bt s (Int.toNat 0)) = true) :
    Firsts s (lgI (s.extract 0 (spanI isMoreI s 0).toNat) 1) (lgS (s.extract 0 (spanI isMoreI s 0).toNat)) (lgI (s.extract 0 (spanI isMoreI s 0).toNat) 0) (lgI (s.extract 0 (spanI isMoreI s 0).toNat) (spanI isMoreI s 0)) (lgE (s.extract 0 (spanI isMoreI s 0).toNat)) := by
  have h := tok_let a b c d
  have h1 := spanI_le isMoreI s (i := 0) (by omega) (by omega)
  have h2 := spanI_ge isMoreI s (i := 0) (by omega)
  have hz : (s.extract 0 (spanI isMoreI s 0).toNat).size = (spanI isMoreI s 0).toNat := by rw [ByteArray.size_extract]; omega
  simp only [lgI, lgS, lgE, hz]
  by_cases hb : 32 < (spanI isMoreI s 0).toNat
  · rw [if_pos (by simpa using hb)] at h
    simp only [if_pos hb]
    exact firsts_of h
  · rw [if_neg (by simpa using hb)] at h
    simp only [if_neg hb]
    have := firsts_of h
    rwa [show (((spanI isMoreI s 0).toNat : Nat) : Int) = spanI isMoreI s 0 by omega] at this
theorem first_q {s : ByteArray} (h0 : 0 < s.size) (a : (bt s (Int.toNat 0) : Int) = 39) (r : Int) (hr : r = spanI isSpelI (s.extract (Int.toNat 1) s.size) 0) (c1 : 0 < r) (c2 : r + 1 < s.size) (c3 : (bt s (r + 1).toNat : Int) = 39) :
    Firsts s (lgI (s.extract (Int.toNat 1) (r + 1).toNat) 2) (lgS (s.extract (Int.toNat 1) (r + 1).toNat)) (lgI (s.extract (Int.toNat 1) (r + 1).toNat) 0) (lgI (s.extract (Int.toNat 1) (r + 1).toNat) (r + 2)) (lgE (s.extract (Int.toNat 1) (r + 1).toNat)) := by
  have e1 := spanI_tail isSpelI s (i := 1) (by omega) (by omega)
  rw [← hr] at e1
  have h := tok_q (i := 0) (by omega) a
  rw [show (0 : Int) + 1 = 1 by omega, ← e1, if_neg (by rw [show (1 + r) = r + 1 by omega]; omega)] at h
  have hz : (s.extract (Int.toNat 1) (r + 1).toNat).size = r.toNat := by rw [ByteArray.size_extract]; omega
  simp only [lgI, lgS, lgE, hz]
  by_cases hb : 32 < r.toNat
  · rw [if_pos (by simp; omega)] at h
    simp only [if_pos hb]
    exact firsts_of h
  · rw [if_neg (by simp; omega)] at h
    simp only [if_neg hb]
    have := firsts_of h
    rw [show (1 + r) = r + 1 by omega] at this
    rwa [show (((r + 1).toNat + 1 : Nat) : Int) = r + 2 by omega] at this
theorem first_qbad {s : ByteArray} (h0 : 0 < s.size) (a : (bt s (Int.toNat 0) : Int) = 39) (r : Int) (hr : r = spanI isSpelI (s.extract (Int.toNat 1) s.size) 0) (c : ¬ (0 < r ∧ r + 1 < s.size ∧ (bt s (r + 1).toNat : Int) = 39)) :
    Firsts s 0 ByteArray.empty 0 0 13 := by
  have e1 := spanI_tail isSpelI s (i := 1) (by omega) (by omega)
  have e2 := spanI_ge isSpelI s (i := 1) (by omega)
  rw [← hr] at e1
  have h := tok_q (i := 0) (by omega) a
  rw [show (0 : Int) + 1 = 1 by omega, ← e1, if_pos (by rw [show (1 + r) = r + 1 by omega]; omega)] at h
  exact firsts_of h
theorem first_bad {s : ByteArray} (a : ¬ (bt s (Int.toNat 0) : Int) = 58) (b : ¬ (bt s (Int.toNat 0) : Int) = 124) (c : ¬ (bt s (Int.toNat 0) : Int) = 59) (d : isLetI (bt s (Int.toNat 0)) = false) (e : ¬ (bt s (Int.toNat 0) : Int) = 39) : Firsts s 0 ByteArray.empty 0 0 13 :=
  firsts_of (tok_bad a b c d e)
theorem first_p {s : ByteArray} {c k : Nat} (hk : (c = 58 ∧ k = 3) ∨ (c = 124 ∧ k = 4) ∨ (c = 59 ∧ k = 5)) (h : (bt s (Int.toNat 0) : Int) = c) : Firsts s k ⟨#[UInt8.ofNat c]⟩ 0 1 0 := firsts_of (tok_p hk h)
theorem rTok_of {s : ByteArray} {k' : Int} {t' : ByteArray} {w' n' e' : Int} (h : Firsts s k' t' w' n' e') :
    rTok (tkK s 0) (tkT s 0) (tkW s 0) (tkN s 0) (tkE s 0) = ⟨true, [(true, [.st (.val (.int .i64 k')), .st (.val (.string t')), .st (.val (.int .i64 w'))]), (false, [.st (.val (.int .i64 n'))]), (false, [.st (.val (.int .i64 e'))])]⟩ :=
  rTok_eq h.1 h.2.1 h.2.2.1 h.2.2.2.1 h.2.2.2.2
def book3 (x_isLetI : Int → Bool) (x_isMoreI : Int → Bool) (x_spanI : (Int → Bool) → ByteArray → Int → Int) (x_isSpelI : Int → Bool) (x_lgI : ByteArray → Int → Int) (x_lgS : ByteArray → ByteArray) (x_lgE : ByteArray → Int) : Book := fun f xs => match f, xs with
  | 28, [.v false [.val (.int .u8 n)]] => some (ret1 (.st (vB (x_isLetI n))))
  | 29, [.v false [.val (.string s)], .fn 30] => some (ret1 (.st (vI (x_spanI x_isMoreI s 0))))
  | 29, [.v false [.val (.string s)], .fn 31] => some (ret1 (.st (vI (x_spanI x_isSpelI s 0))))
  | 37, [.v true [.val (.int .i64 k), .val (.string t), .val (.int .i64 w)], .v false [.val (.int .i64 n)]] => some (rTok (x_lgI t k) (x_lgS t) (x_lgI t w) (x_lgI t n) (x_lgE t))
  | _, _ => none
set_option maxHeartbeats 4000000 in
theorem pc_first (s : ByteArray) (hs : s.size < 4611686018427387904) (h0 : 0 < s.size) : PC Try.prog T 23 [.v false [vS s]] (rTok (tkK s 0) (tkT s 0) (tkW s 0) (tkN s 0) (tkE s 0)) [] := by
  refine pc_of tok Try.func23 rfl (by rfl) ?_
  obtain ⟨j, hj⟩ : ∃ j : J, j = std Try.prog T := ⟨_, rfl⟩
  have p1 := spanI_ge isMoreI s (i := 0) (by omega)
  have p2 := spanI_le isMoreI s (i := 0) (by omega) (by omega)
  have q1 := spanI_ge isSpelI (s.extract (Int.toNat 1) s.size) (i := 0) (by omega)
  have q2 := spanI_le isSpelI (s.extract (Int.toNat 1) s.size) (i := 0) (by omega) (by omega)
  have q3 := size_tail s (Int.toNat 1)
  generalize y_isLetI : @isLetI = x_isLetI at *
  generalize y_isMoreI : @isMoreI = x_isMoreI at *
  generalize y_spanI : @spanI = x_spanI at *
  generalize y_isSpelI : @isSpelI = x_isSpelI at *
  generalize y_lgI : @lgI = x_lgI at *
  generalize y_lgS : @lgS = x_lgS at *
  generalize y_lgE : @lgE = x_lgE at *
  generalize y_tkK : @tkK = x_tkK at *
  generalize y_tkT : @tkT = x_tkT at *
  generalize y_tkW : @tkW = x_tkW at *
  generalize y_tkN : @tkN = x_tkN at *
  generalize y_tkE : @tkE = x_tkE at *
  (repeat' first | ((first | with_reducible refine tr_cut (fun h => ?_) (fun h => ?_) | refine aw_condj (by cbv) (fun h => ?_) (fun h => ?_)) <;> (try simp (disch := omega) only [hj, std, cmpI, cmpB, satB, Bool.not_eq_true, Bool.not_eq_false, decide_eq_true_eq, decide_eq_false_iff_not, beq_iff_eq, bne_iff_ne, bne_eq_false_iff_eq, beq_eq_false_iff_ne, ne_eq, reduceCtorEq, not_true_eq_false, not_false_eq_true, add64, sub64] at h) <;> (try (exfalso; omega))) | (with_reducible refine tr_alt (fun h => ?_) ?_ <;> (try (exfalso; omega))) | (with_reducible refine tr_ob ?_ ?_) | (with_reducible refine tr_done ?_) | (refine aw_tr hj tok (book3 x_isLetI x_isMoreI x_spanI x_isSpelI x_lgI x_lgS x_lgE) (by cbv) ?_) | (refine aw_seq fun K hK => ?_) | (refine aw_tr1 hj tok (book3 x_isLetI x_isMoreI x_spanI x_isSpelI x_lgI x_lgS x_lgE) (by cbv) ?_) | (refine aw_skip ?_) | (refine aw_block ?_) | (refine aw_exit ?_) | (refine aw_ret ⟨.inr rfl, ret_okj hj (by cbv) ?_ ?_⟩) | (refine aw_ret ?_) | (with_reducible refine th_n ?_) | (with_reducible refine th_r ?_) | (with_reducible refine th_x ?_) | (with_reducible refine blk_n ?_) | (with_reducible refine blk_r ?_) | (with_reducible refine blk_x ?_) | (with_reducible refine blk_y rfl ?_) | (refine ⟨.inr rfl, ret_okj hj (by cbv) ?_ ?_⟩) | (refine ⟨.inl rfl, ret_okj hj (by cbv) ?_ ?_⟩) | ((with_reducible refine ⟨(_, _, _, _, _, _, _), by cbv, ?_, ?_⟩)) | ((with_reducible refine ⟨(_, _, _, _, _, _), by cbv, ?_, ?_⟩)) | ((with_reducible refine ⟨(_, _, _, _, _), by cbv, ?_, ?_⟩)) | ((with_reducible refine ⟨(_, _, _, _), by cbv, ?_, ?_⟩)) | ((with_reducible refine ⟨(_, _, _), by cbv, ?_, ?_⟩)) | ((with_reducible refine ⟨(_, _), by cbv, ?_, ?_⟩)) | ((with_reducible refine ⟨_, by cbv, ?_, ?_⟩)) | (with_reducible apply_assumption -symm -exfalso only [*]))
  all_goals ((try subst y_isLetI); (try subst y_isMoreI); (try subst y_spanI); (try subst y_isSpelI); (try subst y_lgI); (try subst y_lgS); (try subst y_lgE); (try subst y_tkK); (try subst y_tkT); (try subst y_tkW); (try subst y_tkN); (try subst y_tkE))
  all_goals first | exact obl0 | ((repeat (refine obl1 (by first | (rw [hj]; exact c_letter _) | (rw [hj]; exact c_run hs c_goes) | (rw [hj]; exact c_run (tail_lt hs) c_spells) | (rw [hj]; exact c_long _ _ _ _) | (exact first_p (c := 58) (k := 3) (.inl ⟨rfl, rfl⟩) ‹_›) | (exact first_p (c := 124) (k := 4) (.inr (.inl ⟨rfl, rfl⟩)) ‹_›) | (exact first_p (c := 59) (k := 5) (.inr (.inr ⟨rfl, rfl⟩)) ‹_›) | (exact first_bad ‹_› ‹_› ‹_› ‹_› ‹_›) | ((simp only [hj, std]; exact first_let ‹_› ‹_› ‹_› ‹_›)) | ((simp (disch := omega) only [hj, std, add64]; exact first_q h0 ‹_› _ rfl (by omega) (by omega) ‹_›)) | ((refine first_qbad h0 ‹_› _ rfl ?_; omega)) | (simp (disch := omega) only [hj, std, cmpI, cmpB, satB, add64, sub64] <;> omega) | (simp (disch := omega) [hj, std, cmpI, cmpB, satB, add64, sub64] <;> omega) | (rw [Bool.eq_iff_iff]; simp (disch := omega) [hj, std, cmpI, cmpB, satB, add64, sub64] <;> omega) | omega) ?_)); exact obl0) | (refine rTok_of ?_ <;> first | (rw [hj]; exact c_letter _) | (rw [hj]; exact c_run hs c_goes) | (rw [hj]; exact c_run (tail_lt hs) c_spells) | (rw [hj]; exact c_long _ _ _ _) | (exact first_p (c := 58) (k := 3) (.inl ⟨rfl, rfl⟩) ‹_›) | (exact first_p (c := 124) (k := 4) (.inr (.inl ⟨rfl, rfl⟩)) ‹_›) | (exact first_p (c := 59) (k := 5) (.inr (.inr ⟨rfl, rfl⟩)) ‹_›) | (exact first_bad ‹_› ‹_› ‹_› ‹_› ‹_›) | ((simp only [hj, std]; exact first_let ‹_› ‹_› ‹_› ‹_›)) | ((simp (disch := omega) only [hj, std, add64]; exact first_q h0 ‹_› _ rfl (by omega) (by omega) ‹_›)) | ((refine first_qbad h0 ‹_› _ rfl ?_; omega)) | (simp (disch := omega) only [hj, std, cmpI, cmpB, satB, add64, sub64] <;> omega) | (simp (disch := omega) [hj, std, cmpI, cmpB, satB, add64, sub64] <;> omega) | (rw [Bool.eq_iff_iff]; simp (disch := omega) [hj, std, cmpI, cmpB, satB, add64, sub64] <;> omega) | omega) | (refine ret1_b ?_ <;> first | (rw [hj]; exact c_letter _) | (rw [hj]; exact c_run hs c_goes) | (rw [hj]; exact c_run (tail_lt hs) c_spells) | (rw [hj]; exact c_long _ _ _ _) | (exact first_p (c := 58) (k := 3) (.inl ⟨rfl, rfl⟩) ‹_›) | (exact first_p (c := 124) (k := 4) (.inr (.inl ⟨rfl, rfl⟩)) ‹_›) | (exact first_p (c := 59) (k := 5) (.inr (.inr ⟨rfl, rfl⟩)) ‹_›) | (exact first_bad ‹_› ‹_› ‹_› ‹_› ‹_›) | ((simp only [hj, std]; exact first_let ‹_› ‹_› ‹_› ‹_›)) | ((simp (disch := omega) only [hj, std, add64]; exact first_q h0 ‹_› _ rfl (by omega) (by omega) ‹_›)) | ((refine first_qbad h0 ‹_› _ rfl ?_; omega)) | (simp (disch := omega) only [hj, std, cmpI, cmpB, satB, add64, sub64] <;> omega) | (simp (disch := omega) [hj, std, cmpI, cmpB, satB, add64, sub64] <;> omega) | (rw [Bool.eq_iff_iff]; simp (disch := omega) [hj, std, cmpI, cmpB, satB, add64, sub64] <;> omega) | omega)
end Go.Proofs.Ytljnfejcdadjpaa.A
/- Lexing: next of the reference, layer 12. -/
set_option linter.unusedSimpArgs false
set_option linter.unusedVariables false
set_option maxRecDepth 100000
set_option maxHeartbeats 4000000
namespace Go.Proofs.Ytljnfejcdadjpaa.A
open Go
theorem c_mr12 (n : Int) : (std Try.prog T).pc 26 [.v false [vU n]] (ret1 (.st (vB (isMoreI n)))) [] := ⟨enters Try.func26 (by kernel_rfl) (by kernel_rfl), pc_more12 n⟩
def Nexts (s : ByteArray) (i k : Int) (t : ByteArray) (w n e : Int) : Prop := tkK s i = k ∧ tkT s i = t ∧ tkW s i = w ∧ tkN s i = n ∧ tkE s i = e
theorem nexts_of {s : ByteArray} {i k : Int} {t : ByteArray} {w : Int} {n : Nat} {e : Int} (h : tokAt s i.toNat = ((k, t, w), n, e)) : Nexts s i k t w n e := by
  refine ⟨?_, ?_, ?_, ?_, ?_⟩ <;> simp only [tkK, tkT, tkW, tkN, tkE] <;> rw [h]
theorem nexts_ofi {s : ByteArray} {i k : Int} {t : ByteArray} {w w' n' : Int} {n : Nat} {e : Int} (h : tokAt s i.toNat = ((k, t, w), n, e)) (h1 : w = w') (h2 : (n : Int) = n') : Nexts s i k t w' n' e := by
  subst h1; subst h2; exact nexts_of h
theorem nTok_of {s : ByteArray} {i k' : Int} {t' : ByteArray} {w' n' e' : Int} (h : Nexts s i k' t' w' n' e') :
    rTok (tkK s i) (tkT s i) (tkW s i) (tkN s i) (tkE s i) = ⟨true, [(true, [.st (.val (.int .i64 k')), .st (.val (.string t')), .st (.val (.int .i64 w'))]), (false, [.st (.val (.int .i64 n'))]), (false, [.st (.val (.int .i64 e'))])]⟩ :=
  rTok_eq h.1 h.2.1 h.2.2.1 h.2.2.2.1 h.2.2.2.2
theorem next_p {s : ByteArray} {i : Int} (h0 : 0 ≤ i) {c k : Nat} (hk : (c = 58 ∧ k = 3) ∨ (c = 124 ∧ k = 4) ∨ (c = 59 ∧ k = 5)) (h : (bt s i.toNat : Int) = c) : Nexts s i k ⟨#[UInt8.ofNat c]⟩ i (i + 1) 0 :=
  nexts_ofi (tok_p hk h) (by omega) (by omega)
theorem next_let {s : ByteArray} {i e : Int} (h0 : 0 ≤ i) (he : spanI isMoreI s i = e) (a : ¬ (bt s i.toNat : Int) = 58) (b : ¬ (bt s i.toNat : Int) = 124) (c : ¬ (bt s i.toNat : Int) = 59) (d : isLetI (bt s i.toNat) = true) (hb : ¬ e - i > 32) :
    Nexts s i 1 (s.extract i.toNat e.toNat) i e 0 := by
  have h := tok_let a b c d
  have := spanI_ge isMoreI s h0
  rw [he] at h this
  rw [if_neg (by omega)] at h
  exact nexts_ofi h (by omega) (by omega)
theorem next_long {s : ByteArray} {i e : Int} (h0 : 0 ≤ i) (he : spanI isMoreI s i = e) (a : ¬ (bt s i.toNat : Int) = 58) (b : ¬ (bt s i.toNat : Int) = 124) (c : ¬ (bt s i.toNat : Int) = 59) (d : isLetI (bt s i.toNat) = true) (hb : e - i > 32) :
    Nexts s i 0 ByteArray.empty 0 i 19 := by
  have h := tok_let a b c d
  rw [he, if_pos (by omega)] at h
  exact nexts_ofi h (by omega) (by omega)
theorem next_bad {s : ByteArray} {i : Int} (h0 : 0 ≤ i) (a : ¬ (bt s i.toNat : Int) = 58) (b : ¬ (bt s i.toNat : Int) = 124) (c : ¬ (bt s i.toNat : Int) = 59) (d : isLetI (bt s i.toNat) = false) (e : ¬ (bt s i.toNat : Int) = 39) : Nexts s i 0 ByteArray.empty 0 i 13 :=
  nexts_ofi (tok_bad a b c d e) (by omega) (by omega)
theorem next_q {s : ByteArray} {i e : Int} (h0 : 0 ≤ i) (he : spanI isSpelI s (i + 1) = e) (a : (bt s i.toNat : Int) = 39) (c1 : ¬ e ≥ s.size) (c2 : (bt s e.toNat : Int) = 39) (c3 : ¬ e = i + 1) (c4 : ¬ e - i - 1 > 32) :
    Nexts s i 2 (s.extract (i + 1).toNat e.toNat) i (e + 1) 0 := by
  have h := tok_q h0 a
  have := spanI_ge isSpelI s (i := i + 1) (by omega)
  rw [he] at h this
  rw [if_neg (by omega), if_neg (by omega), show i.toNat + 1 = (i + 1).toNat by omega] at h
  exact nexts_ofi h (by omega) (by omega)
theorem next_qlong {s : ByteArray} {i e : Int} (h0 : 0 ≤ i) (he : spanI isSpelI s (i + 1) = e) (a : (bt s i.toNat : Int) = 39) (c1 : ¬ e ≥ s.size) (c2 : (bt s e.toNat : Int) = 39) (c3 : ¬ e = i + 1) (c4 : e - i - 1 > 32) :
    Nexts s i 0 ByteArray.empty 0 i 19 := by
  have h := tok_q h0 a
  have := spanI_ge isSpelI s (i := i + 1) (by omega)
  rw [he] at h this
  rw [if_neg (by omega), if_pos (by omega)] at h
  exact nexts_ofi h (by omega) (by omega)
theorem next_qbad {s : ByteArray} {i e : Int} (h0 : 0 ≤ i) (he : spanI isSpelI s (i + 1) = e) (a : (bt s i.toNat : Int) = 39) (c : e ≥ s.size ∨ ¬ (bt s e.toNat : Int) = 39 ∨ e = i + 1) :
    Nexts s i 0 ByteArray.empty 0 i 13 := by
  have h := tok_q h0 a
  have := spanI_ge isSpelI s (i := i + 1) (by omega)
  rw [he] at h this
  rw [if_pos (by omega)] at h
  exact nexts_ofi h (by omega) (by omega)
set_option maxHeartbeats 4000000 in
theorem pc_next (s : ByteArray) (i : Int) (hs : s.size < 4611686018427387904) (h0 : 0 ≤ i) (h1 : i < s.size) : PC Try.prog T 24 [.v false [vS s], .v false [vI i]] (rTok (tkK s i) (tkT s i) (tkW s i) (tkN s i) (tkE s i)) [] := by
  refine pc_of tok Try.func24 rfl (by rfl) ?_
  obtain ⟨j, hj⟩ : ∃ j : J, j = std Try.prog T := ⟨_, rfl⟩
  generalize y_isLetI : @isLetI = x_isLetI at *
  generalize y_isMoreI : @isMoreI = x_isMoreI at *
  generalize y_spanI : @spanI = x_spanI at *
  generalize y_isSpelI : @isSpelI = x_isSpelI at *
  generalize y_tkK : @tkK = x_tkK at *
  generalize y_tkT : @tkT = x_tkT at *
  generalize y_tkW : @tkW = x_tkW at *
  generalize y_tkN : @tkN = x_tkN at *
  generalize y_tkE : @tkE = x_tkE at *
  (repeat' first | ((first | with_reducible refine tr_cut (fun h => ?_) (fun h => ?_) | refine aw_condj (by cbv) (fun h => ?_) (fun h => ?_)) <;> (try simp (disch := omega) only [hj, std, cmpI, cmpB, satB, Bool.not_eq_true, Bool.not_eq_false, decide_eq_true_eq, decide_eq_false_iff_not, beq_iff_eq, bne_iff_ne, bne_eq_false_iff_eq, beq_eq_false_iff_ne, ne_eq, reduceCtorEq, not_true_eq_false, not_false_eq_true, add64, sub64] at h) <;> (try (exfalso; omega))) | (with_reducible refine tr_alt (fun h => ?_) ?_ <;> (try (exfalso; omega))) | (with_reducible refine tr_ob ?_ ?_) | (with_reducible refine tr_done ?_) | (refine aw_tr hj tok (book1 x_isLetI x_isMoreI) (by cbv) ?_) | (refine aw_seq fun K hK => ?_) | (refine aw_tr1 hj tok (book1 x_isLetI x_isMoreI) (by cbv) ?_) | (refine aw_skip ?_) | (refine aw_block ?_) | (refine aw_exit ?_) | (refine aw_ret ⟨.inr rfl, ret_okj hj (by cbv) ?_ ?_⟩) | (refine aw_ret ?_) | (with_reducible refine th_n ?_) | (with_reducible refine th_r ?_) | (with_reducible refine th_x ?_) | (with_reducible refine blk_n ?_) | (with_reducible refine blk_r ?_) | (with_reducible refine blk_x ?_) | (with_reducible refine blk_y rfl ?_) | (refine ⟨.inr rfl, ret_okj hj (by cbv) ?_ ?_⟩) | (refine ⟨.inl rfl, ret_okj hj (by cbv) ?_ ?_⟩) | ((with_reducible refine ⟨(_, _, _, _, _, _, _), by cbv, ?_, ?_⟩)) | ((with_reducible refine ⟨(_, _, _, _, _, _), by cbv, ?_, ?_⟩)) | ((with_reducible refine ⟨(_, _, _, _, _), by cbv, ?_, ?_⟩)) | ((with_reducible refine ⟨(_, _, _, _), by cbv, ?_, ?_⟩)) | ((with_reducible refine ⟨(_, _, _), by cbv, ?_, ?_⟩)) | ((with_reducible refine ⟨(_, _), by cbv, ?_, ?_⟩)) | ((with_reducible refine ⟨_, by cbv, ?_, ?_⟩)) | (with_reducible apply_assumption -symm -exfalso only [*]))
  all_goals ((try subst y_isLetI); (try subst y_isMoreI); (try subst y_spanI); (try subst y_isSpelI); (try subst y_tkK); (try subst y_tkT); (try subst y_tkW); (try subst y_tkN); (try subst y_tkE))
  all_goals try first | exact obl0 | ((repeat (refine obl1 (by first | (rw [hj]; exact c_letter12 _) | ((have h := ‹(bt s i.toNat : Int) = 58›; simp (disch := omega) only [hj, std, add64]; exact next_p h0 (c := 58) (k := 3) (.inl ⟨rfl, rfl⟩) h)) | ((have h := ‹(bt s i.toNat : Int) = 124›; simp (disch := omega) only [hj, std, add64]; exact next_p h0 (c := 124) (k := 4) (.inr (.inl ⟨rfl, rfl⟩)) h)) | ((have h := ‹(bt s i.toNat : Int) = 59›; simp (disch := omega) only [hj, std, add64]; exact next_p h0 (c := 59) (k := 5) (.inr (.inr ⟨rfl, rfl⟩)) h)) | (exact next_bad h0 ‹_› ‹_› ‹_› ‹_› ‹_›) | (simp (disch := omega) only [hj, std, cmpI, cmpB, satB, add64, sub64] <;> omega) | (simp (disch := omega) [hj, std, cmpI, cmpB, satB, add64, sub64] <;> omega) | (rw [Bool.eq_iff_iff]; simp (disch := omega) [hj, std, cmpI, cmpB, satB, add64, sub64] <;> omega) | omega) ?_)); exact obl0) | (refine nTok_of ?_ <;> first | (rw [hj]; exact c_letter12 _) | ((have h := ‹(bt s i.toNat : Int) = 58›; simp (disch := omega) only [hj, std, add64]; exact next_p h0 (c := 58) (k := 3) (.inl ⟨rfl, rfl⟩) h)) | ((have h := ‹(bt s i.toNat : Int) = 124›; simp (disch := omega) only [hj, std, add64]; exact next_p h0 (c := 124) (k := 4) (.inr (.inl ⟨rfl, rfl⟩)) h)) | ((have h := ‹(bt s i.toNat : Int) = 59›; simp (disch := omega) only [hj, std, add64]; exact next_p h0 (c := 59) (k := 5) (.inr (.inr ⟨rfl, rfl⟩)) h)) | (exact next_bad h0 ‹_› ‹_› ‹_› ‹_› ‹_›) | (simp (disch := omega) only [hj, std, cmpI, cmpB, satB, add64, sub64] <;> omega) | (simp (disch := omega) [hj, std, cmpI, cmpB, satB, add64, sub64] <;> omega) | (rw [Bool.eq_iff_iff]; simp (disch := omega) [hj, std, cmpI, cmpB, satB, add64, sub64] <;> omega) | omega) | (refine ret1_b ?_ <;> first | (rw [hj]; exact c_letter12 _) | ((have h := ‹(bt s i.toNat : Int) = 58›; simp (disch := omega) only [hj, std, add64]; exact next_p h0 (c := 58) (k := 3) (.inl ⟨rfl, rfl⟩) h)) | ((have h := ‹(bt s i.toNat : Int) = 124›; simp (disch := omega) only [hj, std, add64]; exact next_p h0 (c := 124) (k := 4) (.inr (.inl ⟨rfl, rfl⟩)) h)) | ((have h := ‹(bt s i.toNat : Int) = 59›; simp (disch := omega) only [hj, std, add64]; exact next_p h0 (c := 59) (k := 5) (.inr (.inr ⟨rfl, rfl⟩)) h)) | (exact next_bad h0 ‹_› ‹_› ‹_› ‹_› ‹_›) | (simp (disch := omega) only [hj, std, cmpI, cmpB, satB, add64, sub64] <;> omega) | (simp (disch := omega) [hj, std, cmpI, cmpB, satB, add64, sub64] <;> omega) | (rw [Bool.eq_iff_iff]; simp (disch := omega) [hj, std, cmpI, cmpB, satB, add64, sub64] <;> omega) | omega)
  · refine aw_lpj hj [(0, .keep), (1, .keep), (4, .keep), (8, .keep)] [4] (fun e : Int => stOf 129 [(0, .one (.c (vS s))), (1, .one (.c (vI i))), (4, .one (.ptr 4 0)), (8, .one (.c (vI e)))] [(4, .box [.st (vI 0), .st (vS ByteArray.empty), .st (vI 0)])])
      (fun e => s.size - e.toNat) (fun e => i ≤ e ∧ e ≤ s.size ∧ spanI isMoreI s e = spanI isMoreI s i) i (by generalize @isLetI = x_isLetI; generalize @isMoreI = x_isMoreI; generalize @spanI = x_spanI; generalize @isSpelI = x_isSpelI; generalize @tkK = x_tkK; generalize @tkT = x_tkT; generalize @tkW = x_tkW; generalize @tkN = x_tkN; generalize @tkE = x_tkE; cbv) ⟨by omega, by omega, rfl⟩ fun e ⟨i1, i2, i3⟩ => ?_
    generalize y_isLetI : @isLetI = x_isLetI at *
    generalize y_isMoreI : @isMoreI = x_isMoreI at *
    generalize y_spanI : @spanI = x_spanI at *
    generalize y_isSpelI : @isSpelI = x_isSpelI at *
    generalize y_tkK : @tkK = x_tkK at *
    generalize y_tkT : @tkT = x_tkT at *
    generalize y_tkW : @tkW = x_tkW at *
    generalize y_tkN : @tkN = x_tkN at *
    generalize y_tkE : @tkE = x_tkE at *
    (repeat' first | ((first | with_reducible refine tr_cut (fun h => ?_) (fun h => ?_) | refine aw_condj (by cbv) (fun h => ?_) (fun h => ?_)) <;> (try simp (disch := omega) only [hj, std, cmpI, cmpB, satB, Bool.not_eq_true, Bool.not_eq_false, decide_eq_true_eq, decide_eq_false_iff_not, beq_iff_eq, bne_iff_ne, bne_eq_false_iff_eq, beq_eq_false_iff_ne, ne_eq, reduceCtorEq, not_true_eq_false, not_false_eq_true, add64, sub64] at h) <;> (try (exfalso; omega))) | (with_reducible refine tr_alt (fun h => ?_) ?_ <;> (try (exfalso; omega))) | (with_reducible refine tr_ob ?_ ?_) | (with_reducible refine tr_done ?_) | (refine aw_tr hj tok (book1 x_isLetI x_isMoreI) (by cbv) ?_) | (refine aw_seq fun K hK => ?_) | (refine aw_tr1 hj tok (book1 x_isLetI x_isMoreI) (by cbv) ?_) | (refine aw_skip ?_) | (refine aw_block ?_) | (refine aw_exit ?_) | (refine aw_ret ⟨.inr rfl, ret_okj hj (by cbv) ?_ ?_⟩) | (refine aw_ret ?_) | (with_reducible refine th_n ?_) | (with_reducible refine th_r ?_) | (with_reducible refine th_x ?_) | (with_reducible refine blk_n ?_) | (with_reducible refine blk_r ?_) | (with_reducible refine blk_x ?_) | (with_reducible refine blk_y rfl ?_) | (refine ⟨.inr rfl, ret_okj hj (by cbv) ?_ ?_⟩) | (refine ⟨.inl rfl, ret_okj hj (by cbv) ?_ ?_⟩) | ((with_reducible refine ⟨(_, _, _, _, _, _, _), by cbv, ?_, ?_⟩)) | ((with_reducible refine ⟨(_, _, _, _, _, _), by cbv, ?_, ?_⟩)) | ((with_reducible refine ⟨(_, _, _, _, _), by cbv, ?_, ?_⟩)) | ((with_reducible refine ⟨(_, _, _, _), by cbv, ?_, ?_⟩)) | ((with_reducible refine ⟨(_, _, _), by cbv, ?_, ?_⟩)) | ((with_reducible refine ⟨(_, _), by cbv, ?_, ?_⟩)) | ((with_reducible refine ⟨_, by cbv, ?_, ?_⟩)) | (with_reducible apply_assumption -symm -exfalso only [*]))
    all_goals ((try subst y_isLetI); (try subst y_isMoreI); (try subst y_spanI); (try subst y_isSpelI); (try subst y_tkK); (try subst y_tkT); (try subst y_tkW); (try subst y_tkN); (try subst y_tkE))
    all_goals first | exact obl0 | ((repeat (refine obl1 (by first | (rw [hj]; exact c_mr12 _) | ((have he : spanI isMoreI s i = e := (by rw [← i3]; first | exact spanI_stop (by omega) ‹_› | exact spanI_end (by omega) ‹_›); first | exact next_long h0 he ‹_› ‹_› ‹_› ‹_› ‹_› | (simp only [hj, std]; exact next_let h0 he ‹_› ‹_› ‹_› ‹_› ‹_›))) | ((simp (disch := omega) only [hj, std, add64]; rw [spanI_step (by omega) ‹_› ‹_›]; exact i3)) | (simp (disch := omega) only [hj, std, cmpI, cmpB, satB, add64, sub64] <;> omega) | (simp (disch := omega) [hj, std, cmpI, cmpB, satB, add64, sub64] <;> omega) | (rw [Bool.eq_iff_iff]; simp (disch := omega) [hj, std, cmpI, cmpB, satB, add64, sub64] <;> omega) | omega) ?_)); exact obl0) | (refine nTok_of ?_ <;> first | (rw [hj]; exact c_mr12 _) | ((have he : spanI isMoreI s i = e := (by rw [← i3]; first | exact spanI_stop (by omega) ‹_› | exact spanI_end (by omega) ‹_›); first | exact next_long h0 he ‹_› ‹_› ‹_› ‹_› ‹_› | (simp only [hj, std]; exact next_let h0 he ‹_› ‹_› ‹_› ‹_› ‹_›))) | ((simp (disch := omega) only [hj, std, add64]; rw [spanI_step (by omega) ‹_› ‹_›]; exact i3)) | (simp (disch := omega) only [hj, std, cmpI, cmpB, satB, add64, sub64] <;> omega) | (simp (disch := omega) [hj, std, cmpI, cmpB, satB, add64, sub64] <;> omega) | (rw [Bool.eq_iff_iff]; simp (disch := omega) [hj, std, cmpI, cmpB, satB, add64, sub64] <;> omega) | omega) | (and_intros <;> first | (rw [hj]; exact c_mr12 _) | ((have he : spanI isMoreI s i = e := (by rw [← i3]; first | exact spanI_stop (by omega) ‹_› | exact spanI_end (by omega) ‹_›); first | exact next_long h0 he ‹_› ‹_› ‹_› ‹_› ‹_› | (simp only [hj, std]; exact next_let h0 he ‹_› ‹_› ‹_› ‹_› ‹_›))) | ((simp (disch := omega) only [hj, std, add64]; rw [spanI_step (by omega) ‹_› ‹_›]; exact i3)) | (simp (disch := omega) only [hj, std, cmpI, cmpB, satB, add64, sub64] <;> omega) | (simp (disch := omega) [hj, std, cmpI, cmpB, satB, add64, sub64] <;> omega) | (rw [Bool.eq_iff_iff]; simp (disch := omega) [hj, std, cmpI, cmpB, satB, add64, sub64] <;> omega) | omega) | (refine ret1_b ?_ <;> first | (rw [hj]; exact c_mr12 _) | ((have he : spanI isMoreI s i = e := (by rw [← i3]; first | exact spanI_stop (by omega) ‹_› | exact spanI_end (by omega) ‹_›); first | exact next_long h0 he ‹_› ‹_› ‹_› ‹_› ‹_› | (simp only [hj, std]; exact next_let h0 he ‹_› ‹_› ‹_› ‹_› ‹_›))) | ((simp (disch := omega) only [hj, std, add64]; rw [spanI_step (by omega) ‹_› ‹_›]; exact i3)) | (simp (disch := omega) only [hj, std, cmpI, cmpB, satB, add64, sub64] <;> omega) | (simp (disch := omega) [hj, std, cmpI, cmpB, satB, add64, sub64] <;> omega) | (rw [Bool.eq_iff_iff]; simp (disch := omega) [hj, std, cmpI, cmpB, satB, add64, sub64] <;> omega) | omega)
  · have ha : j.arith .add .i64 i 1 = i + 1 := by rw [hj]; exact add64 (by omega) (by omega)
    refine aw_lpj hj [(0, .keep), (1, .keep), (4, .keep), (9, .keep)] [4] (fun e : Int => stOf 129 [(0, .one (.c (vS s))), (1, .one (.c (vI i))), (4, .one (.ptr 4 0)), (9, .one (.c (vI e)))] [(4, .box [.st (vI 0), .st (vS ByteArray.empty), .st (vI 0)])])
      (fun e => s.size - e.toNat) (fun e => i + 1 ≤ e ∧ e ≤ s.size ∧ spanI isSpelI s e = spanI isSpelI s (i + 1)) (j.arith .add .i64 i 1) (by generalize @isLetI = x_isLetI; generalize @isMoreI = x_isMoreI; generalize @spanI = x_spanI; generalize @isSpelI = x_isSpelI; generalize @tkK = x_tkK; generalize @tkT = x_tkT; generalize @tkW = x_tkW; generalize @tkN = x_tkN; generalize @tkE = x_tkE; cbv) ⟨by omega, by omega, by rw [ha]⟩ fun e ⟨i1, i2, i3⟩ => ?_
    generalize y_isLetI : @isLetI = x_isLetI at *
    generalize y_isMoreI : @isMoreI = x_isMoreI at *
    generalize y_spanI : @spanI = x_spanI at *
    generalize y_isSpelI : @isSpelI = x_isSpelI at *
    generalize y_tkK : @tkK = x_tkK at *
    generalize y_tkT : @tkT = x_tkT at *
    generalize y_tkW : @tkW = x_tkW at *
    generalize y_tkN : @tkN = x_tkN at *
    generalize y_tkE : @tkE = x_tkE at *
    (repeat' first | ((first | with_reducible refine tr_cut (fun h => ?_) (fun h => ?_) | refine aw_condj (by cbv) (fun h => ?_) (fun h => ?_)) <;> (try simp (disch := omega) only [hj, std, cmpI, cmpB, satB, Bool.not_eq_true, Bool.not_eq_false, decide_eq_true_eq, decide_eq_false_iff_not, beq_iff_eq, bne_iff_ne, bne_eq_false_iff_eq, beq_eq_false_iff_ne, ne_eq, reduceCtorEq, not_true_eq_false, not_false_eq_true, add64, sub64] at h) <;> (try (exfalso; omega))) | (with_reducible refine tr_alt (fun h => ?_) ?_ <;> (try (exfalso; omega))) | (with_reducible refine tr_ob ?_ ?_) | (with_reducible refine tr_done ?_) | (refine aw_tr hj tok (book1 x_isLetI x_isMoreI) (by cbv) ?_) | (refine aw_seq fun K hK => ?_) | (refine aw_tr1 hj tok (book1 x_isLetI x_isMoreI) (by cbv) ?_) | (refine aw_skip ?_) | (refine aw_block ?_) | (refine aw_exit ?_) | (refine aw_ret ⟨.inr rfl, ret_okj hj (by cbv) ?_ ?_⟩) | (refine aw_ret ?_) | (with_reducible refine th_n ?_) | (with_reducible refine th_r ?_) | (with_reducible refine th_x ?_) | (with_reducible refine blk_n ?_) | (with_reducible refine blk_r ?_) | (with_reducible refine blk_x ?_) | (with_reducible refine blk_y rfl ?_) | (refine ⟨.inr rfl, ret_okj hj (by cbv) ?_ ?_⟩) | (refine ⟨.inl rfl, ret_okj hj (by cbv) ?_ ?_⟩) | ((with_reducible refine ⟨(_, _, _, _, _, _, _), by cbv, ?_, ?_⟩)) | ((with_reducible refine ⟨(_, _, _, _, _, _), by cbv, ?_, ?_⟩)) | ((with_reducible refine ⟨(_, _, _, _, _), by cbv, ?_, ?_⟩)) | ((with_reducible refine ⟨(_, _, _, _), by cbv, ?_, ?_⟩)) | ((with_reducible refine ⟨(_, _, _), by cbv, ?_, ?_⟩)) | ((with_reducible refine ⟨(_, _), by cbv, ?_, ?_⟩)) | ((with_reducible refine ⟨_, by cbv, ?_, ?_⟩)) | (with_reducible apply_assumption -symm -exfalso only [*]))
    all_goals ((try subst y_isLetI); (try subst y_isMoreI); (try subst y_spanI); (try subst y_isSpelI); (try subst y_tkK); (try subst y_tkT); (try subst y_tkW); (try subst y_tkN); (try subst y_tkE))
    all_goals first | exact obl0 | ((repeat (refine obl1 (by first | ((have he : spanI isSpelI s (i + 1) = e := (by rw [← i3]; first | exact spanI_end (by omega) ‹_› | exact spanI_stop (by omega) (by simp only [isSpelI]; exact decide_eq_false (by omega))); first | exact next_qbad h0 he ‹_› (by omega) | (simp (disch := omega) only [hj, std, add64]; exact next_q h0 he ‹_› (by omega) (by omega) (by omega) (by omega)) | exact next_qlong h0 he ‹_› (by omega) (by omega) (by omega) (by omega))) | ((simp (disch := omega) only [hj, std, add64]; rw [spanI_step (by omega) ‹_› (by simp only [isSpelI]; exact decide_eq_true (by omega))]; exact i3)) | (simp (disch := omega) only [hj, std, cmpI, cmpB, satB, add64, sub64] <;> omega) | (simp (disch := omega) [hj, std, cmpI, cmpB, satB, add64, sub64] <;> omega) | (rw [Bool.eq_iff_iff]; simp (disch := omega) [hj, std, cmpI, cmpB, satB, add64, sub64] <;> omega) | omega) ?_)); exact obl0) | (refine nTok_of ?_ <;> first | ((have he : spanI isSpelI s (i + 1) = e := (by rw [← i3]; first | exact spanI_end (by omega) ‹_› | exact spanI_stop (by omega) (by simp only [isSpelI]; exact decide_eq_false (by omega))); first | exact next_qbad h0 he ‹_› (by omega) | (simp (disch := omega) only [hj, std, add64]; exact next_q h0 he ‹_› (by omega) (by omega) (by omega) (by omega)) | exact next_qlong h0 he ‹_› (by omega) (by omega) (by omega) (by omega))) | ((simp (disch := omega) only [hj, std, add64]; rw [spanI_step (by omega) ‹_› (by simp only [isSpelI]; exact decide_eq_true (by omega))]; exact i3)) | (simp (disch := omega) only [hj, std, cmpI, cmpB, satB, add64, sub64] <;> omega) | (simp (disch := omega) [hj, std, cmpI, cmpB, satB, add64, sub64] <;> omega) | (rw [Bool.eq_iff_iff]; simp (disch := omega) [hj, std, cmpI, cmpB, satB, add64, sub64] <;> omega) | omega) | (and_intros <;> first | ((have he : spanI isSpelI s (i + 1) = e := (by rw [← i3]; first | exact spanI_end (by omega) ‹_› | exact spanI_stop (by omega) (by simp only [isSpelI]; exact decide_eq_false (by omega))); first | exact next_qbad h0 he ‹_› (by omega) | (simp (disch := omega) only [hj, std, add64]; exact next_q h0 he ‹_› (by omega) (by omega) (by omega) (by omega)) | exact next_qlong h0 he ‹_› (by omega) (by omega) (by omega) (by omega))) | ((simp (disch := omega) only [hj, std, add64]; rw [spanI_step (by omega) ‹_› (by simp only [isSpelI]; exact decide_eq_true (by omega))]; exact i3)) | (simp (disch := omega) only [hj, std, cmpI, cmpB, satB, add64, sub64] <;> omega) | (simp (disch := omega) [hj, std, cmpI, cmpB, satB, add64, sub64] <;> omega) | (rw [Bool.eq_iff_iff]; simp (disch := omega) [hj, std, cmpI, cmpB, satB, add64, sub64] <;> omega) | omega) | (refine ret1_b ?_ <;> first | ((have he : spanI isSpelI s (i + 1) = e := (by rw [← i3]; first | exact spanI_end (by omega) ‹_› | exact spanI_stop (by omega) (by simp only [isSpelI]; exact decide_eq_false (by omega))); first | exact next_qbad h0 he ‹_› (by omega) | (simp (disch := omega) only [hj, std, add64]; exact next_q h0 he ‹_› (by omega) (by omega) (by omega) (by omega)) | exact next_qlong h0 he ‹_› (by omega) (by omega) (by omega) (by omega))) | ((simp (disch := omega) only [hj, std, add64]; rw [spanI_step (by omega) ‹_› (by simp only [isSpelI]; exact decide_eq_true (by omega))]; exact i3)) | (simp (disch := omega) only [hj, std, cmpI, cmpB, satB, add64, sub64] <;> omega) | (simp (disch := omega) [hj, std, cmpI, cmpB, satB, add64, sub64] <;> omega) | (rw [Bool.eq_iff_iff]; simp (disch := omega) [hj, std, cmpI, cmpB, satB, add64, sub64] <;> omega) | omega)
end Go.Proofs.Ytljnfejcdadjpaa.A
/- Lexing: all tokens, the plain law. -/
set_option linter.unusedSimpArgs false
set_option linter.unusedVariables false
set_option maxRecDepth 100000
set_option maxHeartbeats 4000000
namespace Go.Proofs.Ytljnfejcdadjpaa.A
open Go
abbrev LxR := List Tk × Int × Int
def goOn (l : List Tk) (r : LxR) : LxR := if r.2.2 = 0 then (l ++ r.1, 0, 0) else r
theorem lexGo_skip {s : ByteArray} {i k : Nat} (h : skip s i = skip s k) : lexGo s i = lexGo s k := by
  rw [lexGo.eq_1 s i, lexGo.eq_1 s k, h]
theorem lexGo_end {s : ByteArray} {i : Nat} (h : ¬ skip s i < s.size) : lexGo s i = ([], 0, 0) := by
  rw [lexGo, dif_neg h]
theorem lexGo_bad {s : ByteArray} {i : Nat} (h : skip s i = i) (hi : i < s.size) (he : (tokAt s i).2.2 ≠ 0) : lexGo s i = ([], (i : Int), (tokAt s i).2.2) := by
  rw [lexGo, dif_pos (by rw [h]; exact hi), dif_neg (by rw [h]; exact he), h]
theorem lexGo_tok {s : ByteArray} {i : Nat} (h : skip s i = i) (hi : i < s.size) (he : (tokAt s i).2.2 = 0) : lexGo s i = goOn [(tokAt s i).1] (lexGo s (tokAt s i).2.1) := by
  rw [lexGo, dif_pos (by rw [h]; exact hi), dif_pos (by rw [h]; exact he), h]
  unfold goOn
  dsimp only
  split <;> rfl
theorem goOn_nil {s : ByteArray} {i : Nat} : goOn [] (lexGo s i) = lexGo s i := by
  unfold goOn
  split
  · rename_i h
    have : ∀ n i, s.size - i = n → (lexGo s i).2.2 = 0 → (lexGo s i).2.1 = 0 := by
      intro n
      induction n using Nat.strongRecOn with
      | _ n ih =>
        intro i hn h
        rw [lexGo] at h ⊢
        split at h
        · rename_i h1
          split at h
          · rename_i h2
            rw [dif_pos h1, dif_pos h2]
            dsimp only at h ⊢
            split at h
            · rename_i h3; rw [if_pos h3]
            · rename_i h3; exact absurd h h3
          · rename_i h2; exact absurd h h2
        · rename_i h1; rw [dif_neg h1]
    have h1 := this _ i rfl h
    rw [List.nil_append]
    exact Prod.ext rfl (Prod.ext h1.symm h.symm)
  · rfl
theorem goOn_goOn (l m : List Tk) (r : LxR) : goOn l (goOn m r) = goOn (l ++ m) r := by
  unfold goOn
  by_cases h : r.2.2 = 0
  · simp [h]
  · simp [h]
def tkCells (l : List Tk) : List C := l.flatMap fun t => [vI t.1, vS t.2.1, vI t.2.2]
theorem tkCells_snoc (l : List Tk) (t : Tk) : tkCells (l ++ [t]) = tkCells l ++ [vI t.1, vS t.2.1, vI t.2.2] := by simp [tkCells]
def lxN (s : ByteArray) : Nat := (lexGo s 0).1.length
def lxC (s : ByteArray) : List C := tkCells (lexGo s 0).1
def lxA (s : ByteArray) : Int := (lexGo s 0).2.1
def lxE (s : ByteArray) : Int := (lexGo s 0).2.2
def LxI (s : ByteArray) (n : Nat) (cs : List C) (i : Int) : Prop := ∃ l : List Tk, n = l.length ∧ cs = tkCells l ∧ 0 ≤ i ∧ i ≤ s.size ∧ (l.length : Int) ≤ i ∧ lexGo s 0 = goOn l (lexGo s i.toNat)
theorem LxI.start (s : ByteArray) : LxI s 0 [] 0 := ⟨[], rfl, rfl, by omega, by omega, by simp, goOn_nil.symm⟩
theorem LxI.hop {s : ByteArray} {n : Nat} {cs : List C} {i k : Int} (h : LxI s n cs i) (hk : i ≤ k) (hk2 : k ≤ s.size) (hs : skipI s k = skipI s i) : LxI s n cs k := by
  obtain ⟨l, h1, h2, h3, h4, h5, h6⟩ := h
  refine ⟨l, h1, h2, by omega, hk2, by omega, ?_⟩
  rw [h6, lexGo_skip (i := k.toNat) (k := i.toNat)]
  unfold skipI at hs; omega
theorem LxI.tok {s : ByteArray} {n : Nat} {cs : List C} {i : Int} (h : LxI s n cs i) (hi : i < s.size) (hs : skipI s i = i) (he : tkE s i = 0) : LxI s (n + 1) (cs ++ [vI (tkK s i), vS (tkT s i), vI (tkW s i)]) (tkN s i) ∧ i < tkN s i ∧ tkN s i ≤ s.size := by
  obtain ⟨l, h1, h2, h3, h4, h5, h6⟩ := h
  have hsk : skip s i.toNat = i.toNat := by unfold skipI at hs; omega
  have he' : (tokAt s i.toNat).2.2 = 0 := he
  have h7 := tokAt_end (s := s) (i := i.toNat) (by omega) he'
  have hn : tkN s i = ((tokAt s i.toNat).2.1 : Nat) := rfl
  refine ⟨⟨l ++ [(tokAt s i.toNat).1], by simp [h1], by rw [tkCells_snoc, h2]; rfl, by omega, by omega, by simp; omega, ?_⟩, by omega, by omega⟩
  rw [h6, lexGo_tok hsk (by omega) he', goOn_goOn, hn, Int.toNat_natCast]
theorem LxI.bad {s : ByteArray} {n : Nat} {cs : List C} {i : Int} (h : LxI s n cs i) (hi : i < s.size) (hs : skipI s i = i) (he : ¬ tkE s i = 0) : lxN s = 0 ∧ lxC s = [] ∧ lxA s = i ∧ lxE s = tkE s i := by
  obtain ⟨l, h1, h2, h3, h4, h5, h6⟩ := h
  have hsk : skip s i.toNat = i.toNat := by unfold skipI at hs; omega
  have h7 := lexGo_bad hsk (by omega) he
  have h8 : lexGo s 0 = ([], (i.toNat : Int), (tokAt s i.toNat).2.2) := by rw [h6, h7]; exact if_neg he
  refine ⟨?_, ?_, ?_, ?_⟩
  · unfold lxN; rw [h8]; rfl
  · unfold lxC; rw [h8]; rfl
  · unfold lxA; rw [h8]; show (i.toNat : Int) = i; omega
  · unfold lxE; rw [h8]; rfl
theorem LxI.done {s : ByteArray} {n : Nat} {cs : List C} {i : Int} (h : LxI s n cs i) (hi : ¬ i < s.size) : lxN s = n ∧ lxC s = cs ∧ lxA s = 0 ∧ lxE s = 0 := by
  obtain ⟨l, h1, h2, h3, h4, h5, h6⟩ := h
  have h7 := lexGo_end (s := s) (i := i.toNat) (by have := skip_ge s i.toNat; omega)
  have h8 : lexGo s 0 = (l, 0, 0) := by rw [h6, h7]; simp [goOn]
  refine ⟨?_, ?_, ?_, ?_⟩
  · unfold lxN; rw [h8, h1]
  · unfold lxC; rw [h8, h2]
  · unfold lxA; rw [h8]
  · unfold lxE; rw [h8]
end Go.Proofs.Ytljnfejcdadjpaa.A
/- Rules as they are written: the reader. -/
set_option linter.unusedSimpArgs false
set_option linter.unusedVariables false
set_option maxRecDepth 100000
set_option maxHeartbeats 4000000
namespace Go.Proofs.Ytljnfejcdadjpaa.A
open Go
abbrev It := Bool × ByteArray
abbrev Ln := ByteArray × List (List It)
def itC (l : List It) : List C := l.flatMap fun x => [vB x.1, vS x.2]
def nslC (n : Nat) (cs : List C) : C := if n = 0 then .nil else .sl n cs
def alC (l : List (List It)) : List C := l.map fun a => nslC a.length (itC a)
def lnC (l : List Ln) : List C := l.flatMap fun x => [vS x.1, nslC x.2.length (alC x.2)]
def itsGo : List C → List It
  | a :: b :: r => (gb a, gs b) :: itsGo r
  | _ => []
def alsGo (cs : List C) : List (List It) := cs.map fun c => itsGo (gc c)
def lnsGo : List C → List Ln
  | a :: b :: r => (gs a, alsGo (gc b)) :: lnsGo r
  | _ => []
def lnsOf (cs : List C) : List Ln := lnsGo cs
theorem gn_nsl (n : Nat) (cs : List C) : gn (nslC n cs) = n := by unfold nslC; split <;> simp_all [gn]
theorem gc_nsl {n : Nat} {cs : List C} (h : cs.length = 0 ∨ 0 < n) : gc (nslC n cs) = cs := by
  unfold nslC; split
  · have : cs.length = 0 := by omega
    rw [List.eq_nil_of_length_eq_zero this]; rfl
  · rfl
theorem ok_nsl (n : Nat) (cs : List C) : okK .sl (nslC n cs) := by unfold nslC; split; exact .inl rfl; exact .inr ⟨_, _, rfl⟩
theorem itC_len (l : List It) : (itC l).length = l.length * 2 := by unfold itC; induction l with | nil => rfl | cons x l ih => simp at ih ⊢; omega
theorem alC_len (l : List (List It)) : (alC l).length = l.length := by unfold alC; simp
theorem lnC_len (l : List Ln) : (lnC l).length = l.length * 2 := by unfold lnC; induction l with | nil => rfl | cons x l ih => simp at ih ⊢; omega
theorem gc_it (l : List It) : gc (nslC l.length (itC l)) = itC l := gc_nsl (by rw [itC_len]; omega)
theorem gc_al (l : List (List It)) : gc (nslC l.length (alC l)) = alC l := gc_nsl (by rw [alC_len]; omega)
theorem itsGo_itC (l : List It) : itsGo (itC l) = l := by
  unfold itC
  induction l with
  | nil => rfl
  | cons x l ih => show (_, _) :: itsGo (l.flatMap _) = _; rw [ih]; rfl
theorem alsGo_alC (l : List (List It)) : alsGo (alC l) = l := by
  unfold alsGo alC
  rw [List.map_map]
  conv => rhs; rw [← List.map_id l]
  refine List.map_congr_left fun a _ => ?_
  show itsGo (gc (nslC a.length (itC a))) = a
  rw [gc_it, itsGo_itC]
theorem lnsOf_lnC (l : List Ln) : lnsOf (lnC l) = l := by
  unfold lnsOf lnC
  induction l with
  | nil => rfl
  | cons x l ih =>
    show (gs (vS x.1), alsGo (gc (nslC x.2.length (alC x.2)))) :: lnsGo (l.flatMap _) = _
    rw [ih, gc_al, alsGo_alC]; rfl
theorem itC_snoc (l : List It) (b : Bool) (s : ByteArray) : itC l ++ [vB b, vS s] = itC (l ++ [(b, s)]) := by simp [itC]
theorem alC_snoc (l : List (List It)) (a : List It) : alC l ++ [nslC a.length (itC a)] = alC (l ++ [a]) := by simp [alC]
theorem lnC_snoc (l : List Ln) (x : Ln) : lnC l ++ [vS x.1, nslC x.2.length (alC x.2)] = lnC (l ++ [x]) := by simp [lnC]
theorem lnC_name (l : List Ln) (s : ByteArray) : lnC l ++ [vS s, .nil] = lnC (l ++ [(s, [])]) := lnC_snoc l (s, [])
theorem at_snoc1 (l : List C) (a b : C) {k : Nat} (h : k = l.length + 1) : cellAt (l ++ [a, b]) k = b := by subst h; simp [cellAt, List.getD_eq_getElem?_getD]
theorem at_snoc0 (l : List C) (a : C) {k : Nat} (h : k = l.length) : cellAt (l ++ [a]) k = a := by subst h; simp [cellAt, List.getD_eq_getElem?_getD]
theorem set_snoc1 (l : List C) (a b c : C) {k : Nat} (h : k = l.length + 1) : setC (l ++ [a, b]) k [c] = l ++ [a, c] := by
  subst h; unfold setC
  rw [List.take_append, List.drop_append, List.take_of_length_le (by omega), List.drop_eq_nil_of_le (by simp only [List.length_cons, List.length_nil]; omega), show l.length + 1 - l.length = 1 by omega, show l.length + 1 + [c].length - l.length = 2 by simp only [List.length_cons, List.length_nil]; omega]
  simp
theorem set_snoc0 (l : List C) (a c : C) {k : Nat} (h : k = l.length) : setC (l ++ [a]) k [c] = l ++ [c] := by
  subst h; unfold setC; simp
abbrev shI : Sh := .sl 67 [.st, .st]
abbrev shA : Sh := .sl 45 [shI]
abbrev shL : Sh := .sl 44 [.st, shA]
theorem setC_oneP {cs : List C} {k : Nat} (h : k < cs.length) (c : C) : setC cs k [c] = cs.set k c := by
  unfold setC
  rw [List.set_eq_take_append_cons_drop, if_pos h]; simp
theorem setC_twice {cs : List C} {k : Nat} (h : k < cs.length) (a b : C) : setC (setC cs k [a]) k [b] = setC cs k [b] := by
  rw [setC_oneP h, setC_oneP (by simpa using h), setC_oneP h, List.set_set]
theorem setC_len1 {cs : List C} {k : Nat} (h : k < cs.length) (a : C) : (setC cs k [a]).length = cs.length := by rw [setC_oneP h, List.length_set]
theorem cellAt_setC {cs : List C} {k : Nat} (h : k < cs.length) (a : C) : cellAt (setC cs k [a]) k = a := by
  rw [setC_oneP h]; simp [cellAt, List.getD_eq_getElem?_getD, h]
theorem subN {n : Nat} (h0 : 0 < n) (hn : n ≤ 1000000) : arithI .sub .i64 (n : Int) 1 = ((n - 1 : Nat) : Int) := by rw [sub64 (by omega) (by omega)]; omega
theorem pc_name (n : Nat) (cs : List C) (f : Option FuncId) (o : Bool) (k a : Int) (s : ByteArray) (hn : n ≤ 1000000) :
    PC Try.prog T 32 [.root (.box [.tree shL (.sl n cs) none, .me f, .st (vB o)]), .v true [vI k, vS s, vI a]] (ret1 (.st (vB (decide (k = 1))))) [.box [.tree shL (.sl (n + 1) (cs ++ [vS s, .nil])) none, .me (some 38), .st (vB true)], .none] := by
  refine pc_of tok Try.func32 rfl (by rfl) ?_
  obtain ⟨j, hj⟩ : ∃ j : J, j = std Try.prog T := ⟨_, rfl⟩
  have hm : Try.prog.follows .mixedOrders = true := by kernel_rfl
  (repeat' first | (refine ⟨.inr rfl, ret_oku hj (by cbv) (by cbv) rfl ?_ ?_ (upd_of ?_)⟩) | (refine ⟨.inl rfl, ret_oku hj (by cbv) (by cbv) rfl ?_ ?_ (upd_of ?_)⟩) | ((first | with_reducible refine tr_cut (fun h => ?_) (fun h => ?_) | refine aw_condj (by cbv) (fun h => ?_) (fun h => ?_)) <;> (try simp (disch := omega) only [hj, std, cmpI, cmpB, satB, Bool.not_eq_true, Bool.not_eq_false, decide_eq_true_eq, decide_eq_false_iff_not, beq_iff_eq, bne_iff_ne, bne_eq_false_iff_eq, beq_eq_false_iff_ne, ne_eq, reduceCtorEq, not_true_eq_false, not_false_eq_true, pl0, if_true, cmpS_eq, cmpS_neq, Bool.not_eq_eq_eq_not, Bool.not_true, Bool.not_false, Bool.not_eq_true', add64, sub64] at h) <;> (try (exfalso; omega))) | (with_reducible refine tr_alt (fun h => ?_) ?_ <;> (try (exfalso; omega))) | (with_reducible refine tr_ob ?_ ?_) | (with_reducible refine tr_done ?_) | (with_reducible refine dr_go (by cbv) ?_) | (refine aw_dw1 (id := 1) hj tok hm book0 [(0, false), (1, false), (2, false), (3, false), (4, false), (5, true), (6, true), (7, true), (8, true)] [(9, true), (10, true), (11, true), (12, true)] [1, 2, 3, 4] (by kernel_rfl) (by cbv) ?_) | (refine aw_dw (id := 1) hj tok hm book0 [(0, false), (1, false), (2, false), (3, false), (4, false), (5, true), (6, true), (7, true), (8, true)] [(9, true), (10, true), (11, true), (12, true)] [1, 2, 3, 4] (by kernel_rfl) (by cbv) ?_) | (refine aw_tr hj tok book0 (by cbv) ?_) | (refine aw_seq fun K hK => ?_) | (refine aw_tr1 hj tok book0 (by cbv) ?_) | (refine aw_skip ?_) | (refine aw_block ?_) | (refine aw_exit ?_) | (refine aw_ret ⟨.inr rfl, ret_okj hj (by cbv) ?_ ?_⟩) | (refine aw_ret ?_) | (with_reducible refine th_n ?_) | (with_reducible refine th_r ?_) | (with_reducible refine th_x ?_) | (with_reducible refine blk_n ?_) | (with_reducible refine blk_r ?_) | (with_reducible refine blk_x ?_) | (with_reducible refine blk_y rfl ?_) | (refine ⟨.inr rfl, ret_okj hj (by cbv) ?_ ?_⟩) | (refine ⟨.inl rfl, ret_okj hj (by cbv) ?_ ?_⟩) | ((with_reducible refine ⟨(_, _, _, _, _, _, _), by cbv, ?_, ?_⟩)) | ((with_reducible refine ⟨(_, _, _, _, _, _), by cbv, ?_, ?_⟩)) | ((with_reducible refine ⟨(_, _, _, _, _), by cbv, ?_, ?_⟩)) | ((with_reducible refine ⟨(_, _, _, _), by cbv, ?_, ?_⟩)) | ((with_reducible refine ⟨(_, _, _), by cbv, ?_, ?_⟩)) | ((with_reducible refine ⟨(_, _), by cbv, ?_, ?_⟩)) | ((with_reducible refine ⟨_, by cbv, ?_, ?_⟩)) | (with_reducible apply_assumption -symm -exfalso only [*]))
  all_goals (try (repeat' first | with_reducible exact obl0 | with_reducible refine obl1 ?_ ?_))
  all_goals (try first | with_reducible exact True.intro | ((first | refine ob_le hj ?_ | refine ob_lei hj ?_ | refine ob_inb hj ?_ | refine ob_pos hj ?_ | refine ob_ne0 hj ?_ | refine ob_eqb hj ?_); (first | rfl | first | omega | (simp only [hj, std]; split <;> omega) | (simp (disch := omega) only [hj, std, cmpI, cmpB, satB, add64, sub64, ite0, pl0, pl2, pl3, sb0, if_true, if_false, eq_self] <;> omega) | (simp (disch := omega) [hj, std, cmpI, cmpB, satB, add64, sub64, ite0, pl0, pl2, pl3, sb0, if_true, if_false, eq_self] <;> omega))) | ((refine r1b ?_; rw [hj]; rfl)) | ((refine upd_box ?_ (upd_none (upd_nil _)); rw [hj]; simp only [std, ite0]; rfl)))
theorem pc_alt (n : Nat) (cs : List C) (f : Option FuncId) (o : Bool) (X : C) (h0 : 0 < n) (hn : n ≤ 1000000) (hl : cs.length = 2 * n) (hX : cellAt cs ((n - 1) * 2 + 1) = X) (hc : okK .sl X) (hb : gn X ≤ 1000000) :
    PC Try.prog T 40 [.root (.box [.tree shL (.sl n cs) none, .me f, .st (vB o)])] ⟨true, []⟩ [.box [.tree shL (.sl n (setC cs ((n - 1) * 2 + 1) [.sl (gn X + 1) (gc X ++ [.nil])])) none, .me f, .st (vB o)]] := by
  have hk : (n - 1) * 2 + 1 < cs.length := by omega
  have e1 := subN h0 hn
  refine pc_of tok Try.func40 rfl (by rfl) ?_
  obtain ⟨j, hj⟩ : ∃ j : J, j = std Try.prog T := ⟨_, rfl⟩
  have hm : Try.prog.follows .mixedOrders = true := by kernel_rfl
  (repeat' first | (refine ⟨.inr rfl, ret_oku hj (by cbv) (by cbv) rfl ?_ ?_ (upd_of ?_)⟩) | (refine ⟨.inl rfl, ret_oku hj (by cbv) (by cbv) rfl ?_ ?_ (upd_of ?_)⟩) | ((first | with_reducible refine tr_cut (fun h => ?_) (fun h => ?_) | refine aw_condj (by cbv) (fun h => ?_) (fun h => ?_)) <;> (try simp (disch := omega) only [hj, std, cmpI, cmpB, satB, Bool.not_eq_true, Bool.not_eq_false, decide_eq_true_eq, decide_eq_false_iff_not, beq_iff_eq, bne_iff_ne, bne_eq_false_iff_eq, beq_eq_false_iff_ne, ne_eq, reduceCtorEq, not_true_eq_false, not_false_eq_true, pl0, if_true, cmpS_eq, cmpS_neq, Bool.not_eq_eq_eq_not, Bool.not_true, Bool.not_false, Bool.not_eq_true', add64, sub64] at h) <;> (try (exfalso; omega))) | (with_reducible refine tr_alt (fun h => ?_) ?_ <;> (try (exfalso; omega))) | (with_reducible refine tr_ob ?_ ?_) | (with_reducible refine tr_done ?_) | (refine aw_dr1 (id := 0) hj tok hm book0 true [(0, false), (1, false), (2, false), (3, false), (4, true), (5, true), (6, true), (7, true), (8, true), (9, true), (10, true), (11, true)] (by kernel_rfl) (by cbv) ?_) | (refine aw_dr (id := 0) hj tok hm book0 true [(0, false), (1, false), (2, false), (3, false), (4, true), (5, true), (6, true), (7, true), (8, true), (9, true), (10, true), (11, true)] (by kernel_rfl) (by cbv) ?_) | (refine aw_tr hj tok book0 (by cbv) ?_) | (refine aw_seq fun K hK => ?_) | (refine aw_tr1 hj tok book0 (by cbv) ?_) | (refine aw_skip ?_) | (refine aw_block ?_) | (refine aw_exit ?_) | (refine aw_ret ⟨.inr rfl, ret_okj hj (by cbv) ?_ ?_⟩) | (refine aw_ret ?_) | (with_reducible refine th_n ?_) | (with_reducible refine th_r ?_) | (with_reducible refine th_x ?_) | (with_reducible refine blk_n ?_) | (with_reducible refine blk_r ?_) | (with_reducible refine blk_x ?_) | (with_reducible refine blk_y rfl ?_) | (refine ⟨.inr rfl, ret_okj hj (by cbv) ?_ ?_⟩) | (refine ⟨.inl rfl, ret_okj hj (by cbv) ?_ ?_⟩) | ((with_reducible refine ⟨(_, _, _, _, _, _, _), by cbv, ?_, ?_⟩)) | ((with_reducible refine ⟨(_, _, _, _, _, _), by cbv, ?_, ?_⟩)) | ((with_reducible refine ⟨(_, _, _, _, _), by cbv, ?_, ?_⟩)) | ((with_reducible refine ⟨(_, _, _, _), by cbv, ?_, ?_⟩)) | ((with_reducible refine ⟨(_, _, _), by cbv, ?_, ?_⟩)) | ((with_reducible refine ⟨(_, _), by cbv, ?_, ?_⟩)) | ((with_reducible refine ⟨_, by cbv, ?_, ?_⟩)) | (with_reducible apply_assumption -symm -exfalso only [*]))
  all_goals (try (repeat' first | with_reducible exact obl0 | with_reducible refine obl1 ?_ ?_))
  all_goals (try (rw [hj]; simp only [std, e1, Int.toNat_natCast, ite0, hX]))
  all_goals (rcases hc with rfl | ⟨m, ds, rfl⟩)
  all_goals (simp only [gn] at hb)
  all_goals (first | exact rfl | exact .inl rfl | exact .inr ⟨_, _, rfl⟩ | exact ⟨by omega, by omega⟩ | (simp only [setC_twice hk]; refine upd_box ?_ (upd_nil _); rfl) | (simp only [setC_len1 hk]; omega) | omega | (dsimp only; omega))
end Go.Proofs.Ytljnfejcdadjpaa.A
/- Rules as they are written: the reader's items; the fold over the tokens. -/
set_option linter.unusedSimpArgs false
set_option linter.unusedVariables false
set_option maxRecDepth 100000
set_option maxHeartbeats 4000000
namespace Go.Proofs.Ytljnfejcdadjpaa.A
open Go
def lastL (L : List Ln) : Ln := L.getLastD (ByteArray.empty, [])
def addAlt (L : List Ln) : List Ln := L.dropLast ++ [((lastL L).1, (lastL L).2 ++ [[]])]
def addIt (L : List Ln) (b : Bool) (s : ByteArray) : List Ln := L.dropLast ++ [((lastL L).1, (lastL L).2.dropLast ++ [(lastL L).2.getLastD [] ++ [(b, s)]])]
theorem addAlt_snoc (L : List Ln) (nm : ByteArray) (A : List (List It)) : addAlt (L ++ [(nm, A)]) = L ++ [(nm, A ++ [[]])] := by simp [addAlt, lastL]
theorem addIt_snoc (L : List Ln) (nm : ByteArray) (A : List (List It)) (a : List It) (b : Bool) (s : ByteArray) : addIt (L ++ [(nm, A ++ [a])]) b s = L ++ [(nm, A ++ [a ++ [(b, s)]])] := by simp [addIt, lastL]
def itmC (cs : List C) (k : Int) (s : ByteArray) : List C := if k = 1 ∨ k = 2 then lnC (addIt (lnsOf cs) (decide (k = 2)) s) else if k = 4 then lnC (addAlt (lnsOf cs)) else cs
def altC (cs : List C) : List C := lnC (addAlt (lnsOf cs))
def itmF (k : Int) : Option FuncId := some (if k = 5 then 32 else 41)
def itmO (k : Int) (o : Bool) : Bool := decide (k ≠ 5) && o
def itmB (k : Int) : Bool := decide (1 ≤ k ∧ k ≤ 5 ∧ k ≠ 3)
theorem cells_alt (L : List Ln) (nm : ByteArray) (A : List (List It)) : setC (lnC (L ++ [(nm, A)])) (((L ++ [(nm, A)]).length - 1) * 2 + 1) [.sl (gn (nslC A.length (alC A)) + 1) (gc (nslC A.length (alC A)) ++ [.nil])] = lnC (L ++ [(nm, A ++ [[]])]) := by
  rw [← lnC_snoc, ← lnC_snoc, set_snoc1 _ _ _ _ (by rw [lnC_len]; simp), gn_nsl, gc_al, show C.nil = nslC ([] : List It).length (itC []) from rfl, alC_snoc]
  simp [nslC]
theorem cells_it (L : List Ln) (nm : ByteArray) (A : List (List It)) (a : List It) (b : Bool) (s : ByteArray) :
    setC (lnC (L ++ [(nm, A ++ [a])])) (((L ++ [(nm, A ++ [a])]).length - 1) * 2 + 1) [.sl (A ++ [a]).length (setC (alC (A ++ [a])) ((A ++ [a]).length - 1) [.sl (gn (nslC a.length (itC a)) + 1) (gc (nslC a.length (itC a)) ++ [vB b, vS s])])] = lnC (L ++ [(nm, A ++ [a ++ [(b, s)]])]) := by
  rw [← lnC_snoc, ← lnC_snoc, set_snoc1 _ _ _ _ (by rw [lnC_len]; simp), gn_nsl, gc_it, itC_snoc, ← alC_snoc A a, set_snoc0 _ _ _ (by rw [alC_len]; simp), ← alC_snoc A (a ++ [(b, s)])]
  simp [nslC]
theorem at_last (L : List Ln) (nm : ByteArray) (A : List (List It)) : cellAt (lnC (L ++ [(nm, A)])) (((L ++ [(nm, A)]).length - 1) * 2 + 1) = nslC A.length (alC A) := by
  rw [← lnC_snoc, at_snoc1 _ _ _ (by rw [lnC_len]; simp)]
theorem at_lastA (A : List (List It)) (a : List It) : cellAt (alC (A ++ [a])) ((A ++ [a]).length - 1) = nslC a.length (itC a) := by
  rw [← alC_snoc, at_snoc0 _ _ (by rw [alC_len]; simp)]
def bookP1 (x_altC : List C → List C) : Book := fun f xs => match f, xs with
  | 40, [.root (.box [.tree _ (.sl n cs) _, .me f, .st (.val (.bool o))])] => some (⟨true, []⟩, [.box [.tree shL (.sl n (x_altC cs)) none, .me f, .st (vB o)]])
  | _, _ => none
theorem c_alt {L : List Ln} {nm : ByteArray} {A : List (List It)} {n : Nat} {cs : List C} {f : Option FuncId} {o : Bool} (hn : n = (L ++ [(nm, A)]).length) (hcs : cs = lnC (L ++ [(nm, A)])) (h1 : n ≤ 1000000) (h2 : A.length ≤ 1000000) :
    (std Try.prog T).pc 40 [.root (.box [.tree shL (.sl n cs) none, .me f, .st (vB o)])] ⟨true, []⟩ [.box [.tree shL (.sl n (altC cs)) none, .me f, .st (vB o)]] := by
  have h := pc_alt n cs f o (nslC A.length (alC A)) (by rw [hn]; simp) h1 (by rw [hcs, hn, lnC_len]; omega) (by rw [hcs, hn, at_last]) (ok_nsl _ _) (by rw [gn_nsl]; exact h2)
  have e : altC cs = setC cs ((n - 1) * 2 + 1) [.sl (gn (nslC A.length (alC A)) + 1) (gc (nslC A.length (alC A)) ++ [.nil])] := by
    rw [hcs, hn, cells_alt]; unfold altC; rw [lnsOf_lnC, addAlt_snoc]
  rw [e]
  exact ⟨enters Try.func40 (by kernel_rfl) (by kernel_rfl), h⟩
theorem pc_colon (L : List Ln) (nm : ByteArray) (A : List (List It)) (f : Option FuncId) (o : Bool) (k a : Int) (s : ByteArray) (h1 : (L ++ [(nm, A)]).length ≤ 1000000) (h2 : A.length ≤ 1000000) :
    PC Try.prog T 38 [.root (.box [.tree shL (.sl (L ++ [(nm, A)]).length (lnC (L ++ [(nm, A)]))) none, .me f, .st (vB o)]), .v true [vI k, vS s, vI a]] (ret1 (.st (vB (decide (k = 3))))) [.box [.tree shL (.sl (L ++ [(nm, A)]).length (altC (lnC (L ++ [(nm, A)])))) none, .me (some 41), .st (vB o)], .none] := by
  generalize hn : (L ++ [(nm, A)]).length = n at *
  generalize hc : lnC (L ++ [(nm, A)]) = cs at *
  refine pc_of tok Try.func38 rfl (by rfl) ?_
  obtain ⟨j, hj⟩ : ∃ j : J, j = std Try.prog T := ⟨_, rfl⟩
  have hm : Try.prog.follows .mixedOrders = true := by kernel_rfl
  generalize y_altC : @altC = x_altC at *
  generalize y_lnC : @lnC = x_lnC at *
  (repeat' first | (refine ⟨.inr rfl, ret_oku hj (by cbv) (by cbv) rfl ?_ ?_ (upd_of ?_)⟩) | (refine ⟨.inl rfl, ret_oku hj (by cbv) (by cbv) rfl ?_ ?_ (upd_of ?_)⟩) | ((first | with_reducible refine tr_cut (fun h => ?_) (fun h => ?_) | refine aw_condj (by cbv) (fun h => ?_) (fun h => ?_)) <;> (try simp (disch := omega) only [hj, std, cmpI, cmpB, satB, Bool.not_eq_true, Bool.not_eq_false, decide_eq_true_eq, decide_eq_false_iff_not, beq_iff_eq, bne_iff_ne, bne_eq_false_iff_eq, beq_eq_false_iff_ne, ne_eq, reduceCtorEq, not_true_eq_false, not_false_eq_true, pl0, if_true, cmpS_eq, cmpS_neq, Bool.not_eq_eq_eq_not, Bool.not_true, Bool.not_false, Bool.not_eq_true', add64, sub64] at h) <;> (try (exfalso; omega))) | (with_reducible refine tr_alt (fun h => ?_) ?_ <;> (try (exfalso; omega))) | (with_reducible refine tr_ob ?_ ?_) | (with_reducible refine tr_done ?_) | (refine aw_tr hj tok (bookP1 x_altC) (by cbv) ?_) | (refine aw_seq fun K hK => ?_) | (refine aw_tr1 hj tok (bookP1 x_altC) (by cbv) ?_) | (refine aw_skip ?_) | (refine aw_block ?_) | (refine aw_exit ?_) | (refine aw_ret ⟨.inr rfl, ret_okj hj (by cbv) ?_ ?_⟩) | (refine aw_ret ?_) | (with_reducible refine th_n ?_) | (with_reducible refine th_r ?_) | (with_reducible refine th_x ?_) | (with_reducible refine blk_n ?_) | (with_reducible refine blk_r ?_) | (with_reducible refine blk_x ?_) | (with_reducible refine blk_y rfl ?_) | (refine ⟨.inr rfl, ret_okj hj (by cbv) ?_ ?_⟩) | (refine ⟨.inl rfl, ret_okj hj (by cbv) ?_ ?_⟩) | ((with_reducible refine ⟨(_, _, _, _, _, _, _), by cbv, ?_, ?_⟩)) | ((with_reducible refine ⟨(_, _, _, _, _, _), by cbv, ?_, ?_⟩)) | ((with_reducible refine ⟨(_, _, _, _, _), by cbv, ?_, ?_⟩)) | ((with_reducible refine ⟨(_, _, _, _), by cbv, ?_, ?_⟩)) | ((with_reducible refine ⟨(_, _, _), by cbv, ?_, ?_⟩)) | ((with_reducible refine ⟨(_, _), by cbv, ?_, ?_⟩)) | ((with_reducible refine ⟨_, by cbv, ?_, ?_⟩)) | (with_reducible apply_assumption -symm -exfalso only [*]))
  all_goals ((try subst y_altC); (try subst y_lnC))
  all_goals (try (repeat' first | with_reducible exact obl0 | with_reducible refine obl1 ?_ ?_))
  all_goals (try first | with_reducible exact True.intro | (refine ob_pc hj ?_; (try rw [hj]); first | exact c_alt (L := L) (nm := nm) (A := A) hn.symm hc.symm h1 h2) | (refine ob_pcn hj ?_; (try rw [hj]); first | exact c_alt (L := L) (nm := nm) (A := A) hn.symm hc.symm h1 h2) | ((first | refine ob_le hj ?_ | refine ob_lei hj ?_ | refine ob_inb hj ?_ | refine ob_pos hj ?_ | refine ob_ne0 hj ?_ | refine ob_eqb hj ?_); (first | rfl | first | omega | (simp only [hj, std]; split <;> omega) | (simp (disch := omega) only [hj, std, cmpI, cmpB, satB, add64, sub64, ite0, pl0, pl2, pl3, sb0, if_true, if_false, eq_self] <;> omega) | (simp (disch := omega) [hj, std, cmpI, cmpB, satB, add64, sub64, ite0, pl0, pl2, pl3, sb0, if_true, if_false, eq_self] <;> omega))) | ((refine r1b ?_; rw [hj]; rfl)) | ((refine upd_box ?_ (upd_none (upd_nil _)); rfl)))
end Go.Proofs.Ytljnfejcdadjpaa.A
/- Rules as they are written: an item. -/
set_option linter.unusedSimpArgs false
set_option linter.unusedVariables false
set_option maxRecDepth 100000
set_option maxHeartbeats 4000000
namespace Go.Proofs.Ytljnfejcdadjpaa.A
open Go
theorem itm1 {L : List Ln} {nm : ByteArray} {A : List (List It)} {a : List It} {k : Int} {s : ByteArray} (h : k = 1 ∨ k = 2) : itmC (lnC (L ++ [(nm, A ++ [a])])) k s = lnC (L ++ [(nm, A ++ [a ++ [(decide (k = 2), s)]])]) := by
  unfold itmC; rw [if_pos h, lnsOf_lnC, addIt_snoc]
theorem itm4 {L : List Ln} {nm : ByteArray} {A : List (List It)} {s : ByteArray} {k : Int} (h : k = 4) : itmC (lnC (L ++ [(nm, A)])) k s = altC (lnC (L ++ [(nm, A)])) := by
  unfold itmC altC; rw [if_neg (by omega), if_pos h]
theorem itm0 {cs : List C} {k : Int} {s : ByteArray} (h : ¬ (k = 1 ∨ k = 2)) (h4 : k ≠ 4) : itmC cs k s = cs := by
  unfold itmC; rw [if_neg h, if_neg h4]
theorem itmF5 {k : Int} (h : k = 5) : itmF k = some 32 := by unfold itmF; rw [if_pos h]
theorem itmFn {k : Int} (h : k ≠ 5) : itmF k = some 41 := by unfold itmF; rw [if_neg h]
theorem itmO5 {k : Int} {o : Bool} (h : k = 5) : itmO k o = false := by unfold itmO; simp [h]
theorem itmOn {k : Int} {o : Bool} (h : k ≠ 5) : itmO k o = o := by unfold itmO; simp [h]
theorem pc_item (L : List Ln) (nm : ByteArray) (A : List (List It)) (al : List It) (o : Bool) (k a : Int) (s : ByteArray) (h1 : (L ++ [(nm, A ++ [al])]).length ≤ 1000000) (h2 : (A ++ [al]).length ≤ 1000000) (h3 : al.length ≤ 1000000) :
    PC Try.prog T 41 [.root (.box [.tree shL (.sl (L ++ [(nm, A ++ [al])]).length (lnC (L ++ [(nm, A ++ [al])]))) none, .me (some 41), .st (vB o)]), .v true [vI k, vS s, vI a]] (ret1 (.st (vB (itmB k)))) [.box [.tree shL (.sl (L ++ [(nm, A ++ [al])]).length (itmC (lnC (L ++ [(nm, A ++ [al])])) k s)) none, .me (itmF k), .st (vB (itmO k o))], .none] := by
  have hX := at_last L nm (A ++ [al])
  have hY := at_lastA A al
  have hZ := fun b => cells_it L nm A al b s
  have hl : (lnC (L ++ [(nm, A ++ [al])])).length = 2 * (L ++ [(nm, A ++ [al])]).length := by rw [lnC_len]; omega
  have hl2 := alC_len (A ++ [al])
  have h0 : 0 < (L ++ [(nm, A ++ [al])]).length := by simp
  have h02 : 0 < (A ++ [al]).length := by simp
  have w1 : k = 1 ∨ k = 2 → _ := @itm1 L nm A al k s
  have w4 : k = 4 → _ := @itm4 L nm (A ++ [al]) s k
  have w0 := @itm0 (lnC (L ++ [(nm, A ++ [al])])) k s
  have hlA : (alC (A ++ [al])).length = (A ++ [al]).length := hl2
  have hca : _ → _ → _ → _ := fun hn hcs h1 => @c_alt L nm (A ++ [al]) (L ++ [(nm, A ++ [al])]).length (lnC (L ++ [(nm, A ++ [al])])) (some 41) o hn hcs h1 h2
  have hca := hca rfl rfl h1
  generalize hn : (L ++ [(nm, A ++ [al])]).length = n at *
  generalize hc : lnC (L ++ [(nm, A ++ [al])]) = cs at *
  have hk : (n - 1) * 2 + 1 < cs.length := by omega
  have e1 := subN h0 h1
  have e2 := subN h02 h2
  have q1 : nslC (A ++ [al]).length (alC (A ++ [al])) = .sl (A ++ [al]).length (alC (A ++ [al])) := by unfold nslC; rw [if_neg (by omega)]
  rw [q1] at hX
  have hYo := ok_nsl al.length (itC al)
  have hYn : gn (nslC al.length (itC al)) ≤ 1000000 := by rw [gn_nsl]; exact h3
  generalize nslC al.length (itC al) = Y at *
  generalize hm : (A ++ [al]).length = m at *
  generalize hd : alC (A ++ [al]) = ds at *
  have hkm : m - 1 < ds.length := by omega
  refine pc_of tok Try.func41 rfl (by rfl) ?_
  obtain ⟨j, hj⟩ : ∃ j : J, j = std Try.prog T := ⟨_, rfl⟩
  have hm : Try.prog.follows .mixedOrders = true := by kernel_rfl
  generalize y_altC : @altC = x_altC at *
  generalize y_itC : @itC = x_itC at *
  generalize y_alC : @alC = x_alC at *
  generalize y_lnC : @lnC = x_lnC at *
  generalize y_itmC : @itmC = x_itmC at *
  generalize y_itmF : @itmF = x_itmF at *
  generalize y_itmO : @itmO = x_itmO at *
  generalize y_itmB : @itmB = x_itmB at *
  (repeat' first | (refine ⟨.inr rfl, ret_oku hj (by cbv) (by cbv) rfl ?_ ?_ (upd_of ?_)⟩) | (refine ⟨.inl rfl, ret_oku hj (by cbv) (by cbv) rfl ?_ ?_ (upd_of ?_)⟩) | ((first | with_reducible refine tr_cut (fun h => ?_) (fun h => ?_) | refine aw_condj (by cbv) (fun h => ?_) (fun h => ?_)) <;> (try simp (disch := omega) only [hj, std, cmpI, cmpB, satB, Bool.not_eq_true, Bool.not_eq_false, decide_eq_true_eq, decide_eq_false_iff_not, beq_iff_eq, bne_iff_ne, bne_eq_false_iff_eq, beq_eq_false_iff_ne, ne_eq, reduceCtorEq, not_true_eq_false, not_false_eq_true, pl0, if_true, cmpS_eq, cmpS_neq, Bool.not_eq_eq_eq_not, Bool.not_true, Bool.not_false, Bool.not_eq_true', add64, sub64] at h) <;> (try (exfalso; omega))) | (with_reducible refine tr_alt (fun h => ?_) ?_ <;> (try (exfalso; omega))) | (with_reducible refine tr_ob ?_ ?_) | (with_reducible refine tr_done ?_) | (with_reducible refine dr_go (by cbv) ?_) | (refine aw_dw1 (id := 7) hj tok hm (bookP1 x_altC) [(0, false), (1, false), (2, false), (3, false), (4, false), (5, false), (6, false), (7, true), (8, true), (9, true), (10, true)] [(11, true), (12, true), (13, true)] [1, 2, 3, 4, 5, 6] (by kernel_rfl) (by cbv) ?_) | (refine aw_dw (id := 7) hj tok hm (bookP1 x_altC) [(0, false), (1, false), (2, false), (3, false), (4, false), (5, false), (6, false), (7, true), (8, true), (9, true), (10, true)] [(11, true), (12, true), (13, true)] [1, 2, 3, 4, 5, 6] (by kernel_rfl) (by cbv) ?_) | (refine aw_dr1 (id := 2) hj tok hm (bookP1 x_altC) true [(0, false), (1, false), (2, false), (3, false), (4, true), (5, true), (6, true), (7, true), (8, true), (9, true), (10, true), (11, true)] (by kernel_rfl) (by cbv) ?_) | (refine aw_dr (id := 2) hj tok hm (bookP1 x_altC) true [(0, false), (1, false), (2, false), (3, false), (4, true), (5, true), (6, true), (7, true), (8, true), (9, true), (10, true), (11, true)] (by kernel_rfl) (by cbv) ?_) | (refine aw_dr1 (id := 1) hj tok hm (bookP1 x_altC) true [(0, false), (1, false), (2, false), (3, false), (4, true), (5, true), (6, true), (7, true), (8, true), (9, true), (10, true), (11, true)] (by kernel_rfl) (by cbv) ?_) | (refine aw_dr (id := 1) hj tok hm (bookP1 x_altC) true [(0, false), (1, false), (2, false), (3, false), (4, true), (5, true), (6, true), (7, true), (8, true), (9, true), (10, true), (11, true)] (by kernel_rfl) (by cbv) ?_) | (refine aw_tr hj tok (bookP1 x_altC) (by cbv) ?_) | (refine aw_seq fun K hK => ?_) | (refine aw_tr1 hj tok (bookP1 x_altC) (by cbv) ?_) | (refine aw_skip ?_) | (refine aw_block ?_) | (refine aw_exit ?_) | (refine aw_ret ⟨.inr rfl, ret_okj hj (by cbv) ?_ ?_⟩) | (refine aw_ret ?_) | (with_reducible refine th_n ?_) | (with_reducible refine th_r ?_) | (with_reducible refine th_x ?_) | (with_reducible refine blk_n ?_) | (with_reducible refine blk_r ?_) | (with_reducible refine blk_x ?_) | (with_reducible refine blk_y rfl ?_) | (refine ⟨.inr rfl, ret_okj hj (by cbv) ?_ ?_⟩) | (refine ⟨.inl rfl, ret_okj hj (by cbv) ?_ ?_⟩) | ((with_reducible refine ⟨(_, _, _, _, _, _, _), by cbv, ?_, ?_⟩)) | ((with_reducible refine ⟨(_, _, _, _, _, _), by cbv, ?_, ?_⟩)) | ((with_reducible refine ⟨(_, _, _, _, _), by cbv, ?_, ?_⟩)) | ((with_reducible refine ⟨(_, _, _, _), by cbv, ?_, ?_⟩)) | ((with_reducible refine ⟨(_, _, _), by cbv, ?_, ?_⟩)) | ((with_reducible refine ⟨(_, _), by cbv, ?_, ?_⟩)) | ((with_reducible refine ⟨_, by cbv, ?_, ?_⟩)) | (with_reducible apply_assumption -symm -exfalso only [*]))
  all_goals ((try subst y_altC); (try subst y_itC); (try subst y_alC); (try subst y_lnC); (try subst y_itmC); (try subst y_itmF); (try subst y_itmO); (try subst y_itmB))
  all_goals (try (repeat' first | with_reducible exact obl0 | with_reducible refine obl1 ?_ ?_))
  all_goals (try (rw [hj]; simp (disch := omega) only [std, e1, e2, Int.toNat_natCast, ite0, hX, hY, Nat.mul_one, setC_len1 hk, setC_len1 hkm, cellAt_setC hk, setC_twice hk, setC_twice hkm]))
  all_goals first
    | exact rfl
    | exact hca
    | omega
    | exact ⟨by omega, by omega⟩
    | exact .inr ⟨_, _, rfl⟩
    | exact hYo
    | (rcases hYo with rfl | ⟨u, us, rfl⟩ <;> (dsimp only; simp only [gn] at hYn; omega))
    | (refine r1b ?_; unfold itmB; simp only [decide_eq_true_eq, decide_eq_false_iff_not]; omega)
    | (rw [w1 (by omega), itmFn (by omega), itmOn (by omega), ← hZ]; refine upd_box ?_ (upd_none (upd_nil _)); rcases hYo with rfl | ⟨u, us, rfl⟩ <;> rfl)
    | (rw [w4 (by omega), itmFn (by omega), itmOn (by omega)]; exact upd_box rfl (upd_none (upd_nil _)))
    | (rw [w0 (by omega) (by omega), itmF5 (by omega), itmO5 (by omega)]; exact upd_box rfl (upd_none (upd_nil _)))
    | (rw [w0 (by omega) (by omega), itmFn (by omega), itmOn (by omega)]; exact upd_box rfl (upd_none (upd_nil _)))
end Go.Proofs.Ytljnfejcdadjpaa.A
/- Lexing: All of the reference. -/
set_option linter.unusedSimpArgs false
set_option linter.unusedVariables false
set_option maxRecDepth 100000
set_option maxHeartbeats 4000000
namespace Go.Proofs.Ytljnfejcdadjpaa.A
open Go
abbrev tokTy12 : TypeId := 32
def rAll (e : TypeId) (s : ByteArray) : RV := rets [(false, [.own e (lxN s) (lxC s)]), (false, [.st (vI (lxA s))]), (false, [.st (vI (lxE s))])]
theorem rAll_of {e : TypeId} {s : ByteArray} {n : Nat} {cs : List C} {a b : Int} (h : lxN s = n ∧ lxC s = cs ∧ lxA s = a ∧ lxE s = b) :
    rAll e s = ⟨true, [(false, [.own e n cs]), (false, [.st (.val (.int .i64 a))]), (false, [.st (.val (.int .i64 b))])]⟩ := by
  unfold rAll; rw [h.1, h.2.1, h.2.2.1, h.2.2.2]; rfl
theorem c_next {s : ByteArray} {i : Int} (hs : s.size < 4611686018427387904) (h0 : 0 ≤ i) (h1 : i < s.size) : pc 24 [.v false [vS s], .v false [vI i]] (rTok (tkK s i) (tkT s i) (tkW s i) (tkN s i) (tkE s i)) :=
  ⟨enters Try.func24 (by kernel_rfl) (by kernel_rfl), pc_next s i hs h0 h1⟩
def book4 (x_tkK : ByteArray → Int → Int) (x_tkT : ByteArray → Int → ByteArray) (x_tkW : ByteArray → Int → Int) (x_tkN : ByteArray → Int → Int) (x_tkE : ByteArray → Int → Int) : Book := fun f xs => match f, xs with
  | 24, [.v false [.val (.string s)], .v false [.val (.int .i64 i)]] => some (rTok (x_tkK s i) (x_tkT s i) (x_tkW s i) (x_tkN s i) (x_tkE s i))
  | _, _ => none
set_option maxHeartbeats 4000000 in
theorem pc_All12 (s : ByteArray) (hs : s.size ≤ 65536) : PC Try.prog T 11 [.v false [vS s]] (rAll tokTy12 s) [] := by
  refine pc_of tok Try.func11 rfl (by rfl) ?_
  obtain ⟨j, hj⟩ : ∃ j : J, j = std Try.prog T := ⟨_, rfl⟩
  generalize y_tkK : @tkK = x_tkK at *
  generalize y_tkT : @tkT = x_tkT at *
  generalize y_tkW : @tkW = x_tkW at *
  generalize y_tkN : @tkN = x_tkN at *
  generalize y_tkE : @tkE = x_tkE at *
  generalize y_spanI : @spanI = x_spanI at *
  generalize y_notNl : @notNl = x_notNl at *
  (repeat' first | (refine aw_ret ⟨.inr rfl, ret_oknil hj tokTy12 (by cbv) ?_ ?_⟩) | ((first | with_reducible refine tr_cut (fun h => ?_) (fun h => ?_) | refine aw_condj (by cbv) (fun h => ?_) (fun h => ?_)) <;> (try simp (disch := omega) only [hj, std, cmpI, cmpB, satB, Bool.not_eq_true, Bool.not_eq_false, decide_eq_true_eq, decide_eq_false_iff_not, beq_iff_eq, bne_iff_ne, bne_eq_false_iff_eq, beq_eq_false_iff_ne, ne_eq, reduceCtorEq, not_true_eq_false, not_false_eq_true, add64, sub64] at h) <;> (try (exfalso; omega))) | (with_reducible refine tr_alt (fun h => ?_) ?_ <;> (try (exfalso; omega))) | (with_reducible refine tr_ob ?_ ?_) | (with_reducible refine tr_done ?_) | (refine aw_tr hj tok (book4 x_tkK x_tkT x_tkW x_tkN x_tkE) (by cbv) ?_) | (refine aw_seq fun K hK => ?_) | (refine aw_tr1 hj tok (book4 x_tkK x_tkT x_tkW x_tkN x_tkE) (by cbv) ?_) | (refine aw_skip ?_) | (refine aw_block ?_) | (refine aw_exit ?_) | (refine aw_ret ⟨.inr rfl, ret_okj hj (by cbv) ?_ ?_⟩) | (refine aw_ret ?_) | (with_reducible refine th_n ?_) | (with_reducible refine th_r ?_) | (with_reducible refine th_x ?_) | (with_reducible refine blk_n ?_) | (with_reducible refine blk_r ?_) | (with_reducible refine blk_x ?_) | (with_reducible refine blk_y rfl ?_) | (refine ⟨.inr rfl, ret_okj hj (by cbv) ?_ ?_⟩) | (refine ⟨.inl rfl, ret_okj hj (by cbv) ?_ ?_⟩) | ((with_reducible refine ⟨(_, _, _, _, _, _, _), by cbv, ?_, ?_⟩)) | ((with_reducible refine ⟨(_, _, _, _, _, _), by cbv, ?_, ?_⟩)) | ((with_reducible refine ⟨(_, _, _, _, _), by cbv, ?_, ?_⟩)) | ((with_reducible refine ⟨(_, _, _, _), by cbv, ?_, ?_⟩)) | ((with_reducible refine ⟨(_, _, _), by cbv, ?_, ?_⟩)) | ((with_reducible refine ⟨(_, _), by cbv, ?_, ?_⟩)) | ((with_reducible refine ⟨_, by cbv, ?_, ?_⟩)) | (with_reducible apply_assumption -symm -exfalso only [*]))
  all_goals ((try subst y_tkK); (try subst y_tkT); (try subst y_tkW); (try subst y_tkN); (try subst y_tkE); (try subst y_spanI); (try subst y_notNl))
  all_goals try first | exact obl0 | ((repeat (refine obl1 (by first | (simp (disch := omega) only [hj, std, cmpI, cmpB, satB, add64, sub64] <;> omega) | (simp (disch := omega) [hj, std, cmpI, cmpB, satB, add64, sub64] <;> omega) | (rw [Bool.eq_iff_iff]; simp (disch := omega) [hj, std, cmpI, cmpB, satB, add64, sub64] <;> omega) | omega) ?_)); exact obl0) | (refine ret1_b ?_ <;> first | (simp (disch := omega) only [hj, std, cmpI, cmpB, satB, add64, sub64] <;> omega) | (simp (disch := omega) [hj, std, cmpI, cmpB, satB, add64, sub64] <;> omega) | (rw [Bool.eq_iff_iff]; simp (disch := omega) [hj, std, cmpI, cmpB, satB, add64, sub64] <;> omega) | omega)
  refine aw_lpj hj [(0, .keep), (5, .own tokTy12), (6, .keep)] [] (fun a : Nat × List C × Int => stOf 68 [(0, .one (.c (vS s))), (5, .one (.view 5 0)), (6, .one (.c (vI a.2.2)))] [(5, .loose [.own tokTy12 a.1 a.2.1])])
    (fun a => s.size - a.2.2.toNat) (fun a => LxI s a.1 a.2.1 a.2.2) (0, [], 0) (by generalize @tkK = x_tkK; generalize @tkT = x_tkT; generalize @tkW = x_tkW; generalize @tkN = x_tkN; generalize @tkE = x_tkE; generalize @spanI = x_spanI; generalize @notNl = x_notNl; cbv) (LxI.start s) fun ⟨n, cs, i⟩ hI => ?_
  change LxI s n cs i at hI
  obtain ⟨l, hn, hcs, i0, i2, i4, hgo⟩ := id hI
  generalize y_tkK : @tkK = x_tkK at *
  generalize y_tkT : @tkT = x_tkT at *
  generalize y_tkW : @tkW = x_tkW at *
  generalize y_tkN : @tkN = x_tkN at *
  generalize y_tkE : @tkE = x_tkE at *
  generalize y_spanI : @spanI = x_spanI at *
  generalize y_notNl : @notNl = x_notNl at *
  (repeat' first | (refine aw_ret ⟨.inr rfl, ret_oknil hj tokTy12 (by cbv) ?_ ?_⟩) | ((first | with_reducible refine tr_cut (fun h => ?_) (fun h => ?_) | refine aw_condj (by cbv) (fun h => ?_) (fun h => ?_)) <;> (try simp (disch := omega) only [hj, std, cmpI, cmpB, satB, Bool.not_eq_true, Bool.not_eq_false, decide_eq_true_eq, decide_eq_false_iff_not, beq_iff_eq, bne_iff_ne, bne_eq_false_iff_eq, beq_eq_false_iff_ne, ne_eq, reduceCtorEq, not_true_eq_false, not_false_eq_true, add64, sub64] at h) <;> (try (exfalso; omega))) | (with_reducible refine tr_alt (fun h => ?_) ?_ <;> (try (exfalso; omega))) | (with_reducible refine tr_ob ?_ ?_) | (with_reducible refine tr_done ?_) | (refine aw_tr hj tok (book4 x_tkK x_tkT x_tkW x_tkN x_tkE) (by cbv) ?_) | (refine aw_seq fun K hK => ?_) | (refine aw_tr1 hj tok (book4 x_tkK x_tkT x_tkW x_tkN x_tkE) (by cbv) ?_) | (refine aw_skip ?_) | (refine aw_block ?_) | (refine aw_exit ?_) | (refine aw_ret ⟨.inr rfl, ret_okj hj (by cbv) ?_ ?_⟩) | (refine aw_ret ?_) | (with_reducible refine th_n ?_) | (with_reducible refine th_r ?_) | (with_reducible refine th_x ?_) | (with_reducible refine blk_n ?_) | (with_reducible refine blk_r ?_) | (with_reducible refine blk_x ?_) | (with_reducible refine blk_y rfl ?_) | (refine ⟨.inr rfl, ret_okj hj (by cbv) ?_ ?_⟩) | (refine ⟨.inl rfl, ret_okj hj (by cbv) ?_ ?_⟩) | ((with_reducible refine ⟨(_, _, _, _, _, _, _), by cbv, ?_, ?_⟩)) | ((with_reducible refine ⟨(_, _, _, _, _, _), by cbv, ?_, ?_⟩)) | ((with_reducible refine ⟨(_, _, _, _, _), by cbv, ?_, ?_⟩)) | ((with_reducible refine ⟨(_, _, _, _), by cbv, ?_, ?_⟩)) | ((with_reducible refine ⟨(_, _, _), by cbv, ?_, ?_⟩)) | ((with_reducible refine ⟨(_, _), by cbv, ?_, ?_⟩)) | ((with_reducible refine ⟨_, by cbv, ?_, ?_⟩)) | (with_reducible apply_assumption -symm -exfalso only [*]))
  all_goals ((try subst y_tkK); (try subst y_tkT); (try subst y_tkW); (try subst y_tkN); (try subst y_tkE); (try subst y_spanI); (try subst y_notNl))
  all_goals try first | exact obl0 | ((repeat (refine obl1 (by first | ((rw [hj]; exact c_next (by omega) i0 ‹_›)) | ((simp only [hj, std]; split <;> omega)) | (exact rAll_of (hI.done ‹_›)) | (exact rAll_of (hI.bad ‹_› (skipI_stop i0 (by omega)) ‹_›)) | ((have h32 := ‹tkE s i = 0›; have f := hI.tok ‹_› (skipI_stop i0 (by omega)) h32; have e : (if n = 0 then 1 else n + 1) = n + 1 := (by split <;> omega); first | (show s.size - (tkN s i).toNat < s.size - i.toNat; omega) | (simp only [hj, std, e]; exact f.1))) | ((simp (disch := omega) only [hj, std, add64]; first | exact hI.hop (by omega) (by omega) (skipI_blank i0 ‹_› (by omega)) | omega)) | (simp (disch := omega) only [hj, std, cmpI, cmpB, satB, add64, sub64] <;> omega) | (simp (disch := omega) [hj, std, cmpI, cmpB, satB, add64, sub64] <;> omega) | (rw [Bool.eq_iff_iff]; simp (disch := omega) [hj, std, cmpI, cmpB, satB, add64, sub64] <;> omega) | omega) ?_)); exact obl0) | (refine id ?_ <;> first | ((rw [hj]; exact c_next (by omega) i0 ‹_›)) | ((simp only [hj, std]; split <;> omega)) | (exact rAll_of (hI.done ‹_›)) | (exact rAll_of (hI.bad ‹_› (skipI_stop i0 (by omega)) ‹_›)) | ((have h32 := ‹tkE s i = 0›; have f := hI.tok ‹_› (skipI_stop i0 (by omega)) h32; have e : (if n = 0 then 1 else n + 1) = n + 1 := (by split <;> omega); first | (show s.size - (tkN s i).toNat < s.size - i.toNat; omega) | (simp only [hj, std, e]; exact f.1))) | ((simp (disch := omega) only [hj, std, add64]; first | exact hI.hop (by omega) (by omega) (skipI_blank i0 ‹_› (by omega)) | omega)) | (simp (disch := omega) only [hj, std, cmpI, cmpB, satB, add64, sub64] <;> omega) | (simp (disch := omega) [hj, std, cmpI, cmpB, satB, add64, sub64] <;> omega) | (rw [Bool.eq_iff_iff]; simp (disch := omega) [hj, std, cmpI, cmpB, satB, add64, sub64] <;> omega) | omega) | (refine ret1_b ?_ <;> first | ((rw [hj]; exact c_next (by omega) i0 ‹_›)) | ((simp only [hj, std]; split <;> omega)) | (exact rAll_of (hI.done ‹_›)) | (exact rAll_of (hI.bad ‹_› (skipI_stop i0 (by omega)) ‹_›)) | ((have h32 := ‹tkE s i = 0›; have f := hI.tok ‹_› (skipI_stop i0 (by omega)) h32; have e : (if n = 0 then 1 else n + 1) = n + 1 := (by split <;> omega); first | (show s.size - (tkN s i).toNat < s.size - i.toNat; omega) | (simp only [hj, std, e]; exact f.1))) | ((simp (disch := omega) only [hj, std, add64]; first | exact hI.hop (by omega) (by omega) (skipI_blank i0 ‹_› (by omega)) | omega)) | (simp (disch := omega) only [hj, std, cmpI, cmpB, satB, add64, sub64] <;> omega) | (simp (disch := omega) [hj, std, cmpI, cmpB, satB, add64, sub64] <;> omega) | (rw [Bool.eq_iff_iff]; simp (disch := omega) [hj, std, cmpI, cmpB, satB, add64, sub64] <;> omega) | omega)
  refine aw_lpj hj [(0, .keep), (5, .own tokTy12), (6, .keep)] [] (fun k : Int => stOf 68 [(0, .one (.c (vS s))), (5, .one (.view 5 0)), (6, .one (.c (vI k)))] [(5, .loose [.own tokTy12 n cs])])
    (fun k => s.size - k.toNat) (fun k => i ≤ k ∧ k ≤ s.size ∧ spanI notNl s k = spanI notNl s i) i (by generalize @tkK = x_tkK; generalize @tkT = x_tkT; generalize @tkW = x_tkW; generalize @tkN = x_tkN; generalize @tkE = x_tkE; generalize @spanI = x_spanI; generalize @notNl = x_notNl; cbv) ⟨by omega, by omega, rfl⟩ fun k ⟨k1, k2, k3⟩ => ?_
  generalize y_tkK : @tkK = x_tkK at *
  generalize y_tkT : @tkT = x_tkT at *
  generalize y_tkW : @tkW = x_tkW at *
  generalize y_tkN : @tkN = x_tkN at *
  generalize y_tkE : @tkE = x_tkE at *
  generalize y_spanI : @spanI = x_spanI at *
  generalize y_notNl : @notNl = x_notNl at *
  (repeat' first | ((first | with_reducible refine tr_cut (fun h => ?_) (fun h => ?_) | refine aw_condj (by cbv) (fun h => ?_) (fun h => ?_)) <;> (try simp (disch := omega) only [hj, std, cmpI, cmpB, satB, Bool.not_eq_true, Bool.not_eq_false, decide_eq_true_eq, decide_eq_false_iff_not, beq_iff_eq, bne_iff_ne, bne_eq_false_iff_eq, beq_eq_false_iff_ne, ne_eq, reduceCtorEq, not_true_eq_false, not_false_eq_true, add64, sub64] at h) <;> (try (exfalso; omega))) | (with_reducible refine tr_alt (fun h => ?_) ?_ <;> (try (exfalso; omega))) | (with_reducible refine tr_ob ?_ ?_) | (with_reducible refine tr_done ?_) | (refine aw_tr hj tok (book4 x_tkK x_tkT x_tkW x_tkN x_tkE) (by cbv) ?_) | (refine aw_seq fun K hK => ?_) | (refine aw_tr1 hj tok (book4 x_tkK x_tkT x_tkW x_tkN x_tkE) (by cbv) ?_) | (refine aw_skip ?_) | (refine aw_block ?_) | (refine aw_exit ?_) | (refine aw_ret ⟨.inr rfl, ret_okj hj (by cbv) ?_ ?_⟩) | (refine aw_ret ?_) | (with_reducible refine th_n ?_) | (with_reducible refine th_r ?_) | (with_reducible refine th_x ?_) | (with_reducible refine blk_n ?_) | (with_reducible refine blk_r ?_) | (with_reducible refine blk_x ?_) | (with_reducible refine blk_y rfl ?_) | (refine ⟨.inr rfl, ret_okj hj (by cbv) ?_ ?_⟩) | (refine ⟨.inl rfl, ret_okj hj (by cbv) ?_ ?_⟩) | ((with_reducible refine ⟨(_, _, _, _, _, _, _), by cbv, ?_, ?_⟩)) | ((with_reducible refine ⟨(_, _, _, _, _, _), by cbv, ?_, ?_⟩)) | ((with_reducible refine ⟨(_, _, _, _, _), by cbv, ?_, ?_⟩)) | ((with_reducible refine ⟨(_, _, _, _), by cbv, ?_, ?_⟩)) | ((with_reducible refine ⟨(_, _, _), by cbv, ?_, ?_⟩)) | ((with_reducible refine ⟨(_, _), by cbv, ?_, ?_⟩)) | ((with_reducible refine ⟨_, by cbv, ?_, ?_⟩)) | (with_reducible apply_assumption -symm -exfalso only [*]))
  all_goals ((try subst y_tkK); (try subst y_tkT); (try subst y_tkW); (try subst y_tkN); (try subst y_tkE); (try subst y_spanI); (try subst y_notNl))
  all_goals first | exact obl0 | ((repeat (refine obl1 (by first | ((simp (disch := omega) only [hj, std, add64]; rw [spanI_step (by omega) ‹_› (by simp [notNl]; omega)]; exact k3)) | ((have he : spanI notNl s i = k := (by rw [← k3]; first | exact spanI_end (by omega) ‹_› | exact spanI_stop (by omega) (by simp [notNl]; omega)); have g := spanI_gt (p := notNl) i0 ‹i < (s.size : Int)› (by simp [notNl]; omega); first | (show LxI s n cs k; exact hI.hop (by omega) (by omega) (by rw [← he]; exact skipI_hash i0 ‹i < (s.size : Int)› (by omega))) | (show s.size - k.toNat < s.size - i.toNat; omega))) | (simp (disch := omega) only [hj, std, cmpI, cmpB, satB, add64, sub64] <;> omega) | (simp (disch := omega) [hj, std, cmpI, cmpB, satB, add64, sub64] <;> omega) | (rw [Bool.eq_iff_iff]; simp (disch := omega) [hj, std, cmpI, cmpB, satB, add64, sub64] <;> omega) | omega) ?_)); exact obl0) | (and_intros <;> first | ((simp (disch := omega) only [hj, std, add64]; rw [spanI_step (by omega) ‹_› (by simp [notNl]; omega)]; exact k3)) | ((have he : spanI notNl s i = k := (by rw [← k3]; first | exact spanI_end (by omega) ‹_› | exact spanI_stop (by omega) (by simp [notNl]; omega)); have g := spanI_gt (p := notNl) i0 ‹i < (s.size : Int)› (by simp [notNl]; omega); first | (show LxI s n cs k; exact hI.hop (by omega) (by omega) (by rw [← he]; exact skipI_hash i0 ‹i < (s.size : Int)› (by omega))) | (show s.size - k.toNat < s.size - i.toNat; omega))) | (simp (disch := omega) only [hj, std, cmpI, cmpB, satB, add64, sub64] <;> omega) | (simp (disch := omega) [hj, std, cmpI, cmpB, satB, add64, sub64] <;> omega) | (rw [Bool.eq_iff_iff]; simp (disch := omega) [hj, std, cmpI, cmpB, satB, add64, sub64] <;> omega) | omega) | (refine ret1_b ?_ <;> first | ((simp (disch := omega) only [hj, std, add64]; rw [spanI_step (by omega) ‹_› (by simp [notNl]; omega)]; exact k3)) | ((have he : spanI notNl s i = k := (by rw [← k3]; first | exact spanI_end (by omega) ‹_› | exact spanI_stop (by omega) (by simp [notNl]; omega)); have g := spanI_gt (p := notNl) i0 ‹i < (s.size : Int)› (by simp [notNl]; omega); first | (show LxI s n cs k; exact hI.hop (by omega) (by omega) (by rw [← he]; exact skipI_hash i0 ‹i < (s.size : Int)› (by omega))) | (show s.size - k.toNat < s.size - i.toNat; omega))) | (simp (disch := omega) only [hj, std, cmpI, cmpB, satB, add64, sub64] <;> omega) | (simp (disch := omega) [hj, std, cmpI, cmpB, satB, add64, sub64] <;> omega) | (rw [Bool.eq_iff_iff]; simp (disch := omega) [hj, std, cmpI, cmpB, satB, add64, sub64] <;> omega) | omega)
end Go.Proofs.Ytljnfejcdadjpaa.A
/- Lexing: a tail lexes as its place in the whole. -/
set_option linter.unusedSimpArgs false
set_option linter.unusedVariables false
set_option maxRecDepth 100000
set_option maxHeartbeats 4000000
namespace Go.Proofs.Ytljnfejcdadjpaa.A
open Go
theorem extract_tail (s : ByteArray) (i a b : Nat) (h : i + b ≤ s.size) : (s.extract i s.size).extract a b = s.extract (i + a) (i + b) := by
  rw [ByteArray.extract_extract]; congr 1; omega
theorem skip_b {s : ByteArray} {i : Nat} (h : i < s.size) (hb : isBlankN (bt s i) = true) : skip s i = skip s (i + 1) := by rw [skip, dif_pos h, if_pos hb]
theorem skip_h {s : ByteArray} {i : Nat} (h : i < s.size) (hb : ¬ isBlankN (bt s i) = true) (hc : bt s i = 35) : skip s i = skip s (span (fun c => !decide (c = 10)) s i) := by rw [skip, dif_pos h, if_neg hb, dif_pos hc]
theorem skip_s {s : ByteArray} {i : Nat} (h : i < s.size) (hb : ¬ isBlankN (bt s i) = true) (hc : ¬ bt s i = 35) : skip s i = i := by rw [skip, dif_pos h, if_neg hb, dif_neg hc]
theorem skip_e {s : ByteArray} {i : Nat} (h : ¬ i < s.size) : skip s i = i := by rw [skip, dif_neg h]
theorem skip_tail (s : ByteArray) (i k : Nat) (h : i ≤ s.size) : skip (s.extract i s.size) k + i = skip s (i + k) := by
  have hz := size_tail s i
  have hbt := bt_tail s i k h
  by_cases hk : k < s.size - i
  · by_cases hb : isBlankN (bt s (i + k)) = true
    · rw [skip_b (by omega) (by rw [hbt]; exact hb), skip_b (s := s) (by omega) hb, skip_tail s i (k + 1) h, Nat.add_assoc]
    · by_cases hc : bt s (i + k) = 35
      · have e1 := span_tail (fun c => !decide (c = 10)) s i k h
        have e2 : k < span (fun c => !decide (c = 10)) (s.extract i s.size) k := span_gt (by omega) (by rw [hbt, hc]; rfl)
        have e3 := span_le (fun c => !decide (c = 10)) (s.extract i s.size) k (by omega)
        rw [skip_h (by omega) (by rw [hbt]; exact hb) (by rw [hbt]; exact hc), skip_h (s := s) (by omega) hb hc, skip_tail s i _ h, ← e1, Nat.add_comm]
      · rw [skip_s (by omega) (by rw [hbt]; exact hb) (by rw [hbt]; exact hc), skip_s (s := s) (by omega) hb hc]; omega
  · rw [skip_e (by omega), skip_e (s := s) (by omega)]; omega
termination_by s.size - i - k
theorem skipI_tail (s : ByteArray) {i : Int} (h0 : 0 ≤ i) (h : i ≤ s.size) : i + skipI (s.extract i.toNat s.size) 0 = skipI s i := by
  unfold skipI
  have := skip_tail s i.toNat 0 (by omega)
  simp only [Nat.add_zero] at this
  simp only [Int.toNat_zero]
  omega
theorem c_blank {s : ByteArray} (hs : s.size < 4611686018427387904) : pc 22 [.v false [vS s]] (ret1 (.st (vI (skipI s 0)))) :=
  ⟨enters Try.func22 (by kernel_rfl) (by kernel_rfl), pc_blank s hs⟩
theorem c_first {s : ByteArray} (hs : s.size < 4611686018427387904) (h0 : 0 < s.size) : pc 23 [.v false [vS s]] (rTok (tkK s 0) (tkT s 0) (tkW s 0) (tkN s 0) (tkE s 0)) :=
  ⟨enters Try.func23 (by kernel_rfl) (by kernel_rfl), pc_first s hs h0⟩
theorem tok_tail (s : ByteArray) (i : Nat) (hi : i < s.size) :
    (tokAt (s.extract i s.size) 0).1.1 = (tokAt s i).1.1 ∧ (tokAt (s.extract i s.size) 0).1.2.1 = (tokAt s i).1.2.1 ∧ (tokAt (s.extract i s.size) 0).2.1 + i = (tokAt s i).2.1 ∧ (tokAt (s.extract i s.size) 0).2.2 = (tokAt s i).2.2 := by
  have hz := size_tail s i
  have b0 := bt_tail s i 0 (by omega)
  have m := span_tail isMoreN s i 0 (by omega)
  have p := span_tail isSpelN s i 1 (by omega)
  have m2 := span_le isMoreN s i (by omega)
  have p2 := span_le isSpelN s (i + 1) (by omega)
  have p3 := span_ge isSpelN s (i + 1)
  rw [Nat.add_zero] at b0 m
  unfold tokAt
  dsimp only
  rw [b0]
  by_cases h1 : bt s i = 58
  · rw [if_pos h1, if_pos h1]; exact ⟨rfl, rfl, by show 0 + 1 + i = i + 1; omega, rfl⟩
  rw [if_neg h1, if_neg h1]
  by_cases h2 : bt s i = 124
  · rw [if_pos h2, if_pos h2]; exact ⟨rfl, rfl, by show 0 + 1 + i = i + 1; omega, rfl⟩
  rw [if_neg h2, if_neg h2]
  by_cases h3 : bt s i = 59
  · rw [if_pos h3, if_pos h3]; exact ⟨rfl, rfl, by show 0 + 1 + i = i + 1; omega, rfl⟩
  rw [if_neg h3, if_neg h3]
  by_cases h4 : isLetN (bt s i) = true
  · rw [if_pos h4, if_pos h4]
    by_cases h5 : 32 < span isMoreN s i - i
    · rw [if_pos h5, if_pos (by omega)]; exact ⟨rfl, rfl, by show 0 + i = i; omega, rfl⟩
    · rw [if_neg h5, if_neg (by omega)]
      refine ⟨rfl, ?_, m, rfl⟩
      show (s.extract i s.size).extract 0 (span isMoreN (s.extract i s.size) 0) = s.extract i (span isMoreN s i)
      rw [extract_tail s i _ _ (by omega), Nat.add_zero, Nat.add_comm, m]
  rw [if_neg h4, if_neg h4]
  by_cases h5 : bt s i = 39
  · rw [if_pos h5, if_pos h5]
    have b1 := bt_tail s i (span isSpelN (s.extract i s.size) (0 + 1)) (by omega)
    have p' : span isSpelN (s.extract i s.size) (0 + 1) + i = span isSpelN s (i + 1) := p
    rw [b1, Nat.add_comm i, p']
    by_cases h6 : s.size ≤ span isSpelN s (i + 1) ∨ bt s (span isSpelN s (i + 1)) ≠ 39 ∨ span isSpelN s (i + 1) = i + 1
    · rw [if_pos h6, if_pos (by omega)]; exact ⟨rfl, rfl, by show 0 + i = i; omega, rfl⟩
    · rw [if_neg h6, if_neg (by omega)]
      by_cases h7 : 32 < span isSpelN s (i + 1) - i - 1
      · rw [if_pos h7, if_pos (by omega)]; exact ⟨rfl, rfl, by show 0 + i = i; omega, rfl⟩
      · rw [if_neg h7, if_neg (by omega)]
        refine ⟨rfl, ?_, ?_, rfl⟩
        · show (s.extract i s.size).extract (0 + 1) (span isSpelN (s.extract i s.size) (0 + 1)) = s.extract (i + 1) (span isSpelN s (i + 1))
          rw [extract_tail s i _ _ (by omega), Nat.zero_add, Nat.add_comm i (span _ _ _)]
          rw [Nat.zero_add] at p'
          rw [p']
        · show span isSpelN (s.extract i s.size) (0 + 1) + 1 + i = span isSpelN s (i + 1) + 1
          omega
  · rw [if_neg h5, if_neg h5]; exact ⟨rfl, rfl, by show 0 + i = i; omega, rfl⟩
theorem tok_where (s : ByteArray) (i : Nat) (h : (tokAt s i).2.2 = 0) : (tokAt s i).1.2.2 = i := by
  unfold tokAt at *
  dsimp only at *
  by_cases h1 : bt s i = 58
  · rw [if_pos h1]
  rw [if_neg h1] at *
  by_cases h2 : bt s i = 124
  · rw [if_pos h2]
  rw [if_neg h2] at *
  by_cases h3 : bt s i = 59
  · rw [if_pos h3]
  rw [if_neg h3] at *
  by_cases h4 : isLetN (bt s i) = true
  · rw [if_pos h4] at *
    split at h
    · exact absurd h (by simp)
    · rename_i h5; rw [if_neg h5]
  rw [if_neg h4] at *
  by_cases h5 : bt s i = 39
  · rw [if_pos h5] at *
    split at h
    · exact absurd h (by simp)
    · rename_i h6
      split at h
      · exact absurd h (by simp)
      · rename_i h7; rw [if_neg h6, if_neg h7]
  · rw [if_neg h5] at h; exact absurd h (by simp)
theorem tail_tk {s : ByteArray} {i : Int} (h0 : 0 ≤ i) (h : i < s.size) : tkK (s.extract i.toNat s.size) 0 = tkK s i ∧ tkT (s.extract i.toNat s.size) 0 = tkT s i ∧ i + tkN (s.extract i.toNat s.size) 0 = tkN s i ∧ tkE (s.extract i.toNat s.size) 0 = tkE s i := by
  obtain ⟨h1, h2, h3, h4⟩ := tok_tail s i.toNat (by omega)
  refine ⟨h1, h2, ?_, h4⟩
  unfold tkN
  rw [Int.toNat_zero]
  omega
theorem tkW_ok {s : ByteArray} {i : Int} (h0 : 0 ≤ i) (h : tkE s i = 0) : tkW s i = i := by
  have := tok_where s i.toNat h
  unfold tkW; rw [this]; omega
end Go.Proofs.Ytljnfejcdadjpaa.A
/- Lexing: tokens of literals, by fuel; cells of a list of tokens. -/
set_option linter.unusedSimpArgs false
set_option linter.unusedVariables false
set_option maxRecDepth 100000
set_option maxHeartbeats 4000000
namespace Go.Proofs.Ytljnfejcdadjpaa.A
open Go
theorem skip_skip9 (s : ByteArray) (i : Nat) : skip s (skip s i) = skip s i := by
  by_cases h : i < s.size
  · by_cases hb : isBlankN (bt s i) = true
    · have e : skip s i = skip s (i + 1) := by rw [skip, dif_pos h, if_pos hb]
      rw [e]; exact skip_skip9 s (i + 1)
    · by_cases hc : bt s i = 35
      · have h2 : i < span (fun c => !decide (c = 10)) s i := span_gt h (by simp [hc])
        have h3 : span (fun c => !decide (c = 10)) s i ≤ s.size := span_le _ s i (by omega)
        have e : skip s i = skip s (span (fun c => !decide (c = 10)) s i) := by rw [skip, dif_pos h, if_neg hb, dif_pos hc]
        rw [e]; exact skip_skip9 s _
      · have e : skip s i = i := by rw [skip, dif_pos h, if_neg hb, dif_neg hc]
        rw [e, e]
  · have e : skip s i = i := by rw [skip, dif_neg h]
    rw [e, e]
termination_by s.size - i
def spanF (p : Nat → Bool) (s : ByteArray) : Nat → Nat → Nat
  | 0, i => i
  | n + 1, i => if i < s.size ∧ p (bt s i) = true then spanF p s n (i + 1) else i
theorem spanF_eq (p : Nat → Bool) (s : ByteArray) : ∀ n i, s.size - i ≤ n → spanF p s n i = span p s i := by
  intro n
  induction n with
  | zero =>
    intro i h
    rw [span_stop (p := p) (i := i) (fun hh => by have := hh.1; omega)]
    rfl
  | succ n ih =>
    intro i h
    unfold spanF
    split
    · rename_i hh; rw [span_step hh.1 hh.2, ih _ (by omega)]
    · rename_i hh; rw [span_stop hh]
def skipF (s : ByteArray) : Nat → Nat → Nat
  | 0, i => i
  | n + 1, i => if i < s.size then if isBlankN (bt s i) = true then skipF s n (i + 1) else if bt s i = 35 then skipF s n (spanF (fun c => !decide (c = 10)) s s.size i) else i else i
theorem skipF_eq (s : ByteArray) : ∀ n i, s.size - i ≤ n → skipF s n i = skip s i := by
  intro n
  induction n with
  | zero => intro i h; rw [skip, dif_neg (by omega)]; rfl
  | succ n ih =>
    intro i h
    unfold skipF
    rw [skip]
    by_cases h1 : i < s.size
    · rw [if_pos h1, dif_pos h1]
      by_cases hb : isBlankN (bt s i) = true
      · rw [if_pos hb, if_pos hb, ih _ (by omega)]
      · rw [if_neg hb, if_neg hb]
        by_cases hc : bt s i = 35
        · rw [if_pos hc, dif_pos hc]
          have h2 : i < span (fun c => !decide (c = 10)) s i := span_gt h1 (by simp [hc])
          rw [spanF_eq _ _ _ _ (by omega), ih _ (by omega)]
        · rw [if_neg hc, dif_neg hc]
    · rw [if_neg h1, dif_neg h1]
def tokAtF (s : ByteArray) (i : Nat) : Tk × Nat × Int :=
  let c := bt s i
  if c = 58 then ((3, ⟨#[58]⟩, i), i + 1, 0)
  else if c = 124 then ((4, ⟨#[124]⟩, i), i + 1, 0)
  else if c = 59 then ((5, ⟨#[59]⟩, i), i + 1, 0)
  else if isLetN c = true then
    let e := spanF isMoreN s s.size i
    if 32 < e - i then (tk0, i, 19) else ((1, s.extract i e, i), e, 0)
  else if c = 39 then
    let e := spanF isSpelN s s.size (i + 1)
    if s.size ≤ e ∨ bt s e ≠ 39 ∨ e = i + 1 then (tk0, i, 13)
    else if 32 < e - i - 1 then (tk0, i, 19) else ((2, s.extract (i + 1) e, i), e + 1, 0)
  else (tk0, i, 13)
theorem tokAtF_eq (s : ByteArray) (i : Nat) : tokAtF s i = tokAt s i := by
  unfold tokAtF tokAt
  dsimp only
  rw [spanF_eq _ _ _ _ (by omega), spanF_eq _ _ _ _ (by omega)]
def lexF (s : ByteArray) : Nat → Nat → List Tk × Int × Int
  | 0, _ => ([], 0, 0)
  | n + 1, i =>
    if skipF s s.size i < s.size then
      if (tokAtF s (skipF s s.size i)).2.2 = 0 then
        let r := lexF s n (tokAtF s (skipF s s.size i)).2.1
        if r.2.2 = 0 then ((tokAtF s (skipF s s.size i)).1 :: r.1, 0, 0) else r
      else ([], (skipF s s.size i : Int), (tokAtF s (skipF s s.size i)).2.2)
    else ([], 0, 0)
theorem lexF_eq (s : ByteArray) : ∀ n i, s.size - i ≤ n → lexF s n i = lexGo s i := by
  intro n
  induction n with
  | zero => intro i h; rw [lexGo, dif_neg (by have := skip_ge s i; omega)]; rfl
  | succ n ih =>
    intro i h
    unfold lexF
    rw [lexGo]
    simp only [skipF_eq s s.size i (by omega), tokAtF_eq]
    by_cases h1 : skip s i < s.size
    · rw [if_pos h1, dif_pos h1]
      by_cases h2 : (tokAt s (skip s i)).2.2 = 0
      · rw [if_pos h2, dif_pos h2]
        have h3 := tokAt_end h1 h2
        have h4 := skip_ge s i
        rw [ih _ (by omega)]
      · rw [if_neg h2, dif_neg h2]
    · rw [if_neg h1, dif_neg h1]
theorem lx_lit {s : ByteArray} {l : List Tk} {a e : Int} (h : lexF s s.size 0 = (l, a, e)) : lexGo s 0 = (l, a, e) := by
  rw [← lexF_eq s s.size 0 (by omega)]; exact h
theorem lx_of {s : ByteArray} {l : List Tk} {a e : Int} (h : lexGo s 0 = (l, a, e)) : lxN s = l.length ∧ lxC s = tkCells l ∧ lxA s = a ∧ lxE s = e := by
  unfold lxN lxC lxA lxE; rw [h]; exact ⟨rfl, rfl, rfl, rfl⟩
theorem tkCells_length (l : List Tk) : (tkCells l).length = l.length * 3 := by
  induction l with
  | nil => rfl
  | cons t l ih => rw [tkCells, List.flatMap_cons, List.length_append, ← tkCells, ih, List.length_cons]; simp; omega
theorem tkCells_cons (t : Tk) (l : List Tk) : tkCells (t :: l) = vI t.1 :: vS t.2.1 :: vI t.2.2 :: tkCells l := rfl
theorem tkCells_at (l : List Tk) : ∀ (i : Nat) (h : i < l.length), cellAt (tkCells l) (i * 3) = vI l[i].1 ∧ cellAt (tkCells l) (i * 3 + 1) = vS l[i].2.1 ∧ cellAt (tkCells l) (i * 3 + 2) = vI l[i].2.2 := by
  induction l with
  | nil => intro i h; simp at h
  | cons t l ih =>
    intro i h
    cases i with
    | zero => exact ⟨rfl, rfl, rfl⟩
    | succ i =>
      have := ih i (by simpa using h)
      rw [tkCells_cons, show (i + 1) * 3 = i * 3 + 3 by omega]
      exact this
theorem lexGo_len (s : ByteArray) : ∀ n i, s.size - i = n → (lexGo s i).1.length ≤ n := by
  intro n
  induction n using Nat.strongRecOn with
  | _ n ih =>
    intro i hn
    rw [lexGo]
    by_cases h1 : skip s i < s.size
    · rw [dif_pos h1]
      by_cases h2 : (tokAt s (skip s i)).2.2 = 0
      · rw [dif_pos h2]
        have h3 := tokAt_end h1 h2
        have h4 := skip_ge s i
        have h5 := ih (s.size - (tokAt s (skip s i)).2.1) (by omega) _ rfl
        dsimp only
        split
        · simp only [List.length_cons]; omega
        · omega
      · rw [dif_neg h2]; exact Nat.zero_le _
    · rw [dif_neg h1]; exact Nat.zero_le _
theorem lxN_le (s : ByteArray) : lxN s ≤ s.size := lexGo_len s s.size 0 (by omega)
theorem lxC_len (s : ByteArray) : (lxC s).length = lxN s * 3 := tkCells_length _
theorem awk1 : lexGo ⟨⟨[83, 32, 58, 32, 39, 97, 39, 32, 83, 32, 124, 32, 59]⟩⟩ 0 = ([(1, ⟨⟨[83]⟩⟩, 0), (3, ⟨⟨[58]⟩⟩, 2), (2, ⟨⟨[97]⟩⟩, 4), (1, ⟨⟨[83]⟩⟩, 8), (4, ⟨⟨[124]⟩⟩, 10), (5, ⟨⟨[59]⟩⟩, 12)], 0, 0) := lx_lit (by decide +kernel)
end Go.Proofs.Ytljnfejcdadjpaa.A
/- Lexing: All of lex. -/
set_option linter.unusedSimpArgs false
set_option linter.unusedVariables false
set_option maxRecDepth 100000
set_option maxHeartbeats 4000000
namespace Go.Proofs.Ytljnfejcdadjpaa.A
open Go
abbrev tokTyL : TypeId := 31
def book5 (x_skipI : ByteArray → Int → Int) (x_tkK : ByteArray → Int → Int) (x_tkT : ByteArray → Int → ByteArray) (x_tkW : ByteArray → Int → Int) (x_tkN : ByteArray → Int → Int) (x_tkE : ByteArray → Int → Int) : Book := fun f xs => match f, xs with
  | 23, [.v false [.val (.string s)]] => some (rTok (x_tkK s 0) (x_tkT s 0) (x_tkW s 0) (x_tkN s 0) (x_tkE s 0))
  | 22, [.v false [.val (.string s)]] => some (ret1 (.st (vI (x_skipI s 0))))
  | _, _ => none
theorem skipI_ge (s : ByteArray) {i : Int} (h0 : 0 ≤ i) : i ≤ skipI s i := by unfold skipI; have := skip_ge s i.toNat; omega
theorem skip_le (s : ByteArray) (i : Nat) (h : i ≤ s.size) : skip s i ≤ s.size := by
  rw [skip]; split
  · rename_i h1
    split
    · exact skip_le s (i + 1) (by omega)
    · split
      · rename_i hc
        have h2 : i < span (fun c => !decide (c = 10)) s i := span_gt h1 (by simp [hc])
        have h3 : span (fun c => !decide (c = 10)) s i ≤ s.size := span_le _ s i (by omega)
        exact skip_le s (span (fun c => !decide (c = 10)) s i) h3
      · exact h
  · exact h
termination_by s.size - i
theorem skipI_le (s : ByteArray) {i : Int} (h0 : 0 ≤ i) (h : i ≤ s.size) : skipI s i ≤ s.size := by unfold skipI; have := skip_le s i.toNat (by omega); omega
theorem skipI_skipI (s : ByteArray) {i : Int} (h0 : 0 ≤ i) : skipI s (skipI s i) = skipI s i := by unfold skipI; rw [Int.toNat_natCast, skip_skip9]
theorem add_skip {s : ByteArray} {i : Int} (hs : s.size < 4611686018427387904) (h0 : 0 ≤ i) (h : i ≤ s.size) : arithI .add .i64 i (skipI (s.extract i.toNat s.size) 0) = skipI s i := by
  have h1 := skipI_le s h0 h
  have h2 := skipI_ge s h0
  have h3 := skipI_tail s h0 h
  rw [add64 (by omega) (by omega), h3]
set_option maxHeartbeats 4000000 in
theorem pc_All (s : ByteArray) (hs : s.size ≤ 65536) : PC Try.prog T 10 [.v false [vS s]] (rAll tokTyL s) [] := by
  refine pc_of tok Try.func10 rfl (by rfl) ?_
  obtain ⟨j, hj⟩ : ∃ j : J, j = std Try.prog T := ⟨_, rfl⟩
  generalize y_skipI : @skipI = x_skipI at *
  generalize y_tkK : @tkK = x_tkK at *
  generalize y_tkT : @tkT = x_tkT at *
  generalize y_tkW : @tkW = x_tkW at *
  generalize y_tkN : @tkN = x_tkN at *
  generalize y_tkE : @tkE = x_tkE at *
  (repeat' first | (refine aw_ret ⟨.inr rfl, ret_oknil hj tokTyL (by cbv) ?_ ?_⟩) | ((first | with_reducible refine tr_cut (fun h => ?_) (fun h => ?_) | refine aw_condj (by cbv) (fun h => ?_) (fun h => ?_)) <;> (try simp (disch := omega) only [hj, std, cmpI, cmpB, satB, Bool.not_eq_true, Bool.not_eq_false, decide_eq_true_eq, decide_eq_false_iff_not, beq_iff_eq, bne_iff_ne, bne_eq_false_iff_eq, beq_eq_false_iff_ne, ne_eq, reduceCtorEq, not_true_eq_false, not_false_eq_true, add64, sub64] at h) <;> (try (exfalso; omega))) | (with_reducible refine tr_alt (fun h => ?_) ?_ <;> (try (exfalso; omega))) | (with_reducible refine tr_ob ?_ ?_) | (with_reducible refine tr_done ?_) | (refine aw_tr hj tok (book5 x_skipI x_tkK x_tkT x_tkW x_tkN x_tkE) (by cbv) ?_) | (refine aw_seq fun K hK => ?_) | (refine aw_tr1 hj tok (book5 x_skipI x_tkK x_tkT x_tkW x_tkN x_tkE) (by cbv) ?_) | (refine aw_skip ?_) | (refine aw_block ?_) | (refine aw_exit ?_) | (refine aw_ret ⟨.inr rfl, ret_okj hj (by cbv) ?_ ?_⟩) | (refine aw_ret ?_) | (with_reducible refine th_n ?_) | (with_reducible refine th_r ?_) | (with_reducible refine th_x ?_) | (with_reducible refine blk_n ?_) | (with_reducible refine blk_r ?_) | (with_reducible refine blk_x ?_) | (with_reducible refine blk_y rfl ?_) | (refine ⟨.inr rfl, ret_okj hj (by cbv) ?_ ?_⟩) | (refine ⟨.inl rfl, ret_okj hj (by cbv) ?_ ?_⟩) | ((with_reducible refine ⟨(_, _, _, _, _, _, _), by cbv, ?_, ?_⟩)) | ((with_reducible refine ⟨(_, _, _, _, _, _), by cbv, ?_, ?_⟩)) | ((with_reducible refine ⟨(_, _, _, _, _), by cbv, ?_, ?_⟩)) | ((with_reducible refine ⟨(_, _, _, _), by cbv, ?_, ?_⟩)) | ((with_reducible refine ⟨(_, _, _), by cbv, ?_, ?_⟩)) | ((with_reducible refine ⟨(_, _), by cbv, ?_, ?_⟩)) | ((with_reducible refine ⟨_, by cbv, ?_, ?_⟩)) | (with_reducible apply_assumption -symm -exfalso only [*]))
  all_goals ((try subst y_skipI); (try subst y_tkK); (try subst y_tkT); (try subst y_tkW); (try subst y_tkN); (try subst y_tkE))
  all_goals (try (repeat' first | with_reducible exact obl0 | with_reducible refine obl1 ?_ ?_))
  all_goals (try first | with_reducible exact True.intro | (refine ob_pc hj ?_; (try rw [hj]); first | exact c_blank (by omega)) | (refine ob_pcn hj ?_; (try rw [hj]); first | exact c_blank (by omega)) | ((first | refine ob_le hj ?_ | refine ob_lei hj ?_ | refine ob_inb hj ?_ | refine ob_pos hj ?_ | refine ob_ne0 hj ?_ | refine ob_eqb hj ?_); (first | rfl | first | omega | (simp only [hj, std]; split <;> omega) | (simp (disch := omega) only [hj, std, cmpI, cmpB, satB, add64, sub64, ite0, pl0, pl2, pl3, sb0, if_true, if_false, eq_self] <;> omega) | (simp (disch := omega) [hj, std, cmpI, cmpB, satB, add64, sub64, ite0, pl0, pl2, pl3, sb0, if_true, if_false, eq_self] <;> omega))))
  refine aw_lpj hj [(0, .keep), (5, .own tokTyL), (6, .keep)] [] (fun a : Nat × List C × Int => stOf 47 [(0, .one (.c (vS s))), (5, .one (.view 5 0)), (6, .one (.c (vI a.2.2)))] [(5, .loose [.own tokTyL a.1 a.2.1])])
    (fun a => s.size - a.2.2.toNat) (fun a => LxI s a.1 a.2.1 a.2.2 ∧ skipI s a.2.2 = a.2.2) (0, [], skipI s 0) (by generalize @skipI = x_skipI; generalize @tkK = x_tkK; generalize @tkT = x_tkT; generalize @tkW = x_tkW; generalize @tkN = x_tkN; generalize @tkE = x_tkE; cbv) ⟨(LxI.start s).hop (skipI_ge s (by omega)) (skipI_le s (by omega) (by omega)) (skipI_skipI s (by omega)), skipI_skipI s (by omega)⟩ fun ⟨n, cs, i⟩ ⟨hI, hsk⟩ => ?_
  change LxI s n cs i at hI
  change skipI s i = i at hsk
  obtain ⟨l, hn, hcs, i0, i2, i4, hgo⟩ := id hI
  generalize y_skipI : @skipI = x_skipI at *
  generalize y_tkK : @tkK = x_tkK at *
  generalize y_tkT : @tkT = x_tkT at *
  generalize y_tkW : @tkW = x_tkW at *
  generalize y_tkN : @tkN = x_tkN at *
  generalize y_tkE : @tkE = x_tkE at *
  (repeat' first | (refine aw_ret ⟨.inr rfl, ret_oknil hj tokTyL (by cbv) ?_ ?_⟩) | ((first | with_reducible refine tr_cut (fun h => ?_) (fun h => ?_) | refine aw_condj (by cbv) (fun h => ?_) (fun h => ?_)) <;> (try simp (disch := omega) only [hj, std, cmpI, cmpB, satB, Bool.not_eq_true, Bool.not_eq_false, decide_eq_true_eq, decide_eq_false_iff_not, beq_iff_eq, bne_iff_ne, bne_eq_false_iff_eq, beq_eq_false_iff_ne, ne_eq, reduceCtorEq, not_true_eq_false, not_false_eq_true, add64, sub64] at h) <;> (try (exfalso; omega))) | (with_reducible refine tr_alt (fun h => ?_) ?_ <;> (try (exfalso; omega))) | (with_reducible refine tr_ob ?_ ?_) | (with_reducible refine tr_done ?_) | (refine aw_tr hj tok (book5 x_skipI x_tkK x_tkT x_tkW x_tkN x_tkE) (by cbv) ?_) | (refine aw_seq fun K hK => ?_) | (refine aw_tr1 hj tok (book5 x_skipI x_tkK x_tkT x_tkW x_tkN x_tkE) (by cbv) ?_) | (refine aw_skip ?_) | (refine aw_block ?_) | (refine aw_exit ?_) | (refine aw_ret ⟨.inr rfl, ret_okj hj (by cbv) ?_ ?_⟩) | (refine aw_ret ?_) | (with_reducible refine th_n ?_) | (with_reducible refine th_r ?_) | (with_reducible refine th_x ?_) | (with_reducible refine blk_n ?_) | (with_reducible refine blk_r ?_) | (with_reducible refine blk_x ?_) | (with_reducible refine blk_y rfl ?_) | (refine ⟨.inr rfl, ret_okj hj (by cbv) ?_ ?_⟩) | (refine ⟨.inl rfl, ret_okj hj (by cbv) ?_ ?_⟩) | ((with_reducible refine ⟨(_, _, _, _, _, _, _), by cbv, ?_, ?_⟩)) | ((with_reducible refine ⟨(_, _, _, _, _, _), by cbv, ?_, ?_⟩)) | ((with_reducible refine ⟨(_, _, _, _, _), by cbv, ?_, ?_⟩)) | ((with_reducible refine ⟨(_, _, _, _), by cbv, ?_, ?_⟩)) | ((with_reducible refine ⟨(_, _, _), by cbv, ?_, ?_⟩)) | ((with_reducible refine ⟨(_, _), by cbv, ?_, ?_⟩)) | ((with_reducible refine ⟨_, by cbv, ?_, ?_⟩)) | (with_reducible apply_assumption -symm -exfalso only [*]))
  all_goals ((try subst y_skipI); (try subst y_tkK); (try subst y_tkT); (try subst y_tkW); (try subst y_tkN); (try subst y_tkE))
  all_goals (try (have hlt := ‹i < (s.size : Int)›; obtain ⟨t1, t2, t3, t4⟩ := tail_tk i0 hlt))
  all_goals (try (have he0 := ‹tkE (s.extract i.toNat s.size) 0 = 0›; rw [t4] at he0; have f := hI.tok hlt hsk he0; rw [tkW_ok i0 he0, ← t1, ← t2] at f; have e1 : arithI .add .i64 i (tkN (s.extract i.toNat s.size) 0) = tkN s i := (by rw [add64 (by omega) (by omega), t3])))
  all_goals (try (have e2 : (if n = 0 then 1 else n + 1) = n + 1 := (by split <;> omega); have b1 := skipI_ge s (i := tkN s i) (by omega); have b2 := skipI_le s (i := tkN s i) (by omega) (by omega); have b3 := skipI_skipI s (i := tkN s i) (by omega); have e3 := add_skip (show s.size < 4611686018427387904 by omega) (show 0 ≤ tkN s i by omega) f.2.2))
  all_goals (try (repeat' first | with_reducible exact obl0 | with_reducible refine obl1 ?_ ?_))
  all_goals (try first | with_reducible exact True.intro | (refine ob_pc hj ?_; (try rw [hj]); first | exact c_first (s := s.extract i.toNat s.size) (tail_lt (by omega)) (by rw [size_tail]; omega) | exact c_blank (tail_lt (by omega))) | (refine ob_pcn hj ?_; (try rw [hj]); first | exact c_first (s := s.extract i.toNat s.size) (tail_lt (by omega)) (by rw [size_tail]; omega) | exact c_blank (tail_lt (by omega))) | ((first | refine ob_le hj ?_ | refine ob_lei hj ?_ | refine ob_inb hj ?_ | refine ob_pos hj ?_ | refine ob_ne0 hj ?_ | refine ob_eqb hj ?_); (first | rfl | first | omega | (simp only [hj, std]; split <;> omega) | (simp (disch := omega) only [hj, std, cmpI, cmpB, satB, add64, sub64, ite0, pl0, pl2, pl3, sb0, if_true, if_false, eq_self] <;> omega) | (simp (disch := omega) [hj, std, cmpI, cmpB, satB, add64, sub64, ite0, pl0, pl2, pl3, sb0, if_true, if_false, eq_self] <;> omega))) | ((have hq := ‹¬ i < (s.size : Int)›; exact rAll_of (hI.done hq))) | ((have hq := ‹¬ tkE (s.extract i.toNat s.size) 0 = 0›; have g := hI.bad hlt hsk (by rw [← t4]; exact hq); rw [← t4] at g; rw [hj]; exact rAll_of g)) | ((simp only [hj, std, e1, e3, e2]; first | exact ⟨f.1.hop b1 b2 b3, b3⟩ | omega)) | ((refine ob_lei hj ?_; simp only [hj, std, e1]; omega)))
end Go.Proofs.Ytljnfejcdadjpaa.A
/- Rules as they are written: all of a text. -/
set_option linter.unusedSimpArgs false
set_option linter.unusedVariables false
set_option maxRecDepth 100000
set_option maxHeartbeats 4000000
namespace Go.Proofs.Ytljnfejcdadjpaa.A
open Go
abbrev RS := List Ln × Nat × Bool
def rstep (st : RS) (t : Tk) : Bool × RS :=
  match st.2.1 with
  | 0 => (decide (t.1 = 1), (st.1 ++ [(t.2.1, [])], 1, true))
  | 1 => (decide (t.1 = 3), (addAlt st.1, 2, st.2.2))
  | _ => (itmB t.1, (if t.1 = 1 ∨ t.1 = 2 then addIt st.1 (decide (t.1 = 2)) t.2.1 else if t.1 = 4 then addAlt st.1 else st.1, if t.1 = 5 then 0 else 2, itmO t.1 st.2.2))
def rGo (z : Int) : List Tk → RS → List Ln × Int × Int
  | [], st => if st.2.2 = true ∨ st.1 = [] then ([], z, 14) else (st.1, 0, 0)
  | t :: ts, st => if (rstep st t).1 = true then rGo z ts (rstep st t).2 else ([], t.2.2, 14)
def pAll (s : ByteArray) : List Ln × Int × Int := if lxE s ≠ 0 then ([], lxA s, lxE s) else rGo s.size (lexGo s 0).1 ([], 0, false)
def pN (s : ByteArray) : Nat := (pAll s).1.length
def pC (s : ByteArray) : List C := lnC (pAll s).1
def pA (s : ByteArray) : Int := (pAll s).2.1
def pE (s : ByteArray) : Int := (pAll s).2.2
def fnW (w : Nat) : Option FuncId := match w with | 0 => some 32 | 1 => some 38 | _ => some 41
def rOk (st : RS) : Prop := (st.2.1 = 0 ∨ (st.2.1 = 1 ∧ st.1 ≠ []) ∨ (st.2.1 = 2 ∧ st.1 ≠ [] ∧ (lastL st.1).2 ≠ []))
def rSz (L : List Ln) (n : Nat) : Prop := L.length ≤ n ∧ ∀ x ∈ L, x.2.length ≤ n ∧ ∀ a ∈ x.2, a.length ≤ n
def rAllP (s : ByteArray) : RV := rets [(false, [.st (.sl (pN s) (pC s))]), (false, [.st (vI (pA s))]), (false, [.st (vI (pE s))])]
def nmC (cs : List C) (s : ByteArray) : List C := cs ++ [vS s, .nil]
def up1 (n : Nat) : Nat := n + 1
def isK (k c : Int) : Bool := decide (k = c)
def bookP4 (x_lxN : ByteArray → Nat) (x_lxC : ByteArray → List C) (x_lxA : ByteArray → Int) (x_lxE : ByteArray → Int) (x_itmC : List C → Int → ByteArray → List C) (x_altC : List C → List C) (x_itmF : Int → Option FuncId) (x_itmO : Int → Bool → Bool) (x_itmB : Int → Bool) (x_nmC : List C → ByteArray → List C) (x_up1 : Nat → Nat) (x_isK : Int → Int → Bool) : Book := fun f xs => match f, xs with
  | 10, [.v false [.val (.string s)]] => some (rets [(false, [.own tokTyL (x_lxN s) (x_lxC s)]), (false, [.st (vI (x_lxA s))]), (false, [.st (vI (x_lxE s))])])
  | 32, [.root (.box [.tree _ (.sl n cs) _, .me _, .st (.val (.bool _))]), .v true [.val (.int .i64 k), .val (.string s), _]] => some (ret1 (.st (vB (x_isK k 1))), [.box [.tree shL (.sl (x_up1 n) (x_nmC cs s)) none, .me (some 38), .st (vB true)], .none])
  | 38, [.root (.box [.tree _ (.sl n cs) _, .me _, .st (.val (.bool o))]), .v true [.val (.int .i64 k), .val (.string _), _]] => some (ret1 (.st (vB (x_isK k 3))), [.box [.tree shL (.sl n (x_altC cs)) none, .me (some 41), .st (vB o)], .none])
  | 41, [.root (.box [.tree _ (.sl n cs) _, .me _, .st (.val (.bool o))]), .v true [.val (.int .i64 k), .val (.string s), _]] => some (ret1 (.st (vB (x_itmB k))), [.box [.tree shL (.sl n (x_itmC cs k s)) none, .me (x_itmF k), .st (vB (x_itmO k o))], .none])
  | _, _ => none
theorem c_lexA {s : ByteArray} (hs : s.size ≤ 65536) : pc 10 [.v false [vS s]] (rets [(false, [.own tokTyL (lxN s) (lxC s)]), (false, [.st (vI (lxA s))]), (false, [.st (vI (lxE s))])]) :=
  ⟨enters Try.func10 (by kernel_rfl) (by kernel_rfl), pc_All s hs⟩
theorem lxC_vls (s : ByteArray) : ∀ c ∈ lxC s, ∃ v, c = .val v := by
  unfold lxC tkCells
  intro c hc
  obtain ⟨t, _, h⟩ := List.mem_flatMap.1 hc
  simp only [List.mem_cons, List.not_mem_nil, or_false] at h
  rcases h with rfl | rfl | rfl <;> exact ⟨_, rfl⟩
theorem rP_of {s : ByteArray} {L : List Ln} {a e : Int} (h : pAll s = (L, a, e)) : rAllP s = ⟨true, [(false, [.st (.sl L.length (lnC L))]), (false, [.st (vI a)]), (false, [.st (vI e)])]⟩ := by
  unfold rAllP pN pC pA pE; rw [h]; rfl
theorem snoc_ex {α : Type} {L : List α} (h : L ≠ []) : ∃ L0 x, L = L0 ++ [x] := ⟨_, _, (List.dropLast_concat_getLast h).symm⟩
def rInv (s : ByteArray) (i : Int) (m : Nat) (cs : List C) (f : Option FuncId) (o : Bool) : Prop :=
  ∃ L w, m = L.length ∧ cs = lnC L ∧ f = fnW w ∧ rOk (L, w, o) ∧ rSz L i.toNat ∧ pAll s = rGo s.size ((lexGo s 0).1.drop i.toNat) (L, w, o)
theorem rSz_mono {L : List Ln} {n m : Nat} (h : rSz L n) (hn : n ≤ m) : rSz L m := ⟨Nat.le_trans h.1 hn, fun x hx => ⟨Nat.le_trans (h.2 x hx).1 hn, fun a ha => Nat.le_trans ((h.2 x hx).2 a ha) hn⟩⟩
theorem rSz_name {L : List Ln} {n : Nat} (h : rSz L n) (t : ByteArray) : rSz (L ++ [(t, [])]) (n + 1) := by
  refine ⟨by have := h.1; simp; omega, fun x hx => ?_⟩
  rcases List.mem_append.1 hx with hx | hx
  · exact (rSz_mono h (Nat.le_succ n)).2 x hx
  · rw [List.mem_singleton.1 hx]; exact ⟨by simp, fun a ha => by cases ha⟩
theorem rSz_alt {L : List Ln} {n : Nat} {nm : ByteArray} {A : List (List It)} (h : rSz (L ++ [(nm, A)]) n) : rSz (L ++ [(nm, A ++ [[]])]) (n + 1) := by
  refine ⟨by have := h.1; simp at this ⊢; omega, fun x hx => ?_⟩
  have hl := h.2 (nm, A) (by simp)
  rcases List.mem_append.1 hx with hx | hx
  · exact (rSz_mono h (Nat.le_succ n)).2 x (List.mem_append_left _ hx)
  · rw [List.mem_singleton.1 hx]
    refine ⟨by have := hl.1; simp at this ⊢; omega, fun a ha => ?_⟩
    rcases List.mem_append.1 ha with ha | ha
    · exact Nat.le_trans (hl.2 a ha) (Nat.le_succ n)
    · rw [List.mem_singleton.1 ha]; simp
theorem rSz_it {L : List Ln} {n : Nat} {nm : ByteArray} {A : List (List It)} {al : List It} (h : rSz (L ++ [(nm, A ++ [al])]) n) (b : Bool) (t : ByteArray) : rSz (L ++ [(nm, A ++ [al ++ [(b, t)]])]) (n + 1) := by
  refine ⟨by have := h.1; simp at this ⊢; omega, fun x hx => ?_⟩
  have hl := h.2 (nm, A ++ [al]) (by simp)
  rcases List.mem_append.1 hx with hx | hx
  · exact (rSz_mono h (Nat.le_succ n)).2 x (List.mem_append_left _ hx)
  · rw [List.mem_singleton.1 hx]
    refine ⟨by have := hl.1; simp at this ⊢; omega, fun a ha => ?_⟩
    rcases List.mem_append.1 ha with ha | ha
    · exact Nat.le_trans (hl.2 a (List.mem_append_left _ ha)) (Nat.le_succ n)
    · rw [List.mem_singleton.1 ha]; have := hl.2 al (by simp); simp; omega
theorem lastL_snoc (L : List Ln) (x : Ln) : lastL (L ++ [x]) = x := by simp [lastL]
theorem rstep_ok {L : List Ln} {w : Nat} {o : Bool} {t : Tk} {n : Nat} (h : rOk (L, w, o)) (hs : rSz L n) : rOk (rstep (L, w, o) t).2 ∧ rSz (rstep (L, w, o) t).2.1 (n + 1) := by
  rcases h with h | ⟨h, h1⟩ | ⟨h, h1, h2⟩
  · change w = 0 at h; subst h
    exact ⟨.inr (.inl ⟨rfl, by simp [rstep]⟩), rSz_name hs _⟩
  · change w = 1 at h; subst h
    obtain ⟨L0, ⟨nm, A⟩, rfl⟩ := snoc_ex h1
    have e : (rstep (L0 ++ [(nm, A)], 1, o) t).2 = (L0 ++ [(nm, A ++ [[]])], 2, o) := by show (addAlt _, _, _) = _; rw [addAlt_snoc]
    rw [e]
    exact ⟨.inr (.inr ⟨rfl, by simp, by rw [lastL_snoc]; simp⟩), rSz_alt hs⟩
  · change w = 2 at h; subst h
    obtain ⟨L0, ⟨nm, A⟩, rfl⟩ := snoc_ex h1
    rw [lastL_snoc] at h2
    obtain ⟨A0, al, rfl⟩ := snoc_ex h2
    have e : (rstep (L0 ++ [(nm, A0 ++ [al])], 2, o) t).2 = (if t.1 = 1 ∨ t.1 = 2 then addIt (L0 ++ [(nm, A0 ++ [al])]) (decide (t.1 = 2)) t.2.1 else if t.1 = 4 then addAlt (L0 ++ [(nm, A0 ++ [al])]) else L0 ++ [(nm, A0 ++ [al])], if t.1 = 5 then 0 else 2, itmO t.1 o) := rfl
    rw [e, addAlt_snoc, addIt_snoc]
    by_cases k1 : t.1 = 1 ∨ t.1 = 2
    · rw [if_pos k1, if_neg (by omega)]
      exact ⟨.inr (.inr ⟨rfl, by simp, by rw [lastL_snoc]; simp⟩), rSz_it hs _ _⟩
    · rw [if_neg k1]
      by_cases k4 : t.1 = 4
      · rw [if_pos k4, if_neg (by omega)]
        exact ⟨.inr (.inr ⟨rfl, by simp, by rw [lastL_snoc]; simp⟩), rSz_alt hs⟩
      · rw [if_neg k4]
        refine ⟨?_, rSz_mono hs (Nat.le_succ n)⟩
        split
        · exact .inl rfl
        · exact .inr (.inr ⟨rfl, by simp, by rw [lastL_snoc]; simp⟩)
theorem tk_drop {s : ByteArray} {i : Int} (h0 : 0 ≤ i) (h : i < (lxN s : Int)) : ∃ t : Tk, (lexGo s 0).1.drop i.toNat = t :: (lexGo s 0).1.drop (i + 1).toNat ∧ cellAt (lxC s) (i.toNat * 3) = vI t.1 ∧ cellAt (lxC s) (i.toNat * 3 + 1) = vS t.2.1 ∧ cellAt (lxC s) (i.toNat * 3 + 2) = vI t.2.2 := by
  have hl : i.toNat < (lexGo s 0).1.length := by unfold lxN at h; omega
  refine ⟨(lexGo s 0).1[i.toNat], ?_, tkCells_at (lexGo s 0).1 i.toNat hl⟩
  rw [show (i + 1).toNat = i.toNat + 1 by omega]
  exact List.drop_eq_getElem_cons hl
theorem r_next {s : ByteArray} {i : Int} {L : List Ln} {w : Nat} {o : Bool} {t : Tk} (h0 : 0 ≤ i) (ht : (lexGo s 0).1.drop i.toNat = t :: (lexGo s 0).1.drop (i + 1).toNat) (hok : rOk (L, w, o)) (hsz : rSz L i.toNat) (hgo : pAll s = rGo s.size ((lexGo s 0).1.drop i.toNat) (L, w, o)) (hb : (rstep (L, w, o) t).1 = true)
    {m : Nat} {cs : List C} {f : Option FuncId} {o' : Bool} (hm : m = (rstep (L, w, o) t).2.1.length) (hcs : cs = lnC (rstep (L, w, o) t).2.1) (hf : f = fnW (rstep (L, w, o) t).2.2.1) (ho : o' = (rstep (L, w, o) t).2.2.2) : rInv s (i + 1) m cs f o' := by
  obtain ⟨k1, k2⟩ := rstep_ok (t := t) hok hsz
  subst ho
  refine ⟨_, _, hm, hcs, hf, k1, rSz_mono k2 (by omega), ?_⟩
  rw [hgo, ht, rGo, if_pos hb]
theorem r_bad {s : ByteArray} {i : Int} {L : List Ln} {w : Nat} {o : Bool} {t : Tk} (ht : (lexGo s 0).1.drop i.toNat = t :: (lexGo s 0).1.drop (i + 1).toNat) (hgo : pAll s = rGo s.size ((lexGo s 0).1.drop i.toNat) (L, w, o)) (hb : (rstep (L, w, o) t).1 = false) : pAll s = ([], t.2.2, 14) := by
  rw [hgo, ht, rGo, if_neg (by rw [hb]; decide)]
theorem r_fin {s : ByteArray} {i : Int} {L : List Ln} {w : Nat} {o : Bool} (h : ¬ i < (lxN s : Int)) (hgo : pAll s = rGo s.size ((lexGo s 0).1.drop i.toNat) (L, w, o)) : (o = true → pAll s = ([], (s.size : Int), 14)) ∧ ((L.length : Int) = 0 → pAll s = ([], (s.size : Int), 14)) ∧ (o = false → ¬ (L.length : Int) = 0 → pAll s = (L, 0, 0)) := by
  rw [List.drop_eq_nil_of_le (by unfold lxN at h; omega)] at hgo
  rw [hgo]
  unfold rGo
  refine ⟨fun h => if_pos (.inl h), fun h => if_pos (.inr (List.eq_nil_of_length_eq_zero (show L.length = 0 by omega))), fun h1 h2 => if_neg ?_⟩
  rintro (h3 | h3)
  · rw [show o = true from h3] at h1; cases h1
  · rw [show L = [] from h3] at h2; exact h2 rfl
theorem lastL_mem {L : List Ln} (h : L ≠ []) : lastL L ∈ L := by obtain ⟨L0, x, rfl⟩ := snoc_ex h; rw [lastL_snoc]; simp
theorem addAlt_len {L : List Ln} (h : L ≠ []) : (addAlt L).length = L.length := by obtain ⟨L0, ⟨nm, A⟩, rfl⟩ := snoc_ex h; rw [addAlt_snoc]; simp
theorem addIt_len {L : List Ln} (h : L ≠ []) (b : Bool) (t : ByteArray) : (addIt L b t).length = L.length := by obtain ⟨L0, x, rfl⟩ := snoc_ex h; simp [addIt]
theorem itm_len {L : List Ln} (h : L ≠ []) (o : Bool) (t : Tk) : L.length = (rstep (L, 2, o) t).2.1.length := by
  show _ = (if t.1 = 1 ∨ t.1 = 2 then addIt L (decide (t.1 = 2)) t.2.1 else if t.1 = 4 then addAlt L else L).length
  split
  · exact (addIt_len h _ _).symm
  · split
    · exact (addAlt_len h).symm
    · rfl
theorem itm_cells (L : List Ln) (o : Bool) (t : Tk) : itmC (lnC L) t.1 t.2.1 = lnC (rstep (L, 2, o) t).2.1 := by
  show _ = lnC (if t.1 = 1 ∨ t.1 = 2 then addIt L (decide (t.1 = 2)) t.2.1 else if t.1 = 4 then addAlt L else L)
  unfold itmC
  rw [lnsOf_lnC]
  split
  · rfl
  · split <;> rfl
theorem itm_want (L : List Ln) (o : Bool) (t : Tk) : itmF t.1 = fnW (rstep (L, 2, o) t).2.2.1 := by
  show itmF t.1 = fnW (if t.1 = 5 then 0 else 2)
  unfold itmF
  split <;> rfl
theorem c_name {n : Nat} {cs : List C} {f : Option FuncId} {o : Bool} {k a : Int} {s : ByteArray} (hn : n ≤ 1000000) :
    (std Try.prog T).pc 32 [.root (.box [.tree shL (.sl n cs) none, .me f, .st (vB o)]), .v true [vI k, vS s, vI a]] (ret1 (.st (vB (isK k 1)))) [.box [.tree shL (.sl (up1 n) (nmC cs s)) none, .me (some 38), .st (vB true)], .none] :=
  ⟨enters Try.func32 (by kernel_rfl) (by kernel_rfl), pc_name n cs f o k a s hn⟩
theorem c_colon {L : List Ln} {f : Option FuncId} {o : Bool} {k a : Int} {s : ByteArray} (h0 : L ≠ []) (h1 : L.length ≤ 1000000) (h2 : (lastL L).2.length ≤ 1000000) :
    (std Try.prog T).pc 38 [.root (.box [.tree shL (.sl L.length (lnC L)) none, .me f, .st (vB o)]), .v true [vI k, vS s, vI a]] (ret1 (.st (vB (isK k 3)))) [.box [.tree shL (.sl L.length (altC (lnC L))) none, .me (some 41), .st (vB o)], .none] := by
  obtain ⟨L0, ⟨nm, A⟩, rfl⟩ := snoc_ex h0
  rw [lastL_snoc] at h2
  exact ⟨enters Try.func38 (by kernel_rfl) (by kernel_rfl), pc_colon L0 nm A f o k a s h1 h2⟩
theorem c_item {L : List Ln} {o : Bool} {k a : Int} {s : ByteArray} (h0 : L ≠ []) (hA : (lastL L).2 ≠ []) (h1 : L.length ≤ 1000000) (h2 : (lastL L).2.length ≤ 1000000) (h3 : ∀ x ∈ (lastL L).2, x.length ≤ 1000000) :
    (std Try.prog T).pc 41 [.root (.box [.tree shL (.sl L.length (lnC L)) none, .me (some 41), .st (vB o)]), .v true [vI k, vS s, vI a]] (ret1 (.st (vB (itmB k)))) [.box [.tree shL (.sl L.length (itmC (lnC L) k s)) none, .me (itmF k), .st (vB (itmO k o))], .none] := by
  obtain ⟨L0, ⟨nm, A⟩, rfl⟩ := snoc_ex h0
  rw [lastL_snoc] at h2 h3 hA
  obtain ⟨A0, al, rfl⟩ := snoc_ex hA
  exact ⟨enters Try.func41 (by kernel_rfl) (by kernel_rfl), pc_item L0 nm A0 al o k a s h1 h2 (h3 al (by simp))⟩
theorem pc_parseAll (s : ByteArray) (hs : s.size ≤ 65536) : PC Try.prog T 17 [.v false [vS s]] (rAllP s) [] := by
  have hN := lxN_le s
  have hCl := lxC_len s
  refine pc_of tok Try.func17 rfl (by rfl) ?_
  obtain ⟨j, hj⟩ : ∃ j : J, j = std Try.prog T := ⟨_, rfl⟩
  have hm : Try.prog.follows .mixedOrders = true := by kernel_rfl
  generalize y_lxN : @lxN = x_lxN at *
  generalize y_lxC : @lxC = x_lxC at *
  generalize y_lxA : @lxA = x_lxA at *
  generalize y_lxE : @lxE = x_lxE at *
  generalize y_itmC : @itmC = x_itmC at *
  generalize y_altC : @altC = x_altC at *
  generalize y_itmF : @itmF = x_itmF at *
  generalize y_itmO : @itmO = x_itmO at *
  generalize y_itmB : @itmB = x_itmB at *
  generalize y_nmC : @nmC = x_nmC at *
  generalize y_up1 : @up1 = x_up1 at *
  generalize y_isK : @isK = x_isK at *
  generalize y_lnC : @lnC = x_lnC at *
  (repeat' first | (refine aw_retz hj [(2, .fz), (3, .keep), (4, .keep)] (by cbv) ?_) | ((first | with_reducible refine tr_cut (fun h => ?_) (fun h => ?_) | refine aw_condj (by cbv) (fun h => ?_) (fun h => ?_)) <;> (try simp (disch := omega) only [hj, std, cmpI, cmpB, satB, Bool.not_eq_true, Bool.not_eq_false, decide_eq_true_eq, decide_eq_false_iff_not, beq_iff_eq, bne_iff_ne, bne_eq_false_iff_eq, beq_eq_false_iff_ne, ne_eq, reduceCtorEq, not_true_eq_false, not_false_eq_true, pl0, if_true, cmpS_eq, cmpS_neq, Bool.not_eq_eq_eq_not, Bool.not_true, Bool.not_false, Bool.not_eq_true', add64, sub64] at h) <;> (try (exfalso; omega))) | (with_reducible refine tr_alt (fun h => ?_) ?_ <;> (try (exfalso; omega))) | (with_reducible refine tr_ob ?_ ?_) | (with_reducible refine tr_done ?_) | (refine aw_tr hj tok (bookP4 x_lxN x_lxC x_lxA x_lxE x_itmC x_altC x_itmF x_itmO x_itmB x_nmC x_up1 x_isK) (by cbv) ?_) | (refine aw_seq fun K hK => ?_) | (refine aw_tr1 hj tok (bookP4 x_lxN x_lxC x_lxA x_lxE x_itmC x_altC x_itmF x_itmO x_itmB x_nmC x_up1 x_isK) (by cbv) ?_) | (refine aw_skip ?_) | (refine aw_block ?_) | (refine aw_exit ?_) | (refine aw_ret ⟨.inr rfl, ret_okj hj (by cbv) ?_ ?_⟩) | (refine aw_ret ?_) | (with_reducible refine th_n ?_) | (with_reducible refine th_r ?_) | (with_reducible refine th_x ?_) | (with_reducible refine blk_n ?_) | (with_reducible refine blk_r ?_) | (with_reducible refine blk_x ?_) | (with_reducible refine blk_y rfl ?_) | (refine ⟨.inr rfl, ret_okj hj (by cbv) ?_ ?_⟩) | (refine ⟨.inl rfl, ret_okj hj (by cbv) ?_ ?_⟩) | ((with_reducible refine ⟨(_, _, _, _, _, _, _), by cbv, ?_, ?_⟩)) | ((with_reducible refine ⟨(_, _, _, _, _, _), by cbv, ?_, ?_⟩)) | ((with_reducible refine ⟨(_, _, _, _, _), by cbv, ?_, ?_⟩)) | ((with_reducible refine ⟨(_, _, _, _), by cbv, ?_, ?_⟩)) | ((with_reducible refine ⟨(_, _, _), by cbv, ?_, ?_⟩)) | ((with_reducible refine ⟨(_, _), by cbv, ?_, ?_⟩)) | ((with_reducible refine ⟨_, by cbv, ?_, ?_⟩)) | (with_reducible apply_assumption -symm -exfalso only [*]))
  all_goals ((try subst y_lxN); (try subst y_lxC); (try subst y_lxA); (try subst y_lxE); (try subst y_itmC); (try subst y_altC); (try subst y_itmF); (try subst y_itmO); (try subst y_itmB); (try subst y_nmC); (try subst y_up1); (try subst y_isK); (try subst y_lnC))
  all_goals (try (repeat' first | with_reducible exact obl0 | with_reducible refine obl1 ?_ ?_))
  all_goals (try first | with_reducible exact True.intro | (refine ob_pc hj ?_; (try rw [hj]); first | exact c_lexA hs) | (refine ob_pcn hj ?_; (try rw [hj]); first | exact c_lexA hs) | ((first | refine ob_le hj ?_ | refine ob_lei hj ?_ | refine ob_inb hj ?_ | refine ob_pos hj ?_ | refine ob_ne0 hj ?_ | refine ob_eqb hj ?_); (first | rfl | first | omega | (simp only [hj, std]; split <;> omega) | (simp (disch := omega) only [hj, std, cmpI, cmpB, satB, add64, sub64, ite0, pl0, pl2, pl3, sb0, if_true, if_false, eq_self] <;> omega) | (simp (disch := omega) [hj, std, cmpI, cmpB, satB, add64, sub64, ite0, pl0, pl2, pl3, sb0, if_true, if_false, eq_self] <;> omega))) | ((refine ob_vals hj ?_; exact lxC_vls _)) | ((refine rP_of (L := []) ?_; unfold pAll; rw [if_pos (by assumption)])))
  have hE : lxE s = 0 := by omega
  refine aw_lpj hj [(0, .keep), (8, .keep), (28, .own tokTyL), (29, .keep), (30, .keep), (22, .btree 0 shL)] [22] (fun (⟨i, m, cs, f, o⟩ : Int × Nat × (List C) × (Option FuncId) × Bool) => stOf 62 [(0, .one (.c (vS s))), (8, .one (.ptr 22 0)), (28, .one (.view 28 0)), (29, .one (.c (vI (j.ofNat (lxN s))))), (30, .one (.c (vI i)))] [(28, .loose [.own tokTyL (lxN s) (lxC s)]), (22, .box [.tree shL (.sl m cs) none, .me f, .st (vB o)])]) (fun (⟨i, m, cs, f, o⟩ : Int × Nat × (List C) × (Option FuncId) × Bool) => lxN s - i.toNat) (fun (⟨i, m, cs, f, o⟩ : Int × Nat × (List C) × (Option FuncId) × Bool) => 0 ≤ i ∧ i ≤ lxN s ∧ rInv s i m cs f o) ((0, 0, [], fnW 0, false)) (by generalize @lxN = x_lxN; generalize @lxC = x_lxC; generalize @lxA = x_lxA; generalize @lxE = x_lxE; generalize @itmC = x_itmC; generalize @altC = x_altC; generalize @itmF = x_itmF; generalize @itmO = x_itmO; generalize @itmB = x_itmB; generalize @nmC = x_nmC; generalize @up1 = x_up1; generalize @isK = x_isK; generalize @lnC = x_lnC; cbv) ?_ (fun ⟨i, m, cs, f, o⟩ hI => ?_)
  · exact ⟨by omega, by omega, [], 0, rfl, rfl, rfl, .inl rfl, ⟨by simp, fun x hx => by cases hx⟩, by unfold pAll; rw [if_neg (by omega)]; rfl⟩
  obtain ⟨i1, i2, L, w, hm1, hc1, rfl, hok, hsz, hgo⟩ := hI
  have hfin := @r_fin s i L w o
  have hb1 := hsz.1
  have hfin1 := fun h => hfin h hgo
  rcases id hok with hw | ⟨hw, hL⟩ | ⟨hw, hL, hA⟩
  · change w = 0 at hw; subst hw
    generalize y_lxN : @lxN = x_lxN at *
    generalize y_lxC : @lxC = x_lxC at *
    generalize y_lxA : @lxA = x_lxA at *
    generalize y_lxE : @lxE = x_lxE at *
    generalize y_itmC : @itmC = x_itmC at *
    generalize y_altC : @altC = x_altC at *
    generalize y_itmF : @itmF = x_itmF at *
    generalize y_itmO : @itmO = x_itmO at *
    generalize y_itmB : @itmB = x_itmB at *
    generalize y_nmC : @nmC = x_nmC at *
    generalize y_up1 : @up1 = x_up1 at *
    generalize y_isK : @isK = x_isK at *
    generalize y_lnC : @lnC = x_lnC at *
    (repeat' first | (refine aw_retz hj [(2, .fz), (3, .keep), (4, .keep)] (by cbv) ?_) | ((first | with_reducible refine tr_cut (fun h => ?_) (fun h => ?_) | refine aw_condj (by cbv) (fun h => ?_) (fun h => ?_)) <;> (try simp (disch := omega) only [hj, std, cmpI, cmpB, satB, Bool.not_eq_true, Bool.not_eq_false, decide_eq_true_eq, decide_eq_false_iff_not, beq_iff_eq, bne_iff_ne, bne_eq_false_iff_eq, beq_eq_false_iff_ne, ne_eq, reduceCtorEq, not_true_eq_false, not_false_eq_true, pl0, if_true, cmpS_eq, cmpS_neq, Bool.not_eq_eq_eq_not, Bool.not_true, Bool.not_false, Bool.not_eq_true', add64, sub64] at h) <;> (try (exfalso; omega))) | (with_reducible refine tr_alt (fun h => ?_) ?_ <;> (try (exfalso; omega))) | (with_reducible refine tr_ob ?_ ?_) | (with_reducible refine tr_done ?_) | (refine aw_dr1 (id := 10) hj tok hm (bookP4 x_lxN x_lxC x_lxA x_lxE x_itmC x_altC x_itmF x_itmO x_itmB x_nmC x_up1 x_isK) true [(0, false), (1, false), (2, true), (3, true), (4, true)] (by kernel_rfl) (by cbv) ?_) | (refine aw_dr (id := 10) hj tok hm (bookP4 x_lxN x_lxC x_lxA x_lxE x_itmC x_altC x_itmF x_itmO x_itmB x_nmC x_up1 x_isK) true [(0, false), (1, false), (2, true), (3, true), (4, true)] (by kernel_rfl) (by cbv) ?_) | (with_reducible refine dr_go (by cbv) ?_) | (refine aw_dw1 (id := 9) hj tok hm (bookP4 x_lxN x_lxC x_lxA x_lxE x_itmC x_altC x_itmF x_itmO x_itmB x_nmC x_up1 x_isK) [(0, false), (1, false), (2, false), (3, false), (4, true)] [(5, true), (6, true)] [0, 1, 2, 3] (by kernel_rfl) (by cbv) ?_) | (refine aw_dw (id := 9) hj tok hm (bookP4 x_lxN x_lxC x_lxA x_lxE x_itmC x_altC x_itmF x_itmO x_itmB x_nmC x_up1 x_isK) [(0, false), (1, false), (2, false), (3, false), (4, true)] [(5, true), (6, true)] [0, 1, 2, 3] (by kernel_rfl) (by cbv) ?_) | (refine aw_tr hj tok (bookP4 x_lxN x_lxC x_lxA x_lxE x_itmC x_altC x_itmF x_itmO x_itmB x_nmC x_up1 x_isK) (by cbv) ?_) | (refine aw_seq fun K hK => ?_) | (refine aw_tr1 hj tok (bookP4 x_lxN x_lxC x_lxA x_lxE x_itmC x_altC x_itmF x_itmO x_itmB x_nmC x_up1 x_isK) (by cbv) ?_) | (refine aw_skip ?_) | (refine aw_block ?_) | (refine aw_exit ?_) | (refine aw_ret ⟨.inr rfl, ret_okj hj (by cbv) ?_ ?_⟩) | (refine aw_ret ?_) | (with_reducible refine th_n ?_) | (with_reducible refine th_r ?_) | (with_reducible refine th_x ?_) | (with_reducible refine blk_n ?_) | (with_reducible refine blk_r ?_) | (with_reducible refine blk_x ?_) | (with_reducible refine blk_y rfl ?_) | (refine ⟨.inr rfl, ret_okj hj (by cbv) ?_ ?_⟩) | (refine ⟨.inl rfl, ret_okj hj (by cbv) ?_ ?_⟩) | ((with_reducible refine ⟨(_, _, _, _, _, _, _), by cbv, ?_, ?_⟩)) | ((with_reducible refine ⟨(_, _, _, _, _, _), by cbv, ?_, ?_⟩)) | ((with_reducible refine ⟨(_, _, _, _, _), by cbv, ?_, ?_⟩)) | ((with_reducible refine ⟨(_, _, _, _), by cbv, ?_, ?_⟩)) | ((with_reducible refine ⟨(_, _, _), by cbv, ?_, ?_⟩)) | ((with_reducible refine ⟨(_, _), by cbv, ?_, ?_⟩)) | ((with_reducible refine ⟨_, by cbv, ?_, ?_⟩)) | (with_reducible apply_assumption -symm -exfalso only [*]))
    all_goals ((try subst y_lxN); (try subst y_lxC); (try subst y_lxA); (try subst y_lxE); (try subst y_itmC); (try subst y_altC); (try subst y_itmF); (try subst y_itmO); (try subst y_itmB); (try subst y_nmC); (try subst y_up1); (try subst y_isK); (try subst y_lnC))
    all_goals (try (have hi := ‹i < (lxN s : Int)›; obtain ⟨t, t1, t2, t3, t4⟩ := tk_drop i1 hi))
    all_goals (try (have q := ‹isK _ 1 = true›; rw [t2] at q))
    all_goals (try (have q := ‹isK _ 1 = false›; rw [t2] at q))
    all_goals (try (repeat' first | with_reducible exact obl0 | with_reducible refine obl1 ?_ ?_))
    all_goals (try first | with_reducible exact True.intro | (refine ob_pc hj ?_; (try rw [hj]); first | exact c_name (by omega)) | (refine ob_pcn hj ?_; (try rw [hj]); first | exact c_name (by omega)) | ((first | refine ob_le hj ?_ | refine ob_lei hj ?_ | refine ob_inb hj ?_ | refine ob_pos hj ?_ | refine ob_ne0 hj ?_ | refine ob_eqb hj ?_); (first | rfl | first | omega | (simp only [hj, std]; split <;> omega) | (simp (disch := omega) only [hj, std, cmpI, cmpB, satB, add64, sub64, ite0, pl0, pl2, pl3, sb0, if_true, if_false, eq_self, lxC_len] <;> omega) | (simp (disch := omega) [hj, std, cmpI, cmpB, satB, add64, sub64, ite0, pl0, pl2, pl3, sb0, if_true, if_false, eq_self, lxC_len] <;> omega))) | ((refine ob_ok hj ?_; simp only [hj, std, t2, t3, t4]; exact ⟨_, rfl⟩)) | ((refine rP_of (L := []) ?_; rw [hj]; first | exact (hfin1 (by omega)).1 (by assumption) | exact (hfin1 (by omega)).2.1 (by omega) | (simp only [std, t4]; exact r_bad t1 hgo q))) | ((rw [hm1, hc1]; exact rP_of ((hfin1 (by omega)).2.2 (by assumption) (by omega)))) | ((simp (disch := omega) only [hj, std, add64, t2, t3]; first | omega | exact ⟨by omega, by omega, r_next i1 t1 hok hsz hgo q (by rw [hm1]; show up1 L.length = (L ++ [_]).length; simp [up1]) (by rw [hc1]; exact lnC_name L _) rfl rfl⟩)))
  · change w = 1 at hw; subst hw
    have hlm := hsz.2 _ (lastL_mem hL)
    generalize y_lxN : @lxN = x_lxN at *
    generalize y_lxC : @lxC = x_lxC at *
    generalize y_lxA : @lxA = x_lxA at *
    generalize y_lxE : @lxE = x_lxE at *
    generalize y_itmC : @itmC = x_itmC at *
    generalize y_altC : @altC = x_altC at *
    generalize y_itmF : @itmF = x_itmF at *
    generalize y_itmO : @itmO = x_itmO at *
    generalize y_itmB : @itmB = x_itmB at *
    generalize y_nmC : @nmC = x_nmC at *
    generalize y_up1 : @up1 = x_up1 at *
    generalize y_isK : @isK = x_isK at *
    generalize y_lnC : @lnC = x_lnC at *
    (repeat' first | (refine aw_retz hj [(2, .fz), (3, .keep), (4, .keep)] (by cbv) ?_) | ((first | with_reducible refine tr_cut (fun h => ?_) (fun h => ?_) | refine aw_condj (by cbv) (fun h => ?_) (fun h => ?_)) <;> (try simp (disch := omega) only [hj, std, cmpI, cmpB, satB, Bool.not_eq_true, Bool.not_eq_false, decide_eq_true_eq, decide_eq_false_iff_not, beq_iff_eq, bne_iff_ne, bne_eq_false_iff_eq, beq_eq_false_iff_ne, ne_eq, reduceCtorEq, not_true_eq_false, not_false_eq_true, pl0, if_true, cmpS_eq, cmpS_neq, Bool.not_eq_eq_eq_not, Bool.not_true, Bool.not_false, Bool.not_eq_true', add64, sub64] at h) <;> (try (exfalso; omega))) | (with_reducible refine tr_alt (fun h => ?_) ?_ <;> (try (exfalso; omega))) | (with_reducible refine tr_ob ?_ ?_) | (with_reducible refine tr_done ?_) | (refine aw_dr1 (id := 10) hj tok hm (bookP4 x_lxN x_lxC x_lxA x_lxE x_itmC x_altC x_itmF x_itmO x_itmB x_nmC x_up1 x_isK) true [(0, false), (1, false), (2, true), (3, true), (4, true)] (by kernel_rfl) (by cbv) ?_) | (refine aw_dr (id := 10) hj tok hm (bookP4 x_lxN x_lxC x_lxA x_lxE x_itmC x_altC x_itmF x_itmO x_itmB x_nmC x_up1 x_isK) true [(0, false), (1, false), (2, true), (3, true), (4, true)] (by kernel_rfl) (by cbv) ?_) | (with_reducible refine dr_go (by cbv) ?_) | (refine aw_dw1 (id := 9) hj tok hm (bookP4 x_lxN x_lxC x_lxA x_lxE x_itmC x_altC x_itmF x_itmO x_itmB x_nmC x_up1 x_isK) [(0, false), (1, false), (2, false), (3, false), (4, true)] [(5, true), (6, true)] [0, 1, 2, 3] (by kernel_rfl) (by cbv) ?_) | (refine aw_dw (id := 9) hj tok hm (bookP4 x_lxN x_lxC x_lxA x_lxE x_itmC x_altC x_itmF x_itmO x_itmB x_nmC x_up1 x_isK) [(0, false), (1, false), (2, false), (3, false), (4, true)] [(5, true), (6, true)] [0, 1, 2, 3] (by kernel_rfl) (by cbv) ?_) | (refine aw_tr hj tok (bookP4 x_lxN x_lxC x_lxA x_lxE x_itmC x_altC x_itmF x_itmO x_itmB x_nmC x_up1 x_isK) (by cbv) ?_) | (refine aw_seq fun K hK => ?_) | (refine aw_tr1 hj tok (bookP4 x_lxN x_lxC x_lxA x_lxE x_itmC x_altC x_itmF x_itmO x_itmB x_nmC x_up1 x_isK) (by cbv) ?_) | (refine aw_skip ?_) | (refine aw_block ?_) | (refine aw_exit ?_) | (refine aw_ret ⟨.inr rfl, ret_okj hj (by cbv) ?_ ?_⟩) | (refine aw_ret ?_) | (with_reducible refine th_n ?_) | (with_reducible refine th_r ?_) | (with_reducible refine th_x ?_) | (with_reducible refine blk_n ?_) | (with_reducible refine blk_r ?_) | (with_reducible refine blk_x ?_) | (with_reducible refine blk_y rfl ?_) | (refine ⟨.inr rfl, ret_okj hj (by cbv) ?_ ?_⟩) | (refine ⟨.inl rfl, ret_okj hj (by cbv) ?_ ?_⟩) | ((with_reducible refine ⟨(_, _, _, _, _, _, _), by cbv, ?_, ?_⟩)) | ((with_reducible refine ⟨(_, _, _, _, _, _), by cbv, ?_, ?_⟩)) | ((with_reducible refine ⟨(_, _, _, _, _), by cbv, ?_, ?_⟩)) | ((with_reducible refine ⟨(_, _, _, _), by cbv, ?_, ?_⟩)) | ((with_reducible refine ⟨(_, _, _), by cbv, ?_, ?_⟩)) | ((with_reducible refine ⟨(_, _), by cbv, ?_, ?_⟩)) | ((with_reducible refine ⟨_, by cbv, ?_, ?_⟩)) | (with_reducible apply_assumption -symm -exfalso only [*]))
    all_goals ((try subst y_lxN); (try subst y_lxC); (try subst y_lxA); (try subst y_lxE); (try subst y_itmC); (try subst y_altC); (try subst y_itmF); (try subst y_itmO); (try subst y_itmB); (try subst y_nmC); (try subst y_up1); (try subst y_isK); (try subst y_lnC))
    all_goals (try subst hm1)
    all_goals (try subst hc1)
    all_goals (have hm1 : L.length = L.length := rfl)
    all_goals (have hc1 : lnC L = lnC L := rfl)
    all_goals (try (have hi := ‹i < (lxN s : Int)›; obtain ⟨t, t1, t2, t3, t4⟩ := tk_drop i1 hi))
    all_goals (try (have q := ‹isK _ 3 = true›; rw [t2] at q))
    all_goals (try (have q := ‹isK _ 3 = false›; rw [t2] at q))
    all_goals (try (repeat' first | with_reducible exact obl0 | with_reducible refine obl1 ?_ ?_))
    all_goals (try first | with_reducible exact True.intro | (refine ob_pc hj ?_; (try rw [hj]); first | exact c_colon hL (by omega) (by omega)) | (refine ob_pcn hj ?_; (try rw [hj]); first | exact c_colon hL (by omega) (by omega)) | ((first | refine ob_le hj ?_ | refine ob_lei hj ?_ | refine ob_inb hj ?_ | refine ob_pos hj ?_ | refine ob_ne0 hj ?_ | refine ob_eqb hj ?_); (first | rfl | first | omega | (simp only [hj, std]; split <;> omega) | (simp (disch := omega) only [hj, std, cmpI, cmpB, satB, add64, sub64, ite0, pl0, pl2, pl3, sb0, if_true, if_false, eq_self, lxC_len] <;> omega) | (simp (disch := omega) [hj, std, cmpI, cmpB, satB, add64, sub64, ite0, pl0, pl2, pl3, sb0, if_true, if_false, eq_self, lxC_len] <;> omega))) | ((refine ob_ok hj ?_; simp only [hj, std, t2, t3, t4]; exact ⟨_, rfl⟩)) | ((refine rP_of (L := []) ?_; rw [hj]; first | exact (hfin1 (by omega)).1 (by assumption) | exact (hfin1 (by omega)).2.1 (by omega) | (simp only [std, t4]; exact r_bad t1 hgo q))) | ((rw [hm1, hc1]; exact rP_of ((hfin1 (by omega)).2.2 (by assumption) (by omega)))) | ((simp (disch := omega) only [hj, std, add64, t2, t3]; first | omega | exact ⟨by omega, by omega, r_next i1 t1 hok hsz hgo q (by rw [hm1]; exact (addAlt_len hL).symm) (by rw [hc1]; show altC (lnC L) = lnC (addAlt L); unfold altC; rw [lnsOf_lnC]) rfl rfl⟩)))
  · change w = 2 at hw; subst hw
    have hlm := hsz.2 _ (lastL_mem hL)
    change (lastL L).2 ≠ [] at hA
    generalize y_lxN : @lxN = x_lxN at *
    generalize y_lxC : @lxC = x_lxC at *
    generalize y_lxA : @lxA = x_lxA at *
    generalize y_lxE : @lxE = x_lxE at *
    generalize y_itmC : @itmC = x_itmC at *
    generalize y_altC : @altC = x_altC at *
    generalize y_itmF : @itmF = x_itmF at *
    generalize y_itmO : @itmO = x_itmO at *
    generalize y_itmB : @itmB = x_itmB at *
    generalize y_nmC : @nmC = x_nmC at *
    generalize y_up1 : @up1 = x_up1 at *
    generalize y_isK : @isK = x_isK at *
    generalize y_lnC : @lnC = x_lnC at *
    (repeat' first | (refine aw_retz hj [(2, .fz), (3, .keep), (4, .keep)] (by cbv) ?_) | ((first | with_reducible refine tr_cut (fun h => ?_) (fun h => ?_) | refine aw_condj (by cbv) (fun h => ?_) (fun h => ?_)) <;> (try simp (disch := omega) only [hj, std, cmpI, cmpB, satB, Bool.not_eq_true, Bool.not_eq_false, decide_eq_true_eq, decide_eq_false_iff_not, beq_iff_eq, bne_iff_ne, bne_eq_false_iff_eq, beq_eq_false_iff_ne, ne_eq, reduceCtorEq, not_true_eq_false, not_false_eq_true, pl0, if_true, cmpS_eq, cmpS_neq, Bool.not_eq_eq_eq_not, Bool.not_true, Bool.not_false, Bool.not_eq_true', add64, sub64] at h) <;> (try (exfalso; omega))) | (with_reducible refine tr_alt (fun h => ?_) ?_ <;> (try (exfalso; omega))) | (with_reducible refine tr_ob ?_ ?_) | (with_reducible refine tr_done ?_) | (refine aw_dr1 (id := 10) hj tok hm (bookP4 x_lxN x_lxC x_lxA x_lxE x_itmC x_altC x_itmF x_itmO x_itmB x_nmC x_up1 x_isK) true [(0, false), (1, false), (2, true), (3, true), (4, true)] (by kernel_rfl) (by cbv) ?_) | (refine aw_dr (id := 10) hj tok hm (bookP4 x_lxN x_lxC x_lxA x_lxE x_itmC x_altC x_itmF x_itmO x_itmB x_nmC x_up1 x_isK) true [(0, false), (1, false), (2, true), (3, true), (4, true)] (by kernel_rfl) (by cbv) ?_) | (with_reducible refine dr_go (by cbv) ?_) | (refine aw_dw1 (id := 9) hj tok hm (bookP4 x_lxN x_lxC x_lxA x_lxE x_itmC x_altC x_itmF x_itmO x_itmB x_nmC x_up1 x_isK) [(0, false), (1, false), (2, false), (3, false), (4, true)] [(5, true), (6, true)] [0, 1, 2, 3] (by kernel_rfl) (by cbv) ?_) | (refine aw_dw (id := 9) hj tok hm (bookP4 x_lxN x_lxC x_lxA x_lxE x_itmC x_altC x_itmF x_itmO x_itmB x_nmC x_up1 x_isK) [(0, false), (1, false), (2, false), (3, false), (4, true)] [(5, true), (6, true)] [0, 1, 2, 3] (by kernel_rfl) (by cbv) ?_) | (refine aw_tr hj tok (bookP4 x_lxN x_lxC x_lxA x_lxE x_itmC x_altC x_itmF x_itmO x_itmB x_nmC x_up1 x_isK) (by cbv) ?_) | (refine aw_seq fun K hK => ?_) | (refine aw_tr1 hj tok (bookP4 x_lxN x_lxC x_lxA x_lxE x_itmC x_altC x_itmF x_itmO x_itmB x_nmC x_up1 x_isK) (by cbv) ?_) | (refine aw_skip ?_) | (refine aw_block ?_) | (refine aw_exit ?_) | (refine aw_ret ⟨.inr rfl, ret_okj hj (by cbv) ?_ ?_⟩) | (refine aw_ret ?_) | (with_reducible refine th_n ?_) | (with_reducible refine th_r ?_) | (with_reducible refine th_x ?_) | (with_reducible refine blk_n ?_) | (with_reducible refine blk_r ?_) | (with_reducible refine blk_x ?_) | (with_reducible refine blk_y rfl ?_) | (refine ⟨.inr rfl, ret_okj hj (by cbv) ?_ ?_⟩) | (refine ⟨.inl rfl, ret_okj hj (by cbv) ?_ ?_⟩) | ((with_reducible refine ⟨(_, _, _, _, _, _, _), by cbv, ?_, ?_⟩)) | ((with_reducible refine ⟨(_, _, _, _, _, _), by cbv, ?_, ?_⟩)) | ((with_reducible refine ⟨(_, _, _, _, _), by cbv, ?_, ?_⟩)) | ((with_reducible refine ⟨(_, _, _, _), by cbv, ?_, ?_⟩)) | ((with_reducible refine ⟨(_, _, _), by cbv, ?_, ?_⟩)) | ((with_reducible refine ⟨(_, _), by cbv, ?_, ?_⟩)) | ((with_reducible refine ⟨_, by cbv, ?_, ?_⟩)) | (with_reducible apply_assumption -symm -exfalso only [*]))
    all_goals ((try subst y_lxN); (try subst y_lxC); (try subst y_lxA); (try subst y_lxE); (try subst y_itmC); (try subst y_altC); (try subst y_itmF); (try subst y_itmO); (try subst y_itmB); (try subst y_nmC); (try subst y_up1); (try subst y_isK); (try subst y_lnC))
    all_goals (try subst hm1)
    all_goals (try subst hc1)
    all_goals (have hm1 : L.length = L.length := rfl)
    all_goals (have hc1 : lnC L = lnC L := rfl)
    all_goals (try (have hi := ‹i < (lxN s : Int)›; obtain ⟨t, t1, t2, t3, t4⟩ := tk_drop i1 hi))
    all_goals (try (have q := ‹itmB _ = true›; rw [t2] at q))
    all_goals (try (have q := ‹itmB _ = false›; rw [t2] at q))
    all_goals (try (repeat' first | with_reducible exact obl0 | with_reducible refine obl1 ?_ ?_))
    all_goals (try first | with_reducible exact True.intro | (refine ob_pc hj ?_; (try rw [hj]); first | exact c_item hL hA (by omega) (by omega) (fun x hx => by have := hlm.2 x hx; omega)) | (refine ob_pcn hj ?_; (try rw [hj]); first | exact c_item hL hA (by omega) (by omega) (fun x hx => by have := hlm.2 x hx; omega)) | ((first | refine ob_le hj ?_ | refine ob_lei hj ?_ | refine ob_inb hj ?_ | refine ob_pos hj ?_ | refine ob_ne0 hj ?_ | refine ob_eqb hj ?_); (first | rfl | first | omega | (simp only [hj, std]; split <;> omega) | (simp (disch := omega) only [hj, std, cmpI, cmpB, satB, add64, sub64, ite0, pl0, pl2, pl3, sb0, if_true, if_false, eq_self, lxC_len] <;> omega) | (simp (disch := omega) [hj, std, cmpI, cmpB, satB, add64, sub64, ite0, pl0, pl2, pl3, sb0, if_true, if_false, eq_self, lxC_len] <;> omega))) | ((refine ob_ok hj ?_; simp only [hj, std, t2, t3, t4]; exact ⟨_, rfl⟩)) | ((refine rP_of (L := []) ?_; rw [hj]; first | exact (hfin1 (by omega)).1 (by assumption) | exact (hfin1 (by omega)).2.1 (by omega) | (simp only [std, t4]; exact r_bad t1 hgo q))) | ((rw [hm1, hc1]; exact rP_of ((hfin1 (by omega)).2.2 (by assumption) (by omega)))) | ((simp (disch := omega) only [hj, std, add64, t2, t3]; first | omega | exact ⟨by omega, by omega, r_next i1 t1 hok hsz hgo q (by rw [hm1]; exact itm_len hL o t) (by rw [hc1]; exact itm_cells L o t) (itm_want L o t) rfl⟩)))
end Go.Proofs.Ytljnfejcdadjpaa.A
/- Rules by the reference: one rule, in plain words. -/
set_option linter.unusedSimpArgs false
set_option linter.unusedVariables false
set_option maxRecDepth 100000
set_option maxHeartbeats 4000000
namespace Go.Proofs.Ytljnfejcdadjpaa.A
open Go
def al2C (l : List (List It)) : List C := l.map fun a => .sl a.length (itC a)
def ln2C (l : List Ln) : List C := l.flatMap fun x => [vS x.1, .sl x.2.length (al2C x.2)]
theorem al2C_len (l : List (List It)) : (al2C l).length = l.length := by unfold al2C; simp
theorem ln2C_len (l : List Ln) : (ln2C l).length = l.length * 2 := by unfold ln2C; induction l with | nil => rfl | cons x l ih => simp at ih ⊢; omega
theorem al2C_snoc (l : List (List It)) (a : List It) {n : Nat} {cs : List C} (hn : n = a.length) (hc : cs = itC a) : al2C l ++ [.sl n cs] = al2C (l ++ [a]) := by subst hn; subst hc; simp [al2C]
theorem ln2C_snoc (l : List Ln) (x : Ln) {n : Nat} {cs : List C} (hn : n = x.2.length) (hc : cs = al2C x.2) : ln2C l ++ [vS x.1, .sl n cs] = ln2C (l ++ [x]) := by subst hn; subst hc; simp [ln2C]
def tksGo : List C → List Tk
  | a :: b :: c :: r => (gi a, gs b, gi c) :: tksGo r
  | _ => []
def tksOf (cs : List C) : List Tk := tksGo cs
theorem tksOf_tk (l : List Tk) : tksOf (tkCells l) = l := by
  unfold tksOf tkCells
  induction l with
  | nil => rfl
  | cons x l ih => show (_, _, _) :: tksGo (l.flatMap _) = _; rw [ih]; rfl
def rlI (nm : ByteArray) : List (List It) → List It → Int → List Tk → Ln × Int × Bool
  | A, _, p, [] => ((nm, A), p, false)
  | A, cur, p, t :: ts =>
    if t.1 = 1 ∨ t.1 = 2 then rlI nm A (cur ++ [(decide (t.1 = 2), t.2.1)]) (p + 1) ts
    else if t.1 = 4 then rlI nm (A ++ [cur]) [] (p + 1) ts
    else if t.1 = 5 then ((nm, A ++ [cur]), p + 1, true) else ((nm, A), p, false)
def rlG (p : Int) : List Tk → Ln × Int × Bool
  | [] => ((ByteArray.empty, []), p, false)
  | t :: ts =>
    if t.1 ≠ 1 then ((ByteArray.empty, []), p, false)
    else match ts with
    | [] => ((t.2.1, []), p + 1, false)
    | c :: ts' => if c.1 ≠ 3 then ((t.2.1, []), p + 1, false) else rlI t.2.1 [] [] (p + 2) ts'
def rlA (cs : List C) (i : Int) : Ln × Int × Bool := rlG i ((tksOf cs).drop i.toNat)
def rlM (cs : List C) (i : Int) : ByteArray := (rlA cs i).1.1
def rlN (cs : List C) (i : Int) : Nat := (rlA cs i).1.2.length
def rlC (cs : List C) (i : Int) : List C := al2C (rlA cs i).1.2
def rlX (cs : List C) (i : Int) : Int := (rlA cs i).2.1
def rlB (cs : List C) (i : Int) : Bool := (rlA cs i).2.2
abbrev itT13 : TypeId := 68
abbrev altT13 : TypeId := 65
abbrev lnT13 : TypeId := 62
def rRule (cs : List C) (i : Int) : RV := rets [(true, [.st (vS (rlM cs i)), .own altT13 (rlN cs i) (rlC cs i)]), (false, [.st (vI (rlX cs i))]), (false, [.st (vB (rlB cs i))])]
theorem rRule_of {cs : List C} {i : Int} {nm : ByteArray} {A : List (List It)} {p : Int} {b : Bool} (h : rlA cs i = ((nm, A), p, b)) {n : Nat} {ds : List C} {q : Int} (hn : n = A.length) (hd : ds = al2C A) (hq : q = p) :
    rRule cs i = ⟨true, [(true, [.st (vS nm), .own altT13 n ds]), (false, [.st (vI q)]), (false, [.st (vB b)])]⟩ := by
  subst hn; subst hd; subst hq
  unfold rRule rlM rlN rlC rlX rlB; rw [h]; rfl
theorem aw_retb {P : Program} {T : TT} {Q : Exit → St → Prop} {st : St} {j : J} (hj : j = std P T) (ks : List (Nat × KS)) (bs : List Nat) {st1 : St} (h : canon T j ks bs st = some st1) (k : Q .ret st1) : Aw P T .ret Q st := forgetj hj ks bs h (aw_ret k)
theorem rl_at {ts : List Tk} {i : Int} (h0 : 0 ≤ i) (h : i < (ts.length : Int)) : ∃ t : Tk, ts.drop i.toNat = t :: ts.drop (i + 1).toNat ∧ cellAt (tkCells ts) (i.toNat * 3) = vI t.1 ∧ cellAt (tkCells ts) (i.toNat * 3 + 1) = vS t.2.1 ∧ cellAt (tkCells ts) (i.toNat * 3 + 2) = vI t.2.2 := by
  have hl : i.toNat < ts.length := by omega
  refine ⟨ts[i.toNat], ?_, tkCells_at ts i.toNat hl⟩
  rw [show (i + 1).toNat = i.toNat + 1 by omega]
  exact List.drop_eq_getElem_cons hl
def rlInv (ts : List Tk) (i k : Int) (nm : ByteArray) (m : Nat) (ds : List C) (u : Nat) (es : List C) : Prop :=
  ∃ A cur, m = A.length ∧ ds = al2C A ∧ u = cur.length ∧ es = itC cur ∧ A.length ≤ k.toNat ∧ cur.length ≤ k.toNat ∧ rlG i (ts.drop i.toNat) = rlI nm A cur k (ts.drop k.toNat)
theorem rlG_a {p : Int} {t : Tk} {ts : List Tk} (h : ¬ t.1 = 1) : rlG p (t :: ts) = ((ByteArray.empty, []), p, false) := by simp [rlG, h]
theorem rlG_b {p : Int} {t : Tk} (h : t.1 = 1) : rlG p [t] = ((t.2.1, []), p + 1, false) := by simp [rlG, h]
theorem rlG_c {p : Int} {t c : Tk} {ts : List Tk} (h : t.1 = 1) (h3 : ¬ c.1 = 3) : rlG p (t :: c :: ts) = ((t.2.1, []), p + 1, false) := by simp [rlG, h, h3]
theorem rlG_d {p : Int} {t c : Tk} {ts : List Tk} (h : t.1 = 1) (h3 : c.1 = 3) : rlG p (t :: c :: ts) = rlI t.2.1 [] [] (p + 2) ts := by simp [rlG, h, h3]
theorem rlI_e (nm : ByteArray) (A : List (List It)) (cur : List It) (p : Int) : rlI nm A cur p [] = ((nm, A), p, false) := rfl
theorem rlI_it {nm : ByteArray} {A : List (List It)} {cur : List It} {p : Int} {t : Tk} {ts : List Tk} (h : t.1 = 1 ∨ t.1 = 2) : rlI nm A cur p (t :: ts) = rlI nm A (cur ++ [(decide (t.1 = 2), t.2.1)]) (p + 1) ts := by simp [rlI, h]
theorem rlI_bar {nm : ByteArray} {A : List (List It)} {cur : List It} {p : Int} {t : Tk} {ts : List Tk} (h : t.1 = 4) : rlI nm A cur p (t :: ts) = rlI nm (A ++ [cur]) [] (p + 1) ts := by simp [rlI, h]
theorem rlI_semi {nm : ByteArray} {A : List (List It)} {cur : List It} {p : Int} {t : Tk} {ts : List Tk} (h : t.1 = 5) : rlI nm A cur p (t :: ts) = ((nm, A ++ [cur]), p + 1, true) := by simp [rlI, h]
theorem rlI_bad {nm : ByteArray} {A : List (List It)} {cur : List It} {p : Int} {t : Tk} {ts : List Tk} (h1 : ¬ t.1 = 1) (h2 : ¬ t.1 = 2) (h4 : ¬ t.1 = 4) (h5 : ¬ t.1 = 5) : rlI nm A cur p (t :: ts) = ((nm, A), p, false) := by simp [rlI, h1, h2, h4, h5]
theorem pc_rule13 (ts : List Tk) (i : Int) (h0 : 0 ≤ i) (hi : i < (ts.length : Int)) (hn : ts.length ≤ 1000000) : PC Try.prog T 33 [.v false [.sl ts.length (tkCells ts)], .v false [vI i]] (rRule (tkCells ts) i) [] := by
  have hl := tkCells_length ts
  have hA : rlA (tkCells ts) i = rlG i (ts.drop i.toNat) := by unfold rlA; rw [tksOf_tk]
  obtain ⟨t, t1, t2, t3, t4⟩ := rl_at h0 hi
  have hc1 := fun h : i + 1 < (ts.length : Int) => rl_at (ts := ts) (i := i + 1) (by omega) h
  have ec := fun h : i + 1 < (ts.length : Int) => hc1 h
  have en : ¬ i + 1 < (ts.length : Int) → ts.drop (i + 1).toNat = [] := fun h => List.drop_eq_nil_of_le (by omega)
  have hat := fun (k : Int) (a : 0 ≤ k) (b : k < (ts.length : Int)) => rl_at (ts := ts) a b
  have hen := fun (k : Int) (a : ¬ k < (ts.length : Int)) => (List.drop_eq_nil_of_le (by omega) : ts.drop k.toNat = [])
  generalize hm1 : ts.length = n at *
  generalize hm2 : tkCells ts = cs at *
  have g2 : gi (cellAt cs (i.toNat * 3)) = t.1 := by rw [t2]; rfl
  have g3 : gs (cellAt cs (i.toNat * 3 + 1)) = t.2.1 := by rw [t3]; rfl
  refine pc_of tok Try.func33 rfl (by rfl) ?_
  obtain ⟨j, hj⟩ : ∃ j : J, j = std Try.prog T := ⟨_, rfl⟩
  have hm : Try.prog.follows .mixedOrders = true := by kernel_rfl
  have ei : arithI .add .i64 i 1 = i + 1 := add64 (by omega) (by omega)
  (repeat' first | (refine aw_retb hj [(4, .keep), (5, .keep), (6, .keep), (4, .box 1 altT13)] [4] (by cbv) ?_) | ((first | with_reducible refine tr_cut (fun h => ?_) (fun h => ?_) | refine aw_condj (by cbv) (fun h => ?_) (fun h => ?_)) <;> (try simp (disch := omega) only [hj, std, cmpI, cmpB, satB, Bool.not_eq_true, Bool.not_eq_false, decide_eq_true_eq, decide_eq_false_iff_not, beq_iff_eq, bne_iff_ne, bne_eq_false_iff_eq, beq_eq_false_iff_ne, ne_eq, reduceCtorEq, not_true_eq_false, not_false_eq_true, pl0, if_true, cmpS_eq, cmpS_neq, Bool.not_eq_eq_eq_not, Bool.not_true, Bool.not_false, Bool.not_eq_true', g2, g3, ei, add64, sub64] at h) <;> (try (exfalso; omega))) | (with_reducible refine tr_alt (fun h => ?_) ?_ <;> (try (exfalso; omega))) | (with_reducible refine tr_ob ?_ ?_) | (with_reducible refine tr_done ?_) | (refine aw_tr hj tok book0 (by cbv) ?_) | (refine aw_seq fun K hK => ?_) | (refine aw_tr1 hj tok book0 (by cbv) ?_) | (refine aw_skip ?_) | (refine aw_block ?_) | (refine aw_exit ?_) | (refine aw_ret ⟨.inr rfl, ret_okj hj (by cbv) ?_ ?_⟩) | (refine aw_ret ?_) | (with_reducible refine th_n ?_) | (with_reducible refine th_r ?_) | (with_reducible refine th_x ?_) | (with_reducible refine blk_n ?_) | (with_reducible refine blk_r ?_) | (with_reducible refine blk_x ?_) | (with_reducible refine blk_y rfl ?_) | (refine ⟨.inr rfl, ret_okj hj (by cbv) ?_ ?_⟩) | (refine ⟨.inl rfl, ret_okj hj (by cbv) ?_ ?_⟩) | ((with_reducible refine ⟨(_, _, _, _, _, _, _), by cbv, ?_, ?_⟩)) | ((with_reducible refine ⟨(_, _, _, _, _, _), by cbv, ?_, ?_⟩)) | ((with_reducible refine ⟨(_, _, _, _, _), by cbv, ?_, ?_⟩)) | ((with_reducible refine ⟨(_, _, _, _), by cbv, ?_, ?_⟩)) | ((with_reducible refine ⟨(_, _, _), by cbv, ?_, ?_⟩)) | ((with_reducible refine ⟨(_, _), by cbv, ?_, ?_⟩)) | ((with_reducible refine ⟨_, by cbv, ?_, ?_⟩)) | (with_reducible apply_assumption -symm -exfalso only [*]))
  all_goals (try (have q : i + 1 < (n : Int) := (by omega); obtain ⟨c, c1, c2, c3, c4⟩ := ec q))
  all_goals (try (have k1 : ¬ c.1 = 3 := by have := ‹¬ gi (cellAt cs ((i + 1).toNat * 3)) = 3›; rw [c2] at this; exact this))
  all_goals (try (have k1 : c.1 = 3 := by have := ‹gi (cellAt cs ((i + 1).toNat * 3)) = 3›; rw [c2] at this; exact this))
  all_goals (try (repeat' first | with_reducible exact obl0 | with_reducible refine obl1 ?_ ?_))
  all_goals (try first | with_reducible exact True.intro | ((first | refine ob_le hj ?_ | refine ob_lei hj ?_ | refine ob_inb hj ?_ | refine ob_pos hj ?_ | refine ob_ne0 hj ?_ | refine ob_eqb hj ?_); (first | rfl | first | omega | (simp only [hj, std]; split <;> omega) | (simp (disch := omega) only [hj, std, cmpI, cmpB, satB, add64, sub64, ite0, pl0, pl2, pl3, sb0, if_true, if_false, eq_self, ei, hl] <;> omega) | (simp (disch := omega) [hj, std, cmpI, cmpB, satB, add64, sub64, ite0, pl0, pl2, pl3, sb0, if_true, if_false, eq_self, ei, hl] <;> omega))) | ((refine ob_ok hj ?_; simp only [hj, std, ite0, ei, t2, t3, c2]; exact ⟨_, rfl⟩)) | ((refine ob_ok hj ?_; simp only [hj, std, ite0, ei, t2, t3]; exact ⟨_, rfl⟩)) | (((try simp only [hj, std, ite0, g3, ei]); refine rRule_of (A := []) ?_ rfl rfl rfl; rw [hA, t1]; first | exact rlG_a (by assumption) | (rw [en (by omega)]; exact rlG_b (by assumption)) | (rw [c1]; exact rlG_c (by assumption) k1))))
  have hk3 : c.1 = 3 := by assumption
  have hk1 : t.1 = 1 := by assumption
  have hgo : rlG i (ts.drop i.toNat) = rlI t.2.1 [] [] (i + 2) (ts.drop (i + 2).toNat) := by
    rw [t1, c1, rlG_d hk1 hk3, show i + 1 + 1 = i + 2 by omega]
  refine aw_lpj hj [(0, .keep), (1, .keep), (4, .keep), (7, .keep), (8, .own itT13), (7, .box 1 altT13)] [4, 7] (fun (⟨k, u, es, m, ds, nm⟩ : Int × Nat × (List C) × Nat × (List C) × ByteArray) => stOf 93 [(0, .one (.c (.sl n cs))), (1, .one (.c (vI k))), (4, .one (.ptr 4 0)), (7, .one (.ptr 7 0)), (8, .one (.view 8 0))] [(8, .loose [.own itT13 u es]), (4, .box [.st (vS ByteArray.empty), .st .nil]), (7, .box [.st (vS nm), .own altT13 m ds])]) (fun (⟨k, u, es, m, ds, nm⟩ : Int × Nat × (List C) × Nat × (List C) × ByteArray) => n - k.toNat) (fun (⟨k, u, es, m, ds, nm⟩ : Int × Nat × (List C) × Nat × (List C) × ByteArray) => 0 ≤ k ∧ k ≤ n ∧ nm = t.2.1 ∧ rlInv ts i k t.2.1 m ds u es) ((_, _, _, _, _, _)) (by cbv) ?_ (fun ⟨k, u, es, m, ds, nm⟩ hI => ?_)
  · simp only [hj, std, ei, ite0, g3]
    rw [add64 (by omega) (by omega), show i + 1 + 1 = i + 2 by omega]
    exact ⟨by omega, by omega, trivial, [], [], rfl, rfl, rfl, rfl, by simp, by simp, hgo⟩
  obtain ⟨k1', k2', rfl, A, cur, hm, hd, hu, he, hAk, hck, hg⟩ := hI
  clear k1 c2 c3 c4
  have hA' : rlA cs i = rlI t.2.1 A cur k (ts.drop k.toNat) := hA.trans hg
  have hfin := fun a => rlI_e t.2.1 A cur k ▸ (hen k a ▸ hA' : rlA cs i = rlI t.2.1 A cur k [])
  have ek : k < (n : Int) → arithI .add .i64 k 1 = k + 1 := fun h => add64 (by omega) (by omega)
  rcases Decidable.em (k < (n : Int)) with hk | hk
  · obtain ⟨d, d1, d2, d3, d4⟩ := hat k k1' hk
    have g2 : gi (cellAt cs (k.toNat * 3)) = d.1 := by rw [d2]; rfl
    have g3 : gs (cellAt cs (k.toNat * 3 + 1)) = d.2.1 := by rw [d3]; rfl
    have ek := ek hk
    rw [d1] at hA' hg
    (repeat' first | (refine aw_retb hj [(4, .keep), (5, .keep), (6, .keep), (4, .box 1 altT13)] [4] (by cbv) ?_) | ((first | with_reducible refine tr_cut (fun h => ?_) (fun h => ?_) | refine aw_condj (by cbv) (fun h => ?_) (fun h => ?_)) <;> (try simp (disch := omega) only [hj, std, cmpI, cmpB, satB, Bool.not_eq_true, Bool.not_eq_false, decide_eq_true_eq, decide_eq_false_iff_not, beq_iff_eq, bne_iff_ne, bne_eq_false_iff_eq, beq_eq_false_iff_ne, ne_eq, reduceCtorEq, not_true_eq_false, not_false_eq_true, pl0, if_true, cmpS_eq, cmpS_neq, Bool.not_eq_eq_eq_not, Bool.not_true, Bool.not_false, Bool.not_eq_true', g2, g3, add64, sub64] at h) <;> (try (exfalso; omega))) | (with_reducible refine tr_alt (fun h => ?_) ?_ <;> (try (exfalso; omega))) | (with_reducible refine tr_ob ?_ ?_) | (with_reducible refine tr_done ?_) | (refine aw_tr hj tok book0 (by cbv) ?_) | (refine aw_seq fun K hK => ?_) | (refine aw_tr1 hj tok book0 (by cbv) ?_) | (refine aw_skip ?_) | (refine aw_block ?_) | (refine aw_exit ?_) | (refine aw_ret ⟨.inr rfl, ret_okj hj (by cbv) ?_ ?_⟩) | (refine aw_ret ?_) | (with_reducible refine th_n ?_) | (with_reducible refine th_r ?_) | (with_reducible refine th_x ?_) | (with_reducible refine blk_n ?_) | (with_reducible refine blk_r ?_) | (with_reducible refine blk_x ?_) | (with_reducible refine blk_y rfl ?_) | (refine ⟨.inr rfl, ret_okj hj (by cbv) ?_ ?_⟩) | (refine ⟨.inl rfl, ret_okj hj (by cbv) ?_ ?_⟩) | ((with_reducible refine ⟨(_, _, _, _, _, _, _), by cbv, ?_, ?_⟩)) | ((with_reducible refine ⟨(_, _, _, _, _, _), by cbv, ?_, ?_⟩)) | ((with_reducible refine ⟨(_, _, _, _, _), by cbv, ?_, ?_⟩)) | ((with_reducible refine ⟨(_, _, _, _), by cbv, ?_, ?_⟩)) | ((with_reducible refine ⟨(_, _, _), by cbv, ?_, ?_⟩)) | ((with_reducible refine ⟨(_, _), by cbv, ?_, ?_⟩)) | ((with_reducible refine ⟨_, by cbv, ?_, ?_⟩)) | (with_reducible apply_assumption -symm -exfalso only [*]))
    all_goals (try (repeat' first | with_reducible exact obl0 | with_reducible refine obl1 ?_ ?_))
    all_goals (try first | with_reducible exact True.intro | ((first | refine ob_le hj ?_ | refine ob_lei hj ?_ | refine ob_inb hj ?_ | refine ob_pos hj ?_ | refine ob_ne0 hj ?_ | refine ob_eqb hj ?_); (first | rfl | first | omega | (simp only [hj, std]; split <;> omega) | (simp (disch := omega) only [hj, std, cmpI, cmpB, satB, add64, sub64, ite0, pl0, pl2, pl3, sb0, if_true, if_false, eq_self, hl] <;> omega) | (simp (disch := omega) [hj, std, cmpI, cmpB, satB, add64, sub64, ite0, pl0, pl2, pl3, sb0, if_true, if_false, eq_self, hl] <;> omega))) | ((refine ob_ok hj ?_; simp only [hj, std, ite0, d2, d3]; exact ⟨_, rfl⟩)) | (((simp only [hj, std, ite0, g2, g3, ek]); refine rRule_of (A := A ++ [cur]) (hA'.trans ?_) (by rw [hm]; simp) (by rw [hd]; exact al2C_snoc A cur hu he) rfl; exact rlI_semi (by assumption))) | ((refine rRule_of (hA'.trans ?_) hm hd rfl; exact rlI_bad (by assumption) (by assumption) (by assumption) (by assumption))) | (((simp only [hj, std, ite0, g2, g3, ek]); first | omega | (refine ⟨by omega, by omega, trivial, A, cur ++ [(decide (d.1 = 2), d.2.1)], hm, hd, by rw [hu]; simp, by rw [he]; exact itC_snoc cur _ _, by omega, by simp; omega, ?_⟩; rw [hg]; exact rlI_it (by first | exact .inl (by assumption) | exact .inr (by assumption))) | (refine ⟨by omega, by omega, trivial, A ++ [cur], [], by rw [hm]; simp, by rw [hd]; exact al2C_snoc A cur hu he, rfl, rfl, by simp; omega, by simp, ?_⟩; rw [hg]; exact rlI_bar (by assumption)))))
  · (repeat' first | (refine aw_retb hj [(4, .keep), (5, .keep), (6, .keep), (4, .box 1 altT13)] [4] (by cbv) ?_) | ((first | with_reducible refine tr_cut (fun h => ?_) (fun h => ?_) | refine aw_condj (by cbv) (fun h => ?_) (fun h => ?_)) <;> (try simp (disch := omega) only [hj, std, cmpI, cmpB, satB, Bool.not_eq_true, Bool.not_eq_false, decide_eq_true_eq, decide_eq_false_iff_not, beq_iff_eq, bne_iff_ne, bne_eq_false_iff_eq, beq_eq_false_iff_ne, ne_eq, reduceCtorEq, not_true_eq_false, not_false_eq_true, pl0, if_true, cmpS_eq, cmpS_neq, Bool.not_eq_eq_eq_not, Bool.not_true, Bool.not_false, Bool.not_eq_true', add64, sub64] at h) <;> (try (exfalso; omega))) | (with_reducible refine tr_alt (fun h => ?_) ?_ <;> (try (exfalso; omega))) | (with_reducible refine tr_ob ?_ ?_) | (with_reducible refine tr_done ?_) | (refine aw_tr hj tok book0 (by cbv) ?_) | (refine aw_seq fun K hK => ?_) | (refine aw_tr1 hj tok book0 (by cbv) ?_) | (refine aw_skip ?_) | (refine aw_block ?_) | (refine aw_exit ?_) | (refine aw_ret ⟨.inr rfl, ret_okj hj (by cbv) ?_ ?_⟩) | (refine aw_ret ?_) | (with_reducible refine th_n ?_) | (with_reducible refine th_r ?_) | (with_reducible refine th_x ?_) | (with_reducible refine blk_n ?_) | (with_reducible refine blk_r ?_) | (with_reducible refine blk_x ?_) | (with_reducible refine blk_y rfl ?_) | (refine ⟨.inr rfl, ret_okj hj (by cbv) ?_ ?_⟩) | (refine ⟨.inl rfl, ret_okj hj (by cbv) ?_ ?_⟩) | ((with_reducible refine ⟨(_, _, _, _, _, _, _), by cbv, ?_, ?_⟩)) | ((with_reducible refine ⟨(_, _, _, _, _, _), by cbv, ?_, ?_⟩)) | ((with_reducible refine ⟨(_, _, _, _, _), by cbv, ?_, ?_⟩)) | ((with_reducible refine ⟨(_, _, _, _), by cbv, ?_, ?_⟩)) | ((with_reducible refine ⟨(_, _, _), by cbv, ?_, ?_⟩)) | ((with_reducible refine ⟨(_, _), by cbv, ?_, ?_⟩)) | ((with_reducible refine ⟨_, by cbv, ?_, ?_⟩)) | (with_reducible apply_assumption -symm -exfalso only [*]))
    all_goals (try (repeat' first | with_reducible exact obl0 | with_reducible refine obl1 ?_ ?_))
    all_goals (try first | with_reducible exact True.intro | ((first | refine ob_le hj ?_ | refine ob_lei hj ?_ | refine ob_inb hj ?_ | refine ob_pos hj ?_ | refine ob_ne0 hj ?_ | refine ob_eqb hj ?_); (first | rfl | first | omega | (simp only [hj, std]; split <;> omega) | (simp (disch := omega) only [hj, std, cmpI, cmpB, satB, add64, sub64, ite0, pl0, pl2, pl3, sb0, if_true, if_false, eq_self] <;> omega) | (simp (disch := omega) [hj, std, cmpI, cmpB, satB, add64, sub64, ite0, pl0, pl2, pl3, sb0, if_true, if_false, eq_self] <;> omega))) | ((refine rRule_of (hfin hk) hm hd rfl)))
end Go.Proofs.Ytljnfejcdadjpaa.A
/- Rules by the reference: all of a text. -/
set_option linter.unusedSimpArgs false
set_option linter.unusedVariables false
set_option maxRecDepth 100000
set_option maxHeartbeats 4000000
namespace Go.Proofs.Ytljnfejcdadjpaa.A
open Go
def rlFit (z : Int) (ts : List Tk) (L : List Ln) (p : Int) (v : List Ln × Int × Int) (r : Ln × Int × Bool) : Prop :=
  p ≤ r.2.1 ∧ r.2.1 ≤ ts.length ∧ (r.2.2 = true → p < r.2.1 ∧ v = rGo z (ts.drop r.2.1.toNat) (L ++ [r.1], 0, false)) ∧
    (r.2.2 = false → (∀ t l, ts.drop r.2.1.toNat = t :: l → v = ([], t.2.2, 14)) ∧ (ts.drop r.2.1.toNat = [] → v = ([], z, 14)))
theorem rlFit.step {z : Int} {ts : List Tk} {L : List Ln} {p : Int} {v : List Ln × Int × Int} {r : Ln × Int × Bool} (h : rlFit z ts L (p + 1) v r) : rlFit z ts L p v r :=
  ⟨by have := h.1; omega, h.2.1, fun hb => ⟨by have := (h.2.2.1 hb).1; omega, (h.2.2.1 hb).2⟩, h.2.2.2⟩
theorem rlFit_bad {z : Int} {ts l : List Tk} {L : List Ln} {p : Int} {v : List Ln × Int × Int} {x : Ln} {t : Tk} (h1 : p ≤ ts.length) (hl : ts.drop p.toNat = t :: l) (hv : v = ([], t.2.2, 14)) : rlFit z ts L p v (x, p, false) := by
  refine ⟨Int.le_refl _, h1, (fun h => by cases h), fun _ => ⟨fun t' l' h => ?_, fun h => ?_⟩⟩
  · rw [hl] at h; cases h; exact hv
  · rw [hl] at h; cases h
theorem rlFit_end {z : Int} {ts : List Tk} {L : List Ln} {p : Int} {v : List Ln × Int × Int} {x : Ln} (h1 : p ≤ ts.length) (hl : ts.drop p.toNat = []) (hv : v = ([], z, 14)) : rlFit z ts L p v (x, p, false) := by
  refine ⟨Int.le_refl _, h1, (fun h => by cases h), fun _ => ⟨fun t' l' h => ?_, fun h => hv⟩⟩
  rw [hl] at h; cases h
theorem drop_tail {ts l : List Tk} {t : Tk} {p : Int} (h0 : 0 ≤ p) (h : t :: l = ts.drop p.toNat) : l = ts.drop (p + 1).toNat ∧ p + 1 ≤ ts.length := by
  have hl : p.toNat < ts.length := by
    rcases Nat.lt_or_ge p.toNat ts.length with h1 | h1
    · exact h1
    · rw [List.drop_eq_nil_of_le h1] at h; cases h
  rw [List.drop_eq_getElem_cons hl] at h
  rw [show (p + 1).toNat = p.toNat + 1 by omega]
  exact ⟨(List.cons.inj h).2, by omega⟩
theorem rlI_fit (z : Int) (ts : List Tk) (L : List Ln) (nm : ByteArray) : ∀ (l : List Tk) (A : List (List It)) (cur : List It) (p : Int), 0 ≤ p → p ≤ ts.length → l = ts.drop p.toNat → rlFit z ts L p (rGo z l (L ++ [(nm, A ++ [cur])], 2, true)) (rlI nm A cur p l) := by
  intro l
  induction l with
  | nil => intro A cur p h0 h1 hl; exact rlFit_end h1 hl.symm (by unfold rGo; rw [if_pos (.inl rfl)])
  | cons t l ih =>
    intro A cur p h0 h1 hl
    obtain ⟨d1, d2⟩ := drop_tail h0 hl
    have e : rstep (L ++ [(nm, A ++ [cur])], 2, true) t = (itmB t.1, (if t.1 = 1 ∨ t.1 = 2 then addIt (L ++ [(nm, A ++ [cur])]) (decide (t.1 = 2)) t.2.1 else if t.1 = 4 then addAlt (L ++ [(nm, A ++ [cur])]) else L ++ [(nm, A ++ [cur])], if t.1 = 5 then 0 else 2, itmO t.1 true)) := rfl
    rw [rGo, e, addIt_snoc, addAlt_snoc]
    by_cases k1 : t.1 = 1 ∨ t.1 = 2
    · rw [rlI_it k1, if_pos (show itmB t.1 = true by unfold itmB; simp; omega), if_pos k1, if_neg (by omega), itmOn (by omega)]
      exact (ih A (cur ++ [_]) (p + 1) (by omega) d2 d1).step
    · by_cases k4 : t.1 = 4
      · rw [rlI_bar k4, if_pos (show itmB t.1 = true by unfold itmB; simp; omega), if_neg k1, if_pos k4, if_neg (by omega), itmOn (by omega)]
        exact (ih (A ++ [cur]) [] (p + 1) (by omega) d2 d1).step
      · by_cases k5 : t.1 = 5
        · rw [rlI_semi k5, if_pos (show itmB t.1 = true by unfold itmB; simp; omega), if_neg k1, if_neg k4, if_pos k5, itmO5 k5]
          refine ⟨by dsimp only; omega, by dsimp only; omega, fun _ => ⟨by dsimp only; omega, ?_⟩, fun h => by cases h⟩
          dsimp only; rw [d1]
        · rw [rlI_bad (by omega) (by omega) k4 k5, if_neg (show ¬ itmB t.1 = true by unfold itmB; simp; omega)]
          exact rlFit_bad h1 hl.symm rfl
theorem rlG_fit (z : Int) (ts : List Tk) (L : List Ln) (p : Int) (h0 : 0 ≤ p) (h1 : p < ts.length) : rlFit z ts L p (rGo z (ts.drop p.toNat) (L, 0, false)) (rlG p (ts.drop p.toNat)) := by
  obtain ⟨t, t1, _⟩ := rl_at h0 h1
  have e0 : ∀ (l : List Tk), rGo z (t :: l) (L, 0, false) = if decide (t.1 = 1) = true then rGo z l (L ++ [(t.2.1, [])], 1, true) else ([], t.2.2, 14) := fun l => rfl
  have e1 : ∀ (c : Tk) (l : List Tk), rGo z (c :: l) (L ++ [(t.2.1, [])], 1, true) = if decide (c.1 = 3) = true then rGo z l (addAlt (L ++ [(t.2.1, [])]), 2, true) else ([], c.2.2, 14) := fun c l => rfl
  have t1' := t1
  rw [t1, e0]
  by_cases k1 : t.1 = 1
  · rw [if_pos (by simpa using k1)]
    rcases Decidable.em (p + 1 < (ts.length : Int)) with h2 | h2
    · obtain ⟨c, c1, _⟩ := rl_at (ts := ts) (i := p + 1) (by omega) h2
      rw [c1, e1, addAlt_snoc]
      by_cases k3 : c.1 = 3
      · rw [if_pos (by simpa using k3), rlG_d k1 k3]
        have := rlI_fit z ts L t.2.1 (ts.drop (p + 1 + 1).toNat) [] [] (p + 2) (by omega) (by omega) (by rw [show p + 1 + 1 = p + 2 by omega])
        exact (show rlFit z ts L (p + 1) _ _ from (show rlFit z ts L (p + 1 + 1) _ _ by rw [show p + 1 + 1 = p + 2 by omega] at this ⊢; exact this).step).step
      · rw [if_neg (by simpa using k3), rlG_c k1 k3]
        exact (rlFit_bad (by omega) c1 rfl).step
    · have en : ts.drop (p + 1).toNat = [] := List.drop_eq_nil_of_le (by omega)
      rw [en, rlG_b k1]
      exact (rlFit_end (by omega) en (by unfold rGo; rw [if_pos (.inl rfl)])).step
  · rw [if_neg (by simpa using k1), rlG_a k1]
    exact rlFit_bad (by omega) t1' rfl
end Go.Proofs.Ytljnfejcdadjpaa.A
/- Rules by the reference: All walked. -/
set_option linter.unusedSimpArgs false
set_option linter.unusedVariables false
set_option maxRecDepth 100000
set_option maxHeartbeats 4000000
namespace Go.Proofs.Ytljnfejcdadjpaa.A
open Go
def qC (s : ByteArray) : List C := ln2C (pAll s).1
def rAllQ (s : ByteArray) : RV := rets [(false, [.own lnT13 (pN s) (qC s)]), (false, [.st (vI (pA s))]), (false, [.st (vI (pE s))])]
theorem rQ_of {s : ByteArray} {L : List Ln} {a e : Int} {n : Nat} {cs : List C} (h : pAll s = (L, a, e)) (hn : n = L.length) (hc : cs = ln2C L) : rAllQ s = ⟨true, [(false, [.own lnT13 n cs]), (false, [.st (vI a)]), (false, [.st (vI e)])]⟩ := by
  subst hn; subst hc
  unfold rAllQ pN qC pA pE; rw [h]; rfl
def bookQ3 (x_lxN : ByteArray → Nat) (x_lxC : ByteArray → List C) (x_lxA : ByteArray → Int) (x_lxE : ByteArray → Int) (x_rlM : List C → Int → ByteArray) (x_rlN : List C → Int → Nat) (x_rlC : List C → Int → List C) (x_rlX : List C → Int → Int) (x_rlB : List C → Int → Bool) : Book := fun f xs => match f, xs with
  | 11, [.v false [.val (.string s)]] => some (rets [(false, [.own tokTy12 (x_lxN s) (x_lxC s)]), (false, [.st (vI (x_lxA s))]), (false, [.st (vI (x_lxE s))])])
  | 33, [.v false [.sl _ cs], .v false [.val (.int .i64 i)]] => some (rets [(true, [.st (vS (x_rlM cs i)), .own altT13 (x_rlN cs i) (x_rlC cs i)]), (false, [.st (vI (x_rlX cs i))]), (false, [.st (vB (x_rlB cs i))])])
  | _, _ => none
theorem c_lexB {s : ByteArray} (hs : s.size ≤ 65536) : pc 11 [.v false [vS s]] (rets [(false, [.own tokTy12 (lxN s) (lxC s)]), (false, [.st (vI (lxA s))]), (false, [.st (vI (lxE s))])]) :=
  ⟨enters Try.func11 (by kernel_rfl) (by kernel_rfl), pc_All12 s hs⟩
theorem c_rule13 {s : ByteArray} {i : Int} (h0 : 0 ≤ i) (hi : i < (lxN s : Int)) (hs : s.size ≤ 65536) : pc 33 [.v false [.sl (lxN s) (lxC s)], .v false [vI i]] (rRule (lxC s) i) :=
  ⟨enters Try.func33 (by kernel_rfl) (by kernel_rfl), pc_rule13 (lexGo s 0).1 i h0 hi (by have := lxN_le s; unfold lxN at this; omega)⟩
theorem rl_s {s : ByteArray} {L : List Ln} {k : Int} (h0 : 0 ≤ k) (h : k < (lxN s : Int)) (hg : pAll s = rGo s.size ((lexGo s 0).1.drop k.toNat) (L, 0, false)) :
    k ≤ rlX (lxC s) k ∧ rlX (lxC s) k ≤ lxN s ∧ (rlB (lxC s) k = true → k < rlX (lxC s) k ∧ pAll s = rGo s.size ((lexGo s 0).1.drop (rlX (lxC s) k).toNat) (L ++ [(rlA (lxC s) k).1], 0, false)) ∧
      (rlB (lxC s) k = false → (∀ t l, (lexGo s 0).1.drop (rlX (lxC s) k).toNat = t :: l → pAll s = ([], t.2.2, 14)) ∧ ((lexGo s 0).1.drop (rlX (lxC s) k).toNat = [] → pAll s = ([], (s.size : Int), 14))) := by
  have hf := rlG_fit s.size (lexGo s 0).1 L k h0 (by unfold lxN at h; exact h)
  rw [← hg] at hf
  have e : rlA (lxC s) k = rlG k ((lexGo s 0).1.drop k.toNat) := by unfold rlA lxC; rw [tksOf_tk]
  unfold rlX rlB
  rw [e]
  exact hf
theorem pc_All13 (s : ByteArray) (hs : s.size ≤ 65536) : PC Try.prog T 18 [.v false [vS s]] (rAllQ s) [] := by
  have hN := lxN_le s
  have hCl := lxC_len s
  refine pc_of tok Try.func18 rfl (by rfl) ?_
  obtain ⟨j, hj⟩ : ∃ j : J, j = std Try.prog T := ⟨_, rfl⟩
  have hm : Try.prog.follows .mixedOrders = true := by kernel_rfl
  generalize y_lxN : @lxN = x_lxN at *
  generalize y_lxC : @lxC = x_lxC at *
  generalize y_lxA : @lxA = x_lxA at *
  generalize y_lxE : @lxE = x_lxE at *
  generalize y_rlM : @rlM = x_rlM at *
  generalize y_rlN : @rlN = x_rlN at *
  generalize y_rlC : @rlC = x_rlC at *
  generalize y_rlX : @rlX = x_rlX at *
  generalize y_rlB : @rlB = x_rlB at *
  generalize y_al2C : @al2C = x_al2C at *
  generalize y_ln2C : @ln2C = x_ln2C at *
  (repeat' first | (refine aw_ret ⟨.inr rfl, ret_oknil hj lnT13 (by cbv) ?_ ?_⟩) | (refine ⟨.inr rfl, ret_oknil hj lnT13 (by cbv) ?_ ?_⟩) | ((first | with_reducible refine tr_cut (fun h => ?_) (fun h => ?_) | refine aw_condj (by cbv) (fun h => ?_) (fun h => ?_)) <;> (try simp (disch := omega) only [hj, std, cmpI, cmpB, satB, Bool.not_eq_true, Bool.not_eq_false, decide_eq_true_eq, decide_eq_false_iff_not, beq_iff_eq, bne_iff_ne, bne_eq_false_iff_eq, beq_eq_false_iff_ne, ne_eq, reduceCtorEq, not_true_eq_false, not_false_eq_true, pl0, if_true, cmpS_eq, cmpS_neq, Bool.not_eq_eq_eq_not, Bool.not_true, Bool.not_false, Bool.not_eq_true', add64, sub64] at h) <;> (try (exfalso; omega))) | (with_reducible refine tr_alt (fun h => ?_) ?_ <;> (try (exfalso; omega))) | (with_reducible refine tr_ob ?_ ?_) | (with_reducible refine tr_done ?_) | (refine aw_tr hj tok (bookQ3 x_lxN x_lxC x_lxA x_lxE x_rlM x_rlN x_rlC x_rlX x_rlB) (by cbv) ?_) | (refine aw_seq fun K hK => ?_) | (refine aw_tr1 hj tok (bookQ3 x_lxN x_lxC x_lxA x_lxE x_rlM x_rlN x_rlC x_rlX x_rlB) (by cbv) ?_) | (refine aw_skip ?_) | (refine aw_block ?_) | (refine aw_exit ?_) | (refine aw_ret ⟨.inr rfl, ret_okj hj (by cbv) ?_ ?_⟩) | (refine aw_ret ?_) | (with_reducible refine th_n ?_) | (with_reducible refine th_r ?_) | (with_reducible refine th_x ?_) | (with_reducible refine blk_n ?_) | (with_reducible refine blk_r ?_) | (with_reducible refine blk_x ?_) | (with_reducible refine blk_y rfl ?_) | (refine ⟨.inr rfl, ret_okj hj (by cbv) ?_ ?_⟩) | (refine ⟨.inl rfl, ret_okj hj (by cbv) ?_ ?_⟩) | ((with_reducible refine ⟨(_, _, _, _, _, _, _), by cbv, ?_, ?_⟩)) | ((with_reducible refine ⟨(_, _, _, _, _, _), by cbv, ?_, ?_⟩)) | ((with_reducible refine ⟨(_, _, _, _, _), by cbv, ?_, ?_⟩)) | ((with_reducible refine ⟨(_, _, _, _), by cbv, ?_, ?_⟩)) | ((with_reducible refine ⟨(_, _, _), by cbv, ?_, ?_⟩)) | ((with_reducible refine ⟨(_, _), by cbv, ?_, ?_⟩)) | ((with_reducible refine ⟨_, by cbv, ?_, ?_⟩)) | (with_reducible apply_assumption -symm -exfalso only [*]))
  all_goals ((try subst y_lxN); (try subst y_lxC); (try subst y_lxA); (try subst y_lxE); (try subst y_rlM); (try subst y_rlN); (try subst y_rlC); (try subst y_rlX); (try subst y_rlB); (try subst y_al2C); (try subst y_ln2C))
  all_goals (try (repeat' first | with_reducible exact obl0 | with_reducible refine obl1 ?_ ?_))
  all_goals (try first | with_reducible exact True.intro | (refine ob_pc hj ?_; (try rw [hj]); first | exact c_lexB hs) | (refine ob_pcn hj ?_; (try rw [hj]); first | exact c_lexB hs) | ((first | refine ob_le hj ?_ | refine ob_lei hj ?_ | refine ob_inb hj ?_ | refine ob_pos hj ?_ | refine ob_ne0 hj ?_ | refine ob_eqb hj ?_); (first | rfl | first | omega | (simp only [hj, std]; split <;> omega) | (simp (disch := omega) only [hj, std, cmpI, cmpB, satB, add64, sub64, ite0, pl0, pl2, pl3, sb0, if_true, if_false, eq_self] <;> omega) | (simp (disch := omega) [hj, std, cmpI, cmpB, satB, add64, sub64, ite0, pl0, pl2, pl3, sb0, if_true, if_false, eq_self] <;> omega))) | ((refine ob_vals hj ?_; exact lxC_vls _)) | ((refine rQ_of (L := []) ?_ rfl rfl; unfold pAll; rw [if_pos (by assumption)])))
  have hE : lxE s = 0 := by omega
  refine aw_lpj hj [(0, .keep), (5, .fz), (8, .own lnT13), (9, .keep)] [] (fun (⟨k, m, ds⟩ : Int × Nat × (List C)) => stOf 62 [(0, .one (.c (vS s))), (5, .one (.c (.sl (lxN s) (lxC s)))), (8, .one (.view 8 0)), (9, .one (.c (vI k)))] [(8, .loose [.own lnT13 m ds])]) (fun (⟨k, m, ds⟩ : Int × Nat × (List C)) => lxN s - k.toNat) (fun (⟨k, m, ds⟩ : Int × Nat × (List C)) => 0 ≤ k ∧ k ≤ lxN s ∧ ∃ L : List Ln, m = L.length ∧ ds = ln2C L ∧ L.length ≤ k.toNat ∧ pAll s = rGo s.size ((lexGo s 0).1.drop k.toNat) (L, 0, false)) ((_, _, _)) (by generalize @lxN = x_lxN; generalize @lxC = x_lxC; generalize @lxA = x_lxA; generalize @lxE = x_lxE; generalize @rlM = x_rlM; generalize @rlN = x_rlN; generalize @rlC = x_rlC; generalize @rlX = x_rlX; generalize @rlB = x_rlB; generalize @al2C = x_al2C; generalize @ln2C = x_ln2C; cbv) ?_ (fun ⟨k, m, ds⟩ hI => ?_)
  · exact ⟨by omega, by omega, [], rfl, rfl, by simp, by unfold pAll; rw [if_neg (by omega)]; rfl⟩
  obtain ⟨k1, k2, L, hm1, hd, hLk, hgo⟩ := hI
  rcases Decidable.em (k < (lxN s : Int)) with hk | hk
  · obtain ⟨x1, x2, x3, x4⟩ := rl_s k1 hk hgo
    have y1 : ¬ rlX (lxC s) k < lxN s → (lexGo s 0).1.drop (rlX (lxC s) k).toNat = [] := fun h => List.drop_eq_nil_of_le (by unfold lxN at h; omega)
    have y2 := fun h : rlX (lxC s) k < lxN s => tk_drop (s := s) (i := rlX (lxC s) k) (by omega) h
    have y3 : rlN (lxC s) k = (rlA (lxC s) k).1.2.length := rfl
    have y4 : rlC (lxC s) k = al2C (rlA (lxC s) k).1.2 := rfl
    have y5 : rlM (lxC s) k = (rlA (lxC s) k).1.1 := rfl
    generalize y_lxN : @lxN = x_lxN at *
    generalize y_lxC : @lxC = x_lxC at *
    generalize y_lxA : @lxA = x_lxA at *
    generalize y_lxE : @lxE = x_lxE at *
    generalize y_rlM : @rlM = x_rlM at *
    generalize y_rlN : @rlN = x_rlN at *
    generalize y_rlC : @rlC = x_rlC at *
    generalize y_rlX : @rlX = x_rlX at *
    generalize y_rlB : @rlB = x_rlB at *
    generalize y_al2C : @al2C = x_al2C at *
    generalize y_ln2C : @ln2C = x_ln2C at *
    (repeat' first | (refine aw_ret ⟨.inr rfl, ret_oknil hj lnT13 (by cbv) ?_ ?_⟩) | (refine ⟨.inr rfl, ret_oknil hj lnT13 (by cbv) ?_ ?_⟩) | ((first | with_reducible refine tr_cut (fun h => ?_) (fun h => ?_) | refine aw_condj (by cbv) (fun h => ?_) (fun h => ?_)) <;> (try simp (disch := omega) only [hj, std, cmpI, cmpB, satB, Bool.not_eq_true, Bool.not_eq_false, decide_eq_true_eq, decide_eq_false_iff_not, beq_iff_eq, bne_iff_ne, bne_eq_false_iff_eq, beq_eq_false_iff_ne, ne_eq, reduceCtorEq, not_true_eq_false, not_false_eq_true, pl0, if_true, cmpS_eq, cmpS_neq, Bool.not_eq_eq_eq_not, Bool.not_true, Bool.not_false, Bool.not_eq_true', add64, sub64] at h) <;> (try (exfalso; omega))) | (with_reducible refine tr_alt (fun h => ?_) ?_ <;> (try (exfalso; omega))) | (with_reducible refine tr_ob ?_ ?_) | (with_reducible refine tr_done ?_) | (refine aw_dr1 (id := 9) hj tok hm (bookQ3 x_lxN x_lxC x_lxA x_lxE x_rlM x_rlN x_rlC x_rlX x_rlB) true [(0, false), (1, false), (2, false), (3, false), (4, false), (5, true), (6, true), (7, true)] (by kernel_rfl) (by cbv) ?_) | (refine aw_dr (id := 9) hj tok hm (bookQ3 x_lxN x_lxC x_lxA x_lxE x_rlM x_rlN x_rlC x_rlX x_rlB) true [(0, false), (1, false), (2, false), (3, false), (4, false), (5, true), (6, true), (7, true)] (by kernel_rfl) (by cbv) ?_) | (refine aw_tr hj tok (bookQ3 x_lxN x_lxC x_lxA x_lxE x_rlM x_rlN x_rlC x_rlX x_rlB) (by cbv) ?_) | (refine aw_seq fun K hK => ?_) | (refine aw_tr1 hj tok (bookQ3 x_lxN x_lxC x_lxA x_lxE x_rlM x_rlN x_rlC x_rlX x_rlB) (by cbv) ?_) | (refine aw_skip ?_) | (refine aw_block ?_) | (refine aw_exit ?_) | (refine aw_ret ⟨.inr rfl, ret_okj hj (by cbv) ?_ ?_⟩) | (refine aw_ret ?_) | (with_reducible refine th_n ?_) | (with_reducible refine th_r ?_) | (with_reducible refine th_x ?_) | (with_reducible refine blk_n ?_) | (with_reducible refine blk_r ?_) | (with_reducible refine blk_x ?_) | (with_reducible refine blk_y rfl ?_) | (refine ⟨.inr rfl, ret_okj hj (by cbv) ?_ ?_⟩) | (refine ⟨.inl rfl, ret_okj hj (by cbv) ?_ ?_⟩) | ((with_reducible refine ⟨(_, _, _, _, _, _, _), by cbv, ?_, ?_⟩)) | ((with_reducible refine ⟨(_, _, _, _, _, _), by cbv, ?_, ?_⟩)) | ((with_reducible refine ⟨(_, _, _, _, _), by cbv, ?_, ?_⟩)) | ((with_reducible refine ⟨(_, _, _, _), by cbv, ?_, ?_⟩)) | ((with_reducible refine ⟨(_, _, _), by cbv, ?_, ?_⟩)) | ((with_reducible refine ⟨(_, _), by cbv, ?_, ?_⟩)) | ((with_reducible refine ⟨_, by cbv, ?_, ?_⟩)) | (with_reducible apply_assumption -symm -exfalso only [*]))
    all_goals ((try subst y_lxN); (try subst y_lxC); (try subst y_lxA); (try subst y_lxE); (try subst y_rlM); (try subst y_rlN); (try subst y_rlC); (try subst y_rlX); (try subst y_rlB); (try subst y_al2C); (try subst y_ln2C))
    all_goals (try (have q := ‹rlX (lxC s) k < lxN s›; obtain ⟨t, t1, t2, t3, t4⟩ := y2 q))
    all_goals (try (have b := ‹rlB (lxC s) k = true›; have x3 := x3 b))
    all_goals (try (repeat' first | with_reducible exact obl0 | with_reducible refine obl1 ?_ ?_))
    all_goals (try first | with_reducible exact True.intro | (refine ob_pc hj ?_; (try rw [hj]); first | exact c_rule13 k1 hk hs) | (refine ob_pcn hj ?_; (try rw [hj]); first | exact c_rule13 k1 hk hs) | ((first | refine ob_le hj ?_ | refine ob_lei hj ?_ | refine ob_inb hj ?_ | refine ob_pos hj ?_ | refine ob_ne0 hj ?_ | refine ob_eqb hj ?_); (first | rfl | first | omega | (simp only [hj, std]; split <;> omega) | (simp (disch := omega) only [hj, std, cmpI, cmpB, satB, add64, sub64, ite0, pl0, pl2, pl3, sb0, if_true, if_false, eq_self, hCl] <;> omega) | (simp (disch := omega) [hj, std, cmpI, cmpB, satB, add64, sub64, ite0, pl0, pl2, pl3, sb0, if_true, if_false, eq_self, hCl] <;> omega))) | ((exfalso; have u1 := ‹rlB _ _ = true›; have u2 := ‹rlB _ _ = false›; rw [u1] at u2; cases u2)) | ((refine rQ_of (L := []) ?_ rfl rfl; (try simp only [hj, std, ite0, t4]); (try simp only [hj, std]); first | exact (x4 (by assumption)).2 (y1 (by omega)) | exact (x4 (by assumption)).1 _ _ t1)) | ((refine ob_ok hj ?_; simp only [hj, std, ite0, t4]; exact ⟨_, rfl⟩)) | ((simp only [hj, std, ite0]; first | omega | exact ⟨by omega, by omega, _, by rw [hm1]; simp, by rw [hd]; exact ln2C_snoc L _ y3 y4, by simp; omega, x3.2⟩)))
  · generalize y_lxN : @lxN = x_lxN at *
    generalize y_lxC : @lxC = x_lxC at *
    generalize y_lxA : @lxA = x_lxA at *
    generalize y_lxE : @lxE = x_lxE at *
    generalize y_rlM : @rlM = x_rlM at *
    generalize y_rlN : @rlN = x_rlN at *
    generalize y_rlC : @rlC = x_rlC at *
    generalize y_rlX : @rlX = x_rlX at *
    generalize y_rlB : @rlB = x_rlB at *
    generalize y_al2C : @al2C = x_al2C at *
    generalize y_ln2C : @ln2C = x_ln2C at *
    (repeat' first | (refine aw_ret ⟨.inr rfl, ret_oknil hj lnT13 (by cbv) ?_ ?_⟩) | (refine ⟨.inr rfl, ret_oknil hj lnT13 (by cbv) ?_ ?_⟩) | ((first | with_reducible refine tr_cut (fun h => ?_) (fun h => ?_) | refine aw_condj (by cbv) (fun h => ?_) (fun h => ?_)) <;> (try simp (disch := omega) only [hj, std, cmpI, cmpB, satB, Bool.not_eq_true, Bool.not_eq_false, decide_eq_true_eq, decide_eq_false_iff_not, beq_iff_eq, bne_iff_ne, bne_eq_false_iff_eq, beq_eq_false_iff_ne, ne_eq, reduceCtorEq, not_true_eq_false, not_false_eq_true, pl0, if_true, cmpS_eq, cmpS_neq, Bool.not_eq_eq_eq_not, Bool.not_true, Bool.not_false, Bool.not_eq_true', add64, sub64] at h) <;> (try (exfalso; omega))) | (with_reducible refine tr_alt (fun h => ?_) ?_ <;> (try (exfalso; omega))) | (with_reducible refine tr_ob ?_ ?_) | (with_reducible refine tr_done ?_) | (refine aw_dr1 (id := 9) hj tok hm (bookQ3 x_lxN x_lxC x_lxA x_lxE x_rlM x_rlN x_rlC x_rlX x_rlB) true [(0, false), (1, false), (2, false), (3, false), (4, false), (5, true), (6, true), (7, true)] (by kernel_rfl) (by cbv) ?_) | (refine aw_dr (id := 9) hj tok hm (bookQ3 x_lxN x_lxC x_lxA x_lxE x_rlM x_rlN x_rlC x_rlX x_rlB) true [(0, false), (1, false), (2, false), (3, false), (4, false), (5, true), (6, true), (7, true)] (by kernel_rfl) (by cbv) ?_) | (refine aw_tr hj tok (bookQ3 x_lxN x_lxC x_lxA x_lxE x_rlM x_rlN x_rlC x_rlX x_rlB) (by cbv) ?_) | (refine aw_seq fun K hK => ?_) | (refine aw_tr1 hj tok (bookQ3 x_lxN x_lxC x_lxA x_lxE x_rlM x_rlN x_rlC x_rlX x_rlB) (by cbv) ?_) | (refine aw_skip ?_) | (refine aw_block ?_) | (refine aw_exit ?_) | (refine aw_ret ⟨.inr rfl, ret_okj hj (by cbv) ?_ ?_⟩) | (refine aw_ret ?_) | (with_reducible refine th_n ?_) | (with_reducible refine th_r ?_) | (with_reducible refine th_x ?_) | (with_reducible refine blk_n ?_) | (with_reducible refine blk_r ?_) | (with_reducible refine blk_x ?_) | (with_reducible refine blk_y rfl ?_) | (refine ⟨.inr rfl, ret_okj hj (by cbv) ?_ ?_⟩) | (refine ⟨.inl rfl, ret_okj hj (by cbv) ?_ ?_⟩) | ((with_reducible refine ⟨(_, _, _, _, _, _, _), by cbv, ?_, ?_⟩)) | ((with_reducible refine ⟨(_, _, _, _, _, _), by cbv, ?_, ?_⟩)) | ((with_reducible refine ⟨(_, _, _, _, _), by cbv, ?_, ?_⟩)) | ((with_reducible refine ⟨(_, _, _, _), by cbv, ?_, ?_⟩)) | ((with_reducible refine ⟨(_, _, _), by cbv, ?_, ?_⟩)) | ((with_reducible refine ⟨(_, _), by cbv, ?_, ?_⟩)) | ((with_reducible refine ⟨_, by cbv, ?_, ?_⟩)) | (with_reducible apply_assumption -symm -exfalso only [*]))
    all_goals ((try subst y_lxN); (try subst y_lxC); (try subst y_lxA); (try subst y_lxE); (try subst y_rlM); (try subst y_rlN); (try subst y_rlC); (try subst y_rlX); (try subst y_rlB); (try subst y_al2C); (try subst y_ln2C))
    all_goals (try rw [List.drop_eq_nil_of_le (show (lexGo s 0).1.length ≤ k.toNat by unfold lxN at hk; omega)] at hgo)
    all_goals (try (repeat' first | with_reducible exact obl0 | with_reducible refine obl1 ?_ ?_))
    all_goals (try first | with_reducible exact True.intro | ((first | refine ob_le hj ?_ | refine ob_lei hj ?_ | refine ob_inb hj ?_ | refine ob_pos hj ?_ | refine ob_ne0 hj ?_ | refine ob_eqb hj ?_); (first | rfl | first | omega | (simp only [hj, std]; split <;> omega) | (simp (disch := omega) only [hj, std, cmpI, cmpB, satB, add64, sub64, ite0, pl0, pl2, pl3, sb0, if_true, if_false, eq_self, hCl] <;> omega) | (simp (disch := omega) [hj, std, cmpI, cmpB, satB, add64, sub64, ite0, pl0, pl2, pl3, sb0, if_true, if_false, eq_self, hCl] <;> omega))) | ((refine rQ_of (L := []) ?_ rfl rfl; have hL0 : L = [] := List.eq_nil_of_length_eq_zero (by omega); simp only [hj, std]; rw [hgo, hL0]; rfl)) | ((refine rQ_of (L := L) ?_ hm1 hd; rw [hgo]; unfold rGo; rw [if_neg]; rintro (h | h); cases h; rw [show L = [] from h] at hm1; exact absurd hm1 (by simp only [List.length_nil]; omega))))
end Go.Proofs.Ytljnfejcdadjpaa.A
