/- What the laws of this seat need, part 4. -/
import Derived.Test.YtgimfjmigoibgaaMz3
import Derived.Test.YtgimfjmigoibgaaProg
/- The table of types. Written by wip/tools/tt.py. -/
namespace Go.Proofs.Ytgimfjmigoibgaa.A
open Go
def ti1 : TI := { desc := (Go.TypeDesc.func #[] #[] false), size := 1, bytes := 8, zero := .nilFunc, cells := [.raw] }
def ti2 : TI := { desc := (Go.TypeDesc.int Go.IntKind.i64), size := 1, bytes := 8, zero := .int .i64 0, cells := [.int .i64] }
def ti3 : TI := { desc := (Go.TypeDesc.int Go.IntKind.i64), size := 1, bytes := 8, zero := .int .i64 0, cells := [.int .i64] }
def ti4 : TI := { desc := Go.TypeDesc.bool, size := 1, bytes := 1, zero := .bool false, cells := [.bool] }
def ti5 : TI := { desc := (Go.TypeDesc.int Go.IntKind.u8), size := 1, bytes := 1, zero := .int .u8 0, cells := [.int .u8] }
def ti6 : TI := { desc := (Go.TypeDesc.int Go.IntKind.u8), size := 1, bytes := 1, zero := .int .u8 0, cells := [.int .u8] }
def ti7 : TI := { desc := (Go.TypeDesc.struct #[{ name := "x", type := 2, offset := 0, embedded := false, tag := "", pkgPath := "runtime", byteOffset := 0 }, { name := "y", type := 3, offset := 1, embedded := false, tag := "", pkgPath := "runtime", byteOffset := 8 }, { name := "signed", type := 4, offset := 2, embedded := false, tag := "", pkgPath := "runtime", byteOffset := 16 }, { name := "code", type := 6, offset := 3, embedded := false, tag := "", pkgPath := "runtime", byteOffset := 17 }]), size := 4, bytes := 24, zero := .agg #[.int .i64 0, .int .i64 0, .bool false, .int .u8 0], cells := [.int .i64, .int .i64, .bool, .int .u8] }
def ti8 : TI := { desc := (Go.TypeDesc.struct #[{ name := "x", type := 2, offset := 0, embedded := false, tag := "", pkgPath := "runtime", byteOffset := 0 }, { name := "y", type := 3, offset := 1, embedded := false, tag := "", pkgPath := "runtime", byteOffset := 8 }, { name := "signed", type := 4, offset := 2, embedded := false, tag := "", pkgPath := "runtime", byteOffset := 16 }, { name := "code", type := 6, offset := 3, embedded := false, tag := "", pkgPath := "runtime", byteOffset := 17 }]), size := 4, bytes := 24, zero := .agg #[.int .i64 0, .int .i64 0, .bool false, .int .u8 0], cells := [.int .i64, .int .i64, .bool, .int .u8] }
def ti9 : TI := { desc := Go.TypeDesc.string, size := 1, bytes := 16, zero := .string ByteArray.empty, cells := [.str] }
def ti10 : TI := { desc := Go.TypeDesc.string, size := 1, bytes := 16, zero := .string ByteArray.empty, cells := [.str] }
def ti11 : TI := { desc := Go.TypeDesc.string, size := 1, bytes := 16, zero := .string ByteArray.empty, cells := [.str] }
def ti12 : TI := { desc := (Go.TypeDesc.int Go.IntKind.u64), size := 1, bytes := 8, zero := .int .u64 0, cells := [.int .u64] }
def ti13 : TI := { desc := (Go.TypeDesc.struct #[{ name := "msg", type := 9, offset := 0, embedded := false, tag := "", pkgPath := "runtime", byteOffset := 0 }, { name := "addr", type := 12, offset := 1, embedded := false, tag := "", pkgPath := "runtime", byteOffset := 16 }]), size := 2, bytes := 24, zero := .agg #[.string ByteArray.empty, .int .u64 0], cells := [.str, .int .u64] }
def ti14 : TI := { desc := (Go.TypeDesc.struct #[{ name := "msg", type := 9, offset := 0, embedded := false, tag := "", pkgPath := "runtime", byteOffset := 0 }, { name := "addr", type := 12, offset := 1, embedded := false, tag := "", pkgPath := "runtime", byteOffset := 16 }]), size := 2, bytes := 24, zero := .agg #[.string ByteArray.empty, .int .u64 0], cells := [.str, .int .u64] }
def ti15 : TI := { desc := (Go.TypeDesc.pointer 150), size := 1, bytes := 8, zero := .pointer none, cells := [.raw] }
def ti16 : TI := { desc := (Go.TypeDesc.pointer 153), size := 1, bytes := 8, zero := .pointer none, cells := [.raw] }
def ti17 : TI := { desc := (Go.TypeDesc.pointer 161), size := 1, bytes := 8, zero := .pointer none, cells := [.raw] }
def ti18 : TI := { desc := (Go.TypeDesc.struct #[{ name := "typ", type := 17, offset := 0, embedded := false, tag := "", pkgPath := "internal/runtime/maps", byteOffset := 0 }]), size := 1, bytes := 8, zero := .agg #[.pointer none], cells := [.raw] }
def ti19 : TI := { desc := (Go.TypeDesc.struct #[{ name := "typ", type := 17, offset := 0, embedded := false, tag := "", pkgPath := "internal/runtime/maps", byteOffset := 0 }]), size := 1, bytes := 8, zero := .agg #[.pointer none], cells := [.raw] }
def ti20 : TI := { desc := (Go.TypeDesc.interface #[]), size := 1, bytes := 16, zero := .nilIface, cells := [.raw] }
def ti21 : TI := { desc := (Go.TypeDesc.int Go.IntKind.i32), size := 1, bytes := 4, zero := .int .i32 0, cells := [.int .i32] }
def ti22 : TI := { desc := (Go.TypeDesc.slice 26), size := 1, bytes := 24, zero := .slice none 0 0, cells := [.sl] }
def ti23 : TI := { desc := (Go.TypeDesc.func #[] #[4] false), size := 1, bytes := 8, zero := .nilFunc, cells := [.raw] }
def ti24 : TI := { desc := (Go.TypeDesc.slice 27), size := 1, bytes := 24, zero := .slice none 0 0, cells := [.sl] }
def ti25 : TI := { desc := (Go.TypeDesc.struct #[{ name := "Name", type := 9, offset := 0, embedded := false, tag := "", pkgPath := "", byteOffset := 0 }, { name := "Alts", type := 24, offset := 1, embedded := false, tag := "", pkgPath := "", byteOffset := 16 }]), size := 2, bytes := 40, zero := .agg #[.string ByteArray.empty, .slice none 0 0], cells := [.str, .sl] }
def ti26 : TI := { desc := (Go.TypeDesc.struct #[{ name := "Name", type := 9, offset := 0, embedded := false, tag := "", pkgPath := "", byteOffset := 0 }, { name := "Alts", type := 24, offset := 1, embedded := false, tag := "", pkgPath := "", byteOffset := 16 }]), size := 2, bytes := 40, zero := .agg #[.string ByteArray.empty, .slice none 0 0], cells := [.str, .sl], kids := [.st, .sl 27 [.sl 53 [.st, .st]]] }
def ti27 : TI := { desc := (Go.TypeDesc.slice 53), size := 1, bytes := 24, zero := .slice none 0 0, cells := [.sl], kids := [.sl 53 [.st, .st]] }
def ti28 : TI := { desc := (Go.TypeDesc.func #[22] #[9] true), size := 1, bytes := 8, zero := .nilFunc, cells := [.raw] }
def ti29 : TI := { desc := (Go.TypeDesc.func #[22] #[9] false), size := 1, bytes := 8, zero := .nilFunc, cells := [.raw] }
def ti30 : TI := { desc := (Go.TypeDesc.func #[22] #[4] false), size := 1, bytes := 8, zero := .nilFunc, cells := [.raw] }
def ti31 : TI := { desc := (Go.TypeDesc.int Go.IntKind.i64), size := 1, bytes := 8, zero := .int .i64 0, cells := [.int .i64] }
def ti33 : TI := { desc := (Go.TypeDesc.func #[9] #[22, 3, 31] false), size := 1, bytes := 8, zero := .nilFunc, cells := [.raw] }
def ti34 : TI := { desc := (Go.TypeDesc.func #[9] #[4] false), size := 1, bytes := 8, zero := .nilFunc, cells := [.raw] }
def ti35 : TI := { desc := (Go.TypeDesc.slice 9), size := 1, bytes := 24, zero := .slice none 0 0, cells := [.sl] }
def ti36 : TI := { desc := (Go.TypeDesc.slice 42), size := 1, bytes := 24, zero := .slice none 0 0, cells := [.sl] }
def ti37 : TI := { desc := (Go.TypeDesc.struct #[{ name := "Names", type := 35, offset := 0, embedded := false, tag := "", pkgPath := "", byteOffset := 0 }, { name := "Terms", type := 35, offset := 1, embedded := false, tag := "", pkgPath := "", byteOffset := 24 }, { name := "Rules", type := 36, offset := 2, embedded := false, tag := "", pkgPath := "", byteOffset := 48 }]), size := 3, bytes := 72, zero := .agg #[.slice none 0 0, .slice none 0 0, .slice none 0 0], cells := [.sl, .sl, .sl] }
def ti38 : TI := { desc := (Go.TypeDesc.struct #[{ name := "Names", type := 35, offset := 0, embedded := false, tag := "", pkgPath := "", byteOffset := 0 }, { name := "Terms", type := 35, offset := 1, embedded := false, tag := "", pkgPath := "", byteOffset := 24 }, { name := "Rules", type := 36, offset := 2, embedded := false, tag := "", pkgPath := "", byteOffset := 48 }]), size := 3, bytes := 72, zero := .agg #[.slice none 0 0, .slice none 0 0, .slice none 0 0], cells := [.sl, .sl, .sl] }
def ti39 : TI := { desc := (Go.TypeDesc.slice 5), size := 1, bytes := 24, zero := .slice none 0 0, cells := [.sl] }
def ti40 : TI := { desc := (Go.TypeDesc.slice 3), size := 1, bytes := 24, zero := .slice none 0 0, cells := [.sl] }
def ti41 : TI := { desc := (Go.TypeDesc.struct #[{ name := "Left", type := 3, offset := 0, embedded := false, tag := "", pkgPath := "", byteOffset := 0 }, { name := "Right", type := 40, offset := 1, embedded := false, tag := "", pkgPath := "", byteOffset := 8 }]), size := 2, bytes := 32, zero := .agg #[.int .i64 0, .slice none 0 0], cells := [.int .i64, .sl] }
def ti42 : TI := { desc := (Go.TypeDesc.struct #[{ name := "Left", type := 3, offset := 0, embedded := false, tag := "", pkgPath := "", byteOffset := 0 }, { name := "Right", type := 40, offset := 1, embedded := false, tag := "", pkgPath := "", byteOffset := 8 }]), size := 2, bytes := 32, zero := .agg #[.int .i64 0, .slice none 0 0], cells := [.int .i64, .sl] }
def ti43 : TI := { desc := (Go.TypeDesc.func #[38] #[4] false), size := 1, bytes := 8, zero := .nilFunc, cells := [.raw] }
def ti44 : TI := { desc := (Go.TypeDesc.func #[3, 3, 3] #[4] false), size := 1, bytes := 8, zero := .nilFunc, cells := [.raw] }
def ti46 : TI := { desc := (Go.TypeDesc.func #[22] #[38, 31] true), size := 1, bytes := 8, zero := .nilFunc, cells := [.raw] }
def ti47 : TI := { desc := (Go.TypeDesc.func #[38] #[3] false), size := 1, bytes := 8, zero := .nilFunc, cells := [.raw] }
def ti48 : TI := { desc := (Go.TypeDesc.func #[38, 3] #[40] false), size := 1, bytes := 8, zero := .nilFunc, cells := [.raw] }
def ti49 : TI := { desc := (Go.TypeDesc.func #[38, 38] #[4] false), size := 1, bytes := 8, zero := .nilFunc, cells := [.raw] }
def ti50 : TI := { desc := (Go.TypeDesc.func #[38, 38, 3] #[4] false), size := 1, bytes := 8, zero := .nilFunc, cells := [.raw] }
def ti51 : TI := { desc := (Go.TypeDesc.func #[38] #[22] false), size := 1, bytes := 8, zero := .nilFunc, cells := [.raw] }
def ti52 : TI := { desc := (Go.TypeDesc.struct #[{ name := "Term", type := 4, offset := 0, embedded := false, tag := "", pkgPath := "", byteOffset := 0 }, { name := "Text", type := 9, offset := 1, embedded := false, tag := "", pkgPath := "", byteOffset := 8 }]), size := 2, bytes := 24, zero := .agg #[.bool false, .string ByteArray.empty], cells := [.bool, .str] }
def ti53 : TI := { desc := (Go.TypeDesc.struct #[{ name := "Term", type := 4, offset := 0, embedded := false, tag := "", pkgPath := "", byteOffset := 0 }, { name := "Text", type := 9, offset := 1, embedded := false, tag := "", pkgPath := "", byteOffset := 8 }]), size := 2, bytes := 24, zero := .agg #[.bool false, .string ByteArray.empty], cells := [.bool, .str] }
def ti55 : TI := { desc := (Go.TypeDesc.func #[9] #[38, 3, 31] false), size := 1, bytes := 8, zero := .nilFunc, cells := [.raw] }
def ti56 : TI := { desc := (Go.TypeDesc.func #[38] #[9] false), size := 1, bytes := 8, zero := .nilFunc, cells := [.raw] }
def ti57 : TI := { desc := (Go.TypeDesc.pointer 59), size := 1, bytes := 8, zero := .pointer none, cells := [.raw] }
def ti58 : TI := { desc := (Go.TypeDesc.struct #[{ name := "addr", type := 57, offset := 0, embedded := false, tag := "", pkgPath := "strings", byteOffset := 0 }, { name := "buf", type := 39, offset := 1, embedded := false, tag := "", pkgPath := "strings", byteOffset := 8 }]), size := 2, bytes := 32, zero := .agg #[.pointer none, .slice none 0 0], cells := [.raw, .sl] }
def ti59 : TI := { desc := (Go.TypeDesc.struct #[{ name := "addr", type := 57, offset := 0, embedded := false, tag := "", pkgPath := "strings", byteOffset := 0 }, { name := "buf", type := 39, offset := 1, embedded := false, tag := "", pkgPath := "strings", byteOffset := 8 }]), size := 2, bytes := 32, zero := .agg #[.pointer none, .slice none 0 0], cells := [.raw, .sl] }
def ti60 : TI := { desc := (Go.TypeDesc.interface #[("Error", 64)]), size := 1, bytes := 16, zero := .nilIface, cells := [.raw] }
def ti61 : TI := { desc := (Go.TypeDesc.interface #[("Error", 64)]), size := 1, bytes := 16, zero := .nilIface, cells := [.raw] }
def ti63 : TI := { desc := (Go.TypeDesc.func #[9] #[3, 61] false), size := 1, bytes := 8, zero := .nilFunc, cells := [.raw] }
def ti64 : TI := { desc := (Go.TypeDesc.func #[] #[9] false), size := 1, bytes := 8, zero := .nilFunc, cells := [.raw] }
def ti65 : TI := { desc := (Go.TypeDesc.slice 73), size := 1, bytes := 24, zero := .slice none 0 0, cells := [.sl] }
def ti67 : TI := { desc := (Go.TypeDesc.func #[9] #[65, 3, 31] false), size := 1, bytes := 8, zero := .nilFunc, cells := [.raw] }
def ti68 : TI := { desc := (Go.TypeDesc.pointer 71), size := 1, bytes := 8, zero := .pointer none, cells := [.raw] }
def ti69 : TI := { desc := (Go.TypeDesc.func #[73] #[4] false), size := 1, bytes := 8, zero := .nilFunc, cells := [.raw] }
def ti70 : TI := { desc := (Go.TypeDesc.struct #[{ name := "lines", type := 22, offset := 0, embedded := false, tag := "", pkgPath := "repertory/parse", byteOffset := 0 }, { name := "want", type := 69, offset := 1, embedded := false, tag := "", pkgPath := "repertory/parse", byteOffset := 24 }, { name := "open", type := 4, offset := 2, embedded := false, tag := "", pkgPath := "repertory/parse", byteOffset := 32 }]), size := 3, bytes := 40, zero := .agg #[.slice none 0 0, .nilFunc, .bool false], cells := [.sl, .raw, .bool] }
def ti71 : TI := { desc := (Go.TypeDesc.struct #[{ name := "lines", type := 22, offset := 0, embedded := false, tag := "", pkgPath := "repertory/parse", byteOffset := 0 }, { name := "want", type := 69, offset := 1, embedded := false, tag := "", pkgPath := "repertory/parse", byteOffset := 24 }, { name := "open", type := 4, offset := 2, embedded := false, tag := "", pkgPath := "repertory/parse", byteOffset := 32 }]), size := 3, bytes := 40, zero := .agg #[.slice none 0 0, .nilFunc, .bool false], cells := [.sl, .raw, .bool] }
def ti72 : TI := { desc := (Go.TypeDesc.struct #[{ name := "Kind", type := 3, offset := 0, embedded := false, tag := "", pkgPath := "", byteOffset := 0 }, { name := "Text", type := 9, offset := 1, embedded := false, tag := "", pkgPath := "", byteOffset := 8 }, { name := "At", type := 3, offset := 2, embedded := false, tag := "", pkgPath := "", byteOffset := 24 }]), size := 3, bytes := 32, zero := .agg #[.int .i64 0, .string ByteArray.empty, .int .i64 0], cells := [.int .i64, .str, .int .i64] }
def ti73 : TI := { desc := (Go.TypeDesc.struct #[{ name := "Kind", type := 3, offset := 0, embedded := false, tag := "", pkgPath := "", byteOffset := 0 }, { name := "Text", type := 9, offset := 1, embedded := false, tag := "", pkgPath := "", byteOffset := 8 }, { name := "At", type := 3, offset := 2, embedded := false, tag := "", pkgPath := "", byteOffset := 24 }]), size := 3, bytes := 32, zero := .agg #[.int .i64 0, .string ByteArray.empty, .int .i64 0], cells := [.int .i64, .str, .int .i64] }
def ti74 : TI := { desc := (Go.TypeDesc.func #[3] #[4] false), size := 1, bytes := 8, zero := .nilFunc, cells := [.raw] }
def ti75 : TI := { desc := (Go.TypeDesc.func #[35, 34] #[4] false), size := 1, bytes := 8, zero := .nilFunc, cells := [.raw] }
def ti76 : TI := { desc := (Go.TypeDesc.func #[38, 42] #[4] false), size := 1, bytes := 8, zero := .nilFunc, cells := [.raw] }
def ti77 : TI := { desc := (Go.TypeDesc.func #[36] #[4] false), size := 1, bytes := 8, zero := .nilFunc, cells := [.raw] }
def ti78 : TI := { desc := (Go.TypeDesc.pointer 81), size := 1, bytes := 8, zero := .pointer none, cells := [.raw] }
def ti79 : TI := { desc := (Go.TypeDesc.map 9 3), size := 1, bytes := 8, zero := .map none, cells := [.raw] }
def ti80 : TI := { desc := (Go.TypeDesc.struct #[{ name := "names", type := 79, offset := 0, embedded := false, tag := "", pkgPath := "repertory/gram", byteOffset := 0 }, { name := "terms", type := 79, offset := 1, embedded := false, tag := "", pkgPath := "repertory/gram", byteOffset := 8 }, { name := "g", type := 38, offset := 2, embedded := false, tag := "", pkgPath := "repertory/gram", byteOffset := 16 }]), size := 5, bytes := 88, zero := .agg #[.map none, .map none, .slice none 0 0, .slice none 0 0, .slice none 0 0], cells := [.raw, .raw, .sl, .sl, .sl] }
def ti81 : TI := { desc := (Go.TypeDesc.struct #[{ name := "names", type := 79, offset := 0, embedded := false, tag := "", pkgPath := "repertory/gram", byteOffset := 0 }, { name := "terms", type := 79, offset := 1, embedded := false, tag := "", pkgPath := "repertory/gram", byteOffset := 8 }, { name := "g", type := 38, offset := 2, embedded := false, tag := "", pkgPath := "repertory/gram", byteOffset := 16 }]), size := 5, bytes := 88, zero := .agg #[.map none, .map none, .slice none 0 0, .slice none 0 0, .slice none 0 0], cells := [.raw, .raw, .sl, .sl, .sl] }
def ti83 : TI := { desc := (Go.TypeDesc.func #[3, 27] #[4] false), size := 1, bytes := 8, zero := .nilFunc, cells := [.raw] }
def ti84 : TI := { desc := (Go.TypeDesc.func #[35, 9] #[3] false), size := 1, bytes := 8, zero := .nilFunc, cells := [.raw] }
def ti85 : TI := { desc := (Go.TypeDesc.func #[35, 35] #[4] false), size := 1, bytes := 8, zero := .nilFunc, cells := [.raw] }
def ti86 : TI := { desc := (Go.TypeDesc.func #[36, 36, 87] #[4] false), size := 1, bytes := 8, zero := .nilFunc, cells := [.raw] }
def ti87 : TI := { desc := (Go.TypeDesc.func #[42, 42] #[4] false), size := 1, bytes := 8, zero := .nilFunc, cells := [.raw] }
def ti88 : TI := { desc := (Go.TypeDesc.func #[40, 40] #[4] false), size := 1, bytes := 8, zero := .nilFunc, cells := [.raw] }
def ti89 : TI := { desc := (Go.TypeDesc.func #[38, 3] #[53] false), size := 1, bytes := 8, zero := .nilFunc, cells := [.raw] }
def ti90 : TI := { desc := (Go.TypeDesc.func #[38] #[38] false), size := 1, bytes := 8, zero := .nilFunc, cells := [.raw] }
def ti91 : TI := { desc := (Go.TypeDesc.pointer 5), size := 1, bytes := 8, zero := .pointer none, cells := [.raw] }
def ti92 : TI := { desc := (Go.TypeDesc.func #[9] #[3] false), size := 1, bytes := 8, zero := .nilFunc, cells := [.raw] }
def ti94 : TI := { desc := (Go.TypeDesc.func #[9] #[73, 3, 31] false), size := 1, bytes := 8, zero := .nilFunc, cells := [.raw] }
def ti95 : TI := { desc := (Go.TypeDesc.func #[5] #[4] false), size := 1, bytes := 8, zero := .nilFunc, cells := [.raw] }
def ti96 : TI := { desc := (Go.TypeDesc.func #[9, 95] #[3] false), size := 1, bytes := 8, zero := .nilFunc, cells := [.raw] }
def ti97 : TI := { desc := (Go.TypeDesc.func #[40, 74] #[4] false), size := 1, bytes := 8, zero := .nilFunc, cells := [.raw] }
def ti98 : TI := { desc := (Go.TypeDesc.func #[36, 99] #[4] false), size := 1, bytes := 8, zero := .nilFunc, cells := [.raw] }
def ti99 : TI := { desc := (Go.TypeDesc.func #[42] #[4] false), size := 1, bytes := 8, zero := .nilFunc, cells := [.raw] }
def ti100 : TI := { desc := (Go.TypeDesc.func #[53] #[3, 4] false), size := 1, bytes := 8, zero := .nilFunc, cells := [.raw] }
def ti101 : TI := { desc := (Go.TypeDesc.func #[35] #[35] false), size := 1, bytes := 8, zero := .nilFunc, cells := [.raw] }
def ti102 : TI := { desc := (Go.TypeDesc.func #[35] #[] false), size := 1, bytes := 8, zero := .nilFunc, cells := [.raw] }
def ti103 : TI := { desc := (Go.TypeDesc.func #[35, 35] #[40] false), size := 1, bytes := 8, zero := .nilFunc, cells := [.raw] }
def ti104 : TI := { desc := (Go.TypeDesc.func #[3] #[3] false), size := 1, bytes := 8, zero := .nilFunc, cells := [.raw] }
def ti105 : TI := { desc := (Go.TypeDesc.func #[36, 108] #[] false), size := 1, bytes := 8, zero := .nilFunc, cells := [.raw] }
def ti106 : TI := { desc := (Go.TypeDesc.func #[3, 3] #[3] false), size := 1, bytes := 8, zero := .nilFunc, cells := [.raw] }
def ti107 : TI := { desc := (Go.TypeDesc.func #[40, 40, 106] #[3] false), size := 1, bytes := 8, zero := .nilFunc, cells := [.raw] }
def ti108 : TI := { desc := (Go.TypeDesc.func #[42, 42] #[3] false), size := 1, bytes := 8, zero := .nilFunc, cells := [.raw] }
def ti109 : TI := { desc := Go.TypeDesc.unsafePointer, size := 1, bytes := 8, zero := .pointer none, cells := [.raw] }
def ti110 : TI := { desc := (Go.TypeDesc.func #[109] #[109] false), size := 1, bytes := 8, zero := .nilFunc, cells := [.raw] }
def ti111 : TI := { desc := (Go.TypeDesc.func #[73, 3] #[73, 3, 31] false), size := 1, bytes := 8, zero := .nilFunc, cells := [.raw] }
def ti112 : TI := { desc := (Go.TypeDesc.func #[40, 74] #[3] false), size := 1, bytes := 8, zero := .nilFunc, cells := [.raw] }
def ti113 : TI := { desc := (Go.TypeDesc.func #[36, 99] #[3] false), size := 1, bytes := 8, zero := .nilFunc, cells := [.raw] }
def ti114 : TI := { desc := (Go.TypeDesc.func #[35, 3, 3, 3] #[] false), size := 1, bytes := 8, zero := .nilFunc, cells := [.raw] }
def ti115 : TI := { desc := (Go.TypeDesc.func #[116] #[3] false), size := 1, bytes := 8, zero := .nilFunc, cells := [.raw] }
def ti116 : TI := { desc := (Go.TypeDesc.int Go.IntKind.u64), size := 1, bytes := 8, zero := .int .u64 0, cells := [.int .u64] }
def ti117 : TI := { desc := (Go.TypeDesc.func #[36, 3, 3, 3, 108] #[] false), size := 1, bytes := 8, zero := .nilFunc, cells := [.raw] }
def ti118 : TI := { desc := (Go.TypeDesc.pointer 26), size := 1, bytes := 8, zero := .pointer none, cells := [.raw] }
def ti119 : TI := { desc := (Go.TypeDesc.pointer 27), size := 1, bytes := 8, zero := .pointer none, cells := [.raw] }
def ti120 : TI := { desc := (Go.TypeDesc.func #[35, 3, 3] #[] false), size := 1, bytes := 8, zero := .nilFunc, cells := [.raw] }
def ti121 : TI := { desc := (Go.TypeDesc.int Go.IntKind.i64), size := 1, bytes := 8, zero := .int .i64 0, cells := [.int .i64] }
def ti123 : TI := { desc := (Go.TypeDesc.func #[35, 3, 3] #[3, 121] false), size := 1, bytes := 8, zero := .nilFunc, cells := [.raw] }
def ti124 : TI := { desc := (Go.TypeDesc.func #[35, 3, 3] #[4] false), size := 1, bytes := 8, zero := .nilFunc, cells := [.raw] }
def ti125 : TI := { desc := (Go.TypeDesc.func #[9, 9] #[4] false), size := 1, bytes := 8, zero := .nilFunc, cells := [.raw] }
def ti126 : TI := { desc := (Go.TypeDesc.func #[35, 3, 3, 3] #[3] false), size := 1, bytes := 8, zero := .nilFunc, cells := [.raw] }
def ti127 : TI := { desc := (Go.TypeDesc.func #[35, 3, 3, 3] #[3, 4] false), size := 1, bytes := 8, zero := .nilFunc, cells := [.raw] }
def ti128 : TI := { desc := (Go.TypeDesc.func #[129] #[3] false), size := 1, bytes := 8, zero := .nilFunc, cells := [.raw] }
def ti129 : TI := { desc := (Go.TypeDesc.int Go.IntKind.u32), size := 1, bytes := 4, zero := .int .u32 0, cells := [.int .u32] }
def ti130 : TI := { desc := (Go.TypeDesc.func #[131] #[3] false), size := 1, bytes := 8, zero := .nilFunc, cells := [.raw] }
def ti131 : TI := { desc := (Go.TypeDesc.int Go.IntKind.u64), size := 1, bytes := 8, zero := .int .u64 0, cells := [.int .u64] }
def ti132 : TI := { desc := (Go.TypeDesc.func #[36, 3, 3, 108] #[] false), size := 1, bytes := 8, zero := .nilFunc, cells := [.raw] }
def ti133 : TI := { desc := (Go.TypeDesc.func #[36, 3, 3, 108] #[3, 121] false), size := 1, bytes := 8, zero := .nilFunc, cells := [.raw] }
def ti134 : TI := { desc := (Go.TypeDesc.func #[36, 3, 3, 108] #[4] false), size := 1, bytes := 8, zero := .nilFunc, cells := [.raw] }
def ti135 : TI := { desc := (Go.TypeDesc.func #[36, 3, 3, 3, 108] #[3] false), size := 1, bytes := 8, zero := .nilFunc, cells := [.raw] }
def ti136 : TI := { desc := (Go.TypeDesc.func #[36, 3, 3, 3, 108] #[3, 4] false), size := 1, bytes := 8, zero := .nilFunc, cells := [.raw] }
def ti137 : TI := { desc := (Go.TypeDesc.int Go.IntKind.u64), size := 1, bytes := 8, zero := .int .u64 0, cells := [.int .u64] }
def ti138 : TI := { desc := (Go.TypeDesc.func #[3] #[116] false), size := 1, bytes := 8, zero := .nilFunc, cells := [.raw] }
def ti139 : TI := { desc := (Go.TypeDesc.func #[] #[131] false), size := 1, bytes := 8, zero := .nilFunc, cells := [.raw] }
def ti140 : TI := { desc := (Go.TypeDesc.func #[35, 3, 141] #[3] false), size := 1, bytes := 8, zero := .nilFunc, cells := [.raw] }
def ti141 : TI := { desc := (Go.TypeDesc.pointer 3), size := 1, bytes := 8, zero := .pointer none, cells := [.raw] }
def ti142 : TI := { desc := (Go.TypeDesc.func #[35, 3, 3, 3, 141] #[3] false), size := 1, bytes := 8, zero := .nilFunc, cells := [.raw] }
def ti143 : TI := { desc := (Go.TypeDesc.func #[36, 3, 141, 108] #[3] false), size := 1, bytes := 8, zero := .nilFunc, cells := [.raw] }
def ti144 : TI := { desc := (Go.TypeDesc.func #[36, 3, 3, 3, 141, 108] #[3] false), size := 1, bytes := 8, zero := .nilFunc, cells := [.raw] }
def ti145 : TI := { desc := (Go.TypeDesc.pointer 137), size := 1, bytes := 8, zero := .pointer none, cells := [.raw] }
def ti147 : TI := { desc := (Go.TypeDesc.func #[35, 3, 3, 141] #[3, 3] false), size := 1, bytes := 8, zero := .nilFunc, cells := [.raw] }
def ti148 : TI := { desc := (Go.TypeDesc.func #[36, 3, 3, 141, 108] #[3, 3] false), size := 1, bytes := 8, zero := .nilFunc, cells := [.raw] }
def ti149 : TI := { desc := (Go.TypeDesc.struct #[{ name := "_interface", type := 17, offset := 0, embedded := false, tag := "", pkgPath := "runtime", byteOffset := 0 }, { name := "concrete", type := 17, offset := 1, embedded := false, tag := "", pkgPath := "runtime", byteOffset := 8 }, { name := "asserted", type := 17, offset := 2, embedded := false, tag := "", pkgPath := "runtime", byteOffset := 16 }, { name := "missingMethod", type := 9, offset := 3, embedded := false, tag := "", pkgPath := "runtime", byteOffset := 24 }]), size := 4, bytes := 40, zero := .agg #[.pointer none, .pointer none, .pointer none, .string ByteArray.empty], cells := [.raw, .raw, .raw, .str] }
def ti150 : TI := { desc := (Go.TypeDesc.struct #[{ name := "_interface", type := 17, offset := 0, embedded := false, tag := "", pkgPath := "runtime", byteOffset := 0 }, { name := "concrete", type := 17, offset := 1, embedded := false, tag := "", pkgPath := "runtime", byteOffset := 8 }, { name := "asserted", type := 17, offset := 2, embedded := false, tag := "", pkgPath := "runtime", byteOffset := 16 }, { name := "missingMethod", type := 9, offset := 3, embedded := false, tag := "", pkgPath := "runtime", byteOffset := 24 }]), size := 4, bytes := 40, zero := .agg #[.pointer none, .pointer none, .pointer none, .string ByteArray.empty], cells := [.raw, .raw, .raw, .str] }
def ti151 : TI := { desc := (Go.TypeDesc.array 0 16), size := 0, bytes := 0, zero := .agg #[], cells := [] }
def ti152 : TI := { desc := (Go.TypeDesc.struct #[{ name := "_", type := 151, offset := 0, embedded := false, tag := "", pkgPath := "runtime", byteOffset := 0 }]), size := 0, bytes := 0, zero := .agg #[], cells := [] }
def ti153 : TI := { desc := (Go.TypeDesc.struct #[{ name := "_", type := 151, offset := 0, embedded := false, tag := "", pkgPath := "runtime", byteOffset := 0 }]), size := 0, bytes := 0, zero := .agg #[], cells := [] }
def ti154 : TI := { desc := (Go.TypeDesc.func #[] #[3] false), size := 1, bytes := 8, zero := .nilFunc, cells := [.raw] }
def ti155 : TI := { desc := (Go.TypeDesc.int Go.IntKind.u8), size := 1, bytes := 1, zero := .int .u8 0, cells := [.int .u8] }
def ti156 : TI := { desc := (Go.TypeDesc.int Go.IntKind.u8), size := 1, bytes := 1, zero := .int .u8 0, cells := [.int .u8] }
def ti157 : TI := { desc := (Go.TypeDesc.func #[109, 109] #[4] false), size := 1, bytes := 8, zero := .nilFunc, cells := [.raw] }
def ti158 : TI := { desc := (Go.TypeDesc.int Go.IntKind.i32), size := 1, bytes := 4, zero := .int .i32 0, cells := [.int .i32] }
def ti159 : TI := { desc := (Go.TypeDesc.int Go.IntKind.i32), size := 1, bytes := 4, zero := .int .i32 0, cells := [.int .i32] }
def ti160 : TI := { desc := (Go.TypeDesc.struct #[{ name := "Size_", type := 12, offset := 0, embedded := false, tag := "", pkgPath := "", byteOffset := 0 }, { name := "PtrBytes", type := 12, offset := 1, embedded := false, tag := "", pkgPath := "", byteOffset := 8 }, { name := "Hash", type := 129, offset := 2, embedded := false, tag := "", pkgPath := "", byteOffset := 16 }, { name := "TFlag", type := 155, offset := 3, embedded := false, tag := "", pkgPath := "", byteOffset := 20 }, { name := "Align_", type := 5, offset := 4, embedded := false, tag := "", pkgPath := "", byteOffset := 21 }, { name := "FieldAlign_", type := 5, offset := 5, embedded := false, tag := "", pkgPath := "", byteOffset := 22 }, { name := "Kind_", type := 156, offset := 6, embedded := false, tag := "", pkgPath := "", byteOffset := 23 }, { name := "Equal", type := 157, offset := 7, embedded := false, tag := "", pkgPath := "", byteOffset := 24 }, { name := "GCData", type := 91, offset := 8, embedded := false, tag := "", pkgPath := "", byteOffset := 32 }, { name := "Str", type := 158, offset := 9, embedded := false, tag := "", pkgPath := "", byteOffset := 40 }, { name := "PtrToThis", type := 159, offset := 10, embedded := false, tag := "", pkgPath := "", byteOffset := 44 }]), size := 11, bytes := 48, zero := .agg #[.int .u64 0, .int .u64 0, .int .u32 0, .int .u8 0, .int .u8 0, .int .u8 0, .int .u8 0, .nilFunc, .pointer none, .int .i32 0, .int .i32 0], cells := [.int .u64, .int .u64, .int .u32, .int .u8, .int .u8, .int .u8, .int .u8, .raw, .raw, .int .i32, .int .i32] }
def ti161 : TI := { desc := (Go.TypeDesc.struct #[{ name := "Size_", type := 12, offset := 0, embedded := false, tag := "", pkgPath := "", byteOffset := 0 }, { name := "PtrBytes", type := 12, offset := 1, embedded := false, tag := "", pkgPath := "", byteOffset := 8 }, { name := "Hash", type := 129, offset := 2, embedded := false, tag := "", pkgPath := "", byteOffset := 16 }, { name := "TFlag", type := 155, offset := 3, embedded := false, tag := "", pkgPath := "", byteOffset := 20 }, { name := "Align_", type := 5, offset := 4, embedded := false, tag := "", pkgPath := "", byteOffset := 21 }, { name := "FieldAlign_", type := 5, offset := 5, embedded := false, tag := "", pkgPath := "", byteOffset := 22 }, { name := "Kind_", type := 156, offset := 6, embedded := false, tag := "", pkgPath := "", byteOffset := 23 }, { name := "Equal", type := 157, offset := 7, embedded := false, tag := "", pkgPath := "", byteOffset := 24 }, { name := "GCData", type := 91, offset := 8, embedded := false, tag := "", pkgPath := "", byteOffset := 32 }, { name := "Str", type := 158, offset := 9, embedded := false, tag := "", pkgPath := "", byteOffset := 40 }, { name := "PtrToThis", type := 159, offset := 10, embedded := false, tag := "", pkgPath := "", byteOffset := 44 }]), size := 11, bytes := 48, zero := .agg #[.int .u64 0, .int .u64 0, .int .u32 0, .int .u8 0, .int .u8 0, .int .u8 0, .int .u8 0, .nilFunc, .pointer none, .int .i32 0, .int .i32 0], cells := [.int .u64, .int .u64, .int .u32, .int .u8, .int .u8, .int .u8, .int .u8, .raw, .raw, .int .i32, .int .i32] }
def T_0 : TT
 | 1 => some ti1
 | 2 => some ti2
 | 3 => some ti3
 | 4 => some ti4
 | 5 => some ti5
 | 6 => some ti6
 | 7 => some ti7
 | 8 => some ti8
 | 9 => some ti9
 | 10 => some ti10
 | 11 => some ti11
 | 12 => some ti12
 | 13 => some ti13
 | 14 => some ti14
 | 15 => some ti15
 | 16 => some ti16
 | 17 => some ti17
 | 18 => some ti18
 | 19 => some ti19
 | 20 => some ti20
 | 21 => some ti21
 | 22 => some ti22
 | 23 => some ti23
 | 24 => some ti24
 | _ => none
def T_1 : TT
 | 25 => some ti25
 | 26 => some ti26
 | 27 => some ti27
 | 28 => some ti28
 | 29 => some ti29
 | 30 => some ti30
 | 31 => some ti31
 | 33 => some ti33
 | 34 => some ti34
 | 35 => some ti35
 | 36 => some ti36
 | 37 => some ti37
 | 38 => some ti38
 | 39 => some ti39
 | 40 => some ti40
 | 41 => some ti41
 | 42 => some ti42
 | 43 => some ti43
 | 44 => some ti44
 | 46 => some ti46
 | 47 => some ti47
 | 48 => some ti48
 | 49 => some ti49
 | 50 => some ti50
 | _ => none
def T_2 : TT
 | 51 => some ti51
 | 52 => some ti52
 | 53 => some ti53
 | 55 => some ti55
 | 56 => some ti56
 | 57 => some ti57
 | 58 => some ti58
 | 59 => some ti59
 | 60 => some ti60
 | 61 => some ti61
 | 63 => some ti63
 | 64 => some ti64
 | 65 => some ti65
 | 67 => some ti67
 | 68 => some ti68
 | 69 => some ti69
 | 70 => some ti70
 | 71 => some ti71
 | 72 => some ti72
 | 73 => some ti73
 | 74 => some ti74
 | 75 => some ti75
 | 76 => some ti76
 | 77 => some ti77
 | _ => none
def T_3 : TT
 | 78 => some ti78
 | 79 => some ti79
 | 80 => some ti80
 | 81 => some ti81
 | 83 => some ti83
 | 84 => some ti84
 | 85 => some ti85
 | 86 => some ti86
 | 87 => some ti87
 | 88 => some ti88
 | 89 => some ti89
 | 90 => some ti90
 | 91 => some ti91
 | 92 => some ti92
 | 94 => some ti94
 | 95 => some ti95
 | 96 => some ti96
 | 97 => some ti97
 | 98 => some ti98
 | 99 => some ti99
 | 100 => some ti100
 | 101 => some ti101
 | 102 => some ti102
 | 103 => some ti103
 | _ => none
def T_4 : TT
 | 104 => some ti104
 | 105 => some ti105
 | 106 => some ti106
 | 107 => some ti107
 | 108 => some ti108
 | 109 => some ti109
 | 110 => some ti110
 | 111 => some ti111
 | 112 => some ti112
 | 113 => some ti113
 | 114 => some ti114
 | 115 => some ti115
 | 116 => some ti116
 | 117 => some ti117
 | 118 => some ti118
 | 119 => some ti119
 | 120 => some ti120
 | 121 => some ti121
 | 123 => some ti123
 | 124 => some ti124
 | 125 => some ti125
 | 126 => some ti126
 | 127 => some ti127
 | 128 => some ti128
 | _ => none
def T_5 : TT
 | 129 => some ti129
 | 130 => some ti130
 | 131 => some ti131
 | 132 => some ti132
 | 133 => some ti133
 | 134 => some ti134
 | 135 => some ti135
 | 136 => some ti136
 | 137 => some ti137
 | 138 => some ti138
 | 139 => some ti139
 | 140 => some ti140
 | 141 => some ti141
 | 142 => some ti142
 | 143 => some ti143
 | 144 => some ti144
 | 145 => some ti145
 | 147 => some ti147
 | 148 => some ti148
 | 149 => some ti149
 | 150 => some ti150
 | 151 => some ti151
 | 152 => some ti152
 | 153 => some ti153
 | _ => none
def T_6 : TT
 | 154 => some ti154
 | 155 => some ti155
 | 156 => some ti156
 | 157 => some ti157
 | 158 => some ti158
 | 159 => some ti159
 | 160 => some ti160
 | 161 => some ti161
 | _ => none
def T : TT := fun t => if t ≤ 24 then T_0 t else if t ≤ 50 then T_1 t else if t ≤ 77 then T_2 t else if t ≤ 103 then T_3 t else if t ≤ 128 then T_4 t else if t ≤ 153 then T_5 t else T_6 t
theorem tok_0 : TOk Try.prog T_0 := by
 intro t ti h
 unfold T_0 at h
 split at h
 ·cases h; exact tok1 (by kernel_rfl) (by kernel_rfl) (by kernel_rfl)
 ·cases h; exact tok1 (by kernel_rfl) (by kernel_rfl) (by kernel_rfl)
 ·cases h; exact tok1 (by kernel_rfl) (by kernel_rfl) (by kernel_rfl)
 ·cases h; exact tok1 (by kernel_rfl) (by kernel_rfl) (by kernel_rfl)
 ·cases h; exact tok1 (by kernel_rfl) (by kernel_rfl) (by kernel_rfl)
 ·cases h; exact tok1 (by kernel_rfl) (by kernel_rfl) (by kernel_rfl)
 ·cases h; exact tok1 (by kernel_rfl) (by kernel_rfl) (by kernel_rfl)
 ·cases h; exact tok1 (by kernel_rfl) (by kernel_rfl) (by kernel_rfl)
 ·cases h; exact tok1 (by kernel_rfl) (by kernel_rfl) (by kernel_rfl)
 ·cases h; exact tok1 (by kernel_rfl) (by kernel_rfl) (by kernel_rfl)
 ·cases h; exact tok1 (by kernel_rfl) (by kernel_rfl) (by kernel_rfl)
 ·cases h; exact tok1 (by kernel_rfl) (by kernel_rfl) (by kernel_rfl)
 ·cases h; exact tok1 (by kernel_rfl) (by kernel_rfl) (by kernel_rfl)
 ·cases h; exact tok1 (by kernel_rfl) (by kernel_rfl) (by kernel_rfl)
 ·cases h; exact tok1 (by kernel_rfl) (by kernel_rfl) (by kernel_rfl)
 ·cases h; exact tok1 (by kernel_rfl) (by kernel_rfl) (by kernel_rfl)
 ·cases h; exact tok1 (by kernel_rfl) (by kernel_rfl) (by kernel_rfl)
 ·cases h; exact tok1 (by kernel_rfl) (by kernel_rfl) (by kernel_rfl)
 ·cases h; exact tok1 (by kernel_rfl) (by kernel_rfl) (by kernel_rfl)
 ·cases h; exact tok1 (by kernel_rfl) (by kernel_rfl) (by kernel_rfl)
 ·cases h; exact tok1 (by kernel_rfl) (by kernel_rfl) (by kernel_rfl)
 ·cases h; exact tok1 (by kernel_rfl) (by kernel_rfl) (by kernel_rfl)
 ·cases h; exact tok1 (by kernel_rfl) (by kernel_rfl) (by kernel_rfl)
 ·cases h; exact tok1 (by kernel_rfl) (by kernel_rfl) (by kernel_rfl)
 ·cases h
theorem tok_1 : TOk Try.prog T_1 := by
 intro t ti h
 unfold T_1 at h
 split at h
 ·cases h; exact tok1 (by kernel_rfl) (by kernel_rfl) (by kernel_rfl)
 ·cases h; exact tok1 (by kernel_rfl) (by kernel_rfl) (by kernel_rfl)
 ·cases h; exact tok1 (by kernel_rfl) (by kernel_rfl) (by kernel_rfl)
 ·cases h; exact tok1 (by kernel_rfl) (by kernel_rfl) (by kernel_rfl)
 ·cases h; exact tok1 (by kernel_rfl) (by kernel_rfl) (by kernel_rfl)
 ·cases h; exact tok1 (by kernel_rfl) (by kernel_rfl) (by kernel_rfl)
 ·cases h; exact tok1 (by kernel_rfl) (by kernel_rfl) (by kernel_rfl)
 ·cases h; exact tok1 (by kernel_rfl) (by kernel_rfl) (by kernel_rfl)
 ·cases h; exact tok1 (by kernel_rfl) (by kernel_rfl) (by kernel_rfl)
 ·cases h; exact tok1 (by kernel_rfl) (by kernel_rfl) (by kernel_rfl)
 ·cases h; exact tok1 (by kernel_rfl) (by kernel_rfl) (by kernel_rfl)
 ·cases h; exact tok1 (by kernel_rfl) (by kernel_rfl) (by kernel_rfl)
 ·cases h; exact tok1 (by kernel_rfl) (by kernel_rfl) (by kernel_rfl)
 ·cases h; exact tok1 (by kernel_rfl) (by kernel_rfl) (by kernel_rfl)
 ·cases h; exact tok1 (by kernel_rfl) (by kernel_rfl) (by kernel_rfl)
 ·cases h; exact tok1 (by kernel_rfl) (by kernel_rfl) (by kernel_rfl)
 ·cases h; exact tok1 (by kernel_rfl) (by kernel_rfl) (by kernel_rfl)
 ·cases h; exact tok1 (by kernel_rfl) (by kernel_rfl) (by kernel_rfl)
 ·cases h; exact tok1 (by kernel_rfl) (by kernel_rfl) (by kernel_rfl)
 ·cases h; exact tok1 (by kernel_rfl) (by kernel_rfl) (by kernel_rfl)
 ·cases h; exact tok1 (by kernel_rfl) (by kernel_rfl) (by kernel_rfl)
 ·cases h; exact tok1 (by kernel_rfl) (by kernel_rfl) (by kernel_rfl)
 ·cases h; exact tok1 (by kernel_rfl) (by kernel_rfl) (by kernel_rfl)
 ·cases h; exact tok1 (by kernel_rfl) (by kernel_rfl) (by kernel_rfl)
 ·cases h
theorem tok_2 : TOk Try.prog T_2 := by
 intro t ti h
 unfold T_2 at h
 split at h
 ·cases h; exact tok1 (by kernel_rfl) (by kernel_rfl) (by kernel_rfl)
 ·cases h; exact tok1 (by kernel_rfl) (by kernel_rfl) (by kernel_rfl)
 ·cases h; exact tok1 (by kernel_rfl) (by kernel_rfl) (by kernel_rfl)
 ·cases h; exact tok1 (by kernel_rfl) (by kernel_rfl) (by kernel_rfl)
 ·cases h; exact tok1 (by kernel_rfl) (by kernel_rfl) (by kernel_rfl)
 ·cases h; exact tok1 (by kernel_rfl) (by kernel_rfl) (by kernel_rfl)
 ·cases h; exact tok1 (by kernel_rfl) (by kernel_rfl) (by kernel_rfl)
 ·cases h; exact tok1 (by kernel_rfl) (by kernel_rfl) (by kernel_rfl)
 ·cases h; exact tok1 (by kernel_rfl) (by kernel_rfl) (by kernel_rfl)
 ·cases h; exact tok1 (by kernel_rfl) (by kernel_rfl) (by kernel_rfl)
 ·cases h; exact tok1 (by kernel_rfl) (by kernel_rfl) (by kernel_rfl)
 ·cases h; exact tok1 (by kernel_rfl) (by kernel_rfl) (by kernel_rfl)
 ·cases h; exact tok1 (by kernel_rfl) (by kernel_rfl) (by kernel_rfl)
 ·cases h; exact tok1 (by kernel_rfl) (by kernel_rfl) (by kernel_rfl)
 ·cases h; exact tok1 (by kernel_rfl) (by kernel_rfl) (by kernel_rfl)
 ·cases h; exact tok1 (by kernel_rfl) (by kernel_rfl) (by kernel_rfl)
 ·cases h; exact tok1 (by kernel_rfl) (by kernel_rfl) (by kernel_rfl)
 ·cases h; exact tok1 (by kernel_rfl) (by kernel_rfl) (by kernel_rfl)
 ·cases h; exact tok1 (by kernel_rfl) (by kernel_rfl) (by kernel_rfl)
 ·cases h; exact tok1 (by kernel_rfl) (by kernel_rfl) (by kernel_rfl)
 ·cases h; exact tok1 (by kernel_rfl) (by kernel_rfl) (by kernel_rfl)
 ·cases h; exact tok1 (by kernel_rfl) (by kernel_rfl) (by kernel_rfl)
 ·cases h; exact tok1 (by kernel_rfl) (by kernel_rfl) (by kernel_rfl)
 ·cases h; exact tok1 (by kernel_rfl) (by kernel_rfl) (by kernel_rfl)
 ·cases h
theorem tok_3 : TOk Try.prog T_3 := by
 intro t ti h
 unfold T_3 at h
 split at h
 ·cases h; exact tok1 (by kernel_rfl) (by kernel_rfl) (by kernel_rfl)
 ·cases h; exact tok1 (by kernel_rfl) (by kernel_rfl) (by kernel_rfl)
 ·cases h; exact tok1 (by kernel_rfl) (by kernel_rfl) (by kernel_rfl)
 ·cases h; exact tok1 (by kernel_rfl) (by kernel_rfl) (by kernel_rfl)
 ·cases h; exact tok1 (by kernel_rfl) (by kernel_rfl) (by kernel_rfl)
 ·cases h; exact tok1 (by kernel_rfl) (by kernel_rfl) (by kernel_rfl)
 ·cases h; exact tok1 (by kernel_rfl) (by kernel_rfl) (by kernel_rfl)
 ·cases h; exact tok1 (by kernel_rfl) (by kernel_rfl) (by kernel_rfl)
 ·cases h; exact tok1 (by kernel_rfl) (by kernel_rfl) (by kernel_rfl)
 ·cases h; exact tok1 (by kernel_rfl) (by kernel_rfl) (by kernel_rfl)
 ·cases h; exact tok1 (by kernel_rfl) (by kernel_rfl) (by kernel_rfl)
 ·cases h; exact tok1 (by kernel_rfl) (by kernel_rfl) (by kernel_rfl)
 ·cases h; exact tok1 (by kernel_rfl) (by kernel_rfl) (by kernel_rfl)
 ·cases h; exact tok1 (by kernel_rfl) (by kernel_rfl) (by kernel_rfl)
 ·cases h; exact tok1 (by kernel_rfl) (by kernel_rfl) (by kernel_rfl)
 ·cases h; exact tok1 (by kernel_rfl) (by kernel_rfl) (by kernel_rfl)
 ·cases h; exact tok1 (by kernel_rfl) (by kernel_rfl) (by kernel_rfl)
 ·cases h; exact tok1 (by kernel_rfl) (by kernel_rfl) (by kernel_rfl)
 ·cases h; exact tok1 (by kernel_rfl) (by kernel_rfl) (by kernel_rfl)
 ·cases h; exact tok1 (by kernel_rfl) (by kernel_rfl) (by kernel_rfl)
 ·cases h; exact tok1 (by kernel_rfl) (by kernel_rfl) (by kernel_rfl)
 ·cases h; exact tok1 (by kernel_rfl) (by kernel_rfl) (by kernel_rfl)
 ·cases h; exact tok1 (by kernel_rfl) (by kernel_rfl) (by kernel_rfl)
 ·cases h; exact tok1 (by kernel_rfl) (by kernel_rfl) (by kernel_rfl)
 ·cases h
theorem tok_4 : TOk Try.prog T_4 := by
 intro t ti h
 unfold T_4 at h
 split at h
 ·cases h; exact tok1 (by kernel_rfl) (by kernel_rfl) (by kernel_rfl)
 ·cases h; exact tok1 (by kernel_rfl) (by kernel_rfl) (by kernel_rfl)
 ·cases h; exact tok1 (by kernel_rfl) (by kernel_rfl) (by kernel_rfl)
 ·cases h; exact tok1 (by kernel_rfl) (by kernel_rfl) (by kernel_rfl)
 ·cases h; exact tok1 (by kernel_rfl) (by kernel_rfl) (by kernel_rfl)
 ·cases h; exact tok1 (by kernel_rfl) (by kernel_rfl) (by kernel_rfl)
 ·cases h; exact tok1 (by kernel_rfl) (by kernel_rfl) (by kernel_rfl)
 ·cases h; exact tok1 (by kernel_rfl) (by kernel_rfl) (by kernel_rfl)
 ·cases h; exact tok1 (by kernel_rfl) (by kernel_rfl) (by kernel_rfl)
 ·cases h; exact tok1 (by kernel_rfl) (by kernel_rfl) (by kernel_rfl)
 ·cases h; exact tok1 (by kernel_rfl) (by kernel_rfl) (by kernel_rfl)
 ·cases h; exact tok1 (by kernel_rfl) (by kernel_rfl) (by kernel_rfl)
 ·cases h; exact tok1 (by kernel_rfl) (by kernel_rfl) (by kernel_rfl)
 ·cases h; exact tok1 (by kernel_rfl) (by kernel_rfl) (by kernel_rfl)
 ·cases h; exact tok1 (by kernel_rfl) (by kernel_rfl) (by kernel_rfl)
 ·cases h; exact tok1 (by kernel_rfl) (by kernel_rfl) (by kernel_rfl)
 ·cases h; exact tok1 (by kernel_rfl) (by kernel_rfl) (by kernel_rfl)
 ·cases h; exact tok1 (by kernel_rfl) (by kernel_rfl) (by kernel_rfl)
 ·cases h; exact tok1 (by kernel_rfl) (by kernel_rfl) (by kernel_rfl)
 ·cases h; exact tok1 (by kernel_rfl) (by kernel_rfl) (by kernel_rfl)
 ·cases h; exact tok1 (by kernel_rfl) (by kernel_rfl) (by kernel_rfl)
 ·cases h; exact tok1 (by kernel_rfl) (by kernel_rfl) (by kernel_rfl)
 ·cases h; exact tok1 (by kernel_rfl) (by kernel_rfl) (by kernel_rfl)
 ·cases h; exact tok1 (by kernel_rfl) (by kernel_rfl) (by kernel_rfl)
 ·cases h
theorem tok_5 : TOk Try.prog T_5 := by
 intro t ti h
 unfold T_5 at h
 split at h
 ·cases h; exact tok1 (by kernel_rfl) (by kernel_rfl) (by kernel_rfl)
 ·cases h; exact tok1 (by kernel_rfl) (by kernel_rfl) (by kernel_rfl)
 ·cases h; exact tok1 (by kernel_rfl) (by kernel_rfl) (by kernel_rfl)
 ·cases h; exact tok1 (by kernel_rfl) (by kernel_rfl) (by kernel_rfl)
 ·cases h; exact tok1 (by kernel_rfl) (by kernel_rfl) (by kernel_rfl)
 ·cases h; exact tok1 (by kernel_rfl) (by kernel_rfl) (by kernel_rfl)
 ·cases h; exact tok1 (by kernel_rfl) (by kernel_rfl) (by kernel_rfl)
 ·cases h; exact tok1 (by kernel_rfl) (by kernel_rfl) (by kernel_rfl)
 ·cases h; exact tok1 (by kernel_rfl) (by kernel_rfl) (by kernel_rfl)
 ·cases h; exact tok1 (by kernel_rfl) (by kernel_rfl) (by kernel_rfl)
 ·cases h; exact tok1 (by kernel_rfl) (by kernel_rfl) (by kernel_rfl)
 ·cases h; exact tok1 (by kernel_rfl) (by kernel_rfl) (by kernel_rfl)
 ·cases h; exact tok1 (by kernel_rfl) (by kernel_rfl) (by kernel_rfl)
 ·cases h; exact tok1 (by kernel_rfl) (by kernel_rfl) (by kernel_rfl)
 ·cases h; exact tok1 (by kernel_rfl) (by kernel_rfl) (by kernel_rfl)
 ·cases h; exact tok1 (by kernel_rfl) (by kernel_rfl) (by kernel_rfl)
 ·cases h; exact tok1 (by kernel_rfl) (by kernel_rfl) (by kernel_rfl)
 ·cases h; exact tok1 (by kernel_rfl) (by kernel_rfl) (by kernel_rfl)
 ·cases h; exact tok1 (by kernel_rfl) (by kernel_rfl) (by kernel_rfl)
 ·cases h; exact tok1 (by kernel_rfl) (by kernel_rfl) (by kernel_rfl)
 ·cases h; exact tok1 (by kernel_rfl) (by kernel_rfl) (by kernel_rfl)
 ·cases h; exact tok1 (by kernel_rfl) (by kernel_rfl) (by kernel_rfl)
 ·cases h; exact tok1 (by kernel_rfl) (by kernel_rfl) (by kernel_rfl)
 ·cases h; exact tok1 (by kernel_rfl) (by kernel_rfl) (by kernel_rfl)
 ·cases h
theorem tok_6 : TOk Try.prog T_6 := by
 intro t ti h
 unfold T_6 at h
 split at h
 ·cases h; exact tok1 (by kernel_rfl) (by kernel_rfl) (by kernel_rfl)
 ·cases h; exact tok1 (by kernel_rfl) (by kernel_rfl) (by kernel_rfl)
 ·cases h; exact tok1 (by kernel_rfl) (by kernel_rfl) (by kernel_rfl)
 ·cases h; exact tok1 (by kernel_rfl) (by kernel_rfl) (by kernel_rfl)
 ·cases h; exact tok1 (by kernel_rfl) (by kernel_rfl) (by kernel_rfl)
 ·cases h; exact tok1 (by kernel_rfl) (by kernel_rfl) (by kernel_rfl)
 ·cases h; exact tok1 (by kernel_rfl) (by kernel_rfl) (by kernel_rfl)
 ·cases h; exact tok1 (by kernel_rfl) (by kernel_rfl) (by kernel_rfl)
 ·cases h
theorem tok : TOk Try.prog T := by
 intro t ti h
 unfold T at h
 split at h
 ·exact tok_0 t ti h
 split at h
 ·exact tok_1 t ti h
 split at h
 ·exact tok_2 t ti h
 split at h
 ·exact tok_3 t ti h
 split at h
 ·exact tok_4 t ti h
 split at h
 ·exact tok_5 t ti h
 exact tok_6 t ti h
end Go.Proofs.Ytgimfjmigoibgaa.A
/- The ghost machine at this program: a contract with no roots; the empty book. -/
set_option linter.unusedSimpArgs false
set_option linter.unusedVariables false
set_option maxRecDepth 100000
set_option maxHeartbeats 4000000
namespace Go.Proofs.Ytgimfjmigoibgaa.A
open Go
def pc (f : FuncId) (args : List Arg) (ret : RV) : Prop := (std Try.prog T).pc f args ret []
def book0 : Book := fun _ _ => none
end Go.Proofs.Ytgimfjmigoibgaa.A
/- Lexing: what the functions of the reference, layer 12, give. -/
set_option linter.unusedSimpArgs false
set_option linter.unusedVariables false
set_option maxRecDepth 100000
set_option maxHeartbeats 4000000
namespace Go.Proofs.Ytgimfjmigoibgaa.A
open Go
def isLetI (c : Int) : Bool := decide ((97 ≤ c ∧ c ≤ 122) ∨ (65 ≤ c ∧ c ≤ 90))
def isMoreI (c : Int) : Bool := isLetI c || decide ((48 ≤ c ∧ c ≤ 57) ∨ c = 95)
theorem ret1_b {a b : Bool} (h : a = b) : ret1 (.st (vB a)) = ⟨false, [(false, [.st (.val (.bool b))])]⟩ := by rw [h]; rfl
theorem e_letter12 : Enters Try.prog 64 := enters Try.func64 (by kernel_rfl) (by kernel_rfl)
theorem pc_letter12 (n : Int) : PC Try.prog T 64 [.v false [vU n]] (ret1 (.st (vB (isLetI n)))) [] := by
 refine pc_of tok Try.func64 rfl (by rfl) ?_
 obtain ⟨j, hj⟩ : ∃ j : J, j = std Try.prog T := ⟨_, rfl⟩
 generalize y_isLetI : @isLetI = x_isLetI at *
 (repeat' first | ((first | with_reducible refine tr_cut (fun h => ?_) (fun h => ?_) | refine aw_condj (by cbv) (fun h => ?_) (fun h => ?_)) <;> (try simp (disch := omega) only [hj, std, cmpI, cmpB, satB, Bool.not_eq_true, Bool.not_eq_false, decide_eq_true_eq, decide_eq_false_iff_not, beq_iff_eq, bne_iff_ne, bne_eq_false_iff_eq, beq_eq_false_iff_ne, ne_eq, reduceCtorEq, not_true_eq_false, not_false_eq_true, add64, sub64] at h) <;> (try (exfalso; omega))) | (with_reducible refine tr_alt (fun h => ?_) ?_ <;> (try (exfalso; omega))) | (with_reducible first | refine tr_ob ?_ ?_ | refine tr_done ?_) | (refine aw_tr hj tok book0 (by cbv) ?_) | (refine aw_seq fun K hK => ?_) | (refine aw_tr1 hj tok book0 (by cbv) ?_) | (refine aw_skip ?_) | (refine aw_block ?_) | (refine aw_exit ?_) | (refine aw_ret ⟨.inr rfl, ret_okj hj (by cbv) ?_ ?_⟩) | (refine aw_ret ?_) | (with_reducible first | refine th_n ?_ | refine th_r ?_ | refine th_x ?_ | refine blk_n ?_ | refine blk_r ?_ | refine blk_x ?_ | refine blk_y rfl ?_) | (refine ⟨.inr rfl, ret_okj hj (by cbv) ?_ ?_⟩) | (refine ⟨.inl rfl, ret_okj hj (by cbv) ?_ ?_⟩) | (with_reducible apply_assumption -symm -exfalso only [*]))
 all_goals ((try subst y_isLetI))
 all_goals first | exact obl0 | ((repeat (refine obl1 (by first | (simp (disch := omega) only [hj, std, cmpI, cmpB, satB, add64, sub64, isLetI] <;> omega) | (simp (disch := omega) [hj, std, cmpI, cmpB, satB, add64, sub64, isLetI] <;> omega) | (rw [Bool.eq_iff_iff]; simp (disch := omega) [hj, std, cmpI, cmpB, satB, add64, sub64, isLetI] <;> omega) | omega) ?_)); exact obl0) | (refine ret1_b ?_ <;> first | (simp (disch := omega) only [hj, std, cmpI, cmpB, satB, add64, sub64, isLetI] <;> omega) | (simp (disch := omega) [hj, std, cmpI, cmpB, satB, add64, sub64, isLetI] <;> omega) | (rw [Bool.eq_iff_iff]; simp (disch := omega) [hj, std, cmpI, cmpB, satB, add64, sub64, isLetI] <;> omega) | omega)
theorem c_letter12 (n : Int) : (std Try.prog T).pc 64 [.v false [vU n]] (ret1 (.st (vB (isLetI n)))) [] := ⟨e_letter12, pc_letter12 n⟩
def book1 (x_isLetI : Int → Bool) (x_isMoreI : Int → Bool) : Book := fun f xs => match f, xs with
 | 64, [.v false [.val (.int .u8 n)]] => some (ret1 (.st (vB (x_isLetI n))))
 | 55, [.v false [.val (.int .u8 n)]] => some (ret1 (.st (vB (x_isLetI n))))
 | 65, [.v false [.val (.int .u8 n)]] => some (ret1 (.st (vB (x_isMoreI n))))
 | 57, [.v false [.val (.int .u8 n)]] => some (ret1 (.st (vB (x_isMoreI n))))
 | _, _ => none
theorem pc_more12 (n : Int) : PC Try.prog T 65 [.v false [vU n]] (ret1 (.st (vB (isMoreI n)))) [] := by
 refine pc_of tok Try.func65 rfl (by rfl) ?_
 obtain ⟨j, hj⟩ : ∃ j : J, j = std Try.prog T := ⟨_, rfl⟩
 generalize y_isLetI : @isLetI = x_isLetI at *
 generalize y_isMoreI : @isMoreI = x_isMoreI at *
 (repeat' first | ((first | with_reducible refine tr_cut (fun h => ?_) (fun h => ?_) | refine aw_condj (by cbv) (fun h => ?_) (fun h => ?_)) <;> (try simp (disch := omega) only [hj, std, cmpI, cmpB, satB, Bool.not_eq_true, Bool.not_eq_false, decide_eq_true_eq, decide_eq_false_iff_not, beq_iff_eq, bne_iff_ne, bne_eq_false_iff_eq, beq_eq_false_iff_ne, ne_eq, reduceCtorEq, not_true_eq_false, not_false_eq_true, add64, sub64] at h) <;> (try (exfalso; omega))) | (with_reducible refine tr_alt (fun h => ?_) ?_ <;> (try (exfalso; omega))) | (with_reducible first | refine tr_ob ?_ ?_ | refine tr_done ?_) | (refine aw_tr hj tok (book1 x_isLetI x_isMoreI) (by cbv) ?_) | (refine aw_seq fun K hK => ?_) | (refine aw_tr1 hj tok (book1 x_isLetI x_isMoreI) (by cbv) ?_) | (refine aw_skip ?_) | (refine aw_block ?_) | (refine aw_exit ?_) | (refine aw_ret ⟨.inr rfl, ret_okj hj (by cbv) ?_ ?_⟩) | (refine aw_ret ?_) | (with_reducible first | refine th_n ?_ | refine th_r ?_ | refine th_x ?_ | refine blk_n ?_ | refine blk_r ?_ | refine blk_x ?_ | refine blk_y rfl ?_) | (refine ⟨.inr rfl, ret_okj hj (by cbv) ?_ ?_⟩) | (refine ⟨.inl rfl, ret_okj hj (by cbv) ?_ ?_⟩) | (with_reducible apply_assumption -symm -exfalso only [*]))
 all_goals ((try subst y_isLetI); (try subst y_isMoreI))
 all_goals first | exact obl0 | ((repeat (refine obl1 (by first | (rw [hj]; exact c_letter12 _) | (simp (disch := omega) only [hj, std, cmpI, cmpB, satB, add64, sub64, isMoreI, *] <;> omega) | (simp (disch := omega) [hj, std, cmpI, cmpB, satB, add64, sub64, isMoreI, *] <;> omega) | (rw [Bool.eq_iff_iff]; simp (disch := omega) [hj, std, cmpI, cmpB, satB, add64, sub64, isMoreI, *] <;> omega) | omega) ?_)); exact obl0) | (refine ret1_b ?_ <;> first | (rw [hj]; exact c_letter12 _) | (simp (disch := omega) only [hj, std, cmpI, cmpB, satB, add64, sub64, isMoreI, *] <;> omega) | (simp (disch := omega) [hj, std, cmpI, cmpB, satB, add64, sub64, isMoreI, *] <;> omega) | (rw [Bool.eq_iff_iff]; simp (disch := omega) [hj, std, cmpI, cmpB, satB, add64, sub64, isMoreI, *] <;> omega) | omega)
end Go.Proofs.Ytgimfjmigoibgaa.A
/- Lexing: run. -/
set_option linter.unusedSimpArgs false
set_option linter.unusedVariables false
set_option maxRecDepth 100000
set_option maxHeartbeats 4000000
namespace Go.Proofs.Ytgimfjmigoibgaa.A
open Go
theorem ret1_i {a b : Int} (h : a = b) : ret1 (.st (vI a)) = ⟨false, [(false, [.st (.val (.int .i64 b))])]⟩ := by rw [h]; rfl
def spanI (p : Int → Bool) (s : ByteArray) (i : Int) : Int := (span (fun c => p (c : Int)) s i.toNat : Nat)
theorem spanI_step {p : Int → Bool} {s : ByteArray} {i : Int} (h0 : 0 ≤ i) (h : i < s.size) (hp : p (bt s i.toNat : Int) = true) : spanI p s (i + 1) = spanI p s i := by
 unfold spanI
 rw [span_step (i := i.toNat) (by omega) hp, show (i + 1).toNat = i.toNat + 1 by omega]
theorem spanI_end {p : Int → Bool} {s : ByteArray} {i : Int} (h0 : 0 ≤ i) (h : ¬ i < s.size) : spanI p s i = i := by
 unfold spanI
 rw [span_stop (i := i.toNat) (by omega)]; omega
theorem spanI_stop {p : Int → Bool} {s : ByteArray} {i : Int} (h0 : 0 ≤ i) (hp : p (bt s i.toNat : Int) = false) : spanI p s i = i := by
 unfold spanI
 rw [span_stop (i := i.toNat) (by simp [hp])]; omega
def bookR (p : Int → Bool) : Book := fun _ xs => match xs with | [.v false [.val (.int .u8 n)]] => some (ret1 (.st (vB (p n)))) | _ => none
theorem pc_run (s : ByteArray) (f : FuncId) (p : Int → Bool) (hs : s.size < 4611686018427387904) (hp : ∀ n, (std Try.prog T).pc f [.v false [vU n]] (ret1 (.st (vB (p n)))) []) :
  PC Try.prog T 56 [.v false [vS s], .fn f] (ret1 (.st (vI (spanI p s 0)))) [] := by
 refine pc_of tok Try.func56 rfl (by rfl) ?_
 obtain ⟨j, hj⟩ : ∃ j : J, j = std Try.prog T := ⟨_, rfl⟩
 generalize y_spanI : @spanI = x_spanI at *
 (repeat' first | ((first | with_reducible refine tr_cut (fun h => ?_) (fun h => ?_) | refine aw_condj (by cbv) (fun h => ?_) (fun h => ?_)) <;> (try simp (disch := omega) only [hj, std, cmpI, cmpB, satB, Bool.not_eq_true, Bool.not_eq_false, decide_eq_true_eq, decide_eq_false_iff_not, beq_iff_eq, bne_iff_ne, bne_eq_false_iff_eq, beq_eq_false_iff_ne, ne_eq, reduceCtorEq, not_true_eq_false, not_false_eq_true, add64, sub64] at h) <;> (try (exfalso; omega))) | (with_reducible refine tr_alt (fun h => ?_) ?_ <;> (try (exfalso; omega))) | (with_reducible first | refine tr_ob ?_ ?_ | refine tr_done ?_) | (refine aw_tr hj tok (bookR p) (by cbv) ?_) | (refine aw_seq fun K hK => ?_) | (refine aw_tr1 hj tok (bookR p) (by cbv) ?_) | (refine aw_skip ?_) | (refine aw_block ?_) | (refine aw_exit ?_) | (refine aw_ret ⟨.inr rfl, ret_okj hj (by cbv) ?_ ?_⟩) | (refine aw_ret ?_) | (with_reducible first | refine th_n ?_ | refine th_r ?_ | refine th_x ?_ | refine blk_n ?_ | refine blk_r ?_ | refine blk_x ?_ | refine blk_y rfl ?_) | (refine ⟨.inr rfl, ret_okj hj (by cbv) ?_ ?_⟩) | (refine ⟨.inl rfl, ret_okj hj (by cbv) ?_ ?_⟩) | (with_reducible first | refine ⟨(_, _, _, _, _, _, _, _, _), by cbv, ?_, ?_⟩ | refine ⟨(_, _, _, _, _, _, _, _), by cbv, ?_, ?_⟩ | refine ⟨(_, _, _, _, _, _, _), by cbv, ?_, ?_⟩ | refine ⟨(_, _, _, _, _, _), by cbv, ?_, ?_⟩ | refine ⟨(_, _, _, _, _), by cbv, ?_, ?_⟩ | refine ⟨(_, _, _, _), by cbv, ?_, ?_⟩ | refine ⟨(_, _, _), by cbv, ?_, ?_⟩ | refine ⟨(_, _), by cbv, ?_, ?_⟩ | refine ⟨_, by cbv, ?_, ?_⟩) | (with_reducible apply_assumption -symm -exfalso only [*]))
 all_goals ((try subst y_spanI))
 refine aw_lpj hj [(0, .keep), (1, .keep), (5, .keep)] [] (fun i : Int => stOf 20 [(0, .one (.c (vS s))), (1, .one (.fn f [])), (5, .one (.c (vI i)))] []) (fun i => s.size - i.toNat) (fun i => 0 ≤ i ∧ i ≤ s.size ∧ spanI p s i = spanI p s 0) 0 (by generalize @spanI = x_spanI; cbv) ⟨by omega, by omega, rfl⟩ fun i ⟨i1, i2, i3⟩ => ?_
 generalize y_spanI : @spanI = x_spanI at *
 (repeat' first | ((first | with_reducible refine tr_cut (fun h => ?_) (fun h => ?_) | refine aw_condj (by cbv) (fun h => ?_) (fun h => ?_)) <;> (try simp (disch := omega) only [hj, std, cmpI, cmpB, satB, Bool.not_eq_true, Bool.not_eq_false, decide_eq_true_eq, decide_eq_false_iff_not, beq_iff_eq, bne_iff_ne, bne_eq_false_iff_eq, beq_eq_false_iff_ne, ne_eq, reduceCtorEq, not_true_eq_false, not_false_eq_true, add64, sub64] at h) <;> (try (exfalso; omega))) | (with_reducible refine tr_alt (fun h => ?_) ?_ <;> (try (exfalso; omega))) | (with_reducible first | refine tr_ob ?_ ?_ | refine tr_done ?_) | (refine aw_tr hj tok (bookR p) (by cbv) ?_) | (refine aw_seq fun K hK => ?_) | (refine aw_tr1 hj tok (bookR p) (by cbv) ?_) | (refine aw_skip ?_) | (refine aw_block ?_) | (refine aw_exit ?_) | (refine aw_ret ⟨.inr rfl, ret_okj hj (by cbv) ?_ ?_⟩) | (refine aw_ret ?_) | (with_reducible first | refine th_n ?_ | refine th_r ?_ | refine th_x ?_ | refine blk_n ?_ | refine blk_r ?_ | refine blk_x ?_ | refine blk_y rfl ?_) | (refine ⟨.inr rfl, ret_okj hj (by cbv) ?_ ?_⟩) | (refine ⟨.inl rfl, ret_okj hj (by cbv) ?_ ?_⟩) | (with_reducible first | refine ⟨(_, _, _, _, _, _, _, _, _), by cbv, ?_, ?_⟩ | refine ⟨(_, _, _, _, _, _, _, _), by cbv, ?_, ?_⟩ | refine ⟨(_, _, _, _, _, _, _), by cbv, ?_, ?_⟩ | refine ⟨(_, _, _, _, _, _), by cbv, ?_, ?_⟩ | refine ⟨(_, _, _, _, _), by cbv, ?_, ?_⟩ | refine ⟨(_, _, _, _), by cbv, ?_, ?_⟩ | refine ⟨(_, _, _), by cbv, ?_, ?_⟩ | refine ⟨(_, _), by cbv, ?_, ?_⟩ | refine ⟨_, by cbv, ?_, ?_⟩) | (with_reducible apply_assumption -symm -exfalso only [*]))
 all_goals ((try subst y_spanI))
 all_goals first | exact obl0 | ((repeat (refine obl1 (by first | (rw [← i3]; exact (spanI_stop i1 ‹_›).symm ▸ rfl) | (rw [← i3]; exact spanI_stop i1 ‹_›) | (rw [← i3]; exact spanI_end i1 ‹_›) | (rw [hj]; exact hp _) | (rw [hj]; simp only [std]; rw [add64 (by omega) (by omega), spanI_step i1 ‹_› ‹_›]; exact i3) | (simp (disch := omega) only [hj, std, cmpI, cmpB, satB, add64, sub64] <;> omega) | (simp (disch := omega) [hj, std, cmpI, cmpB, satB, add64, sub64] <;> omega) | (rw [Bool.eq_iff_iff]; simp (disch := omega) [hj, std, cmpI, cmpB, satB, add64, sub64] <;> omega) | omega) ?_)); exact obl0) | (refine ret1_i ?_ <;> first | (rw [← i3]; exact (spanI_stop i1 ‹_›).symm ▸ rfl) | (rw [← i3]; exact spanI_stop i1 ‹_›) | (rw [← i3]; exact spanI_end i1 ‹_›) | (rw [hj]; exact hp _) | (rw [hj]; simp only [std]; rw [add64 (by omega) (by omega), spanI_step i1 ‹_› ‹_›]; exact i3) | (simp (disch := omega) only [hj, std, cmpI, cmpB, satB, add64, sub64] <;> omega) | (simp (disch := omega) [hj, std, cmpI, cmpB, satB, add64, sub64] <;> omega) | (rw [Bool.eq_iff_iff]; simp (disch := omega) [hj, std, cmpI, cmpB, satB, add64, sub64] <;> omega) | omega) | (and_intros <;> first | (rw [← i3]; exact (spanI_stop i1 ‹_›).symm ▸ rfl) | (rw [← i3]; exact spanI_stop i1 ‹_›) | (rw [← i3]; exact spanI_end i1 ‹_›) | (rw [hj]; exact hp _) | (rw [hj]; simp only [std]; rw [add64 (by omega) (by omega), spanI_step i1 ‹_› ‹_›]; exact i3) | (simp (disch := omega) only [hj, std, cmpI, cmpB, satB, add64, sub64] <;> omega) | (simp (disch := omega) [hj, std, cmpI, cmpB, satB, add64, sub64] <;> omega) | (rw [Bool.eq_iff_iff]; simp (disch := omega) [hj, std, cmpI, cmpB, satB, add64, sub64] <;> omega) | omega) | (refine ret1_b ?_ <;> first | (rw [← i3]; exact (spanI_stop i1 ‹_›).symm ▸ rfl) | (rw [← i3]; exact spanI_stop i1 ‹_›) | (rw [← i3]; exact spanI_end i1 ‹_›) | (rw [hj]; exact hp _) | (rw [hj]; simp only [std]; rw [add64 (by omega) (by omega), spanI_step i1 ‹_› ‹_›]; exact i3) | (simp (disch := omega) only [hj, std, cmpI, cmpB, satB, add64, sub64] <;> omega) | (simp (disch := omega) [hj, std, cmpI, cmpB, satB, add64, sub64] <;> omega) | (rw [Bool.eq_iff_iff]; simp (disch := omega) [hj, std, cmpI, cmpB, satB, add64, sub64] <;> omega) | omega)
end Go.Proofs.Ytgimfjmigoibgaa.A
/- Lexing: letter, goes, spells, blank$1, blank of lex. -/
set_option linter.unusedSimpArgs false
set_option linter.unusedVariables false
set_option maxRecDepth 100000
set_option maxHeartbeats 4000000
namespace Go.Proofs.Ytgimfjmigoibgaa.A
open Go
def isSpelI (c : Int) : Bool := decide (32 ≤ c ∧ c ≤ 126 ∧ c ≠ 39 ∧ c ≠ 92)
def notNl (c : Int) : Bool := !decide (c = 10)
theorem c_letter (n : Int) : pc 55 [.v false [vU n]] (ret1 (.st (vB (isLetI n)))) := by
 refine ⟨enters Try.func55 (by kernel_rfl) (by kernel_rfl), pc_of tok Try.func55 rfl (by rfl) ?_⟩
 obtain ⟨j, hj⟩ : ∃ j : J, j = std Try.prog T := ⟨_, rfl⟩
 generalize y_isLetI : @isLetI = x_isLetI at *
 (repeat' first | ((first | with_reducible refine tr_cut (fun h => ?_) (fun h => ?_) | refine aw_condj (by cbv) (fun h => ?_) (fun h => ?_)) <;> (try simp (disch := omega) only [hj, std, cmpI, cmpB, satB, Bool.not_eq_true, Bool.not_eq_false, decide_eq_true_eq, decide_eq_false_iff_not, beq_iff_eq, bne_iff_ne, bne_eq_false_iff_eq, beq_eq_false_iff_ne, ne_eq, reduceCtorEq, not_true_eq_false, not_false_eq_true, add64, sub64] at h) <;> (try (exfalso; omega))) | (with_reducible refine tr_alt (fun h => ?_) ?_ <;> (try (exfalso; omega))) | (with_reducible first | refine tr_ob ?_ ?_ | refine tr_done ?_) | (refine aw_tr hj tok book0 (by cbv) ?_) | (refine aw_seq fun K hK => ?_) | (refine aw_tr1 hj tok book0 (by cbv) ?_) | (refine aw_skip ?_) | (refine aw_block ?_) | (refine aw_exit ?_) | (refine aw_ret ⟨.inr rfl, ret_okj hj (by cbv) ?_ ?_⟩) | (refine aw_ret ?_) | (with_reducible first | refine th_n ?_ | refine th_r ?_ | refine th_x ?_ | refine blk_n ?_ | refine blk_r ?_ | refine blk_x ?_ | refine blk_y rfl ?_) | (refine ⟨.inr rfl, ret_okj hj (by cbv) ?_ ?_⟩) | (refine ⟨.inl rfl, ret_okj hj (by cbv) ?_ ?_⟩) | (with_reducible apply_assumption -symm -exfalso only [*]))
 all_goals ((try subst y_isLetI))
 all_goals first | exact obl0 | ((repeat (refine obl1 (by first | (simp (disch := omega) only [hj, std, cmpI, cmpB, satB, add64, sub64, isLetI] <;> omega) | (simp (disch := omega) [hj, std, cmpI, cmpB, satB, add64, sub64, isLetI] <;> omega) | (rw [Bool.eq_iff_iff]; simp (disch := omega) [hj, std, cmpI, cmpB, satB, add64, sub64, isLetI] <;> omega) | omega) ?_)); exact obl0) | (refine ret1_b ?_ <;> first | (simp (disch := omega) only [hj, std, cmpI, cmpB, satB, add64, sub64, isLetI] <;> omega) | (simp (disch := omega) [hj, std, cmpI, cmpB, satB, add64, sub64, isLetI] <;> omega) | (rw [Bool.eq_iff_iff]; simp (disch := omega) [hj, std, cmpI, cmpB, satB, add64, sub64, isLetI] <;> omega) | omega)
theorem c_goes (n : Int) : pc 57 [.v false [vU n]] (ret1 (.st (vB (isMoreI n)))) := by
 refine ⟨enters Try.func57 (by kernel_rfl) (by kernel_rfl), pc_of tok Try.func57 rfl (by rfl) ?_⟩
 obtain ⟨j, hj⟩ : ∃ j : J, j = std Try.prog T := ⟨_, rfl⟩
 generalize y_isLetI : @isLetI = x_isLetI at *
 generalize y_isMoreI : @isMoreI = x_isMoreI at *
 (repeat' first | ((first | with_reducible refine tr_cut (fun h => ?_) (fun h => ?_) | refine aw_condj (by cbv) (fun h => ?_) (fun h => ?_)) <;> (try simp (disch := omega) only [hj, std, cmpI, cmpB, satB, Bool.not_eq_true, Bool.not_eq_false, decide_eq_true_eq, decide_eq_false_iff_not, beq_iff_eq, bne_iff_ne, bne_eq_false_iff_eq, beq_eq_false_iff_ne, ne_eq, reduceCtorEq, not_true_eq_false, not_false_eq_true, add64, sub64] at h) <;> (try (exfalso; omega))) | (with_reducible refine tr_alt (fun h => ?_) ?_ <;> (try (exfalso; omega))) | (with_reducible first | refine tr_ob ?_ ?_ | refine tr_done ?_) | (refine aw_tr hj tok (book1 x_isLetI x_isMoreI) (by cbv) ?_) | (refine aw_seq fun K hK => ?_) | (refine aw_tr1 hj tok (book1 x_isLetI x_isMoreI) (by cbv) ?_) | (refine aw_skip ?_) | (refine aw_block ?_) | (refine aw_exit ?_) | (refine aw_ret ⟨.inr rfl, ret_okj hj (by cbv) ?_ ?_⟩) | (refine aw_ret ?_) | (with_reducible first | refine th_n ?_ | refine th_r ?_ | refine th_x ?_ | refine blk_n ?_ | refine blk_r ?_ | refine blk_x ?_ | refine blk_y rfl ?_) | (refine ⟨.inr rfl, ret_okj hj (by cbv) ?_ ?_⟩) | (refine ⟨.inl rfl, ret_okj hj (by cbv) ?_ ?_⟩) | (with_reducible apply_assumption -symm -exfalso only [*]))
 all_goals ((try subst y_isLetI); (try subst y_isMoreI))
 all_goals first | exact obl0 | ((repeat (refine obl1 (by first | (rw [hj]; exact c_letter _) | (simp (disch := omega) only [hj, std, cmpI, cmpB, satB, add64, sub64, isMoreI, *] <;> omega) | (simp (disch := omega) [hj, std, cmpI, cmpB, satB, add64, sub64, isMoreI, *] <;> omega) | (rw [Bool.eq_iff_iff]; simp (disch := omega) [hj, std, cmpI, cmpB, satB, add64, sub64, isMoreI, *] <;> omega) | omega) ?_)); exact obl0) | (refine ret1_b ?_ <;> first | (rw [hj]; exact c_letter _) | (simp (disch := omega) only [hj, std, cmpI, cmpB, satB, add64, sub64, isMoreI, *] <;> omega) | (simp (disch := omega) [hj, std, cmpI, cmpB, satB, add64, sub64, isMoreI, *] <;> omega) | (rw [Bool.eq_iff_iff]; simp (disch := omega) [hj, std, cmpI, cmpB, satB, add64, sub64, isMoreI, *] <;> omega) | omega)
theorem c_spells (n : Int) : pc 58 [.v false [vU n]] (ret1 (.st (vB (isSpelI n)))) := by
 refine ⟨enters Try.func58 (by kernel_rfl) (by kernel_rfl), pc_of tok Try.func58 rfl (by rfl) ?_⟩
 obtain ⟨j, hj⟩ : ∃ j : J, j = std Try.prog T := ⟨_, rfl⟩
 generalize y_isSpelI : @isSpelI = x_isSpelI at *
 (repeat' first | ((first | with_reducible refine tr_cut (fun h => ?_) (fun h => ?_) | refine aw_condj (by cbv) (fun h => ?_) (fun h => ?_)) <;> (try simp (disch := omega) only [hj, std, cmpI, cmpB, satB, Bool.not_eq_true, Bool.not_eq_false, decide_eq_true_eq, decide_eq_false_iff_not, beq_iff_eq, bne_iff_ne, bne_eq_false_iff_eq, beq_eq_false_iff_ne, ne_eq, reduceCtorEq, not_true_eq_false, not_false_eq_true, add64, sub64] at h) <;> (try (exfalso; omega))) | (with_reducible refine tr_alt (fun h => ?_) ?_ <;> (try (exfalso; omega))) | (with_reducible first | refine tr_ob ?_ ?_ | refine tr_done ?_) | (refine aw_tr hj tok book0 (by cbv) ?_) | (refine aw_seq fun K hK => ?_) | (refine aw_tr1 hj tok book0 (by cbv) ?_) | (refine aw_skip ?_) | (refine aw_block ?_) | (refine aw_exit ?_) | (refine aw_ret ⟨.inr rfl, ret_okj hj (by cbv) ?_ ?_⟩) | (refine aw_ret ?_) | (with_reducible first | refine th_n ?_ | refine th_r ?_ | refine th_x ?_ | refine blk_n ?_ | refine blk_r ?_ | refine blk_x ?_ | refine blk_y rfl ?_) | (refine ⟨.inr rfl, ret_okj hj (by cbv) ?_ ?_⟩) | (refine ⟨.inl rfl, ret_okj hj (by cbv) ?_ ?_⟩) | (with_reducible apply_assumption -symm -exfalso only [*]))
 all_goals ((try subst y_isSpelI))
 all_goals first | exact obl0 | ((repeat (refine obl1 (by first | (simp (disch := omega) only [hj, std, cmpI, cmpB, satB, add64, sub64, isSpelI] <;> omega) | (simp (disch := omega) [hj, std, cmpI, cmpB, satB, add64, sub64, isSpelI] <;> omega) | (rw [Bool.eq_iff_iff]; simp (disch := omega) [hj, std, cmpI, cmpB, satB, add64, sub64, isSpelI] <;> omega) | omega) ?_)); exact obl0) | (refine ret1_b ?_ <;> first | (simp (disch := omega) only [hj, std, cmpI, cmpB, satB, add64, sub64, isSpelI] <;> omega) | (simp (disch := omega) [hj, std, cmpI, cmpB, satB, add64, sub64, isSpelI] <;> omega) | (rw [Bool.eq_iff_iff]; simp (disch := omega) [hj, std, cmpI, cmpB, satB, add64, sub64, isSpelI] <;> omega) | omega)
theorem c_notNl (n : Int) : pc 77 [.v false [vU n]] (ret1 (.st (vB (notNl n)))) := by
 refine ⟨enters Try.func77 (by kernel_rfl) (by kernel_rfl), pc_of tok Try.func77 rfl (by rfl) ?_⟩
 obtain ⟨j, hj⟩ : ∃ j : J, j = std Try.prog T := ⟨_, rfl⟩
 generalize y_notNl : @notNl = x_notNl at *
 (repeat' first | ((first | with_reducible refine tr_cut (fun h => ?_) (fun h => ?_) | refine aw_condj (by cbv) (fun h => ?_) (fun h => ?_)) <;> (try simp (disch := omega) only [hj, std, cmpI, cmpB, satB, Bool.not_eq_true, Bool.not_eq_false, decide_eq_true_eq, decide_eq_false_iff_not, beq_iff_eq, bne_iff_ne, bne_eq_false_iff_eq, beq_eq_false_iff_ne, ne_eq, reduceCtorEq, not_true_eq_false, not_false_eq_true, add64, sub64] at h) <;> (try (exfalso; omega))) | (with_reducible refine tr_alt (fun h => ?_) ?_ <;> (try (exfalso; omega))) | (with_reducible first | refine tr_ob ?_ ?_ | refine tr_done ?_) | (refine aw_tr hj tok book0 (by cbv) ?_) | (refine aw_seq fun K hK => ?_) | (refine aw_tr1 hj tok book0 (by cbv) ?_) | (refine aw_skip ?_) | (refine aw_block ?_) | (refine aw_exit ?_) | (refine aw_ret ⟨.inr rfl, ret_okj hj (by cbv) ?_ ?_⟩) | (refine aw_ret ?_) | (with_reducible first | refine th_n ?_ | refine th_r ?_ | refine th_x ?_ | refine blk_n ?_ | refine blk_r ?_ | refine blk_x ?_ | refine blk_y rfl ?_) | (refine ⟨.inr rfl, ret_okj hj (by cbv) ?_ ?_⟩) | (refine ⟨.inl rfl, ret_okj hj (by cbv) ?_ ?_⟩) | (with_reducible apply_assumption -symm -exfalso only [*]))
 all_goals ((try subst y_notNl))
 all_goals first | exact obl0 | ((repeat (refine obl1 (by first | (simp (disch := omega) only [hj, std, cmpI, cmpB, satB, add64, sub64, notNl, *] <;> omega) | (simp (disch := omega) [hj, std, cmpI, cmpB, satB, add64, sub64, notNl, *] <;> omega) | (rw [Bool.eq_iff_iff]; simp (disch := omega) [hj, std, cmpI, cmpB, satB, add64, sub64, notNl, *] <;> omega) | omega) ?_)); exact obl0) | (refine ret1_b ?_ <;> first | (simp (disch := omega) only [hj, std, cmpI, cmpB, satB, add64, sub64, notNl, *] <;> omega) | (simp (disch := omega) [hj, std, cmpI, cmpB, satB, add64, sub64, notNl, *] <;> omega) | (rw [Bool.eq_iff_iff]; simp (disch := omega) [hj, std, cmpI, cmpB, satB, add64, sub64, notNl, *] <;> omega) | omega)
theorem c_run {s : ByteArray} {f : FuncId} {p : Int → Bool} (hs : s.size < 4611686018427387904) (hp : ∀ n, pc f [.v false [vU n]] (ret1 (.st (vB (p n))))) :
  pc 56 [.v false [vS s], .fn f] (ret1 (.st (vI (spanI p s 0)))) :=
 ⟨enters Try.func56 (by kernel_rfl) (by kernel_rfl), pc_run s f p hs hp⟩
def skipI (s : ByteArray) (i : Int) : Int := (skip s i.toNat : Nat)
def book2 (x_isLetI : Int → Bool) (x_isMoreI : Int → Bool) (x_spanI : (Int → Bool) → ByteArray → Int → Int) (x_isSpelI : Int → Bool) (x_notNl : Int → Bool) (x_skipI : ByteArray → Int → Int) : Book := fun f xs => match f, xs with
 | 55, [.v false [.val (.int .u8 n)]] => some (ret1 (.st (vB (x_isLetI n))))
 | 56, [.v false [.val (.string s)], .fn 57] => some (ret1 (.st (vI (x_spanI x_isMoreI s 0))))
 | 56, [.v false [.val (.string s)], .fn 58] => some (ret1 (.st (vI (x_spanI x_isSpelI s 0))))
 | 56, [.v false [.val (.string s)], .fn 77] => some (ret1 (.st (vI (x_spanI x_notNl s 0))))
 | 51, [.v false [.val (.string s)]] => some (ret1 (.st (vI (x_skipI s 0))))
 | _, _ => none
/- a cut to the end -/
theorem bt_tail (s : ByteArray) (i k : Nat) (h : i ≤ s.size) : bt (s.extract i s.size) k = bt s (i + k) := by
 unfold bt
 by_cases hk : i + k < s.size
 ·rw [dif_pos (by rw [ByteArray.size_extract]; omega), dif_pos hk, ByteArray.getElem_extract]
 ·rw [dif_neg (by rw [ByteArray.size_extract]; omega), dif_neg hk]
theorem size_tail (s : ByteArray) (i : Nat) : (s.extract i s.size).size = s.size - i := by rw [ByteArray.size_extract]; omega
theorem span_tail (p : Nat → Bool) (s : ByteArray) (i k : Nat) (h : i ≤ s.size) : span p (s.extract i s.size) k + i = span p s (i + k) := by
 rw [span, span.eq_1 p s (i + k), size_tail, bt_tail s i k h]
 by_cases hk : k < s.size - i ∧ p (bt s (i + k)) = true
 ·rw [dif_pos hk, dif_pos ⟨by omega, hk.2⟩, span_tail p s i (k + 1) h, Nat.add_assoc]
 ·rw [dif_neg hk, dif_neg (fun hh => hk ⟨by omega, hh.2⟩)]; omega
termination_by s.size - i - k
theorem spanI_tail (p : Int → Bool) (s : ByteArray) {i : Int} (h0 : 0 ≤ i) (h : i ≤ s.size) : i + spanI p (s.extract i.toNat s.size) 0 = spanI p s i := by
 unfold spanI
 have := span_tail (fun c => p (c : Int)) s i.toNat 0 (by omega)
 simp only [Nat.add_zero] at this
 simp only [Int.toNat_zero]
 omega
theorem spanI_ge (p : Int → Bool) (s : ByteArray) {i : Int} (h0 : 0 ≤ i) : i ≤ spanI p s i := by
 unfold spanI; have := span_ge (fun c => p (c : Int)) s i.toNat; omega
theorem spanI_le (p : Int → Bool) (s : ByteArray) {i : Int} (h0 : 0 ≤ i) (h : i ≤ s.size) : spanI p s i ≤ s.size := by
 unfold spanI; have := span_le (fun c => p (c : Int)) s i.toNat (by omega); omega
theorem spanI_gt {p : Int → Bool} {s : ByteArray} {i : Int} (h0 : 0 ≤ i) (h : i < s.size) (hp : p (bt s i.toNat : Int) = true) : i < spanI p s i := by
 unfold spanI; have := span_gt (p := fun c => p (c : Int)) (s := s) (i := i.toNat) (by omega) hp; omega
theorem add_span {p : Int → Bool} {s : ByteArray} {i : Int} (hs : s.size < 4611686018427387904) (h0 : 0 ≤ i) (h : i ≤ s.size) : arithI .add .i64 i (spanI p (s.extract i.toNat s.size) 0) = spanI p s i := by
 have h1 := spanI_le p s h0 h
 have h2 := spanI_ge p s h0
 have h3 := spanI_tail p s h0 h
 rw [add64 (by omega) (by omega), h3]
theorem tail_lt {s : ByteArray} {a : Nat} (hs : s.size < 4611686018427387904) : (s.extract a s.size).size < 4611686018427387904 := by rw [size_tail]; omega
theorem skipI_blank {s : ByteArray} {i : Int} (h0 : 0 ≤ i) (h : i < s.size) (hb : bt s i.toNat = 32 ∨ bt s i.toNat = 9 ∨ bt s i.toNat = 13 ∨ bt s i.toNat = 10) : skipI s (i + 1) = skipI s i := by
 unfold skipI
 rw [skip.eq_1 s i.toNat, dif_pos (by omega), if_pos (by simp [isBlankN]; omega), show (i + 1).toNat = i.toNat + 1 by omega]
theorem notNl_eq : (fun c : Nat => notNl (c : Int)) = fun c => !decide (c = 10) := by
 funext c; simp [notNl]; omega
theorem skipI_hash {s : ByteArray} {i : Int} (h0 : 0 ≤ i) (h : i < s.size) (hb : bt s i.toNat = 35) : skipI s (spanI notNl s i) = skipI s i := by
 unfold skipI spanI
 rw [skip.eq_1 s i.toNat, dif_pos (by omega), if_neg (by simp [isBlankN, hb]), dif_pos hb, notNl_eq, Int.toNat_natCast]
theorem skipI_stop {s : ByteArray} {i : Int} (h0 : 0 ≤ i) (hb : ¬ (bt s i.toNat = 32 ∨ bt s i.toNat = 9 ∨ bt s i.toNat = 13 ∨ bt s i.toNat = 10 ∨ bt s i.toNat = 35)) : skipI s i = i := by
 unfold skipI
 rw [skip.eq_1 s i.toNat]
 split
 ·rw [if_neg (by simp [isBlankN]; omega), dif_neg (by omega)]; omega
 ·omega
theorem skipI_end {s : ByteArray} {i : Int} (h0 : 0 ≤ i) (h : ¬ i < s.size) : skipI s i = i := by
 unfold skipI
 rw [skip.eq_1 s i.toNat, dif_neg (by omega)]; omega
theorem pc_blank (s : ByteArray) (hs : s.size < 4611686018427387904) : PC Try.prog T 51 [.v false [vS s]] (ret1 (.st (vI (skipI s 0)))) [] := by
 refine pc_of tok Try.func51 rfl (by rfl) ?_
 obtain ⟨j, hj⟩ : ∃ j : J, j = std Try.prog T := ⟨_, rfl⟩
 generalize y_isLetI : @isLetI = x_isLetI at *
 generalize y_isMoreI : @isMoreI = x_isMoreI at *
 generalize y_spanI : @spanI = x_spanI at *
 generalize y_isSpelI : @isSpelI = x_isSpelI at *
 generalize y_notNl : @notNl = x_notNl at *
 generalize y_skipI : @skipI = x_skipI at *
 (repeat' first | ((first | with_reducible refine tr_cut (fun h => ?_) (fun h => ?_) | refine aw_condj (by cbv) (fun h => ?_) (fun h => ?_)) <;> (try simp (disch := omega) only [hj, std, cmpI, cmpB, satB, Bool.not_eq_true, Bool.not_eq_false, decide_eq_true_eq, decide_eq_false_iff_not, beq_iff_eq, bne_iff_ne, bne_eq_false_iff_eq, beq_eq_false_iff_ne, ne_eq, reduceCtorEq, not_true_eq_false, not_false_eq_true, add64, sub64] at h) <;> (try (exfalso; omega))) | (with_reducible refine tr_alt (fun h => ?_) ?_ <;> (try (exfalso; omega))) | (with_reducible first | refine tr_ob ?_ ?_ | refine tr_done ?_) | (refine aw_tr hj tok (book2 x_isLetI x_isMoreI x_spanI x_isSpelI x_notNl x_skipI) (by cbv) ?_) | (refine aw_seq fun K hK => ?_) | (refine aw_tr1 hj tok (book2 x_isLetI x_isMoreI x_spanI x_isSpelI x_notNl x_skipI) (by cbv) ?_) | (refine aw_skip ?_) | (refine aw_block ?_) | (refine aw_exit ?_) | (refine aw_ret ⟨.inr rfl, ret_okj hj (by cbv) ?_ ?_⟩) | (refine aw_ret ?_) | (with_reducible first | refine th_n ?_ | refine th_r ?_ | refine th_x ?_ | refine blk_n ?_ | refine blk_r ?_ | refine blk_x ?_ | refine blk_y rfl ?_) | (refine ⟨.inr rfl, ret_okj hj (by cbv) ?_ ?_⟩) | (refine ⟨.inl rfl, ret_okj hj (by cbv) ?_ ?_⟩) | (with_reducible first | refine ⟨(_, _, _, _, _, _, _, _, _), by cbv, ?_, ?_⟩ | refine ⟨(_, _, _, _, _, _, _, _), by cbv, ?_, ?_⟩ | refine ⟨(_, _, _, _, _, _, _), by cbv, ?_, ?_⟩ | refine ⟨(_, _, _, _, _, _), by cbv, ?_, ?_⟩ | refine ⟨(_, _, _, _, _), by cbv, ?_, ?_⟩ | refine ⟨(_, _, _, _), by cbv, ?_, ?_⟩ | refine ⟨(_, _, _), by cbv, ?_, ?_⟩ | refine ⟨(_, _), by cbv, ?_, ?_⟩ | refine ⟨_, by cbv, ?_, ?_⟩) | (with_reducible apply_assumption -symm -exfalso only [*]))
 all_goals ((try subst y_isLetI); (try subst y_isMoreI); (try subst y_spanI); (try subst y_isSpelI); (try subst y_notNl); (try subst y_skipI))
 refine aw_lpj hj [(0, .keep), (3, .keep)] [] (fun i : Int => stOf 31 [(0, .one (.c (vS s))), (3, .one (.c (vI i)))] []) (fun i => s.size - i.toNat) (fun i => 0 ≤ i ∧ i ≤ s.size ∧ skipI s i = skipI s 0) 0 (by generalize @isLetI = x_isLetI; generalize @isMoreI = x_isMoreI; generalize @spanI = x_spanI; generalize @isSpelI = x_isSpelI; generalize @notNl = x_notNl; generalize @skipI = x_skipI; cbv) ⟨by omega, by omega, rfl⟩ fun i ⟨i1, i2, i3⟩ => ?_
 generalize y_isLetI : @isLetI = x_isLetI at *
 generalize y_isMoreI : @isMoreI = x_isMoreI at *
 generalize y_spanI : @spanI = x_spanI at *
 generalize y_isSpelI : @isSpelI = x_isSpelI at *
 generalize y_notNl : @notNl = x_notNl at *
 generalize y_skipI : @skipI = x_skipI at *
 (repeat' first | ((first | with_reducible refine tr_cut (fun h => ?_) (fun h => ?_) | refine aw_condj (by cbv) (fun h => ?_) (fun h => ?_)) <;> (try simp (disch := omega) only [hj, std, cmpI, cmpB, satB, Bool.not_eq_true, Bool.not_eq_false, decide_eq_true_eq, decide_eq_false_iff_not, beq_iff_eq, bne_iff_ne, bne_eq_false_iff_eq, beq_eq_false_iff_ne, ne_eq, reduceCtorEq, not_true_eq_false, not_false_eq_true, add64, sub64] at h) <;> (try (exfalso; omega))) | (with_reducible refine tr_alt (fun h => ?_) ?_ <;> (try (exfalso; omega))) | (with_reducible first | refine tr_ob ?_ ?_ | refine tr_done ?_) | (refine aw_tr hj tok (book2 x_isLetI x_isMoreI x_spanI x_isSpelI x_notNl x_skipI) (by cbv) ?_) | (refine aw_seq fun K hK => ?_) | (refine aw_tr1 hj tok (book2 x_isLetI x_isMoreI x_spanI x_isSpelI x_notNl x_skipI) (by cbv) ?_) | (refine aw_skip ?_) | (refine aw_block ?_) | (refine aw_exit ?_) | (refine aw_ret ⟨.inr rfl, ret_okj hj (by cbv) ?_ ?_⟩) | (refine aw_ret ?_) | (with_reducible first | refine th_n ?_ | refine th_r ?_ | refine th_x ?_ | refine blk_n ?_ | refine blk_r ?_ | refine blk_x ?_ | refine blk_y rfl ?_) | (refine ⟨.inr rfl, ret_okj hj (by cbv) ?_ ?_⟩) | (refine ⟨.inl rfl, ret_okj hj (by cbv) ?_ ?_⟩) | (with_reducible first | refine ⟨(_, _, _, _, _, _, _, _, _), by cbv, ?_, ?_⟩ | refine ⟨(_, _, _, _, _, _, _, _), by cbv, ?_, ?_⟩ | refine ⟨(_, _, _, _, _, _, _), by cbv, ?_, ?_⟩ | refine ⟨(_, _, _, _, _, _), by cbv, ?_, ?_⟩ | refine ⟨(_, _, _, _, _), by cbv, ?_, ?_⟩ | refine ⟨(_, _, _, _), by cbv, ?_, ?_⟩ | refine ⟨(_, _, _), by cbv, ?_, ?_⟩ | refine ⟨(_, _), by cbv, ?_, ?_⟩ | refine ⟨_, by cbv, ?_, ?_⟩) | (with_reducible apply_assumption -symm -exfalso only [*]))
 all_goals ((try subst y_isLetI); (try subst y_isMoreI); (try subst y_spanI); (try subst y_isSpelI); (try subst y_notNl); (try subst y_skipI))
 all_goals first | exact obl0 | ((repeat (refine obl1 (by first | (rw [hj]; exact c_run (tail_lt hs) c_notNl) | (rw [← i3]; exact skipI_stop i1 (by omega)) | (rw [← i3]; exact skipI_end i1 ‹_›) | ((simp (disch := omega) only [hj, std, add64]; rw [skipI_blank i1 ‹_› (by omega)]; exact i3)) | ((simp (disch := omega) only [hj, std, add_span]; rw [skipI_hash i1 ‹_› (by omega)]; exact i3)) | ((simp (disch := omega) only [hj, std, add_span]; have f1 := spanI_ge notNl s i1; have f2 := spanI_le notNl s i1 i2; have f3 := spanI_gt (p := notNl) i1 ‹_› (by rw [‹(bt s i.toNat : Int) = 35›]; rfl); omega)) | (simp (disch := omega) only [hj, std, cmpI, cmpB, satB, add64, sub64, add_span] <;> omega) | (simp (disch := omega) [hj, std, cmpI, cmpB, satB, add64, sub64, add_span] <;> omega) | (rw [Bool.eq_iff_iff]; simp (disch := omega) [hj, std, cmpI, cmpB, satB, add64, sub64, add_span] <;> omega) | omega) ?_)); exact obl0) | (refine ret1_i ?_ <;> first | (rw [hj]; exact c_run (tail_lt hs) c_notNl) | (rw [← i3]; exact skipI_stop i1 (by omega)) | (rw [← i3]; exact skipI_end i1 ‹_›) | ((simp (disch := omega) only [hj, std, add64]; rw [skipI_blank i1 ‹_› (by omega)]; exact i3)) | ((simp (disch := omega) only [hj, std, add_span]; rw [skipI_hash i1 ‹_› (by omega)]; exact i3)) | ((simp (disch := omega) only [hj, std, add_span]; have f1 := spanI_ge notNl s i1; have f2 := spanI_le notNl s i1 i2; have f3 := spanI_gt (p := notNl) i1 ‹_› (by rw [‹(bt s i.toNat : Int) = 35›]; rfl); omega)) | (simp (disch := omega) only [hj, std, cmpI, cmpB, satB, add64, sub64, add_span] <;> omega) | (simp (disch := omega) [hj, std, cmpI, cmpB, satB, add64, sub64, add_span] <;> omega) | (rw [Bool.eq_iff_iff]; simp (disch := omega) [hj, std, cmpI, cmpB, satB, add64, sub64, add_span] <;> omega) | omega) | (and_intros <;> first | (rw [hj]; exact c_run (tail_lt hs) c_notNl) | (rw [← i3]; exact skipI_stop i1 (by omega)) | (rw [← i3]; exact skipI_end i1 ‹_›) | ((simp (disch := omega) only [hj, std, add64]; rw [skipI_blank i1 ‹_› (by omega)]; exact i3)) | ((simp (disch := omega) only [hj, std, add_span]; rw [skipI_hash i1 ‹_› (by omega)]; exact i3)) | ((simp (disch := omega) only [hj, std, add_span]; have f1 := spanI_ge notNl s i1; have f2 := spanI_le notNl s i1 i2; have f3 := spanI_gt (p := notNl) i1 ‹_› (by rw [‹(bt s i.toNat : Int) = 35›]; rfl); omega)) | (simp (disch := omega) only [hj, std, cmpI, cmpB, satB, add64, sub64, add_span] <;> omega) | (simp (disch := omega) [hj, std, cmpI, cmpB, satB, add64, sub64, add_span] <;> omega) | (rw [Bool.eq_iff_iff]; simp (disch := omega) [hj, std, cmpI, cmpB, satB, add64, sub64, add_span] <;> omega) | omega) | (refine ret1_b ?_ <;> first | (rw [hj]; exact c_run (tail_lt hs) c_notNl) | (rw [← i3]; exact skipI_stop i1 (by omega)) | (rw [← i3]; exact skipI_end i1 ‹_›) | ((simp (disch := omega) only [hj, std, add64]; rw [skipI_blank i1 ‹_› (by omega)]; exact i3)) | ((simp (disch := omega) only [hj, std, add_span]; rw [skipI_hash i1 ‹_› (by omega)]; exact i3)) | ((simp (disch := omega) only [hj, std, add_span]; have f1 := spanI_ge notNl s i1; have f2 := spanI_le notNl s i1 i2; have f3 := spanI_gt (p := notNl) i1 ‹_› (by rw [‹(bt s i.toNat : Int) = 35›]; rfl); omega)) | (simp (disch := omega) only [hj, std, cmpI, cmpB, satB, add64, sub64, add_span] <;> omega) | (simp (disch := omega) [hj, std, cmpI, cmpB, satB, add64, sub64, add_span] <;> omega) | (rw [Bool.eq_iff_iff]; simp (disch := omega) [hj, std, cmpI, cmpB, satB, add64, sub64, add_span] <;> omega) | omega)
end Go.Proofs.Ytgimfjmigoibgaa.A
/- Lexing: long and first of lex. -/
set_option linter.unusedSimpArgs false
set_option linter.unusedVariables false
set_option maxRecDepth 100000
set_option maxHeartbeats 4000000
namespace Go.Proofs.Ytgimfjmigoibgaa.A
open Go
def lgI (t : ByteArray) (x : Int) : Int := if 32 < t.size then 0 else x
def lgS (t : ByteArray) : ByteArray := if 32 < t.size then ByteArray.empty else t
def lgE (t : ByteArray) : Int := if 32 < t.size then 19 else 0
def tkK (s : ByteArray) (i : Int) : Int := (tokAt s i.toNat).1.1
def tkT (s : ByteArray) (i : Int) : ByteArray := (tokAt s i.toNat).1.2.1
def tkW (s : ByteArray) (i : Int) : Int := (tokAt s i.toNat).1.2.2
def tkN (s : ByteArray) (i : Int) : Int := ((tokAt s i.toNat).2.1 : Nat)
def tkE (s : ByteArray) (i : Int) : Int := (tokAt s i.toNat).2.2
def rTok (k : Int) (t : ByteArray) (w n e : Int) : RV := rets [(true, [.st (vI k), .st (vS t), .st (vI w)]), (false, [.st (vI n)]), (false, [.st (vI e)])]
theorem rTok_eq {k k' : Int} {t t' : ByteArray} {w w' n n' e e' : Int} (h1 : k = k') (h2 : t = t') (h3 : w = w') (h4 : n = n') (h5 : e = e') :
  rTok k t w n e = ⟨true, [(true, [.st (.val (.int .i64 k')), .st (.val (.string t')), .st (.val (.int .i64 w'))]), (false, [.st (.val (.int .i64 n'))]), (false, [.st (.val (.int .i64 e'))])]⟩ := by
 rw [h1, h2, h3, h4, h5]; rfl
theorem c_long (k : Int) (t : ByteArray) (w n : Int) : pc 78 [.v true [vI k, vS t, vI w], .v false [vI n]] (rTok (lgI t k) (lgS t) (lgI t w) (lgI t n) (lgE t)) := by
 refine ⟨enters Try.func78 (by kernel_rfl) (by kernel_rfl), pc_of tok Try.func78 rfl (by rfl) ?_⟩
 obtain ⟨j, hj⟩ : ∃ j : J, j = std Try.prog T := ⟨_, rfl⟩
 generalize y_lgI : @lgI = x_lgI at *
 generalize y_lgS : @lgS = x_lgS at *
 generalize y_lgE : @lgE = x_lgE at *
 (repeat' first | ((first | with_reducible refine tr_cut (fun h => ?_) (fun h => ?_) | refine aw_condj (by cbv) (fun h => ?_) (fun h => ?_)) <;> (try simp (disch := omega) only [hj, std, cmpI, cmpB, satB, Bool.not_eq_true, Bool.not_eq_false, decide_eq_true_eq, decide_eq_false_iff_not, beq_iff_eq, bne_iff_ne, bne_eq_false_iff_eq, beq_eq_false_iff_ne, ne_eq, reduceCtorEq, not_true_eq_false, not_false_eq_true, add64, sub64] at h) <;> (try (exfalso; omega))) | (with_reducible refine tr_alt (fun h => ?_) ?_ <;> (try (exfalso; omega))) | (with_reducible first | refine tr_ob ?_ ?_ | refine tr_done ?_) | (refine aw_tr hj tok book0 (by cbv) ?_) | (refine aw_seq fun K hK => ?_) | (refine aw_tr1 hj tok book0 (by cbv) ?_) | (refine aw_skip ?_) | (refine aw_block ?_) | (refine aw_exit ?_) | (refine aw_ret ⟨.inr rfl, ret_okj hj (by cbv) ?_ ?_⟩) | (refine aw_ret ?_) | (with_reducible first | refine th_n ?_ | refine th_r ?_ | refine th_x ?_ | refine blk_n ?_ | refine blk_r ?_ | refine blk_x ?_ | refine blk_y rfl ?_) | (refine ⟨.inr rfl, ret_okj hj (by cbv) ?_ ?_⟩) | (refine ⟨.inl rfl, ret_okj hj (by cbv) ?_ ?_⟩) | (with_reducible apply_assumption -symm -exfalso only [*]))
 all_goals ((try subst y_lgI); (try subst y_lgS); (try subst y_lgE))
 all_goals first | exact obl0 | ((repeat (refine obl1 (by first | ((simp only [lgI, lgS, lgE]; split <;> first | rfl | (exfalso; omega))) | (rfl) | (simp (disch := omega) only [hj, std, cmpI, cmpB, satB, add64, sub64] <;> omega) | (simp (disch := omega) [hj, std, cmpI, cmpB, satB, add64, sub64] <;> omega) | (rw [Bool.eq_iff_iff]; simp (disch := omega) [hj, std, cmpI, cmpB, satB, add64, sub64] <;> omega) | omega) ?_)); exact obl0) | (refine rTok_eq ?_ ?_ ?_ ?_ ?_ <;> first | ((simp only [lgI, lgS, lgE]; split <;> first | rfl | (exfalso; omega))) | (rfl) | (simp (disch := omega) only [hj, std, cmpI, cmpB, satB, add64, sub64] <;> omega) | (simp (disch := omega) [hj, std, cmpI, cmpB, satB, add64, sub64] <;> omega) | (rw [Bool.eq_iff_iff]; simp (disch := omega) [hj, std, cmpI, cmpB, satB, add64, sub64] <;> omega) | omega) | (refine ret1_b ?_ <;> first | ((simp only [lgI, lgS, lgE]; split <;> first | rfl | (exfalso; omega))) | (rfl) | (simp (disch := omega) only [hj, std, cmpI, cmpB, satB, add64, sub64] <;> omega) | (simp (disch := omega) [hj, std, cmpI, cmpB, satB, add64, sub64] <;> omega) | (rw [Bool.eq_iff_iff]; simp (disch := omega) [hj, std, cmpI, cmpB, satB, add64, sub64] <;> omega) | omega)
theorem isMoreN_eq : (fun c : Nat => isMoreI (c : Int)) = isMoreN := by
 funext c; simp only [isMoreI, isLetI, isMoreN, isLetN]; rw [Bool.eq_iff_iff]; simp; omega
theorem isSpelN_eq : (fun c : Nat => isSpelI (c : Int)) = isSpelN := by
 funext c; simp only [isSpelI, isSpelN]; rw [Bool.eq_iff_iff]; simp; omega
theorem isLetN_eq (c : Nat) : isLetI (c : Int) = isLetN c := by
 simp only [isLetI, isLetN]; rw [Bool.eq_iff_iff]; simp; omega
theorem moreI (s : ByteArray) (i : Int) : (spanI isMoreI s i).toNat = span isMoreN s i.toNat := by unfold spanI; rw [isMoreN_eq]; omega
theorem spelI (s : ByteArray) (i : Int) : (spanI isSpelI s i).toNat = span isSpelN s i.toNat := by unfold spanI; rw [isSpelN_eq]; omega
theorem tok_p {s : ByteArray} {i : Int} {c k : Nat} (hk : (c = 58 ∧ k = 3) ∨ (c = 124 ∧ k = 4) ∨ (c = 59 ∧ k = 5)) (h : (bt s i.toNat : Int) = c) : tokAt s i.toNat = (((k : Int), ⟨#[UInt8.ofNat c]⟩, (i.toNat : Int)), i.toNat + 1, 0) := by
 have h' : bt s i.toNat = c := by omega
 unfold tokAt
 dsimp only
 rw [h']
 rcases hk with ⟨rfl, rfl⟩ | ⟨rfl, rfl⟩ | ⟨rfl, rfl⟩ <;> rfl
theorem tok_let {s : ByteArray} {i : Int} (a : ¬ (bt s i.toNat : Int) = 58) (b : ¬ (bt s i.toNat : Int) = 124) (c : ¬ (bt s i.toNat : Int) = 59) (d : isLetI (bt s i.toNat) = true) :
  tokAt s i.toNat = if 32 < (spanI isMoreI s i).toNat - i.toNat then (tk0, i.toNat, 19) else ((1, s.extract i.toNat (spanI isMoreI s i).toNat, i.toNat), (spanI isMoreI s i).toNat, 0) := by
 unfold tokAt
 dsimp only
 rw [if_neg (by omega), if_neg (by omega), if_neg (by omega), if_pos (by rw [← isLetN_eq]; exact d), moreI]
theorem tok_q {s : ByteArray} {i : Int} (h0 : 0 ≤ i) (a : (bt s i.toNat : Int) = 39) :
  tokAt s i.toNat = if s.size ≤ (spanI isSpelI s (i + 1)).toNat ∨ bt s (spanI isSpelI s (i + 1)).toNat ≠ 39 ∨ (spanI isSpelI s (i + 1)).toNat = i.toNat + 1 then (tk0, i.toNat, 13)
   else if 32 < (spanI isSpelI s (i + 1)).toNat - i.toNat - 1 then (tk0, i.toNat, 19) else ((2, s.extract (i.toNat + 1) (spanI isSpelI s (i + 1)).toNat, i.toNat), (spanI isSpelI s (i + 1)).toNat + 1, 0) := by
 have a' : bt s i.toNat = 39 := by omega
 unfold tokAt
 dsimp only
 rw [if_neg (by omega), if_neg (by omega), if_neg (by omega), if_neg (by rw [a']; decide), if_pos a', spelI, show (i + 1).toNat = i.toNat + 1 by omega]
theorem tok_bad {s : ByteArray} {i : Int} (a : ¬ (bt s i.toNat : Int) = 58) (b : ¬ (bt s i.toNat : Int) = 124) (c : ¬ (bt s i.toNat : Int) = 59) (d : isLetI (bt s i.toNat) = false) (e : ¬ (bt s i.toNat : Int) = 39) : tokAt s i.toNat = (tk0, i.toNat, 13) := by
 unfold tokAt
 dsimp only
 rw [if_neg (by omega), if_neg (by omega), if_neg (by omega), if_neg (by rw [← isLetN_eq, d]; simp), if_neg (by omega)]
def Firsts (s : ByteArray) (k : Int) (t : ByteArray) (w n e : Int) : Prop := tkK s 0 = k ∧ tkT s 0 = t ∧ tkW s 0 = w ∧ tkN s 0 = n ∧ tkE s 0 = e
theorem firsts_of {s : ByteArray} {k : Int} {t : ByteArray} {w : Int} {n : Nat} {e : Int} (h : tokAt s (Int.toNat 0) = ((k, t, w), n, e)) : Firsts s k t w n e := by
 refine ⟨?_, ?_, ?_, ?_, ?_⟩ <;> simp only [tkK, tkT, tkW, tkN, tkE] <;> rw [h]
theorem first_let {s : ByteArray} (a : ¬ (bt s (Int.toNat 0) : Int) = 58) (b : ¬ (bt s (Int.toNat 0) : Int) = 124) (c : ¬ (bt s (Int.toNat 0) : Int) = 59) (d : isLetI (bt s (Int.toNat 0)) = true) :
  Firsts s (lgI (s.extract 0 (spanI isMoreI s 0).toNat) 1) (lgS (s.extract 0 (spanI isMoreI s 0).toNat)) (lgI (s.extract 0 (spanI isMoreI s 0).toNat) 0) (lgI (s.extract 0 (spanI isMoreI s 0).toNat) (spanI isMoreI s 0)) (lgE (s.extract 0 (spanI isMoreI s 0).toNat)) := by
 have h := tok_let a b c d
 have h1 := spanI_le isMoreI s (i := 0) (by omega) (by omega)
 have h2 := spanI_ge isMoreI s (i := 0) (by omega)
 have hz : (s.extract 0 (spanI isMoreI s 0).toNat).size = (spanI isMoreI s 0).toNat := by rw [ByteArray.size_extract]; omega
 simp only [lgI, lgS, lgE, hz]
 by_cases hb : 32 < (spanI isMoreI s 0).toNat
 ·rw [if_pos (by simpa using hb)] at h
  simp only [if_pos hb]
  exact firsts_of h
 ·rw [if_neg (by simpa using hb)] at h
  simp only [if_neg hb]
  have := firsts_of h
  rwa [show (((spanI isMoreI s 0).toNat : Nat) : Int) = spanI isMoreI s 0 by omega] at this
theorem first_q {s : ByteArray} (h0 : 0 < s.size) (a : (bt s (Int.toNat 0) : Int) = 39) (r : Int) (hr : r = spanI isSpelI (s.extract (Int.toNat 1) s.size) 0) (c1 : 0 < r) (c2 : r + 1 < s.size) (c3 : (bt s (r + 1).toNat : Int) = 39) :
  Firsts s (lgI (s.extract (Int.toNat 1) (r + 1).toNat) 2) (lgS (s.extract (Int.toNat 1) (r + 1).toNat)) (lgI (s.extract (Int.toNat 1) (r + 1).toNat) 0) (lgI (s.extract (Int.toNat 1) (r + 1).toNat) (r + 2)) (lgE (s.extract (Int.toNat 1) (r + 1).toNat)) := by
 have e1 := spanI_tail isSpelI s (i := 1) (by omega) (by omega)
 rw [← hr] at e1
 have h := tok_q (i := 0) (by omega) a
 rw [show (0 : Int) + 1 = 1 by omega, ← e1, if_neg (by rw [show (1 + r) = r + 1 by omega]; omega)] at h
 have hz : (s.extract (Int.toNat 1) (r + 1).toNat).size = r.toNat := by rw [ByteArray.size_extract]; omega
 simp only [lgI, lgS, lgE, hz]
 by_cases hb : 32 < r.toNat
 ·rw [if_pos (by simp; omega)] at h
  simp only [if_pos hb]
  exact firsts_of h
 ·rw [if_neg (by simp; omega)] at h
  simp only [if_neg hb]
  have := firsts_of h
  rw [show (1 + r) = r + 1 by omega] at this
  rwa [show (((r + 1).toNat + 1 : Nat) : Int) = r + 2 by omega] at this
theorem first_qbad {s : ByteArray} (h0 : 0 < s.size) (a : (bt s (Int.toNat 0) : Int) = 39) (r : Int) (hr : r = spanI isSpelI (s.extract (Int.toNat 1) s.size) 0) (c : ¬ (0 < r ∧ r + 1 < s.size ∧ (bt s (r + 1).toNat : Int) = 39)) :
  Firsts s 0 ByteArray.empty 0 0 13 := by
 have e1 := spanI_tail isSpelI s (i := 1) (by omega) (by omega)
 have e2 := spanI_ge isSpelI s (i := 1) (by omega)
 rw [← hr] at e1
 have h := tok_q (i := 0) (by omega) a
 rw [show (0 : Int) + 1 = 1 by omega, ← e1, if_pos (by rw [show (1 + r) = r + 1 by omega]; omega)] at h
 exact firsts_of h
theorem first_bad {s : ByteArray} (a : ¬ (bt s (Int.toNat 0) : Int) = 58) (b : ¬ (bt s (Int.toNat 0) : Int) = 124) (c : ¬ (bt s (Int.toNat 0) : Int) = 59) (d : isLetI (bt s (Int.toNat 0)) = false) (e : ¬ (bt s (Int.toNat 0) : Int) = 39) : Firsts s 0 ByteArray.empty 0 0 13 :=
 firsts_of (tok_bad a b c d e)
theorem first_p {s : ByteArray} {c k : Nat} (hk : (c = 58 ∧ k = 3) ∨ (c = 124 ∧ k = 4) ∨ (c = 59 ∧ k = 5)) (h : (bt s (Int.toNat 0) : Int) = c) : Firsts s k ⟨#[UInt8.ofNat c]⟩ 0 1 0 := firsts_of (tok_p hk h)
theorem rTok_of {s : ByteArray} {k' : Int} {t' : ByteArray} {w' n' e' : Int} (h : Firsts s k' t' w' n' e') :
  rTok (tkK s 0) (tkT s 0) (tkW s 0) (tkN s 0) (tkE s 0) = ⟨true, [(true, [.st (.val (.int .i64 k')), .st (.val (.string t')), .st (.val (.int .i64 w'))]), (false, [.st (.val (.int .i64 n'))]), (false, [.st (.val (.int .i64 e'))])]⟩ :=
 rTok_eq h.1 h.2.1 h.2.2.1 h.2.2.2.1 h.2.2.2.2
def book3 (x_isLetI : Int → Bool) (x_isMoreI : Int → Bool) (x_spanI : (Int → Bool) → ByteArray → Int → Int) (x_isSpelI : Int → Bool) (x_lgI : ByteArray → Int → Int) (x_lgS : ByteArray → ByteArray) (x_lgE : ByteArray → Int) : Book := fun f xs => match f, xs with
 | 55, [.v false [.val (.int .u8 n)]] => some (ret1 (.st (vB (x_isLetI n))))
 | 56, [.v false [.val (.string s)], .fn 57] => some (ret1 (.st (vI (x_spanI x_isMoreI s 0))))
 | 56, [.v false [.val (.string s)], .fn 58] => some (ret1 (.st (vI (x_spanI x_isSpelI s 0))))
 | 78, [.v true [.val (.int .i64 k), .val (.string t), .val (.int .i64 w)], .v false [.val (.int .i64 n)]] => some (rTok (x_lgI t k) (x_lgS t) (x_lgI t w) (x_lgI t n) (x_lgE t))
 | _, _ => none
set_option maxHeartbeats 4000000 in
theorem pc_first (s : ByteArray) (hs : s.size < 4611686018427387904) (h0 : 0 < s.size) : PC Try.prog T 52 [.v false [vS s]] (rTok (tkK s 0) (tkT s 0) (tkW s 0) (tkN s 0) (tkE s 0)) [] := by
 refine pc_of tok Try.func52 rfl (by rfl) ?_
 obtain ⟨j, hj⟩ : ∃ j : J, j = std Try.prog T := ⟨_, rfl⟩
 have p1 := spanI_ge isMoreI s (i := 0) (by omega)
 have p2 := spanI_le isMoreI s (i := 0) (by omega) (by omega)
 have q1 := spanI_ge isSpelI (s.extract (Int.toNat 1) s.size) (i := 0) (by omega)
 have q2 := spanI_le isSpelI (s.extract (Int.toNat 1) s.size) (i := 0) (by omega) (by omega)
 have q3 := size_tail s (Int.toNat 1)
 generalize y_isLetI : @isLetI = x_isLetI at *
 generalize y_isMoreI : @isMoreI = x_isMoreI at *
 generalize y_spanI : @spanI = x_spanI at *
 generalize y_isSpelI : @isSpelI = x_isSpelI at *
 generalize y_lgI : @lgI = x_lgI at *
 generalize y_lgS : @lgS = x_lgS at *
 generalize y_lgE : @lgE = x_lgE at *
 generalize y_tkK : @tkK = x_tkK at *
 generalize y_tkT : @tkT = x_tkT at *
 generalize y_tkW : @tkW = x_tkW at *
 generalize y_tkN : @tkN = x_tkN at *
 generalize y_tkE : @tkE = x_tkE at *
 (repeat' first | ((first | with_reducible refine tr_cut (fun h => ?_) (fun h => ?_) | refine aw_condj (by cbv) (fun h => ?_) (fun h => ?_)) <;> (try simp (disch := omega) only [hj, std, cmpI, cmpB, satB, Bool.not_eq_true, Bool.not_eq_false, decide_eq_true_eq, decide_eq_false_iff_not, beq_iff_eq, bne_iff_ne, bne_eq_false_iff_eq, beq_eq_false_iff_ne, ne_eq, reduceCtorEq, not_true_eq_false, not_false_eq_true, add64, sub64] at h) <;> (try (exfalso; omega))) | (with_reducible refine tr_alt (fun h => ?_) ?_ <;> (try (exfalso; omega))) | (with_reducible first | refine tr_ob ?_ ?_ | refine tr_done ?_) | (refine aw_tr hj tok (book3 x_isLetI x_isMoreI x_spanI x_isSpelI x_lgI x_lgS x_lgE) (by cbv) ?_) | (refine aw_seq fun K hK => ?_) | (refine aw_tr1 hj tok (book3 x_isLetI x_isMoreI x_spanI x_isSpelI x_lgI x_lgS x_lgE) (by cbv) ?_) | (refine aw_skip ?_) | (refine aw_block ?_) | (refine aw_exit ?_) | (refine aw_ret ⟨.inr rfl, ret_okj hj (by cbv) ?_ ?_⟩) | (refine aw_ret ?_) | (with_reducible first | refine th_n ?_ | refine th_r ?_ | refine th_x ?_ | refine blk_n ?_ | refine blk_r ?_ | refine blk_x ?_ | refine blk_y rfl ?_) | (refine ⟨.inr rfl, ret_okj hj (by cbv) ?_ ?_⟩) | (refine ⟨.inl rfl, ret_okj hj (by cbv) ?_ ?_⟩) | (with_reducible apply_assumption -symm -exfalso only [*]))
 all_goals ((try subst y_isLetI); (try subst y_isMoreI); (try subst y_spanI); (try subst y_isSpelI); (try subst y_lgI); (try subst y_lgS); (try subst y_lgE); (try subst y_tkK); (try subst y_tkT); (try subst y_tkW); (try subst y_tkN); (try subst y_tkE))
 all_goals first | exact obl0 | ((repeat (refine obl1 (by first | (rw [hj]; exact c_letter _) | (rw [hj]; exact c_run hs c_goes) | (rw [hj]; exact c_run (tail_lt hs) c_spells) | (rw [hj]; exact c_long _ _ _ _) | (exact first_p (c := 58) (k := 3) (.inl ⟨rfl, rfl⟩) ‹_›) | (exact first_p (c := 124) (k := 4) (.inr (.inl ⟨rfl, rfl⟩)) ‹_›) | (exact first_p (c := 59) (k := 5) (.inr (.inr ⟨rfl, rfl⟩)) ‹_›) | (exact first_bad ‹_› ‹_› ‹_› ‹_› ‹_›) | ((simp only [hj, std]; exact first_let ‹_› ‹_› ‹_› ‹_›)) | ((simp (disch := omega) only [hj, std, add64]; exact first_q h0 ‹_› _ rfl (by omega) (by omega) ‹_›)) | ((refine first_qbad h0 ‹_› _ rfl ?_; omega)) | (simp (disch := omega) only [hj, std, cmpI, cmpB, satB, add64, sub64] <;> omega) | (simp (disch := omega) [hj, std, cmpI, cmpB, satB, add64, sub64] <;> omega) | (rw [Bool.eq_iff_iff]; simp (disch := omega) [hj, std, cmpI, cmpB, satB, add64, sub64] <;> omega) | omega) ?_)); exact obl0) | (refine rTok_of ?_ <;> first | (rw [hj]; exact c_letter _) | (rw [hj]; exact c_run hs c_goes) | (rw [hj]; exact c_run (tail_lt hs) c_spells) | (rw [hj]; exact c_long _ _ _ _) | (exact first_p (c := 58) (k := 3) (.inl ⟨rfl, rfl⟩) ‹_›) | (exact first_p (c := 124) (k := 4) (.inr (.inl ⟨rfl, rfl⟩)) ‹_›) | (exact first_p (c := 59) (k := 5) (.inr (.inr ⟨rfl, rfl⟩)) ‹_›) | (exact first_bad ‹_› ‹_› ‹_› ‹_› ‹_›) | ((simp only [hj, std]; exact first_let ‹_› ‹_› ‹_› ‹_›)) | ((simp (disch := omega) only [hj, std, add64]; exact first_q h0 ‹_› _ rfl (by omega) (by omega) ‹_›)) | ((refine first_qbad h0 ‹_› _ rfl ?_; omega)) | (simp (disch := omega) only [hj, std, cmpI, cmpB, satB, add64, sub64] <;> omega) | (simp (disch := omega) [hj, std, cmpI, cmpB, satB, add64, sub64] <;> omega) | (rw [Bool.eq_iff_iff]; simp (disch := omega) [hj, std, cmpI, cmpB, satB, add64, sub64] <;> omega) | omega) | (refine ret1_b ?_ <;> first | (rw [hj]; exact c_letter _) | (rw [hj]; exact c_run hs c_goes) | (rw [hj]; exact c_run (tail_lt hs) c_spells) | (rw [hj]; exact c_long _ _ _ _) | (exact first_p (c := 58) (k := 3) (.inl ⟨rfl, rfl⟩) ‹_›) | (exact first_p (c := 124) (k := 4) (.inr (.inl ⟨rfl, rfl⟩)) ‹_›) | (exact first_p (c := 59) (k := 5) (.inr (.inr ⟨rfl, rfl⟩)) ‹_›) | (exact first_bad ‹_› ‹_› ‹_› ‹_› ‹_›) | ((simp only [hj, std]; exact first_let ‹_› ‹_› ‹_› ‹_›)) | ((simp (disch := omega) only [hj, std, add64]; exact first_q h0 ‹_› _ rfl (by omega) (by omega) ‹_›)) | ((refine first_qbad h0 ‹_› _ rfl ?_; omega)) | (simp (disch := omega) only [hj, std, cmpI, cmpB, satB, add64, sub64] <;> omega) | (simp (disch := omega) [hj, std, cmpI, cmpB, satB, add64, sub64] <;> omega) | (rw [Bool.eq_iff_iff]; simp (disch := omega) [hj, std, cmpI, cmpB, satB, add64, sub64] <;> omega) | omega)
end Go.Proofs.Ytgimfjmigoibgaa.A
/- Lexing: all tokens, the plain law. -/
set_option linter.unusedSimpArgs false
set_option linter.unusedVariables false
set_option maxRecDepth 100000
set_option maxHeartbeats 4000000
namespace Go.Proofs.Ytgimfjmigoibgaa.A
open Go
abbrev LxR := List Tk × Int × Int
def goOn (l : List Tk) (r : LxR) : LxR := if r.2.2 = 0 then (l ++ r.1, 0, 0) else r
theorem lexGo_skip {s : ByteArray} {i k : Nat} (h : skip s i = skip s k) : lexGo s i = lexGo s k := by
 rw [lexGo.eq_1 s i, lexGo.eq_1 s k, h]
theorem lexGo_end {s : ByteArray} {i : Nat} (h : ¬ skip s i < s.size) : lexGo s i = ([], 0, 0) := by
 rw [lexGo, dif_neg h]
theorem lexGo_bad {s : ByteArray} {i : Nat} (h : skip s i = i) (hi : i < s.size) (he : (tokAt s i).2.2 ≠ 0) : lexGo s i = ([], (i : Int), (tokAt s i).2.2) := by
 rw [lexGo, dif_pos (by rw [h]; exact hi), dif_neg (by rw [h]; exact he), h]
theorem lexGo_tok {s : ByteArray} {i : Nat} (h : skip s i = i) (hi : i < s.size) (he : (tokAt s i).2.2 = 0) : lexGo s i = goOn [(tokAt s i).1] (lexGo s (tokAt s i).2.1) := by
 rw [lexGo, dif_pos (by rw [h]; exact hi), dif_pos (by rw [h]; exact he), h]
 unfold goOn
 dsimp only
 split <;> rfl
theorem goOn_nil {s : ByteArray} {i : Nat} : goOn [] (lexGo s i) = lexGo s i := by
 unfold goOn
 split
 ·rename_i h
  have : ∀ n i, s.size - i = n → (lexGo s i).2.2 = 0 → (lexGo s i).2.1 = 0 := by
   intro n
   induction n using Nat.strongRecOn with
   | _ n ih =>
    intro i hn h
    rw [lexGo] at h ⊢
    split at h
    ·rename_i h1
     split at h
     ·rename_i h2
      rw [dif_pos h1, dif_pos h2]
      dsimp only at h ⊢
      split at h
      ·rename_i h3; rw [if_pos h3]
      ·rename_i h3; exact absurd h h3
     ·rename_i h2; exact absurd h h2
    ·rename_i h1; rw [dif_neg h1]
  have h1 := this _ i rfl h
  rw [List.nil_append]
  exact Prod.ext rfl (Prod.ext h1.symm h.symm)
 ·rfl
theorem goOn_goOn (l m : List Tk) (r : LxR) : goOn l (goOn m r) = goOn (l ++ m) r := by
 unfold goOn
 by_cases h : r.2.2 = 0
 ·simp [h]
 ·simp [h]
def tkCells (l : List Tk) : List C := l.flatMap fun t => [vI t.1, vS t.2.1, vI t.2.2]
theorem tkCells_snoc (l : List Tk) (t : Tk) : tkCells (l ++ [t]) = tkCells l ++ [vI t.1, vS t.2.1, vI t.2.2] := by simp [tkCells]
def lxN (s : ByteArray) : Nat := (lexGo s 0).1.length
def lxC (s : ByteArray) : List C := tkCells (lexGo s 0).1
def lxA (s : ByteArray) : Int := (lexGo s 0).2.1
def lxE (s : ByteArray) : Int := (lexGo s 0).2.2
def LxI (s : ByteArray) (n : Nat) (cs : List C) (i : Int) : Prop := ∃ l : List Tk, n = l.length ∧ cs = tkCells l ∧ 0 ≤ i ∧ i ≤ s.size ∧ (l.length : Int) ≤ i ∧ lexGo s 0 = goOn l (lexGo s i.toNat)
theorem LxI.start (s : ByteArray) : LxI s 0 [] 0 := ⟨[], rfl, rfl, by omega, by omega, by simp, goOn_nil.symm⟩
theorem LxI.hop {s : ByteArray} {n : Nat} {cs : List C} {i k : Int} (h : LxI s n cs i) (hk : i ≤ k) (hk2 : k ≤ s.size) (hs : skipI s k = skipI s i) : LxI s n cs k := by
 obtain ⟨l, h1, h2, h3, h4, h5, h6⟩ := h
 refine ⟨l, h1, h2, by omega, hk2, by omega, ?_⟩
 rw [h6, lexGo_skip (i := k.toNat) (k := i.toNat)]
 unfold skipI at hs; omega
theorem LxI.tok {s : ByteArray} {n : Nat} {cs : List C} {i : Int} (h : LxI s n cs i) (hi : i < s.size) (hs : skipI s i = i) (he : tkE s i = 0) : LxI s (n + 1) (cs ++ [vI (tkK s i), vS (tkT s i), vI (tkW s i)]) (tkN s i) ∧ i < tkN s i ∧ tkN s i ≤ s.size := by
 obtain ⟨l, h1, h2, h3, h4, h5, h6⟩ := h
 have hsk : skip s i.toNat = i.toNat := by unfold skipI at hs; omega
 have he' : (tokAt s i.toNat).2.2 = 0 := he
 have h7 := tokAt_end (s := s) (i := i.toNat) (by omega) he'
 have hn : tkN s i = ((tokAt s i.toNat).2.1 : Nat) := rfl
 refine ⟨⟨l ++ [(tokAt s i.toNat).1], by simp [h1], by rw [tkCells_snoc, h2]; rfl, by omega, by omega, by simp; omega, ?_⟩, by omega, by omega⟩
 rw [h6, lexGo_tok hsk (by omega) he', goOn_goOn, hn, Int.toNat_natCast]
theorem LxI.bad {s : ByteArray} {n : Nat} {cs : List C} {i : Int} (h : LxI s n cs i) (hi : i < s.size) (hs : skipI s i = i) (he : ¬ tkE s i = 0) : lxN s = 0 ∧ lxC s = [] ∧ lxA s = i ∧ lxE s = tkE s i := by
 obtain ⟨l, h1, h2, h3, h4, h5, h6⟩ := h
 have hsk : skip s i.toNat = i.toNat := by unfold skipI at hs; omega
 have h7 := lexGo_bad hsk (by omega) he
 have h8 : lexGo s 0 = ([], (i.toNat : Int), (tokAt s i.toNat).2.2) := by rw [h6, h7]; exact if_neg he
 refine ⟨?_, ?_, ?_, ?_⟩
 ·unfold lxN; rw [h8]; rfl
 ·unfold lxC; rw [h8]; rfl
 ·unfold lxA; rw [h8]; show (i.toNat : Int) = i; omega
 ·unfold lxE; rw [h8]; rfl
theorem LxI.done {s : ByteArray} {n : Nat} {cs : List C} {i : Int} (h : LxI s n cs i) (hi : ¬ i < s.size) : lxN s = n ∧ lxC s = cs ∧ lxA s = 0 ∧ lxE s = 0 := by
 obtain ⟨l, h1, h2, h3, h4, h5, h6⟩ := h
 have h7 := lexGo_end (s := s) (i := i.toNat) (by have := skip_ge s i.toNat; omega)
 have h8 : lexGo s 0 = (l, 0, 0) := by rw [h6, h7]; simp [goOn]
 refine ⟨?_, ?_, ?_, ?_⟩
 ·unfold lxN; rw [h8, h1]
 ·unfold lxC; rw [h8, h2]
 ·unfold lxA; rw [h8]
 ·unfold lxE; rw [h8]
end Go.Proofs.Ytgimfjmigoibgaa.A
/- Rules as they are written: the reader. -/
set_option linter.unusedSimpArgs false
set_option linter.unusedVariables false
set_option maxRecDepth 100000
set_option maxHeartbeats 4000000
namespace Go.Proofs.Ytgimfjmigoibgaa.A
open Go
abbrev It := Bool × ByteArray
abbrev Ln := ByteArray × List (List It)
def itC (l : List It) : List C := l.flatMap fun x => [vB x.1, vS x.2]
def nslC (n : Nat) (cs : List C) : C := if n = 0 then .nil else .sl n cs
def alC (l : List (List It)) : List C := l.map fun a => nslC a.length (itC a)
def lnC (l : List Ln) : List C := l.flatMap fun x => [vS x.1, nslC x.2.length (alC x.2)]
def itsGo : List C → List It
 | a :: b :: r => (gb a, gs b) :: itsGo r
 | _ => []
def alsGo (cs : List C) : List (List It) := cs.map fun c => itsGo (gc c)
def lnsGo : List C → List Ln
 | a :: b :: r => (gs a, alsGo (gc b)) :: lnsGo r
 | _ => []
def lnsOf (cs : List C) : List Ln := lnsGo cs
theorem gn_nsl (n : Nat) (cs : List C) : gn (nslC n cs) = n := by unfold nslC; split <;> simp_all [gn]
theorem gc_nsl {n : Nat} {cs : List C} (h : cs.length = 0 ∨ 0 < n) : gc (nslC n cs) = cs := by
 unfold nslC; split
 ·have : cs.length = 0 := by omega
  rw [List.eq_nil_of_length_eq_zero this]; rfl
 ·rfl
theorem ok_nsl (n : Nat) (cs : List C) : okK .sl (nslC n cs) := by unfold nslC; split; exact .inl rfl; exact .inr ⟨_, _, rfl⟩
theorem itC_len (l : List It) : (itC l).length = l.length * 2 := by unfold itC; induction l with | nil => rfl | cons x l ih => simp at ih ⊢; omega
theorem alC_len (l : List (List It)) : (alC l).length = l.length := by unfold alC; simp
theorem lnC_len (l : List Ln) : (lnC l).length = l.length * 2 := by unfold lnC; induction l with | nil => rfl | cons x l ih => simp at ih ⊢; omega
theorem gc_it (l : List It) : gc (nslC l.length (itC l)) = itC l := gc_nsl (by rw [itC_len]; omega)
theorem gc_al (l : List (List It)) : gc (nslC l.length (alC l)) = alC l := gc_nsl (by rw [alC_len]; omega)
theorem itsGo_itC (l : List It) : itsGo (itC l) = l := by
 unfold itC
 induction l with
 | nil => rfl
 | cons x l ih => show (_, _) :: itsGo (l.flatMap _) = _; rw [ih]; rfl
theorem alsGo_alC (l : List (List It)) : alsGo (alC l) = l := by
 unfold alsGo alC
 rw [List.map_map]
 conv => rhs; rw [← List.map_id l]
 refine List.map_congr_left fun a _ => ?_
 show itsGo (gc (nslC a.length (itC a))) = a
 rw [gc_it, itsGo_itC]
theorem lnsOf_lnC (l : List Ln) : lnsOf (lnC l) = l := by
 unfold lnsOf lnC
 induction l with
 | nil => rfl
 | cons x l ih =>
  show (gs (vS x.1), alsGo (gc (nslC x.2.length (alC x.2)))) :: lnsGo (l.flatMap _) = _
  rw [ih, gc_al, alsGo_alC]; rfl
theorem itC_snoc (l : List It) (b : Bool) (s : ByteArray) : itC l ++ [vB b, vS s] = itC (l ++ [(b, s)]) := by simp [itC]
theorem alC_snoc (l : List (List It)) (a : List It) : alC l ++ [nslC a.length (itC a)] = alC (l ++ [a]) := by simp [alC]
theorem lnC_snoc (l : List Ln) (x : Ln) : lnC l ++ [vS x.1, nslC x.2.length (alC x.2)] = lnC (l ++ [x]) := by simp [lnC]
theorem lnC_name (l : List Ln) (s : ByteArray) : lnC l ++ [vS s, .nil] = lnC (l ++ [(s, [])]) := lnC_snoc l (s, [])
theorem at_snoc1 (l : List C) (a b : C) {k : Nat} (h : k = l.length + 1) : cellAt (l ++ [a, b]) k = b := by subst h; simp [cellAt, List.getD_eq_getElem?_getD]
theorem at_snoc0 (l : List C) (a : C) {k : Nat} (h : k = l.length) : cellAt (l ++ [a]) k = a := by subst h; simp [cellAt, List.getD_eq_getElem?_getD]
theorem set_snoc1 (l : List C) (a b c : C) {k : Nat} (h : k = l.length + 1) : setC (l ++ [a, b]) k [c] = l ++ [a, c] := by
 subst h; unfold setC
 rw [List.take_append, List.drop_append, List.take_of_length_le (by omega), List.drop_eq_nil_of_le (by simp only [List.length_cons, List.length_nil]; omega), show l.length + 1 - l.length = 1 by omega, show l.length + 1 + [c].length - l.length = 2 by simp only [List.length_cons, List.length_nil]; omega]
 simp
theorem set_snoc0 (l : List C) (a c : C) {k : Nat} (h : k = l.length) : setC (l ++ [a]) k [c] = l ++ [c] := by
 subst h; unfold setC; simp
abbrev shI : Sh := .sl 53 [.st, .st]
abbrev shA : Sh := .sl 27 [shI]
abbrev shL : Sh := .sl 26 [.st, shA]
theorem setC_oneP {cs : List C} {k : Nat} (h : k < cs.length) (c : C) : setC cs k [c] = cs.set k c := by
 unfold setC
 rw [List.set_eq_take_append_cons_drop, if_pos h]; simp
theorem setC_twice {cs : List C} {k : Nat} (h : k < cs.length) (a b : C) : setC (setC cs k [a]) k [b] = setC cs k [b] := by
 rw [setC_oneP h, setC_oneP (by simpa using h), setC_oneP h, List.set_set]
theorem setC_len1 {cs : List C} {k : Nat} (h : k < cs.length) (a : C) : (setC cs k [a]).length = cs.length := by rw [setC_oneP h, List.length_set]
theorem cellAt_setC {cs : List C} {k : Nat} (h : k < cs.length) (a : C) : cellAt (setC cs k [a]) k = a := by
 rw [setC_oneP h]; simp [cellAt, List.getD_eq_getElem?_getD, h]
theorem subN {n : Nat} (h0 : 0 < n) (hn : n ≤ 1000000) : arithI .sub .i64 (n : Int) 1 = ((n - 1 : Nat) : Int) := by rw [sub64 (by omega) (by omega)]; omega
theorem pc_name (n : Nat) (cs : List C) (f : Option FuncId) (o : Bool) (k a : Int) (s : ByteArray) (hn : n ≤ 1000000) :
  PC Try.prog T 30 [.root (.box [.tree shL (.sl n cs) none, .me f, .st (vB o)]), .v true [vI k, vS s, vI a]] (ret1 (.st (vB (decide (k = 1))))) [.box [.tree shL (.sl (n + 1) (cs ++ [vS s, .nil])) none, .me (some 53), .st (vB true)], .none] := by
 refine pc_of tok Try.func30 rfl (by rfl) ?_
 obtain ⟨j, hj⟩ : ∃ j : J, j = std Try.prog T := ⟨_, rfl⟩
 have hm : Try.prog.follows .mixedOrders = true := by kernel_rfl
 (repeat' first | (refine ⟨.inr rfl, ret_oku hj (by cbv) (by cbv) rfl ?_ ?_ (upd_of ?_)⟩) | (refine ⟨.inl rfl, ret_oku hj (by cbv) (by cbv) rfl ?_ ?_ (upd_of ?_)⟩) | ((first | with_reducible refine tr_cut (fun h => ?_) (fun h => ?_) | refine aw_condj (by cbv) (fun h => ?_) (fun h => ?_)) <;> (try simp (disch := omega) only [hj, std, cmpI, cmpB, satB, Bool.not_eq_true, Bool.not_eq_false, decide_eq_true_eq, decide_eq_false_iff_not, beq_iff_eq, bne_iff_ne, bne_eq_false_iff_eq, beq_eq_false_iff_ne, ne_eq, reduceCtorEq, not_true_eq_false, not_false_eq_true, pl0, if_true, cmpS_eq, cmpS_neq, Bool.not_eq_eq_eq_not, Bool.not_true, Bool.not_false, Bool.not_eq_true', add64, sub64] at h) <;> (try (exfalso; omega))) | (with_reducible refine tr_alt (fun h => ?_) ?_ <;> (try (exfalso; omega))) | (with_reducible first | refine tr_ob ?_ ?_ | refine tr_done ?_ | refine dr_go (by cbv) ?_) | (refine aw_dw1 (id := 1) hj tok hm book0 [(0, false), (1, false), (2, false), (3, false), (4, false), (5, true), (6, true), (7, true), (8, true)] [(9, true), (10, true), (11, true), (12, true)] [1, 2, 3, 4] (by kernel_rfl) (by cbv) ?_) | (refine aw_dw (id := 1) hj tok hm book0 [(0, false), (1, false), (2, false), (3, false), (4, false), (5, true), (6, true), (7, true), (8, true)] [(9, true), (10, true), (11, true), (12, true)] [1, 2, 3, 4] (by kernel_rfl) (by cbv) ?_) | (refine aw_tr hj tok book0 (by cbv) ?_) | (refine aw_seq fun K hK => ?_) | (refine aw_tr1 hj tok book0 (by cbv) ?_) | (refine aw_skip ?_) | (refine aw_block ?_) | (refine aw_exit ?_) | (refine aw_ret ⟨.inr rfl, ret_okj hj (by cbv) ?_ ?_⟩) | (refine aw_ret ?_) | (with_reducible first | refine th_n ?_ | refine th_r ?_ | refine th_x ?_ | refine blk_n ?_ | refine blk_r ?_ | refine blk_x ?_ | refine blk_y rfl ?_) | (refine ⟨.inr rfl, ret_okj hj (by cbv) ?_ ?_⟩) | (refine ⟨.inl rfl, ret_okj hj (by cbv) ?_ ?_⟩) | (with_reducible apply_assumption -symm -exfalso only [*]))
 all_goals (try (repeat' first | with_reducible exact obl0 | with_reducible refine obl1 ?_ ?_))
 all_goals (try first | with_reducible exact True.intro | ((first | refine ob_le hj ?_ | refine ob_lei hj ?_ | refine ob_inb hj ?_ | refine ob_pos hj ?_ | refine ob_ne0 hj ?_ | refine ob_eqb hj ?_); (first | rfl | first | omega | (simp only [hj, std]; split <;> omega) | (simp (disch := omega) only [hj, std, cmpI, cmpB, satB, add64, sub64, ite0, pl0, pl2, pl3, sb0, if_true, if_false, eq_self] <;> omega) | (simp (disch := omega) [hj, std, cmpI, cmpB, satB, add64, sub64, ite0, pl0, pl2, pl3, sb0, if_true, if_false, eq_self] <;> omega))) | ((refine r1b ?_; rw [hj]; rfl)) | ((refine upd_box ?_ (upd_none (upd_nil _)); rw [hj]; simp only [std, ite0]; rfl)))
theorem pc_alt (n : Nat) (cs : List C) (f : Option FuncId) (o : Bool) (X : C) (h0 : 0 < n) (hn : n ≤ 1000000) (hl : cs.length = 2 * n) (hX : cellAt cs ((n - 1) * 2 + 1) = X) (hc : okK .sl X) (hb : gn X ≤ 1000000) :
  PC Try.prog T 79 [.root (.box [.tree shL (.sl n cs) none, .me f, .st (vB o)])] ⟨true, []⟩ [.box [.tree shL (.sl n (setC cs ((n - 1) * 2 + 1) [.sl (gn X + 1) (gc X ++ [.nil])])) none, .me f, .st (vB o)]] := by
 have hk : (n - 1) * 2 + 1 < cs.length := by omega
 have e1 := subN h0 hn
 refine pc_of tok Try.func79 rfl (by rfl) ?_
 obtain ⟨j, hj⟩ : ∃ j : J, j = std Try.prog T := ⟨_, rfl⟩
 have hm : Try.prog.follows .mixedOrders = true := by kernel_rfl
 (repeat' first | (refine ⟨.inr rfl, ret_oku hj (by cbv) (by cbv) rfl ?_ ?_ (upd_of ?_)⟩) | (refine ⟨.inl rfl, ret_oku hj (by cbv) (by cbv) rfl ?_ ?_ (upd_of ?_)⟩) | ((first | with_reducible refine tr_cut (fun h => ?_) (fun h => ?_) | refine aw_condj (by cbv) (fun h => ?_) (fun h => ?_)) <;> (try simp (disch := omega) only [hj, std, cmpI, cmpB, satB, Bool.not_eq_true, Bool.not_eq_false, decide_eq_true_eq, decide_eq_false_iff_not, beq_iff_eq, bne_iff_ne, bne_eq_false_iff_eq, beq_eq_false_iff_ne, ne_eq, reduceCtorEq, not_true_eq_false, not_false_eq_true, pl0, if_true, cmpS_eq, cmpS_neq, Bool.not_eq_eq_eq_not, Bool.not_true, Bool.not_false, Bool.not_eq_true', add64, sub64] at h) <;> (try (exfalso; omega))) | (with_reducible refine tr_alt (fun h => ?_) ?_ <;> (try (exfalso; omega))) | (with_reducible first | refine tr_ob ?_ ?_ | refine tr_done ?_) | (refine aw_dr1 (id := 0) hj tok hm book0 true [(0, false), (1, false), (2, false), (3, false), (4, true), (5, true), (6, true), (7, true), (8, true), (9, true), (10, true), (11, true)] (by kernel_rfl) (by cbv) ?_) | (refine aw_dr (id := 0) hj tok hm book0 true [(0, false), (1, false), (2, false), (3, false), (4, true), (5, true), (6, true), (7, true), (8, true), (9, true), (10, true), (11, true)] (by kernel_rfl) (by cbv) ?_) | (refine aw_tr hj tok book0 (by cbv) ?_) | (refine aw_seq fun K hK => ?_) | (refine aw_tr1 hj tok book0 (by cbv) ?_) | (refine aw_skip ?_) | (refine aw_block ?_) | (refine aw_exit ?_) | (refine aw_ret ⟨.inr rfl, ret_okj hj (by cbv) ?_ ?_⟩) | (refine aw_ret ?_) | (with_reducible first | refine th_n ?_ | refine th_r ?_ | refine th_x ?_ | refine blk_n ?_ | refine blk_r ?_ | refine blk_x ?_ | refine blk_y rfl ?_) | (refine ⟨.inr rfl, ret_okj hj (by cbv) ?_ ?_⟩) | (refine ⟨.inl rfl, ret_okj hj (by cbv) ?_ ?_⟩) | (with_reducible apply_assumption -symm -exfalso only [*]))
 all_goals (try (repeat' first | with_reducible exact obl0 | with_reducible refine obl1 ?_ ?_))
 all_goals (try (rw [hj]; simp only [std, e1, Int.toNat_natCast, ite0, hX]))
 all_goals (rcases hc with rfl | ⟨m, ds, rfl⟩)
 all_goals (simp only [gn] at hb)
 all_goals (first | exact rfl | exact .inl rfl | exact .inr ⟨_, _, rfl⟩ | exact ⟨by omega, by omega⟩ | (simp only [setC_twice hk]; refine upd_box ?_ (upd_nil _); rfl) | (simp only [setC_len1 hk]; omega) | omega | (dsimp only; omega))
end Go.Proofs.Ytgimfjmigoibgaa.A
/- Rules as they are written: the reader's items; the fold over the tokens. -/
set_option linter.unusedSimpArgs false
set_option linter.unusedVariables false
set_option maxRecDepth 100000
set_option maxHeartbeats 4000000
namespace Go.Proofs.Ytgimfjmigoibgaa.A
open Go
def lastL (L : List Ln) : Ln := L.getLastD (ByteArray.empty, [])
def addAlt (L : List Ln) : List Ln := L.dropLast ++ [((lastL L).1, (lastL L).2 ++ [[]])]
def addIt (L : List Ln) (b : Bool) (s : ByteArray) : List Ln := L.dropLast ++ [((lastL L).1, (lastL L).2.dropLast ++ [(lastL L).2.getLastD [] ++ [(b, s)]])]
theorem addAlt_snoc (L : List Ln) (nm : ByteArray) (A : List (List It)) : addAlt (L ++ [(nm, A)]) = L ++ [(nm, A ++ [[]])] := by simp [addAlt, lastL]
theorem addIt_snoc (L : List Ln) (nm : ByteArray) (A : List (List It)) (a : List It) (b : Bool) (s : ByteArray) : addIt (L ++ [(nm, A ++ [a])]) b s = L ++ [(nm, A ++ [a ++ [(b, s)]])] := by simp [addIt, lastL]
def itmC (cs : List C) (k : Int) (s : ByteArray) : List C := if k = 1 ∨ k = 2 then lnC (addIt (lnsOf cs) (decide (k = 2)) s) else if k = 4 then lnC (addAlt (lnsOf cs)) else cs
def altC (cs : List C) : List C := lnC (addAlt (lnsOf cs))
def itmF (k : Int) : Option FuncId := some (if k = 5 then 30 else 80)
def itmO (k : Int) (o : Bool) : Bool := decide (k ≠ 5) && o
def itmB (k : Int) : Bool := decide (1 ≤ k ∧ k ≤ 5 ∧ k ≠ 3)
theorem cells_alt (L : List Ln) (nm : ByteArray) (A : List (List It)) : setC (lnC (L ++ [(nm, A)])) (((L ++ [(nm, A)]).length - 1) * 2 + 1) [.sl (gn (nslC A.length (alC A)) + 1) (gc (nslC A.length (alC A)) ++ [.nil])] = lnC (L ++ [(nm, A ++ [[]])]) := by
 rw [← lnC_snoc, ← lnC_snoc, set_snoc1 _ _ _ _ (by rw [lnC_len]; simp), gn_nsl, gc_al, show C.nil = nslC ([] : List It).length (itC []) from rfl, alC_snoc]
 simp [nslC]
theorem cells_it (L : List Ln) (nm : ByteArray) (A : List (List It)) (a : List It) (b : Bool) (s : ByteArray) :
  setC (lnC (L ++ [(nm, A ++ [a])])) (((L ++ [(nm, A ++ [a])]).length - 1) * 2 + 1) [.sl (A ++ [a]).length (setC (alC (A ++ [a])) ((A ++ [a]).length - 1) [.sl (gn (nslC a.length (itC a)) + 1) (gc (nslC a.length (itC a)) ++ [vB b, vS s])])] = lnC (L ++ [(nm, A ++ [a ++ [(b, s)]])]) := by
 rw [← lnC_snoc, ← lnC_snoc, set_snoc1 _ _ _ _ (by rw [lnC_len]; simp), gn_nsl, gc_it, itC_snoc, ← alC_snoc A a, set_snoc0 _ _ _ (by rw [alC_len]; simp), ← alC_snoc A (a ++ [(b, s)])]
 simp [nslC]
theorem at_last (L : List Ln) (nm : ByteArray) (A : List (List It)) : cellAt (lnC (L ++ [(nm, A)])) (((L ++ [(nm, A)]).length - 1) * 2 + 1) = nslC A.length (alC A) := by
 rw [← lnC_snoc, at_snoc1 _ _ _ (by rw [lnC_len]; simp)]
theorem at_lastA (A : List (List It)) (a : List It) : cellAt (alC (A ++ [a])) ((A ++ [a]).length - 1) = nslC a.length (itC a) := by
 rw [← alC_snoc, at_snoc0 _ _ (by rw [alC_len]; simp)]
def bookP1 (x_altC : List C → List C) : Book := fun f xs => match f, xs with
 | 79, [.root (.box [.tree _ (.sl n cs) _, .me f, .st (.val (.bool o))])] => some (⟨true, []⟩, [.box [.tree shL (.sl n (x_altC cs)) none, .me f, .st (vB o)]])
 | _, _ => none
theorem c_alt {L : List Ln} {nm : ByteArray} {A : List (List It)} {n : Nat} {cs : List C} {f : Option FuncId} {o : Bool} (hn : n = (L ++ [(nm, A)]).length) (hcs : cs = lnC (L ++ [(nm, A)])) (h1 : n ≤ 1000000) (h2 : A.length ≤ 1000000) :
  (std Try.prog T).pc 79 [.root (.box [.tree shL (.sl n cs) none, .me f, .st (vB o)])] ⟨true, []⟩ [.box [.tree shL (.sl n (altC cs)) none, .me f, .st (vB o)]] := by
 have h := pc_alt n cs f o (nslC A.length (alC A)) (by rw [hn]; simp) h1 (by rw [hcs, hn, lnC_len]; omega) (by rw [hcs, hn, at_last]) (ok_nsl _ _) (by rw [gn_nsl]; exact h2)
 have e : altC cs = setC cs ((n - 1) * 2 + 1) [.sl (gn (nslC A.length (alC A)) + 1) (gc (nslC A.length (alC A)) ++ [.nil])] := by
  rw [hcs, hn, cells_alt]; unfold altC; rw [lnsOf_lnC, addAlt_snoc]
 rw [e]
 exact ⟨enters Try.func79 (by kernel_rfl) (by kernel_rfl), h⟩
theorem pc_colon (L : List Ln) (nm : ByteArray) (A : List (List It)) (f : Option FuncId) (o : Bool) (k a : Int) (s : ByteArray) (h1 : (L ++ [(nm, A)]).length ≤ 1000000) (h2 : A.length ≤ 1000000) :
  PC Try.prog T 53 [.root (.box [.tree shL (.sl (L ++ [(nm, A)]).length (lnC (L ++ [(nm, A)]))) none, .me f, .st (vB o)]), .v true [vI k, vS s, vI a]] (ret1 (.st (vB (decide (k = 3))))) [.box [.tree shL (.sl (L ++ [(nm, A)]).length (altC (lnC (L ++ [(nm, A)])))) none, .me (some 80), .st (vB o)], .none] := by
 generalize hn : (L ++ [(nm, A)]).length = n at *
 generalize hc : lnC (L ++ [(nm, A)]) = cs at *
 refine pc_of tok Try.func53 rfl (by rfl) ?_
 obtain ⟨j, hj⟩ : ∃ j : J, j = std Try.prog T := ⟨_, rfl⟩
 have hm : Try.prog.follows .mixedOrders = true := by kernel_rfl
 generalize y_altC : @altC = x_altC at *
 generalize y_lnC : @lnC = x_lnC at *
 (repeat' first | (refine ⟨.inr rfl, ret_oku hj (by cbv) (by cbv) rfl ?_ ?_ (upd_of ?_)⟩) | (refine ⟨.inl rfl, ret_oku hj (by cbv) (by cbv) rfl ?_ ?_ (upd_of ?_)⟩) | ((first | with_reducible refine tr_cut (fun h => ?_) (fun h => ?_) | refine aw_condj (by cbv) (fun h => ?_) (fun h => ?_)) <;> (try simp (disch := omega) only [hj, std, cmpI, cmpB, satB, Bool.not_eq_true, Bool.not_eq_false, decide_eq_true_eq, decide_eq_false_iff_not, beq_iff_eq, bne_iff_ne, bne_eq_false_iff_eq, beq_eq_false_iff_ne, ne_eq, reduceCtorEq, not_true_eq_false, not_false_eq_true, pl0, if_true, cmpS_eq, cmpS_neq, Bool.not_eq_eq_eq_not, Bool.not_true, Bool.not_false, Bool.not_eq_true', add64, sub64] at h) <;> (try (exfalso; omega))) | (with_reducible refine tr_alt (fun h => ?_) ?_ <;> (try (exfalso; omega))) | (with_reducible first | refine tr_ob ?_ ?_ | refine tr_done ?_) | (refine aw_tr hj tok (bookP1 x_altC) (by cbv) ?_) | (refine aw_seq fun K hK => ?_) | (refine aw_tr1 hj tok (bookP1 x_altC) (by cbv) ?_) | (refine aw_skip ?_) | (refine aw_block ?_) | (refine aw_exit ?_) | (refine aw_ret ⟨.inr rfl, ret_okj hj (by cbv) ?_ ?_⟩) | (refine aw_ret ?_) | (with_reducible first | refine th_n ?_ | refine th_r ?_ | refine th_x ?_ | refine blk_n ?_ | refine blk_r ?_ | refine blk_x ?_ | refine blk_y rfl ?_) | (refine ⟨.inr rfl, ret_okj hj (by cbv) ?_ ?_⟩) | (refine ⟨.inl rfl, ret_okj hj (by cbv) ?_ ?_⟩) | (with_reducible apply_assumption -symm -exfalso only [*]))
 all_goals ((try subst y_altC); (try subst y_lnC))
 all_goals (try (repeat' first | with_reducible exact obl0 | with_reducible refine obl1 ?_ ?_))
 all_goals (try first | with_reducible exact True.intro | ((first | refine ob_pc hj ?_ | refine ob_pcn hj ?_); (try rw [hj]); first | exact c_alt (L := L) (nm := nm) (A := A) hn.symm hc.symm h1 h2) | ((first | refine ob_le hj ?_ | refine ob_lei hj ?_ | refine ob_inb hj ?_ | refine ob_pos hj ?_ | refine ob_ne0 hj ?_ | refine ob_eqb hj ?_); (first | rfl | first | omega | (simp only [hj, std]; split <;> omega) | (simp (disch := omega) only [hj, std, cmpI, cmpB, satB, add64, sub64, ite0, pl0, pl2, pl3, sb0, if_true, if_false, eq_self] <;> omega) | (simp (disch := omega) [hj, std, cmpI, cmpB, satB, add64, sub64, ite0, pl0, pl2, pl3, sb0, if_true, if_false, eq_self] <;> omega))) | ((refine r1b ?_; rw [hj]; rfl)) | ((refine upd_box ?_ (upd_none (upd_nil _)); rfl)))
end Go.Proofs.Ytgimfjmigoibgaa.A
/- Rules as they are written: an item. -/
set_option linter.unusedSimpArgs false
set_option linter.unusedVariables false
set_option maxRecDepth 100000
set_option maxHeartbeats 4000000
namespace Go.Proofs.Ytgimfjmigoibgaa.A
open Go
theorem itm1 {L : List Ln} {nm : ByteArray} {A : List (List It)} {a : List It} {k : Int} {s : ByteArray} (h : k = 1 ∨ k = 2) : itmC (lnC (L ++ [(nm, A ++ [a])])) k s = lnC (L ++ [(nm, A ++ [a ++ [(decide (k = 2), s)]])]) := by
 unfold itmC; rw [if_pos h, lnsOf_lnC, addIt_snoc]
theorem itm4 {L : List Ln} {nm : ByteArray} {A : List (List It)} {s : ByteArray} {k : Int} (h : k = 4) : itmC (lnC (L ++ [(nm, A)])) k s = altC (lnC (L ++ [(nm, A)])) := by
 unfold itmC altC; rw [if_neg (by omega), if_pos h]
theorem itm0 {cs : List C} {k : Int} {s : ByteArray} (h : ¬ (k = 1 ∨ k = 2)) (h4 : k ≠ 4) : itmC cs k s = cs := by
 unfold itmC; rw [if_neg h, if_neg h4]
theorem itmF5 {k : Int} (h : k = 5) : itmF k = some 30 := by unfold itmF; rw [if_pos h]
theorem itmFn {k : Int} (h : k ≠ 5) : itmF k = some 80 := by unfold itmF; rw [if_neg h]
theorem itmO5 {k : Int} {o : Bool} (h : k = 5) : itmO k o = false := by unfold itmO; simp [h]
theorem itmOn {k : Int} {o : Bool} (h : k ≠ 5) : itmO k o = o := by unfold itmO; simp [h]
theorem pc_item (L : List Ln) (nm : ByteArray) (A : List (List It)) (al : List It) (o : Bool) (k a : Int) (s : ByteArray) (h1 : (L ++ [(nm, A ++ [al])]).length ≤ 1000000) (h2 : (A ++ [al]).length ≤ 1000000) (h3 : al.length ≤ 1000000) :
  PC Try.prog T 80 [.root (.box [.tree shL (.sl (L ++ [(nm, A ++ [al])]).length (lnC (L ++ [(nm, A ++ [al])]))) none, .me (some 80), .st (vB o)]), .v true [vI k, vS s, vI a]] (ret1 (.st (vB (itmB k)))) [.box [.tree shL (.sl (L ++ [(nm, A ++ [al])]).length (itmC (lnC (L ++ [(nm, A ++ [al])])) k s)) none, .me (itmF k), .st (vB (itmO k o))], .none] := by
 have hX := at_last L nm (A ++ [al])
 have hY := at_lastA A al
 have hZ := fun b => cells_it L nm A al b s
 have hl : (lnC (L ++ [(nm, A ++ [al])])).length = 2 * (L ++ [(nm, A ++ [al])]).length := by rw [lnC_len]; omega
 have hl2 := alC_len (A ++ [al])
 have h0 : 0 < (L ++ [(nm, A ++ [al])]).length := by simp
 have h02 : 0 < (A ++ [al]).length := by simp
 have w1 : k = 1 ∨ k = 2 → _ := @itm1 L nm A al k s
 have w4 : k = 4 → _ := @itm4 L nm (A ++ [al]) s k
 have w0 := @itm0 (lnC (L ++ [(nm, A ++ [al])])) k s
 have hlA : (alC (A ++ [al])).length = (A ++ [al]).length := hl2
 have hca : _ → _ → _ → _ := fun hn hcs h1 => @c_alt L nm (A ++ [al]) (L ++ [(nm, A ++ [al])]).length (lnC (L ++ [(nm, A ++ [al])])) (some 80) o hn hcs h1 h2
 have hca := hca rfl rfl h1
 generalize hn : (L ++ [(nm, A ++ [al])]).length = n at *
 generalize hc : lnC (L ++ [(nm, A ++ [al])]) = cs at *
 have hk : (n - 1) * 2 + 1 < cs.length := by omega
 have e1 := subN h0 h1
 have e2 := subN h02 h2
 have q1 : nslC (A ++ [al]).length (alC (A ++ [al])) = .sl (A ++ [al]).length (alC (A ++ [al])) := by unfold nslC; rw [if_neg (by omega)]
 rw [q1] at hX
 have hYo := ok_nsl al.length (itC al)
 have hYn : gn (nslC al.length (itC al)) ≤ 1000000 := by rw [gn_nsl]; exact h3
 generalize nslC al.length (itC al) = Y at *
 generalize hm : (A ++ [al]).length = m at *
 generalize hd : alC (A ++ [al]) = ds at *
 have hkm : m - 1 < ds.length := by omega
 refine pc_of tok Try.func80 rfl (by rfl) ?_
 obtain ⟨j, hj⟩ : ∃ j : J, j = std Try.prog T := ⟨_, rfl⟩
 have hm : Try.prog.follows .mixedOrders = true := by kernel_rfl
 generalize y_altC : @altC = x_altC at *
 generalize y_itC : @itC = x_itC at *
 generalize y_alC : @alC = x_alC at *
 generalize y_lnC : @lnC = x_lnC at *
 generalize y_itmC : @itmC = x_itmC at *
 generalize y_itmF : @itmF = x_itmF at *
 generalize y_itmO : @itmO = x_itmO at *
 generalize y_itmB : @itmB = x_itmB at *
 (repeat' first | (refine ⟨.inr rfl, ret_oku hj (by cbv) (by cbv) rfl ?_ ?_ (upd_of ?_)⟩) | (refine ⟨.inl rfl, ret_oku hj (by cbv) (by cbv) rfl ?_ ?_ (upd_of ?_)⟩) | ((first | with_reducible refine tr_cut (fun h => ?_) (fun h => ?_) | refine aw_condj (by cbv) (fun h => ?_) (fun h => ?_)) <;> (try simp (disch := omega) only [hj, std, cmpI, cmpB, satB, Bool.not_eq_true, Bool.not_eq_false, decide_eq_true_eq, decide_eq_false_iff_not, beq_iff_eq, bne_iff_ne, bne_eq_false_iff_eq, beq_eq_false_iff_ne, ne_eq, reduceCtorEq, not_true_eq_false, not_false_eq_true, pl0, if_true, cmpS_eq, cmpS_neq, Bool.not_eq_eq_eq_not, Bool.not_true, Bool.not_false, Bool.not_eq_true', add64, sub64] at h) <;> (try (exfalso; omega))) | (with_reducible refine tr_alt (fun h => ?_) ?_ <;> (try (exfalso; omega))) | (with_reducible first | refine tr_ob ?_ ?_ | refine tr_done ?_ | refine dr_go (by cbv) ?_) | (refine aw_dw1 (id := 7) hj tok hm (bookP1 x_altC) [(0, false), (1, false), (2, false), (3, false), (4, false), (5, false), (6, false), (7, true), (8, true), (9, true), (10, true)] [(11, true), (12, true), (13, true)] [1, 2, 3, 4, 5, 6] (by kernel_rfl) (by cbv) ?_) | (refine aw_dw (id := 7) hj tok hm (bookP1 x_altC) [(0, false), (1, false), (2, false), (3, false), (4, false), (5, false), (6, false), (7, true), (8, true), (9, true), (10, true)] [(11, true), (12, true), (13, true)] [1, 2, 3, 4, 5, 6] (by kernel_rfl) (by cbv) ?_) | (refine aw_dr1 (id := 2) hj tok hm (bookP1 x_altC) true [(0, false), (1, false), (2, false), (3, false), (4, true), (5, true), (6, true), (7, true), (8, true), (9, true), (10, true), (11, true)] (by kernel_rfl) (by cbv) ?_) | (refine aw_dr (id := 2) hj tok hm (bookP1 x_altC) true [(0, false), (1, false), (2, false), (3, false), (4, true), (5, true), (6, true), (7, true), (8, true), (9, true), (10, true), (11, true)] (by kernel_rfl) (by cbv) ?_) | (refine aw_dr1 (id := 1) hj tok hm (bookP1 x_altC) true [(0, false), (1, false), (2, false), (3, false), (4, true), (5, true), (6, true), (7, true), (8, true), (9, true), (10, true), (11, true)] (by kernel_rfl) (by cbv) ?_) | (refine aw_dr (id := 1) hj tok hm (bookP1 x_altC) true [(0, false), (1, false), (2, false), (3, false), (4, true), (5, true), (6, true), (7, true), (8, true), (9, true), (10, true), (11, true)] (by kernel_rfl) (by cbv) ?_) | (refine aw_tr hj tok (bookP1 x_altC) (by cbv) ?_) | (refine aw_seq fun K hK => ?_) | (refine aw_tr1 hj tok (bookP1 x_altC) (by cbv) ?_) | (refine aw_skip ?_) | (refine aw_block ?_) | (refine aw_exit ?_) | (refine aw_ret ⟨.inr rfl, ret_okj hj (by cbv) ?_ ?_⟩) | (refine aw_ret ?_) | (with_reducible first | refine th_n ?_ | refine th_r ?_ | refine th_x ?_ | refine blk_n ?_ | refine blk_r ?_ | refine blk_x ?_ | refine blk_y rfl ?_) | (refine ⟨.inr rfl, ret_okj hj (by cbv) ?_ ?_⟩) | (refine ⟨.inl rfl, ret_okj hj (by cbv) ?_ ?_⟩) | (with_reducible apply_assumption -symm -exfalso only [*]))
 all_goals ((try subst y_altC); (try subst y_itC); (try subst y_alC); (try subst y_lnC); (try subst y_itmC); (try subst y_itmF); (try subst y_itmO); (try subst y_itmB))
 all_goals (try (repeat' first | with_reducible exact obl0 | with_reducible refine obl1 ?_ ?_))
 all_goals (try (rw [hj]; simp (disch := omega) only [std, e1, e2, Int.toNat_natCast, ite0, hX, hY, Nat.mul_one, setC_len1 hk, setC_len1 hkm, cellAt_setC hk, setC_twice hk, setC_twice hkm]))
 all_goals first
  | exact rfl
  | exact hca
  | omega
  | exact ⟨by omega, by omega⟩
  | exact .inr ⟨_, _, rfl⟩
  | exact hYo
  | (rcases hYo with rfl | ⟨u, us, rfl⟩ <;> (dsimp only; simp only [gn] at hYn; omega))
  | (refine r1b ?_; unfold itmB; simp only [decide_eq_true_eq, decide_eq_false_iff_not]; omega)
  | (rw [w1 (by omega), itmFn (by omega), itmOn (by omega), ← hZ]; refine upd_box ?_ (upd_none (upd_nil _)); rcases hYo with rfl | ⟨u, us, rfl⟩ <;> rfl)
  | (rw [w4 (by omega), itmFn (by omega), itmOn (by omega)]; exact upd_box rfl (upd_none (upd_nil _)))
  | (rw [w0 (by omega) (by omega), itmF5 (by omega), itmO5 (by omega)]; exact upd_box rfl (upd_none (upd_nil _)))
  | (rw [w0 (by omega) (by omega), itmFn (by omega), itmOn (by omega)]; exact upd_box rfl (upd_none (upd_nil _)))
end Go.Proofs.Ytgimfjmigoibgaa.A
/- Lexing: All of the reference. -/
set_option linter.unusedSimpArgs false
set_option linter.unusedVariables false
set_option maxRecDepth 100000
set_option maxHeartbeats 4000000
namespace Go.Proofs.Ytgimfjmigoibgaa.A
open Go
def rAll (e : TypeId) (s : ByteArray) : RV := rets [(false, [.own e (lxN s) (lxC s)]), (false, [.st (vI (lxA s))]), (false, [.st (vI (lxE s))])]
theorem rAll_of {e : TypeId} {s : ByteArray} {n : Nat} {cs : List C} {a b : Int} (h : lxN s = n ∧ lxC s = cs ∧ lxA s = a ∧ lxE s = b) :
  rAll e s = ⟨true, [(false, [.own e n cs]), (false, [.st (.val (.int .i64 a))]), (false, [.st (.val (.int .i64 b))])]⟩ := by
 unfold rAll; rw [h.1, h.2.1, h.2.2.1, h.2.2.2]; rfl
end Go.Proofs.Ytgimfjmigoibgaa.A
/- Lexing: a tail lexes as its place in the whole. -/
set_option linter.unusedSimpArgs false
set_option linter.unusedVariables false
set_option maxRecDepth 100000
set_option maxHeartbeats 4000000
namespace Go.Proofs.Ytgimfjmigoibgaa.A
open Go
theorem extract_tail (s : ByteArray) (i a b : Nat) (h : i + b ≤ s.size) : (s.extract i s.size).extract a b = s.extract (i + a) (i + b) := by
 rw [ByteArray.extract_extract]; congr 1; omega
theorem skip_b {s : ByteArray} {i : Nat} (h : i < s.size) (hb : isBlankN (bt s i) = true) : skip s i = skip s (i + 1) := by rw [skip, dif_pos h, if_pos hb]
theorem skip_h {s : ByteArray} {i : Nat} (h : i < s.size) (hb : ¬ isBlankN (bt s i) = true) (hc : bt s i = 35) : skip s i = skip s (span (fun c => !decide (c = 10)) s i) := by rw [skip, dif_pos h, if_neg hb, dif_pos hc]
theorem skip_s {s : ByteArray} {i : Nat} (h : i < s.size) (hb : ¬ isBlankN (bt s i) = true) (hc : ¬ bt s i = 35) : skip s i = i := by rw [skip, dif_pos h, if_neg hb, dif_neg hc]
theorem skip_e {s : ByteArray} {i : Nat} (h : ¬ i < s.size) : skip s i = i := by rw [skip, dif_neg h]
theorem skip_tail (s : ByteArray) (i k : Nat) (h : i ≤ s.size) : skip (s.extract i s.size) k + i = skip s (i + k) := by
 have hz := size_tail s i
 have hbt := bt_tail s i k h
 by_cases hk : k < s.size - i
 ·by_cases hb : isBlankN (bt s (i + k)) = true
  ·rw [skip_b (by omega) (by rw [hbt]; exact hb), skip_b (s := s) (by omega) hb, skip_tail s i (k + 1) h, Nat.add_assoc]
  ·by_cases hc : bt s (i + k) = 35
   ·have e1 := span_tail (fun c => !decide (c = 10)) s i k h
    have e2 : k < span (fun c => !decide (c = 10)) (s.extract i s.size) k := span_gt (by omega) (by rw [hbt, hc]; rfl)
    have e3 := span_le (fun c => !decide (c = 10)) (s.extract i s.size) k (by omega)
    rw [skip_h (by omega) (by rw [hbt]; exact hb) (by rw [hbt]; exact hc), skip_h (s := s) (by omega) hb hc, skip_tail s i _ h, ← e1, Nat.add_comm]
   ·rw [skip_s (by omega) (by rw [hbt]; exact hb) (by rw [hbt]; exact hc), skip_s (s := s) (by omega) hb hc]; omega
 ·rw [skip_e (by omega), skip_e (s := s) (by omega)]; omega
termination_by s.size - i - k
theorem skipI_tail (s : ByteArray) {i : Int} (h0 : 0 ≤ i) (h : i ≤ s.size) : i + skipI (s.extract i.toNat s.size) 0 = skipI s i := by
 unfold skipI
 have := skip_tail s i.toNat 0 (by omega)
 simp only [Nat.add_zero] at this
 simp only [Int.toNat_zero]
 omega
theorem c_blank {s : ByteArray} (hs : s.size < 4611686018427387904) : pc 51 [.v false [vS s]] (ret1 (.st (vI (skipI s 0)))) :=
 ⟨enters Try.func51 (by kernel_rfl) (by kernel_rfl), pc_blank s hs⟩
theorem c_first {s : ByteArray} (hs : s.size < 4611686018427387904) (h0 : 0 < s.size) : pc 52 [.v false [vS s]] (rTok (tkK s 0) (tkT s 0) (tkW s 0) (tkN s 0) (tkE s 0)) :=
 ⟨enters Try.func52 (by kernel_rfl) (by kernel_rfl), pc_first s hs h0⟩
theorem tok_tail (s : ByteArray) (i : Nat) (hi : i < s.size) :
  (tokAt (s.extract i s.size) 0).1.1 = (tokAt s i).1.1 ∧ (tokAt (s.extract i s.size) 0).1.2.1 = (tokAt s i).1.2.1 ∧ (tokAt (s.extract i s.size) 0).2.1 + i = (tokAt s i).2.1 ∧ (tokAt (s.extract i s.size) 0).2.2 = (tokAt s i).2.2 := by
 have hz := size_tail s i
 have b0 := bt_tail s i 0 (by omega)
 have m := span_tail isMoreN s i 0 (by omega)
 have p := span_tail isSpelN s i 1 (by omega)
 have m2 := span_le isMoreN s i (by omega)
 have p2 := span_le isSpelN s (i + 1) (by omega)
 have p3 := span_ge isSpelN s (i + 1)
 rw [Nat.add_zero] at b0 m
 unfold tokAt
 dsimp only
 rw [b0]
 by_cases h1 : bt s i = 58
 ·rw [if_pos h1, if_pos h1]; exact ⟨rfl, rfl, by show 0 + 1 + i = i + 1; omega, rfl⟩
 rw [if_neg h1, if_neg h1]
 by_cases h2 : bt s i = 124
 ·rw [if_pos h2, if_pos h2]; exact ⟨rfl, rfl, by show 0 + 1 + i = i + 1; omega, rfl⟩
 rw [if_neg h2, if_neg h2]
 by_cases h3 : bt s i = 59
 ·rw [if_pos h3, if_pos h3]; exact ⟨rfl, rfl, by show 0 + 1 + i = i + 1; omega, rfl⟩
 rw [if_neg h3, if_neg h3]
 by_cases h4 : isLetN (bt s i) = true
 ·rw [if_pos h4, if_pos h4]
  by_cases h5 : 32 < span isMoreN s i - i
  ·rw [if_pos h5, if_pos (by omega)]; exact ⟨rfl, rfl, by show 0 + i = i; omega, rfl⟩
  ·rw [if_neg h5, if_neg (by omega)]
   refine ⟨rfl, ?_, m, rfl⟩
   show (s.extract i s.size).extract 0 (span isMoreN (s.extract i s.size) 0) = s.extract i (span isMoreN s i)
   rw [extract_tail s i _ _ (by omega), Nat.add_zero, Nat.add_comm, m]
 rw [if_neg h4, if_neg h4]
 by_cases h5 : bt s i = 39
 ·rw [if_pos h5, if_pos h5]
  have b1 := bt_tail s i (span isSpelN (s.extract i s.size) (0 + 1)) (by omega)
  have p' : span isSpelN (s.extract i s.size) (0 + 1) + i = span isSpelN s (i + 1) := p
  rw [b1, Nat.add_comm i, p']
  by_cases h6 : s.size ≤ span isSpelN s (i + 1) ∨ bt s (span isSpelN s (i + 1)) ≠ 39 ∨ span isSpelN s (i + 1) = i + 1
  ·rw [if_pos h6, if_pos (by omega)]; exact ⟨rfl, rfl, by show 0 + i = i; omega, rfl⟩
  ·rw [if_neg h6, if_neg (by omega)]
   by_cases h7 : 32 < span isSpelN s (i + 1) - i - 1
   ·rw [if_pos h7, if_pos (by omega)]; exact ⟨rfl, rfl, by show 0 + i = i; omega, rfl⟩
   ·rw [if_neg h7, if_neg (by omega)]
    refine ⟨rfl, ?_, ?_, rfl⟩
    ·show (s.extract i s.size).extract (0 + 1) (span isSpelN (s.extract i s.size) (0 + 1)) = s.extract (i + 1) (span isSpelN s (i + 1))
     rw [extract_tail s i _ _ (by omega), Nat.zero_add, Nat.add_comm i (span _ _ _)]
     rw [Nat.zero_add] at p'
     rw [p']
    ·show span isSpelN (s.extract i s.size) (0 + 1) + 1 + i = span isSpelN s (i + 1) + 1
     omega
 ·rw [if_neg h5, if_neg h5]; exact ⟨rfl, rfl, by show 0 + i = i; omega, rfl⟩
theorem tok_where (s : ByteArray) (i : Nat) (h : (tokAt s i).2.2 = 0) : (tokAt s i).1.2.2 = i := by
 unfold tokAt at *
 dsimp only at *
 by_cases h1 : bt s i = 58
 ·rw [if_pos h1]
 rw [if_neg h1] at *
 by_cases h2 : bt s i = 124
 ·rw [if_pos h2]
 rw [if_neg h2] at *
 by_cases h3 : bt s i = 59
 ·rw [if_pos h3]
 rw [if_neg h3] at *
 by_cases h4 : isLetN (bt s i) = true
 ·rw [if_pos h4] at *
  split at h
  ·exact absurd h (by simp)
  ·rename_i h5; rw [if_neg h5]
 rw [if_neg h4] at *
 by_cases h5 : bt s i = 39
 ·rw [if_pos h5] at *
  split at h
  ·exact absurd h (by simp)
  ·rename_i h6
   split at h
   ·exact absurd h (by simp)
   ·rename_i h7; rw [if_neg h6, if_neg h7]
 ·rw [if_neg h5] at h; exact absurd h (by simp)
theorem tail_tk {s : ByteArray} {i : Int} (h0 : 0 ≤ i) (h : i < s.size) : tkK (s.extract i.toNat s.size) 0 = tkK s i ∧ tkT (s.extract i.toNat s.size) 0 = tkT s i ∧ i + tkN (s.extract i.toNat s.size) 0 = tkN s i ∧ tkE (s.extract i.toNat s.size) 0 = tkE s i := by
 obtain ⟨h1, h2, h3, h4⟩ := tok_tail s i.toNat (by omega)
 refine ⟨h1, h2, ?_, h4⟩
 unfold tkN
 rw [Int.toNat_zero]
 omega
theorem tkW_ok {s : ByteArray} {i : Int} (h0 : 0 ≤ i) (h : tkE s i = 0) : tkW s i = i := by
 have := tok_where s i.toNat h
 unfold tkW; rw [this]; omega
end Go.Proofs.Ytgimfjmigoibgaa.A
/- Lexing: tokens of literals, by fuel; cells of a list of tokens. -/
set_option linter.unusedSimpArgs false
set_option linter.unusedVariables false
set_option maxRecDepth 100000
set_option maxHeartbeats 4000000
namespace Go.Proofs.Ytgimfjmigoibgaa.A
open Go
theorem skip_skip9 (s : ByteArray) (i : Nat) : skip s (skip s i) = skip s i := by
 by_cases h : i < s.size
 ·by_cases hb : isBlankN (bt s i) = true
  ·have e : skip s i = skip s (i + 1) := by rw [skip, dif_pos h, if_pos hb]
   rw [e]; exact skip_skip9 s (i + 1)
  ·by_cases hc : bt s i = 35
   ·have h2 : i < span (fun c => !decide (c = 10)) s i := span_gt h (by simp [hc])
    have h3 : span (fun c => !decide (c = 10)) s i ≤ s.size := span_le _ s i (by omega)
    have e : skip s i = skip s (span (fun c => !decide (c = 10)) s i) := by rw [skip, dif_pos h, if_neg hb, dif_pos hc]
    rw [e]; exact skip_skip9 s _
   ·have e : skip s i = i := by rw [skip, dif_pos h, if_neg hb, dif_neg hc]
    rw [e, e]
 ·have e : skip s i = i := by rw [skip, dif_neg h]
  rw [e, e]
termination_by s.size - i
def spanF (p : Nat → Bool) (s : ByteArray) : Nat → Nat → Nat
 | 0, i => i
 | n + 1, i => if i < s.size ∧ p (bt s i) = true then spanF p s n (i + 1) else i
theorem spanF_eq (p : Nat → Bool) (s : ByteArray) : ∀ n i, s.size - i ≤ n → spanF p s n i = span p s i := by
 intro n
 induction n with
 | zero =>
  intro i h
  rw [span_stop (p := p) (i := i) (fun hh => by have := hh.1; omega)]
  rfl
 | succ n ih =>
  intro i h
  unfold spanF
  split
  ·rename_i hh; rw [span_step hh.1 hh.2, ih _ (by omega)]
  ·rename_i hh; rw [span_stop hh]
def skipF (s : ByteArray) : Nat → Nat → Nat
 | 0, i => i
 | n + 1, i => if i < s.size then if isBlankN (bt s i) = true then skipF s n (i + 1) else if bt s i = 35 then skipF s n (spanF (fun c => !decide (c = 10)) s s.size i) else i else i
theorem skipF_eq (s : ByteArray) : ∀ n i, s.size - i ≤ n → skipF s n i = skip s i := by
 intro n
 induction n with
 | zero => intro i h; rw [skip, dif_neg (by omega)]; rfl
 | succ n ih =>
  intro i h
  unfold skipF
  rw [skip]
  by_cases h1 : i < s.size
  ·rw [if_pos h1, dif_pos h1]
   by_cases hb : isBlankN (bt s i) = true
   ·rw [if_pos hb, if_pos hb, ih _ (by omega)]
   ·rw [if_neg hb, if_neg hb]
    by_cases hc : bt s i = 35
    ·rw [if_pos hc, dif_pos hc]
     have h2 : i < span (fun c => !decide (c = 10)) s i := span_gt h1 (by simp [hc])
     rw [spanF_eq _ _ _ _ (by omega), ih _ (by omega)]
    ·rw [if_neg hc, dif_neg hc]
  ·rw [if_neg h1, dif_neg h1]
def tokAtF (s : ByteArray) (i : Nat) : Tk × Nat × Int :=
 let c := bt s i
 if c = 58 then ((3, ⟨#[58]⟩, i), i + 1, 0)
 else if c = 124 then ((4, ⟨#[124]⟩, i), i + 1, 0)
 else if c = 59 then ((5, ⟨#[59]⟩, i), i + 1, 0)
 else if isLetN c = true then
  let e := spanF isMoreN s s.size i
  if 32 < e - i then (tk0, i, 19) else ((1, s.extract i e, i), e, 0)
 else if c = 39 then
  let e := spanF isSpelN s s.size (i + 1)
  if s.size ≤ e ∨ bt s e ≠ 39 ∨ e = i + 1 then (tk0, i, 13)
  else if 32 < e - i - 1 then (tk0, i, 19) else ((2, s.extract (i + 1) e, i), e + 1, 0)
 else (tk0, i, 13)
theorem tokAtF_eq (s : ByteArray) (i : Nat) : tokAtF s i = tokAt s i := by
 unfold tokAtF tokAt
 dsimp only
 rw [spanF_eq _ _ _ _ (by omega), spanF_eq _ _ _ _ (by omega)]
def lexF (s : ByteArray) : Nat → Nat → List Tk × Int × Int
 | 0, _ => ([], 0, 0)
 | n + 1, i =>
  if skipF s s.size i < s.size then
   if (tokAtF s (skipF s s.size i)).2.2 = 0 then
    let r := lexF s n (tokAtF s (skipF s s.size i)).2.1
    if r.2.2 = 0 then ((tokAtF s (skipF s s.size i)).1 :: r.1, 0, 0) else r
   else ([], (skipF s s.size i : Int), (tokAtF s (skipF s s.size i)).2.2)
  else ([], 0, 0)
theorem lexF_eq (s : ByteArray) : ∀ n i, s.size - i ≤ n → lexF s n i = lexGo s i := by
 intro n
 induction n with
 | zero => intro i h; rw [lexGo, dif_neg (by have := skip_ge s i; omega)]; rfl
 | succ n ih =>
  intro i h
  unfold lexF
  rw [lexGo]
  simp only [skipF_eq s s.size i (by omega), tokAtF_eq]
  by_cases h1 : skip s i < s.size
  ·rw [if_pos h1, dif_pos h1]
   by_cases h2 : (tokAt s (skip s i)).2.2 = 0
   ·rw [if_pos h2, dif_pos h2]
    have h3 := tokAt_end h1 h2
    have h4 := skip_ge s i
    rw [ih _ (by omega)]
   ·rw [if_neg h2, dif_neg h2]
  ·rw [if_neg h1, dif_neg h1]
theorem lx_lit {s : ByteArray} {l : List Tk} {a e : Int} (h : lexF s s.size 0 = (l, a, e)) : lexGo s 0 = (l, a, e) := by
 rw [← lexF_eq s s.size 0 (by omega)]; exact h
theorem lx_of {s : ByteArray} {l : List Tk} {a e : Int} (h : lexGo s 0 = (l, a, e)) : lxN s = l.length ∧ lxC s = tkCells l ∧ lxA s = a ∧ lxE s = e := by
 unfold lxN lxC lxA lxE; rw [h]; exact ⟨rfl, rfl, rfl, rfl⟩
theorem tkCells_length (l : List Tk) : (tkCells l).length = l.length * 3 := by
 induction l with
 | nil => rfl
 | cons t l ih => rw [tkCells, List.flatMap_cons, List.length_append, ← tkCells, ih, List.length_cons]; simp; omega
theorem tkCells_cons (t : Tk) (l : List Tk) : tkCells (t :: l) = vI t.1 :: vS t.2.1 :: vI t.2.2 :: tkCells l := rfl
theorem tkCells_at (l : List Tk) : ∀ (i : Nat) (h : i < l.length), cellAt (tkCells l) (i * 3) = vI l[i].1 ∧ cellAt (tkCells l) (i * 3 + 1) = vS l[i].2.1 ∧ cellAt (tkCells l) (i * 3 + 2) = vI l[i].2.2 := by
 induction l with
 | nil => intro i h; simp at h
 | cons t l ih =>
  intro i h
  cases i with
  | zero => exact ⟨rfl, rfl, rfl⟩
  | succ i =>
   have := ih i (by simpa using h)
   rw [tkCells_cons, show (i + 1) * 3 = i * 3 + 3 by omega]
   exact this
theorem lexGo_len (s : ByteArray) : ∀ n i, s.size - i = n → (lexGo s i).1.length ≤ n := by
 intro n
 induction n using Nat.strongRecOn with
 | _ n ih =>
  intro i hn
  rw [lexGo]
  by_cases h1 : skip s i < s.size
  ·rw [dif_pos h1]
   by_cases h2 : (tokAt s (skip s i)).2.2 = 0
   ·rw [dif_pos h2]
    have h3 := tokAt_end h1 h2
    have h4 := skip_ge s i
    have h5 := ih (s.size - (tokAt s (skip s i)).2.1) (by omega) _ rfl
    dsimp only
    split
    ·simp only [List.length_cons]; omega
    ·omega
   ·rw [dif_neg h2]; exact Nat.zero_le _
  ·rw [dif_neg h1]; exact Nat.zero_le _
theorem lxN_le (s : ByteArray) : lxN s ≤ s.size := lexGo_len s s.size 0 (by omega)
theorem lxC_len (s : ByteArray) : (lxC s).length = lxN s * 3 := tkCells_length _
theorem awk1 : lexGo ⟨⟨[83, 32, 58, 32, 39, 97, 39, 32, 83, 32, 124, 32, 59]⟩⟩ 0 = ([(1, ⟨⟨[83]⟩⟩, 0), (3, ⟨⟨[58]⟩⟩, 2), (2, ⟨⟨[97]⟩⟩, 4), (1, ⟨⟨[83]⟩⟩, 8), (4, ⟨⟨[124]⟩⟩, 10), (5, ⟨⟨[59]⟩⟩, 12)], 0, 0) := lx_lit (by decide +kernel)
end Go.Proofs.Ytgimfjmigoibgaa.A
/- Lexing: All of lex. -/
set_option linter.unusedSimpArgs false
set_option linter.unusedVariables false
set_option maxRecDepth 100000
set_option maxHeartbeats 4000000
namespace Go.Proofs.Ytgimfjmigoibgaa.A
open Go
abbrev tokTyL : TypeId := 73
def book5 (x_skipI : ByteArray → Int → Int) (x_tkK : ByteArray → Int → Int) (x_tkT : ByteArray → Int → ByteArray) (x_tkW : ByteArray → Int → Int) (x_tkN : ByteArray → Int → Int) (x_tkE : ByteArray → Int → Int) : Book := fun f xs => match f, xs with
 | 52, [.v false [.val (.string s)]] => some (rTok (x_tkK s 0) (x_tkT s 0) (x_tkW s 0) (x_tkN s 0) (x_tkE s 0))
 | 51, [.v false [.val (.string s)]] => some (ret1 (.st (vI (x_skipI s 0))))
 | _, _ => none
theorem skipI_ge (s : ByteArray) {i : Int} (h0 : 0 ≤ i) : i ≤ skipI s i := by unfold skipI; have := skip_ge s i.toNat; omega
theorem skip_le (s : ByteArray) (i : Nat) (h : i ≤ s.size) : skip s i ≤ s.size := by
 rw [skip]; split
 ·rename_i h1
  split
  ·exact skip_le s (i + 1) (by omega)
  ·split
   ·rename_i hc
    have h2 : i < span (fun c => !decide (c = 10)) s i := span_gt h1 (by simp [hc])
    have h3 : span (fun c => !decide (c = 10)) s i ≤ s.size := span_le _ s i (by omega)
    exact skip_le s (span (fun c => !decide (c = 10)) s i) h3
   ·exact h
 ·exact h
termination_by s.size - i
theorem skipI_le (s : ByteArray) {i : Int} (h0 : 0 ≤ i) (h : i ≤ s.size) : skipI s i ≤ s.size := by unfold skipI; have := skip_le s i.toNat (by omega); omega
theorem skipI_skipI (s : ByteArray) {i : Int} (h0 : 0 ≤ i) : skipI s (skipI s i) = skipI s i := by unfold skipI; rw [Int.toNat_natCast, skip_skip9]
theorem add_skip {s : ByteArray} {i : Int} (hs : s.size < 4611686018427387904) (h0 : 0 ≤ i) (h : i ≤ s.size) : arithI .add .i64 i (skipI (s.extract i.toNat s.size) 0) = skipI s i := by
 have h1 := skipI_le s h0 h
 have h2 := skipI_ge s h0
 have h3 := skipI_tail s h0 h
 rw [add64 (by omega) (by omega), h3]
set_option maxHeartbeats 4000000 in
theorem pc_All (s : ByteArray) (hs : s.size ≤ 65536) : PC Try.prog T 29 [.v false [vS s]] (rAll tokTyL s) [] := by
 refine pc_of tok Try.func29 rfl (by rfl) ?_
 obtain ⟨j, hj⟩ : ∃ j : J, j = std Try.prog T := ⟨_, rfl⟩
 generalize y_skipI : @skipI = x_skipI at *
 generalize y_tkK : @tkK = x_tkK at *
 generalize y_tkT : @tkT = x_tkT at *
 generalize y_tkW : @tkW = x_tkW at *
 generalize y_tkN : @tkN = x_tkN at *
 generalize y_tkE : @tkE = x_tkE at *
 (repeat' first | (refine aw_ret ⟨.inr rfl, ret_oknil hj tokTyL (by cbv) ?_ ?_⟩) | ((first | with_reducible refine tr_cut (fun h => ?_) (fun h => ?_) | refine aw_condj (by cbv) (fun h => ?_) (fun h => ?_)) <;> (try simp (disch := omega) only [hj, std, cmpI, cmpB, satB, Bool.not_eq_true, Bool.not_eq_false, decide_eq_true_eq, decide_eq_false_iff_not, beq_iff_eq, bne_iff_ne, bne_eq_false_iff_eq, beq_eq_false_iff_ne, ne_eq, reduceCtorEq, not_true_eq_false, not_false_eq_true, add64, sub64] at h) <;> (try (exfalso; omega))) | (with_reducible refine tr_alt (fun h => ?_) ?_ <;> (try (exfalso; omega))) | (with_reducible first | refine tr_ob ?_ ?_ | refine tr_done ?_) | (refine aw_tr hj tok (book5 x_skipI x_tkK x_tkT x_tkW x_tkN x_tkE) (by cbv) ?_) | (refine aw_seq fun K hK => ?_) | (refine aw_tr1 hj tok (book5 x_skipI x_tkK x_tkT x_tkW x_tkN x_tkE) (by cbv) ?_) | (refine aw_skip ?_) | (refine aw_block ?_) | (refine aw_exit ?_) | (refine aw_ret ⟨.inr rfl, ret_okj hj (by cbv) ?_ ?_⟩) | (refine aw_ret ?_) | (with_reducible first | refine th_n ?_ | refine th_r ?_ | refine th_x ?_ | refine blk_n ?_ | refine blk_r ?_ | refine blk_x ?_ | refine blk_y rfl ?_) | (refine ⟨.inr rfl, ret_okj hj (by cbv) ?_ ?_⟩) | (refine ⟨.inl rfl, ret_okj hj (by cbv) ?_ ?_⟩) | (with_reducible first | refine ⟨(_, _, _, _, _, _, _, _, _), by cbv, ?_, ?_⟩ | refine ⟨(_, _, _, _, _, _, _, _), by cbv, ?_, ?_⟩ | refine ⟨(_, _, _, _, _, _, _), by cbv, ?_, ?_⟩ | refine ⟨(_, _, _, _, _, _), by cbv, ?_, ?_⟩ | refine ⟨(_, _, _, _, _), by cbv, ?_, ?_⟩ | refine ⟨(_, _, _, _), by cbv, ?_, ?_⟩ | refine ⟨(_, _, _), by cbv, ?_, ?_⟩ | refine ⟨(_, _), by cbv, ?_, ?_⟩ | refine ⟨_, by cbv, ?_, ?_⟩) | (with_reducible apply_assumption -symm -exfalso only [*]))
 all_goals ((try subst y_skipI); (try subst y_tkK); (try subst y_tkT); (try subst y_tkW); (try subst y_tkN); (try subst y_tkE))
 all_goals (try (repeat' first | with_reducible exact obl0 | (with_reducible refine obl1 ?_ ?_)))
 all_goals (try first | with_reducible exact True.intro | ((first | refine ob_pc hj ?_ | refine ob_pcn hj ?_); (try rw [hj]); first | exact c_blank (by omega)) | ((first | refine ob_le hj ?_ | refine ob_lei hj ?_ | refine ob_inb hj ?_ | refine ob_pos hj ?_ | refine ob_ne0 hj ?_ | refine ob_eqb hj ?_); (first | rfl | first | omega | (simp only [hj, std]; split <;> omega) | (simp (disch := omega) only [hj, std, cmpI, cmpB, satB, add64, sub64, ite0, pl0, pl2, pl3, sb0, if_true, if_false, eq_self] <;> omega) | (simp (disch := omega) [hj, std, cmpI, cmpB, satB, add64, sub64, ite0, pl0, pl2, pl3, sb0, if_true, if_false, eq_self] <;> omega))))
 refine aw_lpj hj [(0, .keep), (5, .own tokTyL), (6, .keep)] [] (fun a : Nat × List C × Int => stOf 47 [(0, .one (.c (vS s))), (5, .one (.view 5 0)), (6, .one (.c (vI a.2.2)))] [(5, .loose [.own tokTyL a.1 a.2.1])])
  (fun a => s.size - a.2.2.toNat) (fun a => LxI s a.1 a.2.1 a.2.2 ∧ skipI s a.2.2 = a.2.2) (0, [], skipI s 0) (by generalize @skipI = x_skipI; generalize @tkK = x_tkK; generalize @tkT = x_tkT; generalize @tkW = x_tkW; generalize @tkN = x_tkN; generalize @tkE = x_tkE; cbv) ⟨(LxI.start s).hop (skipI_ge s (by omega)) (skipI_le s (by omega) (by omega)) (skipI_skipI s (by omega)), skipI_skipI s (by omega)⟩ fun ⟨n, cs, i⟩ ⟨hI, hsk⟩ => ?_
 change LxI s n cs i at hI
 change skipI s i = i at hsk
 obtain ⟨l, hn, hcs, i0, i2, i4, hgo⟩ := id hI
 generalize y_skipI : @skipI = x_skipI at *
 generalize y_tkK : @tkK = x_tkK at *
 generalize y_tkT : @tkT = x_tkT at *
 generalize y_tkW : @tkW = x_tkW at *
 generalize y_tkN : @tkN = x_tkN at *
 generalize y_tkE : @tkE = x_tkE at *
 (repeat' first | (refine aw_ret ⟨.inr rfl, ret_oknil hj tokTyL (by cbv) ?_ ?_⟩) | ((first | with_reducible refine tr_cut (fun h => ?_) (fun h => ?_) | refine aw_condj (by cbv) (fun h => ?_) (fun h => ?_)) <;> (try simp (disch := omega) only [hj, std, cmpI, cmpB, satB, Bool.not_eq_true, Bool.not_eq_false, decide_eq_true_eq, decide_eq_false_iff_not, beq_iff_eq, bne_iff_ne, bne_eq_false_iff_eq, beq_eq_false_iff_ne, ne_eq, reduceCtorEq, not_true_eq_false, not_false_eq_true, add64, sub64] at h) <;> (try (exfalso; omega))) | (with_reducible refine tr_alt (fun h => ?_) ?_ <;> (try (exfalso; omega))) | (with_reducible first | refine tr_ob ?_ ?_ | refine tr_done ?_) | (refine aw_tr hj tok (book5 x_skipI x_tkK x_tkT x_tkW x_tkN x_tkE) (by cbv) ?_) | (refine aw_seq fun K hK => ?_) | (refine aw_tr1 hj tok (book5 x_skipI x_tkK x_tkT x_tkW x_tkN x_tkE) (by cbv) ?_) | (refine aw_skip ?_) | (refine aw_block ?_) | (refine aw_exit ?_) | (refine aw_ret ⟨.inr rfl, ret_okj hj (by cbv) ?_ ?_⟩) | (refine aw_ret ?_) | (with_reducible first | refine th_n ?_ | refine th_r ?_ | refine th_x ?_ | refine blk_n ?_ | refine blk_r ?_ | refine blk_x ?_ | refine blk_y rfl ?_) | (refine ⟨.inr rfl, ret_okj hj (by cbv) ?_ ?_⟩) | (refine ⟨.inl rfl, ret_okj hj (by cbv) ?_ ?_⟩) | (with_reducible first | refine ⟨(_, _, _, _, _, _, _, _, _), by cbv, ?_, ?_⟩ | refine ⟨(_, _, _, _, _, _, _, _), by cbv, ?_, ?_⟩ | refine ⟨(_, _, _, _, _, _, _), by cbv, ?_, ?_⟩ | refine ⟨(_, _, _, _, _, _), by cbv, ?_, ?_⟩ | refine ⟨(_, _, _, _, _), by cbv, ?_, ?_⟩ | refine ⟨(_, _, _, _), by cbv, ?_, ?_⟩ | refine ⟨(_, _, _), by cbv, ?_, ?_⟩ | refine ⟨(_, _), by cbv, ?_, ?_⟩ | refine ⟨_, by cbv, ?_, ?_⟩) | (with_reducible apply_assumption -symm -exfalso only [*]))
 all_goals ((try subst y_skipI); (try subst y_tkK); (try subst y_tkT); (try subst y_tkW); (try subst y_tkN); (try subst y_tkE))
 all_goals (try (have hlt := ‹i < (s.size : Int)›; obtain ⟨t1, t2, t3, t4⟩ := tail_tk i0 hlt))
 all_goals (try (have he0 := ‹tkE (s.extract i.toNat s.size) 0 = 0›; rw [t4] at he0; have f := hI.tok hlt hsk he0; rw [tkW_ok i0 he0, ← t1, ← t2] at f; have e1 : arithI .add .i64 i (tkN (s.extract i.toNat s.size) 0) = tkN s i := (by rw [add64 (by omega) (by omega), t3])))
 all_goals (try (have e2 : (if n = 0 then 1 else n + 1) = n + 1 := (by split <;> omega); have b1 := skipI_ge s (i := tkN s i) (by omega); have b2 := skipI_le s (i := tkN s i) (by omega) (by omega); have b3 := skipI_skipI s (i := tkN s i) (by omega); have e3 := add_skip (show s.size < 4611686018427387904 by omega) (show 0 ≤ tkN s i by omega) f.2.2))
 all_goals (try (repeat' first | with_reducible exact obl0 | with_reducible refine obl1 ?_ ?_))
 all_goals (try first | with_reducible exact True.intro | ((first | refine ob_pc hj ?_ | refine ob_pcn hj ?_); (try rw [hj]); first | exact c_first (s := s.extract i.toNat s.size) (tail_lt (by omega)) (by rw [size_tail]; omega) | exact c_blank (tail_lt (by omega))) | ((first | refine ob_le hj ?_ | refine ob_lei hj ?_ | refine ob_inb hj ?_ | refine ob_pos hj ?_ | refine ob_ne0 hj ?_ | refine ob_eqb hj ?_); (first | rfl | first | omega | (simp only [hj, std]; split <;> omega) | (simp (disch := omega) only [hj, std, cmpI, cmpB, satB, add64, sub64, ite0, pl0, pl2, pl3, sb0, if_true, if_false, eq_self] <;> omega) | (simp (disch := omega) [hj, std, cmpI, cmpB, satB, add64, sub64, ite0, pl0, pl2, pl3, sb0, if_true, if_false, eq_self] <;> omega))) | ((have hq := ‹¬ i < (s.size : Int)›; exact rAll_of (hI.done hq))) | ((have hq := ‹¬ tkE (s.extract i.toNat s.size) 0 = 0›; have g := hI.bad hlt hsk (by rw [← t4]; exact hq); rw [← t4] at g; rw [hj]; exact rAll_of g)) | ((simp only [hj, std, e1, e3, e2]; first | exact ⟨f.1.hop b1 b2 b3, b3⟩ | omega)) | ((refine ob_lei hj ?_; simp only [hj, std, e1]; omega)))
end Go.Proofs.Ytgimfjmigoibgaa.A
/- Rules as they are written: all of a text. -/
set_option linter.unusedSimpArgs false
set_option linter.unusedVariables false
set_option maxRecDepth 100000
set_option maxHeartbeats 4000000
namespace Go.Proofs.Ytgimfjmigoibgaa.A
open Go
abbrev RS := List Ln × Nat × Bool
def rstep (st : RS) (t : Tk) : Bool × RS :=
 match st.2.1 with
 | 0 => (decide (t.1 = 1), (st.1 ++ [(t.2.1, [])], 1, true))
 | 1 => (decide (t.1 = 3), (addAlt st.1, 2, st.2.2))
 | _ => (itmB t.1, (if t.1 = 1 ∨ t.1 = 2 then addIt st.1 (decide (t.1 = 2)) t.2.1 else if t.1 = 4 then addAlt st.1 else st.1, if t.1 = 5 then 0 else 2, itmO t.1 st.2.2))
def rGo (z : Int) : List Tk → RS → List Ln × Int × Int
 | [], st => if st.2.2 = true ∨ st.1 = [] then ([], z, 14) else (st.1, 0, 0)
 | t :: ts, st => if (rstep st t).1 = true then rGo z ts (rstep st t).2 else ([], t.2.2, 14)
def pAll (s : ByteArray) : List Ln × Int × Int := if lxE s ≠ 0 then ([], lxA s, lxE s) else rGo s.size (lexGo s 0).1 ([], 0, false)
def pN (s : ByteArray) : Nat := (pAll s).1.length
def pC (s : ByteArray) : List C := lnC (pAll s).1
def pA (s : ByteArray) : Int := (pAll s).2.1
def pE (s : ByteArray) : Int := (pAll s).2.2
def fnW (w : Nat) : Option FuncId := match w with | 0 => some 30 | 1 => some 53 | _ => some 80
def rOk (st : RS) : Prop := (st.2.1 = 0 ∨ (st.2.1 = 1 ∧ st.1 ≠ []) ∨ (st.2.1 = 2 ∧ st.1 ≠ [] ∧ (lastL st.1).2 ≠ []))
def rSz (L : List Ln) (n : Nat) : Prop := L.length ≤ n ∧ ∀ x ∈ L, x.2.length ≤ n ∧ ∀ a ∈ x.2, a.length ≤ n
def rAllP (s : ByteArray) : RV := rets [(false, [.st (.sl (pN s) (pC s))]), (false, [.st (vI (pA s))]), (false, [.st (vI (pE s))])]
def nmC (cs : List C) (s : ByteArray) : List C := cs ++ [vS s, .nil]
def up1 (n : Nat) : Nat := n + 1
def isK (k c : Int) : Bool := decide (k = c)
def bookP4 (x_lxN : ByteArray → Nat) (x_lxC : ByteArray → List C) (x_lxA : ByteArray → Int) (x_lxE : ByteArray → Int) (x_itmC : List C → Int → ByteArray → List C) (x_altC : List C → List C) (x_itmF : Int → Option FuncId) (x_itmO : Int → Bool → Bool) (x_itmB : Int → Bool) (x_nmC : List C → ByteArray → List C) (x_up1 : Nat → Nat) (x_isK : Int → Int → Bool) : Book := fun f xs => match f, xs with
 | 29, [.v false [.val (.string s)]] => some (rets [(false, [.own tokTyL (x_lxN s) (x_lxC s)]), (false, [.st (vI (x_lxA s))]), (false, [.st (vI (x_lxE s))])])
 | 30, [.root (.box [.tree _ (.sl n cs) _, .me _, .st (.val (.bool _))]), .v true [.val (.int .i64 k), .val (.string s), _]] => some (ret1 (.st (vB (x_isK k 1))), [.box [.tree shL (.sl (x_up1 n) (x_nmC cs s)) none, .me (some 53), .st (vB true)], .none])
 | 53, [.root (.box [.tree _ (.sl n cs) _, .me _, .st (.val (.bool o))]), .v true [.val (.int .i64 k), .val (.string _), _]] => some (ret1 (.st (vB (x_isK k 3))), [.box [.tree shL (.sl n (x_altC cs)) none, .me (some 80), .st (vB o)], .none])
 | 80, [.root (.box [.tree _ (.sl n cs) _, .me _, .st (.val (.bool o))]), .v true [.val (.int .i64 k), .val (.string s), _]] => some (ret1 (.st (vB (x_itmB k))), [.box [.tree shL (.sl n (x_itmC cs k s)) none, .me (x_itmF k), .st (vB (x_itmO k o))], .none])
 | _, _ => none
theorem c_lexA {s : ByteArray} (hs : s.size ≤ 65536) : pc 29 [.v false [vS s]] (rets [(false, [.own tokTyL (lxN s) (lxC s)]), (false, [.st (vI (lxA s))]), (false, [.st (vI (lxE s))])]) :=
 ⟨enters Try.func29 (by kernel_rfl) (by kernel_rfl), pc_All s hs⟩
theorem lxC_vls (s : ByteArray) : ∀ c ∈ lxC s, ∃ v, c = .val v := by
 unfold lxC tkCells
 intro c hc
 obtain ⟨t, _, h⟩ := List.mem_flatMap.1 hc
 simp only [List.mem_cons, List.not_mem_nil, or_false] at h
 rcases h with rfl | rfl | rfl <;> exact ⟨_, rfl⟩
theorem rP_of {s : ByteArray} {L : List Ln} {a e : Int} (h : pAll s = (L, a, e)) : rAllP s = ⟨true, [(false, [.st (.sl L.length (lnC L))]), (false, [.st (vI a)]), (false, [.st (vI e)])]⟩ := by
 unfold rAllP pN pC pA pE; rw [h]; rfl
theorem snoc_ex {α : Type} {L : List α} (h : L ≠ []) : ∃ L0 x, L = L0 ++ [x] := ⟨_, _, (List.dropLast_concat_getLast h).symm⟩
def rInv (s : ByteArray) (i : Int) (m : Nat) (cs : List C) (f : Option FuncId) (o : Bool) : Prop :=
 ∃ L w, m = L.length ∧ cs = lnC L ∧ f = fnW w ∧ rOk (L, w, o) ∧ rSz L i.toNat ∧ pAll s = rGo s.size ((lexGo s 0).1.drop i.toNat) (L, w, o)
theorem rSz_mono {L : List Ln} {n m : Nat} (h : rSz L n) (hn : n ≤ m) : rSz L m := ⟨Nat.le_trans h.1 hn, fun x hx => ⟨Nat.le_trans (h.2 x hx).1 hn, fun a ha => Nat.le_trans ((h.2 x hx).2 a ha) hn⟩⟩
theorem rSz_name {L : List Ln} {n : Nat} (h : rSz L n) (t : ByteArray) : rSz (L ++ [(t, [])]) (n + 1) := by
 refine ⟨by have := h.1; simp; omega, fun x hx => ?_⟩
 rcases List.mem_append.1 hx with hx | hx
 ·exact (rSz_mono h (Nat.le_succ n)).2 x hx
 ·rw [List.mem_singleton.1 hx]; exact ⟨by simp, fun a ha => by cases ha⟩
theorem rSz_alt {L : List Ln} {n : Nat} {nm : ByteArray} {A : List (List It)} (h : rSz (L ++ [(nm, A)]) n) : rSz (L ++ [(nm, A ++ [[]])]) (n + 1) := by
 refine ⟨by have := h.1; simp at this ⊢; omega, fun x hx => ?_⟩
 have hl := h.2 (nm, A) (by simp)
 rcases List.mem_append.1 hx with hx | hx
 ·exact (rSz_mono h (Nat.le_succ n)).2 x (List.mem_append_left _ hx)
 ·rw [List.mem_singleton.1 hx]
  refine ⟨by have := hl.1; simp at this ⊢; omega, fun a ha => ?_⟩
  rcases List.mem_append.1 ha with ha | ha
  ·exact Nat.le_trans (hl.2 a ha) (Nat.le_succ n)
  ·rw [List.mem_singleton.1 ha]; simp
theorem rSz_it {L : List Ln} {n : Nat} {nm : ByteArray} {A : List (List It)} {al : List It} (h : rSz (L ++ [(nm, A ++ [al])]) n) (b : Bool) (t : ByteArray) : rSz (L ++ [(nm, A ++ [al ++ [(b, t)]])]) (n + 1) := by
 refine ⟨by have := h.1; simp at this ⊢; omega, fun x hx => ?_⟩
 have hl := h.2 (nm, A ++ [al]) (by simp)
 rcases List.mem_append.1 hx with hx | hx
 ·exact (rSz_mono h (Nat.le_succ n)).2 x (List.mem_append_left _ hx)
 ·rw [List.mem_singleton.1 hx]
  refine ⟨by have := hl.1; simp at this ⊢; omega, fun a ha => ?_⟩
  rcases List.mem_append.1 ha with ha | ha
  ·exact Nat.le_trans (hl.2 a (List.mem_append_left _ ha)) (Nat.le_succ n)
  ·rw [List.mem_singleton.1 ha]; have := hl.2 al (by simp); simp; omega
theorem lastL_snoc (L : List Ln) (x : Ln) : lastL (L ++ [x]) = x := by simp [lastL]
theorem rstep_ok {L : List Ln} {w : Nat} {o : Bool} {t : Tk} {n : Nat} (h : rOk (L, w, o)) (hs : rSz L n) : rOk (rstep (L, w, o) t).2 ∧ rSz (rstep (L, w, o) t).2.1 (n + 1) := by
 rcases h with h | ⟨h, h1⟩ | ⟨h, h1, h2⟩
 ·change w = 0 at h; subst h
  exact ⟨.inr (.inl ⟨rfl, by simp [rstep]⟩), rSz_name hs _⟩
 ·change w = 1 at h; subst h
  obtain ⟨L0, ⟨nm, A⟩, rfl⟩ := snoc_ex h1
  have e : (rstep (L0 ++ [(nm, A)], 1, o) t).2 = (L0 ++ [(nm, A ++ [[]])], 2, o) := by show (addAlt _, _, _) = _; rw [addAlt_snoc]
  rw [e]
  exact ⟨.inr (.inr ⟨rfl, by simp, by rw [lastL_snoc]; simp⟩), rSz_alt hs⟩
 ·change w = 2 at h; subst h
  obtain ⟨L0, ⟨nm, A⟩, rfl⟩ := snoc_ex h1
  rw [lastL_snoc] at h2
  obtain ⟨A0, al, rfl⟩ := snoc_ex h2
  have e : (rstep (L0 ++ [(nm, A0 ++ [al])], 2, o) t).2 = (if t.1 = 1 ∨ t.1 = 2 then addIt (L0 ++ [(nm, A0 ++ [al])]) (decide (t.1 = 2)) t.2.1 else if t.1 = 4 then addAlt (L0 ++ [(nm, A0 ++ [al])]) else L0 ++ [(nm, A0 ++ [al])], if t.1 = 5 then 0 else 2, itmO t.1 o) := rfl
  rw [e, addAlt_snoc, addIt_snoc]
  by_cases k1 : t.1 = 1 ∨ t.1 = 2
  ·rw [if_pos k1, if_neg (by omega)]
   exact ⟨.inr (.inr ⟨rfl, by simp, by rw [lastL_snoc]; simp⟩), rSz_it hs _ _⟩
  ·rw [if_neg k1]
   by_cases k4 : t.1 = 4
   ·rw [if_pos k4, if_neg (by omega)]
    exact ⟨.inr (.inr ⟨rfl, by simp, by rw [lastL_snoc]; simp⟩), rSz_alt hs⟩
   ·rw [if_neg k4]
    refine ⟨?_, rSz_mono hs (Nat.le_succ n)⟩
    split
    ·exact .inl rfl
    ·exact .inr (.inr ⟨rfl, by simp, by rw [lastL_snoc]; simp⟩)
theorem tk_drop {s : ByteArray} {i : Int} (h0 : 0 ≤ i) (h : i < (lxN s : Int)) : ∃ t : Tk, (lexGo s 0).1.drop i.toNat = t :: (lexGo s 0).1.drop (i + 1).toNat ∧ cellAt (lxC s) (i.toNat * 3) = vI t.1 ∧ cellAt (lxC s) (i.toNat * 3 + 1) = vS t.2.1 ∧ cellAt (lxC s) (i.toNat * 3 + 2) = vI t.2.2 := by
 have hl : i.toNat < (lexGo s 0).1.length := by unfold lxN at h; omega
 refine ⟨(lexGo s 0).1[i.toNat], ?_, tkCells_at (lexGo s 0).1 i.toNat hl⟩
 rw [show (i + 1).toNat = i.toNat + 1 by omega]
 exact List.drop_eq_getElem_cons hl
theorem r_next {s : ByteArray} {i : Int} {L : List Ln} {w : Nat} {o : Bool} {t : Tk} (h0 : 0 ≤ i) (ht : (lexGo s 0).1.drop i.toNat = t :: (lexGo s 0).1.drop (i + 1).toNat) (hok : rOk (L, w, o)) (hsz : rSz L i.toNat) (hgo : pAll s = rGo s.size ((lexGo s 0).1.drop i.toNat) (L, w, o)) (hb : (rstep (L, w, o) t).1 = true)
  {m : Nat} {cs : List C} {f : Option FuncId} {o' : Bool} (hm : m = (rstep (L, w, o) t).2.1.length) (hcs : cs = lnC (rstep (L, w, o) t).2.1) (hf : f = fnW (rstep (L, w, o) t).2.2.1) (ho : o' = (rstep (L, w, o) t).2.2.2) : rInv s (i + 1) m cs f o' := by
 obtain ⟨k1, k2⟩ := rstep_ok (t := t) hok hsz
 subst ho
 refine ⟨_, _, hm, hcs, hf, k1, rSz_mono k2 (by omega), ?_⟩
 rw [hgo, ht, rGo, if_pos hb]
theorem r_bad {s : ByteArray} {i : Int} {L : List Ln} {w : Nat} {o : Bool} {t : Tk} (ht : (lexGo s 0).1.drop i.toNat = t :: (lexGo s 0).1.drop (i + 1).toNat) (hgo : pAll s = rGo s.size ((lexGo s 0).1.drop i.toNat) (L, w, o)) (hb : (rstep (L, w, o) t).1 = false) : pAll s = ([], t.2.2, 14) := by
 rw [hgo, ht, rGo, if_neg (by rw [hb]; decide)]
theorem r_fin {s : ByteArray} {i : Int} {L : List Ln} {w : Nat} {o : Bool} (h : ¬ i < (lxN s : Int)) (hgo : pAll s = rGo s.size ((lexGo s 0).1.drop i.toNat) (L, w, o)) : (o = true → pAll s = ([], (s.size : Int), 14)) ∧ ((L.length : Int) = 0 → pAll s = ([], (s.size : Int), 14)) ∧ (o = false → ¬ (L.length : Int) = 0 → pAll s = (L, 0, 0)) := by
 rw [List.drop_eq_nil_of_le (by unfold lxN at h; omega)] at hgo
 rw [hgo]
 unfold rGo
 refine ⟨fun h => if_pos (.inl h), fun h => if_pos (.inr (List.eq_nil_of_length_eq_zero (show L.length = 0 by omega))), fun h1 h2 => if_neg ?_⟩
 rintro (h3 | h3)
 ·rw [show o = true from h3] at h1; cases h1
 ·rw [show L = [] from h3] at h2; exact h2 rfl
theorem lastL_mem {L : List Ln} (h : L ≠ []) : lastL L ∈ L := by obtain ⟨L0, x, rfl⟩ := snoc_ex h; rw [lastL_snoc]; simp
theorem addAlt_len {L : List Ln} (h : L ≠ []) : (addAlt L).length = L.length := by obtain ⟨L0, ⟨nm, A⟩, rfl⟩ := snoc_ex h; rw [addAlt_snoc]; simp
theorem addIt_len {L : List Ln} (h : L ≠ []) (b : Bool) (t : ByteArray) : (addIt L b t).length = L.length := by obtain ⟨L0, x, rfl⟩ := snoc_ex h; simp [addIt]
theorem itm_len {L : List Ln} (h : L ≠ []) (o : Bool) (t : Tk) : L.length = (rstep (L, 2, o) t).2.1.length := by
 show _ = (if t.1 = 1 ∨ t.1 = 2 then addIt L (decide (t.1 = 2)) t.2.1 else if t.1 = 4 then addAlt L else L).length
 split
 ·exact (addIt_len h _ _).symm
 ·split
  ·exact (addAlt_len h).symm
  ·rfl
theorem itm_cells (L : List Ln) (o : Bool) (t : Tk) : itmC (lnC L) t.1 t.2.1 = lnC (rstep (L, 2, o) t).2.1 := by
 show _ = lnC (if t.1 = 1 ∨ t.1 = 2 then addIt L (decide (t.1 = 2)) t.2.1 else if t.1 = 4 then addAlt L else L)
 unfold itmC
 rw [lnsOf_lnC]
 split
 ·rfl
 ·split <;> rfl
theorem itm_want (L : List Ln) (o : Bool) (t : Tk) : itmF t.1 = fnW (rstep (L, 2, o) t).2.2.1 := by
 show itmF t.1 = fnW (if t.1 = 5 then 0 else 2)
 unfold itmF
 split <;> rfl
theorem c_name {n : Nat} {cs : List C} {f : Option FuncId} {o : Bool} {k a : Int} {s : ByteArray} (hn : n ≤ 1000000) :
  (std Try.prog T).pc 30 [.root (.box [.tree shL (.sl n cs) none, .me f, .st (vB o)]), .v true [vI k, vS s, vI a]] (ret1 (.st (vB (isK k 1)))) [.box [.tree shL (.sl (up1 n) (nmC cs s)) none, .me (some 53), .st (vB true)], .none] :=
 ⟨enters Try.func30 (by kernel_rfl) (by kernel_rfl), pc_name n cs f o k a s hn⟩
theorem c_colon {L : List Ln} {f : Option FuncId} {o : Bool} {k a : Int} {s : ByteArray} (h0 : L ≠ []) (h1 : L.length ≤ 1000000) (h2 : (lastL L).2.length ≤ 1000000) :
  (std Try.prog T).pc 53 [.root (.box [.tree shL (.sl L.length (lnC L)) none, .me f, .st (vB o)]), .v true [vI k, vS s, vI a]] (ret1 (.st (vB (isK k 3)))) [.box [.tree shL (.sl L.length (altC (lnC L))) none, .me (some 80), .st (vB o)], .none] := by
 obtain ⟨L0, ⟨nm, A⟩, rfl⟩ := snoc_ex h0
 rw [lastL_snoc] at h2
 exact ⟨enters Try.func53 (by kernel_rfl) (by kernel_rfl), pc_colon L0 nm A f o k a s h1 h2⟩
theorem c_item {L : List Ln} {o : Bool} {k a : Int} {s : ByteArray} (h0 : L ≠ []) (hA : (lastL L).2 ≠ []) (h1 : L.length ≤ 1000000) (h2 : (lastL L).2.length ≤ 1000000) (h3 : ∀ x ∈ (lastL L).2, x.length ≤ 1000000) :
  (std Try.prog T).pc 80 [.root (.box [.tree shL (.sl L.length (lnC L)) none, .me (some 80), .st (vB o)]), .v true [vI k, vS s, vI a]] (ret1 (.st (vB (itmB k)))) [.box [.tree shL (.sl L.length (itmC (lnC L) k s)) none, .me (itmF k), .st (vB (itmO k o))], .none] := by
 obtain ⟨L0, ⟨nm, A⟩, rfl⟩ := snoc_ex h0
 rw [lastL_snoc] at h2 h3 hA
 obtain ⟨A0, al, rfl⟩ := snoc_ex hA
 exact ⟨enters Try.func80 (by kernel_rfl) (by kernel_rfl), pc_item L0 nm A0 al o k a s h1 h2 (h3 al (by simp))⟩
theorem pc_parseAll (s : ByteArray) (hs : s.size ≤ 65536) : PC Try.prog T 13 [.v false [vS s]] (rAllP s) [] := by
 have hN := lxN_le s
 have hCl := lxC_len s
 refine pc_of tok Try.func13 rfl (by rfl) ?_
 obtain ⟨j, hj⟩ : ∃ j : J, j = std Try.prog T := ⟨_, rfl⟩
 have hm : Try.prog.follows .mixedOrders = true := by kernel_rfl
 generalize y_lxN : @lxN = x_lxN at *
 generalize y_lxC : @lxC = x_lxC at *
 generalize y_lxA : @lxA = x_lxA at *
 generalize y_lxE : @lxE = x_lxE at *
 generalize y_itmC : @itmC = x_itmC at *
 generalize y_altC : @altC = x_altC at *
 generalize y_itmF : @itmF = x_itmF at *
 generalize y_itmO : @itmO = x_itmO at *
 generalize y_itmB : @itmB = x_itmB at *
 generalize y_nmC : @nmC = x_nmC at *
 generalize y_up1 : @up1 = x_up1 at *
 generalize y_isK : @isK = x_isK at *
 generalize y_lnC : @lnC = x_lnC at *
 (repeat' first | (refine aw_retz hj [(2, .fz), (3, .keep), (4, .keep)] (by cbv) ?_) | ((first | with_reducible refine tr_cut (fun h => ?_) (fun h => ?_) | refine aw_condj (by cbv) (fun h => ?_) (fun h => ?_)) <;> (try simp (disch := omega) only [hj, std, cmpI, cmpB, satB, Bool.not_eq_true, Bool.not_eq_false, decide_eq_true_eq, decide_eq_false_iff_not, beq_iff_eq, bne_iff_ne, bne_eq_false_iff_eq, beq_eq_false_iff_ne, ne_eq, reduceCtorEq, not_true_eq_false, not_false_eq_true, pl0, if_true, cmpS_eq, cmpS_neq, Bool.not_eq_eq_eq_not, Bool.not_true, Bool.not_false, Bool.not_eq_true', add64, sub64] at h) <;> (try (exfalso; omega))) | (with_reducible refine tr_alt (fun h => ?_) ?_ <;> (try (exfalso; omega))) | (with_reducible first | refine tr_ob ?_ ?_ | refine tr_done ?_) | (refine aw_tr hj tok (bookP4 x_lxN x_lxC x_lxA x_lxE x_itmC x_altC x_itmF x_itmO x_itmB x_nmC x_up1 x_isK) (by cbv) ?_) | (refine aw_seq fun K hK => ?_) | (refine aw_tr1 hj tok (bookP4 x_lxN x_lxC x_lxA x_lxE x_itmC x_altC x_itmF x_itmO x_itmB x_nmC x_up1 x_isK) (by cbv) ?_) | (refine aw_skip ?_) | (refine aw_block ?_) | (refine aw_exit ?_) | (refine aw_ret ⟨.inr rfl, ret_okj hj (by cbv) ?_ ?_⟩) | (refine aw_ret ?_) | (with_reducible first | refine th_n ?_ | refine th_r ?_ | refine th_x ?_ | refine blk_n ?_ | refine blk_r ?_ | refine blk_x ?_ | refine blk_y rfl ?_) | (refine ⟨.inr rfl, ret_okj hj (by cbv) ?_ ?_⟩) | (refine ⟨.inl rfl, ret_okj hj (by cbv) ?_ ?_⟩) | (with_reducible first | refine ⟨(_, _, _, _, _), by cbv, ?_, ?_⟩ | refine ⟨_, by cbv, ?_, ?_⟩) | (with_reducible apply_assumption -symm -exfalso only [*]))
 all_goals ((try subst y_lxN); (try subst y_lxC); (try subst y_lxA); (try subst y_lxE); (try subst y_itmC); (try subst y_altC); (try subst y_itmF); (try subst y_itmO); (try subst y_itmB); (try subst y_nmC); (try subst y_up1); (try subst y_isK); (try subst y_lnC))
 all_goals (try (repeat' first | with_reducible exact obl0 | (with_reducible refine obl1 ?_ ?_)))
 all_goals (try first | with_reducible exact True.intro | ((first | refine ob_pc hj ?_ | refine ob_pcn hj ?_); (try rw [hj]); first | exact c_lexA hs) | ((first | refine ob_le hj ?_ | refine ob_lei hj ?_ | refine ob_inb hj ?_ | refine ob_pos hj ?_ | refine ob_ne0 hj ?_ | refine ob_eqb hj ?_); (first | rfl | first | omega | (simp only [hj, std]; split <;> omega) | (simp (disch := omega) only [hj, std, cmpI, cmpB, satB, add64, sub64, ite0, pl0, pl2, pl3, sb0, if_true, if_false, eq_self] <;> omega) | (simp (disch := omega) [hj, std, cmpI, cmpB, satB, add64, sub64, ite0, pl0, pl2, pl3, sb0, if_true, if_false, eq_self] <;> omega))) | ((refine ob_vals hj ?_; exact lxC_vls _)) | ((refine rP_of (L := []) ?_; unfold pAll; rw [if_pos (by assumption)])))
 have hE : lxE s = 0 := by omega
 refine aw_lpj hj [(0, .keep), (8, .keep), (28, .own tokTyL), (29, .keep), (30, .keep), (22, .btree 0 shL)] [22] (fun (⟨i, m, cs, f, o⟩ : Int × Nat × (List C) × (Option FuncId) × Bool) => stOf 62 [(0, .one (.c (vS s))), (8, .one (.ptr 22 0)), (28, .one (.view 28 0)), (29, .one (.c (vI (j.ofNat (lxN s))))), (30, .one (.c (vI i)))] [(28, .loose [.own tokTyL (lxN s) (lxC s)]), (22, .box [.tree shL (.sl m cs) none, .me f, .st (vB o)])]) (fun (⟨i, m, cs, f, o⟩ : Int × Nat × (List C) × (Option FuncId) × Bool) => lxN s - i.toNat) (fun (⟨i, m, cs, f, o⟩ : Int × Nat × (List C) × (Option FuncId) × Bool) => 0 ≤ i ∧ i ≤ lxN s ∧ rInv s i m cs f o) ((0, 0, [], fnW 0, false)) (by generalize @lxN = x_lxN; generalize @lxC = x_lxC; generalize @lxA = x_lxA; generalize @lxE = x_lxE; generalize @itmC = x_itmC; generalize @altC = x_altC; generalize @itmF = x_itmF; generalize @itmO = x_itmO; generalize @itmB = x_itmB; generalize @nmC = x_nmC; generalize @up1 = x_up1; generalize @isK = x_isK; generalize @lnC = x_lnC; cbv) ?_ (fun ⟨i, m, cs, f, o⟩ hI => ?_)
 ·exact ⟨by omega, by omega, [], 0, rfl, rfl, rfl, .inl rfl, ⟨by simp, fun x hx => by cases hx⟩, by unfold pAll; rw [if_neg (by omega)]; rfl⟩
 obtain ⟨i1, i2, L, w, hm1, hc1, rfl, hok, hsz, hgo⟩ := hI
 have hfin := @r_fin s i L w o
 have hb1 := hsz.1
 have hfin1 := fun h => hfin h hgo
 rcases id hok with hw | ⟨hw, hL⟩ | ⟨hw, hL, hA⟩
 ·change w = 0 at hw; subst hw
  generalize y_lxN : @lxN = x_lxN at *
  generalize y_lxC : @lxC = x_lxC at *
  generalize y_lxA : @lxA = x_lxA at *
  generalize y_lxE : @lxE = x_lxE at *
  generalize y_itmC : @itmC = x_itmC at *
  generalize y_altC : @altC = x_altC at *
  generalize y_itmF : @itmF = x_itmF at *
  generalize y_itmO : @itmO = x_itmO at *
  generalize y_itmB : @itmB = x_itmB at *
  generalize y_nmC : @nmC = x_nmC at *
  generalize y_up1 : @up1 = x_up1 at *
  generalize y_isK : @isK = x_isK at *
  generalize y_lnC : @lnC = x_lnC at *
  (repeat' first | (refine aw_retz hj [(2, .fz), (3, .keep), (4, .keep)] (by cbv) ?_) | ((first | with_reducible refine tr_cut (fun h => ?_) (fun h => ?_) | refine aw_condj (by cbv) (fun h => ?_) (fun h => ?_)) <;> (try simp (disch := omega) only [hj, std, cmpI, cmpB, satB, Bool.not_eq_true, Bool.not_eq_false, decide_eq_true_eq, decide_eq_false_iff_not, beq_iff_eq, bne_iff_ne, bne_eq_false_iff_eq, beq_eq_false_iff_ne, ne_eq, reduceCtorEq, not_true_eq_false, not_false_eq_true, pl0, if_true, cmpS_eq, cmpS_neq, Bool.not_eq_eq_eq_not, Bool.not_true, Bool.not_false, Bool.not_eq_true', add64, sub64] at h) <;> (try (exfalso; omega))) | (with_reducible refine tr_alt (fun h => ?_) ?_ <;> (try (exfalso; omega))) | (with_reducible first | refine tr_ob ?_ ?_ | refine tr_done ?_) | (refine aw_dr1 (id := 10) hj tok hm (bookP4 x_lxN x_lxC x_lxA x_lxE x_itmC x_altC x_itmF x_itmO x_itmB x_nmC x_up1 x_isK) true [(0, false), (1, false), (2, true), (3, true), (4, true)] (by kernel_rfl) (by cbv) ?_) | (refine aw_dr (id := 10) hj tok hm (bookP4 x_lxN x_lxC x_lxA x_lxE x_itmC x_altC x_itmF x_itmO x_itmB x_nmC x_up1 x_isK) true [(0, false), (1, false), (2, true), (3, true), (4, true)] (by kernel_rfl) (by cbv) ?_) | (with_reducible refine dr_go (by cbv) ?_) | (refine aw_dw1 (id := 9) hj tok hm (bookP4 x_lxN x_lxC x_lxA x_lxE x_itmC x_altC x_itmF x_itmO x_itmB x_nmC x_up1 x_isK) [(0, false), (1, false), (2, false), (3, false), (4, true)] [(5, true), (6, true)] [0, 1, 2, 3] (by kernel_rfl) (by cbv) ?_) | (refine aw_dw (id := 9) hj tok hm (bookP4 x_lxN x_lxC x_lxA x_lxE x_itmC x_altC x_itmF x_itmO x_itmB x_nmC x_up1 x_isK) [(0, false), (1, false), (2, false), (3, false), (4, true)] [(5, true), (6, true)] [0, 1, 2, 3] (by kernel_rfl) (by cbv) ?_) | (refine aw_tr hj tok (bookP4 x_lxN x_lxC x_lxA x_lxE x_itmC x_altC x_itmF x_itmO x_itmB x_nmC x_up1 x_isK) (by cbv) ?_) | (refine aw_seq fun K hK => ?_) | (refine aw_tr1 hj tok (bookP4 x_lxN x_lxC x_lxA x_lxE x_itmC x_altC x_itmF x_itmO x_itmB x_nmC x_up1 x_isK) (by cbv) ?_) | (refine aw_skip ?_) | (refine aw_block ?_) | (refine aw_exit ?_) | (refine aw_ret ⟨.inr rfl, ret_okj hj (by cbv) ?_ ?_⟩) | (refine aw_ret ?_) | (with_reducible first | refine th_n ?_ | refine th_r ?_ | refine th_x ?_ | refine blk_n ?_ | refine blk_r ?_ | refine blk_x ?_ | refine blk_y rfl ?_) | (refine ⟨.inr rfl, ret_okj hj (by cbv) ?_ ?_⟩) | (refine ⟨.inl rfl, ret_okj hj (by cbv) ?_ ?_⟩) | (with_reducible first | refine ⟨(_, _, _, _, _), by cbv, ?_, ?_⟩ | refine ⟨_, by cbv, ?_, ?_⟩) | (with_reducible apply_assumption -symm -exfalso only [*]))
  all_goals ((try subst y_lxN); (try subst y_lxC); (try subst y_lxA); (try subst y_lxE); (try subst y_itmC); (try subst y_altC); (try subst y_itmF); (try subst y_itmO); (try subst y_itmB); (try subst y_nmC); (try subst y_up1); (try subst y_isK); (try subst y_lnC))
  all_goals (try (have hi := ‹i < (lxN s : Int)›; obtain ⟨t, t1, t2, t3, t4⟩ := tk_drop i1 hi))
  all_goals (try (have q := ‹isK _ 1 = true›; rw [t2] at q))
  all_goals (try (have q := ‹isK _ 1 = false›; rw [t2] at q))
  all_goals (try (repeat' first | with_reducible exact obl0 | (with_reducible refine obl1 ?_ ?_)))
  all_goals (try first | with_reducible exact True.intro | ((first | refine ob_pc hj ?_ | refine ob_pcn hj ?_); (try rw [hj]); first | exact c_name (by omega)) | ((first | refine ob_le hj ?_ | refine ob_lei hj ?_ | refine ob_inb hj ?_ | refine ob_pos hj ?_ | refine ob_ne0 hj ?_ | refine ob_eqb hj ?_); (first | rfl | first | omega | (simp only [hj, std]; split <;> omega) | (simp (disch := omega) only [hj, std, cmpI, cmpB, satB, add64, sub64, ite0, pl0, pl2, pl3, sb0, if_true, if_false, eq_self, lxC_len] <;> omega) | (simp (disch := omega) [hj, std, cmpI, cmpB, satB, add64, sub64, ite0, pl0, pl2, pl3, sb0, if_true, if_false, eq_self, lxC_len] <;> omega))) | ((refine ob_ok hj ?_; simp only [hj, std, t2, t3, t4]; exact ⟨_, rfl⟩)) | ((refine rP_of (L := []) ?_; rw [hj]; first | exact (hfin1 (by omega)).1 (by assumption) | exact (hfin1 (by omega)).2.1 (by omega) | (simp only [std, t4]; exact r_bad t1 hgo q))) | ((rw [hm1, hc1]; exact rP_of ((hfin1 (by omega)).2.2 (by assumption) (by omega)))) | ((simp (disch := omega) only [hj, std, add64, t2, t3]; first | omega | exact ⟨by omega, by omega, r_next i1 t1 hok hsz hgo q (by rw [hm1]; show up1 L.length = (L ++ [_]).length; simp [up1]) (by rw [hc1]; exact lnC_name L _) rfl rfl⟩)))
 ·change w = 1 at hw; subst hw
  have hlm := hsz.2 _ (lastL_mem hL)
  generalize y_lxN : @lxN = x_lxN at *
  generalize y_lxC : @lxC = x_lxC at *
  generalize y_lxA : @lxA = x_lxA at *
  generalize y_lxE : @lxE = x_lxE at *
  generalize y_itmC : @itmC = x_itmC at *
  generalize y_altC : @altC = x_altC at *
  generalize y_itmF : @itmF = x_itmF at *
  generalize y_itmO : @itmO = x_itmO at *
  generalize y_itmB : @itmB = x_itmB at *
  generalize y_nmC : @nmC = x_nmC at *
  generalize y_up1 : @up1 = x_up1 at *
  generalize y_isK : @isK = x_isK at *
  generalize y_lnC : @lnC = x_lnC at *
  (repeat' first | (refine aw_retz hj [(2, .fz), (3, .keep), (4, .keep)] (by cbv) ?_) | ((first | with_reducible refine tr_cut (fun h => ?_) (fun h => ?_) | refine aw_condj (by cbv) (fun h => ?_) (fun h => ?_)) <;> (try simp (disch := omega) only [hj, std, cmpI, cmpB, satB, Bool.not_eq_true, Bool.not_eq_false, decide_eq_true_eq, decide_eq_false_iff_not, beq_iff_eq, bne_iff_ne, bne_eq_false_iff_eq, beq_eq_false_iff_ne, ne_eq, reduceCtorEq, not_true_eq_false, not_false_eq_true, pl0, if_true, cmpS_eq, cmpS_neq, Bool.not_eq_eq_eq_not, Bool.not_true, Bool.not_false, Bool.not_eq_true', add64, sub64] at h) <;> (try (exfalso; omega))) | (with_reducible refine tr_alt (fun h => ?_) ?_ <;> (try (exfalso; omega))) | (with_reducible first | refine tr_ob ?_ ?_ | refine tr_done ?_) | (refine aw_dr1 (id := 10) hj tok hm (bookP4 x_lxN x_lxC x_lxA x_lxE x_itmC x_altC x_itmF x_itmO x_itmB x_nmC x_up1 x_isK) true [(0, false), (1, false), (2, true), (3, true), (4, true)] (by kernel_rfl) (by cbv) ?_) | (refine aw_dr (id := 10) hj tok hm (bookP4 x_lxN x_lxC x_lxA x_lxE x_itmC x_altC x_itmF x_itmO x_itmB x_nmC x_up1 x_isK) true [(0, false), (1, false), (2, true), (3, true), (4, true)] (by kernel_rfl) (by cbv) ?_) | (with_reducible refine dr_go (by cbv) ?_) | (refine aw_dw1 (id := 9) hj tok hm (bookP4 x_lxN x_lxC x_lxA x_lxE x_itmC x_altC x_itmF x_itmO x_itmB x_nmC x_up1 x_isK) [(0, false), (1, false), (2, false), (3, false), (4, true)] [(5, true), (6, true)] [0, 1, 2, 3] (by kernel_rfl) (by cbv) ?_) | (refine aw_dw (id := 9) hj tok hm (bookP4 x_lxN x_lxC x_lxA x_lxE x_itmC x_altC x_itmF x_itmO x_itmB x_nmC x_up1 x_isK) [(0, false), (1, false), (2, false), (3, false), (4, true)] [(5, true), (6, true)] [0, 1, 2, 3] (by kernel_rfl) (by cbv) ?_) | (refine aw_tr hj tok (bookP4 x_lxN x_lxC x_lxA x_lxE x_itmC x_altC x_itmF x_itmO x_itmB x_nmC x_up1 x_isK) (by cbv) ?_) | (refine aw_seq fun K hK => ?_) | (refine aw_tr1 hj tok (bookP4 x_lxN x_lxC x_lxA x_lxE x_itmC x_altC x_itmF x_itmO x_itmB x_nmC x_up1 x_isK) (by cbv) ?_) | (refine aw_skip ?_) | (refine aw_block ?_) | (refine aw_exit ?_) | (refine aw_ret ⟨.inr rfl, ret_okj hj (by cbv) ?_ ?_⟩) | (refine aw_ret ?_) | (with_reducible first | refine th_n ?_ | refine th_r ?_ | refine th_x ?_ | refine blk_n ?_ | refine blk_r ?_ | refine blk_x ?_ | refine blk_y rfl ?_) | (refine ⟨.inr rfl, ret_okj hj (by cbv) ?_ ?_⟩) | (refine ⟨.inl rfl, ret_okj hj (by cbv) ?_ ?_⟩) | (with_reducible first | refine ⟨(_, _, _, _, _), by cbv, ?_, ?_⟩ | refine ⟨_, by cbv, ?_, ?_⟩) | (with_reducible apply_assumption -symm -exfalso only [*]))
  all_goals ((try subst y_lxN); (try subst y_lxC); (try subst y_lxA); (try subst y_lxE); (try subst y_itmC); (try subst y_altC); (try subst y_itmF); (try subst y_itmO); (try subst y_itmB); (try subst y_nmC); (try subst y_up1); (try subst y_isK); (try subst y_lnC))
  all_goals (try subst hm1)
  all_goals (try subst hc1)
  all_goals (have hm1 : L.length = L.length := rfl)
  all_goals (have hc1 : lnC L = lnC L := rfl)
  all_goals (try (have hi := ‹i < (lxN s : Int)›; obtain ⟨t, t1, t2, t3, t4⟩ := tk_drop i1 hi))
  all_goals (try (have q := ‹isK _ 3 = true›; rw [t2] at q))
  all_goals (try (have q := ‹isK _ 3 = false›; rw [t2] at q))
  all_goals (try (repeat' first | with_reducible exact obl0 | (with_reducible refine obl1 ?_ ?_)))
  all_goals (try first | with_reducible exact True.intro | ((first | refine ob_pc hj ?_ | refine ob_pcn hj ?_); (try rw [hj]); first | exact c_colon hL (by omega) (by omega)) | ((first | refine ob_le hj ?_ | refine ob_lei hj ?_ | refine ob_inb hj ?_ | refine ob_pos hj ?_ | refine ob_ne0 hj ?_ | refine ob_eqb hj ?_); (first | rfl | first | omega | (simp only [hj, std]; split <;> omega) | (simp (disch := omega) only [hj, std, cmpI, cmpB, satB, add64, sub64, ite0, pl0, pl2, pl3, sb0, if_true, if_false, eq_self, lxC_len] <;> omega) | (simp (disch := omega) [hj, std, cmpI, cmpB, satB, add64, sub64, ite0, pl0, pl2, pl3, sb0, if_true, if_false, eq_self, lxC_len] <;> omega))) | ((refine ob_ok hj ?_; simp only [hj, std, t2, t3, t4]; exact ⟨_, rfl⟩)) | ((refine rP_of (L := []) ?_; rw [hj]; first | exact (hfin1 (by omega)).1 (by assumption) | exact (hfin1 (by omega)).2.1 (by omega) | (simp only [std, t4]; exact r_bad t1 hgo q))) | ((rw [hm1, hc1]; exact rP_of ((hfin1 (by omega)).2.2 (by assumption) (by omega)))) | ((simp (disch := omega) only [hj, std, add64, t2, t3]; first | omega | exact ⟨by omega, by omega, r_next i1 t1 hok hsz hgo q (by rw [hm1]; exact (addAlt_len hL).symm) (by rw [hc1]; show altC (lnC L) = lnC (addAlt L); unfold altC; rw [lnsOf_lnC]) rfl rfl⟩)))
 ·change w = 2 at hw; subst hw
  have hlm := hsz.2 _ (lastL_mem hL)
  change (lastL L).2 ≠ [] at hA
  generalize y_lxN : @lxN = x_lxN at *
  generalize y_lxC : @lxC = x_lxC at *
  generalize y_lxA : @lxA = x_lxA at *
  generalize y_lxE : @lxE = x_lxE at *
  generalize y_itmC : @itmC = x_itmC at *
  generalize y_altC : @altC = x_altC at *
  generalize y_itmF : @itmF = x_itmF at *
  generalize y_itmO : @itmO = x_itmO at *
  generalize y_itmB : @itmB = x_itmB at *
  generalize y_nmC : @nmC = x_nmC at *
  generalize y_up1 : @up1 = x_up1 at *
  generalize y_isK : @isK = x_isK at *
  generalize y_lnC : @lnC = x_lnC at *
  (repeat' first | (refine aw_retz hj [(2, .fz), (3, .keep), (4, .keep)] (by cbv) ?_) | ((first | with_reducible refine tr_cut (fun h => ?_) (fun h => ?_) | refine aw_condj (by cbv) (fun h => ?_) (fun h => ?_)) <;> (try simp (disch := omega) only [hj, std, cmpI, cmpB, satB, Bool.not_eq_true, Bool.not_eq_false, decide_eq_true_eq, decide_eq_false_iff_not, beq_iff_eq, bne_iff_ne, bne_eq_false_iff_eq, beq_eq_false_iff_ne, ne_eq, reduceCtorEq, not_true_eq_false, not_false_eq_true, pl0, if_true, cmpS_eq, cmpS_neq, Bool.not_eq_eq_eq_not, Bool.not_true, Bool.not_false, Bool.not_eq_true', add64, sub64] at h) <;> (try (exfalso; omega))) | (with_reducible refine tr_alt (fun h => ?_) ?_ <;> (try (exfalso; omega))) | (with_reducible first | refine tr_ob ?_ ?_ | refine tr_done ?_) | (refine aw_dr1 (id := 10) hj tok hm (bookP4 x_lxN x_lxC x_lxA x_lxE x_itmC x_altC x_itmF x_itmO x_itmB x_nmC x_up1 x_isK) true [(0, false), (1, false), (2, true), (3, true), (4, true)] (by kernel_rfl) (by cbv) ?_) | (refine aw_dr (id := 10) hj tok hm (bookP4 x_lxN x_lxC x_lxA x_lxE x_itmC x_altC x_itmF x_itmO x_itmB x_nmC x_up1 x_isK) true [(0, false), (1, false), (2, true), (3, true), (4, true)] (by kernel_rfl) (by cbv) ?_) | (with_reducible refine dr_go (by cbv) ?_) | (refine aw_dw1 (id := 9) hj tok hm (bookP4 x_lxN x_lxC x_lxA x_lxE x_itmC x_altC x_itmF x_itmO x_itmB x_nmC x_up1 x_isK) [(0, false), (1, false), (2, false), (3, false), (4, true)] [(5, true), (6, true)] [0, 1, 2, 3] (by kernel_rfl) (by cbv) ?_) | (refine aw_dw (id := 9) hj tok hm (bookP4 x_lxN x_lxC x_lxA x_lxE x_itmC x_altC x_itmF x_itmO x_itmB x_nmC x_up1 x_isK) [(0, false), (1, false), (2, false), (3, false), (4, true)] [(5, true), (6, true)] [0, 1, 2, 3] (by kernel_rfl) (by cbv) ?_) | (refine aw_tr hj tok (bookP4 x_lxN x_lxC x_lxA x_lxE x_itmC x_altC x_itmF x_itmO x_itmB x_nmC x_up1 x_isK) (by cbv) ?_) | (refine aw_seq fun K hK => ?_) | (refine aw_tr1 hj tok (bookP4 x_lxN x_lxC x_lxA x_lxE x_itmC x_altC x_itmF x_itmO x_itmB x_nmC x_up1 x_isK) (by cbv) ?_) | (refine aw_skip ?_) | (refine aw_block ?_) | (refine aw_exit ?_) | (refine aw_ret ⟨.inr rfl, ret_okj hj (by cbv) ?_ ?_⟩) | (refine aw_ret ?_) | (with_reducible first | refine th_n ?_ | refine th_r ?_ | refine th_x ?_ | refine blk_n ?_ | refine blk_r ?_ | refine blk_x ?_ | refine blk_y rfl ?_) | (refine ⟨.inr rfl, ret_okj hj (by cbv) ?_ ?_⟩) | (refine ⟨.inl rfl, ret_okj hj (by cbv) ?_ ?_⟩) | (with_reducible first | refine ⟨(_, _, _, _, _), by cbv, ?_, ?_⟩ | refine ⟨_, by cbv, ?_, ?_⟩) | (with_reducible apply_assumption -symm -exfalso only [*]))
  all_goals ((try subst y_lxN); (try subst y_lxC); (try subst y_lxA); (try subst y_lxE); (try subst y_itmC); (try subst y_altC); (try subst y_itmF); (try subst y_itmO); (try subst y_itmB); (try subst y_nmC); (try subst y_up1); (try subst y_isK); (try subst y_lnC))
  all_goals (try subst hm1)
  all_goals (try subst hc1)
  all_goals (have hm1 : L.length = L.length := rfl)
  all_goals (have hc1 : lnC L = lnC L := rfl)
  all_goals (try (have hi := ‹i < (lxN s : Int)›; obtain ⟨t, t1, t2, t3, t4⟩ := tk_drop i1 hi))
  all_goals (try (have q := ‹itmB _ = true›; rw [t2] at q))
  all_goals (try (have q := ‹itmB _ = false›; rw [t2] at q))
  all_goals (try (repeat' first | with_reducible exact obl0 | with_reducible refine obl1 ?_ ?_))
  all_goals (try first | with_reducible exact True.intro | ((first | refine ob_pc hj ?_ | refine ob_pcn hj ?_); (try rw [hj]); first | exact c_item hL hA (by omega) (by omega) (fun x hx => by have := hlm.2 x hx; omega)) | ((first | refine ob_le hj ?_ | refine ob_lei hj ?_ | refine ob_inb hj ?_ | refine ob_pos hj ?_ | refine ob_ne0 hj ?_ | refine ob_eqb hj ?_); (first | rfl | first | omega | (simp only [hj, std]; split <;> omega) | (simp (disch := omega) only [hj, std, cmpI, cmpB, satB, add64, sub64, ite0, pl0, pl2, pl3, sb0, if_true, if_false, eq_self, lxC_len] <;> omega) | (simp (disch := omega) [hj, std, cmpI, cmpB, satB, add64, sub64, ite0, pl0, pl2, pl3, sb0, if_true, if_false, eq_self, lxC_len] <;> omega))) | ((refine ob_ok hj ?_; simp only [hj, std, t2, t3, t4]; exact ⟨_, rfl⟩)) | ((refine rP_of (L := []) ?_; rw [hj]; first | exact (hfin1 (by omega)).1 (by assumption) | exact (hfin1 (by omega)).2.1 (by omega) | (simp only [std, t4]; exact r_bad t1 hgo q))) | ((rw [hm1, hc1]; exact rP_of ((hfin1 (by omega)).2.2 (by assumption) (by omega)))) | ((simp (disch := omega) only [hj, std, add64, t2, t3]; first | omega | exact ⟨by omega, by omega, r_next i1 t1 hok hsz hgo q (by rw [hm1]; exact itm_len hL o t) (by rw [hc1]; exact itm_cells L o t) (itm_want L o t) rfl⟩)))
end Go.Proofs.Ytgimfjmigoibgaa.A
/- Rules as cells: from place to place; their sizes. -/
set_option linter.unusedSimpArgs false
set_option linter.unusedVariables false
set_option maxRecDepth 100000
set_option maxHeartbeats 4000000
namespace Go.Proofs.Ytgimfjmigoibgaa.A
open Go
abbrev lAt (L : List Ln) (i : Nat) : Ln := L.getD i (ByteArray.empty, [])
abbrev aAt (A : List (List It)) (i : Nat) : List It := A.getD i []
abbrev tAt (a : List It) (i : Nat) : It := a.getD i (false, ByteArray.empty)
theorem pair_at {α : Type} (f g : α → C) : ∀ (l : List α) (i : Nat) (h : i < l.length), cellAt (l.flatMap fun x => [f x, g x]) (i * 2) = f l[i] ∧ cellAt (l.flatMap fun x => [f x, g x]) (i * 2 + 1) = g l[i] := by
 intro l
 induction l with
 | nil => intro i h; simp at h
 | cons x l ih =>
  intro i h
  cases i with
  | zero => exact ⟨rfl, rfl⟩
  | succ i =>
   obtain ⟨h1, h2⟩ := ih i (by simpa using h)
   have e1 : (i + 1) * 2 = i * 2 + 1 + 1 := by omega
   rw [e1]
   exact ⟨h1, h2⟩
theorem at_lnC {L : List Ln} {i : Nat} (h : i < L.length) : cellAt (lnC L) (i * 2) = vS (lAt L i).1 ∧ cellAt (lnC L) (i * 2 + 1) = nslC (lAt L i).2.length (alC (lAt L i).2) := by
 have := pair_at (fun x : Ln => vS x.1) (fun x => nslC x.2.length (alC x.2)) L i h
 unfold lnC; simpa only [lAt, List.getD_eq_getElem?_getD, List.getElem?_eq_getElem h, Option.getD_some] using this
theorem at_itC {a : List It} {i : Nat} (h : i < a.length) : cellAt (itC a) (i * 2) = vB (tAt a i).1 ∧ cellAt (itC a) (i * 2 + 1) = vS (tAt a i).2 := by
 have := pair_at (fun x : It => vB x.1) (fun x => vS x.2) a i h
 unfold itC; simpa only [tAt, List.getD_eq_getElem?_getD, List.getElem?_eq_getElem h, Option.getD_some] using this
theorem at_alC {A : List (List It)} {i : Nat} (h : i < A.length) : cellAt (alC A) i = nslC (aAt A i).length (itC (aAt A i)) := by
 unfold alC; rw [map_at, List.getElem?_eq_getElem h, aAt, List.getD_eq_getElem?_getD, List.getElem?_eq_getElem h]; rfl
theorem lAt_mem {L : List Ln} {i : Nat} (h : i < L.length) : lAt L i ∈ L := by
 rw [lAt, List.getD_eq_getElem?_getD, List.getElem?_eq_getElem h]; exact List.getElem_mem h
theorem aAt_mem {A : List (List It)} {i : Nat} (h : i < A.length) : aAt A i ∈ A := by
 rw [aAt, List.getD_eq_getElem?_getD, List.getElem?_eq_getElem h]; exact List.getElem_mem h
def AlRep (A : List (List It)) (ds : List C) : Prop := ds.length = A.length ∧ ∀ k, k < A.length → okK .sl (cellAt ds k) ∧ gn (cellAt ds k) = (aAt A k).length ∧ gc (cellAt ds k) = itC (aAt A k)
def LnRep (L : List Ln) (cs : List C) : Prop := cs.length = L.length * 2 ∧ ∀ i, i < L.length → cellAt cs (i * 2) = vS (lAt L i).1 ∧ okK .sl (cellAt cs (i * 2 + 1)) ∧ gn (cellAt cs (i * 2 + 1)) = (lAt L i).2.length ∧ AlRep (lAt L i).2 (gc (cellAt cs (i * 2 + 1)))
theorem AlRep.of (A : List (List It)) : AlRep A (alC A) := ⟨alC_len A, fun k h => by rw [at_alC h]; exact ⟨ok_nsl _ _, gn_nsl _ _, gc_it _⟩⟩
theorem LnRep.of (L : List Ln) : LnRep L (lnC L) := ⟨lnC_len L, fun i h => by
 obtain ⟨h1, h2⟩ := at_lnC h
 refine ⟨h1, ?_, ?_, ?_⟩
 ·rw [h2]; exact ok_nsl _ _
 ·rw [h2, gn_nsl]
 ·rw [h2, gc_al]; exact AlRep.of _⟩
theorem AlRep.read {A : List (List It)} {ds : List C} (h : AlRep A ds) : alsGo ds = A := by
 unfold alsGo
 refine List.ext_getElem (by rw [List.length_map, h.1]) fun k h1 h2 => ?_
 obtain ⟨_, _, q⟩ := h.2 k h2
 rw [List.getElem_map]
 have e : cellAt ds k = ds[k]'(by simpa using h1) := by rw [cellAt, List.getD_eq_getElem?_getD, List.getElem?_eq_getElem (by simpa using h1)]; rfl
 rw [← e, q, itsGo_itC, aAt, List.getD_eq_getElem?_getD, List.getElem?_eq_getElem h2]; rfl
theorem lnsGo_at : ∀ (n : Nat) (cs : List C), cs.length = n * 2 → lnsGo cs = (List.range n).map fun i => (gs (cellAt cs (i * 2)), alsGo (gc (cellAt cs (i * 2 + 1)))) := by
 intro n
 induction n with
 | zero => intro cs h; have h0 : cs = [] := List.eq_nil_of_length_eq_zero (by omega); subst h0; rfl
 | succ n ih =>
  intro cs h
  match cs, h with
  | a :: b :: r, h =>
   rw [List.range_succ_eq_map, List.map_cons, List.map_map]
   show (gs a, alsGo (gc b)) :: lnsGo r = _
   rw [ih r (by simp at h; omega)]
   congr 1
   refine List.map_congr_left fun i _ => ?_
   show _ = (gs (cellAt (a :: b :: r) ((i + 1) * 2)), alsGo (gc (cellAt (a :: b :: r) ((i + 1) * 2 + 1))))
   rw [show (i + 1) * 2 = i * 2 + 1 + 1 by omega]
   rfl
  | [a], h => simp at h; omega
  | [], h => simp at h
theorem LnRep.read {L : List Ln} {cs : List C} (h : LnRep L cs) : lnsOf cs = L := by
 unfold lnsOf
 rw [lnsGo_at L.length cs h.1]
 refine List.ext_getElem (by simp) fun i h1 h2 => ?_
 obtain ⟨q1, _, _, q2⟩ := h.2 i h2
 rw [List.getElem_map, List.getElem_range, q1, q2.read]
 show ((lAt L i).1, (lAt L i).2) = _
 rw [lAt, List.getD_eq_getElem?_getD, List.getElem?_eq_getElem h2]; rfl
end Go.Proofs.Ytgimfjmigoibgaa.A
/- Names and terminals: what the functions of lex and of reference 12 give. -/
set_option linter.unusedSimpArgs false
set_option linter.unusedVariables false
set_option maxRecDepth 100000
set_option maxHeartbeats 4000000
namespace Go.Proofs.Ytgimfjmigoibgaa.A
open Go
def sizedI (s : ByteArray) : Bool := decide (1 ≤ s.size ∧ s.size ≤ 32)
def nameI (s : ByteArray) : Bool := decide (1 ≤ s.size ∧ s.size ≤ 32 ∧ isLetI (bt s 0) = true ∧ spanI isMoreI s 0 = s.size)
def termI (s : ByteArray) : Bool := decide (1 ≤ s.size ∧ s.size ≤ 32 ∧ spanI isSpelI s 0 = s.size)
theorem name_no1 {s : ByteArray} (h : ¬ (1 ≤ s.size ∧ s.size ≤ 32)) : nameI s = false := decide_eq_false fun hh => h ⟨hh.1, hh.2.1⟩
theorem name_no2 {s : ByteArray} (h : isLetI (bt s 0) = false) : nameI s = false := decide_eq_false fun hh => by rw [h] at hh; exact absurd hh.2.2.1 (by decide)
theorem name_no3 {s : ByteArray} {i : Int} (h0 : 0 ≤ i) (h : i < s.size) (h2 : spanI isMoreI s i = spanI isMoreI s 0) (h3 : isMoreI (bt s i.toNat) = false) : nameI s = false :=
 decide_eq_false fun hh => by have := spanI_stop (p := isMoreI) h0 h3; omega
theorem name_ok {s : ByteArray} {i : Int} (h0 : 0 ≤ i) (h : ¬ i < s.size) (h1 : i ≤ s.size) (h2 : spanI isMoreI s i = spanI isMoreI s 0) (h3 : isLetI (bt s 0) = true) (h4 : ¬ s.size < 1) (h5 : ¬ s.size > 32) : nameI s = true :=
 decide_eq_true ⟨by omega, by omega, h3, by have := spanI_end (p := isMoreI) h0 h; omega⟩
theorem term_no1 {s : ByteArray} (h : ¬ (1 ≤ s.size ∧ s.size ≤ 32)) : termI s = false := decide_eq_false fun hh => h ⟨hh.1, hh.2.1⟩
theorem term_no3 {s : ByteArray} {i : Int} (h0 : 0 ≤ i) (h : i < s.size) (h2 : spanI isSpelI s i = spanI isSpelI s 0) (h3 : isSpelI (bt s i.toNat) = false) : termI s = false :=
 decide_eq_false fun hh => by have := spanI_stop (p := isSpelI) h0 h3; omega
theorem term_ok {s : ByteArray} {i : Int} (h0 : 0 ≤ i) (h : ¬ i < s.size) (h1 : i ≤ s.size) (h2 : spanI isSpelI s i = spanI isSpelI s 0) (h4 : ¬ s.size < 1) (h5 : ¬ s.size > 32) : termI s = true :=
 decide_eq_true ⟨by omega, by omega, by have := spanI_end (p := isSpelI) h0 h; omega⟩
theorem name_run {s : ByteArray} (h1 : sizedI s = true) (h2 : isLetI (bt s 0) = true) : nameI s = (spanI isMoreI s 0 == (s.size : Int)) := by
 have h := of_decide_eq_true h1
 unfold nameI
 rw [Bool.eq_iff_iff]
 simp [h.1, h.2, h2]
theorem term_run {s : ByteArray} (h1 : sizedI s = true) : termI s = (spanI isSpelI s 0 == (s.size : Int)) := by
 have h := of_decide_eq_true h1
 unfold termI
 rw [Bool.eq_iff_iff]
 simp [h.1, h.2]
theorem sized_no {s : ByteArray} (h : sizedI s = false) : ¬ (1 ≤ s.size ∧ s.size ≤ 32) := of_decide_eq_false h
theorem c_more12 (n : Int) : pc 65 [.v false [vU n]] (ret1 (.st (vB (isMoreI n)))) := ⟨enters Try.func65 (by kernel_rfl) (by kernel_rfl), pc_more12 n⟩
theorem pc_Name12 (s : ByteArray) (hs : s.size < 4611686018427387904) : PC Try.prog T 39 [.v false [vS s]] (ret1 (.st (vB (nameI s)))) [] := by
 refine pc_of tok Try.func39 rfl (by rfl) ?_
 obtain ⟨j, hj⟩ : ∃ j : J, j = std Try.prog T := ⟨_, rfl⟩
 have hm : Try.prog.follows .mixedOrders = true := by kernel_rfl
 generalize y_isLetI : @isLetI = x_isLetI at *
 generalize y_isMoreI : @isMoreI = x_isMoreI at *
 generalize y_nameI : @nameI = x_nameI at *
 generalize y_spanI : @spanI = x_spanI at *
 (repeat' first | ((first | with_reducible refine tr_cut (fun h => ?_) (fun h => ?_) | refine aw_condj (by cbv) (fun h => ?_) (fun h => ?_)) <;> (try simp (disch := omega) only [hj, std, cmpI, cmpB, satB, Bool.not_eq_true, Bool.not_eq_false, decide_eq_true_eq, decide_eq_false_iff_not, beq_iff_eq, bne_iff_ne, bne_eq_false_iff_eq, beq_eq_false_iff_ne, ne_eq, reduceCtorEq, not_true_eq_false, not_false_eq_true, pl0, if_true, cmpS_eq, cmpS_neq, Bool.not_eq_eq_eq_not, Bool.not_true, Bool.not_false, Bool.not_eq_true', add64, sub64] at h) <;> (try (exfalso; omega))) | (with_reducible refine tr_alt (fun h => ?_) ?_ <;> (try (exfalso; omega))) | (with_reducible first | refine tr_ob ?_ ?_ | refine tr_done ?_) | (refine aw_tr hj tok (book1 x_isLetI x_isMoreI) (by cbv) ?_) | (refine aw_seq fun K hK => ?_) | (refine aw_tr1 hj tok (book1 x_isLetI x_isMoreI) (by cbv) ?_) | (refine aw_skip ?_) | (refine aw_block ?_) | (refine aw_exit ?_) | (refine aw_ret ⟨.inr rfl, ret_okj hj (by cbv) ?_ ?_⟩) | (refine aw_ret ?_) | (with_reducible first | refine th_n ?_ | refine th_r ?_ | refine th_x ?_ | refine blk_n ?_ | refine blk_r ?_ | refine blk_x ?_ | refine blk_y rfl ?_) | (refine ⟨.inr rfl, ret_okj hj (by cbv) ?_ ?_⟩) | (refine ⟨.inl rfl, ret_okj hj (by cbv) ?_ ?_⟩) | (with_reducible first | refine ⟨(_, _, _, _, _, _, _, _, _), by cbv, ?_, ?_⟩ | refine ⟨(_, _, _, _, _, _, _, _), by cbv, ?_, ?_⟩ | refine ⟨(_, _, _, _, _, _, _), by cbv, ?_, ?_⟩ | refine ⟨(_, _, _, _, _, _), by cbv, ?_, ?_⟩ | refine ⟨(_, _, _, _, _), by cbv, ?_, ?_⟩ | refine ⟨(_, _, _, _), by cbv, ?_, ?_⟩ | refine ⟨(_, _, _), by cbv, ?_, ?_⟩ | refine ⟨(_, _), by cbv, ?_, ?_⟩ | refine ⟨_, by cbv, ?_, ?_⟩) | (with_reducible apply_assumption -symm -exfalso only [*]))
 all_goals ((try subst y_isLetI); (try subst y_isMoreI); (try subst y_nameI); (try subst y_spanI))
 all_goals (try (repeat' first | with_reducible exact obl0 | (with_reducible refine obl1 ?_ ?_)))
 all_goals (try first | with_reducible exact True.intro | ((first | refine ob_pc hj ?_ | refine ob_pcn hj ?_); (try rw [hj]); first | exact c_letter12 _) | ((first | refine ob_le hj ?_ | refine ob_lei hj ?_ | refine ob_inb hj ?_ | refine ob_pos hj ?_ | refine ob_ne0 hj ?_ | refine ob_eqb hj ?_); (first | rfl | first | omega | (simp only [hj, std]; split <;> omega) | (simp (disch := omega) only [hj, std, cmpI, cmpB, satB, add64, sub64, ite0, pl0, pl2, pl3, sb0, if_true, if_false, eq_self] <;> omega) | (simp (disch := omega) [hj, std, cmpI, cmpB, satB, add64, sub64, ite0, pl0, pl2, pl3, sb0, if_true, if_false, eq_self] <;> omega))) | ((refine ret1_b (name_no1 ?_); omega)) | ((have hl := ‹isLetI _ = false›; exact ret1_b (name_no2 hl))))
 refine aw_lpj hj [(0, .keep), (3, .keep)] [] (fun i : Int => stOf 29 [(0, .one (.c (vS s))), (3, .one (.c (vI i)))] []) (fun i => s.size - i.toNat) (fun i => 0 ≤ i ∧ i ≤ s.size ∧ spanI isMoreI s i = spanI isMoreI s 0) 0 (by generalize @isLetI = x_isLetI; generalize @isMoreI = x_isMoreI; generalize @nameI = x_nameI; generalize @spanI = x_spanI; cbv) ⟨by omega, by omega, rfl⟩ fun i ⟨i1, i2, i3⟩ => ?_
 generalize y_isLetI : @isLetI = x_isLetI at *
 generalize y_isMoreI : @isMoreI = x_isMoreI at *
 generalize y_nameI : @nameI = x_nameI at *
 generalize y_spanI : @spanI = x_spanI at *
 (repeat' first | ((first | with_reducible refine tr_cut (fun h => ?_) (fun h => ?_) | refine aw_condj (by cbv) (fun h => ?_) (fun h => ?_)) <;> (try simp (disch := omega) only [hj, std, cmpI, cmpB, satB, Bool.not_eq_true, Bool.not_eq_false, decide_eq_true_eq, decide_eq_false_iff_not, beq_iff_eq, bne_iff_ne, bne_eq_false_iff_eq, beq_eq_false_iff_ne, ne_eq, reduceCtorEq, not_true_eq_false, not_false_eq_true, pl0, if_true, cmpS_eq, cmpS_neq, Bool.not_eq_eq_eq_not, Bool.not_true, Bool.not_false, Bool.not_eq_true', add64, sub64] at h) <;> (try (exfalso; omega))) | (with_reducible refine tr_alt (fun h => ?_) ?_ <;> (try (exfalso; omega))) | (with_reducible first | refine tr_ob ?_ ?_ | refine tr_done ?_) | (refine aw_tr hj tok (book1 x_isLetI x_isMoreI) (by cbv) ?_) | (refine aw_seq fun K hK => ?_) | (refine aw_tr1 hj tok (book1 x_isLetI x_isMoreI) (by cbv) ?_) | (refine aw_skip ?_) | (refine aw_block ?_) | (refine aw_exit ?_) | (refine aw_ret ⟨.inr rfl, ret_okj hj (by cbv) ?_ ?_⟩) | (refine aw_ret ?_) | (with_reducible first | refine th_n ?_ | refine th_r ?_ | refine th_x ?_ | refine blk_n ?_ | refine blk_r ?_ | refine blk_x ?_ | refine blk_y rfl ?_) | (refine ⟨.inr rfl, ret_okj hj (by cbv) ?_ ?_⟩) | (refine ⟨.inl rfl, ret_okj hj (by cbv) ?_ ?_⟩) | (with_reducible first | refine ⟨(_, _, _, _, _, _, _, _, _), by cbv, ?_, ?_⟩ | refine ⟨(_, _, _, _, _, _, _, _), by cbv, ?_, ?_⟩ | refine ⟨(_, _, _, _, _, _, _), by cbv, ?_, ?_⟩ | refine ⟨(_, _, _, _, _, _), by cbv, ?_, ?_⟩ | refine ⟨(_, _, _, _, _), by cbv, ?_, ?_⟩ | refine ⟨(_, _, _, _), by cbv, ?_, ?_⟩ | refine ⟨(_, _, _), by cbv, ?_, ?_⟩ | refine ⟨(_, _), by cbv, ?_, ?_⟩ | refine ⟨_, by cbv, ?_, ?_⟩) | (with_reducible apply_assumption -symm -exfalso only [*]))
 all_goals ((try subst y_isLetI); (try subst y_isMoreI); (try subst y_nameI); (try subst y_spanI))
 all_goals (try (repeat' first | with_reducible exact obl0 | with_reducible refine obl1 ?_ ?_))
 all_goals (try first | with_reducible exact True.intro | ((first | refine ob_pc hj ?_ | refine ob_pcn hj ?_); (try rw [hj]); first | exact c_more12 _) | ((first | refine ob_le hj ?_ | refine ob_lei hj ?_ | refine ob_inb hj ?_ | refine ob_pos hj ?_ | refine ob_ne0 hj ?_ | refine ob_eqb hj ?_); (first | rfl | first | omega | (simp only [hj, std]; split <;> omega) | (simp (disch := omega) only [hj, std, cmpI, cmpB, satB, add64, sub64, ite0, pl0, pl2, pl3, sb0, if_true, if_false, eq_self] <;> omega) | (simp (disch := omega) [hj, std, cmpI, cmpB, satB, add64, sub64, ite0, pl0, pl2, pl3, sb0, if_true, if_false, eq_self] <;> omega))) | ((have hi := ‹i < (s.size : Int)›; have hm := ‹isMoreI _ = false›; exact ret1_b (name_no3 i1 hi i3 hm))) | ((have hi := ‹¬ i < (s.size : Int)›; have hl := ‹isLetI _ = true›; exact ret1_b (name_ok i1 hi i2 i3 hl (by omega) (by omega)))) | ((have hi := ‹i < (s.size : Int)›; have hm := ‹isMoreI _ = true›; simp (disch := omega) only [hj, std, add64]; first | omega | exact ⟨by omega, by omega, (spanI_step i1 hi hm).trans i3⟩)))
theorem pc_Term12 (s : ByteArray) (hs : s.size < 4611686018427387904) : PC Try.prog T 41 [.v false [vS s]] (ret1 (.st (vB (termI s)))) [] := by
 refine pc_of tok Try.func41 rfl (by rfl) ?_
 obtain ⟨j, hj⟩ : ∃ j : J, j = std Try.prog T := ⟨_, rfl⟩
 have hm : Try.prog.follows .mixedOrders = true := by kernel_rfl
 generalize y_isLetI : @isLetI = x_isLetI at *
 generalize y_isMoreI : @isMoreI = x_isMoreI at *
 generalize y_termI : @termI = x_termI at *
 generalize y_spanI : @spanI = x_spanI at *
 generalize y_isSpelI : @isSpelI = x_isSpelI at *
 (repeat' first | ((first | with_reducible refine tr_cut (fun h => ?_) (fun h => ?_) | refine aw_condj (by cbv) (fun h => ?_) (fun h => ?_)) <;> (try simp (disch := omega) only [hj, std, cmpI, cmpB, satB, Bool.not_eq_true, Bool.not_eq_false, decide_eq_true_eq, decide_eq_false_iff_not, beq_iff_eq, bne_iff_ne, bne_eq_false_iff_eq, beq_eq_false_iff_ne, ne_eq, reduceCtorEq, not_true_eq_false, not_false_eq_true, pl0, if_true, cmpS_eq, cmpS_neq, Bool.not_eq_eq_eq_not, Bool.not_true, Bool.not_false, Bool.not_eq_true', add64, sub64] at h) <;> (try (exfalso; omega))) | (with_reducible refine tr_alt (fun h => ?_) ?_ <;> (try (exfalso; omega))) | (with_reducible first | refine tr_ob ?_ ?_ | refine tr_done ?_) | (refine aw_tr hj tok (book1 x_isLetI x_isMoreI) (by cbv) ?_) | (refine aw_seq fun K hK => ?_) | (refine aw_tr1 hj tok (book1 x_isLetI x_isMoreI) (by cbv) ?_) | (refine aw_skip ?_) | (refine aw_block ?_) | (refine aw_exit ?_) | (refine aw_ret ⟨.inr rfl, ret_okj hj (by cbv) ?_ ?_⟩) | (refine aw_ret ?_) | (with_reducible first | refine th_n ?_ | refine th_r ?_ | refine th_x ?_ | refine blk_n ?_ | refine blk_r ?_ | refine blk_x ?_ | refine blk_y rfl ?_) | (refine ⟨.inr rfl, ret_okj hj (by cbv) ?_ ?_⟩) | (refine ⟨.inl rfl, ret_okj hj (by cbv) ?_ ?_⟩) | (with_reducible first | refine ⟨(_, _, _, _, _, _, _, _, _), by cbv, ?_, ?_⟩ | refine ⟨(_, _, _, _, _, _, _, _), by cbv, ?_, ?_⟩ | refine ⟨(_, _, _, _, _, _, _), by cbv, ?_, ?_⟩ | refine ⟨(_, _, _, _, _, _), by cbv, ?_, ?_⟩ | refine ⟨(_, _, _, _, _), by cbv, ?_, ?_⟩ | refine ⟨(_, _, _, _), by cbv, ?_, ?_⟩ | refine ⟨(_, _, _), by cbv, ?_, ?_⟩ | refine ⟨(_, _), by cbv, ?_, ?_⟩ | refine ⟨_, by cbv, ?_, ?_⟩) | (with_reducible apply_assumption -symm -exfalso only [*]))
 all_goals ((try subst y_isLetI); (try subst y_isMoreI); (try subst y_termI); (try subst y_spanI); (try subst y_isSpelI))
 all_goals (try (repeat' first | with_reducible exact obl0 | (with_reducible refine obl1 ?_ ?_)))
 all_goals (try first | with_reducible exact True.intro | ((first | refine ob_le hj ?_ | refine ob_lei hj ?_ | refine ob_inb hj ?_ | refine ob_pos hj ?_ | refine ob_ne0 hj ?_ | refine ob_eqb hj ?_); (first | rfl | first | omega | (simp only [hj, std]; split <;> omega) | (simp (disch := omega) only [hj, std, cmpI, cmpB, satB, add64, sub64, ite0, pl0, pl2, pl3, sb0, if_true, if_false, eq_self] <;> omega) | (simp (disch := omega) [hj, std, cmpI, cmpB, satB, add64, sub64, ite0, pl0, pl2, pl3, sb0, if_true, if_false, eq_self] <;> omega))) | ((refine ret1_b (term_no1 ?_); omega)))
 refine aw_lpj hj [(0, .keep), (3, .keep)] [] (fun i : Int => stOf 40 [(0, .one (.c (vS s))), (3, .one (.c (vI i)))] []) (fun i => s.size - i.toNat) (fun i => 0 ≤ i ∧ i ≤ s.size ∧ spanI isSpelI s i = spanI isSpelI s 0) 0 (by generalize @isLetI = x_isLetI; generalize @isMoreI = x_isMoreI; generalize @termI = x_termI; generalize @spanI = x_spanI; generalize @isSpelI = x_isSpelI; cbv) ⟨by omega, by omega, rfl⟩ fun i ⟨i1, i2, i3⟩ => ?_
 generalize y_isLetI : @isLetI = x_isLetI at *
 generalize y_isMoreI : @isMoreI = x_isMoreI at *
 generalize y_termI : @termI = x_termI at *
 generalize y_spanI : @spanI = x_spanI at *
 generalize y_isSpelI : @isSpelI = x_isSpelI at *
 (repeat' first | ((first | with_reducible refine tr_cut (fun h => ?_) (fun h => ?_) | refine aw_condj (by cbv) (fun h => ?_) (fun h => ?_)) <;> (try simp (disch := omega) only [hj, std, cmpI, cmpB, satB, Bool.not_eq_true, Bool.not_eq_false, decide_eq_true_eq, decide_eq_false_iff_not, beq_iff_eq, bne_iff_ne, bne_eq_false_iff_eq, beq_eq_false_iff_ne, ne_eq, reduceCtorEq, not_true_eq_false, not_false_eq_true, pl0, if_true, cmpS_eq, cmpS_neq, Bool.not_eq_eq_eq_not, Bool.not_true, Bool.not_false, Bool.not_eq_true', add64, sub64] at h) <;> (try (exfalso; omega))) | (with_reducible refine tr_alt (fun h => ?_) ?_ <;> (try (exfalso; omega))) | (with_reducible first | refine tr_ob ?_ ?_ | refine tr_done ?_) | (refine aw_tr hj tok (book1 x_isLetI x_isMoreI) (by cbv) ?_) | (refine aw_seq fun K hK => ?_) | (refine aw_tr1 hj tok (book1 x_isLetI x_isMoreI) (by cbv) ?_) | (refine aw_skip ?_) | (refine aw_block ?_) | (refine aw_exit ?_) | (refine aw_ret ⟨.inr rfl, ret_okj hj (by cbv) ?_ ?_⟩) | (refine aw_ret ?_) | (with_reducible first | refine th_n ?_ | refine th_r ?_ | refine th_x ?_ | refine blk_n ?_ | refine blk_r ?_ | refine blk_x ?_ | refine blk_y rfl ?_) | (refine ⟨.inr rfl, ret_okj hj (by cbv) ?_ ?_⟩) | (refine ⟨.inl rfl, ret_okj hj (by cbv) ?_ ?_⟩) | (with_reducible first | refine ⟨(_, _, _, _, _, _, _, _, _), by cbv, ?_, ?_⟩ | refine ⟨(_, _, _, _, _, _, _, _), by cbv, ?_, ?_⟩ | refine ⟨(_, _, _, _, _, _, _), by cbv, ?_, ?_⟩ | refine ⟨(_, _, _, _, _, _), by cbv, ?_, ?_⟩ | refine ⟨(_, _, _, _, _), by cbv, ?_, ?_⟩ | refine ⟨(_, _, _, _), by cbv, ?_, ?_⟩ | refine ⟨(_, _, _), by cbv, ?_, ?_⟩ | refine ⟨(_, _), by cbv, ?_, ?_⟩ | refine ⟨_, by cbv, ?_, ?_⟩) | (with_reducible apply_assumption -symm -exfalso only [*]))
 all_goals ((try subst y_isLetI); (try subst y_isMoreI); (try subst y_termI); (try subst y_spanI); (try subst y_isSpelI))
 all_goals (try (repeat' first | with_reducible exact obl0 | with_reducible refine obl1 ?_ ?_))
 all_goals (try first | with_reducible exact True.intro | ((first | refine ob_le hj ?_ | refine ob_lei hj ?_ | refine ob_inb hj ?_ | refine ob_pos hj ?_ | refine ob_ne0 hj ?_ | refine ob_eqb hj ?_); (first | rfl | first | omega | (simp only [hj, std]; split <;> omega) | (simp (disch := omega) only [hj, std, cmpI, cmpB, satB, add64, sub64, ite0, pl0, pl2, pl3, sb0, if_true, if_false, eq_self] <;> omega) | (simp (disch := omega) [hj, std, cmpI, cmpB, satB, add64, sub64, ite0, pl0, pl2, pl3, sb0, if_true, if_false, eq_self] <;> omega))) | ((have hi := ‹i < (s.size : Int)›; refine ret1_b (term_no3 i1 hi i3 ?_); refine decide_eq_false ?_; omega)) | ((have hi := ‹¬ i < (s.size : Int)›; exact ret1_b (term_ok i1 hi i2 i3 (by omega) (by omega)))) | ((have hi := ‹i < (s.size : Int)›; simp (disch := omega) only [hj, std, add64]; first | omega | (have hm : isSpelI (bt s i.toNat) = true := decide_eq_true (by omega); exact ⟨by omega, by omega, (spanI_step i1 hi hm).trans i3⟩))))
theorem c_sized (s : ByteArray) : pc 54 [.v false [vS s]] (ret1 (.st (vB (sizedI s)))) := by
 refine ⟨enters Try.func54 (by kernel_rfl) (by kernel_rfl), pc_of tok Try.func54 rfl (by rfl) ?_⟩
 obtain ⟨j, hj⟩ : ∃ j : J, j = std Try.prog T := ⟨_, rfl⟩
 have hm : Try.prog.follows .mixedOrders = true := by kernel_rfl
 generalize y_sizedI : @sizedI = x_sizedI at *
 (repeat' first | ((first | with_reducible refine tr_cut (fun h => ?_) (fun h => ?_) | refine aw_condj (by cbv) (fun h => ?_) (fun h => ?_)) <;> (try simp (disch := omega) only [hj, std, cmpI, cmpB, satB, Bool.not_eq_true, Bool.not_eq_false, decide_eq_true_eq, decide_eq_false_iff_not, beq_iff_eq, bne_iff_ne, bne_eq_false_iff_eq, beq_eq_false_iff_ne, ne_eq, reduceCtorEq, not_true_eq_false, not_false_eq_true, pl0, if_true, cmpS_eq, cmpS_neq, Bool.not_eq_eq_eq_not, Bool.not_true, Bool.not_false, Bool.not_eq_true', add64, sub64] at h) <;> (try (exfalso; omega))) | (with_reducible refine tr_alt (fun h => ?_) ?_ <;> (try (exfalso; omega))) | (with_reducible first | refine tr_ob ?_ ?_ | refine tr_done ?_) | (refine aw_tr hj tok book0 (by cbv) ?_) | (refine aw_seq fun K hK => ?_) | (refine aw_tr1 hj tok book0 (by cbv) ?_) | (refine aw_skip ?_) | (refine aw_block ?_) | (refine aw_exit ?_) | (refine aw_ret ⟨.inr rfl, ret_okj hj (by cbv) ?_ ?_⟩) | (refine aw_ret ?_) | (with_reducible first | refine th_n ?_ | refine th_r ?_ | refine th_x ?_ | refine blk_n ?_ | refine blk_r ?_ | refine blk_x ?_ | refine blk_y rfl ?_) | (refine ⟨.inr rfl, ret_okj hj (by cbv) ?_ ?_⟩) | (refine ⟨.inl rfl, ret_okj hj (by cbv) ?_ ?_⟩) | (with_reducible apply_assumption -symm -exfalso only [*]))
 all_goals ((try subst y_sizedI))
 all_goals (try (repeat' first | with_reducible exact obl0 | with_reducible refine obl1 ?_ ?_))
 all_goals (try first | with_reducible exact True.intro | ((first | refine ob_le hj ?_ | refine ob_lei hj ?_ | refine ob_inb hj ?_ | refine ob_pos hj ?_ | refine ob_ne0 hj ?_ | refine ob_eqb hj ?_); (first | rfl | first | omega | (simp only [hj, std]; split <;> omega) | (simp (disch := omega) only [hj, std, cmpI, cmpB, satB, add64, sub64, ite0, pl0, pl2, pl3, sb0, if_true, if_false, eq_self] <;> omega) | (simp (disch := omega) [hj, std, cmpI, cmpB, satB, add64, sub64, ite0, pl0, pl2, pl3, sb0, if_true, if_false, eq_self] <;> omega))) | ((refine ret1_b ?_; simp only [hj, std, cmpI, sizedI]; rw [Bool.eq_iff_iff]; simp <;> omega)))
def book7 (x_sizedI : ByteArray → Bool) (x_isLetI : Int → Bool) (x_isMoreI : Int → Bool) (x_spanI : (Int → Bool) → ByteArray → Int → Int) (x_isSpelI : Int → Bool) : Book := fun f xs => match f, xs with
 | 54, [.v false [.val (.string s)]] => some (ret1 (.st (vB (x_sizedI s))))
 | 55, [.v false [.val (.int .u8 n)]] => some (ret1 (.st (vB (x_isLetI n))))
 | 56, [.v false [.val (.string s)], .fn 57] => some (ret1 (.st (vI (x_spanI x_isMoreI s 0))))
 | 56, [.v false [.val (.string s)], .fn 58] => some (ret1 (.st (vI (x_spanI x_isSpelI s 0))))
 | _, _ => none
theorem pc_IsName (s : ByteArray) (hs : s.size < 4611686018427387904) : PC Try.prog T 33 [.v false [vS s]] (ret1 (.st (vB (nameI s)))) [] := by
 refine pc_of tok Try.func33 rfl (by rfl) ?_
 obtain ⟨j, hj⟩ : ∃ j : J, j = std Try.prog T := ⟨_, rfl⟩
 have hm : Try.prog.follows .mixedOrders = true := by kernel_rfl
 generalize y_sizedI : @sizedI = x_sizedI at *
 generalize y_isLetI : @isLetI = x_isLetI at *
 generalize y_isMoreI : @isMoreI = x_isMoreI at *
 generalize y_spanI : @spanI = x_spanI at *
 generalize y_isSpelI : @isSpelI = x_isSpelI at *
 generalize y_nameI : @nameI = x_nameI at *
 (repeat' first | ((first | with_reducible refine tr_cut (fun h => ?_) (fun h => ?_) | refine aw_condj (by cbv) (fun h => ?_) (fun h => ?_)) <;> (try simp (disch := omega) only [hj, std, cmpI, cmpB, satB, Bool.not_eq_true, Bool.not_eq_false, decide_eq_true_eq, decide_eq_false_iff_not, beq_iff_eq, bne_iff_ne, bne_eq_false_iff_eq, beq_eq_false_iff_ne, ne_eq, reduceCtorEq, not_true_eq_false, not_false_eq_true, pl0, if_true, cmpS_eq, cmpS_neq, Bool.not_eq_eq_eq_not, Bool.not_true, Bool.not_false, Bool.not_eq_true', add64, sub64] at h) <;> (try (exfalso; omega))) | (with_reducible refine tr_alt (fun h => ?_) ?_ <;> (try (exfalso; omega))) | (with_reducible first | refine tr_ob ?_ ?_ | refine tr_done ?_) | (refine aw_tr hj tok (book7 x_sizedI x_isLetI x_isMoreI x_spanI x_isSpelI) (by cbv) ?_) | (refine aw_seq fun K hK => ?_) | (refine aw_tr1 hj tok (book7 x_sizedI x_isLetI x_isMoreI x_spanI x_isSpelI) (by cbv) ?_) | (refine aw_skip ?_) | (refine aw_block ?_) | (refine aw_exit ?_) | (refine aw_ret ⟨.inr rfl, ret_okj hj (by cbv) ?_ ?_⟩) | (refine aw_ret ?_) | (with_reducible first | refine th_n ?_ | refine th_r ?_ | refine th_x ?_ | refine blk_n ?_ | refine blk_r ?_ | refine blk_x ?_ | refine blk_y rfl ?_) | (refine ⟨.inr rfl, ret_okj hj (by cbv) ?_ ?_⟩) | (refine ⟨.inl rfl, ret_okj hj (by cbv) ?_ ?_⟩) | (with_reducible apply_assumption -symm -exfalso only [*]))
 all_goals ((try subst y_sizedI); (try subst y_isLetI); (try subst y_isMoreI); (try subst y_spanI); (try subst y_isSpelI); (try subst y_nameI))
 all_goals (try (have hz := of_decide_eq_true ‹sizedI s = true›))
 all_goals (try (repeat' first | with_reducible exact obl0 | with_reducible refine obl1 ?_ ?_))
 all_goals (try first | with_reducible exact True.intro | ((first | refine ob_pc hj ?_ | refine ob_pcn hj ?_); (try rw [hj]); first | exact c_sized _ | exact c_letter _ | exact c_run hs c_goes | exact c_run hs c_spells) | ((first | refine ob_le hj ?_ | refine ob_lei hj ?_ | refine ob_inb hj ?_ | refine ob_pos hj ?_ | refine ob_ne0 hj ?_ | refine ob_eqb hj ?_); (first | rfl | first | omega | (simp only [hj, std]; split <;> omega) | (simp (disch := omega) only [hj, std, cmpI, cmpB, satB, add64, sub64, ite0, pl0, pl2, pl3, sb0, if_true, if_false, eq_self] <;> omega) | (simp (disch := omega) [hj, std, cmpI, cmpB, satB, add64, sub64, ite0, pl0, pl2, pl3, sb0, if_true, if_false, eq_self] <;> omega))) | ((have hl := ‹sizedI s = false›; exact ret1_b (name_no1 (sized_no hl)))) | ((have hl := ‹isLetI _ = false›; exact ret1_b (name_no2 hl))) | ((have hl := ‹isLetI _ = true›; have h1 := ‹sizedI s = true›; rw [hj]; exact ret1_b (name_run h1 hl))))
theorem pc_IsTerm (s : ByteArray) (hs : s.size < 4611686018427387904) : PC Try.prog T 34 [.v false [vS s]] (ret1 (.st (vB (termI s)))) [] := by
 refine pc_of tok Try.func34 rfl (by rfl) ?_
 obtain ⟨j, hj⟩ : ∃ j : J, j = std Try.prog T := ⟨_, rfl⟩
 have hm : Try.prog.follows .mixedOrders = true := by kernel_rfl
 generalize y_sizedI : @sizedI = x_sizedI at *
 generalize y_isLetI : @isLetI = x_isLetI at *
 generalize y_isMoreI : @isMoreI = x_isMoreI at *
 generalize y_spanI : @spanI = x_spanI at *
 generalize y_isSpelI : @isSpelI = x_isSpelI at *
 generalize y_termI : @termI = x_termI at *
 (repeat' first | ((first | with_reducible refine tr_cut (fun h => ?_) (fun h => ?_) | refine aw_condj (by cbv) (fun h => ?_) (fun h => ?_)) <;> (try simp (disch := omega) only [hj, std, cmpI, cmpB, satB, Bool.not_eq_true, Bool.not_eq_false, decide_eq_true_eq, decide_eq_false_iff_not, beq_iff_eq, bne_iff_ne, bne_eq_false_iff_eq, beq_eq_false_iff_ne, ne_eq, reduceCtorEq, not_true_eq_false, not_false_eq_true, pl0, if_true, cmpS_eq, cmpS_neq, Bool.not_eq_eq_eq_not, Bool.not_true, Bool.not_false, Bool.not_eq_true', add64, sub64] at h) <;> (try (exfalso; omega))) | (with_reducible refine tr_alt (fun h => ?_) ?_ <;> (try (exfalso; omega))) | (with_reducible first | refine tr_ob ?_ ?_ | refine tr_done ?_) | (refine aw_tr hj tok (book7 x_sizedI x_isLetI x_isMoreI x_spanI x_isSpelI) (by cbv) ?_) | (refine aw_seq fun K hK => ?_) | (refine aw_tr1 hj tok (book7 x_sizedI x_isLetI x_isMoreI x_spanI x_isSpelI) (by cbv) ?_) | (refine aw_skip ?_) | (refine aw_block ?_) | (refine aw_exit ?_) | (refine aw_ret ⟨.inr rfl, ret_okj hj (by cbv) ?_ ?_⟩) | (refine aw_ret ?_) | (with_reducible first | refine th_n ?_ | refine th_r ?_ | refine th_x ?_ | refine blk_n ?_ | refine blk_r ?_ | refine blk_x ?_ | refine blk_y rfl ?_) | (refine ⟨.inr rfl, ret_okj hj (by cbv) ?_ ?_⟩) | (refine ⟨.inl rfl, ret_okj hj (by cbv) ?_ ?_⟩) | (with_reducible apply_assumption -symm -exfalso only [*]))
 all_goals ((try subst y_sizedI); (try subst y_isLetI); (try subst y_isMoreI); (try subst y_spanI); (try subst y_isSpelI); (try subst y_termI))
 all_goals (try (repeat' first | with_reducible exact obl0 | with_reducible refine obl1 ?_ ?_))
 all_goals (try first | with_reducible exact True.intro | ((first | refine ob_pc hj ?_ | refine ob_pcn hj ?_); (try rw [hj]); first | exact c_sized _ | exact c_letter _ | exact c_run hs c_goes | exact c_run hs c_spells) | ((first | refine ob_le hj ?_ | refine ob_lei hj ?_ | refine ob_inb hj ?_ | refine ob_pos hj ?_ | refine ob_ne0 hj ?_ | refine ob_eqb hj ?_); (first | rfl | first | omega | (simp only [hj, std]; split <;> omega) | (simp (disch := omega) only [hj, std, cmpI, cmpB, satB, add64, sub64, ite0, pl0, pl2, pl3, sb0, if_true, if_false, eq_self] <;> omega) | (simp (disch := omega) [hj, std, cmpI, cmpB, satB, add64, sub64, ite0, pl0, pl2, pl3, sb0, if_true, if_false, eq_self] <;> omega))) | ((have hl := ‹sizedI s = false›; exact ret1_b (term_no1 (sized_no hl)))) | ((have h1 := ‹sizedI s = true›; rw [hj]; exact ret1_b (term_run h1))))
theorem c_Name12 {s : ByteArray} (hs : s.size ≤ 1000000) : pc 39 [.v false [vS s]] (ret1 (.st (vB (nameI s)))) := ⟨enters Try.func39 (by kernel_rfl) (by kernel_rfl), pc_Name12 s (by omega)⟩
theorem c_Term12 {s : ByteArray} (hs : s.size ≤ 1000000) : pc 41 [.v false [vS s]] (ret1 (.st (vB (termI s)))) := ⟨enters Try.func41 (by kernel_rfl) (by kernel_rfl), pc_Term12 s (by omega)⟩
theorem c_IsName {s : ByteArray} (hs : s.size ≤ 1000000) : pc 33 [.v false [vS s]] (ret1 (.st (vB (nameI s)))) := ⟨enters Try.func33 (by kernel_rfl) (by kernel_rfl), pc_IsName s (by omega)⟩
theorem c_IsTerm {s : ByteArray} (hs : s.size ≤ 1000000) : pc 34 [.v false [vS s]] (ret1 (.st (vB (termI s)))) := ⟨enters Try.func34 (by kernel_rfl) (by kernel_rfl), pc_IsTerm s (by omega)⟩
end Go.Proofs.Ytgimfjmigoibgaa.A
/- Grammars: places in lists; lists alike; what the reference, layer 14, looks at. -/
set_option linter.unusedSimpArgs false
set_option linter.unusedVariables false
set_option maxRecDepth 100000
set_option maxHeartbeats 4000000
namespace Go.Proofs.Ytgimfjmigoibgaa.A
open Go
def sameI (l m : List Int) : Bool := decide (l = m)
theorem iAt_mem (l : List Int) (i : Int) (h0 : 0 ≤ i) (h : i < nI l) : iAt l i.toNat ∈ l := by
 have hn := nI_eq l
 exact getD_mem _ (by omega)
theorem ext_iAt {l m : List Int} (h : nI l = nI m) (k : ∀ n : Nat, n < nI l → iAt l n = iAt m n) : l = m := by
 have h1 := nI_eq l; have h2 := nI_eq m
 apply List.ext_getElem (by omega)
 intro i a b
 have := k i (by omega)
 rw [iAt, iAt, List.getD_eq_getElem?_getD, List.getD_eq_getElem?_getD, List.getElem?_eq_getElem a, List.getElem?_eq_getElem b] at this
 exact this
theorem sameI_yes {l m : List Int} (h : nI l = nI m) (k : ∀ n : Nat, n < nI l → iAt l n = iAt m n) : sameI l m = true := by unfold sameI; rw [decide_eq_true_eq]; exact ext_iAt h k
theorem sameI_no {l m : List Int} (h : nI l ≠ nI m ∨ ∃ n : Nat, iAt l n ≠ iAt m n) : sameI l m = false := by
 unfold sameI; rw [decide_eq_false_iff_not]; rintro rfl
 rcases h with h | ⟨n, h⟩
 ·exact h rfl
 ·exact h rfl
def fewG (ns ts : List ByteArray) (rs : List Rl) : Int := if nS ns ≤ 12 ∧ nS ts ≤ 12 ∧ nR rs ≤ 40 ∧ (∀ r ∈ rs, nI r.2 ≤ 20) ∧ (∀ s ∈ ns, s.size ≤ 40) ∧ ∀ s ∈ ts, s.size ≤ 40 then 1 else 0
theorem fewG_yes {ns ts : List ByteArray} {rs : List Rl} (h : ¬ fewG ns ts rs = 0) : nS ns ≤ 12 ∧ nS ts ≤ 12 ∧ nR rs ≤ 40 ∧ (∀ r ∈ rs, nI r.2 ≤ 20) ∧ (∀ s ∈ ns, s.size ≤ 40) ∧ ∀ s ∈ ts, s.size ≤ 40 := by
 unfold fewG at h
 split at h
 ·assumption
 ·exact absurd rfl h
theorem fewG_no1 {ns ts : List ByteArray} {rs : List Rl} (h : ¬ (nS ns ≤ 12 ∧ nS ts ≤ 12 ∧ nR rs ≤ 40)) : fewG ns ts rs = 0 := if_neg fun hh => h ⟨hh.1, hh.2.1, hh.2.2.1⟩
theorem rAt_mem (l : List Rl) (i : Int) (h0 : 0 ≤ i) (h : i < nR l) : rAt l i.toNat ∈ l := by
 have hn := nR_eq l
 exact getD_mem _ (by omega)
theorem mem_rAt {l : List Rl} {r : Rl} (h : r ∈ l) : ∃ n : Nat, n < nR l ∧ rAt l n = r := by
 obtain ⟨n, hn, rfl⟩ := List.mem_iff_getElem.1 h
 exact ⟨n, by rw [nR_eq]; exact hn, by rw [rAt, List.getD_eq_getElem?_getD, List.getElem?_eq_getElem hn]; rfl⟩
theorem mem_sAt {l : List ByteArray} {r : ByteArray} (h : r ∈ l) : ∃ n : Nat, n < nS l ∧ sAt l n = r := by
 obtain ⟨n, hn, rfl⟩ := List.mem_iff_getElem.1 h
 exact ⟨n, by rw [nS_eq]; exact hn, by rw [sAt, List.getD_eq_getElem?_getD, List.getElem?_eq_getElem hn]; rfl⟩
theorem mem_iAt {l : List Int} {r : Int} (h : r ∈ l) : ∃ n : Nat, n < nI l ∧ iAt l n = r := by
 obtain ⟨n, hn, rfl⟩ := List.mem_iff_getElem.1 h
 exact ⟨n, by rw [nI_eq]; exact hn, by rw [iAt, List.getD_eq_getElem?_getD, List.getElem?_eq_getElem hn]; rfl⟩
theorem fewG_no2 {ns ts : List ByteArray} {rs : List Rl} (i : Int) (h0 : 0 ≤ i) (hi : i < nR rs) (h : ¬ (nI (rAt rs i.toNat).2 : Int) ≤ 20) : fewG ns ts rs = 0 := if_neg fun hh => h (by have := hh.2.2.2.1 _ (rAt_mem rs i h0 hi); omega)
theorem fewG_no3 {ns ts : List ByteArray} {rs : List Rl} (i : Int) (h0 : 0 ≤ i) (hi : i < nS ns) (h : ¬ ((sAt ns i.toNat).size : Int) ≤ 40) : fewG ns ts rs = 0 := if_neg fun hh => h (by have := hh.2.2.2.2.1 _ (sAt_mem ns i h0 hi); omega)
theorem fewG_no4 {ns ts : List ByteArray} {rs : List Rl} (i : Int) (h0 : 0 ≤ i) (hi : i < nS ts) (h : ¬ ((sAt ts i.toNat).size : Int) ≤ 40) : fewG ns ts rs = 0 := if_neg fun hh => h (by have := hh.2.2.2.2.2 _ (sAt_mem ts i h0 hi); omega)
theorem fewG_ok {ns ts : List ByteArray} {rs : List Rl} (h1 : nS ns ≤ 12) (h2 : nS ts ≤ 12) (h3 : nR rs ≤ 40) (h4 : ∀ n : Nat, n < nR rs → nI (rAt rs n).2 ≤ 20) (h5 : ∀ n : Nat, n < nS ns → (sAt ns n).size ≤ 40) (h6 : ∀ n : Nat, n < nS ts → (sAt ts n).size ≤ 40) : fewG ns ts rs = 1 :=
 if_pos ⟨h1, h2, h3, fun r hr => by obtain ⟨n, hn, rfl⟩ := mem_rAt hr; exact h4 n hn, fun r hr => by obtain ⟨n, hn, rfl⟩ := mem_sAt hr; exact h5 n hn, fun r hr => by obtain ⟨n, hn, rfl⟩ := mem_sAt hr; exact h6 n hn⟩
theorem pc_Find (l : List ByteArray) (w : ByteArray) (hl : nS l < 4611686018427387904) : PC Try.prog T 40 [.v false [(C.sl (nS l) (sC l))], .v false [vS w]] (ret1 (.st (vI (idxS l w)))) [] := by
 refine pc_of tok Try.func40 rfl (by rfl) ?_
 obtain ⟨j, hj⟩ : ∃ j : J, j = std Try.prog T := ⟨_, rfl⟩
 have hm : Try.prog.follows .mixedOrders = true := by kernel_rfl
 generalize y_sC : @sC = x_sC at *
 generalize y_nS : @nS = x_nS at *
 generalize y_idxS : @idxS = x_idxS at *
 (repeat' first | ((first | with_reducible refine tr_cut (fun h => ?_) (fun h => ?_) | refine aw_condj (by cbv) (fun h => ?_) (fun h => ?_)) <;> (try simp (disch := omega) only [hj, std, cmpI, cmpB, satB, Bool.not_eq_true, Bool.not_eq_false, decide_eq_true_eq, decide_eq_false_iff_not, beq_iff_eq, bne_iff_ne, bne_eq_false_iff_eq, beq_eq_false_iff_ne, ne_eq, reduceCtorEq, not_true_eq_false, not_false_eq_true, pl0, if_true, cmpS_eq, cmpS_neq, Bool.not_eq_eq_eq_not, Bool.not_true, Bool.not_false, Bool.not_eq_true', add64, sub64] at h) <;> (try (exfalso; omega))) | (with_reducible refine tr_alt (fun h => ?_) ?_ <;> (try (exfalso; omega))) | (with_reducible first | refine tr_ob ?_ ?_ | refine tr_done ?_) | (refine aw_tr hj tok book0 (by cbv) ?_) | (refine aw_seq fun K hK => ?_) | (refine aw_tr1 hj tok book0 (by cbv) ?_) | (refine aw_skip ?_) | (refine aw_block ?_) | (refine aw_exit ?_) | (refine aw_ret ⟨.inr rfl, ret_okj hj (by cbv) ?_ ?_⟩) | (refine aw_ret ?_) | (with_reducible first | refine th_n ?_ | refine th_r ?_ | refine th_x ?_ | refine blk_n ?_ | refine blk_r ?_ | refine blk_x ?_ | refine blk_y rfl ?_) | (refine ⟨.inr rfl, ret_okj hj (by cbv) ?_ ?_⟩) | (refine ⟨.inl rfl, ret_okj hj (by cbv) ?_ ?_⟩) | (with_reducible refine ⟨_, by cbv, ?_, ?_⟩) | (with_reducible apply_assumption -symm -exfalso only [*]))
 all_goals ((try subst y_sC); (try subst y_nS); (try subst y_idxS))
 refine aw_lpj hj [(0, .keep), (1, .keep), (5, .keep)] [] (fun (i : Int) => stOf 19 [(0, .one (.c ((C.sl (nS l) (sC l))))), (1, .one (.c (vS w))), (5, .one (.c (vI i)))] []) (fun (i : Int) => nS l - i.toNat) (fun (i : Int) => 0 ≤ i ∧ i ≤ nS l ∧ idxS l w = idxGo w (l.drop i.toNat) i) (0) (by generalize @sC = x_sC; generalize @nS = x_nS; generalize @idxS = x_idxS; cbv) ?_ (fun i hI => ?_)
 ·exact ⟨by omega, by omega, rfl⟩
 obtain ⟨i1, i2, i3⟩ := hI
 generalize y_sC : @sC = x_sC at *
 generalize y_nS : @nS = x_nS at *
 generalize y_idxS : @idxS = x_idxS at *
 (repeat' first | ((first | with_reducible refine tr_cut (fun h => ?_) (fun h => ?_) | refine aw_condj (by cbv) (fun h => ?_) (fun h => ?_)) <;> (try simp (disch := omega) only [hj, std, cmpI, cmpB, satB, Bool.not_eq_true, Bool.not_eq_false, decide_eq_true_eq, decide_eq_false_iff_not, beq_iff_eq, bne_iff_ne, bne_eq_false_iff_eq, beq_eq_false_iff_ne, ne_eq, reduceCtorEq, not_true_eq_false, not_false_eq_true, pl0, if_true, cmpS_eq, cmpS_neq, Bool.not_eq_eq_eq_not, Bool.not_true, Bool.not_false, Bool.not_eq_true', gs_sC, add64, sub64] at h) <;> (try (exfalso; omega))) | (with_reducible refine tr_alt (fun h => ?_) ?_ <;> (try (exfalso; omega))) | (with_reducible first | refine tr_ob ?_ ?_ | refine tr_done ?_) | (refine aw_tr hj tok book0 (by cbv) ?_) | (refine aw_seq fun K hK => ?_) | (refine aw_tr1 hj tok book0 (by cbv) ?_) | (refine aw_skip ?_) | (refine aw_block ?_) | (refine aw_exit ?_) | (refine aw_ret ⟨.inr rfl, ret_okj hj (by cbv) ?_ ?_⟩) | (refine aw_ret ?_) | (with_reducible first | refine th_n ?_ | refine th_r ?_ | refine th_x ?_ | refine blk_n ?_ | refine blk_r ?_ | refine blk_x ?_ | refine blk_y rfl ?_) | (refine ⟨.inr rfl, ret_okj hj (by cbv) ?_ ?_⟩) | (refine ⟨.inl rfl, ret_okj hj (by cbv) ?_ ?_⟩) | (with_reducible refine ⟨_, by cbv, ?_, ?_⟩) | (with_reducible apply_assumption -symm -exfalso only [*]))
 all_goals ((try subst y_sC); (try subst y_nS); (try subst y_idxS))
 all_goals (have nl := nS_eq l)
 all_goals (try have q := ‹gs (cellAt (sC l) _) = w›)
 all_goals (try have q := ‹¬ gs (cellAt (sC l) _) = w›)
 all_goals (try rw [gs_sC] at q)
 all_goals (try (repeat' first | with_reducible exact obl0 | with_reducible refine obl1 ?_ ?_))
 all_goals (try first | with_reducible exact True.intro | ((first | refine ob_le hj ?_ | refine ob_lei hj ?_ | refine ob_inb hj ?_ | refine ob_pos hj ?_ | refine ob_ne0 hj ?_ | refine ob_eqb hj ?_); (first | rfl | first | omega | (simp only [hj, std]; split <;> omega) | (simp (disch := omega) only [hj, std, cmpI, cmpB, satB, add64, sub64, ite0, pl0, pl2, pl3, sb0, if_true, if_false, eq_self, sC_len] <;> omega) | (simp (disch := omega) [hj, std, cmpI, cmpB, satB, add64, sub64, ite0, pl0, pl2, pl3, sb0, if_true, if_false, eq_self, sC_len] <;> omega))) | ((refine ob_ok hj ?_; simp only [hj, std, ite0]; exact ok_sC (by omega))) | ((refine r1i ?_; rw [i3, drop_fin l i (by assumption)]; rfl)) | ((refine r1i ?_; rw [i3, drop_step l i i1 (by assumption), idxGo, if_pos q.symm])) | ((simp (disch := omega) only [hj, std, add64]; first | omega | (refine ⟨by omega, by omega, ?_⟩; rw [i3, drop_step l i i1 (by assumption), idxGo, if_neg (fun e => q e.symm)]))))
theorem pc_SameRight (l m : List Int) (hl : nI l < 4611686018427387904) (hm2 : nI m < 4611686018427387904) : PC Try.prog T 46 [.v false [(C.sl (nI l) (iC l))], .v false [(C.sl (nI m) (iC m))]] (ret1 (.st (vB (sameI l m)))) [] := by
 refine pc_of tok Try.func46 rfl (by rfl) ?_
 obtain ⟨j, hj⟩ : ∃ j : J, j = std Try.prog T := ⟨_, rfl⟩
 have hm : Try.prog.follows .mixedOrders = true := by kernel_rfl
 generalize y_sameI : @sameI = x_sameI at *
 generalize y_iC : @iC = x_iC at *
 generalize y_nI : @nI = x_nI at *
 (repeat' first | ((first | with_reducible refine tr_cut (fun h => ?_) (fun h => ?_) | refine aw_condj (by cbv) (fun h => ?_) (fun h => ?_)) <;> (try simp (disch := omega) only [hj, std, cmpI, cmpB, satB, Bool.not_eq_true, Bool.not_eq_false, decide_eq_true_eq, decide_eq_false_iff_not, beq_iff_eq, bne_iff_ne, bne_eq_false_iff_eq, beq_eq_false_iff_ne, ne_eq, reduceCtorEq, not_true_eq_false, not_false_eq_true, pl0, if_true, cmpS_eq, cmpS_neq, Bool.not_eq_eq_eq_not, Bool.not_true, Bool.not_false, Bool.not_eq_true', add64, sub64] at h) <;> (try (exfalso; omega))) | (with_reducible refine tr_alt (fun h => ?_) ?_ <;> (try (exfalso; omega))) | (with_reducible first | refine tr_ob ?_ ?_ | refine tr_done ?_) | (refine aw_tr hj tok book0 (by cbv) ?_) | (refine aw_seq fun K hK => ?_) | (refine aw_tr1 hj tok book0 (by cbv) ?_) | (refine aw_skip ?_) | (refine aw_block ?_) | (refine aw_exit ?_) | (refine aw_ret ⟨.inr rfl, ret_okj hj (by cbv) ?_ ?_⟩) | (refine aw_ret ?_) | (with_reducible first | refine th_n ?_ | refine th_r ?_ | refine th_x ?_ | refine blk_n ?_ | refine blk_r ?_ | refine blk_x ?_ | refine blk_y rfl ?_) | (refine ⟨.inr rfl, ret_okj hj (by cbv) ?_ ?_⟩) | (refine ⟨.inl rfl, ret_okj hj (by cbv) ?_ ?_⟩) | (with_reducible refine ⟨_, by cbv, ?_, ?_⟩) | (with_reducible apply_assumption -symm -exfalso only [*]))
 all_goals ((try subst y_sameI); (try subst y_iC); (try subst y_nI))
 all_goals (try (repeat' first | with_reducible exact obl0 | (with_reducible refine obl1 ?_ ?_)))
 all_goals (try first | with_reducible exact True.intro | ((first | refine ob_le hj ?_ | refine ob_lei hj ?_ | refine ob_inb hj ?_ | refine ob_pos hj ?_ | refine ob_ne0 hj ?_ | refine ob_eqb hj ?_); (first | rfl | first | omega | (simp only [hj, std]; split <;> omega) | (simp (disch := omega) only [hj, std, cmpI, cmpB, satB, add64, sub64, ite0, pl0, pl2, pl3, sb0, if_true, if_false, eq_self] <;> omega) | (simp (disch := omega) [hj, std, cmpI, cmpB, satB, add64, sub64, ite0, pl0, pl2, pl3, sb0, if_true, if_false, eq_self] <;> omega))) | ((refine r1b ?_; exact sameI_no (.inl (by omega)))))
 refine aw_lpj hj [(0, .keep), (1, .keep), (5, .keep)] [] (fun (i : Int) => stOf 26 [(0, .one (.c ((C.sl (nI l) (iC l))))), (1, .one (.c ((C.sl (nI m) (iC m))))), (5, .one (.c (vI i)))] []) (fun (i : Int) => nI l - i.toNat) (fun (i : Int) => 0 ≤ i ∧ i ≤ nI l ∧ ∀ n : Nat, (n : Int) < i → iAt l n = iAt m n) (0) (by generalize @sameI = x_sameI; generalize @iC = x_iC; generalize @nI = x_nI; cbv) ?_ (fun i hI => ?_)
 ·exact ⟨by omega, by omega, fun n h => by omega⟩
 obtain ⟨i1, i2, i3⟩ := hI
 generalize y_sameI : @sameI = x_sameI at *
 generalize y_iC : @iC = x_iC at *
 generalize y_nI : @nI = x_nI at *
 (repeat' first | ((first | with_reducible refine tr_cut (fun h => ?_) (fun h => ?_) | refine aw_condj (by cbv) (fun h => ?_) (fun h => ?_)) <;> (try simp (disch := omega) only [hj, std, cmpI, cmpB, satB, Bool.not_eq_true, Bool.not_eq_false, decide_eq_true_eq, decide_eq_false_iff_not, beq_iff_eq, bne_iff_ne, bne_eq_false_iff_eq, beq_eq_false_iff_ne, ne_eq, reduceCtorEq, not_true_eq_false, not_false_eq_true, pl0, if_true, cmpS_eq, cmpS_neq, Bool.not_eq_eq_eq_not, Bool.not_true, Bool.not_false, Bool.not_eq_true', gi_iC, add64, sub64] at h) <;> (try (exfalso; omega))) | (with_reducible refine tr_alt (fun h => ?_) ?_ <;> (try (exfalso; omega))) | (with_reducible first | refine tr_ob ?_ ?_ | refine tr_done ?_) | (refine aw_dr1 (id := 6) hj tok hm book0 true [(0, false), (1, false), (2, false), (3, false), (4, false), (5, true), (6, true), (7, true), (8, true)] (by kernel_rfl) (by cbv) ?_) | (refine aw_dr (id := 6) hj tok hm book0 true [(0, false), (1, false), (2, false), (3, false), (4, false), (5, true), (6, true), (7, true), (8, true)] (by kernel_rfl) (by cbv) ?_) | (refine aw_tr hj tok book0 (by cbv) ?_) | (refine aw_seq fun K hK => ?_) | (refine aw_tr1 hj tok book0 (by cbv) ?_) | (refine aw_skip ?_) | (refine aw_block ?_) | (refine aw_exit ?_) | (refine aw_ret ⟨.inr rfl, ret_okj hj (by cbv) ?_ ?_⟩) | (refine aw_ret ?_) | (with_reducible first | refine th_n ?_ | refine th_r ?_ | refine th_x ?_ | refine blk_n ?_ | refine blk_r ?_ | refine blk_x ?_ | refine blk_y rfl ?_) | (refine ⟨.inr rfl, ret_okj hj (by cbv) ?_ ?_⟩) | (refine ⟨.inl rfl, ret_okj hj (by cbv) ?_ ?_⟩) | (with_reducible refine ⟨_, by cbv, ?_, ?_⟩) | (with_reducible apply_assumption -symm -exfalso only [*]))
 all_goals ((try subst y_sameI); (try subst y_iC); (try subst y_nI))
 all_goals (have nl := nI_eq l; have nm := nI_eq m)
 all_goals (try have q := ‹gi (cellAt (iC l) _) = _›)
 all_goals (try have q := ‹¬ gi (cellAt (iC l) _) = _›)
 all_goals (try rw [gi_iC, gi_iC] at q)
 all_goals (try (repeat' first | with_reducible exact obl0 | with_reducible refine obl1 ?_ ?_))
 all_goals (try first | with_reducible exact True.intro | ((first | refine ob_le hj ?_ | refine ob_lei hj ?_ | refine ob_inb hj ?_ | refine ob_pos hj ?_ | refine ob_ne0 hj ?_ | refine ob_eqb hj ?_); (first | rfl | first | omega | (simp only [hj, std]; split <;> omega) | (simp (disch := omega) only [hj, std, cmpI, cmpB, satB, add64, sub64, ite0, pl0, pl2, pl3, sb0, if_true, if_false, eq_self, iC_len] <;> omega) | (simp (disch := omega) [hj, std, cmpI, cmpB, satB, add64, sub64, ite0, pl0, pl2, pl3, sb0, if_true, if_false, eq_self, iC_len] <;> omega))) | ((refine ob_ok hj ?_; simp only [hj, std, ite0]; exact ok_iC (by omega))) | ((refine r1b ?_; exact sameI_no (.inr ⟨_, q⟩))) | ((refine r1b ?_; exact sameI_yes (by omega) fun n hn => i3 n (by omega))) | ((simp (disch := omega) only [hj, std, add64]; first | omega | (refine ⟨by omega, by omega, fun n hn => ?_⟩; by_cases e : (n : Int) < i; exact i3 n e; obtain rfl : n = i.toNat := (by omega); exact q))))
theorem pc_EqualI (l m : List Int) (hl : nI l < 4611686018427387904) (hm2 : nI m < 4611686018427387904) : PC Try.prog T 66 [.v false [(C.sl (nI l) (iC l))], .v false [(C.sl (nI m) (iC m))]] (ret1 (.st (vB (sameI l m)))) [] := by
 refine pc_of tok Try.func66 rfl (by rfl) ?_
 obtain ⟨j, hj⟩ : ∃ j : J, j = std Try.prog T := ⟨_, rfl⟩
 have hm : Try.prog.follows .mixedOrders = true := by kernel_rfl
 generalize y_sameI : @sameI = x_sameI at *
 generalize y_iC : @iC = x_iC at *
 generalize y_nI : @nI = x_nI at *
 (repeat' first | ((first | with_reducible refine tr_cut (fun h => ?_) (fun h => ?_) | refine aw_condj (by cbv) (fun h => ?_) (fun h => ?_)) <;> (try simp (disch := omega) only [hj, std, cmpI, cmpB, satB, Bool.not_eq_true, Bool.not_eq_false, decide_eq_true_eq, decide_eq_false_iff_not, beq_iff_eq, bne_iff_ne, bne_eq_false_iff_eq, beq_eq_false_iff_ne, ne_eq, reduceCtorEq, not_true_eq_false, not_false_eq_true, pl0, if_true, cmpS_eq, cmpS_neq, Bool.not_eq_eq_eq_not, Bool.not_true, Bool.not_false, Bool.not_eq_true', add64, sub64] at h) <;> (try (exfalso; omega))) | (with_reducible refine tr_alt (fun h => ?_) ?_ <;> (try (exfalso; omega))) | (with_reducible first | refine tr_ob ?_ ?_ | refine tr_done ?_) | (refine aw_tr hj tok book0 (by cbv) ?_) | (refine aw_seq fun K hK => ?_) | (refine aw_tr1 hj tok book0 (by cbv) ?_) | (refine aw_skip ?_) | (refine aw_block ?_) | (refine aw_exit ?_) | (refine aw_ret ⟨.inr rfl, ret_okj hj (by cbv) ?_ ?_⟩) | (refine aw_ret ?_) | (with_reducible first | refine th_n ?_ | refine th_r ?_ | refine th_x ?_ | refine blk_n ?_ | refine blk_r ?_ | refine blk_x ?_ | refine blk_y rfl ?_) | (refine ⟨.inr rfl, ret_okj hj (by cbv) ?_ ?_⟩) | (refine ⟨.inl rfl, ret_okj hj (by cbv) ?_ ?_⟩) | (with_reducible refine ⟨_, by cbv, ?_, ?_⟩) | (with_reducible apply_assumption -symm -exfalso only [*]))
 all_goals ((try subst y_sameI); (try subst y_iC); (try subst y_nI))
 all_goals (try (repeat' first | with_reducible exact obl0 | (with_reducible refine obl1 ?_ ?_)))
 all_goals (try first | with_reducible exact True.intro | ((first | refine ob_le hj ?_ | refine ob_lei hj ?_ | refine ob_inb hj ?_ | refine ob_pos hj ?_ | refine ob_ne0 hj ?_ | refine ob_eqb hj ?_); (first | rfl | first | omega | (simp only [hj, std]; split <;> omega) | (simp (disch := omega) only [hj, std, cmpI, cmpB, satB, add64, sub64, ite0, pl0, pl2, pl3, sb0, if_true, if_false, eq_self] <;> omega) | (simp (disch := omega) [hj, std, cmpI, cmpB, satB, add64, sub64, ite0, pl0, pl2, pl3, sb0, if_true, if_false, eq_self] <;> omega))) | ((refine r1b ?_; exact sameI_no (.inl (by omega)))))
 refine aw_lpj hj [(0, .keep), (1, .keep), (12, .keep), (13, .keep)] [] (fun (i : Int) => stOf 26 [(0, .one (.c ((C.sl (nI l) (iC l))))), (1, .one (.c ((C.sl (nI m) (iC m))))), (12, .one (.c (vI (j.ofNat (nI l))))), (13, .one (.c (vI i)))] []) (fun (i : Int) => nI l - i.toNat) (fun (i : Int) => 0 ≤ i ∧ i ≤ nI l ∧ ∀ n : Nat, (n : Int) < i → iAt l n = iAt m n) (0) (by generalize @sameI = x_sameI; generalize @iC = x_iC; generalize @nI = x_nI; cbv) ?_ (fun i hI => ?_)
 ·exact ⟨by omega, by omega, fun n h => by omega⟩
 obtain ⟨i1, i2, i3⟩ := hI
 generalize y_sameI : @sameI = x_sameI at *
 generalize y_iC : @iC = x_iC at *
 generalize y_nI : @nI = x_nI at *
 (repeat' first | ((first | with_reducible refine tr_cut (fun h => ?_) (fun h => ?_) | refine aw_condj (by cbv) (fun h => ?_) (fun h => ?_)) <;> (try simp (disch := omega) only [hj, std, cmpI, cmpB, satB, Bool.not_eq_true, Bool.not_eq_false, decide_eq_true_eq, decide_eq_false_iff_not, beq_iff_eq, bne_iff_ne, bne_eq_false_iff_eq, beq_eq_false_iff_ne, ne_eq, reduceCtorEq, not_true_eq_false, not_false_eq_true, pl0, if_true, cmpS_eq, cmpS_neq, Bool.not_eq_eq_eq_not, Bool.not_true, Bool.not_false, Bool.not_eq_true', gi_iC, add64, sub64] at h) <;> (try (exfalso; omega))) | (with_reducible refine tr_alt (fun h => ?_) ?_ <;> (try (exfalso; omega))) | (with_reducible first | refine tr_ob ?_ ?_ | refine tr_done ?_) | (refine aw_dr1 (id := 6) hj tok hm book0 true [(0, false), (1, false), (2, false), (3, false), (4, false), (5, true), (6, true), (7, true), (8, true)] (by kernel_rfl) (by cbv) ?_) | (refine aw_dr (id := 6) hj tok hm book0 true [(0, false), (1, false), (2, false), (3, false), (4, false), (5, true), (6, true), (7, true), (8, true)] (by kernel_rfl) (by cbv) ?_) | (refine aw_tr hj tok book0 (by cbv) ?_) | (refine aw_seq fun K hK => ?_) | (refine aw_tr1 hj tok book0 (by cbv) ?_) | (refine aw_skip ?_) | (refine aw_block ?_) | (refine aw_exit ?_) | (refine aw_ret ⟨.inr rfl, ret_okj hj (by cbv) ?_ ?_⟩) | (refine aw_ret ?_) | (with_reducible first | refine th_n ?_ | refine th_r ?_ | refine th_x ?_ | refine blk_n ?_ | refine blk_r ?_ | refine blk_x ?_ | refine blk_y rfl ?_) | (refine ⟨.inr rfl, ret_okj hj (by cbv) ?_ ?_⟩) | (refine ⟨.inl rfl, ret_okj hj (by cbv) ?_ ?_⟩) | (with_reducible refine ⟨_, by cbv, ?_, ?_⟩) | (with_reducible apply_assumption -symm -exfalso only [*]))
 all_goals ((try subst y_sameI); (try subst y_iC); (try subst y_nI))
 all_goals (have nl := nI_eq l; have nm := nI_eq m)
 all_goals (try have q := ‹gi (cellAt (iC l) _) = _›)
 all_goals (try have q := ‹¬ gi (cellAt (iC l) _) = _›)
 all_goals (try rw [gi_iC, gi_iC] at q)
 all_goals (try (repeat' first | with_reducible exact obl0 | with_reducible refine obl1 ?_ ?_))
 all_goals (try first | with_reducible exact True.intro | ((first | refine ob_le hj ?_ | refine ob_lei hj ?_ | refine ob_inb hj ?_ | refine ob_pos hj ?_ | refine ob_ne0 hj ?_ | refine ob_eqb hj ?_); (first | rfl | first | omega | (simp only [hj, std]; split <;> omega) | (simp (disch := omega) only [hj, std, cmpI, cmpB, satB, add64, sub64, ite0, pl0, pl2, pl3, sb0, if_true, if_false, eq_self, iC_len] <;> omega) | (simp (disch := omega) [hj, std, cmpI, cmpB, satB, add64, sub64, ite0, pl0, pl2, pl3, sb0, if_true, if_false, eq_self, iC_len] <;> omega))) | ((refine ob_ok hj ?_; simp only [hj, std, ite0]; exact ok_iC (by omega))) | ((refine r1b ?_; exact sameI_no (.inr ⟨_, q⟩))) | ((refine r1b ?_; exact sameI_yes (by omega) fun n hn => i3 n (by omega))) | ((simp (disch := omega) only [hj, std, add64]; first | omega | (refine ⟨by omega, by omega, fun n hn => ?_⟩; by_cases e : (n : Int) < i; exact i3 n e; obtain rfl : n = i.toNat := (by omega); exact q))))
theorem pc_Few (ns ts : List ByteArray) (rs : List Rl) (h1 : nS ns < 4611686018427387904) (h2 : nS ts < 4611686018427387904) (h3 : nR rs < 2305843009213693952) (h4 : ∀ r ∈ rs, nI r.2 < 4611686018427387904) (h5 : ∀ s ∈ ns, s.size < 4611686018427387904) (h6 : ∀ s ∈ ts, s.size < 4611686018427387904) :
  PC Try.prog T 17 [.v true [(C.sl (nS ns) (sC ns)), (C.sl (nS ts) (sC ts)), (C.sl (nR rs) (rC rs))]] (ret1 (.st (vI (fewG ns ts rs)))) [] := by
 refine pc_of tok Try.func17 rfl (by rfl) ?_
 obtain ⟨j, hj⟩ : ∃ j : J, j = std Try.prog T := ⟨_, rfl⟩
 have hm : Try.prog.follows .mixedOrders = true := by kernel_rfl
 have nn := nS_eq ns; have nt := nS_eq ts; have nr := nR_eq rs
 generalize y_rC : @rC = x_rC at *
 generalize y_nR : @nR = x_nR at *
 generalize y_fewG : @fewG = x_fewG at *
 generalize y_sC : @sC = x_sC at *
 generalize y_nS : @nS = x_nS at *
 generalize y_nI : @nI = x_nI at *
 (repeat' first | ((first | with_reducible refine tr_cut (fun h => ?_) (fun h => ?_) | refine aw_condj (by cbv) (fun h => ?_) (fun h => ?_)) <;> (try simp (disch := omega) only [hj, std, cmpI, cmpB, satB, Bool.not_eq_true, Bool.not_eq_false, decide_eq_true_eq, decide_eq_false_iff_not, beq_iff_eq, bne_iff_ne, bne_eq_false_iff_eq, beq_eq_false_iff_ne, ne_eq, reduceCtorEq, not_true_eq_false, not_false_eq_true, pl0, if_true, cmpS_eq, cmpS_neq, Bool.not_eq_eq_eq_not, Bool.not_true, Bool.not_false, Bool.not_eq_true', add64, sub64] at h) <;> (try (exfalso; omega))) | (with_reducible refine tr_alt (fun h => ?_) ?_ <;> (try (exfalso; omega))) | (with_reducible first | refine tr_ob ?_ ?_ | refine tr_done ?_) | (refine aw_tr hj tok book0 (by cbv) ?_) | (refine aw_seq fun K hK => ?_) | (refine aw_tr1 hj tok book0 (by cbv) ?_) | (refine aw_skip ?_) | (refine aw_block ?_) | (refine aw_exit ?_) | (refine aw_ret ⟨.inr rfl, ret_okj hj (by cbv) ?_ ?_⟩) | (refine aw_ret ?_) | (with_reducible first | refine th_n ?_ | refine th_r ?_ | refine th_x ?_ | refine blk_n ?_ | refine blk_r ?_ | refine blk_x ?_ | refine blk_y rfl ?_) | (refine ⟨.inr rfl, ret_okj hj (by cbv) ?_ ?_⟩) | (refine ⟨.inl rfl, ret_okj hj (by cbv) ?_ ?_⟩) | (with_reducible refine ⟨_, by cbv, ?_, ?_⟩) | (with_reducible apply_assumption -symm -exfalso only [*]))
 all_goals ((try subst y_rC); (try subst y_nR); (try subst y_fewG); (try subst y_sC); (try subst y_nS); (try subst y_nI))
 all_goals (try (repeat' first | with_reducible exact obl0 | (with_reducible refine obl1 ?_ ?_)))
 all_goals (try first | with_reducible exact True.intro | ((first | refine ob_le hj ?_ | refine ob_lei hj ?_ | refine ob_inb hj ?_ | refine ob_pos hj ?_ | refine ob_ne0 hj ?_ | refine ob_eqb hj ?_); (first | rfl | first | omega | (simp only [hj, std]; split <;> omega) | (simp (disch := omega) only [hj, std, cmpI, cmpB, satB, add64, sub64, ite0, pl0, pl2, pl3, sb0, if_true, if_false, eq_self] <;> omega) | (simp (disch := omega) [hj, std, cmpI, cmpB, satB, add64, sub64, ite0, pl0, pl2, pl3, sb0, if_true, if_false, eq_self] <;> omega))) | ((refine r1i ?_; exact fewG_no1 (by omega))))
 refine aw_lpj hj [(1, .keep), (3, .keep)] [1] (fun (i : Int) => stOf 65 [(1, .one (.ptr 1 0)), (3, .one (.c (vI i)))] [(1, .box [.st ((C.sl (nS ns) (sC ns))), .st ((C.sl (nS ts) (sC ts))), .st ((C.sl (nR rs) (rC rs)))])]) (fun (i : Int) => nR rs - i.toNat) (fun (i : Int) => 0 ≤ i ∧ i ≤ nR rs ∧ ∀ n : Nat, (n : Int) < i → nI (rAt rs n).2 ≤ 20) (0) (by generalize @rC = x_rC; generalize @nR = x_nR; generalize @fewG = x_fewG; generalize @sC = x_sC; generalize @nS = x_nS; generalize @nI = x_nI; cbv) ?_ (fun i hI => ?_)
 ·exact ⟨by omega, by omega, fun n h => by omega⟩
 obtain ⟨i1, i2, i3⟩ := hI
 generalize y_rC : @rC = x_rC at *
 generalize y_nR : @nR = x_nR at *
 generalize y_fewG : @fewG = x_fewG at *
 generalize y_sC : @sC = x_sC at *
 generalize y_nS : @nS = x_nS at *
 generalize y_nI : @nI = x_nI at *
 (repeat' first | ((first | with_reducible refine tr_cut (fun h => ?_) (fun h => ?_) | refine aw_condj (by cbv) (fun h => ?_) (fun h => ?_)) <;> (try simp (disch := omega) only [hj, std, cmpI, cmpB, satB, Bool.not_eq_true, Bool.not_eq_false, decide_eq_true_eq, decide_eq_false_iff_not, beq_iff_eq, bne_iff_ne, bne_eq_false_iff_eq, beq_eq_false_iff_ne, ne_eq, reduceCtorEq, not_true_eq_false, not_false_eq_true, pl0, if_true, cmpS_eq, cmpS_neq, Bool.not_eq_eq_eq_not, Bool.not_true, Bool.not_false, Bool.not_eq_true', gn_rC, add64, sub64] at h) <;> (try (exfalso; omega))) | (with_reducible refine tr_alt (fun h => ?_) ?_ <;> (try (exfalso; omega))) | (with_reducible first | refine tr_ob ?_ ?_ | refine tr_done ?_) | (refine aw_tr hj tok book0 (by cbv) ?_) | (refine aw_seq fun K hK => ?_) | (refine aw_tr1 hj tok book0 (by cbv) ?_) | (refine aw_skip ?_) | (refine aw_block ?_) | (refine aw_exit ?_) | (refine aw_ret ⟨.inr rfl, ret_okj hj (by cbv) ?_ ?_⟩) | (refine aw_ret ?_) | (with_reducible first | refine th_n ?_ | refine th_r ?_ | refine th_x ?_ | refine blk_n ?_ | refine blk_r ?_ | refine blk_x ?_ | refine blk_y rfl ?_) | (refine ⟨.inr rfl, ret_okj hj (by cbv) ?_ ?_⟩) | (refine ⟨.inl rfl, ret_okj hj (by cbv) ?_ ?_⟩) | (with_reducible refine ⟨_, by cbv, ?_, ?_⟩) | (with_reducible apply_assumption -symm -exfalso only [*]))
 all_goals ((try subst y_rC); (try subst y_nR); (try subst y_fewG); (try subst y_sC); (try subst y_nS); (try subst y_nI))
 all_goals (try have q := ‹(gn (cellAt (rC rs) _) : Int) > 20›)
 all_goals (try have q := ‹¬ (gn (cellAt (rC rs) _) : Int) > 20›)
 all_goals (try simp only [ite0, gn_rC] at q)
 all_goals (try (repeat' first | with_reducible exact obl0 | (with_reducible refine obl1 ?_ ?_)))
 all_goals (try first | with_reducible exact True.intro | ((first | refine ob_le hj ?_ | refine ob_lei hj ?_ | refine ob_inb hj ?_ | refine ob_pos hj ?_ | refine ob_ne0 hj ?_ | refine ob_eqb hj ?_); (first | rfl | first | omega | (simp only [hj, std]; split <;> omega) | (simp (disch := omega) only [hj, std, cmpI, cmpB, satB, add64, sub64, ite0, pl0, pl2, pl3, sb0, if_true, if_false, eq_self, rC_len] <;> omega) | (simp (disch := omega) [hj, std, cmpI, cmpB, satB, add64, sub64, ite0, pl0, pl2, pl3, sb0, if_true, if_false, eq_self, rC_len] <;> omega))) | ((refine ob_ok hj ?_; simp only [hj, std, ite0]; exact ok_rC1 (by omega))) | ((refine r1i ?_; exact fewG_no2 i i1 (by assumption) (by omega))) | ((simp (disch := omega) only [hj, std, add64]; first | omega | (refine ⟨by omega, by omega, fun n hn => ?_⟩; by_cases e : (n : Int) < i; exact i3 n e; obtain rfl : n = i.toNat := (by omega); omega))))
 refine aw_lpj hj [(1, .keep), (4, .keep)] [1] (fun (k : Int) => stOf 65 [(1, .one (.ptr 1 0)), (4, .one (.c (vI k)))] [(1, .box [.st ((C.sl (nS ns) (sC ns))), .st ((C.sl (nS ts) (sC ts))), .st ((C.sl (nR rs) (rC rs)))])]) (fun (k : Int) => nS ns - k.toNat) (fun (k : Int) => 0 ≤ k ∧ k ≤ nS ns ∧ ∀ n : Nat, (n : Int) < k → (sAt ns n).size ≤ 40) (0) (by generalize @rC = x_rC; generalize @nR = x_nR; generalize @fewG = x_fewG; generalize @sC = x_sC; generalize @nS = x_nS; generalize @nI = x_nI; cbv) ?_ (fun k hI => ?_)
 ·exact ⟨by omega, by omega, fun n h => by omega⟩
 obtain ⟨k1, k2, k3⟩ := hI
 generalize y_rC : @rC = x_rC at *
 generalize y_nR : @nR = x_nR at *
 generalize y_fewG : @fewG = x_fewG at *
 generalize y_sC : @sC = x_sC at *
 generalize y_nS : @nS = x_nS at *
 generalize y_nI : @nI = x_nI at *
 (repeat' first | ((first | with_reducible refine tr_cut (fun h => ?_) (fun h => ?_) | refine aw_condj (by cbv) (fun h => ?_) (fun h => ?_)) <;> (try simp (disch := omega) only [hj, std, cmpI, cmpB, satB, Bool.not_eq_true, Bool.not_eq_false, decide_eq_true_eq, decide_eq_false_iff_not, beq_iff_eq, bne_iff_ne, bne_eq_false_iff_eq, beq_eq_false_iff_ne, ne_eq, reduceCtorEq, not_true_eq_false, not_false_eq_true, pl0, if_true, cmpS_eq, cmpS_neq, Bool.not_eq_eq_eq_not, Bool.not_true, Bool.not_false, Bool.not_eq_true', gs_sC, add64, sub64] at h) <;> (try (exfalso; omega))) | (with_reducible refine tr_alt (fun h => ?_) ?_ <;> (try (exfalso; omega))) | (with_reducible first | refine tr_ob ?_ ?_ | refine tr_done ?_) | (refine aw_tr hj tok book0 (by cbv) ?_) | (refine aw_seq fun K hK => ?_) | (refine aw_tr1 hj tok book0 (by cbv) ?_) | (refine aw_skip ?_) | (refine aw_block ?_) | (refine aw_exit ?_) | (refine aw_ret ⟨.inr rfl, ret_okj hj (by cbv) ?_ ?_⟩) | (refine aw_ret ?_) | (with_reducible first | refine th_n ?_ | refine th_r ?_ | refine th_x ?_ | refine blk_n ?_ | refine blk_r ?_ | refine blk_x ?_ | refine blk_y rfl ?_) | (refine ⟨.inr rfl, ret_okj hj (by cbv) ?_ ?_⟩) | (refine ⟨.inl rfl, ret_okj hj (by cbv) ?_ ?_⟩) | (with_reducible refine ⟨_, by cbv, ?_, ?_⟩) | (with_reducible apply_assumption -symm -exfalso only [*]))
 all_goals ((try subst y_rC); (try subst y_nR); (try subst y_fewG); (try subst y_sC); (try subst y_nS); (try subst y_nI))
 all_goals (try have q := ‹((gs (cellAt (sC ns) _)).size : Int) > 40›)
 all_goals (try have q := ‹¬ ((gs (cellAt (sC ns) _)).size : Int) > 40›)
 all_goals (try simp only [ite0, gs_sC] at q)
 all_goals (try (repeat' first | with_reducible exact obl0 | (with_reducible refine obl1 ?_ ?_)))
 all_goals (try first | with_reducible exact True.intro | ((first | refine ob_le hj ?_ | refine ob_lei hj ?_ | refine ob_inb hj ?_ | refine ob_pos hj ?_ | refine ob_ne0 hj ?_ | refine ob_eqb hj ?_); (first | rfl | first | omega | (simp only [hj, std]; split <;> omega) | (simp (disch := omega) only [hj, std, cmpI, cmpB, satB, add64, sub64, ite0, pl0, pl2, pl3, sb0, if_true, if_false, eq_self, sC_len] <;> omega) | (simp (disch := omega) [hj, std, cmpI, cmpB, satB, add64, sub64, ite0, pl0, pl2, pl3, sb0, if_true, if_false, eq_self, sC_len] <;> omega))) | ((refine ob_ok hj ?_; simp only [hj, std, ite0]; exact ok_sC (by omega))) | ((refine r1i ?_; exact fewG_no3 k k1 (by assumption) (by omega))) | ((simp (disch := omega) only [hj, std, add64]; first | omega | (refine ⟨by omega, by omega, fun n hn => ?_⟩; by_cases e : (n : Int) < k; exact k3 n e; obtain rfl : n = k.toNat := (by omega); omega))))
 refine aw_lpj hj [(1, .keep), (5, .keep)] [1] (fun (m : Int) => stOf 65 [(1, .one (.ptr 1 0)), (5, .one (.c (vI m)))] [(1, .box [.st ((C.sl (nS ns) (sC ns))), .st ((C.sl (nS ts) (sC ts))), .st ((C.sl (nR rs) (rC rs)))])]) (fun (m : Int) => nS ts - m.toNat) (fun (m : Int) => 0 ≤ m ∧ m ≤ nS ts ∧ ∀ n : Nat, (n : Int) < m → (sAt ts n).size ≤ 40) (0) (by generalize @rC = x_rC; generalize @nR = x_nR; generalize @fewG = x_fewG; generalize @sC = x_sC; generalize @nS = x_nS; generalize @nI = x_nI; cbv) ?_ (fun m hI => ?_)
 ·exact ⟨by omega, by omega, fun n h => by omega⟩
 obtain ⟨m1, m2, m3⟩ := hI
 generalize y_rC : @rC = x_rC at *
 generalize y_nR : @nR = x_nR at *
 generalize y_fewG : @fewG = x_fewG at *
 generalize y_sC : @sC = x_sC at *
 generalize y_nS : @nS = x_nS at *
 generalize y_nI : @nI = x_nI at *
 (repeat' first | ((first | with_reducible refine tr_cut (fun h => ?_) (fun h => ?_) | refine aw_condj (by cbv) (fun h => ?_) (fun h => ?_)) <;> (try simp (disch := omega) only [hj, std, cmpI, cmpB, satB, Bool.not_eq_true, Bool.not_eq_false, decide_eq_true_eq, decide_eq_false_iff_not, beq_iff_eq, bne_iff_ne, bne_eq_false_iff_eq, beq_eq_false_iff_ne, ne_eq, reduceCtorEq, not_true_eq_false, not_false_eq_true, pl0, if_true, cmpS_eq, cmpS_neq, Bool.not_eq_eq_eq_not, Bool.not_true, Bool.not_false, Bool.not_eq_true', gs_sC, add64, sub64] at h) <;> (try (exfalso; omega))) | (with_reducible refine tr_alt (fun h => ?_) ?_ <;> (try (exfalso; omega))) | (with_reducible first | refine tr_ob ?_ ?_ | refine tr_done ?_) | (refine aw_tr hj tok book0 (by cbv) ?_) | (refine aw_seq fun K hK => ?_) | (refine aw_tr1 hj tok book0 (by cbv) ?_) | (refine aw_skip ?_) | (refine aw_block ?_) | (refine aw_exit ?_) | (refine aw_ret ⟨.inr rfl, ret_okj hj (by cbv) ?_ ?_⟩) | (refine aw_ret ?_) | (with_reducible first | refine th_n ?_ | refine th_r ?_ | refine th_x ?_ | refine blk_n ?_ | refine blk_r ?_ | refine blk_x ?_ | refine blk_y rfl ?_) | (refine ⟨.inr rfl, ret_okj hj (by cbv) ?_ ?_⟩) | (refine ⟨.inl rfl, ret_okj hj (by cbv) ?_ ?_⟩) | (with_reducible refine ⟨_, by cbv, ?_, ?_⟩) | (with_reducible apply_assumption -symm -exfalso only [*]))
 all_goals ((try subst y_rC); (try subst y_nR); (try subst y_fewG); (try subst y_sC); (try subst y_nS); (try subst y_nI))
 all_goals (try have q := ‹((gs (cellAt (sC ts) _)).size : Int) > 40›)
 all_goals (try have q := ‹¬ ((gs (cellAt (sC ts) _)).size : Int) > 40›)
 all_goals (try simp only [ite0, gs_sC] at q)
 all_goals (try (repeat' first | with_reducible exact obl0 | with_reducible refine obl1 ?_ ?_))
 all_goals (try first | with_reducible exact True.intro | ((first | refine ob_le hj ?_ | refine ob_lei hj ?_ | refine ob_inb hj ?_ | refine ob_pos hj ?_ | refine ob_ne0 hj ?_ | refine ob_eqb hj ?_); (first | rfl | first | omega | (simp only [hj, std]; split <;> omega) | (simp (disch := omega) only [hj, std, cmpI, cmpB, satB, add64, sub64, ite0, pl0, pl2, pl3, sb0, if_true, if_false, eq_self, sC_len] <;> omega) | (simp (disch := omega) [hj, std, cmpI, cmpB, satB, add64, sub64, ite0, pl0, pl2, pl3, sb0, if_true, if_false, eq_self, sC_len] <;> omega))) | ((refine ob_ok hj ?_; simp only [hj, std, ite0]; exact ok_sC (by omega))) | ((refine r1i ?_; exact fewG_no4 m m1 (by assumption) (by omega))) | ((refine r1i ?_; exact fewG_ok (by omega) (by omega) (by omega) (fun n hn => i3 n (by omega)) (fun n hn => k3 n (by omega)) (fun n hn => m3 n (by omega)))) | ((simp (disch := omega) only [hj, std, add64]; first | omega | (refine ⟨by omega, by omega, fun n hn => ?_⟩; by_cases e : (n : Int) < m; exact m3 n e; obtain rfl : n = m.toNat := (by omega); omega))))
end Go.Proofs.Ytgimfjmigoibgaa.A
/- Grammars: rules that are alike; texts that are; a nonterminal's rules. -/
set_option linter.unusedSimpArgs false
set_option linter.unusedVariables false
set_option maxRecDepth 100000
set_option maxHeartbeats 4000000
namespace Go.Proofs.Ytgimfjmigoibgaa.A
open Go
abbrev intT : TypeId := 3
def dupR (l : List Rl) : Bool := decide (¬ l.Nodup)
theorem rAt_get {l : List Rl} {n : Nat} (h : n < l.length) : rAt l n = l[n] := by rw [rAt, List.getD_eq_getElem?_getD, List.getElem?_eq_getElem h]; rfl
theorem dupR_yes {l : List Rl} {i k : Nat} (hk : k < i) (hi : i < nR l) (h1 : (rAt l i).1 = (rAt l k).1) (h2 : (rAt l i).2 = (rAt l k).2) : dupR l = true := by
 have hn := nR_eq l
 unfold dupR; rw [decide_eq_true_eq]
 intro hd
 have h := List.pairwise_iff_getElem.1 hd k i (by omega) (by omega) hk
 rw [rAt_get (by omega), rAt_get (by omega)] at h1 h2
 exact h (Prod.ext h1.symm h2.symm)
theorem dupR_no {l : List Rl} (h : ∀ i : Nat, i < nR l → ∀ k : Nat, k < i → rAt l i ≠ rAt l k) : dupR l = false := by
 have hn := nR_eq l
 unfold dupR; rw [decide_eq_false_iff_not, Decidable.not_not]
 refine List.pairwise_iff_getElem.2 fun k i hk hi hki e => ?_
 refine h i (by omega) k hki ?_
 rw [rAt_get hi, rAt_get hk]; exact e.symm
theorem sameI_iff {l m : List Int} : sameI l m = true ↔ l = m := by unfold sameI; simp
theorem sameI_iff_not {l m : List Int} : sameI l m = false ↔ ¬ l = m := by unfold sameI; simp
def bookGs (x_intsOf : List C → List Int) (x_sameI : List Int → List Int → Bool) : Book := fun f xs => match f, xs with
 | 46, [.v false [.sl _ cs], .v false [.sl _ ds]] => some (ret1 (.st (vB (x_sameI (x_intsOf cs) (x_intsOf ds)))))
 | 66, [.v false [.sl _ cs], .v false [.sl _ ds]] => some (ret1 (.st (vB (x_sameI (x_intsOf cs) (x_intsOf ds)))))
 | _, _ => none
theorem c_SameR {a b : List Int} {n m : Nat} {cs ds : List C} (h1 : n = nI a) (h2 : cs = iC a) (h3 : m = nI b) (h4 : ds = iC b) (ha : nI a < 4611686018427387904) (hb : nI b < 4611686018427387904) : pc 46 [.v false [.sl n cs], .v false [.sl m ds]] (ret1 (.st (vB (sameI (intsOf cs) (intsOf ds))))) := by
 subst h1; subst h2; subst h3; subst h4
 rw [intsOf_iC, intsOf_iC]
 exact ⟨enters Try.func46 (by kernel_rfl) (by kernel_rfl), pc_SameRight a b ha hb⟩
theorem c_EqI {a b : List Int} {n m : Nat} {cs ds : List C} (h1 : n = nI a) (h2 : cs = iC a) (h3 : m = nI b) (h4 : ds = iC b) (ha : nI a < 4611686018427387904) (hb : nI b < 4611686018427387904) : pc 66 [.v false [.sl n cs], .v false [.sl m ds]] (ret1 (.st (vB (sameI (intsOf cs) (intsOf ds))))) := by
 subst h1; subst h2; subst h3; subst h4
 rw [intsOf_iC, intsOf_iC]
 exact ⟨enters Try.func66 (by kernel_rfl) (by kernel_rfl), pc_EqualI a b ha hb⟩
theorem gnR (l : List Rl) (k : Nat) : gn (cellAt (rC l) (if k * 2 = 0 then 1 else k * 2 + 1)) = nI (rAt l k).2 := by rw [ite0]; exact gn_rC l k
theorem gcR (l : List Rl) (k : Nat) : gc (cellAt (rC l) (if k * 2 = 0 then 1 else k * 2 + 1)) = iC (rAt l k).2 := by rw [ite0]; exact gc_rC l k
theorem pc_twice14 (l : List Rl) (hl : nR l < 2305843009213693952) (hr : ∀ r ∈ l, nI r.2 < 4611686018427387904) : PC Try.prog T 42 [.v false [(C.sl (nR l) (rC l))]] (ret1 (.st (vB (dupR l)))) [] := by
 refine pc_of tok Try.func42 rfl (by rfl) ?_
 obtain ⟨j, hj⟩ : ∃ j : J, j = std Try.prog T := ⟨_, rfl⟩
 have hm : Try.prog.follows .mixedOrders = true := by kernel_rfl
 have nr := nR_eq l
 generalize y_intsOf : @intsOf = x_intsOf at *
 generalize y_sameI : @sameI = x_sameI at *
 generalize y_rC : @rC = x_rC at *
 generalize y_nR : @nR = x_nR at *
 generalize y_dupR : @dupR = x_dupR at *
 generalize y_nI : @nI = x_nI at *
 (repeat' first | ((first | with_reducible refine tr_cut (fun h => ?_) (fun h => ?_) | refine aw_condj (by cbv) (fun h => ?_) (fun h => ?_)) <;> (try simp (disch := omega) only [hj, std, cmpI, cmpB, satB, Bool.not_eq_true, Bool.not_eq_false, decide_eq_true_eq, decide_eq_false_iff_not, beq_iff_eq, bne_iff_ne, bne_eq_false_iff_eq, beq_eq_false_iff_ne, ne_eq, reduceCtorEq, not_true_eq_false, not_false_eq_true, pl0, if_true, cmpS_eq, cmpS_neq, Bool.not_eq_eq_eq_not, Bool.not_true, Bool.not_false, Bool.not_eq_true', add64, sub64] at h) <;> (try (exfalso; omega))) | (with_reducible refine tr_alt (fun h => ?_) ?_ <;> (try (exfalso; omega))) | (with_reducible first | refine tr_ob ?_ ?_ | refine tr_done ?_) | (refine aw_tr hj tok (bookGs x_intsOf x_sameI) (by cbv) ?_) | (refine aw_seq fun K hK => ?_) | (refine aw_tr1 hj tok (bookGs x_intsOf x_sameI) (by cbv) ?_) | (refine aw_skip ?_) | (refine aw_block ?_) | (refine aw_exit ?_) | (refine aw_ret ⟨.inr rfl, ret_okj hj (by cbv) ?_ ?_⟩) | (refine aw_ret ?_) | (with_reducible first | refine th_n ?_ | refine th_r ?_ | refine th_x ?_ | refine blk_n ?_ | refine blk_r ?_ | refine blk_x ?_ | refine blk_y rfl ?_) | (refine ⟨.inr rfl, ret_okj hj (by cbv) ?_ ?_⟩) | (refine ⟨.inl rfl, ret_okj hj (by cbv) ?_ ?_⟩) | (with_reducible refine ⟨_, by cbv, ?_, ?_⟩) | (with_reducible apply_assumption -symm -exfalso only [*]))
 all_goals ((try subst y_intsOf); (try subst y_sameI); (try subst y_rC); (try subst y_nR); (try subst y_dupR); (try subst y_nI))
 refine aw_lpj hj [(0, .keep), (3, .keep)] [] (fun (i : Int) => stOf 40 [(0, .one (.c ((C.sl (nR l) (rC l))))), (3, .one (.c (vI i)))] []) (fun (i : Int) => nR l - i.toNat) (fun (i : Int) => 0 ≤ i ∧ i ≤ nR l ∧ ∀ n : Nat, (n : Int) < i → ∀ k : Nat, k < n → rAt l n ≠ rAt l k) (0) (by generalize @intsOf = x_intsOf; generalize @sameI = x_sameI; generalize @rC = x_rC; generalize @nR = x_nR; generalize @dupR = x_dupR; generalize @nI = x_nI; cbv) ?_ (fun i hI => ?_)
 ·exact ⟨by omega, by omega, fun n h => by omega⟩
 obtain ⟨i1, i2, i3⟩ := hI
 generalize y_intsOf : @intsOf = x_intsOf at *
 generalize y_sameI : @sameI = x_sameI at *
 generalize y_rC : @rC = x_rC at *
 generalize y_nR : @nR = x_nR at *
 generalize y_dupR : @dupR = x_dupR at *
 generalize y_nI : @nI = x_nI at *
 (repeat' first | ((first | with_reducible refine tr_cut (fun h => ?_) (fun h => ?_) | refine aw_condj (by cbv) (fun h => ?_) (fun h => ?_)) <;> (try simp (disch := omega) only [hj, std, cmpI, cmpB, satB, Bool.not_eq_true, Bool.not_eq_false, decide_eq_true_eq, decide_eq_false_iff_not, beq_iff_eq, bne_iff_ne, bne_eq_false_iff_eq, beq_eq_false_iff_ne, ne_eq, reduceCtorEq, not_true_eq_false, not_false_eq_true, pl0, if_true, cmpS_eq, cmpS_neq, Bool.not_eq_eq_eq_not, Bool.not_true, Bool.not_false, Bool.not_eq_true', add64, sub64] at h) <;> (try (exfalso; omega))) | (with_reducible refine tr_alt (fun h => ?_) ?_ <;> (try (exfalso; omega))) | (with_reducible first | refine tr_ob ?_ ?_ | refine tr_done ?_) | (refine aw_tr hj tok (bookGs x_intsOf x_sameI) (by cbv) ?_) | (refine aw_seq fun K hK => ?_) | (refine aw_tr1 hj tok (bookGs x_intsOf x_sameI) (by cbv) ?_) | (refine aw_skip ?_) | (refine aw_block ?_) | (refine aw_exit ?_) | (refine aw_ret ⟨.inr rfl, ret_okj hj (by cbv) ?_ ?_⟩) | (refine aw_ret ?_) | (with_reducible first | refine th_n ?_ | refine th_r ?_ | refine th_x ?_ | refine blk_n ?_ | refine blk_r ?_ | refine blk_x ?_ | refine blk_y rfl ?_) | (refine ⟨.inr rfl, ret_okj hj (by cbv) ?_ ?_⟩) | (refine ⟨.inl rfl, ret_okj hj (by cbv) ?_ ?_⟩) | (with_reducible refine ⟨_, by cbv, ?_, ?_⟩) | (with_reducible apply_assumption -symm -exfalso only [*]))
 all_goals ((try subst y_intsOf); (try subst y_sameI); (try subst y_rC); (try subst y_nR); (try subst y_dupR); (try subst y_nI))
 all_goals (try (repeat' first | with_reducible exact obl0 | (with_reducible refine obl1 ?_ ?_)))
 all_goals (try first | with_reducible exact True.intro | ((first | refine ob_le hj ?_ | refine ob_lei hj ?_ | refine ob_inb hj ?_ | refine ob_pos hj ?_ | refine ob_ne0 hj ?_ | refine ob_eqb hj ?_); (first | rfl | first | omega | (simp only [hj, std]; split <;> omega) | (simp (disch := omega) only [hj, std, cmpI, cmpB, satB, add64, sub64, ite0, pl0, pl2, pl3, sb0, if_true, if_false, eq_self] <;> omega) | (simp (disch := omega) [hj, std, cmpI, cmpB, satB, add64, sub64, ite0, pl0, pl2, pl3, sb0, if_true, if_false, eq_self] <;> omega))) | ((refine r1b ?_; exact dupR_no fun n hn => i3 n (by omega))))
 refine aw_lpj hj [(0, .keep), (3, .keep), (4, .keep)] [] (fun (k : Int) => stOf 40 [(0, .one (.c ((C.sl (nR l) (rC l))))), (3, .one (.c (vI i))), (4, .one (.c (vI k)))] []) (fun (k : Int) => i.toNat - k.toNat) (fun (k : Int) => 0 ≤ k ∧ k ≤ i ∧ ∀ n : Nat, (n : Int) < k → rAt l i.toNat ≠ rAt l n) (0) (by generalize @intsOf = x_intsOf; generalize @sameI = x_sameI; generalize @rC = x_rC; generalize @nR = x_nR; generalize @dupR = x_dupR; generalize @nI = x_nI; cbv) ?_ (fun k hI => ?_)
 ·exact ⟨by omega, by omega, fun n h => by omega⟩
 obtain ⟨k1, k2, k3⟩ := hI
 have hil : i < nR l := by assumption
 generalize y_intsOf : @intsOf = x_intsOf at *
 generalize y_sameI : @sameI = x_sameI at *
 generalize y_rC : @rC = x_rC at *
 generalize y_nR : @nR = x_nR at *
 generalize y_dupR : @dupR = x_dupR at *
 generalize y_nI : @nI = x_nI at *
 (repeat' first | ((first | with_reducible refine tr_cut (fun h => ?_) (fun h => ?_) | refine aw_condj (by cbv) (fun h => ?_) (fun h => ?_)) <;> (try simp (disch := omega) only [hj, std, cmpI, cmpB, satB, Bool.not_eq_true, Bool.not_eq_false, decide_eq_true_eq, decide_eq_false_iff_not, beq_iff_eq, bne_iff_ne, bne_eq_false_iff_eq, beq_eq_false_iff_ne, ne_eq, reduceCtorEq, not_true_eq_false, not_false_eq_true, pl0, if_true, cmpS_eq, cmpS_neq, Bool.not_eq_eq_eq_not, Bool.not_true, Bool.not_false, Bool.not_eq_true', ite0, add64, sub64] at h) <;> (try (exfalso; omega))) | (with_reducible refine tr_alt (fun h => ?_) ?_ <;> (try (exfalso; omega))) | (with_reducible first | refine tr_ob ?_ ?_ | refine tr_done ?_) | (refine aw_dr1 (id := 7) hj tok hm (bookGs x_intsOf x_sameI) true [(0, false), (1, false), (2, false), (3, false), (4, false), (5, false), (6, true), (7, true), (8, true), (9, true), (10, true), (11, true), (12, false), (13, false), (14, false), (15, false), (16, false), (17, false), (18, true), (19, true), (20, true), (21, true), (22, true), (23, true)] (by kernel_rfl) (by cbv) ?_) | (refine aw_dr (id := 7) hj tok hm (bookGs x_intsOf x_sameI) true [(0, false), (1, false), (2, false), (3, false), (4, false), (5, false), (6, true), (7, true), (8, true), (9, true), (10, true), (11, true), (12, false), (13, false), (14, false), (15, false), (16, false), (17, false), (18, true), (19, true), (20, true), (21, true), (22, true), (23, true)] (by kernel_rfl) (by cbv) ?_) | (refine aw_tr hj tok (bookGs x_intsOf x_sameI) (by cbv) ?_) | (refine aw_seq fun K hK => ?_) | (refine aw_tr1 hj tok (bookGs x_intsOf x_sameI) (by cbv) ?_) | (refine aw_skip ?_) | (refine aw_block ?_) | (refine aw_exit ?_) | (refine aw_ret ⟨.inr rfl, ret_okj hj (by cbv) ?_ ?_⟩) | (refine aw_ret ?_) | (with_reducible first | refine th_n ?_ | refine th_r ?_ | refine th_x ?_ | refine blk_n ?_ | refine blk_r ?_ | refine blk_x ?_ | refine blk_y rfl ?_) | (refine ⟨.inr rfl, ret_okj hj (by cbv) ?_ ?_⟩) | (refine ⟨.inl rfl, ret_okj hj (by cbv) ?_ ?_⟩) | (with_reducible refine ⟨_, by cbv, ?_, ?_⟩) | (with_reducible apply_assumption -symm -exfalso only [*]))
 all_goals ((try subst y_intsOf); (try subst y_sameI); (try subst y_rC); (try subst y_nR); (try subst y_dupR); (try subst y_nI))
 all_goals (try have q := ‹gi (cellAt (rC l) _) = _›)
 all_goals (try have q := ‹¬ gi (cellAt (rC l) _) = _›)
 all_goals (try rw [gi_rC, gi_rC] at q)
 all_goals (try have p := ‹sameI _ _ = true›)
 all_goals (try have p := ‹sameI _ _ = false›)
 all_goals (try simp only [ite0, gcR, gc_rC, intsOf_iC, sameI_iff, sameI_iff_not] at p)
 all_goals (try (repeat' first | with_reducible exact obl0 | with_reducible refine obl1 ?_ ?_))
 all_goals (try first | with_reducible exact True.intro | ((first | refine ob_pc hj ?_ | refine ob_pcn hj ?_); (try rw [hj]); first | exact c_SameR (a := (rAt l i.toNat).2) (b := (rAt l k.toNat).2) (gnR _ _) (gcR _ _) (gnR _ _) (gcR _ _) (hr _ (rAt_mem l i (by omega) (by omega))) (hr _ (rAt_mem l k (by omega) (by omega)))) | ((first | refine ob_le hj ?_ | refine ob_lei hj ?_ | refine ob_inb hj ?_ | refine ob_pos hj ?_ | refine ob_ne0 hj ?_ | refine ob_eqb hj ?_); (first | rfl | first | omega | (simp only [hj, std]; split <;> omega) | (simp (disch := omega) only [hj, std, cmpI, cmpB, satB, add64, sub64, ite0, pl0, pl2, pl3, sb0, if_true, if_false, eq_self, rC_len] <;> omega) | (simp (disch := omega) [hj, std, cmpI, cmpB, satB, add64, sub64, ite0, pl0, pl2, pl3, sb0, if_true, if_false, eq_self, rC_len] <;> omega))) | ((refine ob_ok hj ?_; simp only [hj, std, ite0]; first | exact ok_rC1 (by omega) | exact ok_rC0 (by omega))) | ((refine r1b ?_; exact dupR_yes (i := i.toNat) (k := k.toNat) (by omega) (by omega) q p)) | ((simp (disch := omega) only [hj, std, add64]; first | omega | (refine ⟨by omega, by omega, fun n hn => ?_⟩; by_cases e : (n : Int) < k; exact k3 n e; obtain rfl : n = k.toNat := (by omega); intro ee; first | exact q (congrArg Prod.fst ee) | exact p (congrArg Prod.snd ee)) | (refine ⟨by omega, by omega, fun n hn => ?_⟩; by_cases e : (n : Int) < i; exact i3 n e; obtain rfl : n = i.toNat := (by omega); exact fun m hm => k3 m (by omega)))))
end Go.Proofs.Ytgimfjmigoibgaa.A
