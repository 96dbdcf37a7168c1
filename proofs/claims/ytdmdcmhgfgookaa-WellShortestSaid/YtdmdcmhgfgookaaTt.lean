/- The table of types. Written by wip/tools/tt.py. -/
import Derived.Test.YtdmdcmhgfgookaaProg
import Derived.Test.YtdmdcmhgfgookaaAm26
namespace Go.Proofs.Ytdmdcmhgfgookaa.A
open Go
def ti1 : TI := { desc := (Go.TypeDesc.func #[] #[] false), size := 1, bytes := 8, zero := .nilFunc, cells := [.raw] }
def ti2 : TI := { desc := (Go.TypeDesc.int Go.IntKind.i64), size := 1, bytes := 8, zero := .int .i64 0, cells := [.int .i64] }
def ti3 : TI := { desc := (Go.TypeDesc.int Go.IntKind.i64), size := 1, bytes := 8, zero := .int .i64 0, cells := [.int .i64] }
def ti4 : TI := { desc := Go.TypeDesc.bool, size := 1, bytes := 1, zero := .bool false, cells := [.bool] }
def ti5 : TI := { desc := (Go.TypeDesc.int Go.IntKind.u8), size := 1, bytes := 1, zero := .int .u8 0, cells := [.int .u8] }
def ti6 : TI := { desc := (Go.TypeDesc.int Go.IntKind.u8), size := 1, bytes := 1, zero := .int .u8 0, cells := [.int .u8] }
def ti7 : TI := { desc := (Go.TypeDesc.struct #[{ name := "x", type := 2, offset := 0, embedded := false, tag := "", pkgPath := "runtime", byteOffset := 0 }, { name := "y", type := 3, offset := 1, embedded := false, tag := "", pkgPath := "runtime", byteOffset := 8 }, { name := "signed", type := 4, offset := 2, embedded := false, tag := "", pkgPath := "runtime", byteOffset := 16 }, { name := "code", type := 6, offset := 3, embedded := false, tag := "", pkgPath := "runtime", byteOffset := 17 }]), size := 4, bytes := 24, zero := .agg #[.int .i64 0, .int .i64 0, .bool false, .int .u8 0], cells := [.int .i64, .int .i64, .bool, .int .u8] }
def ti8 : TI := { desc := (Go.TypeDesc.struct #[{ name := "x", type := 2, offset := 0, embedded := false, tag := "", pkgPath := "runtime", byteOffset := 0 }, { name := "y", type := 3, offset := 1, embedded := false, tag := "", pkgPath := "runtime", byteOffset := 8 }, { name := "signed", type := 4, offset := 2, embedded := false, tag := "", pkgPath := "runtime", byteOffset := 16 }, { name := "code", type := 6, offset := 3, embedded := false, tag := "", pkgPath := "runtime", byteOffset := 17 }]), size := 4, bytes := 24, zero := .agg #[.int .i64 0, .int .i64 0, .bool false, .int .u8 0], cells := [.int .i64, .int .i64, .bool, .int .u8] }
def ti9 : TI := { desc := Go.TypeDesc.string, size := 1, bytes := 16, zero := .string ByteArray.empty, cells := [.str] }
def ti10 : TI := { desc := Go.TypeDesc.string, size := 1, bytes := 16, zero := .string ByteArray.empty, cells := [.str] }
def ti11 : TI := { desc := Go.TypeDesc.string, size := 1, bytes := 16, zero := .string ByteArray.empty, cells := [.str] }
def ti12 : TI := { desc := (Go.TypeDesc.int Go.IntKind.u64), size := 1, bytes := 8, zero := .int .u64 0, cells := [.int .u64] }
def ti13 : TI := { desc := (Go.TypeDesc.struct #[{ name := "msg", type := 9, offset := 0, embedded := false, tag := "", pkgPath := "runtime", byteOffset := 0 }, { name := "addr", type := 12, offset := 1, embedded := false, tag := "", pkgPath := "runtime", byteOffset := 16 }]), size := 2, bytes := 24, zero := .agg #[.string ByteArray.empty, .int .u64 0], cells := [.str, .int .u64] }
def ti14 : TI := { desc := (Go.TypeDesc.struct #[{ name := "msg", type := 9, offset := 0, embedded := false, tag := "", pkgPath := "runtime", byteOffset := 0 }, { name := "addr", type := 12, offset := 1, embedded := false, tag := "", pkgPath := "runtime", byteOffset := 16 }]), size := 2, bytes := 24, zero := .agg #[.string ByteArray.empty, .int .u64 0], cells := [.str, .int .u64] }
def ti15 : TI := { desc := (Go.TypeDesc.pointer 172), size := 1, bytes := 8, zero := .pointer none, cells := [.raw] }
def ti16 : TI := { desc := (Go.TypeDesc.pointer 175), size := 1, bytes := 8, zero := .pointer none, cells := [.raw] }
def ti17 : TI := { desc := (Go.TypeDesc.pointer 183), size := 1, bytes := 8, zero := .pointer none, cells := [.raw] }
def ti18 : TI := { desc := (Go.TypeDesc.struct #[{ name := "typ", type := 17, offset := 0, embedded := false, tag := "", pkgPath := "internal/runtime/maps", byteOffset := 0 }]), size := 1, bytes := 8, zero := .agg #[.pointer none], cells := [.raw] }
def ti19 : TI := { desc := (Go.TypeDesc.struct #[{ name := "typ", type := 17, offset := 0, embedded := false, tag := "", pkgPath := "internal/runtime/maps", byteOffset := 0 }]), size := 1, bytes := 8, zero := .agg #[.pointer none], cells := [.raw] }
def ti20 : TI := { desc := (Go.TypeDesc.interface #[]), size := 1, bytes := 16, zero := .nilIface, cells := [.raw] }
def ti21 : TI := { desc := (Go.TypeDesc.int Go.IntKind.i32), size := 1, bytes := 4, zero := .int .i32 0, cells := [.int .i32] }
def ti22 : TI := { desc := (Go.TypeDesc.slice 9), size := 1, bytes := 24, zero := .slice none 0 0, cells := [.sl] }
def ti23 : TI := { desc := (Go.TypeDesc.slice 40), size := 1, bytes := 24, zero := .slice none 0 0, cells := [.sl] }
def ti24 : TI := { desc := (Go.TypeDesc.struct #[{ name := "Names", type := 22, offset := 0, embedded := false, tag := "", pkgPath := "", byteOffset := 0 }, { name := "Terms", type := 22, offset := 1, embedded := false, tag := "", pkgPath := "", byteOffset := 24 }, { name := "Rules", type := 23, offset := 2, embedded := false, tag := "", pkgPath := "", byteOffset := 48 }]), size := 3, bytes := 72, zero := .agg #[.slice none 0 0, .slice none 0 0, .slice none 0 0], cells := [.sl, .sl, .sl] }
def ti25 : TI := { desc := (Go.TypeDesc.struct #[{ name := "Names", type := 22, offset := 0, embedded := false, tag := "", pkgPath := "", byteOffset := 0 }, { name := "Terms", type := 22, offset := 1, embedded := false, tag := "", pkgPath := "", byteOffset := 24 }, { name := "Rules", type := 23, offset := 2, embedded := false, tag := "", pkgPath := "", byteOffset := 48 }]), size := 3, bytes := 72, zero := .agg #[.slice none 0 0, .slice none 0 0, .slice none 0 0], cells := [.sl, .sl, .sl] }
def ti26 : TI := { desc := (Go.TypeDesc.func #[25] #[3] false), size := 1, bytes := 8, zero := .nilFunc, cells := [.raw] }
def ti27 : TI := { desc := (Go.TypeDesc.func #[] #[4] false), size := 1, bytes := 8, zero := .nilFunc, cells := [.raw] }
def ti28 : TI := { desc := (Go.TypeDesc.int Go.IntKind.i64), size := 1, bytes := 8, zero := .int .i64 0, cells := [.int .i64] }
def ti29 : TI := { desc := (Go.TypeDesc.func #[25] #[28] false), size := 1, bytes := 8, zero := .nilFunc, cells := [.raw] }
def ti30 : TI := { desc := (Go.TypeDesc.func #[25] #[4] false), size := 1, bytes := 8, zero := .nilFunc, cells := [.raw] }
def ti31 : TI := { desc := (Go.TypeDesc.slice 4), size := 1, bytes := 24, zero := .slice none 0 0, cells := [.sl], kids := [.sl 4 [.st]] }
def ti32 : TI := { desc := (Go.TypeDesc.func #[25] #[31] false), size := 1, bytes := 8, zero := .nilFunc, cells := [.raw] }
def ti33 : TI := { desc := (Go.TypeDesc.slice 3), size := 1, bytes := 24, zero := .slice none 0 0, cells := [.sl] }
def ti34 : TI := { desc := (Go.TypeDesc.func #[25] #[33] false), size := 1, bytes := 8, zero := .nilFunc, cells := [.raw] }
def ti35 : TI := { desc := (Go.TypeDesc.func #[31, 31] #[4] false), size := 1, bytes := 8, zero := .nilFunc, cells := [.raw] }
def ti36 : TI := { desc := (Go.TypeDesc.slice 31), size := 1, bytes := 24, zero := .slice none 0 0, cells := [.sl] }
def ti37 : TI := { desc := (Go.TypeDesc.func #[25] #[36] false), size := 1, bytes := 8, zero := .nilFunc, cells := [.raw] }
def ti38 : TI := { desc := (Go.TypeDesc.slice 5), size := 1, bytes := 24, zero := .slice none 0 0, cells := [.sl] }
def ti39 : TI := { desc := (Go.TypeDesc.struct #[{ name := "Left", type := 3, offset := 0, embedded := false, tag := "", pkgPath := "", byteOffset := 0 }, { name := "Right", type := 33, offset := 1, embedded := false, tag := "", pkgPath := "", byteOffset := 8 }]), size := 2, bytes := 32, zero := .agg #[.int .i64 0, .slice none 0 0], cells := [.int .i64, .sl] }
def ti40 : TI := { desc := (Go.TypeDesc.struct #[{ name := "Left", type := 3, offset := 0, embedded := false, tag := "", pkgPath := "", byteOffset := 0 }, { name := "Right", type := 33, offset := 1, embedded := false, tag := "", pkgPath := "", byteOffset := 8 }]), size := 2, bytes := 32, zero := .agg #[.int .i64 0, .slice none 0 0], cells := [.int .i64, .sl] }
def ti41 : TI := { desc := (Go.TypeDesc.func #[3, 3, 3] #[4] false), size := 1, bytes := 8, zero := .nilFunc, cells := [.raw] }
def ti42 : TI := { desc := (Go.TypeDesc.slice 54), size := 1, bytes := 24, zero := .slice none 0 0, cells := [.sl] }
def ti44 : TI := { desc := (Go.TypeDesc.func #[9] #[42, 3, 28] false), size := 1, bytes := 8, zero := .nilFunc, cells := [.raw] }
def ti46 : TI := { desc := (Go.TypeDesc.func #[42] #[25, 28] true), size := 1, bytes := 8, zero := .nilFunc, cells := [.raw] }
def ti47 : TI := { desc := (Go.TypeDesc.func #[9] #[4] false), size := 1, bytes := 8, zero := .nilFunc, cells := [.raw] }
def ti48 : TI := { desc := (Go.TypeDesc.func #[25, 3] #[33] false), size := 1, bytes := 8, zero := .nilFunc, cells := [.raw] }
def ti49 : TI := { desc := (Go.TypeDesc.func #[25, 25] #[4] false), size := 1, bytes := 8, zero := .nilFunc, cells := [.raw] }
def ti50 : TI := { desc := (Go.TypeDesc.func #[25, 25, 3] #[4] false), size := 1, bytes := 8, zero := .nilFunc, cells := [.raw] }
def ti51 : TI := { desc := (Go.TypeDesc.func #[25] #[42] false), size := 1, bytes := 8, zero := .nilFunc, cells := [.raw] }
def ti52 : TI := { desc := (Go.TypeDesc.slice 55), size := 1, bytes := 24, zero := .slice none 0 0, cells := [.sl] }
def ti53 : TI := { desc := (Go.TypeDesc.struct #[{ name := "Name", type := 9, offset := 0, embedded := false, tag := "", pkgPath := "", byteOffset := 0 }, { name := "Alts", type := 52, offset := 1, embedded := false, tag := "", pkgPath := "", byteOffset := 16 }]), size := 2, bytes := 40, zero := .agg #[.string ByteArray.empty, .slice none 0 0], cells := [.str, .sl] }
def ti54 : TI := { desc := (Go.TypeDesc.struct #[{ name := "Name", type := 9, offset := 0, embedded := false, tag := "", pkgPath := "", byteOffset := 0 }, { name := "Alts", type := 52, offset := 1, embedded := false, tag := "", pkgPath := "", byteOffset := 16 }]), size := 2, bytes := 40, zero := .agg #[.string ByteArray.empty, .slice none 0 0], cells := [.str, .sl], kids := [.st, .sl 55 [.sl 57 [.st, .st]]] }
def ti55 : TI := { desc := (Go.TypeDesc.slice 57), size := 1, bytes := 24, zero := .slice none 0 0, cells := [.sl], kids := [.sl 57 [.st, .st]] }
def ti56 : TI := { desc := (Go.TypeDesc.struct #[{ name := "Term", type := 4, offset := 0, embedded := false, tag := "", pkgPath := "", byteOffset := 0 }, { name := "Text", type := 9, offset := 1, embedded := false, tag := "", pkgPath := "", byteOffset := 8 }]), size := 2, bytes := 24, zero := .agg #[.bool false, .string ByteArray.empty], cells := [.bool, .str] }
def ti57 : TI := { desc := (Go.TypeDesc.struct #[{ name := "Term", type := 4, offset := 0, embedded := false, tag := "", pkgPath := "", byteOffset := 0 }, { name := "Text", type := 9, offset := 1, embedded := false, tag := "", pkgPath := "", byteOffset := 8 }]), size := 2, bytes := 24, zero := .agg #[.bool false, .string ByteArray.empty], cells := [.bool, .str] }
def ti59 : TI := { desc := (Go.TypeDesc.func #[9] #[25, 3, 28] false), size := 1, bytes := 8, zero := .nilFunc, cells := [.raw] }
def ti60 : TI := { desc := (Go.TypeDesc.func #[25] #[9] false), size := 1, bytes := 8, zero := .nilFunc, cells := [.raw] }
def ti61 : TI := { desc := (Go.TypeDesc.func #[42] #[9] true), size := 1, bytes := 8, zero := .nilFunc, cells := [.raw] }
def ti62 : TI := { desc := (Go.TypeDesc.func #[31, 4] #[4] false), size := 1, bytes := 8, zero := .nilFunc, cells := [.raw] }
def ti63 : TI := { desc := (Go.TypeDesc.func #[25, 31, 3] #[4] false), size := 1, bytes := 8, zero := .nilFunc, cells := [.raw] }
def ti64 : TI := { desc := (Go.TypeDesc.func #[22, 9] #[3] false), size := 1, bytes := 8, zero := .nilFunc, cells := [.raw] }
def ti65 : TI := { desc := (Go.TypeDesc.func #[23] #[4] false), size := 1, bytes := 8, zero := .nilFunc, cells := [.raw] }
def ti66 : TI := { desc := (Go.TypeDesc.func #[25, 68] #[] false), size := 1, bytes := 8, zero := .nilFunc, cells := [.raw] }
def ti67 : TI := { desc := (Go.TypeDesc.func #[3] #[4] false), size := 1, bytes := 8, zero := .nilFunc, cells := [.raw] }
def ti68 : TI := { desc := (Go.TypeDesc.func #[40] #[] false), size := 1, bytes := 8, zero := .nilFunc, cells := [.raw] }
def ti69 : TI := { desc := (Go.TypeDesc.func #[33, 3] #[33] false), size := 1, bytes := 8, zero := .nilFunc, cells := [.raw] }
def ti70 : TI := { desc := (Go.TypeDesc.func #[33, 33] #[3] false), size := 1, bytes := 8, zero := .nilFunc, cells := [.raw] }
def ti71 : TI := { desc := (Go.TypeDesc.func #[36, 33] #[31] false), size := 1, bytes := 8, zero := .nilFunc, cells := [.raw] }
def ti72 : TI := { desc := (Go.TypeDesc.func #[22, 47] #[4] false), size := 1, bytes := 8, zero := .nilFunc, cells := [.raw] }
def ti73 : TI := { desc := (Go.TypeDesc.func #[25, 40] #[4] false), size := 1, bytes := 8, zero := .nilFunc, cells := [.raw] }
def ti74 : TI := { desc := (Go.TypeDesc.slice 82), size := 1, bytes := 24, zero := .slice none 0 0, cells := [.sl] }
def ti76 : TI := { desc := (Go.TypeDesc.func #[9] #[74, 3, 28] false), size := 1, bytes := 8, zero := .nilFunc, cells := [.raw] }
def ti77 : TI := { desc := (Go.TypeDesc.pointer 80), size := 1, bytes := 8, zero := .pointer none, cells := [.raw] }
def ti78 : TI := { desc := (Go.TypeDesc.func #[82] #[4] false), size := 1, bytes := 8, zero := .nilFunc, cells := [.raw] }
def ti79 : TI := { desc := (Go.TypeDesc.struct #[{ name := "lines", type := 42, offset := 0, embedded := false, tag := "", pkgPath := "repertory/parse", byteOffset := 0 }, { name := "want", type := 78, offset := 1, embedded := false, tag := "", pkgPath := "repertory/parse", byteOffset := 24 }, { name := "open", type := 4, offset := 2, embedded := false, tag := "", pkgPath := "repertory/parse", byteOffset := 32 }]), size := 3, bytes := 40, zero := .agg #[.slice none 0 0, .nilFunc, .bool false], cells := [.sl, .raw, .bool] }
def ti80 : TI := { desc := (Go.TypeDesc.struct #[{ name := "lines", type := 42, offset := 0, embedded := false, tag := "", pkgPath := "repertory/parse", byteOffset := 0 }, { name := "want", type := 78, offset := 1, embedded := false, tag := "", pkgPath := "repertory/parse", byteOffset := 24 }, { name := "open", type := 4, offset := 2, embedded := false, tag := "", pkgPath := "repertory/parse", byteOffset := 32 }]), size := 3, bytes := 40, zero := .agg #[.slice none 0 0, .nilFunc, .bool false], cells := [.sl, .raw, .bool] }
def ti81 : TI := { desc := (Go.TypeDesc.struct #[{ name := "Kind", type := 3, offset := 0, embedded := false, tag := "", pkgPath := "", byteOffset := 0 }, { name := "Text", type := 9, offset := 1, embedded := false, tag := "", pkgPath := "", byteOffset := 8 }, { name := "At", type := 3, offset := 2, embedded := false, tag := "", pkgPath := "", byteOffset := 24 }]), size := 3, bytes := 32, zero := .agg #[.int .i64 0, .string ByteArray.empty, .int .i64 0], cells := [.int .i64, .str, .int .i64] }
def ti82 : TI := { desc := (Go.TypeDesc.struct #[{ name := "Kind", type := 3, offset := 0, embedded := false, tag := "", pkgPath := "", byteOffset := 0 }, { name := "Text", type := 9, offset := 1, embedded := false, tag := "", pkgPath := "", byteOffset := 8 }, { name := "At", type := 3, offset := 2, embedded := false, tag := "", pkgPath := "", byteOffset := 24 }]), size := 3, bytes := 32, zero := .agg #[.int .i64 0, .string ByteArray.empty, .int .i64 0], cells := [.int .i64, .str, .int .i64] }
def ti83 : TI := { desc := (Go.TypeDesc.func #[42] #[4] false), size := 1, bytes := 8, zero := .nilFunc, cells := [.raw] }
def ti84 : TI := { desc := (Go.TypeDesc.pointer 87), size := 1, bytes := 8, zero := .pointer none, cells := [.raw] }
def ti85 : TI := { desc := (Go.TypeDesc.map 9 3), size := 1, bytes := 8, zero := .map none, cells := [.raw] }
def ti86 : TI := { desc := (Go.TypeDesc.struct #[{ name := "names", type := 85, offset := 0, embedded := false, tag := "", pkgPath := "repertory/gram", byteOffset := 0 }, { name := "terms", type := 85, offset := 1, embedded := false, tag := "", pkgPath := "repertory/gram", byteOffset := 8 }, { name := "g", type := 25, offset := 2, embedded := false, tag := "", pkgPath := "repertory/gram", byteOffset := 16 }]), size := 5, bytes := 88, zero := .agg #[.map none, .map none, .slice none 0 0, .slice none 0 0, .slice none 0 0], cells := [.raw, .raw, .sl, .sl, .sl] }
def ti87 : TI := { desc := (Go.TypeDesc.struct #[{ name := "names", type := 85, offset := 0, embedded := false, tag := "", pkgPath := "repertory/gram", byteOffset := 0 }, { name := "terms", type := 85, offset := 1, embedded := false, tag := "", pkgPath := "repertory/gram", byteOffset := 8 }, { name := "g", type := 25, offset := 2, embedded := false, tag := "", pkgPath := "repertory/gram", byteOffset := 16 }]), size := 5, bytes := 88, zero := .agg #[.map none, .map none, .slice none 0 0, .slice none 0 0, .slice none 0 0], cells := [.raw, .raw, .sl, .sl, .sl] }
def ti89 : TI := { desc := (Go.TypeDesc.func #[3, 55] #[4] false), size := 1, bytes := 8, zero := .nilFunc, cells := [.raw] }
def ti90 : TI := { desc := (Go.TypeDesc.func #[22, 22] #[4] false), size := 1, bytes := 8, zero := .nilFunc, cells := [.raw] }
def ti91 : TI := { desc := (Go.TypeDesc.func #[23, 23, 92] #[4] false), size := 1, bytes := 8, zero := .nilFunc, cells := [.raw] }
def ti92 : TI := { desc := (Go.TypeDesc.func #[40, 40] #[4] false), size := 1, bytes := 8, zero := .nilFunc, cells := [.raw] }
def ti93 : TI := { desc := (Go.TypeDesc.func #[33, 33] #[4] false), size := 1, bytes := 8, zero := .nilFunc, cells := [.raw] }
def ti94 : TI := { desc := (Go.TypeDesc.func #[25, 3] #[57] false), size := 1, bytes := 8, zero := .nilFunc, cells := [.raw] }
def ti95 : TI := { desc := (Go.TypeDesc.func #[25] #[25] false), size := 1, bytes := 8, zero := .nilFunc, cells := [.raw] }
def ti96 : TI := { desc := (Go.TypeDesc.pointer 98), size := 1, bytes := 8, zero := .pointer none, cells := [.raw] }
def ti97 : TI := { desc := (Go.TypeDesc.struct #[{ name := "addr", type := 96, offset := 0, embedded := false, tag := "", pkgPath := "strings", byteOffset := 0 }, { name := "buf", type := 38, offset := 1, embedded := false, tag := "", pkgPath := "strings", byteOffset := 8 }]), size := 2, bytes := 32, zero := .agg #[.pointer none, .slice none 0 0], cells := [.raw, .sl] }
def ti98 : TI := { desc := (Go.TypeDesc.struct #[{ name := "addr", type := 96, offset := 0, embedded := false, tag := "", pkgPath := "strings", byteOffset := 0 }, { name := "buf", type := 38, offset := 1, embedded := false, tag := "", pkgPath := "strings", byteOffset := 8 }]), size := 2, bytes := 32, zero := .agg #[.pointer none, .slice none 0 0], cells := [.raw, .sl] }
def ti99 : TI := { desc := (Go.TypeDesc.interface #[("Error", 103)]), size := 1, bytes := 16, zero := .nilIface, cells := [.raw] }
def ti100 : TI := { desc := (Go.TypeDesc.interface #[("Error", 103)]), size := 1, bytes := 16, zero := .nilIface, cells := [.raw] }
def ti102 : TI := { desc := (Go.TypeDesc.func #[9] #[3, 100] false), size := 1, bytes := 8, zero := .nilFunc, cells := [.raw] }
def ti103 : TI := { desc := (Go.TypeDesc.func #[] #[9] false), size := 1, bytes := 8, zero := .nilFunc, cells := [.raw] }
def ti104 : TI := { desc := (Go.TypeDesc.func #[31, 4] #[3] false), size := 1, bytes := 8, zero := .nilFunc, cells := [.raw] }
def ti105 : TI := { desc := (Go.TypeDesc.func #[33, 3] #[4] false), size := 1, bytes := 8, zero := .nilFunc, cells := [.raw] }
def ti106 : TI := { desc := (Go.TypeDesc.func #[5] #[4] false), size := 1, bytes := 8, zero := .nilFunc, cells := [.raw] }
def ti107 : TI := { desc := (Go.TypeDesc.int Go.IntKind.u64), size := 1, bytes := 8, zero := .int .u64 0, cells := [.int .u64] }
def ti109 : TI := { desc := (Go.TypeDesc.func #[107, 107] #[107, 107] false), size := 1, bytes := 8, zero := .nilFunc, cells := [.raw] }
def ti110 : TI := { desc := (Go.TypeDesc.func #[9, 106] #[3] false), size := 1, bytes := 8, zero := .nilFunc, cells := [.raw] }
def ti111 : TI := { desc := (Go.TypeDesc.func #[33, 67] #[4] false), size := 1, bytes := 8, zero := .nilFunc, cells := [.raw] }
def ti112 : TI := { desc := (Go.TypeDesc.func #[23, 113] #[4] false), size := 1, bytes := 8, zero := .nilFunc, cells := [.raw] }
def ti113 : TI := { desc := (Go.TypeDesc.func #[40] #[4] false), size := 1, bytes := 8, zero := .nilFunc, cells := [.raw] }
def ti114 : TI := { desc := (Go.TypeDesc.func #[9] #[3] false), size := 1, bytes := 8, zero := .nilFunc, cells := [.raw] }
def ti116 : TI := { desc := (Go.TypeDesc.func #[9] #[82, 3, 28] false), size := 1, bytes := 8, zero := .nilFunc, cells := [.raw] }
def ti117 : TI := { desc := (Go.TypeDesc.func #[57] #[3, 4] false), size := 1, bytes := 8, zero := .nilFunc, cells := [.raw] }
def ti118 : TI := { desc := (Go.TypeDesc.func #[22] #[22] false), size := 1, bytes := 8, zero := .nilFunc, cells := [.raw] }
def ti119 : TI := { desc := (Go.TypeDesc.func #[22] #[] false), size := 1, bytes := 8, zero := .nilFunc, cells := [.raw] }
def ti120 : TI := { desc := (Go.TypeDesc.func #[22, 22] #[33] false), size := 1, bytes := 8, zero := .nilFunc, cells := [.raw] }
def ti121 : TI := { desc := (Go.TypeDesc.func #[3] #[3] false), size := 1, bytes := 8, zero := .nilFunc, cells := [.raw] }
def ti122 : TI := { desc := (Go.TypeDesc.func #[23, 125] #[] false), size := 1, bytes := 8, zero := .nilFunc, cells := [.raw] }
def ti123 : TI := { desc := (Go.TypeDesc.func #[3, 3] #[3] false), size := 1, bytes := 8, zero := .nilFunc, cells := [.raw] }
def ti124 : TI := { desc := (Go.TypeDesc.func #[33, 33, 123] #[3] false), size := 1, bytes := 8, zero := .nilFunc, cells := [.raw] }
def ti125 : TI := { desc := (Go.TypeDesc.func #[40, 40] #[3] false), size := 1, bytes := 8, zero := .nilFunc, cells := [.raw] }
def ti126 : TI := { desc := (Go.TypeDesc.pointer 5), size := 1, bytes := 8, zero := .pointer none, cells := [.raw] }
def ti127 : TI := { desc := (Go.TypeDesc.func #[33, 3] #[3] false), size := 1, bytes := 8, zero := .nilFunc, cells := [.raw] }
def ti128 : TI := { desc := (Go.TypeDesc.int Go.IntKind.u32), size := 1, bytes := 4, zero := .int .u32 0, cells := [.int .u32] }
def ti130 : TI := { desc := (Go.TypeDesc.func #[128, 128] #[128, 128] false), size := 1, bytes := 8, zero := .nilFunc, cells := [.raw] }
def ti131 : TI := { desc := (Go.TypeDesc.int Go.IntKind.u64), size := 1, bytes := 8, zero := .int .u64 0, cells := [.int .u64] }
def ti133 : TI := { desc := (Go.TypeDesc.func #[131, 131] #[131, 131] false), size := 1, bytes := 8, zero := .nilFunc, cells := [.raw] }
def ti134 : TI := { desc := (Go.TypeDesc.func #[33, 67] #[3] false), size := 1, bytes := 8, zero := .nilFunc, cells := [.raw] }
def ti135 : TI := { desc := (Go.TypeDesc.func #[23, 113] #[3] false), size := 1, bytes := 8, zero := .nilFunc, cells := [.raw] }
def ti136 : TI := { desc := (Go.TypeDesc.func #[82, 3] #[82, 3, 28] false), size := 1, bytes := 8, zero := .nilFunc, cells := [.raw] }
def ti137 : TI := { desc := (Go.TypeDesc.func #[22, 3, 3, 3] #[] false), size := 1, bytes := 8, zero := .nilFunc, cells := [.raw] }
def ti138 : TI := { desc := (Go.TypeDesc.func #[107] #[3] false), size := 1, bytes := 8, zero := .nilFunc, cells := [.raw] }
def ti139 : TI := { desc := (Go.TypeDesc.func #[23, 3, 3, 3, 125] #[] false), size := 1, bytes := 8, zero := .nilFunc, cells := [.raw] }
def ti140 : TI := { desc := Go.TypeDesc.unsafePointer, size := 1, bytes := 8, zero := .pointer none, cells := [.raw] }
def ti141 : TI := { desc := (Go.TypeDesc.func #[140] #[140] false), size := 1, bytes := 8, zero := .nilFunc, cells := [.raw] }
def ti142 : TI := { desc := (Go.TypeDesc.pointer 54), size := 1, bytes := 8, zero := .pointer none, cells := [.raw] }
def ti143 : TI := { desc := (Go.TypeDesc.pointer 55), size := 1, bytes := 8, zero := .pointer none, cells := [.raw] }
def ti144 : TI := { desc := (Go.TypeDesc.func #[22, 3, 3] #[] false), size := 1, bytes := 8, zero := .nilFunc, cells := [.raw] }
def ti145 : TI := { desc := (Go.TypeDesc.int Go.IntKind.i64), size := 1, bytes := 8, zero := .int .i64 0, cells := [.int .i64] }
def ti147 : TI := { desc := (Go.TypeDesc.func #[22, 3, 3] #[3, 145] false), size := 1, bytes := 8, zero := .nilFunc, cells := [.raw] }
def ti148 : TI := { desc := (Go.TypeDesc.func #[22, 3, 3] #[4] false), size := 1, bytes := 8, zero := .nilFunc, cells := [.raw] }
def ti149 : TI := { desc := (Go.TypeDesc.func #[9, 9] #[4] false), size := 1, bytes := 8, zero := .nilFunc, cells := [.raw] }
def ti150 : TI := { desc := (Go.TypeDesc.func #[22, 3, 3, 3] #[3] false), size := 1, bytes := 8, zero := .nilFunc, cells := [.raw] }
def ti151 : TI := { desc := (Go.TypeDesc.func #[22, 3, 3, 3] #[3, 4] false), size := 1, bytes := 8, zero := .nilFunc, cells := [.raw] }
def ti152 : TI := { desc := (Go.TypeDesc.func #[128] #[3] false), size := 1, bytes := 8, zero := .nilFunc, cells := [.raw] }
def ti153 : TI := { desc := (Go.TypeDesc.func #[131] #[3] false), size := 1, bytes := 8, zero := .nilFunc, cells := [.raw] }
def ti154 : TI := { desc := (Go.TypeDesc.func #[23, 3, 3, 125] #[] false), size := 1, bytes := 8, zero := .nilFunc, cells := [.raw] }
def ti155 : TI := { desc := (Go.TypeDesc.func #[23, 3, 3, 125] #[3, 145] false), size := 1, bytes := 8, zero := .nilFunc, cells := [.raw] }
def ti156 : TI := { desc := (Go.TypeDesc.func #[23, 3, 3, 125] #[4] false), size := 1, bytes := 8, zero := .nilFunc, cells := [.raw] }
def ti157 : TI := { desc := (Go.TypeDesc.func #[23, 3, 3, 3, 125] #[3] false), size := 1, bytes := 8, zero := .nilFunc, cells := [.raw] }
def ti158 : TI := { desc := (Go.TypeDesc.func #[23, 3, 3, 3, 125] #[3, 4] false), size := 1, bytes := 8, zero := .nilFunc, cells := [.raw] }
def ti159 : TI := { desc := (Go.TypeDesc.int Go.IntKind.u64), size := 1, bytes := 8, zero := .int .u64 0, cells := [.int .u64] }
def ti160 : TI := { desc := (Go.TypeDesc.func #[3] #[107] false), size := 1, bytes := 8, zero := .nilFunc, cells := [.raw] }
def ti161 : TI := { desc := (Go.TypeDesc.func #[] #[131] false), size := 1, bytes := 8, zero := .nilFunc, cells := [.raw] }
def ti162 : TI := { desc := (Go.TypeDesc.func #[22, 3, 163] #[3] false), size := 1, bytes := 8, zero := .nilFunc, cells := [.raw] }
def ti163 : TI := { desc := (Go.TypeDesc.pointer 3), size := 1, bytes := 8, zero := .pointer none, cells := [.raw] }
def ti164 : TI := { desc := (Go.TypeDesc.func #[22, 3, 3, 3, 163] #[3] false), size := 1, bytes := 8, zero := .nilFunc, cells := [.raw] }
def ti165 : TI := { desc := (Go.TypeDesc.func #[23, 3, 163, 125] #[3] false), size := 1, bytes := 8, zero := .nilFunc, cells := [.raw] }
def ti166 : TI := { desc := (Go.TypeDesc.func #[23, 3, 3, 3, 163, 125] #[3] false), size := 1, bytes := 8, zero := .nilFunc, cells := [.raw] }
def ti167 : TI := { desc := (Go.TypeDesc.pointer 159), size := 1, bytes := 8, zero := .pointer none, cells := [.raw] }
def ti169 : TI := { desc := (Go.TypeDesc.func #[22, 3, 3, 163] #[3, 3] false), size := 1, bytes := 8, zero := .nilFunc, cells := [.raw] }
def ti170 : TI := { desc := (Go.TypeDesc.func #[23, 3, 3, 163, 125] #[3, 3] false), size := 1, bytes := 8, zero := .nilFunc, cells := [.raw] }
def ti171 : TI := { desc := (Go.TypeDesc.struct #[{ name := "_interface", type := 17, offset := 0, embedded := false, tag := "", pkgPath := "runtime", byteOffset := 0 }, { name := "concrete", type := 17, offset := 1, embedded := false, tag := "", pkgPath := "runtime", byteOffset := 8 }, { name := "asserted", type := 17, offset := 2, embedded := false, tag := "", pkgPath := "runtime", byteOffset := 16 }, { name := "missingMethod", type := 9, offset := 3, embedded := false, tag := "", pkgPath := "runtime", byteOffset := 24 }]), size := 4, bytes := 40, zero := .agg #[.pointer none, .pointer none, .pointer none, .string ByteArray.empty], cells := [.raw, .raw, .raw, .str] }
def ti172 : TI := { desc := (Go.TypeDesc.struct #[{ name := "_interface", type := 17, offset := 0, embedded := false, tag := "", pkgPath := "runtime", byteOffset := 0 }, { name := "concrete", type := 17, offset := 1, embedded := false, tag := "", pkgPath := "runtime", byteOffset := 8 }, { name := "asserted", type := 17, offset := 2, embedded := false, tag := "", pkgPath := "runtime", byteOffset := 16 }, { name := "missingMethod", type := 9, offset := 3, embedded := false, tag := "", pkgPath := "runtime", byteOffset := 24 }]), size := 4, bytes := 40, zero := .agg #[.pointer none, .pointer none, .pointer none, .string ByteArray.empty], cells := [.raw, .raw, .raw, .str] }
def ti173 : TI := { desc := (Go.TypeDesc.array 0 16), size := 0, bytes := 0, zero := .agg #[], cells := [] }
def ti174 : TI := { desc := (Go.TypeDesc.struct #[{ name := "_", type := 173, offset := 0, embedded := false, tag := "", pkgPath := "runtime", byteOffset := 0 }]), size := 0, bytes := 0, zero := .agg #[], cells := [] }
def ti175 : TI := { desc := (Go.TypeDesc.struct #[{ name := "_", type := 173, offset := 0, embedded := false, tag := "", pkgPath := "runtime", byteOffset := 0 }]), size := 0, bytes := 0, zero := .agg #[], cells := [] }
def ti176 : TI := { desc := (Go.TypeDesc.func #[] #[3] false), size := 1, bytes := 8, zero := .nilFunc, cells := [.raw] }
def ti177 : TI := { desc := (Go.TypeDesc.int Go.IntKind.u8), size := 1, bytes := 1, zero := .int .u8 0, cells := [.int .u8] }
def ti178 : TI := { desc := (Go.TypeDesc.int Go.IntKind.u8), size := 1, bytes := 1, zero := .int .u8 0, cells := [.int .u8] }
def ti179 : TI := { desc := (Go.TypeDesc.func #[140, 140] #[4] false), size := 1, bytes := 8, zero := .nilFunc, cells := [.raw] }
def ti180 : TI := { desc := (Go.TypeDesc.int Go.IntKind.i32), size := 1, bytes := 4, zero := .int .i32 0, cells := [.int .i32] }
def ti181 : TI := { desc := (Go.TypeDesc.int Go.IntKind.i32), size := 1, bytes := 4, zero := .int .i32 0, cells := [.int .i32] }
def ti182 : TI := { desc := (Go.TypeDesc.struct #[{ name := "Size_", type := 12, offset := 0, embedded := false, tag := "", pkgPath := "", byteOffset := 0 }, { name := "PtrBytes", type := 12, offset := 1, embedded := false, tag := "", pkgPath := "", byteOffset := 8 }, { name := "Hash", type := 128, offset := 2, embedded := false, tag := "", pkgPath := "", byteOffset := 16 }, { name := "TFlag", type := 177, offset := 3, embedded := false, tag := "", pkgPath := "", byteOffset := 20 }, { name := "Align_", type := 5, offset := 4, embedded := false, tag := "", pkgPath := "", byteOffset := 21 }, { name := "FieldAlign_", type := 5, offset := 5, embedded := false, tag := "", pkgPath := "", byteOffset := 22 }, { name := "Kind_", type := 178, offset := 6, embedded := false, tag := "", pkgPath := "", byteOffset := 23 }, { name := "Equal", type := 179, offset := 7, embedded := false, tag := "", pkgPath := "", byteOffset := 24 }, { name := "GCData", type := 126, offset := 8, embedded := false, tag := "", pkgPath := "", byteOffset := 32 }, { name := "Str", type := 180, offset := 9, embedded := false, tag := "", pkgPath := "", byteOffset := 40 }, { name := "PtrToThis", type := 181, offset := 10, embedded := false, tag := "", pkgPath := "", byteOffset := 44 }]), size := 11, bytes := 48, zero := .agg #[.int .u64 0, .int .u64 0, .int .u32 0, .int .u8 0, .int .u8 0, .int .u8 0, .int .u8 0, .nilFunc, .pointer none, .int .i32 0, .int .i32 0], cells := [.int .u64, .int .u64, .int .u32, .int .u8, .int .u8, .int .u8, .int .u8, .raw, .raw, .int .i32, .int .i32] }
def ti183 : TI := { desc := (Go.TypeDesc.struct #[{ name := "Size_", type := 12, offset := 0, embedded := false, tag := "", pkgPath := "", byteOffset := 0 }, { name := "PtrBytes", type := 12, offset := 1, embedded := false, tag := "", pkgPath := "", byteOffset := 8 }, { name := "Hash", type := 128, offset := 2, embedded := false, tag := "", pkgPath := "", byteOffset := 16 }, { name := "TFlag", type := 177, offset := 3, embedded := false, tag := "", pkgPath := "", byteOffset := 20 }, { name := "Align_", type := 5, offset := 4, embedded := false, tag := "", pkgPath := "", byteOffset := 21 }, { name := "FieldAlign_", type := 5, offset := 5, embedded := false, tag := "", pkgPath := "", byteOffset := 22 }, { name := "Kind_", type := 178, offset := 6, embedded := false, tag := "", pkgPath := "", byteOffset := 23 }, { name := "Equal", type := 179, offset := 7, embedded := false, tag := "", pkgPath := "", byteOffset := 24 }, { name := "GCData", type := 126, offset := 8, embedded := false, tag := "", pkgPath := "", byteOffset := 32 }, { name := "Str", type := 180, offset := 9, embedded := false, tag := "", pkgPath := "", byteOffset := 40 }, { name := "PtrToThis", type := 181, offset := 10, embedded := false, tag := "", pkgPath := "", byteOffset := 44 }]), size := 11, bytes := 48, zero := .agg #[.int .u64 0, .int .u64 0, .int .u32 0, .int .u8 0, .int .u8 0, .int .u8 0, .int .u8 0, .nilFunc, .pointer none, .int .i32 0, .int .i32 0], cells := [.int .u64, .int .u64, .int .u32, .int .u8, .int .u8, .int .u8, .int .u8, .raw, .raw, .int .i32, .int .i32] }
def T_0 : TT
  | 1 => some ti1
  | 2 => some ti2
  | 3 => some ti3
  | 4 => some ti4
  | 5 => some ti5
  | 6 => some ti6
  | 7 => some ti7
  | 8 => some ti8
  | 9 => some ti9
  | 10 => some ti10
  | 11 => some ti11
  | 12 => some ti12
  | 13 => some ti13
  | 14 => some ti14
  | 15 => some ti15
  | 16 => some ti16
  | 17 => some ti17
  | 18 => some ti18
  | 19 => some ti19
  | 20 => some ti20
  | 21 => some ti21
  | 22 => some ti22
  | 23 => some ti23
  | 24 => some ti24
  | _ => none
def T_1 : TT
  | 25 => some ti25
  | 26 => some ti26
  | 27 => some ti27
  | 28 => some ti28
  | 29 => some ti29
  | 30 => some ti30
  | 31 => some ti31
  | 32 => some ti32
  | 33 => some ti33
  | 34 => some ti34
  | 35 => some ti35
  | 36 => some ti36
  | 37 => some ti37
  | 38 => some ti38
  | 39 => some ti39
  | 40 => some ti40
  | 41 => some ti41
  | 42 => some ti42
  | 44 => some ti44
  | 46 => some ti46
  | 47 => some ti47
  | 48 => some ti48
  | 49 => some ti49
  | 50 => some ti50
  | _ => none
def T_2 : TT
  | 51 => some ti51
  | 52 => some ti52
  | 53 => some ti53
  | 54 => some ti54
  | 55 => some ti55
  | 56 => some ti56
  | 57 => some ti57
  | 59 => some ti59
  | 60 => some ti60
  | 61 => some ti61
  | 62 => some ti62
  | 63 => some ti63
  | 64 => some ti64
  | 65 => some ti65
  | 66 => some ti66
  | 67 => some ti67
  | 68 => some ti68
  | 69 => some ti69
  | 70 => some ti70
  | 71 => some ti71
  | 72 => some ti72
  | 73 => some ti73
  | 74 => some ti74
  | 76 => some ti76
  | _ => none
def T_3 : TT
  | 77 => some ti77
  | 78 => some ti78
  | 79 => some ti79
  | 80 => some ti80
  | 81 => some ti81
  | 82 => some ti82
  | 83 => some ti83
  | 84 => some ti84
  | 85 => some ti85
  | 86 => some ti86
  | 87 => some ti87
  | 89 => some ti89
  | 90 => some ti90
  | 91 => some ti91
  | 92 => some ti92
  | 93 => some ti93
  | 94 => some ti94
  | 95 => some ti95
  | 96 => some ti96
  | 97 => some ti97
  | 98 => some ti98
  | 99 => some ti99
  | 100 => some ti100
  | 102 => some ti102
  | _ => none
def T_4 : TT
  | 103 => some ti103
  | 104 => some ti104
  | 105 => some ti105
  | 106 => some ti106
  | 107 => some ti107
  | 109 => some ti109
  | 110 => some ti110
  | 111 => some ti111
  | 112 => some ti112
  | 113 => some ti113
  | 114 => some ti114
  | 116 => some ti116
  | 117 => some ti117
  | 118 => some ti118
  | 119 => some ti119
  | 120 => some ti120
  | 121 => some ti121
  | 122 => some ti122
  | 123 => some ti123
  | 124 => some ti124
  | 125 => some ti125
  | 126 => some ti126
  | 127 => some ti127
  | 128 => some ti128
  | _ => none
def T_5 : TT
  | 130 => some ti130
  | 131 => some ti131
  | 133 => some ti133
  | 134 => some ti134
  | 135 => some ti135
  | 136 => some ti136
  | 137 => some ti137
  | 138 => some ti138
  | 139 => some ti139
  | 140 => some ti140
  | 141 => some ti141
  | 142 => some ti142
  | 143 => some ti143
  | 144 => some ti144
  | 145 => some ti145
  | 147 => some ti147
  | 148 => some ti148
  | 149 => some ti149
  | 150 => some ti150
  | 151 => some ti151
  | 152 => some ti152
  | 153 => some ti153
  | 154 => some ti154
  | 155 => some ti155
  | _ => none
def T_6 : TT
  | 156 => some ti156
  | 157 => some ti157
  | 158 => some ti158
  | 159 => some ti159
  | 160 => some ti160
  | 161 => some ti161
  | 162 => some ti162
  | 163 => some ti163
  | 164 => some ti164
  | 165 => some ti165
  | 166 => some ti166
  | 167 => some ti167
  | 169 => some ti169
  | 170 => some ti170
  | 171 => some ti171
  | 172 => some ti172
  | 173 => some ti173
  | 174 => some ti174
  | 175 => some ti175
  | 176 => some ti176
  | 177 => some ti177
  | 178 => some ti178
  | 179 => some ti179
  | 180 => some ti180
  | _ => none
def T_7 : TT
  | 181 => some ti181
  | 182 => some ti182
  | 183 => some ti183
  | _ => none
def T : TT := fun t => if t ≤ 24 then T_0 t else if t ≤ 50 then T_1 t else if t ≤ 76 then T_2 t else if t ≤ 102 then T_3 t else if t ≤ 128 then T_4 t else if t ≤ 155 then T_5 t else if t ≤ 180 then T_6 t else T_7 t
theorem tok_0 : TOk Try.prog T_0 := by
  intro t ti h
  unfold T_0 at h
  split at h
  · cases h; exact tok1 (by kernel_rfl) (by kernel_rfl) (by kernel_rfl)
  · cases h; exact tok1 (by kernel_rfl) (by kernel_rfl) (by kernel_rfl)
  · cases h; exact tok1 (by kernel_rfl) (by kernel_rfl) (by kernel_rfl)
  · cases h; exact tok1 (by kernel_rfl) (by kernel_rfl) (by kernel_rfl)
  · cases h; exact tok1 (by kernel_rfl) (by kernel_rfl) (by kernel_rfl)
  · cases h; exact tok1 (by kernel_rfl) (by kernel_rfl) (by kernel_rfl)
  · cases h; exact tok1 (by kernel_rfl) (by kernel_rfl) (by kernel_rfl)
  · cases h; exact tok1 (by kernel_rfl) (by kernel_rfl) (by kernel_rfl)
  · cases h; exact tok1 (by kernel_rfl) (by kernel_rfl) (by kernel_rfl)
  · cases h; exact tok1 (by kernel_rfl) (by kernel_rfl) (by kernel_rfl)
  · cases h; exact tok1 (by kernel_rfl) (by kernel_rfl) (by kernel_rfl)
  · cases h; exact tok1 (by kernel_rfl) (by kernel_rfl) (by kernel_rfl)
  · cases h; exact tok1 (by kernel_rfl) (by kernel_rfl) (by kernel_rfl)
  · cases h; exact tok1 (by kernel_rfl) (by kernel_rfl) (by kernel_rfl)
  · cases h; exact tok1 (by kernel_rfl) (by kernel_rfl) (by kernel_rfl)
  · cases h; exact tok1 (by kernel_rfl) (by kernel_rfl) (by kernel_rfl)
  · cases h; exact tok1 (by kernel_rfl) (by kernel_rfl) (by kernel_rfl)
  · cases h; exact tok1 (by kernel_rfl) (by kernel_rfl) (by kernel_rfl)
  · cases h; exact tok1 (by kernel_rfl) (by kernel_rfl) (by kernel_rfl)
  · cases h; exact tok1 (by kernel_rfl) (by kernel_rfl) (by kernel_rfl)
  · cases h; exact tok1 (by kernel_rfl) (by kernel_rfl) (by kernel_rfl)
  · cases h; exact tok1 (by kernel_rfl) (by kernel_rfl) (by kernel_rfl)
  · cases h; exact tok1 (by kernel_rfl) (by kernel_rfl) (by kernel_rfl)
  · cases h; exact tok1 (by kernel_rfl) (by kernel_rfl) (by kernel_rfl)
  · cases h
theorem tok_1 : TOk Try.prog T_1 := by
  intro t ti h
  unfold T_1 at h
  split at h
  · cases h; exact tok1 (by kernel_rfl) (by kernel_rfl) (by kernel_rfl)
  · cases h; exact tok1 (by kernel_rfl) (by kernel_rfl) (by kernel_rfl)
  · cases h; exact tok1 (by kernel_rfl) (by kernel_rfl) (by kernel_rfl)
  · cases h; exact tok1 (by kernel_rfl) (by kernel_rfl) (by kernel_rfl)
  · cases h; exact tok1 (by kernel_rfl) (by kernel_rfl) (by kernel_rfl)
  · cases h; exact tok1 (by kernel_rfl) (by kernel_rfl) (by kernel_rfl)
  · cases h; exact tok1 (by kernel_rfl) (by kernel_rfl) (by kernel_rfl)
  · cases h; exact tok1 (by kernel_rfl) (by kernel_rfl) (by kernel_rfl)
  · cases h; exact tok1 (by kernel_rfl) (by kernel_rfl) (by kernel_rfl)
  · cases h; exact tok1 (by kernel_rfl) (by kernel_rfl) (by kernel_rfl)
  · cases h; exact tok1 (by kernel_rfl) (by kernel_rfl) (by kernel_rfl)
  · cases h; exact tok1 (by kernel_rfl) (by kernel_rfl) (by kernel_rfl)
  · cases h; exact tok1 (by kernel_rfl) (by kernel_rfl) (by kernel_rfl)
  · cases h; exact tok1 (by kernel_rfl) (by kernel_rfl) (by kernel_rfl)
  · cases h; exact tok1 (by kernel_rfl) (by kernel_rfl) (by kernel_rfl)
  · cases h; exact tok1 (by kernel_rfl) (by kernel_rfl) (by kernel_rfl)
  · cases h; exact tok1 (by kernel_rfl) (by kernel_rfl) (by kernel_rfl)
  · cases h; exact tok1 (by kernel_rfl) (by kernel_rfl) (by kernel_rfl)
  · cases h; exact tok1 (by kernel_rfl) (by kernel_rfl) (by kernel_rfl)
  · cases h; exact tok1 (by kernel_rfl) (by kernel_rfl) (by kernel_rfl)
  · cases h; exact tok1 (by kernel_rfl) (by kernel_rfl) (by kernel_rfl)
  · cases h; exact tok1 (by kernel_rfl) (by kernel_rfl) (by kernel_rfl)
  · cases h; exact tok1 (by kernel_rfl) (by kernel_rfl) (by kernel_rfl)
  · cases h; exact tok1 (by kernel_rfl) (by kernel_rfl) (by kernel_rfl)
  · cases h
theorem tok_2 : TOk Try.prog T_2 := by
  intro t ti h
  unfold T_2 at h
  split at h
  · cases h; exact tok1 (by kernel_rfl) (by kernel_rfl) (by kernel_rfl)
  · cases h; exact tok1 (by kernel_rfl) (by kernel_rfl) (by kernel_rfl)
  · cases h; exact tok1 (by kernel_rfl) (by kernel_rfl) (by kernel_rfl)
  · cases h; exact tok1 (by kernel_rfl) (by kernel_rfl) (by kernel_rfl)
  · cases h; exact tok1 (by kernel_rfl) (by kernel_rfl) (by kernel_rfl)
  · cases h; exact tok1 (by kernel_rfl) (by kernel_rfl) (by kernel_rfl)
  · cases h; exact tok1 (by kernel_rfl) (by kernel_rfl) (by kernel_rfl)
  · cases h; exact tok1 (by kernel_rfl) (by kernel_rfl) (by kernel_rfl)
  · cases h; exact tok1 (by kernel_rfl) (by kernel_rfl) (by kernel_rfl)
  · cases h; exact tok1 (by kernel_rfl) (by kernel_rfl) (by kernel_rfl)
  · cases h; exact tok1 (by kernel_rfl) (by kernel_rfl) (by kernel_rfl)
  · cases h; exact tok1 (by kernel_rfl) (by kernel_rfl) (by kernel_rfl)
  · cases h; exact tok1 (by kernel_rfl) (by kernel_rfl) (by kernel_rfl)
  · cases h; exact tok1 (by kernel_rfl) (by kernel_rfl) (by kernel_rfl)
  · cases h; exact tok1 (by kernel_rfl) (by kernel_rfl) (by kernel_rfl)
  · cases h; exact tok1 (by kernel_rfl) (by kernel_rfl) (by kernel_rfl)
  · cases h; exact tok1 (by kernel_rfl) (by kernel_rfl) (by kernel_rfl)
  · cases h; exact tok1 (by kernel_rfl) (by kernel_rfl) (by kernel_rfl)
  · cases h; exact tok1 (by kernel_rfl) (by kernel_rfl) (by kernel_rfl)
  · cases h; exact tok1 (by kernel_rfl) (by kernel_rfl) (by kernel_rfl)
  · cases h; exact tok1 (by kernel_rfl) (by kernel_rfl) (by kernel_rfl)
  · cases h; exact tok1 (by kernel_rfl) (by kernel_rfl) (by kernel_rfl)
  · cases h; exact tok1 (by kernel_rfl) (by kernel_rfl) (by kernel_rfl)
  · cases h; exact tok1 (by kernel_rfl) (by kernel_rfl) (by kernel_rfl)
  · cases h
theorem tok_3 : TOk Try.prog T_3 := by
  intro t ti h
  unfold T_3 at h
  split at h
  · cases h; exact tok1 (by kernel_rfl) (by kernel_rfl) (by kernel_rfl)
  · cases h; exact tok1 (by kernel_rfl) (by kernel_rfl) (by kernel_rfl)
  · cases h; exact tok1 (by kernel_rfl) (by kernel_rfl) (by kernel_rfl)
  · cases h; exact tok1 (by kernel_rfl) (by kernel_rfl) (by kernel_rfl)
  · cases h; exact tok1 (by kernel_rfl) (by kernel_rfl) (by kernel_rfl)
  · cases h; exact tok1 (by kernel_rfl) (by kernel_rfl) (by kernel_rfl)
  · cases h; exact tok1 (by kernel_rfl) (by kernel_rfl) (by kernel_rfl)
  · cases h; exact tok1 (by kernel_rfl) (by kernel_rfl) (by kernel_rfl)
  · cases h; exact tok1 (by kernel_rfl) (by kernel_rfl) (by kernel_rfl)
  · cases h; exact tok1 (by kernel_rfl) (by kernel_rfl) (by kernel_rfl)
  · cases h; exact tok1 (by kernel_rfl) (by kernel_rfl) (by kernel_rfl)
  · cases h; exact tok1 (by kernel_rfl) (by kernel_rfl) (by kernel_rfl)
  · cases h; exact tok1 (by kernel_rfl) (by kernel_rfl) (by kernel_rfl)
  · cases h; exact tok1 (by kernel_rfl) (by kernel_rfl) (by kernel_rfl)
  · cases h; exact tok1 (by kernel_rfl) (by kernel_rfl) (by kernel_rfl)
  · cases h; exact tok1 (by kernel_rfl) (by kernel_rfl) (by kernel_rfl)
  · cases h; exact tok1 (by kernel_rfl) (by kernel_rfl) (by kernel_rfl)
  · cases h; exact tok1 (by kernel_rfl) (by kernel_rfl) (by kernel_rfl)
  · cases h; exact tok1 (by kernel_rfl) (by kernel_rfl) (by kernel_rfl)
  · cases h; exact tok1 (by kernel_rfl) (by kernel_rfl) (by kernel_rfl)
  · cases h; exact tok1 (by kernel_rfl) (by kernel_rfl) (by kernel_rfl)
  · cases h; exact tok1 (by kernel_rfl) (by kernel_rfl) (by kernel_rfl)
  · cases h; exact tok1 (by kernel_rfl) (by kernel_rfl) (by kernel_rfl)
  · cases h; exact tok1 (by kernel_rfl) (by kernel_rfl) (by kernel_rfl)
  · cases h
theorem tok_4 : TOk Try.prog T_4 := by
  intro t ti h
  unfold T_4 at h
  split at h
  · cases h; exact tok1 (by kernel_rfl) (by kernel_rfl) (by kernel_rfl)
  · cases h; exact tok1 (by kernel_rfl) (by kernel_rfl) (by kernel_rfl)
  · cases h; exact tok1 (by kernel_rfl) (by kernel_rfl) (by kernel_rfl)
  · cases h; exact tok1 (by kernel_rfl) (by kernel_rfl) (by kernel_rfl)
  · cases h; exact tok1 (by kernel_rfl) (by kernel_rfl) (by kernel_rfl)
  · cases h; exact tok1 (by kernel_rfl) (by kernel_rfl) (by kernel_rfl)
  · cases h; exact tok1 (by kernel_rfl) (by kernel_rfl) (by kernel_rfl)
  · cases h; exact tok1 (by kernel_rfl) (by kernel_rfl) (by kernel_rfl)
  · cases h; exact tok1 (by kernel_rfl) (by kernel_rfl) (by kernel_rfl)
  · cases h; exact tok1 (by kernel_rfl) (by kernel_rfl) (by kernel_rfl)
  · cases h; exact tok1 (by kernel_rfl) (by kernel_rfl) (by kernel_rfl)
  · cases h; exact tok1 (by kernel_rfl) (by kernel_rfl) (by kernel_rfl)
  · cases h; exact tok1 (by kernel_rfl) (by kernel_rfl) (by kernel_rfl)
  · cases h; exact tok1 (by kernel_rfl) (by kernel_rfl) (by kernel_rfl)
  · cases h; exact tok1 (by kernel_rfl) (by kernel_rfl) (by kernel_rfl)
  · cases h; exact tok1 (by kernel_rfl) (by kernel_rfl) (by kernel_rfl)
  · cases h; exact tok1 (by kernel_rfl) (by kernel_rfl) (by kernel_rfl)
  · cases h; exact tok1 (by kernel_rfl) (by kernel_rfl) (by kernel_rfl)
  · cases h; exact tok1 (by kernel_rfl) (by kernel_rfl) (by kernel_rfl)
  · cases h; exact tok1 (by kernel_rfl) (by kernel_rfl) (by kernel_rfl)
  · cases h; exact tok1 (by kernel_rfl) (by kernel_rfl) (by kernel_rfl)
  · cases h; exact tok1 (by kernel_rfl) (by kernel_rfl) (by kernel_rfl)
  · cases h; exact tok1 (by kernel_rfl) (by kernel_rfl) (by kernel_rfl)
  · cases h; exact tok1 (by kernel_rfl) (by kernel_rfl) (by kernel_rfl)
  · cases h
theorem tok_5 : TOk Try.prog T_5 := by
  intro t ti h
  unfold T_5 at h
  split at h
  · cases h; exact tok1 (by kernel_rfl) (by kernel_rfl) (by kernel_rfl)
  · cases h; exact tok1 (by kernel_rfl) (by kernel_rfl) (by kernel_rfl)
  · cases h; exact tok1 (by kernel_rfl) (by kernel_rfl) (by kernel_rfl)
  · cases h; exact tok1 (by kernel_rfl) (by kernel_rfl) (by kernel_rfl)
  · cases h; exact tok1 (by kernel_rfl) (by kernel_rfl) (by kernel_rfl)
  · cases h; exact tok1 (by kernel_rfl) (by kernel_rfl) (by kernel_rfl)
  · cases h; exact tok1 (by kernel_rfl) (by kernel_rfl) (by kernel_rfl)
  · cases h; exact tok1 (by kernel_rfl) (by kernel_rfl) (by kernel_rfl)
  · cases h; exact tok1 (by kernel_rfl) (by kernel_rfl) (by kernel_rfl)
  · cases h; exact tok1 (by kernel_rfl) (by kernel_rfl) (by kernel_rfl)
  · cases h; exact tok1 (by kernel_rfl) (by kernel_rfl) (by kernel_rfl)
  · cases h; exact tok1 (by kernel_rfl) (by kernel_rfl) (by kernel_rfl)
  · cases h; exact tok1 (by kernel_rfl) (by kernel_rfl) (by kernel_rfl)
  · cases h; exact tok1 (by kernel_rfl) (by kernel_rfl) (by kernel_rfl)
  · cases h; exact tok1 (by kernel_rfl) (by kernel_rfl) (by kernel_rfl)
  · cases h; exact tok1 (by kernel_rfl) (by kernel_rfl) (by kernel_rfl)
  · cases h; exact tok1 (by kernel_rfl) (by kernel_rfl) (by kernel_rfl)
  · cases h; exact tok1 (by kernel_rfl) (by kernel_rfl) (by kernel_rfl)
  · cases h; exact tok1 (by kernel_rfl) (by kernel_rfl) (by kernel_rfl)
  · cases h; exact tok1 (by kernel_rfl) (by kernel_rfl) (by kernel_rfl)
  · cases h; exact tok1 (by kernel_rfl) (by kernel_rfl) (by kernel_rfl)
  · cases h; exact tok1 (by kernel_rfl) (by kernel_rfl) (by kernel_rfl)
  · cases h; exact tok1 (by kernel_rfl) (by kernel_rfl) (by kernel_rfl)
  · cases h; exact tok1 (by kernel_rfl) (by kernel_rfl) (by kernel_rfl)
  · cases h
theorem tok_6 : TOk Try.prog T_6 := by
  intro t ti h
  unfold T_6 at h
  split at h
  · cases h; exact tok1 (by kernel_rfl) (by kernel_rfl) (by kernel_rfl)
  · cases h; exact tok1 (by kernel_rfl) (by kernel_rfl) (by kernel_rfl)
  · cases h; exact tok1 (by kernel_rfl) (by kernel_rfl) (by kernel_rfl)
  · cases h; exact tok1 (by kernel_rfl) (by kernel_rfl) (by kernel_rfl)
  · cases h; exact tok1 (by kernel_rfl) (by kernel_rfl) (by kernel_rfl)
  · cases h; exact tok1 (by kernel_rfl) (by kernel_rfl) (by kernel_rfl)
  · cases h; exact tok1 (by kernel_rfl) (by kernel_rfl) (by kernel_rfl)
  · cases h; exact tok1 (by kernel_rfl) (by kernel_rfl) (by kernel_rfl)
  · cases h; exact tok1 (by kernel_rfl) (by kernel_rfl) (by kernel_rfl)
  · cases h; exact tok1 (by kernel_rfl) (by kernel_rfl) (by kernel_rfl)
  · cases h; exact tok1 (by kernel_rfl) (by kernel_rfl) (by kernel_rfl)
  · cases h; exact tok1 (by kernel_rfl) (by kernel_rfl) (by kernel_rfl)
  · cases h; exact tok1 (by kernel_rfl) (by kernel_rfl) (by kernel_rfl)
  · cases h; exact tok1 (by kernel_rfl) (by kernel_rfl) (by kernel_rfl)
  · cases h; exact tok1 (by kernel_rfl) (by kernel_rfl) (by kernel_rfl)
  · cases h; exact tok1 (by kernel_rfl) (by kernel_rfl) (by kernel_rfl)
  · cases h; exact tok1 (by kernel_rfl) (by kernel_rfl) (by kernel_rfl)
  · cases h; exact tok1 (by kernel_rfl) (by kernel_rfl) (by kernel_rfl)
  · cases h; exact tok1 (by kernel_rfl) (by kernel_rfl) (by kernel_rfl)
  · cases h; exact tok1 (by kernel_rfl) (by kernel_rfl) (by kernel_rfl)
  · cases h; exact tok1 (by kernel_rfl) (by kernel_rfl) (by kernel_rfl)
  · cases h; exact tok1 (by kernel_rfl) (by kernel_rfl) (by kernel_rfl)
  · cases h; exact tok1 (by kernel_rfl) (by kernel_rfl) (by kernel_rfl)
  · cases h; exact tok1 (by kernel_rfl) (by kernel_rfl) (by kernel_rfl)
  · cases h
theorem tok_7 : TOk Try.prog T_7 := by
  intro t ti h
  unfold T_7 at h
  split at h
  · cases h; exact tok1 (by kernel_rfl) (by kernel_rfl) (by kernel_rfl)
  · cases h; exact tok1 (by kernel_rfl) (by kernel_rfl) (by kernel_rfl)
  · cases h; exact tok1 (by kernel_rfl) (by kernel_rfl) (by kernel_rfl)
  · cases h
theorem tok : TOk Try.prog T := by
  intro t ti h
  unfold T at h
  split at h
  · exact tok_0 t ti h
  split at h
  · exact tok_1 t ti h
  split at h
  · exact tok_2 t ti h
  split at h
  · exact tok_3 t ti h
  split at h
  · exact tok_4 t ti h
  split at h
  · exact tok_5 t ti h
  split at h
  · exact tok_6 t ti h
  exact tok_7 t ti h
end Go.Proofs.Ytdmdcmhgfgookaa.A
