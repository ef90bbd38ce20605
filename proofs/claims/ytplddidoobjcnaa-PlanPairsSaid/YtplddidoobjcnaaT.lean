/- The types of this seat's translation, as the abstract machine uses them: what each is, its size, its zero value; each row is proved off the loaded program. -/
import Derived.Test.YtplddidoobjcnaaProg
import Derived.Test.YtplddidoobjcnaaBv
import Derived.KernelRfl
set_option linter.unusedSimpArgs false
namespace Go.Proofs.Ytplddidoobjcnaa
open AM

def ti1 : TI := ⟨TypeDesc.func #[] #[] false, 1, 8, AV.nilF, false⟩
def ti2 : TI := ⟨TypeDesc.int IntKind.i64, 1, 8, AV.int .i64 0, false⟩
def ti3 : TI := ⟨TypeDesc.int IntKind.i64, 1, 8, AV.int .i64 0, false⟩
def ti4 : TI := ⟨TypeDesc.bool, 1, 1, AV.bool false, false⟩
def ti5 : TI := ⟨TypeDesc.int IntKind.u8, 1, 1, AV.int .u8 0, false⟩
def ti6 : TI := ⟨TypeDesc.int IntKind.u8, 1, 1, AV.int .u8 0, false⟩
def ti7 : TI := ⟨TypeDesc.struct #[{ name := "x", type := 2, offset := 0, embedded := false, tag := "", pkgPath := "runtime", byteOffset := 0 }, { name := "y", type := 3, offset := 1, embedded := false, tag := "", pkgPath := "runtime", byteOffset := 8 }, { name := "signed", type := 4, offset := 2, embedded := false, tag := "", pkgPath := "runtime", byteOffset := 16 }, { name := "code", type := 6, offset := 3, embedded := false, tag := "", pkgPath := "runtime", byteOffset := 17 }], 4, 24, AV.agg [AV.int .i64 0, AV.int .i64 0, AV.bool false, AV.int .u8 0], false⟩
def ti8 : TI := ⟨TypeDesc.struct #[{ name := "x", type := 2, offset := 0, embedded := false, tag := "", pkgPath := "runtime", byteOffset := 0 }, { name := "y", type := 3, offset := 1, embedded := false, tag := "", pkgPath := "runtime", byteOffset := 8 }, { name := "signed", type := 4, offset := 2, embedded := false, tag := "", pkgPath := "runtime", byteOffset := 16 }, { name := "code", type := 6, offset := 3, embedded := false, tag := "", pkgPath := "runtime", byteOffset := 17 }], 4, 24, AV.agg [AV.int .i64 0, AV.int .i64 0, AV.bool false, AV.int .u8 0], false⟩
def ti9 : TI := ⟨TypeDesc.string, 1, 16, AV.str [], false⟩
def ti10 : TI := ⟨TypeDesc.string, 1, 16, AV.str [], false⟩
def ti11 : TI := ⟨TypeDesc.string, 1, 16, AV.str [], false⟩
def ti12 : TI := ⟨TypeDesc.int IntKind.u64, 1, 8, AV.int .u64 0, false⟩
def ti13 : TI := ⟨TypeDesc.struct #[{ name := "msg", type := 9, offset := 0, embedded := false, tag := "", pkgPath := "runtime", byteOffset := 0 }, { name := "addr", type := 12, offset := 1, embedded := false, tag := "", pkgPath := "runtime", byteOffset := 16 }], 2, 24, AV.agg [AV.str [], AV.int .u64 0], false⟩
def ti14 : TI := ⟨TypeDesc.struct #[{ name := "msg", type := 9, offset := 0, embedded := false, tag := "", pkgPath := "runtime", byteOffset := 0 }, { name := "addr", type := 12, offset := 1, embedded := false, tag := "", pkgPath := "runtime", byteOffset := 16 }], 2, 24, AV.agg [AV.str [], AV.int .u64 0], false⟩
def ti15 : TI := ⟨TypeDesc.pointer 85, 1, 8, AV.nilp, false⟩
def ti16 : TI := ⟨TypeDesc.pointer 88, 1, 8, AV.nilp, false⟩
def ti17 : TI := ⟨TypeDesc.pointer 97, 1, 8, AV.nilp, false⟩
def ti18 : TI := ⟨TypeDesc.struct #[{ name := "typ", type := 17, offset := 0, embedded := false, tag := "", pkgPath := "internal/runtime/maps", byteOffset := 0 }], 1, 8, AV.agg [AV.nilp], false⟩
def ti19 : TI := ⟨TypeDesc.struct #[{ name := "typ", type := 17, offset := 0, embedded := false, tag := "", pkgPath := "internal/runtime/maps", byteOffset := 0 }], 1, 8, AV.agg [AV.nilp], false⟩
def ti20 : TI := ⟨TypeDesc.interface #[], 1, 16, AV.nilI, false⟩
def ti21 : TI := ⟨TypeDesc.int IntKind.i32, 1, 4, AV.int .i32 0, false⟩
def ti22 : TI := ⟨TypeDesc.slice 27, 1, 24, AV.ds true [] 0 true, false⟩
def ti23 : TI := ⟨TypeDesc.pointer 68, 1, 8, AV.nilp, false⟩
def ti24 : TI := ⟨TypeDesc.func #[3] #[23] false, 1, 8, AV.nilF, false⟩
def ti25 : TI := ⟨TypeDesc.func #[3, 3] #[3] false, 1, 8, AV.nilF, false⟩
def ti26 : TI := ⟨TypeDesc.func #[3] #[] false, 1, 8, AV.nilF, false⟩
def ti27 : TI := ⟨TypeDesc.slice 5, 1, 24, AV.ds true [] 0 true, false⟩
def ti28 : TI := ⟨TypeDesc.int IntKind.i64, 1, 8, AV.int .i64 0, false⟩
def ti29 : TI := ⟨TypeDesc.func #[27] #[28] false, 1, 8, AV.nilF, false⟩
def ti30 : TI := ⟨TypeDesc.func #[27] #[27] false, 1, 8, AV.nilF, false⟩
def ti31 : TI := ⟨TypeDesc.func #[] #[4] false, 1, 8, AV.nilF, false⟩
def ti32 : TI := ⟨TypeDesc.func #[] #[27] false, 1, 8, AV.nilF, false⟩
def ti33 : TI := ⟨TypeDesc.func #[22, 3] #[4] false, 1, 8, AV.nilF, false⟩
def ti34 : TI := ⟨TypeDesc.slice 3, 1, 24, AV.ds true [] 0 true, false⟩
def ti35 : TI := ⟨TypeDesc.func #[] #[3] false, 1, 8, AV.nilF, false⟩
def ti36 : TI := ⟨TypeDesc.func #[3, 34] #[4] false, 1, 8, AV.nilF, false⟩
def ti37 : TI := ⟨TypeDesc.func #[] #[23] false, 1, 8, AV.nilF, false⟩
def ti38 : TI := ⟨TypeDesc.func #[3] #[28] false, 1, 8, AV.nilF, false⟩
def ti39 : TI := ⟨TypeDesc.func #[27, 27, 3] #[4] false, 1, 8, AV.nilF, false⟩
def ti40 : TI := ⟨TypeDesc.slice 44, 1, 24, AV.ds true [] 0 true, false⟩
def ti41 : TI := ⟨TypeDesc.pointer 70, 1, 8, AV.nilp, false⟩
def ti42 : TI := ⟨TypeDesc.func #[3] #[41] false, 1, 8, AV.nilF, false⟩
def ti43 : TI := ⟨TypeDesc.struct #[{ name := "Kind", type := 3, offset := 0, embedded := false, tag := "", pkgPath := "", byteOffset := 0 }, { name := "N", type := 3, offset := 1, embedded := false, tag := "", pkgPath := "", byteOffset := 8 }, { name := "B", type := 27, offset := 2, embedded := false, tag := "", pkgPath := "", byteOffset := 16 }], 3, 40, AV.agg [AV.int .i64 0, AV.int .i64 0, AV.ds true [] 0 true], false⟩
def ti44 : TI := ⟨TypeDesc.struct #[{ name := "Kind", type := 3, offset := 0, embedded := false, tag := "", pkgPath := "", byteOffset := 0 }, { name := "N", type := 3, offset := 1, embedded := false, tag := "", pkgPath := "", byteOffset := 8 }, { name := "B", type := 27, offset := 2, embedded := false, tag := "", pkgPath := "", byteOffset := 16 }], 3, 40, AV.agg [AV.int .i64 0, AV.int .i64 0, AV.ds true [] 0 true], false⟩
def ti45 : TI := ⟨TypeDesc.func #[] #[41] false, 1, 8, AV.nilF, false⟩
def ti46 : TI := ⟨TypeDesc.func #[23, 41] #[4] false, 1, 8, AV.nilF, false⟩
def ti47 : TI := ⟨TypeDesc.func #[3, 40] #[4] false, 1, 8, AV.nilF, false⟩
def ti48 : TI := ⟨TypeDesc.slice 58, 1, 24, AV.ds true [] 0 true, false⟩
def ti49 : TI := ⟨TypeDesc.slice 55, 1, 24, AV.ds true [] 0 true, false⟩
def ti51 : TI := ⟨TypeDesc.func #[48, 49] #[34, 28] false, 1, 8, AV.nilF, false⟩
def ti52 : TI := ⟨TypeDesc.func #[48] #[48] false, 1, 8, AV.nilF, false⟩
def ti53 : TI := ⟨TypeDesc.func #[49] #[49] false, 1, 8, AV.nilF, false⟩
def ti54 : TI := ⟨TypeDesc.struct #[{ name := "From", type := 3, offset := 0, embedded := false, tag := "", pkgPath := "", byteOffset := 0 }, { name := "To", type := 3, offset := 1, embedded := false, tag := "", pkgPath := "", byteOffset := 8 }], 2, 16, AV.agg [AV.int .i64 0, AV.int .i64 0], true⟩
def ti55 : TI := ⟨TypeDesc.struct #[{ name := "From", type := 3, offset := 0, embedded := false, tag := "", pkgPath := "", byteOffset := 0 }, { name := "To", type := 3, offset := 1, embedded := false, tag := "", pkgPath := "", byteOffset := 8 }], 2, 16, AV.agg [AV.int .i64 0, AV.int .i64 0], true⟩
def ti56 : TI := ⟨TypeDesc.func #[58, 58] #[4] false, 1, 8, AV.nilF, false⟩
def ti57 : TI := ⟨TypeDesc.struct #[{ name := "Version", type := 3, offset := 0, embedded := false, tag := "", pkgPath := "", byteOffset := 0 }, { name := "Target", type := 3, offset := 1, embedded := false, tag := "", pkgPath := "", byteOffset := 8 }, { name := "Back", type := 3, offset := 2, embedded := false, tag := "", pkgPath := "", byteOffset := 16 }], 3, 24, AV.agg [AV.int .i64 0, AV.int .i64 0, AV.int .i64 0], true⟩
def ti58 : TI := ⟨TypeDesc.struct #[{ name := "Version", type := 3, offset := 0, embedded := false, tag := "", pkgPath := "", byteOffset := 0 }, { name := "Target", type := 3, offset := 1, embedded := false, tag := "", pkgPath := "", byteOffset := 8 }, { name := "Back", type := 3, offset := 2, embedded := false, tag := "", pkgPath := "", byteOffset := 16 }], 3, 24, AV.agg [AV.int .i64 0, AV.int .i64 0, AV.int .i64 0], true⟩
def ti59 : TI := ⟨TypeDesc.func #[48, 49] #[4] false, 1, 8, AV.nilF, false⟩
def ti60 : TI := ⟨TypeDesc.func #[48, 49, 34] #[4] false, 1, 8, AV.nilF, false⟩
def ti61 : TI := ⟨TypeDesc.func #[34, 34] #[4] false, 1, 8, AV.nilF, false⟩
def ti62 : TI := ⟨TypeDesc.func #[34, 34, 49] #[4] false, 1, 8, AV.nilF, false⟩
def ti63 : TI := ⟨TypeDesc.func #[3, 3, 3, 3] #[4] false, 1, 8, AV.nilF, false⟩
def ti65 : TI := ⟨TypeDesc.func #[48, 3] #[48, 4] false, 1, 8, AV.nilF, false⟩
def ti66 : TI := ⟨TypeDesc.func #[48, 49, 3] #[4] false, 1, 8, AV.nilF, false⟩
def ti67 : TI := ⟨TypeDesc.struct #[{ name := "b", type := 27, offset := 0, embedded := false, tag := "", pkgPath := "concordat/disk", byteOffset := 0 }, { name := "room", type := 3, offset := 1, embedded := false, tag := "", pkgPath := "concordat/disk", byteOffset := 24 }, { name := "left", type := 3, offset := 2, embedded := false, tag := "", pkgPath := "concordat/disk", byteOffset := 32 }, { name := "dead", type := 4, offset := 3, embedded := false, tag := "", pkgPath := "concordat/disk", byteOffset := 40 }], 4, 48, AV.agg [AV.ds true [] 0 true, AV.int .i64 0, AV.int .i64 0, AV.bool false], false⟩
def ti68 : TI := ⟨TypeDesc.struct #[{ name := "b", type := 27, offset := 0, embedded := false, tag := "", pkgPath := "concordat/disk", byteOffset := 0 }, { name := "room", type := 3, offset := 1, embedded := false, tag := "", pkgPath := "concordat/disk", byteOffset := 24 }, { name := "left", type := 3, offset := 2, embedded := false, tag := "", pkgPath := "concordat/disk", byteOffset := 32 }, { name := "dead", type := 4, offset := 3, embedded := false, tag := "", pkgPath := "concordat/disk", byteOffset := 40 }], 4, 48, AV.agg [AV.ds true [] 0 true, AV.int .i64 0, AV.int .i64 0, AV.bool false], false⟩
def ti69 : TI := ⟨TypeDesc.struct #[{ name := "B", type := 9, offset := 0, embedded := false, tag := "", pkgPath := "", byteOffset := 0 }, { name := "Room", type := 3, offset := 1, embedded := false, tag := "", pkgPath := "", byteOffset := 16 }, { name := "Left", type := 3, offset := 2, embedded := false, tag := "", pkgPath := "", byteOffset := 24 }, { name := "IsDead", type := 4, offset := 3, embedded := false, tag := "", pkgPath := "", byteOffset := 32 }], 4, 40, AV.agg [AV.str [], AV.int .i64 0, AV.int .i64 0, AV.bool false], true⟩
def ti70 : TI := ⟨TypeDesc.struct #[{ name := "B", type := 9, offset := 0, embedded := false, tag := "", pkgPath := "", byteOffset := 0 }, { name := "Room", type := 3, offset := 1, embedded := false, tag := "", pkgPath := "", byteOffset := 16 }, { name := "Left", type := 3, offset := 2, embedded := false, tag := "", pkgPath := "", byteOffset := 24 }, { name := "IsDead", type := 4, offset := 3, embedded := false, tag := "", pkgPath := "", byteOffset := 32 }], 4, 40, AV.agg [AV.str [], AV.int .i64 0, AV.int .i64 0, AV.bool false], true⟩
def ti71 : TI := ⟨TypeDesc.func #[48, 49] #[28] false, 1, 8, AV.nilF, false⟩
def ti72 : TI := ⟨TypeDesc.pointer 75, 1, 8, AV.nilp, false⟩
def ti73 : TI := ⟨TypeDesc.map 81 4, 1, 8, AV.nilm, false⟩
def ti74 : TI := ⟨TypeDesc.struct #[{ name := "edges", type := 49, offset := 0, embedded := false, tag := "", pkgPath := "concordat/plan", byteOffset := 0 }, { name := "dead", type := 73, offset := 1, embedded := false, tag := "", pkgPath := "concordat/plan", byteOffset := 24 }, { name := "steps", type := 34, offset := 2, embedded := false, tag := "", pkgPath := "concordat/plan", byteOffset := 32 }], 3, 56, AV.agg [AV.ds true [] 0 true, AV.nilm, AV.ds true [] 0 true], false⟩
def ti75 : TI := ⟨TypeDesc.struct #[{ name := "edges", type := 49, offset := 0, embedded := false, tag := "", pkgPath := "concordat/plan", byteOffset := 0 }, { name := "dead", type := 73, offset := 1, embedded := false, tag := "", pkgPath := "concordat/plan", byteOffset := 24 }, { name := "steps", type := 34, offset := 2, embedded := false, tag := "", pkgPath := "concordat/plan", byteOffset := 32 }], 3, 56, AV.agg [AV.ds true [] 0 true, AV.nilm, AV.ds true [] 0 true], false⟩
def ti76 : TI := ⟨TypeDesc.func #[48] #[4] false, 1, 8, AV.nilF, false⟩
def ti77 : TI := ⟨TypeDesc.func #[3, 3, 3] #[4] false, 1, 8, AV.nilF, false⟩
def ti79 : TI := ⟨TypeDesc.func #[58] #[3, 4] false, 1, 8, AV.nilF, false⟩
def ti80 : TI := ⟨TypeDesc.array 6 3, 6, 48, AV.agg [AV.int .i64 0, AV.int .i64 0, AV.int .i64 0, AV.int .i64 0, AV.int .i64 0, AV.int .i64 0], true⟩
def ti81 : TI := ⟨TypeDesc.array 6 3, 6, 48, AV.agg [AV.int .i64 0, AV.int .i64 0, AV.int .i64 0, AV.int .i64 0, AV.int .i64 0, AV.int .i64 0], true⟩
def ti82 : TI := ⟨TypeDesc.func #[48] #[81] false, 1, 8, AV.nilF, false⟩
def ti83 : TI := ⟨TypeDesc.func #[] #[9] false, 1, 8, AV.nilF, false⟩
def ti84 : TI := ⟨TypeDesc.struct #[{ name := "_interface", type := 17, offset := 0, embedded := false, tag := "", pkgPath := "runtime", byteOffset := 0 }, { name := "concrete", type := 17, offset := 1, embedded := false, tag := "", pkgPath := "runtime", byteOffset := 8 }, { name := "asserted", type := 17, offset := 2, embedded := false, tag := "", pkgPath := "runtime", byteOffset := 16 }, { name := "missingMethod", type := 9, offset := 3, embedded := false, tag := "", pkgPath := "runtime", byteOffset := 24 }], 4, 40, AV.agg [AV.nilp, AV.nilp, AV.nilp, AV.str []], false⟩
def ti85 : TI := ⟨TypeDesc.struct #[{ name := "_interface", type := 17, offset := 0, embedded := false, tag := "", pkgPath := "runtime", byteOffset := 0 }, { name := "concrete", type := 17, offset := 1, embedded := false, tag := "", pkgPath := "runtime", byteOffset := 8 }, { name := "asserted", type := 17, offset := 2, embedded := false, tag := "", pkgPath := "runtime", byteOffset := 16 }, { name := "missingMethod", type := 9, offset := 3, embedded := false, tag := "", pkgPath := "runtime", byteOffset := 24 }], 4, 40, AV.agg [AV.nilp, AV.nilp, AV.nilp, AV.str []], false⟩
def ti86 : TI := ⟨TypeDesc.array 0 16, 0, 0, AV.agg [], false⟩
def ti87 : TI := ⟨TypeDesc.struct #[{ name := "_", type := 86, offset := 0, embedded := false, tag := "", pkgPath := "runtime", byteOffset := 0 }], 0, 0, AV.agg [], false⟩
def ti88 : TI := ⟨TypeDesc.struct #[{ name := "_", type := 86, offset := 0, embedded := false, tag := "", pkgPath := "runtime", byteOffset := 0 }], 0, 0, AV.agg [], false⟩
def ti89 : TI := ⟨TypeDesc.int IntKind.u32, 1, 4, AV.int .u32 0, false⟩
def ti90 : TI := ⟨TypeDesc.int IntKind.u8, 1, 1, AV.int .u8 0, false⟩
def ti91 : TI := ⟨TypeDesc.int IntKind.u8, 1, 1, AV.int .u8 0, false⟩
def ti92 : TI := ⟨TypeDesc.func #[98, 98] #[4] false, 1, 8, AV.nilF, false⟩
def ti93 : TI := ⟨TypeDesc.pointer 5, 1, 8, AV.nilp, false⟩
def ti94 : TI := ⟨TypeDesc.int IntKind.i32, 1, 4, AV.int .i32 0, false⟩
def ti95 : TI := ⟨TypeDesc.int IntKind.i32, 1, 4, AV.int .i32 0, false⟩
def ti96 : TI := ⟨TypeDesc.struct #[{ name := "Size_", type := 12, offset := 0, embedded := false, tag := "", pkgPath := "", byteOffset := 0 }, { name := "PtrBytes", type := 12, offset := 1, embedded := false, tag := "", pkgPath := "", byteOffset := 8 }, { name := "Hash", type := 89, offset := 2, embedded := false, tag := "", pkgPath := "", byteOffset := 16 }, { name := "TFlag", type := 90, offset := 3, embedded := false, tag := "", pkgPath := "", byteOffset := 20 }, { name := "Align_", type := 5, offset := 4, embedded := false, tag := "", pkgPath := "", byteOffset := 21 }, { name := "FieldAlign_", type := 5, offset := 5, embedded := false, tag := "", pkgPath := "", byteOffset := 22 }, { name := "Kind_", type := 91, offset := 6, embedded := false, tag := "", pkgPath := "", byteOffset := 23 }, { name := "Equal", type := 92, offset := 7, embedded := false, tag := "", pkgPath := "", byteOffset := 24 }, { name := "GCData", type := 93, offset := 8, embedded := false, tag := "", pkgPath := "", byteOffset := 32 }, { name := "Str", type := 94, offset := 9, embedded := false, tag := "", pkgPath := "", byteOffset := 40 }, { name := "PtrToThis", type := 95, offset := 10, embedded := false, tag := "", pkgPath := "", byteOffset := 44 }], 11, 48, AV.agg [AV.int .u64 0, AV.int .u64 0, AV.int .u32 0, AV.int .u8 0, AV.int .u8 0, AV.int .u8 0, AV.int .u8 0, AV.nilF, AV.nilp, AV.int .i32 0, AV.int .i32 0], false⟩
def ti97 : TI := ⟨TypeDesc.struct #[{ name := "Size_", type := 12, offset := 0, embedded := false, tag := "", pkgPath := "", byteOffset := 0 }, { name := "PtrBytes", type := 12, offset := 1, embedded := false, tag := "", pkgPath := "", byteOffset := 8 }, { name := "Hash", type := 89, offset := 2, embedded := false, tag := "", pkgPath := "", byteOffset := 16 }, { name := "TFlag", type := 90, offset := 3, embedded := false, tag := "", pkgPath := "", byteOffset := 20 }, { name := "Align_", type := 5, offset := 4, embedded := false, tag := "", pkgPath := "", byteOffset := 21 }, { name := "FieldAlign_", type := 5, offset := 5, embedded := false, tag := "", pkgPath := "", byteOffset := 22 }, { name := "Kind_", type := 91, offset := 6, embedded := false, tag := "", pkgPath := "", byteOffset := 23 }, { name := "Equal", type := 92, offset := 7, embedded := false, tag := "", pkgPath := "", byteOffset := 24 }, { name := "GCData", type := 93, offset := 8, embedded := false, tag := "", pkgPath := "", byteOffset := 32 }, { name := "Str", type := 94, offset := 9, embedded := false, tag := "", pkgPath := "", byteOffset := 40 }, { name := "PtrToThis", type := 95, offset := 10, embedded := false, tag := "", pkgPath := "", byteOffset := 44 }], 11, 48, AV.agg [AV.int .u64 0, AV.int .u64 0, AV.int .u32 0, AV.int .u8 0, AV.int .u8 0, AV.int .u8 0, AV.int .u8 0, AV.nilF, AV.nilp, AV.int .i32 0, AV.int .i32 0], false⟩
def tabL : List (Option TI) := [none, some ti1, some ti2, some ti3, some ti4, some ti5, some ti6, some ti7, some ti8, some ti9, some ti10, some ti11, some ti12, some ti13, some ti14, some ti15, some ti16, some ti17, some ti18, some ti19, some ti20, some ti21, some ti22, some ti23, some ti24, some ti25, some ti26, some ti27, some ti28, some ti29, some ti30, some ti31, some ti32, some ti33, some ti34, some ti35, some ti36, some ti37, some ti38, some ti39, some ti40, some ti41, some ti42, some ti43, some ti44, some ti45, some ti46, some ti47, some ti48, some ti49, none, some ti51, some ti52, some ti53, some ti54, some ti55, some ti56, some ti57, some ti58, some ti59, some ti60, some ti61, some ti62, some ti63, none, some ti65, some ti66, some ti67, some ti68, some ti69, some ti70, some ti71, some ti72, some ti73, some ti74, some ti75, some ti76, some ti77, none, some ti79, some ti80, some ti81, some ti82, some ti83, some ti84, some ti85, some ti86, some ti87, some ti88, some ti89, some ti90, some ti91, some ti92, some ti93, some ti94, some ti95, some ti96, some ti97, none]
def tab : TT := fun t => (tabL[t]?).getD none
theorem tab_1 : tab 1 = some ⟨TypeDesc.func #[] #[] false, 1, 8, AV.nilF, false⟩ := rfl
theorem tab_2 : tab 2 = some ⟨TypeDesc.int IntKind.i64, 1, 8, AV.int .i64 0, false⟩ := rfl
theorem tab_3 : tab 3 = some ⟨TypeDesc.int IntKind.i64, 1, 8, AV.int .i64 0, false⟩ := rfl
theorem tab_4 : tab 4 = some ⟨TypeDesc.bool, 1, 1, AV.bool false, false⟩ := rfl
theorem tab_5 : tab 5 = some ⟨TypeDesc.int IntKind.u8, 1, 1, AV.int .u8 0, false⟩ := rfl
theorem tab_6 : tab 6 = some ⟨TypeDesc.int IntKind.u8, 1, 1, AV.int .u8 0, false⟩ := rfl
theorem tab_7 : tab 7 = some ⟨TypeDesc.struct #[{ name := "x", type := 2, offset := 0, embedded := false, tag := "", pkgPath := "runtime", byteOffset := 0 }, { name := "y", type := 3, offset := 1, embedded := false, tag := "", pkgPath := "runtime", byteOffset := 8 }, { name := "signed", type := 4, offset := 2, embedded := false, tag := "", pkgPath := "runtime", byteOffset := 16 }, { name := "code", type := 6, offset := 3, embedded := false, tag := "", pkgPath := "runtime", byteOffset := 17 }], 4, 24, AV.agg [AV.int .i64 0, AV.int .i64 0, AV.bool false, AV.int .u8 0], false⟩ := rfl
theorem tab_8 : tab 8 = some ⟨TypeDesc.struct #[{ name := "x", type := 2, offset := 0, embedded := false, tag := "", pkgPath := "runtime", byteOffset := 0 }, { name := "y", type := 3, offset := 1, embedded := false, tag := "", pkgPath := "runtime", byteOffset := 8 }, { name := "signed", type := 4, offset := 2, embedded := false, tag := "", pkgPath := "runtime", byteOffset := 16 }, { name := "code", type := 6, offset := 3, embedded := false, tag := "", pkgPath := "runtime", byteOffset := 17 }], 4, 24, AV.agg [AV.int .i64 0, AV.int .i64 0, AV.bool false, AV.int .u8 0], false⟩ := rfl
theorem tab_9 : tab 9 = some ⟨TypeDesc.string, 1, 16, AV.str [], false⟩ := rfl
theorem tab_10 : tab 10 = some ⟨TypeDesc.string, 1, 16, AV.str [], false⟩ := rfl
theorem tab_11 : tab 11 = some ⟨TypeDesc.string, 1, 16, AV.str [], false⟩ := rfl
theorem tab_12 : tab 12 = some ⟨TypeDesc.int IntKind.u64, 1, 8, AV.int .u64 0, false⟩ := rfl
theorem tab_13 : tab 13 = some ⟨TypeDesc.struct #[{ name := "msg", type := 9, offset := 0, embedded := false, tag := "", pkgPath := "runtime", byteOffset := 0 }, { name := "addr", type := 12, offset := 1, embedded := false, tag := "", pkgPath := "runtime", byteOffset := 16 }], 2, 24, AV.agg [AV.str [], AV.int .u64 0], false⟩ := rfl
theorem tab_14 : tab 14 = some ⟨TypeDesc.struct #[{ name := "msg", type := 9, offset := 0, embedded := false, tag := "", pkgPath := "runtime", byteOffset := 0 }, { name := "addr", type := 12, offset := 1, embedded := false, tag := "", pkgPath := "runtime", byteOffset := 16 }], 2, 24, AV.agg [AV.str [], AV.int .u64 0], false⟩ := rfl
theorem tab_15 : tab 15 = some ⟨TypeDesc.pointer 85, 1, 8, AV.nilp, false⟩ := rfl
theorem tab_16 : tab 16 = some ⟨TypeDesc.pointer 88, 1, 8, AV.nilp, false⟩ := rfl
theorem tab_17 : tab 17 = some ⟨TypeDesc.pointer 97, 1, 8, AV.nilp, false⟩ := rfl
theorem tab_18 : tab 18 = some ⟨TypeDesc.struct #[{ name := "typ", type := 17, offset := 0, embedded := false, tag := "", pkgPath := "internal/runtime/maps", byteOffset := 0 }], 1, 8, AV.agg [AV.nilp], false⟩ := rfl
theorem tab_19 : tab 19 = some ⟨TypeDesc.struct #[{ name := "typ", type := 17, offset := 0, embedded := false, tag := "", pkgPath := "internal/runtime/maps", byteOffset := 0 }], 1, 8, AV.agg [AV.nilp], false⟩ := rfl
theorem tab_20 : tab 20 = some ⟨TypeDesc.interface #[], 1, 16, AV.nilI, false⟩ := rfl
theorem tab_21 : tab 21 = some ⟨TypeDesc.int IntKind.i32, 1, 4, AV.int .i32 0, false⟩ := rfl
theorem tab_22 : tab 22 = some ⟨TypeDesc.slice 27, 1, 24, AV.ds true [] 0 true, false⟩ := rfl
theorem tab_23 : tab 23 = some ⟨TypeDesc.pointer 68, 1, 8, AV.nilp, false⟩ := rfl
theorem tab_24 : tab 24 = some ⟨TypeDesc.func #[3] #[23] false, 1, 8, AV.nilF, false⟩ := rfl
theorem tab_25 : tab 25 = some ⟨TypeDesc.func #[3, 3] #[3] false, 1, 8, AV.nilF, false⟩ := rfl
theorem tab_26 : tab 26 = some ⟨TypeDesc.func #[3] #[] false, 1, 8, AV.nilF, false⟩ := rfl
theorem tab_27 : tab 27 = some ⟨TypeDesc.slice 5, 1, 24, AV.ds true [] 0 true, false⟩ := rfl
theorem tab_28 : tab 28 = some ⟨TypeDesc.int IntKind.i64, 1, 8, AV.int .i64 0, false⟩ := rfl
theorem tab_29 : tab 29 = some ⟨TypeDesc.func #[27] #[28] false, 1, 8, AV.nilF, false⟩ := rfl
theorem tab_30 : tab 30 = some ⟨TypeDesc.func #[27] #[27] false, 1, 8, AV.nilF, false⟩ := rfl
theorem tab_31 : tab 31 = some ⟨TypeDesc.func #[] #[4] false, 1, 8, AV.nilF, false⟩ := rfl
theorem tab_32 : tab 32 = some ⟨TypeDesc.func #[] #[27] false, 1, 8, AV.nilF, false⟩ := rfl
theorem tab_33 : tab 33 = some ⟨TypeDesc.func #[22, 3] #[4] false, 1, 8, AV.nilF, false⟩ := rfl
theorem tab_34 : tab 34 = some ⟨TypeDesc.slice 3, 1, 24, AV.ds true [] 0 true, false⟩ := rfl
theorem tab_35 : tab 35 = some ⟨TypeDesc.func #[] #[3] false, 1, 8, AV.nilF, false⟩ := rfl
theorem tab_36 : tab 36 = some ⟨TypeDesc.func #[3, 34] #[4] false, 1, 8, AV.nilF, false⟩ := rfl
theorem tab_37 : tab 37 = some ⟨TypeDesc.func #[] #[23] false, 1, 8, AV.nilF, false⟩ := rfl
theorem tab_38 : tab 38 = some ⟨TypeDesc.func #[3] #[28] false, 1, 8, AV.nilF, false⟩ := rfl
theorem tab_39 : tab 39 = some ⟨TypeDesc.func #[27, 27, 3] #[4] false, 1, 8, AV.nilF, false⟩ := rfl
theorem tab_40 : tab 40 = some ⟨TypeDesc.slice 44, 1, 24, AV.ds true [] 0 true, false⟩ := rfl
theorem tab_41 : tab 41 = some ⟨TypeDesc.pointer 70, 1, 8, AV.nilp, false⟩ := rfl
theorem tab_42 : tab 42 = some ⟨TypeDesc.func #[3] #[41] false, 1, 8, AV.nilF, false⟩ := rfl
theorem tab_43 : tab 43 = some ⟨TypeDesc.struct #[{ name := "Kind", type := 3, offset := 0, embedded := false, tag := "", pkgPath := "", byteOffset := 0 }, { name := "N", type := 3, offset := 1, embedded := false, tag := "", pkgPath := "", byteOffset := 8 }, { name := "B", type := 27, offset := 2, embedded := false, tag := "", pkgPath := "", byteOffset := 16 }], 3, 40, AV.agg [AV.int .i64 0, AV.int .i64 0, AV.ds true [] 0 true], false⟩ := rfl
theorem tab_44 : tab 44 = some ⟨TypeDesc.struct #[{ name := "Kind", type := 3, offset := 0, embedded := false, tag := "", pkgPath := "", byteOffset := 0 }, { name := "N", type := 3, offset := 1, embedded := false, tag := "", pkgPath := "", byteOffset := 8 }, { name := "B", type := 27, offset := 2, embedded := false, tag := "", pkgPath := "", byteOffset := 16 }], 3, 40, AV.agg [AV.int .i64 0, AV.int .i64 0, AV.ds true [] 0 true], false⟩ := rfl
theorem tab_45 : tab 45 = some ⟨TypeDesc.func #[] #[41] false, 1, 8, AV.nilF, false⟩ := rfl
theorem tab_46 : tab 46 = some ⟨TypeDesc.func #[23, 41] #[4] false, 1, 8, AV.nilF, false⟩ := rfl
theorem tab_47 : tab 47 = some ⟨TypeDesc.func #[3, 40] #[4] false, 1, 8, AV.nilF, false⟩ := rfl
theorem tab_48 : tab 48 = some ⟨TypeDesc.slice 58, 1, 24, AV.ds true [] 0 true, false⟩ := rfl
theorem tab_49 : tab 49 = some ⟨TypeDesc.slice 55, 1, 24, AV.ds true [] 0 true, false⟩ := rfl
theorem tab_51 : tab 51 = some ⟨TypeDesc.func #[48, 49] #[34, 28] false, 1, 8, AV.nilF, false⟩ := rfl
theorem tab_52 : tab 52 = some ⟨TypeDesc.func #[48] #[48] false, 1, 8, AV.nilF, false⟩ := rfl
theorem tab_53 : tab 53 = some ⟨TypeDesc.func #[49] #[49] false, 1, 8, AV.nilF, false⟩ := rfl
theorem tab_54 : tab 54 = some ⟨TypeDesc.struct #[{ name := "From", type := 3, offset := 0, embedded := false, tag := "", pkgPath := "", byteOffset := 0 }, { name := "To", type := 3, offset := 1, embedded := false, tag := "", pkgPath := "", byteOffset := 8 }], 2, 16, AV.agg [AV.int .i64 0, AV.int .i64 0], true⟩ := rfl
theorem tab_55 : tab 55 = some ⟨TypeDesc.struct #[{ name := "From", type := 3, offset := 0, embedded := false, tag := "", pkgPath := "", byteOffset := 0 }, { name := "To", type := 3, offset := 1, embedded := false, tag := "", pkgPath := "", byteOffset := 8 }], 2, 16, AV.agg [AV.int .i64 0, AV.int .i64 0], true⟩ := rfl
theorem tab_56 : tab 56 = some ⟨TypeDesc.func #[58, 58] #[4] false, 1, 8, AV.nilF, false⟩ := rfl
theorem tab_57 : tab 57 = some ⟨TypeDesc.struct #[{ name := "Version", type := 3, offset := 0, embedded := false, tag := "", pkgPath := "", byteOffset := 0 }, { name := "Target", type := 3, offset := 1, embedded := false, tag := "", pkgPath := "", byteOffset := 8 }, { name := "Back", type := 3, offset := 2, embedded := false, tag := "", pkgPath := "", byteOffset := 16 }], 3, 24, AV.agg [AV.int .i64 0, AV.int .i64 0, AV.int .i64 0], true⟩ := rfl
theorem tab_58 : tab 58 = some ⟨TypeDesc.struct #[{ name := "Version", type := 3, offset := 0, embedded := false, tag := "", pkgPath := "", byteOffset := 0 }, { name := "Target", type := 3, offset := 1, embedded := false, tag := "", pkgPath := "", byteOffset := 8 }, { name := "Back", type := 3, offset := 2, embedded := false, tag := "", pkgPath := "", byteOffset := 16 }], 3, 24, AV.agg [AV.int .i64 0, AV.int .i64 0, AV.int .i64 0], true⟩ := rfl
theorem tab_59 : tab 59 = some ⟨TypeDesc.func #[48, 49] #[4] false, 1, 8, AV.nilF, false⟩ := rfl
theorem tab_60 : tab 60 = some ⟨TypeDesc.func #[48, 49, 34] #[4] false, 1, 8, AV.nilF, false⟩ := rfl
theorem tab_61 : tab 61 = some ⟨TypeDesc.func #[34, 34] #[4] false, 1, 8, AV.nilF, false⟩ := rfl
theorem tab_62 : tab 62 = some ⟨TypeDesc.func #[34, 34, 49] #[4] false, 1, 8, AV.nilF, false⟩ := rfl
theorem tab_63 : tab 63 = some ⟨TypeDesc.func #[3, 3, 3, 3] #[4] false, 1, 8, AV.nilF, false⟩ := rfl
theorem tab_65 : tab 65 = some ⟨TypeDesc.func #[48, 3] #[48, 4] false, 1, 8, AV.nilF, false⟩ := rfl
theorem tab_66 : tab 66 = some ⟨TypeDesc.func #[48, 49, 3] #[4] false, 1, 8, AV.nilF, false⟩ := rfl
theorem tab_67 : tab 67 = some ⟨TypeDesc.struct #[{ name := "b", type := 27, offset := 0, embedded := false, tag := "", pkgPath := "concordat/disk", byteOffset := 0 }, { name := "room", type := 3, offset := 1, embedded := false, tag := "", pkgPath := "concordat/disk", byteOffset := 24 }, { name := "left", type := 3, offset := 2, embedded := false, tag := "", pkgPath := "concordat/disk", byteOffset := 32 }, { name := "dead", type := 4, offset := 3, embedded := false, tag := "", pkgPath := "concordat/disk", byteOffset := 40 }], 4, 48, AV.agg [AV.ds true [] 0 true, AV.int .i64 0, AV.int .i64 0, AV.bool false], false⟩ := rfl
theorem tab_68 : tab 68 = some ⟨TypeDesc.struct #[{ name := "b", type := 27, offset := 0, embedded := false, tag := "", pkgPath := "concordat/disk", byteOffset := 0 }, { name := "room", type := 3, offset := 1, embedded := false, tag := "", pkgPath := "concordat/disk", byteOffset := 24 }, { name := "left", type := 3, offset := 2, embedded := false, tag := "", pkgPath := "concordat/disk", byteOffset := 32 }, { name := "dead", type := 4, offset := 3, embedded := false, tag := "", pkgPath := "concordat/disk", byteOffset := 40 }], 4, 48, AV.agg [AV.ds true [] 0 true, AV.int .i64 0, AV.int .i64 0, AV.bool false], false⟩ := rfl
theorem tab_69 : tab 69 = some ⟨TypeDesc.struct #[{ name := "B", type := 9, offset := 0, embedded := false, tag := "", pkgPath := "", byteOffset := 0 }, { name := "Room", type := 3, offset := 1, embedded := false, tag := "", pkgPath := "", byteOffset := 16 }, { name := "Left", type := 3, offset := 2, embedded := false, tag := "", pkgPath := "", byteOffset := 24 }, { name := "IsDead", type := 4, offset := 3, embedded := false, tag := "", pkgPath := "", byteOffset := 32 }], 4, 40, AV.agg [AV.str [], AV.int .i64 0, AV.int .i64 0, AV.bool false], true⟩ := rfl
theorem tab_70 : tab 70 = some ⟨TypeDesc.struct #[{ name := "B", type := 9, offset := 0, embedded := false, tag := "", pkgPath := "", byteOffset := 0 }, { name := "Room", type := 3, offset := 1, embedded := false, tag := "", pkgPath := "", byteOffset := 16 }, { name := "Left", type := 3, offset := 2, embedded := false, tag := "", pkgPath := "", byteOffset := 24 }, { name := "IsDead", type := 4, offset := 3, embedded := false, tag := "", pkgPath := "", byteOffset := 32 }], 4, 40, AV.agg [AV.str [], AV.int .i64 0, AV.int .i64 0, AV.bool false], true⟩ := rfl
theorem tab_71 : tab 71 = some ⟨TypeDesc.func #[48, 49] #[28] false, 1, 8, AV.nilF, false⟩ := rfl
theorem tab_72 : tab 72 = some ⟨TypeDesc.pointer 75, 1, 8, AV.nilp, false⟩ := rfl
theorem tab_73 : tab 73 = some ⟨TypeDesc.map 81 4, 1, 8, AV.nilm, false⟩ := rfl
theorem tab_74 : tab 74 = some ⟨TypeDesc.struct #[{ name := "edges", type := 49, offset := 0, embedded := false, tag := "", pkgPath := "concordat/plan", byteOffset := 0 }, { name := "dead", type := 73, offset := 1, embedded := false, tag := "", pkgPath := "concordat/plan", byteOffset := 24 }, { name := "steps", type := 34, offset := 2, embedded := false, tag := "", pkgPath := "concordat/plan", byteOffset := 32 }], 3, 56, AV.agg [AV.ds true [] 0 true, AV.nilm, AV.ds true [] 0 true], false⟩ := rfl
theorem tab_75 : tab 75 = some ⟨TypeDesc.struct #[{ name := "edges", type := 49, offset := 0, embedded := false, tag := "", pkgPath := "concordat/plan", byteOffset := 0 }, { name := "dead", type := 73, offset := 1, embedded := false, tag := "", pkgPath := "concordat/plan", byteOffset := 24 }, { name := "steps", type := 34, offset := 2, embedded := false, tag := "", pkgPath := "concordat/plan", byteOffset := 32 }], 3, 56, AV.agg [AV.ds true [] 0 true, AV.nilm, AV.ds true [] 0 true], false⟩ := rfl
theorem tab_76 : tab 76 = some ⟨TypeDesc.func #[48] #[4] false, 1, 8, AV.nilF, false⟩ := rfl
theorem tab_77 : tab 77 = some ⟨TypeDesc.func #[3, 3, 3] #[4] false, 1, 8, AV.nilF, false⟩ := rfl
theorem tab_79 : tab 79 = some ⟨TypeDesc.func #[58] #[3, 4] false, 1, 8, AV.nilF, false⟩ := rfl
theorem tab_80 : tab 80 = some ⟨TypeDesc.array 6 3, 6, 48, AV.agg [AV.int .i64 0, AV.int .i64 0, AV.int .i64 0, AV.int .i64 0, AV.int .i64 0, AV.int .i64 0], true⟩ := rfl
theorem tab_81 : tab 81 = some ⟨TypeDesc.array 6 3, 6, 48, AV.agg [AV.int .i64 0, AV.int .i64 0, AV.int .i64 0, AV.int .i64 0, AV.int .i64 0, AV.int .i64 0], true⟩ := rfl
theorem tab_82 : tab 82 = some ⟨TypeDesc.func #[48] #[81] false, 1, 8, AV.nilF, false⟩ := rfl
theorem tab_83 : tab 83 = some ⟨TypeDesc.func #[] #[9] false, 1, 8, AV.nilF, false⟩ := rfl
theorem tab_84 : tab 84 = some ⟨TypeDesc.struct #[{ name := "_interface", type := 17, offset := 0, embedded := false, tag := "", pkgPath := "runtime", byteOffset := 0 }, { name := "concrete", type := 17, offset := 1, embedded := false, tag := "", pkgPath := "runtime", byteOffset := 8 }, { name := "asserted", type := 17, offset := 2, embedded := false, tag := "", pkgPath := "runtime", byteOffset := 16 }, { name := "missingMethod", type := 9, offset := 3, embedded := false, tag := "", pkgPath := "runtime", byteOffset := 24 }], 4, 40, AV.agg [AV.nilp, AV.nilp, AV.nilp, AV.str []], false⟩ := rfl
theorem tab_85 : tab 85 = some ⟨TypeDesc.struct #[{ name := "_interface", type := 17, offset := 0, embedded := false, tag := "", pkgPath := "runtime", byteOffset := 0 }, { name := "concrete", type := 17, offset := 1, embedded := false, tag := "", pkgPath := "runtime", byteOffset := 8 }, { name := "asserted", type := 17, offset := 2, embedded := false, tag := "", pkgPath := "runtime", byteOffset := 16 }, { name := "missingMethod", type := 9, offset := 3, embedded := false, tag := "", pkgPath := "runtime", byteOffset := 24 }], 4, 40, AV.agg [AV.nilp, AV.nilp, AV.nilp, AV.str []], false⟩ := rfl
theorem tab_86 : tab 86 = some ⟨TypeDesc.array 0 16, 0, 0, AV.agg [], false⟩ := rfl
theorem tab_87 : tab 87 = some ⟨TypeDesc.struct #[{ name := "_", type := 86, offset := 0, embedded := false, tag := "", pkgPath := "runtime", byteOffset := 0 }], 0, 0, AV.agg [], false⟩ := rfl
theorem tab_88 : tab 88 = some ⟨TypeDesc.struct #[{ name := "_", type := 86, offset := 0, embedded := false, tag := "", pkgPath := "runtime", byteOffset := 0 }], 0, 0, AV.agg [], false⟩ := rfl
theorem tab_89 : tab 89 = some ⟨TypeDesc.int IntKind.u32, 1, 4, AV.int .u32 0, false⟩ := rfl
theorem tab_90 : tab 90 = some ⟨TypeDesc.int IntKind.u8, 1, 1, AV.int .u8 0, false⟩ := rfl
theorem tab_91 : tab 91 = some ⟨TypeDesc.int IntKind.u8, 1, 1, AV.int .u8 0, false⟩ := rfl
theorem tab_92 : tab 92 = some ⟨TypeDesc.func #[98, 98] #[4] false, 1, 8, AV.nilF, false⟩ := rfl
theorem tab_93 : tab 93 = some ⟨TypeDesc.pointer 5, 1, 8, AV.nilp, false⟩ := rfl
theorem tab_94 : tab 94 = some ⟨TypeDesc.int IntKind.i32, 1, 4, AV.int .i32 0, false⟩ := rfl
theorem tab_95 : tab 95 = some ⟨TypeDesc.int IntKind.i32, 1, 4, AV.int .i32 0, false⟩ := rfl
theorem tab_96 : tab 96 = some ⟨TypeDesc.struct #[{ name := "Size_", type := 12, offset := 0, embedded := false, tag := "", pkgPath := "", byteOffset := 0 }, { name := "PtrBytes", type := 12, offset := 1, embedded := false, tag := "", pkgPath := "", byteOffset := 8 }, { name := "Hash", type := 89, offset := 2, embedded := false, tag := "", pkgPath := "", byteOffset := 16 }, { name := "TFlag", type := 90, offset := 3, embedded := false, tag := "", pkgPath := "", byteOffset := 20 }, { name := "Align_", type := 5, offset := 4, embedded := false, tag := "", pkgPath := "", byteOffset := 21 }, { name := "FieldAlign_", type := 5, offset := 5, embedded := false, tag := "", pkgPath := "", byteOffset := 22 }, { name := "Kind_", type := 91, offset := 6, embedded := false, tag := "", pkgPath := "", byteOffset := 23 }, { name := "Equal", type := 92, offset := 7, embedded := false, tag := "", pkgPath := "", byteOffset := 24 }, { name := "GCData", type := 93, offset := 8, embedded := false, tag := "", pkgPath := "", byteOffset := 32 }, { name := "Str", type := 94, offset := 9, embedded := false, tag := "", pkgPath := "", byteOffset := 40 }, { name := "PtrToThis", type := 95, offset := 10, embedded := false, tag := "", pkgPath := "", byteOffset := 44 }], 11, 48, AV.agg [AV.int .u64 0, AV.int .u64 0, AV.int .u32 0, AV.int .u8 0, AV.int .u8 0, AV.int .u8 0, AV.int .u8 0, AV.nilF, AV.nilp, AV.int .i32 0, AV.int .i32 0], false⟩ := rfl
theorem tab_97 : tab 97 = some ⟨TypeDesc.struct #[{ name := "Size_", type := 12, offset := 0, embedded := false, tag := "", pkgPath := "", byteOffset := 0 }, { name := "PtrBytes", type := 12, offset := 1, embedded := false, tag := "", pkgPath := "", byteOffset := 8 }, { name := "Hash", type := 89, offset := 2, embedded := false, tag := "", pkgPath := "", byteOffset := 16 }, { name := "TFlag", type := 90, offset := 3, embedded := false, tag := "", pkgPath := "", byteOffset := 20 }, { name := "Align_", type := 5, offset := 4, embedded := false, tag := "", pkgPath := "", byteOffset := 21 }, { name := "FieldAlign_", type := 5, offset := 5, embedded := false, tag := "", pkgPath := "", byteOffset := 22 }, { name := "Kind_", type := 91, offset := 6, embedded := false, tag := "", pkgPath := "", byteOffset := 23 }, { name := "Equal", type := 92, offset := 7, embedded := false, tag := "", pkgPath := "", byteOffset := 24 }, { name := "GCData", type := 93, offset := 8, embedded := false, tag := "", pkgPath := "", byteOffset := 32 }, { name := "Str", type := 94, offset := 9, embedded := false, tag := "", pkgPath := "", byteOffset := 40 }, { name := "PtrToThis", type := 95, offset := 10, embedded := false, tag := "", pkgPath := "", byteOffset := 44 }], 11, 48, AV.agg [AV.int .u64 0, AV.int .u64 0, AV.int .u32 0, AV.int .u8 0, AV.int .u8 0, AV.int .u8 0, AV.int .u8 0, AV.nilF, AV.nilp, AV.int .i32 0, AV.int .i32 0], false⟩ := rfl
theorem ok_1 : TI.OK Try.prog 1 ti1 := ⟨Try.underlying1, ⟨Try.t1, Try.type1, rfl, rfl, (Value.nilFunc), rfl, rfl, fun E => VR.constAV E (Value.nilFunc)⟩, fun h => by cases h⟩
theorem ok_2 : TI.OK Try.prog 2 ti2 := ⟨Try.underlying2, ⟨Try.t2, Try.type2, rfl, rfl, (Value.int IntKind.i64 0), rfl, rfl, fun E => VR.constAV E (Value.int IntKind.i64 0)⟩, fun h => by cases h⟩
theorem ok_3 : TI.OK Try.prog 3 ti3 := ⟨Try.underlying3, ⟨Try.t3, Try.type3, rfl, rfl, (Value.int IntKind.i64 0), rfl, rfl, fun E => VR.constAV E (Value.int IntKind.i64 0)⟩, fun h => by cases h⟩
theorem ok_4 : TI.OK Try.prog 4 ti4 := ⟨Try.underlying4, ⟨Try.t4, Try.type4, rfl, rfl, (Value.bool false), rfl, rfl, fun E => VR.constAV E (Value.bool false)⟩, fun h => by cases h⟩
theorem ok_5 : TI.OK Try.prog 5 ti5 := ⟨Try.underlying5, ⟨Try.t5, Try.type5, rfl, rfl, (Value.int IntKind.u8 0), rfl, rfl, fun E => VR.constAV E (Value.int IntKind.u8 0)⟩, fun h => by cases h⟩
theorem ok_6 : TI.OK Try.prog 6 ti6 := ⟨Try.underlying6, ⟨Try.t6, Try.type6, rfl, rfl, (Value.int IntKind.u8 0), rfl, rfl, fun E => VR.constAV E (Value.int IntKind.u8 0)⟩, fun h => by cases h⟩
theorem ok_7 : TI.OK Try.prog 7 ti7 := ⟨Try.underlying7, ⟨Try.t7, Try.type7, rfl, rfl, (Value.agg #[Value.int IntKind.i64 0, Value.int IntKind.i64 0, Value.bool false, Value.int IntKind.u8 0]), rfl, rfl, fun E => VR.constAV E (Value.agg #[Value.int IntKind.i64 0, Value.int IntKind.i64 0, Value.bool false, Value.int IntKind.u8 0])⟩, fun h => by cases h⟩
theorem ok_8 : TI.OK Try.prog 8 ti8 := ⟨Try.underlying8, ⟨Try.t8, Try.type8, rfl, rfl, (Value.agg #[Value.int IntKind.i64 0, Value.int IntKind.i64 0, Value.bool false, Value.int IntKind.u8 0]), rfl, rfl, fun E => VR.constAV E (Value.agg #[Value.int IntKind.i64 0, Value.int IntKind.i64 0, Value.bool false, Value.int IntKind.u8 0])⟩, fun h => by cases h⟩
theorem ok_9 : TI.OK Try.prog 9 ti9 := ⟨Try.underlying9, ⟨Try.t9, Try.type9, rfl, rfl, (Value.string { data := #[] }), rfl, rfl, fun E => VR.constAV E (Value.string { data := #[] })⟩, fun h => by cases h⟩
theorem ok_10 : TI.OK Try.prog 10 ti10 := ⟨Try.underlying10, ⟨Try.t10, Try.type10, rfl, rfl, (Value.string { data := #[] }), rfl, rfl, fun E => VR.constAV E (Value.string { data := #[] })⟩, fun h => by cases h⟩
theorem ok_11 : TI.OK Try.prog 11 ti11 := ⟨Try.underlying11, ⟨Try.t11, Try.type11, rfl, rfl, (Value.string { data := #[] }), rfl, rfl, fun E => VR.constAV E (Value.string { data := #[] })⟩, fun h => by cases h⟩
theorem ok_12 : TI.OK Try.prog 12 ti12 := ⟨Try.underlying12, ⟨Try.t12, Try.type12, rfl, rfl, (Value.int IntKind.u64 0), rfl, rfl, fun E => VR.constAV E (Value.int IntKind.u64 0)⟩, fun h => by cases h⟩
theorem ok_13 : TI.OK Try.prog 13 ti13 := ⟨Try.underlying13, ⟨Try.t13, Try.type13, rfl, rfl, (Value.agg #[Value.string { data := #[] }, Value.int IntKind.u64 0]), rfl, rfl, fun E => VR.constAV E (Value.agg #[Value.string { data := #[] }, Value.int IntKind.u64 0])⟩, fun h => by cases h⟩
theorem ok_14 : TI.OK Try.prog 14 ti14 := ⟨Try.underlying14, ⟨Try.t14, Try.type14, rfl, rfl, (Value.agg #[Value.string { data := #[] }, Value.int IntKind.u64 0]), rfl, rfl, fun E => VR.constAV E (Value.agg #[Value.string { data := #[] }, Value.int IntKind.u64 0])⟩, fun h => by cases h⟩
theorem ok_15 : TI.OK Try.prog 15 ti15 := ⟨Try.underlying15, ⟨Try.t15, Try.type15, rfl, rfl, (Value.pointer none), rfl, rfl, fun E => VR.constAV E (Value.pointer none)⟩, fun h => by cases h⟩
theorem ok_16 : TI.OK Try.prog 16 ti16 := ⟨Try.underlying16, ⟨Try.t16, Try.type16, rfl, rfl, (Value.pointer none), rfl, rfl, fun E => VR.constAV E (Value.pointer none)⟩, fun h => by cases h⟩
theorem ok_17 : TI.OK Try.prog 17 ti17 := ⟨Try.underlying17, ⟨Try.t17, Try.type17, rfl, rfl, (Value.pointer none), rfl, rfl, fun E => VR.constAV E (Value.pointer none)⟩, fun h => by cases h⟩
theorem ok_18 : TI.OK Try.prog 18 ti18 := ⟨Try.underlying18, ⟨Try.t18, Try.type18, rfl, rfl, (Value.agg #[Value.pointer none]), rfl, rfl, fun E => VR.constAV E (Value.agg #[Value.pointer none])⟩, fun h => by cases h⟩
theorem ok_19 : TI.OK Try.prog 19 ti19 := ⟨Try.underlying19, ⟨Try.t19, Try.type19, rfl, rfl, (Value.agg #[Value.pointer none]), rfl, rfl, fun E => VR.constAV E (Value.agg #[Value.pointer none])⟩, fun h => by cases h⟩
theorem ok_20 : TI.OK Try.prog 20 ti20 := ⟨Try.underlying20, ⟨Try.t20, Try.type20, rfl, rfl, (Value.nilIface), rfl, rfl, fun E => VR.constAV E (Value.nilIface)⟩, fun h => by cases h⟩
theorem ok_21 : TI.OK Try.prog 21 ti21 := ⟨Try.underlying21, ⟨Try.t21, Try.type21, rfl, rfl, (Value.int IntKind.i32 0), rfl, rfl, fun E => VR.constAV E (Value.int IntKind.i32 0)⟩, fun h => by cases h⟩
theorem ok_22 : TI.OK Try.prog 22 ti22 := ⟨Try.underlying22, ⟨Try.t22, Try.type22, rfl, rfl, (Value.slice none 0 0), rfl, rfl, fun E => VR.constAV E (Value.slice none 0 0)⟩, fun h => by cases h⟩
theorem ok_23 : TI.OK Try.prog 23 ti23 := ⟨Try.underlying23, ⟨Try.t23, Try.type23, rfl, rfl, (Value.pointer none), rfl, rfl, fun E => VR.constAV E (Value.pointer none)⟩, fun h => by cases h⟩
theorem ok_24 : TI.OK Try.prog 24 ti24 := ⟨Try.underlying24, ⟨Try.t24, Try.type24, rfl, rfl, (Value.nilFunc), rfl, rfl, fun E => VR.constAV E (Value.nilFunc)⟩, fun h => by cases h⟩
theorem ok_25 : TI.OK Try.prog 25 ti25 := ⟨Try.underlying25, ⟨Try.t25, Try.type25, rfl, rfl, (Value.nilFunc), rfl, rfl, fun E => VR.constAV E (Value.nilFunc)⟩, fun h => by cases h⟩
theorem ok_26 : TI.OK Try.prog 26 ti26 := ⟨Try.underlying26, ⟨Try.t26, Try.type26, rfl, rfl, (Value.nilFunc), rfl, rfl, fun E => VR.constAV E (Value.nilFunc)⟩, fun h => by cases h⟩
theorem ok_27 : TI.OK Try.prog 27 ti27 := ⟨Try.underlying27, ⟨Try.t27, Try.type27, rfl, rfl, (Value.slice none 0 0), rfl, rfl, fun E => VR.constAV E (Value.slice none 0 0)⟩, fun h => by cases h⟩
theorem ok_28 : TI.OK Try.prog 28 ti28 := ⟨Try.underlying28, ⟨Try.t28, Try.type28, rfl, rfl, (Value.int IntKind.i64 0), rfl, rfl, fun E => VR.constAV E (Value.int IntKind.i64 0)⟩, fun h => by cases h⟩
theorem ok_29 : TI.OK Try.prog 29 ti29 := ⟨Try.underlying29, ⟨Try.t29, Try.type29, rfl, rfl, (Value.nilFunc), rfl, rfl, fun E => VR.constAV E (Value.nilFunc)⟩, fun h => by cases h⟩
theorem ok_30 : TI.OK Try.prog 30 ti30 := ⟨Try.underlying30, ⟨Try.t30, Try.type30, rfl, rfl, (Value.nilFunc), rfl, rfl, fun E => VR.constAV E (Value.nilFunc)⟩, fun h => by cases h⟩
theorem ok_31 : TI.OK Try.prog 31 ti31 := ⟨Try.underlying31, ⟨Try.t31, Try.type31, rfl, rfl, (Value.nilFunc), rfl, rfl, fun E => VR.constAV E (Value.nilFunc)⟩, fun h => by cases h⟩
theorem ok_32 : TI.OK Try.prog 32 ti32 := ⟨Try.underlying32, ⟨Try.t32, Try.type32, rfl, rfl, (Value.nilFunc), rfl, rfl, fun E => VR.constAV E (Value.nilFunc)⟩, fun h => by cases h⟩
theorem ok_33 : TI.OK Try.prog 33 ti33 := ⟨Try.underlying33, ⟨Try.t33, Try.type33, rfl, rfl, (Value.nilFunc), rfl, rfl, fun E => VR.constAV E (Value.nilFunc)⟩, fun h => by cases h⟩
theorem ok_34 : TI.OK Try.prog 34 ti34 := ⟨Try.underlying34, ⟨Try.t34, Try.type34, rfl, rfl, (Value.slice none 0 0), rfl, rfl, fun E => VR.constAV E (Value.slice none 0 0)⟩, fun h => by cases h⟩
theorem ok_35 : TI.OK Try.prog 35 ti35 := ⟨Try.underlying35, ⟨Try.t35, Try.type35, rfl, rfl, (Value.nilFunc), rfl, rfl, fun E => VR.constAV E (Value.nilFunc)⟩, fun h => by cases h⟩
theorem ok_36 : TI.OK Try.prog 36 ti36 := ⟨Try.underlying36, ⟨Try.t36, Try.type36, rfl, rfl, (Value.nilFunc), rfl, rfl, fun E => VR.constAV E (Value.nilFunc)⟩, fun h => by cases h⟩
theorem ok_37 : TI.OK Try.prog 37 ti37 := ⟨Try.underlying37, ⟨Try.t37, Try.type37, rfl, rfl, (Value.nilFunc), rfl, rfl, fun E => VR.constAV E (Value.nilFunc)⟩, fun h => by cases h⟩
theorem ok_38 : TI.OK Try.prog 38 ti38 := ⟨Try.underlying38, ⟨Try.t38, Try.type38, rfl, rfl, (Value.nilFunc), rfl, rfl, fun E => VR.constAV E (Value.nilFunc)⟩, fun h => by cases h⟩
theorem ok_39 : TI.OK Try.prog 39 ti39 := ⟨Try.underlying39, ⟨Try.t39, Try.type39, rfl, rfl, (Value.nilFunc), rfl, rfl, fun E => VR.constAV E (Value.nilFunc)⟩, fun h => by cases h⟩
theorem ok_40 : TI.OK Try.prog 40 ti40 := ⟨Try.underlying40, ⟨Try.t40, Try.type40, rfl, rfl, (Value.slice none 0 0), rfl, rfl, fun E => VR.constAV E (Value.slice none 0 0)⟩, fun h => by cases h⟩
theorem ok_41 : TI.OK Try.prog 41 ti41 := ⟨Try.underlying41, ⟨Try.t41, Try.type41, rfl, rfl, (Value.pointer none), rfl, rfl, fun E => VR.constAV E (Value.pointer none)⟩, fun h => by cases h⟩
theorem ok_42 : TI.OK Try.prog 42 ti42 := ⟨Try.underlying42, ⟨Try.t42, Try.type42, rfl, rfl, (Value.nilFunc), rfl, rfl, fun E => VR.constAV E (Value.nilFunc)⟩, fun h => by cases h⟩
theorem ok_43 : TI.OK Try.prog 43 ti43 := ⟨Try.underlying43, ⟨Try.t43, Try.type43, rfl, rfl, (Value.agg #[Value.int IntKind.i64 0, Value.int IntKind.i64 0, Value.slice none 0 0]), rfl, rfl, fun E => VR.constAV E (Value.agg #[Value.int IntKind.i64 0, Value.int IntKind.i64 0, Value.slice none 0 0])⟩, fun h => by cases h⟩
theorem ok_44 : TI.OK Try.prog 44 ti44 := ⟨Try.underlying44, ⟨Try.t44, Try.type44, rfl, rfl, (Value.agg #[Value.int IntKind.i64 0, Value.int IntKind.i64 0, Value.slice none 0 0]), rfl, rfl, fun E => VR.constAV E (Value.agg #[Value.int IntKind.i64 0, Value.int IntKind.i64 0, Value.slice none 0 0])⟩, fun h => by cases h⟩
theorem ok_45 : TI.OK Try.prog 45 ti45 := ⟨Try.underlying45, ⟨Try.t45, Try.type45, rfl, rfl, (Value.nilFunc), rfl, rfl, fun E => VR.constAV E (Value.nilFunc)⟩, fun h => by cases h⟩
theorem ok_46 : TI.OK Try.prog 46 ti46 := ⟨Try.underlying46, ⟨Try.t46, Try.type46, rfl, rfl, (Value.nilFunc), rfl, rfl, fun E => VR.constAV E (Value.nilFunc)⟩, fun h => by cases h⟩
theorem ok_47 : TI.OK Try.prog 47 ti47 := ⟨Try.underlying47, ⟨Try.t47, Try.type47, rfl, rfl, (Value.nilFunc), rfl, rfl, fun E => VR.constAV E (Value.nilFunc)⟩, fun h => by cases h⟩
theorem ok_48 : TI.OK Try.prog 48 ti48 := ⟨Try.underlying48, ⟨Try.t48, Try.type48, rfl, rfl, (Value.slice none 0 0), rfl, rfl, fun E => VR.constAV E (Value.slice none 0 0)⟩, fun h => by cases h⟩
theorem ok_49 : TI.OK Try.prog 49 ti49 := ⟨Try.underlying49, ⟨Try.t49, Try.type49, rfl, rfl, (Value.slice none 0 0), rfl, rfl, fun E => VR.constAV E (Value.slice none 0 0)⟩, fun h => by cases h⟩
theorem ok_51 : TI.OK Try.prog 51 ti51 := ⟨Try.underlying51, ⟨Try.t51, Try.type51, rfl, rfl, (Value.nilFunc), rfl, rfl, fun E => VR.constAV E (Value.nilFunc)⟩, fun h => by cases h⟩
theorem ok_52 : TI.OK Try.prog 52 ti52 := ⟨Try.underlying52, ⟨Try.t52, Try.type52, rfl, rfl, (Value.nilFunc), rfl, rfl, fun E => VR.constAV E (Value.nilFunc)⟩, fun h => by cases h⟩
theorem ok_53 : TI.OK Try.prog 53 ti53 := ⟨Try.underlying53, ⟨Try.t53, Try.type53, rfl, rfl, (Value.nilFunc), rfl, rfl, fun E => VR.constAV E (Value.nilFunc)⟩, fun h => by cases h⟩
theorem ok_54 : TI.OK Try.prog 54 ti54 := ⟨Try.underlying54, ⟨Try.t54, Try.type54, rfl, rfl, (Value.agg #[Value.int IntKind.i64 0, Value.int IntKind.i64 0]), rfl, rfl, fun E => VR.constAV E (Value.agg #[Value.int IntKind.i64 0, Value.int IntKind.i64 0])⟩, fun _ => ⟨by kernel_rfl, by kernel_rfl⟩⟩
theorem ok_55 : TI.OK Try.prog 55 ti55 := ⟨Try.underlying55, ⟨Try.t55, Try.type55, rfl, rfl, (Value.agg #[Value.int IntKind.i64 0, Value.int IntKind.i64 0]), rfl, rfl, fun E => VR.constAV E (Value.agg #[Value.int IntKind.i64 0, Value.int IntKind.i64 0])⟩, fun _ => ⟨by kernel_rfl, by kernel_rfl⟩⟩
theorem ok_56 : TI.OK Try.prog 56 ti56 := ⟨Try.underlying56, ⟨Try.t56, Try.type56, rfl, rfl, (Value.nilFunc), rfl, rfl, fun E => VR.constAV E (Value.nilFunc)⟩, fun h => by cases h⟩
theorem ok_57 : TI.OK Try.prog 57 ti57 := ⟨Try.underlying57, ⟨Try.t57, Try.type57, rfl, rfl, (Value.agg #[Value.int IntKind.i64 0, Value.int IntKind.i64 0, Value.int IntKind.i64 0]), rfl, rfl, fun E => VR.constAV E (Value.agg #[Value.int IntKind.i64 0, Value.int IntKind.i64 0, Value.int IntKind.i64 0])⟩, fun _ => ⟨by kernel_rfl, by kernel_rfl⟩⟩
theorem ok_58 : TI.OK Try.prog 58 ti58 := ⟨Try.underlying58, ⟨Try.t58, Try.type58, rfl, rfl, (Value.agg #[Value.int IntKind.i64 0, Value.int IntKind.i64 0, Value.int IntKind.i64 0]), rfl, rfl, fun E => VR.constAV E (Value.agg #[Value.int IntKind.i64 0, Value.int IntKind.i64 0, Value.int IntKind.i64 0])⟩, fun _ => ⟨by kernel_rfl, by kernel_rfl⟩⟩
theorem ok_59 : TI.OK Try.prog 59 ti59 := ⟨Try.underlying59, ⟨Try.t59, Try.type59, rfl, rfl, (Value.nilFunc), rfl, rfl, fun E => VR.constAV E (Value.nilFunc)⟩, fun h => by cases h⟩
theorem ok_60 : TI.OK Try.prog 60 ti60 := ⟨Try.underlying60, ⟨Try.t60, Try.type60, rfl, rfl, (Value.nilFunc), rfl, rfl, fun E => VR.constAV E (Value.nilFunc)⟩, fun h => by cases h⟩
theorem ok_61 : TI.OK Try.prog 61 ti61 := ⟨Try.underlying61, ⟨Try.t61, Try.type61, rfl, rfl, (Value.nilFunc), rfl, rfl, fun E => VR.constAV E (Value.nilFunc)⟩, fun h => by cases h⟩
theorem ok_62 : TI.OK Try.prog 62 ti62 := ⟨Try.underlying62, ⟨Try.t62, Try.type62, rfl, rfl, (Value.nilFunc), rfl, rfl, fun E => VR.constAV E (Value.nilFunc)⟩, fun h => by cases h⟩
theorem ok_63 : TI.OK Try.prog 63 ti63 := ⟨Try.underlying63, ⟨Try.t63, Try.type63, rfl, rfl, (Value.nilFunc), rfl, rfl, fun E => VR.constAV E (Value.nilFunc)⟩, fun h => by cases h⟩
theorem ok_65 : TI.OK Try.prog 65 ti65 := ⟨Try.underlying65, ⟨Try.t65, Try.type65, rfl, rfl, (Value.nilFunc), rfl, rfl, fun E => VR.constAV E (Value.nilFunc)⟩, fun h => by cases h⟩
theorem ok_66 : TI.OK Try.prog 66 ti66 := ⟨Try.underlying66, ⟨Try.t66, Try.type66, rfl, rfl, (Value.nilFunc), rfl, rfl, fun E => VR.constAV E (Value.nilFunc)⟩, fun h => by cases h⟩
theorem ok_67 : TI.OK Try.prog 67 ti67 := ⟨Try.underlying67, ⟨Try.t67, Try.type67, rfl, rfl, (Value.agg #[Value.slice none 0 0, Value.int IntKind.i64 0, Value.int IntKind.i64 0, Value.bool false]), rfl, rfl, fun E => VR.constAV E (Value.agg #[Value.slice none 0 0, Value.int IntKind.i64 0, Value.int IntKind.i64 0, Value.bool false])⟩, fun h => by cases h⟩
theorem ok_68 : TI.OK Try.prog 68 ti68 := ⟨Try.underlying68, ⟨Try.t68, Try.type68, rfl, rfl, (Value.agg #[Value.slice none 0 0, Value.int IntKind.i64 0, Value.int IntKind.i64 0, Value.bool false]), rfl, rfl, fun E => VR.constAV E (Value.agg #[Value.slice none 0 0, Value.int IntKind.i64 0, Value.int IntKind.i64 0, Value.bool false])⟩, fun h => by cases h⟩
theorem ok_69 : TI.OK Try.prog 69 ti69 := ⟨Try.underlying69, ⟨Try.t69, Try.type69, rfl, rfl, (Value.agg #[Value.string { data := #[] }, Value.int IntKind.i64 0, Value.int IntKind.i64 0, Value.bool false]), rfl, rfl, fun E => VR.constAV E (Value.agg #[Value.string { data := #[] }, Value.int IntKind.i64 0, Value.int IntKind.i64 0, Value.bool false])⟩, fun _ => ⟨by kernel_rfl, by kernel_rfl⟩⟩
theorem ok_70 : TI.OK Try.prog 70 ti70 := ⟨Try.underlying70, ⟨Try.t70, Try.type70, rfl, rfl, (Value.agg #[Value.string { data := #[] }, Value.int IntKind.i64 0, Value.int IntKind.i64 0, Value.bool false]), rfl, rfl, fun E => VR.constAV E (Value.agg #[Value.string { data := #[] }, Value.int IntKind.i64 0, Value.int IntKind.i64 0, Value.bool false])⟩, fun _ => ⟨by kernel_rfl, by kernel_rfl⟩⟩
theorem ok_71 : TI.OK Try.prog 71 ti71 := ⟨Try.underlying71, ⟨Try.t71, Try.type71, rfl, rfl, (Value.nilFunc), rfl, rfl, fun E => VR.constAV E (Value.nilFunc)⟩, fun h => by cases h⟩
theorem ok_72 : TI.OK Try.prog 72 ti72 := ⟨Try.underlying72, ⟨Try.t72, Try.type72, rfl, rfl, (Value.pointer none), rfl, rfl, fun E => VR.constAV E (Value.pointer none)⟩, fun h => by cases h⟩
theorem ok_73 : TI.OK Try.prog 73 ti73 := ⟨Try.underlying73, ⟨Try.t73, Try.type73, rfl, rfl, (Value.map none), rfl, rfl, fun E => VR.constAV E (Value.map none)⟩, fun h => by cases h⟩
theorem ok_74 : TI.OK Try.prog 74 ti74 := ⟨Try.underlying74, ⟨Try.t74, Try.type74, rfl, rfl, (Value.agg #[Value.slice none 0 0, Value.map none, Value.slice none 0 0]), rfl, rfl, fun E => VR.constAV E (Value.agg #[Value.slice none 0 0, Value.map none, Value.slice none 0 0])⟩, fun h => by cases h⟩
theorem ok_75 : TI.OK Try.prog 75 ti75 := ⟨Try.underlying75, ⟨Try.t75, Try.type75, rfl, rfl, (Value.agg #[Value.slice none 0 0, Value.map none, Value.slice none 0 0]), rfl, rfl, fun E => VR.constAV E (Value.agg #[Value.slice none 0 0, Value.map none, Value.slice none 0 0])⟩, fun h => by cases h⟩
theorem ok_76 : TI.OK Try.prog 76 ti76 := ⟨Try.underlying76, ⟨Try.t76, Try.type76, rfl, rfl, (Value.nilFunc), rfl, rfl, fun E => VR.constAV E (Value.nilFunc)⟩, fun h => by cases h⟩
theorem ok_77 : TI.OK Try.prog 77 ti77 := ⟨Try.underlying77, ⟨Try.t77, Try.type77, rfl, rfl, (Value.nilFunc), rfl, rfl, fun E => VR.constAV E (Value.nilFunc)⟩, fun h => by cases h⟩
theorem ok_79 : TI.OK Try.prog 79 ti79 := ⟨Try.underlying79, ⟨Try.t79, Try.type79, rfl, rfl, (Value.nilFunc), rfl, rfl, fun E => VR.constAV E (Value.nilFunc)⟩, fun h => by cases h⟩
theorem ok_80 : TI.OK Try.prog 80 ti80 := ⟨Try.underlying80, ⟨Try.t80, Try.type80, rfl, rfl, (Value.agg #[Value.int IntKind.i64 0, Value.int IntKind.i64 0, Value.int IntKind.i64 0, Value.int IntKind.i64 0, Value.int IntKind.i64 0, Value.int IntKind.i64 0]), rfl, rfl, fun E => VR.constAV E (Value.agg #[Value.int IntKind.i64 0, Value.int IntKind.i64 0, Value.int IntKind.i64 0, Value.int IntKind.i64 0, Value.int IntKind.i64 0, Value.int IntKind.i64 0])⟩, fun _ => ⟨by kernel_rfl, by kernel_rfl⟩⟩
theorem ok_81 : TI.OK Try.prog 81 ti81 := ⟨Try.underlying81, ⟨Try.t81, Try.type81, rfl, rfl, (Value.agg #[Value.int IntKind.i64 0, Value.int IntKind.i64 0, Value.int IntKind.i64 0, Value.int IntKind.i64 0, Value.int IntKind.i64 0, Value.int IntKind.i64 0]), rfl, rfl, fun E => VR.constAV E (Value.agg #[Value.int IntKind.i64 0, Value.int IntKind.i64 0, Value.int IntKind.i64 0, Value.int IntKind.i64 0, Value.int IntKind.i64 0, Value.int IntKind.i64 0])⟩, fun _ => ⟨by kernel_rfl, by kernel_rfl⟩⟩
theorem ok_82 : TI.OK Try.prog 82 ti82 := ⟨Try.underlying82, ⟨Try.t82, Try.type82, rfl, rfl, (Value.nilFunc), rfl, rfl, fun E => VR.constAV E (Value.nilFunc)⟩, fun h => by cases h⟩
theorem ok_83 : TI.OK Try.prog 83 ti83 := ⟨Try.underlying83, ⟨Try.t83, Try.type83, rfl, rfl, (Value.nilFunc), rfl, rfl, fun E => VR.constAV E (Value.nilFunc)⟩, fun h => by cases h⟩
theorem ok_84 : TI.OK Try.prog 84 ti84 := ⟨Try.underlying84, ⟨Try.t84, Try.type84, rfl, rfl, (Value.agg #[Value.pointer none, Value.pointer none, Value.pointer none, Value.string { data := #[] }]), rfl, rfl, fun E => VR.constAV E (Value.agg #[Value.pointer none, Value.pointer none, Value.pointer none, Value.string { data := #[] }])⟩, fun h => by cases h⟩
theorem ok_85 : TI.OK Try.prog 85 ti85 := ⟨Try.underlying85, ⟨Try.t85, Try.type85, rfl, rfl, (Value.agg #[Value.pointer none, Value.pointer none, Value.pointer none, Value.string { data := #[] }]), rfl, rfl, fun E => VR.constAV E (Value.agg #[Value.pointer none, Value.pointer none, Value.pointer none, Value.string { data := #[] }])⟩, fun h => by cases h⟩
theorem ok_86 : TI.OK Try.prog 86 ti86 := ⟨Try.underlying86, ⟨Try.t86, Try.type86, rfl, rfl, (Value.agg #[]), rfl, rfl, fun E => VR.constAV E (Value.agg #[])⟩, fun h => by cases h⟩
theorem ok_87 : TI.OK Try.prog 87 ti87 := ⟨Try.underlying87, ⟨Try.t87, Try.type87, rfl, rfl, (Value.agg #[]), rfl, rfl, fun E => VR.constAV E (Value.agg #[])⟩, fun h => by cases h⟩
theorem ok_88 : TI.OK Try.prog 88 ti88 := ⟨Try.underlying88, ⟨Try.t88, Try.type88, rfl, rfl, (Value.agg #[]), rfl, rfl, fun E => VR.constAV E (Value.agg #[])⟩, fun h => by cases h⟩
theorem ok_89 : TI.OK Try.prog 89 ti89 := ⟨Try.underlying89, ⟨Try.t89, Try.type89, rfl, rfl, (Value.int IntKind.u32 0), rfl, rfl, fun E => VR.constAV E (Value.int IntKind.u32 0)⟩, fun h => by cases h⟩
theorem ok_90 : TI.OK Try.prog 90 ti90 := ⟨Try.underlying90, ⟨Try.t90, Try.type90, rfl, rfl, (Value.int IntKind.u8 0), rfl, rfl, fun E => VR.constAV E (Value.int IntKind.u8 0)⟩, fun h => by cases h⟩
theorem ok_91 : TI.OK Try.prog 91 ti91 := ⟨Try.underlying91, ⟨Try.t91, Try.type91, rfl, rfl, (Value.int IntKind.u8 0), rfl, rfl, fun E => VR.constAV E (Value.int IntKind.u8 0)⟩, fun h => by cases h⟩
theorem ok_92 : TI.OK Try.prog 92 ti92 := ⟨Try.underlying92, ⟨Try.t92, Try.type92, rfl, rfl, (Value.nilFunc), rfl, rfl, fun E => VR.constAV E (Value.nilFunc)⟩, fun h => by cases h⟩
theorem ok_93 : TI.OK Try.prog 93 ti93 := ⟨Try.underlying93, ⟨Try.t93, Try.type93, rfl, rfl, (Value.pointer none), rfl, rfl, fun E => VR.constAV E (Value.pointer none)⟩, fun h => by cases h⟩
theorem ok_94 : TI.OK Try.prog 94 ti94 := ⟨Try.underlying94, ⟨Try.t94, Try.type94, rfl, rfl, (Value.int IntKind.i32 0), rfl, rfl, fun E => VR.constAV E (Value.int IntKind.i32 0)⟩, fun h => by cases h⟩
theorem ok_95 : TI.OK Try.prog 95 ti95 := ⟨Try.underlying95, ⟨Try.t95, Try.type95, rfl, rfl, (Value.int IntKind.i32 0), rfl, rfl, fun E => VR.constAV E (Value.int IntKind.i32 0)⟩, fun h => by cases h⟩
theorem ok_96 : TI.OK Try.prog 96 ti96 := ⟨Try.underlying96, ⟨Try.t96, Try.type96, rfl, rfl, (Value.agg #[Value.int IntKind.u64 0, Value.int IntKind.u64 0, Value.int IntKind.u32 0, Value.int IntKind.u8 0, Value.int IntKind.u8 0, Value.int IntKind.u8 0, Value.int IntKind.u8 0, Value.nilFunc, Value.pointer none, Value.int IntKind.i32 0, Value.int IntKind.i32 0]), rfl, rfl, fun E => VR.constAV E (Value.agg #[Value.int IntKind.u64 0, Value.int IntKind.u64 0, Value.int IntKind.u32 0, Value.int IntKind.u8 0, Value.int IntKind.u8 0, Value.int IntKind.u8 0, Value.int IntKind.u8 0, Value.nilFunc, Value.pointer none, Value.int IntKind.i32 0, Value.int IntKind.i32 0])⟩, fun h => by cases h⟩
theorem ok_97 : TI.OK Try.prog 97 ti97 := ⟨Try.underlying97, ⟨Try.t97, Try.type97, rfl, rfl, (Value.agg #[Value.int IntKind.u64 0, Value.int IntKind.u64 0, Value.int IntKind.u32 0, Value.int IntKind.u8 0, Value.int IntKind.u8 0, Value.int IntKind.u8 0, Value.int IntKind.u8 0, Value.nilFunc, Value.pointer none, Value.int IntKind.i32 0, Value.int IntKind.i32 0]), rfl, rfl, fun E => VR.constAV E (Value.agg #[Value.int IntKind.u64 0, Value.int IntKind.u64 0, Value.int IntKind.u32 0, Value.int IntKind.u8 0, Value.int IntKind.u8 0, Value.int IntKind.u8 0, Value.int IntKind.u8 0, Value.nilFunc, Value.pointer none, Value.int IntKind.i32 0, Value.int IntKind.i32 0])⟩, fun h => by cases h⟩
theorem allOK : AllOK Try.prog 0 tabL := ⟨ok_1, ok_2, ok_3, ok_4, ok_5, ok_6, ok_7, ok_8, ok_9, ok_10, ok_11, ok_12, ok_13, ok_14, ok_15, ok_16, ok_17, ok_18, ok_19, ok_20, ok_21, ok_22, ok_23, ok_24, ok_25, ok_26, ok_27, ok_28, ok_29, ok_30, ok_31, ok_32, ok_33, ok_34, ok_35, ok_36, ok_37, ok_38, ok_39, ok_40, ok_41, ok_42, ok_43, ok_44, ok_45, ok_46, ok_47, ok_48, ok_49, ok_51, ok_52, ok_53, ok_54, ok_55, ok_56, ok_57, ok_58, ok_59, ok_60, ok_61, ok_62, ok_63, ok_65, ok_66, ok_67, ok_68, ok_69, ok_70, ok_71, ok_72, ok_73, ok_74, ok_75, ok_76, ok_77, ok_79, ok_80, ok_81, ok_82, ok_83, ok_84, ok_85, ok_86, ok_87, ok_88, ok_89, ok_90, ok_91, ok_92, ok_93, ok_94, ok_95, ok_96, ok_97, trivial⟩
theorem tok : TOK Try.prog tab := tok_of allOK
theorem sz_1 : sized tab 1 = true := rfl
theorem sz_2 : sized tab 2 = true := rfl
theorem cd_2 : cellsD tab 20 2 = some [TypeDesc.int IntKind.i64] := rfl
theorem sz_3 : sized tab 3 = true := rfl
theorem cd_3 : cellsD tab 20 3 = some [TypeDesc.int IntKind.i64] := rfl
theorem sz_4 : sized tab 4 = true := rfl
theorem cd_4 : cellsD tab 20 4 = some [TypeDesc.bool] := rfl
theorem sz_5 : sized tab 5 = true := rfl
theorem cd_5 : cellsD tab 20 5 = some [TypeDesc.int IntKind.u8] := rfl
theorem sz_6 : sized tab 6 = true := rfl
theorem cd_6 : cellsD tab 20 6 = some [TypeDesc.int IntKind.u8] := rfl
theorem sz_7 : sized tab 7 = true := rfl
theorem fao_7_0 (id ver off : Nat) : evFieldAddr tab 7 (.op id ver off) 0 = some (.op id ver (off + 0)) := rfl
theorem fad_7_0 (cs : List AV) (off : Nat) : evFieldAddr tab 7 (.dp cs off) 0 = some (.dp cs (off + 0)) := rfl
theorem fao_7_1 (id ver off : Nat) : evFieldAddr tab 7 (.op id ver off) 1 = some (.op id ver (off + 1)) := rfl
theorem fad_7_1 (cs : List AV) (off : Nat) : evFieldAddr tab 7 (.dp cs off) 1 = some (.dp cs (off + 1)) := rfl
theorem fao_7_2 (id ver off : Nat) : evFieldAddr tab 7 (.op id ver off) 2 = some (.op id ver (off + 2)) := rfl
theorem fad_7_2 (cs : List AV) (off : Nat) : evFieldAddr tab 7 (.dp cs off) 2 = some (.dp cs (off + 2)) := rfl
theorem fao_7_3 (id ver off : Nat) : evFieldAddr tab 7 (.op id ver off) 3 = some (.op id ver (off + 3)) := rfl
theorem fad_7_3 (cs : List AV) (off : Nat) : evFieldAddr tab 7 (.dp cs off) 3 = some (.dp cs (off + 3)) := rfl
theorem sz_8 : sized tab 8 = true := rfl
theorem fao_8_0 (id ver off : Nat) : evFieldAddr tab 8 (.op id ver off) 0 = some (.op id ver (off + 0)) := rfl
theorem fad_8_0 (cs : List AV) (off : Nat) : evFieldAddr tab 8 (.dp cs off) 0 = some (.dp cs (off + 0)) := rfl
theorem fao_8_1 (id ver off : Nat) : evFieldAddr tab 8 (.op id ver off) 1 = some (.op id ver (off + 1)) := rfl
theorem fad_8_1 (cs : List AV) (off : Nat) : evFieldAddr tab 8 (.dp cs off) 1 = some (.dp cs (off + 1)) := rfl
theorem fao_8_2 (id ver off : Nat) : evFieldAddr tab 8 (.op id ver off) 2 = some (.op id ver (off + 2)) := rfl
theorem fad_8_2 (cs : List AV) (off : Nat) : evFieldAddr tab 8 (.dp cs off) 2 = some (.dp cs (off + 2)) := rfl
theorem fao_8_3 (id ver off : Nat) : evFieldAddr tab 8 (.op id ver off) 3 = some (.op id ver (off + 3)) := rfl
theorem fad_8_3 (cs : List AV) (off : Nat) : evFieldAddr tab 8 (.dp cs off) 3 = some (.dp cs (off + 3)) := rfl
theorem sz_9 : sized tab 9 = true := rfl
theorem cd_9 : cellsD tab 20 9 = some [TypeDesc.string] := rfl
theorem len_9 (s : List UInt8) (σ : Store) : evLen tab 9 (.str s) σ = some (.int .i64 s.length) := rfl
theorem sz_10 : sized tab 10 = true := rfl
theorem cd_10 : cellsD tab 20 10 = some [TypeDesc.string] := rfl
theorem len_10 (s : List UInt8) (σ : Store) : evLen tab 10 (.str s) σ = some (.int .i64 s.length) := rfl
theorem sz_11 : sized tab 11 = true := rfl
theorem cd_11 : cellsD tab 20 11 = some [TypeDesc.string] := rfl
theorem len_11 (s : List UInt8) (σ : Store) : evLen tab 11 (.str s) σ = some (.int .i64 s.length) := rfl
theorem sz_12 : sized tab 12 = true := rfl
theorem cd_12 : cellsD tab 20 12 = some [TypeDesc.int IntKind.u64] := rfl
theorem sz_13 : sized tab 13 = true := rfl
theorem fao_13_0 (id ver off : Nat) : evFieldAddr tab 13 (.op id ver off) 0 = some (.op id ver (off + 0)) := rfl
theorem fad_13_0 (cs : List AV) (off : Nat) : evFieldAddr tab 13 (.dp cs off) 0 = some (.dp cs (off + 0)) := rfl
theorem fao_13_1 (id ver off : Nat) : evFieldAddr tab 13 (.op id ver off) 1 = some (.op id ver (off + 1)) := rfl
theorem fad_13_1 (cs : List AV) (off : Nat) : evFieldAddr tab 13 (.dp cs off) 1 = some (.dp cs (off + 1)) := rfl
theorem sz_14 : sized tab 14 = true := rfl
theorem fao_14_0 (id ver off : Nat) : evFieldAddr tab 14 (.op id ver off) 0 = some (.op id ver (off + 0)) := rfl
theorem fad_14_0 (cs : List AV) (off : Nat) : evFieldAddr tab 14 (.dp cs off) 0 = some (.dp cs (off + 0)) := rfl
theorem fao_14_1 (id ver off : Nat) : evFieldAddr tab 14 (.op id ver off) 1 = some (.op id ver (off + 1)) := rfl
theorem fad_14_1 (cs : List AV) (off : Nat) : evFieldAddr tab 14 (.dp cs off) 1 = some (.dp cs (off + 1)) := rfl
theorem sz_15 : sized tab 15 = true := rfl
theorem sz_16 : sized tab 16 = true := rfl
theorem sz_17 : sized tab 17 = true := rfl
theorem sz_18 : sized tab 18 = true := rfl
theorem fao_18_0 (id ver off : Nat) : evFieldAddr tab 18 (.op id ver off) 0 = some (.op id ver (off + 0)) := rfl
theorem fad_18_0 (cs : List AV) (off : Nat) : evFieldAddr tab 18 (.dp cs off) 0 = some (.dp cs (off + 0)) := rfl
theorem sz_19 : sized tab 19 = true := rfl
theorem fao_19_0 (id ver off : Nat) : evFieldAddr tab 19 (.op id ver off) 0 = some (.op id ver (off + 0)) := rfl
theorem fad_19_0 (cs : List AV) (off : Nat) : evFieldAddr tab 19 (.dp cs off) 0 = some (.dp cs (off + 0)) := rfl
theorem sz_20 : sized tab 20 = true := rfl
theorem sz_21 : sized tab 21 = true := rfl
theorem cd_21 : cellsD tab 20 21 = some [TypeDesc.int IntKind.i32] := rfl
theorem sz_22 : sized tab 22 = true := rfl
theorem len_22 (nl : Bool) (cs : List AV) (len : Nat) (t : Bool) (σ : Store) : evLen tab 22 (.ds nl cs len t) σ = some (.int .i64 len) := rfl
theorem leno_22 (nl : Bool) (sz id ver off len : Nat) (t : Bool) (σ : Store) : evLen tab 22 (.os nl sz id ver off len t) σ = some (.int .i64 len) := rfl
theorem sz_23 : sized tab 23 = true := rfl
theorem sz_24 : sized tab 24 = true := rfl
theorem sz_25 : sized tab 25 = true := rfl
theorem sz_26 : sized tab 26 = true := rfl
theorem sz_27 : sized tab 27 = true := rfl
theorem len_27 (nl : Bool) (cs : List AV) (len : Nat) (t : Bool) (σ : Store) : evLen tab 27 (.ds nl cs len t) σ = some (.int .i64 len) := rfl
theorem leno_27 (nl : Bool) (sz id ver off len : Nat) (t : Bool) (σ : Store) : evLen tab 27 (.os nl sz id ver off len t) σ = some (.int .i64 len) := rfl
theorem sz_28 : sized tab 28 = true := rfl
theorem cd_28 : cellsD tab 20 28 = some [TypeDesc.int IntKind.i64] := rfl
theorem sz_29 : sized tab 29 = true := rfl
theorem sz_30 : sized tab 30 = true := rfl
theorem sz_31 : sized tab 31 = true := rfl
theorem sz_32 : sized tab 32 = true := rfl
theorem sz_33 : sized tab 33 = true := rfl
theorem sz_34 : sized tab 34 = true := rfl
theorem len_34 (nl : Bool) (cs : List AV) (len : Nat) (t : Bool) (σ : Store) : evLen tab 34 (.ds nl cs len t) σ = some (.int .i64 len) := rfl
theorem leno_34 (nl : Bool) (sz id ver off len : Nat) (t : Bool) (σ : Store) : evLen tab 34 (.os nl sz id ver off len t) σ = some (.int .i64 len) := rfl
theorem sz_35 : sized tab 35 = true := rfl
theorem sz_36 : sized tab 36 = true := rfl
theorem sz_37 : sized tab 37 = true := rfl
theorem sz_38 : sized tab 38 = true := rfl
theorem sz_39 : sized tab 39 = true := rfl
theorem sz_40 : sized tab 40 = true := rfl
theorem len_40 (nl : Bool) (cs : List AV) (len : Nat) (t : Bool) (σ : Store) : evLen tab 40 (.ds nl cs len t) σ = some (.int .i64 len) := rfl
theorem leno_40 (nl : Bool) (sz id ver off len : Nat) (t : Bool) (σ : Store) : evLen tab 40 (.os nl sz id ver off len t) σ = some (.int .i64 len) := rfl
theorem sz_41 : sized tab 41 = true := rfl
theorem sz_42 : sized tab 42 = true := rfl
theorem sz_43 : sized tab 43 = true := rfl
theorem fao_43_0 (id ver off : Nat) : evFieldAddr tab 43 (.op id ver off) 0 = some (.op id ver (off + 0)) := rfl
theorem fad_43_0 (cs : List AV) (off : Nat) : evFieldAddr tab 43 (.dp cs off) 0 = some (.dp cs (off + 0)) := rfl
theorem fao_43_1 (id ver off : Nat) : evFieldAddr tab 43 (.op id ver off) 1 = some (.op id ver (off + 1)) := rfl
theorem fad_43_1 (cs : List AV) (off : Nat) : evFieldAddr tab 43 (.dp cs off) 1 = some (.dp cs (off + 1)) := rfl
theorem fao_43_2 (id ver off : Nat) : evFieldAddr tab 43 (.op id ver off) 2 = some (.op id ver (off + 2)) := rfl
theorem fad_43_2 (cs : List AV) (off : Nat) : evFieldAddr tab 43 (.dp cs off) 2 = some (.dp cs (off + 2)) := rfl
theorem sz_44 : sized tab 44 = true := rfl
theorem fao_44_0 (id ver off : Nat) : evFieldAddr tab 44 (.op id ver off) 0 = some (.op id ver (off + 0)) := rfl
theorem fad_44_0 (cs : List AV) (off : Nat) : evFieldAddr tab 44 (.dp cs off) 0 = some (.dp cs (off + 0)) := rfl
theorem fao_44_1 (id ver off : Nat) : evFieldAddr tab 44 (.op id ver off) 1 = some (.op id ver (off + 1)) := rfl
theorem fad_44_1 (cs : List AV) (off : Nat) : evFieldAddr tab 44 (.dp cs off) 1 = some (.dp cs (off + 1)) := rfl
theorem fao_44_2 (id ver off : Nat) : evFieldAddr tab 44 (.op id ver off) 2 = some (.op id ver (off + 2)) := rfl
theorem fad_44_2 (cs : List AV) (off : Nat) : evFieldAddr tab 44 (.dp cs off) 2 = some (.dp cs (off + 2)) := rfl
theorem sz_45 : sized tab 45 = true := rfl
theorem sz_46 : sized tab 46 = true := rfl
theorem sz_47 : sized tab 47 = true := rfl
theorem sz_48 : sized tab 48 = true := rfl
theorem len_48 (nl : Bool) (cs : List AV) (len : Nat) (t : Bool) (σ : Store) : evLen tab 48 (.ds nl cs len t) σ = some (.int .i64 len) := rfl
theorem leno_48 (nl : Bool) (sz id ver off len : Nat) (t : Bool) (σ : Store) : evLen tab 48 (.os nl sz id ver off len t) σ = some (.int .i64 len) := rfl
theorem sz_49 : sized tab 49 = true := rfl
theorem len_49 (nl : Bool) (cs : List AV) (len : Nat) (t : Bool) (σ : Store) : evLen tab 49 (.ds nl cs len t) σ = some (.int .i64 len) := rfl
theorem leno_49 (nl : Bool) (sz id ver off len : Nat) (t : Bool) (σ : Store) : evLen tab 49 (.os nl sz id ver off len t) σ = some (.int .i64 len) := rfl
theorem sz_51 : sized tab 51 = true := rfl
theorem sz_52 : sized tab 52 = true := rfl
theorem sz_53 : sized tab 53 = true := rfl
theorem sz_54 : sized tab 54 = true := rfl
theorem cd_54 : cellsD tab 20 54 = some [TypeDesc.int IntKind.i64, TypeDesc.int IntKind.i64] := rfl
theorem fao_54_0 (id ver off : Nat) : evFieldAddr tab 54 (.op id ver off) 0 = some (.op id ver (off + 0)) := rfl
theorem fad_54_0 (cs : List AV) (off : Nat) : evFieldAddr tab 54 (.dp cs off) 0 = some (.dp cs (off + 0)) := rfl
theorem fao_54_1 (id ver off : Nat) : evFieldAddr tab 54 (.op id ver off) 1 = some (.op id ver (off + 1)) := rfl
theorem fad_54_1 (cs : List AV) (off : Nat) : evFieldAddr tab 54 (.dp cs off) 1 = some (.dp cs (off + 1)) := rfl
theorem sz_55 : sized tab 55 = true := rfl
theorem cd_55 : cellsD tab 20 55 = some [TypeDesc.int IntKind.i64, TypeDesc.int IntKind.i64] := rfl
theorem fao_55_0 (id ver off : Nat) : evFieldAddr tab 55 (.op id ver off) 0 = some (.op id ver (off + 0)) := rfl
theorem fad_55_0 (cs : List AV) (off : Nat) : evFieldAddr tab 55 (.dp cs off) 0 = some (.dp cs (off + 0)) := rfl
theorem fao_55_1 (id ver off : Nat) : evFieldAddr tab 55 (.op id ver off) 1 = some (.op id ver (off + 1)) := rfl
theorem fad_55_1 (cs : List AV) (off : Nat) : evFieldAddr tab 55 (.dp cs off) 1 = some (.dp cs (off + 1)) := rfl
theorem sz_56 : sized tab 56 = true := rfl
theorem sz_57 : sized tab 57 = true := rfl
theorem cd_57 : cellsD tab 20 57 = some [TypeDesc.int IntKind.i64, TypeDesc.int IntKind.i64, TypeDesc.int IntKind.i64] := rfl
theorem fao_57_0 (id ver off : Nat) : evFieldAddr tab 57 (.op id ver off) 0 = some (.op id ver (off + 0)) := rfl
theorem fad_57_0 (cs : List AV) (off : Nat) : evFieldAddr tab 57 (.dp cs off) 0 = some (.dp cs (off + 0)) := rfl
theorem fao_57_1 (id ver off : Nat) : evFieldAddr tab 57 (.op id ver off) 1 = some (.op id ver (off + 1)) := rfl
theorem fad_57_1 (cs : List AV) (off : Nat) : evFieldAddr tab 57 (.dp cs off) 1 = some (.dp cs (off + 1)) := rfl
theorem fao_57_2 (id ver off : Nat) : evFieldAddr tab 57 (.op id ver off) 2 = some (.op id ver (off + 2)) := rfl
theorem fad_57_2 (cs : List AV) (off : Nat) : evFieldAddr tab 57 (.dp cs off) 2 = some (.dp cs (off + 2)) := rfl
theorem sz_58 : sized tab 58 = true := rfl
theorem cd_58 : cellsD tab 20 58 = some [TypeDesc.int IntKind.i64, TypeDesc.int IntKind.i64, TypeDesc.int IntKind.i64] := rfl
theorem fao_58_0 (id ver off : Nat) : evFieldAddr tab 58 (.op id ver off) 0 = some (.op id ver (off + 0)) := rfl
theorem fad_58_0 (cs : List AV) (off : Nat) : evFieldAddr tab 58 (.dp cs off) 0 = some (.dp cs (off + 0)) := rfl
theorem fao_58_1 (id ver off : Nat) : evFieldAddr tab 58 (.op id ver off) 1 = some (.op id ver (off + 1)) := rfl
theorem fad_58_1 (cs : List AV) (off : Nat) : evFieldAddr tab 58 (.dp cs off) 1 = some (.dp cs (off + 1)) := rfl
theorem fao_58_2 (id ver off : Nat) : evFieldAddr tab 58 (.op id ver off) 2 = some (.op id ver (off + 2)) := rfl
theorem fad_58_2 (cs : List AV) (off : Nat) : evFieldAddr tab 58 (.dp cs off) 2 = some (.dp cs (off + 2)) := rfl
theorem sz_59 : sized tab 59 = true := rfl
theorem sz_60 : sized tab 60 = true := rfl
theorem sz_61 : sized tab 61 = true := rfl
theorem sz_62 : sized tab 62 = true := rfl
theorem sz_63 : sized tab 63 = true := rfl
theorem sz_65 : sized tab 65 = true := rfl
theorem sz_66 : sized tab 66 = true := rfl
theorem sz_67 : sized tab 67 = true := rfl
theorem fao_67_0 (id ver off : Nat) : evFieldAddr tab 67 (.op id ver off) 0 = some (.op id ver (off + 0)) := rfl
theorem fad_67_0 (cs : List AV) (off : Nat) : evFieldAddr tab 67 (.dp cs off) 0 = some (.dp cs (off + 0)) := rfl
theorem fao_67_1 (id ver off : Nat) : evFieldAddr tab 67 (.op id ver off) 1 = some (.op id ver (off + 1)) := rfl
theorem fad_67_1 (cs : List AV) (off : Nat) : evFieldAddr tab 67 (.dp cs off) 1 = some (.dp cs (off + 1)) := rfl
theorem fao_67_2 (id ver off : Nat) : evFieldAddr tab 67 (.op id ver off) 2 = some (.op id ver (off + 2)) := rfl
theorem fad_67_2 (cs : List AV) (off : Nat) : evFieldAddr tab 67 (.dp cs off) 2 = some (.dp cs (off + 2)) := rfl
theorem fao_67_3 (id ver off : Nat) : evFieldAddr tab 67 (.op id ver off) 3 = some (.op id ver (off + 3)) := rfl
theorem fad_67_3 (cs : List AV) (off : Nat) : evFieldAddr tab 67 (.dp cs off) 3 = some (.dp cs (off + 3)) := rfl
theorem sz_68 : sized tab 68 = true := rfl
theorem fao_68_0 (id ver off : Nat) : evFieldAddr tab 68 (.op id ver off) 0 = some (.op id ver (off + 0)) := rfl
theorem fad_68_0 (cs : List AV) (off : Nat) : evFieldAddr tab 68 (.dp cs off) 0 = some (.dp cs (off + 0)) := rfl
theorem fao_68_1 (id ver off : Nat) : evFieldAddr tab 68 (.op id ver off) 1 = some (.op id ver (off + 1)) := rfl
theorem fad_68_1 (cs : List AV) (off : Nat) : evFieldAddr tab 68 (.dp cs off) 1 = some (.dp cs (off + 1)) := rfl
theorem fao_68_2 (id ver off : Nat) : evFieldAddr tab 68 (.op id ver off) 2 = some (.op id ver (off + 2)) := rfl
theorem fad_68_2 (cs : List AV) (off : Nat) : evFieldAddr tab 68 (.dp cs off) 2 = some (.dp cs (off + 2)) := rfl
theorem fao_68_3 (id ver off : Nat) : evFieldAddr tab 68 (.op id ver off) 3 = some (.op id ver (off + 3)) := rfl
theorem fad_68_3 (cs : List AV) (off : Nat) : evFieldAddr tab 68 (.dp cs off) 3 = some (.dp cs (off + 3)) := rfl
theorem sz_69 : sized tab 69 = true := rfl
theorem cd_69 : cellsD tab 20 69 = some [TypeDesc.string, TypeDesc.int IntKind.i64, TypeDesc.int IntKind.i64, TypeDesc.bool] := rfl
theorem fao_69_0 (id ver off : Nat) : evFieldAddr tab 69 (.op id ver off) 0 = some (.op id ver (off + 0)) := rfl
theorem fad_69_0 (cs : List AV) (off : Nat) : evFieldAddr tab 69 (.dp cs off) 0 = some (.dp cs (off + 0)) := rfl
theorem fao_69_1 (id ver off : Nat) : evFieldAddr tab 69 (.op id ver off) 1 = some (.op id ver (off + 1)) := rfl
theorem fad_69_1 (cs : List AV) (off : Nat) : evFieldAddr tab 69 (.dp cs off) 1 = some (.dp cs (off + 1)) := rfl
theorem fao_69_2 (id ver off : Nat) : evFieldAddr tab 69 (.op id ver off) 2 = some (.op id ver (off + 2)) := rfl
theorem fad_69_2 (cs : List AV) (off : Nat) : evFieldAddr tab 69 (.dp cs off) 2 = some (.dp cs (off + 2)) := rfl
theorem fao_69_3 (id ver off : Nat) : evFieldAddr tab 69 (.op id ver off) 3 = some (.op id ver (off + 3)) := rfl
theorem fad_69_3 (cs : List AV) (off : Nat) : evFieldAddr tab 69 (.dp cs off) 3 = some (.dp cs (off + 3)) := rfl
theorem sz_70 : sized tab 70 = true := rfl
theorem cd_70 : cellsD tab 20 70 = some [TypeDesc.string, TypeDesc.int IntKind.i64, TypeDesc.int IntKind.i64, TypeDesc.bool] := rfl
theorem fao_70_0 (id ver off : Nat) : evFieldAddr tab 70 (.op id ver off) 0 = some (.op id ver (off + 0)) := rfl
theorem fad_70_0 (cs : List AV) (off : Nat) : evFieldAddr tab 70 (.dp cs off) 0 = some (.dp cs (off + 0)) := rfl
theorem fao_70_1 (id ver off : Nat) : evFieldAddr tab 70 (.op id ver off) 1 = some (.op id ver (off + 1)) := rfl
theorem fad_70_1 (cs : List AV) (off : Nat) : evFieldAddr tab 70 (.dp cs off) 1 = some (.dp cs (off + 1)) := rfl
theorem fao_70_2 (id ver off : Nat) : evFieldAddr tab 70 (.op id ver off) 2 = some (.op id ver (off + 2)) := rfl
theorem fad_70_2 (cs : List AV) (off : Nat) : evFieldAddr tab 70 (.dp cs off) 2 = some (.dp cs (off + 2)) := rfl
theorem fao_70_3 (id ver off : Nat) : evFieldAddr tab 70 (.op id ver off) 3 = some (.op id ver (off + 3)) := rfl
theorem fad_70_3 (cs : List AV) (off : Nat) : evFieldAddr tab 70 (.dp cs off) 3 = some (.dp cs (off + 3)) := rfl
theorem sz_71 : sized tab 71 = true := rfl
theorem sz_72 : sized tab 72 = true := rfl
theorem sz_73 : sized tab 73 = true := rfl
theorem sz_74 : sized tab 74 = true := rfl
theorem fao_74_0 (id ver off : Nat) : evFieldAddr tab 74 (.op id ver off) 0 = some (.op id ver (off + 0)) := rfl
theorem fad_74_0 (cs : List AV) (off : Nat) : evFieldAddr tab 74 (.dp cs off) 0 = some (.dp cs (off + 0)) := rfl
theorem fao_74_1 (id ver off : Nat) : evFieldAddr tab 74 (.op id ver off) 1 = some (.op id ver (off + 1)) := rfl
theorem fad_74_1 (cs : List AV) (off : Nat) : evFieldAddr tab 74 (.dp cs off) 1 = some (.dp cs (off + 1)) := rfl
theorem fao_74_2 (id ver off : Nat) : evFieldAddr tab 74 (.op id ver off) 2 = some (.op id ver (off + 2)) := rfl
theorem fad_74_2 (cs : List AV) (off : Nat) : evFieldAddr tab 74 (.dp cs off) 2 = some (.dp cs (off + 2)) := rfl
theorem sz_75 : sized tab 75 = true := rfl
theorem fao_75_0 (id ver off : Nat) : evFieldAddr tab 75 (.op id ver off) 0 = some (.op id ver (off + 0)) := rfl
theorem fad_75_0 (cs : List AV) (off : Nat) : evFieldAddr tab 75 (.dp cs off) 0 = some (.dp cs (off + 0)) := rfl
theorem fao_75_1 (id ver off : Nat) : evFieldAddr tab 75 (.op id ver off) 1 = some (.op id ver (off + 1)) := rfl
theorem fad_75_1 (cs : List AV) (off : Nat) : evFieldAddr tab 75 (.dp cs off) 1 = some (.dp cs (off + 1)) := rfl
theorem fao_75_2 (id ver off : Nat) : evFieldAddr tab 75 (.op id ver off) 2 = some (.op id ver (off + 2)) := rfl
theorem fad_75_2 (cs : List AV) (off : Nat) : evFieldAddr tab 75 (.dp cs off) 2 = some (.dp cs (off + 2)) := rfl
theorem sz_76 : sized tab 76 = true := rfl
theorem sz_77 : sized tab 77 = true := rfl
theorem sz_79 : sized tab 79 = true := rfl
theorem sz_80 : sized tab 80 = true := rfl
theorem cd_80 : cellsD tab 20 80 = some [TypeDesc.int IntKind.i64, TypeDesc.int IntKind.i64, TypeDesc.int IntKind.i64, TypeDesc.int IntKind.i64, TypeDesc.int IntKind.i64, TypeDesc.int IntKind.i64] := rfl
theorem sz_81 : sized tab 81 = true := rfl
theorem cd_81 : cellsD tab 20 81 = some [TypeDesc.int IntKind.i64, TypeDesc.int IntKind.i64, TypeDesc.int IntKind.i64, TypeDesc.int IntKind.i64, TypeDesc.int IntKind.i64, TypeDesc.int IntKind.i64] := rfl
theorem sz_82 : sized tab 82 = true := rfl
theorem sz_83 : sized tab 83 = true := rfl
theorem sz_84 : sized tab 84 = true := rfl
theorem fao_84_0 (id ver off : Nat) : evFieldAddr tab 84 (.op id ver off) 0 = some (.op id ver (off + 0)) := rfl
theorem fad_84_0 (cs : List AV) (off : Nat) : evFieldAddr tab 84 (.dp cs off) 0 = some (.dp cs (off + 0)) := rfl
theorem fao_84_1 (id ver off : Nat) : evFieldAddr tab 84 (.op id ver off) 1 = some (.op id ver (off + 1)) := rfl
theorem fad_84_1 (cs : List AV) (off : Nat) : evFieldAddr tab 84 (.dp cs off) 1 = some (.dp cs (off + 1)) := rfl
theorem fao_84_2 (id ver off : Nat) : evFieldAddr tab 84 (.op id ver off) 2 = some (.op id ver (off + 2)) := rfl
theorem fad_84_2 (cs : List AV) (off : Nat) : evFieldAddr tab 84 (.dp cs off) 2 = some (.dp cs (off + 2)) := rfl
theorem fao_84_3 (id ver off : Nat) : evFieldAddr tab 84 (.op id ver off) 3 = some (.op id ver (off + 3)) := rfl
theorem fad_84_3 (cs : List AV) (off : Nat) : evFieldAddr tab 84 (.dp cs off) 3 = some (.dp cs (off + 3)) := rfl
theorem sz_85 : sized tab 85 = true := rfl
theorem fao_85_0 (id ver off : Nat) : evFieldAddr tab 85 (.op id ver off) 0 = some (.op id ver (off + 0)) := rfl
theorem fad_85_0 (cs : List AV) (off : Nat) : evFieldAddr tab 85 (.dp cs off) 0 = some (.dp cs (off + 0)) := rfl
theorem fao_85_1 (id ver off : Nat) : evFieldAddr tab 85 (.op id ver off) 1 = some (.op id ver (off + 1)) := rfl
theorem fad_85_1 (cs : List AV) (off : Nat) : evFieldAddr tab 85 (.dp cs off) 1 = some (.dp cs (off + 1)) := rfl
theorem fao_85_2 (id ver off : Nat) : evFieldAddr tab 85 (.op id ver off) 2 = some (.op id ver (off + 2)) := rfl
theorem fad_85_2 (cs : List AV) (off : Nat) : evFieldAddr tab 85 (.dp cs off) 2 = some (.dp cs (off + 2)) := rfl
theorem fao_85_3 (id ver off : Nat) : evFieldAddr tab 85 (.op id ver off) 3 = some (.op id ver (off + 3)) := rfl
theorem fad_85_3 (cs : List AV) (off : Nat) : evFieldAddr tab 85 (.dp cs off) 3 = some (.dp cs (off + 3)) := rfl
theorem sz_89 : sized tab 89 = true := rfl
theorem cd_89 : cellsD tab 20 89 = some [TypeDesc.int IntKind.u32] := rfl
theorem sz_90 : sized tab 90 = true := rfl
theorem cd_90 : cellsD tab 20 90 = some [TypeDesc.int IntKind.u8] := rfl
theorem sz_91 : sized tab 91 = true := rfl
theorem cd_91 : cellsD tab 20 91 = some [TypeDesc.int IntKind.u8] := rfl
theorem sz_92 : sized tab 92 = true := rfl
theorem sz_93 : sized tab 93 = true := rfl
theorem sz_94 : sized tab 94 = true := rfl
theorem cd_94 : cellsD tab 20 94 = some [TypeDesc.int IntKind.i32] := rfl
theorem sz_95 : sized tab 95 = true := rfl
theorem cd_95 : cellsD tab 20 95 = some [TypeDesc.int IntKind.i32] := rfl
theorem sz_96 : sized tab 96 = true := rfl
theorem fao_96_0 (id ver off : Nat) : evFieldAddr tab 96 (.op id ver off) 0 = some (.op id ver (off + 0)) := rfl
theorem fad_96_0 (cs : List AV) (off : Nat) : evFieldAddr tab 96 (.dp cs off) 0 = some (.dp cs (off + 0)) := rfl
theorem fao_96_1 (id ver off : Nat) : evFieldAddr tab 96 (.op id ver off) 1 = some (.op id ver (off + 1)) := rfl
theorem fad_96_1 (cs : List AV) (off : Nat) : evFieldAddr tab 96 (.dp cs off) 1 = some (.dp cs (off + 1)) := rfl
theorem fao_96_2 (id ver off : Nat) : evFieldAddr tab 96 (.op id ver off) 2 = some (.op id ver (off + 2)) := rfl
theorem fad_96_2 (cs : List AV) (off : Nat) : evFieldAddr tab 96 (.dp cs off) 2 = some (.dp cs (off + 2)) := rfl
theorem fao_96_3 (id ver off : Nat) : evFieldAddr tab 96 (.op id ver off) 3 = some (.op id ver (off + 3)) := rfl
theorem fad_96_3 (cs : List AV) (off : Nat) : evFieldAddr tab 96 (.dp cs off) 3 = some (.dp cs (off + 3)) := rfl
theorem fao_96_4 (id ver off : Nat) : evFieldAddr tab 96 (.op id ver off) 4 = some (.op id ver (off + 4)) := rfl
theorem fad_96_4 (cs : List AV) (off : Nat) : evFieldAddr tab 96 (.dp cs off) 4 = some (.dp cs (off + 4)) := rfl
theorem fao_96_5 (id ver off : Nat) : evFieldAddr tab 96 (.op id ver off) 5 = some (.op id ver (off + 5)) := rfl
theorem fad_96_5 (cs : List AV) (off : Nat) : evFieldAddr tab 96 (.dp cs off) 5 = some (.dp cs (off + 5)) := rfl
theorem fao_96_6 (id ver off : Nat) : evFieldAddr tab 96 (.op id ver off) 6 = some (.op id ver (off + 6)) := rfl
theorem fad_96_6 (cs : List AV) (off : Nat) : evFieldAddr tab 96 (.dp cs off) 6 = some (.dp cs (off + 6)) := rfl
theorem fao_96_7 (id ver off : Nat) : evFieldAddr tab 96 (.op id ver off) 7 = some (.op id ver (off + 7)) := rfl
theorem fad_96_7 (cs : List AV) (off : Nat) : evFieldAddr tab 96 (.dp cs off) 7 = some (.dp cs (off + 7)) := rfl
theorem fao_96_8 (id ver off : Nat) : evFieldAddr tab 96 (.op id ver off) 8 = some (.op id ver (off + 8)) := rfl
theorem fad_96_8 (cs : List AV) (off : Nat) : evFieldAddr tab 96 (.dp cs off) 8 = some (.dp cs (off + 8)) := rfl
theorem fao_96_9 (id ver off : Nat) : evFieldAddr tab 96 (.op id ver off) 9 = some (.op id ver (off + 9)) := rfl
theorem fad_96_9 (cs : List AV) (off : Nat) : evFieldAddr tab 96 (.dp cs off) 9 = some (.dp cs (off + 9)) := rfl
theorem fao_96_10 (id ver off : Nat) : evFieldAddr tab 96 (.op id ver off) 10 = some (.op id ver (off + 10)) := rfl
theorem fad_96_10 (cs : List AV) (off : Nat) : evFieldAddr tab 96 (.dp cs off) 10 = some (.dp cs (off + 10)) := rfl
theorem sz_97 : sized tab 97 = true := rfl
theorem fao_97_0 (id ver off : Nat) : evFieldAddr tab 97 (.op id ver off) 0 = some (.op id ver (off + 0)) := rfl
theorem fad_97_0 (cs : List AV) (off : Nat) : evFieldAddr tab 97 (.dp cs off) 0 = some (.dp cs (off + 0)) := rfl
theorem fao_97_1 (id ver off : Nat) : evFieldAddr tab 97 (.op id ver off) 1 = some (.op id ver (off + 1)) := rfl
theorem fad_97_1 (cs : List AV) (off : Nat) : evFieldAddr tab 97 (.dp cs off) 1 = some (.dp cs (off + 1)) := rfl
theorem fao_97_2 (id ver off : Nat) : evFieldAddr tab 97 (.op id ver off) 2 = some (.op id ver (off + 2)) := rfl
theorem fad_97_2 (cs : List AV) (off : Nat) : evFieldAddr tab 97 (.dp cs off) 2 = some (.dp cs (off + 2)) := rfl
theorem fao_97_3 (id ver off : Nat) : evFieldAddr tab 97 (.op id ver off) 3 = some (.op id ver (off + 3)) := rfl
theorem fad_97_3 (cs : List AV) (off : Nat) : evFieldAddr tab 97 (.dp cs off) 3 = some (.dp cs (off + 3)) := rfl
theorem fao_97_4 (id ver off : Nat) : evFieldAddr tab 97 (.op id ver off) 4 = some (.op id ver (off + 4)) := rfl
theorem fad_97_4 (cs : List AV) (off : Nat) : evFieldAddr tab 97 (.dp cs off) 4 = some (.dp cs (off + 4)) := rfl
theorem fao_97_5 (id ver off : Nat) : evFieldAddr tab 97 (.op id ver off) 5 = some (.op id ver (off + 5)) := rfl
theorem fad_97_5 (cs : List AV) (off : Nat) : evFieldAddr tab 97 (.dp cs off) 5 = some (.dp cs (off + 5)) := rfl
theorem fao_97_6 (id ver off : Nat) : evFieldAddr tab 97 (.op id ver off) 6 = some (.op id ver (off + 6)) := rfl
theorem fad_97_6 (cs : List AV) (off : Nat) : evFieldAddr tab 97 (.dp cs off) 6 = some (.dp cs (off + 6)) := rfl
theorem fao_97_7 (id ver off : Nat) : evFieldAddr tab 97 (.op id ver off) 7 = some (.op id ver (off + 7)) := rfl
theorem fad_97_7 (cs : List AV) (off : Nat) : evFieldAddr tab 97 (.dp cs off) 7 = some (.dp cs (off + 7)) := rfl
theorem fao_97_8 (id ver off : Nat) : evFieldAddr tab 97 (.op id ver off) 8 = some (.op id ver (off + 8)) := rfl
theorem fad_97_8 (cs : List AV) (off : Nat) : evFieldAddr tab 97 (.dp cs off) 8 = some (.dp cs (off + 8)) := rfl
theorem fao_97_9 (id ver off : Nat) : evFieldAddr tab 97 (.op id ver off) 9 = some (.op id ver (off + 9)) := rfl
theorem fad_97_9 (cs : List AV) (off : Nat) : evFieldAddr tab 97 (.dp cs off) 9 = some (.dp cs (off + 9)) := rfl
theorem fao_97_10 (id ver off : Nat) : evFieldAddr tab 97 (.op id ver off) 10 = some (.op id ver (off + 10)) := rfl
theorem fad_97_10 (cs : List AV) (off : Nat) : evFieldAddr tab 97 (.dp cs off) 10 = some (.dp cs (off + 10)) := rfl
attribute [go_sem] tab_1 tab_2 tab_3 tab_4 tab_5 tab_6 tab_7 tab_8 tab_9 tab_10 tab_11 tab_12 tab_13 tab_14 tab_15 tab_16 tab_17 tab_18 tab_19 tab_20 tab_21 tab_22 tab_23 tab_24 tab_25 tab_26 tab_27 tab_28 tab_29 tab_30 tab_31 tab_32 tab_33 tab_34 tab_35 tab_36 tab_37 tab_38 tab_39 tab_40
attribute [go_sem] tab_41 tab_42 tab_43 tab_44 tab_45 tab_46 tab_47 tab_48 tab_49 tab_51 tab_52 tab_53 tab_54 tab_55 tab_56 tab_57 tab_58 tab_59 tab_60 tab_61 tab_62 tab_63 tab_65 tab_66 tab_67 tab_68 tab_69 tab_70 tab_71 tab_72 tab_73 tab_74 tab_75 tab_76 tab_77 tab_79 tab_80 tab_81 tab_82 tab_83
attribute [go_sem] tab_84 tab_85 tab_86 tab_87 tab_88 tab_89 tab_90 tab_91 tab_92 tab_93 tab_94 tab_95 tab_96 tab_97 sz_1 sz_2 cd_2 sz_3 cd_3 sz_4 cd_4 sz_5 cd_5 sz_6 cd_6 sz_7 fao_7_0 fad_7_0 fao_7_1 fad_7_1 fao_7_2 fad_7_2 fao_7_3 fad_7_3 sz_8 fao_8_0 fad_8_0 fao_8_1 fad_8_1 fao_8_2
attribute [go_sem] fad_8_2 fao_8_3 fad_8_3 sz_9 cd_9 len_9 sz_10 cd_10 len_10 sz_11 cd_11 len_11 sz_12 cd_12 sz_13 fao_13_0 fad_13_0 fao_13_1 fad_13_1 sz_14 fao_14_0 fad_14_0 fao_14_1 fad_14_1 sz_15 sz_16 sz_17 sz_18 fao_18_0 fad_18_0 sz_19 fao_19_0 fad_19_0 sz_20 sz_21 cd_21 sz_22 len_22 leno_22 sz_23
attribute [go_sem] sz_24 sz_25 sz_26 sz_27 len_27 leno_27 sz_28 cd_28 sz_29 sz_30 sz_31 sz_32 sz_33 sz_34 len_34 leno_34 sz_35 sz_36 sz_37 sz_38 sz_39 sz_40 len_40 leno_40 sz_41 sz_42 sz_43 fao_43_0 fad_43_0 fao_43_1 fad_43_1 fao_43_2 fad_43_2 sz_44 fao_44_0 fad_44_0 fao_44_1 fad_44_1 fao_44_2 fad_44_2
attribute [go_sem] sz_45 sz_46 sz_47 sz_48 len_48 leno_48 sz_49 len_49 leno_49 sz_51 sz_52 sz_53 sz_54 cd_54 fao_54_0 fad_54_0 fao_54_1 fad_54_1 sz_55 cd_55 fao_55_0 fad_55_0 fao_55_1 fad_55_1 sz_56 sz_57 cd_57 fao_57_0 fad_57_0 fao_57_1 fad_57_1 fao_57_2 fad_57_2 sz_58 cd_58 fao_58_0 fad_58_0 fao_58_1 fad_58_1 fao_58_2
attribute [go_sem] fad_58_2 sz_59 sz_60 sz_61 sz_62 sz_63 sz_65 sz_66 sz_67 fao_67_0 fad_67_0 fao_67_1 fad_67_1 fao_67_2 fad_67_2 fao_67_3 fad_67_3 sz_68 fao_68_0 fad_68_0 fao_68_1 fad_68_1 fao_68_2 fad_68_2 fao_68_3 fad_68_3 sz_69 cd_69 fao_69_0 fad_69_0 fao_69_1 fad_69_1 fao_69_2 fad_69_2 fao_69_3 fad_69_3 sz_70 cd_70 fao_70_0 fad_70_0
attribute [go_sem] fao_70_1 fad_70_1 fao_70_2 fad_70_2 fao_70_3 fad_70_3 sz_71 sz_72 sz_73 sz_74 fao_74_0 fad_74_0 fao_74_1 fad_74_1 fao_74_2 fad_74_2 sz_75 fao_75_0 fad_75_0 fao_75_1 fad_75_1 fao_75_2 fad_75_2 sz_76 sz_77 sz_79 sz_80 cd_80 sz_81 cd_81 sz_82 sz_83 sz_84 fao_84_0 fad_84_0 fao_84_1 fad_84_1 fao_84_2 fad_84_2 fao_84_3
attribute [go_sem] fad_84_3 sz_85 fao_85_0 fad_85_0 fao_85_1 fad_85_1 fao_85_2 fad_85_2 fao_85_3 fad_85_3 sz_89 cd_89 sz_90 cd_90 sz_91 cd_91 sz_92 sz_93 sz_94 cd_94 sz_95 cd_95 sz_96 fao_96_0 fad_96_0 fao_96_1 fad_96_1 fao_96_2 fad_96_2 fao_96_3 fad_96_3 fao_96_4 fad_96_4 fao_96_5 fad_96_5 fao_96_6 fad_96_6 fao_96_7 fad_96_7 fao_96_8
attribute [go_sem] fad_96_8 fao_96_9 fad_96_9 fao_96_10 fad_96_10 sz_97 fao_97_0 fad_97_0 fao_97_1 fad_97_1 fao_97_2 fad_97_2 fao_97_3 fad_97_3 fao_97_4 fad_97_4 fao_97_5 fad_97_5 fao_97_6 fad_97_6 fao_97_7 fad_97_7 fao_97_8 fad_97_8 fao_97_9 fad_97_9 fao_97_10 fad_97_10
end Go.Proofs.Ytplddidoobjcnaa
