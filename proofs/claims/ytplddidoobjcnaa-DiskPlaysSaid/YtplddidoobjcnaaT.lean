/- The types of this seat's translation, as the abstract machine uses them: what each is, its size, its zero value; each row is proved off the loaded program. -/
import Derived.Test.YtplddidoobjcnaaProg
import Derived.Test.YtplddidoobjcnaaAb
namespace Go.Proofs.Ytplddidoobjcnaa
open AM

def ti1 : TI := ⟨TypeDesc.func #[] #[] false, 1, 8, AV.nilF⟩
def ti2 : TI := ⟨TypeDesc.int IntKind.i64, 1, 8, AV.int .i64 0⟩
def ti3 : TI := ⟨TypeDesc.int IntKind.i64, 1, 8, AV.int .i64 0⟩
def ti4 : TI := ⟨TypeDesc.bool, 1, 1, AV.bool false⟩
def ti5 : TI := ⟨TypeDesc.int IntKind.u8, 1, 1, AV.int .u8 0⟩
def ti6 : TI := ⟨TypeDesc.int IntKind.u8, 1, 1, AV.int .u8 0⟩
def ti7 : TI := ⟨TypeDesc.struct #[{ name := "x", type := 2, offset := 0, embedded := false, tag := "", pkgPath := "runtime", byteOffset := 0 }, { name := "y", type := 3, offset := 1, embedded := false, tag := "", pkgPath := "runtime", byteOffset := 8 }, { name := "signed", type := 4, offset := 2, embedded := false, tag := "", pkgPath := "runtime", byteOffset := 16 }, { name := "code", type := 6, offset := 3, embedded := false, tag := "", pkgPath := "runtime", byteOffset := 17 }], 4, 24, AV.agg [AV.int .i64 0, AV.int .i64 0, AV.bool false, AV.int .u8 0]⟩
def ti8 : TI := ⟨TypeDesc.struct #[{ name := "x", type := 2, offset := 0, embedded := false, tag := "", pkgPath := "runtime", byteOffset := 0 }, { name := "y", type := 3, offset := 1, embedded := false, tag := "", pkgPath := "runtime", byteOffset := 8 }, { name := "signed", type := 4, offset := 2, embedded := false, tag := "", pkgPath := "runtime", byteOffset := 16 }, { name := "code", type := 6, offset := 3, embedded := false, tag := "", pkgPath := "runtime", byteOffset := 17 }], 4, 24, AV.agg [AV.int .i64 0, AV.int .i64 0, AV.bool false, AV.int .u8 0]⟩
def ti9 : TI := ⟨TypeDesc.string, 1, 16, AV.str []⟩
def ti10 : TI := ⟨TypeDesc.string, 1, 16, AV.str []⟩
def ti11 : TI := ⟨TypeDesc.string, 1, 16, AV.str []⟩
def ti12 : TI := ⟨TypeDesc.int IntKind.u64, 1, 8, AV.int .u64 0⟩
def ti13 : TI := ⟨TypeDesc.struct #[{ name := "msg", type := 9, offset := 0, embedded := false, tag := "", pkgPath := "runtime", byteOffset := 0 }, { name := "addr", type := 12, offset := 1, embedded := false, tag := "", pkgPath := "runtime", byteOffset := 16 }], 2, 24, AV.agg [AV.str [], AV.int .u64 0]⟩
def ti14 : TI := ⟨TypeDesc.struct #[{ name := "msg", type := 9, offset := 0, embedded := false, tag := "", pkgPath := "runtime", byteOffset := 0 }, { name := "addr", type := 12, offset := 1, embedded := false, tag := "", pkgPath := "runtime", byteOffset := 16 }], 2, 24, AV.agg [AV.str [], AV.int .u64 0]⟩
def ti15 : TI := ⟨TypeDesc.pointer 85, 1, 8, AV.nilp⟩
def ti16 : TI := ⟨TypeDesc.pointer 88, 1, 8, AV.nilp⟩
def ti17 : TI := ⟨TypeDesc.pointer 97, 1, 8, AV.nilp⟩
def ti18 : TI := ⟨TypeDesc.struct #[{ name := "typ", type := 17, offset := 0, embedded := false, tag := "", pkgPath := "internal/runtime/maps", byteOffset := 0 }], 1, 8, AV.agg [AV.nilp]⟩
def ti19 : TI := ⟨TypeDesc.struct #[{ name := "typ", type := 17, offset := 0, embedded := false, tag := "", pkgPath := "internal/runtime/maps", byteOffset := 0 }], 1, 8, AV.agg [AV.nilp]⟩
def ti20 : TI := ⟨TypeDesc.interface #[], 1, 16, AV.nilI⟩
def ti21 : TI := ⟨TypeDesc.int IntKind.i32, 1, 4, AV.int .i32 0⟩
def ti22 : TI := ⟨TypeDesc.slice 27, 1, 24, AV.ds true [] 0 true⟩
def ti23 : TI := ⟨TypeDesc.pointer 68, 1, 8, AV.nilp⟩
def ti24 : TI := ⟨TypeDesc.func #[3] #[23] false, 1, 8, AV.nilF⟩
def ti25 : TI := ⟨TypeDesc.func #[3, 3] #[3] false, 1, 8, AV.nilF⟩
def ti26 : TI := ⟨TypeDesc.func #[3] #[] false, 1, 8, AV.nilF⟩
def ti27 : TI := ⟨TypeDesc.slice 5, 1, 24, AV.ds true [] 0 true⟩
def ti28 : TI := ⟨TypeDesc.int IntKind.i64, 1, 8, AV.int .i64 0⟩
def ti29 : TI := ⟨TypeDesc.func #[27] #[28] false, 1, 8, AV.nilF⟩
def ti30 : TI := ⟨TypeDesc.func #[27] #[27] false, 1, 8, AV.nilF⟩
def ti31 : TI := ⟨TypeDesc.func #[] #[4] false, 1, 8, AV.nilF⟩
def ti32 : TI := ⟨TypeDesc.func #[] #[27] false, 1, 8, AV.nilF⟩
def ti33 : TI := ⟨TypeDesc.func #[22, 3] #[4] false, 1, 8, AV.nilF⟩
def ti34 : TI := ⟨TypeDesc.slice 3, 1, 24, AV.ds true [] 0 true⟩
def ti35 : TI := ⟨TypeDesc.func #[] #[3] false, 1, 8, AV.nilF⟩
def ti36 : TI := ⟨TypeDesc.func #[3, 34] #[4] false, 1, 8, AV.nilF⟩
def ti37 : TI := ⟨TypeDesc.func #[] #[23] false, 1, 8, AV.nilF⟩
def ti38 : TI := ⟨TypeDesc.func #[3] #[28] false, 1, 8, AV.nilF⟩
def ti39 : TI := ⟨TypeDesc.func #[27, 27, 3] #[4] false, 1, 8, AV.nilF⟩
def ti40 : TI := ⟨TypeDesc.slice 44, 1, 24, AV.ds true [] 0 true⟩
def ti41 : TI := ⟨TypeDesc.pointer 70, 1, 8, AV.nilp⟩
def ti42 : TI := ⟨TypeDesc.func #[3] #[41] false, 1, 8, AV.nilF⟩
def ti43 : TI := ⟨TypeDesc.struct #[{ name := "Kind", type := 3, offset := 0, embedded := false, tag := "", pkgPath := "", byteOffset := 0 }, { name := "N", type := 3, offset := 1, embedded := false, tag := "", pkgPath := "", byteOffset := 8 }, { name := "B", type := 27, offset := 2, embedded := false, tag := "", pkgPath := "", byteOffset := 16 }], 3, 40, AV.agg [AV.int .i64 0, AV.int .i64 0, AV.ds true [] 0 true]⟩
def ti44 : TI := ⟨TypeDesc.struct #[{ name := "Kind", type := 3, offset := 0, embedded := false, tag := "", pkgPath := "", byteOffset := 0 }, { name := "N", type := 3, offset := 1, embedded := false, tag := "", pkgPath := "", byteOffset := 8 }, { name := "B", type := 27, offset := 2, embedded := false, tag := "", pkgPath := "", byteOffset := 16 }], 3, 40, AV.agg [AV.int .i64 0, AV.int .i64 0, AV.ds true [] 0 true]⟩
def ti45 : TI := ⟨TypeDesc.func #[] #[41] false, 1, 8, AV.nilF⟩
def ti46 : TI := ⟨TypeDesc.func #[23, 41] #[4] false, 1, 8, AV.nilF⟩
def ti47 : TI := ⟨TypeDesc.func #[3, 40] #[4] false, 1, 8, AV.nilF⟩
def ti48 : TI := ⟨TypeDesc.slice 58, 1, 24, AV.ds true [] 0 true⟩
def ti49 : TI := ⟨TypeDesc.slice 55, 1, 24, AV.ds true [] 0 true⟩
def ti51 : TI := ⟨TypeDesc.func #[48, 49] #[34, 28] false, 1, 8, AV.nilF⟩
def ti52 : TI := ⟨TypeDesc.func #[48] #[48] false, 1, 8, AV.nilF⟩
def ti53 : TI := ⟨TypeDesc.func #[49] #[49] false, 1, 8, AV.nilF⟩
def ti54 : TI := ⟨TypeDesc.struct #[{ name := "From", type := 3, offset := 0, embedded := false, tag := "", pkgPath := "", byteOffset := 0 }, { name := "To", type := 3, offset := 1, embedded := false, tag := "", pkgPath := "", byteOffset := 8 }], 2, 16, AV.agg [AV.int .i64 0, AV.int .i64 0]⟩
def ti55 : TI := ⟨TypeDesc.struct #[{ name := "From", type := 3, offset := 0, embedded := false, tag := "", pkgPath := "", byteOffset := 0 }, { name := "To", type := 3, offset := 1, embedded := false, tag := "", pkgPath := "", byteOffset := 8 }], 2, 16, AV.agg [AV.int .i64 0, AV.int .i64 0]⟩
def ti56 : TI := ⟨TypeDesc.func #[58, 58] #[4] false, 1, 8, AV.nilF⟩
def ti57 : TI := ⟨TypeDesc.struct #[{ name := "Version", type := 3, offset := 0, embedded := false, tag := "", pkgPath := "", byteOffset := 0 }, { name := "Target", type := 3, offset := 1, embedded := false, tag := "", pkgPath := "", byteOffset := 8 }, { name := "Back", type := 3, offset := 2, embedded := false, tag := "", pkgPath := "", byteOffset := 16 }], 3, 24, AV.agg [AV.int .i64 0, AV.int .i64 0, AV.int .i64 0]⟩
def ti58 : TI := ⟨TypeDesc.struct #[{ name := "Version", type := 3, offset := 0, embedded := false, tag := "", pkgPath := "", byteOffset := 0 }, { name := "Target", type := 3, offset := 1, embedded := false, tag := "", pkgPath := "", byteOffset := 8 }, { name := "Back", type := 3, offset := 2, embedded := false, tag := "", pkgPath := "", byteOffset := 16 }], 3, 24, AV.agg [AV.int .i64 0, AV.int .i64 0, AV.int .i64 0]⟩
def ti59 : TI := ⟨TypeDesc.func #[48, 49] #[4] false, 1, 8, AV.nilF⟩
def ti60 : TI := ⟨TypeDesc.func #[48, 49, 34] #[4] false, 1, 8, AV.nilF⟩
def ti61 : TI := ⟨TypeDesc.func #[34, 34] #[4] false, 1, 8, AV.nilF⟩
def ti62 : TI := ⟨TypeDesc.func #[34, 34, 49] #[4] false, 1, 8, AV.nilF⟩
def ti63 : TI := ⟨TypeDesc.func #[3, 3, 3, 3] #[4] false, 1, 8, AV.nilF⟩
def ti65 : TI := ⟨TypeDesc.func #[48, 3] #[48, 4] false, 1, 8, AV.nilF⟩
def ti66 : TI := ⟨TypeDesc.func #[48, 49, 3] #[4] false, 1, 8, AV.nilF⟩
def ti67 : TI := ⟨TypeDesc.struct #[{ name := "b", type := 27, offset := 0, embedded := false, tag := "", pkgPath := "concordat/disk", byteOffset := 0 }, { name := "room", type := 3, offset := 1, embedded := false, tag := "", pkgPath := "concordat/disk", byteOffset := 24 }, { name := "left", type := 3, offset := 2, embedded := false, tag := "", pkgPath := "concordat/disk", byteOffset := 32 }, { name := "dead", type := 4, offset := 3, embedded := false, tag := "", pkgPath := "concordat/disk", byteOffset := 40 }], 4, 48, AV.agg [AV.ds true [] 0 true, AV.int .i64 0, AV.int .i64 0, AV.bool false]⟩
def ti68 : TI := ⟨TypeDesc.struct #[{ name := "b", type := 27, offset := 0, embedded := false, tag := "", pkgPath := "concordat/disk", byteOffset := 0 }, { name := "room", type := 3, offset := 1, embedded := false, tag := "", pkgPath := "concordat/disk", byteOffset := 24 }, { name := "left", type := 3, offset := 2, embedded := false, tag := "", pkgPath := "concordat/disk", byteOffset := 32 }, { name := "dead", type := 4, offset := 3, embedded := false, tag := "", pkgPath := "concordat/disk", byteOffset := 40 }], 4, 48, AV.agg [AV.ds true [] 0 true, AV.int .i64 0, AV.int .i64 0, AV.bool false]⟩
def ti69 : TI := ⟨TypeDesc.struct #[{ name := "B", type := 9, offset := 0, embedded := false, tag := "", pkgPath := "", byteOffset := 0 }, { name := "Room", type := 3, offset := 1, embedded := false, tag := "", pkgPath := "", byteOffset := 16 }, { name := "Left", type := 3, offset := 2, embedded := false, tag := "", pkgPath := "", byteOffset := 24 }, { name := "IsDead", type := 4, offset := 3, embedded := false, tag := "", pkgPath := "", byteOffset := 32 }], 4, 40, AV.agg [AV.str [], AV.int .i64 0, AV.int .i64 0, AV.bool false]⟩
def ti70 : TI := ⟨TypeDesc.struct #[{ name := "B", type := 9, offset := 0, embedded := false, tag := "", pkgPath := "", byteOffset := 0 }, { name := "Room", type := 3, offset := 1, embedded := false, tag := "", pkgPath := "", byteOffset := 16 }, { name := "Left", type := 3, offset := 2, embedded := false, tag := "", pkgPath := "", byteOffset := 24 }, { name := "IsDead", type := 4, offset := 3, embedded := false, tag := "", pkgPath := "", byteOffset := 32 }], 4, 40, AV.agg [AV.str [], AV.int .i64 0, AV.int .i64 0, AV.bool false]⟩
def ti71 : TI := ⟨TypeDesc.func #[48, 49] #[28] false, 1, 8, AV.nilF⟩
def ti72 : TI := ⟨TypeDesc.pointer 75, 1, 8, AV.nilp⟩
def ti73 : TI := ⟨TypeDesc.map 81 4, 1, 8, AV.nilm⟩
def ti74 : TI := ⟨TypeDesc.struct #[{ name := "edges", type := 49, offset := 0, embedded := false, tag := "", pkgPath := "concordat/plan", byteOffset := 0 }, { name := "dead", type := 73, offset := 1, embedded := false, tag := "", pkgPath := "concordat/plan", byteOffset := 24 }, { name := "steps", type := 34, offset := 2, embedded := false, tag := "", pkgPath := "concordat/plan", byteOffset := 32 }], 3, 56, AV.agg [AV.ds true [] 0 true, AV.nilm, AV.ds true [] 0 true]⟩
def ti75 : TI := ⟨TypeDesc.struct #[{ name := "edges", type := 49, offset := 0, embedded := false, tag := "", pkgPath := "concordat/plan", byteOffset := 0 }, { name := "dead", type := 73, offset := 1, embedded := false, tag := "", pkgPath := "concordat/plan", byteOffset := 24 }, { name := "steps", type := 34, offset := 2, embedded := false, tag := "", pkgPath := "concordat/plan", byteOffset := 32 }], 3, 56, AV.agg [AV.ds true [] 0 true, AV.nilm, AV.ds true [] 0 true]⟩
def ti76 : TI := ⟨TypeDesc.func #[48] #[4] false, 1, 8, AV.nilF⟩
def ti77 : TI := ⟨TypeDesc.func #[3, 3, 3] #[4] false, 1, 8, AV.nilF⟩
def ti79 : TI := ⟨TypeDesc.func #[58] #[3, 4] false, 1, 8, AV.nilF⟩
def ti80 : TI := ⟨TypeDesc.array 6 3, 6, 48, AV.agg [AV.int .i64 0, AV.int .i64 0, AV.int .i64 0, AV.int .i64 0, AV.int .i64 0, AV.int .i64 0]⟩
def ti81 : TI := ⟨TypeDesc.array 6 3, 6, 48, AV.agg [AV.int .i64 0, AV.int .i64 0, AV.int .i64 0, AV.int .i64 0, AV.int .i64 0, AV.int .i64 0]⟩
def ti82 : TI := ⟨TypeDesc.func #[48] #[81] false, 1, 8, AV.nilF⟩
def ti83 : TI := ⟨TypeDesc.func #[] #[9] false, 1, 8, AV.nilF⟩
def ti84 : TI := ⟨TypeDesc.struct #[{ name := "_interface", type := 17, offset := 0, embedded := false, tag := "", pkgPath := "runtime", byteOffset := 0 }, { name := "concrete", type := 17, offset := 1, embedded := false, tag := "", pkgPath := "runtime", byteOffset := 8 }, { name := "asserted", type := 17, offset := 2, embedded := false, tag := "", pkgPath := "runtime", byteOffset := 16 }, { name := "missingMethod", type := 9, offset := 3, embedded := false, tag := "", pkgPath := "runtime", byteOffset := 24 }], 4, 40, AV.agg [AV.nilp, AV.nilp, AV.nilp, AV.str []]⟩
def ti85 : TI := ⟨TypeDesc.struct #[{ name := "_interface", type := 17, offset := 0, embedded := false, tag := "", pkgPath := "runtime", byteOffset := 0 }, { name := "concrete", type := 17, offset := 1, embedded := false, tag := "", pkgPath := "runtime", byteOffset := 8 }, { name := "asserted", type := 17, offset := 2, embedded := false, tag := "", pkgPath := "runtime", byteOffset := 16 }, { name := "missingMethod", type := 9, offset := 3, embedded := false, tag := "", pkgPath := "runtime", byteOffset := 24 }], 4, 40, AV.agg [AV.nilp, AV.nilp, AV.nilp, AV.str []]⟩
def ti86 : TI := ⟨TypeDesc.array 0 16, 0, 0, AV.agg []⟩
def ti87 : TI := ⟨TypeDesc.struct #[{ name := "_", type := 86, offset := 0, embedded := false, tag := "", pkgPath := "runtime", byteOffset := 0 }], 0, 0, AV.agg []⟩
def ti88 : TI := ⟨TypeDesc.struct #[{ name := "_", type := 86, offset := 0, embedded := false, tag := "", pkgPath := "runtime", byteOffset := 0 }], 0, 0, AV.agg []⟩
def ti89 : TI := ⟨TypeDesc.int IntKind.u32, 1, 4, AV.int .u32 0⟩
def ti90 : TI := ⟨TypeDesc.int IntKind.u8, 1, 1, AV.int .u8 0⟩
def ti91 : TI := ⟨TypeDesc.int IntKind.u8, 1, 1, AV.int .u8 0⟩
def ti92 : TI := ⟨TypeDesc.func #[98, 98] #[4] false, 1, 8, AV.nilF⟩
def ti93 : TI := ⟨TypeDesc.pointer 5, 1, 8, AV.nilp⟩
def ti94 : TI := ⟨TypeDesc.int IntKind.i32, 1, 4, AV.int .i32 0⟩
def ti95 : TI := ⟨TypeDesc.int IntKind.i32, 1, 4, AV.int .i32 0⟩
def ti96 : TI := ⟨TypeDesc.struct #[{ name := "Size_", type := 12, offset := 0, embedded := false, tag := "", pkgPath := "", byteOffset := 0 }, { name := "PtrBytes", type := 12, offset := 1, embedded := false, tag := "", pkgPath := "", byteOffset := 8 }, { name := "Hash", type := 89, offset := 2, embedded := false, tag := "", pkgPath := "", byteOffset := 16 }, { name := "TFlag", type := 90, offset := 3, embedded := false, tag := "", pkgPath := "", byteOffset := 20 }, { name := "Align_", type := 5, offset := 4, embedded := false, tag := "", pkgPath := "", byteOffset := 21 }, { name := "FieldAlign_", type := 5, offset := 5, embedded := false, tag := "", pkgPath := "", byteOffset := 22 }, { name := "Kind_", type := 91, offset := 6, embedded := false, tag := "", pkgPath := "", byteOffset := 23 }, { name := "Equal", type := 92, offset := 7, embedded := false, tag := "", pkgPath := "", byteOffset := 24 }, { name := "GCData", type := 93, offset := 8, embedded := false, tag := "", pkgPath := "", byteOffset := 32 }, { name := "Str", type := 94, offset := 9, embedded := false, tag := "", pkgPath := "", byteOffset := 40 }, { name := "PtrToThis", type := 95, offset := 10, embedded := false, tag := "", pkgPath := "", byteOffset := 44 }], 11, 48, AV.agg [AV.int .u64 0, AV.int .u64 0, AV.int .u32 0, AV.int .u8 0, AV.int .u8 0, AV.int .u8 0, AV.int .u8 0, AV.nilF, AV.nilp, AV.int .i32 0, AV.int .i32 0]⟩
def ti97 : TI := ⟨TypeDesc.struct #[{ name := "Size_", type := 12, offset := 0, embedded := false, tag := "", pkgPath := "", byteOffset := 0 }, { name := "PtrBytes", type := 12, offset := 1, embedded := false, tag := "", pkgPath := "", byteOffset := 8 }, { name := "Hash", type := 89, offset := 2, embedded := false, tag := "", pkgPath := "", byteOffset := 16 }, { name := "TFlag", type := 90, offset := 3, embedded := false, tag := "", pkgPath := "", byteOffset := 20 }, { name := "Align_", type := 5, offset := 4, embedded := false, tag := "", pkgPath := "", byteOffset := 21 }, { name := "FieldAlign_", type := 5, offset := 5, embedded := false, tag := "", pkgPath := "", byteOffset := 22 }, { name := "Kind_", type := 91, offset := 6, embedded := false, tag := "", pkgPath := "", byteOffset := 23 }, { name := "Equal", type := 92, offset := 7, embedded := false, tag := "", pkgPath := "", byteOffset := 24 }, { name := "GCData", type := 93, offset := 8, embedded := false, tag := "", pkgPath := "", byteOffset := 32 }, { name := "Str", type := 94, offset := 9, embedded := false, tag := "", pkgPath := "", byteOffset := 40 }, { name := "PtrToThis", type := 95, offset := 10, embedded := false, tag := "", pkgPath := "", byteOffset := 44 }], 11, 48, AV.agg [AV.int .u64 0, AV.int .u64 0, AV.int .u32 0, AV.int .u8 0, AV.int .u8 0, AV.int .u8 0, AV.int .u8 0, AV.nilF, AV.nilp, AV.int .i32 0, AV.int .i32 0]⟩
def tabL : List (Option TI) := [none, some ti1, some ti2, some ti3, some ti4, some ti5, some ti6, some ti7, some ti8, some ti9, some ti10, some ti11, some ti12, some ti13, some ti14, some ti15, some ti16, some ti17, some ti18, some ti19, some ti20, some ti21, some ti22, some ti23, some ti24, some ti25, some ti26, some ti27, some ti28, some ti29, some ti30, some ti31, some ti32, some ti33, some ti34, some ti35, some ti36, some ti37, some ti38, some ti39, some ti40, some ti41, some ti42, some ti43, some ti44, some ti45, some ti46, some ti47, some ti48, some ti49, none, some ti51, some ti52, some ti53, some ti54, some ti55, some ti56, some ti57, some ti58, some ti59, some ti60, some ti61, some ti62, some ti63, none, some ti65, some ti66, some ti67, some ti68, some ti69, some ti70, some ti71, some ti72, some ti73, some ti74, some ti75, some ti76, some ti77, none, some ti79, some ti80, some ti81, some ti82, some ti83, some ti84, some ti85, some ti86, some ti87, some ti88, some ti89, some ti90, some ti91, some ti92, some ti93, some ti94, some ti95, some ti96, some ti97, none]
def tab : TT := fun t => (tabL[t]?).getD none
theorem tab_1 : tab 1 = some ⟨TypeDesc.func #[] #[] false, 1, 8, AV.nilF⟩ := rfl
theorem tab_2 : tab 2 = some ⟨TypeDesc.int IntKind.i64, 1, 8, AV.int .i64 0⟩ := rfl
theorem tab_3 : tab 3 = some ⟨TypeDesc.int IntKind.i64, 1, 8, AV.int .i64 0⟩ := rfl
theorem tab_4 : tab 4 = some ⟨TypeDesc.bool, 1, 1, AV.bool false⟩ := rfl
theorem tab_5 : tab 5 = some ⟨TypeDesc.int IntKind.u8, 1, 1, AV.int .u8 0⟩ := rfl
theorem tab_6 : tab 6 = some ⟨TypeDesc.int IntKind.u8, 1, 1, AV.int .u8 0⟩ := rfl
theorem tab_7 : tab 7 = some ⟨TypeDesc.struct #[{ name := "x", type := 2, offset := 0, embedded := false, tag := "", pkgPath := "runtime", byteOffset := 0 }, { name := "y", type := 3, offset := 1, embedded := false, tag := "", pkgPath := "runtime", byteOffset := 8 }, { name := "signed", type := 4, offset := 2, embedded := false, tag := "", pkgPath := "runtime", byteOffset := 16 }, { name := "code", type := 6, offset := 3, embedded := false, tag := "", pkgPath := "runtime", byteOffset := 17 }], 4, 24, AV.agg [AV.int .i64 0, AV.int .i64 0, AV.bool false, AV.int .u8 0]⟩ := rfl
theorem tab_8 : tab 8 = some ⟨TypeDesc.struct #[{ name := "x", type := 2, offset := 0, embedded := false, tag := "", pkgPath := "runtime", byteOffset := 0 }, { name := "y", type := 3, offset := 1, embedded := false, tag := "", pkgPath := "runtime", byteOffset := 8 }, { name := "signed", type := 4, offset := 2, embedded := false, tag := "", pkgPath := "runtime", byteOffset := 16 }, { name := "code", type := 6, offset := 3, embedded := false, tag := "", pkgPath := "runtime", byteOffset := 17 }], 4, 24, AV.agg [AV.int .i64 0, AV.int .i64 0, AV.bool false, AV.int .u8 0]⟩ := rfl
theorem tab_9 : tab 9 = some ⟨TypeDesc.string, 1, 16, AV.str []⟩ := rfl
theorem tab_10 : tab 10 = some ⟨TypeDesc.string, 1, 16, AV.str []⟩ := rfl
theorem tab_11 : tab 11 = some ⟨TypeDesc.string, 1, 16, AV.str []⟩ := rfl
theorem tab_12 : tab 12 = some ⟨TypeDesc.int IntKind.u64, 1, 8, AV.int .u64 0⟩ := rfl
theorem tab_13 : tab 13 = some ⟨TypeDesc.struct #[{ name := "msg", type := 9, offset := 0, embedded := false, tag := "", pkgPath := "runtime", byteOffset := 0 }, { name := "addr", type := 12, offset := 1, embedded := false, tag := "", pkgPath := "runtime", byteOffset := 16 }], 2, 24, AV.agg [AV.str [], AV.int .u64 0]⟩ := rfl
theorem tab_14 : tab 14 = some ⟨TypeDesc.struct #[{ name := "msg", type := 9, offset := 0, embedded := false, tag := "", pkgPath := "runtime", byteOffset := 0 }, { name := "addr", type := 12, offset := 1, embedded := false, tag := "", pkgPath := "runtime", byteOffset := 16 }], 2, 24, AV.agg [AV.str [], AV.int .u64 0]⟩ := rfl
theorem tab_15 : tab 15 = some ⟨TypeDesc.pointer 85, 1, 8, AV.nilp⟩ := rfl
theorem tab_16 : tab 16 = some ⟨TypeDesc.pointer 88, 1, 8, AV.nilp⟩ := rfl
theorem tab_17 : tab 17 = some ⟨TypeDesc.pointer 97, 1, 8, AV.nilp⟩ := rfl
theorem tab_18 : tab 18 = some ⟨TypeDesc.struct #[{ name := "typ", type := 17, offset := 0, embedded := false, tag := "", pkgPath := "internal/runtime/maps", byteOffset := 0 }], 1, 8, AV.agg [AV.nilp]⟩ := rfl
theorem tab_19 : tab 19 = some ⟨TypeDesc.struct #[{ name := "typ", type := 17, offset := 0, embedded := false, tag := "", pkgPath := "internal/runtime/maps", byteOffset := 0 }], 1, 8, AV.agg [AV.nilp]⟩ := rfl
theorem tab_20 : tab 20 = some ⟨TypeDesc.interface #[], 1, 16, AV.nilI⟩ := rfl
theorem tab_21 : tab 21 = some ⟨TypeDesc.int IntKind.i32, 1, 4, AV.int .i32 0⟩ := rfl
theorem tab_22 : tab 22 = some ⟨TypeDesc.slice 27, 1, 24, AV.ds true [] 0 true⟩ := rfl
theorem tab_23 : tab 23 = some ⟨TypeDesc.pointer 68, 1, 8, AV.nilp⟩ := rfl
theorem tab_24 : tab 24 = some ⟨TypeDesc.func #[3] #[23] false, 1, 8, AV.nilF⟩ := rfl
theorem tab_25 : tab 25 = some ⟨TypeDesc.func #[3, 3] #[3] false, 1, 8, AV.nilF⟩ := rfl
theorem tab_26 : tab 26 = some ⟨TypeDesc.func #[3] #[] false, 1, 8, AV.nilF⟩ := rfl
theorem tab_27 : tab 27 = some ⟨TypeDesc.slice 5, 1, 24, AV.ds true [] 0 true⟩ := rfl
theorem tab_28 : tab 28 = some ⟨TypeDesc.int IntKind.i64, 1, 8, AV.int .i64 0⟩ := rfl
theorem tab_29 : tab 29 = some ⟨TypeDesc.func #[27] #[28] false, 1, 8, AV.nilF⟩ := rfl
theorem tab_30 : tab 30 = some ⟨TypeDesc.func #[27] #[27] false, 1, 8, AV.nilF⟩ := rfl
theorem tab_31 : tab 31 = some ⟨TypeDesc.func #[] #[4] false, 1, 8, AV.nilF⟩ := rfl
theorem tab_32 : tab 32 = some ⟨TypeDesc.func #[] #[27] false, 1, 8, AV.nilF⟩ := rfl
theorem tab_33 : tab 33 = some ⟨TypeDesc.func #[22, 3] #[4] false, 1, 8, AV.nilF⟩ := rfl
theorem tab_34 : tab 34 = some ⟨TypeDesc.slice 3, 1, 24, AV.ds true [] 0 true⟩ := rfl
theorem tab_35 : tab 35 = some ⟨TypeDesc.func #[] #[3] false, 1, 8, AV.nilF⟩ := rfl
theorem tab_36 : tab 36 = some ⟨TypeDesc.func #[3, 34] #[4] false, 1, 8, AV.nilF⟩ := rfl
theorem tab_37 : tab 37 = some ⟨TypeDesc.func #[] #[23] false, 1, 8, AV.nilF⟩ := rfl
theorem tab_38 : tab 38 = some ⟨TypeDesc.func #[3] #[28] false, 1, 8, AV.nilF⟩ := rfl
theorem tab_39 : tab 39 = some ⟨TypeDesc.func #[27, 27, 3] #[4] false, 1, 8, AV.nilF⟩ := rfl
theorem tab_40 : tab 40 = some ⟨TypeDesc.slice 44, 1, 24, AV.ds true [] 0 true⟩ := rfl
theorem tab_41 : tab 41 = some ⟨TypeDesc.pointer 70, 1, 8, AV.nilp⟩ := rfl
theorem tab_42 : tab 42 = some ⟨TypeDesc.func #[3] #[41] false, 1, 8, AV.nilF⟩ := rfl
theorem tab_43 : tab 43 = some ⟨TypeDesc.struct #[{ name := "Kind", type := 3, offset := 0, embedded := false, tag := "", pkgPath := "", byteOffset := 0 }, { name := "N", type := 3, offset := 1, embedded := false, tag := "", pkgPath := "", byteOffset := 8 }, { name := "B", type := 27, offset := 2, embedded := false, tag := "", pkgPath := "", byteOffset := 16 }], 3, 40, AV.agg [AV.int .i64 0, AV.int .i64 0, AV.ds true [] 0 true]⟩ := rfl
theorem tab_44 : tab 44 = some ⟨TypeDesc.struct #[{ name := "Kind", type := 3, offset := 0, embedded := false, tag := "", pkgPath := "", byteOffset := 0 }, { name := "N", type := 3, offset := 1, embedded := false, tag := "", pkgPath := "", byteOffset := 8 }, { name := "B", type := 27, offset := 2, embedded := false, tag := "", pkgPath := "", byteOffset := 16 }], 3, 40, AV.agg [AV.int .i64 0, AV.int .i64 0, AV.ds true [] 0 true]⟩ := rfl
theorem tab_45 : tab 45 = some ⟨TypeDesc.func #[] #[41] false, 1, 8, AV.nilF⟩ := rfl
theorem tab_46 : tab 46 = some ⟨TypeDesc.func #[23, 41] #[4] false, 1, 8, AV.nilF⟩ := rfl
theorem tab_47 : tab 47 = some ⟨TypeDesc.func #[3, 40] #[4] false, 1, 8, AV.nilF⟩ := rfl
theorem tab_48 : tab 48 = some ⟨TypeDesc.slice 58, 1, 24, AV.ds true [] 0 true⟩ := rfl
theorem tab_49 : tab 49 = some ⟨TypeDesc.slice 55, 1, 24, AV.ds true [] 0 true⟩ := rfl
theorem tab_51 : tab 51 = some ⟨TypeDesc.func #[48, 49] #[34, 28] false, 1, 8, AV.nilF⟩ := rfl
theorem tab_52 : tab 52 = some ⟨TypeDesc.func #[48] #[48] false, 1, 8, AV.nilF⟩ := rfl
theorem tab_53 : tab 53 = some ⟨TypeDesc.func #[49] #[49] false, 1, 8, AV.nilF⟩ := rfl
theorem tab_54 : tab 54 = some ⟨TypeDesc.struct #[{ name := "From", type := 3, offset := 0, embedded := false, tag := "", pkgPath := "", byteOffset := 0 }, { name := "To", type := 3, offset := 1, embedded := false, tag := "", pkgPath := "", byteOffset := 8 }], 2, 16, AV.agg [AV.int .i64 0, AV.int .i64 0]⟩ := rfl
theorem tab_55 : tab 55 = some ⟨TypeDesc.struct #[{ name := "From", type := 3, offset := 0, embedded := false, tag := "", pkgPath := "", byteOffset := 0 }, { name := "To", type := 3, offset := 1, embedded := false, tag := "", pkgPath := "", byteOffset := 8 }], 2, 16, AV.agg [AV.int .i64 0, AV.int .i64 0]⟩ := rfl
theorem tab_56 : tab 56 = some ⟨TypeDesc.func #[58, 58] #[4] false, 1, 8, AV.nilF⟩ := rfl
theorem tab_57 : tab 57 = some ⟨TypeDesc.struct #[{ name := "Version", type := 3, offset := 0, embedded := false, tag := "", pkgPath := "", byteOffset := 0 }, { name := "Target", type := 3, offset := 1, embedded := false, tag := "", pkgPath := "", byteOffset := 8 }, { name := "Back", type := 3, offset := 2, embedded := false, tag := "", pkgPath := "", byteOffset := 16 }], 3, 24, AV.agg [AV.int .i64 0, AV.int .i64 0, AV.int .i64 0]⟩ := rfl
theorem tab_58 : tab 58 = some ⟨TypeDesc.struct #[{ name := "Version", type := 3, offset := 0, embedded := false, tag := "", pkgPath := "", byteOffset := 0 }, { name := "Target", type := 3, offset := 1, embedded := false, tag := "", pkgPath := "", byteOffset := 8 }, { name := "Back", type := 3, offset := 2, embedded := false, tag := "", pkgPath := "", byteOffset := 16 }], 3, 24, AV.agg [AV.int .i64 0, AV.int .i64 0, AV.int .i64 0]⟩ := rfl
theorem tab_59 : tab 59 = some ⟨TypeDesc.func #[48, 49] #[4] false, 1, 8, AV.nilF⟩ := rfl
theorem tab_60 : tab 60 = some ⟨TypeDesc.func #[48, 49, 34] #[4] false, 1, 8, AV.nilF⟩ := rfl
theorem tab_61 : tab 61 = some ⟨TypeDesc.func #[34, 34] #[4] false, 1, 8, AV.nilF⟩ := rfl
theorem tab_62 : tab 62 = some ⟨TypeDesc.func #[34, 34, 49] #[4] false, 1, 8, AV.nilF⟩ := rfl
theorem tab_63 : tab 63 = some ⟨TypeDesc.func #[3, 3, 3, 3] #[4] false, 1, 8, AV.nilF⟩ := rfl
theorem tab_65 : tab 65 = some ⟨TypeDesc.func #[48, 3] #[48, 4] false, 1, 8, AV.nilF⟩ := rfl
theorem tab_66 : tab 66 = some ⟨TypeDesc.func #[48, 49, 3] #[4] false, 1, 8, AV.nilF⟩ := rfl
theorem tab_67 : tab 67 = some ⟨TypeDesc.struct #[{ name := "b", type := 27, offset := 0, embedded := false, tag := "", pkgPath := "concordat/disk", byteOffset := 0 }, { name := "room", type := 3, offset := 1, embedded := false, tag := "", pkgPath := "concordat/disk", byteOffset := 24 }, { name := "left", type := 3, offset := 2, embedded := false, tag := "", pkgPath := "concordat/disk", byteOffset := 32 }, { name := "dead", type := 4, offset := 3, embedded := false, tag := "", pkgPath := "concordat/disk", byteOffset := 40 }], 4, 48, AV.agg [AV.ds true [] 0 true, AV.int .i64 0, AV.int .i64 0, AV.bool false]⟩ := rfl
theorem tab_68 : tab 68 = some ⟨TypeDesc.struct #[{ name := "b", type := 27, offset := 0, embedded := false, tag := "", pkgPath := "concordat/disk", byteOffset := 0 }, { name := "room", type := 3, offset := 1, embedded := false, tag := "", pkgPath := "concordat/disk", byteOffset := 24 }, { name := "left", type := 3, offset := 2, embedded := false, tag := "", pkgPath := "concordat/disk", byteOffset := 32 }, { name := "dead", type := 4, offset := 3, embedded := false, tag := "", pkgPath := "concordat/disk", byteOffset := 40 }], 4, 48, AV.agg [AV.ds true [] 0 true, AV.int .i64 0, AV.int .i64 0, AV.bool false]⟩ := rfl
theorem tab_69 : tab 69 = some ⟨TypeDesc.struct #[{ name := "B", type := 9, offset := 0, embedded := false, tag := "", pkgPath := "", byteOffset := 0 }, { name := "Room", type := 3, offset := 1, embedded := false, tag := "", pkgPath := "", byteOffset := 16 }, { name := "Left", type := 3, offset := 2, embedded := false, tag := "", pkgPath := "", byteOffset := 24 }, { name := "IsDead", type := 4, offset := 3, embedded := false, tag := "", pkgPath := "", byteOffset := 32 }], 4, 40, AV.agg [AV.str [], AV.int .i64 0, AV.int .i64 0, AV.bool false]⟩ := rfl
theorem tab_70 : tab 70 = some ⟨TypeDesc.struct #[{ name := "B", type := 9, offset := 0, embedded := false, tag := "", pkgPath := "", byteOffset := 0 }, { name := "Room", type := 3, offset := 1, embedded := false, tag := "", pkgPath := "", byteOffset := 16 }, { name := "Left", type := 3, offset := 2, embedded := false, tag := "", pkgPath := "", byteOffset := 24 }, { name := "IsDead", type := 4, offset := 3, embedded := false, tag := "", pkgPath := "", byteOffset := 32 }], 4, 40, AV.agg [AV.str [], AV.int .i64 0, AV.int .i64 0, AV.bool false]⟩ := rfl
theorem tab_71 : tab 71 = some ⟨TypeDesc.func #[48, 49] #[28] false, 1, 8, AV.nilF⟩ := rfl
theorem tab_72 : tab 72 = some ⟨TypeDesc.pointer 75, 1, 8, AV.nilp⟩ := rfl
theorem tab_73 : tab 73 = some ⟨TypeDesc.map 81 4, 1, 8, AV.nilm⟩ := rfl
theorem tab_74 : tab 74 = some ⟨TypeDesc.struct #[{ name := "edges", type := 49, offset := 0, embedded := false, tag := "", pkgPath := "concordat/plan", byteOffset := 0 }, { name := "dead", type := 73, offset := 1, embedded := false, tag := "", pkgPath := "concordat/plan", byteOffset := 24 }, { name := "steps", type := 34, offset := 2, embedded := false, tag := "", pkgPath := "concordat/plan", byteOffset := 32 }], 3, 56, AV.agg [AV.ds true [] 0 true, AV.nilm, AV.ds true [] 0 true]⟩ := rfl
theorem tab_75 : tab 75 = some ⟨TypeDesc.struct #[{ name := "edges", type := 49, offset := 0, embedded := false, tag := "", pkgPath := "concordat/plan", byteOffset := 0 }, { name := "dead", type := 73, offset := 1, embedded := false, tag := "", pkgPath := "concordat/plan", byteOffset := 24 }, { name := "steps", type := 34, offset := 2, embedded := false, tag := "", pkgPath := "concordat/plan", byteOffset := 32 }], 3, 56, AV.agg [AV.ds true [] 0 true, AV.nilm, AV.ds true [] 0 true]⟩ := rfl
theorem tab_76 : tab 76 = some ⟨TypeDesc.func #[48] #[4] false, 1, 8, AV.nilF⟩ := rfl
theorem tab_77 : tab 77 = some ⟨TypeDesc.func #[3, 3, 3] #[4] false, 1, 8, AV.nilF⟩ := rfl
theorem tab_79 : tab 79 = some ⟨TypeDesc.func #[58] #[3, 4] false, 1, 8, AV.nilF⟩ := rfl
theorem tab_80 : tab 80 = some ⟨TypeDesc.array 6 3, 6, 48, AV.agg [AV.int .i64 0, AV.int .i64 0, AV.int .i64 0, AV.int .i64 0, AV.int .i64 0, AV.int .i64 0]⟩ := rfl
theorem tab_81 : tab 81 = some ⟨TypeDesc.array 6 3, 6, 48, AV.agg [AV.int .i64 0, AV.int .i64 0, AV.int .i64 0, AV.int .i64 0, AV.int .i64 0, AV.int .i64 0]⟩ := rfl
theorem tab_82 : tab 82 = some ⟨TypeDesc.func #[48] #[81] false, 1, 8, AV.nilF⟩ := rfl
theorem tab_83 : tab 83 = some ⟨TypeDesc.func #[] #[9] false, 1, 8, AV.nilF⟩ := rfl
theorem tab_84 : tab 84 = some ⟨TypeDesc.struct #[{ name := "_interface", type := 17, offset := 0, embedded := false, tag := "", pkgPath := "runtime", byteOffset := 0 }, { name := "concrete", type := 17, offset := 1, embedded := false, tag := "", pkgPath := "runtime", byteOffset := 8 }, { name := "asserted", type := 17, offset := 2, embedded := false, tag := "", pkgPath := "runtime", byteOffset := 16 }, { name := "missingMethod", type := 9, offset := 3, embedded := false, tag := "", pkgPath := "runtime", byteOffset := 24 }], 4, 40, AV.agg [AV.nilp, AV.nilp, AV.nilp, AV.str []]⟩ := rfl
theorem tab_85 : tab 85 = some ⟨TypeDesc.struct #[{ name := "_interface", type := 17, offset := 0, embedded := false, tag := "", pkgPath := "runtime", byteOffset := 0 }, { name := "concrete", type := 17, offset := 1, embedded := false, tag := "", pkgPath := "runtime", byteOffset := 8 }, { name := "asserted", type := 17, offset := 2, embedded := false, tag := "", pkgPath := "runtime", byteOffset := 16 }, { name := "missingMethod", type := 9, offset := 3, embedded := false, tag := "", pkgPath := "runtime", byteOffset := 24 }], 4, 40, AV.agg [AV.nilp, AV.nilp, AV.nilp, AV.str []]⟩ := rfl
theorem tab_86 : tab 86 = some ⟨TypeDesc.array 0 16, 0, 0, AV.agg []⟩ := rfl
theorem tab_87 : tab 87 = some ⟨TypeDesc.struct #[{ name := "_", type := 86, offset := 0, embedded := false, tag := "", pkgPath := "runtime", byteOffset := 0 }], 0, 0, AV.agg []⟩ := rfl
theorem tab_88 : tab 88 = some ⟨TypeDesc.struct #[{ name := "_", type := 86, offset := 0, embedded := false, tag := "", pkgPath := "runtime", byteOffset := 0 }], 0, 0, AV.agg []⟩ := rfl
theorem tab_89 : tab 89 = some ⟨TypeDesc.int IntKind.u32, 1, 4, AV.int .u32 0⟩ := rfl
theorem tab_90 : tab 90 = some ⟨TypeDesc.int IntKind.u8, 1, 1, AV.int .u8 0⟩ := rfl
theorem tab_91 : tab 91 = some ⟨TypeDesc.int IntKind.u8, 1, 1, AV.int .u8 0⟩ := rfl
theorem tab_92 : tab 92 = some ⟨TypeDesc.func #[98, 98] #[4] false, 1, 8, AV.nilF⟩ := rfl
theorem tab_93 : tab 93 = some ⟨TypeDesc.pointer 5, 1, 8, AV.nilp⟩ := rfl
theorem tab_94 : tab 94 = some ⟨TypeDesc.int IntKind.i32, 1, 4, AV.int .i32 0⟩ := rfl
theorem tab_95 : tab 95 = some ⟨TypeDesc.int IntKind.i32, 1, 4, AV.int .i32 0⟩ := rfl
theorem tab_96 : tab 96 = some ⟨TypeDesc.struct #[{ name := "Size_", type := 12, offset := 0, embedded := false, tag := "", pkgPath := "", byteOffset := 0 }, { name := "PtrBytes", type := 12, offset := 1, embedded := false, tag := "", pkgPath := "", byteOffset := 8 }, { name := "Hash", type := 89, offset := 2, embedded := false, tag := "", pkgPath := "", byteOffset := 16 }, { name := "TFlag", type := 90, offset := 3, embedded := false, tag := "", pkgPath := "", byteOffset := 20 }, { name := "Align_", type := 5, offset := 4, embedded := false, tag := "", pkgPath := "", byteOffset := 21 }, { name := "FieldAlign_", type := 5, offset := 5, embedded := false, tag := "", pkgPath := "", byteOffset := 22 }, { name := "Kind_", type := 91, offset := 6, embedded := false, tag := "", pkgPath := "", byteOffset := 23 }, { name := "Equal", type := 92, offset := 7, embedded := false, tag := "", pkgPath := "", byteOffset := 24 }, { name := "GCData", type := 93, offset := 8, embedded := false, tag := "", pkgPath := "", byteOffset := 32 }, { name := "Str", type := 94, offset := 9, embedded := false, tag := "", pkgPath := "", byteOffset := 40 }, { name := "PtrToThis", type := 95, offset := 10, embedded := false, tag := "", pkgPath := "", byteOffset := 44 }], 11, 48, AV.agg [AV.int .u64 0, AV.int .u64 0, AV.int .u32 0, AV.int .u8 0, AV.int .u8 0, AV.int .u8 0, AV.int .u8 0, AV.nilF, AV.nilp, AV.int .i32 0, AV.int .i32 0]⟩ := rfl
theorem tab_97 : tab 97 = some ⟨TypeDesc.struct #[{ name := "Size_", type := 12, offset := 0, embedded := false, tag := "", pkgPath := "", byteOffset := 0 }, { name := "PtrBytes", type := 12, offset := 1, embedded := false, tag := "", pkgPath := "", byteOffset := 8 }, { name := "Hash", type := 89, offset := 2, embedded := false, tag := "", pkgPath := "", byteOffset := 16 }, { name := "TFlag", type := 90, offset := 3, embedded := false, tag := "", pkgPath := "", byteOffset := 20 }, { name := "Align_", type := 5, offset := 4, embedded := false, tag := "", pkgPath := "", byteOffset := 21 }, { name := "FieldAlign_", type := 5, offset := 5, embedded := false, tag := "", pkgPath := "", byteOffset := 22 }, { name := "Kind_", type := 91, offset := 6, embedded := false, tag := "", pkgPath := "", byteOffset := 23 }, { name := "Equal", type := 92, offset := 7, embedded := false, tag := "", pkgPath := "", byteOffset := 24 }, { name := "GCData", type := 93, offset := 8, embedded := false, tag := "", pkgPath := "", byteOffset := 32 }, { name := "Str", type := 94, offset := 9, embedded := false, tag := "", pkgPath := "", byteOffset := 40 }, { name := "PtrToThis", type := 95, offset := 10, embedded := false, tag := "", pkgPath := "", byteOffset := 44 }], 11, 48, AV.agg [AV.int .u64 0, AV.int .u64 0, AV.int .u32 0, AV.int .u8 0, AV.int .u8 0, AV.int .u8 0, AV.int .u8 0, AV.nilF, AV.nilp, AV.int .i32 0, AV.int .i32 0]⟩ := rfl
theorem ok_1 : TI.OK Try.prog 1 ti1 := ⟨Try.underlying1, Try.t1, Try.type1, rfl, rfl, (Value.nilFunc), rfl, rfl, fun E => VR.constAV E (Value.nilFunc)⟩
theorem ok_2 : TI.OK Try.prog 2 ti2 := ⟨Try.underlying2, Try.t2, Try.type2, rfl, rfl, (Value.int IntKind.i64 0), rfl, rfl, fun E => VR.constAV E (Value.int IntKind.i64 0)⟩
theorem ok_3 : TI.OK Try.prog 3 ti3 := ⟨Try.underlying3, Try.t3, Try.type3, rfl, rfl, (Value.int IntKind.i64 0), rfl, rfl, fun E => VR.constAV E (Value.int IntKind.i64 0)⟩
theorem ok_4 : TI.OK Try.prog 4 ti4 := ⟨Try.underlying4, Try.t4, Try.type4, rfl, rfl, (Value.bool false), rfl, rfl, fun E => VR.constAV E (Value.bool false)⟩
theorem ok_5 : TI.OK Try.prog 5 ti5 := ⟨Try.underlying5, Try.t5, Try.type5, rfl, rfl, (Value.int IntKind.u8 0), rfl, rfl, fun E => VR.constAV E (Value.int IntKind.u8 0)⟩
theorem ok_6 : TI.OK Try.prog 6 ti6 := ⟨Try.underlying6, Try.t6, Try.type6, rfl, rfl, (Value.int IntKind.u8 0), rfl, rfl, fun E => VR.constAV E (Value.int IntKind.u8 0)⟩
theorem ok_7 : TI.OK Try.prog 7 ti7 := ⟨Try.underlying7, Try.t7, Try.type7, rfl, rfl, (Value.agg #[Value.int IntKind.i64 0, Value.int IntKind.i64 0, Value.bool false, Value.int IntKind.u8 0]), rfl, rfl, fun E => VR.constAV E (Value.agg #[Value.int IntKind.i64 0, Value.int IntKind.i64 0, Value.bool false, Value.int IntKind.u8 0])⟩
theorem ok_8 : TI.OK Try.prog 8 ti8 := ⟨Try.underlying8, Try.t8, Try.type8, rfl, rfl, (Value.agg #[Value.int IntKind.i64 0, Value.int IntKind.i64 0, Value.bool false, Value.int IntKind.u8 0]), rfl, rfl, fun E => VR.constAV E (Value.agg #[Value.int IntKind.i64 0, Value.int IntKind.i64 0, Value.bool false, Value.int IntKind.u8 0])⟩
theorem ok_9 : TI.OK Try.prog 9 ti9 := ⟨Try.underlying9, Try.t9, Try.type9, rfl, rfl, (Value.string { data := #[] }), rfl, rfl, fun E => VR.constAV E (Value.string { data := #[] })⟩
theorem ok_10 : TI.OK Try.prog 10 ti10 := ⟨Try.underlying10, Try.t10, Try.type10, rfl, rfl, (Value.string { data := #[] }), rfl, rfl, fun E => VR.constAV E (Value.string { data := #[] })⟩
theorem ok_11 : TI.OK Try.prog 11 ti11 := ⟨Try.underlying11, Try.t11, Try.type11, rfl, rfl, (Value.string { data := #[] }), rfl, rfl, fun E => VR.constAV E (Value.string { data := #[] })⟩
theorem ok_12 : TI.OK Try.prog 12 ti12 := ⟨Try.underlying12, Try.t12, Try.type12, rfl, rfl, (Value.int IntKind.u64 0), rfl, rfl, fun E => VR.constAV E (Value.int IntKind.u64 0)⟩
theorem ok_13 : TI.OK Try.prog 13 ti13 := ⟨Try.underlying13, Try.t13, Try.type13, rfl, rfl, (Value.agg #[Value.string { data := #[] }, Value.int IntKind.u64 0]), rfl, rfl, fun E => VR.constAV E (Value.agg #[Value.string { data := #[] }, Value.int IntKind.u64 0])⟩
theorem ok_14 : TI.OK Try.prog 14 ti14 := ⟨Try.underlying14, Try.t14, Try.type14, rfl, rfl, (Value.agg #[Value.string { data := #[] }, Value.int IntKind.u64 0]), rfl, rfl, fun E => VR.constAV E (Value.agg #[Value.string { data := #[] }, Value.int IntKind.u64 0])⟩
theorem ok_15 : TI.OK Try.prog 15 ti15 := ⟨Try.underlying15, Try.t15, Try.type15, rfl, rfl, (Value.pointer none), rfl, rfl, fun E => VR.constAV E (Value.pointer none)⟩
theorem ok_16 : TI.OK Try.prog 16 ti16 := ⟨Try.underlying16, Try.t16, Try.type16, rfl, rfl, (Value.pointer none), rfl, rfl, fun E => VR.constAV E (Value.pointer none)⟩
theorem ok_17 : TI.OK Try.prog 17 ti17 := ⟨Try.underlying17, Try.t17, Try.type17, rfl, rfl, (Value.pointer none), rfl, rfl, fun E => VR.constAV E (Value.pointer none)⟩
theorem ok_18 : TI.OK Try.prog 18 ti18 := ⟨Try.underlying18, Try.t18, Try.type18, rfl, rfl, (Value.agg #[Value.pointer none]), rfl, rfl, fun E => VR.constAV E (Value.agg #[Value.pointer none])⟩
theorem ok_19 : TI.OK Try.prog 19 ti19 := ⟨Try.underlying19, Try.t19, Try.type19, rfl, rfl, (Value.agg #[Value.pointer none]), rfl, rfl, fun E => VR.constAV E (Value.agg #[Value.pointer none])⟩
theorem ok_20 : TI.OK Try.prog 20 ti20 := ⟨Try.underlying20, Try.t20, Try.type20, rfl, rfl, (Value.nilIface), rfl, rfl, fun E => VR.constAV E (Value.nilIface)⟩
theorem ok_21 : TI.OK Try.prog 21 ti21 := ⟨Try.underlying21, Try.t21, Try.type21, rfl, rfl, (Value.int IntKind.i32 0), rfl, rfl, fun E => VR.constAV E (Value.int IntKind.i32 0)⟩
theorem ok_22 : TI.OK Try.prog 22 ti22 := ⟨Try.underlying22, Try.t22, Try.type22, rfl, rfl, (Value.slice none 0 0), rfl, rfl, fun E => VR.constAV E (Value.slice none 0 0)⟩
theorem ok_23 : TI.OK Try.prog 23 ti23 := ⟨Try.underlying23, Try.t23, Try.type23, rfl, rfl, (Value.pointer none), rfl, rfl, fun E => VR.constAV E (Value.pointer none)⟩
theorem ok_24 : TI.OK Try.prog 24 ti24 := ⟨Try.underlying24, Try.t24, Try.type24, rfl, rfl, (Value.nilFunc), rfl, rfl, fun E => VR.constAV E (Value.nilFunc)⟩
theorem ok_25 : TI.OK Try.prog 25 ti25 := ⟨Try.underlying25, Try.t25, Try.type25, rfl, rfl, (Value.nilFunc), rfl, rfl, fun E => VR.constAV E (Value.nilFunc)⟩
theorem ok_26 : TI.OK Try.prog 26 ti26 := ⟨Try.underlying26, Try.t26, Try.type26, rfl, rfl, (Value.nilFunc), rfl, rfl, fun E => VR.constAV E (Value.nilFunc)⟩
theorem ok_27 : TI.OK Try.prog 27 ti27 := ⟨Try.underlying27, Try.t27, Try.type27, rfl, rfl, (Value.slice none 0 0), rfl, rfl, fun E => VR.constAV E (Value.slice none 0 0)⟩
theorem ok_28 : TI.OK Try.prog 28 ti28 := ⟨Try.underlying28, Try.t28, Try.type28, rfl, rfl, (Value.int IntKind.i64 0), rfl, rfl, fun E => VR.constAV E (Value.int IntKind.i64 0)⟩
theorem ok_29 : TI.OK Try.prog 29 ti29 := ⟨Try.underlying29, Try.t29, Try.type29, rfl, rfl, (Value.nilFunc), rfl, rfl, fun E => VR.constAV E (Value.nilFunc)⟩
theorem ok_30 : TI.OK Try.prog 30 ti30 := ⟨Try.underlying30, Try.t30, Try.type30, rfl, rfl, (Value.nilFunc), rfl, rfl, fun E => VR.constAV E (Value.nilFunc)⟩
theorem ok_31 : TI.OK Try.prog 31 ti31 := ⟨Try.underlying31, Try.t31, Try.type31, rfl, rfl, (Value.nilFunc), rfl, rfl, fun E => VR.constAV E (Value.nilFunc)⟩
theorem ok_32 : TI.OK Try.prog 32 ti32 := ⟨Try.underlying32, Try.t32, Try.type32, rfl, rfl, (Value.nilFunc), rfl, rfl, fun E => VR.constAV E (Value.nilFunc)⟩
theorem ok_33 : TI.OK Try.prog 33 ti33 := ⟨Try.underlying33, Try.t33, Try.type33, rfl, rfl, (Value.nilFunc), rfl, rfl, fun E => VR.constAV E (Value.nilFunc)⟩
theorem ok_34 : TI.OK Try.prog 34 ti34 := ⟨Try.underlying34, Try.t34, Try.type34, rfl, rfl, (Value.slice none 0 0), rfl, rfl, fun E => VR.constAV E (Value.slice none 0 0)⟩
theorem ok_35 : TI.OK Try.prog 35 ti35 := ⟨Try.underlying35, Try.t35, Try.type35, rfl, rfl, (Value.nilFunc), rfl, rfl, fun E => VR.constAV E (Value.nilFunc)⟩
theorem ok_36 : TI.OK Try.prog 36 ti36 := ⟨Try.underlying36, Try.t36, Try.type36, rfl, rfl, (Value.nilFunc), rfl, rfl, fun E => VR.constAV E (Value.nilFunc)⟩
theorem ok_37 : TI.OK Try.prog 37 ti37 := ⟨Try.underlying37, Try.t37, Try.type37, rfl, rfl, (Value.nilFunc), rfl, rfl, fun E => VR.constAV E (Value.nilFunc)⟩
theorem ok_38 : TI.OK Try.prog 38 ti38 := ⟨Try.underlying38, Try.t38, Try.type38, rfl, rfl, (Value.nilFunc), rfl, rfl, fun E => VR.constAV E (Value.nilFunc)⟩
theorem ok_39 : TI.OK Try.prog 39 ti39 := ⟨Try.underlying39, Try.t39, Try.type39, rfl, rfl, (Value.nilFunc), rfl, rfl, fun E => VR.constAV E (Value.nilFunc)⟩
theorem ok_40 : TI.OK Try.prog 40 ti40 := ⟨Try.underlying40, Try.t40, Try.type40, rfl, rfl, (Value.slice none 0 0), rfl, rfl, fun E => VR.constAV E (Value.slice none 0 0)⟩
theorem ok_41 : TI.OK Try.prog 41 ti41 := ⟨Try.underlying41, Try.t41, Try.type41, rfl, rfl, (Value.pointer none), rfl, rfl, fun E => VR.constAV E (Value.pointer none)⟩
theorem ok_42 : TI.OK Try.prog 42 ti42 := ⟨Try.underlying42, Try.t42, Try.type42, rfl, rfl, (Value.nilFunc), rfl, rfl, fun E => VR.constAV E (Value.nilFunc)⟩
theorem ok_43 : TI.OK Try.prog 43 ti43 := ⟨Try.underlying43, Try.t43, Try.type43, rfl, rfl, (Value.agg #[Value.int IntKind.i64 0, Value.int IntKind.i64 0, Value.slice none 0 0]), rfl, rfl, fun E => VR.constAV E (Value.agg #[Value.int IntKind.i64 0, Value.int IntKind.i64 0, Value.slice none 0 0])⟩
theorem ok_44 : TI.OK Try.prog 44 ti44 := ⟨Try.underlying44, Try.t44, Try.type44, rfl, rfl, (Value.agg #[Value.int IntKind.i64 0, Value.int IntKind.i64 0, Value.slice none 0 0]), rfl, rfl, fun E => VR.constAV E (Value.agg #[Value.int IntKind.i64 0, Value.int IntKind.i64 0, Value.slice none 0 0])⟩
theorem ok_45 : TI.OK Try.prog 45 ti45 := ⟨Try.underlying45, Try.t45, Try.type45, rfl, rfl, (Value.nilFunc), rfl, rfl, fun E => VR.constAV E (Value.nilFunc)⟩
theorem ok_46 : TI.OK Try.prog 46 ti46 := ⟨Try.underlying46, Try.t46, Try.type46, rfl, rfl, (Value.nilFunc), rfl, rfl, fun E => VR.constAV E (Value.nilFunc)⟩
theorem ok_47 : TI.OK Try.prog 47 ti47 := ⟨Try.underlying47, Try.t47, Try.type47, rfl, rfl, (Value.nilFunc), rfl, rfl, fun E => VR.constAV E (Value.nilFunc)⟩
theorem ok_48 : TI.OK Try.prog 48 ti48 := ⟨Try.underlying48, Try.t48, Try.type48, rfl, rfl, (Value.slice none 0 0), rfl, rfl, fun E => VR.constAV E (Value.slice none 0 0)⟩
theorem ok_49 : TI.OK Try.prog 49 ti49 := ⟨Try.underlying49, Try.t49, Try.type49, rfl, rfl, (Value.slice none 0 0), rfl, rfl, fun E => VR.constAV E (Value.slice none 0 0)⟩
theorem ok_51 : TI.OK Try.prog 51 ti51 := ⟨Try.underlying51, Try.t51, Try.type51, rfl, rfl, (Value.nilFunc), rfl, rfl, fun E => VR.constAV E (Value.nilFunc)⟩
theorem ok_52 : TI.OK Try.prog 52 ti52 := ⟨Try.underlying52, Try.t52, Try.type52, rfl, rfl, (Value.nilFunc), rfl, rfl, fun E => VR.constAV E (Value.nilFunc)⟩
theorem ok_53 : TI.OK Try.prog 53 ti53 := ⟨Try.underlying53, Try.t53, Try.type53, rfl, rfl, (Value.nilFunc), rfl, rfl, fun E => VR.constAV E (Value.nilFunc)⟩
theorem ok_54 : TI.OK Try.prog 54 ti54 := ⟨Try.underlying54, Try.t54, Try.type54, rfl, rfl, (Value.agg #[Value.int IntKind.i64 0, Value.int IntKind.i64 0]), rfl, rfl, fun E => VR.constAV E (Value.agg #[Value.int IntKind.i64 0, Value.int IntKind.i64 0])⟩
theorem ok_55 : TI.OK Try.prog 55 ti55 := ⟨Try.underlying55, Try.t55, Try.type55, rfl, rfl, (Value.agg #[Value.int IntKind.i64 0, Value.int IntKind.i64 0]), rfl, rfl, fun E => VR.constAV E (Value.agg #[Value.int IntKind.i64 0, Value.int IntKind.i64 0])⟩
theorem ok_56 : TI.OK Try.prog 56 ti56 := ⟨Try.underlying56, Try.t56, Try.type56, rfl, rfl, (Value.nilFunc), rfl, rfl, fun E => VR.constAV E (Value.nilFunc)⟩
theorem ok_57 : TI.OK Try.prog 57 ti57 := ⟨Try.underlying57, Try.t57, Try.type57, rfl, rfl, (Value.agg #[Value.int IntKind.i64 0, Value.int IntKind.i64 0, Value.int IntKind.i64 0]), rfl, rfl, fun E => VR.constAV E (Value.agg #[Value.int IntKind.i64 0, Value.int IntKind.i64 0, Value.int IntKind.i64 0])⟩
theorem ok_58 : TI.OK Try.prog 58 ti58 := ⟨Try.underlying58, Try.t58, Try.type58, rfl, rfl, (Value.agg #[Value.int IntKind.i64 0, Value.int IntKind.i64 0, Value.int IntKind.i64 0]), rfl, rfl, fun E => VR.constAV E (Value.agg #[Value.int IntKind.i64 0, Value.int IntKind.i64 0, Value.int IntKind.i64 0])⟩
theorem ok_59 : TI.OK Try.prog 59 ti59 := ⟨Try.underlying59, Try.t59, Try.type59, rfl, rfl, (Value.nilFunc), rfl, rfl, fun E => VR.constAV E (Value.nilFunc)⟩
theorem ok_60 : TI.OK Try.prog 60 ti60 := ⟨Try.underlying60, Try.t60, Try.type60, rfl, rfl, (Value.nilFunc), rfl, rfl, fun E => VR.constAV E (Value.nilFunc)⟩
theorem ok_61 : TI.OK Try.prog 61 ti61 := ⟨Try.underlying61, Try.t61, Try.type61, rfl, rfl, (Value.nilFunc), rfl, rfl, fun E => VR.constAV E (Value.nilFunc)⟩
theorem ok_62 : TI.OK Try.prog 62 ti62 := ⟨Try.underlying62, Try.t62, Try.type62, rfl, rfl, (Value.nilFunc), rfl, rfl, fun E => VR.constAV E (Value.nilFunc)⟩
theorem ok_63 : TI.OK Try.prog 63 ti63 := ⟨Try.underlying63, Try.t63, Try.type63, rfl, rfl, (Value.nilFunc), rfl, rfl, fun E => VR.constAV E (Value.nilFunc)⟩
theorem ok_65 : TI.OK Try.prog 65 ti65 := ⟨Try.underlying65, Try.t65, Try.type65, rfl, rfl, (Value.nilFunc), rfl, rfl, fun E => VR.constAV E (Value.nilFunc)⟩
theorem ok_66 : TI.OK Try.prog 66 ti66 := ⟨Try.underlying66, Try.t66, Try.type66, rfl, rfl, (Value.nilFunc), rfl, rfl, fun E => VR.constAV E (Value.nilFunc)⟩
theorem ok_67 : TI.OK Try.prog 67 ti67 := ⟨Try.underlying67, Try.t67, Try.type67, rfl, rfl, (Value.agg #[Value.slice none 0 0, Value.int IntKind.i64 0, Value.int IntKind.i64 0, Value.bool false]), rfl, rfl, fun E => VR.constAV E (Value.agg #[Value.slice none 0 0, Value.int IntKind.i64 0, Value.int IntKind.i64 0, Value.bool false])⟩
theorem ok_68 : TI.OK Try.prog 68 ti68 := ⟨Try.underlying68, Try.t68, Try.type68, rfl, rfl, (Value.agg #[Value.slice none 0 0, Value.int IntKind.i64 0, Value.int IntKind.i64 0, Value.bool false]), rfl, rfl, fun E => VR.constAV E (Value.agg #[Value.slice none 0 0, Value.int IntKind.i64 0, Value.int IntKind.i64 0, Value.bool false])⟩
theorem ok_69 : TI.OK Try.prog 69 ti69 := ⟨Try.underlying69, Try.t69, Try.type69, rfl, rfl, (Value.agg #[Value.string { data := #[] }, Value.int IntKind.i64 0, Value.int IntKind.i64 0, Value.bool false]), rfl, rfl, fun E => VR.constAV E (Value.agg #[Value.string { data := #[] }, Value.int IntKind.i64 0, Value.int IntKind.i64 0, Value.bool false])⟩
theorem ok_70 : TI.OK Try.prog 70 ti70 := ⟨Try.underlying70, Try.t70, Try.type70, rfl, rfl, (Value.agg #[Value.string { data := #[] }, Value.int IntKind.i64 0, Value.int IntKind.i64 0, Value.bool false]), rfl, rfl, fun E => VR.constAV E (Value.agg #[Value.string { data := #[] }, Value.int IntKind.i64 0, Value.int IntKind.i64 0, Value.bool false])⟩
theorem ok_71 : TI.OK Try.prog 71 ti71 := ⟨Try.underlying71, Try.t71, Try.type71, rfl, rfl, (Value.nilFunc), rfl, rfl, fun E => VR.constAV E (Value.nilFunc)⟩
theorem ok_72 : TI.OK Try.prog 72 ti72 := ⟨Try.underlying72, Try.t72, Try.type72, rfl, rfl, (Value.pointer none), rfl, rfl, fun E => VR.constAV E (Value.pointer none)⟩
theorem ok_73 : TI.OK Try.prog 73 ti73 := ⟨Try.underlying73, Try.t73, Try.type73, rfl, rfl, (Value.map none), rfl, rfl, fun E => VR.constAV E (Value.map none)⟩
theorem ok_74 : TI.OK Try.prog 74 ti74 := ⟨Try.underlying74, Try.t74, Try.type74, rfl, rfl, (Value.agg #[Value.slice none 0 0, Value.map none, Value.slice none 0 0]), rfl, rfl, fun E => VR.constAV E (Value.agg #[Value.slice none 0 0, Value.map none, Value.slice none 0 0])⟩
theorem ok_75 : TI.OK Try.prog 75 ti75 := ⟨Try.underlying75, Try.t75, Try.type75, rfl, rfl, (Value.agg #[Value.slice none 0 0, Value.map none, Value.slice none 0 0]), rfl, rfl, fun E => VR.constAV E (Value.agg #[Value.slice none 0 0, Value.map none, Value.slice none 0 0])⟩
theorem ok_76 : TI.OK Try.prog 76 ti76 := ⟨Try.underlying76, Try.t76, Try.type76, rfl, rfl, (Value.nilFunc), rfl, rfl, fun E => VR.constAV E (Value.nilFunc)⟩
theorem ok_77 : TI.OK Try.prog 77 ti77 := ⟨Try.underlying77, Try.t77, Try.type77, rfl, rfl, (Value.nilFunc), rfl, rfl, fun E => VR.constAV E (Value.nilFunc)⟩
theorem ok_79 : TI.OK Try.prog 79 ti79 := ⟨Try.underlying79, Try.t79, Try.type79, rfl, rfl, (Value.nilFunc), rfl, rfl, fun E => VR.constAV E (Value.nilFunc)⟩
theorem ok_80 : TI.OK Try.prog 80 ti80 := ⟨Try.underlying80, Try.t80, Try.type80, rfl, rfl, (Value.agg #[Value.int IntKind.i64 0, Value.int IntKind.i64 0, Value.int IntKind.i64 0, Value.int IntKind.i64 0, Value.int IntKind.i64 0, Value.int IntKind.i64 0]), rfl, rfl, fun E => VR.constAV E (Value.agg #[Value.int IntKind.i64 0, Value.int IntKind.i64 0, Value.int IntKind.i64 0, Value.int IntKind.i64 0, Value.int IntKind.i64 0, Value.int IntKind.i64 0])⟩
theorem ok_81 : TI.OK Try.prog 81 ti81 := ⟨Try.underlying81, Try.t81, Try.type81, rfl, rfl, (Value.agg #[Value.int IntKind.i64 0, Value.int IntKind.i64 0, Value.int IntKind.i64 0, Value.int IntKind.i64 0, Value.int IntKind.i64 0, Value.int IntKind.i64 0]), rfl, rfl, fun E => VR.constAV E (Value.agg #[Value.int IntKind.i64 0, Value.int IntKind.i64 0, Value.int IntKind.i64 0, Value.int IntKind.i64 0, Value.int IntKind.i64 0, Value.int IntKind.i64 0])⟩
theorem ok_82 : TI.OK Try.prog 82 ti82 := ⟨Try.underlying82, Try.t82, Try.type82, rfl, rfl, (Value.nilFunc), rfl, rfl, fun E => VR.constAV E (Value.nilFunc)⟩
theorem ok_83 : TI.OK Try.prog 83 ti83 := ⟨Try.underlying83, Try.t83, Try.type83, rfl, rfl, (Value.nilFunc), rfl, rfl, fun E => VR.constAV E (Value.nilFunc)⟩
theorem ok_84 : TI.OK Try.prog 84 ti84 := ⟨Try.underlying84, Try.t84, Try.type84, rfl, rfl, (Value.agg #[Value.pointer none, Value.pointer none, Value.pointer none, Value.string { data := #[] }]), rfl, rfl, fun E => VR.constAV E (Value.agg #[Value.pointer none, Value.pointer none, Value.pointer none, Value.string { data := #[] }])⟩
theorem ok_85 : TI.OK Try.prog 85 ti85 := ⟨Try.underlying85, Try.t85, Try.type85, rfl, rfl, (Value.agg #[Value.pointer none, Value.pointer none, Value.pointer none, Value.string { data := #[] }]), rfl, rfl, fun E => VR.constAV E (Value.agg #[Value.pointer none, Value.pointer none, Value.pointer none, Value.string { data := #[] }])⟩
theorem ok_86 : TI.OK Try.prog 86 ti86 := ⟨Try.underlying86, Try.t86, Try.type86, rfl, rfl, (Value.agg #[]), rfl, rfl, fun E => VR.constAV E (Value.agg #[])⟩
theorem ok_87 : TI.OK Try.prog 87 ti87 := ⟨Try.underlying87, Try.t87, Try.type87, rfl, rfl, (Value.agg #[]), rfl, rfl, fun E => VR.constAV E (Value.agg #[])⟩
theorem ok_88 : TI.OK Try.prog 88 ti88 := ⟨Try.underlying88, Try.t88, Try.type88, rfl, rfl, (Value.agg #[]), rfl, rfl, fun E => VR.constAV E (Value.agg #[])⟩
theorem ok_89 : TI.OK Try.prog 89 ti89 := ⟨Try.underlying89, Try.t89, Try.type89, rfl, rfl, (Value.int IntKind.u32 0), rfl, rfl, fun E => VR.constAV E (Value.int IntKind.u32 0)⟩
theorem ok_90 : TI.OK Try.prog 90 ti90 := ⟨Try.underlying90, Try.t90, Try.type90, rfl, rfl, (Value.int IntKind.u8 0), rfl, rfl, fun E => VR.constAV E (Value.int IntKind.u8 0)⟩
theorem ok_91 : TI.OK Try.prog 91 ti91 := ⟨Try.underlying91, Try.t91, Try.type91, rfl, rfl, (Value.int IntKind.u8 0), rfl, rfl, fun E => VR.constAV E (Value.int IntKind.u8 0)⟩
theorem ok_92 : TI.OK Try.prog 92 ti92 := ⟨Try.underlying92, Try.t92, Try.type92, rfl, rfl, (Value.nilFunc), rfl, rfl, fun E => VR.constAV E (Value.nilFunc)⟩
theorem ok_93 : TI.OK Try.prog 93 ti93 := ⟨Try.underlying93, Try.t93, Try.type93, rfl, rfl, (Value.pointer none), rfl, rfl, fun E => VR.constAV E (Value.pointer none)⟩
theorem ok_94 : TI.OK Try.prog 94 ti94 := ⟨Try.underlying94, Try.t94, Try.type94, rfl, rfl, (Value.int IntKind.i32 0), rfl, rfl, fun E => VR.constAV E (Value.int IntKind.i32 0)⟩
theorem ok_95 : TI.OK Try.prog 95 ti95 := ⟨Try.underlying95, Try.t95, Try.type95, rfl, rfl, (Value.int IntKind.i32 0), rfl, rfl, fun E => VR.constAV E (Value.int IntKind.i32 0)⟩
theorem ok_96 : TI.OK Try.prog 96 ti96 := ⟨Try.underlying96, Try.t96, Try.type96, rfl, rfl, (Value.agg #[Value.int IntKind.u64 0, Value.int IntKind.u64 0, Value.int IntKind.u32 0, Value.int IntKind.u8 0, Value.int IntKind.u8 0, Value.int IntKind.u8 0, Value.int IntKind.u8 0, Value.nilFunc, Value.pointer none, Value.int IntKind.i32 0, Value.int IntKind.i32 0]), rfl, rfl, fun E => VR.constAV E (Value.agg #[Value.int IntKind.u64 0, Value.int IntKind.u64 0, Value.int IntKind.u32 0, Value.int IntKind.u8 0, Value.int IntKind.u8 0, Value.int IntKind.u8 0, Value.int IntKind.u8 0, Value.nilFunc, Value.pointer none, Value.int IntKind.i32 0, Value.int IntKind.i32 0])⟩
theorem ok_97 : TI.OK Try.prog 97 ti97 := ⟨Try.underlying97, Try.t97, Try.type97, rfl, rfl, (Value.agg #[Value.int IntKind.u64 0, Value.int IntKind.u64 0, Value.int IntKind.u32 0, Value.int IntKind.u8 0, Value.int IntKind.u8 0, Value.int IntKind.u8 0, Value.int IntKind.u8 0, Value.nilFunc, Value.pointer none, Value.int IntKind.i32 0, Value.int IntKind.i32 0]), rfl, rfl, fun E => VR.constAV E (Value.agg #[Value.int IntKind.u64 0, Value.int IntKind.u64 0, Value.int IntKind.u32 0, Value.int IntKind.u8 0, Value.int IntKind.u8 0, Value.int IntKind.u8 0, Value.int IntKind.u8 0, Value.nilFunc, Value.pointer none, Value.int IntKind.i32 0, Value.int IntKind.i32 0])⟩
theorem allOK : AllOK Try.prog 0 tabL := ⟨ok_1, ok_2, ok_3, ok_4, ok_5, ok_6, ok_7, ok_8, ok_9, ok_10, ok_11, ok_12, ok_13, ok_14, ok_15, ok_16, ok_17, ok_18, ok_19, ok_20, ok_21, ok_22, ok_23, ok_24, ok_25, ok_26, ok_27, ok_28, ok_29, ok_30, ok_31, ok_32, ok_33, ok_34, ok_35, ok_36, ok_37, ok_38, ok_39, ok_40, ok_41, ok_42, ok_43, ok_44, ok_45, ok_46, ok_47, ok_48, ok_49, ok_51, ok_52, ok_53, ok_54, ok_55, ok_56, ok_57, ok_58, ok_59, ok_60, ok_61, ok_62, ok_63, ok_65, ok_66, ok_67, ok_68, ok_69, ok_70, ok_71, ok_72, ok_73, ok_74, ok_75, ok_76, ok_77, ok_79, ok_80, ok_81, ok_82, ok_83, ok_84, ok_85, ok_86, ok_87, ok_88, ok_89, ok_90, ok_91, ok_92, ok_93, ok_94, ok_95, ok_96, ok_97, trivial⟩
theorem tok : TOK Try.prog tab := tok_of allOK
end Go.Proofs.Ytplddidoobjcnaa
