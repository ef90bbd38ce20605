import Derived.Test.YtaddlmlpeghonaaDoorProg
import Derived.Test.YtaddlmlpeghonaaDoorUBv
import Derived.KernelRfl
set_option linter.unusedSimpArgs false
set_option maxRecDepth 8000
namespace Go.Proofs.YtaddlmlpeghonaaDoor
open AM
def ti1 : TI := ⟨TypeDesc.func #[] #[] false, 1, 8, AV.nilF, false⟩
def ti2 : TI := ⟨TypeDesc.int IntKind.i64, 1, 8, AV.int .i64 0, false⟩
def ti3 : TI := ⟨TypeDesc.int IntKind.i64, 1, 8, AV.int .i64 0, false⟩
def ti4 : TI := ⟨TypeDesc.bool, 1, 1, AV.bool false, false⟩
def ti5 : TI := ⟨TypeDesc.int IntKind.u8, 1, 1, AV.int .u8 0, false⟩
def ti9 : TI := ⟨TypeDesc.string, 1, 16, AV.str [], false⟩
def ti20 : TI := ⟨TypeDesc.interface #[], 1, 16, AV.nilI, false⟩
def ti21 : TI := ⟨TypeDesc.int IntKind.i32, 1, 4, AV.int .i32 0, false⟩
def ti22 : TI := ⟨TypeDesc.slice 33, 1, 24, AV.ds true [] 0 true, false⟩
def ti23 : TI := ⟨TypeDesc.slice 52, 1, 24, AV.ds true [] 0 true, false⟩
def ti24 : TI := ⟨TypeDesc.slice 3, 1, 24, AV.ds true [] 0 true, false⟩
def ti25 : TI := ⟨TypeDesc.struct #[⟨"Name", 9, 0, false, "", "", 0⟩, ⟨"Fields", 23, 1, false, "", "", 16⟩, ⟨"Reserved", 24, 2, false, "", "", 40⟩], 3, 64, AV.agg [AV.str [], AV.ds true [] 0 true, AV.ds true [] 0 true], false⟩
def ti26 : TI := ⟨TypeDesc.struct #[⟨"Name", 9, 0, false, "", "", 0⟩, ⟨"Fields", 23, 1, false, "", "", 16⟩, ⟨"Reserved", 24, 2, false, "", "", 40⟩], 3, 64, AV.agg [AV.str [], AV.ds true [] 0 true, AV.ds true [] 0 true], false⟩
def ti27 : TI := ⟨TypeDesc.slice 26, 1, 24, AV.ds true [] 0 true, false⟩
def ti28 : TI := ⟨TypeDesc.slice 90, 1, 24, AV.ds true [] 0 true, false⟩
def ti29 : TI := ⟨TypeDesc.slice 73, 1, 24, AV.ds true [] 0 true, false⟩
def ti30 : TI := ⟨TypeDesc.struct #[⟨"Name", 9, 0, false, "", "", 0⟩, ⟨"Messages", 27, 1, false, "", "", 16⟩, ⟨"Enums", 28, 2, false, "", "", 40⟩, ⟨"Methods", 29, 3, false, "", "", 64⟩], 4, 88, AV.agg [AV.str [], AV.ds true [] 0 true, AV.ds true [] 0 true, AV.ds true [] 0 true], false⟩
def ti31 : TI := ⟨TypeDesc.struct #[⟨"Name", 9, 0, false, "", "", 0⟩, ⟨"Messages", 27, 1, false, "", "", 16⟩, ⟨"Enums", 28, 2, false, "", "", 40⟩, ⟨"Methods", 29, 3, false, "", "", 64⟩], 4, 88, AV.agg [AV.str [], AV.ds true [] 0 true, AV.ds true [] 0 true, AV.ds true [] 0 true], false⟩
def ti32 : TI := ⟨TypeDesc.struct #[⟨"Tag", 3, 0, false, "", "", 0⟩, ⟨"Wire", 3, 1, false, "", "", 8⟩, ⟨"N", 3, 2, false, "", "", 16⟩, ⟨"B", 9, 3, false, "", "", 24⟩], 4, 40, AV.agg [AV.int .i64 0, AV.int .i64 0, AV.int .i64 0, AV.str []], true⟩
def ti33 : TI := ⟨TypeDesc.struct #[⟨"Tag", 3, 0, false, "", "", 0⟩, ⟨"Wire", 3, 1, false, "", "", 8⟩, ⟨"N", 3, 2, false, "", "", 16⟩, ⟨"B", 9, 3, false, "", "", 24⟩], 4, 40, AV.agg [AV.int .i64 0, AV.int .i64 0, AV.int .i64 0, AV.str []], true⟩
def ti35 : TI := ⟨TypeDesc.slice 5, 1, 24, AV.ds true [] 0 true, false⟩
def ti36 : TI := ⟨TypeDesc.int IntKind.i64, 1, 8, AV.int .i64 0, false⟩
def ti40 : TI := ⟨TypeDesc.slice 61, 1, 24, AV.ds true [] 0 true, false⟩
def ti41 : TI := ⟨TypeDesc.struct #[⟨"Kind", 3, 0, false, "", "", 0⟩, ⟨"N", 3, 1, false, "", "", 8⟩, ⟨"S", 9, 2, false, "", "", 16⟩, ⟨"Entries", 40, 3, false, "", "", 32⟩, ⟨"Rest", 22, 4, false, "", "", 56⟩], 5, 80, AV.agg [AV.int .i64 0, AV.int .i64 0, AV.str [], AV.ds true [] 0 true, AV.ds true [] 0 true], false⟩
def ti42 : TI := ⟨TypeDesc.struct #[⟨"Kind", 3, 0, false, "", "", 0⟩, ⟨"N", 3, 1, false, "", "", 8⟩, ⟨"S", 9, 2, false, "", "", 16⟩, ⟨"Entries", 40, 3, false, "", "", 32⟩, ⟨"Rest", 22, 4, false, "", "", 56⟩], 5, 80, AV.agg [AV.int .i64 0, AV.int .i64 0, AV.str [], AV.ds true [] 0 true, AV.ds true [] 0 true], false⟩
def ti49 : TI := ⟨TypeDesc.struct #[⟨"Kind", 3, 0, false, "", "", 0⟩, ⟨"Name", 9, 1, false, "", "", 8⟩], 2, 24, AV.agg [AV.int .i64 0, AV.str []], true⟩
def ti50 : TI := ⟨TypeDesc.struct #[⟨"Kind", 3, 0, false, "", "", 0⟩, ⟨"Name", 9, 1, false, "", "", 8⟩], 2, 24, AV.agg [AV.int .i64 0, AV.str []], true⟩
def ti51 : TI := ⟨TypeDesc.struct #[⟨"Name", 9, 0, false, "", "", 0⟩, ⟨"Tag", 3, 1, false, "", "", 16⟩, ⟨"Label", 3, 2, false, "", "", 24⟩, ⟨"Type", 50, 3, false, "", "", 32⟩], 5, 56, AV.agg [AV.str [], AV.int .i64 0, AV.int .i64 0, AV.int .i64 0, AV.str []], true⟩
def ti52 : TI := ⟨TypeDesc.struct #[⟨"Name", 9, 0, false, "", "", 0⟩, ⟨"Tag", 3, 1, false, "", "", 16⟩, ⟨"Label", 3, 2, false, "", "", 24⟩, ⟨"Type", 50, 3, false, "", "", 32⟩], 5, 56, AV.agg [AV.str [], AV.int .i64 0, AV.int .i64 0, AV.int .i64 0, AV.str []], true⟩
def ti59 : TI := ⟨TypeDesc.slice 42, 1, 24, AV.ds true [] 0 true, false⟩
def ti60 : TI := ⟨TypeDesc.struct #[⟨"Tag", 3, 0, false, "", "", 0⟩, ⟨"Trees", 59, 1, false, "", "", 8⟩], 2, 32, AV.agg [AV.int .i64 0, AV.ds true [] 0 true], false⟩
def ti61 : TI := ⟨TypeDesc.struct #[⟨"Tag", 3, 0, false, "", "", 0⟩, ⟨"Trees", 59, 1, false, "", "", 8⟩], 2, 32, AV.agg [AV.int .i64 0, AV.ds true [] 0 true], false⟩
def ti63 : TI := ⟨TypeDesc.struct #[⟨"Kind", 3, 0, false, "", "", 0⟩, ⟨"From", 3, 1, false, "", "", 8⟩, ⟨"To", 3, 2, false, "", "", 16⟩, ⟨"ID", 3, 3, false, "", "", 24⟩, ⟨"Version", 3, 4, false, "", "", 32⟩, ⟨"Method", 9, 5, false, "", "", 40⟩, ⟨"Err", 3, 6, false, "", "", 56⟩, ⟨"Body", 9, 7, false, "", "", 64⟩], 8, 80, AV.agg [AV.int .i64 0, AV.int .i64 0, AV.int .i64 0, AV.int .i64 0, AV.int .i64 0, AV.str [], AV.int .i64 0, AV.str []], true⟩
def ti64 : TI := ⟨TypeDesc.struct #[⟨"Kind", 3, 0, false, "", "", 0⟩, ⟨"From", 3, 1, false, "", "", 8⟩, ⟨"To", 3, 2, false, "", "", 16⟩, ⟨"ID", 3, 3, false, "", "", 24⟩, ⟨"Version", 3, 4, false, "", "", 32⟩, ⟨"Method", 9, 5, false, "", "", 40⟩, ⟨"Err", 3, 6, false, "", "", 56⟩, ⟨"Body", 9, 7, false, "", "", 64⟩], 8, 80, AV.agg [AV.int .i64 0, AV.int .i64 0, AV.int .i64 0, AV.int .i64 0, AV.int .i64 0, AV.str [], AV.int .i64 0, AV.str []], true⟩
def ti72 : TI := ⟨TypeDesc.struct #[⟨"Name", 9, 0, false, "", "", 0⟩, ⟨"In", 9, 1, false, "", "", 16⟩, ⟨"Out", 9, 2, false, "", "", 32⟩], 3, 48, AV.agg [AV.str [], AV.str [], AV.str []], true⟩
def ti73 : TI := ⟨TypeDesc.struct #[⟨"Name", 9, 0, false, "", "", 0⟩, ⟨"In", 9, 1, false, "", "", 16⟩, ⟨"Out", 9, 2, false, "", "", 32⟩], 3, 48, AV.agg [AV.str [], AV.str [], AV.str []], true⟩
def ti75 : TI := ⟨TypeDesc.slice 31, 1, 24, AV.ds true [] 0 true, false⟩
def ti85 : TI := ⟨TypeDesc.int IntKind.u64, 1, 8, AV.int .u64 0, false⟩
def ti88 : TI := ⟨TypeDesc.slice 92, 1, 24, AV.ds true [] 0 true, false⟩
def ti89 : TI := ⟨TypeDesc.struct #[⟨"Name", 9, 0, false, "", "", 0⟩, ⟨"Values", 88, 1, false, "", "", 16⟩], 2, 40, AV.agg [AV.str [], AV.ds true [] 0 true], false⟩
def ti90 : TI := ⟨TypeDesc.struct #[⟨"Name", 9, 0, false, "", "", 0⟩, ⟨"Values", 88, 1, false, "", "", 16⟩], 2, 40, AV.agg [AV.str [], AV.ds true [] 0 true], false⟩
def ti91 : TI := ⟨TypeDesc.struct #[⟨"Name", 9, 0, false, "", "", 0⟩, ⟨"N", 3, 1, false, "", "", 16⟩], 2, 24, AV.agg [AV.str [], AV.int .i64 0], true⟩
def ti92 : TI := ⟨TypeDesc.struct #[⟨"Name", 9, 0, false, "", "", 0⟩, ⟨"N", 3, 1, false, "", "", 16⟩], 2, 24, AV.agg [AV.str [], AV.int .i64 0], true⟩
def ti94 : TI := ⟨TypeDesc.slice 9, 1, 24, AV.ds true [] 0 true, false⟩
def ti100 : TI := ⟨TypeDesc.pointer 3, 1, 8, AV.nilp, false⟩
def ti104 : TI := ⟨TypeDesc.map 9 4, 1, 8, AV.nilm, false⟩
def ti105 : TI := ⟨TypeDesc.map 9 4, 1, 8, AV.nilm, false⟩
def ti113 : TI := ⟨TypeDesc.pointer 42, 1, 8, AV.nilp, false⟩
def ti115 : TI := ⟨TypeDesc.func #[61] #[4] false, 1, 8, AV.nilF, false⟩
def ti116 : TI := ⟨TypeDesc.int IntKind.u64, 1, 8, AV.int .u64 0, false⟩
def ti117 : TI := ⟨TypeDesc.slice 21, 1, 24, AV.ds true [] 0 true, false⟩
def ti124 : TI := ⟨TypeDesc.interface #[("concordat/value.kind", 200)], 1, 16, AV.nilI, false⟩
def ti125 : TI := ⟨TypeDesc.interface #[("concordat/value.kind", 200)], 1, 16, AV.nilI, false⟩
def ti126 : TI := ⟨TypeDesc.struct #[⟨"in", 125, 0, false, "", "concordat/value", 0⟩], 1, 16, AV.agg [AV.nilI], false⟩
def ti127 : TI := ⟨TypeDesc.struct #[⟨"in", 125, 0, false, "", "concordat/value", 0⟩], 1, 16, AV.agg [AV.nilI], false⟩
def ti131 : TI := ⟨TypeDesc.pointer 174, 1, 8, AV.nilp, false⟩
def ti134 : TI := ⟨TypeDesc.map 3 4, 1, 8, AV.nilm, false⟩
def ti141 : TI := ⟨TypeDesc.func #[61, 3] #[3] false, 1, 8, AV.nilF, false⟩
def ti143 : TI := ⟨TypeDesc.pointer 61, 1, 8, AV.nilp, false⟩
def ti155 : TI := ⟨TypeDesc.slice 127, 1, 24, AV.ds true [] 0 true, false⟩
def ti172 : TI := ⟨TypeDesc.slice 176, 1, 24, AV.ds true [] 0 true, false⟩
def ti173 : TI := ⟨TypeDesc.struct #[⟨"entries", 172, 0, false, "", "concordat/value", 0⟩, ⟨"rest", 22, 1, false, "", "concordat/value", 24⟩], 2, 48, AV.agg [AV.ds true [] 0 true, AV.ds true [] 0 true], false⟩
def ti174 : TI := ⟨TypeDesc.struct #[⟨"entries", 172, 0, false, "", "concordat/value", 0⟩, ⟨"rest", 22, 1, false, "", "concordat/value", 24⟩], 2, 48, AV.agg [AV.ds true [] 0 true, AV.ds true [] 0 true], false⟩
def ti175 : TI := ⟨TypeDesc.struct #[⟨"tag", 3, 0, false, "", "concordat/value", 0⟩, ⟨"l", 155, 1, false, "", "concordat/value", 8⟩], 2, 32, AV.agg [AV.int .i64 0, AV.ds true [] 0 true], false⟩
def ti176 : TI := ⟨TypeDesc.struct #[⟨"tag", 3, 0, false, "", "concordat/value", 0⟩, ⟨"l", 155, 1, false, "", "concordat/value", 8⟩], 2, 32, AV.agg [AV.int .i64 0, AV.ds true [] 0 true], false⟩
def ti182 : TI := ⟨TypeDesc.int IntKind.i64, 1, 8, AV.int .i64 0, false⟩
def ti183 : TI := ⟨TypeDesc.string, 1, 16, AV.str [], false⟩
def ti191 : TI := ⟨TypeDesc.struct #[⟨"lo", 5, 0, false, "", "unicode/utf8", 0⟩, ⟨"hi", 5, 1, false, "", "unicode/utf8", 1⟩], 2, 2, AV.agg [AV.int .u8 0, AV.int .u8 0], true⟩
def ti192 : TI := ⟨TypeDesc.struct #[⟨"lo", 5, 0, false, "", "unicode/utf8", 0⟩, ⟨"hi", 5, 1, false, "", "unicode/utf8", 1⟩], 2, 2, AV.agg [AV.int .u8 0, AV.int .u8 0], true⟩
def ti193 : TI := ⟨TypeDesc.array 16 192, 32, 32, AV.agg [AV.int .u8 0, AV.int .u8 0, AV.int .u8 0, AV.int .u8 0, AV.int .u8 0, AV.int .u8 0, AV.int .u8 0, AV.int .u8 0, AV.int .u8 0, AV.int .u8 0, AV.int .u8 0, AV.int .u8 0, AV.int .u8 0, AV.int .u8 0, AV.int .u8 0, AV.int .u8 0, AV.int .u8 0, AV.int .u8 0, AV.int .u8 0, AV.int .u8 0, AV.int .u8 0, AV.int .u8 0, AV.int .u8 0, AV.int .u8 0, AV.int .u8 0, AV.int .u8 0, AV.int .u8 0, AV.int .u8 0, AV.int .u8 0, AV.int .u8 0, AV.int .u8 0, AV.int .u8 0], true⟩
def tabL : List (Option TI) := [none, some ti1, some ti2, some ti3, some ti4, some ti5, none, none, none, some ti9, none, none, none, none, none, none, none, none, none, none, some ti20, some ti21, some ti22, some ti23, some ti24, some ti25, some ti26, some ti27, some ti28, some ti29, some ti30, some ti31, some ti32, some ti33, none, some ti35, some ti36, none, none, none, some ti40, some ti41, some ti42, none, none, none, none, none, none, some ti49, some ti50, some ti51, some ti52, none, none, none, none, none, none, some ti59, some ti60, some ti61, none, some ti63, some ti64, none, none, none, none, none, none, none, some ti72, some ti73, none, some ti75, none, none, none, none, none, none, none, none, none, some ti85, none, none, some ti88, some ti89, some ti90, some ti91, some ti92, none, some ti94, none, none, none, none, none, some ti100, none, none, none, some ti104, some ti105, none, none, none, none, none, none, none, some ti113, none, some ti115, some ti116, some ti117, none, none, none, none, none, none, some ti124, some ti125, some ti126, some ti127, none, none, none, some ti131, none, none, some ti134, none, none, none, none, none, none, some ti141, none, some ti143, none, none, none, none, none, none, none, none, none, none, none, some ti155, none, none, none, none, none, none, none, none, none, none, none, none, none, none, none, none, some ti172, some ti173, some ti174, some ti175, some ti176, none, none, none, none, none, some ti182, some ti183, none, none, none, none, none, none, none, some ti191, some ti192, some ti193, none, none, none, none, none, none, none, none, none, none, none, none, none, none, none, none, none]
def tab : TT := fun t => (tabL[t]?).getD none
theorem tab_1 : tab 1 = some ⟨TypeDesc.func #[] #[] false, 1, 8, AV.nilF, false⟩ := rfl
theorem tab_2 : tab 2 = some ⟨TypeDesc.int IntKind.i64, 1, 8, AV.int .i64 0, false⟩ := rfl
theorem tab_3 : tab 3 = some ⟨TypeDesc.int IntKind.i64, 1, 8, AV.int .i64 0, false⟩ := rfl
theorem tab_4 : tab 4 = some ⟨TypeDesc.bool, 1, 1, AV.bool false, false⟩ := rfl
theorem tab_5 : tab 5 = some ⟨TypeDesc.int IntKind.u8, 1, 1, AV.int .u8 0, false⟩ := rfl
theorem tab_9 : tab 9 = some ⟨TypeDesc.string, 1, 16, AV.str [], false⟩ := rfl
theorem tab_20 : tab 20 = some ⟨TypeDesc.interface #[], 1, 16, AV.nilI, false⟩ := rfl
theorem tab_21 : tab 21 = some ⟨TypeDesc.int IntKind.i32, 1, 4, AV.int .i32 0, false⟩ := rfl
theorem tab_22 : tab 22 = some ⟨TypeDesc.slice 33, 1, 24, AV.ds true [] 0 true, false⟩ := rfl
theorem tab_23 : tab 23 = some ⟨TypeDesc.slice 52, 1, 24, AV.ds true [] 0 true, false⟩ := rfl
theorem tab_24 : tab 24 = some ⟨TypeDesc.slice 3, 1, 24, AV.ds true [] 0 true, false⟩ := rfl
theorem tab_25 : tab 25 = some ⟨TypeDesc.struct #[⟨"Name", 9, 0, false, "", "", 0⟩, ⟨"Fields", 23, 1, false, "", "", 16⟩, ⟨"Reserved", 24, 2, false, "", "", 40⟩], 3, 64, AV.agg [AV.str [], AV.ds true [] 0 true, AV.ds true [] 0 true], false⟩ := rfl
theorem tab_26 : tab 26 = some ⟨TypeDesc.struct #[⟨"Name", 9, 0, false, "", "", 0⟩, ⟨"Fields", 23, 1, false, "", "", 16⟩, ⟨"Reserved", 24, 2, false, "", "", 40⟩], 3, 64, AV.agg [AV.str [], AV.ds true [] 0 true, AV.ds true [] 0 true], false⟩ := rfl
theorem tab_27 : tab 27 = some ⟨TypeDesc.slice 26, 1, 24, AV.ds true [] 0 true, false⟩ := rfl
theorem tab_28 : tab 28 = some ⟨TypeDesc.slice 90, 1, 24, AV.ds true [] 0 true, false⟩ := rfl
theorem tab_29 : tab 29 = some ⟨TypeDesc.slice 73, 1, 24, AV.ds true [] 0 true, false⟩ := rfl
theorem tab_30 : tab 30 = some ⟨TypeDesc.struct #[⟨"Name", 9, 0, false, "", "", 0⟩, ⟨"Messages", 27, 1, false, "", "", 16⟩, ⟨"Enums", 28, 2, false, "", "", 40⟩, ⟨"Methods", 29, 3, false, "", "", 64⟩], 4, 88, AV.agg [AV.str [], AV.ds true [] 0 true, AV.ds true [] 0 true, AV.ds true [] 0 true], false⟩ := rfl
theorem tab_31 : tab 31 = some ⟨TypeDesc.struct #[⟨"Name", 9, 0, false, "", "", 0⟩, ⟨"Messages", 27, 1, false, "", "", 16⟩, ⟨"Enums", 28, 2, false, "", "", 40⟩, ⟨"Methods", 29, 3, false, "", "", 64⟩], 4, 88, AV.agg [AV.str [], AV.ds true [] 0 true, AV.ds true [] 0 true, AV.ds true [] 0 true], false⟩ := rfl
theorem tab_32 : tab 32 = some ⟨TypeDesc.struct #[⟨"Tag", 3, 0, false, "", "", 0⟩, ⟨"Wire", 3, 1, false, "", "", 8⟩, ⟨"N", 3, 2, false, "", "", 16⟩, ⟨"B", 9, 3, false, "", "", 24⟩], 4, 40, AV.agg [AV.int .i64 0, AV.int .i64 0, AV.int .i64 0, AV.str []], true⟩ := rfl
theorem tab_33 : tab 33 = some ⟨TypeDesc.struct #[⟨"Tag", 3, 0, false, "", "", 0⟩, ⟨"Wire", 3, 1, false, "", "", 8⟩, ⟨"N", 3, 2, false, "", "", 16⟩, ⟨"B", 9, 3, false, "", "", 24⟩], 4, 40, AV.agg [AV.int .i64 0, AV.int .i64 0, AV.int .i64 0, AV.str []], true⟩ := rfl
theorem tab_35 : tab 35 = some ⟨TypeDesc.slice 5, 1, 24, AV.ds true [] 0 true, false⟩ := rfl
theorem tab_36 : tab 36 = some ⟨TypeDesc.int IntKind.i64, 1, 8, AV.int .i64 0, false⟩ := rfl
theorem tab_40 : tab 40 = some ⟨TypeDesc.slice 61, 1, 24, AV.ds true [] 0 true, false⟩ := rfl
theorem tab_41 : tab 41 = some ⟨TypeDesc.struct #[⟨"Kind", 3, 0, false, "", "", 0⟩, ⟨"N", 3, 1, false, "", "", 8⟩, ⟨"S", 9, 2, false, "", "", 16⟩, ⟨"Entries", 40, 3, false, "", "", 32⟩, ⟨"Rest", 22, 4, false, "", "", 56⟩], 5, 80, AV.agg [AV.int .i64 0, AV.int .i64 0, AV.str [], AV.ds true [] 0 true, AV.ds true [] 0 true], false⟩ := rfl
theorem tab_42 : tab 42 = some ⟨TypeDesc.struct #[⟨"Kind", 3, 0, false, "", "", 0⟩, ⟨"N", 3, 1, false, "", "", 8⟩, ⟨"S", 9, 2, false, "", "", 16⟩, ⟨"Entries", 40, 3, false, "", "", 32⟩, ⟨"Rest", 22, 4, false, "", "", 56⟩], 5, 80, AV.agg [AV.int .i64 0, AV.int .i64 0, AV.str [], AV.ds true [] 0 true, AV.ds true [] 0 true], false⟩ := rfl
theorem tab_49 : tab 49 = some ⟨TypeDesc.struct #[⟨"Kind", 3, 0, false, "", "", 0⟩, ⟨"Name", 9, 1, false, "", "", 8⟩], 2, 24, AV.agg [AV.int .i64 0, AV.str []], true⟩ := rfl
theorem tab_50 : tab 50 = some ⟨TypeDesc.struct #[⟨"Kind", 3, 0, false, "", "", 0⟩, ⟨"Name", 9, 1, false, "", "", 8⟩], 2, 24, AV.agg [AV.int .i64 0, AV.str []], true⟩ := rfl
theorem tab_51 : tab 51 = some ⟨TypeDesc.struct #[⟨"Name", 9, 0, false, "", "", 0⟩, ⟨"Tag", 3, 1, false, "", "", 16⟩, ⟨"Label", 3, 2, false, "", "", 24⟩, ⟨"Type", 50, 3, false, "", "", 32⟩], 5, 56, AV.agg [AV.str [], AV.int .i64 0, AV.int .i64 0, AV.int .i64 0, AV.str []], true⟩ := rfl
theorem tab_52 : tab 52 = some ⟨TypeDesc.struct #[⟨"Name", 9, 0, false, "", "", 0⟩, ⟨"Tag", 3, 1, false, "", "", 16⟩, ⟨"Label", 3, 2, false, "", "", 24⟩, ⟨"Type", 50, 3, false, "", "", 32⟩], 5, 56, AV.agg [AV.str [], AV.int .i64 0, AV.int .i64 0, AV.int .i64 0, AV.str []], true⟩ := rfl
theorem tab_59 : tab 59 = some ⟨TypeDesc.slice 42, 1, 24, AV.ds true [] 0 true, false⟩ := rfl
theorem tab_60 : tab 60 = some ⟨TypeDesc.struct #[⟨"Tag", 3, 0, false, "", "", 0⟩, ⟨"Trees", 59, 1, false, "", "", 8⟩], 2, 32, AV.agg [AV.int .i64 0, AV.ds true [] 0 true], false⟩ := rfl
theorem tab_61 : tab 61 = some ⟨TypeDesc.struct #[⟨"Tag", 3, 0, false, "", "", 0⟩, ⟨"Trees", 59, 1, false, "", "", 8⟩], 2, 32, AV.agg [AV.int .i64 0, AV.ds true [] 0 true], false⟩ := rfl
theorem tab_63 : tab 63 = some ⟨TypeDesc.struct #[⟨"Kind", 3, 0, false, "", "", 0⟩, ⟨"From", 3, 1, false, "", "", 8⟩, ⟨"To", 3, 2, false, "", "", 16⟩, ⟨"ID", 3, 3, false, "", "", 24⟩, ⟨"Version", 3, 4, false, "", "", 32⟩, ⟨"Method", 9, 5, false, "", "", 40⟩, ⟨"Err", 3, 6, false, "", "", 56⟩, ⟨"Body", 9, 7, false, "", "", 64⟩], 8, 80, AV.agg [AV.int .i64 0, AV.int .i64 0, AV.int .i64 0, AV.int .i64 0, AV.int .i64 0, AV.str [], AV.int .i64 0, AV.str []], true⟩ := rfl
theorem tab_64 : tab 64 = some ⟨TypeDesc.struct #[⟨"Kind", 3, 0, false, "", "", 0⟩, ⟨"From", 3, 1, false, "", "", 8⟩, ⟨"To", 3, 2, false, "", "", 16⟩, ⟨"ID", 3, 3, false, "", "", 24⟩, ⟨"Version", 3, 4, false, "", "", 32⟩, ⟨"Method", 9, 5, false, "", "", 40⟩, ⟨"Err", 3, 6, false, "", "", 56⟩, ⟨"Body", 9, 7, false, "", "", 64⟩], 8, 80, AV.agg [AV.int .i64 0, AV.int .i64 0, AV.int .i64 0, AV.int .i64 0, AV.int .i64 0, AV.str [], AV.int .i64 0, AV.str []], true⟩ := rfl
theorem tab_72 : tab 72 = some ⟨TypeDesc.struct #[⟨"Name", 9, 0, false, "", "", 0⟩, ⟨"In", 9, 1, false, "", "", 16⟩, ⟨"Out", 9, 2, false, "", "", 32⟩], 3, 48, AV.agg [AV.str [], AV.str [], AV.str []], true⟩ := rfl
theorem tab_73 : tab 73 = some ⟨TypeDesc.struct #[⟨"Name", 9, 0, false, "", "", 0⟩, ⟨"In", 9, 1, false, "", "", 16⟩, ⟨"Out", 9, 2, false, "", "", 32⟩], 3, 48, AV.agg [AV.str [], AV.str [], AV.str []], true⟩ := rfl
theorem tab_75 : tab 75 = some ⟨TypeDesc.slice 31, 1, 24, AV.ds true [] 0 true, false⟩ := rfl
theorem tab_85 : tab 85 = some ⟨TypeDesc.int IntKind.u64, 1, 8, AV.int .u64 0, false⟩ := rfl
theorem tab_88 : tab 88 = some ⟨TypeDesc.slice 92, 1, 24, AV.ds true [] 0 true, false⟩ := rfl
theorem tab_89 : tab 89 = some ⟨TypeDesc.struct #[⟨"Name", 9, 0, false, "", "", 0⟩, ⟨"Values", 88, 1, false, "", "", 16⟩], 2, 40, AV.agg [AV.str [], AV.ds true [] 0 true], false⟩ := rfl
theorem tab_90 : tab 90 = some ⟨TypeDesc.struct #[⟨"Name", 9, 0, false, "", "", 0⟩, ⟨"Values", 88, 1, false, "", "", 16⟩], 2, 40, AV.agg [AV.str [], AV.ds true [] 0 true], false⟩ := rfl
theorem tab_91 : tab 91 = some ⟨TypeDesc.struct #[⟨"Name", 9, 0, false, "", "", 0⟩, ⟨"N", 3, 1, false, "", "", 16⟩], 2, 24, AV.agg [AV.str [], AV.int .i64 0], true⟩ := rfl
theorem tab_92 : tab 92 = some ⟨TypeDesc.struct #[⟨"Name", 9, 0, false, "", "", 0⟩, ⟨"N", 3, 1, false, "", "", 16⟩], 2, 24, AV.agg [AV.str [], AV.int .i64 0], true⟩ := rfl
theorem tab_94 : tab 94 = some ⟨TypeDesc.slice 9, 1, 24, AV.ds true [] 0 true, false⟩ := rfl
theorem tab_100 : tab 100 = some ⟨TypeDesc.pointer 3, 1, 8, AV.nilp, false⟩ := rfl
theorem tab_104 : tab 104 = some ⟨TypeDesc.map 9 4, 1, 8, AV.nilm, false⟩ := rfl
theorem tab_105 : tab 105 = some ⟨TypeDesc.map 9 4, 1, 8, AV.nilm, false⟩ := rfl
theorem tab_113 : tab 113 = some ⟨TypeDesc.pointer 42, 1, 8, AV.nilp, false⟩ := rfl
theorem tab_115 : tab 115 = some ⟨TypeDesc.func #[61] #[4] false, 1, 8, AV.nilF, false⟩ := rfl
theorem tab_116 : tab 116 = some ⟨TypeDesc.int IntKind.u64, 1, 8, AV.int .u64 0, false⟩ := rfl
theorem tab_117 : tab 117 = some ⟨TypeDesc.slice 21, 1, 24, AV.ds true [] 0 true, false⟩ := rfl
theorem tab_124 : tab 124 = some ⟨TypeDesc.interface #[("concordat/value.kind", 200)], 1, 16, AV.nilI, false⟩ := rfl
theorem tab_125 : tab 125 = some ⟨TypeDesc.interface #[("concordat/value.kind", 200)], 1, 16, AV.nilI, false⟩ := rfl
theorem tab_126 : tab 126 = some ⟨TypeDesc.struct #[⟨"in", 125, 0, false, "", "concordat/value", 0⟩], 1, 16, AV.agg [AV.nilI], false⟩ := rfl
theorem tab_127 : tab 127 = some ⟨TypeDesc.struct #[⟨"in", 125, 0, false, "", "concordat/value", 0⟩], 1, 16, AV.agg [AV.nilI], false⟩ := rfl
theorem tab_131 : tab 131 = some ⟨TypeDesc.pointer 174, 1, 8, AV.nilp, false⟩ := rfl
theorem tab_134 : tab 134 = some ⟨TypeDesc.map 3 4, 1, 8, AV.nilm, false⟩ := rfl
theorem tab_141 : tab 141 = some ⟨TypeDesc.func #[61, 3] #[3] false, 1, 8, AV.nilF, false⟩ := rfl
theorem tab_143 : tab 143 = some ⟨TypeDesc.pointer 61, 1, 8, AV.nilp, false⟩ := rfl
theorem tab_155 : tab 155 = some ⟨TypeDesc.slice 127, 1, 24, AV.ds true [] 0 true, false⟩ := rfl
theorem tab_172 : tab 172 = some ⟨TypeDesc.slice 176, 1, 24, AV.ds true [] 0 true, false⟩ := rfl
theorem tab_173 : tab 173 = some ⟨TypeDesc.struct #[⟨"entries", 172, 0, false, "", "concordat/value", 0⟩, ⟨"rest", 22, 1, false, "", "concordat/value", 24⟩], 2, 48, AV.agg [AV.ds true [] 0 true, AV.ds true [] 0 true], false⟩ := rfl
theorem tab_174 : tab 174 = some ⟨TypeDesc.struct #[⟨"entries", 172, 0, false, "", "concordat/value", 0⟩, ⟨"rest", 22, 1, false, "", "concordat/value", 24⟩], 2, 48, AV.agg [AV.ds true [] 0 true, AV.ds true [] 0 true], false⟩ := rfl
theorem tab_175 : tab 175 = some ⟨TypeDesc.struct #[⟨"tag", 3, 0, false, "", "concordat/value", 0⟩, ⟨"l", 155, 1, false, "", "concordat/value", 8⟩], 2, 32, AV.agg [AV.int .i64 0, AV.ds true [] 0 true], false⟩ := rfl
theorem tab_176 : tab 176 = some ⟨TypeDesc.struct #[⟨"tag", 3, 0, false, "", "concordat/value", 0⟩, ⟨"l", 155, 1, false, "", "concordat/value", 8⟩], 2, 32, AV.agg [AV.int .i64 0, AV.ds true [] 0 true], false⟩ := rfl
theorem tab_182 : tab 182 = some ⟨TypeDesc.int IntKind.i64, 1, 8, AV.int .i64 0, false⟩ := rfl
theorem tab_183 : tab 183 = some ⟨TypeDesc.string, 1, 16, AV.str [], false⟩ := rfl
theorem tab_191 : tab 191 = some ⟨TypeDesc.struct #[⟨"lo", 5, 0, false, "", "unicode/utf8", 0⟩, ⟨"hi", 5, 1, false, "", "unicode/utf8", 1⟩], 2, 2, AV.agg [AV.int .u8 0, AV.int .u8 0], true⟩ := rfl
theorem tab_192 : tab 192 = some ⟨TypeDesc.struct #[⟨"lo", 5, 0, false, "", "unicode/utf8", 0⟩, ⟨"hi", 5, 1, false, "", "unicode/utf8", 1⟩], 2, 2, AV.agg [AV.int .u8 0, AV.int .u8 0], true⟩ := rfl
theorem tab_193 : tab 193 = some ⟨TypeDesc.array 16 192, 32, 32, AV.agg [AV.int .u8 0, AV.int .u8 0, AV.int .u8 0, AV.int .u8 0, AV.int .u8 0, AV.int .u8 0, AV.int .u8 0, AV.int .u8 0, AV.int .u8 0, AV.int .u8 0, AV.int .u8 0, AV.int .u8 0, AV.int .u8 0, AV.int .u8 0, AV.int .u8 0, AV.int .u8 0, AV.int .u8 0, AV.int .u8 0, AV.int .u8 0, AV.int .u8 0, AV.int .u8 0, AV.int .u8 0, AV.int .u8 0, AV.int .u8 0, AV.int .u8 0, AV.int .u8 0, AV.int .u8 0, AV.int .u8 0, AV.int .u8 0, AV.int .u8 0, AV.int .u8 0, AV.int .u8 0], true⟩ := rfl
theorem ok_1 : TI.OK Tryd.prog 1 ti1 := ⟨Tryd.underlying1, ⟨Tryd.t1, Tryd.type1, rfl, rfl, _, rfl, rfl, fun E => VR.constAV E (Value.nilFunc)⟩, (fun h => by cases h), rfl⟩
theorem ok_2 : TI.OK Tryd.prog 2 ti2 := ⟨Tryd.underlying2, ⟨Tryd.t2, Tryd.type2, rfl, rfl, _, rfl, rfl, fun E => VR.constAV E (Value.int IntKind.i64 0)⟩, (fun h => by cases h), rfl⟩
theorem ok_3 : TI.OK Tryd.prog 3 ti3 := ⟨Tryd.underlying3, ⟨Tryd.t3, Tryd.type3, rfl, rfl, _, rfl, rfl, fun E => VR.constAV E (Value.int IntKind.i64 0)⟩, (fun h => by cases h), rfl⟩
theorem ok_4 : TI.OK Tryd.prog 4 ti4 := ⟨Tryd.underlying4, ⟨Tryd.t4, Tryd.type4, rfl, rfl, _, rfl, rfl, fun E => VR.constAV E (Value.bool false)⟩, (fun h => by cases h), rfl⟩
theorem ok_5 : TI.OK Tryd.prog 5 ti5 := ⟨Tryd.underlying5, ⟨Tryd.t5, Tryd.type5, rfl, rfl, _, rfl, rfl, fun E => VR.constAV E (Value.int IntKind.u8 0)⟩, (fun h => by cases h), rfl⟩
theorem ok_9 : TI.OK Tryd.prog 9 ti9 := ⟨Tryd.underlying9, ⟨Tryd.t9, Tryd.type9, rfl, rfl, _, rfl, rfl, fun E => VR.constAV E (Value.string { data := #[] })⟩, (fun h => by cases h), rfl⟩
theorem ok_20 : TI.OK Tryd.prog 20 ti20 := ⟨Tryd.underlying20, ⟨Tryd.t20, Tryd.type20, rfl, rfl, _, rfl, rfl, fun E => VR.constAV E (Value.nilIface)⟩, (fun h => by cases h), rfl⟩
theorem ok_21 : TI.OK Tryd.prog 21 ti21 := ⟨Tryd.underlying21, ⟨Tryd.t21, Tryd.type21, rfl, rfl, _, rfl, rfl, fun E => VR.constAV E (Value.int IntKind.i32 0)⟩, (fun h => by cases h), rfl⟩
theorem ok_22 : TI.OK Tryd.prog 22 ti22 := ⟨Tryd.underlying22, ⟨Tryd.t22, Tryd.type22, rfl, rfl, _, rfl, rfl, fun E => VR.constAV E (Value.slice none 0 0)⟩, (fun h => by cases h), rfl⟩
theorem ok_23 : TI.OK Tryd.prog 23 ti23 := ⟨Tryd.underlying23, ⟨Tryd.t23, Tryd.type23, rfl, rfl, _, rfl, rfl, fun E => VR.constAV E (Value.slice none 0 0)⟩, (fun h => by cases h), rfl⟩
theorem ok_24 : TI.OK Tryd.prog 24 ti24 := ⟨Tryd.underlying24, ⟨Tryd.t24, Tryd.type24, rfl, rfl, _, rfl, rfl, fun E => VR.constAV E (Value.slice none 0 0)⟩, (fun h => by cases h), rfl⟩
theorem ok_25 : TI.OK Tryd.prog 25 ti25 := ⟨Tryd.underlying25, ⟨Tryd.t25, Tryd.type25, rfl, rfl, _, rfl, rfl, fun E => VR.constAV E (Value.agg #[Value.string { data := #[] }, Value.slice none 0 0, Value.slice none 0 0])⟩, (fun h => by cases h), rfl⟩
theorem ok_26 : TI.OK Tryd.prog 26 ti26 := ⟨Tryd.underlying26, ⟨Tryd.t26, Tryd.type26, rfl, rfl, _, rfl, rfl, fun E => VR.constAV E (Value.agg #[Value.string { data := #[] }, Value.slice none 0 0, Value.slice none 0 0])⟩, (fun h => by cases h), rfl⟩
theorem ok_27 : TI.OK Tryd.prog 27 ti27 := ⟨Tryd.underlying27, ⟨Tryd.t27, Tryd.type27, rfl, rfl, _, rfl, rfl, fun E => VR.constAV E (Value.slice none 0 0)⟩, (fun h => by cases h), rfl⟩
theorem ok_28 : TI.OK Tryd.prog 28 ti28 := ⟨Tryd.underlying28, ⟨Tryd.t28, Tryd.type28, rfl, rfl, _, rfl, rfl, fun E => VR.constAV E (Value.slice none 0 0)⟩, (fun h => by cases h), rfl⟩
theorem ok_29 : TI.OK Tryd.prog 29 ti29 := ⟨Tryd.underlying29, ⟨Tryd.t29, Tryd.type29, rfl, rfl, _, rfl, rfl, fun E => VR.constAV E (Value.slice none 0 0)⟩, (fun h => by cases h), rfl⟩
theorem ok_30 : TI.OK Tryd.prog 30 ti30 := ⟨Tryd.underlying30, ⟨Tryd.t30, Tryd.type30, rfl, rfl, _, rfl, rfl, fun E => VR.constAV E (Value.agg #[Value.string { data := #[] }, Value.slice none 0 0, Value.slice none 0 0, Value.slice none 0 0])⟩, (fun h => by cases h), rfl⟩
theorem ok_31 : TI.OK Tryd.prog 31 ti31 := ⟨Tryd.underlying31, ⟨Tryd.t31, Tryd.type31, rfl, rfl, _, rfl, rfl, fun E => VR.constAV E (Value.agg #[Value.string { data := #[] }, Value.slice none 0 0, Value.slice none 0 0, Value.slice none 0 0])⟩, (fun h => by cases h), rfl⟩
theorem ok_32 : TI.OK Tryd.prog 32 ti32 := ⟨Tryd.underlying32, ⟨Tryd.t32, Tryd.type32, rfl, rfl, _, rfl, rfl, fun E => VR.constAV E (Value.agg #[Value.int IntKind.i64 0, Value.int IntKind.i64 0, Value.int IntKind.i64 0, Value.string { data := #[] }])⟩, (fun _ => ⟨by kernel_rfl, by kernel_rfl⟩), rfl⟩
theorem ok_33 : TI.OK Tryd.prog 33 ti33 := ⟨Tryd.underlying33, ⟨Tryd.t33, Tryd.type33, rfl, rfl, _, rfl, rfl, fun E => VR.constAV E (Value.agg #[Value.int IntKind.i64 0, Value.int IntKind.i64 0, Value.int IntKind.i64 0, Value.string { data := #[] }])⟩, (fun _ => ⟨by kernel_rfl, by kernel_rfl⟩), rfl⟩
theorem ok_35 : TI.OK Tryd.prog 35 ti35 := ⟨Tryd.underlying35, ⟨Tryd.t35, Tryd.type35, rfl, rfl, _, rfl, rfl, fun E => VR.constAV E (Value.slice none 0 0)⟩, (fun h => by cases h), rfl⟩
theorem ok_36 : TI.OK Tryd.prog 36 ti36 := ⟨Tryd.underlying36, ⟨Tryd.t36, Tryd.type36, rfl, rfl, _, rfl, rfl, fun E => VR.constAV E (Value.int IntKind.i64 0)⟩, (fun h => by cases h), rfl⟩
theorem ok_40 : TI.OK Tryd.prog 40 ti40 := ⟨Tryd.underlying40, ⟨Tryd.t40, Tryd.type40, rfl, rfl, _, rfl, rfl, fun E => VR.constAV E (Value.slice none 0 0)⟩, (fun h => by cases h), rfl⟩
theorem ok_41 : TI.OK Tryd.prog 41 ti41 := ⟨Tryd.underlying41, ⟨Tryd.t41, Tryd.type41, rfl, rfl, _, rfl, rfl, fun E => VR.constAV E (Value.agg #[Value.int IntKind.i64 0, Value.int IntKind.i64 0, Value.string { data := #[] }, Value.slice none 0 0, Value.slice none 0 0])⟩, (fun h => by cases h), rfl⟩
theorem ok_42 : TI.OK Tryd.prog 42 ti42 := ⟨Tryd.underlying42, ⟨Tryd.t42, Tryd.type42, rfl, rfl, _, rfl, rfl, fun E => VR.constAV E (Value.agg #[Value.int IntKind.i64 0, Value.int IntKind.i64 0, Value.string { data := #[] }, Value.slice none 0 0, Value.slice none 0 0])⟩, (fun h => by cases h), rfl⟩
theorem ok_49 : TI.OK Tryd.prog 49 ti49 := ⟨Tryd.underlying49, ⟨Tryd.t49, Tryd.type49, rfl, rfl, _, rfl, rfl, fun E => VR.constAV E (Value.agg #[Value.int IntKind.i64 0, Value.string { data := #[] }])⟩, (fun _ => ⟨by kernel_rfl, by kernel_rfl⟩), rfl⟩
theorem ok_50 : TI.OK Tryd.prog 50 ti50 := ⟨Tryd.underlying50, ⟨Tryd.t50, Tryd.type50, rfl, rfl, _, rfl, rfl, fun E => VR.constAV E (Value.agg #[Value.int IntKind.i64 0, Value.string { data := #[] }])⟩, (fun _ => ⟨by kernel_rfl, by kernel_rfl⟩), rfl⟩
theorem ok_51 : TI.OK Tryd.prog 51 ti51 := ⟨Tryd.underlying51, ⟨Tryd.t51, Tryd.type51, rfl, rfl, _, rfl, rfl, fun E => VR.constAV E (Value.agg #[Value.string { data := #[] }, Value.int IntKind.i64 0, Value.int IntKind.i64 0, Value.int IntKind.i64 0, Value.string { data := #[] }])⟩, (fun _ => ⟨by kernel_rfl, by kernel_rfl⟩), rfl⟩
theorem ok_52 : TI.OK Tryd.prog 52 ti52 := ⟨Tryd.underlying52, ⟨Tryd.t52, Tryd.type52, rfl, rfl, _, rfl, rfl, fun E => VR.constAV E (Value.agg #[Value.string { data := #[] }, Value.int IntKind.i64 0, Value.int IntKind.i64 0, Value.int IntKind.i64 0, Value.string { data := #[] }])⟩, (fun _ => ⟨by kernel_rfl, by kernel_rfl⟩), rfl⟩
theorem ok_59 : TI.OK Tryd.prog 59 ti59 := ⟨Tryd.underlying59, ⟨Tryd.t59, Tryd.type59, rfl, rfl, _, rfl, rfl, fun E => VR.constAV E (Value.slice none 0 0)⟩, (fun h => by cases h), rfl⟩
theorem ok_60 : TI.OK Tryd.prog 60 ti60 := ⟨Tryd.underlying60, ⟨Tryd.t60, Tryd.type60, rfl, rfl, _, rfl, rfl, fun E => VR.constAV E (Value.agg #[Value.int IntKind.i64 0, Value.slice none 0 0])⟩, (fun h => by cases h), rfl⟩
theorem ok_61 : TI.OK Tryd.prog 61 ti61 := ⟨Tryd.underlying61, ⟨Tryd.t61, Tryd.type61, rfl, rfl, _, rfl, rfl, fun E => VR.constAV E (Value.agg #[Value.int IntKind.i64 0, Value.slice none 0 0])⟩, (fun h => by cases h), rfl⟩
theorem ok_63 : TI.OK Tryd.prog 63 ti63 := ⟨Tryd.underlying63, ⟨Tryd.t63, Tryd.type63, rfl, rfl, _, rfl, rfl, fun E => VR.constAV E (Value.agg #[Value.int IntKind.i64 0, Value.int IntKind.i64 0, Value.int IntKind.i64 0, Value.int IntKind.i64 0, Value.int IntKind.i64 0, Value.string { data := #[] }, Value.int IntKind.i64 0, Value.string { data := #[] }])⟩, (fun _ => ⟨by kernel_rfl, by kernel_rfl⟩), rfl⟩
theorem ok_64 : TI.OK Tryd.prog 64 ti64 := ⟨Tryd.underlying64, ⟨Tryd.t64, Tryd.type64, rfl, rfl, _, rfl, rfl, fun E => VR.constAV E (Value.agg #[Value.int IntKind.i64 0, Value.int IntKind.i64 0, Value.int IntKind.i64 0, Value.int IntKind.i64 0, Value.int IntKind.i64 0, Value.string { data := #[] }, Value.int IntKind.i64 0, Value.string { data := #[] }])⟩, (fun _ => ⟨by kernel_rfl, by kernel_rfl⟩), rfl⟩
theorem ok_72 : TI.OK Tryd.prog 72 ti72 := ⟨Tryd.underlying72, ⟨Tryd.t72, Tryd.type72, rfl, rfl, _, rfl, rfl, fun E => VR.constAV E (Value.agg #[Value.string { data := #[] }, Value.string { data := #[] }, Value.string { data := #[] }])⟩, (fun _ => ⟨by kernel_rfl, by kernel_rfl⟩), rfl⟩
theorem ok_73 : TI.OK Tryd.prog 73 ti73 := ⟨Tryd.underlying73, ⟨Tryd.t73, Tryd.type73, rfl, rfl, _, rfl, rfl, fun E => VR.constAV E (Value.agg #[Value.string { data := #[] }, Value.string { data := #[] }, Value.string { data := #[] }])⟩, (fun _ => ⟨by kernel_rfl, by kernel_rfl⟩), rfl⟩
theorem ok_75 : TI.OK Tryd.prog 75 ti75 := ⟨Tryd.underlying75, ⟨Tryd.t75, Tryd.type75, rfl, rfl, _, rfl, rfl, fun E => VR.constAV E (Value.slice none 0 0)⟩, (fun h => by cases h), rfl⟩
theorem ok_85 : TI.OK Tryd.prog 85 ti85 := ⟨Tryd.underlying85, ⟨Tryd.t85, Tryd.type85, rfl, rfl, _, rfl, rfl, fun E => VR.constAV E (Value.int IntKind.u64 0)⟩, (fun h => by cases h), rfl⟩
theorem ok_88 : TI.OK Tryd.prog 88 ti88 := ⟨Tryd.underlying88, ⟨Tryd.t88, Tryd.type88, rfl, rfl, _, rfl, rfl, fun E => VR.constAV E (Value.slice none 0 0)⟩, (fun h => by cases h), rfl⟩
theorem ok_89 : TI.OK Tryd.prog 89 ti89 := ⟨Tryd.underlying89, ⟨Tryd.t89, Tryd.type89, rfl, rfl, _, rfl, rfl, fun E => VR.constAV E (Value.agg #[Value.string { data := #[] }, Value.slice none 0 0])⟩, (fun h => by cases h), rfl⟩
theorem ok_90 : TI.OK Tryd.prog 90 ti90 := ⟨Tryd.underlying90, ⟨Tryd.t90, Tryd.type90, rfl, rfl, _, rfl, rfl, fun E => VR.constAV E (Value.agg #[Value.string { data := #[] }, Value.slice none 0 0])⟩, (fun h => by cases h), rfl⟩
theorem ok_91 : TI.OK Tryd.prog 91 ti91 := ⟨Tryd.underlying91, ⟨Tryd.t91, Tryd.type91, rfl, rfl, _, rfl, rfl, fun E => VR.constAV E (Value.agg #[Value.string { data := #[] }, Value.int IntKind.i64 0])⟩, (fun _ => ⟨by kernel_rfl, by kernel_rfl⟩), rfl⟩
theorem ok_92 : TI.OK Tryd.prog 92 ti92 := ⟨Tryd.underlying92, ⟨Tryd.t92, Tryd.type92, rfl, rfl, _, rfl, rfl, fun E => VR.constAV E (Value.agg #[Value.string { data := #[] }, Value.int IntKind.i64 0])⟩, (fun _ => ⟨by kernel_rfl, by kernel_rfl⟩), rfl⟩
theorem ok_94 : TI.OK Tryd.prog 94 ti94 := ⟨Tryd.underlying94, ⟨Tryd.t94, Tryd.type94, rfl, rfl, _, rfl, rfl, fun E => VR.constAV E (Value.slice none 0 0)⟩, (fun h => by cases h), rfl⟩
theorem ok_100 : TI.OK Tryd.prog 100 ti100 := ⟨Tryd.underlying100, ⟨Tryd.t100, Tryd.type100, rfl, rfl, _, rfl, rfl, fun E => VR.constAV E (Value.pointer none)⟩, (fun h => by cases h), rfl⟩
theorem ok_104 : TI.OK Tryd.prog 104 ti104 := ⟨Tryd.underlying104, ⟨Tryd.t104, Tryd.type104, rfl, rfl, _, rfl, rfl, fun E => VR.constAV E (Value.map none)⟩, (fun h => by cases h), rfl⟩
theorem ok_105 : TI.OK Tryd.prog 105 ti105 := ⟨Tryd.underlying105, ⟨Tryd.t105, Tryd.type105, rfl, rfl, _, rfl, rfl, fun E => VR.constAV E (Value.map none)⟩, (fun h => by cases h), rfl⟩
theorem ok_113 : TI.OK Tryd.prog 113 ti113 := ⟨Tryd.underlying113, ⟨Tryd.t113, Tryd.type113, rfl, rfl, _, rfl, rfl, fun E => VR.constAV E (Value.pointer none)⟩, (fun h => by cases h), rfl⟩
theorem ok_115 : TI.OK Tryd.prog 115 ti115 := ⟨Tryd.underlying115, ⟨Tryd.t115, Tryd.type115, rfl, rfl, _, rfl, rfl, fun E => VR.constAV E (Value.nilFunc)⟩, (fun h => by cases h), rfl⟩
theorem ok_116 : TI.OK Tryd.prog 116 ti116 := ⟨Tryd.underlying116, ⟨Tryd.t116, Tryd.type116, rfl, rfl, _, rfl, rfl, fun E => VR.constAV E (Value.int IntKind.u64 0)⟩, (fun h => by cases h), rfl⟩
theorem ok_117 : TI.OK Tryd.prog 117 ti117 := ⟨Tryd.underlying117, ⟨Tryd.t117, Tryd.type117, rfl, rfl, _, rfl, rfl, fun E => VR.constAV E (Value.slice none 0 0)⟩, (fun h => by cases h), rfl⟩
theorem ok_124 : TI.OK Tryd.prog 124 ti124 := ⟨Tryd.underlying124, ⟨Tryd.t124, Tryd.type124, rfl, rfl, _, rfl, rfl, fun E => VR.constAV E (Value.nilIface)⟩, (fun h => by cases h), rfl⟩
theorem ok_125 : TI.OK Tryd.prog 125 ti125 := ⟨Tryd.underlying125, ⟨Tryd.t125, Tryd.type125, rfl, rfl, _, rfl, rfl, fun E => VR.constAV E (Value.nilIface)⟩, (fun h => by cases h), rfl⟩
theorem ok_126 : TI.OK Tryd.prog 126 ti126 := ⟨Tryd.underlying126, ⟨Tryd.t126, Tryd.type126, rfl, rfl, _, rfl, rfl, fun E => VR.constAV E (Value.agg #[Value.nilIface])⟩, (fun h => by cases h), rfl⟩
theorem ok_127 : TI.OK Tryd.prog 127 ti127 := ⟨Tryd.underlying127, ⟨Tryd.t127, Tryd.type127, rfl, rfl, _, rfl, rfl, fun E => VR.constAV E (Value.agg #[Value.nilIface])⟩, (fun h => by cases h), rfl⟩
theorem ok_131 : TI.OK Tryd.prog 131 ti131 := ⟨Tryd.underlying131, ⟨Tryd.t131, Tryd.type131, rfl, rfl, _, rfl, rfl, fun E => VR.constAV E (Value.pointer none)⟩, (fun h => by cases h), rfl⟩
theorem ok_134 : TI.OK Tryd.prog 134 ti134 := ⟨Tryd.underlying134, ⟨Tryd.t134, Tryd.type134, rfl, rfl, _, rfl, rfl, fun E => VR.constAV E (Value.map none)⟩, (fun h => by cases h), rfl⟩
theorem ok_141 : TI.OK Tryd.prog 141 ti141 := ⟨Tryd.underlying141, ⟨Tryd.t141, Tryd.type141, rfl, rfl, _, rfl, rfl, fun E => VR.constAV E (Value.nilFunc)⟩, (fun h => by cases h), rfl⟩
theorem ok_143 : TI.OK Tryd.prog 143 ti143 := ⟨Tryd.underlying143, ⟨Tryd.t143, Tryd.type143, rfl, rfl, _, rfl, rfl, fun E => VR.constAV E (Value.pointer none)⟩, (fun h => by cases h), rfl⟩
theorem ok_155 : TI.OK Tryd.prog 155 ti155 := ⟨Tryd.underlying155, ⟨Tryd.t155, Tryd.type155, rfl, rfl, _, rfl, rfl, fun E => VR.constAV E (Value.slice none 0 0)⟩, (fun h => by cases h), rfl⟩
theorem ok_172 : TI.OK Tryd.prog 172 ti172 := ⟨Tryd.underlying172, ⟨Tryd.t172, Tryd.type172, rfl, rfl, _, rfl, rfl, fun E => VR.constAV E (Value.slice none 0 0)⟩, (fun h => by cases h), rfl⟩
theorem ok_173 : TI.OK Tryd.prog 173 ti173 := ⟨Tryd.underlying173, ⟨Tryd.t173, Tryd.type173, rfl, rfl, _, rfl, rfl, fun E => VR.constAV E (Value.agg #[Value.slice none 0 0, Value.slice none 0 0])⟩, (fun h => by cases h), rfl⟩
theorem ok_174 : TI.OK Tryd.prog 174 ti174 := ⟨Tryd.underlying174, ⟨Tryd.t174, Tryd.type174, rfl, rfl, _, rfl, rfl, fun E => VR.constAV E (Value.agg #[Value.slice none 0 0, Value.slice none 0 0])⟩, (fun h => by cases h), rfl⟩
theorem ok_175 : TI.OK Tryd.prog 175 ti175 := ⟨Tryd.underlying175, ⟨Tryd.t175, Tryd.type175, rfl, rfl, _, rfl, rfl, fun E => VR.constAV E (Value.agg #[Value.int IntKind.i64 0, Value.slice none 0 0])⟩, (fun h => by cases h), rfl⟩
theorem ok_176 : TI.OK Tryd.prog 176 ti176 := ⟨Tryd.underlying176, ⟨Tryd.t176, Tryd.type176, rfl, rfl, _, rfl, rfl, fun E => VR.constAV E (Value.agg #[Value.int IntKind.i64 0, Value.slice none 0 0])⟩, (fun h => by cases h), rfl⟩
theorem ok_182 : TI.OK Tryd.prog 182 ti182 := ⟨Tryd.underlying182, ⟨Tryd.t182, Tryd.type182, rfl, rfl, _, rfl, rfl, fun E => VR.constAV E (Value.int IntKind.i64 0)⟩, (fun h => by cases h), rfl⟩
theorem ok_183 : TI.OK Tryd.prog 183 ti183 := ⟨Tryd.underlying183, ⟨Tryd.t183, Tryd.type183, rfl, rfl, _, rfl, rfl, fun E => VR.constAV E (Value.string { data := #[] })⟩, (fun h => by cases h), rfl⟩
theorem ok_191 : TI.OK Tryd.prog 191 ti191 := ⟨Tryd.underlying191, ⟨Tryd.t191, Tryd.type191, rfl, rfl, _, rfl, rfl, fun E => VR.constAV E (Value.agg #[Value.int IntKind.u8 0, Value.int IntKind.u8 0])⟩, (fun _ => ⟨by kernel_rfl, by kernel_rfl⟩), rfl⟩
theorem ok_192 : TI.OK Tryd.prog 192 ti192 := ⟨Tryd.underlying192, ⟨Tryd.t192, Tryd.type192, rfl, rfl, _, rfl, rfl, fun E => VR.constAV E (Value.agg #[Value.int IntKind.u8 0, Value.int IntKind.u8 0])⟩, (fun _ => ⟨by kernel_rfl, by kernel_rfl⟩), rfl⟩
theorem ok_193 : TI.OK Tryd.prog 193 ti193 := ⟨Tryd.underlying193, ⟨Tryd.t193, Tryd.type193, rfl, rfl, _, rfl, rfl, fun E => VR.constAV E (Value.agg #[Value.int IntKind.u8 0, Value.int IntKind.u8 0, Value.int IntKind.u8 0, Value.int IntKind.u8 0, Value.int IntKind.u8 0, Value.int IntKind.u8 0, Value.int IntKind.u8 0, Value.int IntKind.u8 0, Value.int IntKind.u8 0, Value.int IntKind.u8 0, Value.int IntKind.u8 0, Value.int IntKind.u8 0, Value.int IntKind.u8 0, Value.int IntKind.u8 0, Value.int IntKind.u8 0, Value.int IntKind.u8 0, Value.int IntKind.u8 0, Value.int IntKind.u8 0, Value.int IntKind.u8 0, Value.int IntKind.u8 0, Value.int IntKind.u8 0, Value.int IntKind.u8 0, Value.int IntKind.u8 0, Value.int IntKind.u8 0, Value.int IntKind.u8 0, Value.int IntKind.u8 0, Value.int IntKind.u8 0, Value.int IntKind.u8 0, Value.int IntKind.u8 0, Value.int IntKind.u8 0, Value.int IntKind.u8 0, Value.int IntKind.u8 0])⟩, (fun _ => ⟨by kernel_rfl, by kernel_rfl⟩), rfl⟩
theorem allOK : AllOK Tryd.prog 0 tabL := ⟨ok_1, ok_2, ok_3, ok_4, ok_5, ok_9, ok_20, ok_21, ok_22, ok_23, ok_24, ok_25, ok_26, ok_27, ok_28, ok_29, ok_30, ok_31, ok_32, ok_33, ok_35, ok_36, ok_40, ok_41, ok_42, ok_49, ok_50, ok_51, ok_52, ok_59, ok_60, ok_61, ok_63, ok_64, ok_72, ok_73, ok_75, ok_85, ok_88, ok_89, ok_90, ok_91, ok_92, ok_94, ok_100, ok_104, ok_105, ok_113, ok_115, ok_116, ok_117, ok_124, ok_125, ok_126, ok_127, ok_131, ok_134, ok_141, ok_143, ok_155, ok_172, ok_173, ok_174, ok_175, ok_176, ok_182, ok_183, ok_191, ok_192, ok_193, trivial⟩
theorem tok : TOK Tryd.prog tab := tok_of allOK
theorem sz_1 : sized tab 1 = true := rfl
theorem sz_2 : sized tab 2 = true := rfl
theorem cd_2 : cellsD tab 20 2 = some [TypeDesc.int IntKind.i64] := rfl
theorem sz_3 : sized tab 3 = true := rfl
theorem cd_3 : cellsD tab 20 3 = some [TypeDesc.int IntKind.i64] := rfl
theorem sz_4 : sized tab 4 = true := rfl
theorem cd_4 : cellsD tab 20 4 = some [TypeDesc.bool] := rfl
theorem sz_5 : sized tab 5 = true := rfl
theorem cd_5 : cellsD tab 20 5 = some [TypeDesc.int IntKind.u8] := rfl
theorem sz_9 : sized tab 9 = true := rfl
theorem cd_9 : cellsD tab 20 9 = some [TypeDesc.string] := rfl
theorem len_9 (s : List UInt8) (σ : Store) : evLen tab 9 (.str s) σ = some (.int .i64 s.length) := rfl
theorem sz_20 : sized tab 20 = true := rfl
theorem sz_21 : sized tab 21 = true := rfl
theorem cd_21 : cellsD tab 20 21 = some [TypeDesc.int IntKind.i32] := rfl
theorem sz_22 : sized tab 22 = true := rfl
theorem len_22 (nl : Bool) (cs : List AV) (len : Nat) (t : Bool) (σ : Store) : evLen tab 22 (.ds nl cs len t) σ = some (.int .i64 len) := rfl
theorem leno_22 (nl : Bool) (sz id ver off len : Nat) (t : Bool) (σ : Store) : evLen tab 22 (.os nl sz id ver off len t) σ = some (.int .i64 len) := rfl
theorem sz_23 : sized tab 23 = true := rfl
theorem len_23 (nl : Bool) (cs : List AV) (len : Nat) (t : Bool) (σ : Store) : evLen tab 23 (.ds nl cs len t) σ = some (.int .i64 len) := rfl
theorem leno_23 (nl : Bool) (sz id ver off len : Nat) (t : Bool) (σ : Store) : evLen tab 23 (.os nl sz id ver off len t) σ = some (.int .i64 len) := rfl
theorem sz_24 : sized tab 24 = true := rfl
theorem len_24 (nl : Bool) (cs : List AV) (len : Nat) (t : Bool) (σ : Store) : evLen tab 24 (.ds nl cs len t) σ = some (.int .i64 len) := rfl
theorem leno_24 (nl : Bool) (sz id ver off len : Nat) (t : Bool) (σ : Store) : evLen tab 24 (.os nl sz id ver off len t) σ = some (.int .i64 len) := rfl
theorem sz_25 : sized tab 25 = true := rfl
theorem fao_25_0 (id ver off : Nat) : evFieldAddr tab 25 (.op id ver off) 0 = some (.op id ver (off + 0)) := rfl
theorem fad_25_0 (cs : List AV) (off : Nat) : evFieldAddr tab 25 (.dp cs off) 0 = some (.dp cs (off + 0)) := rfl
theorem fao_25_1 (id ver off : Nat) : evFieldAddr tab 25 (.op id ver off) 1 = some (.op id ver (off + 1)) := rfl
theorem fad_25_1 (cs : List AV) (off : Nat) : evFieldAddr tab 25 (.dp cs off) 1 = some (.dp cs (off + 1)) := rfl
theorem fao_25_2 (id ver off : Nat) : evFieldAddr tab 25 (.op id ver off) 2 = some (.op id ver (off + 2)) := rfl
theorem fad_25_2 (cs : List AV) (off : Nat) : evFieldAddr tab 25 (.dp cs off) 2 = some (.dp cs (off + 2)) := rfl
theorem sz_26 : sized tab 26 = true := rfl
theorem fao_26_0 (id ver off : Nat) : evFieldAddr tab 26 (.op id ver off) 0 = some (.op id ver (off + 0)) := rfl
theorem fad_26_0 (cs : List AV) (off : Nat) : evFieldAddr tab 26 (.dp cs off) 0 = some (.dp cs (off + 0)) := rfl
theorem fao_26_1 (id ver off : Nat) : evFieldAddr tab 26 (.op id ver off) 1 = some (.op id ver (off + 1)) := rfl
theorem fad_26_1 (cs : List AV) (off : Nat) : evFieldAddr tab 26 (.dp cs off) 1 = some (.dp cs (off + 1)) := rfl
theorem fao_26_2 (id ver off : Nat) : evFieldAddr tab 26 (.op id ver off) 2 = some (.op id ver (off + 2)) := rfl
theorem fad_26_2 (cs : List AV) (off : Nat) : evFieldAddr tab 26 (.dp cs off) 2 = some (.dp cs (off + 2)) := rfl
theorem sz_27 : sized tab 27 = true := rfl
theorem len_27 (nl : Bool) (cs : List AV) (len : Nat) (t : Bool) (σ : Store) : evLen tab 27 (.ds nl cs len t) σ = some (.int .i64 len) := rfl
theorem leno_27 (nl : Bool) (sz id ver off len : Nat) (t : Bool) (σ : Store) : evLen tab 27 (.os nl sz id ver off len t) σ = some (.int .i64 len) := rfl
theorem sz_28 : sized tab 28 = true := rfl
theorem len_28 (nl : Bool) (cs : List AV) (len : Nat) (t : Bool) (σ : Store) : evLen tab 28 (.ds nl cs len t) σ = some (.int .i64 len) := rfl
theorem leno_28 (nl : Bool) (sz id ver off len : Nat) (t : Bool) (σ : Store) : evLen tab 28 (.os nl sz id ver off len t) σ = some (.int .i64 len) := rfl
theorem sz_29 : sized tab 29 = true := rfl
theorem len_29 (nl : Bool) (cs : List AV) (len : Nat) (t : Bool) (σ : Store) : evLen tab 29 (.ds nl cs len t) σ = some (.int .i64 len) := rfl
theorem leno_29 (nl : Bool) (sz id ver off len : Nat) (t : Bool) (σ : Store) : evLen tab 29 (.os nl sz id ver off len t) σ = some (.int .i64 len) := rfl
theorem sz_30 : sized tab 30 = true := rfl
theorem fao_30_0 (id ver off : Nat) : evFieldAddr tab 30 (.op id ver off) 0 = some (.op id ver (off + 0)) := rfl
theorem fad_30_0 (cs : List AV) (off : Nat) : evFieldAddr tab 30 (.dp cs off) 0 = some (.dp cs (off + 0)) := rfl
theorem fao_30_1 (id ver off : Nat) : evFieldAddr tab 30 (.op id ver off) 1 = some (.op id ver (off + 1)) := rfl
theorem fad_30_1 (cs : List AV) (off : Nat) : evFieldAddr tab 30 (.dp cs off) 1 = some (.dp cs (off + 1)) := rfl
theorem fao_30_2 (id ver off : Nat) : evFieldAddr tab 30 (.op id ver off) 2 = some (.op id ver (off + 2)) := rfl
theorem fad_30_2 (cs : List AV) (off : Nat) : evFieldAddr tab 30 (.dp cs off) 2 = some (.dp cs (off + 2)) := rfl
theorem fao_30_3 (id ver off : Nat) : evFieldAddr tab 30 (.op id ver off) 3 = some (.op id ver (off + 3)) := rfl
theorem fad_30_3 (cs : List AV) (off : Nat) : evFieldAddr tab 30 (.dp cs off) 3 = some (.dp cs (off + 3)) := rfl
theorem sz_31 : sized tab 31 = true := rfl
theorem fao_31_0 (id ver off : Nat) : evFieldAddr tab 31 (.op id ver off) 0 = some (.op id ver (off + 0)) := rfl
theorem fad_31_0 (cs : List AV) (off : Nat) : evFieldAddr tab 31 (.dp cs off) 0 = some (.dp cs (off + 0)) := rfl
theorem fao_31_1 (id ver off : Nat) : evFieldAddr tab 31 (.op id ver off) 1 = some (.op id ver (off + 1)) := rfl
theorem fad_31_1 (cs : List AV) (off : Nat) : evFieldAddr tab 31 (.dp cs off) 1 = some (.dp cs (off + 1)) := rfl
theorem fao_31_2 (id ver off : Nat) : evFieldAddr tab 31 (.op id ver off) 2 = some (.op id ver (off + 2)) := rfl
theorem fad_31_2 (cs : List AV) (off : Nat) : evFieldAddr tab 31 (.dp cs off) 2 = some (.dp cs (off + 2)) := rfl
theorem fao_31_3 (id ver off : Nat) : evFieldAddr tab 31 (.op id ver off) 3 = some (.op id ver (off + 3)) := rfl
theorem fad_31_3 (cs : List AV) (off : Nat) : evFieldAddr tab 31 (.dp cs off) 3 = some (.dp cs (off + 3)) := rfl
theorem sz_32 : sized tab 32 = true := rfl
theorem cd_32 : cellsD tab 20 32 = some [TypeDesc.int IntKind.i64, TypeDesc.int IntKind.i64, TypeDesc.int IntKind.i64, TypeDesc.string] := rfl
theorem fao_32_0 (id ver off : Nat) : evFieldAddr tab 32 (.op id ver off) 0 = some (.op id ver (off + 0)) := rfl
theorem fad_32_0 (cs : List AV) (off : Nat) : evFieldAddr tab 32 (.dp cs off) 0 = some (.dp cs (off + 0)) := rfl
theorem fao_32_1 (id ver off : Nat) : evFieldAddr tab 32 (.op id ver off) 1 = some (.op id ver (off + 1)) := rfl
theorem fad_32_1 (cs : List AV) (off : Nat) : evFieldAddr tab 32 (.dp cs off) 1 = some (.dp cs (off + 1)) := rfl
theorem fao_32_2 (id ver off : Nat) : evFieldAddr tab 32 (.op id ver off) 2 = some (.op id ver (off + 2)) := rfl
theorem fad_32_2 (cs : List AV) (off : Nat) : evFieldAddr tab 32 (.dp cs off) 2 = some (.dp cs (off + 2)) := rfl
theorem fao_32_3 (id ver off : Nat) : evFieldAddr tab 32 (.op id ver off) 3 = some (.op id ver (off + 3)) := rfl
theorem fad_32_3 (cs : List AV) (off : Nat) : evFieldAddr tab 32 (.dp cs off) 3 = some (.dp cs (off + 3)) := rfl
theorem sz_33 : sized tab 33 = true := rfl
theorem cd_33 : cellsD tab 20 33 = some [TypeDesc.int IntKind.i64, TypeDesc.int IntKind.i64, TypeDesc.int IntKind.i64, TypeDesc.string] := rfl
theorem fao_33_0 (id ver off : Nat) : evFieldAddr tab 33 (.op id ver off) 0 = some (.op id ver (off + 0)) := rfl
theorem fad_33_0 (cs : List AV) (off : Nat) : evFieldAddr tab 33 (.dp cs off) 0 = some (.dp cs (off + 0)) := rfl
theorem fao_33_1 (id ver off : Nat) : evFieldAddr tab 33 (.op id ver off) 1 = some (.op id ver (off + 1)) := rfl
theorem fad_33_1 (cs : List AV) (off : Nat) : evFieldAddr tab 33 (.dp cs off) 1 = some (.dp cs (off + 1)) := rfl
theorem fao_33_2 (id ver off : Nat) : evFieldAddr tab 33 (.op id ver off) 2 = some (.op id ver (off + 2)) := rfl
theorem fad_33_2 (cs : List AV) (off : Nat) : evFieldAddr tab 33 (.dp cs off) 2 = some (.dp cs (off + 2)) := rfl
theorem fao_33_3 (id ver off : Nat) : evFieldAddr tab 33 (.op id ver off) 3 = some (.op id ver (off + 3)) := rfl
theorem fad_33_3 (cs : List AV) (off : Nat) : evFieldAddr tab 33 (.dp cs off) 3 = some (.dp cs (off + 3)) := rfl
theorem sz_35 : sized tab 35 = true := rfl
theorem len_35 (nl : Bool) (cs : List AV) (len : Nat) (t : Bool) (σ : Store) : evLen tab 35 (.ds nl cs len t) σ = some (.int .i64 len) := rfl
theorem leno_35 (nl : Bool) (sz id ver off len : Nat) (t : Bool) (σ : Store) : evLen tab 35 (.os nl sz id ver off len t) σ = some (.int .i64 len) := rfl
theorem sz_36 : sized tab 36 = true := rfl
theorem cd_36 : cellsD tab 20 36 = some [TypeDesc.int IntKind.i64] := rfl
theorem sz_40 : sized tab 40 = true := rfl
theorem len_40 (nl : Bool) (cs : List AV) (len : Nat) (t : Bool) (σ : Store) : evLen tab 40 (.ds nl cs len t) σ = some (.int .i64 len) := rfl
theorem leno_40 (nl : Bool) (sz id ver off len : Nat) (t : Bool) (σ : Store) : evLen tab 40 (.os nl sz id ver off len t) σ = some (.int .i64 len) := rfl
theorem sz_41 : sized tab 41 = true := rfl
theorem fao_41_0 (id ver off : Nat) : evFieldAddr tab 41 (.op id ver off) 0 = some (.op id ver (off + 0)) := rfl
theorem fad_41_0 (cs : List AV) (off : Nat) : evFieldAddr tab 41 (.dp cs off) 0 = some (.dp cs (off + 0)) := rfl
theorem fao_41_1 (id ver off : Nat) : evFieldAddr tab 41 (.op id ver off) 1 = some (.op id ver (off + 1)) := rfl
theorem fad_41_1 (cs : List AV) (off : Nat) : evFieldAddr tab 41 (.dp cs off) 1 = some (.dp cs (off + 1)) := rfl
theorem fao_41_2 (id ver off : Nat) : evFieldAddr tab 41 (.op id ver off) 2 = some (.op id ver (off + 2)) := rfl
theorem fad_41_2 (cs : List AV) (off : Nat) : evFieldAddr tab 41 (.dp cs off) 2 = some (.dp cs (off + 2)) := rfl
theorem fao_41_3 (id ver off : Nat) : evFieldAddr tab 41 (.op id ver off) 3 = some (.op id ver (off + 3)) := rfl
theorem fad_41_3 (cs : List AV) (off : Nat) : evFieldAddr tab 41 (.dp cs off) 3 = some (.dp cs (off + 3)) := rfl
theorem fao_41_4 (id ver off : Nat) : evFieldAddr tab 41 (.op id ver off) 4 = some (.op id ver (off + 4)) := rfl
theorem fad_41_4 (cs : List AV) (off : Nat) : evFieldAddr tab 41 (.dp cs off) 4 = some (.dp cs (off + 4)) := rfl
theorem sz_42 : sized tab 42 = true := rfl
theorem fao_42_0 (id ver off : Nat) : evFieldAddr tab 42 (.op id ver off) 0 = some (.op id ver (off + 0)) := rfl
theorem fad_42_0 (cs : List AV) (off : Nat) : evFieldAddr tab 42 (.dp cs off) 0 = some (.dp cs (off + 0)) := rfl
theorem fao_42_1 (id ver off : Nat) : evFieldAddr tab 42 (.op id ver off) 1 = some (.op id ver (off + 1)) := rfl
theorem fad_42_1 (cs : List AV) (off : Nat) : evFieldAddr tab 42 (.dp cs off) 1 = some (.dp cs (off + 1)) := rfl
theorem fao_42_2 (id ver off : Nat) : evFieldAddr tab 42 (.op id ver off) 2 = some (.op id ver (off + 2)) := rfl
theorem fad_42_2 (cs : List AV) (off : Nat) : evFieldAddr tab 42 (.dp cs off) 2 = some (.dp cs (off + 2)) := rfl
theorem fao_42_3 (id ver off : Nat) : evFieldAddr tab 42 (.op id ver off) 3 = some (.op id ver (off + 3)) := rfl
theorem fad_42_3 (cs : List AV) (off : Nat) : evFieldAddr tab 42 (.dp cs off) 3 = some (.dp cs (off + 3)) := rfl
theorem fao_42_4 (id ver off : Nat) : evFieldAddr tab 42 (.op id ver off) 4 = some (.op id ver (off + 4)) := rfl
theorem fad_42_4 (cs : List AV) (off : Nat) : evFieldAddr tab 42 (.dp cs off) 4 = some (.dp cs (off + 4)) := rfl
theorem sz_49 : sized tab 49 = true := rfl
theorem cd_49 : cellsD tab 20 49 = some [TypeDesc.int IntKind.i64, TypeDesc.string] := rfl
theorem fao_49_0 (id ver off : Nat) : evFieldAddr tab 49 (.op id ver off) 0 = some (.op id ver (off + 0)) := rfl
theorem fad_49_0 (cs : List AV) (off : Nat) : evFieldAddr tab 49 (.dp cs off) 0 = some (.dp cs (off + 0)) := rfl
theorem fao_49_1 (id ver off : Nat) : evFieldAddr tab 49 (.op id ver off) 1 = some (.op id ver (off + 1)) := rfl
theorem fad_49_1 (cs : List AV) (off : Nat) : evFieldAddr tab 49 (.dp cs off) 1 = some (.dp cs (off + 1)) := rfl
theorem sz_50 : sized tab 50 = true := rfl
theorem cd_50 : cellsD tab 20 50 = some [TypeDesc.int IntKind.i64, TypeDesc.string] := rfl
theorem fao_50_0 (id ver off : Nat) : evFieldAddr tab 50 (.op id ver off) 0 = some (.op id ver (off + 0)) := rfl
theorem fad_50_0 (cs : List AV) (off : Nat) : evFieldAddr tab 50 (.dp cs off) 0 = some (.dp cs (off + 0)) := rfl
theorem fao_50_1 (id ver off : Nat) : evFieldAddr tab 50 (.op id ver off) 1 = some (.op id ver (off + 1)) := rfl
theorem fad_50_1 (cs : List AV) (off : Nat) : evFieldAddr tab 50 (.dp cs off) 1 = some (.dp cs (off + 1)) := rfl
theorem sz_51 : sized tab 51 = true := rfl
theorem cd_51 : cellsD tab 20 51 = some [TypeDesc.string, TypeDesc.int IntKind.i64, TypeDesc.int IntKind.i64, TypeDesc.int IntKind.i64, TypeDesc.string] := rfl
theorem fao_51_0 (id ver off : Nat) : evFieldAddr tab 51 (.op id ver off) 0 = some (.op id ver (off + 0)) := rfl
theorem fad_51_0 (cs : List AV) (off : Nat) : evFieldAddr tab 51 (.dp cs off) 0 = some (.dp cs (off + 0)) := rfl
theorem fao_51_1 (id ver off : Nat) : evFieldAddr tab 51 (.op id ver off) 1 = some (.op id ver (off + 1)) := rfl
theorem fad_51_1 (cs : List AV) (off : Nat) : evFieldAddr tab 51 (.dp cs off) 1 = some (.dp cs (off + 1)) := rfl
theorem fao_51_2 (id ver off : Nat) : evFieldAddr tab 51 (.op id ver off) 2 = some (.op id ver (off + 2)) := rfl
theorem fad_51_2 (cs : List AV) (off : Nat) : evFieldAddr tab 51 (.dp cs off) 2 = some (.dp cs (off + 2)) := rfl
theorem fao_51_3 (id ver off : Nat) : evFieldAddr tab 51 (.op id ver off) 3 = some (.op id ver (off + 3)) := rfl
theorem fad_51_3 (cs : List AV) (off : Nat) : evFieldAddr tab 51 (.dp cs off) 3 = some (.dp cs (off + 3)) := rfl
theorem sz_52 : sized tab 52 = true := rfl
theorem cd_52 : cellsD tab 20 52 = some [TypeDesc.string, TypeDesc.int IntKind.i64, TypeDesc.int IntKind.i64, TypeDesc.int IntKind.i64, TypeDesc.string] := rfl
theorem fao_52_0 (id ver off : Nat) : evFieldAddr tab 52 (.op id ver off) 0 = some (.op id ver (off + 0)) := rfl
theorem fad_52_0 (cs : List AV) (off : Nat) : evFieldAddr tab 52 (.dp cs off) 0 = some (.dp cs (off + 0)) := rfl
theorem fao_52_1 (id ver off : Nat) : evFieldAddr tab 52 (.op id ver off) 1 = some (.op id ver (off + 1)) := rfl
theorem fad_52_1 (cs : List AV) (off : Nat) : evFieldAddr tab 52 (.dp cs off) 1 = some (.dp cs (off + 1)) := rfl
theorem fao_52_2 (id ver off : Nat) : evFieldAddr tab 52 (.op id ver off) 2 = some (.op id ver (off + 2)) := rfl
theorem fad_52_2 (cs : List AV) (off : Nat) : evFieldAddr tab 52 (.dp cs off) 2 = some (.dp cs (off + 2)) := rfl
theorem fao_52_3 (id ver off : Nat) : evFieldAddr tab 52 (.op id ver off) 3 = some (.op id ver (off + 3)) := rfl
theorem fad_52_3 (cs : List AV) (off : Nat) : evFieldAddr tab 52 (.dp cs off) 3 = some (.dp cs (off + 3)) := rfl
theorem sz_59 : sized tab 59 = true := rfl
theorem len_59 (nl : Bool) (cs : List AV) (len : Nat) (t : Bool) (σ : Store) : evLen tab 59 (.ds nl cs len t) σ = some (.int .i64 len) := rfl
theorem leno_59 (nl : Bool) (sz id ver off len : Nat) (t : Bool) (σ : Store) : evLen tab 59 (.os nl sz id ver off len t) σ = some (.int .i64 len) := rfl
theorem sz_60 : sized tab 60 = true := rfl
theorem fao_60_0 (id ver off : Nat) : evFieldAddr tab 60 (.op id ver off) 0 = some (.op id ver (off + 0)) := rfl
theorem fad_60_0 (cs : List AV) (off : Nat) : evFieldAddr tab 60 (.dp cs off) 0 = some (.dp cs (off + 0)) := rfl
theorem fao_60_1 (id ver off : Nat) : evFieldAddr tab 60 (.op id ver off) 1 = some (.op id ver (off + 1)) := rfl
theorem fad_60_1 (cs : List AV) (off : Nat) : evFieldAddr tab 60 (.dp cs off) 1 = some (.dp cs (off + 1)) := rfl
theorem sz_61 : sized tab 61 = true := rfl
theorem fao_61_0 (id ver off : Nat) : evFieldAddr tab 61 (.op id ver off) 0 = some (.op id ver (off + 0)) := rfl
theorem fad_61_0 (cs : List AV) (off : Nat) : evFieldAddr tab 61 (.dp cs off) 0 = some (.dp cs (off + 0)) := rfl
theorem fao_61_1 (id ver off : Nat) : evFieldAddr tab 61 (.op id ver off) 1 = some (.op id ver (off + 1)) := rfl
theorem fad_61_1 (cs : List AV) (off : Nat) : evFieldAddr tab 61 (.dp cs off) 1 = some (.dp cs (off + 1)) := rfl
theorem sz_63 : sized tab 63 = true := rfl
theorem cd_63 : cellsD tab 20 63 = some [TypeDesc.int IntKind.i64, TypeDesc.int IntKind.i64, TypeDesc.int IntKind.i64, TypeDesc.int IntKind.i64, TypeDesc.int IntKind.i64, TypeDesc.string, TypeDesc.int IntKind.i64, TypeDesc.string] := rfl
theorem fao_63_0 (id ver off : Nat) : evFieldAddr tab 63 (.op id ver off) 0 = some (.op id ver (off + 0)) := rfl
theorem fad_63_0 (cs : List AV) (off : Nat) : evFieldAddr tab 63 (.dp cs off) 0 = some (.dp cs (off + 0)) := rfl
theorem fao_63_1 (id ver off : Nat) : evFieldAddr tab 63 (.op id ver off) 1 = some (.op id ver (off + 1)) := rfl
theorem fad_63_1 (cs : List AV) (off : Nat) : evFieldAddr tab 63 (.dp cs off) 1 = some (.dp cs (off + 1)) := rfl
theorem fao_63_2 (id ver off : Nat) : evFieldAddr tab 63 (.op id ver off) 2 = some (.op id ver (off + 2)) := rfl
theorem fad_63_2 (cs : List AV) (off : Nat) : evFieldAddr tab 63 (.dp cs off) 2 = some (.dp cs (off + 2)) := rfl
theorem fao_63_3 (id ver off : Nat) : evFieldAddr tab 63 (.op id ver off) 3 = some (.op id ver (off + 3)) := rfl
theorem fad_63_3 (cs : List AV) (off : Nat) : evFieldAddr tab 63 (.dp cs off) 3 = some (.dp cs (off + 3)) := rfl
theorem fao_63_4 (id ver off : Nat) : evFieldAddr tab 63 (.op id ver off) 4 = some (.op id ver (off + 4)) := rfl
theorem fad_63_4 (cs : List AV) (off : Nat) : evFieldAddr tab 63 (.dp cs off) 4 = some (.dp cs (off + 4)) := rfl
theorem fao_63_5 (id ver off : Nat) : evFieldAddr tab 63 (.op id ver off) 5 = some (.op id ver (off + 5)) := rfl
theorem fad_63_5 (cs : List AV) (off : Nat) : evFieldAddr tab 63 (.dp cs off) 5 = some (.dp cs (off + 5)) := rfl
theorem fao_63_6 (id ver off : Nat) : evFieldAddr tab 63 (.op id ver off) 6 = some (.op id ver (off + 6)) := rfl
theorem fad_63_6 (cs : List AV) (off : Nat) : evFieldAddr tab 63 (.dp cs off) 6 = some (.dp cs (off + 6)) := rfl
theorem fao_63_7 (id ver off : Nat) : evFieldAddr tab 63 (.op id ver off) 7 = some (.op id ver (off + 7)) := rfl
theorem fad_63_7 (cs : List AV) (off : Nat) : evFieldAddr tab 63 (.dp cs off) 7 = some (.dp cs (off + 7)) := rfl
theorem sz_64 : sized tab 64 = true := rfl
theorem cd_64 : cellsD tab 20 64 = some [TypeDesc.int IntKind.i64, TypeDesc.int IntKind.i64, TypeDesc.int IntKind.i64, TypeDesc.int IntKind.i64, TypeDesc.int IntKind.i64, TypeDesc.string, TypeDesc.int IntKind.i64, TypeDesc.string] := rfl
theorem fao_64_0 (id ver off : Nat) : evFieldAddr tab 64 (.op id ver off) 0 = some (.op id ver (off + 0)) := rfl
theorem fad_64_0 (cs : List AV) (off : Nat) : evFieldAddr tab 64 (.dp cs off) 0 = some (.dp cs (off + 0)) := rfl
theorem fao_64_1 (id ver off : Nat) : evFieldAddr tab 64 (.op id ver off) 1 = some (.op id ver (off + 1)) := rfl
theorem fad_64_1 (cs : List AV) (off : Nat) : evFieldAddr tab 64 (.dp cs off) 1 = some (.dp cs (off + 1)) := rfl
theorem fao_64_2 (id ver off : Nat) : evFieldAddr tab 64 (.op id ver off) 2 = some (.op id ver (off + 2)) := rfl
theorem fad_64_2 (cs : List AV) (off : Nat) : evFieldAddr tab 64 (.dp cs off) 2 = some (.dp cs (off + 2)) := rfl
theorem fao_64_3 (id ver off : Nat) : evFieldAddr tab 64 (.op id ver off) 3 = some (.op id ver (off + 3)) := rfl
theorem fad_64_3 (cs : List AV) (off : Nat) : evFieldAddr tab 64 (.dp cs off) 3 = some (.dp cs (off + 3)) := rfl
theorem fao_64_4 (id ver off : Nat) : evFieldAddr tab 64 (.op id ver off) 4 = some (.op id ver (off + 4)) := rfl
theorem fad_64_4 (cs : List AV) (off : Nat) : evFieldAddr tab 64 (.dp cs off) 4 = some (.dp cs (off + 4)) := rfl
theorem fao_64_5 (id ver off : Nat) : evFieldAddr tab 64 (.op id ver off) 5 = some (.op id ver (off + 5)) := rfl
theorem fad_64_5 (cs : List AV) (off : Nat) : evFieldAddr tab 64 (.dp cs off) 5 = some (.dp cs (off + 5)) := rfl
theorem fao_64_6 (id ver off : Nat) : evFieldAddr tab 64 (.op id ver off) 6 = some (.op id ver (off + 6)) := rfl
theorem fad_64_6 (cs : List AV) (off : Nat) : evFieldAddr tab 64 (.dp cs off) 6 = some (.dp cs (off + 6)) := rfl
theorem fao_64_7 (id ver off : Nat) : evFieldAddr tab 64 (.op id ver off) 7 = some (.op id ver (off + 7)) := rfl
theorem fad_64_7 (cs : List AV) (off : Nat) : evFieldAddr tab 64 (.dp cs off) 7 = some (.dp cs (off + 7)) := rfl
theorem sz_72 : sized tab 72 = true := rfl
theorem cd_72 : cellsD tab 20 72 = some [TypeDesc.string, TypeDesc.string, TypeDesc.string] := rfl
theorem fao_72_0 (id ver off : Nat) : evFieldAddr tab 72 (.op id ver off) 0 = some (.op id ver (off + 0)) := rfl
theorem fad_72_0 (cs : List AV) (off : Nat) : evFieldAddr tab 72 (.dp cs off) 0 = some (.dp cs (off + 0)) := rfl
theorem fao_72_1 (id ver off : Nat) : evFieldAddr tab 72 (.op id ver off) 1 = some (.op id ver (off + 1)) := rfl
theorem fad_72_1 (cs : List AV) (off : Nat) : evFieldAddr tab 72 (.dp cs off) 1 = some (.dp cs (off + 1)) := rfl
theorem fao_72_2 (id ver off : Nat) : evFieldAddr tab 72 (.op id ver off) 2 = some (.op id ver (off + 2)) := rfl
theorem fad_72_2 (cs : List AV) (off : Nat) : evFieldAddr tab 72 (.dp cs off) 2 = some (.dp cs (off + 2)) := rfl
theorem sz_73 : sized tab 73 = true := rfl
theorem cd_73 : cellsD tab 20 73 = some [TypeDesc.string, TypeDesc.string, TypeDesc.string] := rfl
theorem fao_73_0 (id ver off : Nat) : evFieldAddr tab 73 (.op id ver off) 0 = some (.op id ver (off + 0)) := rfl
theorem fad_73_0 (cs : List AV) (off : Nat) : evFieldAddr tab 73 (.dp cs off) 0 = some (.dp cs (off + 0)) := rfl
theorem fao_73_1 (id ver off : Nat) : evFieldAddr tab 73 (.op id ver off) 1 = some (.op id ver (off + 1)) := rfl
theorem fad_73_1 (cs : List AV) (off : Nat) : evFieldAddr tab 73 (.dp cs off) 1 = some (.dp cs (off + 1)) := rfl
theorem fao_73_2 (id ver off : Nat) : evFieldAddr tab 73 (.op id ver off) 2 = some (.op id ver (off + 2)) := rfl
theorem fad_73_2 (cs : List AV) (off : Nat) : evFieldAddr tab 73 (.dp cs off) 2 = some (.dp cs (off + 2)) := rfl
theorem sz_75 : sized tab 75 = true := rfl
theorem len_75 (nl : Bool) (cs : List AV) (len : Nat) (t : Bool) (σ : Store) : evLen tab 75 (.ds nl cs len t) σ = some (.int .i64 len) := rfl
theorem leno_75 (nl : Bool) (sz id ver off len : Nat) (t : Bool) (σ : Store) : evLen tab 75 (.os nl sz id ver off len t) σ = some (.int .i64 len) := rfl
theorem sz_85 : sized tab 85 = true := rfl
theorem cd_85 : cellsD tab 20 85 = some [TypeDesc.int IntKind.u64] := rfl
theorem sz_88 : sized tab 88 = true := rfl
theorem len_88 (nl : Bool) (cs : List AV) (len : Nat) (t : Bool) (σ : Store) : evLen tab 88 (.ds nl cs len t) σ = some (.int .i64 len) := rfl
theorem leno_88 (nl : Bool) (sz id ver off len : Nat) (t : Bool) (σ : Store) : evLen tab 88 (.os nl sz id ver off len t) σ = some (.int .i64 len) := rfl
theorem sz_89 : sized tab 89 = true := rfl
theorem fao_89_0 (id ver off : Nat) : evFieldAddr tab 89 (.op id ver off) 0 = some (.op id ver (off + 0)) := rfl
theorem fad_89_0 (cs : List AV) (off : Nat) : evFieldAddr tab 89 (.dp cs off) 0 = some (.dp cs (off + 0)) := rfl
theorem fao_89_1 (id ver off : Nat) : evFieldAddr tab 89 (.op id ver off) 1 = some (.op id ver (off + 1)) := rfl
theorem fad_89_1 (cs : List AV) (off : Nat) : evFieldAddr tab 89 (.dp cs off) 1 = some (.dp cs (off + 1)) := rfl
theorem sz_90 : sized tab 90 = true := rfl
theorem fao_90_0 (id ver off : Nat) : evFieldAddr tab 90 (.op id ver off) 0 = some (.op id ver (off + 0)) := rfl
theorem fad_90_0 (cs : List AV) (off : Nat) : evFieldAddr tab 90 (.dp cs off) 0 = some (.dp cs (off + 0)) := rfl
theorem fao_90_1 (id ver off : Nat) : evFieldAddr tab 90 (.op id ver off) 1 = some (.op id ver (off + 1)) := rfl
theorem fad_90_1 (cs : List AV) (off : Nat) : evFieldAddr tab 90 (.dp cs off) 1 = some (.dp cs (off + 1)) := rfl
theorem sz_91 : sized tab 91 = true := rfl
theorem cd_91 : cellsD tab 20 91 = some [TypeDesc.string, TypeDesc.int IntKind.i64] := rfl
theorem fao_91_0 (id ver off : Nat) : evFieldAddr tab 91 (.op id ver off) 0 = some (.op id ver (off + 0)) := rfl
theorem fad_91_0 (cs : List AV) (off : Nat) : evFieldAddr tab 91 (.dp cs off) 0 = some (.dp cs (off + 0)) := rfl
theorem fao_91_1 (id ver off : Nat) : evFieldAddr tab 91 (.op id ver off) 1 = some (.op id ver (off + 1)) := rfl
theorem fad_91_1 (cs : List AV) (off : Nat) : evFieldAddr tab 91 (.dp cs off) 1 = some (.dp cs (off + 1)) := rfl
theorem sz_92 : sized tab 92 = true := rfl
theorem cd_92 : cellsD tab 20 92 = some [TypeDesc.string, TypeDesc.int IntKind.i64] := rfl
theorem fao_92_0 (id ver off : Nat) : evFieldAddr tab 92 (.op id ver off) 0 = some (.op id ver (off + 0)) := rfl
theorem fad_92_0 (cs : List AV) (off : Nat) : evFieldAddr tab 92 (.dp cs off) 0 = some (.dp cs (off + 0)) := rfl
theorem fao_92_1 (id ver off : Nat) : evFieldAddr tab 92 (.op id ver off) 1 = some (.op id ver (off + 1)) := rfl
theorem fad_92_1 (cs : List AV) (off : Nat) : evFieldAddr tab 92 (.dp cs off) 1 = some (.dp cs (off + 1)) := rfl
theorem sz_94 : sized tab 94 = true := rfl
theorem len_94 (nl : Bool) (cs : List AV) (len : Nat) (t : Bool) (σ : Store) : evLen tab 94 (.ds nl cs len t) σ = some (.int .i64 len) := rfl
theorem leno_94 (nl : Bool) (sz id ver off len : Nat) (t : Bool) (σ : Store) : evLen tab 94 (.os nl sz id ver off len t) σ = some (.int .i64 len) := rfl
theorem sz_100 : sized tab 100 = true := rfl
theorem sz_104 : sized tab 104 = true := rfl
theorem sz_105 : sized tab 105 = true := rfl
theorem sz_113 : sized tab 113 = true := rfl
theorem sz_115 : sized tab 115 = true := rfl
theorem sz_116 : sized tab 116 = true := rfl
theorem cd_116 : cellsD tab 20 116 = some [TypeDesc.int IntKind.u64] := rfl
theorem sz_117 : sized tab 117 = true := rfl
theorem len_117 (nl : Bool) (cs : List AV) (len : Nat) (t : Bool) (σ : Store) : evLen tab 117 (.ds nl cs len t) σ = some (.int .i64 len) := rfl
theorem leno_117 (nl : Bool) (sz id ver off len : Nat) (t : Bool) (σ : Store) : evLen tab 117 (.os nl sz id ver off len t) σ = some (.int .i64 len) := rfl
theorem sz_124 : sized tab 124 = true := rfl
theorem sz_125 : sized tab 125 = true := rfl
theorem sz_126 : sized tab 126 = true := rfl
theorem fao_126_0 (id ver off : Nat) : evFieldAddr tab 126 (.op id ver off) 0 = some (.op id ver (off + 0)) := rfl
theorem fad_126_0 (cs : List AV) (off : Nat) : evFieldAddr tab 126 (.dp cs off) 0 = some (.dp cs (off + 0)) := rfl
theorem sz_127 : sized tab 127 = true := rfl
theorem fao_127_0 (id ver off : Nat) : evFieldAddr tab 127 (.op id ver off) 0 = some (.op id ver (off + 0)) := rfl
theorem fad_127_0 (cs : List AV) (off : Nat) : evFieldAddr tab 127 (.dp cs off) 0 = some (.dp cs (off + 0)) := rfl
theorem sz_131 : sized tab 131 = true := rfl
theorem sz_134 : sized tab 134 = true := rfl
theorem sz_141 : sized tab 141 = true := rfl
theorem sz_143 : sized tab 143 = true := rfl
theorem sz_155 : sized tab 155 = true := rfl
theorem len_155 (nl : Bool) (cs : List AV) (len : Nat) (t : Bool) (σ : Store) : evLen tab 155 (.ds nl cs len t) σ = some (.int .i64 len) := rfl
theorem leno_155 (nl : Bool) (sz id ver off len : Nat) (t : Bool) (σ : Store) : evLen tab 155 (.os nl sz id ver off len t) σ = some (.int .i64 len) := rfl
theorem sz_172 : sized tab 172 = true := rfl
theorem len_172 (nl : Bool) (cs : List AV) (len : Nat) (t : Bool) (σ : Store) : evLen tab 172 (.ds nl cs len t) σ = some (.int .i64 len) := rfl
theorem leno_172 (nl : Bool) (sz id ver off len : Nat) (t : Bool) (σ : Store) : evLen tab 172 (.os nl sz id ver off len t) σ = some (.int .i64 len) := rfl
theorem sz_173 : sized tab 173 = true := rfl
theorem fao_173_0 (id ver off : Nat) : evFieldAddr tab 173 (.op id ver off) 0 = some (.op id ver (off + 0)) := rfl
theorem fad_173_0 (cs : List AV) (off : Nat) : evFieldAddr tab 173 (.dp cs off) 0 = some (.dp cs (off + 0)) := rfl
theorem fao_173_1 (id ver off : Nat) : evFieldAddr tab 173 (.op id ver off) 1 = some (.op id ver (off + 1)) := rfl
theorem fad_173_1 (cs : List AV) (off : Nat) : evFieldAddr tab 173 (.dp cs off) 1 = some (.dp cs (off + 1)) := rfl
theorem sz_174 : sized tab 174 = true := rfl
theorem fao_174_0 (id ver off : Nat) : evFieldAddr tab 174 (.op id ver off) 0 = some (.op id ver (off + 0)) := rfl
theorem fad_174_0 (cs : List AV) (off : Nat) : evFieldAddr tab 174 (.dp cs off) 0 = some (.dp cs (off + 0)) := rfl
theorem fao_174_1 (id ver off : Nat) : evFieldAddr tab 174 (.op id ver off) 1 = some (.op id ver (off + 1)) := rfl
theorem fad_174_1 (cs : List AV) (off : Nat) : evFieldAddr tab 174 (.dp cs off) 1 = some (.dp cs (off + 1)) := rfl
theorem sz_175 : sized tab 175 = true := rfl
theorem fao_175_0 (id ver off : Nat) : evFieldAddr tab 175 (.op id ver off) 0 = some (.op id ver (off + 0)) := rfl
theorem fad_175_0 (cs : List AV) (off : Nat) : evFieldAddr tab 175 (.dp cs off) 0 = some (.dp cs (off + 0)) := rfl
theorem fao_175_1 (id ver off : Nat) : evFieldAddr tab 175 (.op id ver off) 1 = some (.op id ver (off + 1)) := rfl
theorem fad_175_1 (cs : List AV) (off : Nat) : evFieldAddr tab 175 (.dp cs off) 1 = some (.dp cs (off + 1)) := rfl
theorem sz_176 : sized tab 176 = true := rfl
theorem fao_176_0 (id ver off : Nat) : evFieldAddr tab 176 (.op id ver off) 0 = some (.op id ver (off + 0)) := rfl
theorem fad_176_0 (cs : List AV) (off : Nat) : evFieldAddr tab 176 (.dp cs off) 0 = some (.dp cs (off + 0)) := rfl
theorem fao_176_1 (id ver off : Nat) : evFieldAddr tab 176 (.op id ver off) 1 = some (.op id ver (off + 1)) := rfl
theorem fad_176_1 (cs : List AV) (off : Nat) : evFieldAddr tab 176 (.dp cs off) 1 = some (.dp cs (off + 1)) := rfl
theorem sz_182 : sized tab 182 = true := rfl
theorem cd_182 : cellsD tab 20 182 = some [TypeDesc.int IntKind.i64] := rfl
theorem sz_183 : sized tab 183 = true := rfl
theorem cd_183 : cellsD tab 20 183 = some [TypeDesc.string] := rfl
theorem len_183 (s : List UInt8) (σ : Store) : evLen tab 183 (.str s) σ = some (.int .i64 s.length) := rfl
theorem sz_191 : sized tab 191 = true := rfl
theorem cd_191 : cellsD tab 20 191 = some [TypeDesc.int IntKind.u8, TypeDesc.int IntKind.u8] := rfl
theorem fao_191_0 (id ver off : Nat) : evFieldAddr tab 191 (.op id ver off) 0 = some (.op id ver (off + 0)) := rfl
theorem fad_191_0 (cs : List AV) (off : Nat) : evFieldAddr tab 191 (.dp cs off) 0 = some (.dp cs (off + 0)) := rfl
theorem fao_191_1 (id ver off : Nat) : evFieldAddr tab 191 (.op id ver off) 1 = some (.op id ver (off + 1)) := rfl
theorem fad_191_1 (cs : List AV) (off : Nat) : evFieldAddr tab 191 (.dp cs off) 1 = some (.dp cs (off + 1)) := rfl
theorem sz_192 : sized tab 192 = true := rfl
theorem cd_192 : cellsD tab 20 192 = some [TypeDesc.int IntKind.u8, TypeDesc.int IntKind.u8] := rfl
theorem fao_192_0 (id ver off : Nat) : evFieldAddr tab 192 (.op id ver off) 0 = some (.op id ver (off + 0)) := rfl
theorem fad_192_0 (cs : List AV) (off : Nat) : evFieldAddr tab 192 (.dp cs off) 0 = some (.dp cs (off + 0)) := rfl
theorem fao_192_1 (id ver off : Nat) : evFieldAddr tab 192 (.op id ver off) 1 = some (.op id ver (off + 1)) := rfl
theorem fad_192_1 (cs : List AV) (off : Nat) : evFieldAddr tab 192 (.dp cs off) 1 = some (.dp cs (off + 1)) := rfl
theorem sz_193 : sized tab 193 = true := rfl
theorem cd_193 : cellsD tab 20 193 = some [TypeDesc.int IntKind.u8, TypeDesc.int IntKind.u8, TypeDesc.int IntKind.u8, TypeDesc.int IntKind.u8, TypeDesc.int IntKind.u8, TypeDesc.int IntKind.u8, TypeDesc.int IntKind.u8, TypeDesc.int IntKind.u8, TypeDesc.int IntKind.u8, TypeDesc.int IntKind.u8, TypeDesc.int IntKind.u8, TypeDesc.int IntKind.u8, TypeDesc.int IntKind.u8, TypeDesc.int IntKind.u8, TypeDesc.int IntKind.u8, TypeDesc.int IntKind.u8, TypeDesc.int IntKind.u8, TypeDesc.int IntKind.u8, TypeDesc.int IntKind.u8, TypeDesc.int IntKind.u8, TypeDesc.int IntKind.u8, TypeDesc.int IntKind.u8, TypeDesc.int IntKind.u8, TypeDesc.int IntKind.u8, TypeDesc.int IntKind.u8, TypeDesc.int IntKind.u8, TypeDesc.int IntKind.u8, TypeDesc.int IntKind.u8, TypeDesc.int IntKind.u8, TypeDesc.int IntKind.u8, TypeDesc.int IntKind.u8, TypeDesc.int IntKind.u8] := rfl
attribute [go_sem] tab_1 tab_2 tab_3 tab_4 tab_5 tab_9 tab_20 tab_21 tab_22 tab_23 tab_24 tab_25 tab_26 tab_27 tab_28 tab_29 tab_30 tab_31 tab_32 tab_33 tab_35 tab_36 tab_40 tab_41 tab_42 tab_49 tab_50 tab_51 tab_52 tab_59 tab_60 tab_61 tab_63 tab_64 tab_72 tab_73 tab_75 tab_85 tab_88 tab_89
attribute [go_sem] tab_90 tab_91 tab_92 tab_94 tab_100 tab_104 tab_105 tab_113 tab_115 tab_116 tab_117 tab_124 tab_125 tab_126 tab_127 tab_131 tab_134 tab_141 tab_143 tab_155 tab_172 tab_173 tab_174 tab_175 tab_176 tab_182 tab_183 tab_191 tab_192 tab_193 sz_1 sz_2 cd_2 sz_3 cd_3 sz_4 cd_4 sz_5 cd_5 sz_9
attribute [go_sem] cd_9 len_9 sz_20 sz_21 cd_21 sz_22 len_22 leno_22 sz_23 len_23 leno_23 sz_24 len_24 leno_24 sz_25 fao_25_0 fad_25_0 fao_25_1 fad_25_1 fao_25_2 fad_25_2 sz_26 fao_26_0 fad_26_0 fao_26_1 fad_26_1 fao_26_2 fad_26_2 sz_27 len_27 leno_27 sz_28 len_28 leno_28 sz_29 len_29 leno_29 sz_30 fao_30_0 fad_30_0
attribute [go_sem] fao_30_1 fad_30_1 fao_30_2 fad_30_2 fao_30_3 fad_30_3 sz_31 fao_31_0 fad_31_0 fao_31_1 fad_31_1 fao_31_2 fad_31_2 fao_31_3 fad_31_3 sz_32 cd_32 fao_32_0 fad_32_0 fao_32_1 fad_32_1 fao_32_2 fad_32_2 fao_32_3 fad_32_3 sz_33 cd_33 fao_33_0 fad_33_0 fao_33_1 fad_33_1 fao_33_2 fad_33_2 fao_33_3 fad_33_3 sz_35 len_35 leno_35 sz_36 cd_36
attribute [go_sem] sz_40 len_40 leno_40 sz_41 fao_41_0 fad_41_0 fao_41_1 fad_41_1 fao_41_2 fad_41_2 fao_41_3 fad_41_3 fao_41_4 fad_41_4 sz_42 fao_42_0 fad_42_0 fao_42_1 fad_42_1 fao_42_2 fad_42_2 fao_42_3 fad_42_3 fao_42_4 fad_42_4 sz_49 cd_49 fao_49_0 fad_49_0 fao_49_1 fad_49_1 sz_50 cd_50 fao_50_0 fad_50_0 fao_50_1 fad_50_1 sz_51 cd_51 fao_51_0
attribute [go_sem] fad_51_0 fao_51_1 fad_51_1 fao_51_2 fad_51_2 fao_51_3 fad_51_3 sz_52 cd_52 fao_52_0 fad_52_0 fao_52_1 fad_52_1 fao_52_2 fad_52_2 fao_52_3 fad_52_3 sz_59 len_59 leno_59 sz_60 fao_60_0 fad_60_0 fao_60_1 fad_60_1 sz_61 fao_61_0 fad_61_0 fao_61_1 fad_61_1 sz_63 cd_63 fao_63_0 fad_63_0 fao_63_1 fad_63_1 fao_63_2 fad_63_2 fao_63_3 fad_63_3
attribute [go_sem] fao_63_4 fad_63_4 fao_63_5 fad_63_5 fao_63_6 fad_63_6 fao_63_7 fad_63_7 sz_64 cd_64 fao_64_0 fad_64_0 fao_64_1 fad_64_1 fao_64_2 fad_64_2 fao_64_3 fad_64_3 fao_64_4 fad_64_4 fao_64_5 fad_64_5 fao_64_6 fad_64_6 fao_64_7 fad_64_7 sz_72 cd_72 fao_72_0 fad_72_0 fao_72_1 fad_72_1 fao_72_2 fad_72_2 sz_73 cd_73 fao_73_0 fad_73_0 fao_73_1 fad_73_1
attribute [go_sem] fao_73_2 fad_73_2 sz_75 len_75 leno_75 sz_85 cd_85 sz_88 len_88 leno_88 sz_89 fao_89_0 fad_89_0 fao_89_1 fad_89_1 sz_90 fao_90_0 fad_90_0 fao_90_1 fad_90_1 sz_91 cd_91 fao_91_0 fad_91_0 fao_91_1 fad_91_1 sz_92 cd_92 fao_92_0 fad_92_0 fao_92_1 fad_92_1 sz_94 len_94 leno_94 sz_100 sz_104 sz_105 sz_113 sz_115
attribute [go_sem] sz_116 cd_116 sz_117 len_117 leno_117 sz_124 sz_125 sz_126 fao_126_0 fad_126_0 sz_127 fao_127_0 fad_127_0 sz_131 sz_134 sz_141 sz_143 sz_155 len_155 leno_155 sz_172 len_172 leno_172 sz_173 fao_173_0 fad_173_0 fao_173_1 fad_173_1 sz_174 fao_174_0 fad_174_0 fao_174_1 fad_174_1 sz_175 fao_175_0 fad_175_0 fao_175_1 fad_175_1 sz_176 fao_176_0
attribute [go_sem] fad_176_0 fao_176_1 fad_176_1 sz_182 cd_182 sz_183 cd_183 len_183 sz_191 cd_191 fao_191_0 fad_191_0 fao_191_1 fad_191_1 sz_192 cd_192 fao_192_0 fad_192_0 fao_192_1 fad_192_1 sz_193 cd_193
end Go.Proofs.YtaddlmlpeghonaaDoor
