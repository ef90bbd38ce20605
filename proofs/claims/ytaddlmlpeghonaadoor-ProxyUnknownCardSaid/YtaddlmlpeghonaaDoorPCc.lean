/- Parts of the proof, cut down to what it needs. -/
import Derived.Test.YtaddlmlpeghonaaDoorProg
import Derived.Test.YtaddlmlpeghonaaDoorPBz
import Derived.KernelRfl
import Derived.Shelf.Unicode.DecodeAny
import Derived.Shelf.Spec.SlicesInsert
import Derived.Lib.AppendZerosOnto
set_option linter.constructorNameAsVariable false
set_option linter.unusedSimpArgs false
set_option linter.unusedVariables false
open List renaming length → lN, flatMap → fM, length_append → lP, length_cons → lC, length_nil → lZ, mem_cons_of_mem → mO, mem_cons_self → mS, append_assoc → aA, getD_eq_getElem?_getD → gG, append_nil → aN, map_nil → mN, map_cons → mC, nil_append → nA, flatMap_append → fA, flatMap_nil → fZ, flatMap_cons → fC, mem_append → mA, cons_append → cA, pairwise_cons → pC, length_map → lM, drop_zero → dZ, getElem?_append_right → gR, getElem?_append_left → gL, map_append → mP, length_eq_zero_iff → lI, mem_cons → mI
open Option renaming bind_some → bS, some.injEq → sI
open Nat renaming reduceLT → rL, reduceLeDiff → rD, reduceEqDiff → rE, reduceAdd → rA, reduceMul → rM, reduceSub → rS, zero_add → nZ, le_refl → nR, lt_succ_self → nS
section
set_option maxRecDepth 8000
namespace Go.Proofs.YtaddlmlpeghonaaDoor
open AM
def ti1 : TI := ⟨TypeDesc.func #[] #[] false, 1, 8, AV.nilF, false⟩
def ti2 : TI := ⟨TypeDesc.int IntKind.i64, 1, 8, AV.int .i64 0, false⟩
def ti3 : TI := ⟨TypeDesc.int IntKind.i64, 1, 8, AV.int .i64 0, false⟩
def ti4 : TI := ⟨TypeDesc.bool, 1, 1, AV.bool false, false⟩
def ti5 : TI := ⟨TypeDesc.int IntKind.u8, 1, 1, AV.int .u8 0, false⟩
def ti9 : TI := ⟨TypeDesc.string, 1, 16, AV.str [], false⟩
def ti20 : TI := ⟨TypeDesc.interface #[], 1, 16, AV.nilI, false⟩
def ti21 : TI := ⟨TypeDesc.int IntKind.i32, 1, 4, AV.int .i32 0, false⟩
def ti22 : TI := ⟨TypeDesc.slice 33, 1, 24, AV.ds true [] 0 true, false⟩
def ti23 : TI := ⟨TypeDesc.slice 52, 1, 24, AV.ds true [] 0 true, false⟩
def ti24 : TI := ⟨TypeDesc.slice 3, 1, 24, AV.ds true [] 0 true, false⟩
def ti25 : TI := ⟨TypeDesc.struct #[⟨"Name", 9, 0, false, "", "", 0⟩, ⟨"Fields", 23, 1, false, "", "", 16⟩, ⟨"Reserved", 24, 2, false, "", "", 40⟩], 3, 64, AV.agg [AV.str [], AV.ds true [] 0 true, AV.ds true [] 0 true], false⟩
def ti26 : TI := ⟨TypeDesc.struct #[⟨"Name", 9, 0, false, "", "", 0⟩, ⟨"Fields", 23, 1, false, "", "", 16⟩, ⟨"Reserved", 24, 2, false, "", "", 40⟩], 3, 64, AV.agg [AV.str [], AV.ds true [] 0 true, AV.ds true [] 0 true], false⟩
def ti27 : TI := ⟨TypeDesc.slice 26, 1, 24, AV.ds true [] 0 true, false⟩
def ti28 : TI := ⟨TypeDesc.slice 90, 1, 24, AV.ds true [] 0 true, false⟩
def ti29 : TI := ⟨TypeDesc.slice 73, 1, 24, AV.ds true [] 0 true, false⟩
def ti30 : TI := ⟨TypeDesc.struct #[⟨"Name", 9, 0, false, "", "", 0⟩, ⟨"Messages", 27, 1, false, "", "", 16⟩, ⟨"Enums", 28, 2, false, "", "", 40⟩, ⟨"Methods", 29, 3, false, "", "", 64⟩], 4, 88, AV.agg [AV.str [], AV.ds true [] 0 true, AV.ds true [] 0 true, AV.ds true [] 0 true], false⟩
def ti31 : TI := ⟨TypeDesc.struct #[⟨"Name", 9, 0, false, "", "", 0⟩, ⟨"Messages", 27, 1, false, "", "", 16⟩, ⟨"Enums", 28, 2, false, "", "", 40⟩, ⟨"Methods", 29, 3, false, "", "", 64⟩], 4, 88, AV.agg [AV.str [], AV.ds true [] 0 true, AV.ds true [] 0 true, AV.ds true [] 0 true], false⟩
def ti32 : TI := ⟨TypeDesc.struct #[⟨"Tag", 3, 0, false, "", "", 0⟩, ⟨"Wire", 3, 1, false, "", "", 8⟩, ⟨"N", 3, 2, false, "", "", 16⟩, ⟨"B", 9, 3, false, "", "", 24⟩], 4, 40, AV.agg [AV.int .i64 0, AV.int .i64 0, AV.int .i64 0, AV.str []], true⟩
def ti33 : TI := ⟨TypeDesc.struct #[⟨"Tag", 3, 0, false, "", "", 0⟩, ⟨"Wire", 3, 1, false, "", "", 8⟩, ⟨"N", 3, 2, false, "", "", 16⟩, ⟨"B", 9, 3, false, "", "", 24⟩], 4, 40, AV.agg [AV.int .i64 0, AV.int .i64 0, AV.int .i64 0, AV.str []], true⟩
def ti35 : TI := ⟨TypeDesc.slice 5, 1, 24, AV.ds true [] 0 true, false⟩
def ti36 : TI := ⟨TypeDesc.int IntKind.i64, 1, 8, AV.int .i64 0, false⟩
def ti40 : TI := ⟨TypeDesc.slice 61, 1, 24, AV.ds true [] 0 true, false⟩
def ti41 : TI := ⟨TypeDesc.struct #[⟨"Kind", 3, 0, false, "", "", 0⟩, ⟨"N", 3, 1, false, "", "", 8⟩, ⟨"S", 9, 2, false, "", "", 16⟩, ⟨"Entries", 40, 3, false, "", "", 32⟩, ⟨"Rest", 22, 4, false, "", "", 56⟩], 5, 80, AV.agg [AV.int .i64 0, AV.int .i64 0, AV.str [], AV.ds true [] 0 true, AV.ds true [] 0 true], false⟩
def ti42 : TI := ⟨TypeDesc.struct #[⟨"Kind", 3, 0, false, "", "", 0⟩, ⟨"N", 3, 1, false, "", "", 8⟩, ⟨"S", 9, 2, false, "", "", 16⟩, ⟨"Entries", 40, 3, false, "", "", 32⟩, ⟨"Rest", 22, 4, false, "", "", 56⟩], 5, 80, AV.agg [AV.int .i64 0, AV.int .i64 0, AV.str [], AV.ds true [] 0 true, AV.ds true [] 0 true], false⟩
def ti49 : TI := ⟨TypeDesc.struct #[⟨"Kind", 3, 0, false, "", "", 0⟩, ⟨"Name", 9, 1, false, "", "", 8⟩], 2, 24, AV.agg [AV.int .i64 0, AV.str []], true⟩
def ti50 : TI := ⟨TypeDesc.struct #[⟨"Kind", 3, 0, false, "", "", 0⟩, ⟨"Name", 9, 1, false, "", "", 8⟩], 2, 24, AV.agg [AV.int .i64 0, AV.str []], true⟩
def ti51 : TI := ⟨TypeDesc.struct #[⟨"Name", 9, 0, false, "", "", 0⟩, ⟨"Tag", 3, 1, false, "", "", 16⟩, ⟨"Label", 3, 2, false, "", "", 24⟩, ⟨"Type", 50, 3, false, "", "", 32⟩], 5, 56, AV.agg [AV.str [], AV.int .i64 0, AV.int .i64 0, AV.int .i64 0, AV.str []], true⟩
def ti52 : TI := ⟨TypeDesc.struct #[⟨"Name", 9, 0, false, "", "", 0⟩, ⟨"Tag", 3, 1, false, "", "", 16⟩, ⟨"Label", 3, 2, false, "", "", 24⟩, ⟨"Type", 50, 3, false, "", "", 32⟩], 5, 56, AV.agg [AV.str [], AV.int .i64 0, AV.int .i64 0, AV.int .i64 0, AV.str []], true⟩
def ti59 : TI := ⟨TypeDesc.slice 42, 1, 24, AV.ds true [] 0 true, false⟩
def ti60 : TI := ⟨TypeDesc.struct #[⟨"Tag", 3, 0, false, "", "", 0⟩, ⟨"Trees", 59, 1, false, "", "", 8⟩], 2, 32, AV.agg [AV.int .i64 0, AV.ds true [] 0 true], false⟩
def ti61 : TI := ⟨TypeDesc.struct #[⟨"Tag", 3, 0, false, "", "", 0⟩, ⟨"Trees", 59, 1, false, "", "", 8⟩], 2, 32, AV.agg [AV.int .i64 0, AV.ds true [] 0 true], false⟩
def ti63 : TI := ⟨TypeDesc.struct #[⟨"Kind", 3, 0, false, "", "", 0⟩, ⟨"From", 3, 1, false, "", "", 8⟩, ⟨"To", 3, 2, false, "", "", 16⟩, ⟨"ID", 3, 3, false, "", "", 24⟩, ⟨"Version", 3, 4, false, "", "", 32⟩, ⟨"Method", 9, 5, false, "", "", 40⟩, ⟨"Err", 3, 6, false, "", "", 56⟩, ⟨"Body", 9, 7, false, "", "", 64⟩], 8, 80, AV.agg [AV.int .i64 0, AV.int .i64 0, AV.int .i64 0, AV.int .i64 0, AV.int .i64 0, AV.str [], AV.int .i64 0, AV.str []], true⟩
def ti64 : TI := ⟨TypeDesc.struct #[⟨"Kind", 3, 0, false, "", "", 0⟩, ⟨"From", 3, 1, false, "", "", 8⟩, ⟨"To", 3, 2, false, "", "", 16⟩, ⟨"ID", 3, 3, false, "", "", 24⟩, ⟨"Version", 3, 4, false, "", "", 32⟩, ⟨"Method", 9, 5, false, "", "", 40⟩, ⟨"Err", 3, 6, false, "", "", 56⟩, ⟨"Body", 9, 7, false, "", "", 64⟩], 8, 80, AV.agg [AV.int .i64 0, AV.int .i64 0, AV.int .i64 0, AV.int .i64 0, AV.int .i64 0, AV.str [], AV.int .i64 0, AV.str []], true⟩
def ti72 : TI := ⟨TypeDesc.struct #[⟨"Name", 9, 0, false, "", "", 0⟩, ⟨"In", 9, 1, false, "", "", 16⟩, ⟨"Out", 9, 2, false, "", "", 32⟩], 3, 48, AV.agg [AV.str [], AV.str [], AV.str []], true⟩
def ti73 : TI := ⟨TypeDesc.struct #[⟨"Name", 9, 0, false, "", "", 0⟩, ⟨"In", 9, 1, false, "", "", 16⟩, ⟨"Out", 9, 2, false, "", "", 32⟩], 3, 48, AV.agg [AV.str [], AV.str [], AV.str []], true⟩
def ti75 : TI := ⟨TypeDesc.slice 31, 1, 24, AV.ds true [] 0 true, false⟩
def ti85 : TI := ⟨TypeDesc.int IntKind.u64, 1, 8, AV.int .u64 0, false⟩
def ti88 : TI := ⟨TypeDesc.slice 92, 1, 24, AV.ds true [] 0 true, false⟩
def ti89 : TI := ⟨TypeDesc.struct #[⟨"Name", 9, 0, false, "", "", 0⟩, ⟨"Values", 88, 1, false, "", "", 16⟩], 2, 40, AV.agg [AV.str [], AV.ds true [] 0 true], false⟩
def ti90 : TI := ⟨TypeDesc.struct #[⟨"Name", 9, 0, false, "", "", 0⟩, ⟨"Values", 88, 1, false, "", "", 16⟩], 2, 40, AV.agg [AV.str [], AV.ds true [] 0 true], false⟩
def ti91 : TI := ⟨TypeDesc.struct #[⟨"Name", 9, 0, false, "", "", 0⟩, ⟨"N", 3, 1, false, "", "", 16⟩], 2, 24, AV.agg [AV.str [], AV.int .i64 0], true⟩
def ti92 : TI := ⟨TypeDesc.struct #[⟨"Name", 9, 0, false, "", "", 0⟩, ⟨"N", 3, 1, false, "", "", 16⟩], 2, 24, AV.agg [AV.str [], AV.int .i64 0], true⟩
def ti94 : TI := ⟨TypeDesc.slice 9, 1, 24, AV.ds true [] 0 true, false⟩
def ti100 : TI := ⟨TypeDesc.pointer 3, 1, 8, AV.nilp, false⟩
def ti104 : TI := ⟨TypeDesc.map 9 4, 1, 8, AV.nilm, false⟩
def ti105 : TI := ⟨TypeDesc.map 9 4, 1, 8, AV.nilm, false⟩
def ti113 : TI := ⟨TypeDesc.pointer 42, 1, 8, AV.nilp, false⟩
def ti115 : TI := ⟨TypeDesc.func #[61] #[4] false, 1, 8, AV.nilF, false⟩
def ti116 : TI := ⟨TypeDesc.int IntKind.u64, 1, 8, AV.int .u64 0, false⟩
def ti117 : TI := ⟨TypeDesc.slice 21, 1, 24, AV.ds true [] 0 true, false⟩
def ti124 : TI := ⟨TypeDesc.interface #[("concordat/value.kind", 200)], 1, 16, AV.nilI, false⟩
def ti125 : TI := ⟨TypeDesc.interface #[("concordat/value.kind", 200)], 1, 16, AV.nilI, false⟩
def ti126 : TI := ⟨TypeDesc.struct #[⟨"in", 125, 0, false, "", "concordat/value", 0⟩], 1, 16, AV.agg [AV.nilI], false⟩
def ti127 : TI := ⟨TypeDesc.struct #[⟨"in", 125, 0, false, "", "concordat/value", 0⟩], 1, 16, AV.agg [AV.nilI], false⟩
def ti131 : TI := ⟨TypeDesc.pointer 174, 1, 8, AV.nilp, false⟩
def ti134 : TI := ⟨TypeDesc.map 3 4, 1, 8, AV.nilm, false⟩
def ti141 : TI := ⟨TypeDesc.func #[61, 3] #[3] false, 1, 8, AV.nilF, false⟩
def ti143 : TI := ⟨TypeDesc.pointer 61, 1, 8, AV.nilp, false⟩
def ti155 : TI := ⟨TypeDesc.slice 127, 1, 24, AV.ds true [] 0 true, false⟩
def ti172 : TI := ⟨TypeDesc.slice 176, 1, 24, AV.ds true [] 0 true, false⟩
def ti173 : TI := ⟨TypeDesc.struct #[⟨"entries", 172, 0, false, "", "concordat/value", 0⟩, ⟨"rest", 22, 1, false, "", "concordat/value", 24⟩], 2, 48, AV.agg [AV.ds true [] 0 true, AV.ds true [] 0 true], false⟩
def ti174 : TI := ⟨TypeDesc.struct #[⟨"entries", 172, 0, false, "", "concordat/value", 0⟩, ⟨"rest", 22, 1, false, "", "concordat/value", 24⟩], 2, 48, AV.agg [AV.ds true [] 0 true, AV.ds true [] 0 true], false⟩
def ti175 : TI := ⟨TypeDesc.struct #[⟨"tag", 3, 0, false, "", "concordat/value", 0⟩, ⟨"l", 155, 1, false, "", "concordat/value", 8⟩], 2, 32, AV.agg [AV.int .i64 0, AV.ds true [] 0 true], false⟩
def ti176 : TI := ⟨TypeDesc.struct #[⟨"tag", 3, 0, false, "", "concordat/value", 0⟩, ⟨"l", 155, 1, false, "", "concordat/value", 8⟩], 2, 32, AV.agg [AV.int .i64 0, AV.ds true [] 0 true], false⟩
def ti182 : TI := ⟨TypeDesc.int IntKind.i64, 1, 8, AV.int .i64 0, false⟩
def ti183 : TI := ⟨TypeDesc.string, 1, 16, AV.str [], false⟩
def ti191 : TI := ⟨TypeDesc.struct #[⟨"lo", 5, 0, false, "", "unicode/utf8", 0⟩, ⟨"hi", 5, 1, false, "", "unicode/utf8", 1⟩], 2, 2, AV.agg [AV.int .u8 0, AV.int .u8 0], true⟩
def ti192 : TI := ⟨TypeDesc.struct #[⟨"lo", 5, 0, false, "", "unicode/utf8", 0⟩, ⟨"hi", 5, 1, false, "", "unicode/utf8", 1⟩], 2, 2, AV.agg [AV.int .u8 0, AV.int .u8 0], true⟩
def ti193 : TI := ⟨TypeDesc.array 16 192, 32, 32, AV.agg [AV.int .u8 0, AV.int .u8 0, AV.int .u8 0, AV.int .u8 0, AV.int .u8 0, AV.int .u8 0, AV.int .u8 0, AV.int .u8 0, AV.int .u8 0, AV.int .u8 0, AV.int .u8 0, AV.int .u8 0, AV.int .u8 0, AV.int .u8 0, AV.int .u8 0, AV.int .u8 0, AV.int .u8 0, AV.int .u8 0, AV.int .u8 0, AV.int .u8 0, AV.int .u8 0, AV.int .u8 0, AV.int .u8 0, AV.int .u8 0, AV.int .u8 0, AV.int .u8 0, AV.int .u8 0, AV.int .u8 0, AV.int .u8 0, AV.int .u8 0, AV.int .u8 0, AV.int .u8 0], true⟩
def tabL : List (Option TI) := [none, some ti1, some ti2, some ti3, some ti4, some ti5, none, none, none, some ti9, none, none, none, none, none, none, none, none, none, none, some ti20, some ti21, some ti22, some ti23, some ti24, some ti25, some ti26, some ti27, some ti28, some ti29, some ti30, some ti31, some ti32, some ti33, none, some ti35, some ti36, none, none, none, some ti40, some ti41, some ti42, none, none, none, none, none, none, some ti49, some ti50, some ti51, some ti52, none, none, none, none, none, none, some ti59, some ti60, some ti61, none, some ti63, some ti64, none, none, none, none, none, none, none, some ti72, some ti73, none, some ti75, none, none, none, none, none, none, none, none, none, some ti85, none, none, some ti88, some ti89, some ti90, some ti91, some ti92, none, some ti94, none, none, none, none, none, some ti100, none, none, none, some ti104, some ti105, none, none, none, none, none, none, none, some ti113, none, some ti115, some ti116, some ti117, none, none, none, none, none, none, some ti124, some ti125, some ti126, some ti127, none, none, none, some ti131, none, none, some ti134, none, none, none, none, none, none, some ti141, none, some ti143, none, none, none, none, none, none, none, none, none, none, none, some ti155, none, none, none, none, none, none, none, none, none, none, none, none, none, none, none, none, some ti172, some ti173, some ti174, some ti175, some ti176, none, none, none, none, none, some ti182, some ti183, none, none, none, none, none, none, none, some ti191, some ti192, some ti193, none, none, none, none, none, none, none, none, none, none, none, none, none, none, none, none, none]
def tab : TT := fun t => (tabL[t]?).getD none
theorem tab_1 : tab 1 = some ⟨TypeDesc.func #[] #[] false, 1, 8, AV.nilF, false⟩ := rfl
theorem tab_2 : tab 2 = some ⟨TypeDesc.int IntKind.i64, 1, 8, AV.int .i64 0, false⟩ := rfl
theorem tab_3 : tab 3 = some ⟨TypeDesc.int IntKind.i64, 1, 8, AV.int .i64 0, false⟩ := rfl
theorem tab_4 : tab 4 = some ⟨TypeDesc.bool, 1, 1, AV.bool false, false⟩ := rfl
theorem tab_5 : tab 5 = some ⟨TypeDesc.int IntKind.u8, 1, 1, AV.int .u8 0, false⟩ := rfl
theorem tab_9 : tab 9 = some ⟨TypeDesc.string, 1, 16, AV.str [], false⟩ := rfl
theorem tab_20 : tab 20 = some ⟨TypeDesc.interface #[], 1, 16, AV.nilI, false⟩ := rfl
theorem tab_21 : tab 21 = some ⟨TypeDesc.int IntKind.i32, 1, 4, AV.int .i32 0, false⟩ := rfl
theorem tab_22 : tab 22 = some ⟨TypeDesc.slice 33, 1, 24, AV.ds true [] 0 true, false⟩ := rfl
theorem tab_23 : tab 23 = some ⟨TypeDesc.slice 52, 1, 24, AV.ds true [] 0 true, false⟩ := rfl
theorem tab_24 : tab 24 = some ⟨TypeDesc.slice 3, 1, 24, AV.ds true [] 0 true, false⟩ := rfl
theorem tab_25 : tab 25 = some ⟨TypeDesc.struct #[⟨"Name", 9, 0, false, "", "", 0⟩, ⟨"Fields", 23, 1, false, "", "", 16⟩, ⟨"Reserved", 24, 2, false, "", "", 40⟩], 3, 64, AV.agg [AV.str [], AV.ds true [] 0 true, AV.ds true [] 0 true], false⟩ := rfl
theorem tab_26 : tab 26 = some ⟨TypeDesc.struct #[⟨"Name", 9, 0, false, "", "", 0⟩, ⟨"Fields", 23, 1, false, "", "", 16⟩, ⟨"Reserved", 24, 2, false, "", "", 40⟩], 3, 64, AV.agg [AV.str [], AV.ds true [] 0 true, AV.ds true [] 0 true], false⟩ := rfl
theorem tab_27 : tab 27 = some ⟨TypeDesc.slice 26, 1, 24, AV.ds true [] 0 true, false⟩ := rfl
theorem tab_28 : tab 28 = some ⟨TypeDesc.slice 90, 1, 24, AV.ds true [] 0 true, false⟩ := rfl
theorem tab_29 : tab 29 = some ⟨TypeDesc.slice 73, 1, 24, AV.ds true [] 0 true, false⟩ := rfl
theorem tab_30 : tab 30 = some ⟨TypeDesc.struct #[⟨"Name", 9, 0, false, "", "", 0⟩, ⟨"Messages", 27, 1, false, "", "", 16⟩, ⟨"Enums", 28, 2, false, "", "", 40⟩, ⟨"Methods", 29, 3, false, "", "", 64⟩], 4, 88, AV.agg [AV.str [], AV.ds true [] 0 true, AV.ds true [] 0 true, AV.ds true [] 0 true], false⟩ := rfl
theorem tab_31 : tab 31 = some ⟨TypeDesc.struct #[⟨"Name", 9, 0, false, "", "", 0⟩, ⟨"Messages", 27, 1, false, "", "", 16⟩, ⟨"Enums", 28, 2, false, "", "", 40⟩, ⟨"Methods", 29, 3, false, "", "", 64⟩], 4, 88, AV.agg [AV.str [], AV.ds true [] 0 true, AV.ds true [] 0 true, AV.ds true [] 0 true], false⟩ := rfl
theorem tab_32 : tab 32 = some ⟨TypeDesc.struct #[⟨"Tag", 3, 0, false, "", "", 0⟩, ⟨"Wire", 3, 1, false, "", "", 8⟩, ⟨"N", 3, 2, false, "", "", 16⟩, ⟨"B", 9, 3, false, "", "", 24⟩], 4, 40, AV.agg [AV.int .i64 0, AV.int .i64 0, AV.int .i64 0, AV.str []], true⟩ := rfl
theorem tab_33 : tab 33 = some ⟨TypeDesc.struct #[⟨"Tag", 3, 0, false, "", "", 0⟩, ⟨"Wire", 3, 1, false, "", "", 8⟩, ⟨"N", 3, 2, false, "", "", 16⟩, ⟨"B", 9, 3, false, "", "", 24⟩], 4, 40, AV.agg [AV.int .i64 0, AV.int .i64 0, AV.int .i64 0, AV.str []], true⟩ := rfl
theorem tab_35 : tab 35 = some ⟨TypeDesc.slice 5, 1, 24, AV.ds true [] 0 true, false⟩ := rfl
theorem tab_36 : tab 36 = some ⟨TypeDesc.int IntKind.i64, 1, 8, AV.int .i64 0, false⟩ := rfl
theorem zg3 : tab 40 = some ⟨TypeDesc.slice 61, 1, 24, AV.ds true [] 0 true, false⟩ := rfl
theorem tab_41 : tab 41 = some ⟨TypeDesc.struct #[⟨"Kind", 3, 0, false, "", "", 0⟩, ⟨"N", 3, 1, false, "", "", 8⟩, ⟨"S", 9, 2, false, "", "", 16⟩, ⟨"Entries", 40, 3, false, "", "", 32⟩, ⟨"Rest", 22, 4, false, "", "", 56⟩], 5, 80, AV.agg [AV.int .i64 0, AV.int .i64 0, AV.str [], AV.ds true [] 0 true, AV.ds true [] 0 true], false⟩ := rfl
theorem tab_42 : tab 42 = some ⟨TypeDesc.struct #[⟨"Kind", 3, 0, false, "", "", 0⟩, ⟨"N", 3, 1, false, "", "", 8⟩, ⟨"S", 9, 2, false, "", "", 16⟩, ⟨"Entries", 40, 3, false, "", "", 32⟩, ⟨"Rest", 22, 4, false, "", "", 56⟩], 5, 80, AV.agg [AV.int .i64 0, AV.int .i64 0, AV.str [], AV.ds true [] 0 true, AV.ds true [] 0 true], false⟩ := rfl
theorem tab_49 : tab 49 = some ⟨TypeDesc.struct #[⟨"Kind", 3, 0, false, "", "", 0⟩, ⟨"Name", 9, 1, false, "", "", 8⟩], 2, 24, AV.agg [AV.int .i64 0, AV.str []], true⟩ := rfl
theorem tab_50 : tab 50 = some ⟨TypeDesc.struct #[⟨"Kind", 3, 0, false, "", "", 0⟩, ⟨"Name", 9, 1, false, "", "", 8⟩], 2, 24, AV.agg [AV.int .i64 0, AV.str []], true⟩ := rfl
theorem tab_51 : tab 51 = some ⟨TypeDesc.struct #[⟨"Name", 9, 0, false, "", "", 0⟩, ⟨"Tag", 3, 1, false, "", "", 16⟩, ⟨"Label", 3, 2, false, "", "", 24⟩, ⟨"Type", 50, 3, false, "", "", 32⟩], 5, 56, AV.agg [AV.str [], AV.int .i64 0, AV.int .i64 0, AV.int .i64 0, AV.str []], true⟩ := rfl
theorem tab_52 : tab 52 = some ⟨TypeDesc.struct #[⟨"Name", 9, 0, false, "", "", 0⟩, ⟨"Tag", 3, 1, false, "", "", 16⟩, ⟨"Label", 3, 2, false, "", "", 24⟩, ⟨"Type", 50, 3, false, "", "", 32⟩], 5, 56, AV.agg [AV.str [], AV.int .i64 0, AV.int .i64 0, AV.int .i64 0, AV.str []], true⟩ := rfl
theorem tab_59 : tab 59 = some ⟨TypeDesc.slice 42, 1, 24, AV.ds true [] 0 true, false⟩ := rfl
theorem tab_60 : tab 60 = some ⟨TypeDesc.struct #[⟨"Tag", 3, 0, false, "", "", 0⟩, ⟨"Trees", 59, 1, false, "", "", 8⟩], 2, 32, AV.agg [AV.int .i64 0, AV.ds true [] 0 true], false⟩ := rfl
theorem zf3 : tab 61 = some ⟨TypeDesc.struct #[⟨"Tag", 3, 0, false, "", "", 0⟩, ⟨"Trees", 59, 1, false, "", "", 8⟩], 2, 32, AV.agg [AV.int .i64 0, AV.ds true [] 0 true], false⟩ := rfl
theorem tab_63 : tab 63 = some ⟨TypeDesc.struct #[⟨"Kind", 3, 0, false, "", "", 0⟩, ⟨"From", 3, 1, false, "", "", 8⟩, ⟨"To", 3, 2, false, "", "", 16⟩, ⟨"ID", 3, 3, false, "", "", 24⟩, ⟨"Version", 3, 4, false, "", "", 32⟩, ⟨"Method", 9, 5, false, "", "", 40⟩, ⟨"Err", 3, 6, false, "", "", 56⟩, ⟨"Body", 9, 7, false, "", "", 64⟩], 8, 80, AV.agg [AV.int .i64 0, AV.int .i64 0, AV.int .i64 0, AV.int .i64 0, AV.int .i64 0, AV.str [], AV.int .i64 0, AV.str []], true⟩ := rfl
theorem tab_64 : tab 64 = some ⟨TypeDesc.struct #[⟨"Kind", 3, 0, false, "", "", 0⟩, ⟨"From", 3, 1, false, "", "", 8⟩, ⟨"To", 3, 2, false, "", "", 16⟩, ⟨"ID", 3, 3, false, "", "", 24⟩, ⟨"Version", 3, 4, false, "", "", 32⟩, ⟨"Method", 9, 5, false, "", "", 40⟩, ⟨"Err", 3, 6, false, "", "", 56⟩, ⟨"Body", 9, 7, false, "", "", 64⟩], 8, 80, AV.agg [AV.int .i64 0, AV.int .i64 0, AV.int .i64 0, AV.int .i64 0, AV.int .i64 0, AV.str [], AV.int .i64 0, AV.str []], true⟩ := rfl
theorem tab_72 : tab 72 = some ⟨TypeDesc.struct #[⟨"Name", 9, 0, false, "", "", 0⟩, ⟨"In", 9, 1, false, "", "", 16⟩, ⟨"Out", 9, 2, false, "", "", 32⟩], 3, 48, AV.agg [AV.str [], AV.str [], AV.str []], true⟩ := rfl
theorem tab_73 : tab 73 = some ⟨TypeDesc.struct #[⟨"Name", 9, 0, false, "", "", 0⟩, ⟨"In", 9, 1, false, "", "", 16⟩, ⟨"Out", 9, 2, false, "", "", 32⟩], 3, 48, AV.agg [AV.str [], AV.str [], AV.str []], true⟩ := rfl
theorem tab_75 : tab 75 = some ⟨TypeDesc.slice 31, 1, 24, AV.ds true [] 0 true, false⟩ := rfl
theorem tab_85 : tab 85 = some ⟨TypeDesc.int IntKind.u64, 1, 8, AV.int .u64 0, false⟩ := rfl
theorem tab_88 : tab 88 = some ⟨TypeDesc.slice 92, 1, 24, AV.ds true [] 0 true, false⟩ := rfl
theorem tab_89 : tab 89 = some ⟨TypeDesc.struct #[⟨"Name", 9, 0, false, "", "", 0⟩, ⟨"Values", 88, 1, false, "", "", 16⟩], 2, 40, AV.agg [AV.str [], AV.ds true [] 0 true], false⟩ := rfl
theorem tab_90 : tab 90 = some ⟨TypeDesc.struct #[⟨"Name", 9, 0, false, "", "", 0⟩, ⟨"Values", 88, 1, false, "", "", 16⟩], 2, 40, AV.agg [AV.str [], AV.ds true [] 0 true], false⟩ := rfl
theorem tab_91 : tab 91 = some ⟨TypeDesc.struct #[⟨"Name", 9, 0, false, "", "", 0⟩, ⟨"N", 3, 1, false, "", "", 16⟩], 2, 24, AV.agg [AV.str [], AV.int .i64 0], true⟩ := rfl
theorem tab_92 : tab 92 = some ⟨TypeDesc.struct #[⟨"Name", 9, 0, false, "", "", 0⟩, ⟨"N", 3, 1, false, "", "", 16⟩], 2, 24, AV.agg [AV.str [], AV.int .i64 0], true⟩ := rfl
theorem tab_94 : tab 94 = some ⟨TypeDesc.slice 9, 1, 24, AV.ds true [] 0 true, false⟩ := rfl
theorem tab_100 : tab 100 = some ⟨TypeDesc.pointer 3, 1, 8, AV.nilp, false⟩ := rfl
theorem tab_104 : tab 104 = some ⟨TypeDesc.map 9 4, 1, 8, AV.nilm, false⟩ := rfl
theorem tab_105 : tab 105 = some ⟨TypeDesc.map 9 4, 1, 8, AV.nilm, false⟩ := rfl
theorem tab_113 : tab 113 = some ⟨TypeDesc.pointer 42, 1, 8, AV.nilp, false⟩ := rfl
theorem tab_115 : tab 115 = some ⟨TypeDesc.func #[61] #[4] false, 1, 8, AV.nilF, false⟩ := rfl
theorem tab_116 : tab 116 = some ⟨TypeDesc.int IntKind.u64, 1, 8, AV.int .u64 0, false⟩ := rfl
theorem tab_117 : tab 117 = some ⟨TypeDesc.slice 21, 1, 24, AV.ds true [] 0 true, false⟩ := rfl
theorem tab_124 : tab 124 = some ⟨TypeDesc.interface #[("concordat/value.kind", 200)], 1, 16, AV.nilI, false⟩ := rfl
theorem tab_125 : tab 125 = some ⟨TypeDesc.interface #[("concordat/value.kind", 200)], 1, 16, AV.nilI, false⟩ := rfl
theorem tab_126 : tab 126 = some ⟨TypeDesc.struct #[⟨"in", 125, 0, false, "", "concordat/value", 0⟩], 1, 16, AV.agg [AV.nilI], false⟩ := rfl
theorem tab_127 : tab 127 = some ⟨TypeDesc.struct #[⟨"in", 125, 0, false, "", "concordat/value", 0⟩], 1, 16, AV.agg [AV.nilI], false⟩ := rfl
theorem tab_131 : tab 131 = some ⟨TypeDesc.pointer 174, 1, 8, AV.nilp, false⟩ := rfl
theorem tab_134 : tab 134 = some ⟨TypeDesc.map 3 4, 1, 8, AV.nilm, false⟩ := rfl
theorem tab_141 : tab 141 = some ⟨TypeDesc.func #[61, 3] #[3] false, 1, 8, AV.nilF, false⟩ := rfl
theorem tab_143 : tab 143 = some ⟨TypeDesc.pointer 61, 1, 8, AV.nilp, false⟩ := rfl
theorem tab_155 : tab 155 = some ⟨TypeDesc.slice 127, 1, 24, AV.ds true [] 0 true, false⟩ := rfl
theorem tab_172 : tab 172 = some ⟨TypeDesc.slice 176, 1, 24, AV.ds true [] 0 true, false⟩ := rfl
theorem tab_173 : tab 173 = some ⟨TypeDesc.struct #[⟨"entries", 172, 0, false, "", "concordat/value", 0⟩, ⟨"rest", 22, 1, false, "", "concordat/value", 24⟩], 2, 48, AV.agg [AV.ds true [] 0 true, AV.ds true [] 0 true], false⟩ := rfl
theorem tab_174 : tab 174 = some ⟨TypeDesc.struct #[⟨"entries", 172, 0, false, "", "concordat/value", 0⟩, ⟨"rest", 22, 1, false, "", "concordat/value", 24⟩], 2, 48, AV.agg [AV.ds true [] 0 true, AV.ds true [] 0 true], false⟩ := rfl
theorem tab_175 : tab 175 = some ⟨TypeDesc.struct #[⟨"tag", 3, 0, false, "", "concordat/value", 0⟩, ⟨"l", 155, 1, false, "", "concordat/value", 8⟩], 2, 32, AV.agg [AV.int .i64 0, AV.ds true [] 0 true], false⟩ := rfl
theorem tab_176 : tab 176 = some ⟨TypeDesc.struct #[⟨"tag", 3, 0, false, "", "concordat/value", 0⟩, ⟨"l", 155, 1, false, "", "concordat/value", 8⟩], 2, 32, AV.agg [AV.int .i64 0, AV.ds true [] 0 true], false⟩ := rfl
theorem tab_182 : tab 182 = some ⟨TypeDesc.int IntKind.i64, 1, 8, AV.int .i64 0, false⟩ := rfl
theorem tab_183 : tab 183 = some ⟨TypeDesc.string, 1, 16, AV.str [], false⟩ := rfl
theorem tab_191 : tab 191 = some ⟨TypeDesc.struct #[⟨"lo", 5, 0, false, "", "unicode/utf8", 0⟩, ⟨"hi", 5, 1, false, "", "unicode/utf8", 1⟩], 2, 2, AV.agg [AV.int .u8 0, AV.int .u8 0], true⟩ := rfl
theorem tab_192 : tab 192 = some ⟨TypeDesc.struct #[⟨"lo", 5, 0, false, "", "unicode/utf8", 0⟩, ⟨"hi", 5, 1, false, "", "unicode/utf8", 1⟩], 2, 2, AV.agg [AV.int .u8 0, AV.int .u8 0], true⟩ := rfl
theorem tab_193 : tab 193 = some ⟨TypeDesc.array 16 192, 32, 32, AV.agg [AV.int .u8 0, AV.int .u8 0, AV.int .u8 0, AV.int .u8 0, AV.int .u8 0, AV.int .u8 0, AV.int .u8 0, AV.int .u8 0, AV.int .u8 0, AV.int .u8 0, AV.int .u8 0, AV.int .u8 0, AV.int .u8 0, AV.int .u8 0, AV.int .u8 0, AV.int .u8 0, AV.int .u8 0, AV.int .u8 0, AV.int .u8 0, AV.int .u8 0, AV.int .u8 0, AV.int .u8 0, AV.int .u8 0, AV.int .u8 0, AV.int .u8 0, AV.int .u8 0, AV.int .u8 0, AV.int .u8 0, AV.int .u8 0, AV.int .u8 0, AV.int .u8 0, AV.int .u8 0], true⟩ := rfl
theorem ok_1 : TI.OK Tryd.prog 1 ti1 := ⟨Tryd.underlying1, ⟨Tryd.t1, Tryd.type1, rfl, rfl, _, rfl, rfl, fun E => VR.constAV E (Value.nilFunc)⟩, (fun h => by cases h), rfl⟩
theorem ok_2 : TI.OK Tryd.prog 2 ti2 := ⟨Tryd.underlying2, ⟨Tryd.t2, Tryd.type2, rfl, rfl, _, rfl, rfl, fun E => VR.constAV E (Value.int IntKind.i64 0)⟩, (fun h => by cases h), rfl⟩
theorem ok_3 : TI.OK Tryd.prog 3 ti3 := ⟨Tryd.underlying3, ⟨Tryd.t3, Tryd.type3, rfl, rfl, _, rfl, rfl, fun E => VR.constAV E (Value.int IntKind.i64 0)⟩, (fun h => by cases h), rfl⟩
theorem ok_4 : TI.OK Tryd.prog 4 ti4 := ⟨Tryd.underlying4, ⟨Tryd.t4, Tryd.type4, rfl, rfl, _, rfl, rfl, fun E => VR.constAV E (Value.bool false)⟩, (fun h => by cases h), rfl⟩
theorem ok_5 : TI.OK Tryd.prog 5 ti5 := ⟨Tryd.underlying5, ⟨Tryd.t5, Tryd.type5, rfl, rfl, _, rfl, rfl, fun E => VR.constAV E (Value.int IntKind.u8 0)⟩, (fun h => by cases h), rfl⟩
theorem ok_9 : TI.OK Tryd.prog 9 ti9 := ⟨Tryd.underlying9, ⟨Tryd.t9, Tryd.type9, rfl, rfl, _, rfl, rfl, fun E => VR.constAV E (Value.string { data := #[] })⟩, (fun h => by cases h), rfl⟩
theorem ok_20 : TI.OK Tryd.prog 20 ti20 := ⟨Tryd.underlying20, ⟨Tryd.t20, Tryd.type20, rfl, rfl, _, rfl, rfl, fun E => VR.constAV E (Value.nilIface)⟩, (fun h => by cases h), rfl⟩
theorem ok_21 : TI.OK Tryd.prog 21 ti21 := ⟨Tryd.underlying21, ⟨Tryd.t21, Tryd.type21, rfl, rfl, _, rfl, rfl, fun E => VR.constAV E (Value.int IntKind.i32 0)⟩, (fun h => by cases h), rfl⟩
theorem ok_22 : TI.OK Tryd.prog 22 ti22 := ⟨Tryd.underlying22, ⟨Tryd.t22, Tryd.type22, rfl, rfl, _, rfl, rfl, fun E => VR.constAV E (Value.slice none 0 0)⟩, (fun h => by cases h), rfl⟩
theorem ok_23 : TI.OK Tryd.prog 23 ti23 := ⟨Tryd.underlying23, ⟨Tryd.t23, Tryd.type23, rfl, rfl, _, rfl, rfl, fun E => VR.constAV E (Value.slice none 0 0)⟩, (fun h => by cases h), rfl⟩
theorem ok_24 : TI.OK Tryd.prog 24 ti24 := ⟨Tryd.underlying24, ⟨Tryd.t24, Tryd.type24, rfl, rfl, _, rfl, rfl, fun E => VR.constAV E (Value.slice none 0 0)⟩, (fun h => by cases h), rfl⟩
theorem ok_25 : TI.OK Tryd.prog 25 ti25 := ⟨Tryd.underlying25, ⟨Tryd.t25, Tryd.type25, rfl, rfl, _, rfl, rfl, fun E => VR.constAV E (Value.agg #[Value.string { data := #[] }, Value.slice none 0 0, Value.slice none 0 0])⟩, (fun h => by cases h), rfl⟩
theorem ok_26 : TI.OK Tryd.prog 26 ti26 := ⟨Tryd.underlying26, ⟨Tryd.t26, Tryd.type26, rfl, rfl, _, rfl, rfl, fun E => VR.constAV E (Value.agg #[Value.string { data := #[] }, Value.slice none 0 0, Value.slice none 0 0])⟩, (fun h => by cases h), rfl⟩
theorem ok_27 : TI.OK Tryd.prog 27 ti27 := ⟨Tryd.underlying27, ⟨Tryd.t27, Tryd.type27, rfl, rfl, _, rfl, rfl, fun E => VR.constAV E (Value.slice none 0 0)⟩, (fun h => by cases h), rfl⟩
theorem ok_28 : TI.OK Tryd.prog 28 ti28 := ⟨Tryd.underlying28, ⟨Tryd.t28, Tryd.type28, rfl, rfl, _, rfl, rfl, fun E => VR.constAV E (Value.slice none 0 0)⟩, (fun h => by cases h), rfl⟩
theorem ok_29 : TI.OK Tryd.prog 29 ti29 := ⟨Tryd.underlying29, ⟨Tryd.t29, Tryd.type29, rfl, rfl, _, rfl, rfl, fun E => VR.constAV E (Value.slice none 0 0)⟩, (fun h => by cases h), rfl⟩
theorem ok_30 : TI.OK Tryd.prog 30 ti30 := ⟨Tryd.underlying30, ⟨Tryd.t30, Tryd.type30, rfl, rfl, _, rfl, rfl, fun E => VR.constAV E (Value.agg #[Value.string { data := #[] }, Value.slice none 0 0, Value.slice none 0 0, Value.slice none 0 0])⟩, (fun h => by cases h), rfl⟩
theorem ok_31 : TI.OK Tryd.prog 31 ti31 := ⟨Tryd.underlying31, ⟨Tryd.t31, Tryd.type31, rfl, rfl, _, rfl, rfl, fun E => VR.constAV E (Value.agg #[Value.string { data := #[] }, Value.slice none 0 0, Value.slice none 0 0, Value.slice none 0 0])⟩, (fun h => by cases h), rfl⟩
theorem ok_32 : TI.OK Tryd.prog 32 ti32 := ⟨Tryd.underlying32, ⟨Tryd.t32, Tryd.type32, rfl, rfl, _, rfl, rfl, fun E => VR.constAV E (Value.agg #[Value.int IntKind.i64 0, Value.int IntKind.i64 0, Value.int IntKind.i64 0, Value.string { data := #[] }])⟩, (fun _ => ⟨by kernel_rfl, by kernel_rfl⟩), rfl⟩
theorem ok_33 : TI.OK Tryd.prog 33 ti33 := ⟨Tryd.underlying33, ⟨Tryd.t33, Tryd.type33, rfl, rfl, _, rfl, rfl, fun E => VR.constAV E (Value.agg #[Value.int IntKind.i64 0, Value.int IntKind.i64 0, Value.int IntKind.i64 0, Value.string { data := #[] }])⟩, (fun _ => ⟨by kernel_rfl, by kernel_rfl⟩), rfl⟩
theorem ok_35 : TI.OK Tryd.prog 35 ti35 := ⟨Tryd.underlying35, ⟨Tryd.t35, Tryd.type35, rfl, rfl, _, rfl, rfl, fun E => VR.constAV E (Value.slice none 0 0)⟩, (fun h => by cases h), rfl⟩
theorem ok_36 : TI.OK Tryd.prog 36 ti36 := ⟨Tryd.underlying36, ⟨Tryd.t36, Tryd.type36, rfl, rfl, _, rfl, rfl, fun E => VR.constAV E (Value.int IntKind.i64 0)⟩, (fun h => by cases h), rfl⟩
theorem ok_40 : TI.OK Tryd.prog 40 ti40 := ⟨Tryd.underlying40, ⟨Tryd.t40, Tryd.type40, rfl, rfl, _, rfl, rfl, fun E => VR.constAV E (Value.slice none 0 0)⟩, (fun h => by cases h), rfl⟩
theorem ok_41 : TI.OK Tryd.prog 41 ti41 := ⟨Tryd.underlying41, ⟨Tryd.t41, Tryd.type41, rfl, rfl, _, rfl, rfl, fun E => VR.constAV E (Value.agg #[Value.int IntKind.i64 0, Value.int IntKind.i64 0, Value.string { data := #[] }, Value.slice none 0 0, Value.slice none 0 0])⟩, (fun h => by cases h), rfl⟩
theorem ok_42 : TI.OK Tryd.prog 42 ti42 := ⟨Tryd.underlying42, ⟨Tryd.t42, Tryd.type42, rfl, rfl, _, rfl, rfl, fun E => VR.constAV E (Value.agg #[Value.int IntKind.i64 0, Value.int IntKind.i64 0, Value.string { data := #[] }, Value.slice none 0 0, Value.slice none 0 0])⟩, (fun h => by cases h), rfl⟩
theorem ok_49 : TI.OK Tryd.prog 49 ti49 := ⟨Tryd.underlying49, ⟨Tryd.t49, Tryd.type49, rfl, rfl, _, rfl, rfl, fun E => VR.constAV E (Value.agg #[Value.int IntKind.i64 0, Value.string { data := #[] }])⟩, (fun _ => ⟨by kernel_rfl, by kernel_rfl⟩), rfl⟩
theorem ok_50 : TI.OK Tryd.prog 50 ti50 := ⟨Tryd.underlying50, ⟨Tryd.t50, Tryd.type50, rfl, rfl, _, rfl, rfl, fun E => VR.constAV E (Value.agg #[Value.int IntKind.i64 0, Value.string { data := #[] }])⟩, (fun _ => ⟨by kernel_rfl, by kernel_rfl⟩), rfl⟩
theorem ok_51 : TI.OK Tryd.prog 51 ti51 := ⟨Tryd.underlying51, ⟨Tryd.t51, Tryd.type51, rfl, rfl, _, rfl, rfl, fun E => VR.constAV E (Value.agg #[Value.string { data := #[] }, Value.int IntKind.i64 0, Value.int IntKind.i64 0, Value.int IntKind.i64 0, Value.string { data := #[] }])⟩, (fun _ => ⟨by kernel_rfl, by kernel_rfl⟩), rfl⟩
theorem ok_52 : TI.OK Tryd.prog 52 ti52 := ⟨Tryd.underlying52, ⟨Tryd.t52, Tryd.type52, rfl, rfl, _, rfl, rfl, fun E => VR.constAV E (Value.agg #[Value.string { data := #[] }, Value.int IntKind.i64 0, Value.int IntKind.i64 0, Value.int IntKind.i64 0, Value.string { data := #[] }])⟩, (fun _ => ⟨by kernel_rfl, by kernel_rfl⟩), rfl⟩
theorem ok_59 : TI.OK Tryd.prog 59 ti59 := ⟨Tryd.underlying59, ⟨Tryd.t59, Tryd.type59, rfl, rfl, _, rfl, rfl, fun E => VR.constAV E (Value.slice none 0 0)⟩, (fun h => by cases h), rfl⟩
theorem ok_60 : TI.OK Tryd.prog 60 ti60 := ⟨Tryd.underlying60, ⟨Tryd.t60, Tryd.type60, rfl, rfl, _, rfl, rfl, fun E => VR.constAV E (Value.agg #[Value.int IntKind.i64 0, Value.slice none 0 0])⟩, (fun h => by cases h), rfl⟩
theorem ok_61 : TI.OK Tryd.prog 61 ti61 := ⟨Tryd.underlying61, ⟨Tryd.t61, Tryd.type61, rfl, rfl, _, rfl, rfl, fun E => VR.constAV E (Value.agg #[Value.int IntKind.i64 0, Value.slice none 0 0])⟩, (fun h => by cases h), rfl⟩
theorem ok_63 : TI.OK Tryd.prog 63 ti63 := ⟨Tryd.underlying63, ⟨Tryd.t63, Tryd.type63, rfl, rfl, _, rfl, rfl, fun E => VR.constAV E (Value.agg #[Value.int IntKind.i64 0, Value.int IntKind.i64 0, Value.int IntKind.i64 0, Value.int IntKind.i64 0, Value.int IntKind.i64 0, Value.string { data := #[] }, Value.int IntKind.i64 0, Value.string { data := #[] }])⟩, (fun _ => ⟨by kernel_rfl, by kernel_rfl⟩), rfl⟩
theorem ok_64 : TI.OK Tryd.prog 64 ti64 := ⟨Tryd.underlying64, ⟨Tryd.t64, Tryd.type64, rfl, rfl, _, rfl, rfl, fun E => VR.constAV E (Value.agg #[Value.int IntKind.i64 0, Value.int IntKind.i64 0, Value.int IntKind.i64 0, Value.int IntKind.i64 0, Value.int IntKind.i64 0, Value.string { data := #[] }, Value.int IntKind.i64 0, Value.string { data := #[] }])⟩, (fun _ => ⟨by kernel_rfl, by kernel_rfl⟩), rfl⟩
theorem ok_72 : TI.OK Tryd.prog 72 ti72 := ⟨Tryd.underlying72, ⟨Tryd.t72, Tryd.type72, rfl, rfl, _, rfl, rfl, fun E => VR.constAV E (Value.agg #[Value.string { data := #[] }, Value.string { data := #[] }, Value.string { data := #[] }])⟩, (fun _ => ⟨by kernel_rfl, by kernel_rfl⟩), rfl⟩
theorem ok_73 : TI.OK Tryd.prog 73 ti73 := ⟨Tryd.underlying73, ⟨Tryd.t73, Tryd.type73, rfl, rfl, _, rfl, rfl, fun E => VR.constAV E (Value.agg #[Value.string { data := #[] }, Value.string { data := #[] }, Value.string { data := #[] }])⟩, (fun _ => ⟨by kernel_rfl, by kernel_rfl⟩), rfl⟩
theorem ok_75 : TI.OK Tryd.prog 75 ti75 := ⟨Tryd.underlying75, ⟨Tryd.t75, Tryd.type75, rfl, rfl, _, rfl, rfl, fun E => VR.constAV E (Value.slice none 0 0)⟩, (fun h => by cases h), rfl⟩
theorem ok_85 : TI.OK Tryd.prog 85 ti85 := ⟨Tryd.underlying85, ⟨Tryd.t85, Tryd.type85, rfl, rfl, _, rfl, rfl, fun E => VR.constAV E (Value.int IntKind.u64 0)⟩, (fun h => by cases h), rfl⟩
theorem ok_88 : TI.OK Tryd.prog 88 ti88 := ⟨Tryd.underlying88, ⟨Tryd.t88, Tryd.type88, rfl, rfl, _, rfl, rfl, fun E => VR.constAV E (Value.slice none 0 0)⟩, (fun h => by cases h), rfl⟩
theorem ok_89 : TI.OK Tryd.prog 89 ti89 := ⟨Tryd.underlying89, ⟨Tryd.t89, Tryd.type89, rfl, rfl, _, rfl, rfl, fun E => VR.constAV E (Value.agg #[Value.string { data := #[] }, Value.slice none 0 0])⟩, (fun h => by cases h), rfl⟩
theorem ok_90 : TI.OK Tryd.prog 90 ti90 := ⟨Tryd.underlying90, ⟨Tryd.t90, Tryd.type90, rfl, rfl, _, rfl, rfl, fun E => VR.constAV E (Value.agg #[Value.string { data := #[] }, Value.slice none 0 0])⟩, (fun h => by cases h), rfl⟩
theorem ok_91 : TI.OK Tryd.prog 91 ti91 := ⟨Tryd.underlying91, ⟨Tryd.t91, Tryd.type91, rfl, rfl, _, rfl, rfl, fun E => VR.constAV E (Value.agg #[Value.string { data := #[] }, Value.int IntKind.i64 0])⟩, (fun _ => ⟨by kernel_rfl, by kernel_rfl⟩), rfl⟩
theorem ok_92 : TI.OK Tryd.prog 92 ti92 := ⟨Tryd.underlying92, ⟨Tryd.t92, Tryd.type92, rfl, rfl, _, rfl, rfl, fun E => VR.constAV E (Value.agg #[Value.string { data := #[] }, Value.int IntKind.i64 0])⟩, (fun _ => ⟨by kernel_rfl, by kernel_rfl⟩), rfl⟩
theorem ok_94 : TI.OK Tryd.prog 94 ti94 := ⟨Tryd.underlying94, ⟨Tryd.t94, Tryd.type94, rfl, rfl, _, rfl, rfl, fun E => VR.constAV E (Value.slice none 0 0)⟩, (fun h => by cases h), rfl⟩
theorem ok_100 : TI.OK Tryd.prog 100 ti100 := ⟨Tryd.underlying100, ⟨Tryd.t100, Tryd.type100, rfl, rfl, _, rfl, rfl, fun E => VR.constAV E (Value.pointer none)⟩, (fun h => by cases h), rfl⟩
theorem ok_104 : TI.OK Tryd.prog 104 ti104 := ⟨Tryd.underlying104, ⟨Tryd.t104, Tryd.type104, rfl, rfl, _, rfl, rfl, fun E => VR.constAV E (Value.map none)⟩, (fun h => by cases h), rfl⟩
theorem ok_105 : TI.OK Tryd.prog 105 ti105 := ⟨Tryd.underlying105, ⟨Tryd.t105, Tryd.type105, rfl, rfl, _, rfl, rfl, fun E => VR.constAV E (Value.map none)⟩, (fun h => by cases h), rfl⟩
theorem ok_113 : TI.OK Tryd.prog 113 ti113 := ⟨Tryd.underlying113, ⟨Tryd.t113, Tryd.type113, rfl, rfl, _, rfl, rfl, fun E => VR.constAV E (Value.pointer none)⟩, (fun h => by cases h), rfl⟩
theorem ok_115 : TI.OK Tryd.prog 115 ti115 := ⟨Tryd.underlying115, ⟨Tryd.t115, Tryd.type115, rfl, rfl, _, rfl, rfl, fun E => VR.constAV E (Value.nilFunc)⟩, (fun h => by cases h), rfl⟩
theorem ok_116 : TI.OK Tryd.prog 116 ti116 := ⟨Tryd.underlying116, ⟨Tryd.t116, Tryd.type116, rfl, rfl, _, rfl, rfl, fun E => VR.constAV E (Value.int IntKind.u64 0)⟩, (fun h => by cases h), rfl⟩
theorem ok_117 : TI.OK Tryd.prog 117 ti117 := ⟨Tryd.underlying117, ⟨Tryd.t117, Tryd.type117, rfl, rfl, _, rfl, rfl, fun E => VR.constAV E (Value.slice none 0 0)⟩, (fun h => by cases h), rfl⟩
theorem ok_124 : TI.OK Tryd.prog 124 ti124 := ⟨Tryd.underlying124, ⟨Tryd.t124, Tryd.type124, rfl, rfl, _, rfl, rfl, fun E => VR.constAV E (Value.nilIface)⟩, (fun h => by cases h), rfl⟩
theorem ok_125 : TI.OK Tryd.prog 125 ti125 := ⟨Tryd.underlying125, ⟨Tryd.t125, Tryd.type125, rfl, rfl, _, rfl, rfl, fun E => VR.constAV E (Value.nilIface)⟩, (fun h => by cases h), rfl⟩
theorem ok_126 : TI.OK Tryd.prog 126 ti126 := ⟨Tryd.underlying126, ⟨Tryd.t126, Tryd.type126, rfl, rfl, _, rfl, rfl, fun E => VR.constAV E (Value.agg #[Value.nilIface])⟩, (fun h => by cases h), rfl⟩
theorem ok_127 : TI.OK Tryd.prog 127 ti127 := ⟨Tryd.underlying127, ⟨Tryd.t127, Tryd.type127, rfl, rfl, _, rfl, rfl, fun E => VR.constAV E (Value.agg #[Value.nilIface])⟩, (fun h => by cases h), rfl⟩
theorem ok_131 : TI.OK Tryd.prog 131 ti131 := ⟨Tryd.underlying131, ⟨Tryd.t131, Tryd.type131, rfl, rfl, _, rfl, rfl, fun E => VR.constAV E (Value.pointer none)⟩, (fun h => by cases h), rfl⟩
theorem ok_134 : TI.OK Tryd.prog 134 ti134 := ⟨Tryd.underlying134, ⟨Tryd.t134, Tryd.type134, rfl, rfl, _, rfl, rfl, fun E => VR.constAV E (Value.map none)⟩, (fun h => by cases h), rfl⟩
theorem ok_141 : TI.OK Tryd.prog 141 ti141 := ⟨Tryd.underlying141, ⟨Tryd.t141, Tryd.type141, rfl, rfl, _, rfl, rfl, fun E => VR.constAV E (Value.nilFunc)⟩, (fun h => by cases h), rfl⟩
theorem ok_143 : TI.OK Tryd.prog 143 ti143 := ⟨Tryd.underlying143, ⟨Tryd.t143, Tryd.type143, rfl, rfl, _, rfl, rfl, fun E => VR.constAV E (Value.pointer none)⟩, (fun h => by cases h), rfl⟩
theorem ok_155 : TI.OK Tryd.prog 155 ti155 := ⟨Tryd.underlying155, ⟨Tryd.t155, Tryd.type155, rfl, rfl, _, rfl, rfl, fun E => VR.constAV E (Value.slice none 0 0)⟩, (fun h => by cases h), rfl⟩
theorem ok_172 : TI.OK Tryd.prog 172 ti172 := ⟨Tryd.underlying172, ⟨Tryd.t172, Tryd.type172, rfl, rfl, _, rfl, rfl, fun E => VR.constAV E (Value.slice none 0 0)⟩, (fun h => by cases h), rfl⟩
theorem ok_173 : TI.OK Tryd.prog 173 ti173 := ⟨Tryd.underlying173, ⟨Tryd.t173, Tryd.type173, rfl, rfl, _, rfl, rfl, fun E => VR.constAV E (Value.agg #[Value.slice none 0 0, Value.slice none 0 0])⟩, (fun h => by cases h), rfl⟩
theorem ok_174 : TI.OK Tryd.prog 174 ti174 := ⟨Tryd.underlying174, ⟨Tryd.t174, Tryd.type174, rfl, rfl, _, rfl, rfl, fun E => VR.constAV E (Value.agg #[Value.slice none 0 0, Value.slice none 0 0])⟩, (fun h => by cases h), rfl⟩
theorem ok_175 : TI.OK Tryd.prog 175 ti175 := ⟨Tryd.underlying175, ⟨Tryd.t175, Tryd.type175, rfl, rfl, _, rfl, rfl, fun E => VR.constAV E (Value.agg #[Value.int IntKind.i64 0, Value.slice none 0 0])⟩, (fun h => by cases h), rfl⟩
theorem ok_176 : TI.OK Tryd.prog 176 ti176 := ⟨Tryd.underlying176, ⟨Tryd.t176, Tryd.type176, rfl, rfl, _, rfl, rfl, fun E => VR.constAV E (Value.agg #[Value.int IntKind.i64 0, Value.slice none 0 0])⟩, (fun h => by cases h), rfl⟩
theorem ok_182 : TI.OK Tryd.prog 182 ti182 := ⟨Tryd.underlying182, ⟨Tryd.t182, Tryd.type182, rfl, rfl, _, rfl, rfl, fun E => VR.constAV E (Value.int IntKind.i64 0)⟩, (fun h => by cases h), rfl⟩
theorem ok_183 : TI.OK Tryd.prog 183 ti183 := ⟨Tryd.underlying183, ⟨Tryd.t183, Tryd.type183, rfl, rfl, _, rfl, rfl, fun E => VR.constAV E (Value.string { data := #[] })⟩, (fun h => by cases h), rfl⟩
theorem ok_191 : TI.OK Tryd.prog 191 ti191 := ⟨Tryd.underlying191, ⟨Tryd.t191, Tryd.type191, rfl, rfl, _, rfl, rfl, fun E => VR.constAV E (Value.agg #[Value.int IntKind.u8 0, Value.int IntKind.u8 0])⟩, (fun _ => ⟨by kernel_rfl, by kernel_rfl⟩), rfl⟩
theorem ok_192 : TI.OK Tryd.prog 192 ti192 := ⟨Tryd.underlying192, ⟨Tryd.t192, Tryd.type192, rfl, rfl, _, rfl, rfl, fun E => VR.constAV E (Value.agg #[Value.int IntKind.u8 0, Value.int IntKind.u8 0])⟩, (fun _ => ⟨by kernel_rfl, by kernel_rfl⟩), rfl⟩
theorem ok_193 : TI.OK Tryd.prog 193 ti193 := ⟨Tryd.underlying193, ⟨Tryd.t193, Tryd.type193, rfl, rfl, _, rfl, rfl, fun E => VR.constAV E (Value.agg #[Value.int IntKind.u8 0, Value.int IntKind.u8 0, Value.int IntKind.u8 0, Value.int IntKind.u8 0, Value.int IntKind.u8 0, Value.int IntKind.u8 0, Value.int IntKind.u8 0, Value.int IntKind.u8 0, Value.int IntKind.u8 0, Value.int IntKind.u8 0, Value.int IntKind.u8 0, Value.int IntKind.u8 0, Value.int IntKind.u8 0, Value.int IntKind.u8 0, Value.int IntKind.u8 0, Value.int IntKind.u8 0, Value.int IntKind.u8 0, Value.int IntKind.u8 0, Value.int IntKind.u8 0, Value.int IntKind.u8 0, Value.int IntKind.u8 0, Value.int IntKind.u8 0, Value.int IntKind.u8 0, Value.int IntKind.u8 0, Value.int IntKind.u8 0, Value.int IntKind.u8 0, Value.int IntKind.u8 0, Value.int IntKind.u8 0, Value.int IntKind.u8 0, Value.int IntKind.u8 0, Value.int IntKind.u8 0, Value.int IntKind.u8 0])⟩, (fun _ => ⟨by kernel_rfl, by kernel_rfl⟩), rfl⟩
theorem allOK : AllOK Tryd.prog 0 tabL := ⟨ok_1, ok_2, ok_3, ok_4, ok_5, ok_9, ok_20, ok_21, ok_22, ok_23, ok_24, ok_25, ok_26, ok_27, ok_28, ok_29, ok_30, ok_31, ok_32, ok_33, ok_35, ok_36, ok_40, ok_41, ok_42, ok_49, ok_50, ok_51, ok_52, ok_59, ok_60, ok_61, ok_63, ok_64, ok_72, ok_73, ok_75, ok_85, ok_88, ok_89, ok_90, ok_91, ok_92, ok_94, ok_100, ok_104, ok_105, ok_113, ok_115, ok_116, ok_117, ok_124, ok_125, ok_126, ok_127, ok_131, ok_134, ok_141, ok_143, ok_155, ok_172, ok_173, ok_174, ok_175, ok_176, ok_182, ok_183, ok_191, ok_192, ok_193, trivial⟩
theorem tok : TOK Tryd.prog tab := tok_of allOK
theorem sz_1 : sized tab 1 = true := rfl
theorem sz_2 : sized tab 2 = true := rfl
theorem cd_2 : cellsD tab 20 2 = some [TypeDesc.int IntKind.i64] := rfl
theorem sz_3 : sized tab 3 = true := rfl
theorem cd_3 : cellsD tab 20 3 = some [TypeDesc.int IntKind.i64] := rfl
theorem sz_4 : sized tab 4 = true := rfl
theorem cd_4 : cellsD tab 20 4 = some [TypeDesc.bool] := rfl
theorem sz_5 : sized tab 5 = true := rfl
theorem cd_5 : cellsD tab 20 5 = some [TypeDesc.int IntKind.u8] := rfl
theorem sz_9 : sized tab 9 = true := rfl
theorem cd_9 : cellsD tab 20 9 = some [TypeDesc.string] := rfl
theorem len_9 (s : List UInt8) (σ : Store) : zx1 tab 9 (.str s) σ = some (.int .i64 s.length) := rfl
theorem sz_20 : sized tab 20 = true := rfl
theorem sz_21 : sized tab 21 = true := rfl
theorem cd_21 : cellsD tab 20 21 = some [TypeDesc.int IntKind.i32] := rfl
theorem sz_22 : sized tab 22 = true := rfl
theorem len_22 (nl : Bool) (cs : List AV) (len : Nat) (t : Bool) (σ : Store) : zx1 tab 22 (.ds nl cs len t) σ = some (.int .i64 len) := rfl
theorem leno_22 (nl : Bool) (sz id ver off len : Nat) (t : Bool) (σ : Store) : zx1 tab 22 (.os nl sz id ver off len t) σ = some (.int .i64 len) := rfl
theorem sz_23 : sized tab 23 = true := rfl
theorem len_23 (nl : Bool) (cs : List AV) (len : Nat) (t : Bool) (σ : Store) : zx1 tab 23 (.ds nl cs len t) σ = some (.int .i64 len) := rfl
theorem leno_23 (nl : Bool) (sz id ver off len : Nat) (t : Bool) (σ : Store) : zx1 tab 23 (.os nl sz id ver off len t) σ = some (.int .i64 len) := rfl
theorem sz_24 : sized tab 24 = true := rfl
theorem len_24 (nl : Bool) (cs : List AV) (len : Nat) (t : Bool) (σ : Store) : zx1 tab 24 (.ds nl cs len t) σ = some (.int .i64 len) := rfl
theorem leno_24 (nl : Bool) (sz id ver off len : Nat) (t : Bool) (σ : Store) : zx1 tab 24 (.os nl sz id ver off len t) σ = some (.int .i64 len) := rfl
theorem sz_25 : sized tab 25 = true := rfl
theorem fao_25_0 (id ver off : Nat) : zf tab 25 (.op id ver off) 0 = some (.op id ver (off + 0)) := rfl
theorem fad_25_0 (cs : List AV) (off : Nat) : zf tab 25 (.dp cs off) 0 = some (.dp cs (off + 0)) := rfl
theorem fao_25_1 (id ver off : Nat) : zf tab 25 (.op id ver off) 1 = some (.op id ver (off + 1)) := rfl
theorem fad_25_1 (cs : List AV) (off : Nat) : zf tab 25 (.dp cs off) 1 = some (.dp cs (off + 1)) := rfl
theorem fao_25_2 (id ver off : Nat) : zf tab 25 (.op id ver off) 2 = some (.op id ver (off + 2)) := rfl
theorem fad_25_2 (cs : List AV) (off : Nat) : zf tab 25 (.dp cs off) 2 = some (.dp cs (off + 2)) := rfl
theorem sz_26 : sized tab 26 = true := rfl
theorem fao_26_0 (id ver off : Nat) : zf tab 26 (.op id ver off) 0 = some (.op id ver (off + 0)) := rfl
theorem fad_26_0 (cs : List AV) (off : Nat) : zf tab 26 (.dp cs off) 0 = some (.dp cs (off + 0)) := rfl
theorem fao_26_1 (id ver off : Nat) : zf tab 26 (.op id ver off) 1 = some (.op id ver (off + 1)) := rfl
theorem fad_26_1 (cs : List AV) (off : Nat) : zf tab 26 (.dp cs off) 1 = some (.dp cs (off + 1)) := rfl
theorem fao_26_2 (id ver off : Nat) : zf tab 26 (.op id ver off) 2 = some (.op id ver (off + 2)) := rfl
theorem fad_26_2 (cs : List AV) (off : Nat) : zf tab 26 (.dp cs off) 2 = some (.dp cs (off + 2)) := rfl
theorem sz_27 : sized tab 27 = true := rfl
theorem len_27 (nl : Bool) (cs : List AV) (len : Nat) (t : Bool) (σ : Store) : zx1 tab 27 (.ds nl cs len t) σ = some (.int .i64 len) := rfl
theorem leno_27 (nl : Bool) (sz id ver off len : Nat) (t : Bool) (σ : Store) : zx1 tab 27 (.os nl sz id ver off len t) σ = some (.int .i64 len) := rfl
theorem sz_28 : sized tab 28 = true := rfl
theorem len_28 (nl : Bool) (cs : List AV) (len : Nat) (t : Bool) (σ : Store) : zx1 tab 28 (.ds nl cs len t) σ = some (.int .i64 len) := rfl
theorem leno_28 (nl : Bool) (sz id ver off len : Nat) (t : Bool) (σ : Store) : zx1 tab 28 (.os nl sz id ver off len t) σ = some (.int .i64 len) := rfl
theorem sz_29 : sized tab 29 = true := rfl
theorem len_29 (nl : Bool) (cs : List AV) (len : Nat) (t : Bool) (σ : Store) : zx1 tab 29 (.ds nl cs len t) σ = some (.int .i64 len) := rfl
theorem leno_29 (nl : Bool) (sz id ver off len : Nat) (t : Bool) (σ : Store) : zx1 tab 29 (.os nl sz id ver off len t) σ = some (.int .i64 len) := rfl
theorem sz_30 : sized tab 30 = true := rfl
theorem fao_30_0 (id ver off : Nat) : zf tab 30 (.op id ver off) 0 = some (.op id ver (off + 0)) := rfl
theorem fad_30_0 (cs : List AV) (off : Nat) : zf tab 30 (.dp cs off) 0 = some (.dp cs (off + 0)) := rfl
theorem fao_30_1 (id ver off : Nat) : zf tab 30 (.op id ver off) 1 = some (.op id ver (off + 1)) := rfl
theorem fad_30_1 (cs : List AV) (off : Nat) : zf tab 30 (.dp cs off) 1 = some (.dp cs (off + 1)) := rfl
theorem fao_30_2 (id ver off : Nat) : zf tab 30 (.op id ver off) 2 = some (.op id ver (off + 2)) := rfl
theorem fad_30_2 (cs : List AV) (off : Nat) : zf tab 30 (.dp cs off) 2 = some (.dp cs (off + 2)) := rfl
theorem fao_30_3 (id ver off : Nat) : zf tab 30 (.op id ver off) 3 = some (.op id ver (off + 3)) := rfl
theorem fad_30_3 (cs : List AV) (off : Nat) : zf tab 30 (.dp cs off) 3 = some (.dp cs (off + 3)) := rfl
theorem sz_31 : sized tab 31 = true := rfl
theorem fao_31_0 (id ver off : Nat) : zf tab 31 (.op id ver off) 0 = some (.op id ver (off + 0)) := rfl
theorem fad_31_0 (cs : List AV) (off : Nat) : zf tab 31 (.dp cs off) 0 = some (.dp cs (off + 0)) := rfl
theorem fao_31_1 (id ver off : Nat) : zf tab 31 (.op id ver off) 1 = some (.op id ver (off + 1)) := rfl
theorem fad_31_1 (cs : List AV) (off : Nat) : zf tab 31 (.dp cs off) 1 = some (.dp cs (off + 1)) := rfl
theorem fao_31_2 (id ver off : Nat) : zf tab 31 (.op id ver off) 2 = some (.op id ver (off + 2)) := rfl
theorem fad_31_2 (cs : List AV) (off : Nat) : zf tab 31 (.dp cs off) 2 = some (.dp cs (off + 2)) := rfl
theorem fao_31_3 (id ver off : Nat) : zf tab 31 (.op id ver off) 3 = some (.op id ver (off + 3)) := rfl
theorem fad_31_3 (cs : List AV) (off : Nat) : zf tab 31 (.dp cs off) 3 = some (.dp cs (off + 3)) := rfl
theorem sz_32 : sized tab 32 = true := rfl
theorem cd_32 : cellsD tab 20 32 = some [TypeDesc.int IntKind.i64, TypeDesc.int IntKind.i64, TypeDesc.int IntKind.i64, TypeDesc.string] := rfl
theorem fao_32_0 (id ver off : Nat) : zf tab 32 (.op id ver off) 0 = some (.op id ver (off + 0)) := rfl
theorem fad_32_0 (cs : List AV) (off : Nat) : zf tab 32 (.dp cs off) 0 = some (.dp cs (off + 0)) := rfl
theorem fao_32_1 (id ver off : Nat) : zf tab 32 (.op id ver off) 1 = some (.op id ver (off + 1)) := rfl
theorem fad_32_1 (cs : List AV) (off : Nat) : zf tab 32 (.dp cs off) 1 = some (.dp cs (off + 1)) := rfl
theorem fao_32_2 (id ver off : Nat) : zf tab 32 (.op id ver off) 2 = some (.op id ver (off + 2)) := rfl
theorem fad_32_2 (cs : List AV) (off : Nat) : zf tab 32 (.dp cs off) 2 = some (.dp cs (off + 2)) := rfl
theorem fao_32_3 (id ver off : Nat) : zf tab 32 (.op id ver off) 3 = some (.op id ver (off + 3)) := rfl
theorem fad_32_3 (cs : List AV) (off : Nat) : zf tab 32 (.dp cs off) 3 = some (.dp cs (off + 3)) := rfl
theorem sz_33 : sized tab 33 = true := rfl
theorem cd_33 : cellsD tab 20 33 = some [TypeDesc.int IntKind.i64, TypeDesc.int IntKind.i64, TypeDesc.int IntKind.i64, TypeDesc.string] := rfl
theorem fao_33_0 (id ver off : Nat) : zf tab 33 (.op id ver off) 0 = some (.op id ver (off + 0)) := rfl
theorem fad_33_0 (cs : List AV) (off : Nat) : zf tab 33 (.dp cs off) 0 = some (.dp cs (off + 0)) := rfl
theorem fao_33_1 (id ver off : Nat) : zf tab 33 (.op id ver off) 1 = some (.op id ver (off + 1)) := rfl
theorem fad_33_1 (cs : List AV) (off : Nat) : zf tab 33 (.dp cs off) 1 = some (.dp cs (off + 1)) := rfl
theorem fao_33_2 (id ver off : Nat) : zf tab 33 (.op id ver off) 2 = some (.op id ver (off + 2)) := rfl
theorem fad_33_2 (cs : List AV) (off : Nat) : zf tab 33 (.dp cs off) 2 = some (.dp cs (off + 2)) := rfl
theorem fao_33_3 (id ver off : Nat) : zf tab 33 (.op id ver off) 3 = some (.op id ver (off + 3)) := rfl
theorem fad_33_3 (cs : List AV) (off : Nat) : zf tab 33 (.dp cs off) 3 = some (.dp cs (off + 3)) := rfl
theorem sz_35 : sized tab 35 = true := rfl
theorem len_35 (nl : Bool) (cs : List AV) (len : Nat) (t : Bool) (σ : Store) : zx1 tab 35 (.ds nl cs len t) σ = some (.int .i64 len) := rfl
theorem leno_35 (nl : Bool) (sz id ver off len : Nat) (t : Bool) (σ : Store) : zx1 tab 35 (.os nl sz id ver off len t) σ = some (.int .i64 len) := rfl
theorem sz_36 : sized tab 36 = true := rfl
theorem cd_36 : cellsD tab 20 36 = some [TypeDesc.int IntKind.i64] := rfl
theorem sz_40 : sized tab 40 = true := rfl
theorem len_40 (nl : Bool) (cs : List AV) (len : Nat) (t : Bool) (σ : Store) : zx1 tab 40 (.ds nl cs len t) σ = some (.int .i64 len) := rfl
theorem leno_40 (nl : Bool) (sz id ver off len : Nat) (t : Bool) (σ : Store) : zx1 tab 40 (.os nl sz id ver off len t) σ = some (.int .i64 len) := rfl
theorem sz_41 : sized tab 41 = true := rfl
theorem fao_41_0 (id ver off : Nat) : zf tab 41 (.op id ver off) 0 = some (.op id ver (off + 0)) := rfl
theorem fad_41_0 (cs : List AV) (off : Nat) : zf tab 41 (.dp cs off) 0 = some (.dp cs (off + 0)) := rfl
theorem fao_41_1 (id ver off : Nat) : zf tab 41 (.op id ver off) 1 = some (.op id ver (off + 1)) := rfl
theorem fad_41_1 (cs : List AV) (off : Nat) : zf tab 41 (.dp cs off) 1 = some (.dp cs (off + 1)) := rfl
theorem fao_41_2 (id ver off : Nat) : zf tab 41 (.op id ver off) 2 = some (.op id ver (off + 2)) := rfl
theorem fad_41_2 (cs : List AV) (off : Nat) : zf tab 41 (.dp cs off) 2 = some (.dp cs (off + 2)) := rfl
theorem fao_41_3 (id ver off : Nat) : zf tab 41 (.op id ver off) 3 = some (.op id ver (off + 3)) := rfl
theorem fad_41_3 (cs : List AV) (off : Nat) : zf tab 41 (.dp cs off) 3 = some (.dp cs (off + 3)) := rfl
theorem fao_41_4 (id ver off : Nat) : zf tab 41 (.op id ver off) 4 = some (.op id ver (off + 4)) := rfl
theorem fad_41_4 (cs : List AV) (off : Nat) : zf tab 41 (.dp cs off) 4 = some (.dp cs (off + 4)) := rfl
theorem sz_42 : sized tab 42 = true := rfl
theorem fao_42_0 (id ver off : Nat) : zf tab 42 (.op id ver off) 0 = some (.op id ver (off + 0)) := rfl
theorem fad_42_0 (cs : List AV) (off : Nat) : zf tab 42 (.dp cs off) 0 = some (.dp cs (off + 0)) := rfl
theorem fao_42_1 (id ver off : Nat) : zf tab 42 (.op id ver off) 1 = some (.op id ver (off + 1)) := rfl
theorem fad_42_1 (cs : List AV) (off : Nat) : zf tab 42 (.dp cs off) 1 = some (.dp cs (off + 1)) := rfl
theorem fao_42_2 (id ver off : Nat) : zf tab 42 (.op id ver off) 2 = some (.op id ver (off + 2)) := rfl
theorem fad_42_2 (cs : List AV) (off : Nat) : zf tab 42 (.dp cs off) 2 = some (.dp cs (off + 2)) := rfl
theorem fao_42_3 (id ver off : Nat) : zf tab 42 (.op id ver off) 3 = some (.op id ver (off + 3)) := rfl
theorem fad_42_3 (cs : List AV) (off : Nat) : zf tab 42 (.dp cs off) 3 = some (.dp cs (off + 3)) := rfl
theorem fao_42_4 (id ver off : Nat) : zf tab 42 (.op id ver off) 4 = some (.op id ver (off + 4)) := rfl
theorem fad_42_4 (cs : List AV) (off : Nat) : zf tab 42 (.dp cs off) 4 = some (.dp cs (off + 4)) := rfl
theorem sz_49 : sized tab 49 = true := rfl
theorem cd_49 : cellsD tab 20 49 = some [TypeDesc.int IntKind.i64, TypeDesc.string] := rfl
theorem fao_49_0 (id ver off : Nat) : zf tab 49 (.op id ver off) 0 = some (.op id ver (off + 0)) := rfl
theorem fad_49_0 (cs : List AV) (off : Nat) : zf tab 49 (.dp cs off) 0 = some (.dp cs (off + 0)) := rfl
theorem fao_49_1 (id ver off : Nat) : zf tab 49 (.op id ver off) 1 = some (.op id ver (off + 1)) := rfl
theorem fad_49_1 (cs : List AV) (off : Nat) : zf tab 49 (.dp cs off) 1 = some (.dp cs (off + 1)) := rfl
theorem sz_50 : sized tab 50 = true := rfl
theorem cd_50 : cellsD tab 20 50 = some [TypeDesc.int IntKind.i64, TypeDesc.string] := rfl
theorem fao_50_0 (id ver off : Nat) : zf tab 50 (.op id ver off) 0 = some (.op id ver (off + 0)) := rfl
theorem fad_50_0 (cs : List AV) (off : Nat) : zf tab 50 (.dp cs off) 0 = some (.dp cs (off + 0)) := rfl
theorem fao_50_1 (id ver off : Nat) : zf tab 50 (.op id ver off) 1 = some (.op id ver (off + 1)) := rfl
theorem fad_50_1 (cs : List AV) (off : Nat) : zf tab 50 (.dp cs off) 1 = some (.dp cs (off + 1)) := rfl
theorem sz_51 : sized tab 51 = true := rfl
theorem cd_51 : cellsD tab 20 51 = some [TypeDesc.string, TypeDesc.int IntKind.i64, TypeDesc.int IntKind.i64, TypeDesc.int IntKind.i64, TypeDesc.string] := rfl
theorem fao_51_0 (id ver off : Nat) : zf tab 51 (.op id ver off) 0 = some (.op id ver (off + 0)) := rfl
theorem fad_51_0 (cs : List AV) (off : Nat) : zf tab 51 (.dp cs off) 0 = some (.dp cs (off + 0)) := rfl
theorem fao_51_1 (id ver off : Nat) : zf tab 51 (.op id ver off) 1 = some (.op id ver (off + 1)) := rfl
theorem fad_51_1 (cs : List AV) (off : Nat) : zf tab 51 (.dp cs off) 1 = some (.dp cs (off + 1)) := rfl
theorem fao_51_2 (id ver off : Nat) : zf tab 51 (.op id ver off) 2 = some (.op id ver (off + 2)) := rfl
theorem fad_51_2 (cs : List AV) (off : Nat) : zf tab 51 (.dp cs off) 2 = some (.dp cs (off + 2)) := rfl
theorem fao_51_3 (id ver off : Nat) : zf tab 51 (.op id ver off) 3 = some (.op id ver (off + 3)) := rfl
theorem fad_51_3 (cs : List AV) (off : Nat) : zf tab 51 (.dp cs off) 3 = some (.dp cs (off + 3)) := rfl
theorem sz_52 : sized tab 52 = true := rfl
theorem cd_52 : cellsD tab 20 52 = some [TypeDesc.string, TypeDesc.int IntKind.i64, TypeDesc.int IntKind.i64, TypeDesc.int IntKind.i64, TypeDesc.string] := rfl
theorem fao_52_0 (id ver off : Nat) : zf tab 52 (.op id ver off) 0 = some (.op id ver (off + 0)) := rfl
theorem fad_52_0 (cs : List AV) (off : Nat) : zf tab 52 (.dp cs off) 0 = some (.dp cs (off + 0)) := rfl
theorem fao_52_1 (id ver off : Nat) : zf tab 52 (.op id ver off) 1 = some (.op id ver (off + 1)) := rfl
theorem fad_52_1 (cs : List AV) (off : Nat) : zf tab 52 (.dp cs off) 1 = some (.dp cs (off + 1)) := rfl
theorem fao_52_2 (id ver off : Nat) : zf tab 52 (.op id ver off) 2 = some (.op id ver (off + 2)) := rfl
theorem fad_52_2 (cs : List AV) (off : Nat) : zf tab 52 (.dp cs off) 2 = some (.dp cs (off + 2)) := rfl
theorem fao_52_3 (id ver off : Nat) : zf tab 52 (.op id ver off) 3 = some (.op id ver (off + 3)) := rfl
theorem fad_52_3 (cs : List AV) (off : Nat) : zf tab 52 (.dp cs off) 3 = some (.dp cs (off + 3)) := rfl
theorem sz_59 : sized tab 59 = true := rfl
theorem len_59 (nl : Bool) (cs : List AV) (len : Nat) (t : Bool) (σ : Store) : zx1 tab 59 (.ds nl cs len t) σ = some (.int .i64 len) := rfl
theorem leno_59 (nl : Bool) (sz id ver off len : Nat) (t : Bool) (σ : Store) : zx1 tab 59 (.os nl sz id ver off len t) σ = some (.int .i64 len) := rfl
theorem sz_60 : sized tab 60 = true := rfl
theorem fao_60_0 (id ver off : Nat) : zf tab 60 (.op id ver off) 0 = some (.op id ver (off + 0)) := rfl
theorem fad_60_0 (cs : List AV) (off : Nat) : zf tab 60 (.dp cs off) 0 = some (.dp cs (off + 0)) := rfl
theorem fao_60_1 (id ver off : Nat) : zf tab 60 (.op id ver off) 1 = some (.op id ver (off + 1)) := rfl
theorem fad_60_1 (cs : List AV) (off : Nat) : zf tab 60 (.dp cs off) 1 = some (.dp cs (off + 1)) := rfl
theorem sz_61 : sized tab 61 = true := rfl
theorem fao_61_0 (id ver off : Nat) : zf tab 61 (.op id ver off) 0 = some (.op id ver (off + 0)) := rfl
theorem fad_61_0 (cs : List AV) (off : Nat) : zf tab 61 (.dp cs off) 0 = some (.dp cs (off + 0)) := rfl
theorem fao_61_1 (id ver off : Nat) : zf tab 61 (.op id ver off) 1 = some (.op id ver (off + 1)) := rfl
theorem fad_61_1 (cs : List AV) (off : Nat) : zf tab 61 (.dp cs off) 1 = some (.dp cs (off + 1)) := rfl
theorem sz_63 : sized tab 63 = true := rfl
theorem cd_63 : cellsD tab 20 63 = some [TypeDesc.int IntKind.i64, TypeDesc.int IntKind.i64, TypeDesc.int IntKind.i64, TypeDesc.int IntKind.i64, TypeDesc.int IntKind.i64, TypeDesc.string, TypeDesc.int IntKind.i64, TypeDesc.string] := rfl
theorem fao_63_0 (id ver off : Nat) : zf tab 63 (.op id ver off) 0 = some (.op id ver (off + 0)) := rfl
theorem fad_63_0 (cs : List AV) (off : Nat) : zf tab 63 (.dp cs off) 0 = some (.dp cs (off + 0)) := rfl
theorem fao_63_1 (id ver off : Nat) : zf tab 63 (.op id ver off) 1 = some (.op id ver (off + 1)) := rfl
theorem fad_63_1 (cs : List AV) (off : Nat) : zf tab 63 (.dp cs off) 1 = some (.dp cs (off + 1)) := rfl
theorem fao_63_2 (id ver off : Nat) : zf tab 63 (.op id ver off) 2 = some (.op id ver (off + 2)) := rfl
theorem fad_63_2 (cs : List AV) (off : Nat) : zf tab 63 (.dp cs off) 2 = some (.dp cs (off + 2)) := rfl
theorem fao_63_3 (id ver off : Nat) : zf tab 63 (.op id ver off) 3 = some (.op id ver (off + 3)) := rfl
theorem fad_63_3 (cs : List AV) (off : Nat) : zf tab 63 (.dp cs off) 3 = some (.dp cs (off + 3)) := rfl
theorem fao_63_4 (id ver off : Nat) : zf tab 63 (.op id ver off) 4 = some (.op id ver (off + 4)) := rfl
theorem fad_63_4 (cs : List AV) (off : Nat) : zf tab 63 (.dp cs off) 4 = some (.dp cs (off + 4)) := rfl
theorem fao_63_5 (id ver off : Nat) : zf tab 63 (.op id ver off) 5 = some (.op id ver (off + 5)) := rfl
theorem fad_63_5 (cs : List AV) (off : Nat) : zf tab 63 (.dp cs off) 5 = some (.dp cs (off + 5)) := rfl
theorem fao_63_6 (id ver off : Nat) : zf tab 63 (.op id ver off) 6 = some (.op id ver (off + 6)) := rfl
theorem fad_63_6 (cs : List AV) (off : Nat) : zf tab 63 (.dp cs off) 6 = some (.dp cs (off + 6)) := rfl
theorem fao_63_7 (id ver off : Nat) : zf tab 63 (.op id ver off) 7 = some (.op id ver (off + 7)) := rfl
theorem fad_63_7 (cs : List AV) (off : Nat) : zf tab 63 (.dp cs off) 7 = some (.dp cs (off + 7)) := rfl
theorem sz_64 : sized tab 64 = true := rfl
theorem cd_64 : cellsD tab 20 64 = some [TypeDesc.int IntKind.i64, TypeDesc.int IntKind.i64, TypeDesc.int IntKind.i64, TypeDesc.int IntKind.i64, TypeDesc.int IntKind.i64, TypeDesc.string, TypeDesc.int IntKind.i64, TypeDesc.string] := rfl
theorem fao_64_0 (id ver off : Nat) : zf tab 64 (.op id ver off) 0 = some (.op id ver (off + 0)) := rfl
theorem fad_64_0 (cs : List AV) (off : Nat) : zf tab 64 (.dp cs off) 0 = some (.dp cs (off + 0)) := rfl
theorem fao_64_1 (id ver off : Nat) : zf tab 64 (.op id ver off) 1 = some (.op id ver (off + 1)) := rfl
theorem fad_64_1 (cs : List AV) (off : Nat) : zf tab 64 (.dp cs off) 1 = some (.dp cs (off + 1)) := rfl
theorem fao_64_2 (id ver off : Nat) : zf tab 64 (.op id ver off) 2 = some (.op id ver (off + 2)) := rfl
theorem fad_64_2 (cs : List AV) (off : Nat) : zf tab 64 (.dp cs off) 2 = some (.dp cs (off + 2)) := rfl
theorem fao_64_3 (id ver off : Nat) : zf tab 64 (.op id ver off) 3 = some (.op id ver (off + 3)) := rfl
theorem fad_64_3 (cs : List AV) (off : Nat) : zf tab 64 (.dp cs off) 3 = some (.dp cs (off + 3)) := rfl
theorem fao_64_4 (id ver off : Nat) : zf tab 64 (.op id ver off) 4 = some (.op id ver (off + 4)) := rfl
theorem fad_64_4 (cs : List AV) (off : Nat) : zf tab 64 (.dp cs off) 4 = some (.dp cs (off + 4)) := rfl
theorem fao_64_5 (id ver off : Nat) : zf tab 64 (.op id ver off) 5 = some (.op id ver (off + 5)) := rfl
theorem fad_64_5 (cs : List AV) (off : Nat) : zf tab 64 (.dp cs off) 5 = some (.dp cs (off + 5)) := rfl
theorem fao_64_6 (id ver off : Nat) : zf tab 64 (.op id ver off) 6 = some (.op id ver (off + 6)) := rfl
theorem fad_64_6 (cs : List AV) (off : Nat) : zf tab 64 (.dp cs off) 6 = some (.dp cs (off + 6)) := rfl
theorem fao_64_7 (id ver off : Nat) : zf tab 64 (.op id ver off) 7 = some (.op id ver (off + 7)) := rfl
theorem fad_64_7 (cs : List AV) (off : Nat) : zf tab 64 (.dp cs off) 7 = some (.dp cs (off + 7)) := rfl
theorem sz_72 : sized tab 72 = true := rfl
theorem cd_72 : cellsD tab 20 72 = some [TypeDesc.string, TypeDesc.string, TypeDesc.string] := rfl
theorem fao_72_0 (id ver off : Nat) : zf tab 72 (.op id ver off) 0 = some (.op id ver (off + 0)) := rfl
theorem fad_72_0 (cs : List AV) (off : Nat) : zf tab 72 (.dp cs off) 0 = some (.dp cs (off + 0)) := rfl
theorem fao_72_1 (id ver off : Nat) : zf tab 72 (.op id ver off) 1 = some (.op id ver (off + 1)) := rfl
theorem fad_72_1 (cs : List AV) (off : Nat) : zf tab 72 (.dp cs off) 1 = some (.dp cs (off + 1)) := rfl
theorem fao_72_2 (id ver off : Nat) : zf tab 72 (.op id ver off) 2 = some (.op id ver (off + 2)) := rfl
theorem fad_72_2 (cs : List AV) (off : Nat) : zf tab 72 (.dp cs off) 2 = some (.dp cs (off + 2)) := rfl
theorem sz_73 : sized tab 73 = true := rfl
theorem cd_73 : cellsD tab 20 73 = some [TypeDesc.string, TypeDesc.string, TypeDesc.string] := rfl
theorem fao_73_0 (id ver off : Nat) : zf tab 73 (.op id ver off) 0 = some (.op id ver (off + 0)) := rfl
theorem fad_73_0 (cs : List AV) (off : Nat) : zf tab 73 (.dp cs off) 0 = some (.dp cs (off + 0)) := rfl
theorem fao_73_1 (id ver off : Nat) : zf tab 73 (.op id ver off) 1 = some (.op id ver (off + 1)) := rfl
theorem fad_73_1 (cs : List AV) (off : Nat) : zf tab 73 (.dp cs off) 1 = some (.dp cs (off + 1)) := rfl
theorem fao_73_2 (id ver off : Nat) : zf tab 73 (.op id ver off) 2 = some (.op id ver (off + 2)) := rfl
theorem fad_73_2 (cs : List AV) (off : Nat) : zf tab 73 (.dp cs off) 2 = some (.dp cs (off + 2)) := rfl
theorem sz_75 : sized tab 75 = true := rfl
theorem len_75 (nl : Bool) (cs : List AV) (len : Nat) (t : Bool) (σ : Store) : zx1 tab 75 (.ds nl cs len t) σ = some (.int .i64 len) := rfl
theorem leno_75 (nl : Bool) (sz id ver off len : Nat) (t : Bool) (σ : Store) : zx1 tab 75 (.os nl sz id ver off len t) σ = some (.int .i64 len) := rfl
theorem sz_85 : sized tab 85 = true := rfl
theorem cd_85 : cellsD tab 20 85 = some [TypeDesc.int IntKind.u64] := rfl
theorem sz_88 : sized tab 88 = true := rfl
theorem len_88 (nl : Bool) (cs : List AV) (len : Nat) (t : Bool) (σ : Store) : zx1 tab 88 (.ds nl cs len t) σ = some (.int .i64 len) := rfl
theorem leno_88 (nl : Bool) (sz id ver off len : Nat) (t : Bool) (σ : Store) : zx1 tab 88 (.os nl sz id ver off len t) σ = some (.int .i64 len) := rfl
theorem sz_89 : sized tab 89 = true := rfl
theorem fao_89_0 (id ver off : Nat) : zf tab 89 (.op id ver off) 0 = some (.op id ver (off + 0)) := rfl
theorem fad_89_0 (cs : List AV) (off : Nat) : zf tab 89 (.dp cs off) 0 = some (.dp cs (off + 0)) := rfl
theorem fao_89_1 (id ver off : Nat) : zf tab 89 (.op id ver off) 1 = some (.op id ver (off + 1)) := rfl
theorem fad_89_1 (cs : List AV) (off : Nat) : zf tab 89 (.dp cs off) 1 = some (.dp cs (off + 1)) := rfl
theorem sz_90 : sized tab 90 = true := rfl
theorem fao_90_0 (id ver off : Nat) : zf tab 90 (.op id ver off) 0 = some (.op id ver (off + 0)) := rfl
theorem fad_90_0 (cs : List AV) (off : Nat) : zf tab 90 (.dp cs off) 0 = some (.dp cs (off + 0)) := rfl
theorem fao_90_1 (id ver off : Nat) : zf tab 90 (.op id ver off) 1 = some (.op id ver (off + 1)) := rfl
theorem fad_90_1 (cs : List AV) (off : Nat) : zf tab 90 (.dp cs off) 1 = some (.dp cs (off + 1)) := rfl
theorem sz_91 : sized tab 91 = true := rfl
theorem cd_91 : cellsD tab 20 91 = some [TypeDesc.string, TypeDesc.int IntKind.i64] := rfl
theorem fao_91_0 (id ver off : Nat) : zf tab 91 (.op id ver off) 0 = some (.op id ver (off + 0)) := rfl
theorem fad_91_0 (cs : List AV) (off : Nat) : zf tab 91 (.dp cs off) 0 = some (.dp cs (off + 0)) := rfl
theorem fao_91_1 (id ver off : Nat) : zf tab 91 (.op id ver off) 1 = some (.op id ver (off + 1)) := rfl
theorem fad_91_1 (cs : List AV) (off : Nat) : zf tab 91 (.dp cs off) 1 = some (.dp cs (off + 1)) := rfl
theorem sz_92 : sized tab 92 = true := rfl
theorem cd_92 : cellsD tab 20 92 = some [TypeDesc.string, TypeDesc.int IntKind.i64] := rfl
theorem fao_92_0 (id ver off : Nat) : zf tab 92 (.op id ver off) 0 = some (.op id ver (off + 0)) := rfl
theorem fad_92_0 (cs : List AV) (off : Nat) : zf tab 92 (.dp cs off) 0 = some (.dp cs (off + 0)) := rfl
theorem fao_92_1 (id ver off : Nat) : zf tab 92 (.op id ver off) 1 = some (.op id ver (off + 1)) := rfl
theorem fad_92_1 (cs : List AV) (off : Nat) : zf tab 92 (.dp cs off) 1 = some (.dp cs (off + 1)) := rfl
theorem sz_94 : sized tab 94 = true := rfl
theorem len_94 (nl : Bool) (cs : List AV) (len : Nat) (t : Bool) (σ : Store) : zx1 tab 94 (.ds nl cs len t) σ = some (.int .i64 len) := rfl
theorem leno_94 (nl : Bool) (sz id ver off len : Nat) (t : Bool) (σ : Store) : zx1 tab 94 (.os nl sz id ver off len t) σ = some (.int .i64 len) := rfl
theorem sz_100 : sized tab 100 = true := rfl
theorem sz_104 : sized tab 104 = true := rfl
theorem sz_105 : sized tab 105 = true := rfl
theorem sz_113 : sized tab 113 = true := rfl
theorem sz_115 : sized tab 115 = true := rfl
theorem sz_116 : sized tab 116 = true := rfl
theorem cd_116 : cellsD tab 20 116 = some [TypeDesc.int IntKind.u64] := rfl
theorem sz_117 : sized tab 117 = true := rfl
theorem len_117 (nl : Bool) (cs : List AV) (len : Nat) (t : Bool) (σ : Store) : zx1 tab 117 (.ds nl cs len t) σ = some (.int .i64 len) := rfl
theorem leno_117 (nl : Bool) (sz id ver off len : Nat) (t : Bool) (σ : Store) : zx1 tab 117 (.os nl sz id ver off len t) σ = some (.int .i64 len) := rfl
theorem sz_124 : sized tab 124 = true := rfl
theorem sz_125 : sized tab 125 = true := rfl
theorem sz_126 : sized tab 126 = true := rfl
theorem fao_126_0 (id ver off : Nat) : zf tab 126 (.op id ver off) 0 = some (.op id ver (off + 0)) := rfl
theorem fad_126_0 (cs : List AV) (off : Nat) : zf tab 126 (.dp cs off) 0 = some (.dp cs (off + 0)) := rfl
theorem sz_127 : sized tab 127 = true := rfl
theorem fao_127_0 (id ver off : Nat) : zf tab 127 (.op id ver off) 0 = some (.op id ver (off + 0)) := rfl
theorem fad_127_0 (cs : List AV) (off : Nat) : zf tab 127 (.dp cs off) 0 = some (.dp cs (off + 0)) := rfl
theorem sz_131 : sized tab 131 = true := rfl
theorem sz_134 : sized tab 134 = true := rfl
theorem sz_141 : sized tab 141 = true := rfl
theorem sz_143 : sized tab 143 = true := rfl
theorem sz_155 : sized tab 155 = true := rfl
theorem len_155 (nl : Bool) (cs : List AV) (len : Nat) (t : Bool) (σ : Store) : zx1 tab 155 (.ds nl cs len t) σ = some (.int .i64 len) := rfl
theorem leno_155 (nl : Bool) (sz id ver off len : Nat) (t : Bool) (σ : Store) : zx1 tab 155 (.os nl sz id ver off len t) σ = some (.int .i64 len) := rfl
theorem sz_172 : sized tab 172 = true := rfl
theorem len_172 (nl : Bool) (cs : List AV) (len : Nat) (t : Bool) (σ : Store) : zx1 tab 172 (.ds nl cs len t) σ = some (.int .i64 len) := rfl
theorem leno_172 (nl : Bool) (sz id ver off len : Nat) (t : Bool) (σ : Store) : zx1 tab 172 (.os nl sz id ver off len t) σ = some (.int .i64 len) := rfl
theorem sz_173 : sized tab 173 = true := rfl
theorem fao_173_0 (id ver off : Nat) : zf tab 173 (.op id ver off) 0 = some (.op id ver (off + 0)) := rfl
theorem fad_173_0 (cs : List AV) (off : Nat) : zf tab 173 (.dp cs off) 0 = some (.dp cs (off + 0)) := rfl
theorem fao_173_1 (id ver off : Nat) : zf tab 173 (.op id ver off) 1 = some (.op id ver (off + 1)) := rfl
theorem fad_173_1 (cs : List AV) (off : Nat) : zf tab 173 (.dp cs off) 1 = some (.dp cs (off + 1)) := rfl
theorem sz_174 : sized tab 174 = true := rfl
theorem fao_174_0 (id ver off : Nat) : zf tab 174 (.op id ver off) 0 = some (.op id ver (off + 0)) := rfl
theorem fad_174_0 (cs : List AV) (off : Nat) : zf tab 174 (.dp cs off) 0 = some (.dp cs (off + 0)) := rfl
theorem fao_174_1 (id ver off : Nat) : zf tab 174 (.op id ver off) 1 = some (.op id ver (off + 1)) := rfl
theorem fad_174_1 (cs : List AV) (off : Nat) : zf tab 174 (.dp cs off) 1 = some (.dp cs (off + 1)) := rfl
theorem sz_175 : sized tab 175 = true := rfl
theorem fao_175_0 (id ver off : Nat) : zf tab 175 (.op id ver off) 0 = some (.op id ver (off + 0)) := rfl
theorem fad_175_0 (cs : List AV) (off : Nat) : zf tab 175 (.dp cs off) 0 = some (.dp cs (off + 0)) := rfl
theorem fao_175_1 (id ver off : Nat) : zf tab 175 (.op id ver off) 1 = some (.op id ver (off + 1)) := rfl
theorem fad_175_1 (cs : List AV) (off : Nat) : zf tab 175 (.dp cs off) 1 = some (.dp cs (off + 1)) := rfl
theorem sz_176 : sized tab 176 = true := rfl
theorem fao_176_0 (id ver off : Nat) : zf tab 176 (.op id ver off) 0 = some (.op id ver (off + 0)) := rfl
theorem fad_176_0 (cs : List AV) (off : Nat) : zf tab 176 (.dp cs off) 0 = some (.dp cs (off + 0)) := rfl
theorem fao_176_1 (id ver off : Nat) : zf tab 176 (.op id ver off) 1 = some (.op id ver (off + 1)) := rfl
theorem fad_176_1 (cs : List AV) (off : Nat) : zf tab 176 (.dp cs off) 1 = some (.dp cs (off + 1)) := rfl
theorem sz_182 : sized tab 182 = true := rfl
theorem cd_182 : cellsD tab 20 182 = some [TypeDesc.int IntKind.i64] := rfl
theorem sz_183 : sized tab 183 = true := rfl
theorem cd_183 : cellsD tab 20 183 = some [TypeDesc.string] := rfl
theorem len_183 (s : List UInt8) (σ : Store) : zx1 tab 183 (.str s) σ = some (.int .i64 s.length) := rfl
theorem sz_191 : sized tab 191 = true := rfl
theorem cd_191 : cellsD tab 20 191 = some [TypeDesc.int IntKind.u8, TypeDesc.int IntKind.u8] := rfl
theorem fao_191_0 (id ver off : Nat) : zf tab 191 (.op id ver off) 0 = some (.op id ver (off + 0)) := rfl
theorem fad_191_0 (cs : List AV) (off : Nat) : zf tab 191 (.dp cs off) 0 = some (.dp cs (off + 0)) := rfl
theorem fao_191_1 (id ver off : Nat) : zf tab 191 (.op id ver off) 1 = some (.op id ver (off + 1)) := rfl
theorem fad_191_1 (cs : List AV) (off : Nat) : zf tab 191 (.dp cs off) 1 = some (.dp cs (off + 1)) := rfl
theorem sz_192 : sized tab 192 = true := rfl
theorem cd_192 : cellsD tab 20 192 = some [TypeDesc.int IntKind.u8, TypeDesc.int IntKind.u8] := rfl
theorem fao_192_0 (id ver off : Nat) : zf tab 192 (.op id ver off) 0 = some (.op id ver (off + 0)) := rfl
theorem fad_192_0 (cs : List AV) (off : Nat) : zf tab 192 (.dp cs off) 0 = some (.dp cs (off + 0)) := rfl
theorem fao_192_1 (id ver off : Nat) : zf tab 192 (.op id ver off) 1 = some (.op id ver (off + 1)) := rfl
theorem fad_192_1 (cs : List AV) (off : Nat) : zf tab 192 (.dp cs off) 1 = some (.dp cs (off + 1)) := rfl
theorem sz_193 : sized tab 193 = true := rfl
theorem cd_193 : cellsD tab 20 193 = some [TypeDesc.int IntKind.u8, TypeDesc.int IntKind.u8, TypeDesc.int IntKind.u8, TypeDesc.int IntKind.u8, TypeDesc.int IntKind.u8, TypeDesc.int IntKind.u8, TypeDesc.int IntKind.u8, TypeDesc.int IntKind.u8, TypeDesc.int IntKind.u8, TypeDesc.int IntKind.u8, TypeDesc.int IntKind.u8, TypeDesc.int IntKind.u8, TypeDesc.int IntKind.u8, TypeDesc.int IntKind.u8, TypeDesc.int IntKind.u8, TypeDesc.int IntKind.u8, TypeDesc.int IntKind.u8, TypeDesc.int IntKind.u8, TypeDesc.int IntKind.u8, TypeDesc.int IntKind.u8, TypeDesc.int IntKind.u8, TypeDesc.int IntKind.u8, TypeDesc.int IntKind.u8, TypeDesc.int IntKind.u8, TypeDesc.int IntKind.u8, TypeDesc.int IntKind.u8, TypeDesc.int IntKind.u8, TypeDesc.int IntKind.u8, TypeDesc.int IntKind.u8, TypeDesc.int IntKind.u8, TypeDesc.int IntKind.u8, TypeDesc.int IntKind.u8] := rfl
attribute [go_sem] tab_1 tab_2 tab_3 tab_4 tab_5 tab_9 tab_20 tab_21 tab_22 tab_23 tab_24 tab_25 tab_26 tab_27 tab_28 tab_29 tab_30 tab_31 tab_32 tab_33 tab_35 tab_36 zg3 tab_41 tab_42 tab_49 tab_50 tab_51 tab_52 tab_59 tab_60 zf3 tab_63 tab_64 tab_72 tab_73 tab_75 tab_85 tab_88 tab_89
attribute [go_sem] tab_90 tab_91 tab_92 tab_94 tab_100 tab_104 tab_105 tab_113 tab_115 tab_116 tab_117 tab_124 tab_125 tab_126 tab_127 tab_131 tab_134 tab_141 tab_143 tab_155 tab_172 tab_173 tab_174 tab_175 tab_176 tab_182 tab_183 tab_191 tab_192 tab_193 sz_1 sz_2 cd_2 sz_3 cd_3 sz_4 cd_4 sz_5 cd_5 sz_9
attribute [go_sem] cd_9 len_9 sz_20 sz_21 cd_21 sz_22 len_22 leno_22 sz_23 len_23 leno_23 sz_24 len_24 leno_24 sz_25 fao_25_0 fad_25_0 fao_25_1 fad_25_1 fao_25_2 fad_25_2 sz_26 fao_26_0 fad_26_0 fao_26_1 fad_26_1 fao_26_2 fad_26_2 sz_27 len_27 leno_27 sz_28 len_28 leno_28 sz_29 len_29 leno_29 sz_30 fao_30_0 fad_30_0
attribute [go_sem] fao_30_1 fad_30_1 fao_30_2 fad_30_2 fao_30_3 fad_30_3 sz_31 fao_31_0 fad_31_0 fao_31_1 fad_31_1 fao_31_2 fad_31_2 fao_31_3 fad_31_3 sz_32 cd_32 fao_32_0 fad_32_0 fao_32_1 fad_32_1 fao_32_2 fad_32_2 fao_32_3 fad_32_3 sz_33 cd_33 fao_33_0 fad_33_0 fao_33_1 fad_33_1 fao_33_2 fad_33_2 fao_33_3 fad_33_3 sz_35 len_35 leno_35 sz_36 cd_36
attribute [go_sem] sz_40 len_40 leno_40 sz_41 fao_41_0 fad_41_0 fao_41_1 fad_41_1 fao_41_2 fad_41_2 fao_41_3 fad_41_3 fao_41_4 fad_41_4 sz_42 fao_42_0 fad_42_0 fao_42_1 fad_42_1 fao_42_2 fad_42_2 fao_42_3 fad_42_3 fao_42_4 fad_42_4 sz_49 cd_49 fao_49_0 fad_49_0 fao_49_1 fad_49_1 sz_50 cd_50 fao_50_0 fad_50_0 fao_50_1 fad_50_1 sz_51 cd_51 fao_51_0
attribute [go_sem] fad_51_0 fao_51_1 fad_51_1 fao_51_2 fad_51_2 fao_51_3 fad_51_3 sz_52 cd_52 fao_52_0 fad_52_0 fao_52_1 fad_52_1 fao_52_2 fad_52_2 fao_52_3 fad_52_3 sz_59 len_59 leno_59 sz_60 fao_60_0 fad_60_0 fao_60_1 fad_60_1 sz_61 fao_61_0 fad_61_0 fao_61_1 fad_61_1 sz_63 cd_63 fao_63_0 fad_63_0 fao_63_1 fad_63_1 fao_63_2 fad_63_2 fao_63_3 fad_63_3
attribute [go_sem] fao_63_4 fad_63_4 fao_63_5 fad_63_5 fao_63_6 fad_63_6 fao_63_7 fad_63_7 sz_64 cd_64 fao_64_0 fad_64_0 fao_64_1 fad_64_1 fao_64_2 fad_64_2 fao_64_3 fad_64_3 fao_64_4 fad_64_4 fao_64_5 fad_64_5 fao_64_6 fad_64_6 fao_64_7 fad_64_7 sz_72 cd_72 fao_72_0 fad_72_0 fao_72_1 fad_72_1 fao_72_2 fad_72_2 sz_73 cd_73 fao_73_0 fad_73_0 fao_73_1 fad_73_1
attribute [go_sem] fao_73_2 fad_73_2 sz_75 len_75 leno_75 sz_85 cd_85 sz_88 len_88 leno_88 sz_89 fao_89_0 fad_89_0 fao_89_1 fad_89_1 sz_90 fao_90_0 fad_90_0 fao_90_1 fad_90_1 sz_91 cd_91 fao_91_0 fad_91_0 fao_91_1 fad_91_1 sz_92 cd_92 fao_92_0 fad_92_0 fao_92_1 fad_92_1 sz_94 len_94 leno_94 sz_100 sz_104 sz_105 sz_113 sz_115
attribute [go_sem] sz_116 cd_116 sz_117 len_117 leno_117 sz_124 sz_125 sz_126 fao_126_0 fad_126_0 sz_127 fao_127_0 fad_127_0 sz_131 sz_134 sz_141 sz_143 sz_155 len_155 leno_155 sz_172 len_172 leno_172 sz_173 fao_173_0 fad_173_0 fao_173_1 fad_173_1 sz_174 fao_174_0 fad_174_0 fao_174_1 fad_174_1 sz_175 fao_175_0 fad_175_0 fao_175_1 fad_175_1 sz_176 fao_176_0
attribute [go_sem] fad_176_0 fao_176_1 fad_176_1 sz_182 cd_182 sz_183 cd_183 len_183 sz_191 cd_191 fao_191_0 fad_191_0 fao_191_1 fad_191_1 sz_192 cd_192 fao_192_0 fad_192_0 fao_192_1 fad_192_1 sz_193 cd_193
end Go.Proofs.YtaddlmlpeghonaaDoor
end
section
namespace Go.Proofs.YtaddlmlpeghonaaDoor
open AM
structure GRaw where
 fTag : Int
 fWire : Int
 fN : Int
 fB : List UInt8
 deriving DecidableEq
def encGRaw (x : GRaw) : List AV := [.int .i64 x.fTag, .int .i64 x.fWire, .int .i64 x.fN, .str x.fB]
instance : CanonE encGRaw := ⟨fun _ _ => rfl⟩
instance : OneE encGRaw := ⟨fun _ => rfl⟩
instance : LenE encGRaw 4 := ⟨fun _ => rfl⟩
mutual
inductive GTree where
 | mk (fKind fN : Int) (fS : List UInt8) (fEntries : List GEntry) (fRest : List GRaw)
inductive GEntry where
 | mk (fTag : Int) (fTrees : List GTree)
end
def GTree.fKind : GTree → Int | .mk a _ _ _ _ => a
def GTree.fN : GTree → Int | .mk _ a _ _ _ => a
def GTree.fS : GTree → List UInt8 | .mk _ _ a _ _ => a
def GTree.fEntries : GTree → List GEntry | .mk _ _ _ a _ => a
def GTree.fRest : GTree → List GRaw | .mk _ _ _ _ a => a
def GEntry.fTag : GEntry → Int | .mk a _ => a
def GEntry.fTrees : GEntry → List GTree | .mk _ a => a
mutual
def encGTree : GTree → List AV
 | .mk k n s es rs => [.int .i64 k, .int .i64 n, .str s, .ds true (encGEntryL es) (lN es) false, .ds true (fM encGRaw rs) (lN rs) false]
def encGEntry : GEntry → List AV
 | .mk t ts => [.int .i64 t, .ds true (encGTreeL ts) (lN ts) false]
def encGEntryL : List GEntry → List AV
 | [] => []
 | e :: l => encGEntry e ++ encGEntryL l
def encGTreeL : List GTree → List AV
 | [] => []
 | e :: l => encGTree e ++ encGTreeL l
end
theorem encGEntryL_eq (l : List GEntry) : encGEntryL l = fM encGEntry l := by
 induction l with
 | nil => rfl
 | cons e l ih => rw [encGEntryL, ih]; rfl
theorem encGTreeL_eq (l : List GTree) : encGTreeL l = fM encGTree l := by
 induction l with
 | nil => rfl
 | cons e l ih => rw [encGTreeL, ih]; rfl
def cellsGTree (x : GTree) : List AV := [.int .i64 x.fKind, .int .i64 x.fN, .str x.fS, .ds true (fM encGEntry x.fEntries) (lN x.fEntries) false, .ds true (fM encGRaw x.fRest) (lN x.fRest) false]
def cellsGEntry (x : GEntry) : List AV := [.int .i64 x.fTag, .ds true (fM encGTree x.fTrees) (lN x.fTrees) false]
theorem zR (x : GTree) : encGTree x = cellsGTree x := by
 cases x; rw [encGTree, encGEntryL_eq]; rfl
theorem zB (x : GEntry) : encGEntry x = cellsGEntry x := by
 cases x; rw [encGEntry, encGTreeL_eq]; rfl
mutual
theorem canonGTree (s : Bool) : ∀ x : GTree, canonL s (encGTree x) = true
 | .mk k n t es rs => by
  simp only [encGTree, canonL, AV.canon, canonGEntryL s es, canon_all, Bool.and_self, Bool.not_false, Bool.or_true]
theorem canonGEntry (s : Bool) : ∀ x : GEntry, canonL s (encGEntry x) = true
 | .mk t ts => by simp only [encGEntry, canonL, AV.canon, canonGTreeL s ts, Bool.and_self, Bool.not_false, Bool.or_true]
theorem canonGEntryL (s : Bool) : ∀ l : List GEntry, canonL s (encGEntryL l) = true
 | [] => rfl
 | e :: l => by rw [encGEntryL, canonL_append, canonGEntry s e, canonGEntryL s l]; rfl
theorem canonGTreeL (s : Bool) : ∀ l : List GTree, canonL s (encGTreeL l) = true
 | [] => rfl
 | e :: l => by rw [encGTreeL, canonL_append, canonGTree s e, canonGTreeL s l]; rfl
end
instance : CanonE encGTree := ⟨canonGTree⟩
instance : CanonE encGEntry := ⟨canonGEntry⟩
instance : CanonE cellsGTree := ⟨fun s x => by rw [← zR]; exact canonGTree s x⟩
instance : CanonE cellsGEntry := ⟨fun s x => by rw [← zB]; exact canonGEntry s x⟩
instance : OneE encGTree := ⟨fun x => by rw [zR]; rfl⟩
instance : OneE encGEntry := ⟨fun x => by rw [zB]; rfl⟩
instance : LenE encGTree 5 := ⟨fun x => by rw [zR]; rfl⟩
instance : LenE encGEntry 2 := ⟨fun x => by rw [zB]; rfl⟩
mutual
inductive GValueValue where
 | nil
 | num (n : Int)
 | str (s : List UInt8)
 | node (es : List GValueEntry) (rs : List GRaw)
inductive GValueEntry where
 | mk (ftag : Int) (fl : List GValueValue)
end
def GValueEntry.ftag : GValueEntry → Int | .mk a _ => a
def GValueEntry.fl : GValueEntry → List GValueValue | .mk _ a => a
structure GValueNode where
 fentries : List GValueEntry
 frest : List GRaw
mutual
def ifcV : GValueValue → AV
 | .nil => .nilI
 | .num n => .ifc 182 (.int .i64 n)
 | .str s => .ifc 183 (.str s)
 | .node es rs => .ifc 131 (.dp [.ds true (encGValueEntryL es) (lN es) false, .ds true (fM encGRaw rs) (lN rs) false] 0)
def encGValueEntry : GValueEntry → List AV
 | .mk t l => [.int .i64 t, .ds true (encGValueValueL l) (lN l) false]
def encGValueEntryL : List GValueEntry → List AV
 | [] => []
 | e :: l => encGValueEntry e ++ encGValueEntryL l
def encGValueValueL : List GValueValue → List AV
 | [] => []
 | e :: l => ifcV e :: encGValueValueL l
end
def encGValueValue (v : GValueValue) : List AV := [ifcV v]
theorem zk4 (l : List GValueEntry) : encGValueEntryL l = fM encGValueEntry l := by
 induction l with
 | nil => rfl
 | cons e l ih => rw [encGValueEntryL, ih]; rfl
theorem zj4 (l : List GValueValue) : encGValueValueL l = fM encGValueValue l := by
 induction l with
 | nil => rfl
 | cons e l ih => rw [encGValueValueL, ih]; rfl
def cellsGValueEntry (x : GValueEntry) : List AV := [.int .i64 x.ftag, .ds true (fM encGValueValue x.fl) (lN x.fl) false]
theorem ze1 (x : GValueEntry) : encGValueEntry x = cellsGValueEntry x := by
 cases x; rw [encGValueEntry, zj4]; rfl
def encGValueNode (x : GValueNode) : List AV := [.ds true (fM encGValueEntry x.fentries) (lN x.fentries) false, .ds true (fM encGRaw x.frest) (lN x.frest) false]
theorem zV4 : ifcV .nil = .nilI := by rw [ifcV]
theorem zU4 {n : Int} : ifcV (.num n) = .ifc 182 (.int .i64 n) := by rw [ifcV]
theorem zT4 {s : List UInt8} : ifcV (.str s) = .ifc 183 (.str s) := by rw [ifcV]
theorem zv3 {es : List GValueEntry} {rs : List GRaw} : ifcV (.node es rs) = .ifc 131 (.dp [.ds true (fM encGValueEntry es) (lN es) false, .ds true (fM encGRaw rs) (lN rs) false] 0) := by
 rw [ifcV, zk4]
mutual
theorem canonIfcV (s : Bool) : ∀ x : GValueValue, (ifcV x).canon s = true
 | .nil => by simp only [ifcV, AV.canon]
 | .num n => by simp only [ifcV, AV.canon]
 | .str n => by simp only [ifcV, AV.canon]
 | .node es rs => by simp only [ifcV, AV.canon, canonL, canonGValueEntryL s es, canon_all, Bool.and_self, Bool.not_false, Bool.or_true]
theorem canonGValueEntry (s : Bool) : ∀ x : GValueEntry, canonL s (encGValueEntry x) = true
 | .mk t ts => by simp only [encGValueEntry, canonL, AV.canon, canonGValueValueL s ts, Bool.and_self, Bool.not_false, Bool.or_true]
theorem canonGValueEntryL (s : Bool) : ∀ l : List GValueEntry, canonL s (encGValueEntryL l) = true
 | [] => rfl
 | e :: l => by rw [encGValueEntryL, canonL_append, canonGValueEntry s e, canonGValueEntryL s l]; rfl
theorem canonGValueValueL (s : Bool) : ∀ l : List GValueValue, canonL s (encGValueValueL l) = true
 | [] => rfl
 | e :: l => by rw [encGValueValueL, canonL, canonIfcV s e, canonGValueValueL s l]; rfl
end
theorem zc2 (x : GValueValue) : (ifcV x).one = true := by cases x <;> simp only [ifcV, AV.one]
instance : CanonV ifcV := ⟨canonIfcV⟩
theorem tell_ifcV {σ : Store} {keep : List Nat} {ls : Bool} {f : Nat} {x : GValueValue} : tell σ keep ls f (ifcV x) = ifcV x := tell_canon _ _ _ _ _ (canonIfcV ls x)
instance : CanonE encGValueValue := ⟨fun s x => by simp only [encGValueValue, canonL, canonIfcV, Bool.and_self]⟩
instance : CanonE encGValueEntry := ⟨canonGValueEntry⟩
instance : CanonE cellsGValueEntry := ⟨fun s x => by rw [← ze1]; exact canonGValueEntry s x⟩
theorem zy3 (s : Bool) (x : GValueNode) : canonL s (encGValueNode x) = true := by simp only [encGValueNode, canonL, AV.canon, canon_all, Bool.and_self, Bool.not_false, Bool.or_true]
instance : CanonE encGValueNode := ⟨zy3⟩
instance : OneE encGValueValue := ⟨fun x => by simp only [encGValueValue, List.all_cons, zc2, List.all_nil, Bool.and_self]⟩
instance : OneE encGValueEntry := ⟨fun x => by rw [ze1]; rfl⟩
instance : OneE encGValueNode := ⟨fun x => rfl⟩
instance : LenE encGValueValue 1 := ⟨fun x => rfl⟩
instance : LenE encGValueEntry 2 := ⟨fun x => by rw [ze1]; rfl⟩
instance : LenE encGValueNode 2 := ⟨fun x => rfl⟩
def anyV : GValueValue → AV
 | .nil => .nilI
 | .num n => .ifc 3 (.int .i64 n)
 | .str s => .ifc 9 (.str s)
 | .node es rs => ifcV (.node es rs)
theorem anyV_nil : anyV .nil = .nilI := rfl
theorem anyV_num {n : Int} : anyV (.num n) = .ifc 3 (.int .i64 n) := rfl
theorem anyV_str {s : List UInt8} : anyV (.str s) = .ifc 9 (.str s) := rfl
theorem anyV_node {es : List GValueEntry} {rs : List GRaw} : anyV (.node es rs) = .ifc 131 (.dp [.ds true (fM encGValueEntry es) (lN es) false, .ds true (fM encGRaw rs) (lN rs) false] 0) := zv3
theorem canonAnyV (s : Bool) (x : GValueValue) : (anyV x).canon s = true := by
 cases x with
 | nil => rfl
 | num n => rfl
 | str t => rfl
 | node es rs => exact canonIfcV s (.node es rs)
instance : CanonV anyV := ⟨canonAnyV⟩
structure GType where
 fKind : Int
 fName : List UInt8
 deriving DecidableEq
def encGType (x : GType) : List AV := [.int .i64 x.fKind, .str x.fName]
instance : CanonE encGType := ⟨fun _ _ => rfl⟩
instance : OneE encGType := ⟨fun _ => rfl⟩
instance : LenE encGType 2 := ⟨fun _ => rfl⟩
structure GField where
 fName : List UInt8
 fTag : Int
 fLabel : Int
 fType : GType
 deriving DecidableEq
def encGField (x : GField) : List AV := [.str x.fName, .int .i64 x.fTag, .int .i64 x.fLabel, .int .i64 x.fType.fKind, .str x.fType.fName]
instance : CanonE encGField := ⟨fun _ _ => rfl⟩
instance : OneE encGField := ⟨fun _ => rfl⟩
instance : LenE encGField 5 := ⟨fun _ => rfl⟩
structure GMessage where
 fName : List UInt8
 fFields : List GField
 fReserved : List Int
 deriving DecidableEq
def encGMessage (x : GMessage) : List AV := [.str x.fName, .ds true (fM encGField x.fFields) (lN x.fFields) false, .ds true (fM encI x.fReserved) (lN x.fReserved) false]
instance : CanonE encGMessage := ⟨fun s x => by simp only [encGMessage, canonL, AV.canon, canon_all, Bool.and_self, Bool.not_false, Bool.or_true]⟩
instance : OneE encGMessage := ⟨fun _ => rfl⟩
instance : LenE encGMessage 3 := ⟨fun _ => rfl⟩
structure GNamed where
 fName : List UInt8
 fN : Int
 deriving DecidableEq
def encGNamed (x : GNamed) : List AV := [.str x.fName, .int .i64 x.fN]
instance : CanonE encGNamed := ⟨fun _ _ => rfl⟩
instance : OneE encGNamed := ⟨fun _ => rfl⟩
instance : LenE encGNamed 2 := ⟨fun _ => rfl⟩
structure GEnumeration where
 fName : List UInt8
 fValues : List GNamed
 deriving DecidableEq
def encGEnumeration (x : GEnumeration) : List AV := [.str x.fName, .ds true (fM encGNamed x.fValues) (lN x.fValues) false]
instance : CanonE encGEnumeration := ⟨fun s x => by simp only [encGEnumeration, canonL, AV.canon, canon_all, Bool.and_self, Bool.not_false, Bool.or_true]⟩
instance : OneE encGEnumeration := ⟨fun _ => rfl⟩
instance : LenE encGEnumeration 2 := ⟨fun _ => rfl⟩
structure GMethod where
 fName : List UInt8
 fIn : List UInt8
 fOut : List UInt8
 deriving DecidableEq
def encGMethod (x : GMethod) : List AV := [.str x.fName, .str x.fIn, .str x.fOut]
instance : CanonE encGMethod := ⟨fun _ _ => rfl⟩
instance : OneE encGMethod := ⟨fun _ => rfl⟩
instance : LenE encGMethod 3 := ⟨fun _ => rfl⟩
structure GSchema where
 fName : List UInt8
 fMessages : List GMessage
 fEnums : List GEnumeration
 fMethods : List GMethod
 deriving DecidableEq
def encGSchema (x : GSchema) : List AV := [.str x.fName, .ds true (fM encGMessage x.fMessages) (lN x.fMessages) false, .ds true (fM encGEnumeration x.fEnums) (lN x.fEnums) false, .ds true (fM encGMethod x.fMethods) (lN x.fMethods) false]
instance : CanonE encGSchema := ⟨fun s x => by simp only [encGSchema, canonL, AV.canon, canon_all, Bool.and_self, Bool.not_false, Bool.or_true]⟩
instance : OneE encGSchema := ⟨fun _ => rfl⟩
instance : LenE encGSchema 4 := ⟨fun _ => rfl⟩
structure GPacket where
 fKind : Int
 fFrom : Int
 fTo : Int
 fID : Int
 fVersion : Int
 fMethod : List UInt8
 fErr : Int
 fBody : List UInt8
 deriving DecidableEq
def encGPacket (x : GPacket) : List AV := [.int .i64 x.fKind, .int .i64 x.fFrom, .int .i64 x.fTo, .int .i64 x.fID, .int .i64 x.fVersion, .str x.fMethod, .int .i64 x.fErr, .str x.fBody]
instance : CanonE encGPacket := ⟨fun _ _ => rfl⟩
instance : OneE encGPacket := ⟨fun _ => rfl⟩
instance : LenE encGPacket 8 := ⟨fun _ => rfl⟩
theorem E22 : Enc tab 22 33 4 encGRaw := ⟨⟨_, rfl, rfl⟩, ⟨_, rfl, rfl⟩, by decide, fun _ => rfl⟩
theorem E23 : Enc tab 23 52 5 encGField := ⟨⟨_, rfl, rfl⟩, ⟨_, rfl, rfl⟩, by decide, fun _ => rfl⟩
theorem E24 : Enc tab 24 3 1 encI := ⟨⟨_, rfl, rfl⟩, ⟨_, rfl, rfl⟩, by decide, fun _ => rfl⟩
theorem E27 : Enc tab 27 26 3 encGMessage := ⟨⟨_, rfl, rfl⟩, ⟨_, rfl, rfl⟩, by decide, fun _ => rfl⟩
theorem E28 : Enc tab 28 90 2 encGEnumeration := ⟨⟨_, rfl, rfl⟩, ⟨_, rfl, rfl⟩, by decide, fun _ => rfl⟩
theorem E29 : Enc tab 29 73 3 encGMethod := ⟨⟨_, rfl, rfl⟩, ⟨_, rfl, rfl⟩, by decide, fun _ => rfl⟩
theorem E35 : Enc tab 35 5 1 encB := ⟨⟨_, rfl, rfl⟩, ⟨_, rfl, rfl⟩, by decide, fun _ => rfl⟩
theorem E40 : Enc tab 40 61 2 encGEntry := ⟨⟨_, rfl, rfl⟩, ⟨_, rfl, rfl⟩, by decide, fun x => by rw [zB]; rfl⟩
theorem E59 : Enc tab 59 42 5 encGTree := ⟨⟨_, rfl, rfl⟩, ⟨_, rfl, rfl⟩, by decide, fun x => by rw [zR]; rfl⟩
theorem E88 : Enc tab 88 92 2 encGNamed := ⟨⟨_, rfl, rfl⟩, ⟨_, rfl, rfl⟩, by decide, fun _ => rfl⟩
theorem E155 : Enc tab 155 127 1 encGValueValue := ⟨⟨_, rfl, rfl⟩, ⟨_, rfl, rfl⟩, by decide, fun _ => rfl⟩
theorem E172 : Enc tab 172 176 2 encGValueEntry := ⟨⟨_, rfl, rfl⟩, ⟨_, rfl, rfl⟩, by decide, fun x => by rw [ze1]; rfl⟩
attribute [push_cast] osE1 osE2 tell_u tell_bool zB3 zA3 tell_nilp tell_nilm tell_nilI tell_nilF tell_agg tell_tup tell_ifc zU2 tell_dp tell_op zT1 tell_mp zC1 zH1 ze5 zD2 zq2 tellO_map tellO_iter tellO_dead encM_tell zF2 zE2 zy TLS AV.canon canonL canon_all Bool.and_self Bool.and_true Bool.true_and Bool.and_false Bool.false_and Bool.or_true Bool.or_false Bool.false_or Bool.true_or Bool.not_false Bool.not_true if_true dZ nZ mC mN mP decide_true decide_false and_self tell_ifcV anyV_nil anyV_num anyV_str anyV_node zV4 zU4 zT4 zv3 canonIfcV canonAnyV zy3 encGRaw encGValueValue encGValueNode encGType encGField encGMessage encGNamed encGEnumeration encGMethod encGSchema encGPacket cellsGTree cellsGEntry cellsGValueEntry zR zB ze1
section
variable {k : Nat} {F : Fr} {σ τ : Store} {L : List (Nat × AV)} {P : Program} {f : FuncId} {args : List AV} {x : AV}
theorem AM.TellS.t (keep : List Nat) (ls : Bool) (h1 : keep.Nodup := by decide) (h2 : ∀ id ∈ keep, id < σ.length := by simp) (h3 : keep.take k = List.range k := by first | rfl | simp) (h4 : tellS σ keep ls 12 = τ := by first | rfl | (simp only [← fA, ← lP]; simp only [go_sem, rL, rD, rE, rA, rM, rS, reduceIte, reduceCtorEq, push_cast]; done) | (simp only [go_sem, rL, rD, rE, rA, rM, rS, reduceIte, reduceCtorEq, push_cast, encB, encI, encS, encBo, encK, zM1, fA, fC, fZ, aN, nA, lP, lC, lZ, nZ, aA, cA, Nat.add_assoc] <;> first | rfl | (and_intros <;> rfl))) (h5 : TLS σ keep ls F L := by first | rfl | (simp only [← fA, ← lP]; simp only [go_sem, rL, rD, rE, rA, rM, rS, reduceIte, reduceCtorEq, push_cast]; done) | (simp only [go_sem, rL, rD, rE, rA, rM, rS, reduceIte, reduceCtorEq, push_cast, encB, encI, encS, encBo, encK, zM1, fA, fC, fZ, aN, nA, lP, lC, lZ, nZ, aA, cA, Nat.add_assoc] <;> first | rfl | (and_intros <;> rfl))) : TellS k F σ L τ := .told keep ls h1 h2 h3 h4 h5
theorem AM.TellS.s (h : Fits F L := by first | (and_intros <;> first | rfl | trivial) | simp only [go_sem, rL, rD, rE, rA, rM, rS, reduceIte, reduceCtorEq, Fits, push_cast, zM1, fA, fC, fZ, aN, nA, lP, lC, lZ, nZ, aA, cA, Nat.add_assoc]) (e : σ = τ := by first | rfl | (simp only [go_sem, rL, rD, rE, rA, rM, rS, reduceIte, reduceCtorEq, push_cast, encB, encI, encS, encK, zM1, fA, fC, fZ, aN, nA, lP, lC, lZ, nZ, aA, cA, Nat.add_assoc] <;> rfl)) : TellS k F σ L τ := .same h e
theorem AM.TellS.p {p q : Prop} (hp : p = q) (h : p = q → Fits F L := by intro hp; simp only [go_sem, rL, rD, rE, rA, rM, rS, reduceIte, reduceCtorEq, Fits, hp, decide_true, decide_false, Bool.true_and, Bool.false_and, Bool.true_or, Bool.false_or, Bool.not_true, Bool.not_false, and_self] <;> rfl) (e : σ = τ := by rfl) : TellS k F σ L τ := .same (h hp) e
theorem AM.TellS.b {a b : Bool} (hp : a = b) (h : a = b → Fits F L := by intro hp; simp only [go_sem, rL, rD, rE, rA, rM, rS, reduceIte, reduceCtorEq, Fits, hp, decide_true, decide_false, Bool.true_and, Bool.false_and, Bool.true_or, Bool.false_or, Bool.not_true, Bool.not_false, and_self] <;> rfl) (e : σ = τ := by rfl) : TellS k F σ L τ := .same (h hp) e
theorem retA {Q : Exit → Fr → Store → Prop} {e : Exit} {F : Fr} {σ : Store} (h : Q e F σ := by simp only [retQ, zS, zT, zi1, exists_eq_left', go_sem, rL, rD, rE, rA, rM, rS, reduceIte, reduceCtorEq, push_cast] <;> first | rfl | (and_intros <;> rfl)) : Q e F σ := h
theorem AM.ACalls.c (h : ACalls P f args [] fun r _ => r = x) (σ : Store) (ha : canonL false args = true := by simp only [push_cast]) (hx : x.canon false = true := by simp only [push_cast]) : ACalls P f args σ fun r σ' => r = x ∧ σ' = σ := h.pureAt ha hx σ
theorem AM.ACalls.ld (h : ACalls P f args [] fun r _ => r = x) {args' : List AV} (hx : x.flat = true := by rfl) (ha : args'.map (tell σ [] true 12) = args := by first | (simp only [go_sem, rL, rD, rE, rA, rM, rS, reduceIte, reduceCtorEq, push_cast, nA, aN, Array.toList_map, List.toList_toArray]; done) | (simp only [← fA, ← lP]; simp only [go_sem, rL, rD, rE, rA, rM, rS, reduceIte, reduceCtorEq, push_cast, nA, aN, Array.toList_map, List.toList_toArray]; done) | (simp only [go_sem, rL, rD, rE, rA, rM, rS, reduceIte, reduceCtorEq, push_cast, encB, encI, encS, encBo, encK, zM1, fA, fC, fZ, aN, nA, lP, lC, lZ, nZ, aA, cA, Nat.add_assoc, Array.toList_map, List.toList_toArray] <;> first | rfl | (and_intros <;> rfl))) : ACalls P f args' σ fun r σ' => r = x ∧ σ' = σ := h.lend hx true 12 ha
theorem AM.ACalls.i {σs τs : Store} (h : ACalls P f args σs fun r' σ' => r' = x ∧ σ' = τs) (ids : List Nat) {args' : List AV} (hn : ids.Nodup := by decide) (hlt : ∀ id ∈ ids, id < σ.length := by simp) (hobj : ids.map (fun id => σ[id]?) = σs.map some := by rfl) (hs : σs.all zO3 = true := by simp only [List.all_cons, List.all_nil, canonO_map, zH4, push_cast]) (ht : τs.all zO3 = true := by simp only [List.all_cons, List.all_nil, canonO_map, zH4, push_cast]) (hl : ids.length = τs.length := by rfl) (hx : x.canon true = true := by simp only [push_cast]) (ha : renL (zJ5 ids σ.length) args = args' := by first | rfl | (simp only [renL, AV.ren, renL_E, renL_all, zJ5]; rfl)) : ACalls P f args' σ fun r' σ' => r' = x ∧ σ' = putI ids τs σ := h.io ids hn hlt hobj hs ht hl hx ha
end
end Go.Proofs.YtaddlmlpeghonaaDoor
end
section
namespace Go.Proofs.YtaddlmlpeghonaaDoor
open Go.Shelf Go.RowKit
def utf8Ren : Go.Shelf.Ren := ⟨fun | 197 => 128 | 260 => 132 | n => n, fun | 0 => 0 | 3 => 3 | 4 => 4 | 5 => 5 | 9 => 9 | 21 => 21 | 46 => 116 | 105 => 180 | 119 => 190 | 138 => 192 | 139 => 193 | n => n, fun | 3 => 0 | 4 => 1 | n => n⟩
theorem utf8Lays : Lays.n197 Tryd.prog utf8Ren where
 mixed := by kernel_rfl
 f197 := Tryd.func128.trans (congrArg some (by kernel_rfl))
 f260 := Tryd.func132.trans (congrArg some (by kernel_rfl))
 t0 := Tryd.underlying0
 a0 := Tryd.isAgg0
 z0 := Tryd.sizeOf0
 v0 := Tryd.zeroValue0
 t3 := Tryd.underlying3
 a3 := Tryd.isAgg3
 z3 := Tryd.sizeOf3
 v3 := Tryd.zeroValue3
 t4 := Tryd.underlying4
 a4 := Tryd.isAgg4
 z4 := Tryd.sizeOf4
 v4 := Tryd.zeroValue4
 t5 := Tryd.underlying5
 a5 := Tryd.isAgg5
 z5 := Tryd.sizeOf5
 v5 := Tryd.zeroValue5
 t9 := Tryd.underlying9
 a9 := Tryd.isAgg9
 z9 := Tryd.sizeOf9
 v9 := Tryd.zeroValue9
 t21 := Tryd.underlying21
 a21 := Tryd.isAgg21
 z21 := Tryd.sizeOf21
 v21 := Tryd.zeroValue21
 t46 := Tryd.underlying116
 a46 := Tryd.isAgg116
 z46 := Tryd.sizeOf116
 v46 := Tryd.zeroValue116
 t105 := Tryd.underlying180
 a105 := Tryd.isAgg180
 z105 := Tryd.sizeOf180
 v105 := Tryd.zeroValue180
 t119 := Tryd.underlying190
 a119 := Tryd.isAgg190
 z119 := Tryd.sizeOf190
 t138 := Tryd.underlying192
 a138 := Tryd.isAgg192
 z138 := Tryd.sizeOf192
 v138 := Tryd.zeroValue192
 t139 := Tryd.underlying193
 a139 := Tryd.isAgg193
 z139 := Tryd.sizeOf193
 v139 := Tryd.zeroValue193
 g3 := by kernel_rfl
 g4 := by kernel_rfl
namespace AM
def dec0 (s : List UInt8) : Nat × Nat := if s = [] then (65533, 0) else decU s 0
theorem dec0_eq (s : List UInt8) : Lib.decodeGo ⟨s.toArray⟩ = dec0 s := by
 unfold Lib.decodeGo dec0 decU
 by_cases h : s = []
 · subst h; rfl
 · rw [if_neg h, if_neg]
   intro h0
   exact h (List.eq_nil_of_length_eq_zero (by simpa [ByteArray.size] using h0))
theorem decode_ev (s : List UInt8) (σ : Store) : ACalls Tryd.prog 128 [.str s] σ (fun r σ' => r = .tup [.int .i32 ((dec0 s).1 : Int), .int .i64 ((dec0 s).2 : Int)] ∧ σ' = σ) := by
 refine ⟨Tryd.call128, fun E vs hS hl => ?_⟩
 obtain ⟨v, e⟩ : ∃ v, vs = #[v] := by
  have h1 : vs.toList.length = 1 := hl.1
  obtain ⟨l⟩ := vs
  match l, h1 with
  | [v], _ => exact ⟨v, rfl⟩
 subst e
 have h2 : VR E (.str s) v := hl.2 0 (by simp)
 cases h2 with | str _ b hb =>
 subst hb
 refine (Any.utf8_DecodeRuneInString utf8Lays b E.w hS.glb.utf8).mono ?_
 rintro e w' ⟨rfl, hb⟩
 obtain ⟨hS', hx⟩ := hS.grew (w' := w') ⟨hb.os, hb.tape, hb.output, hb.size, hb.block⟩
 refine ⟨_, .tup [.int .i32 ((dec0 b.data.toList).1 : Int), .int .i64 ((dec0 b.data.toList).2 : Int)], σ, { E with w := w' }, rfl, rfl, ?_, hS', hx, rfl, rfl⟩
 rw [← dec0_eq]
 refine .tup _ _ rfl fun i hi => ?_
 match i, hi with
 | 0, _ => exact .int _ _
 | 1, _ => exact .int _ _
def utf8_Decode (a0 : List UInt8) : Int × Int := (((dec0 a0).1 : Int), ((dec0 a0).2 : Int))
theorem utf8_Decode.ev (a0 : List UInt8) (r : Int × Int) (h : utf8_Decode a0 = r) (σ : Store) : ACalls Tryd.prog 128 [.str a0] σ (fun r' σ' => r' = .tup [.int .i32 r.1, .int .i64 r.2] ∧ σ' = σ) := by subst h; exact decode_ev a0 σ
end AM
end Go.Proofs.YtaddlmlpeghonaaDoor
end
section
set_option maxRecDepth 4000
set_option maxHeartbeats 1000000
namespace Go.Proofs.YtaddlmlpeghonaaDoor
open AM
def runes_Next (a0 : List UInt8) (a1 : Int) : Option (Int × Int × Bool) :=
 (if ((decide (a1 < 0)) || (decide ((lN a0 : Int) ≤ a1))) = true then some (0, 0, false) else (grd ((0 : Int) ≤ a1 ∧ a1 ≤ (lN a0 : Int) ∧ (lN a0 : Int) ≤ (lN a0 : Int))).bind fun _u5 => bnd (utf8_Decode (cutL a0 a1 (lN a0 : Int))) fun r7 => (if ((decide (r7.1 = 65533)) && (decide (r7.2 < 2))) = true then some (0, 0, false) else some (r7.1, r7.2, true)))
theorem runes_Next.ok (a0 : List UInt8) (a1 : Int) (r : Int × Int × Bool) (h : runes_Next a0 a1 = some r) : ACalls Tryd.prog 112 [.str a0, .int .i64 a1] [] (fun r' _ => r' = .tup [.int .i32 r.1, .int .i64 r.2.1, .bool r.2.2]) := by
 refine zm (rs := [.tmp 4, .tmp 5, .tmp 6]) tok Tryd.func112 rfl Tryd.ntmps112 rfl Tryd.call112 (by simp) ?_
 refine zo [(0, .str a0), (1, .int .i64 a1)] ⟨rfl, rfl, trivial⟩ ?_
 unfold runes_Next at h
 refine rg tok [0, 1] fun K hK => ?_
 simp only [go_sem, rL, rE, reduceCtorEq]
 refine hK _ _ ?_
 refine ze fun Z1 hZ1 => ?_
 refine rc [0, 1, 16] fun K hK => ?_
 refine za tok 3 ?_
 simp only [go_sem, rL, rE, reduceCtorEq]
 refine zp 5 (fun L τ => L = ([(0, .str a0), (1, .int .i64 a1), (16, .bool ((decide (a1 < 0)) || (decide ((lN a0 : Int) ≤ a1))))] : List (Nat × AV)) ∧ τ = ([] : Store)) ?_ ?_
 · refine za1 11 rfl (fun hg11 => ?_) (fun hg11 => ?_)
   · have t2 := eq_true hg11
     refine za tok 5 ?_
     simp only [go_sem, rL, rE, reduceCtorEq]
     refine zb ⟨rfl, _, _, ⟨rfl, rfl⟩, .p t2⟩
   · have t3 := eq_false hg11
     refine za tok 5 ?_
     simp only [go_sem, rL, rE, reduceCtorEq]
     refine zb ⟨rfl, _, _, ⟨rfl, rfl⟩, .p t3⟩
 rintro _ _ ⟨rfl, rfl⟩
 refine zb ?_
 simp only [zd, rE, reduceIte, zl, zn]
 refine hK _ _ ?_
 refine zx (b := ((decide (a1 < 0)) || (decide ((lN a0 : Int) ≤ a1)))) rfl (fun hc4 => ?_) (fun hc4 => ?_)
 · rw [if_pos hc4] at h
   refine rg tok [4, 5, 6] fun K hK => ?_
   simp only [go_sem, rL, rE, reduceCtorEq]
   refine hK _ _ ?_
   refine zj ?_
   obtain rfl := Option.some.inj h
   exact retA
 · rw [if_F hc4] at h
   refine zi ?_
   refine hZ1 _ _ ?_
   refine rc [7, 8] fun K hK => ?_
   obtain ⟨_u5, hu5, h⟩ := bind_some h
   have gu5 := zL1 hu5
   have f6 := str_lo (T := tab) (t := 9) rfl rfl gu5
   obtain ⟨r7, hr7, h⟩ := zJ h
   refine za tok 3 ?_
   simp only [go_sem, rL, rE, reduceCtorEq, f6]
   refine zh rfl rfl rfl (utf8_Decode.ev (cutL a0 a1 (lN a0 : Int)) r7 hr7 _) ?_
   rintro _ _ ⟨rfl, rfl⟩
   refine za tok 5 ?_
   simp only [go_sem, rL, rE, rA, reduceCtorEq]
   refine zb ?_
   simp only [zd, upd, rE, reduceIte, zl, zn]
   refine hK _ _ ?_
   refine ze fun Z8 hZ8 => ?_
   refine rc [7, 8, 29] fun K hK => ?_
   refine za tok 3 ?_
   simp only [go_sem, rL, rE]
   refine zp 3 (fun L τ => L = ([(7, .int .i32 r7.1), (8, .int .i64 r7.2), (29, .bool ((decide (r7.1 = 65533)) && (decide (r7.2 < 2))))] : List (Nat × AV)) ∧ τ = ([] : Store)) ?_ ?_
   · refine za1 26 rfl (fun hg26 => ?_) (fun hg26 => ?_)
     · have t9 := eq_true hg26
       refine za tok 3 ?_
       simp only [go_sem, rL, rE]
       refine zb ⟨rfl, _, _, ⟨rfl, rfl⟩, .p t9⟩
     · have t10 := eq_false hg26
       refine za tok 3 ?_
       simp only [go_sem, rL, rE]
       refine zb ⟨rfl, _, _, ⟨rfl, rfl⟩, .p t10⟩
   rintro _ _ ⟨rfl, rfl⟩
   refine zb ?_
   simp only [zd, rE, reduceIte, zl, zn]
   refine hK _ _ ?_
   refine zx (b := ((decide (r7.1 = 65533)) && (decide (r7.2 < 2)))) rfl (fun hc11 => ?_) (fun hc11 => ?_)
   · rw [if_pos hc11] at h
     refine rg tok [4, 5, 6] fun K hK => ?_
     simp only [go_sem, rL, rE]
     refine hK _ _ ?_
     refine zj ?_
     obtain rfl := Option.some.inj h
     exact retA
   · rw [if_F hc11] at h
     refine zi ?_
     refine hZ8 _ _ ?_
     refine rg tok [4, 5, 6] fun K hK => ?_
     simp only [go_sem, rL, rE]
     refine hK _ _ ?_
     refine zj ?_
     obtain rfl := Option.some.inj h
     exact retA
theorem runes_Next.ev (a0 : List UInt8) (a1 : Int) (r : Int × Int × Bool) (h : runes_Next a0 a1 = some r) (σ : Store) : ACalls Tryd.prog 112 [.str a0, .int .i64 a1] σ (fun r' σ' => r' = .tup [.int .i32 r.1, .int .i64 r.2.1, .bool r.2.2] ∧ σ' = σ) :=
 (runes_Next.ok a0 a1 r h).c σ
def runes_Valid.l4 (a0 : List UInt8) : Nat → Nat → Option Bool
 | 0, _ => none
 | k4 + 1, p2 => (if p2 < lN a0 then (if ((decU a0 p2).1 : Int) = 65533 then (runes_Next a0 ((p2 : Nat) : Int)).bind fun r12 => (if (!r12.2.2) = true then some false else ((runes_Valid.l4 a0 k4) (p2 + (decU a0 p2).2))) else ((runes_Valid.l4 a0 k4) (p2 + (decU a0 p2).2))) else some true)
def runes_Valid (a0 : List UInt8) : Option Bool :=
 (runes_Valid.l4 a0 rounds 0)
theorem runes_Valid.ok (a0 : List UInt8) (r : Bool) (h : runes_Valid a0 = some r) : ACalls Tryd.prog 85 [.str a0] [] (fun r' _ => r' = .bool r) := by
 refine zm (rs := [.tmp 2]) tok Tryd.func85 rfl Tryd.ntmps85 rfl Tryd.call85 (by simp) ?_
 refine zo [(0, .str a0)] ⟨rfl, trivial⟩ ?_
 unfold runes_Valid at h
 refine rg tok [0] fun K hK => ?_
 simp only [go_sem, rL, reduceCtorEq]
 refine hK _ _ ?_
 refine ze fun Z1 hZ1 => ?_
 refine rg tok [0, 9] fun K hK => ?_
 simp only [go_sem, rL, rE, reduceCtorEq]
 refine hK _ _ ?_
 refine zk ?_
 refine zw (fun m L τ => ∃ (k4 : Nat) (p2 : Nat), m = 0 + k4 ∧ L = ([(0, .str a0), (9, .it 0)] : List (Nat × AV)) ∧ τ = ([.iter a0 p2] : Store) ∧ runes_Valid.l4 a0 k4 p2 = some r) _ ⟨rounds, 0, rfl, rfl, rfl, h⟩ .s ?_
 rintro m L τ ⟨k4, p2, rfl, rfl, rfl, h⟩
 rcases k4 with _ | k4
 · cases h
 · simp only [runes_Valid.l4] at h
   by_cases hn5 : p2 < lN a0
   · rw [if_pos hn5] at h
     have t6 := eq_true hn5
     refine rg tok [0, 9, 10, 11] fun K hK => ?_
     simp only [go_sem, rL, rE, rA, reduceCtorEq, ze4, if_true, if_false, t6]
     refine hK _ _ ?_
     refine ze fun Z7 hZ7 => ?_
     refine zt rfl ?_
     refine zi ?_
     refine hZ7 _ _ ?_
     refine zk ?_
     refine rg tok [0, 3, 4, 9] fun K hK => ?_
     simp only [go_sem, rL, rE, rA, reduceCtorEq]
     refine hK _ _ ?_
     refine ze fun Z8 hZ8 => ?_
     refine rg tok [0, 3, 9, 15] fun K hK => ?_
     simp only [go_sem, rL, rE, reduceCtorEq]
     refine hK _ _ ?_
     refine zA rfl (fun hc9 => ?_) (fun hc9 => ?_)
     · rw [if_neg hc9] at h
       have t10 := eq_false hc9
       refine zz ?_
       exact ⟨_, _, _, nS (0 + k4), ⟨k4, p2 + (decU a0 p2).2, rfl, rfl, rfl, h⟩, .s⟩
     · rw [if_pos hc9] at h
       have t11 := eq_true hc9
       refine zi ?_
       refine hZ8 _ _ ?_
       refine rc [0, 7, 9] fun K hK => ?_
       obtain ⟨r12, hr12, h⟩ := bind_some h
       refine za tok 2 ?_
       simp only [go_sem, rL, rE, reduceCtorEq, t11]
       refine zh rfl rfl rfl (runes_Next.ev a0 ((p2 : Nat) : Int) r12 hr12 _) ?_
       rintro _ _ ⟨rfl, rfl⟩
       refine za tok 7 ?_
       simp only [go_sem, rL, rE, rA, reduceCtorEq]
       refine zb ?_
       simp only [zd, upd, rE, reduceIte, zl, zn]
       refine hK _ _ ?_
       refine rg tok [0, 9, 24] fun K hK => ?_
       simp only [go_sem, rL, rE, reduceCtorEq]
       refine hK _ _ ?_
       refine zx (b := (!r12.2.2)) rfl (fun hc13 => ?_) (fun hc13 => ?_)
       · rw [if_pos hc13] at h
         refine rg tok [2] fun K hK => ?_
         simp only [go_sem, rL, rE, reduceCtorEq]
         refine hK _ _ ?_
         refine zj ?_
         obtain rfl := Option.some.inj h
         exact retA
       · rw [if_F hc13] at h
         refine zi ?_
         exact ⟨_, _, _, nS (0 + k4), ⟨k4, p2 + (decU a0 p2).2, rfl, rfl, rfl, h⟩, .s⟩
   · rw [if_neg hn5] at h
     have t14 := eq_false hn5
     refine rg tok [0, 9, 10, 11] fun K hK => ?_
     simp only [go_sem, rL, rE, reduceCtorEq, ze4, if_true, if_false, t14]
     refine hK _ _ ?_
     refine ze fun Z15 hZ15 => ?_
     refine zq rfl ?_
     refine zz ?_
     refine hZ1 _ _ ?_
     refine rg tok [2] fun K hK => ?_
     simp only [go_sem, rL, rE, reduceCtorEq]
     refine hK _ _ ?_
     refine zj ?_
     obtain rfl := Option.some.inj h
     exact retA
theorem runes_Valid.ev (a0 : List UInt8) (r : Bool) (h : runes_Valid a0 = some r) (σ : Store) : ACalls Tryd.prog 85 [.str a0] σ (fun r' σ' => r' = .bool r ∧ σ' = σ) :=
 (runes_Valid.ok a0 r h).c σ
def check_Message.l4 (a1 : List UInt8) : List GMessage → Int → GMessage × Bool
 | [], x2 => ((⟨[], ([] : List GField), ([] : List Int)⟩ : GMessage), false)
 | y4 :: q4, x2 => (if y4.fName = a1 then (y4, true) else ((check_Message.l4 a1 q4) (x2 + 1)))
def check_Message (a0 : GSchema) (a1 : List UInt8) : GMessage × Bool :=
 (check_Message.l4 a1 a0.fMessages 0)
theorem check_Message.ok (a0 : GSchema) (a1 : List UInt8) (r : GMessage × Bool) (h : check_Message a0 a1 = r) : ACalls Tryd.prog 34 [.agg (encGSchema a0), .str a1] [] (fun r' _ => r' = .tup [.agg (encGMessage r.1), .bool r.2]) := by
 refine zm (rs := [.cell 4 26, .tmp 5]) tok Tryd.func34 rfl Tryd.ntmps34 rfl Tryd.call34 (by simp) ?_
 refine zo [(0, .agg (encGSchema a0)), (1, .str a1)] ⟨rfl, rfl, trivial⟩ ?_
 unfold check_Message at h
 refine rg tok [1, 2, 4] fun K hK => ?_
 simp only [go_sem, rL, rE, rA, reduceCtorEq, encGSchema]
 refine hK _ _ ?_
 refine ze fun Z1 hZ1 => ?_
 refine rg tok [1, 4, 9, 10, 11] fun K hK => ?_
 simp only [go_sem, rL, rE, rA]
 refine hK _ _ ?_
 refine zk ?_
 refine zO 9 fun hb4 => ?_
 replace hb4 : lN a0.fMessages ≤ 9223372036854775807 := hb4.1
 refine zw (fun m L τ => ∃ (p4 q4 : List GMessage) (x2 : Int), m = lN q4 ∧ L = ([(1, .str a1), (4, .op 0 0 0), (9, .ds true (fM encGMessage a0.fMessages) (lN a0.fMessages) false), (10, .int .i64 (lN a0.fMessages : Int)), (11, .int .i64 x2)] : List (Nat × AV)) ∧ τ = ([.cells 0 [.str [], .ds true [] 0 true, .ds true [] 0 true]] : Store) ∧ a0.fMessages = p4 ++ q4 ∧ x2 = (lN p4 : Int) ∧ check_Message.l4 a1 q4 x2 = r) _ ⟨[], a0.fMessages, 0, rfl, rfl, rfl, rfl, rfl, h⟩ (.t [1] false) ?_
 rintro m L τ ⟨p4, q4, x2, rfl, rfl, rfl, hE4, hi4, h⟩
 rcases q4 with _ | ⟨y4, q4⟩
 · have hz4 := zN hE4 hi4
   simp only [check_Message.l4] at h
   refine rg tok [1, 4, 9, 10, 11, 12] fun K hK => ?_
   simp only [go_sem, rL, rE, hz4]
   refine hK _ _ ?_
   refine ze fun Z5 hZ5 => ?_
   refine zq rfl ?_
   refine zz ?_
   refine hZ1 _ _ ?_
   refine rg tok [4, 5] fun K hK => ?_
   simp only [go_sem, rL, rD, rE, rA]
   refine hK _ _ ?_
   refine zj ?_
   obtain rfl := h
   exact retA
 · obtain ⟨hz4, hw4, hx4, hE'4, hi'4⟩ := zK hE4 hi4 hb4
   simp only [check_Message.l4] at h
   refine rg tok [1, 4, 9, 10, 11, 12] fun K hK => ?_
   simp only [go_sem, rL, rE, hz4]
   refine hK _ _ ?_
   refine ze fun Z6 hZ6 => ?_
   refine zt rfl ?_
   refine zi ?_
   refine hZ6 _ _ ?_
   refine ze fun Z7 hZ7 => ?_
   refine zk ?_
   have f8 := E27.idxS hx4
   have f9 := E27.loadS rfl rfl hx4
   refine rg tok [1, 4, 7, 9, 10, 11] fun K hK => ?_
   simp only [go_sem, rL, rD, rE, rA, encGMessage, f8, f9]
   refine hK _ _ ?_
   refine rg tok [1, 4, 7, 9, 10, 11, 18] fun K hK => ?_
   simp only [go_sem, rL, rE, rA]
   refine hK _ _ ?_
   refine zA rfl (fun hc10 => ?_) (fun hc10 => ?_)
   · rw [if_pos hc10] at h
     have t11 := eq_true hc10
     refine rg tok [4, 5] fun K hK => ?_
     simp only [go_sem, rL, rD, rE, rA, t11]
     refine hK _ _ ?_
     refine zj ?_
     obtain rfl := h
     exact retA
   · rw [if_neg hc10] at h
     have t12 := eq_false hc10
     refine zi ?_
     refine hZ7 _ _ ?_
     refine rgE tok [1, 4, 9, 10, 11] fun K hK => ?_
     simp only [go_sem, rL, rE, hw4, t12]
     refine hK _ _ ?_
     exact ⟨_, _, _, nS q4.length, ⟨p4 ++ [y4], q4, x2 + 1, rfl, rfl, rfl, hE'4, hi'4, h⟩, (.t [0] false)⟩
theorem check_Message.ev (a0 : GSchema) (a1 : List UInt8) (r : GMessage × Bool) (h : check_Message a0 a1 = r) (σ : Store) : ACalls Tryd.prog 34 [.agg (encGSchema a0), .str a1] σ (fun r' σ' => r' = .tup [.agg (encGMessage r.1), .bool r.2] ∧ σ' = σ) :=
 (check_Message.ok a0 a1 r h).c σ
def vint_Get.l12 (a1 : Int) : List UInt8 → Int → Int → Option (Int × Int × Int)
 | [], x9, x8 => some (0, 0, 2)
 | y12 :: q12, x9, x8 => (if ((decide (x9 = 9)) && (decide (1 < (y12.toNat : Int)))) = true then some (0, 0, 3) else (grd (0 ≤ IntKind.i64.wrap (7 * x9))).bind fun _u23 => (if 128 ≤ (y12.toNat : Int) then ((vint_Get.l12 a1 q12) (x9 + 1) (IntKind.u64.wrap ((BitVec.toNat (BitVec.ofInt 64 x8 ||| BitVec.ofInt 64 (IntKind.u64.wrap ((IntKind.u64.wrap (IntKind.u8.wrap ((BitVec.toNat (BitVec.ofInt 8 (y12.toNat : Int) &&& ~~~(BitVec.ofInt 8 128)) : Nat) : Int))) * 2 ^ (min (Int.toNat (IntKind.i64.wrap (7 * x9))) 64)))) : Nat) : Int))) else (if ((decide ((y12.toNat : Int) = 0)) && (decide (0 < x9))) = true then some (0, 0, 3) else some (IntKind.u64.wrap ((BitVec.toNat (BitVec.ofInt 64 x8 ||| BitVec.ofInt 64 (IntKind.u64.wrap ((IntKind.u64.wrap (IntKind.u8.wrap ((BitVec.toNat (BitVec.ofInt 8 (y12.toNat : Int) &&& ~~~(BitVec.ofInt 8 128)) : Nat) : Int))) * 2 ^ (min (Int.toNat (IntKind.i64.wrap (7 * x9))) 64)))) : Nat) : Int), IntKind.i64.wrap ((IntKind.i64.wrap (a1 + x9)) + 1), 0))))
def vint_Get (a0 : List UInt8) (a1 : Int) : Option (Int × Int × Int) :=
 (if ((decide (a1 < 0)) || (decide ((lN a0 : Int) < a1))) = true then some (0, 0, 1) else (grd ((0 : Int) ≤ a1 ∧ a1 ≤ IntKind.i64.wrap (a1 + (if 10 < IntKind.i64.wrap ((lN a0 : Int) - a1) then 10 else IntKind.i64.wrap ((lN a0 : Int) - a1))) ∧ IntKind.i64.wrap (a1 + (if 10 < IntKind.i64.wrap ((lN a0 : Int) - a1) then 10 else IntKind.i64.wrap ((lN a0 : Int) - a1))) ≤ (lN a0 : Int))).bind fun _u6 => (vint_Get.l12 a1 (cutL a0 a1 (IntKind.i64.wrap (a1 + (if 10 < IntKind.i64.wrap ((lN a0 : Int) - a1) then 10 else IntKind.i64.wrap ((lN a0 : Int) - a1))))) 0 0))
theorem vint_Get.ok (a0 : List UInt8) (a1 : Int) (r : Int × Int × Int) (h : vint_Get a0 a1 = some r) : ACalls Tryd.prog 110 [.ds true (fM encB a0) (lN a0) false, .int .i64 a1] [] (fun r' _ => r' = .tup [.int .u64 r.1, .int .i64 r.2.1, .int .i64 r.2.2]) := by
 refine zm (rs := [.tmp 4, .tmp 5, .tmp 6]) tok Tryd.func110 rfl Tryd.ntmps110 rfl Tryd.call110 (by simp) ?_
 refine zo [(0, .ds true (fM encB a0) (lN a0) false), (1, .int .i64 a1)] ⟨rfl, rfl, trivial⟩ ?_
 unfold vint_Get at h
 refine rg tok [0, 1] fun K hK => ?_
 simp only [go_sem, rL, rE, reduceCtorEq]
 refine hK _ _ ?_
 refine ze fun Z1 hZ1 => ?_
 refine rc [0, 1, 17] fun K hK => ?_
 refine za tok 3 ?_
 simp only [go_sem, rL, rE, reduceCtorEq]
 refine zp 5 (fun L τ => L = ([(0, .ds true (fM encB a0) (lN a0) false), (1, .int .i64 a1), (17, .bool ((decide (a1 < 0)) || (decide ((lN a0 : Int) < a1))))] : List (Nat × AV)) ∧ τ = ([] : Store)) ?_ ?_
 · refine za1 12 rfl (fun hg12 => ?_) (fun hg12 => ?_)
   · have t2 := eq_true hg12
     refine za tok 5 ?_
     simp only [go_sem, rL, rE, reduceCtorEq]
     refine zb ⟨rfl, _, _, ⟨rfl, rfl⟩, .p t2⟩
   · have t3 := eq_false hg12
     refine za tok 5 ?_
     simp only [go_sem, rL, rE, reduceCtorEq]
     refine zb ⟨rfl, _, _, ⟨rfl, rfl⟩, .p t3⟩
 rintro _ _ ⟨rfl, rfl⟩
 refine zb ?_
 simp only [zd, rE, reduceIte, zl, zn]
 refine hK _ _ ?_
 refine zx (b := ((decide (a1 < 0)) || (decide ((lN a0 : Int) < a1)))) rfl (fun hc4 => ?_) (fun hc4 => ?_)
 · rw [if_pos hc4] at h
   refine rg tok [4, 5, 6] fun K hK => ?_
   simp only [go_sem, rL, rE, reduceCtorEq]
   refine hK _ _ ?_
   refine zj ?_
   obtain rfl := Option.some.inj h
   exact retA
 · rw [if_F hc4] at h
   refine zi ?_
   refine hZ1 _ _ ?_
   refine rg tok [0, 1, 7] fun K hK => ?_
   simp only [go_sem, rL, rE, reduceCtorEq]
   refine hK _ _ ?_
   refine ze fun Z5 hZ5 => ?_
   obtain ⟨_u6, hu6, h⟩ := bind_some h
   have gu6 := zL1 hu6
   have f7 := E35.sl_lh gu6
   refine rg tok [1, 7, 27, 28, 29] fun K hK => ?_
   simp only [go_sem, rL, rE, reduceCtorEq, zh4, foldO, zB5, f7]
   refine hK _ _ ?_
   refine zk ?_
   refine zO 27 fun hb12 => ?_
   replace hb12 : lN (cutL a0 a1 (IntKind.i64.wrap (a1 + (if 10 < IntKind.i64.wrap ((lN a0 : Int) - a1) then 10 else IntKind.i64.wrap ((lN a0 : Int) - a1))))) ≤ 9223372036854775807 := hb12.1
   refine zw (fun m L τ => ∃ (p12 q12 : List UInt8) (x9 : Int) (x8 : Int), m = lN q12 ∧ L = ([(1, .int .i64 a1), (7, .int .u64 x8), (27, .ds true (fM encB (cutL a0 a1 (IntKind.i64.wrap (a1 + (if 10 < IntKind.i64.wrap ((lN a0 : Int) - a1) then 10 else IntKind.i64.wrap ((lN a0 : Int) - a1)))))) (lN (cutL a0 a1 (IntKind.i64.wrap (a1 + (if 10 < IntKind.i64.wrap ((lN a0 : Int) - a1) then 10 else IntKind.i64.wrap ((lN a0 : Int) - a1)))))) false), (28, .int .i64 (lN (cutL a0 a1 (IntKind.i64.wrap (a1 + (if 10 < IntKind.i64.wrap ((lN a0 : Int) - a1) then 10 else IntKind.i64.wrap ((lN a0 : Int) - a1))))) : Int)), (29, .int .i64 x9)] : List (Nat × AV)) ∧ τ = ([] : Store) ∧ cutL a0 a1 (IntKind.i64.wrap (a1 + (if 10 < IntKind.i64.wrap ((lN a0 : Int) - a1) then 10 else IntKind.i64.wrap ((lN a0 : Int) - a1)))) = p12 ++ q12 ∧ x9 = (lN p12 : Int) ∧ vint_Get.l12 a1 q12 x9 x8 = some r) _ ⟨[], cutL a0 a1 (IntKind.i64.wrap (a1 + (if 10 < IntKind.i64.wrap ((lN a0 : Int) - a1) then 10 else IntKind.i64.wrap ((lN a0 : Int) - a1)))), 0, 0, rfl, rfl, rfl, rfl, rfl, h⟩ .s ?_
   rintro m L τ ⟨p12, q12, x9, x8, rfl, rfl, rfl, hE12, hi12, h⟩
   rcases q12 with _ | ⟨y12, q12⟩
   · have hz12 := zN hE12 hi12
     simp only [vint_Get.l12] at h
     refine rg tok [1, 7, 27, 28, 29, 30] fun K hK => ?_
     simp only [go_sem, rL, rE, hz12]
     refine hK _ _ ?_
     refine ze fun Z13 hZ13 => ?_
     refine zq rfl ?_
     refine zz ?_
     refine hZ5 _ _ ?_
     refine rg tok [4, 5, 6] fun K hK => ?_
     simp only [go_sem, rL, rE]
     refine hK _ _ ?_
     refine zj ?_
     obtain rfl := Option.some.inj h
     exact retA
   · obtain ⟨hz12, hw12, hx12, hE'12, hi'12⟩ := zK hE12 hi12 hb12
     simp only [vint_Get.l12] at h
     refine rg tok [1, 7, 27, 28, 29, 30] fun K hK => ?_
     simp only [go_sem, rL, rE, hz12]
     refine hK _ _ ?_
     refine ze fun Z14 hZ14 => ?_
     refine zt rfl ?_
     refine zi ?_
     refine hZ14 _ _ ?_
     refine ze fun Z15 hZ15 => ?_
     refine zk ?_
     have f16 := E35.idxS hx12
     have f17 := E35.fldS0 (f := 5) rfl rfl hx12
     refine rg tok [1, 7, 8, 9, 27, 28, 29] fun K hK => ?_
     simp only [go_sem, rL, rE, encB, f16, f17]
     refine hK _ _ ?_
     refine ze fun Z18 hZ18 => ?_
     refine rc [1, 7, 8, 9, 27, 28, 29, 39] fun K hK => ?_
     refine za tok 3 ?_
     simp only [go_sem, rL, rE]
     refine zp 3 (fun L τ => L = ([(1, .int .i64 a1), (7, .int .u64 x8), (8, .int .i64 x9), (9, .int .u8 (y12.toNat : Int)), (27, .ds true (fM encB (cutL a0 a1 (IntKind.i64.wrap (a1 + (if 10 < IntKind.i64.wrap ((lN a0 : Int) - a1) then 10 else IntKind.i64.wrap ((lN a0 : Int) - a1)))))) (lN (cutL a0 a1 (IntKind.i64.wrap (a1 + (if 10 < IntKind.i64.wrap ((lN a0 : Int) - a1) then 10 else IntKind.i64.wrap ((lN a0 : Int) - a1)))))) false), (28, .int .i64 (lN (cutL a0 a1 (IntKind.i64.wrap (a1 + (if 10 < IntKind.i64.wrap ((lN a0 : Int) - a1) then 10 else IntKind.i64.wrap ((lN a0 : Int) - a1))))) : Int)), (29, .int .i64 x9), (39, .bool ((decide (x9 = 9)) && (decide (1 < (y12.toNat : Int)))))] : List (Nat × AV)) ∧ τ = ([] : Store)) ?_ ?_
     · refine za1 36 rfl (fun hg36 => ?_) (fun hg36 => ?_)
       · have t19 := eq_true hg36
         refine za tok 3 ?_
         simp only [go_sem, rL, rE]
         refine zb ⟨rfl, _, _, ⟨rfl, rfl⟩, .p t19⟩
       · have t20 := eq_false hg36
         refine za tok 3 ?_
         simp only [go_sem, rL, rE]
         refine zb ⟨rfl, _, _, ⟨rfl, rfl⟩, .p t20⟩
     rintro _ _ ⟨rfl, rfl⟩
     refine zb ?_
     simp only [zd, rE, reduceIte, zl, zn]
     refine hK _ _ ?_
     refine zx (b := ((decide (x9 = 9)) && (decide (1 < (y12.toNat : Int))))) rfl (fun hc21 => ?_) (fun hc21 => ?_)
     · rw [if_pos hc21] at h
       refine rg tok [4, 5, 6] fun K hK => ?_
       simp only [go_sem, rL, rE]
       refine hK _ _ ?_
       refine zj ?_
       obtain rfl := Option.some.inj h
       exact retA
     · rw [if_F hc21] at h
       refine zi ?_
       refine hZ18 _ _ ?_
       have f22 := zb1 (T := tab) (src := 5) (dst := 85) rfl rfl rfl
       obtain ⟨_u23, hu23, h⟩ := bind_some h
       have gu23 := zL1 hu23
       have gu23n : (IntKind.i64.wrap (7 * x9) < 0) = False := eq_false (by omega)
       refine rg tok [1, 7, 8, 9, 27, 28, 29] fun K hK => ?_
       simp only [go_sem, rL, rE, f22, gu23n, zC2]
       refine hK _ _ ?_
       refine ze fun Z24 hZ24 => ?_
       refine rg tok [1, 7, 8, 9, 27, 28, 29, 49] fun K hK => ?_
       simp only [go_sem, rL, rE]
       refine hK _ _ ?_
       refine zA rfl (fun hc25 => ?_) (fun hc25 => ?_)
       · rw [if_pos hc25] at h
         have t26 := eq_true hc25
         refine zz ?_
         refine hZ15 _ _ ?_
         refine rgE tok [1, 7, 27, 28, 29] fun K hK => ?_
         simp only [go_sem, rL, rE, hw12, t26]
         refine hK _ _ ?_
         exact ⟨_, _, _, nS q12.length, ⟨p12 ++ [y12], q12, x9 + 1, IntKind.u64.wrap ((BitVec.toNat (BitVec.ofInt 64 x8 ||| BitVec.ofInt 64 (IntKind.u64.wrap ((IntKind.u64.wrap (IntKind.u8.wrap ((BitVec.toNat (BitVec.ofInt 8 (y12.toNat : Int) &&& ~~~(BitVec.ofInt 8 128)) : Nat) : Int))) * 2 ^ (min (Int.toNat (IntKind.i64.wrap (7 * x9))) 64)))) : Nat) : Int), rfl, rfl, rfl, hE'12, hi'12, h⟩, .s⟩
       · rw [if_neg hc25] at h
         have t27 := eq_false hc25
         refine zi ?_
         refine hZ24 _ _ ?_
         refine ze fun Z28 hZ28 => ?_
         refine rc [1, 7, 8, 55] fun K hK => ?_
         refine za tok 3 ?_
         simp only [go_sem, rL, rE, t27]
         refine zp 3 (fun L τ => L = ([(1, .int .i64 a1), (7, .int .u64 (IntKind.u64.wrap ((BitVec.toNat (BitVec.ofInt 64 x8 ||| BitVec.ofInt 64 (IntKind.u64.wrap ((IntKind.u64.wrap (IntKind.u8.wrap ((BitVec.toNat (BitVec.ofInt 8 (y12.toNat : Int) &&& ~~~(BitVec.ofInt 8 128)) : Nat) : Int))) * 2 ^ (min (Int.toNat (IntKind.i64.wrap (7 * x9))) 64)))) : Nat) : Int))), (8, .int .i64 x9), (55, .bool ((decide ((y12.toNat : Int) = 0)) && (decide (0 < x9))))] : List (Nat × AV)) ∧ τ = ([] : Store)) ?_ ?_
         · refine za1 52 rfl (fun hg52 => ?_) (fun hg52 => ?_)
           · have t29 := eq_true hg52
             refine za tok 3 ?_
             simp only [go_sem, rL, rE]
             refine zb ⟨rfl, _, _, ⟨rfl, rfl⟩, .p t29⟩
           · have t30 := eq_false hg52
             refine za tok 3 ?_
             simp only [go_sem, rL, rE]
             refine zb ⟨rfl, _, _, ⟨rfl, rfl⟩, .p t30⟩
         rintro _ _ ⟨rfl, rfl⟩
         refine zb ?_
         simp only [zd, rE, reduceIte, zl, zn]
         refine hK _ _ ?_
         refine zx (b := ((decide ((y12.toNat : Int) = 0)) && (decide (0 < x9)))) rfl (fun hc31 => ?_) (fun hc31 => ?_)
         · rw [if_pos hc31] at h
           refine rg tok [4, 5, 6] fun K hK => ?_
           simp only [go_sem, rL, rE]
           refine hK _ _ ?_
           refine zj ?_
           obtain rfl := Option.some.inj h
           exact retA
         · rw [if_F hc31] at h
           refine zi ?_
           refine hZ28 _ _ ?_
           refine rg tok [4, 5, 6] fun K hK => ?_
           simp only [go_sem, rL, rE]
           refine hK _ _ ?_
           refine zj ?_
           obtain rfl := Option.some.inj h
           exact retA
theorem vint_Get.ev (a0 : List UInt8) (a1 : Int) (r : Int × Int × Int) (h : vint_Get a0 a1 = some r) (σ : Store) : ACalls Tryd.prog 110 [.ds true (fM encB a0) (lN a0) false, .int .i64 a1] σ (fun r' σ' => r' = .tup [.int .u64 r.1, .int .i64 r.2.1, .int .i64 r.2.2] ∧ σ' = σ) :=
 (vint_Get.ok a0 a1 r h).c σ
def vint_Zag (a0 : Int) : Int :=
 IntKind.i64.wrap ((BitVec.toNat (BitVec.ofInt 64 (IntKind.i64.wrap (Int.fdiv a0 (2 ^ (min (Int.toNat 1) 64)))) ^^^ BitVec.ofInt 64 (IntKind.i64.wrap (0 - (IntKind.i64.wrap (IntKind.u64.wrap ((BitVec.toNat (BitVec.ofInt 64 a0 &&& BitVec.ofInt 64 1) : Nat) : Int)))))) : Nat) : Int)
theorem vint_Zag.ok (a0 : Int) (r : Int) (h : vint_Zag a0 = r) : ACalls Tryd.prog 111 [.int .u64 a0] [] (fun r' _ => r' = .int .i64 r) := by
 refine zm (rs := [.tmp 2]) tok Tryd.func111 rfl Tryd.ntmps111 rfl Tryd.call111 (by simp) ?_
 refine zo [(0, .int .u64 a0)] ⟨rfl, trivial⟩ ?_
 unfold vint_Zag at h
 refine rg tok [0] fun K hK => ?_
 simp only [go_sem, rL, reduceCtorEq]
 refine hK _ _ ?_
 have f1 := zb1 (T := tab) (src := 85) (dst := 3) rfl rfl rfl
 have f2 := zb1 (T := tab) (src := 85) (dst := 3) rfl rfl rfl
 refine rg tok [2] fun K hK => ?_
 simp only [go_sem, rL, rE, reduceCtorEq, f1, zC2, Int.reduceLT]
 refine hK _ _ ?_
 refine zj ?_
 obtain rfl := h
 exact retA
theorem vint_Zag.ev (a0 : Int) (r : Int) (h : vint_Zag a0 = r) (σ : Store) : ACalls Tryd.prog 111 [.int .u64 a0] σ (fun r' σ' => r' = .int .i64 r ∧ σ' = σ) :=
 (vint_Zag.ok a0 r h).c σ
def wire_one (a0 : List UInt8) (a1 : Int) : Option (GRaw × Int × Int) :=
 (vint_Get a0 a1).bind fun r1 => (if r1.2.2 = 0 then (if ((decide (r1.1 < 2)) || (decide (500 < IntKind.u64.wrap ((r1.1).tdiv 2)))) = true then some ((⟨0, 0, 0, []⟩ : GRaw), 0, 7) else (vint_Get a0 r1.2.1).bind fun r11 => (if r11.2.2 = 0 then (if IntKind.i64.wrap ((r1.1).tmod 2) = 0 then bnd (vint_Zag r11.1) fun r18 => some ((⟨IntKind.i64.wrap (IntKind.u64.wrap ((r1.1).tdiv 2)), IntKind.i64.wrap ((r1.1).tmod 2), r18, []⟩ : GRaw), r11.2.1, 0) else (if IntKind.u64.wrap (IntKind.i64.wrap ((lN a0 : Int) - r11.2.1)) < r11.1 then some ((⟨0, 0, 0, []⟩ : GRaw), 0, 2) else (grd ((0 : Int) ≤ r11.2.1 ∧ r11.2.1 ≤ IntKind.i64.wrap (r11.2.1 + (IntKind.i64.wrap r11.1)) ∧ IntKind.i64.wrap (r11.2.1 + (IntKind.i64.wrap r11.1)) ≤ (lN a0 : Int))).bind fun _u25 => some ((⟨IntKind.i64.wrap (IntKind.u64.wrap ((r1.1).tdiv 2)), IntKind.i64.wrap ((r1.1).tmod 2), 0, cutL a0 r11.2.1 (IntKind.i64.wrap (r11.2.1 + (IntKind.i64.wrap r11.1)))⟩ : GRaw), IntKind.i64.wrap (r11.2.1 + (IntKind.i64.wrap r11.1)), 0))) else some ((⟨0, 0, 0, []⟩ : GRaw), 0, r11.2.2))) else some ((⟨0, 0, 0, []⟩ : GRaw), 0, r1.2.2))
theorem wire_one.ok (a0 : List UInt8) (a1 : Int) (r : GRaw × Int × Int) (h : wire_one a0 a1 = some r) : ACalls Tryd.prog 83 [.ds true (fM encB a0) (lN a0) false, .int .i64 a1] [] (fun r' _ => r' = .tup [.agg (encGRaw r.1), .int .i64 r.2.1, .int .i64 r.2.2]) := by
 refine zm (rs := [.cell 4 33, .tmp 5, .tmp 6]) tok Tryd.func83 rfl Tryd.ntmps83 rfl Tryd.call83 (by simp) ?_
 refine zo [(0, .ds true (fM encB a0) (lN a0) false), (1, .int .i64 a1)] ⟨rfl, rfl, trivial⟩ ?_
 unfold wire_one at h
 refine rg tok [0, 1, 4] fun K hK => ?_
 simp only [go_sem, rL, rE, reduceCtorEq]
 refine hK _ _ ?_
 refine rc [0, 1, 4, 7, 8] fun K hK => ?_
 obtain ⟨r1, hr1, h⟩ := bind_some h
 refine za tok 2 ?_
 simp only [go_sem, rL, rE, reduceCtorEq]
 refine zh rfl rfl rfl (vint_Get.ev a0 a1 r1 hr1 _) ?_
 rintro _ _ ⟨rfl, rfl⟩
 refine za tok 7 ?_
 simp only [go_sem, rL, rE, rA, reduceCtorEq]
 refine zb ?_
 simp only [zd, upd, rE, reduceIte, zl, zn]
 refine hK _ _ ?_
 refine ze fun Z2 hZ2 => ?_
 refine zk ?_
 refine rg tok [0, 1, 4, 7, 8, 19] fun K hK => ?_
 simp only [go_sem, rL, rE, reduceCtorEq]
 refine hK _ _ ?_
 refine zA rfl (fun hc3 => ?_) (fun hc3 => ?_)
 · rw [if_neg hc3] at h
   have t4 := eq_false hc3
   refine rg tok [4, 5, 6] fun K hK => ?_
   simp only [go_sem, rL, rD, rE, rA, reduceCtorEq, t4]
   refine hK _ _ ?_
   refine zj ?_
   obtain rfl := Option.some.inj h
   exact retA
 · rw [if_pos hc3] at h
   have t5 := eq_true hc3
   refine rc [0, 1, 4, 7, 24] fun K hK => ?_
   refine za tok 3 ?_
   simp only [go_sem, rL, rE, reduceCtorEq, t5]
   refine zp 4 (fun L τ => L = ([(0, .ds true (fM encB a0) (lN a0) false), (1, .int .i64 r1.2.1), (4, .op 0 0 0), (7, .int .u64 r1.1), (31, .bool ((decide (r1.1 < 2)) || (decide (500 < IntKind.u64.wrap ((r1.1).tdiv 2)))))] : List (Nat × AV)) ∧ τ = ([.cells 0 [.int .i64 0, .int .i64 0, .int .i64 0, .str []]] : Store)) ?_ ?_
   · refine za1 27 rfl (fun hg27 => ?_) (fun hg27 => ?_)
     · have t6 := eq_true hg27
       refine za tok 4 ?_
       simp only [go_sem, rL, rE, reduceCtorEq]
       refine zb ⟨rfl, _, _, ⟨rfl, rfl⟩, .p t6⟩
     · have t7 := eq_false hg27
       refine za tok 4 ?_
       simp only [go_sem, rL, rE, reduceCtorEq, Int.reduceEq]
       refine zb ⟨rfl, _, _, ⟨rfl, rfl⟩, .p t7⟩
   rintro _ _ ⟨rfl, rfl⟩
   refine za tok 1 ?_
   simp only [go_sem, rL, rE, reduceCtorEq]
   refine zb ?_
   simp only [zd, upd, rE, reduceIte, zl, zn]
   refine hK _ _ ?_
   refine zx (b := ((decide (r1.1 < 2)) || (decide (500 < IntKind.u64.wrap ((r1.1).tdiv 2))))) rfl (fun hc8 => ?_) (fun hc8 => ?_)
   · rw [if_pos hc8] at h
     refine rg tok [4, 5, 6] fun K hK => ?_
     simp only [go_sem, rL, rD, rE, rA, reduceCtorEq]
     refine hK _ _ ?_
     refine zj ?_
     obtain rfl := Option.some.inj h
     exact retA
   · rw [if_F hc8] at h
     refine zi ?_
     refine hZ2 _ _ ?_
     have f9 := zb1 (T := tab) (src := 85) (dst := 3) rfl rfl rfl
     have f10 := zb1 (T := tab) (src := 85) (dst := 3) rfl rfl rfl
     refine rg tok [0, 1, 4, 9] fun K hK => ?_
     simp only [go_sem, rL, rD, rE, rA, reduceCtorEq, f9, Int.reduceEq]
     refine hK _ _ ?_
     refine rc [0, 1, 4, 8, 9, 10] fun K hK => ?_
     obtain ⟨r11, hr11, h⟩ := bind_some h
     refine za tok 2 ?_
     simp only [go_sem, rL, rE, reduceCtorEq]
     refine zh rfl rfl rfl (vint_Get.ev a0 r1.2.1 r11 hr11 _) ?_
     rintro _ _ ⟨rfl, rfl⟩
     refine za tok 7 ?_
     simp only [go_sem, rL, rE, rA, reduceCtorEq]
     refine zb ?_
     simp only [zd, upd, rE, reduceIte, zl, zn]
     refine hK _ _ ?_
     refine ze fun Z12 hZ12 => ?_
     refine zk ?_
     refine rg tok [0, 1, 4, 8, 9, 10, 47] fun K hK => ?_
     simp only [go_sem, rL, rE, reduceCtorEq]
     refine hK _ _ ?_
     refine zA rfl (fun hc13 => ?_) (fun hc13 => ?_)
     · rw [if_neg hc13] at h
       have t14 := eq_false hc13
       refine rg tok [4, 5, 6] fun K hK => ?_
       simp only [go_sem, rL, rD, rE, rA, reduceCtorEq, t14]
       refine hK _ _ ?_
       refine zj ?_
       obtain rfl := Option.some.inj h
       exact retA
     · rw [if_pos hc13] at h
       have t15 := eq_true hc13
       refine rg tok [0, 1, 4, 9, 10, 52] fun K hK => ?_
       simp only [go_sem, rL, rE, rA, reduceCtorEq, t15]
       refine hK _ _ ?_
       refine zA rfl (fun hc16 => ?_) (fun hc16 => ?_)
       · rw [if_pos hc16] at h
         have t17 := eq_true hc16
         refine rc [1, 4, 9] fun K hK => ?_
         obtain ⟨r18, hr18, h⟩ := zJ h
         refine za tok 1 ?_
         simp only [go_sem, rL, rE, reduceCtorEq, t17]
         refine zh rfl rfl rfl (vint_Zag.ev r11.1 r18 hr18 _) ?_
         rintro _ _ ⟨rfl, rfl⟩
         refine za tok 2 ?_
         simp only [go_sem, rL, rD, rE, rA, reduceCtorEq, encGRaw]
         refine zb ?_
         simp only [zd, upd, rE, reduceIte, zl, zn]
         refine hK _ _ ?_
         refine rg tok [4, 5, 6] fun K hK => ?_
         simp only [go_sem, rL, rD, rE, rA]
         refine hK _ _ ?_
         refine zj ?_
         obtain rfl := Option.some.inj h
         exact retA
       · rw [if_neg hc16] at h
         have t19 := eq_false hc16
         have f20 := zb1 (T := tab) (src := 3) (dst := 85) rfl rfl rfl
         refine rg tok [0, 1, 4, 9, 10, 61] fun K hK => ?_
         simp only [go_sem, rL, rE, reduceCtorEq, t19, f20]
         refine hK _ _ ?_
         refine zA rfl (fun hc21 => ?_) (fun hc21 => ?_)
         · rw [if_pos hc21] at h
           have t22 := eq_true hc21
           refine rg tok [4, 5, 6] fun K hK => ?_
           simp only [go_sem, rL, rD, rE, rA, reduceCtorEq, t22]
           refine hK _ _ ?_
           refine zj ?_
           obtain rfl := Option.some.inj h
           exact retA
         · rw [if_neg hc21] at h
           have t23 := eq_false hc21
           refine zi ?_
           refine hZ12 _ _ ?_
           have f24 := zb1 (T := tab) (src := 85) (dst := 3) rfl rfl rfl
           refine rg tok [0, 1, 4, 9, 11] fun K hK => ?_
           simp only [go_sem, rL, rE, reduceCtorEq, t23, f24]
           refine hK _ _ ?_
           obtain ⟨_u25, hu25, h⟩ := bind_some h
           have gu25 := zL1 hu25
           have f26 := E35.sl_lh gu25
           have f27 := zm4 (T := tab) (src := 35) (dst := 9) rfl rfl rfl rfl rfl rfl (cutL a0 r11.2.1 (IntKind.i64.wrap (r11.2.1 + (IntKind.i64.wrap r11.1))))
           refine rg tok [4, 9, 11] fun K hK => ?_
           simp only [go_sem, rL, rD, rE, rA, reduceCtorEq, f26, f27]
           refine hK _ _ ?_
           refine rg tok [4, 5, 6] fun K hK => ?_
           simp only [go_sem, rL, rD, rE, rA]
           refine hK _ _ ?_
           refine zj ?_
           obtain rfl := Option.some.inj h
           exact retA
theorem wire_one.ev (a0 : List UInt8) (a1 : Int) (r : GRaw × Int × Int) (h : wire_one a0 a1 = some r) (σ : Store) : ACalls Tryd.prog 83 [.ds true (fM encB a0) (lN a0) false, .int .i64 a1] σ (fun r' σ' => r' = .tup [.agg (encGRaw r.1), .int .i64 r.2.1, .int .i64 r.2.2] ∧ σ' = σ) :=
 (wire_one.ok a0 a1 r h).c σ
def wire_Get.l12 (a0 : List UInt8) : Nat → List GRaw → Int → Option (List GRaw × Int)
 | 0, _, _ => none
 | k12 + 1, l6, x8 => (if x8 < (lN a0 : Int) then (wire_one a0 x8).bind fun r16 => (if r16.2.2 = 0 then (room (lN l6 + 1) 40).bind fun _u21 => ((wire_Get.l12 a0 k12) (l6 ++ [r16.1]) r16.2.1) else some (([] : List GRaw), r16.2.2)) else some (l6, 0))
def wire_Get (a0 : List UInt8) : Option (List GRaw × Int) :=
 (if 4096 < (lN a0 : Int) then some (([] : List GRaw), 4) else (wire_Get.l12 a0 rounds ([] : List GRaw) 0))
theorem wire_Get.ok (a0 : List UInt8) (r : List GRaw × Int) (h : wire_Get a0 = some r) : ACalls Tryd.prog 55 [.ds true (fM encB a0) (lN a0) false] [] (fun r' _ => r' = .tup [.ds true (fM encGRaw r.1) (lN r.1) false, .int .i64 r.2]) := by
 refine zm (rs := [.tmp 2, .tmp 3]) tok Tryd.func55 rfl Tryd.ntmps55 rfl Tryd.call55 (by simp) ?_
 refine zo [(0, .ds true (fM encB a0) (lN a0) false)] ⟨rfl, trivial⟩ ?_
 unfold wire_Get at h
 refine rg tok [0] fun K hK => ?_
 simp only [go_sem, rL, reduceCtorEq]
 refine hK _ _ ?_
 refine ze fun Z1 hZ1 => ?_
 refine rg tok [0, 11] fun K hK => ?_
 simp only [go_sem, rL, rE, reduceCtorEq]
 refine hK _ _ ?_
 refine zA rfl (fun hc2 => ?_) (fun hc2 => ?_)
 · rw [if_pos hc2] at h
   have t3 := eq_true hc2
   refine rg tok [2, 3] fun K hK => ?_
   simp only [go_sem, rL, rE, reduceCtorEq, t3]
   refine hK _ _ ?_
   refine zj ?_
   obtain rfl := Option.some.inj h
   exact retA
 · rw [if_neg hc2] at h
   have t4 := eq_false hc2
   refine zi ?_
   refine hZ1 _ _ ?_
   refine rg tok [0, 4] fun K hK => ?_
   simp only [go_sem, rL, rE, reduceCtorEq, t4]
   refine hK _ _ ?_
   refine zw2 4 4 rfl ?_
   refine zH (L := [(0, .ds true (fM encB a0) (lN a0) false), (4, .os true 4 0 0 0 (lN ([] : List GRaw)) false)]) (τ := [.cells 0 (fM encGRaw ([] : List GRaw))]) .s ?_
   refine ze fun Z5 hZ5 => ?_
   refine rg tok [0, 4, 5] fun K hK => ?_
   simp only [go_sem, rL, rE, reduceCtorEq]
   refine hK _ _ ?_
   refine zk ?_
   refine zw (fun m L τ => ∃ (k12 : Nat) (l6 : List GRaw) (x8 : Int) (v7 : Nat), m = 0 + k12 ∧ L = ([(0, .ds true (fM encB a0) (lN a0) false), (4, .os true 4 0 v7 0 (lN l6) false), (5, .int .i64 x8)] : List (Nat × AV)) ∧ τ = ([.cells v7 (fM encGRaw l6)] : Store) ∧ wire_Get.l12 a0 k12 l6 x8 = some r) _ ⟨rounds, ([] : List GRaw), 0, 0, rfl, rfl, rfl, h⟩ .s ?_
   rintro m L τ ⟨k12, l6, x8, v7, rfl, rfl, rfl, h⟩
   rcases k12 with _ | k12
   · cases h
   · simp only [wire_Get.l12] at h
     refine ze fun Z13 hZ13 => ?_
     refine rg tok [0, 4, 5, 15] fun K hK => ?_
     simp only [go_sem, rL, rE, reduceCtorEq]
     refine hK _ _ ?_
     refine zA rfl (fun hc14 => ?_) (fun hc14 => ?_)
     · rw [if_pos hc14] at h
       have t15 := eq_true hc14
       refine zi ?_
       refine hZ13 _ _ ?_
       refine zk ?_
       refine rc [0, 4, 6, 7, 8] fun K hK => ?_
       obtain ⟨r16, hr16, h⟩ := bind_some h
       refine za tok 2 ?_
       simp only [go_sem, rL, rE, reduceCtorEq, t15]
       refine zh rfl rfl rfl (wire_one.ev a0 x8 r16 hr16 _) ?_
       rintro _ _ ⟨rfl, rfl⟩
       refine za tok 8 ?_
       simp only [go_sem, rL, rD, rE, rA, reduceCtorEq, encGRaw]
       refine zb ?_
       simp only [zd, upd, rE, reduceIte, zl, zn]
       refine hK _ _ ?_
       refine ze fun Z17 hZ17 => ?_
       refine rg tok [0, 4, 6, 7, 8, 24] fun K hK => ?_
       simp only [go_sem, rL, rE, reduceCtorEq]
       refine hK _ _ ?_
       refine zA rfl (fun hc18 => ?_) (fun hc18 => ?_)
       · rw [if_neg hc18] at h
         have t19 := eq_false hc18
         refine rg tok [2, 3] fun K hK => ?_
         simp only [go_sem, rL, rE, reduceCtorEq, t19]
         refine hK _ _ ?_
         refine zj ?_
         obtain rfl := Option.some.inj h
         exact retA
       · rw [if_pos hc18] at h
         have t20 := eq_true hc18
         refine zi ?_
         refine hZ17 _ _ ?_
         obtain ⟨_u21, hu21, h⟩ := bind_some h
         have gu21 := zQ hu21
         have f22 := (zr E22.len l6)
         refine rg tok [0, 4, 7] fun K hK => ?_
         simp only [go_sem, rL, rD, rE, rA, rM, reduceCtorEq, zC, zG, List.range_succ, List.range_zero, true_and, Nat.reduceMod, zL, zD, zM, t20, gu21, f22, zX, List.all_nil, List.all_cons, AV.one, Bool.and_self, nA, lC, lZ, nZ, cA]
         refine hK _ _ ?_
         refine zH (L := [(0, .ds true (fM encB a0) (lN a0) false), (4, .os true 4 0 (v7 + 1) 0 (lN (l6 ++ [r16.1])) false), (7, .int .i64 r16.2.1)]) (τ := [.cells (v7 + 1) (fM encGRaw (l6 ++ [r16.1])), .cells 0 [.int .i64 r16.1.fTag, .int .i64 r16.1.fWire, .int .i64 r16.1.fN, .str r16.1.fB], .cells 0 [.int .i64 r16.1.fTag, .int .i64 r16.1.fWire, .int .i64 r16.1.fN, .str r16.1.fB]]) .s ?_
         refine rgE tok [0, 4, 5] fun K hK => ?_
         simp only [go_sem, rL, rE, reduceCtorEq]
         refine hK _ _ ?_
         exact ⟨_, _, _, nS (0 + k12), ⟨k12, l6 ++ [r16.1], r16.2.1, v7 + 1, rfl, rfl, rfl, h⟩, (.t [0] false)⟩
     · rw [if_neg hc14] at h
       have t23 := eq_false hc14
       refine zz ?_
       refine hZ5 _ _ ?_
       refine rg tok [2, 3] fun K hK => ?_
       simp only [go_sem, rL, rE, reduceCtorEq, t23]
       refine hK _ _ ?_
       refine zj ?_
       obtain rfl := Option.some.inj h
       exact retA
theorem wire_Get.ev (a0 : List UInt8) (r : List GRaw × Int) (h : wire_Get a0 = some r) (σ : Store) : ACalls Tryd.prog 55 [.ds true (fM encB a0) (lN a0) false] σ (fun r' σ' => r' = .tup [.ds true (fM encGRaw r.1) (lN r.1) false, .int .i64 r.2] ∧ σ' = σ) :=
 (wire_Get.ok a0 r h).c σ
def check_Field.l4 (a1 : Int) : List GField → Int → GField × Bool
 | [], x2 => ((⟨[], 0, 0, (⟨0, []⟩ : GType)⟩ : GField), false)
 | y4 :: q4, x2 => (if y4.fTag = a1 then (y4, true) else ((check_Field.l4 a1 q4) (x2 + 1)))
def check_Field (a0 : GMessage) (a1 : Int) : GField × Bool :=
 (check_Field.l4 a1 a0.fFields 0)
theorem check_Field.ok (a0 : GMessage) (a1 : Int) (r : GField × Bool) (h : check_Field a0 a1 = r) : ACalls Tryd.prog 56 [.agg (encGMessage a0), .int .i64 a1] [] (fun r' _ => r' = .tup [.agg (encGField r.1), .bool r.2]) := by
 refine zm (rs := [.cell 4 52, .tmp 5]) tok Tryd.func56 rfl Tryd.ntmps56 rfl Tryd.call56 (by simp) ?_
 refine zo [(0, .agg (encGMessage a0)), (1, .int .i64 a1)] ⟨rfl, rfl, trivial⟩ ?_
 unfold check_Field at h
 refine rg tok [1, 2, 4] fun K hK => ?_
 simp only [go_sem, rL, rE, rA, reduceCtorEq, encGMessage]
 refine hK _ _ ?_
 refine ze fun Z1 hZ1 => ?_
 refine rg tok [1, 4, 9, 10, 11] fun K hK => ?_
 simp only [go_sem, rL, rE, rA]
 refine hK _ _ ?_
 refine zk ?_
 refine zO 9 fun hb4 => ?_
 replace hb4 : lN a0.fFields ≤ 9223372036854775807 := hb4.1
 refine zw (fun m L τ => ∃ (p4 q4 : List GField) (x2 : Int), m = lN q4 ∧ L = ([(1, .int .i64 a1), (4, .op 0 0 0), (9, .ds true (fM encGField a0.fFields) (lN a0.fFields) false), (10, .int .i64 (lN a0.fFields : Int)), (11, .int .i64 x2)] : List (Nat × AV)) ∧ τ = ([.cells 0 [.str [], .int .i64 0, .int .i64 0, .int .i64 0, .str []]] : Store) ∧ a0.fFields = p4 ++ q4 ∧ x2 = (lN p4 : Int) ∧ check_Field.l4 a1 q4 x2 = r) _ ⟨[], a0.fFields, 0, rfl, rfl, rfl, rfl, rfl, h⟩ (.t [1] false) ?_
 rintro m L τ ⟨p4, q4, x2, rfl, rfl, rfl, hE4, hi4, h⟩
 rcases q4 with _ | ⟨y4, q4⟩
 · have hz4 := zN hE4 hi4
   simp only [check_Field.l4] at h
   refine rg tok [1, 4, 9, 10, 11, 12] fun K hK => ?_
   simp only [go_sem, rL, rE, hz4]
   refine hK _ _ ?_
   refine ze fun Z5 hZ5 => ?_
   refine zq rfl ?_
   refine zz ?_
   refine hZ1 _ _ ?_
   refine rg tok [4, 5] fun K hK => ?_
   simp only [go_sem, rL, rD, rE, rA]
   refine hK _ _ ?_
   refine zj ?_
   obtain rfl := h
   exact retA
 · obtain ⟨hz4, hw4, hx4, hE'4, hi'4⟩ := zK hE4 hi4 hb4
   simp only [check_Field.l4] at h
   refine rg tok [1, 4, 9, 10, 11, 12] fun K hK => ?_
   simp only [go_sem, rL, rE, hz4]
   refine hK _ _ ?_
   refine ze fun Z6 hZ6 => ?_
   refine zt rfl ?_
   refine zi ?_
   refine hZ6 _ _ ?_
   refine ze fun Z7 hZ7 => ?_
   refine zk ?_
   have f8 := E23.idxS hx4
   have f9 := E23.loadS rfl rfl hx4
   refine rg tok [1, 4, 7, 9, 10, 11] fun K hK => ?_
   simp only [go_sem, rL, rD, rE, rA, encGField, f8, f9]
   refine hK _ _ ?_
   refine rg tok [1, 4, 7, 9, 10, 11, 18] fun K hK => ?_
   simp only [go_sem, rL, rE, rA]
   refine hK _ _ ?_
   refine zA rfl (fun hc10 => ?_) (fun hc10 => ?_)
   · rw [if_pos hc10] at h
     have t11 := eq_true hc10
     refine rg tok [4, 5] fun K hK => ?_
     simp only [go_sem, rL, rD, rE, rA, t11]
     refine hK _ _ ?_
     refine zj ?_
     obtain rfl := h
     exact retA
   · rw [if_neg hc10] at h
     have t12 := eq_false hc10
     refine zi ?_
     refine hZ7 _ _ ?_
     refine rgE tok [1, 4, 9, 10, 11] fun K hK => ?_
     simp only [go_sem, rL, rE, hw4, t12]
     refine hK _ _ ?_
     exact ⟨_, _, _, nS q4.length, ⟨p4 ++ [y4], q4, x2 + 1, rfl, rfl, rfl, hE'4, hi'4, h⟩, (.t [0] false)⟩
theorem check_Field.ev (a0 : GMessage) (a1 : Int) (r : GField × Bool) (h : check_Field a0 a1 = r) (σ : Store) : ACalls Tryd.prog 56 [.agg (encGMessage a0), .int .i64 a1] σ (fun r' σ' => r' = .tup [.agg (encGField r.1), .bool r.2] ∧ σ' = σ) :=
 (check_Field.ok a0 a1 r h).c σ
def valid_Number (a0 : GType) (a1 : Int) : Bool :=
 (if a0.fKind = 1 then ((decide ((-2147483648) ≤ a1)) && (decide (a1 ≤ 2147483647))) else (if a0.fKind = 3 then ((decide (a1 = 0)) || (decide (a1 = 1))) else (if a0.fKind = 6 then ((decide (0 ≤ a1)) && (decide (a1 ≤ 2147483647))) else decide (a0.fKind = 2))))
theorem valid_Number.ok (a0 : GType) (a1 : Int) (r : Bool) (h : valid_Number a0 a1 = r) : ACalls Tryd.prog 84 [.agg (encGType a0), .int .i64 a1] [] (fun r' _ => r' = .bool r) := by
 refine zm (rs := [.tmp 4]) tok Tryd.func84 rfl Tryd.ntmps84 rfl Tryd.call84 (by simp) ?_
 refine zo [(0, .agg (encGType a0)), (1, .int .i64 a1)] ⟨rfl, rfl, trivial⟩ ?_
 unfold valid_Number at h
 refine rg tok [1, 2] fun K hK => ?_
 simp only [go_sem, rL, rE, rA, reduceCtorEq, encGType]
 refine hK _ _ ?_
 refine ze fun Z1 hZ1 => ?_
 refine rg tok [1, 2, 6] fun K hK => ?_
 simp only [go_sem, rL, rE, rA]
 refine hK _ _ ?_
 refine zk ?_
 refine rg tok [1, 2, 6, 7] fun K hK => ?_
 simp only [go_sem, rL, rE]
 refine hK _ _ ?_
 refine zA rfl (fun hc2 => ?_) (fun hc2 => ?_)
 · rw [if_pos hc2] at h
   have t3 := eq_true hc2
   refine rc [4] fun K hK => ?_
   refine za tok 3 ?_
   simp only [go_sem, rL, rE, t3]
   refine zp 3 (fun L τ => L = ([(14, .bool ((decide ((-2147483648) ≤ a1)) && (decide (a1 ≤ 2147483647))))] : List (Nat × AV)) ∧ τ = ([.cells 0 [.int .i64 a0.fKind, .str a0.fName]] : Store)) ?_ ?_
   · refine za1 11 rfl (fun hg11 => ?_) (fun hg11 => ?_)
     · have t4 := eq_true hg11
       refine za tok 3 ?_
       simp only [go_sem, rL, rE]
       refine zb ⟨rfl, _, _, ⟨rfl, rfl⟩, .p t4⟩
     · have t5 := eq_false hg11
       refine za tok 3 ?_
       simp only [go_sem, rL, rE]
       refine zb ⟨rfl, _, _, ⟨rfl, rfl⟩, .p t5⟩
   rintro _ _ ⟨rfl, rfl⟩
   refine za tok 1 ?_
   simp only [go_sem, rL]
   refine zb ?_
   simp only [zd, upd, rE, reduceIte, zl, zn]
   refine hK _ _ ?_
   refine zj ?_
   obtain rfl := h
   exact retA
 · rw [if_neg hc2] at h
   have t6 := eq_false hc2
   refine rg tok [1, 2, 6, 15] fun K hK => ?_
   simp only [go_sem, rL, rE, t6]
   refine hK _ _ ?_
   refine zA rfl (fun hc7 => ?_) (fun hc7 => ?_)
   · rw [if_pos hc7] at h
     have t8 := eq_true hc7
     refine rc [4] fun K hK => ?_
     refine za tok 3 ?_
     simp only [go_sem, rL, rE, t8]
     refine zp 3 (fun L τ => L = ([(22, .bool ((decide (a1 = 0)) || (decide (a1 = 1))))] : List (Nat × AV)) ∧ τ = ([.cells 0 [.int .i64 a0.fKind, .str a0.fName]] : Store)) ?_ ?_
     · refine za1 19 rfl (fun hg19 => ?_) (fun hg19 => ?_)
       · have t9 := eq_true hg19
         refine za tok 3 ?_
         simp only [go_sem, rL, rE]
         refine zb ⟨rfl, _, _, ⟨rfl, rfl⟩, .p t9⟩
       · have t10 := eq_false hg19
         refine za tok 3 ?_
         simp only [go_sem, rL, rE]
         refine zb ⟨rfl, _, _, ⟨rfl, rfl⟩, .p t10⟩
     rintro _ _ ⟨rfl, rfl⟩
     refine za tok 1 ?_
     simp only [go_sem, rL]
     refine zb ?_
     simp only [zd, upd, rE, reduceIte, zl, zn]
     refine hK _ _ ?_
     refine zj ?_
     obtain rfl := h
     exact retA
   · rw [if_neg hc7] at h
     have t11 := eq_false hc7
     refine rg tok [1, 2, 23] fun K hK => ?_
     simp only [go_sem, rL, rE, t11]
     refine hK _ _ ?_
     refine zA rfl (fun hc12 => ?_) (fun hc12 => ?_)
     · rw [if_pos hc12] at h
       have t13 := eq_true hc12
       refine rc [4] fun K hK => ?_
       refine za tok 3 ?_
       simp only [go_sem, rL, rE, t13]
       refine zp 3 (fun L τ => L = ([(30, .bool ((decide (0 ≤ a1)) && (decide (a1 ≤ 2147483647))))] : List (Nat × AV)) ∧ τ = ([.cells 0 [.int .i64 a0.fKind, .str a0.fName]] : Store)) ?_ ?_
       · refine za1 27 rfl (fun hg27 => ?_) (fun hg27 => ?_)
         · have t14 := eq_true hg27
           refine za tok 3 ?_
           simp only [go_sem, rL, rE]
           refine zb ⟨rfl, _, _, ⟨rfl, rfl⟩, .p t14⟩
         · have t15 := eq_false hg27
           refine za tok 3 ?_
           simp only [go_sem, rL, rE]
           refine zb ⟨rfl, _, _, ⟨rfl, rfl⟩, .p t15⟩
       rintro _ _ ⟨rfl, rfl⟩
       refine za tok 1 ?_
       simp only [go_sem, rL]
       refine zb ?_
       simp only [zd, upd, rE, reduceIte, zl, zn]
       refine hK _ _ ?_
       refine zj ?_
       obtain rfl := h
       exact retA
     · rw [if_neg hc12] at h
       have t16 := eq_false hc12
       refine zi ?_
       refine hZ1 _ _ ?_
       refine rg tok [4] fun K hK => ?_
       simp only [go_sem, rL, rE, rA, t16]
       refine hK _ _ ?_
       refine zj ?_
       obtain rfl := h
       exact retA
theorem valid_Number.ev (a0 : GType) (a1 : Int) (r : Bool) (h : valid_Number a0 a1 = r) (σ : Store) : ACalls Tryd.prog 84 [.agg (encGType a0), .int .i64 a1] σ (fun r' σ' => r' = .bool r ∧ σ' = σ) :=
 (valid_Number.ok a0 a1 r h).c σ
def decode_put_1 (a0 : GEntry) (a1 : Int) : Int :=
 IntKind.i64.wrap (a0.fTag - a1)
theorem decode_put_1.ok (a0 : GEntry) (a1 : Int) (r : Int) (h : decode_put_1 a0 a1 = r) : ACalls Tryd.prog 87 [.agg (cellsGEntry a0), .int .i64 a1] [] (fun r' _ => r' = .int .i64 r) := by
 refine zm (rs := [.tmp 4]) tok Tryd.func87 rfl Tryd.ntmps87 rfl Tryd.call87 (by simp) ?_
 refine zo [(0, .agg (cellsGEntry a0)), (1, .int .i64 a1)] ⟨rfl, rfl, trivial⟩ ?_
 unfold decode_put_1 at h
 refine rg tok [1, 2] fun K hK => ?_
 simp only [go_sem, rL, rE, rA, reduceCtorEq, cellsGEntry]
 refine hK _ _ ?_
 refine rg tok [4] fun K hK => ?_
 simp only [go_sem, rL, rE, rA]
 refine hK _ _ ?_
 refine zj ?_
 obtain rfl := h
 exact retA
theorem decode_put_1.ev (a0 : GEntry) (a1 : Int) (r : Int) (h : decode_put_1 a0 a1 = r) (σ : Store) : ACalls Tryd.prog 87 [.agg (cellsGEntry a0), .int .i64 a1] σ (fun r' σ' => r' = .int .i64 r ∧ σ' = σ) :=
 (decode_put_1.ok a0 a1 r h).c σ
def slices_BinarySearchFunc_Entry_decode_put_1.l6 (a0 : List GEntry) (a1 : Int) : Nat → Int → Int → Option (Int × Bool)
 | 0, _, _ => none
 | k6 + 1, x2, x3 => (if x2 < x3 then (idxL a0 (IntKind.i64.wrap (Int.fdiv (IntKind.u64.wrap (IntKind.i64.wrap (x2 + x3))) (2 ^ (min (Int.toNat 1) 64))))).bind fun y12 => bnd (decode_put_1 y12 a1) fun r15 => (if r15 < 0 then ((slices_BinarySearchFunc_Entry_decode_put_1.l6 a0 a1 k6) (IntKind.i64.wrap ((IntKind.i64.wrap (Int.fdiv (IntKind.u64.wrap (IntKind.i64.wrap (x2 + x3))) (2 ^ (min (Int.toNat 1) 64)))) + 1)) x3) else ((slices_BinarySearchFunc_Entry_decode_put_1.l6 a0 a1 k6) x2 (IntKind.i64.wrap (Int.fdiv (IntKind.u64.wrap (IntKind.i64.wrap (x2 + x3))) (2 ^ (min (Int.toNat 1) 64)))))) else (if x2 < (lN a0 : Int) then (idxL a0 x2).bind fun y20 => bnd (decode_put_1 y20 a1) fun r23 => some (decide (r23 = 0)) else some false).bind fun c20 => some (x2, c20))
def slices_BinarySearchFunc_Entry_decode_put_1 (a0 : List GEntry) (a1 : Int) : Option (Int × Bool) :=
 (slices_BinarySearchFunc_Entry_decode_put_1.l6 a0 a1 rounds 0 (lN a0 : Int))
theorem slices_BinarySearchFunc_Entry_decode_put_1.ok (a0 : List GEntry) (a1 : Int) (r : Int × Bool) (h : slices_BinarySearchFunc_Entry_decode_put_1 a0 a1 = some r) : ACalls Tryd.prog 86 [.ds true (fM encGEntry a0) (lN a0) false, .int .i64 a1, .fn (.func 87) [] []] [] (fun r' _ => r' = .tup [.int .i64 r.1, .bool r.2]) := by
 refine zm (rs := [.tmp 6, .tmp 7]) tok Tryd.func86 rfl Tryd.ntmps86 rfl Tryd.call86 (by simp) ?_
 refine zo [(0, .ds true (fM encGEntry a0) (lN a0) false), (1, .int .i64 a1), (2, .fn (.func 87) [] [])] ⟨rfl, rfl, rfl, trivial⟩ ?_
 unfold slices_BinarySearchFunc_Entry_decode_put_1 at h
 refine rg tok [0, 1, 2] fun K hK => ?_
 simp only [go_sem, rL, rE, reduceCtorEq]
 refine hK _ _ ?_
 refine rg tok [0, 1, 2, 8] fun K hK => ?_
 simp only [go_sem, rL, rE, reduceCtorEq]
 refine hK _ _ ?_
 refine rg tok [0, 1, 2, 8, 9, 10] fun K hK => ?_
 simp only [go_sem, rL, rE, reduceCtorEq]
 refine hK _ _ ?_
 refine ze fun Z1 hZ1 => ?_
 refine zk ?_
 refine zw (fun m L τ => ∃ (k6 : Nat) (x2 : Int) (x3 : Int), m = 0 + k6 ∧ L = ([(0, .ds true (fM encGEntry a0) (lN a0) false), (1, .int .i64 a1), (2, .fn (.func 87) [] []), (8, .int .i64 (lN a0 : Int)), (9, .int .i64 x2), (10, .int .i64 x3)] : List (Nat × AV)) ∧ τ = ([] : Store) ∧ slices_BinarySearchFunc_Entry_decode_put_1.l6 a0 a1 k6 x2 x3 = some r) _ ⟨rounds, 0, (lN a0 : Int), rfl, rfl, rfl, h⟩ .s ?_
 rintro m L τ ⟨k6, x2, x3, rfl, rfl, rfl, h⟩
 rcases k6 with _ | k6
 · cases h
 · simp only [slices_BinarySearchFunc_Entry_decode_put_1.l6] at h
   refine ze fun Z7 hZ7 => ?_
   refine rg tok [0, 1, 2, 8, 9, 10, 17] fun K hK => ?_
   simp only [go_sem, rL, rE, reduceCtorEq]
   refine hK _ _ ?_
   refine zA rfl (fun hc8 => ?_) (fun hc8 => ?_)
   · rw [if_pos hc8] at h
     have t9 := eq_true hc8
     refine zi ?_
     refine hZ7 _ _ ?_
     refine zk ?_
     have f10 := zb1 (T := tab) (src := 3) (dst := 116) rfl rfl rfl
     have f11 := zb1 (T := tab) (src := 116) (dst := 3) rfl rfl rfl
     refine rg tok [0, 1, 2, 8, 9, 10, 11] fun K hK => ?_
     simp only [go_sem, rL, rE, reduceCtorEq, t9, f10, f11, zC2, Int.reduceLT]
     refine hK _ _ ?_
     refine rc [0, 1, 2, 8, 9, 10, 11, 31] fun K hK => ?_
     obtain ⟨y12, hy12, h⟩ := bind_some h
     have f13 := E40.idxS hy12
     have f14 := E40.loadS rfl rfl hy12
     obtain ⟨r15, hr15, h⟩ := zJ h
     refine za tok 6 ?_
     simp only [go_sem, rL, rE, reduceCtorEq, cellsGEntry, zB, f13, f14]
     refine zh rfl rfl rfl (decode_put_1.ev y12 a1 r15 hr15 _) ?_
     rintro _ _ ⟨rfl, rfl⟩
     refine za tok 1 ?_
     simp only [go_sem, rL, rE, reduceCtorEq]
     refine zb ?_
     simp only [zd, upd, rE, reduceIte, zl, zn]
     refine hK _ _ ?_
     refine zA rfl (fun hc16 => ?_) (fun hc16 => ?_)
     · rw [if_pos hc16] at h
       have t17 := eq_true hc16
       refine rgE tok [0, 1, 2, 8, 9, 10] fun K hK => ?_
       simp only [go_sem, rL, rE, reduceCtorEq, t17]
       refine hK _ _ ?_
       exact ⟨_, _, _, nS (0 + k6), ⟨k6, IntKind.i64.wrap ((IntKind.i64.wrap (Int.fdiv (IntKind.u64.wrap (IntKind.i64.wrap (x2 + x3))) (2 ^ (min (Int.toNat 1) 64)))) + 1), x3, rfl, rfl, rfl, h⟩, .s⟩
     · rw [if_neg hc16] at h
       have t18 := eq_false hc16
       refine rgE tok [0, 1, 2, 8, 9, 10] fun K hK => ?_
       simp only [go_sem, rL, rE, reduceCtorEq, t18]
       refine hK _ _ ?_
       exact ⟨_, _, _, nS (0 + k6), ⟨k6, x2, IntKind.i64.wrap (Int.fdiv (IntKind.u64.wrap (IntKind.i64.wrap (x2 + x3))) (2 ^ (min (Int.toNat 1) 64))), rfl, rfl, rfl, h⟩, .s⟩
   · rw [if_neg hc8] at h
     have t19 := eq_false hc8
     refine zz ?_
     refine hZ1 _ _ ?_
     refine rc [6, 7] fun K hK => ?_
     refine za tok 5 ?_
     simp only [go_sem, rL, rE, reduceCtorEq, t19]
     obtain ⟨c20, hc20, h⟩ := bind_some h
     refine zp 9 (fun L τ => L = ([(35, .int .i64 x2), (48, .bool c20)] : List (Nat × AV)) ∧ τ = ([] : Store)) ?_ ?_
     · refine za1 39 rfl (fun hg39 => ?_) (fun hg39 => ?_)
       · have t21 := eq_true hg39
         rw [if_pos hg39] at hc20
         obtain ⟨y22, hy22, hc20⟩ := bind_some hc20
         have f23 := E40.idxS hy22
         have f24 := E40.loadS rfl rfl hy22
         obtain ⟨r25, hr25, hc20⟩ := zJ hc20
         refine za tok 6 ?_
         simp only [go_sem, rL, rE, reduceCtorEq, cellsGEntry, zB, f23, f24]
         refine zh rfl rfl rfl (decode_put_1.ev y22 a1 r25 hr25 _) ?_
         rintro _ _ ⟨rfl, rfl⟩
         refine za tok 2 ?_
         simp only [go_sem, rL, rE, reduceCtorEq]
         obtain rfl := Option.some.inj hc20
         refine zb ⟨rfl, _, _, ⟨rfl, rfl⟩, .p t21⟩
       · have t26 := eq_false hg39
         rw [if_neg hg39] at hc20
         refine za tok 9 ?_
         simp only [go_sem, rL, rE, reduceCtorEq]
         obtain rfl := Option.some.inj hc20
         refine zb ⟨rfl, _, _, ⟨rfl, rfl⟩, .p t26⟩
     rintro _ _ ⟨rfl, rfl⟩
     refine za tok 2 ?_
     simp only [go_sem, rL, rE]
     refine zb ?_
     simp only [zd, upd, rE, reduceIte, zl, zn]
     refine hK _ _ ?_
     refine zj ?_
     obtain rfl := Option.some.inj h
     exact retA
def valid_Zero (a0 : GTree) : Bool :=
 ((((((decide (1 ≤ a0.fKind)) && (decide (a0.fKind ≤ 3))) && (decide (a0.fN = 0))) && (decide (a0.fS = []))) && (decide ((lN a0.fEntries : Int) = 0))) && (decide ((lN a0.fRest : Int) = 0)))
theorem valid_Zero.ok (a0 : GTree) (r : Bool) (h : valid_Zero a0 = r) : ACalls Tryd.prog 61 [.agg (cellsGTree a0)] [] (fun r' _ => r' = .bool r) := by
 refine zm (rs := [.tmp 2]) tok Tryd.func61 rfl Tryd.ntmps61 rfl Tryd.call61 (by simp) ?_
 refine zo [(0, .agg (cellsGTree a0))] ⟨rfl, trivial⟩ ?_
 unfold valid_Zero at h
 refine rg tok [1] fun K hK => ?_
 simp only [go_sem, rL, rE, rA, reduceCtorEq, cellsGTree]
 refine hK _ _ ?_
 refine rc [2] fun K hK => ?_
 refine za tok 4 ?_
 simp only [go_sem, rL, rE, rA]
 refine zp 4 (fun L τ => L = ([(1, .op 0 0 0), (10, .bool ((decide (1 ≤ a0.fKind)) && (decide (a0.fKind ≤ 3))))] : List (Nat × AV)) ∧ τ = ([.cells 0 [.int .i64 a0.fKind, .int .i64 a0.fN, .str a0.fS, .ds true (fM encGEntry a0.fEntries) (lN a0.fEntries) false, .ds true (fM encGRaw a0.fRest) (lN a0.fRest) false]] : Store)) ?_ ?_
 · refine za1 6 rfl (fun hg6 => ?_) (fun hg6 => ?_)
   · have t1 := eq_true hg6
     refine za tok 4 ?_
     simp only [go_sem, rL, rE, rA]
     refine zb ⟨rfl, _, _, ⟨rfl, rfl⟩, .p t1⟩
   · have t2 := eq_false hg6
     refine za tok 4 ?_
     simp only [go_sem, rL, rE]
     refine zb ⟨rfl, _, _, ⟨rfl, rfl⟩, .p t2⟩
 rintro _ _ ⟨rfl, rfl⟩
 refine za tok 1 ?_
 simp only [go_sem, rL, rE]
 refine zp 4 (fun L τ => L = ([(1, .op 0 0 0), (15, .bool (((decide (1 ≤ a0.fKind)) && (decide (a0.fKind ≤ 3))) && (decide (a0.fN = 0))))] : List (Nat × AV)) ∧ τ = ([.cells 0 [.int .i64 a0.fKind, .int .i64 a0.fN, .str a0.fS, .ds true (fM encGEntry a0.fEntries) (lN a0.fEntries) false, .ds true (fM encGRaw a0.fRest) (lN a0.fRest) false]] : Store)) ?_ ?_
 · refine zI (b := ((decide (1 ≤ a0.fKind)) && (decide (a0.fKind ≤ 3)))) 11 rfl (fun hg11 => ?_) (fun hg11 => ?_)
   · refine za tok 4 ?_
     simp only [go_sem, rL, rE, rA]
     refine zb ⟨rfl, _, _, ⟨rfl, rfl⟩, .b hg11⟩
   · refine za tok 4 ?_
     simp only [go_sem, rL, rE]
     refine zb ⟨rfl, _, _, ⟨rfl, rfl⟩, .b hg11⟩
 rintro _ _ ⟨rfl, rfl⟩
 refine za tok 1 ?_
 simp only [go_sem, rL, rE]
 refine zp 4 (fun L τ => L = ([(1, .op 0 0 0), (20, .bool ((((decide (1 ≤ a0.fKind)) && (decide (a0.fKind ≤ 3))) && (decide (a0.fN = 0))) && (decide (a0.fS = []))))] : List (Nat × AV)) ∧ τ = ([.cells 0 [.int .i64 a0.fKind, .int .i64 a0.fN, .str a0.fS, .ds true (fM encGEntry a0.fEntries) (lN a0.fEntries) false, .ds true (fM encGRaw a0.fRest) (lN a0.fRest) false]] : Store)) ?_ ?_
 · refine zI (b := (((decide (1 ≤ a0.fKind)) && (decide (a0.fKind ≤ 3))) && (decide (a0.fN = 0)))) 16 rfl (fun hg16 => ?_) (fun hg16 => ?_)
   · refine za tok 4 ?_
     simp only [go_sem, rL, rE, rA]
     refine zb ⟨rfl, _, _, ⟨rfl, rfl⟩, .b hg16⟩
   · refine za tok 4 ?_
     simp only [go_sem, rL, rE]
     refine zb ⟨rfl, _, _, ⟨rfl, rfl⟩, .b hg16⟩
 rintro _ _ ⟨rfl, rfl⟩
 refine za tok 1 ?_
 simp only [go_sem, rL, rE]
 refine zp 5 (fun L τ => L = ([(1, .op 0 0 0), (26, .bool (((((decide (1 ≤ a0.fKind)) && (decide (a0.fKind ≤ 3))) && (decide (a0.fN = 0))) && (decide (a0.fS = []))) && (decide ((lN a0.fEntries : Int) = 0))))] : List (Nat × AV)) ∧ τ = ([.cells 0 [.int .i64 a0.fKind, .int .i64 a0.fN, .str a0.fS, .ds true (fM encGEntry a0.fEntries) (lN a0.fEntries) false, .ds true (fM encGRaw a0.fRest) (lN a0.fRest) false]] : Store)) ?_ ?_
 · refine zI (b := ((((decide (1 ≤ a0.fKind)) && (decide (a0.fKind ≤ 3))) && (decide (a0.fN = 0))) && (decide (a0.fS = [])))) 21 rfl (fun hg21 => ?_) (fun hg21 => ?_)
   · refine za tok 5 ?_
     simp only [go_sem, rL, rE, rA]
     refine zb ⟨rfl, _, _, ⟨rfl, rfl⟩, .b hg21⟩
   · refine za tok 5 ?_
     simp only [go_sem, rL, rE]
     refine zb ⟨rfl, _, _, ⟨rfl, rfl⟩, .b hg21⟩
 rintro _ _ ⟨rfl, rfl⟩
 refine za tok 1 ?_
 simp only [go_sem, rL, rE]
 refine zp 5 (fun L τ => L = ([(32, .bool ((((((decide (1 ≤ a0.fKind)) && (decide (a0.fKind ≤ 3))) && (decide (a0.fN = 0))) && (decide (a0.fS = []))) && (decide ((lN a0.fEntries : Int) = 0))) && (decide ((lN a0.fRest : Int) = 0))))] : List (Nat × AV)) ∧ τ = ([.cells 0 [.int .i64 a0.fKind, .int .i64 a0.fN, .str a0.fS, .ds true (fM encGEntry a0.fEntries) (lN a0.fEntries) false, .ds true (fM encGRaw a0.fRest) (lN a0.fRest) false]] : Store)) ?_ ?_
 · refine zI (b := (((((decide (1 ≤ a0.fKind)) && (decide (a0.fKind ≤ 3))) && (decide (a0.fN = 0))) && (decide (a0.fS = []))) && (decide ((lN a0.fEntries : Int) = 0)))) 27 rfl (fun hg27 => ?_) (fun hg27 => ?_)
   · refine za tok 5 ?_
     simp only [go_sem, rL, rE, rA]
     refine zb ⟨rfl, _, _, ⟨rfl, rfl⟩, .b hg27⟩
   · refine za tok 5 ?_
     simp only [go_sem, rL, rE]
     refine zb ⟨rfl, _, _, ⟨rfl, rfl⟩, .b hg27⟩
 rintro _ _ ⟨rfl, rfl⟩
 refine za tok 1 ?_
 simp only [go_sem, rL]
 refine zb ?_
 simp only [zd, upd, rE, reduceIte, zl, zn]
 refine hK _ _ ?_
 refine zj ?_
 obtain rfl := h
 exact retA
theorem valid_Zero.ev (a0 : GTree) (r : Bool) (h : valid_Zero a0 = r) (σ : Store) : ACalls Tryd.prog 61 [.agg (cellsGTree a0)] σ (fun r' σ' => r' = .bool r ∧ σ' = σ) :=
 (valid_Zero.ok a0 r h).c σ
def decode_message_1 (a0 : GEntry) (a1 : GMessage) : Option Bool :=
 bnd (check_Field a1 a0.fTag) fun r1 => (if r1.1.fLabel = 1 then (idxL a0.fTrees 0).bind fun y2 => bnd (valid_Zero y2) fun r5 => some r5 else some false).bind fun c2 => some c2
theorem decode_message_1.ok (a0 : GEntry) (a1 : GMessage) (r : Bool) (h : decode_message_1 a0 a1 = some r) : ACalls Tryd.prog 60 [.agg (cellsGEntry a0), .dp (encGMessage a1) 0] [] (fun r' _ => r' = .bool r) := by
 refine zm (rs := [.tmp 3]) tok Tryd.func60 rfl Tryd.ntmps60 rfl Tryd.call60 (by simp) ?_
 refine zo [(0, .agg (cellsGEntry a0)), (1, .dp (encGMessage a1) 0)] ⟨rfl, rfl, trivial⟩ ?_
 unfold decode_message_1 at h
 refine rg tok [1, 2] fun K hK => ?_
 simp only [go_sem, rL, rE, rA, reduceCtorEq, cellsGEntry]
 refine hK _ _ ?_
 refine rc [2, 4] fun K hK => ?_
 obtain ⟨r1, hr1, h⟩ := zJ h
 refine za tok 3 ?_
 simp only [go_sem, rL, rD, rE, rA, encGMessage, zg4]
 refine zh rfl rfl rfl (check_Field.ev a1 a0.fTag r1 hr1 _) ?_
 rintro _ _ ⟨rfl, rfl⟩
 refine za tok 6 ?_
 simp only [go_sem, rL, rD, rE, rA, encGField]
 refine zb ?_
 simp only [zd, upd, rE, reduceIte, zl, zn]
 refine hK _ _ ?_
 refine rc [3] fun K hK => ?_
 refine za tok 4 ?_
 simp only [go_sem, rL, rE, rA]
 obtain ⟨c2, hc2, h⟩ := bind_some h
 refine zp 6 (fun L τ => L = ([(22, .bool c2)] : List (Nat × AV)) ∧ τ = ([.cells 0 [.int .i64 a0.fTag, .ds true (fM encGTree a0.fTrees) (lN a0.fTrees) false], .cells 0 [.str r1.1.fName, .int .i64 r1.1.fTag, .int .i64 r1.1.fLabel, .int .i64 r1.1.fType.fKind, .str r1.1.fType.fName]] : Store)) ?_ ?_
 · refine za1 16 rfl (fun hg16 => ?_) (fun hg16 => ?_)
   · have t3 := eq_true hg16
     rw [if_pos hg16] at hc2
     obtain ⟨y4, hy4, hc2⟩ := bind_some hc2
     have f5 := E59.idxS hy4
     have f6 := E59.loadS rfl rfl hy4
     obtain ⟨r7, hr7, hc2⟩ := zJ hc2
     refine za tok 4 ?_
     simp only [go_sem, rL, rE, rA, cellsGTree, zR, f5, f6]
     refine zh rfl rfl rfl (valid_Zero.ev y4 r7 hr7 _) ?_
     rintro _ _ ⟨rfl, rfl⟩
     refine za tok 1 ?_
     simp only [go_sem, rL, rE]
     obtain rfl := Option.some.inj hc2
     refine zb ⟨rfl, _, _, ⟨rfl, rfl⟩, .p t3⟩
   · have t8 := eq_false hg16
     rw [if_neg hg16] at hc2
     refine za tok 6 ?_
     simp only [go_sem, rL, rE]
     obtain rfl := Option.some.inj hc2
     refine zb ⟨rfl, _, _, ⟨rfl, rfl⟩, .p t8⟩
 rintro _ _ ⟨rfl, rfl⟩
 refine za tok 1 ?_
 simp only [go_sem, rL]
 refine zb ?_
 simp only [zd, upd, rE, reduceIte, zl, zn]
 refine hK _ _ ?_
 refine zj ?_
 obtain rfl := Option.some.inj h
 exact retA
theorem decode_message_1.ev (a0 : GEntry) (a1 : GMessage) (r : Bool) (h : decode_message_1 a0 a1 = some r) (σ : Store) : ACalls Tryd.prog 60 [.agg (cellsGEntry a0), .dp (encGMessage a1) 0] σ (fun r' σ' => r' = .bool r ∧ σ' = σ) :=
 (decode_message_1.ok a0 a1 r h).c σ
def slices_IndexFunc_Entry_decode_message_1.l4 (a1_0 : GMessage) : List GEntry → Int → Option Int
 | [], x2 => some (-1)
 | y4 :: q4, x2 => (decode_message_1 y4 a1_0).bind fun r10 => (if r10 = true then some x2 else ((slices_IndexFunc_Entry_decode_message_1.l4 a1_0 q4) (x2 + 1)))
def slices_IndexFunc_Entry_decode_message_1 (a0 : List GEntry) (a1_0 : GMessage) : Option Int :=
 (slices_IndexFunc_Entry_decode_message_1.l4 a1_0 a0 0)
theorem slices_IndexFunc_Entry_decode_message_1.ok (a0 : List GEntry) (a1_0 : GMessage) (r : Int) (h : slices_IndexFunc_Entry_decode_message_1 a0 a1_0 = some r) : ACalls Tryd.prog 89 [.ds true (fM encGEntry a0) (lN a0) false, .fn (.func 60) [] [.dp (encGMessage a1_0) 0]] [] (fun r' _ => r' = .int .i64 r) := by
 refine zm (rs := [.tmp 4]) tok Tryd.func89 rfl Tryd.ntmps89 rfl Tryd.call89 (by simp) ?_
 refine zo [(0, .ds true (fM encGEntry a0) (lN a0) false), (1, .fn (.func 60) [] [.dp (encGMessage a1_0) 0])] ⟨rfl, rfl, trivial⟩ ?_
 unfold slices_IndexFunc_Entry_decode_message_1 at h
 refine rg tok [0, 1] fun K hK => ?_
 simp only [go_sem, rL, rE, reduceCtorEq]
 refine hK _ _ ?_
 refine ze fun Z1 hZ1 => ?_
 refine rg tok [0, 1, 7, 8] fun K hK => ?_
 simp only [go_sem, rL, rE, reduceCtorEq]
 refine hK _ _ ?_
 refine zk ?_
 refine zO 0 fun hb4 => ?_
 replace hb4 : lN a0 ≤ 9223372036854775807 := hb4.1
 refine zw (fun m L τ => ∃ (p4 q4 : List GEntry) (x2 : Int), m = lN q4 ∧ L = ([(0, .ds true (fM encGEntry a0) (lN a0) false), (1, .fn (.func 60) [] [.dp (encGMessage a1_0) 0]), (7, .int .i64 (lN a0 : Int)), (8, .int .i64 x2)] : List (Nat × AV)) ∧ τ = ([] : Store) ∧ a0 = p4 ++ q4 ∧ x2 = (lN p4 : Int) ∧ slices_IndexFunc_Entry_decode_message_1.l4 a1_0 q4 x2 = some r) _ ⟨[], a0, 0, rfl, rfl, rfl, rfl, rfl, h⟩ .s ?_
 rintro m L τ ⟨p4, q4, x2, rfl, rfl, rfl, hE4, hi4, h⟩
 rcases q4 with _ | ⟨y4, q4⟩
 · have hz4 := zN hE4 hi4
   simp only [slices_IndexFunc_Entry_decode_message_1.l4] at h
   refine rg tok [0, 1, 7, 8, 9] fun K hK => ?_
   simp only [go_sem, rL, rE, reduceCtorEq, hz4]
   refine hK _ _ ?_
   refine ze fun Z5 hZ5 => ?_
   refine zq rfl ?_
   refine zz ?_
   refine hZ1 _ _ ?_
   refine rg tok [4] fun K hK => ?_
   simp only [go_sem, rL, rE, reduceCtorEq]
   refine hK _ _ ?_
   refine zj ?_
   obtain rfl := Option.some.inj h
   exact retA
 · obtain ⟨hz4, hw4, hx4, hE'4, hi'4⟩ := zK hE4 hi4 hb4
   simp only [slices_IndexFunc_Entry_decode_message_1.l4] at h
   refine rg tok [0, 1, 7, 8, 9] fun K hK => ?_
   simp only [go_sem, rL, rE, reduceCtorEq, hz4]
   refine hK _ _ ?_
   refine ze fun Z6 hZ6 => ?_
   refine zt rfl ?_
   refine zi ?_
   refine hZ6 _ _ ?_
   refine ze fun Z7 hZ7 => ?_
   refine zk ?_
   refine rg tok [0, 1, 5, 7, 8] fun K hK => ?_
   simp only [go_sem, rL, rE, reduceCtorEq]
   refine hK _ _ ?_
   refine rc [0, 1, 5, 7, 8, 16] fun K hK => ?_
   have f8 := E40.idxS hx4
   have f9 := E40.loadS rfl rfl hx4
   obtain ⟨r10, hr10, h⟩ := bind_some h
   refine za tok 5 ?_
   simp only [go_sem, rL, rE, reduceCtorEq, cellsGEntry, zB, f8, f9]
   refine zh rfl rfl rfl (decode_message_1.ev y4 a1_0 r10 hr10 _) ?_
   rintro _ _ ⟨rfl, rfl⟩
   refine zb ?_
   simp only [zd, updO, upd, rE, reduceIte, zl, zn]
   refine hK _ _ ?_
   refine zx (b := r10) rfl (fun hc11 => ?_) (fun hc11 => ?_)
   · rw [if_pos hc11] at h
     refine rg tok [4] fun K hK => ?_
     simp only [go_sem, rL, rE, reduceCtorEq]
     refine hK _ _ ?_
     refine zj ?_
     obtain rfl := Option.some.inj h
     exact retA
   · rw [if_F hc11] at h
     refine zi ?_
     refine hZ7 _ _ ?_
     refine rgE tok [0, 1, 7, 8] fun K hK => ?_
     simp only [go_sem, rL, rE, reduceCtorEq, hw4]
     refine hK _ _ ?_
     exact ⟨_, _, _, nS q4.length, ⟨p4 ++ [y4], q4, x2 + 1, rfl, rfl, rfl, hE'4, hi'4, h⟩, .s⟩
def wire_Sorted.j20 (x5 : Int) (l4 : List GRaw) (rec8 : Int → List GRaw → Option (List GRaw)) (y8 : GRaw) (x15 : Int) (rec17 : Int → Option (List GRaw)) (x19 : Bool) : Option (List GRaw) :=
 (if x19 = true then (rec17 (IntKind.i64.wrap (x15 - 1))) else (grd ((0 : Int) ≤ IntKind.i64.wrap (x15 + 1) ∧ IntKind.i64.wrap (x15 + 1) ≤ x5 + 1 ∧ x5 + 1 ≤ (lN l4 : Int))).bind fun _u22 => (grd ((0 : Int) ≤ x15 ∧ x15 ≤ x5 ∧ x5 ≤ (lN l4 : Int))).bind fun _u24 => (idxL (zH3 l4 (Int.toNat (IntKind.i64.wrap (x15 + 1))) (Int.toNat x15) (min (Int.toNat x5 - Int.toNat x15) (Int.toNat (x5 + 1) - Int.toNat (IntKind.i64.wrap (x15 + 1))))) x15).bind fun y28 => (rec8 (x5 + 1) (setI (zH3 l4 (Int.toNat (IntKind.i64.wrap (x15 + 1))) (Int.toNat x15) (min (Int.toNat x5 - Int.toNat x15) (Int.toNat (x5 + 1) - Int.toNat (IntKind.i64.wrap (x15 + 1))))) x15 y8)))
def wire_Sorted.l17 (x5 : Int) (l4 : List GRaw) (rec8 : Int → List GRaw → Option (List GRaw)) (y8 : GRaw) : Nat → Int → Option (List GRaw)
 | 0, _ => none
 | k17 + 1, x15 => (if 0 < x15 then (idxL l4 (IntKind.i64.wrap (x15 - 1))).bind fun y33 => (wire_Sorted.j20 x5 l4 rec8 y8 x15 (wire_Sorted.l17 x5 l4 rec8 y8 k17) (decide (y8.fTag < y33.fTag))) else (wire_Sorted.j20 x5 l4 rec8 y8 x15 (wire_Sorted.l17 x5 l4 rec8 y8 k17) false))
def wire_Sorted.l8 : List GRaw → Int → List GRaw → Option (List GRaw)
 | [], x5, l4 => some l4
 | y8 :: q8, x5, l4 => (wire_Sorted.l17 x5 l4 (wire_Sorted.l8 q8) y8 rounds x5)
def wire_Sorted (a0 : List GRaw) : Option (List GRaw) :=
 (grd ((0 : Int) ≤ (lN a0 : Int) ∧ (40 : Int) * (lN a0 : Int) ≤ 281474976710656 ∧ (lN a0 : Int) < 9223372036854775807)).bind fun _u1 => (wire_Sorted.l8 a0 0 (List.replicate (Int.toNat (lN a0 : Int)) ((⟨0, 0, 0, []⟩ : GRaw) : GRaw)))
theorem wire_Sorted.ok (a0 : List GRaw) (r : List GRaw) (h : wire_Sorted a0 = some r) : ACalls Tryd.prog 15 [.ds true (fM encGRaw a0) (lN a0) false] [] (fun r' _ => r' = .ds true (fM encGRaw r) (lN r) false) := by
 refine zm (rs := [.tmp 2]) tok Tryd.func15 rfl Tryd.ntmps15 rfl Tryd.call15 (by simp) ?_
 refine zo [(0, .ds true (fM encGRaw a0) (lN a0) false)] ⟨rfl, trivial⟩ ?_
 unfold wire_Sorted at h
 refine rg tok [0] fun K hK => ?_
 simp only [go_sem, rL, reduceCtorEq]
 refine hK _ _ ?_
 obtain ⟨_u1, hu1, h⟩ := bind_some h
 have gu1 := zL1 hu1
 have f2 := E22.mk0 rfl (z := ((⟨0, 0, 0, []⟩ : GRaw) : GRaw)) rfl rfl gu1 .i64 .i64
 refine rg tok [0, 3] fun K hK => ?_
 simp only [go_sem, rL, rE, reduceCtorEq, f2]
 refine hK _ _ ?_
 refine zH (L := [(0, .ds true (fM encGRaw a0) (lN a0) false), (3, .os true 4 0 0 0 (lN (List.replicate (Int.toNat (lN a0 : Int)) ((⟨0, 0, 0, []⟩ : GRaw) : GRaw))) true)]) (τ := [.cells 0 (fM encGRaw (List.replicate (Int.toNat (lN a0 : Int)) ((⟨0, 0, 0, []⟩ : GRaw) : GRaw)))]) .s ?_
 refine ze fun Z3 hZ3 => ?_
 refine rg tok [3, 10, 11, 12] fun K hK => ?_
 simp only [go_sem, rL, rE, reduceCtorEq]
 refine hK _ _ ?_
 refine zk ?_
 refine zO 10 fun hb8 => ?_
 replace hb8 : lN a0 ≤ 9223372036854775807 := hb8.1
 refine zw (fun m L τ => ∃ (p8 q8 : List GRaw) (x5 : Int) (l4 : List GRaw), m = lN q8 ∧ L = ([(3, .os true 4 0 0 0 (lN l4) true), (10, .ds true (fM encGRaw a0) (lN a0) false), (11, .int .i64 (lN a0 : Int)), (12, .int .i64 x5)] : List (Nat × AV)) ∧ τ = ([.cells 0 (fM encGRaw l4)] : Store) ∧ a0 = p8 ++ q8 ∧ x5 = (lN p8 : Int) ∧ wire_Sorted.l8 q8 x5 l4 = some r) _ ⟨[], a0, 0, List.replicate (Int.toNat (lN a0 : Int)) ((⟨0, 0, 0, []⟩ : GRaw) : GRaw), rfl, rfl, rfl, rfl, rfl, h⟩ .s ?_
 rintro m L τ ⟨p8, q8, x5, l4, rfl, rfl, rfl, hE8, hi8, h⟩
 rcases q8 with _ | ⟨y8, q8⟩
 · have hz8 := zN hE8 hi8
   simp only [wire_Sorted.l8] at h
   refine rg tok [3, 10, 11, 12, 13] fun K hK => ?_
   simp only [go_sem, rL, rE, hz8]
   refine hK _ _ ?_
   refine ze fun Z9 hZ9 => ?_
   refine zq rfl ?_
   refine zz ?_
   refine hZ3 _ _ ?_
   refine rg tok [2] fun K hK => ?_
   simp only [go_sem, rL, rE]
   refine hK _ _ ?_
   refine zj ?_
   obtain rfl := Option.some.inj h
   exact retA
 · obtain ⟨hz8, hw8, hx8, hE'8, hi'8⟩ := zK hE8 hi8 hb8
   simp only [wire_Sorted.l8] at h
   refine rg tok [3, 10, 11, 12, 13] fun K hK => ?_
   simp only [go_sem, rL, rE, hz8]
   refine hK _ _ ?_
   refine ze fun Z10 hZ10 => ?_
   refine zt rfl ?_
   refine zi ?_
   refine hZ10 _ _ ?_
   refine ze fun Z11 hZ11 => ?_
   refine zk ?_
   have f12 := E22.idxS hx8
   have f13 := E22.loadS rfl rfl hx8
   refine rg tok [3, 4, 5, 10, 11, 12] fun K hK => ?_
   simp only [go_sem, rL, rD, rE, rA, encGRaw, f12, f13]
   refine hK _ _ ?_
   refine rg tok [3, 4, 5, 6, 10, 11, 12] fun K hK => ?_
   simp only [go_sem, rL, rE]
   refine hK _ _ ?_
   refine ze fun Z14 hZ14 => ?_
   refine zk ?_
   refine zw (fun m L τ => ∃ (k17 : Nat) (x15 : Int), m = 0 + k17 ∧ L = ([(3, .os true 4 0 0 0 (lN l4) true), (4, .int .i64 x5), (5, .op 1 0 0), (6, .int .i64 x15), (10, .ds true (fM encGRaw a0) (lN a0) false), (11, .int .i64 (lN a0 : Int)), (12, .int .i64 x5)] : List (Nat × AV)) ∧ τ = ([.cells 0 (fM encGRaw l4), .cells 0 [.int .i64 y8.fTag, .int .i64 y8.fWire, .int .i64 y8.fN, .str y8.fB]] : Store) ∧ wire_Sorted.l17 x5 l4 (wire_Sorted.l8 q8) y8 k17 x15 = some r) _ ⟨rounds, x5, rfl, rfl, rfl, h⟩ .s ?_
   rintro m L τ ⟨k17, x15, rfl, rfl, rfl, h⟩
   rcases k17 with _ | k17
   · cases h
   · simp only [wire_Sorted.l17] at h
     refine ze fun Z18 hZ18 => ?_
     refine zk1 (fun L τ => ∃ (x19 : Bool), L = ([(3, .os true 4 0 0 0 (lN l4) true), (4, .int .i64 x5), (5, .op 1 0 0), (6, .int .i64 x15), (10, .ds true (fM encGRaw a0) (lN a0) false), (11, .int .i64 (lN a0 : Int)), (12, .int .i64 x5), (30, .bool x19)] : List (Nat × AV)) ∧ τ = ([.cells 0 (fM encGRaw l4), .cells 0 [.int .i64 y8.fTag, .int .i64 y8.fWire, .int .i64 y8.fN, .str y8.fB]] : Store) ∧ wire_Sorted.j20 x5 l4 (wire_Sorted.l8 q8) y8 x15 (wire_Sorted.l17 x5 l4 (wire_Sorted.l8 q8) y8 k17) x19 = some r) ?_ ?_
     · refine rdE [3, 4, 5, 6, 10, 11, 12, 30] fun K hK => ?_
       refine DW.start (T := tab) [.any, .any, .any, .any, .any, .any, .any, .any, .at [], .any, .at [], .any, .any] [] ?_
       refine DW.runN tok 3 ?_
       simp only [go_sem, rL, rE]
       refine DW.if 20 rfl (fun hg20 => ?_) (fun hg20 => ?_)
       · rw [if_pos hg20] at h
         have t32 := eq_true hg20
         obtain ⟨y33, hy33, h⟩ := bind_some h
         have f34 := E22.idxO hy33
         have f35 := E22.rdfO0 hy33
         refine DW.runN tok 8 ?_
         simp only [go_sem, rL, rE, rA, encGRaw, t32, f34, f35]
         refine DW.runN tok 2 ?_
         simp only [go_sem, rL, rE]
         refine DW.fin tok (by decide +kernel) rfl ?_
         simp only [zd, upd, rE, reduceIte, zl, zn]
         refine hK _ _ ?_
         exact ⟨_, _, ⟨decide (y8.fTag < y33.fTag), rfl, rfl, h⟩, .s⟩
       · rw [if_neg hg20] at h
         have t36 := eq_false hg20
         refine DW.runN tok 8 ?_
         simp only [go_sem, rL, rE, t36]
         refine DW.runN tok 2 ?_
         simp only [go_sem, rL, rE]
         refine DW.fin tok (by decide +kernel) rfl ?_
         simp only [zd, upd, rE, reduceIte, zl, zn]
         refine hK _ _ ?_
         exact ⟨_, _, ⟨false, rfl, rfl, h⟩, .s⟩
     rintro _ _ ⟨x19, rfl, rfl, h⟩
     unfold wire_Sorted.j20 at h
     refine zx (b := x19) rfl (fun hc21 => ?_) (fun hc21 => ?_)
     · rw [if_pos hc21] at h
       refine zi ?_
       refine hZ18 _ _ ?_
       refine zk ?_
       refine rgE tok [3, 4, 5, 6, 10, 11, 12] fun K hK => ?_
       simp only [go_sem, rL, rE]
       refine hK _ _ ?_
       exact ⟨_, _, _, nS (0 + k17), ⟨k17, IntKind.i64.wrap (x15 - 1), rfl, rfl, rfl, h⟩, .s⟩
     · rw [if_F hc21] at h
       refine zz ?_
       refine hZ14 _ _ ?_
       obtain ⟨_u22, hu22, h⟩ := bind_some h
       have gu22 := zL1 hu22
       have f23 := fun id ver => E22.slO gu22 .i64 .i64 id ver true
       obtain ⟨_u24, hu24, h⟩ := bind_some h
       have gu24 := zL1 hu24
       have f25 := fun id ver => E22.slO gu24 .i64 .i64 id ver true
       have f26 := fun (τ : Store) (t1 t2 : Bool) => E22.cpO OneE.h gu22 gu24 t1 t2 (.cells 0 (fM encGRaw l4) :: τ) 0 0 (by simp only [Store.at_hd, if_true]) rfl
       have f27 : lN (zH3 l4 (Int.toNat (IntKind.i64.wrap (x15 + 1))) (Int.toNat x15) (min (Int.toNat x5 - Int.toNat x15) (Int.toNat (x5 + 1) - Int.toNat (IntKind.i64.wrap (x15 + 1))))) = lN l4 := copyI_length (by omega) (by omega)
       refine rd [3, 5, 6, 10, 11, 12] fun K hK => ?_
       refine DW.start (T := tab) [.any, .any, .any, .any, .any, .any, .any, .any, .any, .any, .eff] [] ?_
       refine DW.runN tok 8 ?_
       simp only [go_sem, rL, rE, hw8, f23]
       refine DW.runN tok 3 ?_
       simp only [go_sem, rL, rE, f25, f26]
       refine DW.fin tok (by decide +kernel) rfl ?_
       simp only [zd, upd, rE, reduceIte, zl, zn]
       refine hK _ _ ?_
       refine zH (L := [(3, .os true 4 0 0 0 (lN (zH3 l4 (Int.toNat (IntKind.i64.wrap (x15 + 1))) (Int.toNat x15) (min (Int.toNat x5 - Int.toNat x15) (Int.toNat (x5 + 1) - Int.toNat (IntKind.i64.wrap (x15 + 1)))))) true), (5, .op 1 0 0), (6, .int .i64 x15), (10, .ds true (fM encGRaw a0) (lN a0) false), (11, .int .i64 (lN a0 : Int)), (12, .int .i64 x5)]) (τ := [.cells 0 (fM encGRaw (zH3 l4 (Int.toNat (IntKind.i64.wrap (x15 + 1))) (Int.toNat x15) (min (Int.toNat x5 - Int.toNat x15) (Int.toNat (x5 + 1) - Int.toNat (IntKind.i64.wrap (x15 + 1)))))), .cells 0 [.int .i64 y8.fTag, .int .i64 y8.fWire, .int .i64 y8.fN, .str y8.fB]]) (.same (by first | exact ⟨rfl, rfl, rfl, rfl, rfl, rfl, trivial⟩ | rfl | (simp only [go_sem, rE, Fits, f27, and_self] <;> rfl)) (by first | exact ⟨rfl, rfl, rfl, rfl, rfl, rfl, trivial⟩ | rfl | (simp only [go_sem, rL, rD, rE, rA, rM, rS, reduceIte, reduceCtorEq, Fits, encB, encI, encS, encK, zM1, fA, fC, fZ, aN, nA, lP, lC, lZ, nZ, aA, cA, Nat.add_assoc, encGRaw, f27, and_self] <;> rfl))) ?_
       obtain ⟨y28, hy28, h⟩ := bind_some h
       have f29 := E22.idxO hy28
       have f30 := E22.stOc hy28
       have f31 := E22.stOr hy28 (y := y8) (cs := [.int .i64 y8.fTag, .int .i64 y8.fWire, .int .i64 y8.fN, .str y8.fB]) rfl
       simp only [zP] at f31
       refine rgE tok [3, 10, 11, 12] fun K hK => ?_
       simp only [go_sem, rL, rD, rE, rA, f29, f30, f31]
       refine hK _ _ ?_
       refine hZ11 _ _ ?_
       refine rgE tok [3, 10, 11, 12] fun K hK => ?_
       simp only [go_sem, rL, rE, hw8]
       refine hK _ _ ?_
       exact ⟨_, _, _, nS q8.length, ⟨p8 ++ [y8], q8, x5 + 1, setI (zH3 l4 (Int.toNat (IntKind.i64.wrap (x15 + 1))) (Int.toNat x15) (min (Int.toNat x5 - Int.toNat x15) (Int.toNat (x5 + 1) - Int.toNat (IntKind.i64.wrap (x15 + 1))))) x15 y8, rfl, rfl, rfl, hE'8, hi'8, h⟩, (.t [0] false)⟩
theorem wire_Sorted.ev (a0 : List GRaw) (r : List GRaw) (h : wire_Sorted a0 = some r) (σ : Store) : ACalls Tryd.prog 15 [.ds true (fM encGRaw a0) (lN a0) false] σ (fun r' σ' => r' = .ds true (fM encGRaw r) (lN r) false ∧ σ' = σ) :=
 (wire_Sorted.ok a0 r h).c σ
def decode_one.j4 (m4_1 : GTree) : Option (GTree × Int) :=
 some (m4_1, 0)
def decode_one.j6 (self_decode_message : GSchema → GMessage → (List UInt8) → Int → Option (GTree × Int)) (a0 : GSchema) (a1 : GType) (a2 : GRaw) (a3 : Int) (m4_1 : GTree) (x5 : Bool) : Option (GTree × Int) :=
 (if x5 = true then bnd (valid_Number a1 a2.fN) fun r8 => (if (!r8) = true then some ((⟨0, 0, [], ([] : List GEntry), ([] : List GRaw)⟩ : GTree), 11) else (decode_one.j4 m4_1)) else (if a1.fKind = 4 then (runes_Valid a2.fB).bind fun r12 => (if (!r12) = true then some ((⟨0, 0, [], ([] : List GEntry), ([] : List GRaw)⟩ : GTree), 9) else (decode_one.j4 m4_1)) else (if a1.fKind = 7 then bnd (check_Message a0 a1.fName) fun r17 => (grd (lN a2.fB ≤ 9223372036854775807)).bind fun _u18 => (self_decode_message a0 r17.1 a2.fB (IntKind.i64.wrap (a3 + 1))).bind fun r20 => some (r20.1, r20.2) else (decode_one.j4 m4_1))))
def decode_one.j3 (self_decode_message : GSchema → GMessage → (List UInt8) → Int → Option (GTree × Int)) (a0 : GSchema) (a1 : GType) (a2 : GRaw) (a3 : Int) (m4_1 : GTree) : Option (GTree × Int) :=
 (if a1.fKind = 3 then (decode_one.j6 self_decode_message a0 a1 a2 a3 m4_1 (decide (a1.fKind = 3))) else (decode_one.j6 self_decode_message a0 a1 a2 a3 m4_1 (decide (a1.fKind = 6))))
def decode_one.j26 (self_decode_message : GSchema → GMessage → (List UInt8) → Int → Option (GTree × Int)) (a0 : GSchema) (a1 : GType) (a2 : GRaw) (a3 : Int) (m4_1 : GTree) (x25 : Bool) : Option (GTree × Int) :=
 (if x25 = true then (if a2.fWire = 1 then (decode_one.j3 self_decode_message a0 a1 a2 a3 m4_1) else some ((⟨0, 0, [], ([] : List GEntry), ([] : List GRaw)⟩ : GTree), 8)) else (if a2.fWire = 0 then (decode_one.j3 self_decode_message a0 a1 a2 a3 m4_1) else some ((⟨0, 0, [], ([] : List GEntry), ([] : List GRaw)⟩ : GTree), 8)))
def decode_one.j2 (self_decode_message : GSchema → GMessage → (List UInt8) → Int → Option (GTree × Int)) (a0 : GSchema) (a1 : GType) (a2 : GRaw) (a3 : Int) (m4_1 : GTree) : Option (GTree × Int) :=
 (if a1.fKind = 4 then (decode_one.j26 self_decode_message a0 a1 a2 a3 m4_1 (decide (a1.fKind = 4))) else (if a1.fKind = 5 then (decode_one.j26 self_decode_message a0 a1 a2 a3 m4_1 (decide (a1.fKind = 5))) else (decode_one.j26 self_decode_message a0 a1 a2 a3 m4_1 (decide (a1.fKind = 7)))))
def decode_one.body (self_decode_message : GSchema → GMessage → (List UInt8) → Int → Option (GTree × Int)) (self_decode_one : GSchema → GType → GRaw → Int → Option (GTree × Int)) (a0 : GSchema) (a1 : GType) (a2 : GRaw) (a3 : Int) : Option (GTree × Int) :=
 (if a2.fWire = 1 then (decode_one.j2 self_decode_message a0 a1 a2 a3 (⟨2, 0, a2.fB, ([] : List GEntry), ([] : List GRaw)⟩ : GTree)) else (decode_one.j2 self_decode_message a0 a1 a2 a3 (⟨1, a2.fN, [], ([] : List GEntry), ([] : List GRaw)⟩ : GTree)))
theorem decode_one.step (self_decode_message : GSchema → GMessage → (List UInt8) → Int → Option (GTree × Int)) (self_decode_one : GSchema → GType → GRaw → Int → Option (GTree × Int)) (ih_decode_message : ∀ (a0 : GSchema) (a1 : GMessage) (a2 : List UInt8) (a3 : Int) (r : GTree × Int), self_decode_message a0 a1 a2 a3 = some r → ACalls Tryd.prog 35 [.agg (encGSchema a0), .agg (encGMessage a1), .ds true (fM encB a2) (lN a2) false, .int .i64 a3] [] (fun r' _ => r' = .tup [.agg (cellsGTree r.1), .int .i64 r.2])) (ih_decode_one : ∀ (a0 : GSchema) (a1 : GType) (a2 : GRaw) (a3 : Int) (r : GTree × Int), self_decode_one a0 a1 a2 a3 = some r → ACalls Tryd.prog 57 [.agg (encGSchema a0), .agg (encGType a1), .agg (encGRaw a2), .int .i64 a3] [] (fun r' _ => r' = .tup [.agg (cellsGTree r.1), .int .i64 r.2])) (a0 : GSchema) (a1 : GType) (a2 : GRaw) (a3 : Int) (r : GTree × Int) (h : decode_one.body self_decode_message self_decode_one a0 a1 a2 a3 = some r) : ACalls Tryd.prog 57 [.agg (encGSchema a0), .agg (encGType a1), .agg (encGRaw a2), .int .i64 a3] [] (fun r' _ => r' = .tup [.agg (cellsGTree r.1), .int .i64 r.2]) := by
 have ev_decode_message := fun a0 a1 a2 a3 r h σ => (ih_decode_message a0 a1 a2 a3 r h).c σ
 have ev_decode_one := fun a0 a1 a2 a3 r h σ => (ih_decode_one a0 a1 a2 a3 r h).c σ
 refine zm (rs := [.cell 8 42, .tmp 9]) tok Tryd.func57 rfl Tryd.ntmps57 rfl Tryd.call57 (by simp) ?_
 refine zo [(0, .agg (encGSchema a0)), (1, .agg (encGType a1)), (2, .agg (encGRaw a2)), (3, .int .i64 a3)] ⟨rfl, rfl, rfl, rfl, trivial⟩ ?_
 unfold decode_one.body at h
 refine rg tok [3, 4, 5, 6, 8] fun K hK => ?_
 simp only [go_sem, rL, rE, rA, reduceCtorEq, encGRaw, encGSchema, encGType]
 refine hK _ _ ?_
 refine rg tok [3, 4, 5, 6, 8, 10] fun K hK => ?_
 simp only [go_sem, rL, rD, rE, rA]
 refine hK _ _ ?_
 refine zk1 (fun L τ => ∃ (m4_1 : GTree), L = ([(3, .int .i64 a3), (4, .op 0 0 0), (5, .op 1 0 0), (6, .op 2 0 0), (8, .op 3 0 0), (10, .op 4 0 0)] : List (Nat × AV)) ∧ τ = ([.cells 0 [.str a0.fName, .ds true (fM encGMessage a0.fMessages) (lN a0.fMessages) false, .ds true (fM encGEnumeration a0.fEnums) (lN a0.fEnums) false, .ds true (fM encGMethod a0.fMethods) (lN a0.fMethods) false], .cells 0 [.int .i64 a1.fKind, .str a1.fName], .cells 0 [.int .i64 a2.fTag, .int .i64 a2.fWire, .int .i64 a2.fN, .str a2.fB], .cells 0 [.int .i64 0, .int .i64 0, .str [], .ds true (fM encGEntry ([] : List GEntry)) (lN ([] : List GEntry)) false, .ds true (fM encGRaw ([] : List GRaw)) (lN ([] : List GRaw)) false], .cells 0 [.int .i64 m4_1.fKind, .int .i64 m4_1.fN, .str m4_1.fS, .ds true (fM encGEntry m4_1.fEntries) (lN m4_1.fEntries) false, .ds true (fM encGRaw m4_1.fRest) (lN m4_1.fRest) false]] : Store) ∧ decode_one.j2 self_decode_message a0 a1 a2 a3 m4_1 = some r) ?_ ?_
 · refine rg tok [3, 4, 5, 6, 8, 10, 18] fun K hK => ?_
   simp only [go_sem, rL, rE, rA]
   refine hK _ _ ?_
   refine zA rfl (fun hc40 => ?_) (fun hc40 => ?_)
   · rw [if_pos hc40] at h
     have t41 := eq_true hc40
     refine rgE tok [3, 4, 5, 6, 8, 10] fun K hK => ?_
     simp only [go_sem, rL, rD, rE, rA, t41]
     refine hK _ _ ?_
     exact ⟨_, _, ⟨(⟨2, 0, a2.fB, ([] : List GEntry), ([] : List GRaw)⟩ : GTree), rfl, rfl, h⟩, (.t [0, 1, 2, 3, 4] true)⟩
   · rw [if_neg hc40] at h
     have t42 := eq_false hc40
     refine zi ?_
     exact ⟨_, _, ⟨(⟨1, a2.fN, [], ([] : List GEntry), ([] : List GRaw)⟩ : GTree), rfl, rfl, h⟩, (.t [0, 1, 2, 3, 4] true)⟩
 rintro _ _ ⟨m4_1, rfl, rfl, h⟩
 unfold decode_one.j2 at h
 refine zk1 (fun L τ => L = ([(3, .int .i64 a3), (4, .op 0 0 0), (5, .op 1 0 0), (6, .op 2 0 0), (8, .op 3 0 0), (10, .op 4 0 0)] : List (Nat × AV)) ∧ τ = ([.cells 0 [.str a0.fName, .ds true (fM encGMessage a0.fMessages) (lN a0.fMessages) false, .ds true (fM encGEnumeration a0.fEnums) (lN a0.fEnums) false, .ds true (fM encGMethod a0.fMethods) (lN a0.fMethods) false], .cells 0 [.int .i64 a1.fKind, .str a1.fName], .cells 0 [.int .i64 a2.fTag, .int .i64 a2.fWire, .int .i64 a2.fN, .str a2.fB], .cells 0 [.int .i64 0, .int .i64 0, .str [], .ds true (fM encGEntry ([] : List GEntry)) (lN ([] : List GEntry)) false, .ds true (fM encGRaw ([] : List GRaw)) (lN ([] : List GRaw)) false], .cells 0 [.int .i64 m4_1.fKind, .int .i64 m4_1.fN, .str m4_1.fS, .ds true (fM encGEntry m4_1.fEntries) (lN m4_1.fEntries) false, .ds true (fM encGRaw m4_1.fRest) (lN m4_1.fRest) false]] : Store) ∧ decode_one.j3 self_decode_message a0 a1 a2 a3 m4_1 = some r) ?_ ?_
 · refine rg tok [3, 4, 5, 6, 8, 10, 23] fun K hK => ?_
   simp only [go_sem, rL, rE, rA]
   refine hK _ _ ?_
   refine zk ?_
   refine zk1 (fun L τ => ∃ (x25 : Bool), L = ([(3, .int .i64 a3), (4, .op 0 0 0), (5, .op 1 0 0), (6, .op 2 0 0), (8, .op 3 0 0), (10, .op 4 0 0), (28, .bool x25)] : List (Nat × AV)) ∧ τ = ([.cells 0 [.str a0.fName, .ds true (fM encGMessage a0.fMessages) (lN a0.fMessages) false, .ds true (fM encGEnumeration a0.fEnums) (lN a0.fEnums) false, .ds true (fM encGMethod a0.fMethods) (lN a0.fMethods) false], .cells 0 [.int .i64 a1.fKind, .str a1.fName], .cells 0 [.int .i64 a2.fTag, .int .i64 a2.fWire, .int .i64 a2.fN, .str a2.fB], .cells 0 [.int .i64 0, .int .i64 0, .str [], .ds true (fM encGEntry ([] : List GEntry)) (lN ([] : List GEntry)) false, .ds true (fM encGRaw ([] : List GRaw)) (lN ([] : List GRaw)) false], .cells 0 [.int .i64 m4_1.fKind, .int .i64 m4_1.fN, .str m4_1.fS, .ds true (fM encGEntry m4_1.fEntries) (lN m4_1.fEntries) false, .ds true (fM encGRaw m4_1.fRest) (lN m4_1.fRest) false]] : Store) ∧ decode_one.j26 self_decode_message a0 a1 a2 a3 m4_1 x25 = some r) ?_ ?_
   · refine rg tok [3, 4, 5, 6, 8, 10, 23, 28] fun K hK => ?_
     simp only [go_sem, rL, rE]
     refine hK _ _ ?_
     refine zA rfl (fun hc34 => ?_) (fun hc34 => ?_)
     · rw [if_pos hc34] at h
       have t35 := eq_true hc34
       refine zi ?_
       exact ⟨_, _, ⟨decide (a1.fKind = 4), rfl, rfl, h⟩, .s⟩
     · rw [if_neg hc34] at h
       have t36 := eq_false hc34
       refine rg tok [3, 4, 5, 6, 8, 10, 23, 28] fun K hK => ?_
       simp only [go_sem, rL, rE, t36]
       refine hK _ _ ?_
       refine zA rfl (fun hc37 => ?_) (fun hc37 => ?_)
       · rw [if_pos hc37] at h
         have t38 := eq_true hc37
         refine zi ?_
         exact ⟨_, _, ⟨decide (a1.fKind = 5), rfl, rfl, h⟩, .s⟩
       · rw [if_neg hc37] at h
         have t39 := eq_false hc37
         refine rgE tok [3, 4, 5, 6, 8, 10, 28] fun K hK => ?_
         simp only [go_sem, rL, rE, t39]
         refine hK _ _ ?_
         exact ⟨_, _, ⟨decide (a1.fKind = 7), rfl, rfl, h⟩, .s⟩
   rintro _ _ ⟨x25, rfl, rfl, h⟩
   unfold decode_one.j26 at h
   refine zx (b := x25) rfl (fun hc27 => ?_) (fun hc27 => ?_)
   · rw [if_pos hc27] at h
     refine rg tok [3, 4, 5, 6, 8, 10, 34] fun K hK => ?_
     simp only [go_sem, rL, rE, rA]
     refine hK _ _ ?_
     refine zA rfl (fun hc28 => ?_) (fun hc28 => ?_)
     · rw [if_neg hc28] at h
       have t29 := eq_false hc28
       refine rg tok [8, 9] fun K hK => ?_
       simp only [go_sem, rL, rD, rE, rA, t29]
       refine hK _ _ ?_
       refine zj ?_
       obtain rfl := Option.some.inj h
       exact retA
     · rw [if_pos hc28] at h
       have t30 := eq_true hc28
       refine zi ?_
       exact ⟨_, _, ⟨rfl, rfl, h⟩, .s⟩
   · rw [if_F hc27] at h
     refine rg tok [3, 4, 5, 6, 8, 10, 26] fun K hK => ?_
     simp only [go_sem, rL, rE, rA]
     refine hK _ _ ?_
     refine zA rfl (fun hc31 => ?_) (fun hc31 => ?_)
     · rw [if_neg hc31] at h
       have t32 := eq_false hc31
       refine rg tok [8, 9] fun K hK => ?_
       simp only [go_sem, rL, rD, rE, rA, t32]
       refine hK _ _ ?_
       refine zj ?_
       obtain rfl := Option.some.inj h
       exact retA
     · rw [if_pos hc31] at h
       have t33 := eq_true hc31
       refine zi ?_
       exact ⟨_, _, ⟨rfl, rfl, h⟩, .s⟩
 rintro _ _ ⟨rfl, rfl, h⟩
 unfold decode_one.j3 at h
 refine zk1 (fun L τ => L = ([(8, .op 0 0 0), (10, .op 1 0 0)] : List (Nat × AV)) ∧ τ = ([.cells 0 [.int .i64 0, .int .i64 0, .str [], .ds true (fM encGEntry ([] : List GEntry)) (lN ([] : List GEntry)) false, .ds true (fM encGRaw ([] : List GRaw)) (lN ([] : List GRaw)) false], .cells 0 [.int .i64 m4_1.fKind, .int .i64 m4_1.fN, .str m4_1.fS, .ds true (fM encGEntry m4_1.fEntries) (lN m4_1.fEntries) false, .ds true (fM encGRaw m4_1.fRest) (lN m4_1.fRest) false]] : Store) ∧ decode_one.j4 m4_1 = some r) ?_ ?_
 · refine rg tok [3, 4, 5, 6, 8, 10, 37] fun K hK => ?_
   simp only [go_sem, rL, rE, rA]
   refine hK _ _ ?_
   refine zk ?_
   refine zk1 (fun L τ => ∃ (x5 : Bool), L = ([(3, .int .i64 a3), (4, .op 0 0 0), (5, .op 1 0 0), (6, .op 2 0 0), (8, .op 3 0 0), (10, .op 4 0 0), (37, .int .i64 a1.fKind), (38, .bool x5)] : List (Nat × AV)) ∧ τ = ([.cells 0 [.str a0.fName, .ds true (fM encGMessage a0.fMessages) (lN a0.fMessages) false, .ds true (fM encGEnumeration a0.fEnums) (lN a0.fEnums) false, .ds true (fM encGMethod a0.fMethods) (lN a0.fMethods) false], .cells 0 [.int .i64 a1.fKind, .str a1.fName], .cells 0 [.int .i64 a2.fTag, .int .i64 a2.fWire, .int .i64 a2.fN, .str a2.fB], .cells 0 [.int .i64 0, .int .i64 0, .str [], .ds true (fM encGEntry ([] : List GEntry)) (lN ([] : List GEntry)) false, .ds true (fM encGRaw ([] : List GRaw)) (lN ([] : List GRaw)) false], .cells 0 [.int .i64 m4_1.fKind, .int .i64 m4_1.fN, .str m4_1.fS, .ds true (fM encGEntry m4_1.fEntries) (lN m4_1.fEntries) false, .ds true (fM encGRaw m4_1.fRest) (lN m4_1.fRest) false]] : Store) ∧ decode_one.j6 self_decode_message a0 a1 a2 a3 m4_1 x5 = some r) ?_ ?_
   · refine rg tok [3, 4, 5, 6, 8, 10, 37, 38] fun K hK => ?_
     simp only [go_sem, rL, rE]
     refine hK _ _ ?_
     refine zA rfl (fun hc22 => ?_) (fun hc22 => ?_)
     · rw [if_pos hc22] at h
       have t23 := eq_true hc22
       refine zi ?_
       exact ⟨_, _, ⟨decide (a1.fKind = 3), rfl, rfl, h⟩, .s⟩
     · rw [if_neg hc22] at h
       have t24 := eq_false hc22
       refine rgE tok [3, 4, 5, 6, 8, 10, 37, 38] fun K hK => ?_
       simp only [go_sem, rL, rE, t24]
       refine hK _ _ ?_
       exact ⟨_, _, ⟨decide (a1.fKind = 6), rfl, rfl, h⟩, .s⟩
   rintro _ _ ⟨x5, rfl, rfl, h⟩
   unfold decode_one.j6 at h
   refine zx (b := x5) rfl (fun hc7 => ?_) (fun hc7 => ?_)
   · rw [if_pos hc7] at h
     refine rc [8, 10, 45] fun K hK => ?_
     obtain ⟨r8, hr8, h⟩ := zJ h
     refine za tok 3 ?_
     simp only [go_sem, rL, rD, rE, rA]
     refine zh rfl rfl rfl (valid_Number.ev a1 a2.fN r8 hr8 _) ?_
     rintro _ _ ⟨rfl, rfl⟩
     refine za tok 1 ?_
     simp only [go_sem, rL, rE]
     refine zb ?_
     simp only [zd, upd, rE, reduceIte, zl, zn]
     refine hK _ _ ?_
     refine zx (b := (!r8)) rfl (fun hc9 => ?_) (fun hc9 => ?_)
     · rw [if_pos hc9] at h
       refine rg tok [8, 9] fun K hK => ?_
       simp only [go_sem, rL, rD, rE, rA]
       refine hK _ _ ?_
       refine zj ?_
       obtain rfl := Option.some.inj h
       exact retA
     · rw [if_F hc9] at h
       refine zi ?_
       exact ⟨_, _, ⟨rfl, rfl, h⟩, (.t [3, 4] false)⟩
   · rw [if_F hc7] at h
     refine rg tok [3, 4, 5, 6, 8, 10, 37, 47] fun K hK => ?_
     simp only [go_sem, rL, rE]
     refine hK _ _ ?_
     refine zA rfl (fun hc10 => ?_) (fun hc10 => ?_)
     · rw [if_pos hc10] at h
       have t11 := eq_true hc10
       refine rc [8, 10, 52] fun K hK => ?_
       obtain ⟨r12, hr12, h⟩ := bind_some h
       refine za tok 2 ?_
       simp only [go_sem, rL, rE, rA, t11]
       refine zh rfl rfl rfl (runes_Valid.ev a2.fB r12 hr12 _) ?_
       rintro _ _ ⟨rfl, rfl⟩
       refine za tok 1 ?_
       simp only [go_sem, rL, rE]
       refine zb ?_
       simp only [zd, upd, rE, reduceIte, zl, zn]
       refine hK _ _ ?_
       refine zx (b := (!r12)) rfl (fun hc13 => ?_) (fun hc13 => ?_)
       · rw [if_pos hc13] at h
         refine rg tok [8, 9] fun K hK => ?_
         simp only [go_sem, rL, rD, rE, rA]
         refine hK _ _ ?_
         refine zj ?_
         obtain rfl := Option.some.inj h
         exact retA
       · rw [if_F hc13] at h
         refine zi ?_
         exact ⟨_, _, ⟨rfl, rfl, h⟩, (.t [3, 4] false)⟩
     · rw [if_neg hc10] at h
       have t14 := eq_false hc10
       refine rg tok [3, 4, 5, 6, 8, 10, 54] fun K hK => ?_
       simp only [go_sem, rL, rE, t14]
       refine hK _ _ ?_
       refine zA rfl (fun hc15 => ?_) (fun hc15 => ?_)
       · rw [if_pos hc15] at h
         have t16 := eq_true hc15
         refine rc [3, 4, 6, 8, 11] fun K hK => ?_
         obtain ⟨r17, hr17, h⟩ := zJ h
         refine za tok 3 ?_
         simp only [go_sem, rL, rD, rE, rA, t16]
         refine zh rfl rfl rfl (check_Message.ev a0 a1.fName r17 hr17 _) ?_
         rintro _ _ ⟨rfl, rfl⟩
         refine za tok 6 ?_
         simp only [go_sem, rL, rD, rE, rA, encGMessage]
         refine zb ?_
         simp only [zd, upd, rE, reduceIte, zl, zn]
         refine hK _ _ ?_
         refine rc [8, 9] fun K hK => ?_
         obtain ⟨_u18, hu18, h⟩ := bind_some h
         have gu18 := zL1 hu18
         have gu18t := eq_true gu18
         have f19 := conv_s2b (T := tab) (src := 9) (dst := 35) rfl rfl rfl rfl rfl rfl (zL1 hu18)
         obtain ⟨r20, hr20, h⟩ := bind_some h
         refine za tok 7 ?_
         simp only [go_sem, rL, rD, rE, rA, f19]
         refine zb4 (L := [(8, .op 0 0 0), (63, .agg (encGSchema a0)), (64, .agg (encGMessage r17.1)), (67, .ds true (fM encB a2.fB) (lN a2.fB) false), (69, .int .i64 (IntKind.i64.wrap (a3 + 1)))]) (τ := [.cells 0 [.int .i64 0, .int .i64 0, .str [], .ds true (fM encGEntry ([] : List GEntry)) (lN ([] : List GEntry)) false, .ds true (fM encGRaw ([] : List GRaw)) (lN ([] : List GRaw)) false]]) (.t [3] false) ?_
         refine zh rfl rfl rfl (ev_decode_message a0 r17.1 a2.fB (IntKind.i64.wrap (a3 + 1)) r20 hr20 _) ?_
         rintro _ _ ⟨rfl, rfl⟩
         refine za tok 4 ?_
         simp only [go_sem, rL, rD, rE, rA, cellsGTree, encGMessage, encGSchema]
         refine zb ?_
         simp only [zd, upd, rE, reduceIte, zl, zn]
         refine hK _ _ ?_
         refine zj ?_
         obtain rfl := Option.some.inj h
         exact retA
       · rw [if_neg hc15] at h
         have t21 := eq_false hc15
         refine zi ?_
         exact ⟨_, _, ⟨rfl, rfl, h⟩, (.t [3, 4] false)⟩
 rintro _ _ ⟨rfl, rfl, h⟩
 unfold decode_one.j4 at h
 refine rg tok [8, 9] fun K hK => ?_
 simp only [go_sem, rL, rD, rE, rA]
 refine hK _ _ ?_
 refine zj ?_
 obtain rfl := Option.some.inj h
 exact retA
end Go.Proofs.YtaddlmlpeghonaaDoor
end
section
namespace Go.Proofs.YtaddlmlpeghonaaDoor
open Go.RowKit AM
theorem setRun_ins (cs new : List AV) (k : Nat) (hk : k ≤ cs.length) (hn : new.length = 2) :
 zP (zP (cs ++ [.u, .u]) (k + 2) (cs.drop k)) k new = cs.take k ++ (new ++ cs.drop k) := by
 have e0 : cs ++ [AV.u, .u] = (cs.take k ++ ((cs.drop k ++ [AV.u, .u]).take 2)) ++ (((cs.drop k ++ [AV.u, .u]).drop 2) ++ []) := by
  rw [aN, aA, List.take_append_drop, ← aA, List.take_append_drop]
 have l1 : ((cs.drop k ++ [AV.u, .u]).take 2).length = 2 := by simp
 have l2 : (cs.take k ++ ((cs.drop k ++ [AV.u, .u]).take 2)).length = k + 2 := by rw [lP, l1, List.length_take, Nat.min_eq_left hk]
 have e1 : zP (cs ++ [.u, .u]) (k + 2) (cs.drop k) = (cs.take k ++ ((cs.drop k ++ [AV.u, .u]).take 2)) ++ (cs.drop k ++ []) := by
  rw [e0, ← l2]
  exact za2 (cs.drop k) _ _ [] (by simp)
 rw [e1, aN, aA]
 have l3 : (cs.take k).length = k := by rw [List.length_take, Nat.min_eq_left hk]
 have := za2 new (cs.take k) ((cs.drop k ++ [AV.u, .u]).take 2) (cs.drop k) (by rw [l1, hn])
 rw [l3] at this
 exact this
theorem all_drop {l : List AV} {k : Nat} (h : l.all AV.one = true) : (l.drop k).all AV.one = true := by
 rw [List.all_eq_true] at *
 exact fun x hx => h x (List.mem_of_mem_drop hx)
theorem frozen_end {E : Env} {b : Nat} {cs : List AV} (h : Blk E b cs) {t : TypeId} {m : Nat} (hs : E.w.shape? b = some (t, m)) (ht : tsize t = 2) (o : Nat) : E.w.frozen? ⟨b, o, none⟩ = false := by
 obtain ⟨conc, t', fr, a1, a2, a3, a4⟩ := h.blk
 have : t' = t := by simp only [World.shape?, a1, sI, Prod.mk.injEq] at hs; exact hs.1
 subst this
 have he : fr.1 = fr.2 := by
  rcases a2 with h | ⟨_, h⟩
  · exact h
  · omega
 obtain ⟨lo, hi⟩ := fr
 simp only [World.frozen?, a1]
 simp only at he
 simp only [Bool.and_eq_false_iff, decide_eq_false_iff_not]
 omega
set_option maxHeartbeats 4000000 in
set_option maxRecDepth 100000 in
theorem ins_shift {E : Env} {σ : Store} (hS : SR E σ) {id ver n i b cap vid vver vb : Nat} {cells new : List AV} (hcs : Store.at σ id ver = some cells) (hlen : cells.length = n * 2) (hone : cells.all AV.one = true) (hi : i < n)
 (hloc : E.loc id = some (ver, some b)) (hok : E.ok id ver) {t m : Nat} (hsh : E.w.shape? b = some (t, m)) (hts : tsize t = 2) (hm : cap * 2 ≤ m) (hroom : n + 1 ≤ cap) (hn : (n + 1) * 32 ≤ 140737488355328)
 (hv : Store.at σ vid vver = some new) (hnew : new.length = 2) (honev : new.all AV.one = true) (hvid : vid ≠ id) (hvloc : E.loc vid = some (vver, some vb)) (hvok : E.ok vid vver) {tv mv : Nat} (hvsh : E.w.shape? vb = some (tv, mv)) (hvts : tsize tv = 2) (hvc : 2 ≤ mv) :
 Calls Tryd.prog 88 #[.slice (some ⟨b, 0, none⟩) n cap, .int .i64 i, .slice (some ⟨vb, 0, none⟩) 1 1] E.w fun e w' =>
  ∃ E', e = .returned (.slice (some ⟨b, 0, none⟩) (n + 1) cap) ∧ w' = E'.w ∧ VR E' (.os true 2 id ver 0 (n + 1) false) (.slice (some ⟨b, 0, none⟩) (n + 1) cap) ∧ SR E' (σ.set id (.cells ver (cells.take (i * 2) ++ (new ++ cells.drop (i * 2))))) ∧ Ext E E' := by
 have hvb : vb ≠ b := fun e => hvid (hS.inj _ _ _ _ b (e ▸ hvloc) hloc)
 have hB1 : Blk E b cells := by
  rcases hS.at hcs with ⟨b', h1, h2⟩ | ⟨_, h1⟩
  · rw [hloc] at h1; cases h1; exact h2
  · rw [hloc] at h1; cases h1
 have hB2 : Blk E vb new := by
  rcases hS.at hv with ⟨b', h1, h2⟩ | ⟨_, h1⟩
  · rw [hvloc] at h1; cases h1; exact h2
  · rw [hvloc] at h1; cases h1
 have hSw := hS.widen hcs hloc hsh 2 (by omega)
 obtain ⟨hS1, hx1⟩ := hSw.grew (Grew.drew E.w)
 have hcsw : Store.at (σ.set id (.cells ver (cells ++ List.replicate 2 AV.u))) id ver = some (cells ++ List.replicate 2 AV.u) := Store.at_set hcs
 have hlt := Store.at_lt hcs
 have hvw : Store.at (σ.set id (.cells ver (cells ++ List.replicate 2 AV.u))) vid vver = some new := by
  unfold Store.at at hv ⊢; rw [List.getElem?_set_ne (fun e => hvid e.symm)]; exact hv
 have os1 : ∀ {E' : Env} (hx : Ext E E') (k : Nat), k ≤ n → VR E' (.os true 2 id ver (k * 2) (n + 1 - k) false) (.slice (some ⟨b, k * 2, none⟩) (n + 1 - k) (cap - k)) := by
  intro E' hx k hk
  refine VR.ext hx (.os _ _ _ _ _ _ _ _ _ hok (by omega) (fun h => by cases h) (by omega) fun ob hob => ?_)
  rw [hloc] at hob; cases hob
  exact ⟨b, rfl, .inr rfl, t, m, hsh, hts, by omega⟩
 have osv : ∀ {E' : Env} (hx : Ext E E'), VR E' (.os true 2 vid vver 0 1 true) (.slice (some ⟨vb, 0, none⟩) 1 1) := by
  intro E' hx
  refine VR.ext hx (.os _ _ _ _ _ _ _ _ _ hvok (by omega) (fun _ => rfl) (by omega) fun ob hob => ?_)
  rw [hvloc] at hob; cases hob
  exact ⟨vb, rfl, .inr rfl, tv, mv, hvsh, hvts, by omega⟩
 have hov : ∀ lb cb, (callFunc 113 #[.slice (some ⟨vb, 0, none⟩) 1 1, .slice (some ⟨b, (i + 1) * 2, none⟩) lb cb]).run Tryd.prog E.w = .ok (.value (.bool false)) E.w := fun lb cb => by
  rw [run_callFunc_extern Tryd.func113 (by kernel_rfl) (by kernel_rfl) (by kernel_rfl) (e := Extern.SlicesOverlaps.overlaps #[40, 40] #[4]) (by kernel_rfl),
   Lib.run_overlaps_apart E.w 40 4 61 (tok _ _ zg3).desc 2 (fun w => zZ w (tok _ _ zf3)) ⟨vb, 0, none⟩ ⟨b, (i + 1) * 2, none⟩ 1 1 lb cb hvb tv t mv m hvsh hsh (by omega) (frozen_end hB2 hvsh hvts _) (frozen_end hB2 hvsh hvts _)]
  rfl
 have hdl : (cells.drop (i * 2)).length = (n - i) * 2 := by rw [List.length_drop, hlen, Nat.sub_mul]
 have hlw : (cells ++ List.replicate 2 AV.u).length = (n + 1) * 2 := by rw [lP, hlen, List.length_replicate, Nat.add_mul]
 have hW : ∀ ty, ∃ v E2, (Builtin.copy_ #[40, 40] ty #[.slice (some ⟨b, (i + 1) * 2, none⟩) (n + 1 - (i + 1)) (cap - (i + 1)), .slice (some ⟨b, i * 2, none⟩) (n + 1 - i) (cap - i)]).run Tryd.prog E.w.drew = .ok v E2.w ∧
  SR E2 (σ.set id (.cells ver (zP (cells ++ [.u, .u]) (i * 2 + 2) (cells.drop (i * 2))))) ∧ Ext E E2 := by
  intro ty
  have hx0 : Ext E { E with w := E.w.drew } := hx1
  have hd := os1 hx0 (i + 1) (by omega)
  have hs := os1 hx0 i (by omega)
  have hev : zO2 tab 40 (.os true 2 id ver ((i + 1) * 2) (n + 1 - (i + 1)) false) (.os true 2 id ver (i * 2) (n + 1 - i) false) (σ.set id (.cells ver (cells ++ List.replicate 2 AV.u))) =
   some (.int .i64 ((min (n + 1 - i) (n + 1 - (i + 1)) : Nat) : Int), (σ.set id (.cells ver (cells ++ List.replicate 2 AV.u))).set id (.cells ver (zP (cells ++ List.replicate 2 AV.u) ((i + 1) * 2) (cells.drop (i * 2))))) := by
   have e1 : zF (σ.set id (.cells ver (cells ++ List.replicate 2 AV.u))) 2 (.os true 2 id ver (i * 2) (n + 1 - i) false) = some (n + 1 - i, ((cells ++ List.replicate 2 AV.u).drop (i * 2)).take ((n + 1 - i) * 2)) := by
    simp only [zF, hcsw]
    rw [if_pos (by rw [hlw, ← Nat.add_mul]; exact Nat.mul_le_mul_right _ (by omega))]
   have e2 : min (n + 1 - i) (n + 1 - (i + 1)) = n - i := by omega
   have e3 : (((cells ++ List.replicate 2 AV.u).drop (i * 2)).take ((n + 1 - i) * 2)).take ((n - i) * 2) = cells.drop (i * 2) := by
    rw [List.take_take, Nat.min_eq_left (Nat.mul_le_mul_right _ (by omega)), List.drop_append_of_le_length (by rw [hlen]; exact Nat.mul_le_mul_right _ (by omega)), List.take_append_of_le_length (by rw [hdl]; exact nR _), ← hdl, List.take_length]
   have hp : zB1 (σ.set id (.cells ver (cells ++ List.replicate 2 AV.u))) (.os true 2 id ver ((i + 1) * 2) (n + 1 - (i + 1)) false) (n - i) 2 (cells.drop (i * 2)) = some ((σ.set id (.cells ver (cells ++ List.replicate 2 AV.u))).set id (.cells ver (zP (cells ++ List.replicate 2 AV.u) ((i + 1) * 2) (cells.drop (i * 2))))) := by
    unfold zB1
    rw [if_neg (by omega)]
    simp only [hcsw]
    rw [if_pos ⟨trivial, by rw [hlw, hdl, ← Nat.add_mul]; exact Nat.mul_le_mul_right _ (by omega), all_drop hone⟩]
   simp only [zO2, zg3, zf3, e1, e2, e3, hp]
  obtain ⟨v, E2, h1, h2, h3, h4⟩ := zH2 (P := Tryd.prog) (st := 40) (ty := ty) tok hS1 hd hs hev
  refine ⟨v, E2, h1, ?_, hx0.trans h4⟩
  rw [List.set_set] at h3
  have e : (i + 1) * 2 = i * 2 + 2 := by omega
  rw [e] at h3
  exact h3
 obtain ⟨v1, E2, hc1, hS2, hx2⟩ := hW 3
 rw [show n + 1 - (i + 1) = n - i by omega] at hc1
 have hcs2 : Store.at (σ.set id (.cells ver (zP (cells ++ [.u, .u]) (i * 2 + 2) (cells.drop (i * 2))))) id ver = some (zP (cells ++ [.u, .u]) (i * 2 + 2) (cells.drop (i * 2))) := Store.at_set hcs
 have hv2 : Store.at (σ.set id (.cells ver (zP (cells ++ [.u, .u]) (i * 2 + 2) (cells.drop (i * 2))))) vid vver = some new := by
  unfold Store.at at hv ⊢; rw [List.getElem?_set_ne (fun e => hvid e.symm)]; exact hv
 have hW2 : ∃ v E3, (Builtin.copy_ #[40, 40] 3 #[.slice (some ⟨b, i * 2, none⟩) (n + 1 - i) (cap - i), .slice (some ⟨vb, 0, none⟩) 1 1]).run Tryd.prog E2.w = .ok v E3.w ∧
  SR E3 (σ.set id (.cells ver (cells.take (i * 2) ++ (new ++ cells.drop (i * 2))))) ∧ Ext E E3 := by
  have hd := os1 hx2 i (by omega)
  have hs := osv hx2
  have hev : zO2 tab 40 (.os true 2 id ver (i * 2) (n + 1 - i) false) (.os true 2 vid vver 0 1 true) (σ.set id (.cells ver (zP (cells ++ [.u, .u]) (i * 2 + 2) (cells.drop (i * 2))))) =
   some (.int .i64 ((min 1 (n + 1 - i) : Nat) : Int), (σ.set id (.cells ver (zP (cells ++ [.u, .u]) (i * 2 + 2) (cells.drop (i * 2))))).set id (.cells ver (zP (zP (cells ++ [.u, .u]) (i * 2 + 2) (cells.drop (i * 2))) (i * 2) new))) := by
   have e1 : zF (σ.set id (.cells ver (zP (cells ++ [.u, .u]) (i * 2 + 2) (cells.drop (i * 2))))) 2 (.os true 2 vid vver 0 1 true) = some (1, new) := by
    simp only [zF, hv2]
    rw [if_pos (by omega), dZ, ← hnew, Nat.one_mul] 
    rw [show new.length = new.length from rfl, List.take_length]
   have e2 : min 1 (n + 1 - i) = 1 := by omega
   have e3 : new.take (1 * 2) = new := by rw [Nat.one_mul, ← hnew, List.take_length]
   have hp : zB1 (σ.set id (.cells ver (zP (cells ++ [.u, .u]) (i * 2 + 2) (cells.drop (i * 2))))) (.os true 2 id ver (i * 2) (n + 1 - i) false) 1 2 new = some ((σ.set id (.cells ver (zP (cells ++ [.u, .u]) (i * 2 + 2) (cells.drop (i * 2))))).set id (.cells ver (zP (zP (cells ++ [.u, .u]) (i * 2 + 2) (cells.drop (i * 2))) (i * 2) new))) := by
    unfold zB1
    rw [if_neg (by omega)]
    simp only [hcs2]
    rw [if_pos ⟨trivial, by rw [zY2, hnew]; simp only [lP, lC, lZ, hlen]; omega, honev⟩]
   simp only [zO2, zg3, zf3, e1, e2, e3, hp]
  obtain ⟨v, E3, h1, h2, h3, h4⟩ := zH2 (P := Tryd.prog) (st := 40) (ty := 3) tok hS2 hd hs hev
  refine ⟨v, E3, h1, ?_, hx2.trans h4⟩
  rw [List.set_set, setRun_ins _ _ _ (by omega) hnew] at h3
  exact h3
 obtain ⟨v2, E3, hc2, hS3, hx3⟩ := hW2
 have hfin := os1 hx3 0 (Nat.zero_le _)
 rw [Nat.zero_mul, Nat.sub_zero, Nat.sub_zero] at hfin
 have hz1 : ¬ ((i : Int) = (n : Int)) := by omega
 have hw1 : IntKind.i64.wrap ((i : Int) + 1) = (i : Int) + 1 := by rw [IntKind.wrap_i64]; omega
 have hw2 : IntKind.i64.wrap ((n : Int) + 1) = (n : Int) + 1 := by rw [IntKind.wrap_i64]; omega
 have hb1 : (0 : Int) ≤ (i : Int) + 1 := by omega
 have hin : i ≤ n := by omega
 have htn : ((i : Int) + 1).toNat = i + 1 := by omega
 have hb2 : ¬ (cap = i + 1) := by omega
 have hb3 : (i : Int) ≤ (n : Int) + 1 := by omega
 have hb4 : ¬ (cap = i) := by omega
 have mixed : Tryd.prog.follows .mixedOrders = true := by kernel_rfl
 clear hS hcs hcsw hvw hcs2 hv2 hS1 hSw os1 osv hB1 hB2 hW
 go_enter Tryd.func88, Tryd.ntmps88
 go_wp2_with (simp only [hov])
 go_region_law_o (refine step_copy_runI rfl _ _ 40 40 rfl _ _ (by simp [Act.eval, Act.put]) (by simp [Act.eval, Act.put]) hc1 ?_)
 go_wp2_with (at_builtin; refine wpList_copy_runI _ rfl _ _ 40 40 rfl _ _ rfl rfl hc2 ?_)
 go_ret
 exact ⟨E3, rfl, rfl, hfin, hS3, hx3⟩
theorem setRun_ins2 (cs new : List AV) (k : Nat) (hk : k ≤ cs.length) (hn : new.length = 2) (q : Nat) (hq : q = cs.length - k + 2) :
 zP (zP (cs.take k ++ List.replicate q AV.u) k new) (k + 2) (cs.drop k) = cs.take k ++ (new ++ cs.drop k) := by
 have l3 : (cs.take k).length = k := by rw [List.length_take, Nat.min_eq_left hk]
 have e0 : cs.take k ++ List.replicate q AV.u = cs.take k ++ (List.replicate 2 AV.u ++ List.replicate (cs.length - k) AV.u) := by
  rw [List.replicate_append_replicate, hq, Nat.add_comm]
 have e1 : zP (cs.take k ++ List.replicate q AV.u) k new = cs.take k ++ (new ++ List.replicate (cs.length - k) AV.u) := by
  rw [e0]
  have := za2 new (cs.take k) (List.replicate 2 AV.u) (List.replicate (cs.length - k) AV.u) (by simp [hn])
  rw [l3] at this; exact this
 have l4 : (cs.take k ++ new).length = k + 2 := by rw [lP, l3, hn]
 rw [e1, ← aA, ← l4]
 have := za2 (cs.drop k) (cs.take k ++ new) (List.replicate (cs.length - k) AV.u) [] (by simp)
 rw [aN, aN] at this
 rw [this, aA]
set_option maxHeartbeats 4000000 in
set_option maxRecDepth 100000 in
theorem ins_grow {E : Env} {σ : Store} (hS : SR E σ) {id ver n i b vid vver vb : Nat} {cells new : List AV} (hcs : Store.at σ id ver = some cells) (hlen : cells.length = n * 2) (hone : cells.all AV.one = true) (hi : i < n)
 (hloc : E.loc id = some (ver, some b)) (hok : E.ok id ver) {t m : Nat} (hsh : E.w.shape? b = some (t, m)) (hts : tsize t = 2) (hm : n * 2 ≤ m) (hn : (n + 1) * 32 ≤ 140737488355328)
 (hv : Store.at σ vid vver = some new) (hnew : new.length = 2) (honev : new.all AV.one = true) (hvid : vid ≠ id) (hvloc : E.loc vid = some (vver, some vb)) (hvok : E.ok vid vver) {tv mv : Nat} (hvsh : E.w.shape? vb = some (tv, mv)) (hvts : tsize tv = 2) (hvc : 2 ≤ mv) :
 Calls Tryd.prog 88 #[.slice (some ⟨b, 0, none⟩) n n, .int .i64 i, .slice (some ⟨vb, 0, none⟩) 1 1] E.w fun e w' =>
  ∃ E' v, e = .returned v ∧ w' = E'.w ∧ VR E' (.os true 2 σ.length 0 0 (n + 1) false) v ∧ SR E' (σ ++ [.cells 0 (cells.take (i * 2) ++ (new ++ cells.drop (i * 2)))]) ∧ Ext E E' ∧ ∀ i2 v2 nb, E.loc i2 = some (v2, some nb) → E'.loc σ.length = some (0, some nb) → False := by
 have hvb : vb ≠ b := fun e => hvid (hS.inj _ _ _ _ b (e ▸ hvloc) hloc)
 have hlt := Store.at_lt hcs
 have hltv := Store.at_lt hv
 obtain ⟨hS1, hx1⟩ := hS.grew (Grew.drew E.w)
 have os1 : ∀ {E' : Env} (hx : Ext E E') (k q : Nat), k + q ≤ n → VR E' (.os true 2 id ver (k * 2) q false) (.slice (some ⟨b, k * 2, none⟩) q (n - k)) := by
  intro E' hx k q hk
  refine VR.ext hx (.os _ _ _ _ _ _ _ _ _ hok (by omega) (fun h => by cases h) (by omega) fun ob hob => ?_)
  rw [hloc] at hob; cases hob
  exact ⟨b, rfl, .inr rfl, t, m, hsh, hts, by omega⟩
 have osv : ∀ {E' : Env} (hx : Ext E E'), VR E' (.os true 2 vid vver 0 1 true) (.slice (some ⟨vb, 0, none⟩) 1 1) := by
  intro E' hx
  refine VR.ext hx (.os _ _ _ _ _ _ _ _ _ hvok (by omega) (fun h => rfl) (by omega) fun ob hob => ?_)
  rw [hvloc] at hob; cases hob
  exact ⟨vb, rfl, .inr rfl, tv, mv, hvsh, hvts, by omega⟩
 have htl : (cells.take (i * 2)).length = i * 2 := by rw [List.length_take, hlen]; omega
 have hdl : (cells.drop (i * 2)).length = (n - i) * 2 := by rw [List.length_drop, hlen, Nat.sub_mul]
 -- what is copied by append
 have hold0 := os1 hx1 0 i (by omega)
 rw [Nat.zero_mul] at hold0
 obtain ⟨_, _, hrd⟩ := zm3 (P := Tryd.prog) hS1 hold0 (size := 2) (n := i) (cs := cells.take (i * 2)) (by
  simp only [zF, hcs]
  rw [if_pos (by omega), dZ])
 obtain ⟨os, hos, hto⟩ := hrd i (nR _)
 rw [show (cells.take (i * 2)).take (i * 2) = cells.take (i * 2) by rw [List.take_take, Nat.min_self]] at hto
 obtain ⟨G, hG⟩ : ∃ G, G = grownCap E.w (n + 1) n 61 := ⟨_, rfl⟩
 have hGn : n + 1 ≤ G := by rw [hG]; unfold grownCap; simp only [Question.cut]; omega
 obtain ⟨conc, hconc⟩ : ∃ conc : Array Value, conc = os ++ Builtin.zeroCells (Value.agg #[Value.int IntKind.i64 0, Value.slice none 0 0]).cells (n + 1 - i) ++ Builtin.zeroCells (Value.agg #[Value.int IntKind.i64 0, Value.slice none 0 0]).cells (G - (n + 1)) := ⟨_, rfl⟩
 have hrz : ∀ ty, (Builtin.append_ #[40, 3] ty #[.slice (some ⟨b, 0, none⟩) i n, .int .i64 ((n : Int) + 1 - (i : Int))]).run Tryd.prog E.w =
  .ok (.slice (some ⟨E.w.heap.size, 0, none⟩) (n + 1) G) (E.w.drew.alloc (.cells conc 61)) := fun ty => by
  have h := Lib.run_append_grow_zeros (P := Tryd.prog) E.w 40 3 ty 61 Tryd.t61 _ .i64 .i64 Tryd.underlying40 Tryd.underlying3 Tryd.type61 rfl (some ⟨b, 0, none⟩) i n os.toList (by rw [Array.toArray_toList]; exact hos) (n + 1 - i) (by omega) (by decide) (by omega) (by omega) (by show (n + 1 - i) * 32 ≤ _; omega) (by
   rw [show i + (n + 1 - i) = n + 1 by omega]
   exact growslice_fits (by omega) (by show (n + 1) * 32 ≤ _; omega))
  rw [show i + (n + 1 - i) = n + 1 by omega, ← hG, Array.toArray_toList, ← hconc] at h
  rw [show (n : Int) + 1 - (i : Int) = ((n + 1 - i : Nat) : Int) by omega]
  exact h
 have hsz1 : os.size = i * 2 := by rw [hto.1, htl]
 have hcsz : G * 2 ≤ conc.size := by
  rw [hconc]
  simp only [Array.size_append, hsz1, Builtin.zeroCells, Value.cells]
  simp
  omega
 have hnr := hS1.newRow conc 61 (cells.take (i * 2) ++ List.replicate ((n + 1 - i) * 2) AV.u) (by rw [lP, htl, List.length_replicate]; omega) (by
  intro k hk
  by_cases hki : k < i * 2
  · rw [zB2 _ _ _ (by rw [htl]; exact hki)]
    have := hto.2 k (by rw [htl]; exact hki)
    have e : conc.getD k undef = os.getD k undef := by
     rw [hconc, Array.append_assoc]
     simp [Array.getElem?_append_left (show k < os.size by omega)]
    rw [e]; exact this
  · rw [zX1 _ _ _ (by rw [htl]; omega)]
    have : gc (List.replicate ((n + 1 - i) * 2) AV.u) (k - (cells.take (i * 2)).length) = .u := by
     unfold gc
     rw [gG, List.getElem?_replicate]
     split <;> rfl
    rw [this]; exact .u _)
 obtain ⟨hS2, hx2⟩ := hnr
 obtain ⟨E2, hE2⟩ : ∃ E2, E2 = Env.new { E with w := E.w.drew } (E.w.drew.alloc (.cells conc 61)) (some E.w.drew.heap.size) := ⟨_, rfl⟩
 have hloc2 : E2.loc σ.length = some (0, some E.w.heap.size) := by rw [hE2]; exact Env.loc_new hS1 _ _
 have hok2 : E2.ok σ.length 0 := by rw [hE2]; exact Env.ok_new hS1 _ _
 have hE2w : E2.w = E.w.drew.alloc (.cells conc 61) := by rw [hE2]; rfl
 rw [← hE2] at hS2 hx2
 have hx02 : Ext E E2 := Ext.trans hx1 hx2
 have hsh2 : E2.w.shape? E.w.heap.size = some (61, conc.size) := by
  rw [hE2w]
  have := zV E.w.drew (.cells conc 61)
  simp only [World.shape?]
  rw [show E.w.heap.size = E.w.drew.heap.size from rfl, this]
 have osn : ∀ {E' : Env} (hx : Ext E2 E') (k q : Nat), k + q ≤ n + 1 → VR E' (.os true 2 σ.length 0 (k * 2) q false) (.slice (some ⟨E.w.heap.size, k * 2, none⟩) q (G - k)) := by
  intro E' hx k q hk
  refine VR.ext hx (.os _ _ _ _ _ _ _ _ _ hok2 (by omega) (fun h => by cases h) (by omega) fun ob hob => ?_)
  rw [hloc2] at hob; cases hob
  exact ⟨_, rfl, .inr rfl, _, _, hsh2, rfl, by omega⟩
 have hat2 : ∀ cs, Store.at (σ ++ [.cells 0 cs]) σ.length 0 = some cs := fun cs => Store.at_new σ 0 cs
 have hset2 : ∀ cs cs', (σ ++ [AObj.cells 0 cs]).set σ.length (.cells 0 cs') = σ ++ [.cells 0 cs'] := fun cs cs' => by
  rw [List.set_append_right _ _ (nR _), Nat.sub_self]; rfl
 have hold2 : ∀ {id ver : Nat} {c cs : List AV}, Store.at σ id ver = some c → Store.at (σ ++ [AObj.cells 0 cs]) id ver = some c := by
  intro id ver c cs h
  have := Store.at_lt h
  unfold Store.at at h ⊢; rw [gL this]; exact h
 -- the first copy
 have hW2 : ∃ v E3, (Builtin.copy_ #[40, 40] 3 #[.slice (some ⟨E.w.heap.size, i * 2, none⟩) (n + 1 - i) (G - i), .slice (some ⟨vb, 0, none⟩) 1 1]).run Tryd.prog E2.w = .ok v E3.w ∧
  SR E3 (σ ++ [.cells 0 (zP (cells.take (i * 2) ++ List.replicate ((n + 1 - i) * 2) AV.u) (i * 2) new)]) ∧ Ext E2 E3 := by
  have hd := osn (Ext.refl E2) i (n + 1 - i) (by omega)
  have hs := osv hx02
  have hev : zO2 tab 40 (.os true 2 σ.length 0 (i * 2) (n + 1 - i) false) (.os true 2 vid vver 0 1 true) (σ ++ [.cells 0 (cells.take (i * 2) ++ List.replicate ((n + 1 - i) * 2) AV.u)]) =
   some (.int .i64 ((min 1 (n + 1 - i) : Nat) : Int), σ ++ [.cells 0 (zP (cells.take (i * 2) ++ List.replicate ((n + 1 - i) * 2) AV.u) (i * 2) new)]) := by
   have e1 : zF (σ ++ [.cells 0 (cells.take (i * 2) ++ List.replicate ((n + 1 - i) * 2) AV.u)]) 2 (.os true 2 vid vver 0 1 true) = some (1, new) := by
    simp only [zF, hold2 hv]
    rw [if_pos (by omega), dZ, Nat.one_mul, ← hnew, List.take_length]
   have e2 : min 1 (n + 1 - i) = 1 := by omega
   have e3 : new.take (1 * 2) = new := by rw [Nat.one_mul, ← hnew, List.take_length]
   have hp : zB1 (σ ++ [.cells 0 (cells.take (i * 2) ++ List.replicate ((n + 1 - i) * 2) AV.u)]) (.os true 2 σ.length 0 (i * 2) (n + 1 - i) false) 1 2 new = some (σ ++ [.cells 0 (zP (cells.take (i * 2) ++ List.replicate ((n + 1 - i) * 2) AV.u) (i * 2) new)]) := by
    unfold zB1
    rw [if_neg (by omega)]
    simp only [hat2, hset2]
    rw [if_pos ⟨trivial, by rw [hnew, lP, htl, List.length_replicate]; omega, honev⟩]
   simp only [zO2, zg3, zf3, e1, e2, e3, hp]
  obtain ⟨v, E3, h1, h2, h3, h4⟩ := zH2 (P := Tryd.prog) (st := 40) (ty := 3) tok hS2 hd hs hev
  exact ⟨v, E3, h1, h3, h4⟩
 obtain ⟨v1, E3, hc1, hS3, hx3⟩ := hW2
 obtain ⟨hS4, hx4⟩ := hS3.grew (Grew.drew E3.w)
 -- the second copy
 have hW3 : ∀ ty, ∃ v E4, (Builtin.copy_ #[40, 40] ty #[.slice (some ⟨E.w.heap.size, (i + 1) * 2, none⟩) (n - i) (G - (i + 1)), .slice (some ⟨b, i * 2, none⟩) (n - i) (n - i)]).run Tryd.prog E3.w.drew = .ok v E4.w ∧
  SR E4 (σ ++ [.cells 0 (cells.take (i * 2) ++ (new ++ cells.drop (i * 2)))]) ∧ Ext E2 E4 := by
  intro ty
  have hx24 : Ext E2 { E3 with w := E3.w.drew } := Ext.trans hx3 hx4
  have hd := osn hx24 (i + 1) (n - i) (by omega)
  have hs := os1 (hx02.trans hx24) i (n - i) (by omega)
  have hev : zO2 tab 40 (.os true 2 σ.length 0 ((i + 1) * 2) (n - i) false) (.os true 2 id ver (i * 2) (n - i) false) (σ ++ [.cells 0 (zP (cells.take (i * 2) ++ List.replicate ((n + 1 - i) * 2) AV.u) (i * 2) new)]) =
   some (.int .i64 ((min (n - i) (n - i) : Nat) : Int), σ ++ [.cells 0 (cells.take (i * 2) ++ (new ++ cells.drop (i * 2)))]) := by
   have e1 : zF (σ ++ [.cells 0 (zP (cells.take (i * 2) ++ List.replicate ((n + 1 - i) * 2) AV.u) (i * 2) new)]) 2 (.os true 2 id ver (i * 2) (n - i) false) = some (n - i, cells.drop (i * 2)) := by
    simp only [zF, hold2 hcs]
    rw [if_pos (by rw [hlen, ← Nat.add_mul]; exact Nat.mul_le_mul_right _ (by omega)), ← hdl, List.take_length]
   have e2 : min (n - i) (n - i) = n - i := by omega
   have e3 : (cells.drop (i * 2)).take ((n - i) * 2) = cells.drop (i * 2) := by rw [← hdl, List.take_length]
   have hp : zB1 (σ ++ [.cells 0 (zP (cells.take (i * 2) ++ List.replicate ((n + 1 - i) * 2) AV.u) (i * 2) new)]) (.os true 2 σ.length 0 ((i + 1) * 2) (n - i) false) (n - i) 2 (cells.drop (i * 2)) = some (σ ++ [.cells 0 (cells.take (i * 2) ++ (new ++ cells.drop (i * 2)))]) := by
    unfold zB1
    rw [if_neg (by omega)]
    simp only [hat2, hset2]
    rw [if_pos ⟨trivial, by rw [hdl, zY2, lP, htl, List.length_replicate]; omega, all_drop hone⟩]
    rw [show (i + 1) * 2 = i * 2 + 2 by omega, setRun_ins2 _ _ _ (by omega) hnew _ (by rw [hlen]; omega)]
   simp only [zO2, zg3, zf3, e1, e2, e3, hp]
  obtain ⟨v, E4, h1, h2, h3, h4⟩ := zH2 (P := Tryd.prog) (st := 40) (ty := ty) tok hS4 hd hs hev
  exact ⟨v, E4, h1, h3, hx24.trans h4⟩
 obtain ⟨v2, E4, hc2, hS5, hx5⟩ := hW3 3
 have hfin : VR E4 (.os true 2 σ.length 0 0 (n + 1) false) (.slice (some ⟨E.w.heap.size, 0, none⟩) (n + 1) G) := by
  have := osn hx5 0 (n + 1) (by omega)
  rwa [Nat.zero_mul, Nat.sub_zero] at this
 have hxf : Ext E E4 := hx02.trans hx5
 have hnew' : ∀ i2 v2 nb, E.loc i2 = some (v2, some nb) → E4.loc σ.length = some (0, some nb) → False := by
  intro i2 v2 nb h1 h2
  have h3 := hx5.back hok2 h2
  rw [hloc2] at h3; cases h3
  have := (hS.blk _ _ _ h1).1
  omega
 have hz1 : ¬ ((i : Int) = (n : Int)) := by omega
 have hw1 : IntKind.i64.wrap ((i : Int) + 1) = (i : Int) + 1 := by rw [IntKind.wrap_i64]; omega
 have hw2 : IntKind.i64.wrap ((n : Int) + 1) = (n : Int) + 1 := by rw [IntKind.wrap_i64]; omega
 have hw3 : IntKind.i64.wrap ((n : Int) + 1 - (i : Int)) = (n : Int) + 1 - (i : Int) := by rw [IntKind.wrap_i64]; omega
 have hb1 : (0 : Int) ≤ (i : Int) + 1 := by omega
 have hin : i ≤ n := by omega
 have htn : ((i : Int) + 1).toNat = i + 1 := by omega
 have hb2 : ¬ (G = i + 1) := by omega
 have hb3 : (i : Int) ≤ (n : Int) + 1 := by omega
 have hb4 : ¬ (G = i) := by omega
 have hb5 : ¬ (n = i) := by omega
 have hz3 : (n : Int) < (n : Int) + 1 := by omega
 have mixed : Tryd.prog.follows .mixedOrders = true := by kernel_rfl
 have hrz1 := hrz 40
 rw [← hE2w] at hrz1
 clear hS hcs hS1 os1 osv hrz hrd hos hto hS2 hx2 osn hold2 hset2 hat2 hW3 hE2 hE2w hloc2 hok2 hsh2 hx02 hold0 hG hconc hcsz
 go_enter Tryd.func88, Tryd.ntmps88
 go_wp2_with (first
  | (at_builtin; refine Lib.wpList_append_run _ rfl _ _ _ _ rfl _ _ rfl rfl _ _ hrz1 ?_)
  | (at_builtin; refine wpList_copy_runI _ rfl _ _ 40 40 rfl _ _ rfl rfl hc1 ?_))
 go_region_law_o (refine step_copy_runI rfl _ _ 40 40 rfl _ _ (by simp [Act.eval, Act.put]) (by simp [Act.eval, Act.put]) hc2 ?_)
 go_wp2
 go_ret
 exact ⟨E4, _, rfl, rfl, hfin, hS5, hxf, hnew'⟩
end Go.Proofs.YtaddlmlpeghonaaDoor
end
section
set_option maxRecDepth 20000
namespace Go.Proofs.YtaddlmlpeghonaaDoor
open Go.RowKit AM
theorem SR.die {E : Env} {σ : Store} (hS : SR E σ) : SR { E with n := E.n + 1 } (σ ++ [.dead]) ∧ Ext E { E with n := E.n + 1 } := by
 have hx : Ext E { E with n := E.n + 1 } := {
  os := rfl, tape := rfl, output := rfl, size := nR _, shape := fun _ _ h => h, st := fun _ h => ⟨h, rfl⟩, n := Nat.le_succ _,
  loc := fun _ _ v o h => ⟨v, o, h, nR _, fun _ => rfl⟩, old := fun _ _ _ => rfl, own := fun id v _ h _ => ⟨id, v, h⟩, stn := fun _ h => .inl h }
 have hn : E.loc σ.length = none := by
  have := hS.obj σ.length
  rw [List.getElem?_eq_none (nR _)] at this
  exact this
 refine ⟨⟨by simp [hS.len], fun id => ?_, hS.inj, hS.blk, hS.stb, hS.glb⟩, hx⟩
 by_cases h1 : id < σ.length
 · rw [gL h1]
   exact (hS.obj id).ext hx rfl fun _ _ _ => rfl
 · by_cases h2 : id = σ.length
   · subst h2
     rw [gR (nR _), Nat.sub_self]
     exact hn
   · rw [List.getElem?_eq_none (by simp; omega)]
     have := hS.obj id
     rw [List.getElem?_eq_none (by omega)] at this
     exact this
theorem SR.swap {E : Env} {σ : Store} {cs : List AV} (hS : SR E (σ ++ [.cells 0 cs])) {id ver b nb : Nat} (hlt : id < σ.length) (hl : E.loc id = some (ver, some b)) (hn : E.loc σ.length = some (0, some nb)) :
 let E' : Env := { E with loc := fun i => if i = id then some (ver + 1, some nb) else if i = σ.length then none else E.loc i }
 SR E' (σ.set id (.cells (ver + 1) cs) ++ [.dead]) ∧ ExtV E E' ∧ ∀ sz len v, VR E (.os true sz σ.length 0 0 len false) v → VR E' (.os true sz id (ver + 1) 0 len false) v := by
 intro E'
 have hid : E'.loc id = some (ver + 1, some nb) := by simp [E']
 have hlast : E'.loc σ.length = none := by simp [E']; omega
 have hother : ∀ i, i ≠ id → i ≠ σ.length → E'.loc i = E.loc i := fun i h1 h2 => by simp [E', h1, h2]
 have hx : ExtV E E' := {
  shape := fun _ _ h => h
  st := fun _ h => ⟨h, rfl⟩
  n := nR _
  loc := fun i _ v o h => by
   by_cases h1 : i = id
   · subst h1; rw [hid] at h; cases h; exact ⟨ver, some b, hl, by omega, fun e => by omega⟩
   · by_cases h2 : i = σ.length
     · subst h2; rw [hlast] at h; cases h
     · rw [hother i h1 h2] at h; exact ⟨v, o, h, nR _, fun _ => rfl⟩ }
 have hnE : E.n = σ.length + 1 := by have := hS.len; simp at this; omega
 have hold : ∀ i v c, E'.loc i = some (v, some c) → (i = id ∧ c = nb) ∨ (i ≠ id ∧ i ≠ σ.length ∧ E.loc i = some (v, some c)) := by
  intro i v c h
  by_cases h1 : i = id
  · subst h1; rw [hid] at h; cases h; exact .inl ⟨rfl, rfl⟩
  · by_cases h2 : i = σ.length
    · subst h2; rw [hlast] at h; cases h
    · rw [hother i h1 h2] at h; exact .inr ⟨h1, h2, h⟩
 refine ⟨⟨by simp [hnE, E'], fun i => ?_, fun i i' v v' c h1 h2 => ?_, fun i v c h => ?_, hS.stb, hS.glb⟩, hx, fun sz len v h => ?_⟩
 · by_cases h1 : i = id
   · subst h1
     rw [gL (by simpa using hlt), List.getElem?_set_self hlt]
     have := hS.obj σ.length
     rw [gR (nR _), Nat.sub_self] at this
     rcases this with ⟨c, e1, e2⟩ | ⟨_, e1⟩
     · rw [hn] at e1; cases e1
       refine .inl ⟨nb, hid, ?_⟩
       obtain ⟨conc, t, fr, a1, a2, a3, a4⟩ := e2.blk
       exact ⟨conc, t, fr, a1, a2, a3, fun k hk => (a4 k hk).extV hx⟩
     · rw [hn] at e1; cases e1
   · by_cases h2 : i = σ.length
     · subst h2
       rw [gR (by simp)]
       simp only [List.length_set, Nat.sub_self, List.getElem?_cons_zero]
       exact hlast
     · have ho := hS.obj i
       by_cases h3 : i < σ.length
       · rw [gL (by simpa using h3), List.getElem?_set_ne (fun e => h1 e.symm)]
         rw [gL h3] at ho
         exact ho.extV hx (hother i h1 h2) fun _ _ _ => rfl
       · rw [List.getElem?_eq_none (by simp; omega)] at ho ⊢
         exact (hother i h1 h2).trans ho
 · rcases hold _ _ _ h1 with ⟨e1, e2⟩ | ⟨e1, e2, e3⟩
   · subst e1; subst e2
     rcases hold _ _ _ h2 with ⟨f1, f2⟩ | ⟨f1, f2, f3⟩
     · exact f1.symm
     · exact absurd (hS.inj _ _ _ _ _ f3 hn) f2
   · rcases hold _ _ _ h2 with ⟨f1, f2⟩ | ⟨f1, f2, f3⟩
     · subst f2; exact absurd (hS.inj _ _ _ _ _ e3 hn) e2
     · exact hS.inj _ _ _ _ _ e3 f3
 · rcases hold _ _ _ h with ⟨e1, e2⟩ | ⟨e1, e2, e3⟩
   · subst e2; exact hS.blk _ _ _ hn
   · exact hS.blk _ _ _ e3
 · have hok : E'.ok id (ver + 1) := ⟨by show id < E.n; omega, fun v o h => by rw [hid] at h; cases h; exact nR _⟩
   cases h with
   | osn _ _ _ _ _ a hk h =>
    have := h _ hn; cases this
   | os _ _ _ _ _ _ _ a cap hk hc ht hB h =>
    refine .os _ _ _ _ _ _ _ a cap hok hc ht hB fun ob hob => ?_
    rw [hid] at hob; cases hob
    exact h _ hn
theorem Ext.swap {E0 E : Env} (hx : Ext E0 E) {σ0 : Store} (h0 : SR E0 σ0) {id ver b nb : Nat} (hl : E.loc id = some (ver, some b)) (hn : E.loc σ0.length = some (0, some nb)) (hnb : E0.w.heap.size ≤ nb) (hlt : id < σ0.length) :
 Ext E0 { E with loc := fun i => if i = id then some (ver + 1, some nb) else if i = σ0.length then none else E.loc i } := by
 refine { hx with loc := fun i hi v o h => ?_, own := fun i v c h hc => ?_, n := hx.n, st := hx.st }
 · by_cases h1 : i = id
   · subst h1
     simp only [if_true, sI, Prod.mk.injEq] at h
     obtain ⟨v0, o0, e1, e2, e3⟩ := hx.loc _ hi _ _ hl
     exact ⟨v0, o0, e1, by omega, fun e => by omega⟩
   · simp only [if_neg h1] at h
     split at h
     · cases h
     · exact hx.loc i hi v o h
 · by_cases h1 : i = id
   · subst h1
     simp only [if_true, sI, Prod.mk.injEq] at h
     omega
   · simp only [if_neg h1] at h
     split at h
     · cases h
     · exact hx.own i v c h hc
theorem ACalls.dies {P : Program} {f : FuncId} {args : List AV} {σ : Store} {x : AV} {τ : Store} (h : ACalls P f args σ fun r σ' => r = x ∧ σ' = τ) : ACalls P f args σ fun r σ' => r = x ∧ σ' = τ ++ [.dead] := by
 refine ⟨h.1, fun E vs hS hl => (h.2 E vs hS hl).mono ?_⟩
 rintro e w ⟨v, r, σ', E', rfl, rfl, h3, h4, h5, rfl, rfl⟩
 obtain ⟨g1, g2⟩ := SR.die h4
 exact ⟨_, _, _, { E' with n := E'.n + 1 }, rfl, rfl, h3.ext g2, g1, h5.trans g2, rfl, rfl⟩
theorem bump {E E' : Env} {σ : Store} (hS : SR E σ) {id ver b : Nat} {cs cs' : List AV} (hcs : Store.at σ id ver = some cs) (hk : E.ok id ver) (hloc : E.loc id = some (ver, some b)) (hne : cs.length ≠ 0) (hlen : cs'.length ≠ 0) (h4 : SR E' (σ.set id (.cells ver cs'))) (h5 : Ext E E') {sz len : Nat} {v : Value}
 (h3 : VR E' (.os true sz id ver 0 len false) v) :
 ∃ E2 : Env, E2.w = E'.w ∧ SR E2 (σ.set id (.cells (ver + 1) cs')) ∧ VR E2 (.os true sz id (ver + 1) 0 len false) v ∧ Ext E E2 := by
 have hat := Store.at_set (ver' := ver) (cs' := cs') hcs
 have hl' : E'.loc id = some (ver, some b) := by
  rcases h4.at hat with ⟨b', e1, _⟩ | ⟨e1, _⟩
  · have := h5.back hk e1; rw [hloc] at this; cases this; exact e1
  · rw [e1] at hlen; exact absurd rfl hlen
 obtain ⟨hS3, hx3⟩ := h4.move (Grew.refl E'.w) hat hl' (ob := some b) (fun b hb => by cases hb; exact ⟨.inr rfl, (h4.blk _ _ _ hl').1⟩) (cs := cs') (.inl ⟨b, by simp [Env.move], by
  rcases h4.at hat with ⟨b1, h1, hblk1⟩ | ⟨_, h1⟩
  · rw [hl'] at h1; cases h1
    obtain ⟨conc, t, fr, a1, a2, a3, a4⟩ := hblk1.blk
    exact ⟨conc, t, fr, a1, a2, a3, fun k hk => (a4 k hk).ext (Ext.move h4.stb (Grew.refl _) hl' _ fun b hb => by cases hb; exact .inr rfl)⟩
  · rw [hl'] at h1; cases h1⟩)
 rw [List.set_set] at hS3
 refine ⟨E'.move E'.w id (ver + 1) (some b), rfl, hS3, ?_, h5.trans hx3⟩
 have hok : (E'.move E'.w id (ver + 1) (some b)).ok id (ver + 1) := ⟨Nat.lt_of_lt_of_le hk.1 h5.n, fun v o hvo => by simp [Env.move] at hvo; omega⟩
 cases h3 with
 | osn _ _ _ _ _ a hk h => have := h _ hl'; cases this
 | os _ _ _ _ _ _ _ a cap hk hc ht hB h =>
  refine .os _ _ _ _ _ _ _ a cap hok hc ht hB fun ob hob => ?_
  simp only [Env.move, if_true, sI, Prod.mk.injEq, true_and] at hob
  subst hob
  exact h _ hl'
theorem Insert_at {σ : Store} {id ver n i vid vver : Nat} {nl : Bool} {cells new : List AV} (hcs : Store.at σ id ver = some cells) (hlen : cells.length = n * 2) (hone : cells.all AV.one = true) (hi : i ≤ n) (hn : (n + 1) * 32 ≤ 140737488355328)
 (hv : Store.at σ vid vver = some new) (hnew : new.length = 2) (honev : new.all AV.one = true) (hvid : vid ≠ id) :
 ACalls Tryd.prog 88 [.os nl 2 id ver 0 n false, .int .i64 (i : Int), .os true 2 vid vver 0 1 true] σ (fun r σ' => r = .os true 2 id (ver + 1) 0 (n + 1) false ∧
  σ' = σ.set id (.cells (ver + 1) (cells.take (i * 2) ++ (new ++ cells.drop (i * 2)))) ++ [.dead]) := by
 have hlt := Store.at_lt hcs
 by_cases hin : i = n
 · subst hin
   refine ACalls.dies ?_
   refine zQ1 (rs := [.tmp 6]) tok Tryd.func88 rfl Tryd.ntmps88 rfl Tryd.call88 (by simp) ?_
   have hap : zL tab 40 40 (.os nl 2 id ver 0 i false) (.os true 2 vid vver 0 1 true) σ = some (.os true 2 id (ver + 1) 0 (i + 1) false, σ.set id (.cells (ver + 1) (cells ++ new))) := by
    have e1 : zF σ 2 (.os true 2 vid vver 0 1 true) = some (1, new) := by
     simp only [zF, hv]
     rw [if_pos (by omega), dZ, Nat.one_mul, ← hnew, List.take_length]
    have hg : ((i + 1) * 32 ≤ 140737488355328) = True := eq_true (by omega)
    simp only [zL, zg3, zf3, e1, zM, hg, honev, rL, and_self, if_true, zD, hcs, hlen]
   have hsl : zD1 tab 40 (.os nl 2 id ver 0 i false) (some (.int .i64 (i : Int))) none none = some (.os nl 2 id ver (i * 2) (i - i) false) := by
    simp only [zD1, zg3, zf3, optI]
    simp
   refine zo [(0, .os nl 2 id ver 0 i false), (1, .int .i64 (i : Int)), (2, .os true 2 vid vver 0 1 true)] ⟨rfl, rfl, rfl, trivial⟩ ?_
   refine rg tok [0, 1, 2, 6] fun K hK => ?_
   simp only [go_sem, rL, rE, reduceCtorEq]
   refine hK _ _ ?_
   clear hK K
   refine rg tok [0, 1, 2, 6] fun K hK => ?_
   simp only [go_sem, rL, rE, reduceCtorEq, hsl]
   refine hK _ _ ?_
   clear hK K
   refine rg tok [0, 1, 2, 6, 7] fun K hK => ?_
   simp only [go_sem, rL, rE, reduceCtorEq]
   refine hK _ _ ?_
   clear hK K
   refine ze fun Z hZ => ?_
   refine rg tok [0, 1, 2, 6, 7, 16] fun K hK => ?_
   simp only [go_sem, rL, rE, reduceCtorEq]
   refine hK _ _ ?_
   clear hK K
   refine zA rfl (fun h => absurd h (by decide)) (fun _ => ?_)
   refine zi ?_
   refine hZ _ _ ?_
   clear hZ Z
   refine rg tok [0, 1, 2, 6, 7, 8] fun K hK => ?_
   simp only [go_sem, rL, rE, reduceCtorEq]
   refine hK _ _ ?_
   clear hK K
   refine ze fun Z hZ => ?_
   refine rg tok [0, 1, 2, 6, 7, 8, 22] fun K hK => ?_
   simp only [go_sem, rL, rE, reduceCtorEq, decide_true]
   refine hK _ _ ?_
   clear hK K
   refine zt rfl ?_
   refine rg tok [6] fun K hK => ?_
   simp only [go_sem, rL, rE, reduceCtorEq, hap]
   refine hK _ _ ?_
   clear hK K
   refine zj ?_
   simp only [retQ, zS, zT, zi1, exists_eq_left', go_sem]
   rw [← hlen, List.take_length, List.drop_length, aN]
 · have hi' : i < n := by omega
   refine ⟨Tryd.call88, fun E vs hS hl => ?_⟩
   obtain ⟨l1, l2⟩ := hl.arr
   rcases vs with ⟨_ | ⟨v0, _ | ⟨v1, _ | ⟨v2, _ | ⟨v3, l⟩⟩⟩⟩⟩ <;> simp only [List.size_toArray, lC, lZ, rA, reduceCtorEq, rE] at l1
   · have h0 : VR E (.os nl 2 id ver 0 n false) v0 := l2 0 (by simp)
     have h1 : VR E (.int .i64 (i : Int)) v1 := l2 1 (by simp)
     have h2 : VR E (.os true 2 vid vver 0 1 true) v2 := l2 2 (by simp)
     clear l2 hl
     cases h1
     cases h0 with
     | osn => omega
     | os _ _ _ _ _ _ _ a cap hk hc ht hB hp =>
     cases h2 with
     | os _ _ _ _ _ _ _ av capv hkv hcv htv hBv hpv =>
     have := htv rfl; subst this
     obtain ⟨b, hloc, _⟩ := hS.block_of hcs (show 0 < cells.length by omega)
     obtain ⟨vb, hvloc, _⟩ := hS.block_of hv (show 0 < new.length by omega)
     obtain ⟨b', e1, e2, t, m, hsh, hts, hm⟩ := hp _ hloc
     cases e1
     have := e2.resolve_left (by omega); subst this
     obtain ⟨b', e1, e2, tv, mv, hvsh, hvts, hmv⟩ := hpv _ hvloc
     cases e1
     have := e2.resolve_left (by omega); subst this
     by_cases hroom : n + 1 ≤ cap
     · refine (ins_shift hS hcs hlen hone hi' hloc hk hsh hts (by omega) hroom hn hv hnew honev hvid hvloc hkv hvsh hvts (by omega)).mono ?_
       rintro e w ⟨E', rfl, rfl, h3, h4, h5⟩
       obtain ⟨E2, g1, g2, g3, g4⟩ := bump hS hcs hk hloc (by omega) (by simp only [lP, hnew]; omega) h4 h5 h3
       obtain ⟨hS3, hx3⟩ := SR.die g2
       exact ⟨_, _, _, { E2 with n := E2.n + 1 }, rfl, g1, g3.ext hx3, hS3, g4.trans hx3, rfl, rfl⟩
     · have hcn : cap = n := by omega
       subst hcn
       refine (ins_grow hS hcs hlen hone hi' hloc hk hsh hts (by omega) hn hv hnew honev hvid hvloc hkv hvsh hvts (by omega)).mono ?_
       rintro e w ⟨E', v, rfl, rfl, h3, h4, h5, hnew'⟩
       have hl' : E'.loc id = some (ver, some b) := by
        have := (h4.at (id := id) (ver := ver) (cs := cells) (by
         have := Store.at_lt hcs
         unfold Store.at at hcs ⊢; rw [gL this]; exact hcs))
        rcases this with ⟨b', e1, _⟩ | ⟨e1, _⟩
        · have := h5.back hk e1; rw [hloc] at this; cases this; exact e1
        · rw [e1] at hlen; simp at hlen; omega
       have hn' : ∃ nb, E'.loc σ.length = some (0, some nb) ∧ E.w.heap.size ≤ nb := by
        rcases h4.at (Store.at_new σ 0 _) with ⟨nb, e1, _⟩ | ⟨e1, _⟩
        · refine ⟨nb, e1, Nat.le_of_not_lt fun hlt' => ?_⟩
          obtain ⟨i2, v2, e2⟩ := h5.own _ _ _ e1 hlt'
          exact hnew' i2 v2 nb e2 e1
        · have : (cells.take (i * 2) ++ (new ++ cells.drop (i * 2))).length = 0 := by rw [e1]; rfl
          simp only [lP, hnew] at this; omega
       obtain ⟨nb, hn1, hn2⟩ := hn'
       obtain ⟨g1, g2, g3⟩ := SR.swap h4 hlt hl' hn1
       exact ⟨_, _, _, { E' with loc := fun i => if i = id then some (ver + 1, some nb) else if i = σ.length then none else E'.loc i }, rfl, rfl, g3 _ _ _ h3, g1, Ext.swap h5 hS hl' hn1 hn2 hlt, rfl, rfl⟩
end Go.Proofs.YtaddlmlpeghonaaDoor
end
section
set_option maxRecDepth 8000
set_option maxHeartbeats 1000000
namespace Go.Proofs.YtaddlmlpeghonaaDoor
open Go.RowKit AM
structure Ent where
 tag : Int
 id : Nat
 ver : Nat
 trees : List GTree
def Ent.cells (e : Ent) : List AV := [.int .i64 e.tag, .os true 5 e.id e.ver 0 e.trees.length false]
def Ent.val (e : Ent) : GEntry := ⟨e.tag, e.trees⟩
structure Rep (σ : Store) (tid eid ever : Nat) (L : List Ent) : Prop where
 t : Store.at σ tid 0 = some [.int .i64 3, .int .i64 0, .str [], .os true 2 eid ever 0 L.length false, .ds true [] 0 true]
 e : Store.at σ eid ever = some (L.flatMap Ent.cells)
 tr : ∀ x ∈ L, Store.at σ x.id x.ver = some (x.trees.flatMap encGTree)
 nd : (tid :: eid :: L.map Ent.id).Nodup
def zQ2 (es : List GEntry) (f : GField) (x : GTree) : Option (List GEntry × Bool) :=
 (slices_BinarySearchFunc_Entry_decode_put_1 es f.fTag).bind fun p =>
 (if p.2 = true then some es else (grd (0 ≤ p.1 ∧ p.1 ≤ (es.length : Int))).bind fun _ => (room (es.length + 1) 32).bind fun _ => some (es.take p.1.toNat ++ ⟨f.fTag, []⟩ :: es.drop p.1.toNat)).bind fun es1 =>
 (idxL es1 p.1).bind fun e =>
 (room ((if f.fLabel = 3 then e.fTrees.length else 0) + 1) 80).bind fun _ =>
 some (es1.set p.1.toNat ⟨e.fTag, (if f.fLabel = 3 then e.fTrees else []) ++ [x]⟩, decide ((((if f.fLabel = 3 then e.fTrees else []) ++ [x]).length : Int) ≤ 64))
theorem zy1 {σ : Store} {id ver : Nat} {cs : List AV} (h : Store.at σ id ver = some cs) (l : Store) : Store.at (σ ++ l) id ver = some cs := by
 have := Store.at_lt h
 unfold Store.at at h ⊢; rw [gL this]; exact h
theorem zc1 {σ : Store} {id id' ver : Nat} {cs : List AV} (h : Store.at σ id ver = some cs) (hne : id ≠ id') (o : AObj) : Store.at (σ.set id' o) id ver = some cs := by
 unfold Store.at at h ⊢; rw [List.getElem?_set_ne (fun e => hne e.symm)]; exact h
theorem zp4 (σ : Store) (cs : List AV) (l : Store) : Store.at (σ ++ .cells 0 cs :: l) σ.length 0 = some cs := by
 unfold Store.at; rw [gR (nR _), Nat.sub_self]; rfl
theorem at_end1 (σ : Store) (o : AObj) (cs : List AV) (l : Store) : Store.at (σ ++ o :: .cells 0 cs :: l) (σ.length + 1) 0 = some cs := by
 unfold Store.at; rw [gR (by omega)]; simp
theorem Rep.app {σ : Store} {tid eid ever : Nat} {L : List Ent} (h : Rep σ tid eid ever L) (l : Store) : Rep (σ ++ l) tid eid ever L :=
 ⟨zy1 h.t l, zy1 h.e l, fun x hx => zy1 (h.tr x hx) l, h.nd⟩
theorem Rep.toldC {σ : Store} {tid eid ever : Nat} {L : List Ent} (h : Rep σ tid eid ever L) (keep : List Nat) (ls : Bool) (f : Nat) (hk : ∀ y ∈ L, zY1 keep y.id 0 = none) : (L.flatMap Ent.cells).map (tell σ keep ls (f + 2)) = (L.map Ent.val).flatMap encGEntry := by
 have key : ∀ l : List Ent, (∀ x ∈ l, x ∈ L) → (l.flatMap Ent.cells).map (tell σ keep ls (f + 2)) = (l.map Ent.val).flatMap encGEntry := by
  intro l
  induction l with
  | nil => intro _; rfl
  | cons a l ih =>
   intro hl
   have h1 := h.tr a (hl a (mS ..))
   have h2 := hk a (hl a (mS ..))
   simp only [fC, mP, mC, ih fun x hx => hl x (mO _ hx)]
   congr 1
   simp only [Ent.cells, Ent.val, mC, mN, zB3, zT1, h2, h1, zB, cellsGEntry, GEntry.fTag, GEntry.fTrees]
   have hl : (a.trees.flatMap encGTree).length = a.trees.length * 5 := zr E59.len a.trees
   rw [if_pos (by rw [hl]; omega), dZ, ← hl, List.take_length, zy]
 exact key L (fun _ h => h)
theorem Rep.told {σ : Store} {tid eid ever : Nat} {L : List Ent} (h : Rep σ tid eid ever L) (nl : Bool) : tell σ [] true 12 (.os nl 2 eid ever 0 L.length false) = .ds true ((L.map Ent.val).flatMap encGEntry) (L.map Ent.val).length false := by
 have hl : (L.flatMap Ent.cells).length = L.length * 2 := by
  clear h
  induction L with
  | nil => rfl
  | cons a l ih => rw [fC, lP, ih]; simp [Ent.cells]; omega
 simp only [zT1, zC1, h.e]
 rw [if_pos (by rw [hl]; omega), dZ, ← hl, List.take_length, h.toldC [] true 9 (fun _ _ => rfl), lM]
theorem Rep.set_ne {σ : Store} {tid eid ever : Nat} {L : List Ent} (h : Rep σ tid eid ever L) {j : Nat} (hj : j ∉ tid :: eid :: L.map Ent.id) (o : AObj) : Rep (σ.set j o) tid eid ever L := by
 refine ⟨zc1 h.t (fun e => hj (by rw [← e]; simp)) o, zc1 h.e (fun e => hj (by rw [← e]; simp)) o, fun x hx => zc1 (h.tr x hx) (fun e => hj ?_) o, h.nd⟩
 rw [← e]
 exact mO _ (mO _ (List.mem_map.2 ⟨x, hx, rfl⟩))
structure Mid (σ τ : Store) (tid eid ever : Nat) (ids : List Nat) (pre post : List Ent) (tag : Int) (av : AV) (trees : List GTree) : Prop where
 t : Store.at τ tid 0 = some [.int .i64 3, .int .i64 0, .str [], .os true 2 eid ever 0 (pre.length + (1 + post.length)) false, .ds true [] 0 true]
 e : Store.at τ eid ever = some (pre.flatMap Ent.cells ++ ([.int .i64 tag, av] ++ post.flatMap Ent.cells))
 tr : ∀ y ∈ pre ++ post, Store.at τ y.id y.ver = some (y.trees.flatMap encGTree)
 nd : (tid :: eid :: (pre ++ post).map Ent.id).Nodup
 c : (av = .ds true [] 0 true ∧ trees = []) ∨ ∃ id ver, av = .os true 5 id ver 0 trees.length false ∧ Store.at τ id ver = some (trees.flatMap encGTree) ∧ id ∉ tid :: eid :: (pre ++ post).map Ent.id ∧ id ∈ ids
 sub : ∀ y ∈ pre ++ post, y.id ∈ ids
 len : σ.length + 2 ≤ τ.length
 fr : ∀ j, j < σ.length → j ∉ tid :: eid :: ids → τ[j]? = σ[j]?
 lt : ∀ j ∈ tid :: eid :: ids, j < σ.length
theorem agr_app {x : List Nat} : ∀ {s : Store} {i : Nat} (l : Store), agr x i s s (s ++ l) = True := by
 intro s
 induction s with
 | nil => intro i l; rfl
 | cons a s ih => intro i l; simp only [cA, agr, ih]; simp
theorem zn4 (l : List Ent) : (l.flatMap Ent.cells).length = l.length * 2 := by
 induction l with
 | nil => rfl
 | cons a l ih => rw [fC, lP, ih]; simp [Ent.cells]; omega
theorem cells_one (l : List Ent) : (l.flatMap Ent.cells).all AV.one = true := by
 induction l with
 | nil => rfl
 | cons a l ih => rw [fC, List.all_append, ih]; rfl
theorem split_at {α : Type} {l : List α} {k : Nat} (h : k ≤ l.length) : ∃ a b, l = a ++ b ∧ a.length = k := ⟨l.take k, l.drop k, (List.take_append_drop k l).symm, by simp [h]⟩
theorem split_el {α : Type} {l : List α} {k : Nat} (h : k < l.length) : ∃ a x b, l = a ++ x :: b ∧ a.length = k := by
 refine ⟨l.take k, l[k], l.drop (k + 1), ?_, by simp; omega⟩
 rw [← List.drop_eq_getElem_cons h, List.take_append_drop]
theorem set_mid {α : Type} (a : List α) (x y : α) (b : List α) : (a ++ x :: b).set a.length y = a ++ y :: b := by
 rw [List.set_append_right _ _ (nR _), Nat.sub_self]; rfl
theorem gc_mid (a b : List AV) (x y : AV) : gc (a ++ ([x, y] ++ b)) (a.length + 1) = y := by
 rw [zX1 _ _ _ (by omega), Nat.add_sub_cancel_left]; rfl
theorem set_mid1 (a b : List AV) (x y z : AV) : (a ++ ([x, y] ++ b)).set (a.length + 1) z = a ++ ([x, z] ++ b) := by
 rw [List.set_append_right _ _ (by omega), Nat.add_sub_cancel_left]; rfl
theorem put_at {σ : Store} {tid eid ever : Nat} {L : List Ent} (hR : Rep σ tid eid ever L) (f : GField) (x : GTree) {es' : List GEntry} {b : Bool} (h : zQ2 (L.map Ent.val) f x = some (es', b)) :
 ACalls Tryd.prog 58 [.op tid 0 0, .agg (encGField f), .agg (cellsGTree x)] σ (fun r σ' => ∃ ever' L', r = .bool b ∧ Rep σ' tid eid ever' L' ∧ L'.map Ent.val = es' ∧
  (∀ y ∈ L', y.id ∈ L.map Ent.id ∨ σ.length ≤ y.id) ∧ σ.length ≤ σ'.length ∧ ∀ j, j < σ.length → j ∉ tid :: eid :: L.map Ent.id → σ'[j]? = σ[j]?) := by
 refine zQ1 (rs := [.tmp 6]) tok Tryd.func58 rfl Tryd.ntmps58 rfl Tryd.call58 (by simp) ?_
 refine zo [(0, .op tid 0 0), (1, .agg (encGField f)), (2, .agg (cellsGTree x))] ⟨rfl, rfl, rfl, trivial⟩ ?_
 refine rg tok [0, 4, 5, 6] fun K hK => ?_
 simp only [go_sem, rL, rE, rA, reduceCtorEq, encGField, cellsGTree]
 refine hK _ _ ?_
 clear hK K
 simp only [aA, cA, nA, lP, lC, lZ, nZ]
 obtain ⟨σ1, hσ1⟩ : ∃ s, s = σ ++ [.cells 0 [.str f.fName, .int .i64 f.fTag, .int .i64 f.fLabel, .int .i64 f.fType.fKind, .str f.fType.fName],
  .cells 0 [.int .i64 x.fKind, .int .i64 x.fN, .str x.fS, .ds true (fM encGEntry x.fEntries) x.fEntries.length false, .ds true (fM encGRaw x.fRest) x.fRest.length false]] := ⟨_, rfl⟩
 rw [← hσ1]
 have hR1 : Rep σ1 tid eid ever L := hσ1 ▸ hR.app _
 have h4 : Store.at σ1 σ.length 0 = some [.str f.fName, .int .i64 f.fTag, .int .i64 f.fLabel, .int .i64 f.fType.fKind, .str f.fType.fName] := hσ1 ▸ zp4 _ _ _
 have h5 : Store.at σ1 (σ.length + 1) 0 = some [.int .i64 x.fKind, .int .i64 x.fN, .str x.fS, .ds true (fM encGEntry x.fEntries) x.fEntries.length false, .ds true (fM encGRaw x.fRest) x.fRest.length false] := hσ1 ▸ at_end1 _ _ _ _
 have hn1 : σ1.length = σ.length + 2 := by rw [hσ1]; simp
 have hfr : ∀ j, j < σ.length → σ1[j]? = σ[j]? := fun j hj => by rw [hσ1, gL hj]
 have hlt : ∀ j ∈ tid :: eid :: L.map Ent.id, j < σ.length := by
  intro j hj
  rcases mI.1 hj with rfl | hj
  · exact Store.at_lt hR.t
  · rcases mI.1 hj with rfl | hj
    · exact Store.at_lt hR.e
    · obtain ⟨y, hy, rfl⟩ := List.mem_map.1 hj
      exact Store.at_lt (hR.tr y hy)
 clear hσ1
 unfold zQ2 at h
 obtain ⟨p, hp, h⟩ := bind_some h
 have ht1 := hR1.t
 refine rd [0, 4, 5, 6, 7, 8] fun K hK => ?_
 refine DW.start (T := tab) [.any, .any, .any, .at [], .any, .at [], .eff, .any, .any, .any, .any, .any] [] ?_
 refine DW.runN tok 6 ?_
 simp only [go_sem, rL, rE, rA, reduceCtorEq, ht1, h4]
 refine DW.call rfl rfl rfl ((slices_BinarySearchFunc_Entry_decode_put_1.ok _ _ p hp).lend rfl true 12 (by simp only [mC, mN, go_sem, rE, reduceCtorEq, hR1.told true, zB3]; rfl)) ?_
 refine DW.runN tok 5 ?_
 simp only [go_sem, rL, rE, rA, reduceCtorEq]
 refine DW.fin tok (by decide +kernel) rfl ?_
 simp only [zd, upd, rE, reduceIte, zl, zn]
 refine hK _ _ ?_
 clear hK K
 obtain ⟨es1, hes1, h⟩ := bind_some h
 obtain ⟨e, he, h⟩ := bind_some h
 obtain ⟨u, hu, h⟩ := bind_some h
 have hg := zQ hu
 have hidL : ∀ l : List Ent, (l.map Ent.val).length = l.length := fun l => lM _
 refine zk1 (fun F τ => F = [(0, AV.op tid 0 0), (4, .op σ.length 0 0), (5, .op (σ.length + 1) 0 0), (6, .bool false), (7, .int .i64 p.1)] ∧ ∃ ever' pre post av, p.1 = (pre.length : Int) ∧ es1 = pre.map Ent.val ++ e :: post.map Ent.val ∧ Mid σ τ tid eid ever' (L.map Ent.id) pre post e.fTag av e.fTrees ∧
  Store.at τ σ.length 0 = some [.str f.fName, .int .i64 f.fTag, .int .i64 f.fLabel, .int .i64 f.fType.fKind, .str f.fType.fName] ∧
  Store.at τ (σ.length + 1) 0 = some [.int .i64 x.fKind, .int .i64 x.fN, .str x.fS, .ds true (fM encGEntry x.fEntries) x.fEntries.length false, .ds true (fM encGRaw x.fRest) x.fRest.length false]) ?_ ?_
 · refine rg tok [0, 4, 5, 6, 7, 21] fun K hK => ?_
   simp only [go_sem, rL, rE, reduceCtorEq]
   refine hK _ _ ?_
   clear hK K
   refine zx (b := !p.2) rfl (fun hc => ?_) (fun hc => ?_)
   · have hc' : p.2 = false := by simpa using hc
     rw [if_F hc'] at hes1
     obtain ⟨_, h1, hes1⟩ := bind_some hes1
     obtain ⟨_, h2, hes1⟩ := bind_some hes1
     have h1 := zL1 h1
     have h2 := zQ h2
     obtain rfl := Option.some.inj hes1
     obtain ⟨k, hk⟩ : ∃ k : Nat, p.1 = k := ⟨p.1.toNat, by omega⟩
     rw [hk] at he h1 ⊢
     simp only [Int.toNat_natCast, hidL] at he h1 h2
     have hkl : k ≤ L.length := by omega
     obtain ⟨pre, post, rfl, rfl⟩ := split_at hkl
     have hl2 : (pre ++ post).length = pre.length + post.length := lP
     have e1 : List.take pre.length ((pre ++ post).map Ent.val) = pre.map Ent.val := by rw [mP, ← lM (f := Ent.val), List.take_left]
     have e2 : List.drop pre.length ((pre ++ post).map Ent.val) = post.map Ent.val := by rw [mP, ← lM (f := Ent.val), List.drop_left]
     rw [e1, e2] at he
     have hee : e = ⟨f.fTag, []⟩ := by
      obtain ⟨_, _, _, g3⟩ := zt1 he
      rw [← g3]; simp
     subst hee
     rw [Int.toNat_natCast, e1, e2]
     have hc1 : ((pre ++ post).flatMap Ent.cells).take (pre.length * 2) = pre.flatMap Ent.cells := by rw [fA, ← zn4, List.take_left]
     have hc2 : ((pre ++ post).flatMap Ent.cells).drop (pre.length * 2) = post.flatMap Ent.cells := by rw [fA, ← zn4, List.drop_left]
     have htl : (tid < σ1.length) = True := eq_true (by have := hlt tid (by simp); omega)
     have htl2 : (tid < σ.length) = True := eq_true (hlt tid (by simp))
     have hel := hlt eid (by simp)
     have hte : tid ≠ eid := by have := hR1.nd; simp at this; exact this.1.1
     have hins := Insert_at (σ := σ1 ++ [AObj.cells 0 [AV.int .i64 f.fTag, AV.ds true [] 0 true]]) (nl := true) (i := pre.length) (zy1 hR1.e _) (zn4 _) (cells_one _) (by omega) (by have := of_eq_true h2; omega) (zp4 σ1 _ []) (new := [AV.int .i64 f.fTag, AV.ds true [] 0 true]) rfl rfl (by omega)
     rw [hc1, hc2] at hins
     obtain ⟨σ2, hσ2⟩ : ∃ s, s = List.set (σ1 ++ [AObj.cells 0 [AV.int .i64 f.fTag, AV.ds true [] 0 true]]) eid (AObj.cells (ever + 1) (pre.flatMap Ent.cells ++ ([AV.int .i64 f.fTag, AV.ds true [] 0 true] ++ post.flatMap Ent.cells))) ++ [AObj.dead] := ⟨_, rfl⟩
     rw [← hσ2] at hins
     have ht2 : Store.at σ2 tid 0 = some [.int .i64 3, .int .i64 0, .str [], .os true 2 eid ever 0 (pre ++ post).length false, .ds true [] 0 true] := by
      rw [hσ2]; exact zy1 (zc1 (zy1 hR1.t _) hte _) _
     refine rdE [0, 4, 5, 6, 7] fun K hK => ?_
     refine DW.start (T := tab) [.any, .any, .any, .any, .own 1 [], .any, .any, .at [], .any, .eff, .eff, .any, .any, .eff] [(1, [])] ?_
     refine DW.runN tok 6 ?_
     simp only [go_sem, rL, rE, rA, reduceCtorEq, ht1, htl]
     refine DW.runN tok 4 ?_
     simp only [go_sem, rL, rD, rE, rA, rM, reduceCtorEq, h4, zC, zG, List.range_succ, List.range_zero, true_and, Nat.reduceMod, agr_app]
     refine DW.callS rfl rfl rfl hins (fun m x hm hle => by simp at hm hle; omega) ?_
     refine DW.runN tok 3 ?_
     simp only [go_sem, rL, rD, rE, rA, reduceCtorEq, ht2]
     refine DW.fin tok (by decide +kernel) rfl ?_
     simp only [zd, upd, rE, reduceIte, zl, zn]
     refine hK _ _ ?_
     clear hK K
     have hnd := hR1.nd
     have keep : ∀ {j v : Nat} {cs : List AV}, Store.at σ1 j v = some cs → j ≠ eid → j ≠ tid → Store.at (σ2.set tid (.cells 0 [.int .i64 3, .int .i64 0, .str [], .os true 2 eid (ever + 1) 0 ((pre ++ post).length + 1) false, .ds true [] 0 true])) j v = some cs := by
      intro j v cs hj h1 h2
      refine zc1 ?_ h2 _
      rw [hσ2]; exact zy1 (zc1 (zy1 hj _) h1 _) _
     have hnid : ∀ y ∈ pre ++ post, y.id ≠ eid ∧ y.id ≠ tid := by
      intro y hy
      have hm : y.id ∈ (pre ++ post).map Ent.id := List.mem_map.2 ⟨y, hy, rfl⟩
      rw [List.nodup_cons, List.nodup_cons] at hnd
      exact ⟨fun e => hnd.2.1 (e ▸ hm), fun e => hnd.1 (mO _ (e ▸ hm))⟩
     simp only [zd]
     refine ⟨_, _, ⟨rfl, ever + 1, pre, post, .ds true [] 0 true, rfl, rfl, ⟨?_, ?_, ?_, hnd, .inl ⟨rfl, rfl⟩, ?_, ?_, ?_, hlt⟩, keep h4 (by omega) (by have := of_eq_true htl2; omega), keep h5 (by omega) (by have := of_eq_true htl2; omega)⟩, .same ⟨rfl, rfl, rfl, rfl, rfl, trivial⟩ rfl⟩
     · have := Store.at_set (ver' := 0) (cs' := [.int .i64 3, .int .i64 0, .str [], .os true 2 eid (ever + 1) 0 ((pre ++ post).length + 1) false, .ds true [] 0 true]) ht2
       rw [this, hl2]
       simp only [sI, List.cons.injEq, AV.os.injEq, true_and, and_true]
       omega
     · refine zc1 ?_ hte.symm _
       rw [hσ2]; exact zy1 (Store.at_set (zy1 hR1.e _)) _
     · intro y hy; exact keep (hR1.tr y hy) (hnid y hy).1 (hnid y hy).2
     · intro y hy; exact List.mem_map.2 ⟨y, hy, rfl⟩
     · rw [hσ2]; simp; omega
     · intro j hj hjn
       simp only [mI, not_or] at hjn
       rw [List.getElem?_set_ne (fun e => hjn.1 e.symm), hσ2, gL (by simp; omega), List.getElem?_set_ne (fun e => hjn.2.1 e.symm), gL (by omega)]
       exact hfr j hj
   · have hc' : p.2 = true := by simpa using hc
     rw [if_pos hc'] at hes1
     obtain rfl := Option.some.inj hes1
     obtain ⟨k, hk⟩ : ∃ k : Nat, p.1 = k := ⟨p.1.toNat, by have := (zt1 he).1; omega⟩
     have he' := he
     rw [hk] at he'
     obtain ⟨g0, g1, g2, g3⟩ := zt1 he'
     simp only [Int.toNat_natCast, hidL] at g1 g2 g3
     obtain ⟨pre, a, post, rfl, rfl⟩ := split_el (show k < L.length by omega)
     have hea : e = a.val := by
      rw [← g3]; simp
     subst hea
     refine zi ?_
     simp only [zd]
     refine ⟨_, σ1, ⟨rfl, ever, pre, post, .os true 5 a.id a.ver 0 a.trees.length false, hk, by simp, ⟨?_, ?_, ?_, ?_, ?_, ?_, ?_, ?_, ?_⟩, h4, h5⟩, .same ⟨rfl, rfl, rfl, rfl, rfl, trivial⟩ rfl⟩
     · have := hR1.t
       rw [lP, lC, Nat.add_comm post.length 1] at this; exact this
     · have := hR1.e
       rw [fA, fC] at this; exact this
     · intro y hy
       refine hR1.tr y ?_
       rcases mA.1 hy with h | h
       · exact List.mem_append_left _ h
       · exact List.mem_append_right _ (mO _ h)
     · have := hR1.nd
       refine List.Nodup.sublist ?_ this
       refine List.Sublist.cons_cons _ (List.Sublist.cons_cons _ ?_)
       exact (List.Sublist.append_left (List.sublist_cons_self _ _) _).map _
     · refine .inr ⟨a.id, a.ver, rfl, hR1.tr a (by simp), ?_, by simp⟩
       have := hR1.nd
       simp only [mP, mC, List.nodup_cons, mI, mA, List.nodup_append, not_or] at this ⊢
       obtain ⟨⟨h1, h2, h3, h4⟩, ⟨h5, h6, h7⟩, h8, ⟨h9, h10⟩, h11⟩ := this
       exact ⟨fun e => h3 e.symm, fun e => h6 e.symm, fun hm => h11 _ hm _ (.inl rfl) rfl, h9⟩
     · intro y hy
       rcases mA.1 hy with h | h
       · exact List.mem_map.2 ⟨y, List.mem_append_left _ h, rfl⟩
       · exact List.mem_map.2 ⟨y, List.mem_append_right _ (mO _ h), rfl⟩
     · omega
     · intro j hj _; exact hfr j hj
     · exact hlt
 · clear hes1 hp ht1 hR1 h4 h5 hn1 hfr σ1
   rintro _ τ ⟨rfl, ever1, pre, post, av, hp1, rfl, hM, h4, h5⟩
   rw [hp1] at he h
   simp only [Int.toNat_natCast] at h
   have hix : zl1 tab 40 (.os true 2 eid ever1 0 (pre.length + (1 + post.length)) false) (.int .i64 p.1) = some (.op eid ever1 (pre.length * 2)) := by
    rw [hp1]
    simp only [zl1, zg3, zf3]
    simp
    omega
   have ht := hM.t
   refine rg tok [4, 5, 6, 9] fun K hK => ?_
   simp only [go_sem, rL, rE, rA, reduceCtorEq, ht, hix]
   refine hK _ _ ?_
   clear hK K
   have hcl : (pre.flatMap Ent.cells).length = pre.length * 2 := zn4 pre
   refine zk1 (fun F τ' => F = [(5, AV.op (σ.length + 1) 0 0), (6, .bool false), (9, .op eid ever1 (pre.length * 2))] ∧ ∃ av', Mid σ τ' tid eid ever1 (L.map Ent.id) pre post e.fTag av' (if f.fLabel = 3 then e.fTrees else []) ∧
    Store.at τ' (σ.length + 1) 0 = some [.int .i64 x.fKind, .int .i64 x.fN, .str x.fS, .ds true (fM encGEntry x.fEntries) x.fEntries.length false, .ds true (fM encGRaw x.fRest) x.fRest.length false]) ?_ ?_
   · refine rg tok [5, 6, 9, 43] fun K hK => ?_
     simp only [go_sem, rL, rE, rA, h4]
     refine hK _ _ ?_
     clear hK K
     refine zA rfl (fun hc => ?_) (fun hc => ?_)
     · obtain ⟨cs, hcs⟩ : ∃ cs, cs = pre.flatMap Ent.cells ++ ([.int .i64 e.fTag, av] ++ post.flatMap Ent.cells) := ⟨_, rfl⟩
       have hMe := hM.e
       rw [← hcs] at hMe
       have hle : (pre.length * 2 + 1 < cs.length) = True := eq_true (by rw [hcs]; simp only [lP, hcl, lC, lZ]; omega)
       have hle' : (pre.length * 2 + 1 + 1 ≤ cs.length) = True := eq_true (by have := of_eq_true hle; omega)
       refine rgE tok [5, 6, 9] fun K hK => ?_
       simp only [go_sem, rL, rE, hMe, hle']
       refine hK _ _ ?_
       clear hK K
       have hset : cs.set (pre.length * 2 + 1) (.ds true [] 0 true) = pre.flatMap Ent.cells ++ ([.int .i64 e.fTag, .ds true [] 0 true] ++ post.flatMap Ent.cells) := by
        rw [hcs, ← hcl, set_mid1]
       rw [hset]
       simp only [zd]
       rw [if_neg hc]
       have hnd := hM.nd
       have hlt := hM.lt
       rw [List.nodup_cons, List.nodup_cons] at hnd
       have hte : tid ≠ eid := fun e => hnd.1 (e ▸ mS ..)
       refine ⟨_, _, ⟨rfl, .ds true [] 0 true, ⟨zc1 hM.t hte _, Store.at_set hM.e, ?_, hM.nd, .inl ⟨rfl, rfl⟩, hM.sub, ?_, ?_, hM.lt⟩, zc1 h5 ?_ _⟩, .same ⟨rfl, rfl, rfl, trivial⟩ rfl⟩
       · intro y hy
         refine zc1 (hM.tr y hy) ?_ _
         intro e; exact hnd.2.1 (e ▸ List.mem_map.2 ⟨y, hy, rfl⟩)
       · have := hM.len; simpa using this
       · intro j hj hjn
         rw [List.getElem?_set_ne]
         · exact hM.fr j hj hjn
         · intro e; exact hjn (e ▸ by simp)
       · have := hlt eid (by simp); omega
     · refine zi ?_
       simp only [zd]
       rw [if_pos hc]
       exact ⟨_, τ, ⟨rfl, av, hM, h5⟩, .same ⟨rfl, rfl, rfl, trivial⟩ rfl⟩
   · clear hM h4 h5 hix ht τ av
     rintro _ τ ⟨rfl, av, hM, h5⟩
     obtain ⟨cs, hcs⟩ : ∃ cs, cs = pre.flatMap Ent.cells ++ ([.int .i64 e.fTag, av] ++ post.flatMap Ent.cells) := ⟨_, rfl⟩
     have hMe := hM.e
     rw [← hcs] at hMe
     have hle : (pre.length * 2 + 1 < cs.length) = True := eq_true (by rw [hcs]; simp only [lP, hcl, lC, lZ]; omega)
     have hle' : (pre.length * 2 + 1 + 1 ≤ cs.length) = True := eq_true (by have := of_eq_true hle; omega)
     have hgc : gc cs (pre.length * 2 + 1) = av := by rw [hcs, ← hcl, gc_mid]
     have heid : (eid < τ.length) = True := eq_true (Store.at_lt hMe)
     refine rd [6, 9] fun K hK => ?_
     refine DW.start (T := tab) [.any, .any, .any, .any, .own 1 [], .at [], .eff, .eff, .any, .any, .eff] [(1, [])] ?_
     refine DW.runN tok 6 ?_
     simp only [go_sem, rL, rD, rE, rA, hMe, hle, hgc, heid, h5]
     obtain ⟨xc, hxc⟩ : ∃ xc, xc = [AV.int .i64 x.fKind, .int .i64 x.fN, .str x.fS, .ds true (fM encGEntry x.fEntries) x.fEntries.length false, .ds true (fM encGRaw x.fRest) x.fRest.length false] := ⟨_, rfl⟩
     have hx5 : xc.length = 5 := by rw [hxc]; rfl
     have hx1 : xc.all AV.one = true := by rw [hxc]; rfl
     have hxe : xc = encGTree x := by rw [hxc, zR] <;> rfl
     generalize htr : (if f.fLabel = 3 then e.fTrees else []) = trees at *
     have key : ∃ nid nver τ3, zL tab 59 59 av (.os true 5 τ.length 0 0 1 true) (τ ++ [.cells 0 xc]) = some (.os true 5 nid nver 0 (trees.length + 1) false, τ3) ∧ Store.at τ3 nid nver = some (trees.flatMap encGTree ++ xc) ∧
      (∀ j v cs, Store.at τ j v = some cs → j ≠ nid → Store.at τ3 j v = some cs) ∧ nid ∉ tid :: eid :: (pre ++ post).map Ent.id ∧ (nid ∈ L.map Ent.id ∨ σ.length ≤ nid) ∧ τ.length ≤ τ3.length ∧ ∀ j, j < σ.length → j ∉ tid :: eid :: L.map Ent.id → τ3[j]? = τ[j]? := by
      have e1 : zF (τ ++ [.cells 0 xc]) 5 (.os true 5 τ.length 0 0 1 true) = some (1, xc) := by
       simp only [zF, zp4 τ xc []]
       rw [if_pos (by omega), dZ, Nat.one_mul, ← hx5, List.take_length]
      rcases hM.c with ⟨rfl, h0⟩ | ⟨id, ver, rfl, h1, h2, h3⟩
      · refine ⟨τ.length + 1, 0, τ ++ [.cells 0 xc] ++ [.cells 0 xc], ?_, ?_, fun j v cs hj _ => zy1 (zy1 hj _) _, fun hj => ?_, .inr (by have := hM.len; omega), by simp, fun j hj _ => ?_⟩
        · subst h0
          simp only [zL, tab_59, tab_42, e1, zM, hx1, zD, if_true, lP, lC, lZ]
          simp
        · subst h0
          simp only [aA, cA, nA]
          exact at_end1 _ _ _ _
        · have : τ.length + 1 < σ.length := hM.lt _ (by
           rcases mI.1 hj with h | h
           · rw [h]; simp
           · rcases mI.1 h with h | h
             · rw [h]; simp
             · obtain ⟨y, hy, h'⟩ := List.mem_map.1 h
               rw [← h']; exact mO _ (mO _ (hM.sub y hy)))
          have := hM.len; omega
        · have := hM.len
          rw [aA, gL (by omega)]
      · refine ⟨id, ver + 1, List.set (τ ++ [AObj.cells 0 xc]) id (AObj.cells (ver + 1) (trees.flatMap encGTree ++ xc)), ?_, Store.at_set (zy1 h1 _), fun j v cs hj hne => zc1 (zy1 hj _) hne _, h2, .inl h3, by simp, fun j hj hjn => ?_⟩
        · have hl : (trees.flatMap encGTree).length = trees.length * 5 := zr E59.len trees
          have hg' : ((trees.length + 1) * 80 ≤ 140737488355328) = True := by
           rw [← htr]
           by_cases hl3 : f.fLabel = 3
           · rw [if_pos hl3]; rw [if_pos hl3] at hg; exact hg
           · rw [if_neg hl3]; simp
          simp only [zL, tab_59, tab_42, e1, zM, hx1, zD, zy1 h1, hl, hg', and_self, rL, if_true]
        · have := hM.len
          rw [List.getElem?_set_ne, gL (by omega)]
          intro e; exact hjn (e ▸ mO _ (mO _ h3))
     obtain ⟨nid, nver, τ3, k1, k2, k3, k4, k5, k6, k7⟩ := key
     have hne : eid ≠ nid := fun e => k4 (e ▸ by simp)
     have hMe3 := k3 _ _ _ hMe hne
     refine DW.runN tok 1 ?_
     simp only [go_sem, rL, rD, rE, rA, rM, zC, zG, List.range_succ, List.range_zero, true_and, Nat.reduceMod, agr_app]
     rw [← hxc]
     refine DW.runN tok 1 ?_
     simp only [go_sem, rL, rD, rE, rA, k1]
     refine DW.runN tok 3 ?_
     simp only [go_sem, rL, rD, rE, rA, hMe3, hle']
     refine DW.fin tok (by decide +kernel) rfl ?_
     simp only [zd, upd, rE, reduceIte, zl, zn]
     refine hK _ _ ?_
     clear hK K
     have hset : cs.set (pre.length * 2 + 1) (.os true 5 nid nver 0 (trees.length + 1) false) = pre.flatMap Ent.cells ++ ([.int .i64 e.fTag, .os true 5 nid nver 0 (trees.length + 1) false] ++ post.flatMap Ent.cells) := by
      rw [hcs, ← hcl, set_mid1]
     have hat4 := Store.at_set (ver' := ever1) (cs' := cs.set (pre.length * 2 + 1) (.os true 5 nid nver 0 (trees.length + 1) false)) hMe3
     generalize cs.set (pre.length * 2 + 1) (.os true 5 nid nver 0 (trees.length + 1) false) = cs4 at *
     have hgc4 : gc cs4 (pre.length * 2 + 1) = .os true 5 nid nver 0 (trees.length + 1) false := by rw [hset, ← hcl, gc_mid]
     have hle4 : (pre.length * 2 + 1 < cs4.length) = True := eq_true (by rw [hset]; simp only [lP, hcl, lC, lZ]; omega)
     refine rg tok [6] fun K hK => ?_
     simp only [go_sem, rL, rE, hat4, hgc4, hle4]
     refine hK _ _ ?_
     clear hK K
     refine zj ?_
     simp only [retQ, zS, zT, zi1, exists_eq_left', go_sem]
     have h' := Option.some.inj h
     obtain ⟨h1, h2⟩ := Prod.mk.inj h'
     have hnd := hM.nd
     have hlt := hM.lt
     rw [List.nodup_cons, List.nodup_cons] at hnd
     have hte : tid ≠ eid := fun e => hnd.1 (e ▸ mS ..)
     have htn : tid ≠ nid := fun e => k4 (e ▸ by simp)
     have hll : (trees ++ [x]).length = trees.length + 1 := by simp
     refine ⟨ever1, pre ++ ⟨e.fTag, nid, nver, trees ++ [x]⟩ :: post, ?_, ⟨?_, ?_, ?_, ?_⟩, ?_, ?_, ?_, ?_⟩
     · rw [← h2, hll]
     · refine zc1 ?_ hte _
       have := k3 _ _ _ hM.t htn
       rw [this]
       simp only [sI, List.cons.injEq, AV.os.injEq, true_and, and_true, lP, lC]
       omega
     · rw [hat4, hset]
       simp [Ent.cells]
     · intro y hy
       rcases mA.1 hy with hy | hy
       · refine zc1 (k3 _ _ _ (hM.tr y (List.mem_append_left _ hy)) ?_) ?_ _
         · intro e'; exact k4 (e' ▸ mO _ (mO _ (List.mem_map.2 ⟨y, List.mem_append_left _ hy, rfl⟩)))
         · intro e'; exact hnd.2.1 (e' ▸ List.mem_map.2 ⟨y, List.mem_append_left _ hy, rfl⟩)
       · rcases mI.1 hy with rfl | hy
         · refine zc1 ?_ hne.symm _
           show Store.at τ3 nid nver = some ((trees ++ [x]).flatMap encGTree)
           rw [k2, fA, hxe]; simp
         · refine zc1 (k3 _ _ _ (hM.tr y (List.mem_append_right _ hy)) ?_) ?_ _
           · intro e'; exact k4 (e' ▸ mO _ (mO _ (List.mem_map.2 ⟨y, List.mem_append_right _ hy, rfl⟩)))
           · intro e'; exact hnd.2.1 (e' ▸ List.mem_map.2 ⟨y, List.mem_append_right _ hy, rfl⟩)
     · have hp : (nid :: tid :: eid :: (pre ++ post).map Ent.id).Nodup := List.nodup_cons.2 ⟨k4, hM.nd⟩
       refine (List.Perm.nodup_iff ?_).1 hp
       refine (List.Perm.swap _ _ _).trans (List.Perm.cons _ ((List.Perm.swap _ _ _).trans (List.Perm.cons _ ?_)))
       rw [mP, mP, mC]
       exact (List.perm_middle).symm
     · rw [← h1, ← hidL pre, set_mid]
       simp [Ent.val]
     · intro y hy
       rcases mA.1 hy with hy | hy
       · exact .inl (hM.sub y (List.mem_append_left _ hy))
       · rcases mI.1 hy with rfl | hy
         · exact k5
         · exact .inl (hM.sub y (List.mem_append_right _ hy))
     · have := hM.len; simp; omega
     · intro j hj hjn
       rw [List.getElem?_set_ne (fun e => hjn (by rw [← e]; simp)), k7 j hj hjn]
       exact hM.fr j hj hjn
end Go.Proofs.YtaddlmlpeghonaaDoor
end
