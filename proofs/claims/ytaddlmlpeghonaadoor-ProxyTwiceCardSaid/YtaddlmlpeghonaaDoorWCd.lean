/- Parts of the proof, cut down to what it needs. -/
import Derived.Test.YtaddlmlpeghonaaDoorProg
import Derived.Test.YtaddlmlpeghonaaDoorWBz
import Derived.KernelRfl
import Derived.Shelf.Unicode.DecodeAny
import Derived.Shelf.Spec.SlicesInsert
import Derived.Lib.AppendZerosOnto
set_option linter.constructorNameAsVariable false
set_option linter.unusedSimpArgs false
set_option linter.unusedVariables false
namespace Go.Proofs.YtaddlmlpeghonaaDoor
open _root_.List renaming length → qc, flatMap → qg, length_append → qi, length_cons → qk, length_nil → qn, mem_cons_self → qo, mem_cons_of_mem → qp, append_assoc → qr, getD_eq_getElem?_getD → qs, append_nil → qx, map_nil → qy, length_eq_zero_iff → qz, nil_append → qA, cons_append → qC, mem_cons → qD, replicate → qF, length_singleton → qG, drop_zero → qJ, getElem?_append_left → qK, map_cons → qM, getElem?_eq_getElem → qO, flatMap_cons → qP, map_append → qR, getElem?_eq_some_iff → qU, length_map → qV, range_zero → qY, all_cons → qZ, flatMap_append → q1, all_eq_true → q3, getElem?_set_ne → q5, take_of_length_le → uc, getElem?_append_right → ue, all_nil → uf, range_succ → ug, take_length → ui, pairwise_cons → uj, take_append_drop → uk, flatMap_nil → un, getElem?_set_self → uo, mem_append_right → uq, getElem?_eq_none → ur, filter_cons → ut, mem_map → uv, range → uz, set_cons_zero → uA, mem_append → uC, mem_singleton → uD, length_take → uF, length_drop → uG, getElem?_cons_zero → uH, getElem?_cons_succ → uI, set_cons_succ → uO
open _root_.Option renaming bind_some → qf, map_some → ux, getD_some → uN
open _root_.Nat renaming reduceEqDiff → qa, reduceLT → qb, reduceAdd → qd, reduceLeDiff → qe, le_refl → qq, zero_add → qt, lt_succ_self → qu, reduceMul → qw, reduceSub → qL, mul_le_mul_right → qQ, lt_of_lt_of_le → ua, reduceMod → ul, zero_le → um, le_trans → uu, zero_mul → uy, sub_zero → uL, sub_self → uM, succ_mul → uP, add_zero → uQ, add_mul → uR
open _root_.Bool renaming and_eq_true → ql, or_eq_true → qH, not_false → qI, and_self → qS, false_eq_true → qT, or_true → qW, not_true → qX, and_true → q2, or_false → ub, and_false → ud, not_eq_true' → uw, true_and → uE, false_ne_true → uJ, false_or → uK
open _root_.Int renaming toNat → qB, toNat_natCast → qN
open _root_.BitVec renaming ofInt → qv, toNat → uh
open _root_.Array renaming length_toList → q9, getD_eq_getD_getElem? → uB, getElem?_eq_getElem → uS
open _root_.UInt8 renaming ofNat → q7
open Result renaming andThen_ok → qj
open Sem renaming run_bind → qm, run_pure → qE
open _root_.Go.Proofs.Tryd renaming prog → qh
section
set_option maxRecDepth 8000
open AM
def ti1 : TI := ⟨TypeDesc.func #[] #[] false, 1, 8, AV.nilF, false⟩
def ti2 : TI := ⟨.int .i64, 1, 8, .int .i64 0, false⟩
def ti3 : TI := ti2
def ti4 : TI := ⟨.bool, 1, 1, AV.bool false, false⟩
def ti5 : TI := ⟨.int .u8, 1, 1, .int .u8 0, false⟩
def ti9 : TI := ⟨.string, 1, 16, .str [], false⟩
def ti20 : TI := ⟨TypeDesc.interface #[], 1, 16, AV.nilI, false⟩
def ti21 : TI := ⟨.int .i32, 1, 4, .int .i32 0, false⟩
def ti22 : TI := ⟨.slice 33, 1, 24, .ds true [] 0 true, false⟩
def ti23 : TI := ⟨.slice 52, 1, 24, .ds true [] 0 true, false⟩
def ti24 : TI := ⟨.slice 3, 1, 24, .ds true [] 0 true, false⟩
def ti25 : TI := ⟨.struct #[⟨"Name", 9, 0, false, "", "", 0⟩, ⟨"Fields", 23, 1, false, "", "", 16⟩, ⟨"Reserved", 24, 2, false, "", "", 40⟩], 3, 64, .agg [.str [], .ds true [] 0 true, .ds true [] 0 true], false⟩
def ti26 : TI := ti25
def ti27 : TI := ⟨.slice 26, 1, 24, .ds true [] 0 true, false⟩
def ti28 : TI := ⟨.slice 90, 1, 24, .ds true [] 0 true, false⟩
def ti29 : TI := ⟨.slice 73, 1, 24, .ds true [] 0 true, false⟩
def ti30 : TI := ⟨.struct #[⟨"Name", 9, 0, false, "", "", 0⟩, ⟨"Messages", 27, 1, false, "", "", 16⟩, ⟨"Enums", 28, 2, false, "", "", 40⟩, ⟨"Methods", 29, 3, false, "", "", 64⟩], 4, 88, .agg [.str [], .ds true [] 0 true, .ds true [] 0 true, .ds true [] 0 true], false⟩
def ti31 : TI := ti30
def ti32 : TI := ⟨.struct #[⟨"Tag", 3, 0, false, "", "", 0⟩, ⟨"Wire", 3, 1, false, "", "", 8⟩, ⟨"N", 3, 2, false, "", "", 16⟩, ⟨"B", 9, 3, false, "", "", 24⟩], 4, 40, .agg [.int .i64 0, .int .i64 0, .int .i64 0, .str []], true⟩
def ti33 : TI := ti32
def ti35 : TI := ⟨.slice 5, 1, 24, .ds true [] 0 true, false⟩
def ti36 : TI := ti2
def ti40 : TI := ⟨.slice 61, 1, 24, .ds true [] 0 true, false⟩
def ti41 : TI := ⟨.struct #[⟨"Kind", 3, 0, false, "", "", 0⟩, ⟨"N", 3, 1, false, "", "", 8⟩, ⟨"S", 9, 2, false, "", "", 16⟩, ⟨"Entries", 40, 3, false, "", "", 32⟩, ⟨"Rest", 22, 4, false, "", "", 56⟩], 5, 80, .agg [.int .i64 0, .int .i64 0, .str [], .ds true [] 0 true, .ds true [] 0 true], false⟩
def ti42 : TI := ti41
def ti49 : TI := ⟨.struct #[⟨"Kind", 3, 0, false, "", "", 0⟩, ⟨"Name", 9, 1, false, "", "", 8⟩], 2, 24, .agg [.int .i64 0, .str []], true⟩
def ti50 : TI := ti49
def ti51 : TI := ⟨.struct #[⟨"Name", 9, 0, false, "", "", 0⟩, ⟨"Tag", 3, 1, false, "", "", 16⟩, ⟨"Label", 3, 2, false, "", "", 24⟩, ⟨"Type", 50, 3, false, "", "", 32⟩], 5, 56, .agg [.str [], .int .i64 0, .int .i64 0, .int .i64 0, .str []], true⟩
def ti52 : TI := ti51
def ti59 : TI := ⟨.slice 42, 1, 24, .ds true [] 0 true, false⟩
def ti60 : TI := ⟨.struct #[⟨"Tag", 3, 0, false, "", "", 0⟩, ⟨"Trees", 59, 1, false, "", "", 8⟩], 2, 32, .agg [.int .i64 0, .ds true [] 0 true], false⟩
def ti61 : TI := ti60
def ti63 : TI := ⟨.struct #[⟨"Kind", 3, 0, false, "", "", 0⟩, ⟨"From", 3, 1, false, "", "", 8⟩, ⟨"To", 3, 2, false, "", "", 16⟩, ⟨"ID", 3, 3, false, "", "", 24⟩, ⟨"Version", 3, 4, false, "", "", 32⟩, ⟨"Method", 9, 5, false, "", "", 40⟩, ⟨"Err", 3, 6, false, "", "", 56⟩, ⟨"Body", 9, 7, false, "", "", 64⟩], 8, 80, .agg [.int .i64 0, .int .i64 0, .int .i64 0, .int .i64 0, .int .i64 0, .str [], .int .i64 0, .str []], true⟩
def ti64 : TI := ti63
def ti72 : TI := ⟨.struct #[⟨"Name", 9, 0, false, "", "", 0⟩, ⟨"In", 9, 1, false, "", "", 16⟩, ⟨"Out", 9, 2, false, "", "", 32⟩], 3, 48, .agg [.str [], .str [], .str []], true⟩
def ti73 : TI := ti72
def ti75 : TI := ⟨.slice 31, 1, 24, .ds true [] 0 true, false⟩
def ti85 : TI := ⟨.int .u64, 1, 8, .int .u64 0, false⟩
def ti88 : TI := ⟨.slice 92, 1, 24, .ds true [] 0 true, false⟩
def ti89 : TI := ⟨.struct #[⟨"Name", 9, 0, false, "", "", 0⟩, ⟨"Values", 88, 1, false, "", "", 16⟩], 2, 40, .agg [.str [], .ds true [] 0 true], false⟩
def ti90 : TI := ti89
def ti91 : TI := ⟨.struct #[⟨"Name", 9, 0, false, "", "", 0⟩, ⟨"N", 3, 1, false, "", "", 16⟩], 2, 24, .agg [.str [], .int .i64 0], true⟩
def ti92 : TI := ti91
def ti94 : TI := ⟨.slice 9, 1, 24, .ds true [] 0 true, false⟩
def ti100 : TI := ⟨TypeDesc.pointer 3, 1, 8, AV.nilp, false⟩
def ti104 : TI := ⟨TypeDesc.map 9 4, 1, 8, AV.nilm, false⟩
def ti105 : TI := ti104
def ti113 : TI := ⟨TypeDesc.pointer 42, 1, 8, AV.nilp, false⟩
def ti115 : TI := ⟨TypeDesc.func #[61] #[4] false, 1, 8, AV.nilF, false⟩
def ti116 : TI := ti85
def ti117 : TI := ⟨.slice 21, 1, 24, .ds true [] 0 true, false⟩
def ti124 : TI := ⟨TypeDesc.interface #[("concordat/value.kind", 200)], 1, 16, AV.nilI, false⟩
def ti125 : TI := ti124
def ti126 : TI := ⟨.struct #[⟨"in", 125, 0, false, "", "concordat/value", 0⟩], 1, 16, .agg [AV.nilI], false⟩
def ti127 : TI := ti126
def ti131 : TI := ⟨TypeDesc.pointer 174, 1, 8, AV.nilp, false⟩
def ti134 : TI := ⟨TypeDesc.map 3 4, 1, 8, AV.nilm, false⟩
def ti141 : TI := ⟨TypeDesc.func #[61, 3] #[3] false, 1, 8, AV.nilF, false⟩
def ti143 : TI := ⟨TypeDesc.pointer 61, 1, 8, AV.nilp, false⟩
def ti155 : TI := ⟨.slice 127, 1, 24, .ds true [] 0 true, false⟩
def ti172 : TI := ⟨.slice 176, 1, 24, .ds true [] 0 true, false⟩
def ti173 : TI := ⟨.struct #[⟨"entries", 172, 0, false, "", "concordat/value", 0⟩, ⟨"rest", 22, 1, false, "", "concordat/value", 24⟩], 2, 48, .agg [.ds true [] 0 true, .ds true [] 0 true], false⟩
def ti174 : TI := ti173
def ti175 : TI := ⟨.struct #[⟨"tag", 3, 0, false, "", "concordat/value", 0⟩, ⟨"l", 155, 1, false, "", "concordat/value", 8⟩], 2, 32, .agg [.int .i64 0, .ds true [] 0 true], false⟩
def ti176 : TI := ti175
def ti182 : TI := ti2
def ti183 : TI := ti9
def ti191 : TI := ⟨.struct #[⟨"lo", 5, 0, false, "", "unicode/utf8", 0⟩, ⟨"hi", 5, 1, false, "", "unicode/utf8", 1⟩], 2, 2, .agg [.int .u8 0, .int .u8 0], true⟩
def ti192 : TI := ti191
def ti193 : TI := ⟨TypeDesc.array 16 192, 32, 32, .agg [.int .u8 0, .int .u8 0, .int .u8 0, .int .u8 0, .int .u8 0, .int .u8 0, .int .u8 0, .int .u8 0, .int .u8 0, .int .u8 0, .int .u8 0, .int .u8 0, .int .u8 0, .int .u8 0, .int .u8 0, .int .u8 0, .int .u8 0, .int .u8 0, .int .u8 0, .int .u8 0, .int .u8 0, .int .u8 0, .int .u8 0, .int .u8 0, .int .u8 0, .int .u8 0, .int .u8 0, .int .u8 0, .int .u8 0, .int .u8 0, .int .u8 0, .int .u8 0], true⟩
def tabL : List (Option TI) := [none, some ti1, some ti2, some ti3, some ti4, some ti5, none, none, none, some ti9, none, none, none, none, none, none, none, none, none, none, some ti20, some ti21, some ti22, some ti23, some ti24, some ti25, some ti26, some ti27, some ti28, some ti29, some ti30, some ti31, some ti32, some ti33, none, some ti35, some ti36, none, none, none, some ti40, some ti41, some ti42, none, none, none, none, none, none, some ti49, some ti50, some ti51, some ti52, none, none, none, none, none, none, some ti59, some ti60, some ti61, none, some ti63, some ti64, none, none, none, none, none, none, none, some ti72, some ti73, none, some ti75, none, none, none, none, none, none, none, none, none, some ti85, none, none, some ti88, some ti89, some ti90, some ti91, some ti92, none, some ti94, none, none, none, none, none, some ti100, none, none, none, some ti104, some ti105, none, none, none, none, none, none, none, some ti113, none, some ti115, some ti116, some ti117, none, none, none, none, none, none, some ti124, some ti125, some ti126, some ti127, none, none, none, some ti131, none, none, some ti134, none, none, none, none, none, none, some ti141, none, some ti143, none, none, none, none, none, none, none, none, none, none, none, some ti155, none, none, none, none, none, none, none, none, none, none, none, none, none, none, none, none, some ti172, some ti173, some ti174, some ti175, some ti176, none, none, none, none, none, some ti182, some ti183, none, none, none, none, none, none, none, some ti191, some ti192, some ti193, none, none, none, none, none, none, none, none, none, none, none, none, none, none, none, none, none]
def tab : TT := fun t => (tabL[t]?).getD none
theorem tab_1 : tab 1 = some ⟨TypeDesc.func #[] #[] false, 1, 8, AV.nilF, false⟩ := rfl
theorem tab_2 : tab 2 = some ⟨.int .i64, 1, 8, .int .i64 0, false⟩ := rfl
theorem tab_3 : tab 3 = tab 2 := rfl
theorem tab_4 : tab 4 = some ⟨.bool, 1, 1, AV.bool false, false⟩ := rfl
theorem tab_5 : tab 5 = some ⟨.int .u8, 1, 1, .int .u8 0, false⟩ := rfl
theorem tab_9 : tab 9 = some ⟨.string, 1, 16, .str [], false⟩ := rfl
theorem tab_20 : tab 20 = some ⟨TypeDesc.interface #[], 1, 16, AV.nilI, false⟩ := rfl
theorem tab_21 : tab 21 = some ⟨.int .i32, 1, 4, .int .i32 0, false⟩ := rfl
theorem tab_22 : tab 22 = some ⟨.slice 33, 1, 24, .ds true [] 0 true, false⟩ := rfl
theorem tab_23 : tab 23 = some ⟨.slice 52, 1, 24, .ds true [] 0 true, false⟩ := rfl
theorem tab_24 : tab 24 = some ⟨.slice 3, 1, 24, .ds true [] 0 true, false⟩ := rfl
theorem tab_25 : tab 25 = some ⟨.struct #[⟨"Name", 9, 0, false, "", "", 0⟩, ⟨"Fields", 23, 1, false, "", "", 16⟩, ⟨"Reserved", 24, 2, false, "", "", 40⟩], 3, 64, .agg [.str [], .ds true [] 0 true, .ds true [] 0 true], false⟩ := rfl
theorem tab_26 : tab 26 = tab 25 := rfl
theorem tab_27 : tab 27 = some ⟨.slice 26, 1, 24, .ds true [] 0 true, false⟩ := rfl
theorem tab_28 : tab 28 = some ⟨.slice 90, 1, 24, .ds true [] 0 true, false⟩ := rfl
theorem tab_29 : tab 29 = some ⟨.slice 73, 1, 24, .ds true [] 0 true, false⟩ := rfl
theorem tab_30 : tab 30 = some ⟨.struct #[⟨"Name", 9, 0, false, "", "", 0⟩, ⟨"Messages", 27, 1, false, "", "", 16⟩, ⟨"Enums", 28, 2, false, "", "", 40⟩, ⟨"Methods", 29, 3, false, "", "", 64⟩], 4, 88, .agg [.str [], .ds true [] 0 true, .ds true [] 0 true, .ds true [] 0 true], false⟩ := rfl
theorem tab_31 : tab 31 = tab 30 := rfl
theorem tab_32 : tab 32 = some ⟨.struct #[⟨"Tag", 3, 0, false, "", "", 0⟩, ⟨"Wire", 3, 1, false, "", "", 8⟩, ⟨"N", 3, 2, false, "", "", 16⟩, ⟨"B", 9, 3, false, "", "", 24⟩], 4, 40, .agg [.int .i64 0, .int .i64 0, .int .i64 0, .str []], true⟩ := rfl
theorem tab_33 : tab 33 = some ⟨.struct #[⟨"Tag", 3, 0, false, "", "", 0⟩, ⟨"Wire", 3, 1, false, "", "", 8⟩, ⟨"N", 3, 2, false, "", "", 16⟩, ⟨"B", 9, 3, false, "", "", 24⟩], 4, 40, .agg [.int .i64 0, .int .i64 0, .int .i64 0, .str []], true⟩ := rfl
theorem tab_35 : tab 35 = some ⟨.slice 5, 1, 24, .ds true [] 0 true, false⟩ := rfl
theorem tab_36 : tab 36 = tab 2 := rfl
theorem Yy : tab 40 = some ⟨.slice 61, 1, 24, .ds true [] 0 true, false⟩ := rfl
theorem tab_41 : tab 41 = some ⟨.struct #[⟨"Kind", 3, 0, false, "", "", 0⟩, ⟨"N", 3, 1, false, "", "", 8⟩, ⟨"S", 9, 2, false, "", "", 16⟩, ⟨"Entries", 40, 3, false, "", "", 32⟩, ⟨"Rest", 22, 4, false, "", "", 56⟩], 5, 80, .agg [.int .i64 0, .int .i64 0, .str [], .ds true [] 0 true, .ds true [] 0 true], false⟩ := rfl
theorem tab_42 : tab 42 = some ⟨.struct #[⟨"Kind", 3, 0, false, "", "", 0⟩, ⟨"N", 3, 1, false, "", "", 8⟩, ⟨"S", 9, 2, false, "", "", 16⟩, ⟨"Entries", 40, 3, false, "", "", 32⟩, ⟨"Rest", 22, 4, false, "", "", 56⟩], 5, 80, .agg [.int .i64 0, .int .i64 0, .str [], .ds true [] 0 true, .ds true [] 0 true], false⟩ := rfl
theorem tab_49 : tab 49 = some ⟨.struct #[⟨"Kind", 3, 0, false, "", "", 0⟩, ⟨"Name", 9, 1, false, "", "", 8⟩], 2, 24, .agg [.int .i64 0, .str []], true⟩ := rfl
theorem tab_50 : tab 50 = tab 49 := rfl
theorem tab_51 : tab 51 = some ⟨.struct #[⟨"Name", 9, 0, false, "", "", 0⟩, ⟨"Tag", 3, 1, false, "", "", 16⟩, ⟨"Label", 3, 2, false, "", "", 24⟩, ⟨"Type", 50, 3, false, "", "", 32⟩], 5, 56, .agg [.str [], .int .i64 0, .int .i64 0, .int .i64 0, .str []], true⟩ := rfl
theorem tab_52 : tab 52 = tab 51 := rfl
theorem tab_59 : tab 59 = some ⟨.slice 42, 1, 24, .ds true [] 0 true, false⟩ := rfl
theorem tab_60 : tab 60 = some ⟨.struct #[⟨"Tag", 3, 0, false, "", "", 0⟩, ⟨"Trees", 59, 1, false, "", "", 8⟩], 2, 32, .agg [.int .i64 0, .ds true [] 0 true], false⟩ := rfl
theorem Yx : tab 61 = some ⟨.struct #[⟨"Tag", 3, 0, false, "", "", 0⟩, ⟨"Trees", 59, 1, false, "", "", 8⟩], 2, 32, .agg [.int .i64 0, .ds true [] 0 true], false⟩ := rfl
theorem tab_63 : tab 63 = some ⟨.struct #[⟨"Kind", 3, 0, false, "", "", 0⟩, ⟨"From", 3, 1, false, "", "", 8⟩, ⟨"To", 3, 2, false, "", "", 16⟩, ⟨"ID", 3, 3, false, "", "", 24⟩, ⟨"Version", 3, 4, false, "", "", 32⟩, ⟨"Method", 9, 5, false, "", "", 40⟩, ⟨"Err", 3, 6, false, "", "", 56⟩, ⟨"Body", 9, 7, false, "", "", 64⟩], 8, 80, .agg [.int .i64 0, .int .i64 0, .int .i64 0, .int .i64 0, .int .i64 0, .str [], .int .i64 0, .str []], true⟩ := rfl
theorem tab_64 : tab 64 = tab 63 := rfl
theorem tab_72 : tab 72 = some ⟨.struct #[⟨"Name", 9, 0, false, "", "", 0⟩, ⟨"In", 9, 1, false, "", "", 16⟩, ⟨"Out", 9, 2, false, "", "", 32⟩], 3, 48, .agg [.str [], .str [], .str []], true⟩ := rfl
theorem tab_73 : tab 73 = tab 72 := rfl
theorem tab_75 : tab 75 = some ⟨.slice 31, 1, 24, .ds true [] 0 true, false⟩ := rfl
theorem tab_85 : tab 85 = some ⟨.int .u64, 1, 8, .int .u64 0, false⟩ := rfl
theorem tab_88 : tab 88 = some ⟨.slice 92, 1, 24, .ds true [] 0 true, false⟩ := rfl
theorem tab_89 : tab 89 = some ⟨.struct #[⟨"Name", 9, 0, false, "", "", 0⟩, ⟨"Values", 88, 1, false, "", "", 16⟩], 2, 40, .agg [.str [], .ds true [] 0 true], false⟩ := rfl
theorem tab_90 : tab 90 = tab 89 := rfl
theorem tab_91 : tab 91 = some ⟨.struct #[⟨"Name", 9, 0, false, "", "", 0⟩, ⟨"N", 3, 1, false, "", "", 16⟩], 2, 24, .agg [.str [], .int .i64 0], true⟩ := rfl
theorem tab_92 : tab 92 = tab 91 := rfl
theorem tab_94 : tab 94 = some ⟨.slice 9, 1, 24, .ds true [] 0 true, false⟩ := rfl
theorem tab_100 : tab 100 = some ⟨TypeDesc.pointer 3, 1, 8, AV.nilp, false⟩ := rfl
theorem tab_104 : tab 104 = some ⟨TypeDesc.map 9 4, 1, 8, AV.nilm, false⟩ := rfl
theorem tab_105 : tab 105 = tab 104 := rfl
theorem tab_113 : tab 113 = some ⟨TypeDesc.pointer 42, 1, 8, AV.nilp, false⟩ := rfl
theorem tab_115 : tab 115 = some ⟨TypeDesc.func #[61] #[4] false, 1, 8, AV.nilF, false⟩ := rfl
theorem tab_116 : tab 116 = tab 85 := rfl
theorem tab_117 : tab 117 = some ⟨.slice 21, 1, 24, .ds true [] 0 true, false⟩ := rfl
theorem tab_124 : tab 124 = some ⟨TypeDesc.interface #[("concordat/value.kind", 200)], 1, 16, AV.nilI, false⟩ := rfl
theorem tab_125 : tab 125 = tab 124 := rfl
theorem tab_126 : tab 126 = some ⟨.struct #[⟨"in", 125, 0, false, "", "concordat/value", 0⟩], 1, 16, .agg [AV.nilI], false⟩ := rfl
theorem tab_127 : tab 127 = tab 126 := rfl
theorem tab_131 : tab 131 = some ⟨TypeDesc.pointer 174, 1, 8, AV.nilp, false⟩ := rfl
theorem tab_134 : tab 134 = some ⟨TypeDesc.map 3 4, 1, 8, AV.nilm, false⟩ := rfl
theorem tab_141 : tab 141 = some ⟨TypeDesc.func #[61, 3] #[3] false, 1, 8, AV.nilF, false⟩ := rfl
theorem tab_143 : tab 143 = some ⟨TypeDesc.pointer 61, 1, 8, AV.nilp, false⟩ := rfl
theorem tab_155 : tab 155 = some ⟨.slice 127, 1, 24, .ds true [] 0 true, false⟩ := rfl
theorem tab_172 : tab 172 = some ⟨.slice 176, 1, 24, .ds true [] 0 true, false⟩ := rfl
theorem tab_173 : tab 173 = some ⟨.struct #[⟨"entries", 172, 0, false, "", "concordat/value", 0⟩, ⟨"rest", 22, 1, false, "", "concordat/value", 24⟩], 2, 48, .agg [.ds true [] 0 true, .ds true [] 0 true], false⟩ := rfl
theorem tab_174 : tab 174 = tab 173 := rfl
theorem tab_175 : tab 175 = some ⟨.struct #[⟨"tag", 3, 0, false, "", "concordat/value", 0⟩, ⟨"l", 155, 1, false, "", "concordat/value", 8⟩], 2, 32, .agg [.int .i64 0, .ds true [] 0 true], false⟩ := rfl
theorem tab_176 : tab 176 = tab 175 := rfl
theorem tab_182 : tab 182 = tab 2 := rfl
theorem tab_183 : tab 183 = tab 9 := rfl
theorem tab_191 : tab 191 = some ⟨.struct #[⟨"lo", 5, 0, false, "", "unicode/utf8", 0⟩, ⟨"hi", 5, 1, false, "", "unicode/utf8", 1⟩], 2, 2, .agg [.int .u8 0, .int .u8 0], true⟩ := rfl
theorem tab_192 : tab 192 = tab 191 := rfl
theorem tab_193 : tab 193 = some ⟨TypeDesc.array 16 192, 32, 32, .agg [.int .u8 0, .int .u8 0, .int .u8 0, .int .u8 0, .int .u8 0, .int .u8 0, .int .u8 0, .int .u8 0, .int .u8 0, .int .u8 0, .int .u8 0, .int .u8 0, .int .u8 0, .int .u8 0, .int .u8 0, .int .u8 0, .int .u8 0, .int .u8 0, .int .u8 0, .int .u8 0, .int .u8 0, .int .u8 0, .int .u8 0, .int .u8 0, .int .u8 0, .int .u8 0, .int .u8 0, .int .u8 0, .int .u8 0, .int .u8 0, .int .u8 0, .int .u8 0], true⟩ := rfl
theorem ok_1 : TI.OK qh 1 ti1 := ⟨Tryd.underlying1, ⟨Tryd.t1, Tryd.type1, rfl, rfl, _, rfl, rfl, fun E => VR.constAV E (Value.nilFunc)⟩, (fun h => by cases h), rfl⟩
theorem ok_2 : TI.OK qh 2 ti2 := ⟨Tryd.underlying2, ⟨Tryd.t2, Tryd.type2, rfl, rfl, (.int .i64 0), rfl, rfl, fun E => VR.constAV E (.int .i64 0)⟩, (fun h => by cases h), rfl⟩
theorem ok_3 : TI.OK qh 3 ti3 := ⟨Tryd.underlying3, ⟨Tryd.t3, Tryd.type3, rfl, rfl, (.int .i64 0), rfl, rfl, fun E => VR.constAV E (.int .i64 0)⟩, (fun h => by cases h), rfl⟩
theorem ok_4 : TI.OK qh 4 ti4 := ⟨Tryd.underlying4, ⟨Tryd.t4, Tryd.type4, rfl, rfl, (.bool false), rfl, rfl, fun E => VR.constAV E (.bool false)⟩, (fun h => by cases h), rfl⟩
theorem ok_5 : TI.OK qh 5 ti5 := ⟨Tryd.underlying5, ⟨Tryd.t5, Tryd.type5, rfl, rfl, (.int .u8 0), rfl, rfl, fun E => VR.constAV E (.int .u8 0)⟩, (fun h => by cases h), rfl⟩
theorem ok_9 : TI.OK qh 9 ti9 := ⟨Tryd.underlying9, ⟨Tryd.t9, Tryd.type9, rfl, rfl, (.string ⟨#[]⟩), rfl, rfl, fun E => VR.constAV E (.string ⟨#[]⟩)⟩, (fun h => by cases h), rfl⟩
theorem ok_20 : TI.OK qh 20 ti20 := ⟨Tryd.underlying20, ⟨Tryd.t20, Tryd.type20, rfl, rfl, _, rfl, rfl, fun E => VR.constAV E (Value.nilIface)⟩, (fun h => by cases h), rfl⟩
theorem ok_21 : TI.OK qh 21 ti21 := ⟨Tryd.underlying21, ⟨Tryd.t21, Tryd.type21, rfl, rfl, (.int .i32 0), rfl, rfl, fun E => VR.constAV E (.int .i32 0)⟩, (fun h => by cases h), rfl⟩
theorem ok_22 : TI.OK qh 22 ti22 := ⟨Tryd.underlying22, ⟨Tryd.t22, Tryd.type22, rfl, rfl, (.slice none 0 0), rfl, rfl, fun E => VR.constAV E (.slice none 0 0)⟩, (fun h => by cases h), rfl⟩
theorem ok_23 : TI.OK qh 23 ti23 := ⟨Tryd.underlying23, ⟨Tryd.t23, Tryd.type23, rfl, rfl, (.slice none 0 0), rfl, rfl, fun E => VR.constAV E (.slice none 0 0)⟩, (fun h => by cases h), rfl⟩
theorem ok_24 : TI.OK qh 24 ti24 := ⟨Tryd.underlying24, ⟨Tryd.t24, Tryd.type24, rfl, rfl, (.slice none 0 0), rfl, rfl, fun E => VR.constAV E (.slice none 0 0)⟩, (fun h => by cases h), rfl⟩
theorem ok_25 : TI.OK qh 25 ti25 := ⟨Tryd.underlying25, ⟨Tryd.t25, Tryd.type25, rfl, rfl, (.agg #[.string ⟨#[]⟩, .slice none 0 0, .slice none 0 0]), rfl, rfl, fun E => VR.constAV E (.agg #[.string ⟨#[]⟩, .slice none 0 0, .slice none 0 0])⟩, (fun h => by cases h), rfl⟩
theorem ok_26 : TI.OK qh 26 ti26 := ⟨Tryd.underlying26, ⟨Tryd.t26, Tryd.type26, rfl, rfl, (.agg #[.string ⟨#[]⟩, .slice none 0 0, .slice none 0 0]), rfl, rfl, fun E => VR.constAV E (.agg #[.string ⟨#[]⟩, .slice none 0 0, .slice none 0 0])⟩, (fun h => by cases h), rfl⟩
theorem ok_27 : TI.OK qh 27 ti27 := ⟨Tryd.underlying27, ⟨Tryd.t27, Tryd.type27, rfl, rfl, (.slice none 0 0), rfl, rfl, fun E => VR.constAV E (.slice none 0 0)⟩, (fun h => by cases h), rfl⟩
theorem ok_28 : TI.OK qh 28 ti28 := ⟨Tryd.underlying28, ⟨Tryd.t28, Tryd.type28, rfl, rfl, (.slice none 0 0), rfl, rfl, fun E => VR.constAV E (.slice none 0 0)⟩, (fun h => by cases h), rfl⟩
theorem ok_29 : TI.OK qh 29 ti29 := ⟨Tryd.underlying29, ⟨Tryd.t29, Tryd.type29, rfl, rfl, (.slice none 0 0), rfl, rfl, fun E => VR.constAV E (.slice none 0 0)⟩, (fun h => by cases h), rfl⟩
theorem ok_30 : TI.OK qh 30 ti30 := ⟨Tryd.underlying30, ⟨Tryd.t30, Tryd.type30, rfl, rfl, (.agg #[.string ⟨#[]⟩, .slice none 0 0, .slice none 0 0, .slice none 0 0]), rfl, rfl, fun E => VR.constAV E (.agg #[.string ⟨#[]⟩, .slice none 0 0, .slice none 0 0, .slice none 0 0])⟩, (fun h => by cases h), rfl⟩
theorem ok_31 : TI.OK qh 31 ti31 := ⟨Tryd.underlying31, ⟨Tryd.t31, Tryd.type31, rfl, rfl, (.agg #[.string ⟨#[]⟩, .slice none 0 0, .slice none 0 0, .slice none 0 0]), rfl, rfl, fun E => VR.constAV E (.agg #[.string ⟨#[]⟩, .slice none 0 0, .slice none 0 0, .slice none 0 0])⟩, (fun h => by cases h), rfl⟩
theorem ok_32 : TI.OK qh 32 ti32 := ⟨Tryd.underlying32, ⟨Tryd.t32, Tryd.type32, rfl, rfl, (.agg #[.int .i64 0, .int .i64 0, .int .i64 0, .string ⟨#[]⟩]), rfl, rfl, fun E => VR.constAV E (.agg #[.int .i64 0, .int .i64 0, .int .i64 0, .string ⟨#[]⟩])⟩, (fun _ => ⟨by kernel_rfl, by kernel_rfl⟩), rfl⟩
theorem ok_33 : TI.OK qh 33 ti33 := ⟨Tryd.underlying33, ⟨Tryd.t33, Tryd.type33, rfl, rfl, (.agg #[.int .i64 0, .int .i64 0, .int .i64 0, .string ⟨#[]⟩]), rfl, rfl, fun E => VR.constAV E (.agg #[.int .i64 0, .int .i64 0, .int .i64 0, .string ⟨#[]⟩])⟩, (fun _ => ⟨by kernel_rfl, by kernel_rfl⟩), rfl⟩
theorem ok_35 : TI.OK qh 35 ti35 := ⟨Tryd.underlying35, ⟨Tryd.t35, Tryd.type35, rfl, rfl, (.slice none 0 0), rfl, rfl, fun E => VR.constAV E (.slice none 0 0)⟩, (fun h => by cases h), rfl⟩
theorem ok_36 : TI.OK qh 36 ti36 := ⟨Tryd.underlying36, ⟨Tryd.t36, Tryd.type36, rfl, rfl, (.int .i64 0), rfl, rfl, fun E => VR.constAV E (.int .i64 0)⟩, (fun h => by cases h), rfl⟩
theorem ok_40 : TI.OK qh 40 ti40 := ⟨Tryd.underlying40, ⟨Tryd.t40, Tryd.type40, rfl, rfl, (.slice none 0 0), rfl, rfl, fun E => VR.constAV E (.slice none 0 0)⟩, (fun h => by cases h), rfl⟩
theorem ok_41 : TI.OK qh 41 ti41 := ⟨Tryd.underlying41, ⟨Tryd.t41, Tryd.type41, rfl, rfl, (.agg #[.int .i64 0, .int .i64 0, .string ⟨#[]⟩, .slice none 0 0, .slice none 0 0]), rfl, rfl, fun E => VR.constAV E (.agg #[.int .i64 0, .int .i64 0, .string ⟨#[]⟩, .slice none 0 0, .slice none 0 0])⟩, (fun h => by cases h), rfl⟩
theorem ok_42 : TI.OK qh 42 ti42 := ⟨Tryd.underlying42, ⟨Tryd.t42, Tryd.type42, rfl, rfl, (.agg #[.int .i64 0, .int .i64 0, .string ⟨#[]⟩, .slice none 0 0, .slice none 0 0]), rfl, rfl, fun E => VR.constAV E (.agg #[.int .i64 0, .int .i64 0, .string ⟨#[]⟩, .slice none 0 0, .slice none 0 0])⟩, (fun h => by cases h), rfl⟩
theorem ok_49 : TI.OK qh 49 ti49 := ⟨Tryd.underlying49, ⟨Tryd.t49, Tryd.type49, rfl, rfl, (.agg #[.int .i64 0, .string ⟨#[]⟩]), rfl, rfl, fun E => VR.constAV E (.agg #[.int .i64 0, .string ⟨#[]⟩])⟩, (fun _ => ⟨by kernel_rfl, by kernel_rfl⟩), rfl⟩
theorem ok_50 : TI.OK qh 50 ti50 := ⟨Tryd.underlying50, ⟨Tryd.t50, Tryd.type50, rfl, rfl, (.agg #[.int .i64 0, .string ⟨#[]⟩]), rfl, rfl, fun E => VR.constAV E (.agg #[.int .i64 0, .string ⟨#[]⟩])⟩, (fun _ => ⟨by kernel_rfl, by kernel_rfl⟩), rfl⟩
theorem ok_51 : TI.OK qh 51 ti51 := ⟨Tryd.underlying51, ⟨Tryd.t51, Tryd.type51, rfl, rfl, (.agg #[.string ⟨#[]⟩, .int .i64 0, .int .i64 0, .int .i64 0, .string ⟨#[]⟩]), rfl, rfl, fun E => VR.constAV E (.agg #[.string ⟨#[]⟩, .int .i64 0, .int .i64 0, .int .i64 0, .string ⟨#[]⟩])⟩, (fun _ => ⟨by kernel_rfl, by kernel_rfl⟩), rfl⟩
theorem ok_52 : TI.OK qh 52 ti52 := ⟨Tryd.underlying52, ⟨Tryd.t52, Tryd.type52, rfl, rfl, (.agg #[.string ⟨#[]⟩, .int .i64 0, .int .i64 0, .int .i64 0, .string ⟨#[]⟩]), rfl, rfl, fun E => VR.constAV E (.agg #[.string ⟨#[]⟩, .int .i64 0, .int .i64 0, .int .i64 0, .string ⟨#[]⟩])⟩, (fun _ => ⟨by kernel_rfl, by kernel_rfl⟩), rfl⟩
theorem ok_59 : TI.OK qh 59 ti59 := ⟨Tryd.underlying59, ⟨Tryd.t59, Tryd.type59, rfl, rfl, (.slice none 0 0), rfl, rfl, fun E => VR.constAV E (.slice none 0 0)⟩, (fun h => by cases h), rfl⟩
theorem ok_60 : TI.OK qh 60 ti60 := ⟨Tryd.underlying60, ⟨Tryd.t60, Tryd.type60, rfl, rfl, (.agg #[.int .i64 0, .slice none 0 0]), rfl, rfl, fun E => VR.constAV E (.agg #[.int .i64 0, .slice none 0 0])⟩, (fun h => by cases h), rfl⟩
theorem ok_61 : TI.OK qh 61 ti61 := ⟨Tryd.underlying61, ⟨Tryd.t61, Tryd.type61, rfl, rfl, (.agg #[.int .i64 0, .slice none 0 0]), rfl, rfl, fun E => VR.constAV E (.agg #[.int .i64 0, .slice none 0 0])⟩, (fun h => by cases h), rfl⟩
theorem ok_63 : TI.OK qh 63 ti63 := ⟨Tryd.underlying63, ⟨Tryd.t63, Tryd.type63, rfl, rfl, (.agg #[.int .i64 0, .int .i64 0, .int .i64 0, .int .i64 0, .int .i64 0, .string ⟨#[]⟩, .int .i64 0, .string ⟨#[]⟩]), rfl, rfl, fun E => VR.constAV E (.agg #[.int .i64 0, .int .i64 0, .int .i64 0, .int .i64 0, .int .i64 0, .string ⟨#[]⟩, .int .i64 0, .string ⟨#[]⟩])⟩, (fun _ => ⟨by kernel_rfl, by kernel_rfl⟩), rfl⟩
theorem ok_64 : TI.OK qh 64 ti64 := ⟨Tryd.underlying64, ⟨Tryd.t64, Tryd.type64, rfl, rfl, (.agg #[.int .i64 0, .int .i64 0, .int .i64 0, .int .i64 0, .int .i64 0, .string ⟨#[]⟩, .int .i64 0, .string ⟨#[]⟩]), rfl, rfl, fun E => VR.constAV E (.agg #[.int .i64 0, .int .i64 0, .int .i64 0, .int .i64 0, .int .i64 0, .string ⟨#[]⟩, .int .i64 0, .string ⟨#[]⟩])⟩, (fun _ => ⟨by kernel_rfl, by kernel_rfl⟩), rfl⟩
theorem ok_72 : TI.OK qh 72 ti72 := ⟨Tryd.underlying72, ⟨Tryd.t72, Tryd.type72, rfl, rfl, (.agg #[.string ⟨#[]⟩, .string ⟨#[]⟩, .string ⟨#[]⟩]), rfl, rfl, fun E => VR.constAV E (.agg #[.string ⟨#[]⟩, .string ⟨#[]⟩, .string ⟨#[]⟩])⟩, (fun _ => ⟨by kernel_rfl, by kernel_rfl⟩), rfl⟩
theorem ok_73 : TI.OK qh 73 ti73 := ⟨Tryd.underlying73, ⟨Tryd.t73, Tryd.type73, rfl, rfl, (.agg #[.string ⟨#[]⟩, .string ⟨#[]⟩, .string ⟨#[]⟩]), rfl, rfl, fun E => VR.constAV E (.agg #[.string ⟨#[]⟩, .string ⟨#[]⟩, .string ⟨#[]⟩])⟩, (fun _ => ⟨by kernel_rfl, by kernel_rfl⟩), rfl⟩
theorem ok_75 : TI.OK qh 75 ti75 := ⟨Tryd.underlying75, ⟨Tryd.t75, Tryd.type75, rfl, rfl, (.slice none 0 0), rfl, rfl, fun E => VR.constAV E (.slice none 0 0)⟩, (fun h => by cases h), rfl⟩
theorem ok_85 : TI.OK qh 85 ti85 := ⟨Tryd.underlying85, ⟨Tryd.t85, Tryd.type85, rfl, rfl, (.int .u64 0), rfl, rfl, fun E => VR.constAV E (.int .u64 0)⟩, (fun h => by cases h), rfl⟩
theorem ok_88 : TI.OK qh 88 ti88 := ⟨Tryd.underlying88, ⟨Tryd.t88, Tryd.type88, rfl, rfl, (.slice none 0 0), rfl, rfl, fun E => VR.constAV E (.slice none 0 0)⟩, (fun h => by cases h), rfl⟩
theorem ok_89 : TI.OK qh 89 ti89 := ⟨Tryd.underlying89, ⟨Tryd.t89, Tryd.type89, rfl, rfl, (.agg #[.string ⟨#[]⟩, .slice none 0 0]), rfl, rfl, fun E => VR.constAV E (.agg #[.string ⟨#[]⟩, .slice none 0 0])⟩, (fun h => by cases h), rfl⟩
theorem ok_90 : TI.OK qh 90 ti90 := ⟨Tryd.underlying90, ⟨Tryd.t90, Tryd.type90, rfl, rfl, (.agg #[.string ⟨#[]⟩, .slice none 0 0]), rfl, rfl, fun E => VR.constAV E (.agg #[.string ⟨#[]⟩, .slice none 0 0])⟩, (fun h => by cases h), rfl⟩
theorem ok_91 : TI.OK qh 91 ti91 := ⟨Tryd.underlying91, ⟨Tryd.t91, Tryd.type91, rfl, rfl, (.agg #[.string ⟨#[]⟩, .int .i64 0]), rfl, rfl, fun E => VR.constAV E (.agg #[.string ⟨#[]⟩, .int .i64 0])⟩, (fun _ => ⟨by kernel_rfl, by kernel_rfl⟩), rfl⟩
theorem ok_92 : TI.OK qh 92 ti92 := ⟨Tryd.underlying92, ⟨Tryd.t92, Tryd.type92, rfl, rfl, (.agg #[.string ⟨#[]⟩, .int .i64 0]), rfl, rfl, fun E => VR.constAV E (.agg #[.string ⟨#[]⟩, .int .i64 0])⟩, (fun _ => ⟨by kernel_rfl, by kernel_rfl⟩), rfl⟩
theorem ok_94 : TI.OK qh 94 ti94 := ⟨Tryd.underlying94, ⟨Tryd.t94, Tryd.type94, rfl, rfl, (.slice none 0 0), rfl, rfl, fun E => VR.constAV E (.slice none 0 0)⟩, (fun h => by cases h), rfl⟩
theorem ok_100 : TI.OK qh 100 ti100 := ⟨Tryd.underlying100, ⟨Tryd.t100, Tryd.type100, rfl, rfl, _, rfl, rfl, fun E => VR.constAV E (Value.pointer none)⟩, (fun h => by cases h), rfl⟩
theorem ok_104 : TI.OK qh 104 ti104 := ⟨Tryd.underlying104, ⟨Tryd.t104, Tryd.type104, rfl, rfl, _, rfl, rfl, fun E => VR.constAV E (Value.map none)⟩, (fun h => by cases h), rfl⟩
theorem ok_105 : TI.OK qh 105 ti105 := ⟨Tryd.underlying105, ⟨Tryd.t105, Tryd.type105, rfl, rfl, _, rfl, rfl, fun E => VR.constAV E (Value.map none)⟩, (fun h => by cases h), rfl⟩
theorem ok_113 : TI.OK qh 113 ti113 := ⟨Tryd.underlying113, ⟨Tryd.t113, Tryd.type113, rfl, rfl, _, rfl, rfl, fun E => VR.constAV E (Value.pointer none)⟩, (fun h => by cases h), rfl⟩
theorem ok_115 : TI.OK qh 115 ti115 := ⟨Tryd.underlying115, ⟨Tryd.t115, Tryd.type115, rfl, rfl, _, rfl, rfl, fun E => VR.constAV E (Value.nilFunc)⟩, (fun h => by cases h), rfl⟩
theorem ok_116 : TI.OK qh 116 ti116 := ⟨Tryd.underlying116, ⟨Tryd.t116, Tryd.type116, rfl, rfl, (.int .u64 0), rfl, rfl, fun E => VR.constAV E (.int .u64 0)⟩, (fun h => by cases h), rfl⟩
theorem ok_117 : TI.OK qh 117 ti117 := ⟨Tryd.underlying117, ⟨Tryd.t117, Tryd.type117, rfl, rfl, (.slice none 0 0), rfl, rfl, fun E => VR.constAV E (.slice none 0 0)⟩, (fun h => by cases h), rfl⟩
theorem ok_124 : TI.OK qh 124 ti124 := ⟨Tryd.underlying124, ⟨Tryd.t124, Tryd.type124, rfl, rfl, _, rfl, rfl, fun E => VR.constAV E (Value.nilIface)⟩, (fun h => by cases h), rfl⟩
theorem ok_125 : TI.OK qh 125 ti125 := ⟨Tryd.underlying125, ⟨Tryd.t125, Tryd.type125, rfl, rfl, _, rfl, rfl, fun E => VR.constAV E (Value.nilIface)⟩, (fun h => by cases h), rfl⟩
theorem ok_126 : TI.OK qh 126 ti126 := ⟨Tryd.underlying126, ⟨Tryd.t126, Tryd.type126, rfl, rfl, (.agg #[Value.nilIface]), rfl, rfl, fun E => VR.constAV E (.agg #[Value.nilIface])⟩, (fun h => by cases h), rfl⟩
theorem ok_127 : TI.OK qh 127 ti127 := ⟨Tryd.underlying127, ⟨Tryd.t127, Tryd.type127, rfl, rfl, (.agg #[Value.nilIface]), rfl, rfl, fun E => VR.constAV E (.agg #[Value.nilIface])⟩, (fun h => by cases h), rfl⟩
theorem ok_131 : TI.OK qh 131 ti131 := ⟨Tryd.underlying131, ⟨Tryd.t131, Tryd.type131, rfl, rfl, _, rfl, rfl, fun E => VR.constAV E (Value.pointer none)⟩, (fun h => by cases h), rfl⟩
theorem ok_134 : TI.OK qh 134 ti134 := ⟨Tryd.underlying134, ⟨Tryd.t134, Tryd.type134, rfl, rfl, _, rfl, rfl, fun E => VR.constAV E (Value.map none)⟩, (fun h => by cases h), rfl⟩
theorem ok_141 : TI.OK qh 141 ti141 := ⟨Tryd.underlying141, ⟨Tryd.t141, Tryd.type141, rfl, rfl, _, rfl, rfl, fun E => VR.constAV E (Value.nilFunc)⟩, (fun h => by cases h), rfl⟩
theorem ok_143 : TI.OK qh 143 ti143 := ⟨Tryd.underlying143, ⟨Tryd.t143, Tryd.type143, rfl, rfl, _, rfl, rfl, fun E => VR.constAV E (Value.pointer none)⟩, (fun h => by cases h), rfl⟩
theorem ok_155 : TI.OK qh 155 ti155 := ⟨Tryd.underlying155, ⟨Tryd.t155, Tryd.type155, rfl, rfl, (.slice none 0 0), rfl, rfl, fun E => VR.constAV E (.slice none 0 0)⟩, (fun h => by cases h), rfl⟩
theorem ok_172 : TI.OK qh 172 ti172 := ⟨Tryd.underlying172, ⟨Tryd.t172, Tryd.type172, rfl, rfl, (.slice none 0 0), rfl, rfl, fun E => VR.constAV E (.slice none 0 0)⟩, (fun h => by cases h), rfl⟩
theorem ok_173 : TI.OK qh 173 ti173 := ⟨Tryd.underlying173, ⟨Tryd.t173, Tryd.type173, rfl, rfl, (.agg #[.slice none 0 0, .slice none 0 0]), rfl, rfl, fun E => VR.constAV E (.agg #[.slice none 0 0, .slice none 0 0])⟩, (fun h => by cases h), rfl⟩
theorem ok_174 : TI.OK qh 174 ti174 := ⟨Tryd.underlying174, ⟨Tryd.t174, Tryd.type174, rfl, rfl, (.agg #[.slice none 0 0, .slice none 0 0]), rfl, rfl, fun E => VR.constAV E (.agg #[.slice none 0 0, .slice none 0 0])⟩, (fun h => by cases h), rfl⟩
theorem ok_175 : TI.OK qh 175 ti175 := ⟨Tryd.underlying175, ⟨Tryd.t175, Tryd.type175, rfl, rfl, (.agg #[.int .i64 0, .slice none 0 0]), rfl, rfl, fun E => VR.constAV E (.agg #[.int .i64 0, .slice none 0 0])⟩, (fun h => by cases h), rfl⟩
theorem ok_176 : TI.OK qh 176 ti176 := ⟨Tryd.underlying176, ⟨Tryd.t176, Tryd.type176, rfl, rfl, (.agg #[.int .i64 0, .slice none 0 0]), rfl, rfl, fun E => VR.constAV E (.agg #[.int .i64 0, .slice none 0 0])⟩, (fun h => by cases h), rfl⟩
theorem ok_182 : TI.OK qh 182 ti182 := ⟨Tryd.underlying182, ⟨Tryd.t182, Tryd.type182, rfl, rfl, (.int .i64 0), rfl, rfl, fun E => VR.constAV E (.int .i64 0)⟩, (fun h => by cases h), rfl⟩
theorem ok_183 : TI.OK qh 183 ti183 := ⟨Tryd.underlying183, ⟨Tryd.t183, Tryd.type183, rfl, rfl, (.string ⟨#[]⟩), rfl, rfl, fun E => VR.constAV E (.string ⟨#[]⟩)⟩, (fun h => by cases h), rfl⟩
theorem ok_191 : TI.OK qh 191 ti191 := ⟨Tryd.underlying191, ⟨Tryd.t191, Tryd.type191, rfl, rfl, (.agg #[.int .u8 0, .int .u8 0]), rfl, rfl, fun E => VR.constAV E (.agg #[.int .u8 0, .int .u8 0])⟩, (fun _ => ⟨by kernel_rfl, by kernel_rfl⟩), rfl⟩
theorem ok_192 : TI.OK qh 192 ti192 := ⟨Tryd.underlying192, ⟨Tryd.t192, Tryd.type192, rfl, rfl, (.agg #[.int .u8 0, .int .u8 0]), rfl, rfl, fun E => VR.constAV E (.agg #[.int .u8 0, .int .u8 0])⟩, (fun _ => ⟨by kernel_rfl, by kernel_rfl⟩), rfl⟩
theorem ok_193 : TI.OK qh 193 ti193 := ⟨Tryd.underlying193, ⟨Tryd.t193, Tryd.type193, rfl, rfl, (.agg #[.int .u8 0, .int .u8 0, .int .u8 0, .int .u8 0, .int .u8 0, .int .u8 0, .int .u8 0, .int .u8 0, .int .u8 0, .int .u8 0, .int .u8 0, .int .u8 0, .int .u8 0, .int .u8 0, .int .u8 0, .int .u8 0, .int .u8 0, .int .u8 0, .int .u8 0, .int .u8 0, .int .u8 0, .int .u8 0, .int .u8 0, .int .u8 0, .int .u8 0, .int .u8 0, .int .u8 0, .int .u8 0, .int .u8 0, .int .u8 0, .int .u8 0, .int .u8 0]), rfl, rfl, fun E => VR.constAV E (.agg #[.int .u8 0, .int .u8 0, .int .u8 0, .int .u8 0, .int .u8 0, .int .u8 0, .int .u8 0, .int .u8 0, .int .u8 0, .int .u8 0, .int .u8 0, .int .u8 0, .int .u8 0, .int .u8 0, .int .u8 0, .int .u8 0, .int .u8 0, .int .u8 0, .int .u8 0, .int .u8 0, .int .u8 0, .int .u8 0, .int .u8 0, .int .u8 0, .int .u8 0, .int .u8 0, .int .u8 0, .int .u8 0, .int .u8 0, .int .u8 0, .int .u8 0, .int .u8 0])⟩, (fun _ => ⟨by kernel_rfl, by kernel_rfl⟩), rfl⟩
theorem allOK : AllOK qh 0 tabL := ⟨ok_1, ok_2, ok_3, ok_4, ok_5, ok_9, ok_20, ok_21, ok_22, ok_23, ok_24, ok_25, ok_26, ok_27, ok_28, ok_29, ok_30, ok_31, ok_32, ok_33, ok_35, ok_36, ok_40, ok_41, ok_42, ok_49, ok_50, ok_51, ok_52, ok_59, ok_60, ok_61, ok_63, ok_64, ok_72, ok_73, ok_75, ok_85, ok_88, ok_89, ok_90, ok_91, ok_92, ok_94, ok_100, ok_104, ok_105, ok_113, ok_115, ok_116, ok_117, ok_124, ok_125, ok_126, ok_127, ok_131, ok_134, ok_141, ok_143, ok_155, ok_172, ok_173, ok_174, ok_175, ok_176, ok_182, ok_183, ok_191, ok_192, ok_193, trivial⟩
theorem tok : TOK qh tab := tok_of allOK
theorem sz_1 : sized tab 1 = true := rfl
theorem sz_2 : sized tab 2 = true := rfl
theorem cd_2 : cellsD tab 20 2 = some [.int .i64] := rfl
theorem sz_3 : sized tab 3 = true := rfl
theorem cd_3 : cellsD tab 20 3 = cellsD tab 20 2 := rfl
theorem sz_4 : sized tab 4 = true := rfl
theorem cd_4 : cellsD tab 20 4 = some [.bool] := rfl
theorem sz_5 : sized tab 5 = true := rfl
theorem cd_5 : cellsD tab 20 5 = some [.int .u8] := rfl
theorem sz_9 : sized tab 9 = true := rfl
theorem cd_9 : cellsD tab 20 9 = some [.string] := rfl
theorem len_9 (s : List UInt8) (σ : Store) : wq tab 9 (.str s) σ = some (.int .i64 s.length) := rfl
theorem sz_20 : sized tab 20 = true := rfl
theorem sz_21 : sized tab 21 = true := rfl
theorem cd_21 : cellsD tab 20 21 = some [.int .i32] := rfl
theorem sz_22 : sized tab 22 = true := rfl
theorem len_22 (nl : Bool) (cs : List AV) (len : Nat) (t : Bool) (σ : Store) : wq tab 22 (.ds nl cs len t) σ = some (.int .i64 len) := rfl
theorem leno_22 (nl : Bool) (sz id ver off len : Nat) (t : Bool) (σ : Store) : wq tab 22 (.os nl sz id ver off len t) σ = some (.int .i64 len) := rfl
theorem sz_23 : sized tab 23 = true := rfl
theorem len_23 (nl : Bool) (cs : List AV) (len : Nat) (t : Bool) (σ : Store) : wq tab 23 (.ds nl cs len t) σ = some (.int .i64 len) := rfl
theorem leno_23 (nl : Bool) (sz id ver off len : Nat) (t : Bool) (σ : Store) : wq tab 23 (.os nl sz id ver off len t) σ = some (.int .i64 len) := rfl
theorem sz_24 : sized tab 24 = true := rfl
theorem len_24 (nl : Bool) (cs : List AV) (len : Nat) (t : Bool) (σ : Store) : wq tab 24 (.ds nl cs len t) σ = some (.int .i64 len) := rfl
theorem leno_24 (nl : Bool) (sz id ver off len : Nat) (t : Bool) (σ : Store) : wq tab 24 (.os nl sz id ver off len t) σ = some (.int .i64 len) := rfl
theorem sz_25 : sized tab 25 = true := rfl
theorem fao_25_0 (id ver off : Nat) : zf tab 25 (.op id ver off) 0 = some (.op id ver (off + 0)) := rfl
theorem fad_25_0 (cs : List AV) (off : Nat) : zf tab 25 (.dp cs off) 0 = some (.dp cs (off + 0)) := rfl
theorem fao_25_1 (id ver off : Nat) : zf tab 25 (.op id ver off) 1 = some (.op id ver (off + 1)) := rfl
theorem fad_25_1 (cs : List AV) (off : Nat) : zf tab 25 (.dp cs off) 1 = some (.dp cs (off + 1)) := rfl
theorem fao_25_2 (id ver off : Nat) : zf tab 25 (.op id ver off) 2 = some (.op id ver (off + 2)) := rfl
theorem fad_25_2 (cs : List AV) (off : Nat) : zf tab 25 (.dp cs off) 2 = some (.dp cs (off + 2)) := rfl
theorem sz_26 : sized tab 26 = true := rfl
theorem fao_26_0 (id ver off : Nat) : zf tab 26 (.op id ver off) 0 = some (.op id ver (off + 0)) := rfl
theorem fad_26_0 (cs : List AV) (off : Nat) : zf tab 26 (.dp cs off) 0 = some (.dp cs (off + 0)) := rfl
theorem fao_26_1 (id ver off : Nat) : zf tab 26 (.op id ver off) 1 = some (.op id ver (off + 1)) := rfl
theorem fad_26_1 (cs : List AV) (off : Nat) : zf tab 26 (.dp cs off) 1 = some (.dp cs (off + 1)) := rfl
theorem fao_26_2 (id ver off : Nat) : zf tab 26 (.op id ver off) 2 = some (.op id ver (off + 2)) := rfl
theorem fad_26_2 (cs : List AV) (off : Nat) : zf tab 26 (.dp cs off) 2 = some (.dp cs (off + 2)) := rfl
theorem sz_27 : sized tab 27 = true := rfl
theorem len_27 (nl : Bool) (cs : List AV) (len : Nat) (t : Bool) (σ : Store) : wq tab 27 (.ds nl cs len t) σ = some (.int .i64 len) := rfl
theorem leno_27 (nl : Bool) (sz id ver off len : Nat) (t : Bool) (σ : Store) : wq tab 27 (.os nl sz id ver off len t) σ = some (.int .i64 len) := rfl
theorem sz_28 : sized tab 28 = true := rfl
theorem len_28 (nl : Bool) (cs : List AV) (len : Nat) (t : Bool) (σ : Store) : wq tab 28 (.ds nl cs len t) σ = some (.int .i64 len) := rfl
theorem leno_28 (nl : Bool) (sz id ver off len : Nat) (t : Bool) (σ : Store) : wq tab 28 (.os nl sz id ver off len t) σ = some (.int .i64 len) := rfl
theorem sz_29 : sized tab 29 = true := rfl
theorem len_29 (nl : Bool) (cs : List AV) (len : Nat) (t : Bool) (σ : Store) : wq tab 29 (.ds nl cs len t) σ = some (.int .i64 len) := rfl
theorem leno_29 (nl : Bool) (sz id ver off len : Nat) (t : Bool) (σ : Store) : wq tab 29 (.os nl sz id ver off len t) σ = some (.int .i64 len) := rfl
theorem sz_30 : sized tab 30 = true := rfl
theorem fao_30_0 (id ver off : Nat) : zf tab 30 (.op id ver off) 0 = some (.op id ver (off + 0)) := rfl
theorem fad_30_0 (cs : List AV) (off : Nat) : zf tab 30 (.dp cs off) 0 = some (.dp cs (off + 0)) := rfl
theorem fao_30_1 (id ver off : Nat) : zf tab 30 (.op id ver off) 1 = some (.op id ver (off + 1)) := rfl
theorem fad_30_1 (cs : List AV) (off : Nat) : zf tab 30 (.dp cs off) 1 = some (.dp cs (off + 1)) := rfl
theorem fao_30_2 (id ver off : Nat) : zf tab 30 (.op id ver off) 2 = some (.op id ver (off + 2)) := rfl
theorem fad_30_2 (cs : List AV) (off : Nat) : zf tab 30 (.dp cs off) 2 = some (.dp cs (off + 2)) := rfl
theorem fao_30_3 (id ver off : Nat) : zf tab 30 (.op id ver off) 3 = some (.op id ver (off + 3)) := rfl
theorem fad_30_3 (cs : List AV) (off : Nat) : zf tab 30 (.dp cs off) 3 = some (.dp cs (off + 3)) := rfl
theorem sz_31 : sized tab 31 = true := rfl
theorem fao_31_0 (id ver off : Nat) : zf tab 31 (.op id ver off) 0 = some (.op id ver (off + 0)) := rfl
theorem fad_31_0 (cs : List AV) (off : Nat) : zf tab 31 (.dp cs off) 0 = some (.dp cs (off + 0)) := rfl
theorem fao_31_1 (id ver off : Nat) : zf tab 31 (.op id ver off) 1 = some (.op id ver (off + 1)) := rfl
theorem fad_31_1 (cs : List AV) (off : Nat) : zf tab 31 (.dp cs off) 1 = some (.dp cs (off + 1)) := rfl
theorem fao_31_2 (id ver off : Nat) : zf tab 31 (.op id ver off) 2 = some (.op id ver (off + 2)) := rfl
theorem fad_31_2 (cs : List AV) (off : Nat) : zf tab 31 (.dp cs off) 2 = some (.dp cs (off + 2)) := rfl
theorem fao_31_3 (id ver off : Nat) : zf tab 31 (.op id ver off) 3 = some (.op id ver (off + 3)) := rfl
theorem fad_31_3 (cs : List AV) (off : Nat) : zf tab 31 (.dp cs off) 3 = some (.dp cs (off + 3)) := rfl
theorem sz_32 : sized tab 32 = true := rfl
theorem cd_32 : cellsD tab 20 32 = some [.int .i64, .int .i64, .int .i64, .string] := rfl
theorem fao_32_0 (id ver off : Nat) : zf tab 32 (.op id ver off) 0 = some (.op id ver (off + 0)) := rfl
theorem fad_32_0 (cs : List AV) (off : Nat) : zf tab 32 (.dp cs off) 0 = some (.dp cs (off + 0)) := rfl
theorem fao_32_1 (id ver off : Nat) : zf tab 32 (.op id ver off) 1 = some (.op id ver (off + 1)) := rfl
theorem fad_32_1 (cs : List AV) (off : Nat) : zf tab 32 (.dp cs off) 1 = some (.dp cs (off + 1)) := rfl
theorem fao_32_2 (id ver off : Nat) : zf tab 32 (.op id ver off) 2 = some (.op id ver (off + 2)) := rfl
theorem fad_32_2 (cs : List AV) (off : Nat) : zf tab 32 (.dp cs off) 2 = some (.dp cs (off + 2)) := rfl
theorem fao_32_3 (id ver off : Nat) : zf tab 32 (.op id ver off) 3 = some (.op id ver (off + 3)) := rfl
theorem fad_32_3 (cs : List AV) (off : Nat) : zf tab 32 (.dp cs off) 3 = some (.dp cs (off + 3)) := rfl
theorem sz_33 : sized tab 33 = true := rfl
theorem cd_33 : cellsD tab 20 33 = some [.int .i64, .int .i64, .int .i64, .string] := rfl
theorem fao_33_0 (id ver off : Nat) : zf tab 33 (.op id ver off) 0 = some (.op id ver (off + 0)) := rfl
theorem fad_33_0 (cs : List AV) (off : Nat) : zf tab 33 (.dp cs off) 0 = some (.dp cs (off + 0)) := rfl
theorem fao_33_1 (id ver off : Nat) : zf tab 33 (.op id ver off) 1 = some (.op id ver (off + 1)) := rfl
theorem fad_33_1 (cs : List AV) (off : Nat) : zf tab 33 (.dp cs off) 1 = some (.dp cs (off + 1)) := rfl
theorem fao_33_2 (id ver off : Nat) : zf tab 33 (.op id ver off) 2 = some (.op id ver (off + 2)) := rfl
theorem fad_33_2 (cs : List AV) (off : Nat) : zf tab 33 (.dp cs off) 2 = some (.dp cs (off + 2)) := rfl
theorem fao_33_3 (id ver off : Nat) : zf tab 33 (.op id ver off) 3 = some (.op id ver (off + 3)) := rfl
theorem fad_33_3 (cs : List AV) (off : Nat) : zf tab 33 (.dp cs off) 3 = some (.dp cs (off + 3)) := rfl
theorem sz_35 : sized tab 35 = true := rfl
theorem len_35 (nl : Bool) (cs : List AV) (len : Nat) (t : Bool) (σ : Store) : wq tab 35 (.ds nl cs len t) σ = some (.int .i64 len) := rfl
theorem leno_35 (nl : Bool) (sz id ver off len : Nat) (t : Bool) (σ : Store) : wq tab 35 (.os nl sz id ver off len t) σ = some (.int .i64 len) := rfl
theorem sz_36 : sized tab 36 = true := rfl
theorem cd_36 : cellsD tab 20 36 = cellsD tab 20 2 := rfl
theorem sz_40 : sized tab 40 = true := rfl
theorem len_40 (nl : Bool) (cs : List AV) (len : Nat) (t : Bool) (σ : Store) : wq tab 40 (.ds nl cs len t) σ = some (.int .i64 len) := rfl
theorem leno_40 (nl : Bool) (sz id ver off len : Nat) (t : Bool) (σ : Store) : wq tab 40 (.os nl sz id ver off len t) σ = some (.int .i64 len) := rfl
theorem sz_41 : sized tab 41 = true := rfl
theorem fao_41_0 (id ver off : Nat) : zf tab 41 (.op id ver off) 0 = some (.op id ver (off + 0)) := rfl
theorem fad_41_0 (cs : List AV) (off : Nat) : zf tab 41 (.dp cs off) 0 = some (.dp cs (off + 0)) := rfl
theorem fao_41_1 (id ver off : Nat) : zf tab 41 (.op id ver off) 1 = some (.op id ver (off + 1)) := rfl
theorem fad_41_1 (cs : List AV) (off : Nat) : zf tab 41 (.dp cs off) 1 = some (.dp cs (off + 1)) := rfl
theorem fao_41_2 (id ver off : Nat) : zf tab 41 (.op id ver off) 2 = some (.op id ver (off + 2)) := rfl
theorem fad_41_2 (cs : List AV) (off : Nat) : zf tab 41 (.dp cs off) 2 = some (.dp cs (off + 2)) := rfl
theorem fao_41_3 (id ver off : Nat) : zf tab 41 (.op id ver off) 3 = some (.op id ver (off + 3)) := rfl
theorem fad_41_3 (cs : List AV) (off : Nat) : zf tab 41 (.dp cs off) 3 = some (.dp cs (off + 3)) := rfl
theorem fao_41_4 (id ver off : Nat) : zf tab 41 (.op id ver off) 4 = some (.op id ver (off + 4)) := rfl
theorem fad_41_4 (cs : List AV) (off : Nat) : zf tab 41 (.dp cs off) 4 = some (.dp cs (off + 4)) := rfl
theorem sz_42 : sized tab 42 = true := rfl
theorem fao_42_0 (id ver off : Nat) : zf tab 42 (.op id ver off) 0 = some (.op id ver (off + 0)) := rfl
theorem fad_42_0 (cs : List AV) (off : Nat) : zf tab 42 (.dp cs off) 0 = some (.dp cs (off + 0)) := rfl
theorem fao_42_1 (id ver off : Nat) : zf tab 42 (.op id ver off) 1 = some (.op id ver (off + 1)) := rfl
theorem fad_42_1 (cs : List AV) (off : Nat) : zf tab 42 (.dp cs off) 1 = some (.dp cs (off + 1)) := rfl
theorem fao_42_2 (id ver off : Nat) : zf tab 42 (.op id ver off) 2 = some (.op id ver (off + 2)) := rfl
theorem fad_42_2 (cs : List AV) (off : Nat) : zf tab 42 (.dp cs off) 2 = some (.dp cs (off + 2)) := rfl
theorem fao_42_3 (id ver off : Nat) : zf tab 42 (.op id ver off) 3 = some (.op id ver (off + 3)) := rfl
theorem fad_42_3 (cs : List AV) (off : Nat) : zf tab 42 (.dp cs off) 3 = some (.dp cs (off + 3)) := rfl
theorem fao_42_4 (id ver off : Nat) : zf tab 42 (.op id ver off) 4 = some (.op id ver (off + 4)) := rfl
theorem fad_42_4 (cs : List AV) (off : Nat) : zf tab 42 (.dp cs off) 4 = some (.dp cs (off + 4)) := rfl
theorem sz_49 : sized tab 49 = true := rfl
theorem cd_49 : cellsD tab 20 49 = some [.int .i64, .string] := rfl
theorem fao_49_0 (id ver off : Nat) : zf tab 49 (.op id ver off) 0 = some (.op id ver (off + 0)) := rfl
theorem fad_49_0 (cs : List AV) (off : Nat) : zf tab 49 (.dp cs off) 0 = some (.dp cs (off + 0)) := rfl
theorem fao_49_1 (id ver off : Nat) : zf tab 49 (.op id ver off) 1 = some (.op id ver (off + 1)) := rfl
theorem fad_49_1 (cs : List AV) (off : Nat) : zf tab 49 (.dp cs off) 1 = some (.dp cs (off + 1)) := rfl
theorem sz_50 : sized tab 50 = true := rfl
theorem cd_50 : cellsD tab 20 50 = cellsD tab 20 49 := rfl
theorem fao_50_0 (id ver off : Nat) : zf tab 50 (.op id ver off) 0 = some (.op id ver (off + 0)) := rfl
theorem fad_50_0 (cs : List AV) (off : Nat) : zf tab 50 (.dp cs off) 0 = some (.dp cs (off + 0)) := rfl
theorem fao_50_1 (id ver off : Nat) : zf tab 50 (.op id ver off) 1 = some (.op id ver (off + 1)) := rfl
theorem fad_50_1 (cs : List AV) (off : Nat) : zf tab 50 (.dp cs off) 1 = some (.dp cs (off + 1)) := rfl
theorem sz_51 : sized tab 51 = true := rfl
theorem cd_51 : cellsD tab 20 51 = some [.string, .int .i64, .int .i64, .int .i64, .string] := rfl
theorem fao_51_0 (id ver off : Nat) : zf tab 51 (.op id ver off) 0 = some (.op id ver (off + 0)) := rfl
theorem fad_51_0 (cs : List AV) (off : Nat) : zf tab 51 (.dp cs off) 0 = some (.dp cs (off + 0)) := rfl
theorem fao_51_1 (id ver off : Nat) : zf tab 51 (.op id ver off) 1 = some (.op id ver (off + 1)) := rfl
theorem fad_51_1 (cs : List AV) (off : Nat) : zf tab 51 (.dp cs off) 1 = some (.dp cs (off + 1)) := rfl
theorem fao_51_2 (id ver off : Nat) : zf tab 51 (.op id ver off) 2 = some (.op id ver (off + 2)) := rfl
theorem fad_51_2 (cs : List AV) (off : Nat) : zf tab 51 (.dp cs off) 2 = some (.dp cs (off + 2)) := rfl
theorem fao_51_3 (id ver off : Nat) : zf tab 51 (.op id ver off) 3 = some (.op id ver (off + 3)) := rfl
theorem fad_51_3 (cs : List AV) (off : Nat) : zf tab 51 (.dp cs off) 3 = some (.dp cs (off + 3)) := rfl
theorem sz_52 : sized tab 52 = true := rfl
theorem cd_52 : cellsD tab 20 52 = cellsD tab 20 51 := rfl
theorem fao_52_0 (id ver off : Nat) : zf tab 52 (.op id ver off) 0 = some (.op id ver (off + 0)) := rfl
theorem fad_52_0 (cs : List AV) (off : Nat) : zf tab 52 (.dp cs off) 0 = some (.dp cs (off + 0)) := rfl
theorem fao_52_1 (id ver off : Nat) : zf tab 52 (.op id ver off) 1 = some (.op id ver (off + 1)) := rfl
theorem fad_52_1 (cs : List AV) (off : Nat) : zf tab 52 (.dp cs off) 1 = some (.dp cs (off + 1)) := rfl
theorem fao_52_2 (id ver off : Nat) : zf tab 52 (.op id ver off) 2 = some (.op id ver (off + 2)) := rfl
theorem fad_52_2 (cs : List AV) (off : Nat) : zf tab 52 (.dp cs off) 2 = some (.dp cs (off + 2)) := rfl
theorem fao_52_3 (id ver off : Nat) : zf tab 52 (.op id ver off) 3 = some (.op id ver (off + 3)) := rfl
theorem fad_52_3 (cs : List AV) (off : Nat) : zf tab 52 (.dp cs off) 3 = some (.dp cs (off + 3)) := rfl
theorem sz_59 : sized tab 59 = true := rfl
theorem len_59 (nl : Bool) (cs : List AV) (len : Nat) (t : Bool) (σ : Store) : wq tab 59 (.ds nl cs len t) σ = some (.int .i64 len) := rfl
theorem leno_59 (nl : Bool) (sz id ver off len : Nat) (t : Bool) (σ : Store) : wq tab 59 (.os nl sz id ver off len t) σ = some (.int .i64 len) := rfl
theorem sz_60 : sized tab 60 = true := rfl
theorem fao_60_0 (id ver off : Nat) : zf tab 60 (.op id ver off) 0 = some (.op id ver (off + 0)) := rfl
theorem fad_60_0 (cs : List AV) (off : Nat) : zf tab 60 (.dp cs off) 0 = some (.dp cs (off + 0)) := rfl
theorem fao_60_1 (id ver off : Nat) : zf tab 60 (.op id ver off) 1 = some (.op id ver (off + 1)) := rfl
theorem fad_60_1 (cs : List AV) (off : Nat) : zf tab 60 (.dp cs off) 1 = some (.dp cs (off + 1)) := rfl
theorem sz_61 : sized tab 61 = true := rfl
theorem fao_61_0 (id ver off : Nat) : zf tab 61 (.op id ver off) 0 = some (.op id ver (off + 0)) := rfl
theorem fad_61_0 (cs : List AV) (off : Nat) : zf tab 61 (.dp cs off) 0 = some (.dp cs (off + 0)) := rfl
theorem fao_61_1 (id ver off : Nat) : zf tab 61 (.op id ver off) 1 = some (.op id ver (off + 1)) := rfl
theorem fad_61_1 (cs : List AV) (off : Nat) : zf tab 61 (.dp cs off) 1 = some (.dp cs (off + 1)) := rfl
theorem sz_63 : sized tab 63 = true := rfl
theorem cd_63 : cellsD tab 20 63 = some [.int .i64, .int .i64, .int .i64, .int .i64, .int .i64, .string, .int .i64, .string] := rfl
theorem fao_63_0 (id ver off : Nat) : zf tab 63 (.op id ver off) 0 = some (.op id ver (off + 0)) := rfl
theorem fad_63_0 (cs : List AV) (off : Nat) : zf tab 63 (.dp cs off) 0 = some (.dp cs (off + 0)) := rfl
theorem fao_63_1 (id ver off : Nat) : zf tab 63 (.op id ver off) 1 = some (.op id ver (off + 1)) := rfl
theorem fad_63_1 (cs : List AV) (off : Nat) : zf tab 63 (.dp cs off) 1 = some (.dp cs (off + 1)) := rfl
theorem fao_63_2 (id ver off : Nat) : zf tab 63 (.op id ver off) 2 = some (.op id ver (off + 2)) := rfl
theorem fad_63_2 (cs : List AV) (off : Nat) : zf tab 63 (.dp cs off) 2 = some (.dp cs (off + 2)) := rfl
theorem fao_63_3 (id ver off : Nat) : zf tab 63 (.op id ver off) 3 = some (.op id ver (off + 3)) := rfl
theorem fad_63_3 (cs : List AV) (off : Nat) : zf tab 63 (.dp cs off) 3 = some (.dp cs (off + 3)) := rfl
theorem fao_63_4 (id ver off : Nat) : zf tab 63 (.op id ver off) 4 = some (.op id ver (off + 4)) := rfl
theorem fad_63_4 (cs : List AV) (off : Nat) : zf tab 63 (.dp cs off) 4 = some (.dp cs (off + 4)) := rfl
theorem fao_63_5 (id ver off : Nat) : zf tab 63 (.op id ver off) 5 = some (.op id ver (off + 5)) := rfl
theorem fad_63_5 (cs : List AV) (off : Nat) : zf tab 63 (.dp cs off) 5 = some (.dp cs (off + 5)) := rfl
theorem fao_63_6 (id ver off : Nat) : zf tab 63 (.op id ver off) 6 = some (.op id ver (off + 6)) := rfl
theorem fad_63_6 (cs : List AV) (off : Nat) : zf tab 63 (.dp cs off) 6 = some (.dp cs (off + 6)) := rfl
theorem fao_63_7 (id ver off : Nat) : zf tab 63 (.op id ver off) 7 = some (.op id ver (off + 7)) := rfl
theorem fad_63_7 (cs : List AV) (off : Nat) : zf tab 63 (.dp cs off) 7 = some (.dp cs (off + 7)) := rfl
theorem sz_64 : sized tab 64 = true := rfl
theorem cd_64 : cellsD tab 20 64 = cellsD tab 20 63 := rfl
theorem fao_64_0 (id ver off : Nat) : zf tab 64 (.op id ver off) 0 = some (.op id ver (off + 0)) := rfl
theorem fad_64_0 (cs : List AV) (off : Nat) : zf tab 64 (.dp cs off) 0 = some (.dp cs (off + 0)) := rfl
theorem fao_64_1 (id ver off : Nat) : zf tab 64 (.op id ver off) 1 = some (.op id ver (off + 1)) := rfl
theorem fad_64_1 (cs : List AV) (off : Nat) : zf tab 64 (.dp cs off) 1 = some (.dp cs (off + 1)) := rfl
theorem fao_64_2 (id ver off : Nat) : zf tab 64 (.op id ver off) 2 = some (.op id ver (off + 2)) := rfl
theorem fad_64_2 (cs : List AV) (off : Nat) : zf tab 64 (.dp cs off) 2 = some (.dp cs (off + 2)) := rfl
theorem fao_64_3 (id ver off : Nat) : zf tab 64 (.op id ver off) 3 = some (.op id ver (off + 3)) := rfl
theorem fad_64_3 (cs : List AV) (off : Nat) : zf tab 64 (.dp cs off) 3 = some (.dp cs (off + 3)) := rfl
theorem fao_64_4 (id ver off : Nat) : zf tab 64 (.op id ver off) 4 = some (.op id ver (off + 4)) := rfl
theorem fad_64_4 (cs : List AV) (off : Nat) : zf tab 64 (.dp cs off) 4 = some (.dp cs (off + 4)) := rfl
theorem fao_64_5 (id ver off : Nat) : zf tab 64 (.op id ver off) 5 = some (.op id ver (off + 5)) := rfl
theorem fad_64_5 (cs : List AV) (off : Nat) : zf tab 64 (.dp cs off) 5 = some (.dp cs (off + 5)) := rfl
theorem fao_64_6 (id ver off : Nat) : zf tab 64 (.op id ver off) 6 = some (.op id ver (off + 6)) := rfl
theorem fad_64_6 (cs : List AV) (off : Nat) : zf tab 64 (.dp cs off) 6 = some (.dp cs (off + 6)) := rfl
theorem fao_64_7 (id ver off : Nat) : zf tab 64 (.op id ver off) 7 = some (.op id ver (off + 7)) := rfl
theorem fad_64_7 (cs : List AV) (off : Nat) : zf tab 64 (.dp cs off) 7 = some (.dp cs (off + 7)) := rfl
theorem sz_72 : sized tab 72 = true := rfl
theorem cd_72 : cellsD tab 20 72 = some [.string, .string, .string] := rfl
theorem fao_72_0 (id ver off : Nat) : zf tab 72 (.op id ver off) 0 = some (.op id ver (off + 0)) := rfl
theorem fad_72_0 (cs : List AV) (off : Nat) : zf tab 72 (.dp cs off) 0 = some (.dp cs (off + 0)) := rfl
theorem fao_72_1 (id ver off : Nat) : zf tab 72 (.op id ver off) 1 = some (.op id ver (off + 1)) := rfl
theorem fad_72_1 (cs : List AV) (off : Nat) : zf tab 72 (.dp cs off) 1 = some (.dp cs (off + 1)) := rfl
theorem fao_72_2 (id ver off : Nat) : zf tab 72 (.op id ver off) 2 = some (.op id ver (off + 2)) := rfl
theorem fad_72_2 (cs : List AV) (off : Nat) : zf tab 72 (.dp cs off) 2 = some (.dp cs (off + 2)) := rfl
theorem sz_73 : sized tab 73 = true := rfl
theorem cd_73 : cellsD tab 20 73 = cellsD tab 20 72 := rfl
theorem fao_73_0 (id ver off : Nat) : zf tab 73 (.op id ver off) 0 = some (.op id ver (off + 0)) := rfl
theorem fad_73_0 (cs : List AV) (off : Nat) : zf tab 73 (.dp cs off) 0 = some (.dp cs (off + 0)) := rfl
theorem fao_73_1 (id ver off : Nat) : zf tab 73 (.op id ver off) 1 = some (.op id ver (off + 1)) := rfl
theorem fad_73_1 (cs : List AV) (off : Nat) : zf tab 73 (.dp cs off) 1 = some (.dp cs (off + 1)) := rfl
theorem fao_73_2 (id ver off : Nat) : zf tab 73 (.op id ver off) 2 = some (.op id ver (off + 2)) := rfl
theorem fad_73_2 (cs : List AV) (off : Nat) : zf tab 73 (.dp cs off) 2 = some (.dp cs (off + 2)) := rfl
theorem sz_75 : sized tab 75 = true := rfl
theorem len_75 (nl : Bool) (cs : List AV) (len : Nat) (t : Bool) (σ : Store) : wq tab 75 (.ds nl cs len t) σ = some (.int .i64 len) := rfl
theorem leno_75 (nl : Bool) (sz id ver off len : Nat) (t : Bool) (σ : Store) : wq tab 75 (.os nl sz id ver off len t) σ = some (.int .i64 len) := rfl
theorem sz_85 : sized tab 85 = true := rfl
theorem cd_85 : cellsD tab 20 85 = some [.int .u64] := rfl
theorem sz_88 : sized tab 88 = true := rfl
theorem len_88 (nl : Bool) (cs : List AV) (len : Nat) (t : Bool) (σ : Store) : wq tab 88 (.ds nl cs len t) σ = some (.int .i64 len) := rfl
theorem leno_88 (nl : Bool) (sz id ver off len : Nat) (t : Bool) (σ : Store) : wq tab 88 (.os nl sz id ver off len t) σ = some (.int .i64 len) := rfl
theorem sz_89 : sized tab 89 = true := rfl
theorem fao_89_0 (id ver off : Nat) : zf tab 89 (.op id ver off) 0 = some (.op id ver (off + 0)) := rfl
theorem fad_89_0 (cs : List AV) (off : Nat) : zf tab 89 (.dp cs off) 0 = some (.dp cs (off + 0)) := rfl
theorem fao_89_1 (id ver off : Nat) : zf tab 89 (.op id ver off) 1 = some (.op id ver (off + 1)) := rfl
theorem fad_89_1 (cs : List AV) (off : Nat) : zf tab 89 (.dp cs off) 1 = some (.dp cs (off + 1)) := rfl
theorem sz_90 : sized tab 90 = true := rfl
theorem fao_90_0 (id ver off : Nat) : zf tab 90 (.op id ver off) 0 = some (.op id ver (off + 0)) := rfl
theorem fad_90_0 (cs : List AV) (off : Nat) : zf tab 90 (.dp cs off) 0 = some (.dp cs (off + 0)) := rfl
theorem fao_90_1 (id ver off : Nat) : zf tab 90 (.op id ver off) 1 = some (.op id ver (off + 1)) := rfl
theorem fad_90_1 (cs : List AV) (off : Nat) : zf tab 90 (.dp cs off) 1 = some (.dp cs (off + 1)) := rfl
theorem sz_91 : sized tab 91 = true := rfl
theorem cd_91 : cellsD tab 20 91 = some [.string, .int .i64] := rfl
theorem fao_91_0 (id ver off : Nat) : zf tab 91 (.op id ver off) 0 = some (.op id ver (off + 0)) := rfl
theorem fad_91_0 (cs : List AV) (off : Nat) : zf tab 91 (.dp cs off) 0 = some (.dp cs (off + 0)) := rfl
theorem fao_91_1 (id ver off : Nat) : zf tab 91 (.op id ver off) 1 = some (.op id ver (off + 1)) := rfl
theorem fad_91_1 (cs : List AV) (off : Nat) : zf tab 91 (.dp cs off) 1 = some (.dp cs (off + 1)) := rfl
theorem sz_92 : sized tab 92 = true := rfl
theorem cd_92 : cellsD tab 20 92 = cellsD tab 20 91 := rfl
theorem fao_92_0 (id ver off : Nat) : zf tab 92 (.op id ver off) 0 = some (.op id ver (off + 0)) := rfl
theorem fad_92_0 (cs : List AV) (off : Nat) : zf tab 92 (.dp cs off) 0 = some (.dp cs (off + 0)) := rfl
theorem fao_92_1 (id ver off : Nat) : zf tab 92 (.op id ver off) 1 = some (.op id ver (off + 1)) := rfl
theorem fad_92_1 (cs : List AV) (off : Nat) : zf tab 92 (.dp cs off) 1 = some (.dp cs (off + 1)) := rfl
theorem sz_94 : sized tab 94 = true := rfl
theorem len_94 (nl : Bool) (cs : List AV) (len : Nat) (t : Bool) (σ : Store) : wq tab 94 (.ds nl cs len t) σ = some (.int .i64 len) := rfl
theorem leno_94 (nl : Bool) (sz id ver off len : Nat) (t : Bool) (σ : Store) : wq tab 94 (.os nl sz id ver off len t) σ = some (.int .i64 len) := rfl
theorem sz_100 : sized tab 100 = true := rfl
theorem sz_104 : sized tab 104 = true := rfl
theorem sz_105 : sized tab 105 = true := rfl
theorem sz_113 : sized tab 113 = true := rfl
theorem sz_115 : sized tab 115 = true := rfl
theorem sz_116 : sized tab 116 = true := rfl
theorem cd_116 : cellsD tab 20 116 = cellsD tab 20 85 := rfl
theorem sz_117 : sized tab 117 = true := rfl
theorem len_117 (nl : Bool) (cs : List AV) (len : Nat) (t : Bool) (σ : Store) : wq tab 117 (.ds nl cs len t) σ = some (.int .i64 len) := rfl
theorem leno_117 (nl : Bool) (sz id ver off len : Nat) (t : Bool) (σ : Store) : wq tab 117 (.os nl sz id ver off len t) σ = some (.int .i64 len) := rfl
theorem sz_124 : sized tab 124 = true := rfl
theorem sz_125 : sized tab 125 = true := rfl
theorem sz_126 : sized tab 126 = true := rfl
theorem fao_126_0 (id ver off : Nat) : zf tab 126 (.op id ver off) 0 = some (.op id ver (off + 0)) := rfl
theorem fad_126_0 (cs : List AV) (off : Nat) : zf tab 126 (.dp cs off) 0 = some (.dp cs (off + 0)) := rfl
theorem sz_127 : sized tab 127 = true := rfl
theorem fao_127_0 (id ver off : Nat) : zf tab 127 (.op id ver off) 0 = some (.op id ver (off + 0)) := rfl
theorem fad_127_0 (cs : List AV) (off : Nat) : zf tab 127 (.dp cs off) 0 = some (.dp cs (off + 0)) := rfl
theorem sz_131 : sized tab 131 = true := rfl
theorem sz_134 : sized tab 134 = true := rfl
theorem sz_141 : sized tab 141 = true := rfl
theorem sz_143 : sized tab 143 = true := rfl
theorem sz_155 : sized tab 155 = true := rfl
theorem len_155 (nl : Bool) (cs : List AV) (len : Nat) (t : Bool) (σ : Store) : wq tab 155 (.ds nl cs len t) σ = some (.int .i64 len) := rfl
theorem leno_155 (nl : Bool) (sz id ver off len : Nat) (t : Bool) (σ : Store) : wq tab 155 (.os nl sz id ver off len t) σ = some (.int .i64 len) := rfl
theorem sz_172 : sized tab 172 = true := rfl
theorem len_172 (nl : Bool) (cs : List AV) (len : Nat) (t : Bool) (σ : Store) : wq tab 172 (.ds nl cs len t) σ = some (.int .i64 len) := rfl
theorem leno_172 (nl : Bool) (sz id ver off len : Nat) (t : Bool) (σ : Store) : wq tab 172 (.os nl sz id ver off len t) σ = some (.int .i64 len) := rfl
theorem sz_173 : sized tab 173 = true := rfl
theorem fao_173_0 (id ver off : Nat) : zf tab 173 (.op id ver off) 0 = some (.op id ver (off + 0)) := rfl
theorem fad_173_0 (cs : List AV) (off : Nat) : zf tab 173 (.dp cs off) 0 = some (.dp cs (off + 0)) := rfl
theorem fao_173_1 (id ver off : Nat) : zf tab 173 (.op id ver off) 1 = some (.op id ver (off + 1)) := rfl
theorem fad_173_1 (cs : List AV) (off : Nat) : zf tab 173 (.dp cs off) 1 = some (.dp cs (off + 1)) := rfl
theorem sz_174 : sized tab 174 = true := rfl
theorem fao_174_0 (id ver off : Nat) : zf tab 174 (.op id ver off) 0 = some (.op id ver (off + 0)) := rfl
theorem fad_174_0 (cs : List AV) (off : Nat) : zf tab 174 (.dp cs off) 0 = some (.dp cs (off + 0)) := rfl
theorem fao_174_1 (id ver off : Nat) : zf tab 174 (.op id ver off) 1 = some (.op id ver (off + 1)) := rfl
theorem fad_174_1 (cs : List AV) (off : Nat) : zf tab 174 (.dp cs off) 1 = some (.dp cs (off + 1)) := rfl
theorem sz_175 : sized tab 175 = true := rfl
theorem fao_175_0 (id ver off : Nat) : zf tab 175 (.op id ver off) 0 = some (.op id ver (off + 0)) := rfl
theorem fad_175_0 (cs : List AV) (off : Nat) : zf tab 175 (.dp cs off) 0 = some (.dp cs (off + 0)) := rfl
theorem fao_175_1 (id ver off : Nat) : zf tab 175 (.op id ver off) 1 = some (.op id ver (off + 1)) := rfl
theorem fad_175_1 (cs : List AV) (off : Nat) : zf tab 175 (.dp cs off) 1 = some (.dp cs (off + 1)) := rfl
theorem sz_176 : sized tab 176 = true := rfl
theorem fao_176_0 (id ver off : Nat) : zf tab 176 (.op id ver off) 0 = some (.op id ver (off + 0)) := rfl
theorem fad_176_0 (cs : List AV) (off : Nat) : zf tab 176 (.dp cs off) 0 = some (.dp cs (off + 0)) := rfl
theorem fao_176_1 (id ver off : Nat) : zf tab 176 (.op id ver off) 1 = some (.op id ver (off + 1)) := rfl
theorem fad_176_1 (cs : List AV) (off : Nat) : zf tab 176 (.dp cs off) 1 = some (.dp cs (off + 1)) := rfl
theorem sz_182 : sized tab 182 = true := rfl
theorem cd_182 : cellsD tab 20 182 = cellsD tab 20 2 := rfl
theorem sz_183 : sized tab 183 = true := rfl
theorem cd_183 : cellsD tab 20 183 = cellsD tab 20 9 := rfl
theorem len_183 (s : List UInt8) (σ : Store) : wq tab 183 (.str s) σ = some (.int .i64 s.length) := rfl
theorem sz_191 : sized tab 191 = true := rfl
theorem cd_191 : cellsD tab 20 191 = some [.int .u8, .int .u8] := rfl
theorem fao_191_0 (id ver off : Nat) : zf tab 191 (.op id ver off) 0 = some (.op id ver (off + 0)) := rfl
theorem fad_191_0 (cs : List AV) (off : Nat) : zf tab 191 (.dp cs off) 0 = some (.dp cs (off + 0)) := rfl
theorem fao_191_1 (id ver off : Nat) : zf tab 191 (.op id ver off) 1 = some (.op id ver (off + 1)) := rfl
theorem fad_191_1 (cs : List AV) (off : Nat) : zf tab 191 (.dp cs off) 1 = some (.dp cs (off + 1)) := rfl
theorem sz_192 : sized tab 192 = true := rfl
theorem cd_192 : cellsD tab 20 192 = cellsD tab 20 191 := rfl
theorem fao_192_0 (id ver off : Nat) : zf tab 192 (.op id ver off) 0 = some (.op id ver (off + 0)) := rfl
theorem fad_192_0 (cs : List AV) (off : Nat) : zf tab 192 (.dp cs off) 0 = some (.dp cs (off + 0)) := rfl
theorem fao_192_1 (id ver off : Nat) : zf tab 192 (.op id ver off) 1 = some (.op id ver (off + 1)) := rfl
theorem fad_192_1 (cs : List AV) (off : Nat) : zf tab 192 (.dp cs off) 1 = some (.dp cs (off + 1)) := rfl
theorem sz_193 : sized tab 193 = true := rfl
theorem cd_193 : cellsD tab 20 193 = some [.int .u8, .int .u8, .int .u8, .int .u8, .int .u8, .int .u8, .int .u8, .int .u8, .int .u8, .int .u8, .int .u8, .int .u8, .int .u8, .int .u8, .int .u8, .int .u8, .int .u8, .int .u8, .int .u8, .int .u8, .int .u8, .int .u8, .int .u8, .int .u8, .int .u8, .int .u8, .int .u8, .int .u8, .int .u8, .int .u8, .int .u8, .int .u8] := rfl
attribute [go_sem] tab_1 tab_2 tab_3 tab_4 tab_5 tab_9 tab_20 tab_21 tab_22 tab_23 tab_24 tab_25 tab_26 tab_27 tab_28 tab_29 tab_30 tab_31 tab_32 tab_33 tab_35 tab_36 Yy tab_41 tab_42 tab_49 tab_50 tab_51 tab_52 tab_59 tab_60 Yx tab_63 tab_64 tab_72 tab_73 tab_75 tab_85 tab_88 tab_89
attribute [go_sem] tab_90 tab_91 tab_92 tab_94 tab_100 tab_104 tab_105 tab_113 tab_115 tab_116 tab_117 tab_124 tab_125 tab_126 tab_127 tab_131 tab_134 tab_141 tab_143 tab_155 tab_172 tab_173 tab_174 tab_175 tab_176 tab_182 tab_183 tab_191 tab_192 tab_193 sz_1 sz_2 cd_2 sz_3 cd_3 sz_4 cd_4 sz_5 cd_5 sz_9
attribute [go_sem] cd_9 len_9 sz_20 sz_21 cd_21 sz_22 len_22 leno_22 sz_23 len_23 leno_23 sz_24 len_24 leno_24 sz_25 fao_25_0 fad_25_0 fao_25_1 fad_25_1 fao_25_2 fad_25_2 sz_26 fao_26_0 fad_26_0 fao_26_1 fad_26_1 fao_26_2 fad_26_2 sz_27 len_27 leno_27 sz_28 len_28 leno_28 sz_29 len_29 leno_29 sz_30 fao_30_0 fad_30_0
attribute [go_sem] fao_30_1 fad_30_1 fao_30_2 fad_30_2 fao_30_3 fad_30_3 sz_31 fao_31_0 fad_31_0 fao_31_1 fad_31_1 fao_31_2 fad_31_2 fao_31_3 fad_31_3 sz_32 cd_32 fao_32_0 fad_32_0 fao_32_1 fad_32_1 fao_32_2 fad_32_2 fao_32_3 fad_32_3 sz_33 cd_33 fao_33_0 fad_33_0 fao_33_1 fad_33_1 fao_33_2 fad_33_2 fao_33_3 fad_33_3 sz_35 len_35 leno_35 sz_36 cd_36
attribute [go_sem] sz_40 len_40 leno_40 sz_41 fao_41_0 fad_41_0 fao_41_1 fad_41_1 fao_41_2 fad_41_2 fao_41_3 fad_41_3 fao_41_4 fad_41_4 sz_42 fao_42_0 fad_42_0 fao_42_1 fad_42_1 fao_42_2 fad_42_2 fao_42_3 fad_42_3 fao_42_4 fad_42_4 sz_49 cd_49 fao_49_0 fad_49_0 fao_49_1 fad_49_1 sz_50 cd_50 fao_50_0 fad_50_0 fao_50_1 fad_50_1 sz_51 cd_51 fao_51_0
attribute [go_sem] fad_51_0 fao_51_1 fad_51_1 fao_51_2 fad_51_2 fao_51_3 fad_51_3 sz_52 cd_52 fao_52_0 fad_52_0 fao_52_1 fad_52_1 fao_52_2 fad_52_2 fao_52_3 fad_52_3 sz_59 len_59 leno_59 sz_60 fao_60_0 fad_60_0 fao_60_1 fad_60_1 sz_61 fao_61_0 fad_61_0 fao_61_1 fad_61_1 sz_63 cd_63 fao_63_0 fad_63_0 fao_63_1 fad_63_1 fao_63_2 fad_63_2 fao_63_3 fad_63_3
attribute [go_sem] fao_63_4 fad_63_4 fao_63_5 fad_63_5 fao_63_6 fad_63_6 fao_63_7 fad_63_7 sz_64 cd_64 fao_64_0 fad_64_0 fao_64_1 fad_64_1 fao_64_2 fad_64_2 fao_64_3 fad_64_3 fao_64_4 fad_64_4 fao_64_5 fad_64_5 fao_64_6 fad_64_6 fao_64_7 fad_64_7 sz_72 cd_72 fao_72_0 fad_72_0 fao_72_1 fad_72_1 fao_72_2 fad_72_2 sz_73 cd_73 fao_73_0 fad_73_0 fao_73_1 fad_73_1
attribute [go_sem] fao_73_2 fad_73_2 sz_75 len_75 leno_75 sz_85 cd_85 sz_88 len_88 leno_88 sz_89 fao_89_0 fad_89_0 fao_89_1 fad_89_1 sz_90 fao_90_0 fad_90_0 fao_90_1 fad_90_1 sz_91 cd_91 fao_91_0 fad_91_0 fao_91_1 fad_91_1 sz_92 cd_92 fao_92_0 fad_92_0 fao_92_1 fad_92_1 sz_94 len_94 leno_94 sz_100 sz_104 sz_105 sz_113 sz_115
attribute [go_sem] sz_116 cd_116 sz_117 len_117 leno_117 sz_124 sz_125 sz_126 fao_126_0 fad_126_0 sz_127 fao_127_0 fad_127_0 sz_131 sz_134 sz_141 sz_143 sz_155 len_155 leno_155 sz_172 len_172 leno_172 sz_173 fao_173_0 fad_173_0 fao_173_1 fad_173_1 sz_174 fao_174_0 fad_174_0 fao_174_1 fad_174_1 sz_175 fao_175_0 fad_175_0 fao_175_1 fad_175_1 sz_176 fao_176_0
attribute [go_sem] fad_176_0 fao_176_1 fad_176_1 sz_182 cd_182 sz_183 cd_183 len_183 sz_191 cd_191 fao_191_0 fad_191_0 fao_191_1 fad_191_1 sz_192 cd_192 fao_192_0 fad_192_0 fao_192_1 fad_192_1 sz_193 cd_193
end
section
open AM
structure GRaw where
 fTag : Int
 fWire : Int
 fN : Int
 fB : List UInt8
 deriving DecidableEq
def encGRaw (x : GRaw) : List AV := [.int .i64 x.fTag, .int .i64 x.fWire, .int .i64 x.fN, .str x.fB]
instance : wa encGRaw := ⟨fun _ _ => rfl⟩
instance : OneE encGRaw := ⟨fun _ => rfl⟩
instance : LenE encGRaw 4 := ⟨fun _ => rfl⟩
mutual
inductive GTree where
 | mk (fKind fN : Int) (fS : List UInt8) (fEntries : List GEntry) (fRest : List GRaw)
inductive GEntry where
 | mk (fTag : Int) (fTrees : List GTree)
end
def GTree.fKind : GTree → Int | .mk a _ _ _ _ => a
def GTree.fN : GTree → Int | .mk _ a _ _ _ => a
def GTree.fS : GTree → List UInt8 | .mk _ _ a _ _ => a
def GTree.fEntries : GTree → List GEntry | .mk _ _ _ a _ => a
def GTree.fRest : GTree → List GRaw | .mk _ _ _ _ a => a
def GEntry.fTag : GEntry → Int | .mk a _ => a
def GEntry.fTrees : GEntry → List GTree | .mk _ a => a
mutual
def encGTree : GTree → List AV
 | .mk k n s es rs => [.int .i64 k, .int .i64 n, .str s, .ds true (encGEntryL es) (qc es) false, .ds true (qg encGRaw rs) (qc rs) false]
def encGEntry : GEntry → List AV
 | .mk t ts => [.int .i64 t, .ds true (encGTreeL ts) (qc ts) false]
def encGEntryL : List GEntry → List AV
 | [] => []
 | e :: l => encGEntry e ++ encGEntryL l
def encGTreeL : List GTree → List AV
 | [] => []
 | e :: l => encGTree e ++ encGTreeL l
end
theorem encGEntryL_eq (l : List GEntry) : encGEntryL l = qg encGEntry l := by
 induction l with
 | nil => rfl
 | cons e l ih => rw [encGEntryL, ih]; rfl
theorem encGTreeL_eq (l : List GTree) : encGTreeL l = qg encGTree l := by
 induction l with
 | nil => rfl
 | cons e l ih => rw [encGTreeL, ih]; rfl
abbrev cellsGTree (x : GTree) : List AV := [.int .i64 x.fKind, .int .i64 x.fN, .str x.fS, .ds true (qg encGEntry x.fEntries) (qc x.fEntries) false, .ds true (qg encGRaw x.fRest) (qc x.fRest) false]
abbrev cellsGEntry (x : GEntry) : List AV := [.int .i64 x.fTag, .ds true (qg encGTree x.fTrees) (qc x.fTrees) false]
theorem xB (x : GTree) : encGTree x = cellsGTree x := by
 cases x; rw [encGTree, encGEntryL_eq]; rfl
theorem yY (x : GEntry) : encGEntry x = cellsGEntry x := by
 cases x; rw [encGEntry, encGTreeL_eq]; rfl
mutual
theorem X7 (s : Bool) : ∀ x : GTree, canonL s (encGTree x) = true
 | .mk k n t es rs => by
  simp only [encGTree, canonL, AV.canon, vag s es, canon_all, qS, qI, qW]
theorem Xm (s : Bool) : ∀ x : GEntry, canonL s (encGEntry x) = true
 | .mk t ts => by simp only [encGEntry, canonL, AV.canon, vbo s ts, qS, qI, qW]
theorem vag (s : Bool) : ∀ l : List GEntry, canonL s (encGEntryL l) = true
 | [] => rfl
 | e :: l => by rw [encGEntryL, canonL_append, Xm s e, vag s l]; rfl
theorem vbo (s : Bool) : ∀ l : List GTree, canonL s (encGTreeL l) = true
 | [] => rfl
 | e :: l => by rw [encGTreeL, canonL_append, X7 s e, vbo s l]; rfl
end
instance : wa encGTree := ⟨X7⟩
instance : wa encGEntry := ⟨Xm⟩
instance : wa cellsGTree := ⟨fun s x => by rw [← xB]; exact X7 s x⟩
instance : wa cellsGEntry := ⟨fun s x => by rw [← yY]; exact Xm s x⟩
instance : OneE encGTree := ⟨fun x => by rw [xB]; rfl⟩
instance : OneE encGEntry := ⟨fun x => by rw [yY]; rfl⟩
instance : LenE encGTree 5 := ⟨fun x => by rw [xB]; rfl⟩
instance : LenE encGEntry 2 := ⟨fun x => by rw [yY]; rfl⟩
mutual
inductive GValueValue where
 | nil
 | num (n : Int)
 | str (s : List UInt8)
 | node (es : List GValueEntry) (rs : List GRaw)
inductive GValueEntry where
 | mk (ftag : Int) (fl : List GValueValue)
end
def GValueEntry.ftag : GValueEntry → Int | .mk a _ => a
def GValueEntry.fl : GValueEntry → List GValueValue | .mk _ a => a
structure GValueNode where
 fentries : List GValueEntry
 frest : List GRaw
mutual
def ifcV : GValueValue → AV
 | .nil => .nilI
 | .num n => .ifc 182 (.int .i64 n)
 | .str s => .ifc 183 (.str s)
 | .node es rs => .ifc 131 (.dp [.ds true (encGValueEntryL es) (qc es) false, .ds true (qg encGRaw rs) (qc rs) false] 0)
def encGValueEntry : GValueEntry → List AV
 | .mk t l => [.int .i64 t, .ds true (encGValueValueL l) (qc l) false]
def encGValueEntryL : List GValueEntry → List AV
 | [] => []
 | e :: l => encGValueEntry e ++ encGValueEntryL l
def encGValueValueL : List GValueValue → List AV
 | [] => []
 | e :: l => ifcV e :: encGValueValueL l
end
def encGValueValue (v : GValueValue) : List AV := [ifcV v]
theorem XF (l : List GValueEntry) : encGValueEntryL l = qg encGValueEntry l := by
 induction l with
 | nil => rfl
 | cons e l ih => rw [encGValueEntryL, ih]; rfl
theorem XE (l : List GValueValue) : encGValueValueL l = qg encGValueValue l := by
 induction l with
 | nil => rfl
 | cons e l ih => rw [encGValueValueL, ih]; rfl
abbrev cellsGValueEntry (x : GValueEntry) : List AV := [.int .i64 x.ftag, .ds true (qg encGValueValue x.fl) (qc x.fl) false]
theorem xr (x : GValueEntry) : encGValueEntry x = cellsGValueEntry x := by
 cases x; rw [encGValueEntry, XE]; rfl
abbrev encGValueNode (x : GValueNode) : List AV := [.ds true (qg encGValueEntry x.fentries) (qc x.fentries) false, .ds true (qg encGRaw x.frest) (qc x.frest) false]
theorem vaC : ifcV .nil = .nilI := by rw [ifcV]
theorem vaB {n : Int} : ifcV (.num n) = .ifc 182 (.int .i64 n) := by rw [ifcV]
theorem vaA {s : List UInt8} : ifcV (.str s) = .ifc 183 (.str s) := by rw [ifcV]
theorem YQ {es : List GValueEntry} {rs : List GRaw} : ifcV (.node es rs) = .ifc 131 (.dp [.ds true (qg encGValueEntry es) (qc es) false, .ds true (qg encGRaw rs) (qc rs) false] 0) := by
 rw [ifcV, XF]
mutual
theorem Yh (s : Bool) : ∀ x : GValueValue, (ifcV x).canon s = true
 | .nil => by simp only [ifcV, AV.canon]
 | .num n => by simp only [ifcV, AV.canon]
 | .str n => by simp only [ifcV, AV.canon]
 | .node es rs => by simp only [ifcV, AV.canon, canonL, Yj s es, canon_all, qS, qI, qW]
theorem Zo (s : Bool) : ∀ x : GValueEntry, canonL s (encGValueEntry x) = true
 | .mk t ts => by simp only [encGValueEntry, canonL, AV.canon, Yi s ts, qS, qI, qW]
theorem Yj (s : Bool) : ∀ l : List GValueEntry, canonL s (encGValueEntryL l) = true
 | [] => rfl
 | e :: l => by rw [encGValueEntryL, canonL_append, Zo s e, Yj s l]; rfl
theorem Yi (s : Bool) : ∀ l : List GValueValue, canonL s (encGValueValueL l) = true
 | [] => rfl
 | e :: l => by rw [encGValueValueL, canonL, Yh s e, Yi s l]; rfl
end
theorem Zb (x : GValueValue) : (ifcV x).one = true := by cases x <;> simp only [ifcV, AV.one]
instance : XK ifcV := ⟨Yh⟩
theorem tell_ifcV {σ : Store} {keep : List Nat} {ls : Bool} {f : Nat} {x : GValueValue} : tell σ keep ls f (ifcV x) = ifcV x := ZR _ _ _ _ _ (Yh ls x)
instance : wa encGValueValue := ⟨fun s x => by simp only [encGValueValue, canonL, Yh, qS]⟩
instance : wa encGValueEntry := ⟨Zo⟩
instance : wa cellsGValueEntry := ⟨fun s x => by rw [← xr]; exact Zo s x⟩
theorem YY (s : Bool) (x : GValueNode) : canonL s (encGValueNode x) = true := by simp only [encGValueNode, canonL, AV.canon, canon_all, qS, qI, qW]
instance : wa encGValueNode := ⟨YY⟩
instance : OneE encGValueValue := ⟨fun x => by simp only [encGValueValue, qZ, Zb, uf, qS]⟩
instance : OneE encGValueEntry := ⟨fun x => by rw [xr]; rfl⟩
instance : OneE encGValueNode := ⟨fun x => rfl⟩
instance : LenE encGValueValue 1 := ⟨fun x => rfl⟩
instance : LenE encGValueEntry 2 := ⟨fun x => by rw [xr]; rfl⟩
instance : LenE encGValueNode 2 := ⟨fun x => rfl⟩
def anyV : GValueValue → AV
 | .nil => .nilI
 | .num n => .ifc 3 (.int .i64 n)
 | .str s => .ifc 9 (.str s)
 | .node es rs => ifcV (.node es rs)
theorem anyV_nil : anyV .nil = .nilI := rfl
theorem anyV_num {n : Int} : anyV (.num n) = .ifc 3 (.int .i64 n) := rfl
theorem anyV_str {s : List UInt8} : anyV (.str s) = .ifc 9 (.str s) := rfl
theorem anyV_node {es : List GValueEntry} {rs : List GRaw} : anyV (.node es rs) = .ifc 131 (.dp [.ds true (qg encGValueEntry es) (qc es) false, .ds true (qg encGRaw rs) (qc rs) false] 0) := YQ
theorem canonAnyV (s : Bool) (x : GValueValue) : (anyV x).canon s = true := by
 cases x with
 | nil => rfl
 | num n => rfl
 | str t => rfl
 | node es rs => exact Yh s (.node es rs)
instance : XK anyV := ⟨canonAnyV⟩
structure GType where
 fKind : Int
 fName : List UInt8
 deriving DecidableEq
def encGType (x : GType) : List AV := [.int .i64 x.fKind, .str x.fName]
instance : wa encGType := ⟨fun _ _ => rfl⟩
instance : OneE encGType := ⟨fun _ => rfl⟩
instance : LenE encGType 2 := ⟨fun _ => rfl⟩
structure GField where
 fName : List UInt8
 fTag : Int
 fLabel : Int
 fType : GType
 deriving DecidableEq
abbrev encGField (x : GField) : List AV := [.str x.fName, .int .i64 x.fTag, .int .i64 x.fLabel, .int .i64 x.fType.fKind, .str x.fType.fName]
instance : wa encGField := ⟨fun _ _ => rfl⟩
instance : OneE encGField := ⟨fun _ => rfl⟩
instance : LenE encGField 5 := ⟨fun _ => rfl⟩
structure GMessage where
 fName : List UInt8
 fFields : List GField
 fReserved : List Int
 deriving DecidableEq
abbrev encGMessage (x : GMessage) : List AV := [.str x.fName, .ds true (qg encGField x.fFields) (qc x.fFields) false, .ds true (qg encI x.fReserved) (qc x.fReserved) false]
instance : wa encGMessage := ⟨fun s x => by simp only [encGMessage, canonL, AV.canon, canon_all, qS, qI, qW]⟩
instance : OneE encGMessage := ⟨fun _ => rfl⟩
instance : LenE encGMessage 3 := ⟨fun _ => rfl⟩
structure GNamed where
 fName : List UInt8
 fN : Int
 deriving DecidableEq
def encGNamed (x : GNamed) : List AV := [.str x.fName, .int .i64 x.fN]
instance : wa encGNamed := ⟨fun _ _ => rfl⟩
instance : OneE encGNamed := ⟨fun _ => rfl⟩
instance : LenE encGNamed 2 := ⟨fun _ => rfl⟩
structure GEnumeration where
 fName : List UInt8
 fValues : List GNamed
 deriving DecidableEq
abbrev encGEnumeration (x : GEnumeration) : List AV := [.str x.fName, .ds true (qg encGNamed x.fValues) (qc x.fValues) false]
instance : wa encGEnumeration := ⟨fun s x => by simp only [encGEnumeration, canonL, AV.canon, canon_all, qS, qI, qW]⟩
instance : OneE encGEnumeration := ⟨fun _ => rfl⟩
instance : LenE encGEnumeration 2 := ⟨fun _ => rfl⟩
structure GMethod where
 fName : List UInt8
 fIn : List UInt8
 fOut : List UInt8
 deriving DecidableEq
def encGMethod (x : GMethod) : List AV := [.str x.fName, .str x.fIn, .str x.fOut]
instance : wa encGMethod := ⟨fun _ _ => rfl⟩
instance : OneE encGMethod := ⟨fun _ => rfl⟩
instance : LenE encGMethod 3 := ⟨fun _ => rfl⟩
structure GSchema where
 fName : List UInt8
 fMessages : List GMessage
 fEnums : List GEnumeration
 fMethods : List GMethod
 deriving DecidableEq
abbrev encGSchema (x : GSchema) : List AV := [.str x.fName, .ds true (qg encGMessage x.fMessages) (qc x.fMessages) false, .ds true (qg encGEnumeration x.fEnums) (qc x.fEnums) false, .ds true (qg encGMethod x.fMethods) (qc x.fMethods) false]
instance : wa encGSchema := ⟨fun s x => by simp only [encGSchema, canonL, AV.canon, canon_all, qS, qI, qW]⟩
instance : OneE encGSchema := ⟨fun _ => rfl⟩
instance : LenE encGSchema 4 := ⟨fun _ => rfl⟩
structure GPacket where
 fKind : Int
 fFrom : Int
 fTo : Int
 fID : Int
 fVersion : Int
 fMethod : List UInt8
 fErr : Int
 fBody : List UInt8
 deriving DecidableEq
abbrev encGPacket (x : GPacket) : List AV := [.int .i64 x.fKind, .int .i64 x.fFrom, .int .i64 x.fTo, .int .i64 x.fID, .int .i64 x.fVersion, .str x.fMethod, .int .i64 x.fErr, .str x.fBody]
instance : wa encGPacket := ⟨fun _ _ => rfl⟩
instance : OneE encGPacket := ⟨fun _ => rfl⟩
instance : LenE encGPacket 8 := ⟨fun _ => rfl⟩
theorem E22 : Enc tab 22 33 4 encGRaw := ⟨⟨_, rfl, rfl⟩, ⟨_, rfl, rfl⟩, by decide, fun _ => rfl⟩
theorem E23 : Enc tab 23 52 5 encGField := ⟨⟨_, rfl, rfl⟩, ⟨_, rfl, rfl⟩, by decide, fun _ => rfl⟩
theorem E24 : Enc tab 24 3 1 encI := ⟨⟨_, rfl, rfl⟩, ⟨_, rfl, rfl⟩, by decide, fun _ => rfl⟩
theorem E27 : Enc tab 27 26 3 encGMessage := ⟨⟨_, rfl, rfl⟩, ⟨_, rfl, rfl⟩, by decide, fun _ => rfl⟩
theorem E28 : Enc tab 28 90 2 encGEnumeration := ⟨⟨_, rfl, rfl⟩, ⟨_, rfl, rfl⟩, by decide, fun _ => rfl⟩
theorem E29 : Enc tab 29 73 3 encGMethod := ⟨⟨_, rfl, rfl⟩, ⟨_, rfl, rfl⟩, by decide, fun _ => rfl⟩
theorem E35 : Enc tab 35 5 1 encB := ⟨⟨_, rfl, rfl⟩, ⟨_, rfl, rfl⟩, by decide, fun _ => rfl⟩
theorem E40 : Enc tab 40 61 2 encGEntry := ⟨⟨_, rfl, rfl⟩, ⟨_, rfl, rfl⟩, by decide, fun x => by rw [yY]; rfl⟩
theorem E59 : Enc tab 59 42 5 encGTree := ⟨⟨_, rfl, rfl⟩, ⟨_, rfl, rfl⟩, by decide, fun x => by rw [xB]; rfl⟩
theorem E88 : Enc tab 88 92 2 encGNamed := ⟨⟨_, rfl, rfl⟩, ⟨_, rfl, rfl⟩, by decide, fun _ => rfl⟩
theorem E94 : Enc tab 94 9 1 encS := ⟨⟨_, rfl, rfl⟩, ⟨_, rfl, rfl⟩, by decide, fun _ => rfl⟩
theorem E117 : Enc tab 117 21 1 (vbj .i32) := ⟨⟨_, rfl, rfl⟩, ⟨_, rfl, rfl⟩, by decide, fun _ => rfl⟩
theorem E155 : Enc tab 155 127 1 encGValueValue := ⟨⟨_, rfl, rfl⟩, ⟨_, rfl, rfl⟩, by decide, fun _ => rfl⟩
theorem E172 : Enc tab 172 176 2 encGValueEntry := ⟨⟨_, rfl, rfl⟩, ⟨_, rfl, rfl⟩, by decide, fun x => by rw [xr]; rfl⟩
attribute [push_cast] osE1 osE2 tell_u tell_bool Y2 Y1 tell_nilp tell_nilm tell_nilI tell_nilF tell_agg tell_tup tell_ifc Ym tell_dp tell_op wT tell_mp wD wG vaO ZS Zw tellO_map tellO_iter tellO_dead encM_tell ZU ZT yj TLS AV.canon canonL canon_all qS q2 uE ud Bool.false_and qW ub uK Bool.true_or qI qX if_true qJ qt qM qy qR decide_true decide_false and_self tell_ifcV anyV_nil anyV_num anyV_str anyV_node vaC vaB vaA YQ Yh canonAnyV YY encGRaw encGValueValue encGValueNode encGType encGField encGMessage encGNamed encGEnumeration encGMethod encGSchema encGPacket cellsGTree cellsGEntry cellsGValueEntry xB yY xr
section
variable {k : Nat} {F : Fr} {σ τ : Store} {L : List (Nat × AV)} {P : Program} {f : FuncId} {args : List AV} {x : AV}
theorem AM.TellS.t (keep : List Nat) (ls : Bool) (h1 : keep.Nodup := by decide) (h2 : ∀ id ∈ keep, id < σ.length := by simp) (h3 : keep.take k = uz k := by first | rfl | simp) (h4 : tellS σ keep ls 12 = τ := by first | rfl | (simp only [← q1, ← qi]; simp only [go_sem, qb, qe, qa, qd, qw, qL, reduceIte, reduceCtorEq, push_cast]; done) | (simp only [go_sem, qb, qe, qa, qd, qw, qL, reduceIte, reduceCtorEq, push_cast, encB, encI, encS, encBo, vbj, wL, q1, qP, un, qx, qA, qi, qk, qn, qt, qr, qC, Nat.add_assoc] <;> first | rfl | (and_intros <;> rfl))) (h5 : TLS σ keep ls F L := by first | rfl | (simp only [← q1, ← qi]; simp only [go_sem, qb, qe, qa, qd, qw, qL, reduceIte, reduceCtorEq, push_cast]; done) | (simp only [go_sem, qb, qe, qa, qd, qw, qL, reduceIte, reduceCtorEq, push_cast, encB, encI, encS, encBo, vbj, wL, q1, qP, un, qx, qA, qi, qk, qn, qt, qr, qC, Nat.add_assoc] <;> first | rfl | (and_intros <;> rfl))) : TellS k F σ L τ := .told keep ls h1 h2 h3 h4 h5
theorem AM.TellS.s (h : Fits F L := by first | (and_intros <;> first | rfl | trivial) | simp only [go_sem, qb, qe, qa, qd, qw, qL, reduceIte, reduceCtorEq, Fits, push_cast, wL, q1, qP, un, qx, qA, qi, qk, qn, qt, qr, qC, Nat.add_assoc]) (e : σ = τ := by first | rfl | (simp only [go_sem, qb, qe, qa, qd, qw, qL, reduceIte, reduceCtorEq, push_cast, encB, encI, encS, vbj, wL, q1, qP, un, qx, qA, qi, qk, qn, qt, qr, qC, Nat.add_assoc] <;> rfl)) : TellS k F σ L τ := .same h e
theorem AM.TellS.p {p q : Prop} (hp : p = q) (h : p = q → Fits F L := by intro hp; simp only [go_sem, qb, qe, qa, qd, qw, qL, reduceIte, reduceCtorEq, Fits, hp, decide_true, decide_false, uE, Bool.false_and, Bool.true_or, uK, qX, qI, and_self] <;> rfl) (e : σ = τ := by rfl) : TellS k F σ L τ := .same (h hp) e
theorem AM.TellS.b {a b : Bool} (hp : a = b) (h : a = b → Fits F L := by intro hp; simp only [go_sem, qb, qe, qa, qd, qw, qL, reduceIte, reduceCtorEq, Fits, hp, decide_true, decide_false, uE, Bool.false_and, Bool.true_or, uK, qX, qI, and_self] <;> rfl) (e : σ = τ := by rfl) : TellS k F σ L τ := .same (h hp) e
theorem yr {Q : Exit → Fr → Store → Prop} {e : Exit} {F : Fr} {σ : Store} (h : Q e F σ := by simp only [ZF, xd, xl, xY, exists_eq_left', go_sem, qb, qe, qa, qd, qw, qL, reduceIte, reduceCtorEq, push_cast] <;> first | rfl | (and_intros <;> rfl)) : Q e F σ := h
theorem AM.ACalls.c (h : ACalls P f args [] fun r _ => r = x) (σ : Store) (ha : canonL false args = true := by simp only [push_cast]) (hx : x.canon false = true := by simp only [push_cast]) : ACalls P f args σ fun r σ' => r = x ∧ σ' = σ := h.pureAt ha hx σ
theorem AM.ACalls.ld (h : ACalls P f args [] fun r _ => r = x) {args' : List AV} (hx : x.flat = true := by rfl) (ha : args'.map (tell σ [] true 12) = args := by first | (simp only [go_sem, qb, qe, qa, qd, qw, qL, reduceIte, reduceCtorEq, push_cast, qA, qx, Array.toList_map, List.toList_toArray]; done) | (simp only [← q1, ← qi]; simp only [go_sem, qb, qe, qa, qd, qw, qL, reduceIte, reduceCtorEq, push_cast, qA, qx, Array.toList_map, List.toList_toArray]; done) | (simp only [go_sem, qb, qe, qa, qd, qw, qL, reduceIte, reduceCtorEq, push_cast, encB, encI, encS, encBo, vbj, wL, q1, qP, un, qx, qA, qi, qk, qn, qt, qr, qC, Nat.add_assoc, Array.toList_map, List.toList_toArray] <;> first | rfl | (and_intros <;> rfl))) : ACalls P f args' σ fun r σ' => r = x ∧ σ' = σ := h.lend hx true 12 ha
theorem AM.ACalls.i {σs τs : Store} (h : ACalls P f args σs fun r' σ' => r' = x ∧ σ' = τs) (ids : List Nat) {args' : List AV} (hn : ids.Nodup := by decide) (hlt : ∀ id ∈ ids, id < σ.length := by simp) (hobj : ids.map (fun id => σ[id]?) = σs.map some := by rfl) (hs : σs.all Xf = true := by simp only [qZ, uf, canonO_map, vaf, push_cast]) (ht : τs.all Xf = true := by simp only [qZ, uf, canonO_map, vaf, push_cast]) (hl : ids.length = τs.length := by rfl) (hx : x.canon true = true := by simp only [push_cast]) (ha : renL (vbq ids σ.length) args = args' := by first | rfl | (simp only [renL, AV.ren, renL_E, renL_all, vbq]; rfl)) : ACalls P f args' σ fun r' σ' => r' = x ∧ σ' = putI ids τs σ := h.io ids hn hlt hobj hs ht hl hx ha
end
end
section
open Go.Shelf Go.RowKit
def utf8Ren : Go.Shelf.Ren := ⟨fun | 197 => 128 | 260 => 132 | n => n, fun | 0 => 0 | 3 => 3 | 4 => 4 | 5 => 5 | 9 => 9 | 21 => 21 | 46 => 116 | 105 => 180 | 119 => 190 | 138 => 192 | 139 => 193 | n => n, fun | 3 => 0 | 4 => 1 | n => n⟩
theorem Xp : Lays.n197 qh utf8Ren where
 mixed := by kernel_rfl
 f197 := Tryd.func128.trans (congrArg some (by kernel_rfl))
 f260 := Tryd.func132.trans (congrArg some (by kernel_rfl))
 t0 := Tryd.underlying0
 a0 := Tryd.isAgg0
 z0 := Tryd.sizeOf0
 v0 := Tryd.zeroValue0
 t3 := Tryd.underlying3
 a3 := Tryd.isAgg3
 z3 := Tryd.sizeOf3
 v3 := Tryd.zeroValue3
 t4 := Tryd.underlying4
 a4 := Tryd.isAgg4
 z4 := Tryd.sizeOf4
 v4 := Tryd.zeroValue4
 t5 := Tryd.underlying5
 a5 := Tryd.isAgg5
 z5 := Tryd.sizeOf5
 v5 := Tryd.zeroValue5
 t9 := Tryd.underlying9
 a9 := Tryd.isAgg9
 z9 := Tryd.sizeOf9
 v9 := Tryd.zeroValue9
 t21 := Tryd.underlying21
 a21 := Tryd.isAgg21
 z21 := Tryd.sizeOf21
 v21 := Tryd.zeroValue21
 t46 := Tryd.underlying116
 a46 := Tryd.isAgg116
 z46 := Tryd.sizeOf116
 v46 := Tryd.zeroValue116
 t105 := Tryd.underlying180
 a105 := Tryd.isAgg180
 z105 := Tryd.sizeOf180
 v105 := Tryd.zeroValue180
 t119 := Tryd.underlying190
 a119 := Tryd.isAgg190
 z119 := Tryd.sizeOf190
 t138 := Tryd.underlying192
 a138 := Tryd.isAgg192
 z138 := Tryd.sizeOf192
 v138 := Tryd.zeroValue192
 t139 := Tryd.underlying193
 a139 := Tryd.isAgg193
 z139 := Tryd.sizeOf193
 v139 := Tryd.zeroValue193
 g3 := by kernel_rfl
 g4 := by kernel_rfl
namespace AM
def dec0 (s : List UInt8) : Nat × Nat := if s = [] then (65533, 0) else ZQ s 0
theorem dec0_eq (s : List UInt8) : Lib.decodeGo ⟨s.toArray⟩ = dec0 s := by
 unfold Lib.decodeGo dec0 ZQ
 by_cases h : s = []
 · subst h; rfl
 rw [if_neg h, if_neg]
 intro h0
 exact h (List.eq_nil_of_length_eq_zero (by simpa [ByteArray.size] using h0))
theorem decode_ev (s : List UInt8) (σ : Store) : ACalls qh 128 [.str s] σ (fun r σ' => r = .tup [.int .i32 ((dec0 s).1 : Int), .int .i64 ((dec0 s).2 : Int)] ∧ σ' = σ) := by
 refine ⟨Tryd.call128, fun E vs hS hl => ?_⟩
 obtain ⟨v, e⟩ : ∃ v, vs = #[v] := by
  have h1 : vs.toList.length = 1 := hl.1
  obtain ⟨l⟩ := vs
  match l, h1 with
  | [v], _ => exact ⟨v, rfl⟩
 subst e
 have h2 : VR E (.str s) v := hl.2 0 (by simp)
 cases h2 with | str _ b hb =>
 subst hb
 refine (Any.utf8_DecodeRuneInString Xp b E.w hS.glb.utf8).mono ?_
 rintro e w' ⟨rfl, hb⟩
 obtain ⟨hS', hx⟩ := hS.grew (w' := w') ⟨hb.os, hb.tape, hb.output, hb.size, hb.block⟩
 refine ⟨_, .tup [.int .i32 ((dec0 b.data.toList).1 : Int), .int .i64 ((dec0 b.data.toList).2 : Int)], σ, { E with w := w' }, rfl, rfl, ?_, hS', hx, rfl, rfl⟩
 rw [← dec0_eq]
 refine .tup _ _ rfl fun i hi => ?_
 match i, hi with
 | 0, _ => exact .int _ _
 | 1, _ => exact .int _ _
def w8 (a0 : List UInt8) : Int × Int := (((dec0 a0).1 : Int), ((dec0 a0).2 : Int))
theorem w8.ev (a0 : List UInt8) (r : Int × Int) (h : w8 a0 = r) (σ : Store) : ACalls qh 128 [.str a0] σ (fun r' σ' => r' = .tup [.int .i32 r.1, .int .i64 r.2] ∧ σ' = σ) := by subst h; exact decode_ev a0 σ
end AM
end
section
set_option maxRecDepth 4000
set_option maxHeartbeats 1000000
open AM
def xM (a0 : List UInt8) (a1 : Int) : Option (Int × Int × Bool) :=
 (if ((decide (a1 < 0)) || (decide ((qc a0 : Int) ≤ a1))) = true then some (0, 0, false) else (grd ((0 : Int) ≤ a1 ∧ a1 ≤ (qc a0 : Int) ∧ (qc a0 : Int) ≤ (qc a0 : Int))).bind fun _u5 => bnd (w8 (YF a0 a1 (qc a0 : Int))) fun r7 => (if ((decide (r7.1 = 65533)) && (decide (r7.2 < 2))) = true then some (0, 0, false) else some (r7.1, r7.2, true)))
theorem xM.ok (a0 : List UInt8) (a1 : Int) (r : Int × Int × Bool) (h : xM a0 a1 = some r) : ACalls qh 112 [.str a0, .int .i64 a1] [] (fun r' _ => r' = .tup [.int .i32 r.1, .int .i64 r.2.1, .bool r.2.2]) := by
 refine zn (rs := [.tmp 4, .tmp 5, .tmp 6]) tok Tryd.func112 rfl Tryd.ntmps112 rfl Tryd.call112 (by simp) ?_
 refine zt [(0, .str a0), (1, .int .i64 a1)] ⟨rfl, rfl, trivial⟩ ?_
 unfold xM at h
 refine rg tok [0, 1] fun K hK => ?_
 simp only [go_sem, qb, qa, reduceCtorEq]
 apply hK
 refine zd fun Z1 hZ1 => ?_
 refine rc [0, 1, 16] fun K hK => ?_
 refine zb tok 3 ?_
 simp only [go_sem, qb, qa, reduceCtorEq]
 refine zo 5 (fun L τ => L = ([(0, .str a0), (1, .int .i64 a1), (16, .bool ((decide (a1 < 0)) || (decide ((qc a0 : Int) ≤ a1))))] : List (Nat × AV)) ∧ τ = ([] : Store)) ?_ ?_
 · refine yN 11 rfl (fun hg11 => ?_) (fun hg11 => ?_)
   · have t2 := eq_true hg11
     refine zb tok 5 ?_
     simp only [go_sem, qb, qa, reduceCtorEq]
     refine za ⟨rfl, _, _, ⟨rfl, rfl⟩, .p t2⟩
   have t3 := eq_false hg11
   refine zb tok 5 ?_
   simp only [go_sem, qb, qa, reduceCtorEq]
   refine za ⟨rfl, _, _, ⟨rfl, rfl⟩, .p t3⟩
 rintro _ _ ⟨rfl, rfl⟩
 refine za ?_
 simp only [ze, qa, reduceIte, zl, zq]
 apply hK
 refine zv (b := ((decide (a1 < 0)) || (decide ((qc a0 : Int) ≤ a1)))) rfl (fun hc4 => ?_) (fun hc4 => ?_)
 · rw [if_pos hc4] at h
   refine rg tok [4, 5, 6] fun K hK => ?_
   simp only [go_sem, qb, qa, reduceCtorEq]
   apply hK
   refine zj ?_
   obtain rfl := Option.some.inj h
   exact yr
 rw [xD hc4] at h
 refine zh ?_
 apply hZ1
 refine rc [7, 8] fun K hK => ?_
 obtain ⟨_u5, hu5, h⟩ := bind_some h
 have gu5 := wy hu5
 have f6 := str_lo (T := tab) (t := 9) rfl rfl gu5
 obtain ⟨r7, hr7, h⟩ := zS h
 refine zb tok 3 ?_
 simp only [go_sem, qb, qa, reduceCtorEq, f6]
 refine zi rfl rfl rfl (w8.ev (YF a0 a1 (qc a0 : Int)) r7 hr7 _) ?_
 rintro _ _ ⟨rfl, rfl⟩
 refine zb tok 5 ?_
 simp only [go_sem, qb, qa, qd, reduceCtorEq]
 refine za ?_
 simp only [ze, upd, qa, reduceIte, zl, zq]
 apply hK
 refine zd fun Z8 hZ8 => ?_
 refine rc [7, 8, 29] fun K hK => ?_
 refine zb tok 3 ?_
 simp only [go_sem, qb, qa]
 refine zo 3 (fun L τ => L = ([(7, .int .i32 r7.1), (8, .int .i64 r7.2), (29, .bool ((decide (r7.1 = 65533)) && (decide (r7.2 < 2))))] : List (Nat × AV)) ∧ τ = ([] : Store)) ?_ ?_
 · refine yN 26 rfl (fun hg26 => ?_) (fun hg26 => ?_)
   · have t9 := eq_true hg26
     refine zb tok 3 ?_
     simp only [go_sem, qb, qa]
     refine za ⟨rfl, _, _, ⟨rfl, rfl⟩, .p t9⟩
   have t10 := eq_false hg26
   refine zb tok 3 ?_
   simp only [go_sem, qb, qa]
   refine za ⟨rfl, _, _, ⟨rfl, rfl⟩, .p t10⟩
 rintro _ _ ⟨rfl, rfl⟩
 refine za ?_
 simp only [ze, qa, reduceIte, zl, zq]
 apply hK
 refine zv (b := ((decide (r7.1 = 65533)) && (decide (r7.2 < 2)))) rfl (fun hc11 => ?_) (fun hc11 => ?_)
 · rw [if_pos hc11] at h
   refine rg tok [4, 5, 6] fun K hK => ?_
   simp only [go_sem, qb, qa]
   apply hK
   refine zj ?_
   obtain rfl := Option.some.inj h
   exact yr
 rw [xD hc11] at h
 refine zh ?_
 apply hZ8
 refine rg tok [4, 5, 6] fun K hK => ?_
 simp only [go_sem, qb, qa]
 apply hK
 refine zj ?_
 obtain rfl := Option.some.inj h
 exact yr
theorem xM.ev (a0 : List UInt8) (a1 : Int) (r : Int × Int × Bool) (h : xM a0 a1 = some r) (σ : Store) : ACalls qh 112 [.str a0, .int .i64 a1] σ (fun r' σ' => r' = .tup [.int .i32 r.1, .int .i64 r.2.1, .bool r.2.2] ∧ σ' = σ) :=
 (xM.ok a0 a1 r h).c σ
def yp.l4 (a0 : List UInt8) : Nat → Nat → Option Bool
 | 0, _ => none
 | k4 + 1, p2 => (if p2 < qc a0 then (if ((ZQ a0 p2).1 : Int) = 65533 then (xM a0 ((p2 : Nat) : Int)).bind fun r12 => (if (!r12.2.2) = true then some false else ((yp.l4 a0 k4) (p2 + (ZQ a0 p2).2))) else ((yp.l4 a0 k4) (p2 + (ZQ a0 p2).2))) else some true)
def yp (a0 : List UInt8) : Option Bool :=
 (yp.l4 a0 rounds 0)
theorem yp.ok (a0 : List UInt8) (r : Bool) (h : yp a0 = some r) : ACalls qh 85 [.str a0] [] (fun r' _ => r' = .bool r) := by
 refine zn (rs := [.tmp 2]) tok Tryd.func85 rfl Tryd.ntmps85 rfl Tryd.call85 (by simp) ?_
 refine zt [(0, .str a0)] ⟨rfl, trivial⟩ ?_
 unfold yp at h
 refine rg tok [0] fun K hK => ?_
 simp only [go_sem, qb, reduceCtorEq]
 apply hK
 refine zd fun Z1 hZ1 => ?_
 refine rg tok [0, 9] fun K hK => ?_
 simp only [go_sem, qb, qa, reduceCtorEq]
 apply hK
 refine zk ?_
 refine zF (fun m L τ => ∃ (k4 : Nat) (p2 : Nat), m = 0 + k4 ∧ L = ([(0, .str a0), (9, .it 0)] : List (Nat × AV)) ∧ τ = ([.iter a0 p2] : Store) ∧ yp.l4 a0 k4 p2 = some r) _ ⟨rounds, 0, rfl, rfl, rfl, h⟩ .s ?_
 rintro m L τ ⟨k4, p2, rfl, rfl, rfl, h⟩
 rcases k4 with _ | k4
 · cases h
 simp only [yp.l4] at h
 by_cases hn5 : p2 < qc a0
 · rw [if_pos hn5] at h
   have t6 := eq_true hn5
   refine rg tok [0, 9, 10, 11] fun K hK => ?_
   simp only [go_sem, qb, qa, qd, reduceCtorEq, XA, if_true, if_false, t6]
   apply hK
   refine zd fun Z7 hZ7 => ?_
   refine zB rfl ?_
   refine zh ?_
   apply hZ7
   refine zk ?_
   refine rg tok [0, 3, 4, 9] fun K hK => ?_
   simp only [go_sem, qb, qa, qd, reduceCtorEq]
   apply hK
   refine zd fun Z8 hZ8 => ?_
   refine rg tok [0, 3, 9, 15] fun K hK => ?_
   simp only [go_sem, qb, qa, reduceCtorEq]
   apply hK
   refine zI rfl (fun hc9 => ?_) (fun hc9 => ?_)
   · rw [if_neg hc9] at h
     have t10 := eq_false hc9
     refine zM ?_
     exact ⟨_, _, _, qu (0 + k4), ⟨k4, p2 + (ZQ a0 p2).2, rfl, rfl, rfl, h⟩, .s⟩
   rw [if_pos hc9] at h
   have t11 := eq_true hc9
   refine zh ?_
   apply hZ8
   refine rc [0, 7, 9] fun K hK => ?_
   obtain ⟨r12, hr12, h⟩ := bind_some h
   refine zb tok 2 ?_
   simp only [go_sem, qb, qa, reduceCtorEq, t11]
   refine zi rfl rfl rfl (xM.ev a0 ((p2 : Nat) : Int) r12 hr12 _) ?_
   rintro _ _ ⟨rfl, rfl⟩
   refine zb tok 7 ?_
   simp only [go_sem, qb, qa, qd, reduceCtorEq]
   refine za ?_
   simp only [ze, upd, qa, reduceIte, zl, zq]
   apply hK
   refine rg tok [0, 9, 24] fun K hK => ?_
   simp only [go_sem, qb, qa, reduceCtorEq]
   apply hK
   refine zv (b := (!r12.2.2)) rfl (fun hc13 => ?_) (fun hc13 => ?_)
   · rw [if_pos hc13] at h
     refine rg tok [2] fun K hK => ?_
     simp only [go_sem, qb, qa, reduceCtorEq]
     apply hK
     refine zj ?_
     obtain rfl := Option.some.inj h
     exact yr
   rw [xD hc13] at h
   refine zh ?_
   exact ⟨_, _, _, qu (0 + k4), ⟨k4, p2 + (ZQ a0 p2).2, rfl, rfl, rfl, h⟩, .s⟩
 rw [if_neg hn5] at h
 have t14 := eq_false hn5
 refine rg tok [0, 9, 10, 11] fun K hK => ?_
 simp only [go_sem, qb, qa, reduceCtorEq, XA, if_true, if_false, t14]
 apply hK
 refine zd fun Z15 hZ15 => ?_
 refine zz rfl ?_
 refine zM ?_
 apply hZ1
 refine rg tok [2] fun K hK => ?_
 simp only [go_sem, qb, qa, reduceCtorEq]
 apply hK
 refine zj ?_
 obtain rfl := Option.some.inj h
 exact yr
theorem yp.ev (a0 : List UInt8) (r : Bool) (h : yp a0 = some r) (σ : Store) : ACalls qh 85 [.str a0] σ (fun r' σ' => r' = .bool r ∧ σ' = σ) :=
 (yp.ok a0 r h).c σ
def zP.l4 (a1 : List UInt8) : List GMessage → Int → GMessage × Bool
 | [], x2 => ((⟨[], ([] : List GField), ([] : List Int)⟩ : GMessage), false)
 | y4 :: q4, x2 => (if y4.fName = a1 then (y4, true) else ((zP.l4 a1 q4) (x2 + 1)))
def zP (a0 : GSchema) (a1 : List UInt8) : GMessage × Bool :=
 (zP.l4 a1 a0.fMessages 0)
theorem zP.ok (a0 : GSchema) (a1 : List UInt8) (r : GMessage × Bool) (h : zP a0 a1 = r) : ACalls qh 34 [.agg (encGSchema a0), .str a1] [] (fun r' _ => r' = .tup [.agg (encGMessage r.1), .bool r.2]) := by
 refine zn (rs := [.cell 4 26, .tmp 5]) tok Tryd.func34 rfl Tryd.ntmps34 rfl Tryd.call34 (by simp) ?_
 refine zt [(0, .agg (encGSchema a0)), (1, .str a1)] ⟨rfl, rfl, trivial⟩ ?_
 unfold zP at h
 refine rg tok [1, 2, 4] fun K hK => ?_
 simp only [go_sem, qb, qa, qd, reduceCtorEq, encGSchema]
 apply hK
 refine zd fun Z1 hZ1 => ?_
 refine rg tok [1, 4, 9, 10, 11] fun K hK => ?_
 simp only [go_sem, qb, qa, qd]
 apply hK
 refine zk ?_
 refine yW 9 fun hb4 => ?_
 replace hb4 : qc a0.fMessages ≤ 9223372036854775807 := hb4.1
 refine zF (fun m L τ => ∃ (p4 q4 : List GMessage) (x2 : Int), m = qc q4 ∧ L = ([(1, .str a1), (4, .op 0 0 0), (9, .ds true (qg encGMessage a0.fMessages) (qc a0.fMessages) false), (10, .int .i64 (qc a0.fMessages : Int)), (11, .int .i64 x2)] : List (Nat × AV)) ∧ τ = ([.cells 0 [.str [], .ds true [] 0 true, .ds true [] 0 true]] : Store) ∧ a0.fMessages = p4 ++ q4 ∧ x2 = (qc p4 : Int) ∧ zP.l4 a1 q4 x2 = r) _ ⟨[], a0.fMessages, 0, rfl, rfl, rfl, rfl, rfl, h⟩ (.t [1] false) ?_
 rintro m L τ ⟨p4, q4, x2, rfl, rfl, rfl, hE4, hi4, h⟩
 rcases q4 with _ | ⟨y4, q4⟩
 · have hz4 := yz hE4 hi4
   simp only [zP.l4] at h
   refine rg tok [1, 4, 9, 10, 11, 12] fun K hK => ?_
   simp only [go_sem, qb, qa, hz4]
   apply hK
   refine zd fun Z5 hZ5 => ?_
   refine zz rfl ?_
   refine zM ?_
   apply hZ1
   refine rg tok [4, 5] fun K hK => ?_
   simp only [go_sem, qb, qe, qa, qd]
   apply hK
   refine zj ?_
   obtain rfl := h
   exact yr
 obtain ⟨hz4, hw4, hx4, hE'4, hi'4⟩ := yg hE4 hi4 hb4
 simp only [zP.l4] at h
 refine rg tok [1, 4, 9, 10, 11, 12] fun K hK => ?_
 simp only [go_sem, qb, qa, hz4]
 apply hK
 refine zd fun Z6 hZ6 => ?_
 refine zB rfl ?_
 refine zh ?_
 apply hZ6
 refine zd fun Z7 hZ7 => ?_
 refine zk ?_
 have f8 := E27.idxS hx4
 have f9 := E27.loadS rfl rfl hx4
 refine rg tok [1, 4, 7, 9, 10, 11] fun K hK => ?_
 simp only [go_sem, qb, qe, qa, qd, encGMessage, f8, f9]
 apply hK
 refine rg tok [1, 4, 7, 9, 10, 11, 18] fun K hK => ?_
 simp only [go_sem, qb, qa, qd]
 apply hK
 refine zI rfl (fun hc10 => ?_) (fun hc10 => ?_)
 · rw [if_pos hc10] at h
   have t11 := eq_true hc10
   refine rg tok [4, 5] fun K hK => ?_
   simp only [go_sem, qb, qe, qa, qd, t11]
   apply hK
   refine zj ?_
   obtain rfl := h
   exact yr
 rw [if_neg hc10] at h
 have t12 := eq_false hc10
 refine zh ?_
 apply hZ7
 refine rgE tok [1, 4, 9, 10, 11] fun K hK => ?_
 simp only [go_sem, qb, qa, hw4, t12]
 apply hK
 exact ⟨_, _, _, qu q4.length, ⟨p4 ++ [y4], q4, x2 + 1, rfl, rfl, rfl, hE'4, hi'4, h⟩, (.t [0] false)⟩
theorem zP.ev (a0 : GSchema) (a1 : List UInt8) (r : GMessage × Bool) (h : zP a0 a1 = r) (σ : Store) : ACalls qh 34 [.agg (encGSchema a0), .str a1] σ (fun r' σ' => r' = .tup [.agg (encGMessage r.1), .bool r.2] ∧ σ' = σ) :=
 (zP.ok a0 a1 r h).c σ
def xe.l12 (a1 : Int) : List UInt8 → Int → Int → Option (Int × Int × Int)
 | [], x9, x8 => some (0, 0, 2)
 | y12 :: q12, x9, x8 => (if ((decide (x9 = 9)) && (decide (1 < (y12.toNat : Int)))) = true then some (0, 0, 3) else (grd (0 ≤ IntKind.i64.wrap (7 * x9))).bind fun _u23 => (if 128 ≤ (y12.toNat : Int) then ((xe.l12 a1 q12) (x9 + 1) (IntKind.u64.wrap ((uh (qv 64 x8 ||| qv 64 (IntKind.u64.wrap ((IntKind.u64.wrap (IntKind.u8.wrap ((uh (qv 8 (y12.toNat : Int) &&& ~~~(qv 8 128)) : Nat) : Int))) * 2 ^ (min (qB (IntKind.i64.wrap (7 * x9))) 64)))) : Nat) : Int))) else (if ((decide ((y12.toNat : Int) = 0)) && (decide (0 < x9))) = true then some (0, 0, 3) else some (IntKind.u64.wrap ((uh (qv 64 x8 ||| qv 64 (IntKind.u64.wrap ((IntKind.u64.wrap (IntKind.u8.wrap ((uh (qv 8 (y12.toNat : Int) &&& ~~~(qv 8 128)) : Nat) : Int))) * 2 ^ (min (qB (IntKind.i64.wrap (7 * x9))) 64)))) : Nat) : Int), IntKind.i64.wrap ((IntKind.i64.wrap (a1 + x9)) + 1), 0))))
def xe (a0 : List UInt8) (a1 : Int) : Option (Int × Int × Int) :=
 (if ((decide (a1 < 0)) || (decide ((qc a0 : Int) < a1))) = true then some (0, 0, 1) else (grd ((0 : Int) ≤ a1 ∧ a1 ≤ IntKind.i64.wrap (a1 + (if 10 < IntKind.i64.wrap ((qc a0 : Int) - a1) then 10 else IntKind.i64.wrap ((qc a0 : Int) - a1))) ∧ IntKind.i64.wrap (a1 + (if 10 < IntKind.i64.wrap ((qc a0 : Int) - a1) then 10 else IntKind.i64.wrap ((qc a0 : Int) - a1))) ≤ (qc a0 : Int))).bind fun _u6 => (xe.l12 a1 (YF a0 a1 (IntKind.i64.wrap (a1 + (if 10 < IntKind.i64.wrap ((qc a0 : Int) - a1) then 10 else IntKind.i64.wrap ((qc a0 : Int) - a1))))) 0 0))
theorem xe.ok (a0 : List UInt8) (a1 : Int) (r : Int × Int × Int) (h : xe a0 a1 = some r) : ACalls qh 110 [.ds true (qg encB a0) (qc a0) false, .int .i64 a1] [] (fun r' _ => r' = .tup [.int .u64 r.1, .int .i64 r.2.1, .int .i64 r.2.2]) := by
 refine zn (rs := [.tmp 4, .tmp 5, .tmp 6]) tok Tryd.func110 rfl Tryd.ntmps110 rfl Tryd.call110 (by simp) ?_
 refine zt [(0, .ds true (qg encB a0) (qc a0) false), (1, .int .i64 a1)] ⟨rfl, rfl, trivial⟩ ?_
 unfold xe at h
 refine rg tok [0, 1] fun K hK => ?_
 simp only [go_sem, qb, qa, reduceCtorEq]
 apply hK
 refine zd fun Z1 hZ1 => ?_
 refine rc [0, 1, 17] fun K hK => ?_
 refine zb tok 3 ?_
 simp only [go_sem, qb, qa, reduceCtorEq]
 refine zo 5 (fun L τ => L = ([(0, .ds true (qg encB a0) (qc a0) false), (1, .int .i64 a1), (17, .bool ((decide (a1 < 0)) || (decide ((qc a0 : Int) < a1))))] : List (Nat × AV)) ∧ τ = ([] : Store)) ?_ ?_
 · refine yN 12 rfl (fun hg12 => ?_) (fun hg12 => ?_)
   · have t2 := eq_true hg12
     refine zb tok 5 ?_
     simp only [go_sem, qb, qa, reduceCtorEq]
     refine za ⟨rfl, _, _, ⟨rfl, rfl⟩, .p t2⟩
   have t3 := eq_false hg12
   refine zb tok 5 ?_
   simp only [go_sem, qb, qa, reduceCtorEq]
   refine za ⟨rfl, _, _, ⟨rfl, rfl⟩, .p t3⟩
 rintro _ _ ⟨rfl, rfl⟩
 refine za ?_
 simp only [ze, qa, reduceIte, zl, zq]
 apply hK
 refine zv (b := ((decide (a1 < 0)) || (decide ((qc a0 : Int) < a1)))) rfl (fun hc4 => ?_) (fun hc4 => ?_)
 · rw [if_pos hc4] at h
   refine rg tok [4, 5, 6] fun K hK => ?_
   simp only [go_sem, qb, qa, reduceCtorEq]
   apply hK
   refine zj ?_
   obtain rfl := Option.some.inj h
   exact yr
 rw [xD hc4] at h
 refine zh ?_
 apply hZ1
 refine rg tok [0, 1, 7] fun K hK => ?_
 simp only [go_sem, qb, qa, reduceCtorEq]
 apply hK
 refine zd fun Z5 hZ5 => ?_
 obtain ⟨_u6, hu6, h⟩ := bind_some h
 have gu6 := wy hu6
 have f7 := E35.sl_lh gu6
 refine rg tok [1, 7, 27, 28, 29] fun K hK => ?_
 simp only [go_sem, qb, qa, reduceCtorEq, vbe, foldO, evMin2, f7]
 apply hK
 refine zk ?_
 refine yW 27 fun hb12 => ?_
 replace hb12 : qc (YF a0 a1 (IntKind.i64.wrap (a1 + (if 10 < IntKind.i64.wrap ((qc a0 : Int) - a1) then 10 else IntKind.i64.wrap ((qc a0 : Int) - a1))))) ≤ 9223372036854775807 := hb12.1
 refine zF (fun m L τ => ∃ (p12 q12 : List UInt8) (x9 : Int) (x8 : Int), m = qc q12 ∧ L = ([(1, .int .i64 a1), (7, .int .u64 x8), (27, .ds true (qg encB (YF a0 a1 (IntKind.i64.wrap (a1 + (if 10 < IntKind.i64.wrap ((qc a0 : Int) - a1) then 10 else IntKind.i64.wrap ((qc a0 : Int) - a1)))))) (qc (YF a0 a1 (IntKind.i64.wrap (a1 + (if 10 < IntKind.i64.wrap ((qc a0 : Int) - a1) then 10 else IntKind.i64.wrap ((qc a0 : Int) - a1)))))) false), (28, .int .i64 (qc (YF a0 a1 (IntKind.i64.wrap (a1 + (if 10 < IntKind.i64.wrap ((qc a0 : Int) - a1) then 10 else IntKind.i64.wrap ((qc a0 : Int) - a1))))) : Int)), (29, .int .i64 x9)] : List (Nat × AV)) ∧ τ = ([] : Store) ∧ YF a0 a1 (IntKind.i64.wrap (a1 + (if 10 < IntKind.i64.wrap ((qc a0 : Int) - a1) then 10 else IntKind.i64.wrap ((qc a0 : Int) - a1)))) = p12 ++ q12 ∧ x9 = (qc p12 : Int) ∧ xe.l12 a1 q12 x9 x8 = some r) _ ⟨[], YF a0 a1 (IntKind.i64.wrap (a1 + (if 10 < IntKind.i64.wrap ((qc a0 : Int) - a1) then 10 else IntKind.i64.wrap ((qc a0 : Int) - a1)))), 0, 0, rfl, rfl, rfl, rfl, rfl, h⟩ .s ?_
 rintro m L τ ⟨p12, q12, x9, x8, rfl, rfl, rfl, hE12, hi12, h⟩
 rcases q12 with _ | ⟨y12, q12⟩
 · have hz12 := yz hE12 hi12
   simp only [xe.l12] at h
   refine rg tok [1, 7, 27, 28, 29, 30] fun K hK => ?_
   simp only [go_sem, qb, qa, hz12]
   apply hK
   refine zd fun Z13 hZ13 => ?_
   refine zz rfl ?_
   refine zM ?_
   apply hZ5
   refine rg tok [4, 5, 6] fun K hK => ?_
   simp only [go_sem, qb, qa]
   apply hK
   refine zj ?_
   obtain rfl := Option.some.inj h
   exact yr
 obtain ⟨hz12, hw12, hx12, hE'12, hi'12⟩ := yg hE12 hi12 hb12
 simp only [xe.l12] at h
 refine rg tok [1, 7, 27, 28, 29, 30] fun K hK => ?_
 simp only [go_sem, qb, qa, hz12]
 apply hK
 refine zd fun Z14 hZ14 => ?_
 refine zB rfl ?_
 refine zh ?_
 apply hZ14
 refine zd fun Z15 hZ15 => ?_
 refine zk ?_
 have f16 := E35.idxS hx12
 have f17 := E35.fldS0 (f := 5) rfl rfl hx12
 refine rg tok [1, 7, 8, 9, 27, 28, 29] fun K hK => ?_
 simp only [go_sem, qb, qa, encB, f16, f17]
 apply hK
 refine zd fun Z18 hZ18 => ?_
 refine rc [1, 7, 8, 9, 27, 28, 29, 39] fun K hK => ?_
 refine zb tok 3 ?_
 simp only [go_sem, qb, qa]
 refine zo 3 (fun L τ => L = ([(1, .int .i64 a1), (7, .int .u64 x8), (8, .int .i64 x9), (9, .int .u8 (y12.toNat : Int)), (27, .ds true (qg encB (YF a0 a1 (IntKind.i64.wrap (a1 + (if 10 < IntKind.i64.wrap ((qc a0 : Int) - a1) then 10 else IntKind.i64.wrap ((qc a0 : Int) - a1)))))) (qc (YF a0 a1 (IntKind.i64.wrap (a1 + (if 10 < IntKind.i64.wrap ((qc a0 : Int) - a1) then 10 else IntKind.i64.wrap ((qc a0 : Int) - a1)))))) false), (28, .int .i64 (qc (YF a0 a1 (IntKind.i64.wrap (a1 + (if 10 < IntKind.i64.wrap ((qc a0 : Int) - a1) then 10 else IntKind.i64.wrap ((qc a0 : Int) - a1))))) : Int)), (29, .int .i64 x9), (39, .bool ((decide (x9 = 9)) && (decide (1 < (y12.toNat : Int)))))] : List (Nat × AV)) ∧ τ = ([] : Store)) ?_ ?_
 · refine yN 36 rfl (fun hg36 => ?_) (fun hg36 => ?_)
   · have t19 := eq_true hg36
     refine zb tok 3 ?_
     simp only [go_sem, qb, qa]
     refine za ⟨rfl, _, _, ⟨rfl, rfl⟩, .p t19⟩
   have t20 := eq_false hg36
   refine zb tok 3 ?_
   simp only [go_sem, qb, qa]
   refine za ⟨rfl, _, _, ⟨rfl, rfl⟩, .p t20⟩
 rintro _ _ ⟨rfl, rfl⟩
 refine za ?_
 simp only [ze, qa, reduceIte, zl, zq]
 apply hK
 refine zv (b := ((decide (x9 = 9)) && (decide (1 < (y12.toNat : Int))))) rfl (fun hc21 => ?_) (fun hc21 => ?_)
 · rw [if_pos hc21] at h
   refine rg tok [4, 5, 6] fun K hK => ?_
   simp only [go_sem, qb, qa]
   apply hK
   refine zj ?_
   obtain rfl := Option.some.inj h
   exact yr
 rw [xD hc21] at h
 refine zh ?_
 apply hZ18
 have f22 := xv (T := tab) (src := 5) (dst := 85) rfl rfl rfl
 obtain ⟨_u23, hu23, h⟩ := bind_some h
 have gu23 := wy hu23
 have gu23n : (IntKind.i64.wrap (7 * x9) < 0) = False := eq_false (by omega)
 refine rg tok [1, 7, 8, 9, 27, 28, 29] fun K hK => ?_
 simp only [go_sem, qb, qa, f22, gu23n, ZO]
 apply hK
 refine zd fun Z24 hZ24 => ?_
 refine rg tok [1, 7, 8, 9, 27, 28, 29, 49] fun K hK => ?_
 simp only [go_sem, qb, qa]
 apply hK
 refine zI rfl (fun hc25 => ?_) (fun hc25 => ?_)
 · rw [if_pos hc25] at h
   have t26 := eq_true hc25
   refine zM ?_
   apply hZ15
   refine rgE tok [1, 7, 27, 28, 29] fun K hK => ?_
   simp only [go_sem, qb, qa, hw12, t26]
   apply hK
   exact ⟨_, _, _, qu q12.length, ⟨p12 ++ [y12], q12, x9 + 1, IntKind.u64.wrap ((uh (qv 64 x8 ||| qv 64 (IntKind.u64.wrap ((IntKind.u64.wrap (IntKind.u8.wrap ((uh (qv 8 (y12.toNat : Int) &&& ~~~(qv 8 128)) : Nat) : Int))) * 2 ^ (min (qB (IntKind.i64.wrap (7 * x9))) 64)))) : Nat) : Int), rfl, rfl, rfl, hE'12, hi'12, h⟩, .s⟩
 rw [if_neg hc25] at h
 have t27 := eq_false hc25
 refine zh ?_
 apply hZ24
 refine zd fun Z28 hZ28 => ?_
 refine rc [1, 7, 8, 55] fun K hK => ?_
 refine zb tok 3 ?_
 simp only [go_sem, qb, qa, t27]
 refine zo 3 (fun L τ => L = ([(1, .int .i64 a1), (7, .int .u64 (IntKind.u64.wrap ((uh (qv 64 x8 ||| qv 64 (IntKind.u64.wrap ((IntKind.u64.wrap (IntKind.u8.wrap ((uh (qv 8 (y12.toNat : Int) &&& ~~~(qv 8 128)) : Nat) : Int))) * 2 ^ (min (qB (IntKind.i64.wrap (7 * x9))) 64)))) : Nat) : Int))), (8, .int .i64 x9), (55, .bool ((decide ((y12.toNat : Int) = 0)) && (decide (0 < x9))))] : List (Nat × AV)) ∧ τ = ([] : Store)) ?_ ?_
 · refine yN 52 rfl (fun hg52 => ?_) (fun hg52 => ?_)
   · have t29 := eq_true hg52
     refine zb tok 3 ?_
     simp only [go_sem, qb, qa]
     refine za ⟨rfl, _, _, ⟨rfl, rfl⟩, .p t29⟩
   have t30 := eq_false hg52
   refine zb tok 3 ?_
   simp only [go_sem, qb, qa]
   refine za ⟨rfl, _, _, ⟨rfl, rfl⟩, .p t30⟩
 rintro _ _ ⟨rfl, rfl⟩
 refine za ?_
 simp only [ze, qa, reduceIte, zl, zq]
 apply hK
 refine zv (b := ((decide ((y12.toNat : Int) = 0)) && (decide (0 < x9)))) rfl (fun hc31 => ?_) (fun hc31 => ?_)
 · rw [if_pos hc31] at h
   refine rg tok [4, 5, 6] fun K hK => ?_
   simp only [go_sem, qb, qa]
   apply hK
   refine zj ?_
   obtain rfl := Option.some.inj h
   exact yr
 rw [xD hc31] at h
 refine zh ?_
 apply hZ28
 refine rg tok [4, 5, 6] fun K hK => ?_
 simp only [go_sem, qb, qa]
 apply hK
 refine zj ?_
 obtain rfl := Option.some.inj h
 exact yr
theorem xe.ev (a0 : List UInt8) (a1 : Int) (r : Int × Int × Int) (h : xe a0 a1 = some r) (σ : Store) : ACalls qh 110 [.ds true (qg encB a0) (qc a0) false, .int .i64 a1] σ (fun r' σ' => r' = .tup [.int .u64 r.1, .int .i64 r.2.1, .int .i64 r.2.2] ∧ σ' = σ) :=
 (xe.ok a0 a1 r h).c σ
def Zh (a0 : Int) : Int :=
 IntKind.i64.wrap ((uh (qv 64 (IntKind.i64.wrap (Int.fdiv a0 (2 ^ (min (qB 1) 64)))) ^^^ qv 64 (IntKind.i64.wrap (0 - (IntKind.i64.wrap (IntKind.u64.wrap ((uh (qv 64 a0 &&& qv 64 1) : Nat) : Int)))))) : Nat) : Int)
theorem Zh.ok (a0 : Int) (r : Int) (h : Zh a0 = r) : ACalls qh 111 [.int .u64 a0] [] (fun r' _ => r' = .int .i64 r) := by
 refine zn (rs := [.tmp 2]) tok Tryd.func111 rfl Tryd.ntmps111 rfl Tryd.call111 (by simp) ?_
 refine zt [(0, .int .u64 a0)] ⟨rfl, trivial⟩ ?_
 unfold Zh at h
 refine rg tok [0] fun K hK => ?_
 simp only [go_sem, qb, reduceCtorEq]
 apply hK
 have f1 := xv (T := tab) (src := 85) (dst := 3) rfl rfl rfl
 have f2 := xv (T := tab) (src := 85) (dst := 3) rfl rfl rfl
 refine rg tok [2] fun K hK => ?_
 simp only [go_sem, qb, qa, reduceCtorEq, f1, ZO, Int.reduceLT]
 apply hK
 refine zj ?_
 obtain rfl := h
 exact yr
theorem Zh.ev (a0 : Int) (r : Int) (h : Zh a0 = r) (σ : Store) : ACalls qh 111 [.int .u64 a0] σ (fun r' σ' => r' = .int .i64 r ∧ σ' = σ) :=
 (Zh.ok a0 r h).c σ
def wj (a0 : List UInt8) (a1 : Int) : Option (GRaw × Int × Int) :=
 (xe a0 a1).bind fun r1 => (if r1.2.2 = 0 then (if ((decide (r1.1 < 2)) || (decide (500 < IntKind.u64.wrap ((r1.1).tdiv 2)))) = true then some ((⟨0, 0, 0, []⟩ : GRaw), 0, 7) else (xe a0 r1.2.1).bind fun r11 => (if r11.2.2 = 0 then (if IntKind.i64.wrap ((r1.1).tmod 2) = 0 then bnd (Zh r11.1) fun r18 => some ((⟨IntKind.i64.wrap (IntKind.u64.wrap ((r1.1).tdiv 2)), IntKind.i64.wrap ((r1.1).tmod 2), r18, []⟩ : GRaw), r11.2.1, 0) else (if IntKind.u64.wrap (IntKind.i64.wrap ((qc a0 : Int) - r11.2.1)) < r11.1 then some ((⟨0, 0, 0, []⟩ : GRaw), 0, 2) else (grd ((0 : Int) ≤ r11.2.1 ∧ r11.2.1 ≤ IntKind.i64.wrap (r11.2.1 + (IntKind.i64.wrap r11.1)) ∧ IntKind.i64.wrap (r11.2.1 + (IntKind.i64.wrap r11.1)) ≤ (qc a0 : Int))).bind fun _u25 => some ((⟨IntKind.i64.wrap (IntKind.u64.wrap ((r1.1).tdiv 2)), IntKind.i64.wrap ((r1.1).tmod 2), 0, YF a0 r11.2.1 (IntKind.i64.wrap (r11.2.1 + (IntKind.i64.wrap r11.1)))⟩ : GRaw), IntKind.i64.wrap (r11.2.1 + (IntKind.i64.wrap r11.1)), 0))) else some ((⟨0, 0, 0, []⟩ : GRaw), 0, r11.2.2))) else some ((⟨0, 0, 0, []⟩ : GRaw), 0, r1.2.2))
theorem wj.ok (a0 : List UInt8) (a1 : Int) (r : GRaw × Int × Int) (h : wj a0 a1 = some r) : ACalls qh 83 [.ds true (qg encB a0) (qc a0) false, .int .i64 a1] [] (fun r' _ => r' = .tup [.agg (encGRaw r.1), .int .i64 r.2.1, .int .i64 r.2.2]) := by
 refine zn (rs := [.cell 4 33, .tmp 5, .tmp 6]) tok Tryd.func83 rfl Tryd.ntmps83 rfl Tryd.call83 (by simp) ?_
 refine zt [(0, .ds true (qg encB a0) (qc a0) false), (1, .int .i64 a1)] ⟨rfl, rfl, trivial⟩ ?_
 unfold wj at h
 refine rg tok [0, 1, 4] fun K hK => ?_
 simp only [go_sem, qb, qa, reduceCtorEq]
 apply hK
 refine rc [0, 1, 4, 7, 8] fun K hK => ?_
 obtain ⟨r1, hr1, h⟩ := bind_some h
 refine zb tok 2 ?_
 simp only [go_sem, qb, qa, reduceCtorEq]
 refine zi rfl rfl rfl (xe.ev a0 a1 r1 hr1 _) ?_
 rintro _ _ ⟨rfl, rfl⟩
 refine zb tok 7 ?_
 simp only [go_sem, qb, qa, qd, reduceCtorEq]
 refine za ?_
 simp only [ze, upd, qa, reduceIte, zl, zq]
 apply hK
 refine zd fun Z2 hZ2 => ?_
 refine zk ?_
 refine rg tok [0, 1, 4, 7, 8, 19] fun K hK => ?_
 simp only [go_sem, qb, qa, reduceCtorEq]
 apply hK
 refine zI rfl (fun hc3 => ?_) (fun hc3 => ?_)
 · rw [if_neg hc3] at h
   have t4 := eq_false hc3
   refine rg tok [4, 5, 6] fun K hK => ?_
   simp only [go_sem, qb, qe, qa, qd, reduceCtorEq, t4]
   apply hK
   refine zj ?_
   obtain rfl := Option.some.inj h
   exact yr
 rw [if_pos hc3] at h
 have t5 := eq_true hc3
 refine rc [0, 1, 4, 7, 24] fun K hK => ?_
 refine zb tok 3 ?_
 simp only [go_sem, qb, qa, reduceCtorEq, t5]
 refine zo 4 (fun L τ => L = ([(0, .ds true (qg encB a0) (qc a0) false), (1, .int .i64 r1.2.1), (4, .op 0 0 0), (7, .int .u64 r1.1), (31, .bool ((decide (r1.1 < 2)) || (decide (500 < IntKind.u64.wrap ((r1.1).tdiv 2)))))] : List (Nat × AV)) ∧ τ = ([.cells 0 [.int .i64 0, .int .i64 0, .int .i64 0, .str []]] : Store)) ?_ ?_
 · refine yN 27 rfl (fun hg27 => ?_) (fun hg27 => ?_)
   · have t6 := eq_true hg27
     refine zb tok 4 ?_
     simp only [go_sem, qb, qa, reduceCtorEq]
     refine za ⟨rfl, _, _, ⟨rfl, rfl⟩, .p t6⟩
   have t7 := eq_false hg27
   refine zb tok 4 ?_
   simp only [go_sem, qb, qa, reduceCtorEq, Int.reduceEq]
   refine za ⟨rfl, _, _, ⟨rfl, rfl⟩, .p t7⟩
 rintro _ _ ⟨rfl, rfl⟩
 refine zb tok 1 ?_
 simp only [go_sem, qb, qa, reduceCtorEq]
 refine za ?_
 simp only [ze, upd, qa, reduceIte, zl, zq]
 apply hK
 refine zv (b := ((decide (r1.1 < 2)) || (decide (500 < IntKind.u64.wrap ((r1.1).tdiv 2))))) rfl (fun hc8 => ?_) (fun hc8 => ?_)
 · rw [if_pos hc8] at h
   refine rg tok [4, 5, 6] fun K hK => ?_
   simp only [go_sem, qb, qe, qa, qd, reduceCtorEq]
   apply hK
   refine zj ?_
   obtain rfl := Option.some.inj h
   exact yr
 rw [xD hc8] at h
 refine zh ?_
 apply hZ2
 have f9 := xv (T := tab) (src := 85) (dst := 3) rfl rfl rfl
 have f10 := xv (T := tab) (src := 85) (dst := 3) rfl rfl rfl
 refine rg tok [0, 1, 4, 9] fun K hK => ?_
 simp only [go_sem, qb, qe, qa, qd, reduceCtorEq, f9, Int.reduceEq]
 apply hK
 refine rc [0, 1, 4, 8, 9, 10] fun K hK => ?_
 obtain ⟨r11, hr11, h⟩ := bind_some h
 refine zb tok 2 ?_
 simp only [go_sem, qb, qa, reduceCtorEq]
 refine zi rfl rfl rfl (xe.ev a0 r1.2.1 r11 hr11 _) ?_
 rintro _ _ ⟨rfl, rfl⟩
 refine zb tok 7 ?_
 simp only [go_sem, qb, qa, qd, reduceCtorEq]
 refine za ?_
 simp only [ze, upd, qa, reduceIte, zl, zq]
 apply hK
 refine zd fun Z12 hZ12 => ?_
 refine zk ?_
 refine rg tok [0, 1, 4, 8, 9, 10, 47] fun K hK => ?_
 simp only [go_sem, qb, qa, reduceCtorEq]
 apply hK
 refine zI rfl (fun hc13 => ?_) (fun hc13 => ?_)
 · rw [if_neg hc13] at h
   have t14 := eq_false hc13
   refine rg tok [4, 5, 6] fun K hK => ?_
   simp only [go_sem, qb, qe, qa, qd, reduceCtorEq, t14]
   apply hK
   refine zj ?_
   obtain rfl := Option.some.inj h
   exact yr
 rw [if_pos hc13] at h
 have t15 := eq_true hc13
 refine rg tok [0, 1, 4, 9, 10, 52] fun K hK => ?_
 simp only [go_sem, qb, qa, qd, reduceCtorEq, t15]
 apply hK
 refine zI rfl (fun hc16 => ?_) (fun hc16 => ?_)
 · rw [if_pos hc16] at h
   have t17 := eq_true hc16
   refine rc [1, 4, 9] fun K hK => ?_
   obtain ⟨r18, hr18, h⟩ := zS h
   refine zb tok 1 ?_
   simp only [go_sem, qb, qa, reduceCtorEq, t17]
   refine zi rfl rfl rfl (Zh.ev r11.1 r18 hr18 _) ?_
   rintro _ _ ⟨rfl, rfl⟩
   refine zb tok 2 ?_
   simp only [go_sem, qb, qe, qa, qd, reduceCtorEq, encGRaw]
   refine za ?_
   simp only [ze, upd, qa, reduceIte, zl, zq]
   apply hK
   refine rg tok [4, 5, 6] fun K hK => ?_
   simp only [go_sem, qb, qe, qa, qd]
   apply hK
   refine zj ?_
   obtain rfl := Option.some.inj h
   exact yr
 rw [if_neg hc16] at h
 have t19 := eq_false hc16
 have f20 := xv (T := tab) (src := 3) (dst := 85) rfl rfl rfl
 refine rg tok [0, 1, 4, 9, 10, 61] fun K hK => ?_
 simp only [go_sem, qb, qa, reduceCtorEq, t19, f20]
 apply hK
 refine zI rfl (fun hc21 => ?_) (fun hc21 => ?_)
 · rw [if_pos hc21] at h
   have t22 := eq_true hc21
   refine rg tok [4, 5, 6] fun K hK => ?_
   simp only [go_sem, qb, qe, qa, qd, reduceCtorEq, t22]
   apply hK
   refine zj ?_
   obtain rfl := Option.some.inj h
   exact yr
 rw [if_neg hc21] at h
 have t23 := eq_false hc21
 refine zh ?_
 apply hZ12
 have f24 := xv (T := tab) (src := 85) (dst := 3) rfl rfl rfl
 refine rg tok [0, 1, 4, 9, 11] fun K hK => ?_
 simp only [go_sem, qb, qa, reduceCtorEq, t23, f24]
 apply hK
 obtain ⟨_u25, hu25, h⟩ := bind_some h
 have gu25 := wy hu25
 have f26 := E35.sl_lh gu25
 have f27 := conv_b2s (T := tab) (src := 35) (dst := 9) rfl rfl rfl rfl rfl rfl (YF a0 r11.2.1 (IntKind.i64.wrap (r11.2.1 + (IntKind.i64.wrap r11.1))))
 refine rg tok [4, 9, 11] fun K hK => ?_
 simp only [go_sem, qb, qe, qa, qd, reduceCtorEq, f26, f27]
 apply hK
 refine rg tok [4, 5, 6] fun K hK => ?_
 simp only [go_sem, qb, qe, qa, qd]
 apply hK
 refine zj ?_
 obtain rfl := Option.some.inj h
 exact yr
theorem wj.ev (a0 : List UInt8) (a1 : Int) (r : GRaw × Int × Int) (h : wj a0 a1 = some r) (σ : Store) : ACalls qh 83 [.ds true (qg encB a0) (qc a0) false, .int .i64 a1] σ (fun r' σ' => r' = .tup [.agg (encGRaw r.1), .int .i64 r.2.1, .int .i64 r.2.2] ∧ σ' = σ) :=
 (wj.ok a0 a1 r h).c σ
def y7.l12 (a0 : List UInt8) : Nat → List GRaw → Int → Option (List GRaw × Int)
 | 0, _, _ => none
 | k12 + 1, l6, x8 => (if x8 < (qc a0 : Int) then (wj a0 x8).bind fun r16 => (if r16.2.2 = 0 then (YN (qc l6 + 1) 40).bind fun _u21 => ((y7.l12 a0 k12) (l6 ++ [r16.1]) r16.2.1) else some (([] : List GRaw), r16.2.2)) else some (l6, 0))
def y7 (a0 : List UInt8) : Option (List GRaw × Int) :=
 (if 4096 < (qc a0 : Int) then some (([] : List GRaw), 4) else (y7.l12 a0 rounds ([] : List GRaw) 0))
theorem y7.ok (a0 : List UInt8) (r : List GRaw × Int) (h : y7 a0 = some r) : ACalls qh 55 [.ds true (qg encB a0) (qc a0) false] [] (fun r' _ => r' = .tup [.ds true (qg encGRaw r.1) (qc r.1) false, .int .i64 r.2]) := by
 refine zn (rs := [.tmp 2, .tmp 3]) tok Tryd.func55 rfl Tryd.ntmps55 rfl Tryd.call55 (by simp) ?_
 refine zt [(0, .ds true (qg encB a0) (qc a0) false)] ⟨rfl, trivial⟩ ?_
 unfold y7 at h
 refine rg tok [0] fun K hK => ?_
 simp only [go_sem, qb, reduceCtorEq]
 apply hK
 refine zd fun Z1 hZ1 => ?_
 refine rg tok [0, 11] fun K hK => ?_
 simp only [go_sem, qb, qa, reduceCtorEq]
 apply hK
 refine zI rfl (fun hc2 => ?_) (fun hc2 => ?_)
 · rw [if_pos hc2] at h
   have t3 := eq_true hc2
   refine rg tok [2, 3] fun K hK => ?_
   simp only [go_sem, qb, qa, reduceCtorEq, t3]
   apply hK
   refine zj ?_
   obtain rfl := Option.some.inj h
   exact yr
 rw [if_neg hc2] at h
 have t4 := eq_false hc2
 refine zh ?_
 apply hZ1
 refine rg tok [0, 4] fun K hK => ?_
 simp only [go_sem, qb, qa, reduceCtorEq, t4]
 apply hK
 refine Zm 4 4 rfl ?_
 refine yc (L := [(0, .ds true (qg encB a0) (qc a0) false), (4, .os true 4 0 0 0 (qc ([] : List GRaw)) false)]) (τ := [.cells 0 (qg encGRaw ([] : List GRaw))]) .s ?_
 refine zd fun Z5 hZ5 => ?_
 refine rg tok [0, 4, 5] fun K hK => ?_
 simp only [go_sem, qb, qa, reduceCtorEq]
 apply hK
 refine zk ?_
 refine zF (fun m L τ => ∃ (k12 : Nat) (l6 : List GRaw) (x8 : Int) (v7 : Nat), m = 0 + k12 ∧ L = ([(0, .ds true (qg encB a0) (qc a0) false), (4, .os true 4 0 v7 0 (qc l6) false), (5, .int .i64 x8)] : List (Nat × AV)) ∧ τ = ([.cells v7 (qg encGRaw l6)] : Store) ∧ y7.l12 a0 k12 l6 x8 = some r) _ ⟨rounds, ([] : List GRaw), 0, 0, rfl, rfl, rfl, h⟩ .s ?_
 rintro m L τ ⟨k12, l6, x8, v7, rfl, rfl, rfl, h⟩
 rcases k12 with _ | k12
 · cases h
 simp only [y7.l12] at h
 refine zd fun Z13 hZ13 => ?_
 refine rg tok [0, 4, 5, 15] fun K hK => ?_
 simp only [go_sem, qb, qa, reduceCtorEq]
 apply hK
 refine zI rfl (fun hc14 => ?_) (fun hc14 => ?_)
 · rw [if_pos hc14] at h
   have t15 := eq_true hc14
   refine zh ?_
   apply hZ13
   refine zk ?_
   refine rc [0, 4, 6, 7, 8] fun K hK => ?_
   obtain ⟨r16, hr16, h⟩ := bind_some h
   refine zb tok 2 ?_
   simp only [go_sem, qb, qa, reduceCtorEq, t15]
   refine zi rfl rfl rfl (wj.ev a0 x8 r16 hr16 _) ?_
   rintro _ _ ⟨rfl, rfl⟩
   refine zb tok 8 ?_
   simp only [go_sem, qb, qe, qa, qd, reduceCtorEq, encGRaw]
   refine za ?_
   simp only [ze, upd, qa, reduceIte, zl, zq]
   apply hK
   refine zd fun Z17 hZ17 => ?_
   refine rg tok [0, 4, 6, 7, 8, 24] fun K hK => ?_
   simp only [go_sem, qb, qa, reduceCtorEq]
   apply hK
   refine zI rfl (fun hc18 => ?_) (fun hc18 => ?_)
   · rw [if_neg hc18] at h
     have t19 := eq_false hc18
     refine rg tok [2, 3] fun K hK => ?_
     simp only [go_sem, qb, qa, reduceCtorEq, t19]
     apply hK
     refine zj ?_
     obtain rfl := Option.some.inj h
     exact yr
   rw [if_pos hc18] at h
   have t20 := eq_true hc18
   refine zh ?_
   apply hZ17
   obtain ⟨_u21, hu21, h⟩ := bind_some h
   have gu21 := yy hu21
   have f22 := (zK E22.len l6)
   refine rg tok [0, 4, 7] fun K hK => ?_
   simp only [go_sem, qb, qe, qa, qd, qw, reduceCtorEq, zR, z8, ug, qY, true_and, ul, yn, zY, yq, t20, gu21, f22, yS, uf, qZ, AV.one, qS, qA, qk, qn, qt, qC]
   apply hK
   refine yc (L := [(0, .ds true (qg encB a0) (qc a0) false), (4, .os true 4 0 (v7 + 1) 0 (qc (l6 ++ [r16.1])) false), (7, .int .i64 r16.2.1)]) (τ := [.cells (v7 + 1) (qg encGRaw (l6 ++ [r16.1])), .cells 0 [.int .i64 r16.1.fTag, .int .i64 r16.1.fWire, .int .i64 r16.1.fN, .str r16.1.fB], .cells 0 [.int .i64 r16.1.fTag, .int .i64 r16.1.fWire, .int .i64 r16.1.fN, .str r16.1.fB]]) .s ?_
   refine rgE tok [0, 4, 5] fun K hK => ?_
   simp only [go_sem, qb, qa, reduceCtorEq]
   apply hK
   exact ⟨_, _, _, qu (0 + k12), ⟨k12, l6 ++ [r16.1], r16.2.1, v7 + 1, rfl, rfl, rfl, h⟩, (.t [0] false)⟩
 rw [if_neg hc14] at h
 have t23 := eq_false hc14
 refine zM ?_
 apply hZ5
 refine rg tok [2, 3] fun K hK => ?_
 simp only [go_sem, qb, qa, reduceCtorEq, t23]
 apply hK
 refine zj ?_
 obtain rfl := Option.some.inj h
 exact yr
theorem y7.ev (a0 : List UInt8) (r : List GRaw × Int) (h : y7 a0 = some r) (σ : Store) : ACalls qh 55 [.ds true (qg encB a0) (qc a0) false] σ (fun r' σ' => r' = .tup [.ds true (qg encGRaw r.1) (qc r.1) false, .int .i64 r.2] ∧ σ' = σ) :=
 (y7.ok a0 r h).c σ
def zm.l4 (a1 : Int) : List GField → Int → GField × Bool
 | [], x2 => ((⟨[], 0, 0, (⟨0, []⟩ : GType)⟩ : GField), false)
 | y4 :: q4, x2 => (if y4.fTag = a1 then (y4, true) else ((zm.l4 a1 q4) (x2 + 1)))
def zm (a0 : GMessage) (a1 : Int) : GField × Bool :=
 (zm.l4 a1 a0.fFields 0)
theorem zm.ok (a0 : GMessage) (a1 : Int) (r : GField × Bool) (h : zm a0 a1 = r) : ACalls qh 56 [.agg (encGMessage a0), .int .i64 a1] [] (fun r' _ => r' = .tup [.agg (encGField r.1), .bool r.2]) := by
 refine zn (rs := [.cell 4 52, .tmp 5]) tok Tryd.func56 rfl Tryd.ntmps56 rfl Tryd.call56 (by simp) ?_
 refine zt [(0, .agg (encGMessage a0)), (1, .int .i64 a1)] ⟨rfl, rfl, trivial⟩ ?_
 unfold zm at h
 refine rg tok [1, 2, 4] fun K hK => ?_
 simp only [go_sem, qb, qa, qd, reduceCtorEq, encGMessage]
 apply hK
 refine zd fun Z1 hZ1 => ?_
 refine rg tok [1, 4, 9, 10, 11] fun K hK => ?_
 simp only [go_sem, qb, qa, qd]
 apply hK
 refine zk ?_
 refine yW 9 fun hb4 => ?_
 replace hb4 : qc a0.fFields ≤ 9223372036854775807 := hb4.1
 refine zF (fun m L τ => ∃ (p4 q4 : List GField) (x2 : Int), m = qc q4 ∧ L = ([(1, .int .i64 a1), (4, .op 0 0 0), (9, .ds true (qg encGField a0.fFields) (qc a0.fFields) false), (10, .int .i64 (qc a0.fFields : Int)), (11, .int .i64 x2)] : List (Nat × AV)) ∧ τ = ([.cells 0 [.str [], .int .i64 0, .int .i64 0, .int .i64 0, .str []]] : Store) ∧ a0.fFields = p4 ++ q4 ∧ x2 = (qc p4 : Int) ∧ zm.l4 a1 q4 x2 = r) _ ⟨[], a0.fFields, 0, rfl, rfl, rfl, rfl, rfl, h⟩ (.t [1] false) ?_
 rintro m L τ ⟨p4, q4, x2, rfl, rfl, rfl, hE4, hi4, h⟩
 rcases q4 with _ | ⟨y4, q4⟩
 · have hz4 := yz hE4 hi4
   simp only [zm.l4] at h
   refine rg tok [1, 4, 9, 10, 11, 12] fun K hK => ?_
   simp only [go_sem, qb, qa, hz4]
   apply hK
   refine zd fun Z5 hZ5 => ?_
   refine zz rfl ?_
   refine zM ?_
   apply hZ1
   refine rg tok [4, 5] fun K hK => ?_
   simp only [go_sem, qb, qe, qa, qd]
   apply hK
   refine zj ?_
   obtain rfl := h
   exact yr
 obtain ⟨hz4, hw4, hx4, hE'4, hi'4⟩ := yg hE4 hi4 hb4
 simp only [zm.l4] at h
 refine rg tok [1, 4, 9, 10, 11, 12] fun K hK => ?_
 simp only [go_sem, qb, qa, hz4]
 apply hK
 refine zd fun Z6 hZ6 => ?_
 refine zB rfl ?_
 refine zh ?_
 apply hZ6
 refine zd fun Z7 hZ7 => ?_
 refine zk ?_
 have f8 := E23.idxS hx4
 have f9 := E23.loadS rfl rfl hx4
 refine rg tok [1, 4, 7, 9, 10, 11] fun K hK => ?_
 simp only [go_sem, qb, qe, qa, qd, encGField, f8, f9]
 apply hK
 refine rg tok [1, 4, 7, 9, 10, 11, 18] fun K hK => ?_
 simp only [go_sem, qb, qa, qd]
 apply hK
 refine zI rfl (fun hc10 => ?_) (fun hc10 => ?_)
 · rw [if_pos hc10] at h
   have t11 := eq_true hc10
   refine rg tok [4, 5] fun K hK => ?_
   simp only [go_sem, qb, qe, qa, qd, t11]
   apply hK
   refine zj ?_
   obtain rfl := h
   exact yr
 rw [if_neg hc10] at h
 have t12 := eq_false hc10
 refine zh ?_
 apply hZ7
 refine rgE tok [1, 4, 9, 10, 11] fun K hK => ?_
 simp only [go_sem, qb, qa, hw4, t12]
 apply hK
 exact ⟨_, _, _, qu q4.length, ⟨p4 ++ [y4], q4, x2 + 1, rfl, rfl, rfl, hE'4, hi'4, h⟩, (.t [0] false)⟩
theorem zm.ev (a0 : GMessage) (a1 : Int) (r : GField × Bool) (h : zm a0 a1 = r) (σ : Store) : ACalls qh 56 [.agg (encGMessage a0), .int .i64 a1] σ (fun r' σ' => r' = .tup [.agg (encGField r.1), .bool r.2] ∧ σ' = σ) :=
 (zm.ok a0 a1 r h).c σ
def xj (a0 : GType) (a1 : Int) : Bool :=
 (if a0.fKind = 1 then ((decide ((-2147483648) ≤ a1)) && (decide (a1 ≤ 2147483647))) else (if a0.fKind = 3 then ((decide (a1 = 0)) || (decide (a1 = 1))) else (if a0.fKind = 6 then ((decide (0 ≤ a1)) && (decide (a1 ≤ 2147483647))) else decide (a0.fKind = 2))))
theorem xj.ok (a0 : GType) (a1 : Int) (r : Bool) (h : xj a0 a1 = r) : ACalls qh 84 [.agg (encGType a0), .int .i64 a1] [] (fun r' _ => r' = .bool r) := by
 refine zn (rs := [.tmp 4]) tok Tryd.func84 rfl Tryd.ntmps84 rfl Tryd.call84 (by simp) ?_
 refine zt [(0, .agg (encGType a0)), (1, .int .i64 a1)] ⟨rfl, rfl, trivial⟩ ?_
 unfold xj at h
 refine rg tok [1, 2] fun K hK => ?_
 simp only [go_sem, qb, qa, qd, reduceCtorEq, encGType]
 apply hK
 refine zd fun Z1 hZ1 => ?_
 refine rg tok [1, 2, 6] fun K hK => ?_
 simp only [go_sem, qb, qa, qd]
 apply hK
 refine zk ?_
 refine rg tok [1, 2, 6, 7] fun K hK => ?_
 simp only [go_sem, qb, qa]
 apply hK
 refine zI rfl (fun hc2 => ?_) (fun hc2 => ?_)
 · rw [if_pos hc2] at h
   have t3 := eq_true hc2
   refine rc [4] fun K hK => ?_
   refine zb tok 3 ?_
   simp only [go_sem, qb, qa, t3]
   refine zo 3 (fun L τ => L = ([(14, .bool ((decide ((-2147483648) ≤ a1)) && (decide (a1 ≤ 2147483647))))] : List (Nat × AV)) ∧ τ = ([.cells 0 [.int .i64 a0.fKind, .str a0.fName]] : Store)) ?_ ?_
   · refine yN 11 rfl (fun hg11 => ?_) (fun hg11 => ?_)
     · have t4 := eq_true hg11
       refine zb tok 3 ?_
       simp only [go_sem, qb, qa]
       refine za ⟨rfl, _, _, ⟨rfl, rfl⟩, .p t4⟩
     have t5 := eq_false hg11
     refine zb tok 3 ?_
     simp only [go_sem, qb, qa]
     refine za ⟨rfl, _, _, ⟨rfl, rfl⟩, .p t5⟩
   rintro _ _ ⟨rfl, rfl⟩
   refine zb tok 1 ?_
   simp only [go_sem, qb]
   refine za ?_
   simp only [ze, upd, qa, reduceIte, zl, zq]
   apply hK
   refine zj ?_
   obtain rfl := h
   exact yr
 rw [if_neg hc2] at h
 have t6 := eq_false hc2
 refine rg tok [1, 2, 6, 15] fun K hK => ?_
 simp only [go_sem, qb, qa, t6]
 apply hK
 refine zI rfl (fun hc7 => ?_) (fun hc7 => ?_)
 · rw [if_pos hc7] at h
   have t8 := eq_true hc7
   refine rc [4] fun K hK => ?_
   refine zb tok 3 ?_
   simp only [go_sem, qb, qa, t8]
   refine zo 3 (fun L τ => L = ([(22, .bool ((decide (a1 = 0)) || (decide (a1 = 1))))] : List (Nat × AV)) ∧ τ = ([.cells 0 [.int .i64 a0.fKind, .str a0.fName]] : Store)) ?_ ?_
   · refine yN 19 rfl (fun hg19 => ?_) (fun hg19 => ?_)
     · have t9 := eq_true hg19
       refine zb tok 3 ?_
       simp only [go_sem, qb, qa]
       refine za ⟨rfl, _, _, ⟨rfl, rfl⟩, .p t9⟩
     have t10 := eq_false hg19
     refine zb tok 3 ?_
     simp only [go_sem, qb, qa]
     refine za ⟨rfl, _, _, ⟨rfl, rfl⟩, .p t10⟩
   rintro _ _ ⟨rfl, rfl⟩
   refine zb tok 1 ?_
   simp only [go_sem, qb]
   refine za ?_
   simp only [ze, upd, qa, reduceIte, zl, zq]
   apply hK
   refine zj ?_
   obtain rfl := h
   exact yr
 rw [if_neg hc7] at h
 have t11 := eq_false hc7
 refine rg tok [1, 2, 23] fun K hK => ?_
 simp only [go_sem, qb, qa, t11]
 apply hK
 refine zI rfl (fun hc12 => ?_) (fun hc12 => ?_)
 · rw [if_pos hc12] at h
   have t13 := eq_true hc12
   refine rc [4] fun K hK => ?_
   refine zb tok 3 ?_
   simp only [go_sem, qb, qa, t13]
   refine zo 3 (fun L τ => L = ([(30, .bool ((decide (0 ≤ a1)) && (decide (a1 ≤ 2147483647))))] : List (Nat × AV)) ∧ τ = ([.cells 0 [.int .i64 a0.fKind, .str a0.fName]] : Store)) ?_ ?_
   · refine yN 27 rfl (fun hg27 => ?_) (fun hg27 => ?_)
     · have t14 := eq_true hg27
       refine zb tok 3 ?_
       simp only [go_sem, qb, qa]
       refine za ⟨rfl, _, _, ⟨rfl, rfl⟩, .p t14⟩
     have t15 := eq_false hg27
     refine zb tok 3 ?_
     simp only [go_sem, qb, qa]
     refine za ⟨rfl, _, _, ⟨rfl, rfl⟩, .p t15⟩
   rintro _ _ ⟨rfl, rfl⟩
   refine zb tok 1 ?_
   simp only [go_sem, qb]
   refine za ?_
   simp only [ze, upd, qa, reduceIte, zl, zq]
   apply hK
   refine zj ?_
   obtain rfl := h
   exact yr
 rw [if_neg hc12] at h
 have t16 := eq_false hc12
 refine zh ?_
 apply hZ1
 refine rg tok [4] fun K hK => ?_
 simp only [go_sem, qb, qa, qd, t16]
 apply hK
 refine zj ?_
 obtain rfl := h
 exact yr
theorem xj.ev (a0 : GType) (a1 : Int) (r : Bool) (h : xj a0 a1 = r) (σ : Store) : ACalls qh 84 [.agg (encGType a0), .int .i64 a1] σ (fun r' σ' => r' = .bool r ∧ σ' = σ) :=
 (xj.ok a0 a1 r h).c σ
def xp (a0 : GEntry) (a1 : Int) : Int :=
 IntKind.i64.wrap (a0.fTag - a1)
theorem xp.ok (a0 : GEntry) (a1 : Int) (r : Int) (h : xp a0 a1 = r) : ACalls qh 87 [.agg (cellsGEntry a0), .int .i64 a1] [] (fun r' _ => r' = .int .i64 r) := by
 refine zn (rs := [.tmp 4]) tok Tryd.func87 rfl Tryd.ntmps87 rfl Tryd.call87 (by simp) ?_
 refine zt [(0, .agg (cellsGEntry a0)), (1, .int .i64 a1)] ⟨rfl, rfl, trivial⟩ ?_
 unfold xp at h
 refine rg tok [1, 2] fun K hK => ?_
 simp only [go_sem, qb, qa, qd, reduceCtorEq, cellsGEntry]
 apply hK
 refine rg tok [4] fun K hK => ?_
 simp only [go_sem, qb, qa, qd]
 apply hK
 refine zj ?_
 obtain rfl := h
 exact yr
theorem xp.ev (a0 : GEntry) (a1 : Int) (r : Int) (h : xp a0 a1 = r) (σ : Store) : ACalls qh 87 [.agg (cellsGEntry a0), .int .i64 a1] σ (fun r' σ' => r' = .int .i64 r ∧ σ' = σ) :=
 (xp.ok a0 a1 r h).c σ
def zp.l6 (a0 : List GEntry) (a1 : Int) : Nat → Int → Int → Option (Int × Bool)
 | 0, _, _ => none
 | k6 + 1, x2, x3 => (if x2 < x3 then (Zj a0 (IntKind.i64.wrap (Int.fdiv (IntKind.u64.wrap (IntKind.i64.wrap (x2 + x3))) (2 ^ (min (qB 1) 64))))).bind fun y12 => bnd (xp y12 a1) fun r15 => (if r15 < 0 then ((zp.l6 a0 a1 k6) (IntKind.i64.wrap ((IntKind.i64.wrap (Int.fdiv (IntKind.u64.wrap (IntKind.i64.wrap (x2 + x3))) (2 ^ (min (qB 1) 64)))) + 1)) x3) else ((zp.l6 a0 a1 k6) x2 (IntKind.i64.wrap (Int.fdiv (IntKind.u64.wrap (IntKind.i64.wrap (x2 + x3))) (2 ^ (min (qB 1) 64)))))) else (if x2 < (qc a0 : Int) then (Zj a0 x2).bind fun y20 => bnd (xp y20 a1) fun r23 => some (decide (r23 = 0)) else some false).bind fun c20 => some (x2, c20))
def zp (a0 : List GEntry) (a1 : Int) : Option (Int × Bool) :=
 (zp.l6 a0 a1 rounds 0 (qc a0 : Int))
theorem zp.ok (a0 : List GEntry) (a1 : Int) (r : Int × Bool) (h : zp a0 a1 = some r) : ACalls qh 86 [.ds true (qg encGEntry a0) (qc a0) false, .int .i64 a1, .fn (.func 87) [] []] [] (fun r' _ => r' = .tup [.int .i64 r.1, .bool r.2]) := by
 refine zn (rs := [.tmp 6, .tmp 7]) tok Tryd.func86 rfl Tryd.ntmps86 rfl Tryd.call86 (by simp) ?_
 refine zt [(0, .ds true (qg encGEntry a0) (qc a0) false), (1, .int .i64 a1), (2, .fn (.func 87) [] [])] ⟨rfl, rfl, rfl, trivial⟩ ?_
 unfold zp at h
 refine rg tok [0, 1, 2] fun K hK => ?_
 simp only [go_sem, qb, qa, reduceCtorEq]
 apply hK
 refine rg tok [0, 1, 2, 8] fun K hK => ?_
 simp only [go_sem, qb, qa, reduceCtorEq]
 apply hK
 refine rg tok [0, 1, 2, 8, 9, 10] fun K hK => ?_
 simp only [go_sem, qb, qa, reduceCtorEq]
 apply hK
 refine zd fun Z1 hZ1 => ?_
 refine zk ?_
 refine zF (fun m L τ => ∃ (k6 : Nat) (x2 : Int) (x3 : Int), m = 0 + k6 ∧ L = ([(0, .ds true (qg encGEntry a0) (qc a0) false), (1, .int .i64 a1), (2, .fn (.func 87) [] []), (8, .int .i64 (qc a0 : Int)), (9, .int .i64 x2), (10, .int .i64 x3)] : List (Nat × AV)) ∧ τ = ([] : Store) ∧ zp.l6 a0 a1 k6 x2 x3 = some r) _ ⟨rounds, 0, (qc a0 : Int), rfl, rfl, rfl, h⟩ .s ?_
 rintro m L τ ⟨k6, x2, x3, rfl, rfl, rfl, h⟩
 rcases k6 with _ | k6
 · cases h
 simp only [zp.l6] at h
 refine zd fun Z7 hZ7 => ?_
 refine rg tok [0, 1, 2, 8, 9, 10, 17] fun K hK => ?_
 simp only [go_sem, qb, qa, reduceCtorEq]
 apply hK
 refine zI rfl (fun hc8 => ?_) (fun hc8 => ?_)
 · rw [if_pos hc8] at h
   have t9 := eq_true hc8
   refine zh ?_
   apply hZ7
   refine zk ?_
   have f10 := xv (T := tab) (src := 3) (dst := 116) rfl rfl rfl
   have f11 := xv (T := tab) (src := 116) (dst := 3) rfl rfl rfl
   refine rg tok [0, 1, 2, 8, 9, 10, 11] fun K hK => ?_
   simp only [go_sem, qb, qa, reduceCtorEq, t9, f10, f11, ZO, Int.reduceLT]
   apply hK
   refine rc [0, 1, 2, 8, 9, 10, 11, 31] fun K hK => ?_
   obtain ⟨y12, hy12, h⟩ := bind_some h
   have f13 := E40.idxS hy12
   have f14 := E40.loadS rfl rfl hy12
   obtain ⟨r15, hr15, h⟩ := zS h
   refine zb tok 6 ?_
   simp only [go_sem, qb, qa, reduceCtorEq, cellsGEntry, yY, f13, f14]
   refine zi rfl rfl rfl (xp.ev y12 a1 r15 hr15 _) ?_
   rintro _ _ ⟨rfl, rfl⟩
   refine zb tok 1 ?_
   simp only [go_sem, qb, qa, reduceCtorEq]
   refine za ?_
   simp only [ze, upd, qa, reduceIte, zl, zq]
   apply hK
   refine zI rfl (fun hc16 => ?_) (fun hc16 => ?_)
   · rw [if_pos hc16] at h
     have t17 := eq_true hc16
     refine rgE tok [0, 1, 2, 8, 9, 10] fun K hK => ?_
     simp only [go_sem, qb, qa, reduceCtorEq, t17]
     apply hK
     exact ⟨_, _, _, qu (0 + k6), ⟨k6, IntKind.i64.wrap ((IntKind.i64.wrap (Int.fdiv (IntKind.u64.wrap (IntKind.i64.wrap (x2 + x3))) (2 ^ (min (qB 1) 64)))) + 1), x3, rfl, rfl, rfl, h⟩, .s⟩
   rw [if_neg hc16] at h
   have t18 := eq_false hc16
   refine rgE tok [0, 1, 2, 8, 9, 10] fun K hK => ?_
   simp only [go_sem, qb, qa, reduceCtorEq, t18]
   apply hK
   exact ⟨_, _, _, qu (0 + k6), ⟨k6, x2, IntKind.i64.wrap (Int.fdiv (IntKind.u64.wrap (IntKind.i64.wrap (x2 + x3))) (2 ^ (min (qB 1) 64))), rfl, rfl, rfl, h⟩, .s⟩
 rw [if_neg hc8] at h
 have t19 := eq_false hc8
 refine zM ?_
 apply hZ1
 refine rc [6, 7] fun K hK => ?_
 refine zb tok 5 ?_
 simp only [go_sem, qb, qa, reduceCtorEq, t19]
 obtain ⟨c20, hc20, h⟩ := bind_some h
 refine zo 9 (fun L τ => L = ([(35, .int .i64 x2), (48, .bool c20)] : List (Nat × AV)) ∧ τ = ([] : Store)) ?_ ?_
 · refine yN 39 rfl (fun hg39 => ?_) (fun hg39 => ?_)
   · have t21 := eq_true hg39
     rw [if_pos hg39] at hc20
     obtain ⟨y22, hy22, hc20⟩ := bind_some hc20
     have f23 := E40.idxS hy22
     have f24 := E40.loadS rfl rfl hy22
     obtain ⟨r25, hr25, hc20⟩ := zS hc20
     refine zb tok 6 ?_
     simp only [go_sem, qb, qa, reduceCtorEq, cellsGEntry, yY, f23, f24]
     refine zi rfl rfl rfl (xp.ev y22 a1 r25 hr25 _) ?_
     rintro _ _ ⟨rfl, rfl⟩
     refine zb tok 2 ?_
     simp only [go_sem, qb, qa, reduceCtorEq]
     obtain rfl := Option.some.inj hc20
     refine za ⟨rfl, _, _, ⟨rfl, rfl⟩, .p t21⟩
   have t26 := eq_false hg39
   rw [if_neg hg39] at hc20
   refine zb tok 9 ?_
   simp only [go_sem, qb, qa, reduceCtorEq]
   obtain rfl := Option.some.inj hc20
   refine za ⟨rfl, _, _, ⟨rfl, rfl⟩, .p t26⟩
 rintro _ _ ⟨rfl, rfl⟩
 refine zb tok 2 ?_
 simp only [go_sem, qb, qa]
 refine za ?_
 simp only [ze, upd, qa, reduceIte, zl, zq]
 apply hK
 refine zj ?_
 obtain rfl := Option.some.inj h
 exact yr
def wv (a0 : GTree) : Bool :=
 ((((((decide (1 ≤ a0.fKind)) && (decide (a0.fKind ≤ 3))) && (decide (a0.fN = 0))) && (decide (a0.fS = []))) && (decide ((qc a0.fEntries : Int) = 0))) && (decide ((qc a0.fRest : Int) = 0)))
theorem wv.ok (a0 : GTree) (r : Bool) (h : wv a0 = r) : ACalls qh 61 [.agg (cellsGTree a0)] [] (fun r' _ => r' = .bool r) := by
 refine zn (rs := [.tmp 2]) tok Tryd.func61 rfl Tryd.ntmps61 rfl Tryd.call61 (by simp) ?_
 refine zt [(0, .agg (cellsGTree a0))] ⟨rfl, trivial⟩ ?_
 unfold wv at h
 refine rg tok [1] fun K hK => ?_
 simp only [go_sem, qb, qa, qd, reduceCtorEq, cellsGTree]
 apply hK
 refine rc [2] fun K hK => ?_
 refine zb tok 4 ?_
 simp only [go_sem, qb, qa, qd]
 refine zo 4 (fun L τ => L = ([(1, .op 0 0 0), (10, .bool ((decide (1 ≤ a0.fKind)) && (decide (a0.fKind ≤ 3))))] : List (Nat × AV)) ∧ τ = ([.cells 0 (cellsGTree a0)] : Store)) ?_ ?_
 · refine yN 6 rfl (fun hg6 => ?_) (fun hg6 => ?_)
   · have t1 := eq_true hg6
     refine zb tok 4 ?_
     simp only [go_sem, qb, qa, qd]
     refine za ⟨rfl, _, _, ⟨rfl, rfl⟩, .p t1⟩
   have t2 := eq_false hg6
   refine zb tok 4 ?_
   simp only [go_sem, qb, qa]
   refine za ⟨rfl, _, _, ⟨rfl, rfl⟩, .p t2⟩
 rintro _ _ ⟨rfl, rfl⟩
 refine zb tok 1 ?_
 simp only [go_sem, qb, qa]
 refine zo 4 (fun L τ => L = ([(1, .op 0 0 0), (15, .bool (((decide (1 ≤ a0.fKind)) && (decide (a0.fKind ≤ 3))) && (decide (a0.fN = 0))))] : List (Nat × AV)) ∧ τ = ([.cells 0 (cellsGTree a0)] : Store)) ?_ ?_
 · refine zQ (b := ((decide (1 ≤ a0.fKind)) && (decide (a0.fKind ≤ 3)))) 11 rfl (fun hg11 => ?_) (fun hg11 => ?_)
   · refine zb tok 4 ?_
     simp only [go_sem, qb, qa, qd]
     refine za ⟨rfl, _, _, ⟨rfl, rfl⟩, .b hg11⟩
   refine zb tok 4 ?_
   simp only [go_sem, qb, qa]
   refine za ⟨rfl, _, _, ⟨rfl, rfl⟩, .b hg11⟩
 rintro _ _ ⟨rfl, rfl⟩
 refine zb tok 1 ?_
 simp only [go_sem, qb, qa]
 refine zo 4 (fun L τ => L = ([(1, .op 0 0 0), (20, .bool ((((decide (1 ≤ a0.fKind)) && (decide (a0.fKind ≤ 3))) && (decide (a0.fN = 0))) && (decide (a0.fS = []))))] : List (Nat × AV)) ∧ τ = ([.cells 0 (cellsGTree a0)] : Store)) ?_ ?_
 · refine zQ (b := (((decide (1 ≤ a0.fKind)) && (decide (a0.fKind ≤ 3))) && (decide (a0.fN = 0)))) 16 rfl (fun hg16 => ?_) (fun hg16 => ?_)
   · refine zb tok 4 ?_
     simp only [go_sem, qb, qa, qd]
     refine za ⟨rfl, _, _, ⟨rfl, rfl⟩, .b hg16⟩
   refine zb tok 4 ?_
   simp only [go_sem, qb, qa]
   refine za ⟨rfl, _, _, ⟨rfl, rfl⟩, .b hg16⟩
 rintro _ _ ⟨rfl, rfl⟩
 refine zb tok 1 ?_
 simp only [go_sem, qb, qa]
 refine zo 5 (fun L τ => L = ([(1, .op 0 0 0), (26, .bool (((((decide (1 ≤ a0.fKind)) && (decide (a0.fKind ≤ 3))) && (decide (a0.fN = 0))) && (decide (a0.fS = []))) && (decide ((qc a0.fEntries : Int) = 0))))] : List (Nat × AV)) ∧ τ = ([.cells 0 (cellsGTree a0)] : Store)) ?_ ?_
 · refine zQ (b := ((((decide (1 ≤ a0.fKind)) && (decide (a0.fKind ≤ 3))) && (decide (a0.fN = 0))) && (decide (a0.fS = [])))) 21 rfl (fun hg21 => ?_) (fun hg21 => ?_)
   · refine zb tok 5 ?_
     simp only [go_sem, qb, qa, qd]
     refine za ⟨rfl, _, _, ⟨rfl, rfl⟩, .b hg21⟩
   refine zb tok 5 ?_
   simp only [go_sem, qb, qa]
   refine za ⟨rfl, _, _, ⟨rfl, rfl⟩, .b hg21⟩
 rintro _ _ ⟨rfl, rfl⟩
 refine zb tok 1 ?_
 simp only [go_sem, qb, qa]
 refine zo 5 (fun L τ => L = ([(32, .bool ((((((decide (1 ≤ a0.fKind)) && (decide (a0.fKind ≤ 3))) && (decide (a0.fN = 0))) && (decide (a0.fS = []))) && (decide ((qc a0.fEntries : Int) = 0))) && (decide ((qc a0.fRest : Int) = 0))))] : List (Nat × AV)) ∧ τ = ([.cells 0 (cellsGTree a0)] : Store)) ?_ ?_
 · refine zQ (b := (((((decide (1 ≤ a0.fKind)) && (decide (a0.fKind ≤ 3))) && (decide (a0.fN = 0))) && (decide (a0.fS = []))) && (decide ((qc a0.fEntries : Int) = 0)))) 27 rfl (fun hg27 => ?_) (fun hg27 => ?_)
   · refine zb tok 5 ?_
     simp only [go_sem, qb, qa, qd]
     refine za ⟨rfl, _, _, ⟨rfl, rfl⟩, .b hg27⟩
   refine zb tok 5 ?_
   simp only [go_sem, qb, qa]
   refine za ⟨rfl, _, _, ⟨rfl, rfl⟩, .b hg27⟩
 rintro _ _ ⟨rfl, rfl⟩
 refine zb tok 1 ?_
 simp only [go_sem, qb]
 refine za ?_
 simp only [ze, upd, qa, reduceIte, zl, zq]
 apply hK
 refine zj ?_
 obtain rfl := h
 exact yr
theorem wv.ev (a0 : GTree) (r : Bool) (h : wv a0 = r) (σ : Store) : ACalls qh 61 [.agg (cellsGTree a0)] σ (fun r' σ' => r' = .bool r ∧ σ' = σ) :=
 (wv.ok a0 r h).c σ
def yU (a0 : GEntry) (a1 : GMessage) : Option Bool :=
 bnd (zm a1 a0.fTag) fun r1 => (if r1.1.fLabel = 1 then (Zj a0.fTrees 0).bind fun y2 => bnd (wv y2) fun r5 => some r5 else some false).bind fun c2 => some c2
theorem yU.ok (a0 : GEntry) (a1 : GMessage) (r : Bool) (h : yU a0 a1 = some r) : ACalls qh 60 [.agg (cellsGEntry a0), .dp (encGMessage a1) 0] [] (fun r' _ => r' = .bool r) := by
 refine zn (rs := [.tmp 3]) tok Tryd.func60 rfl Tryd.ntmps60 rfl Tryd.call60 (by simp) ?_
 refine zt [(0, .agg (cellsGEntry a0)), (1, .dp (encGMessage a1) 0)] ⟨rfl, rfl, trivial⟩ ?_
 unfold yU at h
 refine rg tok [1, 2] fun K hK => ?_
 simp only [go_sem, qb, qa, qd, reduceCtorEq, cellsGEntry]
 apply hK
 refine rc [2, 4] fun K hK => ?_
 obtain ⟨r1, hr1, h⟩ := zS h
 refine zb tok 3 ?_
 simp only [go_sem, qb, qe, qa, qd, encGMessage, XC]
 refine zi rfl rfl rfl (zm.ev a1 a0.fTag r1 hr1 _) ?_
 rintro _ _ ⟨rfl, rfl⟩
 refine zb tok 6 ?_
 simp only [go_sem, qb, qe, qa, qd, encGField]
 refine za ?_
 simp only [ze, upd, qa, reduceIte, zl, zq]
 apply hK
 refine rc [3] fun K hK => ?_
 refine zb tok 4 ?_
 simp only [go_sem, qb, qa, qd]
 obtain ⟨c2, hc2, h⟩ := bind_some h
 refine zo 6 (fun L τ => L = ([(22, .bool c2)] : List (Nat × AV)) ∧ τ = ([.cells 0 (cellsGEntry a0), .cells 0 (encGField r1.1)] : Store)) ?_ ?_
 · refine yN 16 rfl (fun hg16 => ?_) (fun hg16 => ?_)
   · have t3 := eq_true hg16
     rw [if_pos hg16] at hc2
     obtain ⟨y4, hy4, hc2⟩ := bind_some hc2
     have f5 := E59.idxS hy4
     have f6 := E59.loadS rfl rfl hy4
     obtain ⟨r7, hr7, hc2⟩ := zS hc2
     refine zb tok 4 ?_
     simp only [go_sem, qb, qa, qd, cellsGTree, xB, f5, f6]
     refine zi rfl rfl rfl (wv.ev y4 r7 hr7 _) ?_
     rintro _ _ ⟨rfl, rfl⟩
     refine zb tok 1 ?_
     simp only [go_sem, qb, qa]
     obtain rfl := Option.some.inj hc2
     refine za ⟨rfl, _, _, ⟨rfl, rfl⟩, .p t3⟩
   have t8 := eq_false hg16
   rw [if_neg hg16] at hc2
   refine zb tok 6 ?_
   simp only [go_sem, qb, qa]
   obtain rfl := Option.some.inj hc2
   refine za ⟨rfl, _, _, ⟨rfl, rfl⟩, .p t8⟩
 rintro _ _ ⟨rfl, rfl⟩
 refine zb tok 1 ?_
 simp only [go_sem, qb]
 refine za ?_
 simp only [ze, upd, qa, reduceIte, zl, zq]
 apply hK
 refine zj ?_
 obtain rfl := Option.some.inj h
 exact yr
theorem yU.ev (a0 : GEntry) (a1 : GMessage) (r : Bool) (h : yU a0 a1 = some r) (σ : Store) : ACalls qh 60 [.agg (cellsGEntry a0), .dp (encGMessage a1) 0] σ (fun r' σ' => r' = .bool r ∧ σ' = σ) :=
 (yU.ok a0 a1 r h).c σ
def zr.l4 (a1_0 : GMessage) : List GEntry → Int → Option Int
 | [], x2 => some (-1)
 | y4 :: q4, x2 => (yU y4 a1_0).bind fun r10 => (if r10 = true then some x2 else ((zr.l4 a1_0 q4) (x2 + 1)))
def zr (a0 : List GEntry) (a1_0 : GMessage) : Option Int :=
 (zr.l4 a1_0 a0 0)
theorem zr.ok (a0 : List GEntry) (a1_0 : GMessage) (r : Int) (h : zr a0 a1_0 = some r) : ACalls qh 89 [.ds true (qg encGEntry a0) (qc a0) false, .fn (.func 60) [] [.dp (encGMessage a1_0) 0]] [] (fun r' _ => r' = .int .i64 r) := by
 refine zn (rs := [.tmp 4]) tok Tryd.func89 rfl Tryd.ntmps89 rfl Tryd.call89 (by simp) ?_
 refine zt [(0, .ds true (qg encGEntry a0) (qc a0) false), (1, .fn (.func 60) [] [.dp (encGMessage a1_0) 0])] ⟨rfl, rfl, trivial⟩ ?_
 unfold zr at h
 refine rg tok [0, 1] fun K hK => ?_
 simp only [go_sem, qb, qa, reduceCtorEq]
 apply hK
 refine zd fun Z1 hZ1 => ?_
 refine rg tok [0, 1, 7, 8] fun K hK => ?_
 simp only [go_sem, qb, qa, reduceCtorEq]
 apply hK
 refine zk ?_
 refine yW 0 fun hb4 => ?_
 replace hb4 : qc a0 ≤ 9223372036854775807 := hb4.1
 refine zF (fun m L τ => ∃ (p4 q4 : List GEntry) (x2 : Int), m = qc q4 ∧ L = ([(0, .ds true (qg encGEntry a0) (qc a0) false), (1, .fn (.func 60) [] [.dp (encGMessage a1_0) 0]), (7, .int .i64 (qc a0 : Int)), (8, .int .i64 x2)] : List (Nat × AV)) ∧ τ = ([] : Store) ∧ a0 = p4 ++ q4 ∧ x2 = (qc p4 : Int) ∧ zr.l4 a1_0 q4 x2 = some r) _ ⟨[], a0, 0, rfl, rfl, rfl, rfl, rfl, h⟩ .s ?_
 rintro m L τ ⟨p4, q4, x2, rfl, rfl, rfl, hE4, hi4, h⟩
 rcases q4 with _ | ⟨y4, q4⟩
 · have hz4 := yz hE4 hi4
   simp only [zr.l4] at h
   refine rg tok [0, 1, 7, 8, 9] fun K hK => ?_
   simp only [go_sem, qb, qa, reduceCtorEq, hz4]
   apply hK
   refine zd fun Z5 hZ5 => ?_
   refine zz rfl ?_
   refine zM ?_
   apply hZ1
   refine rg tok [4] fun K hK => ?_
   simp only [go_sem, qb, qa, reduceCtorEq]
   apply hK
   refine zj ?_
   obtain rfl := Option.some.inj h
   exact yr
 obtain ⟨hz4, hw4, hx4, hE'4, hi'4⟩ := yg hE4 hi4 hb4
 simp only [zr.l4] at h
 refine rg tok [0, 1, 7, 8, 9] fun K hK => ?_
 simp only [go_sem, qb, qa, reduceCtorEq, hz4]
 apply hK
 refine zd fun Z6 hZ6 => ?_
 refine zB rfl ?_
 refine zh ?_
 apply hZ6
 refine zd fun Z7 hZ7 => ?_
 refine zk ?_
 refine rg tok [0, 1, 5, 7, 8] fun K hK => ?_
 simp only [go_sem, qb, qa, reduceCtorEq]
 apply hK
 refine rc [0, 1, 5, 7, 8, 16] fun K hK => ?_
 have f8 := E40.idxS hx4
 have f9 := E40.loadS rfl rfl hx4
 obtain ⟨r10, hr10, h⟩ := bind_some h
 refine zb tok 5 ?_
 simp only [go_sem, qb, qa, reduceCtorEq, cellsGEntry, yY, f8, f9]
 refine zi rfl rfl rfl (yU.ev y4 a1_0 r10 hr10 _) ?_
 rintro _ _ ⟨rfl, rfl⟩
 refine za ?_
 simp only [ze, ZP, upd, qa, reduceIte, zl, zq]
 apply hK
 refine zv (b := r10) rfl (fun hc11 => ?_) (fun hc11 => ?_)
 · rw [if_pos hc11] at h
   refine rg tok [4] fun K hK => ?_
   simp only [go_sem, qb, qa, reduceCtorEq]
   apply hK
   refine zj ?_
   obtain rfl := Option.some.inj h
   exact yr
 rw [xD hc11] at h
 refine zh ?_
 apply hZ7
 refine rgE tok [0, 1, 7, 8] fun K hK => ?_
 simp only [go_sem, qb, qa, reduceCtorEq, hw4]
 apply hK
 exact ⟨_, _, _, qu q4.length, ⟨p4 ++ [y4], q4, x2 + 1, rfl, rfl, rfl, hE'4, hi'4, h⟩, .s⟩
def zH.j20 (x5 : Int) (l4 : List GRaw) (rec8 : Int → List GRaw → Option (List GRaw)) (y8 : GRaw) (x15 : Int) (rec17 : Int → Option (List GRaw)) (x19 : Bool) : Option (List GRaw) :=
 (if x19 = true then (rec17 (IntKind.i64.wrap (x15 - 1))) else (grd ((0 : Int) ≤ IntKind.i64.wrap (x15 + 1) ∧ IntKind.i64.wrap (x15 + 1) ≤ x5 + 1 ∧ x5 + 1 ≤ (qc l4 : Int))).bind fun _u22 => (grd ((0 : Int) ≤ x15 ∧ x15 ≤ x5 ∧ x5 ≤ (qc l4 : Int))).bind fun _u24 => (Zj (Y7 l4 (qB (IntKind.i64.wrap (x15 + 1))) (qB x15) (min (qB x5 - qB x15) (qB (x5 + 1) - qB (IntKind.i64.wrap (x15 + 1))))) x15).bind fun y28 => (rec8 (x5 + 1) (setI (Y7 l4 (qB (IntKind.i64.wrap (x15 + 1))) (qB x15) (min (qB x5 - qB x15) (qB (x5 + 1) - qB (IntKind.i64.wrap (x15 + 1))))) x15 y8)))
def zH.l17 (x5 : Int) (l4 : List GRaw) (rec8 : Int → List GRaw → Option (List GRaw)) (y8 : GRaw) : Nat → Int → Option (List GRaw)
 | 0, _ => none
 | k17 + 1, x15 => (if 0 < x15 then (Zj l4 (IntKind.i64.wrap (x15 - 1))).bind fun y33 => (zH.j20 x5 l4 rec8 y8 x15 (zH.l17 x5 l4 rec8 y8 k17) (decide (y8.fTag < y33.fTag))) else (zH.j20 x5 l4 rec8 y8 x15 (zH.l17 x5 l4 rec8 y8 k17) false))
def zH.l8 : List GRaw → Int → List GRaw → Option (List GRaw)
 | [], x5, l4 => some l4
 | y8 :: q8, x5, l4 => (zH.l17 x5 l4 (zH.l8 q8) y8 rounds x5)
def zH (a0 : List GRaw) : Option (List GRaw) :=
 (grd ((0 : Int) ≤ (qc a0 : Int) ∧ (40 : Int) * (qc a0 : Int) ≤ 281474976710656 ∧ (qc a0 : Int) < 9223372036854775807)).bind fun _u1 => (zH.l8 a0 0 (qF (qB (qc a0 : Int)) ((⟨0, 0, 0, []⟩ : GRaw) : GRaw)))
theorem zH.ok (a0 : List GRaw) (r : List GRaw) (h : zH a0 = some r) : ACalls qh 15 [.ds true (qg encGRaw a0) (qc a0) false] [] (fun r' _ => r' = .ds true (qg encGRaw r) (qc r) false) := by
 refine zn (rs := [.tmp 2]) tok Tryd.func15 rfl Tryd.ntmps15 rfl Tryd.call15 (by simp) ?_
 refine zt [(0, .ds true (qg encGRaw a0) (qc a0) false)] ⟨rfl, trivial⟩ ?_
 unfold zH at h
 refine rg tok [0] fun K hK => ?_
 simp only [go_sem, qb, reduceCtorEq]
 apply hK
 obtain ⟨_u1, hu1, h⟩ := bind_some h
 have gu1 := wy hu1
 have f2 := E22.mk0 rfl (z := ((⟨0, 0, 0, []⟩ : GRaw) : GRaw)) rfl rfl gu1 .i64 .i64
 refine rg tok [0, 3] fun K hK => ?_
 simp only [go_sem, qb, qa, reduceCtorEq, f2]
 apply hK
 refine yc (L := [(0, .ds true (qg encGRaw a0) (qc a0) false), (3, .os true 4 0 0 0 (qc (qF (qB (qc a0 : Int)) ((⟨0, 0, 0, []⟩ : GRaw) : GRaw))) true)]) (τ := [.cells 0 (qg encGRaw (qF (qB (qc a0 : Int)) ((⟨0, 0, 0, []⟩ : GRaw) : GRaw)))]) .s ?_
 refine zd fun Z3 hZ3 => ?_
 refine rg tok [3, 10, 11, 12] fun K hK => ?_
 simp only [go_sem, qb, qa, reduceCtorEq]
 apply hK
 refine zk ?_
 refine yW 10 fun hb8 => ?_
 replace hb8 : qc a0 ≤ 9223372036854775807 := hb8.1
 refine zF (fun m L τ => ∃ (p8 q8 : List GRaw) (x5 : Int) (l4 : List GRaw), m = qc q8 ∧ L = ([(3, .os true 4 0 0 0 (qc l4) true), (10, .ds true (qg encGRaw a0) (qc a0) false), (11, .int .i64 (qc a0 : Int)), (12, .int .i64 x5)] : List (Nat × AV)) ∧ τ = ([.cells 0 (qg encGRaw l4)] : Store) ∧ a0 = p8 ++ q8 ∧ x5 = (qc p8 : Int) ∧ zH.l8 q8 x5 l4 = some r) _ ⟨[], a0, 0, qF (qB (qc a0 : Int)) ((⟨0, 0, 0, []⟩ : GRaw) : GRaw), rfl, rfl, rfl, rfl, rfl, h⟩ .s ?_
 rintro m L τ ⟨p8, q8, x5, l4, rfl, rfl, rfl, hE8, hi8, h⟩
 rcases q8 with _ | ⟨y8, q8⟩
 · have hz8 := yz hE8 hi8
   simp only [zH.l8] at h
   refine rg tok [3, 10, 11, 12, 13] fun K hK => ?_
   simp only [go_sem, qb, qa, hz8]
   apply hK
   refine zd fun Z9 hZ9 => ?_
   refine zz rfl ?_
   refine zM ?_
   apply hZ3
   refine rg tok [2] fun K hK => ?_
   simp only [go_sem, qb, qa]
   apply hK
   refine zj ?_
   obtain rfl := Option.some.inj h
   exact yr
 obtain ⟨hz8, hw8, hx8, hE'8, hi'8⟩ := yg hE8 hi8 hb8
 simp only [zH.l8] at h
 refine rg tok [3, 10, 11, 12, 13] fun K hK => ?_
 simp only [go_sem, qb, qa, hz8]
 apply hK
 refine zd fun Z10 hZ10 => ?_
 refine zB rfl ?_
 refine zh ?_
 apply hZ10
 refine zd fun Z11 hZ11 => ?_
 refine zk ?_
 have f12 := E22.idxS hx8
 have f13 := E22.loadS rfl rfl hx8
 refine rg tok [3, 4, 5, 10, 11, 12] fun K hK => ?_
 simp only [go_sem, qb, qe, qa, qd, encGRaw, f12, f13]
 apply hK
 refine rg tok [3, 4, 5, 6, 10, 11, 12] fun K hK => ?_
 simp only [go_sem, qb, qa]
 apply hK
 refine zd fun Z14 hZ14 => ?_
 refine zk ?_
 refine zF (fun m L τ => ∃ (k17 : Nat) (x15 : Int), m = 0 + k17 ∧ L = ([(3, .os true 4 0 0 0 (qc l4) true), (4, .int .i64 x5), (5, .op 1 0 0), (6, .int .i64 x15), (10, .ds true (qg encGRaw a0) (qc a0) false), (11, .int .i64 (qc a0 : Int)), (12, .int .i64 x5)] : List (Nat × AV)) ∧ τ = ([.cells 0 (qg encGRaw l4), .cells 0 [.int .i64 y8.fTag, .int .i64 y8.fWire, .int .i64 y8.fN, .str y8.fB]] : Store) ∧ zH.l17 x5 l4 (zH.l8 q8) y8 k17 x15 = some r) _ ⟨rounds, x5, rfl, rfl, rfl, h⟩ .s ?_
 rintro m L τ ⟨k17, x15, rfl, rfl, rfl, h⟩
 rcases k17 with _ | k17
 · cases h
 simp only [zH.l17] at h
 refine zd fun Z18 hZ18 => ?_
 refine xK (fun L τ => ∃ (x19 : Bool), L = ([(3, .os true 4 0 0 0 (qc l4) true), (4, .int .i64 x5), (5, .op 1 0 0), (6, .int .i64 x15), (10, .ds true (qg encGRaw a0) (qc a0) false), (11, .int .i64 (qc a0 : Int)), (12, .int .i64 x5), (30, .bool x19)] : List (Nat × AV)) ∧ τ = ([.cells 0 (qg encGRaw l4), .cells 0 [.int .i64 y8.fTag, .int .i64 y8.fWire, .int .i64 y8.fN, .str y8.fB]] : Store) ∧ zH.j20 x5 l4 (zH.l8 q8) y8 x15 (zH.l17 x5 l4 (zH.l8 q8) y8 k17) x19 = some r) ?_ ?_
 · refine rdE [3, 4, 5, 6, 10, 11, 12, 30] fun K hK => ?_
   refine DW.start (T := tab) [.any, .any, .any, .any, .any, .any, .any, .any, .at [], .any, .at [], .any, .any] [] ?_
   refine DW.runN tok 3 ?_
   simp only [go_sem, qb, qa]
   refine DW.if 20 rfl (fun hg20 => ?_) (fun hg20 => ?_)
   · rw [if_pos hg20] at h
     have t32 := eq_true hg20
     obtain ⟨y33, hy33, h⟩ := bind_some h
     have f34 := E22.idxO hy33
     have f35 := E22.rdfO0 hy33
     refine DW.runN tok 8 ?_
     simp only [go_sem, qb, qa, qd, encGRaw, t32, f34, f35]
     refine DW.runN tok 2 ?_
     simp only [go_sem, qb, qa]
     refine DW.fin tok (by decide +kernel) rfl ?_
     simp only [ze, upd, qa, reduceIte, zl, zq]
     apply hK
     exact ⟨_, _, ⟨decide (y8.fTag < y33.fTag), rfl, rfl, h⟩, .s⟩
   rw [if_neg hg20] at h
   have t36 := eq_false hg20
   refine DW.runN tok 8 ?_
   simp only [go_sem, qb, qa, t36]
   refine DW.runN tok 2 ?_
   simp only [go_sem, qb, qa]
   refine DW.fin tok (by decide +kernel) rfl ?_
   simp only [ze, upd, qa, reduceIte, zl, zq]
   apply hK
   exact ⟨_, _, ⟨false, rfl, rfl, h⟩, .s⟩
 rintro _ _ ⟨x19, rfl, rfl, h⟩
 unfold zH.j20 at h
 refine zv (b := x19) rfl (fun hc21 => ?_) (fun hc21 => ?_)
 · rw [if_pos hc21] at h
   refine zh ?_
   apply hZ18
   refine zk ?_
   refine rgE tok [3, 4, 5, 6, 10, 11, 12] fun K hK => ?_
   simp only [go_sem, qb, qa]
   apply hK
   exact ⟨_, _, _, qu (0 + k17), ⟨k17, IntKind.i64.wrap (x15 - 1), rfl, rfl, rfl, h⟩, .s⟩
 rw [xD hc21] at h
 refine zM ?_
 apply hZ14
 obtain ⟨_u22, hu22, h⟩ := bind_some h
 have gu22 := wy hu22
 have f23 := fun id ver => E22.slO gu22 .i64 .i64 id ver true
 obtain ⟨_u24, hu24, h⟩ := bind_some h
 have gu24 := wy hu24
 have f25 := fun id ver => E22.slO gu24 .i64 .i64 id ver true
 have f26 := fun (τ : Store) (t1 t2 : Bool) => E22.cpO OneE.h gu22 gu24 t1 t2 (.cells 0 (qg encGRaw l4) :: τ) 0 0 (by simp only [Store.at_hd, if_true]) rfl
 have f27 : qc (Y7 l4 (qB (IntKind.i64.wrap (x15 + 1))) (qB x15) (min (qB x5 - qB x15) (qB (x5 + 1) - qB (IntKind.i64.wrap (x15 + 1))))) = qc l4 := copyI_length (by omega) (by omega)
 refine rd [3, 5, 6, 10, 11, 12] fun K hK => ?_
 refine DW.start (T := tab) [.any, .any, .any, .any, .any, .any, .any, .any, .any, .any, .eff] [] ?_
 refine DW.runN tok 8 ?_
 simp only [go_sem, qb, qa, hw8, f23]
 refine DW.runN tok 3 ?_
 simp only [go_sem, qb, qa, f25, f26]
 refine DW.fin tok (by decide +kernel) rfl ?_
 simp only [ze, upd, qa, reduceIte, zl, zq]
 apply hK
 refine yc (L := [(3, .os true 4 0 0 0 (qc (Y7 l4 (qB (IntKind.i64.wrap (x15 + 1))) (qB x15) (min (qB x5 - qB x15) (qB (x5 + 1) - qB (IntKind.i64.wrap (x15 + 1)))))) true), (5, .op 1 0 0), (6, .int .i64 x15), (10, .ds true (qg encGRaw a0) (qc a0) false), (11, .int .i64 (qc a0 : Int)), (12, .int .i64 x5)]) (τ := [.cells 0 (qg encGRaw (Y7 l4 (qB (IntKind.i64.wrap (x15 + 1))) (qB x15) (min (qB x5 - qB x15) (qB (x5 + 1) - qB (IntKind.i64.wrap (x15 + 1)))))), .cells 0 [.int .i64 y8.fTag, .int .i64 y8.fWire, .int .i64 y8.fN, .str y8.fB]]) (.same (by first | exact ⟨rfl, rfl, rfl, rfl, rfl, rfl, trivial⟩ | rfl | (simp only [go_sem, qa, Fits, f27, and_self] <;> rfl)) (by first | exact ⟨rfl, rfl, rfl, rfl, rfl, rfl, trivial⟩ | rfl | (simp only [go_sem, qb, qe, qa, qd, qw, qL, reduceIte, reduceCtorEq, Fits, encB, encI, encS, vbj, wL, q1, qP, un, qx, qA, qi, qk, qn, qt, qr, qC, Nat.add_assoc, encGRaw, f27, and_self] <;> rfl))) ?_
 obtain ⟨y28, hy28, h⟩ := bind_some h
 have f29 := E22.idxO hy28
 have f30 := E22.stOc hy28
 have f31 := E22.stOr hy28 (y := y8) (cs := [.int .i64 y8.fTag, .int .i64 y8.fWire, .int .i64 y8.fN, .str y8.fB]) rfl
 simp only [yO] at f31
 refine rgE tok [3, 10, 11, 12] fun K hK => ?_
 simp only [go_sem, qb, qe, qa, qd, f29, f30, f31]
 apply hK
 apply hZ11
 refine rgE tok [3, 10, 11, 12] fun K hK => ?_
 simp only [go_sem, qb, qa, hw8]
 apply hK
 exact ⟨_, _, _, qu q8.length, ⟨p8 ++ [y8], q8, x5 + 1, setI (Y7 l4 (qB (IntKind.i64.wrap (x15 + 1))) (qB x15) (min (qB x5 - qB x15) (qB (x5 + 1) - qB (IntKind.i64.wrap (x15 + 1))))) x15 y8, rfl, rfl, rfl, hE'8, hi'8, h⟩, (.t [0] false)⟩
theorem zH.ev (a0 : List GRaw) (r : List GRaw) (h : zH a0 = some r) (σ : Store) : ACalls qh 15 [.ds true (qg encGRaw a0) (qc a0) false] σ (fun r' σ' => r' = .ds true (qg encGRaw r) (qc r) false ∧ σ' = σ) :=
 (zH.ok a0 r h).c σ
def zL.j4 (m4_1 : GTree) : Option (GTree × Int) :=
 some (m4_1, 0)
def zL.j6 (zA : GSchema → GMessage → (List UInt8) → Int → Option (GTree × Int)) (a0 : GSchema) (a1 : GType) (a2 : GRaw) (a3 : Int) (m4_1 : GTree) (x5 : Bool) : Option (GTree × Int) :=
 (if x5 = true then bnd (xj a1 a2.fN) fun r8 => (if (!r8) = true then some ((⟨0, 0, [], ([] : List GEntry), ([] : List GRaw)⟩ : GTree), 11) else (zL.j4 m4_1)) else (if a1.fKind = 4 then (yp a2.fB).bind fun r12 => (if (!r12) = true then some ((⟨0, 0, [], ([] : List GEntry), ([] : List GRaw)⟩ : GTree), 9) else (zL.j4 m4_1)) else (if a1.fKind = 7 then bnd (zP a0 a1.fName) fun r17 => (grd (qc a2.fB ≤ 9223372036854775807)).bind fun _u18 => (zA a0 r17.1 a2.fB (IntKind.i64.wrap (a3 + 1))).bind fun r20 => some (r20.1, r20.2) else (zL.j4 m4_1))))
def zL.j3 (zA : GSchema → GMessage → (List UInt8) → Int → Option (GTree × Int)) (a0 : GSchema) (a1 : GType) (a2 : GRaw) (a3 : Int) (m4_1 : GTree) : Option (GTree × Int) :=
 (if a1.fKind = 3 then (zL.j6 zA a0 a1 a2 a3 m4_1 (decide (a1.fKind = 3))) else (zL.j6 zA a0 a1 a2 a3 m4_1 (decide (a1.fKind = 6))))
def zL.j26 (zA : GSchema → GMessage → (List UInt8) → Int → Option (GTree × Int)) (a0 : GSchema) (a1 : GType) (a2 : GRaw) (a3 : Int) (m4_1 : GTree) (x25 : Bool) : Option (GTree × Int) :=
 (if x25 = true then (if a2.fWire = 1 then (zL.j3 zA a0 a1 a2 a3 m4_1) else some ((⟨0, 0, [], ([] : List GEntry), ([] : List GRaw)⟩ : GTree), 8)) else (if a2.fWire = 0 then (zL.j3 zA a0 a1 a2 a3 m4_1) else some ((⟨0, 0, [], ([] : List GEntry), ([] : List GRaw)⟩ : GTree), 8)))
def zL.j2 (zA : GSchema → GMessage → (List UInt8) → Int → Option (GTree × Int)) (a0 : GSchema) (a1 : GType) (a2 : GRaw) (a3 : Int) (m4_1 : GTree) : Option (GTree × Int) :=
 (if a1.fKind = 4 then (zL.j26 zA a0 a1 a2 a3 m4_1 (decide (a1.fKind = 4))) else (if a1.fKind = 5 then (zL.j26 zA a0 a1 a2 a3 m4_1 (decide (a1.fKind = 5))) else (zL.j26 zA a0 a1 a2 a3 m4_1 (decide (a1.fKind = 7)))))
def zL.body (zA : GSchema → GMessage → (List UInt8) → Int → Option (GTree × Int)) (yD : GSchema → GType → GRaw → Int → Option (GTree × Int)) (a0 : GSchema) (a1 : GType) (a2 : GRaw) (a3 : Int) : Option (GTree × Int) :=
 (if a2.fWire = 1 then (zL.j2 zA a0 a1 a2 a3 (⟨2, 0, a2.fB, ([] : List GEntry), ([] : List GRaw)⟩ : GTree)) else (zL.j2 zA a0 a1 a2 a3 (⟨1, a2.fN, [], ([] : List GEntry), ([] : List GRaw)⟩ : GTree)))
theorem zL.step (zA : GSchema → GMessage → (List UInt8) → Int → Option (GTree × Int)) (yD : GSchema → GType → GRaw → Int → Option (GTree × Int)) (XY : ∀ (a0 : GSchema) (a1 : GMessage) (a2 : List UInt8) (a3 : Int) (r : GTree × Int), zA a0 a1 a2 a3 = some r → ACalls qh 35 [.agg (encGSchema a0), .agg (encGMessage a1), .ds true (qg encB a2) (qc a2) false, .int .i64 a3] [] (fun r' _ => r' = .tup [.agg (cellsGTree r.1), .int .i64 r.2])) (Yq : ∀ (a0 : GSchema) (a1 : GType) (a2 : GRaw) (a3 : Int) (r : GTree × Int), yD a0 a1 a2 a3 = some r → ACalls qh 57 [.agg (encGSchema a0), .agg (encGType a1), .agg (encGRaw a2), .int .i64 a3] [] (fun r' _ => r' = .tup [.agg (cellsGTree r.1), .int .i64 r.2])) (a0 : GSchema) (a1 : GType) (a2 : GRaw) (a3 : Int) (r : GTree × Int) (h : zL.body zA yD a0 a1 a2 a3 = some r) : ACalls qh 57 [.agg (encGSchema a0), .agg (encGType a1), .agg (encGRaw a2), .int .i64 a3] [] (fun r' _ => r' = .tup [.agg (cellsGTree r.1), .int .i64 r.2]) := by
 have ev_decode_message := fun a0 a1 a2 a3 r h σ => (XY a0 a1 a2 a3 r h).c σ
 have ev_decode_one := fun a0 a1 a2 a3 r h σ => (Yq a0 a1 a2 a3 r h).c σ
 refine zn (rs := [.cell 8 42, .tmp 9]) tok Tryd.func57 rfl Tryd.ntmps57 rfl Tryd.call57 (by simp) ?_
 refine zt [(0, .agg (encGSchema a0)), (1, .agg (encGType a1)), (2, .agg (encGRaw a2)), (3, .int .i64 a3)] ⟨rfl, rfl, rfl, rfl, trivial⟩ ?_
 unfold zL.body at h
 refine rg tok [3, 4, 5, 6, 8] fun K hK => ?_
 simp only [go_sem, qb, qa, qd, reduceCtorEq, encGRaw, encGSchema, encGType]
 apply hK
 refine rg tok [3, 4, 5, 6, 8, 10] fun K hK => ?_
 simp only [go_sem, qb, qe, qa, qd]
 apply hK
 refine xK (fun L τ => ∃ (m4_1 : GTree), L = ([(3, .int .i64 a3), (4, .op 0 0 0), (5, .op 1 0 0), (6, .op 2 0 0), (8, .op 3 0 0), (10, .op 4 0 0)] : List (Nat × AV)) ∧ τ = ([.cells 0 (encGSchema a0), .cells 0 [.int .i64 a1.fKind, .str a1.fName], .cells 0 [.int .i64 a2.fTag, .int .i64 a2.fWire, .int .i64 a2.fN, .str a2.fB], .cells 0 [.int .i64 0, .int .i64 0, .str [], .ds true (qg encGEntry ([] : List GEntry)) (qc ([] : List GEntry)) false, .ds true (qg encGRaw ([] : List GRaw)) (qc ([] : List GRaw)) false], .cells 0 (cellsGTree m4_1)] : Store) ∧ zL.j2 zA a0 a1 a2 a3 m4_1 = some r) ?_ ?_
 · refine rg tok [3, 4, 5, 6, 8, 10, 18] fun K hK => ?_
   simp only [go_sem, qb, qa, qd]
   apply hK
   refine zI rfl (fun hc40 => ?_) (fun hc40 => ?_)
   · rw [if_pos hc40] at h
     have t41 := eq_true hc40
     refine rgE tok [3, 4, 5, 6, 8, 10] fun K hK => ?_
     simp only [go_sem, qb, qe, qa, qd, t41]
     apply hK
     exact ⟨_, _, ⟨(⟨2, 0, a2.fB, ([] : List GEntry), ([] : List GRaw)⟩ : GTree), rfl, rfl, h⟩, (.t [0, 1, 2, 3, 4] true)⟩
   rw [if_neg hc40] at h
   have t42 := eq_false hc40
   refine zh ?_
   exact ⟨_, _, ⟨(⟨1, a2.fN, [], ([] : List GEntry), ([] : List GRaw)⟩ : GTree), rfl, rfl, h⟩, (.t [0, 1, 2, 3, 4] true)⟩
 rintro _ _ ⟨m4_1, rfl, rfl, h⟩
 unfold zL.j2 at h
 refine xK (fun L τ => L = ([(3, .int .i64 a3), (4, .op 0 0 0), (5, .op 1 0 0), (6, .op 2 0 0), (8, .op 3 0 0), (10, .op 4 0 0)] : List (Nat × AV)) ∧ τ = ([.cells 0 (encGSchema a0), .cells 0 [.int .i64 a1.fKind, .str a1.fName], .cells 0 [.int .i64 a2.fTag, .int .i64 a2.fWire, .int .i64 a2.fN, .str a2.fB], .cells 0 [.int .i64 0, .int .i64 0, .str [], .ds true (qg encGEntry ([] : List GEntry)) (qc ([] : List GEntry)) false, .ds true (qg encGRaw ([] : List GRaw)) (qc ([] : List GRaw)) false], .cells 0 (cellsGTree m4_1)] : Store) ∧ zL.j3 zA a0 a1 a2 a3 m4_1 = some r) ?_ ?_
 · refine rg tok [3, 4, 5, 6, 8, 10, 23] fun K hK => ?_
   simp only [go_sem, qb, qa, qd]
   apply hK
   refine zk ?_
   refine xK (fun L τ => ∃ (x25 : Bool), L = ([(3, .int .i64 a3), (4, .op 0 0 0), (5, .op 1 0 0), (6, .op 2 0 0), (8, .op 3 0 0), (10, .op 4 0 0), (28, .bool x25)] : List (Nat × AV)) ∧ τ = ([.cells 0 (encGSchema a0), .cells 0 [.int .i64 a1.fKind, .str a1.fName], .cells 0 [.int .i64 a2.fTag, .int .i64 a2.fWire, .int .i64 a2.fN, .str a2.fB], .cells 0 [.int .i64 0, .int .i64 0, .str [], .ds true (qg encGEntry ([] : List GEntry)) (qc ([] : List GEntry)) false, .ds true (qg encGRaw ([] : List GRaw)) (qc ([] : List GRaw)) false], .cells 0 (cellsGTree m4_1)] : Store) ∧ zL.j26 zA a0 a1 a2 a3 m4_1 x25 = some r) ?_ ?_
   · refine rg tok [3, 4, 5, 6, 8, 10, 23, 28] fun K hK => ?_
     simp only [go_sem, qb, qa]
     apply hK
     refine zI rfl (fun hc34 => ?_) (fun hc34 => ?_)
     · rw [if_pos hc34] at h
       have t35 := eq_true hc34
       refine zh ?_
       exact ⟨_, _, ⟨decide (a1.fKind = 4), rfl, rfl, h⟩, .s⟩
     rw [if_neg hc34] at h
     have t36 := eq_false hc34
     refine rg tok [3, 4, 5, 6, 8, 10, 23, 28] fun K hK => ?_
     simp only [go_sem, qb, qa, t36]
     apply hK
     refine zI rfl (fun hc37 => ?_) (fun hc37 => ?_)
     · rw [if_pos hc37] at h
       have t38 := eq_true hc37
       refine zh ?_
       exact ⟨_, _, ⟨decide (a1.fKind = 5), rfl, rfl, h⟩, .s⟩
     rw [if_neg hc37] at h
     have t39 := eq_false hc37
     refine rgE tok [3, 4, 5, 6, 8, 10, 28] fun K hK => ?_
     simp only [go_sem, qb, qa, t39]
     apply hK
     exact ⟨_, _, ⟨decide (a1.fKind = 7), rfl, rfl, h⟩, .s⟩
   rintro _ _ ⟨x25, rfl, rfl, h⟩
   unfold zL.j26 at h
   refine zv (b := x25) rfl (fun hc27 => ?_) (fun hc27 => ?_)
   · rw [if_pos hc27] at h
     refine rg tok [3, 4, 5, 6, 8, 10, 34] fun K hK => ?_
     simp only [go_sem, qb, qa, qd]
     apply hK
     refine zI rfl (fun hc28 => ?_) (fun hc28 => ?_)
     · rw [if_neg hc28] at h
       have t29 := eq_false hc28
       refine rg tok [8, 9] fun K hK => ?_
       simp only [go_sem, qb, qe, qa, qd, t29]
       apply hK
       refine zj ?_
       obtain rfl := Option.some.inj h
       exact yr
     rw [if_pos hc28] at h
     have t30 := eq_true hc28
     refine zh ?_
     exact ⟨_, _, ⟨rfl, rfl, h⟩, .s⟩
   rw [xD hc27] at h
   refine rg tok [3, 4, 5, 6, 8, 10, 26] fun K hK => ?_
   simp only [go_sem, qb, qa, qd]
   apply hK
   refine zI rfl (fun hc31 => ?_) (fun hc31 => ?_)
   · rw [if_neg hc31] at h
     have t32 := eq_false hc31
     refine rg tok [8, 9] fun K hK => ?_
     simp only [go_sem, qb, qe, qa, qd, t32]
     apply hK
     refine zj ?_
     obtain rfl := Option.some.inj h
     exact yr
   rw [if_pos hc31] at h
   have t33 := eq_true hc31
   refine zh ?_
   exact ⟨_, _, ⟨rfl, rfl, h⟩, .s⟩
 rintro _ _ ⟨rfl, rfl, h⟩
 unfold zL.j3 at h
 refine xK (fun L τ => L = ([(8, .op 0 0 0), (10, .op 1 0 0)] : List (Nat × AV)) ∧ τ = ([.cells 0 [.int .i64 0, .int .i64 0, .str [], .ds true (qg encGEntry ([] : List GEntry)) (qc ([] : List GEntry)) false, .ds true (qg encGRaw ([] : List GRaw)) (qc ([] : List GRaw)) false], .cells 0 (cellsGTree m4_1)] : Store) ∧ zL.j4 m4_1 = some r) ?_ ?_
 · refine rg tok [3, 4, 5, 6, 8, 10, 37] fun K hK => ?_
   simp only [go_sem, qb, qa, qd]
   apply hK
   refine zk ?_
   refine xK (fun L τ => ∃ (x5 : Bool), L = ([(3, .int .i64 a3), (4, .op 0 0 0), (5, .op 1 0 0), (6, .op 2 0 0), (8, .op 3 0 0), (10, .op 4 0 0), (37, .int .i64 a1.fKind), (38, .bool x5)] : List (Nat × AV)) ∧ τ = ([.cells 0 (encGSchema a0), .cells 0 [.int .i64 a1.fKind, .str a1.fName], .cells 0 [.int .i64 a2.fTag, .int .i64 a2.fWire, .int .i64 a2.fN, .str a2.fB], .cells 0 [.int .i64 0, .int .i64 0, .str [], .ds true (qg encGEntry ([] : List GEntry)) (qc ([] : List GEntry)) false, .ds true (qg encGRaw ([] : List GRaw)) (qc ([] : List GRaw)) false], .cells 0 (cellsGTree m4_1)] : Store) ∧ zL.j6 zA a0 a1 a2 a3 m4_1 x5 = some r) ?_ ?_
   · refine rg tok [3, 4, 5, 6, 8, 10, 37, 38] fun K hK => ?_
     simp only [go_sem, qb, qa]
     apply hK
     refine zI rfl (fun hc22 => ?_) (fun hc22 => ?_)
     · rw [if_pos hc22] at h
       have t23 := eq_true hc22
       refine zh ?_
       exact ⟨_, _, ⟨decide (a1.fKind = 3), rfl, rfl, h⟩, .s⟩
     rw [if_neg hc22] at h
     have t24 := eq_false hc22
     refine rgE tok [3, 4, 5, 6, 8, 10, 37, 38] fun K hK => ?_
     simp only [go_sem, qb, qa, t24]
     apply hK
     exact ⟨_, _, ⟨decide (a1.fKind = 6), rfl, rfl, h⟩, .s⟩
   rintro _ _ ⟨x5, rfl, rfl, h⟩
   unfold zL.j6 at h
   refine zv (b := x5) rfl (fun hc7 => ?_) (fun hc7 => ?_)
   · rw [if_pos hc7] at h
     refine rc [8, 10, 45] fun K hK => ?_
     obtain ⟨r8, hr8, h⟩ := zS h
     refine zb tok 3 ?_
     simp only [go_sem, qb, qe, qa, qd]
     refine zi rfl rfl rfl (xj.ev a1 a2.fN r8 hr8 _) ?_
     rintro _ _ ⟨rfl, rfl⟩
     refine zb tok 1 ?_
     simp only [go_sem, qb, qa]
     refine za ?_
     simp only [ze, upd, qa, reduceIte, zl, zq]
     apply hK
     refine zv (b := (!r8)) rfl (fun hc9 => ?_) (fun hc9 => ?_)
     · rw [if_pos hc9] at h
       refine rg tok [8, 9] fun K hK => ?_
       simp only [go_sem, qb, qe, qa, qd]
       apply hK
       refine zj ?_
       obtain rfl := Option.some.inj h
       exact yr
     rw [xD hc9] at h
     refine zh ?_
     exact ⟨_, _, ⟨rfl, rfl, h⟩, (.t [3, 4] false)⟩
   rw [xD hc7] at h
   refine rg tok [3, 4, 5, 6, 8, 10, 37, 47] fun K hK => ?_
   simp only [go_sem, qb, qa]
   apply hK
   refine zI rfl (fun hc10 => ?_) (fun hc10 => ?_)
   · rw [if_pos hc10] at h
     have t11 := eq_true hc10
     refine rc [8, 10, 52] fun K hK => ?_
     obtain ⟨r12, hr12, h⟩ := bind_some h
     refine zb tok 2 ?_
     simp only [go_sem, qb, qa, qd, t11]
     refine zi rfl rfl rfl (yp.ev a2.fB r12 hr12 _) ?_
     rintro _ _ ⟨rfl, rfl⟩
     refine zb tok 1 ?_
     simp only [go_sem, qb, qa]
     refine za ?_
     simp only [ze, upd, qa, reduceIte, zl, zq]
     apply hK
     refine zv (b := (!r12)) rfl (fun hc13 => ?_) (fun hc13 => ?_)
     · rw [if_pos hc13] at h
       refine rg tok [8, 9] fun K hK => ?_
       simp only [go_sem, qb, qe, qa, qd]
       apply hK
       refine zj ?_
       obtain rfl := Option.some.inj h
       exact yr
     rw [xD hc13] at h
     refine zh ?_
     exact ⟨_, _, ⟨rfl, rfl, h⟩, (.t [3, 4] false)⟩
   rw [if_neg hc10] at h
   have t14 := eq_false hc10
   refine rg tok [3, 4, 5, 6, 8, 10, 54] fun K hK => ?_
   simp only [go_sem, qb, qa, t14]
   apply hK
   refine zI rfl (fun hc15 => ?_) (fun hc15 => ?_)
   · rw [if_pos hc15] at h
     have t16 := eq_true hc15
     refine rc [3, 4, 6, 8, 11] fun K hK => ?_
     obtain ⟨r17, hr17, h⟩ := zS h
     refine zb tok 3 ?_
     simp only [go_sem, qb, qe, qa, qd, t16]
     refine zi rfl rfl rfl (zP.ev a0 a1.fName r17 hr17 _) ?_
     rintro _ _ ⟨rfl, rfl⟩
     refine zb tok 6 ?_
     simp only [go_sem, qb, qe, qa, qd, encGMessage]
     refine za ?_
     simp only [ze, upd, qa, reduceIte, zl, zq]
     apply hK
     refine rc [8, 9] fun K hK => ?_
     obtain ⟨_u18, hu18, h⟩ := bind_some h
     have gu18 := wy hu18
     have gu18t := eq_true gu18
     have f19 := conv_s2b (T := tab) (src := 9) (dst := 35) rfl rfl rfl rfl rfl rfl (wy hu18)
     obtain ⟨r20, hr20, h⟩ := bind_some h
     refine zb tok 7 ?_
     simp only [go_sem, qb, qe, qa, qd, f19]
     refine va4 (L := [(8, .op 0 0 0), (63, .agg (encGSchema a0)), (64, .agg (encGMessage r17.1)), (67, .ds true (qg encB a2.fB) (qc a2.fB) false), (69, .int .i64 (IntKind.i64.wrap (a3 + 1)))]) (τ := [.cells 0 [.int .i64 0, .int .i64 0, .str [], .ds true (qg encGEntry ([] : List GEntry)) (qc ([] : List GEntry)) false, .ds true (qg encGRaw ([] : List GRaw)) (qc ([] : List GRaw)) false]]) (.t [3] false) ?_
     refine zi rfl rfl rfl (ev_decode_message a0 r17.1 a2.fB (IntKind.i64.wrap (a3 + 1)) r20 hr20 _) ?_
     rintro _ _ ⟨rfl, rfl⟩
     refine zb tok 4 ?_
     simp only [go_sem, qb, qe, qa, qd, cellsGTree, encGMessage, encGSchema]
     refine za ?_
     simp only [ze, upd, qa, reduceIte, zl, zq]
     apply hK
     refine zj ?_
     obtain rfl := Option.some.inj h
     exact yr
   rw [if_neg hc15] at h
   have t21 := eq_false hc15
   refine zh ?_
   exact ⟨_, _, ⟨rfl, rfl, h⟩, (.t [3, 4] false)⟩
 rintro _ _ ⟨rfl, rfl, h⟩
 unfold zL.j4 at h
 refine rg tok [8, 9] fun K hK => ?_
 simp only [go_sem, qb, qe, qa, qd]
 apply hK
 refine zj ?_
 obtain rfl := Option.some.inj h
 exact yr
end
section
open Go.RowKit AM
theorem setRun_ins (cs new : List AV) (k : Nat) (hk : k ≤ cs.length) (hn : new.length = 2) :
 yO (yO (cs ++ [.u, .u]) (k + 2) (cs.drop k)) k new = cs.take k ++ (new ++ cs.drop k) := by
 have e0 : cs ++ [AV.u, .u] = (cs.take k ++ ((cs.drop k ++ [AV.u, .u]).take 2)) ++ (((cs.drop k ++ [AV.u, .u]).drop 2) ++ []) := by
  rw [qx, qr, uk, ← qr, uk]
 have l1 : ((cs.drop k ++ [AV.u, .u]).take 2).length = 2 := by simp
 have l2 : (cs.take k ++ ((cs.drop k ++ [AV.u, .u]).take 2)).length = k + 2 := by rw [qi, l1, uF, Nat.min_eq_left hk]
 have e1 : yO (cs ++ [.u, .u]) (k + 2) (cs.drop k) = (cs.take k ++ ((cs.drop k ++ [AV.u, .u]).take 2)) ++ (cs.drop k ++ []) := by
  rw [e0, ← l2]
  exact w9 (cs.drop k) _ _ [] (by simp)
 rw [e1, qx, qr]
 have l3 : (cs.take k).length = k := by rw [uF, Nat.min_eq_left hk]
 have := w9 new (cs.take k) ((cs.drop k ++ [AV.u, .u]).take 2) (cs.drop k) (by rw [l1, hn])
 rw [l3] at this
 exact this
theorem all_drop {l : List AV} {k : Nat} (h : l.all AV.one = true) : (l.drop k).all AV.one = true := by
 rw [q3] at *
 exact fun x hx => h x (List.mem_of_mem_drop hx)
theorem frozen_end {E : Env} {b : Nat} {cs : List AV} (h : Blk E b cs) {t : TypeId} {m : Nat} (hs : E.w.shape? b = some (t, m)) (ht : tsize t = 2) (o : Nat) : E.w.frozen? ⟨b, o, none⟩ = false := by
 obtain ⟨conc, t', fr, a1, a2, a3, a4⟩ := h.blk
 have : t' = t := by simp only [World.shape?, a1, Option.some.injEq, Prod.mk.injEq] at hs; exact hs.1
 subst this
 have he : fr.1 = fr.2 := by
  rcases a2 with h | ⟨_, h⟩
  · exact h
  omega
 obtain ⟨lo, hi⟩ := fr
 simp only [World.frozen?, a1]
 simp only at he
 simp only [Bool.and_eq_false_iff, decide_eq_false_iff_not]
 omega
set_option maxHeartbeats 4000000 in
set_option maxRecDepth 100000 in
theorem ins_shift {E : Env} {σ : Store} (hS : SR E σ) {id ver n i b cap vid vver vb : Nat} {cells new : List AV} (hcs : Store.at σ id ver = some cells) (hlen : cells.length = n * 2) (hone : cells.all AV.one = true) (hi : i < n)
 (hloc : E.loc id = some (ver, some b)) (hok : E.ok id ver) {t m : Nat} (hsh : E.w.shape? b = some (t, m)) (hts : tsize t = 2) (hm : cap * 2 ≤ m) (hroom : n + 1 ≤ cap) (hn : (n + 1) * 32 ≤ 140737488355328)
 (hv : Store.at σ vid vver = some new) (hnew : new.length = 2) (honev : new.all AV.one = true) (hvid : vid ≠ id) (hvloc : E.loc vid = some (vver, some vb)) (hvok : E.ok vid vver) {tv mv : Nat} (hvsh : E.w.shape? vb = some (tv, mv)) (hvts : tsize tv = 2) (hvc : 2 ≤ mv) :
 Calls qh 88 #[.slice (some ⟨b, 0, none⟩) n cap, .int .i64 i, .slice (some ⟨vb, 0, none⟩) 1 1] E.w fun e w' =>
  ∃ E', e = .returned (.slice (some ⟨b, 0, none⟩) (n + 1) cap) ∧ w' = E'.w ∧ VR E' (.os true 2 id ver 0 (n + 1) false) (.slice (some ⟨b, 0, none⟩) (n + 1) cap) ∧ SR E' (σ.set id (.cells ver (cells.take (i * 2) ++ (new ++ cells.drop (i * 2))))) ∧ Ext E E' := by
 have hvb : vb ≠ b := fun e => hvid (hS.inj _ _ _ _ b (e ▸ hvloc) hloc)
 have hB1 : Blk E b cells := by
  rcases hS.at hcs with ⟨b', h1, h2⟩ | ⟨_, h1⟩
  · rw [hloc] at h1; cases h1; exact h2
  rw [hloc] at h1; cases h1
 have hB2 : Blk E vb new := by
  rcases hS.at hv with ⟨b', h1, h2⟩ | ⟨_, h1⟩
  · rw [hvloc] at h1; cases h1; exact h2
  rw [hvloc] at h1; cases h1
 have hSw := hS.widen hcs hloc hsh 2 (by omega)
 obtain ⟨hS1, hx1⟩ := hSw.grew (ZL.drew E.w)
 have hcsw : Store.at (σ.set id (.cells ver (cells ++ qF 2 AV.u))) id ver = some (cells ++ qF 2 AV.u) := Store.at_set hcs
 have hlt := Store.at_lt hcs
 have hvw : Store.at (σ.set id (.cells ver (cells ++ qF 2 AV.u))) vid vver = some new := by
  unfold Store.at at hv ⊢; rw [q5 (fun e => hvid e.symm)]; exact hv
 have os1 : ∀ {E' : Env} (hx : Ext E E') (k : Nat), k ≤ n → VR E' (.os true 2 id ver (k * 2) (n + 1 - k) false) (.slice (some ⟨b, k * 2, none⟩) (n + 1 - k) (cap - k)) := by
  intro E' hx k hk
  refine VR.ext hx (.os _ _ _ _ _ _ _ _ _ hok (by omega) (fun h => by cases h) (by omega) fun ob hob => ?_)
  rw [hloc] at hob; cases hob
  exact ⟨b, rfl, .inr rfl, t, m, hsh, hts, by omega⟩
 have osv : ∀ {E' : Env} (hx : Ext E E'), VR E' (.os true 2 vid vver 0 1 true) (.slice (some ⟨vb, 0, none⟩) 1 1) := by
  intro E' hx
  refine VR.ext hx (.os _ _ _ _ _ _ _ _ _ hvok (by omega) (fun _ => rfl) (by omega) fun ob hob => ?_)
  rw [hvloc] at hob; cases hob
  exact ⟨vb, rfl, .inr rfl, tv, mv, hvsh, hvts, by omega⟩
 have hov : ∀ lb cb, (callFunc 113 #[.slice (some ⟨vb, 0, none⟩) 1 1, .slice (some ⟨b, (i + 1) * 2, none⟩) lb cb]).run qh E.w = .ok (.value (.bool false)) E.w := fun lb cb => by
  rw [run_callFunc_extern Tryd.func113 (by kernel_rfl) (by kernel_rfl) (by kernel_rfl) (e := Extern.SlicesOverlaps.overlaps #[40, 40] #[4]) (by kernel_rfl),
   Lib.run_overlaps_apart E.w 40 4 61 (tok _ _ Yy).desc 2 (fun w => xn w (tok _ _ Yx)) ⟨vb, 0, none⟩ ⟨b, (i + 1) * 2, none⟩ 1 1 lb cb hvb tv t mv m hvsh hsh (by omega) (frozen_end hB2 hvsh hvts _) (frozen_end hB2 hvsh hvts _)]
  rfl
 have hdl : (cells.drop (i * 2)).length = (n - i) * 2 := by rw [uG, hlen, Nat.sub_mul]
 have hlw : (cells ++ qF 2 AV.u).length = (n + 1) * 2 := by rw [qi, hlen, List.length_replicate, uR]
 have hW : ∀ ty, ∃ v E2, (Builtin.copy_ #[40, 40] ty #[.slice (some ⟨b, (i + 1) * 2, none⟩) (n + 1 - (i + 1)) (cap - (i + 1)), .slice (some ⟨b, i * 2, none⟩) (n + 1 - i) (cap - i)]).run qh E.w.drew = .ok v E2.w ∧
  SR E2 (σ.set id (.cells ver (yO (cells ++ [.u, .u]) (i * 2 + 2) (cells.drop (i * 2))))) ∧ Ext E E2 := by
  intro ty
  have hx0 : Ext E { E with w := E.w.drew } := hx1
  have hd := os1 hx0 (i + 1) (by omega)
  have hs := os1 hx0 i (by omega)
  have hev : Yb tab 40 (.os true 2 id ver ((i + 1) * 2) (n + 1 - (i + 1)) false) (.os true 2 id ver (i * 2) (n + 1 - i) false) (σ.set id (.cells ver (cells ++ qF 2 AV.u))) =
   some (.int .i64 ((min (n + 1 - i) (n + 1 - (i + 1)) : Nat) : Int), (σ.set id (.cells ver (cells ++ qF 2 AV.u))).set id (.cells ver (yO (cells ++ qF 2 AV.u) ((i + 1) * 2) (cells.drop (i * 2))))) := by
   have e1 : yb (σ.set id (.cells ver (cells ++ qF 2 AV.u))) 2 (.os true 2 id ver (i * 2) (n + 1 - i) false) = some (n + 1 - i, ((cells ++ qF 2 AV.u).drop (i * 2)).take ((n + 1 - i) * 2)) := by
    simp only [yb, hcsw]
    rw [if_pos (by rw [hlw, ← uR]; exact qQ _ (by omega))]
   have e2 : min (n + 1 - i) (n + 1 - (i + 1)) = n - i := by omega
   have e3 : (((cells ++ qF 2 AV.u).drop (i * 2)).take ((n + 1 - i) * 2)).take ((n - i) * 2) = cells.drop (i * 2) := by
    rw [List.take_take, Nat.min_eq_left (qQ _ (by omega)), List.drop_append_of_le_length (by rw [hlen]; exact qQ _ (by omega)), List.take_append_of_le_length (by rw [hdl]; exact qq _), ← hdl, ui]
   have hp : wA (σ.set id (.cells ver (cells ++ qF 2 AV.u))) (.os true 2 id ver ((i + 1) * 2) (n + 1 - (i + 1)) false) (n - i) 2 (cells.drop (i * 2)) = some ((σ.set id (.cells ver (cells ++ qF 2 AV.u))).set id (.cells ver (yO (cells ++ qF 2 AV.u) ((i + 1) * 2) (cells.drop (i * 2))))) := by
    unfold wA
    rw [if_neg (by omega)]
    simp only [hcsw]
    rw [if_pos ⟨trivial, by rw [hlw, hdl, ← uR]; exact qQ _ (by omega), all_drop hone⟩]
   simp only [Yb, Yy, Yx, e1, e2, e3, hp]
  obtain ⟨v, E2, h1, h2, h3, h4⟩ := ZW (P := qh) (st := 40) (ty := ty) tok hS1 hd hs hev
  refine ⟨v, E2, h1, ?_, hx0.trans h4⟩
  rw [List.set_set] at h3
  have e : (i + 1) * 2 = i * 2 + 2 := by omega
  rw [e] at h3
  exact h3
 obtain ⟨v1, E2, hc1, hS2, hx2⟩ := hW 3
 rw [show n + 1 - (i + 1) = n - i by omega] at hc1
 have hcs2 : Store.at (σ.set id (.cells ver (yO (cells ++ [.u, .u]) (i * 2 + 2) (cells.drop (i * 2))))) id ver = some (yO (cells ++ [.u, .u]) (i * 2 + 2) (cells.drop (i * 2))) := Store.at_set hcs
 have hv2 : Store.at (σ.set id (.cells ver (yO (cells ++ [.u, .u]) (i * 2 + 2) (cells.drop (i * 2))))) vid vver = some new := by
  unfold Store.at at hv ⊢; rw [q5 (fun e => hvid e.symm)]; exact hv
 have hW2 : ∃ v E3, (Builtin.copy_ #[40, 40] 3 #[.slice (some ⟨b, i * 2, none⟩) (n + 1 - i) (cap - i), .slice (some ⟨vb, 0, none⟩) 1 1]).run qh E2.w = .ok v E3.w ∧
  SR E3 (σ.set id (.cells ver (cells.take (i * 2) ++ (new ++ cells.drop (i * 2))))) ∧ Ext E E3 := by
  have hd := os1 hx2 i (by omega)
  have hs := osv hx2
  have hev : Yb tab 40 (.os true 2 id ver (i * 2) (n + 1 - i) false) (.os true 2 vid vver 0 1 true) (σ.set id (.cells ver (yO (cells ++ [.u, .u]) (i * 2 + 2) (cells.drop (i * 2))))) =
   some (.int .i64 ((min 1 (n + 1 - i) : Nat) : Int), (σ.set id (.cells ver (yO (cells ++ [.u, .u]) (i * 2 + 2) (cells.drop (i * 2))))).set id (.cells ver (yO (yO (cells ++ [.u, .u]) (i * 2 + 2) (cells.drop (i * 2))) (i * 2) new))) := by
   have e1 : yb (σ.set id (.cells ver (yO (cells ++ [.u, .u]) (i * 2 + 2) (cells.drop (i * 2))))) 2 (.os true 2 vid vver 0 1 true) = some (1, new) := by
    simp only [yb, hv2]
    rw [if_pos (by omega), qJ, ← hnew, Nat.one_mul] 
    rw [show new.length = new.length from rfl, ui]
   have e2 : min 1 (n + 1 - i) = 1 := by omega
   have e3 : new.take (1 * 2) = new := by rw [Nat.one_mul, ← hnew, ui]
   have hp : wA (σ.set id (.cells ver (yO (cells ++ [.u, .u]) (i * 2 + 2) (cells.drop (i * 2))))) (.os true 2 id ver (i * 2) (n + 1 - i) false) 1 2 new = some ((σ.set id (.cells ver (yO (cells ++ [.u, .u]) (i * 2 + 2) (cells.drop (i * 2))))).set id (.cells ver (yO (yO (cells ++ [.u, .u]) (i * 2 + 2) (cells.drop (i * 2))) (i * 2) new))) := by
    unfold wA
    rw [if_neg (by omega)]
    simp only [hcs2]
    rw [if_pos ⟨trivial, by rw [Yp, hnew]; simp only [qi, qk, qn, hlen]; omega, honev⟩]
   simp only [Yb, Yy, Yx, e1, e2, e3, hp]
  obtain ⟨v, E3, h1, h2, h3, h4⟩ := ZW (P := qh) (st := 40) (ty := 3) tok hS2 hd hs hev
  refine ⟨v, E3, h1, ?_, hx2.trans h4⟩
  rw [List.set_set, setRun_ins _ _ _ (by omega) hnew] at h3
  exact h3
 obtain ⟨v2, E3, hc2, hS3, hx3⟩ := hW2
 have hfin := os1 hx3 0 (um _)
 rw [uy, uL, uL] at hfin
 have hz1 : ¬ ((i : Int) = (n : Int)) := by omega
 have hw1 : IntKind.i64.wrap ((i : Int) + 1) = (i : Int) + 1 := by rw [IntKind.wrap_i64]; omega
 have hw2 : IntKind.i64.wrap ((n : Int) + 1) = (n : Int) + 1 := by rw [IntKind.wrap_i64]; omega
 have hb1 : (0 : Int) ≤ (i : Int) + 1 := by omega
 have hin : i ≤ n := by omega
 have htn : ((i : Int) + 1).toNat = i + 1 := by omega
 have hb2 : ¬ (cap = i + 1) := by omega
 have hb3 : (i : Int) ≤ (n : Int) + 1 := by omega
 have hb4 : ¬ (cap = i) := by omega
 have mixed : Tryd.prog.follows .mixedOrders = true := by kernel_rfl
 clear hS hcs hcsw hvw hcs2 hv2 hS1 hSw os1 osv hB1 hB2 hW
 go_enter Tryd.func88, Tryd.ntmps88
 go_wp2_with (simp only [hov])
 go_region_law_o (refine step_copy_runI rfl _ _ 40 40 rfl _ _ (by simp [Act.eval, Act.put]) (by simp [Act.eval, Act.put]) hc1 ?_)
 go_wp2_with (at_builtin; refine wpList_copy_runI _ rfl _ _ 40 40 rfl _ _ rfl rfl hc2 ?_)
 go_ret
 exact ⟨E3, rfl, rfl, hfin, hS3, hx3⟩
theorem setRun_ins2 (cs new : List AV) (k : Nat) (hk : k ≤ cs.length) (hn : new.length = 2) (q : Nat) (hq : q = cs.length - k + 2) :
 yO (yO (cs.take k ++ qF q AV.u) k new) (k + 2) (cs.drop k) = cs.take k ++ (new ++ cs.drop k) := by
 have l3 : (cs.take k).length = k := by rw [uF, Nat.min_eq_left hk]
 have e0 : cs.take k ++ qF q AV.u = cs.take k ++ (qF 2 AV.u ++ qF (cs.length - k) AV.u) := by
  rw [List.replicate_append_replicate, hq, Nat.add_comm]
 have e1 : yO (cs.take k ++ qF q AV.u) k new = cs.take k ++ (new ++ qF (cs.length - k) AV.u) := by
  rw [e0]
  have := w9 new (cs.take k) (qF 2 AV.u) (qF (cs.length - k) AV.u) (by simp [hn])
  rw [l3] at this; exact this
 have l4 : (cs.take k ++ new).length = k + 2 := by rw [qi, l3, hn]
 rw [e1, ← qr, ← l4]
 have := w9 (cs.drop k) (cs.take k ++ new) (qF (cs.length - k) AV.u) [] (by simp)
 rw [qx, qx] at this
 rw [this, qr]
set_option maxHeartbeats 4000000 in
set_option maxRecDepth 100000 in
theorem ins_grow {E : Env} {σ : Store} (hS : SR E σ) {id ver n i b vid vver vb : Nat} {cells new : List AV} (hcs : Store.at σ id ver = some cells) (hlen : cells.length = n * 2) (hone : cells.all AV.one = true) (hi : i < n)
 (hloc : E.loc id = some (ver, some b)) (hok : E.ok id ver) {t m : Nat} (hsh : E.w.shape? b = some (t, m)) (hts : tsize t = 2) (hm : n * 2 ≤ m) (hn : (n + 1) * 32 ≤ 140737488355328)
 (hv : Store.at σ vid vver = some new) (hnew : new.length = 2) (honev : new.all AV.one = true) (hvid : vid ≠ id) (hvloc : E.loc vid = some (vver, some vb)) (hvok : E.ok vid vver) {tv mv : Nat} (hvsh : E.w.shape? vb = some (tv, mv)) (hvts : tsize tv = 2) (hvc : 2 ≤ mv) :
 Calls qh 88 #[.slice (some ⟨b, 0, none⟩) n n, .int .i64 i, .slice (some ⟨vb, 0, none⟩) 1 1] E.w fun e w' =>
  ∃ E' v, e = .returned v ∧ w' = E'.w ∧ VR E' (.os true 2 σ.length 0 0 (n + 1) false) v ∧ SR E' (σ ++ [.cells 0 (cells.take (i * 2) ++ (new ++ cells.drop (i * 2)))]) ∧ Ext E E' ∧ ∀ i2 v2 nb, E.loc i2 = some (v2, some nb) → E'.loc σ.length = some (0, some nb) → False := by
 have hvb : vb ≠ b := fun e => hvid (hS.inj _ _ _ _ b (e ▸ hvloc) hloc)
 have hlt := Store.at_lt hcs
 have hltv := Store.at_lt hv
 obtain ⟨hS1, hx1⟩ := hS.grew (ZL.drew E.w)
 have os1 : ∀ {E' : Env} (hx : Ext E E') (k q : Nat), k + q ≤ n → VR E' (.os true 2 id ver (k * 2) q false) (.slice (some ⟨b, k * 2, none⟩) q (n - k)) := by
  intro E' hx k q hk
  refine VR.ext hx (.os _ _ _ _ _ _ _ _ _ hok (by omega) (fun h => by cases h) (by omega) fun ob hob => ?_)
  rw [hloc] at hob; cases hob
  exact ⟨b, rfl, .inr rfl, t, m, hsh, hts, by omega⟩
 have osv : ∀ {E' : Env} (hx : Ext E E'), VR E' (.os true 2 vid vver 0 1 true) (.slice (some ⟨vb, 0, none⟩) 1 1) := by
  intro E' hx
  refine VR.ext hx (.os _ _ _ _ _ _ _ _ _ hvok (by omega) (fun h => rfl) (by omega) fun ob hob => ?_)
  rw [hvloc] at hob; cases hob
  exact ⟨vb, rfl, .inr rfl, tv, mv, hvsh, hvts, by omega⟩
 have htl : (cells.take (i * 2)).length = i * 2 := by rw [uF, hlen]; omega
 have hdl : (cells.drop (i * 2)).length = (n - i) * 2 := by rw [uG, hlen, Nat.sub_mul]
 -- what is copied by append
 have hold0 := os1 hx1 0 i (by omega)
 rw [uy] at hold0
 obtain ⟨_, _, hrd⟩ := YI (P := qh) hS1 hold0 (size := 2) (n := i) (cs := cells.take (i * 2)) (by
  simp only [yb, hcs]
  rw [if_pos (by omega), qJ])
 obtain ⟨os, hos, hto⟩ := hrd i (qq _)
 rw [show (cells.take (i * 2)).take (i * 2) = cells.take (i * 2) by rw [List.take_take, Nat.min_self]] at hto
 obtain ⟨G, hG⟩ : ∃ G, G = grownCap E.w (n + 1) n 61 := ⟨_, rfl⟩
 have hGn : n + 1 ≤ G := by rw [hG]; unfold grownCap; simp only [Question.cut]; omega
 obtain ⟨conc, hconc⟩ : ∃ conc : Array Value, conc = os ++ Builtin.zeroCells (Value.agg #[Value.int IntKind.i64 0, Value.slice none 0 0]).cells (n + 1 - i) ++ Builtin.zeroCells (Value.agg #[Value.int IntKind.i64 0, Value.slice none 0 0]).cells (G - (n + 1)) := ⟨_, rfl⟩
 have hrz : ∀ ty, (Builtin.append_ #[40, 3] ty #[.slice (some ⟨b, 0, none⟩) i n, .int .i64 ((n : Int) + 1 - (i : Int))]).run qh E.w =
  .ok (.slice (some ⟨E.w.heap.size, 0, none⟩) (n + 1) G) (E.w.drew.alloc (.cells conc 61)) := fun ty => by
  have h := Lib.run_append_grow_zeros (P := qh) E.w 40 3 ty 61 Tryd.t61 _ .i64 .i64 Tryd.underlying40 Tryd.underlying3 Tryd.type61 rfl (some ⟨b, 0, none⟩) i n os.toList (by rw [Array.toArray_toList]; exact hos) (n + 1 - i) (by omega) (by decide) (by omega) (by omega) (by show (n + 1 - i) * 32 ≤ _; omega) (by
   rw [show i + (n + 1 - i) = n + 1 by omega]
   exact growslice_fits (by omega) (by show (n + 1) * 32 ≤ _; omega))
  rw [show i + (n + 1 - i) = n + 1 by omega, ← hG, Array.toArray_toList, ← hconc] at h
  rw [show (n : Int) + 1 - (i : Int) = ((n + 1 - i : Nat) : Int) by omega]
  exact h
 have hsz1 : os.size = i * 2 := by rw [hto.1, htl]
 have hcsz : G * 2 ≤ conc.size := by
  rw [hconc]
  simp only [Array.size_append, hsz1, Builtin.zeroCells, Value.cells]
  simp
  omega
 have hnr := hS1.newRow conc 61 (cells.take (i * 2) ++ qF ((n + 1 - i) * 2) AV.u) (by rw [qi, htl, List.length_replicate]; omega) (by
  intro k hk
  by_cases hki : k < i * 2
  · rw [ZN _ _ _ (by rw [htl]; exact hki)]
    have := hto.2 k (by rw [htl]; exact hki)
    have e : conc.getD k undef = os.getD k undef := by
     rw [hconc, Array.append_assoc]
     simp [Array.getElem?_append_left (show k < os.size by omega)]
    rw [e]; exact this
  rw [wY _ _ _ (by rw [htl]; omega)]
  have : gc (qF ((n + 1 - i) * 2) AV.u) (k - (cells.take (i * 2)).length) = .u := by
   unfold gc
   rw [qs, List.getElem?_replicate]
   split <;> rfl
  rw [this]; exact .u _)
 obtain ⟨hS2, hx2⟩ := hnr
 obtain ⟨E2, hE2⟩ : ∃ E2, E2 = Env.new { E with w := E.w.drew } (E.w.drew.alloc (.cells conc 61)) (some E.w.drew.heap.size) := ⟨_, rfl⟩
 have hloc2 : E2.loc σ.length = some (0, some E.w.heap.size) := by rw [hE2]; exact Env.loc_new hS1 _ _
 have hok2 : E2.ok σ.length 0 := by rw [hE2]; exact Env.ok_new hS1 _ _
 have hE2w : E2.w = E.w.drew.alloc (.cells conc 61) := by rw [hE2]; rfl
 rw [← hE2] at hS2 hx2
 have hx02 : Ext E E2 := Ext.trans hx1 hx2
 have hsh2 : E2.w.shape? E.w.heap.size = some (61, conc.size) := by
  rw [hE2w]
  have := xa E.w.drew (.cells conc 61)
  simp only [World.shape?]
  rw [show E.w.heap.size = E.w.drew.heap.size from rfl, this]
 have osn : ∀ {E' : Env} (hx : Ext E2 E') (k q : Nat), k + q ≤ n + 1 → VR E' (.os true 2 σ.length 0 (k * 2) q false) (.slice (some ⟨E.w.heap.size, k * 2, none⟩) q (G - k)) := by
  intro E' hx k q hk
  refine VR.ext hx (.os _ _ _ _ _ _ _ _ _ hok2 (by omega) (fun h => by cases h) (by omega) fun ob hob => ?_)
  rw [hloc2] at hob; cases hob
  exact ⟨_, rfl, .inr rfl, _, _, hsh2, rfl, by omega⟩
 have hat2 : ∀ cs, Store.at (σ ++ [.cells 0 cs]) σ.length 0 = some cs := fun cs => Store.at_new σ 0 cs
 have hset2 : ∀ cs cs', (σ ++ [Zq.cells 0 cs]).set σ.length (.cells 0 cs') = σ ++ [.cells 0 cs'] := fun cs cs' => by
  rw [List.set_append_right _ _ (qq _), uM]; rfl
 have hold2 : ∀ {id ver : Nat} {c cs : List AV}, Store.at σ id ver = some c → Store.at (σ ++ [Zq.cells 0 cs]) id ver = some c := by
  intro id ver c cs h
  have := Store.at_lt h
  unfold Store.at at h ⊢; rw [qK this]; exact h
 -- the first copy
 have hW2 : ∃ v E3, (Builtin.copy_ #[40, 40] 3 #[.slice (some ⟨E.w.heap.size, i * 2, none⟩) (n + 1 - i) (G - i), .slice (some ⟨vb, 0, none⟩) 1 1]).run qh E2.w = .ok v E3.w ∧
  SR E3 (σ ++ [.cells 0 (yO (cells.take (i * 2) ++ qF ((n + 1 - i) * 2) AV.u) (i * 2) new)]) ∧ Ext E2 E3 := by
  have hd := osn (Ext.refl E2) i (n + 1 - i) (by omega)
  have hs := osv hx02
  have hev : Yb tab 40 (.os true 2 σ.length 0 (i * 2) (n + 1 - i) false) (.os true 2 vid vver 0 1 true) (σ ++ [.cells 0 (cells.take (i * 2) ++ qF ((n + 1 - i) * 2) AV.u)]) =
   some (.int .i64 ((min 1 (n + 1 - i) : Nat) : Int), σ ++ [.cells 0 (yO (cells.take (i * 2) ++ qF ((n + 1 - i) * 2) AV.u) (i * 2) new)]) := by
   have e1 : yb (σ ++ [.cells 0 (cells.take (i * 2) ++ qF ((n + 1 - i) * 2) AV.u)]) 2 (.os true 2 vid vver 0 1 true) = some (1, new) := by
    simp only [yb, hold2 hv]
    rw [if_pos (by omega), qJ, Nat.one_mul, ← hnew, ui]
   have e2 : min 1 (n + 1 - i) = 1 := by omega
   have e3 : new.take (1 * 2) = new := by rw [Nat.one_mul, ← hnew, ui]
   have hp : wA (σ ++ [.cells 0 (cells.take (i * 2) ++ qF ((n + 1 - i) * 2) AV.u)]) (.os true 2 σ.length 0 (i * 2) (n + 1 - i) false) 1 2 new = some (σ ++ [.cells 0 (yO (cells.take (i * 2) ++ qF ((n + 1 - i) * 2) AV.u) (i * 2) new)]) := by
    unfold wA
    rw [if_neg (by omega)]
    simp only [hat2, hset2]
    rw [if_pos ⟨trivial, by rw [hnew, qi, htl, List.length_replicate]; omega, honev⟩]
   simp only [Yb, Yy, Yx, e1, e2, e3, hp]
  obtain ⟨v, E3, h1, h2, h3, h4⟩ := ZW (P := qh) (st := 40) (ty := 3) tok hS2 hd hs hev
  exact ⟨v, E3, h1, h3, h4⟩
 obtain ⟨v1, E3, hc1, hS3, hx3⟩ := hW2
 obtain ⟨hS4, hx4⟩ := hS3.grew (ZL.drew E3.w)
 -- the second copy
 have hW3 : ∀ ty, ∃ v E4, (Builtin.copy_ #[40, 40] ty #[.slice (some ⟨E.w.heap.size, (i + 1) * 2, none⟩) (n - i) (G - (i + 1)), .slice (some ⟨b, i * 2, none⟩) (n - i) (n - i)]).run qh E3.w.drew = .ok v E4.w ∧
  SR E4 (σ ++ [.cells 0 (cells.take (i * 2) ++ (new ++ cells.drop (i * 2)))]) ∧ Ext E2 E4 := by
  intro ty
  have hx24 : Ext E2 { E3 with w := E3.w.drew } := Ext.trans hx3 hx4
  have hd := osn hx24 (i + 1) (n - i) (by omega)
  have hs := os1 (hx02.trans hx24) i (n - i) (by omega)
  have hev : Yb tab 40 (.os true 2 σ.length 0 ((i + 1) * 2) (n - i) false) (.os true 2 id ver (i * 2) (n - i) false) (σ ++ [.cells 0 (yO (cells.take (i * 2) ++ qF ((n + 1 - i) * 2) AV.u) (i * 2) new)]) =
   some (.int .i64 ((min (n - i) (n - i) : Nat) : Int), σ ++ [.cells 0 (cells.take (i * 2) ++ (new ++ cells.drop (i * 2)))]) := by
   have e1 : yb (σ ++ [.cells 0 (yO (cells.take (i * 2) ++ qF ((n + 1 - i) * 2) AV.u) (i * 2) new)]) 2 (.os true 2 id ver (i * 2) (n - i) false) = some (n - i, cells.drop (i * 2)) := by
    simp only [yb, hold2 hcs]
    rw [if_pos (by rw [hlen, ← uR]; exact qQ _ (by omega)), ← hdl, ui]
   have e2 : min (n - i) (n - i) = n - i := by omega
   have e3 : (cells.drop (i * 2)).take ((n - i) * 2) = cells.drop (i * 2) := by rw [← hdl, ui]
   have hp : wA (σ ++ [.cells 0 (yO (cells.take (i * 2) ++ qF ((n + 1 - i) * 2) AV.u) (i * 2) new)]) (.os true 2 σ.length 0 ((i + 1) * 2) (n - i) false) (n - i) 2 (cells.drop (i * 2)) = some (σ ++ [.cells 0 (cells.take (i * 2) ++ (new ++ cells.drop (i * 2)))]) := by
    unfold wA
    rw [if_neg (by omega)]
    simp only [hat2, hset2]
    rw [if_pos ⟨trivial, by rw [hdl, Yp, qi, htl, List.length_replicate]; omega, all_drop hone⟩]
    rw [show (i + 1) * 2 = i * 2 + 2 by omega, setRun_ins2 _ _ _ (by omega) hnew _ (by rw [hlen]; omega)]
   simp only [Yb, Yy, Yx, e1, e2, e3, hp]
  obtain ⟨v, E4, h1, h2, h3, h4⟩ := ZW (P := qh) (st := 40) (ty := ty) tok hS4 hd hs hev
  exact ⟨v, E4, h1, h3, hx24.trans h4⟩
 obtain ⟨v2, E4, hc2, hS5, hx5⟩ := hW3 3
 have hfin : VR E4 (.os true 2 σ.length 0 0 (n + 1) false) (.slice (some ⟨E.w.heap.size, 0, none⟩) (n + 1) G) := by
  have := osn hx5 0 (n + 1) (by omega)
  rwa [uy, uL] at this
 have hxf : Ext E E4 := hx02.trans hx5
 have hnew' : ∀ i2 v2 nb, E.loc i2 = some (v2, some nb) → E4.loc σ.length = some (0, some nb) → False := by
  intro i2 v2 nb h1 h2
  have h3 := hx5.back hok2 h2
  rw [hloc2] at h3; cases h3
  have := (hS.blk _ _ _ h1).1
  omega
 have hz1 : ¬ ((i : Int) = (n : Int)) := by omega
 have hw1 : IntKind.i64.wrap ((i : Int) + 1) = (i : Int) + 1 := by rw [IntKind.wrap_i64]; omega
 have hw2 : IntKind.i64.wrap ((n : Int) + 1) = (n : Int) + 1 := by rw [IntKind.wrap_i64]; omega
 have hw3 : IntKind.i64.wrap ((n : Int) + 1 - (i : Int)) = (n : Int) + 1 - (i : Int) := by rw [IntKind.wrap_i64]; omega
 have hb1 : (0 : Int) ≤ (i : Int) + 1 := by omega
 have hin : i ≤ n := by omega
 have htn : ((i : Int) + 1).toNat = i + 1 := by omega
 have hb2 : ¬ (G = i + 1) := by omega
 have hb3 : (i : Int) ≤ (n : Int) + 1 := by omega
 have hb4 : ¬ (G = i) := by omega
 have hb5 : ¬ (n = i) := by omega
 have hz3 : (n : Int) < (n : Int) + 1 := by omega
 have mixed : Tryd.prog.follows .mixedOrders = true := by kernel_rfl
 have hrz1 := hrz 40
 rw [← hE2w] at hrz1
 clear hS hcs hS1 os1 osv hrz hrd hos hto hS2 hx2 osn hold2 hset2 hat2 hW3 hE2 hE2w hloc2 hok2 hsh2 hx02 hold0 hG hconc hcsz
 go_enter Tryd.func88, Tryd.ntmps88
 go_wp2_with (first
  | (at_builtin; refine Lib.wpList_append_run _ rfl _ _ _ _ rfl _ _ rfl rfl _ _ hrz1 ?_)
  | (at_builtin; refine wpList_copy_runI _ rfl _ _ 40 40 rfl _ _ rfl rfl hc1 ?_))
 go_region_law_o (refine step_copy_runI rfl _ _ 40 40 rfl _ _ (by simp [Act.eval, Act.put]) (by simp [Act.eval, Act.put]) hc2 ?_)
 go_wp2
 go_ret
 exact ⟨E4, _, rfl, rfl, hfin, hS5, hxf, hnew'⟩
end
section
set_option maxRecDepth 20000
open Go.RowKit AM
theorem SR.die {E : Env} {σ : Store} (hS : SR E σ) : SR { E with n := E.n + 1 } (σ ++ [.dead]) ∧ Ext E { E with n := E.n + 1 } := by
 have hx : Ext E { E with n := E.n + 1 } := {
  os := rfl, tape := rfl, output := rfl, size := qq _, shape := fun _ _ h => h, st := fun _ h => ⟨h, rfl⟩, n := Nat.le_succ _,
  loc := fun _ _ v o h => ⟨v, o, h, qq _, fun _ => rfl⟩, old := fun _ _ _ => rfl, own := fun id v _ h _ => ⟨id, v, h⟩, stn := fun _ h => .inl h }
 have hn : E.loc σ.length = none := by
  have := hS.obj σ.length
  rw [ur (qq _)] at this
  exact this
 refine ⟨⟨by simp [hS.len], fun id => ?_, hS.inj, hS.blk, hS.stb, hS.glb⟩, hx⟩
 by_cases h1 : id < σ.length
 · rw [qK h1]
   exact (hS.obj id).ext hx rfl fun _ _ _ => rfl
 by_cases h2 : id = σ.length
 · subst h2
   rw [ue (qq _), uM]
   exact hn
 rw [ur (by simp; omega)]
 have := hS.obj id
 rw [ur (by omega)] at this
 exact this
theorem SR.swap {E : Env} {σ : Store} {cs : List AV} (hS : SR E (σ ++ [.cells 0 cs])) {id ver b nb : Nat} (hlt : id < σ.length) (hl : E.loc id = some (ver, some b)) (hn : E.loc σ.length = some (0, some nb)) :
 let E' : Env := { E with loc := fun i => if i = id then some (ver + 1, some nb) else if i = σ.length then none else E.loc i }
 SR E' (σ.set id (.cells (ver + 1) cs) ++ [.dead]) ∧ ExtV E E' ∧ ∀ sz len v, VR E (.os true sz σ.length 0 0 len false) v → VR E' (.os true sz id (ver + 1) 0 len false) v := by
 intro E'
 have hid : E'.loc id = some (ver + 1, some nb) := by simp [E']
 have hlast : E'.loc σ.length = none := by simp [E']; omega
 have hother : ∀ i, i ≠ id → i ≠ σ.length → E'.loc i = E.loc i := fun i h1 h2 => by simp [E', h1, h2]
 have hx : ExtV E E' := {
  shape := fun _ _ h => h
  st := fun _ h => ⟨h, rfl⟩
  n := qq _
  loc := fun i _ v o h => by
   by_cases h1 : i = id
   · subst h1; rw [hid] at h; cases h; exact ⟨ver, some b, hl, by omega, fun e => by omega⟩
   by_cases h2 : i = σ.length
   · subst h2; rw [hlast] at h; cases h
   rw [hother i h1 h2] at h; exact ⟨v, o, h, qq _, fun _ => rfl⟩ }
 have hnE : E.n = σ.length + 1 := by have := hS.len; simp at this; omega
 have hold : ∀ i v c, E'.loc i = some (v, some c) → (i = id ∧ c = nb) ∨ (i ≠ id ∧ i ≠ σ.length ∧ E.loc i = some (v, some c)) := by
  intro i v c h
  by_cases h1 : i = id
  · subst h1; rw [hid] at h; cases h; exact .inl ⟨rfl, rfl⟩
  by_cases h2 : i = σ.length
  · subst h2; rw [hlast] at h; cases h
  rw [hother i h1 h2] at h; exact .inr ⟨h1, h2, h⟩
 refine ⟨⟨by simp [hnE, E'], fun i => ?_, fun i i' v v' c h1 h2 => ?_, fun i v c h => ?_, hS.stb, hS.glb⟩, hx, fun sz len v h => ?_⟩
 · by_cases h1 : i = id
   · subst h1
     rw [qK (by simpa using hlt), uo hlt]
     have := hS.obj σ.length
     rw [ue (qq _), uM] at this
     rcases this with ⟨c, e1, e2⟩ | ⟨_, e1⟩
     · rw [hn] at e1; cases e1
       refine .inl ⟨nb, hid, ?_⟩
       obtain ⟨conc, t, fr, a1, a2, a3, a4⟩ := e2.blk
       exact ⟨conc, t, fr, a1, a2, a3, fun k hk => (a4 k hk).extV hx⟩
     rw [hn] at e1; cases e1
   by_cases h2 : i = σ.length
   · subst h2
     rw [ue (by simp)]
     simp only [List.length_set, uM, uH]
     exact hlast
   have ho := hS.obj i
   by_cases h3 : i < σ.length
   · rw [qK (by simpa using h3), q5 (fun e => h1 e.symm)]
     rw [qK h3] at ho
     exact ho.extV hx (hother i h1 h2) fun _ _ _ => rfl
   rw [ur (by simp; omega)] at ho ⊢
   exact (hother i h1 h2).trans ho
 · rcases hold _ _ _ h1 with ⟨e1, e2⟩ | ⟨e1, e2, e3⟩
   · subst e1; subst e2
     rcases hold _ _ _ h2 with ⟨f1, f2⟩ | ⟨f1, f2, f3⟩
     · exact f1.symm
     exact absurd (hS.inj _ _ _ _ _ f3 hn) f2
   rcases hold _ _ _ h2 with ⟨f1, f2⟩ | ⟨f1, f2, f3⟩
   · subst f2; exact absurd (hS.inj _ _ _ _ _ e3 hn) e2
   exact hS.inj _ _ _ _ _ e3 f3
 · rcases hold _ _ _ h with ⟨e1, e2⟩ | ⟨e1, e2, e3⟩
   · subst e2; exact hS.blk _ _ _ hn
   exact hS.blk _ _ _ e3
 have hok : E'.ok id (ver + 1) := ⟨by show id < E.n; omega, fun v o h => by rw [hid] at h; cases h; exact qq _⟩
 cases h with
 | osn _ _ _ _ _ a hk h =>
  have := h _ hn; cases this
 | os _ _ _ _ _ _ _ a cap hk hc ht hB h =>
  refine .os _ _ _ _ _ _ _ a cap hok hc ht hB fun ob hob => ?_
  rw [hid] at hob; cases hob
  exact h _ hn
theorem Ext.swap {E0 E : Env} (hx : Ext E0 E) {σ0 : Store} (h0 : SR E0 σ0) {id ver b nb : Nat} (hl : E.loc id = some (ver, some b)) (hn : E.loc σ0.length = some (0, some nb)) (hnb : E0.w.heap.size ≤ nb) (hlt : id < σ0.length) :
 Ext E0 { E with loc := fun i => if i = id then some (ver + 1, some nb) else if i = σ0.length then none else E.loc i } := by
 refine { hx with loc := fun i hi v o h => ?_, own := fun i v c h hc => ?_, n := hx.n, st := hx.st }
 · by_cases h1 : i = id
   · subst h1
     simp only [if_true, Option.some.injEq, Prod.mk.injEq] at h
     obtain ⟨v0, o0, e1, e2, e3⟩ := hx.loc _ hi _ _ hl
     exact ⟨v0, o0, e1, by omega, fun e => by omega⟩
   simp only [if_neg h1] at h
   split at h
   · cases h
   exact hx.loc i hi v o h
 by_cases h1 : i = id
 · subst h1
   simp only [if_true, Option.some.injEq, Prod.mk.injEq] at h
   omega
 simp only [if_neg h1] at h
 split at h
 · cases h
 exact hx.own i v c h hc
theorem ACalls.dies {P : Program} {f : FuncId} {args : List AV} {σ : Store} {x : AV} {τ : Store} (h : ACalls P f args σ fun r σ' => r = x ∧ σ' = τ) : ACalls P f args σ fun r σ' => r = x ∧ σ' = τ ++ [.dead] := by
 refine ⟨h.1, fun E vs hS hl => (h.2 E vs hS hl).mono ?_⟩
 rintro e w ⟨v, r, σ', E', rfl, rfl, h3, h4, h5, rfl, rfl⟩
 obtain ⟨g1, g2⟩ := SR.die h4
 exact ⟨_, _, _, { E' with n := E'.n + 1 }, rfl, rfl, h3.ext g2, g1, h5.trans g2, rfl, rfl⟩
theorem bump {E E' : Env} {σ : Store} (hS : SR E σ) {id ver b : Nat} {cs cs' : List AV} (hcs : Store.at σ id ver = some cs) (hk : E.ok id ver) (hloc : E.loc id = some (ver, some b)) (hne : cs.length ≠ 0) (hlen : cs'.length ≠ 0) (h4 : SR E' (σ.set id (.cells ver cs'))) (h5 : Ext E E') {sz len : Nat} {v : Value}
 (h3 : VR E' (.os true sz id ver 0 len false) v) :
 ∃ E2 : Env, E2.w = E'.w ∧ SR E2 (σ.set id (.cells (ver + 1) cs')) ∧ VR E2 (.os true sz id (ver + 1) 0 len false) v ∧ Ext E E2 := by
 have hat := Store.at_set (ver' := ver) (cs' := cs') hcs
 have hl' : E'.loc id = some (ver, some b) := by
  rcases h4.at hat with ⟨b', e1, _⟩ | ⟨e1, _⟩
  · have := h5.back hk e1; rw [hloc] at this; cases this; exact e1
  rw [e1] at hlen; exact absurd rfl hlen
 obtain ⟨hS3, hx3⟩ := h4.move (ZL.refl E'.w) hat hl' (ob := some b) (fun b hb => by cases hb; exact ⟨.inr rfl, (h4.blk _ _ _ hl').1⟩) (cs := cs') (.inl ⟨b, by simp [Env.move], by
  rcases h4.at hat with ⟨b1, h1, hblk1⟩ | ⟨_, h1⟩
  · rw [hl'] at h1; cases h1
    obtain ⟨conc, t, fr, a1, a2, a3, a4⟩ := hblk1.blk
    exact ⟨conc, t, fr, a1, a2, a3, fun k hk => (a4 k hk).ext (Ext.move h4.stb (ZL.refl _) hl' _ fun b hb => by cases hb; exact .inr rfl)⟩
  rw [hl'] at h1; cases h1⟩)
 rw [List.set_set] at hS3
 refine ⟨E'.move E'.w id (ver + 1) (some b), rfl, hS3, ?_, h5.trans hx3⟩
 have hok : (E'.move E'.w id (ver + 1) (some b)).ok id (ver + 1) := ⟨ua hk.1 h5.n, fun v o hvo => by simp [Env.move] at hvo; omega⟩
 cases h3 with
 | osn _ _ _ _ _ a hk h => have := h _ hl'; cases this
 | os _ _ _ _ _ _ _ a cap hk hc ht hB h =>
  refine .os _ _ _ _ _ _ _ a cap hok hc ht hB fun ob hob => ?_
  simp only [Env.move, if_true, Option.some.injEq, Prod.mk.injEq, true_and] at hob
  subst hob
  exact h _ hl'
theorem Insert_at {σ : Store} {id ver n i vid vver : Nat} {nl : Bool} {cells new : List AV} (hcs : Store.at σ id ver = some cells) (hlen : cells.length = n * 2) (hone : cells.all AV.one = true) (hi : i ≤ n) (hn : (n + 1) * 32 ≤ 140737488355328)
 (hv : Store.at σ vid vver = some new) (hnew : new.length = 2) (honev : new.all AV.one = true) (hvid : vid ≠ id) :
 ACalls qh 88 [.os nl 2 id ver 0 n false, .int .i64 (i : Int), .os true 2 vid vver 0 1 true] σ (fun r σ' => r = .os true 2 id (ver + 1) 0 (n + 1) false ∧
  σ' = σ.set id (.cells (ver + 1) (cells.take (i * 2) ++ (new ++ cells.drop (i * 2)))) ++ [.dead]) := by
 have hlt := Store.at_lt hcs
 by_cases hin : i = n
 · subst hin
   refine ACalls.dies ?_
   refine wP (rs := [.tmp 6]) tok Tryd.func88 rfl Tryd.ntmps88 rfl Tryd.call88 (by simp) ?_
   have hap : yn tab 40 40 (.os nl 2 id ver 0 i false) (.os true 2 vid vver 0 1 true) σ = some (.os true 2 id (ver + 1) 0 (i + 1) false, σ.set id (.cells (ver + 1) (cells ++ new))) := by
    have e1 : yb σ 2 (.os true 2 vid vver 0 1 true) = some (1, new) := by
     simp only [yb, hv]
     rw [if_pos (by omega), qJ, Nat.one_mul, ← hnew, ui]
    have hg : ((i + 1) * 32 ≤ 140737488355328) = True := eq_true (by omega)
    simp only [yn, Yy, Yx, e1, yq, hg, honev, qb, and_self, if_true, zY, hcs, hlen]
   have hsl : wo tab 40 (.os nl 2 id ver 0 i false) (some (.int .i64 (i : Int))) none none = some (.os nl 2 id ver (i * 2) (i - i) false) := by
    simp only [wo, Yy, Yx, van]
    simp
   refine zt [(0, .os nl 2 id ver 0 i false), (1, .int .i64 (i : Int)), (2, .os true 2 vid vver 0 1 true)] ⟨rfl, rfl, rfl, trivial⟩ ?_
   refine rg tok [0, 1, 2, 6] fun K hK => ?_
   simp only [go_sem, qb, qa, reduceCtorEq]
   apply hK
   clear hK K
   refine rg tok [0, 1, 2, 6] fun K hK => ?_
   simp only [go_sem, qb, qa, reduceCtorEq, hsl]
   apply hK
   clear hK K
   refine rg tok [0, 1, 2, 6, 7] fun K hK => ?_
   simp only [go_sem, qb, qa, reduceCtorEq]
   apply hK
   clear hK K
   refine zd fun Z hZ => ?_
   refine rg tok [0, 1, 2, 6, 7, 16] fun K hK => ?_
   simp only [go_sem, qb, qa, reduceCtorEq]
   apply hK
   clear hK K
   refine zI rfl (fun h => absurd h (by decide)) (fun _ => ?_)
   refine zh ?_
   refine hZ _ _ ?_
   clear hZ Z
   refine rg tok [0, 1, 2, 6, 7, 8] fun K hK => ?_
   simp only [go_sem, qb, qa, reduceCtorEq]
   apply hK
   clear hK K
   refine zd fun Z hZ => ?_
   refine rg tok [0, 1, 2, 6, 7, 8, 22] fun K hK => ?_
   simp only [go_sem, qb, qa, reduceCtorEq, decide_true]
   apply hK
   clear hK K
   refine zB rfl ?_
   refine rg tok [6] fun K hK => ?_
   simp only [go_sem, qb, qa, reduceCtorEq, hap]
   apply hK
   clear hK K
   refine zj ?_
   simp only [ZF, xd, xl, xY, exists_eq_left', go_sem]
   rw [← hlen, ui, List.drop_length, qx]
 have hi' : i < n := by omega
 refine ⟨Tryd.call88, fun E vs hS hl => ?_⟩
 obtain ⟨l1, l2⟩ := hl.arr
 rcases vs with ⟨_ | ⟨v0, _ | ⟨v1, _ | ⟨v2, _ | ⟨v3, l⟩⟩⟩⟩⟩ <;> simp only [List.size_toArray, qk, qn, qd, reduceCtorEq, qa] at l1
 have h0 : VR E (.os nl 2 id ver 0 n false) v0 := l2 0 (by simp)
 have h1 : VR E (.int .i64 (i : Int)) v1 := l2 1 (by simp)
 have h2 : VR E (.os true 2 vid vver 0 1 true) v2 := l2 2 (by simp)
 clear l2 hl
 cases h1
 cases h0 with
 | osn => omega
 | os _ _ _ _ _ _ _ a cap hk hc ht hB hp =>
 cases h2 with
 | os _ _ _ _ _ _ _ av capv hkv hcv htv hBv hpv =>
 have := htv rfl; subst this
 obtain ⟨b, hloc, _⟩ := hS.block_of hcs (show 0 < cells.length by omega)
 obtain ⟨vb, hvloc, _⟩ := hS.block_of hv (show 0 < new.length by omega)
 obtain ⟨b', e1, e2, t, m, hsh, hts, hm⟩ := hp _ hloc
 cases e1
 have := e2.resolve_left (by omega); subst this
 obtain ⟨b', e1, e2, tv, mv, hvsh, hvts, hmv⟩ := hpv _ hvloc
 cases e1
 have := e2.resolve_left (by omega); subst this
 by_cases hroom : n + 1 ≤ cap
 · refine (ins_shift hS hcs hlen hone hi' hloc hk hsh hts (by omega) hroom hn hv hnew honev hvid hvloc hkv hvsh hvts (by omega)).mono ?_
   rintro e w ⟨E', rfl, rfl, h3, h4, h5⟩
   obtain ⟨E2, g1, g2, g3, g4⟩ := bump hS hcs hk hloc (by omega) (by simp only [qi, hnew]; omega) h4 h5 h3
   obtain ⟨hS3, hx3⟩ := SR.die g2
   exact ⟨_, _, _, { E2 with n := E2.n + 1 }, rfl, g1, g3.ext hx3, hS3, g4.trans hx3, rfl, rfl⟩
 have hcn : cap = n := by omega
 subst hcn
 refine (ins_grow hS hcs hlen hone hi' hloc hk hsh hts (by omega) hn hv hnew honev hvid hvloc hkv hvsh hvts (by omega)).mono ?_
 rintro e w ⟨E', v, rfl, rfl, h3, h4, h5, hnew'⟩
 have hl' : E'.loc id = some (ver, some b) := by
  have := (h4.at (id := id) (ver := ver) (cs := cells) (by
   have := Store.at_lt hcs
   unfold Store.at at hcs ⊢; rw [qK this]; exact hcs))
  rcases this with ⟨b', e1, _⟩ | ⟨e1, _⟩
  · have := h5.back hk e1; rw [hloc] at this; cases this; exact e1
  rw [e1] at hlen; simp at hlen; omega
 have hn' : ∃ nb, E'.loc σ.length = some (0, some nb) ∧ E.w.heap.size ≤ nb := by
  rcases h4.at (Store.at_new σ 0 _) with ⟨nb, e1, _⟩ | ⟨e1, _⟩
  · refine ⟨nb, e1, Nat.le_of_not_lt fun hlt' => ?_⟩
    obtain ⟨i2, v2, e2⟩ := h5.own _ _ _ e1 hlt'
    exact hnew' i2 v2 nb e2 e1
  have : (cells.take (i * 2) ++ (new ++ cells.drop (i * 2))).length = 0 := by rw [e1]; rfl
  simp only [qi, hnew] at this; omega
 obtain ⟨nb, hn1, hn2⟩ := hn'
 obtain ⟨g1, g2, g3⟩ := SR.swap h4 hlt hl' hn1
 exact ⟨_, _, _, { E' with loc := fun i => if i = id then some (ver + 1, some nb) else if i = σ.length then none else E'.loc i }, rfl, rfl, g3 _ _ _ h3, g1, Ext.swap h5 hS hl' hn1 hn2 hlt, rfl, rfl⟩
end
section
set_option maxRecDepth 8000
set_option maxHeartbeats 1000000
open Go.RowKit AM
structure Ent where
 tag : Int
 id : Nat
 ver : Nat
 trees : List GTree
def Ent.cells (e : Ent) : List AV := [.int .i64 e.tag, .os true 5 e.id e.ver 0 e.trees.length false]
def Ent.val (e : Ent) : GEntry := ⟨e.tag, e.trees⟩
structure Rep (σ : Store) (tid eid ever : Nat) (L : List Ent) : Prop where
 t : Store.at σ tid 0 = some [.int .i64 3, .int .i64 0, .str [], .os true 2 eid ever 0 L.length false, .ds true [] 0 true]
 e : Store.at σ eid ever = some (L.flatMap Ent.cells)
 tr : ∀ x ∈ L, Store.at σ x.id x.ver = some (x.trees.flatMap encGTree)
 nd : (tid :: eid :: L.map Ent.id).Nodup
def Yd (es : List GEntry) (f : GField) (x : GTree) : Option (List GEntry × Bool) :=
 (zp es f.fTag).bind fun p =>
 (if p.2 = true then some es else (grd (0 ≤ p.1 ∧ p.1 ≤ (es.length : Int))).bind fun _ => (YN (es.length + 1) 32).bind fun _ => some (es.take p.1.toNat ++ ⟨f.fTag, []⟩ :: es.drop p.1.toNat)).bind fun es1 =>
 (Zj es1 p.1).bind fun e =>
 (YN ((if f.fLabel = 3 then e.fTrees.length else 0) + 1) 80).bind fun _ =>
 some (es1.set p.1.toNat ⟨e.fTag, (if f.fLabel = 3 then e.fTrees else []) ++ [x]⟩, decide ((((if f.fLabel = 3 then e.fTrees else []) ++ [x]).length : Int) ≤ 64))
theorem wt {σ : Store} {id ver : Nat} {cs : List AV} (h : Store.at σ id ver = some cs) (l : Store) : Store.at (σ ++ l) id ver = some cs := by
 have := Store.at_lt h
 unfold Store.at at h ⊢; rw [qK this]; exact h
theorem xq {σ : Store} {id id' ver : Nat} {cs : List AV} (h : Store.at σ id ver = some cs) (hne : id ≠ id') (o : Zq) : Store.at (σ.set id' o) id ver = some cs := by
 unfold Store.at at h ⊢; rw [q5 (fun e => hne e.symm)]; exact h
theorem XJ (σ : Store) (cs : List AV) (l : Store) : Store.at (σ ++ .cells 0 cs :: l) σ.length 0 = some cs := by
 unfold Store.at; rw [ue (qq _), uM]; rfl
theorem at_end1 (σ : Store) (o : Zq) (cs : List AV) (l : Store) : Store.at (σ ++ o :: .cells 0 cs :: l) (σ.length + 1) 0 = some cs := by
 unfold Store.at; rw [ue (by omega)]; simp
theorem Rep.app {σ : Store} {tid eid ever : Nat} {L : List Ent} (h : Rep σ tid eid ever L) (l : Store) : Rep (σ ++ l) tid eid ever L :=
 ⟨wt h.t l, wt h.e l, fun x hx => wt (h.tr x hx) l, h.nd⟩
theorem Rep.toldC {σ : Store} {tid eid ever : Nat} {L : List Ent} (h : Rep σ tid eid ever L) (keep : List Nat) (ls : Bool) (f : Nat) (hk : ∀ y ∈ L, wZ keep y.id 0 = none) : (L.flatMap Ent.cells).map (tell σ keep ls (f + 2)) = (L.map Ent.val).flatMap encGEntry := by
 have key : ∀ l : List Ent, (∀ x ∈ l, x ∈ L) → (l.flatMap Ent.cells).map (tell σ keep ls (f + 2)) = (l.map Ent.val).flatMap encGEntry := by
  intro l
  induction l with
  | nil => intro _; rfl
  | cons a l ih =>
   intro hl
   have h1 := h.tr a (hl a (qo ..))
   have h2 := hk a (hl a (qo ..))
   simp only [qP, qR, qM, ih fun x hx => hl x (qp _ hx)]
   congr 1
   simp only [Ent.cells, Ent.val, qM, qy, Y2, wT, h2, h1, yY, cellsGEntry, GEntry.fTag, GEntry.fTrees]
   have hl : (a.trees.flatMap encGTree).length = a.trees.length * 5 := zK E59.len a.trees
   rw [if_pos (by rw [hl]; omega), qJ, ← hl, ui, yj]
 exact key L (fun _ h => h)
theorem Rep.told {σ : Store} {tid eid ever : Nat} {L : List Ent} (h : Rep σ tid eid ever L) (nl : Bool) : tell σ [] true 12 (.os nl 2 eid ever 0 L.length false) = .ds true ((L.map Ent.val).flatMap encGEntry) (L.map Ent.val).length false := by
 have hl : (L.flatMap Ent.cells).length = L.length * 2 := by
  clear h
  induction L with
  | nil => rfl
  | cons a l ih => rw [qP, qi, ih]; simp [Ent.cells]; omega
 simp only [wT, wD, h.e]
 rw [if_pos (by rw [hl]; omega), qJ, ← hl, ui, h.toldC [] true 9 (fun _ _ => rfl), qV]
theorem Rep.set_ne {σ : Store} {tid eid ever : Nat} {L : List Ent} (h : Rep σ tid eid ever L) {j : Nat} (hj : j ∉ tid :: eid :: L.map Ent.id) (o : Zq) : Rep (σ.set j o) tid eid ever L := by
 refine ⟨xq h.t (fun e => hj (by rw [← e]; simp)) o, xq h.e (fun e => hj (by rw [← e]; simp)) o, fun x hx => xq (h.tr x hx) (fun e => hj ?_) o, h.nd⟩
 rw [← e]
 exact qp _ (qp _ (uv.2 ⟨x, hx, rfl⟩))
structure Mid (σ τ : Store) (tid eid ever : Nat) (ids : List Nat) (pre post : List Ent) (tag : Int) (av : AV) (trees : List GTree) : Prop where
 t : Store.at τ tid 0 = some [.int .i64 3, .int .i64 0, .str [], .os true 2 eid ever 0 (pre.length + (1 + post.length)) false, .ds true [] 0 true]
 e : Store.at τ eid ever = some (pre.flatMap Ent.cells ++ ([.int .i64 tag, av] ++ post.flatMap Ent.cells))
 tr : ∀ y ∈ pre ++ post, Store.at τ y.id y.ver = some (y.trees.flatMap encGTree)
 nd : (tid :: eid :: (pre ++ post).map Ent.id).Nodup
 c : (av = .ds true [] 0 true ∧ trees = []) ∨ ∃ id ver, av = .os true 5 id ver 0 trees.length false ∧ Store.at τ id ver = some (trees.flatMap encGTree) ∧ id ∉ tid :: eid :: (pre ++ post).map Ent.id ∧ id ∈ ids
 sub : ∀ y ∈ pre ++ post, y.id ∈ ids
 len : σ.length + 2 ≤ τ.length
 fr : ∀ j, j < σ.length → j ∉ tid :: eid :: ids → τ[j]? = σ[j]?
 lt : ∀ j ∈ tid :: eid :: ids, j < σ.length
theorem agr_app {x : List Nat} : ∀ {s : Store} {i : Nat} (l : Store), agr x i s s (s ++ l) = True := by
 intro s
 induction s with
 | nil => intro i l; rfl
 | cons a s ih => intro i l; simp only [qC, agr, ih]; simp
theorem XH (l : List Ent) : (l.flatMap Ent.cells).length = l.length * 2 := by
 induction l with
 | nil => rfl
 | cons a l ih => rw [qP, qi, ih]; simp [Ent.cells]; omega
theorem cells_one (l : List Ent) : (l.flatMap Ent.cells).all AV.one = true := by
 induction l with
 | nil => rfl
 | cons a l ih => rw [qP, List.all_append, ih]; rfl
theorem split_at {α : Type} {l : List α} {k : Nat} (h : k ≤ l.length) : ∃ a b, l = a ++ b ∧ a.length = k := ⟨l.take k, l.drop k, (uk k l).symm, by simp [h]⟩
theorem split_el {α : Type} {l : List α} {k : Nat} (h : k < l.length) : ∃ a x b, l = a ++ x :: b ∧ a.length = k := by
 refine ⟨l.take k, l[k], l.drop (k + 1), ?_, by simp; omega⟩
 rw [← List.drop_eq_getElem_cons h, uk]
theorem set_mid {α : Type} (a : List α) (x y : α) (b : List α) : (a ++ x :: b).set a.length y = a ++ y :: b := by
 rw [List.set_append_right _ _ (qq _), uM]; rfl
theorem gc_mid (a b : List AV) (x y : AV) : gc (a ++ ([x, y] ++ b)) (a.length + 1) = y := by
 rw [wY _ _ _ (by omega), Nat.add_sub_cancel_left]; rfl
theorem set_mid1 (a b : List AV) (x y z : AV) : (a ++ ([x, y] ++ b)).set (a.length + 1) z = a ++ ([x, z] ++ b) := by
 rw [List.set_append_right _ _ (by omega), Nat.add_sub_cancel_left]; rfl
theorem put_at {σ : Store} {tid eid ever : Nat} {L : List Ent} (hR : Rep σ tid eid ever L) (f : GField) (x : GTree) {es' : List GEntry} {b : Bool} (h : Yd (L.map Ent.val) f x = some (es', b)) :
 ACalls qh 58 [.op tid 0 0, .agg (encGField f), .agg (cellsGTree x)] σ (fun r σ' => ∃ ever' L', r = .bool b ∧ Rep σ' tid eid ever' L' ∧ L'.map Ent.val = es' ∧
  (∀ y ∈ L', y.id ∈ L.map Ent.id ∨ σ.length ≤ y.id) ∧ σ.length ≤ σ'.length ∧ ∀ j, j < σ.length → j ∉ tid :: eid :: L.map Ent.id → σ'[j]? = σ[j]?) := by
 refine wP (rs := [.tmp 6]) tok Tryd.func58 rfl Tryd.ntmps58 rfl Tryd.call58 (by simp) ?_
 refine zt [(0, .op tid 0 0), (1, .agg (encGField f)), (2, .agg (cellsGTree x))] ⟨rfl, rfl, rfl, trivial⟩ ?_
 refine rg tok [0, 4, 5, 6] fun K hK => ?_
 simp only [go_sem, qb, qa, qd, reduceCtorEq, encGField, cellsGTree]
 apply hK
 clear hK K
 simp only [qr, qC, qA, qi, qk, qn, qt]
 obtain ⟨σ1, hσ1⟩ : ∃ s, s = σ ++ [.cells 0 [.str f.fName, .int .i64 f.fTag, .int .i64 f.fLabel, .int .i64 f.fType.fKind, .str f.fType.fName],
  .cells 0 [.int .i64 x.fKind, .int .i64 x.fN, .str x.fS, .ds true (qg encGEntry x.fEntries) x.fEntries.length false, .ds true (qg encGRaw x.fRest) x.fRest.length false]] := ⟨_, rfl⟩
 rw [← hσ1]
 have hR1 : Rep σ1 tid eid ever L := hσ1 ▸ hR.app _
 have h4 : Store.at σ1 σ.length 0 = some [.str f.fName, .int .i64 f.fTag, .int .i64 f.fLabel, .int .i64 f.fType.fKind, .str f.fType.fName] := hσ1 ▸ XJ _ _ _
 have h5 : Store.at σ1 (σ.length + 1) 0 = some [.int .i64 x.fKind, .int .i64 x.fN, .str x.fS, .ds true (qg encGEntry x.fEntries) x.fEntries.length false, .ds true (qg encGRaw x.fRest) x.fRest.length false] := hσ1 ▸ at_end1 _ _ _ _
 have hn1 : σ1.length = σ.length + 2 := by rw [hσ1]; simp
 have hfr : ∀ j, j < σ.length → σ1[j]? = σ[j]? := fun j hj => by rw [hσ1, qK hj]
 have hlt : ∀ j ∈ tid :: eid :: L.map Ent.id, j < σ.length := by
  intro j hj
  rcases qD.1 hj with rfl | hj
  · exact Store.at_lt hR.t
  rcases qD.1 hj with rfl | hj
  · exact Store.at_lt hR.e
  obtain ⟨y, hy, rfl⟩ := uv.1 hj
  exact Store.at_lt (hR.tr y hy)
 clear hσ1
 unfold Yd at h
 obtain ⟨p, hp, h⟩ := bind_some h
 have ht1 := hR1.t
 refine rd [0, 4, 5, 6, 7, 8] fun K hK => ?_
 refine DW.start (T := tab) [.any, .any, .any, .at [], .any, .at [], .eff, .any, .any, .any, .any, .any] [] ?_
 refine DW.runN tok 6 ?_
 simp only [go_sem, qb, qa, qd, reduceCtorEq, ht1, h4]
 refine DW.call rfl rfl rfl ((zp.ok _ _ p hp).lend rfl true 12 (by simp only [qM, qy, go_sem, qa, reduceCtorEq, hR1.told true, Y2]; rfl)) ?_
 refine DW.runN tok 5 ?_
 simp only [go_sem, qb, qa, qd, reduceCtorEq]
 refine DW.fin tok (by decide +kernel) rfl ?_
 simp only [ze, upd, qa, reduceIte, zl, zq]
 apply hK
 clear hK K
 obtain ⟨es1, hes1, h⟩ := bind_some h
 obtain ⟨e, he, h⟩ := bind_some h
 obtain ⟨u, hu, h⟩ := bind_some h
 have hg := yy hu
 have hidL : ∀ l : List Ent, (l.map Ent.val).length = l.length := fun l => qV _
 refine xK (fun F τ => F = [(0, AV.op tid 0 0), (4, .op σ.length 0 0), (5, .op (σ.length + 1) 0 0), (6, .bool false), (7, .int .i64 p.1)] ∧ ∃ ever' pre post av, p.1 = (pre.length : Int) ∧ es1 = pre.map Ent.val ++ e :: post.map Ent.val ∧ Mid σ τ tid eid ever' (L.map Ent.id) pre post e.fTag av e.fTrees ∧
  Store.at τ σ.length 0 = some [.str f.fName, .int .i64 f.fTag, .int .i64 f.fLabel, .int .i64 f.fType.fKind, .str f.fType.fName] ∧
  Store.at τ (σ.length + 1) 0 = some [.int .i64 x.fKind, .int .i64 x.fN, .str x.fS, .ds true (qg encGEntry x.fEntries) x.fEntries.length false, .ds true (qg encGRaw x.fRest) x.fRest.length false]) ?_ ?_
 · refine rg tok [0, 4, 5, 6, 7, 21] fun K hK => ?_
   simp only [go_sem, qb, qa, reduceCtorEq]
   apply hK
   clear hK K
   refine zv (b := !p.2) rfl (fun hc => ?_) (fun hc => ?_)
   · have hc' : p.2 = false := by simpa using hc
     rw [xD hc'] at hes1
     obtain ⟨_, h1, hes1⟩ := bind_some hes1
     obtain ⟨_, h2, hes1⟩ := bind_some hes1
     have h1 := wy h1
     have h2 := yy h2
     obtain rfl := Option.some.inj hes1
     obtain ⟨k, hk⟩ : ∃ k : Nat, p.1 = k := ⟨p.1.toNat, by omega⟩
     rw [hk] at he h1 ⊢
     simp only [qN, hidL] at he h1 h2
     have hkl : k ≤ L.length := by omega
     obtain ⟨pre, post, rfl, rfl⟩ := split_at hkl
     have hl2 : (pre ++ post).length = pre.length + post.length := qi
     have e1 : List.take pre.length ((pre ++ post).map Ent.val) = pre.map Ent.val := by rw [qR, ← qV (f := Ent.val), List.take_left]
     have e2 : List.drop pre.length ((pre ++ post).map Ent.val) = post.map Ent.val := by rw [qR, ← qV (f := Ent.val), List.drop_left]
     rw [e1, e2] at he
     have hee : e = ⟨f.fTag, []⟩ := by
      obtain ⟨_, _, _, g3⟩ := xT he
      rw [← g3]; simp
     subst hee
     rw [qN, e1, e2]
     have hc1 : ((pre ++ post).flatMap Ent.cells).take (pre.length * 2) = pre.flatMap Ent.cells := by rw [q1, ← XH, List.take_left]
     have hc2 : ((pre ++ post).flatMap Ent.cells).drop (pre.length * 2) = post.flatMap Ent.cells := by rw [q1, ← XH, List.drop_left]
     have htl : (tid < σ1.length) = True := eq_true (by have := hlt tid (by simp); omega)
     have htl2 : (tid < σ.length) = True := eq_true (hlt tid (by simp))
     have hel := hlt eid (by simp)
     have hte : tid ≠ eid := by have := hR1.nd; simp at this; exact this.1.1
     have hins := Insert_at (σ := σ1 ++ [Zq.cells 0 [AV.int .i64 f.fTag, AV.ds true [] 0 true]]) (nl := true) (i := pre.length) (wt hR1.e _) (XH _) (cells_one _) (by omega) (by have := of_eq_true h2; omega) (XJ σ1 _ []) (new := [AV.int .i64 f.fTag, AV.ds true [] 0 true]) rfl rfl (by omega)
     rw [hc1, hc2] at hins
     obtain ⟨σ2, hσ2⟩ : ∃ s, s = List.set (σ1 ++ [Zq.cells 0 [AV.int .i64 f.fTag, AV.ds true [] 0 true]]) eid (Zq.cells (ever + 1) (pre.flatMap Ent.cells ++ ([AV.int .i64 f.fTag, AV.ds true [] 0 true] ++ post.flatMap Ent.cells))) ++ [Zq.dead] := ⟨_, rfl⟩
     rw [← hσ2] at hins
     have ht2 : Store.at σ2 tid 0 = some [.int .i64 3, .int .i64 0, .str [], .os true 2 eid ever 0 (pre ++ post).length false, .ds true [] 0 true] := by
      rw [hσ2]; exact wt (xq (wt hR1.t _) hte _) _
     refine rdE [0, 4, 5, 6, 7] fun K hK => ?_
     refine DW.start (T := tab) [.any, .any, .any, .any, .own 1 [], .any, .any, .at [], .any, .eff, .eff, .any, .any, .eff] [(1, [])] ?_
     refine DW.runN tok 6 ?_
     simp only [go_sem, qb, qa, qd, reduceCtorEq, ht1, htl]
     refine DW.runN tok 4 ?_
     simp only [go_sem, qb, qe, qa, qd, qw, reduceCtorEq, h4, zR, z8, ug, qY, true_and, ul, agr_app]
     refine DW.callS rfl rfl rfl hins (fun m x hm hle => by simp at hm hle; omega) ?_
     refine DW.runN tok 3 ?_
     simp only [go_sem, qb, qe, qa, qd, reduceCtorEq, ht2]
     refine DW.fin tok (by decide +kernel) rfl ?_
     simp only [ze, upd, qa, reduceIte, zl, zq]
     apply hK
     clear hK K
     have hnd := hR1.nd
     have keep : ∀ {j v : Nat} {cs : List AV}, Store.at σ1 j v = some cs → j ≠ eid → j ≠ tid → Store.at (σ2.set tid (.cells 0 [.int .i64 3, .int .i64 0, .str [], .os true 2 eid (ever + 1) 0 ((pre ++ post).length + 1) false, .ds true [] 0 true])) j v = some cs := by
      intro j v cs hj h1 h2
      refine xq ?_ h2 _
      rw [hσ2]; exact wt (xq (wt hj _) h1 _) _
     have hnid : ∀ y ∈ pre ++ post, y.id ≠ eid ∧ y.id ≠ tid := by
      intro y hy
      have hm : y.id ∈ (pre ++ post).map Ent.id := uv.2 ⟨y, hy, rfl⟩
      rw [List.nodup_cons, List.nodup_cons] at hnd
      exact ⟨fun e => hnd.2.1 (e ▸ hm), fun e => hnd.1 (qp _ (e ▸ hm))⟩
     simp only [ze]
     refine ⟨_, _, ⟨rfl, ever + 1, pre, post, .ds true [] 0 true, rfl, rfl, ⟨?_, ?_, ?_, hnd, .inl ⟨rfl, rfl⟩, ?_, ?_, ?_, hlt⟩, keep h4 (by omega) (by have := of_eq_true htl2; omega), keep h5 (by omega) (by have := of_eq_true htl2; omega)⟩, .same ⟨rfl, rfl, rfl, rfl, rfl, trivial⟩ rfl⟩
     · have := Store.at_set (ver' := 0) (cs' := [.int .i64 3, .int .i64 0, .str [], .os true 2 eid (ever + 1) 0 ((pre ++ post).length + 1) false, .ds true [] 0 true]) ht2
       rw [this, hl2]
       simp only [Option.some.injEq, List.cons.injEq, AV.os.injEq, true_and, and_true]
       omega
     · refine xq ?_ hte.symm _
       rw [hσ2]; exact wt (Store.at_set (wt hR1.e _)) _
     · intro y hy; exact keep (hR1.tr y hy) (hnid y hy).1 (hnid y hy).2
     · intro y hy; exact uv.2 ⟨y, hy, rfl⟩
     · rw [hσ2]; simp; omega
     intro j hj hjn
     simp only [qD, not_or] at hjn
     rw [q5 (fun e => hjn.1 e.symm), hσ2, qK (by simp; omega), q5 (fun e => hjn.2.1 e.symm), qK (by omega)]
     exact hfr j hj
   have hc' : p.2 = true := by simpa using hc
   rw [if_pos hc'] at hes1
   obtain rfl := Option.some.inj hes1
   obtain ⟨k, hk⟩ : ∃ k : Nat, p.1 = k := ⟨p.1.toNat, by have := (xT he).1; omega⟩
   have he' := he
   rw [hk] at he'
   obtain ⟨g0, g1, g2, g3⟩ := xT he'
   simp only [qN, hidL] at g1 g2 g3
   obtain ⟨pre, a, post, rfl, rfl⟩ := split_el (show k < L.length by omega)
   have hea : e = a.val := by
    rw [← g3]; simp
   subst hea
   refine zh ?_
   simp only [ze]
   refine ⟨_, σ1, ⟨rfl, ever, pre, post, .os true 5 a.id a.ver 0 a.trees.length false, hk, by simp, ⟨?_, ?_, ?_, ?_, ?_, ?_, ?_, ?_, ?_⟩, h4, h5⟩, .same ⟨rfl, rfl, rfl, rfl, rfl, trivial⟩ rfl⟩
   · have := hR1.t
     rw [qi, qk, Nat.add_comm post.length 1] at this; exact this
   · have := hR1.e
     rw [q1, qP] at this; exact this
   · intro y hy
     refine hR1.tr y ?_
     rcases uC.1 hy with h | h
     · exact List.mem_append_left _ h
     exact uq _ (qp _ h)
   · have := hR1.nd
     refine List.Nodup.sublist ?_ this
     refine List.Sublist.cons_cons _ (List.Sublist.cons_cons _ ?_)
     exact (List.Sublist.append_left (List.sublist_cons_self _ _) _).map _
   · refine .inr ⟨a.id, a.ver, rfl, hR1.tr a (by simp), ?_, by simp⟩
     have := hR1.nd
     simp only [qR, qM, List.nodup_cons, qD, uC, List.nodup_append, not_or] at this ⊢
     obtain ⟨⟨h1, h2, h3, h4⟩, ⟨h5, h6, h7⟩, h8, ⟨h9, h10⟩, h11⟩ := this
     exact ⟨fun e => h3 e.symm, fun e => h6 e.symm, fun hm => h11 _ hm _ (.inl rfl) rfl, h9⟩
   · intro y hy
     rcases uC.1 hy with h | h
     · exact uv.2 ⟨y, List.mem_append_left _ h, rfl⟩
     exact uv.2 ⟨y, uq _ (qp _ h), rfl⟩
   · omega
   · intro j hj _; exact hfr j hj
   exact hlt
 clear hes1 hp ht1 hR1 h4 h5 hn1 hfr σ1
 rintro _ τ ⟨rfl, ever1, pre, post, av, hp1, rfl, hM, h4, h5⟩
 rw [hp1] at he h
 simp only [qN] at h
 have hix : xH tab 40 (.os true 2 eid ever1 0 (pre.length + (1 + post.length)) false) (.int .i64 p.1) = some (.op eid ever1 (pre.length * 2)) := by
  rw [hp1]
  simp only [xH, Yy, Yx]
  simp
  omega
 have ht := hM.t
 refine rg tok [4, 5, 6, 9] fun K hK => ?_
 simp only [go_sem, qb, qa, qd, reduceCtorEq, ht, hix]
 apply hK
 clear hK K
 have hcl : (pre.flatMap Ent.cells).length = pre.length * 2 := XH pre
 refine xK (fun F τ' => F = [(5, AV.op (σ.length + 1) 0 0), (6, .bool false), (9, .op eid ever1 (pre.length * 2))] ∧ ∃ av', Mid σ τ' tid eid ever1 (L.map Ent.id) pre post e.fTag av' (if f.fLabel = 3 then e.fTrees else []) ∧
  Store.at τ' (σ.length + 1) 0 = some [.int .i64 x.fKind, .int .i64 x.fN, .str x.fS, .ds true (qg encGEntry x.fEntries) x.fEntries.length false, .ds true (qg encGRaw x.fRest) x.fRest.length false]) ?_ ?_
 · refine rg tok [5, 6, 9, 43] fun K hK => ?_
   simp only [go_sem, qb, qa, qd, h4]
   apply hK
   clear hK K
   refine zI rfl (fun hc => ?_) (fun hc => ?_)
   · obtain ⟨cs, hcs⟩ : ∃ cs, cs = pre.flatMap Ent.cells ++ ([.int .i64 e.fTag, av] ++ post.flatMap Ent.cells) := ⟨_, rfl⟩
     have hMe := hM.e
     rw [← hcs] at hMe
     have hle : (pre.length * 2 + 1 < cs.length) = True := eq_true (by rw [hcs]; simp only [qi, hcl, qk, qn]; omega)
     have hle' : (pre.length * 2 + 1 + 1 ≤ cs.length) = True := eq_true (by have := of_eq_true hle; omega)
     refine rgE tok [5, 6, 9] fun K hK => ?_
     simp only [go_sem, qb, qa, hMe, hle']
     apply hK
     clear hK K
     have hset : cs.set (pre.length * 2 + 1) (.ds true [] 0 true) = pre.flatMap Ent.cells ++ ([.int .i64 e.fTag, .ds true [] 0 true] ++ post.flatMap Ent.cells) := by
      rw [hcs, ← hcl, set_mid1]
     rw [hset]
     simp only [ze]
     rw [if_neg hc]
     have hnd := hM.nd
     have hlt := hM.lt
     rw [List.nodup_cons, List.nodup_cons] at hnd
     have hte : tid ≠ eid := fun e => hnd.1 (e ▸ qo ..)
     refine ⟨_, _, ⟨rfl, .ds true [] 0 true, ⟨xq hM.t hte _, Store.at_set hM.e, ?_, hM.nd, .inl ⟨rfl, rfl⟩, hM.sub, ?_, ?_, hM.lt⟩, xq h5 ?_ _⟩, .same ⟨rfl, rfl, rfl, trivial⟩ rfl⟩
     · intro y hy
       refine xq (hM.tr y hy) ?_ _
       intro e; exact hnd.2.1 (e ▸ uv.2 ⟨y, hy, rfl⟩)
     · have := hM.len; simpa using this
     · intro j hj hjn
       rw [q5]
       · exact hM.fr j hj hjn
       intro e; exact hjn (e ▸ by simp)
     have := hlt eid (by simp); omega
   refine zh ?_
   simp only [ze]
   rw [if_pos hc]
   exact ⟨_, τ, ⟨rfl, av, hM, h5⟩, .same ⟨rfl, rfl, rfl, trivial⟩ rfl⟩
 clear hM h4 h5 hix ht τ av
 rintro _ τ ⟨rfl, av, hM, h5⟩
 obtain ⟨cs, hcs⟩ : ∃ cs, cs = pre.flatMap Ent.cells ++ ([.int .i64 e.fTag, av] ++ post.flatMap Ent.cells) := ⟨_, rfl⟩
 have hMe := hM.e
 rw [← hcs] at hMe
 have hle : (pre.length * 2 + 1 < cs.length) = True := eq_true (by rw [hcs]; simp only [qi, hcl, qk, qn]; omega)
 have hle' : (pre.length * 2 + 1 + 1 ≤ cs.length) = True := eq_true (by have := of_eq_true hle; omega)
 have hgc : gc cs (pre.length * 2 + 1) = av := by rw [hcs, ← hcl, gc_mid]
 have heid : (eid < τ.length) = True := eq_true (Store.at_lt hMe)
 refine rd [6, 9] fun K hK => ?_
 refine DW.start (T := tab) [.any, .any, .any, .any, .own 1 [], .at [], .eff, .eff, .any, .any, .eff] [(1, [])] ?_
 refine DW.runN tok 6 ?_
 simp only [go_sem, qb, qe, qa, qd, hMe, hle, hgc, heid, h5]
 obtain ⟨xc, hxc⟩ : ∃ xc, xc = [AV.int .i64 x.fKind, .int .i64 x.fN, .str x.fS, .ds true (qg encGEntry x.fEntries) x.fEntries.length false, .ds true (qg encGRaw x.fRest) x.fRest.length false] := ⟨_, rfl⟩
 have hx5 : xc.length = 5 := by rw [hxc]; rfl
 have hx1 : xc.all AV.one = true := by rw [hxc]; rfl
 have hxe : xc = encGTree x := by rw [hxc, xB] <;> rfl
 generalize htr : (if f.fLabel = 3 then e.fTrees else []) = trees at *
 have key : ∃ nid nver τ3, yn tab 59 59 av (.os true 5 τ.length 0 0 1 true) (τ ++ [.cells 0 xc]) = some (.os true 5 nid nver 0 (trees.length + 1) false, τ3) ∧ Store.at τ3 nid nver = some (trees.flatMap encGTree ++ xc) ∧
  (∀ j v cs, Store.at τ j v = some cs → j ≠ nid → Store.at τ3 j v = some cs) ∧ nid ∉ tid :: eid :: (pre ++ post).map Ent.id ∧ (nid ∈ L.map Ent.id ∨ σ.length ≤ nid) ∧ τ.length ≤ τ3.length ∧ ∀ j, j < σ.length → j ∉ tid :: eid :: L.map Ent.id → τ3[j]? = τ[j]? := by
  have e1 : yb (τ ++ [.cells 0 xc]) 5 (.os true 5 τ.length 0 0 1 true) = some (1, xc) := by
   simp only [yb, XJ τ xc []]
   rw [if_pos (by omega), qJ, Nat.one_mul, ← hx5, ui]
  rcases hM.c with ⟨rfl, h0⟩ | ⟨id, ver, rfl, h1, h2, h3⟩
  · refine ⟨τ.length + 1, 0, τ ++ [.cells 0 xc] ++ [.cells 0 xc], ?_, ?_, fun j v cs hj _ => wt (wt hj _) _, fun hj => ?_, .inr (by have := hM.len; omega), by simp, fun j hj _ => ?_⟩
    · subst h0
      simp only [yn, tab_59, tab_42, e1, yq, hx1, zY, if_true, qi, qk, qn]
      simp
    · subst h0
      simp only [qr, qC, qA]
      exact at_end1 _ _ _ _
    · have : τ.length + 1 < σ.length := hM.lt _ (by
       rcases qD.1 hj with h | h
       · rw [h]; simp
       rcases qD.1 h with h | h
       · rw [h]; simp
       obtain ⟨y, hy, h'⟩ := uv.1 h
       rw [← h']; exact qp _ (qp _ (hM.sub y hy)))
      have := hM.len; omega
    have := hM.len
    rw [qr, qK (by omega)]
  refine ⟨id, ver + 1, List.set (τ ++ [Zq.cells 0 xc]) id (Zq.cells (ver + 1) (trees.flatMap encGTree ++ xc)), ?_, Store.at_set (wt h1 _), fun j v cs hj hne => xq (wt hj _) hne _, h2, .inl h3, by simp, fun j hj hjn => ?_⟩
  · have hl : (trees.flatMap encGTree).length = trees.length * 5 := zK E59.len trees
    have hg' : ((trees.length + 1) * 80 ≤ 140737488355328) = True := by
     rw [← htr]
     by_cases hl3 : f.fLabel = 3
     · rw [if_pos hl3]; rw [if_pos hl3] at hg; exact hg
     rw [if_neg hl3]; simp
    simp only [yn, tab_59, tab_42, e1, yq, hx1, zY, wt h1, hl, hg', and_self, qb, if_true]
  have := hM.len
  rw [q5, qK (by omega)]
  intro e; exact hjn (e ▸ qp _ (qp _ h3))
 obtain ⟨nid, nver, τ3, k1, k2, k3, k4, k5, k6, k7⟩ := key
 have hne : eid ≠ nid := fun e => k4 (e ▸ by simp)
 have hMe3 := k3 _ _ _ hMe hne
 refine DW.runN tok 1 ?_
 simp only [go_sem, qb, qe, qa, qd, qw, zR, z8, ug, qY, true_and, ul, agr_app]
 rw [← hxc]
 refine DW.runN tok 1 ?_
 simp only [go_sem, qb, qe, qa, qd, k1]
 refine DW.runN tok 3 ?_
 simp only [go_sem, qb, qe, qa, qd, hMe3, hle']
 refine DW.fin tok (by decide +kernel) rfl ?_
 simp only [ze, upd, qa, reduceIte, zl, zq]
 apply hK
 clear hK K
 have hset : cs.set (pre.length * 2 + 1) (.os true 5 nid nver 0 (trees.length + 1) false) = pre.flatMap Ent.cells ++ ([.int .i64 e.fTag, .os true 5 nid nver 0 (trees.length + 1) false] ++ post.flatMap Ent.cells) := by
  rw [hcs, ← hcl, set_mid1]
 have hat4 := Store.at_set (ver' := ever1) (cs' := cs.set (pre.length * 2 + 1) (.os true 5 nid nver 0 (trees.length + 1) false)) hMe3
 generalize cs.set (pre.length * 2 + 1) (.os true 5 nid nver 0 (trees.length + 1) false) = cs4 at *
 have hgc4 : gc cs4 (pre.length * 2 + 1) = .os true 5 nid nver 0 (trees.length + 1) false := by rw [hset, ← hcl, gc_mid]
 have hle4 : (pre.length * 2 + 1 < cs4.length) = True := eq_true (by rw [hset]; simp only [qi, hcl, qk, qn]; omega)
 refine rg tok [6] fun K hK => ?_
 simp only [go_sem, qb, qa, hat4, hgc4, hle4]
 apply hK
 clear hK K
 refine zj ?_
 simp only [ZF, xd, xl, xY, exists_eq_left', go_sem]
 have h' := Option.some.inj h
 obtain ⟨h1, h2⟩ := Prod.mk.inj h'
 have hnd := hM.nd
 have hlt := hM.lt
 rw [List.nodup_cons, List.nodup_cons] at hnd
 have hte : tid ≠ eid := fun e => hnd.1 (e ▸ qo ..)
 have htn : tid ≠ nid := fun e => k4 (e ▸ by simp)
 have hll : (trees ++ [x]).length = trees.length + 1 := by simp
 refine ⟨ever1, pre ++ ⟨e.fTag, nid, nver, trees ++ [x]⟩ :: post, ?_, ⟨?_, ?_, ?_, ?_⟩, ?_, ?_, ?_, ?_⟩
 · rw [← h2, hll]
 · refine xq ?_ hte _
   have := k3 _ _ _ hM.t htn
   rw [this]
   simp only [Option.some.injEq, List.cons.injEq, AV.os.injEq, true_and, and_true, qi, qk]
   omega
 · rw [hat4, hset]
   simp [Ent.cells]
 · intro y hy
   rcases uC.1 hy with hy | hy
   · refine xq (k3 _ _ _ (hM.tr y (List.mem_append_left _ hy)) ?_) ?_ _
     · intro e'; exact k4 (e' ▸ qp _ (qp _ (uv.2 ⟨y, List.mem_append_left _ hy, rfl⟩)))
     intro e'; exact hnd.2.1 (e' ▸ uv.2 ⟨y, List.mem_append_left _ hy, rfl⟩)
   rcases qD.1 hy with rfl | hy
   · refine xq ?_ hne.symm _
     show Store.at τ3 nid nver = some ((trees ++ [x]).flatMap encGTree)
     rw [k2, q1, hxe]; simp
   refine xq (k3 _ _ _ (hM.tr y (uq _ hy)) ?_) ?_ _
   · intro e'; exact k4 (e' ▸ qp _ (qp _ (uv.2 ⟨y, uq _ hy, rfl⟩)))
   intro e'; exact hnd.2.1 (e' ▸ uv.2 ⟨y, uq _ hy, rfl⟩)
 · have hp : (nid :: tid :: eid :: (pre ++ post).map Ent.id).Nodup := List.nodup_cons.2 ⟨k4, hM.nd⟩
   refine (List.Perm.nodup_iff ?_).1 hp
   refine (List.Perm.swap _ _ _).trans (List.Perm.cons _ ((List.Perm.swap _ _ _).trans (List.Perm.cons _ ?_)))
   rw [qR, qR, qM]
   exact (List.perm_middle).symm
 · rw [← h1, ← hidL pre, set_mid]
   simp [Ent.val]
 · intro y hy
   rcases uC.1 hy with hy | hy
   · exact .inl (hM.sub y (List.mem_append_left _ hy))
   rcases qD.1 hy with rfl | hy
   · exact k5
   exact .inl (hM.sub y (uq _ hy))
 · have := hM.len; simp; omega
 intro j hj hjn
 rw [q5 (fun e => hjn (by rw [← e]; simp)), k7 j hj hjn]
 exact hM.fr j hj hjn
end
section
set_option maxRecDepth 8000
set_option maxHeartbeats 1000000
open Go.RowKit AM
def wh (m : GMessage) : List GEntry → Option (List GEntry)
 | [] => some []
 | e :: l => (yU e m).bind fun b => (wh m l).bind fun l' => some (if b = true then l' else e :: l')
theorem idx_del (m : GMessage) : ∀ (es : List GEntry) (x : Int) (es' : List GEntry), wh m es = some es' →
 ∃ r, zr.l4 m es x = some r ∧ ((r = -1 ∧ es' = es) ∨ ∃ pre e post post', es = pre ++ e :: post ∧ r = x + pre.length ∧ wh m post = some post' ∧ es' = pre ++ post') := by
 intro es
 induction es with
 | nil => intro x es' h; cases h; exact ⟨-1, rfl, .inl ⟨rfl, rfl⟩⟩
 | cons e l ih =>
  intro x es' h
  simp only [wh] at h
  obtain ⟨b, hb, h⟩ := bind_some h
  obtain ⟨l', hl, h⟩ := bind_some h
  obtain rfl := Option.some.inj h
  simp only [zr.l4, hb, qf]
  cases b with
  | true => exact ⟨x, rfl, .inr ⟨[], e, l, l', rfl, by simp, hl, rfl⟩⟩
  | false =>
   obtain ⟨r, h1, h2⟩ := ih (x + 1) l' hl
   refine ⟨r, h1, ?_⟩
   rcases h2 with ⟨rfl, rfl⟩ | ⟨pre, e2, post, post', rfl, rfl, h3, rfl⟩
   · exact .inl ⟨rfl, rfl⟩
   exact .inr ⟨e :: pre, e2, post, post', rfl, by simp; omega, h3, rfl⟩
theorem tell_fn {σ : Store} {keep : List Nat} {ls : Bool} {f : Nat} {g : Fn} {a b : List AV} : tell σ keep ls (f + 1) (.fn g a b) = .fn g (a.map (tell σ keep ls f)) (b.map (tell σ keep ls f)) := rfl
theorem tell_msg {σ : Store} {keep : List Nat} {f : Nat} {g : Fn} {m : GMessage} : tell σ keep true (f + 1 + 1 + 1) (.fn g [] [.dp (encGMessage m) 0]) = .fn g [] [.dp (encGMessage m) 0] := by
 simp only [tell_fn, qy, qM, tell_dp, encGMessage, Y1, Ym, yj, qW, qX, ud]
theorem vaH (n : Nat) : (z8 [AV.int .i64 0, .ds true [] 0 true] n).all AV.one = true := by
 rw [q3]
 intro x hx
 obtain ⟨k, _, rfl⟩ := uv.1 hx
 have : k % 2 = 0 ∨ k % 2 = 1 := by omega
 rcases this with h | h <;> simp [h, AV.one, gc]
theorem DeleteFunc_at {σ : Store} {id ver : Nat} {nl : Bool} {es es' : List GEntry} (m : GMessage) (hcs : Store.at σ id ver = some (es.flatMap encGEntry)) (h : wh m es = some es') (hB : es.length ≤ 1000000000000000) :
 ACalls qh 59 [.os nl 2 id ver 0 es.length false, .fn (.func 60) [] [.dp (encGMessage m) 0]] σ (fun r σ' => ∃ cs g, r = .os nl 2 id ver 0 es'.length false ∧ σ' = List.set σ id (.cells ver (es'.flatMap encGEntry ++ cs)) ++ g) := by
 obtain ⟨r, hr, hcase⟩ := idx_del m es 0 es' h
 refine wP (rs := [.tmp 4]) tok Tryd.func59 rfl Tryd.ntmps59 rfl Tryd.call59 (by simp) ?_
 refine zt [(0, .os nl 2 id ver 0 es.length false), (1, .fn (.func 60) [] [.dp (encGMessage m) 0])] ⟨rfl, rfl, trivial⟩ ?_
 refine rg tok [0, 1] fun K hK => ?_
 simp only [go_sem, qb, qa, reduceCtorEq]
 apply hK
 clear hK K
 have htold : tell σ [] true 12 (.os nl 2 id ver 0 es.length false) = .ds true (es.flatMap encGEntry) es.length false := by
  have hl : (es.flatMap encGEntry).length = es.length * 2 := zK E40.len es
  simp only [wT, wD, hcs]
  rw [if_pos (by rw [hl]; omega), qJ, ← hl, ui, yj]
 refine rc [0, 1, 5] fun K hK => ?_
 refine zb tok 2 ?_
 simp only [go_sem, qb, qa, reduceCtorEq]
 refine zi rfl rfl rfl ((zr.ok es m r hr).lend rfl true 12 (by simp only [qM, qy, go_sem, qa, reduceCtorEq, htold, tell_msg])) ?_
 rintro _ _ ⟨rfl, hσ⟩
 rw [hσ]; clear hσ
 refine zb tok 1 ?_
 simp only [go_sem, qb, qa, reduceCtorEq]
 refine za ?_
 simp only [ze, upd, qa, reduceIte, zl, zq]
 apply hK
 clear hK K
 refine zd fun Z hZ => ?_
 refine rg tok [0, 1, 5, 12] fun K hK => ?_
 simp only [go_sem, qb, qa, reduceCtorEq]
 apply hK
 clear hK K
 refine zI rfl (fun hc => ?_) (fun hc => ?_)
 · have he : es' = es := by
    rcases hcase with ⟨_, h⟩ | ⟨pre, e, post, post', _, h2, _⟩
    · exact h
    omega
   subst he
   refine rg tok [4] fun K hK => ?_
   simp only [go_sem, qb, qa, reduceCtorEq]
   apply hK
   clear hK K
   refine zj ?_
   simp only [ZF, xd, xl, xY, exists_eq_left', go_sem]
   exact ⟨[], [], by rw [qx, qx, Store.set_at hcs]⟩
 obtain ⟨pre, e, post, post', he, h2, h3, h4⟩ : ∃ pre e post post', es = pre ++ e :: post ∧ r = 0 + (pre.length : Int) ∧ wh m post = some post' ∧ es' = pre ++ post' := by
  rcases hcase with ⟨h, _⟩ | h
  · exact absurd h hc
  exact h
 rw [Int.zero_add] at h2
 subst h2
 have hl0 : es.length = pre.length + (post.length + 1) := by rw [he]; simp
 refine zh ?_
 refine hZ _ _ ?_
 clear hZ Z
 have hw1 : IntKind.i64.wrap ((pre.length : Int) + 1) = (pre.length : Int) + 1 := by rw [IntKind.wrap_i64]; omega
 refine zd fun Z hZ => ?_
 refine rg tok [0, 1, 5, 6] fun K hK => ?_
 simp only [go_sem, qb, qa, reduceCtorEq, hw1]
 apply hK
 clear hK K
 refine zk ?_
 refine zF (fun k F τ => ∃ (cur kept rest rest' : List GEntry) (j : Nat) (g : Store), k = rest.length ∧ F = [(0, AV.os nl 2 id ver 0 es.length false), (1, .fn (.func 60) [] [.dp (encGMessage m) 0]), (5, .int .i64 (kept.length : Int)), (6, .int .i64 (j : Int))] ∧
  τ = List.set σ id (.cells ver (cur.flatMap encGEntry)) ++ g ∧ cur.length = es.length ∧ cur.take kept.length = kept ∧ cur.drop j = rest ∧ j + rest.length = es.length ∧ kept.length < j ∧ wh m rest = some rest' ∧ es' = kept ++ rest') post.length
  ⟨es, pre, post, post', pre.length + 1, [], rfl, rfl, by rw [Store.set_at hcs, qx], rfl, by rw [he, List.take_left], by rw [he, ← List.drop_drop, List.drop_left]; rfl, by omega, by omega, h3, h4⟩ (.same ⟨rfl, rfl, rfl, rfl, trivial⟩ rfl) ?_
 rintro k _ _ ⟨cur, kept, rest, rest', j, g, rfl, rfl, rfl, c1, c2, c3, c4, c5, c6, c7⟩
 have hat : Store.at (List.set σ id (.cells ver (cur.flatMap encGEntry)) ++ g) id ver = some (cur.flatMap encGEntry) := wt (Store.at_set hcs) _
 obtain ⟨τ, hτ⟩ : ∃ τ, τ = List.set σ id (.cells ver (cur.flatMap encGEntry)) ++ g := ⟨_, rfl⟩
 rw [← hτ] at hat ⊢
 refine zd fun Y hY => ?_
 refine rg tok [0, 1, 5, 6, 19] fun K hK => ?_
 simp only [go_sem, qb, qa, reduceCtorEq]
 apply hK
 clear hK K
 refine zI rfl (fun hc => ?_) (fun hc => ?_)
 · refine zh ?_
   refine hY _ _ ?_
   clear hY Y
   rcases rest with _ | ⟨e2, rest⟩
   · simp only [qn] at c4; omega
   simp only [wh] at c6
   obtain ⟨b, hb, c6⟩ := bind_some c6
   obtain ⟨l', hl', c6⟩ := bind_some c6
   obtain rfl := Option.some.inj c6
   simp only [qk] at c4
   have hx : Zj cur (j : Int) = some e2 := by
    unfold Zj
    rw [if_pos (by omega), qN]
    have : (cur.drop j)[0]? = some e2 := by rw [c3]; rfl
    rwa [List.getElem?_drop, uQ] at this
   have hcd : cur.drop (j + 1) = rest := by rw [← List.drop_drop, c3]; rfl
   have hw6 : IntKind.i64.wrap ((j : Int) + 1) = ((j + 1 : Nat) : Int) := by rw [IntKind.wrap_i64]; omega
   have hix := E40.idxO hx nl false .i64 2 id ver
   rw [c1] at hix
   have hrd := E40.rdO hx
   refine zd fun X hX => ?_
   have fin : ∀ (cur' kept' : List GEntry) (F : Fr) (τ' : Store), Fits F [(0, AV.os nl 2 id ver 0 es.length false), (1, .fn (.func 60) [] [.dp (encGMessage m) 0]), (5, .int .i64 (kept'.length : Int)), (6, .int .i64 (j : Int))] → (∃ g', τ' = List.set σ id (.cells ver (cur'.flatMap encGEntry)) ++ g') → cur'.length = es.length → cur'.take kept'.length = kept' → cur'.drop (j + 1) = rest → kept'.length < j + 1 → es' = kept' ++ l' →
    X F τ' := by
    rintro cur' kept' F _ hF ⟨g', rfl⟩ d1 d2 d3 d4 d5
    refine hX _ _ (yc (.same hF rfl) ?_)
    refine rgE tok [0, 1, 5, 6] fun K hK => ?_
    simp only [go_sem, qb, qa, reduceCtorEq, hw6]
    apply hK
    clear hK K
    simp only [ze]
    exact ⟨rest.length, _, _, by simp, ⟨cur', kept', rest, l', j + 1, g', rfl, rfl, rfl, d1, d2, d3, by omega, by omega, hl', d5⟩, .same ⟨rfl, rfl, rfl, rfl, trivial⟩ rfl⟩
   clear hX
   have hae : ∀ cs, Store.at (τ ++ [.cells 0 cs]) τ.length 0 = some cs := fun cs => XJ τ cs []
   have hse : ∀ cs cs', (τ ++ [Zq.cells 0 cs]).set τ.length (.cells 0 cs') = τ ++ [.cells 0 cs'] := fun cs cs' => set_mid τ _ _ []
   have hw5 : IntKind.i64.wrap ((kept.length : Int) + 1) = ((kept.length + 1 : Nat) : Int) := by rw [IntKind.wrap_i64]; omega
   refine zk ?_
   refine rg tok [0, 1, 5, 6, 7] fun K hK => ?_
   simp only [go_sem, qb, qe, qa, qd, reduceCtorEq, hat, hix, hrd, yY, cellsGEntry, hae, hse, qk, qn, uA, uO]
   apply hK
   clear hK K
   refine rc [0, 5, 6, 7, 1, 29] fun K hK => ?_
   refine zb tok 2 ?_
   simp only [go_sem, qb, qe, qa, qd, reduceCtorEq, hae, qk, qn]
   refine zi rfl rfl rfl (yU.ev e2 m b hb _) ?_
   rintro _ _ ⟨rfl, hσ⟩
   rw [hσ]; clear hσ
   refine zb tok 1 ?_
   simp only [go_sem, qb, qa, reduceCtorEq]
   refine za ?_
   simp only [ze, upd, qa, reduceIte, zl, zq]
   apply hK
   clear hK K
   cases b with
   | true =>
    refine zz rfl ?_
    refine zh ?_
    simp only [Zu, ze]
    exact fin cur kept _ _ ⟨rfl, rfl, rfl, rfl, trivial⟩ ⟨g ++ [.cells 0 [.int .i64 e2.fTag, .ds true (qg encGTree e2.fTrees) e2.fTrees.length false]], by rw [hτ, qr]⟩ c1 c2 hcd (by omega) c7
   | false =>
    refine zB rfl ?_
    have hkl : kept.length < cur.length := by omega
    have hx2 : Zj cur (kept.length : Int) = some cur[kept.length] := by
     unfold Zj
     rw [if_pos (by omega), qN, qO hkl]
    have hix2 := E40.idxO hx2 nl false .i64 2 id ver
    rw [c1] at hix2
    have hsc := E40.stOc hx2
    have hsr := E40.stOr hx2 (y := e2) (cs := [.int .i64 e2.fTag, .ds true (qg encGTree e2.fTrees) e2.fTrees.length false]) (by rw [yY] <;> rfl)
    simp only [yO] at hsr
    have hat1 : Store.at (τ ++ [.cells 0 [.int .i64 e2.fTag, .ds true (qg encGTree e2.fTrees) e2.fTrees.length false]]) id ver = some (cur.flatMap encGEntry) := wt hat _
    refine rg tok [0, 1, 5, 6] fun K hK => ?_
    simp only [go_sem, qb, qe, qa, qd, reduceCtorEq, hae, hix2, hsc, hsr, hat1, qk, qn]
    apply hK
    clear hK K
    refine rgE tok [0, 1, 5, 6] fun K hK => ?_
    simp only [go_sem, qb, qa, reduceCtorEq, hw5]
    apply hK
    clear hK K
    simp only [Zu, ze]
    have hlen : (kept ++ [e2]).length = kept.length + 1 := by simp
    refine fin (setI cur (kept.length : Int) e2) (kept ++ [e2]) _ _ ⟨rfl, rfl, by rw [hlen]; rfl, rfl, trivial⟩ ⟨g ++ [.cells 0 [.int .i64 e2.fTag, .ds true (qg encGTree e2.fTrees) e2.fTrees.length false]], ?_⟩ ?_ ?_ ?_ (by rw [hlen]; omega) (by rw [c7]; simp)
    · rw [hτ, qr, List.set_append_left _ _ (by simpa using Store.at_lt hcs), List.set_set]
    · rw [wL]; exact c1
    · rw [hlen]
      unfold setI
      rw [qN, List.take_set, List.take_add_one, c2, qO hkl]
      simp
    unfold setI
    rw [qN, List.drop_set_of_lt (by omega)]
    exact hcd
 refine zM ?_
 simp only [go_sem]
 have hr0 : rest = [] := qz.1 (by omega)
 subst hr0
 cases c6
 rw [qx] at c7
 subst c7
 simp only [qn, uQ] at c4
 have hkn : es'.length < es.length := by omega
 have hsl1 : wo tab 40 (.os nl 2 id ver 0 es.length false) (some (.int .i64 (es'.length : Int))) none none = some (.os nl 2 id ver (es'.length * 2) (es.length - es'.length) false) := by
  simp only [wo, Yy, Yx, van]
  simp
  omega
 have hsl2 : wo tab 40 (.os nl 2 id ver 0 es.length false) none (some (.int .i64 (es'.length : Int))) none = some (.os nl 2 id ver 0 es'.length false) := by
  simp only [wo, Yy, Yx, van]
  simp
  omega
 have hcl : (cur.flatMap encGEntry).length = es.length * 2 := by rw [← c1]; exact zK E40.len cur
 have hzl : ∀ n, (z8 [AV.int .i64 0, .ds true [] 0 true] n).length = n := fun n => by simp [z8]
 have hsr : yO (cur.flatMap encGEntry) (es'.length * 2) (z8 [AV.int .i64 0, .ds true [] 0 true] ((es.length - es'.length) * 2)) = es'.flatMap encGEntry ++ z8 [AV.int .i64 0, .ds true [] 0 true] ((es.length - es'.length) * 2) := by
  have e0 : cur.flatMap encGEntry = es'.flatMap encGEntry ++ ((cur.drop es'.length).flatMap encGEntry ++ []) := by
   rw [qx, ← q1]
   congr 1
   conv => lhs; rw [← uk es'.length cur, c2]
  have l1 : (es'.flatMap encGEntry).length = es'.length * 2 := zK E40.len _
  rw [e0, ← l1, w9 _ _ _ _ (by rw [hzl, zK E40.len, uG, c1]), qx]
 have hclr : vbf tab 40 (.os nl 2 id ver (es'.length * 2) (es.length - es'.length) false) τ = some (.tup [], τ.set id (.cells ver (es'.flatMap encGEntry ++ z8 [AV.int .i64 0, .ds true [] 0 true] ((es.length - es'.length) * 2)))) := by
  have hp : wA τ (.os nl 2 id ver (es'.length * 2) (es.length - es'.length) false) (es.length - es'.length) 2 (z8 [AV.int .i64 0, .ds true [] 0 true] ((es.length - es'.length) * 2)) = some (τ.set id (.cells ver (es'.flatMap encGEntry ++ z8 [AV.int .i64 0, .ds true [] 0 true] ((es.length - es'.length) * 2)))) := by
   unfold wA
   rw [if_neg (by omega)]
   simp only [hat]
   rw [if_pos ⟨trivial, by rw [hzl, hcl, ← uR]; exact qQ _ (by omega), vaH _⟩, hsr]
  simp only [vbf, Yy, Yx, AV.cells, hp]
  simp [AV.okc, AV.one]
 refine hZ _ _ ?_
 refine rg tok [0, 5] fun K hK => ?_
 simp only [go_sem, qb, qa, reduceCtorEq, hsl1, hclr]
 apply hK
 clear hK K
 refine rg tok [4] fun K hK => ?_
 simp only [go_sem, qb, qa, reduceCtorEq, hsl2]
 apply hK
 clear hK K
 refine zj ?_
 simp only [ZF, xd, xl, xY, exists_eq_left', go_sem]
 refine ⟨z8 [AV.int .i64 0, .ds true [] 0 true] ((es.length - es'.length) * 2), g, ?_⟩
 rw [hτ, List.set_append_left _ _ (by simpa using Store.at_lt hcs), List.set_set]
end
end Go.Proofs.YtaddlmlpeghonaaDoor
