import Derived.Test.YtaddlmlpeghonaaDoorUG
import Derived.Shelf.Unicode.DecodeAny
import Derived.KernelRfl
set_option linter.unusedSimpArgs false
set_option linter.unusedVariables false
namespace Go.Proofs.YtaddlmlpeghonaaDoor
open Go.Shelf Go.RowKit
def utf8Ren : Go.Shelf.Ren := ⟨fun | 197 => 128 | 260 => 132 | n => n, fun | 0 => 0 | 3 => 3 | 4 => 4 | 5 => 5 | 9 => 9 | 21 => 21 | 46 => 116 | 105 => 180 | 119 => 190 | 138 => 192 | 139 => 193 | n => n, fun | 3 => 0 | 4 => 1 | n => n⟩
theorem utf8Lays : Lays.n197 Tryd.prog utf8Ren where
 mixed := by kernel_rfl
 f197 := Tryd.func128.trans (congrArg some (by kernel_rfl))
 f260 := Tryd.func132.trans (congrArg some (by kernel_rfl))
 t0 := Tryd.underlying0
 a0 := Tryd.isAgg0
 z0 := Tryd.sizeOf0
 v0 := Tryd.zeroValue0
 t3 := Tryd.underlying3
 a3 := Tryd.isAgg3
 z3 := Tryd.sizeOf3
 v3 := Tryd.zeroValue3
 t4 := Tryd.underlying4
 a4 := Tryd.isAgg4
 z4 := Tryd.sizeOf4
 v4 := Tryd.zeroValue4
 t5 := Tryd.underlying5
 a5 := Tryd.isAgg5
 z5 := Tryd.sizeOf5
 v5 := Tryd.zeroValue5
 t9 := Tryd.underlying9
 a9 := Tryd.isAgg9
 z9 := Tryd.sizeOf9
 v9 := Tryd.zeroValue9
 t21 := Tryd.underlying21
 a21 := Tryd.isAgg21
 z21 := Tryd.sizeOf21
 v21 := Tryd.zeroValue21
 t46 := Tryd.underlying116
 a46 := Tryd.isAgg116
 z46 := Tryd.sizeOf116
 v46 := Tryd.zeroValue116
 t105 := Tryd.underlying180
 a105 := Tryd.isAgg180
 z105 := Tryd.sizeOf180
 v105 := Tryd.zeroValue180
 t119 := Tryd.underlying190
 a119 := Tryd.isAgg190
 z119 := Tryd.sizeOf190
 t138 := Tryd.underlying192
 a138 := Tryd.isAgg192
 z138 := Tryd.sizeOf192
 v138 := Tryd.zeroValue192
 t139 := Tryd.underlying193
 a139 := Tryd.isAgg193
 z139 := Tryd.sizeOf193
 v139 := Tryd.zeroValue193
 g3 := by kernel_rfl
 g4 := by kernel_rfl
namespace AM
def dec0 (s : List UInt8) : Nat × Nat := if s = [] then (65533, 0) else decU s 0
theorem dec0_eq (s : List UInt8) : Lib.decodeGo ⟨s.toArray⟩ = dec0 s := by
 unfold Lib.decodeGo dec0 decU
 by_cases h : s = []
 · subst h; rfl
 · rw [if_neg h, if_neg]
   intro h0
   exact h (List.eq_nil_of_length_eq_zero (by simpa [ByteArray.size] using h0))
theorem decode_ev (s : List UInt8) (σ : Store) : ACalls Tryd.prog 128 [.str s] σ (fun r σ' => r = .tup [.int .i32 ((dec0 s).1 : Int), .int .i64 ((dec0 s).2 : Int)] ∧ σ' = σ) := by
 refine ⟨Tryd.call128, fun E vs hS hl => ?_⟩
 obtain ⟨v, e⟩ : ∃ v, vs = #[v] := by
  have h1 : vs.toList.length = 1 := hl.1
  obtain ⟨l⟩ := vs
  match l, h1 with
  | [v], _ => exact ⟨v, rfl⟩
 subst e
 have h2 : VR E (.str s) v := hl.2 0 (by simp)
 cases h2 with | str _ b hb =>
 subst hb
 refine (Any.utf8_DecodeRuneInString utf8Lays b E.w hS.glb.utf8).mono ?_
 rintro e w' ⟨rfl, hb⟩
 obtain ⟨hS', hx⟩ := hS.grew (w' := w') ⟨hb.os, hb.tape, hb.output, hb.size, hb.block⟩
 refine ⟨_, .tup [.int .i32 ((dec0 b.data.toList).1 : Int), .int .i64 ((dec0 b.data.toList).2 : Int)], σ, { E with w := w' }, rfl, rfl, ?_, hS', hx, rfl, rfl⟩
 rw [← dec0_eq]
 refine .tup _ _ rfl fun i hi => ?_
 match i, hi with
 | 0, _ => exact .int _ _
 | 1, _ => exact .int _ _
def utf8_Decode (a0 : List UInt8) : Int × Int := (((dec0 a0).1 : Int), ((dec0 a0).2 : Int))
theorem utf8_Decode.ev (a0 : List UInt8) (r : Int × Int) (h : utf8_Decode a0 = r) (σ : Store) : ACalls Tryd.prog 128 [.str a0] σ (fun r' σ' => r' = .tup [.int .i32 r.1, .int .i64 r.2] ∧ σ' = σ) := by subst h; exact decode_ev a0 σ
end AM
end Go.Proofs.YtaddlmlpeghonaaDoor
