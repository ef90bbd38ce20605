import Derived.Test.YtaddlmlpeghonaaDoorUCe
set_option maxRecDepth 8000
set_option linter.unusedSimpArgs false
set_option linter.unusedVariables false
namespace Go.Proofs.YtaddlmlpeghonaaDoor
open Go.RowKit AM
mutual
def decode_message : Nat → GSchema → GMessage → List UInt8 → Int → Option (GTree × Int)
 | 0, _, _, _, _ => none
 | k + 1, a0, a1, a2, a3 => decode_message.body (decode_message k) (decode_one k) a0 a1 a2 a3
def decode_one : Nat → GSchema → GType → GRaw → Int → Option (GTree × Int)
 | 0, _, _, _, _ => none
 | k + 1, a0, a1, a2, a3 => decode_one.body (decode_message k) (decode_one k) a0 a1 a2 a3
end
theorem decode_message.all (k : Nat) :
 (∀ (a0 : GSchema) (a1 : GMessage) (a2 : List UInt8) (a3 : Int) (r : GTree × Int), decode_message k a0 a1 a2 a3 = some r → ACalls Tryd.prog 35 [.agg (encGSchema a0), .agg (encGMessage a1), .ds true (List.flatMap encB a2) (List.length a2) false, .int .i64 a3] [] (fun r' _ => r' = .tup [.agg (cellsGTree r.1), .int .i64 r.2])) ∧
 (∀ (a0 : GSchema) (a1 : GType) (a2 : GRaw) (a3 : Int) (r : GTree × Int), decode_one k a0 a1 a2 a3 = some r → ACalls Tryd.prog 57 [.agg (encGSchema a0), .agg (encGType a1), .agg (encGRaw a2), .int .i64 a3] [] (fun r' _ => r' = .tup [.agg (cellsGTree r.1), .int .i64 r.2])) := by
 induction k with
 | zero => exact ⟨fun a0 a1 a2 a3 r h => (by simp only [decode_message] at h; cases h), fun a0 a1 a2 a3 r h => (by simp only [decode_one] at h; cases h)⟩
 | succ k ih =>
  exact ⟨fun a0 a1 a2 a3 r h => decode_message.step (decode_message k) (decode_one k) ih.2 a0 a1 a2 a3 r (by simpa only [decode_message] using h),
   fun a0 a1 a2 a3 r h => decode_one.step (decode_message k) (decode_one k) ih.1 ih.2 a0 a1 a2 a3 r (by simpa only [decode_one] using h)⟩
theorem decode_message.ok (k : Nat) (a0 : GSchema) (a1 : GMessage) (a2 : List UInt8) (a3 : Int) (r : GTree × Int) (h : decode_message k a0 a1 a2 a3 = some r) : ACalls Tryd.prog 35 [.agg (encGSchema a0), .agg (encGMessage a1), .ds true (List.flatMap encB a2) (List.length a2) false, .int .i64 a3] [] (fun r' _ => r' = .tup [.agg (cellsGTree r.1), .int .i64 r.2]) :=
 (decode_message.all k).1 a0 a1 a2 a3 r h
theorem decode_message.ev (k : Nat) (a0 : GSchema) (a1 : GMessage) (a2 : List UInt8) (a3 : Int) (r : GTree × Int) (h : decode_message k a0 a1 a2 a3 = some r) (σ : Store) : ACalls Tryd.prog 35 [.agg (encGSchema a0), .agg (encGMessage a1), .ds true (List.flatMap encB a2) (List.length a2) false, .int .i64 a3] σ (fun r' σ' => r' = .tup [.agg (cellsGTree r.1), .int .i64 r.2] ∧ σ' = σ) :=
 (decode_message.ok k a0 a1 a2 a3 r h).pureAt (by simp only [AV.canon, canonL, canon_all, Bool.and_self, Bool.not_false, Bool.or_true, encGMessage, encGSchema]) (by simp only [AV.canon, canonL, canon_all, Bool.and_self, Bool.not_false, Bool.or_true, cellsGTree]) σ
end Go.Proofs.YtaddlmlpeghonaaDoor
