import Derived.Test.YtaddlmlpeghonaaDoorPFB
set_option maxRecDepth 100000
namespace Go.Proofs.YtaddlmlpeghonaaDoor
open AM
theorem deep_at (r : Int) (h0 : 0 ≤ r) (h1 : r < 14) : law12_DecodeDeep.l13 r rounds ([] : List GEnumeration) ([] : List GMethod) ([] : List UInt8) 0 = some true := by
  obtain ⟨k, rfl⟩ : ∃ k : Nat, r = k := ⟨r.toNat, by omega⟩
  have hk : k < 14 := by omega
  have all : ∀ k : Nat, k < 14 → law12_DecodeDeep.l13 (k : Int) rounds ([] : List GEnumeration) ([] : List GMethod) ([] : List UInt8) 0 = some true := by decide +kernel
  exact all k hk
theorem deep_true (n : Int) : law12_DecodeDeep n = some true := by
  have h1 : (14 : Int) ≠ 0 := by decide
  unfold law12_DecodeDeep law00_Place law00_Place.j3
  simp only [grd, h1, ne_eq, not_false_eq_true, if_true, Option.bind_some]
  have hl := Int.tmod_lt_of_pos n (show (0 : Int) < 14 by decide)
  have hg : -14 < n.tmod 14 := by
    have := Int.lt_tmod_of_pos n (show (0 : Int) < 14 by decide)
    omega
  by_cases h : n.tmod 14 < 0
  · rw [if_pos h]
    simp only [Option.bind_some]
    have hw : IntKind.i64.wrap (n.tmod 14 + 14) = n.tmod 14 + 14 := by rw [IntKind.wrap_i64]; omega
    rw [hw]
    exact deep_at _ (by omega) (by omega)
  · rw [if_neg h]
    simp only [Option.bind_some]
    exact deep_at _ (by omega) (by omega)
end Go.Proofs.YtaddlmlpeghonaaDoor
