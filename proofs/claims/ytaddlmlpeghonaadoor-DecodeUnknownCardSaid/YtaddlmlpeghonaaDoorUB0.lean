import Derived.Shelf.Unicode.DecodeAny
import Derived.Below
import Derived.Tactics
import Derived.WalkKit
namespace Go.Proofs.YtaddlmlpeghonaaDoor
namespace AM
def tsizes : List Nat := [1, 1, 1, 1, 1, 1, 1, 4, 4, 1, 1, 1, 1, 2, 2, 1, 1, 1, 1, 1, 1, 1, 1, 1, 1, 3, 3, 1, 1, 1, 4, 4, 4, 4, 1, 1, 1, 1, 1, 1, 1, 5, 5, 1, 1, 1, 1, 1, 1, 2, 2, 5, 5, 1, 1, 1, 1, 1, 1, 1, 2, 2, 1, 8, 8, 1, 1, 1, 1, 1, 1, 1, 3, 3, 1, 1, 1, 1, 1, 1, 1, 1, 1, 1, 1, 1, 1, 1, 1, 2, 2, 2, 2, 1, 1, 1, 1, 1, 1, 1, 1, 1, 1, 1, 1, 1, 1, 1, 1, 1, 1, 1, 1, 1, 1, 1, 1, 1, 1, 1, 1, 1, 1, 1, 1, 1, 1, 1, 1, 1, 1, 1, 1, 1, 1, 1, 1, 1, 1, 1, 1, 1, 1, 1, 1, 1, 1, 1, 1, 1, 1, 1, 1, 1, 1, 1, 1, 1, 1, 1, 1, 1, 1, 1, 1, 1, 1, 1, 1, 1, 1, 1, 1, 2, 2, 2, 2, 1, 1, 1, 1, 1, 1, 1, 1, 1, 1, 1, 1, 1, 256, 2, 2, 32, 1, 4, 4, 0, 0, 0, 1, 1, 1, 1, 1, 1, 1, 1, 11, 11, 1]
def tsize (t : TypeId) : Nat := tsizes.getD t 0
def globT : List (Nat × List Value) := [(0, (List.range 256).map fun c => .int .u8 (Lib.firstT c)), (1, (List.range 32).map fun c => .int .u8 (if c % 2 = 0 then Lib.accLo (c / 2) else Lib.accHi (c / 2)))]
def Glb (w : World) (st : Nat → Prop) : Prop := (∀ g vs, (g, vs) ∈ globT → st g) ∧ ∀ g vs, (g, vs) ∈ globT → ∀ i v, vs[i]? = some v → w.cell? ⟨g, i, none⟩ = some v
theorem Glb.mono {w w' : World} {st st' : Nat → Prop} (h : Glb w st) (hs : ∀ b, st b → st' b ∧ w'.heap[b]? = w.heap[b]?) : Glb w' st' := by
 refine ⟨fun g vs hm => (hs g (h.1 g vs hm)).1, fun g vs hm i v hv => ?_⟩
 have h1 := h.2 g vs hm i v hv
 unfold World.cell? at h1 ⊢
 rw [(hs g (h.1 g vs hm)).2]; exact h1
theorem Glb.utf8 {w : World} {st : Nat → Prop} (h : Glb w st) : Lib.Utf8Tabs 0 1 w := by
 have h1 := h.2 _ _ (List.mem_cons_self ..)
 have h2 := h.2 _ _ (List.mem_cons_of_mem _ (List.mem_cons_self ..))
 refine ⟨fun c hc => h1 c _ ?_, fun i hi => ⟨h2 (2 * i) _ ?_, h2 (2 * i + 1) _ ?_⟩⟩
 · simp [hc]
 · have h3 : 2 * i < 32 := by omega
   simp [h3]
 · have h3 : 2 * i + 1 < 32 := by omega
   have h4 : (2 * i + 1) % 2 = 1 := by omega
   have h5 : (2 * i + 1) / 2 = i := by omega
   simp [h3, h4, h5]
end AM
end Go.Proofs.YtaddlmlpeghonaaDoor
