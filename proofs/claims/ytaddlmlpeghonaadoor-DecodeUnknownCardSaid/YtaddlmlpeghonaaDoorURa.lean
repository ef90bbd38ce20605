import Derived.Test.YtaddlmlpeghonaaDoorUU
import Derived.Test.YtaddlmlpeghonaaDoorRows
import Derived.Test.YtaddlmlpeghonaaDoorChecked
import Derived.Test.YtaddlmlpeghonaaDoorTie
import Derived.ProofKit
import Derived.OpenShut
import Derived.ShutString
import Derived.ChangeOld
import Derived.ChangeSame
import Derived.ChangeVars
import Derived.JoinedOf
import Derived.RowKit
import Derived.LaidLaws
import Derived.LaidHandle
import Derived.Lib.LaidIn
import Derived.Lib.LaidU8T
import Derived.SevenTiedAt
set_option linter.unusedVariables false
namespace Go.Proofs.YtaddlmlpeghonaaDoor
open Go.ChangeShapes Go.WideShapes Go.ChangeAt Go.RowKit Go.Shelf Go.Lib AM
theorem own : ownKnob Tryd.prog.godebug = none := by kernel_rfl
theorem laidOut : laidOutB Tryd.prog = true := by kernel_rfl
def listed : List (String × DataW Unit) := [("unicode/utf8.acceptRanges", Rows.laid_unicode_utf8_acceptRanges), ("unicode/utf8.first", Rows.laid_unicode_utf8_first)]
noncomputable def laidWorld (os : Os) : World :=
 let w0 := World.holding Tryd.prog os ⟨#[], #[], []⟩
 let put (h : Array Obj) (g : Nat) (cs : Array Value) : Array Obj := h.modify g fun
  | .cells _ t frozen => .cells cs t frozen
  | o => o
 let h1 := put w0.heap (utf8Ren.g 3) (Lib.firstTab.map fun z => Value.int .u8 z).toArray
 let h2 := put h1 (utf8Ren.g 4) ((List.range 16).flatMap fun i => [Value.int .u8 (Lib.accLo i), Value.int .u8 (Lib.accHi i)]).toArray
 { w0 with heap := h2 }
theorem laid_met (os : Os) (args : Array Value) : laidMet Tryd.prog listed ((laidWorld os).forCall (fun _ _ => 0) ⟨#[], args, []⟩).memory :=
 (LaidIn.of_run (l := listed) [0, 1] 8 (by kernel_rfl) (by kernel_rfl) (by kernel_rfl) (by kernel_rfl)).met
theorem laid_metH (os : Os) (args : Array Value) : laidMetH Tryd.prog listed ((laidWorld os).forCall (fun _ _ => 0) ⟨#[], args, []⟩).memory := laid_met os args
theorem firstD : Rows.laid_unicode_utf8_first = Lib.firstData := by kernel_rfl
theorem acceptD : (Rows.laid_unicode_utf8_acceptRanges : DataW Unit) = Lib.acceptData := by kernel_rfl
theorem u8types : U8Types Tryd.prog utf8Ren := ⟨utf8Lays.t5, utf8Lays.t119, utf8Lays.t138, utf8Lays.t139⟩
theorem glb_of_laid {W : World} (hL : laidMetH Tryd.prog listed W) : Glb W fun b => b < W.heap.size := by
 have h' : laidMet Tryd.prog listed W := hL
 have r1 := Lib.laidMet.reads h' (.tail _ (.head _))
 have r2 := Lib.laidMet.reads h' (.head _)
 rw [firstD] at r1
 rw [acceptD] at r2
 have ht : Lib.Utf8Tabs (utf8Ren.g 3) (utf8Ren.g 4) W := utf8Tabs_of_readsT u8types ⟨by kernel_rfl, by kernel_rfl, by kernel_rfl, by kernel_rfl, by kernel_rfl, by kernel_rfl, by kernel_rfl⟩ r1 r2
 obtain ⟨t1, t2⟩ := ht
 have lt : ∀ {g o : Nat} {v : Value}, W.cell? ⟨g, o, none⟩ = some v → g < W.heap.size := by
  intro g o v h
  refine Nat.lt_of_not_le fun hle => ?_
  unfold World.cell? at h
  rw [Array.getElem?_eq_none hle] at h
  cases h
 refine ⟨fun g vs hm => ?_, fun g vs hm i v hv => ?_⟩
 · rcases List.mem_cons.1 hm with e | hm
   · cases e; exact lt (t1 0 (by decide))
   · rcases List.mem_cons.1 hm with e | hm
     · cases e; exact lt (t2 0 (by decide)).1
     · cases hm
 · rcases List.mem_cons.1 hm with e | hm
   · cases e
     have hi : i < 256 := by
      have := (List.getElem?_eq_some_iff.1 hv).1; simpa using this
     rw [List.getElem?_map, List.getElem?_range hi] at hv
     cases hv
     exact t1 i hi
   · rcases List.mem_cons.1 hm with e | hm
     · cases e
       have hi : i < 32 := by
        have := (List.getElem?_eq_some_iff.1 hv).1; simpa using this
       rw [List.getElem?_map, List.getElem?_range hi] at hv
       cases hv
       have h1 := t2 (i / 2) (by omega)
       have : i % 2 = 0 ∨ i % 2 = 1 := by omega
       rcases this with h | h
       · have e : 2 * (i / 2) = i := by omega
         rw [e] at h1
         simp only [h, if_true]; exact h1.1
       · have e : 2 * (i / 2) + 1 = i := by omega
         rw [e] at h1
         simp only [h]; exact h1.2
     · cases hm
end Go.Proofs.YtaddlmlpeghonaaDoor
