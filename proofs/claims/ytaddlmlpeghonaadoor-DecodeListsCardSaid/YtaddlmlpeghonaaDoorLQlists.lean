import Derived.Test.YtaddlmlpeghonaaDoorLSd
set_option maxRecDepth 4000
set_option linter.unusedSimpArgs false
set_option linter.unusedVariables false
namespace Go.Proofs.YtaddlmlpeghonaaDoor
open AM
theorem awake12' : law12_awake = some true := by decide +kernel
def rN (n : Int) : GRaw := ⟨2, 0, n, []⟩
def tN (n : Int) : GTree := ⟨1, n, [], [], []⟩
theorem rN_ok {n : Int} (h : In64 n) : rawOk (rN n) := ⟨check_num (by decide) (by decide), h⟩
theorem rN_len {n : Int} (h : In64 n) : (rawB (rN n)).length ≤ 20 := by
  unfold rawB
  have h1 : (vb (keyN (rN n))).length ≤ 10 := vb_len10 (by unfold keyN rN; dsimp only; decide)
  have h2 : (vb (zg (rN n).fN)).length ≤ 10 := vb_len10 (zg_lt h)
  rw [if_pos (show (rN n).fWire = 0 from rfl), List.length_append]; omega
theorem rNs_len : ∀ (l : List Int), (∀ n ∈ l, In64 n) → (rawsB (l.map rN)).length ≤ 20 * l.length
  | [], _ => Nat.le_refl _
  | n :: l, h => by
    rw [List.map_cons, rawsB_cons, List.length_append, List.length_cons]
    have h1 := rN_len (h n (List.mem_cons_self ..))
    have h2 := rNs_len l fun x hx => h x (List.mem_cons_of_mem _ hx)
    omega
def sL : GSchema := ⟨[97], [(⟨[109], [(⟨[120], 2, 3, (⟨2, []⟩ : GType)⟩ : GField)], ([] : List Int)⟩ : GMessage)], ([] : List GEnumeration), ([] : List GMethod)⟩
def mL : GMessage := ⟨[109], [(⟨[120], 2, 3, (⟨2, []⟩ : GType)⟩ : GField)], []⟩
theorem fld_more (msg : GMessage → List UInt8 → GTree × Int) : ∀ (l : List Int) (ts : List GTree), 1 ≤ ts.length → ts.length ≤ 64 →
    fldD mL (oneD msg sL) (l.map rN) [⟨2, ts⟩] [] = if ts.length + l.length ≤ 64 then (⟨3, 0, [], [⟨2, ts ++ l.map tN⟩], []⟩, 0) else (zTree, 4)
  | [], ts, h1, h2 => by
    rw [List.map_nil, fldD, if_pos (by simpa using h2), List.map_nil, List.append_nil]; rfl
  | n :: l, ts, h1, h2 => by
    have hc : (check_Field mL (rN n).fTag).2 = true := rfl
    have ho : oneD msg sL (check_Field mL (rN n).fTag).1.fType (rN n) = (tN n, 0) := rfl
    have hp : putN (rN n).fTag ((check_Field mL (rN n).fTag).1.fLabel = 3) [⟨2, ts⟩] = ts.length + 1 := rfl
    have he : putE (rN n).fTag ((check_Field mL (rN n).fTag).1.fLabel = 3) (tN n) [⟨2, ts⟩] = [⟨2, ts ++ [tN n]⟩] := rfl
    rw [List.map_cons, fldD, if_pos hc, ho, if_pos rfl, hp]
    by_cases h : ts.length + 1 ≤ 64
    · rw [if_pos h]; dsimp only
      rw [he, fld_more msg l (ts ++ [tN n]) (by rw [List.length_append, List.length_singleton]; omega) (by rw [List.length_append, List.length_singleton]; omega), List.length_append, List.length_singleton, List.length_cons, List.append_assoc]
      by_cases h3 : ts.length + 1 + l.length ≤ 64
      · rw [if_pos h3, if_pos (by omega)]; rfl
      · rw [if_neg h3, if_neg (by omega)]
    · rw [if_neg h, if_neg (by rw [List.length_cons]; omega)]
theorem fld_all (msg : GMessage → List UInt8 → GTree × Int) (l : List Int) : fldD mL (oneD msg sL) (l.map rN) [] [] = if l.length ≤ 64 then (⟨3, 0, [], (if l = [] then [] else [⟨2, l.map tN⟩]), []⟩, 0) else (zTree, 4) := by
  cases l with
  | nil => rfl
  | cons n l =>
    have hc : (check_Field mL (rN n).fTag).2 = true := rfl
    have ho : oneD msg sL (check_Field mL (rN n).fTag).1.fType (rN n) = (tN n, 0) := rfl
    have hp : putN (rN n).fTag ((check_Field mL (rN n).fTag).1.fLabel = 3) [] = 1 := rfl
    have he : putE (rN n).fTag ((check_Field mL (rN n).fTag).1.fLabel = 3) (tN n) [] = [⟨2, [tN n]⟩] := rfl
    rw [List.map_cons, fldD, if_pos hc, ho, if_pos rfl, hp, if_pos (by decide)]; dsimp only
    rw [he, fld_more msg l [tN n] (Nat.le_refl _) (show 1 ≤ 64 by decide), List.length_singleton, List.length_cons, Nat.add_comm]
    split
    · rw [if_neg (by simp)]; rfl
    · rfl
theorem decodeL {l : List Int} (h : ∀ n ∈ l, In64 n) (hl : l.length ≤ 100) : decode_Decode sL [109] (rawsB (l.map rN)) = some (if l.length ≤ 64 then (⟨3, 0, [], (if l = [] then [] else [⟨2, l.map tN⟩]), []⟩, 0) else (zTree, 4)) := by
  have hc : check_Check sL = some 0 := by decide +kernel
  have hok : ∀ r ∈ l.map rN, rawOk r := by
    intro r hr
    obtain ⟨n, hn, rfl⟩ := List.mem_map.1 hr
    exact rN_ok (h n hn)
  have hb : (rawsB (l.map rN)).length ≤ 4096 := by have := rNs_len l h; omega
  have hg : getD (rawsB (l.map rN)) = (l.map rN, 0) := by unfold getD; rw [wire_Get_ok hok hb]; rfl
  rw [decode_eq hc rfl, show msgOf sL [109] = mL from rfl, show (10 : Nat) = 9 + 1 from rfl, decM, hg, if_pos rfl, fld_all]
theorem idx_map {α β : Type} {f : α → β} {l : List α} {A B : List α} {x : α} {i : Int} (hl : l = A ++ x :: B) (hi : i = A.length) : idxL (l.map f) i = some (f x) := by
  subst hl hi
  rw [List.map_append, List.map_cons]
  exact idx_app (by rw [List.length_map])
theorem lists_l53 (L : List Int) (x : List GRaw) (hx : x.length = L.length) (e : Int) : ∀ (B A : List Int), L = A ++ B → L ≠ [] →
    law12_DecodeLists.l53 x (⟨3, 0, [], (if L = [] then [] else [⟨2, L.map tN⟩]), []⟩, e) (B.map rN) (A.length : Int) = some true
  | [], A, _, _ => by
    rw [List.map_nil, law12_DecodeLists.l53, awake12']; rfl
  | n :: B, A, hL, h0 => by
    rw [List.map_cons, law12_DecodeLists.l53]
    have e1 : idxL (GTree.mk 3 0 [] (if L = [] then [] else [⟨2, L.map tN⟩]) [], e).1.fEntries 0 = some ⟨2, L.map tN⟩ := by
      rw [if_neg h0]; rfl
    rw [e1, Option.bind_some, ge_trees, if_pos (by rw [List.length_map, hx]), idx_map hL rfl, Option.bind_some]
    have e2 : (!(decide ((tN n).fN = (rN n).fN))) = false := by rw [decide_eq_true (show (tN n).fN = (rN n).fN from rfl)]; rfl
    rw [e2, law12_DecodeLists.j59, if_neg (by decide), show (A.length : Int) + 1 = ((A ++ [n]).length : Int) by rw [List.length_append, List.length_singleton]; omega]
    exact lists_l53 L x hx e B (A ++ [n]) (by rw [hL, List.append_assoc]; rfl) h0
theorem lists_end {a b : List Int} (h : ∀ n ∈ a ++ b, In64 n) (hl : (a ++ b).length ≤ 100) (k : Nat) : law12_DecodeLists.l13 a b (k + 1) ((a ++ b).map rN) ((a ++ b).length : Int) = some true := by
  have hs : (a ++ b).length = a.length + b.length := List.length_append
  have hok : ∀ r ∈ (a ++ b).map rN, rawOk r := by
    intro r hr
    obtain ⟨n, hn, rfl⟩ := List.mem_map.1 hr
    exact rN_ok (h n hn)
  have hb : (rawsB ((a ++ b).map rN)).length ≤ 4096 := by have := rNs_len (a ++ b) h; omega
  have hm : ((a ++ b).map rN).length = (a ++ b).length := List.length_map ..
  have hd := decodeL h hl
  unfold sL at hd
  rw [law12_DecodeLists.l13, if_neg (by rw [i64_in (by omega) (by omega)]; omega), putAll_ok hok hb, Option.bind_some, if_pos rfl, hd, Option.bind_some, hm]
  by_cases h64 : (a ++ b).length ≤ 64
  · rw [if_neg (by omega), if_pos h64, if_neg]
    · by_cases h0 : a ++ b = []
      · rw [h0, List.map_nil, law12_DecodeLists.l53, awake12']; rfl
      · exact lists_l53 (a ++ b) _ hm 0 (a ++ b) [] rfl h0
    · dsimp only
      by_cases h0 : a ++ b = []
      · rw [if_pos h0, h0]; decide
      · have hp : 0 < (a ++ b).length := List.length_pos_iff.2 h0
        have e3 : (if (1 : Int) < ((a ++ b).length : Int) then (1 : Int) else ((a ++ b).length : Int)) = 1 := by split <;> omega
        rw [if_neg h0, e3]; simp [GTree.fRest, GTree.fEntries]
  · rw [if_pos (by omega), if_neg h64]; dsimp only
    rw [if_pos rfl, awake12']; rfl
theorem lists_l13 {a b : List Int} (h : ∀ n ∈ a ++ b, In64 n) (hl : (a ++ b).length ≤ 100) : ∀ (k : Nat) (A B : List Int), a ++ b = A ++ B → B.length < k → law12_DecodeLists.l13 a b k (A.map rN) (A.length : Int) = some true
  | 0, A, B, _, hk => by omega
  | k + 1, A, [], he, _ => by
    rw [List.append_nil] at he
    rw [← he]; exact lists_end h hl k
  | k + 1, A, n :: B, he, hk => by
    have hs : (a ++ b).length = a.length + b.length := List.length_append
    have hs2 : (a ++ b).length = A.length + (B.length + 1) := by rw [he, List.length_append, List.length_cons]
    rw [List.length_cons] at hk
    have hn : (a ++ b)[A.length]? = some n := by rw [he, List.getElem?_append_right (Nat.le_refl _), Nat.sub_self]; rfl
    have ih := lists_l13 h hl k (A ++ [n]) B (by rw [he, List.append_assoc]; rfl) (by omega)
    have j : law12_DecodeLists.j19 (A.map rN) (A.length : Int) (law12_DecodeLists.l13 a b k) (rN n) = some true := by
      rw [law12_DecodeLists.j19, room_t (by rw [List.length_map]; omega), Option.bind_some, i64_in (by omega) (by omega)]
      rw [List.map_append, List.length_append, List.length_singleton] at ih
      exact ih
    rw [law12_DecodeLists.l13, if_pos (by rw [i64_in (by omega) (by omega)]; omega)]
    by_cases ha : A.length < a.length
    · rw [if_pos (by omega), idx_t (by omega) (show a[Int.toNat (A.length : Int)]? = some n by rw [Int.toNat_natCast]; rw [List.getElem?_append_left ha] at hn; exact hn), Option.bind_some]
      exact j
    · rw [if_neg (by omega), idx_t (by rw [i64_in (by omega) (by omega)]; omega) (show b[Int.toNat (IntKind.i64.wrap ((A.length : Int) - (a.length : Int)))]? = some n by
        rw [i64_in (by omega) (by omega), show Int.toNat ((A.length : Int) - (a.length : Int)) = A.length - a.length by omega]
        rw [List.getElem?_append_right (by omega)] at hn; exact hn), Option.bind_some]
      exact j
theorem lists_true {a b : List Int} (ha : ∀ n ∈ a, In64 n) (hb : ∀ n ∈ b, In64 n) (la : a.length < 4611686018427387904) (lb : b.length < 4611686018427387904) : law12_DecodeLists a b = some true := by
  have hs : (a ++ b).length = a.length + b.length := List.length_append
  rw [law12_DecodeLists, i64_in (by omega) (by omega)]
  by_cases h : (100 : Int) < (a.length : Int) + (b.length : Int)
  · rw [if_pos h, awake12']; rfl
  · rw [if_neg h]
    refine lists_l13 (fun n hn => ?_) (by omega) rounds [] (a ++ b) rfl (by have := rounds_big; omega)
    rcases List.mem_append.1 hn with hn | hn
    · exact ha n hn
    · exact hb n hn
end Go.Proofs.YtaddlmlpeghonaaDoor
