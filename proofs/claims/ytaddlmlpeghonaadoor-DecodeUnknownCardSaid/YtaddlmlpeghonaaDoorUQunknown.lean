import Derived.Test.YtaddlmlpeghonaaDoorUSi
set_option maxRecDepth 4000
set_option linter.unusedSimpArgs false
set_option linter.unusedVariables false
namespace Go.Proofs.YtaddlmlpeghonaaDoor
open AM
theorem awakeU : law12_awake = some true := by decide +kernel
def sU : GSchema := ⟨[97], [(⟨[109], ([] : List GField), ([] : List Int)⟩ : GMessage)], ([] : List GEnumeration), ([] : List GMethod)⟩
def mU : GMessage := ⟨[109], [], []⟩
def tU (l : List GRaw) : GTree := ⟨3, 0, [], [], srt l⟩
theorem fld_unknown (one : GType → GRaw → GTree × Int) : ∀ (l rest : List GRaw), fldD mU one l [] rest = (⟨3, 0, [], [], srt (rest ++ l)⟩, 0)
 | [], rest => by rw [fldD, List.append_nil]; rfl
 | r :: l, rest => by
  rw [fldD, if_neg (by exact Bool.false_ne_true), fld_unknown one l, List.append_assoc]; rfl
theorem decodeU {l : List GRaw} (h : ∀ r ∈ l, rawOk r) (hb : (rawsB l).length ≤ 4096) : decode_Decode sU [109] (rawsB l) = some (tU l, 0) := by
 have hc : check_Check sU = some 0 := by decide +kernel
 have hg : getD (rawsB l) = (l, 0) := by unfold getD; rw [wire_Get_ok h hb]; rfl
 rw [decode_eq hc rfl, show msgOf sU [109] = mU from rfl, show (10 : Nat) = 9 + 1 from rfl, decM, hg, if_pos rfl, fld_unknown, List.nil_append]; rfl
theorem insR_bytes (r : GRaw) : ∀ l : List GRaw, (rawsB (insR r l)).length = (rawB r).length + (rawsB l).length
 | [] => by rw [insR, rawsB_cons, List.length_append]
 | x :: l => by
  rw [insR]; split
  · rw [rawsB_cons, List.length_append]
  · rw [rawsB_cons, rawsB_cons, List.length_append, List.length_append, insR_bytes r l]; omega
theorem srtA_bytes : ∀ l S : List GRaw, (rawsB (srtA l S)).length = (rawsB S).length + (rawsB l).length
 | [], S => rfl
 | r :: l, S => by rw [srtA, srtA_bytes l, insR_bytes, rawsB_cons, List.length_append]; omega
theorem srt_bytes (l : List GRaw) : (rawsB (srt l)).length = (rawsB l).length := by
 rw [srt, srtA_bytes]; exact Nat.zero_add _
theorem tU_sz {l : List GRaw} (h : ∀ r ∈ l, In64 r.fN) (hl : l.length ≤ 900000) : szT 10 (tU l) := by
 refine ⟨⟨in0, ?_, fun r hr => h r (srt_mem.1 hr)⟩, fun x hx => by cases hx⟩
 show (srt l).length ≤ 900000
 rw [srt_len]; exact hl
theorem tU_check {l : List GRaw} (h : ∀ r ∈ l, rawOk r) : checkT (tU l) = true := by
 have hb : restB (tU l) = true := by
  unfold restB
  rw [Bool.and_eq_true]
  refine ⟨List.all_eq_true.2 fun r hr => ?_, risB_iff.2 (srt_sorted l)⟩
  have := (h r (srt_mem.1 hr)).1
  rw [this]; rfl
 have hd : depT 101 (tU l) ≤ 10 := by
  rw [depT, if_pos (show (tU l).fKind = 3 from rfl)]; exact (by decide : 0 + 1 ≤ 10)
 unfold checkT
 rw [decide_eq_true hd, Bool.true_and, show (10 : Nat) = 9 + 1 from rfl, rightT, if_pos (show (tU l).fKind = 3 from rfl), hb]; rfl
theorem tU_enc {l : List GRaw} (hb : (rawsB l).length ≤ 4096) : encT 10 (tU l) = some (rawsB (srt l)) := by
 rw [show (10 : Nat) = 9 + 1 from rfl, encT, show (tU l).fEntries = [] from rfl, rawE, Option.bind_some, List.append_nil, show (tU l).fRest = srt l from rfl, srt_srt, putB, if_neg (by rw [srt_bytes]; omega)]
theorem unknown_end {l : List GRaw} (h : ∀ r ∈ l, rawOk r) (hb : (rawsB l).length ≤ 4096) (hl : l.length ≤ 40) : (decode_Decode (⟨[97], [(⟨[109], ([] : List GField), ([] : List Int)⟩ : GMessage)], ([] : List GEnumeration), ([] : List GMethod)⟩ : GSchema) [109] (rawsB l)) = some (tU l, 0) ∧ ref11_Encode (tU l) = some (rawsB (srt l), 0) ∧ wire_Sorted l = some (srt l) ∧ wire_PutAll (srt l) = some (rawsB (srt l), 0) ∧ decode_Canonical (⟨[97], [(⟨[109], ([] : List GField), ([] : List Int)⟩ : GMessage)], ([] : List GEnumeration), ([] : List GMethod)⟩ : GSchema) [109] (rawsB (srt l)) = some true := by
 have hs : ∀ r ∈ srt l, rawOk r := fun r hr => h r (srt_mem.1 hr)
 have hbs : (rawsB (srt l)).length ≤ 4096 := by rw [srt_bytes]; exact hb
 have hz := tU_sz (fun r hr => (h r hr).2) (show l.length ≤ 900000 by omega)
 have d2 := decodeU hs hbs
 have e2 : tU (srt l) = tU l := by unfold tU; rw [srt_srt]
 refine ⟨decodeU h hb, ?_, sorted_eq (by omega), putAll_ok hs hbs, ?_⟩
 · rw [ref11_Encode_eq hz, if_pos ⟨tU_check h, rfl⟩, tU_enc hb]; rfl
 · unfold sU at d2
   rw [decode_Canonical, d2, Option.bind_some, if_pos rfl, e2, Encode_eq hz, if_pos ⟨tU_check h, rfl⟩, tU_enc hb, Option.bind_some, orBad]
   simp
theorem unknown_l4 {a : List GRaw} (hn : ∀ r ∈ a, In64 r.fN) (ha : a.length * 40 ≤ 140737488351232) : ∀ (q : List GRaw) (x : Int), law12_DecodeUnknown.l4 a q x = some true
 | r :: q, x => by
  rw [law12_DecodeUnknown.l4]
  split
  · rw [awakeU]; rfl
  · exact unknown_l4 hn ha q _
 | [], x => by
  rw [law12_DecodeUnknown.l4]
  by_cases h40 : (40 : Int) < (a.length : Int)
  · rw [if_pos h40, awakeU]; rfl
  · rw [if_neg h40, law00_Raws, room_t (by omega), Option.bind_some, Option.bind_some, putAll_eq hn, Option.bind_some]
    by_cases hc : a.all wire_Check = true
    · rw [if_pos hc]
      have hok : ∀ r ∈ a, rawOk r := fun r hr => ⟨List.all_eq_true.1 hc r hr, hn r hr⟩
      by_cases hb : 4096 < (rawsB a).length
      · rw [if_pos hb, if_neg (by exact (by decide : ¬ (4 : Int) = 0)), awakeU]; rfl
      · obtain ⟨h1, h2, h3, h4, h5⟩ := unknown_end hok (by omega) (by omega)
        rw [if_neg hb, if_pos rfl]; dsimp only
        have e0 : ((tU a).fEntries.length : Int) = 0 := rfl
        have er : (tU a).fRest = srt a := rfl
        simp only [h1, h2, h3, h4, h5, Option.bind_some, e0, er, sameRaws_refl, if_true, awakeU, law12_DecodeUnknown.j24]
    · rw [if_neg hc, if_neg (by exact (by decide : ¬ (1 : Int) = 0)), awakeU]; rfl
theorem unknown_true {a : List GRaw} (hn : ∀ r ∈ a, In64 r.fN) (ha : a.length * 40 ≤ 140737488351232) : law12_DecodeUnknown a = some true := unknown_l4 hn ha a 0
end Go.Proofs.YtaddlmlpeghonaaDoor
