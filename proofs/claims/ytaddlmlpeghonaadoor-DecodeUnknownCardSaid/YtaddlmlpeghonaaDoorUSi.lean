import Derived.Test.YtaddlmlpeghonaaDoorUSh
set_option maxRecDepth 4000
set_option linter.unusedSimpArgs false
set_option linter.unusedVariables false
namespace Go.Proofs.YtaddlmlpeghonaaDoor
open AM
theorem rraws_l22 {selfE : GTree → Option (List UInt8 × Int)} {enc : GTree → Option (List UInt8)} {x4 : Int} {rec8 : Int → List GRaw → Option (List GRaw × Int)} {y : GEntry} : ∀ (l : List GTree) (i : Int) (acc : List GRaw), (∀ x ∈ l, (x.fKind = 1 ∨ x.fKind = 2 ∨ x.fKind = 3) ∧ (x.fKind = 3 → selfE x = some (orBad (enc x)) ∧ ∀ b, enc x = some b → b.length ≤ 4096)) → acc.length + l.length < 3000000 →
 ref11_raws.l22 selfE x4 rec8 y l i acc = orBig (rawL enc y.fTag l) fun m => rec8 (x4 + 1) (acc ++ m)
 | [], i, acc, _, _ => by rw [ref11_raws.l22, rawL, orBig, List.append_nil]
 | x :: l, i, acc, h, hl => by
  rw [List.length_cons] at hl
  have hx := h x (List.mem_cons_self ..)
  have go : ∀ r : GRaw, rawT enc y.fTag x = some r → r.fB.length ≤ 4096 → ref11_raws.j37 i acc (ref11_raws.l22 selfE x4 rec8 y l) r = orBig (rawL enc y.fTag (x :: l)) fun m => rec8 (x4 + 1) (acc ++ m) := by
   intro r hr hb
   rw [ref11_raws.j37, if_neg (by omega), room_t (by omega), Option.bind_some, rraws_l22 l _ _ (fun z hz => h z (List.mem_cons_of_mem _ hz)) (by rw [List.length_append, List.length_singleton]; omega), rawL, hr, Option.bind_some]
   cases rawL enc y.fTag l with
   | none => rfl
   | some m => simp only [orBig, Option.bind_some, List.append_assoc, List.cons_append, List.nil_append]
  rw [ref11_raws.l22]
  by_cases h1 : x.fKind = 1
  · rw [if_pos h1]
    exact go _ (by rw [rawT, if_pos h1]) (Nat.zero_le _)
  · rw [if_neg h1]
    by_cases h2 : x.fKind = 2
    · rw [if_pos h2]
      by_cases hb : 4096 < x.fS.length
      · rw [ref11_raws.j37, if_pos (by dsimp only; omega), rawL, rawT, if_neg h1, if_pos h2, if_pos hb]; rfl
      · exact go _ (by rw [rawT, if_neg h1, if_pos h2, if_neg hb]) (by dsimp only; omega)
    · rw [if_neg h2]
      obtain ⟨he, hl4⟩ := hx.2 (by rcases hx.1 with h | h | h <;> omega)
      rw [he, Option.bind_some]
      cases hx' : enc x with
      | none => rw [rawL, rawT, if_neg h1, if_neg h2, hx']; rfl
      | some b =>
       rw [orBad]; dsimp only
       rw [if_pos rfl]
       exact go _ (by rw [rawT, if_neg h1, if_neg h2, hx', Option.bind_some]) (hl4 b hx')
theorem rraws_l8 {selfE : GTree → Option (List UInt8 × Int)} {enc : GTree → Option (List UInt8)} {t : GTree} (hr : t.fRest.length ≤ 900000) : ∀ (l : List GEntry) (i : Int) (acc : List GRaw), (∀ e ∈ l, e.fTrees.length ≤ 64 ∧ ∀ x ∈ e.fTrees, (x.fKind = 1 ∨ x.fKind = 2 ∨ x.fKind = 3) ∧ (x.fKind = 3 → selfE x = some (orBad (enc x)) ∧ ∀ b, enc x = some b → b.length ≤ 4096)) → acc.length + 64 * l.length ≤ 64000 →
 ref11_raws.l8 selfE t l i acc = orBig (rawE enc l) fun m => some (srt ((acc ++ m) ++ t.fRest), 0)
 | [], i, acc, _, hl => by
  rw [ref11_raws.l8, room_t (by simp only [List.length_nil] at hl; omega), Option.bind_some, ref04_Sorted_eq (by rw [List.length_append]; simp only [List.length_nil] at hl; omega), rawE, orBig, List.append_nil]; rfl
 | e :: l, i, acc, h, hl => by
  rw [List.length_cons] at hl
  have he := h e (List.mem_cons_self ..)
  rw [ref11_raws.l8, rraws_l22 e.fTrees 0 acc he.2 (by omega), rawE]
  cases hL : rawL enc e.fTag e.fTrees with
  | none => rfl
  | some m =>
   have hm := rawL_len hL
   rw [orBig, rraws_l8 hr l _ _ (fun z hz => h z (List.mem_cons_of_mem _ hz)) (by rw [List.length_append]; omega), Option.bind_some]
   cases rawE enc l with
   | none => rfl
   | some m' => simp only [orBig, Option.bind_some, List.append_assoc]
theorem filter_none {l : List GRaw} {t : Int} (h : ∀ r ∈ l, r.fTag ≠ t) : l.filter (fun x => x.fTag = t) = [] := by
 rw [List.filter_eq_nil_iff]
 intro r hr
 simpa using h r hr
theorem srt_swap {l m : List GRaw} (h : ∀ a ∈ l, ∀ b ∈ m, a.fTag ≠ b.fTag) : srt (l ++ m) = srt (m ++ l) := by
 refine srt_of (srt_sorted _) fun t => ?_
 rw [srt_filter, List.filter_append, List.filter_append]
 by_cases hl : ∃ a ∈ l, a.fTag = t
 · obtain ⟨a, ha, rfl⟩ := hl
   rw [filter_none (l := m) (t := a.fTag) fun b hb hc => h a ha b hb hc.symm, List.append_nil, List.nil_append]
 · rw [filter_none (l := l) (t := t) fun a ha hc => hl ⟨a, ha, hc⟩, List.append_nil, List.nil_append]
theorem rest_apart {d : Nat} {t : GTree} {L : List GRaw} (hr : rightT (d + 1) t = true) (h3 : t.fKind = 3) (hz : szT (d + 1) t) (hL : rawE (encT d) t.fEntries = some L) : ∀ a ∈ L, ∀ b ∈ t.fRest, a.fTag ≠ b.fTag := by
 obtain ⟨_, he, hb, _, _⟩ := ents_len hr h3
 intro a ha b hb' hc
 obtain ⟨_, e, hm, he'⟩ := rawE_ok (fun e hm => by
  have := entB_mem he e hm
  exact ⟨by omega, this.2.1, fun x hx => (szT_own (hz.2 x (kids_mem hm hx))).1⟩) hL a ha
 exact ((restB_mem hb).1 b hb').2 e hm (he'.symm.trans hc)
theorem rencode_eq : ∀ (d k : Nat) (t : GTree), 2 * d ≤ k → rightT d t = true → t.fKind = 3 → szT d t → ref11_encode k t = some (orBad (encT d t))
 | 0, k, t, _, hr, h3, _ => by
  rcases leaf_kind hr with h | h <;> omega
 | d + 1, k, t, hk, hr, h3, hz => by
  obtain ⟨k', rfl⟩ : ∃ k', k = k' + 2 := ⟨k - 2, by omega⟩
  obtain ⟨hl, he, hb, _, _⟩ := ents_len hr h3
  have hs : ∀ e ∈ t.fEntries, e.fTrees.length ≤ 64 ∧ ∀ x ∈ e.fTrees, (x.fKind = 1 ∨ x.fKind = 2 ∨ x.fKind = 3) ∧ (x.fKind = 3 → ref11_encode k' x = some (orBad (encT d x)) ∧ ∀ b, encT d x = some b → b.length ≤ 4096) := by
   intro e hm
   have h1 := entB_mem he e hm
   refine ⟨h1.2.2.2.1, fun x hx => ?_⟩
   have hrx := (h1.2.2.2.2 x hx).2
   exact ⟨right_kind hrx, fun hx3 => ⟨rencode_eq d k' x (by omega) hrx hx3 (hz.2 x (kids_mem hm hx)), fun b => encT_le⟩⟩
  rw [ref11_encode, ref11_encode.body, ref11_raws, ref11_raws.body, rraws_l8 (enc := encT d) hz.1.2.1 t.fEntries 0 [] hs (by rw [List.length_nil]; omega), encT]
  cases hL : rawE (encT d) t.fEntries with
  | none => rfl
  | some L =>
   have hok := raws_ok hr h3 hz hL
   rw [orBig, Option.bind_some, List.nil_append, srt_swap (rest_apart hr h3 hz hL)]; dsimp only
   rw [if_pos rfl, ref04_PutAll_eq fun r hr => (hok r hr).2, putAll_putB hok, Option.bind_some, Option.bind_some]
theorem ref11_Encode_eq {t : GTree} (hz : szT 10 t) : ref11_Encode t = some (if checkT t = true ∧ t.fKind = 3 then orBad (encT 10 t) else ([], 1)) := by
 rw [ref11_Encode, ref09_Check_eq hz]
 by_cases h3 : t.fKind = 3
 · rw [if_pos h3, Option.bind_some, Option.bind_some]
   by_cases hc : checkT t = true
   · rw [if_neg (by rw [hc]; decide), if_pos ⟨hc, h3⟩, rencode_eq 10 rounds t (by have := rounds_big; omega) (check_right hc).1 h3 hz, Option.bind_some]
   · rw [if_pos (by simpa using hc), if_neg (fun h => hc h.1)]
 · rw [if_neg h3, Option.bind_some, if_pos rfl, if_neg (fun h => h3 h.2)]
theorem rawEqB {r : GRaw} : (!(decide (r.fTag = r.fTag) && (decide (r.fWire = r.fWire) && (decide (r.fN = r.fN) && decide (r.fB = r.fB))))) = false := by simp
theorem sameRaws_l {L : List GRaw} : ∀ (B A : List GRaw), L = A ++ B → law00_SameRaws.l8 L B (A.length : Int) = some true
 | [], A, _ => rfl
 | r :: B, A, h => by
  have ei : idxL L (A.length : Int) = some r := by rw [h]; exact idx_app rfl
  rw [law00_SameRaws.l8, ei, Option.bind_some, rawEqB, if_neg (by decide), show (A.length : Int) + 1 = ((A ++ [r]).length : Int) by rw [List.length_append, List.length_singleton]; omega]
  exact sameRaws_l B (A ++ [r]) (by rw [h, List.append_assoc]; rfl)
theorem sameRaws_refl (l : List GRaw) : law00_SameRaws l l = some true := by
 rw [law00_SameRaws, if_pos rfl]
 exact sameRaws_l l [] rfl
end Go.Proofs.YtaddlmlpeghonaaDoor
