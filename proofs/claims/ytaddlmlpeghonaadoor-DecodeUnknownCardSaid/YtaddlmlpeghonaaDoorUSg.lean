import Derived.Test.YtaddlmlpeghonaaDoorUSf
set_option maxRecDepth 4000
set_option linter.unusedSimpArgs false
set_option linter.unusedVariables false
namespace Go.Proofs.YtaddlmlpeghonaaDoor
open AM
theorem putB_some {l : List GRaw} {b : List UInt8} (h : putB l = some b) : b = rawsB l ∧ b.length ≤ 4096 := by
 unfold putB at h
 split at h
 · cases h
 · cases h; exact ⟨rfl, by omega⟩
theorem encT_le {d : Nat} {t : GTree} {b : List UInt8} (h : encT d t = some b) : b.length ≤ 4096 := by
 cases d with
 | zero => cases h
 | succ d =>
  rw [encT] at h
  obtain ⟨L, _, h⟩ := bind_some h
  exact (putB_some h).2
theorem rawT_ok {d : Nat} {tag : Int} {x : GTree} {r : GRaw} (h1 : 1 ≤ tag) (h2 : tag ≤ 500) (hx : In64 x.fN) (h : rawT (encT d) tag x = some r) : rawOk r ∧ r.fTag = tag := by
 unfold rawT at h
 split at h
 · cases h; exact ⟨⟨check_num h1 h2, hx⟩, rfl⟩
 · split at h
   · split at h
     · cases h
     · cases h; exact ⟨⟨check_text h1 h2 (by omega), in0⟩, rfl⟩
   · obtain ⟨b, hb, h⟩ := bind_some h
     cases h; exact ⟨⟨check_text h1 h2 (encT_le hb), in0⟩, rfl⟩
theorem rawL_ok {d : Nat} {tag : Int} (h1 : 1 ≤ tag) (h2 : tag ≤ 500) : ∀ {l : List GTree} {m : List GRaw}, (∀ x ∈ l, In64 x.fN) → rawL (encT d) tag l = some m → ∀ r ∈ m, rawOk r ∧ r.fTag = tag
 | [], m, _, h, r, hr => by cases h; cases hr
 | x :: l, m, hx, h, r, hr => by
  obtain ⟨a, ha, h⟩ := bind_some h
  obtain ⟨m', hm, h⟩ := bind_some h
  cases h
  rcases List.mem_cons.1 hr with rfl | hr
  · exact rawT_ok h1 h2 (hx x (List.mem_cons_self ..)) ha
  · exact rawL_ok h1 h2 (fun z hz => hx z (List.mem_cons_of_mem _ hz)) hm r hr
theorem rawE_ok {d : Nat} : ∀ {l : List GEntry} {m : List GRaw}, (∀ e ∈ l, 1 ≤ e.fTag ∧ e.fTag ≤ 500 ∧ ∀ x ∈ e.fTrees, In64 x.fN) → rawE (encT d) l = some m → ∀ r ∈ m, rawOk r ∧ ∃ e ∈ l, r.fTag = e.fTag
 | [], m, _, h, r, hr => by cases h; cases hr
 | e :: l, m, hx, h, r, hr => by
  obtain ⟨a, ha, h⟩ := bind_some h
  obtain ⟨m', hm, h⟩ := bind_some h
  cases h
  have he := hx e (List.mem_cons_self ..)
  rcases List.mem_append.1 hr with hr | hr
  · have := rawL_ok he.1 he.2.1 he.2.2 ha r hr
    exact ⟨this.1, e, List.mem_cons_self .., this.2⟩
  · obtain ⟨h1, e', h2, h3⟩ := rawE_ok (fun z hz => hx z (List.mem_cons_of_mem _ hz)) hm r hr
    exact ⟨h1, e', List.mem_cons_of_mem _ h2, h3⟩
theorem szT_own {d : Nat} {t : GTree} (h : szT d t) : ownS t := by
 cases d with
 | zero => exact h
 | succ d => exact h.1
theorem restB_mem {t : GTree} (h : restB t = true) : (∀ r ∈ t.fRest, wire_Check r = true ∧ ∀ e ∈ t.fEntries, e.fTag ≠ r.fTag) ∧ t.fRest.Pairwise TagLe := by
 unfold restB at h
 rw [Bool.and_eq_true] at h
 refine ⟨fun r hr => ?_, risB_iff.1 h.2⟩
 have := List.all_eq_true.1 h.1 r hr
 rw [Bool.and_eq_true, Bool.not_eq_true'] at this
 refine ⟨this.1, fun e he hc => ?_⟩
 have h2 := List.any_eq_false.1 this.2 e he
 exact h2 (decide_eq_true hc)
theorem raws_ok {d : Nat} {t : GTree} {L : List GRaw} (hr : rightT (d + 1) t = true) (h3 : t.fKind = 3) (hz : szT (d + 1) t) (hL : rawE (encT d) t.fEntries = some L) : ∀ r ∈ srt (t.fRest ++ L), rawOk r := by
 obtain ⟨_, he, hb, _, _⟩ := ents_len hr h3
 intro r hm
 rw [srt_mem] at hm
 rcases List.mem_append.1 hm with hm | hm
 · exact ⟨((restB_mem hb).1 r hm).1, hz.1.2.2 r hm⟩
 · exact (rawE_ok (fun e hm => by
    have := entB_mem he e hm
    exact ⟨by omega, this.2.1, fun x hx => (szT_own (hz.2 x (kids_mem hm hx))).1⟩) hL r hm).1
def orBad (o : Option (List UInt8)) : List UInt8 × Int :=
 match o with
 | some b => (b, 0)
 | none => ([], 4)
theorem putAll_putB {l : List GRaw} (h : ∀ r ∈ l, rawOk r) : wire_PutAll l = some (orBad (putB l)) := by
 rw [putAll_eq fun r hr => (h r hr).2, if_pos (List.all_eq_true.2 fun r hr => (h r hr).1), putB]
 split
 · rfl
 · rfl
theorem tags_eq {f : GTree → GValueValue} {E : List GEntry} {rest : List GRaw} (h : E.length ≤ 500) : value_Node_Tags ⟨E.map (entV f), rest⟩ = some (E.map GEntry.fTag) := by
 rw [value_Node_Tags]
 have := tags_l8 (E.map (entV f)) 0 [] (by rw [List.length_nil, List.length_map]; omega)
 rw [this, List.nil_append, List.map_map]; rfl
theorem raws_eq {selfB : GValueNode → Option (List UInt8 × Int)} {selfR : Int → GValueValue → Option (GRaw × Int)} {selfS : GValueNode → Option (List GRaw × Int)} {f : GTree → GValueValue} {enc : GTree → Option (List UInt8)} {E : List GEntry} {rest : List GRaw} (hs : E.Pairwise TagLt) (ht : ∀ e ∈ E, e.fTrees.length ≤ 64 ∧ ∀ x ∈ e.fTrees, selfR e.fTag (f x) = some (match rawT enc e.fTag x with | some r => (r, 0) | none => (⟨0, 0, 0, []⟩, 4))) (hn : E.length ≤ 500) (hr : rest.length ≤ 900000) :
 encode_raws.body selfB selfR selfS ⟨E.map (entV f), rest⟩ = orBig (rawE enc E) fun m => some (srt (rest ++ m), 0) := by
 rw [encode_raws.body, tags_eq hn, value_Node_Rest, slices_Clone_Raw, room_t (by dsimp only; omega), Option.bind_some, Option.bind_some, Option.bind_some, Option.bind_some]
 exact raws_l10 hs ht hn E [] 0 rest rfl (by rw [List.length_nil]; omega)
theorem bytes_eq : ∀ (d k : Nat) (t : GTree) (es : List GValueEntry) (rs : List GRaw), 3 * d ≤ k → rightT d t = true → t.fKind = 3 → szT d t → valT d t = .node es rs → encode_bytes k ⟨es, rs⟩ = some (orBad (encT d t))
 | 0, k, t, es, rs, _, hr, h3, _, _ => by
  rcases leaf_kind hr with h | h <;> omega
 | d + 1, k, t, es, rs, hk, hr, h3, hz, hv => by
  obtain ⟨k', rfl⟩ : ∃ k', k = k' + 3 := ⟨k - 3, by omega⟩
  obtain ⟨hl, he, hb, _, _⟩ := ents_len hr h3
  rw [valT, if_neg (by omega), if_neg (by omega)] at hv
  cases hv
  have hs : ∀ e ∈ t.fEntries, e.fTrees.length ≤ 64 ∧ ∀ x ∈ e.fTrees, encode_raw (k' + 1) e.fTag (valT d x) = some (match rawT (encT d) e.fTag x with | some r => (r, 0) | none => (⟨0, 0, 0, []⟩, 4)) := by
   intro e hm
   have h1 := entB_mem he e hm
   refine ⟨h1.2.2.2.1, fun x hx => ?_⟩
   have hrx := (h1.2.2.2.2 x hx).2
   have hzx := hz.2 x (kids_mem hm hx)
   rw [encode_raw, encode_raw.body, rawT]
   rcases right_kind hrx with h | h | h
   · have hv : valT d x = .num x.fN := by cases d <;> rw [valT, if_pos h]
     rw [hv, if_pos h]; rfl
   · have hv : valT d x = .str x.fS := by cases d <;> rw [valT, if_neg (by omega), if_pos h]
     rw [hv, if_neg (by omega), if_pos h, show encode_kept (.str x.fS) = some (.str x.fS) from rfl, Option.bind_some]
     dsimp only
     rw [encode_raw.j3]
     by_cases hc : 4096 < x.fS.length
     · rw [if_pos hc, if_pos (by dsimp only; omega)]
     · rw [if_neg hc, if_neg (by dsimp only; omega)]
   · have h1' : ¬ x.fKind = 1 := by omega
     have h2' : ¬ x.fKind = 2 := by omega
     obtain ⟨es, rs, hv⟩ : ∃ es rs, valT d x = .node es rs := by cases d <;> exact ⟨_, _, by rw [valT, if_neg h1', if_neg h2']⟩
     rw [hv, if_neg h1', if_neg h2', show encode_kept (.node es rs) = some (.node es rs) from rfl, Option.bind_some]
     dsimp only
     rw [bytes_eq d k' x es rs (by omega) hrx h hzx hv, Option.bind_some]
     cases hx' : encT d x with
     | none => rfl
     | some b =>
      have hbl := encT_le hx'
      rw [orBad]; dsimp only
      rw [if_pos rfl, encode_raw.j3, if_neg (by dsimp only; omega), Option.bind_some]
  have hR : encode_raws (k' + 2) ⟨t.fEntries.map fun e => ⟨e.fTag, e.fTrees.map (valT d)⟩, t.fRest⟩ = orBig (rawE (encT d) t.fEntries) fun m => some (srt (t.fRest ++ m), 0) := by
   rw [encode_raws]
   exact raws_eq (f := valT d) (entB_sorted he) hs hl hz.1.2.1
  rw [encode_bytes, encode_bytes.body, hR, encT]
  cases hL : rawE (encT d) t.fEntries with
  | none => rfl
  | some L =>
   rw [orBig, Option.bind_some]; dsimp only
   rw [if_pos rfl, putAll_putB (raws_ok hr h3 hz hL), Option.bind_some, Option.bind_some]
theorem rawE_eq {d k : Nat} {t : GTree} (hk : 3 * d + 2 ≤ k) (hr : rightT (d + 1) t = true) (h3 : t.fKind = 3) (hz : szT (d + 1) t) : encode_raws k ⟨t.fEntries.map (entV (valT d)), t.fRest⟩ = orBig (rawE (encT d) t.fEntries) fun m => some (srt (t.fRest ++ m), 0) := by
 obtain ⟨k', rfl⟩ : ∃ k', k = k' + 2 := ⟨k - 2, by omega⟩
 obtain ⟨hl, he, hb, _, _⟩ := ents_len hr h3
 rw [encode_raws]
 refine raws_eq (f := valT d) (entB_sorted he) ?_ hl hz.1.2.1
 intro e hm
 have h1 := entB_mem he e hm
 refine ⟨h1.2.2.2.1, fun x hx => ?_⟩
 have hrx := (h1.2.2.2.2 x hx).2
 have hzx := hz.2 x (kids_mem hm hx)
 rw [encode_raw, encode_raw.body, rawT]
 rcases right_kind hrx with h | h | h
 · have hv : valT d x = .num x.fN := by cases d <;> rw [valT, if_pos h]
   rw [hv, if_pos h]; rfl
 · have hv : valT d x = .str x.fS := by cases d <;> rw [valT, if_neg (by omega), if_pos h]
   rw [hv, if_neg (by omega), if_pos h, show encode_kept (.str x.fS) = some (.str x.fS) from rfl, Option.bind_some]
   dsimp only
   rw [encode_raw.j3]
   by_cases hc : 4096 < x.fS.length
   · rw [if_pos hc, if_pos (by dsimp only; omega)]
   · rw [if_neg hc, if_neg (by dsimp only; omega)]
 · have h1' : ¬ x.fKind = 1 := by omega
   have h2' : ¬ x.fKind = 2 := by omega
   obtain ⟨es, rs, hv⟩ : ∃ es rs, valT d x = .node es rs := by cases d <;> exact ⟨_, _, by rw [valT, if_neg h1', if_neg h2']⟩
   rw [hv, if_neg h1', if_neg h2', show encode_kept (.node es rs) = some (.node es rs) from rfl, Option.bind_some]
   dsimp only
   rw [bytes_eq d k' x es rs (by omega) hrx h hzx hv, Option.bind_some]
   cases hx' : encT d x with
   | none => rfl
   | some b =>
    have hbl := encT_le hx'
    rw [orBad]; dsimp only
    rw [if_pos rfl, encode_raw.j3, if_neg (by dsimp only; omega), Option.bind_some]
theorem check_right {t : GTree} (h : checkT t = true) : rightT 10 t = true ∧ depT 101 t ≤ 10 := by
 unfold checkT at h
 rw [Bool.and_eq_true, decide_eq_true_eq] at h
 exact ⟨h.2, h.1⟩
theorem Raws_eq {t : GTree} (hz : szT 10 t) : encode_Raws t = some (if checkT t = true ∧ t.fKind = 3 then (match rawE (encT 9) t.fEntries with | some L => (srt (t.fRest ++ L), (0 : Int)) | none => ([], 4)) else ([], 1)) := by
 rw [encode_Raws, of_eq hz, Option.bind_some]
 by_cases hc : checkT t = true
 · rw [if_pos hc]
   by_cases h3 : t.fKind = 3
   · rw [if_neg (by rw [decide_eq_true h3]; exact Bool.false_ne_true), if_pos ⟨hc, h3⟩]
     have hv : valT 10 t = .node (t.fEntries.map (entV (valT 9))) t.fRest := by rw [valT, if_neg (by omega), if_neg (by omega)]; rfl
     rw [hv, show value_Value_MustNode (.node (t.fEntries.map (entV (valT 9))) t.fRest) = some ⟨t.fEntries.map (entV (valT 9)), t.fRest⟩ from rfl, Option.bind_some, rawE_eq (d := 9) (by have := rounds_big; omega) (check_right hc).1 h3 hz]
     cases rawE (encT 9) t.fEntries <;> rfl
   · rw [if_pos (by rw [decide_eq_false h3]; rfl), if_neg (fun h => h3 h.2)]
 · rw [if_neg hc, if_pos (by rfl), if_neg (fun h => hc h.1)]
theorem Encode_eq {t : GTree} (hz : szT 10 t) : encode_Encode t = some (if checkT t = true ∧ t.fKind = 3 then orBad (encT 10 t) else ([], 1)) := by
 rw [encode_Encode, Raws_eq hz, Option.bind_some]
 by_cases hc : checkT t = true ∧ t.fKind = 3
 · rw [if_pos hc, if_pos hc, encT]
   cases hL : rawE (encT 9) t.fEntries with
   | none => rfl
   | some L =>
    dsimp only
    rw [if_pos rfl, putAll_putB (raws_ok (check_right hc.1).1 hc.2 hz hL), Option.bind_some, Option.bind_some]
 · rw [if_neg hc, if_neg hc]; rfl
end Go.Proofs.YtaddlmlpeghonaaDoor
