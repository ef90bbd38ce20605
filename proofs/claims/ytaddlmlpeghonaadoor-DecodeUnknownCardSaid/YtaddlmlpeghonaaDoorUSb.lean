import Derived.Test.YtaddlmlpeghonaaDoorUSa
set_option maxRecDepth 4000
set_option linter.unusedSimpArgs false
set_option linter.unusedVariables false
namespace Go.Proofs.YtaddlmlpeghonaaDoor
open AM
def In64 (n : Int) : Prop := -9223372036854775808 ≤ n ∧ n < 9223372036854775808
def zg (n : Int) : Nat := if 0 ≤ n then (2 * n).toNat else (-2 * n - 1).toNat
def zu (v : Nat) : Int := if v % 2 = 0 then ((v / 2 : Nat) : Int) else -((v / 2 : Nat) : Int) - 1
theorem zg_lt {n : Int} (h : In64 n) : zg n < 2 ^ 64 := by
 unfold zg; obtain ⟨h1, h2⟩ := h; split <;> omega
theorem zu_zg (n : Int) : zu (zg n) = n := by
 unfold zg zu; split <;> split <;> omega
theorem zg_zu (v : Nat) : zg (zu v) = v := by
 unfold zg zu; split <;> split <;> omega
theorem zu_in {v : Nat} (h : v < 2 ^ 64) : In64 (zu v) := by
 unfold zu In64; split <;> omega
theorem bvm1 : BitVec.ofInt 64 (-1) = BitVec.allOnes 64 := by decide
theorem bv0 : BitVec.ofInt 64 0 = 0#64 := by decide
theorem fdiv2 (n : Int) (k : Nat) : Int.fdiv n (2 ^ k) = n / (2 ^ k) := Int.fdiv_eq_ediv_of_nonneg _ (Int.le_of_lt (Int.pow_pos (by decide)))
theorem vint_Zig_eq {n : Int} (h : In64 n) : vint_Zig n = (zg n : Int) := by
 obtain ⟨h1, h2⟩ := h
 unfold vint_Zig zg
 rw [show min (Int.toNat 1) 64 = 1 from rfl, show min (Int.toNat 63) 64 = 63 from rfl, fdiv2]
 by_cases h0 : 0 ≤ n
 · have e : n / 2 ^ 63 = 0 := Int.ediv_eq_zero_of_lt h0 (by omega)
   rw [if_pos h0, e, show IntKind.u64.wrap 0 = 0 from by rw [IntKind.wrap_u64]; rfl, bv0, BitVec.xor_zero]
   have e2 : IntKind.u64.wrap (IntKind.u64.wrap n * 2 ^ 1) = (((2 * n).toNat : Nat) : Int) := by rw [IntKind.wrap_u64, IntKind.wrap_u64]; omega
   rw [e2, bv64 (by omega), u64w (by omega)]
 · have e : n / 2 ^ 63 = -1 := by omega
   have e1 : IntKind.u64.wrap (-1) = 18446744073709551615 := by rw [IntKind.wrap_u64]; rfl
   have e3 : BitVec.ofInt 64 18446744073709551615 = BitVec.allOnes 64 := by decide
   rw [if_neg h0, e, e1, e3, BitVec.xor_allOnes, BitVec.toNat_not]
   have e2 : IntKind.u64.wrap (IntKind.u64.wrap n * 2 ^ 1) = (((2 * n + 18446744073709551616).toNat : Nat) : Int) := by rw [IntKind.wrap_u64, IntKind.wrap_u64]; omega
   rw [e2, bv64 (by omega), u64w (by omega)]
   omega
theorem vint_Zag_eq {v : Nat} (h : v < 2 ^ 64) : vint_Zag (v : Int) = zu v := by
 unfold vint_Zag zu
 rw [show min (Int.toNat 1) 64 = 1 from rfl, fdiv2]
 have ea : (BitVec.ofInt 64 (v : Int) &&& BitVec.ofInt 64 1).toNat = v % 2 := by
  rw [BitVec.toNat_and, bv64 h, show (BitVec.ofInt 64 1).toNat = 1 from by decide, Nat.and_one_is_mod]
 have e1 : IntKind.i64.wrap ((v : Int) / 2 ^ 1) = ((v / 2 : Nat) : Int) := by rw [i64_in (by omega) (by omega)]; omega
 rw [ea, e1, u64w (n := v % 2) (by omega)]
 by_cases h0 : v % 2 = 0
 · rw [if_pos h0, h0]
   have e2 : IntKind.i64.wrap (0 - IntKind.i64.wrap ((0 : Nat) : Int)) = 0 := by decide
   rw [e2, bv0, BitVec.xor_zero, bv64 (by omega), i64_in (by omega) (by omega)]
 · have h1 : v % 2 = 1 := by omega
   rw [if_neg h0, h1]
   have e2 : IntKind.i64.wrap (0 - IntKind.i64.wrap ((1 : Nat) : Int)) = -1 := by decide
   rw [e2, bvm1, BitVec.xor_allOnes, BitVec.toNat_not, bv64 (by omega), IntKind.wrap_i64]
   omega
def rawOk (r : GRaw) : Prop := wire_Check r = true ∧ In64 r.fN
def keyN (r : GRaw) : Nat := (2 * r.fTag + r.fWire).toNat
def rawB (r : GRaw) : List UInt8 := vb (keyN r) ++ (if r.fWire = 0 then vb (zg r.fN) else vb r.fB.length ++ r.fB)
def rawsB (l : List GRaw) : List UInt8 := l.flatMap rawB
theorem check_cases {r : GRaw} (h : wire_Check r = true) : 1 ≤ r.fTag ∧ r.fTag ≤ 500 ∧ ((r.fWire = 0 ∧ r.fB = []) ∨ (r.fWire = 1 ∧ r.fN = 0 ∧ r.fB.length ≤ 4096)) := by
 unfold wire_Check at h
 split at h
 · cases h
 · rename_i h1
   simp only [Bool.or_eq_true, decide_eq_true_eq, not_or] at h1
   refine ⟨by omega, by omega, ?_⟩
   split at h
   · left; exact ⟨‹_›, by simpa using h⟩
   · split at h
     · right
       simp only [Bool.and_eq_true, decide_eq_true_eq] at h
       exact ⟨‹_›, h.1, by omega⟩
     · cases h
theorem check_num {t n : Int} (h1 : 1 ≤ t) (h2 : t ≤ 500) : wire_Check ⟨t, 0, n, []⟩ = true := by
 unfold wire_Check
 rw [if_neg (by simp only [Bool.or_eq_true, decide_eq_true_eq]; omega)]; rfl
theorem check_text {t : Int} {s : List UInt8} (h1 : 1 ≤ t) (h2 : t ≤ 500) (h3 : s.length ≤ 4096) : wire_Check ⟨t, 1, 0, s⟩ = true := by
 unfold wire_Check
 rw [if_neg (by simp only [Bool.or_eq_true, decide_eq_true_eq]; omega)]
 simp only [decide_true, Bool.true_and]
 rw [if_neg (by decide), if_pos trivial]; exact decide_eq_true (by omega)
theorem rawB_pos (r : GRaw) : 2 ≤ (rawB r).length := by
 unfold rawB
 have h1 := vb_pos (keyN r)
 have h2 := vb_pos (zg r.fN)
 have h3 := vb_pos r.fB.length
 split <;> simp only [List.length_append] <;> omega
theorem rawB_le {r : GRaw} (h : rawOk r) : (rawB r).length ≤ 4116 := by
 obtain ⟨hc, hn⟩ := h
 obtain ⟨h1, h2, h3⟩ := check_cases hc
 unfold rawB keyN
 have k1 : (vb (2 * r.fTag + r.fWire).toNat).length ≤ 10 := vb_len10 (by omega)
 have k2 : (vb (zg r.fN)).length ≤ 10 := vb_len10 (zg_lt hn)
 rcases h3 with ⟨h3, h4⟩ | ⟨h3, h4, h5⟩
 · rw [if_pos h3, List.length_append]; omega
 · have k3 : (vb r.fB.length).length ≤ 10 := vb_len10 (by omega)
   rw [if_neg (by omega), List.length_append, List.length_append]; omega
theorem wire_Put_eq {a : List UInt8} {r : GRaw} (h : rawOk r) (ha : a.length ≤ 1000000) : wire_Put a r = some (a ++ rawB r, true) := by
 obtain ⟨hc, hn⟩ := h
 obtain ⟨h1, h2, h3⟩ := check_cases hc
 unfold wire_Put bnd
 rw [hc]; simp only []
 have ek : IntKind.u64.wrap (IntKind.i64.wrap ((IntKind.i64.wrap (2 * r.fTag)) + r.fWire)) = ((keyN r : Nat) : Int) := by
  rw [i64_in (x := 2 * r.fTag) (by omega) (by omega), i64_in (by omega) (by omega), u64i (by omega) (by omega), keyN]; omega
 have k1 : keyN r < 2 ^ 64 := by unfold keyN; omega
 have kl := vb_len10 k1
 rw [if_neg (by decide), ek, vint_Put_eq a k1 (by omega), Option.bind_some]
 rcases h3 with ⟨h3, h4⟩ | ⟨h3, h4, h5⟩
 · rw [if_pos h3, vint_Zig_eq hn, vint_Put_eq _ (zg_lt hn) (by rw [List.length_append]; omega), Option.bind_some, rawB, if_pos h3, List.append_assoc]
 · have hb := vb_len10 (n := r.fB.length) (by omega)
   rw [if_neg (by omega), u64w (by omega), vint_Put_eq _ (by omega) (by rw [List.length_append]; omega), Option.bind_some, room_t (by simp only [List.length_append]; omega), Option.bind_some, rawB, if_neg (by omega)]
   simp only [List.append_assoc]
theorem putAll_l11 : ∀ (q : List GRaw) (x : Int) (acc : List UInt8), (∀ r ∈ q, rawOk r) → acc.length ≤ 4096 → wire_PutAll.l11 q x acc = some (if 4096 < (acc ++ rawsB q).length then ([], 4) else (acc ++ rawsB q, 0))
 | [], x, acc, _, ha => by
  rw [wire_PutAll.l11, rawsB, List.flatMap_nil, List.append_nil, if_neg (by omega)]
 | r :: q, x, acc, h, ha => by
  have hr := h r (List.mem_cons_self ..)
  rw [wire_PutAll.l11, wire_Put_eq hr (by omega), Option.bind_some]; dsimp only
  have e : acc ++ rawsB (r :: q) = (acc ++ rawB r) ++ rawsB q := by rw [rawsB, List.flatMap_cons, List.append_assoc]; rfl
  rw [e]
  by_cases h1 : 4096 < (acc ++ rawB r).length
  · rw [if_pos (by omega), if_pos (by rw [List.length_append]; omega)]
  · rw [if_neg (by omega), putAll_l11 q (x + 1) _ (fun s hs => h s (List.mem_cons_of_mem _ hs)) (by omega)]
theorem putAll_l4 (a : List GRaw) : ∀ (q : List GRaw) (x : Int), wire_PutAll.l4 a q x = if q.all wire_Check then wire_PutAll.l11 a 0 [] else some ([], 1)
 | [], x => by rw [wire_PutAll.l4]; rfl
 | r :: q, x => by
  rw [wire_PutAll.l4, bnd, List.all_cons]
  by_cases h : wire_Check r = true
  · rw [h, if_neg (by decide), putAll_l4 a q]; rfl
  · rw [if_pos (by simpa using h), if_neg (by rw [Bool.and_eq_true]; exact fun hh => h hh.1)]
theorem putAll_eq {l : List GRaw} (h : ∀ r ∈ l, In64 r.fN) : wire_PutAll l = some (if l.all wire_Check then (if 4096 < (rawsB l).length then ([], 4) else (rawsB l, 0)) else ([], 1)) := by
 rw [wire_PutAll, putAll_l4]
 by_cases h1 : l.all wire_Check = true
 · rw [if_pos h1, if_pos h1, putAll_l11 l 0 [] (fun r hr => ⟨List.all_eq_true.1 h1 r hr, h r hr⟩) (by decide)]; rfl
 · rw [if_neg h1, if_neg h1]
theorem putAll_ok {l : List GRaw} (h : ∀ r ∈ l, rawOk r) (hb : (rawsB l).length ≤ 4096) : wire_PutAll l = some (rawsB l, 0) := by
 rw [putAll_eq fun r hr => (h r hr).2, if_pos (List.all_eq_true.2 fun r hr => (h r hr).1), if_neg (by omega)]
theorem drop_add_of {b x post : List UInt8} {n : Nat} (h : b.drop n = x ++ post) : b.drop (n + x.length) = post := by
 rw [← List.drop_drop, h, List.drop_left' rfl]
theorem drop_len {b x post : List UInt8} {n : Nat} (hn : n ≤ b.length) (h : b.drop n = x ++ post) : n + x.length + post.length = b.length := by
 have := congrArg List.length h
 rw [List.length_drop, List.length_append] at this; omega
theorem one_ok {b post : List UInt8} {n : Nat} {r : GRaw} (hb : b.length ≤ 4096) (hn : n ≤ b.length) (h : b.drop n = rawB r ++ post) (hr : rawOk r) : wire_one b (n : Int) = some (r, ((n + (rawB r).length : Nat) : Int), 0) := by
 obtain ⟨hc, hN⟩ := hr
 obtain ⟨h1, h2, h3⟩ := check_cases hc
 have k1 : keyN r < 2 ^ 64 := by unfold keyN; omega
 rw [rawB, List.append_assoc] at h
 have hl := drop_len hn h
 unfold wire_one
 rw [get_ok hb hn h k1, Option.bind_some]
 have hk : keyN r = (2 * r.fTag + r.fWire).toNat := rfl
 have d1 : ((keyN r : Nat) : Int).tdiv 2 = r.fTag := by rw [Int.tdiv_eq_ediv_of_nonneg (by omega), hk]; rcases h3 with h3 | h3 <;> omega
 have d2 : ((keyN r : Nat) : Int).tmod 2 = r.fWire := by rw [Int.tmod_eq_emod_of_nonneg (by omega), hk]; rcases h3 with h3 | h3 <;> omega
 simp only [d1, d2]
 rw [if_pos trivial, if_neg (by rw [u64i (by omega) (by omega)]; simp only [Bool.or_eq_true, decide_eq_true_eq]; omega), u64i (x := r.fTag) (by omega) (by omega), i64_in (x := r.fTag) (by omega) (by omega), i64_in (x := r.fWire) (by omega) (by omega)]
 have h' := drop_add_of h
 rcases h3 with ⟨h3, h4⟩ | ⟨h3, h4, h5⟩
 · rw [if_pos h3] at h'
   rw [get_ok hb (by omega) h' (zg_lt hN), Option.bind_some]
   simp only []
   rw [if_pos trivial, if_pos h3, bnd, vint_Zag_eq (zg_lt hN), zu_zg, rawB, if_pos h3]
   have e : r = ⟨r.fTag, r.fWire, r.fN, []⟩ := by cases r; simp only at h4; subst h4; rfl
   rw [← e, List.length_append, Nat.add_assoc]
 · rw [if_neg (by omega)] at h' hl
   rw [List.append_assoc] at h'
   have hl' := drop_len (by omega) h'
   rw [List.length_append] at hl'
   rw [get_ok hb (by omega) h' (show r.fB.length < 2 ^ 64 by omega), Option.bind_some]
   simp only []
   have h'' := drop_add_of h'
   have e1 : IntKind.i64.wrap ((b.length : Int) - ((n + (vb (keyN r)).length + (vb r.fB.length).length : Nat) : Int)) = ((r.fB.length + post.length : Nat) : Int) := by rw [i64_in (by omega) (by omega)]; omega
   have e2 : IntKind.i64.wrap (r.fB.length : Int) = (r.fB.length : Int) := i64_in (by omega) (by omega)
   have e3 : IntKind.i64.wrap (((n + (vb (keyN r)).length + (vb r.fB.length).length : Nat) : Int) + (r.fB.length : Int)) = ((n + (vb (keyN r)).length + (vb r.fB.length).length + r.fB.length : Nat) : Int) := by rw [i64_in (by omega) (by omega)]; omega
   rw [if_pos trivial, if_neg (by omega), e1, u64w (by omega), if_neg (by omega), e2, e3, grd_t (by omega), Option.bind_some, cutL, Int.toNat_natCast, Int.toNat_natCast, h'', Nat.add_sub_cancel_left, List.take_left' rfl, rawB, if_neg (by omega), List.length_append, List.length_append]
   have e : r = ⟨r.fTag, r.fWire, 0, r.fB⟩ := by cases r; simp only at h4; subst h4; rfl
   rw [← e, show n + (vb (keyN r)).length + (vb r.fB.length).length + r.fB.length = n + ((vb (keyN r)).length + ((vb r.fB.length).length + r.fB.length)) by omega]
theorem one_inv {b : List UInt8} {n : Nat} (hb : b.length ≤ 4096) (hn : n ≤ b.length) : ∃ r, wire_one b (n : Int) = some r ∧
 (r.2.2 = 0 → ∃ x post, b.drop n = rawB x ++ post ∧ rawOk x ∧ r = (x, ((n + (rawB x).length : Nat) : Int), 0)) ∧ 0 ≤ r.2.2 := by
 obtain ⟨r1, e1, i1, p1⟩ := get_inv hb hn
 by_cases z1 : r1.2.2 = 0
 · obtain ⟨v, post, hd, hv, rfl⟩ := i1 z1
   have hl := drop_len hn hd
   have hd' := drop_add_of hd
   by_cases c1 : (decide ((v : Int) < 2) || decide ((500 : Int) < IntKind.u64.wrap ((v : Int).tdiv 2))) = true
   · refine ⟨_, by unfold wire_one; rw [e1, Option.bind_some, if_pos rfl, if_pos c1], ?_, by decide⟩
     intro h; exact absurd h (by decide)
   · have c1' := c1
     simp only [Bool.or_eq_true, decide_eq_true_eq, not_or] at c1
     obtain ⟨c2, c3⟩ := c1
     have d1 : (v : Int).tdiv 2 = ((v / 2 : Nat) : Int) := by rw [Int.tdiv_eq_ediv_of_nonneg (by omega)]; omega
     have d2 : (v : Int).tmod 2 = ((v % 2 : Nat) : Int) := by rw [Int.tmod_eq_emod_of_nonneg (by omega)]; omega
     rw [d1, u64w (by omega)] at c3
     obtain ⟨r2, e2, i2, p2⟩ := get_inv hb (n := n + (vb v).length) (by omega)
     by_cases z2 : r2.2.2 = 0
     · obtain ⟨w, post2, hd2, hw, rfl⟩ := i2 z2
       have hl2 := drop_len (by omega) hd2
       by_cases c4 : v % 2 = 0
       · have ok : rawOk ⟨((v / 2 : Nat) : Int), 0, zu w, []⟩ := ⟨check_num (by omega) (by omega), zu_in hw⟩
         have hkey : keyN ⟨((v / 2 : Nat) : Int), 0, zu w, []⟩ = v := by unfold keyN; simp only []; omega
         have hdr : b.drop n = rawB ⟨((v / 2 : Nat) : Int), 0, zu w, []⟩ ++ post2 := by
          rw [rawB, hkey, if_pos rfl]; simp only [zg_zu]; rw [hd, ← hd', hd2, List.append_assoc]
         refine ⟨_, one_ok hb hn hdr ok, ?_, Int.le_refl 0⟩
         intro _; exact ⟨_, _, hdr, ok, rfl⟩
       · have c5 : v % 2 = 1 := by omega
         by_cases c6 : w ≤ post2.length
         · have ok : rawOk ⟨((v / 2 : Nat) : Int), 1, 0, post2.take w⟩ := ⟨check_text (by omega) (by omega) (by rw [List.length_take]; omega), (show In64 0 from ⟨by decide, by decide⟩)⟩
           have hkey : keyN ⟨((v / 2 : Nat) : Int), 1, 0, post2.take w⟩ = v := by unfold keyN; simp only []; omega
           have hdr : b.drop n = rawB ⟨((v / 2 : Nat) : Int), 1, 0, post2.take w⟩ ++ post2.drop w := by
            rw [rawB, hkey, if_neg (show ¬ (1 : Int) = 0 by decide)]
            simp only [List.length_take, Nat.min_eq_left c6]
            rw [hd, ← hd', hd2, List.append_assoc, List.append_assoc, List.take_append_drop]
           refine ⟨_, one_ok hb hn hdr ok, ?_, Int.le_refl 0⟩
           intro _; exact ⟨_, _, hdr, ok, rfl⟩
         · have e3 : IntKind.i64.wrap ((b.length : Int) - ((n + (vb v).length + (vb w).length : Nat) : Int)) = ((post2.length : Nat) : Int) := by rw [i64_in (by omega) (by omega)]; omega
           refine ⟨_, by unfold wire_one; rw [e1, Option.bind_some, if_pos rfl, if_neg c1', e2, Option.bind_some, if_pos rfl, d2, if_neg (by rw [i64_in (by omega) (by omega)]; omega), e3, u64w (by omega), if_pos (by omega)], ?_, by decide⟩
           intro h; exact absurd h (by decide)
     · refine ⟨_, by unfold wire_one; rw [e1, Option.bind_some, if_pos rfl, if_neg c1', e2, Option.bind_some, if_neg z2], ?_, p2⟩
       intro h; exact absurd h z2
 · refine ⟨_, by unfold wire_one; rw [e1, Option.bind_some, if_neg z1], ?_, p1⟩
   intro h; exact absurd h z1
theorem rawsB_cons (r : GRaw) (l : List GRaw) : rawsB (r :: l) = rawB r ++ rawsB l := by rw [rawsB, List.flatMap_cons]; rfl
theorem get_l_ok {b : List UInt8} (hb : b.length ≤ 4096) : ∀ (l : List GRaw) (k n : Nat) (acc : List GRaw), n ≤ b.length → b.drop n = rawsB l → (∀ r ∈ l, rawOk r) → 2 * acc.length ≤ n → b.length < k + n →
 wire_Get.l12 b k acc (n : Int) = some (acc ++ l, 0)
 | l, 0, n, acc, hn, _, _, _, hk => by omega
 | [], k + 1, n, acc, hn, hd, _, _, hk => by
  have := congrArg List.length hd
  rw [List.length_drop, rawsB, List.flatMap_nil, List.length_nil] at this
  rw [wire_Get.l12, if_neg (by omega), List.append_nil]
 | r :: l, k + 1, n, acc, hn, hd, hr, ha, hk => by
  rw [rawsB_cons] at hd
  have hl := drop_len hn hd
  have h2 := rawB_pos r
  rw [wire_Get.l12, if_pos (by omega), one_ok hb hn hd (hr r (List.mem_cons_self ..)), Option.bind_some, if_pos rfl, room_t (by omega), Option.bind_some]
  rw [get_l_ok hb l k (n + (rawB r).length) (acc ++ [r]) (by omega) (drop_add_of hd) (fun s hs => hr s (List.mem_cons_of_mem _ hs)) (by rw [List.length_append, List.length_singleton]; omega) (by omega), List.append_assoc]; rfl
theorem get_l_inv {b : List UInt8} (hb : b.length ≤ 4096) : ∀ (k n : Nat) (acc : List GRaw), n ≤ b.length → 2 * acc.length ≤ n → b.length < k + n →
 ∃ r, wire_Get.l12 b k acc (n : Int) = some r ∧ (r.2 = 0 → ∃ l, b.drop n = rawsB l ∧ (∀ r ∈ l, rawOk r) ∧ r = (acc ++ l, 0)) ∧ 0 ≤ r.2 ∧ (r.2 ≠ 0 → r.1 = [])
 | 0, n, acc, hn, _, hk => by omega
 | k + 1, n, acc, hn, ha, hk => by
  by_cases h : n < b.length
  · obtain ⟨r1, e1, i1, p1⟩ := one_inv hb hn
    by_cases z1 : r1.2.2 = 0
    · obtain ⟨x, post, hd, ok, rfl⟩ := i1 z1
      have hl := drop_len hn hd
      have h2 := rawB_pos x
      obtain ⟨r2, e2, i2, p2⟩ := get_l_inv hb k (n + (rawB x).length) (acc ++ [x]) (by omega) (by rw [List.length_append, List.length_singleton]; omega) (by omega)
      refine ⟨r2, by rw [wire_Get.l12, if_pos (by omega), e1, Option.bind_some, if_pos rfl, room_t (by omega), Option.bind_some]; exact e2, ?_, p2⟩
      intro hz
      obtain ⟨l, hd2, hok, rfl⟩ := i2 hz
      refine ⟨x :: l, ?_, ?_, by rw [List.append_assoc]; rfl⟩
      · rw [rawsB_cons, hd, ← hd2, drop_add_of hd]
      · intro s hs
        rcases List.mem_cons.1 hs with rfl | hs
        · exact ok
        · exact hok s hs
    · refine ⟨_, by rw [wire_Get.l12, if_pos (by omega), e1, Option.bind_some, if_neg z1], fun h => absurd h z1, p1, fun _ => rfl⟩
  · refine ⟨_, by rw [wire_Get.l12, if_neg (by omega)], fun _ => ⟨[], ?_, (fun r hr => by cases hr), by rw [List.append_nil]⟩, Int.le_refl 0, fun h => absurd rfl h⟩
    rw [List.drop_eq_nil_of_le (by omega)]; rfl
theorem get_rounds : 4097 ≤ rounds := by decide
theorem wire_Get_ok {l : List GRaw} (h : ∀ r ∈ l, rawOk r) (hb : (rawsB l).length ≤ 4096) : wire_Get (rawsB l) = some (l, 0) := by
 rw [wire_Get, if_neg (by omega)]
 have := get_l_ok hb l rounds 0 [] (Nat.zero_le _) rfl h (Nat.le_refl _) (by have := get_rounds; omega)
 simpa using this
theorem wire_Get_inv (b : List UInt8) : ∃ r, wire_Get b = some r ∧ (r.2 = 0 → b = rawsB r.1 ∧ b.length ≤ 4096 ∧ ∀ x ∈ r.1, rawOk x) ∧ 0 ≤ r.2 ∧ (r.2 ≠ 0 → r.1 = []) := by
 by_cases hb : b.length ≤ 4096
 · obtain ⟨r, e, i, p, q⟩ := get_l_inv hb rounds 0 [] (Nat.zero_le _) (Nat.le_refl _) (by have := get_rounds; omega)
   refine ⟨r, by rw [wire_Get, if_neg (by omega)]; exact e, ?_, p, q⟩
   intro hz
   obtain ⟨l, hd, ok, rfl⟩ := i hz
   exact ⟨hd, hb, ok⟩
 · refine ⟨_, by rw [wire_Get, if_pos (by omega)], fun h => absurd h (by decide), by decide, fun _ => rfl⟩
end Go.Proofs.YtaddlmlpeghonaaDoor
