import Derived.Test.YtaddlmlpeghonaaDoorUFB
set_option maxRecDepth 4000
set_option linter.unusedSimpArgs false
set_option linter.unusedVariables false
namespace Go.Proofs.YtaddlmlpeghonaaDoor
open AM
def vb (n : Nat) : List UInt8 := if h : n < 128 then [UInt8.ofNat n] else UInt8.ofNat (n % 128 + 128) :: vb (n / 128)
termination_by n
decreasing_by omega
theorem vb_lt {n : Nat} (h : n < 128) : vb n = [UInt8.ofNat n] := by rw [vb, dif_pos h]
theorem vb_ge {n : Nat} (h : ¬ n < 128) : vb n = UInt8.ofNat (n % 128 + 128) :: vb (n / 128) := by rw [vb, dif_neg h]
theorem vb_pos (n : Nat) : 0 < (vb n).length := by
 by_cases h : n < 128
 · rw [vb_lt h]; exact Nat.one_pos
 · rw [vb_ge h, List.length_cons]; omega
theorem vb_len : ∀ (k n : Nat), n < 2 ^ (7 * (k + 1)) → (vb n).length ≤ k + 1
 | 0, n, h => by rw [vb_lt (by simpa using h)]; exact Nat.le_refl _
 | k + 1, n, h => by
  by_cases h1 : n < 128
  · rw [vb_lt h1, List.length_cons, List.length_nil]; omega
  · rw [vb_ge h1, List.length_cons]
    have := vb_len k (n / 128) (by
     have e : 2 ^ (7 * (k + 1 + 1)) = 128 * 2 ^ (7 * (k + 1)) := by rw [show 7 * (k + 1 + 1) = 7 + 7 * (k + 1) by omega, Nat.pow_add]
     rw [e] at h
     exact Nat.div_lt_of_lt_mul h)
    omega
theorem vb_len10 {n : Nat} (h : n < 2 ^ 64) : (vb n).length ≤ 10 := vb_len 9 n (Nat.lt_of_lt_of_le h (by decide))
theorem grd_t {p : Prop} [Decidable p] (h : p) : grd p = some () := if_pos h
theorem room_t {n b : Nat} (h : n * b ≤ 140737488355328) : room n b = some () := if_pos h
theorem u64w {n : Nat} (h : n < 2 ^ 64) : IntKind.u64.wrap (n : Int) = (n : Int) := by rw [IntKind.wrap_u64]; omega
theorem u64i {x : Int} (h : 0 ≤ x) (h' : x < 18446744073709551616) : IntKind.u64.wrap x = x := by rw [IntKind.wrap_u64]; omega
theorem u8w (n : Nat) : IntKind.u8.wrap (n : Int) = ((n % 256 : Nat) : Int) := by
 simp only [IntKind.wrap, IntKind.bits, IntKind.signed, Bool.false_and]
 simp
theorem ofNat_toNat8 (n : Nat) (h : n < 256) : (UInt8.ofNat n).toNat = n := by
 rw [UInt8.toNat_ofNat']; omega
theorem or128 : ∀ m : Fin 256, (BitVec.ofInt 8 ((m.val : Nat) : Int) ||| BitVec.ofInt 8 128).toNat = m.val % 128 + 128 := by decide
theorem and127 : ∀ m : Fin 256, (BitVec.ofInt 8 ((m.val : Nat) : Int) &&& ~~~(BitVec.ofInt 8 128)).toNat = m.val % 128 := by decide
theorem moreByte (n : Nat) : UInt8.ofNat (Int.toNat (IntKind.u8.wrap ((BitVec.toNat (BitVec.ofInt 8 (IntKind.u8.wrap (n : Int)) ||| BitVec.ofInt 8 128) : Nat) : Int))) = UInt8.ofNat (n % 128 + 128) := by
 have h := or128 ⟨n % 256, Nat.mod_lt _ (by decide)⟩
 simp only at h
 rw [u8w n, h, u8w (n % 256 % 128 + 128), Int.toNat_natCast]
 congr 1
 have := Nat.mod_mod_of_dvd n (show 128 ∣ 256 by decide)
 omega
theorem lastByte (n : Nat) (h : n < 128) : UInt8.ofNat (Int.toNat (IntKind.u8.wrap (n : Int))) = UInt8.ofNat n := by
 rw [u8w, Int.toNat_natCast]; congr 1; omega
theorem shr7 (n : Nat) : Int.fdiv (n : Int) (2 ^ (min (Int.toNat 7) 64)) = ((n / 128 : Nat) : Int) := by
 rw [show ((2 : Int) ^ (min (Int.toNat 7) 64)) = 128 from by decide, Int.fdiv_eq_ediv_of_nonneg _ (by decide)]
 omega
theorem vint_Put_l : ∀ (k n : Nat) (l : List UInt8), n < 2 ^ (7 * k) → l.length + k ≤ 140737488355328 → vint_Put.l9 k l (n : Int) = some (l ++ vb n) ∨ k = 0
 | 0, _, _, _, _ => Or.inr rfl
 | k + 1, n, l, h, hl => by
  left
  by_cases h1 : n < 128
  · rw [vint_Put.l9, if_neg (by omega), room_t (by omega), Option.bind_some, lastByte n h1, vb_lt h1]
  · rw [vint_Put.l9, if_pos (by omega), room_t (by omega), Option.bind_some, moreByte, shr7, vb_ge h1]
    have hk : n / 128 < 2 ^ (7 * k) := by
     have e : 2 ^ (7 * (k + 1)) = 128 * 2 ^ (7 * k) := by rw [show 7 * (k + 1) = 7 + 7 * k by omega, Nat.pow_add]
     rw [e] at h; exact Nat.div_lt_of_lt_mul h
    rcases vint_Put_l k (n / 128) (l ++ [UInt8.ofNat (n % 128 + 128)]) hk (by rw [List.length_append, List.length_singleton]; omega) with e | e
    · rw [e, List.append_assoc]; rfl
    · exfalso; subst e; simp at hk; omega
theorem vint_Put_m : ∀ (k j n : Nat) (l r : List UInt8), vint_Put.l9 k l (n : Int) = some r → vint_Put.l9 (k + j) l (n : Int) = some r
 | 0, _, _, _, _, h => by cases h
 | k + 1, j, n, l, r, h => by
  rw [Nat.succ_add_eq_add_succ, Nat.add_succ]
  by_cases h1 : (128 : Int) ≤ (n : Int)
  · rw [vint_Put.l9, if_pos h1] at h ⊢
    cases hr : room (List.length l + 1) 1 with
    | none => rw [hr] at h; cases h
    | some u =>
     rw [hr, Option.bind_some, shr7] at h
     rw [Option.bind_some, shr7]; exact vint_Put_m k j _ _ _ h
  · rw [vint_Put.l9, if_neg h1] at h ⊢; exact h
theorem vint_Put_eq (a : List UInt8) {n : Nat} (h : n < 2 ^ 64) (ha : a.length ≤ 140737488355000) : vint_Put a (n : Int) = some (a ++ vb n) := by
 by_cases h1 : n < 128
 · rw [vint_Put, if_neg (by omega), room_t (by omega), Option.bind_some, lastByte n h1, vb_lt h1]
 · rw [vint_Put, if_pos (by omega), room_t (by omega), Option.bind_some, moreByte, shr7, vb_ge h1]
   rcases vint_Put_l 10 (n / 128) (a ++ [UInt8.ofNat (n % 128 + 128)]) (by omega) (by rw [List.length_append, List.length_singleton]; omega) with e | e
   · have := vint_Put_m 10 999999999999999999990 _ _ _ e
     rw [show 10 + 999999999999999999990 = rounds from rfl] at this
     rw [this, List.append_assoc]; rfl
   · cases e
theorem orAdd {i acc d : Nat} (h : acc < 2 ^ i) : acc ||| d * 2 ^ i = acc + d * 2 ^ i := by
 rw [Nat.or_comm, Nat.mul_comm, ← Nat.two_pow_add_eq_or_of_lt h]; omega
theorem bv64 {n : Nat} (h : n < 2 ^ 64) : (BitVec.ofInt 64 (n : Int)).toNat = n := by
 rw [BitVec.ofInt_natCast, BitVec.toNat_ofNat]; exact Nat.mod_eq_of_lt h
theorem stepv {acc i : Nat} {y : UInt8} (hi : i ≤ 9) (ha : acc < 2 ^ (7 * i)) (h9 : i = 9 → y.toNat ≤ 1) : IntKind.u64.wrap ((BitVec.toNat (BitVec.ofInt 64 (acc : Int) ||| BitVec.ofInt 64 (IntKind.u64.wrap ((IntKind.u64.wrap (IntKind.u8.wrap ((BitVec.toNat (BitVec.ofInt 8 (y.toNat : Int) &&& ~~~(BitVec.ofInt 8 128)) : Nat) : Int))) * 2 ^ (min (Int.toNat (IntKind.i64.wrap (7 * (i : Int)))) 64)))) : Nat) : Int) = ((acc + (y.toNat % 128) * 2 ^ (7 * i) : Nat) : Int) ∧ acc + (y.toNat % 128) * 2 ^ (7 * i) < 2 ^ 64 ∧ (i < 9 → acc + (y.toNat % 128) * 2 ^ (7 * i) < 2 ^ (7 * (i + 1))) := by
 have hy : y.toNat < 256 := y.toNat_lt
 have h := and127 ⟨y.toNat, hy⟩
 simp only at h
 have e : IntKind.i64.wrap (7 * (i : Int)) = ((7 * i : Nat) : Int) := by rw [i64_in (by omega) (by omega)]; omega
 have hm : min (7 * i) 64 = 7 * i := by omega
 have hd : y.toNat % 128 < 128 := Nat.mod_lt _ (by decide)
 have hp : 2 ^ (7 * (i + 1)) = 128 * 2 ^ (7 * i) := by rw [show 7 * (i + 1) = 7 + 7 * i by omega, Nat.pow_add]
 have hs : i < 9 → acc + (y.toNat % 128) * 2 ^ (7 * i) < 2 ^ (7 * (i + 1)) := by
  intro _
  rw [hp]
  have : (y.toNat % 128) * 2 ^ (7 * i) ≤ 127 * 2 ^ (7 * i) := Nat.mul_le_mul_right _ (by omega)
  omega
 have hb : acc + (y.toNat % 128) * 2 ^ (7 * i) < 2 ^ 64 := by
  by_cases h8 : i < 9
  · have := hs h8
    have h2 : 2 ^ (7 * (i + 1)) ≤ 2 ^ 63 := Nat.pow_le_pow_right (by decide) (by omega)
    omega
  · have hi9 : i = 9 := by omega
    have h1 := h9 hi9
    subst hi9
    have : y.toNat % 128 ≤ 1 := by omega
    have h2 : (y.toNat % 128) * 2 ^ (7 * 9) ≤ 1 * 2 ^ (7 * 9) := Nat.mul_le_mul_right _ this
    omega
 refine ⟨?_, hb, hs⟩
 rw [h, u8w, Nat.mod_eq_of_lt (show y.toNat % 128 < 256 by omega), e, Int.toNat_natCast, hm]
 have hc : ((((y.toNat % 128 : Nat) : Int)) * 2 ^ (7 * i)) = (((y.toNat % 128) * 2 ^ (7 * i) : Nat) : Int) := by
  rw [Int.natCast_mul, Int.natCast_pow]; rfl
 have hu : IntKind.u64.wrap ((y.toNat % 128 : Nat) : Int) = ((y.toNat % 128 : Nat) : Int) := u64w (by omega)
 rw [hu, hc, u64w (n := y.toNat % 128 * 2 ^ (7 * i)) (by omega), BitVec.toNat_or, bv64 (by omega), bv64 (by omega), orAdd ha, u64w hb]
theorem vint_Get_l1 (a : Nat) (hA : a ≤ 4611686018427387904) : ∀ (q post : List UInt8) (v i acc : Nat), q = vb v ++ post → i ≤ 9 → acc < 2 ^ (7 * i) → v * 2 ^ (7 * i) < 2 ^ 64 → (0 < i → v ≠ 0) →
 vint_Get.l12 (a : Int) q (i : Int) (acc : Int) = some (((acc + v * 2 ^ (7 * i) : Nat) : Int), ((a + i + (vb v).length : Nat) : Int), 0)
 | [], post, v, i, acc, h, _, _, _, _ => by
  have := vb_pos v
  have h2 := congrArg List.length h
  rw [List.length_append, List.length_nil] at h2; omega
 | y :: q, post, v, i, acc, h, hi, ha, hv, h0 => by
  by_cases h1 : v < 128
  · rw [vb_lt h1] at h ⊢
    obtain ⟨rfl, rfl⟩ : y = UInt8.ofNat v ∧ q = post := by injection h with h2 h3; exact ⟨h2, h3⟩
    have hy : (UInt8.ofNat v).toNat = v := ofNat_toNat8 v (by omega)
    have h9 : i = 9 → v ≤ 1 := by
     intro e; subst e
     apply Nat.le_of_not_lt; intro hc
     have : 2 * 2 ^ (7 * 9) ≤ v * 2 ^ (7 * 9) := Nat.mul_le_mul_right _ hc
     omega
    have st := (stepv (y := UInt8.ofNat v) hi ha (by rw [hy]; exact h9)).1
    have hw1 : IntKind.i64.wrap (7 * (i : Int)) = 7 * (i : Int) := i64_in (by omega) (by omega)
    rw [vint_Get.l12, st, hy]
    rw [if_neg (by simp only [Bool.and_eq_true, decide_eq_true_eq, not_and]; intro e; have := h9 (by omega); omega), grd_t (by rw [i64_in (by omega) (by omega)]; omega), Option.bind_some, if_neg (by omega), if_neg (by simp only [Bool.and_eq_true, decide_eq_true_eq, not_and]; intro e e2; exact h0 (by omega) (by omega))]
    rw [Nat.mod_eq_of_lt h1, i64_in (x := (a : Int) + (i : Int)) (by omega) (by omega), i64_in (x := (a : Int) + (i : Int) + 1) (by omega) (by omega), List.length_singleton]
    simp only [Int.natCast_add, Int.natCast_one]
  · rw [vb_ge h1] at h ⊢
    obtain ⟨rfl, rfl⟩ : y = UInt8.ofNat (v % 128 + 128) ∧ q = vb (v / 128) ++ post := by injection h with h2 h3; exact ⟨h2, h3⟩
    have hy : (UInt8.ofNat (v % 128 + 128)).toNat = v % 128 + 128 := ofNat_toNat8 _ (by omega)
    have hi8 : i < 9 := by
     apply Nat.lt_of_not_le; intro hc
     have : i = 9 := by omega
     subst this
     have : 128 * 2 ^ (7 * 9) ≤ v * 2 ^ (7 * 9) := Nat.mul_le_mul_right _ (by omega)
     omega
    obtain ⟨st, sb, sn⟩ := stepv (y := UInt8.ofNat (v % 128 + 128)) hi ha (by intro e; omega)
    rw [vint_Get.l12, st, hy, if_neg (by simp only [Bool.and_eq_true, decide_eq_true_eq, not_and]; intro e; omega), grd_t (by rw [i64_in (by omega) (by omega)]; omega), Option.bind_some, if_pos (by omega)]
    rw [hy] at sn
    have hm : (v % 128 + 128) % 128 = v % 128 := by omega
    rw [hm] at sn ⊢
    have hp : 2 ^ (7 * (i + 1)) = 128 * 2 ^ (7 * i) := by rw [show 7 * (i + 1) = 7 + 7 * i by omega, Nat.pow_add]
    have hvd : v = 128 * (v / 128) + v % 128 := (Nat.div_add_mod v 128).symm
    have hmul : v * 2 ^ (7 * i) = (v / 128) * 2 ^ (7 * (i + 1)) + (v % 128) * 2 ^ (7 * i) := by
     rw [hp]
     calc v * 2 ^ (7 * i) = (128 * (v / 128) + v % 128) * 2 ^ (7 * i) := by rw [← hvd]
      _ = _ := by rw [Nat.add_mul, Nat.mul_comm 128, Nat.mul_assoc]
    have ih := vint_Get_l1 a hA (vb (v / 128) ++ post) post (v / 128) (i + 1) (acc + v % 128 * 2 ^ (7 * i)) rfl (by omega) (sn hi8) (by rw [hmul] at hv; omega) (by intro _; omega)
    rw [show ((i : Int) + 1) = ((i + 1 : Nat) : Int) by omega, ih, hmul, List.length_cons]
    congr 2
    · congr 1; omega
    · congr 2; omega
theorem vint_Get_l2 (a : Nat) (hA : a ≤ 4611686018427387904) : ∀ (q : List UInt8) (i acc : Nat), i + q.length ≤ 10 → acc < 2 ^ (7 * i) → ∃ r, vint_Get.l12 (a : Int) q (i : Int) (acc : Int) = some r ∧
 (r.2.2 = 0 → ∃ v post, q = vb v ++ post ∧ v * 2 ^ (7 * i) < 2 ^ 64 ∧ (0 < i → v ≠ 0)) ∧ 0 ≤ r.2.2
 | [], i, acc, _, _ => ⟨_, rfl, (by intro h; cases h), by decide⟩
 | y :: q, i, acc, hl, ha => by
  rw [List.length_cons] at hl
  rw [vint_Get.l12]
  by_cases h9 : ((decide ((i : Int) = 9)) && (decide (1 < (y.toNat : Int)))) = true
  · rw [if_pos h9]; exact ⟨_, rfl, (by intro h; cases h), by decide⟩
  · rw [if_neg h9]
    have h9' : i = 9 → y.toNat ≤ 1 := by
     intro e
     simp only [Bool.and_eq_true, decide_eq_true_eq, not_and] at h9
     have := h9 (by omega); omega
    obtain ⟨st, sb, sn⟩ := stepv (y := y) (show i ≤ 9 by omega) ha h9'
    rw [st, grd_t (by rw [i64_in (by omega) (by omega)]; omega), Option.bind_some]
    have hy : y.toNat < 256 := y.toNat_lt
    by_cases h1 : (128 : Int) ≤ (y.toNat : Int)
    · rw [if_pos h1]
      have hi8 : i < 9 := by
       apply Nat.lt_of_not_le; intro hc
       have := h9' (by omega); omega
      obtain ⟨r, e, hr, h0⟩ := vint_Get_l2 a hA q (i + 1) (acc + y.toNat % 128 * 2 ^ (7 * i)) (by omega) (sn hi8)
      rw [show ((i : Int) + 1) = ((i + 1 : Nat) : Int) by omega]
      refine ⟨r, e, ?_, h0⟩
      intro hz
      obtain ⟨v, post, hq, hv, hn⟩ := hr hz
      have hp : 2 ^ (7 * (i + 1)) = 128 * 2 ^ (7 * i) := by rw [show 7 * (i + 1) = 7 + 7 * i by omega, Nat.pow_add]
      have hvn := hn (by omega)
      have hw : ¬ (v * 128 + y.toNat % 128) < 128 := by omega
      refine ⟨v * 128 + y.toNat % 128, post, ?_, ?_, by intro _; omega⟩
      · rw [vb_ge hw, show (v * 128 + y.toNat % 128) % 128 + 128 = y.toNat by omega, show (v * 128 + y.toNat % 128) / 128 = v by omega, UInt8.ofNat_toNat, hq]; rfl
      · rw [hp] at hv
        have hmul : (v * 128 + y.toNat % 128) * 2 ^ (7 * i) = v * (128 * 2 ^ (7 * i)) + y.toNat % 128 * 2 ^ (7 * i) := by rw [Nat.add_mul, Nat.mul_assoc]
        rw [hmul]
        by_cases hi7 : i < 9
        · have hd : y.toNat % 128 * 2 ^ (7 * i) < 128 * 2 ^ (7 * i) := Nat.mul_lt_mul_of_pos_right (by omega) (Nat.pow_pos (by decide))
          have h64 : 128 * 2 ^ (7 * i) ∣ 2 ^ 64 := by rw [← hp]; exact Nat.pow_dvd_pow 2 (by omega)
          obtain ⟨c, hc⟩ := h64
          rw [hc] at hv ⊢
          have hvc : v < c := by
           apply Nat.lt_of_not_le; intro hle
           have := Nat.mul_le_mul_right (128 * 2 ^ (7 * i)) hle
           rw [Nat.mul_comm c] at this; omega
          have h3 : (v + 1) * (128 * 2 ^ (7 * i)) ≤ c * (128 * 2 ^ (7 * i)) := Nat.mul_le_mul_right _ hvc
          rw [Nat.add_mul, Nat.one_mul] at h3
          rw [Nat.mul_comm (128 * 2 ^ (7 * i)) c]; omega
        · omega
    · rw [if_neg h1]
      by_cases h2 : ((decide ((y.toNat : Int) = 0)) && (decide (0 < (i : Int)))) = true
      · rw [if_pos h2]; exact ⟨_, rfl, (by intro h; cases h), by decide⟩
      · rw [if_neg h2]
        refine ⟨_, rfl, ?_, Int.le_refl 0⟩
        intro _
        refine ⟨y.toNat, q, ?_, ?_, ?_⟩
        · rw [vb_lt (by omega), UInt8.ofNat_toNat]; rfl
        · rw [Nat.mod_eq_of_lt (by omega)] at sb; omega
        · intro hi e
          apply h2
          simp only [Bool.and_eq_true, decide_eq_true_eq]; omega
theorem get_head {b : List UInt8} {n : Nat} (hb : b.length ≤ 4096) (hn : n ≤ b.length) : vint_Get b (n : Int) = vint_Get.l12 (n : Int) ((b.drop n).take 10) 0 0 := by
 have e1 : IntKind.i64.wrap ((List.length b : Int) - (n : Int)) = ((b.length - n : Nat) : Int) := by rw [i64_in (by omega) (by omega)]; omega
 rw [vint_Get, if_neg (by simp only [Bool.or_eq_true, decide_eq_true_eq]; omega), e1]
 by_cases h : (10 : Int) < ((b.length - n : Nat) : Int)
 · rw [if_pos h]
   have e2 : IntKind.i64.wrap ((n : Int) + 10) = ((n + 10 : Nat) : Int) := by rw [i64_in (by omega) (by omega)]; omega
   rw [e2, grd_t (by omega), Option.bind_some, cutL, Int.toNat_natCast, Int.toNat_natCast, show n + 10 - n = 10 by omega]
 · rw [if_neg h]
   have e2 : IntKind.i64.wrap ((n : Int) + ((b.length - n : Nat) : Int)) = (b.length : Int) := by rw [i64_in (by omega) (by omega)]; omega
   rw [e2, grd_t (by omega), Option.bind_some, cutL, Int.toNat_natCast, Int.toNat_natCast, List.take_of_length_le (by rw [List.length_drop]; exact Nat.le_refl _), List.take_of_length_le (by rw [List.length_drop]; omega)]
theorem get_ok {b post : List UInt8} {n v : Nat} (hb : b.length ≤ 4096) (hn : n ≤ b.length) (h : b.drop n = vb v ++ post) (hv : v < 2 ^ 64) : vint_Get b (n : Int) = some ((v : Int), ((n + (vb v).length : Nat) : Int), 0) := by
 have := vint_Get_l1 n (by omega) ((b.drop n).take 10) (post.take (10 - (vb v).length)) v 0 0 (by rw [h, List.take_append, List.take_of_length_le (vb_len10 hv)]) (by omega) (by decide) (by omega) (by omega)
 rw [get_head hb hn]
 simpa using this
theorem get_inv {b : List UInt8} {n : Nat} (hb : b.length ≤ 4096) (hn : n ≤ b.length) : ∃ r, vint_Get b (n : Int) = some r ∧ (r.2.2 = 0 → ∃ v post, b.drop n = vb v ++ post ∧ v < 2 ^ 64 ∧ r = ((v : Int), ((n + (vb v).length : Nat) : Int), 0)) ∧ 0 ≤ r.2.2 := by
 obtain ⟨r, e, hr, h0⟩ := vint_Get_l2 n (by omega) ((b.drop n).take 10) 0 0 (by rw [List.length_take]; omega) (by decide)
 rw [get_head hb hn]
 refine ⟨r, e, ?_, h0⟩
 intro hz
 obtain ⟨v, post, hq, hv, _⟩ := hr hz
 have hv' : v < 2 ^ 64 := by omega
 have hd : b.drop n = vb v ++ (post ++ (b.drop n).drop 10) := by
  rw [← List.append_assoc, ← hq, List.take_append_drop]
 refine ⟨v, _, hd, hv', ?_⟩
 have := get_ok hb hn hd hv'
 rw [get_head hb hn] at this
 exact Option.some.inj (e.symm.trans this)
end Go.Proofs.YtaddlmlpeghonaaDoor
