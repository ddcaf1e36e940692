/- Integers: sums, differences, products, quotients, the greatest common divisor. -/
import Derived.Test.YtgkafblpckcekaaQZ3
namespace Go.Proofs.Ytgkafblpckcekaa
open Go.Fw

theorem signedSum_eq (n m : Bool) (a b : Nat) (ha : (can 4294967296 a).length ≤ 100000000) (hb : (can 4294967296 b).length ≤ 100000000) :
    whole_signedSum_m n (can 4294967296 a) m (can 4294967296 b) = some (zn (sv n a + sv m b)) := by
  have la := lt_can_len (B := 4294967296) (by decide) a
  have lb := lt_can_len (B := 4294967296) (by decide) b
  unfold whole_signedSum_m
  simp only [bsm]
  by_cases hnm : n = m
  · subst hnm
    rw [show (n == n) = true by simp, ctm, addWords_eq _ _ (can_W32 (by omega)) (can_W32 (by omega)), bsm, vl_can, vl_can, build_eq _ _ ⟨fun x hx => dig_lt (by decide) _ _ _ hx, by rw [dig_len]; omega⟩, bsm]
    have hv : vl (dig 4294967296 (max (can 4294967296 a).length (can 4294967296 b).length + 1) (a + b)) = a + b := by
      show val _ _ = _
      rw [val_dig, Nat.mod_eq_of_lt]
      have h1 : a < 4294967296 ^ (max (can 4294967296 a).length (can 4294967296 b).length) := Nat.lt_of_lt_of_le la (Nat.pow_le_pow_right (by decide) (by omega))
      have h2 : b < 4294967296 ^ (max (can 4294967296 a).length (can 4294967296 b).length) := Nat.lt_of_lt_of_le lb (Nat.pow_le_pow_right (by decide) (by omega))
      rw [Nat.pow_succ]; omega
    rw [hv, zc_zn, show sv n (a + b) = sv n a + sv n b by cases n <;> simp [sv]; omega]
  · rw [show (n == m) = false by simp [hnm], cfm, compareWords_eq _ _ (by omega) (by omega), bsm, cmpN_neg]
    have hm : m = !n := by cases n <;> cases m <;> simp_all
    subst hm
    have hv : ∀ c d, d ≤ c → (can 4294967296 c).length ≤ 100000000 → whole_subWords_m (can 4294967296 c) (can 4294967296 d) = some (dig 4294967296 (can 4294967296 c).length (c - d)) ∧ vl (dig 4294967296 (can 4294967296 c).length (c - d)) = c - d := by
      intro c d hdc hcl
      have lc := lt_can_len (B := 4294967296) (by decide) c
      have hdl : (can 4294967296 d).length ≤ (can 4294967296 c).length := (can_len_iff (by decide)).2 (by omega)
      constructor
      · rw [subWords_eq _ _ (can_W32 (by omega)) (can_W32 (by omega)) hdl (by rw [vl_can, vl_can]; exact hdc), vl_can, vl_can]
      · show val _ _ = _
        rw [val_dig, Nat.mod_eq_of_lt (by omega)]
    by_cases hlt : a < b
    · obtain ⟨h1, h2⟩ := hv b a (by omega) hb
      rw [show decide (a < b) = true by simp [hlt], ctm, h1, bsm, build_eq _ _ ⟨fun x hx => dig_lt (by decide) _ _ _ hx, by rw [dig_len]; omega⟩, bsm, h2, zc_zn, show sv (!n) (b - a) = sv n a + sv (!n) b by cases n <;> simp [sv] <;> omega]
    · obtain ⟨h1, h2⟩ := hv a b (by omega) ha
      rw [show decide (a < b) = false by simp [hlt], cfm, h1, bsm, build_eq _ _ ⟨fun x hx => dig_lt (by decide) _ _ _ hx, by rw [dig_len]; omega⟩, bsm, h2, zc_zn, show sv n (a - b) = sv n a + sv (!n) b by cases n <;> simp [sv] <;> omega]

/-- Signs of bit operations. -/
theorem wrap_bv (v : BitVec 64) : IntKind.i64.wrap (v.toNat : Int) = v.toInt := by
  rw [BitVec.toInt_eq_toNat_cond]
  have := v.isLt
  rw [show (2 : Nat) ^ 64 = 18446744073709551616 by decide] at this ⊢
  split
  · rw [w64_nat (by omega)]
  · rw [IntKind.wrap]; simp [IntKind.signed, IntKind.bits]; omega
theorem bv_of (v : BitVec 64) : BitVec.ofInt 64 (IntKind.i64.wrap (v.toNat : Int)) = v := by rw [wrap_bv, BitVec.ofInt_toInt]
theorem msb_of {x : Int} (h : i64ok x) : (BitVec.ofInt 64 x).msb = decide (x < 0) := by
  rw [BitVec.msb_eq_toInt, BitVec.toInt_ofInt]
  unfold i64ok at h
  have : x.bmod (2 ^ 64) = x := by
    rw [Int.bmod_def]
    simp only [show ((2 ^ 64 : Nat) : Int) = 18446744073709551616 by decide]
    split <;> omega
  rw [this]
theorem nonneg_bv (v : BitVec 64) : decide ((0 : Int) ≤ IntKind.i64.wrap (v.toNat : Int)) = !v.msb := by
  rw [wrap_bv, BitVec.msb_eq_toInt]
  by_cases h : v.toInt < 0
  · simp [h]
  · simp [h]; omega
theorem i64_wrap (x : Int) : i64ok (IntKind.i64.wrap x) := by
  unfold i64ok
  rw [IntKind.wrap]; simp [IntKind.signed, IntKind.bits]; split <;> omega

theorem bif_same {α : Type} (b : Bool) (x : α) : (bif b then x else x) = x := by cases b <;> rfl
theorem i64of_ok {i : Int} (h : i64ok i) : i64of i = (i, true) := if_pos h
theorem i64of_no {i : Int} (h : ¬ i64ok i) : i64of i = (0, false) := if_neg h
theorem add_eq {x y : Zr} (hx : Wl x) (hy : Wl y) : whole_Add_m x y = some (zn (zi x + zi y)) := by
  obtain ⟨n, w⟩ := x
  obtain ⟨m, u⟩ := y
  unfold whole_Add_m
  simp only [int64_eq hx, int64_eq hy, bsm, letJ]
  have hK : ((whole_trim_m w).bind fun x41 => (whole_trim_m u).bind fun x46 => (whole_signedSum_m n x41 m x46).bind fun x => some x) = some (zn (zi ⟨n, w⟩ + zi ⟨m, u⟩)) := by
    rw [show whole_trim_m w = some (can 4294967296 (vl w)) from hx.trim, show whole_trim_m u = some (can 4294967296 (vl u)) from hy.trim, bsm, bsm, signedSum_eq _ _ _ _ hx.cl hy.cl, bsm]; rfl
  have hK' : ((whole_trim_m w).bind fun x41 => (whole_trim_m u).bind fun x46 => (whole_signedSum_m n x41 m x46).bind fun x => some ⟨x.neg, x.w⟩) = some (zn (zi ⟨n, w⟩ + zi ⟨m, u⟩)) := hK
  rw [hK']
  generalize zi ⟨n, w⟩ = i
  generalize zi ⟨m, u⟩ = j
  by_cases h1 : i64ok i
  · by_cases h2 : i64ok j
    · rw [i64of_ok h1, i64of_ok h2, ctm, bsm, ctm, bv_of, bv_of, nonneg_bv, BitVec.msb_and, BitVec.msb_xor, BitVec.msb_xor, msb_of h1, msb_of h2, msb_of (i64_wrap _), fromInt_eq (i64_wrap _).1 (i64_wrap _).2, bsm]
      by_cases hr : i64ok (i + j)
      · rw [w64_id hr.1 hr.2]
        exact bif_same _ _
      · have : (!((decide (i < 0) ^^ decide (IntKind.i64.wrap (i + j) < 0)) && (decide (j < 0) ^^ decide (IntKind.i64.wrap (i + j) < 0)))) = false := by
          unfold i64ok at *
          by_cases hs : i < 0
          · have e : IntKind.i64.wrap (i + j) = i + j + 18446744073709551616 := by rw [IntKind.wrap]; simp [IntKind.signed, IntKind.bits]; omega
            rw [e, show decide (i < 0) = true by simp [hs], show decide (j < 0) = true by simp; omega, show decide (i + j + 18446744073709551616 < 0) = false by simp; omega]; rfl
          · have e : IntKind.i64.wrap (i + j) = i + j - 18446744073709551616 := by rw [IntKind.wrap]; simp [IntKind.signed, IntKind.bits]; omega
            rw [e, show decide (i < 0) = false by simp [hs], show decide (j < 0) = false by simp; omega, show decide (i + j - 18446744073709551616 < 0) = true by simp; omega]; rfl
        rw [this, cfm]
    · rw [i64of_ok h1, i64of_no h2, ctm, bsm, cfm]
  · rw [i64of_no h1, cfm, bsm, cfm]

theorem sub_eq {x y : Zr} (hx : Wl x) (hy : Wl y) : whole_Sub_m x y = some (zn (zi x - zi y)) := by
  obtain ⟨n, w⟩ := x
  obtain ⟨m, u⟩ := y
  unfold whole_Sub_m
  simp only [int64_eq hx, int64_eq hy, bsm, letJ]
  have hK' : ((whole_trim_m w).bind fun x41 => (whole_trim_m u).bind fun x46 => (whole_signedSum_m n x41 (!m) x46).bind fun x => some ⟨x.neg, x.w⟩) = some (zn (zi ⟨n, w⟩ - zi ⟨m, u⟩)) := by
    rw [show whole_trim_m w = some (can 4294967296 (vl w)) from hx.trim, show whole_trim_m u = some (can 4294967296 (vl u)) from hy.trim, bsm, bsm, signedSum_eq _ _ _ _ hx.cl hy.cl, bsm, sv_not, ← Int.sub_eq_add_neg]; rfl
  rw [hK']
  generalize zi ⟨n, w⟩ = i
  generalize zi ⟨m, u⟩ = j
  by_cases h1 : i64ok i
  · by_cases h2 : i64ok j
    · rw [i64of_ok h1, i64of_ok h2, ctm, bsm, ctm, bv_of, bv_of, nonneg_bv, BitVec.msb_and, BitVec.msb_xor, BitVec.msb_xor, msb_of h1, msb_of h2, msb_of (i64_wrap _), fromInt_eq (i64_wrap _).1 (i64_wrap _).2, bsm]
      by_cases hr : i64ok (i - j)
      · rw [w64_id hr.1 hr.2]
        exact bif_same _ _
      · have : (!((decide (i < 0) ^^ decide (j < 0)) && (decide (i < 0) ^^ decide (IntKind.i64.wrap (i - j) < 0)))) = false := by
          unfold i64ok at *
          by_cases hs : i < 0
          · have e : IntKind.i64.wrap (i - j) = i - j + 18446744073709551616 := by rw [IntKind.wrap]; simp [IntKind.signed, IntKind.bits]; omega
            rw [e, show decide (i < 0) = true by simp [hs], show decide (j < 0) = false by simp; omega, show decide (i - j + 18446744073709551616 < 0) = false by simp; omega]; rfl
          · have e : IntKind.i64.wrap (i - j) = i - j - 18446744073709551616 := by rw [IntKind.wrap]; simp [IntKind.signed, IntKind.bits]; omega
            rw [e, show decide (i < 0) = false by simp [hs], show decide (j < 0) = true by simp; omega, show decide (i - j - 18446744073709551616 < 0) = true by simp; omega]; rfl
        rw [this, cfm]
    · rw [i64of_ok h1, i64of_no h2, ctm, bsm, cfm]
  · rw [i64of_no h1, cfm, bsm, cfm]

theorem sv_mul (n m : Bool) (a b : Nat) : sv (!(n == m)) (a * b) = sv n a * sv m b := by
  cases n <;> cases m <;> simp [sv, Int.neg_mul, Int.mul_neg]
theorem mul_eq {x y : Zr} (hx : Wl x) (hy : Wl y) : whole_Mul_m x y = some (zn (zi x * zi y)) := by
  obtain ⟨n, w⟩ := x
  obtain ⟨m, u⟩ := y
  unfold whole_Mul_m
  have hcx : (can 4294967296 (vl w)).length ≤ 100000000 := hx.cl
  have hcy : (can 4294967296 (vl u)).length ≤ 100000000 := hy.cl
  simp only []
  rw [show whole_trim_m w = some (can 4294967296 (vl w)) from hx.trim, show whole_trim_m u = some (can 4294967296 (vl u)) from hy.trim, bsm, bsm, show zi ⟨n, w⟩ = sv n (vl w) from rfl, show zi ⟨m, u⟩ = sv m (vl u) from rfl]
  simp only [bsm, letJ]
  generalize vl w = a at *
  generalize vl u = b at *
  have la := lt_can_len (B := 4294967296) (by decide) a
  have lb := lt_can_len (B := 4294967296) (by decide) b
  have hK : ((whole_mulWords_m (can 4294967296 a) (can 4294967296 b)).bind fun x39 => (whole_build_m (!(n == m)) x39).bind fun x => some ⟨x.neg, x.w⟩) = some (zn (sv n a * sv m b)) := by
    rw [mulWords_eq _ _ (can_W32 (by omega)) (can_W32 (by omega)), bsm, vl_can, vl_can, build_eq _ _ ⟨fun x hx => dig_lt (by decide) _ _ _ hx, by rw [dig_len]; omega⟩, bsm, zc_zn]
    have hv : vl (dig 4294967296 ((can 4294967296 a).length + (can 4294967296 b).length) (a * b)) = a * b := by
      show val _ _ = _
      rw [val_dig, Nat.mod_eq_of_lt]
      rw [Nat.pow_add]; exact Nat.mul_lt_mul'' la lb
    rw [hv, sv_mul]
  rw [hK]
  by_cases h1 : a < 4294967296
  · by_cases h2 : b < 4294967296
    · have l1 := low_eq (can 4294967296 a) (fun _ hx => can_lt (by decide) hx) (by have := can_len1.2 h1; omega)
      have l2 := low_eq (can 4294967296 b) (fun _ hx => can_lt (by decide) hx) (by have := can_len1.2 h2; omega)
      rw [vl_can] at l1 l2
      have hlt : a * b < 18446744073709551616 := Nat.mul_lt_mul'' h1 h2
      rw [show decide (((can 4294967296 a).length : Int) ≤ 1) = true by rw [decide_eq_true_eq]; exact can_len1.2 h1, ctm, bsm, show decide (((can 4294967296 b).length : Int) ≤ 1) = true by rw [decide_eq_true_eq]; exact can_len1.2 h2, ctm, l1, l2, bsm, bsm, Nat.mod_eq_of_lt hlt, small_eq _ _ hlt, bsm, zc_zn, sv_mul]
    · rw [show decide (((can 4294967296 a).length : Int) ≤ 1) = true by rw [decide_eq_true_eq]; exact can_len1.2 h1, ctm, bsm, show decide (((can 4294967296 b).length : Int) ≤ 1) = false by rw [decide_eq_false_iff_not]; exact fun h => h2 (can_len1.1 h), cfm]
  · rw [show decide (((can 4294967296 a).length : Int) ≤ 1) = false by rw [decide_eq_false_iff_not]; exact fun h => h1 (can_len1.1 h), cfm, bsm, cfm]
end Go.Proofs.Ytgkafblpckcekaa
