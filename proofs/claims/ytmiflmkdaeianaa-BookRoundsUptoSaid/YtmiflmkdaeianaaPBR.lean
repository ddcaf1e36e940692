/- The law BookRounds answers true for every input, up to the size that the statement names. -/
import Derived.Test.YtmiflmkdaeianaaPBR4
set_option linter.unusedVariables false
set_option linter.unusedSimpArgs false
namespace Go.Proofs.Ytmiflmkdaeianaa
open Go.Fw
theorem fromInt_eq {x : Int} (h1 : -9223372036854775808 ≤ x) (h2 : x ≤ 9223372036854775807) : whole_FromInt64_m x = some (zn x) := by
  unfold whole_FromInt64_m
  simp only [bsm, letJ]
  by_cases hx : x < 0
  · have e : (x % 18446744073709551616).toNat = 18446744073709551616 - x.natAbs := by omega
    rw [show decide (x < 0) = true by simp [hx], ctm, e, usub_lt (by omega) (by omega), show 18446744073709551616 + 0 - (18446744073709551616 - x.natAbs) = x.natAbs by omega, small_eq _ _ (by omega), bsm, zc_zn, show sv true x.natAbs = x by simp [sv]; omega]
  · have e : (x % 18446744073709551616).toNat = x.natAbs := by omega
    rw [show decide (x < 0) = false by simp [hx], cfm, e, small_eq _ _ (by omega), bsm, zc_zn, show sv false x.natAbs = x by simp [sv]; omega]
def i64ok (i : Int) : Prop := -9223372036854775808 ≤ i ∧ i ≤ 9223372036854775807
instance (i : Int) : Decidable (i64ok i) := by unfold i64ok; infer_instance
def i64of (i : Int) : Int × Bool := if i64ok i then (i, true) else (0, false)
theorem int64_eq {z : Zr} (h : Wl z) : whole_Int64_m z = some (i64of (zi z)) := by
  obtain ⟨n, w⟩ := z
  unfold whole_Int64_m
  have ht := h.trim
  have hlow : vl w < 18446744073709551616 → whole_low_m (can 4294967296 (vl w)) = some (vl w) := fun h2 => by
    rw [low_eq _ (fun _ hx => can_lt (by decide) hx) (by have := can_len2.2 h2; omega), vl_can]
  show (whole_trim_m w).bind _ = some (i64of (sv n (vl w)))
  rw [show whole_trim_m w = some (can 4294967296 (vl w)) from ht]
  simp only [bsm]
  generalize vl w = v at *
  by_cases h2 : v < 18446744073709551616
  · have := can_len2.2 h2
    rw [show decide ((2 : Int) < ((can 4294967296 v).length : Int)) = false by simp; omega, cfm, hlow h2, bsm]
    cases n
    · rw [cfm, sv_false]
      by_cases h3 : v < 9223372036854775808
      · rw [show decide (9223372036854775808 ≤ v) = false by simp; omega, cfm, w64_nat (by omega), i64of, if_pos (by unfold i64ok; omega)]
      · rw [show decide (9223372036854775808 ≤ v) = true by simp; omega, ctm, i64of, if_neg (by unfold i64ok; omega)]
    · rw [ctm, show sv true v = -(v : Int) from rfl]
      by_cases h3 : 9223372036854775808 < v
      · rw [show decide (9223372036854775808 < v) = true by simp; omega, ctm, i64of, if_neg (by unfold i64ok; omega)]
      · rw [show decide (9223372036854775808 < v) = false by simp; omega, cfm, i64of, if_pos (by unfold i64ok; omega)]
        by_cases h0 : v = 0
        · subst h0; rfl
        · rw [usub_lt (by omega) (by omega)]
          rw [show IntKind.i64.wrap ((18446744073709551616 + 0 - v : Nat) : Int) = -(v : Int) by
            rw [IntKind.wrap]; simp [IntKind.signed, IntKind.bits]; omega]
  · have : ¬ (((can 4294967296 v).length : Int) ≤ 2) := fun h => h2 (can_len2.1 h)
    rw [show decide ((2 : Int) < ((can 4294967296 v).length : Int)) = true by simp; omega, ctm, i64of, if_neg (by unfold i64ok; cases n <;> simp [sv] <;> omega)]
theorem sign_eq {z : Zr} (h : Wl z) : whole_Sign_m z = some (zi z).sign := by
  obtain ⟨n, w⟩ := z
  unfold whole_Sign_m
  show (whole_trim_m w).bind _ = some (sv n (vl w)).sign
  rw [show whole_trim_m w = some (can 4294967296 (vl w)) from h.trim]
  simp only [bsm]
  generalize vl w = v
  by_cases h0 : v = 0
  · subst h0; cases n <;> rfl
  · have : (can 4294967296 v).length ≠ 0 := fun h => h0 (can_len0.1 h)
    rw [show decide (((can 4294967296 v).length : Int) = 0) = false by simp; intro e; rw [e] at this; exact this rfl, cfm]
    cases n
    · rw [cfm, sv_false, Int.sign_eq_one_of_pos (by omega)]
    · rw [ctm, show sv true v = -(v : Int) from rfl, Int.sign_eq_neg_one_of_neg (by omega)]
def cmpI (i j : Int) : Int := if i < j then -1 else if i = j then 0 else 1
theorem cmpI_lt {i j : Int} (h : i < j) : cmpI i j = -1 := by simp [cmpI, h]
theorem cmpI_gt {i j : Int} (h : j < i) : cmpI i j = 1 := by
  have h1 : ¬ i < j := by omega
  have h2 : ¬ i = j := by omega
  simp [cmpI, h1, h2]
theorem cmpI_self (i : Int) : cmpI i i = 0 := by simp [cmpI]
theorem cmpI_nat (v w : Nat) : cmpN v w = cmpI (v : Int) (w : Int) := by
  rcases Nat.lt_trichotomy v w with h | h | h
  · rw [cmpN_lt h, cmpI_lt (by omega)]
  · rw [h, cmpN_eq, cmpI_self]
  · rw [cmpN_gt h, cmpI_gt (by omega)]
theorem cmpI_neg (i j : Int) : cmpI (-i) (-j) = cmpI j i := by
  rcases Int.lt_trichotomy i j with h | h | h
  · rw [cmpI_gt h, cmpI_gt (by omega)]
  · rw [h, cmpI_self, cmpI_self]
  · rw [cmpI_lt h, cmpI_lt (by omega)]
theorem cmp_eq {x y : Zr} (hx : Wl x) (hy : Wl y) : whole_Cmp_m x y = some (cmpI (zi x) (zi y)) := by
  obtain ⟨n, w⟩ := x
  obtain ⟨m, u⟩ := y
  unfold whole_Cmp_m
  show (whole_Sign_m ⟨n, w⟩).bind _ = _
  rw [sign_eq hx, bsm]
  show (whole_Sign_m ⟨m, u⟩).bind _ = _
  rw [sign_eq hy, bsm, show whole_trim_m w = some (can 4294967296 (vl w)) from hx.trim, show whole_trim_m u = some (can 4294967296 (vl u)) from hy.trim]
  simp only [bsm]
  rw [compareWords_eq _ _ (Nat.le_trans hx.cl (by decide)) (Nat.le_trans hy.cl (by decide)), compareWords_eq _ _ (Nat.le_trans hy.cl (by decide)) (Nat.le_trans hx.cl (by decide))]
  simp only [bsm]
  rw [show zi ⟨n, w⟩ = sv n (vl w) from rfl, show zi ⟨m, u⟩ = sv m (vl u) from rfl]
  generalize vl w = a
  generalize vl u = b
  rw [cmpI_nat, cmpI_nat]
  obtain ⟨i, hi⟩ : ∃ i, sv n a = i := ⟨_, rfl⟩
  obtain ⟨j, hj⟩ : ∃ j, sv m b = j := ⟨_, rfl⟩
  have hia : (i < 0 → i = -(a : Int)) ∧ (0 ≤ i → i = a) := by rw [← hi]; cases n <;> simp [sv] <;> omega
  have hjb : (j < 0 → j = -(b : Int)) ∧ (0 ≤ j → j = b) := by rw [← hj]; cases m <;> simp [sv] <;> omega
  rw [hi, hj]
  rcases Int.lt_trichotomy i 0 with h1 | h1 | h1 <;> rcases Int.lt_trichotomy j 0 with h2 | h2 | h2
  · rw [Int.sign_eq_neg_one_of_neg h1, Int.sign_eq_neg_one_of_neg h2, hia.1 h1, hjb.1 h2, cmpI_neg]; rfl
  · rw [Int.sign_eq_neg_one_of_neg h1, show Int.sign j = 0 by rw [h2]; rfl, show cmpI i j = -1 from cmpI_lt (by omega)]; rfl
  · rw [Int.sign_eq_neg_one_of_neg h1, Int.sign_eq_one_of_pos h2, show cmpI i j = -1 from cmpI_lt (by omega)]; rfl
  · rw [show Int.sign i = 0 by rw [h1]; rfl, Int.sign_eq_neg_one_of_neg h2, show cmpI i j = 1 from cmpI_gt (by omega)]; rfl
  · rw [show Int.sign i = 0 by rw [h1]; rfl, show Int.sign j = 0 by rw [h2]; rfl, ← hia.2 (by omega), ← hjb.2 (by omega)]; rfl
  · rw [show Int.sign i = 0 by rw [h1]; rfl, Int.sign_eq_one_of_pos h2, show cmpI i j = -1 from cmpI_lt (by omega)]; rfl
  · rw [Int.sign_eq_one_of_pos h1, Int.sign_eq_neg_one_of_neg h2, show cmpI i j = 1 from cmpI_gt (by omega)]; rfl
  · rw [Int.sign_eq_one_of_pos h1, show Int.sign j = 0 by rw [h2]; rfl, show cmpI i j = 1 from cmpI_gt (by omega)]; rfl
  · rw [Int.sign_eq_one_of_pos h1, Int.sign_eq_one_of_pos h2, ← hia.2 (by omega), ← hjb.2 (by omega)]; rfl
theorem neg_eq {x : Zr} (hx : Wl x) : whole_Neg_m x = some (zn (-zi x)) := by
  obtain ⟨n, w⟩ := x
  unfold whole_Neg_m
  have hc : (can 4294967296 (vl w)).length ≤ 10000000000 := hx.cl
  simp only [bsm]
  rw [show whole_trim_m w = some (can 4294967296 (vl w)) from hx.trim, bsm, clone_eq _ (by omega), bsm, build_eq _ _ (can_W32 (by omega)), bsm, vl_can, zc_zn, sv_not]
  rfl
end Go.Proofs.Ytmiflmkdaeianaa
namespace Go.Proofs.Ytmiflmkdaeianaa
open Go.Fw
theorem signedSum_eq (n m : Bool) (a b : Nat) (ha : (can 4294967296 a).length ≤ 10000000000) (hb : (can 4294967296 b).length ≤ 10000000000) :
    whole_signedSum_m n (can 4294967296 a) m (can 4294967296 b) = some (zn (sv n a + sv m b)) := by
  have la := lt_can_len (B := 4294967296) (by decide) a
  have lb := lt_can_len (B := 4294967296) (by decide) b
  unfold whole_signedSum_m
  simp only [bsm]
  by_cases hnm : n = m
  · subst hnm
    rw [show (n == n) = true by simp, ctm, addWords_eq _ _ (can_W32 (by omega)) (can_W32 (by omega)), bsm, vl_can, vl_can, build_eq _ _ ⟨fun x hx => dig_lt (by decide) _ _ _ hx, by rw [dig_len]; omega⟩, bsm]
    have hv : vl (dig 4294967296 (max (can 4294967296 a).length (can 4294967296 b).length + 1) (a + b)) = a + b := by
      show val _ _ = _
      rw [val_dig, Nat.mod_eq_of_lt]
      have h1 : a < 4294967296 ^ (max (can 4294967296 a).length (can 4294967296 b).length) := Nat.lt_of_lt_of_le la (Nat.pow_le_pow_right (by decide) (by omega))
      have h2 : b < 4294967296 ^ (max (can 4294967296 a).length (can 4294967296 b).length) := Nat.lt_of_lt_of_le lb (Nat.pow_le_pow_right (by decide) (by omega))
      rw [Nat.pow_succ]; omega
    rw [hv, zc_zn, show sv n (a + b) = sv n a + sv n b by cases n <;> simp [sv]; omega]
  · rw [show (n == m) = false by simp [hnm], cfm, compareWords_eq _ _ (by omega) (by omega), bsm, cmpN_neg]
    have hm : m = !n := by cases n <;> cases m <;> simp_all
    subst hm
    have hv : ∀ c d, d ≤ c → (can 4294967296 c).length ≤ 10000000000 → whole_subWords_m (can 4294967296 c) (can 4294967296 d) = some (dig 4294967296 (can 4294967296 c).length (c - d)) ∧ vl (dig 4294967296 (can 4294967296 c).length (c - d)) = c - d := by
      intro c d hdc hcl
      have lc := lt_can_len (B := 4294967296) (by decide) c
      have hdl : (can 4294967296 d).length ≤ (can 4294967296 c).length := (can_len_iff (by decide)).2 (by omega)
      constructor
      · rw [subWords_eq _ _ (can_W32 (by omega)) (can_W32 (by omega)) hdl (by rw [vl_can, vl_can]; exact hdc), vl_can, vl_can]
      · show val _ _ = _
        rw [val_dig, Nat.mod_eq_of_lt (by omega)]
    by_cases hlt : a < b
    · obtain ⟨h1, h2⟩ := hv b a (by omega) hb
      rw [show decide (a < b) = true by simp [hlt], ctm, h1, bsm, build_eq _ _ ⟨fun x hx => dig_lt (by decide) _ _ _ hx, by rw [dig_len]; omega⟩, bsm, h2, zc_zn, show sv (!n) (b - a) = sv n a + sv (!n) b by cases n <;> simp [sv] <;> omega]
    · obtain ⟨h1, h2⟩ := hv a b (by omega) ha
      rw [show decide (a < b) = false by simp [hlt], cfm, h1, bsm, build_eq _ _ ⟨fun x hx => dig_lt (by decide) _ _ _ hx, by rw [dig_len]; omega⟩, bsm, h2, zc_zn, show sv n (a - b) = sv n a + sv (!n) b by cases n <;> simp [sv] <;> omega]
theorem wrap_bv (v : BitVec 64) : IntKind.i64.wrap (v.toNat : Int) = v.toInt := by
  rw [BitVec.toInt_eq_toNat_cond]
  have := v.isLt
  rw [show (2 : Nat) ^ 64 = 18446744073709551616 by decide] at this ⊢
  split
  · rw [w64_nat (by omega)]
  · rw [IntKind.wrap]; simp [IntKind.signed, IntKind.bits]; omega
theorem bv_of (v : BitVec 64) : BitVec.ofInt 64 (IntKind.i64.wrap (v.toNat : Int)) = v := by rw [wrap_bv, BitVec.ofInt_toInt]
theorem msb_of {x : Int} (h : i64ok x) : (BitVec.ofInt 64 x).msb = decide (x < 0) := by
  rw [BitVec.msb_eq_toInt, BitVec.toInt_ofInt]
  unfold i64ok at h
  have : x.bmod (2 ^ 64) = x := by
    rw [Int.bmod_def]
    simp only [show ((2 ^ 64 : Nat) : Int) = 18446744073709551616 by decide]
    split <;> omega
  rw [this]
theorem nonneg_bv (v : BitVec 64) : decide ((0 : Int) ≤ IntKind.i64.wrap (v.toNat : Int)) = !v.msb := by
  rw [wrap_bv, BitVec.msb_eq_toInt]
  by_cases h : v.toInt < 0
  · simp [h]
  · simp [h]; omega
theorem i64_wrap (x : Int) : i64ok (IntKind.i64.wrap x) := by
  unfold i64ok
  rw [IntKind.wrap]; simp [IntKind.signed, IntKind.bits]; split <;> omega
theorem bif_same {α : Type} (b : Bool) (x : α) : (bif b then x else x) = x := by cases b <;> rfl
theorem i64of_ok {i : Int} (h : i64ok i) : i64of i = (i, true) := if_pos h
theorem i64of_no {i : Int} (h : ¬ i64ok i) : i64of i = (0, false) := if_neg h
theorem add_eq {x y : Zr} (hx : Wl x) (hy : Wl y) : whole_Add_m x y = some (zn (zi x + zi y)) := by
  obtain ⟨n, w⟩ := x
  obtain ⟨m, u⟩ := y
  unfold whole_Add_m
  simp only [int64_eq hx, int64_eq hy, bsm, letJ]
  have hK : ((whole_trim_m w).bind fun x41 => (whole_trim_m u).bind fun x46 => (whole_signedSum_m n x41 m x46).bind fun x => some x) = some (zn (zi ⟨n, w⟩ + zi ⟨m, u⟩)) := by
    rw [show whole_trim_m w = some (can 4294967296 (vl w)) from hx.trim, show whole_trim_m u = some (can 4294967296 (vl u)) from hy.trim, bsm, bsm, signedSum_eq _ _ _ _ hx.cl hy.cl, bsm]; rfl
  have hK' : ((whole_trim_m w).bind fun x41 => (whole_trim_m u).bind fun x46 => (whole_signedSum_m n x41 m x46).bind fun x => some ⟨x.neg, x.w⟩) = some (zn (zi ⟨n, w⟩ + zi ⟨m, u⟩)) := hK
  rw [hK']
  generalize zi ⟨n, w⟩ = i
  generalize zi ⟨m, u⟩ = j
  by_cases h1 : i64ok i
  · by_cases h2 : i64ok j
    · rw [i64of_ok h1, i64of_ok h2, ctm, bsm, ctm, bv_of, bv_of, nonneg_bv, BitVec.msb_and, BitVec.msb_xor, BitVec.msb_xor, msb_of h1, msb_of h2, msb_of (i64_wrap _), fromInt_eq (i64_wrap _).1 (i64_wrap _).2, bsm]
      by_cases hr : i64ok (i + j)
      · rw [w64_id hr.1 hr.2]
        exact bif_same _ _
      · have : (!((decide (i < 0) ^^ decide (IntKind.i64.wrap (i + j) < 0)) && (decide (j < 0) ^^ decide (IntKind.i64.wrap (i + j) < 0)))) = false := by
          unfold i64ok at *
          by_cases hs : i < 0
          · have e : IntKind.i64.wrap (i + j) = i + j + 18446744073709551616 := by rw [IntKind.wrap]; simp [IntKind.signed, IntKind.bits]; omega
            rw [e, show decide (i < 0) = true by simp [hs], show decide (j < 0) = true by simp; omega, show decide (i + j + 18446744073709551616 < 0) = false by simp; omega]; rfl
          · have e : IntKind.i64.wrap (i + j) = i + j - 18446744073709551616 := by rw [IntKind.wrap]; simp [IntKind.signed, IntKind.bits]; omega
            rw [e, show decide (i < 0) = false by simp [hs], show decide (j < 0) = false by simp; omega, show decide (i + j - 18446744073709551616 < 0) = true by simp; omega]; rfl
        rw [this, cfm]
    · rw [i64of_ok h1, i64of_no h2, ctm, bsm, cfm]
  · rw [i64of_no h1, cfm, bsm, cfm]
theorem sub_eq {x y : Zr} (hx : Wl x) (hy : Wl y) : whole_Sub_m x y = some (zn (zi x - zi y)) := by
  obtain ⟨n, w⟩ := x
  obtain ⟨m, u⟩ := y
  unfold whole_Sub_m
  simp only [int64_eq hx, int64_eq hy, bsm, letJ]
  have hK' : ((whole_trim_m w).bind fun x41 => (whole_trim_m u).bind fun x46 => (whole_signedSum_m n x41 (!m) x46).bind fun x => some ⟨x.neg, x.w⟩) = some (zn (zi ⟨n, w⟩ - zi ⟨m, u⟩)) := by
    rw [show whole_trim_m w = some (can 4294967296 (vl w)) from hx.trim, show whole_trim_m u = some (can 4294967296 (vl u)) from hy.trim, bsm, bsm, signedSum_eq _ _ _ _ hx.cl hy.cl, bsm, sv_not, ← Int.sub_eq_add_neg]; rfl
  rw [hK']
  generalize zi ⟨n, w⟩ = i
  generalize zi ⟨m, u⟩ = j
  by_cases h1 : i64ok i
  · by_cases h2 : i64ok j
    · rw [i64of_ok h1, i64of_ok h2, ctm, bsm, ctm, bv_of, bv_of, nonneg_bv, BitVec.msb_and, BitVec.msb_xor, BitVec.msb_xor, msb_of h1, msb_of h2, msb_of (i64_wrap _), fromInt_eq (i64_wrap _).1 (i64_wrap _).2, bsm]
      by_cases hr : i64ok (i - j)
      · rw [w64_id hr.1 hr.2]
        exact bif_same _ _
      · have : (!((decide (i < 0) ^^ decide (j < 0)) && (decide (i < 0) ^^ decide (IntKind.i64.wrap (i - j) < 0)))) = false := by
          unfold i64ok at *
          by_cases hs : i < 0
          · have e : IntKind.i64.wrap (i - j) = i - j + 18446744073709551616 := by rw [IntKind.wrap]; simp [IntKind.signed, IntKind.bits]; omega
            rw [e, show decide (i < 0) = true by simp [hs], show decide (j < 0) = false by simp; omega, show decide (i - j + 18446744073709551616 < 0) = false by simp; omega]; rfl
          · have e : IntKind.i64.wrap (i - j) = i - j - 18446744073709551616 := by rw [IntKind.wrap]; simp [IntKind.signed, IntKind.bits]; omega
            rw [e, show decide (i < 0) = false by simp [hs], show decide (j < 0) = true by simp; omega, show decide (i - j - 18446744073709551616 < 0) = true by simp; omega]; rfl
        rw [this, cfm]
    · rw [i64of_ok h1, i64of_no h2, ctm, bsm, cfm]
  · rw [i64of_no h1, cfm, bsm, cfm]
theorem sv_mul (n m : Bool) (a b : Nat) : sv (!(n == m)) (a * b) = sv n a * sv m b := by
  cases n <;> cases m <;> simp [sv, Int.neg_mul, Int.mul_neg]
theorem mul_eq {x y : Zr} (hx : Wl x) (hy : Wl y) : whole_Mul_m x y = some (zn (zi x * zi y)) := by
  obtain ⟨n, w⟩ := x
  obtain ⟨m, u⟩ := y
  unfold whole_Mul_m
  have hcx : (can 4294967296 (vl w)).length ≤ 10000000000 := hx.cl
  have hcy : (can 4294967296 (vl u)).length ≤ 10000000000 := hy.cl
  simp only []
  rw [show whole_trim_m w = some (can 4294967296 (vl w)) from hx.trim, show whole_trim_m u = some (can 4294967296 (vl u)) from hy.trim, bsm, bsm, show zi ⟨n, w⟩ = sv n (vl w) from rfl, show zi ⟨m, u⟩ = sv m (vl u) from rfl]
  simp only [bsm, letJ]
  generalize vl w = a at *
  generalize vl u = b at *
  have la := lt_can_len (B := 4294967296) (by decide) a
  have lb := lt_can_len (B := 4294967296) (by decide) b
  have hK : ((whole_mulWords_m (can 4294967296 a) (can 4294967296 b)).bind fun x39 => (whole_build_m (!(n == m)) x39).bind fun x => some ⟨x.neg, x.w⟩) = some (zn (sv n a * sv m b)) := by
    rw [mulWords_eq _ _ (can_W32 (by omega)) (can_W32 (by omega)), bsm, vl_can, vl_can, build_eq _ _ ⟨fun x hx => dig_lt (by decide) _ _ _ hx, by rw [dig_len]; omega⟩, bsm, zc_zn]
    have hv : vl (dig 4294967296 ((can 4294967296 a).length + (can 4294967296 b).length) (a * b)) = a * b := by
      show val _ _ = _
      rw [val_dig, Nat.mod_eq_of_lt]
      rw [Nat.pow_add]; exact Nat.mul_lt_mul'' la lb
    rw [hv, sv_mul]
  rw [hK]
  by_cases h1 : a < 4294967296
  · by_cases h2 : b < 4294967296
    · have l1 := low_eq (can 4294967296 a) (fun _ hx => can_lt (by decide) hx) (by have := can_len1.2 h1; omega)
      have l2 := low_eq (can 4294967296 b) (fun _ hx => can_lt (by decide) hx) (by have := can_len1.2 h2; omega)
      rw [vl_can] at l1 l2
      have hlt : a * b < 18446744073709551616 := Nat.mul_lt_mul'' h1 h2
      rw [show decide (((can 4294967296 a).length : Int) ≤ 1) = true by rw [decide_eq_true_eq]; exact can_len1.2 h1, ctm, bsm, show decide (((can 4294967296 b).length : Int) ≤ 1) = true by rw [decide_eq_true_eq]; exact can_len1.2 h2, ctm, l1, l2, bsm, bsm, Nat.mod_eq_of_lt hlt, small_eq _ _ hlt, bsm, zc_zn, sv_mul]
    · rw [show decide (((can 4294967296 a).length : Int) ≤ 1) = true by rw [decide_eq_true_eq]; exact can_len1.2 h1, ctm, bsm, show decide (((can 4294967296 b).length : Int) ≤ 1) = false by rw [decide_eq_false_iff_not]; exact fun h => h2 (can_len1.1 h), cfm]
  · rw [show decide (((can 4294967296 a).length : Int) ≤ 1) = false by rw [decide_eq_false_iff_not]; exact fun h => h1 (can_len1.1 h), cfm, bsm, cfm]
end Go.Proofs.Ytmiflmkdaeianaa
namespace Go.Proofs.Ytmiflmkdaeianaa
open Go.Fw
theorem sv_div (n m : Bool) {a b : Nat} (hb : 0 < b) :
    sv n a / sv m b = (if n = true ∧ 0 < a % b then sv (!(n == m)) (a / b + 1) else sv (!(n == m)) (a / b)) ∧
    sv n a % sv m b = (if n = true ∧ 0 < a % b then ((b - a % b : Nat) : Int) else ((a % b : Nat) : Int)) := by
  have hd := Nat.div_add_mod a b
  have hm := Nat.mod_lt a hb
  revert hd hm
  generalize a / b = q
  generalize a % b = r
  intro hd hm
  have hd' : (b : Int) * q + r = a := by exact_mod_cast hd
  have pos : ∀ n, sv n a / (b : Int) = (if n = true ∧ 0 < r then sv n (q + 1) else sv n q) ∧ sv n a % (b : Int) = (if n = true ∧ 0 < r then ((b - r : Nat) : Int) else (r : Int)) := by
    intro n
    apply (Int.ediv_emod_unique (by omega)).2
    cases n
    · simp [sv]; omega
    · by_cases hr : 0 < r
      · simp only [hr, and_self, if_true, sv, cond_true]
        have : (b : Int) * -((q + 1 : Nat) : Int) = -((b : Int) * q) - b := by
          rw [Int.mul_neg, Int.natCast_add, Int.mul_add]; simp; omega
        rw [this]; omega
      · have : r = 0 := by omega
        subst this
        simp [sv, Int.mul_neg]; omega
  cases m
  · have := pos n
    rw [sv_false, show (!(n == false)) = n by cases n <;> rfl]
    exact this
  · have := pos n
    rw [show sv true b = -(b : Int) from rfl, Int.ediv_neg, Int.emod_neg, this.1, this.2, show (!(n == true)) = !n by cases n <;> rfl, sv_not, sv_not]
    refine ⟨?_, rfl⟩
    split <;> rfl
theorem canSub {a b : Nat} (hba : b ≤ a) (hcl : (can 4294967296 a).length ≤ 10000000000) : whole_subWords_m (can 4294967296 a) (can 4294967296 b) = some (dig 4294967296 (can 4294967296 a).length (a - b)) ∧ vl (dig 4294967296 (can 4294967296 a).length (a - b)) = a - b := by
  have lc := lt_can_len (B := 4294967296) (by decide) a
  have hdl : (can 4294967296 b).length ≤ (can 4294967296 a).length := (can_len_iff (by decide)).2 (by omega)
  constructor
  · rw [subWords_eq _ _ (can_W32 (by omega)) (can_W32 (by omega)) hdl (by rw [vl_can, vl_can]; exact hba), vl_can, vl_can]
  · show val _ _ = _
    rw [val_dig, Nat.mod_eq_of_lt (by omega)]
def dmOf (i j : Int) : Zr × Zr × Int := if j = 0 then (⟨false, []⟩, ⟨false, []⟩, 7) else (zn (i / j), zn (i % j), 0)
theorem divMod_eq {x y : Zr} (hx : Wl x) (hy : Wl y) : whole_DivMod_m x y = some (dmOf (zi x) (zi y)) := by
  obtain ⟨n, w⟩ := x
  obtain ⟨m, u⟩ := y
  unfold whole_DivMod_m
  have hcx : (can 4294967296 (vl w)).length ≤ 10000000000 := hx.cl
  have hcy : (can 4294967296 (vl u)).length ≤ 10000000000 := hy.cl
  simp only []
  rw [show whole_trim_m w = some (can 4294967296 (vl w)) from hx.trim, show whole_trim_m u = some (can 4294967296 (vl u)) from hy.trim, bsm, bsm, show zi ⟨n, w⟩ = sv n (vl w) from rfl, show zi ⟨m, u⟩ = sv m (vl u) from rfl]
  simp only [bsm, letJ]
  generalize vl w = a at *
  generalize vl u = b at *
  by_cases h0 : b = 0
  · subst h0
    rw [show sv m 0 = 0 by cases m <;> rfl]; rfl
  · have hlen0 : (can 4294967296 b).length ≠ 0 := fun h => h0 (can_len0.1 h)
    rw [show decide (((can 4294967296 b).length : Int) = 0) = false by simp; intro e; rw [e] at hlen0; exact hlen0 rfl, cfm]
    obtain ⟨q, r, hqr, hq1, hq2, hr1, hr2, hq3, hr3⟩ := divWords_eq a b hcx hcy h0
    have hm : a % b < b := Nat.mod_lt _ (by omega)
    obtain ⟨e1, e2⟩ := sv_div n m (a := a) (show 0 < b by omega)
    have hj : sv m b ≠ 0 := by cases m <;> simp [sv] <;> omega
    rw [hqr, bsm]
    simp only []
    rw [trim_eq r (by have := hr1.2; omega), trim_can (by decide) hr1.1, show val 4294967296 r = a % b from hr2, bsm, dmOf, if_neg hj, e1, e2]
    have hrl : (can 4294967296 (a % b)).length ≤ (can 4294967296 b).length := (can_len_iff (by decide)).2 (Nat.lt_trans hm (lt_can_len (by decide) b))
    have hK : ∀ c : Bool, (decide (n = true ∧ 0 < a % b) = c) → (bif c then (whole_addWords_m q [1]).bind fun x39 => (whole_subWords_m (can 4294967296 b) (can 4294967296 (a % b))).bind fun x42 => (whole_build_m (!(n == m)) x39).bind fun x => (whole_build_m false x42).bind fun x_1 => some ((⟨x.neg, x.w⟩ : Zr), (⟨x_1.neg, x_1.w⟩ : Zr), (0 : Int))
        else (whole_build_m (!(n == m)) q).bind fun x => (whole_build_m false (can 4294967296 (a % b))).bind fun x_1 => some ((⟨x.neg, x.w⟩ : Zr), (⟨x_1.neg, x_1.w⟩ : Zr), (0 : Int))) =
        some (zn (if n = true ∧ 0 < a % b then sv (!(n == m)) (a / b + 1) else sv (!(n == m)) (a / b)), zn (if n = true ∧ 0 < a % b then ((b - a % b : Nat) : Int) else ((a % b : Nat) : Int)), 0) := by
      intro c hc
      cases c
      · have hc' := of_decide_eq_false hc
        rw [cfm, if_neg hc', if_neg hc', build_eq _ _ hq1, bsm, build_eq _ _ (can_W32 (by omega)), bsm, vl_can, hq2, zc_zn, zc_zn, sv_false]
      · have hc' := of_decide_eq_true hc
        obtain ⟨s1, s2⟩ := canSub (a := b) (b := a % b) (by omega) hcy
        have w1 : W32 [1] := ⟨by simp, by simp⟩
        rw [ctm, if_pos hc', if_pos hc', addWords_eq _ _ hq1 w1, bsm, s1, bsm, build_eq _ _ ⟨fun x hx => dig_lt (by decide) _ _ _ hx, by rw [dig_len]; simp; omega⟩, bsm, build_eq _ _ ⟨fun x hx => dig_lt (by decide) _ _ _ hx, by rw [dig_len]; omega⟩, bsm, s2, zc_zn, zc_zn, sv_false]
        have : vl (dig 4294967296 (max q.length [1].length + 1) (vl q + vl [1])) = a / b + 1 := by
          show val _ _ = _
          rw [val_dig, show vl [1] = 1 by decide, hq2, Nat.mod_eq_of_lt]
          have h1 : vl q < 4294967296 ^ q.length := val_lt q hq1.1
          rw [hq2] at h1
          have h2 : 4294967296 ^ q.length ≤ 4294967296 ^ (max q.length [1].length) := Nat.pow_le_pow_right (by decide) (by omega)
          have h3 : 0 < 4294967296 ^ (max q.length [1].length) := Nat.pow_pos (by decide)
          rw [Nat.pow_succ]; omega
        rw [this]
    have hz : (0 < (can 4294967296 (a % b)).length) ↔ 0 < a % b := by
      have := can_len0 (v := a % b); omega
    cases n
    · rw [cfm, bsm]
      exact hK false (by simp)
    · rw [ctm, bsm]
      refine hK _ ?_
      simp only [true_and]
      by_cases h : 0 < a % b
      · simp [h, hz.2 h]
      · have h' : ¬ 0 < (can 4294967296 (a % b)).length := fun e => h (hz.1 e)
        have h'' : ¬ ((0 : Int) < ((can 4294967296 (a % b)).length : Int)) := by omega
        simp only [h, h'', decide_false]
theorem gcd_eq {x y : Zr} (hx : Wl x) (hy : Wl y) : whole_GCD_m x y = some (zn (Int.gcd (zi x) (zi y) : Int)) := by
  obtain ⟨n, w⟩ := x
  obtain ⟨m, u⟩ := y
  unfold whole_GCD_m
  have hcx : (can 4294967296 (vl w)).length ≤ 10000000000 := hx.cl
  have hcy : (can 4294967296 (vl u)).length ≤ 10000000000 := hy.cl
  simp only []
  rw [show whole_trim_m w = some (can 4294967296 (vl w)) from hx.trim, show whole_trim_m u = some (can 4294967296 (vl u)) from hy.trim, bsm, bsm, Int.gcd, zi_abs, zi_abs]
  show _ = some (zn ((Nat.gcd (vl w) (vl u) : Nat) : Int))
  generalize vl w = a at *
  generalize vl u = b at *
  refine bind_loop (fun s => ∃ c d, s = (can 4294967296 c, can 4294967296 d) ∧ Nat.gcd c d = Nat.gcd a b ∧ (can 4294967296 c).length ≤ 10000000000 ∧ (can 4294967296 d).length ≤ 10000000000)
    (fun s => ∃ c d, s = (can 4294967296 c, can 4294967296 d) ∧ Nat.gcd c d = Nat.gcd a b ∧ (can 4294967296 c).length ≤ 10000000000 ∧ (d = 0 ∨ (c < 18446744073709551616 ∧ d < 18446744073709551616))) (fun s => vl s.2) ?_ ⟨a, b, rfl, rfl, hcx, hcy⟩ ?_
  · rintro _ ⟨c, d, rfl, hg, hc, hd⟩
    simp only [bsm, letJ]
    by_cases h0 : d = 0
    · right
      subst h0
      exact ⟨_, rfl, c, 0, rfl, hg, hc, .inl rfl⟩
    · have hlen0 : (can 4294967296 d).length ≠ 0 := fun h => h0 (can_len0.1 h)
      rw [show decide ((0 : Int) < ((can 4294967296 d).length : Int)) = true by simp; omega, ctm]
      by_cases h2 : c < 18446744073709551616 ∧ d < 18446744073709551616
      · right
        have c1 := can_len2.2 h2.1
        have c2 := can_len2.2 h2.2
        rw [show decide ((2 : Int) < ((can 4294967296 c).length : Int)) = false by simp; omega, cfm, show decide ((2 : Int) < ((can 4294967296 d).length : Int)) = false by simp; omega]
        exact ⟨_, rfl, c, d, rfl, hg, hc, .inr h2⟩
      · left
        have hm : c % d < d := Nat.mod_lt _ (by omega)
        obtain ⟨q, r, hqr, hq1, hq2, hr1, hr2, -, -⟩ := divWords_eq c d hc hd h0
        have hcond : ((bif decide ((2 : Int) < ((can 4294967296 c).length : Int)) then some true else some (decide ((2 : Int) < ((can 4294967296 d).length : Int)))) : Option Bool) = some true := by
          by_cases hc2 : c < 18446744073709551616
          · have hd2 : ¬ d < 18446744073709551616 := fun h => h2 ⟨hc2, h⟩
            have : ¬ (((can 4294967296 d).length : Int) ≤ 2) := fun h => hd2 (can_len2.1 h)
            rw [show decide ((2 : Int) < ((can 4294967296 d).length : Int)) = true by simp; omega]
            exact bif_same _ _
          · have : ¬ (((can 4294967296 c).length : Int) ≤ 2) := fun h => hc2 (can_len2.1 h)
            rw [show decide ((2 : Int) < ((can 4294967296 c).length : Int)) = true by simp; omega, ctm]
        rw [hcond, bsm, bsm, ctm, hqr, bsm]
        simp only []
        rw [trim_eq r (by have := hr1.2; omega), trim_can (by decide) hr1.1, show val 4294967296 r = c % d from hr2, bsm]
        refine ⟨_, rfl, ⟨d, c % d, rfl, ?_, hd, ?_⟩, ?_⟩
        · rw [← hg, Nat.gcd_comm d, ← Nat.gcd_rec, Nat.gcd_comm]
        · exact Nat.le_trans ((can_len_iff (by decide)).2 (Nat.lt_trans hm (lt_can_len (by decide) d))) hd
        · simp only [vl_can]; exact hm
  · rintro _ ⟨c, d, rfl, hg, hc, hcase⟩
    simp only [bsm]
    by_cases h0 : d = 0
    · subst h0
      rw [show decide (((can 4294967296 0).length : Int) = 0) = true by simp [can_zero], ctm, clone_eq _ (by omega), bsm, build_eq _ _ (can_W32 (by omega)), bsm, vl_can, zc_zn, sv_false, ← hg, Nat.gcd_zero_right]
    · have h2 := hcase.resolve_left h0
      have hlen0 : (can 4294967296 d).length ≠ 0 := fun h => h0 (can_len0.1 h)
      have c1 := can_len2.2 h2.1
      have c2 := can_len2.2 h2.2
      rw [show decide (((can 4294967296 d).length : Int) = 0) = false by simp; intro e; rw [e] at hlen0; exact hlen0 rfl, cfm, low_eq _ (fun _ hx => can_lt (by decide) hx) (by omega), bsm, low_eq _ (fun _ hx => can_lt (by decide) hx) (by omega), bsm, vl_can, vl_can]
      refine bind_loop (fun s => Nat.gcd s.1 s.2 = Nat.gcd a b ∧ s.1 < 18446744073709551616 ∧ s.2 < 18446744073709551616) (fun e => e = Nat.gcd a b ∧ e < 18446744073709551616) (fun s => s.2) ?_ ⟨hg, h2.1, h2.2⟩ ?_
      · rintro ⟨s, t⟩ ⟨i1, i2, i3⟩
        simp only at i1 i2 i3 ⊢
        by_cases ht : 0 < t
        · left
          rw [show decide (0 < t) = true by simp [ht], ctm, urem_of (by omega), bsm]
          refine ⟨_, rfl, ⟨?_, i3, ?_⟩, Nat.mod_lt _ ht⟩
          · rw [← i1, Nat.gcd_comm t, ← Nat.gcd_rec, Nat.gcd_comm]
          · exact Nat.lt_trans (Nat.mod_lt _ ht) i3
        · right
          rw [show decide (0 < t) = false by simp [ht], cfm]
          refine ⟨_, rfl, ?_, i2⟩
          rw [← i1, show t = 0 by omega, Nat.gcd_zero_right]
      · rintro e ⟨rfl, he⟩
        rw [small_eq _ _ he, bsm, zc_zn, sv_false]
end Go.Proofs.Ytmiflmkdaeianaa
namespace Go.Proofs.Ytmiflmkdaeianaa
open Go.Fw
def zl (l : List Nat) : List Int := l.map (fun (n : Nat) => (n : Int))
theorem zl_len (l : List Nat) : (zl l).length = l.length := by simp [zl]
theorem zl_get {l : List Nat} {i x : Nat} (h : l[i]? = some x) : (zl l)[i]? = some (x : Int) := by simp [zl, h]
theorem zl_app (l k : List Nat) : zl (l ++ k) = zl l ++ zl k := by simp [zl]
theorem zl_one (x : Nat) : zl [x] = [(x : Int)] := rfl
theorem zl_take (l : List Nat) (n : Nat) : (zl l).take n = zl (l.take n) := by simp [zl, List.map_take]
theorem zl_set (l : List Nat) (i x : Nat) : (zl l).set i (x : Int) = zl (l.set i x) := by simp [zl, List.map_set]
def H16 (l : List Nat) : Prop := (∀ x ∈ l, x < 65536) ∧ l.length ≤ 100000000000
abbrev v16 (l : List Nat) : Nat := val 65536 l
theorem rtrim_eq (l : List Nat) (hl : l.length ≤ 1000000000000) : ref01_trim_m (zl l) = some (zl (trimW l)) := by
  unfold ref01_trim_m
  simp only [bsm]
  refine bind_loop (fun y => ∃ n : Nat, y = (n : Int) ∧ n ≤ l.length ∧ trimW (l.take n) = trimW l) (fun y => ∃ n : Nat, y = (n : Int) ∧ n ≤ l.length ∧ l.take n = trimW l) (fun y => y.toNat) ?_ ⟨l.length, by rw [zl_len], Nat.le_refl _, by rw [List.take_length]⟩ ?_
  · rintro _ ⟨n, rfl, hn, ht⟩
    simp only [letJ]
    rcases n with _ | n
    · right
      refine ⟨_, rfl, 0, rfl, by omega, ?_⟩
      rw [← ht]; rfl
    · have hi : ∃ x, l[n]? = some x := ⟨l[n], by simp⟩
      obtain ⟨x, hx⟩ := hi
      have htk : l.take (n + 1) = l.take n ++ [x] := by
        rw [List.take_add_one, hx]; rfl
      rw [show decide ((0 : Int) < ((n + 1 : Nat) : Int)) = true by rw [decide_eq_true_eq]; omega, ctm, w64_pred (by omega), geti_nat (zl_get hx), bsm]
      by_cases h0 : x = 0
      · left
        subst h0
        rw [show decide (((0 : Nat) : Int) = 0) = true by simp, bsm, ctm]
        refine ⟨_, rfl, ⟨n, rfl, by omega, ?_⟩, by omega⟩
        rw [← ht, htk, trimW_zero]
      · right
        rw [show decide (((x : Nat) : Int) = 0) = false by simp; omega, bsm, cfm]
        refine ⟨_, rfl, n + 1, rfl, hn, ?_⟩
        rw [← ht, htk, trimW_last _ h0]
  · rintro _ ⟨n, rfl, hn, ht⟩
    rw [subM_zero (by rw [zl_len]; exact hn), bsm, zl_take, ht]
theorem at_eq {l : List Nat} (h : ∀ x ∈ l, x < 65536) (i : Nat) : ref01_at_m (zl l) (i : Int) = some ((v16 l / 65536 ^ i % 65536 : Nat) : Int) := by
  unfold ref01_at_m
  simp only [bsm]
  rw [zl_len]
  by_cases hi : i < l.length
  · rw [show decide ((i : Int) < (l.length : Int)) = true by simp [hi], ctm, geti_nat (zl_get (get_val h hi)), bsm]
  · rw [show decide ((i : Int) < (l.length : Int)) = false by simp; omega, cfm]
    have : v16 l / 65536 ^ i = 0 := Nat.div_eq_of_lt (Nat.lt_of_lt_of_le (val_lt l h) (Nat.pow_le_pow_right (by decide) (by omega)))
    rw [this]; rfl
theorem val_halves (V k : Nat) : dig 65536 (2 * k) V ++ [V / 4294967296 ^ k % 4294967296 % 65536, V / 4294967296 ^ k % 4294967296 / 65536] = dig 65536 (2 * (k + 1)) V := by
  have e : 65536 ^ (2 * k) = 4294967296 ^ k := by rw [Nat.pow_mul]
  rw [show 2 * (k + 1) = 2 * k + 1 + 1 by omega, dig_succ, dig_succ, Nat.pow_succ, e, ← Nat.div_div_eq_div_mul, List.append_assoc]
  generalize V / 4294967296 ^ k = x
  rw [show x % 4294967296 % 65536 = x % 65536 by omega, show x % 4294967296 / 65536 = x / 65536 % 65536 by omega]
  rfl
theorem halves_eq (w : List Nat) (hw : W32 w) : ref01_halves_m w = some (zl (can 65536 (vl w))) := by
  obtain ⟨hl, hn⟩ := hw
  unfold ref01_halves_m
  refine bind_loop_to (fun i => ((i : Int), zl (dig 65536 (2 * i) (vl w)))) w.length (zl (dig 65536 (2 * w.length) (vl w))) ?_ (fun k hk => ?_) ?_ ?_
  · rfl
  · have hg := get_val hl hk
    have hlt := Nat.mod_lt (val 4294967296 w / 4294967296 ^ k) (show 0 < 4294967296 by decide)
    have hv := val_halves (vl w) k
    simp only [bsm]
    rw [show decide ((k : Int) < (w.length : Int)) = true by simp [hk], ctm, geti_nat hg, bsm, bsm, w64_nat (by omega), w64_nat (by omega), apMl (by decide) (by rw [zl_len, dig_len]; simp; omega), bsm, w64_succ (by omega)]
    rw [← hv, zl_app]
    rw [show val 4294967296 w / 4294967296 ^ k % 4294967296 / 65536 % 4294967296 = val 4294967296 w / 4294967296 ^ k % 4294967296 / 65536 by omega]
    rfl
  · simp
  · rw [rtrim_eq _ (by rw [dig_len]; omega), bsm, trim_dig (by decide)]
    rw [Nat.pow_mul]; exact val_lt w hl
theorem pow16 (k : Nat) : 65536 ^ (2 * k) = 4294967296 ^ k := by rw [Nat.pow_mul]
theorem can_halves (v : Nat) : can 4294967296 v = dig 4294967296 (((can 65536 v).length + 1) / 2) v := by
  have h1 := lt_can_len (B := 65536) (by decide) v
  obtain ⟨n, hn⟩ : ∃ n, (can 65536 v).length = n := ⟨_, rfl⟩
  rw [hn] at h1 ⊢
  have h2 : v < 4294967296 ^ ((n + 1) / 2) := by
    rw [← pow16]; exact Nat.lt_of_lt_of_le h1 (Nat.pow_le_pow_right (by decide) (by omega))
  rw [can_dig (by decide) v]
  congr 1
  have h3 := (can_len_iff (B := 4294967296) (by decide)).2 h2
  refine Nat.le_antisymm h3 ?_
  rcases n with _ | n
  · simp
  · have h4 : 65536 ^ n ≤ v := pow_le_of_can (by decide) (by omega)
    obtain ⟨m, hm⟩ : ∃ m, (n + 1 + 1) / 2 = m + 1 := ⟨n / 2, by omega⟩
    rw [hm]
    rcases Nat.lt_or_ge m (can 4294967296 v).length with h | h
    · exact h
    · have h5 := (can_len_iff (B := 4294967296) (by decide)).1 h
      rw [← pow16] at h5
      have : 65536 ^ (2 * m) ≤ 65536 ^ n := Nat.pow_le_pow_right (by decide) (by omega)
      omega
theorem of_eq (n : Bool) (l : List Nat) (hl : H16 l) : ref01_of_m n (zl l) = some (zc n (v16 l)) := by
  obtain ⟨h, hn⟩ := hl
  unfold ref01_of_m
  rw [rtrim_eq _ (by omega), bsm, trim_can (by decide) h]
  have hc : (can 65536 (val 65536 l)).length ≤ l.length := (can_len_iff (by decide)).2 (val_lt l h)
  show _ = some (zc n (val 65536 l))
  generalize val 65536 l = v at *
  have hcl : ∀ x ∈ can 65536 v, x < 65536 := fun _ hx => can_lt (by decide) hx
  have hat := fun i => at_eq hcl i
  refine bind_loop_to (fun i => (((2 * i : Nat) : Int), dig 4294967296 i v)) (((can 65536 v).length + 1) / 2) (can 4294967296 v) ?_ (fun k hk => ?_) ?_ ?_
  · rfl
  · have a1 := hat (2 * k)
    have a2 := hat (2 * k + 1)
    rw [show v16 (can 65536 v) = v from val_can (by decide) v] at a1 a2
    rw [pow16] at a1
    rw [Nat.pow_succ, pow16, ← Nat.div_div_eq_div_mul] at a2
    simp only [bsm]
    rw [zl_len, show decide (((2 * k : Nat) : Int) < ((can 65536 v).length : Int)) = true by simp; omega, ctm, a1, bsm, w64_succ (by omega), a2, bsm]
    rw [dig_succ]
    have e : ((((v / 4294967296 ^ k % 65536 : Nat) : Int) % 4294967296).toNat + (((v / 4294967296 ^ k / 65536 % 65536 : Nat) : Int) % 4294967296).toNat * 65536 % 4294967296) % 4294967296 = v / 4294967296 ^ k % 4294967296 := by
      generalize v / 4294967296 ^ k = x
      omega
    rw [e, apM1 (by decide) (by rw [dig_len]; omega), bsm, show ((2 * k : Nat) : Int) + 2 = ((2 * (k + 1) : Nat) : Int) by omega, w64_nat (by omega)]
  · simp only [bsm]
    rw [zl_len, show decide (((2 * (((can 65536 v).length + 1) / 2) : Nat) : Int) < ((can 65536 v).length : Int)) = false by simp; omega, cfm, ← can_halves]
  · simp only [letJ]
    rw [zc]
    have hz := can_len0 (v := v)
    cases n
    · rw [cfm, bsm]; rfl
    · rw [ctm, bsm, bsm, bsm]
      congr 2
      by_cases h0 : v = 0
      · rw [h0]; rfl
      · have : ¬ (can 4294967296 v).length = 0 := fun e => h0 (hz.1 e)
        rw [show decide ((0 : Int) < ((can 4294967296 v).length : Int)) = true by rw [decide_eq_true_eq]; omega, show (true && v != 0) = true by simp [h0]]
theorem of_can (n : Bool) (v : Nat) (hl : (can 65536 v).length ≤ 100000000000) : ref01_of_m n (zl (can 65536 v)) = some (zn (sv n v)) := by
  rw [of_eq n _ ⟨fun _ hx => can_lt (by decide) hx, hl⟩, show v16 (can 65536 v) = v from val_can (by decide) v, zc_zn]
theorem can16_len {w : List Nat} (hw : ∀ x ∈ w, x < 4294967296) : (can 65536 (vl w)).length ≤ 2 * w.length := by
  apply (can_len_iff (by decide)).2
  rw [pow16]; exact val_lt w hw
theorem halves_of {x : Zr} (h : Wl x) : ref01_halves_m x.w = some (zl (can 65536 (zi x).natAbs)) := by
  rw [zi_abs]; exact halves_eq _ ⟨h.1, by have := h.2; omega⟩
theorem Wl.c16 {x : Zr} (h : Wl x) : (can 65536 (zi x).natAbs).length ≤ 20000000000 := by
  rw [zi_abs]; have := can16_len h.1; have := h.2; omega
theorem least_eq {x : Zr} (h : Wl x) : ref01_Least_m x = some (zn (zi x)) := by
  obtain ⟨n, w⟩ := x
  have h1 := halves_of h
  have h2 := h.c16
  unfold ref01_Least_m
  simp only []
  rw [show ref01_halves_m w = _ from h1, bsm, of_can _ _ (by omega), bsm, zi_abs]
  rfl
theorem same_eq {x y : Zr} (h : x.w.length ≤ 100000000000) : ∃ b, ref01_Same_m x y = some b ∧ (b = true ↔ x = y) := by
  obtain ⟨n, w⟩ := x
  obtain ⟨m, u⟩ := y
  unfold ref01_Same_m
  simp only [bsm, letJ]
  by_cases hnm : n = m
  · subst hnm
    rw [show (!(n == n)) = false by simp, cfm, bsm]
    by_cases hl : w.length = u.length
    · rw [show decide ((w.length : Int) ≠ (u.length : Int)) = false by simp [hl], cfm]
      refine bind_loop_ex (fun y => ∃ i : Nat, y = (i : Int) ∧ i ≤ w.length ∧ w.take i = u.take i) (fun e => (∃ c, e = .inl c ∧ w = u) ∨ (e = .inr false ∧ w ≠ u)) (fun y => w.length - y.toNat) ?_ ⟨0, rfl, by omega, rfl⟩ ?_
      · rintro _ ⟨i, rfl, hi, ht⟩
        by_cases hlt : i < w.length
        · have g1 : w[i]? = some w[i] := by simp
          have g2 : u[i]? = some (u[i]'(by omega)) := by simp
          rw [show decide ((i : Int) < (w.length : Int)) = true by simp [hlt], ctm, geti_nat g1, bsm, geti_nat g2, bsm]
          by_cases he : w[i] = u[i]'(by omega)
          · left
            rw [show decide (w[i] ≠ u[i]'(by omega)) = false by simp [he], cfm, w64_succ (by simp at h; omega)]
            refine ⟨_, rfl, ⟨i + 1, rfl, hlt, ?_⟩, by omega⟩
            rw [List.take_add_one, List.take_add_one, ht, g1, g2, he]
          · right
            rw [show decide (w[i] ≠ u[i]'(by omega)) = true by simp [he], ctm]
            refine ⟨_, rfl, .inr ⟨rfl, ?_⟩⟩
            rintro rfl; exact he rfl
        · right
          rw [show decide ((i : Int) < (w.length : Int)) = false by simp; omega, cfm]
          refine ⟨_, rfl, .inl ⟨_, rfl, ?_⟩⟩
          rw [List.take_of_length_le (by omega), List.take_of_length_le (by omega)] at ht
          exact ht
      · rintro e (⟨c, rfl, he⟩ | ⟨rfl, he⟩)
        · exact ⟨true, rfl, by simp [he]⟩
        · exact ⟨false, rfl, by simp [he]⟩
    · rw [show decide ((w.length : Int) ≠ (u.length : Int)) = true by simp; omega, ctm]
      refine ⟨_, rfl, ?_⟩
      simp only [Bool.false_eq_true, false_iff]
      intro e
      have : w = u := congrArg Zr.w e
      exact hl (by rw [this])
  · rw [show (!(n == m)) = true by simp [hnm], ctm, bsm, ctm]
    refine ⟨_, rfl, ?_⟩
    simp only [Bool.false_eq_true, false_iff]
    intro e
    exact hnm (congrArg Zr.neg e)
theorem same_refl {x : Zr} (h : x.w.length ≤ 100000000000) : ref01_Same_m x x = some true := by
  obtain ⟨b, h1, h2⟩ := same_eq (y := x) h
  rw [h1, h2.2 rfl]
theorem from_eq {x : Int} (h : i64ok x) : ref01_From_m x = some (zn x) := by
  unfold i64ok at h
  have key : ∀ (v : Nat) (n : Bool), v < 18446744073709551616 → ((ref01_Least_m ⟨n, [v % 4294967296 % 4294967296, v / 4294967296 % 18446744073709551616 % 4294967296]⟩).bind fun x => some (⟨x.neg, x.w⟩ : Zr)) = some (zn (sv n v)) := by
    intro v n hv
    rw [least_eq ⟨by simp; omega, by simp⟩, bsm]
    show some (zn (sv n (vl _))) = _
    congr 3
    simp only [vl, val]
    omega
  unfold ref01_From_m
  simp only [bsm, letJ]
  by_cases hx : x < 0
  · have e : (x % 18446744073709551616).toNat = 18446744073709551616 - x.natAbs := by omega
    rw [show decide (x < 0) = true by simp [hx], ctm, e, usub_lt (by omega) (by omega), show 18446744073709551616 + 0 - (18446744073709551616 - x.natAbs) = x.natAbs by omega, key _ _ (by omega), show sv true x.natAbs = x by simp [sv]; omega]
  · have e : (x % 18446744073709551616).toNat = x.natAbs := by omega
    rw [show decide (x < 0) = false by simp [hx], cfm, e, key _ _ (by omega), show sv false x.natAbs = x by simp [sv]; omega]
end Go.Proofs.Ytmiflmkdaeianaa
namespace Go.Proofs.Ytmiflmkdaeianaa
open Go.Fw
theorem p9 (k : Nat) : 10 ^ (9 * (k + 1)) = 10 ^ (9 * k) * 1000000000 := by
  rw [show 9 * (k + 1) = 9 * k + 9 by omega, Nat.pow_add]
end Go.Proofs.Ytmiflmkdaeianaa
namespace Go.Proofs.Ytmiflmkdaeianaa
open Go.Fw
def body (s : Str) : Str := if s.head? = some 45 then s.tail else s
def z0 : Zr := ⟨false, []⟩
end Go.Proofs.Ytmiflmkdaeianaa
namespace Go.Proofs.Ytmiflmkdaeianaa
open Go.Fw
theorem zeta' (z : Zr) : (⟨z.neg, z.w⟩ : Zr) = z := by cases z; rfl
theorem small_fit {i : Int} (h : i64ok i) : Fit 2 i := Fit.i64 h.1 h.2
theorem wl_small {i : Int} (h : i64ok i) : Wl (zn i) := wl_zn (small_fit h) (by decide)
end Go.Proofs.Ytmiflmkdaeianaa
namespace Go.Proofs.Ytmiflmkdaeianaa
open Go.Fw
theorem cmpI_sub (i j : Int) : (i - j).sign = cmpI i j := by
  rcases Int.lt_trichotomy i j with h | h | h
  · rw [cmpI_lt h, Int.sign_eq_neg_one_of_neg (by omega)]
  · rw [h, cmpI_self, Int.sub_self]; rfl
  · rw [cmpI_gt h, Int.sign_eq_one_of_pos (by omega)]
theorem cmpI_flip (i j : Int) : IntKind.i64.wrap (0 - cmpI j i) = cmpI i j := by
  rcases Int.lt_trichotomy i j with h | h | h
  · rw [cmpI_lt h, cmpI_gt h]; rfl
  · rw [h, cmpI_self]; rfl
  · rw [cmpI_gt h, cmpI_lt h]; rfl
abbrev OkZ (z : Zr) : Prop := True ∧ (z.w.length ≤ 9223372036854775807 ∧ ∀ x ∈ z.w, x < 4294967296)
end Go.Proofs.Ytmiflmkdaeianaa
namespace Go.Proofs.Ytmiflmkdaeianaa
open Go.Fw
theorem Fit.gcd {L : Nat} {i j : Int} (h : Fit L i) (h' : Fit L j) : Fit L (Int.gcd i j : Int) := by
  by_cases h0 : i = 0
  · subst h0; rw [Int.gcd_zero_left]; exact h'.le (by simp)
  · have : Int.gcd i j ∣ i.natAbs := Nat.gcd_dvd_left _ _
    exact h.le (by have := Nat.le_of_dvd (by omega) this; simpa using this)
end Go.Proofs.Ytmiflmkdaeianaa
namespace Go.Proofs.Ytmiflmkdaeianaa
open Go.Fw
def qd (q : Qr) : Int := if zi q.den = 0 then 1 else zi q.den
def qv (q : Qr) : Rat := Rat.divInt (zi q.num) (qd q)
def qn (r : Rat) : Qr := ⟨zn r.num, if r.den = 1 then ⟨false, []⟩ else zn (r.den : Int)⟩
def FQ (L : Nat) (r : Rat) : Prop := Fit L r.num ∧ Fit L (r.den : Int)
structure Rep (L : Nat) (q : Qr) (r : Rat) : Prop where
  n : ∀ x ∈ q.num.w, x < 4294967296
  d : ∀ x ∈ q.den.w, x < 4294967296
  ln : q.num.w.length ≤ L
  ld : q.den.w.length ≤ L
  l1 : 1 ≤ L
  v : qv q = r
theorem qd_ne (q : Qr) : qd q ≠ 0 := by
  unfold qd
  by_cases h : zi q.den = 0
  · rw [if_pos h]; decide
  · rw [if_neg h]; exact h
theorem qv_qn (r : Rat) : qv (qn r) = r := by
  unfold qv qd qn
  by_cases h : r.den = 1
  · rw [if_pos h]
    show Rat.divInt (zi (zn r.num)) (if zi ⟨false, []⟩ = 0 then 1 else zi ⟨false, []⟩) = r
    rw [if_pos (show zi ⟨false, []⟩ = 0 from rfl), zi_zn]
    have := Rat.num_divInt_den r
    rw [h] at this; exact this
  · rw [if_neg h]
    show Rat.divInt (zi (zn r.num)) (if zi (zn (r.den : Int)) = 0 then 1 else zi (zn (r.den : Int))) = r
    have := r.den_nz
    rw [zi_zn, zi_zn, if_neg (by omega), Rat.num_divInt_den]
theorem fit_len {w : List Nat} {n : Bool} {L : Nat} (h : ∀ x ∈ w, x < 4294967296) (hl : w.length ≤ L) : Fit L (zi ⟨n, w⟩) := by
  unfold Fit
  rw [zi_abs]
  exact Nat.lt_of_lt_of_le (val_lt w h) (Nat.pow_le_pow_right (by decide) hl)
theorem fit_one {L : Nat} (h : 1 ≤ L) : Fit L 1 := by
  unfold Fit
  exact Nat.lt_of_lt_of_le (show (1 : Int).natAbs < 4294967296 ^ 1 by decide) (Nat.pow_le_pow_right (by decide) h)
theorem FQ.rep {L : Nat} {r : Rat} (h : FQ L r) (h1 : 1 ≤ L) : Rep L (qn r) r := by
  refine ⟨fun x hx => can_lt (by decide) hx, ?_, (can_len_iff (by decide)).2 h.1, ?_, h1, qv_qn r⟩
  · unfold qn
    by_cases e : r.den = 1
    · rw [if_pos e]; simp
    · rw [if_neg e]; exact fun x hx => can_lt (by decide) hx
  · unfold qn
    by_cases e : r.den = 1
    · rw [if_pos e]; simp
    · rw [if_neg e]; exact (can_len_iff (by decide)).2 h.2
theorem Rep.wn {L : Nat} {q : Qr} {r : Rat} (h : Rep L q r) (hL : L ≤ 10000000000) : Wl q.num := ⟨h.n, Nat.le_trans h.ln hL⟩
theorem Rep.wd {L : Nat} {q : Qr} {r : Rat} (h : Rep L q r) (hL : L ≤ 10000000000) : Wl q.den := ⟨h.d, Nat.le_trans h.ld hL⟩
theorem Rep.fn {L : Nat} {q : Qr} {r : Rat} (h : Rep L q r) : Fit L (zi q.num) := fit_len (n := q.num.neg) h.n h.ln
theorem Rep.fd {L : Nat} {q : Qr} {r : Rat} (h : Rep L q r) : Fit L (zi q.den) := fit_len (n := q.den.neg) h.d h.ld
theorem Rep.fqd {L : Nat} {q : Qr} {r : Rat} (h : Rep L q r) : Fit L (qd q) := by
  unfold qd
  by_cases e : zi q.den = 0
  · rw [if_pos e]; exact fit_one h.l1
  · rw [if_neg e]; exact h.fd
theorem Rep.mono {L M : Nat} {q : Qr} {r : Rat} (h : Rep L q r) (hl : L ≤ M) : Rep M q r := ⟨h.n, h.d, Nat.le_trans h.ln hl, Nat.le_trans h.ld hl, Nat.le_trans h.l1 hl, h.v⟩
theorem FQ.mono {L M : Nat} {r : Rat} (h : FQ L r) (hl : L ≤ M) : FQ M r := ⟨h.1.mono hl, h.2.mono hl⟩
theorem fq_divInt {L : Nat} {a d : Int} (h0 : d ≠ 0) (ha : Fit L a) (hd : Fit L d) : FQ L (Rat.divInt a d) := by
  generalize hr : Rat.divInt a d = r
  obtain ⟨n', d', z', c⟩ := r
  obtain ⟨m, hm, h1, h2⟩ := Rat.divInt_num_den h0 hr
  have hm' : 0 < m.natAbs := Int.natAbs_pos.2 hm
  refine ⟨ha.le ?_, hd.le ?_⟩
  · rw [h1, Int.natAbs_mul]; exact Nat.le_mul_of_pos_right _ hm'
  · rw [h2, Int.natAbs_mul]; exact Nat.le_mul_of_pos_right _ hm'
theorem Rep.fq {L : Nat} {q : Qr} {r : Rat} (h : Rep L q r) : FQ L r := by rw [← h.v]; exact fq_divInt (qd_ne q) h.fn h.fqd
theorem rat_div (r : Rat) : r = Rat.divInt r.num (r.den : Int) := (Rat.num_divInt_den r).symm
theorem den_ne (r : Rat) : (r.den : Int) ≠ 0 := by have := r.den_nz; omega
theorem FQ.add {L M : Nat} {x y : Rat} (hx : FQ L x) (hy : FQ M y) : FQ (L + M + 1) (x + y) := by
  have e : x + y = Rat.divInt (x.num * y.den + y.num * x.den) (x.den * y.den) := by
    conv => lhs; rw [rat_div x, rat_div y, Rat.divInt_add_divInt _ _ (den_ne x) (den_ne y)]
  rw [e]
  refine fq_divInt (Int.mul_ne_zero (den_ne x) (den_ne y)) ?_ ?_
  · exact (hx.1.mul hy.2).add (by rw [Nat.add_comm L M]; exact hy.1.mul hx.2)
  · exact (hx.2.mul hy.2).mono (by omega)
theorem FQ.sub {L M : Nat} {x y : Rat} (hx : FQ L x) (hy : FQ M y) : FQ (L + M + 1) (x - y) := by
  have e : x - y = Rat.divInt (x.num * y.den - y.num * x.den) (x.den * y.den) := by
    conv => lhs; rw [rat_div x, rat_div y, Rat.divInt_sub_divInt _ _ (den_ne x) (den_ne y)]
  rw [e]
  refine fq_divInt (Int.mul_ne_zero (den_ne x) (den_ne y)) ?_ ?_
  · exact (hx.1.mul hy.2).sub (by rw [Nat.add_comm L M]; exact hy.1.mul hx.2)
  · exact (hx.2.mul hy.2).mono (by omega)
theorem FQ.mul {L M : Nat} {x y : Rat} (hx : FQ L x) (hy : FQ M y) : FQ (L + M) (x * y) := by
  have e : x * y = Rat.divInt (x.num * y.num) (x.den * y.den) := by
    conv => lhs; rw [rat_div x, rat_div y, Rat.divInt_mul_divInt]
  rw [e]
  exact fq_divInt (Int.mul_ne_zero (den_ne x) (den_ne y)) (hx.1.mul hy.1) (hx.2.mul hy.2)
theorem FQ.neg {L : Nat} {x : Rat} (hx : FQ L x) : FQ L (-x) := ⟨hx.1.neg, hx.2⟩
theorem FQ.int {L : Nat} {i : Int} (h : Fit L i) (h1 : 1 ≤ L) : FQ L (i : Rat) := ⟨h, fit_one h1⟩
theorem FQ.floor {L : Nat} {x : Rat} (hx : FQ L x) : Fit L x.floor := by
  rw [Rat.floor_def]
  exact hx.1.le (Int.natAbs_ediv_le_natAbs _ _)
def cmpQ (x y : Rat) : Int := if x < y then -1 else if x = y then 0 else 1
theorem cmpQ_self (x : Rat) : cmpQ x x = 0 := by unfold cmpQ; rw [if_neg Rat.lt_irrefl, if_pos rfl]
theorem cmpQ_lt {x y : Rat} (h : x < y) : cmpQ x y = -1 := if_pos h
theorem cmpQ_gt {x y : Rat} (h : y < x) : cmpQ x y = 1 := by
  unfold cmpQ
  rw [if_neg (fun h' => by grind), if_neg (fun h' => by grind)]
theorem divInt_lt {a b c d : Int} (hb : 0 < b) (hd : 0 < d) : Rat.divInt a b < Rat.divInt c d ↔ a * d < c * b := by
  have hb' : (0 : Rat) < (b : Rat) := Rat.intCast_pos.2 hb
  have hd' : (0 : Rat) < (d : Rat) := Rat.intCast_pos.2 hd
  rw [Rat.divInt_eq_div, Rat.divInt_eq_div, Rat.div_lt_iff hb', Rat.div_def, Rat.mul_assoc, Rat.mul_comm (d : Rat)⁻¹, ← Rat.mul_assoc, ← Rat.div_def, Rat.lt_div_iff hd', ← Rat.intCast_mul, ← Rat.intCast_mul, Rat.intCast_lt_intCast]
theorem cmpQ_int {a b c d : Int} (hb : 0 < b) (hd : 0 < d) : cmpQ (Rat.divInt a b) (Rat.divInt c d) = cmpI (a * d) (c * b) := by
  unfold cmpQ cmpI
  have e1 := divInt_lt (a := a) (c := c) hb hd
  have e2 := Rat.divInt_eq_divInt_iff (n₁ := a) (d₁ := b) (n₂ := c) (d₂ := d) (by omega) (by omega)
  by_cases h1 : a * d < c * b
  · rw [if_pos (e1.2 h1), if_pos h1]
  · rw [if_neg (fun h => h1 (e1.1 h)), if_neg h1]
    by_cases h2 : a * d = c * b
    · rw [if_pos (e2.2 h2), if_pos h2]
    · rw [if_neg (fun h => h2 (e2.1 h)), if_neg h2]
theorem sign_divInt {a b : Int} (hb : 0 < b) : a.sign = cmpQ (Rat.divInt a b) 0 := by
  have : (0 : Rat) = Rat.divInt 0 1 := rfl
  rw [this, cmpQ_int hb (by decide), Int.mul_one, Int.zero_mul, ← cmpI_sub, Int.sub_zero]
theorem qn_divInt {a d : Int} (hd : 0 < d) : qn (Rat.divInt a d) = ⟨zn (a / (Int.gcd a d : Int)), if d / (Int.gcd a d : Int) = 1 then ⟨false, []⟩ else zn (d / (Int.gcd a d : Int))⟩ := by
  have h1 : (Rat.divInt a d).num = a / (Int.gcd a d : Int) := by rw [Rat.num_divInt, Int.sign_eq_one_of_pos hd, Int.one_mul, Int.gcd_comm]
  have h2 : ((Rat.divInt a d).den : Int) = d / (Int.gcd a d : Int) := by
    rw [Rat.den_divInt, if_neg (by omega), Int.gcd_comm]
    have : (d.natAbs : Int) = d := by omega
    rw [Int.natCast_ediv, this]
  unfold qn
  rw [h1, h2]
  by_cases e : (Rat.divInt a d).den = 1
  · rw [if_pos e, if_pos (by omega)]
  · rw [if_neg e, if_neg (by omega)]
theorem i64_one (k : Int) : ((bif (i64of k).2 then some (decide ((i64of k).1 = 1)) else some false) : Option Bool) = some (decide (k = 1)) := by
  by_cases h : i64ok k
  · rw [i64of_ok h]; rfl
  · rw [i64of_no h]
    have : ¬ k = 1 := by rintro rfl; exact h (by decide)
    rw [decide_eq_false this]; rfl
theorem reduce_pos {n d : Zr} (hn : Wl n) (hd : Wl d) (h : 0 < zi d) : ((whole_GCD_m n d).bind fun g => (whole_DivMod_m n g).bind fun a => (whole_DivMod_m d g).bind fun b => (whole_Int64_m b.1).bind fun c =>
    (bif c.2 then some (decide (c.1 = 1)) else some false).bind fun e => bif e then some (⟨a.1, ⟨false, []⟩⟩ : Qr) else some ⟨a.1, b.1⟩) = some (qn (Rat.divInt (zi n) (zi d))) := by
  have g0 : (Int.gcd (zi n) (zi d) : Int) ≠ 0 := by
    have : 0 < Int.gcd (zi n) (zi d) := Int.gcd_pos_of_ne_zero_right _ (by omega)
    omega
  have wg : Wl (zn (Int.gcd (zi n) (zi d) : Int)) := wl_zn ((Wl.fit hd).le (by
    have := Nat.le_of_dvd (Int.natAbs_pos.2 (show zi d ≠ 0 by omega)) (Int.gcd_dvd_natAbs_right (zi n) (zi d))
    simpa using this)) hd.2
  have wq : Wl (zn (zi d / (Int.gcd (zi n) (zi d) : Int))) := wl_zn ((Wl.fit hd).le (Int.natAbs_ediv_le_natAbs _ _)) hd.2
  rw [gcd_eq hn hd, bsm, divMod_eq hn wg, bsm, divMod_eq hd wg, bsm, zi_zn, dmOf, if_neg g0, dmOf, if_neg g0]
  simp only []
  rw [int64_eq wq, bsm, zi_zn, i64_one, bsm, qn_divInt h]
  by_cases e : zi d / (Int.gcd (zi n) (zi d) : Int) = 1
  · rw [decide_eq_true e, ctm, if_pos e]
  · rw [decide_eq_false e, cfm, if_neg e]
theorem reduce_eq {x y : Zr} (hx : Wl x) (hy : Wl y) (h0 : zi y ≠ 0) : frac_reduce_m x y = some (qn (Rat.divInt (zi x) (zi y))) := by
  unfold frac_reduce_m
  simp only [letJ, bsm, zeta', sign_eq hy]
  by_cases h : zi y < 0
  · rw [show decide ((zi y).sign < 0) = true by rw [Int.sign_eq_neg_one_of_neg h]; rfl, ctm, neg_eq hx, bsm, neg_eq hy, bsm]
    have hp := reduce_pos (wl_zn (Wl.fit hx).neg hx.2) (wl_zn (Wl.fit hy).neg hy.2) (by rw [zi_zn]; omega)
    rw [zi_zn, zi_zn, Rat.neg_divInt_neg] at hp
    exact hp
  · rw [show decide ((zi y).sign < 0) = false by rw [Int.sign_eq_one_of_pos (by omega)]; rfl, cfm]
    exact reduce_pos hx hy (by omega)
end Go.Proofs.Ytmiflmkdaeianaa
namespace Go.Proofs.Ytmiflmkdaeianaa
open Go.Fw
theorem zetaQ (q : Qr) : (⟨⟨q.num.neg, q.num.w⟩, ⟨q.den.neg, q.den.w⟩⟩ : Qr) = q := by cases q; rfl
theorem zetaP (q : Qr) : (⟨q.num, q.den⟩ : Qr) = q := by cases q; rfl
theorem parts_eq {L : Nat} {q : Qr} {r : Rat} (h : Rep L q r) (hL : L ≤ 10000000000) : ∃ n d : Zr, frac_parts_m q = some (n, d) ∧ Wl n ∧ Wl d ∧ 0 < zi d ∧ Rat.divInt (zi n) (zi d) = r ∧ Fit L (zi n) ∧ Fit L (zi d) := by
  have wn := h.wn hL
  have wd := h.wd hL
  have hv := h.v
  unfold frac_parts_m
  simp only [zeta', bsm, sign_eq wd, fromInt_eq (x := 1) (by decide) (by decide), neg_eq wn, neg_eq wd]
  unfold qv qd at hv
  rcases Int.lt_trichotomy (zi q.den) 0 with h1 | h1 | h1
  · refine ⟨_, _, ?_, wl_zn h.fn.neg hL, wl_zn h.fd.neg hL, by rw [zi_zn]; omega, ?_, by rw [zi_zn]; exact h.fn.neg, by rw [zi_zn]; exact h.fd.neg⟩
    · rw [Int.sign_eq_neg_one_of_neg h1]; rfl
    · rw [zi_zn, zi_zn, Rat.neg_divInt_neg, ← hv, if_neg (by omega)]
  · refine ⟨_, _, ?_, wn, wl_zn (fit_one h.l1) hL, by rw [zi_zn]; decide, ?_, h.fn, by rw [zi_zn]; exact fit_one h.l1⟩
    · rw [h1]; rfl
    · rw [zi_zn, ← hv, if_pos h1]
  · refine ⟨_, _, ?_, wn, wd, h1, ?_, h.fn, h.fd⟩
    · rw [Int.sign_eq_one_of_pos h1]; rfl
    · rw [← hv, if_neg (by omega)]
def Sm (a : Int) : Prop := -2147483648 < a ∧ a < 2147483648
theorem Sm.ok {a : Int} (h : Sm a) : i64ok a := by unfold Sm at h; unfold i64ok; omega
theorem short_eq {L : Nat} {q : Qr} {r : Rat} (h : Rep L q r) (hL : L ≤ 10000000000) : ∃ a b c, frac_short_m q = some (a, b, c) ∧ (c = true → Sm a ∧ 0 < b ∧ Sm b ∧ Rat.divInt a b = r) := by
  have wn := h.wn hL
  have wd := h.wd hL
  have hv := h.v
  unfold frac_short_m
  simp only [zeta', bsm, letJ, int64_eq wn, int64_eq wd]
  unfold qv qd at hv
  generalize zi q.num = n at *
  generalize zi q.den = d at *
  by_cases hs : Sm n ∧ Sm d
  · obtain ⟨h1, h2⟩ := hs
    rw [i64of_ok h1.ok, i64of_ok h2.ok]
    unfold Sm at h1 h2
    simp only []
    rw [decide_eq_false (show ¬ n ≤ -2147483648 by omega), decide_eq_false (show ¬ 2147483648 ≤ n by omega), decide_eq_false (show ¬ d ≤ -2147483648 by omega), decide_eq_false (show ¬ 2147483648 ≤ d by omega)]
    simp only [Bool.not_true, cfm, bsm]
    by_cases h0 : d = 0
    · rw [decide_eq_true h0, ctm]
      refine ⟨_, _, _, rfl, fun _ => ⟨h1, by decide, ⟨by decide, by decide⟩, ?_⟩⟩
      rw [← hv, if_pos h0]
    · rw [decide_eq_false h0, cfm]
      rw [if_neg h0] at hv
      by_cases hneg : d < 0
      · rw [decide_eq_true hneg, ctm, w64_id (by omega) (by omega), w64_id (by omega) (by omega)]
        refine ⟨_, _, _, rfl, fun _ => ⟨⟨by omega, by omega⟩, by omega, ⟨by omega, by omega⟩, ?_⟩⟩
        rw [Int.zero_sub, Int.zero_sub, Rat.neg_divInt_neg, hv]
      · rw [decide_eq_false hneg, cfm]
        exact ⟨_, _, _, rfl, fun _ => ⟨h1, by omega, h2, hv⟩⟩
  · refine ⟨0, 0, false, ?_, fun e => by cases e⟩
    by_cases o1 : i64ok n
    · by_cases o2 : i64ok d
      · rw [i64of_ok o1, i64of_ok o2]
        simp only [Bool.not_true, cfm, bsm]
        unfold Sm at hs
        by_cases c1 : n ≤ -2147483648
        · rw [decide_eq_true c1]; simp only [bsm, ctm]
        · rw [decide_eq_false c1]; simp only [bsm, cfm]
          by_cases c2 : 2147483648 ≤ n
          · rw [decide_eq_true c2]; simp only [bsm, ctm]
          · rw [decide_eq_false c2]; simp only [bsm, cfm]
            by_cases c3 : d ≤ -2147483648
            · rw [decide_eq_true c3]; simp only [bsm, ctm]
            · rw [decide_eq_false c3]; simp only [bsm, cfm]
              rw [decide_eq_true (show 2147483648 ≤ d by omega)]; simp only [ctm]
      · rw [i64of_ok o1, i64of_no o2]; simp only [Bool.not_true, Bool.not_false, cfm, bsm, ctm]
    · rw [i64of_no o1]; simp only [Bool.not_false, bsm, ctm]
theorem tdiv_dvd {a g : Int} (hg : 0 < g) (h : g ∣ a) : Int.tdiv a g = a / g := by
  obtain ⟨k, rfl⟩ := h
  rw [Int.mul_tdiv_cancel_left _ (by omega), Int.mul_ediv_cancel_left _ (by omega)]
theorem ratio_eq {n d : Int} (hd : 0 < d) (hd' : d ≤ 9223372036854775807) (hn : -9223372036854775807 ≤ n) (hn' : n ≤ 9223372036854775807) : frac_ratio_m n d = some (qn (Rat.divInt n d)) := by
  unfold frac_ratio_m
  simp only [bsm, letJ]
  refine bind_loop (fun s => Int.gcd s.1 s.2 = Int.gcd n d ∧ s.1.natAbs ≤ 9223372036854775807 ∧ s.2.natAbs ≤ 9223372036854775807) (fun e => e.natAbs = Int.gcd n d ∧ e.natAbs ≤ 9223372036854775807) (fun s => s.2.natAbs) ?_ ⟨rfl, by simp only []; omega, by simp only []; omega⟩ ?_
  · rintro ⟨a, b⟩ ⟨i1, i2, i3⟩
    simp only at i1 i2 i3 ⊢
    by_cases hb : b = 0
    · right
      subst hb
      refine ⟨a, by simp, ?_, i2⟩
      rw [← i1]; simp [Int.gcd]
    · left
      rw [decide_eq_true hb, ctm, irem, if_neg hb, bsm]
      have hm : (Int.tmod a b).natAbs = a.natAbs % b.natAbs := Int.natAbs_tmod a b
      have hlt := Nat.mod_lt a.natAbs (Int.natAbs_pos.2 hb)
      refine ⟨_, rfl, ⟨?_, i3, by simp only []; omega⟩, by simp only []; omega⟩
      simp only []
      rw [← i1, Int.gcd, Int.gcd, hm, Nat.gcd_comm b.natAbs, ← Nat.gcd_rec, Nat.gcd_comm]
  · rintro e ⟨he, hle⟩
    obtain ⟨g, hg⟩ : ∃ g : Int, (Int.gcd n d : Int) = g := ⟨_, rfl⟩
    have hgp : 0 < g := by have := Int.gcd_pos_of_ne_zero_right n (show d ≠ 0 by omega); omega
    have hgn : g ∣ n := hg ▸ Int.gcd_dvd_left ..
    have hgd : g ∣ d := hg ▸ Int.gcd_dvd_right ..
    have hK : ∀ m : Int, m = g → (bif decide (m = d) then (iquo n m).bind fun x24 => (whole_FromInt64_m x24).bind fun x => some (⟨⟨x.neg, x.w⟩, ⟨false, []⟩⟩ : Qr) else (iquo n m).bind fun x29 => (whole_FromInt64_m x29).bind fun x => (iquo d m).bind fun x33 => (whole_FromInt64_m x33).bind fun y => some ⟨⟨x.neg, x.w⟩, ⟨y.neg, y.w⟩⟩) = some (qn (Rat.divInt n d)) := by
      rintro m rfl
      have b1 : (n / m).natAbs ≤ n.natAbs := Int.natAbs_ediv_le_natAbs _ _
      have b2 : (d / m).natAbs ≤ d.natAbs := Int.natAbs_ediv_le_natAbs _ _
      have q1 : iquo n m = some (n / m) := by
        rw [iquo, if_neg (by omega), tdiv_dvd hgp hgn, w64_id (by omega) (by omega)]
      have q2 : iquo d m = some (d / m) := by
        rw [iquo, if_neg (by omega), tdiv_dvd hgp hgd, w64_id (by omega) (by omega)]
      rw [qn_divInt hd, hg, q1, q2]
      simp only [bsm, fromInt_eq (x := n / m) (by omega) (by omega), fromInt_eq (x := d / m) (by omega) (by omega), zeta']
      by_cases e1 : m = d
      · rw [decide_eq_true e1, ctm, if_pos (by rw [e1]; exact Int.ediv_self (by omega))]
      · rw [decide_eq_false e1, cfm, if_neg]
        intro e2
        have := Int.ediv_mul_cancel hgd
        rw [e2] at this; omega
    by_cases hneg : e < 0
    · rw [decide_eq_true hneg, ctm, w64_id (by omega) (by omega)]
      exact hK _ (by omega)
    · rw [decide_eq_false hneg, cfm]
      exact hK _ (by omega)
theorem calc_help {a b : Int} (ha : Sm a) (hb : Sm b) : -4611686018427387904 < a * b ∧ a * b < 4611686018427387904 := by
  unfold Sm at ha hb
  have h1 : (a * b).natAbs = a.natAbs * b.natAbs := Int.natAbs_mul a b
  have h2 : a.natAbs * b.natAbs ≤ 2147483647 * 2147483647 := Nat.mul_le_mul (by omega) (by omega)
  omega
theorem pos_mul {a b : Int} (ha : 0 < a) (hb : 0 < b) : 0 < a * b := Int.mul_pos ha hb
section ops
variable {L M : Nat} {a b : Qr} {x y : Rat}
theorem Rep.add (ha : Rep L a x) (hb : Rep M b y) (h : L + M ≤ 4000000000) : frac_Add_m a b = some (qn (x + y)) ∧ Rep (L + M + 1) (qn (x + y)) (x + y) := by
  refine ⟨?_, (ha.fq.add hb.fq).rep (by omega)⟩
  obtain ⟨n1, d1, c1, e1, k1⟩ := short_eq ha (by omega)
  obtain ⟨n2, d2, c2, e2, k2⟩ := short_eq hb (by omega)
  obtain ⟨p1, q1, f1, w1, w2, g1, v1, t1, t2⟩ := parts_eq ha (by omega)
  obtain ⟨p2, q2, f2, w3, w4, g2, v2, t3, t4⟩ := parts_eq hb (by omega)
  have hcalc : frac_calcAdd_m a b = some (qn (x + y)) := by
    unfold frac_calcAdd_m frac_operations_1_m
    have u1 := wl_zn (t1.mul t4) (by omega)
    have u2 := wl_zn (t3.mul t2) (by omega)
    have u3 := wl_zn (t2.mul t4) (by omega)
    have u4 := wl_zn ((t1.mul t4).add ((t3.mul t2).mono (by omega))) (by omega)
    simp only [zeta', zetaQ, zetaP, f1, f2, bsm, mul_eq w1 w4, mul_eq w3 w2, add_eq u1 u2, mul_eq w2 w4, zi_zn]
    rw [reduce_eq u4 u3 (by rw [zi_zn]; have := pos_mul g1 g2; omega), bsm, zi_zn, zi_zn, ← v1, ← v2, Rat.divInt_add_divInt _ _ (by omega) (by omega)]
  unfold frac_Add_m
  simp only [zeta', zetaQ, zetaP, e1, e2, bsm, letJ, hcalc]
  cases c1
  · rw [cfm, bsm, cfm]
  · cases c2
    · rw [ctm, bsm, cfm]
    · obtain ⟨s1, s2, s3, s4⟩ := k1 rfl
      obtain ⟨s5, s6, s7, s8⟩ := k2 rfl
      have m1 := calc_help s1 s7
      have m2 := calc_help s5 s3
      have m3 := calc_help s3 s7
      have m4 := pos_mul s2 s6
      rw [ctm, bsm, ctm, w64_id (x := n1 * d2) (by omega) (by omega), w64_id (x := n2 * d1) (by omega) (by omega), w64_id (x := d1 * d2) (by omega) (by omega), w64_id (by omega) (by omega), ratio_eq m4 (by omega) (by omega) (by omega), bsm, ← s4, ← s8, Rat.divInt_add_divInt _ _ (by omega) (by omega)]
theorem Rep.sub (ha : Rep L a x) (hb : Rep M b y) (h : L + M ≤ 4000000000) : frac_Sub_m a b = some (qn (x - y)) ∧ Rep (L + M + 1) (qn (x - y)) (x - y) := by
  refine ⟨?_, (ha.fq.sub hb.fq).rep (by omega)⟩
  obtain ⟨n1, d1, c1, e1, k1⟩ := short_eq ha (by omega)
  obtain ⟨n2, d2, c2, e2, k2⟩ := short_eq hb (by omega)
  obtain ⟨p1, q1, f1, w1, w2, g1, v1, t1, t2⟩ := parts_eq ha (by omega)
  obtain ⟨p2, q2, f2, w3, w4, g2, v2, t3, t4⟩ := parts_eq hb (by omega)
  have hcalc : frac_calcSub_m a b = some (qn (x - y)) := by
    unfold frac_calcSub_m frac_operations_2_m
    have u1 := wl_zn (t1.mul t4) (by omega)
    have u2 := wl_zn (t3.mul t2) (by omega)
    have u3 := wl_zn (t2.mul t4) (by omega)
    have u4 := wl_zn ((t1.mul t4).sub ((t3.mul t2).mono (by omega))) (by omega)
    simp only [zeta', zetaQ, zetaP, f1, f2, bsm, mul_eq w1 w4, mul_eq w3 w2, sub_eq u1 u2, mul_eq w2 w4, zi_zn]
    rw [reduce_eq u4 u3 (by rw [zi_zn]; have := pos_mul g1 g2; omega), bsm, zi_zn, zi_zn, ← v1, ← v2, Rat.divInt_sub_divInt _ _ (by omega) (by omega)]
  unfold frac_Sub_m
  simp only [zeta', zetaQ, zetaP, e1, e2, bsm, letJ, hcalc]
  cases c1
  · rw [cfm, bsm, cfm]
  · cases c2
    · rw [ctm, bsm, cfm]
    · obtain ⟨s1, s2, s3, s4⟩ := k1 rfl
      obtain ⟨s5, s6, s7, s8⟩ := k2 rfl
      have m1 := calc_help s1 s7
      have m2 := calc_help s5 s3
      have m3 := calc_help s3 s7
      have m4 := pos_mul s2 s6
      rw [ctm, bsm, ctm, w64_id (x := n1 * d2) (by omega) (by omega), w64_id (x := n2 * d1) (by omega) (by omega), w64_id (x := d1 * d2) (by omega) (by omega), w64_id (by omega) (by omega), ratio_eq m4 (by omega) (by omega) (by omega), bsm, ← s4, ← s8, Rat.divInt_sub_divInt _ _ (by omega) (by omega)]
theorem Rep.canon (ha : Rep L a x) (h : L ≤ 10000000000) : frac_Canonical_m a = some (qn x) ∧ Rep L (qn x) x := by
  refine ⟨?_, ha.fq.rep ha.l1⟩
  obtain ⟨n1, d1, c1, e1, k1⟩ := short_eq ha (by omega)
  obtain ⟨p1, q1, f1, w1, w2, g1, v1, t1, t2⟩ := parts_eq ha (by omega)
  unfold frac_Canonical_m
  simp only [zeta', zetaQ, zetaP, e1, bsm, f1]
  cases c1
  · rw [cfm, reduce_eq w1 w2 (by omega), bsm, v1]
  · obtain ⟨s1, s2, s3, s4⟩ := k1 rfl
    unfold Sm at s1 s3
    rw [ctm, ratio_eq s2 (by omega) (by omega) (by omega), bsm, s4]
end ops
end Go.Proofs.Ytmiflmkdaeianaa
namespace Go.Proofs.Ytmiflmkdaeianaa
open Go.Fw
theorem floor_divInt {p q : Int} (hq : 0 < q) : (Rat.divInt p q).floor = p / q := by
  have key : ∀ k : Int, k ≤ (Rat.divInt p q).floor ↔ k ≤ p / q := by
    intro k
    rw [Rat.le_floor_iff, ← Rat.not_lt, show (k : Rat) = Rat.divInt k 1 by rw [Rat.divInt_eq_div]; show _ = (k : Rat) / 1; grind, divInt_lt hq (by decide), Int.mul_one, Int.not_lt, Int.le_ediv_iff_mul_le hq]
  exact Int.le_antisymm ((key _).1 (Int.le_refl _)) ((key _).2 (Int.le_refl _))
theorem cmpI_sign {p q u v : Int} (hq : 0 < q) (hv : 0 < v) (h : p.sign ≠ u.sign ∨ p.sign = 0) : frac_sign_m (IntKind.i64.wrap (p.sign - u.sign)) = some (cmpI (p * v) (u * q)) := by
  have pv : 0 < p → 0 < p * v := fun h => Int.mul_pos h hv
  have pv' : p < 0 → p * v < 0 := fun h => Int.mul_neg_of_neg_of_pos h hv
  have uq : 0 < u → 0 < u * q := fun h => Int.mul_pos h hq
  have uq' : u < 0 → u * q < 0 := fun h => Int.mul_neg_of_neg_of_pos h hq
  rcases Int.lt_trichotomy p 0 with e1 | e1 | e1 <;> rcases Int.lt_trichotomy u 0 with e2 | e2 | e2
  · rw [Int.sign_eq_neg_one_of_neg e1, Int.sign_eq_neg_one_of_neg e2] at h; simp at h
  · have := pv' e1
    rw [Int.sign_eq_neg_one_of_neg e1, e2, Int.zero_mul, cmpI_lt this]; rfl
  · have := pv' e1
    have := uq e2
    rw [Int.sign_eq_neg_one_of_neg e1, Int.sign_eq_one_of_pos e2, cmpI_lt (by omega)]; rfl
  · have := uq' e2
    rw [Int.sign_eq_neg_one_of_neg e2, e1, Int.zero_mul, cmpI_gt this]; rfl
  · rw [e1, e2, Int.zero_mul, Int.zero_mul]; rfl
  · have := uq e2
    rw [Int.sign_eq_one_of_pos e2, e1, Int.zero_mul, cmpI_lt this]; rfl
  · have := pv e1
    have := uq' e2
    rw [Int.sign_eq_one_of_pos e1, Int.sign_eq_neg_one_of_neg e2, cmpI_gt (by omega)]; rfl
  · have := pv e1
    rw [Int.sign_eq_one_of_pos e1, e2, Int.zero_mul, cmpI_gt this]; rfl
  · rw [Int.sign_eq_one_of_pos e1, Int.sign_eq_one_of_pos e2] at h; simp at h
theorem qn_int (i : Int) : qn (i : Rat) = ⟨zn i, ⟨false, []⟩⟩ := by
  unfold qn
  rw [Rat.den_intCast, if_pos rfl, Rat.num_intCast]
section ops
variable {L M : Nat} {a b : Qr} {x y : Rat}
theorem Rep.neg (ha : Rep L a x) (h : L ≤ 10000000000) : frac_Neg_m a = some (qn (-x)) ∧ Rep L (qn (-x)) (-x) := by
  refine ⟨?_, ha.fq.neg.rep ha.l1⟩
  unfold frac_Neg_m
  have r := (ha.canon h).2
  simp only [zeta', zetaQ, zetaP, (ha.canon h).1, bsm, neg_eq (r.wn h)]
  show some (⟨zn (-zi (zn x.num)), _⟩ : Qr) = some (qn (-x))
  rw [zi_zn]; rfl
theorem Rep.cmp (ha : Rep L a x) (hb : Rep M b y) (h : L + M ≤ 4000000000) : frac_Cmp_m a b = some (cmpQ x y) := by
  obtain ⟨p1, q1, f1, w1, w2, g1, v1, t1, t2⟩ := parts_eq ha (by omega)
  obtain ⟨p2, q2, f2, w3, w4, g2, v2, t3, t4⟩ := parts_eq hb (by omega)
  unfold frac_Cmp_m
  have u1 := wl_zn (t1.mul t4) (by omega)
  have u2 := wl_zn (t3.mul t2) (by omega)
  simp only [zeta', zetaQ, zetaP, f1, f2, bsm, letJ, sign_eq w1, sign_eq w3, mul_eq w1 w4, mul_eq w3 w2, cmp_eq u1 u2, zi_zn]
  rw [← v1, ← v2, cmpQ_int g1 g2]
  by_cases e1 : (zi p1).sign = (zi p2).sign
  · rw [show decide ((zi p1).sign ≠ (zi p2).sign) = false by simp [e1], cfm, bsm]
    by_cases e2 : (zi p1).sign = 0
    · rw [decide_eq_true e2, ctm, cmpI_sign g1 g2 (.inr e2), bsm]
    · rw [decide_eq_false e2, cfm]
  · rw [show decide ((zi p1).sign ≠ (zi p2).sign) = true by simp [e1], ctm, bsm, ctm, cmpI_sign g1 g2 (.inl e1), bsm]
theorem Rep.floor (ha : Rep L a x) (h : L ≤ 10000000000) : frac_Floor_m a = some (zn x.floor) := by
  obtain ⟨p1, q1, f1, w1, w2, g1, v1, t1, t2⟩ := parts_eq ha h
  unfold frac_Floor_m
  simp only [zeta', zetaQ, zetaP, f1, bsm, divMod_eq w1 w2]
  rw [dmOf, if_neg (by omega), ← v1, floor_divInt g1]
theorem new_eq {n d : Int} (hn : i64ok n) (hd : i64ok d) (h0 : d ≠ 0) : frac_New_m n d = some (qn (Rat.divInt n d), 0) ∧ Rep 2 (qn (Rat.divInt n d)) (Rat.divInt n d) := by
  refine ⟨?_, (fq_divInt h0 (small_fit hn) (small_fit hd)).rep (by decide)⟩
  unfold frac_New_m
  simp only [zeta', zetaQ, zetaP, bsm, fromInt_eq hn.1 hn.2, fromInt_eq hd.1 hd.2]
  rw [decide_eq_false h0, cfm, reduce_eq (wl_small hn) (wl_small hd) (by rw [zi_zn]; exact h0), bsm, zi_zn, zi_zn]
theorem zi_zero : zi ⟨false, []⟩ = 0 := rfl
theorem wl_zero : Wl ⟨false, []⟩ := ⟨by simp, by simp⟩
theorem fromInteger_eq {z : Zr} (hz : Wl z) : frac_FromInteger_m z = some (qn (zi z : Rat)) := by
  unfold frac_FromInteger_m frac_copyOf_m
  simp only [zeta', bsm, add_eq hz wl_zero, zi_zero, Int.add_zero]
  rw [qn_int]
theorem rep_pair {n d : Int} (h0 : d ≠ 0) (hn : Fit L n) (hd : Fit L d) (h : 1 ≤ L) : Rep L ⟨zn n, zn d⟩ (Rat.divInt n d) := by
  refine ⟨fun x hx => can_lt (by decide) hx, fun x hx => can_lt (by decide) hx, (can_len_iff (by decide)).2 hn, (can_len_iff (by decide)).2 hd, h, ?_⟩
  unfold qv qd
  simp only [zi_zn]
  rw [if_neg h0]
end ops
end Go.Proofs.Ytmiflmkdaeianaa
namespace Go.Proofs.Ytmiflmkdaeianaa
open Go.Fw
theorem v16_lt {l : List Nat} (h : H16 l) : v16 l < 65536 ^ l.length := val_lt l h.1
theorem tm {a : Nat} : Int.tmod (a : Int) 65536 = ((a % 65536 : Nat) : Int) := by
  rw [Int.tmod_eq_emod_of_nonneg (by omega)]; omega
theorem td {a : Nat} : Int.tdiv (a : Int) 65536 = ((a / 65536 : Nat) : Int) := by
  rw [Int.tdiv_eq_ediv_of_nonneg (by omega)]; omega
theorem rcmp_eq (l k : List Nat) (hl : H16 l) (hk : H16 k) : ref01_cmp_m (zl l) (zl k) = some (cmpN (v16 l) (v16 k)) := by
  unfold ref01_cmp_m
  simp only [bsm]
  rw [zl_len, zl_len, show max (l.length : Int) (k.length : Int) = ((max l.length k.length : Nat) : Int) by omega, w64_id (by have := hl.2; have := hk.2; omega) (by have := hl.2; have := hk.2; omega)]
  have h1 : v16 l < 65536 ^ (max l.length k.length) := Nat.lt_of_lt_of_le (v16_lt hl) (Nat.pow_le_pow_right (by decide) (by omega))
  have h2 : v16 k < 65536 ^ (max l.length k.length) := Nat.lt_of_lt_of_le (v16_lt hk) (Nat.pow_le_pow_right (by decide) (by omega))
  have hm : max l.length k.length ≤ 100000000000 := by have := hl.2; have := hk.2; omega
  have a1 := at_eq hl.1
  have a2 := at_eq hk.1
  generalize v16 l = V at *
  generalize v16 k = W at *
  generalize max l.length k.length = n at *
  refine bind_loop (fun y => ∃ m : Nat, y = (m : Int) - 1 ∧ m ≤ n ∧ V / 65536 ^ m = W / 65536 ^ m) (fun e => (∃ c, e = .inl c ∧ V = W) ∨ e = .inr (cmpN V W)) (fun y => (y + 1).toNat) ?_ ⟨n, rfl, Nat.le_refl _, by rw [Nat.div_eq_of_lt h1, Nat.div_eq_of_lt h2]⟩ ?_
  · rintro _ ⟨m, rfl, hmn, he⟩
    rcases m with _ | m
    · right
      refine ⟨_, rfl, .inl ⟨_, rfl, ?_⟩⟩
      simpa using he
    · rw [show ((m + 1 : Nat) : Int) - 1 = (m : Int) by omega, show decide ((0 : Int) ≤ (m : Int)) = true by simp, ctm, a1, bsm, a2, bsm]
      rcases dig_cases he with ⟨hd, hq⟩ | ⟨hd, hlt⟩ | ⟨hd, hlt⟩
      · left
        rw [hd, show decide (((W / 65536 ^ m % 65536 : Nat) : Int) < ((W / 65536 ^ m % 65536 : Nat) : Int)) = false by simp, cfm, bsm, bsm, show decide (((W / 65536 ^ m % 65536 : Nat) : Int) < ((W / 65536 ^ m % 65536 : Nat) : Int)) = false by simp, cfm, w64_id (by omega) (by omega)]
        exact ⟨_, rfl, ⟨m, rfl, by omega, hq⟩, by omega⟩
      · right
        rw [show decide (((V / 65536 ^ m % 65536 : Nat) : Int) < ((W / 65536 ^ m % 65536 : Nat) : Int)) = true by rw [decide_eq_true_eq]; omega, ctm]
        exact ⟨_, rfl, .inr (by rw [cmpN_lt hlt])⟩
      · right
        rw [show decide (((V / 65536 ^ m % 65536 : Nat) : Int) < ((W / 65536 ^ m % 65536 : Nat) : Int)) = false by rw [decide_eq_false_iff_not]; omega, cfm, bsm, bsm, show decide (((W / 65536 ^ m % 65536 : Nat) : Int) < ((V / 65536 ^ m % 65536 : Nat) : Int)) = true by rw [decide_eq_true_eq]; omega, ctm]
        exact ⟨_, rfl, .inr (by rw [cmpN_gt hlt])⟩
  · rintro e (⟨c, rfl, rfl⟩ | rfl)
    · rw [cmpN_eq]
    · rfl
theorem radd_eq (l k : List Nat) (hl : H16 l) (hk : H16 k) : ref01_add_m (zl l) (zl k) = some (zl (can 65536 (v16 l + v16 k))) := by
  unfold ref01_add_m
  have h1 : v16 l < 65536 ^ (max l.length k.length) := Nat.lt_of_lt_of_le (v16_lt hl) (Nat.pow_le_pow_right (by decide) (by omega))
  have h2 : v16 k < 65536 ^ (max l.length k.length) := Nat.lt_of_lt_of_le (v16_lt hk) (Nat.pow_le_pow_right (by decide) (by omega))
  have hm : max l.length k.length ≤ 100000000000 := by have := hl.2; have := hk.2; omega
  have a1 := at_eq hl.1
  have a2 := at_eq hk.1
  rw [zl_len, zl_len]
  generalize v16 l = V at *
  generalize v16 k = W at *
  refine bind_loop (fun s => ∃ i : Nat, s = (((cry 65536 V W i : Nat) : Int), (i : Int), zl (dig 65536 i (V + W))) ∧ i ≤ max l.length k.length + 1) (fun e => ∃ i, e = zl (dig 65536 i (V + W)) ∧ V + W < 65536 ^ i ∧ i ≤ max l.length k.length + 1) (fun s => max l.length k.length + 1 - s.2.1.toNat) ?_ ⟨0, by rw [cry_zero]; rfl, by omega⟩ ?_
  · rintro _ ⟨i, rfl, hi⟩
    have hc := cry_le (B := 65536) (by decide) V W i
    have hs1 := cry_step (B := 65536) (by decide) V W i
    have hs2 := cry_dig (B := 65536) (by decide) V W i
    have d1 := Nat.mod_lt (V / 65536 ^ i) (show 0 < 65536 by decide)
    have d2 := Nat.mod_lt (W / 65536 ^ i) (show 0 < 65536 by decide)
    simp only [bsm, letJ]
    have hcond : ∀ (K : Bool → Option ((Int × Int × List Int) ⊕ List Int)), (((bif decide ((i : Int) < (l.length : Int)) then some true else some (decide ((i : Int) < (k.length : Int)))) : Option Bool).bind fun c => ((bif c then some true else some (decide ((0 : Int) < ((cry 65536 V W i : Nat) : Int)))) : Option Bool).bind K) = K (decide (i < max l.length k.length ∨ 0 < cry 65536 V W i)) := by
      intro K
      by_cases q1 : i < l.length
      · have : i < max l.length k.length := by omega
        simp [q1, this]
      · by_cases q2 : i < k.length
        · have : i < max l.length k.length := by omega
          simp [q1, q2, this]
        · have : ¬ i < max l.length k.length := by omega
          simp [q1, q2, this]
    rw [hcond]
    by_cases hgo : i < max l.length k.length ∨ 0 < cry 65536 V W i
    · left
      have hi' : i < max l.length k.length + 1 := by
        rcases Nat.lt_or_ge i (max l.length k.length + 1) with h | h
        · exact h
        · have hie : i = max l.length k.length + 1 := by omega
          have hp : 65536 ^ i = 65536 ^ (max l.length k.length) * 65536 := by rw [hie, Nat.pow_succ]
          have g3 := cry_end (B := 65536) (V := V) (W := W) (k := i) (by omega) (by omega)
          rw [Nat.div_eq_of_lt (by omega)] at g3
          omega
      rw [show decide (i < max l.length k.length ∨ 0 < cry 65536 V W i) = true by rw [decide_eq_true_eq]; exact hgo, ctm, a1, bsm, a2, bsm, w64_add (by omega), w64_add (by omega), tm, td, hs1, hs2, apM1 (by decide) (by rw [zl_len, dig_len]; omega), bsm, w64_nat (by have := cry_le (B := 65536) (by decide) V W (i + 1); omega), w64_succ (by omega)]
      refine ⟨_, rfl, ⟨i + 1, ?_, by omega⟩, by simp only []; omega⟩
      rw [dig_succ, zl_app, zl_one]
    · right
      rw [show decide (i < max l.length k.length ∨ 0 < cry 65536 V W i) = false by rw [decide_eq_false_iff_not]; exact hgo, cfm]
      refine ⟨_, rfl, i, rfl, ?_, hi⟩
      have g1 : V < 65536 ^ i := Nat.lt_of_lt_of_le h1 (Nat.pow_le_pow_right (by decide) (by omega))
      have g2 : W < 65536 ^ i := Nat.lt_of_lt_of_le h2 (Nat.pow_le_pow_right (by decide) (by omega))
      have g3 := cry_end (B := 65536) g1 g2
      rcases Nat.lt_or_ge (V + W) (65536 ^ i) with h | h
      · exact h
      · have := Nat.div_pos h (Nat.pow_pos (by decide)); omega
  · rintro _ ⟨i, rfl, hlt, hi⟩
    rw [rtrim_eq _ (by rw [dig_len]; omega), bsm, trim_dig (by decide) hlt]
theorem rsub_eq (l k : List Nat) (hl : H16 l) (hk : H16 k) (hle : v16 k ≤ v16 l) : ref01_sub_m (zl l) (zl k) = some (zl (can 65536 (v16 l - v16 k))) := by
  unfold ref01_sub_m
  have h1 := v16_lt hl
  have hm := hl.2
  have a1 := at_eq hl.1
  have a2 := at_eq hk.1
  rw [zl_len]
  generalize v16 l = V at *
  generalize v16 k = W at *
  refine bind_loop_to (fun i => (((1 - lnd 65536 V W i : Nat) : Int), (i : Int), zl (dig 65536 i (V - W)))) l.length (zl (dig 65536 l.length (V - W))) ?_ (fun i hi => ?_) ?_ ?_
  · rw [lnd_zero]; rfl
  · have hc := lnd_le (B := 65536) (by decide) V W i
    have hs1 := lnd_step (B := 65536) (by decide) V W i
    have hs2 := lnd_dig (B := 65536) (by decide) hle i
    have d1 := Nat.mod_lt (V / 65536 ^ i) (show 0 < 65536 by decide)
    have d2 := Nat.mod_lt (W / 65536 ^ i) (show 0 < 65536 by decide)
    simp only [bsm, letJ]
    rw [show decide ((i : Int) < (l.length : Int)) = true by simp [hi], ctm, a1, bsm, a2, bsm]
    rw [← hs1, dig_succ, zl_app, zl_one, ← hs2]
    generalize V / 65536 ^ i % 65536 = a at *
    generalize W / 65536 ^ i % 65536 = b at *
    generalize lnd 65536 V W i = c at *
    rw [w64_id (x := (a : Int) - (b : Int)) (by omega) (by omega), w64_id (x := (a : Int) - (b : Int) - ((1 - c : Nat) : Int)) (by omega) (by omega)]
    by_cases hn : (a : Int) - (b : Int) - ((1 - c : Nat) : Int) < 0
    · rw [show decide ((a : Int) - (b : Int) - ((1 - c : Nat) : Int) < 0) = true by rw [decide_eq_true_eq]; exact hn, ctm, w64_id (by omega) (by omega), apM1 (by decide) (by rw [zl_len, dig_len]; omega), bsm, w64_succ (by omega)]
      rw [show (a : Int) - (b : Int) - ((1 - c : Nat) : Int) + 65536 = (((a + (65536 - 1 - b) + c) % 65536 : Nat) : Int) by omega, show (1 - (a + (65536 - 1 - b) + c) / 65536) = 1 by omega]
      rfl
    · rw [show decide ((a : Int) - (b : Int) - ((1 - c : Nat) : Int) < 0) = false by rw [decide_eq_false_iff_not]; exact hn, cfm, apM1 (by decide) (by rw [zl_len, dig_len]; omega), bsm, w64_succ (by omega)]
      rw [show (a : Int) - (b : Int) - ((1 - c : Nat) : Int) = (((a + (65536 - 1 - b) + c) % 65536 : Nat) : Int) by omega, show (1 - (a + (65536 - 1 - b) + c) / 65536) = 0 by omega]
      rfl
  · simp
  · rw [rtrim_eq _ (by rw [dig_len]; omega), bsm, trim_dig (by decide) (by omega)]
theorem rsmall_eq (l : List Nat) (hl : ∀ x ∈ l, x < 65536) (hn : l.length ≤ 3) : ref01_small_m (zl l) = some ((v16 l : Nat) : Int) := by
  unfold ref01_small_m
  simp only [bsm]
  have hV : v16 l < 65536 ^ l.length := val_lt l hl
  have hp : 65536 ^ l.length ≤ 65536 ^ 3 := Nat.pow_le_pow_right (by decide) hn
  rw [show (65536 : Nat) ^ 3 = 281474976710656 by decide] at hp
  rw [zl_len, w64_id (by omega) (by omega)]
  refine bind_loop_to (fun j => (((v16 l / 65536 ^ (l.length - j) : Nat) : Int), (l.length : Int) - 1 - (j : Int))) l.length ((v16 l : Nat) : Int) ?_ (fun j hj => ?_) ?_ rfl
  · rw [show l.length - 0 = l.length by omega, Nat.div_eq_of_lt hV]; simp
  · obtain ⟨m, hm⟩ : ∃ m, l.length = m + j + 1 := ⟨l.length - j - 1, by omega⟩
    have hg := get_val hl (i := m) (by omega)
    have hst := div_step 65536 (v16 l) m
    have hdl : v16 l / 65536 ^ m ≤ v16 l := Nat.div_le_self _ _
    rw [show l.length - j = m + 1 by omega, show l.length - (j + 1) = m by omega, show (l.length : Int) - 1 - (j : Int) = (m : Int) by omega, show (l.length : Int) - 1 - ((j + 1 : Nat) : Int) = (m : Int) - 1 by omega]
    have hd := Nat.mod_lt (v16 l / 65536 ^ m) (show 0 < 65536 by decide)
    simp only []
    rw [show decide ((0 : Int) ≤ (m : Int)) = true by simp, ctm, geti_nat (zl_get hg), bsm]
    generalize v16 l / 65536 ^ (m + 1) = c at *
    generalize v16 l / 65536 ^ m = d at *
    rw [w64_id (x := (c : Int) * 65536) (by omega) (by omega), w64_id (x := (c : Int) * 65536 + ((d % 65536 : Nat) : Int)) (by omega) (by omega), w64_id (x := (m : Int) - 1) (by omega) (by omega), show (c : Int) * 65536 + ((d % 65536 : Nat) : Int) = (d : Int) by omega]
  · simp only []
    rw [show decide ((0 : Int) ≤ (l.length : Int) - 1 - (l.length : Int)) = false by rw [decide_eq_false_iff_not]; omega, cfm, Nat.sub_self, Nat.pow_zero, Nat.div_one]
theorem rback_eq (x : Nat) (hx : x < 281474976710656) : ref01_back_m (x : Int) = some (zl (can 65536 x)) := by
  unfold ref01_back_m
  simp only [bsm]
  rw [tm, td, w64_nat (by omega), tm, td, w64_nat (by omega)]
  have : [((x % 65536 : Nat) : Int), ((x / 65536 % 65536 : Nat) : Int), ((x / 65536 / 65536 : Nat) : Int)] = zl [x % 65536, x / 65536 % 65536, x / 65536 / 65536] := rfl
  rw [this, rtrim_eq _ (by simp), bsm, trim_can (B := 65536) (by decide) (by intro y hy; simp at hy; omega)]
  congr 3
  simp [val]
  omega
theorem rtimes_eq (l : List Nat) (f : Nat) (hl : H16 l) (hf : f < 65536) : ref01_times_m (zl l) (f : Int) = some (zl (can 65536 (v16 l * f))) := by
  unfold ref01_times_m
  have h1 := v16_lt hl
  have hm := hl.2
  have a1 := at_eq hl.1
  rw [zl_len]
  generalize v16 l = V at *
  have hcl := fun i => sC_lt (B := 65536) (V := V) (f := f) (e := 0) (by decide) hf (by decide) i
  refine bind_loop (fun s => ∃ i : Nat, s = (((sC 65536 V f 0 i : Nat) : Int), (i : Int), zl (dig 65536 i (V * f))) ∧ i ≤ l.length + 1) (fun e => ∃ i, e = zl (dig 65536 i (V * f)) ∧ V * f < 65536 ^ i ∧ i ≤ l.length + 1) (fun s => l.length + 1 - s.2.1.toNat) ?_ ⟨0, by rw [sC_zero]; rfl, by omega⟩ ?_
  · rintro _ ⟨i, rfl, hi⟩
    have hc := hcl i
    have hc1 := hcl (i + 1)
    have hs1 := sC_step (B := 65536) (by decide) V f 0 i
    have hs2 := sC_dig (B := 65536) (by decide) V f 0 i
    have d1 := Nat.mod_lt (V / 65536 ^ i) (show 0 < 65536 by decide)
    have hp : V / 65536 ^ i % 65536 * f ≤ 65535 * 65535 := Nat.mul_le_mul (by omega) (by omega)
    rw [Nat.add_zero] at hs2
    simp only [bsm, letJ]
    have hcond : ∀ (K : Bool → Option ((Int × Int × List Int) ⊕ List Int)), (((bif decide ((i : Int) < (l.length : Int)) then some true else some (decide ((0 : Int) < ((sC 65536 V f 0 i : Nat) : Int)))) : Option Bool).bind K) = K (decide (i < l.length ∨ 0 < sC 65536 V f 0 i)) := by
      intro K
      by_cases q1 : i < l.length
      · simp [q1]
      · simp [q1]
    rw [hcond]
    by_cases hgo : i < l.length ∨ 0 < sC 65536 V f 0 i
    · left
      have hi' : i < l.length + 1 := by
        rcases Nat.lt_or_ge i (l.length + 1) with h | h
        · exact h
        · have hie : i = l.length + 1 := by omega
          have g3 := sC_end (B := 65536) (V := V) (f := f) (e := 0) (i := i) (Nat.lt_of_lt_of_le h1 (Nat.pow_le_pow_right (by decide) (by omega)))
          rw [Nat.add_zero, Nat.div_eq_of_lt] at g3
          · omega
          · rw [hie, Nat.pow_succ]; exact Nat.mul_lt_mul'' h1 hf
      rw [show decide (i < l.length ∨ 0 < sC 65536 V f 0 i) = true by rw [decide_eq_true_eq]; exact hgo, ctm, a1, bsm, ← Int.natCast_mul, w64_nat (by omega), w64_add (by omega), tm, td, hs1, hs2, apM1 (by decide) (by rw [zl_len, dig_len]; omega), bsm, w64_nat (by omega), w64_succ (by omega)]
      refine ⟨_, rfl, ⟨i + 1, ?_, by omega⟩, by simp only []; omega⟩
      rw [dig_succ, zl_app, zl_one]
    · right
      rw [show decide (i < l.length ∨ 0 < sC 65536 V f 0 i) = false by rw [decide_eq_false_iff_not]; exact hgo, cfm]
      refine ⟨_, rfl, i, rfl, ?_, hi⟩
      have g3 := sC_end (B := 65536) (V := V) (f := f) (e := 0) (i := i) (Nat.lt_of_lt_of_le h1 (Nat.pow_le_pow_right (by decide) (by omega)))
      rw [Nat.add_zero] at g3
      rcases Nat.lt_or_ge (V * f) (65536 ^ i) with h | h
      · exact h
      · have := Nat.div_pos h (Nat.pow_pos (by decide)); omega
  · rintro _ ⟨i, rfl, hlt, hi⟩
    rw [rtrim_eq _ (by rw [dig_len]; omega), bsm, trim_dig (by decide) hlt]
end Go.Proofs.Ytmiflmkdaeianaa
namespace Go.Proofs.Ytmiflmkdaeianaa
open Go.Fw
theorem v16_can (v : Nat) : v16 (can 65536 v) = v := val_can (by decide) v
theorem h16_can {v n : Nat} (h : v < 65536 ^ n) (hn : n ≤ 100000000000) : H16 (can 65536 v) := ⟨fun _ hx => can_lt (by decide) hx, Nat.le_trans ((can_len_iff (by decide)).2 h) hn⟩
theorem rmul_eq (l k : List Nat) (hl : H16 l) (hk : H16 k) (hs : l.length + k.length ≤ 90000000000) : ref01_mul_m (zl l) (zl k) = some (zl (can 65536 (v16 l * v16 k))) := by
  unfold ref01_mul_m
  have hV := v16_lt hl
  have hW := v16_lt hk
  simp only [bsm]
  rw [zl_len, zl_len, w64_add (by omega)]
  by_cases h3 : l.length + k.length ≤ 3
  · rw [show decide (((l.length + k.length : Nat) : Int) ≤ 3) = true by rw [decide_eq_true_eq]; omega, ctm, rsmall_eq l hl.1 (by omega), bsm, rsmall_eq k hk.1 (by omega), bsm, ← Int.natCast_mul]
    have hlt : v16 l * v16 k < 281474976710656 := by
      have h1 : v16 l * v16 k < 65536 ^ l.length * 65536 ^ k.length := Nat.mul_lt_mul'' hV hW
      rw [← Nat.pow_add] at h1
      have h2 : 65536 ^ (l.length + k.length) ≤ 65536 ^ 3 := Nat.pow_le_pow_right (by decide) h3
      rw [show (65536 : Nat) ^ 3 = 281474976710656 by decide] at h2
      omega
    rw [w64_nat (by omega), rback_eq _ hlt, bsm]
  · rw [show decide (((l.length + k.length : Nat) : Int) ≤ 3) = false by rw [decide_eq_false_iff_not]; omega, cfm, w64_id (by omega) (by omega)]
    refine bind_loop (fun s => ∃ (u : List Nat) (m : Nat), s = (zl u, (m : Int) - 1) ∧ m ≤ l.length ∧ (∀ x ∈ u, x < 65536) ∧ v16 u = v16 l / 65536 ^ m * v16 k ∧ u.length + m ≤ l.length + k.length) (fun e => ∃ u : List Nat, e = zl u ∧ (∀ x ∈ u, x < 65536) ∧ v16 u = v16 l * v16 k ∧ u.length ≤ l.length + k.length) (fun s => (s.2 + 1).toNat) ?_ ⟨[], l.length, rfl, Nat.le_refl _, by simp, by rw [Nat.div_eq_of_lt hV]; simp [v16, val], by simp⟩ ?_
    · rintro _ ⟨u, m, rfl, hm, hu, huv, hul⟩
      simp only []
      rcases m with _ | m
      · right
        refine ⟨_, rfl, u, rfl, hu, ?_, by omega⟩
        rw [huv, Nat.pow_zero, Nat.div_one]
      · left
        have hg := get_val hl.1 (i := m) (by omega)
        obtain ⟨d, hd⟩ : ∃ d, v16 l / 65536 ^ m % 65536 = d := ⟨_, rfl⟩
        have hdl : d < 65536 := by rw [← hd]; exact Nat.mod_lt _ (by decide)
        rw [show val 65536 l / 65536 ^ m % 65536 = d from hd] at hg
        have hst := div_step 65536 (v16 l) m
        rw [hd] at hst
        have hgi := geti_nat (zl_get hg)
        have hA : v16 l / 65536 ^ m < 65536 ^ (l.length - m) := by
          rw [Nat.div_lt_iff_lt_mul (Nat.pow_pos (by decide)), ← Nat.pow_add, show l.length - m + m = l.length by omega]; exact hV
        have hAW : v16 l / 65536 ^ m * v16 k < 65536 ^ (l.length - m + k.length) := by rw [Nat.pow_add]; exact Nat.mul_lt_mul'' hA hW
        rw [show ((m + 1 : Nat) : Int) - 1 = (m : Int) by omega, show decide ((0 : Int) ≤ (m : Int)) = true by simp, ctm, apMl (by decide) (by rw [zl_len]; simp; omega), bsm]
        have h0 : [(0 : Int)] ++ zl u = zl (0 :: u) := rfl
        have hv0 : v16 (0 :: u) = 65536 * (v16 l / 65536 ^ (m + 1)) * v16 k := by
          show 0 + 65536 * v16 u = _
          rw [huv, Nat.zero_add, Nat.mul_assoc]
        rw [h0]
        refine (show ∀ (X : Option ((List Int × Int) ⊕ List Int)), (∃ w : List Nat, X = some (.inl (zl w, IntKind.i64.wrap ((m : Int) - 1))) ∧ (∀ x ∈ w, x < 65536) ∧ v16 w = v16 l / 65536 ^ m * v16 k ∧ w.length + m ≤ l.length + k.length) → ∃ s', X = some (.inl s') ∧ (∃ (u : List Nat) (m : Nat), s' = (zl u, (m : Int) - 1) ∧ m ≤ l.length ∧ (∀ x ∈ u, x < 65536) ∧ v16 u = v16 l / 65536 ^ m * v16 k ∧ u.length + m ≤ l.length + k.length) ∧ (s'.2 + 1).toNat < ((m : Int) + 1).toNat from ?_) _ ?_
        · rintro X ⟨w, rfl, hw, hwv, hwl⟩
          rw [w64_id (by omega) (by omega)]
          exact ⟨_, rfl, ⟨w, m, rfl, by omega, hw, hwv, hwl⟩, by simp only []; omega⟩
        · have hloop := bind_loop_ex (body := fun (s22 : (List Int) × Int) =>
                  match s22 with
                  | ⟨y5l19, y7l19⟩ =>
                    (show Option (((List Int) × Int) ⊕ ((List Int))) from
                      (geti (zl l) (m : Int)).bind fun x33 =>
                      (bif decide ((y7l19 : Int) < x33) then
                          (geti (zl l) (m : Int)).bind fun x42 =>
                          (ref01_times_m (zl k) (min (1024 : Int) (IntKind.i64.wrap (x42 - y7l19)))).bind fun x47 =>
                          (ref01_add_m y5l19 x47).bind fun x48 =>
                          some (.inl (x48, IntKind.i64.wrap (y7l19 + 1024)))
                        else
                          some (.inr y5l19)))) (s := (zl (0 :: u), (0 : Int))) (f := fun y5e21 => (some (.inl (y5e21, IntKind.i64.wrap ((m : Int) - 1))) : Option ((List Int × Int) ⊕ List Int)))
            (Q := fun r => ∃ w : List Nat, r = .inl (zl w, IntKind.i64.wrap ((m : Int) - 1)) ∧ (∀ x ∈ w, x < 65536) ∧ v16 w = v16 l / 65536 ^ m * v16 k ∧ w.length + m ≤ l.length + k.length)
            (fun s => ∃ (w : List Nat) (j : Nat), s = (zl w, (j : Int)) ∧ (∀ x ∈ w, x < 65536) ∧ j ≤ 70000 ∧ v16 w = (65536 * (v16 l / 65536 ^ (m + 1)) + min j d) * v16 k ∧ w.length + m ≤ l.length + k.length)
            (fun e => ∃ w : List Nat, e = zl w ∧ (∀ x ∈ w, x < 65536) ∧ v16 w = v16 l / 65536 ^ m * v16 k ∧ w.length + m ≤ l.length + k.length) (fun s => (70000 - s.2).toNat) ?_ ⟨0 :: u, 0, rfl, by simp; exact hu, by omega, by rw [hv0]; simp, by simp; omega⟩ ?_
          · obtain ⟨r, h1, w, rfl, h2, h3, h4⟩ := hloop
            exact ⟨w, h1, h2, h3, h4⟩
          · rintro _ ⟨w, j, rfl, hw, hj, hwv, hwl⟩
            simp only []
            rw [hgi, bsm]
            by_cases hjd : j < d
            · left
              rw [show decide ((j : Int) < (d : Int)) = true by simp [hjd], ctm, bsm, w64_id (by omega) (by omega)]
              obtain ⟨f, hf⟩ : ∃ f, min 1024 (d - j) = f := ⟨_, rfl⟩
              obtain ⟨j', hj', hj2⟩ : ∃ j' : Nat, (j : Int) + 1024 = (j' : Int) ∧ j' = j + 1024 := ⟨j + 1024, by omega, rfl⟩
              have hmu : (70000 - (j' : Int)).toNat < (70000 - (j : Int)).toNat := by omega
              have hwH : H16 w := ⟨hw, by omega⟩
              have hsum : 65536 * (v16 l / 65536 ^ (m + 1)) + min j d + f ≤ v16 l / 65536 ^ m := by omega
              have hvle : v16 w + v16 k * f ≤ v16 l / 65536 ^ m * v16 k := by
                rw [hwv, Nat.mul_comm (v16 k), ← Nat.add_mul]; exact Nat.mul_le_mul_right _ hsum
              have htl : v16 k * f < 65536 ^ (k.length + 1) := by rw [Nat.pow_succ]; exact Nat.mul_lt_mul'' hW (by omega)
              rw [show min (1024 : Int) ((d : Int) - (j : Int)) = (f : Int) by omega, rtimes_eq _ _ hk (by omega), bsm, radd_eq _ _ hwH (h16_can htl (by omega)), bsm, v16_can, hj', w64_nat (by omega)]
              refine ⟨_, rfl, ⟨_, j', rfl, fun _ hx => can_lt (by decide) hx, by omega, ?_, ?_⟩, hmu⟩
              · rw [v16_can, hwv, Nat.mul_comm (v16 k), ← Nat.add_mul]; congr 1; omega
              · have := (can_len_iff (B := 65536) (by decide)).2 (Nat.lt_of_le_of_lt hvle hAW)
                omega
            · right
              rw [show decide ((j : Int) < (d : Int)) = false by rw [decide_eq_false_iff_not]; omega, cfm]
              refine ⟨_, rfl, w, rfl, hw, ?_, hwl⟩
              rw [hwv, show min j d = d by omega, ← hst]
          · rintro _ ⟨w, rfl, h1, h2, h3⟩
            exact ⟨_, rfl, w, rfl, h1, h2, h3⟩
    · rintro _ ⟨u, rfl, hu, huv, hul⟩
      rw [rtrim_eq _ (by omega), bsm, trim_can (by decide) hu, show val 65536 u = v16 l * v16 k from huv]
end Go.Proofs.Ytmiflmkdaeianaa
namespace Go.Proofs.Ytmiflmkdaeianaa
open Go.Fw
theorem td2 {a : Nat} : Int.tdiv (a : Int) 2 = ((a / 2 : Nat) : Int) := by
  rw [Int.tdiv_eq_ediv_of_nonneg (by omega)]; omega
theorem cmpN_le (a b : Nat) : decide (cmpN a b ≤ 0) = decide (a ≤ b) := by
  rcases Nat.lt_trichotomy a b with h | h | h
  · rw [cmpN_lt h]; simp; omega
  · rw [h, cmpN_eq]; simp
  · rw [cmpN_gt h]; simp; omega
theorem rq_dig {B : Nat} (hB : 0 < B) {d : Nat} (hd : 0 < d) (V m : Nat) : (V / B ^ (m + 1) % d * B + V / B ^ m % B) / d = V / d / B ^ m % B := by
  have h1 := q_div (B := B) hd V m
  have h2 := q_lt (B := B) hB hd V m
  rw [Nat.div_div_eq_div_mul V d, Nat.mul_comm d, ← Nat.div_div_eq_div_mul, h1, Nat.mul_add_mod]
  symm
  apply Nat.mod_eq_of_lt
  rw [Nat.div_lt_iff_lt_mul hd, Nat.mul_comm B d]; exact h2
theorem iquo_nat {a b : Nat} (h : b ≠ 0) (ha : a ≤ 9223372036854775807) : iquo (a : Int) (b : Int) = some ((a / b : Nat) : Int) := by
  unfold iquo
  rw [if_neg (by omega), Int.tdiv_eq_ediv_of_nonneg (by omega), ← Int.natCast_ediv, w64_nat (Nat.le_trans (Nat.div_le_self _ _) ha)]
theorem irem_nat {a b : Nat} (h : b ≠ 0) : irem (a : Int) (b : Int) = some ((a % b : Nat) : Int) := by
  unfold irem
  rw [if_neg (by omega), Int.tmod_eq_emod_of_nonneg (by omega), ← Int.natCast_emod]
theorem zl_zeros (n : Nat) : List.replicate n (0 : Int) = zl (dig 65536 n 0) := by rw [dig_zero, zl, List.map_replicate]; rfl
theorem halve_eq {W X : Nat} (hW : 0 < W) {k : List Nat} (hk : H16 k) (hkv : v16 k = W) {xs : List Nat} (hx : H16 xs) (hxv : v16 xs = X) (H : Nat) (hH : 0 < H) (hH2 : H ≤ 65536) (hXH : X < H * W) {R : Type} (f : Int → Option R) (r : R) (hf : f ((X / W : Nat) : Int) = some r) (hkl : k.length ≤ 90000000000) :
    (loopM (fun (s54 : Int × Int) =>
                              match s54 with
                              | ⟨y11l50, y12l50⟩ =>
                                (show Option ((Int × Int) ⊕ (Int)) from
                                  (bif (decide ((1 : Int) < (IntKind.i64.wrap (y12l50 - y11l50)))) then
                                      (ref01_times_m (zl k) (IntKind.i64.wrap (Int.tdiv (IntKind.i64.wrap (y11l50 + y12l50)) 2))).bind fun x102 =>
                                      (ref01_cmp_m x102 (zl xs)).bind fun x104 =>
                                      (bif (decide ((x104 : Int) ≤ 0)) then
                                          some (.inl (IntKind.i64.wrap (Int.tdiv (IntKind.i64.wrap (y11l50 + y12l50)) 2), y12l50))
                                        else
                                          some (.inl (y11l50, IntKind.i64.wrap (Int.tdiv (IntKind.i64.wrap (y11l50 + y12l50)) 2))))
                                    else
                                      some (.inr y11l50)))) ((0 : Int), (H : Int))).bind f = some r := by
  refine bind_loop (fun s => ∃ lo hi : Nat, s = ((lo : Int), (hi : Int)) ∧ lo < hi ∧ hi ≤ 65536 ∧ lo * W ≤ X ∧ X < hi * W) (fun e => e = ((X / W : Nat) : Int)) (fun s => (s.2 - s.1).toNat) ?_ ⟨0, H, rfl, hH, hH2, by simp, hXH⟩ (fun e he => by rw [he]; exact hf)
  rintro _ ⟨lo, hi, rfl, h1, h2, h3, h4⟩
  simp only []
  rw [w64_id (x := (hi : Int) - (lo : Int)) (by omega) (by omega)]
  by_cases hgo : 1 < hi - lo
  · left
    obtain ⟨mid, hmid⟩ : ∃ mid, (lo + hi) / 2 = mid := ⟨_, rfl⟩
    have hml : v16 k * mid < 65536 ^ (k.length + 1) := by rw [Nat.pow_succ]; exact Nat.mul_lt_mul'' (v16_lt hk) (by omega)
    rw [show decide ((1 : Int) < (hi : Int) - (lo : Int)) = true by rw [decide_eq_true_eq]; omega, ctm, w64_add (by omega), td2, hmid, w64_nat (by omega), rtimes_eq _ _ hk (by omega), bsm, rcmp_eq _ _ (h16_can hml (by omega)) hx, bsm, cmpN_le, v16_can, hkv, hxv]
    by_cases hle : W * mid ≤ X
    · rw [show decide (W * mid ≤ X) = true by simp [hle], ctm]
      exact ⟨_, rfl, ⟨mid, hi, rfl, by omega, h2, by rw [Nat.mul_comm]; exact hle, h4⟩, by simp only []; omega⟩
    · rw [show decide (W * mid ≤ X) = false by simp; omega, cfm]
      exact ⟨_, rfl, ⟨lo, mid, rfl, by omega, by omega, h3, by rw [Nat.mul_comm]; omega⟩, by simp only []; omega⟩
  · right
    rw [show decide ((1 : Int) < (hi : Int) - (lo : Int)) = false by rw [decide_eq_false_iff_not]; omega, cfm]
    refine ⟨_, rfl, ?_⟩
    have : hi = lo + 1 := by omega
    subst this
    have : X / W = lo := by
      rw [Nat.div_eq_iff hW]
      rw [Nat.add_mul, Nat.one_mul] at h4
      omega
    rw [this]
theorem rdiv_eq (V W : Nat) (hW : W ≠ 0) (hV : (can 65536 V).length ≤ 80000000000) (hWl : (can 65536 W).length ≤ 80000000000) : ref01_div_m (zl (can 65536 V)) (zl (can 65536 W)) = some (zl (can 65536 (V / W)), zl (can 65536 (V % W))) := by
  have hl16 : H16 (can 65536 V) := ⟨fun _ hx => can_lt (by decide) hx, by omega⟩
  have hk16 : H16 (can 65536 W) := ⟨fun _ hx => can_lt (by decide) hx, by omega⟩
  have hVl := lt_can_len (B := 65536) (by decide) V
  have hWlt := lt_can_len (B := 65536) (by decide) W
  have hW0 : 0 < W := by omega
  unfold ref01_div_m
  simp only [bsm, letJ, zl_len]
  obtain ⟨n, hn⟩ : ∃ n, (can 65536 V).length = n := ⟨_, rfl⟩
  by_cases h3 : n ≤ 3 ∧ (can 65536 W).length ≤ 3
  · rw [hn, show decide ((n : Int) ≤ 3) = true by rw [decide_eq_true_eq]; omega, ctm, bsm, show decide (((can 65536 W).length : Int) ≤ 3) = true by rw [decide_eq_true_eq]; omega, ctm, rsmall_eq _ hl16.1 (by omega), bsm, rsmall_eq _ hk16.1 (by omega), bsm, v16_can, v16_can]
    have hp : V < 281474976710656 := by
      rw [hn] at hVl
      have h2 : 65536 ^ n ≤ 65536 ^ 3 := Nat.pow_le_pow_right (by decide) h3.1
      rw [show (65536 : Nat) ^ 3 = 281474976710656 by decide] at h2
      omega
    have hq : V / W ≤ V := Nat.div_le_self _ _
    have hr : V % W ≤ V := Nat.mod_le _ _
    rw [iquo_nat hW (by omega), bsm, rback_eq _ (by omega), bsm, bsm, bsm, irem_nat hW, bsm, rback_eq _ (by omega), bsm]
  · have hcond : (((bif decide ((n : Int) ≤ 3) then some (decide (((can 65536 W).length : Int) ≤ 3)) else some false) : Option Bool)) = some false := by
      by_cases q1 : n ≤ 3
      · have q2 : ¬ (can 65536 W).length ≤ 3 := fun h => h3 ⟨q1, h⟩
        rw [show decide (((can 65536 W).length : Int) ≤ 3) = false by rw [decide_eq_false_iff_not]; omega]
        exact bif_same _ _
      · rw [show decide ((n : Int) ≤ 3) = false by rw [decide_eq_false_iff_not]; omega, cfm]
    rw [hn] at hVl hV
    have hQ : V / W < 65536 ^ n := Nat.lt_of_le_of_lt (Nat.div_le_self _ _) hVl
    rw [hn, hcond, bsm, cfm, mkM_of (by decide) (by omega), bsm, zl_zeros]
    have hlen : (can 65536 W).length ≠ 0 := fun e => hW (can_nil (by decide) (List.length_eq_zero_iff.1 e))
    by_cases h1 : (can 65536 W).length = 1
    · have hWs : W < 65536 := by rw [h1] at hWlt; simpa using hWlt
      have hg0 : (can 65536 W)[0]? = some W := by rw [can_get (by decide) (by omega)]; simp; exact hWs
      have hgw := geti_zero (zl_get hg0)
      rw [h1, show decide (((1 : Nat) : Int) = 1) = true by simp, ctm, w64_id (by omega) (by omega)]
      refine bind_loop_to (fun j => (((V / 65536 ^ (n - j) % W : Nat) : Int), (n : Int) - 1 - (j : Int), zl (dig 65536 n (V / W / 65536 ^ (n - j) * 65536 ^ (n - j))))) n (((V % W : Nat) : Int), zl (dig 65536 n (V / W))) ?_ (fun j hj => ?_) ?_ ?_
      · rw [Nat.sub_zero, Nat.div_eq_of_lt hVl, Nat.div_eq_of_lt hQ]; simp
      · obtain ⟨m, hm⟩ : ∃ m, n = m + j + 1 := ⟨n - j - 1, by omega⟩
        have hg : (can 65536 V)[m]? = some (V / 65536 ^ m % 65536) := can_get (by decide) (by omega)
        have hdig := rq_dig (B := 65536) (by decide) hW0 V m
        have hrem := q_mod (B := 65536) (d := W) V m
        have hrl := Nat.mod_lt (V / 65536 ^ (m + 1)) hW0
        have hdl := Nat.mod_lt (V / 65536 ^ m) (show 0 < 65536 by decide)
        have hput := ld_put (B := 65536) (by decide) (N := n) (k := m) (by omega) (V / W)
        rw [show n - j = m + 1 by omega, show n - (j + 1) = m by omega, show (n : Int) - 1 - (j : Int) = (m : Int) by omega, show (n : Int) - 1 - ((j + 1 : Nat) : Int) = (m : Int) - 1 by omega]
        simp only []
        rw [show decide ((0 : Int) ≤ (m : Int)) = true by simp, ctm, geti_nat (zl_get hg), bsm, hgw, bsm]
        rw [← hdig] at hput
        rw [hrem, ← hput]
        generalize V / 65536 ^ (m + 1) % W = r at *
        generalize V / 65536 ^ m % 65536 = d at *
        rw [w64_id (x := (r : Int) * 65536) (by omega) (by omega), w64_id (x := (r : Int) * 65536 + (d : Int)) (by omega) (by omega), show (r : Int) * 65536 + (d : Int) = ((r * 65536 + d : Nat) : Int) by omega, iquo_nat hW (by omega), bsm, bsm, irem_nat hW, bsm, cki_nat (by rw [zl_len, dig_len]; omega), bsm, stM_of (by rw [zl_len, dig_len]; omega), bsm, w64_id (x := (m : Int) - 1) (by omega) (by omega), zl_set]
      · simp only []
        rw [show decide ((0 : Int) ≤ (n : Int) - 1 - (n : Int)) = false by rw [decide_eq_false_iff_not]; omega, cfm, Nat.sub_self, Nat.pow_zero, Nat.mul_one, Nat.div_one, Nat.div_one]
      · simp only []
        rw [rtrim_eq _ (by rw [dig_len]; omega), bsm, trim_dig (by decide) hQ, show [((V % W : Nat) : Int)] = zl [V % W] from rfl, rtrim_eq _ (by simp), bsm]
        have hr := Nat.mod_lt V hW0
        rw [trim_can (B := 65536) (l := [V % W]) (by decide) (by intro y hy; simp at hy; omega)]
        simp [val]
    · rw [show decide (((can 65536 W).length : Int) = 1) = false by rw [decide_eq_false_iff_not]; omega, cfm, w64_id (by omega) (by omega)]
      refine bind_loop_to (fun j => (zl (can 65536 (V / 65536 ^ (n - j) % W)), (n : Int) - 1 - (j : Int), zl (dig 65536 n (V / W / 65536 ^ (n - j) * 65536 ^ (n - j))))) n (zl (can 65536 (V % W)), zl (dig 65536 n (V / W))) ?_ (fun j hj => ?_) ?_ ?_
      · rw [Nat.sub_zero, Nat.div_eq_of_lt hVl, Nat.div_eq_of_lt hQ]; simp [can_zero, zl]
      · obtain ⟨m, hm⟩ : ∃ m, n = m + j + 1 := ⟨n - j - 1, by omega⟩
        have hg : (can 65536 V)[m]? = some (V / 65536 ^ m % 65536) := can_get (by decide) (by omega)
        have hdig := rq_dig (B := 65536) (by decide) hW0 V m
        have hrem := q_mod (B := 65536) (d := W) V m
        have hrl := Nat.mod_lt (V / 65536 ^ (m + 1)) hW0
        have hdl := Nat.mod_lt (V / 65536 ^ m) (show 0 < 65536 by decide)
        have hXW := q_lt (B := 65536) (by decide) hW0 V m
        have hput := ld_put (B := 65536) (by decide) (N := n) (k := m) (by omega) (V / W)
        rw [show n - j = m + 1 by omega, show n - (j + 1) = m by omega, show (n : Int) - 1 - (j : Int) = (m : Int) by omega, show (n : Int) - 1 - ((j + 1 : Nat) : Int) = (m : Int) - 1 by omega]
        simp only []
        rw [← hdig] at hput
        rw [hrem, ← hput, show decide ((0 : Int) ≤ (m : Int)) = true by simp, ctm, geti_nat (zl_get hg), bsm]
        generalize V / 65536 ^ (m + 1) % W = r at *
        generalize V / 65536 ^ m % 65536 = d at *
        obtain ⟨X, hX⟩ : ∃ X, r * 65536 + d = X := ⟨_, rfl⟩
        rw [hX] at hXW ⊢
        have hrc : (can 65536 r).length ≤ (can 65536 W).length := (can_len_iff (by decide)).2 (Nat.lt_trans hrl hWlt)
        have hxl : (can 65536 X).length ≤ (can 65536 W).length + 1 := (can_len_iff (by decide)).2 (by rw [Nat.pow_succ]; exact Nat.lt_trans hXW (Nat.mul_lt_mul_of_pos_right hWlt (by decide)))
        have hval : val 65536 (d :: can 65536 r) = X := by
          show d + 65536 * val 65536 (can 65536 r) = X
          rw [val_can (by decide)]; omega
        have hx16 : H16 (can 65536 X) := ⟨fun _ hx => can_lt (by decide) hx, by omega⟩
        rw [apMl (by decide) (by rw [zl_len]; simp; omega), bsm, show [(d : Int)] ++ zl (can 65536 r) = zl (d :: can 65536 r) from rfl, rtrim_eq _ (by simp; omega), bsm, trim_can (B := 65536) (by decide) (by intro y hy; simp at hy; rcases hy with rfl | hy; exact hdl; exact can_lt (by decide) hy), hval]
        have hqW : W * (X / W) ≤ X := Nat.mul_div_le X W
        have hq16 : X / W < 65536 := by rw [Nat.div_lt_iff_lt_mul hW0, Nat.mul_comm]; exact hXW
        have hfin : ((ref01_times_m (zl (can 65536 W)) ((X / W : Nat) : Int)).bind fun x114 => (ref01_sub_m (zl (can 65536 X)) x114).bind fun x115 => (cki (zl (dig 65536 n (V / W / 65536 ^ (m + 1) * 65536 ^ (m + 1)))) (m : Int)).bind fun x116 => (stM (zl (dig 65536 n (V / W / 65536 ^ (m + 1) * 65536 ^ (m + 1)))) x116 ((X / W : Nat) : Int)).bind fun l58 => (some (.inl (x115, IntKind.i64.wrap ((m : Int) - 1), l58)) : Option ((List Int × Int × List Int) ⊕ (List Int × List Int)))) = some (.inl (zl (can 65536 (X % W)), (m : Int) - 1, zl ((dig 65536 n (V / W / 65536 ^ (m + 1) * 65536 ^ (m + 1))).set m (X / W)))) := by
          rw [rtimes_eq _ _ hk16 hq16, bsm, v16_can, rsub_eq _ _ hx16 (h16_can (Nat.lt_of_le_of_lt hqW (lt_can_len (by decide) X)) (by omega)) (by rw [v16_can, v16_can]; exact hqW), bsm, v16_can, v16_can, cki_nat (by rw [zl_len, dig_len]; omega), bsm, stM_of (by rw [zl_len, dig_len]; omega), bsm, w64_id (x := (m : Int) - 1) (by omega) (by omega), zl_set, ← Nat.mod_eq_sub_mul_div]
        rw [zl_len]
        by_cases hsh : (can 65536 X).length < (can 65536 W).length
        · rw [show decide (((can 65536 X).length : Int) < ((can 65536 W).length : Int)) = true by rw [decide_eq_true_eq]; omega, ctm]
          exact halve_eq hW0 hk16 (v16_can W) hx16 (v16_can X) 1 (by decide) (by decide) (by rw [Nat.one_mul]; exact can_lt_len (by decide) hsh) _ _ hfin (by omega)
        · rw [show decide (((can 65536 X).length : Int) < ((can 65536 W).length : Int)) = false by rw [decide_eq_false_iff_not]; omega, cfm]
          exact halve_eq hW0 hk16 (v16_can W) hx16 (v16_can X) 65536 (by decide) (by decide) (by rw [Nat.mul_comm]; exact hXW) _ _ hfin (by omega)
      · simp only []
        rw [show decide ((0 : Int) ≤ (n : Int) - 1 - (n : Int)) = false by rw [decide_eq_false_iff_not]; omega, cfm, Nat.sub_self, Nat.pow_zero, Nat.mul_one, Nat.div_one, Nat.div_one]
      · simp only []
        rw [rtrim_eq _ (by rw [dig_len]; omega), bsm, trim_dig (by decide) hQ]
end Go.Proofs.Ytmiflmkdaeianaa
namespace Go.Proofs.Ytmiflmkdaeianaa
open Go.Fw
theorem c16_len0 {v : Nat} : (can 65536 v).length = 0 ↔ v = 0 := by
  constructor
  · intro h; exact can_nil (by decide) (List.length_eq_zero_iff.1 h)
  · intro h; rw [h, can_zero]; rfl
theorem c16H {v : Nat} (h : (can 65536 v).length ≤ 100000000000) : H16 (can 65536 v) := ⟨fun _ hx => can_lt (by decide) hx, h⟩
theorem rSign_eq {x : Zr} (h : Wl x) : ref01_Sign_m x = some (zi x).sign := by
  unfold ref01_Sign_m
  simp only [halves_of h, bsm, zl_len]
  have hz := c16_len0 (v := (zi x).natAbs)
  have hneg : x.neg = true → zi x ≤ 0 := fun e => by unfold zi; rw [e]; simp [sv]
  have hpos : x.neg = false → 0 ≤ zi x := fun e => by unfold zi; rw [e]; simp [sv]
  by_cases h0 : zi x = 0
  · rw [h0]; rfl
  · rw [show decide (((can 65536 (zi x).natAbs).length : Int) = 0) = false by rw [decide_eq_false_iff_not]; omega, cfm]
    cases hn : x.neg
    · have := hpos hn
      rw [cfm, Int.sign_eq_one_of_pos (by omega)]
    · have := hneg hn
      rw [ctm, Int.sign_eq_neg_one_of_neg (by omega)]
theorem rCmp_eq {x y : Zr} (hx : Wl x) (hy : Wl y) : ref01_Cmp_m x y = some (cmpI (zi x) (zi y)) := by
  have cx := hx.c16
  have cy := hy.c16
  unfold ref01_Cmp_m
  simp only [zeta', rSign_eq hx, rSign_eq hy, bsm, halves_of hx, halves_of hy]
  rw [rcmp_eq _ _ (c16H (by omega)) (c16H (by omega)), v16_can, v16_can]
  simp only [bsm]
  generalize zi x = i
  generalize zi y = j
  rw [cmpI_nat]
  rcases Int.lt_trichotomy i 0 with h1 | h1 | h1 <;> rcases Int.lt_trichotomy j 0 with h2 | h2 | h2
  · rw [Int.sign_eq_neg_one_of_neg h1, Int.sign_eq_neg_one_of_neg h2, show (i.natAbs : Int) = -i by omega, show (j.natAbs : Int) = -j by omega, cmpI_neg]
    show some (IntKind.i64.wrap (0 - cmpI j i)) = _
    rw [cmpI_flip]
  · rw [Int.sign_eq_neg_one_of_neg h1, show Int.sign j = 0 by rw [h2]; rfl, show cmpI i j = -1 from cmpI_lt (by omega)]; rfl
  · rw [Int.sign_eq_neg_one_of_neg h1, Int.sign_eq_one_of_pos h2, show cmpI i j = -1 from cmpI_lt (by omega)]; rfl
  · rw [show Int.sign i = 0 by rw [h1]; rfl, Int.sign_eq_neg_one_of_neg h2, show cmpI i j = 1 from cmpI_gt (by omega)]; rfl
  · rw [h1, h2]; rfl
  · rw [show Int.sign i = 0 by rw [h1]; rfl, Int.sign_eq_one_of_pos h2, show cmpI i j = -1 from cmpI_lt (by omega)]; rfl
  · rw [Int.sign_eq_one_of_pos h1, Int.sign_eq_neg_one_of_neg h2, show cmpI i j = 1 from cmpI_gt (by omega)]; rfl
  · rw [Int.sign_eq_one_of_pos h1, show Int.sign j = 0 by rw [h2]; rfl, show cmpI i j = 1 from cmpI_gt (by omega)]; rfl
  · rw [Int.sign_eq_one_of_pos h1, Int.sign_eq_one_of_pos h2, show (i.natAbs : Int) = i by omega, show (j.natAbs : Int) = j by omega]; rfl
theorem svz (x : Zr) : sv x.neg (zi x).natAbs = zi x := by rw [zi_abs]; rfl
theorem rNeg_eq {x : Zr} (hx : Wl x) : ref01_Neg_m x = some (zn (-zi x)) := by
  have cx := hx.c16
  unfold ref01_Neg_m
  simp only [bsm, halves_of hx]
  rw [of_can _ _ (by omega), bsm, sv_not, svz]
theorem rAbs_eq {x : Zr} (hx : Wl x) : ref01_Abs_m x = some (zn ((zi x).natAbs : Int)) := by
  have cx := hx.c16
  unfold ref01_Abs_m
  simp only [bsm, halves_of hx]
  rw [of_can _ _ (by omega), bsm, sv_false]
theorem rAdd_eq {x y : Zr} (hx : Wl x) (hy : Wl y) : ref01_Add_m x y = some (zn (zi x + zi y)) := by
  have cx := hx.c16
  have cy := hy.c16
  unfold ref01_Add_m
  simp only [bsm, halves_of hx, halves_of hy]
  have ex := svz x
  have ey := svz y
  generalize (zi x).natAbs = a at *
  generalize (zi y).natAbs = b at *
  have la := lt_can_len (B := 65536) (by decide) a
  have lb := lt_can_len (B := 65536) (by decide) b
  rw [← ex, ← ey]
  generalize x.neg = n
  generalize y.neg = m
  by_cases hnm : n = m
  · subst hnm
    have hl : (can 65536 (a + b)).length ≤ max (can 65536 a).length (can 65536 b).length + 1 := by
      apply (can_len_iff (by decide)).2
      have h1 : a < 65536 ^ max (can 65536 a).length (can 65536 b).length := Nat.lt_of_lt_of_le la (Nat.pow_le_pow_right (by decide) (by omega))
      have h2 : b < 65536 ^ max (can 65536 a).length (can 65536 b).length := Nat.lt_of_lt_of_le lb (Nat.pow_le_pow_right (by decide) (by omega))
      rw [Nat.pow_succ]; omega
    rw [show (n == n) = true by simp, ctm, radd_eq _ _ (c16H (by omega)) (c16H (by omega)), bsm, v16_can, v16_can, of_can _ _ (by omega), bsm, show sv n (a + b) = sv n a + sv n b by cases n <;> simp [sv]; omega]
  · have hm : m = !n := by cases n <;> cases m <;> simp_all
    subst hm
    rw [show (n == !n) = false by cases n <;> rfl, cfm, rcmp_eq _ _ (c16H (by omega)) (c16H (by omega)), bsm, v16_can, v16_can]
    by_cases hlt : b ≤ a
    · have hc : decide ((0 : Int) ≤ cmpN a b) = true := by
        rw [decide_eq_true_eq]
        rcases Nat.lt_or_ge b a with h | h
        · rw [cmpN_gt h]; decide
        · rw [show a = b by omega, cmpN_eq]; decide
      have hl : (can 65536 (a - b)).length ≤ (can 65536 a).length := (can_len_iff (by decide)).2 (by omega)
      rw [hc, ctm, rsub_eq _ _ (c16H (by omega)) (c16H (by omega)) (by rw [v16_can, v16_can]; exact hlt), bsm, v16_can, v16_can, of_can _ _ (by omega), bsm, show sv n (a - b) = sv n a + sv (!n) b by cases n <;> simp [sv] <;> omega]
    · have hc : decide ((0 : Int) ≤ cmpN a b) = false := by rw [cmpN_lt (by omega)]; decide
      have hl : (can 65536 (b - a)).length ≤ (can 65536 b).length := (can_len_iff (by decide)).2 (by omega)
      rw [hc, cfm, rsub_eq _ _ (c16H (by omega)) (c16H (by omega)) (by rw [v16_can, v16_can]; omega), bsm, v16_can, v16_can, of_can _ _ (by omega), bsm, show sv (!n) (b - a) = sv n a + sv (!n) b by cases n <;> simp [sv] <;> omega]
theorem rMul_eq {x y : Zr} (hx : Wl x) (hy : Wl y) : ref01_Mul_m x y = some (zn (zi x * zi y)) := by
  have cx := hx.c16
  have cy := hy.c16
  unfold ref01_Mul_m
  simp only [bsm, halves_of hx, halves_of hy]
  have ex := svz x
  have ey := svz y
  generalize (zi x).natAbs = a at *
  generalize (zi y).natAbs = b at *
  have la := lt_can_len (B := 65536) (by decide) a
  have lb := lt_can_len (B := 65536) (by decide) b
  have hl : (can 65536 (a * b)).length ≤ (can 65536 a).length + (can 65536 b).length := by
    apply (can_len_iff (by decide)).2
    rw [Nat.pow_add]; exact Nat.mul_lt_mul'' la lb
  rw [rmul_eq _ _ (c16H (by omega)) (c16H (by omega)) (by omega), bsm, v16_can, v16_can, of_can _ _ (by omega), bsm, sv_mul, ex, ey]
theorem rDiv_eq {x y : Zr} (hx : Wl x) (hy : Wl y) : ref01_Div_m x y = some (dmOf (zi x) (zi y)) := by
  have cx := hx.c16
  have cy := hy.c16
  unfold ref01_Div_m
  simp only [bsm, letJ, halves_of hx, halves_of hy, zl_len]
  have ex := svz x
  have ey := svz y
  generalize (zi x).natAbs = a at *
  generalize (zi y).natAbs = b at *
  rw [← ex, ← ey]
  generalize x.neg = n
  generalize y.neg = m
  by_cases h0 : b = 0
  · subst h0
    rw [show sv m 0 = 0 by cases m <;> rfl]; rfl
  · have hlen0 : (can 65536 b).length ≠ 0 := fun h => h0 (c16_len0.1 h)
    have hm : a % b < b := Nat.mod_lt _ (by omega)
    have la := lt_can_len (B := 65536) (by decide) a
    have lb := lt_can_len (B := 65536) (by decide) b
    obtain ⟨e1, e2⟩ := sv_div n m (a := a) (show 0 < b by omega)
    have hj : sv m b ≠ 0 := by cases m <;> simp [sv] <;> omega
    have hq : (can 65536 (a / b)).length ≤ (can 65536 a).length := (can_len_iff (by decide)).2 (Nat.lt_of_le_of_lt (Nat.div_le_self _ _) la)
    have hr : (can 65536 (a % b)).length ≤ (can 65536 b).length := (can_len_iff (by decide)).2 (Nat.lt_trans hm lb)
    rw [show decide (((can 65536 b).length : Int) = 0) = false by rw [decide_eq_false_iff_not]; omega, cfm, rdiv_eq a b h0 (by omega) (by omega), bsm, dmOf, if_neg hj, e1, e2]
    simp only [zl_len]
    have hz := c16_len0 (v := a % b)
    have hK : ∀ c : Bool, (decide (n = true ∧ 0 < a % b) = c) → (bif c then (ref01_add_m (zl (can 65536 (a / b))) [1]).bind fun x37 => (ref01_sub_m (zl (can 65536 b)) (zl (can 65536 (a % b)))).bind fun x40 => (ref01_of_m (!(n == m)) x37).bind fun x => (ref01_of_m false x40).bind fun x_1 => some ((⟨x.neg, x.w⟩ : Zr), (⟨x_1.neg, x_1.w⟩ : Zr), (0 : Int))
        else (ref01_of_m (!(n == m)) (zl (can 65536 (a / b)))).bind fun x => (ref01_of_m false (zl (can 65536 (a % b)))).bind fun x_1 => some ((⟨x.neg, x.w⟩ : Zr), (⟨x_1.neg, x_1.w⟩ : Zr), (0 : Int))) =
        some (zn (if n = true ∧ 0 < a % b then sv (!(n == m)) (a / b + 1) else sv (!(n == m)) (a / b)), zn (if n = true ∧ 0 < a % b then ((b - a % b : Nat) : Int) else ((a % b : Nat) : Int)), 0) := by
      intro c hc
      cases c
      · have hc' := of_decide_eq_false hc
        rw [cfm, if_neg hc', if_neg hc', of_can _ _ (by omega), bsm, of_can _ _ (by omega), bsm, sv_false]
      · have hc' := of_decide_eq_true hc
        have hq1 : (can 65536 (a / b + 1)).length ≤ (can 65536 a).length + 1 := by
          apply (can_len_iff (by decide)).2
          have : a / b ≤ a := Nat.div_le_self _ _
          rw [Nat.pow_succ]; omega
        have hbr : (can 65536 (b - a % b)).length ≤ (can 65536 b).length := (can_len_iff (by decide)).2 (by omega)
        rw [ctm, if_pos hc', if_pos hc', show [(1 : Int)] = zl [1] from rfl, radd_eq _ _ (c16H (by omega)) ⟨by simp, by simp⟩, bsm, v16_can, show v16 [1] = 1 by decide, rsub_eq _ _ (c16H (by omega)) (c16H (by omega)) (by rw [v16_can, v16_can]; omega), bsm, v16_can, v16_can, of_can _ _ (by omega), bsm, of_can _ _ (by omega), bsm, sv_false]
    cases n
    · rw [cfm, bsm]
      exact hK false (by simp)
    · rw [ctm, bsm]
      refine hK _ ?_
      simp only [true_and]
      by_cases h : 0 < a % b
      · rw [show decide (0 < a % b) = true by simp [h], show decide ((0 : Int) < ((can 65536 (a % b)).length : Int)) = true by rw [decide_eq_true_eq]; omega]
      · rw [show decide (0 < a % b) = false by simp [h], show decide ((0 : Int) < ((can 65536 (a % b)).length : Int)) = false by rw [decide_eq_false_iff_not]; omega]
end Go.Proofs.Ytmiflmkdaeianaa
namespace Go.Proofs.Ytmiflmkdaeianaa
open Go.Fw
theorem rGcd_eq {x y : Zr} (hx : Wl x) (hy : Wl y) : ref01_Gcd_m x y = some (zn (Int.gcd (zi x) (zi y) : Int)) := by
  have cx := hx.c16
  have cy := hy.c16
  unfold ref01_Gcd_m
  simp only [bsm, halves_of hx, halves_of hy]
  rw [Int.gcd]
  generalize (zi x).natAbs = a at *
  generalize (zi y).natAbs = b at *
  refine bind_loop (fun s => ∃ c d, s = (zl (can 65536 c), zl (can 65536 d)) ∧ Nat.gcd c d = Nat.gcd a b ∧ (can 65536 c).length ≤ 20000000000 ∧ (can 65536 d).length ≤ 20000000000)
    (fun e => e = zl (can 65536 (Nat.gcd a b)) ∧ (can 65536 (Nat.gcd a b)).length ≤ 20000000000) (fun s => val 65536 (s.2.map Int.toNat)) ?_ ⟨a, b, rfl, rfl, cx, cy⟩ ?_
  · rintro _ ⟨c, d, rfl, hg, hc, hd⟩
    simp only [zl_len]
    have hzl : ∀ l : List Nat, (zl l).map Int.toNat = l := fun l => by
      rw [zl, List.map_map]
      have : (Int.toNat ∘ fun (n : Nat) => (n : Int)) = id := by funext n; simp
      rw [this, List.map_id]
    by_cases h0 : d = 0
    · right
      subst h0
      rw [Nat.gcd_zero_right] at hg
      subst hg
      exact ⟨_, rfl, rfl, hc⟩
    · left
      have hlen0 : (can 65536 d).length ≠ 0 := fun h => h0 (c16_len0.1 h)
      have hm : c % d < d := Nat.mod_lt _ (by omega)
      rw [show decide ((0 : Int) < ((can 65536 d).length : Int)) = true by rw [decide_eq_true_eq]; omega, ctm, rdiv_eq c d h0 (by omega) (by omega), bsm]
      refine ⟨_, rfl, ⟨d, c % d, rfl, ?_, hd, ?_⟩, ?_⟩
      · rw [← hg, Nat.gcd_comm d, ← Nat.gcd_rec, Nat.gcd_comm]
      · exact Nat.le_trans ((can_len_iff (by decide)).2 (Nat.lt_trans hm (lt_can_len (by decide) d))) hd
      · simp only []
        rw [hzl, hzl, val_can (by decide), val_can (by decide)]; exact hm
  · rintro _ ⟨rfl, hl⟩
    rw [of_can _ _ (by omega), bsm, sv_false]
end Go.Proofs.Ytmiflmkdaeianaa
namespace Go.Proofs.Ytmiflmkdaeianaa
open Go.Fw
theorem rone_eq : ref02_one_m = some (zn 1) := by
  unfold ref02_one_m
  simp only [zeta', bsm, from_eq (x := 1) (by decide)]
section ops
variable {L M : Nat} {a b : Qr} {x y : Rat}
theorem rparts_eq (h : Rep L a x) (hL : L ≤ 10000000000) : ∃ n d : Int, ref02_num_m a = some (zn n) ∧ ref02_den_m a = some (zn d) ∧ 0 < d ∧ Rat.divInt n d = x ∧ Fit L n ∧ Fit L d := by
  have wn := h.wn hL
  have wd := h.wd hL
  have hv := h.v
  unfold ref02_num_m ref02_den_m
  simp only [zeta', bsm, rSign_eq wd, rone_eq, rNeg_eq wn, rAbs_eq wd, least_eq wn]
  unfold qv qd at hv
  rcases Int.lt_trichotomy (zi a.den) 0 with h1 | h1 | h1
  · refine ⟨-zi a.num, -zi a.den, ?_, ?_, by omega, ?_, h.fn.neg, h.fd.neg⟩
    · rw [Int.sign_eq_neg_one_of_neg h1]; rfl
    · rw [Int.sign_eq_neg_one_of_neg h1, show ((zi a.den).natAbs : Int) = -zi a.den by omega]; rfl
    · rw [Rat.neg_divInt_neg, ← hv, if_neg (by omega)]
  · refine ⟨zi a.num, 1, ?_, ?_, by decide, ?_, h.fn, fit_one h.l1⟩
    · rw [h1]; rfl
    · rw [h1]; rfl
    · rw [← hv, if_pos h1]
  · refine ⟨zi a.num, zi a.den, ?_, ?_, h1, ?_, h.fn, h.fd⟩
    · rw [Int.sign_eq_one_of_pos h1]; rfl
    · rw [Int.sign_eq_one_of_pos h1, show ((zi a.den).natAbs : Int) = zi a.den by omega]; rfl
    · rw [← hv, if_neg (by omega)]
theorem over_eq {n d : Int} (hn : Fit L n) (hd : Fit L d) (hL : L ≤ 10000000000) (h : 0 < d) : ref02_over_m (zn n) (zn d) = some (qn (Rat.divInt n d)) := by
  have wn := wl_zn hn hL
  have wd := wl_zn hd hL
  have g0 : (Int.gcd n d : Int) ≠ 0 := by
    have : 0 < Int.gcd n d := Int.gcd_pos_of_ne_zero_right _ (by omega)
    omega
  have wg : Wl (zn (Int.gcd n d : Int)) := wl_zn (hd.le (by
    have := Nat.le_of_dvd (Int.natAbs_pos.2 (show d ≠ 0 by omega)) (Int.gcd_dvd_natAbs_right n d)
    simpa using this)) hL
  have wq : Wl (zn (d / (Int.gcd n d : Int))) := wl_zn (hd.le (Int.natAbs_ediv_le_natAbs _ _)) hL
  have one : i64ok 1 := by decide
  unfold ref02_over_m
  simp only [zeta', bsm, rGcd_eq wn wd, rDiv_eq wn wg, rDiv_eq wd wg, rone_eq, zi_zn]
  rw [dmOf, if_neg g0, dmOf, if_neg g0]
  simp only []
  rw [rCmp_eq wq (wl_small one), bsm, zi_zn, zi_zn, qn_divInt h]
  by_cases e : d / (Int.gcd n d : Int) = 1
  · rw [e, cmpI_self, if_pos rfl]; rfl
  · have : cmpI (d / (Int.gcd n d : Int)) 1 ≠ 0 := by
      rcases Int.lt_trichotomy (d / (Int.gcd n d : Int)) 1 with q | q | q
      · rw [cmpI_lt q]; decide
      · exact absurd q e
      · rw [cmpI_gt q]; decide
    rw [decide_eq_false this, cfm, if_neg e]
theorem Rep.rleast (ha : Rep L a x) (h : L ≤ 10000000000) : ref02_Least_m a = some (qn x) := by
  obtain ⟨n, d, e1, e2, h1, h2, f1, f2⟩ := rparts_eq ha h
  unfold ref02_Least_m
  simp only [zeta', zetaQ, zetaP, e1, e2, bsm, over_eq f1 f2 h h1, h2]
theorem rof_eq {n d : Int} (hn : i64ok n) (hd : i64ok d) (h0 : d ≠ 0) : ref02_Of_m n d = some (qn (Rat.divInt n d)) := by
  unfold ref02_Of_m
  simp only [zeta', zetaQ, zetaP, bsm, from_eq hn, from_eq hd, (rep_pair h0 (small_fit hn) (small_fit hd) (by decide)).rleast (by decide)]
theorem Rep.rneg (ha : Rep L a x) (h : L ≤ 10000000000) : ref02_Neg_m a = some (qn (-x)) := by
  obtain ⟨n, d, e1, e2, h1, h2, f1, f2⟩ := rparts_eq ha h
  unfold ref02_Neg_m
  simp only [zeta', zetaQ, zetaP, e1, e2, bsm, rNeg_eq (wl_zn f1 h), zi_zn, over_eq f1.neg f2 h h1]
  rw [← Rat.neg_divInt, h2]
theorem Rep.rfloor (ha : Rep L a x) (h : L ≤ 10000000000) : ref02_Floor_m a = some (zn x.floor) := by
  obtain ⟨n, d, e1, e2, h1, h2, f1, f2⟩ := rparts_eq ha h
  unfold ref02_Floor_m
  simp only [zeta', zetaQ, zetaP, e1, e2, bsm, rDiv_eq (wl_zn f1 h) (wl_zn f2 h), zi_zn]
  rw [dmOf, if_neg (by omega), ← h2, floor_divInt h1]
theorem Rep.radd (ha : Rep L a x) (hb : Rep M b y) (h : L + M ≤ 4000000000) : ref02_Add_m a b = some (qn (x + y)) := by
  obtain ⟨n, d, e1, e2, h1, h2, f1, f2⟩ := rparts_eq ha (by omega)
  obtain ⟨m, c, e3, e4, h3, h4, f3, f4⟩ := rparts_eq hb (by omega)
  unfold ref02_Add_m
  have u1 := (f1.mul f4)
  have u2 := (f3.mul f2).mono (show M + L ≤ L + M by omega)
  simp only [zeta', zetaQ, zetaP, e1, e2, e3, e4, bsm, rMul_eq (wl_zn f1 (by omega)) (wl_zn f4 (by omega)), rMul_eq (wl_zn f3 (by omega)) (wl_zn f2 (by omega)), zi_zn, rAdd_eq (wl_zn u1 (by omega)) (wl_zn u2 (by omega)), rMul_eq (wl_zn f2 (by omega)) (wl_zn f4 (by omega)), over_eq (u1.add u2) ((f2.mul f4).mono (by omega)) (show L + M + 1 ≤ 10000000000 by omega) (Int.mul_pos h1 h3)]
  rw [← h2, ← h4, Rat.divInt_add_divInt _ _ (by omega) (by omega)]
theorem Rep.rsub (ha : Rep L a x) (hb : Rep M b y) (h : L + M ≤ 4000000000) : ref02_Sub_m a b = some (qn (x - y)) := by
  unfold ref02_Sub_m
  have r : Rep M (qn (-y)) (-y) := hb.fq.neg.rep hb.l1
  simp only [zeta', zetaQ, zetaP, hb.rneg (by omega), bsm, ha.radd r h]
  rw [← Rat.sub_eq_add_neg]
theorem Rep.rsign (ha : Rep L a x) (h : L ≤ 10000000000) : ref02_Sign_m a = some (cmpQ x 0) := by
  obtain ⟨n, d, e1, e2, h1, h2, f1, f2⟩ := rparts_eq ha h
  unfold ref02_Sign_m
  simp only [zeta', zetaQ, zetaP, e1, bsm, rSign_eq (wl_zn f1 h), zi_zn]
  rw [← h2, ← sign_divInt h1]
theorem cmpQ_sub (x y : Rat) : cmpQ (x - y) 0 = cmpQ x y := by
  unfold cmpQ
  by_cases h : x < y
  · rw [if_pos h, if_pos (by grind)]
  · rw [if_neg h, if_neg (by grind)]
    by_cases h2 : x = y
    · rw [if_pos h2, if_pos (by grind)]
    · rw [if_neg h2, if_neg (by grind)]
theorem Rep.rcmp (ha : Rep L a x) (hb : Rep M b y) (h : L + M ≤ 4000000000) : ref02_Cmp_m a b = some (cmpQ x y) := by
  unfold ref02_Cmp_m
  have r : Rep (L + M + 1) (qn (x - y)) (x - y) := (ha.fq.sub hb.fq).rep (by omega)
  simp only [zeta', zetaQ, zetaP, ha.rsub hb h, bsm, r.rsign (by omega), cmpQ_sub]
end ops
end Go.Proofs.Ytmiflmkdaeianaa
namespace Go.Proofs.Ytmiflmkdaeianaa
open Go.Fw
abbrev OkQ (q : Qr) : Prop := OkZ q.num ∧ OkZ q.den
theorem rep_of {q : Qr} {L : Nat} (h : OkQ q) (h1 : q.num.w.length ≤ L) (h2 : q.den.w.length ≤ L) (hL : 1 ≤ L) : Rep L q (qv q) := ⟨h.1.2.2, h.2.2.2, h1, h2, hL, rfl⟩
end Go.Proofs.Ytmiflmkdaeianaa
namespace Go.Proofs.Ytmiflmkdaeianaa
open Go.Fw
theorem rtri (x y : Rat) : x < y ∨ x = y ∨ y < x := by grind
theorem fromInteger_rep {i : Int} {L : Nat} (h : Fit L i) (h1 : 1 ≤ L) (hL : L ≤ 10000000000) : frac_FromInteger_m (zn i) = some (qn (i : Rat)) ∧ Rep L (qn (i : Rat)) (i : Rat) := by
  refine ⟨?_, (FQ.int h h1).rep h1⟩
  rw [fromInteger_eq (wl_zn h hL), zi_zn]
end Go.Proofs.Ytmiflmkdaeianaa
namespace Go.Proofs.Ytmiflmkdaeianaa
open Go.Fw
theorem letJ_of {J R : Type} {f : J → Option R} {g : (J → Option R) → Option R} {r : Option R} (h : g f = r) : letJ f g = r := h
theorem dT {p : Prop} [Decidable p] (h : p) : (some (decide p) : Option Bool) = some true := congrArg some (decide_eq_true h)
theorem dF {p : Prop} [Decidable p] (h : ¬ p) : (some (decide p) : Option Bool) = some false := congrArg some (decide_eq_false h)
theorem andT {β : Type} {x : Option Bool} {f : Bool → Option β} {r : Option β} {y : Option Bool} (h : x = some true) (hf : f true = r) : (bif true then x else y).bind f = r := by rw [ctm, h]; exact hf
section ops
variable {K L M : Nat} {a b c : Qr} {x y z : Rat}
theorem Rep.sub' (ha : Rep L a x) (hb : Rep M b y) (h : L + M ≤ 4000000000) : ∃ q, frac_Sub_m a b = some q ∧ Rep (L + M + 1) q (x - y) := ⟨_, ha.sub hb h⟩
end ops
abbrev szZ (z : Zr) : Nat := 1 + ((z.w.map fun _ => 1).sum + 1) + 1
abbrev szQ (q : Qr) : Nat := szZ q.num + szZ q.den + 1
theorem sum_one {α : Type} : ∀ l : List α, (l.map fun _ => 1).sum = l.length
  | [] => rfl
  | _ :: l => by rw [List.map_cons, List.sum_cons, sum_one l, List.length_cons]; omega
theorem szQ_len (q : Qr) : q.num.w.length ≤ szQ q ∧ q.den.w.length ≤ szQ q := by
  simp only [szQ, szZ, sum_one]; omega
theorem repq {q : Qr} (h : OkQ q) (s : szQ q ≤ 1048576) : Rep 1048576 q (qv q) := by
  have := szQ_len q
  exact rep_of h (by omega) (by omega) (by decide)
theorem long33 (l : List (List Qr)) (hl : l.length ≤ 9223372036854775807) : ∃ b, law33_Long_m l = some b ∧ (b = false → ∀ v ∈ l, v.length ≤ 40) := by
  unfold law33_Long_m
  refine bind_loop_ex (fun s => ∃ (i : Nat) (n : Int), s = (n, (i : Int)) ∧ i ≤ l.length ∧ ∀ v ∈ l.take i, v.length ≤ 40) (fun e => (e = .inl () ∧ ∀ v ∈ l, v.length ≤ 40) ∨ e = .inr true) (fun s => l.length - s.2.toNat) ?_ ⟨0, 0, rfl, by omega, by simp⟩ ?_
  · rintro _ ⟨i, n, rfl, hi, ht⟩
    by_cases hlt : i < l.length
    · have g := List.getElem?_eq_getElem hlt
      by_cases h1 : 40 < l[i].length
      · exact .inr ⟨.inr true, bind_eq rfl <| bind_eq (dT (by omega)) <| bif_t rfl <| bind_eq (geti_nat g) <| bind_eq rfl <| bind_eq (dT (by omega)) <| bif_t rfl rfl, .inr rfl⟩
      · obtain ⟨e, he, -⟩ := loopM_inv (body := fun (s : Int × Int) => match s with | ⟨y3, y5⟩ => (show Option ((Int × Int) ⊕ Int) from (geti l (i : Int)).bind fun x21 => (some (x21.length : Int)).bind fun x23 => (some (decide ((y5 : Int) < x23))).bind fun x24 => (bif x24 then (some (IntKind.i64.wrap (y3 + 1))).bind fun x28 => (geti l (i : Int)).bind fun x31 => (geti x31 y5).bind fun ⟨⟨x34_0, x34_1⟩, ⟨x34_2, x34_3⟩⟩ => (some (x34_1.length : Int)).bind fun x38 => (some (min (100 : Int) x38)).bind fun x39 => (some (IntKind.i64.wrap (x28 + x39))).bind fun x40 => (geti l (i : Int)).bind fun x43 => (geti x43 y5).bind fun ⟨⟨x46_0, x46_1⟩, ⟨x46_2, x46_3⟩⟩ => (some (x46_3.length : Int)).bind fun x50 => (some (min (100 : Int) x50)).bind fun x51 => (some (IntKind.i64.wrap (x40 + x51))).bind fun x52 => (some (IntKind.i64.wrap (y5 + 1))).bind fun x26 => some (.inl (x52, x26)) else some (.inr y3))))
          (s := (n, 0)) (fun s => ∃ (k : Nat) (m : Int), s = (m, (k : Int)) ∧ k ≤ l[i].length) (fun _ => True) (fun s => l[i].length - s.2.toNat) (by
            rintro _ ⟨k, m, rfl, hk⟩
            by_cases hk2 : k < l[i].length
            · have gk := List.getElem?_eq_getElem hk2
              generalize l[i][k] = q at gk
              refine .inl ⟨(_, ((k + 1 : Nat) : Int)), bind_eq (geti_nat g) <| bind_eq rfl <| bind_eq (dT (by omega)) <| bif_t rfl <| bind_eq rfl <| bind_eq (geti_nat g) <| bind_eq (geti_nat gk) <| bind_eq rfl <| bind_eq rfl <| bind_eq rfl <| bind_eq (geti_nat g) <| bind_eq (geti_nat gk) <| bind_eq rfl <| bind_eq rfl <| bind_eq rfl <| bind_eq (congrArg some (w64_succ (by omega))) rfl, ⟨k + 1, _, rfl, hk2⟩, by simp only [Int.toNat_natCast]; omega⟩
            · exact .inr ⟨m, bind_eq (geti_nat g) <| bind_eq rfl <| bind_eq (dF (by omega)) <| bif_f rfl rfl, trivial⟩) ⟨0, n, rfl, by omega⟩
        by_cases h2 : 400 < e
        · exact .inr ⟨.inr true, bind_eq rfl <| bind_eq (dT (by omega)) <| bif_t rfl <| bind_eq (geti_nat g) <| bind_eq rfl <| bind_eq (dF (by omega)) <| bif_f rfl <| bind_eq he <| bind_eq (dT h2) <| bif_t rfl rfl, .inr rfl⟩
        · refine .inl ⟨(e, ((i + 1 : Nat) : Int)), bind_eq rfl <| bind_eq (dT (by omega)) <| bif_t rfl <| bind_eq (geti_nat g) <| bind_eq rfl <| bind_eq (dF (by omega)) <| bif_f rfl <| bind_eq he <| bind_eq (dF h2) <| bif_f rfl <| bind_eq (congrArg some (w64_succ (by omega))) rfl, ⟨i + 1, e, rfl, hlt, ?_⟩, by simp only [Int.toNat_natCast]; omega⟩
          rw [List.take_add_one, g]
          intro u hu
          rcases List.mem_append.1 hu with h | h
          · exact ht u h
          · simp at h; rw [h]; omega
    · refine .inr ⟨.inl (), bind_eq rfl <| bind_eq (dF (by omega)) <| bif_f rfl rfl, .inl ⟨rfl, ?_⟩⟩
      rw [List.take_of_length_le (by omega)] at ht; exact ht
  · rintro e (⟨rfl, he⟩ | rfl)
    · exact ⟨false, rfl, fun _ => he⟩
    · exact ⟨true, rfl, fun h => by cases h⟩
end Go.Proofs.Ytmiflmkdaeianaa
namespace Go.Proofs.Ytmiflmkdaeianaa
open Go.Fw
def rnd (x : Rat) : Int := if x - (x.floor : Rat) < 1 / 2 then x.floor else if 1 / 2 < x - (x.floor : Rat) then x.floor + 1 else if x.floor % 2 = 0 then x.floor else x.floor + 1
theorem fit1 : Fit 1 1 := by unfold Fit; decide
theorem fit2 : Fit 1 2 := by unfold Fit; decide
theorem half2 : Rat.divInt 1 2 = 1 / 2 := by rw [Rat.divInt_eq_div]; simp
theorem fq_one {L : Nat} {x : Rat} (h : FQ L x) : Fit L 1 := Fit.le h.2 (by have := Rat.den_pos x; omega)
theorem rnd_fit {L : Nat} {x : Rat} (h : FQ L x) : Fit (L + 1) (rnd x) := by
  have h1 := (h.floor).mono (show L ≤ L + 1 by omega)
  have h2 : Fit (L + 1) (x.floor + 1) := h.floor.add (fq_one h)
  unfold rnd
  split
  · exact h1
  · split
    · exact h2
    · split
      · exact h1
      · exact h2
theorem mod2_fit (i : Int) : Fit 1 (i % 2) := by
  have h1 := Int.emod_nonneg i (show (2 : Int) ≠ 0 by decide)
  have h2 := Int.emod_lt_of_pos i (show (0 : Int) < 2 by decide)
  unfold Fit
  omega
theorem sign_mod2 (i : Int) : decide ((i % 2).sign = 0) = decide (i % 2 = 0) := by
  congr 1
  exact propext Int.sign_eq_zero_iff_zero
theorem Rep.round {L : Nat} {a : Qr} {x : Rat} (ha : Rep L a x) (h : L ≤ 1000000000) : book_Round_m a = some (zn (rnd x)) := by
  have hf := ha.fq
  have f1 := ha.floor (show L ≤ 10000000000 by omega)
  obtain ⟨n1, r1⟩ := new_eq (n := 1) (d := 2) (by decide) (by decide) (by decide)
  have w1 := fromInt_eq (x := 1) (by decide) (by decide)
  have a1 := add_eq (wl_zn hf.floor (by omega)) (wl_zn fit1 (by decide))
  rw [zi_zn, zi_zn] at a1
  obtain ⟨i1, s1⟩ := fromInteger_rep hf.floor ha.l1 (by omega)
  obtain ⟨q, e, r⟩ := ha.sub' s1 (by omega)
  rw [half2] at n1 r1
  have c1 := r.cmp r1 (by omega)
  have w2 := fromInt_eq (x := 2) (by decide) (by decide)
  have d1 := divMod_eq (wl_zn hf.floor (show L ≤ 10000000000 by omega)) (wl_zn fit2 (by decide))
  rw [zi_zn, zi_zn] at d1
  replace d1 : whole_DivMod_m (zn x.floor) (zn 2) = some (zn (x.floor / 2), zn (x.floor % 2), 0) := d1
  have g1 := sign_eq (wl_zn (mod2_fit x.floor) (by decide))
  rw [zi_zn] at g1
  have hr : zn (rnd x) = if x - (x.floor : Rat) < 1 / 2 then zn x.floor else if 1 / 2 < x - (x.floor : Rat) then zn (x.floor + 1) else if x.floor % 2 = 0 then zn x.floor else zn (x.floor + 1) := by
    unfold rnd
    repeat' split
    all_goals rfl
  rw [hr]
  clear hr s1 r r1
  generalize qn (1 / 2) = q1 at n1 c1
  generalize qn (x.floor : Rat) = q2 at i1 e
  generalize hz0 : zn x.floor = z0 at *
  generalize zn (x.floor + 1) = z1 at *
  generalize zn (x.floor / 2) = z2 at *
  generalize zn (x.floor % 2) = z3 at *
  generalize zn 1 = z4 at *
  generalize zn 2 = z5 at *
  unfold book_Round_m
  refine bind_eq n1 <| bind_eq f1 <| bind_eq w1 <| bind_eq a1 <| bind_eq i1 <| bind_eq e <| bind_eq c1 ?_
  rcases rtri (x - (x.floor : Rat)) (1 / 2) with k | k | k
  · rw [cmpQ_lt k, if_pos k]
    exact bind_eq (dT rfl) <| bif_t rfl rfl
  · rw [k, cmpQ_self, if_neg Rat.lt_irrefl, if_neg Rat.lt_irrefl]
    refine bind_eq (dF (by decide)) <| bif_f rfl <| bind_eq (dF (by decide)) <| bif_f rfl <| bind_eq w2 <| bind_eq d1 <| bind_eq g1 <| bind_eq (congrArg some (sign_mod2 _)) ?_
    by_cases h2 : x.floor % 2 = 0
    · rw [if_pos h2]; exact bif_t (decide_eq_true h2) rfl
    · rw [if_neg h2]; exact bif_f (decide_eq_false h2) rfl
  · rw [cmpQ_gt k, if_neg (by grind), if_pos k]
    exact bind_eq (dF (by decide)) <| bif_f rfl <| bind_eq (dT rfl) <| bif_t rfl rfl
theorem Rep.rround {L : Nat} {a : Qr} {x : Rat} (ha : Rep L a x) (h : L ≤ 1000000000) : ref39_Round_m a = some (zn (rnd x)) := by
  have hf := ha.fq
  have f1 := ha.rfloor (show L ≤ 10000000000 by omega)
  have n1 := rof_eq (n := 1) (d := 2) (by decide) (by decide) (by decide)
  have r1 := (new_eq (n := 1) (d := 2) (by decide) (by decide) (by decide)).2
  have w1 := from_eq (x := 1) (by decide)
  have a1 := rAdd_eq (wl_zn hf.floor (show L ≤ 10000000000 by omega)) (wl_zn fit1 (by decide))
  rw [zi_zn, zi_zn] at a1
  have s1 : Rep L ⟨zn x.floor, ⟨false, []⟩⟩ (x.floor : Rat) := by rw [← qn_int]; exact (FQ.int hf.floor ha.l1).rep ha.l1
  have e := ha.rsub s1 (by omega)
  have r := (ha.sub s1 (by omega)).2
  rw [half2] at n1 r1
  have c1 := r.rcmp r1 (by omega)
  have w2 := from_eq (x := 2) (by decide)
  have d1 := rDiv_eq (wl_zn hf.floor (show L ≤ 10000000000 by omega)) (wl_zn fit2 (by decide))
  rw [zi_zn, zi_zn] at d1
  replace d1 : ref01_Div_m (zn x.floor) (zn 2) = some (zn (x.floor / 2), zn (x.floor % 2), 0) := d1
  have g1 := rSign_eq (wl_zn (mod2_fit x.floor) (by decide))
  rw [zi_zn] at g1
  have hr : zn (rnd x) = if x - (x.floor : Rat) < 1 / 2 then zn x.floor else if 1 / 2 < x - (x.floor : Rat) then zn (x.floor + 1) else if x.floor % 2 = 0 then zn x.floor else zn (x.floor + 1) := by
    unfold rnd
    repeat' split
    all_goals rfl
  rw [hr]
  clear hr s1 r r1
  generalize qn (1 / 2) = q1 at n1 c1
  generalize qn (x - (x.floor : Rat)) = q2 at e c1
  generalize hz0 : zn x.floor = z0 at *
  generalize zn (x.floor + 1) = z1 at *
  generalize zn (x.floor / 2) = z2 at *
  generalize zn (x.floor % 2) = z3 at *
  generalize zn 1 = z4 at *
  generalize zn 2 = z5 at *
  unfold ref39_Round_m
  refine bind_eq f1 <| bind_eq w1 <| bind_eq a1 <| bind_eq e <| bind_eq n1 <| bind_eq c1 ?_
  rcases rtri (x - (x.floor : Rat)) (1 / 2) with k | k | k
  · rw [cmpQ_lt k, if_pos k]
    exact bind_eq (dT (by decide)) <| bif_t rfl rfl
  · rw [k, cmpQ_self, if_neg Rat.lt_irrefl, if_neg Rat.lt_irrefl]
    refine bind_eq (dF (by decide)) <| bif_f rfl <| bind_eq (dF (by decide)) <| bif_f rfl <| bind_eq w2 <| bind_eq d1 <| bind_eq g1 <| bind_eq (congrArg some (sign_mod2 _)) ?_
    by_cases h2 : x.floor % 2 = 0
    · rw [if_pos h2]; exact bif_t (decide_eq_true h2) rfl
    · rw [if_neg h2]; exact bif_f (decide_eq_false h2) rfl
  · rw [cmpQ_gt k, if_neg (by grind), if_pos k]
    exact bind_eq (dF (by decide)) <| bif_f rfl <| bind_eq (dT (by decide)) <| bif_t rfl rfl
def mvE (n : Int) (len : Nat) (acc : Int) (kd : Nat) (hour : Int) : Int := if ¬ (0 < acc ∧ acc < n) then 1 else if kd < 1 ∨ 4 < kd then 12 else if hour < -1 ∨ 8 ≤ hour then 1 else if 1024 ≤ len then 5 else 0
theorem blank_eq {n : Int} {es : List En} (h : n ≠ 0) : book_Book_blank_m n es = some false := by
  unfold book_Book_blank_m
  exact letJ_of <| bind_eq (a := false) (bif_f rfl <| bind_eq (dF h) rfl) rfl
theorem pays_eq (n : Int) (es : List En) (a : Int) : book_Book_pays_m n es a = some (decide (0 < a ∧ a < n)) := by
  unfold book_Book_pays_m
  refine letJ_of <| bind_eq rfl ?_
  by_cases h : 0 < a
  · exact bind_eq (a := decide (0 < a ∧ a < n)) (bif_t (decide_eq_true h) <| bind_eq rfl (by simp [h])) rfl
  · exact bind_eq (a := decide (0 < a ∧ a < n)) (bif_f (decide_eq_false h) (by simp [h])) rfl
theorem check_eq (n : Int) (es : List En) (acc : Int) (kd : Nat) (hour : Int) (c : Zr) (len : Nat) : ∃ e, book_check_m ⟨acc, kd, hour, c⟩ n es = some e ∧ (e ≠ 0 → mvE n len acc kd hour = e) ∧ (e = 0 → mvE n len acc kd hour = if 1024 ≤ len then 5 else 0) := by
  unfold book_check_m mvE
  by_cases h1 : 0 < acc ∧ acc < n
  · by_cases h2 : kd < 1 ∨ 4 < kd
    · refine ⟨12, bind_eq (pays_eq _ _ _) <| bind_eq rfl <| bif_f (by simp [h1]) <| letJ_of <| bind_eq rfl <| bind_eq (a := true) ?_ <| bif_t rfl rfl, fun _ => by rw [if_neg (by simpa using h1), if_pos h2], by simp⟩
      by_cases h3 : kd < 1
      · exact bif_t (decide_eq_true h3) rfl
      · exact bif_f (decide_eq_false h3) <| bind_eq (dT (by omega)) rfl
    · by_cases h3 : hour < -1 ∨ 8 ≤ hour
      · refine ⟨1, bind_eq (pays_eq _ _ _) <| bind_eq rfl <| bif_f (by simp [h1]) <| letJ_of <| bind_eq rfl <| bind_eq (a := false) (bif_f (decide_eq_false (by omega)) <| bind_eq (dF (by omega)) rfl) <| bif_f rfl <| letJ_of <| bind_eq rfl <| bind_eq (a := true) ?_ <| bif_t rfl rfl, fun _ => by rw [if_neg (by simpa using h1), if_neg h2, if_pos h3], by simp⟩
        by_cases h4 : hour < -1
        · exact bif_t (decide_eq_true h4) rfl
        · exact bif_f (decide_eq_false h4) <| bind_eq (dT (by omega)) rfl
      · exact ⟨0, bind_eq (pays_eq _ _ _) <| bind_eq rfl <| bif_f (by simp [h1]) <| letJ_of <| bind_eq rfl <| bind_eq (a := false) (bif_f (decide_eq_false (by omega)) <| bind_eq (dF (by omega)) rfl) <| bif_f rfl <| letJ_of <| bind_eq rfl <| bind_eq (a := false) (bif_f (decide_eq_false (by omega)) <| bind_eq (dF (by omega)) rfl) <| bif_f rfl rfl, by simp, fun _ => by rw [if_neg (by simpa using h1), if_neg h2, if_neg h3]⟩
  · exact ⟨1, bind_eq (pays_eq _ _ _) <| bind_eq rfl <| bif_t (by simp [h1]) rfl, fun _ => by simp [h1], by simp⟩
def stp (n : Int) (es : List En) (m : Mv) (c : Zr) : List En := if mvE n es.length m.acc m.kd m.hour = 0 then es ++ [⟨m.acc, m.kd, m.hour, c⟩] else es
theorem move_eq {n : Int} {es : List En} {acc : Int} {kd : Nat} {hour : Int} {a : Qr} {L : Nat} {x : Rat} (hn : n ≠ 0) (ha : Rep L a x) (hL : L ≤ 1000000000) (hl : es.length ≤ 1000000) :
    book_Book_Move_m n es acc kd hour a = some (mvE n es.length acc kd hour, stp n es ⟨acc, kd, hour, a⟩ (zn (rnd x))) := by
  obtain ⟨e, he, h1, h2⟩ := check_eq n es acc kd hour ⟨false, []⟩ es.length
  have hr := ha.round hL
  unfold stp book_Book_Move_m
  show (book_Book_blank_m n es).bind _ = some (mvE n es.length acc kd hour, if mvE n es.length acc kd hour = 0 then es ++ [⟨acc, kd, hour, zn (rnd x)⟩] else es)
  generalize zn (rnd x) = z at hr ⊢
  refine bind_eq (blank_eq hn) <| bif_f rfl <| bind_eq he <| ?_
  by_cases h0 : e = 0
  · subst h0
    rw [h2 rfl]
    refine bind_eq (dF (by simp)) <| bif_f rfl <| bind_eq rfl ?_
    by_cases h3 : 1024 ≤ es.length
    · rw [if_pos h3, if_neg (by decide)]
      exact bind_eq (dT (by omega)) <| bif_t rfl rfl
    · rw [if_neg h3, if_pos rfl]
      exact bind_eq (dF (by omega)) <| bif_f rfl <| bind_eq hr <| bind_eq (apM1 (by decide) (by omega)) rfl
  · rw [h1 h0, if_neg h0]
    exact bind_eq (dT h0) <| bif_t rfl rfl
structure EnOk (n : Int) (K : Nat) (e : En) : Prop where
  a : 1 ≤ e.acc
  b : e.acc < n
  k : 1 ≤ e.kd ∧ e.kd ≤ 4
  z : e.cents = zn (zi e.cents)
  f : Fit K (zi e.cents)
def sumE (f : En → Int) (es : List En) : Int := (es.map f).sum
theorem sumE_append (f : En → Int) (l k : List En) : sumE f (l ++ k) = sumE f l + sumE f k := by simp [sumE]
theorem sumE_take (f : En → Int) {es : List En} {k : Nat} (h : k < es.length) : sumE f (es.take (k + 1)) = sumE f (es.take k) + f es[k] := by
  rw [List.take_add_one, List.getElem?_eq_getElem h, sumE_append]; simp [sumE]
theorem sum_abs {K : Nat} : ∀ {l : List Int}, (∀ c ∈ l, Fit K c) → l.sum.natAbs ≤ l.length * (4294967296 ^ K - 1)
  | [], _ => by simp
  | c :: l, h => by
    have h1 := h c (by simp)
    have h2 := sum_abs (l := l) (fun c hc => h c (by simp [hc]))
    rw [List.sum_cons, List.length_cons, Nat.succ_mul]
    have := Int.natAbs_add_le c l.sum
    unfold Fit at h1
    omega
theorem sum_fit {K : Nat} {l : List Int} (h : ∀ c ∈ l, Fit K c) (hl : l.length ≤ 4294967296) : Fit (K + 1) l.sum := by
  have h1 := sum_abs h
  have h2 := Nat.mul_le_mul_right (4294967296 ^ K - 1) hl
  have h3 := Nat.pow_pos (n := K) (show 0 < 4294967296 by decide)
  unfold Fit
  rw [Nat.pow_succ, Nat.mul_comm (4294967296 ^ K)]
  generalize 4294967296 ^ K = m at *
  omega
theorem fit0 {K : Nat} : Fit K 0 := by unfold Fit; exact Nat.pow_pos (by decide)
theorem sumE_fit {K : Nat} {f : En → Int} {es : List En} (h : ∀ e ∈ es, Fit K (f e)) (hl : es.length ≤ 1000000) : Fit (K + 1) (sumE f es) :=
  sum_fit (fun c hc => by obtain ⟨e, he, rfl⟩ := List.mem_map.1 hc; exact h e he) (by simp; omega)
theorem fit_take {K : Nat} {f : En → Int} {es : List En} (h : ∀ e ∈ es, Fit K (f e)) (k : Nat) (hl : es.length ≤ 1000000) : Fit (K + 1) (sumE f (es.take k)) :=
  sumE_fit (fun e he => h e (List.mem_of_mem_take he)) (by rw [List.length_take]; omega)
def balF (i : Int) (e : En) : Int := if i = 0 then -zi e.cents else if e.acc = i then zi e.cents else 0
theorem balF_fit {n : Int} {K : Nat} {e : En} (h : EnOk n K e) (i : Int) : Fit K (balF i e) := by
  unfold balF
  split
  · exact h.f.neg
  · split
    · exact h.f
    · exact fit0
def allQ (n : Nat) (es : List En) : List Zr := (List.range n).map fun (i : Nat) => zn (sumE (balF (i : Int)) es)
theorem allQ_len (n : Nat) (es : List En) : (allQ n es).length = n := by simp [allQ]
theorem allQ_get {n i : Nat} (es : List En) (h : i < n) : (allQ n es)[i]? = some (zn (sumE (balF (i : Int)) es)) := by simp [allQ, h]
theorem all_step {n : Nat} {es : List En} {k a : Nat} (hk : k < es.length) (hn : 0 < n) (ha : es[k].acc = (a : Int)) (h1 : 1 ≤ a) (h2 : a < n) :
    ((allQ n (es.take k)).set a (zn (sumE (balF a) (es.take k) + zi es[k].cents))).set 0 (zn (sumE (balF 0) (es.take k) - zi es[k].cents)) = allQ n (es.take (k + 1)) := by
  apply List.ext_getElem?
  intro i
  by_cases hi : i < n
  · rw [allQ_get _ hi, List.getElem?_set, List.getElem?_set, List.length_set, allQ_len, allQ_get _ hi, sumE_take _ hk]
    by_cases e0 : 0 = i
    · subst e0
      rw [if_pos rfl, if_pos hn]
      rw [show balF ((0 : Nat) : Int) es[k] = -zi es[k].cents from if_pos rfl]; rfl
    · rw [if_neg e0]
      by_cases ea : a = i
      · subst ea
        rw [if_pos rfl, if_pos hi]
        unfold balF; rw [if_neg (show ¬ ((a : Int) = 0) by omega), if_pos ha]
      · rw [if_neg ea]
        have : balF i es[k] = 0 := by unfold balF; rw [if_neg (by omega), ha, if_neg (by omega)]
        rw [this, Int.add_zero]
  · rw [List.getElem?_eq_none (by simp [allQ_len]; omega), List.getElem?_eq_none (by simp [allQ_len]; omega)]
theorem all_eq {n : Nat} {es : List En} {K : Nat} (hn : 0 < n) (hn2 : n ≤ 64) (he : ∀ e ∈ es, EnOk n K e) (hl : es.length ≤ 1000000) (hK : K ≤ 1000000000) : book_Book_All_m n es = some (allQ n es) := by
  unfold book_Book_All_m
  refine bind_eq (blank_eq (by omega)) <| bif_f rfl <| bind_eq (mkM_of (by decide) (by omega)) <| bind_eq rfl ?_
  refine bind_loop_to (fun k => ((k : Int), allQ n (es.take k))) es.length (allQ n es) ?_ (fun k hk => ?_) ?_ rfl
  · simp only [List.take_zero]
    congr 1
    apply List.ext_getElem?
    intro i
    by_cases hi : i < n
    · rw [allQ_get _ hi, List.getElem?_replicate, if_pos hi]; rfl
    · rw [List.getElem?_eq_none (by simp; omega), List.getElem?_eq_none (by simp [allQ_len]; omega)]
  · have g := List.getElem?_eq_getElem hk
    have ho := he _ (List.getElem_mem hk)
    obtain ⟨a, ha⟩ : ∃ a : Nat, es[k].acc = (a : Int) := ⟨es[k].acc.toNat, by have := ho.a; omega⟩
    have h1 : 1 ≤ a := by have := ho.a; omega
    have h2 : a < n := by have := ho.b; omega
    have s := all_step hk hn ha h1 h2
    have f1 : Fit (K + 1) (sumE (balF a) (es.take k)) := fit_take (fun e h => balF_fit (he e h) _) k hl
    have f2 : Fit (K + 1) (sumE (balF 0) (es.take k)) := fit_take (fun e h => balF_fit (he e h) _) k hl
    have a1 := add_eq (wl_zn f1 (by omega)) (wl_zn ho.f (by omega))
    have a2 := sub_eq (wl_zn f2 (by omega)) (wl_zn ho.f (by omega))
    rw [zi_zn, zi_zn, ← ho.z] at a1 a2
    have g1 := allQ_get (es.take k) h2
    have g2 : ((allQ n (es.take k)).set a (zn (sumE (balF a) (es.take k) + zi es[k].cents)))[0]? = some (zn (sumE (balF 0) (es.take k))) := by
      rw [List.getElem?_set, if_neg (by omega)]; exact allQ_get (es.take k) hn
    rw [← s]
    generalize hq : allQ n (es.take k) = q at *
    have hql : q.length = n := by rw [← hq]; exact allQ_len _ _
    generalize zn (sumE (balF a) (es.take k) + zi es[k].cents) = z1 at *
    generalize zn (sumE (balF 0) (es.take k) - zi es[k].cents) = z2 at *
    generalize zn (sumE (balF a) (es.take k)) = z3 at *
    generalize zn (sumE (balF 0) (es.take k)) = z4 at *
    clear s ho f1 f2
    generalize es[k] = e at *
    obtain ⟨acc, kd, hour, c⟩ := e
    replace ha : acc = (a : Int) := ha
    subst ha
    refine bind_eq (dT (by omega)) <| bif_t rfl <| bind_eq (cki_nat hk) <| bind_eq g <| bind_eq (cki_nat (by omega)) <| bind_eq g1 <| bind_eq a1 <| bind_eq (cki_nat (by omega)) <| bind_eq (stM_of (by omega)) <| bind_eq (cki_nat (i := 0) (by simp; omega)) <| bind_eq g2 <| bind_eq a2 <| bind_eq (cki_nat (i := 0) (by simp; omega)) <| bind_eq (stM_of (by simp; omega)) <| bind_eq (congrArg some (w64_succ (by omega))) rfl
  · rw [List.take_length]
    exact bind_eq (dF (by omega)) <| bif_f rfl rfl
theorem entries_eq {n : Nat} {es : List En} {K : Nat} (hn : 0 < n) (he : ∀ e ∈ es, EnOk n K e) (hl : es.length ≤ 1000000) (hK : K ≤ 1000000000) : book_Book_Entries_m n es = some es := by
  unfold book_Book_Entries_m
  refine bind_eq (blank_eq (by omega)) <| bif_f rfl <| bind_eq rfl <| bind_eq (mkM_of (by decide) (by omega)) <| bind_eq rfl ?_
  refine bind_loop_to (fun k => ((k : Int), es.take k ++ List.replicate (es.length - k) (⟨0, 0, 0, ⟨false, []⟩⟩ : En))) es.length es (by simp) (fun k hk => ?_) ?_ rfl
  · have g := List.getElem?_eq_getElem hk
    have ho := he _ (List.getElem_mem hk)
    have a1 := add_eq (wl_zn ho.f (show K ≤ 10000000000 by omega)) (show Wl ⟨false, []⟩ from wl_zero)
    rw [zi_zn, zi_zero, Int.add_zero, ← ho.z] at a1
    have s : (es.take k ++ List.replicate (es.length - k) (⟨0, 0, 0, ⟨false, []⟩⟩ : En)).set k es[k] = es.take (k + 1) ++ List.replicate (es.length - (k + 1)) ⟨0, 0, 0, ⟨false, []⟩⟩ := by
      rw [List.set_append_right _ _ (by simp; omega), show k - (es.take k).length = 0 by simp; omega, show es.length - k = (es.length - (k + 1)) + 1 by omega, List.replicate_succ, List.set_cons_zero, List.take_add_one, g]
      simp only [Option.toList_some, List.append_assoc, List.singleton_append]
    rw [← s]
    have hql : (es.take k ++ List.replicate (es.length - k) (⟨0, 0, 0, ⟨false, []⟩⟩ : En)).length = es.length := by simp; omega
    generalize (es.take k ++ List.replicate (es.length - k) (⟨0, 0, 0, ⟨false, []⟩⟩ : En)) = q at *
    clear s ho
    generalize es[k] = e at *
    obtain ⟨acc, kd, hour, c⟩ := e
    refine bind_eq (dT (by omega)) <| bif_t rfl <| bind_eq (cki_nat hk) <| bind_eq g <| bind_eq a1 <| bind_eq (cki_nat (by omega)) <| bind_eq (stM_of (by omega)) <| bind_eq (congrArg some (w64_succ (by omega))) rfl
  · simp only [List.take_length, Nat.sub_self, List.replicate_zero, List.append_nil]
    exact bind_eq (dF (by omega)) <| bif_f rfl rfl
def kdF (k : Nat) (e : En) : Int := if e.kd = k then zi e.cents else 0
theorem kdF_fit {n : Int} {K : Nat} {e : En} (h : EnOk n K e) (k : Nat) : Fit K (kdF k e) := by
  unfold kdF
  split
  · exact h.f
  · exact fit0
theorem by_eq {n : Nat} {es : List En} {K : Nat} (hn : 0 < n) (he : ∀ e ∈ es, EnOk n K e) (hl : es.length ≤ 1000000) (hK : K ≤ 1000000000) (kind : Nat) : book_Book_By_m n es kind = some (zn (sumE (kdF kind) es)) := by
  unfold book_Book_By_m
  refine bind_eq (blank_eq (by omega)) <| bif_f rfl <| bind_eq rfl ?_
  refine bind_loop_to (fun k => ((k : Int), (zn (sumE (kdF kind) (es.take k))).neg, (zn (sumE (kdF kind) (es.take k))).w)) es.length ((zn (sumE (kdF kind) es)).neg, (zn (sumE (kdF kind) es)).w) rfl (fun k hk => ?_) ?_ rfl
  · have g := List.getElem?_eq_getElem hk
    have ho := he _ (List.getElem_mem hk)
    have f1 : Fit (K + 1) (sumE (kdF kind) (es.take k)) := fit_take (fun e h => kdF_fit (he e h) _) k hl
    have a1 := add_eq (wl_zn f1 (by omega)) (wl_zn ho.f (by omega))
    rw [zi_zn, zi_zn, ← ho.z] at a1
    rw [sumE_take _ hk]
    have hkd : kdF kind es[k] = if es[k].kd = kind then zi es[k].cents else 0 := rfl
    generalize sumE (kdF kind) (es.take k) = s at *
    rw [hkd]
    clear f1 ho hkd
    generalize es[k] = e at *
    obtain ⟨acc, kd, hour, c⟩ := e
    refine bind_eq (dT (by omega)) <| bif_t rfl <| bind_eq (cki_nat hk) <| bind_eq g <| bind_eq rfl <| letJ_of ?_
    by_cases h : kd = kind
    · rw [if_pos h]
      refine bif_t (decide_eq_true h) ?_
      generalize zn (s + zi c) = z1 at *
      generalize zn s = z0 at *
      exact bind_eq a1 <| bind_eq (congrArg some (w64_succ (by omega))) rfl
    · rw [if_neg h, Int.add_zero]
      exact bif_f (decide_eq_false h) <| bind_eq (congrArg some (w64_succ (by omega))) rfl
  · rw [List.take_length]
    exact bind_eq (dF (by omega)) <| bif_f rfl rfl
theorem new_ok {n : Int} (h1 : 1 ≤ n) (h2 : n ≤ 64) : book_New_m n = some (n, []) := by
  unfold book_New_m
  exact letJ_of <| bind_eq (dF (by omega)) <| bind_eq (a := false) (bif_f rfl <| bind_eq (dF (by omega)) rfl) rfl
end Go.Proofs.Ytmiflmkdaeianaa
namespace Go.Proofs.Ytmiflmkdaeianaa
open Go.Fw
def NearI (x : Rat) (r : Int) : Prop := (2 * (x - (r : Rat)) < 1 ∧ -1 < 2 * (x - (r : Rat))) ∨ ((2 * (x - (r : Rat)) = 1 ∨ 2 * (x - (r : Rat)) = -1) ∧ r % 2 = 0)
theorem cast1 (l : Int) : ((l + 1 : Int) : Rat) = (l : Rat) + 1 := by rw [Rat.intCast_add]; rfl
theorem rnd_near (x : Rat) : NearI x (rnd x) := by
  have h1 := Rat.floor_le x
  have h2 := Rat.lt_floor_add_one x
  rw [cast1] at h2
  have hh : (1 : Rat) / 2 + 1 / 2 = 1 := by grind
  unfold rnd
  generalize x.floor = l at *
  split
  · exact .inl (by constructor <;> grind)
  · split
    · exact .inl (by rw [cast1]; constructor <;> grind)
    · have e : 2 * (x - (l : Rat)) = 1 := by grind
      split
      · rename_i h; exact .inr ⟨.inl e, h⟩
      · refine .inr ⟨.inr ?_, by omega⟩
        rw [cast1]; grind
theorem near_le {x y : Rat} {r s : Int} (h : NearI x r) (k : NearI y s) (e : x ≤ y) : r ≤ s := by
  by_cases hrs : r ≤ s
  · exact hrs
  · exfalso
    have h2 : ((s + 1 : Int) : Rat) ≤ (r : Rat) := Rat.intCast_le_intCast.2 (by omega)
    rw [cast1] at h2
    have a1 : -1 ≤ 2 * (x - (r : Rat)) := by rcases h with h | ⟨h | h, _⟩ <;> grind
    have a2 : 2 * (y - (s : Rat)) ≤ 1 := by rcases k with h | ⟨h | h, _⟩ <;> grind
    have e1 : (r : Rat) = ((s + 1 : Int) : Rat) := by rw [cast1]; grind
    have e2 : r = s + 1 := Rat.intCast_inj.1 e1
    have b1 : r % 2 = 0 := by
      rcases h with ⟨h, h'⟩ | ⟨_, h⟩
      · exfalso; grind
      · exact h
    have b2 : s % 2 = 0 := by
      rcases k with ⟨h, h'⟩ | ⟨_, h⟩
      · exfalso; grind
      · exact h
    omega
theorem near_rnd {x : Rat} {r : Int} (h : NearI x r) : rnd x = r := Int.le_antisymm (near_le (rnd_near x) h Rat.le_refl) (near_le h (rnd_near x) Rat.le_refl)
theorem is39_eq {i n : Int} {K : Nat} (hf : Fit K i) (hK : K ≤ 10000000000) (hn : i64ok n) (e : i = n) : law39_is_m (zn i) n = some true := by
  subst e
  have h1 := fromInt_eq hn.1 hn.2
  have h2 := same_refl (x := zn i) (Nat.le_trans (wl_zn hf hK).2 (by decide))
  unfold law39_is_m
  generalize zn i = z at *
  exact bind_eq h1 <| bind_eq h2 rfl
theorem is39_small {n : Int} (hn : i64ok n) : law39_is_m (zn n) n = some true := is39_eq (K := 2) (Fit.i64 hn.1 hn.2) (by decide) hn rfl
theorem over_eq39 {n d : Int} (hn : i64ok n) (hd : i64ok d) (h0 : d ≠ 0) : ∃ q, law39_over_m n d = some q ∧ Rep 2 q (Rat.divInt n d) := by
  obtain ⟨h, r⟩ := new_eq hn hd h0
  refine ⟨_, ?_, r⟩
  unfold law39_over_m
  generalize qn (Rat.divInt n d) = q at *
  exact bind_eq h rfl
theorem move_err {n : Int} {es : List En} {acc : Int} {kd : Nat} {hour : Int} {a : Qr} {L : Nat} {x : Rat} (e : Int) (hn : n ≠ 0) (ha : Rep L a x) (hL : L ≤ 1000000000) (hl : es.length ≤ 1000000) (he : mvE n es.length acc kd hour = e) (h0 : e ≠ 0) : book_Book_Move_m n es acc kd hour a = some (e, es) := by
  rw [move_eq hn ha hL hl]
  unfold stp
  show some (mvE n es.length acc kd hour, if mvE n es.length acc kd hour = 0 then es ++ [⟨acc, kd, hour, zn (rnd x)⟩] else es) = _
  rw [he, if_neg h0]
theorem move_good {n : Int} {es : List En} {acc : Int} {kd : Nat} {hour : Int} {a : Qr} {L : Nat} {x : Rat} (hn : n ≠ 0) (ha : Rep L a x) (hL : L ≤ 1000000000) (hl : es.length ≤ 1000000) (he : mvE n es.length acc kd hour = 0) (r : Int) (hr : rnd x = r) : book_Book_Move_m n es acc kd hour a = some (0, es ++ [⟨acc, kd, hour, zn r⟩]) := by
  rw [move_eq hn ha hL hl]
  unfold stp
  show some (mvE n es.length acc kd hour, if mvE n es.length acc kd hour = 0 then es ++ [⟨acc, kd, hour, zn (rnd x)⟩] else es) = _
  rw [he, if_pos rfl, hr]
theorem r52 : rnd (Rat.divInt 5 2) = 2 := near_rnd (.inr ⟨.inl (by rw [Rat.divInt_eq_div]; show 2 * ((5 : Rat) / 2 - 2) = 1; grind), rfl⟩)
theorem r72 : rnd (Rat.divInt 7 2) = 4 := near_rnd (.inr ⟨.inr (by rw [Rat.divInt_eq_div]; show 2 * ((7 : Rat) / 2 - 4) = -1; grind), rfl⟩)
theorem r52' : rnd (Rat.divInt (-5) 2) = -2 := near_rnd (.inr ⟨.inr (by rw [Rat.divInt_eq_div]; show 2 * ((-5 : Rat) / 2 - (-2)) = -1; grind), rfl⟩)
theorem r83 : rnd (Rat.divInt 8 3) = 3 := near_rnd (.inl (by rw [Rat.divInt_eq_div]; show 2 * ((8 : Rat) / 3 - 3) < 1 ∧ -1 < 2 * ((8 : Rat) / 3 - 3); constructor <;> grind))
theorem r71' : rnd (Rat.divInt (-7) 1) = -7 := near_rnd (.inl (by rw [Rat.divInt_eq_div]; show 2 * ((-7 : Rat) / 1 - (-7)) < 1 ∧ -1 < 2 * ((-7 : Rat) / 1 - (-7)); constructor <;> grind))
theorem awake39_eq : law39_awake_m = some true := by
  obtain ⟨q1, e1, s1⟩ := over_eq39 (n := 5) (d := 2) (by decide) (by decide) (by decide)
  obtain ⟨q2, e2, s2⟩ := over_eq39 (n := -7) (d := 1) (by decide) (by decide) (by decide)
  obtain ⟨q3, e3, s3⟩ := over_eq39 (n := 1) (d := 1) (by decide) (by decide) (by decide)
  obtain ⟨q4, e4, s4⟩ := over_eq39 (n := 7) (d := 2) (by decide) (by decide) (by decide)
  obtain ⟨q5, e5, s5⟩ := over_eq39 (n := -5) (d := 2) (by decide) (by decide) (by decide)
  obtain ⟨q6, e6, s6⟩ := over_eq39 (n := 8) (d := 3) (by decide) (by decide) (by decide)
  have m1 := move_good (n := 3) (es := []) (acc := 1) (kd := 1) (hour := 0) (by decide) s1 (by decide) (by simp) (by decide) 2 r52
  have m2 := move_good (n := 3) (es := [] ++ [⟨1, 1, 0, zn 2⟩]) (acc := 2) (kd := 1) (hour := 0) (by decide) s2 (by decide) (by simp) (by decide) (-7) r71'
  obtain ⟨es, hes⟩ : ∃ es, ([] ++ [⟨1, 1, 0, zn 2⟩] ++ [⟨2, 1, 0, zn (-7)⟩] : List En) = es := ⟨_, rfl⟩
  have hlen : es.length = 2 := by rw [← hes]; rfl
  have ok1 : EnOk (3 : Nat) 1 ⟨1, 1, 0, zn 2⟩ := ⟨by decide, by decide, by decide, by rw [zi_zn], by rw [zi_zn]; unfold Fit; decide⟩
  have ok2 : EnOk (3 : Nat) 1 ⟨2, 1, 0, zn (-7)⟩ := ⟨by decide, by decide, by decide, by rw [zi_zn], by rw [zi_zn]; unfold Fit; decide⟩
  have hok : ∀ e ∈ es, EnOk (3 : Nat) 1 e := by
    rw [← hes]; intro e he
    simp only [List.nil_append, List.cons_append, List.mem_cons, List.not_mem_nil, or_false] at he
    rcases he with rfl | rfl
    · exact ok1
    · exact ok2
  have bal : ∀ f : En → Int, sumE f es = f ⟨1, 1, 0, zn 2⟩ + f ⟨2, 1, 0, zn (-7)⟩ := fun f => by rw [← hes]; simp [sumE]
  have a1 := all_eq (n := 3) (by decide) (by decide) hok (by omega) (by decide)
  have g0 := allQ_get (n := 3) (i := 0) es (by decide)
  have g1 := allQ_get (n := 3) (i := 1) es (by decide)
  have g2 := allQ_get (n := 3) (i := 2) es (by decide)
  have gl := allQ_len 3 es
  have b0 : sumE (balF ((0 : Nat) : Int)) es = 5 := by rw [bal]; unfold balF; simp only [zi_zn]; decide
  have b1 : sumE (balF ((1 : Nat) : Int)) es = 2 := by rw [bal]; unfold balF; simp only [zi_zn]; decide
  have b2 : sumE (balF ((2 : Nat) : Int)) es = -7 := by rw [bal]; unfold balF; simp only [zi_zn]; decide
  have b3 : sumE (kdF 1) es = -5 := by rw [bal]; unfold kdF; simp only [zi_zn]; decide
  rw [b0] at g0
  rw [b1] at g1
  rw [b2] at g2
  have y1 := by_eq (n := 3) (by decide) hok (by omega) (by decide) 1
  rw [b3] at y1
  have n1 := entries_eq (n := 3) (by decide) hok (by omega) (by decide)
  rw [hes] at m2
  have m3 := move_err (n := 3) (es := es) (acc := 3) (kd := 1) (hour := 0) 1 (by decide) s3 (by decide) (by omega) (by rw [hlen]; decide) (by decide)
  have m4 := move_err (n := 3) (es := es) (acc := 0) (kd := 1) (hour := 0) 1 (by decide) s3 (by decide) (by omega) (by rw [hlen]; decide) (by decide)
  have m5 := move_err (n := 3) (es := es) (acc := 1) (kd := 5) (hour := 0) 12 (by decide) s3 (by decide) (by omega) (by rw [hlen]; decide) (by decide)
  have m6 := move_err (n := 3) (es := es) (acc := 1) (kd := 4) (hour := 8) 1 (by decide) s3 (by decide) (by omega) (by rw [hlen]; decide) (by decide)
  have o1 := s1.round (by decide)
  have o2 := s4.round (by decide)
  have o3 := s5.round (by decide)
  have o4 := s6.round (by decide)
  rw [r52] at o1
  rw [r72] at o2
  rw [r52'] at o3
  rw [r83] at o4
  have i1 := is39_small (n := 2) (by decide)
  have i2 := is39_small (n := 4) (by decide)
  have i3 := is39_small (n := -2) (by decide)
  have i4 := is39_small (n := 3) (by decide)
  have i5 := is39_small (n := 5) (by decide)
  have i6 := is39_small (n := -7) (by decide)
  have i7 := is39_small (n := -5) (by decide)
  generalize allQ 3 es = al at *
  clear hok bal ok1 ok2 hes b0 b1 b2 b3
  generalize ([] ++ [⟨1, 1, 0, zn 2⟩] : List En) = es1 at *
  generalize zn 2 = z2 at *
  generalize zn 4 = z4 at *
  generalize zn (-2) = z2' at *
  generalize zn 3 = z3 at *
  generalize zn 5 = z5 at *
  generalize zn (-7) = z7 at *
  generalize zn (-5) = z5' at *
  unfold law39_awake_m
  refine bind_eq (new_ok (by decide) (by decide)) <| bind_eq e1 <| bind_eq m1 <| bind_eq e2 <| bind_eq m2 <| bind_eq e3 <| bind_eq m3 <| bind_eq e3 <| bind_eq m4 <| bind_eq e3 <| bind_eq m5 <| bind_eq e3 <| bind_eq m6 <| bind_eq a1 <| letJ_of ?_
  refine bind_eq e1 <| bind_eq o1 <| bind_eq i1 <| andT (bind_eq e4 <| bind_eq o2 <| bind_eq i2 rfl) <| andT (bind_eq e5 <| bind_eq o3 <| bind_eq i3 rfl) <| andT (bind_eq e6 <| bind_eq o4 <| bind_eq i4 rfl) ?_
  refine andT (bind_eq (dT rfl) rfl) <| andT (bind_eq (dT rfl) rfl) <| andT (bind_eq (dT rfl) rfl) <| andT (bind_eq (dT rfl) rfl) <| andT (bind_eq (dT rfl) rfl) <| andT (bind_eq (dT rfl) rfl) ?_
  refine andT (bind_eq rfl <| bind_eq (dT (by omega)) rfl) <| andT (bind_eq (geti_zero g0) <| bind_eq i5 rfl) <| andT (bind_eq (geti_one g1) <| bind_eq i1 rfl) <| andT (bind_eq (geti_nat (i := 2) g2) <| bind_eq i6 rfl) ?_
  exact andT (bind_eq y1 <| bind_eq i7 rfl) <| andT (bind_eq n1 <| bind_eq rfl <| bind_eq (dT (by omega)) rfl) rfl
theorem rounds39_law (a : Qr) (oa : OkQ a) (hs : szQ a ≤ 1048576) : law39_BookRounds_m a = some true := by
  obtain ⟨t, ht, -⟩ := long33 [[a]] (by simp)
  have ra := repq oa hs
  have r1 := ra.round (by decide)
  have r2 := ra.rround (by decide)
  have s1 := same_refl (x := zn (rnd (qv a))) (Nat.le_trans (wl_zn (rnd_fit ra.fq) (by decide)).2 (by decide))
  unfold law39_BookRounds_m
  generalize zn (rnd (qv a)) = z at *
  refine bind_eq ht ?_
  cases t
  · exact bif_f rfl <| letJ_of <| bind_eq r1 <| bind_eq r2 <| bind_eq s1 <| bind_eq (a := true) (bif_t rfl <| bind_eq awake39_eq rfl) rfl
  · exact bif_t rfl <| bind_eq awake39_eq rfl
end Go.Proofs.Ytmiflmkdaeianaa
namespace Go.Proofs.Ytmiflmkdaeianaa
open Go.Fw Go.RowKit Go.ChangeShapes Go.WideShapes Go.ChangeAt
set_option linter.unusedVariables false
set_option maxRecDepth 100000 in
theorem bookRoundsUpto_contract (H : Type) (enc : TypeId × Value → H) (W : World) (base : Nat) (args : Array Value) (ds gs : List (DataW H)) (before : List MemPlace)
    (hval : ∀ (j : Nat) t v, Try.f3.params[j]? = some t → args[j]? = some v → Value.okWide Try.prog W .any base t v)
    (hW : DataW.Whole enc Try.prog Try.f3.params.toList Rows.bookRoundsSpec.vars false W args.toList ds gs before) (hk : Rows.uptoSmall H (ds ++ gs) = true) :
    Calls Try.prog 3 args W fun e W' => ∃ v, e = .returned v ∧ Rows.bookRoundsSpec.post enc Try.prog Try.f3 false true false false W args v W' := by
  have hW' := hW
  obtain ⟨p, q, hA0, hV, rfl, hfz, hnd⟩ := hW
  have hA : DataW.TrodAll enc Try.prog W 0 (fun _ => true) true Try.f3.params.toList args.toList ds p := hA0
  rw [Try.params3] at hA hval
  obtain ⟨v0, vs0, d0, ds0, p0, q0, hargs, rfl, rfl, h0, r0⟩ := trodAll_cons hA
  obtain ⟨rfl, rfl, rfl⟩ := trodAll_nil r0
  obtain rfl : args = #[v0] := by cases args; simp_all
  obtain ⟨rfl, rfl⟩ := trodVars_none hV
  have lt0 : ∀ x ∈ p0, x.block < W.heap.size := by obtain ⟨m, hm⟩ := h0; exact DataW.trod_lt m _ _ _ hm
  obtain ⟨x0, ok0, sz0, al0⟩ := arg_agg (P := Try.prog) (T := 26) (e := eQ) (hval 0 26 v0 rfl rfl) h0
  have hsz : Rows.uptoBulk d0 ≤ 1048576 := by
    have := of_decide_eq_true hk; simp only [List.cons_append, List.nil_append, List.append_nil, Rows.uptoBulkAll] at this; omega
  clear hA0
  refine (said_of (law39_BookRounds_ok (rounds39_law x0 ok0 (Nat.le_trans sz0 hsz))) (W := W) (vs := [v0]) ⟨al0, trivial⟩).mono fun e W' ⟨he, bel⟩ => ?_
  subst he
  exact ⟨_, rfl, _, _, _, [], _, [], hW', trodAll_mk1 (shut_bool Try.underlying4 _), (trodAll_cons_mk (Below.trod laidOut_ (by kernel_rfl) (of_decide_eq_true (by kernel_rfl)) h0 bel lt0) trodAll_mk0), rfl, bel.frame _, fun h => by cases h⟩
set_option maxRecDepth 100000 in
theorem bookRoundsUpto_lifted (os : Os) (started : os.Started) (H : Type) (enc : TypeId × Value → H) (F : Stop.Interp) :
    ReturnsInHanded {} Try.checked os 3 .any ((Rows.OpenSpec.upto Rows.bookRoundsSpec).pre6 enc Try.prog Try.f3 Rows.bookRoundsUptoRow.domain false) (((Rows.OpenSpec.upto Rows.bookRoundsSpec).at F).post enc Try.prog Try.f3 false true false false) := by
  refine returnsInHanded_of_cond (C := Try.checked) (s := Rows.OpenSpec.upto Rows.bookRoundsSpec) (k := Rows.uptoSmall) rfl own_ started (by kernel_rfl) Try.func3
    (OpenSpec.witness (enc := enc) (C := Try.checked) (s := Rows.OpenSpec.upto Rows.bookRoundsSpec) (k := Rows.uptoSmall) rfl false ⟨#[], #[.agg #[.bool false, .slice none 0 0, .bool false, .slice none 0 0]], []⟩ 8 (by kernel_rfl) (by kernel_rfl) (by kernel_rfl)
      (x := ([.agg [.agg [.lit (.bool false), .nil], .agg [.lit (.bool false), .nil]]], [], [])) (by kernel_rfl) rfl (by kernel_rfl)) ?_
  intro W base args ds gs before hval hW _ hk _
  exact bookRoundsUpto_contract H enc W base args ds gs before hval hW hk
theorem bookRoundsUpto_holds : Rows.BookRoundsUptoSaid :=
  OpenClaim.holds_of_cond 3 Try.f3 rfl rfl rfl rfl rfl rfl rfl ⟨rfl, rfl, rfl, rfl, rfl⟩ rfl rfl rfl rfl rfl (by kernel_rfl) Try.func3 (by kernel_rfl)
    (of_decide_eq_true (by kernel_rfl)) (by unfold Func.isWrapper; first | (rw [if_pos (by decide +kernel)]; kernel_rfl) | (rw [if_neg (by decide +kernel)]; exact ⟨rfl, rfl⟩))
    (fun os started H enc _ F => bookRoundsUpto_lifted os started H enc F)
end Go.Proofs.Ytmiflmkdaeianaa
