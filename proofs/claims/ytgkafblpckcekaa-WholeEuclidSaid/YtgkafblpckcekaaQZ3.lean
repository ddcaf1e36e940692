/- Integers: conversions, sign, order, sums, products. -/
import Derived.Test.YtgkafblpckcekaaQZ2
namespace Go.Proofs.Ytgkafblpckcekaa
open Go.Fw

theorem fromInt_eq {x : Int} (h1 : -9223372036854775808 ≤ x) (h2 : x ≤ 9223372036854775807) : whole_FromInt64_m x = some (zn x) := by
  unfold whole_FromInt64_m
  simp only [bsm, letJ]
  by_cases hx : x < 0
  · have e : (x % 18446744073709551616).toNat = 18446744073709551616 - x.natAbs := by omega
    rw [show decide (x < 0) = true by simp [hx], ctm, e, usub_lt (by omega) (by omega), show 18446744073709551616 + 0 - (18446744073709551616 - x.natAbs) = x.natAbs by omega, small_eq _ _ (by omega), bsm, zc_zn, show sv true x.natAbs = x by simp [sv]; omega]
  · have e : (x % 18446744073709551616).toNat = x.natAbs := by omega
    rw [show decide (x < 0) = false by simp [hx], cfm, e, small_eq _ _ (by omega), bsm, zc_zn, show sv false x.natAbs = x by simp [sv]; omega]

/-- What Int64 answers. -/
def i64ok (i : Int) : Prop := -9223372036854775808 ≤ i ∧ i ≤ 9223372036854775807
instance (i : Int) : Decidable (i64ok i) := by unfold i64ok; infer_instance
def i64of (i : Int) : Int × Bool := if i64ok i then (i, true) else (0, false)

theorem int64_eq {z : Zr} (h : Wl z) : whole_Int64_m z = some (i64of (zi z)) := by
  obtain ⟨n, w⟩ := z
  unfold whole_Int64_m
  have ht := h.trim
  have hlow : vl w < 18446744073709551616 → whole_low_m (can 4294967296 (vl w)) = some (vl w) := fun h2 => by
    rw [low_eq _ (fun _ hx => can_lt (by decide) hx) (by have := can_len2.2 h2; omega), vl_can]
  show (whole_trim_m w).bind _ = some (i64of (sv n (vl w)))
  rw [show whole_trim_m w = some (can 4294967296 (vl w)) from ht]
  simp only [bsm]
  generalize vl w = v at *
  by_cases h2 : v < 18446744073709551616
  · have := can_len2.2 h2
    rw [show decide ((2 : Int) < ((can 4294967296 v).length : Int)) = false by simp; omega, cfm, hlow h2, bsm]
    cases n
    · rw [cfm, sv_false]
      by_cases h3 : v < 9223372036854775808
      · rw [show decide (9223372036854775808 ≤ v) = false by simp; omega, cfm, w64_nat (by omega), i64of, if_pos (by unfold i64ok; omega)]
      · rw [show decide (9223372036854775808 ≤ v) = true by simp; omega, ctm, i64of, if_neg (by unfold i64ok; omega)]
    · rw [ctm, show sv true v = -(v : Int) from rfl]
      by_cases h3 : 9223372036854775808 < v
      · rw [show decide (9223372036854775808 < v) = true by simp; omega, ctm, i64of, if_neg (by unfold i64ok; omega)]
      · rw [show decide (9223372036854775808 < v) = false by simp; omega, cfm, i64of, if_pos (by unfold i64ok; omega)]
        by_cases h0 : v = 0
        · subst h0; rfl
        · rw [usub_lt (by omega) (by omega)]
          rw [show IntKind.i64.wrap ((18446744073709551616 + 0 - v : Nat) : Int) = -(v : Int) by
            rw [IntKind.wrap]; simp [IntKind.signed, IntKind.bits]; omega]
  · have : ¬ (((can 4294967296 v).length : Int) ≤ 2) := fun h => h2 (can_len2.1 h)
    rw [show decide ((2 : Int) < ((can 4294967296 v).length : Int)) = true by simp; omega, ctm, i64of, if_neg (by unfold i64ok; cases n <;> simp [sv] <;> omega)]

theorem sign_eq {z : Zr} (h : Wl z) : whole_Sign_m z = some (zi z).sign := by
  obtain ⟨n, w⟩ := z
  unfold whole_Sign_m
  show (whole_trim_m w).bind _ = some (sv n (vl w)).sign
  rw [show whole_trim_m w = some (can 4294967296 (vl w)) from h.trim]
  simp only [bsm]
  generalize vl w = v
  by_cases h0 : v = 0
  · subst h0; cases n <;> rfl
  · have : (can 4294967296 v).length ≠ 0 := fun h => h0 (can_len0.1 h)
    rw [show decide (((can 4294967296 v).length : Int) = 0) = false by simp; intro e; rw [e] at this; exact this rfl, cfm]
    cases n
    · rw [cfm, sv_false, Int.sign_eq_one_of_pos (by omega)]
    · rw [ctm, show sv true v = -(v : Int) from rfl, Int.sign_eq_neg_one_of_neg (by omega)]

def cmpI (i j : Int) : Int := if i < j then -1 else if i = j then 0 else 1
theorem cmpI_lt {i j : Int} (h : i < j) : cmpI i j = -1 := by simp [cmpI, h]
theorem cmpI_gt {i j : Int} (h : j < i) : cmpI i j = 1 := by
  have h1 : ¬ i < j := by omega
  have h2 : ¬ i = j := by omega
  simp [cmpI, h1, h2]
theorem cmpI_self (i : Int) : cmpI i i = 0 := by simp [cmpI]
theorem cmpI_nat (v w : Nat) : cmpN v w = cmpI (v : Int) (w : Int) := by
  rcases Nat.lt_trichotomy v w with h | h | h
  · rw [cmpN_lt h, cmpI_lt (by omega)]
  · rw [h, cmpN_eq, cmpI_self]
  · rw [cmpN_gt h, cmpI_gt (by omega)]
theorem cmpI_neg (i j : Int) : cmpI (-i) (-j) = cmpI j i := by
  rcases Int.lt_trichotomy i j with h | h | h
  · rw [cmpI_gt h, cmpI_gt (by omega)]
  · rw [h, cmpI_self, cmpI_self]
  · rw [cmpI_lt h, cmpI_lt (by omega)]

theorem cmp_eq {x y : Zr} (hx : Wl x) (hy : Wl y) : whole_Cmp_m x y = some (cmpI (zi x) (zi y)) := by
  obtain ⟨n, w⟩ := x
  obtain ⟨m, u⟩ := y
  unfold whole_Cmp_m
  show (whole_Sign_m ⟨n, w⟩).bind _ = _
  rw [sign_eq hx, bsm]
  show (whole_Sign_m ⟨m, u⟩).bind _ = _
  rw [sign_eq hy, bsm, show whole_trim_m w = some (can 4294967296 (vl w)) from hx.trim, show whole_trim_m u = some (can 4294967296 (vl u)) from hy.trim]
  simp only [bsm]
  rw [compareWords_eq _ _ (Nat.le_trans hx.cl (by decide)) (Nat.le_trans hy.cl (by decide)), compareWords_eq _ _ (Nat.le_trans hy.cl (by decide)) (Nat.le_trans hx.cl (by decide))]
  simp only [bsm]
  rw [show zi ⟨n, w⟩ = sv n (vl w) from rfl, show zi ⟨m, u⟩ = sv m (vl u) from rfl]
  generalize vl w = a
  generalize vl u = b
  rw [cmpI_nat, cmpI_nat]
  obtain ⟨i, hi⟩ : ∃ i, sv n a = i := ⟨_, rfl⟩
  obtain ⟨j, hj⟩ : ∃ j, sv m b = j := ⟨_, rfl⟩
  have hia : (i < 0 → i = -(a : Int)) ∧ (0 ≤ i → i = a) := by rw [← hi]; cases n <;> simp [sv] <;> omega
  have hjb : (j < 0 → j = -(b : Int)) ∧ (0 ≤ j → j = b) := by rw [← hj]; cases m <;> simp [sv] <;> omega
  rw [hi, hj]
  rcases Int.lt_trichotomy i 0 with h1 | h1 | h1 <;> rcases Int.lt_trichotomy j 0 with h2 | h2 | h2
  · rw [Int.sign_eq_neg_one_of_neg h1, Int.sign_eq_neg_one_of_neg h2, hia.1 h1, hjb.1 h2, cmpI_neg]; rfl
  · rw [Int.sign_eq_neg_one_of_neg h1, show Int.sign j = 0 by rw [h2]; rfl, show cmpI i j = -1 from cmpI_lt (by omega)]; rfl
  · rw [Int.sign_eq_neg_one_of_neg h1, Int.sign_eq_one_of_pos h2, show cmpI i j = -1 from cmpI_lt (by omega)]; rfl
  · rw [show Int.sign i = 0 by rw [h1]; rfl, Int.sign_eq_neg_one_of_neg h2, show cmpI i j = 1 from cmpI_gt (by omega)]; rfl
  · rw [show Int.sign i = 0 by rw [h1]; rfl, show Int.sign j = 0 by rw [h2]; rfl, ← hia.2 (by omega), ← hjb.2 (by omega)]; rfl
  · rw [show Int.sign i = 0 by rw [h1]; rfl, Int.sign_eq_one_of_pos h2, show cmpI i j = -1 from cmpI_lt (by omega)]; rfl
  · rw [Int.sign_eq_one_of_pos h1, Int.sign_eq_neg_one_of_neg h2, show cmpI i j = 1 from cmpI_gt (by omega)]; rfl
  · rw [Int.sign_eq_one_of_pos h1, show Int.sign j = 0 by rw [h2]; rfl, show cmpI i j = 1 from cmpI_gt (by omega)]; rfl
  · rw [Int.sign_eq_one_of_pos h1, Int.sign_eq_one_of_pos h2, ← hia.2 (by omega), ← hjb.2 (by omega)]; rfl

theorem neg_eq {x : Zr} (hx : Wl x) : whole_Neg_m x = some (zn (-zi x)) := by
  obtain ⟨n, w⟩ := x
  unfold whole_Neg_m
  have hc : (can 4294967296 (vl w)).length ≤ 100000000 := hx.cl
  simp only [bsm]
  rw [show whole_trim_m w = some (can 4294967296 (vl w)) from hx.trim, bsm, clone_eq _ (by omega), bsm, build_eq _ _ (can_W32 (by omega)), bsm, vl_can, zc_zn, sv_not]
  rfl
theorem abs_eq {x : Zr} (hx : Wl x) : whole_Abs_m x = some (zn ((zi x).natAbs : Int)) := by
  obtain ⟨n, w⟩ := x
  unfold whole_Abs_m
  have hc : (can 4294967296 (vl w)).length ≤ 100000000 := hx.cl
  simp only []
  rw [show whole_trim_m w = some (can 4294967296 (vl w)) from hx.trim, bsm, clone_eq _ (by omega), bsm, build_eq _ _ (can_W32 (by omega)), bsm, vl_can, zc_zn, sv_false, zi_abs]
end Go.Proofs.Ytgkafblpckcekaa
