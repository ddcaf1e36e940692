/- The long division: the estimate of a digit, a window of digits. No program in sight. -/
import Derived.Test.YtgkafblpckcekaaNumC
namespace Go.Fw

section knuth
variable {B V U W : Nat}
/-- The estimate from above. 'W' stands for B^(n-2), 'V2' and 'U2' for the two leading digits of the divisor and the three of the dividend. -/
theorem est_ge {P F T : Nat} (hP : 0 < P) (hF : 0 < F) (hV : F * P ≤ V) (hU : U < (T + 1) * P) : U / V ≤ T / F := by
  have hV0 : 0 < V := Nat.lt_of_lt_of_le (Nat.mul_pos hF hP) hV
  rw [Nat.le_div_iff_mul_le hF]
  rcases Nat.lt_or_ge T (U / V * F) with h | h
  · exfalso
    have h1 : U / V * V ≤ U := Nat.div_mul_le_self U V
    have h2 : U / V * (F * P) ≤ U / V * V := Nat.mul_le_mul_left _ hV
    have h3 : (T + 1) * P ≤ U / V * F * P := Nat.mul_le_mul_right _ h
    rw [Nat.mul_assoc] at h3
    omega
  · exact h
theorem est_dec {P F S T u g r : Nat} (hV : (F * B + S) * P ≤ V) (hU : U < (T * B + u + 1) * P) (hgr : g * F + r = T) (h : r * B + u < g * S) : U < g * V := by
  have h1 : g * ((F * B + S) * P) ≤ g * V := Nat.mul_le_mul_left _ hV
  have h2 : (T * B + u + 1) * P ≤ g * (F * B + S) * P := by
    apply Nat.mul_le_mul_right
    rw [Nat.mul_add, ← Nat.mul_assoc, ← hgr, Nat.add_mul]
    omega
  rw [Nat.mul_assoc] at h2
  omega
theorem est_le {P V2 U2 g : Nat} (hV : V < (V2 + 1) * P) (hU : U2 * P ≤ U) (hq : U / V < B) (hB : B ≤ V2) (hV0 : 0 < V) (h : g * V2 ≤ U2) : g ≤ U / V + 1 := by
  rcases Nat.lt_or_ge (U / V + 1) g with h' | h'
  · exfalso
    have h1 : U < (U / V + 1) * V := by have := Nat.lt_div_mul_add (a := U) hV0; rw [Nat.add_mul, Nat.one_mul]; exact this
    have h2 : (U / V + 1) * V ≤ (U / V + 1) * ((V2 + 1) * P) := Nat.mul_le_mul_left _ (Nat.le_of_lt hV)
    have h3 : g * V2 * P ≤ U2 * P := Nat.mul_le_mul_right _ h
    have h4 : (U / V + 2) * V2 ≤ g * V2 := Nat.mul_le_mul_right _ h'
    have h5 : (U / V + 2) * V2 * P ≤ g * V2 * P := Nat.mul_le_mul_right _ h4
    have h6 : (U / V + 1) * ((V2 + 1) * P) ≤ (U / V + 2) * V2 * P := by
      rw [← Nat.mul_assoc]
      apply Nat.mul_le_mul_right
      rw [Nat.mul_add, Nat.add_mul (U / V) 2 V2, Nat.add_mul (U / V) 1 V2]
      omega
    omega
  · exact h'
end knuth

/-- The digits from place o on: the lowest i are X's, the others U's. -/
def mix (B o i X U A : Nat) : Nat := A % B ^ o + B ^ o * (X % B ^ i + B ^ i * (U / B ^ i))
theorem mix_low (B o i X U A : Nat) : mix B o i X U A % B ^ o = A % B ^ o := by rw [mix, Nat.add_mul_mod_self_left, Nat.mod_mod]
section mix
variable {B : Nat} (hB : 0 < B) (o i X U A : Nat)
include hB
theorem mix_high : mix B o i X U A / B ^ o = X % B ^ i + B ^ i * (U / B ^ i) := by
  rw [mix, Nat.add_mul_div_left _ _ (Nat.pow_pos hB), Nat.div_eq_of_lt (Nat.mod_lt _ (Nat.pow_pos hB)), Nat.zero_add]
theorem mix_get : mix B o i X U A / B ^ (o + i) = U / B ^ i := by
  rw [Nat.pow_add, ← Nat.div_div_eq_div_mul, mix_high hB, Nat.add_mul_div_left _ _ (Nat.pow_pos hB), Nat.div_eq_of_lt (Nat.mod_lt _ (Nat.pow_pos hB)), Nat.zero_add]
theorem mix_lo2 : mix B o i X U A % B ^ (o + i) = A % B ^ o + B ^ o * (X % B ^ i) := by
  rw [Nat.pow_add, Nat.mod_mul, mix_low, mix_high hB, Nat.add_mul_mod_self_left, Nat.mod_mod]
theorem mix_put {N : Nat} (h : o + i < N) : (dig B N (mix B o i X U A)).set (o + i) (X / B ^ i % B) = dig B N (mix B o (i + 1) X U A) := by
  apply dig_put hB h (Nat.mod_lt _ hB)
  · rw [mix_lo2 hB, Nat.pow_add, Nat.mod_mul, mix_low, mix_high hB, Nat.pow_succ B i, Nat.mul_assoc, Nat.add_mul_mod_self_left, Nat.mod_mul, Nat.add_mul_mod_self_left, Nat.mod_mod]
  · rw [Nat.pow_add, ← Nat.div_div_eq_div_mul, mix_high hB, Nat.pow_succ B i, Nat.mod_mul, Nat.mul_assoc, Nat.add_assoc, ← Nat.mul_add, Nat.add_mul_div_left _ _ (Nat.pow_pos hB), Nat.div_eq_of_lt (Nat.mod_lt _ (Nat.pow_pos hB)), Nat.zero_add, Nat.add_mul_mod_self_left, Nat.mod_mod]
  · have h1 := mix_get hB o (i + 1) X U A
    have h2 := mix_get hB o i X U A
    rw [show o + i + 1 = o + (i + 1) by omega, h1, show o + (i + 1) = (o + i) + 1 by omega, Nat.pow_succ B (o + i), ← Nat.div_div_eq_div_mul, h2, Nat.pow_succ, ← Nat.div_div_eq_div_mul]
end mix
theorem mix_full {B o m X U A : Nat} (hU : U < B ^ m) : mix B o m X U A = A % B ^ o + B ^ o * (X % B ^ m) := by rw [mix, Nat.div_eq_of_lt hU]; simp
theorem mix_self {B : Nat} (o X A : Nat) : mix B o 0 X (A / B ^ o) A = A := by
  simp only [mix, Nat.pow_zero, Nat.mod_one, Nat.zero_add, Nat.one_mul, Nat.div_one]
  exact Nat.mod_add_div A (B ^ o)
theorem lnd_congr {B U U' T i : Nat} (h : U % B ^ i = U' % B ^ i) : lnd B U T i = lnd B U' T i := by rw [lnd, lnd, h]
/-- A digit of a difference that may have to borrow. -/
theorem lnd_dig' {B : Nat} (hB : 0 < B) {U T m i : Nat} (hi : i < m) (hT : T ≤ U + B ^ m) : (U / B ^ i % B + (B - 1 - T / B ^ i % B) + lnd B U T i) % B = (U + B ^ m - T) / B ^ i % B := by
  have e : B ^ m = B ^ i * (B * B ^ (m - i - 1)) := by rw [← Nat.pow_succ', ← Nat.pow_add]; congr 1; omega
  have h1 : (U + B ^ m) % B ^ i = U % B ^ i := by rw [e, Nat.add_mul_mod_self_left]
  have h2 : (U + B ^ m) / B ^ i % B = U / B ^ i % B := by rw [e, Nat.add_mul_div_left _ _ (Nat.pow_pos hB), Nat.add_mul_mod_self_left]
  rw [← h2, lnd_congr (U' := U + B ^ m) h1.symm, lnd_dig hB hT]
theorem lnd_end {B m U T : Nat} (hB : 0 < B) (hU : U < B ^ m) (hT : T < B ^ m) : lnd B U T m = if U < T then 0 else 1 := by
  rw [lnd, Nat.mod_eq_of_lt hU, Nat.mod_eq_of_lt hT]
  have hp : 0 < B ^ m := Nat.pow_pos hB
  split
  · exact Nat.div_eq_of_lt (by omega)
  · rw [show U + B ^ m - T = (U - T) + B ^ m by omega, Nat.add_div_right _ hp, Nat.div_eq_of_lt (by omega)]
end Go.Fw
