/- Numbers by their digits: comparisons, small ones. -/
import Derived.Test.YtgkafblpckcekaaNumB
namespace Go.Fw
theorem can_one {B v : Nat} (hB : 2 ≤ B) (h0 : v ≠ 0) (h : v < B) : can B v = [v] := by
  have := can_of hB (l := []) h0 (by simpa using h)
  simpa [val] using this.symm
theorem can_two {B v : Nat} (hB : 2 ≤ B) (h0 : v / B ≠ 0) (h : v < B * B) : can B v = [v % B, v / B] := by
  have h1 : v / B < B := by rw [Nat.div_lt_iff_lt_mul (by omega)]; exact h
  have h2 : v % B < B := Nat.mod_lt _ (by omega)
  have := can_of hB (l := [v % B]) h0 (by simp; exact ⟨h2, h1⟩)
  simp only [List.cons_append, List.nil_append, val, Nat.mul_zero, Nat.add_zero] at this
  rw [Nat.mod_add_div] at this
  exact this.symm
theorem get_val {B : Nat} {l : List Nat} (h : ∀ x ∈ l, x < B) {i : Nat} (hi : i < l.length) : l[i]? = some (val B l / B ^ i % B) := by
  rw [← val_getD l h i]; simp [List.getD, hi]
def cmpN (v w : Nat) : Int := if v < w then -1 else if v = w then 0 else 1
theorem cmpN_lt {v w : Nat} (h : v < w) : cmpN v w = -1 := by simp [cmpN, h]
theorem cmpN_eq (v : Nat) : cmpN v v = 0 := by simp [cmpN]
theorem cmpN_gt {v w : Nat} (h : w < v) : cmpN v w = 1 := by
  have h1 : ¬ v < w := by omega
  have h2 : ¬ v = w := by omega
  simp [cmpN, h1, h2]
theorem can_lt_len {B v w : Nat} (hB : 2 ≤ B) (h : (can B v).length < (can B w).length) : v < w :=
  Nat.lt_of_lt_of_le (lt_can_len hB v) (pow_le_of_can hB h)
theorem div_step (B v m : Nat) : v / B ^ m = B * (v / B ^ (m + 1)) + v / B ^ m % B := by
  rw [Nat.pow_succ, ← Nat.div_div_eq_div_mul, Nat.div_add_mod]
theorem lt_of_div {B v w m : Nat} (h : v / B ^ m < w / B ^ m) : v < w := by
  rcases Nat.lt_or_ge v w with h1 | h1
  · exact h1
  · have := Nat.div_le_div_right (c := B ^ m) h1; omega
theorem dig_cases {B v w m : Nat} (h : v / B ^ (m + 1) = w / B ^ (m + 1)) : (v / B ^ m % B = w / B ^ m % B ∧ v / B ^ m = w / B ^ m) ∨ (v / B ^ m % B < w / B ^ m % B ∧ v < w) ∨ (w / B ^ m % B < v / B ^ m % B ∧ w < v) := by
  have h1 := div_step B v m
  have h2 := div_step B w m
  rw [← h] at h2
  rcases Nat.lt_trichotomy (v / B ^ m % B) (w / B ^ m % B) with h3 | h3 | h3
  · exact .inr (.inl ⟨h3, lt_of_div (B := B) (m := m) (by omega)⟩)
  · exact .inl ⟨h3, by omega⟩
  · exact .inr (.inr ⟨h3, lt_of_div (B := B) (m := m) (by omega)⟩)
end Go.Fw
