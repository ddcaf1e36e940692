/- Integers: the operations of the package. -/
import Derived.Test.YtgkafblpckcekaaQZ1
namespace Go.Proofs.Ytgkafblpckcekaa
open Go.Fw

theorem cmpN_neg (a b : Nat) : decide (cmpN a b < 0) = decide (a < b) := by
  rcases Nat.lt_trichotomy a b with h | h | h
  · rw [cmpN_lt h]; simp [h]
  · rw [h, cmpN_eq]; simp
  · rw [cmpN_gt h]; simp; omega
theorem divWords_eq (a b : Nat) (ha : (can 4294967296 a).length ≤ 100000000) (hb : (can 4294967296 b).length ≤ 100000000) (h0 : b ≠ 0) :
    ∃ q r, whole_divWords_m (can 4294967296 a) (can 4294967296 b) = some (q, r) ∧ W32 q ∧ vl q = a / b ∧ W32 r ∧ vl r = a % b ∧ q.length ≤ 100000001 ∧ r.length ≤ 100000001 := by
  unfold whole_divWords_m
  rw [compareWords_eq a b (by omega) (by omega)]
  simp only [bsm]
  by_cases hlt : a < b
  · rw [cmpN_lt hlt]
    simp only [show decide ((-1 : Int) < 0) = true by decide, ctm]
    rw [clone_eq _ (by omega)]
    refine ⟨_, _, rfl, ⟨by simp, by simp⟩, ?_, can_W32 (by omega), ?_, by simp, by omega⟩
    · rw [Nat.div_eq_of_lt hlt]; rfl
    · rw [vl_can, Nat.mod_eq_of_lt hlt]
  · rw [cmpN_neg, show decide (a < b) = false by simp [hlt]]
    simp only [cfm]
    by_cases h2 : a < 18446744073709551616
    · rw [show decide (((can 4294967296 a).length : Int) ≤ 2) = true by rw [decide_eq_true_eq]; exact can_len2.2 h2]
      have hb2 : b < 18446744073709551616 := by omega
      simp only [ctm]
      have l1 := low_eq (can 4294967296 a) (fun _ hx => can_lt (by decide) hx) (by have := can_len2.2 h2; omega)
      have l2 := low_eq (can 4294967296 b) (fun _ hx => can_lt (by decide) hx) (by have := can_len2.2 hb2; omega)
      rw [vl_can] at l1 l2
      rw [l1, bsm, l2, bsm, uquo_of h0 h2, bsm, small_eq _ _ (Nat.lt_of_le_of_lt (Nat.div_le_self _ _) h2), bsm, urem_of h0, bsm, small_eq _ _ (Nat.lt_of_le_of_lt (Nat.mod_le _ _) h2), bsm]
      have hq : a / b < 18446744073709551616 := Nat.lt_of_le_of_lt (Nat.div_le_self _ _) h2
      have hr : a % b < 18446744073709551616 := Nat.lt_of_le_of_lt (Nat.mod_le _ _) h2
      have c1 := can_len2.2 hq
      have c2 := can_len2.2 hr
      exact ⟨_, _, rfl, can_W32 (by omega), vl_can _, can_W32 (by omega), vl_can _, by show (can _ _).length ≤ _; omega, by show (can _ _).length ≤ _; omega⟩
    · rw [show decide (((can 4294967296 a).length : Int) ≤ 2) = false by rw [decide_eq_false_iff_not]; exact fun h => h2 (can_len2.1 h)]
      simp only [cfm]
      have hlen0 : (can 4294967296 b).length ≠ 0 := fun h => h0 (can_len0.1 h)
      by_cases h1 : b < 4294967296
      · have h1' := can_len1.2 h1
        rw [show decide (((can 4294967296 b).length : Int) = 1) = true by simp; omega, ctm]
        have hg : (can 4294967296 b)[0]? = some b := by rw [can_get (by decide) (by omega)]; simp; exact h1
        rw [clone_eq _ (by omega), bsm, geti_zero hg, bsm, Nat.mod_eq_of_lt (b := 18446744073709551616) (by omega), shortDiv_eq _ _ (can_W32 (by omega)) (by omega) (by omega), bsm, vl_can]
        simp only []
        rw [eqLen_of (by rw [dig_len]), bsm]
        have hm : a % b < b := Nat.mod_lt _ (by omega)
        rw [Nat.mod_eq_of_lt (a := a % b) (by omega)]
        refine ⟨_, _, rfl, ⟨fun x hx => dig_lt (by decide) _ _ _ hx, by rw [dig_len]; omega⟩, ?_, ⟨?_, by simp⟩, ?_, by rw [dig_len]; omega, by simp⟩
        · show val _ _ = _
          rw [val_dig, Nat.mod_eq_of_lt (Nat.lt_of_le_of_lt (Nat.div_le_self _ _) (lt_can_len (by decide) a))]
        · intro x hx; simp at hx; omega
        · simp [vl, val]
      · have h1' : ¬ (((can 4294967296 b).length : Int) ≤ 1) := fun h => h1 (can_len1.1 h)
        rw [show decide (((can 4294967296 b).length : Int) = 1) = false by simp; omega, cfm]
        obtain ⟨n, hn⟩ : ∃ n, (can 4294967296 b).length = n + 2 := ⟨(can 4294967296 b).length - 2, by omega⟩
        have hl : (can 4294967296 b).length ≤ (can 4294967296 a).length := (can_len_iff (by decide)).2 (Nat.lt_of_le_of_lt (by omega) (lt_can_len (by decide) a))
        obtain ⟨l, x, hx, he⟩ := can_last (B := 4294967296) (by decide) h0
        have htop : (can 4294967296 b)[n + 1]? ≠ some 0 := by
          have : l.length = n + 1 := by rw [he] at hn; simp at hn; omega
          rw [he, ← this]; simp; exact hx
        rw [longDiv_eq _ _ (can_W32 (by omega)) (can_W32 (by omega)) hn hl htop, bsm, vl_can, vl_can]
        have hbp : 0 < b := by omega
        have e1 : a < 4294967296 ^ (can 4294967296 a).length := lt_can_len (by decide) a
        have e2 : b < 4294967296 ^ (can 4294967296 b).length := lt_can_len (by decide) b
        have e3 : 4294967296 ^ (n + 1) ≤ b := pow_le_of_can (by decide) (by omega)
        refine ⟨_, _, rfl, ⟨fun x hx => dig_lt (by decide) _ _ _ hx, by rw [dig_len]; omega⟩, ?_, ⟨fun x hx => dig_lt (by decide) _ _ _ hx, by rw [dig_len]; omega⟩, ?_, by rw [dig_len]; omega, by rw [dig_len]; omega⟩
        · show val _ _ = _
          rw [val_dig, Nat.mod_eq_of_lt]
          rw [Nat.div_lt_iff_lt_mul hbp]
          have : 4294967296 ^ ((can 4294967296 a).length - (can 4294967296 b).length + 1) * 4294967296 ^ (n + 1) = 4294967296 ^ (can 4294967296 a).length := by rw [← Nat.pow_add]; congr 1; omega
          calc a < 4294967296 ^ ((can 4294967296 a).length - (can 4294967296 b).length + 1) * 4294967296 ^ (n + 1) := by rw [this]; exact e1
            _ ≤ _ := Nat.mul_le_mul_left _ e3
        · show val _ _ = _
          rw [val_dig, Nat.mod_eq_of_lt (Nat.lt_trans (Nat.mod_lt _ hbp) e2)]
end Go.Proofs.Ytgkafblpckcekaa
