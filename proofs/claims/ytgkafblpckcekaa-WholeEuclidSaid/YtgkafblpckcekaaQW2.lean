/- Division of magnitudes: what the functions come to. -/
import Derived.Test.YtgkafblpckcekaaQW1
namespace Go.Proofs.Ytgkafblpckcekaa
open Go.Fw

theorem scaleWords_eq (a : List Nat) (f e : Nat) (ha : W32 a) (hf : f < 4294967296) (he : e < 4294967296) : whole_scaleWordsT_m a f e = some (dig 4294967296 (a.length + 1) (vl a * f + e)) := by
  obtain ⟨hA, hla⟩ := ha
  unfold whole_scaleWordsT_m
  simp only [Option.bind_some]
  refine bind_loop_to (fun i => ((i : Int), sC 4294967296 (vl a) f e i, dig 4294967296 a.length (sU 4294967296 (vl a) f e i))) a.length (sC 4294967296 (vl a) f e a.length, dig 4294967296 a.length (sU 4294967296 (vl a) f e a.length)) (by simp [sC_zero, sU_zero, dig_val a hA]) (fun i hi => ?_) (by simp) ?_
  · have hx : vl a / 4294967296 ^ i % 4294967296 < 4294967296 := Nat.mod_lt _ (by decide)
    have hc := sC_lt (B := 4294967296) (by decide) (V := vl a) hf he i
    have hxf : vl a / 4294967296 ^ i % 4294967296 * f ≤ 4294967295 * 4294967295 := Nat.mul_le_mul (by omega) (by omega)
    have hg : (dig 4294967296 a.length (sU 4294967296 (vl a) f e i))[i]? = some (vl a / 4294967296 ^ i % 4294967296) := by rw [dig_get _ _ _ hi, sU_hi (by decide)]
    simp only [show decide ((i : Int) < (a.length : Int)) = true by simp; omega, cond_true]
    rw [cki_nat (by rw [dig_len]; omega), Option.bind_some, hg]
    simp only [Option.bind_some]
    rw [Nat.mod_eq_of_lt (a := vl a / 4294967296 ^ i % 4294967296) (b := 18446744073709551616) (by omega), Nat.mod_eq_of_lt (b := 18446744073709551616) (by omega), carrier_eq _ _ (by omega)]
    simp only [Option.bind_some]
    rw [stM_of (by rw [dig_len]; omega), Option.bind_some, sC_step (B := 4294967296) (by decide), sU_step (B := 4294967296) (by decide) hi, w64_succ (by omega)]
  · have hc := sC_lt (B := 4294967296) (by decide) (V := vl a) hf he a.length
    simp only
    rw [carrier_eq _ _ (by omega)]
    simp only [Option.bind_some]
    rw [apM1 (by decide) (by rw [dig_len]; omega), Option.bind_some, Nat.zero_add, sC_end (val_lt a hA), sU_end (B := 4294967296) (by decide) (val_lt a hA), ← dig_succ]
theorem or_add' {a b s : Nat} (h : a < 2 ^ s) : b * 2 ^ s ||| a = b * 2 ^ s + a := by rw [Nat.or_comm, or_add h, Nat.add_comm]
theorem or32' {a b : Nat} (h : a < 4294967296) : b * 4294967296 ||| a = b * 4294967296 + a := or_add' (s := 32) h
theorem shortDiv_eq (a : List Nat) (d : Nat) (ha : W32 a) (hd : 0 < d) (hd2 : d ≤ 4294967296) : whole_shortDiv_m a d = some (vl a % d, dig 4294967296 a.length (vl a / d)) := by
  obtain ⟨hA, hla⟩ := ha
  unfold whole_shortDiv_m
  simp only [Option.bind_some]
  rw [w64_id (by omega) (by omega)]
  refine bind_loop_to (fun i => (vl a / 4294967296 ^ (a.length - i) % d, ((a.length - i : Nat) : Int) - 1, dig 4294967296 a.length (qU 4294967296 (vl a) d (a.length - i)))) a.length (vl a % d, dig 4294967296 a.length (vl a / d)) ?_ (fun i hi => ?_) (by simp [qU_zero]) ?_
  · simp only [Nat.sub_zero]
    rw [qU_top (val_lt a hA), dig_val a hA, Nat.div_eq_of_lt (val_lt a hA), Nat.zero_mod]
  · obtain ⟨m, hm⟩ : ∃ m, a.length - i = m + 1 := ⟨a.length - i - 1, by omega⟩
    have hm' : a.length - (i + 1) = m := by omega
    have hml : m < a.length := by omega
    rw [hm, hm']
    have hy : vl a / 4294967296 ^ m % 4294967296 < 4294967296 := Nat.mod_lt _ (by decide)
    have hr : vl a / 4294967296 ^ (m + 1) % d < d := Nat.mod_lt _ hd
    have hq := q_lt (B := 4294967296) (by decide) hd (vl a) m
    have hqd : (vl a / 4294967296 ^ (m + 1) % d * 4294967296 + vl a / 4294967296 ^ m % 4294967296) / d < 4294967296 := by rw [Nat.div_lt_iff_lt_mul hd, Nat.mul_comm 4294967296 d]; exact hq
    have hg := qU_dig (B := 4294967296) (by decide) (V := vl a) (d := d) (m := m) (N := a.length) hml
    have hlt : vl a / 4294967296 ^ (m + 1) % d * 4294967296 + vl a / 4294967296 ^ m % 4294967296 < 18446744073709551616 := by omega
    have hs1 : vl a / 4294967296 ^ (m + 1) % d * 4294967296 < 18446744073709551616 := Nat.lt_of_le_of_lt (Nat.le_add_right _ _) hlt
    have hs2 : vl a / 4294967296 ^ m % 4294967296 < 18446744073709551616 := Nat.lt_of_le_of_lt (Nat.le_add_left _ _) hlt
    have hi1 : ((m + 1 : Nat) : Int) - 1 = (m : Int) := by omega
    simp only [hi1, show decide ((0 : Int) ≤ (m : Int)) = true by simp, cond_true, Option.bind_some]
    rw [cki_nat (by rw [dig_len]; omega), Option.bind_some, hg]
    simp only [Option.bind_some]
    rw [show (2 : Nat) ^ 32 = 4294967296 from rfl]
    rw [Nat.mod_eq_of_lt (a := vl a / 4294967296 ^ (m + 1) % d * 4294967296) hs1, Nat.mod_eq_of_lt (a := vl a / 4294967296 ^ m % 4294967296) (b := 18446744073709551616) hs2, or32' hy, Nat.mod_eq_of_lt (a := vl a / 4294967296 ^ (m + 1) % d * 4294967296 + vl a / 4294967296 ^ m % 4294967296) hlt, uquo_of (by omega) hlt, urem_of (by omega)]
    simp only [Option.bind_some]
    rw [Nat.mod_eq_of_lt (b := 4294967296) (a := (vl a / 4294967296 ^ (m + 1) % d * 4294967296 + vl a / 4294967296 ^ m % 4294967296) / d) hqd, stM_of (by rw [dig_len]; omega), Option.bind_some, w64_id (by omega) (by omega)]
    rw [qU_step (B := 4294967296) (by decide) hd hml, ← q_mod (B := 4294967296) (d := d) (vl a) m]
  · simp only
    rw [eqLen_of (by rw [dig_len]), Option.bind_some]
theorem shiftLeft_eq (a : List Nat) (s : Nat) (ha : W32 a) (hs : s < 32) : whole_shiftLeft_m a s = some (dig 4294967296 (a.length + 1) (vl a * 2 ^ s)) := by
  obtain ⟨hA, hla⟩ := ha
  have hf : 2 ^ s < 4294967296 := by
    have : 2 ^ s < 2 ^ 32 := Nat.pow_lt_pow_right (by decide) hs
    omega
  unfold whole_shiftLeft_m
  simp only [Option.bind_some]
  rw [w64_succ (by omega), mkE_of (by decide) (by omega), Option.bind_some]
  refine bind_loop_to (fun i => ((i : Int), sC 4294967296 (vl a) (2 ^ s) 0 i, dig 4294967296 i (vl a * 2 ^ s + 0))) a.length (sC 4294967296 (vl a) (2 ^ s) 0 a.length, dig 4294967296 a.length (vl a * 2 ^ s + 0)) (by simp [sC_zero, dig]) (fun i hi => ?_) (by simp) ?_
  · have hx : vl a / 4294967296 ^ i % 4294967296 < 4294967296 := Nat.mod_lt _ (by decide)
    have hc := sC_lt (B := 4294967296) (by decide) (V := vl a) hf (show (0 : Nat) < 4294967296 by decide) i
    have hxf : vl a / 4294967296 ^ i % 4294967296 * 2 ^ s ≤ 4294967295 * 4294967295 := Nat.mul_le_mul (by omega) (by omega)
    have hg : a[i]? = some (vl a / 4294967296 ^ i % 4294967296) := get_val hA hi
    simp only [show decide ((i : Int) < (a.length : Int)) = true by simp; omega, cond_true]
    rw [geti_nat hg]
    simp only [Option.bind_some]
    rw [show min s 64 = s by omega, Nat.mod_eq_of_lt (a := vl a / 4294967296 ^ i % 4294967296) (b := 18446744073709551616) (by omega), Nat.mod_eq_of_lt (b := 18446744073709551616) (by omega), carrier_eq _ _ (by omega)]
    simp only [Option.bind_some]
    rw [apM1 (by decide) (by rw [dig_len]; omega), Option.bind_some, sC_step (B := 4294967296) (by decide), sC_dig (B := 4294967296) (by decide), w64_succ (by omega), ← dig_succ]
  · have hc := sC_lt (B := 4294967296) (by decide) (V := vl a) hf (show (0 : Nat) < 4294967296 by decide) a.length
    simp only
    rw [carrier_eq _ _ (by omega)]
    simp only [Option.bind_some]
    rw [apM1 (by decide) (by rw [dig_len]; omega), Option.bind_some, Nat.zero_add, sC_end (val_lt a hA), ← dig_succ]
    simp
theorem shiftLeftN_eq (a : List Nat) (s : Nat) : whole_shiftLeftN_m a s = whole_shiftLeft_m a s := rfl

def lenTab : Str := [0, 1, 2, 2, 3, 3, 3, 3, 4, 4, 4, 4, 4, 4, 4, 4, 5, 5, 5, 5, 5, 5, 5, 5, 5, 5, 5, 5, 5, 5, 5, 5] ++ List.replicate 32 6 ++ List.replicate 64 7 ++ List.replicate 128 8
theorem tab_ok : ∀ y : Nat, y < 256 → sgeti lenTab (y : Int) = some ((sgeti lenTab (y : Int)).getD 0) ∧ (sgeti lenTab (y : Int)).getD 0 ≤ 8 ∧ y < 2 ^ (sgeti lenTab (y : Int)).getD 0 ∧ (y = 0 ∨ 2 ^ (sgeti lenTab (y : Int)).getD 0 ≤ 2 * y) := by decide +kernel
set_option maxRecDepth 20000 in
theorem len32_eq (x : Nat) (h : x < 4294967296) : ∃ n : Nat, math_bits_Len32_m x = some (n : Int) ∧ n ≤ 32 ∧ x < 2 ^ n ∧ (x = 0 ∨ 2 ^ n ≤ 2 * x) := by
  have key : ∀ (y k : Nat), y < 256 → y = x / 2 ^ k → k ≤ 24 → (x ≠ 0 → y ≠ 0) → ∃ n : Nat, (((sgeti lenTab ((y % 256 : Nat) : Int)).bind fun x16 => (some (IntKind.i64.wrap (x16 : Int))).bind fun x17 => (some (IntKind.i64.wrap ((k : Int) + x17))).bind fun x18 => some x18) = some (n : Int)) ∧ n ≤ 32 ∧ x < 2 ^ n ∧ (x = 0 ∨ 2 ^ n ≤ 2 * x) := by
    intro y k hy hyx hk hnz
    obtain ⟨h1, h2, h3, h4⟩ := tab_ok y hy
    rw [Nat.mod_eq_of_lt hy, h1]
    generalize (sgeti lenTab (y : Int)).getD 0 = t at *
    have hp : 0 < 2 ^ k := Nat.two_pow_pos _
    have e1 : 2 ^ (k + t) = 2 ^ k * 2 ^ t := Nat.pow_add ..
    have e2 := Nat.div_add_mod x (2 ^ k)
    have e3 := Nat.mod_lt x hp
    rw [← hyx] at e2
    refine ⟨k + t, ?_, by omega, ?_, ?_⟩
    · simp only [Option.bind_some]
      rw [w64_nat (by omega), w64_add (by omega)]
    · rw [e1]
      have : 2 ^ k * (y + 1) ≤ 2 ^ k * 2 ^ t := Nat.mul_le_mul_left _ h3
      rw [Nat.mul_add] at this
      omega
    · rcases h4 with h4 | h4
      · left
        cases Nat.eq_zero_or_pos x with
        | inl h => exact h
        | inr h => exact absurd h4 (hnz (by omega))
      · right
        rw [e1]
        have : 2 ^ k * 2 ^ t ≤ 2 ^ k * (2 * y) := Nat.mul_le_mul_left _ h4
        rw [show 2 ^ k * (2 * y) = 2 * (2 ^ k * y) by rw [Nat.mul_left_comm]] at this
        omega
  unfold math_bits_Len32_m
  simp only [letJ, Option.bind_some]
  by_cases c1 : 65536 ≤ x
  · rw [show decide (65536 ≤ x) = true by simpa using c1]
    simp only [cond_true]
    by_cases c2 : 256 ≤ x / 2 ^ 16
    · rw [show decide (256 ≤ x / 2 ^ 16) = true by simpa using c2]
      simp only [cond_true]
      rw [show IntKind.i64.wrap (16 + 8) = ((24 : Nat) : Int) by decide]
      exact key (x / 2 ^ 16 / 2 ^ 8) 24 (by omega) (by omega) (by omega) (by omega)
    · rw [show decide (256 ≤ x / 2 ^ 16) = false by simpa using c2]
      simp only [cond_false]
      exact key (x / 2 ^ 16) 16 (by omega) rfl (by omega) (by omega)
  · rw [show decide (65536 ≤ x) = false by simpa using c1]
    simp only [cond_false]
    by_cases c2 : 256 ≤ x
    · rw [show decide (256 ≤ x) = true by simpa using c2]
      simp only [cond_true]
      rw [show IntKind.i64.wrap (0 + 8) = ((8 : Nat) : Int) by decide]
      exact key (x / 2 ^ 8) 8 (by omega) rfl (by omega) (by omega)
    · rw [show decide (256 ≤ x) = false by simpa using c2]
      simp only [cond_false]
      exact key x 0 (by omega) (by simp) (by omega) (fun h => h)
theorem lz_eq (x : Nat) (h : x < 4294967296) (h0 : x ≠ 0) : ∃ s : Nat, math_bits_LeadingZeros32_m x = some (s : Int) ∧ s < 32 ∧ 2147483648 ≤ x * 2 ^ s ∧ x * 2 ^ s < 4294967296 := by
  obtain ⟨n, h1, h2, h3, h4⟩ := len32_eq x h
  have h4 : 2 ^ n ≤ 2 * x := h4.resolve_left h0
  have hn : n ≠ 0 := by rintro rfl; simp at h3; omega
  refine ⟨32 - n, ?_, by omega, ?_, ?_⟩
  · unfold math_bits_LeadingZeros32_m
    rw [h1]
    simp only [Option.bind_some]
    rw [w64_id (by omega) (by omega)]
    congr 1; omega
  · have : 2 ^ n * 2 ^ (32 - n) ≤ 2 * x * 2 ^ (32 - n) := Nat.mul_le_mul_right _ h4
    rw [← Nat.pow_add, show n + (32 - n) = 32 by omega, Nat.mul_assoc] at this
    omega
  · have : x * 2 ^ (32 - n) < 2 ^ n * 2 ^ (32 - n) := Nat.mul_lt_mul_of_pos_right h3 (Nat.two_pow_pos _)
    rw [← Nat.pow_add, show n + (32 - n) = 32 by omega] at this
    omega
end Go.Proofs.Ytgkafblpckcekaa
