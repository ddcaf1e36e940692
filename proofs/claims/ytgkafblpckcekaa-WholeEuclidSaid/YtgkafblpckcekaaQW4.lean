/- The long division: a multiple subtracted, the division itself. -/
import Derived.Test.YtgkafblpckcekaaQW3
namespace Go.Proofs.Ytgkafblpckcekaa
open Go.Fw

theorem subtractMultiple_eq {N A o n f : Nat} {v : List Nat} (hv : W32 v) (hn : v.length = n) (hN : N ≤ 1000000001) (ho : o + n < N) (hf : f ≤ 4294967296)
    (hU : A / 4294967296 ^ o < 4294967296 ^ (n + 1)) :
    whole_subtractMultiple_m (dig 4294967296 N A) o (n + 1) v f = some (decide (A / 4294967296 ^ o < vl v * f), dig 4294967296 N (A % 4294967296 ^ o + 4294967296 ^ o * ((A / 4294967296 ^ o + 4294967296 ^ (n + 1) - vl v * f) % 4294967296 ^ (n + 1)))) := by
  obtain ⟨hV, hlv⟩ := hv
  obtain ⟨U, hUe⟩ : ∃ U, A / 4294967296 ^ o = U := ⟨_, rfl⟩
  obtain ⟨V, hVe⟩ : ∃ V, vl v = V := ⟨_, rfl⟩
  have hVlt : V < 4294967296 ^ n := by rw [← hVe, ← hn]; exact val_lt v hV
  have hpn : 4294967296 ^ (n + 1) = 4294967296 ^ n * 4294967296 := Nat.pow_succ ..
  have hT : V * f < 4294967296 ^ (n + 1) := by
    rw [hpn]
    calc V * f ≤ V * 4294967296 := Nat.mul_le_mul_left _ hf
      _ < 4294967296 ^ n * 4294967296 := Nat.mul_lt_mul_of_pos_right hVlt (by decide)
  rw [hUe] at hU ⊢
  rw [hVe]
  obtain ⟨X, hX⟩ : ∃ X, U + 4294967296 ^ (n + 1) - V * f = X := ⟨_, rfl⟩
  rw [hX]
  unfold whole_subtractMultiple_m
  simp only [bsm]
  have hlndle : ∀ i, lnd 4294967296 U (V * f) i ≤ 1 := fun i => lnd_le (by decide) _ _ _
  refine bind_loop_to (fun i => (1 - lnd 4294967296 U (V * f) i, (i : Int), sC 4294967296 V f 0 i, dig 4294967296 N (mix 4294967296 o i X U A))) (n + 1) (1 - lnd 4294967296 U (V * f) (n + 1), dig 4294967296 N (mix 4294967296 o (n + 1) X U A)) ?_ (fun i hi => ?_) ?_ ?_
  · rw [lnd_zero, sC_zero, ← hUe, mix_self]; rfl
  · -- the round
    obtain ⟨t, ht⟩ : ∃ t, V * f / 4294967296 ^ i % 4294967296 = t := ⟨_, rfl⟩
    obtain ⟨c, hc⟩ : ∃ c, sC 4294967296 V f 0 i = c := ⟨_, rfl⟩
    obtain ⟨p, hp⟩ : ∃ p, V / 4294967296 ^ i % 4294967296 * f = p := ⟨_, rfl⟩
    have hclt : c < 4294967296 := by
      rw [← hc, sC, sT, Nat.add_zero, Nat.div_lt_iff_lt_mul (Nat.pow_pos (by decide))]
      calc V % 4294967296 ^ i * f ≤ V % 4294967296 ^ i * 4294967296 := Nat.mul_le_mul_left _ hf
        _ < 4294967296 * 4294967296 ^ i := by rw [Nat.mul_comm]; exact Nat.mul_lt_mul_of_pos_left (Nat.mod_lt _ (Nat.pow_pos (by decide))) (by decide)
    have hple : p ≤ 4294967295 * 4294967296 := by
      rw [← hp]; exact Nat.mul_le_mul (by have := Nat.mod_lt (V / 4294967296 ^ i) (show 0 < 4294967296 by decide); omega) hf
    have hdig : (p + c) % 4294967296 = t := by rw [← hp, ← hc, sC_dig (B := 4294967296) (by decide), Nat.add_zero, ht]
    have hstep : (p + c) / 4294967296 = sC 4294967296 V f 0 (i + 1) := by rw [← hp, ← hc, sC_step (B := 4294967296) (by decide)]
    have htlt : t < 4294967296 := by rw [← ht]; exact Nat.mod_lt _ (by decide)
    obtain ⟨u, hu⟩ : ∃ u, U / 4294967296 ^ i % 4294967296 = u := ⟨_, rfl⟩
    have hult : u < 4294967296 := by rw [← hu]; exact Nat.mod_lt _ (by decide)
    have hg : (dig 4294967296 N (mix 4294967296 o i X U A))[o + i]? = some u := by rw [digN_get (by omega), mix_get (by decide), hu]
    have hl := hlndle i
    obtain ⟨l, hle⟩ : ∃ l, lnd 4294967296 U (V * f) i = l := ⟨_, rfl⟩
    have hxd : (u + (4294967296 - 1 - t) + l) % 4294967296 = X / 4294967296 ^ i % 4294967296 := by rw [← hu, ← ht, ← hle, lnd_dig' (B := 4294967296) (by decide) hi (by omega), hX]
    have hls : (u + (4294967296 - 1 - t) + l) / 4294967296 = lnd 4294967296 U (V * f) (i + 1) := by rw [← hu, ← ht, ← hle, lnd_step (B := 4294967296) (by decide)]
    rw [hle] at hl
    have hput := mix_put (B := 4294967296) (by decide) o i X U A (N := N) (by omega)
    rw [hle, hc, ← hls]
    simp only [show decide ((i : Int) < ((n + 1 : Nat) : Int)) = true by simp; omega, ctm, bsm, letJ]
    rw [ckR_nat (by omega)]
    simp only [bsm, hg]
    -- both ways give p
    have way : ∀ k : Nat → Option ((Nat × Int × Nat × List Nat) ⊕ (Nat × List Nat)), (bif decide ((i : Int) < (v.length : Int)) then (geti v (i : Int)).bind fun x24 => k (x24 % 18446744073709551616 * f % 18446744073709551616) else k 0) = k p := by
      intro k
      by_cases hin : i < v.length
      · rw [show decide ((i : Int) < (v.length : Int)) = true by simp; omega, ctm]
        have hgv : v[i]? = some (V / 4294967296 ^ i % 4294967296) := by rw [← hVe]; exact get_val hV hin
        rw [geti_nat hgv, bsm, Nat.mod_eq_of_lt (a := V / 4294967296 ^ i % 4294967296) (b := 18446744073709551616) (by have := Nat.mod_lt (V / 4294967296 ^ i) (show 0 < 4294967296 by decide); omega), hp, Nat.mod_eq_of_lt (a := p) (by omega)]
      · rw [show decide ((i : Int) < (v.length : Int)) = false by simp; omega, cfm]
        have : V / 4294967296 ^ i = 0 := Nat.div_eq_of_lt (Nat.lt_of_lt_of_le hVlt (Nat.pow_le_pow_right (by decide) (by omega)))
        rw [← hp, this]; simp
    refine (way (fun y => (whole_carrier_1_m y c).bind _)).trans ?_
    rw [carrier_eq _ _ (by omega)]
    simp only [bsm]
    rw [hdig, hstep, Nat.mod_eq_of_lt (a := u) (by omega), Nat.mod_eq_of_lt (a := t) (by omega)]
    rw [stM_of (by rw [dig_len]; omega), bsm, w64_succ (by omega), two63]
    by_cases hbor : u < t + (1 - l)
    · have e1 : usub 18446744073709551616 (usub 18446744073709551616 u t) (1 - l) = 18446744073709551616 + u - t - (1 - l) := by
        by_cases h1 : u < t
        · rw [usub_lt h1 (by omega), usub_of (by omega) (by omega)]
        · rw [usub_of (a := u) (b := t) (by omega) (by omega), usub_lt (by omega) (by omega)]; omega
      rw [e1]
      have e2 : (18446744073709551616 + u - t - (1 - l)) % 4294967296 = X / 4294967296 ^ i % 4294967296 := by rw [← hxd]; omega
      have e3 : (18446744073709551616 + u - t - (1 - l)) / 9223372036854775808 = 1 - (u + (4294967296 - 1 - t) + l) / 4294967296 := by omega
      rw [e2, e3, hput]
    · have e1 : usub 18446744073709551616 (usub 18446744073709551616 u t) (1 - l) = u - t - (1 - l) := by
        rw [usub_of (a := u) (b := t) (by omega) (by omega), usub_of (by omega) (by omega)]
      rw [e1]
      have e2 : (u - t - (1 - l)) % 4294967296 = X / 4294967296 ^ i % 4294967296 := by rw [← hxd]; omega
      have e3 : (u - t - (1 - l)) / 9223372036854775808 = 1 - (u + (4294967296 - 1 - t) + l) / 4294967296 := by omega
      rw [e2, e3, hput]
  · simp
  · simp only [bsm]
    rw [eqLen_of (by rw [dig_len, dig_len]), bsm, mix_full hU, lnd_end (by decide) hU hT]
    congr 2
    by_cases h : U < V * f <;> simp [h]

end Go.Proofs.Ytgkafblpckcekaa
