/- The long division: what its functions come to. -/
import Derived.Test.YtgkafblpckcekaaQW2
import Derived.Test.YtgkafblpckcekaaNumD
namespace Go.Proofs.Ytgkafblpckcekaa
open Go.Fw

theorem digN_get {N A j : Nat} (h : j < N) : (dig 4294967296 N A)[j]? = some (A / 4294967296 ^ j % 4294967296) := dig_get N A j h
theorem two32 : (2 : Nat) ^ 32 = 4294967296 := rfl
theorem two63 : (2 : Nat) ^ 63 = 9223372036854775808 := rfl
theorem win_div (A o j : Nat) : A / 4294967296 ^ (o + j) = A / 4294967296 ^ o / 4294967296 ^ j := by rw [Nat.pow_add, Nat.div_div_eq_div_mul]

theorem estimate_eq {N A o n : Nat} {v : List Nat} (hv : W32 v) (hn : v.length = n + 2) (hN : N ≤ 1000000001) (ho : o + (n + 2) < N)
    (hU : A / 4294967296 ^ o < 4294967296 * vl v) (hnorm : 2147483648 * 4294967296 ^ (n + 1) ≤ vl v) :
    ∃ r, whole_estimate_m (dig 4294967296 N A) o (n + 3) v = some r ∧ r.2 = dig 4294967296 N A ∧ A / 4294967296 ^ o / vl v ≤ r.1 ∧ r.1 ≤ A / 4294967296 ^ o / vl v + 1 := by
  obtain ⟨hV, hlv⟩ := hv
  obtain ⟨U, hUe⟩ : ∃ U, A / 4294967296 ^ o = U := ⟨_, rfl⟩
  obtain ⟨V, hVe⟩ : ∃ V, vl v = V := ⟨_, rfl⟩
  have hVlt : V < 4294967296 ^ (n + 2) := by rw [← hVe, ← hn]; exact val_lt v hV
  have hP1 : 0 < 4294967296 ^ (n + 1) := Nat.pow_pos (by decide)
  have hP : 0 < 4294967296 ^ n := Nat.pow_pos (by decide)
  have hpw1 : 4294967296 ^ (n + 1) = 4294967296 ^ n * 4294967296 := Nat.pow_succ ..
  have hpw2 : 4294967296 ^ (n + 2) = 4294967296 ^ (n + 1) * 4294967296 := Nat.pow_succ ..
  rw [hUe, hVe] at hU ⊢
  rw [hVe] at hnorm
  have hUlt : U < 4294967296 ^ (n + 1) * 4294967296 * 4294967296 := by
    have : 4294967296 * V < 4294967296 * 4294967296 ^ (n + 2) := Nat.mul_lt_mul_of_pos_left hVlt (by decide)
    rw [hpw2] at this
    omega
  -- the digits
  obtain ⟨F, hF⟩ : ∃ F, V / 4294967296 ^ (n + 1) = F := ⟨_, rfl⟩
  obtain ⟨S, hS⟩ : ∃ S, V / 4294967296 ^ n % 4294967296 = S := ⟨_, rfl⟩
  obtain ⟨T, hT⟩ : ∃ T, U / 4294967296 ^ (n + 1) = T := ⟨_, rfl⟩
  obtain ⟨u, hu⟩ : ∃ u, U / 4294967296 ^ n % 4294967296 = u := ⟨_, rfl⟩
  have hFlt : F < 4294967296 := by rw [← hF, Nat.div_lt_iff_lt_mul hP1]; rw [hpw2, Nat.mul_comm] at hVlt; exact hVlt
  have hFge : 2147483648 ≤ F := by rw [← hF, Nat.le_div_iff_mul_le hP1]; exact hnorm
  have hSlt : S < 4294967296 := by rw [← hS]; exact Nat.mod_lt _ (by decide)
  have hult : u < 4294967296 := by rw [← hu]; exact Nat.mod_lt _ (by decide)
  have hTlt : T < 4294967296 * 4294967296 := by rw [← hT, Nat.div_lt_iff_lt_mul hP1]; rw [Nat.mul_comm, ← Nat.mul_assoc]; exact hUlt
  have hV2 : V / 4294967296 ^ n = F * 4294967296 + S := by rw [← hF, ← hS, hpw1, ← Nat.div_div_eq_div_mul, Nat.mul_comm, Nat.div_add_mod]
  have hU2 : U / 4294967296 ^ n = T * 4294967296 + u := by rw [← hT, ← hu, hpw1, ← Nat.div_div_eq_div_mul, Nat.mul_comm, Nat.div_add_mod]
  have hq : U / V < 4294967296 := by rw [Nat.div_lt_iff_lt_mul (by omega)]; exact hU
  have hVle : (F * 4294967296 + S) * 4294967296 ^ n ≤ V := by rw [← hV2]; exact Nat.div_mul_le_self _ _
  have hVgt : V < (F * 4294967296 + S + 1) * 4294967296 ^ n := by rw [← hV2, Nat.add_mul, Nat.one_mul]; exact Nat.lt_div_mul_add hP
  have hUle : (T * 4294967296 + u) * 4294967296 ^ n ≤ U := by rw [← hU2]; exact Nat.div_mul_le_self _ _
  have hUgt : U < (T * 4294967296 + u + 1) * 4294967296 ^ n := by rw [← hU2, Nat.add_mul, Nat.one_mul]; exact Nat.lt_div_mul_add hP
  have hVle1 : F * 4294967296 ^ (n + 1) ≤ V := by rw [← hF]; exact Nat.div_mul_le_self _ _
  have hUgt1 : U < (T + 1) * 4294967296 ^ (n + 1) := by rw [← hT, Nat.add_mul, Nat.one_mul]; exact Nat.lt_div_mul_add hP1
  have hVgt1 : V < (F + 1) * 4294967296 ^ (n + 1) := by rw [← hF, Nat.add_mul, Nat.one_mul]; exact Nat.lt_div_mul_add hP1
  have hTF : T < 4294967296 * (F + 1) := by
    rw [← hT, Nat.div_lt_iff_lt_mul hP1]
    have : 4294967296 * V < 4294967296 * ((F + 1) * 4294967296 ^ (n + 1)) := Nat.mul_lt_mul_of_pos_left hVgt1 (by decide)
    rw [Nat.mul_assoc]
    omega
  -- what is read
  have g1 : (dig 4294967296 N A)[o + (n + 2)]? = some (U / 4294967296 ^ (n + 2) % 4294967296) := by rw [digN_get (by omega), win_div, hUe]
  have g2 : (dig 4294967296 N A)[o + (n + 1)]? = some (U / 4294967296 ^ (n + 1) % 4294967296) := by rw [digN_get (by omega), win_div, hUe]
  have g3 : (dig 4294967296 N A)[o + n]? = some u := by rw [digN_get (by omega), win_div, hUe, hu]
  have g4 : v[n + 1]? = some F := by rw [get_val hV (by omega), show val 4294967296 v = V from hVe, hF, Nat.mod_eq_of_lt hFlt]
  have g5 : v[n]? = some S := by rw [get_val hV (by omega), show val 4294967296 v = V from hVe, hS]
  have hun : U / 4294967296 ^ (n + 2) < 4294967296 := by rw [hpw2, ← Nat.div_div_eq_div_mul, hT, Nat.div_lt_iff_lt_mul (by decide)]; exact hTlt
  have htop : U / 4294967296 ^ (n + 2) % 4294967296 * 4294967296 + U / 4294967296 ^ (n + 1) % 4294967296 = T := by
    rw [Nat.mod_eq_of_lt hun, hpw2, ← Nat.div_div_eq_div_mul, hT, Nat.mul_comm, Nat.div_add_mod]
  obtain ⟨t1, ht1⟩ : ∃ t, U / 4294967296 ^ (n + 2) % 4294967296 = t := ⟨_, rfl⟩
  obtain ⟨t2, ht2⟩ : ∃ t, U / 4294967296 ^ (n + 1) % 4294967296 = t := ⟨_, rfl⟩
  have l1 : t1 < 4294967296 := by rw [← ht1]; exact Nat.mod_lt _ (by decide)
  have l2 : t2 < 4294967296 := by rw [← ht2]; exact Nat.mod_lt _ (by decide)
  rw [ht1] at g1 htop
  rw [ht2] at g2 htop
  clear ht1 ht2 hU2 hV2
  have c1 : ((n + 2 : Nat) : Int) - 1 = ((n + 1 : Nat) : Int) := by omega
  have c2 : ((n + 2 : Nat) : Int) - 2 = (n : Int) := by omega
  unfold whole_estimate_m
  simp only [Option.bind_some, hn, c1, c2]
  rw [w64_nat (by omega), w64_nat (by omega), ckR_nat (by omega), ckR_nat (by omega), ckR_nat (by omega)]
  simp only [Option.bind_some]
  rw [g1, g2, geti_nat g4, geti_nat g5]
  simp only [Option.bind_some, two32]
  rw [Nat.mod_eq_of_lt (a := t1) (by omega), Nat.mod_eq_of_lt (a := t2) (by omega), Nat.mod_eq_of_lt (a := t1 * 4294967296) (by omega), or32' l2, htop, Nat.mod_eq_of_lt (a := T) (by omega), Nat.mod_eq_of_lt (a := F) (by omega), Nat.mod_eq_of_lt (a := S) (by omega), uquo_of (by omega) (by omega), urem_of (by omega)]
  simp only [Option.bind_some]
  have hge0 := est_ge (V := V) (U := U) hP1 (show 0 < F by omega) hVle1 hUgt1
  have hle : ∀ g, g * (F * 4294967296 + S) ≤ T * 4294967296 + u → g ≤ U / V + 1 := fun g h => est_le (B := 4294967296) hVgt hUle hq (by omega) (by omega) h
  have hdec : ∀ g r, g * F + r = T → r * 4294967296 + u < g * S → U / V < g := fun g r i1 ht => (Nat.div_lt_iff_lt_mul (by omega)).2 (est_dec hVle hUgt i1 ht)
  have hg0 : T / F ≤ 4294967297 := by
    have : T / F < 4294967298 := by
      rw [Nat.div_lt_iff_lt_mul (by omega)]
      omega
    omega
  generalize U / V = q at *
  clear hVle hVgt hUle hUgt hVle1 hUgt1 hVgt1 hTF hUlt hnorm hVlt hpw1 hpw2 hP hP1 hF hS hT hu hUe hVe hU
  have hdm := Nat.div_add_mod T F
  have hml := Nat.mod_lt T (show 0 < F by omega)
  have hdm' : T / F * F + T % F = T := by rw [Nat.mul_comm]; exact hdm
  clear hdm
  refine bind_loop_ex (fun x => x.1 * F + x.2 = T ∧ q ≤ x.1 ∧ x.2 < 4294967296 ∧ x.1 ≤ 4294967297) (fun e => q ≤ e ∧ e ≤ q + 1) (fun x => x.1) ?_ ⟨hdm', hge0, by show T % F < _; omega, hg0⟩ ?_
  · rintro ⟨g, r⟩ ⟨i1, i2, i3, i4⟩
    simp only at i1 i2 i3 i4
    -- the step down
    have down : q < g → (∃ s', (bif decide ((r + F) % 18446744073709551616 / 4294967296 ≠ 0) then some (.inr (usub 18446744073709551616 g 1)) else some (.inl (usub 18446744073709551616 g 1, (r + F) % 18446744073709551616)) : Option ((Nat × Nat) ⊕ Nat)) = some (.inl s') ∧ (s'.1 * F + s'.2 = T ∧ q ≤ s'.1 ∧ s'.2 < 4294967296 ∧ s'.1 ≤ 4294967297) ∧ s'.1 < g) ∨
        (∃ e, (bif decide ((r + F) % 18446744073709551616 / 4294967296 ≠ 0) then some (.inr (usub 18446744073709551616 g 1)) else some (.inl (usub 18446744073709551616 g 1, (r + F) % 18446744073709551616)) : Option ((Nat × Nat) ⊕ Nat)) = some (.inr e) ∧ q ≤ e ∧ e ≤ q + 1) := by
      intro hlt
      have e1 : (g - 1) * F + (r + F) = T := by
        obtain ⟨k, rfl⟩ : ∃ k, g = k + 1 := ⟨g - 1, by omega⟩
        rw [Nat.add_sub_cancel]; rw [Nat.add_mul] at i1; omega
      rw [usub_of (by omega) (by omega), Nat.mod_eq_of_lt (a := r + F) (by omega)]
      by_cases hb : r + F < 4294967296
      · left
        refine ⟨(g - 1, r + F), by simp [Nat.div_eq_of_lt hb], ⟨e1, by simp only; omega, hb, by simp only; omega⟩, by simp only; omega⟩
      · right
        have hne : (r + F) / 4294967296 ≠ 0 := by omega
        refine ⟨g - 1, by simp [hne], by omega, ?_⟩
        refine hle _ ?_
        -- (g - 1) * (F * B + S) ≤ T * B + u
        have m1 : (g - 1) * S ≤ 4294967296 * 4294967295 := Nat.mul_le_mul (by omega) (by omega)
        rw [Nat.mul_add, ← Nat.mul_assoc]
        have m2 : ((g - 1) * F + (r + F)) * 4294967296 = T * 4294967296 := by rw [e1]
        rw [Nat.add_mul] at m2
        omega
    simp only [letJ, bsm]
    by_cases hg : g < 4294967296
    · rw [show decide (g / 4294967296 ≠ 0) = false by simp; omega]
      have hgS : g * S ≤ 4294967295 * 4294967295 := Nat.mul_le_mul (by omega) (by omega)
      simp only [cfm]
      rw [g3]
      simp only [bsm]
      rw [Nat.mod_eq_of_lt (a := g * S) (by omega), Nat.mod_eq_of_lt (a := r * 4294967296) (by omega), Nat.mod_eq_of_lt (a := u) (by omega), or32' hult, Nat.mod_eq_of_lt (a := r * 4294967296 + u) (by omega)]
      by_cases ht : r * 4294967296 + u < g * S
      · rw [show decide (r * 4294967296 + u < g * S) = true by simpa using ht]
        simp only [bsm, ctm]
        exact down (hdec _ _ i1 ht)
      · rw [show decide (r * 4294967296 + u < g * S) = false by simpa using ht]
        right
        refine ⟨g, by simp, i2, ?_⟩
        refine hle _ ?_
        rw [Nat.mul_add, ← Nat.mul_assoc, ← i1, Nat.add_mul]
        omega
    · rw [show decide (g / 4294967296 ≠ 0) = true by simp; omega]
      simp only [bsm, ctm]
      exact down (by omega)
  · rintro e ⟨h2, h3⟩
    exact ⟨(e, dig 4294967296 N A), by rw [eqLen_of rfl, Option.bind_some], rfl, h2, h3⟩
end Go.Proofs.Ytgkafblpckcekaa
