/- The long division. -/
import Derived.Test.YtgkafblpckcekaaQW4
namespace Go.Proofs.Ytgkafblpckcekaa
open Go.Fw

theorem ld_lt {B V : Nat} (hB : 0 < B) (hV : 0 < V) (A k : Nat) : A % (V * B ^ (k + 1)) / B ^ k < B * V := by
  rw [Nat.div_lt_iff_lt_mul (Nat.pow_pos hB)]
  have : V * B ^ (k + 1) = B * V * B ^ k := by rw [Nat.pow_succ, Nat.mul_comm (B ^ k), ← Nat.mul_assoc, Nat.mul_comm V]
  rw [← this]
  exact Nat.mod_lt _ (Nat.mul_pos hV (Nat.pow_pos hB))
theorem ld_rem {B V : Nat} (A k : Nat) : A % (V * B ^ (k + 1)) % B ^ k + B ^ k * (A % (V * B ^ (k + 1)) / B ^ k % V) = A % (V * B ^ k) := by
  rw [← Nat.mod_mul, Nat.mul_comm (B ^ k), Nat.mod_mod_of_dvd]
  rw [Nat.pow_succ, ← Nat.mul_assoc]; exact Nat.dvd_mul_right _ _
theorem ld_dig {B V : Nat} (A k : Nat) : A % (V * B ^ (k + 1)) / B ^ k / V = A / V / B ^ k % B := by
  rw [Nat.div_div_eq_div_mul, Nat.mul_comm (B ^ k), Nat.pow_succ, ← Nat.mul_assoc, Nat.mod_mul_right_div_self, Nat.div_div_eq_div_mul]
theorem ld_put {B : Nat} (hB : 0 < B) {N k : Nat} (h : k < N) (Q : Nat) : (dig B N (Q / B ^ (k + 1) * B ^ (k + 1))).set k (Q / B ^ k % B) = dig B N (Q / B ^ k * B ^ k) := by
  have hP : 0 < B ^ k := Nat.pow_pos hB
  refine dig_put hB h (Nat.mod_lt _ hB) ?_ ?_ ?_
  · rw [Nat.mul_mod_left, Nat.pow_succ, Nat.mul_comm (B ^ k), ← Nat.mul_assoc, Nat.mul_mod_left]
  · rw [Nat.mul_div_cancel _ hP]
  · rw [Nat.mul_div_cancel _ (Nat.pow_pos hB), Nat.pow_succ, ← Nat.div_div_eq_div_mul, Nat.mul_div_cancel _ hP, Nat.div_div_eq_div_mul]
theorem ckS_nat {α : Type} {l : List α} {o n : Nat} (h : o < l.length) (h' : o + n ≤ l.length) : ckS l (o : Int) ((o + n : Nat) : Int) = some (o, n) := by
  unfold ckS
  rw [if_pos (by omega)]
  congr 2
  omega
/-- The quotient's digit is right, and the window's rest follows. -/
theorem ld_case {U V g M : Nat} (hV : 0 < V) (h1 : U / V ≤ g) (h2 : g ≤ U / V + 1) (hM : U < M) (hVM : V ≤ M) :
    (V * g ≤ U ∧ g = U / V ∧ (U + M - V * g) % M = U % V) ∨ (U < V * g ∧ g = U / V + 1 ∧ U + M - V * g < M ∧ (U + M - V * g + V) % M = U % V) := by
  have hd := Nat.div_add_mod U V
  have hm := Nat.mod_lt U hV
  revert h1 h2 hd hm
  generalize U / V = q
  generalize U % V = r
  intro h1 h2 hd hm
  rcases Nat.lt_or_ge q g with h | h
  · obtain rfl : g = q + 1 := by omega
    have e : V * (q + 1) = V * q + V := Nat.mul_succ ..
    right
    refine ⟨by omega, rfl, by omega, ?_⟩
    rw [show U + M - V * (q + 1) + V = r + M by omega, Nat.add_mod_right, Nat.mod_eq_of_lt (by omega)]
  · obtain rfl : g = q := by omega
    left
    refine ⟨by omega, rfl, ?_⟩
    rw [show U + M - V * g = r + M by omega, Nat.add_mod_right, Nat.mod_eq_of_lt (by omega)]

theorem ld_back {R D e i : Nat} (hD : 0 < D) (he : 4294967296 = D * e) : (R * D / 4294967296 ^ (i + 1) % 4294967296 * 4294967296 + R * D / 4294967296 ^ i % 4294967296) / D % 4294967296 = R / 4294967296 ^ i % 4294967296 := by
  have h1 : R * D / 4294967296 ^ (i + 1) % 4294967296 * 4294967296 + R * D / 4294967296 ^ i % 4294967296 = R * D / 4294967296 ^ i % (4294967296 * 4294967296) := by
    rw [Nat.mod_mul, Nat.div_div_eq_div_mul, show 4294967296 ^ i * 4294967296 = 4294967296 ^ (i + 1) from (Nat.pow_succ ..).symm, Nat.add_comm, Nat.mul_comm 4294967296]
  have h2 : (4294967296 * 4294967296 : Nat) = D * (e * 4294967296) := by
    rw [← Nat.mul_assoc, ← he]
  rw [h1, h2, Nat.mod_mul_right_div_self, Nat.mod_mul_left_mod, Nat.div_div_eq_div_mul, Nat.mul_comm (4294967296 ^ i) D, ← Nat.div_div_eq_div_mul, Nat.mul_div_cancel _ hD]
theorem ld_one {B : Nat} (hB : 0 < B) {N i R : Nat} (h : i < N) : (dig B N (R % B ^ i)).set i (R / B ^ i % B) = dig B N (R % B ^ (i + 1)) := by
  refine dig_put hB h (Nat.mod_lt _ hB) ?_ ?_ ?_
  · rw [Nat.mod_mod, Nat.mod_mod_of_dvd _ (Nat.pow_dvd_pow _ (Nat.le_succ i))]
  · rw [Nat.pow_succ, Nat.mod_mul_right_div_self, Nat.mod_mod]
  · rw [Nat.div_eq_of_lt (Nat.mod_lt _ (Nat.pow_pos hB)), Nat.div_eq_of_lt]
    exact Nat.lt_of_lt_of_le (Nat.mod_lt _ (Nat.pow_pos hB)) (Nat.pow_le_pow_right hB (Nat.le_succ i))
theorem longDiv_eq (a b : List Nat) (ha : W32 a) (hb : W32 b) {n : Nat} (hn : b.length = n + 2) (hl : b.length ≤ a.length) (htop : b[n + 1]? ≠ some 0) :
    whole_longDiv_m a b = some (dig 4294967296 (a.length - b.length + 1) (vl a / vl b), dig 4294967296 b.length (vl a % vl b)) := by
  obtain ⟨hA, hla⟩ := ha
  obtain ⟨hB, hlb⟩ := hb
  have hP : ∀ k, 0 < 4294967296 ^ k := fun k => Nat.pow_pos (by decide)
  obtain ⟨Va, hVa⟩ : ∃ V, vl a = V := ⟨_, rfl⟩
  obtain ⟨Vb, hVb⟩ : ∃ V, vl b = V := ⟨_, rfl⟩
  have hblt : Vb < 4294967296 ^ (n + 2) := by rw [← hVb, ← hn]; exact val_lt b hB
  have halt : Va < 4294967296 ^ a.length := by rw [← hVa]; exact val_lt a hA
  have hpw2 : 4294967296 ^ (n + 2) = 4294967296 ^ (n + 1) * 4294967296 := Nat.pow_succ ..
  obtain ⟨x, hx⟩ : ∃ x, Vb / 4294967296 ^ (n + 1) = x := ⟨_, rfl⟩
  have hxlt : x < 4294967296 := by rw [← hx, Nat.div_lt_iff_lt_mul (hP _)]; rw [hpw2, Nat.mul_comm] at hblt; exact hblt
  have hgx : b[n + 1]? = some x := by rw [get_val hB (by omega), show val 4294967296 b = Vb from hVb, hx, Nat.mod_eq_of_lt hxlt]
  have hx0 : x ≠ 0 := fun e => htop (by rw [hgx, e])
  obtain ⟨s, hs1, hs2, hs3, hs4⟩ := lz_eq x hxlt hx0
  have hp2 : 0 < 2 ^ s := Nat.two_pow_pos s
  have hp2lt : 2 ^ s < 4294967296 := by
    have : 2 ^ s < 2 ^ 32 := Nat.pow_lt_pow_right (by decide) hs2
    rw [two32] at this; exact this
  obtain ⟨D, hD⟩ : ∃ D, 2 ^ s = D := ⟨_, rfl⟩
  rw [hD] at hs3 hs4 hp2 hp2lt
  obtain ⟨V, hV⟩ : ∃ V, Vb * D = V := ⟨_, rfl⟩
  obtain ⟨A, hAe⟩ : ∃ A, Va * D = A := ⟨_, rfl⟩
  have hVlt : V < 4294967296 ^ (n + 2) := by
    have h1 : Vb < (x + 1) * 4294967296 ^ (n + 1) := by rw [← hx, Nat.add_mul, Nat.one_mul]; exact Nat.lt_div_mul_add (hP _)
    have h2 : (x + 1) * D ≤ 4294967296 := by
      -- x * D < 2^32, and D divides 2^32
      obtain ⟨e, he⟩ : ∃ e, 4294967296 = D * e := ⟨2 ^ (32 - s), by rw [← hD, ← Nat.pow_add, show s + (32 - s) = 32 by omega, two32]⟩
      have h3 : x < e := by
        apply Nat.lt_of_mul_lt_mul_left (a := D)
        rw [← he, Nat.mul_comm]; exact hs4
      calc (x + 1) * D ≤ e * D := Nat.mul_le_mul_right _ h3
        _ = 4294967296 := by rw [Nat.mul_comm, ← he]
    rw [← hV, hpw2]
    calc Vb * D < (x + 1) * 4294967296 ^ (n + 1) * D := Nat.mul_lt_mul_of_pos_right h1 hp2
      _ = 4294967296 ^ (n + 1) * ((x + 1) * D) := by rw [Nat.mul_comm (x + 1), Nat.mul_assoc]
      _ ≤ 4294967296 ^ (n + 1) * 4294967296 := Nat.mul_le_mul_left _ h2
  have hVnorm : 2147483648 * 4294967296 ^ (n + 1) ≤ V := by
    have h1 : x * 4294967296 ^ (n + 1) ≤ Vb := by rw [← hx]; exact Nat.div_mul_le_self _ _
    rw [← hV]
    calc 2147483648 * 4294967296 ^ (n + 1) ≤ x * D * 4294967296 ^ (n + 1) := Nat.mul_le_mul_right _ hs3
      _ = x * 4294967296 ^ (n + 1) * D := by rw [Nat.mul_assoc, Nat.mul_comm D, ← Nat.mul_assoc]
      _ ≤ Vb * D := Nat.mul_le_mul_right _ h1
  have hV0 : 0 < V := Nat.lt_of_lt_of_le (Nat.mul_pos (by decide) (hP _)) hVnorm
  have hb0 : 0 < Vb := by
    rcases Nat.eq_zero_or_pos Vb with h | h
    · rw [← hV, h, Nat.zero_mul] at hV0; omega
    · exact h
  have hAV : A / V = Va / Vb := by rw [← hAe, ← hV, Nat.mul_div_mul_right _ _ hp2]
  have hAmV : A % V = Va % Vb * D := by rw [← hAe, ← hV, Nat.mul_mod_mul_right]
  obtain ⟨K, hK⟩ : ∃ K, a.length = K + (n + 2) := ⟨a.length - (n + 2), by omega⟩
  have hA0 : A < V * 4294967296 ^ (K + 1) := by
    have h1 : 4294967296 ^ (n + 1) ≤ Vb := by
      have : 1 * 4294967296 ^ (n + 1) ≤ x * 4294967296 ^ (n + 1) := Nat.mul_le_mul_right _ (by omega)
      have h2 : x * 4294967296 ^ (n + 1) ≤ Vb := by rw [← hx]; exact Nat.div_mul_le_self _ _
      omega
    rw [← hAe, ← hV]
    calc Va * D < 4294967296 ^ a.length * D := Nat.mul_lt_mul_of_pos_right halt hp2
      _ = 4294967296 ^ (n + 1) * 4294967296 ^ (K + 1) * D := by rw [hK, ← Nat.pow_add]; congr 2; omega
      _ ≤ Vb * 4294967296 ^ (K + 1) * D := Nat.mul_le_mul_right _ (Nat.mul_le_mul_right _ h1)
      _ = Vb * D * 4294967296 ^ (K + 1) := by rw [Nat.mul_assoc, Nat.mul_comm _ D, ← Nat.mul_assoc]
  -- the words of the divisor, shifted
  obtain ⟨v, hve⟩ : ∃ v, dig 4294967296 (n + 2) V = v := ⟨_, rfl⟩
  have hvl : v.length = n + 2 := by rw [← hve, dig_len]
  have hvW : W32 v := ⟨fun y hy => by rw [← hve] at hy; exact dig_lt (by decide) _ _ _ hy, by omega⟩
  have hvv : vl v = V := by rw [← hve]; show val _ _ = _; rw [val_dig, Nat.mod_eq_of_lt hVlt]
  have hcutw : List.take b.length (dig 4294967296 (b.length + 1) (Vb * 2 ^ s)) = v := by
    rw [hD, hV, hn, dig_succ, List.take_append_of_le_length (by rw [dig_len]; omega), List.take_of_length_le (by rw [dig_len]; omega), hve]
  unfold whole_longDiv_m
  simp only [bsm]
  rw [show ((b.length : Nat) : Int) - 1 = ((n + 1 : Nat) : Int) by omega, w64_nat (by omega), geti_nat hgx, bsm, hs1, bsm]
  rw [show ((s : Int) % 18446744073709551616).toNat = s by rw [Int.emod_eq_of_lt (by omega) (by omega)]; simp]
  rw [shiftLeftN_eq, shiftLeft_eq a s ⟨hA, hla⟩ hs2, bsm, shiftLeft_eq b s ⟨hB, hlb⟩ hs2, bsm, subM_zero (by rw [dig_len]; omega), bsm]
  obtain ⟨Q, hQ⟩ : ∃ Q, A / V = Q := ⟨_, rfl⟩
  have hQlt : Q < 4294967296 ^ (K + 1) := by rw [← hQ, Nat.div_lt_iff_lt_mul hV0, Nat.mul_comm]; exact hA0
  rw [hVa, hVb, ← hAV, hQ, hcutw, hD, hAe, hn]
  rw [show a.length - (n + 2) + 1 = K + 1 by omega]
  rw [w64_id (x := (a.length : Int) - ((n + 2 : Nat) : Int)) (by omega) (by omega), w64_id (x := (a.length : Int) - ((n + 2 : Nat) : Int) + 1) (by omega) (by omega), show (a.length : Int) - ((n + 2 : Nat) : Int) + 1 = ((K + 1 : Nat) : Int) by omega, mkM_of (by decide) (by omega), bsm, show (a.length : Int) - ((n + 2 : Nat) : Int) = (K : Int) by omega]
  refine bind_loop_to (fun j => ((K : Int) - (j : Int), dig 4294967296 (K + 1) (Q / 4294967296 ^ (K + 1 - j) * 4294967296 ^ (K + 1 - j)), dig 4294967296 (a.length + 1) (A % (V * 4294967296 ^ (K + 1 - j))))) (K + 1) (dig 4294967296 (K + 1) Q, dig 4294967296 (a.length + 1) (A % V)) ?_ (fun j hj => ?_) ?_ ?_
  · rw [show K + 1 - 0 = K + 1 by omega, Nat.mod_eq_of_lt hA0, Nat.div_eq_of_lt hQlt, Nat.zero_mul, dig_zero]; simp
  · -- a round: one digit of the quotient
    obtain ⟨k, hk⟩ : ∃ k, K = k + j := ⟨K - j, by omega⟩
    rw [show K + 1 - j = k + 1 by omega, show K + 1 - (j + 1) = k by omega, show (K : Int) - (j : Int) = (k : Int) by omega, show (K : Int) - ((j + 1 : Nat) : Int) = (k : Int) - 1 by omega]
    have hU := ld_lt (B := 4294967296) (by decide) hV0 A k
    have hrem := ld_rem (B := 4294967296) (V := V) A k
    have hdg := ld_dig (B := 4294967296) (V := V) A k
    obtain ⟨N, hN⟩ : ∃ N, a.length + 1 = N := ⟨_, rfl⟩
    obtain ⟨A1, hA1⟩ : ∃ A1, A % (V * 4294967296 ^ (k + 1)) = A1 := ⟨_, rfl⟩
    rw [hN]
    rw [hA1] at hU hrem hdg ⊢
    rw [hQ] at hdg
    obtain ⟨⟨g, lg⟩, hge, hgl, hg1, hg2⟩ := estimate_eq (N := N) (A := A1) (o := k) (n := n) (v := v) hvW hvl (by omega) (by omega) (by rw [hvv]; exact hU) (by rw [hvv]; exact hVnorm)
    simp only at hgl hg1 hg2
    rw [hvv] at hg1 hg2
    subst hgl
    have hsub := subtractMultiple_eq (N := N) (A := A1) (o := k) (n := n + 2) (v := v) (f := g) hvW hvl (by omega) (by omega) ?_ ?_
    · rw [hvv] at hsub
      obtain ⟨U, hUe⟩ : ∃ U, A1 / 4294967296 ^ k = U := ⟨_, rfl⟩
      rw [hUe] at hU hrem hdg hg1 hg2 hsub
      have hpw3 : 4294967296 ^ (n + 2 + 1) = 4294967296 ^ (n + 2) * 4294967296 := Nat.pow_succ ..
      have hUM : U < 4294967296 ^ (n + 2 + 1) := by
        have : 4294967296 * V < 4294967296 * 4294967296 ^ (n + 2) := Nat.mul_lt_mul_of_pos_left hVlt (by decide)
        rw [hpw3]; omega
      have hcase := ld_case (M := 4294967296 ^ (n + 2 + 1)) hV0 hg1 hg2 hUM (by rw [hpw3]; omega)
      have hql : U / V < 4294967296 := by rw [hdg]; exact Nat.mod_lt _ (by decide)
      rw [show decide ((0 : Int) ≤ (k : Int)) = true by simp, ctm]
      rw [w64_add (by omega), w64_succ (by omega), show k + (n + 2) + 1 = k + (n + 3) by omega, ckS_nat (by rw [dig_len]; omega) (by rw [dig_len]; omega), bsm, hge, bsm, eqLen_of rfl, bsm, ckS_nat (by rw [dig_len]; omega) (by rw [dig_len]; omega), bsm]
      show (Option.bind (whole_subtractMultiple_m _ k (n + 2 + 1) v g) _) = _
      rw [hsub, bsm, eqLen_of (by rw [dig_len, dig_len]), bsm]
      simp only [letJ]
      rcases hcase with ⟨hc1, hc2, hc3⟩ | ⟨hc1, hc2, hc3, hc4⟩
      · rw [show decide (U < V * g) = false by simp; omega, cfm, hc3, hrem, hc2, Nat.mod_eq_of_lt hql, hdg, cki_nat (by rw [dig_len]; omega), bsm, stM_of (by rw [dig_len]; omega), bsm, ld_put (by decide) (by omega), w64_id (by omega) (by omega)]
      · rw [show decide (U < V * g) = true by simp; omega, ctm, usub_of (by omega) (by omega), show g - 1 = U / V by omega, Nat.mod_eq_of_lt hql, hdg]
        rw [Nat.mod_eq_of_lt hc3]
        obtain ⟨Y, hY⟩ : ∃ Y, U + 4294967296 ^ (n + 2 + 1) - V * g = Y := ⟨_, rfl⟩
        rw [hY] at hc3 hc4 ⊢
        obtain ⟨A2, hA2⟩ : ∃ A2, A1 % 4294967296 ^ k + 4294967296 ^ k * Y = A2 := ⟨_, rfl⟩
        rw [hA2]
        have hw2 : A2 / 4294967296 ^ k = Y := by rw [← hA2, Nat.add_mul_div_left _ _ (hP k), Nat.div_eq_of_lt (Nat.mod_lt _ (hP k)), Nat.zero_add]
        have hm2 : A2 % 4294967296 ^ k = A1 % 4294967296 ^ k := by rw [← hA2, Nat.add_mul_mod_self_left, Nat.mod_mod]
        have hcr : ∀ i, cry 4294967296 Y V i ≤ 1 := fun i => cry_le (by decide) _ _ _
        refine bind_loop_to (fun i => ((i : Int), cry 4294967296 Y V i, dig 4294967296 N (mix 4294967296 k i (Y + V) Y A2))) (n + 2) (cry 4294967296 Y V (n + 2), dig 4294967296 N (mix 4294967296 k (n + 2) (Y + V) Y A2)) ?_ (fun i hi => ?_) ?_ ?_
        · rw [cry_zero, ← hw2, mix_self]; rfl
        · have hgv : v[i]? = some (V / 4294967296 ^ i % 4294967296) := by rw [← hvv]; exact get_val hvW.1 (by omega)
          have hgu : (dig 4294967296 N (mix 4294967296 k i (Y + V) Y A2))[k + i]? = some (Y / 4294967296 ^ i % 4294967296) := by rw [digN_get (by omega), mix_get (by decide)]
          have hs1 := cry_step (B := 4294967296) (by decide) Y V i
          have hs2 := cry_dig (B := 4294967296) (by decide) Y V i
          have hput := mix_put (B := 4294967296) (by decide) k i (Y + V) Y A2 (N := N) (by omega)
          have hci := hcr i
          have hv1 := Nat.mod_lt (V / 4294967296 ^ i) (show 0 < 4294967296 by decide)
          have hy1 := Nat.mod_lt (Y / 4294967296 ^ i) (show 0 < 4294967296 by decide)
          simp only [show decide ((i : Int) < (v.length : Int)) = true by simp; omega, ctm]
          rw [geti_nat hgv, bsm, w64_add (by omega), cki_nat (by rw [dig_len]; omega), bsm, hgu, bsm, Nat.mod_eq_of_lt (a := Y / 4294967296 ^ i % 4294967296) (b := 18446744073709551616) (by omega), Nat.mod_eq_of_lt (a := V / 4294967296 ^ i % 4294967296) (b := 18446744073709551616) (by omega), Nat.mod_eq_of_lt (b := 18446744073709551616) (by omega), carrier_eq _ _ (by omega), bsm, bsm, stM_of (by rw [dig_len]; omega), bsm, w64_succ (by omega)]
          rw [hs1, hs2, hput]
        · simp [hvl]
        · have hgu : (dig 4294967296 N (mix 4294967296 k (n + 2) (Y + V) Y A2))[k + (n + 2)]? = some (Y / 4294967296 ^ (n + 2) % 4294967296) := by rw [digN_get (by omega), mix_get (by decide)]
          have hs2 := cry_dig (B := 4294967296) (by decide) Y V (n + 2)
          have hput := mix_put (B := 4294967296) (by decide) k (n + 2) (Y + V) Y A2 (N := N) (by omega)
          have hci := hcr (n + 2)
          have hy1 := Nat.mod_lt (Y / 4294967296 ^ (n + 2)) (show 0 < 4294967296 by decide)
          rw [Nat.div_eq_of_lt hVlt, Nat.zero_mod, Nat.add_zero] at hs2
          simp only []
          rw [cki_nat (by rw [dig_len]; omega), bsm, hgu, bsm, Nat.mod_eq_of_lt (a := Y / 4294967296 ^ (n + 2) % 4294967296) (b := 18446744073709551616) (by omega), carrier_eq _ _ (by omega), bsm, bsm, stM_of (by rw [dig_len]; omega), bsm, hs2, hput, mix_full hc3, hm2, hc4, hrem, cki_nat (by rw [dig_len]; omega), bsm, stM_of (by rw [dig_len]; omega), bsm, ld_put (by decide) (by omega), w64_id (by omega) (by omega)]
    · -- the digit is at most the base
      have hql : A1 / 4294967296 ^ k / V < 4294967296 := by rw [hdg]; exact Nat.mod_lt _ (by decide)
      omega
    · have hpw3 : 4294967296 ^ (n + 2 + 1) = 4294967296 ^ (n + 2) * 4294967296 := Nat.pow_succ ..
      have : 4294967296 * V < 4294967296 * 4294967296 ^ (n + 2) := Nat.mul_lt_mul_of_pos_left hVlt (by decide)
      rw [hpw3]; omega
  · rw [show K + 1 - (K + 1) = 0 by omega, Nat.pow_zero, Nat.mul_one, Nat.mul_one, Nat.div_one, show decide (0 ≤ (K : Int) - ((K + 1 : Nat) : Int)) = false by simp; omega, cfm]
  · -- the remainder, shifted back
    obtain ⟨R, hR⟩ : ∃ R, Va % Vb = R := ⟨_, rfl⟩
    rw [hAmV, hR] 
    have hRlt : R < 4294967296 ^ (n + 2) := by rw [← hR]; exact Nat.lt_trans (Nat.mod_lt _ hb0) hblt
    rw [mkM_of (by decide) (by omega), bsm]
    refine bind_loop_to (fun i => ((i : Int), dig 4294967296 (n + 2) (R % 4294967296 ^ i))) (n + 2) (dig 4294967296 (n + 2) R) ?_ (fun i hi => ?_) ?_ rfl
    · rw [Nat.pow_zero, Nat.mod_one, dig_zero]; rfl
    · obtain ⟨e, he⟩ : ∃ e, 4294967296 = D * e := ⟨2 ^ (32 - s), by rw [← hD, ← Nat.pow_add, show s + (32 - s) = 32 by omega, two32]⟩
      have hfin := ld_back (R := R) (i := i) hp2 he
      obtain ⟨u, hu⟩ : ∃ u, R * D / 4294967296 ^ i % 4294967296 = u := ⟨_, rfl⟩
      obtain ⟨w, hw⟩ : ∃ w, R * D / 4294967296 ^ (i + 1) % 4294967296 = w := ⟨_, rfl⟩
      have hu1 : u < 4294967296 := by rw [← hu]; exact Nat.mod_lt _ (by decide)
      have hw1 : w < 4294967296 := by rw [← hw]; exact Nat.mod_lt _ (by decide)
      rw [hu, hw] at hfin
      simp only [show decide ((i : Int) < ((n + 2 : Nat) : Int)) = true by simp; omega, ctm]
      rw [cki_nat (by rw [dig_len]; omega), bsm, digN_get (by omega), bsm, hu, w64_succ (by omega), cki_nat (by rw [dig_len]; omega), bsm, digN_get (by omega), bsm, hw, Nat.mod_eq_of_lt (a := u) (by omega), Nat.mod_eq_of_lt (a := w) (by omega), two32, Nat.mod_eq_of_lt (a := w * 4294967296) (by omega), Nat.or_comm, or32' hu1, Nat.mod_eq_of_lt (a := w * 4294967296 + u) (by omega), show min s 64 = s by omega, hD, hfin, cki_nat (by rw [dig_len]; omega), bsm, stM_of (by rw [dig_len]; omega), bsm]
      rw [ld_one (by decide) hi]
    · rw [Nat.mod_eq_of_lt hRlt]; simp
end Go.Proofs.Ytgkafblpckcekaa
