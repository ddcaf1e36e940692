/- The law WholeParseMatches answers true for every input. -/
import Derived.Test.YtgkafblpckcekaaPP4
set_option linter.unusedVariables false
set_option linter.unusedSimpArgs false
namespace Go.Proofs.Ytgkafblpckcekaa
open Go.Fw
theorem ld_lt {B V : Nat} (hB : 0 < B) (hV : 0 < V) (A k : Nat) : A % (V * B ^ (k + 1)) / B ^ k < B * V := by
  rw [Nat.div_lt_iff_lt_mul (Nat.pow_pos hB)]
  have : V * B ^ (k + 1) = B * V * B ^ k := by rw [Nat.pow_succ, Nat.mul_comm (B ^ k), ← Nat.mul_assoc, Nat.mul_comm V]
  rw [← this]
  exact Nat.mod_lt _ (Nat.mul_pos hV (Nat.pow_pos hB))
theorem ld_rem {B V : Nat} (A k : Nat) : A % (V * B ^ (k + 1)) % B ^ k + B ^ k * (A % (V * B ^ (k + 1)) / B ^ k % V) = A % (V * B ^ k) := by
  rw [← Nat.mod_mul, Nat.mul_comm (B ^ k), Nat.mod_mod_of_dvd]
  rw [Nat.pow_succ, ← Nat.mul_assoc]; exact Nat.dvd_mul_right _ _
theorem ld_dig {B V : Nat} (A k : Nat) : A % (V * B ^ (k + 1)) / B ^ k / V = A / V / B ^ k % B := by
  rw [Nat.div_div_eq_div_mul, Nat.mul_comm (B ^ k), Nat.pow_succ, ← Nat.mul_assoc, Nat.mod_mul_right_div_self, Nat.div_div_eq_div_mul]
theorem ld_put {B : Nat} (hB : 0 < B) {N k : Nat} (h : k < N) (Q : Nat) : (dig B N (Q / B ^ (k + 1) * B ^ (k + 1))).set k (Q / B ^ k % B) = dig B N (Q / B ^ k * B ^ k) := by
  have hP : 0 < B ^ k := Nat.pow_pos hB
  refine dig_put hB h (Nat.mod_lt _ hB) ?_ ?_ ?_
  · rw [Nat.mul_mod_left, Nat.pow_succ, Nat.mul_comm (B ^ k), ← Nat.mul_assoc, Nat.mul_mod_left]
  · rw [Nat.mul_div_cancel _ hP]
  · rw [Nat.mul_div_cancel _ (Nat.pow_pos hB), Nat.pow_succ, ← Nat.div_div_eq_div_mul, Nat.mul_div_cancel _ hP, Nat.div_div_eq_div_mul]
theorem ckS_nat {α : Type} {l : List α} {o n : Nat} (h : o < l.length) (h' : o + n ≤ l.length) : ckS l (o : Int) ((o + n : Nat) : Int) = some (o, n) := by
  unfold ckS
  rw [if_pos (by omega)]
  congr 2
  omega
theorem ld_case {U V g M : Nat} (hV : 0 < V) (h1 : U / V ≤ g) (h2 : g ≤ U / V + 1) (hM : U < M) (hVM : V ≤ M) :
    (V * g ≤ U ∧ g = U / V ∧ (U + M - V * g) % M = U % V) ∨ (U < V * g ∧ g = U / V + 1 ∧ U + M - V * g < M ∧ (U + M - V * g + V) % M = U % V) := by
  have hd := Nat.div_add_mod U V
  have hm := Nat.mod_lt U hV
  revert h1 h2 hd hm
  generalize U / V = q
  generalize U % V = r
  intro h1 h2 hd hm
  rcases Nat.lt_or_ge q g with h | h
  · obtain rfl : g = q + 1 := by omega
    have e : V * (q + 1) = V * q + V := Nat.mul_succ ..
    right
    refine ⟨by omega, rfl, by omega, ?_⟩
    rw [show U + M - V * (q + 1) + V = r + M by omega, Nat.add_mod_right, Nat.mod_eq_of_lt (by omega)]
  · obtain rfl : g = q := by omega
    left
    refine ⟨by omega, rfl, ?_⟩
    rw [show U + M - V * g = r + M by omega, Nat.add_mod_right, Nat.mod_eq_of_lt (by omega)]
theorem ld_back {R D e i : Nat} (hD : 0 < D) (he : 4294967296 = D * e) : (R * D / 4294967296 ^ (i + 1) % 4294967296 * 4294967296 + R * D / 4294967296 ^ i % 4294967296) / D % 4294967296 = R / 4294967296 ^ i % 4294967296 := by
  have h1 : R * D / 4294967296 ^ (i + 1) % 4294967296 * 4294967296 + R * D / 4294967296 ^ i % 4294967296 = R * D / 4294967296 ^ i % (4294967296 * 4294967296) := by
    rw [Nat.mod_mul, Nat.div_div_eq_div_mul, show 4294967296 ^ i * 4294967296 = 4294967296 ^ (i + 1) from (Nat.pow_succ ..).symm, Nat.add_comm, Nat.mul_comm 4294967296]
  have h2 : (4294967296 * 4294967296 : Nat) = D * (e * 4294967296) := by
    rw [← Nat.mul_assoc, ← he]
  rw [h1, h2, Nat.mod_mul_right_div_self, Nat.mod_mul_left_mod, Nat.div_div_eq_div_mul, Nat.mul_comm (4294967296 ^ i) D, ← Nat.div_div_eq_div_mul, Nat.mul_div_cancel _ hD]
theorem ld_one {B : Nat} (hB : 0 < B) {N i R : Nat} (h : i < N) : (dig B N (R % B ^ i)).set i (R / B ^ i % B) = dig B N (R % B ^ (i + 1)) := by
  refine dig_put hB h (Nat.mod_lt _ hB) ?_ ?_ ?_
  · rw [Nat.mod_mod, Nat.mod_mod_of_dvd _ (Nat.pow_dvd_pow _ (Nat.le_succ i))]
  · rw [Nat.pow_succ, Nat.mod_mul_right_div_self, Nat.mod_mod]
  · rw [Nat.div_eq_of_lt (Nat.mod_lt _ (Nat.pow_pos hB)), Nat.div_eq_of_lt]
    exact Nat.lt_of_lt_of_le (Nat.mod_lt _ (Nat.pow_pos hB)) (Nat.pow_le_pow_right hB (Nat.le_succ i))
theorem longDiv_eq (a b : List Nat) (ha : W32 a) (hb : W32 b) {n : Nat} (hn : b.length = n + 2) (hl : b.length ≤ a.length) (htop : b[n + 1]? ≠ some 0) :
    whole_longDiv_m a b = some (dig 4294967296 (a.length - b.length + 1) (vl a / vl b), dig 4294967296 b.length (vl a % vl b)) := by
  obtain ⟨hA, hla⟩ := ha
  obtain ⟨hB, hlb⟩ := hb
  have hP : ∀ k, 0 < 4294967296 ^ k := fun k => Nat.pow_pos (by decide)
  obtain ⟨Va, hVa⟩ : ∃ V, vl a = V := ⟨_, rfl⟩
  obtain ⟨Vb, hVb⟩ : ∃ V, vl b = V := ⟨_, rfl⟩
  have hblt : Vb < 4294967296 ^ (n + 2) := by rw [← hVb, ← hn]; exact val_lt b hB
  have halt : Va < 4294967296 ^ a.length := by rw [← hVa]; exact val_lt a hA
  have hpw2 : 4294967296 ^ (n + 2) = 4294967296 ^ (n + 1) * 4294967296 := Nat.pow_succ ..
  obtain ⟨x, hx⟩ : ∃ x, Vb / 4294967296 ^ (n + 1) = x := ⟨_, rfl⟩
  have hxlt : x < 4294967296 := by rw [← hx, Nat.div_lt_iff_lt_mul (hP _)]; rw [hpw2, Nat.mul_comm] at hblt; exact hblt
  have hgx : b[n + 1]? = some x := by rw [get_val hB (by omega), show val 4294967296 b = Vb from hVb, hx, Nat.mod_eq_of_lt hxlt]
  have hx0 : x ≠ 0 := fun e => htop (by rw [hgx, e])
  obtain ⟨s, hs1, hs2, hs3, hs4⟩ := lz_eq x hxlt hx0
  have hp2 : 0 < 2 ^ s := Nat.two_pow_pos s
  have hp2lt : 2 ^ s < 4294967296 := by
    have : 2 ^ s < 2 ^ 32 := Nat.pow_lt_pow_right (by decide) hs2
    rw [two32] at this; exact this
  obtain ⟨D, hD⟩ : ∃ D, 2 ^ s = D := ⟨_, rfl⟩
  rw [hD] at hs3 hs4 hp2 hp2lt
  obtain ⟨V, hV⟩ : ∃ V, Vb * D = V := ⟨_, rfl⟩
  obtain ⟨A, hAe⟩ : ∃ A, Va * D = A := ⟨_, rfl⟩
  have hVlt : V < 4294967296 ^ (n + 2) := by
    have h1 : Vb < (x + 1) * 4294967296 ^ (n + 1) := by rw [← hx, Nat.add_mul, Nat.one_mul]; exact Nat.lt_div_mul_add (hP _)
    have h2 : (x + 1) * D ≤ 4294967296 := by
      obtain ⟨e, he⟩ : ∃ e, 4294967296 = D * e := ⟨2 ^ (32 - s), by rw [← hD, ← Nat.pow_add, show s + (32 - s) = 32 by omega, two32]⟩
      have h3 : x < e := by
        apply Nat.lt_of_mul_lt_mul_left (a := D)
        rw [← he, Nat.mul_comm]; exact hs4
      calc (x + 1) * D ≤ e * D := Nat.mul_le_mul_right _ h3
        _ = 4294967296 := by rw [Nat.mul_comm, ← he]
    rw [← hV, hpw2]
    calc Vb * D < (x + 1) * 4294967296 ^ (n + 1) * D := Nat.mul_lt_mul_of_pos_right h1 hp2
      _ = 4294967296 ^ (n + 1) * ((x + 1) * D) := by rw [Nat.mul_comm (x + 1), Nat.mul_assoc]
      _ ≤ 4294967296 ^ (n + 1) * 4294967296 := Nat.mul_le_mul_left _ h2
  have hVnorm : 2147483648 * 4294967296 ^ (n + 1) ≤ V := by
    have h1 : x * 4294967296 ^ (n + 1) ≤ Vb := by rw [← hx]; exact Nat.div_mul_le_self _ _
    rw [← hV]
    calc 2147483648 * 4294967296 ^ (n + 1) ≤ x * D * 4294967296 ^ (n + 1) := Nat.mul_le_mul_right _ hs3
      _ = x * 4294967296 ^ (n + 1) * D := by rw [Nat.mul_assoc, Nat.mul_comm D, ← Nat.mul_assoc]
      _ ≤ Vb * D := Nat.mul_le_mul_right _ h1
  have hV0 : 0 < V := Nat.lt_of_lt_of_le (Nat.mul_pos (by decide) (hP _)) hVnorm
  have hb0 : 0 < Vb := by
    rcases Nat.eq_zero_or_pos Vb with h | h
    · rw [← hV, h, Nat.zero_mul] at hV0; omega
    · exact h
  have hAV : A / V = Va / Vb := by rw [← hAe, ← hV, Nat.mul_div_mul_right _ _ hp2]
  have hAmV : A % V = Va % Vb * D := by rw [← hAe, ← hV, Nat.mul_mod_mul_right]
  obtain ⟨K, hK⟩ : ∃ K, a.length = K + (n + 2) := ⟨a.length - (n + 2), by omega⟩
  have hA0 : A < V * 4294967296 ^ (K + 1) := by
    have h1 : 4294967296 ^ (n + 1) ≤ Vb := by
      have : 1 * 4294967296 ^ (n + 1) ≤ x * 4294967296 ^ (n + 1) := Nat.mul_le_mul_right _ (by omega)
      have h2 : x * 4294967296 ^ (n + 1) ≤ Vb := by rw [← hx]; exact Nat.div_mul_le_self _ _
      omega
    rw [← hAe, ← hV]
    calc Va * D < 4294967296 ^ a.length * D := Nat.mul_lt_mul_of_pos_right halt hp2
      _ = 4294967296 ^ (n + 1) * 4294967296 ^ (K + 1) * D := by rw [hK, ← Nat.pow_add]; congr 2; omega
      _ ≤ Vb * 4294967296 ^ (K + 1) * D := Nat.mul_le_mul_right _ (Nat.mul_le_mul_right _ h1)
      _ = Vb * D * 4294967296 ^ (K + 1) := by rw [Nat.mul_assoc, Nat.mul_comm _ D, ← Nat.mul_assoc]
  obtain ⟨v, hve⟩ : ∃ v, dig 4294967296 (n + 2) V = v := ⟨_, rfl⟩
  have hvl : v.length = n + 2 := by rw [← hve, dig_len]
  have hvW : W32 v := ⟨fun y hy => by rw [← hve] at hy; exact dig_lt (by decide) _ _ _ hy, by omega⟩
  have hvv : vl v = V := by rw [← hve]; show val _ _ = _; rw [val_dig, Nat.mod_eq_of_lt hVlt]
  have hcutw : List.take b.length (dig 4294967296 (b.length + 1) (Vb * 2 ^ s)) = v := by
    rw [hD, hV, hn, dig_succ, List.take_append_of_le_length (by rw [dig_len]; omega), List.take_of_length_le (by rw [dig_len]; omega), hve]
  unfold whole_longDiv_m
  simp only [bsm]
  rw [show ((b.length : Nat) : Int) - 1 = ((n + 1 : Nat) : Int) by omega, w64_nat (by omega), geti_nat hgx, bsm, hs1, bsm]
  rw [show ((s : Int) % 18446744073709551616).toNat = s by rw [Int.emod_eq_of_lt (by omega) (by omega)]; simp]
  rw [shiftLeftN_eq, shiftLeft_eq a s ⟨hA, hla⟩ hs2, bsm, shiftLeft_eq b s ⟨hB, hlb⟩ hs2, bsm, subM_zero (by rw [dig_len]; omega), bsm]
  obtain ⟨Q, hQ⟩ : ∃ Q, A / V = Q := ⟨_, rfl⟩
  have hQlt : Q < 4294967296 ^ (K + 1) := by rw [← hQ, Nat.div_lt_iff_lt_mul hV0, Nat.mul_comm]; exact hA0
  rw [hVa, hVb, ← hAV, hQ, hcutw, hD, hAe, hn]
  rw [show a.length - (n + 2) + 1 = K + 1 by omega]
  rw [w64_id (x := (a.length : Int) - ((n + 2 : Nat) : Int)) (by omega) (by omega), w64_id (x := (a.length : Int) - ((n + 2 : Nat) : Int) + 1) (by omega) (by omega), show (a.length : Int) - ((n + 2 : Nat) : Int) + 1 = ((K + 1 : Nat) : Int) by omega, mkM_of (by decide) (by omega), bsm, show (a.length : Int) - ((n + 2 : Nat) : Int) = (K : Int) by omega]
  refine bind_loop_to (fun j => ((K : Int) - (j : Int), dig 4294967296 (K + 1) (Q / 4294967296 ^ (K + 1 - j) * 4294967296 ^ (K + 1 - j)), dig 4294967296 (a.length + 1) (A % (V * 4294967296 ^ (K + 1 - j))))) (K + 1) (dig 4294967296 (K + 1) Q, dig 4294967296 (a.length + 1) (A % V)) ?_ (fun j hj => ?_) ?_ ?_
  · rw [show K + 1 - 0 = K + 1 by omega, Nat.mod_eq_of_lt hA0, Nat.div_eq_of_lt hQlt, Nat.zero_mul, dig_zero]; simp
  ·
    obtain ⟨k, hk⟩ : ∃ k, K = k + j := ⟨K - j, by omega⟩
    rw [show K + 1 - j = k + 1 by omega, show K + 1 - (j + 1) = k by omega, show (K : Int) - (j : Int) = (k : Int) by omega, show (K : Int) - ((j + 1 : Nat) : Int) = (k : Int) - 1 by omega]
    have hU := ld_lt (B := 4294967296) (by decide) hV0 A k
    have hrem := ld_rem (B := 4294967296) (V := V) A k
    have hdg := ld_dig (B := 4294967296) (V := V) A k
    obtain ⟨N, hN⟩ : ∃ N, a.length + 1 = N := ⟨_, rfl⟩
    obtain ⟨A1, hA1⟩ : ∃ A1, A % (V * 4294967296 ^ (k + 1)) = A1 := ⟨_, rfl⟩
    rw [hN]
    rw [hA1] at hU hrem hdg ⊢
    rw [hQ] at hdg
    obtain ⟨⟨g, lg⟩, hge, hgl, hg1, hg2⟩ := estimate_eq (N := N) (A := A1) (o := k) (n := n) (v := v) hvW hvl (by omega) (by omega) (by rw [hvv]; exact hU) (by rw [hvv]; exact hVnorm)
    simp only at hgl hg1 hg2
    rw [hvv] at hg1 hg2
    subst hgl
    have hsub := subtractMultiple_eq (N := N) (A := A1) (o := k) (n := n + 2) (v := v) (f := g) hvW hvl (by omega) (by omega) ?_ ?_
    · rw [hvv] at hsub
      obtain ⟨U, hUe⟩ : ∃ U, A1 / 4294967296 ^ k = U := ⟨_, rfl⟩
      rw [hUe] at hU hrem hdg hg1 hg2 hsub
      have hpw3 : 4294967296 ^ (n + 2 + 1) = 4294967296 ^ (n + 2) * 4294967296 := Nat.pow_succ ..
      have hUM : U < 4294967296 ^ (n + 2 + 1) := by
        have : 4294967296 * V < 4294967296 * 4294967296 ^ (n + 2) := Nat.mul_lt_mul_of_pos_left hVlt (by decide)
        rw [hpw3]; omega
      have hcase := ld_case (M := 4294967296 ^ (n + 2 + 1)) hV0 hg1 hg2 hUM (by rw [hpw3]; omega)
      have hql : U / V < 4294967296 := by rw [hdg]; exact Nat.mod_lt _ (by decide)
      rw [show decide ((0 : Int) ≤ (k : Int)) = true by simp, ctm]
      rw [w64_add (by omega), w64_succ (by omega), show k + (n + 2) + 1 = k + (n + 3) by omega, ckS_nat (by rw [dig_len]; omega) (by rw [dig_len]; omega), bsm, hge, bsm, eqLen_of rfl, bsm, ckS_nat (by rw [dig_len]; omega) (by rw [dig_len]; omega), bsm]
      show (Option.bind (whole_subtractMultiple_m _ k (n + 2 + 1) v g) _) = _
      rw [hsub, bsm, eqLen_of (by rw [dig_len, dig_len]), bsm]
      simp only [letJ]
      rcases hcase with ⟨hc1, hc2, hc3⟩ | ⟨hc1, hc2, hc3, hc4⟩
      · rw [show decide (U < V * g) = false by simp; omega, cfm, hc3, hrem, hc2, Nat.mod_eq_of_lt hql, hdg, cki_nat (by rw [dig_len]; omega), bsm, stM_of (by rw [dig_len]; omega), bsm, ld_put (by decide) (by omega), w64_id (by omega) (by omega)]
      · rw [show decide (U < V * g) = true by simp; omega, ctm, usub_of (by omega) (by omega), show g - 1 = U / V by omega, Nat.mod_eq_of_lt hql, hdg]
        rw [Nat.mod_eq_of_lt hc3]
        obtain ⟨Y, hY⟩ : ∃ Y, U + 4294967296 ^ (n + 2 + 1) - V * g = Y := ⟨_, rfl⟩
        rw [hY] at hc3 hc4 ⊢
        obtain ⟨A2, hA2⟩ : ∃ A2, A1 % 4294967296 ^ k + 4294967296 ^ k * Y = A2 := ⟨_, rfl⟩
        rw [hA2]
        have hw2 : A2 / 4294967296 ^ k = Y := by rw [← hA2, Nat.add_mul_div_left _ _ (hP k), Nat.div_eq_of_lt (Nat.mod_lt _ (hP k)), Nat.zero_add]
        have hm2 : A2 % 4294967296 ^ k = A1 % 4294967296 ^ k := by rw [← hA2, Nat.add_mul_mod_self_left, Nat.mod_mod]
        have hcr : ∀ i, cry 4294967296 Y V i ≤ 1 := fun i => cry_le (by decide) _ _ _
        refine bind_loop_to (fun i => ((i : Int), cry 4294967296 Y V i, dig 4294967296 N (mix 4294967296 k i (Y + V) Y A2))) (n + 2) (cry 4294967296 Y V (n + 2), dig 4294967296 N (mix 4294967296 k (n + 2) (Y + V) Y A2)) ?_ (fun i hi => ?_) ?_ ?_
        · rw [cry_zero, ← hw2, mix_self]; rfl
        · have hgv : v[i]? = some (V / 4294967296 ^ i % 4294967296) := by rw [← hvv]; exact get_val hvW.1 (by omega)
          have hgu : (dig 4294967296 N (mix 4294967296 k i (Y + V) Y A2))[k + i]? = some (Y / 4294967296 ^ i % 4294967296) := by rw [digN_get (by omega), mix_get (by decide)]
          have hs1 := cry_step (B := 4294967296) (by decide) Y V i
          have hs2 := cry_dig (B := 4294967296) (by decide) Y V i
          have hput := mix_put (B := 4294967296) (by decide) k i (Y + V) Y A2 (N := N) (by omega)
          have hci := hcr i
          have hv1 := Nat.mod_lt (V / 4294967296 ^ i) (show 0 < 4294967296 by decide)
          have hy1 := Nat.mod_lt (Y / 4294967296 ^ i) (show 0 < 4294967296 by decide)
          simp only [show decide ((i : Int) < (v.length : Int)) = true by simp; omega, ctm]
          rw [geti_nat hgv, bsm, w64_add (by omega), cki_nat (by rw [dig_len]; omega), bsm, hgu, bsm, Nat.mod_eq_of_lt (a := Y / 4294967296 ^ i % 4294967296) (b := 18446744073709551616) (by omega), Nat.mod_eq_of_lt (a := V / 4294967296 ^ i % 4294967296) (b := 18446744073709551616) (by omega), Nat.mod_eq_of_lt (b := 18446744073709551616) (by omega), carrier_eq _ _ (by omega), bsm, bsm, stM_of (by rw [dig_len]; omega), bsm, w64_succ (by omega)]
          rw [hs1, hs2, hput]
        · simp [hvl]
        · have hgu : (dig 4294967296 N (mix 4294967296 k (n + 2) (Y + V) Y A2))[k + (n + 2)]? = some (Y / 4294967296 ^ (n + 2) % 4294967296) := by rw [digN_get (by omega), mix_get (by decide)]
          have hs2 := cry_dig (B := 4294967296) (by decide) Y V (n + 2)
          have hput := mix_put (B := 4294967296) (by decide) k (n + 2) (Y + V) Y A2 (N := N) (by omega)
          have hci := hcr (n + 2)
          have hy1 := Nat.mod_lt (Y / 4294967296 ^ (n + 2)) (show 0 < 4294967296 by decide)
          rw [Nat.div_eq_of_lt hVlt, Nat.zero_mod, Nat.add_zero] at hs2
          simp only []
          rw [cki_nat (by rw [dig_len]; omega), bsm, hgu, bsm, Nat.mod_eq_of_lt (a := Y / 4294967296 ^ (n + 2) % 4294967296) (b := 18446744073709551616) (by omega), carrier_eq _ _ (by omega), bsm, bsm, stM_of (by rw [dig_len]; omega), bsm, hs2, hput, mix_full hc3, hm2, hc4, hrem, cki_nat (by rw [dig_len]; omega), bsm, stM_of (by rw [dig_len]; omega), bsm, ld_put (by decide) (by omega), w64_id (by omega) (by omega)]
    ·
      have hql : A1 / 4294967296 ^ k / V < 4294967296 := by rw [hdg]; exact Nat.mod_lt _ (by decide)
      omega
    · have hpw3 : 4294967296 ^ (n + 2 + 1) = 4294967296 ^ (n + 2) * 4294967296 := Nat.pow_succ ..
      have : 4294967296 * V < 4294967296 * 4294967296 ^ (n + 2) := Nat.mul_lt_mul_of_pos_left hVlt (by decide)
      rw [hpw3]; omega
  · rw [show K + 1 - (K + 1) = 0 by omega, Nat.pow_zero, Nat.mul_one, Nat.mul_one, Nat.div_one, show decide (0 ≤ (K : Int) - ((K + 1 : Nat) : Int)) = false by simp; omega, cfm]
  ·
    obtain ⟨R, hR⟩ : ∃ R, Va % Vb = R := ⟨_, rfl⟩
    rw [hAmV, hR]
    have hRlt : R < 4294967296 ^ (n + 2) := by rw [← hR]; exact Nat.lt_trans (Nat.mod_lt _ hb0) hblt
    rw [mkM_of (by decide) (by omega), bsm]
    refine bind_loop_to (fun i => ((i : Int), dig 4294967296 (n + 2) (R % 4294967296 ^ i))) (n + 2) (dig 4294967296 (n + 2) R) ?_ (fun i hi => ?_) ?_ rfl
    · rw [Nat.pow_zero, Nat.mod_one, dig_zero]; rfl
    · obtain ⟨e, he⟩ : ∃ e, 4294967296 = D * e := ⟨2 ^ (32 - s), by rw [← hD, ← Nat.pow_add, show s + (32 - s) = 32 by omega, two32]⟩
      have hfin := ld_back (R := R) (i := i) hp2 he
      obtain ⟨u, hu⟩ : ∃ u, R * D / 4294967296 ^ i % 4294967296 = u := ⟨_, rfl⟩
      obtain ⟨w, hw⟩ : ∃ w, R * D / 4294967296 ^ (i + 1) % 4294967296 = w := ⟨_, rfl⟩
      have hu1 : u < 4294967296 := by rw [← hu]; exact Nat.mod_lt _ (by decide)
      have hw1 : w < 4294967296 := by rw [← hw]; exact Nat.mod_lt _ (by decide)
      rw [hu, hw] at hfin
      simp only [show decide ((i : Int) < ((n + 2 : Nat) : Int)) = true by simp; omega, ctm]
      rw [cki_nat (by rw [dig_len]; omega), bsm, digN_get (by omega), bsm, hu, w64_succ (by omega), cki_nat (by rw [dig_len]; omega), bsm, digN_get (by omega), bsm, hw, Nat.mod_eq_of_lt (a := u) (by omega), Nat.mod_eq_of_lt (a := w) (by omega), two32, Nat.mod_eq_of_lt (a := w * 4294967296) (by omega), Nat.or_comm, or32' hu1, Nat.mod_eq_of_lt (a := w * 4294967296 + u) (by omega), show min s 64 = s by omega, hD, hfin, cki_nat (by rw [dig_len]; omega), bsm, stM_of (by rw [dig_len]; omega), bsm]
      rw [ld_one (by decide) hi]
    · rw [Nat.mod_eq_of_lt hRlt]; simp
end Go.Proofs.Ytgkafblpckcekaa
namespace Go.Proofs.Ytgkafblpckcekaa
open Go.Fw
def sv (n : Bool) (v : Nat) : Int := bif n then -(v : Int) else v
def zi (z : Zr) : Int := sv z.neg (vl z.w)
def zn (i : Int) : Zr := ⟨decide (i < 0), can 4294967296 i.natAbs⟩
def Wl (z : Zr) : Prop := (∀ x ∈ z.w, x < 4294967296) ∧ z.w.length ≤ 100000000
def Fit (L : Nat) (i : Int) : Prop := i.natAbs < 4294967296 ^ L
theorem sv_abs (n : Bool) (v : Nat) : (sv n v).natAbs = v := by cases n <;> simp [sv]
theorem zi_abs (z : Zr) : (zi z).natAbs = vl z.w := sv_abs _ _
theorem sv_neg (n : Bool) (v : Nat) : decide (sv n v < 0) = (n && v != 0) := by
  cases n
  · have : ¬ ((v : Int) < 0) := by omega
    simp [sv, this]
  · rcases v with _ | v
    · simp [sv]
    · simp [sv]
theorem zc_zn (n : Bool) (v : Nat) : zc n v = zn (sv n v) := by rw [zc, zn, sv_neg, sv_abs]
theorem sv_self (i : Int) : sv (decide (i < 0)) i.natAbs = i := by
  by_cases h : i < 0
  · rw [show decide (i < 0) = true by simp [h]]; simp [sv]; omega
  · rw [show decide (i < 0) = false by simp [h]]; simp [sv]; omega
theorem zi_zn (i : Int) : zi (zn i) = i := by
  show sv (decide (i < 0)) (vl (can 4294967296 i.natAbs)) = i
  rw [show vl (can 4294967296 i.natAbs) = i.natAbs from val_can (by decide) _, sv_self]
theorem zn_inj {i j : Int} (h : zn i = zn j) : i = j := by rw [← zi_zn i, h, zi_zn]
theorem sv_not (n : Bool) (v : Nat) : sv (!n) v = -sv n v := by cases n <;> simp [sv]
theorem sv_false (v : Nat) : sv false v = v := rfl
theorem Fit.mono {L M : Nat} {i : Int} (h : Fit L i) (hl : L ≤ M) : Fit M i := Nat.lt_of_lt_of_le h (Nat.pow_le_pow_right (by decide) hl)
theorem Fit.neg {L : Nat} {i : Int} (h : Fit L i) : Fit L (-i) := by unfold Fit at *; rw [Int.natAbs_neg]; exact h
theorem Fit.add {L : Nat} {i j : Int} (h : Fit L i) (h' : Fit L j) : Fit (L + 1) (i + j) := by
  unfold Fit at *
  have := Int.natAbs_add_le i j
  rw [Nat.pow_succ]; omega
theorem Fit.sub {L : Nat} {i j : Int} (h : Fit L i) (h' : Fit L j) : Fit (L + 1) (i - j) := by
  rw [Int.sub_eq_add_neg]; exact h.add h'.neg
theorem Fit.mul {L M : Nat} {i j : Int} (h : Fit L i) (h' : Fit M j) : Fit (L + M) (i * j) := by
  unfold Fit at *
  rw [Int.natAbs_mul, Nat.pow_add]
  exact Nat.mul_lt_mul'' h h'
theorem Fit.i64 {i : Int} (h : -9223372036854775808 ≤ i) (h' : i ≤ 9223372036854775807) : Fit 2 i := by
  unfold Fit; rw [show (4294967296 : Nat) ^ 2 = 18446744073709551616 by decide]; omega
theorem Fit.le {L : Nat} {i j : Int} (h : Fit L i) (h' : j.natAbs ≤ i.natAbs) : Fit L j := Nat.lt_of_le_of_lt h' h
theorem wl_zn {L : Nat} {i : Int} (h : Fit L i) (hL : L ≤ 100000000) : Wl (zn i) :=
  ⟨fun _ hx => can_lt (by decide) hx, Nat.le_trans ((can_len_iff (by decide)).2 h) hL⟩
theorem Wl.fit {z : Zr} (h : Wl z) : Fit z.w.length (zi z) := by
  unfold Fit; rw [zi_abs]; exact val_lt z.w h.1
theorem Wl.lt {z : Zr} (h : Wl z) : vl z.w < 4294967296 ^ z.w.length := val_lt z.w h.1
theorem Wl.cl {z : Zr} (h : Wl z) : (can 4294967296 (vl z.w)).length ≤ 100000000 :=
  Nat.le_trans ((can_len_iff (by decide)).2 (Wl.lt h)) h.2
theorem Wl.trim {z : Zr} (h : Wl z) : whole_trim_m z.w = some (can 4294967296 (vl z.w)) := by
  rw [trim_eq _ (by have := h.2; omega), trim_can (by decide) h.1]
theorem can_W32 {v : Nat} (h : (can 4294967296 v).length ≤ 100000001) : W32 (can 4294967296 v) := ⟨fun _ hx => can_lt (by decide) hx, by omega⟩
theorem vl_can (v : Nat) : vl (can 4294967296 v) = v := val_can (by decide) v
theorem can_len2 {v : Nat} : ((can 4294967296 v).length : Int) ≤ 2 ↔ v < 18446744073709551616 := by
  have := can_len_iff (B := 4294967296) (by decide) (v := v) (n := 2)
  rw [show (4294967296 : Nat) ^ 2 = 18446744073709551616 by decide] at this
  omega
theorem can_len1 {v : Nat} : ((can 4294967296 v).length : Int) ≤ 1 ↔ v < 4294967296 := by
  have := can_len_iff (B := 4294967296) (by decide) (v := v) (n := 1)
  rw [show (4294967296 : Nat) ^ 1 = 4294967296 by decide] at this
  omega
theorem can_len0 {v : Nat} : (can 4294967296 v).length = 0 ↔ v = 0 := by
  constructor
  · intro h; exact can_nil (by decide) (List.length_eq_zero_iff.1 h)
  · intro h; rw [h, can_zero]; rfl
theorem clone_eq (l : List Nat) (h : l.length ≤ 1000000000000) : slices_Clone_m l = some l := by
  unfold slices_Clone_m; rw [apMl (by decide) (by simp; omega)]; simp
end Go.Proofs.Ytgkafblpckcekaa
namespace Go.Proofs.Ytgkafblpckcekaa
open Go.Fw
theorem cmpN_neg (a b : Nat) : decide (cmpN a b < 0) = decide (a < b) := by
  rcases Nat.lt_trichotomy a b with h | h | h
  · rw [cmpN_lt h]; simp [h]
  · rw [h, cmpN_eq]; simp
  · rw [cmpN_gt h]; simp; omega
theorem divWords_eq (a b : Nat) (ha : (can 4294967296 a).length ≤ 100000000) (hb : (can 4294967296 b).length ≤ 100000000) (h0 : b ≠ 0) :
    ∃ q r, whole_divWords_m (can 4294967296 a) (can 4294967296 b) = some (q, r) ∧ W32 q ∧ vl q = a / b ∧ W32 r ∧ vl r = a % b ∧ q.length ≤ 100000001 ∧ r.length ≤ 100000001 := by
  unfold whole_divWords_m
  rw [compareWords_eq a b (by omega) (by omega)]
  simp only [bsm]
  by_cases hlt : a < b
  · rw [cmpN_lt hlt]
    simp only [show decide ((-1 : Int) < 0) = true by decide, ctm]
    rw [clone_eq _ (by omega)]
    refine ⟨_, _, rfl, ⟨by simp, by simp⟩, ?_, can_W32 (by omega), ?_, by simp, by omega⟩
    · rw [Nat.div_eq_of_lt hlt]; rfl
    · rw [vl_can, Nat.mod_eq_of_lt hlt]
  · rw [cmpN_neg, show decide (a < b) = false by simp [hlt]]
    simp only [cfm]
    by_cases h2 : a < 18446744073709551616
    · rw [show decide (((can 4294967296 a).length : Int) ≤ 2) = true by rw [decide_eq_true_eq]; exact can_len2.2 h2]
      have hb2 : b < 18446744073709551616 := by omega
      simp only [ctm]
      have l1 := low_eq (can 4294967296 a) (fun _ hx => can_lt (by decide) hx) (by have := can_len2.2 h2; omega)
      have l2 := low_eq (can 4294967296 b) (fun _ hx => can_lt (by decide) hx) (by have := can_len2.2 hb2; omega)
      rw [vl_can] at l1 l2
      rw [l1, bsm, l2, bsm, uquo_of h0 h2, bsm, small_eq _ _ (Nat.lt_of_le_of_lt (Nat.div_le_self _ _) h2), bsm, urem_of h0, bsm, small_eq _ _ (Nat.lt_of_le_of_lt (Nat.mod_le _ _) h2), bsm]
      have hq : a / b < 18446744073709551616 := Nat.lt_of_le_of_lt (Nat.div_le_self _ _) h2
      have hr : a % b < 18446744073709551616 := Nat.lt_of_le_of_lt (Nat.mod_le _ _) h2
      have c1 := can_len2.2 hq
      have c2 := can_len2.2 hr
      exact ⟨_, _, rfl, can_W32 (by omega), vl_can _, can_W32 (by omega), vl_can _, by show (can _ _).length ≤ _; omega, by show (can _ _).length ≤ _; omega⟩
    · rw [show decide (((can 4294967296 a).length : Int) ≤ 2) = false by rw [decide_eq_false_iff_not]; exact fun h => h2 (can_len2.1 h)]
      simp only [cfm]
      have hlen0 : (can 4294967296 b).length ≠ 0 := fun h => h0 (can_len0.1 h)
      by_cases h1 : b < 4294967296
      · have h1' := can_len1.2 h1
        rw [show decide (((can 4294967296 b).length : Int) = 1) = true by simp; omega, ctm]
        have hg : (can 4294967296 b)[0]? = some b := by rw [can_get (by decide) (by omega)]; simp; exact h1
        rw [clone_eq _ (by omega), bsm, geti_zero hg, bsm, Nat.mod_eq_of_lt (b := 18446744073709551616) (by omega), shortDiv_eq _ _ (can_W32 (by omega)) (by omega) (by omega), bsm, vl_can]
        simp only []
        rw [eqLen_of (by rw [dig_len]), bsm]
        have hm : a % b < b := Nat.mod_lt _ (by omega)
        rw [Nat.mod_eq_of_lt (a := a % b) (by omega)]
        refine ⟨_, _, rfl, ⟨fun x hx => dig_lt (by decide) _ _ _ hx, by rw [dig_len]; omega⟩, ?_, ⟨?_, by simp⟩, ?_, by rw [dig_len]; omega, by simp⟩
        · show val _ _ = _
          rw [val_dig, Nat.mod_eq_of_lt (Nat.lt_of_le_of_lt (Nat.div_le_self _ _) (lt_can_len (by decide) a))]
        · intro x hx; simp at hx; omega
        · simp [vl, val]
      · have h1' : ¬ (((can 4294967296 b).length : Int) ≤ 1) := fun h => h1 (can_len1.1 h)
        rw [show decide (((can 4294967296 b).length : Int) = 1) = false by simp; omega, cfm]
        obtain ⟨n, hn⟩ : ∃ n, (can 4294967296 b).length = n + 2 := ⟨(can 4294967296 b).length - 2, by omega⟩
        have hl : (can 4294967296 b).length ≤ (can 4294967296 a).length := (can_len_iff (by decide)).2 (Nat.lt_of_le_of_lt (by omega) (lt_can_len (by decide) a))
        obtain ⟨l, x, hx, he⟩ := can_last (B := 4294967296) (by decide) h0
        have htop : (can 4294967296 b)[n + 1]? ≠ some 0 := by
          have : l.length = n + 1 := by rw [he] at hn; simp at hn; omega
          rw [he, ← this]; simp; exact hx
        rw [longDiv_eq _ _ (can_W32 (by omega)) (can_W32 (by omega)) hn hl htop, bsm, vl_can, vl_can]
        have hbp : 0 < b := by omega
        have e1 : a < 4294967296 ^ (can 4294967296 a).length := lt_can_len (by decide) a
        have e2 : b < 4294967296 ^ (can 4294967296 b).length := lt_can_len (by decide) b
        have e3 : 4294967296 ^ (n + 1) ≤ b := pow_le_of_can (by decide) (by omega)
        refine ⟨_, _, rfl, ⟨fun x hx => dig_lt (by decide) _ _ _ hx, by rw [dig_len]; omega⟩, ?_, ⟨fun x hx => dig_lt (by decide) _ _ _ hx, by rw [dig_len]; omega⟩, ?_, by rw [dig_len]; omega, by rw [dig_len]; omega⟩
        · show val _ _ = _
          rw [val_dig, Nat.mod_eq_of_lt]
          rw [Nat.div_lt_iff_lt_mul hbp]
          have : 4294967296 ^ ((can 4294967296 a).length - (can 4294967296 b).length + 1) * 4294967296 ^ (n + 1) = 4294967296 ^ (can 4294967296 a).length := by rw [← Nat.pow_add]; congr 1; omega
          calc a < 4294967296 ^ ((can 4294967296 a).length - (can 4294967296 b).length + 1) * 4294967296 ^ (n + 1) := by rw [this]; exact e1
            _ ≤ _ := Nat.mul_le_mul_left _ e3
        · show val _ _ = _
          rw [val_dig, Nat.mod_eq_of_lt (Nat.lt_trans (Nat.mod_lt _ hbp) e2)]
end Go.Proofs.Ytgkafblpckcekaa
namespace Go.Proofs.Ytgkafblpckcekaa
open Go.Fw
theorem fromInt_eq {x : Int} (h1 : -9223372036854775808 ≤ x) (h2 : x ≤ 9223372036854775807) : whole_FromInt64_m x = some (zn x) := by
  unfold whole_FromInt64_m
  simp only [bsm, letJ]
  by_cases hx : x < 0
  · have e : (x % 18446744073709551616).toNat = 18446744073709551616 - x.natAbs := by omega
    rw [show decide (x < 0) = true by simp [hx], ctm, e, usub_lt (by omega) (by omega), show 18446744073709551616 + 0 - (18446744073709551616 - x.natAbs) = x.natAbs by omega, small_eq _ _ (by omega), bsm, zc_zn, show sv true x.natAbs = x by simp [sv]; omega]
  · have e : (x % 18446744073709551616).toNat = x.natAbs := by omega
    rw [show decide (x < 0) = false by simp [hx], cfm, e, small_eq _ _ (by omega), bsm, zc_zn, show sv false x.natAbs = x by simp [sv]; omega]
def i64ok (i : Int) : Prop := -9223372036854775808 ≤ i ∧ i ≤ 9223372036854775807
instance (i : Int) : Decidable (i64ok i) := by unfold i64ok; infer_instance
end Go.Proofs.Ytgkafblpckcekaa
namespace Go.Proofs.Ytgkafblpckcekaa
open Go.Fw
theorem bif_same {α : Type} (b : Bool) (x : α) : (bif b then x else x) = x := by cases b <;> rfl
end Go.Proofs.Ytgkafblpckcekaa
namespace Go.Proofs.Ytgkafblpckcekaa
open Go.Fw
theorem sv_div (n m : Bool) {a b : Nat} (hb : 0 < b) :
    sv n a / sv m b = (if n = true ∧ 0 < a % b then sv (!(n == m)) (a / b + 1) else sv (!(n == m)) (a / b)) ∧
    sv n a % sv m b = (if n = true ∧ 0 < a % b then ((b - a % b : Nat) : Int) else ((a % b : Nat) : Int)) := by
  have hd := Nat.div_add_mod a b
  have hm := Nat.mod_lt a hb
  revert hd hm
  generalize a / b = q
  generalize a % b = r
  intro hd hm
  have hd' : (b : Int) * q + r = a := by exact_mod_cast hd
  have pos : ∀ n, sv n a / (b : Int) = (if n = true ∧ 0 < r then sv n (q + 1) else sv n q) ∧ sv n a % (b : Int) = (if n = true ∧ 0 < r then ((b - r : Nat) : Int) else (r : Int)) := by
    intro n
    apply (Int.ediv_emod_unique (by omega)).2
    cases n
    · simp [sv]; omega
    · by_cases hr : 0 < r
      · simp only [hr, and_self, if_true, sv, cond_true]
        have : (b : Int) * -((q + 1 : Nat) : Int) = -((b : Int) * q) - b := by
          rw [Int.mul_neg, Int.natCast_add, Int.mul_add]; simp; omega
        rw [this]; omega
      · have : r = 0 := by omega
        subst this
        simp [sv, Int.mul_neg]; omega
  cases m
  · have := pos n
    rw [sv_false, show (!(n == false)) = n by cases n <;> rfl]
    exact this
  · have := pos n
    rw [show sv true b = -(b : Int) from rfl, Int.ediv_neg, Int.emod_neg, this.1, this.2, show (!(n == true)) = !n by cases n <;> rfl, sv_not, sv_not]
    refine ⟨?_, rfl⟩
    split <;> rfl
theorem canSub {a b : Nat} (hba : b ≤ a) (hcl : (can 4294967296 a).length ≤ 100000000) : whole_subWords_m (can 4294967296 a) (can 4294967296 b) = some (dig 4294967296 (can 4294967296 a).length (a - b)) ∧ vl (dig 4294967296 (can 4294967296 a).length (a - b)) = a - b := by
  have lc := lt_can_len (B := 4294967296) (by decide) a
  have hdl : (can 4294967296 b).length ≤ (can 4294967296 a).length := (can_len_iff (by decide)).2 (by omega)
  constructor
  · rw [subWords_eq _ _ (can_W32 (by omega)) (can_W32 (by omega)) hdl (by rw [vl_can, vl_can]; exact hba), vl_can, vl_can]
  · show val _ _ = _
    rw [val_dig, Nat.mod_eq_of_lt (by omega)]
def dmOf (i j : Int) : Zr × Zr × Int := if j = 0 then (⟨false, []⟩, ⟨false, []⟩, 7) else (zn (i / j), zn (i % j), 0)
theorem divMod_eq {x y : Zr} (hx : Wl x) (hy : Wl y) : whole_DivMod_m x y = some (dmOf (zi x) (zi y)) := by
  obtain ⟨n, w⟩ := x
  obtain ⟨m, u⟩ := y
  unfold whole_DivMod_m
  have hcx : (can 4294967296 (vl w)).length ≤ 100000000 := hx.cl
  have hcy : (can 4294967296 (vl u)).length ≤ 100000000 := hy.cl
  simp only []
  rw [show whole_trim_m w = some (can 4294967296 (vl w)) from hx.trim, show whole_trim_m u = some (can 4294967296 (vl u)) from hy.trim, bsm, bsm, show zi ⟨n, w⟩ = sv n (vl w) from rfl, show zi ⟨m, u⟩ = sv m (vl u) from rfl]
  simp only [bsm, letJ]
  generalize vl w = a at *
  generalize vl u = b at *
  by_cases h0 : b = 0
  · subst h0
    rw [show sv m 0 = 0 by cases m <;> rfl]; rfl
  · have hlen0 : (can 4294967296 b).length ≠ 0 := fun h => h0 (can_len0.1 h)
    rw [show decide (((can 4294967296 b).length : Int) = 0) = false by simp; intro e; rw [e] at hlen0; exact hlen0 rfl, cfm]
    obtain ⟨q, r, hqr, hq1, hq2, hr1, hr2, hq3, hr3⟩ := divWords_eq a b hcx hcy h0
    have hm : a % b < b := Nat.mod_lt _ (by omega)
    obtain ⟨e1, e2⟩ := sv_div n m (a := a) (show 0 < b by omega)
    have hj : sv m b ≠ 0 := by cases m <;> simp [sv] <;> omega
    rw [hqr, bsm]
    simp only []
    rw [trim_eq r (by have := hr1.2; omega), trim_can (by decide) hr1.1, show val 4294967296 r = a % b from hr2, bsm, dmOf, if_neg hj, e1, e2]
    have hrl : (can 4294967296 (a % b)).length ≤ (can 4294967296 b).length := (can_len_iff (by decide)).2 (Nat.lt_trans hm (lt_can_len (by decide) b))
    have hK : ∀ c : Bool, (decide (n = true ∧ 0 < a % b) = c) → (bif c then (whole_addWords_m q [1]).bind fun x39 => (whole_subWords_m (can 4294967296 b) (can 4294967296 (a % b))).bind fun x42 => (whole_build_m (!(n == m)) x39).bind fun x => (whole_build_m false x42).bind fun x_1 => some ((⟨x.neg, x.w⟩ : Zr), (⟨x_1.neg, x_1.w⟩ : Zr), (0 : Int))
        else (whole_build_m (!(n == m)) q).bind fun x => (whole_build_m false (can 4294967296 (a % b))).bind fun x_1 => some ((⟨x.neg, x.w⟩ : Zr), (⟨x_1.neg, x_1.w⟩ : Zr), (0 : Int))) =
        some (zn (if n = true ∧ 0 < a % b then sv (!(n == m)) (a / b + 1) else sv (!(n == m)) (a / b)), zn (if n = true ∧ 0 < a % b then ((b - a % b : Nat) : Int) else ((a % b : Nat) : Int)), 0) := by
      intro c hc
      cases c
      · have hc' := of_decide_eq_false hc
        rw [cfm, if_neg hc', if_neg hc', build_eq _ _ hq1, bsm, build_eq _ _ (can_W32 (by omega)), bsm, vl_can, hq2, zc_zn, zc_zn, sv_false]
      · have hc' := of_decide_eq_true hc
        obtain ⟨s1, s2⟩ := canSub (a := b) (b := a % b) (by omega) hcy
        have w1 : W32 [1] := ⟨by simp, by simp⟩
        rw [ctm, if_pos hc', if_pos hc', addWords_eq _ _ hq1 w1, bsm, s1, bsm, build_eq _ _ ⟨fun x hx => dig_lt (by decide) _ _ _ hx, by rw [dig_len]; simp; omega⟩, bsm, build_eq _ _ ⟨fun x hx => dig_lt (by decide) _ _ _ hx, by rw [dig_len]; omega⟩, bsm, s2, zc_zn, zc_zn, sv_false]
        have : vl (dig 4294967296 (max q.length [1].length + 1) (vl q + vl [1])) = a / b + 1 := by
          show val _ _ = _
          rw [val_dig, show vl [1] = 1 by decide, hq2, Nat.mod_eq_of_lt]
          have h1 : vl q < 4294967296 ^ q.length := val_lt q hq1.1
          rw [hq2] at h1
          have h2 : 4294967296 ^ q.length ≤ 4294967296 ^ (max q.length [1].length) := Nat.pow_le_pow_right (by decide) (by omega)
          have h3 : 0 < 4294967296 ^ (max q.length [1].length) := Nat.pow_pos (by decide)
          rw [Nat.pow_succ]; omega
        rw [this]
    have hz : (0 < (can 4294967296 (a % b)).length) ↔ 0 < a % b := by
      have := can_len0 (v := a % b); omega
    cases n
    · rw [cfm, bsm]
      exact hK false (by simp)
    · rw [ctm, bsm]
      refine hK _ ?_
      simp only [true_and]
      by_cases h : 0 < a % b
      · simp [h, hz.2 h]
      · have h' : ¬ 0 < (can 4294967296 (a % b)).length := fun e => h (hz.1 e)
        have h'' : ¬ ((0 : Int) < ((can 4294967296 (a % b)).length : Int)) := by omega
        simp only [h, h'', decide_false]
theorem gcd_eq {x y : Zr} (hx : Wl x) (hy : Wl y) : whole_GCD_m x y = some (zn (Int.gcd (zi x) (zi y) : Int)) := by
  obtain ⟨n, w⟩ := x
  obtain ⟨m, u⟩ := y
  unfold whole_GCD_m
  have hcx : (can 4294967296 (vl w)).length ≤ 100000000 := hx.cl
  have hcy : (can 4294967296 (vl u)).length ≤ 100000000 := hy.cl
  simp only []
  rw [show whole_trim_m w = some (can 4294967296 (vl w)) from hx.trim, show whole_trim_m u = some (can 4294967296 (vl u)) from hy.trim, bsm, bsm, Int.gcd, zi_abs, zi_abs]
  show _ = some (zn ((Nat.gcd (vl w) (vl u) : Nat) : Int))
  generalize vl w = a at *
  generalize vl u = b at *
  refine bind_loop (fun s => ∃ c d, s = (can 4294967296 c, can 4294967296 d) ∧ Nat.gcd c d = Nat.gcd a b ∧ (can 4294967296 c).length ≤ 100000000 ∧ (can 4294967296 d).length ≤ 100000000)
    (fun s => ∃ c d, s = (can 4294967296 c, can 4294967296 d) ∧ Nat.gcd c d = Nat.gcd a b ∧ (can 4294967296 c).length ≤ 100000000 ∧ (d = 0 ∨ (c < 18446744073709551616 ∧ d < 18446744073709551616))) (fun s => vl s.2) ?_ ⟨a, b, rfl, rfl, hcx, hcy⟩ ?_
  · rintro _ ⟨c, d, rfl, hg, hc, hd⟩
    simp only [bsm, letJ]
    by_cases h0 : d = 0
    · right
      subst h0
      exact ⟨_, rfl, c, 0, rfl, hg, hc, .inl rfl⟩
    · have hlen0 : (can 4294967296 d).length ≠ 0 := fun h => h0 (can_len0.1 h)
      rw [show decide ((0 : Int) < ((can 4294967296 d).length : Int)) = true by simp; omega, ctm]
      by_cases h2 : c < 18446744073709551616 ∧ d < 18446744073709551616
      · right
        have c1 := can_len2.2 h2.1
        have c2 := can_len2.2 h2.2
        rw [show decide ((2 : Int) < ((can 4294967296 c).length : Int)) = false by simp; omega, cfm, show decide ((2 : Int) < ((can 4294967296 d).length : Int)) = false by simp; omega]
        exact ⟨_, rfl, c, d, rfl, hg, hc, .inr h2⟩
      · left
        have hm : c % d < d := Nat.mod_lt _ (by omega)
        obtain ⟨q, r, hqr, hq1, hq2, hr1, hr2, -, -⟩ := divWords_eq c d hc hd h0
        have hcond : ((bif decide ((2 : Int) < ((can 4294967296 c).length : Int)) then some true else some (decide ((2 : Int) < ((can 4294967296 d).length : Int)))) : Option Bool) = some true := by
          by_cases hc2 : c < 18446744073709551616
          · have hd2 : ¬ d < 18446744073709551616 := fun h => h2 ⟨hc2, h⟩
            have : ¬ (((can 4294967296 d).length : Int) ≤ 2) := fun h => hd2 (can_len2.1 h)
            rw [show decide ((2 : Int) < ((can 4294967296 d).length : Int)) = true by simp; omega]
            exact bif_same _ _
          · have : ¬ (((can 4294967296 c).length : Int) ≤ 2) := fun h => hc2 (can_len2.1 h)
            rw [show decide ((2 : Int) < ((can 4294967296 c).length : Int)) = true by simp; omega, ctm]
        rw [hcond, bsm, bsm, ctm, hqr, bsm]
        simp only []
        rw [trim_eq r (by have := hr1.2; omega), trim_can (by decide) hr1.1, show val 4294967296 r = c % d from hr2, bsm]
        refine ⟨_, rfl, ⟨d, c % d, rfl, ?_, hd, ?_⟩, ?_⟩
        · rw [← hg, Nat.gcd_comm d, ← Nat.gcd_rec, Nat.gcd_comm]
        · exact Nat.le_trans ((can_len_iff (by decide)).2 (Nat.lt_trans hm (lt_can_len (by decide) d))) hd
        · simp only [vl_can]; exact hm
  · rintro _ ⟨c, d, rfl, hg, hc, hcase⟩
    simp only [bsm]
    by_cases h0 : d = 0
    · subst h0
      rw [show decide (((can 4294967296 0).length : Int) = 0) = true by simp [can_zero], ctm, clone_eq _ (by omega), bsm, build_eq _ _ (can_W32 (by omega)), bsm, vl_can, zc_zn, sv_false, ← hg, Nat.gcd_zero_right]
    · have h2 := hcase.resolve_left h0
      have hlen0 : (can 4294967296 d).length ≠ 0 := fun h => h0 (can_len0.1 h)
      have c1 := can_len2.2 h2.1
      have c2 := can_len2.2 h2.2
      rw [show decide (((can 4294967296 d).length : Int) = 0) = false by simp; intro e; rw [e] at hlen0; exact hlen0 rfl, cfm, low_eq _ (fun _ hx => can_lt (by decide) hx) (by omega), bsm, low_eq _ (fun _ hx => can_lt (by decide) hx) (by omega), bsm, vl_can, vl_can]
      refine bind_loop (fun s => Nat.gcd s.1 s.2 = Nat.gcd a b ∧ s.1 < 18446744073709551616 ∧ s.2 < 18446744073709551616) (fun e => e = Nat.gcd a b ∧ e < 18446744073709551616) (fun s => s.2) ?_ ⟨hg, h2.1, h2.2⟩ ?_
      · rintro ⟨s, t⟩ ⟨i1, i2, i3⟩
        simp only at i1 i2 i3 ⊢
        by_cases ht : 0 < t
        · left
          rw [show decide (0 < t) = true by simp [ht], ctm, urem_of (by omega), bsm]
          refine ⟨_, rfl, ⟨?_, i3, ?_⟩, Nat.mod_lt _ ht⟩
          · rw [← i1, Nat.gcd_comm t, ← Nat.gcd_rec, Nat.gcd_comm]
          · exact Nat.lt_trans (Nat.mod_lt _ ht) i3
        · right
          rw [show decide (0 < t) = false by simp [ht], cfm]
          refine ⟨_, rfl, ?_, i2⟩
          rw [← i1, show t = 0 by omega, Nat.gcd_zero_right]
      · rintro e ⟨rfl, he⟩
        rw [small_eq _ _ he, bsm, zc_zn, sv_false]
end Go.Proofs.Ytgkafblpckcekaa
namespace Go.Proofs.Ytgkafblpckcekaa
open Go.Fw
def zl (l : List Nat) : List Int := l.map (fun (n : Nat) => (n : Int))
theorem zl_len (l : List Nat) : (zl l).length = l.length := by simp [zl]
theorem zl_get {l : List Nat} {i x : Nat} (h : l[i]? = some x) : (zl l)[i]? = some (x : Int) := by simp [zl, h]
theorem zl_app (l k : List Nat) : zl (l ++ k) = zl l ++ zl k := by simp [zl]
theorem zl_one (x : Nat) : zl [x] = [(x : Int)] := rfl
theorem zl_take (l : List Nat) (n : Nat) : (zl l).take n = zl (l.take n) := by simp [zl, List.map_take]
theorem zl_set (l : List Nat) (i x : Nat) : (zl l).set i (x : Int) = zl (l.set i x) := by simp [zl, List.map_set]
def H16 (l : List Nat) : Prop := (∀ x ∈ l, x < 65536) ∧ l.length ≤ 1000000000
abbrev v16 (l : List Nat) : Nat := val 65536 l
theorem rtrim_eq (l : List Nat) (hl : l.length ≤ 1000000000000) : ref01_trim_m (zl l) = some (zl (trimW l)) := by
  unfold ref01_trim_m
  simp only [bsm]
  refine bind_loop (fun y => ∃ n : Nat, y = (n : Int) ∧ n ≤ l.length ∧ trimW (l.take n) = trimW l) (fun y => ∃ n : Nat, y = (n : Int) ∧ n ≤ l.length ∧ l.take n = trimW l) (fun y => y.toNat) ?_ ⟨l.length, by rw [zl_len], Nat.le_refl _, by rw [List.take_length]⟩ ?_
  · rintro _ ⟨n, rfl, hn, ht⟩
    simp only [letJ]
    rcases n with _ | n
    · right
      refine ⟨_, rfl, 0, rfl, by omega, ?_⟩
      rw [← ht]; rfl
    · have hi : ∃ x, l[n]? = some x := ⟨l[n], by simp⟩
      obtain ⟨x, hx⟩ := hi
      have htk : l.take (n + 1) = l.take n ++ [x] := by
        rw [List.take_add_one, hx]; rfl
      rw [show decide ((0 : Int) < ((n + 1 : Nat) : Int)) = true by rw [decide_eq_true_eq]; omega, ctm, w64_pred (by omega), geti_nat (zl_get hx), bsm]
      by_cases h0 : x = 0
      · left
        subst h0
        rw [show decide (((0 : Nat) : Int) = 0) = true by simp, bsm, ctm]
        refine ⟨_, rfl, ⟨n, rfl, by omega, ?_⟩, by omega⟩
        rw [← ht, htk, trimW_zero]
      · right
        rw [show decide (((x : Nat) : Int) = 0) = false by simp; omega, bsm, cfm]
        refine ⟨_, rfl, n + 1, rfl, hn, ?_⟩
        rw [← ht, htk, trimW_last _ h0]
  · rintro _ ⟨n, rfl, hn, ht⟩
    rw [subM_zero (by rw [zl_len]; exact hn), bsm, zl_take, ht]
theorem at_eq {l : List Nat} (h : ∀ x ∈ l, x < 65536) (i : Nat) : ref01_at_m (zl l) (i : Int) = some ((v16 l / 65536 ^ i % 65536 : Nat) : Int) := by
  unfold ref01_at_m
  simp only [bsm]
  rw [zl_len]
  by_cases hi : i < l.length
  · rw [show decide ((i : Int) < (l.length : Int)) = true by simp [hi], ctm, geti_nat (zl_get (get_val h hi)), bsm]
  · rw [show decide ((i : Int) < (l.length : Int)) = false by simp; omega, cfm]
    have : v16 l / 65536 ^ i = 0 := Nat.div_eq_of_lt (Nat.lt_of_lt_of_le (val_lt l h) (Nat.pow_le_pow_right (by decide) (by omega)))
    rw [this]; rfl
theorem val_halves (V k : Nat) : dig 65536 (2 * k) V ++ [V / 4294967296 ^ k % 4294967296 % 65536, V / 4294967296 ^ k % 4294967296 / 65536] = dig 65536 (2 * (k + 1)) V := by
  have e : 65536 ^ (2 * k) = 4294967296 ^ k := by rw [Nat.pow_mul]
  rw [show 2 * (k + 1) = 2 * k + 1 + 1 by omega, dig_succ, dig_succ, Nat.pow_succ, e, ← Nat.div_div_eq_div_mul, List.append_assoc]
  generalize V / 4294967296 ^ k = x
  rw [show x % 4294967296 % 65536 = x % 65536 by omega, show x % 4294967296 / 65536 = x / 65536 % 65536 by omega]
  rfl
theorem halves_eq (w : List Nat) (hw : W32 w) : ref01_halves_m w = some (zl (can 65536 (vl w))) := by
  obtain ⟨hl, hn⟩ := hw
  unfold ref01_halves_m
  refine bind_loop_to (fun i => ((i : Int), zl (dig 65536 (2 * i) (vl w)))) w.length (zl (dig 65536 (2 * w.length) (vl w))) ?_ (fun k hk => ?_) ?_ ?_
  · rfl
  · have hg := get_val hl hk
    have hlt := Nat.mod_lt (val 4294967296 w / 4294967296 ^ k) (show 0 < 4294967296 by decide)
    have hv := val_halves (vl w) k
    simp only [bsm]
    rw [show decide ((k : Int) < (w.length : Int)) = true by simp [hk], ctm, geti_nat hg, bsm, bsm, w64_nat (by omega), w64_nat (by omega), apMl (by decide) (by rw [zl_len, dig_len]; simp; omega), bsm, w64_succ (by omega)]
    rw [← hv, zl_app]
    rw [show val 4294967296 w / 4294967296 ^ k % 4294967296 / 65536 % 4294967296 = val 4294967296 w / 4294967296 ^ k % 4294967296 / 65536 by omega]
    rfl
  · simp
  · rw [rtrim_eq _ (by rw [dig_len]; omega), bsm, trim_dig (by decide)]
    rw [Nat.pow_mul]; exact val_lt w hl
theorem pow16 (k : Nat) : 65536 ^ (2 * k) = 4294967296 ^ k := by rw [Nat.pow_mul]
theorem can_halves (v : Nat) : can 4294967296 v = dig 4294967296 (((can 65536 v).length + 1) / 2) v := by
  have h1 := lt_can_len (B := 65536) (by decide) v
  obtain ⟨n, hn⟩ : ∃ n, (can 65536 v).length = n := ⟨_, rfl⟩
  rw [hn] at h1 ⊢
  have h2 : v < 4294967296 ^ ((n + 1) / 2) := by
    rw [← pow16]; exact Nat.lt_of_lt_of_le h1 (Nat.pow_le_pow_right (by decide) (by omega))
  rw [can_dig (by decide) v]
  congr 1
  have h3 := (can_len_iff (B := 4294967296) (by decide)).2 h2
  refine Nat.le_antisymm h3 ?_
  rcases n with _ | n
  · simp
  · have h4 : 65536 ^ n ≤ v := pow_le_of_can (by decide) (by omega)
    obtain ⟨m, hm⟩ : ∃ m, (n + 1 + 1) / 2 = m + 1 := ⟨n / 2, by omega⟩
    rw [hm]
    rcases Nat.lt_or_ge m (can 4294967296 v).length with h | h
    · exact h
    · have h5 := (can_len_iff (B := 4294967296) (by decide)).1 h
      rw [← pow16] at h5
      have : 65536 ^ (2 * m) ≤ 65536 ^ n := Nat.pow_le_pow_right (by decide) (by omega)
      omega
theorem of_eq (n : Bool) (l : List Nat) (hl : H16 l) : ref01_of_m n (zl l) = some (zc n (v16 l)) := by
  obtain ⟨h, hn⟩ := hl
  unfold ref01_of_m
  rw [rtrim_eq _ (by omega), bsm, trim_can (by decide) h]
  have hc : (can 65536 (val 65536 l)).length ≤ l.length := (can_len_iff (by decide)).2 (val_lt l h)
  show _ = some (zc n (val 65536 l))
  generalize val 65536 l = v at *
  have hcl : ∀ x ∈ can 65536 v, x < 65536 := fun _ hx => can_lt (by decide) hx
  have hat := fun i => at_eq hcl i
  refine bind_loop_to (fun i => (((2 * i : Nat) : Int), dig 4294967296 i v)) (((can 65536 v).length + 1) / 2) (can 4294967296 v) ?_ (fun k hk => ?_) ?_ ?_
  · rfl
  · have a1 := hat (2 * k)
    have a2 := hat (2 * k + 1)
    rw [show v16 (can 65536 v) = v from val_can (by decide) v] at a1 a2
    rw [pow16] at a1
    rw [Nat.pow_succ, pow16, ← Nat.div_div_eq_div_mul] at a2
    simp only [bsm]
    rw [zl_len, show decide (((2 * k : Nat) : Int) < ((can 65536 v).length : Int)) = true by simp; omega, ctm, a1, bsm, w64_succ (by omega), a2, bsm]
    rw [dig_succ]
    have e : ((((v / 4294967296 ^ k % 65536 : Nat) : Int) % 4294967296).toNat + (((v / 4294967296 ^ k / 65536 % 65536 : Nat) : Int) % 4294967296).toNat * 65536 % 4294967296) % 4294967296 = v / 4294967296 ^ k % 4294967296 := by
      generalize v / 4294967296 ^ k = x
      omega
    rw [e, apM1 (by decide) (by rw [dig_len]; omega), bsm, show ((2 * k : Nat) : Int) + 2 = ((2 * (k + 1) : Nat) : Int) by omega, w64_nat (by omega)]
  · simp only [bsm]
    rw [zl_len, show decide (((2 * (((can 65536 v).length + 1) / 2) : Nat) : Int) < ((can 65536 v).length : Int)) = false by simp; omega, cfm, ← can_halves]
  · simp only [letJ]
    rw [zc]
    have hz := can_len0 (v := v)
    cases n
    · rw [cfm, bsm]; rfl
    · rw [ctm, bsm, bsm, bsm]
      congr 2
      by_cases h0 : v = 0
      · rw [h0]; rfl
      · have : ¬ (can 4294967296 v).length = 0 := fun e => h0 (hz.1 e)
        rw [show decide ((0 : Int) < ((can 4294967296 v).length : Int)) = true by rw [decide_eq_true_eq]; omega, show (true && v != 0) = true by simp [h0]]
theorem of_can (n : Bool) (v : Nat) (hl : (can 65536 v).length ≤ 1000000000) : ref01_of_m n (zl (can 65536 v)) = some (zn (sv n v)) := by
  rw [of_eq n _ ⟨fun _ hx => can_lt (by decide) hx, hl⟩, show v16 (can 65536 v) = v from val_can (by decide) v, zc_zn]
theorem can16_len {w : List Nat} (hw : ∀ x ∈ w, x < 4294967296) : (can 65536 (vl w)).length ≤ 2 * w.length := by
  apply (can_len_iff (by decide)).2
  rw [pow16]; exact val_lt w hw
theorem halves_of {x : Zr} (h : Wl x) : ref01_halves_m x.w = some (zl (can 65536 (zi x).natAbs)) := by
  rw [zi_abs]; exact halves_eq _ ⟨h.1, by have := h.2; omega⟩
theorem Wl.c16 {x : Zr} (h : Wl x) : (can 65536 (zi x).natAbs).length ≤ 200000000 := by
  rw [zi_abs]; have := can16_len h.1; have := h.2; omega
theorem least_eq {x : Zr} (h : Wl x) : ref01_Least_m x = some (zn (zi x)) := by
  obtain ⟨n, w⟩ := x
  have h1 := halves_of h
  have h2 := h.c16
  unfold ref01_Least_m
  simp only []
  rw [show ref01_halves_m w = _ from h1, bsm, of_can _ _ (by omega), bsm, zi_abs]
  rfl
theorem same_eq {x y : Zr} (h : x.w.length ≤ 1000000000) : ∃ b, ref01_Same_m x y = some b ∧ (b = true ↔ x = y) := by
  obtain ⟨n, w⟩ := x
  obtain ⟨m, u⟩ := y
  unfold ref01_Same_m
  simp only [bsm, letJ]
  by_cases hnm : n = m
  · subst hnm
    rw [show (!(n == n)) = false by simp, cfm, bsm]
    by_cases hl : w.length = u.length
    · rw [show decide ((w.length : Int) ≠ (u.length : Int)) = false by simp [hl], cfm]
      refine bind_loop_ex (fun y => ∃ i : Nat, y = (i : Int) ∧ i ≤ w.length ∧ w.take i = u.take i) (fun e => (∃ c, e = .inl c ∧ w = u) ∨ (e = .inr false ∧ w ≠ u)) (fun y => w.length - y.toNat) ?_ ⟨0, rfl, by omega, rfl⟩ ?_
      · rintro _ ⟨i, rfl, hi, ht⟩
        by_cases hlt : i < w.length
        · have g1 : w[i]? = some w[i] := by simp
          have g2 : u[i]? = some (u[i]'(by omega)) := by simp
          rw [show decide ((i : Int) < (w.length : Int)) = true by simp [hlt], ctm, geti_nat g1, bsm, geti_nat g2, bsm]
          by_cases he : w[i] = u[i]'(by omega)
          · left
            rw [show decide (w[i] ≠ u[i]'(by omega)) = false by simp [he], cfm, w64_succ (by simp at h; omega)]
            refine ⟨_, rfl, ⟨i + 1, rfl, hlt, ?_⟩, by omega⟩
            rw [List.take_add_one, List.take_add_one, ht, g1, g2, he]
          · right
            rw [show decide (w[i] ≠ u[i]'(by omega)) = true by simp [he], ctm]
            refine ⟨_, rfl, .inr ⟨rfl, ?_⟩⟩
            rintro rfl; exact he rfl
        · right
          rw [show decide ((i : Int) < (w.length : Int)) = false by simp; omega, cfm]
          refine ⟨_, rfl, .inl ⟨_, rfl, ?_⟩⟩
          rw [List.take_of_length_le (by omega), List.take_of_length_le (by omega)] at ht
          exact ht
      · rintro e (⟨c, rfl, he⟩ | ⟨rfl, he⟩)
        · exact ⟨true, rfl, by simp [he]⟩
        · exact ⟨false, rfl, by simp [he]⟩
    · rw [show decide ((w.length : Int) ≠ (u.length : Int)) = true by simp; omega, ctm]
      refine ⟨_, rfl, ?_⟩
      simp only [Bool.false_eq_true, false_iff]
      intro e
      have : w = u := congrArg Zr.w e
      exact hl (by rw [this])
  · rw [show (!(n == m)) = true by simp [hnm], ctm, bsm, ctm]
    refine ⟨_, rfl, ?_⟩
    simp only [Bool.false_eq_true, false_iff]
    intro e
    exact hnm (congrArg Zr.neg e)
theorem same_refl {x : Zr} (h : x.w.length ≤ 1000000000) : ref01_Same_m x x = some true := by
  obtain ⟨b, h1, h2⟩ := same_eq (y := x) h
  rw [h1, h2.2 rfl]
theorem from_eq {x : Int} (h : i64ok x) : ref01_From_m x = some (zn x) := by
  unfold i64ok at h
  have key : ∀ (v : Nat) (n : Bool), v < 18446744073709551616 → ((ref01_Least_m ⟨n, [v % 4294967296 % 4294967296, v / 4294967296 % 18446744073709551616 % 4294967296]⟩).bind fun x => some (⟨x.neg, x.w⟩ : Zr)) = some (zn (sv n v)) := by
    intro v n hv
    rw [least_eq ⟨by simp; omega, by simp⟩, bsm]
    show some (zn (sv n (vl _))) = _
    congr 3
    simp only [vl, val]
    omega
  unfold ref01_From_m
  simp only [bsm, letJ]
  by_cases hx : x < 0
  · have e : (x % 18446744073709551616).toNat = 18446744073709551616 - x.natAbs := by omega
    rw [show decide (x < 0) = true by simp [hx], ctm, e, usub_lt (by omega) (by omega), show 18446744073709551616 + 0 - (18446744073709551616 - x.natAbs) = x.natAbs by omega, key _ _ (by omega), show sv true x.natAbs = x by simp [sv]; omega]
  · have e : (x % 18446744073709551616).toNat = x.natAbs := by omega
    rw [show decide (x < 0) = false by simp [hx], cfm, e, key _ _ (by omega), show sv false x.natAbs = x by simp [sv]; omega]
end Go.Proofs.Ytgkafblpckcekaa
namespace Go.Proofs.Ytgkafblpckcekaa
open Go.Fw
theorem v16_lt {l : List Nat} (h : H16 l) : v16 l < 65536 ^ l.length := val_lt l h.1
theorem tm {a : Nat} : Int.tmod (a : Int) 65536 = ((a % 65536 : Nat) : Int) := by
  rw [Int.tmod_eq_emod_of_nonneg (by omega)]; omega
theorem td {a : Nat} : Int.tdiv (a : Int) 65536 = ((a / 65536 : Nat) : Int) := by
  rw [Int.tdiv_eq_ediv_of_nonneg (by omega)]; omega
theorem rcmp_eq (l k : List Nat) (hl : H16 l) (hk : H16 k) : ref01_cmp_m (zl l) (zl k) = some (cmpN (v16 l) (v16 k)) := by
  unfold ref01_cmp_m
  simp only [bsm]
  rw [zl_len, zl_len, show max (l.length : Int) (k.length : Int) = ((max l.length k.length : Nat) : Int) by omega, w64_id (by have := hl.2; have := hk.2; omega) (by have := hl.2; have := hk.2; omega)]
  have h1 : v16 l < 65536 ^ (max l.length k.length) := Nat.lt_of_lt_of_le (v16_lt hl) (Nat.pow_le_pow_right (by decide) (by omega))
  have h2 : v16 k < 65536 ^ (max l.length k.length) := Nat.lt_of_lt_of_le (v16_lt hk) (Nat.pow_le_pow_right (by decide) (by omega))
  have hm : max l.length k.length ≤ 1000000000 := by have := hl.2; have := hk.2; omega
  have a1 := at_eq hl.1
  have a2 := at_eq hk.1
  generalize v16 l = V at *
  generalize v16 k = W at *
  generalize max l.length k.length = n at *
  refine bind_loop (fun y => ∃ m : Nat, y = (m : Int) - 1 ∧ m ≤ n ∧ V / 65536 ^ m = W / 65536 ^ m) (fun e => (∃ c, e = .inl c ∧ V = W) ∨ e = .inr (cmpN V W)) (fun y => (y + 1).toNat) ?_ ⟨n, rfl, Nat.le_refl _, by rw [Nat.div_eq_of_lt h1, Nat.div_eq_of_lt h2]⟩ ?_
  · rintro _ ⟨m, rfl, hmn, he⟩
    rcases m with _ | m
    · right
      refine ⟨_, rfl, .inl ⟨_, rfl, ?_⟩⟩
      simpa using he
    · rw [show ((m + 1 : Nat) : Int) - 1 = (m : Int) by omega, show decide ((0 : Int) ≤ (m : Int)) = true by simp, ctm, a1, bsm, a2, bsm]
      rcases dig_cases he with ⟨hd, hq⟩ | ⟨hd, hlt⟩ | ⟨hd, hlt⟩
      · left
        rw [hd, show decide (((W / 65536 ^ m % 65536 : Nat) : Int) < ((W / 65536 ^ m % 65536 : Nat) : Int)) = false by simp, cfm, bsm, bsm, show decide (((W / 65536 ^ m % 65536 : Nat) : Int) < ((W / 65536 ^ m % 65536 : Nat) : Int)) = false by simp, cfm, w64_id (by omega) (by omega)]
        exact ⟨_, rfl, ⟨m, rfl, by omega, hq⟩, by omega⟩
      · right
        rw [show decide (((V / 65536 ^ m % 65536 : Nat) : Int) < ((W / 65536 ^ m % 65536 : Nat) : Int)) = true by rw [decide_eq_true_eq]; omega, ctm]
        exact ⟨_, rfl, .inr (by rw [cmpN_lt hlt])⟩
      · right
        rw [show decide (((V / 65536 ^ m % 65536 : Nat) : Int) < ((W / 65536 ^ m % 65536 : Nat) : Int)) = false by rw [decide_eq_false_iff_not]; omega, cfm, bsm, bsm, show decide (((W / 65536 ^ m % 65536 : Nat) : Int) < ((V / 65536 ^ m % 65536 : Nat) : Int)) = true by rw [decide_eq_true_eq]; omega, ctm]
        exact ⟨_, rfl, .inr (by rw [cmpN_gt hlt])⟩
  · rintro e (⟨c, rfl, rfl⟩ | rfl)
    · rw [cmpN_eq]
    · rfl
theorem radd_eq (l k : List Nat) (hl : H16 l) (hk : H16 k) : ref01_add_m (zl l) (zl k) = some (zl (can 65536 (v16 l + v16 k))) := by
  unfold ref01_add_m
  have h1 : v16 l < 65536 ^ (max l.length k.length) := Nat.lt_of_lt_of_le (v16_lt hl) (Nat.pow_le_pow_right (by decide) (by omega))
  have h2 : v16 k < 65536 ^ (max l.length k.length) := Nat.lt_of_lt_of_le (v16_lt hk) (Nat.pow_le_pow_right (by decide) (by omega))
  have hm : max l.length k.length ≤ 1000000000 := by have := hl.2; have := hk.2; omega
  have a1 := at_eq hl.1
  have a2 := at_eq hk.1
  rw [zl_len, zl_len]
  generalize v16 l = V at *
  generalize v16 k = W at *
  refine bind_loop (fun s => ∃ i : Nat, s = (((cry 65536 V W i : Nat) : Int), (i : Int), zl (dig 65536 i (V + W))) ∧ i ≤ max l.length k.length + 1) (fun e => ∃ i, e = zl (dig 65536 i (V + W)) ∧ V + W < 65536 ^ i ∧ i ≤ max l.length k.length + 1) (fun s => max l.length k.length + 1 - s.2.1.toNat) ?_ ⟨0, by rw [cry_zero]; rfl, by omega⟩ ?_
  · rintro _ ⟨i, rfl, hi⟩
    have hc := cry_le (B := 65536) (by decide) V W i
    have hs1 := cry_step (B := 65536) (by decide) V W i
    have hs2 := cry_dig (B := 65536) (by decide) V W i
    have d1 := Nat.mod_lt (V / 65536 ^ i) (show 0 < 65536 by decide)
    have d2 := Nat.mod_lt (W / 65536 ^ i) (show 0 < 65536 by decide)
    simp only [bsm, letJ]
    have hcond : ∀ (K : Bool → Option ((Int × Int × List Int) ⊕ List Int)), (((bif decide ((i : Int) < (l.length : Int)) then some true else some (decide ((i : Int) < (k.length : Int)))) : Option Bool).bind fun c => ((bif c then some true else some (decide ((0 : Int) < ((cry 65536 V W i : Nat) : Int)))) : Option Bool).bind K) = K (decide (i < max l.length k.length ∨ 0 < cry 65536 V W i)) := by
      intro K
      by_cases q1 : i < l.length
      · have : i < max l.length k.length := by omega
        simp [q1, this]
      · by_cases q2 : i < k.length
        · have : i < max l.length k.length := by omega
          simp [q1, q2, this]
        · have : ¬ i < max l.length k.length := by omega
          simp [q1, q2, this]
    rw [hcond]
    by_cases hgo : i < max l.length k.length ∨ 0 < cry 65536 V W i
    · left
      have hi' : i < max l.length k.length + 1 := by
        rcases Nat.lt_or_ge i (max l.length k.length + 1) with h | h
        · exact h
        · have hie : i = max l.length k.length + 1 := by omega
          have hp : 65536 ^ i = 65536 ^ (max l.length k.length) * 65536 := by rw [hie, Nat.pow_succ]
          have g3 := cry_end (B := 65536) (V := V) (W := W) (k := i) (by omega) (by omega)
          rw [Nat.div_eq_of_lt (by omega)] at g3
          omega
      rw [show decide (i < max l.length k.length ∨ 0 < cry 65536 V W i) = true by rw [decide_eq_true_eq]; exact hgo, ctm, a1, bsm, a2, bsm, w64_add (by omega), w64_add (by omega), tm, td, hs1, hs2, apM1 (by decide) (by rw [zl_len, dig_len]; omega), bsm, w64_nat (by have := cry_le (B := 65536) (by decide) V W (i + 1); omega), w64_succ (by omega)]
      refine ⟨_, rfl, ⟨i + 1, ?_, by omega⟩, by simp only []; omega⟩
      rw [dig_succ, zl_app, zl_one]
    · right
      rw [show decide (i < max l.length k.length ∨ 0 < cry 65536 V W i) = false by rw [decide_eq_false_iff_not]; exact hgo, cfm]
      refine ⟨_, rfl, i, rfl, ?_, hi⟩
      have g1 : V < 65536 ^ i := Nat.lt_of_lt_of_le h1 (Nat.pow_le_pow_right (by decide) (by omega))
      have g2 : W < 65536 ^ i := Nat.lt_of_lt_of_le h2 (Nat.pow_le_pow_right (by decide) (by omega))
      have g3 := cry_end (B := 65536) g1 g2
      rcases Nat.lt_or_ge (V + W) (65536 ^ i) with h | h
      · exact h
      · have := Nat.div_pos h (Nat.pow_pos (by decide)); omega
  · rintro _ ⟨i, rfl, hlt, hi⟩
    rw [rtrim_eq _ (by rw [dig_len]; omega), bsm, trim_dig (by decide) hlt]
theorem rsub_eq (l k : List Nat) (hl : H16 l) (hk : H16 k) (hle : v16 k ≤ v16 l) : ref01_sub_m (zl l) (zl k) = some (zl (can 65536 (v16 l - v16 k))) := by
  unfold ref01_sub_m
  have h1 := v16_lt hl
  have hm := hl.2
  have a1 := at_eq hl.1
  have a2 := at_eq hk.1
  rw [zl_len]
  generalize v16 l = V at *
  generalize v16 k = W at *
  refine bind_loop_to (fun i => (((1 - lnd 65536 V W i : Nat) : Int), (i : Int), zl (dig 65536 i (V - W)))) l.length (zl (dig 65536 l.length (V - W))) ?_ (fun i hi => ?_) ?_ ?_
  · rw [lnd_zero]; rfl
  · have hc := lnd_le (B := 65536) (by decide) V W i
    have hs1 := lnd_step (B := 65536) (by decide) V W i
    have hs2 := lnd_dig (B := 65536) (by decide) hle i
    have d1 := Nat.mod_lt (V / 65536 ^ i) (show 0 < 65536 by decide)
    have d2 := Nat.mod_lt (W / 65536 ^ i) (show 0 < 65536 by decide)
    simp only [bsm, letJ]
    rw [show decide ((i : Int) < (l.length : Int)) = true by simp [hi], ctm, a1, bsm, a2, bsm]
    rw [← hs1, dig_succ, zl_app, zl_one, ← hs2]
    generalize V / 65536 ^ i % 65536 = a at *
    generalize W / 65536 ^ i % 65536 = b at *
    generalize lnd 65536 V W i = c at *
    rw [w64_id (x := (a : Int) - (b : Int)) (by omega) (by omega), w64_id (x := (a : Int) - (b : Int) - ((1 - c : Nat) : Int)) (by omega) (by omega)]
    by_cases hn : (a : Int) - (b : Int) - ((1 - c : Nat) : Int) < 0
    · rw [show decide ((a : Int) - (b : Int) - ((1 - c : Nat) : Int) < 0) = true by rw [decide_eq_true_eq]; exact hn, ctm, w64_id (by omega) (by omega), apM1 (by decide) (by rw [zl_len, dig_len]; omega), bsm, w64_succ (by omega)]
      rw [show (a : Int) - (b : Int) - ((1 - c : Nat) : Int) + 65536 = (((a + (65536 - 1 - b) + c) % 65536 : Nat) : Int) by omega, show (1 - (a + (65536 - 1 - b) + c) / 65536) = 1 by omega]
      rfl
    · rw [show decide ((a : Int) - (b : Int) - ((1 - c : Nat) : Int) < 0) = false by rw [decide_eq_false_iff_not]; exact hn, cfm, apM1 (by decide) (by rw [zl_len, dig_len]; omega), bsm, w64_succ (by omega)]
      rw [show (a : Int) - (b : Int) - ((1 - c : Nat) : Int) = (((a + (65536 - 1 - b) + c) % 65536 : Nat) : Int) by omega, show (1 - (a + (65536 - 1 - b) + c) / 65536) = 0 by omega]
      rfl
  · simp
  · rw [rtrim_eq _ (by rw [dig_len]; omega), bsm, trim_dig (by decide) (by omega)]
theorem rsmall_eq (l : List Nat) (hl : ∀ x ∈ l, x < 65536) (hn : l.length ≤ 3) : ref01_small_m (zl l) = some ((v16 l : Nat) : Int) := by
  unfold ref01_small_m
  simp only [bsm]
  have hV : v16 l < 65536 ^ l.length := val_lt l hl
  have hp : 65536 ^ l.length ≤ 65536 ^ 3 := Nat.pow_le_pow_right (by decide) hn
  rw [show (65536 : Nat) ^ 3 = 281474976710656 by decide] at hp
  rw [zl_len, w64_id (by omega) (by omega)]
  refine bind_loop_to (fun j => (((v16 l / 65536 ^ (l.length - j) : Nat) : Int), (l.length : Int) - 1 - (j : Int))) l.length ((v16 l : Nat) : Int) ?_ (fun j hj => ?_) ?_ rfl
  · rw [show l.length - 0 = l.length by omega, Nat.div_eq_of_lt hV]; simp
  · obtain ⟨m, hm⟩ : ∃ m, l.length = m + j + 1 := ⟨l.length - j - 1, by omega⟩
    have hg := get_val hl (i := m) (by omega)
    have hst := div_step 65536 (v16 l) m
    have hdl : v16 l / 65536 ^ m ≤ v16 l := Nat.div_le_self _ _
    rw [show l.length - j = m + 1 by omega, show l.length - (j + 1) = m by omega, show (l.length : Int) - 1 - (j : Int) = (m : Int) by omega, show (l.length : Int) - 1 - ((j + 1 : Nat) : Int) = (m : Int) - 1 by omega]
    have hd := Nat.mod_lt (v16 l / 65536 ^ m) (show 0 < 65536 by decide)
    simp only []
    rw [show decide ((0 : Int) ≤ (m : Int)) = true by simp, ctm, geti_nat (zl_get hg), bsm]
    generalize v16 l / 65536 ^ (m + 1) = c at *
    generalize v16 l / 65536 ^ m = d at *
    rw [w64_id (x := (c : Int) * 65536) (by omega) (by omega), w64_id (x := (c : Int) * 65536 + ((d % 65536 : Nat) : Int)) (by omega) (by omega), w64_id (x := (m : Int) - 1) (by omega) (by omega), show (c : Int) * 65536 + ((d % 65536 : Nat) : Int) = (d : Int) by omega]
  · simp only []
    rw [show decide ((0 : Int) ≤ (l.length : Int) - 1 - (l.length : Int)) = false by rw [decide_eq_false_iff_not]; omega, cfm, Nat.sub_self, Nat.pow_zero, Nat.div_one]
theorem rback_eq (x : Nat) (hx : x < 281474976710656) : ref01_back_m (x : Int) = some (zl (can 65536 x)) := by
  unfold ref01_back_m
  simp only [bsm]
  rw [tm, td, w64_nat (by omega), tm, td, w64_nat (by omega)]
  have : [((x % 65536 : Nat) : Int), ((x / 65536 % 65536 : Nat) : Int), ((x / 65536 / 65536 : Nat) : Int)] = zl [x % 65536, x / 65536 % 65536, x / 65536 / 65536] := rfl
  rw [this, rtrim_eq _ (by simp), bsm, trim_can (B := 65536) (by decide) (by intro y hy; simp at hy; omega)]
  congr 3
  simp [val]
  omega
theorem rtimes_eq (l : List Nat) (f : Nat) (hl : H16 l) (hf : f < 65536) : ref01_times_m (zl l) (f : Int) = some (zl (can 65536 (v16 l * f))) := by
  unfold ref01_times_m
  have h1 := v16_lt hl
  have hm := hl.2
  have a1 := at_eq hl.1
  rw [zl_len]
  generalize v16 l = V at *
  have hcl := fun i => sC_lt (B := 65536) (V := V) (f := f) (e := 0) (by decide) hf (by decide) i
  refine bind_loop (fun s => ∃ i : Nat, s = (((sC 65536 V f 0 i : Nat) : Int), (i : Int), zl (dig 65536 i (V * f))) ∧ i ≤ l.length + 1) (fun e => ∃ i, e = zl (dig 65536 i (V * f)) ∧ V * f < 65536 ^ i ∧ i ≤ l.length + 1) (fun s => l.length + 1 - s.2.1.toNat) ?_ ⟨0, by rw [sC_zero]; rfl, by omega⟩ ?_
  · rintro _ ⟨i, rfl, hi⟩
    have hc := hcl i
    have hc1 := hcl (i + 1)
    have hs1 := sC_step (B := 65536) (by decide) V f 0 i
    have hs2 := sC_dig (B := 65536) (by decide) V f 0 i
    have d1 := Nat.mod_lt (V / 65536 ^ i) (show 0 < 65536 by decide)
    have hp : V / 65536 ^ i % 65536 * f ≤ 65535 * 65535 := Nat.mul_le_mul (by omega) (by omega)
    rw [Nat.add_zero] at hs2
    simp only [bsm, letJ]
    have hcond : ∀ (K : Bool → Option ((Int × Int × List Int) ⊕ List Int)), (((bif decide ((i : Int) < (l.length : Int)) then some true else some (decide ((0 : Int) < ((sC 65536 V f 0 i : Nat) : Int)))) : Option Bool).bind K) = K (decide (i < l.length ∨ 0 < sC 65536 V f 0 i)) := by
      intro K
      by_cases q1 : i < l.length
      · simp [q1]
      · simp [q1]
    rw [hcond]
    by_cases hgo : i < l.length ∨ 0 < sC 65536 V f 0 i
    · left
      have hi' : i < l.length + 1 := by
        rcases Nat.lt_or_ge i (l.length + 1) with h | h
        · exact h
        · have hie : i = l.length + 1 := by omega
          have g3 := sC_end (B := 65536) (V := V) (f := f) (e := 0) (i := i) (Nat.lt_of_lt_of_le h1 (Nat.pow_le_pow_right (by decide) (by omega)))
          rw [Nat.add_zero, Nat.div_eq_of_lt] at g3
          · omega
          · rw [hie, Nat.pow_succ]; exact Nat.mul_lt_mul'' h1 hf
      rw [show decide (i < l.length ∨ 0 < sC 65536 V f 0 i) = true by rw [decide_eq_true_eq]; exact hgo, ctm, a1, bsm, ← Int.natCast_mul, w64_nat (by omega), w64_add (by omega), tm, td, hs1, hs2, apM1 (by decide) (by rw [zl_len, dig_len]; omega), bsm, w64_nat (by omega), w64_succ (by omega)]
      refine ⟨_, rfl, ⟨i + 1, ?_, by omega⟩, by simp only []; omega⟩
      rw [dig_succ, zl_app, zl_one]
    · right
      rw [show decide (i < l.length ∨ 0 < sC 65536 V f 0 i) = false by rw [decide_eq_false_iff_not]; exact hgo, cfm]
      refine ⟨_, rfl, i, rfl, ?_, hi⟩
      have g3 := sC_end (B := 65536) (V := V) (f := f) (e := 0) (i := i) (Nat.lt_of_lt_of_le h1 (Nat.pow_le_pow_right (by decide) (by omega)))
      rw [Nat.add_zero] at g3
      rcases Nat.lt_or_ge (V * f) (65536 ^ i) with h | h
      · exact h
      · have := Nat.div_pos h (Nat.pow_pos (by decide)); omega
  · rintro _ ⟨i, rfl, hlt, hi⟩
    rw [rtrim_eq _ (by rw [dig_len]; omega), bsm, trim_dig (by decide) hlt]
end Go.Proofs.Ytgkafblpckcekaa
namespace Go.Proofs.Ytgkafblpckcekaa
open Go.Fw
theorem v16_can (v : Nat) : v16 (can 65536 v) = v := val_can (by decide) v
theorem h16_can {v n : Nat} (h : v < 65536 ^ n) (hn : n ≤ 1000000000) : H16 (can 65536 v) := ⟨fun _ hx => can_lt (by decide) hx, Nat.le_trans ((can_len_iff (by decide)).2 h) hn⟩
end Go.Proofs.Ytgkafblpckcekaa
namespace Go.Proofs.Ytgkafblpckcekaa
open Go.Fw
theorem td2 {a : Nat} : Int.tdiv (a : Int) 2 = ((a / 2 : Nat) : Int) := by
  rw [Int.tdiv_eq_ediv_of_nonneg (by omega)]; omega
theorem cmpN_le (a b : Nat) : decide (cmpN a b ≤ 0) = decide (a ≤ b) := by
  rcases Nat.lt_trichotomy a b with h | h | h
  · rw [cmpN_lt h]; simp; omega
  · rw [h, cmpN_eq]; simp
  · rw [cmpN_gt h]; simp; omega
theorem rq_dig {B : Nat} (hB : 0 < B) {d : Nat} (hd : 0 < d) (V m : Nat) : (V / B ^ (m + 1) % d * B + V / B ^ m % B) / d = V / d / B ^ m % B := by
  have h1 := q_div (B := B) hd V m
  have h2 := q_lt (B := B) hB hd V m
  rw [Nat.div_div_eq_div_mul V d, Nat.mul_comm d, ← Nat.div_div_eq_div_mul, h1, Nat.mul_add_mod]
  symm
  apply Nat.mod_eq_of_lt
  rw [Nat.div_lt_iff_lt_mul hd, Nat.mul_comm B d]; exact h2
theorem iquo_nat {a b : Nat} (h : b ≠ 0) (ha : a ≤ 9223372036854775807) : iquo (a : Int) (b : Int) = some ((a / b : Nat) : Int) := by
  unfold iquo
  rw [if_neg (by omega), Int.tdiv_eq_ediv_of_nonneg (by omega), ← Int.natCast_ediv, w64_nat (Nat.le_trans (Nat.div_le_self _ _) ha)]
theorem irem_nat {a b : Nat} (h : b ≠ 0) : irem (a : Int) (b : Int) = some ((a % b : Nat) : Int) := by
  unfold irem
  rw [if_neg (by omega), Int.tmod_eq_emod_of_nonneg (by omega), ← Int.natCast_emod]
theorem zl_zeros (n : Nat) : List.replicate n (0 : Int) = zl (dig 65536 n 0) := by rw [dig_zero, zl, List.map_replicate]; rfl
theorem halve_eq {W X : Nat} (hW : 0 < W) {k : List Nat} (hk : H16 k) (hkv : v16 k = W) {xs : List Nat} (hx : H16 xs) (hxv : v16 xs = X) (H : Nat) (hH : 0 < H) (hH2 : H ≤ 65536) (hXH : X < H * W) {R : Type} (f : Int → Option R) (r : R) (hf : f ((X / W : Nat) : Int) = some r) (hkl : k.length ≤ 900000000) :
    (loopM (fun (s54 : Int × Int) =>
                              match s54 with
                              | ⟨y11l50, y12l50⟩ =>
                                (show Option ((Int × Int) ⊕ (Int)) from
                                  (bif (decide ((1 : Int) < (IntKind.i64.wrap (y12l50 - y11l50)))) then
                                      (ref01_times_m (zl k) (IntKind.i64.wrap (Int.tdiv (IntKind.i64.wrap (y11l50 + y12l50)) 2))).bind fun x102 =>
                                      (ref01_cmp_m x102 (zl xs)).bind fun x104 =>
                                      (bif (decide ((x104 : Int) ≤ 0)) then
                                          some (.inl (IntKind.i64.wrap (Int.tdiv (IntKind.i64.wrap (y11l50 + y12l50)) 2), y12l50))
                                        else
                                          some (.inl (y11l50, IntKind.i64.wrap (Int.tdiv (IntKind.i64.wrap (y11l50 + y12l50)) 2))))
                                    else
                                      some (.inr y11l50)))) ((0 : Int), (H : Int))).bind f = some r := by
  refine bind_loop (fun s => ∃ lo hi : Nat, s = ((lo : Int), (hi : Int)) ∧ lo < hi ∧ hi ≤ 65536 ∧ lo * W ≤ X ∧ X < hi * W) (fun e => e = ((X / W : Nat) : Int)) (fun s => (s.2 - s.1).toNat) ?_ ⟨0, H, rfl, hH, hH2, by simp, hXH⟩ (fun e he => by rw [he]; exact hf)
  rintro _ ⟨lo, hi, rfl, h1, h2, h3, h4⟩
  simp only []
  rw [w64_id (x := (hi : Int) - (lo : Int)) (by omega) (by omega)]
  by_cases hgo : 1 < hi - lo
  · left
    obtain ⟨mid, hmid⟩ : ∃ mid, (lo + hi) / 2 = mid := ⟨_, rfl⟩
    have hml : v16 k * mid < 65536 ^ (k.length + 1) := by rw [Nat.pow_succ]; exact Nat.mul_lt_mul'' (v16_lt hk) (by omega)
    rw [show decide ((1 : Int) < (hi : Int) - (lo : Int)) = true by rw [decide_eq_true_eq]; omega, ctm, w64_add (by omega), td2, hmid, w64_nat (by omega), rtimes_eq _ _ hk (by omega), bsm, rcmp_eq _ _ (h16_can hml (by omega)) hx, bsm, cmpN_le, v16_can, hkv, hxv]
    by_cases hle : W * mid ≤ X
    · rw [show decide (W * mid ≤ X) = true by simp [hle], ctm]
      exact ⟨_, rfl, ⟨mid, hi, rfl, by omega, h2, by rw [Nat.mul_comm]; exact hle, h4⟩, by simp only []; omega⟩
    · rw [show decide (W * mid ≤ X) = false by simp; omega, cfm]
      exact ⟨_, rfl, ⟨lo, mid, rfl, by omega, by omega, h3, by rw [Nat.mul_comm]; omega⟩, by simp only []; omega⟩
  · right
    rw [show decide ((1 : Int) < (hi : Int) - (lo : Int)) = false by rw [decide_eq_false_iff_not]; omega, cfm]
    refine ⟨_, rfl, ?_⟩
    have : hi = lo + 1 := by omega
    subst this
    have : X / W = lo := by
      rw [Nat.div_eq_iff hW]
      rw [Nat.add_mul, Nat.one_mul] at h4
      omega
    rw [this]
theorem rdiv_eq (V W : Nat) (hW : W ≠ 0) (hV : (can 65536 V).length ≤ 800000000) (hWl : (can 65536 W).length ≤ 800000000) : ref01_div_m (zl (can 65536 V)) (zl (can 65536 W)) = some (zl (can 65536 (V / W)), zl (can 65536 (V % W))) := by
  have hl16 : H16 (can 65536 V) := ⟨fun _ hx => can_lt (by decide) hx, by omega⟩
  have hk16 : H16 (can 65536 W) := ⟨fun _ hx => can_lt (by decide) hx, by omega⟩
  have hVl := lt_can_len (B := 65536) (by decide) V
  have hWlt := lt_can_len (B := 65536) (by decide) W
  have hW0 : 0 < W := by omega
  unfold ref01_div_m
  simp only [bsm, letJ, zl_len]
  obtain ⟨n, hn⟩ : ∃ n, (can 65536 V).length = n := ⟨_, rfl⟩
  by_cases h3 : n ≤ 3 ∧ (can 65536 W).length ≤ 3
  · rw [hn, show decide ((n : Int) ≤ 3) = true by rw [decide_eq_true_eq]; omega, ctm, bsm, show decide (((can 65536 W).length : Int) ≤ 3) = true by rw [decide_eq_true_eq]; omega, ctm, rsmall_eq _ hl16.1 (by omega), bsm, rsmall_eq _ hk16.1 (by omega), bsm, v16_can, v16_can]
    have hp : V < 281474976710656 := by
      rw [hn] at hVl
      have h2 : 65536 ^ n ≤ 65536 ^ 3 := Nat.pow_le_pow_right (by decide) h3.1
      rw [show (65536 : Nat) ^ 3 = 281474976710656 by decide] at h2
      omega
    have hq : V / W ≤ V := Nat.div_le_self _ _
    have hr : V % W ≤ V := Nat.mod_le _ _
    rw [iquo_nat hW (by omega), bsm, rback_eq _ (by omega), bsm, bsm, bsm, irem_nat hW, bsm, rback_eq _ (by omega), bsm]
  · have hcond : (((bif decide ((n : Int) ≤ 3) then some (decide (((can 65536 W).length : Int) ≤ 3)) else some false) : Option Bool)) = some false := by
      by_cases q1 : n ≤ 3
      · have q2 : ¬ (can 65536 W).length ≤ 3 := fun h => h3 ⟨q1, h⟩
        rw [show decide (((can 65536 W).length : Int) ≤ 3) = false by rw [decide_eq_false_iff_not]; omega]
        exact bif_same _ _
      · rw [show decide ((n : Int) ≤ 3) = false by rw [decide_eq_false_iff_not]; omega, cfm]
    rw [hn] at hVl hV
    have hQ : V / W < 65536 ^ n := Nat.lt_of_le_of_lt (Nat.div_le_self _ _) hVl
    rw [hn, hcond, bsm, cfm, mkM_of (by decide) (by omega), bsm, zl_zeros]
    have hlen : (can 65536 W).length ≠ 0 := fun e => hW (can_nil (by decide) (List.length_eq_zero_iff.1 e))
    by_cases h1 : (can 65536 W).length = 1
    · have hWs : W < 65536 := by rw [h1] at hWlt; simpa using hWlt
      have hg0 : (can 65536 W)[0]? = some W := by rw [can_get (by decide) (by omega)]; simp; exact hWs
      have hgw := geti_zero (zl_get hg0)
      rw [h1, show decide (((1 : Nat) : Int) = 1) = true by simp, ctm, w64_id (by omega) (by omega)]
      refine bind_loop_to (fun j => (((V / 65536 ^ (n - j) % W : Nat) : Int), (n : Int) - 1 - (j : Int), zl (dig 65536 n (V / W / 65536 ^ (n - j) * 65536 ^ (n - j))))) n (((V % W : Nat) : Int), zl (dig 65536 n (V / W))) ?_ (fun j hj => ?_) ?_ ?_
      · rw [Nat.sub_zero, Nat.div_eq_of_lt hVl, Nat.div_eq_of_lt hQ]; simp
      · obtain ⟨m, hm⟩ : ∃ m, n = m + j + 1 := ⟨n - j - 1, by omega⟩
        have hg : (can 65536 V)[m]? = some (V / 65536 ^ m % 65536) := can_get (by decide) (by omega)
        have hdig := rq_dig (B := 65536) (by decide) hW0 V m
        have hrem := q_mod (B := 65536) (d := W) V m
        have hrl := Nat.mod_lt (V / 65536 ^ (m + 1)) hW0
        have hdl := Nat.mod_lt (V / 65536 ^ m) (show 0 < 65536 by decide)
        have hput := ld_put (B := 65536) (by decide) (N := n) (k := m) (by omega) (V / W)
        rw [show n - j = m + 1 by omega, show n - (j + 1) = m by omega, show (n : Int) - 1 - (j : Int) = (m : Int) by omega, show (n : Int) - 1 - ((j + 1 : Nat) : Int) = (m : Int) - 1 by omega]
        simp only []
        rw [show decide ((0 : Int) ≤ (m : Int)) = true by simp, ctm, geti_nat (zl_get hg), bsm, hgw, bsm]
        rw [← hdig] at hput
        rw [hrem, ← hput]
        generalize V / 65536 ^ (m + 1) % W = r at *
        generalize V / 65536 ^ m % 65536 = d at *
        rw [w64_id (x := (r : Int) * 65536) (by omega) (by omega), w64_id (x := (r : Int) * 65536 + (d : Int)) (by omega) (by omega), show (r : Int) * 65536 + (d : Int) = ((r * 65536 + d : Nat) : Int) by omega, iquo_nat hW (by omega), bsm, bsm, irem_nat hW, bsm, cki_nat (by rw [zl_len, dig_len]; omega), bsm, stM_of (by rw [zl_len, dig_len]; omega), bsm, w64_id (x := (m : Int) - 1) (by omega) (by omega), zl_set]
      · simp only []
        rw [show decide ((0 : Int) ≤ (n : Int) - 1 - (n : Int)) = false by rw [decide_eq_false_iff_not]; omega, cfm, Nat.sub_self, Nat.pow_zero, Nat.mul_one, Nat.div_one, Nat.div_one]
      · simp only []
        rw [rtrim_eq _ (by rw [dig_len]; omega), bsm, trim_dig (by decide) hQ, show [((V % W : Nat) : Int)] = zl [V % W] from rfl, rtrim_eq _ (by simp), bsm]
        have hr := Nat.mod_lt V hW0
        rw [trim_can (B := 65536) (l := [V % W]) (by decide) (by intro y hy; simp at hy; omega)]
        simp [val]
    · rw [show decide (((can 65536 W).length : Int) = 1) = false by rw [decide_eq_false_iff_not]; omega, cfm, w64_id (by omega) (by omega)]
      refine bind_loop_to (fun j => (zl (can 65536 (V / 65536 ^ (n - j) % W)), (n : Int) - 1 - (j : Int), zl (dig 65536 n (V / W / 65536 ^ (n - j) * 65536 ^ (n - j))))) n (zl (can 65536 (V % W)), zl (dig 65536 n (V / W))) ?_ (fun j hj => ?_) ?_ ?_
      · rw [Nat.sub_zero, Nat.div_eq_of_lt hVl, Nat.div_eq_of_lt hQ]; simp [can_zero, zl]
      · obtain ⟨m, hm⟩ : ∃ m, n = m + j + 1 := ⟨n - j - 1, by omega⟩
        have hg : (can 65536 V)[m]? = some (V / 65536 ^ m % 65536) := can_get (by decide) (by omega)
        have hdig := rq_dig (B := 65536) (by decide) hW0 V m
        have hrem := q_mod (B := 65536) (d := W) V m
        have hrl := Nat.mod_lt (V / 65536 ^ (m + 1)) hW0
        have hdl := Nat.mod_lt (V / 65536 ^ m) (show 0 < 65536 by decide)
        have hXW := q_lt (B := 65536) (by decide) hW0 V m
        have hput := ld_put (B := 65536) (by decide) (N := n) (k := m) (by omega) (V / W)
        rw [show n - j = m + 1 by omega, show n - (j + 1) = m by omega, show (n : Int) - 1 - (j : Int) = (m : Int) by omega, show (n : Int) - 1 - ((j + 1 : Nat) : Int) = (m : Int) - 1 by omega]
        simp only []
        rw [← hdig] at hput
        rw [hrem, ← hput, show decide ((0 : Int) ≤ (m : Int)) = true by simp, ctm, geti_nat (zl_get hg), bsm]
        generalize V / 65536 ^ (m + 1) % W = r at *
        generalize V / 65536 ^ m % 65536 = d at *
        obtain ⟨X, hX⟩ : ∃ X, r * 65536 + d = X := ⟨_, rfl⟩
        rw [hX] at hXW ⊢
        have hrc : (can 65536 r).length ≤ (can 65536 W).length := (can_len_iff (by decide)).2 (Nat.lt_trans hrl hWlt)
        have hxl : (can 65536 X).length ≤ (can 65536 W).length + 1 := (can_len_iff (by decide)).2 (by rw [Nat.pow_succ]; exact Nat.lt_trans hXW (Nat.mul_lt_mul_of_pos_right hWlt (by decide)))
        have hval : val 65536 (d :: can 65536 r) = X := by
          show d + 65536 * val 65536 (can 65536 r) = X
          rw [val_can (by decide)]; omega
        have hx16 : H16 (can 65536 X) := ⟨fun _ hx => can_lt (by decide) hx, by omega⟩
        rw [apMl (by decide) (by rw [zl_len]; simp; omega), bsm, show [(d : Int)] ++ zl (can 65536 r) = zl (d :: can 65536 r) from rfl, rtrim_eq _ (by simp; omega), bsm, trim_can (B := 65536) (by decide) (by intro y hy; simp at hy; rcases hy with rfl | hy; exact hdl; exact can_lt (by decide) hy), hval]
        have hqW : W * (X / W) ≤ X := Nat.mul_div_le X W
        have hq16 : X / W < 65536 := by rw [Nat.div_lt_iff_lt_mul hW0, Nat.mul_comm]; exact hXW
        have hfin : ((ref01_times_m (zl (can 65536 W)) ((X / W : Nat) : Int)).bind fun x114 => (ref01_sub_m (zl (can 65536 X)) x114).bind fun x115 => (cki (zl (dig 65536 n (V / W / 65536 ^ (m + 1) * 65536 ^ (m + 1)))) (m : Int)).bind fun x116 => (stM (zl (dig 65536 n (V / W / 65536 ^ (m + 1) * 65536 ^ (m + 1)))) x116 ((X / W : Nat) : Int)).bind fun l58 => (some (.inl (x115, IntKind.i64.wrap ((m : Int) - 1), l58)) : Option ((List Int × Int × List Int) ⊕ (List Int × List Int)))) = some (.inl (zl (can 65536 (X % W)), (m : Int) - 1, zl ((dig 65536 n (V / W / 65536 ^ (m + 1) * 65536 ^ (m + 1))).set m (X / W)))) := by
          rw [rtimes_eq _ _ hk16 hq16, bsm, v16_can, rsub_eq _ _ hx16 (h16_can (Nat.lt_of_le_of_lt hqW (lt_can_len (by decide) X)) (by omega)) (by rw [v16_can, v16_can]; exact hqW), bsm, v16_can, v16_can, cki_nat (by rw [zl_len, dig_len]; omega), bsm, stM_of (by rw [zl_len, dig_len]; omega), bsm, w64_id (x := (m : Int) - 1) (by omega) (by omega), zl_set, ← Nat.mod_eq_sub_mul_div]
        rw [zl_len]
        by_cases hsh : (can 65536 X).length < (can 65536 W).length
        · rw [show decide (((can 65536 X).length : Int) < ((can 65536 W).length : Int)) = true by rw [decide_eq_true_eq]; omega, ctm]
          exact halve_eq hW0 hk16 (v16_can W) hx16 (v16_can X) 1 (by decide) (by decide) (by rw [Nat.one_mul]; exact can_lt_len (by decide) hsh) _ _ hfin (by omega)
        · rw [show decide (((can 65536 X).length : Int) < ((can 65536 W).length : Int)) = false by rw [decide_eq_false_iff_not]; omega, cfm]
          exact halve_eq hW0 hk16 (v16_can W) hx16 (v16_can X) 65536 (by decide) (by decide) (by rw [Nat.mul_comm]; exact hXW) _ _ hfin (by omega)
      · simp only []
        rw [show decide ((0 : Int) ≤ (n : Int) - 1 - (n : Int)) = false by rw [decide_eq_false_iff_not]; omega, cfm, Nat.sub_self, Nat.pow_zero, Nat.mul_one, Nat.div_one, Nat.div_one]
      · simp only []
        rw [rtrim_eq _ (by rw [dig_len]; omega), bsm, trim_dig (by decide) hQ]
end Go.Proofs.Ytgkafblpckcekaa
namespace Go.Proofs.Ytgkafblpckcekaa
open Go.Fw
theorem reverse_eq (l : List Nat) (hl : l.length ≤ 1000000000000) : slices_Reverse_m l = some l.reverse := by
  unfold slices_Reverse_m
  simp only [bsm]
  rw [w64_id (by omega) (by omega)]
  refine bind_loop (fun s => ∃ i : Nat, s.1 = (i : Int) ∧ s.2.1 = (l.length : Int) - 1 - i ∧ 2 * i ≤ l.length ∧ s.2.2.length = l.length ∧ ∀ p, p < l.length → s.2.2[p]? = if p < i ∨ l.length - i ≤ p then l[l.length - 1 - p]? else l[p]?)
    (fun e => e = l.reverse) (fun s => (s.2.1 - s.1 + 1).toNat) ?_ ⟨0, rfl, by simp, by omega, rfl, fun p hp => by rw [if_neg (by omega)]⟩ ?_
  · rintro ⟨a, b, m⟩ ⟨i, h1, h2, h3, h4, h5⟩
    simp only at h1 h2 h3 h4 h5
    subst h1 h2
    simp only []
    by_cases hlt : (i : Int) < (l.length : Int) - 1 - i
    · left
      obtain ⟨j, hj⟩ : ∃ j : Nat, (l.length : Int) - 1 - i = (j : Int) := ⟨l.length - 1 - i, by omega⟩
      rw [hj] at hlt ⊢
      have g1 := h5 j (by omega)
      have g2 := h5 i (by omega)
      rw [if_neg (by omega)] at g1 g2
      have e1 : l[j]? = some (l[j]'(by omega)) := by simp
      have e2 : l[i]? = some (l[i]'(by omega)) := by simp
      rw [e1] at g1
      rw [e2] at g2
      rw [show decide ((i : Int) < (j : Int)) = true by simp; omega, ctm, cki_nat (by omega), bsm, g1, bsm, cki_nat (by omega), bsm, g2, bsm, bsm, stM_of (by omega), bsm, cki_nat (by simp; omega), bsm, stM_of (by simp; omega), bsm, w64_succ (by omega), w64_id (by omega) (by omega)]
      refine ⟨_, rfl, ⟨i + 1, rfl, by simp only []; omega, by omega, by simp [h4], fun p hp => ?_⟩, by simp only []; omega⟩
      simp only []
      rw [List.getElem?_set, List.getElem?_set]
      by_cases hpj : j = p
      · subst hpj
        rw [if_pos rfl, if_pos (by simp; omega), if_pos (by omega), show l.length - 1 - j = i by omega, e2]
      · rw [if_neg hpj]
        by_cases hpi : i = p
        · subst hpi
          rw [if_pos rfl, if_pos (by omega), if_pos (by omega), show l.length - 1 - i = j by omega, e1]
        · rw [if_neg hpi, h5 p hp]
          by_cases hc : p < i ∨ l.length - i ≤ p
          · rw [if_pos hc, if_pos (by omega)]
          · rw [if_neg hc, if_neg (by omega)]
    · right
      rw [show decide ((i : Int) < (l.length : Int) - 1 - i) = false by simp; omega, cfm]
      refine ⟨_, rfl, ?_⟩
      apply List.ext_getElem?
      intro p
      by_cases hp : p < l.length
      · rw [h5 p hp, List.getElem?_reverse hp]
        by_cases hc : p < i ∨ l.length - i ≤ p
        · rw [if_pos hc]
        · rw [if_neg hc, show l.length - 1 - p = p by omega]
      · rw [List.getElem?_eq_none (by omega), List.getElem?_eq_none (by simp; omega)]
  · rintro e rfl
    rw [eqLen_of (by simp), bsm]
def asc (l : List Nat) : List Nat := l.map (fun d => 48 + d)
theorem asc_len (l : List Nat) : (asc l).length = l.length := by simp [asc]
theorem asc_app (l k : List Nat) : asc (l ++ k) = asc l ++ asc k := by simp [asc]
def txtN (v : Nat) : List Nat := if v = 0 then [48] else (asc (can 10 v)).reverse
def txt (i : Int) : Str := (if i < 0 then 45 :: txtN i.natAbs else txtN i.natAbs).map UInt8.ofNat
theorem dig_join (B : Nat) : ∀ (n m v : Nat), dig B (n + m) v = dig B n v ++ dig B m (v / B ^ n)
  | 0, m, v => by simp [dig]
  | n + 1, m, v => by
    rw [show n + 1 + m = (n + m) + 1 by omega]
    simp only [dig, List.cons_append]
    rw [dig_join B n m (v / B), Nat.pow_succ, Nat.mul_comm, Nat.div_div_eq_div_mul]
theorem trim_asc (l : List Nat) (hl : l.length ≤ 1000000000000) (hne : trimW l ≠ []) {R : Type} (f : List Nat → Option R) (r : R) (hf : f (asc (trimW l)) = some r) :
    (loopM (fun (r321l29 : (List Nat)) =>
                (show Option (((List Nat)) ⊕ ((List Nat))) from
                  (cki r321l29 (IntKind.i64.wrap ((r321l29.length : Int) - 1))).bind fun x36 =>
                  (r321l29[x36]?).bind fun x37 =>
                  (bif (decide ((x37 : Nat) = 48)) then
                      (subM r321l29 0 (IntKind.i64.wrap ((r321l29.length : Int) - 1))).bind fun x43 =>
                      some (.inl x43)
                    else
                      some (.inr r321l29)))) (asc l)).bind f = some r := by
  refine bind_loop (fun y => ∃ k : List Nat, y = asc k ∧ k.length ≤ 1000000000000 ∧ trimW k = trimW l) (fun e => e = asc (trimW l)) (fun y => y.length) ?_ ⟨l, rfl, hl, rfl⟩ (fun e he => by rw [he]; exact hf)
  rintro _ ⟨k, rfl, hk, ht⟩
  rcases trim_cases k with rfl | ⟨ys, rfl⟩ | ⟨ys, x, hx, rfl⟩
  · rw [trimW_nil] at ht; exact absurd ht.symm hne
  · left
    have h1 : (((asc (ys ++ [0])).length : Nat) : Int) - 1 = (ys.length : Int) := by simp [asc]
    have h2 : (asc (ys ++ [0]))[ys.length]? = some 48 := by simp [asc]
    have hys : ys.length ≤ 1000000000000 := by simp at hk; omega
    simp only [h1]
    rw [w64_nat (by omega), cki_nat (by simp [asc]), bsm, h2, bsm, show decide (48 = 48) = true by decide, ctm, subM_zero (by simp [asc]), bsm]
    refine ⟨_, rfl, ⟨ys, by simp [asc], hys, by rw [← ht, trimW_zero]⟩, by simp [asc]⟩
  · right
    have h1 : (((asc (ys ++ [x])).length : Nat) : Int) - 1 = (ys.length : Int) := by simp [asc]
    have h2 : (asc (ys ++ [x]))[ys.length]? = some (48 + x) := by simp [asc]
    have hys : ys.length ≤ 1000000000000 := by simp at hk; omega
    simp only [h1]
    rw [w64_nat (by omega), cki_nat (by simp [asc]), bsm, h2, bsm, show decide (48 + x = 48) = false by simp [hx], cfm]
    exact ⟨_, rfl, by rw [← ht, trimW_last _ hx]⟩
theorem p9 (k : Nat) : 10 ^ (9 * (k + 1)) = 10 ^ (9 * k) * 1000000000 := by
  rw [show 9 * (k + 1) = 9 * k + 9 by omega, Nat.pow_add]
theorem format_eq {x : Zr} (h : Wl x) : whole_Format_m x = some (txt (zi x)) := by
  obtain ⟨n, w⟩ := x
  unfold whole_Format_m
  have hc : (can 4294967296 (vl w)).length ≤ 100000000 := h.cl
  simp only []
  rw [show whole_trim_m w = some (can 4294967296 (vl w)) from h.trim, bsm, clone_eq _ (by omega)]
  simp only [bsm, letJ]
  rw [show zi ⟨n, w⟩ = sv n (vl w) from rfl]
  generalize vl w = V at *
  by_cases h0 : V = 0
  · subst h0
    rw [show decide (((can 4294967296 0).length : Int) = 0) = true by simp [can_zero], ctm, show sv n 0 = 0 by cases n <;> rfl]
    rfl
  have hlen0 : (can 4294967296 V).length ≠ 0 := fun h => h0 (can_len0.1 h)
  rw [show decide (((can 4294967296 V).length : Int) = 0) = false by rw [decide_eq_false_iff_not]; omega, cfm]
  have hVlt : V < 10 ^ (9 * (2 * (can 4294967296 V).length)) := by
    have h1 := lt_can_len (B := 4294967296) (by decide) V
    refine Nat.lt_of_lt_of_le h1 ?_
    rw [Nat.mul_comm 9, Nat.mul_assoc, Nat.mul_comm 2, Nat.mul_assoc, Nat.mul_comm, Nat.pow_mul]
    exact Nat.pow_le_pow_left (by decide) _
  refine bind_loop (fun s => ∃ k, k ≤ 2 * (can 4294967296 V).length ∧ s = (can 4294967296 (V / 10 ^ (9 * k)), asc (dig 10 (9 * k) V))) (fun e => ∃ k, k ≤ 2 * (can 4294967296 V).length ∧ V < 10 ^ (9 * k) ∧ e = asc (dig 10 (9 * k) V)) (fun s => vl s.1) ?_ ⟨0, by omega, by simp [dig, asc]⟩ ?_
  · rintro _ ⟨k, hk, rfl⟩
    have hpk : 0 < 10 ^ (9 * k) := Nat.pow_pos (by decide)
    by_cases hz : V / 10 ^ (9 * k) = 0
    · right
      rw [hz]
      refine ⟨_, rfl, k, hk, ?_, rfl⟩
      rcases Nat.lt_or_ge V (10 ^ (9 * k)) with h | h
      · exact h
      · have := Nat.div_pos h hpk; omega
    · left
      have hkl : k < 2 * (can 4294967296 V).length := by
        rcases Nat.lt_or_ge k (2 * (can 4294967296 V).length) with h | h
        · exact h
        · refine absurd (Nat.div_eq_of_lt (Nat.lt_of_lt_of_le hVlt ?_)) hz
          exact Nat.pow_le_pow_right (by decide) (by omega)
      have hnext : V / 10 ^ (9 * (k + 1)) = V / 10 ^ (9 * k) / 1000000000 := by rw [p9, Nat.div_div_eq_div_mul]
      have hcl : (can 4294967296 (V / 10 ^ (9 * k))).length ≤ (can 4294967296 V).length := (can_len_iff (by decide)).2 (Nat.lt_of_le_of_lt (Nat.div_le_self _ _) (lt_can_len (by decide) V))
      have hj : dig 10 (9 * k + 9) V = dig 10 (9 * k) V ++ dig 10 9 (V / 10 ^ (9 * k)) := dig_join 10 (9 * k) 9 V
      obtain ⟨X, hX⟩ : ∃ X, V / 10 ^ (9 * k) = X := ⟨_, rfl⟩
      rw [hX] at hz hcl hj hnext ⊢
      have hlen0 : (can 4294967296 X).length ≠ 0 := fun h => hz (can_len0.1 h)
      simp only []
      rw [show decide ((0 : Int) < ((can 4294967296 X).length : Int)) = true by rw [decide_eq_true_eq]; omega, ctm, shortDiv_eq _ _ (can_W32 (by omega)) (by decide) (by decide), bsm, vl_can]
      simp only []
      rw [eqLen_of (by rw [dig_len]), bsm, trimT_eq _ (by rw [dig_len]; omega), bsm, trim_dig (by decide) (Nat.lt_of_le_of_lt (Nat.div_le_self _ _) (lt_can_len (by decide) X))]
      refine ⟨(can 4294967296 (X / 1000000000), asc (dig 10 (9 * (k + 1)) V)), ?_, ⟨k + 1, by omega, by rw [hnext]⟩, by simp only [vl_can]; exact Nat.div_lt_self (by omega) (by decide)⟩
      obtain ⟨M, hM⟩ : ∃ M, X % 1000000000 = M := ⟨_, rfl⟩
      have hMlt : M < 1000000000 := by rw [← hM]; exact Nat.mod_lt _ (by decide)
      rw [hM]
      refine bind_loop_to (fun i => (M / 10 ^ i, (i : Int), asc (dig 10 (9 * k) V ++ dig 10 i M))) 9 (asc (dig 10 (9 * k) V ++ dig 10 9 M)) ?_ (fun i hi => ?_) ?_ ?_
      · simp [dig]
      · rw [show decide ((i : Int) < 9) = true by simp; omega, ctm]
        have hm := Nat.mod_lt (M / 10 ^ i) (show 0 < 10 by decide)
        have hd : M / 10 ^ i ≤ M := Nat.div_le_self _ _
        rw [Nat.mod_eq_of_lt (a := 48 + M / 10 ^ i % 10) (by omega), Nat.mod_eq_of_lt (a := 48 + M / 10 ^ i % 10) (b := 256) (by omega), apM1 (by decide) (by rw [asc_len, List.length_append, dig_len, dig_len]; omega), bsm, w64_succ (by omega), Nat.mod_eq_of_lt (a := M / 10 ^ i / 10) (by omega), Nat.div_div_eq_div_mul, ← Nat.pow_succ]
        rw [dig_succ, ← List.append_assoc, asc_app (dig 10 (9 * k) V ++ dig 10 i M)]
        rfl
      · simp
      · rw [show 9 * (k + 1) = 9 * k + 9 by omega, hj, show dig 10 9 M = dig 10 9 X from ?_]
        apply dig_congr (by decide)
        rw [show (10 : Nat) ^ 9 = 1000000000 by decide, ← hM, Nat.mod_mod]
  · rintro _ ⟨k, hk, hlt, rfl⟩
    have htr : trimW (dig 10 (9 * k) V) = can 10 V := trim_dig (by decide) hlt
    have hne : trimW (dig 10 (9 * k) V) ≠ [] := by rw [htr]; exact fun e => h0 (can_nil (by decide) e)
    refine trim_asc (dig 10 (9 * k) V) (by rw [dig_len]; omega) hne _ _ ?_
    have hl : (can 10 V).length ≤ 1000000000000 := by have := trimW_len (dig 10 (9 * k) V); rw [htr, dig_len] at this; omega
    have hl' : (can 10 V).length ≤ 2000000000 := by have := trimW_len (dig 10 (9 * k) V); rw [htr, dig_len] at this; omega
    rw [htr]
    have hfin : ∀ l : List Nat, l.length ≤ 1000000000000 → ((slices_Reverse_m l).bind fun l36 => (eqLen l l36).bind fun _ => some (List.map UInt8.ofNat l36)) = some (l.reverse.map UInt8.ofNat) := by
      intro l hl
      rw [reverse_eq _ hl, bsm, eqLen_of (by simp), bsm]
    cases n
    · rw [cfm, hfin _ (by rw [asc_len]; exact hl), sv_false, txt, if_neg (by omega), txtN, if_neg (by omega)]
      rfl
    · rw [ctm, apM1 (by decide) (by rw [asc_len]; omega), bsm, hfin _ (by rw [List.length_append, asc_len]; simp; omega), show sv true V = -(V : Int) from rfl, txt, if_pos (by omega), txtN, if_neg (by omega), List.reverse_append]
      simp
end Go.Proofs.Ytgkafblpckcekaa
namespace Go.Proofs.Ytgkafblpckcekaa
open Go.Fw
def neg? (s : Str) : Bool := decide (s.head? = some 45)
def body (s : Str) : Str := if s.head? = some 45 then s.tail else s
theorem cut_eq (s : Str) (hs : s.length ≤ 9223372036854775807) : strings_CutPrefix_m s [45] = some (body s, neg? s) := by
  unfold strings_CutPrefix_m internal_stringslite_CutPrefix_m internal_stringslite_HasPrefix_m
  simp only [bsm, letJ]
  rcases s with _ | ⟨c, t⟩
  · rfl
  · rw [show decide ((([45] : Str).length : Int) ≤ ((c :: t).length : Int)) = true by simp; omega, ctm, show ((([45] : Str).length : Nat) : Int) = ((1 : Nat) : Int) by rfl, subM_zero (by simp), bsm, bsm, bsm]
    by_cases hc : c = 45
    · subst hc
      rw [show (!decide (List.take 1 (45 :: t) = [45])) = false by simp, cfm, subM_nat (by simp) (by simp), bsm, bsm]
      simp [body, neg?, cut]
    · rw [show (!decide (List.take 1 (c :: t) = [45])) = true by simp [hc], ctm, bsm]
      simp [body, neg?, hc]
def digit (c : UInt8) : Prop := 48 ≤ c.toNat ∧ c.toNat ≤ 57
instance (c : UInt8) : Decidable (digit c) := by unfold digit; infer_instance
def Dec (s : Str) : Prop := s ≠ [] ∧ (s.head? = some 48 → s.length = 1) ∧ ∀ c ∈ s, digit c
instance (s : Str) : Decidable (Dec s) := by unfold Dec; infer_instance
theorem sgeti_nat {s : Str} {i : Nat} {c : UInt8} (h : s[i]? = some c) : sgeti s (i : Int) = some c.toNat := by simp [sgeti, geti, h]
theorem c48 (c : UInt8) : c.toNat = 48 ↔ c = 48 := by
  constructor
  · intro h; exact UInt8.toNat_inj.1 h
  · rintro rfl; rfl
theorem isDecimal_eq (s : Str) (hs : s.length ≤ 1000000000) : ∃ b, whole_isDecimal_m s = some b ∧ (b = true ↔ Dec s) := by
  unfold whole_isDecimal_m
  simp only [bsm, letJ]
  rcases s with _ | ⟨c, t⟩
  · refine ⟨false, rfl, ?_⟩
    simp [Dec]
  · rw [show decide ((c :: t : Str) = []) = false by simp, cfm, show (0 : Int) = ((0 : Nat) : Int) from rfl, sgeti_nat (c := c) (by simp), bsm]
    have hloop : ∀ (s : Str), s.length ≤ 1000000000 → s ≠ [] → (s.head? = some 48 → s.length = 1) → ∃ b, ((loopM (fun (y18l9 : Int) =>
              (show Option ((Int) ⊕ ((Unit) ⊕ (Bool))) from
                (bif decide ((y18l9 : Int) < (s.length : Int)) then
                    (sgeti s y18l9).bind fun x23 =>
                    (bif decide ((x23 : Nat) < 48) then
                        some true
                      else
                        (sgeti s y18l9).bind fun x28 =>
                        some (decide ((57 : Nat) < x28))).bind fun c30_18 =>
                    (bif c30_18 then
                            some (.inr (.inr false))
                          else
                            some (.inl (IntKind.i64.wrap (y18l9 + 1))))
                  else
                    some (.inr (.inl ()))))) ((0 : Nat) : Int)).bind fun e14 =>
            match e14 with
            | .inr v14 => some v14
            | .inl _ =>
              some true) = some b ∧ (b = true ↔ Dec s) := by
      intro s hs hne h0
      refine bind_loop_ex (fun y => ∃ i : Nat, y = (i : Int) ∧ i ≤ s.length ∧ ∀ c ∈ s.take i, digit c) (fun e => (∃ u, e = .inl u ∧ ∀ c ∈ s, digit c) ∨ (e = .inr false ∧ ∃ c ∈ s, ¬ digit c)) (fun y => s.length - y.toNat) ?_ ⟨0, rfl, by omega, by simp⟩ ?_
      · rintro _ ⟨i, rfl, hi, ht⟩
        by_cases hlt : i < s.length
        · have g : s[i]? = some s[i] := by simp
          rw [show decide ((i : Int) < (s.length : Int)) = true by simp [hlt], ctm, sgeti_nat g, bsm, bsm]
          by_cases hd : digit s[i]
          · left
            have hd' := hd
            unfold digit at hd'
            rw [show decide (s[i].toNat < 48) = false by simp; omega, cfm, bsm, show decide (57 < s[i].toNat) = false by simp; omega, cfm, w64_succ (by omega)]
            refine ⟨_, rfl, ⟨i + 1, rfl, hlt, ?_⟩, by omega⟩
            rw [List.take_add_one, g]
            intro c hc
            rcases List.mem_append.1 hc with h | h
            · exact ht c h
            · simp at h; rw [h]; exact hd
          · right
            refine ⟨.inr false, ?_, .inr ⟨rfl, s[i], by simp, hd⟩⟩
            unfold digit at hd
            by_cases h48 : s[i].toNat < 48
            · rw [show decide (s[i].toNat < 48) = true by simp [h48], ctm, bsm, ctm]
            · rw [show decide (s[i].toNat < 48) = false by simp; omega, cfm, bsm, show decide (57 < s[i].toNat) = true by simp; omega, ctm]
        · right
          rw [show decide ((i : Int) < (s.length : Int)) = false by simp; omega, cfm]
          rw [List.take_of_length_le (by omega)] at ht
          exact ⟨_, rfl, .inl ⟨_, rfl, ht⟩⟩
      · rintro e (⟨u, rfl, he⟩ | ⟨rfl, c, hc, hd⟩)
        · exact ⟨true, rfl, by simp only [true_iff]; exact ⟨hne, h0, he⟩⟩
        · exact ⟨false, rfl, by simp only [Bool.false_eq_true, false_iff]; exact fun h => hd (h.2.2 c hc)⟩
    by_cases h48 : c = 48
    · subst h48
      rw [show decide ((48 : UInt8).toNat = 48) = true by decide, ctm, bsm, bsm]
      by_cases hl : 1 < (48 :: t : Str).length
      · rw [show decide ((1 : Int) < ((48 :: t : Str).length : Int)) = true by rw [decide_eq_true_eq]; omega, ctm]
        refine ⟨false, rfl, ?_⟩
        simp only [Bool.false_eq_true, false_iff]
        intro h
        have := h.2.1 rfl
        omega
      · rw [show decide ((1 : Int) < ((48 :: t : Str).length : Int)) = false by rw [decide_eq_false_iff_not]; omega, cfm]
        exact hloop _ hs (by simp) (fun _ => by simp at hl ⊢; exact hl)
    · rw [show decide (c.toNat = 48) = false by rw [decide_eq_false_iff_not]; exact fun h => h48 ((c48 c).1 h), cfm, bsm, bsm, cfm]
      exact hloop _ hs (by simp) (fun h => by simp at h; exact absurd h h48)
def dv (s : Str) : Nat := s.foldl (fun a c => a * 10 + (c.toNat - 48)) 0
theorem foldl_dv (s : Str) : ∀ a, s.foldl (fun a c => a * 10 + (c.toNat - 48)) a = a * 10 ^ s.length + dv s := by
  induction s with
  | nil => intro a; simp [dv]
  | cons c t ih =>
    intro a
    rw [List.foldl_cons, ih, show dv (c :: t) = List.foldl (fun a c => a * 10 + (c.toNat - 48)) (0 * 10 + (c.toNat - 48)) t from rfl, ih, List.length_cons, Nat.pow_succ, Nat.add_mul, Nat.add_mul, Nat.zero_mul, Nat.zero_add, Nat.add_assoc, Nat.mul_assoc, Nat.mul_comm 10]
theorem dv_app (s t : Str) : dv (s ++ t) = dv s * 10 ^ t.length + dv t := by rw [dv, List.foldl_append, foldl_dv]; rfl
theorem dv_one (c : UInt8) : dv [c] = c.toNat - 48 := by simp [dv]
theorem dv_lt {s : Str} (h : ∀ c ∈ s, digit c) : dv s < 10 ^ s.length := by
  induction s with
  | nil => simp [dv]
  | cons c t ih =>
    have h1 := ih (fun c hc => h c (by simp [hc]))
    have h2 := h c (by simp)
    unfold digit at h2
    rw [show c :: t = [c] ++ t from rfl, dv_app, dv_one, List.length_append, Nat.add_comm, Nat.pow_add]
    have : (c.toNat - 48) * 10 ^ t.length ≤ 9 * 10 ^ t.length := Nat.mul_le_mul_right _ (by omega)
    simp only [List.length_singleton, Nat.pow_one]
    omega
def z0 : Zr := ⟨false, []⟩
def parseOf (s : Str) : Zr × Int :=
  if 1000 < (body s).length then (z0, 5)
  else if Dec (body s) ∧ ¬ (neg? s = true ∧ body s = [48]) then (zn (sv (neg? s) (dv (body s))), 0) else (z0, 3)
theorem parse_eq (s : Str) (hs : s.length ≤ 9223372036854775807) : whole_Parse_m s = some (parseOf s) := by
  unfold whole_Parse_m
  rw [cut_eq s hs, bsm]
  simp only [bsm, letJ]
  unfold parseOf
  generalize body s = t
  generalize neg? s = n
  by_cases hl : 1000 < t.length
  · rw [show decide ((1000 : Int) < (t.length : Int)) = true by rw [decide_eq_true_eq]; omega, ctm, if_pos hl]; rfl
  rw [show decide ((1000 : Int) < (t.length : Int)) = false by rw [decide_eq_false_iff_not]; omega, cfm, if_neg hl]
  obtain ⟨b, hb, hbt⟩ := isDecimal_eq t (by omega)
  rw [hb, bsm]
  have hcond : ((bif !b then some true else ((bif n then some (decide (t = [48])) else some false) : Option Bool)) : Option Bool) = some (!decide (Dec t ∧ ¬ (n = true ∧ t = [48]))) := by
    cases b
    · have : ¬ Dec t := fun h => by simpa using hbt.2 h
      simp [this]
    · have := hbt.1 rfl
      cases n <;> simp [this]
  have hcond' : ((bif !b then some true else ((bif n then some (decide (t = [48])) else some false) : Option Bool).bind fun c28_28 => some c28_28) : Option Bool) = some (!decide (Dec t ∧ ¬ (n = true ∧ t = [48]))) := by
    rw [← hcond]; cases b <;> cases n <;> rfl
  first
    | rw [hcond]
    | rw [hcond']
  rw [bsm]
  by_cases hok : Dec t ∧ ¬ (n = true ∧ t = [48])
  · rw [if_pos hok, show (!decide (Dec t ∧ ¬ (n = true ∧ t = [48]))) = false by simp [hok], cfm]
    obtain ⟨-, -, hd⟩ := hok.1
    refine bind_loop (fun s => ∃ p : Str, p ++ s.1 = t ∧ W32 s.2 ∧ vl s.2 = dv p ∧ s.2.length ≤ p.length) (fun e => W32 e ∧ vl e = dv t) (fun s => s.1.length) ?_ ⟨[], rfl, ⟨by simp, by simp⟩, rfl, by simp⟩ ?_
    · rintro ⟨u, ws⟩ ⟨p, hp, hw, hv, hwl⟩
      simp only at hp hw hv hwl ⊢
      have htl : p.length + u.length = t.length := by rw [← hp, List.length_append]
      by_cases hu : 0 < u.length
      · left
        obtain ⟨m, hm⟩ : ∃ m, min 9 u.length = m := ⟨_, rfl⟩
        rw [show decide ((0 : Int) < (u.length : Int)) = true by rw [decide_eq_true_eq]; omega, ctm, show min (9 : Int) (u.length : Int) = (m : Int) by omega]
        have hdu : ∀ c ∈ u, digit c := fun c hc => hd c (by rw [← hp]; simp [hc])
        have hmd : ∀ i, ∀ c ∈ u.take i, digit c := fun i c hc => hdu c (List.mem_of_mem_take hc)
        have hlt10 : dv (u.take m) < 10 ^ m := by
          have := dv_lt (hmd m)
          rw [List.length_take, Nat.min_eq_left (by omega)] at this; exact this
        have hp9 : 10 ^ m ≤ 10 ^ 9 := Nat.pow_le_pow_right (by decide) (by omega)
        rw [show (10 : Nat) ^ 9 = 1000000000 by decide] at hp9
        refine ⟨(u.drop m, dig 4294967296 (ws.length + 1) (vl ws * 10 ^ m + dv (u.take m))), ?_, ⟨p ++ u.take m, ?_, ⟨fun x hx => dig_lt (by decide) _ _ _ hx, by rw [dig_len]; omega⟩, ?_, ?_⟩, ?_⟩
        · refine bind_loop_to (fun i => (dv (u.take i), 10 ^ i, (i : Int))) m (dv (u.take m), 10 ^ m) ?_ (fun i hi => ?_) ?_ ?_
          · simp [dv]
          · have hiu : i < u.length := by omega
            have g : u[i]? = some u[i] := by simp
            have hdi := hdu u[i] (by simp)
            unfold digit at hdi
            have h1 : dv (u.take i) < 10 ^ i := by
              have := dv_lt (hmd i)
              rw [List.length_take, Nat.min_eq_left (by omega)] at this; exact this
            have h2 : 10 ^ i ≤ 10 ^ 9 := Nat.pow_le_pow_right (by decide) (by omega)
            rw [show (10 : Nat) ^ 9 = 1000000000 by decide] at h2
            rw [show decide ((i : Int) < (m : Int)) = true by simp [hi], ctm, sgeti_nat g, bsm, usub_of (by omega) (by omega), Nat.mod_eq_of_lt (a := dv (u.take i) * 10) (by omega), Nat.mod_eq_of_lt (a := u[i].toNat - 48) (by omega), Nat.mod_eq_of_lt (b := 18446744073709551616) (by omega), Nat.mod_eq_of_lt (a := 10 ^ i * 10) (by omega), w64_succ (by omega)]
            rw [List.take_add_one, g, show (some u[i]).toList = [u[i]] from rfl, dv_app, dv_one, List.length_singleton, Nat.pow_one, Nat.pow_succ]
          · simp
          · simp only []
            rw [scaleWords_eq _ _ _ hw (by omega) (by omega), bsm, subM_nat (by omega) (by omega), bsm]
            congr 3
            rw [cut, List.take_of_length_le (by rw [List.length_drop]; omega)]
        · simp only []
          rw [List.append_assoc, List.take_append_drop, hp]
        · simp only []
          show val _ _ = _
          rw [val_dig, dv_app, ← hv, List.length_take, Nat.min_eq_left (by omega), Nat.mod_eq_of_lt]
          have h1 : vl ws < 4294967296 ^ ws.length := val_lt ws hw.1
          calc vl ws * 10 ^ m + dv (u.take m) < vl ws * 10 ^ m + 10 ^ m := by omega
            _ = (vl ws + 1) * 10 ^ m := by rw [Nat.add_mul, Nat.one_mul]
            _ ≤ 4294967296 ^ ws.length * 4294967296 := Nat.mul_le_mul h1 (by omega)
            _ = _ := (Nat.pow_succ ..).symm
        · simp only []
          rw [dig_len, List.length_append, List.length_take]; omega
        · simp only []
          rw [List.length_drop]; omega
      · right
        rw [show decide ((0 : Int) < (u.length : Int)) = false by rw [decide_eq_false_iff_not]; omega, cfm]
        have : u = [] := List.length_eq_zero_iff.1 (by omega)
        subst this
        rw [List.append_nil] at hp
        subst hp
        exact ⟨_, rfl, hw, hv⟩
    · rintro e ⟨he, hv⟩
      rw [build_eq _ _ he, bsm, hv, zc_zn]
  · rw [if_neg hok, show (!decide (Dec t ∧ ¬ (n = true ∧ t = [48]))) = true by rw [decide_eq_false hok]; rfl, ctm]; rfl
end Go.Proofs.Ytgkafblpckcekaa
namespace Go.Proofs.Ytgkafblpckcekaa
open Go.Fw
theorem zeta' (z : Zr) : (⟨z.neg, z.w⟩ : Zr) = z := by cases z; rfl
theorem n_eq {i : Int} (h : i64ok i) : law01_n_m i = some (zn i) := by
  unfold law01_n_m
  rw [fromInt_eq h.1 h.2, bsm]
theorem is_eq {i j : Int} {L : Nat} (h : i64ok i) (hj : Fit L j) (hL : L ≤ 100000000) : law01_is_m (zn j) i = some (decide (j = i)) := by
  unfold law01_is_m
  simp only [zeta', from_eq h, bsm]
  obtain ⟨b, h1, h2⟩ := same_eq (x := zn j) (y := zn i) (by have := (wl_zn hj hL).2; omega)
  rw [h1, bsm]
  congr 1
  by_cases e : j = i
  · rw [h2.2 (by rw [e])]; simp [e]
  · have : b ≠ true := fun hb => e (zn_inj (h2.1 hb))
    simp [e, this]
theorem small_fit {i : Int} (h : i64ok i) : Fit 2 i := Fit.i64 h.1 h.2
theorem wl_small {i : Int} (h : i64ok i) : Wl (zn i) := wl_zn (small_fit h) (by decide)
theorem sdiv {i j q r : Int} (hi : i64ok i) (hj : i64ok j) (h0 : j ≠ 0) (hq : i / j = q) (hr : i % j = r) : whole_DivMod_m (zn i) (zn j) = some (zn q, zn r, 0) := by
  rw [divMod_eq (wl_small hi) (wl_small hj), zi_zn, zi_zn, dmOf, if_neg h0, hq, hr]
theorem sgcd {i j g : Int} (hi : i64ok i) (hj : i64ok j) (h : (Int.gcd i j : Int) = g) : whole_GCD_m (zn i) (zn j) = some (zn g) := by
  rw [gcd_eq (wl_small hi) (wl_small hj), zi_zn, zi_zn, h]
theorem can10 (l : List Nat) (x : Nat) (hx : x ≠ 0) (h : ∀ y ∈ l ++ [x], y < 10) (v : Nat) (hv : val 10 (l ++ [x]) = v) : can 10 v = l ++ [x] := by
  rw [← hv]; exact (can_of (by decide) hx h).symm
theorem alive_eq : law01_alive_m = some true := by
  have k : ∀ i : Int, -100 ≤ i → i ≤ 100 → i64ok i := fun i h h' => ⟨by omega, by omega⟩
  have kmin : i64ok (-9223372036854775808) := by decide
  have d1 := sdiv (i := -7) (j := 2) (q := -4) (r := 1) (by decide) (by decide) (by decide) (by decide) (by decide)
  have d2 := sdiv (i := -7) (j := -2) (q := 4) (r := 1) (by decide) (by decide) (by decide) (by decide) (by decide)
  have d3 := sdiv (i := 7) (j := -2) (q := -3) (r := 1) (by decide) (by decide) (by decide) (by decide) (by decide)
  have g1 := sgcd (i := -12) (j := 18) (g := 6) (by decide) (by decide) (by decide)
  have g2 := sgcd (i := 0) (j := -5) (g := 5) (by decide) (by decide) (by decide)
  have p : whole_Parse_m [45, 48] = some (z0, 3) := by
    rw [parse_eq _ (by simp)]
    congr 1
  have f := format_eq (wl_small kmin)
  rw [zi_zn] at f
  have ft : txt (-9223372036854775808) = [45, 57, 50, 50, 51, 51, 55, 50, 48, 51, 54, 56, 53, 52, 55, 55, 53, 56, 48, 56] := by
    rw [txt, if_pos (by decide), show (-9223372036854775808 : Int).natAbs = 9223372036854775808 by decide, txtN, if_neg (by decide), can10 [8, 0, 8, 5, 7, 7, 4, 5, 8, 6, 3, 0, 2, 7, 3, 3, 2, 2] 9 (by decide) (by decide) _ (by decide)]
    decide
  rw [ft] at f
  have is' : ∀ i j : Int, i64ok i → i64ok j → law01_is_m (zn j) i = some (decide (j = i)) := fun i j hi hj => is_eq hi (small_fit hj) (by decide)
  unfold law01_alive_m
  simp only [n_eq (i := -7) (by decide), n_eq (i := 2) (by decide), n_eq (i := -2) (by decide), n_eq (i := 7) (by decide), n_eq (i := -12) (by decide), n_eq (i := 18) (by decide), n_eq (i := 0) (by decide), n_eq (i := -5) (by decide), n_eq kmin, bsm, zeta', letJ, d1, d2, d3, p, g1, g2, f,
    is' (-4) (-4) (by decide) (by decide), is' 1 1 (by decide) (by decide), is' 4 4 (by decide) (by decide), is' (-3) (-3) (by decide) (by decide), is' 6 6 (by decide) (by decide), is' 5 5 (by decide) (by decide)]
  rfl
end Go.Proofs.Ytgkafblpckcekaa
namespace Go.Proofs.Ytgkafblpckcekaa
open Go.Fw
theorem long_eq (l : List Zr) (hl : l.length ≤ 100) : ∃ b, law01_Long_m l = some b ∧ (b = false → ∀ z ∈ l, z.w.length ≤ 12) := by
  unfold law01_Long_m
  simp only [bsm]
  refine bind_loop_ex (fun y => ∃ i : Nat, y = (i : Int) ∧ i ≤ l.length ∧ ∀ z ∈ l.take i, z.w.length ≤ 12) (fun e => (∃ c, e = .inl c ∧ ∀ z ∈ l, z.w.length ≤ 12) ∨ e = .inr true) (fun y => l.length - y.toNat) ?_ ⟨0, rfl, by omega, by simp⟩ ?_
  · rintro _ ⟨i, rfl, hi, ht⟩
    by_cases hlt : i < l.length
    · have g : l[i]? = some l[i] := by simp
      rw [show decide ((i : Int) < (l.length : Int)) = true by simp [hlt], ctm, geti_nat g, bsm]
      by_cases h12 : l[i].w.length ≤ 12
      · left
        rw [show decide ((12 : Int) < (l[i].w.length : Int)) = false by rw [decide_eq_false_iff_not]; omega, cfm, w64_succ (by omega)]
        refine ⟨_, rfl, ⟨i + 1, rfl, hlt, ?_⟩, by omega⟩
        rw [List.take_add_one, g]
        intro z hz
        rcases List.mem_append.1 hz with h | h
        · exact ht z h
        · simp at h; rw [h]; exact h12
      · right
        rw [show decide ((12 : Int) < (l[i].w.length : Int)) = true by rw [decide_eq_true_eq]; omega, ctm]
        exact ⟨_, rfl, .inr rfl⟩
    · right
      rw [show decide ((i : Int) < (l.length : Int)) = false by simp; omega, cfm]
      rw [List.take_of_length_le (by omega)] at ht
      exact ⟨_, rfl, .inl ⟨_, rfl, ht⟩⟩
  · rintro e (⟨c, rfl, he⟩ | rfl)
    · exact ⟨false, rfl, fun _ => he⟩
    · exact ⟨true, rfl, fun h => by cases h⟩
theorem same_zn {L : Nat} {a : Int} (b : Int) (h : Fit L a) (hL : L ≤ 100000000) : ref01_Same_m (zn a) (zn b) = some (decide (a = b)) := by
  obtain ⟨c, h1, h2⟩ := same_eq (x := zn a) (y := zn b) (by have := (wl_zn h hL).2; omega)
  rw [h1]
  congr 1
  by_cases e : a = b
  · rw [h2.2 (by rw [e])]; simp [e]
  · have : c ≠ true := fun hb => e (zn_inj (h2.1 hb))
    simp [e, this]
abbrev OkZ (z : Zr) : Prop := True ∧ (z.w.length ≤ 9223372036854775807 ∧ ∀ x ∈ z.w, x < 4294967296)
theorem wl_of {z : Zr} (h : OkZ z) (h' : z.w.length ≤ 12) : Wl z ∧ Fit 12 (zi z) := by
  have w : Wl z := ⟨h.2.2, by omega⟩
  exact ⟨w, (Wl.fit w).mono h'⟩
end Go.Proofs.Ytgkafblpckcekaa
namespace Go.Proofs.Ytgkafblpckcekaa
open Go.Fw
theorem Fit.gcd {L : Nat} {i j : Int} (h : Fit L i) (h' : Fit L j) : Fit L (Int.gcd i j : Int) := by
  by_cases h0 : i = 0
  · subst h0; rw [Int.gcd_zero_left]; exact h'.le (by simp)
  · have : Int.gcd i j ∣ i.natAbs := Nat.gcd_dvd_left _ _
    exact h.le (by have := Nat.le_of_dvd (by omega) this; simpa using this)
end Go.Proofs.Ytgkafblpckcekaa
namespace Go.Proofs.Ytgkafblpckcekaa
open Go.Fw
theorem c16_len0 {v : Nat} : (can 65536 v).length = 0 ↔ v = 0 := by
  constructor
  · intro h; exact can_nil (by decide) (List.length_eq_zero_iff.1 h)
  · intro h; rw [h, can_zero]; rfl
theorem rSign_eq {x : Zr} (h : Wl x) : ref01_Sign_m x = some (zi x).sign := by
  unfold ref01_Sign_m
  simp only [halves_of h, bsm, zl_len]
  have hz := c16_len0 (v := (zi x).natAbs)
  have hneg : x.neg = true → zi x ≤ 0 := fun e => by unfold zi; rw [e]; simp [sv]
  have hpos : x.neg = false → 0 ≤ zi x := fun e => by unfold zi; rw [e]; simp [sv]
  by_cases h0 : zi x = 0
  · rw [h0]; rfl
  · rw [show decide (((can 65536 (zi x).natAbs).length : Int) = 0) = false by rw [decide_eq_false_iff_not]; omega, cfm]
    cases hn : x.neg
    · have := hpos hn
      rw [cfm, Int.sign_eq_one_of_pos (by omega)]
    · have := hneg hn
      rw [ctm, Int.sign_eq_neg_one_of_neg (by omega)]
end Go.Proofs.Ytgkafblpckcekaa
namespace Go.Proofs.Ytgkafblpckcekaa
open Go.Fw
theorem catM_of {l k : Str} (h : l.length + k.length ≤ 9223372036854775807) : catM l k = some (l ++ k) := by simp [catM, h]
theorem can_ten : can 65536 10 = [10] := can_one (by decide) (by decide) (by decide)
theorem txtN_dig (V : Nat) : (asc (dig 10 (max 1 (can 10 V).length) V)).reverse = txtN V := by
  unfold txtN
  by_cases h : V = 0
  · subst h; rfl
  · have : (can 10 V).length ≠ 0 := fun e => h (can_nil (by decide) (List.length_eq_zero_iff.1 e))
    rw [if_neg h, show max 1 (can 10 V).length = (can 10 V).length by omega, ← can_dig (by decide)]
theorem txtN_dig' {V n : Nat} (h : max 1 (can 10 V).length = n) : (asc (dig 10 n V)).reverse = txtN V := by rw [← h, txtN_dig]
theorem ten_len {V n : Nat} (h : (can 65536 V).length ≤ n) : (can 10 V).length ≤ 5 * n := by
  apply (can_len_iff (by decide)).2
  have h1 := (can_len_iff (B := 65536) (v := V) (by decide)).1 h
  refine Nat.lt_of_lt_of_le h1 ?_
  rw [Nat.pow_mul]
  exact Nat.pow_le_pow_left (by decide) _
theorem ten_pow {v a n B : Nat} (hB : 10 ≤ B) (h : v < 10 ^ a) (ha : a ≤ n) : v < B ^ n :=
  Nat.lt_of_lt_of_le h (Nat.le_trans (Nat.pow_le_pow_right (by decide) ha) (Nat.pow_le_pow_left hB _))
theorem can_ten_len {v a n B : Nat} (hB : 10 ≤ B) (h : v < 10 ^ a) (ha : a ≤ n) : (can B v).length ≤ n := (can_len_iff (by omega)).2 (ten_pow hB h ha)
theorem can_mul_len {v n m : Nat} (h : (can 65536 v).length ≤ n) (hm : m ≤ 65536) : (can 65536 (v * m)).length ≤ n + 1 := by
  apply (can_len_iff (by decide)).2
  have := (can_len_iff (B := 65536) (n := n) (by decide)).1 h
  rw [Nat.pow_succ]
  exact Nat.lt_of_le_of_lt (Nat.mul_le_mul_left v hm) (Nat.mul_lt_mul_of_pos_right this (by decide))
theorem rText_eq {x : Zr} (h : Wl x) : ref01_Text_m x = some (txt (zi x)) := by
  have c := h.c16
  unfold ref01_Text_m
  simp only [zeta', letJ, bsm, halves_of h, rSign_eq h]
  obtain ⟨V, hV⟩ : ∃ V, (zi x).natAbs = V := ⟨_, rfl⟩
  rw [hV] at c ⊢
  have hten := ten_len c
  obtain ⟨n, hn⟩ : ∃ n, max 1 (can 10 V).length = n := ⟨_, rfl⟩
  refine bind_loop_to (fun k => (zl (can 65536 (V / 10 ^ k)), ((asc (dig 10 k V)).reverse).map UInt8.ofNat)) n ((txtN V).map UInt8.ofNat) ?_ (fun k hk => ?_) ?_ ?_
  · simp [dig, asc]
  · have hX : (can 65536 (V / 10 ^ k)).length ≤ 200000000 := Nat.le_trans ((can_len_iff (by decide)).2 (Nat.lt_of_le_of_lt (Nat.div_le_self _ _) (lt_can_len (by decide) V))) c
    have hcond : ((bif decide ((0 : Int) < ((can 65536 (V / 10 ^ k)).length : Int)) then some true else some (decide (((asc (dig 10 k V)).reverse).map UInt8.ofNat = ([] : Str)))) : Option Bool) = some true := by
      by_cases h0 : k = 0
      · subst h0
        rw [show decide (((asc (dig 10 0 V)).reverse).map UInt8.ofNat = ([] : Str)) = true by simp [dig, asc]]
        exact bif_same _ _
      · have h1 := pow_le_of_can (B := 10) (v := V) (n := k) (by decide) (by omega)
        have h2 : V / 10 ^ k ≠ 0 := by
          have := Nat.div_pos h1 (Nat.pow_pos (by decide)); omega
        have h3 : (can 65536 (V / 10 ^ k)).length ≠ 0 := fun e => h2 (c16_len0.1 e)
        rw [show decide ((0 : Int) < ((can 65536 (V / 10 ^ k)).length : Int)) = true by rw [decide_eq_true_eq]; omega, ctm]
    have hd := rdiv_eq (V / 10 ^ k) 10 (by decide) (by omega) (by rw [can_ten]; decide)
    rw [can_ten] at hd
    simp only [zl_len]
    rw [hcond, bsm, ctm, show [(10 : Int)] = zl [10] from rfl, hd, bsm]
    simp only []
    have hm := Nat.mod_lt (V / 10 ^ k) (show 0 < 10 by decide)
    rw [show (0 : Int) = ((0 : Nat) : Int) from rfl, at_eq (fun _ hx => can_lt (by decide) hx) 0, bsm, v16_can]
    have e1 : (((V / 10 ^ k % 10 / 65536 ^ 0 % 65536 : Nat) : Int) % 256).toNat = V / 10 ^ k % 10 := by
      rw [Nat.pow_zero, Nat.div_one]; omega
    rw [e1, Nat.mod_eq_of_lt (a := 48 + V / 10 ^ k % 10) (by omega), catM_of (by simp [asc, dig_len]; omega), bsm, Nat.div_div_eq_div_mul, ← Nat.pow_succ, dig_succ, asc_app, List.reverse_append, List.map_append]
    rfl
  · simp only [zl_len]
    rw [can_beyond (B := 10) (by decide) (show (can 10 V).length ≤ n by omega), txtN_dig' hn]
    have h1 : decide (List.map UInt8.ofNat (txtN V) = ([] : Str)) = false := by
      rw [decide_eq_false_iff_not, ← txtN_dig' hn]
      simp [asc]
      intro e
      have := congrArg List.length e
      rw [dig_len] at this; simp at this; omega
    rw [show decide ((0 : Int) < ((can 65536 0).length : Int)) = false by rfl, cfm, h1]
    rfl
  · have hs : (zi x).sign < 0 ↔ zi x < 0 := by
      rcases Int.lt_trichotomy (zi x) 0 with e | e | e
      · rw [Int.sign_eq_neg_one_of_neg e]; simp [e]
      · rw [e]; simp
      · rw [Int.sign_eq_one_of_pos e]; simp; omega
    unfold txt
    rw [hV]
    by_cases hn0 : zi x < 0
    · rw [show decide ((zi x).sign < 0) = true by rw [decide_eq_true_eq]; exact hs.2 hn0, ctm, if_pos hn0, catM_of (by rw [List.length_map, ← txtN_dig, List.length_reverse, asc_len, dig_len]; simp; omega), bsm]
      rfl
    · rw [show decide ((zi x).sign < 0) = false by rw [decide_eq_false_iff_not]; exact fun e => hn0 (hs.1 e), cfm, if_neg hn0]
theorem rParse_eq (s : Str) (hs : s.length ≤ 9223372036854775807) : ref01_Parse_m s = some (parseOf s) := by
  unfold ref01_Parse_m
  simp only [letJ, bsm]
  have hneg : ((bif decide (s ≠ []) then (sgeti s 0).bind fun x12 => some (decide (x12 = 45)) else some false) : Option Bool) = some (neg? s) := by
    rcases s with _ | ⟨c, t⟩
    · rfl
    · rw [show decide ((c :: t) ≠ []) = true by simp, ctm, show (0 : Int) = ((0 : Nat) : Int) from rfl, sgeti_nat (c := c) (by simp), bsm]
      congr 1
      rw [neg?, List.head?_cons]
      by_cases hc : c = 45
      · subst hc; rfl
      · rw [show decide (some c = some (45 : UInt8)) = false by simp [hc], decide_eq_false_iff_not]
        exact fun e => hc (UInt8.toNat_inj.1 e)
  rw [hneg, bsm]
  suffices H : ∀ (n : Bool) (t : Str), t.length ≤ 9223372036854775807 →
      (bif decide ((1000 : Int) < (t.length : Int)) then some ((⟨false, []⟩ : Zr), (5 : Int))
       else (bif decide (t = []) then some true else (sgeti t 0).bind fun x27 => (bif decide (x27 = 48) then (bif decide ((1 : Int) < (t.length : Int)) then some true else some n) else some false)).bind fun c37 =>
         bif c37 then some ((⟨false, []⟩ : Zr), (3 : Int))
         else (loopM (fun (s20 : (List Int) × Int) =>
                        (show Option (((List Int) × Int) ⊕ (((List Int)) ⊕ (Zr × Int))) from
                            (bif decide (s20.2 < (t.length : Int)) then
                                (sgeti t s20.2).bind fun x47 =>
                                (bif decide (x47 < 48) then some true
                                  else (sgeti t s20.2).bind fun x52 => some (decide (57 < x52))).bind fun c54 =>
                                (bif c54 then some (.inr (.inr (⟨false, []⟩, 3)))
                                      else
                                        (ref01_times_m s20.1 10).bind fun x57 =>
                                        (sgeti t s20.2).bind fun x60 =>
                                        (ref01_trim_m [IntKind.i64.wrap ((usub 256 x60 48 : Nat) : Int)]).bind fun x64 =>
                                        (ref01_add_m x57 x64).bind fun x65 =>
                                        some (.inl (x65, IntKind.i64.wrap (s20.2 + 1))))
                              else
                                some (.inr (.inl s20.1))))) ([], 0)).bind fun e20 =>
                        match e20 with
                        | .inr v20 => some v20
                        | .inl y6e19 => (ref01_of_m n y6e19).bind fun x => some (⟨x.neg, x.w⟩, 0)) =
      some (if 1000 < t.length then (z0, 5) else if Dec t ∧ ¬ (n = true ∧ t = [48]) then (zn (sv n (dv t)), 0) else (z0, 3)) by
    unfold parseOf body
    cases hn : neg? s
    · rw [cfm]
      have hh : ¬ (s.head? = some 45) := by unfold neg? at hn; exact of_decide_eq_false hn
      rw [if_neg hh, ← H false s hs]
      have e : ∀ b : Bool, ∀ x y : Option Bool, (bif b then x else y).bind (fun c => some c) = (bif b then x else y) := fun b x y => by cases b <;> simp
      simp only [e]
      rfl
    · rw [ctm]
      have hh : s.head? = some 45 := by unfold neg? at hn; exact of_decide_eq_true hn
      have hl : 1 ≤ s.length := by rcases s with _ | ⟨c, t⟩ <;> simp_all
      have ht : cut s 1 s.length = s.tail := by
        rcases s with _ | ⟨c, t⟩
        · rfl
        · simp [cut]
      rw [show subM s 1 (s.length : Int) = some s.tail by rw [show (1 : Int) = ((1 : Nat) : Int) from rfl, subM_nat hl (Nat.le_refl _), ht], bsm, if_pos hh, ← H true s.tail (by simp; omega)]
      have e : ∀ b : Bool, ∀ x y : Option Bool, (bif b then x else y).bind (fun c => some c) = (bif b then x else y) := fun b x y => by cases b <;> simp
      simp only [e]
      rfl
  intro n t hs
  by_cases hl : 1000 < t.length
  · rw [show decide ((1000 : Int) < (t.length : Int)) = true by rw [decide_eq_true_eq]; omega, ctm, if_pos hl]; rfl
  rw [show decide ((1000 : Int) < (t.length : Int)) = false by rw [decide_eq_false_iff_not]; omega, cfm, if_neg hl]
  rcases ht : t with _ | ⟨c, u⟩
  · rw [if_neg (by simp [Dec])]; rfl
  rw [show decide ((c :: u : Str) = []) = false by simp, cfm, show (0 : Int) = ((0 : Nat) : Int) from rfl, sgeti_nat (c := c) (by simp), bsm]
  rw [← ht]
  have hbad : ((bif decide (c.toNat = 48) then (bif decide (((1 : Nat) : Int) < (t.length : Int)) then some true else some n) else some false) : Option Bool) = some (decide (c = 48 ∧ (1 < t.length ∨ n = true))) := by
    by_cases hc : c = 48
    · subst hc
      rw [show decide ((48 : UInt8).toNat = 48) = true by decide, ctm]
      by_cases h1 : 1 < t.length
      · rw [show decide (((1 : Nat) : Int) < (t.length : Int)) = true by rw [decide_eq_true_eq]; omega, ctm]; simp [h1]
      · rw [show decide (((1 : Nat) : Int) < (t.length : Int)) = false by rw [decide_eq_false_iff_not]; omega, cfm]; simp [h1]
    · rw [show decide (c.toNat = 48) = false by rw [decide_eq_false_iff_not]; exact fun e => hc ((c48 c).1 e), cfm]; simp [hc]
  rw [show (1 : Int) = ((1 : Nat) : Int) from rfl, hbad, bsm]
  have hhead : t.head? = some c := by rw [ht]; rfl
  by_cases hz : c = 48 ∧ (1 < t.length ∨ n = true)
  · rw [show decide (c = 48 ∧ (1 < t.length ∨ n = true)) = true by rw [decide_eq_true_eq]; exact hz, ctm, if_neg ?_]; · rfl
    rintro ⟨⟨-, h1, -⟩, h2⟩
    have h3 := h1 (by rw [hhead, hz.1])
    rcases hz.2 with h | h
    · omega
    · refine h2 ⟨h, ?_⟩
      rw [ht] at h3 ⊢
      rw [hz.1, List.length_eq_zero_iff.1 (show u.length = 0 by simpa using h3)]
  rw [show decide (c = 48 ∧ (1 < t.length ∨ n = true)) = false by rw [decide_eq_false_iff_not]; exact hz, cfm]
  have hne : t ≠ [] := by rw [ht]; simp
  have hfirst : t.head? = some 48 → t.length = 1 := fun e => by
    rw [hhead] at e
    have e' : c = 48 := by simpa using e
    have : ¬ (1 < t.length) := fun h => hz ⟨e', .inl h⟩
    have : t.length ≠ 0 := fun h => hne (List.length_eq_zero_iff.1 h)
    omega
  have hnz : ¬ (n = true ∧ t = [48]) := by
    rintro ⟨h1, h2⟩
    rw [h2] at hhead
    exact hz ⟨by simpa using hhead.symm, .inr h1⟩
  refine bind_loop (fun y => ∃ i : Nat, i ≤ t.length ∧ y = (zl (can 65536 (dv (t.take i))), (i : Int)) ∧ ∀ c ∈ t.take i, digit c)
    (fun e => ((∀ c ∈ t, digit c) ∧ e = .inl (zl (can 65536 (dv t)))) ∨ ((∃ c ∈ t, ¬ digit c) ∧ e = .inr (z0, 3))) (fun y => t.length - y.2.toNat) ?_ ⟨0, by omega, by simp [dv, can_zero, zl], by simp⟩ ?_
  · rintro _ ⟨i, hi, rfl, hd⟩
    have hlen : (can 65536 (dv (t.take i))).length ≤ 1000 := can_ten_len (by decide) (dv_lt hd) (by rw [List.length_take]; omega)
    by_cases hlt : i < t.length
    · have g : t[i]? = some t[i] := by simp
      simp only []
      rw [show decide ((i : Int) < (t.length : Int)) = true by simp [hlt], ctm, sgeti_nat g, bsm, bsm]
      by_cases hdg : digit t[i]
      · left
        have hd' := hdg
        unfold digit at hd'
        have htl := rtimes_eq (can 65536 (dv (t.take i))) 10 ⟨fun _ hx => can_lt (by decide) hx, by omega⟩ (by decide)
        rw [v16_can] at htl
        have htr := rtrim_eq [t[i].toNat - 48] (by simp)
        rw [trim_can (B := 65536) (by decide) (by simp; omega)] at htr
        have hv1 : val 65536 [t[i].toNat - 48] = t[i].toNat - 48 := by simp [val]
        rw [hv1] at htr
        have hlen2 : (can 65536 (dv (t.take i) * 10)).length ≤ 1001 := can_mul_len hlen (by decide)
        have hlen3 : (can 65536 (t[i].toNat - 48)).length ≤ 1 := (can_len_iff (by decide)).2 (by omega)
        have had := radd_eq (can 65536 (dv (t.take i) * 10)) (can 65536 (t[i].toNat - 48)) ⟨fun _ hx => can_lt (by decide) hx, by omega⟩ ⟨fun _ hx => can_lt (by decide) hx, by omega⟩
        rw [v16_can, v16_can] at had
        rw [show decide (t[i].toNat < 48) = false by simp; omega, cfm, bsm, show decide (57 < t[i].toNat) = false by simp; omega, cfm, show (10 : Int) = ((10 : Nat) : Int) from rfl, htl, bsm, bsm, usub_of (by omega) (by omega), w64_nat (by omega), show [((t[i].toNat - 48 : Nat) : Int)] = zl [t[i].toNat - 48] from rfl, htr, bsm, had, bsm, w64_add (by omega)]
        refine ⟨_, rfl, ⟨i + 1, hlt, ?_, ?_⟩, by simp only []; omega⟩
        · rw [List.take_add_one, g, show (some t[i]).toList = [t[i]] from rfl, dv_app, dv_one, List.length_singleton, Nat.pow_one]
        · rw [List.take_add_one, g]
          intro z hz
          rcases List.mem_append.1 hz with h | h
          · exact hd z h
          · simp at h; rw [h]; exact hdg
      · right
        have hc : ((bif decide (t[i].toNat < 48) then some true else some (decide (57 < t[i].toNat))) : Option Bool) = some true := by
          unfold digit at hdg
          by_cases h48 : t[i].toNat < 48
          · simp [h48]
          · have : 57 < t[i].toNat := by omega
            simp [h48, this]
        rw [hc, bsm, ctm]
        exact ⟨_, rfl, .inr ⟨⟨t[i], by simp, hdg⟩, rfl⟩⟩
    · right
      simp only []
      rw [show decide ((i : Int) < (t.length : Int)) = false by simp; omega, cfm]
      rw [List.take_of_length_le (by omega)] at hd ⊢
      exact ⟨_, rfl, .inl ⟨hd, rfl⟩⟩
  · rintro e (⟨hd, rfl⟩ | ⟨⟨c, hc, hdg⟩, rfl⟩)
    · have hlen : (can 65536 (dv t)).length ≤ 1000 := can_ten_len (by decide) (dv_lt hd) (by omega)
      rw [if_pos ⟨⟨hne, hfirst, hd⟩, hnz⟩]
      simp only []
      rw [of_can _ _ (by omega), bsm]
    · rw [if_neg (fun h => hdg (h.1.2.2 c hc))]
end Go.Proofs.Ytgkafblpckcekaa
namespace Go.Proofs.Ytgkafblpckcekaa
open Go.Fw
theorem asc_map {l : List Nat} (h : ∀ d ∈ l, d < 10) : ∀ c ∈ (asc l).map UInt8.ofNat, digit c := by
  intro c hc
  simp only [asc, List.map_map, List.mem_map, Function.comp] at hc
  obtain ⟨d, hd, rfl⟩ := hc
  have := h d hd
  unfold digit
  rw [UInt8.toNat_ofNat', Nat.mod_eq_of_lt (by omega)]
  omega
theorem dv_asc : ∀ (l : List Nat), (∀ d ∈ l, d < 10) → dv ((asc l).reverse.map UInt8.ofNat) = val 10 l
  | [], _ => rfl
  | d :: l, h => by
    have := h d (by simp)
    rw [show asc (d :: l) = (48 + d) :: asc l from rfl, List.reverse_cons, List.map_append, dv_app, dv_asc l (fun x hx => h x (by simp [hx]))]
    simp only [List.map_cons, List.map_nil, List.length_singleton, Nat.pow_one, dv_one]
    rw [UInt8.toNat_ofNat', Nat.mod_eq_of_lt (by omega), val]
    omega
theorem txtN_dec (V : Nat) : Dec ((txtN V).map UInt8.ofNat) ∧ dv ((txtN V).map UInt8.ofNat) = V ∧ ((txtN V).map UInt8.ofNat = [48] → V = 0) := by
  by_cases h : V = 0
  · subst h; exact ⟨by decide, by decide, fun _ => rfl⟩
  · have e : txtN V = (asc (can 10 V)).reverse := by rw [txtN, if_neg h]
    have hv : dv ((txtN V).map UInt8.ofNat) = V := by rw [e, dv_asc _ (fun d hd => can_lt (by decide) hd), val_can (by decide)]
    have h48 : (txtN V).map UInt8.ofNat = [48] → V = 0 := fun e' => by rw [e'] at hv; exact hv.symm
    refine ⟨⟨?_, ?_, ?_⟩, hv, h48⟩
    · rw [e]; simp [asc]; exact fun e' => h (can_nil (by decide) e')
    · obtain ⟨l, x, hx, hc⟩ := can_last (B := 10) (by decide) h
      intro hh
      rw [e, hc] at hh
      have hx10 : x < 10 := can_lt (B := 10) (v := V) (by decide) (by rw [hc]; simp)
      have hh' : some (UInt8.ofNat (48 + x)) = some 48 := by rw [← hh]; simp [asc]
      have := congrArg UInt8.toNat (Option.some.inj hh')
      rw [UInt8.toNat_ofNat', Nat.mod_eq_of_lt (by omega)] at this
      have h48' : (48 : UInt8).toNat = 48 := by decide
      omega
    · rw [e, List.map_reverse]
      intro c hc
      exact asc_map (fun d hd => can_lt (by decide) hd) c (List.mem_reverse.1 hc)
theorem dec_txtN {t : Str} (h : Dec t) : (txtN (dv t)).map UInt8.ofNat = t := by
  obtain ⟨h1, h2, h3⟩ := h
  obtain ⟨l, hl⟩ : ∃ l, t.reverse.map (fun c => c.toNat - 48) = l := ⟨_, rfl⟩
  have hlt : ∀ d ∈ l, d < 10 := by
    intro d hd
    rw [← hl] at hd
    obtain ⟨c, hc, rfl⟩ := List.mem_map.1 hd
    have := h3 c (List.mem_reverse.1 hc)
    unfold digit at this
    omega
  have ht : (asc l).reverse.map UInt8.ofNat = t := by
    rw [← hl, asc, List.map_map, ← List.map_reverse, List.reverse_reverse, List.map_map]
    conv => rhs; rw [← List.map_id t]
    apply List.map_congr_left
    intro c hc
    have := h3 c hc
    unfold digit at this
    simp only [Function.comp, id]
    rw [show 48 + (c.toNat - 48) = c.toNat by omega]
    exact UInt8.ofNat_toNat
  have hv : dv t = val 10 l := by rw [← ht, dv_asc l hlt]
  by_cases h0 : dv t = 0
  ·
    rcases t with _ | ⟨c, u⟩
    · exact absurd rfl h1
    · have hcd := h3 c (by simp)
      unfold digit at hcd
      rw [show c :: u = [c] ++ u from rfl, dv_app, dv_one] at h0
      have hpos : 0 < 10 ^ u.length := Nat.pow_pos (by decide)
      have hc0 : c.toNat - 48 = 0 := by
        rcases Nat.eq_zero_or_pos (c.toNat - 48) with e | e
        · exact e
        · have := Nat.mul_pos e hpos; omega
      have hc : c = 48 := (c48 c).1 (by omega)
      subst hc
      have := h2 rfl
      have hu : u = [] := List.length_eq_zero_iff.1 (by simpa using this)
      subst hu
      decide
  · have hle : l ≠ [] := fun e => h1 (by rw [← ht, e]; rfl)
    have hlast : ∃ k x, x ≠ 0 ∧ l = k ++ [x] := by
      rcases trim_cases l with e | ⟨k, e⟩ | ⟨k, x, hx, e⟩
      · exact absurd e hle
      · exfalso
        have hhead : t.head? = some 48 := by rw [← ht, e]; simp [asc]
        have := h2 hhead
        have hk : l.length = 1 := by rw [← hl]; simp [this]
        rw [e] at hk
        have hk0 : k = [] := List.length_eq_zero_iff.1 (by simpa using hk)
        rw [hk0] at e
        rw [hv, e] at h0
        exact h0 rfl
      · exact ⟨k, x, hx, e⟩
    obtain ⟨k, x, hx, e⟩ := hlast
    have hcan : can 10 (val 10 l) = l := by rw [e]; exact (can_of (by decide) hx (by rw [← e]; exact hlt)).symm
    rw [hv] at h0 ⊢
    rw [txtN, if_neg h0, hcan, ht]
theorem txtN_head (V : Nat) : ((txtN V).map UInt8.ofNat).head? ≠ some 45 := by
  intro e
  have hd := (txtN_dec V).1.2.2
  rcases h : (txtN V).map UInt8.ofNat with _ | ⟨c, u⟩
  · rw [h] at e; cases e
  · rw [h] at e hd
    have := hd c (by simp)
    unfold digit at this
    simp at e
    subst e
    exact absurd this.1 (by decide)
theorem parse_txt {i : Int} (h : (can 10 i.natAbs).length ≤ 1000) : parseOf (txt i) = (zn i, 0) := by
  obtain ⟨d1, d2, d3⟩ := txtN_dec i.natAbs
  have hlen : ((txtN i.natAbs).map UInt8.ofNat).length ≤ 1000 := by rw [List.length_map, ← txtN_dig, List.length_reverse, asc_len, dig_len]; omega
  unfold parseOf txt
  by_cases hn : i < 0
  · rw [if_pos hn]
    have hb : body ((45 :: txtN i.natAbs).map UInt8.ofNat) = (txtN i.natAbs).map UInt8.ofNat := by rw [body, if_pos (by rfl)]; rfl
    have hng : neg? ((45 :: txtN i.natAbs).map UInt8.ofNat) = true := by rw [neg?, decide_eq_true_eq]; rfl
    rw [hb, hng, if_neg (by omega), if_pos ⟨d1, fun h => by have := d3 h.2; omega⟩, d2, show sv true i.natAbs = i by simp [sv]; omega]
  · rw [if_neg hn]
    have hh := txtN_head i.natAbs
    have hb : body ((txtN i.natAbs).map UInt8.ofNat) = (txtN i.natAbs).map UInt8.ofNat := by rw [body, if_neg hh]
    have hng : neg? ((txtN i.natAbs).map UInt8.ofNat) = false := by rw [neg?, decide_eq_false_iff_not]; exact hh
    rw [hb, hng, if_neg (by omega), if_pos ⟨d1, fun h => by cases h.1⟩, d2, show sv false i.natAbs = i by rw [sv_false]; omega]
theorem txt_parse {s : Str} {z : Zr} (h : parseOf s = (z, 0)) : txt (zi z) = s := by
  unfold parseOf at h
  by_cases h1 : 1000 < (body s).length
  · rw [if_pos h1] at h; exact absurd (show (5 : Int) = 0 from congrArg Prod.snd h) (by decide)
  rw [if_neg h1] at h
  by_cases h2 : Dec (body s) ∧ ¬ (neg? s = true ∧ body s = [48])
  · rw [if_pos h2] at h
    have hz : zn (sv (neg? s) (dv (body s))) = z := congrArg Prod.fst h
    have ht := dec_txtN h2.1
    rw [← hz, zi_zn, txt, sv_abs]
    by_cases hn : s.head? = some 45
    · have hng : neg? s = true := by rw [neg?, decide_eq_true_eq]; exact hn
      have hb : body s = s.tail := by rw [body, if_pos hn]
      have hs : s = 45 :: s.tail := by rcases s with _ | ⟨c, u⟩ <;> simp_all
      have hnz : dv (body s) ≠ 0 := by
        intro e
        rw [e] at ht
        exact h2.2 ⟨hng, ht.symm⟩
      rw [hng, if_pos (by simp [sv]; omega), List.map_cons, ht, hb]
      exact hs.symm
    · have hng : neg? s = false := by rw [neg?, decide_eq_false_iff_not]; exact hn
      have hb : body s = s := by rw [body, if_neg hn]
      rw [hng, if_neg (by simp [sv]), ht, hb]
  · rw [if_neg h2] at h; exact absurd (show (3 : Int) = 0 from congrArg Prod.snd h) (by decide)
theorem parseOf_len (s : Str) : (parseOf s).1.w.length ≤ 1000 := by
  unfold parseOf
  by_cases h1 : 1000 < (body s).length
  · rw [if_pos h1]; simp [z0]
  rw [if_neg h1]
  by_cases h2 : Dec (body s) ∧ ¬ (neg? s = true ∧ body s = [48])
  · rw [if_pos h2]
    show (can 4294967296 (sv (neg? s) (dv (body s))).natAbs).length ≤ 1000
    rw [sv_abs]
    exact can_ten_len (by decide) (dv_lt h2.1.2.2) (by omega)
  · rw [if_neg h2]; simp [z0]
theorem parseOf_wl (s : Str) : Wl (parseOf s).1 := by
  refine ⟨?_, by have := parseOf_len s; omega⟩
  unfold parseOf
  by_cases h1 : 1000 < (body s).length
  · rw [if_pos h1]; simp [z0]
  rw [if_neg h1]
  by_cases h2 : Dec (body s) ∧ ¬ (neg? s = true ∧ body s = [48])
  · rw [if_pos h2]
    exact fun x hx => can_lt (by decide) hx
  · rw [if_neg h2]; simp [z0]
theorem parse_law (x : Zr) (s : Str) (ox : OkZ x) (os : s.length ≤ 9223372036854775807) : law01_WholeParseMatches_m x s = some true := by
  unfold law01_WholeParseMatches_m
  simp only [zeta', letJ, bsm]
  obtain ⟨b, hb, hs⟩ := long_eq [x] (by simp)
  rw [hb, bsm]
  cases b
  · have hs := hs rfl
    have lx := hs x (by simp)
    obtain ⟨hx, fx⟩ := wl_of ox lx
    rw [cfm, bsm]
    by_cases hl : 1100 < s.length
    · rw [show decide ((1100 : Int) < (s.length : Int)) = true by rw [decide_eq_true_eq]; omega, ctm, alive_eq, bsm]
    rw [show decide ((1100 : Int) < (s.length : Int)) = false by rw [decide_eq_false_iff_not]; omega, cfm]
    have htl : (can 10 (zi x).natAbs).length ≤ 1000 := by
      have h16 : (can 65536 (zi x).natAbs).length ≤ 24 := by
        apply (can_len_iff (by decide)).2
        rw [show (65536 : Nat) ^ 24 = 4294967296 ^ 12 by decide]; exact fx
      have := ten_len h16
      omega
    have htn : (txt (zi x)).length ≤ 9223372036854775807 := by
      unfold txt
      rw [List.length_map]
      have : (txtN (zi x).natAbs).length ≤ 1000 := by rw [← txtN_dig, List.length_reverse, asc_len, dig_len]; omega
      split
      · simp; omega
      · omega
    have hps := parseOf_len s
    have hsm := same_refl (x := (parseOf s).1) (by omega)
    simp only [format_eq hx, bsm, parse_eq s os, rParse_eq s os, parse_eq _ htn, parse_txt htl, rText_eq hx, hsm, least_eq hx, same_zn _ fx (by decide), ne_eq, not_true_eq_false, decide_false, decide_true, Bool.not_true, cfm, alive_eq]
    obtain ⟨z, e, hze⟩ : ∃ z e, parseOf s = (z, e) := ⟨_, _, rfl⟩
    have hwl := parseOf_wl s
    rw [hze] at hwl ⊢
    simp only []
    by_cases he : e = 0
    · subst he
      rw [show decide (¬ ((0 : Int) = 0)) = false by decide, cfm, format_eq hwl, bsm, txt_parse hze, decide_eq_true (rfl : s = s), bsm, ctm, bsm]
    · rw [show decide (¬ e = 0) = true by rw [decide_eq_true_eq]; exact he, ctm, bsm, ctm, bsm]
  · rw [ctm, bsm, ctm, alive_eq, bsm]
end Go.Proofs.Ytgkafblpckcekaa
namespace Go.Proofs.Ytgkafblpckcekaa
open Go.Fw Go.RowKit Go.ChangeShapes Go.WideShapes Go.ChangeAt
set_option linter.unusedVariables false
theorem wholeParseMatches_contract (H : Type) (enc : TypeId × Value → H) (W : World) (base : Nat) (args : Array Value) (ds gs : List (DataW H)) (before : List MemPlace)
    (hval : ∀ (j : Nat) t v, Try.f4.params[j]? = some t → args[j]? = some v → Value.okWide Try.prog W .any base t v)
    (hW : DataW.Whole enc Try.prog Try.f4.params.toList Rows.wholeParseMatchesSpec.vars false W args.toList ds gs before) :
    Calls Try.prog 4 args W fun e W' => ∃ v, e = .returned v ∧ Rows.wholeParseMatchesSpec.post enc Try.prog Try.f4 false true false false W args v W' := by
  have hW' := hW
  obtain ⟨p, q, hA0, hV, rfl, hfz, hnd⟩ := hW
  have hA : DataW.TrodAll enc Try.prog W 0 (fun _ => true) true Try.f4.params.toList args.toList ds p := hA0
  rw [Try.params4] at hA hval
  obtain ⟨v0, vs0, d0, ds0, p0, q0, hargs, rfl, rfl, h0, r0⟩ := trodAll_cons hA
  obtain ⟨v1, vs1, d1, ds1, p1, q1, rfl, rfl, rfl, h1, r1⟩ := trodAll_cons r0
  obtain ⟨rfl, rfl, rfl⟩ := trodAll_nil r1
  obtain rfl : args = #[v0, v1] := by cases args; simp_all
  obtain ⟨rfl, rfl⟩ := trodVars_none hV
  have lt0 : ∀ x ∈ p0, x.block < W.heap.size := by obtain ⟨m, hm⟩ := h0; exact DataW.trod_lt m _ _ _ hm
  obtain ⟨x0, ok0, sz0, al0⟩ := arg_agg (P := Try.prog) (T := 24) (e := eZ) (hval 0 24 v0 rfl rfl) h0
  have lt1 : ∀ x ∈ p1, x.block < W.heap.size := by obtain ⟨m, hm⟩ := h1; exact DataW.trod_lt m _ _ _ hm
  obtain ⟨x1, ok1, sz1, al1⟩ := arg_one (P := Try.prog) (T := 9) (e := eStr) (hval 1 9 v1 rfl rfl) h1
  clear hA0
  refine (said_of (law01_WholeParseMatches_ok (parse_law x0 x1 ok0 ok1)) (W := W) (vs := [v0, v1]) ⟨al0, al1.1, trivial⟩).mono fun e W' ⟨he, bel⟩ => ?_
  subst he
  exact ⟨_, rfl, _, _, _, [], _, [], hW', trodAll_mk1 (shut_bool Try.underlying4 _), (trodAll_cons_mk (Below.trod laidOut_ (by kernel_rfl) (of_decide_eq_true (by kernel_rfl)) h0 bel lt0) (trodAll_cons_mk (Below.trod laidOut_ (by kernel_rfl) (of_decide_eq_true (by kernel_rfl)) h1 bel lt1) trodAll_mk0)), rfl, bel.frame _, fun h => by cases h⟩
set_option maxRecDepth 100000 in
theorem wholeParseMatches_lifted (os : Os) (started : os.Started) (H : Type) (enc : TypeId × Value → H) :
    ReturnsInHanded {} Try.checked os 4 .any (Rows.wholeParseMatchesSpec.pre6 enc Try.prog Try.f4 Rows.wholeParseMatchesRow.domain false) (Rows.wholeParseMatchesSpec.post enc Try.prog Try.f4 false true false false) := by
  refine returnsInHanded_of_change (C := Try.checked) own_ started (by kernel_rfl) Try.func4
    (ChangeSpec.witness6 (enc := enc) (C := Try.checked) false ⟨#[], #[.agg #[.bool false, .slice none 0 0], .string (ByteArray.mk #[])], []⟩ 8 (by kernel_rfl) (by kernel_rfl) (by kernel_rfl) (by kernel_rfl)) ?_
  intro W base args ds gs before hval hW _ _
  exact wholeParseMatches_contract H enc W base args ds gs before hval hW
theorem wholeParseMatches_holds : Rows.WholeParseMatchesSaid :=
  OpenClaim.holds_of_wide 4 Try.f4 rfl rfl rfl rfl rfl rfl rfl ⟨rfl, rfl, rfl, rfl, rfl⟩ rfl rfl rfl rfl rfl (by kernel_rfl) Try.func4 (by kernel_rfl)
    (of_decide_eq_true (by kernel_rfl)) (by unfold Func.isWrapper; first | (rw [if_pos (by decide +kernel)]; kernel_rfl) | (rw [if_neg (by decide +kernel)]; exact ⟨rfl, rfl⟩))
    (fun os started H enc _ => wholeParseMatches_lifted os started H enc)
end Go.Proofs.Ytgkafblpckcekaa
