/- The law SettleDays answers true for every input, up to the size that the statement names. -/
import Derived.Test.YtegdplnhkjpmkaaPSD4
set_option linter.unusedVariables false
set_option linter.unusedSimpArgs false
namespace Go.Proofs.Ytegdplnhkjpmkaa
open Go.Fw
theorem v16_lt {l : List Nat} (h : H16 l) : v16 l < 65536 ^ l.length := val_lt l h.1
theorem tm {a : Nat} : Int.tmod (a : Int) 65536 = ((a % 65536 : Nat) : Int) := by
  rw [Int.tmod_eq_emod_of_nonneg (by omega)]; omega
theorem td {a : Nat} : Int.tdiv (a : Int) 65536 = ((a / 65536 : Nat) : Int) := by
  rw [Int.tdiv_eq_ediv_of_nonneg (by omega)]; omega
theorem rcmp_eq (l k : List Nat) (hl : H16 l) (hk : H16 k) : ref01_cmp_m (zl l) (zl k) = some (cmpN (v16 l) (v16 k)) := by
  unfold ref01_cmp_m
  simp only [bsm]
  rw [zl_len, zl_len, show max (l.length : Int) (k.length : Int) = ((max l.length k.length : Nat) : Int) by omega, w64_id (by have := hl.2; have := hk.2; omega) (by have := hl.2; have := hk.2; omega)]
  have h1 : v16 l < 65536 ^ (max l.length k.length) := Nat.lt_of_lt_of_le (v16_lt hl) (Nat.pow_le_pow_right (by decide) (by omega))
  have h2 : v16 k < 65536 ^ (max l.length k.length) := Nat.lt_of_lt_of_le (v16_lt hk) (Nat.pow_le_pow_right (by decide) (by omega))
  have hm : max l.length k.length ≤ 100000000000 := by have := hl.2; have := hk.2; omega
  have a1 := at_eq hl.1
  have a2 := at_eq hk.1
  generalize v16 l = V at *
  generalize v16 k = W at *
  generalize max l.length k.length = n at *
  refine bind_loop (fun y => ∃ m : Nat, y = (m : Int) - 1 ∧ m ≤ n ∧ V / 65536 ^ m = W / 65536 ^ m) (fun e => (∃ c, e = .inl c ∧ V = W) ∨ e = .inr (cmpN V W)) (fun y => (y + 1).toNat) ?_ ⟨n, rfl, Nat.le_refl _, by rw [Nat.div_eq_of_lt h1, Nat.div_eq_of_lt h2]⟩ ?_
  · rintro _ ⟨m, rfl, hmn, he⟩
    rcases m with _ | m
    · right
      refine ⟨_, rfl, .inl ⟨_, rfl, ?_⟩⟩
      simpa using he
    · rw [show ((m + 1 : Nat) : Int) - 1 = (m : Int) by omega, show decide ((0 : Int) ≤ (m : Int)) = true by simp, ctm, a1, bsm, a2, bsm]
      rcases dig_cases he with ⟨hd, hq⟩ | ⟨hd, hlt⟩ | ⟨hd, hlt⟩
      · left
        rw [hd, show decide (((W / 65536 ^ m % 65536 : Nat) : Int) < ((W / 65536 ^ m % 65536 : Nat) : Int)) = false by simp, cfm, bsm, bsm, show decide (((W / 65536 ^ m % 65536 : Nat) : Int) < ((W / 65536 ^ m % 65536 : Nat) : Int)) = false by simp, cfm, w64_id (by omega) (by omega)]
        exact ⟨_, rfl, ⟨m, rfl, by omega, hq⟩, by omega⟩
      · right
        rw [show decide (((V / 65536 ^ m % 65536 : Nat) : Int) < ((W / 65536 ^ m % 65536 : Nat) : Int)) = true by rw [decide_eq_true_eq]; omega, ctm]
        exact ⟨_, rfl, .inr (by rw [cmpN_lt hlt])⟩
      · right
        rw [show decide (((V / 65536 ^ m % 65536 : Nat) : Int) < ((W / 65536 ^ m % 65536 : Nat) : Int)) = false by rw [decide_eq_false_iff_not]; omega, cfm, bsm, bsm, show decide (((W / 65536 ^ m % 65536 : Nat) : Int) < ((V / 65536 ^ m % 65536 : Nat) : Int)) = true by rw [decide_eq_true_eq]; omega, ctm]
        exact ⟨_, rfl, .inr (by rw [cmpN_gt hlt])⟩
  · rintro e (⟨c, rfl, rfl⟩ | rfl)
    · rw [cmpN_eq]
    · rfl
theorem radd_eq (l k : List Nat) (hl : H16 l) (hk : H16 k) : ref01_add_m (zl l) (zl k) = some (zl (can 65536 (v16 l + v16 k))) := by
  unfold ref01_add_m
  have h1 : v16 l < 65536 ^ (max l.length k.length) := Nat.lt_of_lt_of_le (v16_lt hl) (Nat.pow_le_pow_right (by decide) (by omega))
  have h2 : v16 k < 65536 ^ (max l.length k.length) := Nat.lt_of_lt_of_le (v16_lt hk) (Nat.pow_le_pow_right (by decide) (by omega))
  have hm : max l.length k.length ≤ 100000000000 := by have := hl.2; have := hk.2; omega
  have a1 := at_eq hl.1
  have a2 := at_eq hk.1
  rw [zl_len, zl_len]
  generalize v16 l = V at *
  generalize v16 k = W at *
  refine bind_loop (fun s => ∃ i : Nat, s = (((cry 65536 V W i : Nat) : Int), (i : Int), zl (dig 65536 i (V + W))) ∧ i ≤ max l.length k.length + 1) (fun e => ∃ i, e = zl (dig 65536 i (V + W)) ∧ V + W < 65536 ^ i ∧ i ≤ max l.length k.length + 1) (fun s => max l.length k.length + 1 - s.2.1.toNat) ?_ ⟨0, by rw [cry_zero]; rfl, by omega⟩ ?_
  · rintro _ ⟨i, rfl, hi⟩
    have hc := cry_le (B := 65536) (by decide) V W i
    have hs1 := cry_step (B := 65536) (by decide) V W i
    have hs2 := cry_dig (B := 65536) (by decide) V W i
    have d1 := Nat.mod_lt (V / 65536 ^ i) (show 0 < 65536 by decide)
    have d2 := Nat.mod_lt (W / 65536 ^ i) (show 0 < 65536 by decide)
    simp only [bsm, letJ]
    have hcond : ∀ (K : Bool → Option ((Int × Int × List Int) ⊕ List Int)), (((bif decide ((i : Int) < (l.length : Int)) then some true else some (decide ((i : Int) < (k.length : Int)))) : Option Bool).bind fun c => ((bif c then some true else some (decide ((0 : Int) < ((cry 65536 V W i : Nat) : Int)))) : Option Bool).bind K) = K (decide (i < max l.length k.length ∨ 0 < cry 65536 V W i)) := by
      intro K
      by_cases q1 : i < l.length
      · have : i < max l.length k.length := by omega
        simp [q1, this]
      · by_cases q2 : i < k.length
        · have : i < max l.length k.length := by omega
          simp [q1, q2, this]
        · have : ¬ i < max l.length k.length := by omega
          simp [q1, q2, this]
    rw [hcond]
    by_cases hgo : i < max l.length k.length ∨ 0 < cry 65536 V W i
    · left
      have hi' : i < max l.length k.length + 1 := by
        rcases Nat.lt_or_ge i (max l.length k.length + 1) with h | h
        · exact h
        · have hie : i = max l.length k.length + 1 := by omega
          have hp : 65536 ^ i = 65536 ^ (max l.length k.length) * 65536 := by rw [hie, Nat.pow_succ]
          have g3 := cry_end (B := 65536) (V := V) (W := W) (k := i) (by omega) (by omega)
          rw [Nat.div_eq_of_lt (by omega)] at g3
          omega
      rw [show decide (i < max l.length k.length ∨ 0 < cry 65536 V W i) = true by rw [decide_eq_true_eq]; exact hgo, ctm, a1, bsm, a2, bsm, w64_add (by omega), w64_add (by omega), tm, td, hs1, hs2, apM1 (by decide) (by rw [zl_len, dig_len]; omega), bsm, w64_nat (by have := cry_le (B := 65536) (by decide) V W (i + 1); omega), w64_succ (by omega)]
      refine ⟨_, rfl, ⟨i + 1, ?_, by omega⟩, by simp only []; omega⟩
      rw [dig_succ, zl_app, zl_one]
    · right
      rw [show decide (i < max l.length k.length ∨ 0 < cry 65536 V W i) = false by rw [decide_eq_false_iff_not]; exact hgo, cfm]
      refine ⟨_, rfl, i, rfl, ?_, hi⟩
      have g1 : V < 65536 ^ i := Nat.lt_of_lt_of_le h1 (Nat.pow_le_pow_right (by decide) (by omega))
      have g2 : W < 65536 ^ i := Nat.lt_of_lt_of_le h2 (Nat.pow_le_pow_right (by decide) (by omega))
      have g3 := cry_end (B := 65536) g1 g2
      rcases Nat.lt_or_ge (V + W) (65536 ^ i) with h | h
      · exact h
      · have := Nat.div_pos h (Nat.pow_pos (by decide)); omega
  · rintro _ ⟨i, rfl, hlt, hi⟩
    rw [rtrim_eq _ (by rw [dig_len]; omega), bsm, trim_dig (by decide) hlt]
theorem rsub_eq (l k : List Nat) (hl : H16 l) (hk : H16 k) (hle : v16 k ≤ v16 l) : ref01_sub_m (zl l) (zl k) = some (zl (can 65536 (v16 l - v16 k))) := by
  unfold ref01_sub_m
  have h1 := v16_lt hl
  have hm := hl.2
  have a1 := at_eq hl.1
  have a2 := at_eq hk.1
  rw [zl_len]
  generalize v16 l = V at *
  generalize v16 k = W at *
  refine bind_loop_to (fun i => (((1 - lnd 65536 V W i : Nat) : Int), (i : Int), zl (dig 65536 i (V - W)))) l.length (zl (dig 65536 l.length (V - W))) ?_ (fun i hi => ?_) ?_ ?_
  · rw [lnd_zero]; rfl
  · have hc := lnd_le (B := 65536) (by decide) V W i
    have hs1 := lnd_step (B := 65536) (by decide) V W i
    have hs2 := lnd_dig (B := 65536) (by decide) hle i
    have d1 := Nat.mod_lt (V / 65536 ^ i) (show 0 < 65536 by decide)
    have d2 := Nat.mod_lt (W / 65536 ^ i) (show 0 < 65536 by decide)
    simp only [bsm, letJ]
    rw [show decide ((i : Int) < (l.length : Int)) = true by simp [hi], ctm, a1, bsm, a2, bsm]
    rw [← hs1, dig_succ, zl_app, zl_one, ← hs2]
    generalize V / 65536 ^ i % 65536 = a at *
    generalize W / 65536 ^ i % 65536 = b at *
    generalize lnd 65536 V W i = c at *
    rw [w64_id (x := (a : Int) - (b : Int)) (by omega) (by omega), w64_id (x := (a : Int) - (b : Int) - ((1 - c : Nat) : Int)) (by omega) (by omega)]
    by_cases hn : (a : Int) - (b : Int) - ((1 - c : Nat) : Int) < 0
    · rw [show decide ((a : Int) - (b : Int) - ((1 - c : Nat) : Int) < 0) = true by rw [decide_eq_true_eq]; exact hn, ctm, w64_id (by omega) (by omega), apM1 (by decide) (by rw [zl_len, dig_len]; omega), bsm, w64_succ (by omega)]
      rw [show (a : Int) - (b : Int) - ((1 - c : Nat) : Int) + 65536 = (((a + (65536 - 1 - b) + c) % 65536 : Nat) : Int) by omega, show (1 - (a + (65536 - 1 - b) + c) / 65536) = 1 by omega]
      rfl
    · rw [show decide ((a : Int) - (b : Int) - ((1 - c : Nat) : Int) < 0) = false by rw [decide_eq_false_iff_not]; exact hn, cfm, apM1 (by decide) (by rw [zl_len, dig_len]; omega), bsm, w64_succ (by omega)]
      rw [show (a : Int) - (b : Int) - ((1 - c : Nat) : Int) = (((a + (65536 - 1 - b) + c) % 65536 : Nat) : Int) by omega, show (1 - (a + (65536 - 1 - b) + c) / 65536) = 0 by omega]
      rfl
  · simp
  · rw [rtrim_eq _ (by rw [dig_len]; omega), bsm, trim_dig (by decide) (by omega)]
theorem rsmall_eq (l : List Nat) (hl : ∀ x ∈ l, x < 65536) (hn : l.length ≤ 3) : ref01_small_m (zl l) = some ((v16 l : Nat) : Int) := by
  unfold ref01_small_m
  simp only [bsm]
  have hV : v16 l < 65536 ^ l.length := val_lt l hl
  have hp : 65536 ^ l.length ≤ 65536 ^ 3 := Nat.pow_le_pow_right (by decide) hn
  rw [show (65536 : Nat) ^ 3 = 281474976710656 by decide] at hp
  rw [zl_len, w64_id (by omega) (by omega)]
  refine bind_loop_to (fun j => (((v16 l / 65536 ^ (l.length - j) : Nat) : Int), (l.length : Int) - 1 - (j : Int))) l.length ((v16 l : Nat) : Int) ?_ (fun j hj => ?_) ?_ rfl
  · rw [show l.length - 0 = l.length by omega, Nat.div_eq_of_lt hV]; simp
  · obtain ⟨m, hm⟩ : ∃ m, l.length = m + j + 1 := ⟨l.length - j - 1, by omega⟩
    have hg := get_val hl (i := m) (by omega)
    have hst := div_step 65536 (v16 l) m
    have hdl : v16 l / 65536 ^ m ≤ v16 l := Nat.div_le_self _ _
    rw [show l.length - j = m + 1 by omega, show l.length - (j + 1) = m by omega, show (l.length : Int) - 1 - (j : Int) = (m : Int) by omega, show (l.length : Int) - 1 - ((j + 1 : Nat) : Int) = (m : Int) - 1 by omega]
    have hd := Nat.mod_lt (v16 l / 65536 ^ m) (show 0 < 65536 by decide)
    simp only []
    rw [show decide ((0 : Int) ≤ (m : Int)) = true by simp, ctm, geti_nat (zl_get hg), bsm]
    generalize v16 l / 65536 ^ (m + 1) = c at *
    generalize v16 l / 65536 ^ m = d at *
    rw [w64_id (x := (c : Int) * 65536) (by omega) (by omega), w64_id (x := (c : Int) * 65536 + ((d % 65536 : Nat) : Int)) (by omega) (by omega), w64_id (x := (m : Int) - 1) (by omega) (by omega), show (c : Int) * 65536 + ((d % 65536 : Nat) : Int) = (d : Int) by omega]
  · simp only []
    rw [show decide ((0 : Int) ≤ (l.length : Int) - 1 - (l.length : Int)) = false by rw [decide_eq_false_iff_not]; omega, cfm, Nat.sub_self, Nat.pow_zero, Nat.div_one]
theorem rback_eq (x : Nat) (hx : x < 281474976710656) : ref01_back_m (x : Int) = some (zl (can 65536 x)) := by
  unfold ref01_back_m
  simp only [bsm]
  rw [tm, td, w64_nat (by omega), tm, td, w64_nat (by omega)]
  have : [((x % 65536 : Nat) : Int), ((x / 65536 % 65536 : Nat) : Int), ((x / 65536 / 65536 : Nat) : Int)] = zl [x % 65536, x / 65536 % 65536, x / 65536 / 65536] := rfl
  rw [this, rtrim_eq _ (by simp), bsm, trim_can (B := 65536) (by decide) (by intro y hy; simp at hy; omega)]
  congr 3
  simp [val]
  omega
theorem rtimes_eq (l : List Nat) (f : Nat) (hl : H16 l) (hf : f < 65536) : ref01_times_m (zl l) (f : Int) = some (zl (can 65536 (v16 l * f))) := by
  unfold ref01_times_m
  have h1 := v16_lt hl
  have hm := hl.2
  have a1 := at_eq hl.1
  rw [zl_len]
  generalize v16 l = V at *
  have hcl := fun i => sC_lt (B := 65536) (V := V) (f := f) (e := 0) (by decide) hf (by decide) i
  refine bind_loop (fun s => ∃ i : Nat, s = (((sC 65536 V f 0 i : Nat) : Int), (i : Int), zl (dig 65536 i (V * f))) ∧ i ≤ l.length + 1) (fun e => ∃ i, e = zl (dig 65536 i (V * f)) ∧ V * f < 65536 ^ i ∧ i ≤ l.length + 1) (fun s => l.length + 1 - s.2.1.toNat) ?_ ⟨0, by rw [sC_zero]; rfl, by omega⟩ ?_
  · rintro _ ⟨i, rfl, hi⟩
    have hc := hcl i
    have hc1 := hcl (i + 1)
    have hs1 := sC_step (B := 65536) (by decide) V f 0 i
    have hs2 := sC_dig (B := 65536) (by decide) V f 0 i
    have d1 := Nat.mod_lt (V / 65536 ^ i) (show 0 < 65536 by decide)
    have hp : V / 65536 ^ i % 65536 * f ≤ 65535 * 65535 := Nat.mul_le_mul (by omega) (by omega)
    rw [Nat.add_zero] at hs2
    simp only [bsm, letJ]
    have hcond : ∀ (K : Bool → Option ((Int × Int × List Int) ⊕ List Int)), (((bif decide ((i : Int) < (l.length : Int)) then some true else some (decide ((0 : Int) < ((sC 65536 V f 0 i : Nat) : Int)))) : Option Bool).bind K) = K (decide (i < l.length ∨ 0 < sC 65536 V f 0 i)) := by
      intro K
      by_cases q1 : i < l.length
      · simp [q1]
      · simp [q1]
    rw [hcond]
    by_cases hgo : i < l.length ∨ 0 < sC 65536 V f 0 i
    · left
      have hi' : i < l.length + 1 := by
        rcases Nat.lt_or_ge i (l.length + 1) with h | h
        · exact h
        · have hie : i = l.length + 1 := by omega
          have g3 := sC_end (B := 65536) (V := V) (f := f) (e := 0) (i := i) (Nat.lt_of_lt_of_le h1 (Nat.pow_le_pow_right (by decide) (by omega)))
          rw [Nat.add_zero, Nat.div_eq_of_lt] at g3
          · omega
          · rw [hie, Nat.pow_succ]; exact Nat.mul_lt_mul'' h1 hf
      rw [show decide (i < l.length ∨ 0 < sC 65536 V f 0 i) = true by rw [decide_eq_true_eq]; exact hgo, ctm, a1, bsm, ← Int.natCast_mul, w64_nat (by omega), w64_add (by omega), tm, td, hs1, hs2, apM1 (by decide) (by rw [zl_len, dig_len]; omega), bsm, w64_nat (by omega), w64_succ (by omega)]
      refine ⟨_, rfl, ⟨i + 1, ?_, by omega⟩, by simp only []; omega⟩
      rw [dig_succ, zl_app, zl_one]
    · right
      rw [show decide (i < l.length ∨ 0 < sC 65536 V f 0 i) = false by rw [decide_eq_false_iff_not]; exact hgo, cfm]
      refine ⟨_, rfl, i, rfl, ?_, hi⟩
      have g3 := sC_end (B := 65536) (V := V) (f := f) (e := 0) (i := i) (Nat.lt_of_lt_of_le h1 (Nat.pow_le_pow_right (by decide) (by omega)))
      rw [Nat.add_zero] at g3
      rcases Nat.lt_or_ge (V * f) (65536 ^ i) with h | h
      · exact h
      · have := Nat.div_pos h (Nat.pow_pos (by decide)); omega
  · rintro _ ⟨i, rfl, hlt, hi⟩
    rw [rtrim_eq _ (by rw [dig_len]; omega), bsm, trim_dig (by decide) hlt]
end Go.Proofs.Ytegdplnhkjpmkaa
namespace Go.Proofs.Ytegdplnhkjpmkaa
open Go.Fw
theorem v16_can (v : Nat) : v16 (can 65536 v) = v := val_can (by decide) v
theorem h16_can {v n : Nat} (h : v < 65536 ^ n) (hn : n ≤ 100000000000) : H16 (can 65536 v) := ⟨fun _ hx => can_lt (by decide) hx, Nat.le_trans ((can_len_iff (by decide)).2 h) hn⟩
end Go.Proofs.Ytegdplnhkjpmkaa
namespace Go.Proofs.Ytegdplnhkjpmkaa
open Go.Fw
theorem td2 {a : Nat} : Int.tdiv (a : Int) 2 = ((a / 2 : Nat) : Int) := by
  rw [Int.tdiv_eq_ediv_of_nonneg (by omega)]; omega
theorem cmpN_le (a b : Nat) : decide (cmpN a b ≤ 0) = decide (a ≤ b) := by
  rcases Nat.lt_trichotomy a b with h | h | h
  · rw [cmpN_lt h]; simp; omega
  · rw [h, cmpN_eq]; simp
  · rw [cmpN_gt h]; simp; omega
theorem rq_dig {B : Nat} (hB : 0 < B) {d : Nat} (hd : 0 < d) (V m : Nat) : (V / B ^ (m + 1) % d * B + V / B ^ m % B) / d = V / d / B ^ m % B := by
  have h1 := q_div (B := B) hd V m
  have h2 := q_lt (B := B) hB hd V m
  rw [Nat.div_div_eq_div_mul V d, Nat.mul_comm d, ← Nat.div_div_eq_div_mul, h1, Nat.mul_add_mod]
  symm
  apply Nat.mod_eq_of_lt
  rw [Nat.div_lt_iff_lt_mul hd, Nat.mul_comm B d]; exact h2
theorem iquo_nat {a b : Nat} (h : b ≠ 0) (ha : a ≤ 9223372036854775807) : iquo (a : Int) (b : Int) = some ((a / b : Nat) : Int) := by
  unfold iquo
  rw [if_neg (by omega), Int.tdiv_eq_ediv_of_nonneg (by omega), ← Int.natCast_ediv, w64_nat (Nat.le_trans (Nat.div_le_self _ _) ha)]
theorem irem_nat {a b : Nat} (h : b ≠ 0) : irem (a : Int) (b : Int) = some ((a % b : Nat) : Int) := by
  unfold irem
  rw [if_neg (by omega), Int.tmod_eq_emod_of_nonneg (by omega), ← Int.natCast_emod]
theorem zl_zeros (n : Nat) : List.replicate n (0 : Int) = zl (dig 65536 n 0) := by rw [dig_zero, zl, List.map_replicate]; rfl
theorem halve_eq {W X : Nat} (hW : 0 < W) {k : List Nat} (hk : H16 k) (hkv : v16 k = W) {xs : List Nat} (hx : H16 xs) (hxv : v16 xs = X) (H : Nat) (hH : 0 < H) (hH2 : H ≤ 65536) (hXH : X < H * W) {R : Type} (f : Int → Option R) (r : R) (hf : f ((X / W : Nat) : Int) = some r) (hkl : k.length ≤ 90000000000) :
    (loopM (fun (s54 : Int × Int) =>
                              match s54 with
                              | ⟨y11l50, y12l50⟩ =>
                                (show Option ((Int × Int) ⊕ (Int)) from
                                  (bif (decide ((1 : Int) < (IntKind.i64.wrap (y12l50 - y11l50)))) then
                                      (ref01_times_m (zl k) (IntKind.i64.wrap (Int.tdiv (IntKind.i64.wrap (y11l50 + y12l50)) 2))).bind fun x102 =>
                                      (ref01_cmp_m x102 (zl xs)).bind fun x104 =>
                                      (bif (decide ((x104 : Int) ≤ 0)) then
                                          some (.inl (IntKind.i64.wrap (Int.tdiv (IntKind.i64.wrap (y11l50 + y12l50)) 2), y12l50))
                                        else
                                          some (.inl (y11l50, IntKind.i64.wrap (Int.tdiv (IntKind.i64.wrap (y11l50 + y12l50)) 2))))
                                    else
                                      some (.inr y11l50)))) ((0 : Int), (H : Int))).bind f = some r := by
  refine bind_loop (fun s => ∃ lo hi : Nat, s = ((lo : Int), (hi : Int)) ∧ lo < hi ∧ hi ≤ 65536 ∧ lo * W ≤ X ∧ X < hi * W) (fun e => e = ((X / W : Nat) : Int)) (fun s => (s.2 - s.1).toNat) ?_ ⟨0, H, rfl, hH, hH2, by simp, hXH⟩ (fun e he => by rw [he]; exact hf)
  rintro _ ⟨lo, hi, rfl, h1, h2, h3, h4⟩
  simp only []
  rw [w64_id (x := (hi : Int) - (lo : Int)) (by omega) (by omega)]
  by_cases hgo : 1 < hi - lo
  · left
    obtain ⟨mid, hmid⟩ : ∃ mid, (lo + hi) / 2 = mid := ⟨_, rfl⟩
    have hml : v16 k * mid < 65536 ^ (k.length + 1) := by rw [Nat.pow_succ]; exact Nat.mul_lt_mul'' (v16_lt hk) (by omega)
    rw [show decide ((1 : Int) < (hi : Int) - (lo : Int)) = true by rw [decide_eq_true_eq]; omega, ctm, w64_add (by omega), td2, hmid, w64_nat (by omega), rtimes_eq _ _ hk (by omega), bsm, rcmp_eq _ _ (h16_can hml (by omega)) hx, bsm, cmpN_le, v16_can, hkv, hxv]
    by_cases hle : W * mid ≤ X
    · rw [show decide (W * mid ≤ X) = true by simp [hle], ctm]
      exact ⟨_, rfl, ⟨mid, hi, rfl, by omega, h2, by rw [Nat.mul_comm]; exact hle, h4⟩, by simp only []; omega⟩
    · rw [show decide (W * mid ≤ X) = false by simp; omega, cfm]
      exact ⟨_, rfl, ⟨lo, mid, rfl, by omega, by omega, h3, by rw [Nat.mul_comm]; omega⟩, by simp only []; omega⟩
  · right
    rw [show decide ((1 : Int) < (hi : Int) - (lo : Int)) = false by rw [decide_eq_false_iff_not]; omega, cfm]
    refine ⟨_, rfl, ?_⟩
    have : hi = lo + 1 := by omega
    subst this
    have : X / W = lo := by
      rw [Nat.div_eq_iff hW]
      rw [Nat.add_mul, Nat.one_mul] at h4
      omega
    rw [this]
theorem rdiv_eq (V W : Nat) (hW : W ≠ 0) (hV : (can 65536 V).length ≤ 80000000000) (hWl : (can 65536 W).length ≤ 80000000000) : ref01_div_m (zl (can 65536 V)) (zl (can 65536 W)) = some (zl (can 65536 (V / W)), zl (can 65536 (V % W))) := by
  have hl16 : H16 (can 65536 V) := ⟨fun _ hx => can_lt (by decide) hx, by omega⟩
  have hk16 : H16 (can 65536 W) := ⟨fun _ hx => can_lt (by decide) hx, by omega⟩
  have hVl := lt_can_len (B := 65536) (by decide) V
  have hWlt := lt_can_len (B := 65536) (by decide) W
  have hW0 : 0 < W := by omega
  unfold ref01_div_m
  simp only [bsm, letJ, zl_len]
  obtain ⟨n, hn⟩ : ∃ n, (can 65536 V).length = n := ⟨_, rfl⟩
  by_cases h3 : n ≤ 3 ∧ (can 65536 W).length ≤ 3
  · rw [hn, show decide ((n : Int) ≤ 3) = true by rw [decide_eq_true_eq]; omega, ctm, bsm, show decide (((can 65536 W).length : Int) ≤ 3) = true by rw [decide_eq_true_eq]; omega, ctm, rsmall_eq _ hl16.1 (by omega), bsm, rsmall_eq _ hk16.1 (by omega), bsm, v16_can, v16_can]
    have hp : V < 281474976710656 := by
      rw [hn] at hVl
      have h2 : 65536 ^ n ≤ 65536 ^ 3 := Nat.pow_le_pow_right (by decide) h3.1
      rw [show (65536 : Nat) ^ 3 = 281474976710656 by decide] at h2
      omega
    have hq : V / W ≤ V := Nat.div_le_self _ _
    have hr : V % W ≤ V := Nat.mod_le _ _
    rw [iquo_nat hW (by omega), bsm, rback_eq _ (by omega), bsm, bsm, bsm, irem_nat hW, bsm, rback_eq _ (by omega), bsm]
  · have hcond : (((bif decide ((n : Int) ≤ 3) then some (decide (((can 65536 W).length : Int) ≤ 3)) else some false) : Option Bool)) = some false := by
      by_cases q1 : n ≤ 3
      · have q2 : ¬ (can 65536 W).length ≤ 3 := fun h => h3 ⟨q1, h⟩
        rw [show decide (((can 65536 W).length : Int) ≤ 3) = false by rw [decide_eq_false_iff_not]; omega]
        exact bif_same _ _
      · rw [show decide ((n : Int) ≤ 3) = false by rw [decide_eq_false_iff_not]; omega, cfm]
    rw [hn] at hVl hV
    have hQ : V / W < 65536 ^ n := Nat.lt_of_le_of_lt (Nat.div_le_self _ _) hVl
    rw [hn, hcond, bsm, cfm, mkM_of (by decide) (by omega), bsm, zl_zeros]
    have hlen : (can 65536 W).length ≠ 0 := fun e => hW (can_nil (by decide) (List.length_eq_zero_iff.1 e))
    by_cases h1 : (can 65536 W).length = 1
    · have hWs : W < 65536 := by rw [h1] at hWlt; simpa using hWlt
      have hg0 : (can 65536 W)[0]? = some W := by rw [can_get (by decide) (by omega)]; simp; exact hWs
      have hgw := geti_zero (zl_get hg0)
      rw [h1, show decide (((1 : Nat) : Int) = 1) = true by simp, ctm, w64_id (by omega) (by omega)]
      refine bind_loop_to (fun j => (((V / 65536 ^ (n - j) % W : Nat) : Int), (n : Int) - 1 - (j : Int), zl (dig 65536 n (V / W / 65536 ^ (n - j) * 65536 ^ (n - j))))) n (((V % W : Nat) : Int), zl (dig 65536 n (V / W))) ?_ (fun j hj => ?_) ?_ ?_
      · rw [Nat.sub_zero, Nat.div_eq_of_lt hVl, Nat.div_eq_of_lt hQ]; simp
      · obtain ⟨m, hm⟩ : ∃ m, n = m + j + 1 := ⟨n - j - 1, by omega⟩
        have hg : (can 65536 V)[m]? = some (V / 65536 ^ m % 65536) := can_get (by decide) (by omega)
        have hdig := rq_dig (B := 65536) (by decide) hW0 V m
        have hrem := q_mod (B := 65536) (d := W) V m
        have hrl := Nat.mod_lt (V / 65536 ^ (m + 1)) hW0
        have hdl := Nat.mod_lt (V / 65536 ^ m) (show 0 < 65536 by decide)
        have hput := ld_put (B := 65536) (by decide) (N := n) (k := m) (by omega) (V / W)
        rw [show n - j = m + 1 by omega, show n - (j + 1) = m by omega, show (n : Int) - 1 - (j : Int) = (m : Int) by omega, show (n : Int) - 1 - ((j + 1 : Nat) : Int) = (m : Int) - 1 by omega]
        simp only []
        rw [show decide ((0 : Int) ≤ (m : Int)) = true by simp, ctm, geti_nat (zl_get hg), bsm, hgw, bsm]
        rw [← hdig] at hput
        rw [hrem, ← hput]
        generalize V / 65536 ^ (m + 1) % W = r at *
        generalize V / 65536 ^ m % 65536 = d at *
        rw [w64_id (x := (r : Int) * 65536) (by omega) (by omega), w64_id (x := (r : Int) * 65536 + (d : Int)) (by omega) (by omega), show (r : Int) * 65536 + (d : Int) = ((r * 65536 + d : Nat) : Int) by omega, iquo_nat hW (by omega), bsm, bsm, irem_nat hW, bsm, cki_nat (by rw [zl_len, dig_len]; omega), bsm, stM_of (by rw [zl_len, dig_len]; omega), bsm, w64_id (x := (m : Int) - 1) (by omega) (by omega), zl_set]
      · simp only []
        rw [show decide ((0 : Int) ≤ (n : Int) - 1 - (n : Int)) = false by rw [decide_eq_false_iff_not]; omega, cfm, Nat.sub_self, Nat.pow_zero, Nat.mul_one, Nat.div_one, Nat.div_one]
      · simp only []
        rw [rtrim_eq _ (by rw [dig_len]; omega), bsm, trim_dig (by decide) hQ, show [((V % W : Nat) : Int)] = zl [V % W] from rfl, rtrim_eq _ (by simp), bsm]
        have hr := Nat.mod_lt V hW0
        rw [trim_can (B := 65536) (l := [V % W]) (by decide) (by intro y hy; simp at hy; omega)]
        simp [val]
    · rw [show decide (((can 65536 W).length : Int) = 1) = false by rw [decide_eq_false_iff_not]; omega, cfm, w64_id (by omega) (by omega)]
      refine bind_loop_to (fun j => (zl (can 65536 (V / 65536 ^ (n - j) % W)), (n : Int) - 1 - (j : Int), zl (dig 65536 n (V / W / 65536 ^ (n - j) * 65536 ^ (n - j))))) n (zl (can 65536 (V % W)), zl (dig 65536 n (V / W))) ?_ (fun j hj => ?_) ?_ ?_
      · rw [Nat.sub_zero, Nat.div_eq_of_lt hVl, Nat.div_eq_of_lt hQ]; simp [can_zero, zl]
      · obtain ⟨m, hm⟩ : ∃ m, n = m + j + 1 := ⟨n - j - 1, by omega⟩
        have hg : (can 65536 V)[m]? = some (V / 65536 ^ m % 65536) := can_get (by decide) (by omega)
        have hdig := rq_dig (B := 65536) (by decide) hW0 V m
        have hrem := q_mod (B := 65536) (d := W) V m
        have hrl := Nat.mod_lt (V / 65536 ^ (m + 1)) hW0
        have hdl := Nat.mod_lt (V / 65536 ^ m) (show 0 < 65536 by decide)
        have hXW := q_lt (B := 65536) (by decide) hW0 V m
        have hput := ld_put (B := 65536) (by decide) (N := n) (k := m) (by omega) (V / W)
        rw [show n - j = m + 1 by omega, show n - (j + 1) = m by omega, show (n : Int) - 1 - (j : Int) = (m : Int) by omega, show (n : Int) - 1 - ((j + 1 : Nat) : Int) = (m : Int) - 1 by omega]
        simp only []
        rw [← hdig] at hput
        rw [hrem, ← hput, show decide ((0 : Int) ≤ (m : Int)) = true by simp, ctm, geti_nat (zl_get hg), bsm]
        generalize V / 65536 ^ (m + 1) % W = r at *
        generalize V / 65536 ^ m % 65536 = d at *
        obtain ⟨X, hX⟩ : ∃ X, r * 65536 + d = X := ⟨_, rfl⟩
        rw [hX] at hXW ⊢
        have hrc : (can 65536 r).length ≤ (can 65536 W).length := (can_len_iff (by decide)).2 (Nat.lt_trans hrl hWlt)
        have hxl : (can 65536 X).length ≤ (can 65536 W).length + 1 := (can_len_iff (by decide)).2 (by rw [Nat.pow_succ]; exact Nat.lt_trans hXW (Nat.mul_lt_mul_of_pos_right hWlt (by decide)))
        have hval : val 65536 (d :: can 65536 r) = X := by
          show d + 65536 * val 65536 (can 65536 r) = X
          rw [val_can (by decide)]; omega
        have hx16 : H16 (can 65536 X) := ⟨fun _ hx => can_lt (by decide) hx, by omega⟩
        rw [apMl (by decide) (by rw [zl_len]; simp; omega), bsm, show [(d : Int)] ++ zl (can 65536 r) = zl (d :: can 65536 r) from rfl, rtrim_eq _ (by simp; omega), bsm, trim_can (B := 65536) (by decide) (by intro y hy; simp at hy; rcases hy with rfl | hy; exact hdl; exact can_lt (by decide) hy), hval]
        have hqW : W * (X / W) ≤ X := Nat.mul_div_le X W
        have hq16 : X / W < 65536 := by rw [Nat.div_lt_iff_lt_mul hW0, Nat.mul_comm]; exact hXW
        have hfin : ((ref01_times_m (zl (can 65536 W)) ((X / W : Nat) : Int)).bind fun x114 => (ref01_sub_m (zl (can 65536 X)) x114).bind fun x115 => (cki (zl (dig 65536 n (V / W / 65536 ^ (m + 1) * 65536 ^ (m + 1)))) (m : Int)).bind fun x116 => (stM (zl (dig 65536 n (V / W / 65536 ^ (m + 1) * 65536 ^ (m + 1)))) x116 ((X / W : Nat) : Int)).bind fun l58 => (some (.inl (x115, IntKind.i64.wrap ((m : Int) - 1), l58)) : Option ((List Int × Int × List Int) ⊕ (List Int × List Int)))) = some (.inl (zl (can 65536 (X % W)), (m : Int) - 1, zl ((dig 65536 n (V / W / 65536 ^ (m + 1) * 65536 ^ (m + 1))).set m (X / W)))) := by
          rw [rtimes_eq _ _ hk16 hq16, bsm, v16_can, rsub_eq _ _ hx16 (h16_can (Nat.lt_of_le_of_lt hqW (lt_can_len (by decide) X)) (by omega)) (by rw [v16_can, v16_can]; exact hqW), bsm, v16_can, v16_can, cki_nat (by rw [zl_len, dig_len]; omega), bsm, stM_of (by rw [zl_len, dig_len]; omega), bsm, w64_id (x := (m : Int) - 1) (by omega) (by omega), zl_set, ← Nat.mod_eq_sub_mul_div]
        rw [zl_len]
        by_cases hsh : (can 65536 X).length < (can 65536 W).length
        · rw [show decide (((can 65536 X).length : Int) < ((can 65536 W).length : Int)) = true by rw [decide_eq_true_eq]; omega, ctm]
          exact halve_eq hW0 hk16 (v16_can W) hx16 (v16_can X) 1 (by decide) (by decide) (by rw [Nat.one_mul]; exact can_lt_len (by decide) hsh) _ _ hfin (by omega)
        · rw [show decide (((can 65536 X).length : Int) < ((can 65536 W).length : Int)) = false by rw [decide_eq_false_iff_not]; omega, cfm]
          exact halve_eq hW0 hk16 (v16_can W) hx16 (v16_can X) 65536 (by decide) (by decide) (by rw [Nat.mul_comm]; exact hXW) _ _ hfin (by omega)
      · simp only []
        rw [show decide ((0 : Int) ≤ (n : Int) - 1 - (n : Int)) = false by rw [decide_eq_false_iff_not]; omega, cfm, Nat.sub_self, Nat.pow_zero, Nat.mul_one, Nat.div_one, Nat.div_one]
      · simp only []
        rw [rtrim_eq _ (by rw [dig_len]; omega), bsm, trim_dig (by decide) hQ]
end Go.Proofs.Ytegdplnhkjpmkaa
namespace Go.Proofs.Ytegdplnhkjpmkaa
open Go.Fw
theorem c16_len0 {v : Nat} : (can 65536 v).length = 0 ↔ v = 0 := by
  constructor
  · intro h; exact can_nil (by decide) (List.length_eq_zero_iff.1 h)
  · intro h; rw [h, can_zero]; rfl
theorem c16H {v : Nat} (h : (can 65536 v).length ≤ 100000000000) : H16 (can 65536 v) := ⟨fun _ hx => can_lt (by decide) hx, h⟩
theorem rSign_eq {x : Zr} (h : Wl x) : ref01_Sign_m x = some (zi x).sign := by
  unfold ref01_Sign_m
  simp only [halves_of h, bsm, zl_len]
  have hz := c16_len0 (v := (zi x).natAbs)
  have hneg : x.neg = true → zi x ≤ 0 := fun e => by unfold zi; rw [e]; simp [sv]
  have hpos : x.neg = false → 0 ≤ zi x := fun e => by unfold zi; rw [e]; simp [sv]
  by_cases h0 : zi x = 0
  · rw [h0]; rfl
  · rw [show decide (((can 65536 (zi x).natAbs).length : Int) = 0) = false by rw [decide_eq_false_iff_not]; omega, cfm]
    cases hn : x.neg
    · have := hpos hn
      rw [cfm, Int.sign_eq_one_of_pos (by omega)]
    · have := hneg hn
      rw [ctm, Int.sign_eq_neg_one_of_neg (by omega)]
theorem rCmp_eq {x y : Zr} (hx : Wl x) (hy : Wl y) : ref01_Cmp_m x y = some (cmpI (zi x) (zi y)) := by
  have cx := hx.c16
  have cy := hy.c16
  unfold ref01_Cmp_m
  simp only [zeta', rSign_eq hx, rSign_eq hy, bsm, halves_of hx, halves_of hy]
  rw [rcmp_eq _ _ (c16H (by omega)) (c16H (by omega)), v16_can, v16_can]
  simp only [bsm]
  generalize zi x = i
  generalize zi y = j
  rw [cmpI_nat]
  rcases Int.lt_trichotomy i 0 with h1 | h1 | h1 <;> rcases Int.lt_trichotomy j 0 with h2 | h2 | h2
  · rw [Int.sign_eq_neg_one_of_neg h1, Int.sign_eq_neg_one_of_neg h2, show (i.natAbs : Int) = -i by omega, show (j.natAbs : Int) = -j by omega, cmpI_neg]
    show some (IntKind.i64.wrap (0 - cmpI j i)) = _
    rw [cmpI_flip]
  · rw [Int.sign_eq_neg_one_of_neg h1, show Int.sign j = 0 by rw [h2]; rfl, show cmpI i j = -1 from cmpI_lt (by omega)]; rfl
  · rw [Int.sign_eq_neg_one_of_neg h1, Int.sign_eq_one_of_pos h2, show cmpI i j = -1 from cmpI_lt (by omega)]; rfl
  · rw [show Int.sign i = 0 by rw [h1]; rfl, Int.sign_eq_neg_one_of_neg h2, show cmpI i j = 1 from cmpI_gt (by omega)]; rfl
  · rw [h1, h2]; rfl
  · rw [show Int.sign i = 0 by rw [h1]; rfl, Int.sign_eq_one_of_pos h2, show cmpI i j = -1 from cmpI_lt (by omega)]; rfl
  · rw [Int.sign_eq_one_of_pos h1, Int.sign_eq_neg_one_of_neg h2, show cmpI i j = 1 from cmpI_gt (by omega)]; rfl
  · rw [Int.sign_eq_one_of_pos h1, show Int.sign j = 0 by rw [h2]; rfl, show cmpI i j = 1 from cmpI_gt (by omega)]; rfl
  · rw [Int.sign_eq_one_of_pos h1, Int.sign_eq_one_of_pos h2, show (i.natAbs : Int) = i by omega, show (j.natAbs : Int) = j by omega]; rfl
theorem svz (x : Zr) : sv x.neg (zi x).natAbs = zi x := by rw [zi_abs]; rfl
theorem rNeg_eq {x : Zr} (hx : Wl x) : ref01_Neg_m x = some (zn (-zi x)) := by
  have cx := hx.c16
  unfold ref01_Neg_m
  simp only [bsm, halves_of hx]
  rw [of_can _ _ (by omega), bsm, sv_not, svz]
theorem rAbs_eq {x : Zr} (hx : Wl x) : ref01_Abs_m x = some (zn ((zi x).natAbs : Int)) := by
  have cx := hx.c16
  unfold ref01_Abs_m
  simp only [bsm, halves_of hx]
  rw [of_can _ _ (by omega), bsm, sv_false]
theorem rDiv_eq {x y : Zr} (hx : Wl x) (hy : Wl y) : ref01_Div_m x y = some (dmOf (zi x) (zi y)) := by
  have cx := hx.c16
  have cy := hy.c16
  unfold ref01_Div_m
  simp only [bsm, letJ, halves_of hx, halves_of hy, zl_len]
  have ex := svz x
  have ey := svz y
  generalize (zi x).natAbs = a at *
  generalize (zi y).natAbs = b at *
  rw [← ex, ← ey]
  generalize x.neg = n
  generalize y.neg = m
  by_cases h0 : b = 0
  · subst h0
    rw [show sv m 0 = 0 by cases m <;> rfl]; rfl
  · have hlen0 : (can 65536 b).length ≠ 0 := fun h => h0 (c16_len0.1 h)
    have hm : a % b < b := Nat.mod_lt _ (by omega)
    have la := lt_can_len (B := 65536) (by decide) a
    have lb := lt_can_len (B := 65536) (by decide) b
    obtain ⟨e1, e2⟩ := sv_div n m (a := a) (show 0 < b by omega)
    have hj : sv m b ≠ 0 := by cases m <;> simp [sv] <;> omega
    have hq : (can 65536 (a / b)).length ≤ (can 65536 a).length := (can_len_iff (by decide)).2 (Nat.lt_of_le_of_lt (Nat.div_le_self _ _) la)
    have hr : (can 65536 (a % b)).length ≤ (can 65536 b).length := (can_len_iff (by decide)).2 (Nat.lt_trans hm lb)
    rw [show decide (((can 65536 b).length : Int) = 0) = false by rw [decide_eq_false_iff_not]; omega, cfm, rdiv_eq a b h0 (by omega) (by omega), bsm, dmOf, if_neg hj, e1, e2]
    simp only [zl_len]
    have hz := c16_len0 (v := a % b)
    have hK : ∀ c : Bool, (decide (n = true ∧ 0 < a % b) = c) → (bif c then (ref01_add_m (zl (can 65536 (a / b))) [1]).bind fun x37 => (ref01_sub_m (zl (can 65536 b)) (zl (can 65536 (a % b)))).bind fun x40 => (ref01_of_m (!(n == m)) x37).bind fun x => (ref01_of_m false x40).bind fun x_1 => some ((⟨x.neg, x.w⟩ : Zr), (⟨x_1.neg, x_1.w⟩ : Zr), (0 : Int))
        else (ref01_of_m (!(n == m)) (zl (can 65536 (a / b)))).bind fun x => (ref01_of_m false (zl (can 65536 (a % b)))).bind fun x_1 => some ((⟨x.neg, x.w⟩ : Zr), (⟨x_1.neg, x_1.w⟩ : Zr), (0 : Int))) =
        some (zn (if n = true ∧ 0 < a % b then sv (!(n == m)) (a / b + 1) else sv (!(n == m)) (a / b)), zn (if n = true ∧ 0 < a % b then ((b - a % b : Nat) : Int) else ((a % b : Nat) : Int)), 0) := by
      intro c hc
      cases c
      · have hc' := of_decide_eq_false hc
        rw [cfm, if_neg hc', if_neg hc', of_can _ _ (by omega), bsm, of_can _ _ (by omega), bsm, sv_false]
      · have hc' := of_decide_eq_true hc
        have hq1 : (can 65536 (a / b + 1)).length ≤ (can 65536 a).length + 1 := by
          apply (can_len_iff (by decide)).2
          have : a / b ≤ a := Nat.div_le_self _ _
          rw [Nat.pow_succ]; omega
        have hbr : (can 65536 (b - a % b)).length ≤ (can 65536 b).length := (can_len_iff (by decide)).2 (by omega)
        rw [ctm, if_pos hc', if_pos hc', show [(1 : Int)] = zl [1] from rfl, radd_eq _ _ (c16H (by omega)) ⟨by simp, by simp⟩, bsm, v16_can, show v16 [1] = 1 by decide, rsub_eq _ _ (c16H (by omega)) (c16H (by omega)) (by rw [v16_can, v16_can]; omega), bsm, v16_can, v16_can, of_can _ _ (by omega), bsm, of_can _ _ (by omega), bsm, sv_false]
    cases n
    · rw [cfm, bsm]
      exact hK false (by simp)
    · rw [ctm, bsm]
      refine hK _ ?_
      simp only [true_and]
      by_cases h : 0 < a % b
      · rw [show decide (0 < a % b) = true by simp [h], show decide ((0 : Int) < ((can 65536 (a % b)).length : Int)) = true by rw [decide_eq_true_eq]; omega]
      · rw [show decide (0 < a % b) = false by simp [h], show decide ((0 : Int) < ((can 65536 (a % b)).length : Int)) = false by rw [decide_eq_false_iff_not]; omega]
end Go.Proofs.Ytegdplnhkjpmkaa
namespace Go.Proofs.Ytegdplnhkjpmkaa
open Go.Fw
theorem rGcd_eq {x y : Zr} (hx : Wl x) (hy : Wl y) : ref01_Gcd_m x y = some (zn (Int.gcd (zi x) (zi y) : Int)) := by
  have cx := hx.c16
  have cy := hy.c16
  unfold ref01_Gcd_m
  simp only [bsm, halves_of hx, halves_of hy]
  rw [Int.gcd]
  generalize (zi x).natAbs = a at *
  generalize (zi y).natAbs = b at *
  refine bind_loop (fun s => ∃ c d, s = (zl (can 65536 c), zl (can 65536 d)) ∧ Nat.gcd c d = Nat.gcd a b ∧ (can 65536 c).length ≤ 20000000000 ∧ (can 65536 d).length ≤ 20000000000)
    (fun e => e = zl (can 65536 (Nat.gcd a b)) ∧ (can 65536 (Nat.gcd a b)).length ≤ 20000000000) (fun s => val 65536 (s.2.map Int.toNat)) ?_ ⟨a, b, rfl, rfl, cx, cy⟩ ?_
  · rintro _ ⟨c, d, rfl, hg, hc, hd⟩
    simp only [zl_len]
    have hzl : ∀ l : List Nat, (zl l).map Int.toNat = l := fun l => by
      rw [zl, List.map_map]
      have : (Int.toNat ∘ fun (n : Nat) => (n : Int)) = id := by funext n; simp
      rw [this, List.map_id]
    by_cases h0 : d = 0
    · right
      subst h0
      rw [Nat.gcd_zero_right] at hg
      subst hg
      exact ⟨_, rfl, rfl, hc⟩
    · left
      have hlen0 : (can 65536 d).length ≠ 0 := fun h => h0 (c16_len0.1 h)
      have hm : c % d < d := Nat.mod_lt _ (by omega)
      rw [show decide ((0 : Int) < ((can 65536 d).length : Int)) = true by rw [decide_eq_true_eq]; omega, ctm, rdiv_eq c d h0 (by omega) (by omega), bsm]
      refine ⟨_, rfl, ⟨d, c % d, rfl, ?_, hd, ?_⟩, ?_⟩
      · rw [← hg, Nat.gcd_comm d, ← Nat.gcd_rec, Nat.gcd_comm]
      · exact Nat.le_trans ((can_len_iff (by decide)).2 (Nat.lt_trans hm (lt_can_len (by decide) d))) hd
      · simp only []
        rw [hzl, hzl, val_can (by decide), val_can (by decide)]; exact hm
  · rintro _ ⟨rfl, hl⟩
    rw [of_can _ _ (by omega), bsm, sv_false]
end Go.Proofs.Ytegdplnhkjpmkaa
namespace Go.Proofs.Ytegdplnhkjpmkaa
open Go.Fw
theorem rone_eq : ref02_one_m = some (zn 1) := by
  unfold ref02_one_m
  simp only [zeta', bsm, from_eq (x := 1) (by decide)]
section ops
variable {L M : Nat} {a b : Qr} {x y : Rat}
theorem rparts_eq (h : Rep L a x) (hL : L ≤ 10000000000) : ∃ n d : Int, ref02_num_m a = some (zn n) ∧ ref02_den_m a = some (zn d) ∧ 0 < d ∧ Rat.divInt n d = x ∧ Fit L n ∧ Fit L d := by
  have wn := h.wn hL
  have wd := h.wd hL
  have hv := h.v
  unfold ref02_num_m ref02_den_m
  simp only [zeta', bsm, rSign_eq wd, rone_eq, rNeg_eq wn, rAbs_eq wd, least_eq wn]
  unfold qv qd at hv
  rcases Int.lt_trichotomy (zi a.den) 0 with h1 | h1 | h1
  · refine ⟨-zi a.num, -zi a.den, ?_, ?_, by omega, ?_, h.fn.neg, h.fd.neg⟩
    · rw [Int.sign_eq_neg_one_of_neg h1]; rfl
    · rw [Int.sign_eq_neg_one_of_neg h1, show ((zi a.den).natAbs : Int) = -zi a.den by omega]; rfl
    · rw [Rat.neg_divInt_neg, ← hv, if_neg (by omega)]
  · refine ⟨zi a.num, 1, ?_, ?_, by decide, ?_, h.fn, fit_one h.l1⟩
    · rw [h1]; rfl
    · rw [h1]; rfl
    · rw [← hv, if_pos h1]
  · refine ⟨zi a.num, zi a.den, ?_, ?_, h1, ?_, h.fn, h.fd⟩
    · rw [Int.sign_eq_one_of_pos h1]; rfl
    · rw [Int.sign_eq_one_of_pos h1, show ((zi a.den).natAbs : Int) = zi a.den by omega]; rfl
    · rw [← hv, if_neg (by omega)]
theorem over_eq {n d : Int} (hn : Fit L n) (hd : Fit L d) (hL : L ≤ 10000000000) (h : 0 < d) : ref02_over_m (zn n) (zn d) = some (qn (Rat.divInt n d)) := by
  have wn := wl_zn hn hL
  have wd := wl_zn hd hL
  have g0 : (Int.gcd n d : Int) ≠ 0 := by
    have : 0 < Int.gcd n d := Int.gcd_pos_of_ne_zero_right _ (by omega)
    omega
  have wg : Wl (zn (Int.gcd n d : Int)) := wl_zn (hd.le (by
    have := Nat.le_of_dvd (Int.natAbs_pos.2 (show d ≠ 0 by omega)) (Int.gcd_dvd_natAbs_right n d)
    simpa using this)) hL
  have wq : Wl (zn (d / (Int.gcd n d : Int))) := wl_zn (hd.le (Int.natAbs_ediv_le_natAbs _ _)) hL
  have one : i64ok 1 := by decide
  unfold ref02_over_m
  simp only [zeta', bsm, rGcd_eq wn wd, rDiv_eq wn wg, rDiv_eq wd wg, rone_eq, zi_zn]
  rw [dmOf, if_neg g0, dmOf, if_neg g0]
  simp only []
  rw [rCmp_eq wq (wl_small one), bsm, zi_zn, zi_zn, qn_divInt h]
  by_cases e : d / (Int.gcd n d : Int) = 1
  · rw [e, cmpI_self, if_pos rfl]; rfl
  · have : cmpI (d / (Int.gcd n d : Int)) 1 ≠ 0 := by
      rcases Int.lt_trichotomy (d / (Int.gcd n d : Int)) 1 with q | q | q
      · rw [cmpI_lt q]; decide
      · exact absurd q e
      · rw [cmpI_gt q]; decide
    rw [decide_eq_false this, cfm, if_neg e]
theorem Rep.rleast (ha : Rep L a x) (h : L ≤ 10000000000) : ref02_Least_m a = some (qn x) := by
  obtain ⟨n, d, e1, e2, h1, h2, f1, f2⟩ := rparts_eq ha h
  unfold ref02_Least_m
  simp only [zeta', zetaQ, zetaP, e1, e2, bsm, over_eq f1 f2 h h1, h2]
theorem rIs_eq (h1 : a.num.w.length ≤ 100000000000) (h2 : a.den.w.length ≤ 100000000000) : ∃ c, ref02_Is_m a b = some c ∧ (c = true ↔ a = b) := by
  obtain ⟨c1, e1, k1⟩ := same_eq (x := a.num) (y := b.num) h1
  obtain ⟨c2, e2, k2⟩ := same_eq (x := a.den) (y := b.den) h2
  unfold ref02_Is_m
  simp only [zeta', bsm, letJ, e1, e2]
  have hab : a = b ↔ a.num = b.num ∧ a.den = b.den := by
    constructor
    · rintro rfl; exact ⟨rfl, rfl⟩
    · rintro ⟨e1, e2⟩; rw [← zetaP a, ← zetaP b, e1, e2]
  rw [hab, ← k1, ← k2]
  cases c1
  · exact ⟨false, rfl, by simp⟩
  · exact ⟨c2, rfl, by simp⟩
theorem Rep.ris (ha : Rep L (qn x) x) (h : L ≤ 10000000000) (y : Rat) : ref02_Is_m (qn x) (qn y) = some (decide (x = y)) := by
  obtain ⟨c, e, k⟩ := rIs_eq (a := qn x) (b := qn y) (by have := ha.ln; omega) (by have := ha.ld; omega)
  rw [e]
  congr 1
  by_cases q : x = y
  · rw [decide_eq_true q, k.2 (by rw [q])]
  · rw [decide_eq_false q]
    cases c
    · rfl
    · exact absurd (qn_inj (k.1 rfl)) q
theorem Rep.rsame (ha : Rep L a x) (hb : Rep M b y) (h : L ≤ 10000000000) (h' : M ≤ 10000000000) : ref02_Same_m a b = some (decide (x = y)) := by
  unfold ref02_Same_m
  simp only [zeta', zetaQ, zetaP, ha.rleast h, hb.rleast h', bsm, (ha.fq.rep ha.l1).ris h]
end ops
end Go.Proofs.Ytegdplnhkjpmkaa
namespace Go.Proofs.Ytegdplnhkjpmkaa
open Go.Fw
theorem letJ_of {J R : Type} {f : J → Option R} {g : (J → Option R) → Option R} {r : Option R} (h : g f = r) : letJ f g = r := h
section ops
variable {K L M : Nat} {c : Qr} {a b : List Qr} {k : Rat} {f g : Nat → Rat}
theorem vints {l : List Int} (hl : ∀ x ∈ l, i64ok x) (h : l.length ≤ 1000000) : vec_FromInts_m l = some (vq l.length fun i => ((l.getD i 0 : Int) : Rat)) ∧ RepV 2 (vq l.length fun i => ((l.getD i 0 : Int) : Rat)) (fun i => ((l.getD i 0 : Int) : Rat)) := by
  have hx : ∀ i, i64ok (l.getD i 0) := fun i => by
    by_cases hi : i < l.length
    · rw [List.getD_eq_getElem?_getD, List.getElem?_eq_getElem hi]; exact hl _ (List.getElem_mem hi)
    · rw [List.getD_eq_getElem?_getD, List.getElem?_eq_none (by omega)]; decide
  refine ⟨?_, vq_rep (fun i _ => (fromInt64_eq (hx i)).2.fq) (fun i hi => ?_) (by decide)⟩
  · unfold vec_FromInts_m
    refine bind_eq rfl <| bind_eq (mkM_of (by omega) (by omega)) <| bind_eq rfl ?_
    refine bind_loop_to (fun j => ((j : Int), vq j (fun i => ((l.getD i 0 : Int) : Rat)) ++ List.replicate (l.length - j) qz)) l.length (vq l.length fun i => ((l.getD i 0 : Int) : Rat)) rfl (fun j hj => ?_) ?_ rfl
    · have e3 := (fromInt64_eq (hx j)).1
      have h4 := vq_set (h := fun i => ((l.getD i 0 : Int) : Rat)) hj
      obtain ⟨q3, h3⟩ : ∃ q, qn ((l.getD j 0 : Int) : Rat) = q := ⟨_, rfl⟩
      rw [h3] at e3 h4
      obtain ⟨⟨_, _⟩, ⟨_, _⟩⟩ := q3
      refine bind_eq rfl <| bif_t (decide_eq_true (by omega)) <| bind_eq (geti_nat (get_getD' hj)) <| bind_eq e3 <| bind_eq (cki_nat (by rw [vqz_len (by omega)]; exact hj)) <| bind_eq (stM_of (by rw [vqz_len (by omega)]; exact hj)) <| bind_eq rfl ?_
      rw [w64_succ (by omega), h4]
    · refine bind_eq rfl <| bif_f (decide_eq_false (by omega)) ?_
      simp
  · show ((l.getD i 0 : Int) : Rat) = 0
    rw [getD_of_le' hi]; rfl
def sumF (l : List (List Qr)) : Nat → Nat → Rat
  | 0, _ => 0
  | j + 1, i => sumF l j i + vval (l.getD j []) i
def sumV (l : List (List Qr)) : Nat → List Qr
  | 0 => []
  | j + 1 => vq (max (sumV l j).length (l.getD j []).length) fun i => sumF l j i + vval (l.getD j []) i
theorem sumV_rep {l : List (List Qr)} (hl : ∀ v ∈ l, RepV L v (vval v) ∧ v.length ≤ 1000) (h1 : 1 ≤ L) : ∀ j, j ≤ l.length → RepV (j * (L + 1) + 1) (sumV l j) (sumF l j) ∧ (sumV l j).length ≤ 1000
  | 0, _ => ⟨(RepV.nil (by omega)).congr (fun _ => rfl), by simp [sumV]⟩
  | j + 1, hj => by
    obtain ⟨r1, l1⟩ := sumV_rep hl h1 j (by omega)
    have hm : l.getD j [] ∈ l := by rw [List.getD_eq_getElem?_getD, List.getElem?_eq_getElem (by omega)]; exact List.getElem_mem (by omega)
    obtain ⟨r2, l2⟩ := hl _ hm
    refine ⟨?_, by rw [sumV, vq_len]; omega⟩
    rw [sumV, Nat.add_mul]
    refine (vq_rep (L := j * (L + 1) + 1 + L + 1) (fun i _ => (r1.fq i).add (r2.fq i)) (fun i hi => ?_) (by omega)).mono (by omega)
    rw [r1.z i (by omega), r2.z i (by omega)]; grind
theorem vsum {l : List (List Qr)} (hl : ∀ v ∈ l, RepV L v (vval v) ∧ v.length ≤ 1000) (h1 : 1 ≤ L) (h : (l.length + 1) * (L + 1) + 1 ≤ 4000000000) : vec_Sum_m l = some (sumV l l.length) := by
  have hln : l.length ≤ 4000000000 := by
    have : l.length * 1 ≤ l.length * (L + 1) := Nat.mul_le_mul_left _ (by omega)
    rw [Nat.add_mul] at h; omega
  unfold vec_Sum_m
  refine bind_eq rfl ?_
  refine bind_loop_to (fun j => (sumV l j, (j : Int))) l.length (sumV l l.length) rfl (fun j hj => ?_) ?_ rfl
  · obtain ⟨q1, l1⟩ := sumV_rep hl h1 j (by omega)
    have hm : l.getD j [] ∈ l := by rw [List.getD_eq_getElem?_getD, List.getElem?_eq_getElem (by omega)]; exact List.getElem_mem (by omega)
    obtain ⟨q2, l2⟩ := hl _ hm
    have hj2 : j * (L + 1) ≤ l.length * (L + 1) := Nat.mul_le_mul_right _ (by omega)
    rw [Nat.add_mul] at h
    refine bind_eq rfl <| bif_t (decide_eq_true (by omega)) <| bind_eq (geti_nat (get_getD' (d := []) hj)) <| bind_eq (vadd q1 q2 (by omega) (by omega) (by omega)).1 <| bind_eq rfl ?_
    rw [w64_succ (by omega)]; rfl
  · exact bind_eq rfl <| bif_f (decide_eq_false (by omega)) rfl
end ops
end Go.Proofs.Ytegdplnhkjpmkaa
namespace Go.Proofs.Ytegdplnhkjpmkaa
open Go.Fw
abbrev OkQ (q : Qr) : Prop := OkZ q.num ∧ OkZ q.den
theorem rep_of {q : Qr} {L : Nat} (h : OkQ q) (h1 : q.num.w.length ≤ L) (h2 : q.den.w.length ≤ L) (hL : 1 ≤ L) : Rep L q (qv q) := ⟨h.1.2.2, h.2.2.2, h1, h2, hL, rfl⟩
end Go.Proofs.Ytegdplnhkjpmkaa
namespace Go.Proofs.Ytegdplnhkjpmkaa
open Go.Fw
theorem Rep.eqT {L M : Nat} {a b : Qr} {x y : Rat} (ha : Rep L a x) (hb : Rep M b y) (e : x = y) (h : L + M ≤ 4000000000) : frac_Equal_m a b = some true := by
  rw [ha.eq hb h, decide_eq_true e]
end Go.Proofs.Ytegdplnhkjpmkaa
namespace Go.Proofs.Ytegdplnhkjpmkaa
open Go.Fw
theorem dT {p : Prop} [Decidable p] (h : p) : (some (decide p) : Option Bool) = some true := congrArg some (decide_eq_true h)
theorem dF {p : Prop} [Decidable p] (h : ¬ p) : (some (decide p) : Option Bool) = some false := congrArg some (decide_eq_false h)
theorem andT {β : Type} {x : Option Bool} {f : Bool → Option β} {r : Option β} {y : Option Bool} (h : x = some true) (hf : f true = r) : (bif true then x else y).bind f = r := by rw [ctm, h]; exact hf
theorem orC {β : Type} {b c : Bool} {x : Option Bool} {f : Bool → Option β} {r : Option β} (h : b = false → x = some c) (hf : f (b || c) = r) : (bif b then some true else x).bind f = r := by
  cases b
  · rw [cfm, h rfl]; exact hf
  · rw [ctm]; exact hf
section ops
variable {K L M : Nat} {a b c : Qr} {x y z : Rat}
theorem Rep.add' (ha : Rep L a x) (hb : Rep M b y) (h : L + M ≤ 4000000000) : ∃ q, frac_Add_m a b = some q ∧ Rep (L + M + 1) q (x + y) := ⟨_, ha.add hb h⟩
theorem Rep.sub' (ha : Rep L a x) (hb : Rep M b y) (h : L + M ≤ 4000000000) : ∃ q, frac_Sub_m a b = some q ∧ Rep (L + M + 1) q (x - y) := ⟨_, ha.sub hb h⟩
theorem Rep.mul' (ha : Rep L a x) (hb : Rep M b y) (h : L + M ≤ 4000000000) : ∃ q, frac_Mul_m a b = some q ∧ Rep (L + M) q (x * y) := ⟨_, ha.mul hb h⟩
theorem int' {n : Int} (hn : i64ok n) : ∃ q, frac_FromInt64_m n = some q ∧ Rep 2 q (n : Rat) := ⟨_, fromInt64_eq hn⟩
theorem vints' {l : List Int} (hl : ∀ x ∈ l, i64ok x) (h : l.length ≤ 1000000) : ∃ v, vec_FromInts_m l = some v ∧ RepV 2 v (fun i => ((l.getD i 0 : Int) : Rat)) ∧ v.length = l.length := ⟨_, (vints hl h).1, (vints hl h).2, vq_len _ _⟩
end ops
theorem RepV.val {L : Nat} {v : List Qr} {f : Nat → Rat} (h : RepV L v f) (i : Nat) : f i = vval v i := (h.at i).v.symm
theorem RepV.self {L : Nat} {v : List Qr} {f : Nat → Rat} (h : RepV L v f) : RepV L v (vval v) := h.congr h.val
theorem RepV.of {L n : Nat} {v : List Qr} {f : Nat → Rat} (hn : v.length = n) (h : ∀ i q, v[i]? = some q → Rep L q (f i)) (h1 : 1 ≤ L) : RepV L v (fun i => if i < n then f i else 0) := by
  refine ⟨fun i hi => ?_, fun i hi => ?_, h1⟩
  · show Rep L v[i] (if i < n then f i else 0)
    rw [if_pos (by omega)]; exact h i _ (List.getElem?_eq_getElem hi)
  · show (if i < n then f i else 0) = 0
    rw [if_neg (by omega)]
theorem samerow {L M : Nat} {a b : List Qr} {f g : Nat → Rat} (ha : RepV L a f) (hb : RepV M b g) (hl : a.length = b.length) (h : ∀ i, i < a.length → f i = g i) (hL : L ≤ 10000000000) (hM : M ≤ 10000000000) (hs : a.length ≤ 1000000) : ref33_SameRow_m a b = some true := by
  unfold ref33_SameRow_m
  refine bind_eq rfl <| bind_eq rfl <| bind_eq (dF (by omega)) <| bif_f rfl ?_
  refine bind_loop_to (fun j => (j : Int)) a.length (.inl ()) rfl (fun j hj => ?_) ?_ rfl
  · obtain ⟨p, hp, rp⟩ := ha.get hj
    obtain ⟨q, hq, rq⟩ := hb.get (show j < b.length by omega)
    have e := rp.rsame rq hL hM
    rw [decide_eq_true (h j hj)] at e
    refine bind_eq rfl <| bind_eq (dT (by omega)) <| bif_t rfl <| bind_eq (geti_nat hp) <| bind_eq (geti_nat hq) <| bind_eq e <| bind_eq rfl <| bif_f rfl <| bind_eq rfl ?_
    rw [w64_succ (by omega)]
  · exact bind_eq rfl <| bind_eq (dF (by omega)) <| bif_f rfl rfl
theorem long33 (l : List (List Qr)) (hl : l.length ≤ 9223372036854775807) : ∃ b, law33_Long_m l = some b ∧ (b = false → ∀ v ∈ l, v.length ≤ 40) := by
  unfold law33_Long_m
  refine bind_loop_ex (fun s => ∃ (i : Nat) (n : Int), s = (n, (i : Int)) ∧ i ≤ l.length ∧ ∀ v ∈ l.take i, v.length ≤ 40) (fun e => (e = .inl () ∧ ∀ v ∈ l, v.length ≤ 40) ∨ e = .inr true) (fun s => l.length - s.2.toNat) ?_ ⟨0, 0, rfl, by omega, by simp⟩ ?_
  · rintro _ ⟨i, n, rfl, hi, ht⟩
    by_cases hlt : i < l.length
    · have g := List.getElem?_eq_getElem hlt
      by_cases h1 : 40 < l[i].length
      · exact .inr ⟨.inr true, bind_eq rfl <| bind_eq (dT (by omega)) <| bif_t rfl <| bind_eq (geti_nat g) <| bind_eq rfl <| bind_eq (dT (by omega)) <| bif_t rfl rfl, .inr rfl⟩
      · obtain ⟨e, he, -⟩ := loopM_inv (body := fun (s : Int × Int) => match s with | ⟨y3, y5⟩ => (show Option ((Int × Int) ⊕ Int) from (geti l (i : Int)).bind fun x21 => (some (x21.length : Int)).bind fun x23 => (some (decide ((y5 : Int) < x23))).bind fun x24 => (bif x24 then (some (IntKind.i64.wrap (y3 + 1))).bind fun x28 => (geti l (i : Int)).bind fun x31 => (geti x31 y5).bind fun ⟨⟨x34_0, x34_1⟩, ⟨x34_2, x34_3⟩⟩ => (some (x34_1.length : Int)).bind fun x38 => (some (min (100 : Int) x38)).bind fun x39 => (some (IntKind.i64.wrap (x28 + x39))).bind fun x40 => (geti l (i : Int)).bind fun x43 => (geti x43 y5).bind fun ⟨⟨x46_0, x46_1⟩, ⟨x46_2, x46_3⟩⟩ => (some (x46_3.length : Int)).bind fun x50 => (some (min (100 : Int) x50)).bind fun x51 => (some (IntKind.i64.wrap (x40 + x51))).bind fun x52 => (some (IntKind.i64.wrap (y5 + 1))).bind fun x26 => some (.inl (x52, x26)) else some (.inr y3))))
          (s := (n, 0)) (fun s => ∃ (k : Nat) (m : Int), s = (m, (k : Int)) ∧ k ≤ l[i].length) (fun _ => True) (fun s => l[i].length - s.2.toNat) (by
            rintro _ ⟨k, m, rfl, hk⟩
            by_cases hk2 : k < l[i].length
            · have gk := List.getElem?_eq_getElem hk2
              generalize l[i][k] = q at gk
              refine .inl ⟨(_, ((k + 1 : Nat) : Int)), bind_eq (geti_nat g) <| bind_eq rfl <| bind_eq (dT (by omega)) <| bif_t rfl <| bind_eq rfl <| bind_eq (geti_nat g) <| bind_eq (geti_nat gk) <| bind_eq rfl <| bind_eq rfl <| bind_eq rfl <| bind_eq (geti_nat g) <| bind_eq (geti_nat gk) <| bind_eq rfl <| bind_eq rfl <| bind_eq rfl <| bind_eq (congrArg some (w64_succ (by omega))) rfl, ⟨k + 1, _, rfl, hk2⟩, by simp only [Int.toNat_natCast]; omega⟩
            · exact .inr ⟨m, bind_eq (geti_nat g) <| bind_eq rfl <| bind_eq (dF (by omega)) <| bif_f rfl rfl, trivial⟩) ⟨0, n, rfl, by omega⟩
        by_cases h2 : 400 < e
        · exact .inr ⟨.inr true, bind_eq rfl <| bind_eq (dT (by omega)) <| bif_t rfl <| bind_eq (geti_nat g) <| bind_eq rfl <| bind_eq (dF (by omega)) <| bif_f rfl <| bind_eq he <| bind_eq (dT h2) <| bif_t rfl rfl, .inr rfl⟩
        · refine .inl ⟨(e, ((i + 1 : Nat) : Int)), bind_eq rfl <| bind_eq (dT (by omega)) <| bif_t rfl <| bind_eq (geti_nat g) <| bind_eq rfl <| bind_eq (dF (by omega)) <| bif_f rfl <| bind_eq he <| bind_eq (dF h2) <| bif_f rfl <| bind_eq (congrArg some (w64_succ (by omega))) rfl, ⟨i + 1, e, rfl, hlt, ?_⟩, by simp only [Int.toNat_natCast]; omega⟩
          rw [List.take_add_one, g]
          intro u hu
          rcases List.mem_append.1 hu with h | h
          · exact ht u h
          · simp at h; rw [h]; omega
    · refine .inr ⟨.inl (), bind_eq rfl <| bind_eq (dF (by omega)) <| bif_f rfl rfl, .inl ⟨rfl, ?_⟩⟩
      rw [List.take_of_length_le (by omega)] at ht; exact ht
  · rintro e (⟨rfl, he⟩ | rfl)
    · exact ⟨false, rfl, fun _ => he⟩
    · exact ⟨true, rfl, fun h => by cases h⟩
abbrev szZ (z : Zr) : Nat := 1 + ((z.w.map fun _ => 1).sum + 1) + 1
abbrev szQ (q : Qr) : Nat := szZ q.num + szZ q.den + 1
abbrev szV (v : List Qr) : Nat := (v.map fun x => szQ x).sum + 1
theorem sum_mem {α : Type} (f : α → Nat) : ∀ {l : List α} {x : α}, x ∈ l → f x ≤ (l.map f).sum
  | y :: l, x, h => by
    rw [List.map_cons, List.sum_cons]
    rcases List.mem_cons.1 h with rfl | h
    · omega
    · have := sum_mem f h; omega
theorem sum_one {α : Type} : ∀ l : List α, (l.map fun _ => 1).sum = l.length
  | [] => rfl
  | _ :: l => by rw [List.map_cons, List.sum_cons, sum_one l, List.length_cons]; omega
theorem szQ_len (q : Qr) : q.num.w.length ≤ szQ q ∧ q.den.w.length ≤ szQ q := by
  simp only [szQ, szZ, sum_one]; omega
abbrev OkV (v : List Qr) : Prop := v.length ≤ 9223372036854775807 ∧ ∀ q ∈ v, OkQ q
theorem repq {q : Qr} (h : OkQ q) (s : szQ q ≤ 1048576) : Rep 1048576 q (qv q) := by
  have := szQ_len q
  exact rep_of h (by omega) (by omega) (by decide)
theorem repvu {v : List Qr} (h : OkV v) (s : szV v ≤ 1048576) : RepV 1048576 v (vval v) := by
  refine repv_of (fun q hq => repq (h.2 q hq) ?_) (by decide)
  have := sum_mem (fun x => szQ x) hq
  have e : szV v = (v.map fun x => szQ x).sum + 1 := rfl
  omega
end Go.Proofs.Ytegdplnhkjpmkaa
namespace Go.Proofs.Ytegdplnhkjpmkaa
open Go.Fw
def owQ (a p r n : Rat) : Rat := a * p + n * (r - a)
theorem owed {L : Nat} {a p r n : Qr} {x y z w : Rat} (ha : Rep L a x) (hp : Rep L p y) (hr : Rep L r z) (hn : Rep L n w) (h : 5 * L + 2 ≤ 4000000000) : ∃ q, settle_Owed_m a p r n = some q ∧ Rep (5 * L + 2) q (owQ x y z w) := by
  obtain ⟨q1, e1, r1⟩ := ha.mul' hp (by omega)
  obtain ⟨q2, e2, r2⟩ := hr.sub' ha (by omega)
  obtain ⟨q3, e3, r3⟩ := hn.mul' r2 (by omega)
  obtain ⟨q4, e4, r4⟩ := r1.add' r3 (by omega)
  refine ⟨q4, ?_, r4.mono (by omega)⟩
  unfold settle_Owed_m
  exact bind_eq e1 <| bind_eq e2 <| bind_eq e3 <| bind_eq e4 rfl
theorem selem (a : List Qr) (i : Nat) : settle_element_m a (i : Int) = some (qat a i) := by
  unfold settle_element_m qat
  by_cases h : i < a.length
  · exact bind_eq rfl <| bind_eq (dF (by omega)) <| bif_f rfl <| bind_eq (geti_nat (get_getD' (d := qz) h)) rfl
  · refine bind_eq rfl <| bind_eq (dT (by omega)) <| bif_t rfl ?_
    rw [getD_of_le' (by omega)]; rfl
def AtOk (at' : List Int) (n : Nat) : Prop := ∀ x ∈ at', 0 ≤ x ∧ x < n
def owF (at' : List Int) (ka fa kr fr : Nat → Rat) (i : Nat) : Rat := owQ (ka i) (fa (at'.getD i 0).toNat) (kr i) (fr (at'.getD i 0).toNat)
theorem amounts {L : Nat} {at' : List Int} {pa ga ta pr gr tr : List Qr} {fa ka fr kr : Nat → Rat} (h1 : RepV L pa fa) (h2 : RepV L ga ka) (h3 : RepV L pr fr) (h4 : RepV L gr kr) (hn : at'.length ≤ 1000) (hL : 5 * L + 2 ≤ 4000000000) :
    ∃ r, settle_amountsU_m at' ⟨pa, ga, ta⟩ ⟨pr, gr, tr⟩ = some r ∧ ((AtOk at' (min pa.length pr.length) ∧ r.2 = 0 ∧ r.1.length = at'.length ∧ RepV (5 * L + 2) r.1 (fun i => if i < at'.length then owF at' ka fa kr fr i else 0)) ∨ (¬ AtOk at' (min pa.length pr.length) ∧ r = ([], 1))) := by
  unfold settle_amountsU_m
  have l1 : (1 : Nat) ≤ 5 * L + 2 := by omega
  refine (fun (H : ∃ r, _ = some r ∧ _) => H) ?_
  have hmk := mkM_of (b := 64) (z := (⟨⟨false, []⟩, ⟨false, []⟩⟩ : Qr)) (by omega) (show at'.length ≤ 1000000000000 by omega)
  have hmin := min_len pa pr
  show ∃ r, (Option.bind (some ga) _) = some r ∧ _
  rw [bsm, show settle_Units_1_m ⟨pr, gr, tr⟩ = some gr from rfl, bsm, bsm, bsm, hmin, bsm, bsm, hmk, bsm, bsm]
  refine bind_loop_ex (fun s => ∃ (j : Nat) (l : List Qr), s = ((j : Int), l) ∧ j ≤ at'.length ∧ l.length = at'.length ∧ (∀ i, i < j → 0 ≤ at'.getD i 0 ∧ at'.getD i 0 < ((min pa.length pr.length : Nat) : Int)) ∧ ∀ i q, i < j → l[i]? = some q → Rep (5 * L + 2) q (owF at' ka fa kr fr i))
    (fun e => (∃ l, e = .inl l ∧ l.length = at'.length ∧ AtOk at' (min pa.length pr.length) ∧ ∀ i q, l[i]? = some q → Rep (5 * L + 2) q (owF at' ka fa kr fr i)) ∨ (e = .inr ([], 1) ∧ ¬ AtOk at' (min pa.length pr.length)))
    (fun s => at'.length - s.1.toNat) ?_ ⟨0, _, rfl, by omega, by simp, fun i hi => by omega, fun i q hi => by omega⟩ ?_
  · rintro _ ⟨j, l, rfl, hj, hl, hok, hrep⟩
    by_cases hlt : j < at'.length
    · have g := get_getD' (l := at') (d := 0) hlt
      by_cases hb : 0 ≤ at'.getD j 0 ∧ at'.getD j 0 < ((min pa.length pr.length : Nat) : Int)
      · left
        obtain ⟨k, hk⟩ : ∃ k : Nat, at'.getD j 0 = (k : Int) := ⟨(at'.getD j 0).toNat, by omega⟩
        obtain ⟨p1, e1, r1⟩ := h1.get (show k < pa.length by omega)
        obtain ⟨p2, e2, r2⟩ := h3.get (show k < pr.length by omega)
        obtain ⟨q, e3, r3⟩ := owed (h2.at j) r1 (h4.at j) r2 hL
        have hF : owF at' ka fa kr fr j = owQ (ka j) (fa k) (kr j) (fr k) := by unfold owF; rw [hk, Int.toNat_natCast]
        rw [hk] at g hb
        refine ⟨(((j + 1 : Nat) : Int), l.set j q), ?_, ⟨j + 1, _, rfl, hlt, by simp [hl], ?_, ?_⟩, by simp only [Int.toNat_natCast]; omega⟩
        · refine bind_eq (dT (by omega)) <| bif_t rfl <| bind_eq (geti_nat g) <| letJ_of ?_
          refine bind_eq (dF (by omega)) <| bind_eq (a := false) (bif_f rfl <| bind_eq (dF (by omega)) rfl) <| bif_f rfl ?_
          exact bind_eq (selem _ _) <| bind_eq (geti_nat e1) <| bind_eq (selem _ _) <| bind_eq (geti_nat e2) <| bind_eq e3 <| bind_eq (cki_nat (by omega)) <| bind_eq (stM_of (by omega)) <| bind_eq (congrArg some (w64_succ (by omega))) rfl
        · intro i hi
          rcases Nat.lt_or_ge i j with q' | q'
          · exact hok i q'
          · obtain rfl : i = j := by omega
            rw [hk]; exact hb
        · intro i q' hi hq
          rw [List.getElem?_set] at hq
          by_cases e : j = i
          · subst e
            rw [if_pos rfl, if_pos (by omega)] at hq
            rw [← Option.some.inj hq, hF]; exact r3
          · rw [if_neg e] at hq
            exact hrep i q' (by omega) hq
      · refine .inr ⟨.inr ([], 1), ?_, .inr ⟨rfl, fun ha => ?_⟩⟩
        · refine bind_eq (dT (by omega)) <| bif_t rfl <| bind_eq (geti_nat g) <| letJ_of ?_
          by_cases h0 : at'.getD j 0 < 0
          · exact bind_eq (dT h0) <| bind_eq (a := true) (bif_t rfl rfl) <| bif_t rfl rfl
          · exact bind_eq (dF h0) <| bind_eq (a := true) (bif_f rfl <| bind_eq (dT (by omega)) rfl) <| bif_t rfl rfl
        · have hm : at'.getD j 0 ∈ at' := by rw [List.getD_eq_getElem?_getD, List.getElem?_eq_getElem hlt]; exact List.getElem_mem hlt
          exact hb (ha _ hm)
    · refine .inr ⟨.inl l, bind_eq (dF (by omega)) <| bif_f rfl rfl, .inl ⟨l, rfl, hl, fun x hx => ?_, fun i q hq => hrep i q ?_ hq⟩⟩
      · obtain ⟨i, hi, rfl⟩ := List.mem_iff_getElem.1 hx
        have := hok i (by omega)
        rwa [List.getD_eq_getElem?_getD, List.getElem?_eq_getElem hi] at this
      · have := (List.getElem?_eq_some_iff.1 hq).1; omega
  · rintro e (⟨l, rfl, hl, ha, hr⟩ | ⟨rfl, ha⟩)
    · exact ⟨(l, 0), rfl, .inl ⟨ha, rfl, hl, RepV.of hl hr l1⟩⟩
    · exact ⟨([], 1), rfl, .inr ⟨ha, rfl⟩⟩
theorem units_of {at' : List Int} {a b : Sd} {r : List Qr × Int} (h : settle_amountsU_m at' a b = some r) : settle_Units_m at' a b = some r := by
  unfold settle_Units_m; exact bind_eq h rfl
theorem bids_of {at' : List Int} {a b : Sd} {r : List Qr × Int} (h : settle_amountsB_m at' a b = some r) : settle_Bids_m at' a b = some r := by
  unfold settle_Bids_m; exact bind_eq h rfl
theorem units {L : Nat} {at' : List Int} {pa ga ta pr gr tr : List Qr} {fa ka fr kr : Nat → Rat} (h1 : RepV L pa fa) (h2 : RepV L ga ka) (h3 : RepV L pr fr) (h4 : RepV L gr kr) (hn : at'.length ≤ 1000) (hL : 5 * L + 2 ≤ 4000000000) (ha : AtOk at' (min pa.length pr.length)) :
    ∃ v, settle_Units_m at' ⟨pa, ga, ta⟩ ⟨pr, gr, tr⟩ = some (v, 0) ∧ v.length = at'.length ∧ RepV (5 * L + 2) v (fun i => if i < at'.length then owF at' ka fa kr fr i else 0) := by
  obtain ⟨⟨v, e⟩, h, hr | hr⟩ := amounts (ta := ta) (tr := tr) h1 h2 h3 h4 hn hL
  · obtain ⟨_, rfl, h5, h6⟩ := hr
    exact ⟨v, units_of h, h5, h6⟩
  · exact absurd ha hr.1
theorem bids {L : Nat} {at' : List Int} {pa ga ta pr gr tr : List Qr} {fa ka fr kr : Nat → Rat} (h1 : RepV L pa fa) (h2 : RepV L ta ka) (h3 : RepV L pr fr) (h4 : RepV L tr kr) (hn : at'.length ≤ 1000) (hL : 5 * L + 2 ≤ 4000000000) (ha : AtOk at' (min pa.length pr.length)) :
    ∃ v, settle_Bids_m at' ⟨pa, ga, ta⟩ ⟨pr, gr, tr⟩ = some (v, 0) ∧ v.length = at'.length ∧ RepV (5 * L + 2) v (fun i => if i < at'.length then owF at' ka fa kr fr i else 0) := by
  obtain ⟨⟨v, e⟩, h, hr | hr⟩ := amounts (ta := ga) (tr := gr) h1 h2 h3 h4 hn hL
  · obtain ⟨_, rfl, h5, h6⟩ := hr
    exact ⟨v, bids_of h, h5, h6⟩
  · exact absurd ha hr.1
theorem units_no {L : Nat} {at' : List Int} {pa ga ta pr gr tr : List Qr} {fa ka fr kr : Nat → Rat} (h1 : RepV L pa fa) (h2 : RepV L ga ka) (h3 : RepV L pr fr) (h4 : RepV L gr kr) (hn : at'.length ≤ 1000) (hL : 5 * L + 2 ≤ 4000000000) (ha : ¬ AtOk at' (min pa.length pr.length)) :
    settle_Units_m at' ⟨pa, ga, ta⟩ ⟨pr, gr, tr⟩ = some ([], 1) := by
  obtain ⟨r, h, hr | hr⟩ := amounts (ta := ta) (tr := tr) h1 h2 h3 h4 hn hL
  · exact absurd hr.1 ha
  · rw [hr.2] at h; exact units_of h
theorem total {L : Nat} {v : List Qr} {f : Nat → Rat} (h : RepV L v f) (hL : (v.length + 1) * (L + 1) + 1 ≤ 4000000000) : ∃ q, settle_total_m v = some q ∧ Rep (v.length * (L + 1) + 1) q (sumQ f v.length) := by
  have hlen : v.length ≤ 4000000000 := by
    have : v.length * 1 ≤ v.length * (L + 1) := Nat.mul_le_mul_left _ (by omega)
    rw [Nat.add_mul] at hL; omega
  unfold settle_total_m
  rw [bsm]
  refine bind_loop_ex (fun s => ∃ (j : Nat) (q : Qr), s = ((j : Int), q.num.neg, q.num.w, q.den.neg, q.den.w) ∧ j ≤ v.length ∧ Rep (j * (L + 1) + 1) q (sumQ f j)) (fun e => ∃ q : Qr, e = (q.num.neg, q.num.w, q.den.neg, q.den.w) ∧ Rep (v.length * (L + 1) + 1) q (sumQ f v.length)) (fun s => v.length - s.1.toNat) ?_ ⟨0, qz, rfl, by omega, by rw [Nat.zero_mul]; exact rep_zero (by omega)⟩ ?_
  · rintro _ ⟨j, q, rfl, hj, hq⟩
    by_cases hlt : j < v.length
    · obtain ⟨p, e1, r1⟩ := h.get hlt
      have hj2 : j * (L + 1) ≤ v.length * (L + 1) := Nat.mul_le_mul_right _ (by omega)
      rw [Nat.add_mul] at hL
      obtain ⟨q2, e2, r2⟩ := hq.add' r1 (by omega)
      refine .inl ⟨(((j + 1 : Nat) : Int), q2.num.neg, q2.num.w, q2.den.neg, q2.den.w), ?_, ⟨j + 1, q2, rfl, hlt, r2.mono (by rw [Nat.add_mul]; omega)⟩, by simp only [Int.toNat_natCast]; omega⟩
      exact bind_eq (dT (by omega)) <| bif_t rfl <| bind_eq (geti_nat e1) <| bind_eq e2 <| bind_eq (congrArg some (w64_succ (by omega))) rfl
    · obtain rfl : j = v.length := by omega
      exact .inr ⟨_, bind_eq (dF (by omega)) <| bif_f rfl rfl, q, rfl, hq⟩
  · rintro _ ⟨q, rfl, hq⟩
    exact ⟨q, rfl, hq⟩
theorem rest {L M : Nat} {u v : List Qr} {f g : Nat → Rat} (h : RepV L u f) (k : RepV M v g) (hL : (u.length + 1) * (L + 1) + 1 + ((v.length + 1) * (M + 1) + 1) ≤ 4000000000) :
    ∃ q, settle_Rest_m u v = some q ∧ Rep (u.length * (L + 1) + 1 + (v.length * (M + 1) + 1) + 1) q (sumQ f u.length - sumQ g v.length) := by
  obtain ⟨q1, e1, r1⟩ := total h (by omega)
  obtain ⟨q2, e2, r2⟩ := total k (by omega)
  have a1 : u.length * (L + 1) ≤ (u.length + 1) * (L + 1) := Nat.mul_le_mul_right _ (by omega)
  have a2 : v.length * (M + 1) ≤ (v.length + 1) * (M + 1) := Nat.mul_le_mul_right _ (by omega)
  obtain ⟨q3, e3, r3⟩ := r1.sub' r2 (by omega)
  refine ⟨q3, ?_, r3⟩
  unfold settle_Rest_m
  exact bind_eq e1 <| bind_eq e2 <| bind_eq e3 rfl
def maxL (l : List (List Qr)) : Nat → Nat
  | 0 => 0
  | j + 1 => max (maxL l j) (l.getD j []).length
theorem sumV_len (l : List (List Qr)) : ∀ j, (sumV l j).length = maxL l j
  | 0 => rfl
  | j + 1 => by rw [sumV, vq_len, maxL, sumV_len l j]
theorem day {L : Nat} {l : List (List Qr)} (hl : ∀ v ∈ l, RepV L v (vval v) ∧ v.length ≤ 1000) (h1 : 1 ≤ L) (h : (l.length + 1) * (L + 1) + 1 ≤ 4000000000) : ∃ v, settle_Day_m l = some v ∧ RepV (l.length * (L + 1) + 1) v (sumF l l.length) ∧ v.length = maxL l l.length := by
  refine ⟨sumV l l.length, ?_, (sumV_rep hl h1 _ (Nat.le_refl _)).1, sumV_len _ _⟩
  unfold settle_Day_m
  exact bind_eq (vsum hl h1 h) rfl
theorem is36 {L : Nat} {q : Qr} {x : Rat} {n : Int} (h : Rep L q x) (hn : i64ok n) (e : x = (n : Rat)) (hL : L + 2 ≤ 4000000000) : law36_is_m q n = some true := by
  obtain ⟨p, e1, r1⟩ := int' hn
  unfold law36_is_m
  exact bind_eq e1 <| bind_eq (h.eqT r1 e hL) rfl
end Go.Proofs.Ytegdplnhkjpmkaa
namespace Go.Proofs.Ytegdplnhkjpmkaa
open Go.Fw
theorem isAt {L : Nat} {v : List Qr} {f : Nat → Rat} (h : RepV L v f) {i : Nat} (hi : i < v.length) {n : Int} (hn : i64ok n) (e : f i = (n : Rat)) (hL : L + 2 ≤ 4000000000) : ∃ q, v[i]? = some q ∧ law36_is_m q n = some true := by
  obtain ⟨q, hq, rq⟩ := h.get hi
  exact ⟨q, hq, is36 rq hn e hL⟩
theorem atok1 {n : Nat} {x : Int} (h : 0 ≤ x ∧ x < n) : AtOk [x] n := fun y hy => by simp at hy; rw [hy]; exact h
theorem awake36 : law36_awake_m = some true := by
  obtain ⟨v1, e1, r1, l1⟩ := vints' (l := [20, 25]) (by decide) (by decide)
  obtain ⟨v2, e2, r2, l2⟩ := vints' (l := [10]) (by decide) (by decide)
  obtain ⟨v4, e4, r4, l4⟩ := vints' (l := [30, 30]) (by decide) (by decide)
  obtain ⟨v5, e5, r5, l5⟩ := vints' (l := [7]) (by decide) (by decide)
  have hm : min v1.length v4.length = 2 := by rw [l1, l4]; rfl
  obtain ⟨u1, f1, m1, s1⟩ := units (at' := [0]) (ta := v2) (tr := v5) r1 r2 r4 r5 (by decide) (by decide) (by rw [hm]; exact atok1 (by decide))
  obtain ⟨u2, f2, m2, s2⟩ := bids (at' := [1]) (ga := v2) (gr := v5) r1 r2 r4 r5 (by decide) (by decide) (by rw [hm]; exact atok1 (by decide))
  have f3 := units_no (at' := [2]) (ta := v2) (tr := v5) r1 r2 r4 r5 (by decide) (by decide) (by rw [hm]; exact fun h => by have := h 2 (by simp); omega)
  obtain ⟨q1, g1, t1⟩ := int' (n := 10) (by decide)
  obtain ⟨q2, g2, t2⟩ := int' (n := 20) (by decide)
  obtain ⟨q3, g3, t3⟩ := int' (n := 7) (by decide)
  obtain ⟨q4, g4, t4⟩ := int' (n := 30) (by decide)
  obtain ⟨q5, g5, t5⟩ := owed t1 t2 t3 t4 (by decide)
  have i1 := is36 (n := 110) t5 (by decide) (by decide +kernel) (by decide)
  have n1 : u1.length = 1 := m1
  have n2 : u2.length = 1 := m2
  obtain ⟨p1, a1, b1⟩ := isAt (i := 0) s1 (by omega) (n := 110) (by decide) (by decide +kernel) (by decide)
  obtain ⟨p2, a2, b2⟩ := isAt (i := 0) s2 (by omega) (n := 160) (by decide) (by decide +kernel) (by decide)
  obtain ⟨q6, g6, t6⟩ := rest s2 s1 (by rw [n1, n2]; decide)
  have i2 := is36 (n := 50) t6 (by decide) (by rw [n1, n2]; decide +kernel) (by rw [n1, n2]; decide)
  unfold law36_awake_m
  refine bind_eq e1 <| bind_eq e2 <| bind_eq e2 <| bind_eq e4 <| bind_eq e5 <| bind_eq e5 <| bind_eq f1 <| bind_eq f2 <| bind_eq f3 <| letJ_of ?_
  refine bind_eq g1 <| bind_eq g2 <| bind_eq g3 <| bind_eq g4 <| bind_eq g5 <| bind_eq i1 <| andT (bind_eq rfl rfl) <| andT (bind_eq rfl <| bind_eq (dT (by omega)) rfl) ?_
  refine andT (bind_eq (geti_zero a1) <| bind_eq b1 rfl) <| andT (bind_eq rfl rfl) <| andT (bind_eq rfl <| bind_eq (dT (by omega)) rfl) <| andT (bind_eq (geti_zero a2) <| bind_eq b2 rfl) ?_
  exact andT (bind_eq g6 <| bind_eq i2 rfl) <| andT (bind_eq rfl rfl) rfl
end Go.Proofs.Ytegdplnhkjpmkaa
namespace Go.Proofs.Ytegdplnhkjpmkaa
open Go.Fw
theorem guard {b : Bool} {x y : Option Bool} (ht : b = true → x = some true) (hf : b = false → y = some true) : (bif b then x else y) = some true := by
  cases b
  · rw [cfm]; exact hf rfl
  · rw [ctm]; exact ht rfl
theorem aw : (law36_awake_m.bind fun x => some x) = some true := bind_eq awake36 rfl
theorem awn : (law36_awake_m.bind fun x44 => (some (!x44)).bind fun x45 => some x45) = some false := bind_eq awake36 rfl
def RepL (L : Nat) : List Qr → List Rat → Prop
  | [], [] => True
  | q :: v, x :: l => Rep L q x ∧ RepL L v l
  | _, _ => False
theorem RepL.len {L : Nat} : ∀ {v : List Qr} {l : List Rat}, RepL L v l → v.length = l.length
  | [], [], _ => rfl
  | _ :: _, _ :: _, h => congrArg (· + 1) (RepL.len h.2)
  | [], _ :: _, h => h.elim
  | _ :: _, [], h => h.elim
theorem RepL.get {L : Nat} : ∀ {v : List Qr} {l : List Rat} {i : Nat} {q : Qr}, RepL L v l → v[i]? = some q → Rep L q (l.getD i 0)
  | q' :: _, _ :: _, 0, _, h, e => by simp at e; subst e; exact h.1
  | _ :: v, x :: l, i + 1, _, h, e => RepL.get (v := v) (l := l) (i := i) h.2 (by simpa using e)
  | [], [], _, _, _, e => by simp at e
  | [], _ :: _, _, _, h, _ => h.elim
  | _ :: _, [], _, _, h, _ => h.elim
theorem RepL.v {L : Nat} {v : List Qr} {l : List Rat} (h : RepL L v l) (h1 : 1 ≤ L) : RepV L v (fun i => l.getD i 0) :=
  ⟨fun i hi => h.get (List.getElem?_eq_getElem hi), fun i hi => getD_of_le' (by rw [← h.len]; exact hi), h1⟩
theorem rest40 {L : Nat} {u v : List Qr} {f g : Nat → Rat} (h : RepV L u f) (k : RepV L v g) (hu : u.length ≤ 40) (hv : v.length ≤ 40) (hL : L ≤ 6000000) : ∃ q, settle_Rest_m u v = some q ∧ Rep 500000000 q (sumQ f u.length - sumQ g v.length) := by
  have a1 := Nat.mul_le_mul_right (L + 1) (show u.length + 1 ≤ 41 by omega)
  have a2 := Nat.mul_le_mul_right (L + 1) (show v.length + 1 ≤ 41 by omega)
  have a3 := Nat.mul_le_mul_right (L + 1) hu
  have a4 := Nat.mul_le_mul_right (L + 1) hv
  obtain ⟨q, e, r⟩ := rest h k (by omega)
  exact ⟨q, e, r.mono (by omega)⟩
theorem days_law (a b c d : List Qr) (o1 : OkV a) (o2 : OkV b) (o3 : OkV c) (o4 : OkV d) (hs : szV a + szV b + szV c + szV d ≤ 1048576) : law36_SettleDays_m a b c d = some true := by
  obtain ⟨t, ht, hl⟩ := long33 [a, b, c, d] (by simp)
  unfold law36_SettleDays_m
  refine letJ_of <| bind_eq ht <| orC (fun _ => awn) <| guard (fun _ => aw) (fun hg => ?_)
  simp only [Bool.or_eq_false_iff] at hg
  obtain ⟨rfl, -⟩ := hg
  have l1 := hl rfl a (by simp)
  have l2 := hl rfl b (by simp)
  have l3 := hl rfl c (by simp)
  have l4 := hl rfl d (by simp)
  have ra := repvu o1 (by omega)
  have rb := repvu o2 (by omega)
  have rc := repvu o3 (by omega)
  have rd := repvu o4 (by omega)
  obtain ⟨w1, e1, s1, m1⟩ := day (L := 1048576) (l := [a, b, c]) (by intro v hv; simp at hv; rcases hv with rfl | rfl | rfl; exact ⟨ra, by omega⟩; exact ⟨rb, by omega⟩; exact ⟨rc, by omega⟩) (by decide) (by simp)
  obtain ⟨w2, e2, s2, m2⟩ := day (L := 1048576) (l := [c, a, b]) (by intro v hv; simp at hv; rcases hv with rfl | rfl | rfl; exact ⟨rc, by omega⟩; exact ⟨ra, by omega⟩; exact ⟨rb, by omega⟩) (by decide) (by simp)
  obtain ⟨w3, e3, s3, m3⟩ := day (L := 1048576) (l := [a, b]) (by intro v hv; simp at hv; rcases hv with rfl | rfl; exact ⟨ra, by omega⟩; exact ⟨rb, by omega⟩) (by decide) (by simp)
  obtain ⟨w5, e5, s5, m5⟩ := day (L := 1048576) (l := [a, c]) (by intro v hv; simp at hv; rcases hv with rfl | rfl; exact ⟨ra, by omega⟩; exact ⟨rc, by omega⟩) (by decide) (by simp)
  obtain ⟨w6, e6, s6, m6⟩ := day (L := 1048576) (l := [b, d]) (by intro v hv; simp at hv; rcases hv with rfl | rfl; exact ⟨rb, by omega⟩; exact ⟨rd, by omega⟩) (by decide) (by simp)
  replace m1 : w1.length = max (max (max 0 a.length) b.length) c.length := m1
  replace m2 : w2.length = max (max (max 0 c.length) a.length) b.length := m2
  replace m3 : w3.length = max (max 0 a.length) b.length := m3
  replace m5 : w5.length = max (max 0 a.length) c.length := m5
  replace m6 : w6.length = max (max 0 b.length) d.length := m6
  have s3' : RepV 2097155 w3 (vval w3) := (s3.mono (by simp)).self
  obtain ⟨w4, e4, s4, m4⟩ := day (L := 2097155) (l := [w3, c]) (by intro v hv; simp at hv; rcases hv with rfl | rfl; exact ⟨s3', by omega⟩; exact ⟨rc.mono (by decide), by omega⟩) (by decide) (by simp)
  replace m4 : w4.length = max (max 0 w3.length) c.length := m4
  obtain ⟨q1, f1, k1⟩ := rest40 ra rb (by omega) (by omega) (by decide)
  obtain ⟨q2, f2, k2⟩ := rest40 rc rd (by omega) (by omega) (by decide)
  obtain ⟨q3, f3, k3⟩ := k1.add' k2 (by decide)
  have s5' := s5.mono (M := 2097155) (by simp)
  have s6' := s6.mono (M := 2097155) (by simp)
  obtain ⟨q4, f4, k4⟩ := rest40 s5' s6' (by omega) (by omega) (by decide)
  have c1 := samerow s1 s2 (by omega) (fun i _ => by show 0 + vval a i + vval b i + vval c i = 0 + vval c i + vval a i + vval b i; grind) (by simp) (by simp) (by omega)
  have c2 := samerow s4 s1 (by omega) (fun i _ => by
    show 0 + vval w3 i + vval c i = 0 + vval a i + vval b i + vval c i
    rw [← s3.val i]
    show 0 + (0 + vval a i + vval b i) + vval c i = _
    grind) (by simp) (by simp) (by omega)
  have hx : ∀ {v : List Qr}, RepV 1048576 v (vval v) → ∀ {m : Nat}, v.length ≤ m → sumQ (vval v) m = sumQ (vval v) v.length := fun h m hm => sumQ_ext hm (fun i h1 _ => h.z i h1)
  have h0 : ∀ (f g : Nat → Rat) m, sumQ (fun i => 0 + f i + g i) m = sumQ f m + sumQ g m := fun f g m => by
    rw [sumQ_congr (k := fun i => f i + g i) (fun i _ => by grind), sumQ_add]
  have c3 := k4.eqT k3 (by
    show sumQ (fun i => 0 + vval a i + vval c i) w5.length - sumQ (fun i => 0 + vval b i + vval d i) w6.length = _
    rw [h0, h0, hx ra (by omega), hx rc (by omega), hx rb (by omega), hx rd (by omega)]
    grind) (by decide)
  refine bind_eq e1 <| bind_eq e2 <| bind_eq f1 <| bind_eq f2 <| bind_eq f3 <| letJ_of ?_
  refine bind_eq c1 <| andT (bind_eq e3 <| bind_eq e4 <| bind_eq c2 rfl) ?_
  exact andT (bind_eq e5 <| bind_eq e6 <| bind_eq f4 <| bind_eq c3 rfl) rfl
end Go.Proofs.Ytegdplnhkjpmkaa
namespace Go.Proofs.Ytegdplnhkjpmkaa
open Go.Fw Go.RowKit Go.ChangeShapes Go.WideShapes Go.ChangeAt
set_option linter.unusedVariables false
set_option maxRecDepth 100000 in
theorem settleDaysUpto_contract (H : Type) (enc : TypeId × Value → H) (W : World) (base : Nat) (args : Array Value) (ds gs : List (DataW H)) (before : List MemPlace)
    (hval : ∀ (j : Nat) t v, Try.f9.params[j]? = some t → args[j]? = some v → Value.okWide Try.prog W .any base t v)
    (hW : DataW.Whole enc Try.prog Try.f9.params.toList Rows.settleDaysSpec.vars false W args.toList ds gs before) (hk : Rows.uptoSmall H (ds ++ gs) = true) :
    Calls Try.prog 9 args W fun e W' => ∃ v, e = .returned v ∧ Rows.settleDaysSpec.post enc Try.prog Try.f9 false true false false W args v W' := by
  have hW' := hW
  obtain ⟨p, q, hA0, hV, rfl, hfz, hnd⟩ := hW
  have hA : DataW.TrodAll enc Try.prog W 0 (fun _ => true) true Try.f9.params.toList args.toList ds p := hA0
  rw [Try.params9] at hA hval
  obtain ⟨v0, vs0, d0, ds0, p0, q0, hargs, rfl, rfl, h0, r0⟩ := trodAll_cons hA
  obtain ⟨v1, vs1, d1, ds1, p1, q1, rfl, rfl, rfl, h1, r1⟩ := trodAll_cons r0
  obtain ⟨v2, vs2, d2, ds2, p2, q2, rfl, rfl, rfl, h2, r2⟩ := trodAll_cons r1
  obtain ⟨v3, vs3, d3, ds3, p3, q3, rfl, rfl, rfl, h3, r3⟩ := trodAll_cons r2
  obtain ⟨rfl, rfl, rfl⟩ := trodAll_nil r3
  obtain rfl : args = #[v0, v1, v2, v3] := by cases args; simp_all
  obtain ⟨rfl, rfl⟩ := trodVars_none hV
  have lt0 : ∀ x ∈ p0, x.block < W.heap.size := by obtain ⟨m, hm⟩ := h0; exact DataW.trod_lt m _ _ _ hm
  obtain ⟨x0, ok0, sz0, al0⟩ := arg_one (P := Try.prog) (T := 23) (e := (eS 4 eQ)) (hval 0 23 v0 rfl rfl) h0
  have lt1 : ∀ x ∈ p1, x.block < W.heap.size := by obtain ⟨m, hm⟩ := h1; exact DataW.trod_lt m _ _ _ hm
  obtain ⟨x1, ok1, sz1, al1⟩ := arg_one (P := Try.prog) (T := 23) (e := (eS 4 eQ)) (hval 1 23 v1 rfl rfl) h1
  have lt2 : ∀ x ∈ p2, x.block < W.heap.size := by obtain ⟨m, hm⟩ := h2; exact DataW.trod_lt m _ _ _ hm
  obtain ⟨x2, ok2, sz2, al2⟩ := arg_one (P := Try.prog) (T := 23) (e := (eS 4 eQ)) (hval 2 23 v2 rfl rfl) h2
  have lt3 : ∀ x ∈ p3, x.block < W.heap.size := by obtain ⟨m, hm⟩ := h3; exact DataW.trod_lt m _ _ _ hm
  obtain ⟨x3, ok3, sz3, al3⟩ := arg_one (P := Try.prog) (T := 23) (e := (eS 4 eQ)) (hval 3 23 v3 rfl rfl) h3
  have hsz : Rows.uptoBulk d0 + Rows.uptoBulk d1 + Rows.uptoBulk d2 + Rows.uptoBulk d3 ≤ 1048576 := by
    have := of_decide_eq_true hk; simp only [List.cons_append, List.nil_append, List.append_nil, Rows.uptoBulkAll] at this; omega
  clear hA0
  refine (said_of (law36_SettleDays_ok (days_law x0 x1 x2 x3 ok0 ok1 ok2 ok3 (Nat.le_trans (Nat.add_le_add (Nat.add_le_add (Nat.add_le_add sz0 sz1) sz2) sz3) hsz))) (W := W) (vs := [v0, v1, v2, v3]) ⟨al0.1, al1.1, al2.1, al3.1, trivial⟩).mono fun e W' ⟨he, bel⟩ => ?_
  subst he
  exact ⟨_, rfl, _, _, _, [], _, [], hW', trodAll_mk1 (shut_bool Try.underlying4 _), (trodAll_cons_mk (Below.trod laidOut_ (by kernel_rfl) (of_decide_eq_true (by kernel_rfl)) h0 bel lt0) (trodAll_cons_mk (Below.trod laidOut_ (by kernel_rfl) (of_decide_eq_true (by kernel_rfl)) h1 bel lt1) (trodAll_cons_mk (Below.trod laidOut_ (by kernel_rfl) (of_decide_eq_true (by kernel_rfl)) h2 bel lt2) (trodAll_cons_mk (Below.trod laidOut_ (by kernel_rfl) (of_decide_eq_true (by kernel_rfl)) h3 bel lt3) trodAll_mk0)))), rfl, bel.frame _, fun h => by cases h⟩
set_option maxRecDepth 100000 in
theorem settleDaysUpto_lifted (os : Os) (started : os.Started) (H : Type) (enc : TypeId × Value → H) (F : Stop.Interp) :
    ReturnsInHanded {} Try.checked os 9 .any ((Rows.OpenSpec.upto Rows.settleDaysSpec).pre6 enc Try.prog Try.f9 Rows.settleDaysUptoRow.domain false) (((Rows.OpenSpec.upto Rows.settleDaysSpec).at F).post enc Try.prog Try.f9 false true false false) := by
  refine returnsInHanded_of_cond (C := Try.checked) (s := Rows.OpenSpec.upto Rows.settleDaysSpec) (k := Rows.uptoSmall) rfl own_ started (by kernel_rfl) Try.func9
    (OpenSpec.witness (enc := enc) (C := Try.checked) (s := Rows.OpenSpec.upto Rows.settleDaysSpec) (k := Rows.uptoSmall) rfl false ⟨#[], #[.slice none 0 0, .slice none 0 0, .slice none 0 0, .slice none 0 0], []⟩ 8 (by kernel_rfl) (by kernel_rfl) (by kernel_rfl)
      (x := ([.nil, .nil, .nil, .nil], [], [])) (by kernel_rfl) rfl (by kernel_rfl)) ?_
  intro W base args ds gs before hval hW _ hk _
  exact settleDaysUpto_contract H enc W base args ds gs before hval hW hk
theorem settleDaysUpto_holds : Rows.SettleDaysUptoSaid :=
  OpenClaim.holds_of_cond 9 Try.f9 rfl rfl rfl rfl rfl rfl rfl ⟨rfl, rfl, rfl, rfl, rfl⟩ rfl rfl rfl rfl rfl (by kernel_rfl) Try.func9 (by kernel_rfl)
    (of_decide_eq_true (by kernel_rfl)) (by unfold Func.isWrapper; first | (rw [if_pos (by decide +kernel)]; kernel_rfl) | (rw [if_neg (by decide +kernel)]; exact ⟨rfl, rfl⟩))
    (fun os started H enc _ F => settleDaysUpto_lifted os started H enc F)
end Go.Proofs.Ytegdplnhkjpmkaa
