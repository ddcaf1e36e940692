/- The reference's halves: trimming, reading, halves of words, words of halves. -/
import Derived.Test.YtgkafblpckcekaaQZ5
import Derived.Test.YtgkafblpckcekaaMR
namespace Go.Proofs.Ytgkafblpckcekaa
open Go.Fw

def zl (l : List Nat) : List Int := l.map (fun (n : Nat) => (n : Int))
theorem zl_len (l : List Nat) : (zl l).length = l.length := by simp [zl]
theorem zl_get {l : List Nat} {i x : Nat} (h : l[i]? = some x) : (zl l)[i]? = some (x : Int) := by simp [zl, h]
theorem zl_app (l k : List Nat) : zl (l ++ k) = zl l ++ zl k := by simp [zl]
theorem zl_one (x : Nat) : zl [x] = [(x : Int)] := rfl
theorem zl_take (l : List Nat) (n : Nat) : (zl l).take n = zl (l.take n) := by simp [zl, List.map_take]
theorem zl_set (l : List Nat) (i x : Nat) : (zl l).set i (x : Int) = zl (l.set i x) := by simp [zl, List.map_set]
/-- Lists of halves that are not too long. -/
def H16 (l : List Nat) : Prop := (∀ x ∈ l, x < 65536) ∧ l.length ≤ 1000000000
abbrev v16 (l : List Nat) : Nat := val 65536 l

theorem rtrim_eq (l : List Nat) (hl : l.length ≤ 1000000000000) : ref01_trim_m (zl l) = some (zl (trimW l)) := by
  unfold ref01_trim_m
  simp only [bsm]
  refine bind_loop (fun y => ∃ n : Nat, y = (n : Int) ∧ n ≤ l.length ∧ trimW (l.take n) = trimW l) (fun y => ∃ n : Nat, y = (n : Int) ∧ n ≤ l.length ∧ l.take n = trimW l) (fun y => y.toNat) ?_ ⟨l.length, by rw [zl_len], Nat.le_refl _, by rw [List.take_length]⟩ ?_
  · rintro _ ⟨n, rfl, hn, ht⟩
    simp only [letJ]
    rcases n with _ | n
    · right
      refine ⟨_, rfl, 0, rfl, by omega, ?_⟩
      rw [← ht]; rfl
    · have hi : ∃ x, l[n]? = some x := ⟨l[n], by simp⟩
      obtain ⟨x, hx⟩ := hi
      have htk : l.take (n + 1) = l.take n ++ [x] := by
        rw [List.take_add_one, hx]; rfl
      rw [show decide ((0 : Int) < ((n + 1 : Nat) : Int)) = true by rw [decide_eq_true_eq]; omega, ctm, w64_pred (by omega), geti_nat (zl_get hx), bsm]
      by_cases h0 : x = 0
      · left
        subst h0
        rw [show decide (((0 : Nat) : Int) = 0) = true by simp, bsm, ctm]
        refine ⟨_, rfl, ⟨n, rfl, by omega, ?_⟩, by omega⟩
        rw [← ht, htk, trimW_zero]
      · right
        rw [show decide (((x : Nat) : Int) = 0) = false by simp; omega, bsm, cfm]
        refine ⟨_, rfl, n + 1, rfl, hn, ?_⟩
        rw [← ht, htk, trimW_last _ h0]
  · rintro _ ⟨n, rfl, hn, ht⟩
    rw [subM_zero (by rw [zl_len]; exact hn), bsm, zl_take, ht]

theorem at_eq {l : List Nat} (h : ∀ x ∈ l, x < 65536) (i : Nat) : ref01_at_m (zl l) (i : Int) = some ((v16 l / 65536 ^ i % 65536 : Nat) : Int) := by
  unfold ref01_at_m
  simp only [bsm]
  rw [zl_len]
  by_cases hi : i < l.length
  · rw [show decide ((i : Int) < (l.length : Int)) = true by simp [hi], ctm, geti_nat (zl_get (get_val h hi)), bsm]
  · rw [show decide ((i : Int) < (l.length : Int)) = false by simp; omega, cfm]
    have : v16 l / 65536 ^ i = 0 := Nat.div_eq_of_lt (Nat.lt_of_lt_of_le (val_lt l h) (Nat.pow_le_pow_right (by decide) (by omega)))
    rw [this]; rfl

theorem val_halves (V k : Nat) : dig 65536 (2 * k) V ++ [V / 4294967296 ^ k % 4294967296 % 65536, V / 4294967296 ^ k % 4294967296 / 65536] = dig 65536 (2 * (k + 1)) V := by
  have e : 65536 ^ (2 * k) = 4294967296 ^ k := by rw [Nat.pow_mul]
  rw [show 2 * (k + 1) = 2 * k + 1 + 1 by omega, dig_succ, dig_succ, Nat.pow_succ, e, ← Nat.div_div_eq_div_mul, List.append_assoc]
  generalize V / 4294967296 ^ k = x
  rw [show x % 4294967296 % 65536 = x % 65536 by omega, show x % 4294967296 / 65536 = x / 65536 % 65536 by omega]
  rfl

theorem halves_eq (w : List Nat) (hw : W32 w) : ref01_halves_m w = some (zl (can 65536 (vl w))) := by
  obtain ⟨hl, hn⟩ := hw
  unfold ref01_halves_m
  refine bind_loop_to (fun i => ((i : Int), zl (dig 65536 (2 * i) (vl w)))) w.length (zl (dig 65536 (2 * w.length) (vl w))) ?_ (fun k hk => ?_) ?_ ?_
  · rfl
  · have hg := get_val hl hk
    have hlt := Nat.mod_lt (val 4294967296 w / 4294967296 ^ k) (show 0 < 4294967296 by decide)
    have hv := val_halves (vl w) k
    simp only [bsm]
    rw [show decide ((k : Int) < (w.length : Int)) = true by simp [hk], ctm, geti_nat hg, bsm, bsm, w64_nat (by omega), w64_nat (by omega), apMl (by decide) (by rw [zl_len, dig_len]; simp; omega), bsm, w64_succ (by omega)]
    rw [← hv, zl_app]
    rw [show val 4294967296 w / 4294967296 ^ k % 4294967296 / 65536 % 4294967296 = val 4294967296 w / 4294967296 ^ k % 4294967296 / 65536 by omega]
    rfl
  · simp
  · rw [rtrim_eq _ (by rw [dig_len]; omega), bsm, trim_dig (by decide)]
    rw [Nat.pow_mul]; exact val_lt w hl

/-- The words of halves: how many there are. -/
theorem pow16 (k : Nat) : 65536 ^ (2 * k) = 4294967296 ^ k := by rw [Nat.pow_mul]
theorem can_halves (v : Nat) : can 4294967296 v = dig 4294967296 (((can 65536 v).length + 1) / 2) v := by
  have h1 := lt_can_len (B := 65536) (by decide) v
  obtain ⟨n, hn⟩ : ∃ n, (can 65536 v).length = n := ⟨_, rfl⟩
  rw [hn] at h1 ⊢
  have h2 : v < 4294967296 ^ ((n + 1) / 2) := by
    rw [← pow16]; exact Nat.lt_of_lt_of_le h1 (Nat.pow_le_pow_right (by decide) (by omega))
  rw [can_dig (by decide) v]
  congr 1
  have h3 := (can_len_iff (B := 4294967296) (by decide)).2 h2
  refine Nat.le_antisymm h3 ?_
  rcases n with _ | n
  · simp
  · have h4 : 65536 ^ n ≤ v := pow_le_of_can (by decide) (by omega)
    obtain ⟨m, hm⟩ : ∃ m, (n + 1 + 1) / 2 = m + 1 := ⟨n / 2, by omega⟩
    rw [hm]
    rcases Nat.lt_or_ge m (can 4294967296 v).length with h | h
    · exact h
    · have h5 := (can_len_iff (B := 4294967296) (by decide)).1 h
      rw [← pow16] at h5
      have : 65536 ^ (2 * m) ≤ 65536 ^ n := Nat.pow_le_pow_right (by decide) (by omega)
      omega

theorem of_eq (n : Bool) (l : List Nat) (hl : H16 l) : ref01_of_m n (zl l) = some (zc n (v16 l)) := by
  obtain ⟨h, hn⟩ := hl
  unfold ref01_of_m
  rw [rtrim_eq _ (by omega), bsm, trim_can (by decide) h]
  have hc : (can 65536 (val 65536 l)).length ≤ l.length := (can_len_iff (by decide)).2 (val_lt l h)
  show _ = some (zc n (val 65536 l))
  generalize val 65536 l = v at *
  have hcl : ∀ x ∈ can 65536 v, x < 65536 := fun _ hx => can_lt (by decide) hx
  have hat := fun i => at_eq hcl i
  refine bind_loop_to (fun i => (((2 * i : Nat) : Int), dig 4294967296 i v)) (((can 65536 v).length + 1) / 2) (can 4294967296 v) ?_ (fun k hk => ?_) ?_ ?_
  · rfl
  · have a1 := hat (2 * k)
    have a2 := hat (2 * k + 1)
    rw [show v16 (can 65536 v) = v from val_can (by decide) v] at a1 a2
    rw [pow16] at a1
    rw [Nat.pow_succ, pow16, ← Nat.div_div_eq_div_mul] at a2
    simp only [bsm]
    rw [zl_len, show decide (((2 * k : Nat) : Int) < ((can 65536 v).length : Int)) = true by simp; omega, ctm, a1, bsm, w64_succ (by omega), a2, bsm]
    rw [dig_succ]
    have e : ((((v / 4294967296 ^ k % 65536 : Nat) : Int) % 4294967296).toNat + (((v / 4294967296 ^ k / 65536 % 65536 : Nat) : Int) % 4294967296).toNat * 65536 % 4294967296) % 4294967296 = v / 4294967296 ^ k % 4294967296 := by
      generalize v / 4294967296 ^ k = x
      omega
    rw [e, apM1 (by decide) (by rw [dig_len]; omega), bsm, show ((2 * k : Nat) : Int) + 2 = ((2 * (k + 1) : Nat) : Int) by omega, w64_nat (by omega)]
  · simp only [bsm]
    rw [zl_len, show decide (((2 * (((can 65536 v).length + 1) / 2) : Nat) : Int) < ((can 65536 v).length : Int)) = false by simp; omega, cfm, ← can_halves]
  · simp only [letJ]
    rw [zc]
    have hz := can_len0 (v := v)
    cases n
    · rw [cfm, bsm]; rfl
    · rw [ctm, bsm, bsm, bsm]
      congr 2
      by_cases h0 : v = 0
      · rw [h0]; rfl
      · have : ¬ (can 4294967296 v).length = 0 := fun e => h0 (hz.1 e)
        rw [show decide ((0 : Int) < ((can 4294967296 v).length : Int)) = true by rw [decide_eq_true_eq]; omega, show (true && v != 0) = true by simp [h0]]
theorem of_can (n : Bool) (v : Nat) (hl : (can 65536 v).length ≤ 1000000000) : ref01_of_m n (zl (can 65536 v)) = some (zn (sv n v)) := by
  rw [of_eq n _ ⟨fun _ hx => can_lt (by decide) hx, hl⟩, show v16 (can 65536 v) = v from val_can (by decide) v, zc_zn]

theorem can16_len {w : List Nat} (hw : ∀ x ∈ w, x < 4294967296) : (can 65536 (vl w)).length ≤ 2 * w.length := by
  apply (can_len_iff (by decide)).2
  rw [pow16]; exact val_lt w hw
theorem halves_of {x : Zr} (h : Wl x) : ref01_halves_m x.w = some (zl (can 65536 (zi x).natAbs)) := by
  rw [zi_abs]; exact halves_eq _ ⟨h.1, by have := h.2; omega⟩
theorem Wl.c16 {x : Zr} (h : Wl x) : (can 65536 (zi x).natAbs).length ≤ 200000000 := by
  rw [zi_abs]; have := can16_len h.1; have := h.2; omega

theorem least_eq {x : Zr} (h : Wl x) : ref01_Least_m x = some (zn (zi x)) := by
  obtain ⟨n, w⟩ := x
  have h1 := halves_of h
  have h2 := h.c16
  unfold ref01_Least_m
  simp only []
  rw [show ref01_halves_m w = _ from h1, bsm, of_can _ _ (by omega), bsm, zi_abs]
  rfl

theorem same_eq {x y : Zr} (h : x.w.length ≤ 1000000000) : ∃ b, ref01_Same_m x y = some b ∧ (b = true ↔ x = y) := by
  obtain ⟨n, w⟩ := x
  obtain ⟨m, u⟩ := y
  unfold ref01_Same_m
  simp only [bsm, letJ]
  by_cases hnm : n = m
  · subst hnm
    rw [show (!(n == n)) = false by simp, cfm, bsm]
    by_cases hl : w.length = u.length
    · rw [show decide ((w.length : Int) ≠ (u.length : Int)) = false by simp [hl], cfm]
      refine bind_loop_ex (fun y => ∃ i : Nat, y = (i : Int) ∧ i ≤ w.length ∧ w.take i = u.take i) (fun e => (∃ c, e = .inl c ∧ w = u) ∨ (e = .inr false ∧ w ≠ u)) (fun y => w.length - y.toNat) ?_ ⟨0, rfl, by omega, rfl⟩ ?_
      · rintro _ ⟨i, rfl, hi, ht⟩
        by_cases hlt : i < w.length
        · have g1 : w[i]? = some w[i] := by simp
          have g2 : u[i]? = some (u[i]'(by omega)) := by simp
          rw [show decide ((i : Int) < (w.length : Int)) = true by simp [hlt], ctm, geti_nat g1, bsm, geti_nat g2, bsm]
          by_cases he : w[i] = u[i]'(by omega)
          · left
            rw [show decide (w[i] ≠ u[i]'(by omega)) = false by simp [he], cfm, w64_succ (by simp at h; omega)]
            refine ⟨_, rfl, ⟨i + 1, rfl, hlt, ?_⟩, by omega⟩
            rw [List.take_add_one, List.take_add_one, ht, g1, g2, he]
          · right
            rw [show decide (w[i] ≠ u[i]'(by omega)) = true by simp [he], ctm]
            refine ⟨_, rfl, .inr ⟨rfl, ?_⟩⟩
            rintro rfl; exact he rfl
        · right
          rw [show decide ((i : Int) < (w.length : Int)) = false by simp; omega, cfm]
          refine ⟨_, rfl, .inl ⟨_, rfl, ?_⟩⟩
          rw [List.take_of_length_le (by omega), List.take_of_length_le (by omega)] at ht
          exact ht
      · rintro e (⟨c, rfl, he⟩ | ⟨rfl, he⟩)
        · exact ⟨true, rfl, by simp [he]⟩
        · exact ⟨false, rfl, by simp [he]⟩
    · rw [show decide ((w.length : Int) ≠ (u.length : Int)) = true by simp; omega, ctm]
      refine ⟨_, rfl, ?_⟩
      simp only [Bool.false_eq_true, false_iff]
      intro e
      have : w = u := congrArg Zr.w e
      exact hl (by rw [this])
  · rw [show (!(n == m)) = true by simp [hnm], ctm, bsm, ctm]
    refine ⟨_, rfl, ?_⟩
    simp only [Bool.false_eq_true, false_iff]
    intro e
    exact hnm (congrArg Zr.neg e)
theorem same_refl {x : Zr} (h : x.w.length ≤ 1000000000) : ref01_Same_m x x = some true := by
  obtain ⟨b, h1, h2⟩ := same_eq (y := x) h
  rw [h1, h2.2 rfl]

theorem from_eq {x : Int} (h : i64ok x) : ref01_From_m x = some (zn x) := by
  unfold i64ok at h
  have key : ∀ (v : Nat) (n : Bool), v < 18446744073709551616 → ((ref01_Least_m ⟨n, [v % 4294967296 % 4294967296, v / 4294967296 % 18446744073709551616 % 4294967296]⟩).bind fun x => some (⟨x.neg, x.w⟩ : Zr)) = some (zn (sv n v)) := by
    intro v n hv
    rw [least_eq ⟨by simp; omega, by simp⟩, bsm]
    show some (zn (sv n (vl _))) = _
    congr 3
    simp only [vl, val]
    omega
  unfold ref01_From_m
  simp only [bsm, letJ]
  by_cases hx : x < 0
  · have e : (x % 18446744073709551616).toNat = 18446744073709551616 - x.natAbs := by omega
    rw [show decide (x < 0) = true by simp [hx], ctm, e, usub_lt (by omega) (by omega), show 18446744073709551616 + 0 - (18446744073709551616 - x.natAbs) = x.natAbs by omega, key _ _ (by omega), show sv true x.natAbs = x by simp [sv]; omega]
  · have e : (x % 18446744073709551616).toNat = x.natAbs := by omega
    rw [show decide (x < 0) = false by simp [hx], cfm, e, key _ _ (by omega), show sv false x.natAbs = x by simp [sv]; omega]
end Go.Proofs.Ytgkafblpckcekaa
