/- The words of a magnitude: what the functions come to. -/
import Derived.Test.YtgkafblpckcekaaMW
import Derived.Test.YtgkafblpckcekaaKit
import Derived.Test.YtgkafblpckcekaaNum
import Derived.Test.YtgkafblpckcekaaNumB
import Derived.Test.YtgkafblpckcekaaNumC
namespace Go.Proofs.Ytgkafblpckcekaa
open Go.Fw

theorem trim_eq (l : List Nat) (hl : l.length ≤ 1000000000000) : whole_trim_m l = some (trimW l) := by
  unfold whole_trim_m
  refine bind_loop (fun y => y.length ≤ 1000000000000 ∧ trimW y = trimW l) (fun e => e = trimW l) (fun y => y.length) ?_ ⟨hl, rfl⟩ (fun e he => by rw [he])
  rintro y ⟨hy, ht⟩
  rcases trim_cases y with rfl | ⟨ys, rfl⟩ | ⟨ys, x, hx, rfl⟩
  · right; exact ⟨[], by simp [letJ], ht⟩
  · left
    have h1 : ((ys ++ [0]).length : Int) = ((ys.length + 1 : Nat) : Int) := by simp
    have h2 : ys.length ≤ 9223372036854775807 := by simp at hy; omega
    refine ⟨ys, ?_, ⟨by simp at hy ⊢; omega, by rw [← ht, trimW_zero]⟩, by simp⟩
    simp only [letJ, Option.bind_some, h1, w64_pred h2]
    rw [geti_nat (a := 0) (by simp), subM_zero (by simp)]
    simp
  · right
    have h1 : ((ys ++ [x]).length : Int) = ((ys.length + 1 : Nat) : Int) := by simp
    have h2 : ys.length ≤ 9223372036854775807 := by simp at hy; omega
    refine ⟨ys ++ [x], ?_, by rw [← ht, trimW_last _ hx]⟩
    simp only [letJ, Option.bind_some, h1, w64_pred h2]
    rw [geti_nat (a := x) (by simp)]
    simp [hx]
theorem trimT_eq (l : List Nat) (hl : l.length ≤ 1000000000000) : whole_trimT_m l = some (trimW l) := by
  unfold whole_trimT_m
  refine bind_loop (fun y => y.length ≤ 1000000000000 ∧ trimW y = trimW l) (fun e => e = trimW l) (fun y => y.length) ?_ ⟨hl, rfl⟩ (fun e he => by rw [he])
  rintro y ⟨hy, ht⟩
  rcases trim_cases y with rfl | ⟨ys, rfl⟩ | ⟨ys, x, hx, rfl⟩
  · right; exact ⟨[], by simp [letJ], ht⟩
  · left
    have h1 : ((ys ++ [0]).length : Int) = ((ys.length + 1 : Nat) : Int) := by simp
    have h2 : ys.length ≤ 9223372036854775807 := by simp at hy; omega
    refine ⟨ys, ?_, ⟨by simp at hy ⊢; omega, by rw [← ht, trimW_zero]⟩, by simp⟩
    simp only [letJ, Option.bind_some, h1, w64_pred h2]
    rw [cki_nat (by simp), subM_zero (by simp)]
    simp
  · right
    have h1 : ((ys ++ [x]).length : Int) = ((ys.length + 1 : Nat) : Int) := by simp
    have h2 : ys.length ≤ 9223372036854775807 := by simp at hy; omega
    refine ⟨ys ++ [x], ?_, by rw [← ht, trimW_last _ hx]⟩
    simp only [letJ, Option.bind_some, h1, w64_pred h2]
    rw [cki_nat (by simp)]
    simp [hx]

/-- The integer with a sign and a magnitude. -/
def zc (n : Bool) (v : Nat) : Zr := ⟨n && v != 0, can 4294967296 v⟩
theorem zc_zero (n : Bool) : zc n 0 = ⟨false, []⟩ := by simp [zc, can_zero]
theorem zc_pos (n : Bool) {v : Nat} (h : v ≠ 0) : zc n v = ⟨n, can 4294967296 v⟩ := by simp [zc, h]
def W32 (l : List Nat) : Prop := (∀ x ∈ l, x < 4294967296) ∧ l.length ≤ 1000000000
abbrev vl (l : List Nat) : Nat := val 4294967296 l

theorem build_eq (n : Bool) (l : List Nat) (h : W32 l) : whole_build_m n l = some (zc n (vl l)) := by
  unfold whole_build_m
  rw [trim_eq l (by have := h.2; omega), trim_can (by decide) h.1]
  show _ = some (zc n (val 4294967296 l))
  by_cases hz : val 4294967296 l = 0
  · rw [hz, zc_zero]; simp [can_zero]
  · have : can 4294967296 (val 4294967296 l) ≠ [] := fun e => hz (can_nil (by decide) e)
    rw [zc_pos _ hz]; simp [this]
theorem small_eq (n : Bool) (v : Nat) (h : v < 18446744073709551616) : whole_small_m n v = some (zc n v) := by
  unfold whole_small_m
  by_cases hz : v = 0
  · subst hz; simp [zc_zero]
  · rw [zc_pos _ hz]
    by_cases h1 : v / 2 ^ 32 = 0
    · rw [can_one (by decide) hz (by omega)]
      simp only [Option.bind_some, hz, h1, decide_false, decide_true, cond_false, cond_true]
      rw [Nat.mod_eq_of_lt (by omega)]
    · rw [can_two (by decide) (by omega) (by omega)]
      simp only [Option.bind_some, hz, h1, decide_false, cond_false]
      rw [Nat.mod_eq_of_lt (a := v / 2 ^ 32) (by omega)]
theorem or_add {a b s : Nat} (h : a < 2 ^ s) : a ||| b * 2 ^ s = a + b * 2 ^ s := by
  rw [Nat.or_comm, Nat.mul_comm b, ← Nat.two_pow_add_eq_or_of_lt h, Nat.add_comm]
theorem low_eq (l : List Nat) (h : ∀ x ∈ l, x < 4294967296) (hl : l.length ≤ 2) : whole_low_m l = some (vl l) := by
  rcases l with _ | ⟨x, _ | ⟨y, _ | ⟨z, l⟩⟩⟩
  · simp [whole_low_m, vl, val]
  · have hx := h x (by simp)
    simp only [whole_low_m, geti_zero (l := [x]) (a := x) rfl]
    simp [vl, val]; omega
  · have hx := h x (by simp)
    have hy := h y (by simp)
    simp only [whole_low_m, geti_zero (l := [x, y]) (a := x) rfl, geti_one (l := [x, y]) (a := y) rfl, Option.bind_some]
    rw [Nat.mod_eq_of_lt (a := x) (by omega), Nat.mod_eq_of_lt (a := y) (by omega), Nat.mod_eq_of_lt (a := y * 2 ^ 32) (by omega), or_add (by omega), Nat.mod_eq_of_lt (by omega)]
    simp [vl, val]; omega
  · simp at hl
theorem carrier_eq (x c : Nat) (h : x + c < 18446744073709551616) : whole_carrier_1_m x c = some ((x + c) % 4294967296, (x + c) / 4294967296) := by
  simp [whole_carrier_1_m, Nat.mod_eq_of_lt h]
theorem compareWords_eq (v w : Nat) (hv : (can 4294967296 v).length ≤ 1000000000) (hw : (can 4294967296 w).length ≤ 1000000000) : whole_compareWords_m (can 4294967296 v) (can 4294967296 w) = some (cmpN v w) := by
  unfold whole_compareWords_m
  rcases Nat.lt_trichotomy (can 4294967296 v).length (can 4294967296 w).length with hl | hl | hl
  · rw [cmpN_lt (can_lt_len (by decide) hl)]
    simp only [Option.bind_some]
    rw [show decide (((can 4294967296 v).length : Int) ≠ ((can 4294967296 w).length : Int)) = true by simp; omega, show decide (((can 4294967296 v).length : Int) < ((can 4294967296 w).length : Int)) = true by simp; omega]; rfl
  · simp only [Option.bind_some]
    rw [show decide (((can 4294967296 v).length : Int) ≠ ((can 4294967296 w).length : Int)) = false by simp; omega, cond_false]
    refine bind_loop (fun y => ∃ n : Nat, y = (n : Int) - 1 ∧ n ≤ (can 4294967296 v).length ∧ v / 4294967296 ^ n = w / 4294967296 ^ n) (fun e => e = (if v = w then .inl () else .inr (cmpN v w))) (fun y => (y + 1).toNat) ?_ ⟨(can 4294967296 v).length, ?_, Nat.le_refl _, ?_⟩ ?_
    · rintro y ⟨n, rfl, hn, he⟩
      cases n with
      | zero =>
        right
        have : v = w := by simpa using he
        subst this
        exact ⟨_, by simp, rfl⟩
      | succ m =>
        have hgv := can_get (B := 4294967296) (by decide) (v := v) (j := m) (by omega)
        have hgw := can_get (B := 4294967296) (by decide) (v := w) (j := m) (by omega)
        have e0 : ((m + 1 : Nat) : Int) - 1 = (m : Int) := by omega
        rw [e0]
        rcases dig_cases he with ⟨h1, h2⟩ | ⟨h1, h2⟩ | ⟨h1, h2⟩
        · left
          refine ⟨(m : Int) - 1, ?_, ⟨m, rfl, by omega, h2⟩, by omega⟩
          simp only [Option.bind_some, geti_nat hgv, geti_nat hgw, h1]
          rw [w64_id (by omega) (by omega)]
          simp
        · right
          refine ⟨.inr (-1), ?_, by rw [if_neg (by omega), cmpN_lt h2]⟩
          simp only [Option.bind_some, geti_nat hgv, geti_nat hgw]
          simp [h1, Nat.ne_of_lt h1]
        · right
          refine ⟨.inr 1, ?_, by rw [if_neg (by omega), cmpN_gt h2]⟩
          simp only [Option.bind_some, geti_nat hgv, geti_nat hgw]
          simp [Nat.not_lt_of_lt h1, Nat.ne_of_gt h1]
    · rw [w64_id (by omega) (by omega)]
    · rw [can_beyond (by decide) (Nat.le_refl _), can_beyond (by decide) (by omega)]
    · rintro e rfl
      by_cases h : v = w
      · subst h; simp [cmpN_eq]
      · simp [h]
  · rw [cmpN_gt (can_lt_len (by decide) hl)]
    simp only [Option.bind_some]
    rw [show decide (((can 4294967296 v).length : Int) ≠ ((can 4294967296 w).length : Int)) = true by simp; omega, show decide (((can 4294967296 v).length : Int) < ((can 4294967296 w).length : Int)) = false by simp; omega]; rfl
/- sums, differences, products -/
theorem getD_lt {l : List Nat} (h : ∀ x ∈ l, x < 4294967296) (i : Nat) : l.getD i 0 < 4294967296 := by
  rcases Nat.lt_or_ge i l.length with hi | hi
  · exact h _ (List.mem_of_getElem? (get_getD hi))
  · rw [getD_of_le hi]; decide
theorem addWords_eq (a b : List Nat) (ha : W32 a) (hb : W32 b) : whole_addWords_m a b = some (dig 4294967296 (max a.length b.length + 1) (vl a + vl b)) := by
  obtain ⟨hA, hla⟩ := ha
  obtain ⟨hB, hlb⟩ := hb
  have hV : val 4294967296 a < 4294967296 ^ (max a.length b.length) := Nat.lt_of_lt_of_le (val_lt a hA) (Nat.pow_le_pow_right (by decide) (by omega))
  have hW : val 4294967296 b < 4294967296 ^ (max a.length b.length) := Nat.lt_of_lt_of_le (val_lt b hB) (Nat.pow_le_pow_right (by decide) (by omega))
  unfold whole_addWords_m
  simp only [Option.bind_some]
  rw [show max (a.length : Int) (b.length : Int) = ((max a.length b.length : Nat) : Int) by omega, w64_succ (by omega), mkE_of (by decide) (by omega), Option.bind_some]
  refine bind_range (fun k => (cry 4294967296 (vl a) (vl b) k, dig 4294967296 k (vl a + vl b))) (by simp [cry_zero, dig]) (fun k hk => ?_) ?_
  · have hx := getD_lt hA k
    have hy := getD_lt hB k
    have hc := cry_le (B := 4294967296) (by decide) (vl a) (vl b) k
    have hxe := val_getD a hA k
    have hye := val_getD b hB k
    simp only [Option.bind_some]
    rw [Nat.mod_eq_of_lt (a := a.getD k 0) (by omega), Nat.mod_eq_of_lt (a := b.getD k 0) (by omega), Nat.mod_eq_of_lt (a := a.getD k 0 + b.getD k 0) (by omega), carrier_eq _ _ (by omega)]
    simp only [Option.bind_some]
    rw [apM1 (by decide) (by rw [dig_len]; omega), Option.bind_some, hxe, hye, cry_step (by decide), cry_dig (by decide), ← dig_succ]
  · have hc := cry_le (B := 4294967296) (by decide) (vl a) (vl b) (max a.length b.length)
    simp only
    rw [carrier_eq _ _ (by omega)]
    simp only [Option.bind_some]
    rw [apM1 (by decide) (by rw [dig_len]; omega), Option.bind_some, Nat.zero_add, cry_end hV hW, ← dig_succ]
theorem subWords_eq (a b : List Nat) (ha : W32 a) (hb : W32 b) (hl : b.length ≤ a.length) (hle : vl b ≤ vl a) : whole_subWords_m a b = some (dig 4294967296 a.length (vl a - vl b)) := by
  obtain ⟨hA, hla⟩ := ha
  obtain ⟨hB, hlb⟩ := hb
  have hmx : max a.length b.length = a.length := by omega
  unfold whole_subWords_m
  simp only [Option.bind_some]
  rw [mkE_of (by decide) (by omega), Option.bind_some, hmx]
  refine bind_range (fun k => (lnd 4294967296 (vl a) (vl b) k, dig 4294967296 k (vl a - vl b))) (by simp [lnd_zero, dig]) (fun k hk => ?_) rfl
  have hx := getD_lt hA k
  have hy := getD_lt hB k
  have hc := lnd_le (B := 4294967296) (by decide) (vl a) (vl b) k
  have hxe := val_getD a hA k
  have hye := val_getD b hB k
  simp only [Option.bind_some]
  rw [Nat.mod_eq_of_lt (a := a.getD k 0) (by omega), Nat.mod_eq_of_lt (a := b.getD k 0) (by omega), usub_of (by omega) (by omega), Nat.mod_eq_of_lt (a := a.getD k 0 + (4294967295 - b.getD k 0)) (by omega), carrier_eq _ _ (by omega)]
  simp only [Option.bind_some]
  rw [apM1 (by decide) (by rw [dig_len]; omega), Option.bind_some, hxe, hye, lnd_step (B := 4294967296) (by decide), lnd_dig (B := 4294967296) (by decide) hle, ← dig_succ]
theorem mulWords_eq (a b : List Nat) (ha : W32 a) (hb : W32 b) : whole_mulWords_m a b = some (dig 4294967296 (a.length + b.length) (vl a * vl b)) := by
  obtain ⟨hA, hla⟩ := ha
  obtain ⟨hB, hlb⟩ := hb
  unfold whole_mulWords_m
  simp only [Option.bind_some]
  rw [w64_add (by omega), mkM_of (by decide) (by omega), Option.bind_some]
  refine bind_loop_to (fun i => ((i : Int), dig 4294967296 (a.length + b.length) (vl a % 4294967296 ^ i * vl b))) a.length (dig 4294967296 (a.length + b.length) (vl a % 4294967296 ^ a.length * vl b)) (by simp [Nat.mod_one, dig_zero]) (fun i hi => ?_) (by simp) (by rw [Nat.mod_eq_of_lt (val_lt a hA)])
  have hgx := get_val hA hi
  have hx : val 4294967296 a / 4294967296 ^ i % 4294967296 < 4294967296 := Nat.mod_lt _ (by decide)
  simp only [Option.bind_some, show decide ((i : Int) < (a.length : Int)) = true by simp; omega, cond_true]
  rw [geti_nat hgx, Option.bind_some]
  refine bind_loop_to (fun k => ((k : Int), mC 4294967296 (vl a) (vl b) i k, dig 4294967296 (a.length + b.length) (mV 4294967296 (vl a) (vl b) i k))) b.length (mC 4294967296 (vl a) (vl b) i b.length, dig 4294967296 (a.length + b.length) (mV 4294967296 (vl a) (vl b) i b.length)) (by simp [mC_zero, mV_zero]) (fun k hk => ?_) (by simp) ?_
  · have hgy := get_val hB hk
    have hgp := mV_dig (B := 4294967296) (by decide) (V := vl a) (W := vl b) (i := i) (k := k) (N := a.length + b.length) (by omega)
    have hy : val 4294967296 b / 4294967296 ^ k % 4294967296 < 4294967296 := Nat.mod_lt _ (by decide)
    have hp : vl a % 4294967296 ^ i * vl b / 4294967296 ^ (i + k) % 4294967296 < 4294967296 := Nat.mod_lt _ (by decide)
    have hc := mC_lt (B := 4294967296) (by decide) (vl a) (vl b) i k
    have hxy : val 4294967296 a / 4294967296 ^ i % 4294967296 * (val 4294967296 b / 4294967296 ^ k % 4294967296) ≤ 4294967295 * 4294967295 := Nat.mul_le_mul (by omega) (by omega)
    simp only [Option.bind_some, show decide ((k : Int) < (b.length : Int)) = true by simp; omega, cond_true]
    rw [geti_nat hgy, Option.bind_some, w64_add (by omega), cki_nat (by rw [dig_len]; omega), Option.bind_some, hgp, Option.bind_some]
    rw [Nat.mod_eq_of_lt (a := vl a % 4294967296 ^ i * vl b / 4294967296 ^ (i + k) % 4294967296) (by omega), Nat.mod_eq_of_lt (a := val 4294967296 a / 4294967296 ^ i % 4294967296) (b := 18446744073709551616) (by omega), Nat.mod_eq_of_lt (a := val 4294967296 b / 4294967296 ^ k % 4294967296) (b := 18446744073709551616) (by omega), Nat.mod_eq_of_lt (a := val 4294967296 a / 4294967296 ^ i % 4294967296 * (val 4294967296 b / 4294967296 ^ k % 4294967296)) (by omega), Nat.mod_eq_of_lt (a := vl a % 4294967296 ^ i * vl b / 4294967296 ^ (i + k) % 4294967296 + _) (by omega), carrier_eq _ _ (by omega)]
    simp only [Option.bind_some]
    rw [stM_of (by rw [dig_len]; omega), Option.bind_some, mC_step (B := 4294967296) (by decide), mV_step (B := 4294967296) (by decide) (by omega), w64_succ (by omega)]
  · have hc := mC_lt (B := 4294967296) (by decide) (vl a) (vl b) i b.length
    simp only [Option.bind_some]
    rw [w64_add (by omega), carrier_eq _ _ (by omega)]
    simp only [Option.bind_some]
    rw [cki_nat (by rw [dig_len]; omega), Option.bind_some, stM_of (by rw [dig_len]; omega), Option.bind_some, mV_end (B := 4294967296) (by decide) (val_lt b hB) (by omega), w64_succ (by omega)]
end Go.Proofs.Ytgkafblpckcekaa
