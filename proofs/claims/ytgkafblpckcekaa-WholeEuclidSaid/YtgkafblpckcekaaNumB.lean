/- One digit's steps of products and quotients. No program in sight. -/
import Derived.Test.YtgkafblpckcekaaNum
namespace Go.Fw

theorem dig_set {B : Nat} (hB : 0 < B) : ∀ (j N lo p d hi : Nat), lo < B ^ j → p < B → d < B → j < N → (dig B N (lo + B ^ j * (p + B * hi))).set j d = dig B N (lo + B ^ j * (d + B * hi))
  | 0, N + 1, lo, p, d, hi, hlo, hp, hd, _ => by
    have : lo = 0 := by simpa using hlo
    subst this
    simp only [Nat.pow_zero, Nat.zero_add, Nat.one_mul, dig, List.set_cons_zero, Nat.add_mul_mod_self_left, Nat.mod_eq_of_lt hd]
    rw [Nat.add_mul_div_left _ _ hB, Nat.add_mul_div_left _ _ hB, Nat.div_eq_of_lt hp, Nat.div_eq_of_lt hd]
  | j + 1, N + 1, lo, p, d, hi, hlo, hp, hd, hN => by
    have e : ∀ q, (lo + B ^ (j + 1) * (q + B * hi)) % B = lo % B := fun q => by
      rw [Nat.pow_succ, Nat.mul_comm (B ^ j) B, Nat.mul_assoc, Nat.add_mul_mod_self_left]
    have e2 : ∀ q, (lo + B ^ (j + 1) * (q + B * hi)) / B = lo / B + B ^ j * (q + B * hi) := fun q => by
      rw [Nat.pow_succ, Nat.mul_comm (B ^ j) B, Nat.mul_assoc, Nat.add_mul_div_left _ _ hB]
    have hlo' : lo / B < B ^ j := by rw [Nat.div_lt_iff_lt_mul hB]; rwa [Nat.pow_succ] at hlo
    rw [dig, dig, List.set_cons_succ, e, e, e2, e2, dig_set hB j N (lo / B) p d hi hlo' hp hd (by omega)]

/-- A digit put into the place j of a number. -/
theorem dig_put {B : Nat} (hB : 0 < B) {N j u u' d : Nat} (hj : j < N) (hd : d < B) (hlo : u' % B ^ j = u % B ^ j) (hdig : u' / B ^ j % B = d) (hhi : u' / B ^ (j + 1) = u / B ^ (j + 1)) : (dig B N u).set j d = dig B N u' := by
  have hP : 0 < B ^ j := Nat.pow_pos hB
  have f : ∀ u, u = u % B ^ j + B ^ j * (u / B ^ j % B + B * (u / B ^ (j + 1))) := fun u => by
    have e1 := Nat.mod_add_div u (B ^ j)
    have e2 := div_step' B u j
    rw [Nat.add_comm] at e2
    rw [← e2, e1]
  rw [f u, dig_set hB j N _ _ d _ (Nat.mod_lt _ hP) (Nat.mod_lt _ hB) hd hj]
  conv => rhs; rw [f u', hlo, hdig, hhi]
where
  div_step' (B v m : Nat) : v / B ^ m = B * (v / B ^ (m + 1)) + v / B ^ m % B := by
    rw [Nat.pow_succ, ← Nat.div_div_eq_div_mul, Nat.div_add_mod]

/- products -/
def mT (B V W i k : Nat) : Nat := ((V % B ^ i) * W) % B ^ (i + k) + B ^ i * (V / B ^ i % B) * (W % B ^ k)
def mC (B V W i k : Nat) : Nat := mT B V W i k / B ^ (i + k)
def mV (B V W i k : Nat) : Nat := mT B V W i k % B ^ (i + k) + B ^ (i + k) * (((V % B ^ i) * W) / B ^ (i + k))
theorem mT_lt {B : Nat} (hB : 0 < B) (V W i k : Nat) : mT B V W i k < B ^ (i + k) * B := by
  have h1 : ((V % B ^ i) * W) % B ^ (i + k) < B ^ (i + k) := Nat.mod_lt _ (Nat.pow_pos hB)
  have h2 : V / B ^ i % B < B := Nat.mod_lt _ hB
  have h3 : W % B ^ k < B ^ k := Nat.mod_lt _ (Nat.pow_pos hB)
  have h4 : B ^ i * (V / B ^ i % B) * (W % B ^ k) ≤ B ^ i * (B - 1) * B ^ k := Nat.mul_le_mul (Nat.mul_le_mul_left _ (by omega)) (Nat.le_of_lt h3)
  have h5 : B ^ i * (B - 1) * B ^ k = B ^ (i + k) * (B - 1) := by rw [Nat.pow_add, Nat.mul_assoc, Nat.mul_assoc, Nat.mul_comm (B - 1)]
  have h6 : B ^ (i + k) * B = B ^ (i + k) * (B - 1) + B ^ (i + k) := by
    obtain ⟨b, rfl⟩ : ∃ b, B = b + 1 := ⟨B - 1, by omega⟩
    rw [Nat.add_sub_cancel, Nat.mul_add, Nat.mul_one]
  unfold mT
  omega
theorem mC_lt {B : Nat} (hB : 0 < B) (V W i k : Nat) : mC B V W i k < B := by
  rw [mC, Nat.div_lt_iff_lt_mul (Nat.pow_pos hB), Nat.mul_comm]; exact mT_lt hB V W i k
theorem mT_step {B : Nat} (V W i k : Nat) : mT B V W i (k + 1) = mT B V W i k + B ^ (i + k) * (((V % B ^ i) * W) / B ^ (i + k) % B + (V / B ^ i % B) * (W / B ^ k % B)) := by
  have e1 : ((V % B ^ i) * W) % B ^ (i + (k + 1)) = ((V % B ^ i) * W) % B ^ (i + k) + B ^ (i + k) * (((V % B ^ i) * W) / B ^ (i + k) % B) := by rw [← Nat.add_assoc, mod_pow_step]
  have e2 : W % B ^ (k + 1) = W % B ^ k + B ^ k * (W / B ^ k % B) := mod_pow_step B W k
  unfold mT
  rw [e1, e2, Nat.mul_add, Nat.mul_add (B ^ (i + k))]
  have e3 : B ^ i * (V / B ^ i % B) * (B ^ k * (W / B ^ k % B)) = B ^ (i + k) * ((V / B ^ i % B) * (W / B ^ k % B)) := by
    rw [Nat.pow_add, Nat.mul_assoc, Nat.mul_assoc, Nat.mul_left_comm (V / B ^ i % B)]
  omega
theorem mC_step {B : Nat} (hB : 0 < B) (V W i k : Nat) : (((V % B ^ i) * W) / B ^ (i + k) % B + (V / B ^ i % B) * (W / B ^ k % B) + mC B V W i k) / B = mC B V W i (k + 1) := by
  have hP : 0 < B ^ (i + k) := Nat.pow_pos hB
  rw [mC, mC, mT_step, ← Nat.add_assoc, Nat.pow_succ, ← Nat.div_div_eq_div_mul, Nat.add_mul_div_left _ _ hP]
  congr 1; omega
theorem mV_lo {B : Nat} (V W i k : Nat) : mV B V W i k % B ^ (i + k) = mT B V W i k % B ^ (i + k) := by
  rw [mV, Nat.add_mul_mod_self_left, Nat.mod_mod]
theorem mV_hi {B : Nat} (hB : 0 < B) (V W i k : Nat) : mV B V W i k / B ^ (i + k) = ((V % B ^ i) * W) / B ^ (i + k) := by
  have hP : 0 < B ^ (i + k) := Nat.pow_pos hB
  rw [mV, Nat.add_mul_div_left _ _ hP, Nat.div_eq_of_lt (Nat.mod_lt _ hP), Nat.zero_add]
theorem mV_dig {B : Nat} (hB : 0 < B) {V W i k N : Nat} (h : i + k < N) : (dig B N (mV B V W i k))[i + k]? = some (((V % B ^ i) * W) / B ^ (i + k) % B) := by
  rw [dig_get _ _ _ h, mV_hi hB]
theorem mV_step {B : Nat} (hB : 0 < B) {V W i k N : Nat} (h : i + k < N) :
    (dig B N (mV B V W i k)).set (i + k) ((((V % B ^ i) * W) / B ^ (i + k) % B + (V / B ^ i % B) * (W / B ^ k % B) + mC B V W i k) % B) = dig B N (mV B V W i (k + 1)) := by
  have hP : 0 < B ^ (i + k) := Nat.pow_pos hB
  have hPB : B ^ (i + (k + 1)) = B ^ (i + k) * B := by rw [← Nat.add_assoc, Nat.pow_succ]
  have hs : mT B V W i (k + 1) / B ^ (i + k) = ((V % B ^ i) * W) / B ^ (i + k) % B + (V / B ^ i % B) * (W / B ^ k % B) + mC B V W i k := by
    rw [mT_step, Nat.add_mul_div_left _ _ hP, mC]; omega
  have ht : mT B V W i (k + 1) % B ^ (i + k) = mT B V W i k % B ^ (i + k) := by rw [mT_step, Nat.add_mul_mod_self_left]
  refine dig_put hB h (Nat.mod_lt _ hB) ?_ ?_ ?_
  · rw [mV_lo, ← ht, mV, hPB, Nat.mul_assoc, Nat.add_mul_mod_self_left, Nat.mod_mul_right_mod]
  · rw [mV, hPB, Nat.mul_assoc, Nat.add_mul_div_left _ _ hP, Nat.add_mul_mod_self_left, Nat.mod_mul_right_div_self, Nat.mod_mod, hs]
  · rw [show i + k + 1 = i + (k + 1) by omega, mV_hi hB, show i + (k + 1) = i + k + 1 by omega, Nat.pow_succ, ← Nat.div_div_eq_div_mul, ← Nat.div_div_eq_div_mul, mV_hi hB]
theorem mV_zero {B : Nat} (V W i : Nat) : mV B V W i 0 = (V % B ^ i) * W := by
  rw [mV, mT, Nat.pow_zero, Nat.mod_one, Nat.mul_zero, Nat.add_zero, Nat.add_zero, Nat.mod_mod, Nat.mod_add_div]
theorem mC_zero {B : Nat} (hB : 0 < B) (V W i : Nat) : mC B V W i 0 = 0 := by
  rw [mC, mT, Nat.pow_zero, Nat.mod_one, Nat.mul_zero, Nat.add_zero, Nat.add_zero]
  exact Nat.div_eq_of_lt (Nat.mod_lt _ (Nat.pow_pos hB))
theorem mV_end {B : Nat} (hB : 0 < B) {V W i n N : Nat} (hW : W < B ^ n) (h : i + n < N) : (dig B N (mV B V W i n)).set (i + n) ((0 + mC B V W i n) % B) = dig B N ((V % B ^ (i + 1)) * W) := by
  have hP : 0 < B ^ (i + n) := Nat.pow_pos hB
  have hp : (V % B ^ i) * W < B ^ (i + n) := by
    have h1 : V % B ^ i < B ^ i := Nat.mod_lt _ (Nat.pow_pos hB)
    rw [Nat.pow_add]
    by_cases h0 : W = 0
    · subst h0; rw [Nat.mul_zero]; exact Nat.mul_pos (Nat.pow_pos hB) (Nat.pow_pos hB)
    · calc (V % B ^ i) * W < B ^ i * W := Nat.mul_lt_mul_of_pos_right h1 (by omega)
        _ ≤ B ^ i * B ^ n := Nat.mul_le_mul_left _ (Nat.le_of_lt hW)
  have hT : mT B V W i n = (V % B ^ (i + 1)) * W := by
    rw [mT, Nat.mod_eq_of_lt hp, Nat.mod_eq_of_lt hW, mod_pow_step, Nat.add_mul]
  have hlt := mT_lt hB V W i n
  rw [hT] at hlt
  refine dig_put hB h (Nat.mod_lt _ hB) ?_ ?_ ?_
  · rw [mV_lo, hT]
  · rw [Nat.zero_add, mC, hT]
  · rw [Nat.pow_succ B (i + n), Nat.div_eq_of_lt hlt, ← Nat.div_div_eq_div_mul, mV_hi hB, Nat.div_eq_of_lt hp, Nat.zero_div]
/- a number times a digit, plus a digit -/
def sT (B V f e i : Nat) : Nat := V % B ^ i * f + e
def sC (B V f e i : Nat) : Nat := sT B V f e i / B ^ i
theorem sC_zero (B V f e : Nat) : sC B V f e 0 = e := by simp [sC, sT, Nat.mod_one]
theorem sT_step (B V f e i : Nat) : sT B V f e (i + 1) = sT B V f e i + B ^ i * (V / B ^ i % B * f) := by
  unfold sT
  rw [mod_pow_step, Nat.add_mul, Nat.mul_assoc]; omega
theorem sC_step {B : Nat} (hB : 0 < B) (V f e i : Nat) : (V / B ^ i % B * f + sC B V f e i) / B = sC B V f e (i + 1) := by
  have hP : 0 < B ^ i := Nat.pow_pos hB
  rw [sC, sC, sT_step, Nat.pow_succ, ← Nat.div_div_eq_div_mul, Nat.add_mul_div_left _ _ hP]
  congr 1; omega
theorem sC_dig {B : Nat} (hB : 0 < B) (V f e i : Nat) : (V / B ^ i % B * f + sC B V f e i) % B = (V * f + e) / B ^ i % B := by
  have hP : 0 < B ^ i := Nat.pow_pos hB
  have h1 : V * f + e = sT B V f e (i + 1) + B ^ i * (B * (V / B ^ (i + 1) * f)) := by
    have e1 := Nat.mod_add_div V (B ^ (i + 1))
    unfold sT
    conv => lhs; rw [← e1, Nat.add_mul]
    rw [Nat.pow_succ, Nat.mul_assoc, Nat.mul_assoc]; omega
  rw [h1, Nat.add_mul_div_left _ _ hP, Nat.add_mul_mod_self_left, sT_step, Nat.add_mul_div_left _ _ hP, sC, Nat.add_comm]
theorem sC_lt {B : Nat} (hB : 0 < B) {V f e : Nat} (hf : f < B) (he : e < B) (i : Nat) : sC B V f e i < B := by
  have hP : 0 < B ^ i := Nat.pow_pos hB
  rw [sC, Nat.div_lt_iff_lt_mul hP]
  have h1 : V % B ^ i ≤ B ^ i - 1 := by have := Nat.mod_lt V hP; omega
  have h2 : V % B ^ i * f ≤ (B ^ i - 1) * (B - 1) := Nat.mul_le_mul h1 (by omega)
  obtain ⟨p, hp⟩ : ∃ p, B ^ i = p + 1 := ⟨B ^ i - 1, by omega⟩
  obtain ⟨b, rfl⟩ : ∃ b, B = b + 1 := ⟨B - 1, by omega⟩
  unfold sT
  rw [hp] at h2 ⊢
  rw [Nat.add_sub_cancel, Nat.add_sub_cancel] at h2
  have h3 : (b + 1) * (p + 1) = p * b + b + p + 1 := by rw [Nat.add_mul, Nat.mul_add, Nat.mul_comm b p]; omega
  omega
theorem sC_end {B V f e i : Nat} (h : V < B ^ i) : sC B V f e i = (V * f + e) / B ^ i := by rw [sC, sT, Nat.mod_eq_of_lt h]
/-- The number in whose lowest i digits the product stands already. -/
def sU (B V f e i : Nat) : Nat := sT B V f e i % B ^ i + B ^ i * (V / B ^ i)
theorem sU_zero (B V f e : Nat) : sU B V f e 0 = V := by simp [sU, Nat.mod_one]
theorem sU_lo (B V f e i : Nat) : sU B V f e i % B ^ i = sT B V f e i % B ^ i := by rw [sU, Nat.add_mul_mod_self_left, Nat.mod_mod]
theorem sU_hi {B : Nat} (hB : 0 < B) (V f e i : Nat) : sU B V f e i / B ^ i = V / B ^ i := by
  have hP : 0 < B ^ i := Nat.pow_pos hB
  rw [sU, Nat.add_mul_div_left _ _ hP, Nat.div_eq_of_lt (Nat.mod_lt _ hP), Nat.zero_add]
theorem sU_step {B : Nat} (hB : 0 < B) {V f e i N : Nat} (h : i < N) : (dig B N (sU B V f e i)).set i ((V / B ^ i % B * f + sC B V f e i) % B) = dig B N (sU B V f e (i + 1)) := by
  have hP : 0 < B ^ i := Nat.pow_pos hB
  have ht : sT B V f e (i + 1) % B ^ i = sT B V f e i % B ^ i := by rw [sT_step, Nat.add_mul_mod_self_left]
  have hs : sT B V f e (i + 1) / B ^ i = V / B ^ i % B * f + sC B V f e i := by rw [sT_step, Nat.add_mul_div_left _ _ hP, sC]; omega
  refine dig_put hB h (Nat.mod_lt _ hB) ?_ ?_ ?_
  · rw [sU_lo, ← ht, sU, Nat.pow_succ, Nat.mul_assoc, Nat.add_mul_mod_self_left, Nat.mod_mul_right_mod]
  · rw [sU, Nat.pow_succ, Nat.mul_assoc, Nat.add_mul_div_left _ _ hP, Nat.add_mul_mod_self_left, Nat.mod_mul_right_div_self, Nat.mod_mod, hs]
  · rw [sU_hi hB, Nat.pow_succ, ← Nat.div_div_eq_div_mul, ← Nat.div_div_eq_div_mul, sU_hi hB]
theorem sU_end {B : Nat} (hB : 0 < B) {V f e i : Nat} (h : V < B ^ i) : dig B i (sU B V f e i) = dig B i (V * f + e) := by
  refine dig_congr hB ?_
  rw [sU_lo, sT, Nat.mod_eq_of_lt h]
/- a number by a digit -/
def qU (B V d n : Nat) : Nat := V % B ^ n + B ^ n * (V / B ^ n / d)
theorem qU_zero (B V d : Nat) : qU B V d 0 = V / d := by simp [qU, Nat.mod_one]
theorem qU_top {B V d n : Nat} (h : V < B ^ n) : qU B V d n = V := by simp [qU, Nat.mod_eq_of_lt h, Nat.div_eq_of_lt h]
theorem q_split (B V m : Nat) : V / B ^ m = B * (V / B ^ (m + 1)) + V / B ^ m % B := by rw [Nat.pow_succ, ← Nat.div_div_eq_div_mul, Nat.div_add_mod]
theorem q_num {B d : Nat} (V m : Nat) : V / B ^ m = (V / B ^ (m + 1) % d * B + V / B ^ m % B) + d * (B * (V / B ^ (m + 1) / d)) := by
  have h1 := q_split B V m
  have h2 := Nat.mod_add_div (V / B ^ (m + 1)) d
  generalize V / B ^ (m + 1) = q at *
  generalize V / B ^ m % B = y at *
  rw [h1]
  conv => lhs; rw [← h2]
  rw [Nat.mul_add, Nat.mul_left_comm B d, Nat.mul_comm B (q % d)]; omega
theorem q_div {B d : Nat} (hd : 0 < d) (V m : Nat) : V / B ^ m / d = B * (V / B ^ (m + 1) / d) + (V / B ^ (m + 1) % d * B + V / B ^ m % B) / d := by
  conv => lhs; rw [q_num (B := B) (d := d) V m]
  rw [Nat.add_mul_div_left _ _ hd, Nat.add_comm]
theorem q_mod {B d : Nat} (V m : Nat) : V / B ^ m % d = (V / B ^ (m + 1) % d * B + V / B ^ m % B) % d := by
  conv => lhs; rw [q_num (B := B) (d := d) V m]
  rw [Nat.add_mul_mod_self_left]
theorem q_lt {B d : Nat} (hB : 0 < B) (hd : 0 < d) (V m : Nat) : V / B ^ (m + 1) % d * B + V / B ^ m % B < d * B := by
  have h1 := Nat.mod_lt (V / B ^ (m + 1)) hd
  have h2 := Nat.mod_lt (V / B ^ m) hB
  have h3 : (V / B ^ (m + 1) % d + 1) * B ≤ d * B := Nat.mul_le_mul_right _ h1
  rw [Nat.add_mul] at h3; omega
theorem qU_hi {B : Nat} (hB : 0 < B) (V d n : Nat) : qU B V d n / B ^ n = V / B ^ n / d := by
  have hP : 0 < B ^ n := Nat.pow_pos hB
  rw [qU, Nat.add_mul_div_left _ _ hP, Nat.div_eq_of_lt (Nat.mod_lt _ hP), Nat.zero_add]
theorem qU_lo (B V d n : Nat) : qU B V d n % B ^ n = V % B ^ n := by rw [qU, Nat.add_mul_mod_self_left, Nat.mod_mod]
theorem qU_low1 {B : Nat} (V d m : Nat) : qU B V d (m + 1) % B ^ m = V % B ^ m := by
  rw [qU, Nat.pow_succ, Nat.mul_assoc, Nat.add_mul_mod_self_left, Nat.mod_mul_right_mod]
theorem qU_dig {B : Nat} (hB : 0 < B) {V d m N : Nat} (h : m < N) : (dig B N (qU B V d (m + 1)))[m]? = some (V / B ^ m % B) := by
  have hP : 0 < B ^ m := Nat.pow_pos hB
  rw [dig_get _ _ _ h, qU, Nat.pow_succ, Nat.mul_assoc, Nat.add_mul_div_left _ _ hP, Nat.add_mul_mod_self_left, Nat.mod_mul_right_div_self, Nat.mod_mod]
theorem qU_step {B : Nat} (hB : 0 < B) {V d m N : Nat} (hd : 0 < d) (h : m < N) : (dig B N (qU B V d (m + 1))).set m ((V / B ^ (m + 1) % d * B + V / B ^ m % B) / d) = dig B N (qU B V d m) := by
  have hx : (V / B ^ (m + 1) % d * B + V / B ^ m % B) / d < B := by rw [Nat.div_lt_iff_lt_mul hd, Nat.mul_comm B d]; exact q_lt hB hd V m
  have hq := q_div (B := B) hd V m
  refine dig_put hB h hx ?_ ?_ ?_
  · rw [qU_lo, qU_low1]
  · rw [qU_hi hB, hq, Nat.mul_add_mod, Nat.mod_eq_of_lt hx]
  · rw [qU_hi hB, Nat.pow_succ, ← Nat.div_div_eq_div_mul, qU_hi hB, hq, Nat.mul_add_div hB, Nat.div_eq_of_lt hx, ← Nat.pow_succ]; rfl
end Go.Fw
