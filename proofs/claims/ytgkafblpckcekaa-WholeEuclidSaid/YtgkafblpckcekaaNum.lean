/- Numbers by their digits, in any base. No program in sight. -/
import Derived.Test.YtgkafblpckcekaaFwImm
namespace Go.Fw

def val (B : Nat) : List Nat → Nat
  | [] => 0
  | x :: l => x + B * val B l
def dig (B : Nat) : Nat → Nat → List Nat
  | 0, _ => []
  | n + 1, v => v % B :: dig B n (v / B)
def trimW (ws : List Nat) : List Nat := (ws.reverse.dropWhile (· == 0)).reverse
/-- The digits of a number, none of them in vain. -/
def can (B v : Nat) : List Nat := trimW (dig B v v)

theorem dig_len (B : Nat) : ∀ n v, (dig B n v).length = n
  | 0, _ => rfl
  | n + 1, v => by simp [dig, dig_len B n]
theorem val_dig (B : Nat) : ∀ n v, val B (dig B n v) = v % B ^ n
  | 0, v => by simp [dig, val, Nat.mod_one]
  | n + 1, v => by
    rw [dig, val, val_dig B n, Nat.pow_succ, Nat.mul_comm (B ^ n) B, Nat.mod_mul]
theorem dig_lt {B : Nat} (hB : 0 < B) : ∀ (n v x : Nat), x ∈ dig B n v → x < B
  | n + 1, v, x, h => by
    rcases List.mem_cons.1 h with rfl | h
    · exact Nat.mod_lt _ hB
    · exact dig_lt hB n _ x h
theorem val_lt {B : Nat} : ∀ (l : List Nat), (∀ x ∈ l, x < B) → val B l < B ^ l.length
  | [], _ => by simp [val]
  | x :: l, h => by
    have h1 := val_lt l (fun y hy => h y (List.mem_cons_of_mem _ hy))
    have h2 := h x (by simp)
    rw [val, List.length_cons, Nat.pow_succ]
    calc x + B * val B l < B + B * val B l := by omega
      _ = B * (val B l + 1) := by rw [Nat.mul_add]; omega
      _ ≤ B * B ^ l.length := Nat.mul_le_mul_left _ h1
      _ = B ^ l.length * B := Nat.mul_comm _ _
theorem dig_val {B : Nat} : ∀ (l : List Nat), (∀ x ∈ l, x < B) → dig B l.length (val B l) = l
  | [], _ => rfl
  | x :: l, h => by
    have h2 := h x (by simp)
    have hB : 0 < B := by omega
    rw [List.length_cons, dig, val, Nat.add_mul_mod_self_left, Nat.mod_eq_of_lt h2, Nat.add_mul_div_left _ _ hB, Nat.div_eq_of_lt h2, Nat.zero_add, dig_val l (fun y hy => h y (List.mem_cons_of_mem _ hy))]
theorem dig_get {B : Nat} : ∀ (n v j : Nat), j < n → (dig B n v)[j]? = some (v / B ^ j % B)
  | n + 1, v, 0, _ => by simp [dig]
  | n + 1, v, j + 1, h => by
    rw [dig, List.getElem?_cons_succ, dig_get n _ j (by omega), Nat.div_div_eq_div_mul, Nat.pow_succ, Nat.mul_comm B]
theorem val_app {B : Nat} : ∀ (a b : List Nat), val B (a ++ b) = val B a + B ^ a.length * val B b
  | [], b => by simp [val]
  | x :: a, b => by
    rw [List.cons_append, val, val, val_app a b, List.length_cons, Nat.pow_succ, Nat.mul_add, Nat.add_assoc, Nat.mul_comm (B ^ a.length) B, Nat.mul_assoc]
theorem dig_succ {B : Nat} : ∀ (n v : Nat), dig B (n + 1) v = dig B n v ++ [v / B ^ n % B]
  | 0, v => by simp [dig]
  | n + 1, v => by
    rw [dig, dig_succ n, dig, List.cons_append, Nat.div_div_eq_div_mul, Nat.pow_succ, Nat.mul_comm B]
theorem dig_congr {B : Nat} (hB : 0 < B) {n u v : Nat} (h : u % B ^ n = v % B ^ n) : dig B n u = dig B n v := by
  have h1 := dig_val (dig B n u) (dig_lt hB n u)
  have h2 := dig_val (dig B n v) (dig_lt hB n v)
  rw [dig_len, val_dig] at h1 h2
  rw [← h1, ← h2, h]
theorem dig_mod {B : Nat} (hB : 0 < B) (n v : Nat) : dig B n (v % B ^ n) = dig B n v := dig_congr hB (Nat.mod_mod _ _)
theorem dig_zero (B : Nat) : ∀ k, dig B k 0 = List.replicate k 0
  | 0 => rfl
  | k + 1 => by rw [dig, Nat.zero_mod, Nat.zero_div, dig_zero B k]; rfl
theorem dig_more {B : Nat} (hB : 0 < B) : ∀ (n k v : Nat), v < B ^ n → dig B (n + k) v = dig B n v ++ List.replicate k 0
  | 0, k, v, h => by
    have : v = 0 := by simpa using h
    subst this; rw [Nat.zero_add, dig_zero]; rfl
  | n + 1, k, v, h => by
    rw [show n + 1 + k = n + k + 1 by omega, dig, dig, List.cons_append, dig_more hB n k (v / B) (by rw [Nat.div_lt_iff_lt_mul hB]; rwa [Nat.pow_succ] at h)]
theorem lt_pow_self' {B : Nat} (hB : 2 ≤ B) : ∀ v, v < B ^ v
  | 0 => by simp
  | v + 1 => by
    have := lt_pow_self' hB v
    rw [Nat.pow_succ]
    have h2 : B ^ v * 2 ≤ B ^ v * B := Nat.mul_le_mul_left _ hB
    omega

theorem trimW_nil : trimW [] = [] := rfl
theorem trimW_zero (l : List Nat) : trimW (l ++ [0]) = trimW l := by simp [trimW]
theorem trimW_zeros (l : List Nat) : ∀ k, trimW (l ++ List.replicate k 0) = trimW l
  | 0 => by simp
  | k + 1 => by rw [List.replicate_succ', ← List.append_assoc, trimW_zero, trimW_zeros l k]
theorem trimW_last (l : List Nat) {x : Nat} (h : x ≠ 0) : trimW (l ++ [x]) = l ++ [x] := by simp [trimW, h]
theorem trim_cases (xs : List Nat) : xs = [] ∨ (∃ ys, xs = ys ++ [0]) ∨ (∃ ys y, y ≠ 0 ∧ xs = ys ++ [y]) := by
  rcases List.eq_nil_or_concat xs with rfl | ⟨ys, y, rfl⟩
  · exact .inl rfl
  · by_cases hy : y = 0
    · subst hy; exact .inr (.inl ⟨ys, by simp⟩)
    · exact .inr (.inr ⟨ys, y, hy, by simp⟩)
theorem trimW_pre : ∀ (n : Nat) (l : List Nat), l.length = n → ∃ k, l = trimW l ++ List.replicate k 0 := by
  intro n
  induction n with
  | zero => intro l h; obtain rfl := List.length_eq_zero_iff.1 h; exact ⟨0, rfl⟩
  | succ n ih =>
    intro l h
    rcases trim_cases l with rfl | ⟨ys, rfl⟩ | ⟨ys, y, hy, rfl⟩
    · simp at h
    · obtain ⟨k, hk⟩ := ih ys (by simpa using h)
      refine ⟨k + 1, ?_⟩
      rw [trimW_zero, List.replicate_succ', ← List.append_assoc, ← hk]
    · exact ⟨0, by rw [trimW_last _ hy]; simp⟩
theorem trimW_mem {l : List Nat} {x : Nat} (h : x ∈ trimW l) : x ∈ l := by
  obtain ⟨k, hk⟩ := trimW_pre _ l rfl
  rw [hk]; exact List.mem_append_left _ h
theorem trimW_len (l : List Nat) : (trimW l).length ≤ l.length := by
  obtain ⟨k, hk⟩ := trimW_pre _ l rfl
  have := congrArg List.length hk
  rw [List.length_append] at this; omega
theorem val_zeros (B : Nat) : ∀ k, val B (List.replicate k 0) = 0
  | 0 => rfl
  | k + 1 => by rw [List.replicate_succ, val, val_zeros B k]; simp
theorem val_trim (B : Nat) (l : List Nat) : val B (trimW l) = val B l := by
  obtain ⟨k, hk⟩ := trimW_pre _ l rfl
  conv => rhs; rw [hk, val_app, val_zeros]
  simp

theorem trim_dig {B : Nat} (hB : 2 ≤ B) {n v : Nat} (h : v < B ^ n) : trimW (dig B n v) = can B v := by
  have hv := lt_pow_self' hB v
  rcases Nat.le_total n v with hn | hn
  · obtain ⟨k, rfl⟩ := Nat.exists_eq_add_of_le hn
    rw [can, dig_more (by omega) n k _ h, trimW_zeros]
  · obtain ⟨k, rfl⟩ := Nat.exists_eq_add_of_le hn
    rw [can, dig_more (by omega) v k _ hv, trimW_zeros]
theorem trim_can {B : Nat} (hB : 2 ≤ B) {l : List Nat} (h : ∀ x ∈ l, x < B) : trimW l = can B (val B l) := by
  conv => lhs; rw [← dig_val l h]
  exact trim_dig hB (val_lt l h)
theorem val_can {B : Nat} (hB : 2 ≤ B) (v : Nat) : val B (can B v) = v := by
  rw [can, val_trim, val_dig, Nat.mod_eq_of_lt (lt_pow_self' hB v)]
theorem can_lt {B : Nat} (hB : 2 ≤ B) {v x : Nat} (h : x ∈ can B v) : x < B := dig_lt (by omega) v v x (trimW_mem h)
theorem can_zero (B : Nat) : can B 0 = [] := rfl
theorem can_nil {B : Nat} (hB : 2 ≤ B) {v : Nat} (h : can B v = []) : v = 0 := by have := val_can hB v; rw [h] at this; exact this.symm
theorem can_len {B : Nat} (hB : 2 ≤ B) {v n : Nat} (h : v < B ^ n) : (can B v).length ≤ n := by
  rw [← trim_dig hB h]
  have := trimW_len (dig B n v)
  rwa [dig_len] at this
theorem can_can {B : Nat} (hB : 2 ≤ B) (v : Nat) : trimW (can B v) = can B v := by
  rw [trim_can hB (fun x hx => can_lt hB hx), val_can hB]
theorem can_dig {B : Nat} (hB : 2 ≤ B) (v : Nat) : can B v = dig B (can B v).length v := by
  have := dig_val (can B v) (fun x hx => can_lt hB hx)
  rw [val_can hB] at this; exact this.symm
theorem lt_can_len {B : Nat} (hB : 2 ≤ B) (v : Nat) : v < B ^ (can B v).length := by
  have := val_lt (can B v) (fun x hx => can_lt hB hx)
  rwa [val_can hB] at this
theorem can_get {B : Nat} (hB : 2 ≤ B) {v j : Nat} (h : j < (can B v).length) : (can B v)[j]? = some (v / B ^ j % B) := by
  rw [can_dig hB v] at h ⊢
  rw [dig_len] at h
  exact dig_get _ _ _ h
theorem can_beyond {B : Nat} (hB : 2 ≤ B) {v j : Nat} (h : (can B v).length ≤ j) : v / B ^ j = 0 := by
  refine Nat.div_eq_of_lt (Nat.lt_of_lt_of_le (lt_can_len hB v) ?_)
  exact Nat.pow_le_pow_right (by omega) h
theorem can_last {B : Nat} (hB : 2 ≤ B) {v : Nat} (h : v ≠ 0) : ∃ l x, x ≠ 0 ∧ can B v = l ++ [x] := by
  rcases trim_cases (can B v) with e | ⟨ys, e⟩ | ⟨ys, y, hy, e⟩
  · exact absurd (can_nil hB e) h
  · exfalso
    have h1 := can_can hB v
    rw [e, trimW_zero] at h1
    have h2 := trimW_len ys
    rw [h1] at h2; simp at h2; omega
  · exact ⟨ys, y, hy, e⟩
theorem pow_le_of_can {B : Nat} (hB : 2 ≤ B) {v n : Nat} (h : n < (can B v).length) : B ^ n ≤ v := by
  by_cases h0 : v = 0
  · subst h0; simp [can_zero] at h
  obtain ⟨l, x, hx, e⟩ := can_last hB h0
  have h1 := val_can hB v
  rw [e, val_app] at h1
  have hl : n ≤ l.length := by rw [e] at h; simp at h; omega
  have h2 : B ^ n ≤ B ^ l.length := Nat.pow_le_pow_right (by omega) hl
  have h3 : B ^ l.length ≤ B ^ l.length * val B [x] := Nat.le_mul_of_pos_right _ (by simp [val]; omega)
  omega
theorem can_len_iff {B : Nat} (hB : 2 ≤ B) {v n : Nat} : (can B v).length ≤ n ↔ v < B ^ n := by
  refine ⟨fun h => ?_, can_len hB⟩
  exact Nat.lt_of_lt_of_le (lt_can_len hB v) (Nat.pow_le_pow_right (by omega) h)
theorem can_inj {B : Nat} (hB : 2 ≤ B) {u v : Nat} (h : can B u = can B v) : u = v := by rw [← val_can hB u, h, val_can hB]
theorem can_of {B : Nat} (hB : 2 ≤ B) {l : List Nat} {x : Nat} (hx : x ≠ 0) (h : ∀ y ∈ l ++ [x], y < B) : l ++ [x] = can B (val B (l ++ [x])) := by
  rw [← trim_can hB h, trimW_last _ hx]
/- one digit's step of sums and differences -/
theorem val_getD {B : Nat} : ∀ (l : List Nat), (∀ x ∈ l, x < B) → ∀ k, l.getD k 0 = val B l / B ^ k % B
  | [], _, k => by simp [val]
  | x :: l, h, 0 => by
    have h2 := h x (by simp)
    simp [val, Nat.add_mul_mod_self_left, Nat.mod_eq_of_lt h2]
  | x :: l, h, k + 1 => by
    have h2 := h x (by simp)
    have hB : 0 < B := by omega
    rw [List.getD_cons_succ, val_getD l (fun y hy => h y (List.mem_cons_of_mem _ hy)) k, val, Nat.pow_succ, Nat.mul_comm (B ^ k) B, ← Nat.div_div_eq_div_mul, Nat.add_mul_div_left _ _ hB, Nat.div_eq_of_lt h2, Nat.zero_add]
theorem mod_pow_step (B V k : Nat) : V % B ^ (k + 1) = V % B ^ k + B ^ k * (V / B ^ k % B) := by
  rw [Nat.pow_succ, Nat.mod_mul]
/-- The carry out of the lowest k digits of a sum. -/
def cry (B V W k : Nat) : Nat := (V % B ^ k + W % B ^ k) / B ^ k
theorem cry_le {B : Nat} (hB : 0 < B) (V W k : Nat) : cry B V W k ≤ 1 := by
  have hP : 0 < B ^ k := Nat.pow_pos hB
  have h1 := Nat.mod_lt V hP
  have h2 := Nat.mod_lt W hP
  have : cry B V W k < 2 := by rw [cry, Nat.div_lt_iff_lt_mul hP]; omega
  omega
theorem cry_step {B : Nat} (hB : 0 < B) (V W k : Nat) : (V / B ^ k % B + W / B ^ k % B + cry B V W k) / B = cry B V W (k + 1) := by
  have hP : 0 < B ^ k := Nat.pow_pos hB
  rw [cry, cry, mod_pow_step, mod_pow_step, Nat.pow_succ, ← Nat.div_div_eq_div_mul]
  congr 1
  rw [show V % B ^ k + B ^ k * (V / B ^ k % B) + (W % B ^ k + B ^ k * (W / B ^ k % B)) = (V % B ^ k + W % B ^ k) + B ^ k * (V / B ^ k % B + W / B ^ k % B) by rw [Nat.mul_add]; omega, Nat.add_mul_div_left _ _ hP]
  omega
theorem cry_dig {B : Nat} (hB : 0 < B) (V W k : Nat) : (V / B ^ k % B + W / B ^ k % B + cry B V W k) % B = (V + W) / B ^ k % B := by
  have hP : 0 < B ^ k := Nat.pow_pos hB
  have h : (V + W) / B ^ k = V / B ^ k + W / B ^ k + cry B V W k := by
    have e1 := Nat.div_add_mod V (B ^ k)
    have e2 := Nat.div_add_mod W (B ^ k)
    rw [cry]
    conv => lhs; rw [← e1, ← e2]
    rw [show B ^ k * (V / B ^ k) + V % B ^ k + (B ^ k * (W / B ^ k) + W % B ^ k) = (V % B ^ k + W % B ^ k) + B ^ k * (V / B ^ k + W / B ^ k) by rw [Nat.mul_add]; omega, Nat.add_mul_div_left _ _ hP]
    omega
  rw [h]
  simp [Nat.add_mod]
theorem cry_end {B : Nat} {V W k : Nat} (hV : V < B ^ k) (hW : W < B ^ k) : cry B V W k = (V + W) / B ^ k := by
  rw [cry, Nat.mod_eq_of_lt hV, Nat.mod_eq_of_lt hW]
theorem cry_zero (B V W : Nat) : cry B V W 0 = 0 := by simp [cry, Nat.mod_one]
/-- The same of a difference, by the complement. -/
def lnd (B V W k : Nat) : Nat := (V % B ^ k + B ^ k - W % B ^ k) / B ^ k
theorem lnd_zero (B V W : Nat) : lnd B V W 0 = 1 := by simp [lnd, Nat.mod_one]
theorem lnd_le {B : Nat} (hB : 0 < B) (V W k : Nat) : lnd B V W k ≤ 1 := by
  have hP : 0 < B ^ k := Nat.pow_pos hB
  have h1 := Nat.mod_lt V hP
  have : lnd B V W k < 2 := by
    rw [lnd, Nat.div_lt_iff_lt_mul hP]
    generalize W % B ^ k = y at *
    generalize V % B ^ k = x at *
    omega
  omega
theorem lnd_num {B : Nat} (hB : 0 < B) (V W k : Nat) : V % B ^ (k + 1) + B ^ (k + 1) - W % B ^ (k + 1) = (V % B ^ k + B ^ k - W % B ^ k) + B ^ k * (V / B ^ k % B + (B - 1 - W / B ^ k % B)) := by
  have hP : 0 < B ^ k := Nat.pow_pos hB
  have h1 := Nat.mod_lt V hP
  have h2 := Nat.mod_lt W hP
  have h3 := Nat.mod_lt (W / B ^ k) hB
  rw [mod_pow_step, mod_pow_step, Nat.pow_succ]
  generalize B ^ k = p at *
  generalize V / p % B = x at *
  generalize W / p % B = y at *
  obtain ⟨z, rfl⟩ : ∃ z, B = y + 1 + z := ⟨B - y - 1, by omega⟩
  have e1 : y + 1 + z - 1 - y = z := by omega
  rw [e1, Nat.mul_add p x z, Nat.mul_add p (y + 1) z, Nat.mul_add p y 1]
  omega
theorem lnd_step {B : Nat} (hB : 0 < B) (V W k : Nat) : (V / B ^ k % B + (B - 1 - W / B ^ k % B) + lnd B V W k) / B = lnd B V W (k + 1) := by
  have hP : 0 < B ^ k := Nat.pow_pos hB
  rw [lnd, lnd, lnd_num hB, Nat.pow_succ, ← Nat.div_div_eq_div_mul, Nat.add_mul_div_left _ _ hP]
  congr 1
  omega
theorem sub_mod_eq {Q V W : Nat} (hQ : 0 < Q) (h : W ≤ V) : (V % Q + Q - W % Q) % Q = (V - W) % Q := by
  have e1 := Nat.div_add_mod V Q
  have e2 := Nat.div_add_mod W Q
  have h1 := Nat.mod_lt V hQ
  have h2 := Nat.mod_lt W hQ
  have hq : W / Q ≤ V / Q := Nat.div_le_div_right h
  generalize V % Q = r at *
  generalize W % Q = s at *
  generalize V / Q = a at *
  generalize W / Q = b at *
  obtain ⟨c, rfl⟩ := Nat.exists_eq_add_of_le hq
  rw [Nat.mul_add] at e1
  rcases Nat.lt_or_ge r s with hrs | hrs
  · cases c with
    | zero => simp at e1; omega
    | succ c =>
      rw [Nat.mul_add, Nat.mul_one] at e1
      rw [show V - W = Q * c + (r + Q - s) by omega, Nat.mul_add_mod]
  · rw [show V - W = Q * c + (r - s) by omega, Nat.mul_add_mod, show r + Q - s = r - s + Q by omega, Nat.add_mod_right]
theorem lnd_dig {B : Nat} (hB : 0 < B) {V W : Nat} (h : W ≤ V) (k : Nat) : (V / B ^ k % B + (B - 1 - W / B ^ k % B) + lnd B V W k) % B = (V - W) / B ^ k % B := by
  have hP : 0 < B ^ k := Nat.pow_pos hB
  have hQ : 0 < B ^ (k + 1) := Nat.pow_pos hB
  have e := sub_mod_eq hQ h
  have e2 : V / B ^ k % B + (B - 1 - W / B ^ k % B) + lnd B V W k = (V % B ^ (k + 1) + B ^ (k + 1) - W % B ^ (k + 1)) / B ^ k := by
    rw [lnd_num hB, Nat.add_mul_div_left _ _ hP, lnd]; omega
  rw [e2, ← Nat.mod_mul_right_div_self, ← Nat.mod_mul_right_div_self, ← Nat.pow_succ, e]
end Go.Fw
