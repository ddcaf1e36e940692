/- Integers: the value of a sign and words; the simple operations. -/
import Derived.Test.YtgkafblpckcekaaQW5
namespace Go.Proofs.Ytgkafblpckcekaa
open Go.Fw

def sv (n : Bool) (v : Nat) : Int := bif n then -(v : Int) else v
def zi (z : Zr) : Int := sv z.neg (vl z.w)
def zn (i : Int) : Zr := ⟨decide (i < 0), can 4294967296 i.natAbs⟩
def Wl (z : Zr) : Prop := (∀ x ∈ z.w, x < 4294967296) ∧ z.w.length ≤ 100000000
def Fit (L : Nat) (i : Int) : Prop := i.natAbs < 4294967296 ^ L

theorem sv_abs (n : Bool) (v : Nat) : (sv n v).natAbs = v := by cases n <;> simp [sv]
theorem zi_abs (z : Zr) : (zi z).natAbs = vl z.w := sv_abs _ _
theorem sv_neg (n : Bool) (v : Nat) : decide (sv n v < 0) = (n && v != 0) := by
  cases n
  · have : ¬ ((v : Int) < 0) := by omega
    simp [sv, this]
  · rcases v with _ | v
    · simp [sv]
    · simp [sv]
theorem zc_zn (n : Bool) (v : Nat) : zc n v = zn (sv n v) := by rw [zc, zn, sv_neg, sv_abs]
theorem sv_self (i : Int) : sv (decide (i < 0)) i.natAbs = i := by
  by_cases h : i < 0
  · rw [show decide (i < 0) = true by simp [h]]; simp [sv]; omega
  · rw [show decide (i < 0) = false by simp [h]]; simp [sv]; omega
theorem zi_zn (i : Int) : zi (zn i) = i := by
  show sv (decide (i < 0)) (vl (can 4294967296 i.natAbs)) = i
  rw [show vl (can 4294967296 i.natAbs) = i.natAbs from val_can (by decide) _, sv_self]
theorem zn_inj {i j : Int} (h : zn i = zn j) : i = j := by rw [← zi_zn i, h, zi_zn]
theorem sv_not (n : Bool) (v : Nat) : sv (!n) v = -sv n v := by cases n <;> simp [sv]
theorem sv_false (v : Nat) : sv false v = v := rfl
theorem zn_nat (v : Nat) : zn (v : Int) = zc false v := by rw [zc_zn, sv_false]

theorem Fit.mono {L M : Nat} {i : Int} (h : Fit L i) (hl : L ≤ M) : Fit M i := Nat.lt_of_lt_of_le h (Nat.pow_le_pow_right (by decide) hl)
theorem Fit.neg {L : Nat} {i : Int} (h : Fit L i) : Fit L (-i) := by unfold Fit at *; rw [Int.natAbs_neg]; exact h
theorem Fit.add {L : Nat} {i j : Int} (h : Fit L i) (h' : Fit L j) : Fit (L + 1) (i + j) := by
  unfold Fit at *
  have := Int.natAbs_add_le i j
  rw [Nat.pow_succ]; omega
theorem Fit.sub {L : Nat} {i j : Int} (h : Fit L i) (h' : Fit L j) : Fit (L + 1) (i - j) := by
  rw [Int.sub_eq_add_neg]; exact h.add h'.neg
theorem Fit.mul {L M : Nat} {i j : Int} (h : Fit L i) (h' : Fit M j) : Fit (L + M) (i * j) := by
  unfold Fit at *
  rw [Int.natAbs_mul, Nat.pow_add]
  exact Nat.mul_lt_mul'' h h'
theorem Fit.i64 {i : Int} (h : -9223372036854775808 ≤ i) (h' : i ≤ 9223372036854775807) : Fit 2 i := by
  unfold Fit; rw [show (4294967296 : Nat) ^ 2 = 18446744073709551616 by decide]; omega
theorem Fit.le {L : Nat} {i j : Int} (h : Fit L i) (h' : j.natAbs ≤ i.natAbs) : Fit L j := Nat.lt_of_le_of_lt h' h
theorem wl_zn {L : Nat} {i : Int} (h : Fit L i) (hL : L ≤ 100000000) : Wl (zn i) :=
  ⟨fun _ hx => can_lt (by decide) hx, Nat.le_trans ((can_len_iff (by decide)).2 h) hL⟩
theorem Wl.fit {z : Zr} (h : Wl z) : Fit z.w.length (zi z) := by
  unfold Fit; rw [zi_abs]; exact val_lt z.w h.1
theorem Wl.lt {z : Zr} (h : Wl z) : vl z.w < 4294967296 ^ z.w.length := val_lt z.w h.1
theorem Wl.cl {z : Zr} (h : Wl z) : (can 4294967296 (vl z.w)).length ≤ 100000000 :=
  Nat.le_trans ((can_len_iff (by decide)).2 (Wl.lt h)) h.2
theorem Wl.trim {z : Zr} (h : Wl z) : whole_trim_m z.w = some (can 4294967296 (vl z.w)) := by
  rw [trim_eq _ (by have := h.2; omega), trim_can (by decide) h.1]
theorem can_W32 {v : Nat} (h : (can 4294967296 v).length ≤ 100000001) : W32 (can 4294967296 v) := ⟨fun _ hx => can_lt (by decide) hx, by omega⟩
theorem vl_can (v : Nat) : vl (can 4294967296 v) = v := val_can (by decide) v
theorem can_len2 {v : Nat} : ((can 4294967296 v).length : Int) ≤ 2 ↔ v < 18446744073709551616 := by
  have := can_len_iff (B := 4294967296) (by decide) (v := v) (n := 2)
  rw [show (4294967296 : Nat) ^ 2 = 18446744073709551616 by decide] at this
  omega
theorem can_len1 {v : Nat} : ((can 4294967296 v).length : Int) ≤ 1 ↔ v < 4294967296 := by
  have := can_len_iff (B := 4294967296) (by decide) (v := v) (n := 1)
  rw [show (4294967296 : Nat) ^ 1 = 4294967296 by decide] at this
  omega
theorem can_len0 {v : Nat} : (can 4294967296 v).length = 0 ↔ v = 0 := by
  constructor
  · intro h; exact can_nil (by decide) (List.length_eq_zero_iff.1 h)
  · intro h; rw [h, can_zero]; rfl
theorem clone_eq (l : List Nat) (h : l.length ≤ 1000000000000) : slices_Clone_m l = some l := by
  unfold slices_Clone_m; rw [apMl (by decide) (by simp; omega)]; simp
end Go.Proofs.Ytgkafblpckcekaa
