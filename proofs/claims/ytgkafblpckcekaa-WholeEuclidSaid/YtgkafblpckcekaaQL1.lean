/- The laws' own helpers. -/
import Derived.Test.YtgkafblpckcekaaQF2
import Derived.Test.YtgkafblpckcekaaML1
namespace Go.Proofs.Ytgkafblpckcekaa
open Go.Fw

theorem zeta' (z : Zr) : (⟨z.neg, z.w⟩ : Zr) = z := by cases z; rfl
theorem n_eq {i : Int} (h : i64ok i) : law01_n_m i = some (zn i) := by
  unfold law01_n_m
  rw [fromInt_eq h.1 h.2, bsm]
theorem is_eq {i j : Int} {L : Nat} (h : i64ok i) (hj : Fit L j) (hL : L ≤ 100000000) : law01_is_m (zn j) i = some (decide (j = i)) := by
  unfold law01_is_m
  simp only [zeta', from_eq h, bsm]
  obtain ⟨b, h1, h2⟩ := same_eq (x := zn j) (y := zn i) (by have := (wl_zn hj hL).2; omega)
  rw [h1, bsm]
  congr 1
  by_cases e : j = i
  · rw [h2.2 (by rw [e])]; simp [e]
  · have : b ≠ true := fun hb => e (zn_inj (h2.1 hb))
    simp [e, this]
theorem small_fit {i : Int} (h : i64ok i) : Fit 2 i := Fit.i64 h.1 h.2
theorem wl_small {i : Int} (h : i64ok i) : Wl (zn i) := wl_zn (small_fit h) (by decide)
theorem sdiv {i j q r : Int} (hi : i64ok i) (hj : i64ok j) (h0 : j ≠ 0) (hq : i / j = q) (hr : i % j = r) : whole_DivMod_m (zn i) (zn j) = some (zn q, zn r, 0) := by
  rw [divMod_eq (wl_small hi) (wl_small hj), zi_zn, zi_zn, dmOf, if_neg h0, hq, hr]
theorem sgcd {i j g : Int} (hi : i64ok i) (hj : i64ok j) (h : (Int.gcd i j : Int) = g) : whole_GCD_m (zn i) (zn j) = some (zn g) := by
  rw [gcd_eq (wl_small hi) (wl_small hj), zi_zn, zi_zn, h]
theorem can10 (l : List Nat) (x : Nat) (hx : x ≠ 0) (h : ∀ y ∈ l ++ [x], y < 10) (v : Nat) (hv : val 10 (l ++ [x]) = v) : can 10 v = l ++ [x] := by
  rw [← hv]; exact (can_of (by decide) hx h).symm

theorem alive_eq : law01_alive_m = some true := by
  have k : ∀ i : Int, -100 ≤ i → i ≤ 100 → i64ok i := fun i h h' => ⟨by omega, by omega⟩
  have kmin : i64ok (-9223372036854775808) := by decide
  have d1 := sdiv (i := -7) (j := 2) (q := -4) (r := 1) (by decide) (by decide) (by decide) (by decide) (by decide)
  have d2 := sdiv (i := -7) (j := -2) (q := 4) (r := 1) (by decide) (by decide) (by decide) (by decide) (by decide)
  have d3 := sdiv (i := 7) (j := -2) (q := -3) (r := 1) (by decide) (by decide) (by decide) (by decide) (by decide)
  have g1 := sgcd (i := -12) (j := 18) (g := 6) (by decide) (by decide) (by decide)
  have g2 := sgcd (i := 0) (j := -5) (g := 5) (by decide) (by decide) (by decide)
  have p : whole_Parse_m [45, 48] = some (z0, 3) := by
    rw [parse_eq _ (by simp)]
    congr 1
  have f := format_eq (wl_small kmin)
  rw [zi_zn] at f
  have ft : txt (-9223372036854775808) = [45, 57, 50, 50, 51, 51, 55, 50, 48, 51, 54, 56, 53, 52, 55, 55, 53, 56, 48, 56] := by
    rw [txt, if_pos (by decide), show (-9223372036854775808 : Int).natAbs = 9223372036854775808 by decide, txtN, if_neg (by decide), can10 [8, 0, 8, 5, 7, 7, 4, 5, 8, 6, 3, 0, 2, 7, 3, 3, 2, 2] 9 (by decide) (by decide) _ (by decide)]
    decide
  rw [ft] at f
  have is' : ∀ i j : Int, i64ok i → i64ok j → law01_is_m (zn j) i = some (decide (j = i)) := fun i j hi hj => is_eq hi (small_fit hj) (by decide)
  unfold law01_alive_m
  simp only [n_eq (i := -7) (by decide), n_eq (i := 2) (by decide), n_eq (i := -2) (by decide), n_eq (i := 7) (by decide), n_eq (i := -12) (by decide), n_eq (i := 18) (by decide), n_eq (i := 0) (by decide), n_eq (i := -5) (by decide), n_eq kmin, bsm, zeta', letJ, d1, d2, d3, p, g1, g2, f,
    is' (-4) (-4) (by decide) (by decide), is' 1 1 (by decide) (by decide), is' 4 4 (by decide) (by decide), is' (-3) (-3) (by decide) (by decide), is' 6 6 (by decide) (by decide), is' 5 5 (by decide) (by decide)]

  rfl
theorem examples_eq : law01_WholeExamples_m = some true := by
  unfold law01_WholeExamples_m
  rw [alive_eq, bsm]
end Go.Proofs.Ytgkafblpckcekaa
