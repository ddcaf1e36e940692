/- The plain law of Euclid. -/
import Derived.Test.YtgkafblpckcekaaQL2
namespace Go.Proofs.Ytgkafblpckcekaa
open Go.Fw

theorem Fit.div {L : Nat} {i : Int} (h : Fit L i) (j : Int) : Fit L (i / j) := h.le (Int.natAbs_ediv_le_natAbs i j)
theorem Fit.mod {L : Nat} {j : Int} (i : Int) (h : Fit L j) (h0 : j ≠ 0) : Fit L (i % j) := by
  have h1 := Int.emod_nonneg i h0
  have h2 := Int.emod_lt i h0
  exact h.le (by omega)
theorem Fit.gcd {L : Nat} {i j : Int} (h : Fit L i) (h' : Fit L j) : Fit L (Int.gcd i j : Int) := by
  by_cases h0 : i = 0
  · subst h0; rw [Int.gcd_zero_left]; exact h'.le (by simp)
  · have : Int.gcd i j ∣ i.natAbs := Nat.gcd_dvd_left _ _
    exact h.le (by have := Nat.le_of_dvd (by omega) this; simpa using this)
theorem Fit.abs {L : Nat} {i : Int} (h : Fit L i) : Fit L (i.natAbs : Int) := h.le (by simp)
theorem z0_zn : z0 = zn 0 := rfl

theorem divides_eq {x y : Zr} (hx : Wl x) (hy : Wl y) (hd : Fit x.w.length (zi x)) : law01_divides_m x y = some (decide (zi x ∣ zi y)) := by
  unfold law01_divides_m
  simp only [zeta', letJ, bsm, sign_eq hx, sign_eq hy, divMod_eq hy hx]
  by_cases h0 : zi x = 0
  · rw [h0, show decide (Int.sign 0 = 0) = true by decide, ctm]
    congr 1
    by_cases h1 : zi y = 0
    · rw [h1]; decide
    · have h2 : ¬ (zi y).sign = 0 := fun h => h1 (Int.sign_eq_zero_iff_zero.1 h)
      have h3 : ¬ ((0 : Int) ∣ zi y) := fun h => h1 (Int.zero_dvd.1 h)
      simp [h2, h3]
  · have h2 : ¬ (zi x).sign = 0 := fun h => h0 (Int.sign_eq_zero_iff_zero.1 h)
    have wr : Wl (zn (zi y % zi x)) := wl_zn (Fit.mod (zi y) hd h0) hx.2
    rw [show decide ((zi x).sign = 0) = false by simp [h2], cfm, dmOf, if_neg h0]
    simp only [decide_true, ctm, sign_eq wr, bsm, zi_zn]
    congr 1
    by_cases h3 : zi x ∣ zi y
    · rw [Int.emod_eq_zero_of_dvd h3]; simp [h3]
    · have h4 : ¬ (zi y % zi x).sign = 0 := fun h => h3 (Int.dvd_of_emod_eq_zero (Int.sign_eq_zero_iff_zero.1 h))
      simp [h3, h4]
theorem divides_zn {L : Nat} {a : Int} {y : Zr} (h : Fit L a) (hL : L ≤ 100000000) (hy : Wl y) : law01_divides_m (zn a) y = some (decide (a ∣ zi y)) := by
  have w := wl_zn h hL
  rw [divides_eq w hy (Wl.fit w), zi_zn]

theorem bid {α : Type} (x : Option α) : (x.bind fun a => some a) = x := by cases x <;> rfl
theorem dmOf_zero {i j : Int} (h : j = 0) : dmOf i j = (⟨false, []⟩, ⟨false, []⟩, 7) := if_pos h
theorem dmOf_ne {i j : Int} (h : ¬ j = 0) : dmOf i j = (zn (i / j), zn (i % j), 0) := if_neg h
theorem euclid_eq (x y z : Zr) (ox : OkZ x) (oy : OkZ y) (oz : OkZ z) : law01_WholeEuclid_m x y z = some true := by
  unfold law01_WholeEuclid_m
  simp only [zeta']
  obtain ⟨b, hb, hs⟩ := long_eq [x, y, z] (by simp)
  rw [hb, bsm]
  cases b
  · have hs := hs rfl
    obtain ⟨hx, fx⟩ := wl_of ox (hs x (by simp))
    obtain ⟨hy, fy⟩ := wl_of oy (hs y (by simp))
    obtain ⟨hz, fz⟩ := wl_of oz (hs z (by simp))
    have W : ∀ {L : Nat} {a : Int}, L ≤ 100 → Fit L a → Wl (zn a) := fun hL h => wl_zn h (by omega)
    have wg := W (by decide) (fx.gcd fy)
    have wxz := W (by decide) (fx.mul fz)
    have wyz := W (by decide) (fy.mul fz)
    have waz := W (by decide) fz.abs
    have way := W (by decide) fy.abs
    have hsg : decide ((Int.gcd (zi x) (zi y) : Int).sign < 0) = false := by
      rw [decide_eq_false_iff_not]
      rcases Nat.eq_zero_or_pos (Int.gcd (zi x) (zi y)) with h | h
      · rw [h]; decide
      · rw [Int.sign_eq_one_of_pos (by omega)]; decide
    have hd1 : ((Int.gcd (zi x) (zi y) : Nat) : Int) ∣ zi x := Int.gcd_dvd_left ..
    have hd2 : ((Int.gcd (zi x) (zi y) : Nat) : Int) ∣ zi y := Int.gcd_dvd_right ..
    have hlast : ((bif decide (zi z ∣ zi x) then some (decide (zi z ∣ zi y)) else some false : Option Bool).bind fun c98_54 => bif c98_54 then (some (!decide (zi z ∣ ((Int.gcd (zi x) (zi y) : Nat) : Int))) : Option Bool) else some false) = some false := by
      by_cases h1 : zi z ∣ zi x
      · by_cases h2 : zi z ∣ zi y
        · have h3 : zi z ∣ ((Int.gcd (zi x) (zi y) : Nat) : Int) := Int.dvd_coe_gcd h1 h2
          simp [h1, h2, h3]
        · simp [h1, h2]
      · simp [h1]
    have e1 : Int.gcd (zi x * zi z) (zi y * zi z) = Int.gcd (zi x) (zi y) * (zi z).natAbs := Int.gcd_mul_right ..
    have e2 : Int.gcd (zi y) (zi x) = Int.gcd (zi x) (zi y) := Int.gcd_comm ..
    simp only [cfm, bsm, letJ, divMod_eq hx hy, sign_eq hy, gcd_eq hx hy, gcd_eq hy hx, mul_eq hx hz, mul_eq hy hz, gcd_eq wxz wyz, abs_eq hz, abs_eq hy, mul_eq wg waz, sign_eq wg, divides_zn (fx.gcd fy) (by decide) hx, divides_zn (fx.gcd fy) (by decide) hy, divides_eq hz hx (Wl.fit hz), divides_eq hz hy (Wl.fit hz), divides_eq hz wg (Wl.fit hz), zi_zn, same_zn _ ((fx.mul fz).gcd (fy.mul fz)) (by decide), same_zn _ (fy.gcd fx) (by decide), alive_eq]
    simp only [hd1, hd2, hsg, e1, e2, Int.natCast_mul, decide_true, Bool.not_true, cfm, ctm, bsm]
    by_cases h0 : zi y = 0
    · have w0 : Wl ⟨false, []⟩ := wl_zn (i := 0) (L := 1) (by unfold Fit; decide) (by decide)
      have s0 : (zi ⟨false, []⟩).sign = 0 := rfl
      have sy : (zi y).sign = 0 := by rw [h0]; rfl
      simp only [dmOf_zero h0, sign_eq w0, s0, sy, bsm, bid, hlast, show decide ((7 : Int) = 0) = false by decide, show decide ((0 : Int) ≠ 0) = false by decide, show decide ((7 : Int) ≠ 0) = true by decide, show decide ((7 : Int) ≠ 7) = false by decide, cfm, ctm]
      rfl
    · have hr0 := Int.emod_nonneg (zi x) h0
      have hr1 := Int.emod_lt (zi x) h0
      have wq := W (by decide) (fx.div (zi y))
      have wr := W (by decide) (fy.mod (zi x) h0)
      have wp := W (by decide) ((fx.div (zi y)).mul fy)
      have wv := W (by decide) (((fx.div (zi y)).mul fy).add ((fy.mod (zi x) h0).mono (by decide)))
      have sy : decide ((zi y).sign ≠ 0) = true := by rw [decide_eq_true_eq]; exact fun h => h0 (Int.sign_eq_zero_iff_zero.1 h)
      have c1 : cmpI (zi x / zi y * zi y + zi x % zi y) (zi x) = 0 := by rw [Int.mul_comm, Int.mul_ediv_add_emod, cmpI_self]
      have c2 : decide ((zi x % zi y).sign < 0) = false := by
        rw [decide_eq_false_iff_not]
        rcases Int.lt_or_eq_of_le hr0 with h | h
        · rw [Int.sign_eq_one_of_pos h]; decide
        · rw [← h]; decide
      have c3 : cmpI (zi x % zi y) ((zi y).natAbs : Int) = -1 := cmpI_lt hr1
      simp only [dmOf_ne h0, mul_eq wq hy, add_eq wp wr, cmp_eq wv hx, sign_eq wr, cmp_eq wr way, zi_zn, bsm, decide_true, ctm, cfm, bid, hlast, sy, c1, c2, c3, show decide ((0 : Int) ≠ 0) = false by decide, show decide ((0 : Int) ≤ -1) = false by decide]
      rfl
  · rw [ctm, alive_eq, bsm]
end Go.Proofs.Ytgkafblpckcekaa
