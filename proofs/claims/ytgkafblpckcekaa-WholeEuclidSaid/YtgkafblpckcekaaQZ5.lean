/- Integers: quotients, the greatest common divisor, the canonical form. -/
import Derived.Test.YtgkafblpckcekaaQZ4
namespace Go.Proofs.Ytgkafblpckcekaa
open Go.Fw

theorem sv_div (n m : Bool) {a b : Nat} (hb : 0 < b) :
    sv n a / sv m b = (if n = true ∧ 0 < a % b then sv (!(n == m)) (a / b + 1) else sv (!(n == m)) (a / b)) ∧
    sv n a % sv m b = (if n = true ∧ 0 < a % b then ((b - a % b : Nat) : Int) else ((a % b : Nat) : Int)) := by
  have hd := Nat.div_add_mod a b
  have hm := Nat.mod_lt a hb
  revert hd hm
  generalize a / b = q
  generalize a % b = r
  intro hd hm
  have hd' : (b : Int) * q + r = a := by exact_mod_cast hd
  -- by the positive divisor
  have pos : ∀ n, sv n a / (b : Int) = (if n = true ∧ 0 < r then sv n (q + 1) else sv n q) ∧ sv n a % (b : Int) = (if n = true ∧ 0 < r then ((b - r : Nat) : Int) else (r : Int)) := by
    intro n
    apply (Int.ediv_emod_unique (by omega)).2
    cases n
    · simp [sv]; omega
    · by_cases hr : 0 < r
      · simp only [hr, and_self, if_true, sv, cond_true]
        have : (b : Int) * -((q + 1 : Nat) : Int) = -((b : Int) * q) - b := by
          rw [Int.mul_neg, Int.natCast_add, Int.mul_add]; simp; omega
        rw [this]; omega
      · have : r = 0 := by omega
        subst this
        simp [sv, Int.mul_neg]; omega
  cases m
  · have := pos n
    rw [sv_false, show (!(n == false)) = n by cases n <;> rfl]
    exact this
  · have := pos n
    rw [show sv true b = -(b : Int) from rfl, Int.ediv_neg, Int.emod_neg, this.1, this.2, show (!(n == true)) = !n by cases n <;> rfl, sv_not, sv_not]
    refine ⟨?_, rfl⟩
    split <;> rfl

theorem canSub {a b : Nat} (hba : b ≤ a) (hcl : (can 4294967296 a).length ≤ 100000000) : whole_subWords_m (can 4294967296 a) (can 4294967296 b) = some (dig 4294967296 (can 4294967296 a).length (a - b)) ∧ vl (dig 4294967296 (can 4294967296 a).length (a - b)) = a - b := by
  have lc := lt_can_len (B := 4294967296) (by decide) a
  have hdl : (can 4294967296 b).length ≤ (can 4294967296 a).length := (can_len_iff (by decide)).2 (by omega)
  constructor
  · rw [subWords_eq _ _ (can_W32 (by omega)) (can_W32 (by omega)) hdl (by rw [vl_can, vl_can]; exact hba), vl_can, vl_can]
  · show val _ _ = _
    rw [val_dig, Nat.mod_eq_of_lt (by omega)]

def dmOf (i j : Int) : Zr × Zr × Int := if j = 0 then (⟨false, []⟩, ⟨false, []⟩, 7) else (zn (i / j), zn (i % j), 0)
theorem divMod_eq {x y : Zr} (hx : Wl x) (hy : Wl y) : whole_DivMod_m x y = some (dmOf (zi x) (zi y)) := by
  obtain ⟨n, w⟩ := x
  obtain ⟨m, u⟩ := y
  unfold whole_DivMod_m
  have hcx : (can 4294967296 (vl w)).length ≤ 100000000 := hx.cl
  have hcy : (can 4294967296 (vl u)).length ≤ 100000000 := hy.cl
  simp only []
  rw [show whole_trim_m w = some (can 4294967296 (vl w)) from hx.trim, show whole_trim_m u = some (can 4294967296 (vl u)) from hy.trim, bsm, bsm, show zi ⟨n, w⟩ = sv n (vl w) from rfl, show zi ⟨m, u⟩ = sv m (vl u) from rfl]
  simp only [bsm, letJ]
  generalize vl w = a at *
  generalize vl u = b at *
  by_cases h0 : b = 0
  · subst h0
    rw [show sv m 0 = 0 by cases m <;> rfl]; rfl
  · have hlen0 : (can 4294967296 b).length ≠ 0 := fun h => h0 (can_len0.1 h)
    rw [show decide (((can 4294967296 b).length : Int) = 0) = false by simp; intro e; rw [e] at hlen0; exact hlen0 rfl, cfm]
    obtain ⟨q, r, hqr, hq1, hq2, hr1, hr2, hq3, hr3⟩ := divWords_eq a b hcx hcy h0
    have hm : a % b < b := Nat.mod_lt _ (by omega)
    obtain ⟨e1, e2⟩ := sv_div n m (a := a) (show 0 < b by omega)
    have hj : sv m b ≠ 0 := by cases m <;> simp [sv] <;> omega
    rw [hqr, bsm]
    simp only []
    rw [trim_eq r (by have := hr1.2; omega), trim_can (by decide) hr1.1, show val 4294967296 r = a % b from hr2, bsm, dmOf, if_neg hj, e1, e2]
    have hrl : (can 4294967296 (a % b)).length ≤ (can 4294967296 b).length := (can_len_iff (by decide)).2 (Nat.lt_trans hm (lt_can_len (by decide) b))
    have hK : ∀ c : Bool, (decide (n = true ∧ 0 < a % b) = c) → (bif c then (whole_addWords_m q [1]).bind fun x39 => (whole_subWords_m (can 4294967296 b) (can 4294967296 (a % b))).bind fun x42 => (whole_build_m (!(n == m)) x39).bind fun x => (whole_build_m false x42).bind fun x_1 => some ((⟨x.neg, x.w⟩ : Zr), (⟨x_1.neg, x_1.w⟩ : Zr), (0 : Int))
        else (whole_build_m (!(n == m)) q).bind fun x => (whole_build_m false (can 4294967296 (a % b))).bind fun x_1 => some ((⟨x.neg, x.w⟩ : Zr), (⟨x_1.neg, x_1.w⟩ : Zr), (0 : Int))) =
        some (zn (if n = true ∧ 0 < a % b then sv (!(n == m)) (a / b + 1) else sv (!(n == m)) (a / b)), zn (if n = true ∧ 0 < a % b then ((b - a % b : Nat) : Int) else ((a % b : Nat) : Int)), 0) := by
      intro c hc
      cases c
      · have hc' := of_decide_eq_false hc
        rw [cfm, if_neg hc', if_neg hc', build_eq _ _ hq1, bsm, build_eq _ _ (can_W32 (by omega)), bsm, vl_can, hq2, zc_zn, zc_zn, sv_false]
      · have hc' := of_decide_eq_true hc
        obtain ⟨s1, s2⟩ := canSub (a := b) (b := a % b) (by omega) hcy
        have w1 : W32 [1] := ⟨by simp, by simp⟩
        rw [ctm, if_pos hc', if_pos hc', addWords_eq _ _ hq1 w1, bsm, s1, bsm, build_eq _ _ ⟨fun x hx => dig_lt (by decide) _ _ _ hx, by rw [dig_len]; simp; omega⟩, bsm, build_eq _ _ ⟨fun x hx => dig_lt (by decide) _ _ _ hx, by rw [dig_len]; omega⟩, bsm, s2, zc_zn, zc_zn, sv_false]
        have : vl (dig 4294967296 (max q.length [1].length + 1) (vl q + vl [1])) = a / b + 1 := by
          show val _ _ = _
          rw [val_dig, show vl [1] = 1 by decide, hq2, Nat.mod_eq_of_lt]
          have h1 : vl q < 4294967296 ^ q.length := val_lt q hq1.1
          rw [hq2] at h1
          have h2 : 4294967296 ^ q.length ≤ 4294967296 ^ (max q.length [1].length) := Nat.pow_le_pow_right (by decide) (by omega)
          have h3 : 0 < 4294967296 ^ (max q.length [1].length) := Nat.pow_pos (by decide)
          rw [Nat.pow_succ]; omega
        rw [this]
    have hz : (0 < (can 4294967296 (a % b)).length) ↔ 0 < a % b := by
      have := can_len0 (v := a % b); omega
    cases n
    · rw [cfm, bsm]
      exact hK false (by simp)
    · rw [ctm, bsm]
      refine hK _ ?_
      simp only [true_and]
      by_cases h : 0 < a % b
      · simp [h, hz.2 h]
      · have h' : ¬ 0 < (can 4294967296 (a % b)).length := fun e => h (hz.1 e)
        have h'' : ¬ ((0 : Int) < ((can 4294967296 (a % b)).length : Int)) := by omega
        simp only [h, h'', decide_false]

theorem gcd_eq {x y : Zr} (hx : Wl x) (hy : Wl y) : whole_GCD_m x y = some (zn (Int.gcd (zi x) (zi y) : Int)) := by
  obtain ⟨n, w⟩ := x
  obtain ⟨m, u⟩ := y
  unfold whole_GCD_m
  have hcx : (can 4294967296 (vl w)).length ≤ 100000000 := hx.cl
  have hcy : (can 4294967296 (vl u)).length ≤ 100000000 := hy.cl
  simp only []
  rw [show whole_trim_m w = some (can 4294967296 (vl w)) from hx.trim, show whole_trim_m u = some (can 4294967296 (vl u)) from hy.trim, bsm, bsm, Int.gcd, zi_abs, zi_abs]
  show _ = some (zn ((Nat.gcd (vl w) (vl u) : Nat) : Int))
  generalize vl w = a at *
  generalize vl u = b at *
  refine bind_loop (fun s => ∃ c d, s = (can 4294967296 c, can 4294967296 d) ∧ Nat.gcd c d = Nat.gcd a b ∧ (can 4294967296 c).length ≤ 100000000 ∧ (can 4294967296 d).length ≤ 100000000)
    (fun s => ∃ c d, s = (can 4294967296 c, can 4294967296 d) ∧ Nat.gcd c d = Nat.gcd a b ∧ (can 4294967296 c).length ≤ 100000000 ∧ (d = 0 ∨ (c < 18446744073709551616 ∧ d < 18446744073709551616))) (fun s => vl s.2) ?_ ⟨a, b, rfl, rfl, hcx, hcy⟩ ?_
  · rintro _ ⟨c, d, rfl, hg, hc, hd⟩
    simp only [bsm, letJ]
    by_cases h0 : d = 0
    · right
      subst h0
      exact ⟨_, rfl, c, 0, rfl, hg, hc, .inl rfl⟩
    · have hlen0 : (can 4294967296 d).length ≠ 0 := fun h => h0 (can_len0.1 h)
      rw [show decide ((0 : Int) < ((can 4294967296 d).length : Int)) = true by simp; omega, ctm]
      by_cases h2 : c < 18446744073709551616 ∧ d < 18446744073709551616
      · right
        have c1 := can_len2.2 h2.1
        have c2 := can_len2.2 h2.2
        rw [show decide ((2 : Int) < ((can 4294967296 c).length : Int)) = false by simp; omega, cfm, show decide ((2 : Int) < ((can 4294967296 d).length : Int)) = false by simp; omega]
        exact ⟨_, rfl, c, d, rfl, hg, hc, .inr h2⟩
      · left
        have hm : c % d < d := Nat.mod_lt _ (by omega)
        obtain ⟨q, r, hqr, hq1, hq2, hr1, hr2, -, -⟩ := divWords_eq c d hc hd h0
        have hcond : ((bif decide ((2 : Int) < ((can 4294967296 c).length : Int)) then some true else some (decide ((2 : Int) < ((can 4294967296 d).length : Int)))) : Option Bool) = some true := by
          by_cases hc2 : c < 18446744073709551616
          · have hd2 : ¬ d < 18446744073709551616 := fun h => h2 ⟨hc2, h⟩
            have : ¬ (((can 4294967296 d).length : Int) ≤ 2) := fun h => hd2 (can_len2.1 h)
            rw [show decide ((2 : Int) < ((can 4294967296 d).length : Int)) = true by simp; omega]
            exact bif_same _ _
          · have : ¬ (((can 4294967296 c).length : Int) ≤ 2) := fun h => hc2 (can_len2.1 h)
            rw [show decide ((2 : Int) < ((can 4294967296 c).length : Int)) = true by simp; omega, ctm]
        rw [hcond, bsm, bsm, ctm, hqr, bsm]
        simp only []
        rw [trim_eq r (by have := hr1.2; omega), trim_can (by decide) hr1.1, show val 4294967296 r = c % d from hr2, bsm]
        refine ⟨_, rfl, ⟨d, c % d, rfl, ?_, hd, ?_⟩, ?_⟩
        · rw [← hg, Nat.gcd_comm d, ← Nat.gcd_rec, Nat.gcd_comm]
        · exact Nat.le_trans ((can_len_iff (by decide)).2 (Nat.lt_trans hm (lt_can_len (by decide) d))) hd
        · simp only [vl_can]; exact hm
  · rintro _ ⟨c, d, rfl, hg, hc, hcase⟩
    simp only [bsm]
    by_cases h0 : d = 0
    · subst h0
      rw [show decide (((can 4294967296 0).length : Int) = 0) = true by simp [can_zero], ctm, clone_eq _ (by omega), bsm, build_eq _ _ (can_W32 (by omega)), bsm, vl_can, zc_zn, sv_false, ← hg, Nat.gcd_zero_right]
    · have h2 := hcase.resolve_left h0
      have hlen0 : (can 4294967296 d).length ≠ 0 := fun h => h0 (can_len0.1 h)
      have c1 := can_len2.2 h2.1
      have c2 := can_len2.2 h2.2
      rw [show decide (((can 4294967296 d).length : Int) = 0) = false by simp; intro e; rw [e] at hlen0; exact hlen0 rfl, cfm, low_eq _ (fun _ hx => can_lt (by decide) hx) (by omega), bsm, low_eq _ (fun _ hx => can_lt (by decide) hx) (by omega), bsm, vl_can, vl_can]
      refine bind_loop (fun s => Nat.gcd s.1 s.2 = Nat.gcd a b ∧ s.1 < 18446744073709551616 ∧ s.2 < 18446744073709551616) (fun e => e = Nat.gcd a b ∧ e < 18446744073709551616) (fun s => s.2) ?_ ⟨hg, h2.1, h2.2⟩ ?_
      · rintro ⟨s, t⟩ ⟨i1, i2, i3⟩
        simp only at i1 i2 i3 ⊢
        by_cases ht : 0 < t
        · left
          rw [show decide (0 < t) = true by simp [ht], ctm, urem_of (by omega), bsm]
          refine ⟨_, rfl, ⟨?_, i3, ?_⟩, Nat.mod_lt _ ht⟩
          · rw [← i1, Nat.gcd_comm t, ← Nat.gcd_rec, Nat.gcd_comm]
          · exact Nat.lt_trans (Nat.mod_lt _ ht) i3
        · right
          rw [show decide (0 < t) = false by simp [ht], cfm]
          refine ⟨_, rfl, ?_, i2⟩
          rw [← i1, show t = 0 by omega, Nat.gcd_zero_right]
      · rintro e ⟨rfl, he⟩
        rw [small_eq _ _ he, bsm, zc_zn, sv_false]

theorem canon_eq {x : Zr} (hx : Wl x) : ∃ b, whole_IsCanonical_m x = some b ∧ (b = true ↔ zn (zi x) = x) := by
  obtain ⟨n, w⟩ := x
  unfold whole_IsCanonical_m
  simp only [bsm]
  have hz : zn (zi ⟨n, w⟩) = ⟨n && vl w != 0, can 4294967296 (vl w)⟩ := by rw [show zi ⟨n, w⟩ = sv n (vl w) from rfl, ← zc_zn]; rfl
  have hl : w.length ≤ 100000000 := hx.2
  have hlt : ∀ x ∈ w, x < 4294967296 := hx.1
  rw [hz]
  rcases List.eq_nil_or_concat w with h | ⟨l, t, h⟩
  · subst h
    refine ⟨!n, rfl, ?_⟩
    cases n <;> simp [vl, val, can_zero]
  · rw [List.concat_eq_append] at h
    subst h
    have e1 : decide (((l ++ [t]).length : Int) = 0) = false := by simp; omega
    rw [e1, cfm, show (((l ++ [t]).length : Nat) : Int) - 1 = (l.length : Int) by simp, w64_nat (by simp at hl; omega), geti_nat (a := t) (by simp), bsm]
    refine ⟨_, rfl, ?_⟩
    by_cases ht : t = 0
    · subst ht
      simp only [ne_eq, not_true_eq_false, decide_false, Bool.false_eq_true, false_iff]
      intro e
      have e' : can 4294967296 (vl (l ++ [0])) = l ++ [0] := congrArg Zr.w e
      have := trim_can (B := 4294967296) (by decide) hlt
      rw [trimW_zero] at this
      have h1 := trimW_len l
      rw [this, show val 4294967296 (l ++ [0]) = vl (l ++ [0]) from rfl, e'] at h1
      simp at h1
      omega
    · have h1 := can_of (B := 4294967296) (by decide) ht hlt
      have h2 : vl (l ++ [t]) ≠ 0 := by
        intro e
        rw [show val 4294967296 (l ++ [t]) = 0 from e, can_zero] at h1
        simp at h1
      have h3 : can 4294967296 (vl (l ++ [t])) = l ++ [t] := h1.symm
      simp [ht, h2, h3]
end Go.Proofs.Ytgkafblpckcekaa
