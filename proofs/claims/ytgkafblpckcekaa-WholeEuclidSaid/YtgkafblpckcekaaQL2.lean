/- The plain law of rings. -/
import Derived.Test.YtgkafblpckcekaaQL1
namespace Go.Proofs.Ytgkafblpckcekaa
open Go.Fw

theorem long_eq (l : List Zr) (hl : l.length ≤ 100) : ∃ b, law01_Long_m l = some b ∧ (b = false → ∀ z ∈ l, z.w.length ≤ 12) := by
  unfold law01_Long_m
  simp only [bsm]
  refine bind_loop_ex (fun y => ∃ i : Nat, y = (i : Int) ∧ i ≤ l.length ∧ ∀ z ∈ l.take i, z.w.length ≤ 12) (fun e => (∃ c, e = .inl c ∧ ∀ z ∈ l, z.w.length ≤ 12) ∨ e = .inr true) (fun y => l.length - y.toNat) ?_ ⟨0, rfl, by omega, by simp⟩ ?_
  · rintro _ ⟨i, rfl, hi, ht⟩
    by_cases hlt : i < l.length
    · have g : l[i]? = some l[i] := by simp
      rw [show decide ((i : Int) < (l.length : Int)) = true by simp [hlt], ctm, geti_nat g, bsm]
      by_cases h12 : l[i].w.length ≤ 12
      · left
        rw [show decide ((12 : Int) < (l[i].w.length : Int)) = false by rw [decide_eq_false_iff_not]; omega, cfm, w64_succ (by omega)]
        refine ⟨_, rfl, ⟨i + 1, rfl, hlt, ?_⟩, by omega⟩
        rw [List.take_add_one, g]
        intro z hz
        rcases List.mem_append.1 hz with h | h
        · exact ht z h
        · simp at h; rw [h]; exact h12
      · right
        rw [show decide ((12 : Int) < (l[i].w.length : Int)) = true by rw [decide_eq_true_eq]; omega, ctm]
        exact ⟨_, rfl, .inr rfl⟩
    · right
      rw [show decide ((i : Int) < (l.length : Int)) = false by simp; omega, cfm]
      rw [List.take_of_length_le (by omega)] at ht
      exact ⟨_, rfl, .inl ⟨_, rfl, ht⟩⟩
  · rintro e (⟨c, rfl, he⟩ | rfl)
    · exact ⟨false, rfl, fun _ => he⟩
    · exact ⟨true, rfl, fun h => by cases h⟩

theorem same_zn {L : Nat} {a : Int} (b : Int) (h : Fit L a) (hL : L ≤ 100000000) : ref01_Same_m (zn a) (zn b) = some (decide (a = b)) := by
  obtain ⟨c, h1, h2⟩ := same_eq (x := zn a) (y := zn b) (by have := (wl_zn h hL).2; omega)
  rw [h1]
  congr 1
  by_cases e : a = b
  · rw [h2.2 (by rw [e])]; simp [e]
  · have : c ≠ true := fun hb => e (zn_inj (h2.1 hb))
    simp [e, this]
theorem canon_zn {L : Nat} {a : Int} (h : Fit L a) (hL : L ≤ 100000000) : whole_IsCanonical_m (zn a) = some true := by
  obtain ⟨b, h1, h2⟩ := canon_eq (wl_zn h hL)
  rw [h1, h2.2 (by rw [zi_zn])]
theorem cmpI_sub (i j : Int) : (i - j).sign = cmpI i j := by
  rcases Int.lt_trichotomy i j with h | h | h
  · rw [cmpI_lt h, Int.sign_eq_neg_one_of_neg (by omega)]
  · rw [h, cmpI_self, Int.sub_self]; rfl
  · rw [cmpI_gt h, Int.sign_eq_one_of_pos (by omega)]
theorem cmpI_flip (i j : Int) : IntKind.i64.wrap (0 - cmpI j i) = cmpI i j := by
  rcases Int.lt_trichotomy i j with h | h | h
  · rw [cmpI_lt h, cmpI_gt h]; rfl
  · rw [h, cmpI_self]; rfl
  · rw [cmpI_gt h, cmpI_lt h]; rfl
theorem cmpI_add (i j k : Int) : cmpI (i + k) (j + k) = cmpI i j := by
  rcases Int.lt_trichotomy i j with h | h | h
  · rw [cmpI_lt h, cmpI_lt (by omega)]
  · rw [h, cmpI_self, cmpI_self]
  · rw [cmpI_gt h, cmpI_gt (by omega)]
theorem abs_sign (i : Int) : (decide (i = (i.natAbs : Int)) == decide (0 ≤ i.sign)) = true := by
  rcases Int.lt_trichotomy i 0 with h | h | h
  · rw [Int.sign_eq_neg_one_of_neg h, show decide (i = (i.natAbs : Int)) = false by rw [decide_eq_false_iff_not]; omega]; rfl
  · subst h; rfl
  · rw [Int.sign_eq_one_of_pos h, show decide (i = (i.natAbs : Int)) = true by rw [decide_eq_true_eq]; omega]; rfl

abbrev OkZ (z : Zr) : Prop := True ∧ (z.w.length ≤ 9223372036854775807 ∧ ∀ x ∈ z.w, x < 4294967296)
theorem wl_of {z : Zr} (h : OkZ z) (h' : z.w.length ≤ 12) : Wl z ∧ Fit 12 (zi z) := by
  have w : Wl z := ⟨h.2.2, by omega⟩
  exact ⟨w, (Wl.fit w).mono h'⟩

theorem ring_eq (x y z : Zr) (ox : OkZ x) (oy : OkZ y) (oz : OkZ z) : law01_WholeRing_m x y z = some true := by
  unfold law01_WholeRing_m
  simp only [zeta']
  obtain ⟨b, hb, hs⟩ := long_eq [x, y, z] (by simp)
  rw [hb, bsm]
  cases b
  · have hs := hs rfl
    obtain ⟨hx, fx⟩ := wl_of ox (hs x (by simp))
    obtain ⟨hy, fy⟩ := wl_of oy (hs y (by simp))
    obtain ⟨hz, fz⟩ := wl_of oz (hs z (by simp))
    have W : ∀ {L : Nat} {a : Int}, L ≤ 100 → Fit L a → Wl (zn a) := fun hL h => wl_zn h (by omega)
    have ws := W (by decide) (fx.sub fy)
    have wa := W (by decide) (fx.add fy)
    have wb := W (by decide) (fy.add fz)
    have wm := W (by decide) (fx.mul fy)
    have wn := W (by decide) (fy.mul fz)
    have wxz := W (by decide) (fx.add fz)
    have wmz := W (by decide) (fx.mul fz)
    simp only [cfm, bsm, letJ, add_eq hx hy, add_eq hy hz, mul_eq hx hy, mul_eq hy hz, sub_eq hx hy, add_eq hy hx, mul_eq hy hx, add_eq wa hz, add_eq hx wb, mul_eq wm hz, mul_eq hx wn, mul_eq hx wb, mul_eq hx hz, add_eq wm wmz, add_eq hx hz, cmp_eq hx hy, cmp_eq hy hx, cmp_eq wxz wb, sign_eq ws, sign_eq hx, abs_eq hx, add_eq ws hy, zi_zn,
      same_zn _ (fx.add fy) (by decide), same_zn _ (fx.mul fy) (by decide), same_zn _ ((fx.add fy).add (fz.mono (by decide))) (by decide), same_zn _ ((fx.mul fy).mul fz) (by decide), same_zn _ (fx.mul (fy.add fz)) (by decide), same_zn _ ((fx.sub fy).add (fy.mono (by decide))) (by decide),
      canon_zn (fx.sub fy) (by decide), canon_zn (fx.mul fy) (by decide), alive_eq]
    simp only [Int.add_comm (zi y) (zi x), Int.mul_comm (zi y) (zi x), Int.add_assoc, Int.mul_assoc, Int.mul_add, decide_true, Bool.not_true, cfm, bsm, ctm, cmpI_sub, cmpI_flip, cmpI_add, Int.sub_add_cancel, abs_sign]
  · rw [ctm, alive_eq, bsm]
end Go.Proofs.Ytgkafblpckcekaa
