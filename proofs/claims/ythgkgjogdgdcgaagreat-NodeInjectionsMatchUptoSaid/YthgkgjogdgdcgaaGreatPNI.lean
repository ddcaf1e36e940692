/- The law NodeInjectionsMatch answers true for every input, up to the size that the statement names. -/
import Derived.Test.YthgkgjogdgdcgaaGreatPNI5
set_option linter.unusedVariables false
set_option linter.unusedSimpArgs false
namespace Go.Proofs.YthgkgjogdgdcgaaGreat
open Go.Fw
theorem zetaQ (q : Qr) : (⟨⟨q.num.neg, q.num.w⟩, ⟨q.den.neg, q.den.w⟩⟩ : Qr) = q := by cases q; rfl
theorem zetaP (q : Qr) : (⟨q.num, q.den⟩ : Qr) = q := by cases q; rfl
theorem parts_eq {L : Nat} {q : Qr} {r : Rat} (h : Rep L q r) (hL : L ≤ 10000000000) : ∃ n d : Zr, frac_parts_m q = some (n, d) ∧ Wl n ∧ Wl d ∧ 0 < zi d ∧ Rat.divInt (zi n) (zi d) = r ∧ Fit L (zi n) ∧ Fit L (zi d) := by
  have wn := h.wn hL
  have wd := h.wd hL
  have hv := h.v
  unfold frac_parts_m
  simp only [zeta', bsm, sign_eq wd, fromInt_eq (x := 1) (by decide) (by decide), neg_eq wn, neg_eq wd]
  unfold qv qd at hv
  rcases Int.lt_trichotomy (zi q.den) 0 with h1 | h1 | h1
  · refine ⟨_, _, ?_, wl_zn h.fn.neg hL, wl_zn h.fd.neg hL, by rw [zi_zn]; omega, ?_, by rw [zi_zn]; exact h.fn.neg, by rw [zi_zn]; exact h.fd.neg⟩
    · rw [Int.sign_eq_neg_one_of_neg h1]; rfl
    · rw [zi_zn, zi_zn, Rat.neg_divInt_neg, ← hv, if_neg (by omega)]
  · refine ⟨_, _, ?_, wn, wl_zn (fit_one h.l1) hL, by rw [zi_zn]; decide, ?_, h.fn, by rw [zi_zn]; exact fit_one h.l1⟩
    · rw [h1]; rfl
    · rw [zi_zn, ← hv, if_pos h1]
  · refine ⟨_, _, ?_, wn, wd, h1, ?_, h.fn, h.fd⟩
    · rw [Int.sign_eq_one_of_pos h1]; rfl
    · rw [← hv, if_neg (by omega)]
def Sm (a : Int) : Prop := -2147483648 < a ∧ a < 2147483648
theorem Sm.ok {a : Int} (h : Sm a) : i64ok a := by unfold Sm at h; unfold i64ok; omega
theorem short_eq {L : Nat} {q : Qr} {r : Rat} (h : Rep L q r) (hL : L ≤ 10000000000) : ∃ a b c, frac_short_m q = some (a, b, c) ∧ (c = true → Sm a ∧ 0 < b ∧ Sm b ∧ Rat.divInt a b = r) := by
  have wn := h.wn hL
  have wd := h.wd hL
  have hv := h.v
  unfold frac_short_m
  simp only [zeta', bsm, letJ, int64_eq wn, int64_eq wd]
  unfold qv qd at hv
  generalize zi q.num = n at *
  generalize zi q.den = d at *
  by_cases hs : Sm n ∧ Sm d
  · obtain ⟨h1, h2⟩ := hs
    rw [i64of_ok h1.ok, i64of_ok h2.ok]
    unfold Sm at h1 h2
    simp only []
    rw [decide_eq_false (show ¬ n ≤ -2147483648 by omega), decide_eq_false (show ¬ 2147483648 ≤ n by omega), decide_eq_false (show ¬ d ≤ -2147483648 by omega), decide_eq_false (show ¬ 2147483648 ≤ d by omega)]
    simp only [Bool.not_true, cfm, bsm]
    by_cases h0 : d = 0
    · rw [decide_eq_true h0, ctm]
      refine ⟨_, _, _, rfl, fun _ => ⟨h1, by decide, ⟨by decide, by decide⟩, ?_⟩⟩
      rw [← hv, if_pos h0]
    · rw [decide_eq_false h0, cfm]
      rw [if_neg h0] at hv
      by_cases hneg : d < 0
      · rw [decide_eq_true hneg, ctm, w64_id (by omega) (by omega), w64_id (by omega) (by omega)]
        refine ⟨_, _, _, rfl, fun _ => ⟨⟨by omega, by omega⟩, by omega, ⟨by omega, by omega⟩, ?_⟩⟩
        rw [Int.zero_sub, Int.zero_sub, Rat.neg_divInt_neg, hv]
      · rw [decide_eq_false hneg, cfm]
        exact ⟨_, _, _, rfl, fun _ => ⟨h1, by omega, h2, hv⟩⟩
  · refine ⟨0, 0, false, ?_, fun e => by cases e⟩
    by_cases o1 : i64ok n
    · by_cases o2 : i64ok d
      · rw [i64of_ok o1, i64of_ok o2]
        simp only [Bool.not_true, cfm, bsm]
        unfold Sm at hs
        by_cases c1 : n ≤ -2147483648
        · rw [decide_eq_true c1]; simp only [bsm, ctm]
        · rw [decide_eq_false c1]; simp only [bsm, cfm]
          by_cases c2 : 2147483648 ≤ n
          · rw [decide_eq_true c2]; simp only [bsm, ctm]
          · rw [decide_eq_false c2]; simp only [bsm, cfm]
            by_cases c3 : d ≤ -2147483648
            · rw [decide_eq_true c3]; simp only [bsm, ctm]
            · rw [decide_eq_false c3]; simp only [bsm, cfm]
              rw [decide_eq_true (show 2147483648 ≤ d by omega)]; simp only [ctm]
      · rw [i64of_ok o1, i64of_no o2]; simp only [Bool.not_true, Bool.not_false, cfm, bsm, ctm]
    · rw [i64of_no o1]; simp only [Bool.not_false, bsm, ctm]
theorem tdiv_dvd {a g : Int} (hg : 0 < g) (h : g ∣ a) : Int.tdiv a g = a / g := by
  obtain ⟨k, rfl⟩ := h
  rw [Int.mul_tdiv_cancel_left _ (by omega), Int.mul_ediv_cancel_left _ (by omega)]
theorem ratio_eq {n d : Int} (hd : 0 < d) (hd' : d ≤ 9223372036854775807) (hn : -9223372036854775807 ≤ n) (hn' : n ≤ 9223372036854775807) : frac_ratio_m n d = some (qn (Rat.divInt n d)) := by
  unfold frac_ratio_m
  simp only [bsm, letJ]
  refine bind_loop (fun s => Int.gcd s.1 s.2 = Int.gcd n d ∧ s.1.natAbs ≤ 9223372036854775807 ∧ s.2.natAbs ≤ 9223372036854775807) (fun e => e.natAbs = Int.gcd n d ∧ e.natAbs ≤ 9223372036854775807) (fun s => s.2.natAbs) ?_ ⟨rfl, by simp only []; omega, by simp only []; omega⟩ ?_
  · rintro ⟨a, b⟩ ⟨i1, i2, i3⟩
    simp only at i1 i2 i3 ⊢
    by_cases hb : b = 0
    · right
      subst hb
      refine ⟨a, by simp, ?_, i2⟩
      rw [← i1]; simp [Int.gcd]
    · left
      rw [decide_eq_true hb, ctm, irem, if_neg hb, bsm]
      have hm : (Int.tmod a b).natAbs = a.natAbs % b.natAbs := Int.natAbs_tmod a b
      have hlt := Nat.mod_lt a.natAbs (Int.natAbs_pos.2 hb)
      refine ⟨_, rfl, ⟨?_, i3, by simp only []; omega⟩, by simp only []; omega⟩
      simp only []
      rw [← i1, Int.gcd, Int.gcd, hm, Nat.gcd_comm b.natAbs, ← Nat.gcd_rec, Nat.gcd_comm]
  · rintro e ⟨he, hle⟩
    obtain ⟨g, hg⟩ : ∃ g : Int, (Int.gcd n d : Int) = g := ⟨_, rfl⟩
    have hgp : 0 < g := by have := Int.gcd_pos_of_ne_zero_right n (show d ≠ 0 by omega); omega
    have hgn : g ∣ n := hg ▸ Int.gcd_dvd_left ..
    have hgd : g ∣ d := hg ▸ Int.gcd_dvd_right ..
    have hK : ∀ m : Int, m = g → (bif decide (m = d) then (iquo n m).bind fun x24 => (whole_FromInt64_m x24).bind fun x => some (⟨⟨x.neg, x.w⟩, ⟨false, []⟩⟩ : Qr) else (iquo n m).bind fun x29 => (whole_FromInt64_m x29).bind fun x => (iquo d m).bind fun x33 => (whole_FromInt64_m x33).bind fun y => some ⟨⟨x.neg, x.w⟩, ⟨y.neg, y.w⟩⟩) = some (qn (Rat.divInt n d)) := by
      rintro m rfl
      have b1 : (n / m).natAbs ≤ n.natAbs := Int.natAbs_ediv_le_natAbs _ _
      have b2 : (d / m).natAbs ≤ d.natAbs := Int.natAbs_ediv_le_natAbs _ _
      have q1 : iquo n m = some (n / m) := by
        rw [iquo, if_neg (by omega), tdiv_dvd hgp hgn, w64_id (by omega) (by omega)]
      have q2 : iquo d m = some (d / m) := by
        rw [iquo, if_neg (by omega), tdiv_dvd hgp hgd, w64_id (by omega) (by omega)]
      rw [qn_divInt hd, hg, q1, q2]
      simp only [bsm, fromInt_eq (x := n / m) (by omega) (by omega), fromInt_eq (x := d / m) (by omega) (by omega), zeta']
      by_cases e1 : m = d
      · rw [decide_eq_true e1, ctm, if_pos (by rw [e1]; exact Int.ediv_self (by omega))]
      · rw [decide_eq_false e1, cfm, if_neg]
        intro e2
        have := Int.ediv_mul_cancel hgd
        rw [e2] at this; omega
    by_cases hneg : e < 0
    · rw [decide_eq_true hneg, ctm, w64_id (by omega) (by omega)]
      exact hK _ (by omega)
    · rw [decide_eq_false hneg, cfm]
      exact hK _ (by omega)
theorem calc_help {a b : Int} (ha : Sm a) (hb : Sm b) : -4611686018427387904 < a * b ∧ a * b < 4611686018427387904 := by
  unfold Sm at ha hb
  have h1 : (a * b).natAbs = a.natAbs * b.natAbs := Int.natAbs_mul a b
  have h2 : a.natAbs * b.natAbs ≤ 2147483647 * 2147483647 := Nat.mul_le_mul (by omega) (by omega)
  omega
theorem pos_mul {a b : Int} (ha : 0 < a) (hb : 0 < b) : 0 < a * b := Int.mul_pos ha hb
section ops
variable {L M : Nat} {a b : Qr} {x y : Rat}
theorem Rep.add (ha : Rep L a x) (hb : Rep M b y) (h : L + M ≤ 4000000000) : frac_Add_m a b = some (qn (x + y)) ∧ Rep (L + M + 1) (qn (x + y)) (x + y) := by
  refine ⟨?_, (ha.fq.add hb.fq).rep (by omega)⟩
  obtain ⟨n1, d1, c1, e1, k1⟩ := short_eq ha (by omega)
  obtain ⟨n2, d2, c2, e2, k2⟩ := short_eq hb (by omega)
  obtain ⟨p1, q1, f1, w1, w2, g1, v1, t1, t2⟩ := parts_eq ha (by omega)
  obtain ⟨p2, q2, f2, w3, w4, g2, v2, t3, t4⟩ := parts_eq hb (by omega)
  have hcalc : frac_calcAdd_m a b = some (qn (x + y)) := by
    unfold frac_calcAdd_m frac_operations_1_m
    have u1 := wl_zn (t1.mul t4) (by omega)
    have u2 := wl_zn (t3.mul t2) (by omega)
    have u3 := wl_zn (t2.mul t4) (by omega)
    have u4 := wl_zn ((t1.mul t4).add ((t3.mul t2).mono (by omega))) (by omega)
    simp only [zeta', zetaQ, zetaP, f1, f2, bsm, mul_eq w1 w4, mul_eq w3 w2, add_eq u1 u2, mul_eq w2 w4, zi_zn]
    rw [reduce_eq u4 u3 (by rw [zi_zn]; have := pos_mul g1 g2; omega), bsm, zi_zn, zi_zn, ← v1, ← v2, Rat.divInt_add_divInt _ _ (by omega) (by omega)]
  unfold frac_Add_m
  simp only [zeta', zetaQ, zetaP, e1, e2, bsm, letJ, hcalc]
  cases c1
  · rw [cfm, bsm, cfm]
  · cases c2
    · rw [ctm, bsm, cfm]
    · obtain ⟨s1, s2, s3, s4⟩ := k1 rfl
      obtain ⟨s5, s6, s7, s8⟩ := k2 rfl
      have m1 := calc_help s1 s7
      have m2 := calc_help s5 s3
      have m3 := calc_help s3 s7
      have m4 := pos_mul s2 s6
      rw [ctm, bsm, ctm, w64_id (x := n1 * d2) (by omega) (by omega), w64_id (x := n2 * d1) (by omega) (by omega), w64_id (x := d1 * d2) (by omega) (by omega), w64_id (by omega) (by omega), ratio_eq m4 (by omega) (by omega) (by omega), bsm, ← s4, ← s8, Rat.divInt_add_divInt _ _ (by omega) (by omega)]
theorem Rep.sub (ha : Rep L a x) (hb : Rep M b y) (h : L + M ≤ 4000000000) : frac_Sub_m a b = some (qn (x - y)) ∧ Rep (L + M + 1) (qn (x - y)) (x - y) := by
  refine ⟨?_, (ha.fq.sub hb.fq).rep (by omega)⟩
  obtain ⟨n1, d1, c1, e1, k1⟩ := short_eq ha (by omega)
  obtain ⟨n2, d2, c2, e2, k2⟩ := short_eq hb (by omega)
  obtain ⟨p1, q1, f1, w1, w2, g1, v1, t1, t2⟩ := parts_eq ha (by omega)
  obtain ⟨p2, q2, f2, w3, w4, g2, v2, t3, t4⟩ := parts_eq hb (by omega)
  have hcalc : frac_calcSub_m a b = some (qn (x - y)) := by
    unfold frac_calcSub_m frac_operations_2_m
    have u1 := wl_zn (t1.mul t4) (by omega)
    have u2 := wl_zn (t3.mul t2) (by omega)
    have u3 := wl_zn (t2.mul t4) (by omega)
    have u4 := wl_zn ((t1.mul t4).sub ((t3.mul t2).mono (by omega))) (by omega)
    simp only [zeta', zetaQ, zetaP, f1, f2, bsm, mul_eq w1 w4, mul_eq w3 w2, sub_eq u1 u2, mul_eq w2 w4, zi_zn]
    rw [reduce_eq u4 u3 (by rw [zi_zn]; have := pos_mul g1 g2; omega), bsm, zi_zn, zi_zn, ← v1, ← v2, Rat.divInt_sub_divInt _ _ (by omega) (by omega)]
  unfold frac_Sub_m
  simp only [zeta', zetaQ, zetaP, e1, e2, bsm, letJ, hcalc]
  cases c1
  · rw [cfm, bsm, cfm]
  · cases c2
    · rw [ctm, bsm, cfm]
    · obtain ⟨s1, s2, s3, s4⟩ := k1 rfl
      obtain ⟨s5, s6, s7, s8⟩ := k2 rfl
      have m1 := calc_help s1 s7
      have m2 := calc_help s5 s3
      have m3 := calc_help s3 s7
      have m4 := pos_mul s2 s6
      rw [ctm, bsm, ctm, w64_id (x := n1 * d2) (by omega) (by omega), w64_id (x := n2 * d1) (by omega) (by omega), w64_id (x := d1 * d2) (by omega) (by omega), w64_id (by omega) (by omega), ratio_eq m4 (by omega) (by omega) (by omega), bsm, ← s4, ← s8, Rat.divInt_sub_divInt _ _ (by omega) (by omega)]
theorem Rep.mul (ha : Rep L a x) (hb : Rep M b y) (h : L + M ≤ 4000000000) : frac_Mul_m a b = some (qn (x * y)) ∧ Rep (L + M) (qn (x * y)) (x * y) := by
  have l1 := ha.l1
  refine ⟨?_, (ha.fq.mul hb.fq).rep (by omega)⟩
  obtain ⟨n1, d1, c1, e1, k1⟩ := short_eq ha (by omega)
  obtain ⟨n2, d2, c2, e2, k2⟩ := short_eq hb (by omega)
  obtain ⟨p1, q1, f1, w1, w2, g1, v1, t1, t2⟩ := parts_eq ha (by omega)
  obtain ⟨p2, q2, f2, w3, w4, g2, v2, t3, t4⟩ := parts_eq hb (by omega)
  have hcalc : frac_calcMul_m a b = some (qn (x * y)) := by
    unfold frac_calcMul_m frac_operations_3_m
    have u1 := wl_zn (t1.mul t3) (by omega)
    have u3 := wl_zn (t2.mul t4) (by omega)
    simp only [zeta', zetaQ, zetaP, f1, f2, bsm, mul_eq w1 w3, mul_eq w2 w4]
    rw [reduce_eq u1 u3 (by rw [zi_zn]; have := pos_mul g1 g2; omega), bsm, zi_zn, zi_zn, ← v1, ← v2, Rat.divInt_mul_divInt]
  unfold frac_Mul_m
  simp only [zeta', zetaQ, zetaP, e1, e2, bsm, letJ, hcalc]
  cases c1
  · rw [cfm, bsm, cfm]
  · cases c2
    · rw [ctm, bsm, cfm]
    · obtain ⟨s1, s2, s3, s4⟩ := k1 rfl
      obtain ⟨s5, s6, s7, s8⟩ := k2 rfl
      have m1 := calc_help s1 s5
      have m3 := calc_help s3 s7
      have m4 := pos_mul s2 s6
      rw [ctm, bsm, ctm, w64_id (by omega) (by omega), w64_id (x := d1 * d2) (by omega) (by omega), ratio_eq m4 (by omega) (by omega) (by omega), bsm, ← s4, ← s8, Rat.divInt_mul_divInt]
theorem Rep.sign (ha : Rep L a x) (h : L ≤ 10000000000) : frac_Sign_m a = some (cmpQ x 0) := by
  unfold frac_Sign_m
  have wn := ha.wn h
  have wd := ha.wd h
  have hv := ha.v
  simp only [zeta', bsm, sign_eq wn, sign_eq wd]
  unfold qv qd at hv
  rcases Int.lt_trichotomy (zi a.den) 0 with h1 | h1 | h1
  · rw [Int.sign_eq_neg_one_of_neg h1]
    rw [if_neg (by omega), ← Rat.neg_divInt_neg] at hv
    rw [← hv, ← sign_divInt (by omega), Int.sign_neg]
    show some (IntKind.i64.wrap (0 - (zi a.num).sign)) = _
    have : (zi a.num).sign = -1 ∨ (zi a.num).sign = 0 ∨ (zi a.num).sign = 1 := by
      rcases Int.lt_trichotomy (zi a.num) 0 with e | e | e
      · left; exact Int.sign_eq_neg_one_of_neg e
      · right; left; rw [e]; rfl
      · right; right; exact Int.sign_eq_one_of_pos e
    rw [w64_id (by omega) (by omega), Int.zero_sub]
  · rw [if_pos h1] at hv
    rw [← hv, ← sign_divInt (by omega), h1]; rfl
  · rw [if_neg (by omega)] at hv
    rw [Int.sign_eq_one_of_pos h1, ← hv, ← sign_divInt h1]; rfl
theorem cmpQ_zero {x : Rat} : cmpQ x 0 = 0 ↔ x = 0 := by
  unfold cmpQ
  by_cases h : x < 0
  · rw [if_pos h]
    refine ⟨fun e => absurd e (by decide), fun e => ?_⟩
    rw [e] at h; exact absurd h Rat.lt_irrefl
  · rw [if_neg h]
    by_cases h2 : x = 0
    · rw [if_pos h2]; simp [h2]
    · rw [if_neg h2]; simp [h2]
theorem Rep.canon (ha : Rep L a x) (h : L ≤ 10000000000) : frac_Canonical_m a = some (qn x) ∧ Rep L (qn x) x := by
  refine ⟨?_, ha.fq.rep ha.l1⟩
  obtain ⟨n1, d1, c1, e1, k1⟩ := short_eq ha (by omega)
  obtain ⟨p1, q1, f1, w1, w2, g1, v1, t1, t2⟩ := parts_eq ha (by omega)
  unfold frac_Canonical_m
  simp only [zeta', zetaQ, zetaP, e1, bsm, f1]
  cases c1
  · rw [cfm, reduce_eq w1 w2 (by omega), bsm, v1]
  · obtain ⟨s1, s2, s3, s4⟩ := k1 rfl
    unfold Sm at s1 s3
    rw [ctm, ratio_eq s2 (by omega) (by omega) (by omega), bsm, s4]
end ops
end Go.Proofs.YthgkgjogdgdcgaaGreat
namespace Go.Proofs.YthgkgjogdgdcgaaGreat
open Go.Fw
theorem cmpI_sign {p q u v : Int} (hq : 0 < q) (hv : 0 < v) (h : p.sign ≠ u.sign ∨ p.sign = 0) : frac_sign_m (IntKind.i64.wrap (p.sign - u.sign)) = some (cmpI (p * v) (u * q)) := by
  have pv : 0 < p → 0 < p * v := fun h => Int.mul_pos h hv
  have pv' : p < 0 → p * v < 0 := fun h => Int.mul_neg_of_neg_of_pos h hv
  have uq : 0 < u → 0 < u * q := fun h => Int.mul_pos h hq
  have uq' : u < 0 → u * q < 0 := fun h => Int.mul_neg_of_neg_of_pos h hq
  rcases Int.lt_trichotomy p 0 with e1 | e1 | e1 <;> rcases Int.lt_trichotomy u 0 with e2 | e2 | e2
  · rw [Int.sign_eq_neg_one_of_neg e1, Int.sign_eq_neg_one_of_neg e2] at h; simp at h
  · have := pv' e1
    rw [Int.sign_eq_neg_one_of_neg e1, e2, Int.zero_mul, cmpI_lt this]; rfl
  · have := pv' e1
    have := uq e2
    rw [Int.sign_eq_neg_one_of_neg e1, Int.sign_eq_one_of_pos e2, cmpI_lt (by omega)]; rfl
  · have := uq' e2
    rw [Int.sign_eq_neg_one_of_neg e2, e1, Int.zero_mul, cmpI_gt this]; rfl
  · rw [e1, e2, Int.zero_mul, Int.zero_mul]; rfl
  · have := uq e2
    rw [Int.sign_eq_one_of_pos e2, e1, Int.zero_mul, cmpI_lt this]; rfl
  · have := pv e1
    have := uq' e2
    rw [Int.sign_eq_one_of_pos e1, Int.sign_eq_neg_one_of_neg e2, cmpI_gt (by omega)]; rfl
  · have := pv e1
    rw [Int.sign_eq_one_of_pos e1, e2, Int.zero_mul, cmpI_gt this]; rfl
  · rw [Int.sign_eq_one_of_pos e1, Int.sign_eq_one_of_pos e2] at h; simp at h
theorem cmpQ_eq0 {x y : Rat} : cmpQ x y = 0 ↔ x = y := by
  unfold cmpQ
  by_cases h : x < y
  · rw [if_pos h]
    refine ⟨fun e => absurd e (by decide), fun e => ?_⟩
    rw [e] at h; exact absurd h Rat.lt_irrefl
  · rw [if_neg h]
    by_cases h2 : x = y
    · rw [if_pos h2]; simp [h2]
    · rw [if_neg h2]; simp [h2]
theorem cmpQ_neg {x y : Rat} : cmpQ x y < 0 ↔ x < y := by
  unfold cmpQ
  by_cases h : x < y
  · rw [if_pos h]; simp [h]
  · rw [if_neg h]
    by_cases h2 : x = y
    · rw [if_pos h2]; simp [h2, Rat.lt_irrefl]
    · rw [if_neg h2]; simp [h]
theorem cmpQ_pos {x y : Rat} : 0 < cmpQ x y ↔ y < x := by
  unfold cmpQ
  by_cases h : x < y
  · rw [if_pos h]
    have : ¬ y < x := by grind
    simp [this]
  · rw [if_neg h]
    by_cases h2 : x = y
    · rw [if_pos h2]; simp [h2, Rat.lt_irrefl]
    · rw [if_neg h2]
      have : y < x := by grind
      simp [this]
theorem qn_int (i : Int) : qn (i : Rat) = ⟨zn i, ⟨false, []⟩⟩ := by
  unfold qn
  rw [Rat.den_intCast, if_pos rfl, Rat.num_intCast]
section ops
variable {L M : Nat} {a b : Qr} {x y : Rat}
theorem Rep.neg (ha : Rep L a x) (h : L ≤ 10000000000) : frac_Neg_m a = some (qn (-x)) ∧ Rep L (qn (-x)) (-x) := by
  refine ⟨?_, ha.fq.neg.rep ha.l1⟩
  unfold frac_Neg_m
  have r := (ha.canon h).2
  simp only [zeta', zetaQ, zetaP, (ha.canon h).1, bsm, neg_eq (r.wn h)]
  show some (⟨zn (-zi (zn x.num)), _⟩ : Qr) = some (qn (-x))
  rw [zi_zn]; rfl
theorem Rep.cmp (ha : Rep L a x) (hb : Rep M b y) (h : L + M ≤ 4000000000) : frac_Cmp_m a b = some (cmpQ x y) := by
  obtain ⟨p1, q1, f1, w1, w2, g1, v1, t1, t2⟩ := parts_eq ha (by omega)
  obtain ⟨p2, q2, f2, w3, w4, g2, v2, t3, t4⟩ := parts_eq hb (by omega)
  unfold frac_Cmp_m
  have u1 := wl_zn (t1.mul t4) (by omega)
  have u2 := wl_zn (t3.mul t2) (by omega)
  simp only [zeta', zetaQ, zetaP, f1, f2, bsm, letJ, sign_eq w1, sign_eq w3, mul_eq w1 w4, mul_eq w3 w2, cmp_eq u1 u2, zi_zn]
  rw [← v1, ← v2, cmpQ_int g1 g2]
  by_cases e1 : (zi p1).sign = (zi p2).sign
  · rw [show decide ((zi p1).sign ≠ (zi p2).sign) = false by simp [e1], cfm, bsm]
    by_cases e2 : (zi p1).sign = 0
    · rw [decide_eq_true e2, ctm, cmpI_sign g1 g2 (.inr e2), bsm]
    · rw [decide_eq_false e2, cfm]
  · rw [show decide ((zi p1).sign ≠ (zi p2).sign) = true by simp [e1], ctm, bsm, ctm, cmpI_sign g1 g2 (.inl e1), bsm]
theorem Rep.eq (ha : Rep L a x) (hb : Rep M b y) (h : L + M ≤ 4000000000) : frac_Equal_m a b = some (decide (x = y)) := by
  unfold frac_Equal_m
  simp only [zeta', zetaQ, zetaP, ha.cmp hb h, bsm]
  congr 1
  rw [decide_eq_decide]; exact cmpQ_eq0
theorem fromInt64_eq {n : Int} (hn : i64ok n) : frac_FromInt64_m n = some (qn (n : Rat)) ∧ Rep 2 (qn (n : Rat)) (n : Rat) := by
  refine ⟨?_, (FQ.int (small_fit hn) (by decide)).rep (by decide)⟩
  unfold frac_FromInt64_m
  simp only [zeta', bsm, fromInt_eq hn.1 hn.2]
  rw [qn_int]
end ops
end Go.Proofs.YthgkgjogdgdcgaaGreat
namespace Go.Proofs.YthgkgjogdgdcgaaGreat
open Go.Fw
def vq (n : Nat) (h : Nat → Rat) : List Qr := (List.range n).map fun i => qn (h i)
structure RepV (L : Nat) (v : List Qr) (f : Nat → Rat) : Prop where
  e : ∀ i (h : i < v.length), Rep L v[i] (f i)
  z : ∀ i, v.length ≤ i → f i = 0
  l1 : 1 ≤ L
theorem vq_len (n : Nat) (h : Nat → Rat) : (vq n h).length = n := by simp [vq]
theorem vq_get' {n i : Nat} {h : Nat → Rat} (hi : i < (vq n h).length) : (vq n h)[i] = qn (h i) := by simp [vq]
theorem vq_succ (n : Nat) (h : Nat → Rat) : vq (n + 1) h = vq n h ++ [qn (h n)] := by simp [vq, List.range_succ]
theorem vq_zero (h : Nat → Rat) : vq 0 h = [] := rfl
theorem vq_rep {L n : Nat} {h : Nat → Rat} (hf : ∀ i, i < n → FQ L (h i)) (hz : ∀ i, n ≤ i → h i = 0) (h1 : 1 ≤ L) : RepV L (vq n h) h := by
  refine ⟨fun i hi => ?_, fun i hi => hz i (by rwa [vq_len] at hi), h1⟩
  rw [vq_get' hi]
  exact (hf i (by rwa [vq_len] at hi)).rep h1
def qz : Qr := ⟨⟨false, []⟩, ⟨false, []⟩⟩
theorem qn_zero : qn 0 = qz := rfl
theorem rep_zero {L : Nat} (h : 1 ≤ L) : Rep L qz 0 := ⟨by simp [qz], by simp [qz], by simp [qz], by simp [qz], h, by decide⟩
theorem fq_zero {L : Nat} (h : 1 ≤ L) : FQ L 0 := (rep_zero h).fq
def qat (v : List Qr) (i : Nat) : Qr := v.getD i qz
theorem RepV.at {L : Nat} {v : List Qr} {f : Nat → Rat} (h : RepV L v f) (i : Nat) : Rep L (qat v i) (f i) := by
  unfold qat
  by_cases hi : i < v.length
  · rw [List.getD_eq_getElem?_getD, List.getElem?_eq_getElem hi]; exact h.e i hi
  · rw [List.getD_eq_getElem?_getD, List.getElem?_eq_none (by omega), h.z i (by omega)]; exact rep_zero h.l1
theorem RepV.fq {L : Nat} {v : List Qr} {f : Nat → Rat} (h : RepV L v f) (i : Nat) : FQ L (f i) := (h.at i).fq
theorem RepV.mono {L M : Nat} {v : List Qr} {f : Nat → Rat} (h : RepV L v f) (hl : L ≤ M) : RepV M v f := ⟨fun i hi => (h.e i hi).mono hl, h.z, Nat.le_trans h.l1 hl⟩
theorem RepV.nil {L : Nat} (h : 1 ≤ L) : RepV L [] (fun _ => 0) := ⟨fun i hi => by simp at hi, fun _ _ => rfl, h⟩
theorem RepV.get {L : Nat} {v : List Qr} {f : Nat → Rat} (h : RepV L v f) {i : Nat} (hi : i < v.length) : ∃ q, v[i]? = some q ∧ Rep L q (f i) := ⟨v[i], by simp, h.e i hi⟩
theorem RepV.congr {L : Nat} {v : List Qr} {f g : Nat → Rat} (h : RepV L v f) (e : ∀ i, f i = g i) : RepV L v g := by
  have : f = g := funext e
  rw [← this]; exact h
def vval (v : List Qr) (i : Nat) : Rat := qv (qat v i)
theorem repv_of {L : Nat} {v : List Qr} (h : ∀ q ∈ v, Rep L q (qv q)) (h1 : 1 ≤ L) : RepV L v (vval v) := by
  refine ⟨fun i hi => ?_, fun i hi => ?_, h1⟩
  · have e : qat v i = v[i] := by unfold qat; rw [List.getD_eq_getElem?_getD, List.getElem?_eq_getElem hi]; rfl
    unfold vval
    rw [e]; exact h _ (List.getElem_mem hi)
  · unfold vval qat
    rw [List.getD_eq_getElem?_getD, List.getElem?_eq_none hi]; decide
def sumQ (h : Nat → Rat) : Nat → Rat
  | 0 => 0
  | n + 1 => sumQ h n + h n
theorem sumQ_fq {L : Nat} {h : Nat → Rat} : ∀ {n : Nat}, (∀ i, i < n → FQ L (h i)) → FQ (n * (L + 1) + 1) (sumQ h n)
  | 0, _ => fq_zero (by omega)
  | n + 1, e => by
    rw [sumQ]
    exact ((sumQ_fq (fun i hi => e i (by omega))).add (e n (by omega))).mono (by rw [Nat.add_mul]; omega)
end Go.Proofs.YthgkgjogdgdcgaaGreat
namespace Go.Proofs.YthgkgjogdgdcgaaGreat
open Go.Fw
theorem min_len {α β : Type} (a : List α) (b : List β) : min (a.length : Int) (b.length : Int) = ((min a.length b.length : Nat) : Int) := by omega
theorem RepV.gd {L : Nat} {v : List Qr} {f : Nat → Rat} (h : RepV L v f) (k : Nat) : Rep L (v.getD k (⟨⟨false, []⟩, ⟨false, []⟩⟩ : Qr)) (f k) := h.at k
theorem vq_set {n k : Nat} {h : Nat → Rat} (hk : k < n) : (vq k h ++ List.replicate (n - k) qz).set k (qn (h k)) = vq (k + 1) h ++ List.replicate (n - (k + 1)) qz := by
  rw [show n - k = (n - (k + 1)) + 1 by omega, List.replicate_succ, List.set_append_right _ _ (by rw [vq_len]; exact Nat.le_refl _), vq_len, Nat.sub_self, vq_succ, List.append_assoc]; rfl
theorem vqz_len {n k : Nat} {h : Nat → Rat} (hk : k ≤ n) : (vq k h ++ List.replicate (n - k) qz).length = n := by rw [List.length_append, vq_len, List.length_replicate]; omega
section ops
variable {K L M : Nat} {c : Qr} {a b : List Qr} {k : Rat} {f g : Nat → Rat}
end ops
end Go.Proofs.YthgkgjogdgdcgaaGreat
namespace Go.Proofs.YthgkgjogdgdcgaaGreat
open Go.Fw
section ops
variable {K L M : Nat} {c : Qr} {a b : List Qr} {k : Rat} {f g : Nat → Rat}
theorem dot1 {x y z : Rat} {p q r : Qr} (hp : Rep K p x) (hq : Rep L q y) (hr : Rep M r z) (hz : r = qn z) (h : K + L + M ≤ 4000000000) : vec_Dot_1_m p q r = some (qn (z + x * y)) := by
  have e1 := hp.mul hq (by omega)
  have e2 := (hr.add e1.2 (by omega)).1
  have s1 := hp.sign (by omega)
  have s2 := hq.sign (by omega)
  replace e1 := e1.1
  obtain ⟨⟨_, _⟩, ⟨_, _⟩⟩ := p
  obtain ⟨⟨_, _⟩, ⟨_, _⟩⟩ := q
  obtain ⟨⟨_, _⟩, ⟨_, _⟩⟩ := r
  generalize qn (x * y) = w at e1 e2
  obtain ⟨⟨_, _⟩, ⟨_, _⟩⟩ := w
  unfold vec_Dot_1_m
  refine bind_eq s1 <| bind_eq rfl ?_
  by_cases h1 : x = 0
  · refine bind_eq (bif_f (decide_eq_false (by rw [h1, cmpQ_self]; simp)) rfl) ?_
    rw [show z + x * y = z by rw [h1]; grind, ← hz]; rfl
  · by_cases h2 : y = 0
    · refine bind_eq (bif_t (decide_eq_true (fun e => h1 (cmpQ_zero.1 e))) (bind_eq s2 (bind_eq rfl rfl))) ?_
      refine bif_f (decide_eq_false (by rw [h2, cmpQ_self]; simp)) ?_
      rw [show z + x * y = z by rw [h2]; grind, ← hz]
    · refine bind_eq (bif_t (decide_eq_true (fun e => h1 (cmpQ_zero.1 e))) (bind_eq s2 (bind_eq rfl rfl))) ?_
      refine bif_t (decide_eq_true (fun e => h2 (cmpQ_zero.1 e))) ?_
      obtain ⟨w3, h3⟩ : ∃ w, qn (z + x * y) = w := ⟨_, rfl⟩
      rw [h3] at e2 ⊢
      obtain ⟨⟨_, _⟩, ⟨_, _⟩⟩ := w3
      exact bind_eq e1 <| bind_eq e2 rfl
theorem take_gd {n i : Nat} (hi : i < n) : (a.take n).getD i (⟨⟨false, []⟩, ⟨false, []⟩⟩ : Qr) = a.getD i (⟨⟨false, []⟩, ⟨false, []⟩⟩ : Qr) := by
  simp [List.getD, List.getElem?_take, hi]
theorem tup (q : Qr) : (⟨⟨(q.num.neg, q.num.w, q.den.neg, q.den.w).1, (q.num.neg, q.num.w, q.den.neg, q.den.w).2.1⟩, ⟨(q.num.neg, q.num.w, q.den.neg, q.den.w).2.2.1, (q.num.neg, q.num.w, q.den.neg, q.den.w).2.2.2⟩⟩ : Qr) = q := by cases q; rfl
theorem vdot (ha : RepV L a f) (hb : RepV M b g) (h : (min a.length b.length + 2) * (L + M + 1) ≤ 4000000000) : vec_Dot_m a b = some (qn (sumQ (fun i => f i * g i) (min a.length b.length))) ∧ Rep (min a.length b.length * (L + M + 1) + 1) (qn (sumQ (fun i => f i * g i) (min a.length b.length))) (sumQ (fun i => f i * g i) (min a.length b.length)) := by
  have hs : ∀ n, FQ (n * (L + M + 1) + 1) (sumQ (fun i => f i * g i) n) := fun n => sumQ_fq (fun i _ => (ha.fq i).mul (hb.fq i))
  refine ⟨?_, (hs _).rep (by omega)⟩
  unfold vec_Dot_m
  have hm : ∀ n : Nat, n ≤ min a.length b.length → n * (L + M + 1) ≤ min a.length b.length * (L + M + 1) := fun n hn => Nat.mul_le_mul_right _ hn
  rw [Nat.add_mul] at h
  refine bind_eq rfl <| bind_eq rfl <| bind_eq (congrArg some (min_len a b)) <| bind_eq (subM_zero (by omega)) <| bind_eq (subM_zero (by omega)) ?_
  rw [show max (a.take (min a.length b.length)).length (b.take (min a.length b.length)).length = min a.length b.length by simp only [List.length_take]; omega]
  refine bind_range (fun j => ((qn (sumQ (fun i => f i * g i) j)).num.neg, (qn (sumQ (fun i => f i * g i) j)).num.w, (qn (sumQ (fun i => f i * g i) j)).den.neg, (qn (sumQ (fun i => f i * g i) j)).den.w)) rfl (fun j hj => ?_) rfl
  have hmj := hm j (by omega)
  have e1 := dot1 (ha.gd j) (hb.gd j) ((hs j).rep (by omega)) rfl (by omega)
  simp only [sumQ]
  generalize hq0 : qn (sumQ (fun i => f i * g i) j) = q0 at e1 ⊢
  generalize hq3 : qn (sumQ (fun i => f i * g i) j + f j * g j) = q3 at e1 ⊢
  rw [← take_gd (a := a) hj, ← take_gd (a := b) hj] at e1
  generalize (a.take (min a.length b.length)).getD j (⟨⟨false, []⟩, ⟨false, []⟩⟩ : Qr) = q1 at e1 ⊢
  generalize (b.take (min a.length b.length)).getD j (⟨⟨false, []⟩, ⟨false, []⟩⟩ : Qr) = q2 at e1 ⊢
  obtain ⟨⟨_, _⟩, ⟨_, _⟩⟩ := q0
  obtain ⟨⟨_, _⟩, ⟨_, _⟩⟩ := q1
  obtain ⟨⟨_, _⟩, ⟨_, _⟩⟩ := q2
  obtain ⟨⟨_, _⟩, ⟨_, _⟩⟩ := q3
  exact bind_eq rfl <| bind_eq rfl <| bind_eq e1 rfl
end ops
end Go.Proofs.YthgkgjogdgdcgaaGreat
namespace Go.Proofs.YthgkgjogdgdcgaaGreat
open Go.Fw
theorem v16_lt {l : List Nat} (h : H16 l) : v16 l < 65536 ^ l.length := val_lt l h.1
theorem tm {a : Nat} : Int.tmod (a : Int) 65536 = ((a % 65536 : Nat) : Int) := by
  rw [Int.tmod_eq_emod_of_nonneg (by omega)]; omega
theorem td {a : Nat} : Int.tdiv (a : Int) 65536 = ((a / 65536 : Nat) : Int) := by
  rw [Int.tdiv_eq_ediv_of_nonneg (by omega)]; omega
theorem rcmp_eq (l k : List Nat) (hl : H16 l) (hk : H16 k) : ref01_cmp_m (zl l) (zl k) = some (cmpN (v16 l) (v16 k)) := by
  unfold ref01_cmp_m
  simp only [bsm]
  rw [zl_len, zl_len, show max (l.length : Int) (k.length : Int) = ((max l.length k.length : Nat) : Int) by omega, w64_id (by have := hl.2; have := hk.2; omega) (by have := hl.2; have := hk.2; omega)]
  have h1 : v16 l < 65536 ^ (max l.length k.length) := Nat.lt_of_lt_of_le (v16_lt hl) (Nat.pow_le_pow_right (by decide) (by omega))
  have h2 : v16 k < 65536 ^ (max l.length k.length) := Nat.lt_of_lt_of_le (v16_lt hk) (Nat.pow_le_pow_right (by decide) (by omega))
  have hm : max l.length k.length ≤ 100000000000 := by have := hl.2; have := hk.2; omega
  have a1 := at_eq hl.1
  have a2 := at_eq hk.1
  generalize v16 l = V at *
  generalize v16 k = W at *
  generalize max l.length k.length = n at *
  refine bind_loop (fun y => ∃ m : Nat, y = (m : Int) - 1 ∧ m ≤ n ∧ V / 65536 ^ m = W / 65536 ^ m) (fun e => (∃ c, e = .inl c ∧ V = W) ∨ e = .inr (cmpN V W)) (fun y => (y + 1).toNat) ?_ ⟨n, rfl, Nat.le_refl _, by rw [Nat.div_eq_of_lt h1, Nat.div_eq_of_lt h2]⟩ ?_
  · rintro _ ⟨m, rfl, hmn, he⟩
    rcases m with _ | m
    · right
      refine ⟨_, rfl, .inl ⟨_, rfl, ?_⟩⟩
      simpa using he
    · rw [show ((m + 1 : Nat) : Int) - 1 = (m : Int) by omega, show decide ((0 : Int) ≤ (m : Int)) = true by simp, ctm, a1, bsm, a2, bsm]
      rcases dig_cases he with ⟨hd, hq⟩ | ⟨hd, hlt⟩ | ⟨hd, hlt⟩
      · left
        rw [hd, show decide (((W / 65536 ^ m % 65536 : Nat) : Int) < ((W / 65536 ^ m % 65536 : Nat) : Int)) = false by simp, cfm, bsm, bsm, show decide (((W / 65536 ^ m % 65536 : Nat) : Int) < ((W / 65536 ^ m % 65536 : Nat) : Int)) = false by simp, cfm, w64_id (by omega) (by omega)]
        exact ⟨_, rfl, ⟨m, rfl, by omega, hq⟩, by omega⟩
      · right
        rw [show decide (((V / 65536 ^ m % 65536 : Nat) : Int) < ((W / 65536 ^ m % 65536 : Nat) : Int)) = true by rw [decide_eq_true_eq]; omega, ctm]
        exact ⟨_, rfl, .inr (by rw [cmpN_lt hlt])⟩
      · right
        rw [show decide (((V / 65536 ^ m % 65536 : Nat) : Int) < ((W / 65536 ^ m % 65536 : Nat) : Int)) = false by rw [decide_eq_false_iff_not]; omega, cfm, bsm, bsm, show decide (((W / 65536 ^ m % 65536 : Nat) : Int) < ((V / 65536 ^ m % 65536 : Nat) : Int)) = true by rw [decide_eq_true_eq]; omega, ctm]
        exact ⟨_, rfl, .inr (by rw [cmpN_gt hlt])⟩
  · rintro e (⟨c, rfl, rfl⟩ | rfl)
    · rw [cmpN_eq]
    · rfl
theorem radd_eq (l k : List Nat) (hl : H16 l) (hk : H16 k) : ref01_add_m (zl l) (zl k) = some (zl (can 65536 (v16 l + v16 k))) := by
  unfold ref01_add_m
  have h1 : v16 l < 65536 ^ (max l.length k.length) := Nat.lt_of_lt_of_le (v16_lt hl) (Nat.pow_le_pow_right (by decide) (by omega))
  have h2 : v16 k < 65536 ^ (max l.length k.length) := Nat.lt_of_lt_of_le (v16_lt hk) (Nat.pow_le_pow_right (by decide) (by omega))
  have hm : max l.length k.length ≤ 100000000000 := by have := hl.2; have := hk.2; omega
  have a1 := at_eq hl.1
  have a2 := at_eq hk.1
  rw [zl_len, zl_len]
  generalize v16 l = V at *
  generalize v16 k = W at *
  refine bind_loop (fun s => ∃ i : Nat, s = (((cry 65536 V W i : Nat) : Int), (i : Int), zl (dig 65536 i (V + W))) ∧ i ≤ max l.length k.length + 1) (fun e => ∃ i, e = zl (dig 65536 i (V + W)) ∧ V + W < 65536 ^ i ∧ i ≤ max l.length k.length + 1) (fun s => max l.length k.length + 1 - s.2.1.toNat) ?_ ⟨0, by rw [cry_zero]; rfl, by omega⟩ ?_
  · rintro _ ⟨i, rfl, hi⟩
    have hc := cry_le (B := 65536) (by decide) V W i
    have hs1 := cry_step (B := 65536) (by decide) V W i
    have hs2 := cry_dig (B := 65536) (by decide) V W i
    have d1 := Nat.mod_lt (V / 65536 ^ i) (show 0 < 65536 by decide)
    have d2 := Nat.mod_lt (W / 65536 ^ i) (show 0 < 65536 by decide)
    simp only [bsm, letJ]
    have hcond : ∀ (K : Bool → Option ((Int × Int × List Int) ⊕ List Int)), (((bif decide ((i : Int) < (l.length : Int)) then some true else some (decide ((i : Int) < (k.length : Int)))) : Option Bool).bind fun c => ((bif c then some true else some (decide ((0 : Int) < ((cry 65536 V W i : Nat) : Int)))) : Option Bool).bind K) = K (decide (i < max l.length k.length ∨ 0 < cry 65536 V W i)) := by
      intro K
      by_cases q1 : i < l.length
      · have : i < max l.length k.length := by omega
        simp [q1, this]
      · by_cases q2 : i < k.length
        · have : i < max l.length k.length := by omega
          simp [q1, q2, this]
        · have : ¬ i < max l.length k.length := by omega
          simp [q1, q2, this]
    rw [hcond]
    by_cases hgo : i < max l.length k.length ∨ 0 < cry 65536 V W i
    · left
      have hi' : i < max l.length k.length + 1 := by
        rcases Nat.lt_or_ge i (max l.length k.length + 1) with h | h
        · exact h
        · have hie : i = max l.length k.length + 1 := by omega
          have hp : 65536 ^ i = 65536 ^ (max l.length k.length) * 65536 := by rw [hie, Nat.pow_succ]
          have g3 := cry_end (B := 65536) (V := V) (W := W) (k := i) (by omega) (by omega)
          rw [Nat.div_eq_of_lt (by omega)] at g3
          omega
      rw [show decide (i < max l.length k.length ∨ 0 < cry 65536 V W i) = true by rw [decide_eq_true_eq]; exact hgo, ctm, a1, bsm, a2, bsm, w64_add (by omega), w64_add (by omega), tm, td, hs1, hs2, apM1 (by decide) (by rw [zl_len, dig_len]; omega), bsm, w64_nat (by have := cry_le (B := 65536) (by decide) V W (i + 1); omega), w64_succ (by omega)]
      refine ⟨_, rfl, ⟨i + 1, ?_, by omega⟩, by simp only []; omega⟩
      rw [dig_succ, zl_app, zl_one]
    · right
      rw [show decide (i < max l.length k.length ∨ 0 < cry 65536 V W i) = false by rw [decide_eq_false_iff_not]; exact hgo, cfm]
      refine ⟨_, rfl, i, rfl, ?_, hi⟩
      have g1 : V < 65536 ^ i := Nat.lt_of_lt_of_le h1 (Nat.pow_le_pow_right (by decide) (by omega))
      have g2 : W < 65536 ^ i := Nat.lt_of_lt_of_le h2 (Nat.pow_le_pow_right (by decide) (by omega))
      have g3 := cry_end (B := 65536) g1 g2
      rcases Nat.lt_or_ge (V + W) (65536 ^ i) with h | h
      · exact h
      · have := Nat.div_pos h (Nat.pow_pos (by decide)); omega
  · rintro _ ⟨i, rfl, hlt, hi⟩
    rw [rtrim_eq _ (by rw [dig_len]; omega), bsm, trim_dig (by decide) hlt]
theorem rsub_eq (l k : List Nat) (hl : H16 l) (hk : H16 k) (hle : v16 k ≤ v16 l) : ref01_sub_m (zl l) (zl k) = some (zl (can 65536 (v16 l - v16 k))) := by
  unfold ref01_sub_m
  have h1 := v16_lt hl
  have hm := hl.2
  have a1 := at_eq hl.1
  have a2 := at_eq hk.1
  rw [zl_len]
  generalize v16 l = V at *
  generalize v16 k = W at *
  refine bind_loop_to (fun i => (((1 - lnd 65536 V W i : Nat) : Int), (i : Int), zl (dig 65536 i (V - W)))) l.length (zl (dig 65536 l.length (V - W))) ?_ (fun i hi => ?_) ?_ ?_
  · rw [lnd_zero]; rfl
  · have hc := lnd_le (B := 65536) (by decide) V W i
    have hs1 := lnd_step (B := 65536) (by decide) V W i
    have hs2 := lnd_dig (B := 65536) (by decide) hle i
    have d1 := Nat.mod_lt (V / 65536 ^ i) (show 0 < 65536 by decide)
    have d2 := Nat.mod_lt (W / 65536 ^ i) (show 0 < 65536 by decide)
    simp only [bsm, letJ]
    rw [show decide ((i : Int) < (l.length : Int)) = true by simp [hi], ctm, a1, bsm, a2, bsm]
    rw [← hs1, dig_succ, zl_app, zl_one, ← hs2]
    generalize V / 65536 ^ i % 65536 = a at *
    generalize W / 65536 ^ i % 65536 = b at *
    generalize lnd 65536 V W i = c at *
    rw [w64_id (x := (a : Int) - (b : Int)) (by omega) (by omega), w64_id (x := (a : Int) - (b : Int) - ((1 - c : Nat) : Int)) (by omega) (by omega)]
    by_cases hn : (a : Int) - (b : Int) - ((1 - c : Nat) : Int) < 0
    · rw [show decide ((a : Int) - (b : Int) - ((1 - c : Nat) : Int) < 0) = true by rw [decide_eq_true_eq]; exact hn, ctm, w64_id (by omega) (by omega), apM1 (by decide) (by rw [zl_len, dig_len]; omega), bsm, w64_succ (by omega)]
      rw [show (a : Int) - (b : Int) - ((1 - c : Nat) : Int) + 65536 = (((a + (65536 - 1 - b) + c) % 65536 : Nat) : Int) by omega, show (1 - (a + (65536 - 1 - b) + c) / 65536) = 1 by omega]
      rfl
    · rw [show decide ((a : Int) - (b : Int) - ((1 - c : Nat) : Int) < 0) = false by rw [decide_eq_false_iff_not]; exact hn, cfm, apM1 (by decide) (by rw [zl_len, dig_len]; omega), bsm, w64_succ (by omega)]
      rw [show (a : Int) - (b : Int) - ((1 - c : Nat) : Int) = (((a + (65536 - 1 - b) + c) % 65536 : Nat) : Int) by omega, show (1 - (a + (65536 - 1 - b) + c) / 65536) = 0 by omega]
      rfl
  · simp
  · rw [rtrim_eq _ (by rw [dig_len]; omega), bsm, trim_dig (by decide) (by omega)]
theorem rsmall_eq (l : List Nat) (hl : ∀ x ∈ l, x < 65536) (hn : l.length ≤ 3) : ref01_small_m (zl l) = some ((v16 l : Nat) : Int) := by
  unfold ref01_small_m
  simp only [bsm]
  have hV : v16 l < 65536 ^ l.length := val_lt l hl
  have hp : 65536 ^ l.length ≤ 65536 ^ 3 := Nat.pow_le_pow_right (by decide) hn
  rw [show (65536 : Nat) ^ 3 = 281474976710656 by decide] at hp
  rw [zl_len, w64_id (by omega) (by omega)]
  refine bind_loop_to (fun j => (((v16 l / 65536 ^ (l.length - j) : Nat) : Int), (l.length : Int) - 1 - (j : Int))) l.length ((v16 l : Nat) : Int) ?_ (fun j hj => ?_) ?_ rfl
  · rw [show l.length - 0 = l.length by omega, Nat.div_eq_of_lt hV]; simp
  · obtain ⟨m, hm⟩ : ∃ m, l.length = m + j + 1 := ⟨l.length - j - 1, by omega⟩
    have hg := get_val hl (i := m) (by omega)
    have hst := div_step 65536 (v16 l) m
    have hdl : v16 l / 65536 ^ m ≤ v16 l := Nat.div_le_self _ _
    rw [show l.length - j = m + 1 by omega, show l.length - (j + 1) = m by omega, show (l.length : Int) - 1 - (j : Int) = (m : Int) by omega, show (l.length : Int) - 1 - ((j + 1 : Nat) : Int) = (m : Int) - 1 by omega]
    have hd := Nat.mod_lt (v16 l / 65536 ^ m) (show 0 < 65536 by decide)
    simp only []
    rw [show decide ((0 : Int) ≤ (m : Int)) = true by simp, ctm, geti_nat (zl_get hg), bsm]
    generalize v16 l / 65536 ^ (m + 1) = c at *
    generalize v16 l / 65536 ^ m = d at *
    rw [w64_id (x := (c : Int) * 65536) (by omega) (by omega), w64_id (x := (c : Int) * 65536 + ((d % 65536 : Nat) : Int)) (by omega) (by omega), w64_id (x := (m : Int) - 1) (by omega) (by omega), show (c : Int) * 65536 + ((d % 65536 : Nat) : Int) = (d : Int) by omega]
  · simp only []
    rw [show decide ((0 : Int) ≤ (l.length : Int) - 1 - (l.length : Int)) = false by rw [decide_eq_false_iff_not]; omega, cfm, Nat.sub_self, Nat.pow_zero, Nat.div_one]
theorem rback_eq (x : Nat) (hx : x < 281474976710656) : ref01_back_m (x : Int) = some (zl (can 65536 x)) := by
  unfold ref01_back_m
  simp only [bsm]
  rw [tm, td, w64_nat (by omega), tm, td, w64_nat (by omega)]
  have : [((x % 65536 : Nat) : Int), ((x / 65536 % 65536 : Nat) : Int), ((x / 65536 / 65536 : Nat) : Int)] = zl [x % 65536, x / 65536 % 65536, x / 65536 / 65536] := rfl
  rw [this, rtrim_eq _ (by simp), bsm, trim_can (B := 65536) (by decide) (by intro y hy; simp at hy; omega)]
  congr 3
  simp [val]
  omega
theorem rtimes_eq (l : List Nat) (f : Nat) (hl : H16 l) (hf : f < 65536) : ref01_times_m (zl l) (f : Int) = some (zl (can 65536 (v16 l * f))) := by
  unfold ref01_times_m
  have h1 := v16_lt hl
  have hm := hl.2
  have a1 := at_eq hl.1
  rw [zl_len]
  generalize v16 l = V at *
  have hcl := fun i => sC_lt (B := 65536) (V := V) (f := f) (e := 0) (by decide) hf (by decide) i
  refine bind_loop (fun s => ∃ i : Nat, s = (((sC 65536 V f 0 i : Nat) : Int), (i : Int), zl (dig 65536 i (V * f))) ∧ i ≤ l.length + 1) (fun e => ∃ i, e = zl (dig 65536 i (V * f)) ∧ V * f < 65536 ^ i ∧ i ≤ l.length + 1) (fun s => l.length + 1 - s.2.1.toNat) ?_ ⟨0, by rw [sC_zero]; rfl, by omega⟩ ?_
  · rintro _ ⟨i, rfl, hi⟩
    have hc := hcl i
    have hc1 := hcl (i + 1)
    have hs1 := sC_step (B := 65536) (by decide) V f 0 i
    have hs2 := sC_dig (B := 65536) (by decide) V f 0 i
    have d1 := Nat.mod_lt (V / 65536 ^ i) (show 0 < 65536 by decide)
    have hp : V / 65536 ^ i % 65536 * f ≤ 65535 * 65535 := Nat.mul_le_mul (by omega) (by omega)
    rw [Nat.add_zero] at hs2
    simp only [bsm, letJ]
    have hcond : ∀ (K : Bool → Option ((Int × Int × List Int) ⊕ List Int)), (((bif decide ((i : Int) < (l.length : Int)) then some true else some (decide ((0 : Int) < ((sC 65536 V f 0 i : Nat) : Int)))) : Option Bool).bind K) = K (decide (i < l.length ∨ 0 < sC 65536 V f 0 i)) := by
      intro K
      by_cases q1 : i < l.length
      · simp [q1]
      · simp [q1]
    rw [hcond]
    by_cases hgo : i < l.length ∨ 0 < sC 65536 V f 0 i
    · left
      have hi' : i < l.length + 1 := by
        rcases Nat.lt_or_ge i (l.length + 1) with h | h
        · exact h
        · have hie : i = l.length + 1 := by omega
          have g3 := sC_end (B := 65536) (V := V) (f := f) (e := 0) (i := i) (Nat.lt_of_lt_of_le h1 (Nat.pow_le_pow_right (by decide) (by omega)))
          rw [Nat.add_zero, Nat.div_eq_of_lt] at g3
          · omega
          · rw [hie, Nat.pow_succ]; exact Nat.mul_lt_mul'' h1 hf
      rw [show decide (i < l.length ∨ 0 < sC 65536 V f 0 i) = true by rw [decide_eq_true_eq]; exact hgo, ctm, a1, bsm, ← Int.natCast_mul, w64_nat (by omega), w64_add (by omega), tm, td, hs1, hs2, apM1 (by decide) (by rw [zl_len, dig_len]; omega), bsm, w64_nat (by omega), w64_succ (by omega)]
      refine ⟨_, rfl, ⟨i + 1, ?_, by omega⟩, by simp only []; omega⟩
      rw [dig_succ, zl_app, zl_one]
    · right
      rw [show decide (i < l.length ∨ 0 < sC 65536 V f 0 i) = false by rw [decide_eq_false_iff_not]; exact hgo, cfm]
      refine ⟨_, rfl, i, rfl, ?_, hi⟩
      have g3 := sC_end (B := 65536) (V := V) (f := f) (e := 0) (i := i) (Nat.lt_of_lt_of_le h1 (Nat.pow_le_pow_right (by decide) (by omega)))
      rw [Nat.add_zero] at g3
      rcases Nat.lt_or_ge (V * f) (65536 ^ i) with h | h
      · exact h
      · have := Nat.div_pos h (Nat.pow_pos (by decide)); omega
  · rintro _ ⟨i, rfl, hlt, hi⟩
    rw [rtrim_eq _ (by rw [dig_len]; omega), bsm, trim_dig (by decide) hlt]
end Go.Proofs.YthgkgjogdgdcgaaGreat
namespace Go.Proofs.YthgkgjogdgdcgaaGreat
open Go.Fw
theorem v16_can (v : Nat) : v16 (can 65536 v) = v := val_can (by decide) v
theorem h16_can {v n : Nat} (h : v < 65536 ^ n) (hn : n ≤ 100000000000) : H16 (can 65536 v) := ⟨fun _ hx => can_lt (by decide) hx, Nat.le_trans ((can_len_iff (by decide)).2 h) hn⟩
theorem rmul_eq (l k : List Nat) (hl : H16 l) (hk : H16 k) (hs : l.length + k.length ≤ 90000000000) : ref01_mul_m (zl l) (zl k) = some (zl (can 65536 (v16 l * v16 k))) := by
  unfold ref01_mul_m
  have hV := v16_lt hl
  have hW := v16_lt hk
  simp only [bsm]
  rw [zl_len, zl_len, w64_add (by omega)]
  by_cases h3 : l.length + k.length ≤ 3
  · rw [show decide (((l.length + k.length : Nat) : Int) ≤ 3) = true by rw [decide_eq_true_eq]; omega, ctm, rsmall_eq l hl.1 (by omega), bsm, rsmall_eq k hk.1 (by omega), bsm, ← Int.natCast_mul]
    have hlt : v16 l * v16 k < 281474976710656 := by
      have h1 : v16 l * v16 k < 65536 ^ l.length * 65536 ^ k.length := Nat.mul_lt_mul'' hV hW
      rw [← Nat.pow_add] at h1
      have h2 : 65536 ^ (l.length + k.length) ≤ 65536 ^ 3 := Nat.pow_le_pow_right (by decide) h3
      rw [show (65536 : Nat) ^ 3 = 281474976710656 by decide] at h2
      omega
    rw [w64_nat (by omega), rback_eq _ hlt, bsm]
  · rw [show decide (((l.length + k.length : Nat) : Int) ≤ 3) = false by rw [decide_eq_false_iff_not]; omega, cfm, w64_id (by omega) (by omega)]
    refine bind_loop (fun s => ∃ (u : List Nat) (m : Nat), s = (zl u, (m : Int) - 1) ∧ m ≤ l.length ∧ (∀ x ∈ u, x < 65536) ∧ v16 u = v16 l / 65536 ^ m * v16 k ∧ u.length + m ≤ l.length + k.length) (fun e => ∃ u : List Nat, e = zl u ∧ (∀ x ∈ u, x < 65536) ∧ v16 u = v16 l * v16 k ∧ u.length ≤ l.length + k.length) (fun s => (s.2 + 1).toNat) ?_ ⟨[], l.length, rfl, Nat.le_refl _, by simp, by rw [Nat.div_eq_of_lt hV]; simp [v16, val], by simp⟩ ?_
    · rintro _ ⟨u, m, rfl, hm, hu, huv, hul⟩
      simp only []
      rcases m with _ | m
      · right
        refine ⟨_, rfl, u, rfl, hu, ?_, by omega⟩
        rw [huv, Nat.pow_zero, Nat.div_one]
      · left
        have hg := get_val hl.1 (i := m) (by omega)
        obtain ⟨d, hd⟩ : ∃ d, v16 l / 65536 ^ m % 65536 = d := ⟨_, rfl⟩
        have hdl : d < 65536 := by rw [← hd]; exact Nat.mod_lt _ (by decide)
        rw [show val 65536 l / 65536 ^ m % 65536 = d from hd] at hg
        have hst := div_step 65536 (v16 l) m
        rw [hd] at hst
        have hgi := geti_nat (zl_get hg)
        have hA : v16 l / 65536 ^ m < 65536 ^ (l.length - m) := by
          rw [Nat.div_lt_iff_lt_mul (Nat.pow_pos (by decide)), ← Nat.pow_add, show l.length - m + m = l.length by omega]; exact hV
        have hAW : v16 l / 65536 ^ m * v16 k < 65536 ^ (l.length - m + k.length) := by rw [Nat.pow_add]; exact Nat.mul_lt_mul'' hA hW
        rw [show ((m + 1 : Nat) : Int) - 1 = (m : Int) by omega, show decide ((0 : Int) ≤ (m : Int)) = true by simp, ctm, apMl (by decide) (by rw [zl_len]; simp; omega), bsm]
        have h0 : [(0 : Int)] ++ zl u = zl (0 :: u) := rfl
        have hv0 : v16 (0 :: u) = 65536 * (v16 l / 65536 ^ (m + 1)) * v16 k := by
          show 0 + 65536 * v16 u = _
          rw [huv, Nat.zero_add, Nat.mul_assoc]
        rw [h0]
        refine (show ∀ (X : Option ((List Int × Int) ⊕ List Int)), (∃ w : List Nat, X = some (.inl (zl w, IntKind.i64.wrap ((m : Int) - 1))) ∧ (∀ x ∈ w, x < 65536) ∧ v16 w = v16 l / 65536 ^ m * v16 k ∧ w.length + m ≤ l.length + k.length) → ∃ s', X = some (.inl s') ∧ (∃ (u : List Nat) (m : Nat), s' = (zl u, (m : Int) - 1) ∧ m ≤ l.length ∧ (∀ x ∈ u, x < 65536) ∧ v16 u = v16 l / 65536 ^ m * v16 k ∧ u.length + m ≤ l.length + k.length) ∧ (s'.2 + 1).toNat < ((m : Int) + 1).toNat from ?_) _ ?_
        · rintro X ⟨w, rfl, hw, hwv, hwl⟩
          rw [w64_id (by omega) (by omega)]
          exact ⟨_, rfl, ⟨w, m, rfl, by omega, hw, hwv, hwl⟩, by simp only []; omega⟩
        · have hloop := bind_loop_ex (body := fun (s22 : (List Int) × Int) =>
                  match s22 with
                  | ⟨y5l19, y7l19⟩ =>
                    (show Option (((List Int) × Int) ⊕ ((List Int))) from
                      (geti (zl l) (m : Int)).bind fun x33 =>
                      (bif decide ((y7l19 : Int) < x33) then
                          (geti (zl l) (m : Int)).bind fun x42 =>
                          (ref01_times_m (zl k) (min (1024 : Int) (IntKind.i64.wrap (x42 - y7l19)))).bind fun x47 =>
                          (ref01_add_m y5l19 x47).bind fun x48 =>
                          some (.inl (x48, IntKind.i64.wrap (y7l19 + 1024)))
                        else
                          some (.inr y5l19)))) (s := (zl (0 :: u), (0 : Int))) (f := fun y5e21 => (some (.inl (y5e21, IntKind.i64.wrap ((m : Int) - 1))) : Option ((List Int × Int) ⊕ List Int)))
            (Q := fun r => ∃ w : List Nat, r = .inl (zl w, IntKind.i64.wrap ((m : Int) - 1)) ∧ (∀ x ∈ w, x < 65536) ∧ v16 w = v16 l / 65536 ^ m * v16 k ∧ w.length + m ≤ l.length + k.length)
            (fun s => ∃ (w : List Nat) (j : Nat), s = (zl w, (j : Int)) ∧ (∀ x ∈ w, x < 65536) ∧ j ≤ 70000 ∧ v16 w = (65536 * (v16 l / 65536 ^ (m + 1)) + min j d) * v16 k ∧ w.length + m ≤ l.length + k.length)
            (fun e => ∃ w : List Nat, e = zl w ∧ (∀ x ∈ w, x < 65536) ∧ v16 w = v16 l / 65536 ^ m * v16 k ∧ w.length + m ≤ l.length + k.length) (fun s => (70000 - s.2).toNat) ?_ ⟨0 :: u, 0, rfl, by simp; exact hu, by omega, by rw [hv0]; simp, by simp; omega⟩ ?_
          · obtain ⟨r, h1, w, rfl, h2, h3, h4⟩ := hloop
            exact ⟨w, h1, h2, h3, h4⟩
          · rintro _ ⟨w, j, rfl, hw, hj, hwv, hwl⟩
            simp only []
            rw [hgi, bsm]
            by_cases hjd : j < d
            · left
              rw [show decide ((j : Int) < (d : Int)) = true by simp [hjd], ctm, bsm, w64_id (by omega) (by omega)]
              obtain ⟨f, hf⟩ : ∃ f, min 1024 (d - j) = f := ⟨_, rfl⟩
              obtain ⟨j', hj', hj2⟩ : ∃ j' : Nat, (j : Int) + 1024 = (j' : Int) ∧ j' = j + 1024 := ⟨j + 1024, by omega, rfl⟩
              have hmu : (70000 - (j' : Int)).toNat < (70000 - (j : Int)).toNat := by omega
              have hwH : H16 w := ⟨hw, by omega⟩
              have hsum : 65536 * (v16 l / 65536 ^ (m + 1)) + min j d + f ≤ v16 l / 65536 ^ m := by omega
              have hvle : v16 w + v16 k * f ≤ v16 l / 65536 ^ m * v16 k := by
                rw [hwv, Nat.mul_comm (v16 k), ← Nat.add_mul]; exact Nat.mul_le_mul_right _ hsum
              have htl : v16 k * f < 65536 ^ (k.length + 1) := by rw [Nat.pow_succ]; exact Nat.mul_lt_mul'' hW (by omega)
              rw [show min (1024 : Int) ((d : Int) - (j : Int)) = (f : Int) by omega, rtimes_eq _ _ hk (by omega), bsm, radd_eq _ _ hwH (h16_can htl (by omega)), bsm, v16_can, hj', w64_nat (by omega)]
              refine ⟨_, rfl, ⟨_, j', rfl, fun _ hx => can_lt (by decide) hx, by omega, ?_, ?_⟩, hmu⟩
              · rw [v16_can, hwv, Nat.mul_comm (v16 k), ← Nat.add_mul]; congr 1; omega
              · have := (can_len_iff (B := 65536) (by decide)).2 (Nat.lt_of_le_of_lt hvle hAW)
                omega
            · right
              rw [show decide ((j : Int) < (d : Int)) = false by rw [decide_eq_false_iff_not]; omega, cfm]
              refine ⟨_, rfl, w, rfl, hw, ?_, hwl⟩
              rw [hwv, show min j d = d by omega, ← hst]
          · rintro _ ⟨w, rfl, h1, h2, h3⟩
            exact ⟨_, rfl, w, rfl, h1, h2, h3⟩
    · rintro _ ⟨u, rfl, hu, huv, hul⟩
      rw [rtrim_eq _ (by omega), bsm, trim_can (by decide) hu, show val 65536 u = v16 l * v16 k from huv]
end Go.Proofs.YthgkgjogdgdcgaaGreat
namespace Go.Proofs.YthgkgjogdgdcgaaGreat
open Go.Fw
theorem td2 {a : Nat} : Int.tdiv (a : Int) 2 = ((a / 2 : Nat) : Int) := by
  rw [Int.tdiv_eq_ediv_of_nonneg (by omega)]; omega
theorem cmpN_le (a b : Nat) : decide (cmpN a b ≤ 0) = decide (a ≤ b) := by
  rcases Nat.lt_trichotomy a b with h | h | h
  · rw [cmpN_lt h]; simp; omega
  · rw [h, cmpN_eq]; simp
  · rw [cmpN_gt h]; simp; omega
theorem rq_dig {B : Nat} (hB : 0 < B) {d : Nat} (hd : 0 < d) (V m : Nat) : (V / B ^ (m + 1) % d * B + V / B ^ m % B) / d = V / d / B ^ m % B := by
  have h1 := q_div (B := B) hd V m
  have h2 := q_lt (B := B) hB hd V m
  rw [Nat.div_div_eq_div_mul V d, Nat.mul_comm d, ← Nat.div_div_eq_div_mul, h1, Nat.mul_add_mod]
  symm
  apply Nat.mod_eq_of_lt
  rw [Nat.div_lt_iff_lt_mul hd, Nat.mul_comm B d]; exact h2
theorem iquo_nat {a b : Nat} (h : b ≠ 0) (ha : a ≤ 9223372036854775807) : iquo (a : Int) (b : Int) = some ((a / b : Nat) : Int) := by
  unfold iquo
  rw [if_neg (by omega), Int.tdiv_eq_ediv_of_nonneg (by omega), ← Int.natCast_ediv, w64_nat (Nat.le_trans (Nat.div_le_self _ _) ha)]
theorem irem_nat {a b : Nat} (h : b ≠ 0) : irem (a : Int) (b : Int) = some ((a % b : Nat) : Int) := by
  unfold irem
  rw [if_neg (by omega), Int.tmod_eq_emod_of_nonneg (by omega), ← Int.natCast_emod]
theorem zl_zeros (n : Nat) : List.replicate n (0 : Int) = zl (dig 65536 n 0) := by rw [dig_zero, zl, List.map_replicate]; rfl
theorem halve_eq {W X : Nat} (hW : 0 < W) {k : List Nat} (hk : H16 k) (hkv : v16 k = W) {xs : List Nat} (hx : H16 xs) (hxv : v16 xs = X) (H : Nat) (hH : 0 < H) (hH2 : H ≤ 65536) (hXH : X < H * W) {R : Type} (f : Int → Option R) (r : R) (hf : f ((X / W : Nat) : Int) = some r) (hkl : k.length ≤ 90000000000) :
    (loopM (fun (s54 : Int × Int) =>
                              match s54 with
                              | ⟨y11l50, y12l50⟩ =>
                                (show Option ((Int × Int) ⊕ (Int)) from
                                  (bif (decide ((1 : Int) < (IntKind.i64.wrap (y12l50 - y11l50)))) then
                                      (ref01_times_m (zl k) (IntKind.i64.wrap (Int.tdiv (IntKind.i64.wrap (y11l50 + y12l50)) 2))).bind fun x102 =>
                                      (ref01_cmp_m x102 (zl xs)).bind fun x104 =>
                                      (bif (decide ((x104 : Int) ≤ 0)) then
                                          some (.inl (IntKind.i64.wrap (Int.tdiv (IntKind.i64.wrap (y11l50 + y12l50)) 2), y12l50))
                                        else
                                          some (.inl (y11l50, IntKind.i64.wrap (Int.tdiv (IntKind.i64.wrap (y11l50 + y12l50)) 2))))
                                    else
                                      some (.inr y11l50)))) ((0 : Int), (H : Int))).bind f = some r := by
  refine bind_loop (fun s => ∃ lo hi : Nat, s = ((lo : Int), (hi : Int)) ∧ lo < hi ∧ hi ≤ 65536 ∧ lo * W ≤ X ∧ X < hi * W) (fun e => e = ((X / W : Nat) : Int)) (fun s => (s.2 - s.1).toNat) ?_ ⟨0, H, rfl, hH, hH2, by simp, hXH⟩ (fun e he => by rw [he]; exact hf)
  rintro _ ⟨lo, hi, rfl, h1, h2, h3, h4⟩
  simp only []
  rw [w64_id (x := (hi : Int) - (lo : Int)) (by omega) (by omega)]
  by_cases hgo : 1 < hi - lo
  · left
    obtain ⟨mid, hmid⟩ : ∃ mid, (lo + hi) / 2 = mid := ⟨_, rfl⟩
    have hml : v16 k * mid < 65536 ^ (k.length + 1) := by rw [Nat.pow_succ]; exact Nat.mul_lt_mul'' (v16_lt hk) (by omega)
    rw [show decide ((1 : Int) < (hi : Int) - (lo : Int)) = true by rw [decide_eq_true_eq]; omega, ctm, w64_add (by omega), td2, hmid, w64_nat (by omega), rtimes_eq _ _ hk (by omega), bsm, rcmp_eq _ _ (h16_can hml (by omega)) hx, bsm, cmpN_le, v16_can, hkv, hxv]
    by_cases hle : W * mid ≤ X
    · rw [show decide (W * mid ≤ X) = true by simp [hle], ctm]
      exact ⟨_, rfl, ⟨mid, hi, rfl, by omega, h2, by rw [Nat.mul_comm]; exact hle, h4⟩, by simp only []; omega⟩
    · rw [show decide (W * mid ≤ X) = false by simp; omega, cfm]
      exact ⟨_, rfl, ⟨lo, mid, rfl, by omega, by omega, h3, by rw [Nat.mul_comm]; omega⟩, by simp only []; omega⟩
  · right
    rw [show decide ((1 : Int) < (hi : Int) - (lo : Int)) = false by rw [decide_eq_false_iff_not]; omega, cfm]
    refine ⟨_, rfl, ?_⟩
    have : hi = lo + 1 := by omega
    subst this
    have : X / W = lo := by
      rw [Nat.div_eq_iff hW]
      rw [Nat.add_mul, Nat.one_mul] at h4
      omega
    rw [this]
theorem rdiv_eq (V W : Nat) (hW : W ≠ 0) (hV : (can 65536 V).length ≤ 80000000000) (hWl : (can 65536 W).length ≤ 80000000000) : ref01_div_m (zl (can 65536 V)) (zl (can 65536 W)) = some (zl (can 65536 (V / W)), zl (can 65536 (V % W))) := by
  have hl16 : H16 (can 65536 V) := ⟨fun _ hx => can_lt (by decide) hx, by omega⟩
  have hk16 : H16 (can 65536 W) := ⟨fun _ hx => can_lt (by decide) hx, by omega⟩
  have hVl := lt_can_len (B := 65536) (by decide) V
  have hWlt := lt_can_len (B := 65536) (by decide) W
  have hW0 : 0 < W := by omega
  unfold ref01_div_m
  simp only [bsm, letJ, zl_len]
  obtain ⟨n, hn⟩ : ∃ n, (can 65536 V).length = n := ⟨_, rfl⟩
  by_cases h3 : n ≤ 3 ∧ (can 65536 W).length ≤ 3
  · rw [hn, show decide ((n : Int) ≤ 3) = true by rw [decide_eq_true_eq]; omega, ctm, bsm, show decide (((can 65536 W).length : Int) ≤ 3) = true by rw [decide_eq_true_eq]; omega, ctm, rsmall_eq _ hl16.1 (by omega), bsm, rsmall_eq _ hk16.1 (by omega), bsm, v16_can, v16_can]
    have hp : V < 281474976710656 := by
      rw [hn] at hVl
      have h2 : 65536 ^ n ≤ 65536 ^ 3 := Nat.pow_le_pow_right (by decide) h3.1
      rw [show (65536 : Nat) ^ 3 = 281474976710656 by decide] at h2
      omega
    have hq : V / W ≤ V := Nat.div_le_self _ _
    have hr : V % W ≤ V := Nat.mod_le _ _
    rw [iquo_nat hW (by omega), bsm, rback_eq _ (by omega), bsm, bsm, bsm, irem_nat hW, bsm, rback_eq _ (by omega), bsm]
  · have hcond : (((bif decide ((n : Int) ≤ 3) then some (decide (((can 65536 W).length : Int) ≤ 3)) else some false) : Option Bool)) = some false := by
      by_cases q1 : n ≤ 3
      · have q2 : ¬ (can 65536 W).length ≤ 3 := fun h => h3 ⟨q1, h⟩
        rw [show decide (((can 65536 W).length : Int) ≤ 3) = false by rw [decide_eq_false_iff_not]; omega]
        exact bif_same _ _
      · rw [show decide ((n : Int) ≤ 3) = false by rw [decide_eq_false_iff_not]; omega, cfm]
    rw [hn] at hVl hV
    have hQ : V / W < 65536 ^ n := Nat.lt_of_le_of_lt (Nat.div_le_self _ _) hVl
    rw [hn, hcond, bsm, cfm, mkM_of (by decide) (by omega), bsm, zl_zeros]
    have hlen : (can 65536 W).length ≠ 0 := fun e => hW (can_nil (by decide) (List.length_eq_zero_iff.1 e))
    by_cases h1 : (can 65536 W).length = 1
    · have hWs : W < 65536 := by rw [h1] at hWlt; simpa using hWlt
      have hg0 : (can 65536 W)[0]? = some W := by rw [can_get (by decide) (by omega)]; simp; exact hWs
      have hgw := geti_zero (zl_get hg0)
      rw [h1, show decide (((1 : Nat) : Int) = 1) = true by simp, ctm, w64_id (by omega) (by omega)]
      refine bind_loop_to (fun j => (((V / 65536 ^ (n - j) % W : Nat) : Int), (n : Int) - 1 - (j : Int), zl (dig 65536 n (V / W / 65536 ^ (n - j) * 65536 ^ (n - j))))) n (((V % W : Nat) : Int), zl (dig 65536 n (V / W))) ?_ (fun j hj => ?_) ?_ ?_
      · rw [Nat.sub_zero, Nat.div_eq_of_lt hVl, Nat.div_eq_of_lt hQ]; simp
      · obtain ⟨m, hm⟩ : ∃ m, n = m + j + 1 := ⟨n - j - 1, by omega⟩
        have hg : (can 65536 V)[m]? = some (V / 65536 ^ m % 65536) := can_get (by decide) (by omega)
        have hdig := rq_dig (B := 65536) (by decide) hW0 V m
        have hrem := q_mod (B := 65536) (d := W) V m
        have hrl := Nat.mod_lt (V / 65536 ^ (m + 1)) hW0
        have hdl := Nat.mod_lt (V / 65536 ^ m) (show 0 < 65536 by decide)
        have hput := ld_put (B := 65536) (by decide) (N := n) (k := m) (by omega) (V / W)
        rw [show n - j = m + 1 by omega, show n - (j + 1) = m by omega, show (n : Int) - 1 - (j : Int) = (m : Int) by omega, show (n : Int) - 1 - ((j + 1 : Nat) : Int) = (m : Int) - 1 by omega]
        simp only []
        rw [show decide ((0 : Int) ≤ (m : Int)) = true by simp, ctm, geti_nat (zl_get hg), bsm, hgw, bsm]
        rw [← hdig] at hput
        rw [hrem, ← hput]
        generalize V / 65536 ^ (m + 1) % W = r at *
        generalize V / 65536 ^ m % 65536 = d at *
        rw [w64_id (x := (r : Int) * 65536) (by omega) (by omega), w64_id (x := (r : Int) * 65536 + (d : Int)) (by omega) (by omega), show (r : Int) * 65536 + (d : Int) = ((r * 65536 + d : Nat) : Int) by omega, iquo_nat hW (by omega), bsm, bsm, irem_nat hW, bsm, cki_nat (by rw [zl_len, dig_len]; omega), bsm, stM_of (by rw [zl_len, dig_len]; omega), bsm, w64_id (x := (m : Int) - 1) (by omega) (by omega), zl_set]
      · simp only []
        rw [show decide ((0 : Int) ≤ (n : Int) - 1 - (n : Int)) = false by rw [decide_eq_false_iff_not]; omega, cfm, Nat.sub_self, Nat.pow_zero, Nat.mul_one, Nat.div_one, Nat.div_one]
      · simp only []
        rw [rtrim_eq _ (by rw [dig_len]; omega), bsm, trim_dig (by decide) hQ, show [((V % W : Nat) : Int)] = zl [V % W] from rfl, rtrim_eq _ (by simp), bsm]
        have hr := Nat.mod_lt V hW0
        rw [trim_can (B := 65536) (l := [V % W]) (by decide) (by intro y hy; simp at hy; omega)]
        simp [val]
    · rw [show decide (((can 65536 W).length : Int) = 1) = false by rw [decide_eq_false_iff_not]; omega, cfm, w64_id (by omega) (by omega)]
      refine bind_loop_to (fun j => (zl (can 65536 (V / 65536 ^ (n - j) % W)), (n : Int) - 1 - (j : Int), zl (dig 65536 n (V / W / 65536 ^ (n - j) * 65536 ^ (n - j))))) n (zl (can 65536 (V % W)), zl (dig 65536 n (V / W))) ?_ (fun j hj => ?_) ?_ ?_
      · rw [Nat.sub_zero, Nat.div_eq_of_lt hVl, Nat.div_eq_of_lt hQ]; simp [can_zero, zl]
      · obtain ⟨m, hm⟩ : ∃ m, n = m + j + 1 := ⟨n - j - 1, by omega⟩
        have hg : (can 65536 V)[m]? = some (V / 65536 ^ m % 65536) := can_get (by decide) (by omega)
        have hdig := rq_dig (B := 65536) (by decide) hW0 V m
        have hrem := q_mod (B := 65536) (d := W) V m
        have hrl := Nat.mod_lt (V / 65536 ^ (m + 1)) hW0
        have hdl := Nat.mod_lt (V / 65536 ^ m) (show 0 < 65536 by decide)
        have hXW := q_lt (B := 65536) (by decide) hW0 V m
        have hput := ld_put (B := 65536) (by decide) (N := n) (k := m) (by omega) (V / W)
        rw [show n - j = m + 1 by omega, show n - (j + 1) = m by omega, show (n : Int) - 1 - (j : Int) = (m : Int) by omega, show (n : Int) - 1 - ((j + 1 : Nat) : Int) = (m : Int) - 1 by omega]
        simp only []
        rw [← hdig] at hput
        rw [hrem, ← hput, show decide ((0 : Int) ≤ (m : Int)) = true by simp, ctm, geti_nat (zl_get hg), bsm]
        generalize V / 65536 ^ (m + 1) % W = r at *
        generalize V / 65536 ^ m % 65536 = d at *
        obtain ⟨X, hX⟩ : ∃ X, r * 65536 + d = X := ⟨_, rfl⟩
        rw [hX] at hXW ⊢
        have hrc : (can 65536 r).length ≤ (can 65536 W).length := (can_len_iff (by decide)).2 (Nat.lt_trans hrl hWlt)
        have hxl : (can 65536 X).length ≤ (can 65536 W).length + 1 := (can_len_iff (by decide)).2 (by rw [Nat.pow_succ]; exact Nat.lt_trans hXW (Nat.mul_lt_mul_of_pos_right hWlt (by decide)))
        have hval : val 65536 (d :: can 65536 r) = X := by
          show d + 65536 * val 65536 (can 65536 r) = X
          rw [val_can (by decide)]; omega
        have hx16 : H16 (can 65536 X) := ⟨fun _ hx => can_lt (by decide) hx, by omega⟩
        rw [apMl (by decide) (by rw [zl_len]; simp; omega), bsm, show [(d : Int)] ++ zl (can 65536 r) = zl (d :: can 65536 r) from rfl, rtrim_eq _ (by simp; omega), bsm, trim_can (B := 65536) (by decide) (by intro y hy; simp at hy; rcases hy with rfl | hy; exact hdl; exact can_lt (by decide) hy), hval]
        have hqW : W * (X / W) ≤ X := Nat.mul_div_le X W
        have hq16 : X / W < 65536 := by rw [Nat.div_lt_iff_lt_mul hW0, Nat.mul_comm]; exact hXW
        have hfin : ((ref01_times_m (zl (can 65536 W)) ((X / W : Nat) : Int)).bind fun x114 => (ref01_sub_m (zl (can 65536 X)) x114).bind fun x115 => (cki (zl (dig 65536 n (V / W / 65536 ^ (m + 1) * 65536 ^ (m + 1)))) (m : Int)).bind fun x116 => (stM (zl (dig 65536 n (V / W / 65536 ^ (m + 1) * 65536 ^ (m + 1)))) x116 ((X / W : Nat) : Int)).bind fun l58 => (some (.inl (x115, IntKind.i64.wrap ((m : Int) - 1), l58)) : Option ((List Int × Int × List Int) ⊕ (List Int × List Int)))) = some (.inl (zl (can 65536 (X % W)), (m : Int) - 1, zl ((dig 65536 n (V / W / 65536 ^ (m + 1) * 65536 ^ (m + 1))).set m (X / W)))) := by
          rw [rtimes_eq _ _ hk16 hq16, bsm, v16_can, rsub_eq _ _ hx16 (h16_can (Nat.lt_of_le_of_lt hqW (lt_can_len (by decide) X)) (by omega)) (by rw [v16_can, v16_can]; exact hqW), bsm, v16_can, v16_can, cki_nat (by rw [zl_len, dig_len]; omega), bsm, stM_of (by rw [zl_len, dig_len]; omega), bsm, w64_id (x := (m : Int) - 1) (by omega) (by omega), zl_set, ← Nat.mod_eq_sub_mul_div]
        rw [zl_len]
        by_cases hsh : (can 65536 X).length < (can 65536 W).length
        · rw [show decide (((can 65536 X).length : Int) < ((can 65536 W).length : Int)) = true by rw [decide_eq_true_eq]; omega, ctm]
          exact halve_eq hW0 hk16 (v16_can W) hx16 (v16_can X) 1 (by decide) (by decide) (by rw [Nat.one_mul]; exact can_lt_len (by decide) hsh) _ _ hfin (by omega)
        · rw [show decide (((can 65536 X).length : Int) < ((can 65536 W).length : Int)) = false by rw [decide_eq_false_iff_not]; omega, cfm]
          exact halve_eq hW0 hk16 (v16_can W) hx16 (v16_can X) 65536 (by decide) (by decide) (by rw [Nat.mul_comm]; exact hXW) _ _ hfin (by omega)
      · simp only []
        rw [show decide ((0 : Int) ≤ (n : Int) - 1 - (n : Int)) = false by rw [decide_eq_false_iff_not]; omega, cfm, Nat.sub_self, Nat.pow_zero, Nat.mul_one, Nat.div_one, Nat.div_one]
      · simp only []
        rw [rtrim_eq _ (by rw [dig_len]; omega), bsm, trim_dig (by decide) hQ]
end Go.Proofs.YthgkgjogdgdcgaaGreat
namespace Go.Proofs.YthgkgjogdgdcgaaGreat
open Go.Fw
theorem c16_len0 {v : Nat} : (can 65536 v).length = 0 ↔ v = 0 := by
  constructor
  · intro h; exact can_nil (by decide) (List.length_eq_zero_iff.1 h)
  · intro h; rw [h, can_zero]; rfl
theorem c16H {v : Nat} (h : (can 65536 v).length ≤ 100000000000) : H16 (can 65536 v) := ⟨fun _ hx => can_lt (by decide) hx, h⟩
theorem rSign_eq {x : Zr} (h : Wl x) : ref01_Sign_m x = some (zi x).sign := by
  unfold ref01_Sign_m
  simp only [halves_of h, bsm, zl_len]
  have hz := c16_len0 (v := (zi x).natAbs)
  have hneg : x.neg = true → zi x ≤ 0 := fun e => by unfold zi; rw [e]; simp [sv]
  have hpos : x.neg = false → 0 ≤ zi x := fun e => by unfold zi; rw [e]; simp [sv]
  by_cases h0 : zi x = 0
  · rw [h0]; rfl
  · rw [show decide (((can 65536 (zi x).natAbs).length : Int) = 0) = false by rw [decide_eq_false_iff_not]; omega, cfm]
    cases hn : x.neg
    · have := hpos hn
      rw [cfm, Int.sign_eq_one_of_pos (by omega)]
    · have := hneg hn
      rw [ctm, Int.sign_eq_neg_one_of_neg (by omega)]
theorem rCmp_eq {x y : Zr} (hx : Wl x) (hy : Wl y) : ref01_Cmp_m x y = some (cmpI (zi x) (zi y)) := by
  have cx := hx.c16
  have cy := hy.c16
  unfold ref01_Cmp_m
  simp only [zeta', rSign_eq hx, rSign_eq hy, bsm, halves_of hx, halves_of hy]
  rw [rcmp_eq _ _ (c16H (by omega)) (c16H (by omega)), v16_can, v16_can]
  simp only [bsm]
  generalize zi x = i
  generalize zi y = j
  rw [cmpI_nat]
  rcases Int.lt_trichotomy i 0 with h1 | h1 | h1 <;> rcases Int.lt_trichotomy j 0 with h2 | h2 | h2
  · rw [Int.sign_eq_neg_one_of_neg h1, Int.sign_eq_neg_one_of_neg h2, show (i.natAbs : Int) = -i by omega, show (j.natAbs : Int) = -j by omega, cmpI_neg]
    show some (IntKind.i64.wrap (0 - cmpI j i)) = _
    rw [cmpI_flip]
  · rw [Int.sign_eq_neg_one_of_neg h1, show Int.sign j = 0 by rw [h2]; rfl, show cmpI i j = -1 from cmpI_lt (by omega)]; rfl
  · rw [Int.sign_eq_neg_one_of_neg h1, Int.sign_eq_one_of_pos h2, show cmpI i j = -1 from cmpI_lt (by omega)]; rfl
  · rw [show Int.sign i = 0 by rw [h1]; rfl, Int.sign_eq_neg_one_of_neg h2, show cmpI i j = 1 from cmpI_gt (by omega)]; rfl
  · rw [h1, h2]; rfl
  · rw [show Int.sign i = 0 by rw [h1]; rfl, Int.sign_eq_one_of_pos h2, show cmpI i j = -1 from cmpI_lt (by omega)]; rfl
  · rw [Int.sign_eq_one_of_pos h1, Int.sign_eq_neg_one_of_neg h2, show cmpI i j = 1 from cmpI_gt (by omega)]; rfl
  · rw [Int.sign_eq_one_of_pos h1, show Int.sign j = 0 by rw [h2]; rfl, show cmpI i j = 1 from cmpI_gt (by omega)]; rfl
  · rw [Int.sign_eq_one_of_pos h1, Int.sign_eq_one_of_pos h2, show (i.natAbs : Int) = i by omega, show (j.natAbs : Int) = j by omega]; rfl
theorem svz (x : Zr) : sv x.neg (zi x).natAbs = zi x := by rw [zi_abs]; rfl
theorem rNeg_eq {x : Zr} (hx : Wl x) : ref01_Neg_m x = some (zn (-zi x)) := by
  have cx := hx.c16
  unfold ref01_Neg_m
  simp only [bsm, halves_of hx]
  rw [of_can _ _ (by omega), bsm, sv_not, svz]
theorem rAbs_eq {x : Zr} (hx : Wl x) : ref01_Abs_m x = some (zn ((zi x).natAbs : Int)) := by
  have cx := hx.c16
  unfold ref01_Abs_m
  simp only [bsm, halves_of hx]
  rw [of_can _ _ (by omega), bsm, sv_false]
theorem rAdd_eq {x y : Zr} (hx : Wl x) (hy : Wl y) : ref01_Add_m x y = some (zn (zi x + zi y)) := by
  have cx := hx.c16
  have cy := hy.c16
  unfold ref01_Add_m
  simp only [bsm, halves_of hx, halves_of hy]
  have ex := svz x
  have ey := svz y
  generalize (zi x).natAbs = a at *
  generalize (zi y).natAbs = b at *
  have la := lt_can_len (B := 65536) (by decide) a
  have lb := lt_can_len (B := 65536) (by decide) b
  rw [← ex, ← ey]
  generalize x.neg = n
  generalize y.neg = m
  by_cases hnm : n = m
  · subst hnm
    have hl : (can 65536 (a + b)).length ≤ max (can 65536 a).length (can 65536 b).length + 1 := by
      apply (can_len_iff (by decide)).2
      have h1 : a < 65536 ^ max (can 65536 a).length (can 65536 b).length := Nat.lt_of_lt_of_le la (Nat.pow_le_pow_right (by decide) (by omega))
      have h2 : b < 65536 ^ max (can 65536 a).length (can 65536 b).length := Nat.lt_of_lt_of_le lb (Nat.pow_le_pow_right (by decide) (by omega))
      rw [Nat.pow_succ]; omega
    rw [show (n == n) = true by simp, ctm, radd_eq _ _ (c16H (by omega)) (c16H (by omega)), bsm, v16_can, v16_can, of_can _ _ (by omega), bsm, show sv n (a + b) = sv n a + sv n b by cases n <;> simp [sv]; omega]
  · have hm : m = !n := by cases n <;> cases m <;> simp_all
    subst hm
    rw [show (n == !n) = false by cases n <;> rfl, cfm, rcmp_eq _ _ (c16H (by omega)) (c16H (by omega)), bsm, v16_can, v16_can]
    by_cases hlt : b ≤ a
    · have hc : decide ((0 : Int) ≤ cmpN a b) = true := by
        rw [decide_eq_true_eq]
        rcases Nat.lt_or_ge b a with h | h
        · rw [cmpN_gt h]; decide
        · rw [show a = b by omega, cmpN_eq]; decide
      have hl : (can 65536 (a - b)).length ≤ (can 65536 a).length := (can_len_iff (by decide)).2 (by omega)
      rw [hc, ctm, rsub_eq _ _ (c16H (by omega)) (c16H (by omega)) (by rw [v16_can, v16_can]; exact hlt), bsm, v16_can, v16_can, of_can _ _ (by omega), bsm, show sv n (a - b) = sv n a + sv (!n) b by cases n <;> simp [sv] <;> omega]
    · have hc : decide ((0 : Int) ≤ cmpN a b) = false := by rw [cmpN_lt (by omega)]; decide
      have hl : (can 65536 (b - a)).length ≤ (can 65536 b).length := (can_len_iff (by decide)).2 (by omega)
      rw [hc, cfm, rsub_eq _ _ (c16H (by omega)) (c16H (by omega)) (by rw [v16_can, v16_can]; omega), bsm, v16_can, v16_can, of_can _ _ (by omega), bsm, show sv (!n) (b - a) = sv n a + sv (!n) b by cases n <;> simp [sv] <;> omega]
theorem rMul_eq {x y : Zr} (hx : Wl x) (hy : Wl y) : ref01_Mul_m x y = some (zn (zi x * zi y)) := by
  have cx := hx.c16
  have cy := hy.c16
  unfold ref01_Mul_m
  simp only [bsm, halves_of hx, halves_of hy]
  have ex := svz x
  have ey := svz y
  generalize (zi x).natAbs = a at *
  generalize (zi y).natAbs = b at *
  have la := lt_can_len (B := 65536) (by decide) a
  have lb := lt_can_len (B := 65536) (by decide) b
  have hl : (can 65536 (a * b)).length ≤ (can 65536 a).length + (can 65536 b).length := by
    apply (can_len_iff (by decide)).2
    rw [Nat.pow_add]; exact Nat.mul_lt_mul'' la lb
  rw [rmul_eq _ _ (c16H (by omega)) (c16H (by omega)) (by omega), bsm, v16_can, v16_can, of_can _ _ (by omega), bsm, sv_mul, ex, ey]
theorem rDiv_eq {x y : Zr} (hx : Wl x) (hy : Wl y) : ref01_Div_m x y = some (dmOf (zi x) (zi y)) := by
  have cx := hx.c16
  have cy := hy.c16
  unfold ref01_Div_m
  simp only [bsm, letJ, halves_of hx, halves_of hy, zl_len]
  have ex := svz x
  have ey := svz y
  generalize (zi x).natAbs = a at *
  generalize (zi y).natAbs = b at *
  rw [← ex, ← ey]
  generalize x.neg = n
  generalize y.neg = m
  by_cases h0 : b = 0
  · subst h0
    rw [show sv m 0 = 0 by cases m <;> rfl]; rfl
  · have hlen0 : (can 65536 b).length ≠ 0 := fun h => h0 (c16_len0.1 h)
    have hm : a % b < b := Nat.mod_lt _ (by omega)
    have la := lt_can_len (B := 65536) (by decide) a
    have lb := lt_can_len (B := 65536) (by decide) b
    obtain ⟨e1, e2⟩ := sv_div n m (a := a) (show 0 < b by omega)
    have hj : sv m b ≠ 0 := by cases m <;> simp [sv] <;> omega
    have hq : (can 65536 (a / b)).length ≤ (can 65536 a).length := (can_len_iff (by decide)).2 (Nat.lt_of_le_of_lt (Nat.div_le_self _ _) la)
    have hr : (can 65536 (a % b)).length ≤ (can 65536 b).length := (can_len_iff (by decide)).2 (Nat.lt_trans hm lb)
    rw [show decide (((can 65536 b).length : Int) = 0) = false by rw [decide_eq_false_iff_not]; omega, cfm, rdiv_eq a b h0 (by omega) (by omega), bsm, dmOf, if_neg hj, e1, e2]
    simp only [zl_len]
    have hz := c16_len0 (v := a % b)
    have hK : ∀ c : Bool, (decide (n = true ∧ 0 < a % b) = c) → (bif c then (ref01_add_m (zl (can 65536 (a / b))) [1]).bind fun x37 => (ref01_sub_m (zl (can 65536 b)) (zl (can 65536 (a % b)))).bind fun x40 => (ref01_of_m (!(n == m)) x37).bind fun x => (ref01_of_m false x40).bind fun x_1 => some ((⟨x.neg, x.w⟩ : Zr), (⟨x_1.neg, x_1.w⟩ : Zr), (0 : Int))
        else (ref01_of_m (!(n == m)) (zl (can 65536 (a / b)))).bind fun x => (ref01_of_m false (zl (can 65536 (a % b)))).bind fun x_1 => some ((⟨x.neg, x.w⟩ : Zr), (⟨x_1.neg, x_1.w⟩ : Zr), (0 : Int))) =
        some (zn (if n = true ∧ 0 < a % b then sv (!(n == m)) (a / b + 1) else sv (!(n == m)) (a / b)), zn (if n = true ∧ 0 < a % b then ((b - a % b : Nat) : Int) else ((a % b : Nat) : Int)), 0) := by
      intro c hc
      cases c
      · have hc' := of_decide_eq_false hc
        rw [cfm, if_neg hc', if_neg hc', of_can _ _ (by omega), bsm, of_can _ _ (by omega), bsm, sv_false]
      · have hc' := of_decide_eq_true hc
        have hq1 : (can 65536 (a / b + 1)).length ≤ (can 65536 a).length + 1 := by
          apply (can_len_iff (by decide)).2
          have : a / b ≤ a := Nat.div_le_self _ _
          rw [Nat.pow_succ]; omega
        have hbr : (can 65536 (b - a % b)).length ≤ (can 65536 b).length := (can_len_iff (by decide)).2 (by omega)
        rw [ctm, if_pos hc', if_pos hc', show [(1 : Int)] = zl [1] from rfl, radd_eq _ _ (c16H (by omega)) ⟨by simp, by simp⟩, bsm, v16_can, show v16 [1] = 1 by decide, rsub_eq _ _ (c16H (by omega)) (c16H (by omega)) (by rw [v16_can, v16_can]; omega), bsm, v16_can, v16_can, of_can _ _ (by omega), bsm, of_can _ _ (by omega), bsm, sv_false]
    cases n
    · rw [cfm, bsm]
      exact hK false (by simp)
    · rw [ctm, bsm]
      refine hK _ ?_
      simp only [true_and]
      by_cases h : 0 < a % b
      · rw [show decide (0 < a % b) = true by simp [h], show decide ((0 : Int) < ((can 65536 (a % b)).length : Int)) = true by rw [decide_eq_true_eq]; omega]
      · rw [show decide (0 < a % b) = false by simp [h], show decide ((0 : Int) < ((can 65536 (a % b)).length : Int)) = false by rw [decide_eq_false_iff_not]; omega]
end Go.Proofs.YthgkgjogdgdcgaaGreat
namespace Go.Proofs.YthgkgjogdgdcgaaGreat
open Go.Fw
theorem rGcd_eq {x y : Zr} (hx : Wl x) (hy : Wl y) : ref01_Gcd_m x y = some (zn (Int.gcd (zi x) (zi y) : Int)) := by
  have cx := hx.c16
  have cy := hy.c16
  unfold ref01_Gcd_m
  simp only [bsm, halves_of hx, halves_of hy]
  rw [Int.gcd]
  generalize (zi x).natAbs = a at *
  generalize (zi y).natAbs = b at *
  refine bind_loop (fun s => ∃ c d, s = (zl (can 65536 c), zl (can 65536 d)) ∧ Nat.gcd c d = Nat.gcd a b ∧ (can 65536 c).length ≤ 20000000000 ∧ (can 65536 d).length ≤ 20000000000)
    (fun e => e = zl (can 65536 (Nat.gcd a b)) ∧ (can 65536 (Nat.gcd a b)).length ≤ 20000000000) (fun s => val 65536 (s.2.map Int.toNat)) ?_ ⟨a, b, rfl, rfl, cx, cy⟩ ?_
  · rintro _ ⟨c, d, rfl, hg, hc, hd⟩
    simp only [zl_len]
    have hzl : ∀ l : List Nat, (zl l).map Int.toNat = l := fun l => by
      rw [zl, List.map_map]
      have : (Int.toNat ∘ fun (n : Nat) => (n : Int)) = id := by funext n; simp
      rw [this, List.map_id]
    by_cases h0 : d = 0
    · right
      subst h0
      rw [Nat.gcd_zero_right] at hg
      subst hg
      exact ⟨_, rfl, rfl, hc⟩
    · left
      have hlen0 : (can 65536 d).length ≠ 0 := fun h => h0 (c16_len0.1 h)
      have hm : c % d < d := Nat.mod_lt _ (by omega)
      rw [show decide ((0 : Int) < ((can 65536 d).length : Int)) = true by rw [decide_eq_true_eq]; omega, ctm, rdiv_eq c d h0 (by omega) (by omega), bsm]
      refine ⟨_, rfl, ⟨d, c % d, rfl, ?_, hd, ?_⟩, ?_⟩
      · rw [← hg, Nat.gcd_comm d, ← Nat.gcd_rec, Nat.gcd_comm]
      · exact Nat.le_trans ((can_len_iff (by decide)).2 (Nat.lt_trans hm (lt_can_len (by decide) d))) hd
      · simp only []
        rw [hzl, hzl, val_can (by decide), val_can (by decide)]; exact hm
  · rintro _ ⟨rfl, hl⟩
    rw [of_can _ _ (by omega), bsm, sv_false]
end Go.Proofs.YthgkgjogdgdcgaaGreat
namespace Go.Proofs.YthgkgjogdgdcgaaGreat
open Go.Fw
theorem rone_eq : ref02_one_m = some (zn 1) := by
  unfold ref02_one_m
  simp only [zeta', bsm, from_eq (x := 1) (by decide)]
section ops
variable {L M : Nat} {a b : Qr} {x y : Rat}
theorem rparts_eq (h : Rep L a x) (hL : L ≤ 10000000000) : ∃ n d : Int, ref02_num_m a = some (zn n) ∧ ref02_den_m a = some (zn d) ∧ 0 < d ∧ Rat.divInt n d = x ∧ Fit L n ∧ Fit L d := by
  have wn := h.wn hL
  have wd := h.wd hL
  have hv := h.v
  unfold ref02_num_m ref02_den_m
  simp only [zeta', bsm, rSign_eq wd, rone_eq, rNeg_eq wn, rAbs_eq wd, least_eq wn]
  unfold qv qd at hv
  rcases Int.lt_trichotomy (zi a.den) 0 with h1 | h1 | h1
  · refine ⟨-zi a.num, -zi a.den, ?_, ?_, by omega, ?_, h.fn.neg, h.fd.neg⟩
    · rw [Int.sign_eq_neg_one_of_neg h1]; rfl
    · rw [Int.sign_eq_neg_one_of_neg h1, show ((zi a.den).natAbs : Int) = -zi a.den by omega]; rfl
    · rw [Rat.neg_divInt_neg, ← hv, if_neg (by omega)]
  · refine ⟨zi a.num, 1, ?_, ?_, by decide, ?_, h.fn, fit_one h.l1⟩
    · rw [h1]; rfl
    · rw [h1]; rfl
    · rw [← hv, if_pos h1]
  · refine ⟨zi a.num, zi a.den, ?_, ?_, h1, ?_, h.fn, h.fd⟩
    · rw [Int.sign_eq_one_of_pos h1]; rfl
    · rw [Int.sign_eq_one_of_pos h1, show ((zi a.den).natAbs : Int) = zi a.den by omega]; rfl
    · rw [← hv, if_neg (by omega)]
theorem over_eq {n d : Int} (hn : Fit L n) (hd : Fit L d) (hL : L ≤ 10000000000) (h : 0 < d) : ref02_over_m (zn n) (zn d) = some (qn (Rat.divInt n d)) := by
  have wn := wl_zn hn hL
  have wd := wl_zn hd hL
  have g0 : (Int.gcd n d : Int) ≠ 0 := by
    have : 0 < Int.gcd n d := Int.gcd_pos_of_ne_zero_right _ (by omega)
    omega
  have wg : Wl (zn (Int.gcd n d : Int)) := wl_zn (hd.le (by
    have := Nat.le_of_dvd (Int.natAbs_pos.2 (show d ≠ 0 by omega)) (Int.gcd_dvd_natAbs_right n d)
    simpa using this)) hL
  have wq : Wl (zn (d / (Int.gcd n d : Int))) := wl_zn (hd.le (Int.natAbs_ediv_le_natAbs _ _)) hL
  have one : i64ok 1 := by decide
  unfold ref02_over_m
  simp only [zeta', bsm, rGcd_eq wn wd, rDiv_eq wn wg, rDiv_eq wd wg, rone_eq, zi_zn]
  rw [dmOf, if_neg g0, dmOf, if_neg g0]
  simp only []
  rw [rCmp_eq wq (wl_small one), bsm, zi_zn, zi_zn, qn_divInt h]
  by_cases e : d / (Int.gcd n d : Int) = 1
  · rw [e, cmpI_self, if_pos rfl]; rfl
  · have : cmpI (d / (Int.gcd n d : Int)) 1 ≠ 0 := by
      rcases Int.lt_trichotomy (d / (Int.gcd n d : Int)) 1 with q | q | q
      · rw [cmpI_lt q]; decide
      · exact absurd q e
      · rw [cmpI_gt q]; decide
    rw [decide_eq_false this, cfm, if_neg e]
theorem rIs_eq (h1 : a.num.w.length ≤ 100000000000) (h2 : a.den.w.length ≤ 100000000000) : ∃ c, ref02_Is_m a b = some c ∧ (c = true ↔ a = b) := by
  obtain ⟨c1, e1, k1⟩ := same_eq (x := a.num) (y := b.num) h1
  obtain ⟨c2, e2, k2⟩ := same_eq (x := a.den) (y := b.den) h2
  unfold ref02_Is_m
  simp only [zeta', bsm, letJ, e1, e2]
  have hab : a = b ↔ a.num = b.num ∧ a.den = b.den := by
    constructor
    · rintro rfl; exact ⟨rfl, rfl⟩
    · rintro ⟨e1, e2⟩; rw [← zetaP a, ← zetaP b, e1, e2]
  rw [hab, ← k1, ← k2]
  cases c1
  · exact ⟨false, rfl, by simp⟩
  · exact ⟨c2, rfl, by simp⟩
theorem Rep.rneg (ha : Rep L a x) (h : L ≤ 10000000000) : ref02_Neg_m a = some (qn (-x)) := by
  obtain ⟨n, d, e1, e2, h1, h2, f1, f2⟩ := rparts_eq ha h
  unfold ref02_Neg_m
  simp only [zeta', zetaQ, zetaP, e1, e2, bsm, rNeg_eq (wl_zn f1 h), zi_zn, over_eq f1.neg f2 h h1]
  rw [← Rat.neg_divInt, h2]
theorem Rep.radd (ha : Rep L a x) (hb : Rep M b y) (h : L + M ≤ 4000000000) : ref02_Add_m a b = some (qn (x + y)) := by
  obtain ⟨n, d, e1, e2, h1, h2, f1, f2⟩ := rparts_eq ha (by omega)
  obtain ⟨m, c, e3, e4, h3, h4, f3, f4⟩ := rparts_eq hb (by omega)
  unfold ref02_Add_m
  have u1 := (f1.mul f4)
  have u2 := (f3.mul f2).mono (show M + L ≤ L + M by omega)
  simp only [zeta', zetaQ, zetaP, e1, e2, e3, e4, bsm, rMul_eq (wl_zn f1 (by omega)) (wl_zn f4 (by omega)), rMul_eq (wl_zn f3 (by omega)) (wl_zn f2 (by omega)), zi_zn, rAdd_eq (wl_zn u1 (by omega)) (wl_zn u2 (by omega)), rMul_eq (wl_zn f2 (by omega)) (wl_zn f4 (by omega)), over_eq (u1.add u2) ((f2.mul f4).mono (by omega)) (show L + M + 1 ≤ 10000000000 by omega) (Int.mul_pos h1 h3)]
  rw [← h2, ← h4, Rat.divInt_add_divInt _ _ (by omega) (by omega)]
theorem Rep.rsub (ha : Rep L a x) (hb : Rep M b y) (h : L + M ≤ 4000000000) : ref02_Sub_m a b = some (qn (x - y)) := by
  unfold ref02_Sub_m
  have r : Rep M (qn (-y)) (-y) := hb.fq.neg.rep hb.l1
  simp only [zeta', zetaQ, zetaP, hb.rneg (by omega), bsm, ha.radd r h]
  rw [← Rat.sub_eq_add_neg]
end ops
end Go.Proofs.YthgkgjogdgdcgaaGreat
namespace Go.Proofs.YthgkgjogdgdcgaaGreat
open Go.Fw
theorem letJ_of {J R : Type} {f : J → Option R} {g : (J → Option R) → Option R} {r : Option R} (h : g f = r) : letJ f g = r := h
theorem letJ_eq {J R : Type} (f : J → Option R) (g : (J → Option R) → Option R) : letJ f g = g f := rfl
section ops
variable {K L M : Nat} {c : Qr} {a b : List Qr} {k : Rat} {f g : Nat → Rat}
theorem vints {l : List Int} (hl : ∀ x ∈ l, i64ok x) (h : l.length ≤ 1000000) : vec_FromInts_m l = some (vq l.length fun i => ((l.getD i 0 : Int) : Rat)) ∧ RepV 2 (vq l.length fun i => ((l.getD i 0 : Int) : Rat)) (fun i => ((l.getD i 0 : Int) : Rat)) := by
  have hx : ∀ i, i64ok (l.getD i 0) := fun i => by
    by_cases hi : i < l.length
    · rw [List.getD_eq_getElem?_getD, List.getElem?_eq_getElem hi]; exact hl _ (List.getElem_mem hi)
    · rw [List.getD_eq_getElem?_getD, List.getElem?_eq_none (by omega)]; decide
  refine ⟨?_, vq_rep (fun i _ => (fromInt64_eq (hx i)).2.fq) (fun i hi => ?_) (by decide)⟩
  · unfold vec_FromInts_m
    refine bind_eq rfl <| bind_eq (mkM_of (by omega) (by omega)) <| bind_eq rfl ?_
    refine bind_loop_to (fun j => ((j : Int), vq j (fun i => ((l.getD i 0 : Int) : Rat)) ++ List.replicate (l.length - j) qz)) l.length (vq l.length fun i => ((l.getD i 0 : Int) : Rat)) rfl (fun j hj => ?_) ?_ rfl
    · have e3 := (fromInt64_eq (hx j)).1
      have h4 := vq_set (h := fun i => ((l.getD i 0 : Int) : Rat)) hj
      obtain ⟨q3, h3⟩ : ∃ q, qn ((l.getD j 0 : Int) : Rat) = q := ⟨_, rfl⟩
      rw [h3] at e3 h4
      obtain ⟨⟨_, _⟩, ⟨_, _⟩⟩ := q3
      refine bind_eq rfl <| bif_t (decide_eq_true (by omega)) <| bind_eq (geti_nat (get_getD' hj)) <| bind_eq e3 <| bind_eq (cki_nat (by rw [vqz_len (by omega)]; exact hj)) <| bind_eq (stM_of (by rw [vqz_len (by omega)]; exact hj)) <| bind_eq rfl ?_
      rw [w64_succ (by omega), h4]
    · refine bind_eq rfl <| bif_f (decide_eq_false (by omega)) ?_
      simp
  · show ((l.getD i 0 : Int) : Rat) = 0
    rw [getD_of_le' hi]; rfl
end ops
end Go.Proofs.YthgkgjogdgdcgaaGreat
namespace Go.Proofs.YthgkgjogdgdcgaaGreat
open Go.Fw
abbrev OkQ (q : Qr) : Prop := OkZ q.num ∧ OkZ q.den
theorem rep_of {q : Qr} {L : Nat} (h : OkQ q) (h1 : q.num.w.length ≤ L) (h2 : q.den.w.length ≤ L) (hL : 1 ≤ L) : Rep L q (qv q) := ⟨h.1.2.2, h.2.2.2, h1, h2, hL, rfl⟩
end Go.Proofs.YthgkgjogdgdcgaaGreat
namespace Go.Proofs.YthgkgjogdgdcgaaGreat
open Go.Fw
theorem Rep.eqT {L M : Nat} {a b : Qr} {x y : Rat} (ha : Rep L a x) (hb : Rep M b y) (e : x = y) (h : L + M ≤ 4000000000) : frac_Equal_m a b = some true := by
  rw [ha.eq hb h, decide_eq_true e]
end Go.Proofs.YthgkgjogdgdcgaaGreat
namespace Go.Proofs.YthgkgjogdgdcgaaGreat
open Go.Fw
theorem dT {p : Prop} [Decidable p] (h : p) : (some (decide p) : Option Bool) = some true := congrArg some (decide_eq_true h)
theorem dF {p : Prop} [Decidable p] (h : ¬ p) : (some (decide p) : Option Bool) = some false := congrArg some (decide_eq_false h)
theorem andT {β : Type} {x : Option Bool} {f : Bool → Option β} {r : Option β} {y : Option Bool} (h : x = some true) (hf : f true = r) : (bif true then x else y).bind f = r := by rw [ctm, h]; exact hf
theorem orC {β : Type} {b c : Bool} {x : Option Bool} {f : Bool → Option β} {r : Option β} (h : b = false → x = some c) (hf : f (b || c) = r) : (bif b then some true else x).bind f = r := by
  cases b
  · rw [cfm, h rfl]; exact hf
  · rw [ctm]; exact hf
section ops
variable {K L M : Nat} {a b c : Qr} {x y z : Rat}
theorem Rep.add' (ha : Rep L a x) (hb : Rep M b y) (h : L + M ≤ 4000000000) : ∃ q, frac_Add_m a b = some q ∧ Rep (L + M + 1) q (x + y) := ⟨_, ha.add hb h⟩
theorem Rep.sub' (ha : Rep L a x) (hb : Rep M b y) (h : L + M ≤ 4000000000) : ∃ q, frac_Sub_m a b = some q ∧ Rep (L + M + 1) q (x - y) := ⟨_, ha.sub hb h⟩
theorem Rep.mul' (ha : Rep L a x) (hb : Rep M b y) (h : L + M ≤ 4000000000) : ∃ q, frac_Mul_m a b = some q ∧ Rep (L + M) q (x * y) := ⟨_, ha.mul hb h⟩
theorem Rep.neg' (ha : Rep L a x) (h : L ≤ 10000000000) : ∃ q, frac_Neg_m a = some q ∧ Rep L q (-x) := ⟨_, ha.neg h⟩
theorem Rep.canon' (ha : Rep L a x) (h : L ≤ 10000000000) : ∃ q, frac_Canonical_m a = some q ∧ Rep L q x := ⟨_, ha.canon h⟩
theorem int' {n : Int} (hn : i64ok n) : ∃ q, frac_FromInt64_m n = some q ∧ Rep 2 q (n : Rat) := ⟨_, fromInt64_eq hn⟩
theorem vints' {l : List Int} (hl : ∀ x ∈ l, i64ok x) (h : l.length ≤ 1000000) : ∃ v, vec_FromInts_m l = some v ∧ RepV 2 v (fun i => ((l.getD i 0 : Int) : Rat)) ∧ v.length = l.length := ⟨_, (vints hl h).1, (vints hl h).2, vq_len _ _⟩
end ops
theorem RepV.val {L : Nat} {v : List Qr} {f : Nat → Rat} (h : RepV L v f) (i : Nat) : f i = vval v i := (h.at i).v.symm
theorem RepV.of {L n : Nat} {v : List Qr} {f : Nat → Rat} (hn : v.length = n) (h : ∀ i q, v[i]? = some q → Rep L q (f i)) (h1 : 1 ≤ L) : RepV L v (fun i => if i < n then f i else 0) := by
  refine ⟨fun i hi => ?_, fun i hi => ?_, h1⟩
  · show Rep L v[i] (if i < n then f i else 0)
    rw [if_pos (by omega)]; exact h i _ (List.getElem?_eq_getElem hi)
  · show (if i < n then f i else 0) = 0
    rw [if_neg (by omega)]
theorem rat33 (a : List Qr) (i : Nat) : ref33_At_m a (i : Int) = some (qat a i) := by
  unfold ref33_At_m qat
  rw [letJ_eq]
  by_cases h : i < a.length
  · refine bind_eq (dF (by omega)) <| bind_eq (a := false) (bif_f rfl <| bind_eq rfl <| bind_eq (dF (by omega)) rfl) <| bif_f rfl <| bind_eq (geti_nat (get_getD' (d := qz) h)) rfl
  · refine bind_eq (dF (by omega)) <| bind_eq (a := true) (bif_f rfl <| bind_eq rfl <| bind_eq (dT (by omega)) rfl) <| bif_t rfl ?_
    rw [getD_of_le' (by omega)]; rfl
abbrev szZ (z : Zr) : Nat := 1 + ((z.w.map fun _ => 1).sum + 1) + 1
abbrev szQ (q : Qr) : Nat := szZ q.num + szZ q.den + 1
abbrev szV (v : List Qr) : Nat := (v.map fun x => szQ x).sum + 1
abbrev szI (l : List Int) : Nat := (l.map fun _ => 1).sum + 1
theorem sum_mem {α : Type} (f : α → Nat) : ∀ {l : List α} {x : α}, x ∈ l → f x ≤ (l.map f).sum
  | y :: l, x, h => by
    rw [List.map_cons, List.sum_cons]
    rcases List.mem_cons.1 h with rfl | h
    · omega
    · have := sum_mem f h; omega
theorem sum_one {α : Type} : ∀ l : List α, (l.map fun _ => 1).sum = l.length
  | [] => rfl
  | _ :: l => by rw [List.map_cons, List.sum_cons, sum_one l, List.length_cons]; omega
theorem szQ_len (q : Qr) : q.num.w.length ≤ szQ q ∧ q.den.w.length ≤ szQ q := by
  simp only [szQ, szZ, sum_one]; omega
abbrev OkV (v : List Qr) : Prop := v.length ≤ 9223372036854775807 ∧ ∀ q ∈ v, OkQ q
abbrev OkI (l : List Int) : Prop := l.length ≤ 9223372036854775807 ∧ ∀ x ∈ l, i64ok x
theorem repq {q : Qr} (h : OkQ q) (s : szQ q ≤ 1048576) : Rep 1048576 q (qv q) := by
  have := szQ_len q
  exact rep_of h (by omega) (by omega) (by decide)
theorem repvu {v : List Qr} (h : OkV v) (s : szV v ≤ 1048576) : RepV 1048576 v (vval v) := by
  refine repv_of (fun q hq => repq (h.2 q hq) ?_) (by decide)
  have := sum_mem (fun x => szQ x) hq
  have e : szV v = (v.map fun x => szQ x).sum + 1 := rfl
  omega
end Go.Proofs.YthgkgjogdgdcgaaGreat
namespace Go.Proofs.YthgkgjogdgdcgaaGreat
open Go.Fw
theorem long33 (l : List (List Qr)) (hl : l.length ≤ 9223372036854775807) : ∃ b, law33_Long_m l = some b ∧ (b = false → ∀ v ∈ l, v.length ≤ 40) := by
  unfold law33_Long_m
  refine bind_loop_ex (fun s => ∃ (i : Nat) (n : Int), s = (n, (i : Int)) ∧ i ≤ l.length ∧ ∀ v ∈ l.take i, v.length ≤ 40) (fun e => (e = .inl () ∧ ∀ v ∈ l, v.length ≤ 40) ∨ e = .inr true) (fun s => l.length - s.2.toNat) ?_ ⟨0, 0, rfl, by omega, by simp⟩ ?_
  · rintro _ ⟨i, n, rfl, hi, ht⟩
    by_cases hlt : i < l.length
    · have g := List.getElem?_eq_getElem hlt
      by_cases h1 : 40 < l[i].length
      · exact .inr ⟨.inr true, bind_eq rfl <| bind_eq (dT (by omega)) <| bif_t rfl <| bind_eq (geti_nat g) <| bind_eq rfl <| bind_eq (dT (by omega)) <| bif_t rfl rfl, .inr rfl⟩
      · obtain ⟨e, he, -⟩ := loopM_inv (body := fun (s : Int × Int) => match s with | ⟨y3, y5⟩ => (show Option ((Int × Int) ⊕ Int) from (geti l (i : Int)).bind fun x21 => (some (x21.length : Int)).bind fun x23 => (some (decide ((y5 : Int) < x23))).bind fun x24 => (bif x24 then (some (IntKind.i64.wrap (y3 + 1))).bind fun x28 => (geti l (i : Int)).bind fun x31 => (geti x31 y5).bind fun ⟨⟨x34_0, x34_1⟩, ⟨x34_2, x34_3⟩⟩ => (some (x34_1.length : Int)).bind fun x38 => (some (min (100 : Int) x38)).bind fun x39 => (some (IntKind.i64.wrap (x28 + x39))).bind fun x40 => (geti l (i : Int)).bind fun x43 => (geti x43 y5).bind fun ⟨⟨x46_0, x46_1⟩, ⟨x46_2, x46_3⟩⟩ => (some (x46_3.length : Int)).bind fun x50 => (some (min (100 : Int) x50)).bind fun x51 => (some (IntKind.i64.wrap (x40 + x51))).bind fun x52 => (some (IntKind.i64.wrap (y5 + 1))).bind fun x26 => some (.inl (x52, x26)) else some (.inr y3))))
          (s := (n, 0)) (fun s => ∃ (k : Nat) (m : Int), s = (m, (k : Int)) ∧ k ≤ l[i].length) (fun _ => True) (fun s => l[i].length - s.2.toNat) (by
            rintro _ ⟨k, m, rfl, hk⟩
            by_cases hk2 : k < l[i].length
            · have gk := List.getElem?_eq_getElem hk2
              generalize l[i][k] = q at gk
              refine .inl ⟨(_, ((k + 1 : Nat) : Int)), bind_eq (geti_nat g) <| bind_eq rfl <| bind_eq (dT (by omega)) <| bif_t rfl <| bind_eq rfl <| bind_eq (geti_nat g) <| bind_eq (geti_nat gk) <| bind_eq rfl <| bind_eq rfl <| bind_eq rfl <| bind_eq (geti_nat g) <| bind_eq (geti_nat gk) <| bind_eq rfl <| bind_eq rfl <| bind_eq rfl <| bind_eq (congrArg some (w64_succ (by omega))) rfl, ⟨k + 1, _, rfl, hk2⟩, by simp only [Int.toNat_natCast]; omega⟩
            · exact .inr ⟨m, bind_eq (geti_nat g) <| bind_eq rfl <| bind_eq (dF (by omega)) <| bif_f rfl rfl, trivial⟩) ⟨0, n, rfl, by omega⟩
        by_cases h2 : 400 < e
        · exact .inr ⟨.inr true, bind_eq rfl <| bind_eq (dT (by omega)) <| bif_t rfl <| bind_eq (geti_nat g) <| bind_eq rfl <| bind_eq (dF (by omega)) <| bif_f rfl <| bind_eq he <| bind_eq (dT h2) <| bif_t rfl rfl, .inr rfl⟩
        · refine .inl ⟨(e, ((i + 1 : Nat) : Int)), bind_eq rfl <| bind_eq (dT (by omega)) <| bif_t rfl <| bind_eq (geti_nat g) <| bind_eq rfl <| bind_eq (dF (by omega)) <| bif_f rfl <| bind_eq he <| bind_eq (dF h2) <| bif_f rfl <| bind_eq (congrArg some (w64_succ (by omega))) rfl, ⟨i + 1, e, rfl, hlt, ?_⟩, by simp only [Int.toNat_natCast]; omega⟩
          rw [List.take_add_one, g]
          intro u hu
          rcases List.mem_append.1 hu with h | h
          · exact ht u h
          · simp at h; rw [h]; omega
    · refine .inr ⟨.inl (), bind_eq rfl <| bind_eq (dF (by omega)) <| bif_f rfl rfl, .inl ⟨rfl, ?_⟩⟩
      rw [List.take_of_length_le (by omega)] at ht; exact ht
  · rintro e (⟨rfl, he⟩ | rfl)
    · exact ⟨false, rfl, fun _ => he⟩
    · exact ⟨true, rfl, fun h => by cases h⟩
end Go.Proofs.YthgkgjogdgdcgaaGreat
namespace Go.Proofs.YthgkgjogdgdcgaaGreat
open Go.Fw
theorem set_inv {P : Nat → Qr → Prop} {l : List Qr} {j : Nat} {q : Qr} (h : ∀ i q', i < j → l[i]? = some q' → P i q') (hq : P j q) : ∀ i q', i < j + 1 → (l.set j q)[i]? = some q' → P i q' := by
  intro i q' hi e
  rw [List.getElem?_set] at e
  by_cases hj : j = i
  · subst hj
    by_cases hl : j < l.length
    · rw [if_pos rfl, if_pos hl] at e; rw [← Option.some.inj e]; exact hq
    · rw [if_pos rfl, if_neg hl] at e; cases e
  · rw [if_neg hj] at e; exact h i q' (by omega) e
def fI (f : Nat → Rat) (i : Int) : Rat := if i < 0 then 0 else f i.toNat
theorem nelem {L : Nat} {a : List Qr} {f : Nat → Rat} (h : RepV L a f) (i : Int) : ∃ q, node_element_m a i = some q ∧ Rep L q (fI f i) := by
  unfold node_element_m
  rw [letJ_eq]
  by_cases h0 : i < 0
  · refine ⟨qz, bind_eq (dT h0) <| bind_eq (a := true) (bif_t rfl rfl) <| bif_t rfl rfl, ?_⟩
    unfold fI; rw [if_pos h0]; exact rep_zero h.l1
  · obtain ⟨k, rfl⟩ : ∃ k : Nat, i = (k : Int) := ⟨i.toNat, by omega⟩
    have e : fI f (k : Int) = f k := by unfold fI; rw [if_neg h0, Int.toNat_natCast]
    rw [e]
    by_cases hk : k < a.length
    · obtain ⟨q, hq, rq⟩ := h.get hk
      exact ⟨q, bind_eq (dF (by omega)) <| bind_eq (a := false) (bif_f rfl <| bind_eq rfl <| bind_eq (dF (by omega)) rfl) <| bif_f rfl <| bind_eq (geti_nat hq) rfl, rq⟩
    · refine ⟨qz, bind_eq (dF (by omega)) <| bind_eq (a := true) (bif_f rfl <| bind_eq rfl <| bind_eq (dT (by omega)) rfl) <| bif_t rfl rfl, ?_⟩
      rw [h.z k (by omega)]; exact rep_zero h.l1
theorem fI_nat (f : Nat → Rat) (k : Nat) : fI f (k : Int) = f k := by unfold fI; rw [if_neg (by omega), Int.toNat_natCast]
def RepM (L : Nat) (m : List (List Qr)) (F : Nat → Nat → Rat) : Prop := ∀ l v, m[l]? = some v → RepV L v (F l)
theorem nsumS {L n b : Nat} {lines : List Qr} {factors : List (List Qr)} {g : Nat → Rat} {F : Nat → Nat → Rat} (hg : RepV L lines g) (hF : RepM L factors F) (hn : n ≤ factors.length) (hn' : n ≤ lines.length) (hL : (n + 1) * (2 * L + 1) + 1 ≤ 4000000000) :
    ∃ q, node_sumS_m (n : Int) lines factors (b : Int) = some q ∧ Rep (n * (2 * L + 1) + 1) q (sumQ (fun l => g l * F l b) n) := by
  have hlen : n ≤ 4000000000 := by
    have : n * 1 ≤ n * (2 * L + 1) := Nat.mul_le_mul_left _ (by omega)
    rw [Nat.add_mul] at hL; omega
  unfold node_sumS_m
  refine bind_loop_ex (fun s => ∃ (j : Nat) (q : Qr), s = ((j : Int), q.num.neg, q.num.w, q.den.neg, q.den.w) ∧ j ≤ n ∧ Rep (j * (2 * L + 1) + 1) q (sumQ (fun l => g l * F l b) j)) (fun e => ∃ q : Qr, e = (q.num.neg, q.num.w, q.den.neg, q.den.w) ∧ Rep (n * (2 * L + 1) + 1) q (sumQ (fun l => g l * F l b) n)) (fun s => n - s.1.toNat) ?_ ⟨0, qz, rfl, by omega, by rw [Nat.zero_mul]; exact rep_zero (by omega)⟩ ?_
  · rintro _ ⟨j, q, rfl, hj, hq⟩
    by_cases hlt : j < n
    · obtain ⟨p, e1, r1⟩ := hg.get (show j < lines.length by omega)
      have e2 := List.getElem?_eq_getElem (show j < factors.length by omega)
      generalize factors[j] = v at e2
      obtain ⟨p2, e3, r3⟩ := nelem (hF j v e2) (b : Int)
      rw [fI_nat] at r3
      have hj2 : j * (2 * L + 1) ≤ n * (2 * L + 1) := Nat.mul_le_mul_right _ (by omega)
      rw [Nat.add_mul] at hL
      obtain ⟨p3, e4, r4⟩ := r1.mul' r3 (by omega)
      obtain ⟨q2, e5, r5⟩ := hq.add' r4 (by omega)
      have hS : node_Split_1_m (j : Int) lines factors (b : Int) = some p3 := by
        unfold node_Split_1_m
        exact bind_eq (geti_nat e1) <| bind_eq (geti_nat e2) <| bind_eq e3 <| bind_eq e4 rfl
      refine .inl ⟨(((j + 1 : Nat) : Int), q2.num.neg, q2.num.w, q2.den.neg, q2.den.w), ?_, ⟨j + 1, q2, rfl, hlt, r5.mono (by rw [Nat.add_mul]; omega)⟩, by simp only [Int.toNat_natCast]; omega⟩
      exact bind_eq (dT (by omega)) <| bif_t rfl <| bind_eq hS <| bind_eq e5 <| bind_eq (congrArg some (w64_succ (by omega))) rfl
    · obtain rfl : j = n := by omega
      exact .inr ⟨_, bind_eq (dF (by omega)) <| bif_f rfl rfl, q, rfl, hq⟩
  · rintro _ ⟨q, rfl, hq⟩
    exact ⟨q, rfl, hq⟩
def lvF (isl : List Int) (f : Nat → Rat) (i : Nat) : Rat := fI f (isl.getD i 0)
def jmF (m : Nat) (g : Nat → Rat) (F : Nat → Nat → Rat) (i : Nat) : Rat := - sumQ (fun l => g l * F l i) m
def cut (n : Nat) (f : Nat → Rat) (i : Nat) : Rat := if i < n then f i else 0
theorem cut_of {n i : Nat} {f : Nat → Rat} (h : i < n) : cut n f i = f i := if_pos h
theorem mkq (n : Nat) (h : n ≤ 1000) : mkM 64 ((n : Nat) : Int) (⟨⟨false, []⟩, ⟨false, []⟩⟩ : Qr) = some (List.replicate n ⟨⟨false, []⟩, ⟨false, []⟩⟩) := mkM_of (by omega) (by omega)
theorem nsplit {L M : Nat} {isl : List Int} {base lines : List Qr} {factors : List (List Qr)} {f g : Nat → Rat} {F : Nat → Nat → Rat} (hf : RepV L base f) (hg : RepV L lines g) (hF : RepM L factors F) (hi : isl.length ≤ 1000) (hL : (min factors.length lines.length + 1) * (2 * L + 1) + 1 ≤ M) (hM : M ≤ 4000000000) :
    ∃ u v, node_Split_m isl base factors lines = some (u, v) ∧ u.length = isl.length ∧ v.length = isl.length ∧ RepV L u (cut isl.length (lvF isl f)) ∧ RepV M v (cut isl.length (jmF (min factors.length lines.length) g F)) := by
  have hL1 := hf.l1
  have hL0 : L ≤ 4000000000 := by
    have : 1 * (2 * L + 1) ≤ (min factors.length lines.length + 1) * (2 * L + 1) := Nat.mul_le_mul_right _ (by omega)
    omega
  have hM1 : min factors.length lines.length * (2 * L + 1) + 1 ≤ M := by rw [Nat.add_mul] at hL; omega
  suffices H : ∃ r, node_Split_m isl base factors lines = some r ∧ r.1.length = isl.length ∧ r.2.length = isl.length ∧ (∀ i q, r.1[i]? = some q → Rep L q (lvF isl f i)) ∧ (∀ i q, r.2[i]? = some q → Rep M q (jmF (min factors.length lines.length) g F i)) by
    obtain ⟨⟨u, v⟩, h1, h2, h3, h4, h5⟩ := H
    exact ⟨u, v, h1, h2, h3, RepV.of h2 h4 hL1, RepV.of h3 h5 (by omega)⟩
  unfold node_Split_m
  rw [bsm, mkq _ hi, bsm, bsm, mkq _ hi, bsm, bsm, bsm, min_len, bsm, bsm]
  have hm1 : min factors.length lines.length ≤ factors.length := Nat.min_le_left _ _
  have hm2 : min factors.length lines.length ≤ lines.length := Nat.min_le_right _ _
  generalize min factors.length lines.length = m at *
  refine bind_loop_ex (fun s => ∃ (j : Nat) (u v : List Qr), s = ((j : Int), u, v) ∧ j ≤ isl.length ∧ u.length = isl.length ∧ v.length = isl.length ∧ (∀ i q, i < j → u[i]? = some q → Rep L q (lvF isl f i)) ∧ (∀ i q, i < j → v[i]? = some q → Rep M q (jmF m g F i)))
    (fun e => e.1.length = isl.length ∧ e.2.length = isl.length ∧ (∀ i q, e.1[i]? = some q → Rep L q (lvF isl f i)) ∧ (∀ i q, e.2[i]? = some q → Rep M q (jmF m g F i))) (fun s => isl.length - s.1.toNat) ?_ ⟨0, _, _, rfl, by omega, by simp, by simp, fun i q h => by omega, fun i q h => by omega⟩ ?_
  · rintro _ ⟨j, u, v, rfl, hj, hu, hv, ru, rv⟩
    by_cases hlt : j < isl.length
    · have g1 := get_getD' (l := isl) (d := 0) hlt
      obtain ⟨q1, e1, r1⟩ := nelem hf (isl.getD j 0)
      obtain ⟨q2, e2, r2⟩ := r1.canon' (by omega)
      obtain ⟨q3, e3, r3⟩ := nsumS (b := j) (n := m) hg hF (by omega) (by omega) (by omega)
      obtain ⟨q4, e4, r4⟩ := r3.neg' (by omega)
      refine .inl ⟨(((j + 1 : Nat) : Int), u.set j q2, v.set j q4), ?_, ⟨j + 1, _, _, rfl, hlt, by simp [hu], by simp [hv], set_inv ru r2, set_inv rv (r4.mono hM1)⟩, by simp only [Int.toNat_natCast]; omega⟩
      exact bind_eq (dT (by omega)) <| bif_t rfl <| bind_eq (geti_nat g1) <| bind_eq e1 <| bind_eq e2 <| bind_eq (cki_nat (by omega)) <| bind_eq (stM_of (by omega)) <| bind_eq e3 <| bind_eq e4 <| bind_eq (cki_nat (by omega)) <| bind_eq (stM_of (by omega)) <| bind_eq (congrArg some (w64_succ (by omega))) rfl
    · refine .inr ⟨(u, v), bind_eq (dF (by omega)) <| bif_f rfl rfl, hu, hv, fun i q hq => ru i q ?_ hq, fun i q hq => rv i q ?_ hq⟩
      · have : i < u.length := (List.getElem?_eq_some_iff.1 hq).1; omega
      · have : i < v.length := (List.getElem?_eq_some_iff.1 hq).1; omega
  · rintro ⟨u, v⟩ h
    exact ⟨(u, v), rfl, h⟩
def prF (isl : List Int) (m : Nat) (f g : Nat → Rat) (F : Nat → Nat → Rat) (i : Nat) : Rat := lvF isl f i + jmF m g F i
theorem nprices {L M : Nat} {isl : List Int} {base lines : List Qr} {factors : List (List Qr)} {f g : Nat → Rat} {F : Nat → Nat → Rat} (hf : RepV L base f) (hg : RepV L lines g) (hF : RepM L factors F) (hi : isl.length ≤ 1000) (hL : (min factors.length lines.length + 1) * (2 * L + 1) + 1 ≤ M) (hM : L + M ≤ 4000000000) :
    ∃ v, node_Prices_m isl base factors lines = some v ∧ v.length = isl.length ∧ RepV (L + M + 1) v (cut isl.length (prF isl (min factors.length lines.length) f g F)) := by
  obtain ⟨u, w, h1, h2, h3, h4, h5⟩ := nsplit hf hg hF hi hL (by omega)
  suffices H : ∃ v, node_Prices_m isl base factors lines = some v ∧ v.length = isl.length ∧ ∀ i q, v[i]? = some q → Rep (L + M + 1) q (prF isl (min factors.length lines.length) f g F i) by
    obtain ⟨v, k1, k2, k3⟩ := H
    exact ⟨v, k1, k2, RepV.of k2 k3 (by omega)⟩
  unfold node_Prices_m
  rw [h1, bsm]
  dsimp only
  rw [bsm, mkq _ hi, bsm, bsm, List.length_replicate]
  generalize min factors.length lines.length = m at *
  refine bind_loop_ex (fun s => ∃ (j : Nat) (v : List Qr), s = ((j : Int), v) ∧ j ≤ isl.length ∧ v.length = isl.length ∧ (∀ i q, i < j → v[i]? = some q → Rep (L + M + 1) q (prF isl m f g F i)))
    (fun v => v.length = isl.length ∧ (∀ i q, v[i]? = some q → Rep (L + M + 1) q (prF isl m f g F i))) (fun s => isl.length - s.1.toNat) ?_ ⟨0, _, rfl, by omega, by simp, fun i q h => by omega⟩ ?_
  · rintro _ ⟨j, v, rfl, hj, hv, rv⟩
    by_cases hlt : j < isl.length
    · obtain ⟨q1, e1, r1⟩ := h4.get (show j < u.length by omega)
      obtain ⟨q2, e2, r2⟩ := h5.get (show j < w.length by omega)
      rw [cut_of hlt] at r1 r2
      obtain ⟨q3, e3, r3⟩ := r1.add' r2 hM
      refine .inl ⟨(((j + 1 : Nat) : Int), v.set j q3), ?_, ⟨j + 1, _, rfl, hlt, by simp [hv], set_inv rv r3⟩, by simp only [Int.toNat_natCast]; omega⟩
      exact bind_eq (dT (by omega)) <| bif_t rfl <| bind_eq (geti_nat e1) <| bind_eq (geti_nat e2) <| bind_eq e3 <| bind_eq (cki_nat (show j < v.length by omega)) <| bind_eq (stM_of (show j < v.length by omega)) <| bind_eq (congrArg some (w64_succ (by omega))) rfl
    · refine .inr ⟨v, bind_eq (dF (by omega)) <| bif_f rfl rfl, hv, fun i q hq => rv i q ?_ hq⟩
      have := (List.getElem?_eq_some_iff.1 hq).1; omega
  · rintro v h
    exact ⟨v, rfl, h⟩
theorem ndot {L M : Nat} {a b : List Qr} {f g : Nat → Rat} (ha : RepV L a f) (hb : RepV M b g) (h : (min a.length b.length + 2) * (L + M + 1) ≤ 4000000000) : ∃ q, vec_Dot_m a b = some q ∧ Rep (min a.length b.length * (L + M + 1) + 1) q (sumQ (fun i => f i * g i) (min a.length b.length)) := ⟨_, vdot ha hb h⟩
theorem njam {L M : Nat} {a b : List Qr} {f g : Nat → Rat} (ha : RepV L a f) (hb : RepV M b g) (h : (min a.length b.length + 2) * (L + M + 1) ≤ 4000000000) : ∃ q, node_Jam_m a b = some q ∧ Rep (min a.length b.length * (L + M + 1) + 1) q (sumQ (fun i => f i * g i) (min a.length b.length)) := by
  obtain ⟨q, e, r⟩ := ndot ha hb h
  refine ⟨q, ?_, r⟩
  unfold node_Jam_m
  exact bind_eq e rfl
theorem nrent {L M : Nat} {a b : List Qr} {f g : Nat → Rat} (ha : RepV L a f) (hb : RepV M b g) (h : (min a.length b.length + 2) * (L + M + 1) ≤ 4000000000) : ∃ q, node_Rent_m a b = some q ∧ Rep (min a.length b.length * (L + M + 1) + 1) q (- sumQ (fun i => f i * g i) (min a.length b.length)) := by
  obtain ⟨q, e, r⟩ := ndot ha hb h
  have : min a.length b.length * (L + M + 1) + 1 ≤ 10000000000 := by rw [Nat.add_mul] at h; omega
  obtain ⟨q2, e2, r2⟩ := r.neg' this
  refine ⟨q2, ?_, r2⟩
  unfold node_Rent_m
  exact bind_eq e <| bind_eq e2 rfl
theorem ntrade {L K a b : Nat} {p : List Qr} {q : Qr} {f : Nat → Rat} {x : Rat} (hp : RepV L p f) (hq : Rep K q x) (ha : a < p.length) (hb : b < p.length) (h : K + (2 * L + 1) ≤ 4000000000) : ∃ r, node_Trade_m p (a : Int) (b : Int) q = some (r, 0) ∧ Rep (K + (2 * L + 1)) r (x * (f b - f a)) := by
  obtain ⟨q1, e1, r1⟩ := hp.get ha
  obtain ⟨q2, e2, r2⟩ := hp.get hb
  obtain ⟨q3, e3, r3⟩ := r2.sub' r1 (by omega)
  obtain ⟨q4, e4, r4⟩ := hq.mul' r3 (by omega)
  refine ⟨q4, ?_, r4.mono (by omega)⟩
  unfold node_Trade_m
  refine letJ_of ?_
  exact bind_eq (dF (by omega)) <| bind_eq (a := false) (bif_f rfl <| bind_eq rfl <| bind_eq (dF (by omega)) rfl) <| bind_eq (a := false) (bif_f rfl <| bind_eq (dF (by omega)) rfl) <| bind_eq (a := false) (bif_f rfl <| bind_eq rfl <| bind_eq (dF (by omega)) rfl) <| bif_f rfl <| bind_eq (geti_nat e2) <| bind_eq (geti_nat e1) <| bind_eq e3 <| bind_eq e4 rfl
theorem ntrade_no {p : List Qr} {q : Qr} {a b : Int} (h : a < 0 ∨ p.length ≤ a ∨ b < 0 ∨ p.length ≤ b) : node_Trade_m p a b q = some (qz, 1) := by
  unfold node_Trade_m
  refine letJ_of <| bind_eq rfl <| orC (fun _ => bind_eq rfl <| bind_eq rfl rfl) <| orC (fun _ => bind_eq rfl rfl) <| orC (fun _ => bind_eq rfl <| bind_eq rfl rfl) <| bif_t ?_ rfl
  simp only [Bool.or_eq_true, decide_eq_true_eq]; omega
end Go.Proofs.YthgkgjogdgdcgaaGreat
namespace Go.Proofs.YthgkgjogdgdcgaaGreat
open Go.Fw
def toF (pl : List Int) (k : Nat → Rat) (b i : Nat) : Rat := if pl.getD i 0 = (b : Int) then k i else 0
theorem ntotal {L b : Nat} {pl : List Int} {v : List Qr} {k : Nat → Rat} (h : RepV L v k) (hL : (min pl.length v.length + 1) * (L + 1) + 1 ≤ 4000000000) :
    ∃ q, node_total_m pl (b : Int) v = some q ∧ Rep (min pl.length v.length * (L + 1) + 1) q (sumQ (toF pl k b) (min pl.length v.length)) := by
  have hm1 : min pl.length v.length ≤ pl.length := Nat.min_le_left _ _
  have hm2 : min pl.length v.length ≤ v.length := Nat.min_le_right _ _
  unfold node_total_m
  rw [bsm, bsm, min_len, bsm]
  generalize min pl.length v.length = n at *
  have hlen : n ≤ 4000000000 := by
    have : n * 1 ≤ n * (L + 1) := Nat.mul_le_mul_left _ (by omega)
    rw [Nat.add_mul] at hL; omega
  have hs : ∃ q, node_sumT_m (n : Int) pl (b : Int) v = some q ∧ Rep (n * (L + 1) + 1) q (sumQ (toF pl k b) n) := by
    unfold node_sumT_m
    refine bind_loop_ex (fun s => ∃ (j : Nat) (q : Qr), s = ((j : Int), q.num.neg, q.num.w, q.den.neg, q.den.w) ∧ j ≤ n ∧ Rep (j * (L + 1) + 1) q (sumQ (toF pl k b) j)) (fun e => ∃ q : Qr, e = (q.num.neg, q.num.w, q.den.neg, q.den.w) ∧ Rep (n * (L + 1) + 1) q (sumQ (toF pl k b) n)) (fun s => n - s.1.toNat) ?_ ⟨0, qz, rfl, by omega, by rw [Nat.zero_mul]; exact rep_zero (by omega)⟩ ?_
    · rintro _ ⟨j, q, rfl, hj, hq⟩
      by_cases hlt : j < n
      · have g := get_getD' (l := pl) (d := 0) (show j < pl.length by omega)
        obtain ⟨p, e1, r1⟩ := h.get (show j < v.length by omega)
        have hj2 : j * (L + 1) ≤ n * (L + 1) := Nat.mul_le_mul_right _ (by omega)
        rw [Nat.add_mul] at hL
        have hS : ∃ p', node_total_1_m (j : Int) pl (b : Int) v = some p' ∧ Rep L p' (toF pl k b j) := by
          unfold node_total_1_m toF
          by_cases hb : pl.getD j 0 = (b : Int)
          · rw [if_pos hb]
            exact ⟨p, bind_eq (geti_nat g) <| bind_eq (dF (by omega)) <| bif_f rfl <| bind_eq (geti_nat e1) rfl, r1⟩
          · rw [if_neg hb]
            exact ⟨qz, bind_eq (geti_nat g) <| bind_eq (dT hb) <| bif_t rfl rfl, rep_zero h.l1⟩
        obtain ⟨p', e2, r2⟩ := hS
        obtain ⟨q2, e3, r3⟩ := hq.add' r2 (by omega)
        refine .inl ⟨(((j + 1 : Nat) : Int), q2.num.neg, q2.num.w, q2.den.neg, q2.den.w), ?_, ⟨j + 1, q2, rfl, hlt, r3.mono (by rw [Nat.add_mul]; omega)⟩, by simp only [Int.toNat_natCast]; omega⟩
        exact bind_eq (dT (by omega)) <| bif_t rfl <| bind_eq e2 <| bind_eq e3 <| bind_eq (congrArg some (w64_succ (by omega))) rfl
      · obtain rfl : j = n := by omega
        exact .inr ⟨_, bind_eq (dF (by omega)) <| bif_f rfl rfl, q, rfl, hq⟩
    · rintro _ ⟨q, rfl, hq⟩
      exact ⟨q, rfl, hq⟩
  obtain ⟨q, e, r⟩ := hs
  exact ⟨q, bind_eq e rfl, r⟩
def inB (units bids : List Int) (n m : Nat) (k t : Nat → Rat) (b : Nat) : Rat := sumQ (toF units k b) n - sumQ (toF bids t b) m
theorem nin {L M : Nat} {n : Int} {units bids : List Int} {gen take : List Qr} {k t : Nat → Rat} (hk : RepV L gen k) (ht : RepV L take t) (hn : 1 ≤ n) (hL : (min units.length gen.length + 1) * (L + 1) + 1 ≤ M) (hL' : (min bids.length take.length + 1) * (L + 1) + 1 ≤ M) (hM : 2 * M + 1 ≤ 4000000000) :
    ∃ v, node_In_m n units bids gen take = some v ∧ v.length = (min n 6).toNat ∧ RepV (2 * M + 1) v (cut (min n 6).toNat (inB units bids (min units.length gen.length) (min bids.length take.length) k t)) := by
  suffices H : ∃ v, node_In_m n units bids gen take = some v ∧ v.length = (min n 6).toNat ∧ ∀ i q, v[i]? = some q → Rep (2 * M + 1) q (inB units bids (min units.length gen.length) (min bids.length take.length) k t i) by
    obtain ⟨v, k1, k2, k3⟩ := H
    exact ⟨v, k1, k2, RepV.of k2 k3 (by omega)⟩
  unfold node_In_m
  obtain ⟨N, hN⟩ : ∃ N : Nat, min n 6 = (N : Int) := ⟨(min n 6).toNat, by omega⟩
  have hN6 : N ≤ 6 := by omega
  rw [bsm, show decide (n < 1) = false from decide_eq_false (by omega), cfm, bsm, hN, mkq _ (by omega), bsm, bsm, List.length_replicate, Int.toNat_natCast]
  refine bind_loop_ex (fun s => ∃ (j : Nat) (v : List Qr), s = ((j : Int), v) ∧ j ≤ N ∧ v.length = N ∧ (∀ i q, i < j → v[i]? = some q → Rep (2 * M + 1) q (inB units bids (min units.length gen.length) (min bids.length take.length) k t i)))
    (fun v => v.length = N ∧ (∀ i q, v[i]? = some q → Rep (2 * M + 1) q (inB units bids (min units.length gen.length) (min bids.length take.length) k t i))) (fun s => N - s.1.toNat) ?_ ⟨0, _, rfl, by omega, by simp, fun i q h => by omega⟩ ?_
  · rintro _ ⟨j, v, rfl, hj, hv, rv⟩
    by_cases hlt : j < N
    · obtain ⟨q1, e1, r1⟩ := ntotal (b := j) (pl := units) hk (by omega)
      obtain ⟨q2, e2, r2⟩ := ntotal (b := j) (pl := bids) ht (by omega)
      have a1 : min units.length gen.length * (L + 1) + 1 ≤ M := by rw [Nat.add_mul] at hL; omega
      have a2 : min bids.length take.length * (L + 1) + 1 ≤ M := by rw [Nat.add_mul] at hL'; omega
      obtain ⟨q3, e3, r3⟩ := (r1.mono a1).sub' (r2.mono a2) (by omega)
      refine .inl ⟨(((j + 1 : Nat) : Int), v.set j q3), ?_, ⟨j + 1, _, rfl, hlt, by simp [hv], set_inv rv (r3.mono (by omega))⟩, by simp only [Int.toNat_natCast]; omega⟩
      exact bind_eq (dT (by omega)) <| bif_t rfl <| bind_eq e1 <| bind_eq e2 <| bind_eq e3 <| bind_eq (cki_nat (show j < v.length by omega)) <| bind_eq (stM_of (show j < v.length by omega)) <| bind_eq (congrArg some (w64_succ (by omega))) rfl
    · refine .inr ⟨v, bind_eq (dF (by omega)) <| bif_f rfl rfl, hv, fun i q hq => rv i q ?_ hq⟩
      have : i < v.length := (List.getElem?_eq_some_iff.1 hq).1; omega
  · rintro v h
    exact ⟨v, rfl, h⟩
structure IsEnd (f : Nat → Rat) (n a b : Nat) : Prop where
  la : a < n
  lb : b < n
  lo : ∀ i, i < n → f a ≤ f i
  lo1 : ∀ i, i < a → f a < f i
  hi : ∀ i, i < n → f i ≤ f b
  hi1 : ∀ i, i < b → f i < f b
theorem nends {L : Nat} {p : List Qr} {f : Nat → Rat} (h : RepV L p f) (hL : L + L ≤ 4000000000) (hs : p.length ≤ 1000) : ∃ r, node_Ends_m p = some r ∧ ∃ a b : Nat, r = ((a : Int), (b : Int)) ∧ ((p.length = 0 ∧ a = 0 ∧ b = 0) ∨ IsEnd f p.length a b) := by
  unfold node_Ends_m
  rw [bsm]
  refine bind_loop_ex (fun s => ∃ (a b j : Nat), s = ((a : Int), (b : Int), (j : Int)) ∧ j ≤ p.length ∧ ((j = 0 ∧ a = 0 ∧ b = 0) ∨ IsEnd f j a b)) (fun e => ∃ a b : Nat, e = ((a : Int), (b : Int)) ∧ ((p.length = 0 ∧ a = 0 ∧ b = 0) ∨ IsEnd f p.length a b)) (fun s => p.length - s.2.2.toNat) ?_ ⟨0, 0, 0, rfl, by omega, .inl ⟨rfl, rfl, rfl⟩⟩ ?_
  · rintro _ ⟨a, b, j, rfl, hj, hI⟩
    by_cases hlt : j < p.length
    · have ha : a < p.length := by rcases hI with ⟨_, rfl, _⟩ | q; omega; have := q.la; omega
      have hb : b < p.length := by rcases hI with ⟨_, _, rfl⟩ | q; omega; have := q.lb; omega
      obtain ⟨q1, e1, r1⟩ := h.get hlt
      obtain ⟨q2, e2, r2⟩ := h.get ha
      obtain ⟨q3, e3, r3⟩ := h.get hb
      have c1 := r1.cmp r2 hL
      have c2 := r1.cmp r3 hL
      refine .inl ⟨(((if f j < f a then j else a : Nat) : Int), ((if f b < f j then j else b : Nat) : Int), ((j + 1 : Nat) : Int)), ?_, ⟨_, _, j + 1, rfl, hlt, .inr ?_⟩, by simp only [Int.toNat_natCast]; omega⟩
      · refine bind_eq (dT (by omega)) <| bif_t rfl <| bind_eq (geti_nat e1) <| bind_eq (geti_nat e2) <| bind_eq c1 <| bind_eq rfl <| letJ_of ?_
        by_cases d1 : f j < f a <;> by_cases d2 : f b < f j
        · rw [if_pos d1, if_pos d2]
          exact bif_t (decide_eq_true (cmpQ_neg.2 d1)) <| bind_eq (geti_nat e3) <| bind_eq c2 <| bind_eq rfl <| letJ_of <| bif_t (decide_eq_true (cmpQ_pos.2 d2)) <| bind_eq (congrArg some (w64_succ (by omega))) rfl
        · rw [if_pos d1, if_neg d2]
          exact bif_t (decide_eq_true (cmpQ_neg.2 d1)) <| bind_eq (geti_nat e3) <| bind_eq c2 <| bind_eq rfl <| letJ_of <| bif_f (decide_eq_false (fun q => d2 (cmpQ_pos.1 q))) <| bind_eq (congrArg some (w64_succ (by omega))) rfl
        · rw [if_neg d1, if_pos d2]
          exact bif_f (decide_eq_false (fun q => d1 (cmpQ_neg.1 q))) <| bind_eq (geti_nat e3) <| bind_eq c2 <| bind_eq rfl <| letJ_of <| bif_t (decide_eq_true (cmpQ_pos.2 d2)) <| bind_eq (congrArg some (w64_succ (by omega))) rfl
        · rw [if_neg d1, if_neg d2]
          exact bif_f (decide_eq_false (fun q => d1 (cmpQ_neg.1 q))) <| bind_eq (geti_nat e3) <| bind_eq c2 <| bind_eq rfl <| letJ_of <| bif_f (decide_eq_false (fun q => d2 (cmpQ_pos.1 q))) <| bind_eq (congrArg some (w64_succ (by omega))) rfl
      · have hlo : ∀ i, i < j → f a ≤ f i := fun i hi => by rcases hI with ⟨rfl, _⟩ | q; omega; exact q.lo i hi
        have hhi : ∀ i, i < j → f i ≤ f b := fun i hi => by rcases hI with ⟨rfl, _⟩ | q; omega; exact q.hi i hi
        have hlo1 : ∀ i, i < a → f a < f i := fun i hi => by rcases hI with ⟨_, rfl, _⟩ | q; omega; exact q.lo1 i hi
        have hhi1 : ∀ i, i < b → f i < f b := fun i hi => by rcases hI with ⟨_, _, rfl⟩ | q; omega; exact q.hi1 i hi
        have haj : a ≤ j := by rcases hI with ⟨rfl, rfl, _⟩ | q; omega; have := q.la; omega
        have hbj : b ≤ j := by rcases hI with ⟨rfl, _, rfl⟩ | q; omega; have := q.lb; omega
        refine ⟨by split <;> omega, by split <;> omega, fun i hi => ?_, fun i hi => ?_, fun i hi => ?_, fun i hi => ?_⟩
        · rcases Nat.lt_or_ge i j with d | d
          · have := hlo i d; split <;> grind
          · obtain rfl : i = j := by omega
            split <;> grind
        · split at hi
          · rename_i d; rw [if_pos d]; have := hlo i hi; grind
          · rename_i d; rw [if_neg d]; exact hlo1 i hi
        · rcases Nat.lt_or_ge i j with d | d
          · have := hhi i d; split <;> grind
          · obtain rfl : i = j := by omega
            split <;> grind
        · split at hi
          · rename_i d; rw [if_pos d]; have := hhi i hi; grind
          · rename_i d; rw [if_neg d]; exact hhi1 i hi
    · obtain rfl : j = p.length := by omega
      exact .inr ⟨_, bind_eq (dF (by omega)) <| bif_f rfl rfl, a, b, rfl, hI⟩
  · rintro _ ⟨a, b, rfl, hI⟩
    exact ⟨_, rfl, a, b, rfl, hI⟩
theorem IsEnd.uniq {f : Nat → Rat} {n a b c d : Nat} (h : IsEnd f n a b) (k : IsEnd f n c d) : a = c ∧ b = d := by
  have h1 := h.lo c k.la
  have h2 := k.lo a h.la
  have h3 := h.hi d k.lb
  have h4 := k.hi b h.lb
  constructor
  · rcases Nat.lt_trichotomy a c with q | q | q
    · have := k.lo1 a q; grind
    · exact q
    · have := h.lo1 c q; grind
  · rcases Nat.lt_trichotomy b d with q | q | q
    · have := k.hi1 b q; grind
    · exact q
    · have := h.hi1 d q; grind
theorem is33 {L : Nat} {q : Qr} {x : Rat} {n : Int} (h : Rep L q x) (hn : i64ok n) (e : x = (n : Rat)) (hL : L + 2 ≤ 4000000000) : law33_is_m q n = some true := by
  obtain ⟨p, e1, r1⟩ := int' hn
  unfold law33_is_m
  exact bind_eq e1 <| bind_eq (h.eqT r1 e hL) rfl
theorem row33 {L : Nat} {v : List Qr} {f : Nat → Rat} {l : List Int} (h : RepV L v f) (hl : v.length = l.length) (hi : ∀ x ∈ l, i64ok x) (e : ∀ i, i < l.length → f i = ((l.getD i 0 : Int) : Rat)) (hL : L + 2 ≤ 4000000000) (hs : l.length ≤ 1000) : law33_row_m v l = some true := by
  unfold law33_row_m
  refine bind_eq rfl <| bind_eq rfl <| bind_eq (dF (by omega)) <| bif_f rfl ?_
  refine bind_loop_to (fun j => (j : Int)) l.length (.inl ()) rfl (fun j hj => ?_) ?_ rfl
  · obtain ⟨q, hq, rq⟩ := h.get (show j < v.length by omega)
    have g := get_getD' (l := l) (d := 0) hj
    have hm : l.getD j 0 ∈ l := by rw [List.getD_eq_getElem?_getD, List.getElem?_eq_getElem hj]; exact List.getElem_mem hj
    exact bind_eq rfl <| bind_eq (dT (by omega)) <| bif_t rfl <| bind_eq (geti_nat hq) <| bind_eq (geti_nat g) <| bind_eq (is33 rq (hi _ hm) (e j hj) hL) <| bind_eq rfl <| bif_f rfl <| bind_eq (congrArg some (w64_succ (by omega))) rfl
  · exact bind_eq rfl <| bind_eq (dF (by omega)) <| bif_f rfl rfl
end Go.Proofs.YthgkgjogdgdcgaaGreat
namespace Go.Proofs.YthgkgjogdgdcgaaGreat
open Go.Fw
theorem repm1 {L : Nat} {v : List Qr} {f : Nat → Rat} (h : RepV L v f) : RepM L [v] (fun _ => f) := fun l u e => by
  match l with
  | 0 => simp at e; subst e; exact h
  | l + 1 => simp at e
theorem two_cases {P : Nat → Prop} (h0 : P 0) (h1 : P 1) : ∀ i, i < 2 → P i := fun i hi => by
  match i with
  | 0 => exact h0
  | 1 => exact h1
  | i + 2 => omega
theorem one_case {P : Nat → Prop} (h0 : P 0) : ∀ i, i < 1 → P i := fun i hi => by
  match i with
  | 0 => exact h0
  | i + 1 => omega
theorem awake33 : law33_awake_m = some true := by
  obtain ⟨v1, e1, r1, l1⟩ := vints' (l := [20]) (by decide) (by decide)
  obtain ⟨v2, e2, r2, l2⟩ := vints' (l := [0, -1]) (by decide) (by decide)
  obtain ⟨v3, e3, r3, l3⟩ := vints' (l := [5]) (by decide) (by decide)
  obtain ⟨v4, e4, r4, l4⟩ := vints' (l := [8, -8]) (by decide) (by decide)
  obtain ⟨v5, e5, r5, l5⟩ := vints' (l := [8]) (by decide) (by decide)
  obtain ⟨q8, g8, t8⟩ := int' (n := 8) (by decide)
  have hm : min [v2].length v3.length = 1 := by rw [l3]; rfl
  obtain ⟨lv, jm, f1, n1, n2, s1, s2⟩ := nsplit (M := 100) (isl := [0, 0]) r1 r3 (repm1 r2) (by decide) (by rw [hm]; decide) (by decide)
  obtain ⟨pr, f2, n3, s3⟩ := nprices (M := 100) (isl := [0, 0]) r1 r3 (repm1 r2) (by decide) (by rw [hm]; decide) (by decide)
  rw [hm] at s2 s3
  have n3' : pr.length = 2 := n3
  obtain ⟨t, f3, s4⟩ := ntrade (a := 0) (b := 1) s3 t8 (by omega) (by omega) (by decide)
  have f4 := ntrade_no (p := pr) (q := q8) (a := 0) (b := 2) (by omega)
  obtain ⟨_, f5, a, b, rfl, hab⟩ := nends s3 (by decide) (by omega)
  have hE : IsEnd (cut [(0 : Int), 0].length (prF [0, 0] 1 (fun i => (([20] : List Int).getD i 0 : Rat)) (fun i => (([5] : List Int).getD i 0 : Rat)) (fun _ i => (([0, -1] : List Int).getD i 0 : Rat)))) pr.length 0 1 := by
    rw [n3']
    exact ⟨by decide, by decide, two_cases (by decide +kernel) (by decide +kernel), fun i hi => by omega, two_cases (by decide +kernel) (by decide +kernel), one_case (by decide +kernel)⟩
  obtain ⟨rfl, rfl⟩ : a = 0 ∧ b = 1 := by
    rcases hab with h | h
    · omega
    · exact h.uniq hE
  have w1 := row33 (l := [20, 20]) s1 n1 (by decide) (two_cases (by decide +kernel) (by decide +kernel)) (by decide) (by decide)
  have w2 := row33 (l := [0, 5]) s2 n2 (by decide) (two_cases (by decide +kernel) (by decide +kernel)) (by decide) (by decide)
  have w3 := row33 (l := [20, 25]) s3 n3 (by decide) (two_cases (by decide +kernel) (by decide +kernel)) (by decide) (by decide)
  have hm2 : min pr.length v4.length = 2 := by rw [n3', l4]; rfl
  obtain ⟨q1, f6, s6⟩ := nrent s3 r4 (by rw [hm2]; decide)
  rw [hm2] at s6
  have w4 := is33 (n := 40) s6 (by decide) (by decide +kernel) (by decide)
  have hm3 : min v3.length v5.length = 1 := by rw [l3, l5]; rfl
  obtain ⟨q2, f7, s7⟩ := njam r3 r5 (by rw [hm3]; decide)
  rw [hm3] at s7
  have w5 := is33 (n := 40) s7 (by decide) (by decide +kernel) (by decide)
  have w6 := is33 (n := 40) s4 (by decide) (by decide +kernel) (by decide)
  have hm4 : min [(0 : Int)].length v5.length = 1 := by rw [l5]; rfl
  have hm5 : min [(1 : Int)].length v5.length = 1 := by rw [l5]; rfl
  obtain ⟨u, f8, n8, s8⟩ := nin (M := 100) (n := 2) (units := [0]) (bids := [1]) r5 r5 (by decide) (by rw [hm4]; decide) (by rw [hm5]; decide) (by decide)
  rw [hm4, hm5] at s8
  have w7 := row33 (l := [8, -8]) s8 n8 (by decide) (two_cases (by decide +kernel) (by decide +kernel)) (by decide) (by decide)
  unfold law33_awake_m
  refine bind_eq e1 <| bind_eq e2 <| bind_eq e3 <| bind_eq f1 <| bind_eq f2 <| bind_eq g8 <| bind_eq f3 <| bind_eq g8 <| bind_eq f4 <| bind_eq f5 <| letJ_of ?_
  refine bind_eq w1 <| andT (bind_eq w2 rfl) <| andT (bind_eq w3 rfl) <| andT (bind_eq e4 <| bind_eq f6 <| bind_eq w4 rfl) <| andT (bind_eq e5 <| bind_eq f7 <| bind_eq w5 rfl) <| andT (bind_eq (dT rfl) rfl) <| andT (bind_eq w6 rfl) ?_
  exact andT (bind_eq (dT rfl) rfl) <| andT (bind_eq (dT rfl) rfl) <| andT (bind_eq (dT rfl) rfl) <| andT (bind_eq e5 <| bind_eq e5 <| bind_eq f8 <| bind_eq w7 rfl) rfl
theorem aw33 : (law33_awake_m.bind fun x => some x) = some true := bind_eq awake33 rfl
theorem guard33 {b : Bool} {x y : Option Bool} (ht : b = true → x = some true) (hf : b = false → y = some true) : (bif b then x else y) = some true := by
  cases b
  · rw [cfm]; exact hf rfl
  · rw [ctm]; exact ht rfl
section vops
variable {K L M : Nat} {a b : List Qr} {f g : Nat → Rat} {c : Qr} {k : Rat}
end vops
end Go.Proofs.YthgkgjogdgdcgaaGreat
namespace Go.Proofs.YthgkgjogdgdcgaaGreat
open Go.Fw
theorem RepM.at {L : Nat} {m : List (List Qr)} {F : Nat → Nat → Rat} (h : RepM L m F) {l : Nat} (hl : l < m.length) : ∃ v, m[l]? = some v ∧ RepV L v (F l) := ⟨m[l], List.getElem?_eq_getElem hl, h l _ (List.getElem?_eq_getElem hl)⟩
end Go.Proofs.YthgkgjogdgdcgaaGreat
namespace Go.Proofs.YthgkgjogdgdcgaaGreat
open Go.Fw
theorem vq_fill' {n j : Nat} {h : Nat → Rat} (hj : j < n) : (vq j h ++ List.replicate (n - j) (⟨⟨false, []⟩, ⟨false, []⟩⟩ : Qr)).set j (qn (h j)) = vq (j + 1) h ++ List.replicate (n - (j + 1)) ⟨⟨false, []⟩, ⟨false, []⟩⟩ := by
  rw [List.set_append_right _ _ (by rw [vq_len]; exact Nat.le_refl _), vq_len, Nat.sub_self, show n - j = (n - (j + 1)) + 1 by omega, List.replicate_succ, List.set_cons_zero, vq_succ, List.append_assoc]; rfl
theorem isrow_self' {v : List Qr} (h : ∀ q ∈ v, q.num.w.length ≤ 100000000000 ∧ q.den.w.length ≤ 100000000000) (hl : v.length ≤ 100000000000) : ref33_IsRow_m v v = some true := by
  unfold ref33_IsRow_m
  refine bind_eq rfl <| bind_eq rfl <| bind_eq (dF (by simp)) <| bif_f rfl ?_
  refine bind_loop_to (fun k => (k : Int)) v.length (.inl ()) rfl (fun k hk => ?_) ?_ rfl
  · have g := List.getElem?_eq_getElem hk
    obtain ⟨h1, h2⟩ := h _ (List.getElem_mem hk)
    obtain ⟨c, e, hc⟩ := rIs_eq (a := v[k]) (b := v[k]) h1 h2
    have hc := hc.2 rfl
    subst hc
    generalize v[k] = q at g e
    exact bind_eq rfl <| bind_eq (dT (by omega)) <| bif_t rfl <| bind_eq (geti_nat g) <| bind_eq (geti_nat g) <| bind_eq e <| bind_eq rfl <| bif_f rfl <| bind_eq (congrArg some (w64_succ (by omega))) rfl
  · exact bind_eq rfl <| bind_eq (dF (by omega)) <| bif_f rfl rfl
theorem isrow_vq {n L : Nat} {h : Nat → Rat} (hf : ∀ i, i < n → FQ L (h i)) (h1 : 1 ≤ L) (hL : L ≤ 10000000000) (hn : n ≤ 100000000000) : ref33_IsRow_m (vq n h) (vq n h) = some true := by
  refine isrow_self' (fun q hq => ?_) (by rw [vq_len]; exact hn)
  obtain ⟨i, hi, rfl⟩ := List.mem_map.1 hq
  have r := (hf i (List.mem_range.1 hi)).rep h1
  exact ⟨Nat.le_trans r.ln (by omega), Nat.le_trans r.ld (by omega)⟩
theorem isrow_rep {L : Nat} {v : List Qr} {f : Nat → Rat} (h : RepV L v f) (hL : L ≤ 10000000000) (hn : v.length ≤ 100000000000) : ref33_IsRow_m v v = some true := by
  refine isrow_self' (fun q hq => ?_) hn
  obtain ⟨i, hi, rfl⟩ := List.mem_iff_getElem.1 hq
  have r := h.e i hi
  exact ⟨Nat.le_trans r.ln (by omega), Nat.le_trans r.ld (by omega)⟩
theorem copied33 {L : Nat} {v : List Qr} {f : Nat → Rat} (h : RepV L v f) (hL : L ≤ 10000000000) (hn : v.length ≤ 100000) : law33_copied_m v = some v := by
  unfold law33_copied_m
  have ap : apM 64 [] v = some v := apMl (by decide) (by simp; omega)
  refine bind_eq ap ?_
  refine bind_loop_to (fun j => ((j : Int), v)) v.length v rfl (fun j hj => ?_) ?_ rfl
  · have g := List.getElem?_eq_getElem hj
    have r := h.e j hj
    have a1 : apM 4 [] v[j].num.w = some v[j].num.w := apMl (by decide) (by have := r.ln; simp; omega)
    have a2 : apM 4 [] v[j].den.w = some v[j].den.w := apMl (by decide) (by have := r.ld; simp; omega)
    have s : stM v j v[j] = some v := by rw [stM_of hj, List.set_getElem_self]
    clear r
    generalize v[j] = q at *
    exact bind_eq rfl <| bind_eq (dT (by omega)) <| bif_t rfl <| bind_eq (cki_nat hj) <| bind_eq g <| bind_eq a1 <| bind_eq (cki_nat hj) <| bind_eq g <| bind_eq s <| bind_eq (cki_nat hj) <| bind_eq g <| bind_eq a2 <| bind_eq (cki_nat hj) <| bind_eq g <| bind_eq s <| bind_eq (congrArg some (w64_succ (by omega))) rfl
  · exact bind_eq rfl <| bind_eq (dF (by omega)) <| bif_f rfl rfl
end Go.Proofs.YthgkgjogdgdcgaaGreat
namespace Go.Proofs.YthgkgjogdgdcgaaGreat
open Go.Fw
theorem toF_ext {L b : Nat} {pl : List Int} {v : List Qr} {k : Nat → Rat} (h : RepV L v k) : sumQ (toF pl k b) (min pl.length v.length) = sumQ (toF pl k b) pl.length := by
  rcases Nat.le_total pl.length v.length with hle | hle
  · rw [Nat.min_eq_left hle]
  · rw [Nat.min_eq_right hle]
    have : ∀ m, v.length ≤ m → sumQ (toF pl k b) m = sumQ (toF pl k b) v.length := by
      intro m hm
      induction m with
      | zero => rw [show v.length = 0 by omega]
      | succ m ih =>
        by_cases e : v.length = m + 1
        · rw [e]
        · show sumQ (toF pl k b) m + toF pl k b m = _
          rw [ih (by omega)]
          have : toF pl k b m = 0 := by unfold toF; rw [h.z m (by omega)]; split <;> rfl
          rw [this, Rat.add_zero]
    exact (this _ hle).symm
theorem toF_fq {L b : Nat} {pl : List Int} {v : List Qr} {k : Nat → Rat} (h : RepV L v k) (hL : L ≤ 1048576) (hp : pl.length ≤ 40) : ∀ j, j ≤ pl.length → FQ 41943081 (sumQ (toF pl k b) j) := fun j hj =>
  (sumQ_fq (L := L) (fun i hi => by unfold toF; split; exact h.fq i; exact (rep_zero h.l1).fq)).mono (by
    have : j * (L + 1) ≤ 40 * (1048576 + 1) := Nat.mul_le_mul (by omega) (by omega)
    omega)
theorem ntotalX {L b : Nat} {pl : List Int} {v : List Qr} {k : Nat → Rat} (h : RepV L v k) (hL : L ≤ 1048576) (hp : pl.length ≤ 40) : node_total_m pl (b : Int) v = some (qn (sumQ (toF pl k b) pl.length)) := by
  have fq := toF_fq (b := b) h hL hp
  rw [← toF_ext h]
  have hm1 : min pl.length v.length ≤ pl.length := Nat.min_le_left _ _
  have hm2 : min pl.length v.length ≤ v.length := Nat.min_le_right _ _
  unfold node_total_m
  rw [bsm, bsm, min_len, bsm]
  generalize min pl.length v.length = n at *
  have hs : node_sumT_m (n : Int) pl (b : Int) v = some (qn (sumQ (toF pl k b) n)) := by
    unfold node_sumT_m
    refine bind_loop_to (fun j => ((j : Int), (qn (sumQ (toF pl k b) j)).num.neg, (qn (sumQ (toF pl k b) j)).num.w, (qn (sumQ (toF pl k b) j)).den.neg, (qn (sumQ (toF pl k b) j)).den.w)) n ((qn (sumQ (toF pl k b) n)).num.neg, (qn (sumQ (toF pl k b) n)).num.w, (qn (sumQ (toF pl k b) n)).den.neg, (qn (sumQ (toF pl k b) n)).den.w) (by rw [show sumQ (toF pl k b) 0 = 0 from rfl, qn_zero]; rfl) (fun j hj => ?_) ?_ rfl
    · have g := get_getD' (l := pl) (d := 0) (show j < pl.length by omega)
      obtain ⟨p, e1, r1⟩ := h.get (show j < v.length by omega)
      have hS : ∃ p', node_total_1_m (j : Int) pl (b : Int) v = some p' ∧ Rep L p' (toF pl k b j) := by
        unfold node_total_1_m toF
        by_cases hb : pl.getD j 0 = (b : Int)
        · rw [if_pos hb]
          exact ⟨p, bind_eq (geti_nat g) <| bind_eq (dF (by omega)) <| bif_f rfl <| bind_eq (geti_nat e1) rfl, r1⟩
        · rw [if_neg hb]
          exact ⟨qz, bind_eq (geti_nat g) <| bind_eq (dT hb) <| bif_t rfl rfl, rep_zero h.l1⟩
      obtain ⟨p', e2, r2⟩ := hS
      obtain ⟨e3, -⟩ := ((fq j (by omega)).rep (by decide)).add r2 (by omega)
      rw [show sumQ (toF pl k b) j + toF pl k b j = sumQ (toF pl k b) (j + 1) from rfl] at e3
      clear r2 fq
      generalize qn (sumQ (toF pl k b) j) = s at *
      generalize qn (sumQ (toF pl k b) (j + 1)) = s' at *
      exact bind_eq (dT (by omega)) <| bif_t rfl <| bind_eq e2 <| bind_eq e3 <| bind_eq (congrArg some (w64_succ (by omega))) rfl
    · exact bind_eq (dF (by omega)) <| bif_f rfl rfl
  exact bind_eq hs rfl
def inX (units bids : List Int) (k t : Nat → Rat) (b : Nat) : Rat := sumQ (toF units k b) units.length - sumQ (toF bids t b) bids.length
theorem inX_law {L : Nat} {n : Int} {units bids : List Int} {gen take : List Qr} {k t : Nat → Rat} (hk : RepV L gen k) (ht : RepV L take t) (hL : L ≤ 1048576) (hu : units.length ≤ 40) (hb : bids.length ≤ 40) :
    node_In_m n units bids gen take = some (vq (min n 6).toNat (inX units bids k t)) ∧ ref33_In_m n units bids gen take = some (vq (min n 6).toNat (inX units bids k t)) ∧ ∀ i, FQ 90000000 (inX units bids k t i) := by
  have fu : ∀ b j, j ≤ units.length → FQ 41943081 (sumQ (toF units k b) j) := fun b => toF_fq hk hL hu
  have fb : ∀ b j, j ≤ bids.length → FQ 41943081 (sumQ (toF bids t b) j) := fun b => toF_fq ht hL hb
  have fx : ∀ b j, j ≤ bids.length → FQ 83886163 (sumQ (toF units k b) units.length - sumQ (toF bids t b) j) := fun b j hj => ((fu b _ (Nat.le_refl _)).sub (fb b j hj)).mono (by decide)
  refine ⟨?_, ?_, fun i => (fx i _ (Nat.le_refl _)).mono (by decide)⟩
  · unfold node_In_m
    by_cases h1 : n < 1
    · rw [show (min n 6).toNat = 0 by omega]
      exact bind_eq (dT h1) <| bif_t rfl rfl
    · obtain ⟨N, hN⟩ : ∃ N : Nat, min n 6 = (N : Int) := ⟨(min n 6).toNat, by omega⟩
      rw [bsm, show decide (n < 1) = false from decide_eq_false h1, cfm, bsm, hN, mkq _ (by omega), bsm, bsm, List.length_replicate, Int.toNat_natCast]
      refine bind_loop_to (fun j => ((j : Int), vq j (inX units bids k t) ++ List.replicate (N - j) (⟨⟨false, []⟩, ⟨false, []⟩⟩ : Qr))) N (vq N (inX units bids k t)) (by simp [vq_zero]) (fun j hj => ?_) ?_ rfl
      · have e1 := ntotalX (b := j) hk hL hu
        have e2 := ntotalX (b := j) ht hL hb
        have e3 : frac_Sub_m (qn (sumQ (toF units k j) units.length)) (qn (sumQ (toF bids t j) bids.length)) = some (qn (inX units bids k t j)) := (((fu j _ (Nat.le_refl _)).rep (by decide)).sub ((fb j _ (Nat.le_refl _)).rep (by decide)) (by decide)).1
        have s1 := vq_fill' (h := inX units bids k t) hj
        have n1 : (vq j (inX units bids k t) ++ List.replicate (N - j) (⟨⟨false, []⟩, ⟨false, []⟩⟩ : Qr)).length = N := by simp [vq_len]; omega
        rw [← s1]
        clear s1 fu fb fx
        generalize vq j (inX units bids k t) ++ List.replicate (N - j) (⟨⟨false, []⟩, ⟨false, []⟩⟩ : Qr) = u at *
        generalize qn (sumQ (toF units k j) units.length) = q1 at *
        generalize qn (sumQ (toF bids t j) bids.length) = q2 at *
        generalize qn (inX units bids k t j) = q3 at *
        exact bind_eq (dT (by omega)) <| bif_t rfl <| bind_eq e1 <| bind_eq e2 <| bind_eq e3 <| bind_eq (cki_nat (by omega)) <| bind_eq (stM_of (by omega)) <| bind_eq (congrArg some (w64_succ (by omega))) rfl
      · simp only [Nat.sub_self, List.replicate_zero, List.append_nil]
        exact bind_eq (dF (by omega)) <| bif_f rfl rfl
  · unfold ref33_In_m
    refine bind_loop_to (fun j => ((j : Int), vq j (inX units bids k t))) (min n 6).toNat (vq (min n 6).toNat (inX units bids k t)) rfl (fun b hbn => ?_) ?_ rfl
    · refine letJ_of <| bind_eq (dT (by omega)) <| bind_eq (a := true) (bif_t rfl <| bind_eq (dT (by omega)) rfl) <| bif_t rfl ?_
      refine bind_loop_to (fun j => ((j : Int), (qn (sumQ (toF units k b) j)).num.neg, (qn (sumQ (toF units k b) j)).num.w, (qn (sumQ (toF units k b) j)).den.neg, (qn (sumQ (toF units k b) j)).den.w)) units.length ((qn (sumQ (toF units k b) units.length)).num.neg, (qn (sumQ (toF units k b) units.length)).num.w, (qn (sumQ (toF units k b) units.length)).den.neg, (qn (sumQ (toF units k b) units.length)).den.w) (by rw [show sumQ (toF units k b) 0 = 0 from rfl, qn_zero]; rfl) (fun j hj => ?_) ?_ ?_
      · have g := get_getD' (l := units) (d := 0) hj
        by_cases hx : units.getD j 0 = (b : Int)
        · have e := ((fu b j (by omega)).rep (by decide)).radd (hk.at j) (by omega)
          rw [show sumQ (toF units k b) j + k j = sumQ (toF units k b) (j + 1) by show _ = sumQ (toF units k b) j + toF units k b j; unfold toF; rw [if_pos hx]] at e
          have r := rat33 gen j
          clear fu fb fx
          generalize qn (sumQ (toF units k b) j) = s at *
          generalize qn (sumQ (toF units k b) (j + 1)) = s' at *
          generalize qat gen j = p at *
          exact bind_eq rfl <| bind_eq (dT (by omega)) <| bif_t rfl <| bind_eq (geti_nat g) <| bind_eq (dT hx) <| letJ_of <| bif_t rfl <| bind_eq r <| bind_eq e <| bind_eq (congrArg some (w64_succ (by omega))) rfl
        · rw [show sumQ (toF units k b) (j + 1) = sumQ (toF units k b) j by show sumQ (toF units k b) j + toF units k b j = _; rw [show toF units k b j = 0 by unfold toF; rw [if_neg hx]]; exact Rat.add_zero _]
          exact bind_eq rfl <| bind_eq (dT (by omega)) <| bif_t rfl <| bind_eq (geti_nat g) <| bind_eq (dF hx) <| letJ_of <| bif_f rfl <| bind_eq (congrArg some (w64_succ (by omega))) rfl
      · exact bind_eq rfl <| bind_eq (dF (by omega)) <| bif_f rfl rfl
      · have hz : ∀ x : Rat, x - sumQ (toF bids t b) 0 = x := fun x => by show x - 0 = x; grind
        refine bind_loop_to (fun j => ((j : Int), (qn (sumQ (toF units k b) units.length - sumQ (toF bids t b) j)).num.neg, (qn (sumQ (toF units k b) units.length - sumQ (toF bids t b) j)).num.w, (qn (sumQ (toF units k b) units.length - sumQ (toF bids t b) j)).den.neg, (qn (sumQ (toF units k b) units.length - sumQ (toF bids t b) j)).den.w)) bids.length ((qn (inX units bids k t b)).num.neg, (qn (inX units bids k t b)).num.w, (qn (inX units bids k t b)).den.neg, (qn (inX units bids k t b)).den.w) (by rw [hz]; rfl) (fun j hj => ?_) ?_ ?_
        · have g := get_getD' (l := bids) (d := 0) hj
          by_cases hx : bids.getD j 0 = (b : Int)
          · have e := ((fx b j (by omega)).rep (by decide)).rsub (ht.at j) (by omega)
            rw [show sumQ (toF units k b) units.length - sumQ (toF bids t b) j - t j = sumQ (toF units k b) units.length - sumQ (toF bids t b) (j + 1) by
              have : sumQ (toF bids t b) (j + 1) = sumQ (toF bids t b) j + t j := by show sumQ (toF bids t b) j + toF bids t b j = _; unfold toF; rw [if_pos hx]
              rw [this]; grind] at e
            have r := rat33 take j
            clear fu fb fx hz
            generalize qn (sumQ (toF units k b) units.length - sumQ (toF bids t b) j) = s at *
            generalize qn (sumQ (toF units k b) units.length - sumQ (toF bids t b) (j + 1)) = s' at *
            generalize qat take j = p at *
            exact bind_eq rfl <| bind_eq (dT (by omega)) <| bif_t rfl <| bind_eq (geti_nat g) <| bind_eq (dT hx) <| letJ_of <| bif_t rfl <| bind_eq r <| bind_eq e <| bind_eq (congrArg some (w64_succ (by omega))) rfl
          · rw [show sumQ (toF bids t b) (j + 1) = sumQ (toF bids t b) j by show sumQ (toF bids t b) j + toF bids t b j = _; rw [show toF bids t b j = 0 by unfold toF; rw [if_neg hx]]; exact Rat.add_zero _]
            exact bind_eq rfl <| bind_eq (dT (by omega)) <| bif_t rfl <| bind_eq (geti_nat g) <| bind_eq (dF hx) <| letJ_of <| bif_f rfl <| bind_eq (congrArg some (w64_succ (by omega))) rfl
        · exact bind_eq rfl <| bind_eq (dF (by omega)) <| bif_f rfl rfl
        · have a1 := apM1 (b := 64) (l := vq b (inX units bids k t)) (x := qn (inX units bids k t b)) (by decide) (by rw [vq_len]; omega)
          rw [vq_succ]
          clear fu fb fx hz
          generalize vq b (inX units bids k t) = u at *
          generalize qn (inX units bids k t b) = q at *
          exact bind_eq a1 <| bind_eq (congrArg some (w64_succ (by omega))) rfl
    · by_cases h6 : n ≤ 6
      · exact letJ_of <| bind_eq (dF (by omega)) <| bind_eq (a := false) (bif_f rfl rfl) <| bif_f rfl rfl
      · exact letJ_of <| bind_eq (dT (by omega)) <| bind_eq (a := false) (bif_t rfl <| bind_eq (dF (by omega)) rfl) <| bif_f rfl rfl
theorem injections33_law (n : Int) (units bids : List Int) (gen take : List Qr) (_on : i64ok n) (_ou : OkI units) (_ob : OkI bids) (og : OkV gen) (ot : OkV take)
    (hs : 1 + szI units + szI bids + szV gen + szV take ≤ 1048576) : law33_NodeInjectionsMatch_m n units bids gen take = some true := by
  obtain ⟨t1, ht1, hl1⟩ := long33 [gen, take] (by simp)
  unfold law33_NodeInjectionsMatch_m
  refine letJ_of ?_
  refine bind_eq rfl <| bind_eq rfl <| orC (fun _ => bind_eq rfl <| bind_eq rfl rfl) <| orC (fun _ => bind_eq ht1 rfl) <| guard33 (fun _ => aw33) (fun hg => ?_)
  simp only [Bool.or_eq_false_iff, decide_eq_false_iff_not] at hg
  obtain ⟨⟨hu, hb⟩, rfl⟩ := hg
  have l1 := hl1 rfl gen (by simp)
  have rg := repvu og (by omega)
  have rt := repvu ot (by omega)
  obtain ⟨s1, s2, f1⟩ := inX_law (n := n) (units := units) (bids := bids) rg rt (by decide) (by omega) (by omega)
  have i1 := isrow_vq (n := (min n 6).toNat) (fun i _ => f1 i) (by decide) (by decide) (by omega)
  have c1 := copied33 rg (by decide) (by omega)
  have w1 := isrow_rep rg (by decide) (by omega)
  clear f1
  generalize vq (min n 6).toNat (inX units bids (vval gen) (vval take)) = u at *
  refine bind_eq s2 <| bind_eq c1 ?_
  refine bind_loop_to (fun k => (k : Int)) 2 (.inl ()) rfl (fun k hk => ?_) ?_ ?_
  · exact bind_eq (dT (by omega)) <| bif_t rfl <| bind_eq s1 <| bind_eq i1 <| bind_eq rfl <| bif_f rfl <| bind_eq (congrArg some (w64_succ (by omega))) rfl
  · exact bind_eq (dF (by decide)) <| bif_f rfl rfl
  · exact letJ_of <| bind_eq w1 <| andT aw33 rfl
end Go.Proofs.YthgkgjogdgdcgaaGreat
namespace Go.Proofs.YthgkgjogdgdcgaaGreat
open Go.Fw Go.RowKit Go.ChangeShapes Go.WideShapes Go.ChangeAt
set_option linter.unusedVariables false
set_option maxRecDepth 100000 in
theorem nodeInjectionsMatchUpto_contract (H : Type) (enc : TypeId × Value → H) (W : World) (base : Nat) (args : Array Value) (ds gs : List (DataW H)) (before : List MemPlace)
    (hval : ∀ (j : Nat) t v, Tryz.f4.params[j]? = some t → args[j]? = some v → Value.okWide Tryz.prog W .any base t v)
    (hW : DataW.Whole enc Tryz.prog Tryz.f4.params.toList Rows.nodeInjectionsMatchSpec.vars false W args.toList ds gs before) (hk : Rows.uptoSmall H (ds ++ gs) = true) :
    Calls Tryz.prog 4 args W fun e W' => ∃ v, e = .returned v ∧ Rows.nodeInjectionsMatchSpec.post enc Tryz.prog Tryz.f4 false true false false W args v W' := by
  have hW' := hW
  obtain ⟨p, q, hA0, hV, rfl, hfz, hnd⟩ := hW
  have hA : DataW.TrodAll enc Tryz.prog W 0 (fun _ => true) true Tryz.f4.params.toList args.toList ds p := hA0
  rw [Tryz.params4] at hA hval
  obtain ⟨v0, vs0, d0, ds0, p0, q0, hargs, rfl, rfl, h0, r0⟩ := trodAll_cons hA
  obtain ⟨v1, vs1, d1, ds1, p1, q1, rfl, rfl, rfl, h1, r1⟩ := trodAll_cons r0
  obtain ⟨v2, vs2, d2, ds2, p2, q2, rfl, rfl, rfl, h2, r2⟩ := trodAll_cons r1
  obtain ⟨v3, vs3, d3, ds3, p3, q3, rfl, rfl, rfl, h3, r3⟩ := trodAll_cons r2
  obtain ⟨v4, vs4, d4, ds4, p4, q4, rfl, rfl, rfl, h4, r4⟩ := trodAll_cons r3
  obtain ⟨rfl, rfl, rfl⟩ := trodAll_nil r4
  obtain rfl : args = #[v0, v1, v2, v3, v4] := by cases args; simp_all
  obtain ⟨rfl, rfl⟩ := trodVars_none hV
  have lt0 : ∀ x ∈ p0, x.block < W.heap.size := by obtain ⟨m, hm⟩ := h0; exact DataW.trod_lt m _ _ _ hm
  obtain ⟨x0, ok0, sz0, al0⟩ := arg_one (P := Tryz.prog) (T := 3) (e := eI64) (hval 0 3 v0 rfl rfl) h0
  have lt1 : ∀ x ∈ p1, x.block < W.heap.size := by obtain ⟨m, hm⟩ := h1; exact DataW.trod_lt m _ _ _ hm
  obtain ⟨x1, ok1, sz1, al1⟩ := arg_one (P := Tryz.prog) (T := 22) (e := (eS 1 eI64)) (hval 1 22 v1 rfl rfl) h1
  have lt2 : ∀ x ∈ p2, x.block < W.heap.size := by obtain ⟨m, hm⟩ := h2; exact DataW.trod_lt m _ _ _ hm
  obtain ⟨x2, ok2, sz2, al2⟩ := arg_one (P := Tryz.prog) (T := 22) (e := (eS 1 eI64)) (hval 2 22 v2 rfl rfl) h2
  have lt3 : ∀ x ∈ p3, x.block < W.heap.size := by obtain ⟨m, hm⟩ := h3; exact DataW.trod_lt m _ _ _ hm
  obtain ⟨x3, ok3, sz3, al3⟩ := arg_one (P := Tryz.prog) (T := 23) (e := (eS 4 eQ)) (hval 3 23 v3 rfl rfl) h3
  have lt4 : ∀ x ∈ p4, x.block < W.heap.size := by obtain ⟨m, hm⟩ := h4; exact DataW.trod_lt m _ _ _ hm
  obtain ⟨x4, ok4, sz4, al4⟩ := arg_one (P := Tryz.prog) (T := 23) (e := (eS 4 eQ)) (hval 4 23 v4 rfl rfl) h4
  have hsz : Rows.uptoBulk d0 + Rows.uptoBulk d1 + Rows.uptoBulk d2 + Rows.uptoBulk d3 + Rows.uptoBulk d4 ≤ 1048576 := by
    have := of_decide_eq_true hk; simp only [List.cons_append, List.nil_append, List.append_nil, Rows.uptoBulkAll] at this; omega
  clear hA0
  refine (said_of (law33_NodeInjectionsMatch_ok (injections33_law x0 x1 x2 x3 x4 ok0 ok1 ok2 ok3 ok4 (Nat.le_trans (Nat.add_le_add (Nat.add_le_add (Nat.add_le_add (Nat.add_le_add sz0 sz1) sz2) sz3) sz4) hsz))) (W := W) (vs := [v0, v1, v2, v3, v4]) ⟨al0.1, al1.1, al2.1, al3.1, al4.1, trivial⟩).mono fun e W' ⟨he, bel⟩ => ?_
  subst he
  exact ⟨_, rfl, _, _, _, [], _, [], hW', trodAll_mk1 (shut_bool Tryz.underlying4 _), (trodAll_cons_mk (Below.trod laidOut_ (by kernel_rfl) (of_decide_eq_true (by kernel_rfl)) h0 bel lt0) (trodAll_cons_mk (Below.trod laidOut_ (by kernel_rfl) (of_decide_eq_true (by kernel_rfl)) h1 bel lt1) (trodAll_cons_mk (Below.trod laidOut_ (by kernel_rfl) (of_decide_eq_true (by kernel_rfl)) h2 bel lt2) (trodAll_cons_mk (Below.trod laidOut_ (by kernel_rfl) (of_decide_eq_true (by kernel_rfl)) h3 bel lt3) (trodAll_cons_mk (Below.trod laidOut_ (by kernel_rfl) (of_decide_eq_true (by kernel_rfl)) h4 bel lt4) trodAll_mk0))))), rfl, bel.frame _, fun h => by cases h⟩
set_option maxRecDepth 100000 in
theorem nodeInjectionsMatchUpto_lifted (os : Os) (started : os.Started) (H : Type) (enc : TypeId × Value → H) (F : Stop.Interp) :
    ReturnsInHanded {} Tryz.checked os 4 .any ((Rows.OpenSpec.upto Rows.nodeInjectionsMatchSpec).pre6 enc Tryz.prog Tryz.f4 Rows.nodeInjectionsMatchUptoRow.domain false) (((Rows.OpenSpec.upto Rows.nodeInjectionsMatchSpec).at F).post enc Tryz.prog Tryz.f4 false true false false) := by
  refine returnsInHanded_of_cond (C := Tryz.checked) (s := Rows.OpenSpec.upto Rows.nodeInjectionsMatchSpec) (k := Rows.uptoSmall) rfl own_ started (by kernel_rfl) Tryz.func4
    (OpenSpec.witness (enc := enc) (C := Tryz.checked) (s := Rows.OpenSpec.upto Rows.nodeInjectionsMatchSpec) (k := Rows.uptoSmall) rfl false ⟨#[], #[.int .i64 0, .slice none 0 0, .slice none 0 0, .slice none 0 0, .slice none 0 0], []⟩ 8 (by kernel_rfl) (by kernel_rfl) (by kernel_rfl)
      (x := ([.lit (.int .i64 0), .nil, .nil, .nil, .nil], [], [])) (by kernel_rfl) rfl (by kernel_rfl)) ?_
  intro W base args ds gs before hval hW _ hk _
  exact nodeInjectionsMatchUpto_contract H enc W base args ds gs before hval hW hk
theorem nodeInjectionsMatchUpto_holds : Rows.NodeInjectionsMatchUptoSaid :=
  OpenClaim.holds_of_cond 4 Tryz.f4 rfl rfl rfl rfl rfl rfl rfl ⟨rfl, rfl, rfl, rfl, rfl⟩ rfl rfl rfl rfl rfl (by kernel_rfl) Tryz.func4 (by kernel_rfl)
    (of_decide_eq_true (by kernel_rfl)) (by unfold Func.isWrapper; first | (rw [if_pos (by decide +kernel)]; kernel_rfl) | (rw [if_neg (by decide +kernel)]; exact ⟨rfl, rfl⟩))
    (fun os started H enc _ F => nodeInjectionsMatchUpto_lifted os started H enc F)
end Go.Proofs.YthgkgjogdgdcgaaGreat
