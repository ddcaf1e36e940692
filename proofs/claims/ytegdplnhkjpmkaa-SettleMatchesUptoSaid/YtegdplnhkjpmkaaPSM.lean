/- The law SettleMatches answers true for every input, up to the size that the statement names. -/
import Derived.Test.YtegdplnhkjpmkaaPSM5
set_option linter.unusedVariables false
set_option linter.unusedSimpArgs false
namespace Go.Proofs.Ytegdplnhkjpmkaa
open Go.Fw
def owQ (a p r n : Rat) : Rat := a * p + n * (r - a)
theorem owed {L : Nat} {a p r n : Qr} {x y z w : Rat} (ha : Rep L a x) (hp : Rep L p y) (hr : Rep L r z) (hn : Rep L n w) (h : 5 * L + 2 ≤ 4000000000) : ∃ q, settle_Owed_m a p r n = some q ∧ Rep (5 * L + 2) q (owQ x y z w) := by
  obtain ⟨q1, e1, r1⟩ := ha.mul' hp (by omega)
  obtain ⟨q2, e2, r2⟩ := hr.sub' ha (by omega)
  obtain ⟨q3, e3, r3⟩ := hn.mul' r2 (by omega)
  obtain ⟨q4, e4, r4⟩ := r1.add' r3 (by omega)
  refine ⟨q4, ?_, r4.mono (by omega)⟩
  unfold settle_Owed_m
  exact bind_eq e1 <| bind_eq e2 <| bind_eq e3 <| bind_eq e4 rfl
theorem selem (a : List Qr) (i : Nat) : settle_element_m a (i : Int) = some (qat a i) := by
  unfold settle_element_m qat
  by_cases h : i < a.length
  · exact bind_eq rfl <| bind_eq (dF (by omega)) <| bif_f rfl <| bind_eq (geti_nat (get_getD' (d := qz) h)) rfl
  · refine bind_eq rfl <| bind_eq (dT (by omega)) <| bif_t rfl ?_
    rw [getD_of_le' (by omega)]; rfl
def AtOk (at' : List Int) (n : Nat) : Prop := ∀ x ∈ at', 0 ≤ x ∧ x < n
def owF (at' : List Int) (ka fa kr fr : Nat → Rat) (i : Nat) : Rat := owQ (ka i) (fa (at'.getD i 0).toNat) (kr i) (fr (at'.getD i 0).toNat)
theorem amounts {L : Nat} {at' : List Int} {pa ga ta pr gr tr : List Qr} {fa ka fr kr : Nat → Rat} (h1 : RepV L pa fa) (h2 : RepV L ga ka) (h3 : RepV L pr fr) (h4 : RepV L gr kr) (hn : at'.length ≤ 1000) (hL : 5 * L + 2 ≤ 4000000000) :
    ∃ r, settle_amountsU_m at' ⟨pa, ga, ta⟩ ⟨pr, gr, tr⟩ = some r ∧ ((AtOk at' (min pa.length pr.length) ∧ r.2 = 0 ∧ r.1.length = at'.length ∧ RepV (5 * L + 2) r.1 (fun i => if i < at'.length then owF at' ka fa kr fr i else 0)) ∨ (¬ AtOk at' (min pa.length pr.length) ∧ r = ([], 1))) := by
  unfold settle_amountsU_m
  have l1 : (1 : Nat) ≤ 5 * L + 2 := by omega
  refine (fun (H : ∃ r, _ = some r ∧ _) => H) ?_
  have hmk := mkM_of (b := 64) (z := (⟨⟨false, []⟩, ⟨false, []⟩⟩ : Qr)) (by omega) (show at'.length ≤ 1000000000000 by omega)
  have hmin := min_len pa pr
  show ∃ r, (Option.bind (some ga) _) = some r ∧ _
  rw [bsm, show settle_Units_1_m ⟨pr, gr, tr⟩ = some gr from rfl, bsm, bsm, bsm, hmin, bsm, bsm, hmk, bsm, bsm]
  refine bind_loop_ex (fun s => ∃ (j : Nat) (l : List Qr), s = ((j : Int), l) ∧ j ≤ at'.length ∧ l.length = at'.length ∧ (∀ i, i < j → 0 ≤ at'.getD i 0 ∧ at'.getD i 0 < ((min pa.length pr.length : Nat) : Int)) ∧ ∀ i q, i < j → l[i]? = some q → Rep (5 * L + 2) q (owF at' ka fa kr fr i))
    (fun e => (∃ l, e = .inl l ∧ l.length = at'.length ∧ AtOk at' (min pa.length pr.length) ∧ ∀ i q, l[i]? = some q → Rep (5 * L + 2) q (owF at' ka fa kr fr i)) ∨ (e = .inr ([], 1) ∧ ¬ AtOk at' (min pa.length pr.length)))
    (fun s => at'.length - s.1.toNat) ?_ ⟨0, _, rfl, by omega, by simp, fun i hi => by omega, fun i q hi => by omega⟩ ?_
  · rintro _ ⟨j, l, rfl, hj, hl, hok, hrep⟩
    by_cases hlt : j < at'.length
    · have g := get_getD' (l := at') (d := 0) hlt
      by_cases hb : 0 ≤ at'.getD j 0 ∧ at'.getD j 0 < ((min pa.length pr.length : Nat) : Int)
      · left
        obtain ⟨k, hk⟩ : ∃ k : Nat, at'.getD j 0 = (k : Int) := ⟨(at'.getD j 0).toNat, by omega⟩
        obtain ⟨p1, e1, r1⟩ := h1.get (show k < pa.length by omega)
        obtain ⟨p2, e2, r2⟩ := h3.get (show k < pr.length by omega)
        obtain ⟨q, e3, r3⟩ := owed (h2.at j) r1 (h4.at j) r2 hL
        have hF : owF at' ka fa kr fr j = owQ (ka j) (fa k) (kr j) (fr k) := by unfold owF; rw [hk, Int.toNat_natCast]
        rw [hk] at g hb
        refine ⟨(((j + 1 : Nat) : Int), l.set j q), ?_, ⟨j + 1, _, rfl, hlt, by simp [hl], ?_, ?_⟩, by simp only [Int.toNat_natCast]; omega⟩
        · refine bind_eq (dT (by omega)) <| bif_t rfl <| bind_eq (geti_nat g) <| letJ_of ?_
          refine bind_eq (dF (by omega)) <| bind_eq (a := false) (bif_f rfl <| bind_eq (dF (by omega)) rfl) <| bif_f rfl ?_
          exact bind_eq (selem _ _) <| bind_eq (geti_nat e1) <| bind_eq (selem _ _) <| bind_eq (geti_nat e2) <| bind_eq e3 <| bind_eq (cki_nat (by omega)) <| bind_eq (stM_of (by omega)) <| bind_eq (congrArg some (w64_succ (by omega))) rfl
        · intro i hi
          rcases Nat.lt_or_ge i j with q' | q'
          · exact hok i q'
          · obtain rfl : i = j := by omega
            rw [hk]; exact hb
        · intro i q' hi hq
          rw [List.getElem?_set] at hq
          by_cases e : j = i
          · subst e
            rw [if_pos rfl, if_pos (by omega)] at hq
            rw [← Option.some.inj hq, hF]; exact r3
          · rw [if_neg e] at hq
            exact hrep i q' (by omega) hq
      · refine .inr ⟨.inr ([], 1), ?_, .inr ⟨rfl, fun ha => ?_⟩⟩
        · refine bind_eq (dT (by omega)) <| bif_t rfl <| bind_eq (geti_nat g) <| letJ_of ?_
          by_cases h0 : at'.getD j 0 < 0
          · exact bind_eq (dT h0) <| bind_eq (a := true) (bif_t rfl rfl) <| bif_t rfl rfl
          · exact bind_eq (dF h0) <| bind_eq (a := true) (bif_f rfl <| bind_eq (dT (by omega)) rfl) <| bif_t rfl rfl
        · have hm : at'.getD j 0 ∈ at' := by rw [List.getD_eq_getElem?_getD, List.getElem?_eq_getElem hlt]; exact List.getElem_mem hlt
          exact hb (ha _ hm)
    · refine .inr ⟨.inl l, bind_eq (dF (by omega)) <| bif_f rfl rfl, .inl ⟨l, rfl, hl, fun x hx => ?_, fun i q hq => hrep i q ?_ hq⟩⟩
      · obtain ⟨i, hi, rfl⟩ := List.mem_iff_getElem.1 hx
        have := hok i (by omega)
        rwa [List.getD_eq_getElem?_getD, List.getElem?_eq_getElem hi] at this
      · have := (List.getElem?_eq_some_iff.1 hq).1; omega
  · rintro e (⟨l, rfl, hl, ha, hr⟩ | ⟨rfl, ha⟩)
    · exact ⟨(l, 0), rfl, .inl ⟨ha, rfl, hl, RepV.of hl hr l1⟩⟩
    · exact ⟨([], 1), rfl, .inr ⟨ha, rfl⟩⟩
theorem units_of {at' : List Int} {a b : Sd} {r : List Qr × Int} (h : settle_amountsU_m at' a b = some r) : settle_Units_m at' a b = some r := by
  unfold settle_Units_m; exact bind_eq h rfl
theorem bids_of {at' : List Int} {a b : Sd} {r : List Qr × Int} (h : settle_amountsB_m at' a b = some r) : settle_Bids_m at' a b = some r := by
  unfold settle_Bids_m; exact bind_eq h rfl
theorem units {L : Nat} {at' : List Int} {pa ga ta pr gr tr : List Qr} {fa ka fr kr : Nat → Rat} (h1 : RepV L pa fa) (h2 : RepV L ga ka) (h3 : RepV L pr fr) (h4 : RepV L gr kr) (hn : at'.length ≤ 1000) (hL : 5 * L + 2 ≤ 4000000000) (ha : AtOk at' (min pa.length pr.length)) :
    ∃ v, settle_Units_m at' ⟨pa, ga, ta⟩ ⟨pr, gr, tr⟩ = some (v, 0) ∧ v.length = at'.length ∧ RepV (5 * L + 2) v (fun i => if i < at'.length then owF at' ka fa kr fr i else 0) := by
  obtain ⟨⟨v, e⟩, h, hr | hr⟩ := amounts (ta := ta) (tr := tr) h1 h2 h3 h4 hn hL
  · obtain ⟨_, rfl, h5, h6⟩ := hr
    exact ⟨v, units_of h, h5, h6⟩
  · exact absurd ha hr.1
theorem bids {L : Nat} {at' : List Int} {pa ga ta pr gr tr : List Qr} {fa ka fr kr : Nat → Rat} (h1 : RepV L pa fa) (h2 : RepV L ta ka) (h3 : RepV L pr fr) (h4 : RepV L tr kr) (hn : at'.length ≤ 1000) (hL : 5 * L + 2 ≤ 4000000000) (ha : AtOk at' (min pa.length pr.length)) :
    ∃ v, settle_Bids_m at' ⟨pa, ga, ta⟩ ⟨pr, gr, tr⟩ = some (v, 0) ∧ v.length = at'.length ∧ RepV (5 * L + 2) v (fun i => if i < at'.length then owF at' ka fa kr fr i else 0) := by
  obtain ⟨⟨v, e⟩, h, hr | hr⟩ := amounts (ta := ga) (tr := gr) h1 h2 h3 h4 hn hL
  · obtain ⟨_, rfl, h5, h6⟩ := hr
    exact ⟨v, bids_of h, h5, h6⟩
  · exact absurd ha hr.1
theorem units_no {L : Nat} {at' : List Int} {pa ga ta pr gr tr : List Qr} {fa ka fr kr : Nat → Rat} (h1 : RepV L pa fa) (h2 : RepV L ga ka) (h3 : RepV L pr fr) (h4 : RepV L gr kr) (hn : at'.length ≤ 1000) (hL : 5 * L + 2 ≤ 4000000000) (ha : ¬ AtOk at' (min pa.length pr.length)) :
    settle_Units_m at' ⟨pa, ga, ta⟩ ⟨pr, gr, tr⟩ = some ([], 1) := by
  obtain ⟨r, h, hr | hr⟩ := amounts (ta := ta) (tr := tr) h1 h2 h3 h4 hn hL
  · exact absurd hr.1 ha
  · rw [hr.2] at h; exact units_of h
theorem total {L : Nat} {v : List Qr} {f : Nat → Rat} (h : RepV L v f) (hL : (v.length + 1) * (L + 1) + 1 ≤ 4000000000) : ∃ q, settle_total_m v = some q ∧ Rep (v.length * (L + 1) + 1) q (sumQ f v.length) := by
  have hlen : v.length ≤ 4000000000 := by
    have : v.length * 1 ≤ v.length * (L + 1) := Nat.mul_le_mul_left _ (by omega)
    rw [Nat.add_mul] at hL; omega
  unfold settle_total_m
  rw [bsm]
  refine bind_loop_ex (fun s => ∃ (j : Nat) (q : Qr), s = ((j : Int), q.num.neg, q.num.w, q.den.neg, q.den.w) ∧ j ≤ v.length ∧ Rep (j * (L + 1) + 1) q (sumQ f j)) (fun e => ∃ q : Qr, e = (q.num.neg, q.num.w, q.den.neg, q.den.w) ∧ Rep (v.length * (L + 1) + 1) q (sumQ f v.length)) (fun s => v.length - s.1.toNat) ?_ ⟨0, qz, rfl, by omega, by rw [Nat.zero_mul]; exact rep_zero (by omega)⟩ ?_
  · rintro _ ⟨j, q, rfl, hj, hq⟩
    by_cases hlt : j < v.length
    · obtain ⟨p, e1, r1⟩ := h.get hlt
      have hj2 : j * (L + 1) ≤ v.length * (L + 1) := Nat.mul_le_mul_right _ (by omega)
      rw [Nat.add_mul] at hL
      obtain ⟨q2, e2, r2⟩ := hq.add' r1 (by omega)
      refine .inl ⟨(((j + 1 : Nat) : Int), q2.num.neg, q2.num.w, q2.den.neg, q2.den.w), ?_, ⟨j + 1, q2, rfl, hlt, r2.mono (by rw [Nat.add_mul]; omega)⟩, by simp only [Int.toNat_natCast]; omega⟩
      exact bind_eq (dT (by omega)) <| bif_t rfl <| bind_eq (geti_nat e1) <| bind_eq e2 <| bind_eq (congrArg some (w64_succ (by omega))) rfl
    · obtain rfl : j = v.length := by omega
      exact .inr ⟨_, bind_eq (dF (by omega)) <| bif_f rfl rfl, q, rfl, hq⟩
  · rintro _ ⟨q, rfl, hq⟩
    exact ⟨q, rfl, hq⟩
theorem rest {L M : Nat} {u v : List Qr} {f g : Nat → Rat} (h : RepV L u f) (k : RepV M v g) (hL : (u.length + 1) * (L + 1) + 1 + ((v.length + 1) * (M + 1) + 1) ≤ 4000000000) :
    ∃ q, settle_Rest_m u v = some q ∧ Rep (u.length * (L + 1) + 1 + (v.length * (M + 1) + 1) + 1) q (sumQ f u.length - sumQ g v.length) := by
  obtain ⟨q1, e1, r1⟩ := total h (by omega)
  obtain ⟨q2, e2, r2⟩ := total k (by omega)
  have a1 : u.length * (L + 1) ≤ (u.length + 1) * (L + 1) := Nat.mul_le_mul_right _ (by omega)
  have a2 : v.length * (M + 1) ≤ (v.length + 1) * (M + 1) := Nat.mul_le_mul_right _ (by omega)
  obtain ⟨q3, e3, r3⟩ := r1.sub' r2 (by omega)
  refine ⟨q3, ?_, r3⟩
  unfold settle_Rest_m
  exact bind_eq e1 <| bind_eq e2 <| bind_eq e3 rfl
theorem is36 {L : Nat} {q : Qr} {x : Rat} {n : Int} (h : Rep L q x) (hn : i64ok n) (e : x = (n : Rat)) (hL : L + 2 ≤ 4000000000) : law36_is_m q n = some true := by
  obtain ⟨p, e1, r1⟩ := int' hn
  unfold law36_is_m
  exact bind_eq e1 <| bind_eq (h.eqT r1 e hL) rfl
end Go.Proofs.Ytegdplnhkjpmkaa
namespace Go.Proofs.Ytegdplnhkjpmkaa
open Go.Fw
theorem isAt {L : Nat} {v : List Qr} {f : Nat → Rat} (h : RepV L v f) {i : Nat} (hi : i < v.length) {n : Int} (hn : i64ok n) (e : f i = (n : Rat)) (hL : L + 2 ≤ 4000000000) : ∃ q, v[i]? = some q ∧ law36_is_m q n = some true := by
  obtain ⟨q, hq, rq⟩ := h.get hi
  exact ⟨q, hq, is36 rq hn e hL⟩
theorem atok1 {n : Nat} {x : Int} (h : 0 ≤ x ∧ x < n) : AtOk [x] n := fun y hy => by simp at hy; rw [hy]; exact h
theorem awake36 : law36_awake_m = some true := by
  obtain ⟨v1, e1, r1, l1⟩ := vints' (l := [20, 25]) (by decide) (by decide)
  obtain ⟨v2, e2, r2, l2⟩ := vints' (l := [10]) (by decide) (by decide)
  obtain ⟨v4, e4, r4, l4⟩ := vints' (l := [30, 30]) (by decide) (by decide)
  obtain ⟨v5, e5, r5, l5⟩ := vints' (l := [7]) (by decide) (by decide)
  have hm : min v1.length v4.length = 2 := by rw [l1, l4]; rfl
  obtain ⟨u1, f1, m1, s1⟩ := units (at' := [0]) (ta := v2) (tr := v5) r1 r2 r4 r5 (by decide) (by decide) (by rw [hm]; exact atok1 (by decide))
  obtain ⟨u2, f2, m2, s2⟩ := bids (at' := [1]) (ga := v2) (gr := v5) r1 r2 r4 r5 (by decide) (by decide) (by rw [hm]; exact atok1 (by decide))
  have f3 := units_no (at' := [2]) (ta := v2) (tr := v5) r1 r2 r4 r5 (by decide) (by decide) (by rw [hm]; exact fun h => by have := h 2 (by simp); omega)
  obtain ⟨q1, g1, t1⟩ := int' (n := 10) (by decide)
  obtain ⟨q2, g2, t2⟩ := int' (n := 20) (by decide)
  obtain ⟨q3, g3, t3⟩ := int' (n := 7) (by decide)
  obtain ⟨q4, g4, t4⟩ := int' (n := 30) (by decide)
  obtain ⟨q5, g5, t5⟩ := owed t1 t2 t3 t4 (by decide)
  have i1 := is36 (n := 110) t5 (by decide) (by decide +kernel) (by decide)
  have n1 : u1.length = 1 := m1
  have n2 : u2.length = 1 := m2
  obtain ⟨p1, a1, b1⟩ := isAt (i := 0) s1 (by omega) (n := 110) (by decide) (by decide +kernel) (by decide)
  obtain ⟨p2, a2, b2⟩ := isAt (i := 0) s2 (by omega) (n := 160) (by decide) (by decide +kernel) (by decide)
  obtain ⟨q6, g6, t6⟩ := rest s2 s1 (by rw [n1, n2]; decide)
  have i2 := is36 (n := 50) t6 (by decide) (by rw [n1, n2]; decide +kernel) (by rw [n1, n2]; decide)
  unfold law36_awake_m
  refine bind_eq e1 <| bind_eq e2 <| bind_eq e2 <| bind_eq e4 <| bind_eq e5 <| bind_eq e5 <| bind_eq f1 <| bind_eq f2 <| bind_eq f3 <| letJ_of ?_
  refine bind_eq g1 <| bind_eq g2 <| bind_eq g3 <| bind_eq g4 <| bind_eq g5 <| bind_eq i1 <| andT (bind_eq rfl rfl) <| andT (bind_eq rfl <| bind_eq (dT (by omega)) rfl) ?_
  refine andT (bind_eq (geti_zero a1) <| bind_eq b1 rfl) <| andT (bind_eq rfl rfl) <| andT (bind_eq rfl <| bind_eq (dT (by omega)) rfl) <| andT (bind_eq (geti_zero a2) <| bind_eq b2 rfl) ?_
  exact andT (bind_eq g6 <| bind_eq i2 rfl) <| andT (bind_eq rfl rfl) rfl
theorem long36 (l : List Sd) (hl : l.length ≤ 1000) : ∃ b, law36_long_m l = some b ∧ (b = false → ∀ s ∈ l, s.prices.length ≤ 40 ∧ s.gen.length ≤ 40 ∧ s.take.length ≤ 40) := by
  unfold law36_long_m
  refine bind_loop_ex (fun s => ∃ i : Nat, s = (i : Int) ∧ i ≤ l.length ∧ ∀ s ∈ l.take i, s.prices.length ≤ 40 ∧ s.gen.length ≤ 40 ∧ s.take.length ≤ 40) (fun e => (e = .inl () ∧ ∀ s ∈ l, s.prices.length ≤ 40 ∧ s.gen.length ≤ 40 ∧ s.take.length ≤ 40) ∨ e = .inr true) (fun s => l.length - s.toNat) ?_ ⟨0, rfl, by omega, by simp⟩ ?_
  · rintro _ ⟨i, rfl, hi, ht⟩
    by_cases hlt : i < l.length
    · have g := List.getElem?_eq_getElem hlt
      generalize hx : l[i] = x at g
      obtain ⟨b, hb, hs⟩ := long33 [x.prices, x.gen, x.take] (by simp)
      cases b
      · refine .inl ⟨((i + 1 : Nat) : Int), bind_eq rfl <| bind_eq (dT (by omega)) <| bif_t rfl <| bind_eq (geti_nat g) <| bind_eq (geti_nat g) <| bind_eq (geti_nat g) <| bind_eq hb <| bif_f rfl <| bind_eq (congrArg some (w64_succ (by omega))) rfl, ⟨i + 1, rfl, hlt, ?_⟩, by simp only [Int.toNat_natCast]; omega⟩
        rw [List.take_add_one, g]
        intro u hu
        rcases List.mem_append.1 hu with h | h
        · exact ht u h
        · simp at h; rw [h]; exact ⟨hs rfl _ (by simp), hs rfl _ (by simp), hs rfl _ (by simp)⟩
      · exact .inr ⟨.inr true, bind_eq rfl <| bind_eq (dT (by omega)) <| bif_t rfl <| bind_eq (geti_nat g) <| bind_eq (geti_nat g) <| bind_eq (geti_nat g) <| bind_eq hb <| bif_t rfl rfl, .inr rfl⟩
    · refine .inr ⟨.inl (), bind_eq rfl <| bind_eq (dF (by omega)) <| bif_f rfl rfl, .inl ⟨rfl, ?_⟩⟩
      rw [List.take_of_length_le (by omega)] at ht; exact ht
  · rintro e (⟨rfl, he⟩ | rfl)
    · exact ⟨false, rfl, fun _ => he⟩
    · exact ⟨true, rfl, fun h => by cases h⟩
end Go.Proofs.Ytegdplnhkjpmkaa
namespace Go.Proofs.Ytegdplnhkjpmkaa
open Go.Fw
abbrev OkS (s : Sd) : Prop := OkV s.prices ∧ OkV s.gen ∧ OkV s.take
abbrev szS (s : Sd) : Nat := szV s.prices + szV s.gen + szV s.take + 1
theorem guard {b : Bool} {x y : Option Bool} (ht : b = true → x = some true) (hf : b = false → y = some true) : (bif b then x else y) = some true := by
  cases b
  · rw [cfm]; exact hf rfl
  · rw [ctm]; exact ht rfl
theorem aw : (law36_awake_m.bind fun x => some x) = some true := bind_eq awake36 rfl
def RepL (L : Nat) : List Qr → List Rat → Prop
  | [], [] => True
  | q :: v, x :: l => Rep L q x ∧ RepL L v l
  | _, _ => False
theorem RepL.len {L : Nat} : ∀ {v : List Qr} {l : List Rat}, RepL L v l → v.length = l.length
  | [], [], _ => rfl
  | _ :: _, _ :: _, h => congrArg (· + 1) (RepL.len h.2)
  | [], _ :: _, h => h.elim
  | _ :: _, [], h => h.elim
theorem RepL.get {L : Nat} : ∀ {v : List Qr} {l : List Rat} {i : Nat} {q : Qr}, RepL L v l → v[i]? = some q → Rep L q (l.getD i 0)
  | q' :: _, _ :: _, 0, _, h, e => by simp at e; subst e; exact h.1
  | _ :: v, x :: l, i + 1, _, h, e => RepL.get (v := v) (l := l) (i := i) h.2 (by simpa using e)
  | [], [], _, _, _, e => by simp at e
  | [], _ :: _, _, _, h, _ => h.elim
  | _ :: _, [], _, _, h, _ => h.elim
theorem RepL.v {L : Nat} {v : List Qr} {l : List Rat} (h : RepL L v l) (h1 : 1 ≤ L) : RepV L v (fun i => l.getD i 0) :=
  ⟨fun i hi => h.get (List.getElem?_eq_getElem hi), fun i hi => getD_of_le' (by rw [← h.len]; exact hi), h1⟩
end Go.Proofs.Ytegdplnhkjpmkaa
namespace Go.Proofs.Ytegdplnhkjpmkaa
open Go.Fw
theorem owedX {L : Nat} {a p r n : Qr} {x y z w : Rat} (ha : Rep L a x) (hp : Rep L p y) (hr : Rep L r z) (hn : Rep L n w) (h : 5 * L + 2 ≤ 4000000000) : settle_Owed_m a p r n = some (qn (owQ x y z w)) ∧ ref36_Owed_m a p r n = some (qn (owQ x y z w)) ∧ FQ (5 * L + 2) (owQ x y z w) := by
  obtain ⟨e1, r1⟩ := ha.mul hp (by omega)
  obtain ⟨e2, r2⟩ := hr.sub ha (by omega)
  obtain ⟨e3, r3⟩ := hn.mul r2 (by omega)
  obtain ⟨e4, r4⟩ := r1.add r3 (by omega)
  have f1 := ha.rmul hp (by omega)
  have f2 := hr.rsub ha (by omega)
  have f3 := hn.rmul r2 (by omega)
  have f4 := r1.radd r3 (by omega)
  have hv : x * y + w * (z - x) = owQ x y z w := rfl
  rw [hv] at e4 f4 r4
  refine ⟨?_, ?_, r4.fq.mono (by omega)⟩
  · unfold settle_Owed_m
    clear r1 r2 r3 r4 ha hp hr hn f1 f2 f3 f4 hv
    generalize qn (x * y) = q1 at *
    generalize qn (z - x) = q2 at *
    generalize qn (w * (z - x)) = q3 at *
    generalize qn (owQ x y z w) = q4 at *
    exact bind_eq e1 <| bind_eq e2 <| bind_eq e3 <| bind_eq e4 rfl
  · unfold ref36_Owed_m
    clear r1 r2 r3 r4 ha hp hr hn e1 e2 e3 e4 hv
    generalize qn (x * y) = q1 at *
    generalize qn (z - x) = q2 at *
    generalize qn (w * (z - x)) = q3 at *
    generalize qn (owQ x y z w) = q4 at *
    exact bind_eq f1 <| bind_eq f2 <| bind_eq f3 <| bind_eq f4 rfl
theorem first_bad (p : Nat → Prop) [DecidablePred p] : ∀ n, (∀ i, i < n → p i) ∨ ∃ j, j < n ∧ ¬ p j ∧ ∀ i, i < j → p i
  | 0 => .inl (fun i h => by omega)
  | n + 1 => by
    rcases first_bad p n with h | ⟨j, h1, h2, h3⟩
    · by_cases hn : p n
      · exact .inl (fun i hi => by
        rcases Nat.lt_or_ge i n with q | q
        · exact h i q
        · have e : i = n := by omega
          rw [e]; exact hn)
      · exact .inr ⟨n, by omega, hn, h⟩
    · exact .inr ⟨j, by omega, h2, h3⟩
theorem vq_fill {n j : Nat} {h : Nat → Rat} (hj : j < n) : (vq j h ++ List.replicate (n - j) (⟨⟨false, []⟩, ⟨false, []⟩⟩ : Qr)).set j (qn (h j)) = vq (j + 1) h ++ List.replicate (n - (j + 1)) ⟨⟨false, []⟩, ⟨false, []⟩⟩ := by
  rw [List.set_append_right _ _ (by rw [vq_len]; exact Nat.le_refl _), vq_len, Nat.sub_self, show n - j = (n - (j + 1)) + 1 by omega, List.replicate_succ, List.set_cons_zero, vq_succ, List.append_assoc]; rfl
theorem isrow_self {v : List Qr} (h : ∀ q ∈ v, q.num.w.length ≤ 100000000000 ∧ q.den.w.length ≤ 100000000000) (hl : v.length ≤ 100000000000) : ref33_IsRow_m v v = some true := by
  unfold ref33_IsRow_m
  refine bind_eq rfl <| bind_eq rfl <| bind_eq (dF (by simp)) <| bif_f rfl ?_
  refine bind_loop_to (fun k => (k : Int)) v.length (.inl ()) rfl (fun k hk => ?_) ?_ rfl
  · have g := List.getElem?_eq_getElem hk
    obtain ⟨h1, h2⟩ := h _ (List.getElem_mem hk)
    obtain ⟨c, e, hc⟩ := rIs_eq (a := v[k]) (b := v[k]) h1 h2
    have hc := hc.2 rfl
    subst hc
    generalize v[k] = q at g e
    exact bind_eq rfl <| bind_eq (dT (by omega)) <| bif_t rfl <| bind_eq (geti_nat g) <| bind_eq (geti_nat g) <| bind_eq e <| bind_eq rfl <| bif_f rfl <| bind_eq (congrArg some (w64_succ (by omega))) rfl
  · exact bind_eq rfl <| bind_eq (dF (by omega)) <| bif_f rfl rfl
theorem vq_words {n L : Nat} {h : Nat → Rat} (hf : ∀ i, i < n → FQ L (h i)) (h1 : 1 ≤ L) (hL : L ≤ 10000000000) : ∀ q ∈ vq n h, q.num.w.length ≤ 100000000000 ∧ q.den.w.length ≤ 100000000000 := by
  intro q hq
  obtain ⟨i, hi, rfl⟩ := List.mem_map.1 hq
  have r := (hf i (List.mem_range.1 hi)).rep h1
  exact ⟨Nat.le_trans r.ln (by omega), Nat.le_trans r.ld (by omega)⟩
theorem amountsX {L : Nat} {at' : List Int} {pa ga ta pr gr tr : List Qr} {fa ka fr kr : Nat → Rat} (h1 : RepV L pa fa) (h2 : RepV L ga ka) (h3 : RepV L pr fr) (h4 : RepV L gr kr) (hn : at'.length ≤ 1000) (hla : pa.length ≤ 1000) (hlr : pr.length ≤ 1000) (hL : 5 * L + 2 ≤ 4000000000) :
    ∃ r, settle_amountsU_m at' ⟨pa, ga, ta⟩ ⟨pr, gr, tr⟩ = some r ∧ ref36_All_m at' pa pr ga gr = some r ∧ ref33_IsRow_m r.1 r.1 = some true := by
  have hmk := mkM_of (b := 64) (z := (⟨⟨false, []⟩, ⟨false, []⟩⟩ : Qr)) (by omega) (show at'.length ≤ 1000000000000 by omega)
  have hmin := min_len pa pr
  have step : ∀ j, j < at'.length → (0 ≤ at'.getD j 0 ∧ at'.getD j 0 < ((min pa.length pr.length : Nat) : Int)) → ∃ (k : Nat) (p1 p2 : Qr), at'[j]? = some (k : Int) ∧ k < pa.length ∧ k < pr.length ∧ pa[k]? = some p1 ∧ pr[k]? = some p2 ∧ settle_Owed_m (qat ga j) p1 (qat gr j) p2 = some (qn (owF at' ka fa kr fr j)) ∧ ref36_Owed_m (qat ga j) p1 (qat gr j) p2 = some (qn (owF at' ka fa kr fr j)) ∧ FQ (5 * L + 2) (owF at' ka fa kr fr j) := by
    intro j hlt hb
    have g := get_getD' (l := at') (d := 0) hlt
    obtain ⟨k, hk⟩ : ∃ k : Nat, at'.getD j 0 = (k : Int) := ⟨(at'.getD j 0).toNat, by omega⟩
    obtain ⟨p1, e1, r1⟩ := h1.get (show k < pa.length by omega)
    obtain ⟨p2, e2, r2⟩ := h3.get (show k < pr.length by omega)
    obtain ⟨q1, q2, q3⟩ := owedX (h2.at j) r1 (h4.at j) r2 hL
    have hF : owF at' ka fa kr fr j = owQ (ka j) (fa k) (kr j) (fr k) := by unfold owF; rw [hk, Int.toNat_natCast]
    rw [hk] at g
    rw [hF]
    exact ⟨k, p1, p2, g, by omega, by omega, e1, e2, q1, q2, q3⟩
  generalize owF at' ka fa kr fr = F at step
  have wr : ∀ n, n ≤ at'.length → (∀ i, i < n → 0 ≤ at'.getD i 0 ∧ at'.getD i 0 < ((min pa.length pr.length : Nat) : Int)) → ref33_IsRow_m (vq n F) (vq n F) = some true := fun n hn' hg => isrow_self (vq_words (L := 5 * L + 2) (fun i hi => (step i (by omega) (hg i hi)).elim fun k h => h.elim fun p1 h => h.elim fun p2 h => h.2.2.2.2.2.2.2) (by omega) (by omega)) (by rw [vq_len]; omega)
  rcases first_bad (fun i => 0 ≤ at'.getD i 0 ∧ at'.getD i 0 < ((min pa.length pr.length : Nat) : Int)) at'.length with hall | ⟨j0, hj0, hbad, hgood⟩
  · refine ⟨(vq at'.length F, 0), ?_, ?_, wr _ (Nat.le_refl _) hall⟩
    · unfold settle_amountsU_m
      show (Option.bind (some ga) _) = some _
      rw [bsm, show settle_Units_1_m ⟨pr, gr, tr⟩ = some gr from rfl, bsm, bsm, bsm, hmin, bsm, bsm, hmk, bsm, bsm]
      refine bind_loop_to (fun j => ((j : Int), vq j F ++ List.replicate (at'.length - j) (⟨⟨false, []⟩, ⟨false, []⟩⟩ : Qr))) at'.length (.inl (vq at'.length F)) (by simp [vq_zero]) (fun j hj => ?_) ?_ rfl
      · obtain ⟨k, p1, p2, g, hk1, hk2, e1, e2, q1, -, -⟩ := step j hj (hall j hj)
        have s := vq_fill (h := F) hj
        have hl : (vq j F ++ List.replicate (at'.length - j) (⟨⟨false, []⟩, ⟨false, []⟩⟩ : Qr)).length = at'.length := by simp [vq_len]; omega
        rw [← s]
        generalize (vq j F ++ List.replicate (at'.length - j) (⟨⟨false, []⟩, ⟨false, []⟩⟩ : Qr)) = l at *
        generalize qn (F j) = q at *
        refine bind_eq (dT (by omega)) <| bif_t rfl <| bind_eq (geti_nat g) <| letJ_of ?_
        refine bind_eq (dF (by omega)) <| bind_eq (a := false) (bif_f rfl <| bind_eq (dF (by omega)) rfl) <| bif_f rfl ?_
        exact bind_eq (selem _ _) <| bind_eq (geti_nat e1) <| bind_eq (selem _ _) <| bind_eq (geti_nat e2) <| bind_eq q1 <| bind_eq (cki_nat (by omega)) <| bind_eq (stM_of (by omega)) <| bind_eq (congrArg some (w64_succ (by omega))) rfl
      · simp only [Nat.sub_self, List.replicate_zero, List.append_nil]
        exact bind_eq (dF (by omega)) <| bif_f rfl rfl
    · unfold ref36_All_m
      refine bind_loop_to (fun j => ((j : Int), vq j F)) at'.length (.inl (vq at'.length F)) rfl (fun j hj => ?_) ?_ rfl
      · obtain ⟨k, p1, p2, g, hk1, hk2, e1, e2, -, q1, -⟩ := step j hj (hall j hj)
        rw [vq_succ]
        have ap := apM1 (b := 64) (l := vq j F) (x := qn (F j)) (by decide) (by rw [vq_len]; omega)
        generalize vq j F = l at *
        generalize qn (F j) = q at *
        refine bind_eq rfl <| bind_eq (dT (by omega)) <| bif_t rfl <| bind_eq (geti_nat g) <| letJ_of ?_
        refine bind_eq (dF (by omega)) <| bind_eq (a := false) (bif_f rfl <| bind_eq rfl <| bind_eq (dF (by omega)) rfl) <| bind_eq (a := false) (bif_f rfl <| bind_eq rfl <| bind_eq (dF (by omega)) rfl) <| bif_f rfl ?_
        exact bind_eq (rat33 _ _) <| bind_eq (geti_nat e1) <| bind_eq (rat33 _ _) <| bind_eq (geti_nat e2) <| bind_eq q1 <| bind_eq ap <| bind_eq (congrArg some (w64_succ (by omega))) rfl
      · exact bind_eq rfl <| bind_eq (dF (by omega)) <| bif_f rfl rfl
  · have g0 := get_getD' (l := at') (d := 0) hj0
    refine ⟨([], 1), ?_, ?_, isrow_self (by simp) (by simp)⟩
    · unfold settle_amountsU_m
      show (Option.bind (some ga) _) = some _
      rw [bsm, show settle_Units_1_m ⟨pr, gr, tr⟩ = some gr from rfl, bsm, bsm, bsm, hmin, bsm, bsm, hmk, bsm, bsm]
      refine bind_loop_to (fun j => ((j : Int), vq j F ++ List.replicate (at'.length - j) (⟨⟨false, []⟩, ⟨false, []⟩⟩ : Qr))) j0 (.inr ([], 1)) (by simp [vq_zero]) (fun j hj => ?_) ?_ rfl
      · obtain ⟨k, p1, p2, g, hk1, hk2, e1, e2, q1, -, -⟩ := step j (by omega) (hgood j hj)
        have s := vq_fill (h := F) (show j < at'.length by omega)
        have hl : (vq j F ++ List.replicate (at'.length - j) (⟨⟨false, []⟩, ⟨false, []⟩⟩ : Qr)).length = at'.length := by simp [vq_len]; omega
        rw [← s]
        generalize (vq j F ++ List.replicate (at'.length - j) (⟨⟨false, []⟩, ⟨false, []⟩⟩ : Qr)) = l at *
        generalize qn (F j) = q at *
        refine bind_eq (dT (by omega)) <| bif_t rfl <| bind_eq (geti_nat g) <| letJ_of ?_
        refine bind_eq (dF (by omega)) <| bind_eq (a := false) (bif_f rfl <| bind_eq (dF (by omega)) rfl) <| bif_f rfl ?_
        exact bind_eq (selem _ _) <| bind_eq (geti_nat e1) <| bind_eq (selem _ _) <| bind_eq (geti_nat e2) <| bind_eq q1 <| bind_eq (cki_nat (by omega)) <| bind_eq (stM_of (by omega)) <| bind_eq (congrArg some (w64_succ (by omega))) rfl
      · refine bind_eq (dT (by omega)) <| bif_t rfl <| bind_eq (geti_nat g0) <| letJ_of ?_
        by_cases h0 : at'.getD j0 0 < 0
        · exact bind_eq (dT h0) <| bind_eq (a := true) (bif_t rfl rfl) <| bif_t rfl rfl
        · exact bind_eq (dF h0) <| bind_eq (a := true) (bif_f rfl <| bind_eq (dT (by omega)) rfl) <| bif_t rfl rfl
    · unfold ref36_All_m
      refine bind_loop_to (fun j => ((j : Int), vq j F)) j0 (.inr ([], 1)) rfl (fun j hj => ?_) ?_ rfl
      · obtain ⟨k, p1, p2, g, hk1, hk2, e1, e2, -, q1, -⟩ := step j (by omega) (hgood j hj)
        rw [vq_succ]
        have ap := apM1 (b := 64) (l := vq j F) (x := qn (F j)) (by decide) (by rw [vq_len]; omega)
        generalize vq j F = l at *
        generalize qn (F j) = q at *
        refine bind_eq rfl <| bind_eq (dT (by omega)) <| bif_t rfl <| bind_eq (geti_nat g) <| letJ_of ?_
        refine bind_eq (dF (by omega)) <| bind_eq (a := false) (bif_f rfl <| bind_eq rfl <| bind_eq (dF (by omega)) rfl) <| bind_eq (a := false) (bif_f rfl <| bind_eq rfl <| bind_eq (dF (by omega)) rfl) <| bif_f rfl ?_
        exact bind_eq (rat33 _ _) <| bind_eq (geti_nat e1) <| bind_eq (rat33 _ _) <| bind_eq (geti_nat e2) <| bind_eq q1 <| bind_eq ap <| bind_eq (congrArg some (w64_succ (by omega))) rfl
      · refine bind_eq rfl <| bind_eq (dT (by omega)) <| bif_t rfl <| bind_eq (geti_nat g0) <| letJ_of ?_
        by_cases h0 : at'.getD j0 0 < 0
        · exact bind_eq (dT h0) <| bind_eq (a := true) (bif_t rfl rfl) <| bind_eq (a := true) (bif_t rfl rfl) <| bif_t rfl rfl
        · by_cases h5 : (pa.length : Int) ≤ at'.getD j0 0
          · exact bind_eq (dF h0) <| bind_eq (a := true) (bif_f rfl <| bind_eq rfl <| bind_eq (dT h5) rfl) <| bind_eq (a := true) (bif_t rfl rfl) <| bif_t rfl rfl
          · exact bind_eq (dF h0) <| bind_eq (a := false) (bif_f rfl <| bind_eq rfl <| bind_eq (dF h5) rfl) <| bind_eq (a := true) (bif_f rfl <| bind_eq rfl <| bind_eq (dT (by omega)) rfl) <| bif_t rfl rfl
theorem matches36_law (units' bids' : List Int) (ahead real : Sd) (_ou : OkI units') (_ob : OkI bids') (oa : OkS ahead) (or' : OkS real) (hs : szI units' + szI bids' + szS ahead + szS real ≤ 1048576) : law36_SettleMatches_m units' bids' ahead real = some true := by
  obtain ⟨pa, ga, ta⟩ := ahead
  obtain ⟨pr, gr, tr⟩ := real
  obtain ⟨t1, ht1, hl1⟩ := long36 [⟨pa, ga, ta⟩, ⟨pr, gr, tr⟩] (by simp)
  unfold law36_SettleMatches_m
  refine letJ_of <| bind_eq rfl <| bind_eq rfl <| orC (fun _ => bind_eq rfl <| bind_eq rfl rfl) <| orC (fun _ => bind_eq ht1 rfl) <| guard (fun _ => aw) (fun hg => ?_)
  simp only [Bool.or_eq_false_iff, decide_eq_false_iff_not] at hg
  obtain ⟨⟨hu, hb⟩, rfl⟩ := hg
  obtain ⟨l1, l2, l3⟩ := hl1 rfl ⟨pa, ga, ta⟩ (by simp)
  obtain ⟨l4, l5, l6⟩ := hl1 rfl ⟨pr, gr, tr⟩ (by simp)
  have l1 : pa.length ≤ 40 := l1
  have l4 : pr.length ≤ 40 := l4
  have hs' : szV pa + szV ga + szV ta + (szV pr + szV gr + szV tr) ≤ 1048576 := by
    have : szS ⟨pa, ga, ta⟩ = szV pa + szV ga + szV ta + 1 := rfl
    have : szS ⟨pr, gr, tr⟩ = szV pr + szV gr + szV tr + 1 := rfl
    omega
  have r1 : RepV 1048576 pa (vval pa) := repvu oa.1 (show szV pa ≤ _ by omega)
  have r2 : RepV 1048576 ga (vval ga) := repvu oa.2.1 (show szV ga ≤ _ by omega)
  have r3 : RepV 1048576 ta (vval ta) := repvu oa.2.2 (show szV ta ≤ _ by omega)
  have r4 : RepV 1048576 pr (vval pr) := repvu or'.1 (show szV pr ≤ _ by omega)
  have r5 : RepV 1048576 gr (vval gr) := repvu or'.2.1 (show szV gr ≤ _ by omega)
  have r6 : RepV 1048576 tr (vval tr) := repvu or'.2.2 (show szV tr ≤ _ by omega)
  obtain ⟨⟨x, e⟩, u1, u2, u3⟩ := amountsX (at' := units') (ta := ta) (tr := tr) r1 r2 r4 r5 (by omega) (by omega) (by omega) (by decide)
  obtain ⟨⟨y, f⟩, b1, b2, b3⟩ := amountsX (at' := bids') (ta := ga) (tr := gr) r1 r3 r4 r6 (by omega) (by omega) (by omega) (by decide)
  have U := units_of u1
  have B := bids_of (show settle_amountsB_m bids' ⟨pa, ga, ta⟩ ⟨pr, gr, tr⟩ = some (y, f) from b1)
  refine bind_eq u2 <| bind_eq b2 ?_
  refine bind_loop_to (fun k => (k : Int)) 2 (.inl ()) rfl (fun k hk => ?_) ?_ aw
  · exact bind_eq (dT (by omega)) <| bif_t rfl <| bind_eq U <| bind_eq B <| letJ_of <| bind_eq (dF (by simp)) <| bind_eq (a := false) (bif_f rfl <| bind_eq (dF (by simp)) rfl) <| bind_eq (a := false) (bif_f rfl <| bind_eq u3 <| bind_eq rfl rfl) <| bind_eq (a := false) (bif_f rfl <| bind_eq b3 <| bind_eq rfl rfl) <| bif_f rfl <| bind_eq (congrArg some (w64_succ (by omega))) rfl
  · exact bind_eq (dF (by decide)) <| bif_f rfl rfl
end Go.Proofs.Ytegdplnhkjpmkaa
namespace Go.Proofs.Ytegdplnhkjpmkaa
open Go.Fw Go.RowKit Go.ChangeShapes Go.WideShapes Go.ChangeAt
set_option linter.unusedVariables false
set_option maxRecDepth 100000 in
theorem settleMatchesUpto_contract (H : Type) (enc : TypeId × Value → H) (W : World) (base : Nat) (args : Array Value) (ds gs : List (DataW H)) (before : List MemPlace)
    (hval : ∀ (j : Nat) t v, Try.f3.params[j]? = some t → args[j]? = some v → Value.okWide Try.prog W .any base t v)
    (hW : DataW.Whole enc Try.prog Try.f3.params.toList Rows.settleMatchesSpec.vars false W args.toList ds gs before) (hk : Rows.uptoSmall H (ds ++ gs) = true) :
    Calls Try.prog 3 args W fun e W' => ∃ v, e = .returned v ∧ Rows.settleMatchesSpec.post enc Try.prog Try.f3 false true false false W args v W' := by
  have hW' := hW
  obtain ⟨p, q, hA0, hV, rfl, hfz, hnd⟩ := hW
  have hA : DataW.TrodAll enc Try.prog W 0 (fun _ => true) true Try.f3.params.toList args.toList ds p := hA0
  rw [Try.params3] at hA hval
  obtain ⟨v0, vs0, d0, ds0, p0, q0, hargs, rfl, rfl, h0, r0⟩ := trodAll_cons hA
  obtain ⟨v1, vs1, d1, ds1, p1, q1, rfl, rfl, rfl, h1, r1⟩ := trodAll_cons r0
  obtain ⟨v2, vs2, d2, ds2, p2, q2, rfl, rfl, rfl, h2, r2⟩ := trodAll_cons r1
  obtain ⟨v3, vs3, d3, ds3, p3, q3, rfl, rfl, rfl, h3, r3⟩ := trodAll_cons r2
  obtain ⟨rfl, rfl, rfl⟩ := trodAll_nil r3
  obtain rfl : args = #[v0, v1, v2, v3] := by cases args; simp_all
  obtain ⟨rfl, rfl⟩ := trodVars_none hV
  have lt0 : ∀ x ∈ p0, x.block < W.heap.size := by obtain ⟨m, hm⟩ := h0; exact DataW.trod_lt m _ _ _ hm
  obtain ⟨x0, ok0, sz0, al0⟩ := arg_one (P := Try.prog) (T := 22) (e := (eS 1 eI64)) (hval 0 22 v0 rfl rfl) h0
  have lt1 : ∀ x ∈ p1, x.block < W.heap.size := by obtain ⟨m, hm⟩ := h1; exact DataW.trod_lt m _ _ _ hm
  obtain ⟨x1, ok1, sz1, al1⟩ := arg_one (P := Try.prog) (T := 22) (e := (eS 1 eI64)) (hval 1 22 v1 rfl rfl) h1
  have lt2 : ∀ x ∈ p2, x.block < W.heap.size := by obtain ⟨m, hm⟩ := h2; exact DataW.trod_lt m _ _ _ hm
  obtain ⟨x2, ok2, sz2, al2⟩ := arg_agg (P := Try.prog) (T := 25) (e := eSd) (hval 2 25 v2 rfl rfl) h2
  have lt3 : ∀ x ∈ p3, x.block < W.heap.size := by obtain ⟨m, hm⟩ := h3; exact DataW.trod_lt m _ _ _ hm
  obtain ⟨x3, ok3, sz3, al3⟩ := arg_agg (P := Try.prog) (T := 25) (e := eSd) (hval 3 25 v3 rfl rfl) h3
  have hsz : Rows.uptoBulk d0 + Rows.uptoBulk d1 + Rows.uptoBulk d2 + Rows.uptoBulk d3 ≤ 1048576 := by
    have := of_decide_eq_true hk; simp only [List.cons_append, List.nil_append, List.append_nil, Rows.uptoBulkAll] at this; omega
  clear hA0
  refine (said_of (law36_SettleMatches_ok (matches36_law x0 x1 x2 x3 ok0 ok1 ok2 ok3 (Nat.le_trans (Nat.add_le_add (Nat.add_le_add (Nat.add_le_add sz0 sz1) sz2) sz3) hsz))) (W := W) (vs := [v0, v1, v2, v3]) ⟨al0.1, al1.1, al2, al3, trivial⟩).mono fun e W' ⟨he, bel⟩ => ?_
  subst he
  exact ⟨_, rfl, _, _, _, [], _, [], hW', trodAll_mk1 (shut_bool Try.underlying4 _), (trodAll_cons_mk (Below.trod laidOut_ (by kernel_rfl) (of_decide_eq_true (by kernel_rfl)) h0 bel lt0) (trodAll_cons_mk (Below.trod laidOut_ (by kernel_rfl) (of_decide_eq_true (by kernel_rfl)) h1 bel lt1) (trodAll_cons_mk (Below.trod laidOut_ (by kernel_rfl) (of_decide_eq_true (by kernel_rfl)) h2 bel lt2) (trodAll_cons_mk (Below.trod laidOut_ (by kernel_rfl) (of_decide_eq_true (by kernel_rfl)) h3 bel lt3) trodAll_mk0)))), rfl, bel.frame _, fun h => by cases h⟩
set_option maxRecDepth 100000 in
theorem settleMatchesUpto_lifted (os : Os) (started : os.Started) (H : Type) (enc : TypeId × Value → H) (F : Stop.Interp) :
    ReturnsInHanded {} Try.checked os 3 .any ((Rows.OpenSpec.upto Rows.settleMatchesSpec).pre6 enc Try.prog Try.f3 Rows.settleMatchesUptoRow.domain false) (((Rows.OpenSpec.upto Rows.settleMatchesSpec).at F).post enc Try.prog Try.f3 false true false false) := by
  refine returnsInHanded_of_cond (C := Try.checked) (s := Rows.OpenSpec.upto Rows.settleMatchesSpec) (k := Rows.uptoSmall) rfl own_ started (by kernel_rfl) Try.func3
    (OpenSpec.witness (enc := enc) (C := Try.checked) (s := Rows.OpenSpec.upto Rows.settleMatchesSpec) (k := Rows.uptoSmall) rfl false ⟨#[], #[.slice none 0 0, .slice none 0 0, .agg #[.slice none 0 0, .slice none 0 0, .slice none 0 0], .agg #[.slice none 0 0, .slice none 0 0, .slice none 0 0]], []⟩ 8 (by kernel_rfl) (by kernel_rfl) (by kernel_rfl)
      (x := ([.nil, .nil, .agg [.nil, .nil, .nil], .agg [.nil, .nil, .nil]], [], [])) (by kernel_rfl) rfl (by kernel_rfl)) ?_
  intro W base args ds gs before hval hW _ hk _
  exact settleMatchesUpto_contract H enc W base args ds gs before hval hW hk
theorem settleMatchesUpto_holds : Rows.SettleMatchesUptoSaid :=
  OpenClaim.holds_of_cond 3 Try.f3 rfl rfl rfl rfl rfl rfl rfl ⟨rfl, rfl, rfl, rfl, rfl⟩ rfl rfl rfl rfl rfl (by kernel_rfl) Try.func3 (by kernel_rfl)
    (of_decide_eq_true (by kernel_rfl)) (by unfold Func.isWrapper; first | (rw [if_pos (by decide +kernel)]; kernel_rfl) | (rw [if_neg (by decide +kernel)]; exact ⟨rfl, rfl⟩))
    (fun os started H enc _ F => settleMatchesUpto_lifted os started H enc F)
end Go.Proofs.Ytegdplnhkjpmkaa
