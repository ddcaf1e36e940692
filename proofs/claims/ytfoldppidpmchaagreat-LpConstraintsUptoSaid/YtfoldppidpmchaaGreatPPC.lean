/- The law LpConstraints answers true for every input, up to the size that the statement names. -/
import Derived.Test.YtfoldppidpmchaaGreatPPC5
set_option linter.unusedVariables false
set_option linter.unusedSimpArgs false
namespace Go.Proofs.YtfoldppidpmchaaGreat
open Go.Fw
theorem c16_len0 {v : Nat} : (can 65536 v).length = 0 ↔ v = 0 := by
  constructor
  · intro h; exact can_nil (by decide) (List.length_eq_zero_iff.1 h)
  · intro h; rw [h, can_zero]; rfl
theorem c16H {v : Nat} (h : (can 65536 v).length ≤ 100000000000) : H16 (can 65536 v) := ⟨fun _ hx => can_lt (by decide) hx, h⟩
theorem rSign_eq {x : Zr} (h : Wl x) : ref01_Sign_m x = some (zi x).sign := by
  unfold ref01_Sign_m
  simp only [halves_of h, bsm, zl_len]
  have hz := c16_len0 (v := (zi x).natAbs)
  have hneg : x.neg = true → zi x ≤ 0 := fun e => by unfold zi; rw [e]; simp [sv]
  have hpos : x.neg = false → 0 ≤ zi x := fun e => by unfold zi; rw [e]; simp [sv]
  by_cases h0 : zi x = 0
  · rw [h0]; rfl
  · rw [show decide (((can 65536 (zi x).natAbs).length : Int) = 0) = false by rw [decide_eq_false_iff_not]; omega, cfm]
    cases hn : x.neg
    · have := hpos hn
      rw [cfm, Int.sign_eq_one_of_pos (by omega)]
    · have := hneg hn
      rw [ctm, Int.sign_eq_neg_one_of_neg (by omega)]
theorem rCmp_eq {x y : Zr} (hx : Wl x) (hy : Wl y) : ref01_Cmp_m x y = some (cmpI (zi x) (zi y)) := by
  have cx := hx.c16
  have cy := hy.c16
  unfold ref01_Cmp_m
  simp only [zeta', rSign_eq hx, rSign_eq hy, bsm, halves_of hx, halves_of hy]
  rw [rcmp_eq _ _ (c16H (by omega)) (c16H (by omega)), v16_can, v16_can]
  simp only [bsm]
  generalize zi x = i
  generalize zi y = j
  rw [cmpI_nat]
  rcases Int.lt_trichotomy i 0 with h1 | h1 | h1 <;> rcases Int.lt_trichotomy j 0 with h2 | h2 | h2
  · rw [Int.sign_eq_neg_one_of_neg h1, Int.sign_eq_neg_one_of_neg h2, show (i.natAbs : Int) = -i by omega, show (j.natAbs : Int) = -j by omega, cmpI_neg]
    show some (IntKind.i64.wrap (0 - cmpI j i)) = _
    rw [cmpI_flip]
  · rw [Int.sign_eq_neg_one_of_neg h1, show Int.sign j = 0 by rw [h2]; rfl, show cmpI i j = -1 from cmpI_lt (by omega)]; rfl
  · rw [Int.sign_eq_neg_one_of_neg h1, Int.sign_eq_one_of_pos h2, show cmpI i j = -1 from cmpI_lt (by omega)]; rfl
  · rw [show Int.sign i = 0 by rw [h1]; rfl, Int.sign_eq_neg_one_of_neg h2, show cmpI i j = 1 from cmpI_gt (by omega)]; rfl
  · rw [h1, h2]; rfl
  · rw [show Int.sign i = 0 by rw [h1]; rfl, Int.sign_eq_one_of_pos h2, show cmpI i j = -1 from cmpI_lt (by omega)]; rfl
  · rw [Int.sign_eq_one_of_pos h1, Int.sign_eq_neg_one_of_neg h2, show cmpI i j = 1 from cmpI_gt (by omega)]; rfl
  · rw [Int.sign_eq_one_of_pos h1, show Int.sign j = 0 by rw [h2]; rfl, show cmpI i j = 1 from cmpI_gt (by omega)]; rfl
  · rw [Int.sign_eq_one_of_pos h1, Int.sign_eq_one_of_pos h2, show (i.natAbs : Int) = i by omega, show (j.natAbs : Int) = j by omega]; rfl
theorem svz (x : Zr) : sv x.neg (zi x).natAbs = zi x := by rw [zi_abs]; rfl
theorem rNeg_eq {x : Zr} (hx : Wl x) : ref01_Neg_m x = some (zn (-zi x)) := by
  have cx := hx.c16
  unfold ref01_Neg_m
  simp only [bsm, halves_of hx]
  rw [of_can _ _ (by omega), bsm, sv_not, svz]
theorem rAbs_eq {x : Zr} (hx : Wl x) : ref01_Abs_m x = some (zn ((zi x).natAbs : Int)) := by
  have cx := hx.c16
  unfold ref01_Abs_m
  simp only [bsm, halves_of hx]
  rw [of_can _ _ (by omega), bsm, sv_false]
theorem rDiv_eq {x y : Zr} (hx : Wl x) (hy : Wl y) : ref01_Div_m x y = some (dmOf (zi x) (zi y)) := by
  have cx := hx.c16
  have cy := hy.c16
  unfold ref01_Div_m
  simp only [bsm, letJ, halves_of hx, halves_of hy, zl_len]
  have ex := svz x
  have ey := svz y
  generalize (zi x).natAbs = a at *
  generalize (zi y).natAbs = b at *
  rw [← ex, ← ey]
  generalize x.neg = n
  generalize y.neg = m
  by_cases h0 : b = 0
  · subst h0
    rw [show sv m 0 = 0 by cases m <;> rfl]; rfl
  · have hlen0 : (can 65536 b).length ≠ 0 := fun h => h0 (c16_len0.1 h)
    have hm : a % b < b := Nat.mod_lt _ (by omega)
    have la := lt_can_len (B := 65536) (by decide) a
    have lb := lt_can_len (B := 65536) (by decide) b
    obtain ⟨e1, e2⟩ := sv_div n m (a := a) (show 0 < b by omega)
    have hj : sv m b ≠ 0 := by cases m <;> simp [sv] <;> omega
    have hq : (can 65536 (a / b)).length ≤ (can 65536 a).length := (can_len_iff (by decide)).2 (Nat.lt_of_le_of_lt (Nat.div_le_self _ _) la)
    have hr : (can 65536 (a % b)).length ≤ (can 65536 b).length := (can_len_iff (by decide)).2 (Nat.lt_trans hm lb)
    rw [show decide (((can 65536 b).length : Int) = 0) = false by rw [decide_eq_false_iff_not]; omega, cfm, rdiv_eq a b h0 (by omega) (by omega), bsm, dmOf, if_neg hj, e1, e2]
    simp only [zl_len]
    have hz := c16_len0 (v := a % b)
    have hK : ∀ c : Bool, (decide (n = true ∧ 0 < a % b) = c) → (bif c then (ref01_add_m (zl (can 65536 (a / b))) [1]).bind fun x37 => (ref01_sub_m (zl (can 65536 b)) (zl (can 65536 (a % b)))).bind fun x40 => (ref01_of_m (!(n == m)) x37).bind fun x => (ref01_of_m false x40).bind fun x_1 => some ((⟨x.neg, x.w⟩ : Zr), (⟨x_1.neg, x_1.w⟩ : Zr), (0 : Int))
        else (ref01_of_m (!(n == m)) (zl (can 65536 (a / b)))).bind fun x => (ref01_of_m false (zl (can 65536 (a % b)))).bind fun x_1 => some ((⟨x.neg, x.w⟩ : Zr), (⟨x_1.neg, x_1.w⟩ : Zr), (0 : Int))) =
        some (zn (if n = true ∧ 0 < a % b then sv (!(n == m)) (a / b + 1) else sv (!(n == m)) (a / b)), zn (if n = true ∧ 0 < a % b then ((b - a % b : Nat) : Int) else ((a % b : Nat) : Int)), 0) := by
      intro c hc
      cases c
      · have hc' := of_decide_eq_false hc
        rw [cfm, if_neg hc', if_neg hc', of_can _ _ (by omega), bsm, of_can _ _ (by omega), bsm, sv_false]
      · have hc' := of_decide_eq_true hc
        have hq1 : (can 65536 (a / b + 1)).length ≤ (can 65536 a).length + 1 := by
          apply (can_len_iff (by decide)).2
          have : a / b ≤ a := Nat.div_le_self _ _
          rw [Nat.pow_succ]; omega
        have hbr : (can 65536 (b - a % b)).length ≤ (can 65536 b).length := (can_len_iff (by decide)).2 (by omega)
        rw [ctm, if_pos hc', if_pos hc', show [(1 : Int)] = zl [1] from rfl, radd_eq _ _ (c16H (by omega)) ⟨by simp, by simp⟩, bsm, v16_can, show v16 [1] = 1 by decide, rsub_eq _ _ (c16H (by omega)) (c16H (by omega)) (by rw [v16_can, v16_can]; omega), bsm, v16_can, v16_can, of_can _ _ (by omega), bsm, of_can _ _ (by omega), bsm, sv_false]
    cases n
    · rw [cfm, bsm]
      exact hK false (by simp)
    · rw [ctm, bsm]
      refine hK _ ?_
      simp only [true_and]
      by_cases h : 0 < a % b
      · rw [show decide (0 < a % b) = true by simp [h], show decide ((0 : Int) < ((can 65536 (a % b)).length : Int)) = true by rw [decide_eq_true_eq]; omega]
      · rw [show decide (0 < a % b) = false by simp [h], show decide ((0 : Int) < ((can 65536 (a % b)).length : Int)) = false by rw [decide_eq_false_iff_not]; omega]
end Go.Proofs.YtfoldppidpmchaaGreat
namespace Go.Proofs.YtfoldppidpmchaaGreat
open Go.Fw
theorem rGcd_eq {x y : Zr} (hx : Wl x) (hy : Wl y) : ref01_Gcd_m x y = some (zn (Int.gcd (zi x) (zi y) : Int)) := by
  have cx := hx.c16
  have cy := hy.c16
  unfold ref01_Gcd_m
  simp only [bsm, halves_of hx, halves_of hy]
  rw [Int.gcd]
  generalize (zi x).natAbs = a at *
  generalize (zi y).natAbs = b at *
  refine bind_loop (fun s => ∃ c d, s = (zl (can 65536 c), zl (can 65536 d)) ∧ Nat.gcd c d = Nat.gcd a b ∧ (can 65536 c).length ≤ 20000000000 ∧ (can 65536 d).length ≤ 20000000000)
    (fun e => e = zl (can 65536 (Nat.gcd a b)) ∧ (can 65536 (Nat.gcd a b)).length ≤ 20000000000) (fun s => val 65536 (s.2.map Int.toNat)) ?_ ⟨a, b, rfl, rfl, cx, cy⟩ ?_
  · rintro _ ⟨c, d, rfl, hg, hc, hd⟩
    simp only [zl_len]
    have hzl : ∀ l : List Nat, (zl l).map Int.toNat = l := fun l => by
      rw [zl, List.map_map]
      have : (Int.toNat ∘ fun (n : Nat) => (n : Int)) = id := by funext n; simp
      rw [this, List.map_id]
    by_cases h0 : d = 0
    · right
      subst h0
      rw [Nat.gcd_zero_right] at hg
      subst hg
      exact ⟨_, rfl, rfl, hc⟩
    · left
      have hlen0 : (can 65536 d).length ≠ 0 := fun h => h0 (c16_len0.1 h)
      have hm : c % d < d := Nat.mod_lt _ (by omega)
      rw [show decide ((0 : Int) < ((can 65536 d).length : Int)) = true by rw [decide_eq_true_eq]; omega, ctm, rdiv_eq c d h0 (by omega) (by omega), bsm]
      refine ⟨_, rfl, ⟨d, c % d, rfl, ?_, hd, ?_⟩, ?_⟩
      · rw [← hg, Nat.gcd_comm d, ← Nat.gcd_rec, Nat.gcd_comm]
      · exact Nat.le_trans ((can_len_iff (by decide)).2 (Nat.lt_trans hm (lt_can_len (by decide) d))) hd
      · simp only []
        rw [hzl, hzl, val_can (by decide), val_can (by decide)]; exact hm
  · rintro _ ⟨rfl, hl⟩
    rw [of_can _ _ (by omega), bsm, sv_false]
end Go.Proofs.YtfoldppidpmchaaGreat
namespace Go.Proofs.YtfoldppidpmchaaGreat
open Go.Fw
theorem rone_eq : ref02_one_m = some (zn 1) := by
  unfold ref02_one_m
  simp only [zeta', bsm, from_eq (x := 1) (by decide)]
section ops
variable {L M : Nat} {a b : Qr} {x y : Rat}
theorem rparts_eq (h : Rep L a x) (hL : L ≤ 10000000000) : ∃ n d : Int, ref02_num_m a = some (zn n) ∧ ref02_den_m a = some (zn d) ∧ 0 < d ∧ Rat.divInt n d = x ∧ Fit L n ∧ Fit L d := by
  have wn := h.wn hL
  have wd := h.wd hL
  have hv := h.v
  unfold ref02_num_m ref02_den_m
  simp only [zeta', bsm, rSign_eq wd, rone_eq, rNeg_eq wn, rAbs_eq wd, least_eq wn]
  unfold qv qd at hv
  rcases Int.lt_trichotomy (zi a.den) 0 with h1 | h1 | h1
  · refine ⟨-zi a.num, -zi a.den, ?_, ?_, by omega, ?_, h.fn.neg, h.fd.neg⟩
    · rw [Int.sign_eq_neg_one_of_neg h1]; rfl
    · rw [Int.sign_eq_neg_one_of_neg h1, show ((zi a.den).natAbs : Int) = -zi a.den by omega]; rfl
    · rw [Rat.neg_divInt_neg, ← hv, if_neg (by omega)]
  · refine ⟨zi a.num, 1, ?_, ?_, by decide, ?_, h.fn, fit_one h.l1⟩
    · rw [h1]; rfl
    · rw [h1]; rfl
    · rw [← hv, if_pos h1]
  · refine ⟨zi a.num, zi a.den, ?_, ?_, h1, ?_, h.fn, h.fd⟩
    · rw [Int.sign_eq_one_of_pos h1]; rfl
    · rw [Int.sign_eq_one_of_pos h1, show ((zi a.den).natAbs : Int) = zi a.den by omega]; rfl
    · rw [← hv, if_neg (by omega)]
theorem over_eq {n d : Int} (hn : Fit L n) (hd : Fit L d) (hL : L ≤ 10000000000) (h : 0 < d) : ref02_over_m (zn n) (zn d) = some (qn (Rat.divInt n d)) := by
  have wn := wl_zn hn hL
  have wd := wl_zn hd hL
  have g0 : (Int.gcd n d : Int) ≠ 0 := by
    have : 0 < Int.gcd n d := Int.gcd_pos_of_ne_zero_right _ (by omega)
    omega
  have wg : Wl (zn (Int.gcd n d : Int)) := wl_zn (hd.le (by
    have := Nat.le_of_dvd (Int.natAbs_pos.2 (show d ≠ 0 by omega)) (Int.gcd_dvd_natAbs_right n d)
    simpa using this)) hL
  have wq : Wl (zn (d / (Int.gcd n d : Int))) := wl_zn (hd.le (Int.natAbs_ediv_le_natAbs _ _)) hL
  have one : i64ok 1 := by decide
  unfold ref02_over_m
  simp only [zeta', bsm, rGcd_eq wn wd, rDiv_eq wn wg, rDiv_eq wd wg, rone_eq, zi_zn]
  rw [dmOf, if_neg g0, dmOf, if_neg g0]
  simp only []
  rw [rCmp_eq wq (wl_small one), bsm, zi_zn, zi_zn, qn_divInt h]
  by_cases e : d / (Int.gcd n d : Int) = 1
  · rw [e, cmpI_self, if_pos rfl]; rfl
  · have : cmpI (d / (Int.gcd n d : Int)) 1 ≠ 0 := by
      rcases Int.lt_trichotomy (d / (Int.gcd n d : Int)) 1 with q | q | q
      · rw [cmpI_lt q]; decide
      · exact absurd q e
      · rw [cmpI_gt q]; decide
    rw [decide_eq_false this, cfm, if_neg e]
theorem Rep.rleast (ha : Rep L a x) (h : L ≤ 10000000000) : ref02_Least_m a = some (qn x) := by
  obtain ⟨n, d, e1, e2, h1, h2, f1, f2⟩ := rparts_eq ha h
  unfold ref02_Least_m
  simp only [zeta', zetaQ, zetaP, e1, e2, bsm, over_eq f1 f2 h h1, h2]
theorem rint_eq {n : Int} (hn : i64ok n) : ref02_Int_m n = some (qn (n : Rat)) := by
  unfold ref02_Int_m
  simp only [zeta', bsm, from_eq hn]
  rw [qn_int]
theorem rof_eq {n d : Int} (hn : i64ok n) (hd : i64ok d) (h0 : d ≠ 0) : ref02_Of_m n d = some (qn (Rat.divInt n d)) := by
  unfold ref02_Of_m
  simp only [zeta', zetaQ, zetaP, bsm, from_eq hn, from_eq hd, (rep_pair h0 (small_fit hn) (small_fit hd) (by decide)).rleast (by decide)]
end ops
end Go.Proofs.YtfoldppidpmchaaGreat
namespace Go.Proofs.YtfoldppidpmchaaGreat
open Go.Fw
theorem letJ_of {J R : Type} {f : J → Option R} {g : (J → Option R) → Option R} {r : Option R} (h : g f = r) : letJ f g = r := h
section ops
variable {K L M : Nat} {c : Qr} {a b : List Qr} {k : Rat} {f g : Nat → Rat}
theorem resize_help (ha : RepV L a f) (h : L ≤ 10000000000) (m : Nat) (hm : m ≤ 65536) {body : Int × List Qr → Option ((Int × List Qr) ⊕ List Qr)}
    (hb : ∀ s, body s = (some (decide (s.1 < ((min a.length m : Nat) : Int)))).bind fun x18 => (bif x18 then (geti a s.1).bind fun q => (frac_Canonical_m q).bind fun w => (cki s.2 s.1).bind fun x27 => (stM s.2 x27 w).bind fun l10 => (some (IntKind.i64.wrap (s.1 + 1))).bind fun x28 => some (.inl (x28, l10)) else some (.inr s.2))) :
    (loopM body (0, List.replicate m qz)).bind (fun r => some r) = some (vq m f) := by
  refine bind_loop_to (fun j => ((j : Int), vq j f ++ List.replicate (m - j) qz)) (min a.length m) (vq m f) rfl (fun j hj => ?_) ?_ rfl
  · obtain ⟨q, hq, rq⟩ := ha.get (show j < a.length by omega)
    rw [hb]
    refine bind_eq rfl <| bif_t (decide_eq_true (by show (j : Int) < _; omega)) <| bind_eq (geti_nat hq) <| bind_eq (rq.canon h).1 <| bind_eq (cki_nat (by rw [vqz_len (by omega)]; omega)) <| bind_eq (stM_of (by rw [vqz_len (by omega)]; omega)) <| bind_eq rfl ?_
    rw [vq_set (by omega), w64_succ (by omega)]
  · rw [hb]
    refine bind_eq rfl <| bif_f (decide_eq_false (by show ¬ ((min a.length m : Nat) : Int) < _; omega)) ?_
    rw [vq_pad (by omega) (fun i h1 h2 => ha.z i (by omega))]
theorem vresize (ha : RepV L a f) (h : L ≤ 10000000000) (la : a.length ≤ 1000000) (n : Int) : vec_Resize_m a n = some (vq (min n 65536).toNat f) := by
  unfold vec_Resize_m
  refine bind_eq rfl ?_
  by_cases hn : n < 1
  · refine bif_t (decide_eq_true hn) ?_
    rw [show (min n 65536).toNat = 0 by omega]; rfl
  · refine bif_f (decide_eq_false hn) ?_
    obtain ⟨m, hm⟩ : ∃ m : Nat, min n 65536 = (m : Int) := ⟨(min n 65536).toNat, by omega⟩
    rw [hm]
    refine bind_eq rfl <| bind_eq (mkM_of (by omega) (by omega)) <| bind_eq rfl <| bind_eq rfl <| bind_eq (congrArg some (min_len a _)) ?_
    rw [List.length_replicate]
    refine resize_help ha h m (by omega) (fun s => ?_)
    obtain ⟨i, l⟩ := s
    rfl
theorem vints {l : List Int} (hl : ∀ x ∈ l, i64ok x) (h : l.length ≤ 1000000) : vec_FromInts_m l = some (vq l.length fun i => ((l.getD i 0 : Int) : Rat)) ∧ RepV 2 (vq l.length fun i => ((l.getD i 0 : Int) : Rat)) (fun i => ((l.getD i 0 : Int) : Rat)) := by
  have hx : ∀ i, i64ok (l.getD i 0) := fun i => by
    by_cases hi : i < l.length
    · rw [List.getD_eq_getElem?_getD, List.getElem?_eq_getElem hi]; exact hl _ (List.getElem_mem hi)
    · rw [List.getD_eq_getElem?_getD, List.getElem?_eq_none (by omega)]; decide
  refine ⟨?_, vq_rep (fun i _ => (fromInt64_eq (hx i)).2.fq) (fun i hi => ?_) (by decide)⟩
  · unfold vec_FromInts_m
    refine bind_eq rfl <| bind_eq (mkM_of (by omega) (by omega)) <| bind_eq rfl ?_
    refine bind_loop_to (fun j => ((j : Int), vq j (fun i => ((l.getD i 0 : Int) : Rat)) ++ List.replicate (l.length - j) qz)) l.length (vq l.length fun i => ((l.getD i 0 : Int) : Rat)) rfl (fun j hj => ?_) ?_ rfl
    · have e3 := (fromInt64_eq (hx j)).1
      have h4 := vq_set (h := fun i => ((l.getD i 0 : Int) : Rat)) hj
      obtain ⟨q3, h3⟩ : ∃ q, qn ((l.getD j 0 : Int) : Rat) = q := ⟨_, rfl⟩
      rw [h3] at e3 h4
      obtain ⟨⟨_, _⟩, ⟨_, _⟩⟩ := q3
      refine bind_eq rfl <| bif_t (decide_eq_true (by omega)) <| bind_eq (geti_nat (get_getD' hj)) <| bind_eq e3 <| bind_eq (cki_nat (by rw [vqz_len (by omega)]; exact hj)) <| bind_eq (stM_of (by rw [vqz_len (by omega)]; exact hj)) <| bind_eq rfl ?_
      rw [w64_succ (by omega), h4]
    · refine bind_eq rfl <| bif_f (decide_eq_false (by omega)) ?_
      simp
  · show ((l.getD i 0 : Int) : Rat) = 0
    rw [getD_of_le' hi]; rfl
end ops
end Go.Proofs.YtfoldppidpmchaaGreat
namespace Go.Proofs.YtfoldppidpmchaaGreat
open Go.Fw
theorem long2_eq (l : List Qr) (hl : l.length ≤ 1000000) : ∃ b, law02_Long_m l = some b ∧ (b = false → ∀ q ∈ l, q.num.w.length ≤ 6 ∧ q.den.w.length ≤ 6) := by
  unfold law02_Long_m
  simp only [bsm]
  refine bind_loop_ex (fun y => ∃ i : Nat, y = (i : Int) ∧ i ≤ l.length ∧ ∀ z ∈ l.take i, z.num.w.length ≤ 6 ∧ z.den.w.length ≤ 6) (fun e => (∃ c, e = .inl c ∧ ∀ z ∈ l, z.num.w.length ≤ 6 ∧ z.den.w.length ≤ 6) ∨ e = .inr true) (fun y => l.length - y.toNat) ?_ ⟨0, rfl, by omega, by simp⟩ ?_
  · rintro _ ⟨i, rfl, hi, ht⟩
    by_cases hlt : i < l.length
    · have g : l[i]? = some l[i] := by simp
      obtain ⟨q, hq⟩ : ∃ q, l[i] = q := ⟨_, rfl⟩
      rw [hq] at g
      obtain ⟨z, w⟩ := q
      obtain ⟨b, hb, -⟩ := long_eq [z, w] (by simp)
      rw [show decide ((i : Int) < (l.length : Int)) = true by simp [hlt], ctm]
      simp only [geti_nat g, bsm, zeta', letJ, hb]
      cases b
      · rw [cfm, bsm]
        by_cases h1 : 6 < z.w.length
        · right
          rw [decide_eq_true (by omega), ctm, bsm, ctm]
          exact ⟨_, rfl, .inr rfl⟩
        · rw [decide_eq_false (by omega), cfm, bsm]
          by_cases h2 : 6 < w.w.length
          · right
            rw [decide_eq_true (by omega), ctm]
            exact ⟨_, rfl, .inr rfl⟩
          · left
            rw [decide_eq_false (by omega), cfm, w64_succ (by omega)]
            refine ⟨_, rfl, ⟨i + 1, rfl, hlt, ?_⟩, by omega⟩
            rw [List.take_add_one, g]
            intro u hu
            rcases List.mem_append.1 hu with h | h
            · exact ht u h
            · simp at h; rw [h]; exact ⟨by simp only []; omega, by simp only []; omega⟩
      · right
        exact ⟨_, rfl, .inr rfl⟩
    · right
      rw [show decide ((i : Int) < (l.length : Int)) = false by simp; omega, cfm]
      rw [List.take_of_length_le (by omega)] at ht
      exact ⟨_, rfl, .inl ⟨_, rfl, ht⟩⟩
  · rintro e (⟨c, rfl, he⟩ | rfl)
    · exact ⟨false, rfl, fun _ => he⟩
    · exact ⟨true, rfl, fun h => by cases h⟩
abbrev OkQ (q : Qr) : Prop := OkZ q.num ∧ OkZ q.den
theorem rep_of {q : Qr} {L : Nat} (h : OkQ q) (h1 : q.num.w.length ≤ L) (h2 : q.den.w.length ≤ L) (hL : 1 ≤ L) : Rep L q (qv q) := ⟨h.1.2.2, h.2.2.2, h1, h2, hL, rfl⟩
end Go.Proofs.YtfoldppidpmchaaGreat
namespace Go.Proofs.YtfoldppidpmchaaGreat
open Go.Fw
theorem rtri (x y : Rat) : x < y ∨ x = y ∨ y < x := by grind
end Go.Proofs.YtfoldppidpmchaaGreat
namespace Go.Proofs.YtfoldppidpmchaaGreat
open Go.Fw
theorem dT {p : Prop} [Decidable p] (h : p) : (some (decide p) : Option Bool) = some true := congrArg some (decide_eq_true h)
theorem dF {p : Prop} [Decidable p] (h : ¬ p) : (some (decide p) : Option Bool) = some false := congrArg some (decide_eq_false h)
theorem andT {β : Type} {x : Option Bool} {f : Bool → Option β} {r : Option β} {y : Option Bool} (h : x = some true) (hf : f true = r) : (bif true then x else y).bind f = r := by rw [ctm, h]; exact hf
theorem orC {β : Type} {b c : Bool} {x : Option Bool} {f : Bool → Option β} {r : Option β} (h : b = false → x = some c) (hf : f (b || c) = r) : (bif b then some true else x).bind f = r := by
  cases b
  · rw [cfm, h rfl]; exact hf
  · rw [ctm]; exact hf
theorem andC {β : Type} {b c : Bool} {x : Option Bool} {f : Bool → Option β} {r : Option β} (h : b = true → x = some c) (hf : f (b && c) = r) : (bif b then x else some false).bind f = r := by
  cases b
  · rw [cfm]; exact hf
  · rw [ctm, h rfl]; exact hf
section ops
variable {K L M : Nat} {a b c : Qr} {x y z : Rat}
theorem Rep.neg' (ha : Rep L a x) (h : L ≤ 10000000000) : ∃ q, frac_Neg_m a = some q ∧ Rep L q (-x) := ⟨_, ha.neg h⟩
theorem int' {n : Int} (hn : i64ok n) : ∃ q, frac_FromInt64_m n = some q ∧ Rep 2 q (n : Rat) := ⟨_, fromInt64_eq hn⟩
end ops
theorem RepV.val {L : Nat} {v : List Qr} {f : Nat → Rat} (h : RepV L v f) (i : Nat) : f i = vval v i := (h.at i).v.symm
theorem RepV.of {L n : Nat} {v : List Qr} {f : Nat → Rat} (hn : v.length = n) (h : ∀ i q, v[i]? = some q → Rep L q (f i)) (h1 : 1 ≤ L) : RepV L v (fun i => if i < n then f i else 0) := by
  refine ⟨fun i hi => ?_, fun i hi => ?_, h1⟩
  · show Rep L v[i] (if i < n then f i else 0)
    rw [if_pos (by omega)]; exact h i _ (List.getElem?_eq_getElem hi)
  · show (if i < n then f i else 0) = 0
    rw [if_neg (by omega)]
abbrev szZ (z : Zr) : Nat := 1 + ((z.w.map fun _ => 1).sum + 1) + 1
abbrev szQ (q : Qr) : Nat := szZ q.num + szZ q.den + 1
abbrev szV (v : List Qr) : Nat := (v.map fun x => szQ x).sum + 1
abbrev szM (m : List (List Qr)) : Nat := (m.map fun x => szV x).sum + 1
theorem sum_mem {α : Type} (f : α → Nat) : ∀ {l : List α} {x : α}, x ∈ l → f x ≤ (l.map f).sum
  | y :: l, x, h => by
    rw [List.map_cons, List.sum_cons]
    rcases List.mem_cons.1 h with rfl | h
    · omega
    · have := sum_mem f h; omega
theorem sum_one {α : Type} : ∀ l : List α, (l.map fun _ => 1).sum = l.length
  | [] => rfl
  | _ :: l => by rw [List.map_cons, List.sum_cons, sum_one l, List.length_cons]; omega
theorem szQ_len (q : Qr) : q.num.w.length ≤ szQ q ∧ q.den.w.length ≤ szQ q := by
  simp only [szQ, szZ, sum_one]; omega
abbrev OkV (v : List Qr) : Prop := v.length ≤ 9223372036854775807 ∧ ∀ q ∈ v, OkQ q
theorem repq {q : Qr} (h : OkQ q) (s : szQ q ≤ 1048576) : Rep 1048576 q (qv q) := by
  have := szQ_len q
  exact rep_of h (by omega) (by omega) (by decide)
theorem repvu {v : List Qr} (h : OkV v) (s : szV v ≤ 1048576) : RepV 1048576 v (vval v) := by
  refine repv_of (fun q hq => repq (h.2 q hq) ?_) (by decide)
  have := sum_mem (fun x => szQ x) hq
  have e : szV v = (v.map fun x => szQ x).sum + 1 := rfl
  omega
end Go.Proofs.YtfoldppidpmchaaGreat
namespace Go.Proofs.YtfoldppidpmchaaGreat
open Go.Fw
def fillL {α : Type} (f : Nat → α) (n k : Nat) (z : α) : List α := (List.range k).map f ++ List.replicate (n - k) z
theorem fillL_len {α : Type} {f : Nat → α} {n k : Nat} {z : α} (hk : k ≤ n) : (fillL f n k z).length = n := by simp [fillL]; omega
theorem fillL_zero {α : Type} {f : Nat → α} {n : Nat} {z : α} : fillL f n 0 z = List.replicate n z := by simp [fillL]
theorem fillL_all {α : Type} {f : Nat → α} {n : Nat} {z : α} : fillL f n n z = (List.range n).map f := by simp [fillL]
theorem fillL_set {α : Type} {f : Nat → α} {n k : Nat} {z : α} (hk : k < n) : (fillL f n k z).set k (f k) = fillL f n (k + 1) z := by
  unfold fillL
  rw [show n - k = (n - (k + 1)) + 1 by omega, List.replicate_succ, List.set_append_right _ _ (by simp), List.length_map, List.length_range, Nat.sub_self, List.range_succ, List.map_append, List.append_assoc]; rfl
def mq (n : Nat) (ln : Nat → Nat) (F : Nat → Nat → Rat) : List (List Qr) := (List.range n).map fun i => vq (ln i) (F i)
theorem mq_len (n : Nat) (ln : Nat → Nat) (F : Nat → Nat → Rat) : (mq n ln F).length = n := by simp [mq]
theorem mq_get {n i : Nat} {ln : Nat → Nat} {F : Nat → Nat → Rat} (hi : i < n) : (mq n ln F)[i]? = some (vq (ln i) (F i)) := by simp [mq, hi]
theorem mq_congr {n : Nat} {ln ln' : Nat → Nat} {F G : Nat → Nat → Rat} (h : ∀ i, i < n → ln i = ln' i ∧ ∀ k, k < ln i → F i k = G i k) : mq n ln F = mq n ln' G := by
  unfold mq
  apply List.map_congr_left
  intro i hi
  obtain ⟨h1, h2⟩ := h i (List.mem_range.1 hi)
  rw [vq_congr h2, h1]
structure RepX (L : Nat) (m : List (List Qr)) (F : Nat → Nat → Rat) : Prop where
  e : ∀ i v, m[i]? = some v → RepV L v (F i)
  z : ∀ i, m.length ≤ i → ∀ k, F i k = 0
  l1 : 1 ≤ L
theorem RepX.row {L : Nat} {m : List (List Qr)} {F : Nat → Nat → Rat} (h : RepX L m F) (i : Nat) : RepV L (m.getD i []) (F i) := by
  by_cases hi : i < m.length
  · rw [List.getD_eq_getElem?_getD, List.getElem?_eq_getElem hi]; exact h.e i _ (List.getElem?_eq_getElem hi)
  · rw [List.getD_eq_getElem?_getD, List.getElem?_eq_none (by omega)]
    exact (RepV.nil h.l1).congr (fun k => (h.z i (by omega) k).symm)
theorem RepX.mono {L M : Nat} {m : List (List Qr)} {F : Nat → Nat → Rat} (h : RepX L m F) (hl : L ≤ M) : RepX M m F := ⟨fun i v e => (h.e i v e).mono hl, h.z, Nat.le_trans h.l1 hl⟩
theorem mq_rep {L n : Nat} {ln : Nat → Nat} {F : Nat → Nat → Rat} (hf : ∀ i, i < n → ∀ k, k < ln i → FQ L (F i k)) (hz : ∀ i, i < n → ∀ k, ln i ≤ k → F i k = 0) (hz' : ∀ i, n ≤ i → ∀ k, F i k = 0) (h1 : 1 ≤ L) : RepX L (mq n ln F) F := by
  refine ⟨fun i v e => ?_, fun i hi => hz' i (by rwa [mq_len] at hi), h1⟩
  have hi : i < n := by have := (List.getElem?_eq_some_iff.1 e).1; rwa [mq_len] at this
  rw [mq_get hi] at e
  cases e
  exact vq_rep (hf i hi) (hz i hi) h1
def mval (m : List (List Qr)) (i : Nat) : Nat → Rat := vval (m.getD i [])
theorem repx_of {L : Nat} {m : List (List Qr)} (h : ∀ v ∈ m, RepV L v (vval v)) (h1 : 1 ≤ L) : RepX L m (mval m) := by
  refine ⟨fun i v e => ?_, fun i hi k => ?_, h1⟩
  · have : mval m i = vval v := by unfold mval; rw [List.getD_eq_getElem?_getD, e]; rfl
    rw [this]; exact h v (List.mem_of_getElem? e)
  · unfold mval
    rw [List.getD_eq_getElem?_getD, List.getElem?_eq_none hi]
    exact (RepV.nil (L := 1) (by decide)).val k |>.symm
theorem repx_one {L : Nat} {v : List Qr} {f : Nat → Rat} (h : RepV L v f) : RepX L [v] (fun i k => if i = 0 then f k else 0) := by
  refine ⟨fun i u e => ?_, fun i hi k => if_neg (by simp at hi; omega), h.l1⟩
  match i, e with
  | 0, e => cases e; exact h.congr (fun k => (if_pos rfl).symm)
theorem mkm {n : Nat} (h : n ≤ 1000000) : mkM 24 ((n : Nat) : Int) ([] : List Qr) = some (List.replicate n []) := mkM_of (by decide) (by omega)
theorem mkq' (n : Nat) (h : n ≤ 1000000) : mkM 64 ((n : Nat) : Int) (⟨⟨false, []⟩, ⟨false, []⟩⟩ : Qr) = some (List.replicate n ⟨⟨false, []⟩, ⟨false, []⟩⟩) := mkM_of (by omega) (by omega)
theorem sum_cut {L M N : Nat} {a b : List Qr} {f g : Nat → Rat} (ha : RepV L a f) (hb : RepV M b g) (h : min a.length b.length ≤ N) : sumQ (fun i => f i * g i) (min a.length b.length) = sumQ (fun i => f i * g i) N := by
  rw [sumQ_ext h (fun i h1 _ => by
    rcases Nat.lt_or_ge i a.length with q | q
    · rw [hb.z i (by omega)]; grind
    · rw [ha.z i q]; grind)]
theorem rangeX_all {E : Type} {body : Nat → Unit → Option (Unit ⊕ E)} {n : Nat} {p : Nat → Prop} [DecidablePred p] {e : E} (h : ∀ k, k < n → body k () = some (if p k then .inl () else .inr e)) : rangeX body n () = some (if ∀ k, k < n → p k then .inl () else .inr e) := by
  induction n with
  | zero => rw [rangeX, if_pos (fun k hk => by omega)]
  | succ n ih =>
    rw [rangeX, ih (fun k hk => h k (by omega))]
    by_cases h1 : ∀ k, k < n → p k
    · rw [if_pos h1]
      show body n () = _
      rw [h n (by omega)]
      by_cases h2 : p n
      · rw [if_pos h2, if_pos]
        intro k hk
        rcases Nat.lt_or_ge k n with q | q
        · exact h1 k q
        · obtain rfl : k = n := by omega
          exact h2
      · rw [if_neg h2, if_neg (fun q => h2 (q n (by omega)))]
    · rw [if_neg h1, if_neg (fun q => h1 (fun k hk => q k (by omega)))]; rfl
section ops
variable {K L M : Nat} {c : Qr} {k : Rat} {a b : List (List Qr)} {F G : Nat → Nat → Rat} {x : List Qr} {f : Nat → Rat}
theorem mrow_eq (a : List (List Qr)) (i : Nat) : mat_row_m a (i : Int) = some (a.getD i []) := by
  unfold mat_row_m
  refine letJ_of <| bind_eq (dF (by omega)) ?_
  by_cases h : i < a.length
  · exact bind_eq (a := false) (bif_f rfl <| bind_eq rfl <| bind_eq (dF (by omega)) rfl) <| bif_f rfl <| bind_eq (geti_nat (get_getD' h)) rfl
  · rw [getD_of_le' (by omega)]
    exact bind_eq (a := true) (bif_f rfl <| bind_eq rfl <| bind_eq (dT (by omega)) rfl) <| bif_t rfl rfl
def colsN (m : List (List Qr)) : Nat := m.foldl (fun n v => max n v.length) 0
theorem colsN_le {m : List (List Qr)} {n : Nat} : colsN m ≤ n ↔ ∀ v ∈ m, v.length ≤ n := by
  have key : ∀ (l : List (List Qr)) (s : Nat), l.foldl (fun n v => max n v.length) s ≤ n ↔ s ≤ n ∧ ∀ v ∈ l, v.length ≤ n := by
    intro l
    induction l with
    | nil => intro s; simp
    | cons v l ih =>
      intro s
      rw [List.foldl_cons, ih]; simp only [List.mem_cons, forall_eq_or_imp]
      constructor
      · rintro ⟨h1, h2⟩; exact ⟨by omega, by omega, h2⟩
      · rintro ⟨h1, h2, h3⟩; exact ⟨by omega, h3⟩
  unfold colsN
  rw [key]; simp
theorem mcols (m : List (List Qr)) (h : m.length ≤ 9223372036854775806) : mat_Cols_m m = some (colsN m : Int) := by
  unfold mat_Cols_m
  refine bind_eq rfl ?_
  refine bind_loop_to (fun j => (((m.take j).foldl (fun n v => max n v.length) 0 : Nat), (j : Int))) m.length ((colsN m : Nat) : Int) (by simp) (fun j hj => ?_) ?_ rfl
  · refine bind_eq (dT (by omega)) <| bif_t rfl <| bind_eq (geti_nat (List.getElem?_eq_getElem hj)) <| bind_eq rfl <| bind_eq rfl <| bind_eq (congrArg some (w64_succ (by omega))) ?_
    rw [List.take_add_one, List.getElem?_eq_getElem hj, List.foldl_append]
    simp only [Option.toList_some, List.foldl_cons, List.foldl_nil]
    congr 3
    omega
  · refine bind_eq (dF (by omega)) <| bif_f rfl ?_
    rw [List.take_length]; rfl
theorem mat_at (h : RepX L a F) (hL : L ≤ 10000000000) (i j : Nat) : mat_At_m a (i : Int) (j : Int) = some (qn (F i j)) := by
  unfold mat_At_m
  refine bind_eq (mrow_eq a i) <| letJ_of <| bind_eq (dF (by omega)) ?_
  have hr := h.row i
  generalize a.getD i [] = v at hr
  by_cases hj : j < v.length
  · obtain ⟨q, e1, r1⟩ := hr.get hj
    have e2 := (r1.canon hL).1
    exact bind_eq (a := false) (bif_f rfl <| bind_eq rfl <| bind_eq (dF (by omega)) rfl) <| bif_f rfl <| bind_eq (geti_nat e1) <| bind_eq e2 rfl
  · rw [hr.z j (by omega)]
    exact bind_eq (a := true) (bif_f rfl <| bind_eq rfl <| bind_eq (dT (by omega)) rfl) <| bif_t rfl rfl
theorem mscale (hc : Rep K c k) (h : RepX L a F) (hL : K + L ≤ 4000000000) (hn : a.length ≤ 1000000) (hw : ∀ v ∈ a, v.length ≤ 1000000) :
    mat_Scale_m c a = some (mq a.length (fun i => (a.getD i []).length) (fun i j => k * F i j)) ∧ RepX (K + L) (mq a.length (fun i => (a.getD i []).length) (fun i j => k * F i j)) (fun i j => k * F i j) := by
  have hw' : ∀ i, (a.getD i []).length ≤ 1000000 := fun i => by
    by_cases hi : i < a.length
    · exact hw _ (List.mem_of_getElem? (get_getD' (d := []) hi))
    · rw [getD_of_le' (by omega)]; decide
  constructor
  · unfold mat_Scale_m
    refine bind_eq rfl <| bind_eq (mkm hn) <| bind_eq rfl ?_
    refine bind_loop_to (fun j => ((j : Int), fillL (fun i => vq (a.getD i []).length (fun j => k * F i j)) a.length j [])) a.length (mq a.length (fun i => (a.getD i []).length) (fun i j => k * F i j)) (by rw [fillL_zero]; rfl) (fun j hj => ?_) ?_ rfl
    · have e1 := (vscale hc (h.row j) hL (hw' j)).1
      have hl : (fillL (fun i => vq (a.getD i []).length (fun j => k * F i j)) a.length j []).length = a.length := fillL_len (by omega)
      refine bind_eq (dT (by omega)) <| bif_t rfl <| bind_eq (geti_nat (get_getD' (d := []) hj)) <| bind_eq e1 <| bind_eq (cki_nat (show j < _ by rw [hl]; exact hj)) <| bind_eq (stM_of (show j < _ by rw [hl]; exact hj)) <| bind_eq (congrArg some (w64_succ (by omega))) ?_
      rw [← fillL_set hj]
    · refine bind_eq (dF (by omega)) <| bif_f rfl ?_
      rw [fillL_all]; rfl
  · refine mq_rep (fun i hi j hj => ?_) (fun i hi j hj => by rw [(h.row i).z j hj]; grind) (fun i hi j => by rw [h.z i hi j]; grind) (by have := h.l1; omega)
    exact (vscale hc (h.row i) hL (hw' i)).2.fq j
theorem mmul (h : RepX L a F) (hx : RepV M x f) {N : Nat} (hN : ∀ v ∈ a, min v.length x.length ≤ N) (hL : (N + 2) * (L + M + 1) ≤ 4000000000) (hn : a.length ≤ 1000000) :
    mat_MulVec_m a x = some (vq a.length (fun i => sumQ (fun j => F i j * f j) N)) ∧ RepV (N * (L + M + 1) + 1) (vq a.length (fun i => sumQ (fun j => F i j * f j) N)) (fun i => sumQ (fun j => F i j * f j) N) := by
  have row : ∀ i, i < a.length → vec_Dot_m (a.getD i []) x = some (qn (sumQ (fun j => F i j * f j) N)) ∧ Rep (N * (L + M + 1) + 1) (qn (sumQ (fun j => F i j * f j) N)) (sumQ (fun j => F i j * f j) N) := fun i hi => by
    have hm := hN _ (List.mem_of_getElem? (get_getD' (d := []) hi))
    have h1 := vdot (h.row i) hx (Nat.le_trans (Nat.mul_le_mul_right _ (by omega)) hL)
    rw [sum_cut (h.row i) hx hm] at h1
    exact ⟨h1.1, h1.2.mono (Nat.add_le_add_right (Nat.mul_le_mul_right _ hm) 1)⟩
  constructor
  · unfold mat_MulVec_m
    refine bind_eq rfl <| bind_eq (mkq' _ hn) <| bind_eq rfl ?_
    refine bind_loop_to (fun j => ((j : Int), fillL (fun i => qn (sumQ (fun j => F i j * f j) N)) a.length j ⟨⟨false, []⟩, ⟨false, []⟩⟩)) a.length (vq a.length (fun i => sumQ (fun j => F i j * f j) N)) (by rw [fillL_zero]; rfl) (fun j hj => ?_) ?_ rfl
    · have e1 := (row j hj).1
      have hl : (fillL (fun i => qn (sumQ (fun j => F i j * f j) N)) a.length j ⟨⟨false, []⟩, ⟨false, []⟩⟩).length = a.length := fillL_len (by omega)
      have hst : ∀ q, qn (sumQ (fun i => F j i * f i) N) = q → (fillL (fun i => qn (sumQ (fun j => F i j * f j) N)) a.length j ⟨⟨false, []⟩, ⟨false, []⟩⟩).set j q = fillL (fun i => qn (sumQ (fun j => F i j * f j) N)) a.length (j + 1) ⟨⟨false, []⟩, ⟨false, []⟩⟩ := by rintro q rfl; exact fillL_set hj
      generalize hq : qn (sumQ (fun i => F j i * f i) N) = q at e1
      have hst := hst q hq
      refine bind_eq (dT (by omega)) <| bif_t rfl <| bind_eq (geti_nat (get_getD' (d := []) hj)) <| bind_eq e1 <| bind_eq (cki_nat (show j < _ by rw [hl]; exact hj)) <| bind_eq (stM_of (show j < _ by rw [hl]; exact hj)) <| bind_eq (congrArg some (w64_succ (by omega))) ?_
      rw [← hst]
    · refine bind_eq (dF (by omega)) <| bif_f rfl ?_
      rw [fillL_all]; rfl
  · refine vq_rep (fun i hi => (row i hi).2.fq) (fun i hi => ?_) (by omega)
    rw [sumQ_congr (k := fun _ => 0) (fun j _ => by rw [h.z i hi j]; grind), sumQ_zero]
theorem mequal (ha : RepX L a F) (hb : RepX M b G) (h : L + M ≤ 4000000000) : mat_Equal_m a b = some (decide (∀ i, i < max a.length b.length → ∀ j, j < max (a.getD i []).length (b.getD i []).length → F i j = G i j)) := by
  unfold mat_Equal_m
  refine bind_eq (rangeX_all (p := fun i => ∀ j, j < max (a.getD i []).length (b.getD i []).length → F i j = G i j) (e := false) (fun i hi => ?_)) ?_
  · have e1 := veq (ha.row i) (hb.row i) h
    refine bind_eq rfl <| bind_eq rfl <| bind_eq e1 <| bind_eq rfl ?_
    by_cases q : ∀ j, j < max (a.getD i []).length (b.getD i []).length → F i j = G i j
    · rw [if_pos q]; exact bif_f (by rw [decide_eq_true q]; rfl) rfl
    · rw [if_neg q]; exact bif_t (by rw [decide_eq_false q]; rfl) rfl
  · by_cases q : ∀ i, i < max a.length b.length → ∀ j, j < max (a.getD i []).length (b.getD i []).length → F i j = G i j
    · rw [if_pos q, decide_eq_true q]
    · rw [if_neg q, decide_eq_false q]
theorem mequalT (ha : RepX L a F) (hb : RepX M b G) (h : L + M ≤ 4000000000) (e : ∀ i j, F i j = G i j) : mat_Equal_m a b = some true := by
  rw [mequal ha hb h, decide_eq_true (fun i _ j _ => e i j)]
theorem mints {l : List (List Int)} (hl : ∀ v ∈ l, v.length ≤ 1000 ∧ ∀ y ∈ v, i64ok y) (hn : l.length ≤ 1000) : mat_FromInts_m l = some (mq l.length (fun i => (l.getD i []).length) (fun i j => (((l.getD i []).getD j 0 : Int) : Rat))) ∧ RepX 2 (mq l.length (fun i => (l.getD i []).length) (fun i j => (((l.getD i []).getD j 0 : Int) : Rat))) (fun i j => (((l.getD i []).getD j 0 : Int) : Rat)) := by
  have hw : ∀ i, (l.getD i []).length ≤ 1000 ∧ ∀ y ∈ l.getD i [], i64ok y := fun i => by
    by_cases hi : i < l.length
    · exact hl _ (List.mem_of_getElem? (get_getD' (d := []) hi))
    · rw [getD_of_le' (by omega)]; simp
  constructor
  · unfold mat_FromInts_m
    refine bind_eq rfl <| bind_eq (mkm (by omega)) <| bind_eq rfl ?_
    refine bind_loop_to (fun j => ((j : Int), fillL (fun i => vq (l.getD i []).length (fun j => (((l.getD i []).getD j 0 : Int) : Rat))) l.length j [])) l.length (mq l.length (fun i => (l.getD i []).length) (fun i j => (((l.getD i []).getD j 0 : Int) : Rat))) (by rw [fillL_zero]; rfl) (fun j hj => ?_) ?_ rfl
    · have e1 := (vints (hw j).2 (by have := (hw j).1; omega)).1
      have hl : (fillL (fun i => vq (l.getD i []).length (fun j => (((l.getD i []).getD j 0 : Int) : Rat))) l.length j []).length = l.length := fillL_len (by omega)
      refine bind_eq (dT (by omega)) <| bif_t rfl <| bind_eq (geti_nat (get_getD' (d := []) hj)) <| bind_eq e1 <| bind_eq (cki_nat (show j < _ by rw [hl]; exact hj)) <| bind_eq (stM_of (show j < _ by rw [hl]; exact hj)) <| bind_eq (congrArg some (w64_succ (by omega))) ?_
      rw [← fillL_set hj]
    · refine bind_eq (dF (by omega)) <| bif_f rfl ?_
      rw [fillL_all]; rfl
  · refine mq_rep (fun i hi j hj => (vints (hw i).2 (by have := (hw i).1; omega)).2.fq j) (fun i hi j hj => by rw [getD_of_le' hj]; rfl) (fun i hi j => by rw [getD_of_le' hi]; rfl) (by decide)
end ops
end Go.Proofs.YtfoldppidpmchaaGreat
namespace Go.Proofs.YtfoldppidpmchaaGreat
open Go.Fw
theorem bif_c {α : Type} {b : Bool} {x y r : α} (ht : b = true → x = r) (hf : b = false → y = r) : (bif b then x else y) = r := by
  cases b
  · rw [cfm]; exact hf rfl
  · rw [ctm]; exact ht rfl
theorem loop_scan {E : Type} {body : Int → Option (Int ⊕ (Unit ⊕ E))} {n : Nat} {p : Nat → Prop} [DecidablePred p] {e : E} (h : ∀ k : Nat, k < n → body (k : Int) = some (if p k then .inl ((k + 1 : Nat) : Int) else .inr (.inr e))) (hn : body (n : Int) = some (.inr (.inl ()))) :
    loopM body 0 = some (if ∀ k, k < n → p k then .inl () else .inr e) := by
  obtain ⟨r, h1, h2⟩ := loopM_inv (body := body) (s := 0) (fun s => ∃ k : Nat, s = (k : Int) ∧ k ≤ n ∧ ∀ i, i < k → p i) (fun r => (r = .inl () ∧ ∀ k, k < n → p k) ∨ (r = .inr e ∧ ¬ ∀ k, k < n → p k)) (fun s => n - s.toNat) (by
    rintro _ ⟨k, rfl, hk, hp⟩
    by_cases hlt : k < n
    · by_cases hpk : p k
      · refine .inl ⟨_, by rw [h k hlt, if_pos hpk], ⟨k + 1, rfl, hlt, fun i hi => ?_⟩, by simp only [Int.toNat_natCast]; omega⟩
        rcases Nat.lt_or_ge i k with q | q
        · exact hp i q
        · obtain rfl : i = k := by omega
          exact hpk
      · exact .inr ⟨_, by rw [h k hlt, if_neg hpk], .inr ⟨rfl, fun q => hpk (q k hlt)⟩⟩
    · obtain rfl : k = n := by omega
      exact .inr ⟨_, hn, .inl ⟨rfl, hp⟩⟩) ⟨0, rfl, by omega, fun i hi => by omega⟩
  rw [h1]
  rcases h2 with ⟨rfl, h2⟩ | ⟨rfl, h2⟩
  · rw [if_pos h2]
  · rw [if_neg h2]
def cutQ (n : Nat) (f : Nat → Rat) (i : Nat) : Rat := if i < n then f i else 0
theorem cutQ_of {n i : Nat} {f : Nat → Rat} (h : i < n) : cutQ n f i = f i := if_pos h
theorem cutQ_no {n i : Nat} {f : Nat → Rat} (h : n ≤ i) : cutQ n f i = 0 := if_neg (by omega)
theorem vq_cut (n : Nat) (f : Nat → Rat) : vq n f = vq n (cutQ n f) := vq_congr (fun i hi => (cutQ_of hi).symm)
theorem vq_repc {L n : Nat} {f : Nat → Rat} (h : ∀ i, i < n → FQ L (f i)) (h1 : 1 ≤ L) : RepV L (vq n f) (cutQ n f) := by
  rw [vq_cut]
  exact vq_rep (fun i hi => by rw [cutQ_of hi]; exact h i hi) (fun i hi => cutQ_no hi) h1
def Vld (n : Int) (ob rw : List (List Qr)) (bd : List Qr) : Prop := 0 ≤ n ∧ n ≤ 64 ∧ 1 ≤ ob.length ∧ ob.length ≤ 4 ∧ rw.length ≤ 128 ∧ bd.length = rw.length ∧ (colsN ob : Int) ≤ n ∧ (colsN rw : Int) ≤ n
instance (n : Int) (ob rw : List (List Qr)) (bd : List Qr) : Decidable (Vld n ob rw bd) := by unfold Vld; exact inferInstance
theorem valid_eq {n : Int} {ob rw : List (List Qr)} {bd : List Qr} (h1 : ob.length ≤ 9223372036854775806) (h2 : rw.length ≤ 9223372036854775806) : lp_Valid_m ⟨n, ob, rw, bd⟩ = some (decide (Vld n ob rw bd)) := by
  unfold lp_Valid_m lp_sizesOf_m
  refine bind_eq (bind_eq rfl <| bind_eq rfl <| bind_eq rfl rfl) <| letJ_of <| bind_eq rfl <| orC (fun _ => bind_eq rfl rfl) <| orC (fun _ => bind_eq rfl rfl) <| orC (fun _ => bind_eq rfl rfl) <| bif_c (fun h => ?_) (fun h => letJ_of <| bind_eq rfl <| orC (fun _ => bind_eq rfl rfl) <| bif_c (fun h' => ?_) (fun h' => letJ_of <| bind_eq (mcols ob h1) <| bind_eq rfl <| andC (fun _ => bind_eq (mcols rw h2) <| bind_eq rfl rfl) ?_))
  · congr 1; symm; rw [decide_eq_false_iff_not]
    simp only [Bool.or_eq_true, decide_eq_true_eq] at h
    unfold Vld; omega
  · congr 1; symm; rw [decide_eq_false_iff_not]
    simp only [Bool.or_eq_true, decide_eq_true_eq] at h'
    unfold Vld; omega
  · congr 1
    simp only [Bool.or_eq_false_iff, decide_eq_false_iff_not] at h h'
    rw [← Bool.decide_and, decide_eq_decide]
    unfold Vld; omega
def Fsb (n : Int) (ob rw : List (List Qr)) (bd x : List Qr) (F : Nat → Nat → Rat) (g f : Nat → Rat) (N : Nat) : Prop := Vld n ob rw bd ∧ (x.length : Int) ≤ n ∧ (∀ i, i < x.length → 0 ≤ f i) ∧ ∀ i, i < rw.length → sumQ (fun j => F i j * f j) N ≤ g i
instance (n : Int) (ob rw : List (List Qr)) (bd x : List Qr) (F : Nat → Nat → Rat) (g f : Nat → Rat) (N : Nat) : Decidable (Fsb n ob rw bd x F g f N) := by unfold Fsb; exact inferInstance
section lps
variable {K L M N : Nat} {n : Int} {ob rw : List (List Qr)} {bd x y : List Qr} {O F : Nat → Nat → Rat} {g f : Nat → Rat}
theorem feas_eq (hr : RepX L rw F) (hb : RepV K bd g) (hx : RepV M x f) (hN : ∀ v ∈ rw, min v.length x.length ≤ N) (hL : (N + 2) * (L + M + 1) ≤ 2000000000) (hK : K ≤ 1000000000) (h1 : ob.length ≤ 9223372036854775806) (h2 : rw.length ≤ 9223372036854775806) (h3 : x.length ≤ 1000000) :
    lp_Feasible_m ⟨n, ob, rw, bd⟩ x = some (decide (Fsb n ob rw bd x F g f N)) := by
  have row : ∀ i, i < rw.length → ∃ q, vec_Dot_m (rw.getD i []) x = some q ∧ Rep (N * (L + M + 1) + 1) q (sumQ (fun j => F i j * f j) N) := fun i hi => by
    have hm := hN _ (List.mem_of_getElem? (get_getD' (d := []) hi))
    have h1 := vdot (hr.row i) hx (Nat.le_trans (Nat.mul_le_mul_right _ (show min (rw.getD i []).length x.length + 2 ≤ N + 2 by omega)) (by omega))
    rw [sum_cut (hr.row i) hx hm] at h1
    exact ⟨_, h1.1, h1.2.mono (Nat.add_le_add_right (Nat.mul_le_mul_right _ hm) 1)⟩
  have hsz : N * (L + M + 1) + 1 + K ≤ 4000000000 := by rw [Nat.add_mul] at hL; omega
  unfold lp_Feasible_m
  refine letJ_of <| bind_eq (valid_eq h1 h2) <| bind_eq rfl <| orC (fun _ => bind_eq rfl <| bind_eq rfl rfl) <| bif_c (fun h => ?_) (fun h => bind_eq rfl ?_)
  · congr 1; symm; rw [decide_eq_false_iff_not]
    simp only [Bool.or_eq_true, Bool.not_eq_true', decide_eq_true_eq, decide_eq_false_iff_not] at h
    unfold Fsb
    rintro ⟨q1, q2, _⟩
    rcases h with h | h
    · exact h q1
    · omega
  simp only [Bool.or_eq_false_iff, Bool.not_eq_false', decide_eq_true_eq, decide_eq_false_iff_not] at h
  refine bind_eq (loop_scan (p := fun i => 0 ≤ f i) (e := false) (n := x.length) (fun i hi => ?_) (bind_eq (dF (by omega)) <| bif_f rfl rfl)) ?_
  · obtain ⟨q, e1, r1⟩ := hx.get hi
    have e2 := r1.sign (by have := Nat.mul_le_mul_right (L + M + 1) (show 1 ≤ N + 2 by omega); omega)
    refine bind_eq (dT (by omega)) <| bif_t rfl <| bind_eq (geti_nat e1) <| bind_eq e2 <| bind_eq rfl ?_
    by_cases hp : 0 ≤ f i
    · rw [if_pos hp]
      exact bif_f (decide_eq_false (fun q => Rat.not_lt.2 hp (cmpQ_neg.1 q))) <| bind_eq (congrArg some (w64_succ (by omega))) rfl
    · rw [if_neg hp]
      exact bif_t (decide_eq_true (cmpQ_neg.2 (Rat.not_le.1 hp))) rfl
  by_cases hp : ∀ i, i < x.length → 0 ≤ f i
  · rw [if_pos hp]
    show (rangeX _ _ ()).bind _ = _
    refine bind_eq (rangeX_all (p := fun i => sumQ (fun j => F i j * f j) N ≤ g i) (e := false) (fun i hi => ?_)) ?_
    · obtain ⟨q, e1, r1⟩ := row i hi
      have rb := hb.gd i
      have e2 := r1.cmp rb hsz
      generalize hbq : bd.getD i (⟨⟨false, []⟩, ⟨false, []⟩⟩ : Qr) = bq at e2
      refine bind_eq rfl <| bind_eq (a := bq) (by first | rfl | exact congrArg some hbq) <| bind_eq e1 <| bind_eq e2 <| bind_eq rfl ?_
      by_cases hs : sumQ (fun j => F i j * f j) N ≤ g i
      · rw [if_pos hs]
        refine bif_f (decide_eq_false (fun q => ?_)) rfl
        exact Rat.not_lt.2 hs (cmpQ_pos.1 (by omega))
      · rw [if_neg hs]
        exact bif_t (decide_eq_true (cmpQ_gt (Rat.not_le.1 hs))) rfl
    · by_cases hq : ∀ i, i < rw.length → sumQ (fun j => F i j * f j) N ≤ g i
      · rw [if_pos hq, decide_eq_true (show Fsb n ob rw bd x F g f N from ⟨h.1, by omega, hp, hq⟩)]
      · rw [if_neg hq, decide_eq_false (show ¬ Fsb n ob rw bd x F g f N from fun q => hq q.2.2.2)]
  · rw [if_neg hp, decide_eq_false (show ¬ Fsb n ob rw bd x F g f N from fun q => hp q.2.2.1)]
theorem eval_eq (ho : RepX L ob O) (hx : RepV M x f) (hN : ∀ v ∈ ob, min v.length x.length ≤ N) (hL : (N + 2) * (L + M + 1) ≤ 4000000000) (hn : ob.length ≤ 1000000) :
    lp_Evaluate_m ⟨n, ob, rw, bd⟩ x = some (vq ob.length (fun i => sumQ (fun j => O i j * f j) N)) ∧ RepV (N * (L + M + 1) + 1) (vq ob.length (fun i => sumQ (fun j => O i j * f j) N)) (fun i => sumQ (fun j => O i j * f j) N) := by
  obtain ⟨h1, h2⟩ := mmul ho hx hN hL hn
  exact ⟨bind_eq h1 rfl, h2⟩
theorem slack_eq (hr : RepX L rw F) (hb : RepV K bd g) (hx : RepV M x f) (hN : ∀ v ∈ rw, min v.length x.length ≤ N) (hL : (N + 2) * (L + M + 1) ≤ 2000000000) (hK : K ≤ 1000000000) (h2 : rw.length ≤ 1000000) :
    lp_Slack_m ⟨n, ob, rw, bd⟩ x = some (vq rw.length (fun i => g i - sumQ (fun j => F i j * f j) N)) ∧ ∀ i, i < rw.length → FQ (K + (N * (L + M + 1) + 1) + 1) (g i - sumQ (fun j => F i j * f j) N) := by
  have row : ∀ i, i < rw.length → ∃ q, vec_Dot_m (rw.getD i []) x = some q ∧ Rep (N * (L + M + 1) + 1) q (sumQ (fun j => F i j * f j) N) := fun i hi => by
    have hm := hN _ (List.mem_of_getElem? (get_getD' (d := []) hi))
    have h1 := vdot (hr.row i) hx (Nat.le_trans (Nat.mul_le_mul_right _ (show min (rw.getD i []).length x.length + 2 ≤ N + 2 by omega)) (by omega))
    rw [sum_cut (hr.row i) hx hm] at h1
    exact ⟨_, h1.1, h1.2.mono (Nat.add_le_add_right (Nat.mul_le_mul_right _ hm) 1)⟩
  have hsz : K + (N * (L + M + 1) + 1) ≤ 4000000000 := by rw [Nat.add_mul] at hL; omega
  refine ⟨?_, fun i hi => ?_⟩
  · unfold lp_Slack_m
    refine bind_range (fun j => vq j (fun i => g i - sumQ (fun j => F i j * f j) N)) rfl (fun i hi => ?_) rfl
    obtain ⟨q, e1, r1⟩ := row i hi
    have rb := hb.gd i
    have e2 := (rb.sub r1 hsz).1
    generalize hbq : bd.getD i (⟨⟨false, []⟩, ⟨false, []⟩⟩ : Qr) = bq at e2
    have e3 : apM 64 (vq i (fun i => g i - sumQ (fun j => F i j * f j) N)) [qn (g i - sumQ (fun j => F i j * f j) N)] = some (vq (i + 1) (fun i => g i - sumQ (fun j => F i j * f j) N)) := by rw [apM1 (by decide) (by rw [vq_len]; have : i < rw.length := hi; omega), vq_succ]
    generalize qn (g i - sumQ (fun j => F i j * f j) N) = q2 at e2 e3
    exact bind_eq rfl <| bind_eq (a := bq) (by first | rfl | exact congrArg some hbq) <| bind_eq e1 <| bind_eq e2 <| bind_eq e3 rfl
  · obtain ⟨q, e1, r1⟩ := row i hi
    exact ((hb.gd i).sub r1 hsz).2.fq
def dualP (n : Int) (rw : List (List Qr)) (bd : List Qr) (O F : Nat → Nat → Rat) (g : Nat → Rat) : Lr :=
  ⟨(rw.length : Int), [vq bd.length (fun i => - g i)], mq n.toNat (fun _ => rw.length) (fun k i => - F i k), vq n.toNat (fun k => - O 0 k)⟩
theorem dual_eq (ho : RepX M ob O) (hr : RepX L rw F) (hb : RepV K bd g) (hM : M ≤ 4000000000) (hL : L ≤ 4000000000) (hK : K ≤ 3000000000) (hv : Vld n ob rw bd) (h64 : rw.length ≤ 64) : lp_Dual_m ⟨n, ob, rw, bd⟩ = some (dualP n rw bd O F g, 0) := by
  have hv' := hv
  unfold Vld at hv'
  obtain ⟨m, rfl⟩ : ∃ m : Nat, n = (m : Int) := ⟨n.toNat, by omega⟩
  have hneg : ∀ i, (((-1 : Int) : Rat)) * g i = - g i := fun i => by
    have : (((-1 : Int) : Rat)) = -1 := by decide
    rw [this]; grind
  obtain ⟨c, e1, r1⟩ := int' (n := -1) (by decide)
  have e2 := (vscale r1 hb (by omega) (by omega)).1
  rw [vq_congr (k := fun i => - g i) (fun i _ => hneg i)] at e2
  unfold lp_Dual_m
  refine letJ_of <| bind_eq (valid_eq (by omega) (by omega)) <| bind_eq rfl <| orC (fun _ => bind_eq rfl <| bind_eq rfl rfl) <| orC (fun _ => bind_eq rfl rfl) <| bif_f ?_ <| bind_eq rfl <| bind_eq e1 <| bind_eq e2 ?_
  · simp only [Bool.or_eq_false_iff, Bool.not_eq_false', decide_eq_true_eq, decide_eq_false_iff_not]
    exact ⟨⟨hv, by omega⟩, by omega⟩
  refine bind_loop_to (fun k => ((k : Int), mq k (fun _ => rw.length) (fun k i => - F i k), vq k (fun k => - O 0 k))) m (mq m (fun _ => rw.length) (fun k i => - F i k), vq m (fun k => - O 0 k)) rfl (fun k hk => ?_) (bind_eq (dF (by omega)) <| bif_f rfl rfl) rfl
  refine bind_eq (dT (by omega)) <| bif_t rfl <| bind_eq (mkq' _ (by omega)) <| bind_eq rfl ?_
  have hneg0 : ∀ q x, Rep M q x → ∃ p, frac_Neg_m q = some p ∧ p = qn (-x) := fun q x h => ⟨_, (h.neg (by omega)).1, rfl⟩
  refine bind_loop_to (fun j => ((j : Int), fillL (fun i => qn (- F i k)) rw.length j ⟨⟨false, []⟩, ⟨false, []⟩⟩)) rw.length (vq rw.length (fun i => - F i k)) (by rw [fillL_zero]; rfl) (fun j hj => ?_) ?_ ?_
  · have e3 := mat_at hr (by omega) j k
    have e4 := (((hr.row j).fq k).rep hr.l1).neg (by omega)
    have e4 := e4.1
    have hl : (fillL (fun i => qn (- F i k)) rw.length j ⟨⟨false, []⟩, ⟨false, []⟩⟩).length = rw.length := fillL_len (by omega)
    have hst : ∀ q, qn (- F j k) = q → (fillL (fun i => qn (- F i k)) rw.length j ⟨⟨false, []⟩, ⟨false, []⟩⟩).set j q = fillL (fun i => qn (- F i k)) rw.length (j + 1) ⟨⟨false, []⟩, ⟨false, []⟩⟩ := by rintro q rfl; exact fillL_set hj
    generalize qn (F j k) = q at e3 e4
    generalize hq : qn (- F j k) = q2 at e4
    have hst := hst q2 hq
    refine bind_eq (dT (by rw [List.length_replicate]; omega)) <| bif_t rfl <| bind_eq e3 <| bind_eq e4 <| bind_eq (cki_nat (show j < _ by rw [hl]; exact hj)) <| bind_eq (stM_of (show j < _ by rw [hl]; exact hj)) <| bind_eq (congrArg some (w64_succ (by omega))) ?_
    rw [← hst]
  · refine bind_eq (dF (by rw [List.length_replicate]; omega)) <| bif_f rfl ?_
    rw [fillL_all]; rfl
  · have e3 := mat_at ho (by omega) 0 k
    have e4 := ((((ho.row 0).fq k).rep ho.l1).neg (by omega)).1
    have e5 : apM 24 (mq k (fun _ => rw.length) (fun k i => - F i k)) [vq rw.length (fun i => - F i k)] = some (mq (k + 1) (fun _ => rw.length) (fun k i => - F i k)) := by
      rw [apM1 (by decide) (by rw [mq_len]; omega)]
      unfold mq; rw [List.range_succ, List.map_append]; rfl
    have e6 : apM 64 (vq k (fun k => - O 0 k)) [qn (- O 0 k)] = some (vq (k + 1) (fun k => - O 0 k)) := by rw [apM1 (by decide) (by rw [vq_len]; omega), vq_succ]
    generalize qn (O 0 k) = q at e3 e4
    generalize qn (- O 0 k) = q2 at e4 e6
    exact bind_eq e5 <| bind_eq e3 <| bind_eq e4 <| bind_eq e6 <| bind_eq (congrArg some (w64_succ (by omega))) rfl
end lps
theorem lequal {L M K L' M' K' : Nat} {n n' : Int} {ob ob' rw rw' : List (List Qr)} {bd bd' : List Qr} {O O' F F' : Nat → Nat → Rat} {g g' : Nat → Rat} (ho : RepX M ob O) (hr : RepX L rw F) (hb : RepV K bd g) (ho' : RepX M' ob' O') (hr' : RepX L' rw' F') (hb' : RepV K' bd' g')
    (s1 : M + M' ≤ 4000000000) (s2 : L + L' ≤ 4000000000) (s3 : K + K' ≤ 4000000000) (h0 : n = n') (h1 : ob.length = ob'.length) (h2 : rw.length = rw'.length) (h3 : bd.length = bd'.length) (e1 : ∀ i j, O i j = O' i j) (e2 : ∀ i j, F i j = F' i j) (e3 : ∀ i, g i = g' i) : lp_Equal_m ⟨n, ob, rw, bd⟩ ⟨n', ob', rw', bd'⟩ = some true := by
  unfold lp_Equal_m lp_sizesOf_m
  refine bind_eq (bind_eq rfl <| bind_eq rfl <| bind_eq rfl rfl) <| bind_eq (bind_eq rfl <| bind_eq rfl <| bind_eq rfl rfl) <| bind_eq rfl <| bif_f ?_ <| letJ_of <| bind_eq (mequalT ho ho' s1 e1) <| andT (bind_eq (mequalT hr hr' s2 e2) rfl) <| andT (bind_eq (veqT hb hb' s3 e3) rfl) rfl
  simp [h0, h1, h2, h3]
end Go.Proofs.YtfoldppidpmchaaGreat
namespace Go.Proofs.YtfoldppidpmchaaGreat
open Go.Fw
theorem fromMem {α : Type} {l : List α} {i : Nat} {a : α} (h : l[i]? = some a) : a ∈ l := List.mem_of_getElem? h
theorem sml_take {l : List (List Qr)} {i : Nat} {P : List Qr → Prop} (hi : i < l.length) (ht : ∀ v ∈ l.take i, P v) (hp : P l[i]) : ∀ v ∈ l.take (i + 1), P v := by
  rw [List.take_add_one, List.getElem?_eq_getElem hi]
  intro u hu
  rcases List.mem_append.1 hu with h | h
  · exact ht u h
  · simp at h; rw [h]; exact hp
abbrev Sml (v : List Qr) : Prop := v.length ≤ 20 ∧ ∀ q ∈ v, q.num.w.length ≤ 6 ∧ q.den.w.length ≤ 6
abbrev Sm8 (v : List Qr) : Prop := v.length ≤ 8 ∧ ∀ q ∈ v, q.num.w.length ≤ 6 ∧ q.den.w.length ≤ 6
theorem long3_eq (l : List (List Qr)) (hl : l.length ≤ 9223372036854775807) : ∃ b, law03_Long_m l = some b ∧ (b = false → ∀ v ∈ l, Sml v) := by
  unfold law03_Long_m
  refine bind_loop_ex (fun y => ∃ i : Nat, y = (i : Int) ∧ i ≤ l.length ∧ ∀ v ∈ l.take i, Sml v) (fun e => (∃ c, e = .inl c ∧ ∀ v ∈ l, Sml v) ∨ e = .inr true) (fun y => l.length - y.toNat) ?_ ⟨0, rfl, by omega, by simp⟩ ?_
  · rintro _ ⟨i, rfl, hi, ht⟩
    by_cases hlt : i < l.length
    · have g := List.getElem?_eq_getElem hlt
      by_cases h1 : 20 < l[i].length
      · exact .inr ⟨.inr true, bind_eq rfl <| bind_eq (dT (by omega)) <| bif_t rfl <| letJ_of <| bind_eq (geti_nat g) <| bind_eq rfl <| bind_eq (dT (by omega)) <| bind_eq (a := true) (bif_t rfl rfl) rfl, .inr rfl⟩
      · obtain ⟨b, hb, hs⟩ := long2_eq l[i] (by omega)
        cases b
        · refine .inl ⟨((i + 1 : Nat) : Int), ?_, ⟨i + 1, rfl, hlt, sml_take hlt ht ⟨by omega, hs rfl⟩⟩, by simp only [Int.toNat_natCast]; omega⟩
          exact bind_eq rfl <| bind_eq (dT (by omega)) <| bif_t rfl <| letJ_of <| bind_eq (geti_nat g) <| bind_eq rfl <| bind_eq (dF (by omega)) <| bind_eq (a := false) (bif_f rfl <| bind_eq (geti_nat g) <| bind_eq hb rfl) <| bif_f rfl <| bind_eq (congrArg some (w64_succ (by omega))) rfl
        · exact .inr ⟨.inr true, bind_eq rfl <| bind_eq (dT (by omega)) <| bif_t rfl <| letJ_of <| bind_eq (geti_nat g) <| bind_eq rfl <| bind_eq (dF (by omega)) <| bind_eq (a := true) (bif_f rfl <| bind_eq (geti_nat g) <| bind_eq hb rfl) rfl, .inr rfl⟩
    · refine .inr ⟨.inl (), ?_, .inl ⟨(), rfl, ?_⟩⟩
      · exact bind_eq rfl <| bind_eq (dF (by omega)) <| bif_f rfl rfl
      · rw [List.take_of_length_le (by omega)] at ht; exact ht
  · rintro e (⟨c, rfl, he⟩ | rfl)
    · exact ⟨false, rfl, fun _ => he⟩
    · exact ⟨true, rfl, fun h => by cases h⟩
theorem rcols (m : List (List Qr)) (h : m.length ≤ 9223372036854775806) : ref04_Cols_m m = some (colsN m : Int) := by
  unfold ref04_Cols_m
  refine bind_loop_to (fun j => (((m.take j).foldl (fun n v => max n v.length) 0 : Nat), (j : Int))) m.length ((colsN m : Nat) : Int) (by simp) (fun j hj => ?_) ?_ rfl
  · refine bind_eq rfl <| bind_eq (dT (by omega)) <| bif_t rfl <| bind_eq (geti_nat (List.getElem?_eq_getElem hj)) <| bind_eq rfl <| bind_eq rfl <| bind_eq (congrArg some (w64_succ (by omega))) ?_
    rw [List.take_add_one, List.getElem?_eq_getElem hj, List.foldl_append]
    simp only [Option.toList_some, List.foldl_cons, List.foldl_nil]
    congr 3
    omega
  · refine bind_eq rfl <| bind_eq (dF (by omega)) <| bif_f rfl ?_
    rw [List.take_length]; rfl
theorem long4_eq (m : List (List Qr)) : ∃ b, law04_Long_m [m] = some b ∧ (b = false → m.length ≤ 8 ∧ ∀ v ∈ m, Sm8 v) := by
  unfold law04_Long_m
  have hg : geti [m] (0 : Int) = some m := rfl
  by_cases h8 : 8 < m.length
  · refine ⟨true, ?_, fun h => by cases h⟩
    refine bind_loop_to (fun j => (j : Int)) 0 (.inr true) rfl (fun j hj => by omega) ?_ rfl
    exact bind_eq rfl <| bind_eq (dT (by simp)) <| bif_t rfl <| letJ_of <| bind_eq hg <| bind_eq rfl <| bind_eq (dT (by omega)) <| bind_eq (a := true) (bif_t rfl rfl) <| bind_eq (a := true) (bif_t rfl rfl) rfl
  by_cases hc : 8 < colsN m
  · refine ⟨true, ?_, fun h => by cases h⟩
    refine bind_loop_to (fun j => (j : Int)) 0 (.inr true) rfl (fun j hj => by omega) ?_ rfl
    exact bind_eq rfl <| bind_eq (dT (by simp)) <| bif_t rfl <| letJ_of <| bind_eq hg <| bind_eq rfl <| bind_eq (dF (by omega)) <| bind_eq (a := true) (bif_f rfl <| bind_eq hg <| bind_eq (rcols m (by omega)) <| bind_eq (dT (by omega)) rfl) <| bind_eq (a := true) (bif_t rfl rfl) rfl
  obtain ⟨b, hb, hs⟩ := long3_eq m (by omega)
  cases b
  · refine ⟨false, ?_, fun _ => ⟨by omega, fun v hv => ⟨?_, (hs rfl v hv).2⟩⟩⟩
    · refine bind_loop_to (fun j => (j : Int)) 1 (.inl ()) rfl (fun j hj => ?_) (bind_eq rfl <| bind_eq (dF (by simp)) <| bif_f rfl rfl) rfl
      obtain rfl : j = 0 := by omega
      exact bind_eq rfl <| bind_eq (dT (by simp)) <| bif_t rfl <| letJ_of <| bind_eq hg <| bind_eq rfl <| bind_eq (dF (by omega)) <| bind_eq (a := false) (bif_f rfl <| bind_eq hg <| bind_eq (rcols m (by omega)) <| bind_eq (dF (by omega)) rfl) <| bind_eq (a := false) (bif_f rfl <| bind_eq hg <| bind_eq hb rfl) <| bif_f rfl <| bind_eq (congrArg some (w64_succ (by omega))) rfl
    · have := colsN_le.1 (Nat.le_refl (colsN m)) v hv; omega
  · refine ⟨true, ?_, fun h => by cases h⟩
    refine bind_loop_to (fun j => (j : Int)) 0 (.inr true) rfl (fun j hj => by omega) ?_ rfl
    exact bind_eq rfl <| bind_eq (dT (by simp)) <| bif_t rfl <| letJ_of <| bind_eq hg <| bind_eq rfl <| bind_eq (dF (by omega)) <| bind_eq (a := false) (bif_f rfl <| bind_eq hg <| bind_eq (rcols m (by omega)) <| bind_eq (dF (by omega)) rfl) <| bind_eq (a := true) (bif_f rfl <| bind_eq hg <| bind_eq hb rfl) <| bif_t rfl rfl
theorem bare_eq (m : List (List Qr)) (h : m.length ≤ 1000) : law06_bare_m m = some (decide (∀ i, i < m.length → (m.getD i []).length = 0)) := by
  unfold law06_bare_m
  refine bind_eq (loop_scan (p := fun i => (m.getD i []).length = 0) (e := false) (n := m.length) (fun i hi => ?_) (bind_eq rfl <| bind_eq (dF (by omega)) <| bif_f rfl rfl)) ?_
  · refine bind_eq rfl <| bind_eq (dT (by omega)) <| bif_t rfl <| bind_eq (geti_nat (get_getD' (d := []) hi)) <| bind_eq rfl <| bind_eq rfl ?_
    by_cases hz : (m.getD i []).length = 0
    · rw [if_pos hz]; exact bif_f (decide_eq_false (by omega)) <| bind_eq (congrArg some (w64_succ (by omega))) rfl
    · rw [if_neg hz]; exact bif_t (decide_eq_true (by omega)) rfl
  · by_cases hp : ∀ i, i < m.length → (m.getD i []).length = 0
    · rw [if_pos hp, decide_eq_true hp]
    · rw [if_neg hp, decide_eq_false hp]
structure Sm6 (ob rw : List (List Qr)) (bd : List Qr) : Prop where
  lo : ob.length ≤ 6
  lr : rw.length ≤ 140
  lb : bd.length ≤ 140
  so : ∀ v ∈ ob, Sm8 v
  sr : ∀ v ∈ rw, Sm8 v
theorem long6_eq {n : Int} {ob rw : List (List Qr)} {bd : List Qr} (h1 : ob.length ≤ 9223372036854775806) (h2 : rw.length ≤ 9223372036854775806) (h3 : bd.length ≤ 9223372036854775806) : ∃ b, law06_Long_m ⟨n, ob, rw, bd⟩ = some b ∧ (b = false → Sm6 ob rw bd) := by
  unfold law06_Long_m
  obtain ⟨b1, e1, s1⟩ := long4_eq rw
  obtain ⟨b2, e2, s2⟩ := long4_eq ob
  have ecut : law06_cut_m bd = some (bd.take (min bd.length 20)) := by
    unfold law06_cut_m
    have hm : min (bd.length : Int) 20 = ((min bd.length 20 : Nat) : Int) := by omega
    refine bind_eq rfl <| bind_eq (congrArg some hm) <| bind_eq (subM_zero (by omega)) rfl
  obtain ⟨b3, e3, s3⟩ := long3_eq [bd.take (min bd.length 20)] (by simp)
  by_cases c1 : 6 < ob.length
  · exact ⟨true, letJ_of <| bind_eq rfl <| bind_eq (dT (by omega)) <| bind_eq (a := true) (bif_t rfl rfl) <| bind_eq (a := true) (bif_t rfl rfl) <| bind_eq (a := true) (bif_t rfl rfl) <| bind_eq (a := true) (bif_t rfl rfl) <| bind_eq (a := true) (bif_t rfl rfl) <| bind_eq (a := true) (bif_t rfl rfl) rfl, fun h => by cases h⟩
  by_cases c2 : 140 < rw.length
  · exact ⟨true, letJ_of <| bind_eq rfl <| bind_eq (dF (by omega)) <| bind_eq (a := true) (bif_f rfl <| bind_eq rfl <| bind_eq (dT (by omega)) rfl) <| bind_eq (a := true) (bif_t rfl rfl) <| bind_eq (a := true) (bif_t rfl rfl) <| bind_eq (a := true) (bif_t rfl rfl) <| bind_eq (a := true) (bif_t rfl rfl) <| bind_eq (a := true) (bif_t rfl rfl) rfl, fun h => by cases h⟩
  by_cases c3 : 140 < bd.length
  · exact ⟨true, letJ_of <| bind_eq rfl <| bind_eq (dF (by omega)) <| bind_eq (a := false) (bif_f rfl <| bind_eq rfl <| bind_eq (dF (by omega)) rfl) <| bind_eq (a := true) (bif_f rfl <| bind_eq rfl <| bind_eq (dT (by omega)) rfl) <| bind_eq (a := true) (bif_t rfl rfl) <| bind_eq (a := true) (bif_t rfl rfl) <| bind_eq (a := true) (bif_t rfl rfl) <| bind_eq (a := true) (bif_t rfl rfl) rfl, fun h => by cases h⟩
  have eb := bare_eq rw (by omega)
  by_cases c4 : 8 < rw.length
  · by_cases c5 : ∀ i, i < rw.length → (rw.getD i []).length = 0
    · rw [decide_eq_true c5] at eb
      refine ⟨_, letJ_of <| bind_eq rfl <| bind_eq (dF (by omega)) <| bind_eq (a := false) (bif_f rfl <| bind_eq rfl <| bind_eq (dF (by omega)) rfl) <| bind_eq (a := false) (bif_f rfl <| bind_eq rfl <| bind_eq (dF (by omega)) rfl) <| bind_eq (a := false) (bif_f rfl <| bind_eq rfl <| bind_eq (dT (by omega)) <| bind_eq (a := false) (bif_t rfl <| bind_eq eb <| bind_eq rfl rfl) rfl) <| bind_eq (a := false) (bif_f rfl <| bind_eq rfl <| bind_eq (dF (by omega)) <| bind_eq (a := false) (bif_f rfl rfl) rfl) <| orC (fun _ => bind_eq e2 rfl) <| orC (fun _ => bind_eq ecut <| bind_eq e3 rfl) rfl, fun h => ?_⟩
      simp only [Bool.false_or, Bool.or_eq_false_iff] at h
      refine ⟨by omega, by omega, by omega, (s2 h.1).2, fun v hv => ?_⟩
      obtain ⟨i, hi, rfl⟩ := List.getElem_of_mem hv
      have := c5 i hi
      rw [List.getD_eq_getElem?_getD, List.getElem?_eq_getElem hi] at this
      have h0 : rw[i] = [] := List.eq_nil_of_length_eq_zero this
      rw [h0]; exact ⟨by decide, by simp⟩
    · rw [decide_eq_false c5] at eb
      exact ⟨true, letJ_of <| bind_eq rfl <| bind_eq (dF (by omega)) <| bind_eq (a := false) (bif_f rfl <| bind_eq rfl <| bind_eq (dF (by omega)) rfl) <| bind_eq (a := false) (bif_f rfl <| bind_eq rfl <| bind_eq (dF (by omega)) rfl) <| bind_eq (a := true) (bif_f rfl <| bind_eq rfl <| bind_eq (dT (by omega)) <| bind_eq (a := true) (bif_t rfl <| bind_eq eb <| bind_eq rfl rfl) rfl) <| bind_eq (a := true) (bif_t rfl rfl) <| bind_eq (a := true) (bif_t rfl rfl) <| bind_eq (a := true) (bif_t rfl rfl) rfl, fun h => by cases h⟩
  · refine ⟨_, letJ_of <| bind_eq rfl <| bind_eq (dF (by omega)) <| bind_eq (a := false) (bif_f rfl <| bind_eq rfl <| bind_eq (dF (by omega)) rfl) <| bind_eq (a := false) (bif_f rfl <| bind_eq rfl <| bind_eq (dF (by omega)) rfl) <| bind_eq (a := false) (bif_f rfl <| bind_eq rfl <| bind_eq (dF (by omega)) <| bind_eq (a := false) (bif_f rfl rfl) rfl) <| orC (c := b1) (fun _ => bind_eq rfl <| bind_eq (dT (by omega)) <| bind_eq (a := b1) (bif_t rfl <| bind_eq e1 rfl) rfl) <| orC (fun _ => bind_eq e2 rfl) <| orC (fun _ => bind_eq ecut <| bind_eq e3 rfl) rfl, fun h => ?_⟩
    simp only [Bool.false_or, Bool.or_eq_false_iff] at h
    exact ⟨by omega, by omega, by omega, (s2 h.1.2).2, (s1 h.1.1).2⟩
end Go.Proofs.YtfoldppidpmchaaGreat
namespace Go.Proofs.YtfoldppidpmchaaGreat
open Go.Fw
theorem FQ.neg' {L : Nat} {x : Rat} (h : FQ L x) (h1 : 1 ≤ L) (hL : L ≤ 10000000000) : FQ L (-x) := ((h.rep h1).neg hL).2.fq
theorem cols_zero {L : Nat} {m : List (List Qr)} {F : Nat → Nat → Rat} (h : RepX L m F) {n : Nat} (hn : colsN m ≤ n) (i : Nat) {k : Nat} (hk : n ≤ k) : F i k = 0 := by
  refine (h.row i).z k ?_
  by_cases hi : i < m.length
  · have := colsN_le.1 hn _ (fromMem (get_getD' (d := []) hi)); omega
  · rw [getD_of_le' (by omega)]; exact Nat.zero_le _
theorem rneg0 : -(0 : Rat) = 0 := by decide
section dual
variable {K L M : Nat} {n : Int} {ob rw : List (List Qr)} {bd : List Qr} {O F : Nat → Nat → Rat} {g : Nat → Rat}
theorem dual_o (hb : RepV K bd g) (hK : K ≤ 10000000000) : RepX K [vq bd.length (fun i => - g i)] (fun i j => if i = 0 then - g j else 0) :=
  repx_one (vq_rep (fun i _ => (hb.fq i).neg' hb.l1 hK) (fun i hi => by rw [hb.z i hi]; exact rneg0) hb.l1)
theorem dual_r (hr : RepX L rw F) (hL : L ≤ 10000000000) (hv : Vld n ob rw bd) : RepX L (mq n.toNat (fun _ => rw.length) (fun k i => - F i k)) (fun k i => - F i k) := by
  unfold Vld at hv
  refine mq_rep (fun k _ i _ => ((hr.row i).fq k).neg' hr.l1 hL) (fun k _ i hi => by rw [hr.z i hi k]; exact rneg0) (fun k hk i => ?_) hr.l1
  rw [cols_zero hr (n := n.toNat) (by omega) i hk]; exact rneg0
theorem dual_b (ho : RepX M ob O) (hM : M ≤ 10000000000) (hv : Vld n ob rw bd) : RepV M (vq n.toNat (fun k => - O 0 k)) (fun k => - O 0 k) := by
  unfold Vld at hv
  refine vq_rep (fun k _ => ((ho.row 0).fq k).neg' ho.l1 hM) (fun k hk => ?_) ho.l1
  rw [cols_zero ho (n := n.toNat) (by omega) 0 hk]; exact rneg0
theorem dual_v (hv : Vld n ob rw bd) (h64 : rw.length ≤ 64) : Vld (rw.length : Int) [vq bd.length (fun i => - g i)] (mq n.toNat (fun _ => rw.length) (fun k i => - F i k)) (vq n.toNat (fun k => - O 0 k)) := by
  unfold Vld at hv ⊢
  refine ⟨by omega, by omega, by simp, by simp, by rw [mq_len]; omega, by rw [vq_len, mq_len], ?_, ?_⟩
  · have : colsN [vq bd.length (fun i => - g i)] ≤ rw.length := colsN_le.2 (fun v h => by rw [List.mem_singleton.1 h, vq_len]; omega)
    omega
  · have : colsN (mq n.toNat (fun _ => rw.length) (fun k i => - F i k)) ≤ rw.length := colsN_le.2 (fun v h => by
      obtain ⟨i, hi, rfl⟩ := List.mem_map.1 h
      rw [vq_len]; exact Nat.le_refl _)
    omega
end dual
theorem repv_cons {L : Nat} {v : List Qr} {f : Nat → Rat} {q : Qr} {x : Rat} (h : RepV L v f) (hq : Rep L q x) : RepV L (q :: v) (fun i => match i with | 0 => x | i + 1 => f i) := by
  refine ⟨fun i hi => ?_, fun i hi => ?_, h.l1⟩
  · match i, hi with
    | 0, _ => exact hq
    | i + 1, hi => exact h.e i (by simpa using hi)
  · match i, hi with
    | 0, hi => simp at hi
    | i + 1, hi => exact h.z i (by simpa using hi)
theorem fq_rep2 {n d : Int} (hn : i64ok n) (hd : i64ok d) (h0 : d ≠ 0) : Rep 2 (qn (Rat.divInt n d)) (Rat.divInt n d) := (rep_pair h0 (small_fit hn) (small_fit hd) (by decide)).fq.rep (by decide)
theorem alive6 : law06_alive_m = some true := by
  obtain ⟨eo, ro⟩ := mints (l := [[3, 5]]) (by decide) (by decide)
  obtain ⟨er, rr⟩ := mints (l := [[1, 0], [0, 2], [3, 2]]) (by decide) (by decide)
  obtain ⟨eb, rb⟩ := vints (l := [4, 12, 18]) (by decide) (by decide)
  obtain ⟨eo', ro'⟩ := mints (l := [[-4, -12, -18]]) (by decide) (by decide)
  obtain ⟨er', rr'⟩ := mints (l := [[-1, 0, -3], [0, -2, -2]]) (by decide) (by decide)
  obtain ⟨eb', rb'⟩ := vints (l := [-3, -5]) (by decide) (by decide)
  obtain ⟨ex, rx⟩ := vints (l := [2, 6]) (by decide) (by decide)
  obtain ⟨e36, r36⟩ := vints (l := [36]) (by decide) (by decide)
  obtain ⟨e36', r36'⟩ := vints (l := [-36]) (by decide) (by decide)
  obtain ⟨es, rs⟩ := vints (l := [2, 0, 0]) (by decide) (by decide)
  have e32 := rof_eq (n := 3) (d := 2) (by decide) (by decide) (by decide)
  have e1 := rint_eq (n := 1) (by decide)
  have r32 : Rep 2 (qn (Rat.divInt 3 2)) (Rat.divInt 3 2) := fq_rep2 (by decide) (by decide) (by decide)
  have r1 : Rep 2 (qn ((1 : Int) : Rat)) ((1 : Int) : Rat) := (fromInt64_eq (by decide)).2
  have ry := repv_cons (repv_cons (repv_cons (RepV.nil (L := 2) (by decide)) r1) r32) (rep_zero (L := 2) (by decide))
  generalize hmo : mq [[(3 : Int), 5]].length _ _ = mo at eo ro
  generalize hmr : mq [[(1 : Int), 0], [0, 2], [3, 2]].length _ _ = mr at er rr
  generalize hvb : vq [(4 : Int), 12, 18].length _ = vb at eb rb
  have lo : mo.length = 1 := by rw [← hmo, mq_len]; rfl
  have lr : mr.length = 3 := by rw [← hmr, mq_len]; rfl
  have lb : vb.length = 3 := by rw [← hvb, vq_len]; rfl
  have wo : ∀ v ∈ mo, v.length ≤ 2 := by rw [← hmo]; decide +kernel
  have wr : ∀ v ∈ mr, v.length ≤ 2 := by rw [← hmr]; decide +kernel
  have co : colsN mo ≤ 2 := colsN_le.2 wo
  have cr : colsN mr ≤ 2 := colsN_le.2 wr
  have hv : Vld 2 mo mr vb := ⟨by decide, by decide, by omega, by omega, by omega, by omega, by omega, by omega⟩
  have ed := dual_eq (n := 2) ro rr rb (by decide) (by decide) (by decide) hv (by omega)
  have do_ := dual_o rb (by decide)
  have dr := dual_r rr (by decide) hv
  have db := dual_b ro (by decide) hv
  have dv := dual_v (O := fun i j => ((([[3, 5]] : List (List Int)).getD i []).getD j 0 : Rat)) (F := fun i j => ((([[1, 0], [0, 2], [3, 2]] : List (List Int)).getD i []).getD j 0 : Rat)) (g := fun i => (([4, 12, 18] : List Int).getD i 0 : Rat)) hv (by omega)
  unfold dualP at ed
  have ev := valid_eq (n := 2) (ob := mo) (rw := mr) (bd := vb) (by omega) (by omega)
  rw [decide_eq_true hv] at ev
  have lx : (vq [(2 : Int), 6].length (fun i => (([2, 6] : List Int).getD i 0 : Rat))).length = 2 := vq_len _ _
  generalize vq [(2 : Int), 6].length _ = vx at ex rx lx
  have ef := feas_eq (n := 2) (ob := mo) (N := 2) rr rb rx (fun v hv => by have := wr v hv; omega) (by decide) (by decide) (by omega) (by omega) (by omega)
  rw [decide_eq_true (show Fsb 2 mo mr vb vx _ _ _ 2 from ⟨hv, by omega, by rw [lx]; decide +kernel, by rw [lr]; decide +kernel⟩)] at ef
  obtain ⟨ee, re⟩ := eval_eq (n := 2) (rw := mr) (bd := vb) (N := 2) ro rx (fun v hv => by have := wo v hv; omega) (by decide) (by omega)
  rw [lo] at ee re
  have c1 := veq re r36 (by decide)
  rw [vq_len, vq_len, decide_eq_true (by decide +kernel)] at c1
  obtain ⟨esl, fsl⟩ := slack_eq (n := 2) (ob := mo) (N := 2) rr rb rx (fun v hv => by have := wr v hv; omega) (by decide) (by decide) (by omega)
  rw [lr] at esl fsl
  have rsl := vq_repc fsl (by decide)
  have c2 := veq rsl rs (by decide)
  rw [vq_len, vq_len, decide_eq_true (by decide +kernel)] at c2
  rw [lb, lr] at ed
  rw [lb] at do_
  rw [lr] at dr
  rw [lb, lr] at dv
  have c3 := lequal (n := 3) (n' := 3) do_ dr db ro' rr' rb' (by decide) (by decide) (by decide) rfl (by rw [mq_len]; rfl) (by rw [mq_len, mq_len]; rfl) (by rw [vq_len, vq_len]; rfl) (fun i j => ?_) (fun i j => ?_) (fun i => ?_)
  · have ly : ([qz, qn (Rat.divInt 3 2), qn ((1 : Int) : Rat)] : List Qr).length = 3 := rfl
    have eg := feas_eq (n := 3) (N := 3) dr db ry (ob := [vq 3 (fun i => - (([4, 12, 18] : List Int).getD i 0 : Rat))]) (fun v hv => by rw [ly]; omega) (by decide) (by decide) (by simp) (by rw [mq_len]; decide) (by rw [ly]; decide)
    rw [decide_eq_true (show Fsb 3 _ _ _ _ _ _ _ 3 from ⟨dv, by rw [ly]; decide, by rw [ly]; decide +kernel, by rw [mq_len]; decide +kernel⟩)] at eg
    obtain ⟨eh, rh⟩ := eval_eq (n := 3) (rw := mq 2 (fun _ => 3) (fun k i => - ((([[1, 0], [0, 2], [3, 2]] : List (List Int)).getD i []).getD k 0 : Rat))) (bd := vq 2 (fun k => - ((([[3, 5]] : List (List Int)).getD 0 []).getD k 0 : Rat))) (N := 3) do_ ry (fun v hv => by rw [ly]; omega) (by decide) (by simp)
    have c4 := veq rh r36' (by decide)
    rw [vq_len, vq_len, decide_eq_true (by decide +kernel)] at c4
    unfold law06_alive_m law06_Small_m
    generalize qn (Rat.divInt 3 2) = q32 at *
    generalize qn ((1 : Int) : Rat) = q1 at *
    refine bind_eq (bind_eq eo <| bind_eq er <| bind_eq eb rfl) <| bind_eq ed <| bind_eq eo' <| bind_eq er' <| bind_eq eb' <| bind_eq ex <| bind_eq e32 <| bind_eq e1 <| letJ_of ?_
    exact bind_eq ev <| andT (bind_eq ef rfl) <| andT (bind_eq ee <| bind_eq e36 <| bind_eq c1 rfl) <| andT (bind_eq esl <| bind_eq es <| bind_eq c2 rfl) <| andT (bind_eq (dT rfl) rfl) <| andT (bind_eq c3 rfl) <| andT (bind_eq eg rfl) <| andT (bind_eq eh <| bind_eq e36' <| bind_eq c4 rfl) rfl
  · match i with
    | 0 =>
      match j with
      | 0 => decide +kernel
      | 1 => decide +kernel
      | 2 => decide +kernel
      | j + 3 => simp only [List.getD_cons_succ, List.getD_cons_zero, List.getD_nil, if_true]; decide
    | i + 1 => simp only [List.getD_cons_succ, List.getD_nil]; rw [if_neg (by omega)]; rfl
  · match j with
    | 0 =>
      match i with
      | 0 => decide +kernel
      | 1 => decide +kernel
      | i + 2 => simp only [List.getD_cons_succ, List.getD_cons_zero, List.getD_nil]; decide
    | 1 =>
      match i with
      | 0 => decide +kernel
      | 1 => decide +kernel
      | i + 2 => simp only [List.getD_cons_succ, List.getD_cons_zero, List.getD_nil]; decide
    | 2 =>
      match i with
      | 0 => decide +kernel
      | 1 => decide +kernel
      | i + 2 => simp only [List.getD_cons_succ, List.getD_cons_zero, List.getD_nil]; decide
    | j + 3 =>
      match i with
      | 0 => simp only [List.getD_cons_succ, List.getD_cons_zero, List.getD_nil]; decide
      | 1 => simp only [List.getD_cons_succ, List.getD_cons_zero, List.getD_nil]; decide
      | i + 2 => simp only [List.getD_cons_succ, List.getD_cons_zero, List.getD_nil]; decide
  · match i with
    | 0 => decide +kernel
    | 1 => decide +kernel
    | i + 2 => simp only [List.getD_cons_succ, List.getD_cons_zero, List.getD_nil]; decide
end Go.Proofs.YtfoldppidpmchaaGreat
namespace Go.Proofs.YtfoldppidpmchaaGreat
open Go.Fw
abbrev OkM (m : List (List Qr)) : Prop := m.length ≤ 9223372036854775807 ∧ ∀ v ∈ m, OkV v
abbrev OkL (p : Lr) : Prop := i64ok p.vars ∧ OkM p.objs ∧ OkM p.rows ∧ OkV p.bounds
abbrev szL (p : Lr) : Nat := 1 + szM p.objs + szM p.rows + szV p.bounds + 1
theorem len_sum {α : Type} (f : α → Nat) (h : ∀ x, 1 ≤ f x) : ∀ l : List α, l.length ≤ (l.map f).sum
  | [] => Nat.le_refl _
  | x :: l => by rw [List.map_cons, List.sum_cons, List.length_cons]; have := len_sum f h l; have := h x; omega
theorem szM_len (m : List (List Qr)) : m.length ≤ szM m := by have := len_sum (fun x => szV x) (fun x => by show 1 ≤ _ + 1; omega) m; show _ ≤ _ + 1; omega
theorem szV_len (v : List Qr) : v.length ≤ szV v := by have := len_sum (fun x => szQ x) (fun x => by show 1 ≤ _ + 1; omega) v; show _ ≤ _ + 1; omega
theorem repx6 {m : List (List Qr)} (h : OkM m) (s : ∀ v ∈ m, Sm8 v) : RepX 6 m (mval m) :=
  repx_of (fun v hv => repv_of (fun q hq => rep_of ((h.2 v hv).2 q hq) ((s v hv).2 q hq).1 ((s v hv).2 q hq).2 (by decide)) (by decide)) (by decide)
theorem repv6 {v : List Qr} (h : OkV v) (s : Sml v) : RepV 6 v (vval v) := repv_of (fun q hq => rep_of (h.2 q hq) (s.2 q hq).1 (s.2 q hq).2 (by decide)) (by decide)
theorem al6 : (law06_alive_m.bind fun x => some x) = some true := bind_eq alive6 rfl
theorem sumQ_neg (h : Nat → Rat) (n : Nat) : sumQ (fun i => - h i) n = - sumQ h n := by
  rw [sumQ_congr (k := fun i => (-1 : Rat) * h i) (fun i _ => by grind), sumQ_mul]; grind
section made
variable {K L M : Nat} {n : Int} {ob rw : List (List Qr)} {bd x : List Qr} {O F : Nat → Nat → Rat} {g f : Nat → Rat}
end made
end Go.Proofs.YtfoldppidpmchaaGreat
namespace Go.Proofs.YtfoldppidpmchaaGreat
open Go.Fw
theorem lexP_rng (f g : Nat → Rat) : ∀ n, lexQ f g n = -1 ∨ lexQ f g n = 0 ∨ lexQ f g n = 1
  | 0 => .inr (.inl rfl)
  | n + 1 => by
    rw [lexQ]
    split
    · exact lexP_rng f g n
    · rcases rtri (f n) (g n) with h | h | h
      · exact .inl (cmpQ_lt h)
      · rw [h, cmpQ_self]; exact .inr (.inl rfl)
      · exact .inr (.inr (cmpQ_gt h))
theorem lexP_flip (f g : Nat → Rat) : ∀ n, lexQ g f n = - lexQ f g n
  | 0 => rfl
  | n + 1 => by
    have ih := lexP_flip f g n
    rw [lexQ, lexQ]
    by_cases h : lexQ g f n = 0
    · have h' : lexQ f g n = 0 := by omega
      rw [if_neg (by simpa using h), if_neg (by simpa using h')]
      rcases rtri (f n) (g n) with q | q | q
      · rw [cmpQ_lt q, cmpQ_gt q]; rfl
      · rw [q, cmpQ_self]; rfl
      · rw [cmpQ_lt q, cmpQ_gt q]
    · have h' : lexQ f g n ≠ 0 := by omega
      rw [if_pos h, if_pos h', ih]
theorem resz {L : Nat} {v : List Qr} {f : Nat → Rat} (h : RepV L v f) (hL : L ≤ 10000000000) (hn : v.length ≤ 1000) : vec_Resize_m v (v.length : Int) = some (vq v.length f) := by
  rw [vresize h hL (by omega)]
  rw [show (min (v.length : Int) 65536).toNat = v.length by omega]
theorem repx_app {L : Nat} {m m' : List (List Qr)} {F G : Nat → Nat → Rat} (h : RepX L m F) (k : RepX L m' G) : RepX L (m ++ m') (fun i => if i < m.length then F i else G (i - m.length)) := by
  refine ⟨fun i v e => ?_, fun i hi j => ?_, h.l1⟩
  · show RepV L v (if i < m.length then F i else G (i - m.length))
    by_cases hi : i < m.length
    · rw [if_pos hi]; rw [List.getElem?_append_left hi] at e; exact h.e i v e
    · rw [if_neg hi]; rw [List.getElem?_append_right (by omega)] at e; exact k.e _ v e
  · show (if i < m.length then F i else G (i - m.length)) j = 0
    rw [List.length_append] at hi
    rw [if_neg (by omega)]; exact k.z _ (by omega) j
theorem repv_app {L : Nat} {u v : List Qr} {f h : Nat → Rat} (hu : RepV L u f) (hv : RepV L v h) : RepV L (u ++ v) (fun i => if i < u.length then f i else h (i - u.length)) := by
  refine ⟨fun i hi => ?_, fun i hi => ?_, hu.l1⟩
  · show Rep L (u ++ v)[i] (if i < u.length then f i else h (i - u.length))
    by_cases q : i < u.length
    · rw [if_pos q, List.getElem_append_left q]; exact hu.e i q
    · rw [if_neg q, List.getElem_append_right (by omega)]; exact hv.e _ (by rw [List.length_append] at hi; omega)
  · show (if i < u.length then f i else h (i - u.length)) = 0
    rw [List.length_append] at hi
    rw [if_neg (by omega)]; exact hv.z _ (by omega)
section ext
variable {K L M N : Nat} {n : Int} {ob rw : List (List Qr)} {bd x : List Qr} {O F : Nat → Nat → Rat} {g f : Nat → Rat}
theorem copyS_eq (ho : RepX M ob O) (hr : RepX L rw F) (hb : RepV K bd g) (hM : M ≤ 3000000000) (hL : L ≤ 3000000000) (hK : K ≤ 3000000000) (l1 : ob.length ≤ 1000000) (l2 : rw.length ≤ 1000000) (l3 : bd.length ≤ 1000000) (w1 : ∀ v ∈ ob, v.length ≤ 1000000) (w2 : ∀ v ∈ rw, v.length ≤ 1000000) :
    lp_copyOfS_m ⟨n, ob, rw, bd⟩ = some (n, mq ob.length (fun i => (ob.getD i []).length) O, mq rw.length (fun i => (rw.getD i []).length) F, vq bd.length g) := by
  have hone : ∀ x : Rat, (((1 : Int) : Rat)) * x = x := fun x => by
    have : (((1 : Int) : Rat)) = 1 := by decide
    rw [this]; grind
  obtain ⟨c, e1, r1⟩ := int' (n := 1) (by decide)
  have e2 := (mscale r1 ho (by omega) l1 w1).1
  have e3 := (mscale r1 hr (by omega) l2 w2).1
  have e4 := (vscale r1 hb (by omega) l3).1
  rw [mq_congr (G := O) (fun i _ => ⟨rfl, fun k _ => hone _⟩)] at e2
  rw [mq_congr (G := F) (fun i _ => ⟨rfl, fun k _ => hone _⟩)] at e3
  rw [vq_congr (fun i _ => hone _)] at e4
  have e3' : mat_ScaleN_m c rw = some (mq rw.length (fun i => (rw.getD i []).length) F) := by rw [← e3]; rfl
  have e4' : vec_ScaleN_m c bd = some (vq bd.length g) := by rw [← e4]; rfl
  unfold lp_copyOfS_m
  exact bind_eq e1 <| bind_eq e2 <| bind_eq e3' <| bind_eq e4' rfl
structure Cons (l : List Cn) (ln : Nat → Nat) (R : Nat → Nat → Rat) (b : Nat → Rat) : Prop where
  c : ∀ i y, l[i]? = some y → y.row.length = ln i ∧ RepV 12 y.row (R i) ∧ Rep 12 y.most (b i) ∧ ln i ≤ 1000
  n : l.length ≤ 2
def ExtC (n : Int) (ob rw : List (List Qr)) (bd : List Qr) (l : List Cn) (ln : Nat → Nat) : Prop := Vld n ob rw bd ∧ rw.length + l.length ≤ 128 ∧ ∀ i, i < l.length → (ln i : Int) ≤ n
instance (n : Int) (ob rw : List (List Qr)) (bd : List Qr) (l : List Cn) (ln : Nat → Nat) : Decidable (ExtC n ob rw bd l ln) := by unfold ExtC; exact inferInstance
def extP (n : Int) (ob rw : List (List Qr)) (bd : List Qr) (O F : Nat → Nat → Rat) (g : Nat → Rat) (m : Nat) (ln : Nat → Nat) (R : Nat → Nat → Rat) (b : Nat → Rat) : Lr :=
  ⟨n, mq ob.length (fun i => (ob.getD i []).length) O, mq rw.length (fun i => (rw.getD i []).length) F ++ mq m ln R, vq bd.length g ++ vq m b⟩
theorem ext_eq {l : List Cn} {ln : Nat → Nat} {R : Nat → Nat → Rat} {b : Nat → Rat} (hc : Cons l ln R b) (ho : RepX M ob O) (hr : RepX L rw F) (hb : RepV K bd g) (hM : M ≤ 3000000000) (hL : L ≤ 3000000000) (hK : K ≤ 3000000000) (l1 : ob.length ≤ 1000) (l2 : rw.length ≤ 1000) :
    lp_extend_m ⟨n, ob, rw, bd⟩ l = some (if ExtC n ob rw bd l ln then (extP n ob rw bd O F g l.length ln R b, 0) else (⟨0, [], [], []⟩, 1)) := by
  have hn := hc.n
  have hw : IntKind.i64.wrap ((rw.length : Int) + (l.length : Int)) = ((rw.length + l.length : Nat) : Int) := w64_add (by omega)
  unfold lp_extend_m
  refine letJ_of <| bind_eq (valid_eq (by omega) (by omega)) <| bind_eq rfl <| orC (fun _ => bind_eq rfl <| bind_eq rfl <| bind_eq (congrArg some hw) <| bind_eq rfl rfl) <| bif_c (fun h => ?_) (fun h => ?_)
  · simp only [Bool.or_eq_true, Bool.not_eq_true', decide_eq_true_eq, decide_eq_false_iff_not] at h
    rw [if_neg (fun q => ?_)]
    unfold ExtC at q
    rcases h with h | h
    · exact h q.1
    · omega
  · simp only [Bool.or_eq_false_iff, Bool.not_eq_false', decide_eq_true_eq, decide_eq_false_iff_not] at h
    obtain ⟨hv, h128⟩ := h
    have hv' := hv
    unfold Vld at hv'
    have hw1 : ∀ v ∈ ob, v.length ≤ 64 := fun v hm => by have := colsN_le.1 (Nat.le_refl (colsN ob)) v hm; omega
    have hw2 : ∀ v ∈ rw, v.length ≤ 64 := fun v hm => by have := colsN_le.1 (Nat.le_refl (colsN rw)) v hm; omega
    refine bind_eq rfl ?_
    have scan := loop_scan (body := fun (y26l6 : Int) => (show Option ((Int) ⊕ ((Unit) ⊕ (Lr × Int))) from (some (decide ((y26l6 : Int) < (l.length : Int)))).bind fun x27 => (bif x27 then (geti l y26l6).bind fun ⟨x28_0, ⟨⟨x28_1, x28_2⟩, ⟨x28_3, x28_4⟩⟩⟩ => (some (x28_0.length : Int)).bind fun x32 => (some (decide ((n : Int) < x32))).bind fun x35 => (bif x35 then some (.inr (.inr (⟨0, [], [], []⟩, 1))) else (some (IntKind.i64.wrap (y26l6 + 1))).bind fun x37 => some (.inl x37)) else some (.inr (.inl ()))))) (n := l.length) (p := fun i => (ln i : Int) ≤ n) (e := (⟨0, [], [], []⟩, 1)) (fun k hk => by
      have gk := List.getElem?_eq_getElem hk
      obtain ⟨q1, -, -, -⟩ := hc.c k _ gk
      generalize l[k] = y at gk q1
      by_cases hp : (ln k : Int) ≤ n
      · rw [if_pos hp]
        exact bind_eq (dT (by omega)) <| bif_t rfl <| bind_eq (geti_nat gk) <| bind_eq rfl <| bind_eq (dF (by omega)) <| bif_f rfl <| bind_eq (congrArg some (w64_succ (by omega))) rfl
      · rw [if_neg hp]
        exact bind_eq (dT (by omega)) <| bif_t rfl <| bind_eq (geti_nat gk) <| bind_eq rfl <| bind_eq (dT (by omega)) <| bif_t rfl rfl) (bind_eq (dF (by omega)) <| bif_f rfl rfl)
    refine bind_eq scan ?_
    by_cases hp : ∀ i, i < l.length → (ln i : Int) ≤ n
    · rw [if_pos hp, if_pos (show ExtC n ob rw bd l ln from ⟨hv, by omega, hp⟩)]
      have ec := copyS_eq (n := n) ho hr hb hM hL hK (by omega) (by omega) (by omega) (fun v hm => by have := hw1 v hm; omega) (fun v hm => by have := hw2 v hm; omega)
      refine bind_eq ec <| bind_eq rfl ?_
      have lR : (mq rw.length (fun i => (rw.getD i []).length) F).length = rw.length := mq_len _ _ _
      have lB : (vq bd.length g).length = bd.length := vq_len _ _
      unfold extP
      generalize mq rw.length (fun i => (rw.getD i []).length) F = A at *
      generalize vq bd.length g = B at *
      refine bind_loop_to (fun j => ((j : Int), A ++ mq j ln R, B ++ vq j b)) l.length (A ++ mq l.length ln R, B ++ vq l.length b) (by simp [mq, vq_zero]) (fun j hj => ?_) ?_ rfl
      · have gk := List.getElem?_eq_getElem hj
        obtain ⟨q1, q2, q3, q4⟩ := hc.c j _ gk
        generalize l[j] = y at gk q1 q2 q3
        have k1 := resz q2 (by decide) (by omega)
        have k2 := (q3.canon (by decide)).1
        rw [q1] at k1
        have a1 : apM 24 (A ++ mq j ln R) [vq (ln j) (R j)] = some (A ++ mq (j + 1) ln R) := by
          rw [apM1 (by decide) (by rw [List.length_append, mq_len]; omega), List.append_assoc]
          unfold mq; rw [List.range_succ, List.map_append]; rfl
        have a2 : apM 64 (B ++ vq j b) [qn (b j)] = some (B ++ vq (j + 1) b) := by
          rw [apM1 (by decide) (by rw [List.length_append, vq_len]; omega), List.append_assoc, vq_succ]
        have hlen : ((y.row.length : Nat) : Int) = ((ln j : Nat) : Int) := by rw [q1]
        clear q2 q3
        generalize qn (b j) = q at *
        exact bind_eq (dT (by omega)) <| bif_t rfl <| bind_eq (geti_nat gk) <| bind_eq (congrArg some hlen) <| bind_eq k1 <| bind_eq a1 <| bind_eq k2 <| bind_eq a2 <| bind_eq (congrArg some (w64_succ (by omega))) rfl
      · exact bind_eq (dF (by omega)) <| bif_f rfl rfl
    · rw [if_neg hp, if_neg (fun q => hp q.2.2)]
theorem ext_vld {l : List Cn} {ln : Nat → Nat} {R : Nat → Nat → Rat} {b : Nat → Rat} (h : ExtC n ob rw bd l ln) : Vld n (extP n ob rw bd O F g l.length ln R b).objs (extP n ob rw bd O F g l.length ln R b).rows (extP n ob rw bd O F g l.length ln R b).bounds := by
  obtain ⟨hv, h1, h2⟩ := h
  unfold Vld at hv
  show Vld n (mq ob.length (fun i => (ob.getD i []).length) O) (mq rw.length (fun i => (rw.getD i []).length) F ++ mq l.length ln R) (vq bd.length g ++ vq l.length b)
  have c1 : colsN (mq ob.length (fun i => (ob.getD i []).length) O) ≤ n.toNat := colsN_le.2 fun v hm => by
    obtain ⟨i, hi, rfl⟩ := List.mem_map.1 hm
    rw [vq_len]
    show (ob.getD i []).length ≤ n.toNat
    have := colsN_le.1 (Nat.le_refl (colsN ob)) _ (List.mem_of_getElem? (get_getD' (d := []) (List.mem_range.1 hi)))
    omega
  have c2 : colsN (mq rw.length (fun i => (rw.getD i []).length) F ++ mq l.length ln R) ≤ n.toNat := colsN_le.2 fun v hm => by
    rcases List.mem_append.1 hm with hm | hm
    · obtain ⟨i, hi, rfl⟩ := List.mem_map.1 hm
      rw [vq_len]
      show (rw.getD i []).length ≤ n.toNat
      have := colsN_le.1 (Nat.le_refl (colsN rw)) _ (List.mem_of_getElem? (get_getD' (d := []) (List.mem_range.1 hi)))
      omega
    · obtain ⟨i, hi, rfl⟩ := List.mem_map.1 hm
      rw [vq_len]
      have := h2 i (List.mem_range.1 hi)
      omega
  unfold Vld
  rw [mq_len, List.length_append, mq_len, mq_len, List.length_append, vq_len, vq_len]
  omega
theorem ext_feas {l : List Cn} {ln : Nat → Nat} {R : Nat → Nat → Rat} {b : Nat → Rat} (hc : Cons l ln R b) (h : ExtC n ob rw bd l ln) (hr : RepX L rw F) (hb : RepV K bd g) (hx : RepV 6 x f) (hL : L ≤ 2000000) (hK : K ≤ 2000000) (hx2 : x.length ≤ 20) (hL12 : 12 ≤ L) (hK12 : 12 ≤ K) :
    lp_Feasible_m (extP n ob rw bd O F g l.length ln R b) x = some (decide (Fsb n ob rw bd x F g f 20 ∧ ∀ i, i < l.length → sumQ (fun j => R i j * f j) 20 ≤ b i)) := by
  have hv2 := ext_vld (O := O) (F := F) (g := g) (R := R) (b := b) h
  obtain ⟨hv, h1, h2⟩ := h
  have hv' := hv
  unfold Vld at hv'
  have rA : RepX L (mq rw.length (fun i => (rw.getD i []).length) F) F := mq_rep (fun i _ k _ => (hr.row i).fq k) (fun i _ => (hr.row i).z) hr.z hr.l1
  have hcR : ∀ i, i < l.length → RepV 12 (vq (ln i) (R i)) (R i) := fun i hi => by
    obtain ⟨q1, q2, -, -⟩ := hc.c i _ (List.getElem?_eq_getElem hi)
    exact vq_rep (fun j _ => q2.fq j) (fun j hj => q2.z j (by omega)) (by decide)
  have hcB : ∀ i, i < l.length → FQ 12 (b i) := fun i hi => (hc.c i _ (List.getElem?_eq_getElem hi)).2.2.1.fq
  have rB : RepX L (mq l.length ln R) (fun i => if i < l.length then R i else fun _ => 0) := by
    refine ⟨fun i v e => ?_, fun i hi k => ?_, hr.l1⟩
    · have hi : i < l.length := by have := (List.getElem?_eq_some_iff.1 e).1; rw [mq_len] at this; exact this
      rw [mq_get hi] at e
      rw [← Option.some.inj e]
      show RepV L _ (if i < l.length then R i else fun _ => 0)
      rw [if_pos hi]; exact (hcR i hi).mono hL12
    · rw [mq_len] at hi
      show (if i < l.length then R i else fun _ => 0) k = 0
      rw [if_neg (by omega)]
  have sA : RepV K (vq bd.length g) g := vq_rep (fun i _ => hb.fq i) hb.z hb.l1
  have sB : RepV K (vq l.length b) (cutQ l.length b) := vq_repc (fun i hi => (hcB i hi).mono hK12) hb.l1
  have rr := repx_app rA rB
  have ss := repv_app sA sB
  unfold extP at hv2 ⊢
  have e := feas_eq (n := n) (ob := mq ob.length (fun i => (ob.getD i []).length) O) (N := 20) rr ss hx (fun v _ => by omega) (by omega) (by omega) (by rw [mq_len]; omega) (by rw [List.length_append, mq_len, mq_len]; omega) (by omega)
  rw [e]
  congr 1
  rw [decide_eq_decide]
  unfold Fsb
  rw [List.length_append, mq_len, mq_len, vq_len]
  constructor
  · rintro ⟨-, k1, k2, k3⟩
    refine ⟨⟨hv, k1, k2, fun i hi => ?_⟩, fun i hi => ?_⟩
    · have := k3 i (by omega)
      dsimp only at this
      rw [if_pos hi, if_pos (by omega)] at this; exact this
    · have := k3 (rw.length + i) (by omega)
      dsimp only at this
      rw [if_neg (show ¬ rw.length + i < rw.length by omega), show rw.length + i - rw.length = i by omega, if_pos hi, if_neg (show ¬ rw.length + i < bd.length by omega), show rw.length + i - bd.length = i by omega, cutQ_of hi] at this; exact this
  · rintro ⟨⟨-, k1, k2, k3⟩, k4⟩
    refine ⟨hv2, k1, k2, fun i hi => ?_⟩
    dsimp only
    by_cases q : i < rw.length
    · rw [if_pos q, if_pos (by omega)]; exact k3 i q
    · rw [if_neg q, if_pos (show i - rw.length < l.length by omega), if_neg (show ¬ i < bd.length by omega), show i - bd.length = i - rw.length by omega, cutQ_of (show i - rw.length < l.length by omega)]
      exact k4 _ (by omega)
end ext
theorem gtQ_none {f g : Nat → Rat} : ∀ {n : Nat}, (∀ i, i < n → f i ≤ g i) → gtQ f g n = none
  | 0, _ => rfl
  | n + 1, h => by
    rw [gtQ, gtQ_none (fun i hi => h i (by omega))]
    have := h n (by omega)
    show (if g n < f n then some n else none) = none
    rw [if_neg (by grind)]
theorem cons1_iff {P : Prop} [Decidable P] {r f : Nat → Rat} {m : Rat} {k : Nat} (hk : k = 1) : decide (P ∧ ∀ i, i < k → sumQ (fun j => (fun _ => r) i j * f j) 20 ≤ (fun _ => m) i) = (decide P && decide (sumQ (fun j => r j * f j) 20 ≤ m)) := by
  rw [← Bool.decide_and, decide_eq_decide, hk]
  exact ⟨fun q => ⟨q.1, q.2 0 (by decide)⟩, fun q => ⟨q.1, fun i hi => q.2⟩⟩
theorem cons2_iff {P : Prop} [Decidable P] {r f : Nat → Rat} {m : Rat} {k : Nat} (hk : k = 2) : decide (P ∧ ∀ i, i < k → sumQ (fun j => (fun i => if i = 0 then r else fun j => - r j) i j * f j) 20 ≤ (fun i => if i = 0 then m else - m) i) = (decide P && decide (sumQ (fun j => r j * f j) 20 = m)) := by
  rw [← Bool.decide_and, decide_eq_decide, hk]
  have hneg : sumQ (fun j => - r j * f j) 20 = - sumQ (fun j => r j * f j) 20 := by
    rw [← sumQ_neg]
    congr 1
    funext j; grind
  constructor
  · rintro ⟨q1, q2⟩
    have a : sumQ (fun j => r j * f j) 20 ≤ m := q2 0 (by decide)
    have b : sumQ (fun j => - r j * f j) 20 ≤ - m := q2 1 (by decide)
    rw [hneg] at b
    exact ⟨q1, by grind⟩
  · rintro ⟨q1, q2⟩
    refine ⟨q1, fun i hi => ?_⟩
    have : i = 0 ∨ i = 1 := by omega
    rcases this with rfl | rfl
    · show sumQ (fun j => r j * f j) 20 ≤ m
      grind
    · show sumQ (fun j => - r j * f j) 20 ≤ - m
      rw [hneg]; grind
theorem hbb (b : Bool) : (some (!(b == b)) : Option Bool) = some false := by cases b <;> rfl
theorem cmp_le {x y : Rat} : decide (cmpQ x y ≤ 0) = decide (x ≤ y) := by
  rw [decide_eq_decide]
  rcases rtri x y with q | q | q
  · rw [cmpQ_lt q]; exact ⟨fun _ => by grind, fun _ => by decide⟩
  · rw [q, cmpQ_self]; exact ⟨fun _ => by grind, fun _ => by decide⟩
  · rw [cmpQ_gt q]; exact ⟨fun e => absurd e (by decide), fun e => by grind⟩
theorem constraints_law (p : Lr) (x y row : List Qr) (most : Qr) (op : OkL p) (ox : OkV x) (oy : OkV y) (orw : OkV row) (om : OkQ most) (hs : szL p + szV x + szV y + szV row + szQ most ≤ 1048576) : law06_LpConstraints_m p x y row most = some true := by
  obtain ⟨n, ob, rw, bd⟩ := p
  obtain ⟨on, oo, or_, ob_⟩ := op
  replace oo : OkM ob := oo
  replace or_ : OkM rw := or_
  replace ob_ : OkV bd := ob_
  have z1 := szM_len ob
  have z2 := szM_len rw
  have z3 := szV_len bd
  replace hs : 1 + szM ob + szM rw + szV bd + 1 + szV x + szV y + szV row + szQ most ≤ 1048576 := hs
  obtain ⟨b1, e1, s1⟩ := long6_eq (n := n) (ob := ob) (rw := rw) (bd := bd) (by omega) (by omega) (by omega)
  obtain ⟨b2, e2, s2⟩ := long3_eq [x, y, row] (by simp)
  obtain ⟨b3, e3, s3⟩ := long2_eq [most] (by simp)
  unfold law06_LpConstraints_m
  refine letJ_of <| bind_eq e1 <| orC (fun _ => bind_eq e2 rfl) <| orC (fun _ => bind_eq e3 rfl) <| bif_c (fun _ => al6) (fun hb => ?_)
  simp only [Bool.or_eq_false_iff] at hb
  obtain ⟨⟨hb1, hb2⟩, hb3⟩ := hb
  have s1 := s1 hb1
  have sx := s2 hb2 x (by simp)
  have sy := s2 hb2 y (by simp)
  have srw := s2 hb2 row (by simp)
  have sm := s3 hb3 most (by simp)
  have ro := repx6 oo s1.so
  have rr := repx6 or_ s1.sr
  have rb := repvu ob_ (by omega)
  have rx := repv6 ox sx
  have ry := repv6 oy sy
  have rrw := repv6 orw srw
  have rm : Rep 6 most (qv most) := rep_of om sm.1 sm.2 (by decide)
  have lx := sx.1
  have ly := sy.1
  have lr := srw.1
  have lo := s1.lo
  have lrw := s1.lr
  have lbd := s1.lb
  clear s1 s2 s3 sx sy srw sm oo or_ ob_ ox oy orw om e1 e2 e3
  generalize mval ob = O at ro
  generalize mval rw = F at rr
  generalize vval bd = g at rb
  generalize vval x = f at rx
  generalize vval y = h at ry
  generalize vval row = r at rrw
  generalize qv most = m at rm
  obtain ⟨c, em1, rc⟩ := int' (n := -1) (by decide)
  have hm1 : ∀ x : Rat, (((-1 : Int) : Rat)) * x = - x := fun x => by
    have : (((-1 : Int) : Rat)) = -1 := by decide
    rw [this]; grind
  obtain ⟨es, rs⟩ := vscale rc rrw (by decide) (by omega)
  obtain ⟨en, rn⟩ := rm.neg (by decide)
  rw [vq_congr (fun i _ => hm1 _)] at es
  have rs' : RepV 12 (vq row.length fun i => - r i) (fun i => - r i) := vq_rep (fun i _ => ((rrw.fq i).neg).mono (by decide)) (fun i hi => by rw [rrw.z i hi]; decide) (by decide)
  have c1 : Cons [⟨row, most⟩] (fun _ => row.length) (fun _ => r) (fun _ => m) := ⟨fun i y e => by
    have : i = 0 := by have := (List.getElem?_eq_some_iff.1 e).1; simp at this; exact this
    subst this
    have : y = ⟨row, most⟩ := by simpa using e.symm
    subst this
    exact ⟨rfl, rrw.mono (by decide), rm.mono (by decide), by omega⟩, by simp⟩
  have c2 : Cons [⟨row, most⟩, ⟨vq row.length fun i => - r i, qn (-m)⟩] (fun _ => row.length) (fun i => if i = 0 then r else fun j => - r j) (fun i => if i = 0 then m else - m) := ⟨fun i y e => by
    have : i = 0 ∨ i = 1 := by have := (List.getElem?_eq_some_iff.1 e).1; simp at this; omega
    rcases this with rfl | rfl
    · have : y = ⟨row, most⟩ := by simpa using e.symm
      subst this
      exact ⟨rfl, rrw.mono (by decide), rm.mono (by decide), by omega⟩
    · have : y = ⟨vq row.length fun i => - r i, qn (-m)⟩ := by simpa using e.symm
      subst this
      exact ⟨vq_len _ _, rs', rn.mono (by decide), by omega⟩, by simp⟩
  have x1 := ext_eq (n := n) c1 ro rr rb (by decide) (by decide) (by decide) (by omega) (by omega)
  have x2 := ext_eq (n := n) c2 ro rr rb (by decide) (by decide) (by decide) (by omega) (by omega)
  have rr12 : RepX 12 rw F := rr.mono (by decide)
  have f1 := fun hE => ext_feas (O := O) c1 (n := n) (ob := ob) (rw := rw) (bd := bd) hE rr12 rb rx (by decide) (by decide) (by omega) (by decide) (by decide)
  have f2 := fun hE => ext_feas (O := O) c2 (n := n) (ob := ob) (rw := rw) (bd := bd) hE rr12 rb rx (by decide) (by decide) (by omega) (by decide) (by decide)
  have fp := feas_eq (n := n) (ob := ob) (N := 20) rr rb rx (fun v _ => by omega) (by decide) (by decide) (by omega) (by omega) (by omega)
  obtain ⟨ed, rd⟩ := vdot rrw rx (Nat.le_trans (Nat.mul_le_mul_right _ (show min row.length x.length + 2 ≤ 22 by omega)) (by decide))
  rw [sum_cut rrw rx (show min row.length x.length ≤ 20 by omega)] at ed rd
  replace rd := rd.mono (show _ ≤ 300 from Nat.le_trans (Nat.add_le_add_right (Nat.mul_le_mul_right _ (show min row.length x.length ≤ 20 by omega)) 1) (by decide))
  have ecm := rd.cmp rm (by decide)
  have eeq := rd.eq rm (by decide)
  have f1 := fun hE => (f1 hE).trans (congrArg some (cons1_iff rfl))
  have f2 := fun hE => (f2 hE).trans (congrArg some (cons2_iff rfl))
  have hle := cmp_le (x := sumQ (fun i => r i * f i) 20) (y := m)
  obtain ⟨esl, fsl⟩ := slack_eq (n := n) (ob := ob) (N := 20) rr rb rx (fun v _ => by omega) (by decide) (by decide) (by omega)
  have rsl := vq_repc (L := 1048838) (fun i hi => (fsl i hi).mono (by decide)) (by decide)
  have efg := vgt (RepV.nil (L := 1) (by decide)) rsl (by decide) (by simp) (by rw [vq_len]; omega)
  have hnone : Fsb n ob rw bd x F g f 20 → gtQ (fun _ => 0) (cutQ rw.length (fun i => g i - sumQ (fun j => F i j * f j) 20)) (max ([] : List Qr).length (vq rw.length (fun i => g i - sumQ (fun j => F i j * f j) 20)).length) = none := fun hF => gtQ_none fun i hi => by
    rw [vq_len] at hi
    have hi : i < rw.length := by simpa using hi
    rw [cutQ_of hi]
    have := hF.2.2.2 i hi
    grind
  obtain ⟨ex, rex⟩ := eval_eq (n := n) (rw := rw) (bd := bd) (N := 20) ro rx (fun v _ => by omega) (by decide) (by omega)
  obtain ⟨ey, rey⟩ := eval_eq (n := n) (rw := rw) (bd := bd) (N := 20) ro ry (fun v _ => by omega) (by decide) (by omega)
  have ev := vcmp rex rey (by decide)
  have ev' := vcmp rey rex (by decide)
  have eyx := vcmp ry rx (by decide)
  have exy' := vcmp rx ry (by decide)
  have exy := veq rx ry (by decide)
  rw [vq_len, vq_len, Nat.max_self] at ev ev'
  rw [lexP_flip (fun i => sumQ (fun j => O i j * f j) 20) (fun i => sumQ (fun j => O i j * h j) 20)] at ev'
  rw [Nat.max_comm, lexP_flip h f] at exy'
  have hz : (∀ i, i < max x.length y.length → f i = h i) ↔ lexQ h f (max y.length x.length) = 0 := by
    rw [lexQ_eq0, Nat.max_comm]
    exact ⟨fun q i hi => (q i hi).symm, fun q i hi => (q i hi).symm⟩
  have hV0 : lexQ h f (max y.length x.length) = 0 → lexQ (fun i => sumQ (fun j => O i j * f j) 20) (fun i => sumQ (fun j => O i j * h j) 20) ob.length = 0 := fun q => by
    rw [lexQ_eq0]
    intro i _
    have : f = h := by
      funext k
      by_cases hk : k < max x.length y.length
      · exact hz.2 q k hk
      · rw [rx.z k (by omega), ry.z k (by omega)]
    rw [this]
  have rV := lexP_rng (fun i => sumQ (fun j => O i j * f j) 20) (fun i => sumQ (fun j => O i j * h j) 20) ob.length
  have rC := lexP_rng h f (max y.length x.length)
  have dz : decide (∀ i, i < max x.length y.length → f i = h i) = decide (lexQ h f (max y.length x.length) = 0) := by rw [decide_eq_decide]; exact hz
  rw [dz] at exy
  clear hz dz rsl fsl rex rey
  generalize vq ob.length (fun i => sumQ (fun j => O i j * f j) 20) = ux at *
  generalize vq ob.length (fun i => sumQ (fun j => O i j * h j) 20) = uy at *
  generalize lexQ (fun i => sumQ (fun j => O i j * f j) 20) (fun i => sumQ (fun j => O i j * h j) 20) ob.length = V at *
  generalize lexQ h f (max y.length x.length) = C at *
  obtain ⟨w, hw0⟩ : ∃ w : Int, w = if V = 0 then C else V := ⟨_, rfl⟩
  have kc : lp_Compare_m ⟨n, ob, rw, bd⟩ x y = some w := by
    unfold lp_Compare_m
    refine bind_eq ex <| bind_eq ey <| bind_eq ev ?_
    by_cases hV : V = 0
    · rw [hw0, if_pos hV]; exact bind_eq (dF (fun e => e hV)) <| bif_f rfl <| bind_eq eyx rfl
    · rw [hw0, if_neg hV]; exact bind_eq (dT hV) <| bif_t rfl rfl
  have kc' : lp_Compare_m ⟨n, ob, rw, bd⟩ y x = some (-w) := by
    unfold lp_Compare_m
    refine bind_eq ey <| bind_eq ex <| bind_eq ev' ?_
    by_cases hV : V = 0
    · rw [hw0, if_pos hV]; exact bind_eq (dF (by omega)) <| bif_f rfl <| bind_eq exy' rfl
    · rw [hw0, if_neg hV]; exact bind_eq (dT (by omega)) <| bif_t rfl rfl
  have hw : IntKind.i64.wrap (0 - -w) = w := by rw [w64_id (by split at hw0 <;> omega) (by split at hw0 <;> omega)]; omega
  have heq : (some (!(decide (w = 0) == decide (C = 0))) : Option Bool) = some false := by
    have : decide (w = 0) = decide (C = 0) := by
      rw [decide_eq_decide]
      split at hw0
      · rw [hw0]
      · rename_i hV
        exact ⟨fun q => by omega, fun q => absurd (hV0 q) hV⟩
    rw [this]; exact hbb _
  have k2 : ((bif decide (V ≠ 0) then (some (decide (w ≠ V))).bind fun x127 => some x127 else some false).bind fun c128_112 => some c128_112) = some false := by
    by_cases hV : V = 0
    · rw [decide_eq_false (fun e => e hV)]; rfl
    · rw [decide_eq_true hV, hw0, if_neg hV]; exact bind_eq (a := false) (bif_t rfl <| bind_eq (dF (fun e => e rfl)) rfl) rfl
  have k3 : ((bif decide (V = 0) then (vec_Compare_m y x).bind fun x137 => (some (decide (w ≠ x137))).bind fun x138 => some x138 else some false).bind fun c139_114 => some c139_114) = some false := by
    by_cases hV : V = 0
    · rw [decide_eq_true hV, hw0, if_pos hV]; exact bind_eq (a := false) (bif_t rfl <| bind_eq eyx <| bind_eq (dF (fun e => e rfl)) rfl) rfl
    · rw [decide_eq_false hV]; rfl
  have k4 : ((vec_FirstGreater_m [] (vq rw.length (fun i => g i - sumQ (fun j => F i j * f j) 20))).bind fun ⟨x145a, x145b⟩ => letJ (fun (y10j93 : Bool) => some y10j93) fun K94 => (lp_Feasible_m ⟨n, ob, rw, bd⟩ x).bind fun x150 => (some (!x150)).bind fun x151 => (bif x151 then some true else (some (!x145b)).bind fun x154 => some x154).bind fun c155_95 => (bif c155_95 then (law06_alive_m).bind fun x157 => some x157 else some false).bind fun c158_98 => K94 c158_98) = some true := by
    by_cases hF : Fsb n ob rw bd x F g f 20
    · rw [hnone hF] at efg
      rw [decide_eq_true hF] at fp
      exact bind_eq efg <| letJ_of <| bind_eq fp <| bind_eq rfl <| bind_eq (a := true) (bif_f rfl <| bind_eq rfl rfl) <| andT al6 rfl
    · rw [decide_eq_false hF] at fp
      obtain ⟨z, ez⟩ : ∃ z, vec_FirstGreater_m [] (vq rw.length (fun i => g i - sumQ (fun j => F i j * f j) 20)) = some z := ⟨_, efg⟩
      obtain ⟨z1, z2⟩ := z
      exact bind_eq ez <| letJ_of <| bind_eq fp <| bind_eq rfl <| bind_eq (a := true) (bif_t rfl rfl) <| andT al6 rfl
  clear efg hnone hw0 rV rC hV0
  generalize sumQ (fun i => r i * f i) 20 = D at *
  generalize qn D = dq at *
  by_cases hE1 : ExtC n ob rw bd [⟨row, most⟩] (fun _ => row.length)
  · rw [if_pos hE1] at x1
    have f1 := f1 hE1
    generalize extP n ob rw bd O F g [(⟨row, most⟩ : Cn)].length (fun _ => row.length) (fun _ => r) (fun _ => m) = w1 at *
    have eA : lp_AddConstraint_m ⟨n, ob, rw, bd⟩ row most = some (w1, 0) := by unfold lp_AddConstraint_m; exact bind_eq x1 rfl
    by_cases hE2 : ExtC n ob rw bd [⟨row, most⟩, ⟨vq row.length fun i => - r i, qn (-m)⟩] (fun _ => row.length)
    · rw [if_pos hE2] at x2
      have f2 := f2 hE2
      generalize extP n ob rw bd O F g [(⟨row, most⟩ : Cn), ⟨vq row.length fun i => - r i, qn (-m)⟩].length (fun _ => row.length) (fun i => if i = 0 then r else fun j => - r j) (fun i => if i = 0 then m else - m) = w2 at *
      have eB : lp_AddEquation_m ⟨n, ob, rw, bd⟩ row most = some (w2, 0) := by
        unfold lp_AddEquation_m
        clear rn c2 f2
        generalize qn (-m) = mq at *
        exact bind_eq em1 <| bind_eq es <| bind_eq en <| bind_eq x2 rfl
      exact bind_eq eA <| bind_eq eB <| bind_eq ed <| letJ_of <| bind_eq (dT rfl) <| bind_eq (a := false) (bif_t rfl <| bind_eq f1 <| bind_eq fp <| andC (fun _ => bind_eq ecm <| bind_eq (congrArg some hle) rfl) <| bind_eq (hbb _) rfl) <| bind_eq (a := false) (bif_f rfl <| bind_eq (dT rfl) <| bind_eq (a := false) (bif_t rfl <| bind_eq f2 <| bind_eq fp <| andC (fun _ => bind_eq eeq rfl) <| bind_eq (hbb _) rfl) rfl) <| bind_eq (a := false) (bif_f rfl <| bind_eq (dT rfl) <| bind_eq (a := false) (bif_t rfl <| bind_eq (dF (by decide)) rfl) rfl) <| bif_f rfl <| bind_eq kc <| bind_eq ex <| bind_eq ey <| bind_eq ev <| letJ_of <| bind_eq kc' <| bind_eq (congrArg some hw) <| bind_eq (dF (fun e => e rfl)) <| bind_eq (a := false) (bif_f rfl <| bind_eq rfl <| bind_eq exy <| bind_eq heq rfl) <| bind_eq (a := false) (bif_f rfl <| bind_eq rfl <| k2) <| bind_eq (a := false) (bif_f rfl <| bind_eq rfl <| k3) <| bif_f rfl <| bind_eq esl <| k4
    · rw [if_neg hE2] at x2
      have eB : lp_AddEquation_m ⟨n, ob, rw, bd⟩ row most = some (⟨0, [], [], []⟩, 1) := by
        unfold lp_AddEquation_m
        clear rn c2 f2
        generalize qn (-m) = mq at *
        exact bind_eq em1 <| bind_eq es <| bind_eq en <| bind_eq x2 rfl
      exact bind_eq eA <| bind_eq eB <| bind_eq ed <| letJ_of <| bind_eq (dT rfl) <| bind_eq (a := false) (bif_t rfl <| bind_eq f1 <| bind_eq fp <| andC (fun _ => bind_eq ecm <| bind_eq (congrArg some hle) rfl) <| bind_eq (hbb _) rfl) <| bind_eq (a := false) (bif_f rfl <| bind_eq (dF (by decide)) <| bind_eq (a := false) (bif_f rfl rfl) rfl) <| bind_eq (a := false) (bif_f rfl <| bind_eq (dF (by decide)) <| bind_eq (a := false) (bif_f rfl rfl) rfl) <| bif_f rfl <| bind_eq kc <| bind_eq ex <| bind_eq ey <| bind_eq ev <| letJ_of <| bind_eq kc' <| bind_eq (congrArg some hw) <| bind_eq (dF (fun e => e rfl)) <| bind_eq (a := false) (bif_f rfl <| bind_eq rfl <| bind_eq exy <| bind_eq heq rfl) <| bind_eq (a := false) (bif_f rfl <| bind_eq rfl <| k2) <| bind_eq (a := false) (bif_f rfl <| bind_eq rfl <| k3) <| bif_f rfl <| bind_eq esl <| k4
  · rw [if_neg hE1] at x1
    have hE2 : ¬ ExtC n ob rw bd [⟨row, most⟩, ⟨vq row.length fun i => - r i, qn (-m)⟩] (fun _ => row.length) := fun q => hE1 ⟨q.1, by have := q.2.1; simp only [List.length_cons, List.length_nil] at this ⊢; omega, fun i hi => q.2.2 0 (by simp)⟩
    rw [if_neg hE2] at x2
    have eA : lp_AddConstraint_m ⟨n, ob, rw, bd⟩ row most = some (⟨0, [], [], []⟩, 1) := by unfold lp_AddConstraint_m; exact bind_eq x1 rfl
    have eB : lp_AddEquation_m ⟨n, ob, rw, bd⟩ row most = some (⟨0, [], [], []⟩, 1) := by
      unfold lp_AddEquation_m
      clear rn c2 f2 hE2
      generalize qn (-m) = mq at *
      exact bind_eq em1 <| bind_eq es <| bind_eq en <| bind_eq x2 rfl
    exact bind_eq eA <| bind_eq eB <| bind_eq ed <| letJ_of <| bind_eq (dF (by decide)) <| bind_eq (a := false) (bif_f rfl rfl) <| bind_eq (a := false) (bif_f rfl <| bind_eq (dF (by decide)) <| bind_eq (a := false) (bif_f rfl rfl) rfl) <| bind_eq (a := false) (bif_f rfl <| bind_eq (dF (by decide)) <| bind_eq (a := false) (bif_f rfl rfl) rfl) <| bif_f rfl <| bind_eq kc <| bind_eq ex <| bind_eq ey <| bind_eq ev <| letJ_of <| bind_eq kc' <| bind_eq (congrArg some hw) <| bind_eq (dF (fun e => e rfl)) <| bind_eq (a := false) (bif_f rfl <| bind_eq rfl <| bind_eq exy <| bind_eq heq rfl) <| bind_eq (a := false) (bif_f rfl <| bind_eq rfl <| k2) <| bind_eq (a := false) (bif_f rfl <| bind_eq rfl <| k3) <| bif_f rfl <| bind_eq esl <| k4
end Go.Proofs.YtfoldppidpmchaaGreat
namespace Go.Proofs.YtfoldppidpmchaaGreat
open Go.Fw Go.RowKit Go.ChangeShapes Go.WideShapes Go.ChangeAt
set_option linter.unusedVariables false
set_option maxRecDepth 100000 in
theorem lpConstraintsUpto_contract (H : Type) (enc : TypeId × Value → H) (W : World) (base : Nat) (args : Array Value) (ds gs : List (DataW H)) (before : List MemPlace)
    (hval : ∀ (j : Nat) t v, Tryz.f8.params[j]? = some t → args[j]? = some v → Value.okWide Tryz.prog W .any base t v)
    (hW : DataW.Whole enc Tryz.prog Tryz.f8.params.toList Rows.lpConstraintsSpec.vars false W args.toList ds gs before) (hk : Rows.uptoSmall H (ds ++ gs) = true) :
    Calls Tryz.prog 8 args W fun e W' => ∃ v, e = .returned v ∧ Rows.lpConstraintsSpec.post enc Tryz.prog Tryz.f8 false true false false W args v W' := by
  have hW' := hW
  obtain ⟨p, q, hA0, hV, rfl, hfz, hnd⟩ := hW
  have hA : DataW.TrodAll enc Tryz.prog W 0 (fun _ => true) true Tryz.f8.params.toList args.toList ds p := hA0
  rw [Tryz.params8] at hA hval
  obtain ⟨v0, vs0, d0, ds0, p0, q0, hargs, rfl, rfl, h0, r0⟩ := trodAll_cons hA
  obtain ⟨v1, vs1, d1, ds1, p1, q1, rfl, rfl, rfl, h1, r1⟩ := trodAll_cons r0
  obtain ⟨v2, vs2, d2, ds2, p2, q2, rfl, rfl, rfl, h2, r2⟩ := trodAll_cons r1
  obtain ⟨v3, vs3, d3, ds3, p3, q3, rfl, rfl, rfl, h3, r3⟩ := trodAll_cons r2
  obtain ⟨v4, vs4, d4, ds4, p4, q4, rfl, rfl, rfl, h4, r4⟩ := trodAll_cons r3
  obtain ⟨rfl, rfl, rfl⟩ := trodAll_nil r4
  obtain rfl : args = #[v0, v1, v2, v3, v4] := by cases args; simp_all
  obtain ⟨rfl, rfl⟩ := trodVars_none hV
  have lt0 : ∀ x ∈ p0, x.block < W.heap.size := by obtain ⟨m, hm⟩ := h0; exact DataW.trod_lt m _ _ _ hm
  obtain ⟨x0, ok0, sz0, al0⟩ := arg_agg (P := Tryz.prog) (T := 26) (e := eLr) (hval 0 26 v0 rfl rfl) h0
  have lt1 : ∀ x ∈ p1, x.block < W.heap.size := by obtain ⟨m, hm⟩ := h1; exact DataW.trod_lt m _ _ _ hm
  obtain ⟨x1, ok1, sz1, al1⟩ := arg_one (P := Tryz.prog) (T := 24) (e := (eS 4 eQ)) (hval 1 24 v1 rfl rfl) h1
  have lt2 : ∀ x ∈ p2, x.block < W.heap.size := by obtain ⟨m, hm⟩ := h2; exact DataW.trod_lt m _ _ _ hm
  obtain ⟨x2, ok2, sz2, al2⟩ := arg_one (P := Tryz.prog) (T := 24) (e := (eS 4 eQ)) (hval 2 24 v2 rfl rfl) h2
  have lt3 : ∀ x ∈ p3, x.block < W.heap.size := by obtain ⟨m, hm⟩ := h3; exact DataW.trod_lt m _ _ _ hm
  obtain ⟨x3, ok3, sz3, al3⟩ := arg_one (P := Tryz.prog) (T := 24) (e := (eS 4 eQ)) (hval 3 24 v3 rfl rfl) h3
  have lt4 : ∀ x ∈ p4, x.block < W.heap.size := by obtain ⟨m, hm⟩ := h4; exact DataW.trod_lt m _ _ _ hm
  obtain ⟨x4, ok4, sz4, al4⟩ := arg_agg (P := Tryz.prog) (T := 36) (e := eQ) (hval 4 36 v4 rfl rfl) h4
  have hsz : Rows.uptoBulk d0 + Rows.uptoBulk d1 + Rows.uptoBulk d2 + Rows.uptoBulk d3 + Rows.uptoBulk d4 ≤ 1048576 := by
    have := of_decide_eq_true hk; simp only [List.cons_append, List.nil_append, List.append_nil, Rows.uptoBulkAll] at this; omega
  clear hA0
  refine (said_of (law06_LpConstraints_ok (constraints_law x0 x1 x2 x3 x4 ok0 ok1 ok2 ok3 ok4 (Nat.le_trans (Nat.add_le_add (Nat.add_le_add (Nat.add_le_add (Nat.add_le_add sz0 sz1) sz2) sz3) sz4) hsz))) (W := W) (vs := [v0, v1, v2, v3, v4]) ⟨al0, al1.1, al2.1, al3.1, al4, trivial⟩).mono fun e W' ⟨he, bel⟩ => ?_
  subst he
  exact ⟨_, rfl, _, _, _, [], _, [], hW', trodAll_mk1 (shut_bool Tryz.underlying4 _), (trodAll_cons_mk (Below.trod laidOut_ (by kernel_rfl) (of_decide_eq_true (by kernel_rfl)) h0 bel lt0) (trodAll_cons_mk (Below.trod laidOut_ (by kernel_rfl) (of_decide_eq_true (by kernel_rfl)) h1 bel lt1) (trodAll_cons_mk (Below.trod laidOut_ (by kernel_rfl) (of_decide_eq_true (by kernel_rfl)) h2 bel lt2) (trodAll_cons_mk (Below.trod laidOut_ (by kernel_rfl) (of_decide_eq_true (by kernel_rfl)) h3 bel lt3) (trodAll_cons_mk (Below.trod laidOut_ (by kernel_rfl) (of_decide_eq_true (by kernel_rfl)) h4 bel lt4) trodAll_mk0))))), rfl, bel.frame _, fun h => by cases h⟩
set_option maxRecDepth 100000 in
theorem lpConstraintsUpto_lifted (os : Os) (started : os.Started) (H : Type) (enc : TypeId × Value → H) (F : Stop.Interp) :
    ReturnsInHanded {} Tryz.checked os 8 .any ((Rows.OpenSpec.upto Rows.lpConstraintsSpec).pre6 enc Tryz.prog Tryz.f8 Rows.lpConstraintsUptoRow.domain false) (((Rows.OpenSpec.upto Rows.lpConstraintsSpec).at F).post enc Tryz.prog Tryz.f8 false true false false) := by
  refine returnsInHanded_of_cond (C := Tryz.checked) (s := Rows.OpenSpec.upto Rows.lpConstraintsSpec) (k := Rows.uptoSmall) rfl own_ started (by kernel_rfl) Tryz.func8
    (OpenSpec.witness (enc := enc) (C := Tryz.checked) (s := Rows.OpenSpec.upto Rows.lpConstraintsSpec) (k := Rows.uptoSmall) rfl false ⟨#[], #[.agg #[.int .i64 0, .slice none 0 0, .slice none 0 0, .slice none 0 0], .slice none 0 0, .slice none 0 0, .slice none 0 0, .agg #[.bool false, .slice none 0 0, .bool false, .slice none 0 0]], []⟩ 8 (by kernel_rfl) (by kernel_rfl) (by kernel_rfl)
      (x := ([.agg [.lit (.int .i64 0), .nil, .nil, .nil], .nil, .nil, .nil, .agg [.agg [.lit (.bool false), .nil], .agg [.lit (.bool false), .nil]]], [], [])) (by kernel_rfl) rfl (by kernel_rfl)) ?_
  intro W base args ds gs before hval hW _ hk _
  exact lpConstraintsUpto_contract H enc W base args ds gs before hval hW hk
theorem lpConstraintsUpto_holds : Rows.LpConstraintsUptoSaid :=
  OpenClaim.holds_of_cond 8 Tryz.f8 rfl rfl rfl rfl rfl rfl rfl ⟨rfl, rfl, rfl, rfl, rfl⟩ rfl rfl rfl rfl rfl (by kernel_rfl) Tryz.func8 (by kernel_rfl)
    (of_decide_eq_true (by kernel_rfl)) (by unfold Func.isWrapper; first | (rw [if_pos (by decide +kernel)]; kernel_rfl) | (rw [if_neg (by decide +kernel)]; exact ⟨rfl, rfl⟩))
    (fun os started H enc _ F => lpConstraintsUpto_lifted os started H enc F)
end Go.Proofs.YtfoldppidpmchaaGreat
