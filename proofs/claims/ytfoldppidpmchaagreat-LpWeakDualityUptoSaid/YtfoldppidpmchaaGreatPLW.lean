/- The law LpWeakDuality answers true for every input, up to the size that the statement names. -/
import Derived.Test.YtfoldppidpmchaaGreatPLW5
set_option linter.unusedVariables false
set_option linter.unusedSimpArgs false
namespace Go.Proofs.YtfoldppidpmchaaGreat
open Go.Fw
abbrev OkM (m : List (List Qr)) : Prop := m.length ≤ 9223372036854775807 ∧ ∀ v ∈ m, OkV v
abbrev OkL (p : Lr) : Prop := i64ok p.vars ∧ OkM p.objs ∧ OkM p.rows ∧ OkV p.bounds
abbrev szL (p : Lr) : Nat := 1 + szM p.objs + szM p.rows + szV p.bounds + 1
theorem len_sum {α : Type} (f : α → Nat) (h : ∀ x, 1 ≤ f x) : ∀ l : List α, l.length ≤ (l.map f).sum
  | [] => Nat.le_refl _
  | x :: l => by rw [List.map_cons, List.sum_cons, List.length_cons]; have := len_sum f h l; have := h x; omega
theorem szM_len (m : List (List Qr)) : m.length ≤ szM m := by have := len_sum (fun x => szV x) (fun x => by show 1 ≤ _ + 1; omega) m; show _ ≤ _ + 1; omega
theorem szV_len (v : List Qr) : v.length ≤ szV v := by have := len_sum (fun x => szQ x) (fun x => by show 1 ≤ _ + 1; omega) v; show _ ≤ _ + 1; omega
theorem repx6 {m : List (List Qr)} (h : OkM m) (s : ∀ v ∈ m, Sm8 v) : RepX 6 m (mval m) :=
  repx_of (fun v hv => repv_of (fun q hq => rep_of ((h.2 v hv).2 q hq) ((s v hv).2 q hq).1 ((s v hv).2 q hq).2 (by decide)) (by decide)) (by decide)
theorem repv6 {v : List Qr} (h : OkV v) (s : Sml v) : RepV 6 v (vval v) := repv_of (fun q hq => rep_of (h.2 q hq) (s.2 q hq).1 (s.2 q hq).2 (by decide)) (by decide)
theorem al6 : (law06_alive_m.bind fun x => some x) = some true := bind_eq alive6 rfl
theorem rnn (x : Rat) : - - x = x := by grind
theorem vq_set' {n k : Nat} {h : Nat → Rat} {y : Rat} : (vq n h).set k (qn y) = vq n (fun i => if i = k then y else h i) := by
  apply List.ext_getElem?
  intro i
  by_cases hi : i < n
  · rw [vq_get hi, List.getElem?_set]
    by_cases hik : k = i
    · subst hik; rw [if_pos rfl, if_pos rfl, vq_len, if_pos hi]
    · rw [if_neg hik, if_neg (fun e => hik e.symm), vq_get hi]
  · rw [List.getElem?_eq_none (by rw [List.length_set, vq_len]; omega), List.getElem?_eq_none (by rw [vq_len]; omega)]
theorem le_maxR (x y : Rat) : y ≤ maxQ x y := by unfold maxQ; split <;> grind
theorem absQ_nonneg (x : Rat) : 0 ≤ absQ x := by unfold absQ; split <;> grind
theorem sumQ_le {h k : Nat → Rat} {n : Nat} (e : ∀ i, i < n → h i ≤ k i) : sumQ h n ≤ sumQ k n := by
  have := sumQ_nonneg (h := fun i => k i - h i) (n := n) (fun i hi => by have := e i hi; grind)
  rw [sumQ_sub] at this; grind
theorem sumQ_comm (h : Nat → Nat → Rat) (m : Nat) : ∀ n, sumQ (fun i => sumQ (fun j => h i j) m) n = sumQ (fun j => sumQ (fun i => h i j) n) m
  | 0 => (sumQ_zero m).symm
  | n + 1 => by
    rw [sumQ, sumQ_comm h m n, ← sumQ_add]
    rfl
theorem sumQ_neg (h : Nat → Rat) (n : Nat) : sumQ (fun i => - h i) n = - sumQ h n := by
  rw [sumQ_congr (k := fun i => (-1 : Rat) * h i) (fun i _ => by grind), sumQ_mul]; grind
section made
variable {K L M : Nat} {n : Int} {ob rw : List (List Qr)} {bd x : List Qr} {O F : Nat → Nat → Rat} {g f : Nat → Rat}
def xab (n : Int) (f : Nat → Rat) : Nat → Rat := cutQ n.toNat (fun i => absQ (f i))
theorem xab_nonneg (n : Int) (f : Nat → Rat) (i : Nat) : 0 ≤ xab n f i := by
  unfold xab cutQ
  split
  · exact absQ_nonneg _
  · exact Rat.le_refl
theorem xab_rep (hx : RepV M x f) (hM : M ≤ 10000000000) : RepV M (vq n.toNat (fun i => absQ (f i))) (xab n f) := vq_repc (fun i _ => ((hx.at i).abs hM).2.fq) hx.l1
def mxB (F : Nat → Nat → Rat) (g xa : Nat → Rat) (i : Nat) : Rat := maxQ (g i) (sumQ (fun j => F i j * xa j) 64)
theorem made_eq (hr : RepX L rw F) (hb : RepV K bd g) (hx : RepV M x f) (h0 : 0 ≤ n) (h64 : n ≤ 64) (hL : 66 * (L + M + 1) ≤ 1000000000) (hK : K ≤ 1000000000) (hM : M ≤ 1000000000) (l1 : rw.length ≤ 1000000) (l2 : bd.length = rw.length) (l3 : x.length ≤ 1000000) :
    law06_made_m ⟨n, ob, rw, bd⟩ x = some (⟨n, ob, rw, vq rw.length (mxB F g (xab n f))⟩, vq n.toNat (fun i => absQ (f i))) ∧ RepV (K + (64 * (L + M + 1) + 1)) (vq rw.length (mxB F g (xab n f))) (cutQ rw.length (mxB F g (xab n f))) := by
  obtain ⟨m, rfl⟩ : ∃ m : Nat, n = (m : Int) := ⟨n.toNat, by omega⟩
  have e0 := vresizeN hx (by omega) l3 (m : Int)
  rw [show (min (m : Int) 65536).toNat = m by omega] at e0
  have rx := xab_rep (n := (m : Int)) hx (by omega)
  rw [Int.toNat_natCast] at rx ⊢
  have row : ∀ i, i < rw.length → ∃ q, vec_Dot_m (rw.getD i []) (vq m (fun i => absQ (f i))) = some q ∧ Rep (64 * (L + M + 1) + 1) q (sumQ (fun j => F i j * xab m f j) 64) := fun i hi => by
    have hm : min (rw.getD i []).length (vq m (fun i => absQ (f i))).length ≤ 64 := by rw [vq_len]; omega
    have h1 := vdot (hr.row i) rx (Nat.le_trans (Nat.mul_le_mul_right _ (show _ + 2 ≤ 66 by omega)) (by omega))
    rw [sum_cut (hr.row i) rx hm] at h1
    exact ⟨_, h1.1, h1.2.mono (Nat.add_le_add_right (Nat.mul_le_mul_right _ hm) 1)⟩
  have hsz : K + (64 * (L + M + 1) + 1) ≤ 4000000000 := by omega
  have el : ∀ i, i < rw.length → ∃ q, bd[i]? = some q ∧ ∀ q2, Rep (64 * (L + M + 1) + 1) q2 (sumQ (fun j => F i j * xab m f j) 64) → frac_Max_m q q2 = some (qn (mxB F g (xab m f) i)) ∧ Rep (K + (64 * (L + M + 1) + 1)) (qn (mxB F g (xab m f) i)) (mxB F g (xab m f) i) := fun i hi => by
    obtain ⟨q, h1, h2⟩ := hb.get (show i < bd.length by omega)
    exact ⟨q, h1, fun q2 h3 => h2.max h3 hsz⟩
  constructor
  · unfold law06_made_m
    refine bind_eq e0 ?_
    refine bind_loop_to (fun k => ((k : Int), vq m (fun i => if i < k then absQ (f i) else f i))) m (vq m (fun i => absQ (f i))) (by rw [vq_congr (k := f) (fun i _ => if_neg (by omega))]; rfl) (fun k hk => ?_) ?_ ?_
    · have hg : (vq m (fun i => if i < k then absQ (f i) else f i))[k]? = some (qn (f k)) := by rw [vq_get hk, if_neg (by omega)]
      have e1 := ((((hx.at k).fq).rep hx.l1).abs (by omega)).1
      have hst : (vq m (fun i => if i < k then absQ (f i) else f i)).set k (qn (absQ (f k))) = vq m (fun i => if i < k + 1 then absQ (f i) else f i) := by
        rw [vq_set']
        apply vq_congr
        intro i _
        by_cases hik : i = k
        · subst hik; rw [if_pos rfl, if_pos (by omega)]
        · rw [if_neg hik]
          by_cases h2 : i < k
          · rw [if_pos h2, if_pos (by omega)]
          · rw [if_neg h2, if_neg (by omega)]
      have hl : (vq m (fun i => if i < k then absQ (f i) else f i)).length = m := vq_len _ _
      generalize vq m (fun i => if i < k then absQ (f i) else f i) = v at hg hst hl
      generalize qn (f k) = q at hg e1
      generalize qn (absQ (f k)) = q2 at hst e1
      refine bind_eq rfl <| bind_eq (dT (by rw [hl]; omega)) <| bif_t rfl <| bind_eq (cki_nat (show k < v.length by omega)) <| bind_eq hg <| bind_eq e1 <| bind_eq (cki_nat (show k < v.length by omega)) <| bind_eq (stM_of (show k < v.length by omega)) <| bind_eq (congrArg some (w64_succ (by omega))) ?_
      rw [← hst]
    · refine bind_eq rfl <| bind_eq (dF (by rw [vq_len]; omega)) <| bif_f rfl ?_
      rw [vq_congr (fun i hi => if_pos hi)]
    · refine bind_loop_to (fun k => ((k : Int), vq k (mxB F g (xab m f)))) rw.length (vq rw.length (mxB F g (xab m f))) rfl (fun k hk => ?_) ?_ rfl
      · obtain ⟨q, h1, h2⟩ := row k hk
        obtain ⟨q3, h3, h4⟩ := el k hk
        have h5 := (h4 q h2).1
        have e6 : apM 64 (vq k (mxB F g (xab m f))) [qn (mxB F g (xab m f) k)] = some (vq (k + 1) (mxB F g (xab m f))) := by rw [apM1 (by decide) (by rw [vq_len]; omega), vq_succ]
        generalize qn (mxB F g (xab m f) k) = q4 at h5 e6
        exact letJ_of <| bind_eq rfl <| bind_eq (dT (by omega)) <| bind_eq (a := true) (bif_t rfl <| bind_eq rfl <| bind_eq (dT (by omega)) rfl) <| bif_t rfl <| bind_eq (geti_nat h3) <| bind_eq (geti_nat (get_getD' (d := []) hk)) <| bind_eq h1 <| bind_eq h5 <| bind_eq e6 <| bind_eq (congrArg some (w64_succ (by omega))) rfl
      · exact letJ_of <| bind_eq rfl <| bind_eq (dF (by omega)) <| bind_eq (a := false) (bif_f rfl rfl) <| bif_f rfl rfl
  · refine vq_repc (fun i hi => ?_) (by have := hb.l1; omega)
    obtain ⟨q, h1, h2⟩ := row i hi
    obtain ⟨q3, h3, h4⟩ := el i hi
    exact (h4 q h2).2.fq
end made
theorem weak_math {n m : Int} {F : Nat → Nat → Rat} {c g f h : Nat → Rat} (hm : m.toNat ≤ 64) (hn : n.toNat ≤ 64) :
    sumQ (fun k => - cutQ n.toNat (mxB (fun k i => - F i k) c (xab m h)) k * xab n f k) 64 + sumQ (fun i => - cutQ m.toNat (mxB F g (xab n f)) i * xab m h i) 64 ≤ 0 := by
  have h1 : sumQ (fun k => - cutQ n.toNat (mxB (fun k i => - F i k) c (xab m h)) k * xab n f k) 64 ≤ sumQ (fun k => sumQ (fun i => F i k * xab m h i * xab n f k) 64) 64 := sumQ_le (fun k _ => by
    rw [sumQ_congr (k := fun i => xab n f k * (F i k * xab m h i)) (fun i _ => by grind), sumQ_mul]
    by_cases hk : k < n.toNat
    · rw [cutQ_of hk]
      have a1 := le_maxR (c k) (sumQ (fun i => - F i k * xab m h i) 64)
      have a2 := xab_nonneg n f k
      have a3 : sumQ (fun i => - F i k * xab m h i) 64 = - sumQ (fun i => F i k * xab m h i) 64 := by rw [← sumQ_neg]; exact sumQ_congr (fun i _ => by grind)
      rw [a3] at a1
      have a4 : 0 ≤ mxB (fun k i => - F i k) c (xab m h) k + sumQ (fun i => F i k * xab m h i) 64 := by unfold mxB; rw [a3]; grind
      have := Rat.mul_nonneg a4 a2
      grind
    · have : xab n f k = 0 := cutQ_no (by omega)
      rw [this]; grind)
  have h2 : sumQ (fun i => - cutQ m.toNat (mxB F g (xab n f)) i * xab m h i) 64 ≤ sumQ (fun i => - sumQ (fun k => F i k * xab m h i * xab n f k) 64) 64 := sumQ_le (fun i _ => by
    rw [sumQ_congr (k := fun k => xab m h i * (F i k * xab n f k)) (fun k _ => by grind), sumQ_mul]
    by_cases hi : i < m.toNat
    · rw [cutQ_of hi]
      have a1 := le_maxR (g i) (sumQ (fun k => F i k * xab n f k) 64)
      have a2 := xab_nonneg m h i
      have a4 : 0 ≤ mxB F g (xab n f) i - sumQ (fun k => F i k * xab n f k) 64 := by unfold mxB; grind
      have := Rat.mul_nonneg a4 a2
      grind
    · have : xab m h i = 0 := cutQ_no (by omega)
      rw [this]; grind)
  rw [sumQ_neg] at h2
  rw [sumQ_comm] at h1
  grind
theorem weak_law (p : Lr) (x y : List Qr) (op : OkL p) (ox : OkV x) (oy : OkV y) (hs : szL p + szV x + szV y ≤ 1048576) : law06_LpWeakDuality_m p x y = some true := by
  obtain ⟨n, ob, rw, bd⟩ := p
  obtain ⟨on, oo, or_, ob_⟩ := op
  replace oo : OkM ob := oo
  replace or_ : OkM rw := or_
  replace ob_ : OkV bd := ob_
  have z1 := szM_len ob
  have z2 := szM_len rw
  have z3 := szV_len bd
  replace hs : 1 + szM ob + szM rw + szV bd + 1 + szV x + szV y ≤ 1048576 := hs
  obtain ⟨b, e1, s1⟩ := long6_eq (n := n) (ob := ob) (rw := rw) (bd := bd) (by omega) (by omega) (by omega)
  obtain ⟨b2, e2, s2⟩ := long3_eq [x, y] (by simp)
  unfold law06_LpWeakDuality_m
  refine letJ_of <| bind_eq e1 <| orC (fun _ => bind_eq e2 rfl) <| orC (fun _ => bind_eq (valid_eq (by omega) (by omega)) <| bind_eq rfl rfl) <| bif_c (fun _ => al6) (fun hb => ?_)
  simp only [Bool.or_eq_false_iff, Bool.not_eq_false', decide_eq_true_eq] at hb
  obtain ⟨⟨hb1, hb2⟩, hv⟩ := hb
  have s1 := s1 hb1
  have sx := s2 hb2 x (by simp)
  have sy := s2 hb2 y (by simp)
  have ro := repx6 oo s1.so
  have rr := repx6 or_ s1.sr
  have rb := repvu ob_ (by omega)
  have rx := repv6 ox sx
  have ry := repv6 oy sy
  generalize mval ob = O at ro
  generalize mval rw = F at rr
  generalize vval bd = g at rb
  generalize vval x = f at rx
  generalize vval y = h at ry
  have hv' := hv
  unfold Vld at hv'
  obtain ⟨e3, rq⟩ := made_eq (ob := ob) rr rb rx hv'.1 hv'.2.1 (by decide) (by decide) (by decide) (by omega) (by omega) (by have := sx.1; omega)
  have rxa := xab_rep (n := n) rx (by decide)
  have lq : (vq rw.length (mxB F g (xab n f))).length = rw.length := vq_len _ _
  have lx : (vq n.toNat (fun i => absQ (f i))).length = n.toNat := vq_len _ _
  generalize vq rw.length (mxB F g (xab n f)) = qb at e3 rq lq
  generalize vq n.toNat (fun i => absQ (f i)) = xa at e3 rxa lx
  have hvq : Vld n ob rw qb := by unfold Vld; omega
  refine bind_eq e3 ?_
  by_cases h64 : rw.length ≤ 64
  · have e4 := dual_eq ro rr rq (by decide) (by decide) (by decide) hvq h64
    have do_ := dual_o rq (by decide)
    have dr := dual_r rr (by decide) hvq
    have db := dual_b ro (by decide) hvq
    have dv := dual_v (O := O) (F := F) (g := cutQ rw.length (mxB F g (xab n f))) hvq h64
    unfold dualP at e4
    rw [lq] at e4 do_ dv
    have lr : (mq n.toNat (fun _ => rw.length) (fun k i => - F i k)).length = n.toNat := mq_len _ _ _
    have lb : (vq n.toNat (fun k => - O 0 k)).length = n.toNat := vq_len _ _
    have lo : ([vq rw.length (fun i => - cutQ rw.length (mxB F g (xab n f)) i)] : List (List Qr)).length = 1 := rfl
    have wr : ∀ v ∈ mq n.toNat (fun _ => rw.length) (fun k i => - F i k), v.length ≤ 64 := fun v hv => by
      obtain ⟨i, hi, rfl⟩ := List.mem_map.1 hv
      rw [vq_len]; exact h64
    generalize mq n.toNat (fun _ => rw.length) (fun k i => - F i k) = drw at e4 dr dv lr wr
    generalize vq n.toNat (fun k => - O 0 k) = dbd at e4 db dv lb
    generalize ([vq rw.length (fun i => - cutQ rw.length (mxB F g (xab n f)) i)] : List (List Qr)) = dob at e4 do_ dv lo
    obtain ⟨e5, rh⟩ := made_eq (ob := dob) (n := (rw.length : Int)) dr db ry (by omega) (by omega) (by decide) (by decide) (by decide) (by omega) (by omega) (by have := sy.1; omega)
    have rya := xab_rep (n := (rw.length : Int)) ry (by decide)
    rw [lr] at e5 rh
    have lh : (vq n.toNat (mxB (fun k i => - F i k) (fun k => - O 0 k) (xab (rw.length : Int) h))).length = n.toNat := vq_len _ _
    have ly : (vq (rw.length : Int).toNat (fun i => absQ (h i))).length = rw.length := by rw [vq_len]; omega
    generalize vq n.toNat (mxB (fun k i => - F i k) (fun k => - O 0 k) (xab (rw.length : Int) h)) = hb at e5 rh lh
    generalize vq (rw.length : Int).toNat (fun i => absQ (h i)) = ya at e5 rya ly
    have dv' : Vld (rw.length : Int) dob drw hb := by unfold Vld at dv ⊢; omega
    have e6 := dual_eq do_ dr rh (by decide) (by decide) (by decide) dv' (by omega)
    have to := dual_o rh (by decide)
    have tr := dual_r dr (by decide) dv'
    have tb := dual_b do_ (by decide) dv'
    have tv := dual_v (O := fun i j => if i = 0 then - cutQ rw.length (mxB F g (xab n f)) j else 0) (F := fun k i => - F i k) (g := cutQ n.toNat (mxB (fun k i => - F i k) (fun k => - O 0 k) (xab (rw.length : Int) h))) dv' (by omega)
    unfold dualP at e6
    rw [lh, lr] at e6
    rw [lr] at tr tv
    rw [lh] at to tv
    have f1 := feas_eq (n := n) (ob := ob) (N := 64) rr rq rxa (fun v _ => by rw [lx]; omega) (by decide) (by decide) (by omega) (by omega) (by omega)
    rw [decide_eq_true (show Fsb n ob rw qb xa F _ _ 64 from ⟨hvq, by omega, fun i _ => xab_nonneg n f i, fun i hi => by rw [cutQ_of hi]; exact le_maxR _ _⟩)] at f1
    have f2 := feas_eq (n := (rw.length : Int)) (ob := dob) (N := 64) dr rh rya (fun v hv => by have := wr v hv; omega) (by decide) (by decide) (by omega) (by omega) (by omega)
    rw [decide_eq_true (show Fsb (rw.length : Int) dob drw hb ya _ _ _ 64 from ⟨dv', by omega, fun i _ => xab_nonneg _ h i, fun i hi => by rw [cutQ_of (by omega)]; exact le_maxR _ _⟩)] at f2
    have lt : (mq (rw.length : Int).toNat (fun _ => n.toNat) (fun k i => - (fun k i => - F i k) i k)).length = rw.length := by rw [mq_len]; omega
    have f3 := feas_eq (n := (n.toNat : Int)) (ob := [vq n.toNat (fun i => - cutQ n.toNat (mxB (fun k i => - F i k) (fun k => - O 0 k) (xab (rw.length : Int) h)) i)]) (N := 64) tr tb rxa (fun v _ => by rw [lx]; omega) (by decide) (by decide) (by simp) (by rw [lt]; omega) (by omega)
    rw [decide_eq_true (show Fsb (n.toNat : Int) _ _ _ xa _ _ _ 64 from ⟨tv, by omega, fun i _ => xab_nonneg n f i, fun i hi => by
      rw [lt] at hi
      rw [if_pos rfl, rnn, cutQ_of hi, sumQ_congr (k := fun j => F i j * xab n f j) (fun j _ => by rw [rnn])]; exact le_maxR _ _⟩)] at f3
    obtain ⟨g1, r1⟩ := eval_eq (n := (n.toNat : Int)) (rw := mq (rw.length : Int).toNat (fun _ => n.toNat) (fun k i => - (fun k i => - F i k) i k)) (bd := vq (rw.length : Int).toNat (fun k => - (if 0 = 0 then - cutQ rw.length (mxB F g (xab n f)) k else 0))) (N := 64) to rxa (fun v _ => by rw [lx]; omega) (by decide) (by simp)
    obtain ⟨g2, r2⟩ := eval_eq (n := (rw.length : Int)) (rw := drw) (bd := hb) (N := 64) do_ rya (fun v _ => by rw [ly]; omega) (by decide) (by omega)
    rw [lo] at g2 r2
    have l1 : ([vq n.toNat (fun i => - cutQ n.toNat (mxB (fun k i => - F i k) (fun k => - O 0 k) (xab (rw.length : Int) h)) i)] : List (List Qr)).length = 1 := rfl
    rw [l1] at g1 r1
    have k1 : (vq 1 (fun i => sumQ (fun j => (if i = 0 then - cutQ n.toNat (mxB (fun k i => - F i k) (fun k => - O 0 k) (xab (rw.length : Int) h)) j else 0) * xab n f j) 64)).length = 1 := vq_len _ _
    have k2 : (vq 1 (fun i => sumQ (fun j => (if i = 0 then - cutQ rw.length (mxB F g (xab n f)) j else 0) * xab (rw.length : Int) h j) 64)).length = 1 := vq_len _ _
    generalize vq 1 (fun i => sumQ (fun j => (if i = 0 then - cutQ n.toNat (mxB (fun k i => - F i k) (fun k => - O 0 k) (xab (rw.length : Int) h)) j else 0) * xab n f j) 64) = v1 at g1 r1 k1
    generalize vq 1 (fun i => sumQ (fun j => (if i = 0 then - cutQ rw.length (mxB F g (xab n f)) j else 0) * xab (rw.length : Int) h j) 64) = v2 at g2 r2 k2
    obtain ⟨p1, j1, q1⟩ := r1.get (i := 0) (by omega)
    obtain ⟨p2, j2, q2⟩ := r2.get (i := 0) (by omega)
    obtain ⟨q3, g3, r3⟩ := q1.add' q2 (by decide)
    have g4 := r3.sign (by decide)
    have hmath := weak_math (n := n) (m := (rw.length : Int)) (F := F) (c := fun k => - O 0 k) (g := g) (f := f) (h := h) (by omega) (by omega)
    rw [Int.toNat_natCast] at hmath
    have hz : sumQ (fun j => (if 0 = 0 then - cutQ n.toNat (mxB (fun k i => - F i k) (fun k => - O 0 k) (xab (rw.length : Int) h)) j else 0) * xab n f j) 64 + sumQ (fun j => (if 0 = 0 then - cutQ rw.length (mxB F g (xab n f)) j else 0) * xab (rw.length : Int) h j) 64 ≤ 0 := by
      rw [sumQ_congr (k := fun k => - cutQ n.toNat (mxB (fun k i => - F i k) (fun k => - O 0 k) (xab (rw.length : Int) h)) k * xab n f k) (fun j _ => by rw [if_pos rfl]), sumQ_congr (h := fun j => (if 0 = 0 then - cutQ rw.length (mxB F g (xab n f)) j else 0) * xab (rw.length : Int) h j) (k := fun i => - cutQ rw.length (mxB F g (xab n f)) i * xab (rw.length : Int) h i) (fun j _ => by rw [if_pos rfl])]
      exact hmath
    have hle := Int.not_lt.1 (fun q => Rat.not_lt.2 hz (cmpQ_pos.1 q))
    refine bind_eq e4 <| bind_eq (dF (by decide)) <| bif_f rfl <| letJ_of <| bind_eq f1 <| bind_eq rfl <| bind_eq (a := false) (bif_f rfl <| bind_eq rfl <| bind_eq (dF (by omega)) rfl) <| bif_f rfl <| bind_eq e5 <| bind_eq e6 <| letJ_of ?_
    refine bind_eq (dF (by decide)) <| bind_eq (a := false) (bif_f rfl <| bind_eq f2 <| bind_eq rfl rfl) <| bind_eq (a := false) (bif_f rfl <| bind_eq f3 <| bind_eq rfl rfl) <| bif_f rfl <| bind_eq g1 <| bind_eq g2 <| letJ_of ?_
    exact bind_eq rfl <| bind_eq (dF (by omega)) <| bind_eq (a := false) (bif_f rfl <| bind_eq rfl <| bind_eq (dF (by omega)) rfl) <| bif_f rfl <| letJ_of <| bind_eq (geti_zero j1) <| bind_eq (geti_zero j2) <| bind_eq g3 <| bind_eq g4 <| bind_eq (dT hle) <| andT al6 rfl
  · have e4 := dual_no (n := n) (ob := ob) (rw := rw) (bd := qb) (by omega) (by omega) (fun q => h64 q.2)
    exact bind_eq e4 <| bind_eq (dT (by decide)) <| bif_t rfl <| letJ_of <| bind_eq (dT rfl) <| andT al6 rfl
end Go.Proofs.YtfoldppidpmchaaGreat
namespace Go.Proofs.YtfoldppidpmchaaGreat
open Go.Fw Go.RowKit Go.ChangeShapes Go.WideShapes Go.ChangeAt
set_option linter.unusedVariables false
set_option maxRecDepth 100000 in
theorem lpWeakDualityUpto_contract (H : Type) (enc : TypeId × Value → H) (W : World) (base : Nat) (args : Array Value) (ds gs : List (DataW H)) (before : List MemPlace)
    (hval : ∀ (j : Nat) t v, Tryz.f6.params[j]? = some t → args[j]? = some v → Value.okWide Tryz.prog W .any base t v)
    (hW : DataW.Whole enc Tryz.prog Tryz.f6.params.toList Rows.lpWeakDualitySpec.vars false W args.toList ds gs before) (hk : Rows.uptoSmall H (ds ++ gs) = true) :
    Calls Tryz.prog 6 args W fun e W' => ∃ v, e = .returned v ∧ Rows.lpWeakDualitySpec.post enc Tryz.prog Tryz.f6 false true false false W args v W' := by
  have hW' := hW
  obtain ⟨p, q, hA0, hV, rfl, hfz, hnd⟩ := hW
  have hA : DataW.TrodAll enc Tryz.prog W 0 (fun _ => true) true Tryz.f6.params.toList args.toList ds p := hA0
  rw [Tryz.params6] at hA hval
  obtain ⟨v0, vs0, d0, ds0, p0, q0, hargs, rfl, rfl, h0, r0⟩ := trodAll_cons hA
  obtain ⟨v1, vs1, d1, ds1, p1, q1, rfl, rfl, rfl, h1, r1⟩ := trodAll_cons r0
  obtain ⟨v2, vs2, d2, ds2, p2, q2, rfl, rfl, rfl, h2, r2⟩ := trodAll_cons r1
  obtain ⟨rfl, rfl, rfl⟩ := trodAll_nil r2
  obtain rfl : args = #[v0, v1, v2] := by cases args; simp_all
  obtain ⟨rfl, rfl⟩ := trodVars_none hV
  have lt0 : ∀ x ∈ p0, x.block < W.heap.size := by obtain ⟨m, hm⟩ := h0; exact DataW.trod_lt m _ _ _ hm
  obtain ⟨x0, ok0, sz0, al0⟩ := arg_agg (P := Tryz.prog) (T := 26) (e := eLr) (hval 0 26 v0 rfl rfl) h0
  have lt1 : ∀ x ∈ p1, x.block < W.heap.size := by obtain ⟨m, hm⟩ := h1; exact DataW.trod_lt m _ _ _ hm
  obtain ⟨x1, ok1, sz1, al1⟩ := arg_one (P := Tryz.prog) (T := 24) (e := (eS 4 eQ)) (hval 1 24 v1 rfl rfl) h1
  have lt2 : ∀ x ∈ p2, x.block < W.heap.size := by obtain ⟨m, hm⟩ := h2; exact DataW.trod_lt m _ _ _ hm
  obtain ⟨x2, ok2, sz2, al2⟩ := arg_one (P := Tryz.prog) (T := 24) (e := (eS 4 eQ)) (hval 2 24 v2 rfl rfl) h2
  have hsz : Rows.uptoBulk d0 + Rows.uptoBulk d1 + Rows.uptoBulk d2 ≤ 1048576 := by
    have := of_decide_eq_true hk; simp only [List.cons_append, List.nil_append, List.append_nil, Rows.uptoBulkAll] at this; omega
  clear hA0
  refine (said_of (law06_LpWeakDuality_ok (weak_law x0 x1 x2 ok0 ok1 ok2 (Nat.le_trans (Nat.add_le_add (Nat.add_le_add sz0 sz1) sz2) hsz))) (W := W) (vs := [v0, v1, v2]) ⟨al0, al1.1, al2.1, trivial⟩).mono fun e W' ⟨he, bel⟩ => ?_
  subst he
  exact ⟨_, rfl, _, _, _, [], _, [], hW', trodAll_mk1 (shut_bool Tryz.underlying4 _), (trodAll_cons_mk (Below.trod laidOut_ (by kernel_rfl) (of_decide_eq_true (by kernel_rfl)) h0 bel lt0) (trodAll_cons_mk (Below.trod laidOut_ (by kernel_rfl) (of_decide_eq_true (by kernel_rfl)) h1 bel lt1) (trodAll_cons_mk (Below.trod laidOut_ (by kernel_rfl) (of_decide_eq_true (by kernel_rfl)) h2 bel lt2) trodAll_mk0))), rfl, bel.frame _, fun h => by cases h⟩
set_option maxRecDepth 100000 in
theorem lpWeakDualityUpto_lifted (os : Os) (started : os.Started) (H : Type) (enc : TypeId × Value → H) (F : Stop.Interp) :
    ReturnsInHanded {} Tryz.checked os 6 .any ((Rows.OpenSpec.upto Rows.lpWeakDualitySpec).pre6 enc Tryz.prog Tryz.f6 Rows.lpWeakDualityUptoRow.domain false) (((Rows.OpenSpec.upto Rows.lpWeakDualitySpec).at F).post enc Tryz.prog Tryz.f6 false true false false) := by
  refine returnsInHanded_of_cond (C := Tryz.checked) (s := Rows.OpenSpec.upto Rows.lpWeakDualitySpec) (k := Rows.uptoSmall) rfl own_ started (by kernel_rfl) Tryz.func6
    (OpenSpec.witness (enc := enc) (C := Tryz.checked) (s := Rows.OpenSpec.upto Rows.lpWeakDualitySpec) (k := Rows.uptoSmall) rfl false ⟨#[], #[.agg #[.int .i64 0, .slice none 0 0, .slice none 0 0, .slice none 0 0], .slice none 0 0, .slice none 0 0], []⟩ 8 (by kernel_rfl) (by kernel_rfl) (by kernel_rfl)
      (x := ([.agg [.lit (.int .i64 0), .nil, .nil, .nil], .nil, .nil], [], [])) (by kernel_rfl) rfl (by kernel_rfl)) ?_
  intro W base args ds gs before hval hW _ hk _
  exact lpWeakDualityUpto_contract H enc W base args ds gs before hval hW hk
theorem lpWeakDualityUpto_holds : Rows.LpWeakDualityUptoSaid :=
  OpenClaim.holds_of_cond 6 Tryz.f6 rfl rfl rfl rfl rfl rfl rfl ⟨rfl, rfl, rfl, rfl, rfl⟩ rfl rfl rfl rfl rfl (by kernel_rfl) Tryz.func6 (by kernel_rfl)
    (of_decide_eq_true (by kernel_rfl)) (by unfold Func.isWrapper; first | (rw [if_pos (by decide +kernel)]; kernel_rfl) | (rw [if_neg (by decide +kernel)]; exact ⟨rfl, rfl⟩))
    (fun os started H enc _ F => lpWeakDualityUpto_lifted os started H enc F)
end Go.Proofs.YtfoldppidpmchaaGreat
