/- The law SettleSumsMatch answers true for every input, up to the size that the statement names. -/
import Derived.Test.YtegdplnhkjpmkaaGreatPSS5
set_option linter.unusedVariables false
set_option linter.unusedSimpArgs false
namespace Go.Proofs.YtegdplnhkjpmkaaGreat
open Go.Fw
theorem letJ_of {J R : Type} {f : J → Option R} {g : (J → Option R) → Option R} {r : Option R} (h : g f = r) : letJ f g = r := h
theorem letJ_eq {J R : Type} (f : J → Option R) (g : (J → Option R) → Option R) : letJ f g = g f := rfl
section ops
variable {K L M : Nat} {c : Qr} {a b : List Qr} {k : Rat} {f g : Nat → Rat}
theorem vints {l : List Int} (hl : ∀ x ∈ l, i64ok x) (h : l.length ≤ 1000000) : vec_FromInts_m l = some (vq l.length fun i => ((l.getD i 0 : Int) : Rat)) ∧ RepV 2 (vq l.length fun i => ((l.getD i 0 : Int) : Rat)) (fun i => ((l.getD i 0 : Int) : Rat)) := by
  have hx : ∀ i, i64ok (l.getD i 0) := fun i => by
    by_cases hi : i < l.length
    · rw [List.getD_eq_getElem?_getD, List.getElem?_eq_getElem hi]; exact hl _ (List.getElem_mem hi)
    · rw [List.getD_eq_getElem?_getD, List.getElem?_eq_none (by omega)]; decide
  refine ⟨?_, vq_rep (fun i _ => (fromInt64_eq (hx i)).2.fq) (fun i hi => ?_) (by decide)⟩
  · unfold vec_FromInts_m
    refine bind_eq rfl <| bind_eq (mkM_of (by omega) (by omega)) <| bind_eq rfl ?_
    refine bind_loop_to (fun j => ((j : Int), vq j (fun i => ((l.getD i 0 : Int) : Rat)) ++ List.replicate (l.length - j) qz)) l.length (vq l.length fun i => ((l.getD i 0 : Int) : Rat)) rfl (fun j hj => ?_) ?_ rfl
    · have e3 := (fromInt64_eq (hx j)).1
      have h4 := vq_set (h := fun i => ((l.getD i 0 : Int) : Rat)) hj
      obtain ⟨q3, h3⟩ : ∃ q, qn ((l.getD j 0 : Int) : Rat) = q := ⟨_, rfl⟩
      rw [h3] at e3 h4
      obtain ⟨⟨_, _⟩, ⟨_, _⟩⟩ := q3
      refine bind_eq rfl <| bif_t (decide_eq_true (by omega)) <| bind_eq (geti_nat (get_getD' hj)) <| bind_eq e3 <| bind_eq (cki_nat (by rw [vqz_len (by omega)]; exact hj)) <| bind_eq (stM_of (by rw [vqz_len (by omega)]; exact hj)) <| bind_eq rfl ?_
      rw [w64_succ (by omega), h4]
    · refine bind_eq rfl <| bif_f (decide_eq_false (by omega)) ?_
      simp
  · show ((l.getD i 0 : Int) : Rat) = 0
    rw [getD_of_le' hi]; rfl
def sumF (l : List (List Qr)) : Nat → Nat → Rat
  | 0, _ => 0
  | j + 1, i => sumF l j i + vval (l.getD j []) i
def sumV (l : List (List Qr)) : Nat → List Qr
  | 0 => []
  | j + 1 => vq (max (sumV l j).length (l.getD j []).length) fun i => sumF l j i + vval (l.getD j []) i
theorem sumV_rep {l : List (List Qr)} (hl : ∀ v ∈ l, RepV L v (vval v) ∧ v.length ≤ 1000) (h1 : 1 ≤ L) : ∀ j, j ≤ l.length → RepV (j * (L + 1) + 1) (sumV l j) (sumF l j) ∧ (sumV l j).length ≤ 1000
  | 0, _ => ⟨(RepV.nil (by omega)).congr (fun _ => rfl), by simp [sumV]⟩
  | j + 1, hj => by
    obtain ⟨r1, l1⟩ := sumV_rep hl h1 j (by omega)
    have hm : l.getD j [] ∈ l := by rw [List.getD_eq_getElem?_getD, List.getElem?_eq_getElem (by omega)]; exact List.getElem_mem (by omega)
    obtain ⟨r2, l2⟩ := hl _ hm
    refine ⟨?_, by rw [sumV, vq_len]; omega⟩
    rw [sumV, Nat.add_mul]
    refine (vq_rep (L := j * (L + 1) + 1 + L + 1) (fun i _ => (r1.fq i).add (r2.fq i)) (fun i hi => ?_) (by omega)).mono (by omega)
    rw [r1.z i (by omega), r2.z i (by omega)]; grind
theorem vsum {l : List (List Qr)} (hl : ∀ v ∈ l, RepV L v (vval v) ∧ v.length ≤ 1000) (h1 : 1 ≤ L) (h : (l.length + 1) * (L + 1) + 1 ≤ 4000000000) : vec_Sum_m l = some (sumV l l.length) := by
  have hln : l.length ≤ 4000000000 := by
    have : l.length * 1 ≤ l.length * (L + 1) := Nat.mul_le_mul_left _ (by omega)
    rw [Nat.add_mul] at h; omega
  unfold vec_Sum_m
  refine bind_eq rfl ?_
  refine bind_loop_to (fun j => (sumV l j, (j : Int))) l.length (sumV l l.length) rfl (fun j hj => ?_) ?_ rfl
  · obtain ⟨q1, l1⟩ := sumV_rep hl h1 j (by omega)
    have hm : l.getD j [] ∈ l := by rw [List.getD_eq_getElem?_getD, List.getElem?_eq_getElem (by omega)]; exact List.getElem_mem (by omega)
    obtain ⟨q2, l2⟩ := hl _ hm
    have hj2 : j * (L + 1) ≤ l.length * (L + 1) := Nat.mul_le_mul_right _ (by omega)
    rw [Nat.add_mul] at h
    refine bind_eq rfl <| bif_t (decide_eq_true (by omega)) <| bind_eq (geti_nat (get_getD' (d := []) hj)) <| bind_eq (vadd q1 q2 (by omega) (by omega) (by omega)).1 <| bind_eq rfl ?_
    rw [w64_succ (by omega)]; rfl
  · exact bind_eq rfl <| bif_f (decide_eq_false (by omega)) rfl
end ops
end Go.Proofs.YtegdplnhkjpmkaaGreat
namespace Go.Proofs.YtegdplnhkjpmkaaGreat
open Go.Fw
abbrev OkQ (q : Qr) : Prop := OkZ q.num ∧ OkZ q.den
theorem rep_of {q : Qr} {L : Nat} (h : OkQ q) (h1 : q.num.w.length ≤ L) (h2 : q.den.w.length ≤ L) (hL : 1 ≤ L) : Rep L q (qv q) := ⟨h.1.2.2, h.2.2.2, h1, h2, hL, rfl⟩
end Go.Proofs.YtegdplnhkjpmkaaGreat
namespace Go.Proofs.YtegdplnhkjpmkaaGreat
open Go.Fw
theorem Rep.eqT {L M : Nat} {a b : Qr} {x y : Rat} (ha : Rep L a x) (hb : Rep M b y) (e : x = y) (h : L + M ≤ 4000000000) : frac_Equal_m a b = some true := by
  rw [ha.eq hb h, decide_eq_true e]
end Go.Proofs.YtegdplnhkjpmkaaGreat
namespace Go.Proofs.YtegdplnhkjpmkaaGreat
open Go.Fw
theorem dT {p : Prop} [Decidable p] (h : p) : (some (decide p) : Option Bool) = some true := congrArg some (decide_eq_true h)
theorem dF {p : Prop} [Decidable p] (h : ¬ p) : (some (decide p) : Option Bool) = some false := congrArg some (decide_eq_false h)
theorem andT {β : Type} {x : Option Bool} {f : Bool → Option β} {r : Option β} {y : Option Bool} (h : x = some true) (hf : f true = r) : (bif true then x else y).bind f = r := by rw [ctm, h]; exact hf
section ops
variable {K L M : Nat} {a b c : Qr} {x y z : Rat}
theorem Rep.add' (ha : Rep L a x) (hb : Rep M b y) (h : L + M ≤ 4000000000) : ∃ q, frac_Add_m a b = some q ∧ Rep (L + M + 1) q (x + y) := ⟨_, ha.add hb h⟩
theorem Rep.sub' (ha : Rep L a x) (hb : Rep M b y) (h : L + M ≤ 4000000000) : ∃ q, frac_Sub_m a b = some q ∧ Rep (L + M + 1) q (x - y) := ⟨_, ha.sub hb h⟩
theorem Rep.mul' (ha : Rep L a x) (hb : Rep M b y) (h : L + M ≤ 4000000000) : ∃ q, frac_Mul_m a b = some q ∧ Rep (L + M) q (x * y) := ⟨_, ha.mul hb h⟩
theorem int' {n : Int} (hn : i64ok n) : ∃ q, frac_FromInt64_m n = some q ∧ Rep 2 q (n : Rat) := ⟨_, fromInt64_eq hn⟩
theorem vints' {l : List Int} (hl : ∀ x ∈ l, i64ok x) (h : l.length ≤ 1000000) : ∃ v, vec_FromInts_m l = some v ∧ RepV 2 v (fun i => ((l.getD i 0 : Int) : Rat)) ∧ v.length = l.length := ⟨_, (vints hl h).1, (vints hl h).2, vq_len _ _⟩
end ops
theorem RepV.val {L : Nat} {v : List Qr} {f : Nat → Rat} (h : RepV L v f) (i : Nat) : f i = vval v i := (h.at i).v.symm
theorem RepV.of {L n : Nat} {v : List Qr} {f : Nat → Rat} (hn : v.length = n) (h : ∀ i q, v[i]? = some q → Rep L q (f i)) (h1 : 1 ≤ L) : RepV L v (fun i => if i < n then f i else 0) := by
  refine ⟨fun i hi => ?_, fun i hi => ?_, h1⟩
  · show Rep L v[i] (if i < n then f i else 0)
    rw [if_pos (by omega)]; exact h i _ (List.getElem?_eq_getElem hi)
  · show (if i < n then f i else 0) = 0
    rw [if_neg (by omega)]
theorem rat33 (a : List Qr) (i : Nat) : ref33_At_m a (i : Int) = some (qat a i) := by
  unfold ref33_At_m qat
  rw [letJ_eq]
  by_cases h : i < a.length
  · refine bind_eq (dF (by omega)) <| bind_eq (a := false) (bif_f rfl <| bind_eq rfl <| bind_eq (dF (by omega)) rfl) <| bif_f rfl <| bind_eq (geti_nat (get_getD' (d := qz) h)) rfl
  · refine bind_eq (dF (by omega)) <| bind_eq (a := true) (bif_f rfl <| bind_eq rfl <| bind_eq (dT (by omega)) rfl) <| bif_t rfl ?_
    rw [getD_of_le' (by omega)]; rfl
abbrev szZ (z : Zr) : Nat := 1 + ((z.w.map fun _ => 1).sum + 1) + 1
abbrev szQ (q : Qr) : Nat := szZ q.num + szZ q.den + 1
abbrev szV (v : List Qr) : Nat := (v.map fun x => szQ x).sum + 1
theorem sum_mem {α : Type} (f : α → Nat) : ∀ {l : List α} {x : α}, x ∈ l → f x ≤ (l.map f).sum
  | y :: l, x, h => by
    rw [List.map_cons, List.sum_cons]
    rcases List.mem_cons.1 h with rfl | h
    · omega
    · have := sum_mem f h; omega
theorem sum_one {α : Type} : ∀ l : List α, (l.map fun _ => 1).sum = l.length
  | [] => rfl
  | _ :: l => by rw [List.map_cons, List.sum_cons, sum_one l, List.length_cons]; omega
theorem szQ_len (q : Qr) : q.num.w.length ≤ szQ q ∧ q.den.w.length ≤ szQ q := by
  simp only [szQ, szZ, sum_one]; omega
abbrev OkV (v : List Qr) : Prop := v.length ≤ 9223372036854775807 ∧ ∀ q ∈ v, OkQ q
theorem repq {q : Qr} (h : OkQ q) (s : szQ q ≤ 1048576) : Rep 1048576 q (qv q) := by
  have := szQ_len q
  exact rep_of h (by omega) (by omega) (by decide)
theorem repvu {v : List Qr} (h : OkV v) (s : szV v ≤ 1048576) : RepV 1048576 v (vval v) := by
  refine repv_of (fun q hq => repq (h.2 q hq) ?_) (by decide)
  have := sum_mem (fun x => szQ x) hq
  have e : szV v = (v.map fun x => szQ x).sum + 1 := rfl
  omega
end Go.Proofs.YtegdplnhkjpmkaaGreat
namespace Go.Proofs.YtegdplnhkjpmkaaGreat
open Go.Fw
theorem long33 (l : List (List Qr)) (hl : l.length ≤ 9223372036854775807) : ∃ b, law33_Long_m l = some b ∧ (b = false → ∀ v ∈ l, v.length ≤ 40) := by
  unfold law33_Long_m
  refine bind_loop_ex (fun s => ∃ (i : Nat) (n : Int), s = (n, (i : Int)) ∧ i ≤ l.length ∧ ∀ v ∈ l.take i, v.length ≤ 40) (fun e => (e = .inl () ∧ ∀ v ∈ l, v.length ≤ 40) ∨ e = .inr true) (fun s => l.length - s.2.toNat) ?_ ⟨0, 0, rfl, by omega, by simp⟩ ?_
  · rintro _ ⟨i, n, rfl, hi, ht⟩
    by_cases hlt : i < l.length
    · have g := List.getElem?_eq_getElem hlt
      by_cases h1 : 40 < l[i].length
      · exact .inr ⟨.inr true, bind_eq rfl <| bind_eq (dT (by omega)) <| bif_t rfl <| bind_eq (geti_nat g) <| bind_eq rfl <| bind_eq (dT (by omega)) <| bif_t rfl rfl, .inr rfl⟩
      · obtain ⟨e, he, -⟩ := loopM_inv (body := fun (s : Int × Int) => match s with | ⟨y3, y5⟩ => (show Option ((Int × Int) ⊕ Int) from (geti l (i : Int)).bind fun x21 => (some (x21.length : Int)).bind fun x23 => (some (decide ((y5 : Int) < x23))).bind fun x24 => (bif x24 then (some (IntKind.i64.wrap (y3 + 1))).bind fun x28 => (geti l (i : Int)).bind fun x31 => (geti x31 y5).bind fun ⟨⟨x34_0, x34_1⟩, ⟨x34_2, x34_3⟩⟩ => (some (x34_1.length : Int)).bind fun x38 => (some (min (100 : Int) x38)).bind fun x39 => (some (IntKind.i64.wrap (x28 + x39))).bind fun x40 => (geti l (i : Int)).bind fun x43 => (geti x43 y5).bind fun ⟨⟨x46_0, x46_1⟩, ⟨x46_2, x46_3⟩⟩ => (some (x46_3.length : Int)).bind fun x50 => (some (min (100 : Int) x50)).bind fun x51 => (some (IntKind.i64.wrap (x40 + x51))).bind fun x52 => (some (IntKind.i64.wrap (y5 + 1))).bind fun x26 => some (.inl (x52, x26)) else some (.inr y3))))
          (s := (n, 0)) (fun s => ∃ (k : Nat) (m : Int), s = (m, (k : Int)) ∧ k ≤ l[i].length) (fun _ => True) (fun s => l[i].length - s.2.toNat) (by
            rintro _ ⟨k, m, rfl, hk⟩
            by_cases hk2 : k < l[i].length
            · have gk := List.getElem?_eq_getElem hk2
              generalize l[i][k] = q at gk
              refine .inl ⟨(_, ((k + 1 : Nat) : Int)), bind_eq (geti_nat g) <| bind_eq rfl <| bind_eq (dT (by omega)) <| bif_t rfl <| bind_eq rfl <| bind_eq (geti_nat g) <| bind_eq (geti_nat gk) <| bind_eq rfl <| bind_eq rfl <| bind_eq rfl <| bind_eq (geti_nat g) <| bind_eq (geti_nat gk) <| bind_eq rfl <| bind_eq rfl <| bind_eq rfl <| bind_eq (congrArg some (w64_succ (by omega))) rfl, ⟨k + 1, _, rfl, hk2⟩, by simp only [Int.toNat_natCast]; omega⟩
            · exact .inr ⟨m, bind_eq (geti_nat g) <| bind_eq rfl <| bind_eq (dF (by omega)) <| bif_f rfl rfl, trivial⟩) ⟨0, n, rfl, by omega⟩
        by_cases h2 : 400 < e
        · exact .inr ⟨.inr true, bind_eq rfl <| bind_eq (dT (by omega)) <| bif_t rfl <| bind_eq (geti_nat g) <| bind_eq rfl <| bind_eq (dF (by omega)) <| bif_f rfl <| bind_eq he <| bind_eq (dT h2) <| bif_t rfl rfl, .inr rfl⟩
        · refine .inl ⟨(e, ((i + 1 : Nat) : Int)), bind_eq rfl <| bind_eq (dT (by omega)) <| bif_t rfl <| bind_eq (geti_nat g) <| bind_eq rfl <| bind_eq (dF (by omega)) <| bif_f rfl <| bind_eq he <| bind_eq (dF h2) <| bif_f rfl <| bind_eq (congrArg some (w64_succ (by omega))) rfl, ⟨i + 1, e, rfl, hlt, ?_⟩, by simp only [Int.toNat_natCast]; omega⟩
          rw [List.take_add_one, g]
          intro u hu
          rcases List.mem_append.1 hu with h | h
          · exact ht u h
          · simp at h; rw [h]; omega
    · refine .inr ⟨.inl (), bind_eq rfl <| bind_eq (dF (by omega)) <| bif_f rfl rfl, .inl ⟨rfl, ?_⟩⟩
      rw [List.take_of_length_le (by omega)] at ht; exact ht
  · rintro e (⟨rfl, he⟩ | rfl)
    · exact ⟨false, rfl, fun _ => he⟩
    · exact ⟨true, rfl, fun h => by cases h⟩
end Go.Proofs.YtegdplnhkjpmkaaGreat
namespace Go.Proofs.YtegdplnhkjpmkaaGreat
open Go.Fw
def owQ (a p r n : Rat) : Rat := a * p + n * (r - a)
theorem owed {L : Nat} {a p r n : Qr} {x y z w : Rat} (ha : Rep L a x) (hp : Rep L p y) (hr : Rep L r z) (hn : Rep L n w) (h : 5 * L + 2 ≤ 4000000000) : ∃ q, settle_Owed_m a p r n = some q ∧ Rep (5 * L + 2) q (owQ x y z w) := by
  obtain ⟨q1, e1, r1⟩ := ha.mul' hp (by omega)
  obtain ⟨q2, e2, r2⟩ := hr.sub' ha (by omega)
  obtain ⟨q3, e3, r3⟩ := hn.mul' r2 (by omega)
  obtain ⟨q4, e4, r4⟩ := r1.add' r3 (by omega)
  refine ⟨q4, ?_, r4.mono (by omega)⟩
  unfold settle_Owed_m
  exact bind_eq e1 <| bind_eq e2 <| bind_eq e3 <| bind_eq e4 rfl
theorem selem (a : List Qr) (i : Nat) : settle_element_m a (i : Int) = some (qat a i) := by
  unfold settle_element_m qat
  by_cases h : i < a.length
  · exact bind_eq rfl <| bind_eq (dF (by omega)) <| bif_f rfl <| bind_eq (geti_nat (get_getD' (d := qz) h)) rfl
  · refine bind_eq rfl <| bind_eq (dT (by omega)) <| bif_t rfl ?_
    rw [getD_of_le' (by omega)]; rfl
def AtOk (at' : List Int) (n : Nat) : Prop := ∀ x ∈ at', 0 ≤ x ∧ x < n
def owF (at' : List Int) (ka fa kr fr : Nat → Rat) (i : Nat) : Rat := owQ (ka i) (fa (at'.getD i 0).toNat) (kr i) (fr (at'.getD i 0).toNat)
theorem amounts {L : Nat} {at' : List Int} {pa ga ta pr gr tr : List Qr} {fa ka fr kr : Nat → Rat} (h1 : RepV L pa fa) (h2 : RepV L ga ka) (h3 : RepV L pr fr) (h4 : RepV L gr kr) (hn : at'.length ≤ 1000) (hL : 5 * L + 2 ≤ 4000000000) :
    ∃ r, settle_amountsU_m at' ⟨pa, ga, ta⟩ ⟨pr, gr, tr⟩ = some r ∧ ((AtOk at' (min pa.length pr.length) ∧ r.2 = 0 ∧ r.1.length = at'.length ∧ RepV (5 * L + 2) r.1 (fun i => if i < at'.length then owF at' ka fa kr fr i else 0)) ∨ (¬ AtOk at' (min pa.length pr.length) ∧ r = ([], 1))) := by
  unfold settle_amountsU_m
  have l1 : (1 : Nat) ≤ 5 * L + 2 := by omega
  refine (fun (H : ∃ r, _ = some r ∧ _) => H) ?_
  have hmk := mkM_of (b := 64) (z := (⟨⟨false, []⟩, ⟨false, []⟩⟩ : Qr)) (by omega) (show at'.length ≤ 1000000000000 by omega)
  have hmin := min_len pa pr
  show ∃ r, (Option.bind (some ga) _) = some r ∧ _
  rw [bsm, show settle_Units_1_m ⟨pr, gr, tr⟩ = some gr from rfl, bsm, bsm, bsm, hmin, bsm, bsm, hmk, bsm, bsm]
  refine bind_loop_ex (fun s => ∃ (j : Nat) (l : List Qr), s = ((j : Int), l) ∧ j ≤ at'.length ∧ l.length = at'.length ∧ (∀ i, i < j → 0 ≤ at'.getD i 0 ∧ at'.getD i 0 < ((min pa.length pr.length : Nat) : Int)) ∧ ∀ i q, i < j → l[i]? = some q → Rep (5 * L + 2) q (owF at' ka fa kr fr i))
    (fun e => (∃ l, e = .inl l ∧ l.length = at'.length ∧ AtOk at' (min pa.length pr.length) ∧ ∀ i q, l[i]? = some q → Rep (5 * L + 2) q (owF at' ka fa kr fr i)) ∨ (e = .inr ([], 1) ∧ ¬ AtOk at' (min pa.length pr.length)))
    (fun s => at'.length - s.1.toNat) ?_ ⟨0, _, rfl, by omega, by simp, fun i hi => by omega, fun i q hi => by omega⟩ ?_
  · rintro _ ⟨j, l, rfl, hj, hl, hok, hrep⟩
    by_cases hlt : j < at'.length
    · have g := get_getD' (l := at') (d := 0) hlt
      by_cases hb : 0 ≤ at'.getD j 0 ∧ at'.getD j 0 < ((min pa.length pr.length : Nat) : Int)
      · left
        obtain ⟨k, hk⟩ : ∃ k : Nat, at'.getD j 0 = (k : Int) := ⟨(at'.getD j 0).toNat, by omega⟩
        obtain ⟨p1, e1, r1⟩ := h1.get (show k < pa.length by omega)
        obtain ⟨p2, e2, r2⟩ := h3.get (show k < pr.length by omega)
        obtain ⟨q, e3, r3⟩ := owed (h2.at j) r1 (h4.at j) r2 hL
        have hF : owF at' ka fa kr fr j = owQ (ka j) (fa k) (kr j) (fr k) := by unfold owF; rw [hk, Int.toNat_natCast]
        rw [hk] at g hb
        refine ⟨(((j + 1 : Nat) : Int), l.set j q), ?_, ⟨j + 1, _, rfl, hlt, by simp [hl], ?_, ?_⟩, by simp only [Int.toNat_natCast]; omega⟩
        · refine bind_eq (dT (by omega)) <| bif_t rfl <| bind_eq (geti_nat g) <| letJ_of ?_
          refine bind_eq (dF (by omega)) <| bind_eq (a := false) (bif_f rfl <| bind_eq (dF (by omega)) rfl) <| bif_f rfl ?_
          exact bind_eq (selem _ _) <| bind_eq (geti_nat e1) <| bind_eq (selem _ _) <| bind_eq (geti_nat e2) <| bind_eq e3 <| bind_eq (cki_nat (by omega)) <| bind_eq (stM_of (by omega)) <| bind_eq (congrArg some (w64_succ (by omega))) rfl
        · intro i hi
          rcases Nat.lt_or_ge i j with q' | q'
          · exact hok i q'
          · obtain rfl : i = j := by omega
            rw [hk]; exact hb
        · intro i q' hi hq
          rw [List.getElem?_set] at hq
          by_cases e : j = i
          · subst e
            rw [if_pos rfl, if_pos (by omega)] at hq
            rw [← Option.some.inj hq, hF]; exact r3
          · rw [if_neg e] at hq
            exact hrep i q' (by omega) hq
      · refine .inr ⟨.inr ([], 1), ?_, .inr ⟨rfl, fun ha => ?_⟩⟩
        · refine bind_eq (dT (by omega)) <| bif_t rfl <| bind_eq (geti_nat g) <| letJ_of ?_
          by_cases h0 : at'.getD j 0 < 0
          · exact bind_eq (dT h0) <| bind_eq (a := true) (bif_t rfl rfl) <| bif_t rfl rfl
          · exact bind_eq (dF h0) <| bind_eq (a := true) (bif_f rfl <| bind_eq (dT (by omega)) rfl) <| bif_t rfl rfl
        · have hm : at'.getD j 0 ∈ at' := by rw [List.getD_eq_getElem?_getD, List.getElem?_eq_getElem hlt]; exact List.getElem_mem hlt
          exact hb (ha _ hm)
    · refine .inr ⟨.inl l, bind_eq (dF (by omega)) <| bif_f rfl rfl, .inl ⟨l, rfl, hl, fun x hx => ?_, fun i q hq => hrep i q ?_ hq⟩⟩
      · obtain ⟨i, hi, rfl⟩ := List.mem_iff_getElem.1 hx
        have := hok i (by omega)
        rwa [List.getD_eq_getElem?_getD, List.getElem?_eq_getElem hi] at this
      · have := (List.getElem?_eq_some_iff.1 hq).1; omega
  · rintro e (⟨l, rfl, hl, ha, hr⟩ | ⟨rfl, ha⟩)
    · exact ⟨(l, 0), rfl, .inl ⟨ha, rfl, hl, RepV.of hl hr l1⟩⟩
    · exact ⟨([], 1), rfl, .inr ⟨ha, rfl⟩⟩
theorem units_of {at' : List Int} {a b : Sd} {r : List Qr × Int} (h : settle_amountsU_m at' a b = some r) : settle_Units_m at' a b = some r := by
  unfold settle_Units_m; exact bind_eq h rfl
theorem bids_of {at' : List Int} {a b : Sd} {r : List Qr × Int} (h : settle_amountsB_m at' a b = some r) : settle_Bids_m at' a b = some r := by
  unfold settle_Bids_m; exact bind_eq h rfl
theorem units {L : Nat} {at' : List Int} {pa ga ta pr gr tr : List Qr} {fa ka fr kr : Nat → Rat} (h1 : RepV L pa fa) (h2 : RepV L ga ka) (h3 : RepV L pr fr) (h4 : RepV L gr kr) (hn : at'.length ≤ 1000) (hL : 5 * L + 2 ≤ 4000000000) (ha : AtOk at' (min pa.length pr.length)) :
    ∃ v, settle_Units_m at' ⟨pa, ga, ta⟩ ⟨pr, gr, tr⟩ = some (v, 0) ∧ v.length = at'.length ∧ RepV (5 * L + 2) v (fun i => if i < at'.length then owF at' ka fa kr fr i else 0) := by
  obtain ⟨⟨v, e⟩, h, hr | hr⟩ := amounts (ta := ta) (tr := tr) h1 h2 h3 h4 hn hL
  · obtain ⟨_, rfl, h5, h6⟩ := hr
    exact ⟨v, units_of h, h5, h6⟩
  · exact absurd ha hr.1
theorem bids {L : Nat} {at' : List Int} {pa ga ta pr gr tr : List Qr} {fa ka fr kr : Nat → Rat} (h1 : RepV L pa fa) (h2 : RepV L ta ka) (h3 : RepV L pr fr) (h4 : RepV L tr kr) (hn : at'.length ≤ 1000) (hL : 5 * L + 2 ≤ 4000000000) (ha : AtOk at' (min pa.length pr.length)) :
    ∃ v, settle_Bids_m at' ⟨pa, ga, ta⟩ ⟨pr, gr, tr⟩ = some (v, 0) ∧ v.length = at'.length ∧ RepV (5 * L + 2) v (fun i => if i < at'.length then owF at' ka fa kr fr i else 0) := by
  obtain ⟨⟨v, e⟩, h, hr | hr⟩ := amounts (ta := ga) (tr := gr) h1 h2 h3 h4 hn hL
  · obtain ⟨_, rfl, h5, h6⟩ := hr
    exact ⟨v, bids_of h, h5, h6⟩
  · exact absurd ha hr.1
theorem units_no {L : Nat} {at' : List Int} {pa ga ta pr gr tr : List Qr} {fa ka fr kr : Nat → Rat} (h1 : RepV L pa fa) (h2 : RepV L ga ka) (h3 : RepV L pr fr) (h4 : RepV L gr kr) (hn : at'.length ≤ 1000) (hL : 5 * L + 2 ≤ 4000000000) (ha : ¬ AtOk at' (min pa.length pr.length)) :
    settle_Units_m at' ⟨pa, ga, ta⟩ ⟨pr, gr, tr⟩ = some ([], 1) := by
  obtain ⟨r, h, hr | hr⟩ := amounts (ta := ta) (tr := tr) h1 h2 h3 h4 hn hL
  · exact absurd hr.1 ha
  · rw [hr.2] at h; exact units_of h
theorem total {L : Nat} {v : List Qr} {f : Nat → Rat} (h : RepV L v f) (hL : (v.length + 1) * (L + 1) + 1 ≤ 4000000000) : ∃ q, settle_total_m v = some q ∧ Rep (v.length * (L + 1) + 1) q (sumQ f v.length) := by
  have hlen : v.length ≤ 4000000000 := by
    have : v.length * 1 ≤ v.length * (L + 1) := Nat.mul_le_mul_left _ (by omega)
    rw [Nat.add_mul] at hL; omega
  unfold settle_total_m
  rw [bsm]
  refine bind_loop_ex (fun s => ∃ (j : Nat) (q : Qr), s = ((j : Int), q.num.neg, q.num.w, q.den.neg, q.den.w) ∧ j ≤ v.length ∧ Rep (j * (L + 1) + 1) q (sumQ f j)) (fun e => ∃ q : Qr, e = (q.num.neg, q.num.w, q.den.neg, q.den.w) ∧ Rep (v.length * (L + 1) + 1) q (sumQ f v.length)) (fun s => v.length - s.1.toNat) ?_ ⟨0, qz, rfl, by omega, by rw [Nat.zero_mul]; exact rep_zero (by omega)⟩ ?_
  · rintro _ ⟨j, q, rfl, hj, hq⟩
    by_cases hlt : j < v.length
    · obtain ⟨p, e1, r1⟩ := h.get hlt
      have hj2 : j * (L + 1) ≤ v.length * (L + 1) := Nat.mul_le_mul_right _ (by omega)
      rw [Nat.add_mul] at hL
      obtain ⟨q2, e2, r2⟩ := hq.add' r1 (by omega)
      refine .inl ⟨(((j + 1 : Nat) : Int), q2.num.neg, q2.num.w, q2.den.neg, q2.den.w), ?_, ⟨j + 1, q2, rfl, hlt, r2.mono (by rw [Nat.add_mul]; omega)⟩, by simp only [Int.toNat_natCast]; omega⟩
      exact bind_eq (dT (by omega)) <| bif_t rfl <| bind_eq (geti_nat e1) <| bind_eq e2 <| bind_eq (congrArg some (w64_succ (by omega))) rfl
    · obtain rfl : j = v.length := by omega
      exact .inr ⟨_, bind_eq (dF (by omega)) <| bif_f rfl rfl, q, rfl, hq⟩
  · rintro _ ⟨q, rfl, hq⟩
    exact ⟨q, rfl, hq⟩
theorem rest {L M : Nat} {u v : List Qr} {f g : Nat → Rat} (h : RepV L u f) (k : RepV M v g) (hL : (u.length + 1) * (L + 1) + 1 + ((v.length + 1) * (M + 1) + 1) ≤ 4000000000) :
    ∃ q, settle_Rest_m u v = some q ∧ Rep (u.length * (L + 1) + 1 + (v.length * (M + 1) + 1) + 1) q (sumQ f u.length - sumQ g v.length) := by
  obtain ⟨q1, e1, r1⟩ := total h (by omega)
  obtain ⟨q2, e2, r2⟩ := total k (by omega)
  have a1 : u.length * (L + 1) ≤ (u.length + 1) * (L + 1) := Nat.mul_le_mul_right _ (by omega)
  have a2 : v.length * (M + 1) ≤ (v.length + 1) * (M + 1) := Nat.mul_le_mul_right _ (by omega)
  obtain ⟨q3, e3, r3⟩ := r1.sub' r2 (by omega)
  refine ⟨q3, ?_, r3⟩
  unfold settle_Rest_m
  exact bind_eq e1 <| bind_eq e2 <| bind_eq e3 rfl
def maxL (l : List (List Qr)) : Nat → Nat
  | 0 => 0
  | j + 1 => max (maxL l j) (l.getD j []).length
theorem sumV_len (l : List (List Qr)) : ∀ j, (sumV l j).length = maxL l j
  | 0 => rfl
  | j + 1 => by rw [sumV, vq_len, maxL, sumV_len l j]
theorem day {L : Nat} {l : List (List Qr)} (hl : ∀ v ∈ l, RepV L v (vval v) ∧ v.length ≤ 1000) (h1 : 1 ≤ L) (h : (l.length + 1) * (L + 1) + 1 ≤ 4000000000) : ∃ v, settle_Day_m l = some v ∧ RepV (l.length * (L + 1) + 1) v (sumF l l.length) ∧ v.length = maxL l l.length := by
  refine ⟨sumV l l.length, ?_, (sumV_rep hl h1 _ (Nat.le_refl _)).1, sumV_len _ _⟩
  unfold settle_Day_m
  exact bind_eq (vsum hl h1 h) rfl
theorem is36 {L : Nat} {q : Qr} {x : Rat} {n : Int} (h : Rep L q x) (hn : i64ok n) (e : x = (n : Rat)) (hL : L + 2 ≤ 4000000000) : law36_is_m q n = some true := by
  obtain ⟨p, e1, r1⟩ := int' hn
  unfold law36_is_m
  exact bind_eq e1 <| bind_eq (h.eqT r1 e hL) rfl
end Go.Proofs.YtegdplnhkjpmkaaGreat
namespace Go.Proofs.YtegdplnhkjpmkaaGreat
open Go.Fw
theorem isAt {L : Nat} {v : List Qr} {f : Nat → Rat} (h : RepV L v f) {i : Nat} (hi : i < v.length) {n : Int} (hn : i64ok n) (e : f i = (n : Rat)) (hL : L + 2 ≤ 4000000000) : ∃ q, v[i]? = some q ∧ law36_is_m q n = some true := by
  obtain ⟨q, hq, rq⟩ := h.get hi
  exact ⟨q, hq, is36 rq hn e hL⟩
theorem atok1 {n : Nat} {x : Int} (h : 0 ≤ x ∧ x < n) : AtOk [x] n := fun y hy => by simp at hy; rw [hy]; exact h
theorem awake36 : law36_awake_m = some true := by
  obtain ⟨v1, e1, r1, l1⟩ := vints' (l := [20, 25]) (by decide) (by decide)
  obtain ⟨v2, e2, r2, l2⟩ := vints' (l := [10]) (by decide) (by decide)
  obtain ⟨v4, e4, r4, l4⟩ := vints' (l := [30, 30]) (by decide) (by decide)
  obtain ⟨v5, e5, r5, l5⟩ := vints' (l := [7]) (by decide) (by decide)
  have hm : min v1.length v4.length = 2 := by rw [l1, l4]; rfl
  obtain ⟨u1, f1, m1, s1⟩ := units (at' := [0]) (ta := v2) (tr := v5) r1 r2 r4 r5 (by decide) (by decide) (by rw [hm]; exact atok1 (by decide))
  obtain ⟨u2, f2, m2, s2⟩ := bids (at' := [1]) (ga := v2) (gr := v5) r1 r2 r4 r5 (by decide) (by decide) (by rw [hm]; exact atok1 (by decide))
  have f3 := units_no (at' := [2]) (ta := v2) (tr := v5) r1 r2 r4 r5 (by decide) (by decide) (by rw [hm]; exact fun h => by have := h 2 (by simp); omega)
  obtain ⟨q1, g1, t1⟩ := int' (n := 10) (by decide)
  obtain ⟨q2, g2, t2⟩ := int' (n := 20) (by decide)
  obtain ⟨q3, g3, t3⟩ := int' (n := 7) (by decide)
  obtain ⟨q4, g4, t4⟩ := int' (n := 30) (by decide)
  obtain ⟨q5, g5, t5⟩ := owed t1 t2 t3 t4 (by decide)
  have i1 := is36 (n := 110) t5 (by decide) (by decide +kernel) (by decide)
  have n1 : u1.length = 1 := m1
  have n2 : u2.length = 1 := m2
  obtain ⟨p1, a1, b1⟩ := isAt (i := 0) s1 (by omega) (n := 110) (by decide) (by decide +kernel) (by decide)
  obtain ⟨p2, a2, b2⟩ := isAt (i := 0) s2 (by omega) (n := 160) (by decide) (by decide +kernel) (by decide)
  obtain ⟨q6, g6, t6⟩ := rest s2 s1 (by rw [n1, n2]; decide)
  have i2 := is36 (n := 50) t6 (by decide) (by rw [n1, n2]; decide +kernel) (by rw [n1, n2]; decide)
  unfold law36_awake_m
  refine bind_eq e1 <| bind_eq e2 <| bind_eq e2 <| bind_eq e4 <| bind_eq e5 <| bind_eq e5 <| bind_eq f1 <| bind_eq f2 <| bind_eq f3 <| letJ_of ?_
  refine bind_eq g1 <| bind_eq g2 <| bind_eq g3 <| bind_eq g4 <| bind_eq g5 <| bind_eq i1 <| andT (bind_eq rfl rfl) <| andT (bind_eq rfl <| bind_eq (dT (by omega)) rfl) ?_
  refine andT (bind_eq (geti_zero a1) <| bind_eq b1 rfl) <| andT (bind_eq rfl rfl) <| andT (bind_eq rfl <| bind_eq (dT (by omega)) rfl) <| andT (bind_eq (geti_zero a2) <| bind_eq b2 rfl) ?_
  exact andT (bind_eq g6 <| bind_eq i2 rfl) <| andT (bind_eq rfl rfl) rfl
end Go.Proofs.YtegdplnhkjpmkaaGreat
namespace Go.Proofs.YtegdplnhkjpmkaaGreat
open Go.Fw
theorem guard {b : Bool} {x y : Option Bool} (ht : b = true → x = some true) (hf : b = false → y = some true) : (bif b then x else y) = some true := by
  cases b
  · rw [cfm]; exact hf rfl
  · rw [ctm]; exact ht rfl
theorem aw : (law36_awake_m.bind fun x => some x) = some true := bind_eq awake36 rfl
def RepL (L : Nat) : List Qr → List Rat → Prop
  | [], [] => True
  | q :: v, x :: l => Rep L q x ∧ RepL L v l
  | _, _ => False
theorem RepL.len {L : Nat} : ∀ {v : List Qr} {l : List Rat}, RepL L v l → v.length = l.length
  | [], [], _ => rfl
  | _ :: _, _ :: _, h => congrArg (· + 1) (RepL.len h.2)
  | [], _ :: _, h => h.elim
  | _ :: _, [], h => h.elim
theorem RepL.get {L : Nat} : ∀ {v : List Qr} {l : List Rat} {i : Nat} {q : Qr}, RepL L v l → v[i]? = some q → Rep L q (l.getD i 0)
  | q' :: _, _ :: _, 0, _, h, e => by simp at e; subst e; exact h.1
  | _ :: v, x :: l, i + 1, _, h, e => RepL.get (v := v) (l := l) (i := i) h.2 (by simpa using e)
  | [], [], _, _, _, e => by simp at e
  | [], _ :: _, _, _, h, _ => h.elim
  | _ :: _, [], _, _, h, _ => h.elim
theorem RepL.v {L : Nat} {v : List Qr} {l : List Rat} (h : RepL L v l) (h1 : 1 ≤ L) : RepV L v (fun i => l.getD i 0) :=
  ⟨fun i hi => h.get (List.getElem?_eq_getElem hi), fun i hi => getD_of_le' (by rw [← h.len]; exact hi), h1⟩
end Go.Proofs.YtegdplnhkjpmkaaGreat
namespace Go.Proofs.YtegdplnhkjpmkaaGreat
open Go.Fw
theorem owedX {L : Nat} {a p r n : Qr} {x y z w : Rat} (ha : Rep L a x) (hp : Rep L p y) (hr : Rep L r z) (hn : Rep L n w) (h : 5 * L + 2 ≤ 4000000000) : settle_Owed_m a p r n = some (qn (owQ x y z w)) ∧ ref36_Owed_m a p r n = some (qn (owQ x y z w)) ∧ FQ (5 * L + 2) (owQ x y z w) := by
  obtain ⟨e1, r1⟩ := ha.mul hp (by omega)
  obtain ⟨e2, r2⟩ := hr.sub ha (by omega)
  obtain ⟨e3, r3⟩ := hn.mul r2 (by omega)
  obtain ⟨e4, r4⟩ := r1.add r3 (by omega)
  have f1 := ha.rmul hp (by omega)
  have f2 := hr.rsub ha (by omega)
  have f3 := hn.rmul r2 (by omega)
  have f4 := r1.radd r3 (by omega)
  have hv : x * y + w * (z - x) = owQ x y z w := rfl
  rw [hv] at e4 f4 r4
  refine ⟨?_, ?_, r4.fq.mono (by omega)⟩
  · unfold settle_Owed_m
    clear r1 r2 r3 r4 ha hp hr hn f1 f2 f3 f4 hv
    generalize qn (x * y) = q1 at *
    generalize qn (z - x) = q2 at *
    generalize qn (w * (z - x)) = q3 at *
    generalize qn (owQ x y z w) = q4 at *
    exact bind_eq e1 <| bind_eq e2 <| bind_eq e3 <| bind_eq e4 rfl
  · unfold ref36_Owed_m
    clear r1 r2 r3 r4 ha hp hr hn e1 e2 e3 e4 hv
    generalize qn (x * y) = q1 at *
    generalize qn (z - x) = q2 at *
    generalize qn (w * (z - x)) = q3 at *
    generalize qn (owQ x y z w) = q4 at *
    exact bind_eq f1 <| bind_eq f2 <| bind_eq f3 <| bind_eq f4 rfl
theorem isrow_self {v : List Qr} (h : ∀ q ∈ v, q.num.w.length ≤ 100000000000 ∧ q.den.w.length ≤ 100000000000) (hl : v.length ≤ 100000000000) : ref33_IsRow_m v v = some true := by
  unfold ref33_IsRow_m
  refine bind_eq rfl <| bind_eq rfl <| bind_eq (dF (by simp)) <| bif_f rfl ?_
  refine bind_loop_to (fun k => (k : Int)) v.length (.inl ()) rfl (fun k hk => ?_) ?_ rfl
  · have g := List.getElem?_eq_getElem hk
    obtain ⟨h1, h2⟩ := h _ (List.getElem_mem hk)
    obtain ⟨c, e, hc⟩ := rIs_eq (a := v[k]) (b := v[k]) h1 h2
    have hc := hc.2 rfl
    subst hc
    generalize v[k] = q at g e
    exact bind_eq rfl <| bind_eq (dT (by omega)) <| bif_t rfl <| bind_eq (geti_nat g) <| bind_eq (geti_nat g) <| bind_eq e <| bind_eq rfl <| bif_f rfl <| bind_eq (congrArg some (w64_succ (by omega))) rfl
  · exact bind_eq rfl <| bind_eq (dF (by omega)) <| bif_f rfl rfl
theorem vq_words {n L : Nat} {h : Nat → Rat} (hf : ∀ i, i < n → FQ L (h i)) (h1 : 1 ≤ L) (hL : L ≤ 10000000000) : ∀ q ∈ vq n h, q.num.w.length ≤ 100000000000 ∧ q.den.w.length ≤ 100000000000 := by
  intro q hq
  obtain ⟨i, hi, rfl⟩ := List.mem_map.1 hq
  have r := (hf i (List.mem_range.1 hi)).rep h1
  exact ⟨Nat.le_trans r.ln (by omega), Nat.le_trans r.ld (by omega)⟩
end Go.Proofs.YtegdplnhkjpmkaaGreat
namespace Go.Proofs.YtegdplnhkjpmkaaGreat
open Go.Fw
theorem rsum36 {L : Nat} {v : List Qr} {f : Nat → Rat} (h : RepV L v f) (hL : (v.length + 1) * (L + 1) + 1 ≤ 4000000000) (hl : v.length ≤ 1000) : ∃ q, ref36_Sum_m v = some q ∧ Rep (v.length * (L + 1) + 1) q (sumQ f v.length) := by
  have fq : ∀ j, FQ (j * (L + 1) + 1) (sumQ f j) := fun j => sumQ_fq (fun i _ => h.fq i)
  refine ⟨qn (sumQ f v.length), ?_, (fq v.length).rep (by omega)⟩
  unfold ref36_Sum_m
  refine bind_loop_to (fun j => ((j : Int), (qn (sumQ f j)).num.neg, (qn (sumQ f j)).num.w, (qn (sumQ f j)).den.neg, (qn (sumQ f j)).den.w)) v.length ((qn (sumQ f v.length)).num.neg, (qn (sumQ f v.length)).num.w, (qn (sumQ f v.length)).den.neg, (qn (sumQ f v.length)).den.w) (by rw [show sumQ f 0 = 0 from rfl, qn_zero]; rfl) (fun j hj => ?_) ?_ rfl
  · obtain ⟨q, g, r⟩ := h.get hj
    have hm : j * (L + 1) + 1 + L ≤ 4000000000 := by
      have := Nat.mul_le_mul_right (L + 1) (show j ≤ v.length by omega)
      rw [Nat.succ_mul] at hL; omega
    have e := ((fq j).rep (by omega)).radd r hm
    rw [show sumQ f j + f j = sumQ f (j + 1) from rfl] at e
    clear r
    generalize qn (sumQ f j) = p at *
    generalize qn (sumQ f (j + 1)) = p' at *
    exact bind_eq rfl <| bind_eq (dT (by omega)) <| bif_t rfl <| bind_eq (geti_nat g) <| bind_eq e <| bind_eq (congrArg some (w64_succ (by omega))) rfl
  · exact bind_eq rfl <| bind_eq (dF (by omega)) <| bif_f rfl rfl
theorem restX {u v : List Qr} {f g : Nat → Rat} (h : RepV 1048576 u f) (k : RepV 1048576 v g) (hu : u.length ≤ 40) (hv : v.length ≤ 40) : ∃ q, settle_Rest_m u v = some q ∧ ref36_Rest_m u v = some q ∧ ref02_Is_m q q = some true := by
  obtain ⟨p1, e1, r1⟩ := total h (by omega)
  obtain ⟨p2, e2, r2⟩ := total k (by omega)
  obtain ⟨p3, e3, r3⟩ := rsum36 h (by omega) (by omega)
  obtain ⟨p4, e4, r4⟩ := rsum36 k (by omega) (by omega)
  obtain ⟨e5, r5⟩ := r1.sub r2 (by omega)
  have e6 := r3.rsub r4 (by omega)
  have e7 := r5.ris_self (by omega)
  refine ⟨qn (sumQ f u.length - sumQ g v.length), ?_, ?_, e7⟩
  · unfold settle_Rest_m
    clear e6 e7 r5 r1 r2
    generalize qn (sumQ f u.length - sumQ g v.length) = p at *
    exact bind_eq e1 <| bind_eq e2 <| bind_eq e5 rfl
  · unfold ref36_Rest_m
    clear e5 e7 r5 r3 r4
    generalize qn (sumQ f u.length - sumQ g v.length) = p at *
    exact bind_eq e3 <| bind_eq e4 <| bind_eq e6 rfl
theorem rday {L : Nat} {l : List (List Qr)} (hl : ∀ v ∈ l, RepV L v (vval v) ∧ v.length ≤ 1000) (h1 : 1 ≤ L) (h : (l.length + 1) * (L + 1) + 1 ≤ 4000000000) (hn : l.length ≤ 1000) : ref36_Day_m l = some (vq (maxL l l.length) (sumF l l.length)) := by
  have mx : ∀ j, j ≤ l.length → maxL l j ≤ 1000 := fun j hj => by have := (sumV_rep hl h1 j hj).2; rw [sumV_len] at this; exact this
  have fq : ∀ j k, j ≤ l.length → FQ (j * (L + 1) + 1) (sumF l j k) := fun j k hj => (sumV_rep hl h1 j hj).1.fq k
  unfold ref36_Day_m
  refine bind_loop_to (fun j => (((maxL l j : Nat) : Int), (j : Int))) l.length ((maxL l l.length : Nat) : Int) rfl (fun j hj => ?_) ?_ ?_
  · have g := List.getElem?_eq_getElem hj
    have m : max ((maxL l j : Nat) : Int) (l[j].length : Int) = ((maxL l (j + 1) : Nat) : Int) := by
      have : maxL l (j + 1) = max (maxL l j) (l.getD j []).length := rfl
      rw [this, List.getD_eq_getElem?_getD, g]
      show _ = ((max (maxL l j) l[j].length : Nat) : Int)
      omega
    exact bind_eq rfl <| bind_eq (dT (by omega)) <| bif_t rfl <| bind_eq (geti_nat g) <| bind_eq rfl <| bind_eq (congrArg some m) <| bind_eq (congrArg some (w64_succ (by omega))) rfl
  · exact bind_eq rfl <| bind_eq (dF (by omega)) <| bif_f rfl rfl
  · have m0 := mx l.length (Nat.le_refl _)
    refine bind_loop_to (fun k => ((k : Int), vq k (sumF l l.length))) (maxL l l.length) (vq (maxL l l.length) (sumF l l.length)) rfl (fun k hk => ?_) ?_ rfl
    · refine bind_eq (dT (by omega)) <| bif_t rfl ?_
      refine bind_loop_to (fun j => ((j : Int), (qn (sumF l j k)).num.neg, (qn (sumF l j k)).num.w, (qn (sumF l j k)).den.neg, (qn (sumF l j k)).den.w)) l.length ((qn (sumF l l.length k)).num.neg, (qn (sumF l l.length k)).num.w, (qn (sumF l l.length k)).den.neg, (qn (sumF l l.length k)).den.w) (by rw [show sumF l 0 k = 0 from rfl, qn_zero]; rfl) (fun j hj => ?_) ?_ ?_
      · have g := List.getElem?_eq_getElem hj
        obtain ⟨rv, _⟩ := hl _ (List.getElem_mem hj)
        have hm : j * (L + 1) + 1 + L ≤ 4000000000 := by
          have := Nat.mul_le_mul_right (L + 1) (show j ≤ l.length by omega)
          rw [Nat.succ_mul] at h; omega
        have e := ((fq j k (by omega)).rep (by omega)).radd (rv.at k) hm
        rw [show sumF l j k + vval l[j] k = sumF l (j + 1) k by show _ = sumF l j k + vval (l.getD j []) k; rw [List.getD_eq_getElem?_getD, g]; rfl] at e
        clear rv
        generalize qn (sumF l j k) = p at *
        generalize qn (sumF l (j + 1) k) = p' at *
        generalize l[j] = v at *
        exact bind_eq rfl <| bind_eq (dT (by omega)) <| bif_t rfl <| bind_eq (geti_nat g) <| bind_eq (rat33 _ _) <| bind_eq e <| bind_eq (congrArg some (w64_succ (by omega))) rfl
      · exact bind_eq rfl <| bind_eq (dF (by omega)) <| bif_f rfl rfl
      · rw [vq_succ]
        have ap := apM1 (b := 64) (l := vq k (sumF l l.length)) (x := qn (sumF l l.length k)) (by decide) (by rw [vq_len]; omega)
        generalize qn (sumF l l.length k) = p at *
        exact bind_eq ap <| bind_eq (congrArg some (w64_succ (by omega))) rfl
    · exact bind_eq (dF (by omega)) <| bif_f rfl rfl
theorem sums36_law (a b c d : Qr) (pays receives more : List Qr) (oa : OkQ a) (ob : OkQ b) (oc : OkQ c) (od' : OkQ d) (op : OkV pays) (orr : OkV receives) (om : OkV more) (hs : szQ a + szQ b + szQ c + szQ d + szV pays + szV receives + szV more ≤ 1048576) : law36_SettleSumsMatch_m a b c d pays receives more = some true := by
  obtain ⟨t, ht, hl⟩ := long33 [[a, b, c, d], pays, receives, more] (by simp)
  have ra := repq oa (by omega)
  have rb := repq ob (by omega)
  have rc := repq oc (by omega)
  have rd := repq od' (by omega)
  unfold law36_SettleSumsMatch_m
  refine bind_eq ht <| guard (fun _ => aw) (fun hg => ?_)
  subst hg
  have l1 := hl rfl pays (by simp)
  have l2 := hl rfl receives (by simp)
  have l3 := hl rfl more (by simp)
  have rp := repvu op (by omega)
  have rr := repvu orr (by omega)
  have rm := repvu om (by omega)
  have hall : ∀ v ∈ [pays, receives, more], RepV 1048576 v (vval v) ∧ v.length ≤ 1000 := by intro v hv; simp at hv; rcases hv with rfl | rfl | rfl; exact ⟨rp, by omega⟩; exact ⟨rr, by omega⟩; exact ⟨rm, by omega⟩
  have day : settle_Day_m [pays, receives, more] = some (vq (maxL [pays, receives, more] 3) (sumF [pays, receives, more] 3)) := by
    unfold settle_Day_m
    have e := vsum hall (by decide) (by simp)
    have e2 : sumV [pays, receives, more] [pays, receives, more].length = vq (maxL [pays, receives, more] 3) (sumF [pays, receives, more] 3) := by
      show vq (max (sumV [pays, receives, more] 2).length _) _ = _
      rw [sumV_len]; rfl
    rw [e2] at e
    exact bind_eq e rfl
  have want := rday hall (by decide) (by simp) (by simp)
  have m3 : maxL [pays, receives, more] 3 ≤ 1000 := by have := (sumV_rep hall (by decide) 3 (by simp)).2; rw [sumV_len] at this; exact this
  have isr : ref33_IsRow_m (vq (maxL [pays, receives, more] 3) (sumF [pays, receives, more] 3)) (vq (maxL [pays, receives, more] 3) (sumF [pays, receives, more] 3)) = some true := isrow_self (vq_words (L := 3 * (1048576 + 1) + 1) (fun i _ => (sumV_rep hall (by decide) 3 (by simp)).1.fq i) (by decide) (by decide)) (by rw [vq_len]; omega)
  replace want : ref36_Day_m [pays, receives, more] = some (vq (maxL [pays, receives, more] 3) (sumF [pays, receives, more] 3)) := want
  generalize vq (maxL [pays, receives, more] 3) (sumF [pays, receives, more] 3) = w at *
  refine bind_eq want ?_
  obtain ⟨o1, o2, o3⟩ := owedX ra rb rc rd (by decide)
  have o4 := (o3.rep (by decide)).ris_self (by decide)
  generalize qn (owQ (qv a) (qv b) (qv c) (qv d)) = z at *
  obtain ⟨y, s1, s2, s3⟩ := restX rp rr l1 l2
  have d0 : settle_Day_m [] = some [] := by
    unfold settle_Day_m
    have e := vsum (L := 1) (l := []) (by simp) (by decide) (by simp)
    exact bind_eq e rfl
  refine bind_loop_to (fun k => (k : Int)) 2 (.inl ()) rfl (fun k hk => ?_) ?_ ?_
  · exact bind_eq (dT (by omega)) <| bif_t rfl <| bind_eq day <| bind_eq isr <| bind_eq rfl <| bif_f rfl <| bind_eq (congrArg some (w64_succ (by omega))) rfl
  · exact bind_eq (dF (by decide)) <| bif_f rfl rfl
  · exact letJ_of <| bind_eq o1 <| bind_eq o2 <| bind_eq o4 <| andT (bind_eq s1 <| bind_eq s2 <| bind_eq s3 rfl) <| andT (bind_eq d0 <| bind_eq rfl <| bind_eq (dT rfl) rfl) <| andT aw rfl
end Go.Proofs.YtegdplnhkjpmkaaGreat
namespace Go.Proofs.YtegdplnhkjpmkaaGreat
open Go.Fw Go.RowKit Go.ChangeShapes Go.WideShapes Go.ChangeAt
set_option linter.unusedVariables false
set_option maxRecDepth 100000 in
theorem settleSumsMatchUpto_contract (H : Type) (enc : TypeId × Value → H) (W : World) (base : Nat) (args : Array Value) (ds gs : List (DataW H)) (before : List MemPlace)
    (hval : ∀ (j : Nat) t v, Tryz.f3.params[j]? = some t → args[j]? = some v → Value.okWide Tryz.prog W .any base t v)
    (hW : DataW.Whole enc Tryz.prog Tryz.f3.params.toList Rows.settleSumsMatchSpec.vars false W args.toList ds gs before) (hk : Rows.uptoSmall H (ds ++ gs) = true) :
    Calls Tryz.prog 3 args W fun e W' => ∃ v, e = .returned v ∧ Rows.settleSumsMatchSpec.post enc Tryz.prog Tryz.f3 false true false false W args v W' := by
  have hW' := hW
  obtain ⟨p, q, hA0, hV, rfl, hfz, hnd⟩ := hW
  have hA : DataW.TrodAll enc Tryz.prog W 0 (fun _ => true) true Tryz.f3.params.toList args.toList ds p := hA0
  rw [Tryz.params3] at hA hval
  obtain ⟨v0, vs0, d0, ds0, p0, q0, hargs, rfl, rfl, h0, r0⟩ := trodAll_cons hA
  obtain ⟨v1, vs1, d1, ds1, p1, q1, rfl, rfl, rfl, h1, r1⟩ := trodAll_cons r0
  obtain ⟨v2, vs2, d2, ds2, p2, q2, rfl, rfl, rfl, h2, r2⟩ := trodAll_cons r1
  obtain ⟨v3, vs3, d3, ds3, p3, q3, rfl, rfl, rfl, h3, r3⟩ := trodAll_cons r2
  obtain ⟨v4, vs4, d4, ds4, p4, q4, rfl, rfl, rfl, h4, r4⟩ := trodAll_cons r3
  obtain ⟨v5, vs5, d5, ds5, p5, q5, rfl, rfl, rfl, h5, r5⟩ := trodAll_cons r4
  obtain ⟨v6, vs6, d6, ds6, p6, q6, rfl, rfl, rfl, h6, r6⟩ := trodAll_cons r5
  obtain ⟨rfl, rfl, rfl⟩ := trodAll_nil r6
  obtain rfl : args = #[v0, v1, v2, v3, v4, v5, v6] := by cases args; simp_all
  obtain ⟨rfl, rfl⟩ := trodVars_none hV
  have lt0 : ∀ x ∈ p0, x.block < W.heap.size := by obtain ⟨m, hm⟩ := h0; exact DataW.trod_lt m _ _ _ hm
  obtain ⟨x0, ok0, sz0, al0⟩ := arg_agg (P := Tryz.prog) (T := 26) (e := eQ) (hval 0 26 v0 rfl rfl) h0
  have lt1 : ∀ x ∈ p1, x.block < W.heap.size := by obtain ⟨m, hm⟩ := h1; exact DataW.trod_lt m _ _ _ hm
  obtain ⟨x1, ok1, sz1, al1⟩ := arg_agg (P := Tryz.prog) (T := 26) (e := eQ) (hval 1 26 v1 rfl rfl) h1
  have lt2 : ∀ x ∈ p2, x.block < W.heap.size := by obtain ⟨m, hm⟩ := h2; exact DataW.trod_lt m _ _ _ hm
  obtain ⟨x2, ok2, sz2, al2⟩ := arg_agg (P := Tryz.prog) (T := 26) (e := eQ) (hval 2 26 v2 rfl rfl) h2
  have lt3 : ∀ x ∈ p3, x.block < W.heap.size := by obtain ⟨m, hm⟩ := h3; exact DataW.trod_lt m _ _ _ hm
  obtain ⟨x3, ok3, sz3, al3⟩ := arg_agg (P := Tryz.prog) (T := 26) (e := eQ) (hval 3 26 v3 rfl rfl) h3
  have lt4 : ∀ x ∈ p4, x.block < W.heap.size := by obtain ⟨m, hm⟩ := h4; exact DataW.trod_lt m _ _ _ hm
  obtain ⟨x4, ok4, sz4, al4⟩ := arg_one (P := Tryz.prog) (T := 27) (e := (eS 4 eQ)) (hval 4 27 v4 rfl rfl) h4
  have lt5 : ∀ x ∈ p5, x.block < W.heap.size := by obtain ⟨m, hm⟩ := h5; exact DataW.trod_lt m _ _ _ hm
  obtain ⟨x5, ok5, sz5, al5⟩ := arg_one (P := Tryz.prog) (T := 27) (e := (eS 4 eQ)) (hval 5 27 v5 rfl rfl) h5
  have lt6 : ∀ x ∈ p6, x.block < W.heap.size := by obtain ⟨m, hm⟩ := h6; exact DataW.trod_lt m _ _ _ hm
  obtain ⟨x6, ok6, sz6, al6⟩ := arg_one (P := Tryz.prog) (T := 27) (e := (eS 4 eQ)) (hval 6 27 v6 rfl rfl) h6
  have hsz : Rows.uptoBulk d0 + Rows.uptoBulk d1 + Rows.uptoBulk d2 + Rows.uptoBulk d3 + Rows.uptoBulk d4 + Rows.uptoBulk d5 + Rows.uptoBulk d6 ≤ 1048576 := by
    have := of_decide_eq_true hk; simp only [List.cons_append, List.nil_append, List.append_nil, Rows.uptoBulkAll] at this; omega
  clear hA0
  refine (said_of (law36_SettleSumsMatch_ok (sums36_law x0 x1 x2 x3 x4 x5 x6 ok0 ok1 ok2 ok3 ok4 ok5 ok6 (Nat.le_trans (Nat.add_le_add (Nat.add_le_add (Nat.add_le_add (Nat.add_le_add (Nat.add_le_add (Nat.add_le_add sz0 sz1) sz2) sz3) sz4) sz5) sz6) hsz))) (W := W) (vs := [v0, v1, v2, v3, v4, v5, v6]) ⟨al0, al1, al2, al3, al4.1, al5.1, al6.1, trivial⟩).mono fun e W' ⟨he, bel⟩ => ?_
  subst he
  exact ⟨_, rfl, _, _, _, [], _, [], hW', trodAll_mk1 (shut_bool Tryz.underlying4 _), (trodAll_cons_mk (Below.trod laidOut_ (by kernel_rfl) (of_decide_eq_true (by kernel_rfl)) h0 bel lt0) (trodAll_cons_mk (Below.trod laidOut_ (by kernel_rfl) (of_decide_eq_true (by kernel_rfl)) h1 bel lt1) (trodAll_cons_mk (Below.trod laidOut_ (by kernel_rfl) (of_decide_eq_true (by kernel_rfl)) h2 bel lt2) (trodAll_cons_mk (Below.trod laidOut_ (by kernel_rfl) (of_decide_eq_true (by kernel_rfl)) h3 bel lt3) (trodAll_cons_mk (Below.trod laidOut_ (by kernel_rfl) (of_decide_eq_true (by kernel_rfl)) h4 bel lt4) (trodAll_cons_mk (Below.trod laidOut_ (by kernel_rfl) (of_decide_eq_true (by kernel_rfl)) h5 bel lt5) (trodAll_cons_mk (Below.trod laidOut_ (by kernel_rfl) (of_decide_eq_true (by kernel_rfl)) h6 bel lt6) trodAll_mk0))))))), rfl, bel.frame _, fun h => by cases h⟩
set_option maxRecDepth 100000 in
theorem settleSumsMatchUpto_lifted (os : Os) (started : os.Started) (H : Type) (enc : TypeId × Value → H) (F : Stop.Interp) :
    ReturnsInHanded {} Tryz.checked os 3 .any ((Rows.OpenSpec.upto Rows.settleSumsMatchSpec).pre6 enc Tryz.prog Tryz.f3 Rows.settleSumsMatchUptoRow.domain false) (((Rows.OpenSpec.upto Rows.settleSumsMatchSpec).at F).post enc Tryz.prog Tryz.f3 false true false false) := by
  refine returnsInHanded_of_cond (C := Tryz.checked) (s := Rows.OpenSpec.upto Rows.settleSumsMatchSpec) (k := Rows.uptoSmall) rfl own_ started (by kernel_rfl) Tryz.func3
    (OpenSpec.witness (enc := enc) (C := Tryz.checked) (s := Rows.OpenSpec.upto Rows.settleSumsMatchSpec) (k := Rows.uptoSmall) rfl false ⟨#[], #[.agg #[.bool false, .slice none 0 0, .bool false, .slice none 0 0], .agg #[.bool false, .slice none 0 0, .bool false, .slice none 0 0], .agg #[.bool false, .slice none 0 0, .bool false, .slice none 0 0], .agg #[.bool false, .slice none 0 0, .bool false, .slice none 0 0], .slice none 0 0, .slice none 0 0, .slice none 0 0], []⟩ 8 (by kernel_rfl) (by kernel_rfl) (by kernel_rfl)
      (x := ([.agg [.agg [.lit (.bool false), .nil], .agg [.lit (.bool false), .nil]], .agg [.agg [.lit (.bool false), .nil], .agg [.lit (.bool false), .nil]], .agg [.agg [.lit (.bool false), .nil], .agg [.lit (.bool false), .nil]], .agg [.agg [.lit (.bool false), .nil], .agg [.lit (.bool false), .nil]], .nil, .nil, .nil], [], [])) (by kernel_rfl) rfl (by kernel_rfl)) ?_
  intro W base args ds gs before hval hW _ hk _
  exact settleSumsMatchUpto_contract H enc W base args ds gs before hval hW hk
theorem settleSumsMatchUpto_holds : Rows.SettleSumsMatchUptoSaid :=
  OpenClaim.holds_of_cond 3 Tryz.f3 rfl rfl rfl rfl rfl rfl rfl ⟨rfl, rfl, rfl, rfl, rfl⟩ rfl rfl rfl rfl rfl (by kernel_rfl) Tryz.func3 (by kernel_rfl)
    (of_decide_eq_true (by kernel_rfl)) (by unfold Func.isWrapper; first | (rw [if_pos (by decide +kernel)]; kernel_rfl) | (rw [if_neg (by decide +kernel)]; exact ⟨rfl, rfl⟩))
    (fun os started H enc _ F => settleSumsMatchUpto_lifted os started H enc F)
end Go.Proofs.YtegdplnhkjpmkaaGreat
