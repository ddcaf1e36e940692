/- The law BookExamples answers true for every input. -/
import Derived.Test.YtmiflmkdaeianaaPBX4
set_option linter.unusedVariables false
set_option linter.unusedSimpArgs false
namespace Go.Proofs.Ytmiflmkdaeianaa
open Go.Fw
def rnd (x : Rat) : Int := if x - (x.floor : Rat) < 1 / 2 then x.floor else if 1 / 2 < x - (x.floor : Rat) then x.floor + 1 else if x.floor % 2 = 0 then x.floor else x.floor + 1
theorem fit1 : Fit 1 1 := by unfold Fit; decide
theorem fit2 : Fit 1 2 := by unfold Fit; decide
theorem half2 : Rat.divInt 1 2 = 1 / 2 := by rw [Rat.divInt_eq_div]; simp
theorem mod2_fit (i : Int) : Fit 1 (i % 2) := by
  have h1 := Int.emod_nonneg i (show (2 : Int) ≠ 0 by decide)
  have h2 := Int.emod_lt_of_pos i (show (0 : Int) < 2 by decide)
  unfold Fit
  omega
theorem sign_mod2 (i : Int) : decide ((i % 2).sign = 0) = decide (i % 2 = 0) := by
  congr 1
  exact propext Int.sign_eq_zero_iff_zero
theorem Rep.round {L : Nat} {a : Qr} {x : Rat} (ha : Rep L a x) (h : L ≤ 1000000000) : book_Round_m a = some (zn (rnd x)) := by
  have hf := ha.fq
  have f1 := ha.floor (show L ≤ 10000000000 by omega)
  obtain ⟨n1, r1⟩ := new_eq (n := 1) (d := 2) (by decide) (by decide) (by decide)
  have w1 := fromInt_eq (x := 1) (by decide) (by decide)
  have a1 := add_eq (wl_zn hf.floor (by omega)) (wl_zn fit1 (by decide))
  rw [zi_zn, zi_zn] at a1
  obtain ⟨i1, s1⟩ := fromInteger_rep hf.floor ha.l1 (by omega)
  obtain ⟨q, e, r⟩ := ha.sub' s1 (by omega)
  rw [half2] at n1 r1
  have c1 := r.cmp r1 (by omega)
  have w2 := fromInt_eq (x := 2) (by decide) (by decide)
  have d1 := divMod_eq (wl_zn hf.floor (show L ≤ 10000000000 by omega)) (wl_zn fit2 (by decide))
  rw [zi_zn, zi_zn] at d1
  replace d1 : whole_DivMod_m (zn x.floor) (zn 2) = some (zn (x.floor / 2), zn (x.floor % 2), 0) := d1
  have g1 := sign_eq (wl_zn (mod2_fit x.floor) (by decide))
  rw [zi_zn] at g1
  have hr : zn (rnd x) = if x - (x.floor : Rat) < 1 / 2 then zn x.floor else if 1 / 2 < x - (x.floor : Rat) then zn (x.floor + 1) else if x.floor % 2 = 0 then zn x.floor else zn (x.floor + 1) := by
    unfold rnd
    repeat' split
    all_goals rfl
  rw [hr]
  clear hr s1 r r1
  generalize qn (1 / 2) = q1 at n1 c1
  generalize qn (x.floor : Rat) = q2 at i1 e
  generalize hz0 : zn x.floor = z0 at *
  generalize zn (x.floor + 1) = z1 at *
  generalize zn (x.floor / 2) = z2 at *
  generalize zn (x.floor % 2) = z3 at *
  generalize zn 1 = z4 at *
  generalize zn 2 = z5 at *
  unfold book_Round_m
  refine bind_eq n1 <| bind_eq f1 <| bind_eq w1 <| bind_eq a1 <| bind_eq i1 <| bind_eq e <| bind_eq c1 ?_
  rcases rtri (x - (x.floor : Rat)) (1 / 2) with k | k | k
  · rw [cmpQ_lt k, if_pos k]
    exact bind_eq (dT rfl) <| bif_t rfl rfl
  · rw [k, cmpQ_self, if_neg Rat.lt_irrefl, if_neg Rat.lt_irrefl]
    refine bind_eq (dF (by decide)) <| bif_f rfl <| bind_eq (dF (by decide)) <| bif_f rfl <| bind_eq w2 <| bind_eq d1 <| bind_eq g1 <| bind_eq (congrArg some (sign_mod2 _)) ?_
    by_cases h2 : x.floor % 2 = 0
    · rw [if_pos h2]; exact bif_t (decide_eq_true h2) rfl
    · rw [if_neg h2]; exact bif_f (decide_eq_false h2) rfl
  · rw [cmpQ_gt k, if_neg (by grind), if_pos k]
    exact bind_eq (dF (by decide)) <| bif_f rfl <| bind_eq (dT rfl) <| bif_t rfl rfl
def mvE (n : Int) (len : Nat) (acc : Int) (kd : Nat) (hour : Int) : Int := if ¬ (0 < acc ∧ acc < n) then 1 else if kd < 1 ∨ 4 < kd then 12 else if hour < -1 ∨ 8 ≤ hour then 1 else if 1024 ≤ len then 5 else 0
theorem blank_eq {n : Int} {es : List En} (h : n ≠ 0) : book_Book_blank_m n es = some false := by
  unfold book_Book_blank_m
  exact letJ_of <| bind_eq (a := false) (bif_f rfl <| bind_eq (dF h) rfl) rfl
theorem pays_eq (n : Int) (es : List En) (a : Int) : book_Book_pays_m n es a = some (decide (0 < a ∧ a < n)) := by
  unfold book_Book_pays_m
  refine letJ_of <| bind_eq rfl ?_
  by_cases h : 0 < a
  · exact bind_eq (a := decide (0 < a ∧ a < n)) (bif_t (decide_eq_true h) <| bind_eq rfl (by simp [h])) rfl
  · exact bind_eq (a := decide (0 < a ∧ a < n)) (bif_f (decide_eq_false h) (by simp [h])) rfl
theorem check_eq (n : Int) (es : List En) (acc : Int) (kd : Nat) (hour : Int) (c : Zr) (len : Nat) : ∃ e, book_check_m ⟨acc, kd, hour, c⟩ n es = some e ∧ (e ≠ 0 → mvE n len acc kd hour = e) ∧ (e = 0 → mvE n len acc kd hour = if 1024 ≤ len then 5 else 0) := by
  unfold book_check_m mvE
  by_cases h1 : 0 < acc ∧ acc < n
  · by_cases h2 : kd < 1 ∨ 4 < kd
    · refine ⟨12, bind_eq (pays_eq _ _ _) <| bind_eq rfl <| bif_f (by simp [h1]) <| letJ_of <| bind_eq rfl <| bind_eq (a := true) ?_ <| bif_t rfl rfl, fun _ => by rw [if_neg (by simpa using h1), if_pos h2], by simp⟩
      by_cases h3 : kd < 1
      · exact bif_t (decide_eq_true h3) rfl
      · exact bif_f (decide_eq_false h3) <| bind_eq (dT (by omega)) rfl
    · by_cases h3 : hour < -1 ∨ 8 ≤ hour
      · refine ⟨1, bind_eq (pays_eq _ _ _) <| bind_eq rfl <| bif_f (by simp [h1]) <| letJ_of <| bind_eq rfl <| bind_eq (a := false) (bif_f (decide_eq_false (by omega)) <| bind_eq (dF (by omega)) rfl) <| bif_f rfl <| letJ_of <| bind_eq rfl <| bind_eq (a := true) ?_ <| bif_t rfl rfl, fun _ => by rw [if_neg (by simpa using h1), if_neg h2, if_pos h3], by simp⟩
        by_cases h4 : hour < -1
        · exact bif_t (decide_eq_true h4) rfl
        · exact bif_f (decide_eq_false h4) <| bind_eq (dT (by omega)) rfl
      · exact ⟨0, bind_eq (pays_eq _ _ _) <| bind_eq rfl <| bif_f (by simp [h1]) <| letJ_of <| bind_eq rfl <| bind_eq (a := false) (bif_f (decide_eq_false (by omega)) <| bind_eq (dF (by omega)) rfl) <| bif_f rfl <| letJ_of <| bind_eq rfl <| bind_eq (a := false) (bif_f (decide_eq_false (by omega)) <| bind_eq (dF (by omega)) rfl) <| bif_f rfl rfl, by simp, fun _ => by rw [if_neg (by simpa using h1), if_neg h2, if_neg h3]⟩
  · exact ⟨1, bind_eq (pays_eq _ _ _) <| bind_eq rfl <| bif_t (by simp [h1]) rfl, fun _ => by simp [h1], by simp⟩
def stp (n : Int) (es : List En) (m : Mv) (c : Zr) : List En := if mvE n es.length m.acc m.kd m.hour = 0 then es ++ [⟨m.acc, m.kd, m.hour, c⟩] else es
theorem move_eq {n : Int} {es : List En} {acc : Int} {kd : Nat} {hour : Int} {a : Qr} {L : Nat} {x : Rat} (hn : n ≠ 0) (ha : Rep L a x) (hL : L ≤ 1000000000) (hl : es.length ≤ 1000000) :
    book_Book_Move_m n es acc kd hour a = some (mvE n es.length acc kd hour, stp n es ⟨acc, kd, hour, a⟩ (zn (rnd x))) := by
  obtain ⟨e, he, h1, h2⟩ := check_eq n es acc kd hour ⟨false, []⟩ es.length
  have hr := ha.round hL
  unfold stp book_Book_Move_m
  show (book_Book_blank_m n es).bind _ = some (mvE n es.length acc kd hour, if mvE n es.length acc kd hour = 0 then es ++ [⟨acc, kd, hour, zn (rnd x)⟩] else es)
  generalize zn (rnd x) = z at hr ⊢
  refine bind_eq (blank_eq hn) <| bif_f rfl <| bind_eq he <| ?_
  by_cases h0 : e = 0
  · subst h0
    rw [h2 rfl]
    refine bind_eq (dF (by simp)) <| bif_f rfl <| bind_eq rfl ?_
    by_cases h3 : 1024 ≤ es.length
    · rw [if_pos h3, if_neg (by decide)]
      exact bind_eq (dT (by omega)) <| bif_t rfl rfl
    · rw [if_neg h3, if_pos rfl]
      exact bind_eq (dF (by omega)) <| bif_f rfl <| bind_eq hr <| bind_eq (apM1 (by decide) (by omega)) rfl
  · rw [h1 h0, if_neg h0]
    exact bind_eq (dT h0) <| bif_t rfl rfl
structure EnOk (n : Int) (K : Nat) (e : En) : Prop where
  a : 1 ≤ e.acc
  b : e.acc < n
  k : 1 ≤ e.kd ∧ e.kd ≤ 4
  z : e.cents = zn (zi e.cents)
  f : Fit K (zi e.cents)
def sumE (f : En → Int) (es : List En) : Int := (es.map f).sum
theorem sumE_append (f : En → Int) (l k : List En) : sumE f (l ++ k) = sumE f l + sumE f k := by simp [sumE]
theorem sumE_take (f : En → Int) {es : List En} {k : Nat} (h : k < es.length) : sumE f (es.take (k + 1)) = sumE f (es.take k) + f es[k] := by
  rw [List.take_add_one, List.getElem?_eq_getElem h, sumE_append]; simp [sumE]
theorem sum_abs {K : Nat} : ∀ {l : List Int}, (∀ c ∈ l, Fit K c) → l.sum.natAbs ≤ l.length * (4294967296 ^ K - 1)
  | [], _ => by simp
  | c :: l, h => by
    have h1 := h c (by simp)
    have h2 := sum_abs (l := l) (fun c hc => h c (by simp [hc]))
    rw [List.sum_cons, List.length_cons, Nat.succ_mul]
    have := Int.natAbs_add_le c l.sum
    unfold Fit at h1
    omega
theorem sum_fit {K : Nat} {l : List Int} (h : ∀ c ∈ l, Fit K c) (hl : l.length ≤ 4294967296) : Fit (K + 1) l.sum := by
  have h1 := sum_abs h
  have h2 := Nat.mul_le_mul_right (4294967296 ^ K - 1) hl
  have h3 := Nat.pow_pos (n := K) (show 0 < 4294967296 by decide)
  unfold Fit
  rw [Nat.pow_succ, Nat.mul_comm (4294967296 ^ K)]
  generalize 4294967296 ^ K = m at *
  omega
theorem fit0 {K : Nat} : Fit K 0 := by unfold Fit; exact Nat.pow_pos (by decide)
theorem sumE_fit {K : Nat} {f : En → Int} {es : List En} (h : ∀ e ∈ es, Fit K (f e)) (hl : es.length ≤ 1000000) : Fit (K + 1) (sumE f es) :=
  sum_fit (fun c hc => by obtain ⟨e, he, rfl⟩ := List.mem_map.1 hc; exact h e he) (by simp; omega)
theorem fit_take {K : Nat} {f : En → Int} {es : List En} (h : ∀ e ∈ es, Fit K (f e)) (k : Nat) (hl : es.length ≤ 1000000) : Fit (K + 1) (sumE f (es.take k)) :=
  sumE_fit (fun e he => h e (List.mem_of_mem_take he)) (by rw [List.length_take]; omega)
def balF (i : Int) (e : En) : Int := if i = 0 then -zi e.cents else if e.acc = i then zi e.cents else 0
theorem balF_fit {n : Int} {K : Nat} {e : En} (h : EnOk n K e) (i : Int) : Fit K (balF i e) := by
  unfold balF
  split
  · exact h.f.neg
  · split
    · exact h.f
    · exact fit0
def allQ (n : Nat) (es : List En) : List Zr := (List.range n).map fun (i : Nat) => zn (sumE (balF (i : Int)) es)
theorem allQ_len (n : Nat) (es : List En) : (allQ n es).length = n := by simp [allQ]
theorem allQ_get {n i : Nat} (es : List En) (h : i < n) : (allQ n es)[i]? = some (zn (sumE (balF (i : Int)) es)) := by simp [allQ, h]
theorem all_step {n : Nat} {es : List En} {k a : Nat} (hk : k < es.length) (hn : 0 < n) (ha : es[k].acc = (a : Int)) (h1 : 1 ≤ a) (h2 : a < n) :
    ((allQ n (es.take k)).set a (zn (sumE (balF a) (es.take k) + zi es[k].cents))).set 0 (zn (sumE (balF 0) (es.take k) - zi es[k].cents)) = allQ n (es.take (k + 1)) := by
  apply List.ext_getElem?
  intro i
  by_cases hi : i < n
  · rw [allQ_get _ hi, List.getElem?_set, List.getElem?_set, List.length_set, allQ_len, allQ_get _ hi, sumE_take _ hk]
    by_cases e0 : 0 = i
    · subst e0
      rw [if_pos rfl, if_pos hn]
      rw [show balF ((0 : Nat) : Int) es[k] = -zi es[k].cents from if_pos rfl]; rfl
    · rw [if_neg e0]
      by_cases ea : a = i
      · subst ea
        rw [if_pos rfl, if_pos hi]
        unfold balF; rw [if_neg (show ¬ ((a : Int) = 0) by omega), if_pos ha]
      · rw [if_neg ea]
        have : balF i es[k] = 0 := by unfold balF; rw [if_neg (by omega), ha, if_neg (by omega)]
        rw [this, Int.add_zero]
  · rw [List.getElem?_eq_none (by simp [allQ_len]; omega), List.getElem?_eq_none (by simp [allQ_len]; omega)]
theorem all_eq {n : Nat} {es : List En} {K : Nat} (hn : 0 < n) (hn2 : n ≤ 64) (he : ∀ e ∈ es, EnOk n K e) (hl : es.length ≤ 1000000) (hK : K ≤ 1000000000) : book_Book_All_m n es = some (allQ n es) := by
  unfold book_Book_All_m
  refine bind_eq (blank_eq (by omega)) <| bif_f rfl <| bind_eq (mkM_of (by decide) (by omega)) <| bind_eq rfl ?_
  refine bind_loop_to (fun k => ((k : Int), allQ n (es.take k))) es.length (allQ n es) ?_ (fun k hk => ?_) ?_ rfl
  · simp only [List.take_zero]
    congr 1
    apply List.ext_getElem?
    intro i
    by_cases hi : i < n
    · rw [allQ_get _ hi, List.getElem?_replicate, if_pos hi]; rfl
    · rw [List.getElem?_eq_none (by simp; omega), List.getElem?_eq_none (by simp [allQ_len]; omega)]
  · have g := List.getElem?_eq_getElem hk
    have ho := he _ (List.getElem_mem hk)
    obtain ⟨a, ha⟩ : ∃ a : Nat, es[k].acc = (a : Int) := ⟨es[k].acc.toNat, by have := ho.a; omega⟩
    have h1 : 1 ≤ a := by have := ho.a; omega
    have h2 : a < n := by have := ho.b; omega
    have s := all_step hk hn ha h1 h2
    have f1 : Fit (K + 1) (sumE (balF a) (es.take k)) := fit_take (fun e h => balF_fit (he e h) _) k hl
    have f2 : Fit (K + 1) (sumE (balF 0) (es.take k)) := fit_take (fun e h => balF_fit (he e h) _) k hl
    have a1 := add_eq (wl_zn f1 (by omega)) (wl_zn ho.f (by omega))
    have a2 := sub_eq (wl_zn f2 (by omega)) (wl_zn ho.f (by omega))
    rw [zi_zn, zi_zn, ← ho.z] at a1 a2
    have g1 := allQ_get (es.take k) h2
    have g2 : ((allQ n (es.take k)).set a (zn (sumE (balF a) (es.take k) + zi es[k].cents)))[0]? = some (zn (sumE (balF 0) (es.take k))) := by
      rw [List.getElem?_set, if_neg (by omega)]; exact allQ_get (es.take k) hn
    rw [← s]
    generalize hq : allQ n (es.take k) = q at *
    have hql : q.length = n := by rw [← hq]; exact allQ_len _ _
    generalize zn (sumE (balF a) (es.take k) + zi es[k].cents) = z1 at *
    generalize zn (sumE (balF 0) (es.take k) - zi es[k].cents) = z2 at *
    generalize zn (sumE (balF a) (es.take k)) = z3 at *
    generalize zn (sumE (balF 0) (es.take k)) = z4 at *
    clear s ho f1 f2
    generalize es[k] = e at *
    obtain ⟨acc, kd, hour, c⟩ := e
    replace ha : acc = (a : Int) := ha
    subst ha
    refine bind_eq (dT (by omega)) <| bif_t rfl <| bind_eq (cki_nat hk) <| bind_eq g <| bind_eq (cki_nat (by omega)) <| bind_eq g1 <| bind_eq a1 <| bind_eq (cki_nat (by omega)) <| bind_eq (stM_of (by omega)) <| bind_eq (cki_nat (i := 0) (by simp; omega)) <| bind_eq g2 <| bind_eq a2 <| bind_eq (cki_nat (i := 0) (by simp; omega)) <| bind_eq (stM_of (by simp; omega)) <| bind_eq (congrArg some (w64_succ (by omega))) rfl
  · rw [List.take_length]
    exact bind_eq (dF (by omega)) <| bif_f rfl rfl
theorem entries_eq {n : Nat} {es : List En} {K : Nat} (hn : 0 < n) (he : ∀ e ∈ es, EnOk n K e) (hl : es.length ≤ 1000000) (hK : K ≤ 1000000000) : book_Book_Entries_m n es = some es := by
  unfold book_Book_Entries_m
  refine bind_eq (blank_eq (by omega)) <| bif_f rfl <| bind_eq rfl <| bind_eq (mkM_of (by decide) (by omega)) <| bind_eq rfl ?_
  refine bind_loop_to (fun k => ((k : Int), es.take k ++ List.replicate (es.length - k) (⟨0, 0, 0, ⟨false, []⟩⟩ : En))) es.length es (by simp) (fun k hk => ?_) ?_ rfl
  · have g := List.getElem?_eq_getElem hk
    have ho := he _ (List.getElem_mem hk)
    have a1 := add_eq (wl_zn ho.f (show K ≤ 10000000000 by omega)) (show Wl ⟨false, []⟩ from wl_zero)
    rw [zi_zn, zi_zero, Int.add_zero, ← ho.z] at a1
    have s : (es.take k ++ List.replicate (es.length - k) (⟨0, 0, 0, ⟨false, []⟩⟩ : En)).set k es[k] = es.take (k + 1) ++ List.replicate (es.length - (k + 1)) ⟨0, 0, 0, ⟨false, []⟩⟩ := by
      rw [List.set_append_right _ _ (by simp; omega), show k - (es.take k).length = 0 by simp; omega, show es.length - k = (es.length - (k + 1)) + 1 by omega, List.replicate_succ, List.set_cons_zero, List.take_add_one, g]
      simp only [Option.toList_some, List.append_assoc, List.singleton_append]
    rw [← s]
    have hql : (es.take k ++ List.replicate (es.length - k) (⟨0, 0, 0, ⟨false, []⟩⟩ : En)).length = es.length := by simp; omega
    generalize (es.take k ++ List.replicate (es.length - k) (⟨0, 0, 0, ⟨false, []⟩⟩ : En)) = q at *
    clear s ho
    generalize es[k] = e at *
    obtain ⟨acc, kd, hour, c⟩ := e
    refine bind_eq (dT (by omega)) <| bif_t rfl <| bind_eq (cki_nat hk) <| bind_eq g <| bind_eq a1 <| bind_eq (cki_nat (by omega)) <| bind_eq (stM_of (by omega)) <| bind_eq (congrArg some (w64_succ (by omega))) rfl
  · simp only [List.take_length, Nat.sub_self, List.replicate_zero, List.append_nil]
    exact bind_eq (dF (by omega)) <| bif_f rfl rfl
def kdF (k : Nat) (e : En) : Int := if e.kd = k then zi e.cents else 0
theorem kdF_fit {n : Int} {K : Nat} {e : En} (h : EnOk n K e) (k : Nat) : Fit K (kdF k e) := by
  unfold kdF
  split
  · exact h.f
  · exact fit0
theorem by_eq {n : Nat} {es : List En} {K : Nat} (hn : 0 < n) (he : ∀ e ∈ es, EnOk n K e) (hl : es.length ≤ 1000000) (hK : K ≤ 1000000000) (kind : Nat) : book_Book_By_m n es kind = some (zn (sumE (kdF kind) es)) := by
  unfold book_Book_By_m
  refine bind_eq (blank_eq (by omega)) <| bif_f rfl <| bind_eq rfl ?_
  refine bind_loop_to (fun k => ((k : Int), (zn (sumE (kdF kind) (es.take k))).neg, (zn (sumE (kdF kind) (es.take k))).w)) es.length ((zn (sumE (kdF kind) es)).neg, (zn (sumE (kdF kind) es)).w) rfl (fun k hk => ?_) ?_ rfl
  · have g := List.getElem?_eq_getElem hk
    have ho := he _ (List.getElem_mem hk)
    have f1 : Fit (K + 1) (sumE (kdF kind) (es.take k)) := fit_take (fun e h => kdF_fit (he e h) _) k hl
    have a1 := add_eq (wl_zn f1 (by omega)) (wl_zn ho.f (by omega))
    rw [zi_zn, zi_zn, ← ho.z] at a1
    rw [sumE_take _ hk]
    have hkd : kdF kind es[k] = if es[k].kd = kind then zi es[k].cents else 0 := rfl
    generalize sumE (kdF kind) (es.take k) = s at *
    rw [hkd]
    clear f1 ho hkd
    generalize es[k] = e at *
    obtain ⟨acc, kd, hour, c⟩ := e
    refine bind_eq (dT (by omega)) <| bif_t rfl <| bind_eq (cki_nat hk) <| bind_eq g <| bind_eq rfl <| letJ_of ?_
    by_cases h : kd = kind
    · rw [if_pos h]
      refine bif_t (decide_eq_true h) ?_
      generalize zn (s + zi c) = z1 at *
      generalize zn s = z0 at *
      exact bind_eq a1 <| bind_eq (congrArg some (w64_succ (by omega))) rfl
    · rw [if_neg h, Int.add_zero]
      exact bif_f (decide_eq_false h) <| bind_eq (congrArg some (w64_succ (by omega))) rfl
  · rw [List.take_length]
    exact bind_eq (dF (by omega)) <| bif_f rfl rfl
theorem new_ok {n : Int} (h1 : 1 ≤ n) (h2 : n ≤ 64) : book_New_m n = some (n, []) := by
  unfold book_New_m
  exact letJ_of <| bind_eq (dF (by omega)) <| bind_eq (a := false) (bif_f rfl <| bind_eq (dF (by omega)) rfl) rfl
end Go.Proofs.Ytmiflmkdaeianaa
namespace Go.Proofs.Ytmiflmkdaeianaa
open Go.Fw
def NearI (x : Rat) (r : Int) : Prop := (2 * (x - (r : Rat)) < 1 ∧ -1 < 2 * (x - (r : Rat))) ∨ ((2 * (x - (r : Rat)) = 1 ∨ 2 * (x - (r : Rat)) = -1) ∧ r % 2 = 0)
theorem cast1 (l : Int) : ((l + 1 : Int) : Rat) = (l : Rat) + 1 := by rw [Rat.intCast_add]; rfl
theorem rnd_near (x : Rat) : NearI x (rnd x) := by
  have h1 := Rat.floor_le x
  have h2 := Rat.lt_floor_add_one x
  rw [cast1] at h2
  have hh : (1 : Rat) / 2 + 1 / 2 = 1 := by grind
  unfold rnd
  generalize x.floor = l at *
  split
  · exact .inl (by constructor <;> grind)
  · split
    · exact .inl (by rw [cast1]; constructor <;> grind)
    · have e : 2 * (x - (l : Rat)) = 1 := by grind
      split
      · rename_i h; exact .inr ⟨.inl e, h⟩
      · refine .inr ⟨.inr ?_, by omega⟩
        rw [cast1]; grind
theorem near_le {x y : Rat} {r s : Int} (h : NearI x r) (k : NearI y s) (e : x ≤ y) : r ≤ s := by
  by_cases hrs : r ≤ s
  · exact hrs
  · exfalso
    have h2 : ((s + 1 : Int) : Rat) ≤ (r : Rat) := Rat.intCast_le_intCast.2 (by omega)
    rw [cast1] at h2
    have a1 : -1 ≤ 2 * (x - (r : Rat)) := by rcases h with h | ⟨h | h, _⟩ <;> grind
    have a2 : 2 * (y - (s : Rat)) ≤ 1 := by rcases k with h | ⟨h | h, _⟩ <;> grind
    have e1 : (r : Rat) = ((s + 1 : Int) : Rat) := by rw [cast1]; grind
    have e2 : r = s + 1 := Rat.intCast_inj.1 e1
    have b1 : r % 2 = 0 := by
      rcases h with ⟨h, h'⟩ | ⟨_, h⟩
      · exfalso; grind
      · exact h
    have b2 : s % 2 = 0 := by
      rcases k with ⟨h, h'⟩ | ⟨_, h⟩
      · exfalso; grind
      · exact h
    omega
theorem near_rnd {x : Rat} {r : Int} (h : NearI x r) : rnd x = r := Int.le_antisymm (near_le (rnd_near x) h Rat.le_refl) (near_le h (rnd_near x) Rat.le_refl)
theorem is39_eq {i n : Int} {K : Nat} (hf : Fit K i) (hK : K ≤ 10000000000) (hn : i64ok n) (e : i = n) : law39_is_m (zn i) n = some true := by
  subst e
  have h1 := fromInt_eq hn.1 hn.2
  have h2 := same_refl (x := zn i) (Nat.le_trans (wl_zn hf hK).2 (by decide))
  unfold law39_is_m
  generalize zn i = z at *
  exact bind_eq h1 <| bind_eq h2 rfl
theorem is39_small {n : Int} (hn : i64ok n) : law39_is_m (zn n) n = some true := is39_eq (K := 2) (Fit.i64 hn.1 hn.2) (by decide) hn rfl
theorem over_eq39 {n d : Int} (hn : i64ok n) (hd : i64ok d) (h0 : d ≠ 0) : ∃ q, law39_over_m n d = some q ∧ Rep 2 q (Rat.divInt n d) := by
  obtain ⟨h, r⟩ := new_eq hn hd h0
  refine ⟨_, ?_, r⟩
  unfold law39_over_m
  generalize qn (Rat.divInt n d) = q at *
  exact bind_eq h rfl
theorem move_err {n : Int} {es : List En} {acc : Int} {kd : Nat} {hour : Int} {a : Qr} {L : Nat} {x : Rat} (e : Int) (hn : n ≠ 0) (ha : Rep L a x) (hL : L ≤ 1000000000) (hl : es.length ≤ 1000000) (he : mvE n es.length acc kd hour = e) (h0 : e ≠ 0) : book_Book_Move_m n es acc kd hour a = some (e, es) := by
  rw [move_eq hn ha hL hl]
  unfold stp
  show some (mvE n es.length acc kd hour, if mvE n es.length acc kd hour = 0 then es ++ [⟨acc, kd, hour, zn (rnd x)⟩] else es) = _
  rw [he, if_neg h0]
theorem move_good {n : Int} {es : List En} {acc : Int} {kd : Nat} {hour : Int} {a : Qr} {L : Nat} {x : Rat} (hn : n ≠ 0) (ha : Rep L a x) (hL : L ≤ 1000000000) (hl : es.length ≤ 1000000) (he : mvE n es.length acc kd hour = 0) (r : Int) (hr : rnd x = r) : book_Book_Move_m n es acc kd hour a = some (0, es ++ [⟨acc, kd, hour, zn r⟩]) := by
  rw [move_eq hn ha hL hl]
  unfold stp
  show some (mvE n es.length acc kd hour, if mvE n es.length acc kd hour = 0 then es ++ [⟨acc, kd, hour, zn (rnd x)⟩] else es) = _
  rw [he, if_pos rfl, hr]
theorem r52 : rnd (Rat.divInt 5 2) = 2 := near_rnd (.inr ⟨.inl (by rw [Rat.divInt_eq_div]; show 2 * ((5 : Rat) / 2 - 2) = 1; grind), rfl⟩)
theorem r72 : rnd (Rat.divInt 7 2) = 4 := near_rnd (.inr ⟨.inr (by rw [Rat.divInt_eq_div]; show 2 * ((7 : Rat) / 2 - 4) = -1; grind), rfl⟩)
theorem r52' : rnd (Rat.divInt (-5) 2) = -2 := near_rnd (.inr ⟨.inr (by rw [Rat.divInt_eq_div]; show 2 * ((-5 : Rat) / 2 - (-2)) = -1; grind), rfl⟩)
theorem r83 : rnd (Rat.divInt 8 3) = 3 := near_rnd (.inl (by rw [Rat.divInt_eq_div]; show 2 * ((8 : Rat) / 3 - 3) < 1 ∧ -1 < 2 * ((8 : Rat) / 3 - 3); constructor <;> grind))
theorem r71' : rnd (Rat.divInt (-7) 1) = -7 := near_rnd (.inl (by rw [Rat.divInt_eq_div]; show 2 * ((-7 : Rat) / 1 - (-7)) < 1 ∧ -1 < 2 * ((-7 : Rat) / 1 - (-7)); constructor <;> grind))
theorem awake39_eq : law39_awake_m = some true := by
  obtain ⟨q1, e1, s1⟩ := over_eq39 (n := 5) (d := 2) (by decide) (by decide) (by decide)
  obtain ⟨q2, e2, s2⟩ := over_eq39 (n := -7) (d := 1) (by decide) (by decide) (by decide)
  obtain ⟨q3, e3, s3⟩ := over_eq39 (n := 1) (d := 1) (by decide) (by decide) (by decide)
  obtain ⟨q4, e4, s4⟩ := over_eq39 (n := 7) (d := 2) (by decide) (by decide) (by decide)
  obtain ⟨q5, e5, s5⟩ := over_eq39 (n := -5) (d := 2) (by decide) (by decide) (by decide)
  obtain ⟨q6, e6, s6⟩ := over_eq39 (n := 8) (d := 3) (by decide) (by decide) (by decide)
  have m1 := move_good (n := 3) (es := []) (acc := 1) (kd := 1) (hour := 0) (by decide) s1 (by decide) (by simp) (by decide) 2 r52
  have m2 := move_good (n := 3) (es := [] ++ [⟨1, 1, 0, zn 2⟩]) (acc := 2) (kd := 1) (hour := 0) (by decide) s2 (by decide) (by simp) (by decide) (-7) r71'
  obtain ⟨es, hes⟩ : ∃ es, ([] ++ [⟨1, 1, 0, zn 2⟩] ++ [⟨2, 1, 0, zn (-7)⟩] : List En) = es := ⟨_, rfl⟩
  have hlen : es.length = 2 := by rw [← hes]; rfl
  have ok1 : EnOk (3 : Nat) 1 ⟨1, 1, 0, zn 2⟩ := ⟨by decide, by decide, by decide, by rw [zi_zn], by rw [zi_zn]; unfold Fit; decide⟩
  have ok2 : EnOk (3 : Nat) 1 ⟨2, 1, 0, zn (-7)⟩ := ⟨by decide, by decide, by decide, by rw [zi_zn], by rw [zi_zn]; unfold Fit; decide⟩
  have hok : ∀ e ∈ es, EnOk (3 : Nat) 1 e := by
    rw [← hes]; intro e he
    simp only [List.nil_append, List.cons_append, List.mem_cons, List.not_mem_nil, or_false] at he
    rcases he with rfl | rfl
    · exact ok1
    · exact ok2
  have bal : ∀ f : En → Int, sumE f es = f ⟨1, 1, 0, zn 2⟩ + f ⟨2, 1, 0, zn (-7)⟩ := fun f => by rw [← hes]; simp [sumE]
  have a1 := all_eq (n := 3) (by decide) (by decide) hok (by omega) (by decide)
  have g0 := allQ_get (n := 3) (i := 0) es (by decide)
  have g1 := allQ_get (n := 3) (i := 1) es (by decide)
  have g2 := allQ_get (n := 3) (i := 2) es (by decide)
  have gl := allQ_len 3 es
  have b0 : sumE (balF ((0 : Nat) : Int)) es = 5 := by rw [bal]; unfold balF; simp only [zi_zn]; decide
  have b1 : sumE (balF ((1 : Nat) : Int)) es = 2 := by rw [bal]; unfold balF; simp only [zi_zn]; decide
  have b2 : sumE (balF ((2 : Nat) : Int)) es = -7 := by rw [bal]; unfold balF; simp only [zi_zn]; decide
  have b3 : sumE (kdF 1) es = -5 := by rw [bal]; unfold kdF; simp only [zi_zn]; decide
  rw [b0] at g0
  rw [b1] at g1
  rw [b2] at g2
  have y1 := by_eq (n := 3) (by decide) hok (by omega) (by decide) 1
  rw [b3] at y1
  have n1 := entries_eq (n := 3) (by decide) hok (by omega) (by decide)
  rw [hes] at m2
  have m3 := move_err (n := 3) (es := es) (acc := 3) (kd := 1) (hour := 0) 1 (by decide) s3 (by decide) (by omega) (by rw [hlen]; decide) (by decide)
  have m4 := move_err (n := 3) (es := es) (acc := 0) (kd := 1) (hour := 0) 1 (by decide) s3 (by decide) (by omega) (by rw [hlen]; decide) (by decide)
  have m5 := move_err (n := 3) (es := es) (acc := 1) (kd := 5) (hour := 0) 12 (by decide) s3 (by decide) (by omega) (by rw [hlen]; decide) (by decide)
  have m6 := move_err (n := 3) (es := es) (acc := 1) (kd := 4) (hour := 8) 1 (by decide) s3 (by decide) (by omega) (by rw [hlen]; decide) (by decide)
  have o1 := s1.round (by decide)
  have o2 := s4.round (by decide)
  have o3 := s5.round (by decide)
  have o4 := s6.round (by decide)
  rw [r52] at o1
  rw [r72] at o2
  rw [r52'] at o3
  rw [r83] at o4
  have i1 := is39_small (n := 2) (by decide)
  have i2 := is39_small (n := 4) (by decide)
  have i3 := is39_small (n := -2) (by decide)
  have i4 := is39_small (n := 3) (by decide)
  have i5 := is39_small (n := 5) (by decide)
  have i6 := is39_small (n := -7) (by decide)
  have i7 := is39_small (n := -5) (by decide)
  generalize allQ 3 es = al at *
  clear hok bal ok1 ok2 hes b0 b1 b2 b3
  generalize ([] ++ [⟨1, 1, 0, zn 2⟩] : List En) = es1 at *
  generalize zn 2 = z2 at *
  generalize zn 4 = z4 at *
  generalize zn (-2) = z2' at *
  generalize zn 3 = z3 at *
  generalize zn 5 = z5 at *
  generalize zn (-7) = z7 at *
  generalize zn (-5) = z5' at *
  unfold law39_awake_m
  refine bind_eq (new_ok (by decide) (by decide)) <| bind_eq e1 <| bind_eq m1 <| bind_eq e2 <| bind_eq m2 <| bind_eq e3 <| bind_eq m3 <| bind_eq e3 <| bind_eq m4 <| bind_eq e3 <| bind_eq m5 <| bind_eq e3 <| bind_eq m6 <| bind_eq a1 <| letJ_of ?_
  refine bind_eq e1 <| bind_eq o1 <| bind_eq i1 <| andT (bind_eq e4 <| bind_eq o2 <| bind_eq i2 rfl) <| andT (bind_eq e5 <| bind_eq o3 <| bind_eq i3 rfl) <| andT (bind_eq e6 <| bind_eq o4 <| bind_eq i4 rfl) ?_
  refine andT (bind_eq (dT rfl) rfl) <| andT (bind_eq (dT rfl) rfl) <| andT (bind_eq (dT rfl) rfl) <| andT (bind_eq (dT rfl) rfl) <| andT (bind_eq (dT rfl) rfl) <| andT (bind_eq (dT rfl) rfl) ?_
  refine andT (bind_eq rfl <| bind_eq (dT (by omega)) rfl) <| andT (bind_eq (geti_zero g0) <| bind_eq i5 rfl) <| andT (bind_eq (geti_one g1) <| bind_eq i1 rfl) <| andT (bind_eq (geti_nat (i := 2) g2) <| bind_eq i6 rfl) ?_
  exact andT (bind_eq y1 <| bind_eq i7 rfl) <| andT (bind_eq n1 <| bind_eq rfl <| bind_eq (dT (by omega)) rfl) rfl
end Go.Proofs.Ytmiflmkdaeianaa
namespace Go.Proofs.Ytmiflmkdaeianaa
open Go.Fw
def mst (n : Int) (es : List En) (m : Mv) : List En := stp n es m (zn (rnd (qv m.amount)))
def mk (n : Int) (l : List Mv) : List En := l.foldl (mst n) []
theorem mvE_len {n : Int} {k : Nat} {a : Int} {kd : Nat} {h : Int} (hk : k < 1024) : mvE n k a kd h = mvE n 0 a kd h := by
  unfold mvE; rw [if_neg (show ¬ 1024 ≤ k by omega), if_neg (show ¬ 1024 ≤ 0 by omega)]
end Go.Proofs.Ytmiflmkdaeianaa
namespace Go.Proofs.Ytmiflmkdaeianaa
open Go.Fw
theorem sumE_cons (f : En → Int) (e : En) (l : List En) : sumE f (e :: l) = f e + sumE f l := by simp [sumE]
end Go.Proofs.Ytmiflmkdaeianaa
namespace Go.Proofs.Ytmiflmkdaeianaa
open Go.Fw
theorem near_int {n d r : Int} (hd : 0 < d) (h : (2 * n - 2 * r * d < d ∧ -d < 2 * n - 2 * r * d) ∨ ((2 * n - 2 * r * d = d ∨ 2 * n - 2 * r * d = -d) ∧ r % 2 = 0)) : rnd (Rat.divInt n d) = r := by
  have hd' : (d : Rat) ≠ 0 := fun e => by have := Rat.intCast_eq_zero_iff.1 e; omega
  have u : 2 * (Rat.divInt n d - (r : Rat)) = Rat.divInt (2 * n - 2 * r * d) d := by
    rw [Rat.divInt_eq_div, Rat.divInt_eq_div, Rat.intCast_sub, Rat.intCast_mul, Rat.intCast_mul, Rat.intCast_mul]
    show 2 * ((n : Rat) / d - r) = (2 * n - 2 * r * d) / d
    grind
  have e1 : (1 : Rat) = Rat.divInt 1 1 := by rw [Rat.divInt_eq_div]; show (1 : Rat) = 1 / 1; grind
  have e2 : (-1 : Rat) = Rat.divInt (-1) 1 := by rw [Rat.divInt_eq_div]; show (-1 : Rat) = -1 / 1; grind
  refine near_rnd ?_
  unfold NearI
  rw [u]
  rcases h with ⟨h1, h2⟩ | ⟨h1 | h1, h2⟩
  · refine .inl ⟨?_, ?_⟩
    · rw [e1, divInt_lt hd (by decide)]; omega
    · rw [e2, divInt_lt (by decide) hd]; omega
  · refine .inr ⟨.inl ?_, h2⟩
    rw [h1, Rat.divInt_eq_div]; grind
  · refine .inr ⟨.inr ?_, h2⟩
    rw [h1, Rat.divInt_eq_div, Rat.intCast_neg]; grind
def okA (t : A3) : Prop := i64ok t.a ∧ i64ok t.b ∧ 0 < t.b ∧ i64ok t.c ∧ ((2 * t.a - 2 * t.c * t.b < t.b ∧ -t.b < 2 * t.a - 2 * t.c * t.b) ∨ ((2 * t.a - 2 * t.c * t.b = t.b ∨ 2 * t.a - 2 * t.c * t.b = -t.b) ∧ t.c % 2 = 0))
instance (t : A3) : Decidable (okA t) := by unfold okA; infer_instance
theorem roundEx {t : A3} (h : okA t) : ∃ q z, law39_over_m t.a t.b = some q ∧ book_Round_m q = some z ∧ law39_is_m z t.c = some true := by
  obtain ⟨h1, h2, h3, h4, h5⟩ := h
  obtain ⟨q, e, s⟩ := over_eq39 h1 h2 (by omega)
  have r := s.round (by decide)
  rw [near_int h3 h5] at r
  exact ⟨q, _, e, r, is39_small h4⟩
abbrev exE1 : En := ⟨63, 4, -1, zn 1⟩
abbrev exE2 : En := ⟨1, 1, 7, zn 1⟩
abbrev exE3 : En := ⟨1, 3, 0, zn 1⟩
theorem ex_ok (k : Nat) : ∀ e ∈ [exE1, exE2] ++ List.replicate k exE3, EnOk ((64 : Nat) : Int) 1 e := by
  intro e he
  have f1 : Fit 1 1 := fit1
  have key : e = exE1 ∨ e = exE2 ∨ e = exE3 := by
    rcases List.mem_append.1 he with h | h
    · simp only [List.mem_cons, List.not_mem_nil, or_false] at h
      rcases h with h | h
      · exact .inl h
      · exact .inr (.inl h)
    · exact .inr (.inr (List.eq_of_mem_replicate h))
  rcases key with rfl | rfl | rfl
  · exact ⟨by decide, by decide, by decide, by rw [zi_zn], by rw [zi_zn]; exact f1⟩
  · exact ⟨by decide, by decide, by decide, by rw [zi_zn], by rw [zi_zn]; exact f1⟩
  · exact ⟨by decide, by decide, by decide, by rw [zi_zn], by rw [zi_zn]; exact f1⟩
theorem sum_rep (f : En → Int) (e : En) : ∀ k, sumE f (List.replicate k e) = k * f e
  | 0 => by simp [sumE]
  | k + 1 => by rw [List.replicate_succ, sumE_cons, sum_rep f e k, Int.natCast_add, Int.add_mul]; omega
theorem ex_by (f : En → Int) (k : Nat) : sumE f ([exE1, exE2] ++ List.replicate k exE3) = f exE1 + f exE2 + k * f exE3 := by
  rw [sumE_append, sum_rep, sumE_cons, sumE_cons]; simp [sumE]
theorem blank0 : book_Book_blank_m 0 [] = some true := by
  unfold book_Book_blank_m
  exact letJ_of <| bind_eq (a := true) (bif_f rfl <| bind_eq (dT rfl) rfl) rfl
theorem is0 : law39_is_m ⟨false, []⟩ 0 = some true := is39_small (n := 0) (by decide)
theorem move9_eq {n : Int} {es : List En} {acc hour : Int} {a : Qr} (hn : n ≠ 0) (h : 0 < acc ∧ acc < n) : book_Move9_m n es acc hour a = some 12 := by
  obtain ⟨e, he, h1, h2⟩ := check_eq n es acc 9 hour ⟨false, []⟩ 0
  have m : mvE n 0 acc 9 hour = 12 := by
    unfold mvE; rw [if_neg (by simpa using h), if_pos (by omega)]
  have e0 : e ≠ 0 := fun e0 => by have := h2 e0; rw [m, if_neg (by decide)] at this; exact absurd this (by decide)
  have e12 : e = 12 := by rw [← h1 e0]; exact m
  subst e12
  unfold book_Move9_m
  exact bind_eq (blank_eq hn) <| bif_f rfl <| bind_eq he <| bind_eq (dT (by decide)) <| bif_t rfl rfl
theorem examples39_law : law39_BookExamples_m = some true := by
  obtain ⟨q, e, s⟩ := over_eq39 (n := 1) (d := 1) (by decide) (by decide) (by decide)
  have r1 : rnd (Rat.divInt 1 1) = 1 := near_int (by decide) (by decide)
  have bad : ∀ {es : List En} {acc : Int} {kd : Nat} {hour : Int} (k : Int), es.length ≤ 1000000 → mvE 64 es.length acc kd hour = k → k ≠ 0 → book_Book_Move_m 64 es acc kd hour q = some (k, es) := fun k hl h0 h1 => move_err k (by decide) s (by decide) hl h0 h1
  have good : ∀ {es : List En} {acc : Int} {kd : Nat} {hour : Int}, es.length ≤ 1000000 → mvE 64 es.length acc kd hour = 0 → book_Book_Move_m 64 es acc kd hour q = some (0, es ++ [⟨acc, kd, hour, zn 1⟩]) := fun hl h0 => move_good (by decide) s (by decide) hl h0 1 r1
  unfold law39_BookExamples_m
  refine letJ_of <| bind_eq awake39_eq <| bind_eq rfl <| bind_eq (a := false) rfl <| bind_eq (a := false) rfl <| bind_eq (a := false) rfl <| bind_eq (a := false) rfl <| bind_eq (a := false) rfl <| bif_f rfl <| bind_eq rfl ?_
  refine bind_loop_to (fun k => (k : Int)) 13 (.inl ()) rfl (fun k hk => ?_) ?_ ?_
  · have hlen : ([⟨0, 1, 0⟩, ⟨1, 2, 0⟩, ⟨(-1), 2, 0⟩, ⟨3, 2, 2⟩, ⟨(-3), 2, (-2)⟩, ⟨1, 3, 0⟩, ⟨2, 3, 1⟩, ⟨(-2), 3, (-1)⟩, ⟨(-4), 3, (-1)⟩, ⟨(-5), 3, (-2)⟩, ⟨9, 1, 9⟩, ⟨1001, 2, 500⟩, ⟨1003, 2, 502⟩] : List A3).length = 13 := rfl
    have hall : ∀ t ∈ ([⟨0, 1, 0⟩, ⟨1, 2, 0⟩, ⟨(-1), 2, 0⟩, ⟨3, 2, 2⟩, ⟨(-3), 2, (-2)⟩, ⟨1, 3, 0⟩, ⟨2, 3, 1⟩, ⟨(-2), 3, (-1)⟩, ⟨(-4), 3, (-1)⟩, ⟨(-5), 3, (-2)⟩, ⟨9, 1, 9⟩, ⟨1001, 2, 500⟩, ⟨1003, 2, 502⟩] : List A3), okA t := by decide
    generalize ([⟨0, 1, 0⟩, ⟨1, 2, 0⟩, ⟨(-1), 2, 0⟩, ⟨3, 2, 2⟩, ⟨(-3), 2, (-2)⟩, ⟨1, 3, 0⟩, ⟨2, 3, 1⟩, ⟨(-2), 3, (-1)⟩, ⟨(-4), 3, (-1)⟩, ⟨(-5), 3, (-2)⟩, ⟨9, 1, 9⟩, ⟨1001, 2, 500⟩, ⟨1003, 2, 502⟩] : List A3) = l at *
    have hkl : k < l.length := by omega
    have g := List.getElem?_eq_getElem hkl
    obtain ⟨p, z, a1, a2, a3⟩ := roundEx (hall _ (List.getElem_mem hkl))
    generalize l[k] = t at *
    obtain ⟨ta, tb, tc⟩ := t
    exact bind_eq (dT (by omega)) <| bif_t rfl <| bind_eq (geti_nat g) <| bind_eq a1 <| bind_eq a2 <| bind_eq a3 <| bind_eq rfl <| bif_f rfl <| bind_eq (congrArg some (w64_succ (by omega))) rfl
  · exact bind_eq (dF (by decide)) <| bif_f rfl rfl
  refine bind_eq (show book_New0_m = some ((), 1) from rfl) <| bind_eq (show book_New65_m = some ((), 1) from rfl) <| bind_eq (new_ok (by decide) (by decide)) <| letJ_of <| bind_eq (dF (by decide)) <| bind_eq (a := false) (bif_f rfl <| bind_eq (dF (by decide)) rfl) <| bind_eq (a := false) rfl <| bif_f rfl <| bind_eq rfl ?_
  refine bind_loop_to (fun k => ((k : Int), if k ≤ 5 then [] else if k = 6 then [exE1] else [exE1, exE2])) 7 (.inl [exE1, exE2]) rfl (fun k hk => ?_) ?_ ?_
  · have cases : k = 0 ∨ k = 1 ∨ k = 2 ∨ k = 3 ∨ k = 4 ∨ k = 5 ∨ k = 6 := by omega
    rcases cases with rfl | rfl | rfl | rfl | rfl | rfl | rfl
    · exact bind_eq (dT (by decide)) <| bif_t rfl <| bind_eq rfl <| bind_eq e <| bind_eq (bad 1 (by decide) (by decide) (by decide)) <| bind_eq (dF (by decide)) <| bif_f rfl rfl
    · exact bind_eq (dT (by decide)) <| bif_t rfl <| bind_eq rfl <| bind_eq e <| bind_eq (bad 1 (by decide) (by decide) (by decide)) <| bind_eq (dF (by decide)) <| bif_f rfl rfl
    · exact bind_eq (dT (by decide)) <| bif_t rfl <| bind_eq rfl <| bind_eq e <| bind_eq (bad 12 (by decide) (by decide) (by decide)) <| bind_eq (dF (by decide)) <| bif_f rfl rfl
    · exact bind_eq (dT (by decide)) <| bif_t rfl <| bind_eq rfl <| bind_eq e <| bind_eq (bad 1 (by decide) (by decide) (by decide)) <| bind_eq (dF (by decide)) <| bif_f rfl rfl
    · exact bind_eq (dT (by decide)) <| bif_t rfl <| bind_eq rfl <| bind_eq e <| bind_eq (bad 1 (by decide) (by decide) (by decide)) <| bind_eq (dF (by decide)) <| bif_f rfl rfl
    · exact bind_eq (dT (by decide)) <| bif_t rfl <| bind_eq rfl <| bind_eq e <| bind_eq (good (by decide) (by decide)) <| bind_eq (dF (by decide)) <| bif_f rfl rfl
    · exact bind_eq (dT (by decide)) <| bif_t rfl <| bind_eq rfl <| bind_eq e <| bind_eq (good (by decide) (by decide)) <| bind_eq (dF (by decide)) <| bif_f rfl rfl
  · exact bind_eq (dF (by decide)) <| bif_f rfl rfl
  refine bind_loop_to (fun k => (((2 + k : Nat) : Int), [exE1, exE2] ++ List.replicate k exE3)) 1022 (.inl ([exE1, exE2] ++ List.replicate 1022 exE3)) rfl (fun k hk => ?_) ?_ ?_
  · have hl : ([exE1, exE2] ++ List.replicate k exE3).length = 2 + k := by simp; omega
    have mv : mvE 64 (2 + k) 1 3 0 = 0 := by rw [mvE_len (by omega)]; decide
    have gd := good (es := [exE1, exE2] ++ List.replicate k exE3) (acc := 1) (kd := 3) (hour := 0) (by omega) (by rw [hl]; exact mv)
    have nx : [exE1, exE2] ++ List.replicate k exE3 ++ [⟨1, 3, 0, zn 1⟩] = [exE1, exE2] ++ List.replicate (k + 1) exE3 := by rw [List.replicate_succ', List.append_assoc]
    rw [nx] at gd
    have w := w64_succ (n := 2 + k) (by omega)
    generalize [exE1, exE2] ++ List.replicate k exE3 = u at *
    generalize [exE1, exE2] ++ List.replicate (k + 1) exE3 = v at *
    exact bind_eq (dT (by omega)) <| bif_t rfl <| bind_eq e <| bind_eq gd <| bind_eq (dF (by decide)) <| bif_f rfl <| bind_eq (congrArg some w) rfl
  · exact bind_eq (dF (by decide)) <| bif_f rfl rfl
  have ok := ex_ok 1022
  have hl : ([exE1, exE2] ++ List.replicate 1022 exE3).length = 1024 := by rw [List.length_append, List.length_replicate]; rfl
  have b3 := by_eq (n := 64) (by decide) ok (by omega) (by decide) 3
  have b9 := by_eq (n := 64) (by decide) ok (by omega) (by decide) 9
  rw [ex_by, show kdF 3 exE1 + kdF 3 exE2 + ((1022 : Nat) : Int) * kdF 3 exE3 = 1022 by unfold kdF; simp only [zi_zn]; decide] at b3
  rw [ex_by, show kdF 9 exE1 + kdF 9 exE2 + ((1022 : Nat) : Int) * kdF 9 exE3 = 0 by unfold kdF; simp only [zi_zn]; decide] at b9
  have i3 := is39_small (n := 1022) (by decide)
  have i9 := is39_small (n := 0) (by decide)
  have full := bad (es := [exE1, exE2] ++ List.replicate 1022 exE3) (acc := 1) (kd := 3) (hour := 0) 5 (by omega) (by rw [hl]; decide) (by decide)
  have has1 : book_Book_Has_m 64 ([exE1, exE2] ++ List.replicate 1022 exE3) (-1) = some (⟨false, []⟩, 1) := by
    unfold book_Book_Has_m
    exact bind_eq (blank_eq (by decide)) <| bif_f rfl <| letJ_of <| bind_eq (dT (by decide)) <| bind_eq (a := true) (bif_t rfl rfl) <| bif_t rfl rfl
  have has0 : book_Book_Has_m 0 [] 0 = some (⟨false, []⟩, 2) := by
    unfold book_Book_Has_m
    exact bind_eq blank0 <| bif_t rfl rfl
  have all0 : book_Book_All_m 0 [] = some [] := by
    unfold book_Book_All_m
    exact bind_eq blank0 <| bif_t rfl rfl
  have by0 : book_Book_By_m 0 [] 1 = some ⟨false, []⟩ := by
    unfold book_Book_By_m
    exact bind_eq blank0 <| bif_t rfl rfl
  generalize [exE1, exE2] ++ List.replicate 1022 exE3 = es at *
  generalize zn 1022 = z3 at *
  have m9 := move9_eq (n := 64) (es := es) (acc := 1) (hour := 0) (a := q) (by decide) (by decide)
  refine letJ_of <| bind_eq e <| bind_eq full <| bind_eq (dF (by decide)) <| bind_eq (a := false) (bif_f rfl <| bind_eq e <| bind_eq m9 <| bind_eq (dF (by decide)) rfl) <| bind_eq (a := false) (bif_f rfl <| bind_eq b3 <| bind_eq i3 <| bind_eq rfl rfl) <| bind_eq (a := false) (bif_f rfl <| bind_eq b9 <| bind_eq i9 <| bind_eq rfl rfl) ?_
  refine bif_f rfl <| bind_eq (show book_nHas_m 0 = some (⟨false, []⟩, 2) from rfl) <| bind_eq has0 <| bind_eq has1 <| letJ_of <| bind_eq (dT rfl) <| andT (bind_eq (dT rfl) rfl) <| andT (bind_eq (dT rfl) rfl) <| andT (bind_eq e <| bind_eq rfl <| bind_eq (dT rfl) rfl) <| andT (bind_eq e <| bind_eq rfl <| bind_eq (dT rfl) rfl) ?_
  exact andT (bind_eq rfl rfl) <| andT (bind_eq rfl <| bind_eq rfl <| bind_eq (dT rfl) rfl) <| andT (bind_eq all0 <| bind_eq rfl <| bind_eq (dT rfl) rfl) <| andT (bind_eq rfl <| bind_eq rfl <| bind_eq (dT rfl) rfl) <| andT (bind_eq rfl <| bind_eq is0 rfl) <| andT (bind_eq by0 <| bind_eq is0 rfl) rfl
end Go.Proofs.Ytmiflmkdaeianaa
namespace Go.Proofs.Ytmiflmkdaeianaa
open Go.Fw Go.RowKit Go.ChangeShapes Go.WideShapes Go.ChangeAt
set_option linter.unusedVariables false
set_option maxRecDepth 100000 in
theorem bookExamples_contract (H : Type) (enc : TypeId × Value → H) (W : World) (base : Nat) (args : Array Value) (ds gs : List (DataW H)) (before : List MemPlace)
    (hval : ∀ (j : Nat) t v, Try.f7.params[j]? = some t → args[j]? = some v → Value.okWide Try.prog W .any base t v)
    (hW : DataW.Whole enc Try.prog Try.f7.params.toList Rows.bookExamplesSpec.vars false W args.toList ds gs before) :
    Calls Try.prog 7 args W fun e W' => ∃ v, e = .returned v ∧ Rows.bookExamplesSpec.post enc Try.prog Try.f7 false true false false W args v W' := by
  have hW' := hW
  obtain ⟨p, q, hA0, hV, rfl, hfz, hnd⟩ := hW
  have hA : DataW.TrodAll enc Try.prog W 0 (fun _ => true) true Try.f7.params.toList args.toList ds p := hA0
  rw [Try.params7] at hA hval
  obtain ⟨hargs, rfl, rfl⟩ := trodAll_nil hA
  obtain rfl : args = #[] := by cases args; simp_all
  obtain ⟨rfl, rfl⟩ := trodVars_none hV
  clear hA0
  refine (said_of (law39_BookExamples_ok (examples39_law )) (W := W) (vs := []) trivial).mono fun e W' ⟨he, bel⟩ => ?_
  subst he
  exact ⟨_, rfl, _, _, _, [], _, [], hW', trodAll_mk1 (shut_bool Try.underlying4 _), trodAll_mk0, rfl, bel.frame _, fun h => by cases h⟩
set_option maxRecDepth 100000 in
theorem bookExamples_lifted (os : Os) (started : os.Started) (H : Type) (enc : TypeId × Value → H) :
    ReturnsInHanded {} Try.checked os 7 .any (Rows.bookExamplesSpec.pre6 enc Try.prog Try.f7 Rows.bookExamplesRow.domain false) (Rows.bookExamplesSpec.post enc Try.prog Try.f7 false true false false) := by
  refine returnsInHanded_of_change (C := Try.checked) own_ started (by kernel_rfl) Try.func7
    (ChangeSpec.witness6 (enc := enc) (C := Try.checked) false ⟨#[], #[], []⟩ 8 (by kernel_rfl) (by kernel_rfl) (by kernel_rfl) (by kernel_rfl)) ?_
  intro W base args ds gs before hval hW _ _
  exact bookExamples_contract H enc W base args ds gs before hval hW
theorem bookExamples_holds : Rows.BookExamplesSaid :=
  OpenClaim.holds_of_wide 7 Try.f7 rfl rfl rfl rfl rfl rfl rfl ⟨rfl, rfl, rfl, rfl, rfl⟩ rfl rfl rfl rfl rfl (by kernel_rfl) Try.func7 (by kernel_rfl)
    (of_decide_eq_true (by kernel_rfl)) (by unfold Func.isWrapper; first | (rw [if_pos (by decide +kernel)]; kernel_rfl) | (rw [if_neg (by decide +kernel)]; exact ⟨rfl, rfl⟩))
    (fun os started H enc _ => bookExamples_lifted os started H enc)
end Go.Proofs.Ytmiflmkdaeianaa
