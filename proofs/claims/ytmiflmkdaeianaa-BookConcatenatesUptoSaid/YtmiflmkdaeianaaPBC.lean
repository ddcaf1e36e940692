/- The law BookConcatenates answers true for every input, up to the size that the statement names. -/
import Derived.Test.YtmiflmkdaeianaaPBC4
set_option linter.unusedVariables false
set_option linter.unusedSimpArgs false
namespace Go.Proofs.Ytmiflmkdaeianaa
open Go.Fw
def rnd (x : Rat) : Int := if x - (x.floor : Rat) < 1 / 2 then x.floor else if 1 / 2 < x - (x.floor : Rat) then x.floor + 1 else if x.floor % 2 = 0 then x.floor else x.floor + 1
theorem fit1 : Fit 1 1 := by unfold Fit; decide
theorem fit2 : Fit 1 2 := by unfold Fit; decide
theorem half2 : Rat.divInt 1 2 = 1 / 2 := by rw [Rat.divInt_eq_div]; simp
theorem fq_one {L : Nat} {x : Rat} (h : FQ L x) : Fit L 1 := Fit.le h.2 (by have := Rat.den_pos x; omega)
theorem rnd_fit {L : Nat} {x : Rat} (h : FQ L x) : Fit (L + 1) (rnd x) := by
  have h1 := (h.floor).mono (show L ≤ L + 1 by omega)
  have h2 : Fit (L + 1) (x.floor + 1) := h.floor.add (fq_one h)
  unfold rnd
  split
  · exact h1
  · split
    · exact h2
    · split
      · exact h1
      · exact h2
theorem mod2_fit (i : Int) : Fit 1 (i % 2) := by
  have h1 := Int.emod_nonneg i (show (2 : Int) ≠ 0 by decide)
  have h2 := Int.emod_lt_of_pos i (show (0 : Int) < 2 by decide)
  unfold Fit
  omega
theorem sign_mod2 (i : Int) : decide ((i % 2).sign = 0) = decide (i % 2 = 0) := by
  congr 1
  exact propext Int.sign_eq_zero_iff_zero
theorem Rep.round {L : Nat} {a : Qr} {x : Rat} (ha : Rep L a x) (h : L ≤ 1000000000) : book_Round_m a = some (zn (rnd x)) := by
  have hf := ha.fq
  have f1 := ha.floor (show L ≤ 10000000000 by omega)
  obtain ⟨n1, r1⟩ := new_eq (n := 1) (d := 2) (by decide) (by decide) (by decide)
  have w1 := fromInt_eq (x := 1) (by decide) (by decide)
  have a1 := add_eq (wl_zn hf.floor (by omega)) (wl_zn fit1 (by decide))
  rw [zi_zn, zi_zn] at a1
  obtain ⟨i1, s1⟩ := fromInteger_rep hf.floor ha.l1 (by omega)
  obtain ⟨q, e, r⟩ := ha.sub' s1 (by omega)
  rw [half2] at n1 r1
  have c1 := r.cmp r1 (by omega)
  have w2 := fromInt_eq (x := 2) (by decide) (by decide)
  have d1 := divMod_eq (wl_zn hf.floor (show L ≤ 10000000000 by omega)) (wl_zn fit2 (by decide))
  rw [zi_zn, zi_zn] at d1
  replace d1 : whole_DivMod_m (zn x.floor) (zn 2) = some (zn (x.floor / 2), zn (x.floor % 2), 0) := d1
  have g1 := sign_eq (wl_zn (mod2_fit x.floor) (by decide))
  rw [zi_zn] at g1
  have hr : zn (rnd x) = if x - (x.floor : Rat) < 1 / 2 then zn x.floor else if 1 / 2 < x - (x.floor : Rat) then zn (x.floor + 1) else if x.floor % 2 = 0 then zn x.floor else zn (x.floor + 1) := by
    unfold rnd
    repeat' split
    all_goals rfl
  rw [hr]
  clear hr s1 r r1
  generalize qn (1 / 2) = q1 at n1 c1
  generalize qn (x.floor : Rat) = q2 at i1 e
  generalize hz0 : zn x.floor = z0 at *
  generalize zn (x.floor + 1) = z1 at *
  generalize zn (x.floor / 2) = z2 at *
  generalize zn (x.floor % 2) = z3 at *
  generalize zn 1 = z4 at *
  generalize zn 2 = z5 at *
  unfold book_Round_m
  refine bind_eq n1 <| bind_eq f1 <| bind_eq w1 <| bind_eq a1 <| bind_eq i1 <| bind_eq e <| bind_eq c1 ?_
  rcases rtri (x - (x.floor : Rat)) (1 / 2) with k | k | k
  · rw [cmpQ_lt k, if_pos k]
    exact bind_eq (dT rfl) <| bif_t rfl rfl
  · rw [k, cmpQ_self, if_neg Rat.lt_irrefl, if_neg Rat.lt_irrefl]
    refine bind_eq (dF (by decide)) <| bif_f rfl <| bind_eq (dF (by decide)) <| bif_f rfl <| bind_eq w2 <| bind_eq d1 <| bind_eq g1 <| bind_eq (congrArg some (sign_mod2 _)) ?_
    by_cases h2 : x.floor % 2 = 0
    · rw [if_pos h2]; exact bif_t (decide_eq_true h2) rfl
    · rw [if_neg h2]; exact bif_f (decide_eq_false h2) rfl
  · rw [cmpQ_gt k, if_neg (by grind), if_pos k]
    exact bind_eq (dF (by decide)) <| bif_f rfl <| bind_eq (dT rfl) <| bif_t rfl rfl
def mvE (n : Int) (len : Nat) (acc : Int) (kd : Nat) (hour : Int) : Int := if ¬ (0 < acc ∧ acc < n) then 1 else if kd < 1 ∨ 4 < kd then 12 else if hour < -1 ∨ 8 ≤ hour then 1 else if 1024 ≤ len then 5 else 0
theorem blank_eq {n : Int} {es : List En} (h : n ≠ 0) : book_Book_blank_m n es = some false := by
  unfold book_Book_blank_m
  exact letJ_of <| bind_eq (a := false) (bif_f rfl <| bind_eq (dF h) rfl) rfl
theorem pays_eq (n : Int) (es : List En) (a : Int) : book_Book_pays_m n es a = some (decide (0 < a ∧ a < n)) := by
  unfold book_Book_pays_m
  refine letJ_of <| bind_eq rfl ?_
  by_cases h : 0 < a
  · exact bind_eq (a := decide (0 < a ∧ a < n)) (bif_t (decide_eq_true h) <| bind_eq rfl (by simp [h])) rfl
  · exact bind_eq (a := decide (0 < a ∧ a < n)) (bif_f (decide_eq_false h) (by simp [h])) rfl
theorem check_eq (n : Int) (es : List En) (acc : Int) (kd : Nat) (hour : Int) (c : Zr) (len : Nat) : ∃ e, book_check_m ⟨acc, kd, hour, c⟩ n es = some e ∧ (e ≠ 0 → mvE n len acc kd hour = e) ∧ (e = 0 → mvE n len acc kd hour = if 1024 ≤ len then 5 else 0) := by
  unfold book_check_m mvE
  by_cases h1 : 0 < acc ∧ acc < n
  · by_cases h2 : kd < 1 ∨ 4 < kd
    · refine ⟨12, bind_eq (pays_eq _ _ _) <| bind_eq rfl <| bif_f (by simp [h1]) <| letJ_of <| bind_eq rfl <| bind_eq (a := true) ?_ <| bif_t rfl rfl, fun _ => by rw [if_neg (by simpa using h1), if_pos h2], by simp⟩
      by_cases h3 : kd < 1
      · exact bif_t (decide_eq_true h3) rfl
      · exact bif_f (decide_eq_false h3) <| bind_eq (dT (by omega)) rfl
    · by_cases h3 : hour < -1 ∨ 8 ≤ hour
      · refine ⟨1, bind_eq (pays_eq _ _ _) <| bind_eq rfl <| bif_f (by simp [h1]) <| letJ_of <| bind_eq rfl <| bind_eq (a := false) (bif_f (decide_eq_false (by omega)) <| bind_eq (dF (by omega)) rfl) <| bif_f rfl <| letJ_of <| bind_eq rfl <| bind_eq (a := true) ?_ <| bif_t rfl rfl, fun _ => by rw [if_neg (by simpa using h1), if_neg h2, if_pos h3], by simp⟩
        by_cases h4 : hour < -1
        · exact bif_t (decide_eq_true h4) rfl
        · exact bif_f (decide_eq_false h4) <| bind_eq (dT (by omega)) rfl
      · exact ⟨0, bind_eq (pays_eq _ _ _) <| bind_eq rfl <| bif_f (by simp [h1]) <| letJ_of <| bind_eq rfl <| bind_eq (a := false) (bif_f (decide_eq_false (by omega)) <| bind_eq (dF (by omega)) rfl) <| bif_f rfl <| letJ_of <| bind_eq rfl <| bind_eq (a := false) (bif_f (decide_eq_false (by omega)) <| bind_eq (dF (by omega)) rfl) <| bif_f rfl rfl, by simp, fun _ => by rw [if_neg (by simpa using h1), if_neg h2, if_neg h3]⟩
  · exact ⟨1, bind_eq (pays_eq _ _ _) <| bind_eq rfl <| bif_t (by simp [h1]) rfl, fun _ => by simp [h1], by simp⟩
def stp (n : Int) (es : List En) (m : Mv) (c : Zr) : List En := if mvE n es.length m.acc m.kd m.hour = 0 then es ++ [⟨m.acc, m.kd, m.hour, c⟩] else es
theorem move_eq {n : Int} {es : List En} {acc : Int} {kd : Nat} {hour : Int} {a : Qr} {L : Nat} {x : Rat} (hn : n ≠ 0) (ha : Rep L a x) (hL : L ≤ 1000000000) (hl : es.length ≤ 1000000) :
    book_Book_Move_m n es acc kd hour a = some (mvE n es.length acc kd hour, stp n es ⟨acc, kd, hour, a⟩ (zn (rnd x))) := by
  obtain ⟨e, he, h1, h2⟩ := check_eq n es acc kd hour ⟨false, []⟩ es.length
  have hr := ha.round hL
  unfold stp book_Book_Move_m
  show (book_Book_blank_m n es).bind _ = some (mvE n es.length acc kd hour, if mvE n es.length acc kd hour = 0 then es ++ [⟨acc, kd, hour, zn (rnd x)⟩] else es)
  generalize zn (rnd x) = z at hr ⊢
  refine bind_eq (blank_eq hn) <| bif_f rfl <| bind_eq he <| ?_
  by_cases h0 : e = 0
  · subst h0
    rw [h2 rfl]
    refine bind_eq (dF (by simp)) <| bif_f rfl <| bind_eq rfl ?_
    by_cases h3 : 1024 ≤ es.length
    · rw [if_pos h3, if_neg (by decide)]
      exact bind_eq (dT (by omega)) <| bif_t rfl rfl
    · rw [if_neg h3, if_pos rfl]
      exact bind_eq (dF (by omega)) <| bif_f rfl <| bind_eq hr <| bind_eq (apM1 (by decide) (by omega)) rfl
  · rw [h1 h0, if_neg h0]
    exact bind_eq (dT h0) <| bif_t rfl rfl
structure EnOk (n : Int) (K : Nat) (e : En) : Prop where
  a : 1 ≤ e.acc
  b : e.acc < n
  k : 1 ≤ e.kd ∧ e.kd ≤ 4
  z : e.cents = zn (zi e.cents)
  f : Fit K (zi e.cents)
def sumE (f : En → Int) (es : List En) : Int := (es.map f).sum
theorem sumE_append (f : En → Int) (l k : List En) : sumE f (l ++ k) = sumE f l + sumE f k := by simp [sumE]
theorem sumE_take (f : En → Int) {es : List En} {k : Nat} (h : k < es.length) : sumE f (es.take (k + 1)) = sumE f (es.take k) + f es[k] := by
  rw [List.take_add_one, List.getElem?_eq_getElem h, sumE_append]; simp [sumE]
theorem sum_abs {K : Nat} : ∀ {l : List Int}, (∀ c ∈ l, Fit K c) → l.sum.natAbs ≤ l.length * (4294967296 ^ K - 1)
  | [], _ => by simp
  | c :: l, h => by
    have h1 := h c (by simp)
    have h2 := sum_abs (l := l) (fun c hc => h c (by simp [hc]))
    rw [List.sum_cons, List.length_cons, Nat.succ_mul]
    have := Int.natAbs_add_le c l.sum
    unfold Fit at h1
    omega
theorem sum_fit {K : Nat} {l : List Int} (h : ∀ c ∈ l, Fit K c) (hl : l.length ≤ 4294967296) : Fit (K + 1) l.sum := by
  have h1 := sum_abs h
  have h2 := Nat.mul_le_mul_right (4294967296 ^ K - 1) hl
  have h3 := Nat.pow_pos (n := K) (show 0 < 4294967296 by decide)
  unfold Fit
  rw [Nat.pow_succ, Nat.mul_comm (4294967296 ^ K)]
  generalize 4294967296 ^ K = m at *
  omega
theorem fit0 {K : Nat} : Fit K 0 := by unfold Fit; exact Nat.pow_pos (by decide)
theorem sumE_fit {K : Nat} {f : En → Int} {es : List En} (h : ∀ e ∈ es, Fit K (f e)) (hl : es.length ≤ 1000000) : Fit (K + 1) (sumE f es) :=
  sum_fit (fun c hc => by obtain ⟨e, he, rfl⟩ := List.mem_map.1 hc; exact h e he) (by simp; omega)
theorem fit_take {K : Nat} {f : En → Int} {es : List En} (h : ∀ e ∈ es, Fit K (f e)) (k : Nat) (hl : es.length ≤ 1000000) : Fit (K + 1) (sumE f (es.take k)) :=
  sumE_fit (fun e he => h e (List.mem_of_mem_take he)) (by rw [List.length_take]; omega)
def balF (i : Int) (e : En) : Int := if i = 0 then -zi e.cents else if e.acc = i then zi e.cents else 0
theorem balF_fit {n : Int} {K : Nat} {e : En} (h : EnOk n K e) (i : Int) : Fit K (balF i e) := by
  unfold balF
  split
  · exact h.f.neg
  · split
    · exact h.f
    · exact fit0
def allQ (n : Nat) (es : List En) : List Zr := (List.range n).map fun (i : Nat) => zn (sumE (balF (i : Int)) es)
theorem allQ_len (n : Nat) (es : List En) : (allQ n es).length = n := by simp [allQ]
theorem allQ_get {n i : Nat} (es : List En) (h : i < n) : (allQ n es)[i]? = some (zn (sumE (balF (i : Int)) es)) := by simp [allQ, h]
theorem all_step {n : Nat} {es : List En} {k a : Nat} (hk : k < es.length) (hn : 0 < n) (ha : es[k].acc = (a : Int)) (h1 : 1 ≤ a) (h2 : a < n) :
    ((allQ n (es.take k)).set a (zn (sumE (balF a) (es.take k) + zi es[k].cents))).set 0 (zn (sumE (balF 0) (es.take k) - zi es[k].cents)) = allQ n (es.take (k + 1)) := by
  apply List.ext_getElem?
  intro i
  by_cases hi : i < n
  · rw [allQ_get _ hi, List.getElem?_set, List.getElem?_set, List.length_set, allQ_len, allQ_get _ hi, sumE_take _ hk]
    by_cases e0 : 0 = i
    · subst e0
      rw [if_pos rfl, if_pos hn]
      rw [show balF ((0 : Nat) : Int) es[k] = -zi es[k].cents from if_pos rfl]; rfl
    · rw [if_neg e0]
      by_cases ea : a = i
      · subst ea
        rw [if_pos rfl, if_pos hi]
        unfold balF; rw [if_neg (show ¬ ((a : Int) = 0) by omega), if_pos ha]
      · rw [if_neg ea]
        have : balF i es[k] = 0 := by unfold balF; rw [if_neg (by omega), ha, if_neg (by omega)]
        rw [this, Int.add_zero]
  · rw [List.getElem?_eq_none (by simp [allQ_len]; omega), List.getElem?_eq_none (by simp [allQ_len]; omega)]
theorem all_eq {n : Nat} {es : List En} {K : Nat} (hn : 0 < n) (hn2 : n ≤ 64) (he : ∀ e ∈ es, EnOk n K e) (hl : es.length ≤ 1000000) (hK : K ≤ 1000000000) : book_Book_All_m n es = some (allQ n es) := by
  unfold book_Book_All_m
  refine bind_eq (blank_eq (by omega)) <| bif_f rfl <| bind_eq (mkM_of (by decide) (by omega)) <| bind_eq rfl ?_
  refine bind_loop_to (fun k => ((k : Int), allQ n (es.take k))) es.length (allQ n es) ?_ (fun k hk => ?_) ?_ rfl
  · simp only [List.take_zero]
    congr 1
    apply List.ext_getElem?
    intro i
    by_cases hi : i < n
    · rw [allQ_get _ hi, List.getElem?_replicate, if_pos hi]; rfl
    · rw [List.getElem?_eq_none (by simp; omega), List.getElem?_eq_none (by simp [allQ_len]; omega)]
  · have g := List.getElem?_eq_getElem hk
    have ho := he _ (List.getElem_mem hk)
    obtain ⟨a, ha⟩ : ∃ a : Nat, es[k].acc = (a : Int) := ⟨es[k].acc.toNat, by have := ho.a; omega⟩
    have h1 : 1 ≤ a := by have := ho.a; omega
    have h2 : a < n := by have := ho.b; omega
    have s := all_step hk hn ha h1 h2
    have f1 : Fit (K + 1) (sumE (balF a) (es.take k)) := fit_take (fun e h => balF_fit (he e h) _) k hl
    have f2 : Fit (K + 1) (sumE (balF 0) (es.take k)) := fit_take (fun e h => balF_fit (he e h) _) k hl
    have a1 := add_eq (wl_zn f1 (by omega)) (wl_zn ho.f (by omega))
    have a2 := sub_eq (wl_zn f2 (by omega)) (wl_zn ho.f (by omega))
    rw [zi_zn, zi_zn, ← ho.z] at a1 a2
    have g1 := allQ_get (es.take k) h2
    have g2 : ((allQ n (es.take k)).set a (zn (sumE (balF a) (es.take k) + zi es[k].cents)))[0]? = some (zn (sumE (balF 0) (es.take k))) := by
      rw [List.getElem?_set, if_neg (by omega)]; exact allQ_get (es.take k) hn
    rw [← s]
    generalize hq : allQ n (es.take k) = q at *
    have hql : q.length = n := by rw [← hq]; exact allQ_len _ _
    generalize zn (sumE (balF a) (es.take k) + zi es[k].cents) = z1 at *
    generalize zn (sumE (balF 0) (es.take k) - zi es[k].cents) = z2 at *
    generalize zn (sumE (balF a) (es.take k)) = z3 at *
    generalize zn (sumE (balF 0) (es.take k)) = z4 at *
    clear s ho f1 f2
    generalize es[k] = e at *
    obtain ⟨acc, kd, hour, c⟩ := e
    replace ha : acc = (a : Int) := ha
    subst ha
    refine bind_eq (dT (by omega)) <| bif_t rfl <| bind_eq (cki_nat hk) <| bind_eq g <| bind_eq (cki_nat (by omega)) <| bind_eq g1 <| bind_eq a1 <| bind_eq (cki_nat (by omega)) <| bind_eq (stM_of (by omega)) <| bind_eq (cki_nat (i := 0) (by simp; omega)) <| bind_eq g2 <| bind_eq a2 <| bind_eq (cki_nat (i := 0) (by simp; omega)) <| bind_eq (stM_of (by simp; omega)) <| bind_eq (congrArg some (w64_succ (by omega))) rfl
  · rw [List.take_length]
    exact bind_eq (dF (by omega)) <| bif_f rfl rfl
theorem entries_eq {n : Nat} {es : List En} {K : Nat} (hn : 0 < n) (he : ∀ e ∈ es, EnOk n K e) (hl : es.length ≤ 1000000) (hK : K ≤ 1000000000) : book_Book_Entries_m n es = some es := by
  unfold book_Book_Entries_m
  refine bind_eq (blank_eq (by omega)) <| bif_f rfl <| bind_eq rfl <| bind_eq (mkM_of (by decide) (by omega)) <| bind_eq rfl ?_
  refine bind_loop_to (fun k => ((k : Int), es.take k ++ List.replicate (es.length - k) (⟨0, 0, 0, ⟨false, []⟩⟩ : En))) es.length es (by simp) (fun k hk => ?_) ?_ rfl
  · have g := List.getElem?_eq_getElem hk
    have ho := he _ (List.getElem_mem hk)
    have a1 := add_eq (wl_zn ho.f (show K ≤ 10000000000 by omega)) (show Wl ⟨false, []⟩ from wl_zero)
    rw [zi_zn, zi_zero, Int.add_zero, ← ho.z] at a1
    have s : (es.take k ++ List.replicate (es.length - k) (⟨0, 0, 0, ⟨false, []⟩⟩ : En)).set k es[k] = es.take (k + 1) ++ List.replicate (es.length - (k + 1)) ⟨0, 0, 0, ⟨false, []⟩⟩ := by
      rw [List.set_append_right _ _ (by simp; omega), show k - (es.take k).length = 0 by simp; omega, show es.length - k = (es.length - (k + 1)) + 1 by omega, List.replicate_succ, List.set_cons_zero, List.take_add_one, g]
      simp only [Option.toList_some, List.append_assoc, List.singleton_append]
    rw [← s]
    have hql : (es.take k ++ List.replicate (es.length - k) (⟨0, 0, 0, ⟨false, []⟩⟩ : En)).length = es.length := by simp; omega
    generalize (es.take k ++ List.replicate (es.length - k) (⟨0, 0, 0, ⟨false, []⟩⟩ : En)) = q at *
    clear s ho
    generalize es[k] = e at *
    obtain ⟨acc, kd, hour, c⟩ := e
    refine bind_eq (dT (by omega)) <| bif_t rfl <| bind_eq (cki_nat hk) <| bind_eq g <| bind_eq a1 <| bind_eq (cki_nat (by omega)) <| bind_eq (stM_of (by omega)) <| bind_eq (congrArg some (w64_succ (by omega))) rfl
  · simp only [List.take_length, Nat.sub_self, List.replicate_zero, List.append_nil]
    exact bind_eq (dF (by omega)) <| bif_f rfl rfl
def kdF (k : Nat) (e : En) : Int := if e.kd = k then zi e.cents else 0
theorem kdF_fit {n : Int} {K : Nat} {e : En} (h : EnOk n K e) (k : Nat) : Fit K (kdF k e) := by
  unfold kdF
  split
  · exact h.f
  · exact fit0
theorem by_eq {n : Nat} {es : List En} {K : Nat} (hn : 0 < n) (he : ∀ e ∈ es, EnOk n K e) (hl : es.length ≤ 1000000) (hK : K ≤ 1000000000) (kind : Nat) : book_Book_By_m n es kind = some (zn (sumE (kdF kind) es)) := by
  unfold book_Book_By_m
  refine bind_eq (blank_eq (by omega)) <| bif_f rfl <| bind_eq rfl ?_
  refine bind_loop_to (fun k => ((k : Int), (zn (sumE (kdF kind) (es.take k))).neg, (zn (sumE (kdF kind) (es.take k))).w)) es.length ((zn (sumE (kdF kind) es)).neg, (zn (sumE (kdF kind) es)).w) rfl (fun k hk => ?_) ?_ rfl
  · have g := List.getElem?_eq_getElem hk
    have ho := he _ (List.getElem_mem hk)
    have f1 : Fit (K + 1) (sumE (kdF kind) (es.take k)) := fit_take (fun e h => kdF_fit (he e h) _) k hl
    have a1 := add_eq (wl_zn f1 (by omega)) (wl_zn ho.f (by omega))
    rw [zi_zn, zi_zn, ← ho.z] at a1
    rw [sumE_take _ hk]
    have hkd : kdF kind es[k] = if es[k].kd = kind then zi es[k].cents else 0 := rfl
    generalize sumE (kdF kind) (es.take k) = s at *
    rw [hkd]
    clear f1 ho hkd
    generalize es[k] = e at *
    obtain ⟨acc, kd, hour, c⟩ := e
    refine bind_eq (dT (by omega)) <| bif_t rfl <| bind_eq (cki_nat hk) <| bind_eq g <| bind_eq rfl <| letJ_of ?_
    by_cases h : kd = kind
    · rw [if_pos h]
      refine bif_t (decide_eq_true h) ?_
      generalize zn (s + zi c) = z1 at *
      generalize zn s = z0 at *
      exact bind_eq a1 <| bind_eq (congrArg some (w64_succ (by omega))) rfl
    · rw [if_neg h, Int.add_zero]
      exact bif_f (decide_eq_false h) <| bind_eq (congrArg some (w64_succ (by omega))) rfl
  · rw [List.take_length]
    exact bind_eq (dF (by omega)) <| bif_f rfl rfl
theorem new_ok {n : Int} (h1 : 1 ≤ n) (h2 : n ≤ 64) : book_New_m n = some (n, []) := by
  unfold book_New_m
  exact letJ_of <| bind_eq (dF (by omega)) <| bind_eq (a := false) (bif_f rfl <| bind_eq (dF (by omega)) rfl) rfl
theorem same39 {n : Int} {K : Nat} {es : List En} (he : ∀ e ∈ es, EnOk n K e) (hl : es.length ≤ 1000000) (hK : K ≤ 1000000000) : ref39_Same_m es es = some true := by
  unfold ref39_Same_m
  refine bind_eq rfl <| bind_eq rfl <| bind_eq (dF (by simp)) <| bif_f rfl ?_
  refine bind_loop_to (fun k => (k : Int)) es.length (.inl ()) rfl (fun k hk => ?_) ?_ rfl
  · have g := List.getElem?_eq_getElem hk
    have ho := he _ (List.getElem_mem hk)
    have s := same_refl (x := es[k].cents) (by
      rw [ho.z]
      have : (can 4294967296 (zi es[k].cents).natAbs).length ≤ K := (can_len_iff (by decide)).2 ho.f
      show (can 4294967296 (zi es[k].cents).natAbs).length ≤ _
      omega)
    clear ho
    generalize es[k] = e at *
    obtain ⟨acc, kd, hour, c⟩ := e
    refine bind_eq rfl <| bind_eq (dT (by omega)) <| bif_t rfl <| letJ_of <| bind_eq (geti_nat g) <| bind_eq (geti_nat g) <| bind_eq (dF (by simp)) ?_
    refine bind_eq (a := false) (bif_f rfl <| bind_eq (geti_nat g) <| bind_eq (geti_nat g) <| bind_eq (dF (by simp)) rfl) ?_
    refine bind_eq (a := false) (bif_f rfl <| bind_eq (geti_nat g) <| bind_eq (geti_nat g) <| bind_eq (dF (by simp)) rfl) ?_
    refine bind_eq (a := false) (bif_f rfl <| bind_eq (geti_nat g) <| bind_eq (geti_nat g) <| bind_eq s <| bind_eq rfl rfl) ?_
    exact bif_f rfl <| bind_eq (congrArg some (w64_succ (by omega))) rfl
  · exact bind_eq rfl <| bind_eq (dF (by omega)) <| bif_f rfl rfl
end Go.Proofs.Ytmiflmkdaeianaa
namespace Go.Proofs.Ytmiflmkdaeianaa
open Go.Fw
def NearI (x : Rat) (r : Int) : Prop := (2 * (x - (r : Rat)) < 1 ∧ -1 < 2 * (x - (r : Rat))) ∨ ((2 * (x - (r : Rat)) = 1 ∨ 2 * (x - (r : Rat)) = -1) ∧ r % 2 = 0)
theorem cast1 (l : Int) : ((l + 1 : Int) : Rat) = (l : Rat) + 1 := by rw [Rat.intCast_add]; rfl
theorem rnd_near (x : Rat) : NearI x (rnd x) := by
  have h1 := Rat.floor_le x
  have h2 := Rat.lt_floor_add_one x
  rw [cast1] at h2
  have hh : (1 : Rat) / 2 + 1 / 2 = 1 := by grind
  unfold rnd
  generalize x.floor = l at *
  split
  · exact .inl (by constructor <;> grind)
  · split
    · exact .inl (by rw [cast1]; constructor <;> grind)
    · have e : 2 * (x - (l : Rat)) = 1 := by grind
      split
      · rename_i h; exact .inr ⟨.inl e, h⟩
      · refine .inr ⟨.inr ?_, by omega⟩
        rw [cast1]; grind
theorem near_le {x y : Rat} {r s : Int} (h : NearI x r) (k : NearI y s) (e : x ≤ y) : r ≤ s := by
  by_cases hrs : r ≤ s
  · exact hrs
  · exfalso
    have h2 : ((s + 1 : Int) : Rat) ≤ (r : Rat) := Rat.intCast_le_intCast.2 (by omega)
    rw [cast1] at h2
    have a1 : -1 ≤ 2 * (x - (r : Rat)) := by rcases h with h | ⟨h | h, _⟩ <;> grind
    have a2 : 2 * (y - (s : Rat)) ≤ 1 := by rcases k with h | ⟨h | h, _⟩ <;> grind
    have e1 : (r : Rat) = ((s + 1 : Int) : Rat) := by rw [cast1]; grind
    have e2 : r = s + 1 := Rat.intCast_inj.1 e1
    have b1 : r % 2 = 0 := by
      rcases h with ⟨h, h'⟩ | ⟨_, h⟩
      · exfalso; grind
      · exact h
    have b2 : s % 2 = 0 := by
      rcases k with ⟨h, h'⟩ | ⟨_, h⟩
      · exfalso; grind
      · exact h
    omega
theorem near_rnd {x : Rat} {r : Int} (h : NearI x r) : rnd x = r := Int.le_antisymm (near_le (rnd_near x) h Rat.le_refl) (near_le h (rnd_near x) Rat.le_refl)
theorem is39_eq {i n : Int} {K : Nat} (hf : Fit K i) (hK : K ≤ 10000000000) (hn : i64ok n) (e : i = n) : law39_is_m (zn i) n = some true := by
  subst e
  have h1 := fromInt_eq hn.1 hn.2
  have h2 := same_refl (x := zn i) (Nat.le_trans (wl_zn hf hK).2 (by decide))
  unfold law39_is_m
  generalize zn i = z at *
  exact bind_eq h1 <| bind_eq h2 rfl
theorem is39_small {n : Int} (hn : i64ok n) : law39_is_m (zn n) n = some true := is39_eq (K := 2) (Fit.i64 hn.1 hn.2) (by decide) hn rfl
theorem over_eq39 {n d : Int} (hn : i64ok n) (hd : i64ok d) (h0 : d ≠ 0) : ∃ q, law39_over_m n d = some q ∧ Rep 2 q (Rat.divInt n d) := by
  obtain ⟨h, r⟩ := new_eq hn hd h0
  refine ⟨_, ?_, r⟩
  unfold law39_over_m
  generalize qn (Rat.divInt n d) = q at *
  exact bind_eq h rfl
theorem move_err {n : Int} {es : List En} {acc : Int} {kd : Nat} {hour : Int} {a : Qr} {L : Nat} {x : Rat} (e : Int) (hn : n ≠ 0) (ha : Rep L a x) (hL : L ≤ 1000000000) (hl : es.length ≤ 1000000) (he : mvE n es.length acc kd hour = e) (h0 : e ≠ 0) : book_Book_Move_m n es acc kd hour a = some (e, es) := by
  rw [move_eq hn ha hL hl]
  unfold stp
  show some (mvE n es.length acc kd hour, if mvE n es.length acc kd hour = 0 then es ++ [⟨acc, kd, hour, zn (rnd x)⟩] else es) = _
  rw [he, if_neg h0]
theorem move_good {n : Int} {es : List En} {acc : Int} {kd : Nat} {hour : Int} {a : Qr} {L : Nat} {x : Rat} (hn : n ≠ 0) (ha : Rep L a x) (hL : L ≤ 1000000000) (hl : es.length ≤ 1000000) (he : mvE n es.length acc kd hour = 0) (r : Int) (hr : rnd x = r) : book_Book_Move_m n es acc kd hour a = some (0, es ++ [⟨acc, kd, hour, zn r⟩]) := by
  rw [move_eq hn ha hL hl]
  unfold stp
  show some (mvE n es.length acc kd hour, if mvE n es.length acc kd hour = 0 then es ++ [⟨acc, kd, hour, zn (rnd x)⟩] else es) = _
  rw [he, if_pos rfl, hr]
theorem r52 : rnd (Rat.divInt 5 2) = 2 := near_rnd (.inr ⟨.inl (by rw [Rat.divInt_eq_div]; show 2 * ((5 : Rat) / 2 - 2) = 1; grind), rfl⟩)
theorem r72 : rnd (Rat.divInt 7 2) = 4 := near_rnd (.inr ⟨.inr (by rw [Rat.divInt_eq_div]; show 2 * ((7 : Rat) / 2 - 4) = -1; grind), rfl⟩)
theorem r52' : rnd (Rat.divInt (-5) 2) = -2 := near_rnd (.inr ⟨.inr (by rw [Rat.divInt_eq_div]; show 2 * ((-5 : Rat) / 2 - (-2)) = -1; grind), rfl⟩)
theorem r83 : rnd (Rat.divInt 8 3) = 3 := near_rnd (.inl (by rw [Rat.divInt_eq_div]; show 2 * ((8 : Rat) / 3 - 3) < 1 ∧ -1 < 2 * ((8 : Rat) / 3 - 3); constructor <;> grind))
theorem r71' : rnd (Rat.divInt (-7) 1) = -7 := near_rnd (.inl (by rw [Rat.divInt_eq_div]; show 2 * ((-7 : Rat) / 1 - (-7)) < 1 ∧ -1 < 2 * ((-7 : Rat) / 1 - (-7)); constructor <;> grind))
theorem awake39_eq : law39_awake_m = some true := by
  obtain ⟨q1, e1, s1⟩ := over_eq39 (n := 5) (d := 2) (by decide) (by decide) (by decide)
  obtain ⟨q2, e2, s2⟩ := over_eq39 (n := -7) (d := 1) (by decide) (by decide) (by decide)
  obtain ⟨q3, e3, s3⟩ := over_eq39 (n := 1) (d := 1) (by decide) (by decide) (by decide)
  obtain ⟨q4, e4, s4⟩ := over_eq39 (n := 7) (d := 2) (by decide) (by decide) (by decide)
  obtain ⟨q5, e5, s5⟩ := over_eq39 (n := -5) (d := 2) (by decide) (by decide) (by decide)
  obtain ⟨q6, e6, s6⟩ := over_eq39 (n := 8) (d := 3) (by decide) (by decide) (by decide)
  have m1 := move_good (n := 3) (es := []) (acc := 1) (kd := 1) (hour := 0) (by decide) s1 (by decide) (by simp) (by decide) 2 r52
  have m2 := move_good (n := 3) (es := [] ++ [⟨1, 1, 0, zn 2⟩]) (acc := 2) (kd := 1) (hour := 0) (by decide) s2 (by decide) (by simp) (by decide) (-7) r71'
  obtain ⟨es, hes⟩ : ∃ es, ([] ++ [⟨1, 1, 0, zn 2⟩] ++ [⟨2, 1, 0, zn (-7)⟩] : List En) = es := ⟨_, rfl⟩
  have hlen : es.length = 2 := by rw [← hes]; rfl
  have ok1 : EnOk (3 : Nat) 1 ⟨1, 1, 0, zn 2⟩ := ⟨by decide, by decide, by decide, by rw [zi_zn], by rw [zi_zn]; unfold Fit; decide⟩
  have ok2 : EnOk (3 : Nat) 1 ⟨2, 1, 0, zn (-7)⟩ := ⟨by decide, by decide, by decide, by rw [zi_zn], by rw [zi_zn]; unfold Fit; decide⟩
  have hok : ∀ e ∈ es, EnOk (3 : Nat) 1 e := by
    rw [← hes]; intro e he
    simp only [List.nil_append, List.cons_append, List.mem_cons, List.not_mem_nil, or_false] at he
    rcases he with rfl | rfl
    · exact ok1
    · exact ok2
  have bal : ∀ f : En → Int, sumE f es = f ⟨1, 1, 0, zn 2⟩ + f ⟨2, 1, 0, zn (-7)⟩ := fun f => by rw [← hes]; simp [sumE]
  have a1 := all_eq (n := 3) (by decide) (by decide) hok (by omega) (by decide)
  have g0 := allQ_get (n := 3) (i := 0) es (by decide)
  have g1 := allQ_get (n := 3) (i := 1) es (by decide)
  have g2 := allQ_get (n := 3) (i := 2) es (by decide)
  have gl := allQ_len 3 es
  have b0 : sumE (balF ((0 : Nat) : Int)) es = 5 := by rw [bal]; unfold balF; simp only [zi_zn]; decide
  have b1 : sumE (balF ((1 : Nat) : Int)) es = 2 := by rw [bal]; unfold balF; simp only [zi_zn]; decide
  have b2 : sumE (balF ((2 : Nat) : Int)) es = -7 := by rw [bal]; unfold balF; simp only [zi_zn]; decide
  have b3 : sumE (kdF 1) es = -5 := by rw [bal]; unfold kdF; simp only [zi_zn]; decide
  rw [b0] at g0
  rw [b1] at g1
  rw [b2] at g2
  have y1 := by_eq (n := 3) (by decide) hok (by omega) (by decide) 1
  rw [b3] at y1
  have n1 := entries_eq (n := 3) (by decide) hok (by omega) (by decide)
  rw [hes] at m2
  have m3 := move_err (n := 3) (es := es) (acc := 3) (kd := 1) (hour := 0) 1 (by decide) s3 (by decide) (by omega) (by rw [hlen]; decide) (by decide)
  have m4 := move_err (n := 3) (es := es) (acc := 0) (kd := 1) (hour := 0) 1 (by decide) s3 (by decide) (by omega) (by rw [hlen]; decide) (by decide)
  have m5 := move_err (n := 3) (es := es) (acc := 1) (kd := 5) (hour := 0) 12 (by decide) s3 (by decide) (by omega) (by rw [hlen]; decide) (by decide)
  have m6 := move_err (n := 3) (es := es) (acc := 1) (kd := 4) (hour := 8) 1 (by decide) s3 (by decide) (by omega) (by rw [hlen]; decide) (by decide)
  have o1 := s1.round (by decide)
  have o2 := s4.round (by decide)
  have o3 := s5.round (by decide)
  have o4 := s6.round (by decide)
  rw [r52] at o1
  rw [r72] at o2
  rw [r52'] at o3
  rw [r83] at o4
  have i1 := is39_small (n := 2) (by decide)
  have i2 := is39_small (n := 4) (by decide)
  have i3 := is39_small (n := -2) (by decide)
  have i4 := is39_small (n := 3) (by decide)
  have i5 := is39_small (n := 5) (by decide)
  have i6 := is39_small (n := -7) (by decide)
  have i7 := is39_small (n := -5) (by decide)
  generalize allQ 3 es = al at *
  clear hok bal ok1 ok2 hes b0 b1 b2 b3
  generalize ([] ++ [⟨1, 1, 0, zn 2⟩] : List En) = es1 at *
  generalize zn 2 = z2 at *
  generalize zn 4 = z4 at *
  generalize zn (-2) = z2' at *
  generalize zn 3 = z3 at *
  generalize zn 5 = z5 at *
  generalize zn (-7) = z7 at *
  generalize zn (-5) = z5' at *
  unfold law39_awake_m
  refine bind_eq (new_ok (by decide) (by decide)) <| bind_eq e1 <| bind_eq m1 <| bind_eq e2 <| bind_eq m2 <| bind_eq e3 <| bind_eq m3 <| bind_eq e3 <| bind_eq m4 <| bind_eq e3 <| bind_eq m5 <| bind_eq e3 <| bind_eq m6 <| bind_eq a1 <| letJ_of ?_
  refine bind_eq e1 <| bind_eq o1 <| bind_eq i1 <| andT (bind_eq e4 <| bind_eq o2 <| bind_eq i2 rfl) <| andT (bind_eq e5 <| bind_eq o3 <| bind_eq i3 rfl) <| andT (bind_eq e6 <| bind_eq o4 <| bind_eq i4 rfl) ?_
  refine andT (bind_eq (dT rfl) rfl) <| andT (bind_eq (dT rfl) rfl) <| andT (bind_eq (dT rfl) rfl) <| andT (bind_eq (dT rfl) rfl) <| andT (bind_eq (dT rfl) rfl) <| andT (bind_eq (dT rfl) rfl) ?_
  refine andT (bind_eq rfl <| bind_eq (dT (by omega)) rfl) <| andT (bind_eq (geti_zero g0) <| bind_eq i5 rfl) <| andT (bind_eq (geti_one g1) <| bind_eq i1 rfl) <| andT (bind_eq (geti_nat (i := 2) g2) <| bind_eq i6 rfl) ?_
  exact andT (bind_eq y1 <| bind_eq i7 rfl) <| andT (bind_eq n1 <| bind_eq rfl <| bind_eq (dT (by omega)) rfl) rfl
end Go.Proofs.Ytmiflmkdaeianaa
namespace Go.Proofs.Ytmiflmkdaeianaa
open Go.Fw
theorem same_zn39 {i j : Int} {K : Nat} (hf : Fit K i) (hK : K ≤ 10000000000) (e : i = j) : ref01_Same_m (zn i) (zn j) = some true := by
  subst e
  exact same_refl (x := zn i) (Nat.le_trans (wl_zn hf hK).2 (by decide))
abbrev OkMv (m : Mv) : Prop := (-9223372036854775808 ≤ m.acc ∧ m.acc ≤ 9223372036854775807) ∧ m.kd < 256 ∧ (-9223372036854775808 ≤ m.hour ∧ m.hour ≤ 9223372036854775807) ∧ OkQ m.amount
abbrev szMv (m : Mv) : Nat := 1 + 1 + 1 + szQ m.amount + 1
abbrev szL (l : List Mv) : Nat := (l.map fun m => szMv m).sum + 1
def RepM (l : List Mv) : Prop := ∀ m ∈ l, Rep 1048576 m.amount (qv m.amount)
theorem repM {l : List Mv} (h : ∀ m ∈ l, OkMv m) (hs : szL l ≤ 1048576) : RepM l := fun m hm => repq (h m hm).2.2.2 (by
  have := sum_mem (fun m => szMv m) hm
  have e : szL l = (l.map fun m => szMv m).sum + 1 := rfl
  have e2 : szMv m = 1 + 1 + 1 + szQ m.amount + 1 := rfl
  omega)
def mst (n : Int) (es : List En) (m : Mv) : List En := stp n es m (zn (rnd (qv m.amount)))
def mk (n : Int) (l : List Mv) : List En := l.foldl (mst n) []
def ent (n : Int) (m : Mv) : Option En := if mvE n 0 m.acc m.kd m.hour = 0 then some ⟨m.acc, m.kd, m.hour, zn (rnd (qv m.amount))⟩ else none
theorem mvE_len {n : Int} {k : Nat} {a : Int} {kd : Nat} {h : Int} (hk : k < 1024) : mvE n k a kd h = mvE n 0 a kd h := by
  unfold mvE; rw [if_neg (show ¬ 1024 ≤ k by omega), if_neg (show ¬ 1024 ≤ 0 by omega)]
theorem mst_len (n : Int) (es : List En) (m : Mv) : (mst n es m).length ≤ es.length + 1 := by
  unfold mst stp; split <;> simp
theorem fold_filter (n : Int) : ∀ (l : List Mv) (es : List En), es.length + l.length ≤ 1024 → l.foldl (mst n) es = es ++ l.filterMap (ent n)
  | [], es, _ => by simp
  | m :: l, es, h => by
    rw [List.length_cons] at h
    have h1 := mst_len n es m
    rw [List.foldl_cons, fold_filter n l _ (by omega)]
    have e : mst n es m = es ++ (ent n m).toList := by
      unfold mst stp ent
      rw [mvE_len (by omega)]
      split <;> simp
    rw [e, List.filterMap_cons, List.append_assoc]
    congr 1
    cases ent n m <;> rfl
theorem mk_filter {n : Int} {l : List Mv} (h : l.length ≤ 1024) : mk n l = l.filterMap (ent n) := by
  unfold mk; rw [fold_filter n l [] (by simpa using h)]; rfl
theorem mk_len {n : Int} {l : List Mv} (h : l.length ≤ 1024) : (mk n l).length ≤ l.length := by
  rw [mk_filter h]; exact List.length_filterMap_le _ _
theorem mk_ok {n : Int} {l : List Mv} (h : l.length ≤ 1024) (hr : RepM l) : ∀ e ∈ mk n l, EnOk n 1048577 e := by
  rw [mk_filter h]
  intro e he
  obtain ⟨m, hm, hme⟩ := List.mem_filterMap.1 he
  unfold ent at hme
  split at hme
  · rename_i hv
    cases hme
    have hf := rnd_fit (hr m hm).fq
    unfold mvE at hv
    have h1 : 0 < m.acc ∧ m.acc < n := by
      by_cases q : 0 < m.acc ∧ m.acc < n
      · exact q
      · rw [if_pos q] at hv; exact absurd hv (by decide)
    rw [if_neg (by simpa using h1)] at hv
    have h2 : ¬ (m.kd < 1 ∨ 4 < m.kd) := fun q => by rw [if_pos q] at hv; exact absurd hv (by decide)
    refine ⟨by show 1 ≤ m.acc; omega, h1.2, by show 1 ≤ m.kd ∧ m.kd ≤ 4; omega, ?_, ?_⟩
    · show zn (rnd (qv m.amount)) = zn (zi (zn (rnd (qv m.amount)))); rw [zi_zn]
    · show Fit _ (zi (zn (rnd (qv m.amount)))); rw [zi_zn]; exact hf
  · cases hme
theorem made_eq {x0 : Nat} {l : List Mv} (h0 : x0 < 256) (hl : l.length ≤ 1024) (hr : RepM l) : law39_made_m x0 l = some (((1 + x0 % 64 : Nat) : Int), mk ((1 + x0 % 64 : Nat) : Int) l) := by
  unfold law39_made_m
  have t : Int.tmod ((x0 : Nat) : Int) 64 = ((x0 % 64 : Nat) : Int) := rfl
  have t2 : IntKind.i64.wrap (1 + ((x0 % 64 : Nat) : Int)) = ((1 + x0 % 64 : Nat) : Int) := by rw [w64_id (by omega) (by omega)]; simp
  refine bind_eq (congrArg some (w64_nat (by omega))) <| bind_eq (congrArg some t) <| bind_eq (congrArg some t2) <| bind_eq (new_ok (by omega) (by omega)) ?_
  refine bind_loop_to (fun k => ((k : Int), mk ((1 + x0 % 64 : Nat) : Int) (l.take k))) l.length (mk ((1 + x0 % 64 : Nat) : Int) l) rfl (fun k hk => ?_) ?_ rfl
  · have g := List.getElem?_eq_getElem hk
    have hm := hr _ (List.getElem_mem hk)
    have hlen : (mk ((1 + x0 % 64 : Nat) : Int) (l.take k)).length ≤ 1024 := Nat.le_trans (mk_len (by rw [List.length_take]; omega)) (by rw [List.length_take]; omega)
    have s : mk ((1 + x0 % 64 : Nat) : Int) (l.take (k + 1)) = mst ((1 + x0 % 64 : Nat) : Int) (mk ((1 + x0 % 64 : Nat) : Int) (l.take k)) l[k] := by
      unfold mk; rw [List.take_add_one, g, List.foldl_append]; rfl
    rw [s]
    generalize mk ((1 + x0 % 64 : Nat) : Int) (l.take k) = es at *
    clear s
    unfold mst
    have mv := move_eq (n := ((1 + x0 % 64 : Nat) : Int)) (es := es) (acc := l[k].acc) (kd := l[k].kd) (hour := l[k].hour) (by omega) hm (by decide) (by omega)
    generalize zn (rnd (qv l[k].amount)) = z at *
    clear hm
    generalize l[k] = m at *
    obtain ⟨acc, kd, hour, q⟩ := m
    exact bind_eq rfl <| bind_eq (dT (by omega)) <| bif_t rfl <| bind_eq (geti_nat g) <| bind_eq (geti_nat g) <| bind_eq (geti_nat g) <| bind_eq (geti_nat g) <| bind_eq mv <| bind_eq (congrArg some (w64_succ (by omega))) rfl
  · rw [List.take_length]
    exact bind_eq rfl <| bind_eq (dF (by omega)) <| bif_f rfl rfl
theorem tmod40 (i : Nat) : Int.tmod (i : Int) 40 = ((i % 40 : Nat) : Int) := rfl
theorem long39 (l : List Mv) (hl : l.length ≤ 9223372036854775807) : ∃ b, law39_long_m l = some b ∧ (b = false → l.length ≤ 60) := by
  unfold law39_long_m
  by_cases h60 : 60 < l.length
  · exact ⟨true, bind_eq rfl <| bind_eq (dT (by omega)) <| bif_t rfl rfl, by simp⟩
  · have step : ∃ r, (loopM (fun (s12 : Int × (List Qr)) => match s12 with | ⟨y4l6, r309l6⟩ => (show Option ((Int × (List Qr)) ⊕ ((Unit) ⊕ (Bool))) from (some (l.length : Int)).bind fun x10 => (some (decide ((y4l6 : Int) < x10))).bind fun x11 => (bif x11 then (geti l y4l6).bind fun ⟨x17_0, x17_1, x17_2, ⟨⟨x17_3, x17_4⟩, ⟨x17_5, x17_6⟩⟩⟩ => (apM 64 r309l6 [⟨⟨x17_3, x17_4⟩, ⟨x17_5, x17_6⟩⟩]).bind fun x21 => letJ (fun (y31j14 : Bool) => letJ (fun (r316j16 : (List Qr)) => (some (IntKind.i64.wrap (y4l6 + 1))).bind fun x13 => some (.inl (x13, r316j16))) fun K17 => (bif y31j14 then (law33_Long_m [x21]).bind fun x34 => (bif x34 then some (.inr (.inr true)) else K17 []) else K17 x21)) fun K15 => (some (Int.tmod y4l6 40)).bind fun x23 => (some (decide ((x23 : Int) = 39))).bind fun x24 => (bif x24 then some true else (some (l.length : Int)).bind fun x28 => (some (IntKind.i64.wrap (x28 - 1))).bind fun x29 => (some (decide ((y4l6 : Int) = x29))).bind fun x30 => some x30).bind fun c31_18 => K15 c31_18 else some (.inr (.inl ()))))) (0, [])).bind (fun e12 => match e12 with | .inr v12 => some v12 | .inl _ => some false) = some r ∧ True := by
      refine bind_loop_ex (fun s => ∃ (i : Nat) (r : List Qr), s = ((i : Int), r) ∧ i ≤ l.length ∧ r.length ≤ i) (fun _ => True) (fun s => l.length - s.1.toNat) ?_ ⟨0, [], rfl, by omega, by simp⟩ ?_
      · rintro _ ⟨i, r, rfl, hi, hr⟩
        by_cases hlt : i < l.length
        · have g := List.getElem?_eq_getElem hlt
          generalize l[i] = m at g
          obtain ⟨acc, kd, hour, q⟩ := m
          have ap := apM1 (b := 64) (l := r) (x := q) (by decide) (by omega)
          obtain ⟨t, ht, -⟩ := long33 [r ++ [q]] (by simp)
          have fin : ∀ (c : Bool), ((bif c then (law33_Long_m [r ++ [q]]).bind fun x34 => (bif x34 then some (.inr (.inr true)) else (some (IntKind.i64.wrap ((i : Int) + 1))).bind fun x13 => some (.inl (x13, []))) else (some (IntKind.i64.wrap ((i : Int) + 1))).bind fun x13 => some (.inl (x13, r ++ [q]))) : Option ((Int × (List Qr)) ⊕ ((Unit) ⊕ (Bool)))) = some (.inr (.inr true)) ∨ ∃ r2 : List Qr, r2.length ≤ i + 1 ∧ ((bif c then (law33_Long_m [r ++ [q]]).bind fun x34 => (bif x34 then some (.inr (.inr true)) else (some (IntKind.i64.wrap ((i : Int) + 1))).bind fun x13 => some (.inl (x13, []))) else (some (IntKind.i64.wrap ((i : Int) + 1))).bind fun x13 => some (.inl (x13, r ++ [q]))) : Option ((Int × (List Qr)) ⊕ ((Unit) ⊕ (Bool)))) = some (.inl (((i + 1 : Nat) : Int), r2)) := by
            intro c
            cases c
            · exact .inr ⟨r ++ [q], by simp; omega, bif_f rfl <| bind_eq (congrArg some (w64_succ (by omega))) rfl⟩
            · cases t
              · exact .inr ⟨[], by simp, bif_t rfl <| bind_eq ht <| bif_f rfl <| bind_eq (congrArg some (w64_succ (by omega))) rfl⟩
              · exact .inl (bif_t rfl <| bind_eq ht <| bif_t rfl rfl)
          have cond : ∃ c : Bool, ((bif decide (((i % 40 : Nat) : Int) = 39) then some true else (some (l.length : Int)).bind fun x28 => (some (IntKind.i64.wrap (x28 - 1))).bind fun x29 => (some (decide ((i : Int) = x29))).bind fun x30 => some x30) : Option Bool) = some c := by
            cases decide (((i % 40 : Nat) : Int) = 39)
            · exact ⟨_, rfl⟩
            · exact ⟨_, rfl⟩
          obtain ⟨c, hc⟩ := cond
          rcases fin c with h | ⟨r2, h2, h⟩
          · exact .inr ⟨.inr true, bind_eq rfl <| bind_eq (dT (by omega)) <| bif_t rfl <| bind_eq (geti_nat g) <| bind_eq ap <| letJ_of <| bind_eq (congrArg some (tmod40 i)) <| bind_eq rfl <| bind_eq hc h, trivial⟩
          · exact .inl ⟨_, bind_eq rfl <| bind_eq (dT (by omega)) <| bif_t rfl <| bind_eq (geti_nat g) <| bind_eq ap <| letJ_of <| bind_eq (congrArg some (tmod40 i)) <| bind_eq rfl <| bind_eq hc h, ⟨i + 1, r2, rfl, hlt, h2⟩, by simp only [Int.toNat_natCast]; omega⟩
        · exact .inr ⟨.inl (), bind_eq rfl <| bind_eq (dF (by omega)) <| bif_f rfl rfl, trivial⟩
      · rintro e -
        cases e
        · exact ⟨false, rfl, trivial⟩
        · exact ⟨_, rfl, trivial⟩
    obtain ⟨r, hr, -⟩ := step
    exact ⟨r, bind_eq rfl <| bind_eq (dF (by omega)) <| bif_f rfl hr, fun _ => by omega⟩
end Go.Proofs.Ytmiflmkdaeianaa
namespace Go.Proofs.Ytmiflmkdaeianaa
open Go.Fw
theorem told_eq (es : List En) (h : es.length ≤ 1000000) : law39_told_m es = some es := by
  unfold law39_told_m
  refine bind_loop_to (fun k => ((k : Int), es.take k)) es.length es rfl (fun k hk => ?_) ?_ rfl
  · have g := List.getElem?_eq_getElem hk
    rw [List.take_add_one, g]
    generalize es[k] = e at g
    have ap := apM1 (b := 56) (l := es.take k) (x := e) (by decide) (by rw [List.length_take]; omega)
    obtain ⟨acc, kd, hour, c⟩ := e
    exact bind_eq rfl <| bind_eq (dT (by omega)) <| bif_t rfl <| bind_eq (geti_nat g) <| bind_eq ap <| bind_eq (congrArg some (w64_succ (by omega))) rfl
  · rw [List.take_length]
    exact bind_eq rfl <| bind_eq (dF (by omega)) <| bif_f rfl rfl
theorem toldN_eq (es : List En) (h : es.length ≤ 1000000) : law39_toldN_m es = some es := told_eq es h
theorem concat39_law (x0 : Nat) (l more : List Mv) (h0 : x0 < 256) (ol : l.length ≤ 9223372036854775807 ∧ ∀ m ∈ l, OkMv m) (om : more.length ≤ 9223372036854775807 ∧ ∀ m ∈ more, OkMv m) (hs : 1 + szL l + szL more ≤ 1048576) : law39_BookConcatenates_m x0 l more = some true := by
  obtain ⟨t1, ht1, hl1⟩ := long39 l ol.1
  obtain ⟨t2, ht2, hl2⟩ := long39 more om.1
  have hr1 := repM ol.2 (by omega)
  have hr2 := repM om.2 (by omega)
  unfold law39_BookConcatenates_m
  refine letJ_of <| bind_eq ht1 <| orC (fun _ => bind_eq ht2 rfl) <| orC (c := false) (fun _ => bind_eq awake39_eq rfl) ?_
  cases t1
  case true => exact bif_t rfl <| bind_eq awake39_eq rfl
  cases t2
  case true => exact bif_t rfl <| bind_eq awake39_eq rfl
  have b1 := hl1 rfl
  have b2 := hl2 rfl
  have hr12 : RepM (l ++ more) := fun m hm => by rcases List.mem_append.1 hm with h | h; exact hr1 m h; exact hr2 m h
  have hr21 : RepM (more ++ l) := fun m hm => by rcases List.mem_append.1 hm with h | h; exact hr2 m h; exact hr1 m h
  have c1 : l.length ≤ 1024 := by omega
  have c2 : more.length ≤ 1024 := by omega
  have c12 : (l ++ more).length ≤ 1024 := by simp; omega
  have c21 : (more ++ l).length ≤ 1024 := by simp; omega
  have md1 := made_eq h0 c1 hr1
  have md2 := made_eq h0 c2 hr2
  have md12 := made_eq h0 c12 hr12
  have md21 := made_eq h0 c21 hr21
  have p1 := apMl (b := 88) (l := []) (k := l) (by decide) (by simp; omega)
  have p2 := apMl (b := 88) (l := [] ++ l) (k := more) (by decide) (by simp; omega)
  have p3 := apMl (b := 88) (l := []) (k := more) (by decide) (by simp; omega)
  have p4 := apMl (b := 88) (l := [] ++ more) (k := l) (by decide) (by simp; omega)
  rw [List.nil_append] at p1 p2 p3 p4
  obtain ⟨n, hn⟩ : ∃ n, 1 + x0 % 64 = n := ⟨_, rfl⟩
  rw [hn] at md1 md2 md12 md21
  have n1 : 0 < n := by omega
  have n2 : n ≤ 64 := by omega
  have ok1 := mk_ok (n := (n : Int)) c1 hr1
  have ok2 := mk_ok (n := (n : Int)) c2 hr2
  have l1 := mk_len (n := (n : Int)) c1
  have l2 := mk_len (n := (n : Int)) c2
  have e12 : mk (n : Int) (l ++ more) = mk (n : Int) l ++ mk (n : Int) more := by rw [mk_filter c12, mk_filter c1, mk_filter c2, List.filterMap_append]
  have e21 : mk (n : Int) (more ++ l) = mk (n : Int) more ++ mk (n : Int) l := by rw [mk_filter c21, mk_filter c1, mk_filter c2, List.filterMap_append]
  rw [e12] at md12
  rw [e21] at md21
  generalize mk (n : Int) l = u at *
  generalize mk (n : Int) more = v at *
  have ok12 : ∀ e ∈ u ++ v, EnOk (n : Int) 1048577 e := fun e he => by rcases List.mem_append.1 he with h | h; exact ok1 e h; exact ok2 e h
  have ok21 : ∀ e ∈ v ++ u, EnOk (n : Int) 1048577 e := fun e he => by rcases List.mem_append.1 he with h | h; exact ok2 e h; exact ok1 e h
  have k12 : (u ++ v).length ≤ 1000000 := by simp; omega
  have k21 : (v ++ u).length ≤ 1000000 := by simp; omega
  have en1 := entries_eq n1 ok1 (by omega) (by decide)
  have en2 := entries_eq n1 ok2 (by omega) (by decide)
  have en12 := entries_eq n1 ok12 k12 (by decide)
  have to1 := toldN_eq u (by omega)
  have to2 := told_eq v (by omega)
  have to12 := told_eq (u ++ v) k12
  have ap := apMl (b := 56) (l := u) (k := v) (by decide) (by omega)
  have sm := same39 ok12 k12 (by decide)
  have a1 := all_eq n1 n2 ok1 (by omega) (by decide)
  have a2 := all_eq n1 n2 ok2 (by omega) (by decide)
  have a12 := all_eq n1 n2 ok12 k12 (by decide)
  have a21 := all_eq n1 n2 ok21 k21 (by decide)
  have g1 : ∀ i, i < n → (allQ n u)[i]? = some (zn (sumE (balF (i : Int)) u)) := fun i hi => allQ_get u hi
  have g2 : ∀ i, i < n → (allQ n v)[i]? = some (zn (sumE (balF (i : Int)) v)) := fun i hi => allQ_get v hi
  have g12 : ∀ i, i < n → (allQ n (u ++ v))[i]? = some (zn (sumE (balF (i : Int)) u + sumE (balF (i : Int)) v)) := fun i hi => by rw [allQ_get _ hi, sumE_append]
  have g21 : ∀ i, i < n → (allQ n (v ++ u))[i]? = some (zn (sumE (balF (i : Int)) u + sumE (balF (i : Int)) v)) := fun i hi => by rw [allQ_get _ hi, sumE_append, Int.add_comm]
  have q1 := allQ_len n u
  have q2 := allQ_len n v
  have q12 := allQ_len n (u ++ v)
  have q21 := allQ_len n (v ++ u)
  have f1 : ∀ i : Int, Fit (1048577 + 1) (sumE (balF i) u) := fun i => sumE_fit (fun e he => balF_fit (ok1 e he) i) (by omega)
  have f2 : ∀ i : Int, Fit (1048577 + 1) (sumE (balF i) v) := fun i => sumE_fit (fun e he => balF_fit (ok2 e he) i) (by omega)
  refine bif_f rfl <| bind_eq md1 <| bind_eq md2 <| bind_eq p1 <| bind_eq p2 <| bind_eq md12 <| bind_eq p3 <| bind_eq p4 <| bind_eq md21 <| bind_eq en12 <| bind_eq to12 <| bind_eq en1 <| bind_eq to1 <| bind_eq en2 <| bind_eq to2 <| bind_eq ap <| bind_eq sm <| bind_eq rfl <| bif_f rfl <| bind_eq a1 <| bind_eq a2 <| bind_eq a12 <| bind_eq a21 <| letJ_of ?_
  generalize allQ n u = w1 at *
  generalize allQ n v = w2 at *
  generalize allQ n (u ++ v) = w3 at *
  generalize allQ n (v ++ u) = w4 at *
  refine bind_eq rfl <| bind_eq rfl <| bind_eq (dF (by omega)) <| bind_eq (a := false) (bif_f rfl <| bind_eq rfl <| bind_eq rfl <| bind_eq (dF (by omega)) rfl) <| bind_eq (a := false) (bif_f rfl <| bind_eq rfl <| bind_eq rfl <| bind_eq (dF (by omega)) rfl) <| bif_f rfl ?_
  refine bind_loop_to (fun k => (k : Int)) n (.inl ()) rfl (fun k hk => ?_) ?_ rfl
  · have ad := add_eq (wl_zn (f1 k) (by decide)) (wl_zn (f2 k) (by decide))
    rw [zi_zn, zi_zn] at ad
    have s := same_zn39 ((f1 k).add (f2 k)) (by decide) rfl
    have b1 := g1 k hk
    have b2 := g2 k hk
    have b3 := g12 k hk
    have b4 := g21 k hk
    generalize zn (sumE (balF (k : Int)) u + sumE (balF (k : Int)) v) = z3 at *
    generalize zn (sumE (balF (k : Int)) u) = z1 at *
    generalize zn (sumE (balF (k : Int)) v) = z2 at *
    exact bind_eq rfl <| bind_eq (dT (by omega)) <| bif_t rfl <| letJ_of <| bind_eq (geti_nat b1) <| bind_eq (geti_nat b2) <| bind_eq ad <| bind_eq (geti_nat b3) <| bind_eq s <| bind_eq rfl <| bind_eq (a := false) (bif_f rfl <| bind_eq (geti_nat b3) <| bind_eq (geti_nat b4) <| bind_eq s <| bind_eq rfl rfl) <| bif_f rfl <| bind_eq (congrArg some (w64_succ (by omega))) rfl
  · exact bind_eq rfl <| bind_eq (dF (by omega)) <| bif_f rfl rfl
end Go.Proofs.Ytmiflmkdaeianaa
namespace Go.Proofs.Ytmiflmkdaeianaa
open Go.Fw Go.RowKit Go.ChangeShapes Go.WideShapes Go.ChangeAt
set_option linter.unusedVariables false
set_option maxRecDepth 100000 in
theorem bookConcatenatesUpto_contract (H : Type) (enc : TypeId × Value → H) (W : World) (base : Nat) (args : Array Value) (ds gs : List (DataW H)) (before : List MemPlace)
    (hval : ∀ (j : Nat) t v, Try.f5.params[j]? = some t → args[j]? = some v → Value.okWide Try.prog W .any base t v)
    (hW : DataW.Whole enc Try.prog Try.f5.params.toList Rows.bookConcatenatesSpec.vars false W args.toList ds gs before) (hk : Rows.uptoSmall H (ds ++ gs) = true) :
    Calls Try.prog 5 args W fun e W' => ∃ v, e = .returned v ∧ Rows.bookConcatenatesSpec.post enc Try.prog Try.f5 false true false false W args v W' := by
  have hW' := hW
  obtain ⟨p, q, hA0, hV, rfl, hfz, hnd⟩ := hW
  have hA : DataW.TrodAll enc Try.prog W 0 (fun _ => true) true Try.f5.params.toList args.toList ds p := hA0
  rw [Try.params5] at hA hval
  obtain ⟨v0, vs0, d0, ds0, p0, q0, hargs, rfl, rfl, h0, r0⟩ := trodAll_cons hA
  obtain ⟨v1, vs1, d1, ds1, p1, q1, rfl, rfl, rfl, h1, r1⟩ := trodAll_cons r0
  obtain ⟨v2, vs2, d2, ds2, p2, q2, rfl, rfl, rfl, h2, r2⟩ := trodAll_cons r1
  obtain ⟨rfl, rfl, rfl⟩ := trodAll_nil r2
  obtain rfl : args = #[v0, v1, v2] := by cases args; simp_all
  obtain ⟨rfl, rfl⟩ := trodVars_none hV
  have lt0 : ∀ x ∈ p0, x.block < W.heap.size := by obtain ⟨m, hm⟩ := h0; exact DataW.trod_lt m _ _ _ hm
  obtain ⟨x0, ok0, sz0, al0⟩ := arg_one (P := Try.prog) (T := 5) (e := eU8) (hval 0 5 v0 rfl rfl) h0
  have lt1 : ∀ x ∈ p1, x.block < W.heap.size := by obtain ⟨m, hm⟩ := h1; exact DataW.trod_lt m _ _ _ hm
  obtain ⟨x1, ok1, sz1, al1⟩ := arg_one (P := Try.prog) (T := 33) (e := (eS 7 eMv)) (hval 1 33 v1 rfl rfl) h1
  have lt2 : ∀ x ∈ p2, x.block < W.heap.size := by obtain ⟨m, hm⟩ := h2; exact DataW.trod_lt m _ _ _ hm
  obtain ⟨x2, ok2, sz2, al2⟩ := arg_one (P := Try.prog) (T := 33) (e := (eS 7 eMv)) (hval 2 33 v2 rfl rfl) h2
  have hsz : Rows.uptoBulk d0 + Rows.uptoBulk d1 + Rows.uptoBulk d2 ≤ 1048576 := by
    have := of_decide_eq_true hk; simp only [List.cons_append, List.nil_append, List.append_nil, Rows.uptoBulkAll] at this; omega
  clear hA0
  refine (said_of (law39_BookConcatenates_ok (concat39_law x0 x1 x2 ok0 ok1 ok2 (Nat.le_trans (Nat.add_le_add (Nat.add_le_add sz0 sz1) sz2) hsz))) (W := W) (vs := [v0, v1, v2]) ⟨al0.1, al1.1, al2.1, trivial⟩).mono fun e W' ⟨he, bel⟩ => ?_
  subst he
  exact ⟨_, rfl, _, _, _, [], _, [], hW', trodAll_mk1 (shut_bool Try.underlying4 _), (trodAll_cons_mk (Below.trod laidOut_ (by kernel_rfl) (of_decide_eq_true (by kernel_rfl)) h0 bel lt0) (trodAll_cons_mk (Below.trod laidOut_ (by kernel_rfl) (of_decide_eq_true (by kernel_rfl)) h1 bel lt1) (trodAll_cons_mk (Below.trod laidOut_ (by kernel_rfl) (of_decide_eq_true (by kernel_rfl)) h2 bel lt2) trodAll_mk0))), rfl, bel.frame _, fun h => by cases h⟩
set_option maxRecDepth 100000 in
theorem bookConcatenatesUpto_lifted (os : Os) (started : os.Started) (H : Type) (enc : TypeId × Value → H) (F : Stop.Interp) :
    ReturnsInHanded {} Try.checked os 5 .any ((Rows.OpenSpec.upto Rows.bookConcatenatesSpec).pre6 enc Try.prog Try.f5 Rows.bookConcatenatesUptoRow.domain false) (((Rows.OpenSpec.upto Rows.bookConcatenatesSpec).at F).post enc Try.prog Try.f5 false true false false) := by
  refine returnsInHanded_of_cond (C := Try.checked) (s := Rows.OpenSpec.upto Rows.bookConcatenatesSpec) (k := Rows.uptoSmall) rfl own_ started (by kernel_rfl) Try.func5
    (OpenSpec.witness (enc := enc) (C := Try.checked) (s := Rows.OpenSpec.upto Rows.bookConcatenatesSpec) (k := Rows.uptoSmall) rfl false ⟨#[], #[.int .u8 0, .slice none 0 0, .slice none 0 0], []⟩ 8 (by kernel_rfl) (by kernel_rfl) (by kernel_rfl)
      (x := ([.lit (.int .u8 0), .nil, .nil], [], [])) (by kernel_rfl) rfl (by kernel_rfl)) ?_
  intro W base args ds gs before hval hW _ hk _
  exact bookConcatenatesUpto_contract H enc W base args ds gs before hval hW hk
theorem bookConcatenatesUpto_holds : Rows.BookConcatenatesUptoSaid :=
  OpenClaim.holds_of_cond 5 Try.f5 rfl rfl rfl rfl rfl rfl rfl ⟨rfl, rfl, rfl, rfl, rfl⟩ rfl rfl rfl rfl rfl (by kernel_rfl) Try.func5 (by kernel_rfl)
    (of_decide_eq_true (by kernel_rfl)) (by unfold Func.isWrapper; first | (rw [if_pos (by decide +kernel)]; kernel_rfl) | (rw [if_neg (by decide +kernel)]; exact ⟨rfl, rfl⟩))
    (fun os started H enc _ F => bookConcatenatesUpto_lifted os started H enc F)
end Go.Proofs.Ytmiflmkdaeianaa
