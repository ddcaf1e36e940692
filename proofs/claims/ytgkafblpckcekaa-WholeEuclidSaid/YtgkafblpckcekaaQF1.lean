/- Texts of integers: reversing, writing. -/
import Derived.Test.YtgkafblpckcekaaQR1
namespace Go.Proofs.Ytgkafblpckcekaa
open Go.Fw

theorem reverse_eq (l : List Nat) (hl : l.length ≤ 1000000000000) : slices_Reverse_m l = some l.reverse := by
  unfold slices_Reverse_m
  simp only [bsm]
  rw [w64_id (by omega) (by omega)]
  refine bind_loop (fun s => ∃ i : Nat, s.1 = (i : Int) ∧ s.2.1 = (l.length : Int) - 1 - i ∧ 2 * i ≤ l.length ∧ s.2.2.length = l.length ∧ ∀ p, p < l.length → s.2.2[p]? = if p < i ∨ l.length - i ≤ p then l[l.length - 1 - p]? else l[p]?)
    (fun e => e = l.reverse) (fun s => (s.2.1 - s.1 + 1).toNat) ?_ ⟨0, rfl, by simp, by omega, rfl, fun p hp => by rw [if_neg (by omega)]⟩ ?_
  · rintro ⟨a, b, m⟩ ⟨i, h1, h2, h3, h4, h5⟩
    simp only at h1 h2 h3 h4 h5
    subst h1 h2
    simp only []
    by_cases hlt : (i : Int) < (l.length : Int) - 1 - i
    · left
      obtain ⟨j, hj⟩ : ∃ j : Nat, (l.length : Int) - 1 - i = (j : Int) := ⟨l.length - 1 - i, by omega⟩
      rw [hj] at hlt ⊢
      have g1 := h5 j (by omega)
      have g2 := h5 i (by omega)
      rw [if_neg (by omega)] at g1 g2
      have e1 : l[j]? = some (l[j]'(by omega)) := by simp
      have e2 : l[i]? = some (l[i]'(by omega)) := by simp
      rw [e1] at g1
      rw [e2] at g2
      rw [show decide ((i : Int) < (j : Int)) = true by simp; omega, ctm, cki_nat (by omega), bsm, g1, bsm, cki_nat (by omega), bsm, g2, bsm, bsm, stM_of (by omega), bsm, cki_nat (by simp; omega), bsm, stM_of (by simp; omega), bsm, w64_succ (by omega), w64_id (by omega) (by omega)]
      refine ⟨_, rfl, ⟨i + 1, rfl, by simp only []; omega, by omega, by simp [h4], fun p hp => ?_⟩, by simp only []; omega⟩
      simp only []
      rw [List.getElem?_set, List.getElem?_set]
      by_cases hpj : j = p
      · subst hpj
        rw [if_pos rfl, if_pos (by simp; omega), if_pos (by omega), show l.length - 1 - j = i by omega, e2]
      · rw [if_neg hpj]
        by_cases hpi : i = p
        · subst hpi
          rw [if_pos rfl, if_pos (by omega), if_pos (by omega), show l.length - 1 - i = j by omega, e1]
        · rw [if_neg hpi, h5 p hp]
          by_cases hc : p < i ∨ l.length - i ≤ p
          · rw [if_pos hc, if_pos (by omega)]
          · rw [if_neg hc, if_neg (by omega)]
    · right
      rw [show decide ((i : Int) < (l.length : Int) - 1 - i) = false by simp; omega, cfm]
      refine ⟨_, rfl, ?_⟩
      apply List.ext_getElem?
      intro p
      by_cases hp : p < l.length
      · rw [h5 p hp, List.getElem?_reverse hp]
        by_cases hc : p < i ∨ l.length - i ≤ p
        · rw [if_pos hc]
        · rw [if_neg hc, show l.length - 1 - p = p by omega]
      · rw [List.getElem?_eq_none (by omega), List.getElem?_eq_none (by simp; omega)]
  · rintro e rfl
    rw [eqLen_of (by simp), bsm]

def asc (l : List Nat) : List Nat := l.map (fun d => 48 + d)
theorem asc_len (l : List Nat) : (asc l).length = l.length := by simp [asc]
theorem asc_app (l k : List Nat) : asc (l ++ k) = asc l ++ asc k := by simp [asc]
/-- The decimal text of a number that is not negative. -/
def txtN (v : Nat) : List Nat := if v = 0 then [48] else (asc (can 10 v)).reverse
def txt (i : Int) : Str := (if i < 0 then 45 :: txtN i.natAbs else txtN i.natAbs).map UInt8.ofNat

theorem dig_join (B : Nat) : ∀ (n m v : Nat), dig B (n + m) v = dig B n v ++ dig B m (v / B ^ n)
  | 0, m, v => by simp [dig]
  | n + 1, m, v => by
    rw [show n + 1 + m = (n + m) + 1 by omega]
    simp only [dig, List.cons_append]
    rw [dig_join B n m (v / B), Nat.pow_succ, Nat.mul_comm, Nat.div_div_eq_div_mul]

theorem trim_asc (l : List Nat) (hl : l.length ≤ 1000000000000) (hne : trimW l ≠ []) {R : Type} (f : List Nat → Option R) (r : R) (hf : f (asc (trimW l)) = some r) :
    (loopM (fun (r321l29 : (List Nat)) =>
                (show Option (((List Nat)) ⊕ ((List Nat))) from
                  (cki r321l29 (IntKind.i64.wrap ((r321l29.length : Int) - 1))).bind fun x36 =>
                  (r321l29[x36]?).bind fun x37 =>
                  (bif (decide ((x37 : Nat) = 48)) then
                      (subM r321l29 0 (IntKind.i64.wrap ((r321l29.length : Int) - 1))).bind fun x43 =>
                      some (.inl x43)
                    else
                      some (.inr r321l29)))) (asc l)).bind f = some r := by
  refine bind_loop (fun y => ∃ k : List Nat, y = asc k ∧ k.length ≤ 1000000000000 ∧ trimW k = trimW l) (fun e => e = asc (trimW l)) (fun y => y.length) ?_ ⟨l, rfl, hl, rfl⟩ (fun e he => by rw [he]; exact hf)
  rintro _ ⟨k, rfl, hk, ht⟩
  rcases trim_cases k with rfl | ⟨ys, rfl⟩ | ⟨ys, x, hx, rfl⟩
  · rw [trimW_nil] at ht; exact absurd ht.symm hne
  · left
    have h1 : (((asc (ys ++ [0])).length : Nat) : Int) - 1 = (ys.length : Int) := by simp [asc]
    have h2 : (asc (ys ++ [0]))[ys.length]? = some 48 := by simp [asc]
    have hys : ys.length ≤ 1000000000000 := by simp at hk; omega
    simp only [h1]
    rw [w64_nat (by omega), cki_nat (by simp [asc]), bsm, h2, bsm, show decide (48 = 48) = true by decide, ctm, subM_zero (by simp [asc]), bsm]
    refine ⟨_, rfl, ⟨ys, by simp [asc], hys, by rw [← ht, trimW_zero]⟩, by simp [asc]⟩
  · right
    have h1 : (((asc (ys ++ [x])).length : Nat) : Int) - 1 = (ys.length : Int) := by simp [asc]
    have h2 : (asc (ys ++ [x]))[ys.length]? = some (48 + x) := by simp [asc]
    have hys : ys.length ≤ 1000000000000 := by simp at hk; omega
    simp only [h1]
    rw [w64_nat (by omega), cki_nat (by simp [asc]), bsm, h2, bsm, show decide (48 + x = 48) = false by simp [hx], cfm]
    exact ⟨_, rfl, by rw [← ht, trimW_last _ hx]⟩

theorem p9 (k : Nat) : 10 ^ (9 * (k + 1)) = 10 ^ (9 * k) * 1000000000 := by
  rw [show 9 * (k + 1) = 9 * k + 9 by omega, Nat.pow_add]

theorem format_eq {x : Zr} (h : Wl x) : whole_Format_m x = some (txt (zi x)) := by
  obtain ⟨n, w⟩ := x
  unfold whole_Format_m
  have hc : (can 4294967296 (vl w)).length ≤ 100000000 := h.cl
  simp only []
  rw [show whole_trim_m w = some (can 4294967296 (vl w)) from h.trim, bsm, clone_eq _ (by omega)]
  simp only [bsm, letJ]
  rw [show zi ⟨n, w⟩ = sv n (vl w) from rfl]
  generalize vl w = V at *
  by_cases h0 : V = 0
  · subst h0
    rw [show decide (((can 4294967296 0).length : Int) = 0) = true by simp [can_zero], ctm, show sv n 0 = 0 by cases n <;> rfl]
    rfl
  have hlen0 : (can 4294967296 V).length ≠ 0 := fun h => h0 (can_len0.1 h)
  rw [show decide (((can 4294967296 V).length : Int) = 0) = false by rw [decide_eq_false_iff_not]; omega, cfm]
  -- the digits, by nines
  have hVlt : V < 10 ^ (9 * (2 * (can 4294967296 V).length)) := by
    have h1 := lt_can_len (B := 4294967296) (by decide) V
    refine Nat.lt_of_lt_of_le h1 ?_
    rw [Nat.mul_comm 9, Nat.mul_assoc, Nat.mul_comm 2, Nat.mul_assoc, Nat.mul_comm, Nat.pow_mul]
    exact Nat.pow_le_pow_left (by decide) _
  refine bind_loop (fun s => ∃ k, k ≤ 2 * (can 4294967296 V).length ∧ s = (can 4294967296 (V / 10 ^ (9 * k)), asc (dig 10 (9 * k) V))) (fun e => ∃ k, k ≤ 2 * (can 4294967296 V).length ∧ V < 10 ^ (9 * k) ∧ e = asc (dig 10 (9 * k) V)) (fun s => vl s.1) ?_ ⟨0, by omega, by simp [dig, asc]⟩ ?_
  · rintro _ ⟨k, hk, rfl⟩
    have hpk : 0 < 10 ^ (9 * k) := Nat.pow_pos (by decide)
    by_cases hz : V / 10 ^ (9 * k) = 0
    · right
      rw [hz]
      refine ⟨_, rfl, k, hk, ?_, rfl⟩
      rcases Nat.lt_or_ge V (10 ^ (9 * k)) with h | h
      · exact h
      · have := Nat.div_pos h hpk; omega
    · left
      have hkl : k < 2 * (can 4294967296 V).length := by
        rcases Nat.lt_or_ge k (2 * (can 4294967296 V).length) with h | h
        · exact h
        · refine absurd (Nat.div_eq_of_lt (Nat.lt_of_lt_of_le hVlt ?_)) hz
          exact Nat.pow_le_pow_right (by decide) (by omega)
      have hnext : V / 10 ^ (9 * (k + 1)) = V / 10 ^ (9 * k) / 1000000000 := by rw [p9, Nat.div_div_eq_div_mul]
      have hcl : (can 4294967296 (V / 10 ^ (9 * k))).length ≤ (can 4294967296 V).length := (can_len_iff (by decide)).2 (Nat.lt_of_le_of_lt (Nat.div_le_self _ _) (lt_can_len (by decide) V))
      have hj : dig 10 (9 * k + 9) V = dig 10 (9 * k) V ++ dig 10 9 (V / 10 ^ (9 * k)) := dig_join 10 (9 * k) 9 V
      obtain ⟨X, hX⟩ : ∃ X, V / 10 ^ (9 * k) = X := ⟨_, rfl⟩
      rw [hX] at hz hcl hj hnext ⊢
      have hlen0 : (can 4294967296 X).length ≠ 0 := fun h => hz (can_len0.1 h)
      simp only []
      rw [show decide ((0 : Int) < ((can 4294967296 X).length : Int)) = true by rw [decide_eq_true_eq]; omega, ctm, shortDiv_eq _ _ (can_W32 (by omega)) (by decide) (by decide), bsm, vl_can]
      simp only []
      rw [eqLen_of (by rw [dig_len]), bsm, trimT_eq _ (by rw [dig_len]; omega), bsm, trim_dig (by decide) (Nat.lt_of_le_of_lt (Nat.div_le_self _ _) (lt_can_len (by decide) X))]
      refine ⟨(can 4294967296 (X / 1000000000), asc (dig 10 (9 * (k + 1)) V)), ?_, ⟨k + 1, by omega, by rw [hnext]⟩, by simp only [vl_can]; exact Nat.div_lt_self (by omega) (by decide)⟩
      obtain ⟨M, hM⟩ : ∃ M, X % 1000000000 = M := ⟨_, rfl⟩
      have hMlt : M < 1000000000 := by rw [← hM]; exact Nat.mod_lt _ (by decide)
      rw [hM]
      refine bind_loop_to (fun i => (M / 10 ^ i, (i : Int), asc (dig 10 (9 * k) V ++ dig 10 i M))) 9 (asc (dig 10 (9 * k) V ++ dig 10 9 M)) ?_ (fun i hi => ?_) ?_ ?_
      · simp [dig]
      · rw [show decide ((i : Int) < 9) = true by simp; omega, ctm]
        have hm := Nat.mod_lt (M / 10 ^ i) (show 0 < 10 by decide)
        have hd : M / 10 ^ i ≤ M := Nat.div_le_self _ _
        rw [Nat.mod_eq_of_lt (a := 48 + M / 10 ^ i % 10) (by omega), Nat.mod_eq_of_lt (a := 48 + M / 10 ^ i % 10) (b := 256) (by omega), apM1 (by decide) (by rw [asc_len, List.length_append, dig_len, dig_len]; omega), bsm, w64_succ (by omega), Nat.mod_eq_of_lt (a := M / 10 ^ i / 10) (by omega), Nat.div_div_eq_div_mul, ← Nat.pow_succ]
        rw [dig_succ, ← List.append_assoc, asc_app (dig 10 (9 * k) V ++ dig 10 i M)]
        rfl
      · simp
      · rw [show 9 * (k + 1) = 9 * k + 9 by omega, hj, show dig 10 9 M = dig 10 9 X from ?_]
        apply dig_congr (by decide)
        rw [show (10 : Nat) ^ 9 = 1000000000 by decide, ← hM, Nat.mod_mod]
  · rintro _ ⟨k, hk, hlt, rfl⟩
    have htr : trimW (dig 10 (9 * k) V) = can 10 V := trim_dig (by decide) hlt
    have hne : trimW (dig 10 (9 * k) V) ≠ [] := by rw [htr]; exact fun e => h0 (can_nil (by decide) e)
    refine trim_asc (dig 10 (9 * k) V) (by rw [dig_len]; omega) hne _ _ ?_
    have hl : (can 10 V).length ≤ 1000000000000 := by have := trimW_len (dig 10 (9 * k) V); rw [htr, dig_len] at this; omega
    have hl' : (can 10 V).length ≤ 2000000000 := by have := trimW_len (dig 10 (9 * k) V); rw [htr, dig_len] at this; omega
    rw [htr]
    have hfin : ∀ l : List Nat, l.length ≤ 1000000000000 → ((slices_Reverse_m l).bind fun l36 => (eqLen l l36).bind fun _ => some (List.map UInt8.ofNat l36)) = some (l.reverse.map UInt8.ofNat) := by
      intro l hl
      rw [reverse_eq _ hl, bsm, eqLen_of (by simp), bsm]
    cases n
    · rw [cfm, hfin _ (by rw [asc_len]; exact hl), sv_false, txt, if_neg (by omega), txtN, if_neg (by omega)]
      rfl
    · rw [ctm, apM1 (by decide) (by rw [asc_len]; omega), bsm, hfin _ (by rw [List.length_append, asc_len]; simp; omega), show sv true V = -(V : Int) from rfl, txt, if_pos (by omega), txtN, if_neg (by omega), List.reverse_append]
      simp
end Go.Proofs.Ytgkafblpckcekaa
