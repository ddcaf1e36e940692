/- Texts of integers: reading. -/
import Derived.Test.YtgkafblpckcekaaQF1
namespace Go.Proofs.Ytgkafblpckcekaa
open Go.Fw

def neg? (s : Str) : Bool := decide (s.head? = some 45)
def body (s : Str) : Str := if s.head? = some 45 then s.tail else s
theorem cut_eq (s : Str) (hs : s.length ≤ 9223372036854775807) : strings_CutPrefix_m s [45] = some (body s, neg? s) := by
  unfold strings_CutPrefix_m internal_stringslite_CutPrefix_m internal_stringslite_HasPrefix_m
  simp only [bsm, letJ]
  rcases s with _ | ⟨c, t⟩
  · rfl
  · rw [show decide ((([45] : Str).length : Int) ≤ ((c :: t).length : Int)) = true by simp; omega, ctm, show ((([45] : Str).length : Nat) : Int) = ((1 : Nat) : Int) by rfl, subM_zero (by simp), bsm, bsm, bsm]
    by_cases hc : c = 45
    · subst hc
      rw [show (!decide (List.take 1 (45 :: t) = [45])) = false by simp, cfm, subM_nat (by simp) (by simp), bsm, bsm]
      simp [body, neg?, cut]
    · rw [show (!decide (List.take 1 (c :: t) = [45])) = true by simp [hc], ctm, bsm]
      simp [body, neg?, hc]

def digit (c : UInt8) : Prop := 48 ≤ c.toNat ∧ c.toNat ≤ 57
instance (c : UInt8) : Decidable (digit c) := by unfold digit; infer_instance
def Dec (s : Str) : Prop := s ≠ [] ∧ (s.head? = some 48 → s.length = 1) ∧ ∀ c ∈ s, digit c
instance (s : Str) : Decidable (Dec s) := by unfold Dec; infer_instance
theorem sgeti_nat {s : Str} {i : Nat} {c : UInt8} (h : s[i]? = some c) : sgeti s (i : Int) = some c.toNat := by simp [sgeti, geti, h]
theorem c48 (c : UInt8) : c.toNat = 48 ↔ c = 48 := by
  constructor
  · intro h; exact UInt8.toNat_inj.1 h
  · rintro rfl; rfl

theorem isDecimal_eq (s : Str) (hs : s.length ≤ 1000000000) : ∃ b, whole_isDecimal_m s = some b ∧ (b = true ↔ Dec s) := by
  unfold whole_isDecimal_m
  simp only [bsm, letJ]
  rcases s with _ | ⟨c, t⟩
  · refine ⟨false, rfl, ?_⟩
    simp [Dec]
  · rw [show decide ((c :: t : Str) = []) = false by simp, cfm, show (0 : Int) = ((0 : Nat) : Int) from rfl, sgeti_nat (c := c) (by simp), bsm]
    have hloop : ∀ (s : Str), s.length ≤ 1000000000 → s ≠ [] → (s.head? = some 48 → s.length = 1) → ∃ b, ((loopM (fun (y18l9 : Int) =>
              (show Option ((Int) ⊕ ((Unit) ⊕ (Bool))) from
                (bif decide ((y18l9 : Int) < (s.length : Int)) then
                    (sgeti s y18l9).bind fun x23 =>
                    (bif decide ((x23 : Nat) < 48) then
                        some true
                      else
                        (sgeti s y18l9).bind fun x28 =>
                        some (decide ((57 : Nat) < x28))).bind fun c30_18 =>
                    (bif c30_18 then
                            some (.inr (.inr false))
                          else
                            some (.inl (IntKind.i64.wrap (y18l9 + 1))))
                  else
                    some (.inr (.inl ()))))) ((0 : Nat) : Int)).bind fun e14 =>
            match e14 with
            | .inr v14 => some v14
            | .inl _ =>
              some true) = some b ∧ (b = true ↔ Dec s) := by
      intro s hs hne h0
      refine bind_loop_ex (fun y => ∃ i : Nat, y = (i : Int) ∧ i ≤ s.length ∧ ∀ c ∈ s.take i, digit c) (fun e => (∃ u, e = .inl u ∧ ∀ c ∈ s, digit c) ∨ (e = .inr false ∧ ∃ c ∈ s, ¬ digit c)) (fun y => s.length - y.toNat) ?_ ⟨0, rfl, by omega, by simp⟩ ?_
      · rintro _ ⟨i, rfl, hi, ht⟩
        by_cases hlt : i < s.length
        · have g : s[i]? = some s[i] := by simp
          rw [show decide ((i : Int) < (s.length : Int)) = true by simp [hlt], ctm, sgeti_nat g, bsm, bsm]
          by_cases hd : digit s[i]
          · left
            have hd' := hd
            unfold digit at hd'
            rw [show decide (s[i].toNat < 48) = false by simp; omega, cfm, bsm, show decide (57 < s[i].toNat) = false by simp; omega, cfm, w64_succ (by omega)]
            refine ⟨_, rfl, ⟨i + 1, rfl, hlt, ?_⟩, by omega⟩
            rw [List.take_add_one, g]
            intro c hc
            rcases List.mem_append.1 hc with h | h
            · exact ht c h
            · simp at h; rw [h]; exact hd
          · right
            refine ⟨.inr false, ?_, .inr ⟨rfl, s[i], by simp, hd⟩⟩
            unfold digit at hd
            by_cases h48 : s[i].toNat < 48
            · rw [show decide (s[i].toNat < 48) = true by simp [h48], ctm, bsm, ctm]
            · rw [show decide (s[i].toNat < 48) = false by simp; omega, cfm, bsm, show decide (57 < s[i].toNat) = true by simp; omega, ctm]
        · right
          rw [show decide ((i : Int) < (s.length : Int)) = false by simp; omega, cfm]
          rw [List.take_of_length_le (by omega)] at ht
          exact ⟨_, rfl, .inl ⟨_, rfl, ht⟩⟩
      · rintro e (⟨u, rfl, he⟩ | ⟨rfl, c, hc, hd⟩)
        · exact ⟨true, rfl, by simp only [true_iff]; exact ⟨hne, h0, he⟩⟩
        · exact ⟨false, rfl, by simp only [Bool.false_eq_true, false_iff]; exact fun h => hd (h.2.2 c hc)⟩
    by_cases h48 : c = 48
    · subst h48
      rw [show decide ((48 : UInt8).toNat = 48) = true by decide, ctm, bsm, bsm]
      by_cases hl : 1 < (48 :: t : Str).length
      · rw [show decide ((1 : Int) < ((48 :: t : Str).length : Int)) = true by rw [decide_eq_true_eq]; omega, ctm]
        refine ⟨false, rfl, ?_⟩
        simp only [Bool.false_eq_true, false_iff]
        intro h
        have := h.2.1 rfl
        omega
      · rw [show decide ((1 : Int) < ((48 :: t : Str).length : Int)) = false by rw [decide_eq_false_iff_not]; omega, cfm]
        exact hloop _ hs (by simp) (fun _ => by simp at hl ⊢; exact hl)
    · rw [show decide (c.toNat = 48) = false by rw [decide_eq_false_iff_not]; exact fun h => h48 ((c48 c).1 h), cfm, bsm, bsm, cfm]
      exact hloop _ hs (by simp) (fun h => by simp at h; exact absurd h h48)

/-- The value of decimal digits. -/
def dv (s : Str) : Nat := s.foldl (fun a c => a * 10 + (c.toNat - 48)) 0
theorem foldl_dv (s : Str) : ∀ a, s.foldl (fun a c => a * 10 + (c.toNat - 48)) a = a * 10 ^ s.length + dv s := by
  induction s with
  | nil => intro a; simp [dv]
  | cons c t ih =>
    intro a
    rw [List.foldl_cons, ih, show dv (c :: t) = List.foldl (fun a c => a * 10 + (c.toNat - 48)) (0 * 10 + (c.toNat - 48)) t from rfl, ih, List.length_cons, Nat.pow_succ, Nat.add_mul, Nat.add_mul, Nat.zero_mul, Nat.zero_add, Nat.add_assoc, Nat.mul_assoc, Nat.mul_comm 10]
theorem dv_app (s t : Str) : dv (s ++ t) = dv s * 10 ^ t.length + dv t := by rw [dv, List.foldl_append, foldl_dv]; rfl
theorem dv_one (c : UInt8) : dv [c] = c.toNat - 48 := by simp [dv]
theorem dv_lt {s : Str} (h : ∀ c ∈ s, digit c) : dv s < 10 ^ s.length := by
  induction s with
  | nil => simp [dv]
  | cons c t ih =>
    have h1 := ih (fun c hc => h c (by simp [hc]))
    have h2 := h c (by simp)
    unfold digit at h2
    rw [show c :: t = [c] ++ t from rfl, dv_app, dv_one, List.length_append, Nat.add_comm, Nat.pow_add]
    have : (c.toNat - 48) * 10 ^ t.length ≤ 9 * 10 ^ t.length := Nat.mul_le_mul_right _ (by omega)
    simp only [List.length_singleton, Nat.pow_one]
    omega

def z0 : Zr := ⟨false, []⟩
/-- What reading a text answers. -/
def parseOf (s : Str) : Zr × Int :=
  if 1000 < (body s).length then (z0, 5)
  else if Dec (body s) ∧ ¬ (neg? s = true ∧ body s = [48]) then (zn (sv (neg? s) (dv (body s))), 0) else (z0, 3)

theorem parse_eq (s : Str) (hs : s.length ≤ 9223372036854775807) : whole_Parse_m s = some (parseOf s) := by
  unfold whole_Parse_m
  rw [cut_eq s hs, bsm]
  simp only [bsm, letJ]
  unfold parseOf
  generalize body s = t
  generalize neg? s = n
  by_cases hl : 1000 < t.length
  · rw [show decide ((1000 : Int) < (t.length : Int)) = true by rw [decide_eq_true_eq]; omega, ctm, if_pos hl]; rfl
  rw [show decide ((1000 : Int) < (t.length : Int)) = false by rw [decide_eq_false_iff_not]; omega, cfm, if_neg hl]
  obtain ⟨b, hb, hbt⟩ := isDecimal_eq t (by omega)
  rw [hb, bsm]
  have hcond : ((bif !b then some true else ((bif n then some (decide (t = [48])) else some false) : Option Bool)) : Option Bool) = some (!decide (Dec t ∧ ¬ (n = true ∧ t = [48]))) := by
    cases b
    · have : ¬ Dec t := fun h => by simpa using hbt.2 h
      simp [this]
    · have := hbt.1 rfl
      cases n <;> simp [this]
  have hcond' : ((bif !b then some true else ((bif n then some (decide (t = [48])) else some false) : Option Bool).bind fun c28_28 => some c28_28) : Option Bool) = some (!decide (Dec t ∧ ¬ (n = true ∧ t = [48]))) := by
    rw [← hcond]; cases b <;> cases n <;> rfl
  first
    | rw [hcond]
    | rw [hcond']
  rw [bsm]
  by_cases hok : Dec t ∧ ¬ (n = true ∧ t = [48])
  · rw [if_pos hok, show (!decide (Dec t ∧ ¬ (n = true ∧ t = [48]))) = false by simp [hok], cfm]
    obtain ⟨-, -, hd⟩ := hok.1
    refine bind_loop (fun s => ∃ p : Str, p ++ s.1 = t ∧ W32 s.2 ∧ vl s.2 = dv p ∧ s.2.length ≤ p.length) (fun e => W32 e ∧ vl e = dv t) (fun s => s.1.length) ?_ ⟨[], rfl, ⟨by simp, by simp⟩, rfl, by simp⟩ ?_
    · rintro ⟨u, ws⟩ ⟨p, hp, hw, hv, hwl⟩
      simp only at hp hw hv hwl ⊢
      have htl : p.length + u.length = t.length := by rw [← hp, List.length_append]
      by_cases hu : 0 < u.length
      · left
        obtain ⟨m, hm⟩ : ∃ m, min 9 u.length = m := ⟨_, rfl⟩
        rw [show decide ((0 : Int) < (u.length : Int)) = true by rw [decide_eq_true_eq]; omega, ctm, show min (9 : Int) (u.length : Int) = (m : Int) by omega]
        have hdu : ∀ c ∈ u, digit c := fun c hc => hd c (by rw [← hp]; simp [hc])
        have hmd : ∀ i, ∀ c ∈ u.take i, digit c := fun i c hc => hdu c (List.mem_of_mem_take hc)
        have hlt10 : dv (u.take m) < 10 ^ m := by
          have := dv_lt (hmd m)
          rw [List.length_take, Nat.min_eq_left (by omega)] at this; exact this
        have hp9 : 10 ^ m ≤ 10 ^ 9 := Nat.pow_le_pow_right (by decide) (by omega)
        rw [show (10 : Nat) ^ 9 = 1000000000 by decide] at hp9
        refine ⟨(u.drop m, dig 4294967296 (ws.length + 1) (vl ws * 10 ^ m + dv (u.take m))), ?_, ⟨p ++ u.take m, ?_, ⟨fun x hx => dig_lt (by decide) _ _ _ hx, by rw [dig_len]; omega⟩, ?_, ?_⟩, ?_⟩
        · refine bind_loop_to (fun i => (dv (u.take i), 10 ^ i, (i : Int))) m (dv (u.take m), 10 ^ m) ?_ (fun i hi => ?_) ?_ ?_
          · simp [dv]
          · have hiu : i < u.length := by omega
            have g : u[i]? = some u[i] := by simp
            have hdi := hdu u[i] (by simp)
            unfold digit at hdi
            have h1 : dv (u.take i) < 10 ^ i := by
              have := dv_lt (hmd i)
              rw [List.length_take, Nat.min_eq_left (by omega)] at this; exact this
            have h2 : 10 ^ i ≤ 10 ^ 9 := Nat.pow_le_pow_right (by decide) (by omega)
            rw [show (10 : Nat) ^ 9 = 1000000000 by decide] at h2
            rw [show decide ((i : Int) < (m : Int)) = true by simp [hi], ctm, sgeti_nat g, bsm, usub_of (by omega) (by omega), Nat.mod_eq_of_lt (a := dv (u.take i) * 10) (by omega), Nat.mod_eq_of_lt (a := u[i].toNat - 48) (by omega), Nat.mod_eq_of_lt (b := 18446744073709551616) (by omega), Nat.mod_eq_of_lt (a := 10 ^ i * 10) (by omega), w64_succ (by omega)]
            rw [List.take_add_one, g, show (some u[i]).toList = [u[i]] from rfl, dv_app, dv_one, List.length_singleton, Nat.pow_one, Nat.pow_succ]
          · simp
          · simp only []
            rw [scaleWords_eq _ _ _ hw (by omega) (by omega), bsm, subM_nat (by omega) (by omega), bsm]
            congr 3
            rw [cut, List.take_of_length_le (by rw [List.length_drop]; omega)]
        · simp only []
          rw [List.append_assoc, List.take_append_drop, hp]
        · simp only []
          show val _ _ = _
          rw [val_dig, dv_app, ← hv, List.length_take, Nat.min_eq_left (by omega), Nat.mod_eq_of_lt]
          have h1 : vl ws < 4294967296 ^ ws.length := val_lt ws hw.1
          calc vl ws * 10 ^ m + dv (u.take m) < vl ws * 10 ^ m + 10 ^ m := by omega
            _ = (vl ws + 1) * 10 ^ m := by rw [Nat.add_mul, Nat.one_mul]
            _ ≤ 4294967296 ^ ws.length * 4294967296 := Nat.mul_le_mul h1 (by omega)
            _ = _ := (Nat.pow_succ ..).symm
        · simp only []
          rw [dig_len, List.length_append, List.length_take]; omega
        · simp only []
          rw [List.length_drop]; omega
      · right
        rw [show decide ((0 : Int) < (u.length : Int)) = false by rw [decide_eq_false_iff_not]; omega, cfm]
        have : u = [] := List.length_eq_zero_iff.1 (by omega)
        subst this
        rw [List.append_nil] at hp
        subst hp
        exact ⟨_, rfl, hw, hv⟩
    · rintro e ⟨he, hv⟩
      rw [build_eq _ _ he, bsm, hv, zc_zn]
  · rw [if_neg hok, show (!decide (Dec t ∧ ¬ (n = true ∧ t = [48]))) = true by rw [decide_eq_false hok]; rfl, ctm]; rfl
end Go.Proofs.Ytgkafblpckcekaa
