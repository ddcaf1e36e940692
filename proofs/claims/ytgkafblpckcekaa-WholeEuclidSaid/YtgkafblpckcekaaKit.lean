/- Laws of the plain steps: what they come to. -/
import Derived.Test.YtgkafblpckcekaaFwDen4
namespace Go.Fw

theorem w64_nat {n : Nat} (h : n ≤ 9223372036854775807) : IntKind.i64.wrap (n : Int) = n := nw_i64 (by omega)
theorem w64_id {x : Int} (h : -9223372036854775808 ≤ x) (h' : x ≤ 9223372036854775807) : IntKind.i64.wrap x = x := nw_i64 ⟨h, h'⟩
theorem w64_succ {n : Nat} (h : n < 9223372036854775807) : IntKind.i64.wrap ((n : Int) + 1) = ((n + 1 : Nat) : Int) := by rw [nw_i64 (by omega)]; simp
theorem w64_add {n m : Nat} (h : n + m ≤ 9223372036854775807) : IntKind.i64.wrap ((n : Int) + (m : Int)) = ((n + m : Nat) : Int) := by rw [nw_i64 (by omega)]; simp
theorem w64_pred {n : Nat} (h : n ≤ 9223372036854775807) : IntKind.i64.wrap (((n + 1 : Nat) : Int) - 1) = (n : Int) := by rw [nw_i64 (by omega)]; omega
theorem geti_nat {α : Type} {l : List α} {i : Nat} {a : α} (h : l[i]? = some a) : geti l (i : Int) = some a := by simp [geti, h]
theorem geti_zero {α : Type} {l : List α} {a : α} (h : l[0]? = some a) : geti l 0 = some a := by simp [geti, h]
theorem geti_one {α : Type} {l : List α} {a : α} (h : l[1]? = some a) : geti l 1 = some a := by simp [geti, h]
theorem cki_nat {α : Type} {l : List α} {i : Nat} (h : i < l.length) : cki l (i : Int) = some i := by simp [cki, h]
theorem stM_of {α : Type} {l : List α} {i : Nat} {y : α} (h : i < l.length) : stM l i y = some (l.set i y) := by simp [stM, h]
theorem apM_of {α : Type} {b : Nat} {l k : List α} (h : (l.length + k.length) * b ≤ 140737488355328) (h' : l.length + k.length ≤ 140737488355328) : apM b l k = some (l ++ k) := by simp [apM, h, h']
theorem apM1 {α : Type} {b : Nat} {l : List α} {x : α} (hb : b ≤ 100) (h : l.length ≤ 1000000000000) : apM b l [x] = some (l ++ [x]) := by
  apply apM_of
  · have : (l.length + [x].length) * b ≤ 1000000000001 * 100 := Nat.mul_le_mul (by simp; omega) hb
    omega
  · simp; omega
theorem apMl {α : Type} {b : Nat} {l k : List α} (hb : b ≤ 100) (h : l.length + k.length ≤ 1000000000000) : apM b l k = some (l ++ k) := by
  apply apM_of
  · have : (l.length + k.length) * b ≤ 1000000000000 * 100 := Nat.mul_le_mul h hb
    omega
  · omega
theorem mkE_of {α : Type} {b : Nat} {n : Nat} (hb : b ≤ 100) (h : n ≤ 1000000000000) : mkE (α := α) b (n : Int) = some [] := by
  have : b * n ≤ 100 * 1000000000000 := Nat.mul_le_mul hb h
  have h2 : (b : Int) * (n : Int) = ((b * n : Nat) : Int) := by simp
  unfold mkE
  rw [h2, if_pos ⟨by omega, by omega, by omega⟩]
theorem mkM_of {α : Type} {b : Nat} {n : Nat} {z : α} (hb : b ≤ 100) (h : n ≤ 1000000000000) : mkM b (n : Int) z = some (List.replicate n z) := by
  have : b * n ≤ 100 * 1000000000000 := Nat.mul_le_mul hb h
  have h2 : (b : Int) * (n : Int) = ((b * n : Nat) : Int) := by simp
  unfold mkM
  rw [h2, if_pos ⟨by omega, by omega, by omega⟩, Int.toNat_natCast]
theorem subM_nat {α : Type} {l : List α} {i j : Nat} (h : i ≤ j) (h' : j ≤ l.length) : subM l (i : Int) (j : Int) = some (cut l i j) := by
  unfold subM; rw [if_pos ⟨by omega, by omega, by omega⟩]; simp
theorem subM_zero {α : Type} {l : List α} {j : Nat} (h' : j ≤ l.length) : subM l 0 (j : Int) = some (l.take j) := by
  have := subM_nat (l := l) (i := 0) (j := j) (by omega) h'
  simpa [cut] using this
theorem usub_of {M a b : Nat} (h : b ≤ a) (h' : a < M) : usub M a b = a - b := by
  unfold usub; rw [show (a : Int) - (b : Int) = ((a - b : Nat) : Int) by omega, ← Int.natCast_emod, Int.toNat_natCast, Nat.mod_eq_of_lt (by omega)]
theorem usub_lt {M a b : Nat} (h : a < b) (h' : b ≤ M) : usub M a b = M + a - b := by
  unfold usub
  have : ((a : Int) - (b : Int)) % (M : Int) = ((M + a - b : Nat) : Int) := by
    rw [← Int.add_emod_right (a := (a : Int) - b), show (a : Int) - (b : Int) + (M : Int) = ((M + a - b : Nat) : Int) by omega, ← Int.natCast_emod, Nat.mod_eq_of_lt (by omega)]
  rw [this, Int.toNat_natCast]
theorem ckR_nat {o n i : Nat} (h : i < n) : ckR o n (i : Int) = some (o + i) := by simp [ckR, h]
theorem eqLen_of {α : Type} {l l' : List α} (h : l'.length = l.length) : eqLen l l' = some () := by simp [eqLen, h]
theorem uquo_of {M a b : Nat} (h : b ≠ 0) (h' : a < M) : uquo M a b = some (a / b) := by
  unfold uquo; rw [if_neg h, Nat.mod_eq_of_lt (Nat.lt_of_le_of_lt (Nat.div_le_self _ _) h')]
theorem urem_of {a b : Nat} (h : b ≠ 0) : urem a b = some (a % b) := by unfold urem; rw [if_neg h]

/-- As 'Option.bind_some', but by an equation, never by reckoning. -/
theorem bsm {α β : Type} {a : α} {f : α → Option β} : Option.bind (some a) f = f a := by
  have h : ∀ o, o = some a → Option.bind o f = f a := by intro o ho; rw [ho]; rfl
  exact h _ rfl
theorem ctm {α : Type} {x y : α} : (bif true then x else y) = x := by
  have h : ∀ b, b = true → (bif b then x else y) = x := by intro b hb; rw [hb]; rfl
  exact h _ rfl
theorem cfm {α : Type} {x y : α} : (bif false then x else y) = y := by
  have h : ∀ b, b = false → (bif b then x else y) = y := by intro b hb; rw [hb]; rfl
  exact h _ rfl
theorem bind_loop {S E R : Type} {body : S → Option (S ⊕ E)} {s : S} {f : E → Option R} {r : R} (I : S → Prop) (Post : E → Prop) (μ : S → Nat)
    (step : ∀ s, I s → (∃ s', body s = some (.inl s') ∧ I s' ∧ μ s' < μ s) ∨ (∃ e, body s = some (.inr e) ∧ Post e)) (h : I s) (hf : ∀ e, Post e → f e = some r) : (loopM body s).bind f = some r := by
  obtain ⟨e, h1, h2⟩ := loopM_inv I Post μ step h
  rw [h1]; exact hf e h2
theorem bind_loop_ex {S E R : Type} {body : S → Option (S ⊕ E)} {s : S} {f : E → Option R} {Q : R → Prop} (I : S → Prop) (Post : E → Prop) (μ : S → Nat)
    (step : ∀ s, I s → (∃ s', body s = some (.inl s') ∧ I s' ∧ μ s' < μ s) ∨ (∃ e, body s = some (.inr e) ∧ Post e)) (h : I s) (hf : ∀ e, Post e → ∃ r, f e = some r ∧ Q r) : ∃ r, (loopM body s).bind f = some r ∧ Q r := by
  obtain ⟨e, h1, h2⟩ := loopM_inv I Post μ step h
  rw [h1]; exact hf e h2
/-- A loop that goes by a count. -/
theorem bind_loop_to {S E R : Type} {body : S → Option (S ⊕ E)} {s : S} {f : E → Option R} {r : R} (st : Nat → S) (n : Nat) (e : E) (h0 : s = st 0) (hs : ∀ k, k < n → body (st k) = some (.inl (st (k + 1)))) (he : body (st n) = some (.inr e)) (hf : f e = some r) : (loopM body s).bind f = some r := by
  rw [h0, loopM_to st n hs he]; exact hf
theorem bind_range {S R : Type} {body : Nat → S → Option S} {s : S} {f : S → Option R} {r : R} (st : Nat → S) {n : Nat} (h0 : s = st 0) (hs : ∀ k, k < n → body k (st k) = some (st (k + 1))) (hf : f (st n) = some r) : (rangeM body n s).bind f = some r := by
  rw [h0, rangeM_to st n hs]; exact hf
theorem bind_eq {α β : Type} {x : Option α} {a : α} {f : α → Option β} {r : Option β} (h : x = some a) (hf : f a = r) : x.bind f = r := by rw [h]; exact hf
theorem bif_t {α : Type} {b : Bool} {x y r : α} (hb : b = true) (h : x = r) : (bif b then x else y) = r := by rw [hb]; exact h
theorem bif_f {α : Type} {b : Bool} {x y r : α} (hb : b = false) (h : y = r) : (bif b then x else y) = r := by rw [hb]; exact h
end Go.Fw
