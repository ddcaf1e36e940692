/- Plain functions that a followed function computes, step by step, and the rules in their words: elements of any kind, rows of them, loops, ways that meet again. Over any program. -/
import Derived.Test.YtgkafblpckcekaaFwImm
namespace Go.Fw
open Go.RowKit

/- PLAIN STEPS -/
def letJ {J R : Type} (k : J → Option R) (f : (J → Option R) → Option R) : Option R := f k
theorem bind_some {α β : Type} {x : Option α} {f : α → Option β} {r : β} (h : Option.bind x f = some r) : ∃ a, x = some a ∧ f a = some r := by
  cases x with
  | none => cases h
  | some a => exact ⟨a, rfl, h⟩
theorem let_some {α β : Type} {v : α} {f : α → Option β} {r : β} (h : Option.bind (some v) f = some r) : ∃ a, v = a ∧ f a = some r := ⟨v, rfl, h⟩
theorem br_t {α : Type} {x y : Option α} {r : α} (h : (bif true then x else y) = some r) : x = some r := h
theorem br_f {α : Type} {x y : Option α} {r : α} (h : (bif false then x else y) = some r) : y = some r := h
theorem sk {b w : Bool} (h : (b == w) = false) : b ≠ w := by cases b <;> cases w <;> simp_all
def geti {α : Type} (l : List α) (i : Int) : Option α := if 0 ≤ i then l[i.toNat]? else none
def cki {α : Type} (l : List α) (i : Int) : Option Nat := if 0 ≤ i ∧ i < l.length then some i.toNat else none
def subM {α : Type} (l : List α) (lo hi : Int) : Option (List α) := if 0 ≤ lo ∧ lo ≤ hi ∧ hi ≤ l.length then some (cut l lo.toNat hi.toNat) else none
def apM {α : Type} (by_ : Nat) (l k : List α) : Option (List α) := if (l.length + k.length) * by_ ≤ 140737488355328 ∧ l.length + k.length ≤ 140737488355328 then some (l ++ k) else none
def mkM {α : Type} (by_ : Nat) (c : Int) (z : α) : Option (List α) := if 0 ≤ c ∧ by_ * c ≤ 281474976710656 ∧ c ≤ 140737488355328 then some (List.replicate c.toNat z) else none
def mkE {α : Type} (by_ : Nat) (c : Int) : Option (List α) := if 0 ≤ c ∧ by_ * c ≤ 281474976710656 ∧ c ≤ 140737488355328 then some [] else none
def stM {α : Type} (l : List α) (n : Nat) (y : α) : Option (List α) := if n < l.length then some (l.set n y) else none
def iquo (a b : Int) : Option Int := if b = 0 then none else some (IntKind.i64.wrap (a.tdiv b))
def irem (a b : Int) : Option Int := if b = 0 then none else some (a.tmod b)
def uquo (M a b : Nat) : Option Nat := if b = 0 then none else some (a / b % M)
def urem (a b : Nat) : Option Nat := if b = 0 then none else some (a % b)
def usub (M a b : Nat) : Nat := (((a : Int) - b) % M).toNat
abbrev w64 (x : Int) : Int := IntKind.i64.wrap x

theorem geti_some {α : Type} {l : List α} {i : Int} {a : α} (h : geti l i = some a) : 0 ≤ i ∧ l[i.toNat]? = some a := by
  unfold geti at h; split at h
  · exact ⟨by assumption, h⟩
  · cases h
theorem cki_some {α : Type} {l : List α} {i : Int} {k : Nat} (h : cki l i = some k) : 0 ≤ i ∧ i < l.length ∧ i.toNat = k := by
  unfold cki at h; split at h
  · rename_i hh; exact ⟨hh.1, hh.2, Option.some.inj h⟩
  · cases h
theorem subM_some {α : Type} {l l' : List α} {a b : Int} (h : subM l a b = some l') : 0 ≤ a ∧ a ≤ b ∧ b ≤ l.length ∧ cut l a.toNat b.toNat = l' := by
  unfold subM at h; split at h
  · rename_i hh; exact ⟨hh.1, hh.2.1, hh.2.2, Option.some.inj h⟩
  · cases h
theorem apM_some {α : Type} {by_ : Nat} {l k l' : List α} (h : apM by_ l k = some l') : (l.length + k.length) * by_ ≤ 140737488355328 ∧ l.length + k.length ≤ 140737488355328 ∧ l ++ k = l' := by
  unfold apM at h; split at h
  · rename_i hh; exact ⟨hh.1, hh.2, Option.some.inj h⟩
  · cases h
theorem mkM_some {α : Type} {by_ : Nat} {c : Int} {z : α} {l' : List α} (h : mkM by_ c z = some l') : 0 ≤ c ∧ by_ * c ≤ 281474976710656 ∧ c ≤ 140737488355328 ∧ List.replicate c.toNat z = l' := by
  unfold mkM at h; split at h
  · rename_i hh; exact ⟨hh.1, hh.2.1, hh.2.2, Option.some.inj h⟩
  · cases h
theorem mkE_some {α : Type} {by_ : Nat} {c : Int} {l' : List α} (h : mkE by_ c = some l') : 0 ≤ c ∧ by_ * c ≤ 281474976710656 ∧ c ≤ 140737488355328 ∧ [] = l' := by
  unfold mkE at h; split at h
  · rename_i hh; exact ⟨hh.1, hh.2.1, hh.2.2, Option.some.inj h⟩
  · cases h
theorem stM_some {α : Type} {l l' : List α} {n : Nat} {y : α} (h : stM l n y = some l') : n < l.length ∧ l.set n y = l' := by
  unfold stM at h; split at h
  · rename_i hh; exact ⟨hh, Option.some.inj h⟩
  · cases h

/- loops -/
def runsN {S E : Type} (body : S → Option (S ⊕ E)) : Nat → S → Option E
  | 0, _ => none
  | n + 1, s => match body s with
    | some (.inl s') => runsN body n s'
    | some (.inr e) => some e
    | none => none
theorem runsN_mono {S E : Type} {body : S → Option (S ⊕ E)} : ∀ {n m : Nat} {s : S} {e : E}, n ≤ m → runsN body n s = some e → runsN body m s = some e
  | 0, _, _, _, _, h => by cases h
  | n + 1, 0, _, _, hm, _ => by omega
  | n + 1, m + 1, s, e, hm, h => by
    unfold runsN at h ⊢
    cases hb : body s with
    | none => rw [hb] at h; cases h
    | some y =>
      rw [hb] at h
      cases y with
      | inl s' => exact runsN_mono (by omega) h
      | inr e' => exact h
open Classical in
noncomputable def loopM {S E : Type} (body : S → Option (S ⊕ E)) (s : S) : Option E := if h : ∃ n e, runsN body n s = some e then some (Classical.choose (Classical.choose_spec h)) else none
theorem loopM_some {S E : Type} {body : S → Option (S ⊕ E)} {s : S} {e : E} (h : loopM body s = some e) : ∃ n, runsN body n s = some e := by
  unfold loopM at h
  split at h
  · rename_i hh
    exact ⟨_, by rw [← Option.some.inj h]; exact Classical.choose_spec (Classical.choose_spec hh)⟩
  · cases h
theorem loopM_of {S E : Type} {body : S → Option (S ⊕ E)} {s : S} {e : E} {n : Nat} (h : runsN body n s = some e) : loopM body s = some e := by
  have hh : ∃ n e, runsN body n s = some e := ⟨n, e, h⟩
  unfold loopM
  rw [dif_pos hh]
  have h2 := Classical.choose_spec (Classical.choose_spec hh)
  have h3 := runsN_mono (Nat.le_max_left n (Classical.choose hh)) h
  have h4 := runsN_mono (Nat.le_max_right n (Classical.choose hh)) h2
  rw [h3] at h4
  exact h4.symm
theorem loopM_exit {S E : Type} {body : S → Option (S ⊕ E)} {s : S} {e : E} (h : body s = some (.inr e)) : loopM body s = some e := loopM_of (n := 1) (by simp [runsN, h])
theorem loopM_step {S E : Type} {body : S → Option (S ⊕ E)} {s s' : S} (h : body s = some (.inl s')) : loopM body s = loopM body s' := by
  cases hl : loopM body s' with
  | some e => obtain ⟨n, hn⟩ := loopM_some hl; exact loopM_of (n := n + 1) (by simp [runsN, h, hn])
  | none =>
    cases hl2 : loopM body s with
    | none => rfl
    | some e =>
      obtain ⟨n, hn⟩ := loopM_some hl2
      cases n with
      | zero => cases hn
      | succ n => simp only [runsN, h] at hn; rw [loopM_of hn] at hl; cases hl
/-- A loop by what holds at every round. -/
theorem loopM_inv {S E : Type} {body : S → Option (S ⊕ E)} (I : S → Prop) (Post : E → Prop) (μ : S → Nat)
    (step : ∀ s, I s → (∃ s', body s = some (.inl s') ∧ I s' ∧ μ s' < μ s) ∨ (∃ e, body s = some (.inr e) ∧ Post e)) {s : S} (h : I s) : ∃ e, loopM body s = some e ∧ Post e := by
  have key : ∀ (n : Nat) (s : S), μ s ≤ n → I s → ∃ e, loopM body s = some e ∧ Post e := by
    intro n
    induction n with
    | zero =>
      intro s hn hs
      rcases step s hs with ⟨s', _, _, h3⟩ | ⟨e, h1, h2⟩
      · omega
      · exact ⟨e, loopM_exit h1, h2⟩
    | succ n ih =>
      intro s hn hs
      rcases step s hs with ⟨s', h1, h2, h3⟩ | ⟨e, h1, h2⟩
      · obtain ⟨e, q1, q2⟩ := ih s' (by omega) h2
        exact ⟨e, by rw [loopM_step h1]; exact q1, q2⟩
      · exact ⟨e, loopM_exit h1, h2⟩
  exact key _ s (Nat.le_refl _) h
/-- A loop whose states are told one by one. -/
theorem loopM_to {S E : Type} {body : S → Option (S ⊕ E)} (st : Nat → S) (n : Nat) {e : E} (hs : ∀ k, k < n → body (st k) = some (.inl (st (k + 1)))) (he : body (st n) = some (.inr e)) : loopM body (st 0) = some e := by
  have key : ∀ k, k ≤ n → loopM body (st (n - k)) = some e := by
    intro k
    induction k with
    | zero => intro _; exact loopM_exit he
    | succ k ih =>
      intro hk
      rw [loopM_step (hs (n - (k + 1)) (by omega)), show n - (k + 1) + 1 = n - k by omega]
      exact ih (by omega)
  have := key n (Nat.le_refl _)
  rwa [Nat.sub_self] at this

/- NUMBERS -/
theorem eqI {p q : Int} {c : Bool} (h : decide (p = q) = c) : (p == q) = c := by rw [← h]; exact Bool.beq_eq_decide_eq p q
theorem neI {p q : Int} {c : Bool} (h : decide (p ≠ q) = c) : (p != q) = c := by rw [← h, bne, Bool.beq_eq_decide_eq p q]; simp
theorem eqN {p q : Nat} {c : Bool} (h : decide (p = q) = c) : ((p : Int) == (q : Int)) = c := eqI (by rw [← h]; simp [Int.natCast_inj])
theorem neN {p q : Nat} {c : Bool} (h : decide (p ≠ q) = c) : ((p : Int) != (q : Int)) = c := neI (by rw [← h]; simp [Int.natCast_inj])
theorem ltN {p q : Nat} {c : Bool} (h : decide (p < q) = c) : decide ((p : Int) < (q : Int)) = c := by rw [← h]; simp
theorem leN {p q : Nat} {c : Bool} (h : decide (p ≤ q) = c) : decide ((p : Int) ≤ (q : Int)) = c := by rw [← h]; simp
theorem maxI {p q c : Int} (h : max p q = c) : (if q > p then q else p) = c := by rw [← h]; split <;> omega
theorem minI {p q c : Int} (h : min p q = c) : (if q < p then q else p) = c := by rw [← h]; split <;> omega
theorem maxN {p q c : Nat} (h : max p q = c) : (if (q : Int) > (p : Int) then (q : Int) else (p : Int)) = (c : Int) := by rw [← h]; split <;> omega
theorem minN {p q c : Nat} (h : min p q = c) : (if (q : Int) < (p : Int) then (q : Int) else (p : Int)) = (c : Int) := by rw [← h]; split <;> omega
/-- The kinds without a sign. -/
class UK (k : IntKind) (b : outParam Nat) (M : outParam Nat) : Prop where
  w : ∀ x : Int, k.wrap x = x % M
  hb : k.bits = b
  hm : 2 ^ b = M
instance : UK .u8 8 256 := ⟨fun x => by simp [IntKind.wrap, IntKind.signed, IntKind.bits], rfl, by decide⟩
instance : UK .u16 16 65536 := ⟨fun x => by simp [IntKind.wrap, IntKind.signed, IntKind.bits], rfl, by decide⟩
instance : UK .u32 32 4294967296 := ⟨fun x => by simp [IntKind.wrap, IntKind.signed, IntKind.bits], rfl, by decide⟩
instance : UK .u64 64 18446744073709551616 := ⟨fun x => by simp [IntKind.wrap, IntKind.signed, IntKind.bits], rfl, by decide⟩
section uk
variable {k : IntKind} {bi M a b c : Nat} [u : UK k bi M]
include u
theorem UK.pos : 0 < M := by rw [← u.hm]; exact Nat.two_pow_pos _
theorem UK.nat (h : a % M = c) : k.wrap (a : Int) = (c : Int) := by rw [u.w, ← h, Int.natCast_emod]
theorem UK.add (h : (a + b) % M = c) : k.wrap ((a : Int) + (b : Int)) = (c : Int) := by rw [← Int.natCast_add]; exact UK.nat h
theorem UK.mul (h : (a * b) % M = c) : k.wrap ((a : Int) * (b : Int)) = (c : Int) := by rw [← Int.natCast_mul]; exact UK.nat h
theorem UK.sub (h : usub M a b = c) : k.wrap ((a : Int) - (b : Int)) = (c : Int) := by
  rw [u.w, ← h, usub, Int.toNat_of_nonneg]; exact Int.emod_nonneg _ (by have := UK.pos (k := k) (bi := bi) (M := M); omega)
theorem UK.neg (h : usub M 0 a = c) : k.wrap (0 - (a : Int)) = (c : Int) := UK.sub h
theorem UK.conv {p : Int} (h : (p % M).toNat = c) : k.wrap p = (c : Int) := by
  rw [u.w, ← h, Int.toNat_of_nonneg]; exact Int.emod_nonneg _ (by have := UK.pos (k := k) (bi := bi) (M := M); omega)
theorem UK.quo (h : uquo M a b = some c) : k.wrap ((a : Int).tdiv (b : Int)) = (c : Int) := by
  unfold uquo at h; split at h
  · cases h
  · rw [Int.tdiv_eq_ediv_of_nonneg (by omega), ← Int.natCast_ediv]; exact UK.nat (Option.some.inj h)
theorem UK.quo' (h : a / b % M = c) : k.wrap ((a : Int).tdiv (b : Int)) = (c : Int) := by
  rw [Int.tdiv_eq_ediv_of_nonneg (by omega), ← Int.natCast_ediv]; exact UK.nat h
theorem UK.shl {q : Int} {s : Nat} (hs : min q.toNat k.bits = s) (h : a * 2 ^ s % M = c) : k.wrap ((a : Int) * 2 ^ (min q.toNat k.bits)) = (c : Int) := by
  rw [hs, show (a : Int) * 2 ^ s = ((a * 2 ^ s : Nat) : Int) by rw [Int.natCast_mul, Int.natCast_pow]; rfl]; exact UK.nat h
theorem UK.ofInt (a : Nat) : (BitVec.ofInt k.bits (a : Int)).toNat = a % M := by
  rw [BitVec.ofInt_natCast, BitVec.toNat_ofNat, u.hb, u.hm]
theorem UK.and (h : (a &&& b) % M = c) : k.wrap ((BitVec.ofInt k.bits (a : Int) &&& BitVec.ofInt k.bits (b : Int)).toNat) = (c : Int) := by
  rw [BitVec.toNat_and, UK.ofInt, UK.ofInt, ← u.hm, ← Nat.and_mod_two_pow, u.hm, h, UK.nat (a := c) (c := c)]
  rw [← h, Nat.mod_mod]
theorem UK.or (h : (a ||| b) % M = c) : k.wrap ((BitVec.ofInt k.bits (a : Int) ||| BitVec.ofInt k.bits (b : Int)).toNat) = (c : Int) := by
  rw [BitVec.toNat_or, UK.ofInt, UK.ofInt, ← u.hm, ← Nat.or_mod_two_pow, u.hm, h, UK.nat (a := c) (c := c)]
  rw [← h, Nat.mod_mod]
theorem UK.xor (h : (a ^^^ b) % M = c) : k.wrap ((BitVec.ofInt k.bits (a : Int) ^^^ BitVec.ofInt k.bits (b : Int)).toNat) = (c : Int) := by
  rw [BitVec.toNat_xor, UK.ofInt, UK.ofInt, ← u.hm, ← Nat.xor_mod_two_pow, u.hm, h, UK.nat (a := c) (c := c)]
  rw [← h, Nat.mod_mod]
end uk
theorem shrU {k : IntKind} {a c s : Nat} {q : Int} (hs : min q.toNat k.bits = s) (h : a / 2 ^ s = c) : (a : Int).fdiv (2 ^ (min q.toNat k.bits)) = (c : Int) := by
  rw [hs, Int.fdiv_eq_ediv_of_nonneg _ (Int.le_of_lt (Int.pow_pos (by decide))), ← h, Int.natCast_ediv, Int.natCast_pow]; rfl
theorem remU {a b c : Nat} (h : urem a b = some c) : (a : Int).tmod (b : Int) = (c : Int) := by
  unfold urem at h; split at h
  · cases h
  · rw [Int.tmod_eq_emod_of_nonneg (by omega), ← Option.some.inj h]; rfl
theorem remU' {a b c : Nat} (h : a % b = c) : (a : Int).tmod (b : Int) = (c : Int) := by
  rw [Int.tmod_eq_emod_of_nonneg (by omega), ← h]; rfl
theorem nzU {M a b c : Nat} (h : uquo M a b = some c) : (b : Int) ≠ 0 := by
  unfold uquo at h; split at h
  · cases h
  · omega
theorem nzR {a b c : Nat} (h : urem a b = some c) : (b : Int) ≠ 0 := by
  unfold urem at h; split at h
  · cases h
  · omega
theorem nzI {a b c : Int} (h : iquo a b = some c) : b ≠ 0 := by unfold iquo at h; split at h <;> simp_all
theorem nzRI {a b c : Int} (h : irem a b = some c) : b ≠ 0 := by unfold irem at h; split at h <;> simp_all
theorem quoI {a b c : Int} (h : iquo a b = some c) : IntKind.i64.wrap (a.tdiv b) = c := by
  unfold iquo at h; split at h
  · cases h
  · exact Option.some.inj h
theorem remI {a b c : Int} (h : irem a b = some c) : a.tmod b = c := by
  unfold irem at h; split at h
  · cases h
  · exact Option.some.inj h

/- ELEMENTS -/
abbrev eU8 (x : Nat) : List SV := [.v (.int .u8 (x : Nat))]
abbrev eU16 (x : Nat) : List SV := [.v (.int .u16 (x : Nat))]
abbrev eU32 (x : Nat) : List SV := [.v (.int .u32 (x : Nat))]
abbrev eU64 (x : Nat) : List SV := [.v (.int .u64 (x : Nat))]
abbrev eI16 (x : Int) : List SV := [.v (.int .i16 x)]
abbrev eI32 (x : Int) : List SV := [.v (.int .i32 x)]
abbrev eI64 (x : Int) : List SV := [.v (.int .i64 x)]
abbrev eB (x : Bool) : List SV := [.v (.bool x)]
abbrev eS {α : Type} (n : Nat) (e : α → List SV) (l : List α) : List SV := [slc n (l.map e)]
structure Zr where
  neg : Bool
  w : List Nat
structure Qr where
  num : Zr
  den : Zr
abbrev eZ (z : Zr) : List SV := [.v (.bool z.neg), slc 1 (z.w.map eU32)]
abbrev eQ (q : Qr) : List SV := [.v (.bool q.num.neg), slc 1 (q.num.w.map eU32), .v (.bool q.den.neg), slc 1 (q.den.w.map eU32)]
/-- Every element takes as many cells, each of them one. -/
class EL {α : Type} (e : α → List SV) (n : outParam Nat) : Prop where
  len : ∀ x, (e x).length = n
  one : ∀ x, Ones (e x)
instance : EL eU8 1 := ⟨fun _ => rfl, fun _ => inferInstance⟩
instance : EL eU16 1 := ⟨fun _ => rfl, fun _ => inferInstance⟩
instance : EL eU32 1 := ⟨fun _ => rfl, fun _ => inferInstance⟩
instance : EL eU64 1 := ⟨fun _ => rfl, fun _ => inferInstance⟩
instance : EL eI16 1 := ⟨fun _ => rfl, fun _ => inferInstance⟩
instance : EL eI32 1 := ⟨fun _ => rfl, fun _ => inferInstance⟩
instance : EL eI64 1 := ⟨fun _ => rfl, fun _ => inferInstance⟩
instance : EL eB 1 := ⟨fun _ => rfl, fun _ => inferInstance⟩
instance {α : Type} {n : Nat} {e : α → List SV} : EL (eS n e) 1 := ⟨fun _ => rfl, fun _ => inferInstance⟩
instance : EL eZ 2 := ⟨fun _ => rfl, fun _ => inferInstance⟩
instance : EL eQ 4 := ⟨fun _ => rfl, fun _ => inferInstance⟩
abbrev TR (E : TypeId) (sz : Nat) {α : Type} (e : α → List SV) (l : List α) : Row := ⟨E, sz, l.length, l.flatMap e⟩
theorem imp_nil {α : Type} {n : Nat} {e : α → List SV} : SV.imp (.v (.slice none 0 0)) (slc n (([] : List α).map e)) := fun _ _ h => .inl ⟨none, h, rfl⟩
theorem flat_map {α : Type} (e : α → List SV) (l : List α) : (l.map e).flatten = l.flatMap e := by rw [List.flatMap_def]
theorem rows_map {α : Type} {e : α → List SV} {n : Nat} [h : EL e n] (l : List α) : Rows n (l.map e) (l.flatMap e) := ⟨flat_map e l, fun r hr => by obtain ⟨x, _, rfl⟩ := List.mem_map.1 hr; exact h.len x⟩
theorem all_split {M : Mem} : ∀ {l k : List SV} {vs : List Value}, SV.All M (l ++ k) vs → ∃ us ws, vs = us ++ ws ∧ SV.All M l us ∧ SV.All M k ws
  | [], _, vs, h => ⟨[], vs, rfl, trivial, h⟩
  | _ :: _, _, [], h => h.elim
  | _ :: l, _, v :: vs, h => by
    obtain ⟨us, ws, rfl, h1, h2⟩ := all_split (l := l) h.2
    exact ⟨v :: us, ws, rfl, ⟨h.1, h1⟩, h2⟩
theorem ones_flat {α : Type} {e : α → List SV} {n : Nat} [h : EL e n] (l : List α) : ∀ M vs, SV.All M (l.flatMap e) vs → ∀ v ∈ vs, v.oneCell' = true := by
  intro M
  induction l with
  | nil => intro vs hv; cases vs with | nil => simp | cons _ _ => exact hv.elim
  | cons x l ih =>
    intro vs hv
    rw [List.flatMap_cons] at hv
    obtain ⟨us, ws, rfl, h1, h2⟩ := all_split hv
    intro v hv
    rcases List.mem_append.1 hv with hv | hv
    · exact (h.one x).h M us h1 v hv
    · exact ih ws h2 v hv
theorem flat_len {α : Type} {e : α → List SV} {n : Nat} [h : EL e n] (l : List α) : (l.flatMap e).length = l.length * n := by
  induction l with
  | nil => simp
  | cons x l ih => rw [List.flatMap_cons, List.length_append, ih, h.len, List.length_cons, Nat.add_mul]; omega
theorem flat_get {α : Type} {e : α → List SV} {n : Nat} [h : EL e n] : ∀ {l : List α} {k : Nat} {a : α}, l[k]? = some a → ((l.flatMap e).drop (k * n)).take n = e a
  | [], _, _, hh => by simp at hh
  | x :: l, 0, a, hh => by
    simp only [List.getElem?_cons_zero, Option.some.injEq] at hh
    subst hh
    rw [List.flatMap_cons, Nat.zero_mul, List.drop_zero, ← h.len x, List.take_left']
    rfl
  | x :: l, k + 1, a, hh => by
    rw [List.getElem?_cons_succ] at hh
    rw [List.flatMap_cons, show (k + 1) * n = (e x).length + k * n by rw [h.len, Nat.add_mul]; omega, ← List.drop_drop, List.drop_left']
    · exact flat_get hh
    · rfl
theorem flat_set {α : Type} {e : α → List SV} {n : Nat} [h : EL e n] {y : α} : ∀ {l : List α} {k : Nat}, k < l.length → spl (l.flatMap e) (k * n) (e y) = (l.set k y).flatMap e := by
  have splE : ∀ (u : List SV) (a b : List SV) (j : Nat), j + u.length ≤ a.length → spl (a ++ b) j u = spl a j u ++ b := by
    intro u
    induction u with
    | nil => intro a b j _; rfl
    | cons s u ih =>
      intro a b j hj
      simp only [List.length_cons] at hj
      simp only [spl]
      rw [List.set_append_left _ _ (by omega), ih _ _ _ (by rw [List.length_set]; omega)]
  have splF : ∀ (u : List SV) (a b : List SV) (j : Nat), spl (a ++ b) (a.length + j) u = a ++ spl b j u := by
    intro u
    induction u with
    | nil => intro a b j; rfl
    | cons s u ih =>
      intro a b j
      simp only [spl]
      rw [List.set_append_right _ _ (by omega), show a.length + j - a.length = j by omega, show a.length + j + 1 = a.length + (j + 1) by omega, ih]
  have splA : ∀ (u a : List SV), u.length = a.length → spl a 0 u = u := by
    have gen : ∀ (u a p : List SV), u.length = a.length → spl (p ++ a) p.length u = p ++ u := by
      intro u
      induction u with
      | nil => intro a p ha; have : a = [] := List.eq_nil_of_length_eq_zero ha.symm; subst this; rfl
      | cons s u ih =>
        intro a p ha
        cases a with
        | nil => cases ha
        | cons t a =>
          simp only [spl]
          rw [List.set_append_right _ _ (Nat.le_refl _), Nat.sub_self, List.set_cons_zero, show p ++ s :: a = (p ++ [s]) ++ a by simp, show p.length + 1 = (p ++ [s]).length by simp, ih a _ (by simpa using ha)]
          simp
    intro u a ha
    exact gen u a [] ha
  intro l
  induction l with
  | nil => intro k hk; simp at hk
  | cons x l ih =>
    intro k hk
    cases k with
    | zero =>
      rw [List.set_cons_zero, List.flatMap_cons, List.flatMap_cons, Nat.zero_mul, splE _ _ _ _ (by rw [h.len, h.len]; omega), splA _ _ (by rw [h.len, h.len])]
    | succ k =>
      simp only [List.length_cons] at hk
      rw [List.set_cons_succ, List.flatMap_cons, List.flatMap_cons, show (k + 1) * n = (e x).length + k * n by rw [h.len, Nat.add_mul]; omega, splF, ih (by omega)]
end Go.Fw
