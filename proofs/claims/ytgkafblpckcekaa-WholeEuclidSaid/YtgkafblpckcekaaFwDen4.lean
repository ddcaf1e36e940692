/- Functions that change a row, slices over a row, loops over an iterator, in the words of plain functions. Over any program. -/
import Derived.Test.YtgkafblpckcekaaFwDen3
namespace Go.Fw
open Go.RowKit

def eqLen {α : Type} (l l' : List α) : Option Unit := if l'.length = l.length then some () else none
theorem eqLen_some {α : Type} {l l' : List α} {u : Unit} (h : eqLen l l' = some u) : l'.length = l.length := by
  unfold eqLen at h; split at h
  · assumption
  · cases h
def ckS {α : Type} (l : List α) (lo hi : Int) : Option (Nat × Nat) := if 0 ≤ lo ∧ lo < l.length ∧ lo ≤ hi ∧ hi ≤ l.length then some (lo.toNat, (hi - lo).toNat) else none
theorem ckS_some {α : Type} {l : List α} {lo hi : Int} {o n : Nat} (h : ckS l lo hi = some (o, n)) : 0 ≤ lo ∧ lo < l.length ∧ lo ≤ hi ∧ hi ≤ l.length ∧ lo.toNat = o ∧ (hi - lo).toNat = n := by
  unfold ckS at h; split at h
  · rename_i hh
    obtain ⟨q1, q2⟩ := Prod.mk.inj (Option.some.inj h)
    exact ⟨hh.1, hh.2.1, hh.2.2.1, hh.2.2.2, q1, q2⟩
  · cases h
/-- An index into a slice of n elements that begins at the o-th. -/
def ckR (o n : Nat) (i : Int) : Option Nat := if 0 ≤ i ∧ i < n then some (o + i.toNat) else none
theorem ckR_some {o n j : Nat} {i : Int} (h : ckR o n i = some j) : 0 ≤ i ∧ i < n ∧ o + i.toNat = j := by
  unfold ckR at h; split at h
  · rename_i hh; exact ⟨hh.1, hh.2, Option.some.inj h⟩
  · cases h
class PV {α : Type} (e : α → List SV) : Prop where
  h : ∀ x, ∃ v : Value, e x = [.v v]
instance : PV eU8 := ⟨fun _ => ⟨_, rfl⟩⟩
instance : PV eU32 := ⟨fun _ => ⟨_, rfl⟩⟩
instance : PV eU64 := ⟨fun _ => ⟨_, rfl⟩⟩
instance : PV eI64 := ⟨fun _ => ⟨_, rfl⟩⟩
theorem pv_flat {α : Type} {e : α → List SV} [p : PV e] (l : List α) : ∀ (M M' : Mem) (us : List Value), SV.All M (l.flatMap e) us → SV.All M' (l.flatMap e) us := by
  intro M M'
  induction l with
  | nil => intro us h; cases us with | nil => trivial | cons _ _ => exact h.elim
  | cons x l ih =>
    intro us h
    obtain ⟨v, hv⟩ := p.h x
    rw [List.flatMap_cons, hv] at h ⊢
    cases us with
    | nil => exact h.elim
    | cons u us => exact ⟨h.1, ih us h.2⟩

theorem slc_len {α : Type} {e : α → List SV} {l : List α} {n : Nat} {M : Mem} {v : Value} (h : (slc n (l.map e)).h M v) : l.length ≤ 9223372036854775807 := by
  rcases h with ⟨_, _, h⟩ | ⟨b, o, c, _, _, h, _⟩
  · have : l = [] := by simpa using h
    subst this; simp
  · rwa [List.length_map] at h
theorem ref_len {α : Type} {e : α → List SV} {l : List α} {n : Nat} {M : Mem} {v : Value} (h : (ref [slc n (l.map e)]).h M v) : l.length ≤ 9223372036854775807 := by
  obtain ⟨b, o, _, h⟩ := h
  obtain ⟨y, _, h⟩ := h 0 _ rfl
  exact slc_len h
theorem getD_of_le {l : List Nat} {i : Nat} (h : l.length ≤ i) : l.getD i 0 = 0 := by simp [List.getD, List.getElem?_eq_none h]
theorem get_getD {l : List Nat} {i : Nat} (h : i < l.length) : l[i]? = some (l.getD i 0) := by simp [List.getD, h]
theorem pair_cases {α β : Type} (a : List α) (b : List β) (i : Nat) (h : i ≤ max a.length b.length) : (i < max a.length b.length ∧ i < a.length ∧ i < b.length) ∨ (i < max a.length b.length ∧ i < a.length ∧ b.length ≤ i) ∨ (i < max a.length b.length ∧ a.length ≤ i ∧ i < b.length) ∨ i = max a.length b.length := by omega

section steps
variable {P : Program} {C : Ctx} {ops : Array Oper} {S : AS} {nd : Bool} {K : List Ac → AS → Prop} {rest : List Oper} {acc : List Ac}
variable {gd : Option (Nat × Bool)} {rg : List Nat} {d : Nat} {ty : TypeId} {pos : String} {aft : Array Edge} {x y z : Operand} {T U E0 : TypeId}
variable {α : Type} {l l' k : List α} {e : α → List SV} {n by_ : Nat} {zv : Value}
theorem tr_len {E1 : TypeId} (h : l'.length = l.length) : (⟨E1, n, l.length, l'.flatMap e⟩ : Row) = TR E1 n e l' := by show _ = Row.mk _ _ _ _; rw [h]
theorem RT.callRM (hg : Gd ops S gd rg) {f : FuncId} [Ent P f] {g : Operand} {xs : Array Operand} {at_ : Array TypeId} {args : List AV} {E1 : TypeId} {res : AV} (hp : RowC P f args (TR E1 n e l) res (l'.flatMap e)) (hlen : l'.length = l.length) (i : Nat) (hR : S.r i = .live (TR E1 n e l)) (hrow : args.all AV.rowy = true) (hres : res.rowy = true)
    (hf : S.ev g = .sv (.v (.func (.func f) #[] #[]))) (hargs : Args S xs.toList (args.map (AV.ren i))) (hd : d < S.n)
    (next : RunT P C ops nd K rest (⟨rg ++ (okeys g ++ xs.toList.flatMap okeys), [], [i], ⟨some (d, res.ren i), [], [(i, .live (TR E1 n e l'))]⟩⟩ :: acc) ((AS.setRs [(i, .live (TR E1 n e l'))] S).set d (res.ren i))) : RunT P C ops nd K (⟨some d, .call ⟨.value g, xs, at_⟩, ty, pos, aft, gd⟩ :: rest) acc S :=
  RT.callR hg hp i hR hrow hres hf hargs hd (by rw [tr_len hlen]; exact next)
theorem RT.callRM0 (hg : Gd ops S gd rg) {f : FuncId} [Ent P f] {g : Operand} {xs : Array Operand} {at_ : Array TypeId} {args : List AV} {E1 : TypeId} {res : AV} (hp : RowC P f args (TR E1 n e l) res (l'.flatMap e)) (hlen : l'.length = l.length) (i : Nat) (hR : S.r i = .live (TR E1 n e l)) (hrow : args.all AV.rowy = true)
    (hf : S.ev g = .sv (.v (.func (.func f) #[] #[]))) (hargs : Args S xs.toList (args.map (AV.ren i)))
    (next : RunT P C ops nd K rest (⟨rg ++ (okeys g ++ xs.toList.flatMap okeys), [], [i], ⟨none, [], [(i, .live (TR E1 n e l'))]⟩⟩ :: acc) (AS.setRs [(i, .live (TR E1 n e l'))] S)) : RunT P C ops nd K (⟨none, .call ⟨.value g, xs, at_⟩, ty, pos, aft, gd⟩ :: rest) acc S :=
  RT.callR0 hg hp i hR hrow hf hargs (by rw [tr_len hlen]; exact next)
theorem RT.slRM (hg : Gd ops S gd rg) [tS : TySl P T E0 n] {i o m : Nat} {E1 : TypeId} {lo hi : Option Operand} (a b : Int) (hx : S.ev x = .row i) (hR : S.r i = .live (TR E1 n e l)) (hlo : bndS S 0 lo a) (hhi : bndS S l.length hi b) (hd : d < S.n) (h : ckS l a b = some (o, m))
    (next : RunT P C ops nd K rest (⟨rg ++ (okeys x ++ (bkeys lo ++ bkeys hi)), [], [i], ⟨some (d, .rsl i (o * n) m), [], []⟩⟩ :: acc) (S.set d (.rsl i (o * n) m))) : RunT P C ops nd K (⟨some d, .slice T x lo hi none, ty, pos, aft, gd⟩ :: rest) acc S := by
  obtain ⟨h0, h1, h2, h3, h4, h5⟩ := ckS_some h
  exact RT.sliceR hg (.row hx hR) a b hlo hhi hd h0 h1 h2 h3 (o * n) m (by rw [h4]; omega) h5 next
theorem RT.lenRsM (hg : Gd ops S gd rg) {m : Nat} [tS : TySl P T E0 m] {i o q : Nat} {c : Int} (hx : S.ev x = .rsl i o q) (hd : d < S.n) (hc : (q : Int) = c)
    (next : RunT P C ops nd K rest (⟨rg ++ okeys x, [], [], ⟨some (d, .sv (.v (.int .i64 c))), [], []⟩⟩ :: acc) (S.set d (.sv (.v (.int .i64 c))))) : RunT P C ops nd K (⟨some d, .call ⟨.builtin .len, #[x], #[T]⟩, ty, pos, aft, gd⟩ :: rest) acc S :=
  RT.lenRs hg hx hd (by rw [hc]; exact next)
theorem RT.ixRsM (hg : Gd ops S gd rg) [tS : TySl P T E0 n] {i o q j : Nat} {kk : IntKind} {v : Int} (hx : S.ev x = .rsl i (o * n) q) (hy : S.ev y = .sv (.v (.int kk v))) (hd : d < S.n) (h : ckR o q v = some j)
    (next : RunT P C ops nd K rest (⟨rg ++ (okeys x ++ okeys y), [], [], ⟨some (d, .rptr i (j * n)), [], []⟩⟩ :: acc) (S.set d (.rptr i (j * n)))) : RunT P C ops nd K (⟨some d, .indexAddr T x y, ty, pos, aft, gd⟩ :: rest) acc S := by
  obtain ⟨h0, h1, h2⟩ := ckR_some h
  exact RT.ixR hg (.rsl hx) hy hd h0 h1 (j * n) (by rw [← h2, Nat.add_mul]) next
end steps

/- rounds over an iterator -/
def rangeM {S : Type} (body : Nat → S → Option S) : Nat → S → Option S
  | 0, s => some s
  | n + 1, s => (rangeM body n s).bind (body n)
theorem rangeM_st {S : Type} {body : Nat → S → Option S} : ∀ {n : Nat} {s e : S}, rangeM body n s = some e → ∃ st : Nat → S, st 0 = s ∧ (∀ k, k < n → body k (st k) = some (st (k + 1))) ∧ st n = e
  | 0, s, e, h => ⟨fun _ => s, rfl, fun _ h => by omega, Option.some.inj h⟩
  | n + 1, s, e, h => by
    obtain ⟨e1, h1, h2⟩ := bind_some (x := rangeM body n s) h
    obtain ⟨st, q1, q2, q3⟩ := rangeM_st h1
    refine ⟨fun k => if k = n + 1 then e else st k, by simpa using q1, fun k hk => ?_, by simp⟩
    rcases Nat.lt_or_ge k n with hkn | hkn
    · simpa [show k ≠ n + 1 by omega, show k ≠ n by omega] using q2 k hkn
    · obtain rfl : k = n := by omega
      simpa [q3] using h2
theorem rangeM_to {S : Type} {body : Nat → S → Option S} (st : Nat → S) : ∀ (n : Nat), (∀ k, k < n → body k (st k) = some (st (k + 1))) → rangeM body n (st 0) = some (st n)
  | 0, _ => rfl
  | n + 1, h => by
    rw [rangeM, rangeM_to st n (fun k hk => h k (by omega))]
    exact h n (by omega)
end Go.Fw
