/- Short forms for words and whole numbers, slices that are made and then never changed, the loop over an iterator by lists. Over any program. -/
import Derived.Test.YtgkafblpckcekaaFwRange
import Derived.Lib.SliceRun
namespace Go.Fw
open Go.RowKit

theorem SVIs.of_eq {l l' : List SV} (h : l = l') : SVIs l l' := by subst h; exact SVIs.refl _

/-- The cells of words, of whole numbers, of bytes. -/
abbrev WC (ws : List Nat) : List SV := ws.map fun x => SV.v (.int .u32 (x : Nat))
abbrev IC (xs : List Int) : List SV := xs.map fun x => SV.v (.int .i64 x)
abbrev BC (bs : List Nat) : List SV := bs.map fun x => SV.v (.int .u8 (x : Nat))
theorem pure_map {α : Type} (l : List α) (f : α → Value) : ∀ (M M' : Mem) (us : List Value), SV.All M (l.map fun x => SV.v (f x)) us → SV.All M' (l.map fun x => SV.v (f x)) us := by
  intro M M'
  induction l with
  | nil => intro us h; cases us with | nil => trivial | cons _ _ => exact h.elim
  | cons x l ih =>
    intro us h
    cases us with
    | nil => exact h.elim
    | cons u us => exact ⟨h.1, ih us h.2⟩
theorem pureW (ws : List Nat) : ∀ (M M' : Mem) (us : List Value), SV.All M (WC ws) us → SV.All M' (WC ws) us := pure_map ws (fun x => .int .u32 (x : Nat))
theorem pureB (ws : List Nat) : ∀ (M M' : Mem) (us : List Value), SV.All M (BC ws) us → SV.All M' (BC ws) us := pure_map ws (fun x => .int .u8 (x : Nat))
theorem flat_single {α β : Type} (l : List α) (f : α → β) : (l.map fun x => [f x]).flatten = l.map f := by
  induction l with
  | nil => rfl
  | cons x l ih => simp [ih]

/- numbers -/
theorem addN {k : IntKind} {a b : Nat} (h : k.wrap ((a + b : Nat) : Int) = ((a + b : Nat) : Int)) : k.wrap ((a : Int) + (b : Int)) = ((a + b : Nat) : Int) := by rw [← Int.natCast_add]; exact h
theorem mulN {k : IntKind} {a b : Nat} (h : k.wrap ((a * b : Nat) : Int) = ((a * b : Nat) : Int)) : k.wrap ((a : Int) * (b : Int)) = ((a * b : Nat) : Int) := by rw [← Int.natCast_mul]; exact h
theorem wu64 {a : Nat} (h : a < 18446744073709551616) : IntKind.u64.wrap (a : Int) = a := nw_u64 (by omega)
theorem wu32 {a : Nat} (h : a < 4294967296) : IntKind.u32.wrap (a : Int) = a := nw_u32 (by omega)
theorem wi64 {a : Nat} (h : a < 9223372036854775808) : IntKind.i64.wrap (a : Int) = a := nw_i64 (by omega)
theorem wu8 {a : Nat} (h : a < 256) : IntKind.u8.wrap (a : Int) = a := nw_u8 (by omega)
theorem cu32 {a : Nat} : IntKind.u32.wrap (a : Int) = ((a % 4294967296 : Nat) : Int) := by
  simp [IntKind.wrap, IntKind.signed, IntKind.bits]
theorem cu64 {a : Nat} : IntKind.u64.wrap (a : Int) = ((a % 18446744073709551616 : Nat) : Int) := by
  simp [IntKind.wrap, IntKind.signed, IntKind.bits]
theorem cu8 {a : Nat} : IntKind.u8.wrap (a : Int) = ((a % 256 : Nat) : Int) := by
  simp [IntKind.wrap, IntKind.signed, IntKind.bits]
theorem quoN {k : IntKind} {a b : Nat} (h : k.wrap ((a / b : Nat) : Int) = ((a / b : Nat) : Int)) : k.wrap ((a : Int).tdiv (b : Int)) = ((a / b : Nat) : Int) := by
  rw [Int.tdiv_eq_ediv_of_nonneg (by omega), ← Int.natCast_ediv]; exact h
theorem remN {a b : Nat} : (a : Int).tmod (b : Int) = ((a % b : Nat) : Int) := by
  rw [Int.tmod_eq_emod_of_nonneg (by omega)]; rfl
theorem shrN {a s : Nat} {k : IntKind} (h : s ≤ k.bits) : (a : Int).fdiv (2 ^ (min ((s : Int)).toNat k.bits)) = ((a / 2 ^ s : Nat) : Int) := by
  rw [Int.toNat_natCast, Nat.min_eq_left h, Int.fdiv_eq_ediv_of_nonneg _ (Int.le_of_lt (Int.pow_pos (by decide))), Int.natCast_ediv, Int.natCast_pow]; rfl
theorem shlN {a s : Nat} {k : IntKind} (h : s ≤ k.bits) (hw : k.wrap ((a * 2 ^ s : Nat) : Int) = ((a * 2 ^ s : Nat) : Int)) : k.wrap ((a : Int) * 2 ^ (min ((s : Int)).toNat k.bits)) = ((a * 2 ^ s : Nat) : Int) := by
  rw [Int.toNat_natCast, Nat.min_eq_left h, ← hw, Int.natCast_mul, Int.natCast_pow]; rfl

/- comparisons of natural numbers -/
theorem ltT {a b : Nat} (h : a < b) : decide ((a : Int) < (b : Int)) = true := decide_eq_true (by omega)
theorem ltF {a b : Nat} (h : b ≤ a) : decide ((a : Int) < (b : Int)) = false := decide_eq_false (by omega)
theorem leT {a b : Nat} (h : a ≤ b) : decide ((a : Int) ≤ (b : Int)) = true := decide_eq_true (by omega)
theorem leF {a b : Nat} (h : b < a) : decide ((a : Int) ≤ (b : Int)) = false := decide_eq_false (by omega)
theorem gtT {a b : Nat} (h : b < a) : decide ((a : Int) > (b : Int)) = true := decide_eq_true (by omega)
theorem gtF {a b : Nat} (h : a ≤ b) : decide ((a : Int) > (b : Int)) = false := decide_eq_false (by omega)
theorem geT {a b : Nat} (h : b ≤ a) : decide ((a : Int) ≥ (b : Int)) = true := decide_eq_true (by omega)
theorem geF {a b : Nat} (h : a < b) : decide ((a : Int) ≥ (b : Int)) = false := decide_eq_false (by omega)
theorem eqT {a b : Nat} (h : a = b) : ((a : Int) == (b : Int)) = true := by rw [h]; exact beq_self_eq_true _
theorem eqF {a b : Nat} (h : a ≠ b) : ((a : Int) == (b : Int)) = false := by rw [beq_eq_false_iff_ne]; omega
theorem neT {a b : Nat} (h : a ≠ b) : ((a : Int) != (b : Int)) = true := by rw [bne, eqF h]; rfl
theorem neF {a b : Nat} (h : a = b) : ((a : Int) != (b : Int)) = false := by rw [bne, eqT h]; rfl

section steps
variable {P : Program} {C : Ctx} {ops : Array Oper} {S : AS} {nd : Bool} {K : List Ac → AS → Prop} {rest : List Oper} {acc : List Ac}
variable {gd : Option (Nat × Bool)} {rg : List Nat} {d : Nat} {ty : TypeId} {pos : String} {aft : Array Edge} {x y z : Operand} {T U E0 E1 : TypeId}

theorem RT.ixU (hg : Gd ops S gd rg) [tS : TySl P T E0 1] {ws : List Nat} {kk : IntKind} {i : Int} (hx : S.ev x = .sv (U32 ws)) (hy : S.ev y = .sv (.v (.int kk i))) (hd : d < S.n) (j u : Nat) (hj : ws[j]? = some u) (hi : i = j)
    (next : RunT P C ops nd K rest (⟨rg ++ (okeys x ++ okeys y), [], [], ⟨some (d, .sv (ref [.v (.int .u32 (u : Nat))])), [], []⟩⟩ :: acc) (S.set d (.sv (ref [.v (.int .u32 (u : Nat))])))) : RunT P C ops nd K (⟨some d, .indexAddr T x y, ty, pos, aft, gd⟩ :: rest) acc S :=
  RT.ixA hg [.v (.int .u32 (u : Nat))] (by omega) (by subst hi; simp [hj]) hx hy hd next
theorem RT.ixI (hg : Gd ops S gd rg) [tS : TySl P T E0 1] {xs : List Int} {kk : IntKind} {i : Int} (hx : S.ev x = .sv (Ints xs)) (hy : S.ev y = .sv (.v (.int kk i))) (hd : d < S.n) (j : Nat) (u : Int) (hj : xs[j]? = some u) (hi : i = j)
    (next : RunT P C ops nd K rest (⟨rg ++ (okeys x ++ okeys y), [], [], ⟨some (d, .sv (ref [.v (.int .i64 u)])), [], []⟩⟩ :: acc) (S.set d (.sv (ref [.v (.int .i64 u)])))) : RunT P C ops nd K (⟨some d, .indexAddr T x y, ty, pos, aft, gd⟩ :: rest) acc S :=
  RT.ixA hg [.v (.int .i64 u)] (by omega) (by subst hi; simp [hj]) hx hy hd next

theorem RT.ldRU (hg : Gd ops S gd rg) [tV : TyV P T] {i k n : Nat} {ws : List Nat} (hx : S.ev x = .rptr i k) (hR : S.r i = .live ⟨E1, 1, n, WC ws⟩) (u : Nat) (hu : ws[k]? = some u) (hd : d < S.n)
    (next : RunT P C ops nd K rest (⟨rg ++ okeys x, [], [i], ⟨some (d, .sv (.v (.int .u32 (u : Nat)))), [], []⟩⟩ :: acc) (S.set d (.sv (.v (.int .u32 (u : Nat)))))) : RunT P C ops nd K (⟨some d, .load T x, ty, pos, aft, gd⟩ :: rest) acc S :=
  RT.ldR hg hx hR (by simp [hu]) hd next
theorem RT.ldRI (hg : Gd ops S gd rg) [tV : TyV P T] {i k n : Nat} {xs : List Int} (hx : S.ev x = .rptr i k) (hR : S.r i = .live ⟨E1, 1, n, IC xs⟩) (u : Int) (hu : xs[k]? = some u) (hd : d < S.n)
    (next : RunT P C ops nd K rest (⟨rg ++ okeys x, [], [i], ⟨some (d, .sv (.v (.int .i64 u))), [], []⟩⟩ :: acc) (S.set d (.sv (.v (.int .i64 u))))) : RunT P C ops nd K (⟨some d, .load T x, ty, pos, aft, gd⟩ :: rest) acc S :=
  RT.ldR hg hx hR (by simp [hu]) hd next
theorem RT.stRU (hg : Gd ops S gd rg) [tV : TyV P T] {i k n : Nat} {ws : List Nat} {c : Int} (hx : S.ev x = .rptr i k) (hR : S.r i = .live ⟨E1, 1, n, WC ws⟩) (hy : S.ev y = .sv (.v (.int .u32 c))) (u : Nat) (hc : c = u) (hk : k < n)
    (next : RunT P C ops nd K rest (⟨rg ++ (okeys x ++ okeys y), [], [i], ⟨none, [], [(i, .live ⟨E1, 1, n, WC (ws.set k u)⟩)]⟩⟩ :: acc) (AS.setRs [(i, .live ⟨E1, 1, n, WC (ws.set k u)⟩)] S)) : RunT P C ops nd K (⟨none, .store T x y, ty, pos, aft, gd⟩ :: rest) acc S := by
  subst hc
  exact RT.stR hg hx hR hy (by simp; omega) (WC (ws.set k u)) (by simp [WC, List.map_set]) next
theorem RT.stRI (hg : Gd ops S gd rg) [tV : TyV P T] {i k n : Nat} {xs : List Int} {c : Int} (hx : S.ev x = .rptr i k) (hR : S.r i = .live ⟨E1, 1, n, IC xs⟩) (hy : S.ev y = .sv (.v (.int .i64 c))) (u : Int) (hc : c = u) (hk : k < n)
    (next : RunT P C ops nd K rest (⟨rg ++ (okeys x ++ okeys y), [], [i], ⟨none, [], [(i, .live ⟨E1, 1, n, IC (xs.set k u)⟩)]⟩⟩ :: acc) (AS.setRs [(i, .live ⟨E1, 1, n, IC (xs.set k u)⟩)] S)) : RunT P C ops nd K (⟨none, .store T x y, ty, pos, aft, gd⟩ :: rest) acc S := by
  subst hc
  exact RT.stR hg hx hR hy (by simp; omega) (IC (xs.set k c)) (by simp [IC, List.map_set]) next

theorem room_of {m by_ : Nat} (hby : Nat.ble by_ 100 = true) (h : m ≤ 1000000000000) : m * by_ ≤ 140737488355328 := by
  have := Nat.le_of_ble_eq_true hby
  calc m * by_ ≤ m * 100 := Nat.mul_le_mul_left _ this
    _ ≤ 140737488355328 := by omega

/-- One word more. -/
theorem RT.appendRU (hg : Gd ops S gd rg) {by_ : Nat} {zv : Value} [tS : TySl P T E0 1] [tE : TyEl P E0 1 by_ zv] {i m : Nat} {ws : List Nat} {c : Int} (hx : S.ev x = .row i) (hR : S.r i = .live ⟨E0, 1, m, WC ws⟩) (hy : S.ev y = .sv (slc 1 [[.v (.int .u32 c)]])) (hd : d < S.n) (hdr : S.r d = .un) (hd1 : d < 1000)
    (hby : Nat.ble by_ 100 = true) (u : Nat) (hc : c = u) (hroom : m + 1 ≤ 1000000000000)
    (next : RunT P C ops nd K rest (⟨rg ++ (okeys x ++ okeys y), [], [i, d], ⟨some (d, .row d), [], [(i, .dead), (d, .live ⟨E0, 1, m + 1, WC (ws ++ [u])⟩)]⟩⟩ :: acc) ((AS.setRs [(i, .dead), (d, .live ⟨E0, 1, m + 1, WC (ws ++ [u])⟩)] S).set d (.row d))) : RunT P C ops nd K (⟨some d, .call ⟨.builtin .append, #[x, y], #[T, T]⟩, ty, pos, aft, gd⟩ :: rest) acc S :=
  RT.appendR hg hx hR hy hd hdr hd1 (room_of hby (by simpa using hroom)) (by simp; omega) _ (by subst hc; simp [WC]) next
theorem RT.appendNU (hg : Gd ops S gd rg) {by_ : Nat} {zv : Value} [tS : TySl P T E0 1] [tE : TyEl P E0 1 by_ zv] {c : Int} (hx : S.ev x = .sv (.v (.slice none 0 0))) (hy : S.ev y = .sv (slc 1 [[.v (.int .u32 c)]])) (hd : d < S.n) (hdr : S.r d = .un) (hd1 : d < 1000)
    (hby : Nat.ble by_ 100 = true) (u : Nat) (hc : c = u)
    (next : RunT P C ops nd K rest (⟨rg ++ (okeys x ++ okeys y), [], [d], ⟨some (d, .row d), [], [(d, .live ⟨E0, 1, 1, WC [u]⟩)]⟩⟩ :: acc) ((AS.setRs [(d, .live ⟨E0, 1, 1, WC [u]⟩)] S).set d (.row d))) : RunT P C ops nd K (⟨some d, .call ⟨.builtin .append, #[x, y], #[T, T]⟩, ty, pos, aft, gd⟩ :: rest) acc S :=
  RT.appendN hg hx hy hd hdr hd1 (room_of hby (by simp)) (by simp) _ (by subst hc; simp [WC]) next
theorem RT.appendRZ (hg : Gd ops S gd rg) {by_ : Nat} {zv : Value} [tS : TySl P T E0 1] [tE : TyEl P E0 1 by_ zv] {i m : Nat} {xs : List Int} {c : Int} (hx : S.ev x = .row i) (hR : S.r i = .live ⟨E0, 1, m, IC xs⟩) (hy : S.ev y = .sv (slc 1 [[.v (.int .i64 c)]])) (hd : d < S.n) (hdr : S.r d = .un) (hd1 : d < 1000)
    (hby : Nat.ble by_ 100 = true) (u : Int) (hc : c = u) (hroom : m + 1 ≤ 1000000000000)
    (next : RunT P C ops nd K rest (⟨rg ++ (okeys x ++ okeys y), [], [i, d], ⟨some (d, .row d), [], [(i, .dead), (d, .live ⟨E0, 1, m + 1, IC (xs ++ [u])⟩)]⟩⟩ :: acc) ((AS.setRs [(i, .dead), (d, .live ⟨E0, 1, m + 1, IC (xs ++ [u])⟩)] S).set d (.row d))) : RunT P C ops nd K (⟨some d, .call ⟨.builtin .append, #[x, y], #[T, T]⟩, ty, pos, aft, gd⟩ :: rest) acc S :=
  RT.appendR hg hx hR hy hd hdr hd1 (room_of hby (by simpa using hroom)) (by simp; omega) _ (by subst hc; simp [IC]) next

/-- Whether a slice is nil: of one without elements nothing is known. -/
theorem RT.nilSl {R : AS → Prop} (hg : Gd ops S gd rg) {n : Nat} [tS : TySl P T E0 n] {s : SV} {rows : List (List SV)} [hs : Slc s n rows] {n' c' : Nat} (hx : S.ev x = .sv s) (hd : d < S.n)
    (next : ∀ b : Bool, (b = true → rows = []) → RunT P C ops true (fun _ S => R S) rest [] (S.set d (.sv (.v (.bool b))))) : RunT P C ops true (fun _ S => R S) (⟨some d, .binOp .eql T x (.const (.slice none n' c')) U, ty, pos, aft, gd⟩ :: rest) acc S := by
  refine .inr ⟨rfl, fun S' => ∃ b : Bool, (b = true → rows = []) ∧ S' = S.set d (.sv (.v (.bool b))), ?_, ?_⟩
  · rintro i a w L Q ho ⟨E, h⟩ hL
    refine wpOp_of (C := C) ho (hg.wanted h (fun _ _ => rfl) rfl) ?_
    have h1 := h.ev x
    rw [hx] at h1
    obtain ⟨ad, n0, c0, hv, hnil⟩ : ∃ ad n0 c0, a.eval x = .slice ad n0 c0 ∧ (ad.isNone = true → rows = []) := by
      rcases hs.h _ _ h1 with ⟨_, e, e2⟩ | ⟨b, o, c, e, _⟩
      · exact ⟨_, _, _, e, fun _ => e2⟩
      · exact ⟨_, _, _, e, fun h => by cases h⟩
    have hrun : (execOp a.eval ⟨some d, .binOp .eql T x (.const (.slice none n' c')) U, ty, pos, aft, gd⟩).run P w = .ok (.value (.bool ad.isNone)) w := by
      have e1 := Lib.run_eql_slice_nil (P := P) w T E0 ad n0 c0 n' c' tS.u
      have e2 : (eqGuard .eql T x (.const (.slice none n' c')) (.slice ad n0 c0) (.slice none n' c')).run P w = .ok () w := by simp [eqGuard]
      have e0 : a.eval (.const (.slice none n' c')) = .slice none n' c' := rfl
      simp only [execOp, hv, e0]
      simp only [Sem.run_bind, e2, e1, Result.andThen_ok, Sem.run_pure]
    exact wpIn_of (C := C) (by intro c h; cases h) hrun (hL _ _ _ ⟨_, hnil, rfl⟩ ⟨E, h.put (x := .sv (.v (.bool ad.isNone))) rfl hd nomb⟩)
  · rintro S' ⟨b, hb, rfl⟩
    exact next b hb

/-- A field of a struct's value. -/
theorem RT.field (hg : Gd ops S gd rg) {f off : Nat} [hf : Fld P T f off U] [tV : TyV P U] {cs : List SV} {s : SV} (hx : S.ev x = .sv (.agg cs)) (hs : cs[off]? = some s) (hd : d < S.n)
    (next : RunT P C ops nd K rest (⟨rg ++ okeys x, [], [], ⟨some (d, .sv s), [], []⟩⟩ :: acc) (S.set d (.sv s))) : RunT P C ops nd K (⟨some d, .field T x f, ty, pos, aft, gd⟩ :: rest) acc S :=
  RT.value hg (okeys x) [] [] (.sv s) hd (by intro c h; cases h) (fun S' ht _ _ E a w h => by
    have h1 := h.ev x
    rw [ev_congr (fun _ h => h) ht, hx] at h1
    obtain ⟨vs, hv, hall⟩ := h1
    obtain ⟨u, hu, hs⟩ := hall.get hs
    refine ⟨u, ?_, hs, nomb⟩
    have hF := hf.h
    cases hT : P.underlying T with
    | none => rw [hT] at hF; cases hF
    | some ut =>
      rw [hT] at hF
      cases ut with
      | struct fs =>
        simp only at hF
        cases hFf : fs[f]? with
        | none => rw [hFf] at hF; cases hF
        | some F =>
          rw [hFf] at hF
          simp only [Option.map_some, Option.some.injEq, Prod.mk.injEq] at hF
          obtain ⟨q1, q2⟩ := hF
          simp [execOp, Instr.field, underlying, hT, hFf, hv, asAgg, part, q1, q2, tV.isAgg, hu]
      | _ => cases hF) next
end steps

/-- The nil slice as a row without elements. -/
theorem weak_nil {S : AS} (s k : Nat) (E0 : TypeId) (sz : Nat) (hs : S.t s = .sv (.v (.slice none 0 0))) (hk : S.r k = .un) (hk1 : k < 1000) : Weak S ((AS.setRs [(k, .live ⟨E0, sz, 0, []⟩)] S).set s (.row k)) := by
  rintro C a w ⟨E, h⟩
  have h1 := h.newRow hk hk1 [] none (.inl ⟨rfl, rfl⟩) (R' := ⟨E0, sz, 0, []⟩) (World.ownsRow_nil w 0 E0 sz) (vs' := []) trivial (.inl rfl) (grown_refl w none)
  refine ⟨_, { h1 with wf := ?_, tm := fun t => ?_ }⟩
  · refine ⟨fun t j hj => ?_, fun t j hj => ?_, h1.wf.bb, h1.wf.br⟩
    · by_cases e : t = s
      · subst e; rw [AS.set_same] at hj; exact hj.elim
      · rw [AS.set_other _ _ _ _ e] at hj; exact h1.wf.tb t j hj
    · by_cases e : t = s
      · subst e; rw [AS.set_same] at hj; cases hj
        show (AS.setR S k _).r k ≠ _
        rw [AS.setR_same]; simp
      · rw [AS.set_other _ _ _ _ e] at hj; exact h1.wf.tr t j hj
  · by_cases e : t = s
    · subst e
      rw [AS.set_same]
      have := h.tm t
      rw [hs] at this
      show a.tmps.getD t undef = if k = k then _ else _
      rw [if_pos rfl]; exact this
    · rw [AS.set_other _ _ _ _ e]; exact h1.tm t

/-- A slot told otherwise. -/
theorem weak_t {S : AS} (s : Nat) (X : SV) (hx : ∀ E v, (S.t s).holds E v → X.h E.M v) : Weak S (S.set s (.sv X)) := by
  rintro C a w ⟨E, h⟩
  refine ⟨E, { h with wf := ?_, tm := fun t => ?_ }⟩
  · refine ⟨fun t j hj => ?_, fun t j hj => ?_, h.wf.bb, h.wf.br⟩
    · by_cases e : t = s
      · subst e; rw [AS.set_same] at hj; exact hj.elim
      · rw [AS.set_other _ _ _ _ e] at hj; exact h.wf.tb t j hj
    · by_cases e : t = s
      · subst e; rw [AS.set_same] at hj; exact hj.elim
      · rw [AS.set_other _ _ _ _ e] at hj; exact h.wf.tr t j hj
  · by_cases e : t = s
    · subst e; rw [AS.set_same]; exact hx E _ (h.tm t)
    · rw [AS.set_other _ _ _ _ e]; exact h.tm t
theorem clo_sv {g : FuncId} {caps : List SV} {E : Env} {v : Value} (h : (AV.clo g (caps.map Cap.val)).holds E v) : (cloS g caps).h E.M v := by
  obtain ⟨vs, rfl, h⟩ := h
  refine ⟨vs, rfl, ?_⟩
  have key : ∀ (l : List SV) (vs : List Value), AllC E (l.map Cap.val) vs → SV.All E.M l vs := by
    intro l
    induction l with
    | nil => intro vs h; cases vs with | nil => trivial | cons _ _ => exact h.elim
    | cons c l ih =>
      intro vs h
      cases vs with
      | nil => exact h.elim
      | cons x xs => exact ⟨h.1, ih xs h.2⟩
  exact key caps vs h

def AV.rt (pb : List Nat) : AV → Bool
  | .sv _ => true
  | .ptr i _ => pb.any (Nat.beq i)
  | .bsl i _ _ _ => pb.any (Nat.beq i)
  | .clo _ js => js.all fun c => match c with | .box i => pb.any (Nat.beq i) | .val _ => true
  | _ => false
theorem rt_ok {pb : List Nat} {x : AV} (h : x.rt pb = true) : (∀ j, x.mb j → j ∈ pb) ∧ ∀ j, ¬ x.mr j := by
  cases x <;> first | cases h | skip
  · exact ⟨fun j e => e.elim, fun j e => e⟩
  · exact ⟨fun j e => by cases e; exact any_mem.1 h, fun j e => e⟩
  · exact ⟨fun j e => by cases e; exact any_mem.1 h, fun j e => e⟩
  · refine ⟨fun j e => ?_, fun j e => e⟩
    exact any_mem.1 (List.all_eq_true.1 h _ e)
theorem rangeT {n : Nat} {ts : List (Nat × AV)} {bs : List (Nat × Box)} {rs : List (Nat × Row)} {pb : List Nat} (h : (ts.all fun p => p.2.rt pb) = true) (s : Nat) : (∀ j, ((AS.mkL n ts bs rs).t s).mb j → j ∈ pb) ∧ ∀ j, ¬ ((AS.mkL n ts bs rs).t s).mr j := by
  show (∀ j, (lkT ts s).mb j → j ∈ pb) ∧ ∀ j, ¬ (lkT ts s).mr j
  rcases lkT_mem (ts := ts) (s := s) with e | ⟨p, hp, _, e⟩
  · rw [e]; exact ⟨fun j e => e.elim, fun j e => e⟩
  · rw [e]; exact rt_ok (List.all_eq_true.1 h p hp)
theorem rangeP {ps : List Nat} {n : Nat} (h : (ps.all fun p => Nat.ble (p + 1) n) = true) : ∀ p ∈ ps, p < n := fun p hp => Nat.le_of_ble_eq_true (List.all_eq_true.1 h p hp)
end Go.Fw
