/- The operations of straight code, each as a step from one abstract state to the next. Over any program. -/
import Derived.Test.YtgkafblpckcekaaFwCore
namespace Go.Fw
open Go.RowKit

/- What is asked of the program's types and functions: closed facts. -/
class TyInt (P : Program) (T : TypeId) (k : outParam IntKind) : Prop where
  h : P.underlying T = some (.int k)
class TyBool (P : Program) (T : TypeId) : Prop where
  h : P.underlying T = some .bool
class TyStr (P : Program) (T : TypeId) : Prop where
  h : P.underlying T = some .string
/-- A struct of n cells. -/
class TyA (P : Program) (T : TypeId) (n : outParam Nat) : Prop where
  u : (match P.underlying T with | some (.struct _) | some (.array _ _) => true | _ => false) = true
  s : (P.info? T).map (·.size) = some n
/-- A type of one cell. -/
class TyV (P : Program) (T : TypeId) : Prop where
  u : (match P.underlying T with | some (.struct _) | some (.array _ _) | none => false | _ => true) = true
  s : (P.info? T).map (·.size) = some 1
class TyZero (P : Program) (T : TypeId) (z : outParam Value) : Prop where
  h : (P.info? T).bind (·.zero) = some z
class TySl (P : Program) (T : TypeId) (E : outParam TypeId) (n : outParam Nat) : Prop where
  u : P.underlying T = some (.slice E)
  s : (P.info? E).map (·.size) = some n
class Fld (P : Program) (T : TypeId) (f : Nat) (off : outParam Nat) (U : outParam TypeId) : Prop where
  h : (match P.underlying T with | some (.struct fs) => (fs[f]?).map fun F => (F.offset, F.type) | _ => none) = some (off, U)
class Ent (P : Program) (f : FuncId) : Prop where
  h : ((P.funcs[f]?).map fun fn => (fn.name == "runtime.NumGoroutine", fn.body.isNone)) = some (false, false)

theorem Ent.run {P : Program} {f : FuncId} [e : Ent P f] (args : Array Value) (w : World) : (callFunc f args).run P w = .ok (.enter f args) w := by
  have h := e.h
  cases hf : P.funcs[f]? with
  | none => rw [hf] at h; simp at h
  | some fn =>
    rw [hf] at h
    simp only [Option.map_some, Option.some.injEq, Prod.mk.injEq] at h
    have h1 : fn.name ≠ "runtime.NumGoroutine" := by simpa using h.1
    have h2 : ¬ fn.body = none := by have := h.2; intro e; rw [e] at this; simp at this
    simp [callFunc, hf, h1, h2]

theorem TyA.isAgg {P : Program} {T : TypeId} {n : Nat} [t : TyA P T n] (w : World) : (isAgg T).run P w = .ok true w := by
  have h := t.u
  unfold Go.isAgg underlying
  cases hu : P.underlying T with
  | none => rw [hu] at h; simp at h
  | some u => rw [hu] at h; cases u <;> simp [hu] at h ⊢
theorem TyA.size {P : Program} {T : TypeId} {n : Nat} [t : TyA P T n] (w : World) : (sizeOf T).run P w = .ok n w := by
  have h := t.s
  unfold Go.sizeOf typeInfo
  cases hi : P.info? T with
  | none => rw [hi] at h; simp at h
  | some i => rw [hi] at h; simp at h; simp [hi, h]
theorem TyV.isAgg {P : Program} {T : TypeId} [t : TyV P T] (w : World) : (isAgg T).run P w = .ok false w := by
  have h := t.u
  unfold Go.isAgg underlying
  cases hu : P.underlying T with
  | none => rw [hu] at h; simp at h
  | some u => rw [hu] at h; cases u <;> simp [hu] at h ⊢
theorem TyV.size {P : Program} {T : TypeId} [t : TyV P T] (w : World) : (sizeOf T).run P w = .ok 1 w := by
  have h := t.s
  unfold Go.sizeOf typeInfo
  cases hi : P.info? T with
  | none => rw [hi] at h; simp at h
  | some i => rw [hi] at h; simp at h; simp [hi, h]
theorem TyZero.run {P : Program} {T : TypeId} {z : Value} [t : TyZero P T z] (w : World) : (zeroValue T).run P w = .ok z w := by
  have h := t.h
  unfold Go.zeroValue typeInfo
  cases hi : P.info? T with
  | none => rw [hi] at h; simp at h
  | some i => rw [hi] at h; simp at h; simp [hi, h]
theorem TySl.size {P : Program} {T E : TypeId} {n : Nat} [t : TySl P T E n] (w : World) : (sizeOf E).run P w = .ok n w := by
  have h := t.s
  unfold Go.sizeOf typeInfo
  cases hi : P.info? E with
  | none => rw [hi] at h; simp at h
  | some i => rw [hi] at h; simp at h; simp [hi, h]

/-- Whether an operation is carried out: it bears no guard, or the guard said yes. -/
inductive Gd (ops : Array Oper) (S : AS) : Option (Nat × Bool) → List Nat → Prop
  | none : Gd ops S none []
  | some {j g : Nat} {want : Bool} (h1 : (ops[j]?).bind (·.dst) = some g) (h2 : S.t g = .sv (.v (.bool want))) : Gd ops S (some (j, want)) [g]

theorem Gd.wanted {ops : Array Oper} {S S' : AS} {gd : Option (Nat × Bool)} {rs : List Nat} (hg : Gd ops S gd rs) {C : Ctx} {E : Env} {a : Act} {w : World} (h : HoldsAt C S' E a w)
    (ht : ∀ s ∈ rs, S'.t s = S.t s) {o : Oper} (ho : o.guard = gd) : Region.wanted o (yielded ops a.tmps) = true := by
  cases hg with
  | none => simp [Region.wanted, ho]
  | @some j g want h1 h2 =>
    have hv := h.tm g
    rw [ht g (by simp), h2] at hv
    have hv : a.tmps.getD g undef = .bool want := hv
    have : a.tmps[g]? = Option.some (.bool want) := by
      rw [Array.getD_eq_getD_getElem?] at hv
      cases e : a.tmps[g]? with
      | none => rw [e] at hv; simp [undef] at hv
      | some x => rw [e] at hv; simp at hv; rw [hv]
    simp [Region.wanted, ho, yielded, h1, this]

section steps
variable {P : Program} {C : Ctx} {ops : Array Oper} {S : AS} {nd : Bool} {K : List Ac → AS → Prop} {rest : List Oper} {acc : List Ac}

theorem HoldsAt.put {E : Env} {a : Act} {w : World} (h : HoldsAt C S E a w) {d : Nat} {x : AV} {v : Value} (hx : x.holds E v) (hd : d < S.n)
    (hl : (∀ j, x.mb j → ∃ B, S.b j = some B) ∧ (∀ j, x.mr j → S.r j ≠ .un)) : HoldsAt C (S.set d x) E (a.put (some d) v) w where
  wf := by
    refine ⟨fun s j hj => ?_, fun s j hj => ?_, h.wf.bb, h.wf.br⟩
    · by_cases e : s = d
      · subst e; rw [AS.set_same] at hj; exact hl.1 j hj
      · rw [AS.set_other _ _ _ _ e] at hj; exact h.wf.tb s j hj
    · by_cases e : s = d
      · subst e; rw [AS.set_same] at hj; exact hl.2 j hj
      · rw [AS.set_other _ _ _ _ e] at hj; exact h.wf.tr s j hj
  marks := h.marks
  size := by simp [Act.put]; exact h.size
  os := h.os
  tape := h.tape
  output := h.output
  grown := h.grown
  frame := h.frame
  m0 := h.m0
  mnew := h.mnew
  inW := h.inW
  tm := fun s => by
    by_cases e : s = d
    · subst e
      rw [AS.set_same]
      have : (a.put (some s) v).tmps.getD s undef = v := by
        simp [Act.put, Array.getD_eq_getD_getElem?, h.size, hd]
      rw [this]; exact hx
    · rw [AS.set_other _ _ _ _ e]
      have : (a.put (some d) v).tmps.getD s undef = a.tmps.getD s undef := by
        simp [Act.put, Array.getD_eq_getD_getElem?, Array.getElem?_setIfInBounds_ne (Ne.symm e)]
      rw [this]; exact h.tm s
  bx := h.bx
  inj := h.inj
  rx := h.rx
  rinj := h.rinj
  pin := h.pin
  pinr := h.pinr
  olt := h.olt
  jj := h.jj

theorem wpOp_of {o : Oper} {i : Nat} {a : Act} {w : World} {L : Act → World → Prop} {Q : Exit → Act → World → Prop} (ho : ops[i]? = some o) (hg : Region.wanted o (yielded ops a.tmps) = true) (h : o.wpIn (Fr C.ro) 0 P a w L Q) : wpOpIn (Fr C.ro) 0 P ops Q i L a w := by
  simp only [wpOpIn, ho, hg, if_true]; exact h

theorem wpIn_of {o : Oper} {a : Act} {w : World} {L : Act → World → Prop} {Q : Exit → Act → World → Prop} (hnd : ∀ c, o.op ≠ .defer c) {r : Result Next} (hr : (execOp a.eval o).run P w = r) (h : o.uponIn (Fr C.ro) 0 P a L Q r) : o.wpIn (Fr C.ro) 0 P a w L Q := by
  refine ⟨fun _ _ => trivial, ?_⟩
  rw [Oper.semAt_eq _ _ _ hnd, hr]; exact h

variable {gd : Option (Nat × Bool)} {rg : List Nat} {d : Nat} {ty : TypeId} {pos : String} {aft : Array Edge} {x y z : Operand} {T U : TypeId} {k : IntKind} {p q : Int}

/-- An operation that the guard passes over. -/
theorem RT.skip {op : Op} {j g : Nat} {b want : Bool} (h1 : (ops[j]?).bind (·.dst) = some g) (h2 : S.t g = .sv (.v (.bool b))) (hb : b ≠ want) (hd : d < S.n)
    (next : RunT P C ops nd K rest (⟨[g], [], [], ⟨some (d, .sv .any), [], []⟩⟩ :: acc) (S.set d (.sv .any))) : RunT P C ops nd K (⟨some d, op, ty, pos, aft, some (j, want)⟩ :: rest) acc S := by
  refine .inl ⟨[g], [], [], ⟨some (d, .sv .any), [], []⟩, ?_, next⟩
  rintro S' hn ht _ _ i a w L Q ho ⟨E, h⟩ hL
  have hv := h.tm g
  rw [ht g (by simp), h2] at hv
  have hv : a.tmps.getD g undef = .bool b := hv
  have hgv : a.tmps[g]? = some (.bool b) := by
    rw [Array.getD_eq_getD_getElem?] at hv
    cases e : a.tmps[g]? with
    | none => rw [e] at hv; simp [undef] at hv
    | some x => rw [e] at hv; simp at hv; rw [hv]
  have hw : Region.wanted ⟨some d, op, ty, pos, aft, some (j, want)⟩ (yielded ops a.tmps) = false := by
    simp [Region.wanted, yielded, h1, hgv, hb]
  simp only [wpOpIn, ho, hw]
  exact ⟨fun _ _ => trivial, hL _ _ ⟨E, h.put (x := .sv .any) (v := undef) trivial (by omega) ⟨fun _ h => h.elim, fun _ h => h.elim⟩⟩⟩

/-- The same, of an operation that writes no slot. -/
theorem RT.skip0 {op : Op} {j g : Nat} {b want : Bool} (h1 : (ops[j]?).bind (·.dst) = some g) (h2 : S.t g = .sv (.v (.bool b))) (hb : b ≠ want)
    (next : RunT P C ops nd K rest (⟨[g], [], [], ⟨none, [], []⟩⟩ :: acc) S) : RunT P C ops nd K (⟨none, op, ty, pos, aft, some (j, want)⟩ :: rest) acc S := by
  refine .inl ⟨[g], [], [], ⟨none, [], []⟩, ?_, next⟩
  rintro S' hn ht _ _ i a w L Q ho ⟨E, h⟩ hL
  have hv := h.tm g
  rw [ht g (by simp), h2] at hv
  have hv : a.tmps.getD g undef = .bool b := hv
  have hgv : a.tmps[g]? = some (.bool b) := by
    rw [Array.getD_eq_getD_getElem?] at hv
    cases e : a.tmps[g]? with
    | none => rw [e] at hv; simp [undef] at hv
    | some x => rw [e] at hv; simp at hv; rw [hv]
  have hw : Region.wanted ⟨none, op, ty, pos, aft, some (j, want)⟩ (yielded ops a.tmps) = false := by
    simp [Region.wanted, yielded, h1, hgv, hb]
  simp only [wpOpIn, ho, hw]
  exact ⟨fun _ _ => trivial, hL _ _ ⟨E, h⟩⟩

/-- An operation that reckons a value of what it is given and leaves memory alone. -/
theorem RT.value (hg : Gd ops S gd rg) {op : Op} (rs rb rr : List Nat) (x : AV) (hd : d < S.n) (hnd : ∀ c, op ≠ .defer c)
    (hv : ∀ S' : AS, (∀ s ∈ rs, S'.t s = S.t s) → (∀ i ∈ rb, S'.b i = S.b i) → (∀ i ∈ rr, S'.r i = S.r i) → ∀ E a w, HoldsAt C S' E a w → ∃ v, (execOp a.eval ⟨some d, op, ty, pos, aft, gd⟩).run P w = .ok (.value v) w ∧ x.holds E v ∧ (∀ j, x.mb j → ∃ B, S'.b j = some B) ∧ (∀ j, x.mr j → S'.r j ≠ .un))
    (next : RunT P C ops nd K rest (⟨rg ++ rs, rb, rr, ⟨some (d, x), [], []⟩⟩ :: acc) (S.set d x)) : RunT P C ops nd K (⟨some d, op, ty, pos, aft, gd⟩ :: rest) acc S := by
  refine .inl ⟨rg ++ rs, rb, rr, ⟨some (d, x), [], []⟩, ?_, next⟩
  rintro S' hn ht hb hr i a w L Q ho ⟨E, h⟩ hL
  refine wpOp_of (C := C) ho (hg.wanted h (fun s hs => ht s (List.mem_append_left _ hs)) rfl) ?_
  obtain ⟨v, hrun, hx, hl⟩ := hv S' (fun s hs => ht s (List.mem_append_right _ hs)) hb hr E a w h
  exact wpIn_of (C := C) hnd hrun (hL _ _ ⟨E, h.put hx (by omega) hl⟩)

theorem nomb {s : SV} {S : AS} : (∀ j, (AV.sv s).mb j → ∃ B, S.b j = some B) ∧ (∀ j, (AV.sv s).mr j → S.r j ≠ .un) := ⟨fun _ h => h.elim, fun _ h => h.elim⟩

theorem ev_live {S : AS} (h : S.wf) {x : Operand} {v : AV} (e : S.ev x = v) : (∀ j, v.mb j → ∃ B, S.b j = some B) ∧ (∀ j, v.mr j → S.r j ≠ .un) := by
  subst e
  cases x with
  | tmp t => exact ⟨h.tb t, h.tr t⟩
  | const x => exact nomb
  | global g => exact nomb
  | func f => exact nomb

theorem RT.move (hg : Gd ops S gd rg) {s : AV} (hx : S.ev x = s) (hd : d < S.n)
    (next : RunT P C ops nd K rest (⟨rg ++ okeys x, [], [], ⟨some (d, s), [], []⟩⟩ :: acc) (S.set d s)) : RunT P C ops nd K (⟨some d, .move x, ty, pos, aft, gd⟩ :: rest) acc S :=
  RT.value hg (okeys x) [] [] s hd (by intro c h; cases h) (fun S' ht _ _ E a w h => by
    have hx' : S'.ev x = s := by rw [ev_congr (fun _ h => h) ht, hx]
    exact ⟨a.eval x, rfl, by have := h.ev x; rw [hx'] at this; exact this, ev_live h.wf hx'⟩) next
theorem RT.assign (hg : Gd ops S gd rg) {s : AV} (hx : S.ev x = s) (hd : d < S.n)
    (next : RunT P C ops nd K rest (⟨rg ++ okeys x, [], [], ⟨some (d, s), [], []⟩⟩ :: acc) (S.set d s)) : RunT P C ops nd K (⟨some d, .assign x, ty, pos, aft, gd⟩ :: rest) acc S :=
  RT.value hg (okeys x) [] [] s hd (by intro c h; cases h) (fun S' ht _ _ E a w h => by
    have hx' : S'.ev x = s := by rw [ev_congr (fun _ h => h) ht, hx]
    exact ⟨a.eval x, rfl, by have := h.ev x; rw [hx'] at this; exact this, ev_live h.wf hx'⟩) next

theorem RT.pickT (hg : Gd ops S gd rg) {s : SV} (hx : S.ev x = .sv (.v (.bool true))) (hy : S.ev y = .sv s) (hd : d < S.n)
    (next : RunT P C ops nd K rest (⟨rg ++ (okeys x ++ okeys y), [], [], ⟨some (d, .sv s), [], []⟩⟩ :: acc) (S.set d (.sv s))) : RunT P C ops nd K (⟨some d, .pick x y z, ty, pos, aft, gd⟩ :: rest) acc S :=
  RT.value hg (okeys x ++ okeys y) [] [] (.sv s) hd (by intro c h; cases h) (fun S' ht _ _ E a w h => by
    have h1 : a.eval x = .bool true := by have h1 := h.ev x; rw [ev_congr (fun _ h => List.mem_append_left _ h) ht, hx] at h1; exact h1
    have h2 := h.ev y
    rw [ev_congr (fun _ h => List.mem_append_right _ h) ht, hy] at h2
    exact ⟨a.eval y, by simp [execOp, h1, asBool], h2, nomb⟩) next
theorem RT.pickF (hg : Gd ops S gd rg) {s : SV} (hx : S.ev x = .sv (.v (.bool false))) (hz : S.ev z = .sv s) (hd : d < S.n)
    (next : RunT P C ops nd K rest (⟨rg ++ (okeys x ++ okeys z), [], [], ⟨some (d, .sv s), [], []⟩⟩ :: acc) (S.set d (.sv s))) : RunT P C ops nd K (⟨some d, .pick x y z, ty, pos, aft, gd⟩ :: rest) acc S :=
  RT.value hg (okeys x ++ okeys z) [] [] (.sv s) hd (by intro c h; cases h) (fun S' ht _ _ E a w h => by
    have h1 : a.eval x = .bool false := by have h1 := h.ev x; rw [ev_congr (fun _ h => List.mem_append_left _ h) ht, hx] at h1; exact h1
    have h2 := h.ev z
    rw [ev_congr (fun _ h => List.mem_append_right _ h) ht, hz] at h2
    exact ⟨a.eval z, by simp [execOp, h1, asBool], h2, nomb⟩) next

/-- Two operands that are known to the sign: an operation that reckons with them alone. -/
theorem RT.op2 (hg : Gd ops S gd rg) {op : Op} (hnd : ∀ c, op ≠ .defer c) {vx vy r : Value} (hx : S.ev x = .sv (.v vx)) (hy : S.ev y = .sv (.v vy)) (hd : d < S.n)
    (hr : ∀ (ρ : Operand → Value) (w : World), ρ x = vx → ρ y = vy → (execOp ρ ⟨some d, op, ty, pos, aft, gd⟩).run P w = .ok (.value r) w)
    (next : RunT P C ops nd K rest (⟨rg ++ (okeys x ++ okeys y), [], [], ⟨some (d, .sv (.v r)), [], []⟩⟩ :: acc) (S.set d (.sv (.v r)))) : RunT P C ops nd K (⟨some d, op, ty, pos, aft, gd⟩ :: rest) acc S :=
  RT.value hg (okeys x ++ okeys y) [] [] (.sv (.v r)) hd hnd (fun S' ht _ _ E a w h => by
    have h1 := h.ev x
    rw [ev_congr (fun _ h => List.mem_append_left _ h) ht, hx] at h1
    have h2 := h.ev y
    rw [ev_congr (fun _ h => List.mem_append_right _ h) ht, hy] at h2
    exact ⟨r, hr _ w h1 h2, rfl, nomb⟩) next
theorem RT.op1 (hg : Gd ops S gd rg) {op : Op} (hnd : ∀ c, op ≠ .defer c) {vx r : Value} (hx : S.ev x = .sv (.v vx)) (hd : d < S.n)
    (hr : ∀ (ρ : Operand → Value) (w : World), ρ x = vx → (execOp ρ ⟨some d, op, ty, pos, aft, gd⟩).run P w = .ok (.value r) w)
    (next : RunT P C ops nd K rest (⟨rg ++ okeys x, [], [], ⟨some (d, .sv (.v r)), [], []⟩⟩ :: acc) (S.set d (.sv (.v r)))) : RunT P C ops nd K (⟨some d, op, ty, pos, aft, gd⟩ :: rest) acc S :=
  RT.value hg (okeys x) [] [] (.sv (.v r)) hd hnd (fun S' ht _ _ E a w h => by
    have h1 := h.ev x
    rw [ev_congr (fun _ h => h) ht, hx] at h1
    exact ⟨r, hr _ w h1, rfl, nomb⟩) next

theorem run_bin {op : BinOp} {ρ : Operand → Value} {w : World} {r : Value} {j : IntKind} (hx : ρ x = .int k p) (hy : ρ y = .int j q) (h : (binOp op T (.int k p) (.int j q)).run P w = .ok r w) :
    (execOp ρ ⟨some d, .binOp op T x y U, ty, pos, aft, gd⟩).run P w = .ok (.value r) w := by
  simp only [execOp, hx, hy]
  have he : (eqGuard op T x y (.int k p) (.int j q)).run P w = .ok () w := by
    unfold eqGuard; cases op <;> simp
  simp [he, h]

theorem RT.cmp (hg : Gd ops S gd rg) {op : BinOp} {c : Bool} (hx : S.ev x = .sv (.v (.int k p))) (hy : S.ev y = .sv (.v (.int k q))) (hd : d < S.n)
    (hc : ∀ w : World, (binOp op T (.int k p) (.int k q)).run P w = .ok (.bool c) w)
    (next : RunT P C ops nd K rest (⟨rg ++ (okeys x ++ okeys y), [], [], ⟨some (d, .sv (.v (.bool c))), [], []⟩⟩ :: acc) (S.set d (.sv (.v (.bool c))))) : RunT P C ops nd K (⟨some d, .binOp op T x y U, ty, pos, aft, gd⟩ :: rest) acc S :=
  RT.op2 hg (by intro c h; cases h) hx hy hd (fun _ w h1 h2 => run_bin h1 h2 (hc w)) next
theorem RT.eql (hg : Gd ops S gd rg) (c : Bool) (hx : S.ev x = .sv (.v (.int k p))) (hy : S.ev y = .sv (.v (.int k q))) (hd : d < S.n) (hc : (p == q) = c)
    (next : RunT P C ops nd K rest (⟨rg ++ (okeys x ++ okeys y), [], [], ⟨some (d, .sv (.v (.bool c))), [], []⟩⟩ :: acc) (S.set d (.sv (.v (.bool c))))) : RunT P C ops nd K (⟨some d, .binOp .eql T x y U, ty, pos, aft, gd⟩ :: rest) acc S :=
  RT.cmp hg hx hy hd (fun w => by simp [binOp, Op.intCmp, hc]) next
theorem RT.neq (hg : Gd ops S gd rg) (c : Bool) (hx : S.ev x = .sv (.v (.int k p))) (hy : S.ev y = .sv (.v (.int k q))) (hd : d < S.n) (hc : (p != q) = c)
    (next : RunT P C ops nd K rest (⟨rg ++ (okeys x ++ okeys y), [], [], ⟨some (d, .sv (.v (.bool c))), [], []⟩⟩ :: acc) (S.set d (.sv (.v (.bool c))))) : RunT P C ops nd K (⟨some d, .binOp .neq T x y U, ty, pos, aft, gd⟩ :: rest) acc S :=
  RT.cmp hg hx hy hd (fun w => by simp [binOp, Op.intCmp, hc]) next
theorem RT.lss (hg : Gd ops S gd rg) (c : Bool) (hx : S.ev x = .sv (.v (.int k p))) (hy : S.ev y = .sv (.v (.int k q))) (hd : d < S.n) (hc : decide (p < q) = c)
    (next : RunT P C ops nd K rest (⟨rg ++ (okeys x ++ okeys y), [], [], ⟨some (d, .sv (.v (.bool c))), [], []⟩⟩ :: acc) (S.set d (.sv (.v (.bool c))))) : RunT P C ops nd K (⟨some d, .binOp .lss T x y U, ty, pos, aft, gd⟩ :: rest) acc S :=
  RT.cmp hg hx hy hd (fun w => by simp [binOp, Op.intCmp, hc]) next
theorem RT.leq (hg : Gd ops S gd rg) (c : Bool) (hx : S.ev x = .sv (.v (.int k p))) (hy : S.ev y = .sv (.v (.int k q))) (hd : d < S.n) (hc : decide (p ≤ q) = c)
    (next : RunT P C ops nd K rest (⟨rg ++ (okeys x ++ okeys y), [], [], ⟨some (d, .sv (.v (.bool c))), [], []⟩⟩ :: acc) (S.set d (.sv (.v (.bool c))))) : RunT P C ops nd K (⟨some d, .binOp .leq T x y U, ty, pos, aft, gd⟩ :: rest) acc S :=
  RT.cmp hg hx hy hd (fun w => by simp [binOp, Op.intCmp, hc]) next
theorem RT.gtr (hg : Gd ops S gd rg) (c : Bool) (hx : S.ev x = .sv (.v (.int k p))) (hy : S.ev y = .sv (.v (.int k q))) (hd : d < S.n) (hc : decide (q < p) = c)
    (next : RunT P C ops nd K rest (⟨rg ++ (okeys x ++ okeys y), [], [], ⟨some (d, .sv (.v (.bool c))), [], []⟩⟩ :: acc) (S.set d (.sv (.v (.bool c))))) : RunT P C ops nd K (⟨some d, .binOp .gtr T x y U, ty, pos, aft, gd⟩ :: rest) acc S :=
  RT.cmp hg hx hy hd (fun w => by simp [binOp, Op.intCmp, hc]) next
theorem RT.geq (hg : Gd ops S gd rg) (c : Bool) (hx : S.ev x = .sv (.v (.int k p))) (hy : S.ev y = .sv (.v (.int k q))) (hd : d < S.n) (hc : decide (q ≤ p) = c)
    (next : RunT P C ops nd K rest (⟨rg ++ (okeys x ++ okeys y), [], [], ⟨some (d, .sv (.v (.bool c))), [], []⟩⟩ :: acc) (S.set d (.sv (.v (.bool c))))) : RunT P C ops nd K (⟨some d, .binOp .geq T x y U, ty, pos, aft, gd⟩ :: rest) acc S :=
  RT.cmp hg hx hy hd (fun w => by simp [binOp, Op.intCmp, hc]) next
theorem RT.add (hg : Gd ops S gd rg) (c : Int) (hx : S.ev x = .sv (.v (.int k p))) (hy : S.ev y = .sv (.v (.int k q))) (hd : d < S.n) (hc : k.wrap (p + q) = c)
    (next : RunT P C ops nd K rest (⟨rg ++ (okeys x ++ okeys y), [], [], ⟨some (d, .sv (.v (.int k c))), [], []⟩⟩ :: acc) (S.set d (.sv (.v (.int k c))))) : RunT P C ops nd K (⟨some d, .binOp .add T x y U, ty, pos, aft, gd⟩ :: rest) acc S :=
  RT.op2 hg (by intro c h; cases h) hx hy hd (fun _ w h1 h2 => run_bin h1 h2 (by simp [binOp, Op.intArith, hc])) next
theorem RT.sub (hg : Gd ops S gd rg) (c : Int) (hx : S.ev x = .sv (.v (.int k p))) (hy : S.ev y = .sv (.v (.int k q))) (hd : d < S.n) (hc : k.wrap (p - q) = c)
    (next : RunT P C ops nd K rest (⟨rg ++ (okeys x ++ okeys y), [], [], ⟨some (d, .sv (.v (.int k c))), [], []⟩⟩ :: acc) (S.set d (.sv (.v (.int k c))))) : RunT P C ops nd K (⟨some d, .binOp .sub T x y U, ty, pos, aft, gd⟩ :: rest) acc S :=
  RT.op2 hg (by intro c h; cases h) hx hy hd (fun _ w h1 h2 => run_bin h1 h2 (by simp [binOp, Op.intArith, hc])) next
theorem RT.mul (hg : Gd ops S gd rg) (c : Int) (hx : S.ev x = .sv (.v (.int k p))) (hy : S.ev y = .sv (.v (.int k q))) (hd : d < S.n) (hc : k.wrap (p * q) = c)
    (next : RunT P C ops nd K rest (⟨rg ++ (okeys x ++ okeys y), [], [], ⟨some (d, .sv (.v (.int k c))), [], []⟩⟩ :: acc) (S.set d (.sv (.v (.int k c))))) : RunT P C ops nd K (⟨some d, .binOp .mul T x y U, ty, pos, aft, gd⟩ :: rest) acc S :=
  RT.op2 hg (by intro c h; cases h) hx hy hd (fun _ w h1 h2 => run_bin h1 h2 (by simp [binOp, Op.intArith, hc])) next
theorem RT.quo (hg : Gd ops S gd rg) (c : Int) (hx : S.ev x = .sv (.v (.int k p))) (hy : S.ev y = .sv (.v (.int k q))) (hd : d < S.n) (h0 : q ≠ 0) (hc : k.wrap (p.tdiv q) = c)
    (next : RunT P C ops nd K rest (⟨rg ++ (okeys x ++ okeys y), [], [], ⟨some (d, .sv (.v (.int k c))), [], []⟩⟩ :: acc) (S.set d (.sv (.v (.int k c))))) : RunT P C ops nd K (⟨some d, .binOp .quo T x y U, ty, pos, aft, gd⟩ :: rest) acc S :=
  RT.op2 hg (by intro c h; cases h) hx hy hd (fun _ w h1 h2 => run_bin h1 h2 (by simp [binOp, Op.intDiv, hc, h0])) next
theorem RT.rem (hg : Gd ops S gd rg) (c : Int) (hx : S.ev x = .sv (.v (.int k p))) (hy : S.ev y = .sv (.v (.int k q))) (hd : d < S.n) (h0 : q ≠ 0) (hc : p.tmod q = c)
    (next : RunT P C ops nd K rest (⟨rg ++ (okeys x ++ okeys y), [], [], ⟨some (d, .sv (.v (.int k c))), [], []⟩⟩ :: acc) (S.set d (.sv (.v (.int k c))))) : RunT P C ops nd K (⟨some d, .binOp .rem T x y U, ty, pos, aft, gd⟩ :: rest) acc S :=
  RT.op2 hg (by intro c h; cases h) hx hy hd (fun _ w h1 h2 => run_bin h1 h2 (by simp [binOp, Op.intDiv, hc, h0])) next
theorem RT.and (hg : Gd ops S gd rg) (c : Int) (hx : S.ev x = .sv (.v (.int k p))) (hy : S.ev y = .sv (.v (.int k q))) (hd : d < S.n) (hc : k.wrap ((BitVec.ofInt k.bits p &&& BitVec.ofInt k.bits q).toNat) = c)
    (next : RunT P C ops nd K rest (⟨rg ++ (okeys x ++ okeys y), [], [], ⟨some (d, .sv (.v (.int k c))), [], []⟩⟩ :: acc) (S.set d (.sv (.v (.int k c))))) : RunT P C ops nd K (⟨some d, .binOp .and T x y U, ty, pos, aft, gd⟩ :: rest) acc S :=
  RT.op2 hg (by intro c h; cases h) hx hy hd (fun _ w h1 h2 => run_bin h1 h2 (by simp only [binOp, Op.intBits, hc]; simp)) next
theorem RT.or (hg : Gd ops S gd rg) (c : Int) (hx : S.ev x = .sv (.v (.int k p))) (hy : S.ev y = .sv (.v (.int k q))) (hd : d < S.n) (hc : k.wrap ((BitVec.ofInt k.bits p ||| BitVec.ofInt k.bits q).toNat) = c)
    (next : RunT P C ops nd K rest (⟨rg ++ (okeys x ++ okeys y), [], [], ⟨some (d, .sv (.v (.int k c))), [], []⟩⟩ :: acc) (S.set d (.sv (.v (.int k c))))) : RunT P C ops nd K (⟨some d, .binOp .or T x y U, ty, pos, aft, gd⟩ :: rest) acc S :=
  RT.op2 hg (by intro c h; cases h) hx hy hd (fun _ w h1 h2 => run_bin h1 h2 (by simp only [binOp, Op.intBits, hc]; simp)) next
theorem RT.xor (hg : Gd ops S gd rg) (c : Int) (hx : S.ev x = .sv (.v (.int k p))) (hy : S.ev y = .sv (.v (.int k q))) (hd : d < S.n) (hc : k.wrap ((BitVec.ofInt k.bits p ^^^ BitVec.ofInt k.bits q).toNat) = c)
    (next : RunT P C ops nd K rest (⟨rg ++ (okeys x ++ okeys y), [], [], ⟨some (d, .sv (.v (.int k c))), [], []⟩⟩ :: acc) (S.set d (.sv (.v (.int k c))))) : RunT P C ops nd K (⟨some d, .binOp .xor T x y U, ty, pos, aft, gd⟩ :: rest) acc S :=
  RT.op2 hg (by intro c h; cases h) hx hy hd (fun _ w h1 h2 => run_bin h1 h2 (by simp only [binOp, Op.intBits, hc]; simp)) next
theorem RT.shl (hg : Gd ops S gd rg) (c : Int) {j : IntKind} (hx : S.ev x = .sv (.v (.int k p))) (hy : S.ev y = .sv (.v (.int j q))) (hd : d < S.n) (h0 : 0 ≤ q) (hc : k.wrap (p * 2 ^ (min q.toNat k.bits)) = c)
    (next : RunT P C ops nd K rest (⟨rg ++ (okeys x ++ okeys y), [], [], ⟨some (d, .sv (.v (.int k c))), [], []⟩⟩ :: acc) (S.set d (.sv (.v (.int k c))))) : RunT P C ops nd K (⟨some d, .binOp .shl T x y U, ty, pos, aft, gd⟩ :: rest) acc S :=
  RT.op2 hg (by intro c h; cases h) hx hy hd (fun _ w h1 h2 => run_bin h1 h2 (by
    have : ¬ q < 0 := by omega
    simp only [binOp, Op.shift, this, if_false, hc]; rfl)) next
theorem RT.shr (hg : Gd ops S gd rg) (c : Int) {j : IntKind} (hx : S.ev x = .sv (.v (.int k p))) (hy : S.ev y = .sv (.v (.int j q))) (hd : d < S.n) (h0 : 0 ≤ q) (hc : p.fdiv (2 ^ (min q.toNat k.bits)) = c)
    (next : RunT P C ops nd K rest (⟨rg ++ (okeys x ++ okeys y), [], [], ⟨some (d, .sv (.v (.int k c))), [], []⟩⟩ :: acc) (S.set d (.sv (.v (.int k c))))) : RunT P C ops nd K (⟨some d, .binOp .shr T x y U, ty, pos, aft, gd⟩ :: rest) acc S :=
  RT.op2 hg (by intro c h; cases h) hx hy hd (fun _ w h1 h2 => run_bin h1 h2 (by
    have : ¬ q < 0 := by omega
    simp only [binOp, Op.shift, this, if_false, hc]; rfl)) next
theorem RT.not (hg : Gd ops S gd rg) {b : Bool} (hx : S.ev x = .sv (.v (.bool b))) (hd : d < S.n) (c : Bool) (hc : (!b) = c)
    (next : RunT P C ops nd K rest (⟨rg ++ okeys x, [], [], ⟨some (d, .sv (.v (.bool c))), [], []⟩⟩ :: acc) (S.set d (.sv (.v (.bool c))))) : RunT P C ops nd K (⟨some d, .unOp .not T x, ty, pos, aft, gd⟩ :: rest) acc S :=
  RT.op1 hg (by intro c h; cases h) hx hd (fun _ w h1 => by simp [execOp, h1, Op.unary, hc]) next
theorem RT.neg (hg : Gd ops S gd rg) (c : Int) (hx : S.ev x = .sv (.v (.int k p))) (hd : d < S.n) (hc : k.wrap (0 - p) = c)
    (next : RunT P C ops nd K rest (⟨rg ++ okeys x, [], [], ⟨some (d, .sv (.v (.int k c))), [], []⟩⟩ :: acc) (S.set d (.sv (.v (.int k c))))) : RunT P C ops nd K (⟨some d, .unOp .neg T x, ty, pos, aft, gd⟩ :: rest) acc S :=
  RT.op1 hg (by intro c h; cases h) hx hd (fun _ w h1 => by simp only [execOp, h1, Op.unary, Op.intArith, hc]; simp) next
theorem RT.conv (hg : Gd ops S gd rg) {j : IntKind} [tT : TyInt P T j] [tU : TyInt P U k] (c : Int) {k' : IntKind} (hx : S.ev x = .sv (.v (.int k' p))) (hd : d < S.n) (hc : k.wrap p = c)
    (next : RunT P C ops nd K rest (⟨rg ++ okeys x, [], [], ⟨some (d, .sv (.v (.int k c))), [], []⟩⟩ :: acc) (S.set d (.sv (.v (.int k c))))) : RunT P C ops nd K (⟨some d, .convert T U x, ty, pos, aft, gd⟩ :: rest) acc S :=
  RT.op1 hg (by intro c h; cases h) hx hd (fun _ w h1 => by simp [execOp, h1, convert, underlying, tT.h, tU.h, Conv.intToInt, hc]) next
theorem RT.beql (hg : Gd ops S gd rg) [tT : TyBool P T] (e : Bool) {b c : Bool} (hx : S.ev x = .sv (.v (.bool b))) (hy : S.ev y = .sv (.v (.bool c))) (hd : d < S.n) (he : (b == c) = e)
    (next : RunT P C ops nd K rest (⟨rg ++ (okeys x ++ okeys y), [], [], ⟨some (d, .sv (.v (.bool e))), [], []⟩⟩ :: acc) (S.set d (.sv (.v (.bool e))))) : RunT P C ops nd K (⟨some d, .binOp .eql T x y U, ty, pos, aft, gd⟩ :: rest) acc S :=
  RT.op2 hg (by intro c h; cases h) hx hy hd (fun ρ w h1 h2 => by
    have e1 := run_eql_bool (P := P) w T b c tT.h
    rw [he] at e1
    simp [execOp, h1, h2, eqGuard, e1]) next
theorem RT.bneq (hg : Gd ops S gd rg) [tT : TyBool P T] (e : Bool) {b c : Bool} (hx : S.ev x = .sv (.v (.bool b))) (hy : S.ev y = .sv (.v (.bool c))) (hd : d < S.n) (he : (!(b == c)) = e)
    (next : RunT P C ops nd K rest (⟨rg ++ (okeys x ++ okeys y), [], [], ⟨some (d, .sv (.v (.bool e))), [], []⟩⟩ :: acc) (S.set d (.sv (.v (.bool e))))) : RunT P C ops nd K (⟨some d, .binOp .neq T x y U, ty, pos, aft, gd⟩ :: rest) acc S :=
  RT.op2 hg (by intro c h; cases h) hx hy hd (fun ρ w h1 h2 => by
    have e1 := run_neq_bool (P := P) w T b c tT.h
    rw [he] at e1
    simp [execOp, h1, h2, eqGuard, e1]) next

end steps
end Go.Fw
