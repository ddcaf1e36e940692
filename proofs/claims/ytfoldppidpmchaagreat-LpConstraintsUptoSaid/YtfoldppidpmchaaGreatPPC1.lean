/- A part of the proof: the framework, the plain functions, the followed functions, the plain laws. -/
import Derived.Test.YtfoldppidpmchaaGreatRows
import Derived.WalkKit
import Derived.OrdersIn
import Derived.RangeFuncLeaves
import Derived.RangeFuncCalls
import Derived.Deep.LoopGhost
import Derived.Maps.AppendAt
import Derived.KernelRfl
import Derived.RangeFuncSeq
import Derived.Lib.SliceRun
import Derived.Laws.BytesArg
import Derived.Laws.Strings
import Derived.Test.YtfoldppidpmchaaGreatProg
import Derived.MapKept
import Derived.Scope
import Derived.ProofKit
import Derived.OpenShut
import Derived.ShutString
import Derived.ChangeOld
import Derived.Below
import Derived.JoinedCond
import Derived.Deep.Slices
import Derived.Laws.StructEq
import Derived.Laws.Pointers
set_option linter.unusedVariables false
set_option linter.unusedSimpArgs false
namespace Go.Fw
open Go.RowKit
abbrev Mem := Nat → Nat → Option Value
def Mem.le (M M' : Mem) : Prop := ∀ b o v, M b o = some v → M' b o = some v
def entV (es : Array MapEntry) : Array Value := ⟨es.toList.map fun e => .tuple #[e.key, e.val]⟩
def Fact (w : World) (b o : Nat) : Value → Prop
  | .tuple t => ∃ es ck, w.heap[b]? = some (.map es ck) ∧ t = entV es
  | .agg _ => ∃ c T, w.heap[b]? = some (.cells c T (0, 0))
  | v => w.cell? ⟨b, o, none⟩ = some v
def Mem.inW (M : Mem) (w : World) : Prop := ∀ b o v, M b o = some v → Fact w b o v
theorem Fact.cell {w : World} {b o : Nat} {v : Value} (h : Fact w b o v) (hv : v.oneCell' = true) : w.cell? ⟨b, o, none⟩ = some v := by
  cases v <;> first | exact h | simp [Value.oneCell'] at hv
theorem Fact.of {w : World} {b o : Nat} {v : Value} (h : w.cell? ⟨b, o, none⟩ = some v) (hv : v.oneCell' = true) : Fact w b o v := by
  cases v <;> first | exact h | simp [Value.oneCell'] at hv
theorem Fact.lt {w : World} {b o : Nat} {v : Value} (h : Fact w b o v) : b < w.heap.size := by
  cases v <;> first | exact World.block_lt_of_cell? w _ h | (obtain ⟨es, ck, h, _⟩ := h; exact (Array.getElem?_eq_some_iff.1 h).1) | (obtain ⟨c, T, h⟩ := h; exact (Array.getElem?_eq_some_iff.1 h).1)
theorem Fact.same {w w' : World} {b o : Nat} {v : Value} (h : Fact w b o v) (e : w'.heap[b]? = w.heap[b]?) : Fact w' b o v := by
  cases v <;> first | (show w'.cell? _ = _; rw [World.cell?_of_block (w := w) (a := ⟨b, o, none⟩) e]; exact h) | (obtain ⟨es, ck, h, h'⟩ := h; exact ⟨es, ck, by rw [e]; exact h, h'⟩) | (obtain ⟨c, T, h⟩ := h; exact ⟨c, T, by rw [e]; exact h⟩)
theorem Fact.no {w : World} {b o : Nat} {v : Value} (h : Fact w b o v) (h1 : w.cell? ⟨b, o, none⟩ = none) (h2 : ∀ es ck, w.heap[b]? ≠ some (.map es ck)) (h3 : ∀ c T, w.heap[b]? ≠ some (.cells c T (0, 0))) : False := by
  cases v <;> first | (have h : w.cell? _ = _ := h; rw [h1] at h; cases h) | (obtain ⟨es, ck, h, _⟩ := h; exact h2 es ck h) | (obtain ⟨c, T, h⟩ := h; exact h3 c T h)
theorem Mem.le_refl (M : Mem) : M.le M := fun _ _ _ h => h
theorem Mem.le_trans {A B C : Mem} (h : A.le B) (k : B.le C) : A.le C := fun b o v e => k b o v (h b o v e)
structure SV where
  h : Mem → Value → Prop
  mono : ∀ {M M' : Mem} {v : Value}, M.le M' → h M v → h M' v
namespace SV
def any : SV := ⟨fun _ _ => True, fun _ h => h⟩
def v (x : Value) : SV := ⟨fun _ y => y = x, fun _ h => h⟩
def All (M : Mem) : List SV → List Value → Prop
  | [], [] => True
  | s :: l, x :: xs => s.h M x ∧ All M l xs
  | _, _ => False
theorem All.mono {M M' : Mem} (hM : M.le M') : ∀ {l : List SV} {xs : List Value}, All M l xs → All M' l xs
  | [], [], _ => trivial
  | s :: _, _ :: _, h => ⟨s.mono hM h.1, All.mono hM h.2⟩
  | [], _ :: _, h => h.elim
  | _ :: _, [], h => h.elim
theorem All.length {M : Mem} : ∀ {l : List SV} {xs : List Value}, All M l xs → l.length = xs.length
  | [], [], _ => rfl
  | _ :: _, _ :: _, h => congrArg (· + 1) (All.length h.2)
  | [], _ :: _, h => h.elim
  | _ :: _, [], h => h.elim
theorem All.get {M : Mem} : ∀ {l : List SV} {xs : List Value} {i : Nat} {s : SV}, All M l xs → l[i]? = some s → ∃ x, xs[i]? = some x ∧ s.h M x
  | s :: _, x :: _, 0, _, h, e => ⟨x, rfl, by cases e; exact h.1⟩
  | _ :: l, _ :: xs, _ + 1, _, h, e => All.get (l := l) (xs := xs) h.2 e
  | [], _, _, _, _, e => by simp at e
  | _ :: _, [], _, _, h, _ => h.elim
theorem All.append {M : Mem} : ∀ {l l' : List SV} {xs ys : List Value}, All M l xs → All M l' ys → All M (l ++ l') (xs ++ ys)
  | [], _, [], _, _, h => h
  | _ :: _, _, _ :: _, _, h, h' => ⟨h.1, All.append h.2 h'⟩
  | [], _, _ :: _, _, h, _ => h.elim
  | _ :: _, _, [], _, h, _ => h.elim
def agg (l : List SV) : SV := ⟨fun M y => ∃ vs : List Value, y = .agg ⟨vs⟩ ∧ All M l vs, fun hM ⟨vs, e, h⟩ => ⟨vs, e, h.mono hM⟩⟩
def tup (l : List SV) : SV := ⟨fun M y => ∃ vs : List Value, y = .tuple ⟨vs⟩ ∧ All M l vs, fun hM ⟨vs, e, h⟩ => ⟨vs, e, h.mono hM⟩⟩
def imp (x y : SV) : Prop := ∀ M v, x.h M v → y.h M v
end SV
inductive Cap where
  | box (i : Nat)
  | val (s : SV)
inductive Fc where
  | val (s : SV)
  | box (i : Nat)
  | row (i : Nat)
def Fc.isRow (i : Nat) : Fc → Bool
  | .row j => Nat.beq j i
  | _ => false
def Fc.isBox (i : Nat) : Fc → Bool
  | .box j => Nat.beq j i
  | _ => false
inductive Hd where
  | tup
  | agg
  | bnd (g : FuncId)
def Hd.mk : Hd → Array Value → Value
  | .tup, a => .tuple a
  | .agg, a => .agg a
  | .bnd g, a => .func (.func g) a #[]
inductive AV where
  | sv (s : SV)
  | ptr (i off : Nat)
  | bsl (i off len cap : Nat)
  | row (i : Nat)
  | rptr (i k : Nat)
  | rsl (i off len : Nat)
  | clo (g : FuncId) (js : List Cap)
  | cmp (t : Hd) (js : List Fc)
structure Env where
  β : Nat → Nat
  ν : Nat → Value
  O : Nat → Prop
  M : Mem
def Cap.holds (E : Env) : Cap → Value → Prop
  | .box i, v => v = .pointer (some ⟨E.β i, 0, none⟩)
  | .val s, v => s.h E.M v
def AllC (E : Env) : List Cap → List Value → Prop
  | [], [] => True
  | c :: l, x :: xs => c.holds E x ∧ AllC E l xs
  | _, _ => False
def Fc.holds (E : Env) : Fc → Value → Prop
  | .val s, v => s.h E.M v
  | .box i, v => v = .pointer (some ⟨E.β i, 0, none⟩)
  | .row i, v => v = E.ν i
def AllF (E : Env) : List Fc → List Value → Prop
  | [], [] => True
  | c :: l, x :: xs => c.holds E x ∧ AllF E l xs
  | _, _ => False
theorem AllF.get {E : Env} : ∀ {l : List Fc} {xs : List Value} {i : Nat} {s : Fc}, AllF E l xs → l[i]? = some s → ∃ x, xs[i]? = some x ∧ s.holds E x
  | s :: _, x :: _, 0, _, h, e => ⟨x, rfl, by cases e; exact h.1⟩
  | _ :: l, _ :: xs, _ + 1, _, h, e => AllF.get (l := l) (xs := xs) h.2 e
  | [], _, _, _, _, e => by simp at e
  | _ :: _, [], _, _, h, _ => h.elim
theorem AllF.length {E : Env} : ∀ {l : List Fc} {xs : List Value}, AllF E l xs → l.length = xs.length
  | [], [], _ => rfl
  | _ :: _, _ :: _, h => congrArg (· + 1) (AllF.length h.2)
  | [], _ :: _, h => h.elim
  | _ :: _, [], h => h.elim
def AV.holds (E : Env) : AV → Value → Prop
  | .sv s, v => s.h E.M v
  | .ptr i o, v => v = .pointer (some ⟨E.β i, o, none⟩)
  | .bsl i o l c, v => v = .slice (some ⟨E.β i, o, none⟩) l c
  | .row i, v => v = E.ν i
  | .rptr i k, v => ∃ g, (E.ν i).ownBlock = some g ∧ v = .pointer (some ⟨g, k, none⟩)
  | .rsl i o l, v => ∃ g, (E.ν i).ownBlock = some g ∧ ∃ c, v = .slice (some ⟨g, o, none⟩) l c ∧ l ≤ c
  | .clo g js, v => ∃ vs : List Value, v = .func (.func g) #[] ⟨vs⟩ ∧ AllC E js vs
  | .cmp t js, v => ∃ vs : List Value, v = t.mk ⟨vs⟩ ∧ AllF E js vs
def AV.mb : AV → Nat → Prop
  | .ptr i _, j => j = i
  | .bsl i _ _ _, j => j = i
  | .clo _ js, j => Cap.box j ∈ js
  | .cmp _ js, j => Fc.box j ∈ js
  | _, _ => False
def AV.mr : AV → Nat → Prop
  | .row i, j => j = i
  | .rptr i _, j => j = i
  | .rsl i _ _, j => j = i
  | .cmp _ js, j => Fc.row j ∈ js
  | _, _ => False
theorem AllF.congr {E E' : Env} (hM : E.M.le E'.M) {js : List Fc} (hb : ∀ j, Fc.box j ∈ js → E'.β j = E.β j) (hr : ∀ j, Fc.row j ∈ js → E'.ν j = E.ν j) : ∀ (l : List Fc) (vs : List Value), (∀ c ∈ l, c ∈ js) → AllF E l vs → AllF E' l vs := by
  intro l
  induction l with
  | nil => intro vs _ h; cases vs with | nil => trivial | cons _ _ => exact h.elim
  | cons c l ih =>
    intro vs hl h
    cases vs with
    | nil => exact h.elim
    | cons x xs =>
      refine ⟨?_, ih xs (fun c hc => hl c (List.mem_cons_of_mem _ hc)) h.2⟩
      have h1 := h.1
      cases c with
      | box i => show x = _; rw [hb i (hl _ (by simp))]; exact h1
      | row i => show x = _; rw [hr i (hl _ (by simp))]; exact h1
      | val s => exact s.mono hM h1
theorem AV.holds_congr {E E' : Env} (hM : E.M.le E'.M) {x : AV} (hb : ∀ j, x.mb j → E'.β j = E.β j) (hr : ∀ j, x.mr j → E'.ν j = E.ν j) {v : Value} (h : x.holds E v) : x.holds E' v := by
  cases x with
  | sv s => exact s.mono hM h
  | ptr i o => show v = _; rw [hb i rfl]; exact h
  | bsl i o l c => show v = _; rw [hb i rfl]; exact h
  | row i => show v = _; rw [hr i rfl]; exact h
  | rptr i k => show ∃ g, _; rw [hr i rfl]; exact h
  | rsl i o l => show ∃ g, _; rw [hr i rfl]; exact h
  | clo g js =>
    obtain ⟨vs, rfl, hvs⟩ := h
    refine ⟨vs, rfl, ?_⟩
    have key : ∀ (l : List Cap) (vs : List Value), (∀ c ∈ l, c ∈ js) → AllC E l vs → AllC E' l vs := by
      intro l
      induction l with
      | nil => intro vs _ h; cases vs with | nil => trivial | cons _ _ => exact h.elim
      | cons c l ih =>
        intro vs hl h
        cases vs with
        | nil => exact h.elim
        | cons x xs =>
          refine ⟨?_, ih xs (fun c hc => hl c (List.mem_cons_of_mem _ hc)) h.2⟩
          have h1 := h.1
          cases c with
          | box i => show x = _; rw [hb i (hl _ (by simp))]; exact h1
          | val s => exact s.mono hM h1
    exact key js vs (fun _ h => h) hvs
  | cmp t js =>
    obtain ⟨vs, rfl, hvs⟩ := h
    exact ⟨vs, rfl, AllF.congr hM hb hr js vs (fun _ h => h) hvs⟩
def AllV (E : Env) : List AV → List Value → Prop
  | [], [] => True
  | s :: l, x :: xs => s.holds E x ∧ AllV E l xs
  | _, _ => False
theorem AllV.imp {E E' : Env} : ∀ {l : List AV} {xs : List Value}, (∀ x ∈ l, ∀ v, x.holds E v → x.holds E' v) → AllV E l xs → AllV E' l xs
  | [], [], _, _ => trivial
  | s :: _, _ :: _, hi, h => ⟨hi s (by simp) _ h.1, AllV.imp (fun x hx => hi x (List.mem_cons_of_mem _ hx)) h.2⟩
  | [], _ :: _, _, h => h.elim
  | _ :: _, [], _, h => h.elim
theorem AllV.length {E : Env} : ∀ {l : List AV} {xs : List Value}, AllV E l xs → l.length = xs.length
  | [], [], _ => rfl
  | _ :: _, _ :: _, h => congrArg (· + 1) (AllV.length h.2)
  | [], _ :: _, h => h.elim
  | _ :: _, [], h => h.elim
theorem AllV.get {E : Env} : ∀ {l : List AV} {xs : List Value} {i : Nat} {s : AV}, AllV E l xs → l[i]? = some s → ∃ x, xs[i]? = some x ∧ s.holds E x
  | s :: _, x :: _, 0, _, h, e => ⟨x, rfl, by cases e; exact h.1⟩
  | _ :: l, _ :: xs, _ + 1, _, h, e => AllV.get (l := l) (xs := xs) h.2 e
  | [], _, _, _, _, e => by simp at e
  | _ :: _, [], _, _, h, _ => h.elim
theorem AllV.set {E : Env} : ∀ {l : List AV} {xs : List Value} {i : Nat} {s : AV} {x : Value}, AllV E l xs → s.holds E x → AllV E (l.set i s) (xs.set i x)
  | [], [], _, _, _, _, _ => trivial
  | _ :: _, _ :: _, 0, _, _, h, hs => ⟨hs, h.2⟩
  | _ :: l, _ :: xs, _ + 1, _, _, h, hs => ⟨h.1, AllV.set (l := l) (xs := xs) h.2 hs⟩
  | [], _ :: _, _, _, _, h, _ => h.elim
  | _ :: _, [], _, _, _, h, _ => h.elim
theorem AllV.of_sv {E : Env} : ∀ {l : List SV} {xs : List Value}, SV.All E.M l xs → AllV E (l.map AV.sv) xs
  | [], [], _ => trivial
  | _ :: _, _ :: _, h => ⟨h.1, AllV.of_sv h.2⟩
  | [], _ :: _, h => h.elim
  | _ :: _, [], h => h.elim
structure Box where
  T : TypeId
  cells : List AV
structure Row where
  E : TypeId
  sz : Nat
  n : Nat
  cells : List SV
inductive RSt where
  | un
  | dead
  | live (R : Row)
structure AS where
  n : Nat
  t : Nat → AV
  b : Nat → Option Box
  r : Nat → RSt
  g : Nat
  go : Bool
def AS.set (S : AS) (d : Nat) (x : AV) : AS := { S with t := fun s => bif Nat.beq s d then x else S.t s }
def AS.setB (S : AS) (i : Nat) (B : Box) : AS := { S with b := fun j => bif Nat.beq j i then some B else S.b j }
def AS.setR (S : AS) (i : Nat) (R : RSt) : AS := { S with r := fun j => bif Nat.beq j i then R else S.r j }
def AS.setRs : List (Nat × RSt) → AS → AS
  | [], S => S
  | (i, R) :: l, S => setRs l (S.setR i R)
theorem beq_ne {s d : Nat} (h : s ≠ d) : Nat.beq s d = false := by
  cases e : Nat.beq s d with
  | false => rfl
  | true => exact absurd (Nat.eq_of_beq_eq_true e) h
theorem AS.set_same (S : AS) (d : Nat) (x : AV) : (S.set d x).t d = x := by simp [AS.set]
theorem AS.set_other (S : AS) (d s : Nat) (x : AV) (h : s ≠ d) : (S.set d x).t s = S.t s := by simp [AS.set, beq_ne h]
theorem AS.setB_same (S : AS) (d : Nat) (x : Box) : (S.setB d x).b d = some x := by simp [AS.setB]
theorem AS.setB_other (S : AS) (d s : Nat) (x : Box) (h : s ≠ d) : (S.setB d x).b s = S.b s := by simp [AS.setB, beq_ne h]
theorem AS.setR_same (S : AS) (d : Nat) (x : RSt) : (S.setR d x).r d = x := by simp [AS.setR]
theorem AS.setR_other (S : AS) (d s : Nat) (x : RSt) (h : s ≠ d) : (S.setR d x).r s = S.r s := by simp [AS.setR, beq_ne h]
structure AS.wf (S : AS) : Prop where
  tb : ∀ s j, (S.t s).mb j → ∃ B, S.b j = some B
  tr : ∀ s j, (S.t s).mr j → S.r j ≠ .un
  bb : ∀ i B, S.b i = some B → ∀ x ∈ B.cells, ∀ j, x.mb j → ∃ B', S.b j = some B'
  br : ∀ i B, S.b i = some B → ∀ x ∈ B.cells, ∀ j, x.mr j → S.r j ≠ .un
structure Ctx where
  w0 : World
  M0 : Mem
  own : Nat → Prop
  bor : Nat → Prop
  pin : Nat → Option Nat
  pinr : Nat → Option Value
  ro : Option Nat
  J : Nat → Bool → (Nat → Prop) → Mem → World → Prop
  hbo : ∀ k, bor k → own k
  hpr : ∀ i v, pinr i = some v → 1000 ≤ i
  jf : ∀ (g : Nat) (h : Bool) (O : Nat → Prop) (M M' : Mem) (w w' : World), J g h O M w → M.le M' → M'.inW w' → (∀ b o v, M' b o = some v → M b o = some v ∨ ((w0.heap.size ≤ b ∨ bor b) ∧ ¬ O b)) →
    (∀ b, (b < w0.heap.size ∧ ¬ bor b) ∨ O b → w'.heap[b]? = w.heap[b]?) → w'.os = w.os → w'.tape = w.tape → w'.output = w.output → w.heap.size ≤ w'.heap.size → J g h O M' w'
def markOf (r : Nat) : Deferred := { target := .collected r, args := #[] }
structure HoldsAt (C : Ctx) (S : AS) (E : Env) (a : Act) (w : World) : Prop where
  wf : S.wf
  marks : ∃ ds : List Nat, a.defers = ds.map markOf ∧ ds.Nodup ∧ ∀ r ∈ ds, C.w0.heap.size ≤ r ∧ ¬ E.O r ∧ w.heap[r]? = some (.deferred (some []))
  size : a.tmps.size = S.n
  os : w.os = C.w0.os
  tape : w.tape = C.w0.tape
  output : w.output = C.w0.output
  grown : C.w0.heap.size ≤ w.heap.size
  frame : ∀ k, k < C.w0.heap.size → ¬ C.own k → w.heap[k]? = C.w0.heap[k]?
  m0 : C.M0.le E.M
  mnew : ∀ b o v, E.M b o = some v → C.M0 b o = some v ∨ C.w0.heap.size ≤ b ∨ C.own b
  inW : E.M.inW w
  tm : ∀ s, (S.t s).holds E (a.tmps.getD s undef)
  bx : ∀ i B, S.b i = some B → (C.w0.heap.size ≤ E.β i ∨ C.bor (E.β i)) ∧ (∀ o, E.M (E.β i) o = none) ∧ ¬ E.O (E.β i) ∧ ∃ vs : List Value, w.heap[E.β i]? = some (.cells ⟨vs⟩ B.T (0, 0)) ∧ AllV E B.cells vs
  inj : ∀ i j B B', S.b i = some B → S.b j = some B' → E.β i = E.β j → i = j
  rx : ∀ i R, S.r i = .live R → (∃ vs : List Value, w.ownsRow 0 R.E R.sz (E.ν i) R.n vs ∧ SV.All E.M R.cells vs) ∧
    ∀ g, (E.ν i).ownBlock = some g → (C.w0.heap.size ≤ g ∨ C.bor g) ∧ (∀ o, E.M g o = none) ∧ ¬ E.O g ∧ ∀ j B, S.b j = some B → E.β j ≠ g
  rinj : ∀ i j R R', S.r i = .live R → S.r j = .live R' → ∀ g, (E.ν i).ownBlock = some g → (E.ν j).ownBlock = some g → i = j
  pin : ∀ i b, C.pin i = some b → E.β i = b
  pinr : ∀ i v, C.pinr i = some v → E.ν i = v
  olt : ∀ b, E.O b → b < w.heap.size ∧ (∀ o, E.M b o = none) ∧ (C.own b ∨ C.w0.heap.size ≤ b)
  jj : C.J S.g S.go E.O E.M w
def AS.holds (C : Ctx) (S : AS) (a : Act) (w : World) : Prop := ∃ E, HoldsAt C S E a w
def AS.ev (S : AS) : Operand → AV
  | .tmp t => S.t t
  | .const x => .sv (.v x)
  | .global g => .sv (.v (.pointer (some ⟨g, 0, none⟩)))
  | .func f => .sv (.v (.func (.func f) #[] #[]))
def okeys : Operand → List Nat
  | .tmp t => [t]
  | _ => []
theorem HoldsAt.ev {C : Ctx} {S : AS} {E : Env} {a : Act} {w : World} (h : HoldsAt C S E a w) (x : Operand) : (S.ev x).holds E (a.eval x) := by
  cases x with
  | tmp t => exact h.tm t
  | const x => exact rfl
  | global g => exact rfl
  | func f => exact rfl
theorem ev_congr {S S' : AS} {x : Operand} {rs : List Nat} (hk : ∀ s ∈ okeys x, s ∈ rs) (h : ∀ s ∈ rs, S'.t s = S.t s) : S'.ev x = S.ev x := by
  cases x with
  | tmp t => exact h t (hk t (by simp [okeys]))
  | _ => rfl
abbrev Fr (ro : Option Nat) : Fence := { fn := fun _ => True, depth := none, alive := false, round := ro }
theorem fr_calls {ro : Option Nat} {n : Nat} {P : Program} {f : FuncId} {args : Array Value} {w : World} {R : Ending → World → Prop} (h : Calls P f args w R) : CallsIn (Fr ro) n P f args w R := by
  have h1 : CallsIn Fence.wide n P f args w R := callsIn_wide.2 h
  cases ro with
  | none => exact h1
  | some l => exact h1.inRound l
def Pure (P : Program) (f : FuncId) (args : List SV) (r : SV) : Prop :=
  ∀ (M : Mem) (w : World) (vs : List Value), M.inW w → SV.All M args vs →
    Calls P f ⟨vs⟩ w fun e w' => ∃ v M', e = .returned v ∧ M.le M' ∧ (∀ b o x, M' b o = some x → M b o = some x ∨ w.heap.size ≤ b) ∧ M'.inW w' ∧ r.h M' v ∧ Below w.heap.size w w'
theorem inW_lt {M : Mem} {w : World} (h : M.inW w) {b o : Nat} {v : Value} (e : M b o = some v) : b < w.heap.size := (h b o v e).lt
theorem inW_of_same {M : Mem} {w w' : World} (h : M.inW w) (hs : ∀ b, (∃ o v, M b o = some v) → w'.heap[b]? = w.heap[b]?) : M.inW w' := fun b o v e => (h b o v e).same (hs b ⟨o, v, e⟩)
structure Eff where
  sl : Option (Nat × AV)
  bx : List (Nat × Box)
  rw : List (Nat × RSt)
def AS.setBs : List (Nat × Box) → AS → AS
  | [], S => S
  | (i, B) :: l, S => setBs l (S.setB i B)
def AS.app (S : AS) (e : Eff) : AS :=
  match e.sl with
  | some (d, x) => (AS.setRs e.rw (AS.setBs e.bx S)).set d x
  | none => AS.setRs e.rw (AS.setBs e.bx S)
def wT (e : Eff) (s : Nat) : Option AV := match e.sl with | some (d, x) => if s = d then some x else none | none => none
def lastR : List (Nat × RSt) → Nat → Option RSt
  | [], _ => none
  | (i, R) :: l, s => match lastR l s with | some x => some x | none => if s = i then some R else none
def lastB : List (Nat × Box) → Nat → Option (Option Box)
  | [], _ => none
  | (i, R) :: l, s => match lastB l s with | some x => some x | none => if s = i then some (some R) else none
theorem setRs_n : ∀ (l : List (Nat × RSt)) (S : AS), (AS.setRs l S).n = S.n ∧ (AS.setRs l S).t = S.t ∧ (AS.setRs l S).b = S.b ∧ (AS.setRs l S).g = S.g ∧ (AS.setRs l S).go = S.go
  | [], _ => ⟨rfl, rfl, rfl, rfl, rfl⟩
  | (_, _) :: l, _ => setRs_n l _
theorem setBs_n : ∀ (l : List (Nat × Box)) (S : AS), (AS.setBs l S).n = S.n ∧ (AS.setBs l S).t = S.t ∧ (AS.setBs l S).r = S.r ∧ (AS.setBs l S).g = S.g ∧ (AS.setBs l S).go = S.go
  | [], _ => ⟨rfl, rfl, rfl, rfl, rfl⟩
  | (_, _) :: l, _ => setBs_n l _
theorem setRs_r : ∀ (l : List (Nat × RSt)) (S : AS) (s : Nat), (AS.setRs l S).r s = (lastR l s).getD (S.r s)
  | [], _, _ => rfl
  | (i, R) :: l, S, s => by
    rw [AS.setRs, setRs_r l, lastR]
    cases lastR l s with
    | some x => rfl
    | none =>
      by_cases h : s = i
      · subst h; simp [AS.setR_same]
      · simp [AS.setR_other _ _ _ _ h, h]
theorem setBs_b : ∀ (l : List (Nat × Box)) (S : AS) (s : Nat), (AS.setBs l S).b s = (lastB l s).getD (S.b s)
  | [], _, _ => rfl
  | (i, R) :: l, S, s => by
    rw [AS.setBs, setBs_b l, lastB]
    cases lastB l s with
    | some x => rfl
    | none =>
      by_cases h : s = i
      · subst h; simp [AS.setB_same]
      · simp [AS.setB_other _ _ _ _ h, h]
theorem AS.app_n (S : AS) (e : Eff) : (S.app e).n = S.n := by
  obtain ⟨_ | ⟨d, x⟩, bl, l⟩ := e <;> exact (setRs_n l _).1.trans (setBs_n bl S).1
theorem AS.app_g (S : AS) (e : Eff) : (S.app e).g = S.g ∧ (S.app e).go = S.go := by
  obtain ⟨_ | ⟨d, x⟩, bl, l⟩ := e <;> exact ⟨(setRs_n l _).2.2.2.1.trans (setBs_n bl S).2.2.2.1, (setRs_n l _).2.2.2.2.trans (setBs_n bl S).2.2.2.2⟩
theorem AS.app_t (S : AS) (e : Eff) (s : Nat) : (S.app e).t s = (wT e s).getD (S.t s) := by
  obtain ⟨_ | ⟨d, x⟩, bl, l⟩ := e
  · show (AS.setRs l (AS.setBs bl S)).t s = S.t s
    rw [(setRs_n l _).2.1, (setBs_n bl S).2.1]
  · by_cases h : s = d
    · subst h; simp [AS.app, AS.set_same, wT]
    · simp only [AS.app, AS.set_other _ _ _ _ h, wT, h, if_false]
      rw [(setRs_n l _).2.1, (setBs_n bl S).2.1]; rfl
theorem AS.app_b (S : AS) (e : Eff) (s : Nat) : (S.app e).b s = (lastB e.bx s).getD (S.b s) := by
  obtain ⟨_ | ⟨d, x⟩, bl, l⟩ := e
  · show (AS.setRs l (AS.setBs bl S)).b s = _
    rw [(setRs_n l _).2.2.1, setBs_b]
  · show (AS.setRs l (AS.setBs bl S)).b s = _
    rw [(setRs_n l _).2.2.1, setBs_b]
theorem AS.app_r (S : AS) (e : Eff) (s : Nat) : (S.app e).r s = (lastR e.rw s).getD (S.r s) := by
  obtain ⟨_ | ⟨d, x⟩, bl, l⟩ := e
  · show (AS.setRs l (AS.setBs bl S)).r s = _
    rw [setRs_r, (setBs_n bl S).2.2.1]
  · show (AS.setRs l (AS.setBs bl S)).r s = _
    rw [setRs_r, (setBs_n bl S).2.2.1]
theorem AS.ext' {S S' : AS} (hn : S.n = S'.n) (ht : ∀ s, S.t s = S'.t s) (hb : ∀ s, S.b s = S'.b s) (hr : ∀ s, S.r s = S'.r s) (hg : S.g = S'.g) (hh : S.go = S'.go) : S = S' := by
  cases S; cases S'; simp only [AS.mk.injEq]; exact ⟨hn, funext ht, funext hb, funext hr, hg, hh⟩
def OpOk (P : Program) (C : Ctx) (ops : Array Oper) (o : Oper) (rs rb rr : List Nat) (S : AS) (e : Eff) : Prop :=
  ∀ S' : AS, S'.n = S.n → (∀ s ∈ rs, S'.t s = S.t s) → (∀ i ∈ rb, S'.b i = S.b i) → (∀ i ∈ rr, S'.r i = S.r i) →
    ∀ (i : Nat) (a : Act) (w : World) (K : Act → World → Prop) (Q : Exit → Act → World → Prop), ops[i]? = some o → S'.holds C a w → (∀ a' w', (S'.app e).holds C a' w' → K a' w') → wpOpIn (Fr C.ro) 0 P ops Q i K a w
def OpAny (P : Program) (C : Ctx) (ops : Array Oper) (o : Oper) (S : AS) (Post : AS → Prop) : Prop :=
  ∀ (i : Nat) (a : Act) (w : World) (K : Act → World → Prop) (Q : Exit → Act → World → Prop), ops[i]? = some o → S.holds C a w → (∀ S' a' w', Post S' → S'.holds C a' w' → K a' w') → wpOpIn (Fr C.ro) 0 P ops Q i K a w
structure Ac where
  rs : List Nat
  rb : List Nat
  rr : List Nat
  e : Eff
def RunT (P : Program) (C : Ctx) (ops : Array Oper) (nd : Bool) (K : List Ac → AS → Prop) : List Oper → List Ac → AS → Prop
  | [], acc, S => K acc S
  | o :: rest, acc, S => (∃ rs rb rr e, OpOk P C ops o rs rb rr S e ∧ RunT P C ops nd K rest (⟨rs, rb, rr, e⟩ :: acc) (S.app e)) ∨
      (nd = true ∧ ∃ Post, OpAny P C ops o S Post ∧ ∀ S', Post S' → RunT P C ops nd K rest [] S')
def Ok (P : Program) (C : Ctx) (c : Code) (S : AS) (Q : Exit → AS → Prop) : Prop :=
  ∀ a w, S.holds C a w → c.wpIn (Fr C.ro) 0 P (fun e a' w' => ∃ S' : AS, Q e S' ∧ S'.holds C a' w') a w
theorem runT_text {P : Program} {C : Ctx} {ops : Array Oper} {R : AS → Prop} {Q : Exit → Act → World → Prop}
    (hQ : ∀ S a w, R S → S.holds C a w → Q .normal a w) :
    ∀ (rest : List Oper) (k : Nat) (acc : List Ac) (S : AS) (a : Act) (w : World), ops.toList.drop k = rest → RunT P C ops true (fun _ S => R S) rest acc S → S.holds C a w → wpOpsIn (Fr C.ro) 0 P ops Q (List.range' k rest.length) a w
  | [], k, acc, S, a, w, _, h, hs => by simpa [wpOpsIn] using hQ S a w h hs
  | o :: rest, k, acc, S, a, w, hd, h, hs => by
    have hk : ops[k]? = some o := by
      have : (ops.toList.drop k)[0]? = some o := by rw [hd]; rfl
      simpa using this
    have hd' : ops.toList.drop (k + 1) = rest := by
      rw [← List.drop_drop, hd]; rfl
    rw [List.length_cons, List.range'_succ, wpOpsIn_cons]
    rcases h with ⟨rs, rb, rr, e, ho, hr⟩ | ⟨_, Post, ho, hr⟩
    · exact ho S rfl (fun _ _ => rfl) (fun _ _ => rfl) (fun _ _ => rfl) k a w _ Q hk hs (fun a' w' h' => runT_text hQ rest (k + 1) _ _ a' w' hd' hr h')
    · exact ho k a w _ Q hk hs (fun S' a' w' hp h' => runT_text hQ rest (k + 1) _ _ a' w' hd' (hr S' hp) h')
theorem ok_region {P : Program} {C : Ctx} {id : Nat} {ops : Array Oper} {S : AS} {Q : Exit → AS → Prop}
    (h : RunT P C ops true (fun _ S => Q .normal S) ops.toList [] S) : Ok P C (.region id ops false) S Q := fun a w hs => by
  refine wpIn_region ?_
  have := runT_text (Q := fun e a' w' => ∃ S' : AS, Q e S' ∧ S'.holds C a' w') (fun S a w r hs => ⟨S, r, hs⟩) ops.toList 0 [] S a w rfl h hs
  simpa [List.range_eq_range'] using this
def hits (ws rs ws' : List Nat) : Bool := ws.any fun d => rs.contains d || ws'.contains d
def Eff.ks (e : Eff) : List Nat := match e.sl with | some (d, _) => [d] | none => []
def Eff.kb (e : Eff) : List Nat := e.bx.map (·.1)
def Eff.kr (e : Eff) : List Nat := e.rw.map (·.1)
def Ac.clash (x y : Ac) : Bool :=
  hits x.e.ks y.rs y.e.ks || hits y.e.ks x.rs [] || hits x.e.kb y.rb y.e.kb || hits y.e.kb x.rb [] || hits x.e.kr y.rr y.e.kr || hits y.e.kr x.rr []
def orderOk (ops : Array Oper) (acts : List Ac) : Bool :=
  let b := Region.before ops
  (acts.length == ops.size) &&
  (ops.toList.zipIdx.all fun (o, j) => o.after.all fun e => !Region.binds .any e || decide (e.on < j)) &&
  (acts.zipIdx.all fun (y, j) => acts.zipIdx.all fun (x, i) => !(decide (i < j)) || !(x.clash y) || (b.getD j 0).testBit i)
def Down (ops : Array Oper) (L : Nat → Bool) : Prop := ∀ (j : Nat) (o : Oper), ops[j]? = some o → L j = true → ∀ e ∈ o.after, Region.binds .any e = true → L e.on = true
theorem mask_fold (acc : Array Nat) (after : List Edge) (L : Nat → Bool) (hacc : ∀ j i, (acc.getD j 0).testBit i = true → L j = true → L i = true)
    (hL : ∀ e ∈ after, Region.binds .any e = true → L e.on = true) : ∀ (s i : Nat), (s.testBit i = true → L i = true) →
      (after.foldl (fun s e => if Region.binds .any e then s ||| 2 ^ e.on ||| acc.getD e.on 0 else s) s).testBit i = true → L i = true := by
  induction after with
  | nil => intro s i hs h; exact hs h
  | cons e after ih =>
    intro s i hs h
    rw [List.foldl_cons] at h
    refine ih (fun e' he' => hL e' (List.mem_cons_of_mem _ he')) _ i ?_ h
    intro hb
    split at hb
    · rename_i hbe
      have hLe := hL e (List.mem_cons_self ..) hbe
      rw [Nat.testBit_or, Nat.testBit_or, Bool.or_eq_true, Bool.or_eq_true, Nat.testBit_two_pow] at hb
      rcases hb with (hb | hb) | hb
      · exact hs hb
      · simp only [decide_eq_true_eq] at hb; exact hb ▸ hLe
      · exact hacc _ _ hb hLe
    · exact hs hb
theorem before_down {ops : Array Oper} {L : Nat → Bool} (hL : Down ops L) : ∀ j i, ((Region.before ops).getD j 0).testBit i = true → L j = true → L i = true := by
  have key : ∀ (l : List Oper) (k : Nat) (acc : Array Nat), acc.size = k → (∀ m, l[m]? = ops[k + m]?) →
      (∀ j i, (acc.getD j 0).testBit i = true → L j = true → L i = true) →
      ∀ j i, ((l.foldl (fun acc o => acc.push (o.after.foldl (fun s e => if Region.binds .any e then s ||| 2 ^ e.on ||| acc.getD e.on 0 else s) 0)) acc).getD j 0).testBit i = true → L j = true → L i = true := by
    intro l
    induction l with
    | nil => intro k acc _ _ h; exact h
    | cons o l ih =>
      intro k acc hk hl hacc
      rw [List.foldl_cons]
      refine ih (k + 1) _ (by simp [hk]) (fun m => ?_) ?_
      · have := hl (m + 1); rw [List.getElem?_cons_succ] at this; rw [this]; congr 1; omega
      · intro j i h hj
        by_cases hjk : j = k
        · subst hjk
          have ho : ops[j]? = some o := by have := hl 0; simpa using this.symm
          rw [Array.getD_eq_getD_getElem?, ← hk, Array.getElem?_push_size, Option.getD_some, ← Array.foldl_toList] at h
          exact mask_fold acc o.after.toList L hacc (fun e he hb => hL j o ho hj e (Array.mem_toList_iff.1 he) hb) 0 i (by simp) h
        · rw [Array.getD_eq_getD_getElem?, Array.getElem?_push, if_neg (by omega), ← Array.getD_eq_getD_getElem?] at h
          exact hacc j i h hj
  intro j i h hj
  refine key ops.toList 0 #[] rfl (fun m => by simp) (by intro j i h; simp at h) j i ?_ hj
  rw [Region.before, ← Array.foldl_toList] at h
  exact h
def ov (S : AS) (acts : Nat → Eff) (L : Nat → Bool) : Nat → AS
  | 0 => S
  | k + 1 => if L k then (ov S acts L k).app (acts k) else ov S acts L k
theorem ov_n (S : AS) (acts : Nat → Eff) (L : Nat → Bool) : ∀ k, (ov S acts L k).n = S.n
  | 0 => rfl
  | k + 1 => by unfold ov; split <;> simp [AS.app_n, ov_n S acts L k]
theorem ov_congr (S : AS) (acts : Nat → Eff) {L L' : Nat → Bool} : ∀ k, (∀ i, i < k → L i = L' i) → ov S acts L k = ov S acts L' k
  | 0, _ => rfl
  | k + 1, h => by unfold ov; rw [h k (by omega), ov_congr S acts k (fun i hi => h i (by omega))]
section comp
variable {α : Type} (get : AS → Nat → α) (wr : Eff → Nat → Option α) (hget : ∀ S e s, get (S.app e) s = (wr e s).getD (get S s))
include hget
theorem ov_skip (S : AS) (acts : Nat → Eff) (L : Nat → Bool) (s i : Nat) : ∀ k, i ≤ k → (∀ m, i ≤ m → m < k → L m = true → wr (acts m) s = none) → get (ov S acts L k) s = get (ov S acts L i) s := by
  intro k
  induction k with
  | zero => intro h _; obtain rfl : i = 0 := by omega
            rfl
  | succ k ih =>
    intro h hm
    by_cases hi : i = k + 1
    · subst hi; rfl
    · have ih' := ih (by omega) (fun m h1 h2 => hm m h1 (by omega))
      rw [← ih']
      show get (if L k then (ov S acts L k).app (acts k) else ov S acts L k) s = _
      split
      · rename_i hl
        rw [hget, hm k (by omega) (by omega) hl]; rfl
      · rfl
theorem ov_agree (S : AS) (acts : Nat → Eff) (L L' : Nat → Bool) (s : Nat) : ∀ k, (∀ m, m < k → wr (acts m) s ≠ none → L m = L' m) → get (ov S acts L k) s = get (ov S acts L' k) s := by
  intro k
  induction k with
  | zero => intro _; rfl
  | succ k ih =>
    intro hm
    have ih' := ih (fun m h => hm m (by omega))
    have one : ∀ M : Nat → Bool, get (ov S acts M (k + 1)) s = if M k = true then (wr (acts k) s).getD (get (ov S acts M k) s) else get (ov S acts M k) s := by
      intro M
      show get (if M k then (ov S acts M k).app (acts k) else ov S acts M k) s = _
      split
      · rw [hget]
      · rfl
    rw [one, one, ih']
    cases hsl : wr (acts k) s with
    | none => simp
    | some x => rw [hm k (by omega) (by rw [hsl]; simp)]
end comp
theorem wT_key {e : Eff} {s : Nat} (h : wT e s ≠ none) : s ∈ e.ks := by
  unfold wT at h; unfold Eff.ks
  split at h
  · split at h
    · subst_vars; simp
    · exact absurd rfl h
  · exact absurd rfl h
theorem lastB_key : ∀ {l : List (Nat × Box)} {s : Nat}, lastB l s ≠ none → s ∈ l.map (·.1)
  | [], _, h => absurd rfl h
  | (i, R) :: l, s, h => by
    rw [lastB] at h
    cases e : lastB l s with
    | some x => exact List.mem_cons_of_mem _ (lastB_key (by rw [e]; simp))
    | none =>
      rw [e] at h
      by_cases hs : s = i
      · subst hs; simp
      · simp [hs] at h
theorem lastR_key : ∀ {l : List (Nat × RSt)} {s : Nat}, lastR l s ≠ none → s ∈ l.map (·.1)
  | [], _, h => absurd rfl h
  | (i, R) :: l, s, h => by
    rw [lastR] at h
    cases e : lastR l s with
    | some x => exact List.mem_cons_of_mem _ (lastR_key (by rw [e]; simp))
    | none =>
      rw [e] at h
      by_cases hs : s = i
      · subst hs; simp
      · simp [hs] at h
theorem hits_false {ws rs ws' : List Nat} (h : hits ws rs ws' = false) : ∀ d ∈ ws, d ∉ rs ∧ d ∉ ws' := by
  intro d hd
  simp only [hits, List.any_eq_false, Bool.or_eq_true, not_or] at h
  have := h d hd
  simpa using this
section drawn
variable {P : Program} {C : Ctx} {ops : Array Oper} {acts : List Ac} {S : AS}
def effOf (acts : List Ac) (i : Nat) : Eff := ((acts[i]?).map (·.e)).getD ⟨none, [], []⟩
def TextOk (P : Program) (C : Ctx) (ops : Array Oper) (acts : List Ac) (S : AS) : Prop :=
  ∀ (i : Nat) (o : Oper) (x : Ac), ops[i]? = some o → acts[i]? = some x → OpOk P C ops o x.rs x.rb x.rr (ov S (effOf acts) (fun _ => true) i) x.e
def unl (n : Nat) (listed : Array Bool) : Nat := ((List.range n).filter fun i => !listed.getD i true).length
theorem filter_length_lt {p q : Nat → Bool} : ∀ (l : List Nat) (i : Nat), i ∈ l → (∀ j, q j = true → p j = true) → p i = true → q i = false → (l.filter q).length < (l.filter p).length
  | [], _, h, _, _, _ => by simp at h
  | x :: l, i, h, hpq, hp, hq => by
    have hle : ∀ l : List Nat, (l.filter q).length ≤ (l.filter p).length := by
      intro l
      induction l with
      | nil => simp
      | cons y l ih =>
        rw [List.filter_cons, List.filter_cons]
        cases hqy : q y with
        | false => cases hpy : p y <;> simp <;> omega
        | true => simp [hpq y hqy]; omega
    rw [List.filter_cons, List.filter_cons]
    rcases List.mem_cons.1 h with rfl | h'
    · rw [hp, hq]; have := hle l; simp; omega
    · have ih := filter_length_lt l i h' hpq hp hq
      cases hqy : q x with
      | false => cases hpy : p x <;> simp <;> omega
      | true => simp [hpq x hqy]; omega
theorem unl_lt {n i : Nat} {listed : Array Bool} (hi : i < n) (hsz : listed.size = n) (h : listed.getD i true = false) : unl n (listed.setIfInBounds i true) < unl n listed := by
  refine filter_length_lt (List.range n) i (List.mem_range.2 hi) (fun j hj => ?_) (by simp [h]) ?_
  · rw [Bool.not_eq_true'] at hj ⊢
    rw [Array.getD_eq_getD_getElem?, Array.getElem?_setIfInBounds] at hj
    split at hj
    · split at hj <;> simp at hj
    · rw [Array.getD_eq_getD_getElem?]; exact hj
  · simp [Array.getD_eq_getD_getElem?, hsz, hi]
theorem orderOk_parts (h : orderOk ops acts = true) : acts.length = ops.size ∧
    (∀ (j : Nat) (o : Oper), ops[j]? = some o → ∀ e ∈ o.after, Region.binds .any e = true → e.on < j) ∧
    (∀ (i j : Nat) (x y : Ac), acts[i]? = some x → acts[j]? = some y → i < j → x.clash y = true → ((Region.before ops).getD j 0).testBit i = true) := by
  simp only [orderOk, Bool.and_eq_true, beq_iff_eq, List.all_eq_true] at h
  obtain ⟨⟨h1, h2⟩, h3⟩ := h
  refine ⟨h1, ?_, ?_⟩
  · intro j o ho e he hb
    have := h2 (o, j) (List.mem_zipIdx_iff_getElem?.2 (by simpa using ho))
    simp only [Array.all_eq_true_iff_forall_mem] at this
    have := this e he
    simpa [hb] using this
  · intro i j x y hx hy hij hc
    have := h3 (y, j) (List.mem_zipIdx_iff_getElem?.2 (by simpa using hy)) (x, i) (List.mem_zipIdx_iff_getElem?.2 (by simpa using hx))
    simpa [hij, hc] using this
theorem wpAnyIn_every (hT : TextOk P C ops acts S) (hord : orderOk ops acts = true) {Q : Exit → Act → World → Prop}
    (hQ : ∀ a w, (ov S (effOf acts) (fun _ => true) ops.size).holds C a w → Q .normal a w) :
    ∀ (fuel : Nat) (listed : Array Bool) (a : Act) (w : World), listed.size = ops.size → unl ops.size listed ≤ fuel → Down ops (fun i => listed.getD i false) →
      (ov S (effOf acts) (fun i => listed.getD i false) ops.size).holds C a w → wpAnyIn (Fr C.ro) 0 P .any ops Q fuel listed a w := by
  obtain ⟨hlen, hback, hclash⟩ := orderOk_parts hord
  have getD_ft : ∀ (listed : Array Bool) (i : Nat), listed.size = ops.size → i < ops.size → listed.getD i true = listed.getD i false := by
    intro listed i hs hi
    rw [Array.getD_eq_getD_getElem?, Array.getD_eq_getD_getElem?]
    rw [Array.getElem?_eq_getElem (by omega)]; rfl
  have done : ∀ (listed : Array Bool), listed.size = ops.size → Region.ready .any ops listed = [] → ∀ i, i < ops.size → listed.getD i false = true := by
    intro listed hs hr i
    induction i using Nat.strongRecOn with
    | _ i ih =>
      intro hi
      cases hli : listed.getD i false with
      | true => rfl
      | false =>
        exfalso
        have : i ∈ Region.ready .any ops listed := by
          simp only [Region.ready, List.mem_filter, List.mem_range]
          refine ⟨hi, ?_⟩
          rw [getD_ft listed i hs hi, hli, Array.getElem?_eq_getElem hi]
          simp only [Bool.not_false, Bool.true_and, Option.map_some, Option.getD_some, Array.all_eq_true_iff_forall_mem]
          intro e he
          cases hb : Region.binds .any e with
          | false => rfl
          | true =>
            have hlt := hback i ops[i] (Array.getElem?_eq_getElem hi) e he hb
            rw [ih e.on hlt (by omega)]; rfl
        rw [hr] at this
        simp at this
  intro fuel
  induction fuel with
  | zero =>
    intro listed a w hs hu hD hh
    have hall : ∀ i, i < ops.size → listed.getD i false = true := by
      intro i hi
      cases hli : listed.getD i false with
      | true => rfl
      | false =>
        exfalso
        have hm : i ∈ (List.range ops.size).filter fun i => !listed.getD i true := by
          rw [List.mem_filter]; exact ⟨List.mem_range.2 hi, by rw [getD_ft listed i hs hi, hli]; rfl⟩
        have : 0 < unl ops.size listed := List.length_pos_of_mem hm
        omega
    refine ⟨?_, ?_⟩
    · simp only [Region.ready, List.filter_eq_nil_iff, List.mem_range]
      intro i hi
      rw [getD_ft listed i hs hi, hall i hi]; simp
    · refine hQ a w ?_
      rwa [ov_congr S (effOf acts) (L := fun i => listed.getD i false) (L' := fun _ => true) ops.size hall] at hh
  | succ fuel ih =>
    intro listed a w hs hu hD hh
    refine ⟨fun hr => ?_, fun i hi => ?_⟩
    · refine hQ a w ?_
      rwa [ov_congr S (effOf acts) (L := fun i => listed.getD i false) (L' := fun _ => true) ops.size (done listed hs hr)] at hh
    · simp only [Region.ready, List.mem_filter, List.mem_range, Bool.and_eq_true, Bool.not_eq_true'] at hi
      obtain ⟨hi, hli, hpre⟩ := hi
      have hli' : listed.getD i false = false := by rw [← getD_ft listed i hs hi]; exact hli
      have ho : ops[i]? = some ops[i] := Array.getElem?_eq_getElem hi
      have hpre' : ∀ e ∈ ops[i].after, Region.binds .any e = true → listed.getD e.on false = true := by
        rw [ho] at hpre
        simp only [Option.map_some, Option.getD_some, Array.all_eq_true_iff_forall_mem] at hpre
        intro e he hb
        have := hpre e he
        simpa [hb] using this
      have hia : i < acts.length := by omega
      have hx : acts[i]? = some acts[i] := List.getElem?_eq_getElem hia
      have effi : effOf acts i = acts[i].e := by simp [effOf, hia]
      have hget : ∀ m, (listed.setIfInBounds i true).getD m false = if m = i then true else listed.getD m false := by
        intro m
        rw [Array.getD_eq_getD_getElem?, Array.getElem?_setIfInBounds]
        by_cases hm : m = i
        · subst hm; simp [hs, hi]
        · rw [if_neg (by omega), if_neg hm, Array.getD_eq_getD_getElem?]
      have hD' : Down ops (fun m => (listed.setIfInBounds i true).getD m false) := by
        intro j o hj hl e he hb
        simp only [hget] at hl ⊢
        by_cases hji : j = i
        · subst hji
          have : o = ops[j] := by rw [ho] at hj; exact (Option.some.inj hj).symm
          subst this
          have := hpre' e he hb
          split <;> simp_all
        · rw [if_neg hji] at hl
          have := hD j o hj hl e he hb
          split <;> simp_all
      have later : ∀ k, i < k → listed.getD k false = true → (acts[i]).clash ((acts[k]?).getD ⟨[], [], [], ⟨none, [], []⟩⟩) = false := by
        intro k hk hlk
        have hkn : k < ops.size := by
          rcases Nat.lt_or_ge k ops.size with h | h
          · exact h
          · rw [Array.getD_eq_getD_getElem?, Array.getElem?_eq_none (by omega)] at hlk; simp at hlk
        have hka : acts[k]? = some acts[k] := List.getElem?_eq_getElem (by omega)
        rw [hka, Option.getD_some]
        cases hc : (acts[i]).clash acts[k] with
        | false => rfl
        | true =>
          have hb := hclash i k _ _ hx hka hk hc
          have := before_down hD k i hb hlk
          simp only [hli'] at this
          exact absurd this (by simp)
      have earlier : ∀ k, k < i → listed.getD k false = false → ((acts[k]?).getD ⟨[], [], [], ⟨none, [], []⟩⟩).clash acts[i] = false := by
        intro k hk hlk
        have hka : acts[k]? = some acts[k] := List.getElem?_eq_getElem (by omega)
        rw [hka, Option.getD_some]
        cases hc : (acts[k]).clash acts[i] with
        | false => rfl
        | true =>
          have hb := hclash k i _ _ hka hx hk hc
          have := before_down hD' i k hb (by simp [hget])
          rw [hget, if_neg (by omega), hlk] at this
          exact absurd this (by simp)
      have effk : ∀ k, ((acts[k]?).getD ⟨[], [], [], ⟨none, [], []⟩⟩).e = effOf acts k := by
        intro k; unfold effOf; cases acts[k]? <;> rfl
      have noclash : ∀ {x y : Ac}, x.clash y = false → (∀ d ∈ x.e.ks, d ∉ y.rs ∧ d ∉ y.e.ks) ∧ (∀ d ∈ y.e.ks, d ∉ x.rs) ∧ (∀ d ∈ x.e.kb, d ∉ y.rb ∧ d ∉ y.e.kb) ∧ (∀ d ∈ y.e.kb, d ∉ x.rb) ∧ (∀ d ∈ x.e.kr, d ∉ y.rr ∧ d ∉ y.e.kr) ∧ (∀ d ∈ y.e.kr, d ∉ x.rr) := by
        intro x y h
        simp only [Ac.clash, Bool.or_eq_false_iff] at h
        exact ⟨hits_false h.1.1.1.1.1, fun d hd => (hits_false h.1.1.1.1.2 d hd).1, hits_false h.1.1.1.2, fun d hd => (hits_false h.1.1.2 d hd).1, hits_false h.1.2, fun d hd => (hits_false h.2 d hd).1⟩
      have look : ∀ {α : Type} (get : AS → Nat → α) (wr : Eff → Nat → Option α) (hget : ∀ S e s, get (S.app e) s = (wr e s).getD (get S s)) (rk : Ac → List Nat) (wk : Eff → List Nat)
          (hk : ∀ e s, wr e s ≠ none → s ∈ wk e) (c1 : ∀ x y : Ac, x.clash y = false → (∀ d ∈ wk x.e, d ∉ rk y) ∧ (∀ d ∈ wk y.e, d ∉ rk x)), ∀ s ∈ rk acts[i],
          get (ov S (effOf acts) (fun m => listed.getD m false) ops.size) s = get (ov S (effOf acts) (fun _ => true) i) s := by
        intro α get wr hget rk wk hk c1 s hsr
        rw [ov_skip get wr hget S (effOf acts) _ s i ops.size (by omega)]
        · refine ov_agree get wr hget S (effOf acts) _ _ s i fun m hm hw => ?_
          cases hlm : listed.getD m false with
          | true => rfl
          | false =>
            have := (c1 _ _ (earlier m hm hlm)).1 s (by rw [effk]; exact hk _ _ hw)
            exact absurd hsr this
        · intro m hm1 hm2 hlm
          cases hw : wr (effOf acts m) s with
          | none => rfl
          | some x =>
            exfalso
            rcases Nat.lt_or_ge i m with h | h
            · have := (c1 _ _ (later m h hlm)).2 s (by rw [effk]; exact hk _ _ (by rw [hw]; simp))
              exact this hsr
            · obtain rfl : m = i := by omega
              simp only [hli'] at hlm
              exact absurd hlm (by simp)
      refine hT i ops[i] acts[i] ho hx (ov S (effOf acts) (fun m => listed.getD m false) ops.size) (by rw [ov_n, ov_n]) ?_ ?_ ?_ i a w _ Q ho hh ?_
      · exact look AS.t wT AS.app_t Ac.rs Eff.ks (fun _ _ h => wT_key h) (fun x y h => ⟨fun d hd => ((noclash h).1 d hd).1, (noclash h).2.1⟩)
      · exact look AS.b (fun e => lastB e.bx) AS.app_b Ac.rb Eff.kb (fun _ _ h => lastB_key h) (fun x y h => ⟨fun d hd => ((noclash h).2.2.1 d hd).1, (noclash h).2.2.2.1⟩)
      · exact look AS.r (fun e => lastR e.rw) AS.app_r Ac.rr Eff.kr (fun _ _ h => lastR_key h) (fun x y h => ⟨fun d hd => ((noclash h).2.2.2.2.1 d hd).1, (noclash h).2.2.2.2.2⟩)
      · intro a' w' hh'
        refine ih (listed.setIfInBounds i true) a' w' (by simp [hs]) ?_ hD' ?_
        · have := unl_lt hi hs hli
          omega
        ·
          have heq : ov S (effOf acts) (fun m => (listed.setIfInBounds i true).getD m false) ops.size = (ov S (effOf acts) (fun m => listed.getD m false) ops.size).app acts[i].e := by
            have hsm : ∀ k, k ≤ i → ov S (effOf acts) (fun m => (listed.setIfInBounds i true).getD m false) k = ov S (effOf acts) (fun m => listed.getD m false) k := fun k hk =>
              ov_congr S (effOf acts) k (fun m hm => by rw [hget, if_neg (by omega)])
            have step : ∀ k, i < k → k ≤ ops.size → ov S (effOf acts) (fun m => (listed.setIfInBounds i true).getD m false) k = (ov S (effOf acts) (fun m => listed.getD m false) k).app acts[i].e := by
              intro k hk hkn
              induction k with
              | zero => omega
              | succ k ihk =>
                by_cases hki : k = i
                · subst hki
                  show (if (listed.setIfInBounds k true).getD k false then _ else _) = AS.app (if listed.getD k false then _ else _) _
                  rw [hget, if_pos rfl, if_pos rfl, hli', hsm k (Nat.le_refl _), effi]
                  rfl
                · have ih2 := ihk (by omega) (by omega)
                  show (if (listed.setIfInBounds i true).getD k false then (ov S (effOf acts) (fun m => (listed.setIfInBounds i true).getD m false) k).app (effOf acts k) else ov S (effOf acts) (fun m => (listed.setIfInBounds i true).getD m false) k) = AS.app (if listed.getD k false then (ov S (effOf acts) (fun m => listed.getD m false) k).app (effOf acts k) else ov S (effOf acts) (fun m => listed.getD m false) k) _
                  rw [hget, if_neg hki, ih2]
                  cases hlk : listed.getD k false with
                  | false => rfl
                  | true =>
                    rw [if_pos rfl, if_pos rfl]
                    have hc := noclash (later k (by omega) hlk)
                    rw [effk] at hc
                    have two : ∀ {α : Type} (get : AS → Nat → α) (wr : Eff → Nat → Option α) (hget : ∀ S e s, get (S.app e) s = (wr e s).getD (get S s)) (wk : Eff → List Nat) (hk : ∀ e s, wr e s ≠ none → s ∈ wk e)
                        (c1 : ∀ d ∈ wk acts[i].e, d ∉ wk (effOf acts k)) (T : AS) (s : Nat), get ((T.app acts[i].e).app (effOf acts k)) s = get ((T.app (effOf acts k)).app acts[i].e) s := by
                      intro α get wr hget wk hk c1 T s
                      rw [hget, hget, hget, hget]
                      cases h1 : wr acts[i].e s with
                      | none => rfl
                      | some x =>
                        cases h2 : wr (effOf acts k) s with
                        | none => rfl
                        | some y => exact absurd (hk _ s (by rw [h2]; simp)) (c1 s (hk _ s (by rw [h1]; simp)))
                    refine AS.ext' (by simp [AS.app_n]) (fun s => ?_) (fun s => ?_) (fun s => ?_) (by simp [AS.app_g]) (by simp [AS.app_g])
                    · exact two AS.t wT AS.app_t Eff.ks (fun _ _ h => wT_key h) (fun d hd => (hc.1 d hd).2) _ s
                    · exact two AS.b (fun e => lastB e.bx) AS.app_b Eff.kb (fun _ _ h => lastB_key h) (fun d hd => (hc.2.2.1 d hd).2) _ s
                    · exact two AS.r (fun e => lastR e.rw) AS.app_r Eff.kr (fun _ _ h => lastR_key h) (fun d hd => (hc.2.2.2.2.1 d hd).2) _ s
            exact step ops.size hi (Nat.le_refl _)
          rw [heq]; exact hh'
end drawn
theorem ov_cons (S : AS) (x : Ac) (xs : List Ac) : ∀ i, ov S (effOf (x :: xs)) (fun _ => true) (i + 1) = ov (S.app x.e) (effOf xs) (fun _ => true) i
  | 0 => rfl
  | i + 1 => by
    have ih := ov_cons S x xs i
    show (ov S (effOf (x :: xs)) (fun _ => true) (i + 1)).app (effOf (x :: xs) (i + 1)) = (ov (S.app x.e) (effOf xs) (fun _ => true) i).app (effOf xs i)
    rw [ih]; rfl
theorem runT_list {P : Program} {C : Ctx} {ops : Array Oper} {K : List Ac → AS → Prop} : ∀ (rest : List Oper) (acc : List Ac) (S : AS), RunT P C ops false K rest acc S →
    ∃ xs : List Ac, xs.length = rest.length ∧ (∀ (i : Nat) (o : Oper) (x : Ac), rest[i]? = some o → xs[i]? = some x → OpOk P C ops o x.rs x.rb x.rr (ov S (effOf xs) (fun _ => true) i) x.e) ∧
      K (xs.reverse ++ acc) (ov S (effOf xs) (fun _ => true) rest.length)
  | [], acc, S, h => ⟨[], rfl, by simp, h⟩
  | o :: rest, acc, S, h => by
    rcases h with ⟨rs, rb, rr, e, ho, hr⟩ | ⟨h, _⟩
    case inr => cases h
    obtain ⟨xs, hl, hxs, hK⟩ := runT_list rest _ _ hr
    refine ⟨⟨rs, rb, rr, e⟩ :: xs, by simp [hl], ?_, ?_⟩
    · intro i o' x hi hx
      cases i with
      | zero => simp at hi hx; subst hi; subst hx; exact ho
      | succ i =>
        rw [ov_cons]
        exact hxs i o' x (by simpa using hi) (by simpa using hx)
    · rw [List.length_cons, ov_cons, List.reverse_cons, List.append_assoc]; exact hK
theorem HoldsAt.drew {C : Ctx} {S : AS} {E : Env} {a : Act} {w : World} (h : HoldsAt C S E a w) : HoldsAt C S E a w.drew :=
  ⟨h.wf, h.marks, h.size, h.os, h.tape, h.output, h.grown, h.frame, h.m0, h.mnew, h.inW, h.tm, h.bx, h.inj, h.rx, h.rinj, h.pin, h.pinr, h.olt,
    C.jf _ _ _ _ _ _ _ h.jj (Mem.le_refl _) h.inW (fun _ _ _ e => .inl e) (fun _ _ => rfl) rfl rfl rfl (Nat.le_refl _)⟩
theorem AS.holds.drew {C : Ctx} {S : AS} {a : Act} {w : World} (h : S.holds C a w) : S.holds C a w.drew := by
  obtain ⟨E, h⟩ := h; exact ⟨E, h.drew⟩
theorem ok_region_draw {P : Program} {C : Ctx} {id : Nat} {ops : Array Oper} {S : AS} {Q : Exit → AS → Prop} (hm : P.follows .mixedOrders = true)
    (h : RunT P C ops false (fun acc S => orderOk ops acc.reverse = true ∧ Q .normal S) ops.toList [] S) : Ok P C (.region id ops true) S Q := fun a w hs => by
  obtain ⟨xs, hl, hxs, hord, hq⟩ := runT_list _ _ _ h
  rw [List.append_nil, List.reverse_reverse] at hord
  refine wpIn_region_any hm ?_
  refine wpAnyIn_every (acts := xs) (S := S) (fun i o x ho hx => hxs i o x (by simpa using ho) hx) hord (fun a w hh => ⟨_, hq, by simpa using hh⟩) ops.size _ a _ (by simp) ?_ ?_ ?_
  · have := List.length_filter_le (fun i => !(Array.replicate ops.size false).getD i true) (List.range ops.size)
    simpa [unl] using this
  · intro j o _ hj
    exfalso
    simp only [Array.getD_eq_getD_getElem?, Array.getElem?_replicate] at hj
    split at hj <;> simp at hj
  · rw [ov_congr S (effOf xs) (L' := fun _ => false) ops.size (fun i hi => by rw [Array.getD_eq_getD_getElem?, Array.getElem?_replicate, if_pos hi]; rfl)]
    have : ∀ k, ov S (effOf xs) (fun _ => false) k = S := by
      intro k; induction k with
      | zero => rfl
      | succ k ih => simpa [ov] using ih
    rw [this]
    exact hs.drew
def AThen (next : AS → Prop) (Q : Exit → AS → Prop) : Exit → AS → Prop
  | .normal, S => next S
  | e, S => Q e S
def AInB (id : Nat) (Q : Exit → AS → Prop) : Exit → AS → Prop
  | .exit id', S => if id' = id then Q .normal S else Q (.exit id') S
  | e, S => Q e S
section control
variable {P : Program} {C : Ctx} {S : AS} {Q : Exit → AS → Prop}
theorem AThen.n {next : AS → Prop} (h : next S) : AThen next Q .normal S := h
theorem AThen.r {next : AS → Prop} (h : Q .ret S) : AThen next Q .ret S := h
theorem AThen.x {next : AS → Prop} {id : Nat} (h : Q (.exit id) S) : AThen next Q (.exit id) S := h
theorem AInB.n {id : Nat} (h : Q .normal S) : AInB id Q .normal S := h
theorem AInB.r {id : Nat} (h : Q .ret S) : AInB id Q .ret S := h
theorem AInB.x {id : Nat} (h : Q .normal S) : AInB id Q (.exit id) S := by simp only [AInB, if_true]; exact h
theorem AInB.y {id id' : Nat} (hne : id' ≠ id) (h : Q (.exit id') S) : AInB id Q (.exit id') S := by simp only [AInB, if_neg hne]; exact h
theorem ok_mono {c : Code} {Q' : Exit → AS → Prop} (h : Ok P C c S Q) (hq : ∀ e S, Q e S → Q' e S) : Ok P C c S Q' := fun a w hs =>
  wpIn_mono (h a w hs) fun _ _ _ ⟨S', q, hh⟩ => ⟨S', hq _ _ q, hh⟩
theorem ok_seq {x y : Code} (h : Ok P C x S (AThen (fun S' => Ok P C y S' Q) Q)) : Ok P C (.seq x y) S Q := fun a w hs => by
  refine wpIn_seq (wpIn_mono (h a w hs) ?_)
  rintro e a' w' ⟨S', q, hh⟩
  cases e <;> first | exact q a' w' hh | exact ⟨S', q, hh⟩
theorem ok_skip (h : Q .normal S) : Ok P C .skip S Q := fun _ _ hs => wpIn_skip ⟨S, h, hs⟩
theorem ok_ret (h : Q .ret S) : Ok P C .ret S Q := fun _ _ hs => wpIn_ret ⟨S, h, hs⟩
theorem ok_exit {id : Nat} (h : Q (.exit id) S) : Ok P C (.exit id) S Q := fun _ _ hs => wpIn_exit ⟨S, h, hs⟩
theorem ok_cond {c : Operand} {x y : Code} {t : Bool} (hc : S.ev c = .sv (.v (.bool t))) (ht : t = true → Ok P C x S Q) (hf : t = false → Ok P C y S Q) : Ok P C (.cond c x y) S Q := fun a w hs => by
  obtain ⟨E, h⟩ := hs
  have he : a.eval c = .bool t := by have := h.ev c; rw [hc] at this; exact this
  exact wpIn_cond_split he (fun e => ht e a w ⟨E, h⟩) (fun e => hf e a w ⟨E, h⟩)
theorem ok_condT {c : Operand} {x y : Code} (hc : S.ev c = .sv (.v (.bool true))) (ht : Ok P C x S Q) : Ok P C (.cond c x y) S Q := ok_cond hc (fun _ => ht) (fun h => by cases h)
theorem ok_condF {c : Operand} {x y : Code} (hc : S.ev c = .sv (.v (.bool false))) (hf : Ok P C y S Q) : Ok P C (.cond c x y) S Q := ok_cond hc (fun h => by cases h) (fun _ => hf)
theorem ok_block {id : Nat} {c : Code} (h : Ok P C c S (AInB id Q)) : Ok P C (.block id c) S Q := fun a w hs => by
  refine wpIn_block (wpIn_mono (h a w hs) ?_)
  rintro e a' w' ⟨S', q, hh⟩
  cases e with
  | exit id' =>
    simp only [AInB, Exit.inBlock] at *
    split at q <;> rename_i hid
    · rw [if_pos hid]; exact ⟨S', q, hh⟩
    · rw [if_neg hid]; exact ⟨S', q, hh⟩
  | _ => exact ⟨S', q, hh⟩
def Weak (S S' : AS) : Prop := ∀ (C : Ctx) (a : Act) (w : World), S.holds C a w → S'.holds C a w
theorem ok_weak {c : Code} {S' : AS} (hw : Weak S S') (h : Ok P C c S' Q) : Ok P C c S Q := fun a w hs => h a w (hw C a w hs)
theorem wpIn_loop_ghost {F : Fence} {n : Nat} {Q : Exit → Act → World → Prop} {a : Act} {w : World} {c : Code} (I : Nat → Act → World → Prop) (n₀ : Nat) (h₀ : I n₀ a w)
    (round : ∀ m a w, I m a w → c.wpIn F n P (Exit.then (fun a' w' => ∃ m', m' < m ∧ I m' a' w') Q) a w) : (Code.loop c).wpIn F n P Q a w := by
  refine wpIn_loop (fun a w => ∃ n, I n a w) (fun a w => leastOf (fun n => I n a w)) ⟨n₀, h₀⟩ ?_
  intro a w hI
  refine wpIn_mono (round _ a w (leastOf_spec hI).1) ?_
  intro e a' w' hq
  cases e with
  | normal =>
    obtain ⟨n', hlt, hI'⟩ := hq
    exact show (∃ n, I n a' w') ∧ leastOf (fun n => I n a' w') < leastOf (fun n => I n a w) from ⟨⟨n', hI'⟩, Nat.lt_of_le_of_lt ((leastOf_spec ⟨n', hI'⟩).2 n' hI') hlt⟩
  | _ => exact hq
theorem ok_loop {ι : Type} {c : Code} (I : ι → AS) (μ : ι → Nat) (x0 : ι) (h0 : Weak S (I x0))
    (round : ∀ x, Ok P C c (I x) (AThen (fun S' => ∃ y, μ y < μ x ∧ Weak S' (I y)) Q)) : Ok P C (.loop c) S Q := fun a w hs => by
  refine wpIn_loop_ghost (fun n a w => ∃ x, μ x = n ∧ (I x).holds C a w) (μ x0) ⟨x0, rfl, h0 C a w hs⟩ ?_
  rintro n a w ⟨x, rfl, hx⟩
  refine wpIn_mono (round x a w hx) ?_
  rintro e a' w' ⟨S', q, hh⟩
  cases e with
  | normal => obtain ⟨y, hy, hwk⟩ := q; exact ⟨μ y, hy, y, rfl, hwk C a' w' hh⟩
  | _ => exact ⟨S', q, hh⟩
end control
end Go.Fw
namespace Go.Fw
open Go.RowKit
class TyInt (P : Program) (T : TypeId) (k : outParam IntKind) : Prop where
  h : P.underlying T = some (.int k)
class TyBool (P : Program) (T : TypeId) : Prop where
  h : P.underlying T = some .bool
class TyStr (P : Program) (T : TypeId) : Prop where
  h : P.underlying T = some .string
class TyA (P : Program) (T : TypeId) (n : outParam Nat) : Prop where
  u : (match P.underlying T with | some (.struct _) | some (.array _ _) => true | _ => false) = true
  s : (P.info? T).map (·.size) = some n
class TyV (P : Program) (T : TypeId) : Prop where
  u : (match P.underlying T with | some (.struct _) | some (.array _ _) | none => false | _ => true) = true
  s : (P.info? T).map (·.size) = some 1
class TyZero (P : Program) (T : TypeId) (z : outParam Value) : Prop where
  h : (P.info? T).bind (·.zero) = some z
class TySl (P : Program) (T : TypeId) (E : outParam TypeId) (n : outParam Nat) : Prop where
  u : P.underlying T = some (.slice E)
  s : (P.info? E).map (·.size) = some n
class Fld (P : Program) (T : TypeId) (f : Nat) (off : outParam Nat) (U : outParam TypeId) : Prop where
  h : (match P.underlying T with | some (.struct fs) => (fs[f]?).map fun F => (F.offset, F.type) | _ => none) = some (off, U)
class Ent (P : Program) (f : FuncId) : Prop where
  h : ((P.funcs[f]?).map fun fn => (fn.name == "runtime.NumGoroutine", fn.body.isNone)) = some (false, false)
theorem Ent.run {P : Program} {f : FuncId} [e : Ent P f] (args : Array Value) (w : World) : (callFunc f args).run P w = .ok (.enter f args) w := by
  have h := e.h
  cases hf : P.funcs[f]? with
  | none => rw [hf] at h; simp at h
  | some fn =>
    rw [hf] at h
    simp only [Option.map_some, Option.some.injEq, Prod.mk.injEq] at h
    have h1 : fn.name ≠ "runtime.NumGoroutine" := by simpa using h.1
    have h2 : ¬ fn.body = none := by have := h.2; intro e; rw [e] at this; simp at this
    simp [callFunc, hf, h1, h2]
theorem TyA.isAgg {P : Program} {T : TypeId} {n : Nat} [t : TyA P T n] (w : World) : (isAgg T).run P w = .ok true w := by
  have h := t.u
  unfold Go.isAgg underlying
  cases hu : P.underlying T with
  | none => rw [hu] at h; simp at h
  | some u => rw [hu] at h; cases u <;> simp [hu] at h ⊢
theorem TyA.size {P : Program} {T : TypeId} {n : Nat} [t : TyA P T n] (w : World) : (sizeOf T).run P w = .ok n w := by
  have h := t.s
  unfold Go.sizeOf typeInfo
  cases hi : P.info? T with
  | none => rw [hi] at h; simp at h
  | some i => rw [hi] at h; simp at h; simp [hi, h]
theorem TyV.isAgg {P : Program} {T : TypeId} [t : TyV P T] (w : World) : (isAgg T).run P w = .ok false w := by
  have h := t.u
  unfold Go.isAgg underlying
  cases hu : P.underlying T with
  | none => rw [hu] at h; simp at h
  | some u => rw [hu] at h; cases u <;> simp [hu] at h ⊢
theorem TyV.size {P : Program} {T : TypeId} [t : TyV P T] (w : World) : (sizeOf T).run P w = .ok 1 w := by
  have h := t.s
  unfold Go.sizeOf typeInfo
  cases hi : P.info? T with
  | none => rw [hi] at h; simp at h
  | some i => rw [hi] at h; simp at h; simp [hi, h]
theorem TyZero.run {P : Program} {T : TypeId} {z : Value} [t : TyZero P T z] (w : World) : (zeroValue T).run P w = .ok z w := by
  have h := t.h
  unfold Go.zeroValue typeInfo
  cases hi : P.info? T with
  | none => rw [hi] at h; simp at h
  | some i => rw [hi] at h; simp at h; simp [hi, h]
theorem TySl.size {P : Program} {T E : TypeId} {n : Nat} [t : TySl P T E n] (w : World) : (sizeOf E).run P w = .ok n w := by
  have h := t.s
  unfold Go.sizeOf typeInfo
  cases hi : P.info? E with
  | none => rw [hi] at h; simp at h
  | some i => rw [hi] at h; simp at h; simp [hi, h]
inductive Gd (ops : Array Oper) (S : AS) : Option (Nat × Bool) → List Nat → Prop
  | none : Gd ops S none []
  | some {j g : Nat} {want : Bool} (h1 : (ops[j]?).bind (·.dst) = some g) (h2 : S.t g = .sv (.v (.bool want))) : Gd ops S (some (j, want)) [g]
theorem Gd.wanted {ops : Array Oper} {S S' : AS} {gd : Option (Nat × Bool)} {rs : List Nat} (hg : Gd ops S gd rs) {C : Ctx} {E : Env} {a : Act} {w : World} (h : HoldsAt C S' E a w)
    (ht : ∀ s ∈ rs, S'.t s = S.t s) {o : Oper} (ho : o.guard = gd) : Region.wanted o (yielded ops a.tmps) = true := by
  cases hg with
  | none => simp [Region.wanted, ho]
  | @some j g want h1 h2 =>
    have hv := h.tm g
    rw [ht g (by simp), h2] at hv
    have hv : a.tmps.getD g undef = .bool want := hv
    have : a.tmps[g]? = Option.some (.bool want) := by
      rw [Array.getD_eq_getD_getElem?] at hv
      cases e : a.tmps[g]? with
      | none => rw [e] at hv; simp [undef] at hv
      | some x => rw [e] at hv; simp at hv; rw [hv]
    simp [Region.wanted, ho, yielded, h1, this]
section steps
variable {P : Program} {C : Ctx} {ops : Array Oper} {S : AS} {nd : Bool} {K : List Ac → AS → Prop} {rest : List Oper} {acc : List Ac}
theorem HoldsAt.put {E : Env} {a : Act} {w : World} (h : HoldsAt C S E a w) {d : Nat} {x : AV} {v : Value} (hx : x.holds E v) (hd : d < S.n)
    (hl : (∀ j, x.mb j → ∃ B, S.b j = some B) ∧ (∀ j, x.mr j → S.r j ≠ .un)) : HoldsAt C (S.set d x) E (a.put (some d) v) w where
  wf := by
    refine ⟨fun s j hj => ?_, fun s j hj => ?_, h.wf.bb, h.wf.br⟩
    · by_cases e : s = d
      · subst e; rw [AS.set_same] at hj; exact hl.1 j hj
      · rw [AS.set_other _ _ _ _ e] at hj; exact h.wf.tb s j hj
    · by_cases e : s = d
      · subst e; rw [AS.set_same] at hj; exact hl.2 j hj
      · rw [AS.set_other _ _ _ _ e] at hj; exact h.wf.tr s j hj
  marks := h.marks
  size := by simp [Act.put]; exact h.size
  os := h.os
  tape := h.tape
  output := h.output
  grown := h.grown
  frame := h.frame
  m0 := h.m0
  mnew := h.mnew
  inW := h.inW
  tm := fun s => by
    by_cases e : s = d
    · subst e
      rw [AS.set_same]
      have : (a.put (some s) v).tmps.getD s undef = v := by
        simp [Act.put, Array.getD_eq_getD_getElem?, h.size, hd]
      rw [this]; exact hx
    · rw [AS.set_other _ _ _ _ e]
      have : (a.put (some d) v).tmps.getD s undef = a.tmps.getD s undef := by
        simp [Act.put, Array.getD_eq_getD_getElem?, Array.getElem?_setIfInBounds_ne (Ne.symm e)]
      rw [this]; exact h.tm s
  bx := h.bx
  inj := h.inj
  rx := h.rx
  rinj := h.rinj
  pin := h.pin
  pinr := h.pinr
  olt := h.olt
  jj := h.jj
theorem wpOp_of {o : Oper} {i : Nat} {a : Act} {w : World} {L : Act → World → Prop} {Q : Exit → Act → World → Prop} (ho : ops[i]? = some o) (hg : Region.wanted o (yielded ops a.tmps) = true) (h : o.wpIn (Fr C.ro) 0 P a w L Q) : wpOpIn (Fr C.ro) 0 P ops Q i L a w := by
  simp only [wpOpIn, ho, hg, if_true]; exact h
theorem wpIn_of {o : Oper} {a : Act} {w : World} {L : Act → World → Prop} {Q : Exit → Act → World → Prop} (hnd : ∀ c, o.op ≠ .defer c) {r : Result Next} (hr : (execOp a.eval o).run P w = r) (h : o.uponIn (Fr C.ro) 0 P a L Q r) : o.wpIn (Fr C.ro) 0 P a w L Q := by
  refine ⟨fun _ _ => trivial, ?_⟩
  rw [Oper.semAt_eq _ _ _ hnd, hr]; exact h
variable {gd : Option (Nat × Bool)} {rg : List Nat} {d : Nat} {ty : TypeId} {pos : String} {aft : Array Edge} {x y z : Operand} {T U : TypeId} {k : IntKind} {p q : Int}
theorem RT.skip {op : Op} {j g : Nat} {b want : Bool} (h1 : (ops[j]?).bind (·.dst) = some g) (h2 : S.t g = .sv (.v (.bool b))) (hb : b ≠ want) (hd : d < S.n)
    (next : RunT P C ops nd K rest (⟨[g], [], [], ⟨some (d, .sv .any), [], []⟩⟩ :: acc) (S.set d (.sv .any))) : RunT P C ops nd K (⟨some d, op, ty, pos, aft, some (j, want)⟩ :: rest) acc S := by
  refine .inl ⟨[g], [], [], ⟨some (d, .sv .any), [], []⟩, ?_, next⟩
  rintro S' hn ht _ _ i a w L Q ho ⟨E, h⟩ hL
  have hv := h.tm g
  rw [ht g (by simp), h2] at hv
  have hv : a.tmps.getD g undef = .bool b := hv
  have hgv : a.tmps[g]? = some (.bool b) := by
    rw [Array.getD_eq_getD_getElem?] at hv
    cases e : a.tmps[g]? with
    | none => rw [e] at hv; simp [undef] at hv
    | some x => rw [e] at hv; simp at hv; rw [hv]
  have hw : Region.wanted ⟨some d, op, ty, pos, aft, some (j, want)⟩ (yielded ops a.tmps) = false := by
    simp [Region.wanted, yielded, h1, hgv, hb]
  simp only [wpOpIn, ho, hw]
  exact ⟨fun _ _ => trivial, hL _ _ ⟨E, h.put (x := .sv .any) (v := undef) trivial (by omega) ⟨fun _ h => h.elim, fun _ h => h.elim⟩⟩⟩
theorem RT.value (hg : Gd ops S gd rg) {op : Op} (rs rb rr : List Nat) (x : AV) (hd : d < S.n) (hnd : ∀ c, op ≠ .defer c)
    (hv : ∀ S' : AS, (∀ s ∈ rs, S'.t s = S.t s) → (∀ i ∈ rb, S'.b i = S.b i) → (∀ i ∈ rr, S'.r i = S.r i) → ∀ E a w, HoldsAt C S' E a w → ∃ v, (execOp a.eval ⟨some d, op, ty, pos, aft, gd⟩).run P w = .ok (.value v) w ∧ x.holds E v ∧ (∀ j, x.mb j → ∃ B, S'.b j = some B) ∧ (∀ j, x.mr j → S'.r j ≠ .un))
    (next : RunT P C ops nd K rest (⟨rg ++ rs, rb, rr, ⟨some (d, x), [], []⟩⟩ :: acc) (S.set d x)) : RunT P C ops nd K (⟨some d, op, ty, pos, aft, gd⟩ :: rest) acc S := by
  refine .inl ⟨rg ++ rs, rb, rr, ⟨some (d, x), [], []⟩, ?_, next⟩
  rintro S' hn ht hb hr i a w L Q ho ⟨E, h⟩ hL
  refine wpOp_of (C := C) ho (hg.wanted h (fun s hs => ht s (List.mem_append_left _ hs)) rfl) ?_
  obtain ⟨v, hrun, hx, hl⟩ := hv S' (fun s hs => ht s (List.mem_append_right _ hs)) hb hr E a w h
  exact wpIn_of (C := C) hnd hrun (hL _ _ ⟨E, h.put hx (by omega) hl⟩)
theorem nomb {s : SV} {S : AS} : (∀ j, (AV.sv s).mb j → ∃ B, S.b j = some B) ∧ (∀ j, (AV.sv s).mr j → S.r j ≠ .un) := ⟨fun _ h => h.elim, fun _ h => h.elim⟩
theorem ev_live {S : AS} (h : S.wf) {x : Operand} {v : AV} (e : S.ev x = v) : (∀ j, v.mb j → ∃ B, S.b j = some B) ∧ (∀ j, v.mr j → S.r j ≠ .un) := by
  subst e
  cases x with
  | tmp t => exact ⟨h.tb t, h.tr t⟩
  | const x => exact nomb
  | global g => exact nomb
  | func f => exact nomb
theorem RT.move (hg : Gd ops S gd rg) {s : AV} (hx : S.ev x = s) (hd : d < S.n)
    (next : RunT P C ops nd K rest (⟨rg ++ okeys x, [], [], ⟨some (d, s), [], []⟩⟩ :: acc) (S.set d s)) : RunT P C ops nd K (⟨some d, .move x, ty, pos, aft, gd⟩ :: rest) acc S :=
  RT.value hg (okeys x) [] [] s hd (by intro c h; cases h) (fun S' ht _ _ E a w h => by
    have hx' : S'.ev x = s := by rw [ev_congr (fun _ h => h) ht, hx]
    exact ⟨a.eval x, rfl, by have := h.ev x; rw [hx'] at this; exact this, ev_live h.wf hx'⟩) next
theorem RT.assign (hg : Gd ops S gd rg) {s : AV} (hx : S.ev x = s) (hd : d < S.n)
    (next : RunT P C ops nd K rest (⟨rg ++ okeys x, [], [], ⟨some (d, s), [], []⟩⟩ :: acc) (S.set d s)) : RunT P C ops nd K (⟨some d, .assign x, ty, pos, aft, gd⟩ :: rest) acc S :=
  RT.value hg (okeys x) [] [] s hd (by intro c h; cases h) (fun S' ht _ _ E a w h => by
    have hx' : S'.ev x = s := by rw [ev_congr (fun _ h => h) ht, hx]
    exact ⟨a.eval x, rfl, by have := h.ev x; rw [hx'] at this; exact this, ev_live h.wf hx'⟩) next
theorem RT.pickT (hg : Gd ops S gd rg) {s : SV} (hx : S.ev x = .sv (.v (.bool true))) (hy : S.ev y = .sv s) (hd : d < S.n)
    (next : RunT P C ops nd K rest (⟨rg ++ (okeys x ++ okeys y), [], [], ⟨some (d, .sv s), [], []⟩⟩ :: acc) (S.set d (.sv s))) : RunT P C ops nd K (⟨some d, .pick x y z, ty, pos, aft, gd⟩ :: rest) acc S :=
  RT.value hg (okeys x ++ okeys y) [] [] (.sv s) hd (by intro c h; cases h) (fun S' ht _ _ E a w h => by
    have h1 : a.eval x = .bool true := by have h1 := h.ev x; rw [ev_congr (fun _ h => List.mem_append_left _ h) ht, hx] at h1; exact h1
    have h2 := h.ev y
    rw [ev_congr (fun _ h => List.mem_append_right _ h) ht, hy] at h2
    exact ⟨a.eval y, by simp [execOp, h1, asBool], h2, nomb⟩) next
theorem RT.pickF (hg : Gd ops S gd rg) {s : SV} (hx : S.ev x = .sv (.v (.bool false))) (hz : S.ev z = .sv s) (hd : d < S.n)
    (next : RunT P C ops nd K rest (⟨rg ++ (okeys x ++ okeys z), [], [], ⟨some (d, .sv s), [], []⟩⟩ :: acc) (S.set d (.sv s))) : RunT P C ops nd K (⟨some d, .pick x y z, ty, pos, aft, gd⟩ :: rest) acc S :=
  RT.value hg (okeys x ++ okeys z) [] [] (.sv s) hd (by intro c h; cases h) (fun S' ht _ _ E a w h => by
    have h1 : a.eval x = .bool false := by have h1 := h.ev x; rw [ev_congr (fun _ h => List.mem_append_left _ h) ht, hx] at h1; exact h1
    have h2 := h.ev z
    rw [ev_congr (fun _ h => List.mem_append_right _ h) ht, hz] at h2
    exact ⟨a.eval z, by simp [execOp, h1, asBool], h2, nomb⟩) next
theorem RT.op2 (hg : Gd ops S gd rg) {op : Op} (hnd : ∀ c, op ≠ .defer c) {vx vy r : Value} (hx : S.ev x = .sv (.v vx)) (hy : S.ev y = .sv (.v vy)) (hd : d < S.n)
    (hr : ∀ (ρ : Operand → Value) (w : World), ρ x = vx → ρ y = vy → (execOp ρ ⟨some d, op, ty, pos, aft, gd⟩).run P w = .ok (.value r) w)
    (next : RunT P C ops nd K rest (⟨rg ++ (okeys x ++ okeys y), [], [], ⟨some (d, .sv (.v r)), [], []⟩⟩ :: acc) (S.set d (.sv (.v r)))) : RunT P C ops nd K (⟨some d, op, ty, pos, aft, gd⟩ :: rest) acc S :=
  RT.value hg (okeys x ++ okeys y) [] [] (.sv (.v r)) hd hnd (fun S' ht _ _ E a w h => by
    have h1 := h.ev x
    rw [ev_congr (fun _ h => List.mem_append_left _ h) ht, hx] at h1
    have h2 := h.ev y
    rw [ev_congr (fun _ h => List.mem_append_right _ h) ht, hy] at h2
    exact ⟨r, hr _ w h1 h2, rfl, nomb⟩) next
theorem RT.op1 (hg : Gd ops S gd rg) {op : Op} (hnd : ∀ c, op ≠ .defer c) {vx r : Value} (hx : S.ev x = .sv (.v vx)) (hd : d < S.n)
    (hr : ∀ (ρ : Operand → Value) (w : World), ρ x = vx → (execOp ρ ⟨some d, op, ty, pos, aft, gd⟩).run P w = .ok (.value r) w)
    (next : RunT P C ops nd K rest (⟨rg ++ okeys x, [], [], ⟨some (d, .sv (.v r)), [], []⟩⟩ :: acc) (S.set d (.sv (.v r)))) : RunT P C ops nd K (⟨some d, op, ty, pos, aft, gd⟩ :: rest) acc S :=
  RT.value hg (okeys x) [] [] (.sv (.v r)) hd hnd (fun S' ht _ _ E a w h => by
    have h1 := h.ev x
    rw [ev_congr (fun _ h => h) ht, hx] at h1
    exact ⟨r, hr _ w h1, rfl, nomb⟩) next
theorem run_bin {op : BinOp} {ρ : Operand → Value} {w : World} {r : Value} {j : IntKind} (hx : ρ x = .int k p) (hy : ρ y = .int j q) (h : (binOp op T (.int k p) (.int j q)).run P w = .ok r w) :
    (execOp ρ ⟨some d, .binOp op T x y U, ty, pos, aft, gd⟩).run P w = .ok (.value r) w := by
  simp only [execOp, hx, hy]
  have he : (eqGuard op T x y (.int k p) (.int j q)).run P w = .ok () w := by
    unfold eqGuard; cases op <;> simp
  simp [he, h]
theorem RT.cmp (hg : Gd ops S gd rg) {op : BinOp} {c : Bool} (hx : S.ev x = .sv (.v (.int k p))) (hy : S.ev y = .sv (.v (.int k q))) (hd : d < S.n)
    (hc : ∀ w : World, (binOp op T (.int k p) (.int k q)).run P w = .ok (.bool c) w)
    (next : RunT P C ops nd K rest (⟨rg ++ (okeys x ++ okeys y), [], [], ⟨some (d, .sv (.v (.bool c))), [], []⟩⟩ :: acc) (S.set d (.sv (.v (.bool c))))) : RunT P C ops nd K (⟨some d, .binOp op T x y U, ty, pos, aft, gd⟩ :: rest) acc S :=
  RT.op2 hg (by intro c h; cases h) hx hy hd (fun _ w h1 h2 => run_bin h1 h2 (hc w)) next
theorem RT.eql (hg : Gd ops S gd rg) (c : Bool) (hx : S.ev x = .sv (.v (.int k p))) (hy : S.ev y = .sv (.v (.int k q))) (hd : d < S.n) (hc : (p == q) = c)
    (next : RunT P C ops nd K rest (⟨rg ++ (okeys x ++ okeys y), [], [], ⟨some (d, .sv (.v (.bool c))), [], []⟩⟩ :: acc) (S.set d (.sv (.v (.bool c))))) : RunT P C ops nd K (⟨some d, .binOp .eql T x y U, ty, pos, aft, gd⟩ :: rest) acc S :=
  RT.cmp hg hx hy hd (fun w => by simp [binOp, Op.intCmp, hc]) next
theorem RT.neq (hg : Gd ops S gd rg) (c : Bool) (hx : S.ev x = .sv (.v (.int k p))) (hy : S.ev y = .sv (.v (.int k q))) (hd : d < S.n) (hc : (p != q) = c)
    (next : RunT P C ops nd K rest (⟨rg ++ (okeys x ++ okeys y), [], [], ⟨some (d, .sv (.v (.bool c))), [], []⟩⟩ :: acc) (S.set d (.sv (.v (.bool c))))) : RunT P C ops nd K (⟨some d, .binOp .neq T x y U, ty, pos, aft, gd⟩ :: rest) acc S :=
  RT.cmp hg hx hy hd (fun w => by simp [binOp, Op.intCmp, hc]) next
theorem RT.lss (hg : Gd ops S gd rg) (c : Bool) (hx : S.ev x = .sv (.v (.int k p))) (hy : S.ev y = .sv (.v (.int k q))) (hd : d < S.n) (hc : decide (p < q) = c)
    (next : RunT P C ops nd K rest (⟨rg ++ (okeys x ++ okeys y), [], [], ⟨some (d, .sv (.v (.bool c))), [], []⟩⟩ :: acc) (S.set d (.sv (.v (.bool c))))) : RunT P C ops nd K (⟨some d, .binOp .lss T x y U, ty, pos, aft, gd⟩ :: rest) acc S :=
  RT.cmp hg hx hy hd (fun w => by simp [binOp, Op.intCmp, hc]) next
theorem RT.leq (hg : Gd ops S gd rg) (c : Bool) (hx : S.ev x = .sv (.v (.int k p))) (hy : S.ev y = .sv (.v (.int k q))) (hd : d < S.n) (hc : decide (p ≤ q) = c)
    (next : RunT P C ops nd K rest (⟨rg ++ (okeys x ++ okeys y), [], [], ⟨some (d, .sv (.v (.bool c))), [], []⟩⟩ :: acc) (S.set d (.sv (.v (.bool c))))) : RunT P C ops nd K (⟨some d, .binOp .leq T x y U, ty, pos, aft, gd⟩ :: rest) acc S :=
  RT.cmp hg hx hy hd (fun w => by simp [binOp, Op.intCmp, hc]) next
theorem RT.gtr (hg : Gd ops S gd rg) (c : Bool) (hx : S.ev x = .sv (.v (.int k p))) (hy : S.ev y = .sv (.v (.int k q))) (hd : d < S.n) (hc : decide (q < p) = c)
    (next : RunT P C ops nd K rest (⟨rg ++ (okeys x ++ okeys y), [], [], ⟨some (d, .sv (.v (.bool c))), [], []⟩⟩ :: acc) (S.set d (.sv (.v (.bool c))))) : RunT P C ops nd K (⟨some d, .binOp .gtr T x y U, ty, pos, aft, gd⟩ :: rest) acc S :=
  RT.cmp hg hx hy hd (fun w => by simp [binOp, Op.intCmp, hc]) next
theorem RT.geq (hg : Gd ops S gd rg) (c : Bool) (hx : S.ev x = .sv (.v (.int k p))) (hy : S.ev y = .sv (.v (.int k q))) (hd : d < S.n) (hc : decide (q ≤ p) = c)
    (next : RunT P C ops nd K rest (⟨rg ++ (okeys x ++ okeys y), [], [], ⟨some (d, .sv (.v (.bool c))), [], []⟩⟩ :: acc) (S.set d (.sv (.v (.bool c))))) : RunT P C ops nd K (⟨some d, .binOp .geq T x y U, ty, pos, aft, gd⟩ :: rest) acc S :=
  RT.cmp hg hx hy hd (fun w => by simp [binOp, Op.intCmp, hc]) next
theorem RT.add (hg : Gd ops S gd rg) (c : Int) (hx : S.ev x = .sv (.v (.int k p))) (hy : S.ev y = .sv (.v (.int k q))) (hd : d < S.n) (hc : k.wrap (p + q) = c)
    (next : RunT P C ops nd K rest (⟨rg ++ (okeys x ++ okeys y), [], [], ⟨some (d, .sv (.v (.int k c))), [], []⟩⟩ :: acc) (S.set d (.sv (.v (.int k c))))) : RunT P C ops nd K (⟨some d, .binOp .add T x y U, ty, pos, aft, gd⟩ :: rest) acc S :=
  RT.op2 hg (by intro c h; cases h) hx hy hd (fun _ w h1 h2 => run_bin h1 h2 (by simp [binOp, Op.intArith, hc])) next
theorem RT.sub (hg : Gd ops S gd rg) (c : Int) (hx : S.ev x = .sv (.v (.int k p))) (hy : S.ev y = .sv (.v (.int k q))) (hd : d < S.n) (hc : k.wrap (p - q) = c)
    (next : RunT P C ops nd K rest (⟨rg ++ (okeys x ++ okeys y), [], [], ⟨some (d, .sv (.v (.int k c))), [], []⟩⟩ :: acc) (S.set d (.sv (.v (.int k c))))) : RunT P C ops nd K (⟨some d, .binOp .sub T x y U, ty, pos, aft, gd⟩ :: rest) acc S :=
  RT.op2 hg (by intro c h; cases h) hx hy hd (fun _ w h1 h2 => run_bin h1 h2 (by simp [binOp, Op.intArith, hc])) next
theorem RT.mul (hg : Gd ops S gd rg) (c : Int) (hx : S.ev x = .sv (.v (.int k p))) (hy : S.ev y = .sv (.v (.int k q))) (hd : d < S.n) (hc : k.wrap (p * q) = c)
    (next : RunT P C ops nd K rest (⟨rg ++ (okeys x ++ okeys y), [], [], ⟨some (d, .sv (.v (.int k c))), [], []⟩⟩ :: acc) (S.set d (.sv (.v (.int k c))))) : RunT P C ops nd K (⟨some d, .binOp .mul T x y U, ty, pos, aft, gd⟩ :: rest) acc S :=
  RT.op2 hg (by intro c h; cases h) hx hy hd (fun _ w h1 h2 => run_bin h1 h2 (by simp [binOp, Op.intArith, hc])) next
theorem RT.quo (hg : Gd ops S gd rg) (c : Int) (hx : S.ev x = .sv (.v (.int k p))) (hy : S.ev y = .sv (.v (.int k q))) (hd : d < S.n) (h0 : q ≠ 0) (hc : k.wrap (p.tdiv q) = c)
    (next : RunT P C ops nd K rest (⟨rg ++ (okeys x ++ okeys y), [], [], ⟨some (d, .sv (.v (.int k c))), [], []⟩⟩ :: acc) (S.set d (.sv (.v (.int k c))))) : RunT P C ops nd K (⟨some d, .binOp .quo T x y U, ty, pos, aft, gd⟩ :: rest) acc S :=
  RT.op2 hg (by intro c h; cases h) hx hy hd (fun _ w h1 h2 => run_bin h1 h2 (by simp [binOp, Op.intDiv, hc, h0])) next
theorem RT.rem (hg : Gd ops S gd rg) (c : Int) (hx : S.ev x = .sv (.v (.int k p))) (hy : S.ev y = .sv (.v (.int k q))) (hd : d < S.n) (h0 : q ≠ 0) (hc : p.tmod q = c)
    (next : RunT P C ops nd K rest (⟨rg ++ (okeys x ++ okeys y), [], [], ⟨some (d, .sv (.v (.int k c))), [], []⟩⟩ :: acc) (S.set d (.sv (.v (.int k c))))) : RunT P C ops nd K (⟨some d, .binOp .rem T x y U, ty, pos, aft, gd⟩ :: rest) acc S :=
  RT.op2 hg (by intro c h; cases h) hx hy hd (fun _ w h1 h2 => run_bin h1 h2 (by simp [binOp, Op.intDiv, hc, h0])) next
theorem RT.and (hg : Gd ops S gd rg) (c : Int) (hx : S.ev x = .sv (.v (.int k p))) (hy : S.ev y = .sv (.v (.int k q))) (hd : d < S.n) (hc : k.wrap ((BitVec.ofInt k.bits p &&& BitVec.ofInt k.bits q).toNat) = c)
    (next : RunT P C ops nd K rest (⟨rg ++ (okeys x ++ okeys y), [], [], ⟨some (d, .sv (.v (.int k c))), [], []⟩⟩ :: acc) (S.set d (.sv (.v (.int k c))))) : RunT P C ops nd K (⟨some d, .binOp .and T x y U, ty, pos, aft, gd⟩ :: rest) acc S :=
  RT.op2 hg (by intro c h; cases h) hx hy hd (fun _ w h1 h2 => run_bin h1 h2 (by simp only [binOp, Op.intBits, hc]; simp)) next
theorem RT.or (hg : Gd ops S gd rg) (c : Int) (hx : S.ev x = .sv (.v (.int k p))) (hy : S.ev y = .sv (.v (.int k q))) (hd : d < S.n) (hc : k.wrap ((BitVec.ofInt k.bits p ||| BitVec.ofInt k.bits q).toNat) = c)
    (next : RunT P C ops nd K rest (⟨rg ++ (okeys x ++ okeys y), [], [], ⟨some (d, .sv (.v (.int k c))), [], []⟩⟩ :: acc) (S.set d (.sv (.v (.int k c))))) : RunT P C ops nd K (⟨some d, .binOp .or T x y U, ty, pos, aft, gd⟩ :: rest) acc S :=
  RT.op2 hg (by intro c h; cases h) hx hy hd (fun _ w h1 h2 => run_bin h1 h2 (by simp only [binOp, Op.intBits, hc]; simp)) next
theorem RT.xor (hg : Gd ops S gd rg) (c : Int) (hx : S.ev x = .sv (.v (.int k p))) (hy : S.ev y = .sv (.v (.int k q))) (hd : d < S.n) (hc : k.wrap ((BitVec.ofInt k.bits p ^^^ BitVec.ofInt k.bits q).toNat) = c)
    (next : RunT P C ops nd K rest (⟨rg ++ (okeys x ++ okeys y), [], [], ⟨some (d, .sv (.v (.int k c))), [], []⟩⟩ :: acc) (S.set d (.sv (.v (.int k c))))) : RunT P C ops nd K (⟨some d, .binOp .xor T x y U, ty, pos, aft, gd⟩ :: rest) acc S :=
  RT.op2 hg (by intro c h; cases h) hx hy hd (fun _ w h1 h2 => run_bin h1 h2 (by simp only [binOp, Op.intBits, hc]; simp)) next
theorem RT.shl (hg : Gd ops S gd rg) (c : Int) {j : IntKind} (hx : S.ev x = .sv (.v (.int k p))) (hy : S.ev y = .sv (.v (.int j q))) (hd : d < S.n) (h0 : 0 ≤ q) (hc : k.wrap (p * 2 ^ (min q.toNat k.bits)) = c)
    (next : RunT P C ops nd K rest (⟨rg ++ (okeys x ++ okeys y), [], [], ⟨some (d, .sv (.v (.int k c))), [], []⟩⟩ :: acc) (S.set d (.sv (.v (.int k c))))) : RunT P C ops nd K (⟨some d, .binOp .shl T x y U, ty, pos, aft, gd⟩ :: rest) acc S :=
  RT.op2 hg (by intro c h; cases h) hx hy hd (fun _ w h1 h2 => run_bin h1 h2 (by
    have : ¬ q < 0 := by omega
    simp only [binOp, Op.shift, this, if_false, hc]; rfl)) next
theorem RT.shr (hg : Gd ops S gd rg) (c : Int) {j : IntKind} (hx : S.ev x = .sv (.v (.int k p))) (hy : S.ev y = .sv (.v (.int j q))) (hd : d < S.n) (h0 : 0 ≤ q) (hc : p.fdiv (2 ^ (min q.toNat k.bits)) = c)
    (next : RunT P C ops nd K rest (⟨rg ++ (okeys x ++ okeys y), [], [], ⟨some (d, .sv (.v (.int k c))), [], []⟩⟩ :: acc) (S.set d (.sv (.v (.int k c))))) : RunT P C ops nd K (⟨some d, .binOp .shr T x y U, ty, pos, aft, gd⟩ :: rest) acc S :=
  RT.op2 hg (by intro c h; cases h) hx hy hd (fun _ w h1 h2 => run_bin h1 h2 (by
    have : ¬ q < 0 := by omega
    simp only [binOp, Op.shift, this, if_false, hc]; rfl)) next
theorem RT.not (hg : Gd ops S gd rg) {b : Bool} (hx : S.ev x = .sv (.v (.bool b))) (hd : d < S.n) (c : Bool) (hc : (!b) = c)
    (next : RunT P C ops nd K rest (⟨rg ++ okeys x, [], [], ⟨some (d, .sv (.v (.bool c))), [], []⟩⟩ :: acc) (S.set d (.sv (.v (.bool c))))) : RunT P C ops nd K (⟨some d, .unOp .not T x, ty, pos, aft, gd⟩ :: rest) acc S :=
  RT.op1 hg (by intro c h; cases h) hx hd (fun _ w h1 => by simp [execOp, h1, Op.unary, hc]) next
theorem RT.neg (hg : Gd ops S gd rg) (c : Int) (hx : S.ev x = .sv (.v (.int k p))) (hd : d < S.n) (hc : k.wrap (0 - p) = c)
    (next : RunT P C ops nd K rest (⟨rg ++ okeys x, [], [], ⟨some (d, .sv (.v (.int k c))), [], []⟩⟩ :: acc) (S.set d (.sv (.v (.int k c))))) : RunT P C ops nd K (⟨some d, .unOp .neg T x, ty, pos, aft, gd⟩ :: rest) acc S :=
  RT.op1 hg (by intro c h; cases h) hx hd (fun _ w h1 => by simp only [execOp, h1, Op.unary, Op.intArith, hc]; simp) next
theorem RT.conv (hg : Gd ops S gd rg) {j : IntKind} [tT : TyInt P T j] [tU : TyInt P U k] (c : Int) {k' : IntKind} (hx : S.ev x = .sv (.v (.int k' p))) (hd : d < S.n) (hc : k.wrap p = c)
    (next : RunT P C ops nd K rest (⟨rg ++ okeys x, [], [], ⟨some (d, .sv (.v (.int k c))), [], []⟩⟩ :: acc) (S.set d (.sv (.v (.int k c))))) : RunT P C ops nd K (⟨some d, .convert T U x, ty, pos, aft, gd⟩ :: rest) acc S :=
  RT.op1 hg (by intro c h; cases h) hx hd (fun _ w h1 => by simp [execOp, h1, convert, underlying, tT.h, tU.h, Conv.intToInt, hc]) next
theorem RT.beql (hg : Gd ops S gd rg) [tT : TyBool P T] (e : Bool) {b c : Bool} (hx : S.ev x = .sv (.v (.bool b))) (hy : S.ev y = .sv (.v (.bool c))) (hd : d < S.n) (he : (b == c) = e)
    (next : RunT P C ops nd K rest (⟨rg ++ (okeys x ++ okeys y), [], [], ⟨some (d, .sv (.v (.bool e))), [], []⟩⟩ :: acc) (S.set d (.sv (.v (.bool e))))) : RunT P C ops nd K (⟨some d, .binOp .eql T x y U, ty, pos, aft, gd⟩ :: rest) acc S :=
  RT.op2 hg (by intro c h; cases h) hx hy hd (fun ρ w h1 h2 => by
    have e1 := run_eql_bool (P := P) w T b c tT.h
    rw [he] at e1
    simp [execOp, h1, h2, eqGuard, e1]) next
theorem RT.bneq (hg : Gd ops S gd rg) [tT : TyBool P T] (e : Bool) {b c : Bool} (hx : S.ev x = .sv (.v (.bool b))) (hy : S.ev y = .sv (.v (.bool c))) (hd : d < S.n) (he : (!(b == c)) = e)
    (next : RunT P C ops nd K rest (⟨rg ++ (okeys x ++ okeys y), [], [], ⟨some (d, .sv (.v (.bool e))), [], []⟩⟩ :: acc) (S.set d (.sv (.v (.bool e))))) : RunT P C ops nd K (⟨some d, .binOp .neq T x y U, ty, pos, aft, gd⟩ :: rest) acc S :=
  RT.op2 hg (by intro c h; cases h) hx hy hd (fun ρ w h1 h2 => by
    have e1 := run_neq_bool (P := P) w T b c tT.h
    rw [he] at e1
    simp [execOp, h1, h2, eqGuard, e1]) next
end steps
end Go.Fw
namespace Go.Fw
open Go.RowKit
class One (s : SV) : Prop where
  h : ∀ M v, s.h M v → v.oneCell' = true
class Ones (l : List SV) : Prop where
  h : ∀ M vs, SV.All M l vs → ∀ v ∈ vs, v.oneCell' = true
instance : Ones [] := ⟨fun _ vs h => by cases vs with | nil => simp | cons _ _ => exact h.elim⟩
instance {s : SV} {l : List SV} [o : One s] [os : Ones l] : Ones (s :: l) := ⟨fun M vs h => by
  cases vs with
  | nil => exact h.elim
  | cons x xs => intro v hv; rcases List.mem_cons.1 hv with rfl | hv
                 · exact o.h M _ h.1
                 · exact os.h M xs h.2 v hv⟩
instance {b : Bool} : One (.v (.bool b)) := ⟨fun _ _ h => by cases h; rfl⟩
instance {k : IntKind} {n : Int} : One (.v (.int k n)) := ⟨fun _ _ h => by cases h; rfl⟩
instance {b : ByteArray} : One (.v (.string b)) := ⟨fun _ _ h => by cases h; rfl⟩
instance {a : Option Addr} {l c : Nat} : One (.v (.slice a l c)) := ⟨fun _ _ h => by cases h; rfl⟩
instance {a : Option Addr} : One (.v (.pointer a)) := ⟨fun _ _ h => by cases h; rfl⟩
instance {f : Fn} {a b : Array Value} : One (.v (.func f a b)) := ⟨fun _ _ h => by cases h; rfl⟩
instance : One (.v .nilFunc) := ⟨fun _ _ h => by cases h; rfl⟩
instance {m : Option Nat} : One (.v (.map m)) := ⟨fun _ _ h => by cases h; rfl⟩
class OneA (x : AV) : Prop where
  h : ∀ E v, x.holds E v → v.oneCell' = true
instance {s : SV} [o : One s] : OneA (.sv s) := ⟨fun E v h => o.h E.M v h⟩
instance {i o : Nat} : OneA (.ptr i o) := ⟨fun _ _ h => by cases h; rfl⟩
instance {i o l c : Nat} : OneA (.bsl i o l c) := ⟨fun _ _ h => by cases h; rfl⟩
instance {i o l : Nat} : OneA (.rsl i o l) := ⟨fun _ _ h => by obtain ⟨g, _, c, rfl, _⟩ := h; rfl⟩
instance {g : FuncId} {js : List Cap} : OneA (.clo g js) := ⟨fun _ _ h => by obtain ⟨vs, rfl, _⟩ := h; rfl⟩
theorem oneCell_cells {v : Value} (h : v.oneCell' = true) : v.cells = #[v] := by cases v <;> first | rfl | simp [Value.oneCell'] at h
def slc (sz : Nat) (rows : List (List SV)) : SV where
  h M v := (∃ a, v = .slice a 0 0 ∧ rows = []) ∨ ∃ b o c, v = .slice (some ⟨b, o, none⟩) rows.length c ∧ rows.length ≤ c ∧ rows.length ≤ 9223372036854775807 ∧
    ∀ (i : Nat) (row : List SV), rows[i]? = some row → row.length = sz ∧ ∀ (k : Nat) (s : SV), row[k]? = some s → ∃ y, M b (o + i * sz + k) = some y ∧ y.oneCell' = true ∧ s.h M y
  mono hM h := by
    rcases h with h | ⟨b, o, c, e, h1, h2, h3⟩
    · exact .inl h
    · refine .inr ⟨b, o, c, e, h1, h2, fun i row hr => ⟨(h3 i row hr).1, fun k s hs => ?_⟩⟩
      obtain ⟨y, hy, h1, hs'⟩ := (h3 i row hr).2 k s hs
      exact ⟨y, hM _ _ _ hy, h1, s.mono hM hs'⟩
def ref (cells : List SV) : SV where
  h M v := ∃ b o, v = .pointer (some ⟨b, o, none⟩) ∧ ∀ (k : Nat) (s : SV), cells[k]? = some s → ∃ y, M b (o + k) = some y ∧ y.oneCell' = true ∧ s.h M y
  mono hM h := by
    obtain ⟨b, o, e, h⟩ := h
    refine ⟨b, o, e, fun k s hs => ?_⟩
    obtain ⟨y, hy, h1, hs'⟩ := h k s hs
    exact ⟨y, hM _ _ _ hy, h1, s.mono hM hs'⟩
class Slc (s : SV) (sz : outParam Nat) (rows : outParam (List (List SV))) : Prop where
  h : SV.imp s (slc sz rows)
class Len (s : SV) (n : outParam Nat) : Prop where
  h : ∀ M v, s.h M v → ∃ a c, v = .slice a n c
instance {sz : Nat} {rows : List (List SV)} : Slc (slc sz rows) sz rows := ⟨fun _ _ h => h⟩
instance {sz : Nat} {rows : List (List SV)} : Len (slc sz rows) rows.length := ⟨fun M v h => by
  rcases h with ⟨a, rfl, rfl⟩ | ⟨b, o, c, rfl, _⟩
  · exact ⟨a, 0, rfl⟩
  · exact ⟨_, _, rfl⟩⟩
instance {a : Option Addr} {n c : Nat} : Len (.v (.slice a n c)) n := ⟨fun _ _ h => ⟨a, c, h⟩⟩
instance {sz : Nat} {rows : List (List SV)} : One (slc sz rows) := ⟨fun M v h => by
  rcases h with ⟨a, rfl, rfl⟩ | ⟨b, o, c, rfl, _⟩ <;> rfl⟩
section steps
variable {P : Program} {C : Ctx} {ops : Array Oper} {S : AS} {nd : Bool} {K : List Ac → AS → Prop} {rest : List Oper} {acc : List Ac}
variable {gd : Option (Nat × Bool)} {rg : List Nat} {d : Nat} {ty : TypeId} {pos : String} {aft : Array Edge} {x y z : Operand} {T U E0 : TypeId}
theorem box_lt {E : Env} {a : Act} {w : World} (h : HoldsAt C S E a w) {i : Nat} {B : Box} (hi : S.b i = some B) : E.β i < w.heap.size := by
  obtain ⟨_, _, _, vs, hv, _⟩ := h.bx i B hi
  exact (Array.getElem?_eq_some_iff.1 hv).1
theorem row_lt {E : Env} {a : Act} {w : World} (h : HoldsAt C S E a w) {i : Nat} {R : Row} (hi : S.r i = .live R) {g : Nat} (hg : (E.ν i).ownBlock = some g) : g < w.heap.size := by
  obtain ⟨⟨vs, ho, _⟩, _⟩ := h.rx i R hi
  exact (ho.lt g hg).2
theorem ownsRow_same {w w' : World} {base : Nat} {e : TypeId} {size : Nat} {v : Value} {n : Nat} {xs : List Value} (h : w.ownsRow base e size v n xs) (hs : ∀ g, v.ownBlock = some g → w'.heap[g]? = w.heap[g]?) : w'.ownsRow base e size v n xs := by
  obtain ⟨h1, h2⟩ := h
  refine ⟨h1, ?_⟩
  rcases h2 with h2 | ⟨g, cap, cur, rfl, hb, hh, r⟩
  · exact .inl h2
  · exact .inr ⟨g, cap, cur, rfl, hb, by rw [hs g rfl]; exact hh, r⟩
theorem HoldsAt.newBox {E : Env} {a : Act} {w : World} (h : HoldsAt C S E a w) {i : Nat} (hi : S.b i = none) (hp : C.pin i = none) {cells : List AV} {vs : List Value} (hc : AllV E cells vs) (hl : ∀ x ∈ cells, (∀ j, x.mb j → ∃ B, S.b j = some B) ∧ (∀ j, x.mr j → S.r j ≠ .un)) :
    HoldsAt C (S.setB i ⟨T, cells⟩) { E with β := fun j => if j = i then w.heap.size else E.β j } a (w.alloc (.cells ⟨vs⟩ T)) := by
  have ne : ∀ j, (∃ B, S.b j = some B) → j ≠ i := by rintro j ⟨B, hB⟩ rfl; rw [hi] at hB; cases hB
  have keep : ∀ x : AV, (∀ j, x.mb j → ∃ B, S.b j = some B) → ∀ v, x.holds E v → x.holds { E with β := fun j => if j = i then w.heap.size else E.β j } v := fun x hx v hv =>
    AV.holds_congr (E := E) (E' := { E with β := fun j => if j = i then w.heap.size else E.β j }) (Mem.le_refl _) (fun j hj => if_neg (ne j (hx j hj))) (fun _ _ => rfl) hv
  have liveB : ∀ j, (∃ B, S.b j = some B) → ∃ B, (S.setB i ⟨T, cells⟩).b j = some B := fun j hj => by
    obtain ⟨B, hB⟩ := hj
    exact ⟨B, by rw [AS.setB_other _ _ _ _ (ne j ⟨B, hB⟩)]; exact hB⟩
  have old : ∀ k, k < w.heap.size → (w.alloc (.cells ⟨vs⟩ T)).heap[k]? = w.heap[k]? := fun k hk => Below.heap_alloc _ _ _ hk
  exact {
    wf := by
      refine ⟨fun s j hj => liveB j (h.wf.tb s j hj), h.wf.tr, fun j B hB x hx k hk => ?_, fun j B hB x hx k hk => ?_⟩
      · by_cases hj : j = i
        · subst hj; rw [AS.setB_same] at hB; cases hB; exact liveB k ((hl x hx).1 k hk)
        · rw [AS.setB_other _ _ _ _ hj] at hB; exact liveB k (h.wf.bb j B hB x hx k hk)
      · by_cases hj : j = i
        · subst hj; rw [AS.setB_same] at hB; cases hB; exact (hl x hx).2 k hk
        · rw [AS.setB_other _ _ _ _ hj] at hB; exact h.wf.br j B hB x hx k hk
    marks := by
      obtain ⟨ds, h1, h2, h3⟩ := h.marks
      refine ⟨ds, h1, h2, fun r hr => ?_⟩
      obtain ⟨h4, h5, h6⟩ := h3 r hr
      exact ⟨h4, h5, by rw [old r (Array.getElem?_eq_some_iff.1 h6).1]; exact h6⟩
    size := h.size
    os := h.os
    tape := h.tape
    output := h.output
    grown := by have := h.grown; simp; omega
    frame := fun k hk hk' => by rw [old k (by have := h.grown; omega)]; exact h.frame k hk hk'
    m0 := h.m0
    mnew := h.mnew
    inW := inW_of_same h.inW fun b ⟨o, v, e⟩ => old b (inW_lt h.inW e)
    tm := fun s => keep _ (h.wf.tb s) _ (h.tm s)
    bx := fun j B hB => by
      by_cases hj : j = i
      · subst hj
        rw [AS.setB_same] at hB
        cases hB
        refine ⟨.inl (by simp; exact h.grown), fun o => ?_, fun ho => ?_, vs, ?_, hc.imp fun x hx v hv => keep x (hl x hx).1 v hv⟩
        · simp only [if_true]
          cases e : E.M w.heap.size o with
          | none => rfl
          | some v => have := inW_lt h.inW e; omega
        · simp only [if_true] at ho
          have := (h.olt _ ho).1; omega
        · show (w.heap.push _)[if j = j then w.heap.size else E.β j]? = _
          rw [if_pos rfl]; exact Array.getElem?_push_size
      · rw [AS.setB_other _ _ _ _ hj] at hB
        obtain ⟨h1, h2, h3, vs', h4, h5⟩ := h.bx j B hB
        simp only [if_neg hj]
        exact ⟨h1, h2, h3, vs', by rw [old _ (box_lt h hB)]; exact h4, h5.imp fun x hx v hv => keep x (h.wf.bb j B hB x hx) v hv⟩
    inj := fun j k B B' hj hk e => by
      by_cases h1 : j = i
      · subst h1
        by_cases h2 : k = j
        · exact h2.symm
        · rw [AS.setB_other _ _ _ _ h2] at hk
          have := box_lt h hk
          simp only [if_true, if_neg h2] at e; omega
      · rw [AS.setB_other _ _ _ _ h1] at hj
        by_cases h2 : k = i
        · subst h2
          have := box_lt h hj
          simp only [if_true, if_neg h1] at e; omega
        · rw [AS.setB_other _ _ _ _ h2] at hk
          simp only [if_neg h1, if_neg h2] at e
          exact h.inj j k B B' hj hk e
    rx := fun j R hR => by
      obtain ⟨⟨us, h1, h2⟩, h3⟩ := h.rx j R hR
      refine ⟨⟨us, ownsRow_same h1 fun g hg => old g (row_lt h hR hg), h2⟩, fun g hg => ?_⟩
      obtain ⟨h4, h5, h6, h7⟩ := h3 g hg
      refine ⟨h4, h5, h6, fun k B hB => ?_⟩
      by_cases hk : k = i
      · subst hk
        simp only [if_true]
        have := row_lt h hR hg; omega
      · rw [AS.setB_other _ _ _ _ hk] at hB
        simp only [if_neg hk]
        exact h7 k B hB
    rinj := h.rinj
    pin := fun j b hj => by
      have hne : j ≠ i := by rintro rfl; rw [hp] at hj; cases hj
      simp only [if_neg hne]; exact h.pin j b hj
    pinr := h.pinr
    olt := fun b hb => by
      obtain ⟨h1, h2⟩ := h.olt b hb
      exact ⟨by simp; omega, h2⟩
    jj := C.jf _ _ _ _ _ _ _ h.jj (Mem.le_refl _) (inW_of_same h.inW fun b ⟨o, v, e⟩ => old b (inW_lt h.inW e)) (fun _ _ _ e => .inl e)
      (fun b hb => old b (by rcases hb with hb | hb
                             · have := h.grown; omega
                             · exact (h.olt b hb).1)) rfl rfl rfl (by simp) }
theorem HoldsAt.grow {E : Env} {M' : Mem} {a : Act} {w w' : World} (h : HoldsAt C S E a w) (hM : E.M.le M') (hn : ∀ b o v, M' b o = some v → E.M b o = some v ∨ w.heap.size ≤ b) (hw : M'.inW w') (hb : Below w.heap.size w w') :
    HoldsAt C S { E with M := M' } a w' := by
  have keep : ∀ x : AV, ∀ v, x.holds E v → x.holds { E with M := M' } v := fun x v hv => AV.holds_congr (E := E) (E' := { E with M := M' }) hM (fun _ _ => rfl) (fun _ _ => rfl) hv
  have none : ∀ b, b < w.heap.size → (∀ o, E.M b o = none) → ∀ o, M' b o = none := fun b hb h2 o => by
    cases e : M' b o with
    | none => rfl
    | some v =>
      rcases hn _ _ _ e with e' | e'
      · rw [h2 o] at e'; cases e'
      · omega
  exact {
    wf := h.wf
    marks := by
      obtain ⟨ds, h1, h2, h3⟩ := h.marks
      refine ⟨ds, h1, h2, fun r hr => ?_⟩
      obtain ⟨h4, h5, h6⟩ := h3 r hr
      exact ⟨h4, h5, by rw [hb.block r (Array.getElem?_eq_some_iff.1 h6).1]; exact h6⟩
    size := h.size
    os := hb.os.trans h.os
    tape := hb.tape.trans h.tape
    output := hb.output.trans h.output
    grown := Nat.le_trans h.grown hb.size
    frame := fun k hk hk' => by rw [hb.block k (by have := h.grown; omega)]; exact h.frame k hk hk'
    m0 := Mem.le_trans h.m0 hM
    mnew := fun b o v e => by
      rcases hn b o v e with e' | e'
      · exact h.mnew b o v e'
      · exact .inr (.inl (Nat.le_trans h.grown e'))
    inW := hw
    tm := fun s => keep _ _ (h.tm s)
    bx := fun i B hB => by
      obtain ⟨h1, h2, h3, vs, h4, h5⟩ := h.bx i B hB
      exact ⟨h1, none _ (box_lt h hB) h2, h3, vs, by rw [hb.block _ (box_lt h hB)]; exact h4, h5.imp fun x _ v hv => keep x v hv⟩
    inj := h.inj
    rx := fun i R hR => by
      obtain ⟨⟨us, h1, h2⟩, h3⟩ := h.rx i R hR
      refine ⟨⟨us, ownsRow_same h1 fun g hg => hb.block g (row_lt h hR hg), h2.mono hM⟩, fun g hg => ?_⟩
      obtain ⟨h4, h5, h6, h7⟩ := h3 g hg
      exact ⟨h4, none _ (row_lt h hR hg) h5, h6, h7⟩
    rinj := h.rinj
    pin := h.pin
    pinr := h.pinr
    olt := fun b hO => by
      obtain ⟨h1, h2, h3⟩ := h.olt b hO
      exact ⟨Nat.lt_of_lt_of_le h1 hb.size, none b h1 h2, h3⟩
    jj := C.jf _ _ _ _ _ _ _ h.jj hM hw (fun b o v e => by
        rcases hn b o v e with e' | e'
        · exact .inl e'
        · exact .inr ⟨.inl (Nat.le_trans h.grown e'), fun hO => by have := (h.olt b hO).1; omega⟩)
      (fun b hh => hb.block b (by
        rcases hh with hh | hh
        · have := h.grown; omega
        · exact (h.olt b hh).1)) hb.os hb.tape hb.output hb.size }
theorem RT.mkBox (hg : Gd ops S gd rg) {op : Op} (hnd : ∀ c, op ≠ .defer c) (rs : List Nat) {cells : List AV} (hd : d < S.n) (hb : S.b d = none) (hp : C.pin d = none)
    (hv : ∀ S' : AS, (∀ s ∈ rs, S'.t s = S.t s) → ∀ E a w, HoldsAt C S' E a w → ∃ vs : List Value, (execOp a.eval ⟨some d, op, ty, pos, aft, gd⟩).run P w = .ok (.value (.pointer (some ⟨w.heap.size, 0, none⟩))) (w.alloc (.cells ⟨vs⟩ T)) ∧ AllV E cells vs ∧
      ∀ x ∈ cells, (∀ j, x.mb j → ∃ B, S'.b j = some B) ∧ (∀ j, x.mr j → S'.r j ≠ .un))
    (next : RunT P C ops nd K rest (⟨rg ++ rs, [d], [], ⟨some (d, .ptr d 0), [(d, ⟨T, cells⟩)], []⟩⟩ :: acc) ((S.setB d ⟨T, cells⟩).set d (.ptr d 0))) : RunT P C ops nd K (⟨some d, op, ty, pos, aft, gd⟩ :: rest) acc S := by
  refine .inl ⟨rg ++ rs, [d], [], ⟨some (d, .ptr d 0), [(d, ⟨T, cells⟩)], []⟩, ?_, next⟩
  rintro S' hn ht hb' _ i a w L Q ho ⟨E, h⟩ hL
  refine wpOp_of (C := C) ho (hg.wanted h (fun s hs => ht s (List.mem_append_left _ hs)) rfl) ?_
  obtain ⟨vs, hr, hvs, hl⟩ := hv S' (fun s hs => ht s (List.mem_append_right _ hs)) E a w h
  have hb0 : S'.b d = none := by rw [hb' d (by simp)]; exact hb
  have h2 := h.newBox (T := T) hb0 hp hvs hl
  exact wpIn_of (C := C) hnd hr (hL _ _ ⟨_, h2.put (x := .ptr d 0) (by simp [AV.holds]) (by show d < S'.n; omega) ⟨fun j e => (by cases e; exact ⟨_, AS.setB_same _ _ _⟩), fun _ e => e.elim⟩⟩)
theorem RT.box (hg : Gd ops S gd rg) {cells : List SV} (hx : S.ev x = .sv (.agg cells)) (hd : d < S.n) (hb : S.b d = none) (hp : C.pin d = none)
    (next : RunT P C ops nd K rest (⟨rg ++ okeys x, [d], [], ⟨some (d, .ptr d 0), [(d, ⟨T, cells.map AV.sv⟩)], []⟩⟩ :: acc) ((S.setB d ⟨T, cells.map AV.sv⟩).set d (.ptr d 0))) : RunT P C ops nd K (⟨some d, .box T x, ty, pos, aft, gd⟩ :: rest) acc S :=
  RT.mkBox hg (by intro c h; cases h) (okeys x) hd hb hp (fun S' ht E a w h => by
    have h1 := h.ev x
    rw [ev_congr (fun _ h => h) ht, hx] at h1
    obtain ⟨vs, hv, hvs⟩ := h1
    refine ⟨vs, by simp [execOp, Instr.box, newVar, newRow, hv, Value.cells], AllV.of_sv hvs, fun y hy => ?_⟩
    obtain ⟨s, _, rfl⟩ := List.mem_map.1 hy
    exact nomb) next
theorem RT.boxV (hg : Gd ops S gd rg) {s : AV} [o1 : OneA s] (hx : S.ev x = s) (hd : d < S.n) (hb : S.b d = none) (hp : C.pin d = none)
    (next : RunT P C ops nd K rest (⟨rg ++ okeys x, [d], [], ⟨some (d, .ptr d 0), [(d, ⟨T, [s]⟩)], []⟩⟩ :: acc) ((S.setB d ⟨T, [s]⟩).set d (.ptr d 0))) : RunT P C ops nd K (⟨some d, .box T x, ty, pos, aft, gd⟩ :: rest) acc S :=
  RT.mkBox hg (by intro c h; cases h) (okeys x) (cells := [s]) hd hb hp (fun S' ht E a w h => by
    have hx' : S'.ev x = s := by rw [ev_congr (fun _ h => h) ht, hx]
    have h1 := h.ev x
    rw [hx'] at h1
    refine ⟨[a.eval x], by simp [execOp, Instr.box, newVar, newRow, oneCell_cells (o1.h _ _ h1)], ⟨h1, trivial⟩, fun y hy => ?_⟩
    obtain rfl : y = s := by simpa using hy
    exact ev_live h.wf hx') next
theorem all_v (E : Env) : ∀ l : List Value, AllV E (l.map fun v => AV.sv (SV.v v)) l
  | [] => trivial
  | _ :: l => ⟨rfl, all_v E l⟩
theorem RT.alloc (hg : Gd ops S gd rg) {zv : Value} [tz : TyZero P T zv] (hd : d < S.n) (hb : S.b d = none) (hp : C.pin d = none)
    (next : RunT P C ops nd K rest (⟨rg ++ [], [d], [], ⟨some (d, .ptr d 0), [(d, ⟨T, zv.cells.toList.map fun v => AV.sv (SV.v v)⟩)], []⟩⟩ :: acc) ((S.setB d ⟨T, zv.cells.toList.map fun v => AV.sv (SV.v v)⟩).set d (.ptr d 0))) : RunT P C ops nd K (⟨some d, .alloc T, ty, pos, aft, gd⟩ :: rest) acc S :=
  RT.mkBox hg (by intro c h; cases h) [] hd hb hp (fun S' _ E a w h => ⟨zv.cells.toList, by simp [execOp, Instr.alloc, newVar, newRow, tz.run], all_v E _, fun y hy => by
    obtain ⟨s, _, rfl⟩ := List.mem_map.1 hy
    exact nomb⟩) next
theorem addr_add (b o n : Nat) : (⟨b, o, none⟩ : Addr).add n = ⟨b, o + n, none⟩ := by
  unfold Addr.add; split
  · subst_vars; rfl
  · rfl
theorem run_loadAgg {n : Nat} [TyA P T n] {w : World} {b o : Nat} {vs : List Value} (hlen : vs.length = n) (hv : ∀ (j : Nat) (v : Value), vs[j]? = some v → w.cell? ⟨b, o + j, none⟩ = some v) :
    (loadVar T ⟨b, o, none⟩).run P w = .ok (.agg ⟨vs⟩) w := by
  have h1 := run_loadCells_list (P := P) (w := w) ⟨b, o, none⟩ vs (fun j v e => by rw [addr_add]; exact hv j v e)
  rw [hlen] at h1
  simp [loadVar, TyA.isAgg, TyA.size (T := T) (n := n), h1]
inductive Seg : List AV → Nat → List SV → Prop
  | nil {l : List AV} {off : Nat} : Seg l off []
  | cons {l : List AV} {off : Nat} {s : SV} {cs : List SV} (h : l[off]? = some (.sv s)) (t : Seg l (off + 1) cs) : Seg l off (s :: cs)
theorem Seg.vals {E : Env} {l : List AV} {vs : List Value} (h : AllV E l vs) : ∀ {off : Nat} {cs : List SV}, Seg l off cs → ∃ us : List Value, SV.All E.M cs us ∧ ∀ (j : Nat) (v : Value), us[j]? = some v → vs[off + j]? = some v := by
  intro off cs hs
  induction hs with
  | nil => exact ⟨[], trivial, by simp⟩
  | @cons off s cs h1 _ ih =>
    obtain ⟨us, h2, h3⟩ := ih
    obtain ⟨x, hx, hs⟩ := h.get h1
    refine ⟨x :: us, ⟨hs, h2⟩, fun j v hj => ?_⟩
    cases j with
    | zero => simp at hj; subst hj; exact hx
    | succ j => rw [show off + (j + 1) = off + 1 + j by omega]; exact h3 j v (by simpa using hj)
theorem RT.load (hg : Gd ops S gd rg) {n : Nat} [tA : TyA P T n] {j off : Nat} {B : Box} {cs : List SV} (hx : S.ev x = .ptr j off) (hB : S.b j = some B) (hcs : Seg B.cells off cs) (hn : cs.length = n) (hd : d < S.n)
    (next : RunT P C ops nd K rest (⟨rg ++ okeys x, [j], [], ⟨some (d, .sv (.agg cs)), [], []⟩⟩ :: acc) (S.set d (.sv (.agg cs)))) : RunT P C ops nd K (⟨some d, .load T x, ty, pos, aft, gd⟩ :: rest) acc S :=
  RT.value hg (okeys x) [j] [] (.sv (.agg cs)) hd (by intro c h; cases h) (fun S' ht hb _ E a w h => by
    have h1 : a.eval x = .pointer (some ⟨E.β j, off, none⟩) := by have h1 := h.ev x; rw [ev_congr (fun _ h => h) ht, hx] at h1; exact h1
    obtain ⟨_, _, _, vs, hv, hall⟩ := h.bx j B (by rw [hb j (by simp)]; exact hB)
    obtain ⟨us, hus, hget⟩ := hcs.vals hall
    have hl := hus.length
    refine ⟨.agg ⟨us⟩, ?_, ⟨us, rfl, hus⟩, nomb⟩
    have := run_loadAgg (P := P) (T := T) (n := n) (w := w) (b := E.β j) (o := off) (vs := us) (by omega) (fun i v e => by
      simp [World.cell?, hv, hget i v e])
    simp [execOp, h1, Instr.loadAt, Instr.sureAddr, this]) next
theorem RT.loadV (hg : Gd ops S gd rg) [tV : TyV P T] {j off : Nat} {B : Box} {s : AV} (hx : S.ev x = .ptr j off) (hB : S.b j = some B) (hn : B.cells[off]? = some s) (hd : d < S.n)
    (next : RunT P C ops nd K rest (⟨rg ++ okeys x, [j], [], ⟨some (d, s), [], []⟩⟩ :: acc) (S.set d s)) : RunT P C ops nd K (⟨some d, .load T x, ty, pos, aft, gd⟩ :: rest) acc S :=
  RT.value hg (okeys x) [j] [] s hd (by intro c h; cases h) (fun S' ht hb _ E a w h => by
    have h1 : a.eval x = .pointer (some ⟨E.β j, off, none⟩) := by have h1 := h.ev x; rw [ev_congr (fun _ h => h) ht, hx] at h1; exact h1
    have hB' : S'.b j = some B := by rw [hb j (by simp)]; exact hB
    obtain ⟨_, _, _, vs, hv, hall⟩ := h.bx j B hB'
    obtain ⟨u, hu, hs⟩ := hall.get hn
    have hm : s ∈ B.cells := List.mem_of_getElem? hn
    refine ⟨u, ?_, hs, h.wf.bb j B hB' s hm, h.wf.br j B hB' s hm⟩
    have hc : w.cell? ⟨E.β j, off, none⟩ = some u := by simp [World.cell?, hv, hu]
    simp [execOp, h1, Instr.loadAt, Instr.sureAddr, loadVar, tV.isAgg, hc]) next
theorem ref_vals {M : Mem} {b : Nat} : ∀ (l : List SV) (o : Nat), (∀ (k : Nat) (s : SV), l[k]? = some s → ∃ y, M b (o + k) = some y ∧ y.oneCell' = true ∧ s.h M y) → ∃ vs : List Value, SV.All M l vs ∧ ∀ (k : Nat) (v : Value), vs[k]? = some v → M b (o + k) = some v ∧ v.oneCell' = true
  | [], _, _ => ⟨[], trivial, by simp⟩
  | s :: l, o, hl => by
    obtain ⟨y, hy, hy1, hs⟩ := hl 0 s rfl
    obtain ⟨vs, h1, h2⟩ := ref_vals (M := M) (b := b) l (o + 1) (fun k s hk => by
      have := hl (k + 1) s (by simpa using hk)
      rwa [show o + (k + 1) = o + 1 + k by omega] at this)
    refine ⟨y :: vs, ⟨hs, h1⟩, fun k v hk => ?_⟩
    cases k with
    | zero => simp at hk; subst hk; exact ⟨hy, hy1⟩
    | succ k => rw [show o + (k + 1) = o + 1 + k by omega]; exact h2 k v (by simpa using hk)
theorem RT.loadR (hg : Gd ops S gd rg) {n : Nat} [tA : TyA P T n] {cells : List SV} (hx : S.ev x = .sv (ref cells)) (hd : d < S.n) {cs : List SV} (hcs : cells.take n = cs) (hn : cs.length = n)
    (next : RunT P C ops nd K rest (⟨rg ++ okeys x, [], [], ⟨some (d, .sv (.agg cs)), [], []⟩⟩ :: acc) (S.set d (.sv (.agg cs)))) : RunT P C ops nd K (⟨some d, .load T x, ty, pos, aft, gd⟩ :: rest) acc S :=
  RT.value hg (okeys x) [] [] (.sv (.agg cs)) hd (by intro c h; cases h) (fun S' ht _ _ E a w h => by
    have h1 := h.ev x
    rw [ev_congr (fun _ h => h) ht, hx] at h1
    obtain ⟨b, o, e, hc⟩ := h1
    obtain ⟨vs, hall, hget⟩ := ref_vals (M := E.M) (b := b) cs o (fun k s hk => by
      refine hc k s ?_
      rw [← hcs, List.getElem?_take] at hk
      split at hk
      · exact hk
      · cases hk)
    refine ⟨.agg ⟨vs⟩, ?_, ⟨vs, rfl, hall⟩, nomb⟩
    have hl := hall.length
    have := run_loadAgg (P := P) (T := T) (n := n) (w := w) (b := b) (o := o) (vs := vs) (by omega) (fun i v e => (h.inW _ _ _ (hget i v e).1).cell (hget i v e).2)
    simp [execOp, e, Instr.loadAt, Instr.sureAddr, this]) next
theorem RT.loadRV (hg : Gd ops S gd rg) [tV : TyV P T] {cells : List SV} {s : SV} (hx : S.ev x = .sv (ref cells)) (hn : cells[0]? = some s) (hd : d < S.n)
    (next : RunT P C ops nd K rest (⟨rg ++ okeys x, [], [], ⟨some (d, .sv s), [], []⟩⟩ :: acc) (S.set d (.sv s))) : RunT P C ops nd K (⟨some d, .load T x, ty, pos, aft, gd⟩ :: rest) acc S :=
  RT.value hg (okeys x) [] [] (.sv s) hd (by intro c h; cases h) (fun S' ht hb _ E a w h => by
    have h1 := h.ev x
    rw [ev_congr (fun _ h => h) ht, hx] at h1
    obtain ⟨b, o, e, hc⟩ := h1
    obtain ⟨u, hu, hu1, hs⟩ := hc 0 s hn
    refine ⟨u, ?_, hs, nomb⟩
    have hcc : w.cell? ⟨b, o, none⟩ = some u := (h.inW _ _ _ hu).cell hu1
    simp [execOp, e, Instr.loadAt, Instr.sureAddr, loadVar, tV.isAgg, hcc]) next
end steps
end Go.Fw
namespace Go.Fw
open Go.RowKit
def spl {α : Type} : List α → Nat → List α → List α
  | l, _, [] => l
  | l, k, x :: xs => spl (l.set k x) (k + 1) xs
theorem spl_length {α : Type} : ∀ (xs l : List α) (k : Nat), (spl l k xs).length = l.length
  | [], _, _ => rfl
  | x :: xs, l, k => by rw [spl, spl_length xs]; simp
theorem spl_all {E : Env} : ∀ {xs : List AV} {us : List Value} {l : List AV} {vs : List Value} {k : Nat}, AllV E l vs → AllV E xs us → AllV E (spl l k xs) (spl vs k us)
  | [], [], _, _, _, h, _ => h
  | s :: xs, u :: us, l, vs, k, h, hx => by rw [spl, spl]; exact spl_all (h.set hx.1) hx.2
  | [], _ :: _, _, _, _, _, h => h.elim
  | _ :: _, [], _, _, _, _, h => h.elim
theorem spl_whole {α : Type} : ∀ (xs pre l : List α), l.length = xs.length → spl (pre ++ l) pre.length xs = pre ++ xs
  | [], pre, l, h => by simp at h; subst h; rfl
  | x :: xs, pre, [], h => by simp at h
  | x :: xs, pre, y :: l, h => by
    rw [spl]
    have : (pre ++ y :: l).set pre.length x = (pre ++ [x]) ++ l := by simp
    rw [this, show pre.length + 1 = (pre ++ [x]).length by simp, spl_whole xs (pre ++ [x]) l (by simpa using h)]
    simp
def putBlk (w : World) (b : Nat) (vs : List Value) (T : TypeId) : World := { w with heap := w.heap.setIfInBounds b (.cells ⟨vs⟩ T (0, 0)) }
theorem setCell_put {w : World} {b o : Nat} {vs : List Value} {T : TypeId} (hv : w.heap[b]? = some (.cells ⟨vs⟩ T (0, 0))) (u : Value) : w.setCell ⟨b, o, none⟩ u = putBlk w b (vs.set o u) T := by
  have hb := (Array.getElem?_eq_some_iff.1 hv)
  unfold World.setCell putBlk
  congr 1
  apply Array.ext_getElem?
  intro i
  rw [Array.getElem?_modify, Array.getElem?_setIfInBounds]
  by_cases h : b = i
  · subst h
    rw [if_pos rfl, if_pos rfl, if_pos hb.1, hv]
    simp
  · rw [if_neg h, if_neg h]
theorem putBlk_at {w : World} {b : Nat} {vs us : List Value} {T : TypeId} (hv : w.heap[b]? = some (.cells ⟨vs⟩ T (0, 0))) : (putBlk w b us T).heap[b]? = some (.cells ⟨us⟩ T (0, 0)) := by
  have hb := (Array.getElem?_eq_some_iff.1 hv)
  simp [putBlk, hb.1]
theorem putBlk_put {w : World} {b : Nat} {us vs : List Value} {T : TypeId} : putBlk (putBlk w b us T) b vs T = putBlk w b vs T := by
  simp [putBlk]
theorem putBlk_same {w : World} {b : Nat} {vs : List Value} {T : TypeId} (hv : w.heap[b]? = some (.cells ⟨vs⟩ T (0, 0))) : putBlk w b vs T = w := by
  have hb := (Array.getElem?_eq_some_iff.1 hv)
  unfold putBlk
  have : w.heap.setIfInBounds b (.cells ⟨vs⟩ T (0, 0)) = w.heap := by
    apply Array.ext_getElem?
    intro i
    rw [Array.getElem?_setIfInBounds]
    by_cases h : b = i
    · subst h; rw [if_pos rfl, if_pos hb.1, hv]
    · rw [if_neg h]
  rw [this]
theorem putBlk_other {w : World} {b k : Nat} {us : List Value} {T : TypeId} (h : k ≠ b) : (putBlk w b us T).heap[k]? = w.heap[k]? := by
  simp only [putBlk, Array.getElem?_setIfInBounds]
  rw [if_neg (Ne.symm h)]
theorem putBlk_size {w : World} {b : Nat} {us : List Value} {T : TypeId} : (putBlk w b us T).heap.size = w.heap.size := by simp [putBlk]
theorem run_storeCells_box {P : Program} {b : Nat} {T : TypeId} : ∀ (us : List Value) (i o : Nat) (w : World) (vs : List Value), (∀ u ∈ us, u.oneCell' = true) → w.heap[b]? = some (.cells ⟨vs⟩ T (0, 0)) → o + i + us.length ≤ vs.length →
    (storeCells ⟨b, o, none⟩ us i).run P w = .ok () (putBlk w b (spl vs (o + i) us) T)
  | [], i, o, w, vs, _, hv, _ => by
    rw [spl, putBlk_same hv]; rfl
  | u :: us, i, o, w, vs, h1, hv, hl => by
    have hu := h1 u (by simp)
    have hc : w.cell? ⟨b, o + i, none⟩ = some (vs[o + i]'(by simp at hl; omega)) := by
      simp [World.cell?, hv]
    have hf : w.frozen? ⟨b, o + i, none⟩ = false := by simp [World.frozen?, hv]
    have hs := run_store P w ⟨b, o + i, none⟩ u .plain hu
    rw [hc, hf] at hs
    have ih := run_storeCells_box (P := P) us (i + 1) o (putBlk w b (vs.set (o + i) u) T) (vs.set (o + i) u) (fun v hv => h1 v (List.mem_cons_of_mem _ hv)) (putBlk_at hv) (by simp at hl ⊢; omega)
    rw [storeCells, spl]
    simp only [Sem.run_bind, addr_add, hs]
    simp only [Bool.false_eq_true, if_false, Result.andThen_ok]
    rw [setCell_put hv, ih, putBlk_put]
    rfl
section steps
variable {P : Program} {C : Ctx} {ops : Array Oper} {S : AS} {nd : Bool} {K : List Ac → AS → Prop} {rest : List Oper} {acc : List Ac}
variable {gd : Option (Nat × Bool)} {rg : List Nat} {d : Nat} {ty : TypeId} {pos : String} {aft : Array Edge} {x y z : Operand} {T U E0 : TypeId}
theorem HoldsAt.putBox {E : Env} {a : Act} {w : World} (h : HoldsAt C S E a w) {j : Nat} {B : Box} (hB : S.b j = some B) {cells : List AV} {vs : List Value} (hc : AllV E cells vs) (hl : ∀ x ∈ cells, (∀ j, x.mb j → ∃ B, S.b j = some B) ∧ (∀ j, x.mr j → S.r j ≠ .un)) :
    HoldsAt C (S.setB j ⟨B.T, cells⟩) E a (putBlk w (E.β j) vs B.T) := by
  have hbj := h.bx j B hB
  have liveB : ∀ k, (∃ B, S.b k = some B) → ∃ B', (S.setB j ⟨B.T, cells⟩).b k = some B' := fun k hk => by
    by_cases e : k = j
    · subst e; exact ⟨_, AS.setB_same _ _ _⟩
    · obtain ⟨B', hB'⟩ := hk; exact ⟨B', by rw [AS.setB_other _ _ _ _ e]; exact hB'⟩
  have hinW : E.M.inW (putBlk w (E.β j) vs B.T) := inW_of_same h.inW fun b ⟨o, v, e⟩ => putBlk_other (by
    rintro rfl
    rw [hbj.2.1 o] at e; cases e)
  exact {
    wf := by
      refine ⟨fun s k hk => liveB k (h.wf.tb s k hk), h.wf.tr, fun i B' hB' x hx k hk => ?_, fun i B' hB' x hx k hk => ?_⟩
      · by_cases hi : i = j
        · subst hi; rw [AS.setB_same] at hB'; cases hB'; exact liveB k ((hl x hx).1 k hk)
        · rw [AS.setB_other _ _ _ _ hi] at hB'; exact liveB k (h.wf.bb i B' hB' x hx k hk)
      · by_cases hi : i = j
        · subst hi; rw [AS.setB_same] at hB'; cases hB'; exact (hl x hx).2 k hk
        · rw [AS.setB_other _ _ _ _ hi] at hB'; exact h.wf.br i B' hB' x hx k hk
    marks := by
      obtain ⟨ds, h1, h2, h3⟩ := h.marks
      refine ⟨ds, h1, h2, fun r hr => ?_⟩
      obtain ⟨h4, h5, h6⟩ := h3 r hr
      refine ⟨h4, h5, ?_⟩
      rw [putBlk_other (by rintro rfl; obtain ⟨_, _, _, us, hu, _⟩ := hbj; rw [h6] at hu; cases hu)]; exact h6
    size := h.size
    os := h.os
    tape := h.tape
    output := h.output
    grown := by rw [putBlk_size]; exact h.grown
    frame := fun k hk hk' => by
      have hne : k ≠ E.β j := by
        rintro rfl
        rcases hbj.1 with h1 | h1
        · omega
        · exact hk' (C.hbo _ h1)
      rw [putBlk_other hne]; exact h.frame k hk hk'
    m0 := h.m0
    mnew := h.mnew
    inW := hinW
    tm := h.tm
    bx := fun i B' hB' => by
      by_cases hi : i = j
      · subst hi
        rw [AS.setB_same] at hB'
        cases hB'
        obtain ⟨h1, h2, h3, vs', h4, _⟩ := hbj
        exact ⟨h1, h2, h3, vs, putBlk_at h4, hc⟩
      · rw [AS.setB_other _ _ _ _ hi] at hB'
        obtain ⟨h1, h2, h3, vs', h4, h5⟩ := h.bx i B' hB'
        exact ⟨h1, h2, h3, vs', by rw [putBlk_other (fun e => hi (h.inj i j B' B hB' hB e))]; exact h4, h5⟩
    inj := fun i k B1 B2 h1 h2 e => by
      have f : ∀ i B1, (S.setB j ⟨B.T, cells⟩).b i = some B1 → ∃ B2, S.b i = some B2 := by
        intro i B1 h
        by_cases hi : i = j
        · subst hi; exact ⟨B, hB⟩
        · rw [AS.setB_other _ _ _ _ hi] at h; exact ⟨_, h⟩
      obtain ⟨_, g1⟩ := f i B1 h1
      obtain ⟨_, g2⟩ := f k B2 h2
      exact h.inj i k _ _ g1 g2 e
    rx := fun i R hR => by
      obtain ⟨⟨us, h1, h2⟩, h3⟩ := h.rx i R hR
      refine ⟨⟨us, ownsRow_same h1 fun g hg => putBlk_other (fun e => (h3 g hg).2.2.2 j B hB e.symm), h2⟩, fun g hg => ?_⟩
      obtain ⟨h4, h5, h6, h7⟩ := h3 g hg
      refine ⟨h4, h5, h6, fun k B' hB' => ?_⟩
      by_cases hk : k = j
      · subst hk; exact h7 k B hB
      · rw [AS.setB_other _ _ _ _ hk] at hB'; exact h7 k B' hB'
    rinj := h.rinj
    pin := h.pin
    pinr := h.pinr
    olt := fun b hb => by rw [putBlk_size]; exact h.olt b hb
    jj := C.jf _ _ _ _ _ _ _ h.jj (Mem.le_refl _) hinW (fun _ _ _ e => .inl e)
      (fun b hb => putBlk_other (by
        rintro rfl
        rcases hb with hb | hb
        · rcases hbj.1 with h1 | h1
          · omega
          · exact hb.2 h1
        · exact hbj.2.2.1 hb)) rfl rfl rfl (by rw [putBlk_size]; exact Nat.le_refl _) }
theorem RT.storeG (hg : Gd ops S gd rg) {n : Nat} {j off : Nat} {B : Box} {cs : List AV} (rr : List Nat) (hx : S.ev x = .ptr j off) (hB : S.b j = some B) (hy : ∀ (S' : AS) (E : Env) (a : Act) (w : World), HoldsAt C S' E a w → S'.ev y = S.ev y → (∀ i ∈ rr, S'.r i = S.r i) → ∃ us : List Value, (a.eval y).cells = ⟨us⟩ ∧ AllV E cs us ∧ (∀ u ∈ us, u.oneCell' = true) ∧ ∀ x ∈ cs, (∀ j, x.mb j → ∃ B, S'.b j = some B) ∧ (∀ j, x.mr j → S'.r j ≠ .un))
    (hs : ∀ w : World, (sizeOf T).run P w = .ok n w) (hcl : cs.length = n) (hn : off + n ≤ B.cells.length) {cells : List AV} (hcs : spl B.cells off cs = cells)
    (next : RunT P C ops nd K rest (⟨rg ++ (okeys x ++ okeys y), [j], rr, ⟨none, [(j, ⟨B.T, cells⟩)], []⟩⟩ :: acc) (S.setB j ⟨B.T, cells⟩)) : RunT P C ops nd K (⟨none, .store T x y, ty, pos, aft, gd⟩ :: rest) acc S := by
  refine .inl ⟨_, [j], rr, _, ?_, next⟩
  rintro S' hn' ht hb' hrr i a w L Q ho ⟨E, h⟩ hL
  refine wpOp_of (C := C) ho (hg.wanted h (fun s hs => ht s (List.mem_append_left _ hs)) rfl) ?_
  have h1 : a.eval x = .pointer (some ⟨E.β j, off, none⟩) := by
    have h1 := h.ev x; rw [ev_congr (fun _ h => List.mem_append_right _ (List.mem_append_left _ h)) ht, hx] at h1; exact h1
  obtain ⟨us, hu, hall, hone, hlv⟩ := hy S' E a w h (ev_congr (fun _ h => List.mem_append_right _ (List.mem_append_right _ h)) ht) hrr
  have hB' : S'.b j = some B := by rw [hb' j (by simp)]; exact hB
  obtain ⟨_, _, _, vs, hv, hvs⟩ := h.bx j B hB'
  have hl1 := hall.length
  have hl2 := hvs.length
  have hst := run_storeCells_box (P := P) us 0 off w vs hone hv (by omega)
  have hr : (execOp a.eval ⟨none, .store T x y, ty, pos, aft, gd⟩).run P w = .ok .skip (putBlk w (E.β j) (spl vs off us) B.T) := by
    simp only [execOp, h1, Instr.storeAt, Instr.sureAddr, storeVar, hu]
    simp only [Sem.run_bind, Sem.run_pure, Result.andThen_ok, hs]
    simp only [show ¬ (us.length ≠ n) from by omega, List.size_toArray, if_false]
    simp only [Nat.add_zero] at hst
    simp only [Result.andThen_ok, hst]
  refine wpIn_of (C := C) (by intro c h; cases h) hr (hL _ _ ⟨E, hcs ▸ h.putBox hB' (spl_all hvs hall) ?_⟩)
  have mem_spl : ∀ (xs l : List AV) (k : Nat) (x : AV), x ∈ spl l k xs → x ∈ l ∨ x ∈ xs := by
    intro xs
    induction xs with
    | nil => intro l k x hx; exact .inl hx
    | cons z xs ih =>
      intro l k x hx
      rw [spl] at hx
      rcases ih _ _ _ hx with h1 | h1
      · rcases List.mem_or_eq_of_mem_set h1 with h2 | h2
        · exact .inl h2
        · exact .inr (by simp [h2])
      · exact .inr (List.mem_cons_of_mem _ h1)
  intro x hx
  rcases mem_spl _ _ _ _ hx with hx | hx
  · exact ⟨h.wf.bb j B hB' x hx, h.wf.br j B hB' x hx⟩
  · exact hlv x hx
theorem all_sv_live {S : AS} {cs : List SV} : ∀ x ∈ cs.map AV.sv, (∀ j, x.mb j → ∃ B, S.b j = some B) ∧ (∀ j, x.mr j → S.r j ≠ .un) := fun x hx => by
  obtain ⟨s, _, rfl⟩ := List.mem_map.1 hx
  exact nomb
theorem RT.store (hg : Gd ops S gd rg) {n : Nat} [tA : TyA P T n] {j : Nat} {B : Box} {cs : List SV} [o1 : Ones cs] (hx : S.ev x = .ptr j 0) (hB : S.b j = some B) (hy : S.ev y = .sv (.agg cs)) (hcl : cs.length = n) (hn : B.cells.length = n)
    (next : RunT P C ops nd K rest (⟨rg ++ (okeys x ++ okeys y), [j], [], ⟨none, [(j, ⟨B.T, cs.map AV.sv⟩)], []⟩⟩ :: acc) (S.setB j ⟨B.T, cs.map AV.sv⟩)) : RunT P C ops nd K (⟨none, .store T x y, ty, pos, aft, gd⟩ :: rest) acc S := by
  refine RT.storeG hg [] hx hB (cs := cs.map AV.sv) ?_ (fun w => tA.size w) (by simp [hcl]) (by omega) (cells := cs.map AV.sv) ?_ next
  · intro S' E a w h e _
    have h2 := h.ev y
    rw [e, hy] at h2
    obtain ⟨us, hu, hall⟩ := h2
    exact ⟨us, by rw [hu]; rfl, AllV.of_sv hall, o1.h E.M us hall, all_sv_live⟩
  · exact spl_whole (cs.map AV.sv) [] B.cells (by simp; omega)
theorem RT.storeV (hg : Gd ops S gd rg) [tV : TyV P T] {j off : Nat} {B : Box} {s : AV} [o1 : OneA s] (hx : S.ev x = .ptr j off) (hB : S.b j = some B) (hy : S.ev y = s) (hn : off < B.cells.length) {cells : List AV} (hcs : B.cells.set off s = cells)
    (next : RunT P C ops nd K rest (⟨rg ++ (okeys x ++ okeys y), [j], [], ⟨none, [(j, ⟨B.T, cells⟩)], []⟩⟩ :: acc) (S.setB j ⟨B.T, cells⟩)) : RunT P C ops nd K (⟨none, .store T x y, ty, pos, aft, gd⟩ :: rest) acc S := by
  refine RT.storeG hg [] hx hB (cs := [s]) ?_ (fun w => tV.size w) rfl hn (cells := cells) (by rw [← hcs]; rfl) next
  intro S' E a w h e _
  have h2 := h.ev y
  rw [e, hy] at h2
  have := o1.h _ _ h2
  refine ⟨[a.eval y], oneCell_cells this, ⟨h2, trivial⟩, by simpa using this, fun z hz => ?_⟩
  obtain rfl : z = s := by simpa using hz
  exact ev_live h.wf (e.trans hy)
theorem RT.storeR (hg : Gd ops S gd rg) [tV : TyV P T] {j off i : Nat} {B : Box} {R : Row} (hx : S.ev x = .ptr j off) (hB : S.b j = some B) (hy : S.ev y = .row i) (hR : S.r i = .live R) (hn : off < B.cells.length) {cells : List AV} (hcs : B.cells.set off (.row i) = cells)
    (next : RunT P C ops nd K rest (⟨rg ++ (okeys x ++ okeys y), [j], [i], ⟨none, [(j, ⟨B.T, cells⟩)], []⟩⟩ :: acc) (S.setB j ⟨B.T, cells⟩)) : RunT P C ops nd K (⟨none, .store T x y, ty, pos, aft, gd⟩ :: rest) acc S := by
  refine RT.storeG hg [i] hx hB (cs := [.row i]) ?_ (fun w => tV.size w) rfl hn (cells := cells) (by rw [← hcs]; rfl) next
  intro S' E a w h e hr
  have h2 := h.ev y
  rw [e, hy] at h2
  obtain ⟨⟨us, ho, _⟩, _⟩ := h.rx i R (by rw [hr i (by simp)]; exact hR)
  have hone : (a.eval y).oneCell' = true := by
    rw [show a.eval y = E.ν i from h2]
    rcases ho.2 with ⟨h3, _⟩ | ⟨g, cap, cur, h3, _⟩ <;> rw [h3] <;> rfl
  refine ⟨[a.eval y], oneCell_cells hone, ⟨h2, trivial⟩, by simpa using hone, fun z hz => ?_⟩
  obtain rfl : z = .row i := by simpa using hz
  exact ev_live h.wf (e.trans hy)
theorem run_fieldAt {f off : Nat} [hf : Fld P T f off U] (hU : ∀ w : World, ∃ n, (sizeOf U).run P w = .ok (n + 1) w) (b o : Nat) (w : World) : (Instr.fieldAt T (.pointer (some ⟨b, o, none⟩)) f).run P w = .ok (.pointer (some ⟨b, o + off, none⟩)) w := by
  have h := hf.h
  cases hu : P.underlying T with
  | none => rw [hu] at h; cases h
  | some u =>
    rw [hu] at h
    cases u with
    | struct fs =>
      simp only at h
      cases hF : fs[f]? with
      | none => rw [hF] at h; cases h
      | some F =>
        rw [hF] at h
        simp only [Option.map_some, Option.some.injEq, Prod.mk.injEq] at h
        obtain ⟨h1, h2⟩ := h
        obtain ⟨n, hn⟩ := hU w
        rw [← h2] at hn
        simp [Instr.fieldAt, underlying, hu, hF, Instr.sureAddr, fieldPlace, hn, addr_add, h1]
    | _ => cases h
class Sized (P : Program) (U : TypeId) : Prop where
  h : ∀ w : World, ∃ n, (sizeOf U).run P w = .ok (n + 1) w
instance [t : TyV P U] : Sized P U := ⟨fun w => ⟨0, t.size w⟩⟩
instance {n : Nat} [t : TyA P U (n + 1)] : Sized P U := ⟨fun w => ⟨n, t.size w⟩⟩
theorem RT.fieldAddr (hg : Gd ops S gd rg) {f off : Nat} [hf : Fld P T f off U] [sU : Sized P U] {j o : Nat} (hx : S.ev x = .ptr j o) (hd : d < S.n) {o' : Nat} (ho' : o + off = o')
    (next : RunT P C ops nd K rest (⟨rg ++ okeys x, [], [], ⟨some (d, .ptr j o'), [], []⟩⟩ :: acc) (S.set d (.ptr j o'))) : RunT P C ops nd K (⟨some d, .fieldAddr T x f, ty, pos, aft, gd⟩ :: rest) acc S :=
  RT.value hg (okeys x) [] [] (.ptr j o') hd (by intro c h; cases h) (fun S' ht _ _ E a w h => by
    have hx' : S'.ev x = .ptr j o := by rw [ev_congr (fun _ h => h) ht, hx]
    have h1 : a.eval x = .pointer (some ⟨E.β j, o, none⟩) := by have h1 := h.ev x; rw [hx'] at h1; exact h1
    have := run_fieldAt (P := P) (T := T) (f := f) (off := off) (U := U) sU.h (E.β j) o w
    refine ⟨.pointer (some ⟨E.β j, o', none⟩), by simp [execOp, h1, this, ho'], rfl, ?_⟩
    have hl := ev_live h.wf hx'
    exact ⟨fun k hk => hl.1 k hk, fun k hk => hk.elim⟩) next
theorem ref_drop {cells : List SV} {off : Nat} {M : Mem} {b o : Nat} (h : ∀ (k : Nat) (s : SV), cells[k]? = some s → ∃ y, M b (o + k) = some y ∧ y.oneCell' = true ∧ s.h M y) : (ref (cells.drop off)).h M (.pointer (some ⟨b, o + off, none⟩)) :=
  ⟨b, o + off, rfl, fun k s hk => by
    rw [List.getElem?_drop] at hk
    have := h (off + k) s hk
    rwa [show o + (off + k) = o + off + k by omega] at this⟩
theorem RT.fieldAddrR (hg : Gd ops S gd rg) {f off : Nat} [hf : Fld P T f off U] [sU : Sized P U] {cells cs : List SV} (hx : S.ev x = .sv (ref cells)) (hd : d < S.n) (hcs : cells.drop off = cs)
    (next : RunT P C ops nd K rest (⟨rg ++ okeys x, [], [], ⟨some (d, .sv (ref cs)), [], []⟩⟩ :: acc) (S.set d (.sv (ref cs)))) : RunT P C ops nd K (⟨some d, .fieldAddr T x f, ty, pos, aft, gd⟩ :: rest) acc S :=
  RT.value hg (okeys x) [] [] (.sv (ref cs)) hd (by intro c h; cases h) (fun S' ht _ _ E a w h => by
    have h1 := h.ev x
    rw [ev_congr (fun _ h => h) ht, hx] at h1
    obtain ⟨b, o, e, hc⟩ := h1
    have := run_fieldAt (P := P) (T := T) (f := f) (off := off) (U := U) sU.h b o w
    exact ⟨_, by simp [execOp, e, this], hcs ▸ ref_drop hc, nomb⟩) next
theorem RT.indexAddr (hg : Gd ops S gd rg) {n : Nat} [tS : TySl P T E0 n] {s : SV} {rows : List (List SV)} [hs : Slc s n rows] {kk : IntKind} {i : Int} (row : List SV) (hx : S.ev x = .sv s) (hy : S.ev y = .sv (.v (.int kk i))) (hd : d < S.n) (h0 : 0 ≤ i) (hi : rows[i.toNat]? = some row)
    (next : RunT P C ops nd K rest (⟨rg ++ (okeys x ++ okeys y), [], [], ⟨some (d, .sv (ref row)), [], []⟩⟩ :: acc) (S.set d (.sv (ref row)))) : RunT P C ops nd K (⟨some d, .indexAddr T x y, ty, pos, aft, gd⟩ :: rest) acc S :=
  RT.value hg (okeys x ++ okeys y) [] [] (.sv (ref row)) hd (by intro c h; cases h) (fun S' ht _ _ E a w h => by
    have h1 := h.ev x
    rw [ev_congr (fun _ h => List.mem_append_left _ h) ht, hx] at h1
    have h2 : a.eval y = .int kk i := by have h2 := h.ev y; rw [ev_congr (fun _ h => List.mem_append_right _ h) ht, hy] at h2; exact h2
    have hlt : i.toNat < rows.length := (List.getElem?_eq_some_iff.1 hi).1
    rcases hs.h _ _ h1 with ⟨_, _, e⟩ | ⟨b, o, c, e, hc, hc2, hr⟩
    · subst e; simp at hlt
    · refine ⟨.pointer (some ⟨b, o + i.toNat * n, none⟩), ?_, ⟨b, _, rfl, fun k s hk => ?_⟩, nomb⟩
      · have hsz := tS.size w
        have hb : 0 ≤ i ∧ i < (rows.length : Int) := ⟨h0, by omega⟩
        simp [execOp, h2, e, Instr.indexAt, asIntOf, underlying, tS.u, hsz, addr_add, hb]
      · obtain ⟨y, h3, h5, h4⟩ := (hr i.toNat row hi).2 k s hk
        exact ⟨y, h3, h5, h4⟩) next
theorem RT.len (hg : Gd ops S gd rg) {n m : Nat} [tS : TySl P T E0 m] {s : SV} [hl : Len s n] (hx : S.ev x = .sv s) (hd : d < S.n)
    (next : RunT P C ops nd K rest (⟨rg ++ okeys x, [], [], ⟨some (d, .sv (.v (.int .i64 n))), [], []⟩⟩ :: acc) (S.set d (.sv (.v (.int .i64 n))))) : RunT P C ops nd K (⟨some d, .call ⟨.builtin .len, #[x], #[T]⟩, ty, pos, aft, gd⟩ :: rest) acc S :=
  RT.value hg (okeys x) [] [] (.sv (.v (.int .i64 n))) hd (by intro c h; cases h) (fun S' ht _ _ E a w h => by
    have h1 := h.ev x
    rw [ev_congr (fun _ h => h) ht, hx] at h1
    obtain ⟨b, c, e⟩ := hl.h _ _ h1
    exact ⟨_, by simp [execOp, resolve, invoke, builtin, Builtin.len_, underlying, tS.u, e, goInt], rfl, nomb⟩) next
theorem RT.lenR (hg : Gd ops S gd rg) {m : Nat} [tS : TySl P T E0 m] {i : Nat} {R : Row} (hx : S.ev x = .row i) (hR : S.r i = .live R) (hd : d < S.n)
    (next : RunT P C ops nd K rest (⟨rg ++ okeys x, [], [i], ⟨some (d, .sv (.v (.int .i64 R.n))), [], []⟩⟩ :: acc) (S.set d (.sv (.v (.int .i64 R.n))))) : RunT P C ops nd K (⟨some d, .call ⟨.builtin .len, #[x], #[T]⟩, ty, pos, aft, gd⟩ :: rest) acc S :=
  RT.value hg (okeys x) [] [i] (.sv (.v (.int .i64 R.n))) hd (by intro c h; cases h) (fun S' ht _ hr E a w h => by
    have h1 : a.eval x = E.ν i := by have h1 := h.ev x; rw [ev_congr (fun _ h => h) ht, hx] at h1; exact h1
    obtain ⟨⟨us, ho, _⟩, _⟩ := h.rx i R (by rw [hr i (by simp)]; exact hR)
    obtain ⟨b, c, e⟩ : ∃ b c, E.ν i = .slice b R.n c := by
      rcases ho.2 with ⟨h3, h4⟩ | ⟨g, cap, cur, h3, _⟩
      · exact ⟨none, 0, by rw [h3, h4]⟩
      · exact ⟨_, _, h3⟩
    rw [e] at h1
    exact ⟨_, by simp [execOp, resolve, invoke, builtin, Builtin.len_, underlying, tS.u, h1, goInt], rfl, nomb⟩) next
theorem RT.max (hg : Gd ops S gd rg) {k k' : IntKind} {p q : Int} {at_ : Array TypeId} (c : Int) (hx : S.ev x = .sv (.v (.int k p))) (hy : S.ev y = .sv (.v (.int k' q))) (hd : d < S.n) (hc : (if q > p then q else p) = c)
    (next : RunT P C ops nd K rest (⟨rg ++ (okeys x ++ okeys y), [], [], ⟨some (d, .sv (.v (.int k c))), [], []⟩⟩ :: acc) (S.set d (.sv (.v (.int k c))))) : RunT P C ops nd K (⟨some d, .call ⟨.builtin .max, #[x, y], at_⟩, ty, pos, aft, gd⟩ :: rest) acc S :=
  RT.op2 hg (by intro c h; cases h) hx hy hd (fun ρ w h1 h2 => by simp [execOp, resolve, invoke, builtin, Builtin.max_, Builtin.max2, h1, h2, ← hc]) next
theorem RT.min (hg : Gd ops S gd rg) {k k' : IntKind} {p q : Int} {at_ : Array TypeId} (c : Int) (hx : S.ev x = .sv (.v (.int k p))) (hy : S.ev y = .sv (.v (.int k' q))) (hd : d < S.n) (hc : (if q < p then q else p) = c)
    (next : RunT P C ops nd K rest (⟨rg ++ (okeys x ++ okeys y), [], [], ⟨some (d, .sv (.v (.int k c))), [], []⟩⟩ :: acc) (S.set d (.sv (.v (.int k c))))) : RunT P C ops nd K (⟨some d, .call ⟨.builtin .min, #[x, y], at_⟩, ty, pos, aft, gd⟩ :: rest) acc S :=
  RT.op2 hg (by intro c h; cases h) hx hy hd (fun ρ w h1 h2 => by simp [execOp, resolve, invoke, builtin, Builtin.min_, Builtin.min2, h1, h2, ← hc]) next
def AllSv (S : AS) : List Operand → List SV → Prop
  | [], [] => True
  | x :: xs, s :: ss => S.ev x = .sv s ∧ AllSv S xs ss
  | _, _ => False
theorem AllSv.vals {E : Env} {a : Act} {w : World} {S' : AS} (h : HoldsAt C S' E a w) : ∀ {xs : List Operand} {ss : List SV}, AllSv S xs ss → (∀ s ∈ xs.flatMap okeys, S'.t s = S.t s) → SV.All E.M ss (xs.map a.eval)
  | [], [], _, _ => trivial
  | x :: xs, s :: ss, hs, ht => by
    have h1 := h.ev x
    rw [ev_congr (fun t h => List.mem_flatMap.2 ⟨x, by simp, h⟩) ht, hs.1] at h1
    refine ⟨h1, AllSv.vals (xs := xs) (ss := ss) h hs.2 (fun t h => ht t ?_)⟩
    rw [List.flatMap_cons]; exact List.mem_append_right _ h
  | [], _ :: _, h, _ => h.elim
  | _ :: _, [], h, _ => h.elim
theorem RT.call (hg : Gd ops S gd rg) {f : FuncId} [Ent P f] {g : Operand} {xs : Array Operand} {at_ : Array TypeId} {args : List SV} {r : SV} (hp : Pure P f args r) (hf : S.ev g = .sv (.v (.func (.func f) #[] #[]))) (hargs : AllSv S xs.toList args) (hd : d < S.n)
    (next : RunT P C ops nd K rest (⟨rg ++ (okeys g ++ xs.toList.flatMap okeys), [], [], ⟨some (d, .sv r), [], []⟩⟩ :: acc) (S.set d (.sv r))) : RunT P C ops nd K (⟨some d, .call ⟨.value g, xs, at_⟩, ty, pos, aft, gd⟩ :: rest) acc S := by
  refine .inl ⟨_, [], [], _, ?_, next⟩
  rintro S' hn ht _ _ i a w L Q ho ⟨E, h⟩ hL
  refine wpOp_of (C := C) ho (hg.wanted h (fun s hs => ht s (List.mem_append_left _ hs)) rfl) ?_
  have hgf : a.eval g = .func (.func f) #[] #[] := by
    have h1 := h.ev g; rw [ev_congr (fun _ h => List.mem_append_right _ (List.mem_append_left _ h)) ht, hf] at h1; exact h1
  have hall := AllSv.vals h hargs (fun s hs => ht s (List.mem_append_right _ (List.mem_append_right _ hs)))
  have hr : (execOp a.eval ⟨some d, .call ⟨.value g, xs, at_⟩, ty, pos, aft, gd⟩).run P w = .ok (.enter f ⟨xs.toList.map a.eval⟩) w := by
    have e2 : xs.map a.eval = ⟨xs.toList.map a.eval⟩ := by apply Array.ext'; simp
    have e1 := Ent.run (P := P) (f := f) (xs.map a.eval) w
    rw [← e2]
    simp [execOp, resolve, hgf, Deferred.ofValue, invoke, e1]
  refine wpIn_of (C := C) (by intro c h; cases h) hr ?_
  refine ⟨fun h => by simp at h, fr_calls ((hp E.M w _ h.inW hall).mono ?_)⟩
  rintro e w' ⟨v, M', rfl, hM, hnew, hin, hv, hb⟩
  exact hL _ _ ⟨_, (h.grow hM hnew hin hb).put (x := .sv r) hv (by show d < S'.n; omega) nomb⟩
theorem RT.extract (hg : Gd ops S gd rg) {i : Nat} {ss : List SV} {s : SV} (hx : S.ev x = .sv (.tup ss)) (hi : ss[i]? = some s) (hd : d < S.n)
    (next : RunT P C ops nd K rest (⟨rg ++ okeys x, [], [], ⟨some (d, .sv s), [], []⟩⟩ :: acc) (S.set d (.sv s))) : RunT P C ops nd K (⟨some d, .extract x i, ty, pos, aft, gd⟩ :: rest) acc S :=
  RT.value hg (okeys x) [] [] (.sv s) hd (by intro c h; cases h) (fun S' ht _ _ E a w h => by
    have h1 := h.ev x
    rw [ev_congr (fun _ h => h) ht, hx] at h1
    obtain ⟨vs, hv, hall⟩ := h1
    obtain ⟨u, hu, hs⟩ := hall.get hi
    exact ⟨u, by simp [execOp, hv, Instr.extract, hu], hs, nomb⟩) next
end steps
def argAt : List SV → Nat → AV
  | [], _ => .sv .any
  | s :: _, 0 => .sv s
  | _ :: l, n + 1 => argAt l n
def AS.init (n : Nat) (args : List SV) : AS := ⟨n, argAt args, fun _ => none, fun _ => .un, 0, true⟩
theorem argAt_sv : ∀ (l : List SV) (k : Nat), ∃ s, argAt l k = .sv s
  | [], _ => ⟨_, rfl⟩
  | s :: _, 0 => ⟨s, rfl⟩
  | _ :: l, n + 1 => argAt_sv l n
theorem argAt_holds {E : Env} : ∀ {args : List SV} {vs : List Value} {k : Nat} (rest : List Value), SV.All E.M args vs → (argAt args k).holds E ((vs ++ rest)[k]?.getD undef)
  | [], [], _, _, _ => trivial
  | s :: args, v :: vs, 0, _, h => h.1
  | s :: args, v :: vs, k + 1, rest, h => by
    have := argAt_holds (E := E) (k := k) rest (show SV.All E.M args vs from h.2)
    simpa [argAt] using this
  | [], _ :: _, _, _, h => h.elim
  | _ :: _, [], _, _, h => h.elim
def ResVar (P : Program) (S : AS) : ResultVar → SV → Prop
  | .tmp t, s => S.t t = .sv s
  | .cell t T, s => ∃ i B, S.t t = .ptr i 0 ∧ S.b i = some B ∧ ((∃ n cs, TyA P T n ∧ Seg B.cells 0 cs ∧ cs.length = n ∧ s = .agg cs) ∨ (TyV P T ∧ B.cells = [.sv s]))
def ResVars (P : Program) (S : AS) : List ResultVar → List SV → Prop
  | [], [] => True
  | r :: rs, s :: ss => ResVar P S r s ∧ ResVars P S rs ss
  | _, _ => False
def Res (P : Program) (S : AS) (rs : List ResultVar) (r : SV) : Prop := ∃ ss, ResVars P S rs ss ∧ SV.imp (match ss with | [s] => s | ss => .tup ss) r
theorem resVar_run {P : Program} {C : Ctx} {S : AS} {E : Env} {a : Act} {w : World} (h : HoldsAt C S E a w) {rv : ResultVar} {s : SV} (hr : ResVar P S rv s) :
    ∃ v, (match rv with | .tmp t => pure (a.tmps.getD t undef) | .cell b t => do loadVar t (← asAddr (a.tmps.getD b undef)) : Sem Value).run P w = .ok v w ∧ s.h E.M v := by
  cases rv with
  | tmp t =>
    have := h.tm t
    rw [show S.t t = .sv s from hr] at this
    exact ⟨_, rfl, this⟩
  | cell t T =>
    obtain ⟨i, B, h1, h2, h3⟩ := hr
    have ht : a.tmps.getD t undef = .pointer (some ⟨E.β i, 0, none⟩) := by have := h.tm t; rw [h1] at this; exact this
    obtain ⟨_, _, _, vs, hv, hall⟩ := h.bx i B h2
    rcases h3 with ⟨n, cs, tA, hseg, hn, rfl⟩ | ⟨tV, hc⟩
    · obtain ⟨us, hus, hget⟩ := hseg.vals hall
      have hl := hus.length
      refine ⟨.agg ⟨us⟩, ?_, us, rfl, hus⟩
      have := run_loadAgg (P := P) (T := T) (n := n) (w := w) (b := E.β i) (o := 0) (vs := us) (by omega) (fun j v e => by simp [World.cell?, hv]; simpa using hget j v e)
      simp [ht, asAddr, this]
    · rw [hc] at hall
      cases vs with
      | nil => exact hall.elim
      | cons u us =>
        cases us with
        | cons _ _ => exact hall.2.elim
        | nil =>
          refine ⟨u, ?_, hall.1⟩
          have hcc : w.cell? ⟨E.β i, 0, none⟩ = some u := by simp [World.cell?, hv]
          simp [ht, asAddr, loadVar, tV.isAgg, hcc]
theorem resVars_run {P : Program} {C : Ctx} {S : AS} {E : Env} {a : Act} {w : World} (h : HoldsAt C S E a w) : ∀ {rs : List ResultVar} {ss : List SV}, ResVars P S rs ss →
    ∃ vs : List Value, (rs.mapM (fun (rv : ResultVar) => (match rv with | .tmp t => pure (a.tmps.getD t undef) | .cell b t => do loadVar t (← asAddr (a.tmps.getD b undef)) : Sem Value))).run P w = .ok vs w ∧ SV.All E.M ss vs
  | [], [], _ => ⟨[], rfl, trivial⟩
  | r :: rs, s :: ss, hr => by
    obtain ⟨v, h1, h2⟩ := resVar_run h hr.1
    obtain ⟨vs, h3, h4⟩ := resVars_run h hr.2
    refine ⟨v :: vs, ?_, h2, h4⟩
    rw [List.mapM_cons]
    simp only [Sem.run_bind, h1, Result.andThen_ok, h3, Sem.run_pure]
  | [], _ :: _, h => h.elim
  | _ :: _, [], h => h.elim
theorem res_run {P : Program} {C : Ctx} {S : AS} {E : Env} {a : Act} {w : World} (h : HoldsAt C S E a w) {fn : Func} {ss : List SV} (hss : ResVars P S fn.results.toList ss) :
    ∃ v, (results fn a.tmps).run P w = .ok v w ∧ (match ss with | [s] => s | ss => SV.tup ss).h E.M v := by
  obtain ⟨us, hus, hall⟩ := resVars_run h hss
  unfold results
  rw [← Array.toArray_toList (xs := fn.results), List.mapM_toArray]
  simp only [Sem.run_bind, Sem.run_map]
  generalize hm : List.mapM (m := Sem) (β := Value) _ fn.results.toList = m
  have hus' : m.run P w = .ok us w := by rw [← hm]; exact hus
  rw [hus']
  simp only [Result.andThen_ok, Sem.run_pure]
  refine ⟨_, rfl, ?_⟩
  cases us with
  | nil => cases ss with
    | nil => exact ⟨[], by simp, trivial⟩
    | cons _ _ => exact hall.elim
  | cons u us =>
    cases ss with
    | nil => exact hall.elim
    | cons s ss =>
      cases us with
      | nil => cases ss with
        | nil => simpa using hall.1
        | cons _ _ => exact hall.2.elim
      | cons u' us =>
        cases ss with
        | nil => exact hall.2.elim
        | cons s' ss => exact ⟨u :: u' :: us, by simp, hall⟩
theorem leaves_marks {P : Program} {fn : Func} {tmps : Array Value} {R : Ending → World → Prop} : ∀ (ds : List Nat) (w : World), ds.Nodup → (∀ r ∈ ds, w.heap[r]? = some (.deferred (some []))) →
    (∀ w' : World, w'.os = w.os → w'.tape = w.tape → w'.output = w.output → w'.heap.size = w.heap.size → (∀ k, k ∉ ds → w'.heap[k]? = w.heap[k]?) → ∃ v, (results fn tmps).run P w' = .ok v w' ∧ R (.returned v) w') →
    LeavesInM (Fr none) 0 P fn tmps R (ds.map markOf) .returning w
  | [], w, _, _, h => by
    obtain ⟨v, h1, h2⟩ := h w rfl rfl rfl rfl (fun _ _ => rfl)
    exact ⟨v, h1, h2⟩
  | r :: ds, w, hnd, hr, h => by
    have hr0 := hr r (by simp)
    obtain ⟨hnr, hnd'⟩ := List.nodup_cons.1 hnd
    have hsz := (Array.getElem?_eq_some_iff.1 hr0).1
    refine ⟨by simp, .inl ⟨r, { w with heap := w.heap.setIfInBounds r (.deferred none) }, rfl, ?_, ?_⟩⟩
    · simp [Instr.takeDeferred, getObj, setObj, Sem.run, hr0, bind, Sem.bind, pure]
    · refine leaves_marks ds _ hnd' (fun r' hr' => ?_) (fun w' h1 h2 h3 h4 h5 => ?_)
      · have hne : r ≠ r' := by rintro rfl; exact hnr hr'
        rw [Array.getElem?_setIfInBounds, if_neg hne]
        exact hr r' (List.mem_cons_of_mem _ hr')
      · refine h w' h1 h2 h3 (by rw [h4]; simp) (fun k hk => ?_)
        rw [List.mem_cons, not_or] at hk
        rw [h5 k hk.2, Array.getElem?_setIfInBounds, if_neg (Ne.symm hk.1)]
theorem HoldsAt.unmarked {C : Ctx} {S : AS} {E : Env} {a : Act} {w w' : World} (h : HoldsAt C S E a w) {ds : List Nat} (hds : ∀ r ∈ ds, C.w0.heap.size ≤ r ∧ ¬ E.O r ∧ w.heap[r]? = some (.deferred (some [])))
    (h1 : w'.os = w.os) (h2 : w'.tape = w.tape) (h3 : w'.output = w.output) (h4 : w'.heap.size = w.heap.size) (h5 : ∀ k, k ∉ ds → w'.heap[k]? = w.heap[k]?) : HoldsAt C S E { a with defers := [] } w' := by
  have cell : ∀ (k : Nat) (vs : Array Value) (T : TypeId), w.heap[k]? = some (Obj.cells vs T (0, 0)) → w'.heap[k]? = w.heap[k]? := fun k vs T hk => h5 k (fun hm => by rw [(hds k hm).2.2] at hk; cases hk)
  have hin : E.M.inW w' := inW_of_same h.inW fun b ⟨o, v, e⟩ => h5 b (fun hm => by
    exact (h.inW b o v e).no (by simp [World.cell?, (hds b hm).2.2]) (fun es ck q => by rw [(hds b hm).2.2] at q; cases q) (fun c T q => by rw [(hds b hm).2.2] at q; cases q))
  exact {
    wf := h.wf
    marks := ⟨[], rfl, List.nodup_nil, by simp⟩
    size := h.size
    os := h1.trans h.os
    tape := h2.trans h.tape
    output := h3.trans h.output
    grown := by rw [h4]; exact h.grown
    frame := fun k hk hk' => by rw [h5 k (fun hm => by have := (hds k hm).1; omega)]; exact h.frame k hk hk'
    m0 := h.m0
    mnew := h.mnew
    inW := hin
    tm := h.tm
    bx := fun i B hB => by
      obtain ⟨h6, h7, h8, vs, h9, h10⟩ := h.bx i B hB
      exact ⟨h6, h7, h8, vs, by rw [cell _ _ _ h9]; exact h9, h10⟩
    inj := h.inj
    rx := fun i R hR => by
      obtain ⟨⟨us, h6, h7⟩, h8⟩ := h.rx i R hR
      refine ⟨⟨us, ownsRow_same h6 fun g hg => ?_, h7⟩, h8⟩
      rcases h6.2 with ⟨h9, _⟩ | ⟨g', cap, cur, h9, _, h10, _⟩
      · rw [h9] at hg; cases hg
      · rw [h9] at hg; cases hg; exact cell _ _ _ h10
    rinj := h.rinj
    pin := h.pin
    pinr := h.pinr
    olt := fun b hb => by rw [h4]; exact h.olt b hb
    jj := C.jf _ _ _ _ _ _ _ h.jj (Mem.le_refl _) hin (fun _ _ _ e => .inl e) (fun b hb => h5 b (fun hm => by
      rcases hb with hb | hb
      · have := (hds b hm).1; omega
      · exact (hds b hm).2.1 hb)) h1 h2 h3 (by rw [h4]; exact Nat.le_refl _) }
def ctx0 (w : World) (M : Mem) : Ctx := { w0 := w, M0 := M, own := fun _ => False, bor := fun _ => False, pin := fun _ => none, pinr := fun _ => none, ro := none, J := fun _ _ _ _ _ => True, hbo := fun _ h => h, hpr := fun _ _ h => (by cases h), jf := fun _ _ _ _ _ _ _ _ _ _ _ _ _ _ _ _ => trivial }
theorem init_holds {n : Nat} {args : List SV} {vs : List Value} {w : World} {M : Mem} (hM : M.inW w) (hvs : SV.All M args vs) (hn : args.length ≤ n) :
    HoldsAt (ctx0 w M) (AS.init n args) ⟨fun _ => 0, fun _ => .nilIface, fun _ => False, M⟩ { tmps := ⟨vs⟩ ++ Array.replicate (n - (⟨vs⟩ : Array Value).size) undef, defers := [] } w := by
  have hl := hvs.length
  refine ⟨⟨fun s j hj => ?_, fun s j hj => ?_, fun i B e => (by cases e), fun i B e => (by cases e)⟩, ⟨[], rfl, List.nodup_nil, by simp⟩, by simp [AS.init]; omega, rfl, rfl, rfl, Nat.le_refl _, fun _ _ _ => rfl, Mem.le_refl _, fun _ _ _ e => .inl e, hM, fun s => ?_, fun i B e => (by cases e), fun i j B B' e => (by cases e), fun i R e => (by cases e), fun i j R R' e => (by cases e), fun i b e => (by cases e), fun i b e => (by cases e), fun b e => e.elim, trivial⟩
  · obtain ⟨s', hs'⟩ := argAt_sv args s
    rw [show (AS.init n args).t s = argAt args s from rfl, hs'] at hj; exact hj.elim
  · obtain ⟨s', hs'⟩ := argAt_sv args s
    rw [show (AS.init n args).t s = argAt args s from rfl, hs'] at hj; exact hj.elim
  · have := argAt_holds (E := ⟨fun _ => 0, fun _ => .nilIface, fun _ => False, M⟩) (k := s) (List.replicate (n - vs.length) undef) hvs
    rw [Array.getD_eq_getD_getElem?]
    simpa [AS.init, List.getElem?_toArray, Array.getElem?_append, List.getElem?_append, List.getElem?_replicate, Array.getElem?_replicate] using this
theorem pure_of_ok {P : Program} {f : FuncId} {fn : Func} {code : Code} {args : List SV} {r : SV} (hf : P.funcs[f]? = some fn) (hb : fn.body = some code) (hn : args.length ≤ fn.ntmps)
    (h : ∀ (w : World) (M : Mem) (vs : List Value), SV.All M args vs → Ok P (ctx0 w M) code (AS.init fn.ntmps args) (fun e S => (e = .normal ∨ e = .ret) ∧ Res P S fn.results.toList r)) : Pure P f args r := by
  intro M w vs hM hvs
  refine (callsIn_wide (n := 0)).1 (callsIn_of_wp_marks (F := Fence.wide) hf hb trivial ?_)
  refine wpIn_mono (h w M vs hvs _ w ⟨_, init_holds hM hvs hn⟩) ?_
  rintro e a' w' ⟨S', ⟨he, ss, hss, himp⟩, E, hh⟩
  have key : LeavesInM Fence.wide 0 P fn a'.tmps (fun e w' => ∃ v M', e = .returned v ∧ M.le M' ∧ (∀ b o x, M' b o = some x → M b o = some x ∨ w.heap.size ≤ b) ∧ M'.inW w' ∧ r.h M' v ∧ Below w.heap.size w w') a'.defers .returning w' := by
    obtain ⟨ds, h1, h2, h3⟩ := hh.marks
    rw [h1]
    refine leaves_marks ds w' h2 (fun r hr => (h3 r hr).2.2) (fun w2 g1 g2 g3 g4 g5 => ?_)
    have hh2 := hh.unmarked h3 g1 g2 g3 g4 g5
    obtain ⟨v, hv, hs⟩ := res_run hh2 hss
    refine ⟨v, hv, v, E.M, rfl, hh2.m0, fun b o x e => ?_, hh2.inW, himp _ _ hs, hh2.os, hh2.tape, hh2.output, hh2.grown, fun k hk => hh2.frame k hk (fun h => h)⟩
    rcases hh2.mnew b o x e with h | h | h
    · exact .inl h
    · exact .inr h
    · exact h.elim
  rcases he with rfl | rfl
  · exact key
  · exact key
end Go.Fw
namespace Go.Fw
open Go.RowKit
inductive AVI (σ : Nat → Nat) : AV → AV → Prop
  | sv {s s' : SV} (h : SV.imp s s') : AVI σ (.sv s) (.sv s')
  | ptr {i o : Nat} : AVI σ (.ptr i o) (.ptr i o)
  | bsl {i o l c : Nat} : AVI σ (.bsl i o l c) (.bsl i o l c)
  | row {i j : Nat} (h : j = σ i) : AVI σ (.row j) (.row i)
  | rsl {i j o l : Nat} (h : j = σ i) : AVI σ (.rsl j o l) (.rsl i o l)
  | clo {g : FuncId} {js : List Cap} : AVI σ (.clo g js) (.clo g js)
theorem SV.imp_refl (s : SV) : SV.imp s s := fun _ _ h => h
theorem SV.imp_int {k : IntKind} {p q : Int} (h : p = q) : SV.imp (.v (.int k p)) (.v (.int k q)) := by subst h; exact SV.imp_refl _
theorem SV.imp_eq {s s' : SV} (h : s = s') : SV.imp s s' := by subst h; exact SV.imp_refl _
theorem AVI.holds {σ : Nat → Nat} {x y : AV} (h : AVI σ x y) {E : Env} {v : Value} (hv : x.holds E v) : y.holds { E with ν := fun i => E.ν (σ i) } v := by
  cases h with
  | sv h => exact h _ _ hv
  | ptr => exact hv
  | bsl => exact hv
  | row h => subst h; exact hv
  | rsl h => subst h; exact hv
  | @clo g js =>
    obtain ⟨vs, rfl, h⟩ := hv
    refine ⟨vs, rfl, ?_⟩
    have key : ∀ (l : List Cap) (vs : List Value), AllC E l vs → AllC { E with ν := fun i => E.ν (σ i) } l vs := by
      intro l
      induction l with
      | nil => intro vs h; cases vs with | nil => trivial | cons _ _ => exact h.elim
      | cons c l ih =>
        intro vs h
        cases vs with
        | nil => exact h.elim
        | cons x xs => exact ⟨by have h1 := h.1; cases c <;> exact h1, ih xs h.2⟩
    exact key js vs h
def AVIs (σ : Nat → Nat) : List AV → List AV → Prop
  | [], [] => True
  | x :: l, y :: l' => AVI σ x y ∧ AVIs σ l l'
  | _, _ => False
theorem AVIs.holds {σ : Nat → Nat} {E : Env} : ∀ {l l' : List AV} {vs : List Value}, AVIs σ l l' → AllV E l vs → AllV { E with ν := fun i => E.ν (σ i) } l' vs
  | [], [], [], _, _ => trivial
  | _ :: _, _ :: _, _ :: _, h, hv => ⟨h.1.holds hv.1, AVIs.holds h.2 hv.2⟩
  | [], [], _ :: _, _, hv => hv.elim
  | _ :: _, _ :: _, [], _, hv => hv.elim
  | [], _ :: _, _, h, _ => h.elim
  | _ :: _, [], _, h, _ => h.elim
def SVIs : List SV → List SV → Prop
  | [], [] => True
  | x :: l, y :: l' => SV.imp x y ∧ SVIs l l'
  | _, _ => False
theorem SVIs.holds {M : Mem} : ∀ {l l' : List SV} {vs : List Value}, SVIs l l' → SV.All M l vs → SV.All M l' vs
  | [], [], [], _, _ => trivial
  | _ :: _, _ :: _, _ :: _, h, hv => ⟨h.1 _ _ hv.1, SVIs.holds h.2 hv.2⟩
  | [], [], _ :: _, _, hv => hv.elim
  | _ :: _, _ :: _, [], _, hv => hv.elim
  | [], _ :: _, _, h, _ => h.elim
  | _ :: _, [], _, h, _ => h.elim
theorem SVIs.refl : ∀ l : List SV, SVIs l l
  | [] => trivial
  | s :: l => ⟨SV.imp_refl s, SVIs.refl l⟩
def lkT : List (Nat × AV) → Nat → AV
  | [], _ => .sv .any
  | (k, x) :: l, s => bif Nat.beq s k then x else lkT l s
def lkB : List (Nat × Box) → Nat → Option Box
  | [], _ => none
  | (k, x) :: l, s => bif Nat.beq s k then some x else lkB l s
def lkR : List (Nat × Row) → Nat → Option Row
  | [], _ => none
  | (k, x) :: l, s => bif Nat.beq s k then some x else lkR l s
def AS.mkL (n : Nat) (ts : List (Nat × AV)) (bs : List (Nat × Box)) (rs : List (Nat × Row)) (g : Nat := 0) (go : Bool := true) : AS :=
  ⟨n, lkT ts, lkB bs, fun i => match lkR rs i with | some R => .live R | none => .un, g, go⟩
def AV.liveIn (bs : List (Nat × Box)) (rs : List (Nat × Row)) : AV → Bool
  | .sv _ => true
  | .ptr i _ => (lkB bs i).isSome
  | .bsl i _ _ _ => (lkB bs i).isSome
  | .row i => (lkR rs i).isSome
  | .rptr i _ => (lkR rs i).isSome
  | .rsl i _ _ => (lkR rs i).isSome
  | .clo _ js => js.all fun c => match c with | .box i => (lkB bs i).isSome | .val _ => true
  | .cmp _ _ => false
theorem lkT_mem {ts : List (Nat × AV)} {s : Nat} : lkT ts s = .sv .any ∨ ∃ p ∈ ts, p.1 = s ∧ lkT ts s = p.2 := by
  induction ts with
  | nil => exact .inl rfl
  | cons p ts ih =>
    obtain ⟨k, x⟩ := p
    by_cases h : s = k
    · subst h; exact .inr ⟨(s, x), by simp, rfl, by simp [lkT]⟩
    · simp only [lkT, beq_ne h, cond_false]
      rcases ih with ih | ⟨p, hp, h1, h2⟩
      · exact .inl ih
      · exact .inr ⟨p, List.mem_cons_of_mem _ hp, h1, h2⟩
theorem lkB_mem {bs : List (Nat × Box)} {s : Nat} {B : Box} (h : lkB bs s = some B) : (s, B) ∈ bs := by
  induction bs with
  | nil => cases h
  | cons p bs ih =>
    obtain ⟨k, x⟩ := p
    by_cases e : s = k
    · subst e; simp [lkB] at h; subst h; simp
    · simp only [lkB, beq_ne e, cond_false] at h; exact List.mem_cons_of_mem _ (ih h)
theorem lkR_mem {bs : List (Nat × Row)} {s : Nat} {B : Row} (h : lkR bs s = some B) : (s, B) ∈ bs := by
  induction bs with
  | nil => cases h
  | cons p bs ih =>
    obtain ⟨k, x⟩ := p
    by_cases e : s = k
    · subst e; simp [lkR] at h; subst h; simp
    · simp only [lkR, beq_ne e, cond_false] at h; exact List.mem_cons_of_mem _ (ih h)
theorem mkL_wf {n : Nat} {ts : List (Nat × AV)} {bs : List (Nat × Box)} {rs : List (Nat × Row)} {g : Nat} {go : Bool}
    (h : (ts.all fun p => p.2.liveIn bs rs) && (bs.all fun p => p.2.cells.all fun x => x.liveIn bs rs)) : (AS.mkL n ts bs rs g go).wf := by
  simp only [Bool.and_eq_true, List.all_eq_true] at h
  have kb : ∀ x : AV, x.liveIn bs rs = true → ∀ j, x.mb j → ∃ B, lkB bs j = some B := by
    intro x hx j hj
    cases x with
    | ptr i o => cases hj; exact Option.isSome_iff_exists.1 hx
    | bsl i o l c => cases hj; exact Option.isSome_iff_exists.1 hx
    | clo g js => exact Option.isSome_iff_exists.1 (List.all_eq_true.1 hx (.box j) hj)
    | cmp t js => cases hx
    | _ => exact hj.elim
  have kr : ∀ x : AV, x.liveIn bs rs = true → ∀ j, x.mr j → (AS.mkL n ts bs rs g go).r j ≠ .un := by
    intro x hx j hj
    have hs : ∀ i, (lkR rs i).isSome = true → (AS.mkL n ts bs rs g go).r i ≠ .un := by
      intro i hi
      obtain ⟨R, hR⟩ := Option.isSome_iff_exists.1 hi
      simp [AS.mkL, hR]
    cases x with
    | row i => cases hj; exact hs _ hx
    | rptr i k => cases hj; exact hs _ hx
    | rsl i o l => cases hj; exact hs _ hx
    | cmp t js => cases hx
    | _ => exact hj.elim
  refine ⟨fun s j hj => ?_, fun s j hj => ?_, fun i B hB x hx j hj => ?_, fun i B hB x hx j hj => ?_⟩
  · rcases lkT_mem (ts := ts) (s := s) with e | ⟨p, hp, _, e⟩
    · rw [show (AS.mkL n ts bs rs g go).t s = lkT ts s from rfl, e] at hj; exact hj.elim
    · rw [show (AS.mkL n ts bs rs g go).t s = lkT ts s from rfl, e] at hj; exact kb _ (h.1 p hp) j hj
  · rcases lkT_mem (ts := ts) (s := s) with e | ⟨p, hp, _, e⟩
    · rw [show (AS.mkL n ts bs rs g go).t s = lkT ts s from rfl, e] at hj; exact hj.elim
    · rw [show (AS.mkL n ts bs rs g go).t s = lkT ts s from rfl, e] at hj; exact kr _ (h.1 p hp) j hj
  · exact kb x (h.2 (i, B) (lkB_mem hB) x hx) j hj
  · exact kr x (h.2 (i, B) (lkB_mem hB) x hx) j hj
def TsI (σ : Nat → Nat) (S : AS) : List (Nat × AV) → Prop
  | [] => True
  | (k, x) :: l => AVI σ (S.t k) x ∧ TsI σ S l
def BsI (σ : Nat → Nat) (S : AS) : List (Nat × Box) → Prop
  | [] => True
  | (k, x) :: l => (∃ cs, S.b k = some ⟨x.T, cs⟩ ∧ AVIs σ cs x.cells) ∧ BsI σ S l
def RsI (σ : Nat → Nat) (S : AS) : List (Nat × Row) → Prop
  | [] => True
  | (k, x) :: l => (∃ cs, S.r (σ k) = .live ⟨x.E, x.sz, x.n, cs⟩ ∧ SVIs cs x.cells) ∧ RsI σ S l
theorem TsI.mem {σ : Nat → Nat} {S : AS} : ∀ {l : List (Nat × AV)}, TsI σ S l → ∀ p ∈ l, AVI σ (S.t p.1) p.2
  | _ :: _, h, p, hp => by
    rcases List.mem_cons.1 hp with rfl | hp
    · exact h.1
    · exact TsI.mem h.2 p hp
theorem BsI.mem {σ : Nat → Nat} {S : AS} : ∀ {l : List (Nat × Box)}, BsI σ S l → ∀ p ∈ l, ∃ cs, S.b p.1 = some ⟨p.2.T, cs⟩ ∧ AVIs σ cs p.2.cells
  | _ :: _, h, p, hp => by
    rcases List.mem_cons.1 hp with rfl | hp
    · exact h.1
    · exact BsI.mem h.2 p hp
theorem RsI.mem {σ : Nat → Nat} {S : AS} : ∀ {l : List (Nat × Row)}, RsI σ S l → ∀ p ∈ l, ∃ cs, S.r (σ p.1) = .live ⟨p.2.E, p.2.sz, p.2.n, cs⟩ ∧ SVIs cs p.2.cells
  | _ :: _, h, p, hp => by
    rcases List.mem_cons.1 hp with rfl | hp
    · exact h.1
    · exact RsI.mem h.2 p hp
theorem HoldsAt.weakL {C : Ctx} {S : AS} {E : Env} {a : Act} {w : World} (h : HoldsAt C S E a w) (σ : Nat → Nat) {n : Nat} {ts : List (Nat × AV)} {bs : List (Nat × Box)} {rs : List (Nat × Row)} {g : Nat} {go : Bool} (hn : S.n = n) (hg : S.g = g) (hgo : S.go = go)
    (hwf : ((ts.all fun p => p.2.liveIn bs rs) && (bs.all fun p => p.2.cells.all fun x => x.liveIn bs rs)) = true) (hσ : ((rs.all fun p => rs.all fun q => !(Nat.beq (σ p.1) (σ q.1)) || Nat.beq p.1 q.1)) = true)
    (ht : TsI σ S ts) (hb : BsI σ S bs) (hr : RsI σ S rs) (hp : ∀ i, 1000 ≤ i → σ i = i) : HoldsAt C (AS.mkL n ts bs rs g go) { E with ν := fun i => E.ν (σ i) } a w where
  wf := mkL_wf hwf
  marks := h.marks
  size := by rw [h.size, hn]; rfl
  os := h.os
  tape := h.tape
  output := h.output
  grown := h.grown
  frame := h.frame
  m0 := h.m0
  mnew := h.mnew
  inW := h.inW
  tm := fun s => by
    rcases lkT_mem (ts := ts) (s := s) with e | ⟨p, hp, rfl, e⟩
    · show (lkT ts s).holds _ _; rw [e]; exact trivial
    · show (lkT ts p.1).holds _ _; rw [e]; exact (ht.mem p hp).holds (h.tm p.1)
  bx := fun i B hB => by
    obtain ⟨cs, h1, h2⟩ := hb.mem (i, B) (lkB_mem hB)
    obtain ⟨h3, h4, h5, vs, h6, h7⟩ := h.bx i _ h1
    exact ⟨h3, h4, h5, vs, h6, h2.holds h7⟩
  inj := fun i j B B' hi hj e => by
    obtain ⟨cs, h1, _⟩ := hb.mem (i, B) (lkB_mem hi)
    obtain ⟨cs', h2, _⟩ := hb.mem (j, B') (lkB_mem hj)
    exact h.inj i j _ _ h1 h2 e
  rx := fun i R hR => by
    have hR' : lkR rs i = some R := by
      simp only [AS.mkL] at hR
      cases e : lkR rs i with
      | none => rw [e] at hR; cases hR
      | some R' => rw [e] at hR; cases hR; rfl
    obtain ⟨cs, h1, h2⟩ := hr.mem (i, R) (lkR_mem hR')
    obtain ⟨⟨vs, h3, h4⟩, h5⟩ := h.rx _ _ h1
    refine ⟨⟨vs, h3, h2.holds h4⟩, fun k hk => ?_⟩
    obtain ⟨h6, h7, h8, h9⟩ := h5 k hk
    refine ⟨h6, h7, h8, fun j B hB => ?_⟩
    obtain ⟨cs', h10, _⟩ := hb.mem (j, B) (lkB_mem hB)
    exact h9 j _ h10
  rinj := fun i j R R' hi hj k h1 h2 => by
    have f : ∀ i R, (AS.mkL n ts bs rs g go).r i = .live R → lkR rs i = some R := by
      intro i R hR
      simp only [AS.mkL] at hR
      cases e : lkR rs i with
      | none => rw [e] at hR; cases hR
      | some R' => rw [e] at hR; cases hR; rfl
    have mi := lkR_mem (f i R hi)
    have mj := lkR_mem (f j R' hj)
    obtain ⟨cs, g1, _⟩ := hr.mem _ mi
    obtain ⟨cs', g2, _⟩ := hr.mem _ mj
    have e := h.rinj _ _ _ _ g1 g2 k h1 h2
    have := List.all_eq_true.1 (List.all_eq_true.1 hσ _ mi) _ mj
    simp only [Bool.or_eq_true, Bool.not_eq_true'] at this
    rcases this with h3 | h3
    · rw [e] at h3; simp at h3
    · exact Nat.eq_of_beq_eq_true h3
  pin := h.pin
  pinr := fun i v e => by show E.ν (σ i) = v; rw [hp i (C.hpr i v e)]; exact h.pinr i v e
  olt := h.olt
  jj := by show C.J g go E.O E.M w; rw [← hg, ← hgo]; exact h.jj
theorem weakL {S : AS} (σ : Nat → Nat) {n : Nat} {ts : List (Nat × AV)} {bs : List (Nat × Box)} {rs : List (Nat × Row)} {g : Nat} {go : Bool} (hn : S.n = n) (hg : S.g = g) (hgo : S.go = go)
    (hwf : ((ts.all fun p => p.2.liveIn bs rs) && (bs.all fun p => p.2.cells.all fun x => x.liveIn bs rs)) = true) (hσ : ((rs.all fun p => rs.all fun q => !(Nat.beq (σ p.1) (σ q.1)) || Nat.beq p.1 q.1)) = true)
    (ht : TsI σ S ts) (hb : BsI σ S bs) (hr : RsI σ S rs) (hp : ∀ i, 1000 ≤ i → σ i = i) : Weak S (AS.mkL n ts bs rs g go) := fun _ _ _ ⟨_, h⟩ => ⟨_, h.weakL σ hn hg hgo hwf hσ ht hb hr hp⟩
end Go.Fw
namespace Go.Fw
open Go.RowKit
class TyEl (P : Program) (E : TypeId) (n : outParam Nat) (by_ : outParam Nat) (z : outParam Value) : Prop where
  h : (P.info? E).map (fun i => (i.size, i.bytes, i.zero)) = some (n, by_, some z)
  z : z.cells.size = n
  p : 0 < n
  b : by_ ≤ 1048576
theorem TyEl.info {P : Program} {E : TypeId} {n by_ : Nat} {z : Value} [t : TyEl P E n by_ z] : ∃ i, P.info? E = some i ∧ i.size = n ∧ i.bytes = by_ ∧ i.zero = some z := by
  have h := t.h
  cases hi : P.info? E with
  | none => rw [hi] at h; cases h
  | some i =>
    rw [hi] at h
    simp only [Option.map_some, Option.some.injEq, Prod.mk.injEq] at h
    exact ⟨i, rfl, h.1, h.2.1, h.2.2⟩
section steps
variable {P : Program} {C : Ctx} {ops : Array Oper} {S : AS} {nd : Bool} {K : List Ac → AS → Prop} {rest : List Oper} {acc : List Ac}
variable {gd : Option (Nat × Bool)} {rg : List Nat} {d : Nat} {ty : TypeId} {pos : String} {aft : Array Edge} {x y z : Operand} {T U E0 : TypeId}
def Free (C : Ctx) (S : AS) (E : Env) (g : Nat) : Prop :=
  C.w0.heap.size ≤ g ∧ (∀ o, E.M g o = none) ∧ ¬ E.O g ∧ (∀ j B, S.b j = some B → E.β j ≠ g) ∧ (∀ j R, S.r j = .live R → (E.ν j).ownBlock ≠ some g)
theorem HoldsAt.free {E : Env} {a : Act} {w : World} (h : HoldsAt C S E a w) {g : Nat} (hg : w.heap.size ≤ g) : Free C S E g := by
  refine ⟨Nat.le_trans h.grown hg, fun o => ?_, fun ho => ?_, fun j B hB e => ?_, fun j R hj e => ?_⟩
  · cases e : E.M g o with
    | none => rfl
    | some v => have := inW_lt h.inW e; omega
  · have := (h.olt _ ho).1; omega
  · have := box_lt h hB; omega
  · have := row_lt h hj e; omega
theorem HoldsAt.newRow' {E : Env} {a : Act} {w w' : World} (h : HoldsAt C S E a w) {d : Nat} (hd : S.r d = .un) (hd1 : d < 1000) (old : List (Nat × RSt)) (blk : Option Nat)
    (hold : (old = [] ∧ blk = none) ∨ ∃ i R, old = [(i, .dead)] ∧ S.r i = .live R ∧ blk = (E.ν i).ownBlock)
    {R' : Row} {v' : Value} {vs' : List Value} (hown : w'.ownsRow 0 R'.E R'.sz v' R'.n vs') (hcells : SV.All E.M R'.cells vs') (hat : ∀ g, v'.ownBlock = some g → blk = some g ∨ Free C S E g) (hgrow : w.grownBy w' blk) :
    HoldsAt C (AS.setRs (old ++ [(d, .live R')]) S) { E with ν := fun j => if j = d then v' else E.ν j } a w' := by
  have hsr := setRs_n (old ++ [(d, RSt.live R')]) S
  have hb : ∀ g, blk = some g → (C.w0.heap.size ≤ g ∨ C.bor g) ∧ (∀ o, E.M g o = none) ∧ ¬ E.O g ∧ (∀ j B, S.b j = some B → E.β j ≠ g) ∧ g < w.heap.size ∧ (∃ c e, w.heap[g]? = some (Obj.cells c e (0, 0))) ∧ ∃ i R, old = [(i, .dead)] ∧ S.r i = .live R ∧ (E.ν i).ownBlock = some g := by
    intro g hg
    rcases hold with ⟨_, h2⟩ | ⟨i, R, h1, h2, h3⟩
    · rw [h2] at hg; cases hg
    · rw [h3] at hg
      obtain ⟨⟨us, ho, _⟩, h4⟩ := h.rx i R h2
      obtain ⟨h5, h6, h7, h8⟩ := h4 g hg
      refine ⟨h5, h6, h7, h8, row_lt h h2 hg, ?_, i, R, h1, h2, hg⟩
      rcases ho.2 with ⟨h9, _⟩ | ⟨g', cap, cur, h9, _, h10, _⟩
      · rw [h9] at hg; cases hg
      · rw [h9] at hg; cases hg; exact ⟨_, _, h10⟩
  have same : ∀ k, k < w.heap.size → (∀ g, blk = some g → k ≠ g) → w'.heap[k]? = w.heap[k]? := fun k hk hne => hgrow.block k hk (fun e => hne k e.symm rfl)
  have rOf : ∀ j, (AS.setRs (old ++ [(d, RSt.live R')]) S).r j = if j = d then .live R' else (lastR old j).getD (S.r j) := by
    intro j
    rw [setRs_r]
    have : ∀ l : List (Nat × RSt), lastR (l ++ [(d, RSt.live R')]) j = if j = d then some (.live R') else lastR l j := by
      intro l
      induction l with
      | nil => rfl
      | cons p l ih =>
        obtain ⟨i, R⟩ := p
        rw [List.cons_append, lastR, lastR, ih]
        by_cases e : j = d
        · simp [e]
        · simp [e]
    rw [this]
    by_cases e : j = d
    · simp [e]
    · simp [e]
  have oldne : ∀ i, (i, RSt.dead) ∈ old → S.r i ≠ .un := by
    intro i hi
    rcases hold with ⟨h1, _⟩ | ⟨i', R, h1, h2, _⟩
    · rw [h1] at hi; simp at hi
    · rw [h1] at hi; simp at hi; subst hi; rw [h2]; simp
  have lastOld : ∀ j, lastR old j = none ∨ (lastR old j = some .dead ∧ (j, RSt.dead) ∈ old) := by
    intro j
    rcases hold with ⟨h1, _⟩ | ⟨i', R, h1, h2, _⟩
    · rw [h1]; exact .inl rfl
    · rw [h1]
      by_cases e : j = i'
      · subst e; exact .inr ⟨by simp [lastR], by simp⟩
      · exact .inl (by simp [lastR, e])
  have unR : ∀ j, S.r j ≠ .un → (AS.setRs (old ++ [(d, RSt.live R')]) S).r j ≠ .un := by
    intro j hj
    rw [rOf]
    by_cases e : j = d
    · simp [e]
    · rw [if_neg e]
      rcases lastOld j with h1 | ⟨h1, _⟩
      · rw [h1]; exact hj
      · rw [h1]; simp
  have liveOld : ∀ j R, (AS.setRs (old ++ [(d, RSt.live R')]) S).r j = .live R → j ≠ d → S.r j = .live R ∧ (∀ g, blk = some g → (E.ν j).ownBlock ≠ some g) := by
    intro j R hj hne
    rw [rOf, if_neg hne] at hj
    rcases lastOld j with h1 | ⟨h1, _⟩
    · rw [h1] at hj
      refine ⟨hj, fun g hg e => ?_⟩
      obtain ⟨_, _, _, _, _, _, i, R2, h2, h3, h4⟩ := hb g hg
      have hji := h.rinj j i R R2 hj h3 g e h4
      subst hji
      rw [h2] at h1; simp [lastR] at h1
    · rw [h1] at hj; cases hj
  have nod : ∀ x : AV, (∀ j, x.mr j → S.r j ≠ .un) → ∀ v, x.holds E v → x.holds { E with ν := fun j => if j = d then v' else E.ν j } v := fun x hx v hv =>
    AV.holds_congr (E := E) (E' := { E with ν := fun j => if j = d then v' else E.ν j }) (Mem.le_refl _) (fun _ _ => rfl) (fun j hj => if_neg (by rintro rfl; exact hx j hj hd)) hv
  have hinW : E.M.inW w' := inW_of_same h.inW fun b ⟨o, v, e⟩ => same b (inW_lt h.inW e) (fun g hg hbg => by subst hbg; rw [(hb _ hg).2.1 o] at e; cases e)
  have newBlk : ∀ g, v'.ownBlock = some g → (C.w0.heap.size ≤ g ∨ C.bor g) ∧ (∀ o, E.M g o = none) ∧ ¬ E.O g ∧ (∀ j B, S.b j = some B → E.β j ≠ g) ∧ (∀ j R, (AS.setRs (old ++ [(d, RSt.live R')]) S).r j = .live R → j ≠ d → (E.ν j).ownBlock ≠ some g) := by
    intro g hg
    rcases hat g hg with h1 | ⟨f1, f2, f3, f4, f5⟩
    · obtain ⟨h2, h3, h4, h5, _⟩ := hb g h1
      exact ⟨h2, h3, h4, h5, fun j R hj hne => (liveOld j R hj hne).2 g h1⟩
    · exact ⟨.inl f1, f2, f3, f4, fun j R hj hne => f5 j R (liveOld j R hj hne).1⟩
  exact {
    wf := by
      refine ⟨fun s j hj => ?_, fun s j hj => ?_, fun i B hB x hx j hj => ?_, fun i B hB x hx j hj => ?_⟩
      · rw [hsr.2.1] at hj; rw [hsr.2.2.1]; exact h.wf.tb s j hj
      · rw [hsr.2.1] at hj; exact unR j (h.wf.tr s j hj)
      · rw [hsr.2.2.1] at hB ⊢; exact h.wf.bb i B hB x hx j hj
      · rw [hsr.2.2.1] at hB; exact unR j (h.wf.br i B hB x hx j hj)
    marks := by
      obtain ⟨ds, h1, h2, h3⟩ := h.marks
      refine ⟨ds, h1, h2, fun r hr => ?_⟩
      obtain ⟨h4, h5, h6⟩ := h3 r hr
      refine ⟨h4, h5, ?_⟩
      rw [same r (Array.getElem?_eq_some_iff.1 h6).1 (fun g hg e => by
        subst e
        obtain ⟨c, e, hc⟩ := (hb _ hg).2.2.2.2.2.1
        rw [h6] at hc; cases hc)]
      exact h6
    size := by rw [hsr.1]; exact h.size
    os := hgrow.os.trans h.os
    tape := hgrow.tape.trans h.tape
    output := hgrow.output.trans h.output
    grown := Nat.le_trans h.grown hgrow.size
    frame := fun k hk hk' => by
      rw [same k (by have := h.grown; omega) (fun g hg e => by
        subst e
        rcases (hb _ hg).1 with h1 | h1
        · omega
        · exact hk' (C.hbo _ h1))]
      exact h.frame k hk hk'
    m0 := h.m0
    mnew := h.mnew
    inW := hinW
    tm := fun s => by rw [hsr.2.1]; exact nod _ (h.wf.tr s) _ (h.tm s)
    bx := fun i B hB => by
      rw [hsr.2.2.1] at hB
      obtain ⟨h1, h2, h3, vs, h4, h5⟩ := h.bx i B hB
      exact ⟨h1, h2, h3, vs, by rw [same _ (box_lt h hB) (fun g hg e => (hb g hg).2.2.2.1 i B hB e)]; exact h4, h5.imp fun x hx v hv => nod x (h.wf.br i B hB x hx) v hv⟩
    inj := fun i j B B' hi hj e => by rw [hsr.2.2.1] at hi hj; exact h.inj i j B B' hi hj e
    rx := fun j R hR => by
      by_cases hjd : j = d
      · subst hjd
        rw [rOf, if_pos rfl] at hR
        cases hR
        simp only [if_true]
        refine ⟨⟨vs', hown, hcells⟩, fun g hg => ?_⟩
        obtain ⟨h1, h2, h3, h4, _⟩ := newBlk g hg
        exact ⟨h1, h2, h3, fun k B hB => by rw [hsr.2.2.1] at hB; exact h4 k B hB⟩
      · obtain ⟨h1, h2⟩ := liveOld j R hR hjd
        simp only [if_neg hjd]
        obtain ⟨⟨us, h3, h4⟩, h5⟩ := h.rx j R h1
        refine ⟨⟨us, ownsRow_same h3 fun g hg => same g (row_lt h h1 hg) (fun g' hg' e => by subst e; exact h2 g hg' hg), h4⟩, fun g hg => ?_⟩
        obtain ⟨h6, h7, h8, h9⟩ := h5 g hg
        exact ⟨h6, h7, h8, fun k B hB => by rw [hsr.2.2.1] at hB; exact h9 k B hB⟩
    rinj := fun i j R R2 hi hj g h1 h2 => by
      by_cases hid : i = d
      · subst hid
        by_cases hjd : j = i
        · exact hjd.symm
        · simp only [if_true, if_neg hjd] at h1 h2
          exact absurd h2 ((newBlk g h1).2.2.2.2 j R2 hj hjd)
      · by_cases hjd : j = d
        · subst hjd
          simp only [if_true, if_neg hid] at h1 h2
          exact absurd h1 ((newBlk g h2).2.2.2.2 i R hi hid)
        · simp only [if_neg hid, if_neg hjd] at h1 h2
          exact h.rinj i j R R2 (liveOld i R hi hid).1 (liveOld j R2 hj hjd).1 g h1 h2
    pin := h.pin
    pinr := fun i v e => by
      have : i ≠ d := by have := C.hpr i v e; omega
      simp only [if_neg this]; exact h.pinr i v e
    olt := fun b hb' => by
      obtain ⟨h1, h2⟩ := h.olt b hb'
      exact ⟨Nat.lt_of_lt_of_le h1 hgrow.size, h2⟩
    jj := by
      rw [hsr.2.2.2.1, hsr.2.2.2.2]
      exact C.jf _ _ _ _ _ _ _ h.jj (Mem.le_refl _) hinW (fun _ _ _ e => .inl e) (fun b hbb => same b (by
          rcases hbb with hbb | hbb
          · have := h.grown; omega
          · exact (h.olt b hbb).1) (fun g hg e => by
          subst e
          rcases hbb with hbb | hbb
          · rcases (hb _ hg).1 with h1 | h1
            · omega
            · exact hbb.2 h1
          · exact (hb _ hg).2.2.1 hbb)) hgrow.os hgrow.tape hgrow.output hgrow.size }
theorem HoldsAt.newRow {E : Env} {a : Act} {w w' : World} (h : HoldsAt C S E a w) {d : Nat} (hd : S.r d = .un) (hd1 : d < 1000) (old : List (Nat × RSt)) (blk : Option Nat)
    (hold : (old = [] ∧ blk = none) ∨ ∃ i R, old = [(i, .dead)] ∧ S.r i = .live R ∧ blk = (E.ν i).ownBlock)
    {R' : Row} {v' : Value} {vs' : List Value} (hown : w'.ownsRow 0 R'.E R'.sz v' R'.n vs') (hcells : SV.All E.M R'.cells vs') (hat : v'.ownBlock = blk ∨ v'.ownBlock = some w.heap.size ∨ v'.ownBlock = none) (hgrow : w.grownBy w' blk) :
    HoldsAt C (AS.setRs (old ++ [(d, .live R')]) S) { E with ν := fun j => if j = d then v' else E.ν j } a w' :=
  h.newRow' hd hd1 old blk hold hown hcells (fun g hg => by
    rcases hat with h1 | h1 | h1
    · exact .inl (by rw [← h1, hg])
    · rw [hg] at h1; cases h1; exact .inr (h.free (Nat.le_refl _))
    · rw [hg] at h1; cases h1) hgrow
theorem slc_vals {M : Mem} {b sz : Nat} : ∀ (rows : List (List SV)) (o : Nat), (∀ (i : Nat) (row : List SV), rows[i]? = some row → row.length = sz ∧ ∀ (k : Nat) (s : SV), row[k]? = some s → ∃ y, M b (o + i * sz + k) = some y ∧ y.oneCell' = true ∧ s.h M y) →
    ∃ vs : List Value, SV.All M rows.flatten vs ∧ vs.length = rows.length * sz ∧ (∀ u ∈ vs, u.oneCell' = true) ∧ ∀ (k : Nat) (v : Value), vs[k]? = some v → M b (o + k) = some v
  | [], _, _ => ⟨[], trivial, by simp, by simp, by simp⟩
  | row :: rows, o, h => by
    obtain ⟨h1, h2⟩ := h 0 row rfl
    have one : ∀ (l : List SV) (o : Nat), (∀ (k : Nat) (s : SV), l[k]? = some s → ∃ y, M b (o + k) = some y ∧ y.oneCell' = true ∧ s.h M y) → ∃ vs : List Value, SV.All M l vs ∧ (∀ u ∈ vs, u.oneCell' = true) ∧ ∀ (k : Nat) (v : Value), vs[k]? = some v → M b (o + k) = some v := by
      intro l
      induction l with
      | nil => intro o _; exact ⟨[], trivial, by simp, by simp⟩
      | cons s l ih =>
        intro o hl
        obtain ⟨y, hy, hy1, hs⟩ := hl 0 s rfl
        obtain ⟨vs, g1, g2, g3⟩ := ih (o + 1) (fun k s hk => by
          have := hl (k + 1) s (by simpa using hk)
          rwa [show o + (k + 1) = o + 1 + k by omega] at this)
        refine ⟨y :: vs, ⟨hs, g1⟩, fun u hu => ?_, fun k v hk => ?_⟩
        · rcases List.mem_cons.1 hu with rfl | hu
          · exact hy1
          · exact g2 u hu
        · cases k with
          | zero => simp at hk; subst hk; exact hy
          | succ k => rw [show o + (k + 1) = o + 1 + k by omega]; exact g3 k v (by simpa using hk)
    obtain ⟨us, g1, g2, g3⟩ := one row o (fun k s hk => by have := h2 k s hk; simpa using this)
    obtain ⟨vs, g4, g5, g6, g7⟩ := slc_vals (M := M) (b := b) (sz := sz) rows (o + sz) (fun i r hr => by
      have := h (i + 1) r (by simpa using hr)
      rwa [show o + (i + 1) * sz = o + sz + i * sz by rw [Nat.add_mul]; omega] at this)
    have hl := g1.length
    refine ⟨us ++ vs, ?_, ?_, fun u hu => ?_, fun k v hk => ?_⟩
    · rw [List.flatten_cons]; exact SV.All.append g1 g4
    · rw [List.length_append, g5, ← hl, h1, List.length_cons, Nat.add_mul]; omega
    · rcases List.mem_append.1 hu with hu | hu
      · exact g2 u hu
      · exact g6 u hu
    · rw [List.getElem?_append] at hk
      split at hk
      · exact g3 k v hk
      · have := g7 _ v hk
        rwa [show o + sz + (k - us.length) = o + k by omega] at this
theorem RT.appendG (hg : Gd ops S gd rg) {n by_ : Nat} {zv : Value} [tS : TySl P T E0 n] [tE : TyEl P E0 n by_ zv] (old : List (Nat × RSt)) (rr : List Nat) {m : Nat} {cs : List SV} {s : SV} {rows : List (List SV)} [hs : Slc s n rows]
    (hx : ∀ S' E a w, HoldsAt C S' E a w → S'.ev x = S.ev x → (∀ i ∈ rr, S'.r i = S.r i) → (∃ vs, w.ownsRow 0 E0 n (a.eval x) m vs ∧ SV.All E.M cs vs) ∧ ((old = [] ∧ (a.eval x).ownBlock = none) ∨ ∃ i R, old = [(i, .dead)] ∧ S'.r i = .live R ∧ (a.eval x).ownBlock = (E.ν i).ownBlock))
    (hy : S.ev y = .sv s) (hd : d < S.n) (hdr : S.r d = .un) (hd1 : d < 1000) (hrr : d ∈ rr) (hroom : (m + rows.length) * by_ ≤ 140737488355328) (hroom2 : m + rows.length ≤ 140737488355328) {R' : Row} (hR' : R' = ⟨E0, n, m + rows.length, cs ++ rows.flatten⟩)
    (next : RunT P C ops nd K rest (⟨rg ++ (okeys x ++ okeys y), [], rr, ⟨some (d, .row d), [], old ++ [(d, .live R')]⟩⟩ :: acc) ((AS.setRs (old ++ [(d, .live R')]) S).set d (.row d))) : RunT P C ops nd K (⟨some d, .call ⟨.builtin .append, #[x, y], #[T, T]⟩, ty, pos, aft, gd⟩ :: rest) acc S := by
  subst hR'
  refine .inl ⟨_, [], rr, _, ?_, next⟩
  rintro S' hn ht _ hr i a w L Q ho ⟨E, h⟩ hL
  refine wpOp_of (C := C) ho (hg.wanted h (fun s hs => ht s (List.mem_append_left _ hs)) rfl) ?_
  obtain ⟨⟨vs, hown, hvs⟩, hold⟩ := hx S' E a w h (ev_congr (fun _ h => List.mem_append_right _ (List.mem_append_left _ h)) ht) hr
  have h2 := h.ev y
  rw [ev_congr (fun _ h => List.mem_append_right _ (List.mem_append_right _ h)) ht, hy] at h2
  obtain ⟨info, hi, hsz, hby, hz⟩ := TyEl.info (P := P) (E := E0) (n := n) (by_ := by_) (z := zv)
  have hdu : S'.r d = .un := by rw [hr d hrr]; exact hdr
  have run : ∃ v' w' vs', (Builtin.append_ #[T, T] ty #[a.eval x, a.eval y]).run P w = .ok v' w' ∧ w'.ownsRow 0 E0 n v' (m + rows.length) vs' ∧ SV.All E.M (cs ++ rows.flatten) vs' ∧ w.grownBy w' (a.eval x).ownBlock ∧ (v'.ownBlock = (a.eval x).ownBlock ∨ v'.ownBlock = some w.heap.size ∨ v'.ownBlock = none) := by
    rcases hs.h _ _ h2 with ⟨a0, e, e2⟩ | ⟨b, o, c, e, hc, hc2, hrow⟩
    · rw [e, e2]
      cases a0 with
      | none => exact ⟨_, _, vs, run_append_owned_none w 0 T ty E0 info n tS.u hi _ m vs hown, by simpa using hown, by simpa using hvs, ⟨rfl, rfl, rfl, Nat.le_refl _, fun _ _ _ => rfl⟩, .inl rfl⟩
      | some a0 =>
        rw [e2, List.length_nil] at hroom hroom2
        obtain ⟨v', w', q1, q2, q3, _, q4⟩ := run_append_own_at (P := P) w 0 T ty E0 info zv n by_ tS.u hi hz hsz hby tE.z tE.p _ m vs hown a0 0 0 [] (by simp) (by simp) (by simp) (by unfold maxLen; omega) hroom (Nat.zero_le _)
        exact ⟨v', w', vs, q1, by simpa using q2, by simpa using hvs, q3, q4.imp id .inl⟩
    · obtain ⟨us, g1, g2, g3, g4⟩ := slc_vals rows o hrow
      rw [e]
      obtain ⟨v', w', q1, q2, q3, _, q4⟩ := run_append_own_at (P := P) w 0 T ty E0 info zv n by_ tS.u hi hz hsz hby tE.z tE.p _ m vs hown ⟨b, o, none⟩ rows.length c us g2 (fun j u hj => by rw [addr_add]; exact (h.inW _ _ _ (g4 j u hj)).cell (g3 u (List.mem_of_getElem? hj))) g3 (by unfold maxLen; omega) hroom (Nat.zero_le _)
      exact ⟨v', w', vs ++ us, q1, q2, SV.All.append hvs g1, q3, q4.imp id .inl⟩
  obtain ⟨v', w', vs', q1, q2, q3, q4, q5⟩ := run
  have hr' : (execOp a.eval ⟨some d, .call ⟨.builtin .append, #[x, y], #[T, T]⟩, ty, pos, aft, gd⟩).run P w = .ok (.value v') w' := by
    simp [execOp, resolve, invoke, builtin, q1]
  refine wpIn_of (C := C) (by intro c h; cases h) hr' (hL _ _ ⟨_, (h.newRow hdu hd1 old (a.eval x).ownBlock hold (R' := ⟨E0, n, m + rows.length, cs ++ rows.flatten⟩) q2 q3 q5 q4).put (x := .row d) (v := v') (by simp [AV.holds]) (by rw [(setRs_n _ _).1]; omega) ⟨fun _ e => e.elim, fun j e => ?_⟩⟩)
  cases e
  rw [setRs_r]
  have : ∀ l : List (Nat × RSt), lastR (l ++ [(d, RSt.live ⟨E0, n, m + rows.length, cs ++ rows.flatten⟩)]) d = some (.live ⟨E0, n, m + rows.length, cs ++ rows.flatten⟩) := by
    intro l
    induction l with
    | nil => simp [lastR]
    | cons p l ih => obtain ⟨i, R⟩ := p; rw [List.cons_append, lastR, ih]
  rw [this]; simp
theorem RT.appendR (hg : Gd ops S gd rg) {n by_ : Nat} {zv : Value} [tS : TySl P T E0 n] [tE : TyEl P E0 n by_ zv] {s : SV} {rows : List (List SV)} [hs : Slc s n rows] {i m : Nat} {cs : List SV} (hx : S.ev x = .row i) (hR : S.r i = .live ⟨E0, n, m, cs⟩) (hy : S.ev y = .sv s) (hd : d < S.n) (hdr : S.r d = .un) (hd1 : d < 1000)
    (hroom : (m + rows.length) * by_ ≤ 140737488355328) (hroom2 : m + rows.length ≤ 140737488355328) (R' : Row) (hR' : R' = ⟨E0, n, m + rows.length, cs ++ rows.flatten⟩)
    (next : RunT P C ops nd K rest (⟨rg ++ (okeys x ++ okeys y), [], [i, d], ⟨some (d, .row d), [], [(i, .dead), (d, .live R')]⟩⟩ :: acc) ((AS.setRs [(i, .dead), (d, .live R')] S).set d (.row d))) : RunT P C ops nd K (⟨some d, .call ⟨.builtin .append, #[x, y], #[T, T]⟩, ty, pos, aft, gd⟩ :: rest) acc S := by
  refine RT.appendG hg [(i, .dead)] [i, d] (m := m) (cs := cs) (s := s) (rows := rows) (fun S' E a w h e hr => ?_) hy hd hdr hd1 (by simp) hroom hroom2 hR' next
  have h1 : a.eval x = E.ν i := by have h1 := h.ev x; rw [e, hx] at h1; exact h1
  have hR' : S'.r i = .live ⟨E0, n, m, cs⟩ := by rw [hr i (by simp)]; exact hR
  rw [h1]
  obtain ⟨⟨vs, h2, h3⟩, _⟩ := h.rx i _ hR'
  exact ⟨⟨vs, h2, h3⟩, .inr ⟨i, _, rfl, hR', rfl⟩⟩
theorem RT.make0 (hg : Gd ops S gd rg) {n by_ : Nat} {zv : Value} [tS : TySl P T E0 n] [tE : TyEl P E0 n by_ zv] {kl kc : IntKind} {c : Int} (hx : S.ev x = .sv (.v (.int kl 0))) (hy : S.ev y = .sv (.v (.int kc c))) (hd : d < S.n) (hdr : S.r d = .un) (hd1 : d < 1000) (h0 : 0 ≤ c) (hroom : (by_ : Int) * c ≤ 281474976710656) (hroom2 : c ≤ 140737488355328)
    (next : RunT P C ops nd K rest (⟨rg ++ (okeys x ++ okeys y), [], [d], ⟨some (d, .row d), [], [(d, .live ⟨E0, n, 0, []⟩)]⟩⟩ :: acc) ((AS.setRs [(d, .live ⟨E0, n, 0, []⟩)] S).set d (.row d))) : RunT P C ops nd K (⟨some d, .makeSlice T x y, ty, pos, aft, gd⟩ :: rest) acc S := by
  refine .inl ⟨_, [], [d], _, ?_, next⟩
  rintro S' hn ht _ hr i a w L Q ho ⟨E, h⟩ hL
  refine wpOp_of (C := C) ho (hg.wanted h (fun s hs => ht s (List.mem_append_left _ hs)) rfl) ?_
  have h1 : a.eval x = .int kl 0 := by have h1 := h.ev x; rw [ev_congr (fun _ h => List.mem_append_right _ (List.mem_append_left _ h)) ht, hx] at h1; exact h1
  have h2 : a.eval y = .int kc c := by have h2 := h.ev y; rw [ev_congr (fun _ h => List.mem_append_right _ (List.mem_append_right _ h)) ht, hy] at h2; exact h2
  obtain ⟨info, hi, hsz, hby, hz⟩ := TyEl.info (P := P) (E := E0) (n := n) (by_ := by_) (z := zv)
  obtain ⟨m, rfl⟩ := Int.eq_ofNat_of_zero_le h0
  have hm : info.bytes * m ≤ 281474976710656 := by
    rw [hby]
    have : ((by_ * m : Nat) : Int) ≤ 281474976710656 := by rw [Int.natCast_mul]; exact hroom
    omega
  obtain ⟨w', q1, q2, q3⟩ := run_make_own (P := P) w 0 T E0 info zv n tS.u hi hz hsz kl kc m hm (by unfold maxLen; omega) (Nat.zero_le _)
  have hr' : (execOp a.eval ⟨some d, .makeSlice T x y, ty, pos, aft, gd⟩).run P w = .ok (.value (.slice (some ⟨w.heap.size, 0, none⟩) 0 m)) w' := by
    simp only [execOp, h1, h2]
    simp [q1]
  have hdu : S'.r d = .un := by rw [hr d (by simp)]; exact hdr
  refine wpIn_of (C := C) (by intro c h; cases h) hr' (hL _ _ ⟨_, (h.newRow hdu hd1 [] none (.inl ⟨rfl, rfl⟩) (R' := ⟨E0, n, 0, []⟩) q2 (vs' := []) trivial (.inr (.inl rfl)) q3).put (x := .row d) (by simp [AV.holds]) (by show d < S'.n; omega) ⟨fun _ e => e.elim, fun j e => ?_⟩⟩)
  cases e
  show (AS.setR S' d _).r d ≠ _
  rw [AS.setR_same]; simp
end steps
end Go.Fw
namespace Go.Fw
open Go.RowKit
def AV.frz (i : Nat) (X : SV) : AV → AV
  | .row j => bif Nat.beq j i then .sv X else .row j
  | .rptr j k => bif Nat.beq j i then .sv .any else .rptr j k
  | .rsl j o l => bif Nat.beq j i then .sv .any else .rsl j o l
  | .cmp t js => bif js.any (Fc.isRow i) then .sv .any else .cmp t js
  | x => x
def AS.frz (S : AS) (i : Nat) (X : SV) : AS := { S with t := fun s => (S.t s).frz i X, b := fun j => (S.b j).map fun B => ⟨B.T, B.cells.map (AV.frz i X)⟩, r := fun j => bif Nat.beq j i then .dead else S.r j }
theorem frz_mb {i : Nat} {X : SV} {x : AV} {j : Nat} (h : (x.frz i X).mb j) : x.mb j := by
  cases x with
  | row k => simp only [AV.frz] at h; cases e : Nat.beq k i <;> rw [e] at h <;> exact h.elim
  | rptr k o => simp only [AV.frz] at h; cases e : Nat.beq k i <;> rw [e] at h <;> exact h.elim
  | rsl k o l => simp only [AV.frz] at h; cases e : Nat.beq k i <;> rw [e] at h <;> exact h.elim
  | cmp t js =>
    simp only [AV.frz] at h
    cases e : js.any (Fc.isRow i) with
    | true => rw [e] at h; exact h.elim
    | false => rw [e] at h; exact h
  | _ => exact h
theorem frz_mr {i : Nat} {X : SV} {x : AV} {j : Nat} (h : (x.frz i X).mr j) : x.mr j ∧ j ≠ i := by
  cases x with
  | row k =>
    simp only [AV.frz] at h
    cases e : Nat.beq k i with
    | true => rw [e] at h; exact h.elim
    | false =>
      rw [e] at h
      cases h
      exact ⟨rfl, by rintro rfl; simp at e⟩
  | rptr k o =>
    simp only [AV.frz] at h
    cases e : Nat.beq k i with
    | true => rw [e] at h; exact h.elim
    | false =>
      rw [e] at h
      cases h
      exact ⟨rfl, by rintro rfl; simp at e⟩
  | rsl k o l =>
    simp only [AV.frz] at h
    cases e : Nat.beq k i with
    | true => rw [e] at h; exact h.elim
    | false =>
      rw [e] at h
      cases h
      exact ⟨rfl, by rintro rfl; simp at e⟩
  | cmp t js =>
    simp only [AV.frz] at h
    cases e : js.any (Fc.isRow i) with
    | true => rw [e] at h; exact h.elim
    | false =>
      rw [e] at h
      refine ⟨h, ?_⟩
      rintro rfl
      have : js.any (Fc.isRow j) = true := List.any_eq_true.2 ⟨_, h, by simp [Fc.isRow]⟩
      rw [this] at e; cases e
  | _ => exact h.elim
def Rows (sz : Nat) (rows : List (List SV)) (cells : List SV) : Prop := rows.flatten = cells ∧ ∀ r ∈ rows, r.length = sz
theorem rows_get {sz : Nat} : ∀ {rows : List (List SV)} {cells : List SV}, Rows sz rows cells → ∀ (i : Nat) (row : List SV), rows[i]? = some row → row.length = sz ∧ ∀ (k : Nat) (s : SV), row[k]? = some s → cells[i * sz + k]? = some s
  | [], _, _, _, _, h => by simp at h
  | r :: rows, cells, ⟨h1, h2⟩, 0, row, h => by
    simp at h; subst h
    refine ⟨h2 r (by simp), fun k s hk => ?_⟩
    rw [← h1, List.flatten_cons]
    have hk' := (List.getElem?_eq_some_iff.1 hk).1
    rw [Nat.zero_mul, Nat.zero_add, List.getElem?_append_left hk']; exact hk
  | r :: rows, cells, ⟨h1, h2⟩, i + 1, row, h => by
    have ih := rows_get (sz := sz) (rows := rows) (cells := rows.flatten) ⟨rfl, fun r hr => h2 r (List.mem_cons_of_mem _ hr)⟩ i row (by simpa using h)
    refine ⟨ih.1, fun k s hk => ?_⟩
    have hr := h2 r (by simp)
    rw [← h1, List.flatten_cons, List.getElem?_append_right (by rw [hr, Nat.add_mul]; omega), hr, show (i + 1) * sz + k - sz = i * sz + k by rw [Nat.add_mul]; omega]
    exact ih.2 k s hk
theorem rows_len {sz : Nat} : ∀ {rows : List (List SV)} {cells : List SV}, Rows sz rows cells → cells.length = rows.length * sz
  | [], _, ⟨h, _⟩ => by rw [← h]; simp
  | r :: rows, cells, ⟨h1, h2⟩ => by
    have ih := rows_len (sz := sz) (rows := rows) (cells := rows.flatten) ⟨rfl, fun r hr => h2 r (List.mem_cons_of_mem _ hr)⟩
    rw [← h1, List.flatten_cons, List.length_append, ih, h2 r (by simp), List.length_cons, Nat.add_mul]; omega
theorem HoldsAt.frz {C : Ctx} {S : AS} {E : Env} {a : Act} {w : World} (h : HoldsAt C S E a w) {i : Nat} {R : Row} (hR : S.r i = .live R) {rows : List (List SV)} (hrows : Rows R.sz rows R.cells) (hn : rows.length = R.n) (hlen : R.n ≤ 9223372036854775807) (hone : ∀ M vs, SV.All M R.cells vs → ∀ v ∈ vs, v.oneCell' = true)
    {X : SV} (hX : ∀ M v, (slc R.sz rows).h M v → (∀ g, v.ownBlock = some g → (C.w0.heap.size ≤ g ∨ C.bor g) ∧ ∃ o, M g o = some (.agg #[])) → X.h M v) : ∃ E', HoldsAt C (S.frz i X) E' a w := by
  obtain ⟨⟨vs, hown, hvs⟩, hblk⟩ := h.rx i R hR
  have hvl := hvs.length
  have hcl := rows_len hrows
  obtain ⟨M', hM, hval, hnew, hin, hmk⟩ : ∃ M' : Mem, E.M.le M' ∧ (slc R.sz rows).h M' (E.ν i) ∧ (∀ b o v, M' b o = some v → E.M b o = some v ∨ (E.ν i).ownBlock = some b) ∧ M'.inW w ∧ ∀ g, (E.ν i).ownBlock = some g → ∃ o, M' g o = some (.agg #[]) := by
    rcases hown.2 with ⟨h1, h2⟩ | ⟨g, cap, cur, h1, _, h2, h3, _, h5, h6⟩
    · refine ⟨E.M, Mem.le_refl _, .inl ⟨none, h1, ?_⟩, fun _ _ _ e => .inl e, h.inW, fun g e => by rw [h1] at e; cases e⟩
      rw [h2] at hn; exact List.length_eq_zero_iff.1 hn
    · have hg : (E.ν i).ownBlock = some g := by rw [h1]; rfl
      have hno := (hblk g hg).2.1
      refine ⟨fun b o => if b = g ∧ o < R.n * R.sz then vs[o]? else if b = g ∧ o = R.n * R.sz then some (.agg #[]) else E.M b o, fun b o v e => ?_, ?_, fun b o v e => ?_, fun b o v e => ?_, fun g' e => ⟨R.n * R.sz, by rw [hg] at e; cases e; simp⟩⟩
      · have : b ≠ g := by rintro rfl; rw [hno o] at e; cases e
        simp [this, e]
      · refine .inr ⟨g, 0, cap, by rw [h1, hn], by rw [hn]; exact h3, by omega, fun k row hk => ?_⟩
        obtain ⟨q1, q2⟩ := rows_get hrows k row hk
        refine ⟨q1, fun j s hs => ?_⟩
        have hs2 := q2 j s hs
        obtain ⟨y, hy, hys⟩ := hvs.get hs2
        have hlt : k * R.sz + j < R.n * R.sz := by
          have := (List.getElem?_eq_some_iff.1 hs2).1
          rw [hcl, hn] at this; exact this
        refine ⟨y, by simp [hlt, hy], hone _ _ hvs y (List.mem_of_getElem? hy), s.mono (fun b o v e => ?_) hys⟩
        have : b ≠ g := by rintro rfl; rw [hno o] at e; cases e
        simp [this, e]
      · simp only at e
        split at e
        · rename_i hc; exact .inr (by rw [hg, hc.1])
        · split at e
          · rename_i hc; exact .inr (by rw [hg, hc.1])
          · exact .inl e
      · simp only at e
        split at e
        · rename_i hc
          obtain ⟨rfl, hc2⟩ := hc
          refine .of ?_ (hone _ _ hvs v (List.mem_of_getElem? e))
          simp only [World.cell?, h2]
          rw [← h6, List.getElem?_take, if_pos hc2] at e
          simpa using e
        · split at e
          · rename_i hc
            cases e
            rw [hc.1]; exact ⟨_, _, h2⟩
          · exact h.inW b o v e
  have hbb : ∀ b, (E.ν i).ownBlock = some b → (C.w0.heap.size ≤ b ∨ C.bor b) ∧ (∀ o, E.M b o = none) ∧ ¬ E.O b ∧ ∀ j B, S.b j = some B → E.β j ≠ b := hblk
  have keepx : ∀ x : AV, (x.mr i → True) → ∀ v, x.holds E v → (x.frz i X).holds { E with M := M' } v := by
    intro x _ v hv
    cases x with
    | row k =>
      simp only [AV.frz]
      cases e : Nat.beq k i with
      | true =>
        obtain rfl := Nat.eq_of_beq_eq_true e
        have hv : v = E.ν k := hv
        show X.h M' v
        rw [hv]; exact hX _ _ hval (fun g hg => ⟨(hblk g hg).1, hmk g hg⟩)
      | false => exact hv
    | rptr k o =>
      simp only [AV.frz]
      cases e : Nat.beq k i with
      | true => trivial
      | false => exact hv
    | rsl k o l =>
      simp only [AV.frz]
      cases e : Nat.beq k i with
      | true => trivial
      | false => exact hv
    | cmp t js =>
      simp only [AV.frz]
      cases e : js.any (Fc.isRow i) with
      | true => trivial
      | false => exact AV.holds_congr (E := E) (E' := { E with M := M' }) (x := .cmp t js) hM (fun _ _ => rfl) (fun _ _ => rfl) hv
    | _ => exact AV.holds_congr (E := E) (E' := { E with M := M' }) hM (fun _ _ => rfl) (fun _ _ => rfl) hv
  have none' : ∀ b, (∀ o, E.M b o = none) → (E.ν i).ownBlock ≠ some b → ∀ o, M' b o = none := fun b h1 h2 o => by
    cases e : M' b o with
    | none => rfl
    | some v =>
      rcases hnew b o v e with h3 | h3
      · rw [h1 o] at h3; cases h3
      · exact absurd h3 h2
  have bOf : ∀ j B', (S.frz i X).b j = some B' → ∃ B, S.b j = some B ∧ B' = ⟨B.T, B.cells.map (AV.frz i X)⟩ := by
    intro j B' hB'
    simp only [AS.frz] at hB'
    cases e : S.b j with
    | none => rw [e] at hB'; cases hB'
    | some B => rw [e] at hB'; cases hB'; exact ⟨B, rfl, rfl⟩
  have rOf : ∀ j, (S.frz i X).r j = if j = i then .dead else S.r j := by
    intro j
    simp only [AS.frz]
    by_cases e : j = i
    · subst e; simp
    · simp [beq_ne e, e]
  have liveR : ∀ j R', (S.frz i X).r j = .live R' → S.r j = .live R' ∧ j ≠ i := by
    intro j R' hj
    rw [rOf] at hj
    split at hj
    · cases hj
    · rename_i hne; exact ⟨hj, hne⟩
  have unR : ∀ j, S.r j ≠ .un → (S.frz i X).r j ≠ .un := by
    intro j hj
    rw [rOf]; split
    · simp
    · exact hj
  have bSome : ∀ j, (∃ B, S.b j = some B) → ∃ B, (S.frz i X).b j = some B := by
    rintro j ⟨B, hB⟩
    exact ⟨_, by simp only [AS.frz, hB, Option.map_some]; rfl⟩
  refine ⟨{ E with M := M' }, {
    wf := by
      refine ⟨fun s j hj => bSome j (h.wf.tb s j (frz_mb hj)), fun s j hj => unR j (h.wf.tr s j (frz_mr hj).1), fun k B' hB' x hx j hj => ?_, fun k B' hB' x hx j hj => ?_⟩
      · obtain ⟨B, hB, rfl⟩ := bOf k B' hB'
        obtain ⟨y, hy, rfl⟩ := List.mem_map.1 hx
        exact bSome j (h.wf.bb k B hB y hy j (frz_mb hj))
      · obtain ⟨B, hB, rfl⟩ := bOf k B' hB'
        obtain ⟨y, hy, rfl⟩ := List.mem_map.1 hx
        exact unR j (h.wf.br k B hB y hy j (frz_mr hj).1)
    marks := h.marks
    size := h.size
    os := h.os
    tape := h.tape
    output := h.output
    grown := h.grown
    frame := h.frame
    m0 := Mem.le_trans h.m0 hM
    mnew := fun b o v e => by
      rcases hnew b o v e with h1 | h1
      · exact h.mnew b o v h1
      · rcases (hbb b h1).1 with h2 | h2
        · exact .inr (.inl h2)
        · exact .inr (.inr (C.hbo _ h2))
    inW := hin
    tm := fun s => keepx _ (fun _ => trivial) _ (h.tm s)
    bx := fun j B' hB' => by
      obtain ⟨B, hB, rfl⟩ := bOf j B' hB'
      obtain ⟨h1, h2, h3, us, h4, h5⟩ := h.bx j B hB
      refine ⟨h1, none' _ h2 (fun e => (hbb _ e).2.2.2 j B hB rfl), h3, us, h4, ?_⟩
      have key : ∀ (l : List AV) (us : List Value), AllV E l us → AllV { E with M := M' } (l.map (AV.frz i X)) us := by
        intro l
        induction l with
        | nil => intro us h; cases us with | nil => trivial | cons _ _ => exact h.elim
        | cons x l ih =>
          intro us h
          cases us with
          | nil => exact h.elim
          | cons u us => exact ⟨keepx x (fun _ => trivial) u h.1, ih us h.2⟩
      exact key _ _ h5
    inj := fun j k B B' hj hk e => by
      obtain ⟨_, h1, _⟩ := bOf j B hj
      obtain ⟨_, h2, _⟩ := bOf k B' hk
      exact h.inj j k _ _ h1 h2 e
    rx := fun j R' hj => by
      obtain ⟨h1, h2⟩ := liveR j R' hj
      obtain ⟨⟨us, h3, h4⟩, h5⟩ := h.rx j R' h1
      refine ⟨⟨us, h3, h4.mono hM⟩, fun g hg => ?_⟩
      obtain ⟨h6, h7, h8, h9⟩ := h5 g hg
      refine ⟨h6, none' _ h7 (fun e => h2 (h.rinj j i R' R h1 hR g hg e)), h8, fun k B' hB' => ?_⟩
      obtain ⟨B, hB, _⟩ := bOf k B' hB'
      exact h9 k B hB
    rinj := fun j k R1 R2 hj hk => h.rinj j k R1 R2 (liveR j R1 hj).1 (liveR k R2 hk).1
    pin := h.pin
    pinr := h.pinr
    olt := fun b hb => by
      obtain ⟨h1, h2, h3⟩ := h.olt b hb
      exact ⟨h1, none' b h2 (fun e => (hbb b e).2.2.1 hb), h3⟩
    jj := C.jf _ _ _ _ _ _ _ h.jj hM hin (fun b o v e => by
      rcases hnew b o v e with h1 | h1
      · exact .inl h1
      · exact .inr ⟨(hbb b h1).1, (hbb b h1).2.2.1⟩) (fun _ _ => rfl) rfl rfl rfl (Nat.le_refl _) }⟩
def cloS (g : FuncId) (caps : List SV) : SV := ⟨fun M v => ∃ vs : List Value, v = .func (.func g) #[] ⟨vs⟩ ∧ SV.All M caps vs, fun hM ⟨vs, e, h⟩ => ⟨vs, e, h.mono hM⟩⟩
def Cap.frz (i : Nat) (cs : List SV) : Cap → Cap
  | .box j => bif Nat.beq j i then .val (ref cs) else .box j
  | c => c
def Cap.drp (i : Nat) : Cap → Cap
  | .box j => bif Nat.beq j i then .val .any else .box j
  | c => c
def AV.drp (i : Nat) : AV → AV
  | .ptr j o => bif Nat.beq j i then .sv .any else .ptr j o
  | .bsl j o l c => bif Nat.beq j i then .sv .any else .bsl j o l c
  | .clo g js => .clo g (js.map (Cap.drp i))
  | .cmp t js => bif js.any (Fc.isBox i) then .sv .any else .cmp t js
  | x => x
def lkO : List (Nat × AV) → Nat → Option AV
  | [], _ => none
  | (k, x) :: l, s => bif Nat.beq s k then some x else lkO l s
def AS.frzB (S : AS) (i : Nat) (ts : List (Nat × AV)) : AS := { S with t := fun s => (lkO ts s).getD ((S.t s).drp i), b := fun j => bif Nat.beq j i then none else (S.b j).map fun B => ⟨B.T, B.cells.map (AV.drp i)⟩ }
theorem drp_mb {i : Nat} {x : AV} {j : Nat} (h : (x.drp i).mb j) : x.mb j ∧ j ≠ i := by
  cases x with
  | ptr k o =>
    simp only [AV.drp] at h
    cases e : Nat.beq k i with
    | true => rw [e] at h; exact h.elim
    | false => rw [e] at h; cases h; exact ⟨rfl, by rintro rfl; simp at e⟩
  | bsl k o l c =>
    simp only [AV.drp] at h
    cases e : Nat.beq k i with
    | true => rw [e] at h; exact h.elim
    | false => rw [e] at h; cases h; exact ⟨rfl, by rintro rfl; simp at e⟩
  | clo g js =>
    have h : Cap.box j ∈ js.map (Cap.drp i) := h
    obtain ⟨c, hc, e⟩ := List.mem_map.1 h
    cases c with
    | val s => cases e
    | box k =>
      simp only [Cap.drp] at e
      cases e2 : Nat.beq k i with
      | true => rw [e2] at e; cases e
      | false => rw [e2] at e; cases e; exact ⟨hc, by rintro rfl; simp at e2⟩
  | cmp t js =>
    simp only [AV.drp] at h
    cases e : js.any (Fc.isBox i) with
    | true => rw [e] at h; exact h.elim
    | false =>
      rw [e] at h
      refine ⟨h, ?_⟩
      rintro rfl
      have : js.any (Fc.isBox j) = true := List.any_eq_true.2 ⟨_, h, by simp [Fc.isBox]⟩
      rw [this] at e; cases e
  | _ => exact h.elim
theorem drp_mr {i : Nat} {x : AV} {j : Nat} (h : (x.drp i).mr j) : x.mr j := by
  cases x with
  | ptr k o => simp only [AV.drp] at h; cases e : Nat.beq k i <;> rw [e] at h <;> exact h.elim
  | bsl k o l c => simp only [AV.drp] at h; cases e : Nat.beq k i <;> rw [e] at h <;> exact h.elim
  | clo g js => exact h.elim
  | cmp t js =>
    simp only [AV.drp] at h
    cases e : js.any (Fc.isBox i) with
    | true => rw [e] at h; exact h.elim
    | false => rw [e] at h; exact h
  | _ => exact h
inductive FT (S : AS) (i : Nat) (cs : List SV) (X : SV) (L : Nat) : Nat → AV → Prop
  | sl {s : Nat} (h : S.t s = .bsl i 0 L L) : FT S i cs X L s (.sv X)
  | ptr {s o : Nat} (h : S.t s = .ptr i o) : FT S i cs X L s (.sv (ref (cs.drop o)))
  | clo {s : Nat} {g : FuncId} {js : List Cap} (h : S.t s = .clo g js) : FT S i cs X L s (.clo g (js.map (Cap.frz i cs)))
def FTs (S : AS) (i : Nat) (cs : List SV) (X : SV) (L : Nat) : List (Nat × AV) → Prop
  | [] => True
  | (k, x) :: l => FT S i cs X L k x ∧ FTs S i cs X L l
theorem FTs.get {S : AS} {i : Nat} {cs : List SV} {X : SV} {L : Nat} : ∀ {ts : List (Nat × AV)}, FTs S i cs X L ts → ∀ s x, lkO ts s = some x → FT S i cs X L s x
  | [], _, _, _, h => by cases h
  | (k, y) :: l, hf, s, x, h => by
    by_cases e : s = k
    · subst e; simp [lkO] at h; subst h; exact hf.1
    · simp only [lkO, beq_ne e, cond_false] at h; exact FTs.get hf.2 s x h
theorem HoldsAt.frzB {C : Ctx} {S : AS} {E : Env} {a : Act} {w : World} (h : HoldsAt C S E a w) {i : Nat} {B : Box} (hB : S.b i = some B) {cs : List SV} (hseg : Seg B.cells 0 cs) {X : SV} {L : Nat}
    (hX : ∀ M b, (∀ (k : Nat) (s : SV), cs[k]? = some s → ∃ y, M b k = some y ∧ y.oneCell' = true ∧ s.h M y) → X.h M (.slice (some ⟨b, 0, none⟩) L L)) (hone : ∀ M vs, SV.All M cs vs → ∀ v ∈ vs, v.oneCell' = true)
    {ts : List (Nat × AV)} (hts : FTs S i cs X L ts) : ∃ E', HoldsAt C (S.frzB i ts) E' a w := by
  obtain ⟨hb1, hb2, hb3, vs, hv, hall⟩ := h.bx i B hB
  obtain ⟨us, hus, hget⟩ := hseg.vals hall
  let M' : Mem := fun b o => if b = E.β i then us[o]? else E.M b o
  have hM : E.M.le M' := fun b o v e => by
    have : b ≠ E.β i := by rintro rfl; rw [hb2 o] at e; cases e
    simp [M', this, e]
  have hnew : ∀ b o v, M' b o = some v → E.M b o = some v ∨ b = E.β i := fun b o v e => by
    by_cases hb : b = E.β i
    · exact .inr hb
    · simp only [M', if_neg hb] at e; exact .inl e
  have hin : M'.inW w := fun b o v e => by
    by_cases hb : b = E.β i
    · subst hb
      simp only [M', if_true] at e
      have := hget o v e
      refine .of ?_ (hone _ _ hus v (List.mem_of_getElem? e))
      simp [World.cell?, hv]; simpa using this
    · simp only [M', if_neg hb] at e; exact h.inW b o v e
  have hcs : ∀ (k : Nat) (s : SV), cs[k]? = some s → ∃ y, M' (E.β i) k = some y ∧ y.oneCell' = true ∧ s.h M' y := fun k s hk => by
    obtain ⟨y, hy, hs⟩ := hus.get hk
    exact ⟨y, by simp [M', hy], hone _ _ hus y (List.mem_of_getElem? hy), s.mono hM hs⟩
  have none' : ∀ b, (∀ o, E.M b o = none) → b ≠ E.β i → ∀ o, M' b o = none := fun b h1 h2 o => by simp [M', h2, h1 o]
  have href : ∀ o, (ref (cs.drop o)).h M' (.pointer (some ⟨E.β i, o, none⟩)) := fun o => ⟨E.β i, o, rfl, fun j s hj => by
    rw [List.getElem?_drop] at hj
    exact hcs _ s hj⟩
  have keepx : ∀ x : AV, ∀ v, x.holds E v → (x.drp i).holds { E with M := M' } v := by
    intro x v hv'
    cases x with
    | ptr k o =>
      simp only [AV.drp]
      cases e : Nat.beq k i with
      | true => trivial
      | false => exact hv'
    | bsl k o l c =>
      simp only [AV.drp]
      cases e : Nat.beq k i with
      | true => trivial
      | false => exact hv'
    | clo g js =>
      obtain ⟨ws, rfl, hc⟩ := hv'
      refine ⟨ws, rfl, ?_⟩
      have key : ∀ (l : List Cap) (ws : List Value), AllC E l ws → AllC { E with M := M' } (l.map (Cap.drp i)) ws := by
        intro l
        induction l with
        | nil => intro ws h; cases ws with | nil => trivial | cons _ _ => exact h.elim
        | cons c l ih =>
          intro ws h
          cases ws with
          | nil => exact h.elim
          | cons u ws =>
            refine ⟨?_, ih ws h.2⟩
            have h1 := h.1
            cases c with
            | val s => exact s.mono hM h1
            | box k =>
              simp only [Cap.drp]
              cases e : Nat.beq k i with
              | true => trivial
              | false => exact h1
      exact key js ws hc
    | sv s => exact s.mono hM hv'
    | row k => exact hv'
    | rptr k o => exact hv'
    | rsl k o l => exact hv'
    | cmp t js =>
      simp only [AV.drp]
      cases e : js.any (Fc.isBox i) with
      | true => trivial
      | false => exact AV.holds_congr (E := E) (E' := { E with M := M' }) (x := .cmp t js) hM (fun _ _ => rfl) (fun _ _ => rfl) hv'
  have keept : ∀ s v, (S.t s).holds E v → ((lkO ts s).getD ((S.t s).drp i)).holds { E with M := M' } v := by
    intro s v hv'
    cases e : lkO ts s with
    | none => exact keepx _ v hv'
    | some x =>
      show x.holds _ v
      cases hts.get s x e with
      | sl h1 => rw [h1] at hv'; have hv' : v = _ := hv'; subst hv'; exact hX M' _ hcs
      | ptr h1 => rw [h1] at hv'; have hv' : v = _ := hv'; subst hv'; exact href _
      | @clo g js h1 =>
        rw [h1] at hv'
        obtain ⟨ws, rfl, hc⟩ := hv'
        refine ⟨ws, rfl, ?_⟩
        have key : ∀ (l : List Cap) (ws : List Value), AllC E l ws → AllC { E with M := M' } (l.map (Cap.frz i cs)) ws := by
          intro l
          induction l with
          | nil => intro ws h; cases ws with | nil => trivial | cons _ _ => exact h.elim
          | cons c l ih =>
            intro ws h
            cases ws with
            | nil => exact h.elim
            | cons u ws =>
              refine ⟨?_, ih ws h.2⟩
              have h1 := h.1
              cases c with
              | val s => exact s.mono hM h1
              | box k =>
                simp only [Cap.frz]
                cases e : Nat.beq k i with
                | true =>
                  obtain rfl := Nat.eq_of_beq_eq_true e
                  have h1 : u = .pointer (some ⟨E.β k, 0, none⟩) := h1
                  subst h1
                  exact href 0
                | false => exact h1
        exact key js ws hc
  have bOf : ∀ j B', (S.frzB i ts).b j = some B' → ∃ B, S.b j = some B ∧ j ≠ i ∧ B' = ⟨B.T, B.cells.map (AV.drp i)⟩ := by
    intro j B' hB'
    simp only [AS.frzB] at hB'
    by_cases hj : j = i
    · subst hj; simp at hB'
    · rw [beq_ne hj] at hB'
      cases e : S.b j with
      | none => rw [e] at hB'; cases hB'
      | some B => rw [e] at hB'; cases hB'; exact ⟨B, rfl, hj, rfl⟩
  have bSome : ∀ j, j ≠ i → (∃ B, S.b j = some B) → ∃ B, (S.frzB i ts).b j = some B := by
    rintro j hj ⟨B, hB⟩
    exact ⟨⟨B.T, B.cells.map (AV.drp i)⟩, by simp [AS.frzB, beq_ne hj, hB]⟩
  have tmb : ∀ s j, ((lkO ts s).getD ((S.t s).drp i)).mb j → (S.t s).mb j ∧ j ≠ i := by
    intro s j hj
    cases e : lkO ts s with
    | none => rw [e] at hj; exact drp_mb hj
    | some x =>
      rw [e] at hj
      cases hts.get s x e with
      | sl h1 => exact hj.elim
      | ptr h1 => exact hj.elim
      | @clo g js h1 =>
        rw [h1]
        have hj : Cap.box j ∈ js.map (Cap.frz i cs) := hj
        obtain ⟨c, hc, e2⟩ := List.mem_map.1 hj
        cases c with
        | val s => cases e2
        | box k =>
          simp only [Cap.frz] at e2
          cases e3 : Nat.beq k i with
          | true => rw [e3] at e2; cases e2
          | false => rw [e3] at e2; cases e2; exact ⟨hc, by rintro rfl; simp at e3⟩
  have tmr : ∀ s j, ((lkO ts s).getD ((S.t s).drp i)).mr j → (S.t s).mr j := by
    intro s j hj
    cases e : lkO ts s with
    | none => rw [e] at hj; exact drp_mr hj
    | some x =>
      rw [e] at hj
      cases hts.get s x e with
      | sl h1 => exact hj.elim
      | ptr h1 => exact hj.elim
      | clo h1 => exact hj.elim
  refine ⟨{ E with M := M' }, {
    wf := by
      refine ⟨fun s j hj => bSome j (tmb s j hj).2 (h.wf.tb s j (tmb s j hj).1), fun s j hj => h.wf.tr s j (tmr s j hj), fun k B' hB' x hx j hj => ?_, fun k B' hB' x hx j hj => ?_⟩
      · obtain ⟨B, hB, _, rfl⟩ := bOf k B' hB'
        obtain ⟨y, hy, rfl⟩ := List.mem_map.1 hx
        exact bSome j (drp_mb hj).2 (h.wf.bb k B hB y hy j (drp_mb hj).1)
      · obtain ⟨B, hB, _, rfl⟩ := bOf k B' hB'
        obtain ⟨y, hy, rfl⟩ := List.mem_map.1 hx
        exact h.wf.br k B hB y hy j (drp_mr hj)
    marks := h.marks
    size := h.size
    os := h.os
    tape := h.tape
    output := h.output
    grown := h.grown
    frame := h.frame
    m0 := Mem.le_trans h.m0 hM
    mnew := fun b o v e => by
      rcases hnew b o v e with h1 | rfl
      · exact h.mnew b o v h1
      · rcases hb1 with h2 | h2
        · exact .inr (.inl h2)
        · exact .inr (.inr (C.hbo _ h2))
    inW := hin
    tm := fun s => keept s _ (h.tm s)
    bx := fun j B' hB' => by
      obtain ⟨B1, hB1, hj, rfl⟩ := bOf j B' hB'
      obtain ⟨h1, h2, h3, ws, h4, h5⟩ := h.bx j B1 hB1
      refine ⟨h1, none' _ h2 (fun e => hj (h.inj j i B1 B hB1 hB e)), h3, ws, h4, ?_⟩
      have key : ∀ (l : List AV) (us : List Value), AllV E l us → AllV { E with M := M' } (l.map (AV.drp i)) us := by
        intro l
        induction l with
        | nil => intro us h; cases us with | nil => trivial | cons _ _ => exact h.elim
        | cons x l ih =>
          intro us h
          cases us with
          | nil => exact h.elim
          | cons u us => exact ⟨keepx x u h.1, ih us h.2⟩
      exact key _ _ h5
    inj := fun j k B1 B2 hj hk e => by
      obtain ⟨_, h1, _⟩ := bOf j B1 hj
      obtain ⟨_, h2, _⟩ := bOf k B2 hk
      exact h.inj j k _ _ h1 h2 e
    rx := fun j R' hj => by
      obtain ⟨⟨ws, h3, h4⟩, h5⟩ := h.rx j R' hj
      refine ⟨⟨ws, h3, h4.mono hM⟩, fun g hg => ?_⟩
      obtain ⟨h6, h7, h8, h9⟩ := h5 g hg
      refine ⟨h6, none' _ h7 (fun e => h9 i B hB e.symm), h8, fun k B' hB' => ?_⟩
      obtain ⟨B1, hB1, _⟩ := bOf k B' hB'
      exact h9 k B1 hB1
    rinj := h.rinj
    pin := h.pin
    pinr := h.pinr
    olt := fun b hb => by
      obtain ⟨h1, h2, h3⟩ := h.olt b hb
      exact ⟨h1, none' b h2 (fun e => hb3 (e ▸ hb)), h3⟩
    jj := C.jf _ _ _ _ _ _ _ h.jj hM hin (fun b o v e => by
      rcases hnew b o v e with h1 | rfl
      · exact .inl h1
      · exact .inr ⟨hb1, hb3⟩) (fun _ _ => rfl) rfl rfl rfl (Nat.le_refl _) }⟩
theorem weak_frzB {S : AS} {i : Nat} {B : Box} (hB : S.b i = some B) (cs : List SV) (hseg : Seg B.cells 0 cs) (X : SV) (L : Nat) (ts : List (Nat × AV))
    (hX : ∀ M b, (∀ (k : Nat) (s : SV), cs[k]? = some s → ∃ y, M b k = some y ∧ y.oneCell' = true ∧ s.h M y) → X.h M (.slice (some ⟨b, 0, none⟩) L L)) (hone : ∀ M vs, SV.All M cs vs → ∀ v ∈ vs, v.oneCell' = true)
    (hts : FTs S i cs X L ts) : Weak S (S.frzB i ts) := fun _ _ _ ⟨_, h⟩ => h.frzB hB hseg hX hone hts
end Go.Fw
namespace Go.Fw
open Go.RowKit
section lits
variable {P : Program} {C : Ctx} {ops : Array Oper} {S : AS} {nd : Bool} {K : List Ac → AS → Prop} {rest : List Oper} {acc : List Ac}
variable {gd : Option (Nat × Bool)} {rg : List Nat} {d : Nat} {ty : TypeId} {pos : String} {aft : Array Edge} {x y z : Operand} {T U E0 : TypeId}
inductive Parts (S : AS) : List (Nat × Operand) → List (Nat × List SV) → Prop
  | nil : Parts S [] []
  | agg {i : Nat} {x : Operand} {l : List SV} {ps : List (Nat × Operand)} {qs : List (Nat × List SV)} [o : Ones l] (h : S.ev x = .sv (.agg l)) (t : Parts S ps qs) : Parts S ((i, x) :: ps) ((i, l) :: qs)
  | one {i : Nat} {x : Operand} {s : SV} {ps : List (Nat × Operand)} {qs : List (Nat × List SV)} [o : One s] (h : S.ev x = .sv s) (t : Parts S ps qs) : Parts S ((i, x) :: ps) ((i, [s]) :: qs)
def fillS (place : Nat → Option (Nat × Nat)) (cells : List SV) : List (Nat × List SV) → Option (List SV)
  | [] => some cells
  | (i, v) :: rest => match place i with
    | none => none
    | some (off, size) => bif Nat.beq v.length size && Nat.ble (off + v.length) cells.length then fillS place (spl cells off v) rest else none
def pkeys (ps : List (Nat × Operand)) : List Nat := ps.flatMap fun p => okeys p.2
theorem fold_spl : ∀ (us : List Value) (cs : Array Value) (off k : Nat), (us.zipIdx k).foldl (fun cs (p : Value × Nat) => cs.setIfInBounds (off + p.2) p.1) cs = ⟨spl cs.toList (off + k) us⟩
  | [], cs, off, k => by simp [spl]
  | u :: us, cs, off, k => by
    rw [List.zipIdx_cons, List.foldl_cons, fold_spl us, spl]
    simp [Nat.add_assoc]
theorem spl_allS {M : Mem} : ∀ {xs : List SV} {us : List Value} {l : List SV} {vs : List Value} {k : Nat}, SV.All M l vs → SV.All M xs us → SV.All M (spl l k xs) (spl vs k us) := by
  have set : ∀ {l : List SV} {xs : List Value} {i : Nat} {s : SV} {x : Value}, SV.All M l xs → s.h M x → SV.All M (l.set i s) (xs.set i x) := by
    intro l
    induction l with
    | nil => intro xs i s x h hs; cases xs with | nil => exact h | cons _ _ => exact h.elim
    | cons t l ih =>
      intro xs i s x h hs
      cases xs with
      | nil => exact h.elim
      | cons u xs =>
        cases i with
        | zero => exact ⟨hs, h.2⟩
        | succ i => exact ⟨h.1, ih h.2 hs⟩
  intro xs
  induction xs with
  | nil => intro us l vs k h hx; cases us with | nil => exact h | cons _ _ => exact hx.elim
  | cons s xs ih =>
    intro us l vs k h hx
    cases us with
    | nil => exact hx.elim
    | cons u us => rw [spl, spl]; exact ih (set h hx.1) hx.2
theorem fill_run {E : Env} {a : Act} {w : World} {S' : AS} (h : HoldsAt C S' E a w) (place : Nat → Option (Nat × Nat)) : ∀ {ps : List (Nat × Operand)} {qs : List (Nat × List SV)}, Parts S ps qs → (∀ s ∈ pkeys ps, S'.t s = S.t s) → ∀ {cells : List SV} {vs : List Value} {cs : List SV},
    SV.All E.M cells vs → (∀ v ∈ vs, v.oneCell' = true) → fillS place cells qs = some cs → ∃ us : List Value, Instr.fill place ⟨vs⟩ (ps.map fun p => (p.1, a.eval p.2)) = some ⟨us⟩ ∧ SV.All E.M cs us ∧ (∀ v ∈ us, v.oneCell' = true) := by
  intro ps qs hp
  induction hp with
  | nil => intro _ cells vs cs hv h1 hf; cases hf; exact ⟨vs, rfl, hv, h1⟩
  | @agg i x l ps qs o hx _ ih =>
    intro ht cells vs cs hv h1 hf
    have hx' := h.ev x
    rw [ev_congr (rs := pkeys ((i, x) :: ps)) (fun s hs => by simp only [pkeys, List.flatMap_cons]; exact List.mem_append_left _ hs) ht, hx] at hx'
    obtain ⟨us, hu, hus⟩ := hx'
    have hl := hus.length
    have hvl := hv.length
    rw [fillS] at hf
    rw [List.map_cons, Instr.fill]
    simp only [hu]
    cases hpl : place i with
    | none => rw [hpl] at hf; cases hf
    | some q =>
      obtain ⟨off, size⟩ := q
      rw [hpl] at hf
      simp only at hf ⊢
      cases hc : (Nat.beq l.length size && Nat.ble (off + l.length) cells.length) with
      | false => rw [hc] at hf; cases hf
      | true =>
        rw [hc] at hf
        simp only [cond_true] at hf
        rw [Bool.and_eq_true] at hc
        have e1 := Nat.eq_of_beq_eq_true hc.1
        have e2 := Nat.le_of_ble_eq_true hc.2
        have hc2 : ((Value.agg ⟨us⟩).cells.size ≠ size || off + (Value.agg ⟨us⟩).cells.size > (⟨vs⟩ : Array Value).size) = false := by
          simp [Value.cells]; omega
        rw [if_neg (by rw [hc2]; simp)]
        have hfs : (Value.agg ⟨us⟩).cells.zipIdx.foldl (fun (cs : Array Value) (p : Value × Nat) => cs.setIfInBounds (off + p.2) p.1) (⟨vs⟩ : Array Value) = (⟨spl vs off us⟩ : Array Value) := by
          have := fold_spl us ⟨vs⟩ off 0
          rw [← Array.foldl_toList]
          simpa [Value.cells] using this
        have hone : ∀ v ∈ spl vs off us, v.oneCell' = true := by
          have mem_spl : ∀ (xs l : List Value) (k : Nat) (x : Value), x ∈ spl l k xs → x ∈ l ∨ x ∈ xs := by
            intro xs
            induction xs with
            | nil => intro l k x hx; exact .inl hx
            | cons z xs ih =>
              intro l k x hx
              rw [spl] at hx
              rcases ih _ _ _ hx with h1 | h1
              · rcases List.mem_or_eq_of_mem_set h1 with h2 | h2
                · exact .inl h2
                · exact .inr (by simp [h2])
              · exact .inr (List.mem_cons_of_mem _ h1)
          intro v hv'
          rcases mem_spl _ _ _ _ hv' with h2 | h2
          · exact h1 v h2
          · exact o.h _ _ hus v h2
        obtain ⟨us2, g1, g2, g3⟩ := ih (fun s hs => ht s (by simp only [pkeys, List.flatMap_cons]; exact List.mem_append_right _ hs)) (spl_allS hv hus) hone hf
        refine ⟨us2, ?_, g2, g3⟩
        rw [← g1]
        congr 1
  | @one i x s ps qs o hx _ ih =>
    intro ht cells vs cs hv h1 hf
    have hx' := h.ev x
    rw [ev_congr (rs := pkeys ((i, x) :: ps)) (fun s hs => by simp only [pkeys, List.flatMap_cons]; exact List.mem_append_left _ hs) ht, hx] at hx'
    have hone1 := o.h _ _ hx'
    have hvl := hv.length
    rw [fillS] at hf
    rw [List.map_cons, Instr.fill]
    simp only [oneCell_cells hone1]
    cases hpl : place i with
    | none => rw [hpl] at hf; cases hf
    | some q =>
      obtain ⟨off, size⟩ := q
      rw [hpl] at hf
      simp only at hf ⊢
      cases hc : (Nat.beq [s].length size && Nat.ble (off + [s].length) cells.length) with
      | false => rw [hc] at hf; cases hf
      | true =>
        rw [hc] at hf
        simp only [cond_true] at hf
        rw [Bool.and_eq_true] at hc
        have e1 := Nat.eq_of_beq_eq_true hc.1
        have e2 := Nat.le_of_ble_eq_true hc.2
        simp only [List.length_cons, List.length_nil] at e1 e2
        have hc2 : ((#[a.eval x] : Array Value).size ≠ size || off + (#[a.eval x] : Array Value).size > (⟨vs⟩ : Array Value).size) = false := by
          simp; omega
        rw [if_neg (by rw [hc2]; simp)]
        obtain ⟨us2, g1, g2, g3⟩ := ih (fun s hs => ht s (by simp only [pkeys, List.flatMap_cons]; exact List.mem_append_right _ hs)) (spl_allS (xs := [s]) (us := [a.eval x]) hv ⟨hx', trivial⟩) (fun v hv' => by
          rw [spl, spl] at hv'
          rcases List.mem_or_eq_of_mem_set hv' with h2 | h2
          · exact h1 v h2
          · rw [h2]; exact hone1) hf
        refine ⟨us2, ?_, g2, g3⟩
        rw [← g1]
        congr 1
        simp [spl]
class StructPl (P : Program) (T : TypeId) (pl : outParam (List (Nat × Nat))) (z : outParam (List Value)) : Prop where
  h : (match P.underlying T with | some (.struct fs) => fs.toList.mapM (fun f => (P.info? f.type).map fun i => (f.offset, i.size)) | _ => none) = some pl
  hz : (P.info? T).bind (·.zero) = some (.agg ⟨z⟩)
  o : z.all (fun v => v.oneCell') = true
theorem mapM_places {fs : List Field} {pl : List (Nat × Nat)} {w : World} (h : fs.mapM (fun f => (P.info? f.type).map fun i => (f.offset, i.size)) = some pl) :
    (fs.mapM (fun f => do pure (f.offset, ← sizeOf f.type) : Field → Sem (Nat × Nat))).run P w = .ok pl w := by
  induction fs generalizing pl with
  | nil => simp at h; subst h; rfl
  | cons f fs ih =>
    rw [List.mapM_cons] at h ⊢
    cases hi : P.info? f.type with
    | none => rw [hi] at h; simp at h
    | some i =>
      rw [hi] at h
      cases hr : fs.mapM (fun f => (P.info? f.type).map fun i => (f.offset, i.size)) with
      | none => rw [hr] at h; simp at h
      | some pl' =>
        rw [hr] at h
        simp at h
        have hs : (sizeOf f.type).run P w = .ok i.size w := by simp [sizeOf, typeInfo, hi]
        simp only [Sem.run_bind, hs, Result.andThen_ok, Sem.run_pure, ih hr]
        rw [← h]
theorem RT.build (hg : Gd ops S gd rg) {pl : List (Nat × Nat)} {zc : List Value} [tP : StructPl P T pl zc] {parts : Array (Nat × Operand)} {qs : List (Nat × List SV)} (hp : Parts S parts.toList qs) {cs : List SV} (hf : fillS (fun i => pl[i]?) (zc.map SV.v) qs = some cs) (hd : d < S.n)
    (next : RunT P C ops nd K rest (⟨rg ++ pkeys parts.toList, [], [], ⟨some (d, .sv (.agg cs)), [], []⟩⟩ :: acc) (S.set d (.sv (.agg cs)))) : RunT P C ops nd K (⟨some d, .build T parts, ty, pos, aft, gd⟩ :: rest) acc S :=
  RT.value hg (pkeys parts.toList) [] [] (.sv (.agg cs)) hd (by intro c h; cases h) (fun S' ht _ _ E a w h => by
    have hu := tP.h
    cases hT : P.underlying T with
    | none => rw [hT] at hu; cases hu
    | some u =>
      rw [hT] at hu
      cases u with
      | struct fs =>
        simp only at hu
        have hz : (zeroValue T).run P w = .ok (.agg ⟨zc⟩) w := TyZero.run (t := ⟨tP.hz⟩) w
        obtain ⟨us, h1, h2, _⟩ := fill_run h (fun i => pl[i]?) hp ht (cells := zc.map SV.v) (vs := zc) (by
          clear hf
          have : ∀ l : List Value, SV.All E.M (l.map SV.v) l := by
            intro l; induction l with
            | nil => trivial
            | cons v l ih => exact ⟨rfl, ih⟩
          exact this zc) (List.all_eq_true.1 tP.o) hf
        refine ⟨.agg ⟨us⟩, ?_, ⟨us, rfl, h2⟩, nomb⟩
        have hm : (fs.mapM (fun f => do pure (f.offset, ← sizeOf f.type) : Field → Sem (Nat × Nat))).run P w = .ok pl.toArray w := by
          have := mapM_places (P := P) (w := w) hu
          rw [← Array.toArray_toList (xs := fs), List.mapM_toArray]
          rw [Sem.run_map, this]; rfl
        have e3 : (parts.map fun p => (p.1, a.eval p.2)).toList = parts.toList.map fun p => (p.1, a.eval p.2) := by simp
        have h1' : Instr.fill (fun i => pl.toArray[i]?) ⟨zc⟩ (parts.toList.map fun p => (p.1, a.eval p.2)) = some ⟨us⟩ := by simpa using h1
        simp only [execOp, Instr.build, underlying]
        simp only [Sem.run_bind, hz, Result.andThen_ok, run_program, hT, Sem.run_pure, Value.cells]
        have hm' : (Array.mapM (fun f => do
            let __do_lift ← sizeOf f.type
            pure (f.offset, __do_lift)) fs : Sem _).run P w = .ok pl.toArray w := hm
        simp only [hm', Result.andThen_ok]
        have e4 : (Array.map (fun x => match x with | (i, x) => (i, a.eval x)) parts).toList = parts.toList.map fun p => (p.1, a.eval p.2) := by simp
        simp only [e4, h1', Sem.run_pure, Result.andThen_ok]
      | _ => cases hu) next
def Mem.add (M : Mem) (g : Nat) (vs : List Value) : Mem := fun b o => if b = g then vs[o]? else M b o
theorem HoldsAt.newImm {E : Env} {a : Act} {w : World} (h : HoldsAt C S E a w) (vs : List Value) (T : TypeId) (hone : ∀ v ∈ vs, v.oneCell' = true) : HoldsAt C S { E with M := E.M.add w.heap.size vs } a (w.alloc (.cells ⟨vs⟩ T)) := by
  have hno : ∀ o, E.M w.heap.size o = none := fun o => by
    cases e : E.M w.heap.size o with
    | none => rfl
    | some v => have := inW_lt h.inW e; omega
  refine h.grow (fun b o v e => ?_) (fun b o v e => ?_) (fun b o v e => ?_) (((Below.refl _ _).alloc (Nat.le_refl _) _))
  · have : b ≠ w.heap.size := by rintro rfl; rw [hno o] at e; cases e
    simp [Mem.add, this, e]
  · by_cases hb : b = w.heap.size
    · exact .inr (by omega)
    · simp only [Mem.add, if_neg hb] at e; exact .inl e
  · by_cases hb : b = w.heap.size
    · subst hb
      simp only [Mem.add, if_true] at e
      refine .of ?_ (hone v (List.mem_of_getElem? e))
      rw [World.cell?_alloc_new]; simpa using e
    · simp only [Mem.add, if_neg hb] at e
      refine (h.inW b o v e).same ?_
      show (w.heap.push _)[b]? = _
      rw [Array.getElem?_push, if_neg hb]
def consec : Nat → List (Nat × List SV) → Bool
  | _, [] => true
  | k, (i, _) :: l => Nat.beq i k && consec (k + 1) l
theorem fill_consec {sz : Nat} : ∀ (qs : List (Nat × List SV)) (pre zs : List SV) (k : Nat), consec k qs = true → (∀ q ∈ qs, q.2.length = sz) → pre.length = k * sz → zs.length = qs.length * sz →
    fillS (fun i => some (i * sz, sz)) (pre ++ zs) qs = some (pre ++ (qs.map (·.2)).flatten)
  | [], pre, zs, k, _, _, _, hz => by
    have : zs = [] := List.length_eq_zero_iff.1 (by simpa using hz)
    simp [fillS, this]
  | (i, v) :: qs, pre, zs, k, hc, hl, hp, hz => by
    simp only [consec, Bool.and_eq_true] at hc
    have hi := Nat.eq_of_beq_eq_true hc.1
    subst hi
    have hv := hl (i, v) (by simp)
    simp only at hv
    have hz' : zs.length = qs.length * sz + sz := by rw [hz, List.length_cons, Nat.add_mul]; omega
    rw [fillS]
    simp only
    have hcond : (Nat.beq v.length sz && Nat.ble (i * sz + v.length) (pre ++ zs).length) = true := by
      rw [Bool.and_eq_true]
      refine ⟨by rw [hv]; simp, ?_⟩
      rw [List.length_append, hp, hv]
      exact Nat.ble_eq_true_of_le (by omega)
    rw [hcond, cond_true]
    have hs : spl (pre ++ zs) (i * sz) v = (pre ++ v) ++ zs.drop sz := by
      have e : pre ++ zs = pre ++ (zs.take sz ++ zs.drop sz) := by rw [List.take_append_drop]
      have gen : ∀ (xs pre l post : List SV), l.length = xs.length → spl (pre ++ (l ++ post)) pre.length xs = pre ++ (xs ++ post) := by
        intro xs
        induction xs with
        | nil => intro pre l post h; simp at h; subst h; rfl
        | cons x xs ih =>
          intro pre l post h
          cases l with
          | nil => simp at h
          | cons y l =>
            rw [spl]
            have : (pre ++ (y :: l ++ post)).set pre.length x = (pre ++ [x]) ++ (l ++ post) := by simp
            rw [this, show pre.length + 1 = (pre ++ [x]).length by simp, ih (pre ++ [x]) l post (by simpa using h)]
            simp
      rw [e, ← hp, gen v pre (zs.take sz) (zs.drop sz) (by rw [hv]; simp; omega)]
      simp
    rw [hs, fill_consec qs (pre ++ v) (zs.drop sz) (i + 1) hc.2 (fun q hq => hl q (List.mem_cons_of_mem _ hq)) (by rw [List.length_append, hp, hv, Nat.add_mul]; omega) (by simp; omega)]
    simp
theorem run_buildSlice {E : Env} {a : Act} {w : World} {S' : AS} (h : HoldsAt C S' E a w) {n by_ : Nat} {zv : Value} [tS : TySl P T E0 n] [tE : TyEl P E0 n by_ zv] {len : Nat} {parts : Array (Nat × Operand)} {qs : List (Nat × List SV)} (hp : Parts S parts.toList qs) (ht : ∀ s ∈ pkeys parts.toList, S'.t s = S.t s)
    (hc : consec 0 qs = true) (hl : qs.length = len) (hsz : (qs.all fun q => Nat.beq q.2.length n) = true) (hlen : len * n ≤ 16777216) (hz1 : ∀ v ∈ zv.cells.toList, v.oneCell' = true) :
    ∃ vs : List Value, (execOp a.eval ⟨some d, .buildSlice T len parts, ty, pos, aft, gd⟩).run P w = .ok (.value (.slice (some ⟨w.heap.size, 0, none⟩) len len)) (w.alloc (.cells ⟨vs⟩ E0)) ∧ SV.All E.M (qs.map (·.2)).flatten vs ∧ (∀ v ∈ vs, v.oneCell' = true) := by
  obtain ⟨info, hi, hs1, hb1, hz⟩ := TyEl.info (P := P) (E := E0) (n := n) (by_ := by_) (z := zv)
  have hzr : (zeroValue E0).run P w = .ok zv w := by simp [zeroValue, typeInfo, hi, hz]
  have hsr := tS.size w
  have hq : ∀ q ∈ qs, q.2.length = n := fun q hq => Nat.eq_of_beq_eq_true (List.all_eq_true.1 hsz q hq)
  have hlen2 : ¬ (len * n > 2 ^ 24) := by omega
  let zero : Array Value := if len * n = 0 then #[] else zv.cells
  have hz0 : ((if len * n = 0 then pure #[] else do pure (← zeroValue E0).cells) : Sem (Array Value)).run P w = .ok zero w := by
    by_cases e : len * n = 0
    · simp [zero, e]
    · simp [zero, e, hzr]
  let vs0 : List Value := ((Array.range (len * n)).map (zero[· % zero.size]!)).toList
  have hv0l : vs0.length = len * n := by simp [vs0]
  have hv0 : ∀ v ∈ vs0, v.oneCell' = true := by
    intro v hv
    simp only [vs0, Array.toList_map, List.mem_map, Array.mem_toList_iff, Array.mem_range] at hv
    obtain ⟨k, hk, rfl⟩ := hv
    have hne : len * n ≠ 0 := by omega
    have hzz : zero = zv.cells := by simp [zero, hne]
    rw [hzz]
    have hcs := tE.z
    have hpos : k % zv.cells.size < zv.cells.size := Nat.mod_lt _ (by rw [hcs]; exact tE.p)
    rw [getElem!_pos zv.cells _ hpos]
    exact hz1 _ (Array.getElem_mem_toList hpos)
  have hall0 : SV.All E.M (vs0.map SV.v) vs0 := by
    have : ∀ l : List Value, SV.All E.M (l.map SV.v) l := by
      intro l; induction l with
      | nil => trivial
      | cons v l ih => exact ⟨rfl, ih⟩
    exact this vs0
  have hfill := fill_consec (sz := n) qs [] (vs0.map SV.v) 0 hc hq (by simp) (by simp [hv0l, hl])
  simp only [List.nil_append] at hfill
  obtain ⟨us, h1, h2, h3⟩ := fill_run h (fun i => some (i * n, n)) hp ht hall0 hv0 hfill
  refine ⟨us, ?_, h2, h3⟩
  have e4 : (Array.map (fun x => match x with | (i, x) => (i, a.eval x)) parts).toList = parts.toList.map fun p => (p.1, a.eval p.2) := by simp
  simp only [execOp, Instr.buildSlice, underlying]
  simp only [Sem.run_bind, run_program, Result.andThen_ok, tS.u, Sem.run_pure, hsr, if_neg hlen2]
  have h1' : Instr.fill (fun i => some (i * n, n)) (Array.map (fun x => zero[x % zero.size]!) (Array.range (len * n))) (parts.toList.map fun p => (p.1, a.eval p.2)) = some ⟨us⟩ := h1
  by_cases e : len * n = 0
  · have hz2 : zero = #[] := by simp [zero, e]
    rw [hz2] at h1'
    simp only [if_pos e, e4, Sem.run_bind, Sem.run_pure, Result.andThen_ok, h1', newRow, run_newObj]
    rfl
  · have hz2 : zero = zv.cells := by simp [zero, e]
    rw [hz2] at h1'
    simp only [if_neg e, e4, Sem.run_bind, Sem.run_pure, Result.andThen_ok, hzr, h1', newRow, run_newObj]
    rfl
theorem RT.buildSlice (hg : Gd ops S gd rg) {n by_ : Nat} {zv : Value} [tS : TySl P T E0 n] [tE : TyEl P E0 n by_ zv] {len : Nat} {parts : Array (Nat × Operand)} {qs : List (Nat × List SV)} (hp : Parts S parts.toList qs) (hd : d < S.n)
    (hc : consec 0 qs = true) (hl : qs.length = len) (hsz : (qs.all fun q => Nat.beq q.2.length n) = true) (hlen : len * n ≤ 16777216) (hz1 : ∀ v ∈ zv.cells.toList, v.oneCell' = true) {rows : List (List SV)} (hrows : qs.map (·.2) = rows)
    (next : RunT P C ops nd K rest (⟨rg ++ pkeys parts.toList, [], [], ⟨some (d, .sv (slc n rows)), [], []⟩⟩ :: acc) (S.set d (.sv (slc n rows)))) : RunT P C ops nd K (⟨some d, .buildSlice T len parts, ty, pos, aft, gd⟩ :: rest) acc S := by
  subst hrows
  refine .inl ⟨_, [], [], _, ?_, next⟩
  rintro S' hn ht _ _ i a w L Q ho ⟨E, h⟩ hL
  refine wpOp_of (C := C) ho (hg.wanted h (fun s hs => ht s (List.mem_append_left _ hs)) rfl) ?_
  obtain ⟨vs, hr, hall, hone⟩ := run_buildSlice (P := P) (T := T) (E0 := E0) (n := n) (by_ := by_) (zv := zv) (d := d) (ty := ty) (pos := pos) (aft := aft) (gd := gd) h hp (fun s hs => ht s (List.mem_append_right _ hs)) hc hl hsz hlen hz1
  refine wpIn_of (C := C) (by intro c h; cases h) hr (hL _ _ ⟨_, (h.newImm vs E0 hone).put (d := d) (x := .sv (slc n (qs.map fun (q : Nat × List SV) => q.2))) (v := .slice (some ⟨w.heap.size, 0, none⟩) len len) ?_ (by show d < S'.n; omega) nomb⟩)
  have hrw : Rows n (qs.map (·.2)) (qs.map (·.2)).flatten := ⟨rfl, fun r hr => by
    obtain ⟨q, hq, rfl⟩ := List.mem_map.1 hr
    exact Nat.eq_of_beq_eq_true (List.all_eq_true.1 hsz q hq)⟩
  have hpn := tE.p
  have hlb : len ≤ 16777216 := Nat.le_trans (Nat.le_mul_of_pos_right _ hpn) hlen
  refine .inr ⟨w.heap.size, 0, len, by rw [List.length_map, hl], by rw [List.length_map, hl]; exact Nat.le_refl _, by rw [List.length_map, hl]; omega, fun k row hk => ?_⟩
  obtain ⟨q1, q2⟩ := rows_get hrw k row hk
  refine ⟨q1, fun j s hs => ?_⟩
  obtain ⟨y, hy, hys⟩ := hall.get (q2 j s hs)
  refine ⟨y, by simp [Mem.add, hy], hone y (List.mem_of_getElem? hy), s.mono (fun b o v e => ?_) hys⟩
  have : b ≠ w.heap.size := by rintro rfl; have := inW_lt h.inW e; omega
  simp [Mem.add, this, e]
theorem RT.buildSliceR (hg : Gd ops S gd rg) {n by_ : Nat} {zv : Value} [tS : TySl P T E0 n] [tE : TyEl P E0 n by_ zv] {len : Nat} {parts : Array (Nat × Operand)} {qs : List (Nat × List SV)} (hp : Parts S parts.toList qs) (hd : d < S.n) (hdr : S.r d = .un) (hd1 : d < 1000)
    (hc : consec 0 qs = true) (hl : qs.length = len) (hsz : (qs.all fun q => Nat.beq q.2.length n) = true) (hlen : len * n ≤ 16777216) (hz1 : ∀ v ∈ zv.cells.toList, v.oneCell' = true) {cells : List SV} (hcells : (qs.map (·.2)).flatten = cells)
    (next : RunT P C ops nd K rest (⟨rg ++ pkeys parts.toList, [], [d], ⟨some (d, .row d), [], [(d, .live ⟨E0, n, len, cells⟩)]⟩⟩ :: acc) ((AS.setRs [(d, .live ⟨E0, n, len, cells⟩)] S).set d (.row d))) : RunT P C ops nd K (⟨some d, .buildSlice T len parts, ty, pos, aft, gd⟩ :: rest) acc S := by
  subst hcells
  refine .inl ⟨_, [], [d], _, ?_, next⟩
  rintro S' hn ht _ hrr i a w L Q ho ⟨E, h⟩ hL
  refine wpOp_of (C := C) ho (hg.wanted h (fun s hs => ht s (List.mem_append_left _ hs)) rfl) ?_
  obtain ⟨vs, hr, hall, hone⟩ := run_buildSlice (P := P) (T := T) (E0 := E0) (n := n) (by_ := by_) (zv := zv) (d := d) (ty := ty) (pos := pos) (aft := aft) (gd := gd) h hp (fun s hs => ht s (List.mem_append_right _ hs)) hc hl hsz hlen hz1
  have hpn := tE.p
  have hlb : len ≤ 16777216 := Nat.le_trans (Nat.le_mul_of_pos_right _ hpn) hlen
  have hrw : Rows n (qs.map (·.2)) (qs.map (·.2)).flatten := ⟨rfl, fun r hr => by
    obtain ⟨q, hq, rfl⟩ := List.mem_map.1 hr
    exact Nat.eq_of_beq_eq_true (List.all_eq_true.1 hsz q hq)⟩
  have hvl : vs.length = len * n := by rw [← hall.length, rows_len hrw, List.length_map, hl]
  have hdu : S'.r d = .un := by rw [hrr d (by simp)]; exact hdr
  have hown : (w.alloc (.cells ⟨vs⟩ E0)).ownsRow 0 E0 n (.slice (some ⟨w.heap.size, 0, none⟩) len len) len vs := World.ownsRow_lit w ⟨vs⟩ len (Nat.zero_le _) (by unfold maxLen; omega) (by simpa using hvl)
  refine wpIn_of (C := C) (by intro c h; cases h) hr (hL _ _ ⟨_, (h.newRow hdu hd1 [] none (.inl ⟨rfl, rfl⟩) (R' := ⟨E0, n, len, (qs.map fun (q : Nat × List SV) => q.2).flatten⟩) hown hall (.inr (.inl rfl)) (World.grownBy_alloc w _ none)).put (d := d) (x := .row d) (v := .slice (some ⟨w.heap.size, 0, none⟩) len len) (by simp [AV.holds]) (by show d < S'.n; omega) ⟨fun _ e => e.elim, fun j e => ?_⟩⟩)
  cases e
  show (AS.setR S' d _).r d ≠ _
  rw [AS.setR_same]; simp
class Sub (s : SV) (n : outParam Nat) (sz : outParam Nat) (f : outParam (Nat → Nat → SV)) : Prop where
  h : ∀ M v, s.h M v → ∃ a c, v = .slice a n c ∧ n ≤ c ∧ ∀ lo hi, lo ≤ hi → hi ≤ n → (f lo hi).h M (.slice (if c = lo then a else a.map (·.add (lo * sz))) (hi - lo) (c - lo))
def cut {α : Type} (l : List α) (lo hi : Nat) : List α := (l.drop lo).take (hi - lo)
theorem slc_sub {sz : Nat} {rows : List (List SV)} {M : Mem} {v : Value} (h : (slc sz rows).h M v) : ∃ a c, v = .slice a rows.length c ∧ rows.length ≤ c ∧ ∀ lo hi, lo ≤ hi → hi ≤ rows.length → (slc sz (cut rows lo hi)).h M (.slice (if c = lo then a else a.map (·.add (lo * sz))) (hi - lo) (c - lo)) := by
  rcases h with ⟨a, rfl, rfl⟩ | ⟨b, o, c, rfl, hc, hc2, hr⟩
  · refine ⟨a, 0, rfl, Nat.le_refl _, fun lo hi h1 h2 => .inl ⟨a, ?_, by simp [cut]⟩⟩
    simp at h2
    have : lo = 0 := by omega
    subst this; subst h2; simp
  · refine ⟨some ⟨b, o, none⟩, c, rfl, hc, fun lo hi h1 h2 => ?_⟩
    have hl : (cut rows lo hi).length = hi - lo := by simp [cut]; omega
    by_cases e : c = lo
    · have : hi - lo = 0 := by omega
      rw [if_pos e]
      refine .inr ⟨b, o, c - lo, by rw [hl], by omega, by omega, fun i row hi' => ?_⟩
      have := (List.getElem?_eq_some_iff.1 hi').1
      omega
    · rw [if_neg e]
      refine .inr ⟨b, o + lo * sz, c - lo, by rw [hl]; simp [addr_add], by omega, by omega, fun i row hi' => ?_⟩
      have hi2 : rows[lo + i]? = some row := by
        simp only [cut, List.getElem?_take, List.getElem?_drop] at hi'
        split at hi'
        · exact hi'
        · cases hi'
      obtain ⟨q1, q2⟩ := hr _ row hi2
      refine ⟨q1, fun k s hk => ?_⟩
      have := q2 k s hk
      rwa [show o + (lo + i) * sz + k = o + lo * sz + i * sz + k by rw [Nat.add_mul]; omega] at this
instance {sz : Nat} {rows : List (List SV)} : Sub (slc sz rows) rows.length sz (fun lo hi => slc sz (cut rows lo hi)) := ⟨fun _ _ h => slc_sub h⟩
theorem cut_map {α β : Type} (l : List α) (f : α → β) (lo hi : Nat) : cut (l.map f) lo hi = (cut l lo hi).map f := by simp [cut, List.map_take, List.map_drop]
def bndS (S : AS) (dflt : Nat) : Option Operand → Int → Prop
  | none, i => i = dflt
  | some x, i => ∃ k, S.ev x = .sv (.v (.int k i))
def bkeys : Option Operand → List Nat
  | none => []
  | some x => okeys x
theorem bnd_val {E : Env} {a : Act} {w : World} {S' : AS} (h : HoldsAt C S' E a w) {df : Nat} {ox : Option Operand} {i : Int} (hb : bndS S df ox i) (ht : ∀ s ∈ bkeys ox, S'.t s = S.t s) : (ox = none ∧ i = df) ∨ ∃ x k, ox = some x ∧ a.eval x = .int k i := by
  cases ox with
  | none => exact .inl ⟨rfl, hb⟩
  | some x =>
    obtain ⟨k, hk⟩ := hb
    have h1 := h.ev x
    rw [ev_congr (rs := bkeys (some x)) (fun s hs => hs) ht, hk] at h1
    exact .inr ⟨x, k, rfl, h1⟩
theorem RT.slice (hg : Gd ops S gd rg) {n sz : Nat} [tS : TySl P T E0 sz] {s : SV} {f : Nat → Nat → SV} [hs : Sub s n sz f] (hx : S.ev x = .sv s) {lo hi : Option Operand} (l h' : Int) (hlo : bndS S 0 lo l) (hhi : bndS S n hi h') (hd : d < S.n) (h0 : 0 ≤ l) (h1 : l ≤ h') (h2 : h' ≤ n) (X : SV) (hX : f l.toNat h'.toNat = X)
    (next : RunT P C ops nd K rest (⟨rg ++ (okeys x ++ (bkeys lo ++ bkeys hi)), [], [], ⟨some (d, .sv X), [], []⟩⟩ :: acc) (S.set d (.sv X))) : RunT P C ops nd K (⟨some d, .slice T x lo hi none, ty, pos, aft, gd⟩ :: rest) acc S :=
  RT.value hg (okeys x ++ (bkeys lo ++ bkeys hi)) [] [] (.sv X) hd (by intro c h; cases h) (fun S' ht _ _ E a w h => by
    have hv := h.ev x
    rw [ev_congr (fun _ h => List.mem_append_left _ h) ht, hx] at hv
    obtain ⟨b, c, e, hc, hsub⟩ := hs.h _ _ hv
    have g1 := bnd_val h hlo (fun s hs => ht s (List.mem_append_right _ (List.mem_append_left _ hs)))
    have g2 := bnd_val h hhi (fun s hs => ht s (List.mem_append_right _ (List.mem_append_right _ hs)))
    obtain ⟨kl, hkl⟩ := Int.eq_ofNat_of_zero_le h0
    obtain ⟨kh, hkh⟩ := Int.eq_ofNat_of_zero_le (show 0 ≤ h' by omega)
    have hkm : kl ≤ kh := by omega
    have hmn : kh ≤ n := by omega
    have hmc : kh ≤ c := by omega
    have hres := hsub l.toNat h'.toNat (by omega) (by omega)
    rw [hX] at hres
    refine ⟨_, ?_, hres, nomb⟩
    have hsz := tS.size w
    rcases g1 with ⟨rfl, q1⟩ | ⟨x1, k1, rfl, q1⟩ <;> rcases g2 with ⟨rfl, q2⟩ | ⟨x2, k2, rfl, q2⟩
    · have e1 : kl = 0 := by omega
      have e2 : kh = n := by omega
      simp [execOp, e, Instr.sliceAt, Instr.slice, underlying, tS.u, Instr.sliceBounds, hsz, hkl, hkh, e1, e2]
    · have e1 : kl = 0 := by omega
      simp [execOp, e, Instr.sliceAt, Instr.slice, underlying, tS.u, Instr.sliceBounds, Instr.sliceBound, asIntOf, q2, hsz, hkl, hkh, e1, hmc]
    · have e2 : kh = n := by omega
      have e3 : kl ≤ n := by omega
      simp [execOp, e, Instr.sliceAt, Instr.slice, underlying, tS.u, Instr.sliceBounds, Instr.sliceBound, asIntOf, q1, hsz, hkl, hkh, e2, e3]
    · simp [execOp, e, Instr.sliceAt, Instr.slice, underlying, tS.u, Instr.sliceBounds, Instr.sliceBound, asIntOf, q1, q2, hsz, hkl, hkh, hmc, hkm]) next
inductive Caps (S : AS) : List Operand → List Cap → Prop
  | nil : Caps S [] []
  | box {x : Operand} {i : Nat} {xs : List Operand} {cs : List Cap} (h : S.ev x = .ptr i 0) (t : Caps S xs cs) : Caps S (x :: xs) (.box i :: cs)
  | val {x : Operand} {s : SV} {xs : List Operand} {cs : List Cap} (h : S.ev x = .sv s) (t : Caps S xs cs) : Caps S (x :: xs) (.val s :: cs)
theorem Caps.vals {E : Env} {a : Act} {w : World} {S' : AS} (h : HoldsAt C S' E a w) {xs : List Operand} {cs : List Cap} (hc : Caps S xs cs) (ht : ∀ s ∈ xs.flatMap okeys, S'.t s = S.t s) : AllC E cs (xs.map a.eval) ∧ ∀ j, Cap.box j ∈ cs → ∃ B, S'.b j = some B := by
  induction hc with
  | nil => exact ⟨trivial, by simp⟩
  | @box x i xs cs hx _ ih =>
    have hx' : S'.ev x = .ptr i 0 := by rw [ev_congr (rs := (x :: xs).flatMap okeys) (fun s hs => by rw [List.flatMap_cons]; exact List.mem_append_left _ hs) ht, hx]
    have h1 := h.ev x
    rw [hx'] at h1
    obtain ⟨i1, i2⟩ := ih (fun s hs => ht s (by rw [List.flatMap_cons]; exact List.mem_append_right _ hs))
    refine ⟨⟨h1, i1⟩, fun j hj => ?_⟩
    rcases List.mem_cons.1 hj with e | hj
    · cases e; exact (ev_live h.wf hx').1 i rfl
    · exact i2 j hj
  | @val x s xs cs hx _ ih =>
    have hx' : S'.ev x = .sv s := by rw [ev_congr (rs := (x :: xs).flatMap okeys) (fun s hs => by rw [List.flatMap_cons]; exact List.mem_append_left _ hs) ht, hx]
    have h1 := h.ev x
    rw [hx'] at h1
    obtain ⟨i1, i2⟩ := ih (fun s hs => ht s (by rw [List.flatMap_cons]; exact List.mem_append_right _ hs))
    refine ⟨⟨h1, i1⟩, fun j hj => ?_⟩
    rcases List.mem_cons.1 hj with e | hj
    · cases e
    · exact i2 j hj
theorem RT.makeFunc (hg : Gd ops S gd rg) {g : FuncId} {xs : Array Operand} {cs : List Cap} (hc : Caps S xs.toList cs) (hd : d < S.n)
    (next : RunT P C ops nd K rest (⟨rg ++ xs.toList.flatMap okeys, [], [], ⟨some (d, .clo g cs), [], []⟩⟩ :: acc) (S.set d (.clo g cs))) : RunT P C ops nd K (⟨some d, .makeFunc (.func g) #[] xs, ty, pos, aft, gd⟩ :: rest) acc S :=
  RT.value hg (xs.toList.flatMap okeys) [] [] (.clo g cs) hd (by intro c h; cases h) (fun S' ht _ _ E a w h => by
    obtain ⟨h1, h2⟩ := hc.vals h ht
    refine ⟨.func (.func g) #[] ⟨xs.toList.map a.eval⟩, ?_, ⟨_, rfl, h1⟩, fun j hj => h2 j hj, fun _ h => h.elim⟩
    have e2 : xs.map a.eval = ⟨xs.toList.map a.eval⟩ := by apply Array.ext'; simp
    simp [execOp, Instr.makeFunc, e2]) next
end lits
end Go.Fw
namespace Go.Fw
open Go.RowKit
theorem tl {a b : Nat} (h : Nat.ble (a + 1) b = true) : a < b := Nat.le_of_ble_eq_true h
theorem nw_i64 {x : Int} (h : -9223372036854775808 ≤ x ∧ x ≤ 9223372036854775807) : IntKind.i64.wrap x = x := IntWalk.i64_in x h
section steps
variable {P : Program} {C : Ctx} {ops : Array Oper} {S : AS} {nd : Bool} {K : List Ac → AS → Prop} {rest : List Oper} {acc : List Ac}
variable {gd : Option (Nat × Bool)} {rg : List Nat} {d : Nat} {ty : TypeId} {pos : String} {aft : Array Edge} {x y z : Operand} {T U E0 : TypeId}
theorem RT.done (h : K acc S) : RunT P C ops nd K [] acc S := h
theorem RT.mv (hg : Gd ops S gd rg) {s : SV} (hx : S.ev x = .sv s) (hd : d < S.n)
    (next : RunT P C ops nd K rest (⟨rg ++ okeys x, [], [], ⟨some (d, .sv s), [], []⟩⟩ :: acc) (S.set d (.sv s))) : RunT P C ops nd K (⟨some d, .move x, ty, pos, aft, gd⟩ :: rest) acc S := RT.move hg hx hd next
theorem RT.asg (hg : Gd ops S gd rg) {s : SV} (hx : S.ev x = .sv s) (hd : d < S.n)
    (next : RunT P C ops nd K rest (⟨rg ++ okeys x, [], [], ⟨some (d, .sv s), [], []⟩⟩ :: acc) (S.set d (.sv s))) : RunT P C ops nd K (⟨some d, .assign x, ty, pos, aft, gd⟩ :: rest) acc S := RT.assign hg hx hd next
theorem RT.ldV (hg : Gd ops S gd rg) [tV : TyV P T] {j off : Nat} {B : Box} {s : SV} (hx : S.ev x = .ptr j off) (hB : S.b j = some B) (hn : B.cells[off]? = some (.sv s)) (hd : d < S.n)
    (next : RunT P C ops nd K rest (⟨rg ++ okeys x, [j], [], ⟨some (d, .sv s), [], []⟩⟩ :: acc) (S.set d (.sv s))) : RunT P C ops nd K (⟨some d, .load T x, ty, pos, aft, gd⟩ :: rest) acc S := RT.loadV hg hx hB hn hd next
theorem RT.ixA (hg : Gd ops S gd rg) {n : Nat} [tS : TySl P T E0 n] {s : SV} {rows : List (List SV)} [hs : Slc s n rows] {kk : IntKind} {i : Int} (row : List SV) (h0 : 0 ≤ i) (hi : rows[i.toNat]? = some row) (hx : S.ev x = .sv s) (hy : S.ev y = .sv (.v (.int kk i))) (hd : d < S.n)
    (next : RunT P C ops nd K rest (⟨rg ++ (okeys x ++ okeys y), [], [], ⟨some (d, .sv (ref row)), [], []⟩⟩ :: acc) (S.set d (.sv (ref row)))) : RunT P C ops nd K (⟨some d, .indexAddr T x y, ty, pos, aft, gd⟩ :: rest) acc S := RT.indexAddr hg row hx hy hd h0 hi next
end steps
inductive RVs (P : Program) (S : AS) : List ResultVar → List SV → Prop
  | nil : RVs P S [] []
  | tmp {t : Nat} {s : SV} {rs : List ResultVar} {ss : List SV} (h : S.t t = .sv s) (r : RVs P S rs ss) : RVs P S (.tmp t :: rs) (s :: ss)
  | agg {t : Nat} {T : TypeId} {n i : Nat} {B : Box} {cs : List SV} {rs : List ResultVar} {ss : List SV} [tA : TyA P T n] (h : S.t t = .ptr i 0) (hB : S.b i = some B) (hs : Seg B.cells 0 cs) (hn : cs.length = n) (r : RVs P S rs ss) : RVs P S (.cell t T :: rs) (.agg cs :: ss)
  | one {t : Nat} {T : TypeId} {i : Nat} {B : Box} {s : SV} {rs : List ResultVar} {ss : List SV} [tV : TyV P T] (h : S.t t = .ptr i 0) (hB : S.b i = some B) (hs : B.cells = [.sv s]) (r : RVs P S rs ss) : RVs P S (.cell t T :: rs) (s :: ss)
theorem RVs.all {P : Program} {S : AS} {rs : List ResultVar} {ss : List SV} (h : RVs P S rs ss) : ResVars P S rs ss := by
  induction h with
  | nil => trivial
  | tmp h _ ih => exact ⟨h, ih⟩
  | @agg t T n i B cs rs ss tA h hB hs hn _ ih => exact ⟨⟨i, B, h, hB, .inl ⟨n, cs, tA, hs, hn, rfl⟩⟩, ih⟩
  | @one t T i B s rs ss tV h hB hs _ ih => exact ⟨⟨i, B, h, hB, .inr ⟨tV, hs⟩⟩, ih⟩
def packS : List SV → SV
  | [s] => s
  | ss => .tup ss
theorem res_imp {P : Program} {S : AS} {rs : List ResultVar} {ss : List SV} {r : SV} (h : RVs P S rs ss) (e : SV.imp (packS ss) r) : Res P S rs r := ⟨ss, h.all, fun M v hv => e M v (by cases ss with | nil => exact hv | cons s l => cases l <;> exact hv)⟩
theorem res_of {P : Program} {S : AS} {rs : List ResultVar} {ss : List SV} {r : SV} (h : RVs P S rs ss) (e : r = packS ss) : Res P S rs r := res_imp h (by rw [e]; exact fun _ _ h => h)
end Go.Fw
namespace Go.Fw
open Go.RowKit
theorem take_spl {α : Type} : ∀ (us l : List α) (k n : Nat), k + us.length ≤ n → (spl l k us).take n = spl (l.take n) k us
  | [], l, k, n, _ => rfl
  | u :: us, l, k, n, h => by
    simp only [List.length_cons] at h
    rw [spl, spl, take_spl us _ _ _ (by omega)]
    congr 1
    rw [List.take_set]
section steps
variable {P : Program} {C : Ctx} {ops : Array Oper} {S : AS} {nd : Bool} {K : List Ac → AS → Prop} {rest : List Oper} {acc : List Ac}
variable {gd : Option (Nat × Bool)} {rg : List Nat} {d : Nat} {ty : TypeId} {pos : String} {aft : Array Edge} {x y z : Operand} {T U E0 : TypeId}
theorem HoldsAt.putRow {E : Env} {a : Act} {w : World} (h : HoldsAt C S E a w) {i : Nat} {R : Row} (hR : S.r i = .live R) {g : Nat} (hg : (E.ν i).ownBlock = some g) {w' : World} (hw : ∃ c e, w.heap[g]? = some (Obj.cells c e (0, 0)))
    (h1 : w'.os = w.os) (h2 : w'.tape = w.tape) (h3 : w'.output = w.output) (h4 : w'.heap.size = w.heap.size) (h5 : ∀ k, k ≠ g → w'.heap[k]? = w.heap[k]?)
    {cells : List SV} {vs : List Value} (hown : w'.ownsRow 0 R.E R.sz (E.ν i) R.n vs) (hall : SV.All E.M cells vs) : HoldsAt C (S.setR i (.live ⟨R.E, R.sz, R.n, cells⟩)) E a w' := by
  obtain ⟨b1, b2, b3, b4⟩ := (h.rx i R hR).2 g hg
  have hin : E.M.inW w' := inW_of_same h.inW fun b ⟨o, v, e⟩ => h5 b (by rintro rfl; rw [b2 o] at e; cases e)
  have unR : ∀ j, S.r j ≠ .un → (S.setR i (.live ⟨R.E, R.sz, R.n, cells⟩)).r j ≠ .un := fun j hj => by
    by_cases e : j = i
    · subst e; rw [AS.setR_same]; simp
    · rw [AS.setR_other _ _ _ _ e]; exact hj
  have liveO : ∀ j R', (S.setR i (.live ⟨R.E, R.sz, R.n, cells⟩)).r j = .live R' → ∃ R2, S.r j = .live R2 := fun j R' hj => by
    by_cases e : j = i
    · subst e; exact ⟨R, hR⟩
    · rw [AS.setR_other _ _ _ _ e] at hj; exact ⟨R', hj⟩
  exact {
    wf := ⟨h.wf.tb, fun s j hj => unR j (h.wf.tr s j hj), h.wf.bb, fun k B hB x hx j hj => unR j (h.wf.br k B hB x hx j hj)⟩
    marks := by
      obtain ⟨ds, q1, q2, q3⟩ := h.marks
      refine ⟨ds, q1, q2, fun r hr => ?_⟩
      obtain ⟨q4, q5, q6⟩ := q3 r hr
      refine ⟨q4, q5, ?_⟩
      rw [h5 r (by rintro rfl; obtain ⟨c, e, hc⟩ := hw; rw [q6] at hc; cases hc)]; exact q6
    size := h.size
    os := h1.trans h.os
    tape := h2.trans h.tape
    output := h3.trans h.output
    grown := by rw [h4]; exact h.grown
    frame := fun k hk hk' => by
      rw [h5 k (by
        rintro rfl
        rcases b1 with q | q
        · omega
        · exact hk' (C.hbo _ q))]
      exact h.frame k hk hk'
    m0 := h.m0
    mnew := h.mnew
    inW := hin
    tm := h.tm
    bx := fun j B hB => by
      obtain ⟨q1, q2, q3, us, q4, q5⟩ := h.bx j B hB
      exact ⟨q1, q2, q3, us, by rw [h5 _ (b4 j B hB)]; exact q4, q5⟩
    inj := h.inj
    rx := fun j R' hj => by
      by_cases e : j = i
      · subst e
        rw [AS.setR_same] at hj
        cases hj
        exact ⟨⟨vs, hown, hall⟩, (h.rx j R hR).2⟩
      · rw [AS.setR_other _ _ _ _ e] at hj
        obtain ⟨⟨us, q1, q2⟩, q3⟩ := h.rx j R' hj
        exact ⟨⟨us, ownsRow_same q1 fun g' hg' => h5 g' (by rintro rfl; exact e (h.rinj j i R' R hj hR _ hg' hg)), q2⟩, q3⟩
    rinj := fun j k R1 R2 hj hk => by
      obtain ⟨_, q1⟩ := liveO j R1 hj
      obtain ⟨_, q2⟩ := liveO k R2 hk
      exact h.rinj j k _ _ q1 q2
    pin := h.pin
    pinr := h.pinr
    olt := fun b hb => by rw [h4]; exact h.olt b hb
    jj := C.jf _ _ _ _ _ _ _ h.jj (Mem.le_refl _) hin (fun _ _ _ e => .inl e) (fun b hb => h5 b (by
      rintro rfl
      rcases hb with hb | hb
      · rcases b1 with q | q
        · omega
        · exact hb.2 q
      · exact b3 hb)) h1 h2 h3 (by rw [h4]; exact Nat.le_refl _) }
inductive RS (S : AS) : Operand → Nat → Nat → Nat → List Nat → Prop
  | row {x : Operand} {i : Nat} {R : Row} (h : S.ev x = .row i) (hR : S.r i = .live R) : RS S x i 0 R.n [i]
  | rsl {x : Operand} {i o l : Nat} (h : S.ev x = .rsl i o l) : RS S x i o l []
theorem RS.val {E : Env} {a : Act} {w : World} {S' : AS} (h : HoldsAt C S' E a w) {i o l : Nat} {rr : List Nat} (hs : RS S x i o l rr) (ht : ∀ s ∈ okeys x, S'.t s = S.t s) (hr : ∀ j ∈ rr, S'.r j = S.r j) (hpos : 0 < l) : ∃ g c, (E.ν i).ownBlock = some g ∧ a.eval x = .slice (some ⟨g, o, none⟩) l c ∧ l ≤ c := by
  cases hs with
  | @row R h1 hR =>
    have hx := h.ev x
    rw [ev_congr (fun _ h => h) ht, h1] at hx
    have hx : a.eval x = E.ν i := hx
    obtain ⟨⟨vs, ho, _⟩, _⟩ := h.rx i R (by rw [hr i (by simp)]; exact hR)
    rcases ho.2 with ⟨_, q2⟩ | ⟨g, cap, cur, q1, _, _, q3, _⟩
    · omega
    · exact ⟨g, cap, by rw [q1]; rfl, by rw [hx, q1], q3⟩
  | rsl h1 =>
    have hx := h.ev x
    rw [ev_congr (fun _ h => h) ht, h1] at hx
    obtain ⟨g, q1, c, q2, q3⟩ := hx
    exact ⟨g, c, q1, q2, q3⟩
theorem RS.live {S' : AS} (h : S'.wf) {i o l : Nat} {rr : List Nat} (hs : RS S x i o l rr) (ht : ∀ s ∈ okeys x, S'.t s = S.t s) : S'.r i ≠ .un := by
  cases hs with
  | row h1 hR => exact (ev_live h (show S'.ev x = .row i by rw [ev_congr (fun _ h => h) ht, h1])).2 i rfl
  | rsl h1 =>
    exact (ev_live h (show S'.ev x = .rsl i o l by rw [ev_congr (fun _ h => h) ht, h1])).2 i rfl
theorem RT.ixR (hg : Gd ops S gd rg) {n : Nat} [tS : TySl P T E0 n] {i o l : Nat} {rr : List Nat} (hx : RS S x i o l rr) {kk : IntKind} {j : Int} (hy : S.ev y = .sv (.v (.int kk j))) (hd : d < S.n) (h0 : 0 ≤ j) (h1 : j < l) (k : Nat) (hk : o + j.toNat * n = k)
    (next : RunT P C ops nd K rest (⟨rg ++ (okeys x ++ okeys y), [], rr, ⟨some (d, .rptr i k), [], []⟩⟩ :: acc) (S.set d (.rptr i k))) : RunT P C ops nd K (⟨some d, .indexAddr T x y, ty, pos, aft, gd⟩ :: rest) acc S :=
  RT.value hg (okeys x ++ okeys y) [] rr (.rptr i k) hd (by intro c h; cases h) (fun S' ht _ hr E a w h => by
    obtain ⟨g, c, q1, q2, _⟩ := hx.val h (fun s hs => ht s (List.mem_append_left _ hs)) hr (by omega)
    have h2 : a.eval y = .int kk j := by have h2 := h.ev y; rw [ev_congr (fun _ h => List.mem_append_right _ h) ht, hy] at h2; exact h2
    have hl := hx.live h.wf (fun s hs => ht s (List.mem_append_left _ hs))
    refine ⟨.pointer (some ⟨g, k, none⟩), ?_, ⟨g, q1, rfl⟩, fun _ e => e.elim, fun j' e => by cases e; exact hl⟩
    have hsz := tS.size w
    have hb : 0 ≤ j ∧ j < (l : Int) := ⟨h0, h1⟩
    simp [execOp, h2, q2, Instr.indexAt, asIntOf, underlying, tS.u, hsz, addr_add, hb, hk]) next
theorem row_cell {E : Env} {a : Act} {w : World} (h : HoldsAt C S E a w) {i : Nat} {R : Row} (hR : S.r i = .live R) {g : Nat} (hg : (E.ν i).ownBlock = some g) : ∃ cur vs : List Value, w.heap[g]? = some (.cells ⟨cur⟩ R.E (0, 0)) ∧ cur.take (R.n * R.sz) = vs ∧ vs.length = R.n * R.sz ∧ SV.All E.M R.cells vs ∧ ∃ cap, E.ν i = .slice (some ⟨g, 0, none⟩) R.n cap ∧ R.n ≤ cap ∧ cap ≤ maxLen ∧ cur.length = cap * R.sz := by
  obtain ⟨⟨vs, ho, hv⟩, _⟩ := h.rx i R hR
  rcases ho.2 with ⟨q1, _⟩ | ⟨g', cap, cur, q1, _, q2, q3, q4, q5, q6⟩
  · rw [q1] at hg; cases hg
  · rw [q1] at hg
    cases hg
    exact ⟨cur.toList, vs, by rw [q2], q6, ho.1, hv, cap, q1, q3, q4, by simpa using q5⟩
theorem RT.ldR (hg : Gd ops S gd rg) [tV : TyV P T] {i k : Nat} {R : Row} {s : SV} (hx : S.ev x = .rptr i k) (hR : S.r i = .live R) (hs : R.cells[k]? = some s) (hd : d < S.n)
    (next : RunT P C ops nd K rest (⟨rg ++ okeys x, [], [i], ⟨some (d, .sv s), [], []⟩⟩ :: acc) (S.set d (.sv s))) : RunT P C ops nd K (⟨some d, .load T x, ty, pos, aft, gd⟩ :: rest) acc S :=
  RT.value hg (okeys x) [] [i] (.sv s) hd (by intro c h; cases h) (fun S' ht _ hr E a w h => by
    have h1 := h.ev x
    rw [ev_congr (fun _ h => h) ht, hx] at h1
    obtain ⟨g, hg', e⟩ := h1
    have hR' : S'.r i = .live R := by rw [hr i (by simp)]; exact hR
    obtain ⟨cur, vs, q1, q2, q3, q4, _⟩ := row_cell h hR' hg'
    obtain ⟨u, hu, hus⟩ := q4.get hs
    refine ⟨u, ?_, hus, nomb⟩
    have hc : w.cell? ⟨g, k, none⟩ = some u := by
      rw [← q2, List.getElem?_take] at hu
      split at hu
      · simpa [World.cell?, q1] using hu
      · cases hu
    simp [execOp, e, Instr.loadAt, Instr.sureAddr, loadVar, tV.isAgg, hc]) next
theorem RT.stRG (hg : Gd ops S gd rg) {m : Nat} {i k : Nat} {R : Row} {us : List SV} (hx : S.ev x = .rptr i k) (hR : S.r i = .live R) (hy : ∀ (S' : AS) (E : Env) (a : Act) (w : World), HoldsAt C S' E a w → S'.ev y = S.ev y → ∃ vs : List Value, (a.eval y).cells = ⟨vs⟩ ∧ SV.All E.M us vs ∧ (∀ u ∈ vs, u.oneCell' = true))
    (hsT : ∀ w : World, (sizeOf T).run P w = .ok m w) (hul : us.length = m) (hk : k + m ≤ R.n * R.sz) {cells : List SV} (hcs : spl R.cells k us = cells)
    (next : RunT P C ops nd K rest (⟨rg ++ (okeys x ++ okeys y), [], [i], ⟨none, [], [(i, .live ⟨R.E, R.sz, R.n, cells⟩)]⟩⟩ :: acc) (AS.setRs [(i, .live ⟨R.E, R.sz, R.n, cells⟩)] S)) : RunT P C ops nd K (⟨none, .store T x y, ty, pos, aft, gd⟩ :: rest) acc S := by
  refine .inl ⟨_, [], [i], _, ?_, next⟩
  rintro S' hn' ht _ hrr ix a w L Q ho ⟨E, h⟩ hL
  refine wpOp_of (C := C) ho (hg.wanted h (fun s hs => ht s (List.mem_append_left _ hs)) rfl) ?_
  have h1 := h.ev x
  rw [ev_congr (fun _ h => List.mem_append_right _ (List.mem_append_left _ h)) ht, hx] at h1
  obtain ⟨g, hg', e⟩ := h1
  have hR' : S'.r i = .live R := by rw [hrr i (by simp)]; exact hR
  obtain ⟨cur, vs, q1, q2, q3, q4, cap, q5, q6, q7, q8⟩ := row_cell h hR' hg'
  obtain ⟨ws, hu, hall, hone⟩ := hy S' E a w h (ev_congr (fun _ h => List.mem_append_right _ (List.mem_append_right _ h)) ht)
  have hl1 := hall.length
  have hcl : R.n * R.sz ≤ cur.length := by rw [q8]; exact Nat.mul_le_mul_right _ q6
  have hst := run_storeCells_box (P := P) (T := R.E) ws 0 k w cur hone q1 (by omega)
  have hr : (execOp a.eval ⟨none, .store T x y, ty, pos, aft, gd⟩).run P w = .ok .skip (putBlk w g (spl cur k ws) R.E) := by
    simp only [execOp, e, Instr.storeAt, Instr.sureAddr, storeVar, hu]
    simp only [Sem.run_bind, Sem.run_pure, Result.andThen_ok, hsT]
    simp only [show ¬ (ws.length ≠ m) from by omega, List.size_toArray, if_false]
    simp only [Nat.add_zero] at hst
    simp only [Result.andThen_ok, hst]
  have hown : (putBlk w g (spl cur k ws) R.E).ownsRow 0 R.E R.sz (E.ν i) R.n (spl vs k ws) := by
    refine ⟨by rw [spl_length]; exact q3, .inr ⟨g, cap, ⟨spl cur k ws⟩, q5, Nat.zero_le _, putBlk_at q1, q6, q7, by simp [spl_length, q8], ?_⟩⟩
    show (spl cur k ws).take _ = _
    rw [take_spl _ _ _ _ (by omega), q2]
  refine wpIn_of (C := C) (by intro c h; cases h) hr (hL _ _ ⟨E, ?_⟩)
  have hp := h.putRow hR' hg' (w' := putBlk w g (spl cur k ws) R.E) ⟨_, _, q1⟩ rfl rfl rfl putBlk_size (fun k' hk' => putBlk_other hk') hown (spl_allS q4 hall)
  rw [hcs] at hp
  exact hp
theorem RT.stR (hg : Gd ops S gd rg) [tV : TyV P T] {i k : Nat} {R : Row} {s : SV} [o1 : One s] (hx : S.ev x = .rptr i k) (hR : S.r i = .live R) (hy : S.ev y = .sv s) (hk : k + 1 ≤ R.n * R.sz) (cells : List SV) (hcs : R.cells.set k s = cells)
    (next : RunT P C ops nd K rest (⟨rg ++ (okeys x ++ okeys y), [], [i], ⟨none, [], [(i, .live ⟨R.E, R.sz, R.n, cells⟩)]⟩⟩ :: acc) (AS.setRs [(i, .live ⟨R.E, R.sz, R.n, cells⟩)] S)) : RunT P C ops nd K (⟨none, .store T x y, ty, pos, aft, gd⟩ :: rest) acc S := by
  refine RT.stRG hg hx hR (us := [s]) (fun S' E a w h e => ?_) (fun w => tV.size w) rfl hk (cells := cells) (by rw [← hcs]; rfl) next
  have h2 := h.ev y
  rw [e, hy] at h2
  have := o1.h _ _ h2
  exact ⟨[a.eval y], oneCell_cells this, ⟨h2, trivial⟩, by simpa using this⟩
theorem RT.stRA (hg : Gd ops S gd rg) {n : Nat} [tA : TyA P T n] {i k : Nat} {R : Row} {cs : List SV} [o1 : Ones cs] (hx : S.ev x = .rptr i k) (hR : S.r i = .live R) (hy : S.ev y = .sv (.agg cs)) (hcl : cs.length = n) (hk : k + n ≤ R.n * R.sz) (cells : List SV) (hcs : spl R.cells k cs = cells)
    (next : RunT P C ops nd K rest (⟨rg ++ (okeys x ++ okeys y), [], [i], ⟨none, [], [(i, .live ⟨R.E, R.sz, R.n, cells⟩)]⟩⟩ :: acc) (AS.setRs [(i, .live ⟨R.E, R.sz, R.n, cells⟩)] S)) : RunT P C ops nd K (⟨none, .store T x y, ty, pos, aft, gd⟩ :: rest) acc S := by
  refine RT.stRG hg hx hR (us := cs) (fun S' E a w h e => ?_) (fun w => tA.size w) hcl hk (cells := cells) hcs next
  have h2 := h.ev y
  rw [e, hy] at h2
  obtain ⟨us, hu, hall⟩ := h2
  exact ⟨us, by rw [hu]; rfl, hall, o1.h E.M us hall⟩
theorem RT.sliceR (hg : Gd ops S gd rg) {sz : Nat} [tS : TySl P T E0 sz] {i o l0 : Nat} {rr : List Nat} (hx : RS S x i o l0 rr) {lo hi : Option Operand} (l h' : Int) (hlo : bndS S 0 lo l) (hhi : bndS S l0 hi h') (hd : d < S.n) (h0 : 0 ≤ l) (h1 : l < l0) (h3 : l ≤ h') (h2 : h' ≤ l0)
    (o' l' : Nat) (ho' : o + l.toNat * sz = o') (hl' : (h' - l).toNat = l') (next : RunT P C ops nd K rest (⟨rg ++ (okeys x ++ (bkeys lo ++ bkeys hi)), [], rr, ⟨some (d, .rsl i o' l'), [], []⟩⟩ :: acc) (S.set d (.rsl i o' l'))) : RunT P C ops nd K (⟨some d, .slice T x lo hi none, ty, pos, aft, gd⟩ :: rest) acc S := by
  subst ho'; subst hl'
  refine RT.value hg (okeys x ++ (bkeys lo ++ bkeys hi)) [] rr (.rsl i (o + l.toNat * sz) (h' - l).toNat) hd (by intro c h; cases h) (fun S' ht _ hrr E a w h => ?_) next
  obtain ⟨g, cap, q1, hval, hcap⟩ := hx.val h (fun s hs => ht s (List.mem_append_left _ hs)) hrr (by omega)
  have hlv := hx.live h.wf (fun s hs => ht s (List.mem_append_left _ hs))
  have g1 := bnd_val h hlo (fun s hs => ht s (List.mem_append_right _ (List.mem_append_left _ hs)))
  have g2 := bnd_val h hhi (fun s hs => ht s (List.mem_append_right _ (List.mem_append_right _ hs)))
  obtain ⟨kl, hkl⟩ := Int.eq_ofNat_of_zero_le h0
  obtain ⟨kh, hkh⟩ := Int.eq_ofNat_of_zero_le (show 0 ≤ h' by omega)
  have hkm : kl ≤ kh := by omega
  have hmc : kh ≤ cap := by omega
  have hne : ¬ cap = kl := by omega
  have hsz := tS.size w
  have hr : (execOp a.eval ⟨some d, .slice T x lo hi none, ty, pos, aft, gd⟩).run P w = .ok (.value (.slice (some ⟨g, o + kl * sz, none⟩) (kh - kl) (cap - kl))) w := by
    rcases g1 with ⟨rfl, e1⟩ | ⟨x1, k1, rfl, e1⟩ <;> rcases g2 with ⟨rfl, e2⟩ | ⟨x2, k2, rfl, e2⟩
    · have e1' : kl = 0 := by omega
      have e2' : kh = l0 := by omega
      subst e1'; subst e2'
      simp [execOp, hval, Instr.sliceAt, Instr.slice, underlying, tS.u, Instr.sliceBounds, hsz, addr_add]
    · have e1' : kl = 0 := by omega
      subst e1'
      simp [execOp, hval, Instr.sliceAt, Instr.slice, underlying, tS.u, Instr.sliceBounds, Instr.sliceBound, asIntOf, e2, hsz, hkh, hmc, addr_add]
    · have e2' : kh = l0 := by omega
      have e3' : kl ≤ l0 := by omega
      subst e2'
      simp [execOp, hval, Instr.sliceAt, Instr.slice, underlying, tS.u, Instr.sliceBounds, Instr.sliceBound, asIntOf, e1, hsz, hkl, e3', addr_add, hne]
    · simp [execOp, hval, Instr.sliceAt, Instr.slice, underlying, tS.u, Instr.sliceBounds, Instr.sliceBound, asIntOf, e1, e2, hsz, hkl, hkh, hmc, hkm, addr_add, hne]
  have e1 : l.toNat = kl := by omega
  have e2 : (h' - l).toNat = kh - kl := by omega
  refine ⟨_, hr, ⟨g, q1, cap - kl, by rw [e1, e2], by rw [e2]; omega⟩, fun _ e => e.elim, fun j e => ?_⟩
  cases e; exact hlv
theorem RT.lenRs (hg : Gd ops S gd rg) {m : Nat} [tS : TySl P T E0 m] {i o l : Nat} (hx : S.ev x = .rsl i o l) (hd : d < S.n)
    (next : RunT P C ops nd K rest (⟨rg ++ okeys x, [], [], ⟨some (d, .sv (.v (.int .i64 l))), [], []⟩⟩ :: acc) (S.set d (.sv (.v (.int .i64 l))))) : RunT P C ops nd K (⟨some d, .call ⟨.builtin .len, #[x], #[T]⟩, ty, pos, aft, gd⟩ :: rest) acc S :=
  RT.value hg (okeys x) [] [] (.sv (.v (.int .i64 l))) hd (by intro c h; cases h) (fun S' ht _ _ E a w h => by
    have h1 := h.ev x
    rw [ev_congr (fun _ h => h) ht, hx] at h1
    obtain ⟨g, _, c, e, _⟩ := h1
    exact ⟨_, by simp [execOp, resolve, invoke, builtin, Builtin.len_, underlying, tS.u, e, goInt], rfl, nomb⟩) next
end steps
end Go.Fw
namespace Go.Fw
open Go.RowKit
theorem calls_of_ok {P : Program} {f : FuncId} {fn : Func} {code : Code} {C : Ctx} {S : AS} {E0 : Env} (hro : C.ro = none) (hf : P.funcs[f]? = some fn) (hb : fn.body = some code) {vs : List Value} {w : World}
    (h0 : HoldsAt C S E0 { tmps := ⟨vs⟩ ++ Array.replicate (fn.ntmps - (⟨vs⟩ : Array Value).size) undef, defers := [] } w) {Q : AS → Prop} {R : Ending → World → Prop}
    (h : Ok P C code S (fun e S' => (e = .normal ∨ e = .ret) ∧ Q S'))
    (hR : ∀ S' E a w', Q S' → HoldsAt C S' E a w' → ∃ v, (results fn a.tmps).run P w' = .ok v w' ∧ R (.returned v) w') : Calls P f ⟨vs⟩ w R := by
  refine (callsIn_wide (n := 0)).1 (callsIn_of_wp_marks (F := Fence.wide) hf hb trivial ?_)
  have h1 := h _ w ⟨_, h0⟩
  rw [hro] at h1
  refine wpIn_mono h1 ?_
  rintro e a' w' ⟨S', ⟨he, hq⟩, E, hh⟩
  have key : LeavesInM Fence.wide 0 P fn a'.tmps R a'.defers .returning w' := by
    obtain ⟨ds, h1, h2, h3⟩ := hh.marks
    rw [h1]
    refine leaves_marks ds w' h2 (fun r hr => (h3 r hr).2.2) (fun w2 g1 g2 g3 g4 g5 => ?_)
    exact hR S' E { a' with defers := [] } w2 hq (hh.unmarked h3 g1 g2 g3 g4 g5)
  rcases he with rfl | rfl
  · exact key
  · exact key
inductive ResA (P : Program) (S : AS) : List ResultVar → AV → Prop
  | tmp {t : Nat} {x : AV} (h : S.t t = x) : ResA P S [.tmp t] x
  | one {t : Nat} {T : TypeId} {i : Nat} {B : Box} {x : AV} [tV : TyV P T] (h : S.t t = .ptr i 0) (hB : S.b i = some B) (hs : B.cells = [x]) : ResA P S [.cell t T] x
  | sv {rs : List ResultVar} {r : SV} (h : Res P S rs r) : ResA P S rs (.sv r)
theorem ResA.run {P : Program} {C : Ctx} {S : AS} {E : Env} {a : Act} {w : World} (h : HoldsAt C S E a w) {fn : Func} {x : AV} (hr : ResA P S fn.results.toList x) : ∃ v, (results fn a.tmps).run P w = .ok v w ∧ x.holds E v := by
  generalize hl : fn.results.toList = l at hr
  cases hr with
  | sv hs =>
    obtain ⟨ss, hss, himp⟩ := hs
    rw [← hl] at hss
    obtain ⟨v, hv, hx⟩ := res_run h hss
    exact ⟨v, hv, himp _ _ hx⟩
  | @tmp t x ht =>
    have hfr : fn.results = #[.tmp t] := by rw [← Array.toArray_toList (xs := fn.results), hl]
    refine ⟨_, ?_, ht ▸ h.tm _⟩
    simp [results, hfr]
  | @one t T i B x tV ht hB hs =>
    have hfr : fn.results = #[.cell t T] := by rw [← Array.toArray_toList (xs := fn.results), hl]
    obtain ⟨_, _, _, vs, hv, hall⟩ := h.bx i B hB
    rw [hs] at hall
    have h1 : a.tmps.getD t undef = .pointer (some ⟨E.β i, 0, none⟩) := by have := h.tm t; rw [ht] at this; exact this
    cases vs with
    | nil => exact hall.elim
    | cons u us =>
      cases us with
      | cons _ _ => exact hall.2.elim
      | nil =>
        refine ⟨u, ?_, hall.1⟩
        have hcc : w.cell? ⟨E.β i, 0, none⟩ = some u := by simp [World.cell?, hv]
        rw [Array.getD_eq_getD_getElem?] at h1
        simp [results, hfr, h1, asAddr, loadVar, tV.isAgg, hcc]
def argA : List AV → Nat → AV
  | [], _ => .sv .any
  | s :: _, 0 => s
  | _ :: l, n + 1 => argA l n
def AS.ini (n : Nat) (args : List AV) (bs : List (Nat × Box)) (rs : List (Nat × Row)) : AS :=
  ⟨n, argA args, lkB bs, fun i => match lkR rs i with | some R => .live R | none => .un, 0, true⟩
theorem argA_mem : ∀ {l : List AV} {k : Nat}, argA l k = .sv .any ∨ argA l k ∈ l
  | [], _ => .inl rfl
  | s :: _, 0 => .inr (by simp [argA])
  | _ :: l, n + 1 => by
    rcases argA_mem (l := l) (k := n) with h | h
    · exact .inl h
    · exact .inr (List.mem_cons_of_mem _ h)
theorem argA_holds {E : Env} : ∀ {args : List AV} {vs : List Value} {k : Nat} (rest : List Value), AllV E args vs → (argA args k).holds E ((vs ++ rest)[k]?.getD undef)
  | [], [], _, _, _ => trivial
  | s :: args, v :: vs, 0, _, h => h.1
  | s :: args, v :: vs, k + 1, rest, h => by
    have := argA_holds (E := E) (k := k) rest (show AllV E args vs from h.2)
    simpa [argA] using this
  | [], _ :: _, _, _, h => h.elim
  | _ :: _, [], _, _, h => h.elim
theorem ini_tm {E : Env} {n : Nat} {args : List AV} {vs : List Value} (h : AllV E args vs) (s : Nat) : (argA args s).holds E ((⟨vs⟩ ++ Array.replicate (n - (⟨vs⟩ : Array Value).size) undef : Array Value).getD s undef) := by
  have := argA_holds (E := E) (k := s) (List.replicate (n - vs.length) undef) h
  rw [Array.getD_eq_getD_getElem?]
  simpa [List.getElem?_toArray, Array.getElem?_append, List.getElem?_append, List.getElem?_replicate, Array.getElem?_replicate] using this
def AV.rowy : AV → Bool
  | .sv _ => true
  | .row i => Nat.beq i 1000
  | .rptr i _ => Nat.beq i 1000
  | .rsl i _ _ => Nat.beq i 1000
  | _ => false
def AV.ren (j : Nat) : AV → AV
  | .row _ => .row j
  | .rptr _ k => .rptr j k
  | .rsl _ o l => .rsl j o l
  | x => x
def lentEnv (M : Mem) (v : Value) : Env := ⟨fun _ => 0, fun _ => v, fun _ => False, M⟩
theorem ren_holds {E : Env} {j : Nat} {x : AV} {v : Value} (hx : x.rowy = true) : (x.ren j).holds E v ↔ x.holds (lentEnv E.M (E.ν j)) v := by
  cases x <;> first | exact Iff.rfl | cases hx
theorem ren_all {E : Env} {j : Nat} : ∀ {l : List AV} {vs : List Value}, (l.all AV.rowy) = true → AllV E (l.map (AV.ren j)) vs → AllV (lentEnv E.M (E.ν j)) l vs
  | [], [], _, _ => trivial
  | x :: l, v :: vs, h, hv => by
    rw [List.all_cons, Bool.and_eq_true] at h
    exact ⟨(ren_holds h.1).1 hv.1, ren_all h.2 hv.2⟩
  | [], _ :: _, _, h => h.elim
  | _ :: _, [], _, h => h.elim
def RowC (P : Program) (f : FuncId) (args : List AV) (R : Row) (res : AV) (cells : List SV) : Prop :=
  ∀ (M : Mem) (w : World) (v0 : Value) (vs us : List Value), M.inW w → w.ownsRow 0 R.E R.sz v0 R.n us → SV.All M R.cells us → (∀ g, v0.ownBlock = some g → ∀ o, M g o = none) → AllV (lentEnv M v0) args vs →
    Calls P f ⟨vs⟩ w fun e w' => ∃ v M' us', e = .returned v ∧ M.le M' ∧ (∀ b o x, M' b o = some x → M b o = some x ∨ w.heap.size ≤ b) ∧ M'.inW w' ∧ res.holds (lentEnv M' v0) v ∧
      w'.ownsRow 0 R.E R.sz v0 R.n us' ∧ SV.All M' cells us' ∧ w.grownBy w' v0.ownBlock
theorem hpr_1000 {i : Nat} {v v0 : Value} (h : (bif Nat.beq i 1000 then some v0 else none) = some v) : 1000 ≤ i := by
  cases e : Nat.beq i 1000 with
  | false => rw [e] at h; cases h
  | true => have := Nat.eq_of_beq_eq_true e; omega
def ctxR (w : World) (M : Mem) (v0 : Value) : Ctx := { w0 := w, M0 := M, own := fun k => v0.ownBlock = some k, bor := fun k => v0.ownBlock = some k, pin := fun _ => none, pinr := fun i => bif Nat.beq i 1000 then some v0 else none, ro := none, J := fun _ _ _ _ _ => True, hbo := fun _ h => h, hpr := fun _ _ h => hpr_1000 h, jf := fun _ _ _ _ _ _ _ _ _ _ _ _ _ _ _ _ => trivial }
theorem ini_row {n : Nat} {args : List AV} {R : Row} {M : Mem} {w : World} {v0 : Value} {vs us : List Value} (hM : M.inW w) (ho : w.ownsRow 0 R.E R.sz v0 R.n us) (hc : SV.All M R.cells us) (hm : ∀ g, v0.ownBlock = some g → ∀ o, M g o = none) (hv : AllV (lentEnv M v0) args vs)
    (hrow : args.all AV.rowy = true) (hn : args.length ≤ n) : HoldsAt (ctxR w M v0) (AS.ini n args [] [(1000, R)]) (lentEnv M v0) { tmps := ⟨vs⟩ ++ Array.replicate (n - (⟨vs⟩ : Array Value).size) undef, defers := [] } w := by
  have hl := hv.length
  have rowyArg : ∀ s, (argA args s).rowy = true := fun s => by
    rcases argA_mem (l := args) (k := s) with e | e
    · rw [e]; rfl
    · exact List.all_eq_true.1 hrow _ e
  have live : ∀ j R', (AS.ini n args [] [(1000, R)]).r j = .live R' → j = 1000 ∧ R' = R := by
    intro j R' h
    simp only [AS.ini, lkR] at h
    cases e : Nat.beq j 1000 with
    | false =>
      simp [beq_ne (fun h => by subst h; simp at e : j ≠ 1000)] at h
    | true =>
      have := Nat.eq_of_beq_eq_true e
      subst this
      simp at h
      exact ⟨rfl, h.symm⟩
  exact {
    wf := by
      refine ⟨fun s j hj => ?_, fun s j hj => ?_, fun i B e => (by cases e), fun i B e => (by cases e)⟩
      · have := rowyArg s
        revert hj this
        show (argA args s).mb j → _
        cases argA args s <;> intro hj hr <;> first | exact hj.elim | cases hr
      · have := rowyArg s
        have hj' : j = 1000 := by
          revert hj this
          show (argA args s).mr j → _
          cases argA args s <;> intro hj hr <;> first | exact hj.elim | exact (Bool.false_ne_true hr).elim | (cases hj; exact Nat.eq_of_beq_eq_true hr)
        subst hj'
        show (match lkR [(1000, R)] 1000 with | some R => RSt.live R | none => .un) ≠ .un
        simp [lkR]
    marks := ⟨[], rfl, List.nodup_nil, by simp⟩
    size := by simp [AS.ini]; omega
    os := rfl
    tape := rfl
    output := rfl
    grown := Nat.le_refl _
    frame := fun _ _ _ => rfl
    m0 := Mem.le_refl _
    mnew := fun _ _ _ e => .inl e
    inW := hM
    tm := fun s => ini_tm hv s
    bx := fun i B e => by cases e
    inj := fun i j B B' e => by cases e
    rx := fun i R' h => by
      obtain ⟨rfl, rfl⟩ := live i R' h
      exact ⟨⟨us, ho, hc⟩, fun g hg => ⟨.inr hg, hm g hg, fun h => h, fun j B e => by cases e⟩⟩
    rinj := fun i j R1 R2 hi hj _ _ _ => by rw [(live i R1 hi).1, (live j R2 hj).1]
    pin := fun i b e => by cases e
    pinr := fun i v e => by
      simp only [ctxR] at e
      cases h : Nat.beq i 1000 with
      | false => rw [h] at e; cases e
      | true => rw [h] at e; cases e; rfl
    olt := fun b e => e.elim
    jj := trivial }
theorem rowC_of_ok {P : Program} {f : FuncId} {fn : Func} {code : Code} {args : List AV} {R : Row} {res : AV} {cells : List SV} (hf : P.funcs[f]? = some fn) (hb : fn.body = some code) (hn : args.length ≤ fn.ntmps) (hrow : args.all AV.rowy = true) (hres : res.rowy = true)
    (h : ∀ (w : World) (M : Mem) (v0 : Value), Ok P (ctxR w M v0) code (AS.ini fn.ntmps args [] [(1000, R)]) (fun e S => (e = .normal ∨ e = .ret) ∧ ResA P S fn.results.toList res ∧ S.r 1000 = .live ⟨R.E, R.sz, R.n, cells⟩)) : RowC P f args R res cells := by
  intro M w v0 vs us hM ho hc hm hv
  refine calls_of_ok rfl hf hb (ini_row hM ho hc hm hv hrow hn) (h w M v0) ?_
  rintro S' E a w' ⟨hr, hR⟩ hh
  obtain ⟨v, hv, hx⟩ := hr.run hh
  have hν : E.ν 1000 = v0 := hh.pinr 1000 v0 rfl
  obtain ⟨⟨us', q1, q2⟩, q3⟩ := hh.rx 1000 _ hR
  rw [hν] at q1 q3
  refine ⟨v, hv, v, E.M, us', rfl, hh.m0, fun b o x e => ?_, hh.inW, ?_, q1, q2, hh.os, hh.tape, hh.output, hh.grown, fun k hk hne => hh.frame k hk (fun e => hne e.symm)⟩
  · rcases hh.mnew b o x e with e' | e' | e'
    · exact .inl e'
    · exact .inr e'
    · rw [(q3 b e').2.1 o] at e; cases e
  · have : res.ren 1000 = res := by
      cases res <;> first | rfl | (simp only [AV.ren, AV.row.injEq, AV.rptr.injEq, AV.rsl.injEq]; have := Nat.eq_of_beq_eq_true hres; simp [this])
    rw [← hν]
    rw [← this] at hx
    exact (ren_holds hres).1 hx
def restore (w w' : World) (g : Nat) : World := match w.heap[g]? with | some o => { w' with heap := w'.heap.setIfInBounds g o } | none => w'
theorem restore_at {w w' : World} {g : Nat} {o : Obj} (h : w.heap[g]? = some o) (hs : w.heap.size ≤ w'.heap.size) : (restore w w' g).heap[g]? = some o := by
  have h1 := (Array.getElem?_eq_some_iff.1 h).1
  have h2 : g < w'.heap.size := Nat.lt_of_lt_of_le h1 hs
  simp [restore, h, h2]
theorem restore_other {w w' : World} {g k : Nat} (hk : k ≠ g) : (restore w w' g).heap[k]? = w'.heap[k]? := by
  unfold restore
  split
  · simp only [Array.getElem?_setIfInBounds]; rw [if_neg (Ne.symm hk)]
  · rfl
theorem restore_rest {w w' : World} {g : Nat} : (restore w w' g).os = w'.os ∧ (restore w w' g).tape = w'.tape ∧ (restore w w' g).output = w'.output ∧ (restore w w' g).heap.size = w'.heap.size := by
  unfold restore
  split
  · exact ⟨rfl, rfl, rfl, by simp⟩
  · exact ⟨rfl, rfl, rfl, rfl⟩
theorem restore_below {w w' : World} {g : Nat} (hg : w.grownBy w' (some g)) (hlt : g < w.heap.size) : Below w.heap.size w (restore w w' g) := by
  obtain ⟨h1, h2, h3, h4⟩ := restore_rest (w := w) (w' := w') (g := g)
  refine ⟨h1.trans hg.os, h2.trans hg.tape, h3.trans hg.output, by rw [h4]; exact hg.size, fun k hk => ?_⟩
  by_cases e : k = g
  · subst e
    rw [restore_at (Array.getElem?_eq_getElem hlt) hg.size, Array.getElem?_eq_getElem hlt]
  · rw [restore_other e]; exact hg.block k hk (by simp [e])
section steps
variable {P : Program} {C : Ctx} {ops : Array Oper} {S : AS} {nd : Bool} {K : List Ac → AS → Prop} {rest : List Oper} {acc : List Ac}
variable {gd : Option (Nat × Bool)} {rg : List Nat} {d : Nat} {ty : TypeId} {pos : String} {aft : Array Edge} {x y z : Operand} {T U E0 : TypeId}
theorem AS.setR_self {i : Nat} {R : RSt} (h : S.r i = R) : S.setR i R = S := by
  refine AS.ext' rfl (fun _ => rfl) (fun _ => rfl) (fun s => ?_) rfl rfl
  by_cases e : s = i
  · subst e; rw [AS.setR_same, h]
  · rw [AS.setR_other _ _ _ _ e]
theorem below_of_none {w w' : World} (h : w.grownBy w' none) : Below w.heap.size w w' := ⟨h.os, h.tape, h.output, h.size, fun k hk => h.block k hk (by simp)⟩
theorem HoldsAt.lentRow {E : Env} {a : Act} {w w' : World} (h : HoldsAt C S E a w) {i : Nat} {R : Row} (hR : S.r i = .live R) {M' : Mem} {cells : List SV} {us : List Value}
    (hM : E.M.le M') (hn : ∀ b o x, M' b o = some x → E.M b o = some x ∨ w.heap.size ≤ b) (hin : M'.inW w') (ho : w'.ownsRow 0 R.E R.sz (E.ν i) R.n us) (hc : SV.All M' cells us) (hg : w.grownBy w' (E.ν i).ownBlock) :
    HoldsAt C (S.setR i (.live ⟨R.E, R.sz, R.n, cells⟩)) { E with M := M' } a w' := by
  obtain ⟨⟨vs, q1, q2⟩, q3⟩ := h.rx i R hR
  cases hb : (E.ν i).ownBlock with
  | none =>
    rw [hb] at hg
    have hz : R.n = 0 := by
      rcases q1.2 with ⟨_, h2⟩ | ⟨g, cap, cur, h1, _⟩
      · exact h2
      · rw [h1] at hb; cases hb
    have e1 : us = [] := List.length_eq_zero_iff.1 (by have := ho.1; rw [hz] at this; simpa using this)
    have e2 : vs = [] := List.length_eq_zero_iff.1 (by have := q1.1; rw [hz] at this; simpa using this)
    have e3 : cells = [] := List.length_eq_zero_iff.1 (by have := hc.length; rw [e1] at this; simpa using this)
    have e4 : R.cells = [] := List.length_eq_zero_iff.1 (by have := q2.length; rw [e2] at this; simpa using this)
    have : S.setR i (.live ⟨R.E, R.sz, R.n, cells⟩) = S := AS.setR_self (by rw [hR, e3, ← e4])
    rw [this]
    exact h.grow hM hn hin (below_of_none hg)
  | some g =>
    rw [hb] at hg
    have hlt := row_lt h hR hb
    have hnone : ∀ o, M' g o = none := fun o => by
      cases e : M' g o with
      | none => rfl
      | some v =>
        rcases hn _ _ _ e with e' | e'
        · rw [(q3 g hb).2.1 o] at e'; cases e'
        · omega
    have hin1 : M'.inW (restore w w' g) := inW_of_same hin fun b ⟨o, v, e⟩ => restore_other (by rintro rfl; rw [hnone o] at e; cases e)
    have h1 := h.grow hM hn hin1 (restore_below hg hlt)
    obtain ⟨r1, r2, r3, r4⟩ := restore_rest (w := w) (w' := w') (g := g)
    refine h1.putRow (R := R) hR hb ?_ r1.symm r2.symm r3.symm r4.symm (fun k hk => (restore_other hk).symm) ho hc
    rcases q1.2 with ⟨h2, _⟩ | ⟨g', cap, cur, h2, _, h3, _⟩
    · rw [h2] at hb; cases hb
    · rw [h2] at hb; cases hb; exact ⟨_, _, restore_at h3 hg.size⟩
inductive Args (S : AS) : List Operand → List AV → Prop
  | nil : Args S [] []
  | cons {x : Operand} {xs : List Operand} {s : AV} {ss : List AV} (h : S.ev x = s) (r : Args S xs ss) : Args S (x :: xs) (s :: ss)
theorem Args.vals {E : Env} {a : Act} {w : World} {S' : AS} (h : HoldsAt C S' E a w) {xs : List Operand} {ss : List AV} (hs : Args S xs ss) (ht : ∀ s ∈ xs.flatMap okeys, S'.t s = S.t s) : AllV E ss (xs.map a.eval) := by
  induction hs with
  | nil => trivial
  | @cons x xs s ss h1 _ ih =>
    have h2 := h.ev x
    rw [ev_congr (fun t h => List.mem_flatMap.2 ⟨x, by simp, h⟩) ht, h1] at h2
    refine ⟨h2, ih (fun t h => ht t ?_)⟩
    rw [List.flatMap_cons]; exact List.mem_append_right _ h
theorem run_call {f : FuncId} [Ent P f] {o : Option Nat} {g : Operand} {xs : Array Operand} {at_ : Array TypeId} {a : Act} {w : World} {caps : List Value} (hgf : a.eval g = .func (.func f) #[] ⟨caps⟩) :
    (execOp a.eval ⟨o, .call ⟨.value g, xs, at_⟩, ty, pos, aft, gd⟩).run P w = .ok (.enter f ⟨xs.toList.map a.eval ++ caps⟩) w := by
  have e2 : xs.map a.eval ++ ⟨caps⟩ = ⟨xs.toList.map a.eval ++ caps⟩ := by apply Array.ext'; simp
  have e1 := Ent.run (P := P) (f := f) (xs.map a.eval ++ ⟨caps⟩) w
  rw [← e2]
  simp [execOp, resolve, hgf, Deferred.ofValue, invoke, e1]
theorem live_ren {S : AS} {i : Nat} {R : Row} {x : AV} (hx : x.rowy = true) (hR : S.r i = .live R) : (∀ j, (x.ren i).mb j → ∃ B, S.b j = some B) ∧ (∀ j, (x.ren i).mr j → S.r j ≠ .un) := by
  cases x <;> first | cases hx | skip
  all_goals refine ⟨fun j e => e.elim, fun j e => ?_⟩
  all_goals first | exact e.elim | (cases e; rw [hR]; simp)
theorem RT.callR (hg : Gd ops S gd rg) {f : FuncId} [Ent P f] {g : Operand} {xs : Array Operand} {at_ : Array TypeId} {args : List AV} {R : Row} {res : AV} {cells : List SV} (hp : RowC P f args R res cells) (i : Nat) (hR : S.r i = .live R) (hrow : args.all AV.rowy = true) (hres : res.rowy = true)
    (hf : S.ev g = .sv (.v (.func (.func f) #[] #[]))) (hargs : Args S xs.toList (args.map (AV.ren i))) (hd : d < S.n)
    (next : RunT P C ops nd K rest (⟨rg ++ (okeys g ++ xs.toList.flatMap okeys), [], [i], ⟨some (d, res.ren i), [], [(i, .live ⟨R.E, R.sz, R.n, cells⟩)]⟩⟩ :: acc) ((AS.setRs [(i, .live ⟨R.E, R.sz, R.n, cells⟩)] S).set d (res.ren i))) : RunT P C ops nd K (⟨some d, .call ⟨.value g, xs, at_⟩, ty, pos, aft, gd⟩ :: rest) acc S := by
  refine .inl ⟨_, [], [i], _, ?_, next⟩
  rintro S' hn ht _ hr k a w L Q ho ⟨E, h⟩ hL
  refine wpOp_of (C := C) ho (hg.wanted h (fun s hs => ht s (List.mem_append_left _ hs)) rfl) ?_
  have hgf : a.eval g = .func (.func f) #[] ⟨[]⟩ := by
    have h1 := h.ev g; rw [ev_congr (fun _ h => List.mem_append_right _ (List.mem_append_left _ h)) ht, hf] at h1; exact h1
  have hall := Args.vals h hargs (fun s hs => ht s (List.mem_append_right _ (List.mem_append_right _ hs)))
  have hR' : S'.r i = .live R := by rw [hr i (by simp)]; exact hR
  obtain ⟨⟨us, q1, q2⟩, q3⟩ := h.rx i R hR'
  refine wpIn_of (C := C) (by intro c h; cases h) (run_call hgf) ?_
  rw [List.append_nil]
  refine ⟨fun h => by simp at h, fr_calls ((hp E.M w (E.ν i) _ us h.inW q1 q2 (fun g hg => (q3 g hg).2.1) (ren_all hrow hall)).mono ?_)⟩
  rintro e w' ⟨v, M', us', rfl, hM, hnew, hin, hv, ho', hc, hgr⟩
  have h1 := h.lentRow hR' hM hnew hin ho' hc hgr
  refine hL _ _ ⟨_, h1.put (x := res.ren i) (v := v) ((ren_holds (E := { E with M := M' }) hres).2 hv) (by show d < S'.n; omega) (live_ren hres (AS.setR_same _ _ _))⟩
end steps
end Go.Fw
