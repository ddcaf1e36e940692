/- The abstract states in which code is followed: stable predicates on values, local boxes, rows that the call itself grows; and the theorem that a statement whose order is open comes to the same abstract state in every order. Over any program. -/
import Derived.WalkKit
import Derived.OrdersIn
import Derived.RangeFuncLeaves
import Derived.RangeFuncCalls
import Derived.Deep.LoopGhost
namespace Go.Fw
open Go.RowKit

/-- What is known of memory that no longer changes: block, offset, value. -/
abbrev Mem := Nat → Nat → Option Value
def Mem.le (M M' : Mem) : Prop := ∀ b o v, M b o = some v → M' b o = some v
def Mem.inW (M : Mem) (w : World) : Prop := ∀ b o v, M b o = some v → w.cell? ⟨b, o, none⟩ = some v
theorem Mem.le_refl (M : Mem) : M.le M := fun _ _ _ h => h
theorem Mem.le_trans {A B C : Mem} (h : A.le B) (k : B.le C) : A.le C := fun b o v e => k b o v (h b o v e)

/-- A predicate on values that stays true while knowledge of memory grows. -/
structure SV where
  h : Mem → Value → Prop
  mono : ∀ {M M' : Mem} {v : Value}, M.le M' → h M v → h M' v

namespace SV
def any : SV := ⟨fun _ _ => True, fun _ h => h⟩
def v (x : Value) : SV := ⟨fun _ y => y = x, fun _ h => h⟩
def All (M : Mem) : List SV → List Value → Prop
  | [], [] => True
  | s :: l, x :: xs => s.h M x ∧ All M l xs
  | _, _ => False
theorem All.mono {M M' : Mem} (hM : M.le M') : ∀ {l : List SV} {xs : List Value}, All M l xs → All M' l xs
  | [], [], _ => trivial
  | s :: _, _ :: _, h => ⟨s.mono hM h.1, All.mono hM h.2⟩
  | [], _ :: _, h => h.elim
  | _ :: _, [], h => h.elim
theorem All.length {M : Mem} : ∀ {l : List SV} {xs : List Value}, All M l xs → l.length = xs.length
  | [], [], _ => rfl
  | _ :: _, _ :: _, h => congrArg (· + 1) (All.length h.2)
  | [], _ :: _, h => h.elim
  | _ :: _, [], h => h.elim
theorem All.get {M : Mem} : ∀ {l : List SV} {xs : List Value} {i : Nat} {s : SV}, All M l xs → l[i]? = some s → ∃ x, xs[i]? = some x ∧ s.h M x
  | s :: _, x :: _, 0, _, h, e => ⟨x, rfl, by cases e; exact h.1⟩
  | _ :: l, _ :: xs, _ + 1, _, h, e => All.get (l := l) (xs := xs) h.2 e
  | [], _, _, _, _, e => by simp at e
  | _ :: _, [], _, _, h, _ => h.elim
theorem All.append {M : Mem} : ∀ {l l' : List SV} {xs ys : List Value}, All M l xs → All M l' ys → All M (l ++ l') (xs ++ ys)
  | [], _, [], _, _, h => h
  | _ :: _, _, _ :: _, _, h, h' => ⟨h.1, All.append h.2 h'⟩
  | [], _, _ :: _, _, h, _ => h.elim
  | _ :: _, _, [], _, h, _ => h.elim
def agg (l : List SV) : SV := ⟨fun M y => ∃ vs : List Value, y = .agg ⟨vs⟩ ∧ All M l vs, fun hM ⟨vs, e, h⟩ => ⟨vs, e, h.mono hM⟩⟩
def tup (l : List SV) : SV := ⟨fun M y => ∃ vs : List Value, y = .tuple ⟨vs⟩ ∧ All M l vs, fun hM ⟨vs, e, h⟩ => ⟨vs, e, h.mono hM⟩⟩
def imp (x y : SV) : Prop := ∀ M v, x.h M v → y.h M v
end SV

/-- What a function value has captured: a local box, or a value. -/
inductive Cap where
  | box (i : Nat)
  | val (s : SV)

/-- What a slot or a box's cell holds. -/
inductive AV where
  /-- a value with a stable predicate -/
  | sv (s : SV)
  /-- a pointer into a local box -/
  | ptr (i off : Nat)
  /-- a slice over cells of a local box -/
  | bsl (i off len cap : Nat)
  /-- the slice of a row that the call grows -/
  | row (i : Nat)
  /-- a pointer to a cell of such a row -/
  | rptr (i k : Nat)
  /-- a slice over cells of such a row -/
  | rsl (i off len : Nat)
  /-- a function value with what it has captured -/
  | clo (g : FuncId) (js : List Cap)

structure Env where
  β : Nat → Nat
  ν : Nat → Value
  O : Nat → Prop
  M : Mem

def Cap.holds (E : Env) : Cap → Value → Prop
  | .box i, v => v = .pointer (some ⟨E.β i, 0, none⟩)
  | .val s, v => s.h E.M v
def AllC (E : Env) : List Cap → List Value → Prop
  | [], [] => True
  | c :: l, x :: xs => c.holds E x ∧ AllC E l xs
  | _, _ => False

def AV.holds (E : Env) : AV → Value → Prop
  | .sv s, v => s.h E.M v
  | .ptr i o, v => v = .pointer (some ⟨E.β i, o, none⟩)
  | .bsl i o l c, v => v = .slice (some ⟨E.β i, o, none⟩) l c
  | .row i, v => v = E.ν i
  | .rptr i k, v => ∃ g, (E.ν i).ownBlock = some g ∧ v = .pointer (some ⟨g, k, none⟩)
  | .rsl i o l, v => ∃ g, (E.ν i).ownBlock = some g ∧ ∃ c, v = .slice (some ⟨g, o, none⟩) l c ∧ l ≤ c
  | .clo g js, v => ∃ vs : List Value, v = .func (.func g) #[] ⟨vs⟩ ∧ AllC E js vs

/-- The boxes and the rows that it speaks of. -/
def AV.mb : AV → Nat → Prop
  | .ptr i _, j => j = i
  | .bsl i _ _ _, j => j = i
  | .clo _ js, j => Cap.box j ∈ js
  | _, _ => False
def AV.mr : AV → Nat → Prop
  | .row i, j => j = i
  | .rptr i _, j => j = i
  | .rsl i _ _, j => j = i
  | _, _ => False

theorem AV.holds_congr {E E' : Env} (hM : E.M.le E'.M) {x : AV} (hb : ∀ j, x.mb j → E'.β j = E.β j) (hr : ∀ j, x.mr j → E'.ν j = E.ν j) {v : Value} (h : x.holds E v) : x.holds E' v := by
  cases x with
  | sv s => exact s.mono hM h
  | ptr i o => show v = _; rw [hb i rfl]; exact h
  | bsl i o l c => show v = _; rw [hb i rfl]; exact h
  | row i => show v = _; rw [hr i rfl]; exact h
  | rptr i k => show ∃ g, _; rw [hr i rfl]; exact h
  | rsl i o l => show ∃ g, _; rw [hr i rfl]; exact h
  | clo g js =>
    obtain ⟨vs, rfl, hvs⟩ := h
    refine ⟨vs, rfl, ?_⟩
    have key : ∀ (l : List Cap) (vs : List Value), (∀ c ∈ l, c ∈ js) → AllC E l vs → AllC E' l vs := by
      intro l
      induction l with
      | nil => intro vs _ h; cases vs with | nil => trivial | cons _ _ => exact h.elim
      | cons c l ih =>
        intro vs hl h
        cases vs with
        | nil => exact h.elim
        | cons x xs =>
          refine ⟨?_, ih xs (fun c hc => hl c (List.mem_cons_of_mem _ hc)) h.2⟩
          have h1 := h.1
          cases c with
          | box i => show x = _; rw [hb i (hl _ (by simp))]; exact h1
          | val s => exact s.mono hM h1
    exact key js vs (fun _ h => h) hvs

def AllV (E : Env) : List AV → List Value → Prop
  | [], [] => True
  | s :: l, x :: xs => s.holds E x ∧ AllV E l xs
  | _, _ => False
theorem AllV.imp {E E' : Env} : ∀ {l : List AV} {xs : List Value}, (∀ x ∈ l, ∀ v, x.holds E v → x.holds E' v) → AllV E l xs → AllV E' l xs
  | [], [], _, _ => trivial
  | s :: _, _ :: _, hi, h => ⟨hi s (by simp) _ h.1, AllV.imp (fun x hx => hi x (List.mem_cons_of_mem _ hx)) h.2⟩
  | [], _ :: _, _, h => h.elim
  | _ :: _, [], _, h => h.elim
theorem AllV.length {E : Env} : ∀ {l : List AV} {xs : List Value}, AllV E l xs → l.length = xs.length
  | [], [], _ => rfl
  | _ :: _, _ :: _, h => congrArg (· + 1) (AllV.length h.2)
  | [], _ :: _, h => h.elim
  | _ :: _, [], h => h.elim
theorem AllV.get {E : Env} : ∀ {l : List AV} {xs : List Value} {i : Nat} {s : AV}, AllV E l xs → l[i]? = some s → ∃ x, xs[i]? = some x ∧ s.holds E x
  | s :: _, x :: _, 0, _, h, e => ⟨x, rfl, by cases e; exact h.1⟩
  | _ :: l, _ :: xs, _ + 1, _, h, e => AllV.get (l := l) (xs := xs) h.2 e
  | [], _, _, _, _, e => by simp at e
  | _ :: _, [], _, _, h, _ => h.elim
theorem AllV.set {E : Env} : ∀ {l : List AV} {xs : List Value} {i : Nat} {s : AV} {x : Value}, AllV E l xs → s.holds E x → AllV E (l.set i s) (xs.set i x)
  | [], [], _, _, _, _, _ => trivial
  | _ :: _, _ :: _, 0, _, _, h, hs => ⟨hs, h.2⟩
  | _ :: l, _ :: xs, _ + 1, _, _, h, hs => ⟨h.1, AllV.set (l := l) (xs := xs) h.2 hs⟩
  | [], _ :: _, _, _, _, h, _ => h.elim
  | _ :: _, [], _, _, _, h, _ => h.elim
theorem AllV.of_sv {E : Env} : ∀ {l : List SV} {xs : List Value}, SV.All E.M l xs → AllV E (l.map AV.sv) xs
  | [], [], _ => trivial
  | _ :: _, _ :: _, h => ⟨h.1, AllV.of_sv h.2⟩
  | [], _ :: _, h => h.elim
  | _ :: _, [], h => h.elim

structure Box where
  T : TypeId
  cells : List AV

structure Row where
  E : TypeId
  sz : Nat
  n : Nat
  cells : List SV

inductive RSt where
  | un
  | dead
  | live (R : Row)

structure AS where
  n : Nat
  t : Nat → AV
  b : Nat → Option Box
  r : Nat → RSt
  /-- of an iterator: how many rounds have gone, and whether it may go on -/
  g : Nat
  go : Bool

def AS.set (S : AS) (d : Nat) (x : AV) : AS := { S with t := fun s => bif Nat.beq s d then x else S.t s }
def AS.setB (S : AS) (i : Nat) (B : Box) : AS := { S with b := fun j => bif Nat.beq j i then some B else S.b j }
def AS.setR (S : AS) (i : Nat) (R : RSt) : AS := { S with r := fun j => bif Nat.beq j i then R else S.r j }
def AS.setRs : List (Nat × RSt) → AS → AS
  | [], S => S
  | (i, R) :: l, S => setRs l (S.setR i R)

theorem beq_ne {s d : Nat} (h : s ≠ d) : Nat.beq s d = false := by
  cases e : Nat.beq s d with
  | false => rfl
  | true => exact absurd (Nat.eq_of_beq_eq_true e) h
theorem AS.set_same (S : AS) (d : Nat) (x : AV) : (S.set d x).t d = x := by simp [AS.set]
theorem AS.set_other (S : AS) (d s : Nat) (x : AV) (h : s ≠ d) : (S.set d x).t s = S.t s := by simp [AS.set, beq_ne h]
theorem AS.setB_same (S : AS) (d : Nat) (x : Box) : (S.setB d x).b d = some x := by simp [AS.setB]
theorem AS.setB_other (S : AS) (d s : Nat) (x : Box) (h : s ≠ d) : (S.setB d x).b s = S.b s := by simp [AS.setB, beq_ne h]
theorem AS.setR_same (S : AS) (d : Nat) (x : RSt) : (S.setR d x).r d = x := by simp [AS.setR]
theorem AS.setR_other (S : AS) (d s : Nat) (x : RSt) (h : s ≠ d) : (S.setR d x).r s = S.r s := by simp [AS.setR, beq_ne h]

/-- What an abstract state speaks of is there. -/
structure AS.wf (S : AS) : Prop where
  tb : ∀ s j, (S.t s).mb j → ∃ B, S.b j = some B
  tr : ∀ s j, (S.t s).mr j → S.r j ≠ .un
  bb : ∀ i B, S.b i = some B → ∀ x ∈ B.cells, ∀ j, x.mb j → ∃ B', S.b j = some B'
  br : ∀ i B, S.b i = some B → ∀ x ∈ B.cells, ∀ j, x.mr j → S.r j ≠ .un

/-- Where the call began, what was known to be still there, which old blocks may change (own) and which of them it holds as boxes (bor), boxes whose blocks are told (pin), the round in which it runs, and what stands behind it where it is an iterator (J). -/
structure Ctx where
  w0 : World
  M0 : Mem
  own : Nat → Prop
  bor : Nat → Prop
  pin : Nat → Option Nat
  pinr : Nat → Option Value
  ro : Option Nat
  J : Nat → Bool → (Nat → Prop) → Mem → World → Prop
  hbo : ∀ k, bor k → own k
  hpr : ∀ i v, pinr i = some v → 1000 ≤ i
  jf : ∀ (g : Nat) (h : Bool) (O : Nat → Prop) (M M' : Mem) (w w' : World), J g h O M w → M.le M' → M'.inW w' → (∀ b o v, M' b o = some v → M b o = some v ∨ ((w0.heap.size ≤ b ∨ bor b) ∧ ¬ O b)) →
    (∀ b, (b < w0.heap.size ∧ ¬ bor b) ∨ O b → w'.heap[b]? = w.heap[b]?) → w'.os = w.os → w'.tape = w.tape → w'.output = w.output → w.heap.size ≤ w'.heap.size → J g h O M' w'

def markOf (r : Nat) : Deferred := { target := .collected r, args := #[] }

structure HoldsAt (C : Ctx) (S : AS) (E : Env) (a : Act) (w : World) : Prop where
  wf : S.wf
  marks : ∃ ds : List Nat, a.defers = ds.map markOf ∧ ds.Nodup ∧ ∀ r ∈ ds, C.w0.heap.size ≤ r ∧ ¬ E.O r ∧ w.heap[r]? = some (.deferred (some []))
  size : a.tmps.size = S.n
  os : w.os = C.w0.os
  tape : w.tape = C.w0.tape
  output : w.output = C.w0.output
  grown : C.w0.heap.size ≤ w.heap.size
  frame : ∀ k, k < C.w0.heap.size → ¬ C.own k → w.heap[k]? = C.w0.heap[k]?
  m0 : C.M0.le E.M
  mnew : ∀ b o v, E.M b o = some v → C.M0 b o = some v ∨ C.w0.heap.size ≤ b ∨ C.own b
  inW : E.M.inW w
  tm : ∀ s, (S.t s).holds E (a.tmps.getD s undef)
  bx : ∀ i B, S.b i = some B → (C.w0.heap.size ≤ E.β i ∨ C.bor (E.β i)) ∧ (∀ o, E.M (E.β i) o = none) ∧ ¬ E.O (E.β i) ∧ ∃ vs : List Value, w.heap[E.β i]? = some (.cells ⟨vs⟩ B.T (0, 0)) ∧ AllV E B.cells vs
  inj : ∀ i j B B', S.b i = some B → S.b j = some B' → E.β i = E.β j → i = j
  rx : ∀ i R, S.r i = .live R → (∃ vs : List Value, w.ownsRow 0 R.E R.sz (E.ν i) R.n vs ∧ SV.All E.M R.cells vs) ∧
    ∀ g, (E.ν i).ownBlock = some g → (C.w0.heap.size ≤ g ∨ C.bor g) ∧ (∀ o, E.M g o = none) ∧ ¬ E.O g ∧ ∀ j B, S.b j = some B → E.β j ≠ g
  rinj : ∀ i j R R', S.r i = .live R → S.r j = .live R' → ∀ g, (E.ν i).ownBlock = some g → (E.ν j).ownBlock = some g → i = j
  pin : ∀ i b, C.pin i = some b → E.β i = b
  pinr : ∀ i v, C.pinr i = some v → E.ν i = v
  olt : ∀ b, E.O b → b < w.heap.size ∧ (∀ o, E.M b o = none) ∧ (C.own b ∨ C.w0.heap.size ≤ b)
  jj : C.J S.g S.go E.O E.M w

def AS.holds (C : Ctx) (S : AS) (a : Act) (w : World) : Prop := ∃ E, HoldsAt C S E a w

def AS.ev (S : AS) : Operand → AV
  | .tmp t => S.t t
  | .const x => .sv (.v x)
  | .global g => .sv (.v (.pointer (some ⟨g, 0, none⟩)))
  | .func f => .sv (.v (.func (.func f) #[] #[]))

def okeys : Operand → List Nat
  | .tmp t => [t]
  | _ => []

theorem HoldsAt.ev {C : Ctx} {S : AS} {E : Env} {a : Act} {w : World} (h : HoldsAt C S E a w) (x : Operand) : (S.ev x).holds E (a.eval x) := by
  cases x with
  | tmp t => exact h.tm t
  | const x => exact rfl
  | global g => exact rfl
  | func f => exact rfl

theorem ev_congr {S S' : AS} {x : Operand} {rs : List Nat} (hk : ∀ s ∈ okeys x, s ∈ rs) (h : ∀ s ∈ rs, S'.t s = S.t s) : S'.ev x = S.ev x := by
  cases x with
  | tmp t => exact h t (hk t (by simp [okeys]))
  | _ => rfl

/-- The fence that shuts nothing out, in a round or not. -/
abbrev Fr (ro : Option Nat) : Fence := { fn := fun _ => True, depth := none, alive := false, round := ro }

theorem fr_calls {ro : Option Nat} {n : Nat} {P : Program} {f : FuncId} {args : Array Value} {w : World} {R : Ending → World → Prop} (h : Calls P f args w R) : CallsIn (Fr ro) n P f args w R := by
  have h1 : CallsIn Fence.wide n P f args w R := callsIn_wide.2 h
  cases ro with
  | none => exact h1
  | some l => exact h1.inRound l

/-- A call that changes nothing that was there: what it hands back, of what it is given. -/
def Pure (P : Program) (f : FuncId) (args : List SV) (r : SV) : Prop :=
  ∀ (M : Mem) (w : World) (vs : List Value), M.inW w → SV.All M args vs →
    Calls P f ⟨vs⟩ w fun e w' => ∃ v M', e = .returned v ∧ M.le M' ∧ (∀ b o x, M' b o = some x → M b o = some x ∨ w.heap.size ≤ b) ∧ M'.inW w' ∧ r.h M' v ∧ Below w.heap.size w w'

theorem inW_lt {M : Mem} {w : World} (h : M.inW w) {b o : Nat} {v : Value} (e : M b o = some v) : b < w.heap.size := World.block_lt_of_cell? w _ (h b o v e)

theorem inW_of_same {M : Mem} {w w' : World} (h : M.inW w) (hs : ∀ b, (∃ o v, M b o = some v) → w'.heap[b]? = w.heap[b]?) : M.inW w' := fun b o v e => by
  rw [World.cell?_of_block (w := w) (a := ⟨b, o, none⟩) (hs b ⟨o, v, e⟩)]; exact h b o v e

structure Eff where
  sl : Option (Nat × AV)
  bx : List (Nat × Box)
  rw : List (Nat × RSt)

def AS.setBs : List (Nat × Box) → AS → AS
  | [], S => S
  | (i, B) :: l, S => setBs l (S.setB i B)
def AS.app (S : AS) (e : Eff) : AS :=
  match e.sl with
  | some (d, x) => (AS.setRs e.rw (AS.setBs e.bx S)).set d x
  | none => AS.setRs e.rw (AS.setBs e.bx S)

def wT (e : Eff) (s : Nat) : Option AV := match e.sl with | some (d, x) => if s = d then some x else none | none => none
def lastR : List (Nat × RSt) → Nat → Option RSt
  | [], _ => none
  | (i, R) :: l, s => match lastR l s with | some x => some x | none => if s = i then some R else none
def lastB : List (Nat × Box) → Nat → Option (Option Box)
  | [], _ => none
  | (i, R) :: l, s => match lastB l s with | some x => some x | none => if s = i then some (some R) else none

theorem setRs_n : ∀ (l : List (Nat × RSt)) (S : AS), (AS.setRs l S).n = S.n ∧ (AS.setRs l S).t = S.t ∧ (AS.setRs l S).b = S.b ∧ (AS.setRs l S).g = S.g ∧ (AS.setRs l S).go = S.go
  | [], _ => ⟨rfl, rfl, rfl, rfl, rfl⟩
  | (_, _) :: l, _ => setRs_n l _
theorem setBs_n : ∀ (l : List (Nat × Box)) (S : AS), (AS.setBs l S).n = S.n ∧ (AS.setBs l S).t = S.t ∧ (AS.setBs l S).r = S.r ∧ (AS.setBs l S).g = S.g ∧ (AS.setBs l S).go = S.go
  | [], _ => ⟨rfl, rfl, rfl, rfl, rfl⟩
  | (_, _) :: l, _ => setBs_n l _
theorem setRs_r : ∀ (l : List (Nat × RSt)) (S : AS) (s : Nat), (AS.setRs l S).r s = (lastR l s).getD (S.r s)
  | [], _, _ => rfl
  | (i, R) :: l, S, s => by
    rw [AS.setRs, setRs_r l, lastR]
    cases lastR l s with
    | some x => rfl
    | none =>
      by_cases h : s = i
      · subst h; simp [AS.setR_same]
      · simp [AS.setR_other _ _ _ _ h, h]
theorem setBs_b : ∀ (l : List (Nat × Box)) (S : AS) (s : Nat), (AS.setBs l S).b s = (lastB l s).getD (S.b s)
  | [], _, _ => rfl
  | (i, R) :: l, S, s => by
    rw [AS.setBs, setBs_b l, lastB]
    cases lastB l s with
    | some x => rfl
    | none =>
      by_cases h : s = i
      · subst h; simp [AS.setB_same]
      · simp [AS.setB_other _ _ _ _ h, h]

theorem AS.app_n (S : AS) (e : Eff) : (S.app e).n = S.n := by
  obtain ⟨_ | ⟨d, x⟩, bl, l⟩ := e <;> exact (setRs_n l _).1.trans (setBs_n bl S).1
theorem AS.app_g (S : AS) (e : Eff) : (S.app e).g = S.g ∧ (S.app e).go = S.go := by
  obtain ⟨_ | ⟨d, x⟩, bl, l⟩ := e <;> exact ⟨(setRs_n l _).2.2.2.1.trans (setBs_n bl S).2.2.2.1, (setRs_n l _).2.2.2.2.trans (setBs_n bl S).2.2.2.2⟩
theorem AS.app_t (S : AS) (e : Eff) (s : Nat) : (S.app e).t s = (wT e s).getD (S.t s) := by
  obtain ⟨_ | ⟨d, x⟩, bl, l⟩ := e
  · show (AS.setRs l (AS.setBs bl S)).t s = S.t s
    rw [(setRs_n l _).2.1, (setBs_n bl S).2.1]
  · by_cases h : s = d
    · subst h; simp [AS.app, AS.set_same, wT]
    · simp only [AS.app, AS.set_other _ _ _ _ h, wT, h, if_false]
      rw [(setRs_n l _).2.1, (setBs_n bl S).2.1]; rfl
theorem AS.app_b (S : AS) (e : Eff) (s : Nat) : (S.app e).b s = (lastB e.bx s).getD (S.b s) := by
  obtain ⟨_ | ⟨d, x⟩, bl, l⟩ := e
  · show (AS.setRs l (AS.setBs bl S)).b s = _
    rw [(setRs_n l _).2.2.1, setBs_b]
  · show (AS.setRs l (AS.setBs bl S)).b s = _
    rw [(setRs_n l _).2.2.1, setBs_b]
theorem AS.app_r (S : AS) (e : Eff) (s : Nat) : (S.app e).r s = (lastR e.rw s).getD (S.r s) := by
  obtain ⟨_ | ⟨d, x⟩, bl, l⟩ := e
  · show (AS.setRs l (AS.setBs bl S)).r s = _
    rw [setRs_r, (setBs_n bl S).2.2.1]
  · show (AS.setRs l (AS.setBs bl S)).r s = _
    rw [setRs_r, (setBs_n bl S).2.2.1]

theorem AS.ext' {S S' : AS} (hn : S.n = S'.n) (ht : ∀ s, S.t s = S'.t s) (hb : ∀ s, S.b s = S'.b s) (hr : ∀ s, S.r s = S'.r s) (hg : S.g = S'.g) (hh : S.go = S'.go) : S = S' := by
  cases S; cases S'; simp only [AS.mk.injEq]; exact ⟨hn, funext ht, funext hb, funext hr, hg, hh⟩

/-- One operation, from every abstract state that agrees with S where the operation looks. -/
def OpOk (P : Program) (C : Ctx) (ops : Array Oper) (o : Oper) (rs rb rr : List Nat) (S : AS) (e : Eff) : Prop :=
  ∀ S' : AS, S'.n = S.n → (∀ s ∈ rs, S'.t s = S.t s) → (∀ i ∈ rb, S'.b i = S.b i) → (∀ i ∈ rr, S'.r i = S.r i) →
    ∀ (i : Nat) (a : Act) (w : World) (K : Act → World → Prop) (Q : Exit → Act → World → Prop), ops[i]? = some o → S'.holds C a w → (∀ a' w', (S'.app e).holds C a' w' → K a' w') → wpOpIn (Fr C.ro) 0 P ops Q i K a w

/-- One operation that may come to several abstract states. -/
def OpAny (P : Program) (C : Ctx) (ops : Array Oper) (o : Oper) (S : AS) (Post : AS → Prop) : Prop :=
  ∀ (i : Nat) (a : Act) (w : World) (K : Act → World → Prop) (Q : Exit → Act → World → Prop), ops[i]? = some o → S.holds C a w → (∀ S' a' w', Post S' → S'.holds C a' w' → K a' w') → wpOpIn (Fr C.ro) 0 P ops Q i K a w

structure Ac where
  rs : List Nat
  rb : List Nat
  rr : List Nat
  e : Eff

/-- The operations in the text's order; what was done is kept. 'nd': an operation may come to several states (never where the order is open). -/
def RunT (P : Program) (C : Ctx) (ops : Array Oper) (nd : Bool) (K : List Ac → AS → Prop) : List Oper → List Ac → AS → Prop
  | [], acc, S => K acc S
  | o :: rest, acc, S => (∃ rs rb rr e, OpOk P C ops o rs rb rr S e ∧ RunT P C ops nd K rest (⟨rs, rb, rr, e⟩ :: acc) (S.app e)) ∨
      (nd = true ∧ ∃ Post, OpAny P C ops o S Post ∧ ∀ S', Post S' → RunT P C ops nd K rest [] S')

def Ok (P : Program) (C : Ctx) (c : Code) (S : AS) (Q : Exit → AS → Prop) : Prop :=
  ∀ a w, S.holds C a w → c.wpIn (Fr C.ro) 0 P (fun e a' w' => ∃ S' : AS, Q e S' ∧ S'.holds C a' w') a w

theorem runT_text {P : Program} {C : Ctx} {ops : Array Oper} {R : AS → Prop} {Q : Exit → Act → World → Prop}
    (hQ : ∀ S a w, R S → S.holds C a w → Q .normal a w) :
    ∀ (rest : List Oper) (k : Nat) (acc : List Ac) (S : AS) (a : Act) (w : World), ops.toList.drop k = rest → RunT P C ops true (fun _ S => R S) rest acc S → S.holds C a w → wpOpsIn (Fr C.ro) 0 P ops Q (List.range' k rest.length) a w
  | [], k, acc, S, a, w, _, h, hs => by simpa [wpOpsIn] using hQ S a w h hs
  | o :: rest, k, acc, S, a, w, hd, h, hs => by
    have hk : ops[k]? = some o := by
      have : (ops.toList.drop k)[0]? = some o := by rw [hd]; rfl
      simpa using this
    have hd' : ops.toList.drop (k + 1) = rest := by
      rw [← List.drop_drop, hd]; rfl
    rw [List.length_cons, List.range'_succ, wpOpsIn_cons]
    rcases h with ⟨rs, rb, rr, e, ho, hr⟩ | ⟨_, Post, ho, hr⟩
    · exact ho S rfl (fun _ _ => rfl) (fun _ _ => rfl) (fun _ _ => rfl) k a w _ Q hk hs (fun a' w' h' => runT_text hQ rest (k + 1) _ _ a' w' hd' hr h')
    · exact ho k a w _ Q hk hs (fun S' a' w' hp h' => runT_text hQ rest (k + 1) _ _ a' w' hd' (hr S' hp) h')

theorem ok_region {P : Program} {C : Ctx} {id : Nat} {ops : Array Oper} {S : AS} {Q : Exit → AS → Prop}
    (h : RunT P C ops true (fun _ S => Q .normal S) ops.toList [] S) : Ok P C (.region id ops false) S Q := fun a w hs => by
  refine wpIn_region ?_
  have := runT_text (Q := fun e a' w' => ∃ S' : AS, Q e S' ∧ S'.holds C a' w') (fun S a w r hs => ⟨S, r, hs⟩) ops.toList 0 [] S a w rfl h hs
  simpa [List.range_eq_range'] using this

/- THE ORDER THAT IS OPEN -/

/-- One writes what the other reads or writes. -/
def hits (ws rs ws' : List Nat) : Bool := ws.any fun d => rs.contains d || ws'.contains d
def Eff.ks (e : Eff) : List Nat := match e.sl with | some (d, _) => [d] | none => []
def Eff.kb (e : Eff) : List Nat := e.bx.map (·.1)
def Eff.kr (e : Eff) : List Nat := e.rw.map (·.1)
def Ac.clash (x y : Ac) : Bool :=
  hits x.e.ks y.rs y.e.ks || hits y.e.ks x.rs [] || hits x.e.kb y.rb y.e.kb || hits y.e.kb x.rb [] || hits x.e.kr y.rr y.e.kr || hits y.e.kr x.rr []

def orderOk (ops : Array Oper) (acts : List Ac) : Bool :=
  let b := Region.before ops
  (acts.length == ops.size) &&
  (ops.toList.zipIdx.all fun (o, j) => o.after.all fun e => !Region.binds .any e || decide (e.on < j)) &&
  (acts.zipIdx.all fun (y, j) => acts.zipIdx.all fun (x, i) => !(decide (i < j)) || !(x.clash y) || (b.getD j 0).testBit i)

def Down (ops : Array Oper) (L : Nat → Bool) : Prop := ∀ (j : Nat) (o : Oper), ops[j]? = some o → L j = true → ∀ e ∈ o.after, Region.binds .any e = true → L e.on = true

theorem mask_fold (acc : Array Nat) (after : List Edge) (L : Nat → Bool) (hacc : ∀ j i, (acc.getD j 0).testBit i = true → L j = true → L i = true)
    (hL : ∀ e ∈ after, Region.binds .any e = true → L e.on = true) : ∀ (s i : Nat), (s.testBit i = true → L i = true) →
      (after.foldl (fun s e => if Region.binds .any e then s ||| 2 ^ e.on ||| acc.getD e.on 0 else s) s).testBit i = true → L i = true := by
  induction after with
  | nil => intro s i hs h; exact hs h
  | cons e after ih =>
    intro s i hs h
    rw [List.foldl_cons] at h
    refine ih (fun e' he' => hL e' (List.mem_cons_of_mem _ he')) _ i ?_ h
    intro hb
    split at hb
    · rename_i hbe
      have hLe := hL e (List.mem_cons_self ..) hbe
      rw [Nat.testBit_or, Nat.testBit_or, Bool.or_eq_true, Bool.or_eq_true, Nat.testBit_two_pow] at hb
      rcases hb with (hb | hb) | hb
      · exact hs hb
      · simp only [decide_eq_true_eq] at hb; exact hb ▸ hLe
      · exact hacc _ _ hb hLe
    · exact hs hb

theorem before_down {ops : Array Oper} {L : Nat → Bool} (hL : Down ops L) : ∀ j i, ((Region.before ops).getD j 0).testBit i = true → L j = true → L i = true := by
  have key : ∀ (l : List Oper) (k : Nat) (acc : Array Nat), acc.size = k → (∀ m, l[m]? = ops[k + m]?) →
      (∀ j i, (acc.getD j 0).testBit i = true → L j = true → L i = true) →
      ∀ j i, ((l.foldl (fun acc o => acc.push (o.after.foldl (fun s e => if Region.binds .any e then s ||| 2 ^ e.on ||| acc.getD e.on 0 else s) 0)) acc).getD j 0).testBit i = true → L j = true → L i = true := by
    intro l
    induction l with
    | nil => intro k acc _ _ h; exact h
    | cons o l ih =>
      intro k acc hk hl hacc
      rw [List.foldl_cons]
      refine ih (k + 1) _ (by simp [hk]) (fun m => ?_) ?_
      · have := hl (m + 1); rw [List.getElem?_cons_succ] at this; rw [this]; congr 1; omega
      · intro j i h hj
        by_cases hjk : j = k
        · subst hjk
          have ho : ops[j]? = some o := by have := hl 0; simpa using this.symm
          rw [Array.getD_eq_getD_getElem?, ← hk, Array.getElem?_push_size, Option.getD_some, ← Array.foldl_toList] at h
          exact mask_fold acc o.after.toList L hacc (fun e he hb => hL j o ho hj e (Array.mem_toList_iff.1 he) hb) 0 i (by simp) h
        · rw [Array.getD_eq_getD_getElem?, Array.getElem?_push, if_neg (by omega), ← Array.getD_eq_getD_getElem?] at h
          exact hacc j i h hj
  intro j i h hj
  refine key ops.toList 0 #[] rfl (fun m => by simp) (by intro j i h; simp at h) j i ?_ hj
  rw [Region.before, ← Array.foldl_toList] at h
  exact h

/-- The state behind the operations that L lists among the first k. -/
def ov (S : AS) (acts : Nat → Eff) (L : Nat → Bool) : Nat → AS
  | 0 => S
  | k + 1 => if L k then (ov S acts L k).app (acts k) else ov S acts L k

theorem ov_n (S : AS) (acts : Nat → Eff) (L : Nat → Bool) : ∀ k, (ov S acts L k).n = S.n
  | 0 => rfl
  | k + 1 => by unfold ov; split <;> simp [AS.app_n, ov_n S acts L k]

theorem ov_congr (S : AS) (acts : Nat → Eff) {L L' : Nat → Bool} : ∀ k, (∀ i, i < k → L i = L' i) → ov S acts L k = ov S acts L' k
  | 0, _ => rfl
  | k + 1, h => by unfold ov; rw [h k (by omega), ov_congr S acts k (fun i hi => h i (by omega))]

section comp
/- one component of a state: slots, boxes or rows -/
variable {α : Type} (get : AS → Nat → α) (wr : Eff → Nat → Option α) (hget : ∀ S e s, get (S.app e) s = (wr e s).getD (get S s))
include hget

theorem ov_skip (S : AS) (acts : Nat → Eff) (L : Nat → Bool) (s i : Nat) : ∀ k, i ≤ k → (∀ m, i ≤ m → m < k → L m = true → wr (acts m) s = none) → get (ov S acts L k) s = get (ov S acts L i) s := by
  intro k
  induction k with
  | zero => intro h _; obtain rfl : i = 0 := by omega
            rfl
  | succ k ih =>
    intro h hm
    by_cases hi : i = k + 1
    · subst hi; rfl
    · have ih' := ih (by omega) (fun m h1 h2 => hm m h1 (by omega))
      rw [← ih']
      show get (if L k then (ov S acts L k).app (acts k) else ov S acts L k) s = _
      split
      · rename_i hl
        rw [hget, hm k (by omega) (by omega) hl]; rfl
      · rfl

theorem ov_agree (S : AS) (acts : Nat → Eff) (L L' : Nat → Bool) (s : Nat) : ∀ k, (∀ m, m < k → wr (acts m) s ≠ none → L m = L' m) → get (ov S acts L k) s = get (ov S acts L' k) s := by
  intro k
  induction k with
  | zero => intro _; rfl
  | succ k ih =>
    intro hm
    have ih' := ih (fun m h => hm m (by omega))
    have one : ∀ M : Nat → Bool, get (ov S acts M (k + 1)) s = if M k = true then (wr (acts k) s).getD (get (ov S acts M k) s) else get (ov S acts M k) s := by
      intro M
      show get (if M k then (ov S acts M k).app (acts k) else ov S acts M k) s = _
      split
      · rw [hget]
      · rfl
    rw [one, one, ih']
    cases hsl : wr (acts k) s with
    | none => simp
    | some x => rw [hm k (by omega) (by rw [hsl]; simp)]
end comp

theorem wT_key {e : Eff} {s : Nat} (h : wT e s ≠ none) : s ∈ e.ks := by
  unfold wT at h; unfold Eff.ks
  split at h
  · split at h
    · subst_vars; simp
    · exact absurd rfl h
  · exact absurd rfl h
theorem lastB_key : ∀ {l : List (Nat × Box)} {s : Nat}, lastB l s ≠ none → s ∈ l.map (·.1)
  | [], _, h => absurd rfl h
  | (i, R) :: l, s, h => by
    rw [lastB] at h
    cases e : lastB l s with
    | some x => exact List.mem_cons_of_mem _ (lastB_key (by rw [e]; simp))
    | none =>
      rw [e] at h
      by_cases hs : s = i
      · subst hs; simp
      · simp [hs] at h
theorem lastR_key : ∀ {l : List (Nat × RSt)} {s : Nat}, lastR l s ≠ none → s ∈ l.map (·.1)
  | [], _, h => absurd rfl h
  | (i, R) :: l, s, h => by
    rw [lastR] at h
    cases e : lastR l s with
    | some x => exact List.mem_cons_of_mem _ (lastR_key (by rw [e]; simp))
    | none =>
      rw [e] at h
      by_cases hs : s = i
      · subst hs; simp
      · simp [hs] at h

theorem hits_false {ws rs ws' : List Nat} (h : hits ws rs ws' = false) : ∀ d ∈ ws, d ∉ rs ∧ d ∉ ws' := by
  intro d hd
  simp only [hits, List.any_eq_false, Bool.or_eq_true, not_or] at h
  have := h d hd
  simpa using this

section drawn
variable {P : Program} {C : Ctx} {ops : Array Oper} {acts : List Ac} {S : AS}

def effOf (acts : List Ac) (i : Nat) : Eff := ((acts[i]?).map (·.e)).getD ⟨none, [], []⟩

/-- In the text's order each operation is right at the state in which it finds itself. -/
def TextOk (P : Program) (C : Ctx) (ops : Array Oper) (acts : List Ac) (S : AS) : Prop :=
  ∀ (i : Nat) (o : Oper) (x : Ac), ops[i]? = some o → acts[i]? = some x → OpOk P C ops o x.rs x.rb x.rr (ov S (effOf acts) (fun _ => true) i) x.e

def unl (n : Nat) (listed : Array Bool) : Nat := ((List.range n).filter fun i => !listed.getD i true).length

theorem filter_length_lt {p q : Nat → Bool} : ∀ (l : List Nat) (i : Nat), i ∈ l → (∀ j, q j = true → p j = true) → p i = true → q i = false → (l.filter q).length < (l.filter p).length
  | [], _, h, _, _, _ => by simp at h
  | x :: l, i, h, hpq, hp, hq => by
    have hle : ∀ l : List Nat, (l.filter q).length ≤ (l.filter p).length := by
      intro l
      induction l with
      | nil => simp
      | cons y l ih =>
        rw [List.filter_cons, List.filter_cons]
        cases hqy : q y with
        | false => cases hpy : p y <;> simp <;> omega
        | true => simp [hpq y hqy]; omega
    rw [List.filter_cons, List.filter_cons]
    rcases List.mem_cons.1 h with rfl | h'
    · rw [hp, hq]; have := hle l; simp; omega
    · have ih := filter_length_lt l i h' hpq hp hq
      cases hqy : q x with
      | false => cases hpy : p x <;> simp <;> omega
      | true => simp [hpq x hqy]; omega

theorem unl_lt {n i : Nat} {listed : Array Bool} (hi : i < n) (hsz : listed.size = n) (h : listed.getD i true = false) : unl n (listed.setIfInBounds i true) < unl n listed := by
  refine filter_length_lt (List.range n) i (List.mem_range.2 hi) (fun j hj => ?_) (by simp [h]) ?_
  · rw [Bool.not_eq_true'] at hj ⊢
    rw [Array.getD_eq_getD_getElem?, Array.getElem?_setIfInBounds] at hj
    split at hj
    · split at hj <;> simp at hj
    · rw [Array.getD_eq_getD_getElem?]; exact hj
  · simp [Array.getD_eq_getD_getElem?, hsz, hi]

theorem orderOk_parts (h : orderOk ops acts = true) : acts.length = ops.size ∧
    (∀ (j : Nat) (o : Oper), ops[j]? = some o → ∀ e ∈ o.after, Region.binds .any e = true → e.on < j) ∧
    (∀ (i j : Nat) (x y : Ac), acts[i]? = some x → acts[j]? = some y → i < j → x.clash y = true → ((Region.before ops).getD j 0).testBit i = true) := by
  simp only [orderOk, Bool.and_eq_true, beq_iff_eq, List.all_eq_true] at h
  obtain ⟨⟨h1, h2⟩, h3⟩ := h
  refine ⟨h1, ?_, ?_⟩
  · intro j o ho e he hb
    have := h2 (o, j) (List.mem_zipIdx_iff_getElem?.2 (by simpa using ho))
    simp only [Array.all_eq_true_iff_forall_mem] at this
    have := this e he
    simpa [hb] using this
  · intro i j x y hx hy hij hc
    have := h3 (y, j) (List.mem_zipIdx_iff_getElem?.2 (by simpa using hy)) (x, i) (List.mem_zipIdx_iff_getElem?.2 (by simpa using hx))
    simpa [hij, hc] using this

theorem wpAnyIn_every (hT : TextOk P C ops acts S) (hord : orderOk ops acts = true) {Q : Exit → Act → World → Prop}
    (hQ : ∀ a w, (ov S (effOf acts) (fun _ => true) ops.size).holds C a w → Q .normal a w) :
    ∀ (fuel : Nat) (listed : Array Bool) (a : Act) (w : World), listed.size = ops.size → unl ops.size listed ≤ fuel → Down ops (fun i => listed.getD i false) →
      (ov S (effOf acts) (fun i => listed.getD i false) ops.size).holds C a w → wpAnyIn (Fr C.ro) 0 P .any ops Q fuel listed a w := by
  obtain ⟨hlen, hback, hclash⟩ := orderOk_parts hord
  have getD_ft : ∀ (listed : Array Bool) (i : Nat), listed.size = ops.size → i < ops.size → listed.getD i true = listed.getD i false := by
    intro listed i hs hi
    rw [Array.getD_eq_getD_getElem?, Array.getD_eq_getD_getElem?]
    rw [Array.getElem?_eq_getElem (by omega)]; rfl
  -- no operation ready: all are listed
  have done : ∀ (listed : Array Bool), listed.size = ops.size → Region.ready .any ops listed = [] → ∀ i, i < ops.size → listed.getD i false = true := by
    intro listed hs hr i
    induction i using Nat.strongRecOn with
    | _ i ih =>
      intro hi
      cases hli : listed.getD i false with
      | true => rfl
      | false =>
        exfalso
        have : i ∈ Region.ready .any ops listed := by
          simp only [Region.ready, List.mem_filter, List.mem_range]
          refine ⟨hi, ?_⟩
          rw [getD_ft listed i hs hi, hli, Array.getElem?_eq_getElem hi]
          simp only [Bool.not_false, Bool.true_and, Option.map_some, Option.getD_some, Array.all_eq_true_iff_forall_mem]
          intro e he
          cases hb : Region.binds .any e with
          | false => rfl
          | true =>
            have hlt := hback i ops[i] (Array.getElem?_eq_getElem hi) e he hb
            rw [ih e.on hlt (by omega)]; rfl
        rw [hr] at this
        simp at this
  intro fuel
  induction fuel with
  | zero =>
    intro listed a w hs hu hD hh
    have hall : ∀ i, i < ops.size → listed.getD i false = true := by
      intro i hi
      cases hli : listed.getD i false with
      | true => rfl
      | false =>
        exfalso
        have hm : i ∈ (List.range ops.size).filter fun i => !listed.getD i true := by
          rw [List.mem_filter]; exact ⟨List.mem_range.2 hi, by rw [getD_ft listed i hs hi, hli]; rfl⟩
        have : 0 < unl ops.size listed := List.length_pos_of_mem hm
        omega
    refine ⟨?_, ?_⟩
    · simp only [Region.ready, List.filter_eq_nil_iff, List.mem_range]
      intro i hi
      rw [getD_ft listed i hs hi, hall i hi]; simp
    · refine hQ a w ?_
      rwa [ov_congr S (effOf acts) (L := fun i => listed.getD i false) (L' := fun _ => true) ops.size hall] at hh
  | succ fuel ih =>
    intro listed a w hs hu hD hh
    refine ⟨fun hr => ?_, fun i hi => ?_⟩
    · refine hQ a w ?_
      rwa [ov_congr S (effOf acts) (L := fun i => listed.getD i false) (L' := fun _ => true) ops.size (done listed hs hr)] at hh
    · simp only [Region.ready, List.mem_filter, List.mem_range, Bool.and_eq_true, Bool.not_eq_true'] at hi
      obtain ⟨hi, hli, hpre⟩ := hi
      have hli' : listed.getD i false = false := by rw [← getD_ft listed i hs hi]; exact hli
      have ho : ops[i]? = some ops[i] := Array.getElem?_eq_getElem hi
      have hpre' : ∀ e ∈ ops[i].after, Region.binds .any e = true → listed.getD e.on false = true := by
        rw [ho] at hpre
        simp only [Option.map_some, Option.getD_some, Array.all_eq_true_iff_forall_mem] at hpre
        intro e he hb
        have := hpre e he
        simpa [hb] using this
      have hia : i < acts.length := by omega
      have hx : acts[i]? = some acts[i] := List.getElem?_eq_getElem hia
      have effi : effOf acts i = acts[i].e := by simp [effOf, hia]
      -- L with i
      have hget : ∀ m, (listed.setIfInBounds i true).getD m false = if m = i then true else listed.getD m false := by
        intro m
        rw [Array.getD_eq_getD_getElem?, Array.getElem?_setIfInBounds]
        by_cases hm : m = i
        · subst hm; simp [hs, hi]
        · rw [if_neg (by omega), if_neg hm, Array.getD_eq_getD_getElem?]
      have hD' : Down ops (fun m => (listed.setIfInBounds i true).getD m false) := by
        intro j o hj hl e he hb
        simp only [hget] at hl ⊢
        by_cases hji : j = i
        · subst hji
          have : o = ops[j] := by rw [ho] at hj; exact (Option.some.inj hj).symm
          subst this
          have := hpre' e he hb
          split <;> simp_all
        · rw [if_neg hji] at hl
          have := hD j o hj hl e he hb
          split <;> simp_all
      -- what is listed lies before nothing that is listed
      have later : ∀ k, i < k → listed.getD k false = true → (acts[i]).clash ((acts[k]?).getD ⟨[], [], [], ⟨none, [], []⟩⟩) = false := by
        intro k hk hlk
        have hkn : k < ops.size := by
          rcases Nat.lt_or_ge k ops.size with h | h
          · exact h
          · rw [Array.getD_eq_getD_getElem?, Array.getElem?_eq_none (by omega)] at hlk; simp at hlk
        have hka : acts[k]? = some acts[k] := List.getElem?_eq_getElem (by omega)
        rw [hka, Option.getD_some]
        cases hc : (acts[i]).clash acts[k] with
        | false => rfl
        | true =>
          have hb := hclash i k _ _ hx hka hk hc
          have := before_down hD k i hb hlk
          simp only [hli'] at this
          exact absurd this (by simp)
      have earlier : ∀ k, k < i → listed.getD k false = false → ((acts[k]?).getD ⟨[], [], [], ⟨none, [], []⟩⟩).clash acts[i] = false := by
        intro k hk hlk
        have hka : acts[k]? = some acts[k] := List.getElem?_eq_getElem (by omega)
        rw [hka, Option.getD_some]
        cases hc : (acts[k]).clash acts[i] with
        | false => rfl
        | true =>
          have hb := hclash k i _ _ hka hx hk hc
          have := before_down hD' i k hb (by simp [hget])
          rw [hget, if_neg (by omega), hlk] at this
          exact absurd this (by simp)
      have effk : ∀ k, ((acts[k]?).getD ⟨[], [], [], ⟨none, [], []⟩⟩).e = effOf acts k := by
        intro k; unfold effOf; cases acts[k]? <;> rfl
      have noclash : ∀ {x y : Ac}, x.clash y = false → (∀ d ∈ x.e.ks, d ∉ y.rs ∧ d ∉ y.e.ks) ∧ (∀ d ∈ y.e.ks, d ∉ x.rs) ∧ (∀ d ∈ x.e.kb, d ∉ y.rb ∧ d ∉ y.e.kb) ∧ (∀ d ∈ y.e.kb, d ∉ x.rb) ∧ (∀ d ∈ x.e.kr, d ∉ y.rr ∧ d ∉ y.e.kr) ∧ (∀ d ∈ y.e.kr, d ∉ x.rr) := by
        intro x y h
        simp only [Ac.clash, Bool.or_eq_false_iff] at h
        exact ⟨hits_false h.1.1.1.1.1, fun d hd => (hits_false h.1.1.1.1.2 d hd).1, hits_false h.1.1.1.2, fun d hd => (hits_false h.1.1.2 d hd).1, hits_false h.1.2, fun d hd => (hits_false h.2 d hd).1⟩
      have look : ∀ {α : Type} (get : AS → Nat → α) (wr : Eff → Nat → Option α) (hget : ∀ S e s, get (S.app e) s = (wr e s).getD (get S s)) (rk : Ac → List Nat) (wk : Eff → List Nat)
          (hk : ∀ e s, wr e s ≠ none → s ∈ wk e) (c1 : ∀ x y : Ac, x.clash y = false → (∀ d ∈ wk x.e, d ∉ rk y) ∧ (∀ d ∈ wk y.e, d ∉ rk x)), ∀ s ∈ rk acts[i],
          get (ov S (effOf acts) (fun m => listed.getD m false) ops.size) s = get (ov S (effOf acts) (fun _ => true) i) s := by
        intro α get wr hget rk wk hk c1 s hsr
        rw [ov_skip get wr hget S (effOf acts) _ s i ops.size (by omega)]
        · refine ov_agree get wr hget S (effOf acts) _ _ s i fun m hm hw => ?_
          cases hlm : listed.getD m false with
          | true => rfl
          | false =>
            have := (c1 _ _ (earlier m hm hlm)).1 s (by rw [effk]; exact hk _ _ hw)
            exact absurd hsr this
        · intro m hm1 hm2 hlm
          cases hw : wr (effOf acts m) s with
          | none => rfl
          | some x =>
            exfalso
            rcases Nat.lt_or_ge i m with h | h
            · have := (c1 _ _ (later m h hlm)).2 s (by rw [effk]; exact hk _ _ (by rw [hw]; simp))
              exact this hsr
            · obtain rfl : m = i := by omega
              simp only [hli'] at hlm
              exact absurd hlm (by simp)
      refine hT i ops[i] acts[i] ho hx (ov S (effOf acts) (fun m => listed.getD m false) ops.size) (by rw [ov_n, ov_n]) ?_ ?_ ?_ i a w _ Q ho hh ?_
      · exact look AS.t wT AS.app_t Ac.rs Eff.ks (fun _ _ h => wT_key h) (fun x y h => ⟨fun d hd => ((noclash h).1 d hd).1, (noclash h).2.1⟩)
      · exact look AS.b (fun e => lastB e.bx) AS.app_b Ac.rb Eff.kb (fun _ _ h => lastB_key h) (fun x y h => ⟨fun d hd => ((noclash h).2.2.1 d hd).1, (noclash h).2.2.2.1⟩)
      · exact look AS.r (fun e => lastR e.rw) AS.app_r Ac.rr Eff.kr (fun _ _ h => lastR_key h) (fun x y h => ⟨fun d hd => ((noclash h).2.2.2.2.1 d hd).1, (noclash h).2.2.2.2.2⟩)
      · intro a' w' hh'
        refine ih (listed.setIfInBounds i true) a' w' (by simp [hs]) ?_ hD' ?_
        · have := unl_lt hi hs hli
          omega
        · -- the listed ones and i: the same as i behind them
          have heq : ov S (effOf acts) (fun m => (listed.setIfInBounds i true).getD m false) ops.size = (ov S (effOf acts) (fun m => listed.getD m false) ops.size).app acts[i].e := by
            have hsm : ∀ k, k ≤ i → ov S (effOf acts) (fun m => (listed.setIfInBounds i true).getD m false) k = ov S (effOf acts) (fun m => listed.getD m false) k := fun k hk =>
              ov_congr S (effOf acts) k (fun m hm => by rw [hget, if_neg (by omega)])
            have step : ∀ k, i < k → k ≤ ops.size → ov S (effOf acts) (fun m => (listed.setIfInBounds i true).getD m false) k = (ov S (effOf acts) (fun m => listed.getD m false) k).app acts[i].e := by
              intro k hk hkn
              induction k with
              | zero => omega
              | succ k ihk =>
                by_cases hki : k = i
                · subst hki
                  show (if (listed.setIfInBounds k true).getD k false then _ else _) = AS.app (if listed.getD k false then _ else _) _
                  rw [hget, if_pos rfl, if_pos rfl, hli', hsm k (Nat.le_refl _), effi]
                  rfl
                · have ih2 := ihk (by omega) (by omega)
                  show (if (listed.setIfInBounds i true).getD k false then (ov S (effOf acts) (fun m => (listed.setIfInBounds i true).getD m false) k).app (effOf acts k) else ov S (effOf acts) (fun m => (listed.setIfInBounds i true).getD m false) k) = AS.app (if listed.getD k false then (ov S (effOf acts) (fun m => listed.getD m false) k).app (effOf acts k) else ov S (effOf acts) (fun m => listed.getD m false) k) _
                  rw [hget, if_neg hki, ih2]
                  cases hlk : listed.getD k false with
                  | false => rfl
                  | true =>
                    rw [if_pos rfl, if_pos rfl]
                    have hc := noclash (later k (by omega) hlk)
                    rw [effk] at hc
                    have two : ∀ {α : Type} (get : AS → Nat → α) (wr : Eff → Nat → Option α) (hget : ∀ S e s, get (S.app e) s = (wr e s).getD (get S s)) (wk : Eff → List Nat) (hk : ∀ e s, wr e s ≠ none → s ∈ wk e)
                        (c1 : ∀ d ∈ wk acts[i].e, d ∉ wk (effOf acts k)) (T : AS) (s : Nat), get ((T.app acts[i].e).app (effOf acts k)) s = get ((T.app (effOf acts k)).app acts[i].e) s := by
                      intro α get wr hget wk hk c1 T s
                      rw [hget, hget, hget, hget]
                      cases h1 : wr acts[i].e s with
                      | none => rfl
                      | some x =>
                        cases h2 : wr (effOf acts k) s with
                        | none => rfl
                        | some y => exact absurd (hk _ s (by rw [h2]; simp)) (c1 s (hk _ s (by rw [h1]; simp)))
                    refine AS.ext' (by simp [AS.app_n]) (fun s => ?_) (fun s => ?_) (fun s => ?_) (by simp [AS.app_g]) (by simp [AS.app_g])
                    · exact two AS.t wT AS.app_t Eff.ks (fun _ _ h => wT_key h) (fun d hd => (hc.1 d hd).2) _ s
                    · exact two AS.b (fun e => lastB e.bx) AS.app_b Eff.kb (fun _ _ h => lastB_key h) (fun d hd => (hc.2.2.1 d hd).2) _ s
                    · exact two AS.r (fun e => lastR e.rw) AS.app_r Eff.kr (fun _ _ h => lastR_key h) (fun d hd => (hc.2.2.2.2.1 d hd).2) _ s
            exact step ops.size hi (Nat.le_refl _)
          rw [heq]; exact hh'


end drawn

theorem ov_cons (S : AS) (x : Ac) (xs : List Ac) : ∀ i, ov S (effOf (x :: xs)) (fun _ => true) (i + 1) = ov (S.app x.e) (effOf xs) (fun _ => true) i
  | 0 => rfl
  | i + 1 => by
    have ih := ov_cons S x xs i
    show (ov S (effOf (x :: xs)) (fun _ => true) (i + 1)).app (effOf (x :: xs) (i + 1)) = (ov (S.app x.e) (effOf xs) (fun _ => true) i).app (effOf xs i)
    rw [ih]; rfl

theorem runT_list {P : Program} {C : Ctx} {ops : Array Oper} {K : List Ac → AS → Prop} : ∀ (rest : List Oper) (acc : List Ac) (S : AS), RunT P C ops false K rest acc S →
    ∃ xs : List Ac, xs.length = rest.length ∧ (∀ (i : Nat) (o : Oper) (x : Ac), rest[i]? = some o → xs[i]? = some x → OpOk P C ops o x.rs x.rb x.rr (ov S (effOf xs) (fun _ => true) i) x.e) ∧
      K (xs.reverse ++ acc) (ov S (effOf xs) (fun _ => true) rest.length)
  | [], acc, S, h => ⟨[], rfl, by simp, h⟩
  | o :: rest, acc, S, h => by
    rcases h with ⟨rs, rb, rr, e, ho, hr⟩ | ⟨h, _⟩
    case inr => cases h
    obtain ⟨xs, hl, hxs, hK⟩ := runT_list rest _ _ hr
    refine ⟨⟨rs, rb, rr, e⟩ :: xs, by simp [hl], ?_, ?_⟩
    · intro i o' x hi hx
      cases i with
      | zero => simp at hi hx; subst hi; subst hx; exact ho
      | succ i =>
        rw [ov_cons]
        exact hxs i o' x (by simpa using hi) (by simpa using hx)
    · rw [List.length_cons, ov_cons, List.reverse_cons, List.append_assoc]; exact hK

/-- A world that differs in what the state does not speak of. -/
theorem HoldsAt.drew {C : Ctx} {S : AS} {E : Env} {a : Act} {w : World} (h : HoldsAt C S E a w) : HoldsAt C S E a w.drew :=
  ⟨h.wf, h.marks, h.size, h.os, h.tape, h.output, h.grown, h.frame, h.m0, h.mnew, h.inW, h.tm, h.bx, h.inj, h.rx, h.rinj, h.pin, h.pinr, h.olt,
    C.jf _ _ _ _ _ _ _ h.jj (Mem.le_refl _) h.inW (fun _ _ _ e => .inl e) (fun _ _ => rfl) rfl rfl rfl (Nat.le_refl _)⟩

theorem AS.holds.drew {C : Ctx} {S : AS} {a : Act} {w : World} (h : S.holds C a w) : S.holds C a w.drew := by
  obtain ⟨E, h⟩ := h; exact ⟨E, h.drew⟩

/-- A statement whose order is open. -/
theorem ok_region_draw {P : Program} {C : Ctx} {id : Nat} {ops : Array Oper} {S : AS} {Q : Exit → AS → Prop} (hm : P.follows .mixedOrders = true)
    (h : RunT P C ops false (fun acc S => orderOk ops acc.reverse = true ∧ Q .normal S) ops.toList [] S) : Ok P C (.region id ops true) S Q := fun a w hs => by
  obtain ⟨xs, hl, hxs, hord, hq⟩ := runT_list _ _ _ h
  rw [List.append_nil, List.reverse_reverse] at hord
  refine wpIn_region_any hm ?_
  refine wpAnyIn_every (acts := xs) (S := S) (fun i o x ho hx => hxs i o x (by simpa using ho) hx) hord (fun a w hh => ⟨_, hq, by simpa using hh⟩) ops.size _ a _ (by simp) ?_ ?_ ?_
  · have := List.length_filter_le (fun i => !(Array.replicate ops.size false).getD i true) (List.range ops.size)
    simpa [unl] using this
  · intro j o _ hj
    exfalso
    simp only [Array.getD_eq_getD_getElem?, Array.getElem?_replicate] at hj
    split at hj <;> simp at hj
  · rw [ov_congr S (effOf xs) (L' := fun _ => false) ops.size (fun i hi => by rw [Array.getD_eq_getD_getElem?, Array.getElem?_replicate, if_pos hi]; rfl)]
    have : ∀ k, ov S (effOf xs) (fun _ => false) k = S := by
      intro k; induction k with
      | zero => rfl
      | succ k ih => simpa [ov] using ih
    rw [this]
    exact hs.drew

/- CONTROL -/
def AThen (next : AS → Prop) (Q : Exit → AS → Prop) : Exit → AS → Prop
  | .normal, S => next S
  | e, S => Q e S
def AInB (id : Nat) (Q : Exit → AS → Prop) : Exit → AS → Prop
  | .exit id', S => if id' = id then Q .normal S else Q (.exit id') S
  | e, S => Q e S

section control
variable {P : Program} {C : Ctx} {S : AS} {Q : Exit → AS → Prop}

theorem AThen.n {next : AS → Prop} (h : next S) : AThen next Q .normal S := h
theorem AThen.r {next : AS → Prop} (h : Q .ret S) : AThen next Q .ret S := h
theorem AThen.x {next : AS → Prop} {id : Nat} (h : Q (.exit id) S) : AThen next Q (.exit id) S := h
theorem AInB.n {id : Nat} (h : Q .normal S) : AInB id Q .normal S := h
theorem AInB.r {id : Nat} (h : Q .ret S) : AInB id Q .ret S := h
theorem AInB.x {id : Nat} (h : Q .normal S) : AInB id Q (.exit id) S := by simp only [AInB, if_true]; exact h
theorem AInB.y {id id' : Nat} (hne : id' ≠ id) (h : Q (.exit id') S) : AInB id Q (.exit id') S := by simp only [AInB, if_neg hne]; exact h

theorem ok_mono {c : Code} {Q' : Exit → AS → Prop} (h : Ok P C c S Q) (hq : ∀ e S, Q e S → Q' e S) : Ok P C c S Q' := fun a w hs =>
  wpIn_mono (h a w hs) fun _ _ _ ⟨S', q, hh⟩ => ⟨S', hq _ _ q, hh⟩

theorem ok_seq {x y : Code} (h : Ok P C x S (AThen (fun S' => Ok P C y S' Q) Q)) : Ok P C (.seq x y) S Q := fun a w hs => by
  refine wpIn_seq (wpIn_mono (h a w hs) ?_)
  rintro e a' w' ⟨S', q, hh⟩
  cases e <;> first | exact q a' w' hh | exact ⟨S', q, hh⟩

theorem ok_skip (h : Q .normal S) : Ok P C .skip S Q := fun _ _ hs => wpIn_skip ⟨S, h, hs⟩
theorem ok_ret (h : Q .ret S) : Ok P C .ret S Q := fun _ _ hs => wpIn_ret ⟨S, h, hs⟩
theorem ok_exit {id : Nat} (h : Q (.exit id) S) : Ok P C (.exit id) S Q := fun _ _ hs => wpIn_exit ⟨S, h, hs⟩

theorem ok_cond {c : Operand} {x y : Code} {t : Bool} (hc : S.ev c = .sv (.v (.bool t))) (ht : t = true → Ok P C x S Q) (hf : t = false → Ok P C y S Q) : Ok P C (.cond c x y) S Q := fun a w hs => by
  obtain ⟨E, h⟩ := hs
  have he : a.eval c = .bool t := by have := h.ev c; rw [hc] at this; exact this
  exact wpIn_cond_split he (fun e => ht e a w ⟨E, h⟩) (fun e => hf e a w ⟨E, h⟩)
theorem ok_condT {c : Operand} {x y : Code} (hc : S.ev c = .sv (.v (.bool true))) (ht : Ok P C x S Q) : Ok P C (.cond c x y) S Q := ok_cond hc (fun _ => ht) (fun h => by cases h)
theorem ok_condF {c : Operand} {x y : Code} (hc : S.ev c = .sv (.v (.bool false))) (hf : Ok P C y S Q) : Ok P C (.cond c x y) S Q := ok_cond hc (fun h => by cases h) (fun _ => hf)

theorem ok_block {id : Nat} {c : Code} (h : Ok P C c S (AInB id Q)) : Ok P C (.block id c) S Q := fun a w hs => by
  refine wpIn_block (wpIn_mono (h a w hs) ?_)
  rintro e a' w' ⟨S', q, hh⟩
  cases e with
  | exit id' =>
    simp only [AInB, Exit.inBlock] at *
    split at q <;> rename_i hid
    · rw [if_pos hid]; exact ⟨S', q, hh⟩
    · rw [if_neg hid]; exact ⟨S', q, hh⟩
  | _ => exact ⟨S', q, hh⟩

def Weak (S S' : AS) : Prop := ∀ (C : Ctx) (a : Act) (w : World), S.holds C a w → S'.holds C a w

theorem ok_weak {c : Code} {S' : AS} (hw : Weak S S') (h : Ok P C c S' Q) : Ok P C c S Q := fun a w hs => h a w (hw C a w hs)

theorem wpIn_loop_ghost {F : Fence} {n : Nat} {Q : Exit → Act → World → Prop} {a : Act} {w : World} {c : Code} (I : Nat → Act → World → Prop) (n₀ : Nat) (h₀ : I n₀ a w)
    (round : ∀ m a w, I m a w → c.wpIn F n P (Exit.then (fun a' w' => ∃ m', m' < m ∧ I m' a' w') Q) a w) : (Code.loop c).wpIn F n P Q a w := by
  refine wpIn_loop (fun a w => ∃ n, I n a w) (fun a w => leastOf (fun n => I n a w)) ⟨n₀, h₀⟩ ?_
  intro a w hI
  refine wpIn_mono (round _ a w (leastOf_spec hI).1) ?_
  intro e a' w' hq
  cases e with
  | normal =>
    obtain ⟨n', hlt, hI'⟩ := hq
    exact show (∃ n, I n a' w') ∧ leastOf (fun n => I n a' w') < leastOf (fun n => I n a w) from ⟨⟨n', hI'⟩, Nat.lt_of_le_of_lt ((leastOf_spec ⟨n', hI'⟩).2 n' hI') hlt⟩
  | _ => exact hq

theorem ok_loop {ι : Type} {c : Code} (I : ι → AS) (μ : ι → Nat) (x0 : ι) (h0 : Weak S (I x0))
    (round : ∀ x, Ok P C c (I x) (AThen (fun S' => ∃ y, μ y < μ x ∧ Weak S' (I y)) Q)) : Ok P C (.loop c) S Q := fun a w hs => by
  refine wpIn_loop_ghost (fun n a w => ∃ x, μ x = n ∧ (I x).holds C a w) (μ x0) ⟨x0, rfl, h0 C a w hs⟩ ?_
  rintro n a w ⟨x, rfl, hx⟩
  refine wpIn_mono (round x a w hx) ?_
  rintro e a' w' ⟨S', q, hh⟩
  cases e with
  | normal => obtain ⟨y, hy, hwk⟩ := q; exact ⟨μ y, hy, y, rfl, hwk C a' w' hh⟩
  | _ => exact ⟨S', q, hh⟩
end control
end Go.Fw
