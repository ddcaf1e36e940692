/- Calls that are lent a row or a box, and calls that hand back new memory. Over any program. -/
import Derived.Test.YtgkafblpckcekaaFwIdx
namespace Go.Fw
open Go.RowKit

/-- A call out of its body followed from a state to its results. -/
theorem calls_of_ok {P : Program} {f : FuncId} {fn : Func} {code : Code} {C : Ctx} {S : AS} {E0 : Env} (hro : C.ro = none) (hf : P.funcs[f]? = some fn) (hb : fn.body = some code) {vs : List Value} {w : World}
    (h0 : HoldsAt C S E0 { tmps := ⟨vs⟩ ++ Array.replicate (fn.ntmps - (⟨vs⟩ : Array Value).size) undef, defers := [] } w) {Q : AS → Prop} {R : Ending → World → Prop}
    (h : Ok P C code S (fun e S' => (e = .normal ∨ e = .ret) ∧ Q S'))
    (hR : ∀ S' E a w', Q S' → HoldsAt C S' E a w' → ∃ v, (results fn a.tmps).run P w' = .ok v w' ∧ R (.returned v) w') : Calls P f ⟨vs⟩ w R := by
  refine (callsIn_wide (n := 0)).1 (callsIn_of_wp_marks (F := Fence.wide) hf hb trivial ?_)
  have h1 := h _ w ⟨_, h0⟩
  rw [hro] at h1
  refine wpIn_mono h1 ?_
  rintro e a' w' ⟨S', ⟨he, hq⟩, E, hh⟩
  have key : LeavesInM Fence.wide 0 P fn a'.tmps R a'.defers .returning w' := by
    obtain ⟨ds, h1, h2, h3⟩ := hh.marks
    rw [h1]
    refine leaves_marks ds w' h2 (fun r hr => (h3 r hr).2.2) (fun w2 g1 g2 g3 g4 g5 => ?_)
    exact hR S' E { a' with defers := [] } w2 hq (hh.unmarked h3 g1 g2 g3 g4 g5)
  rcases he with rfl | rfl
  · exact key
  · exact key

/-- One result. -/
inductive ResA (P : Program) (S : AS) : List ResultVar → AV → Prop
  | tmp {t : Nat} {x : AV} (h : S.t t = x) : ResA P S [.tmp t] x
  | one {t : Nat} {T : TypeId} {i : Nat} {B : Box} {x : AV} [tV : TyV P T] (h : S.t t = .ptr i 0) (hB : S.b i = some B) (hs : B.cells = [x]) : ResA P S [.cell t T] x
  | sv {rs : List ResultVar} {r : SV} (h : Res P S rs r) : ResA P S rs (.sv r)

theorem ResA.run {P : Program} {C : Ctx} {S : AS} {E : Env} {a : Act} {w : World} (h : HoldsAt C S E a w) {fn : Func} {x : AV} (hr : ResA P S fn.results.toList x) : ∃ v, (results fn a.tmps).run P w = .ok v w ∧ x.holds E v := by
  generalize hl : fn.results.toList = l at hr
  cases hr with
  | sv hs =>
    obtain ⟨ss, hss, himp⟩ := hs
    rw [← hl] at hss
    obtain ⟨v, hv, hx⟩ := res_run h hss
    exact ⟨v, hv, himp _ _ hx⟩
  | @tmp t x ht =>
    have hfr : fn.results = #[.tmp t] := by rw [← Array.toArray_toList (xs := fn.results), hl]
    refine ⟨_, ?_, ht ▸ h.tm _⟩
    simp [results, hfr]
  | @one t T i B x tV ht hB hs =>
    have hfr : fn.results = #[.cell t T] := by rw [← Array.toArray_toList (xs := fn.results), hl]
    obtain ⟨_, _, _, vs, hv, hall⟩ := h.bx i B hB
    rw [hs] at hall
    have h1 : a.tmps.getD t undef = .pointer (some ⟨E.β i, 0, none⟩) := by have := h.tm t; rw [ht] at this; exact this
    cases vs with
    | nil => exact hall.elim
    | cons u us =>
      cases us with
      | cons _ _ => exact hall.2.elim
      | nil =>
        refine ⟨u, ?_, hall.1⟩
        have hcc : w.cell? ⟨E.β i, 0, none⟩ = some u := by simp [World.cell?, hv]
        rw [Array.getD_eq_getD_getElem?] at h1
        simp [results, hfr, h1, asAddr, loadVar, tV.isAgg, hcc]

/- STATES AT THE START -/
def argA : List AV → Nat → AV
  | [], _ => .sv .any
  | s :: _, 0 => s
  | _ :: l, n + 1 => argA l n
def AS.ini (n : Nat) (args : List AV) (bs : List (Nat × Box)) (rs : List (Nat × Row)) : AS :=
  ⟨n, argA args, lkB bs, fun i => match lkR rs i with | some R => .live R | none => .un, 0, true⟩
theorem argA_mem : ∀ {l : List AV} {k : Nat}, argA l k = .sv .any ∨ argA l k ∈ l
  | [], _ => .inl rfl
  | s :: _, 0 => .inr (by simp [argA])
  | _ :: l, n + 1 => by
    rcases argA_mem (l := l) (k := n) with h | h
    · exact .inl h
    · exact .inr (List.mem_cons_of_mem _ h)
theorem argA_holds {E : Env} : ∀ {args : List AV} {vs : List Value} {k : Nat} (rest : List Value), AllV E args vs → (argA args k).holds E ((vs ++ rest)[k]?.getD undef)
  | [], [], _, _, _ => trivial
  | s :: args, v :: vs, 0, _, h => h.1
  | s :: args, v :: vs, k + 1, rest, h => by
    have := argA_holds (E := E) (k := k) rest (show AllV E args vs from h.2)
    simpa [argA] using this
  | [], _ :: _, _, _, h => h.elim
  | _ :: _, [], _, _, h => h.elim
theorem ini_tm {E : Env} {n : Nat} {args : List AV} {vs : List Value} (h : AllV E args vs) (s : Nat) : (argA args s).holds E ((⟨vs⟩ ++ Array.replicate (n - (⟨vs⟩ : Array Value).size) undef : Array Value).getD s undef) := by
  have := argA_holds (E := E) (k := s) (List.replicate (n - vs.length) undef) h
  rw [Array.getD_eq_getD_getElem?]
  simpa [List.getElem?_toArray, Array.getElem?_append, List.getElem?_append, List.getElem?_replicate, Array.getElem?_replicate] using this

/- A ROW THAT IS LENT: inside the call it bears the number 1000. -/
def AV.rowy : AV → Bool
  | .sv _ => true
  | .row i => Nat.beq i 1000
  | .rptr i _ => Nat.beq i 1000
  | .rsl i _ _ => Nat.beq i 1000
  | _ => false
def AV.ren (j : Nat) : AV → AV
  | .row _ => .row j
  | .rptr _ k => .rptr j k
  | .rsl _ o l => .rsl j o l
  | x => x
def lentEnv (M : Mem) (v : Value) : Env := ⟨fun _ => 0, fun _ => v, fun _ => False, M⟩
theorem ren_holds {E : Env} {j : Nat} {x : AV} {v : Value} (hx : x.rowy = true) : (x.ren j).holds E v ↔ x.holds (lentEnv E.M (E.ν j)) v := by
  cases x <;> first | exact Iff.rfl | cases hx
theorem ren_all {E : Env} {j : Nat} : ∀ {l : List AV} {vs : List Value}, (l.all AV.rowy) = true → AllV E (l.map (AV.ren j)) vs → AllV (lentEnv E.M (E.ν j)) l vs
  | [], [], _, _ => trivial
  | x :: l, v :: vs, h, hv => by
    rw [List.all_cons, Bool.and_eq_true] at h
    exact ⟨(ren_holds h.1).1 hv.1, ren_all h.2 hv.2⟩
  | [], _ :: _, _, h => h.elim
  | _ :: _, [], _, h => h.elim

/-- The row's cells may change; what is handed back may be a slice of it. -/
def RowC (P : Program) (f : FuncId) (args : List AV) (R : Row) (res : AV) (cells : List SV) : Prop :=
  ∀ (M : Mem) (w : World) (v0 : Value) (vs us : List Value), M.inW w → w.ownsRow 0 R.E R.sz v0 R.n us → SV.All M R.cells us → (∀ g, v0.ownBlock = some g → ∀ o, M g o = none) → AllV (lentEnv M v0) args vs →
    Calls P f ⟨vs⟩ w fun e w' => ∃ v M' us', e = .returned v ∧ M.le M' ∧ (∀ b o x, M' b o = some x → M b o = some x ∨ w.heap.size ≤ b) ∧ M'.inW w' ∧ res.holds (lentEnv M' v0) v ∧
      w'.ownsRow 0 R.E R.sz v0 R.n us' ∧ SV.All M' cells us' ∧ w.grownBy w' v0.ownBlock

theorem hpr_1000 {i : Nat} {v v0 : Value} (h : (bif Nat.beq i 1000 then some v0 else none) = some v) : 1000 ≤ i := by
  cases e : Nat.beq i 1000 with
  | false => rw [e] at h; cases h
  | true => have := Nat.eq_of_beq_eq_true e; omega
def ctxR (w : World) (M : Mem) (v0 : Value) : Ctx := { w0 := w, M0 := M, own := fun k => v0.ownBlock = some k, bor := fun k => v0.ownBlock = some k, pin := fun _ => none, pinr := fun i => bif Nat.beq i 1000 then some v0 else none, ro := none, J := fun _ _ _ _ _ => True, hbo := fun _ h => h, hpr := fun _ _ h => hpr_1000 h, jf := fun _ _ _ _ _ _ _ _ _ _ _ _ _ _ _ _ => trivial }

theorem ini_row {n : Nat} {args : List AV} {R : Row} {M : Mem} {w : World} {v0 : Value} {vs us : List Value} (hM : M.inW w) (ho : w.ownsRow 0 R.E R.sz v0 R.n us) (hc : SV.All M R.cells us) (hm : ∀ g, v0.ownBlock = some g → ∀ o, M g o = none) (hv : AllV (lentEnv M v0) args vs)
    (hrow : args.all AV.rowy = true) (hn : args.length ≤ n) : HoldsAt (ctxR w M v0) (AS.ini n args [] [(1000, R)]) (lentEnv M v0) { tmps := ⟨vs⟩ ++ Array.replicate (n - (⟨vs⟩ : Array Value).size) undef, defers := [] } w := by
  have hl := hv.length
  have rowyArg : ∀ s, (argA args s).rowy = true := fun s => by
    rcases argA_mem (l := args) (k := s) with e | e
    · rw [e]; rfl
    · exact List.all_eq_true.1 hrow _ e
  have live : ∀ j R', (AS.ini n args [] [(1000, R)]).r j = .live R' → j = 1000 ∧ R' = R := by
    intro j R' h
    simp only [AS.ini, lkR] at h
    cases e : Nat.beq j 1000 with
    | false =>
      simp [beq_ne (fun h => by subst h; simp at e : j ≠ 1000)] at h
    | true =>
      have := Nat.eq_of_beq_eq_true e
      subst this
      simp at h
      exact ⟨rfl, h.symm⟩
  exact {
    wf := by
      refine ⟨fun s j hj => ?_, fun s j hj => ?_, fun i B e => (by cases e), fun i B e => (by cases e)⟩
      · have := rowyArg s
        revert hj this
        show (argA args s).mb j → _
        cases argA args s <;> intro hj hr <;> first | exact hj.elim | cases hr
      · have := rowyArg s
        have hj' : j = 1000 := by
          revert hj this
          show (argA args s).mr j → _
          cases argA args s <;> intro hj hr <;> first | exact hj.elim | (cases hj; exact Nat.eq_of_beq_eq_true hr)
        subst hj'
        show (match lkR [(1000, R)] 1000 with | some R => RSt.live R | none => .un) ≠ .un
        simp [lkR]
    marks := ⟨[], rfl, List.nodup_nil, by simp⟩
    size := by simp [AS.ini]; omega
    os := rfl
    tape := rfl
    output := rfl
    grown := Nat.le_refl _
    frame := fun _ _ _ => rfl
    m0 := Mem.le_refl _
    mnew := fun _ _ _ e => .inl e
    inW := hM
    tm := fun s => ini_tm hv s
    bx := fun i B e => by cases e
    inj := fun i j B B' e => by cases e
    rx := fun i R' h => by
      obtain ⟨rfl, rfl⟩ := live i R' h
      exact ⟨⟨us, ho, hc⟩, fun g hg => ⟨.inr hg, hm g hg, fun h => h, fun j B e => by cases e⟩⟩
    rinj := fun i j R1 R2 hi hj _ _ _ => by rw [(live i R1 hi).1, (live j R2 hj).1]
    pin := fun i b e => by cases e
    pinr := fun i v e => by
      simp only [ctxR] at e
      cases h : Nat.beq i 1000 with
      | false => rw [h] at e; cases e
      | true => rw [h] at e; cases e; rfl
    olt := fun b e => e.elim
    jj := trivial }

theorem rowC_of_ok {P : Program} {f : FuncId} {fn : Func} {code : Code} {args : List AV} {R : Row} {res : AV} {cells : List SV} (hf : P.funcs[f]? = some fn) (hb : fn.body = some code) (hn : args.length ≤ fn.ntmps) (hrow : args.all AV.rowy = true) (hres : res.rowy = true)
    (h : ∀ (w : World) (M : Mem) (v0 : Value), Ok P (ctxR w M v0) code (AS.ini fn.ntmps args [] [(1000, R)]) (fun e S => (e = .normal ∨ e = .ret) ∧ ResA P S fn.results.toList res ∧ S.r 1000 = .live ⟨R.E, R.sz, R.n, cells⟩)) : RowC P f args R res cells := by
  intro M w v0 vs us hM ho hc hm hv
  refine calls_of_ok rfl hf hb (ini_row hM ho hc hm hv hrow hn) (h w M v0) ?_
  rintro S' E a w' ⟨hr, hR⟩ hh
  obtain ⟨v, hv, hx⟩ := hr.run hh
  have hν : E.ν 1000 = v0 := hh.pinr 1000 v0 rfl
  obtain ⟨⟨us', q1, q2⟩, q3⟩ := hh.rx 1000 _ hR
  rw [hν] at q1 q3
  refine ⟨v, hv, v, E.M, us', rfl, hh.m0, fun b o x e => ?_, hh.inW, ?_, q1, q2, hh.os, hh.tape, hh.output, hh.grown, fun k hk hne => hh.frame k hk (fun e => hne e.symm)⟩
  · rcases hh.mnew b o x e with e' | e' | e'
    · exact .inl e'
    · exact .inr e'
    · rw [(q3 b e').2.1 o] at e; cases e
  · have : res.ren 1000 = res := by
      cases res <;> first | rfl | (simp only [AV.ren, AV.row.injEq, AV.rptr.injEq, AV.rsl.injEq]; have := Nat.eq_of_beq_eq_true hres; simp [this])
    rw [← hν]
    rw [← this] at hx
    exact (ren_holds hres).1 hx

/-- A block put back as it lay. -/
def restore (w w' : World) (g : Nat) : World := match w.heap[g]? with | some o => { w' with heap := w'.heap.setIfInBounds g o } | none => w'
theorem restore_at {w w' : World} {g : Nat} {o : Obj} (h : w.heap[g]? = some o) (hs : w.heap.size ≤ w'.heap.size) : (restore w w' g).heap[g]? = some o := by
  have h1 := (Array.getElem?_eq_some_iff.1 h).1
  have h2 : g < w'.heap.size := Nat.lt_of_lt_of_le h1 hs
  simp [restore, h, h2]
theorem restore_other {w w' : World} {g k : Nat} (hk : k ≠ g) : (restore w w' g).heap[k]? = w'.heap[k]? := by
  unfold restore
  split
  · simp only [Array.getElem?_setIfInBounds]; rw [if_neg (Ne.symm hk)]
  · rfl
theorem restore_rest {w w' : World} {g : Nat} : (restore w w' g).os = w'.os ∧ (restore w w' g).tape = w'.tape ∧ (restore w w' g).output = w'.output ∧ (restore w w' g).heap.size = w'.heap.size := by
  unfold restore
  split
  · exact ⟨rfl, rfl, rfl, by simp⟩
  · exact ⟨rfl, rfl, rfl, rfl⟩
theorem restore_below {w w' : World} {g : Nat} (hg : w.grownBy w' (some g)) (hlt : g < w.heap.size) : Below w.heap.size w (restore w w' g) := by
  obtain ⟨h1, h2, h3, h4⟩ := restore_rest (w := w) (w' := w') (g := g)
  refine ⟨h1.trans hg.os, h2.trans hg.tape, h3.trans hg.output, by rw [h4]; exact hg.size, fun k hk => ?_⟩
  by_cases e : k = g
  · subst e
    rw [restore_at (Array.getElem?_eq_getElem hlt) hg.size, Array.getElem?_eq_getElem hlt]
  · rw [restore_other e]; exact hg.block k hk (by simp [e])

section steps
variable {P : Program} {C : Ctx} {ops : Array Oper} {S : AS} {nd : Bool} {K : List Ac → AS → Prop} {rest : List Oper} {acc : List Ac}
variable {gd : Option (Nat × Bool)} {rg : List Nat} {d : Nat} {ty : TypeId} {pos : String} {aft : Array Edge} {x y z : Operand} {T U E0 : TypeId}

theorem AS.setR_self {i : Nat} {R : RSt} (h : S.r i = R) : S.setR i R = S := by
  refine AS.ext' rfl (fun _ => rfl) (fun _ => rfl) (fun s => ?_) rfl rfl
  by_cases e : s = i
  · subst e; rw [AS.setR_same, h]
  · rw [AS.setR_other _ _ _ _ e]

theorem below_of_none {w w' : World} (h : w.grownBy w' none) : Below w.heap.size w w' := ⟨h.os, h.tape, h.output, h.size, fun k hk => h.block k hk (by simp)⟩

theorem HoldsAt.lentRow {E : Env} {a : Act} {w w' : World} (h : HoldsAt C S E a w) {i : Nat} {R : Row} (hR : S.r i = .live R) {M' : Mem} {cells : List SV} {us : List Value}
    (hM : E.M.le M') (hn : ∀ b o x, M' b o = some x → E.M b o = some x ∨ w.heap.size ≤ b) (hin : M'.inW w') (ho : w'.ownsRow 0 R.E R.sz (E.ν i) R.n us) (hc : SV.All M' cells us) (hg : w.grownBy w' (E.ν i).ownBlock) :
    HoldsAt C (S.setR i (.live ⟨R.E, R.sz, R.n, cells⟩)) { E with M := M' } a w' := by
  obtain ⟨⟨vs, q1, q2⟩, q3⟩ := h.rx i R hR
  cases hb : (E.ν i).ownBlock with
  | none =>
    rw [hb] at hg
    have hz : R.n = 0 := by
      rcases q1.2 with ⟨_, h2⟩ | ⟨g, cap, cur, h1, _⟩
      · exact h2
      · rw [h1] at hb; cases hb
    have e1 : us = [] := List.length_eq_zero_iff.1 (by have := ho.1; rw [hz] at this; simpa using this)
    have e2 : vs = [] := List.length_eq_zero_iff.1 (by have := q1.1; rw [hz] at this; simpa using this)
    have e3 : cells = [] := List.length_eq_zero_iff.1 (by have := hc.length; rw [e1] at this; simpa using this)
    have e4 : R.cells = [] := List.length_eq_zero_iff.1 (by have := q2.length; rw [e2] at this; simpa using this)
    have : S.setR i (.live ⟨R.E, R.sz, R.n, cells⟩) = S := AS.setR_self (by rw [hR, e3, ← e4])
    rw [this]
    exact h.grow hM hn hin (below_of_none hg)
  | some g =>
    rw [hb] at hg
    have hlt := row_lt h hR hb
    have hnone : ∀ o, M' g o = none := fun o => by
      cases e : M' g o with
      | none => rfl
      | some v =>
        rcases hn _ _ _ e with e' | e'
        · rw [(q3 g hb).2.1 o] at e'; cases e'
        · omega
    have hin1 : M'.inW (restore w w' g) := inW_of_same hin fun b ⟨o, v, e⟩ => restore_other (by rintro rfl; rw [hnone o] at e; cases e)
    have h1 := h.grow hM hn hin1 (restore_below hg hlt)
    obtain ⟨r1, r2, r3, r4⟩ := restore_rest (w := w) (w' := w') (g := g)
    refine h1.putRow (R := R) hR hb ?_ r1.symm r2.symm r3.symm r4.symm (fun k hk => (restore_other hk).symm) ho hc
    rcases q1.2 with ⟨h2, _⟩ | ⟨g', cap, cur, h2, _, h3, _⟩
    · rw [h2] at hb; cases hb
    · rw [h2] at hb; cases hb; exact ⟨_, _, restore_at h3 hg.size⟩

/-- The operands of a call, against what they are to be. -/
inductive Args (S : AS) : List Operand → List AV → Prop
  | nil : Args S [] []
  | cons {x : Operand} {xs : List Operand} {s : AV} {ss : List AV} (h : S.ev x = s) (r : Args S xs ss) : Args S (x :: xs) (s :: ss)
theorem Args.vals {E : Env} {a : Act} {w : World} {S' : AS} (h : HoldsAt C S' E a w) {xs : List Operand} {ss : List AV} (hs : Args S xs ss) (ht : ∀ s ∈ xs.flatMap okeys, S'.t s = S.t s) : AllV E ss (xs.map a.eval) := by
  induction hs with
  | nil => trivial
  | @cons x xs s ss h1 _ ih =>
    have h2 := h.ev x
    rw [ev_congr (fun t h => List.mem_flatMap.2 ⟨x, by simp, h⟩) ht, h1] at h2
    refine ⟨h2, ih (fun t h => ht t ?_)⟩
    rw [List.flatMap_cons]; exact List.mem_append_right _ h

theorem run_call {f : FuncId} [Ent P f] {o : Option Nat} {g : Operand} {xs : Array Operand} {at_ : Array TypeId} {a : Act} {w : World} {caps : List Value} (hgf : a.eval g = .func (.func f) #[] ⟨caps⟩) :
    (execOp a.eval ⟨o, .call ⟨.value g, xs, at_⟩, ty, pos, aft, gd⟩).run P w = .ok (.enter f ⟨xs.toList.map a.eval ++ caps⟩) w := by
  have e2 : xs.map a.eval ++ ⟨caps⟩ = ⟨xs.toList.map a.eval ++ caps⟩ := by apply Array.ext'; simp
  have e1 := Ent.run (P := P) (f := f) (xs.map a.eval ++ ⟨caps⟩) w
  rw [← e2]
  simp [execOp, resolve, hgf, Deferred.ofValue, invoke, e1]

theorem live_ren {S : AS} {i : Nat} {R : Row} {x : AV} (hx : x.rowy = true) (hR : S.r i = .live R) : (∀ j, (x.ren i).mb j → ∃ B, S.b j = some B) ∧ (∀ j, (x.ren i).mr j → S.r j ≠ .un) := by
  cases x <;> first | cases hx | skip
  all_goals refine ⟨fun j e => e.elim, fun j e => ?_⟩
  all_goals first | exact e.elim | (cases e; rw [hR]; simp)

theorem RT.callR (hg : Gd ops S gd rg) {f : FuncId} [Ent P f] {g : Operand} {xs : Array Operand} {at_ : Array TypeId} {args : List AV} {R : Row} {res : AV} {cells : List SV} (hp : RowC P f args R res cells) (i : Nat) (hR : S.r i = .live R) (hrow : args.all AV.rowy = true) (hres : res.rowy = true)
    (hf : S.ev g = .sv (.v (.func (.func f) #[] #[]))) (hargs : Args S xs.toList (args.map (AV.ren i))) (hd : d < S.n)
    (next : RunT P C ops nd K rest (⟨rg ++ (okeys g ++ xs.toList.flatMap okeys), [], [i], ⟨some (d, res.ren i), [], [(i, .live ⟨R.E, R.sz, R.n, cells⟩)]⟩⟩ :: acc) ((AS.setRs [(i, .live ⟨R.E, R.sz, R.n, cells⟩)] S).set d (res.ren i))) : RunT P C ops nd K (⟨some d, .call ⟨.value g, xs, at_⟩, ty, pos, aft, gd⟩ :: rest) acc S := by
  refine .inl ⟨_, [], [i], _, ?_, next⟩
  rintro S' hn ht _ hr k a w L Q ho ⟨E, h⟩ hL
  refine wpOp_of (C := C) ho (hg.wanted h (fun s hs => ht s (List.mem_append_left _ hs)) rfl) ?_
  have hgf : a.eval g = .func (.func f) #[] ⟨[]⟩ := by
    have h1 := h.ev g; rw [ev_congr (fun _ h => List.mem_append_right _ (List.mem_append_left _ h)) ht, hf] at h1; exact h1
  have hall := Args.vals h hargs (fun s hs => ht s (List.mem_append_right _ (List.mem_append_right _ hs)))
  have hR' : S'.r i = .live R := by rw [hr i (by simp)]; exact hR
  obtain ⟨⟨us, q1, q2⟩, q3⟩ := h.rx i R hR'
  refine wpIn_of (C := C) (by intro c h; cases h) (run_call hgf) ?_
  rw [List.append_nil]
  refine ⟨fun h => by simp at h, fr_calls ((hp E.M w (E.ν i) _ us h.inW q1 q2 (fun g hg => (q3 g hg).2.1) (ren_all hrow hall)).mono ?_)⟩
  rintro e w' ⟨v, M', us', rfl, hM, hnew, hin, hv, ho', hc, hgr⟩
  have h1 := h.lentRow hR' hM hnew hin ho' hc hgr
  refine hL _ _ ⟨_, h1.put (x := res.ren i) (v := v) ((ren_holds (E := { E with M := M' }) hres).2 hv) (by show d < S'.n; omega) (live_ren hres (AS.setR_same _ _ _))⟩

theorem RT.callR0 (hg : Gd ops S gd rg) {f : FuncId} [Ent P f] {g : Operand} {xs : Array Operand} {at_ : Array TypeId} {args : List AV} {R : Row} {res : AV} {cells : List SV} (hp : RowC P f args R res cells) (i : Nat) (hR : S.r i = .live R) (hrow : args.all AV.rowy = true)
    (hf : S.ev g = .sv (.v (.func (.func f) #[] #[]))) (hargs : Args S xs.toList (args.map (AV.ren i)))
    (next : RunT P C ops nd K rest (⟨rg ++ (okeys g ++ xs.toList.flatMap okeys), [], [i], ⟨none, [], [(i, .live ⟨R.E, R.sz, R.n, cells⟩)]⟩⟩ :: acc) (AS.setRs [(i, .live ⟨R.E, R.sz, R.n, cells⟩)] S)) : RunT P C ops nd K (⟨none, .call ⟨.value g, xs, at_⟩, ty, pos, aft, gd⟩ :: rest) acc S := by
  refine .inl ⟨_, [], [i], _, ?_, next⟩
  rintro S' hn ht _ hr k a w L Q ho ⟨E, h⟩ hL
  refine wpOp_of (C := C) ho (hg.wanted h (fun s hs => ht s (List.mem_append_left _ hs)) rfl) ?_
  have hgf : a.eval g = .func (.func f) #[] ⟨[]⟩ := by
    have h1 := h.ev g; rw [ev_congr (fun _ h => List.mem_append_right _ (List.mem_append_left _ h)) ht, hf] at h1; exact h1
  have hall := Args.vals h hargs (fun s hs => ht s (List.mem_append_right _ (List.mem_append_right _ hs)))
  have hR' : S'.r i = .live R := by rw [hr i (by simp)]; exact hR
  obtain ⟨⟨us, q1, q2⟩, q3⟩ := h.rx i R hR'
  refine wpIn_of (C := C) (by intro c h; cases h) (run_call hgf) ?_
  rw [List.append_nil]
  refine ⟨fun h => by simp at h, fr_calls ((hp E.M w (E.ν i) _ us h.inW q1 q2 (fun g hg => (q3 g hg).2.1) (ren_all hrow hall)).mono ?_)⟩
  rintro e w' ⟨v, M', us', rfl, hM, hnew, hin, hv, ho', hc, hgr⟩
  exact hL _ _ ⟨_, h.lentRow hR' hM hnew hin ho' hc hgr⟩
end steps
end Go.Fw
