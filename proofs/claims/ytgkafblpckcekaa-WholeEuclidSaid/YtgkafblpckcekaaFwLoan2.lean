/- Calls that hand back a new row, that take a row over, that are lent a box, that hand back a function value with a box of its own. Over any program. -/
import Derived.Test.YtgkafblpckcekaaFwLoan
namespace Go.Fw
open Go.RowKit

/-- A new row is handed back. -/
def NewC (P : Program) (f : FuncId) (args : List SV) (R : Row) : Prop :=
  ∀ (M : Mem) (w : World) (vs : List Value), M.inW w → SV.All M args vs →
    Calls P f ⟨vs⟩ w fun e w' => ∃ v M' us, e = .returned v ∧ M.le M' ∧ (∀ b o x, M' b o = some x → M b o = some x ∨ w.heap.size ≤ b) ∧ M'.inW w' ∧
      w'.ownsRow 0 R.E R.sz v R.n us ∧ SV.All M' R.cells us ∧ (∀ g, v.ownBlock = some g → w.heap.size ≤ g ∧ ∀ o, M' g o = none) ∧ Below w.heap.size w w'

theorem newC_of_ok {P : Program} {f : FuncId} {fn : Func} {code : Code} {args : List SV} {R : Row} (hf : P.funcs[f]? = some fn) (hb : fn.body = some code) (hn : args.length ≤ fn.ntmps)
    (h : ∀ (w : World) (M : Mem) (vs : List Value), SV.All M args vs → Ok P (ctx0 w M) code (AS.init fn.ntmps args) (fun e S => (e = .normal ∨ e = .ret) ∧ ∃ k, ResA P S fn.results.toList (.row k) ∧ S.r k = .live R)) : NewC P f args R := by
  intro M w vs hM hvs
  refine calls_of_ok rfl hf hb (init_holds hM hvs hn) (h w M vs hvs) ?_
  rintro S' E a w' ⟨k, hr, hR⟩ hh
  obtain ⟨v, hv, hx⟩ := hr.run hh
  obtain ⟨⟨us, q1, q2⟩, q3⟩ := hh.rx k R hR
  rw [← show v = E.ν k from hx] at q1 q3
  refine ⟨v, hv, v, E.M, us, rfl, hh.m0, fun b o x e => ?_, hh.inW, q1, q2, fun g hg => ?_, hh.os, hh.tape, hh.output, hh.grown, fun k hk => hh.frame k hk (fun h => h)⟩
  · rcases hh.mnew b o x e with h | h | h
    · exact .inl h
    · exact .inr h
    · exact h.elim
  · obtain ⟨q4, q5, _⟩ := q3 g hg
    exact ⟨q4.elim id (fun h => h.elim), q5⟩

/-- A row is taken over: what is handed back lies in its block or in a new one. -/
def TakeC (P : Program) (f : FuncId) (args : List AV) (R : Row) (E' : TypeId) (sz n : Nat) (cells : List SV) : Prop :=
  ∀ (M : Mem) (w : World) (v0 : Value) (vs us : List Value), M.inW w → w.ownsRow 0 R.E R.sz v0 R.n us → SV.All M R.cells us → (∀ g, v0.ownBlock = some g → ∀ o, M g o = none) → AllV (lentEnv M v0) args vs →
    Calls P f ⟨vs⟩ w fun e w' => ∃ v M' us', e = .returned v ∧ M.le M' ∧ (∀ b o x, M' b o = some x → M b o = some x ∨ w.heap.size ≤ b ∨ v0.ownBlock = some b) ∧ M'.inW w' ∧
      w'.ownsRow 0 E' sz v n us' ∧ SV.All M' cells us' ∧ (∀ g, v.ownBlock = some g → (v0.ownBlock = some g ∨ w.heap.size ≤ g) ∧ ∀ o, M' g o = none) ∧ w.grownBy w' v0.ownBlock

theorem all_v_eq {M : Mem} : ∀ {l us : List Value}, SV.All M (l.map SV.v) us → us = l
  | [], [], _ => rfl
  | _ :: _, _ :: _, h => by rw [show _ = _ from h.1, all_v_eq h.2]
  | [], _ :: _, h => h.elim
  | _ :: _, [], h => h.elim
theorem all_v_self {M : Mem} : ∀ l : List Value, SV.All M (l.map SV.v) l
  | [] => trivial
  | _ :: l => ⟨rfl, all_v_self l⟩

theorem takeC_of_ok {P : Program} {f : FuncId} {fn : Func} {code : Code} {args : List AV} {R : Row} {E' : TypeId} {sz n : Nat} {cells : List SV} (hf : P.funcs[f]? = some fn) (hb : fn.body = some code) (hn : args.length ≤ fn.ntmps) (hrow : args.all AV.rowy = true)
    (h : ∀ (w : World) (M : Mem) (v0 : Value), Ok P (ctxR w M v0) code (AS.ini fn.ntmps args [] [(1000, R)]) (fun e S => (e = .normal ∨ e = .ret) ∧ ∃ k, ResA P S fn.results.toList (.row k) ∧ S.r k = .live ⟨E', sz, n, cells⟩)) : TakeC P f args R E' sz n cells := by
  intro M w v0 vs us hM ho hc hm hv
  refine calls_of_ok rfl hf hb (ini_row hM ho hc hm hv hrow hn) (h w M v0) ?_
  rintro S' E a w' ⟨k, hr, hR⟩ hh
  obtain ⟨v, hv, hx⟩ := hr.run hh
  obtain ⟨⟨us', q1, q2⟩, q3⟩ := hh.rx k _ hR
  rw [← show v = E.ν k from hx] at q1 q3
  refine ⟨v, hv, v, E.M, us', rfl, hh.m0, fun b o x e => hh.mnew b o x e, hh.inW, q1, q2, fun g hg => ?_, hh.os, hh.tape, hh.output, hh.grown, fun k hk hne => hh.frame k hk (fun e => hne e.symm)⟩
  obtain ⟨q4, q5, _⟩ := q3 g hg
  exact ⟨q4.symm, q5⟩

/-- A box is lent, by what a function value has captured: inside the call it bears the number 1000. -/
def BoxC (P : Program) (f : FuncId) (args : List SV) (T : TypeId) (c0 : List SV) (res : SV) (c1 : List SV) : Prop :=
  ∀ (M : Mem) (w : World) (β : Nat) (vs us : List Value), M.inW w → w.heap[β]? = some (.cells ⟨us⟩ T (0, 0)) → SV.All M c0 us → (∀ o, M β o = none) → SV.All M args vs →
    Calls P f ⟨vs ++ [.pointer (some ⟨β, 0, none⟩)]⟩ w fun e w' => ∃ v M' us', e = .returned v ∧ M.le M' ∧ (∀ b o x, M' b o = some x → M b o = some x ∨ w.heap.size ≤ b) ∧ M'.inW w' ∧ res.h M' v ∧
      w'.heap[β]? = some (.cells ⟨us'⟩ T (0, 0)) ∧ SV.All M' c1 us' ∧ w.grownBy w' (some β)

def ctxB (w : World) (M : Mem) (β : Nat) : Ctx := { w0 := w, M0 := M, own := fun k => k = β, bor := fun k => k = β, pin := fun i => bif Nat.beq i 1000 then some β else none, pinr := fun _ => none, ro := none, J := fun _ _ _ _ _ => True, hbo := fun _ h => h, hpr := fun _ _ h => (by cases h), jf := fun _ _ _ _ _ _ _ _ _ _ _ _ _ _ _ _ => trivial }

theorem AllV.append {E : Env} : ∀ {l l' : List AV} {xs ys : List Value}, AllV E l xs → AllV E l' ys → AllV E (l ++ l') (xs ++ ys)
  | [], _, [], _, _, h => h
  | _ :: _, _, _ :: _, _, h, h' => ⟨h.1, AllV.append h.2 h'⟩
  | [], _, _ :: _, _, h, _ => h.elim
  | _ :: _, _, [], _, h, _ => h.elim

theorem all_of_sv {E : Env} : ∀ {l : List SV} {vs : List Value}, AllV E (l.map AV.sv) vs → SV.All E.M l vs
  | [], [], _ => trivial
  | _ :: _, _ :: _, h => ⟨h.1, all_of_sv h.2⟩
  | [], _ :: _, h => h.elim
  | _ :: _, [], h => h.elim

theorem ini_box {n : Nat} {args : List SV} {T : TypeId} {c0 : List SV} {M : Mem} {w : World} {β : Nat} {vs us : List Value} (hM : M.inW w) (hb : w.heap[β]? = some (.cells ⟨us⟩ T (0, 0))) (hc : SV.All M c0 us) (hm : ∀ o, M β o = none) (hv : SV.All M args vs) (hn : args.length + 1 ≤ n) :
    HoldsAt (ctxB w M β) (AS.ini n (args.map AV.sv ++ [.ptr 1000 0]) [(1000, ⟨T, c0.map AV.sv⟩)] []) ⟨fun _ => β, fun _ => .nilIface, fun _ => False, M⟩ { tmps := ⟨vs ++ [.pointer (some ⟨β, 0, none⟩)]⟩ ++ Array.replicate (n - (⟨vs ++ [.pointer (some ⟨β, 0, none⟩)]⟩ : Array Value).size) undef, defers := [] } w := by
  have hl := hv.length
  have hall : AllV ⟨fun _ => β, fun _ => .nilIface, fun _ => False, M⟩ (args.map AV.sv ++ [.ptr 1000 0]) (vs ++ [.pointer (some ⟨β, 0, none⟩)]) := AllV.append (AllV.of_sv hv) ⟨rfl, trivial⟩
  have live : ∀ j B, (AS.ini n (args.map AV.sv ++ [.ptr 1000 0]) [(1000, ⟨T, c0.map AV.sv⟩)] []).b j = some B → j = 1000 ∧ B = ⟨T, c0.map AV.sv⟩ := by
    intro j B h
    have := lkB_mem h
    simpa using this
  have b1000 : (AS.ini n (args.map AV.sv ++ [.ptr 1000 0]) [(1000, ⟨T, c0.map AV.sv⟩)] []).b 1000 = some ⟨T, c0.map AV.sv⟩ := rfl
  have argOk : ∀ s, argA (args.map AV.sv ++ [.ptr 1000 0]) s = .ptr 1000 0 ∨ ∃ t, argA (args.map AV.sv ++ [.ptr 1000 0]) s = .sv t := fun s => by
    rcases argA_mem (l := args.map AV.sv ++ [.ptr 1000 0]) (k := s) with e | e
    · exact .inr ⟨_, e⟩
    · rcases List.mem_append.1 e with e | e
      · obtain ⟨t, _, ht⟩ := List.mem_map.1 e; exact .inr ⟨t, ht.symm⟩
      · exact .inl (by simpa using e)
  exact {
    wf := by
      refine ⟨fun s j hj => ?_, fun s j hj => ?_, fun i B hB x hx j hj => ?_, fun i B hB x hx j hj => ?_⟩
      · rcases argOk s with e | ⟨t, e⟩
        · have hj' : (argA (args.map AV.sv ++ [.ptr 1000 0]) s).mb j := hj
          rw [e] at hj'; cases hj'; exact ⟨_, b1000⟩
        · have hj' : (argA (args.map AV.sv ++ [.ptr 1000 0]) s).mb j := hj
          rw [e] at hj'; exact hj'.elim
      · have hj' : (argA (args.map AV.sv ++ [.ptr 1000 0]) s).mr j := hj
        rcases argOk s with e | ⟨t, e⟩ <;> rw [e] at hj' <;> exact hj'.elim
      · obtain ⟨rfl, rfl⟩ := live i B hB
        exact (all_sv_live (S := AS.ini n (args.map AV.sv ++ [.ptr 1000 0]) [(1000, ⟨T, c0.map AV.sv⟩)] []) x hx).1 j hj
      · obtain ⟨rfl, rfl⟩ := live i B hB
        exact (all_sv_live (S := AS.ini n (args.map AV.sv ++ [.ptr 1000 0]) [(1000, ⟨T, c0.map AV.sv⟩)] []) x hx).2 j hj
    marks := ⟨[], rfl, List.nodup_nil, by simp⟩
    size := by simp [AS.ini]; omega
    os := rfl
    tape := rfl
    output := rfl
    grown := Nat.le_refl _
    frame := fun _ _ _ => rfl
    m0 := Mem.le_refl _
    mnew := fun _ _ _ e => .inl e
    inW := hM
    tm := fun s => ini_tm hall s
    bx := fun i B h => by
      obtain ⟨rfl, rfl⟩ := live i B h
      exact ⟨.inr rfl, hm, fun h => h, us, hb, AllV.of_sv hc⟩
    inj := fun i j B1 B2 hi hj _ => by rw [(live i B1 hi).1, (live j B2 hj).1]
    rx := fun i R e => by cases e
    rinj := fun i j R R' e => by cases e
    pin := fun i b e => by
      simp only [ctxB] at e
      cases h : Nat.beq i 1000 with
      | false => rw [h] at e; cases e
      | true => rw [h] at e; cases e; rfl
    pinr := fun i v e => by cases e
    olt := fun b e => e.elim
    jj := trivial }

theorem boxC_of_ok {P : Program} {f : FuncId} {fn : Func} {code : Code} {args : List SV} {T : TypeId} {c0 c1 : List SV} {res : SV} (hf : P.funcs[f]? = some fn) (hb : fn.body = some code) (hn : args.length + 1 ≤ fn.ntmps)
    (h : ∀ (w : World) (M : Mem) (β : Nat), Ok P (ctxB w M β) code (AS.ini fn.ntmps (args.map AV.sv ++ [.ptr 1000 0]) [(1000, ⟨T, c0.map AV.sv⟩)] []) (fun e S => (e = .normal ∨ e = .ret) ∧ Res P S fn.results.toList res ∧ S.b 1000 = some ⟨T, c1.map AV.sv⟩)) : BoxC P f args T c0 res c1 := by
  intro M w β vs us hM hbk hc hm hv
  refine calls_of_ok rfl hf hb (ini_box hM hbk hc hm hv hn) (h w M β) ?_
  rintro S' E a w' ⟨hr, hB⟩ hh
  obtain ⟨v, hv, hx⟩ := (ResA.sv hr).run hh
  have hβ : E.β 1000 = β := hh.pin 1000 β rfl
  obtain ⟨_, q1, _, us', q2, q3⟩ := hh.bx 1000 _ hB
  rw [hβ] at q1 q2
  refine ⟨v, hv, v, E.M, us', rfl, hh.m0, fun b o x e => ?_, hh.inW, hx, q2, all_of_sv q3, hh.os, hh.tape, hh.output, hh.grown, fun k hk hne => hh.frame k hk (fun e => hne (by rw [show k = β from e]))⟩
  rcases hh.mnew b o x e with e' | e' | e'
  · exact .inl e'
  · exact .inr e'
  · rw [show b = β from e', q1 o] at e; cases e

/-- A function value with a new box of its own is handed back. -/
def CloC (P : Program) (f : FuncId) (args : List SV) (g : FuncId) (T : TypeId) (cells : List SV) : Prop :=
  ∀ (M : Mem) (w : World) (vs : List Value), M.inW w → SV.All M args vs →
    Calls P f ⟨vs⟩ w fun e w' => ∃ β M' us, e = .returned (.func (.func g) #[] #[.pointer (some ⟨β, 0, none⟩)]) ∧ M.le M' ∧ (∀ b o x, M' b o = some x → M b o = some x ∨ w.heap.size ≤ b) ∧ M'.inW w' ∧
      w.heap.size ≤ β ∧ w'.heap[β]? = some (.cells ⟨us⟩ T (0, 0)) ∧ SV.All M' cells us ∧ (∀ o, M' β o = none) ∧ Below w.heap.size w w'

theorem cloC_of_ok {P : Program} {f : FuncId} {fn : Func} {code : Code} {args : List SV} {g : FuncId} {T : TypeId} {cells : List SV} (hf : P.funcs[f]? = some fn) (hb : fn.body = some code) (hn : args.length ≤ fn.ntmps)
    (h : ∀ (w : World) (M : Mem) (vs : List Value), SV.All M args vs → Ok P (ctx0 w M) code (AS.init fn.ntmps args) (fun e S => (e = .normal ∨ e = .ret) ∧ ∃ k, ResA P S fn.results.toList (.clo g [.box k]) ∧ S.b k = some ⟨T, cells.map AV.sv⟩)) : CloC P f args g T cells := by
  intro M w vs hM hvs
  refine calls_of_ok rfl hf hb (init_holds hM hvs hn) (h w M vs hvs) ?_
  rintro S' E a w' ⟨k, hr, hB⟩ hh
  obtain ⟨v, hv, cs, rfl, hcs⟩ := hr.run hh
  obtain ⟨q1, q2, _, us, q3, q4⟩ := hh.bx k _ hB
  cases cs with
  | nil => exact hcs.elim
  | cons c cs =>
    cases cs with
    | cons _ _ => exact hcs.2.elim
    | nil =>
      obtain rfl : c = .pointer (some ⟨E.β k, 0, none⟩) := hcs.1
      refine ⟨_, hv, E.β k, E.M, us, rfl, hh.m0, fun b o x e => ?_, hh.inW, q1.elim id (fun h => h.elim), q3, all_of_sv q4, q2, hh.os, hh.tape, hh.output, hh.grown, fun k hk => hh.frame k hk (fun h => h)⟩
      rcases hh.mnew b o x e with h | h | h
      · exact .inl h
      · exact .inr h
      · exact h.elim

section steps
variable {P : Program} {C : Ctx} {ops : Array Oper} {S : AS} {nd : Bool} {K : List Ac → AS → Prop} {rest : List Oper} {acc : List Ac}
variable {gd : Option (Nat × Bool)} {rg : List Nat} {d : Nat} {ty : TypeId} {pos : String} {aft : Array Edge} {x y z : Operand} {T U E0 : TypeId}

theorem grown_refl (w : World) (b : Option Nat) : w.grownBy w b := ⟨rfl, rfl, rfl, Nat.le_refl _, fun _ _ _ => rfl⟩

theorem HoldsAt.freeNew {E : Env} {a : Act} {w : World} (h : HoldsAt C S E a w) {g : Nat} {M' : Mem} (hg : w.heap.size ≤ g) (hM : ∀ o, M' g o = none) : Free C S { E with M := M' } g := by
  obtain ⟨h1, _, h3, h4, h5⟩ := h.free hg
  exact ⟨h1, hM, h3, h4, h5⟩

theorem RT.callN (hg : Gd ops S gd rg) {f : FuncId} [Ent P f] {g : Operand} {xs : Array Operand} {at_ : Array TypeId} {args : List SV} {R : Row} (hp : NewC P f args R) (hf : S.ev g = .sv (.v (.func (.func f) #[] #[]))) (hargs : AllSv S xs.toList args) (hd : d < S.n) (hdr : S.r d = .un) (hd1 : d < 1000)
    (next : RunT P C ops nd K rest (⟨rg ++ (okeys g ++ xs.toList.flatMap okeys), [], [d], ⟨some (d, .row d), [], [(d, .live R)]⟩⟩ :: acc) ((AS.setRs [(d, .live R)] S).set d (.row d))) : RunT P C ops nd K (⟨some d, .call ⟨.value g, xs, at_⟩, ty, pos, aft, gd⟩ :: rest) acc S := by
  refine .inl ⟨_, [], [d], _, ?_, next⟩
  rintro S' hn ht _ hr i a w L Q ho ⟨E, h⟩ hL
  refine wpOp_of (C := C) ho (hg.wanted h (fun s hs => ht s (List.mem_append_left _ hs)) rfl) ?_
  have hgf : a.eval g = .func (.func f) #[] ⟨[]⟩ := by
    have h1 := h.ev g; rw [ev_congr (fun _ h => List.mem_append_right _ (List.mem_append_left _ h)) ht, hf] at h1; exact h1
  have hall := AllSv.vals h hargs (fun s hs => ht s (List.mem_append_right _ (List.mem_append_right _ hs)))
  have hdu : S'.r d = .un := by rw [hr d (by simp)]; exact hdr
  refine wpIn_of (C := C) (by intro c h; cases h) (run_call hgf) ?_
  rw [List.append_nil]
  refine ⟨fun h => by simp at h, fr_calls ((hp E.M w _ h.inW hall).mono ?_)⟩
  rintro e w' ⟨v, M', us, rfl, hM, hnew, hin, hv, hc, hfr, hb⟩
  have h1 := (h.grow hM hnew hin hb).newRow' hdu hd1 [] none (.inl ⟨rfl, rfl⟩) (R' := R) hv hc (fun g hg => .inr (h.freeNew (hfr g hg).1 (hfr g hg).2)) (grown_refl w' none)
  refine hL _ _ ⟨_, h1.put (x := .row d) (v := v) (by simp [AV.holds]) (by show d < S'.n; omega) ⟨fun _ e => e.elim, fun j e => ?_⟩⟩
  cases e
  show (AS.setR S' d _).r d ≠ _
  rw [AS.setR_same]; simp

theorem HoldsAt.takenRow {E : Env} {a : Act} {w w' : World} (h : HoldsAt C S E a w) {i d : Nat} {R : Row} (hR : S.r i = .live R) (hd : S.r d = .un) (hd1 : d < 1000) {M' : Mem} {E' : TypeId} {sz n : Nat} {cells : List SV} {us' : List Value} {v : Value} (hpure : ∀ M M' us, SV.All M cells us → SV.All M' cells us) (hall : SV.All M' cells us')
    (hM : E.M.le M') (hn : ∀ b o x, M' b o = some x → E.M b o = some x ∨ w.heap.size ≤ b ∨ (E.ν i).ownBlock = some b) (hin : M'.inW w') (ho : w'.ownsRow 0 E' sz v n us') (hat : ∀ g, v.ownBlock = some g → ((E.ν i).ownBlock = some g ∨ w.heap.size ≤ g) ∧ ∀ o, M' g o = none) (hg : w.grownBy w' (E.ν i).ownBlock) :
    ∃ E2 : Env, E2.ν d = v ∧ HoldsAt C (AS.setRs [(i, .dead), (d, .live ⟨E', sz, n, cells⟩)] S) E2 a w' := by
  obtain ⟨⟨vs, q1, q2⟩, q3⟩ := h.rx i R hR
  cases hb : (E.ν i).ownBlock with
  | none =>
    rw [hb] at hg
    have h1 := h.grow hM (fun b o x e => by
      rcases hn b o x e with e | e | e
      · exact .inl e
      · exact .inr e
      · rw [hb] at e; cases e) hin (below_of_none hg)
    refine ⟨_, by simp, h1.newRow' (v' := v) hd hd1 [(i, .dead)] none (.inr ⟨i, R, rfl, hR, hb.symm⟩) (R' := ⟨E', sz, n, cells⟩) ho (hpure _ _ _ hall) (fun g hg => .inr ?_) (grown_refl w' none)⟩
    obtain ⟨g1, g2⟩ := hat g hg
    exact h.freeNew (g1.elim (fun e => by rw [hb] at e; cases e) id) g2
  | some g0 =>
    rw [hb] at hg
    have hlt := row_lt h hR hb
    let M2 : Mem := fun b o => if b = g0 then none else M' b o
    have m2 : ∀ b o x, M2 b o = some x → b ≠ g0 ∧ M' b o = some x := fun b o x e => by
      by_cases hbg : b = g0
      · simp [M2, hbg] at e
      · exact ⟨hbg, by simpa [M2, hbg] using e⟩
    have hle : E.M.le M2 := fun b o x e => by
      have : b ≠ g0 := by rintro rfl; rw [(q3 _ hb).2.1 o] at e; cases e
      show (if b = g0 then none else M' b o) = some x
      rw [if_neg this]; exact hM b o x e
    have hin2 : M2.inW w' := fun b o x e => hin b o x (m2 b o x e).2
    have hin1 : M2.inW (restore w w' g0) := inW_of_same hin2 fun b ⟨o, v, e⟩ => restore_other (m2 b o v e).1
    have h1 := h.grow hle (fun b o x e => by
      obtain ⟨e1, e2⟩ := m2 b o x e
      rcases hn b o x e2 with e | e | e
      · exact .inl e
      · exact .inr e
      · rw [hb] at e; cases e; exact absurd rfl e1) hin1 (restore_below hg hlt)
    obtain ⟨r1, r2, r3, r4⟩ := restore_rest (w := w) (w' := w') (g := g0)
    refine ⟨_, by simp, h1.newRow' (v' := v) hd hd1 [(i, .dead)] (some g0) (.inr ⟨i, R, rfl, hR, hb.symm⟩) (R' := ⟨E', sz, n, cells⟩) ho (hpure _ _ _ hall) (fun g hg => ?_) ⟨r1.symm, r2.symm, r3.symm, Nat.le_of_eq r4, fun k _ hne => (restore_other (by rintro rfl; exact hne rfl)).symm⟩⟩
    obtain ⟨g1, g2⟩ := hat g hg
    rcases g1 with g1 | g1
    · exact .inl (by rw [hb] at g1; exact g1)
    · exact .inr (h.freeNew g1 (fun o => by show (if g = g0 then none else M' g o) = none; rw [g2 o]; split <;> rfl))

theorem RT.callT (hg : Gd ops S gd rg) {f : FuncId} [Ent P f] {g : Operand} {xs : Array Operand} {at_ : Array TypeId} {args : List AV} {R : Row} {E' : TypeId} {sz n : Nat} {cells : List SV} (hp : TakeC P f args R E' sz n cells) (hpure : ∀ M M' us, SV.All M cells us → SV.All M' cells us) (i : Nat) (hR : S.r i = .live R) (hrow : args.all AV.rowy = true)
    (hf : S.ev g = .sv (.v (.func (.func f) #[] #[]))) (hargs : Args S xs.toList (args.map (AV.ren i))) (hd : d < S.n) (hdr : S.r d = .un) (hd1 : d < 1000)
    (next : RunT P C ops nd K rest (⟨rg ++ (okeys g ++ xs.toList.flatMap okeys), [], [i, d], ⟨some (d, .row d), [], [(i, .dead), (d, .live ⟨E', sz, n, cells⟩)]⟩⟩ :: acc) ((AS.setRs [(i, .dead), (d, .live ⟨E', sz, n, cells⟩)] S).set d (.row d))) : RunT P C ops nd K (⟨some d, .call ⟨.value g, xs, at_⟩, ty, pos, aft, gd⟩ :: rest) acc S := by
  refine .inl ⟨_, [], [i, d], _, ?_, next⟩
  rintro S' hn ht _ hr k a w L Q ho ⟨E, h⟩ hL
  refine wpOp_of (C := C) ho (hg.wanted h (fun s hs => ht s (List.mem_append_left _ hs)) rfl) ?_
  have hgf : a.eval g = .func (.func f) #[] ⟨[]⟩ := by
    have h1 := h.ev g; rw [ev_congr (fun _ h => List.mem_append_right _ (List.mem_append_left _ h)) ht, hf] at h1; exact h1
  have hall := Args.vals h hargs (fun s hs => ht s (List.mem_append_right _ (List.mem_append_right _ hs)))
  have hR' : S'.r i = .live R := by rw [hr i (by simp)]; exact hR
  have hdu : S'.r d = .un := by rw [hr d (by simp)]; exact hdr
  obtain ⟨⟨us, q1, q2⟩, q3⟩ := h.rx i R hR'
  refine wpIn_of (C := C) (by intro c h; cases h) (run_call hgf) ?_
  rw [List.append_nil]
  refine ⟨fun h => by simp at h, fr_calls ((hp E.M w (E.ν i) _ us h.inW q1 q2 (fun g hg => (q3 g hg).2.1) (ren_all hrow hall)).mono ?_)⟩
  rintro e w' ⟨v, M', us', rfl, hM, hnew, hin, ho', hall', hat, hgr⟩
  obtain ⟨E2, hv, h1⟩ := h.takenRow hR' hdu hd1 hpure hall' hM hnew hin ho' hat hgr
  refine hL _ _ ⟨_, h1.put (x := .row d) (v := v) hv.symm (by rw [(setRs_n _ _).1]; omega) ⟨fun _ e => e.elim, fun j e => ?_⟩⟩
  cases e
  rw [setRs_r]
  simp [lastR]

theorem HoldsAt.lentBox {E : Env} {a : Act} {w w' : World} (h : HoldsAt C S E a w) {j : Nat} {B : Box} (hB : S.b j = some B) {M' : Mem} {c1 : List SV} {us : List Value}
    (hM : E.M.le M') (hn : ∀ b o x, M' b o = some x → E.M b o = some x ∨ w.heap.size ≤ b) (hin : M'.inW w') (hb : w'.heap[E.β j]? = some (.cells ⟨us⟩ B.T (0, 0))) (hc : SV.All M' c1 us) (hg : w.grownBy w' (some (E.β j))) :
    HoldsAt C (S.setB j ⟨B.T, c1.map AV.sv⟩) { E with M := M' } a w' := by
  obtain ⟨_, q1, _, vs, q2, _⟩ := h.bx j B hB
  have hlt := box_lt h hB
  have hnone : ∀ o, M' (E.β j) o = none := fun o => by
    cases e : M' (E.β j) o with
    | none => rfl
    | some v =>
      rcases hn _ _ _ e with e' | e'
      · rw [q1 o] at e'; cases e'
      · omega
  have hin1 : M'.inW (restore w w' (E.β j)) := inW_of_same hin fun b ⟨o, v, e⟩ => restore_other (by rintro rfl; rw [hnone o] at e; cases e)
  have h1 := h.grow hM hn hin1 (restore_below hg hlt)
  have h2 := h1.putBox (B := B) hB (cells := c1.map AV.sv) (vs := us) (AllV.of_sv hc) all_sv_live
  have e : putBlk (restore w w' (E.β j)) (E.β j) us B.T = w' := by
    have hlt' := (Array.getElem?_eq_some_iff.1 hb).1
    unfold restore
    rw [q2]
    unfold putBlk
    have : (w'.heap.setIfInBounds (E.β j) (.cells ⟨vs⟩ B.T (0, 0))).setIfInBounds (E.β j) (.cells ⟨us⟩ B.T (0, 0)) = w'.heap := by
      apply Array.ext_getElem?
      intro k
      rw [Array.getElem?_setIfInBounds]
      by_cases hk : E.β j = k
      · subst hk; rw [if_pos rfl, if_pos (by simpa using hlt'), hb]
      · rw [if_neg hk, Array.getElem?_setIfInBounds, if_neg hk]
    simp only [this]
  exact e ▸ h2

theorem RT.callB (hg : Gd ops S gd rg) {f : FuncId} [Ent P f] {g : Operand} {xs : Array Operand} {at_ : Array TypeId} {args : List SV} {T : TypeId} {c0 c1 : List SV} {res : SV} (hp : BoxC P f args T c0 res c1) (j : Nat) (hB : S.b j = some ⟨T, c0.map AV.sv⟩)
    (hf : S.ev g = .clo f [.box j]) (hargs : AllSv S xs.toList args) (hd : d < S.n)
    (next : RunT P C ops nd K rest (⟨rg ++ (okeys g ++ xs.toList.flatMap okeys), [j], [], ⟨some (d, .sv res), [(j, ⟨T, c1.map AV.sv⟩)], []⟩⟩ :: acc) ((AS.setBs [(j, ⟨T, c1.map AV.sv⟩)] S).set d (.sv res))) : RunT P C ops nd K (⟨some d, .call ⟨.value g, xs, at_⟩, ty, pos, aft, gd⟩ :: rest) acc S := by
  refine .inl ⟨_, [j], [], _, ?_, next⟩
  rintro S' hn ht hb _ k a w L Q ho ⟨E, h⟩ hL
  refine wpOp_of (C := C) ho (hg.wanted h (fun s hs => ht s (List.mem_append_left _ hs)) rfl) ?_
  have hgf : a.eval g = .func (.func f) #[] ⟨[.pointer (some ⟨E.β j, 0, none⟩)]⟩ := by
    have h1 := h.ev g; rw [ev_congr (fun _ h => List.mem_append_right _ (List.mem_append_left _ h)) ht, hf] at h1
    obtain ⟨vs, h2, h3⟩ := h1
    cases vs with
    | nil => exact h3.elim
    | cons v vs =>
      cases vs with
      | cons _ _ => exact h3.2.elim
      | nil => rw [h2, show v = _ from h3.1]
  have hall := AllSv.vals h hargs (fun s hs => ht s (List.mem_append_right _ (List.mem_append_right _ hs)))
  have hB' : S'.b j = some ⟨T, c0.map AV.sv⟩ := by rw [hb j (by simp)]; exact hB
  obtain ⟨_, q1, _, us, q2, q3⟩ := h.bx j _ hB'
  refine wpIn_of (C := C) (by intro c h; cases h) (run_call hgf) ?_
  refine ⟨fun h => by simp at h, fr_calls ((hp E.M w (E.β j) _ us h.inW q2 (all_of_sv q3) q1 hall).mono ?_)⟩
  rintro e w' ⟨v, M', us', rfl, hM, hnew, hin, hv, hbk, hc, hgr⟩
  have h1 := h.lentBox hB' hM hnew hin hbk hc hgr
  exact hL _ _ ⟨_, h1.put (x := .sv res) (v := v) hv (by show d < S'.n; omega) nomb⟩

/-- A block that was laid becomes a box. -/
theorem HoldsAt.newBox' {E : Env} {a : Act} {w : World} (h : HoldsAt C S E a w) {i : Nat} (hi : S.b i = none) (hp : C.pin i = none) {g : Nat} (hg : Free C S E g) {cells : List AV} {vs : List Value} (hb : w.heap[g]? = some (.cells ⟨vs⟩ T (0, 0))) (hc : AllV E cells vs) (hl : ∀ x ∈ cells, (∀ j, x.mb j → ∃ B, S.b j = some B) ∧ (∀ j, x.mr j → S.r j ≠ .un)) :
    HoldsAt C (S.setB i ⟨T, cells⟩) { E with β := fun j => if j = i then g else E.β j } a w := by
  obtain ⟨f1, f2, f3, f4, f5⟩ := hg
  have ne : ∀ j, (∃ B, S.b j = some B) → j ≠ i := by rintro j ⟨B, hB⟩ rfl; rw [hi] at hB; cases hB
  have keep : ∀ x : AV, (∀ j, x.mb j → ∃ B, S.b j = some B) → ∀ v, x.holds E v → x.holds { E with β := fun j => if j = i then g else E.β j } v := fun x hx v hv =>
    AV.holds_congr (E := E) (E' := { E with β := fun j => if j = i then g else E.β j }) (Mem.le_refl _) (fun j hj => if_neg (ne j (hx j hj))) (fun _ _ => rfl) hv
  have liveB : ∀ j, (∃ B, S.b j = some B) → ∃ B, (S.setB i ⟨T, cells⟩).b j = some B := fun j hj => by
    obtain ⟨B, hB⟩ := hj
    exact ⟨B, by rw [AS.setB_other _ _ _ _ (ne j ⟨B, hB⟩)]; exact hB⟩
  exact {
    wf := by
      refine ⟨fun s j hj => liveB j (h.wf.tb s j hj), h.wf.tr, fun j B hB x hx k hk => ?_, fun j B hB x hx k hk => ?_⟩
      · by_cases hj : j = i
        · subst hj; rw [AS.setB_same] at hB; cases hB; exact liveB k ((hl x hx).1 k hk)
        · rw [AS.setB_other _ _ _ _ hj] at hB; exact liveB k (h.wf.bb j B hB x hx k hk)
      · by_cases hj : j = i
        · subst hj; rw [AS.setB_same] at hB; cases hB; exact (hl x hx).2 k hk
        · rw [AS.setB_other _ _ _ _ hj] at hB; exact h.wf.br j B hB x hx k hk
    marks := h.marks
    size := h.size
    os := h.os
    tape := h.tape
    output := h.output
    grown := h.grown
    frame := h.frame
    m0 := h.m0
    mnew := h.mnew
    inW := h.inW
    tm := fun s => keep _ (h.wf.tb s) _ (h.tm s)
    bx := fun j B hB => by
      by_cases hj : j = i
      · subst hj
        rw [AS.setB_same] at hB
        cases hB
        simp only [if_true]
        exact ⟨.inl f1, f2, f3, vs, hb, hc.imp fun x hx v hv => keep x (hl x hx).1 v hv⟩
      · rw [AS.setB_other _ _ _ _ hj] at hB
        obtain ⟨h1, h2, h3, vs', h4, h5⟩ := h.bx j B hB
        simp only [if_neg hj]
        exact ⟨h1, h2, h3, vs', h4, h5.imp fun x hx v hv => keep x (h.wf.bb j B hB x hx) v hv⟩
    inj := fun j k B B' hj hk e => by
      by_cases h1 : j = i
      · subst h1
        by_cases h2 : k = j
        · exact h2.symm
        · rw [AS.setB_other _ _ _ _ h2] at hk
          simp only [if_true, if_neg h2] at e
          exact absurd e.symm (f4 k B' hk)
      · rw [AS.setB_other _ _ _ _ h1] at hj
        by_cases h2 : k = i
        · subst h2
          simp only [if_true, if_neg h1] at e
          exact absurd e (f4 j B hj)
        · rw [AS.setB_other _ _ _ _ h2] at hk
          simp only [if_neg h1, if_neg h2] at e
          exact h.inj j k B B' hj hk e
    rx := fun j R hR => by
      obtain ⟨⟨us, h1, h2⟩, h3⟩ := h.rx j R hR
      refine ⟨⟨us, h1, h2⟩, fun g' hg' => ?_⟩
      obtain ⟨h4, h5, h6, h7⟩ := h3 g' hg'
      refine ⟨h4, h5, h6, fun k B hB => ?_⟩
      by_cases hk : k = i
      · subst hk
        simp only [if_true]
        rintro rfl
        exact f5 j R hR hg'
      · rw [AS.setB_other _ _ _ _ hk] at hB
        simp only [if_neg hk]
        exact h7 k B hB
    rinj := h.rinj
    pin := fun j b hj => by
      have hne : j ≠ i := by rintro rfl; rw [hp] at hj; cases hj
      simp only [if_neg hne]; exact h.pin j b hj
    pinr := h.pinr
    olt := h.olt
    jj := h.jj }

theorem RT.callF (hg : Gd ops S gd rg) {f : FuncId} [Ent P f] {g : Operand} {xs : Array Operand} {at_ : Array TypeId} {args : List SV} {fc : FuncId} {T : TypeId} {cells : List SV} (hp : CloC P f args fc T cells) (hf : S.ev g = .sv (.v (.func (.func f) #[] #[]))) (hargs : AllSv S xs.toList args) (hd : d < S.n) (hdb : S.b d = none) (hpin : C.pin d = none)
    (next : RunT P C ops nd K rest (⟨rg ++ (okeys g ++ xs.toList.flatMap okeys), [d], [], ⟨some (d, .clo fc [.box d]), [(d, ⟨T, cells.map AV.sv⟩)], []⟩⟩ :: acc) ((AS.setBs [(d, ⟨T, cells.map AV.sv⟩)] S).set d (.clo fc [.box d]))) : RunT P C ops nd K (⟨some d, .call ⟨.value g, xs, at_⟩, ty, pos, aft, gd⟩ :: rest) acc S := by
  refine .inl ⟨_, [d], [], _, ?_, next⟩
  rintro S' hn ht hb _ i a w L Q ho ⟨E, h⟩ hL
  refine wpOp_of (C := C) ho (hg.wanted h (fun s hs => ht s (List.mem_append_left _ hs)) rfl) ?_
  have hgf : a.eval g = .func (.func f) #[] ⟨[]⟩ := by
    have h1 := h.ev g; rw [ev_congr (fun _ h => List.mem_append_right _ (List.mem_append_left _ h)) ht, hf] at h1; exact h1
  have hall := AllSv.vals h hargs (fun s hs => ht s (List.mem_append_right _ (List.mem_append_right _ hs)))
  have hdn : S'.b d = none := by rw [hb d (by simp)]; exact hdb
  refine wpIn_of (C := C) (by intro c h; cases h) (run_call hgf) ?_
  rw [List.append_nil]
  refine ⟨fun h => by simp at h, fr_calls ((hp E.M w _ h.inW hall).mono ?_)⟩
  rintro e w' ⟨β, M', us, rfl, hM, hnew, hin, hβ, hbk, hc, hno, hbl⟩
  have h1 := (h.grow hM hnew hin hbl).newBox' hdn hpin (h.freeNew hβ hno) hbk (AllV.of_sv hc) all_sv_live
  refine hL _ _ ⟨_, h1.put (x := .clo fc [.box d]) ⟨[_], rfl, by simp [Cap.holds], trivial⟩ (by show d < S'.n; omega) ⟨fun j e => ?_, fun j e => e.elim⟩⟩
  have : j = d := by simpa [AV.mb] using e
  subst this
  exact ⟨_, AS.setB_same _ _ _⟩
end steps
end Go.Fw
